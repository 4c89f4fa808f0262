/- Plain texts, merged: PlDi, PlCh0, PlBo, PlD, PlAt0, PlSeq, PlKer, PlBt. -/
import Derived.Test.YtcfhdpbebiibjaaDoorMg1
/- Plain: whether two machines say the same (g79). -/
set_option linter.unusedVariables false
set_option linter.unusedSimpArgs false
namespace Go.Pv

abbrev ppB : PP → PP → Bool := Ty.beq (.pair (.int .i64) (.pair (.int .i64) .unit))
section
variable {V : Type}
theorem find_some (k : PP) : ∀ mp : List (PP × V), (mapFind ppB k mp).isSome = true ↔ k ∈ mp.map (·.1)
  | [] => by simp [mapFind]
  | (q, v) :: mp => by
    simp only [mapFind, List.map_cons, List.mem_cons]
    by_cases h : k = q
    · subst h; rw [if_pos ((pp_eq k k).2 rfl)]; simp
    · rw [if_neg (fun e => h ((pp_eq k q).1 e)), find_some k mp]; simp [h]
theorem put_new (k : PP) (v : V) : ∀ mp : List (PP × V), k ∉ mp.map (·.1) → mapPut ppB k v mp = mp ++ [(k, v)]
  | [], _ => rfl
  | (q, u) :: mp, h => by
    simp only [List.map_cons, List.mem_cons, not_or] at h
    have : ppB k q = false := by
      cases hq : ppB k q with
      | false => rfl
      | true => exact absurd ((pp_eq k q).1 hq) h.1
    simp only [mapPut, this, Bool.false_eq_true, if_false, put_new k v mp h.2, List.cons_append]
theorem find_old (k : PP) (e : List (PP × V)) : ∀ mp : List (PP × V), k ∈ mp.map (·.1) → mapFind ppB k (mp ++ e) = mapFind ppB k mp
  | [], h => by simp at h
  | (q, u) :: mp, h => by
    simp only [List.cons_append, mapFind]
    by_cases hk : k = q
    · subst hk; rw [if_pos ((pp_eq k k).2 rfl), if_pos ((pp_eq k k).2 rfl)]
    · rw [if_neg (fun e => hk ((pp_eq k q).1 e)), if_neg (fun e => hk ((pp_eq k q).1 e))]
      exact find_old k e mp (by simpa [hk] using h)
theorem find_new (k : PP) (v : V) : ∀ mp : List (PP × V), k ∉ mp.map (·.1) → mapFind ppB k (mp ++ [(k, v)]) = some v
  | [], _ => by simp only [List.nil_append, mapFind]; rw [if_pos ((pp_eq k k).2 rfl)]
  | (q, u) :: mp, h => by
    simp only [List.map_cons, List.mem_cons, not_or] at h
    simp only [List.cons_append, mapFind]
    rw [if_neg (fun e => h.1 ((pp_eq k q).1 e))]
    exact find_new k v mp h.2
end

abbrev dP : PP := (0, 0, ())
def nxP (x y : MM) (p : PP) (r : Nat) : PP := ((dM x p.1.toNat r : Int), (dM y p.2.1.toNat r : Int), ())
structure InP (x y : MM) (p : PP) : Prop where
  s : 0 ≤ p.1 ∧ p.1 < (x.2.1.length : Int)
  t : 0 ≤ p.2.1 ∧ p.2.1 < (y.2.1.length : Int)
theorem in_next {x y : MM} (hx : WM x) (hy : WM y) (hb : y.1 = x.1) {p : PP} (h : InP x y p) {r : Nat} (hr : (r : Int) < x.1) : InP x y (nxP x y p r) := by
  have h1 := hx.at (s := p.1.toNat) (by have := h.s; omega) hr
  have h2 := hy.at (s := p.2.1.toNat) (by have := h.t; omega) (by rw [hb]; exact hr)
  exact ⟨⟨by unfold nxP; simp only; omega, by unfold nxP; simp only; omega⟩, ⟨by unfold nxP; simp only; omega, by unfold nxP; simp only; omega⟩⟩

structure DJ (x y : MM) (mp : List (PP × (PP × Int × Unit))) (D : List PP) (h : Nat) : Prop where
  keys : mp.map (·.1) = D
  nd : D.Nodup
  zero : 1 ≤ D.length ∧ D.getD 0 dP = dP
  rng : ∀ p ∈ D, InP x y p
  par : ∀ i, 0 < i → i < D.length → ∃ j r, j < i ∧ mapFind ppB (D.getD i dP) mp = some (D.getD j dP, r, ())
  sem : Same x y 0 0 → ∀ p ∈ D, Same x y p.1.toNat p.2.1.toNat
  done : ∀ i, i < h → i < D.length → oM x (D.getD i dP).1.toNat = oM y (D.getD i dP).2.1.toNat ∧ ∀ r : Nat, (r : Int) < x.1 → nxP x y (D.getD i dP) r ∈ D

theorem DJ.push {x y : MM} (hx : WM x) (hy : WM y) (hb : y.1 = x.1) {mp : List (PP × (PP × Int × Unit))} {D : List PP} {h : Nat} (J : DJ x y mp D h) (hh : h < D.length) {r : Nat} (hr : (r : Int) < x.1) (hm : nxP x y (D.getD h dP) r ∉ D) :
    DJ x y (mp ++ [(nxP x y (D.getD h dP) r, (D.getD h dP, (r : Int), ()))]) (D ++ [nxP x y (D.getD h dP) r]) h := by
  have gl : ∀ i, i < D.length → (D ++ [nxP x y (D.getD h dP) r]).getD i dP = D.getD i dP := fun i hi => getD_append_left hi
  have hin := J.rng _ (getD_mem hh dP)
  refine ⟨by rw [List.map_append, J.keys]; rfl, ?_, ⟨by simp, by rw [gl 0 (by have := J.zero; omega)]; exact J.zero.2⟩, fun p hp => ?_, fun i h0 hi => ?_, fun hs p hp => ?_, fun i hi hi2 => ?_⟩
  · rw [List.nodup_append]
    refine ⟨J.nd, by simp, fun a ha b hb e => ?_⟩
    simp only [List.mem_cons, List.not_mem_nil, or_false] at hb
    exact hm (hb ▸ e ▸ ha)
  · rcases List.mem_append.1 hp with hp | hp
    · exact J.rng p hp
    · simp only [List.mem_cons, List.not_mem_nil, or_false] at hp
      subst hp; exact in_next hx hy hb hin hr
  · by_cases hl : i < D.length
    · obtain ⟨j, q, h1, h2⟩ := J.par i h0 hl
      refine ⟨j, q, h1, ?_⟩
      rw [gl i hl, gl j (by omega), find_old _ _ _ (by rw [J.keys]; exact getD_mem hl dP), h2]
    · have : i = D.length := by simp at hi; omega
      subst this
      refine ⟨h, (r : Int), hh, ?_⟩
      rw [gl h hh]
      have : (D ++ [nxP x y (D.getD h dP) r]).getD D.length dP = nxP x y (D.getD h dP) r := by
        rw [List.getD_eq_getElem?_getD, List.getElem?_append_right (by omega)]; simp
      rw [this, find_new _ _ _ (by rw [J.keys]; exact hm)]
  · rcases List.mem_append.1 hp with hp | hp
    · exact J.sem hs p hp
    · simp only [List.mem_cons, List.not_mem_nil, or_false] at hp
      subst hp
      have := (J.sem hs _ (getD_mem hh dP)).step hr
      unfold nxP
      simp only [Int.toNat_natCast]
      exact this
  · have hl : i < D.length := by omega
    rw [gl i hl]
    obtain ⟨h1, h2⟩ := J.done i hi hl
    exact ⟨h1, fun q hq => List.mem_append_left _ (h2 q hq)⟩

theorem dif_row {x y : MM} (hx : WM x) (hy : WM y) (hb : y.1 = x.1) (N : Nat) {C : Type} (k0 : Bool → MM → MM → PP → PP → List (PP × (PP × Int × Unit)) → List PP → Option C) (v : Bool) (v8 p : PP) (h : Nat) :
    ∀ (F r : Nat) (mp : List (PP × (PP × Int × Unit))) (D : List PP), x.1.toNat - r < F → (r : Int) ≤ x.1 → DJ x y mp D h → h < D.length → D.getD h dP = p → D.length ≤ 100000 + r → (∀ q : Nat, q < r → nxP x y p q ∈ D) →
      ∃ mp' ext, g79L113758f N F k0 v x.1 (r : Int) x y v8 p mp (D.drop (h + 1)) = k0 v x y v8 p mp' ((D ++ ext).drop (h + 1)) ∧ DJ x y mp' (D ++ ext) h ∧ ∀ q : Nat, (q : Int) < x.1 → nxP x y p q ∈ D ++ ext
  | 0, r, mp, D, hF, _, _, _, _, _, _ => by omega
  | F + 1, r, mp, D, hF, hr, J, hh, hp, hlen, hall => by
    rw [g79L113758f_succ]
    unfold g79L113758B
    have hbx := hx.base
    by_cases hlt : (r : Int) < x.1
    · have hin := J.rng _ (getD_mem hh dP)
      rw [hp] at hin
      have h1 := hx.at (s := p.1.toNat) (by have := hin.s; omega) hlt
      have h2 := hy.at (s := p.2.1.toNat) (by have := hin.t; omega) (by rw [hb]; exact hlt)
      have r1 := hx.row p.1.toNat (by have := hin.s; omega)
      have r2 := hy.row p.2.1.toNat (by have := hin.t; omega)
      have n1 := hx.next; have n2 := hy.next
      have hs := hin.s; have ht := hin.t
      rw [decide_eq_true hlt, cond_true, if_pos (⟨by omega, by omega⟩ : idx _ _), if_pos (⟨by omega, by omega⟩ : idx _ _), if_pos (⟨by omega, by omega⟩ : idx _ _), if_pos (⟨by omega, by omega⟩ : idx _ _)]
      simp only [Int.toNat_natCast]
      rw [h1.1, h2.1]
      rw [show (((dM x p.1.toNat r : Int), (dM y p.2.1.toNat r : Int), ()) : PP) = nxP x y p r from rfl]
      by_cases hm : nxP x y p r ∈ D
      · have : (mapFind ppB (nxP x y p r) mp).isSome = true := (find_some _ _).2 (by rw [J.keys]; exact hm)
        rw [this, Bool.not_true, cond_false, wn r (by omega)]
        exact dif_row hx hy hb N k0 v v8 p h F (r + 1) mp D (by omega) (by omega) J hh hp (by omega) (fun q hq => by
          by_cases hqr : q = r
          · subst hqr; exact hm
          · exact hall q (by omega))
      · have : (mapFind ppB (nxP x y p r) mp).isSome = false := by
          rw [← Bool.not_eq_true, find_some, J.keys]; exact hm
        rw [this, Bool.not_false, cond_true, if_pos (by simp only [List.length_cons, List.length_nil, List.length_drop, maxCount]; omega), wn r (by omega), put_new _ _ _ (by rw [J.keys]; exact hm)]
        have J' := J.push hx hy hb hh hlt (by rw [hp]; exact hm)
        rw [hp] at J'
        have gh : (D ++ [nxP x y p r]).getD h dP = p := by rw [getD_append_left hh]; exact hp
        have ih := dif_row hx hy hb N k0 v v8 p h F (r + 1) _ _ (by omega) (by omega) J' (by simp; omega) gh (by simp; omega) (fun q hq => by
          by_cases hqr : q = r
          · subst hqr; simp
          · exact List.mem_append_left _ (hall q (by omega)))
        obtain ⟨mp', ext, e1, e2, e3⟩ := ih
        refine ⟨mp', nxP x y p r :: ext, ?_, ?_, ?_⟩
        · rw [List.drop_append_of_le_length (by omega)] at e1
          rw [e1]; simp
        · simpa using e2
        · simpa using e3
    · rw [decide_eq_false hlt, cond_false]
      exact ⟨mp, [], by simp, by simpa using J, fun q hq => by simpa using hall q (by omega)⟩

theorem dif_len {x y : MM} {mp : List (PP × (PP × Int × Unit))} {D : List PP} {h : Nat} (J : DJ x y mp D h) : D.length ≤ x.2.1.length * y.2.1.length := by
  refine pigeon_num (P := InP x y) (K := x.2.1.length * y.2.1.length) idK (fun p : PP => p.1 * (y.2.1.length : Int) + p.2.1) (fun t u ht hu he => ?_) (fun p hp => ?_) J.rng (by rw [map_idK]; exact J.nd)
  · have h1 := ht.t; have h2 := hu.t
    obtain ⟨t1, t2, ⟨⟩⟩ := t
    obtain ⟨u1, u2, ⟨⟩⟩ := u
    simp only at he h1 h2
    have e1 : t1 = (t1 * (y.2.1.length : Int) + t2) / (y.2.1.length : Int) := by
      rw [Int.add_comm, Int.add_mul_ediv_right _ _ (by omega), Int.ediv_eq_zero_of_lt (by omega) (by omega)]; omega
    have e2 : u1 = (u1 * (y.2.1.length : Int) + u2) / (y.2.1.length : Int) := by
      rw [Int.add_comm, Int.add_mul_ediv_right _ _ (by omega), Int.ediv_eq_zero_of_lt (by omega) (by omega)]; omega
    have e3 : t1 = u1 := by rw [e1, he]; exact e2.symm
    subst e3
    have : t2 = u2 := by omega
    subst this; rfl
  · have h1 := hp.s; have h2 := hp.t
    have h3 : 0 ≤ p.1 * (y.2.1.length : Int) := Int.mul_nonneg h1.1 (by omega)
    have h4 : p.1 * (y.2.1.length : Int) ≤ ((x.2.1.length : Int) - 1) * (y.2.1.length : Int) := Int.mul_le_mul_of_nonneg_right (by omega) (by omega)
    rw [Int.sub_mul, Int.one_mul] at h4
    show 0 ≤ p.1 * (y.2.1.length : Int) + p.2.1 ∧ p.1 * (y.2.1.length : Int) + p.2.1 < ((x.2.1.length * y.2.1.length : Nat) : Int)
    rw [Int.natCast_mul]
    omega

theorem dif_loop {x y : MM} (hx : WM x) (hy : WM y) (hb : y.1 = x.1) (N : Nat) (hN : 1001 < N) (hK : x.2.1.length * y.2.1.length ≤ 60000) {C : Type} (k0 : Bool → MM → MM → PP → List (PP × (PP × Int × Unit)) → List PP → Option C) (v8 : PP) :
    ∀ (F h : Nat) (mp : List (PP × (PP × Int × Unit))) (D : List PP), x.2.1.length * y.2.1.length - h < F → DJ x y mp D h → h ≤ D.length →
      (∃ mp' q, g79L444f N F k0 false x y v8 mp (D.drop h) = k0 false x y v8 mp' q ∧ Same x y 0 0) ∨
      (∃ mp' D' h' q, g79L444f N F k0 false x y v8 mp (D.drop h) = k0 true x y (D'.getD h' dP) mp' q ∧ h' < D'.length ∧ DJ x y mp' D' h' ∧ ¬ Same x y 0 0)
  | 0, h, mp, D, hF, _, _ => by omega
  | F + 1, h, mp, D, hF, J, hh => by
    rw [g79L444f_succ]
    unfold g79L444B
    have hl := dif_len J
    have hbx := hx.base
    by_cases hlt : h < D.length
    · have hne : 0 < (D.drop h).length := by rw [List.length_drop]; omega
      have e0 : D.drop h = D.getD h dP :: D.drop (h + 1) := dropD D hlt
      have hin := J.rng _ (getD_mem hlt dP)
      have hs := hin.s; have ht := hin.t
      rw [decide_eq_true (show (0 : Int) < ((D.drop h).length : Int) by omega), cond_true, if_pos (⟨by omega, by omega⟩ : idx 0 (D.drop h).length), if_pos (show Int.toNat 0 < (D.drop h).length from hne), if_pos (by omega)]
      rw [show (D.drop h).getD (Int.toNat 0) (0, 0, ()) = D.getD h dP by rw [e0]; rfl, if_pos (⟨by omega, by omega⟩ : idx _ _), if_pos (⟨by omega, by omega⟩ : idx _ _)]
      rw [show List.drop (Int.toNat 1) (List.take (Int.toNat ((D.drop h).length : Int)) (D.drop h)) = D.drop (h + 1) by rw [Int.toNat_natCast, List.take_length, List.drop_drop]; rfl]
      by_cases ho : oM x (D.getD h dP).1.toNat = oM y (D.getD h dP).2.1.toNat
      · have : ieq (x.2.1.getD (D.getD h dP).1.toNat 0) (y.2.1.getD (D.getD h dP).2.1.toNat 0) = true := by
          have h1 : x.2.1.getD (D.getD h dP).1.toNat 0 = y.2.1.getD (D.getD h dP).2.1.toNat 0 := ho
          rw [h1, ieq_self]
        rw [this, Bool.not_true, cond_false, g79L113758_eq]
        have el := fun k => dif_row (C := C) hx hy hb N k false v8 (D.getD h dP) h N 0 mp D (by omega) (by omega) J hlt rfl (by omega) (fun q hq => by omega)
        simp only [Int.natCast_zero] at el
        obtain ⟨mp', ext, e1, e2, e3⟩ := el (fun e1 e2 e3 e4 e5 e6 e7 => g79L444f N F k0 e1 e2 e3 e4 e6 e7)
        refine (show _ = _ from e1) ▸ ?_
        have J2 : DJ x y mp' (D ++ ext) (h + 1) := ⟨e2.keys, e2.nd, e2.zero, e2.rng, e2.par, e2.sem, fun i hi hi2 => by
          by_cases hih : i < h
          · exact e2.done i hih hi2
          · have : i = h := by omega
            subst this
            rw [getD_append_left hlt]
            exact ⟨ho, e3⟩⟩
        exact dif_loop hx hy hb N hN hK k0 v8 F (h + 1) mp' (D ++ ext) (by omega) J2 (by simp; omega)
      · have : ieq (x.2.1.getD (D.getD h dP).1.toNat 0) (y.2.1.getD (D.getD h dP).2.1.toNat 0) = false := by
          have h1 : ¬ x.2.1.getD (D.getD h dP).1.toNat 0 = y.2.1.getD (D.getD h dP).2.1.toNat 0 := ho
          simp only [ieq, decide_eq_false_iff_not]; exact h1
        rw [this, Bool.not_false, cond_true]
        exact .inr ⟨mp, D, h, _, rfl, hlt, J, fun hsame => ho (J.sem hsame _ (getD_mem hlt dP)).out⟩
    · have : h = D.length := by omega
      subst this
      have e0 : D.drop D.length = [] := List.drop_of_length_le (by omega)
      rw [e0, decide_eq_false (show ¬ (0 : Int) < (([] : List PP).length : Int) by simp), cond_false]
      refine .inl ⟨mp, [], rfl, ?_⟩
      have key : ∀ (w : List Nat) (i : Nat), i < D.length → (∀ r ∈ w, (r : Int) < x.1) → beh x (D.getD i dP).1.toNat w = beh y (D.getD i dP).2.1.toNat w := by
        intro w
        induction w with
        | nil => intro i hi _; exact (J.done i hi hi).1
        | cons r w ih =>
          intro i hi hw
          have hr : (r : Int) < x.1 := hw r (by simp)
          have hm := (J.done i hi hi).2 r hr
          obtain ⟨j, hj, he⟩ := List.getElem_of_mem hm
          have := ih j hj (fun q hq => hw q (by simp [hq]))
          rw [getD_of hj, he] at this
          exact this
      intro w hw
      have := key w 0 (by have := J.zero; omega) hw
      rw [J.zero.2] at this
      exact this

theorem back_loop {x y : MM} (N : Nat) {mp : List (PP × (PP × Int × Unit))} {D : List PP} {h : Nat} (J : DJ x y mp D h) {C : Type} (k0 : Int → MM → PP → List (PP × (PP × Int × Unit)) → Option C) (z : MM) :
    ∀ (F i : Nat) (v : Int), i < F → i < D.length → ∃ v' p, g79L7162f N F k0 v z (D.getD i dP) mp = k0 v' z p mp
  | 0, i, v, hF, _ => by omega
  | F + 1, i, v, hF, hi => by
    rw [g79L7162f_succ]
    unfold g79L7162B
    by_cases h0 : D.getD i dP = dP
    · rw [h0, (pp_eq dP (0, 0, ())).2 rfl, Bool.not_true, cond_false]
      exact ⟨v, dP, rfl⟩
    · have : Ty.beq (.pair (.int .i64) (.pair (.int .i64) .unit)) (D.getD i dP) (0, 0, ()) = false := by
        cases hq : Ty.beq (.pair (.int .i64) (.pair (.int .i64) .unit)) (D.getD i dP) (0, 0, ()) with
        | false => rfl
        | true => exact absurd ((pp_eq _ _).1 hq) h0
      rw [this, Bool.not_false, cond_true]
      obtain ⟨j, r, hj, he⟩ := J.par i (by
        rcases Nat.eq_zero_or_pos i with h | h
        · subst h; exact absurd J.zero.2 h0
        · exact h) hi
      rw [show mapFind (Ty.beq (.pair (.int .i64) (.pair (.int .i64) .unit))) (D.getD i dP) mp = some (D.getD j dP, r, ()) from he, Option.getD_some]
      exact back_loop N J k0 z F j _ (by omega) (by omega)

/-- The program's look for a difference. -/
theorem diff_eq {x y : MM} (hx : WM x) (hy : WM y) (hb : y.1 = x.1) (N : Nat) (hN : 1001 < N) (hK : x.2.1.length * y.2.1.length ≤ 60000) (hK2 : x.2.1.length * y.2.1.length < N) :
    ∃ v d, g79 N x y = some (v, d, ()) ∧ (d = false ↔ Same x y 0 0) := by
  have m1 := hx.many; have m2 := hy.many
  have J0 : DJ x y [((0, 0, ()), ((0, 0, ()), 0, ()))] [dP] 0 := ⟨rfl, by simp, ⟨by simp, rfl⟩, fun p hp => by
    simp only [List.mem_cons, List.not_mem_nil, or_false] at hp
    subst hp; exact ⟨⟨by simp only; omega, by simp only; omega⟩, ⟨by simp only; omega, by simp only; omega⟩⟩, fun i h0 hi => by simp at hi; omega, fun hs p hp => by
    simp only [List.mem_cons, List.not_mem_nil, or_false] at hp
    subst hp; exact hs, fun i hi => by omega⟩
  have := dif_loop hx hy hb N hN hK (C := Int × Bool × Unit) (fun e8 e9 e10 e11 e12 e13 => bif (!e8) then some (0, false, ()) else g79L7162 N (fun e14 e15 e16 e17 => some (e14, true, ())) 0 e9 e11 e12) (0, 0, ()) N 0 _ _ (by omega) J0 (by simp)
  rw [List.drop_zero] at this
  rcases this with ⟨mp', q, e, hs⟩ | ⟨mp', D', h', q, e, hh, J, hs⟩
  · refine ⟨0, false, ?_, by simp [hs]⟩
    unfold g79
    rw [g79L444_eq]
    refine Eq.trans e ?_
    rfl
  · have hl := dif_len J
    obtain ⟨v', p, e2⟩ := back_loop N J (fun e14 e15 e16 e17 => some (e14, true, ())) x N h' 0 (by omega) hh
    refine ⟨v', true, ?_, by simp [hs]⟩
    unfold g79
    rw [g79L444_eq]
    refine Eq.trans e ?_
    rw [Bool.not_true, cond_false, g79L7162_eq]
    exact e2

end Go.Pv

/- Plain: the reference's check, and machines that are refused. -/
set_option linter.unusedVariables false
set_option linter.unusedSimpArgs false
namespace Go.Pv

theorem ref_row {x : MM} (N : Nat) (h1 : 2 ≤ x.1 ∧ x.1 ≤ 5) (s : Nat) (hs : s < x.2.2.1.length) (hlen : ((x.2.2.1.getD s []).length : Int) = x.1) (n : Int) {C : Type} (k0 : Bool → Int → Int → MM → Option C) (k1 : Int → Int → MM → Option C) :
    ∀ (F r : Nat), 6 - r < F → (r : Int) ≤ x.1 →
      ((∀ j : Nat, r ≤ j → (j : Int) < x.1 → 0 ≤ (x.2.2.1.getD s []).getD j 0 ∧ (x.2.2.1.getD s []).getD j 0 < n) ∧ g54L31306f N F k0 k1 n (s : Int) (r : Int) x = k1 n (s : Int) x) ∨
      ((∃ j : Nat, (j : Int) < x.1 ∧ ¬ (0 ≤ (x.2.2.1.getD s []).getD j 0 ∧ (x.2.2.1.getD s []).getD j 0 < n)) ∧ g54L31306f N F k0 k1 n (s : Int) (r : Int) x = k0 false n (s : Int) x)
  | 0, r, hF, _ => by omega
  | F + 1, r, hF, hr => by
    rw [g54L31306f_succ]
    unfold g54L31306B
    by_cases hlt : (r : Int) < x.1
    · have e1 : decide ((r : Int) < x.1) = true := by simpa using hlt
      have e2 : idx (s : Int) x.2.2.1.length := ⟨by omega, by omega⟩
      have e3 : idx (r : Int) (x.2.2.1.getD s []).length := ⟨by omega, by omega⟩
      rw [e1, cond_true, if_pos e2, Int.toNat_natCast, if_pos e3, Int.toNat_natCast]
      by_cases ha : (x.2.2.1.getD s []).getD r 0 < 0
      · have e4 : decide ((x.2.2.1.getD s []).getD r 0 < 0) = true := by simpa using ha
        rw [e4, cond_true]
        exact .inr ⟨⟨r, hlt, fun h => by omega⟩, rfl⟩
      · have e4 : decide ((x.2.2.1.getD s []).getD r 0 < 0) = false := by simpa using ha
        rw [e4, cond_false, if_pos e2, if_pos e3]
        by_cases hb : n ≤ (x.2.2.1.getD s []).getD r 0
        · have e5 : decide (n ≤ (x.2.2.1.getD s []).getD r 0) = true := by simpa using hb
          rw [e5, cond_true]
          exact .inr ⟨⟨r, hlt, fun h => by omega⟩, rfl⟩
        · have e5 : decide (n ≤ (x.2.2.1.getD s []).getD r 0) = false := by simpa using hb
          rw [e5, cond_false, wn r (by omega)]
          rcases ref_row N h1 s hs hlen n k0 k1 F (r + 1) (by omega) (by omega) with ⟨q1, q2⟩ | ⟨q1, q2⟩
          · refine .inl ⟨fun j hj hj2 => ?_, q2⟩
            by_cases hjr : j = r
            · subst hjr; omega
            · exact q1 j (by omega) hj2
          · exact .inr ⟨q1, q2⟩
    · have e1 : decide ((r : Int) < x.1) = false := by simpa using hlt
      rw [e1, cond_false]
      exact .inl ⟨fun j h1 h2 => by omega, rfl⟩

structure GoodAll (x : MM) (s : Nat) : Prop where
  out : 0 ≤ x.2.1.getD s 0 ∧ x.2.1.getD s 0 ≤ 9
  good : GoodRow x s

theorem ref_rows {x : MM} (N : Nat) (hN : 30 < N) (h1 : 2 ≤ x.1 ∧ x.1 ≤ 5) (h2 : 1 ≤ x.2.1.length ∧ x.2.1.length ≤ 12) (h3 : x.2.2.1.length = x.2.1.length) {C : Type} (k0 : Bool → MM → Option C) (k1 : MM → Option C) :
    ∀ (F i : Nat), x.2.1.length - i < F → i ≤ x.2.1.length →
      ((∀ j, i ≤ j → j < x.2.1.length → GoodAll x j) ∧ g54L122f N F k0 k1 (x.2.1.length : Int) (i : Int) x = k1 x) ∨
      ((∃ j, j < x.2.1.length ∧ ¬ GoodAll x j) ∧ g54L122f N F k0 k1 (x.2.1.length : Int) (i : Int) x = k0 false x)
  | 0, i, hF, _ => by omega
  | F + 1, i, hF, hi => by
    rw [g54L122f_succ]
    unfold g54L122B
    by_cases hlt : i < x.2.1.length
    · have e1 : decide ((i : Int) < (x.2.1.length : Int)) = true := by simp; omega
      have e2 : idx (i : Int) x.2.2.1.length := ⟨by omega, by rw [h3]; omega⟩
      have e3 : idx (i : Int) x.2.1.length := ⟨by omega, by omega⟩
      rw [e1, cond_true, if_pos e3, Int.toNat_natCast]
      by_cases ha : x.2.1.getD i 0 < 0
      · have e4 : decide (x.2.1.getD i 0 < 0) = true := by simpa using ha
        rw [e4, cond_true]
        exact .inr ⟨⟨i, hlt, fun h => by have := h.out; omega⟩, rfl⟩
      · have e4 : decide (x.2.1.getD i 0 < 0) = false := by simpa using ha
        rw [e4, cond_false, if_pos e3]
        by_cases hb : 9 < x.2.1.getD i 0
        · have e5 : decide (9 < x.2.1.getD i 0) = true := by simpa using hb
          rw [e5, cond_true]
          exact .inr ⟨⟨i, hlt, fun h => by have := h.out; omega⟩, rfl⟩
        · have e5 : decide (9 < x.2.1.getD i 0) = false := by simpa using hb
          rw [e5, cond_false, if_pos e2]
          by_cases hlen : ((x.2.2.1.getD i []).length : Int) = x.1
          · have e6 : ieq (((x.2.2.1.getD i []).length : Nat) : Int) x.1 = true := by simp only [ieq, decide_eq_true_eq]; exact hlen
            rw [e6, Bool.not_true, cond_false, g54L31306_eq]
            rcases ref_row N h1 i (by omega) hlen (x.2.1.length : Int) (fun e1 e2 e3 e4 => (k0 e1 e4)) (fun e5 e6 e7 => if idx e6 (List.length e7.2.2.1) then if idx 0 (List.length (List.getD e7.2.2.1 (Int.toNat e6) ([] : List (Int)))) then if idx (List.getD (List.getD e7.2.2.1 (Int.toNat e6) ([] : List (Int))) (Int.toNat 0) 0) (List.length e7.2.1) then if idx e6 (List.length e7.2.1) then bif (!ieq (List.getD e7.2.1 (Int.toNat (List.getD (List.getD e7.2.2.1 (Int.toNat e6) ([] : List (Int))) (Int.toNat 0) 0)) 0) (List.getD e7.2.1 (Int.toNat e6) 0)) then (k0 false e7) else (g54L122f N F k0 k1 e5 (IntKind.wrap .i64 (e6 + 1)) e7) else none else none else none else none) N 0 (by omega) (by omega) with ⟨q1, q2⟩ | ⟨q1, q2⟩
            · simp only [Int.natCast_zero] at q2
              rw [q2]
              have hpos : 0 < (x.2.2.1.getD i []).length := by omega
              have h0 := q1 0 (by omega) (by omega)
              rw [if_pos e2, Int.toNat_natCast, if_pos ⟨by omega, by omega⟩]
              simp only [show Int.toNat 0 = 0 from rfl]
              rw [if_pos h0, if_pos e3]
              have hrng : ∀ t ∈ x.2.2.1.getD i [], 0 ≤ t ∧ t < (x.2.1.length : Int) := by
                intro t ht
                obtain ⟨j, hj, rfl⟩ := List.getElem_of_mem ht
                have := q1 j (by omega) (by omega)
                have e : (x.2.2.1.getD i []).getD j 0 = (x.2.2.1.getD i [])[j] := by rw [List.getD_eq_getElem?_getD, List.getElem?_eq_getElem hj]; rfl
                rw [e] at this; exact this
              by_cases hz : x.2.1.getD ((x.2.2.1.getD i []).getD 0 0).toNat 0 = x.2.1.getD i 0
              · have e7 : ieq (x.2.1.getD ((x.2.2.1.getD i []).getD 0 0).toNat 0) (x.2.1.getD i 0) = true := by simp only [ieq, decide_eq_true_eq]; exact hz
                rw [e7, Bool.not_true, cond_false, wn i (by omega)]
                rcases ref_rows N hN h1 h2 h3 k0 k1 F (i + 1) (by omega) (by omega) with ⟨p1, p2⟩ | ⟨p1, p2⟩
                · refine .inl ⟨fun j hj hj2 => ?_, p2⟩
                  by_cases hji : j = i
                  · subst hji; exact ⟨by omega, hlen, hrng, hz⟩
                  · exact p1 j (by omega) hj2
                · exact .inr ⟨p1, p2⟩
              · have e7 : ieq (x.2.1.getD ((x.2.2.1.getD i []).getD 0 0).toNat 0) (x.2.1.getD i 0) = false := by simp only [ieq, decide_eq_false_iff_not]; exact hz
                rw [e7, Bool.not_false, cond_true]
                exact .inr ⟨⟨i, hlt, fun h => hz h.good.zero⟩, rfl⟩
            · simp only [Int.natCast_zero] at q2
              rw [q2]
              obtain ⟨j, hj1, hj2⟩ := q1
              exact .inr ⟨⟨i, hlt, fun h => hj2 (h.good.rng _ (getD_mem (by omega) 0))⟩, rfl⟩
          · have e6 : ieq (((x.2.2.1.getD i []).length : Nat) : Int) x.1 = false := by simp only [ieq, decide_eq_false_iff_not]; exact hlen
            rw [e6, Bool.not_false, cond_true]
            exact .inr ⟨⟨i, hlt, fun h => hlen h.good.len⟩, rfl⟩
    · have e1 : decide ((i : Int) < (x.2.1.length : Int)) = false := by simp; omega
      rw [e1, cond_false]
      exact .inl ⟨fun j h1 h2 => by omega, rfl⟩

theorem Tame.ref {x : MM} (h : Tame x) (N : Nat) (hN : 30 < N) : g54 N x = some true := by
  obtain ⟨b1, b2⟩ := h.base
  obtain ⟨m1, m2⟩ := h.many
  unfold g54
  rw [show decide ((x.1 : Int) < 2) = false by simp; omega, cond_false, show decide ((5 : Int) < x.1) = false by simp; omega, cond_false,
    show decide ((((List.length x.2.1 : Nat) : Int) : Int) < 1) = false by simp; omega, cond_false, show decide ((12 : Int) < ((List.length x.2.1 : Nat) : Int)) = false by simp; omega, cond_false,
    show ieq ((List.length x.2.2.1 : Nat) : Int) ((List.length x.2.1 : Nat) : Int) = true by simp [h.next], Bool.not_true, cond_false, g54L122_eq]
  rcases ref_rows N hN h.base h.many h.next (fun e8 e9 => some e8) (fun e10 => some true) N 0 (by omega) (by omega) with ⟨q1, q2⟩ | ⟨⟨j, hj, hb⟩, q2⟩
  · simpa using q2
  · exact absurd ⟨h.out _ (getD_mem hj 0), h.good hj⟩ hb

theorem ref_not {x : MM} (N : Nat) (hN : 30 < N) (h : ¬ Tame x) : g54 N x = some false := by
  unfold g54
  by_cases c1 : x.1 < 2
  · simp [c1]
  by_cases c2 : 5 < x.1
  · simp [c1, c2]
  by_cases c3 : ((List.length x.2.1 : Nat) : Int) < 1
  · simp only [c1, c2, c3, decide_true, decide_false, cond_true, cond_false]
  by_cases c4 : (12 : Int) < ((List.length x.2.1 : Nat) : Int)
  · simp only [c1, c2, c3, c4, decide_true, decide_false, cond_true, cond_false]
  by_cases c5 : x.2.2.1.length = x.2.1.length
  · have e3 : ieq ((List.length x.2.2.1 : Nat) : Int) ((List.length x.2.1 : Nat) : Int) = true := by simp [c5]
    simp only [c1, c2, c3, c4, decide_true, decide_false, cond_true, cond_false, e3, Bool.not_true]
    rw [g54L122_eq]
    have h1 : 2 ≤ x.1 ∧ x.1 ≤ 5 := by omega
    have h2 : 1 ≤ x.2.1.length ∧ x.2.1.length ≤ 12 := by omega
    rcases ref_rows N hN h1 h2 c5 (fun e8 e9 => some e8) (fun e10 => some true) N 0 (by omega) (by omega) with ⟨q1, q2⟩ | ⟨_, q2⟩
    · refine absurd (tame_of h1 h2 c5 (fun o ho => ?_) fun s hs => (q1 s (by omega) hs).good) h
      obtain ⟨j, hj, rfl⟩ := List.getElem_of_mem ho
      have := (q1 j (by omega) hj).out
      have e : x.2.1.getD j 0 = x.2.1[j] := by rw [List.getD_eq_getElem?_getD, List.getElem?_eq_getElem hj]; rfl
      rw [e] at this; exact this
    · simpa using q2
  · have e3 : ieq ((List.length x.2.2.1 : Nat) : Int) ((List.length x.2.1 : Nat) : Int) = false := by simp only [ieq, decide_eq_false_iff_not]; omega
    simp only [c1, c2, c3, c4, decide_true, decide_false, cond_true, cond_false, e3, Bool.not_false]

/-! ### The law -/
theorem open_bad1 (N : Nat) (y z : MM) (hy : g56 (N + 3) y = some 50) : g78 (N + 3) [y, z] = some 50 := by
  unfold g78
  rw [g78L26_eq, g78L26f_succ]
  unfold g78L26B
  have i0 : idx 0 2 := by decide
  have n1 : ieq 50 0 = false := by decide
  simp [hy, i0, n1]
theorem open_bad2 (N : Nat) (y z : MM) (hy : g56 (N + 3) y = some 50) (hz : g56 (N + 3) z = some 0) : g78 (N + 3) [z, y] = some 50 := by
  unfold g78
  rw [g78L26_eq, g78L26f_succ]
  unfold g78L26B
  have e1 : IntKind.wrap .i64 ((0 : Int) + 1) = 1 := by decide
  have e2 : IntKind.wrap .i64 (1 : Int) = 1 := by decide
  have i0 : idx 0 2 := by decide
  have i1 : idx 1 2 := by decide
  have n1 : ieq 50 0 = false := by decide
  have n2 : ieq 0 0 = true := by decide
  simp [hz, e1, e2, i0, i1, n2]
  rw [g78L26f_succ]
  unfold g78L26B
  simp [hy, i1, n1]
  exact i0


end Go.Pv

/- Plain: tables, maps of a machine, and two machines at once. -/
set_option linter.unusedVariables false
set_option linter.unusedSimpArgs false
namespace Go.Pv

/-! ### Tables (g49) -/
structure Row10 (r : List Int) : Prop where
  len : r.length = 10
  rng : ∀ v ∈ r, 0 ≤ v ∧ v ≤ 9
structure Tab (t : List (List Int)) : Prop where
  len : t.length = 10
  row : ∀ r ∈ t, Row10 r

theorem tab_row_loop (N : Nat) {C : Type} (k0 : List Int → Int → List (List Int) → List Int → Option C) (l : List Int) (a : Nat) (ha : a < 10) (o : List (List Int)) :
    ∀ (F b : Nat) (row : List Int), 10 - b < F → b ≤ 10 → row.length = b → (∀ v ∈ row, 0 ≤ v ∧ v ≤ 9) → ∃ row', g49L14922f N F k0 l (a : Int) (b : Int) o row = k0 l (a : Int) o row' ∧ Row10 row'
  | 0, b, row, hF, _, _, _ => by omega
  | F + 1, b, row, hF, hb, hl, hr => by
    rw [g49L14922f_succ]
    unfold g49L14922B
    by_cases hlt : b < 10
    · rw [decide_eq_true (show (b : Int) < 10 by omega), cond_true, wn b (by omega)]
      have next : ∀ v : Int, 0 ≤ v ∧ v ≤ 9 → ∃ row', g49L14922f N F k0 l (a : Int) ((b + 1 : Nat) : Int) o (row ++ [v]) = k0 l (a : Int) o row' ∧ Row10 row' := fun v hv =>
        tab_row_loop N k0 l a ha o F (b + 1) (row ++ [v]) (by omega) (by omega) (by simp [hl]) (fun w hw => by
          rcases List.mem_append.1 hw with hw | hw
          · exact hr w hw
          · simp only [List.mem_cons, List.not_mem_nil, or_false] at hw; subst hw; exact hv)
      by_cases hn : 0 < l.length
      · rw [decide_eq_true (show (0 : Int) < (l.length : Int) by omega), cond_true, if_neg (by omega), w64 (x := 3 * (a : Int)) (by omega) (by omega), w64 (by omega) (by omega)]
        have e : Int.tmod (3 * (a : Int) + (b : Int)) (l.length : Int) = (3 * (a : Int) + (b : Int)) % (l.length : Int) := Int.tmod_eq_emod_of_nonneg (by omega)
        have m1 := Int.emod_nonneg (3 * (a : Int) + (b : Int)) (show (l.length : Int) ≠ 0 by omega)
        have m2 := Int.emod_lt_of_pos (3 * (a : Int) + (b : Int)) (show 0 < (l.length : Int) by omega)
        rw [e, if_pos ⟨m1, m2⟩, if_pos (by simp only [List.length_cons, List.length_nil, maxCount]; omega)]
        obtain ⟨v, ev, v1, v2⟩ := low (x := l.getD ((3 * (a : Int) + (b : Int)) % (l.length : Int)).toNat 0) (m := 10) (by omega) (by omega)
        rw [ev]
        exact next v (by omega)
      · rw [decide_eq_false (show ¬ (0 : Int) < (l.length : Int) by omega), cond_false, if_pos (by simp only [List.length_cons, List.length_nil, maxCount]; omega)]
        exact next (a : Int) (by omega)
    · rw [decide_eq_false (show ¬ (b : Int) < 10 by omega), cond_false]
      exact ⟨row, rfl, by omega, hr⟩
theorem tab_loop (N : Nat) (hN : 20 < N) {C : Type} (k0 : List (List Int) → Option C) (l : List Int) :
    ∀ (F a : Nat) (o : List (List Int)), 10 - a < F → a ≤ 10 → o.length = a → (∀ r ∈ o, Row10 r) → ∃ t, g49L58f N F k0 l (a : Int) o = k0 t ∧ Tab t
  | 0, a, o, hF, _, _, _ => by omega
  | F + 1, a, o, hF, ha, hl, hr => by
    rw [g49L58f_succ]
    unfold g49L58B
    by_cases hlt : a < 10
    · rw [decide_eq_true (show (a : Int) < 10 by omega), cond_true, g49L14922_eq]
      have el := fun k => tab_row_loop (C := C) N k l a hlt o N 0 [] (by omega) (by omega) rfl (by simp)
      simp only [Int.natCast_zero] at el
      obtain ⟨row, e, h⟩ := el (fun e1 e2 e3 e4 => if List.length e3 + List.length [e4] ≤ maxCount then (g49L58f N F k0 e1 (IntKind.wrap .i64 (e2 + 1)) (e3 ++ [e4])) else none)
      refine (show _ = _ from e) ▸ ?_
      rw [if_pos (by simp only [List.length_cons, List.length_nil, maxCount]; omega), wn a (by omega)]
      exact tab_loop N hN k0 l F (a + 1) (o ++ [row]) (by omega) (by omega) (by simp [hl]) (fun r hm => by
        rcases List.mem_append.1 hm with hm | hm
        · exact hr r hm
        · simp only [List.mem_cons, List.not_mem_nil, or_false] at hm; subst hm; exact h)
    · rw [decide_eq_false (show ¬ (a : Int) < 10 by omega), cond_false]
      exact ⟨o, rfl, by omega, hr⟩
theorem table_eq (N : Nat) (hN : 20 < N) (l : List Int) : ∃ t, g49 N l = some t ∧ Tab t := by
  unfold g49
  rw [g49L58_eq]
  have := tab_loop N hN (fun e5 => some e5) l N 0 [] (by omega) (by omega) rfl (by simp)
  simpa using this

/-! ### The outputs that a list tells (g80) -/
theorem row_ok {r : List Int} (h : Row10 r) (N : Nat) (hN : 20 < N) : g80 N r = some true := by
  unfold g80
  rw [h.len, show ieq ((10 : Nat) : Int) 10 = true from rfl, cond_true, are_eq N 0 9 r (by rw [h.len]; omega) (by rw [h.len]; omega), Option.bind_some]
  have : (r.all fun x => decide ((0 : Int) ≤ x) && decide (x ≤ 9)) = true := by
    rw [List.all_eq_true]; intro v hv; have := h.rng v hv; simpa using this
  rw [this]
theorem row_bad {r : List Int} (hl : r.length ≤ 10) (h : ¬ Row10 r) (N : Nat) (hN : 20 < N) : g80 N r = some false := by
  unfold g80
  by_cases hq : r.length = 10
  · rw [hq, show ieq ((10 : Nat) : Int) 10 = true from rfl, cond_true, are_eq N 0 9 r (by omega) (by omega), Option.bind_some]
    have : (r.all fun x => decide ((0 : Int) ≤ x) && decide (x ≤ 9)) = false := by
      rw [Bool.eq_false_iff]
      intro e
      rw [List.all_eq_true] at e
      exact h ⟨hq, fun v hv => by have := e v hv; simpa using this⟩
    rw [this]
  · rw [show ieq (r.length : Int) 10 = false by simp [ieq]; omega, cond_false]

theorem rows_loop' (N : Nat) (hN : 20 < N) {C : Type} (k0 : Int → Option C) (k1 : Option C) (t : List (List Int)) (ht : t.length ≤ 1000) (hr : ∀ r ∈ t, r.length ≤ 10) :
    ∀ (F i : Nat), t.length - i < F → i ≤ t.length →
      ((∀ r ∈ t.drop i, Row10 r) ∧ g99L26f N F k0 k1 t (fun (x2 : List Int × Unit) => Option.bind (g83 N x2.1) fun y3 => some y3) (t.length : Int) (i : Int) = k1) ∨
      ((¬ ∀ r ∈ t.drop i, Row10 r) ∧ ∃ j : Nat, g99L26f N F k0 k1 t (fun (x2 : List Int × Unit) => Option.bind (g83 N x2.1) fun y3 => some y3) (t.length : Int) (i : Int) = k0 (j : Int))
  | 0, i, hF, _ => by omega
  | F + 1, i, hF, hi => by
    rw [g99L26f_succ]
    unfold g99L26B
    by_cases hlt : i < t.length
    · have hm := getD_mem hlt ([] : List Int)
      rw [decide_eq_true (show (i : Int) < (t.length : Int) by omega), cond_true, if_pos (⟨by omega, by omega⟩ : idx _ _), Int.toNat_natCast, wn i (by omega), dropD t hlt (d := [])]
      by_cases h : Row10 (t.getD i [])
      · have e83 : ((fun (x2 : List Int × Unit) => Option.bind (g83 N x2.1) fun y3 => some y3) (t.getD i [], ())) = some false := by
          show Option.bind (g83 N (t.getD i [])) (fun y3 => some y3) = _
          unfold g83
          rw [row_ok h N hN]; rfl
        rw [e83, Option.bind_some, cond_false]
        rcases rows_loop' N hN k0 k1 t ht hr F (i + 1) (by omega) (by omega) with ⟨a, b⟩ | ⟨a, b⟩
        · refine .inl ⟨fun r hr => ?_, b⟩
          rcases List.mem_cons.1 hr with rfl | hr
          · exact h
          · exact a r hr
        · exact .inr ⟨fun q => a fun r hr => q r (by simp [hr]), b⟩
      · have e83 : ((fun (x2 : List Int × Unit) => Option.bind (g83 N x2.1) fun y3 => some y3) (t.getD i [], ())) = some true := by
          show Option.bind (g83 N (t.getD i [])) (fun y3 => some y3) = _
          unfold g83
          rw [row_bad (hr _ hm) h N hN]; rfl
        rw [e83, Option.bind_some, cond_true]
        exact .inr ⟨fun q => h (q _ (by simp)), i, rfl⟩
    · rw [decide_eq_false (show ¬ (i : Int) < (t.length : Int) by omega), cond_false, List.drop_of_length_le (by omega)]
      exact .inl ⟨by simp, rfl⟩
theorem rows_bad (N : Nat) (hN : 1001 < N) (t : List (List Int)) (ht : t.length ≤ 1000) (hr : ∀ r ∈ t, r.length ≤ 10) : ∃ q, g84 N t (fun (x2 : List Int × Unit) => Option.bind (g83 N x2.1) fun y3 => some y3) = some q ∧ (q = false ↔ ∀ r ∈ t, Row10 r) := by
  unfold g84 g99
  rw [g99L26_eq]
  have := rows_loop' N (by omega) (fun e2 : Int => some e2) (some (-1)) t ht hr N 0 (by omega) (by omega)
  simp only [Int.natCast_zero, List.drop_zero] at this
  rcases this with ⟨a, b⟩ | ⟨a, j, b⟩
  · rw [b, Option.bind_some]
    exact ⟨_, rfl, by simpa using a⟩
  · rw [b, Option.bind_some]
    refine ⟨_, rfl, ?_⟩
    rw [decide_eq_true (show (0 : Int) ≤ (j : Int) by omega)]
    constructor
    · intro h; cases h
    · intro h; exact absurd h a

/-! ### Map (g50, g52) -/
def mapM (x : MM) (to : List Int) : MM := (x.1, (List.range x.2.1.length).map fun s => to.getD (oM x s).toNat 0, x.2.2.1, ())
theorem map_o {x : MM} {to : List Int} {s : Nat} (hs : s < x.2.1.length) : oM (mapM x to) s = to.getD (oM x s).toNat 0 := getD_range_map _ hs 0
theorem map_len (x : MM) (to : List Int) : (mapM x to).2.1.length = x.2.1.length := by simp [mapM]
theorem to_rng {to : List Int} (h : Row10 to) {v : Int} (h0 : 0 ≤ v) (h1 : v ≤ 9) : 0 ≤ to.getD v.toNat 0 ∧ to.getD v.toNat 0 ≤ 9 := h.rng _ (getD_mem (by have := h.len; omega) 0)
theorem map_wm {x : MM} (hx : WM x) {to : List Int} (h : Row10 to) : WM (mapM x to) := by
  refine ⟨hx.base, by rw [map_len]; exact hx.many, fun v hv => ?_, by rw [map_len]; exact hx.next, fun s hs => ?_, fun s hs t ht => ?_⟩
  · simp only [mapM, List.mem_map, List.mem_range] at hv
    obtain ⟨s, hs, rfl⟩ := hv
    have := hx.oAt hs
    exact to_rng h this.1 this.2
  · rw [map_len] at hs; exact hx.row s hs
  · rw [map_len] at hs ⊢; exact hx.rng s hs t ht

theorem map_loop (N : Nat) {x : MM} (hx : WM x) (hn : x.2.1.length ≤ 60000) {to : List Int} (h : Row10 to) {C : Type} (k0 : MM → Int → Int → List (List Int) → List Int → List (List Int) → List Int → Option C) (a1 a2 : Int) (a3 : List (List Int)) (a4 : List Int) (a5 : List (List Int)) :
    ∀ (F s : Nat), x.2.1.length - s < F → s ≤ x.2.1.length → g52L58f N F k0 to (s : Int) x a1 a2 a3 a4 a5 ((List.range s).map fun s => to.getD (oM x s).toNat 0) = k0 x a1 a2 a3 a4 a5 ((List.range x.2.1.length).map fun s => to.getD (oM x s).toNat 0)
  | 0, s, hF, _ => by omega
  | F + 1, s, hF, hs => by
    rw [g52L58f_succ]
    unfold g52L58B
    by_cases hlt : s < x.2.1.length
    · have ho := hx.oAt hlt
      have hl := h.len
      rw [decide_eq_true (show (s : Int) < (x.2.1.length : Int) by omega), cond_true, if_pos (⟨by omega, by omega⟩ : idx _ _), Int.toNat_natCast, show x.2.1.getD s 0 = oM x s from rfl, if_pos (⟨by omega, by omega⟩ : idx _ _), if_pos (by simp only [List.length_map, List.length_range, List.length_cons, List.length_nil, maxCount]; omega), wn s (by omega), ← take_range_map (fun s => to.getD (oM x s).toNat 0)]
      exact map_loop N hx hn h k0 a1 a2 a3 a4 a5 F (s + 1) (by omega) (by omega)
    · have : s = x.2.1.length := by omega
      subst this
      rw [decide_eq_false (by omega), cond_false]

theorem map_right {x : MM} (hx : Tame x) {to : List Int} (h : Row10 to) (N : Nat) (hN : 1300 < N) : ∃ r q S, g50 N x to = some (r, q, ()) ∧ g52 N x to = some S ∧ g20 N r q S = some true := by
  have hw := hx.wm
  have hb := hx.base
  have hm := hx.many
  have hl10 := h.len
  obtain ⟨H, l, e, hd, hl⟩ := built_eq N (b := x.1.toNat) (by omega) (by omega) 0 (fun (x3 : Int × Unit) => Option.bind (g81 N x3.1 to x) fun y4 => some y4) (fun (x5 : Int × Int × Unit) => Option.bind (g82 N x5.1 x5.2.1 x) fun y6 => some y6)
    (fun s => to.getD (oM x s.toNat).toNat 0) (fun s r => (dM x s.toNat r : Int)) (fun s => 0 ≤ s ∧ s < (x.2.1.length : Int))
    (fun s hs r hr => by have := hw.nat hs.1 hs.2 (r := r) (by omega); omega) x.2.1.length (fun s hs => hs) (by omega) (by omega)
    (fun s hs => by
      show Option.bind (g81 N s to x) (fun y4 => some y4) = _
      have ho := hw.oAt (s := s.toNat) (by omega)
      unfold g81
      rw [if_pos (⟨by omega, by omega⟩ : idx s x.2.1.length), show x.2.1.getD s.toNat 0 = oM x s.toNat from rfl, if_pos (⟨by omega, by omega⟩ : idx _ _)]; rfl)
    (fun s hs r hr => by
      show Option.bind (g82 N s (r : Int) x) (fun y6 => some y6) = _
      have ha := hw.nat hs.1 hs.2 (r := r) (by omega)
      have hrow := hw.row s.toNat (by omega)
      have hnx := hw.next
      unfold g82
      rw [if_pos (⟨by omega, by omega⟩ : idx _ _), if_pos (⟨by omega, by omega⟩ : idx _ _), Int.toNat_natCast, ha.1]; rfl) ⟨by omega, by omega⟩
  have eb : ((x.1.toNat : Nat) : Int) = x.1 := by omega
  rw [eb] at e
  have hH := hd.wm (by omega) fun t ht => by
    have := hl t ht
    have ho := hw.oAt (s := t.toNat) (by omega)
    exact to_rng h ho.1 ho.2
  have hlen : l.length ≤ x.2.1.length := pigeon _ l (by have := hd.nodup; rw [map_idK] at this; exact this) hl
  have hS : Same H (mapM x to) 0 0 := hd.same Int.toNat fun t ht => by
    have := hl t ht
    exact ⟨by rw [map_o (by omega)], fun r hr => rfl⟩
  have hlen2 : H.2.1.length = l.length := by rw [hd.out, List.length_map]
  have hml := map_len x to
  obtain ⟨r, q, q1, q2, _⟩ := right_eq hH (map_wm hw h) (by rw [hd.base]; exact eb.symm) (by show x.1 ≤ 26; omega) hS N (by omega) (by omega) (by omega) (by omega) (by omega)
  refine ⟨r, q, mapM x to, ?_, ?_, q2⟩
  · unfold g50
    rw [hx.check N (by omega), Option.bind_some, not_ieq_self, cond_false, row_ok h N (by omega), Option.bind_some, Bool.not_true, cond_false, e, Option.bind_some, q1]; rfl
  · unfold g52
    rw [g52L58_eq]
    have := map_loop N hw (by omega) h (fun e1 e2 e3 e4 e5 e6 e7 => some (e3, e7, e4, ())) 0 x.1 x.2.2.1 [] [] N 0 (by omega) (by omega)
    simp only [Int.natCast_zero, List.range_zero, List.map_nil] at this
    rw [this]; rfl
theorem map_bad {x : MM} (hx : Tame x) {to : List Int} (hl : to.length ≤ 10) (h : ¬ Row10 to) (N : Nat) (hN : 1300 < N) : g50 N x to = some (nil0, 1, ()) := by
  unfold g50
  rw [hx.check N (by omega), Option.bind_some, not_ieq_self, cond_false, row_bad hl h N (by omega), Option.bind_some, Bool.not_false, cond_true]

end Go.Pv

/- Seat 05, plain: the reference's numbers of a sequence are the program's. -/
set_option linter.unusedVariables false
set_option linter.unusedSimpArgs false
namespace Go.Pv

theorem ref_at_loop (N : Nat) {C : Type} (k0 : Int → MM → Option C) (b : Int) (x : MM) : ∀ (F : Nat) (n s : Int), g36L28f N F k0 s n b x = (atP x.2.2.1 b F n s).bind fun sf => k0 sf x
  | 0, n, s => rfl
  | F + 1, n, s => by
    rw [g36L28f_succ]
    unfold g36L28B
    simp only [atP]
    by_cases hn : 0 < n
    · rw [if_pos hn, show decide ((0 : Int) < n) = true by simpa using hn, cond_true]
      unfold atStep
      by_cases hb : b = 0
      · simp [hb]
      · by_cases h1 : idx s x.2.2.1.length
        · by_cases h2 : idx (Int.tmod n b) (x.2.2.1.getD s.toNat []).length
          · simp only [if_pos h1, if_neg hb, if_pos h2]
            exact ref_at_loop N k0 b x F _ _
          · simp only [if_pos h1, if_neg hb, if_neg h2]; rfl
        · simp only [if_neg h1, if_neg hb]; rfl
    · rw [if_neg hn, show decide ((0 : Int) < n) = false by simpa using hn, cond_false]; rfl
theorem ref_at (N : Nat) (x : MM) (s n : Int) : g36 N x s n = g70 N x s n := by
  unfold g36 g70
  rw [g36L28_eq, ref_at_loop]


end Go.Pv

/- Plain: numbers of a sequence: First and At. -/
set_option linter.unusedVariables false
set_option linter.unusedSimpArgs false
namespace Go.Pv

/-- Number j of a machine's sequence. -/
def V1 (N : Nat) (x : MM) (j : Int) : Int := (g70 N x 0 j).getD 0
theorem V1_eq {x : MM} (h : Tame x) (N : Nat) (hN : 100 ≤ N) (n : Int) (h0 : 0 ≤ n) (h1 : n < 9223372036854775808) : g70 N x 0 n = some (V1 N x n) := by
  obtain ⟨v, e, _⟩ := at_some h N hN n h0 h1
  simp [V1, e]

theorem first_loop {x : MM} (h : Tame x) (N : Nat) (hN : 100 ≤ N) {C : Type} (k0 : MM → List Int → Option C) (m : Nat) (hm : m ≤ 1000) :
    ∀ (F i : Nat), m - i < F → i ≤ m → g30L250f N F k0 (m : Int) (i : Int) x ((List.range i).map fun j : Nat => V1 N x (j : Int)) = k0 x ((List.range m).map fun j : Nat => V1 N x (j : Int))
  | 0, i, hF, _ => by omega
  | F + 1, i, hF, hi => by
    rw [g30L250f_succ]
    unfold g30L250B
    by_cases hlt : i < m
    · have e1 : decide ((i : Int) < (m : Int)) = true := by simp; omega
      rw [e1, cond_true, V1_eq h N hN (i : Int) (by omega) (by omega)]
      simp only [Option.bind_some]
      rw [if_pos (by simp [maxCount]; omega), wn i (by omega)]
      have : ((List.range i).map fun j : Nat => V1 N x (j : Int)) ++ [V1 N x (i : Int)] = (List.range (i + 1)).map fun j : Nat => V1 N x (j : Int) := by
        rw [List.range_succ]; simp
      rw [this]
      exact first_loop h N hN k0 m hm F (i + 1) (by omega) (by omega)
    · have e1 : decide ((i : Int) < (m : Int)) = false := by simp; omega
      have : i = m := by omega
      rw [e1, cond_false, this]

theorem first_bad {x : MM} (h : Tame x) (N : Nat) (hN : 100 ≤ N) (m : Int) (hm : m < 0 ∨ 1000 < m) : g30 N x m = some ([], 1, ()) := by
  unfold g30
  rw [h.check N (by omega)]
  have e : g57 N 0 1000 [m] = some false := by
    rw [are_eq N _ _ _ (by simp; omega) (by simp)]; simp; omega
  simp [e]
theorem first_eq {x : MM} (h : Tame x) (N : Nat) (hN : 1001 < N) (m : Nat) (hm : m ≤ 1000) : g30 N x (m : Int) = some ((List.range m).map (fun j : Nat => V1 N x (j : Int)), 0, ()) := by
  unfold g30
  rw [h.check N (by omega)]
  have e : g57 N 0 1000 [(m : Int)] = some true := by
    rw [are_eq N _ _ _ (by simp; omega) (by simp)]; simp; omega
  rw [e]
  have := first_loop h N (by omega) (fun e4 e5 => some (e5, (0 : Int), ())) m hm N 0 (by omega) (by omega)
  simp only [Int.natCast_zero, List.range_zero, List.map_nil] at this
  simp [g30L250_eq, this]

theorem at_bad {x : MM} (h : Tame x) (N : Nat) (hN : 100 ≤ N) (n : Int) (hn : n < 0) : g35 N x n = some (0, 1, ()) := by
  unfold g35
  rw [h.check N (by omega)]
  simp [hn]
theorem at_eq {x : MM} (h : Tame x) (N : Nat) (hN : 100 ≤ N) (n : Int) (h0 : 0 ≤ n) (h1 : n < 9223372036854775808) : g35 N x n = some (V1 N x n, 0, ()) := by
  unfold g35
  rw [h.check N (by omega)]
  have : ¬ n < 0 := by omega
  simp [this, V1_eq h N hN n h0 h1]


end Go.Pv

/- Plain: the sequence of a machine, by numbers instead of words. -/
set_option linter.unusedVariables false
set_option linter.unusedSimpArgs false
namespace Go.Pv

def sq (x : MM) (s n : Nat) : Int := if h : n = 0 ∨ x.1.toNat < 2 then oM x s else sq x (dM x s (n % x.1.toNat)) (n / x.1.toNat)
termination_by n
decreasing_by exact Nat.div_lt_self (by omega) (by omega)
theorem sq_zero (x : MM) (s : Nat) : sq x s 0 = oM x s := by rw [sq]; simp
theorem sq_pos {x : MM} (hb : 2 ≤ x.1) (s : Nat) {n : Nat} (h : n ≠ 0) : sq x s n = sq x (dM x s (n % x.1.toNat)) (n / x.1.toNat) := by rw [sq, dif_neg (by omega)]

/-- A zero more ahead of the digits changes nothing. -/
def Zed (x : MM) : Prop := ∀ s, s < x.2.1.length → oM x (dM x s 0) = oM x s
theorem Tame.zed {x : MM} (h : Tame x) : Zed x := fun s hs => h.zero s hs
theorem sq_step {x : MM} (hb : 2 ≤ x.1) (hz : Zed x) {s : Nat} (hs : s < x.2.1.length) (n : Nat) : sq x s n = sq x (dM x s (n % x.1.toNat)) (n / x.1.toNat) := by
  by_cases h : n = 0
  · subst h
    rw [Nat.zero_mod, Nat.zero_div, sq_zero, sq_zero, hz s hs]
  · exact sq_pos hb s h

def val (b : Nat) : List Nat → Nat
  | [] => 0
  | r :: w => r + b * val b w
theorem beh_sq {x : MM} (hx : WM x) (hb : 2 ≤ x.1) (hz : Zed x) : ∀ (w : List Nat) (s : Nat), s < x.2.1.length → (∀ r ∈ w, (r : Int) < x.1) → beh x s w = sq x s (val x.1.toNat w)
  | [], s, hs, _ => by rw [val, sq_zero]; rfl
  | r :: w, s, hs, hw => by
    have hr : (r : Int) < x.1 := hw r (by simp)
    rw [val, sq_step hb hz hs, Nat.add_mul_mod_self_left, Nat.add_mul_div_left _ _ (by omega), Nat.mod_eq_of_lt (by omega), Nat.div_eq_of_lt (by omega), Nat.zero_add]
    exact beh_sq hx hb hz w _ (hx.at hs hr).2 (fun q hq => hw q (by simp [hq]))
/-- Each number has digits. -/
theorem digits (b : Nat) (hb : 2 ≤ b) (n : Nat) : ∃ w : List Nat, (∀ r ∈ w, r < b) ∧ val b w = n := by
  induction n using Nat.strongRecOn with
  | _ n ih =>
    by_cases h : n = 0
    · exact ⟨[], by simp, h.symm⟩
    · obtain ⟨w, h1, h2⟩ := ih (n / b) (Nat.div_lt_self (by omega) hb)
      refine ⟨n % b :: w, fun r hr => ?_, ?_⟩
      · rcases List.mem_cons.1 hr with rfl | hr
        · exact Nat.mod_lt _ (by omega)
        · exact h1 r hr
      · rw [val, h2]; exact Nat.mod_add_div n b

theorem same_sq {x y : MM} (hx : WM x) (hy : WM y) (hb : 2 ≤ x.1) (e : y.1 = x.1) (zx : Zed x) (zy : Zed y) {s t : Nat} (hs : s < x.2.1.length) (ht : t < y.2.1.length) : Same x y s t ↔ ∀ n, sq x s n = sq y t n := by
  constructor
  · intro h n
    obtain ⟨w, h1, h2⟩ := digits x.1.toNat (by omega) n
    have hw : ∀ r ∈ w, (r : Int) < x.1 := fun r hr => by have := h1 r hr; omega
    have := h w hw
    rw [beh_sq hx hb zx w s hs hw, beh_sq hy (by omega) zy w t ht (by rw [e]; exact hw), e, h2] at this
    exact this
  · intro h w hw
    rw [beh_sq hx hb zx w s hs hw, beh_sq hy (by omega) zy w t ht (by rw [e]; exact hw), e, h]

theorem Zed.of {F x : MM} (hF : WM F) (hx : WM x) (e : F.1 = x.1) (hz : Zed x) (h : ∀ i, i < F.2.1.length → ∃ t, t < x.2.1.length ∧ Same F x i t) : Zed F := fun i hi => by
  obtain ⟨t, ht, hs⟩ := h i hi
  have hb := hF.base
  have h1 := hs.out
  have h2 := (hs.step (r := 0) (by omega)).out
  rw [h1, h2, hz t ht]

/-- The numbers that the program and the reference read off. -/
theorem at_sq {x : MM} (h : Tame x) : ∀ (F n s : Nat), n < 2 ^ F → F ≤ 62 → s < x.2.1.length → ∃ t : Nat, t < x.2.1.length ∧ atP x.2.2.1 x.1 (F + 1) (n : Int) (s : Int) = some (t : Int) ∧ oM x t = sq x s n
  | 0, n, s, hn, _, hs => by
    have : n = 0 := by simp at hn; omega
    subst this
    refine ⟨s, hs, ?_, by rw [sq_zero]⟩
    simp only [atP]
    rw [if_neg (by simp)]
  | F + 1, n, s, hn, hF, hs => by
    rw [atP]
    by_cases h0 : n = 0
    · subst h0
      exact ⟨s, hs, by rw [if_neg (by simp)], by rw [sq_zero]⟩
    · rw [if_pos (by omega)]
      obtain ⟨hb1, hb2⟩ := h.base
      have hw := h.wm
      have hb : ((x.1.toNat : Nat) : Int) = x.1 := by omega
      have hlt : n % x.1.toNat < x.1.toNat := Nat.mod_lt _ (by omega)
      have em : Int.tmod (n : Int) x.1 = ((n % x.1.toNat : Nat) : Int) := by rw [Int.tmod_eq_emod_of_nonneg (by omega), Int.natCast_emod, hb]
      have ed : IntKind.wrap .i64 (Int.tdiv (n : Int) x.1) = ((n / x.1.toNat : Nat) : Int) := by
        have hp : 2 ^ (F + 1) ≤ 2 ^ 62 := Nat.pow_le_pow_right (by omega) hF
        have : (2 : Nat) ^ 62 = 4611686018427387904 := by decide
        have hle : n / x.1.toNat ≤ n := Nat.div_le_self _ _
        have e0 : (n : Int) / x.1 = ((n / x.1.toNat : Nat) : Int) := by rw [Int.natCast_ediv, hb]
        rw [Int.tdiv_eq_ediv_of_nonneg (by omega), e0]
        revert hle
        generalize n / x.1.toNat = q
        intro hle
        exact w64 (by omega) (by omega)
      have hat := hw.at hs (r := n % x.1.toNat) (by omega)
      have hrow := hw.row s hs
      have e1 : atStep x.2.2.1 x.1 (n : Int) (s : Int) = some (dM x s (n % x.1.toNat) : Int) := by
        unfold atStep
        rw [if_neg (by omega), if_pos ⟨by omega, by rw [hw.next]; omega⟩, em, Int.toNat_natCast, if_pos ⟨by omega, by omega⟩, Int.toNat_natCast, hat.1]
      rw [e1, ed]
      simp only
      obtain ⟨t, t1, t2, t3⟩ := at_sq h F (n / x.1.toNat) (dM x s (n % x.1.toNat)) (by
        have : n / x.1.toNat ≤ n / 2 := Nat.div_le_div_left (by omega) (by omega)
        rw [Nat.pow_succ] at hn; omega) (by omega) hat.2
      exact ⟨t, t1, t2, by rw [t3, sq_pos hb1 s h0]⟩

theorem g70_sq {x : MM} (h : Tame x) (N : Nat) (hN : 100 ≤ N) (s n : Nat) (hs : s < x.2.1.length) (hn : n < 4611686018427387904) : g70 N x (s : Int) (n : Int) = some (sq x s n) := by
  have h62 : (2 : Nat) ^ 62 = 4611686018427387904 := by decide
  obtain ⟨t, t1, t2, t3⟩ := at_sq h 62 n s (by omega) (by omega) hs
  have e4 := atP_more x.2.2.1 x.1 63 (N - 63) (n : Int) (s : Int) _ t2
  rw [show 63 + (N - 63) = N by omega] at e4
  unfold g70
  rw [e4, Option.bind_some, if_pos ⟨by omega, by omega⟩, Int.toNat_natCast, ← t3]; rfl
theorem g35_sq {x : MM} (h : Tame x) (N : Nat) (hN : 100 ≤ N) (n : Nat) (hn : n < 4611686018427387904) : g35 N x (n : Int) = some (sq x 0 n, 0, ()) := by
  rw [at_eq h N hN (n : Int) (by omega) (by omega)]
  unfold V1
  have := g70_sq h N hN 0 n (by have := h.many; omega) hn
  simp only [Int.natCast_zero] at this
  rw [this]; rfl

theorem Form.tame {F : MM} (h : Form F) (hb : 2 ≤ F.1 ∧ F.1 ≤ 5) (hn : F.2.1.length ≤ 12) (hz : Zed F) : Tame F := by
  have hw := h.toWM
  refine ⟨hb, ⟨hw.many, hn⟩, hw.out, hw.next, fun r hr => ?_, fun s hs => hz s hs⟩
  obtain ⟨i, hi, rfl⟩ := List.getElem_of_mem hr
  have hi' : i < F.2.1.length := by rw [← hw.next]; exact hi
  have e : F.2.2.1.getD i [] = F.2.2.1[i] := getD_of hi []
  exact ⟨by rw [← e]; exact hw.row i hi', fun t ht => hw.rng i hi' t (by rw [e]; exact ht)⟩

end Go.Pv

/- Plain: machines begun at another state; states that are met. -/
set_option linter.unusedVariables false
set_option linter.unusedSimpArgs false
namespace Go.Pv

/-! ### State 0 exchanged with another one (g88, g55) -/
def sw (s t : Nat) : Nat := if t = 0 then s else if t = s then 0 else t
theorem sw_sw (s t : Nat) : sw s (sw s t) = t := by unfold sw; split <;> (try split) <;> (try split) <;> (try split) <;> omega
theorem sw_lt {s t n : Nat} (hs : s < n) (ht : t < n) : sw s t < n := by unfold sw; split <;> (try split) <;> omega
theorem sw_eq (N : Nat) (s t : Nat) : g88 N (t : Int) (s : Int) = some (sw s t : Int) := by
  unfold g88 sw
  by_cases h0 : t = 0
  · subst h0; rw [show ieq (((0 : Nat) : Int)) 0 = true from rfl, cond_true, if_pos rfl]
  · rw [show ieq (t : Int) 0 = false by simp [ieq]; omega, cond_false, if_neg h0]
    by_cases h1 : t = s
    · subst h1; rw [ieq_self, cond_true, if_pos rfl]; rfl
    · rw [show ieq (t : Int) (s : Int) = false by simp [ieq]; omega, cond_false, if_neg h1]

def swM (x : MM) (s : Nat) : MM := tabM x.1.toNat x.2.1.length (fun t => oM x (sw s t)) (fun t r => sw s (dM x (sw s t) r))

theorem begun_row (N : Nat) {x : MM} (hx : WM x) {s u : Nat} (hu : u < x.2.1.length) {C : Type} (k0 : Int → Int → Int → MM → Int → Int → List Int → List Int → List (List Int) → List Int → List (List Int) → Option C) (t : Int) (a1 a2 : Int) (o1 : List Int) (o2 : List (List Int)) (o3 : List Int) (o4 : List (List Int)) :
    ∀ (F r : Nat), x.1.toNat - r < F → (r : Int) ≤ x.1 → g55L29850f N F k0 (s : Int) t (u : Int) (r : Int) x a1 a2 ((List.range r).map fun r => (sw s (dM x u r) : Int)) o1 o2 o3 o4 = k0 (s : Int) t (u : Int) x a1 a2 ((List.range x.1.toNat).map fun r => (sw s (dM x u r) : Int)) o1 o2 o3 o4
  | 0, r, hF, _ => by omega
  | F + 1, r, hF, hr => by
    rw [g55L29850f_succ]
    unfold g55L29850B
    have hb := hx.base
    by_cases hlt : (r : Int) < x.1
    · have hat := hx.at hu hlt
      have hrow := hx.row u hu
      have hn := hx.next
      rw [decide_eq_true hlt, cond_true, if_pos (⟨by omega, by omega⟩ : idx _ _)]
      simp only [Int.toNat_natCast]
      rw [if_pos (⟨by omega, by omega⟩ : idx _ _), hat.1, sw_eq, Option.bind_some, if_pos (by simp only [List.length_map, List.length_range, List.length_cons, List.length_nil, maxCount]; omega), wn r (by omega), ← take_range_map (fun r => (sw s (dM x u r) : Int))]
      exact begun_row N hx hu k0 t a1 a2 o1 o2 o3 o4 F (r + 1) (by omega) (by omega)
    · have : r = x.1.toNat := by omega
      rw [decide_eq_false hlt, cond_false, this]

theorem begun_loop (N : Nat) (hN : 1001 < N) {x : MM} (hx : WM x) (hn : x.2.1.length ≤ 60000) {s : Nat} (hs : s < x.2.1.length) {C : Type} (k0 : MM → Int → Int → List Int → List (List Int) → List Int → List (List Int) → Option C) (a1 a2 : Int) (o1 : List Int) (o2 : List (List Int)) :
    ∀ (F t : Nat), x.2.1.length - t < F → t ≤ x.2.1.length → g55L58f N F k0 (s : Int) (t : Int) x a1 a2 o1 o2 ((List.range t).map fun t => oM x (sw s t)) ((List.range t).map fun t => (List.range x.1.toNat).map fun r => (sw s (dM x (sw s t) r) : Int)) =
      k0 x a1 a2 o1 o2 ((List.range x.2.1.length).map fun t => oM x (sw s t)) ((List.range x.2.1.length).map fun t => (List.range x.1.toNat).map fun r => (sw s (dM x (sw s t) r) : Int))
  | 0, t, hF, _ => by omega
  | F + 1, t, hF, ht => by
    rw [g55L58f_succ]
    unfold g55L58B
    have hb := hx.base
    by_cases hlt : t < x.2.1.length
    · have hsw := sw_lt hs hlt
      rw [decide_eq_true (show (t : Int) < (x.2.1.length : Int) by omega), cond_true, sw_eq, Option.bind_some, g55L29850_eq]
      have el := fun k => begun_row (C := C) N hx hsw k (s := s) (t : Int) a1 a2 o1 o2 ((List.range t).map fun t => oM x (sw s t)) ((List.range t).map fun t => (List.range x.1.toNat).map fun r => (sw s (dM x (sw s t) r) : Int)) N 0 (by omega) (by omega)
      simp only [Int.natCast_zero, List.range_zero, List.map_nil] at el
      rw [el, if_pos (⟨by omega, by omega⟩ : idx _ _), if_pos (by simp only [List.length_map, List.length_range, List.length_cons, List.length_nil, maxCount]; omega), if_pos (by simp only [List.length_map, List.length_range, List.length_cons, List.length_nil, maxCount]; omega), wn t (by omega), Int.toNat_natCast]
      rw [show x.2.1.getD (sw s t) 0 = oM x (sw s t) from rfl, ← take_range_map (fun t => oM x (sw s t)), ← take_range_map (fun t => (List.range x.1.toNat).map fun r => (sw s (dM x (sw s t) r) : Int))]
      exact begun_loop N hN hx hn hs k0 a1 a2 o1 o2 F (t + 1) (by omega) (by omega)
    · have : t = x.2.1.length := by omega
      subst this
      rw [decide_eq_false (by omega), cond_false]

theorem begun_eq (N : Nat) (hN : 1001 < N) {x : MM} (hx : WM x) (hn : x.2.1.length ≤ 60000) (hn2 : x.2.1.length < N) {s : Nat} (hs : s < x.2.1.length) : g55 N x (s : Int) = some (swM x s) := by
  have hb := hx.base
  unfold g55
  rw [g55L58_eq]
  have := begun_loop N hN hx hn hs (fun e14 e15 e16 e17 e18 e19 e20 => some (e16, e19, e20, ())) 0 x.1 [] [] N 0 (by omega) (by omega)
  simp only [Int.natCast_zero, List.range_zero, List.map_nil] at this
  rw [this]
  unfold swM tabM
  rw [show ((x.1.toNat : Nat) : Int) = x.1 by omega]

theorem sw_base {x : MM} (hx : WM x) (s : Nat) : (swM x s).1 = x.1 := by have := hx.base; show ((x.1.toNat : Nat) : Int) = x.1; omega
theorem sw_wm {x : MM} (hx : WM x) {s : Nat} (hs : s < x.2.1.length) : WM (swM x s) := by
  have hb := hx.base
  exact tab_wm (by omega) hx.many (fun t ht => hx.oAt (sw_lt hs ht)) fun t r ht hr => sw_lt hs (hx.at (sw_lt hs ht) (r := r) (by omega)).2
theorem sw_same {x : MM} (hx : WM x) {s : Nat} (hs : s < x.2.1.length) : ∀ t, t < x.2.1.length → Same (swM x s) x t (sw s t) := by
  have hb := hx.base
  have key : ∀ (w : List Nat) (t : Nat), t < x.2.1.length → (∀ r ∈ w, (r : Int) < x.1) → beh (swM x s) t w = beh x (sw s t) w := by
    intro w
    induction w with
    | nil => intro t ht _; exact tab_o ht
    | cons r w ih =>
      intro t ht hw
      have hr : (r : Int) < x.1 := hw r (by simp)
      show beh (swM x s) (dM (swM x s) t r) w = beh x (dM x (sw s t) r) w
      have e : dM (swM x s) t r = sw s (dM x (sw s t) r) := tab_d ht (by omega)
      rw [e, ih _ (sw_lt hs (hx.at (sw_lt hs ht) hr).2) (fun q hq => hw q (by simp [hq])), sw_sw]
  intro t ht w hw
  exact key w t ht (by rw [← sw_base hx s]; exact hw)
theorem sw_len (x : MM) (s : Nat) : (swM x s).2.1.length = x.2.1.length := tab_len _ _ _ _
theorem sw_zed {x : MM} (hx : WM x) (hz : Zed x) {s : Nat} (hs : s < x.2.1.length) : Zed (swM x s) :=
  Zed.of (sw_wm hx hs) hx (sw_base hx s) hz fun t ht => ⟨sw s t, sw_lt hs (by rw [← sw_len x s]; exact ht), sw_same hx hs t (by rw [← sw_len x s]; exact ht)⟩

theorem WM.tame {F : MM} (hw : WM F) (hb : 2 ≤ F.1 ∧ F.1 ≤ 5) (hn : F.2.1.length ≤ 12) (hz : Zed F) : Tame F := by
  refine ⟨hb, ⟨hw.many, hn⟩, hw.out, hw.next, fun r hr => ?_, fun s hs => hz s hs⟩
  obtain ⟨i, hi, rfl⟩ := List.getElem_of_mem hr
  have hi' : i < F.2.1.length := by rw [← hw.next]; exact hi
  have e : F.2.2.1.getD i [] = F.2.2.1[i] := getD_of hi []
  exact ⟨by rw [← e]; exact hw.row i hi', fun t ht => hw.rng i hi' t (by rw [e]; exact ht)⟩
theorem sw_tame {x : MM} (hx : Tame x) {s : Nat} (hs : s < x.2.1.length) : Tame (swM x s) := by
  have hb := hx.base; have hm := hx.many
  exact (sw_wm hx.wm hs).tame (by rw [sw_base hx.wm s]; exact hb) (by rw [sw_len]; omega) (sw_zed hx.wm hx.zed hs)

/-! ### Whether two machines are the same (g47) -/
theorem open_ok (N : Nat) (y z : MM) (hy : g56 (N + 3) y = some 0) (hz : g56 (N + 3) z = some 0) : g78 (N + 3) [y, z] = some 0 := by
  unfold g78
  rw [g78L26_eq]
  show g78L26f (N + 3) (N + 3) (fun e2 => some e2) (some 0) [y, z] 2 0 = some 0
  rw [g78L26f_succ]
  unfold g78L26B
  rw [show decide ((0 : Int) < 2) = true from rfl, cond_true, if_pos (⟨by omega, by simp⟩ : idx 0 _), show [y, z].getD (Int.toNat 0) (0, [], [], ()) = y from rfl, hy, Option.bind_some, not_ieq_self, cond_false, w64 (by omega) (by omega)]
  show g78L26f (N + 3) (N + 1 + 1) (fun e2 => some e2) (some 0) [y, z] 2 (0 + 1) = some 0
  rw [g78L26f_succ]
  unfold g78L26B
  rw [show decide ((0 + 1 : Int) < 2) = true from rfl, cond_true, if_pos (⟨by omega, by simp⟩ : idx (0 + 1) _), show [y, z].getD (Int.toNat (0 + 1)) (0, [], [], ()) = z from rfl, hz, Option.bind_some, not_ieq_self, cond_false, w64 (by omega) (by omega)]
  show g78L26f (N + 3) (N + 1) (fun e2 => some e2) (some 0) [y, z] 2 (0 + 1 + 1) = some 0
  rw [g78L26f_succ]
  unfold g78L26B
  rw [show decide ((0 + 1 + 1 : Int) < 2) = false from rfl, cond_false]

theorem same_eq {x y : MM} (hx : Tame x) (hy : Tame y) (hb : y.1 = x.1) (N : Nat) (hN : 1300 < N) : ∃ v d, g47 N x y = some (v, !d, 0, ()) ∧ (d = false ↔ Same x y 0 0) := by
  have m1 := hx.many; have m2 := hy.many
  obtain ⟨F, e1, _, b1, f1, s1, l1, _⟩ := forms_one hx.wm (by omega) N (by omega) (by omega)
  obtain ⟨G, e2, _, b2, f2, s2, l2, _⟩ := forms_one hy.wm (by omega) N (by omega) (by omega)
  have hK : F.2.1.length * G.2.1.length ≤ 12 * 12 := Nat.mul_le_mul (by omega) (by omega)
  obtain ⟨v, d, e3, h3⟩ := diff_eq f1.toWM f2.toWM (by rw [b1, b2, hb]) N (by omega) (by omega) (by omega)
  refine ⟨v, d, ?_, h3.trans ⟨fun h => ?_, fun h => ?_⟩⟩
  · obtain ⟨M, rfl⟩ : ∃ M, N = M + 3 := ⟨N - 3, by omega⟩
    unfold g47
    rw [open_ok M x y (hx.check _ (by omega)) (hy.check _ (by omega)), Option.bind_some, not_ieq_self, cond_false, hb, not_ieq_self, cond_false, e1, Option.bind_some, e2, Option.bind_some, e3]; rfl
  · exact ((s1.symm b1.symm).trans b1 h).trans (by rw [b2, hb]) s2
  · exact (s1.trans b1.symm h).trans (by rw [b1, hb]) (s2.symm b2.symm)

/-! ### States that are met -/
theorem scanRow_new : ∀ (row : List Int) (c c' : Nat), scanRow row c = some c' → c ≤ c' ∧ ∀ j, c ≤ j → j < c' → ∃ k, k < row.length ∧ (row.getD k 0).toNat = j
  | [], c, c', h => by
    simp only [scanRow, Option.some.injEq] at h
    subst h; exact ⟨Nat.le_refl _, fun j h1 h2 => by omega⟩
  | t :: row, c, c', h => by
    unfold scanRow at h
    split at h
    · obtain ⟨h1, h2⟩ := scanRow_new row c c' h
      refine ⟨h1, fun j a b => ?_⟩
      obtain ⟨k, k1, k2⟩ := h2 j a b
      exact ⟨k + 1, by simpa using k1, by simpa using k2⟩
    · split at h
      · rename_i ht
        obtain ⟨h1, h2⟩ := scanRow_new row (c + 1) c' h
        refine ⟨by omega, fun j a b => ?_⟩
        by_cases hj : j = c
        · exact ⟨0, by simp, by simp only [List.getD_cons_zero]; omega⟩
        · obtain ⟨k, k1, k2⟩ := h2 j (by omega) b
          exact ⟨k + 1, by simpa using k1, by simpa using k2⟩
      · cases h
theorem scanRows_new : ∀ (rows : List (List Int)) (s c : Nat), scanRows rows s c = true → ∀ j, c ≤ j → j < s + rows.length → ∃ i k, i < rows.length ∧ s + i < j ∧ k < (rows.getD i []).length ∧ ((rows.getD i []).getD k 0).toNat = j
  | [], s, c, h, j, h1, h2 => by
    simp only [scanRows, decide_eq_true_iff] at h
    simp at h2; omega
  | row :: rows, s, c, h, j, h1, h2 => by
    unfold scanRows at h
    split at h
    · rename_i hsc
      split at h
      · rename_i c' hr
        obtain ⟨a, b⟩ := scanRow_new row c c' hr
        by_cases hj : j < c'
        · obtain ⟨k, k1, k2⟩ := b j h1 hj
          exact ⟨0, k, by simp, by omega, by simpa using k1, by simpa using k2⟩
        · obtain ⟨i, k, i1, i2, i3, i4⟩ := scanRows_new rows (s + 1) c' h j (by omega) (by simp at h2; omega)
          exact ⟨i + 1, k, by simpa using i1, by omega, by simpa using i3, by simpa using i4⟩
      · cases h
    · cases h
theorem Form.met {F : MM} (h : Form F) {j : Nat} (h0 : 0 < j) (hj : j < F.2.1.length) : ∃ i r : Nat, i < j ∧ (r : Int) < F.1 ∧ dM F i r = j := by
  have hw := h.toWM
  obtain ⟨i, k, i1, i2, i3, i4⟩ := scanRows_new F.2.2.1 0 1 h.order j (by omega) (by rw [hw.next]; omega)
  have := hw.row i (by rw [← hw.next]; exact i1)
  exact ⟨i, k, by omega, by omega, i4⟩

end Go.Pv

/- Plain: two machines at once (g51, g53). -/
set_option linter.unusedVariables false
set_option linter.unusedSimpArgs false
namespace Go.Pv

theorem in_inj {x y : MM} : ∀ t u : PP, InP x y t → InP x y u → t.1 * (y.2.1.length : Int) + t.2.1 = u.1 * (y.2.1.length : Int) + u.2.1 → t = u := fun t u ht hu he => by
  have h1 := ht.t; have h2 := hu.t
  obtain ⟨t1, t2, ⟨⟩⟩ := t
  obtain ⟨u1, u2, ⟨⟩⟩ := u
  simp only at he h1 h2
  have e1 : t1 = (t1 * (y.2.1.length : Int) + t2) / (y.2.1.length : Int) := by
    rw [Int.add_comm, Int.add_mul_ediv_right _ _ (by omega), Int.ediv_eq_zero_of_lt (by omega) (by omega)]; omega
  have e2 : u1 = (u1 * (y.2.1.length : Int) + u2) / (y.2.1.length : Int) := by
    rw [Int.add_comm, Int.add_mul_ediv_right _ _ (by omega), Int.ediv_eq_zero_of_lt (by omega) (by omega)]; omega
  have e3 : t1 = u1 := by rw [e1, he]; exact e2.symm
  subst e3
  have : t2 = u2 := by omega
  subst this; rfl
theorem in_bnd {x y : MM} : ∀ p : PP, InP x y p → 0 ≤ p.1 * (y.2.1.length : Int) + p.2.1 ∧ p.1 * (y.2.1.length : Int) + p.2.1 < ((x.2.1.length * y.2.1.length : Nat) : Int) := fun p hp => by
  have h1 := hp.s; have h2 := hp.t
  have h3 : 0 ≤ p.1 * (y.2.1.length : Int) := Int.mul_nonneg h1.1 (by omega)
  have h4 : p.1 * (y.2.1.length : Int) ≤ ((x.2.1.length : Int) - 1) * (y.2.1.length : Int) := Int.mul_le_mul_of_nonneg_right (by omega) (by omega)
  rw [Int.sub_mul, Int.one_mul] at h4
  rw [Int.natCast_mul]
  omega

def boOut (x y : MM) (t : List (List Int)) (p : PP) : Int := (t.getD (oM x p.1.toNat).toNat []).getD (oM y p.2.1.toNat).toNat 0

theorem bo_out {x y : MM} (hx : WM x) (hy : WM y) {t : List (List Int)} (ht : Tab t) {p : PP} (hp : InP x y p) :
    idx p.1 x.2.1.length ∧ idx (x.2.1.getD p.1.toNat 0) t.length ∧ idx p.2.1 y.2.1.length ∧ idx (y.2.1.getD p.2.1.toNat 0) (t.getD (x.2.1.getD p.1.toNat 0).toNat []).length ∧ 0 ≤ boOut x y t p ∧ boOut x y t p ≤ 9 := by
  have h1 := hp.s; have h2 := hp.t
  have o1 := hx.oAt (s := p.1.toNat) (by omega)
  have o2 := hy.oAt (s := p.2.1.toNat) (by omega)
  have hl := ht.len
  have hr := ht.row _ (getD_mem (l := t) (i := (oM x p.1.toNat).toNat) (by omega) [])
  have hl2 := hr.len
  have o1' : 0 ≤ x.2.1.getD p.1.toNat 0 ∧ x.2.1.getD p.1.toNat 0 ≤ 9 := o1
  have o2' : 0 ≤ y.2.1.getD p.2.1.toNat 0 ∧ y.2.1.getD p.2.1.toNat 0 ≤ 9 := o2
  have hl3 : (t.getD (x.2.1.getD p.1.toNat 0).toNat []).length = 10 := hl2
  refine ⟨⟨by omega, by omega⟩, ⟨by omega, by omega⟩, ⟨by omega, by omega⟩, ⟨by omega, by omega⟩, ?_⟩
  exact to_rng hr o2.1 o2.2

theorem bo_next {x y : MM} (hx : WM x) (hy : WM y) (hb : y.1 = x.1) {p : PP} (hp : InP x y p) {r : Nat} (hr : (r : Int) < x.1) :
    idx p.1 x.2.2.1.length ∧ idx (r : Int) (x.2.2.1.getD p.1.toNat []).length ∧ idx p.2.1 y.2.2.1.length ∧ idx (r : Int) (y.2.2.1.getD p.2.1.toNat []).length ∧
      (x.2.2.1.getD p.1.toNat []).getD r 0 = (dM x p.1.toNat r : Int) ∧ (y.2.2.1.getD p.2.1.toNat []).getD r 0 = (dM y p.2.1.toNat r : Int) := by
  have h1 := hp.s; have h2 := hp.t
  have a1 := hx.nat h1.1 h1.2 hr
  have a2 := hy.nat h2.1 h2.2 (r := r) (by omega)
  have r1 := hx.row p.1.toNat (by omega)
  have r2 := hy.row p.2.1.toNat (by omega)
  have n1 := hx.next; have n2 := hy.next
  exact ⟨⟨by omega, by omega⟩, ⟨by omega, by omega⟩, ⟨by omega, by omega⟩, ⟨by omega, by omega⟩, a1.1, a2.1⟩

theorem both_built {x y : MM} (hx : WM x) (hy : WM y) (hb : y.1 = x.1) {t : List (List Int)} (ht : Tab t) (N : Nat) (hN : 1001 < N) (hK : x.2.1.length * y.2.1.length ≤ 1000) :
    ∃ H l, g85 N x.1 (0, 0, ()) (fun (x5 : PP × Unit) => Option.bind (g86 N x5.1 t x y) fun y6 => some y6) (fun (x7 : PP × Int × Unit) => Option.bind (g87 N x7.1 x7.2.1 x y) fun y8 => some y8) = some H ∧
      (∀ p ∈ l, InP x y p) ∧ WM H ∧ H.1 = x.1 ∧ H.2.1.length ≤ 1000 ∧ bfs (0, 0, ()) idK (boOut x y t) (nxP x y) x.1.toNat N 0 [(0, 0, ())] [] [] = some (l, H.2.1, H.2.2.1) := by
  have hbx := hx.base
  have m1 := hx.many; have m2 := hy.many
  have eb : ((x.1.toNat : Nat) : Int) = x.1 := by omega
  obtain ⟨H, l, e, hd, hl, hlen, hbf⟩ := built_eq85 N (b := x.1.toNat) (by omega) hN (0, 0, ()) (fun (x5 : PP × Unit) => Option.bind (g86 N x5.1 t x y) fun y6 => some y6) (fun (x7 : PP × Int × Unit) => Option.bind (g87 N x7.1 x7.2.1 x y) fun y8 => some y8)
    (boOut x y t) (nxP x y) (InP x y) (fun p hp r hr => in_next hx hy hb hp (by omega)) (x.2.1.length * y.2.1.length) (fun p => p.1 * (y.2.1.length : Int) + p.2.1) in_bnd in_inj (by omega) (by omega)
    (fun p hp => by
      show Option.bind (g86 N p t x y) (fun y6 => some y6) = _
      obtain ⟨i1, i2, i3, i4, _⟩ := bo_out hx hy ht hp
      unfold g86
      rw [if_pos i1, if_pos i2, if_pos i3, if_pos i4]; rfl)
    (fun p hp r hr => by
      show Option.bind (g87 N p (r : Int) x y) (fun y8 => some y8) = _
      obtain ⟨i1, i2, i3, i4, i5, i6⟩ := bo_next hx hy hb hp (r := r) (by omega)
      unfold g87
      rw [if_pos i1, if_pos i2, if_pos i3, if_pos i4]
      simp only [Int.toNat_natCast]
      rw [i5, i6]; rfl) ⟨⟨by simp only; omega, by simp only; omega⟩, ⟨by simp only; omega, by simp only; omega⟩⟩
  rw [eb] at e
  exact ⟨H, l, e, hl, hd.wm (by omega) (fun p hp => (bo_out hx hy ht (hl p hp)).2.2.2.2), by rw [hd.base]; exact eb, by omega, hbf⟩

/-! ### The reference's -/
theorem ref_both_row (N : Nat) {x y : MM} (hx : WM x) (hy : WM y) (hb : y.1 = x.1) {D : Type} (k0 : List (List Int) → Int → Int → Int → MM → MM → Int → Int → List Int → List (List Int) → List (List Int × Int) → List Int → List (List Int) → List Int → List (List Int) → Option D)
    (tb : List (List Int)) (i : Int) (t : PP) (ht : InP x y t) (a1 a2 : Int) (u1 : List Int) (u2 : List (List Int)) (o1 : List Int) (o2 : List (List Int)) :
    ∀ (F r : Nat) (row : List Int) (q : List PP), x.1.toNat - r < F → (r : Int) ≤ x.1 → row.length ≤ r → q.length ≤ 100000 + r →
      g53L128154f N F k0 tb i t.1 t.2.1 (r : Int) x y a1 a2 row (q.map arrP) (mpairs 0 (q.map arrP)) u1 u2 o1 o2 =
        k0 tb i t.1 t.2.1 x y a1 a2 (bfsRow idK (nxP x y) t ((List.range x.1.toNat).drop r) row q).1 ((bfsRow idK (nxP x y) t ((List.range x.1.toNat).drop r) row q).2.map arrP) (mpairs 0 ((bfsRow idK (nxP x y) t ((List.range x.1.toNat).drop r) row q).2.map arrP)) u1 u2 o1 o2
  | 0, r, row, q, hF, _, _, _ => by omega
  | F + 1, r, row, q, hF, hr, h1, h2 => by
    rw [g53L128154f_succ]
    unfold g53L128154B
    have hbx := hx.base
    by_cases hlt : (r : Int) < x.1
    · obtain ⟨i1, i2, i3, i4, i5, i6⟩ := bo_next hx hy hb ht (r := r) hlt
      rw [decide_eq_true hlt, cond_true, if_pos i1, if_pos i2, if_pos i3, if_pos i4]
      simp only [Int.toNat_natCast]
      rw [i5, i6, set_pair, range_drop (by omega)]
      unfold bfsRow
      rw [map_idK]
      rw [show ([(dM x t.1.toNat r : Int), (dM y t.2.1.toNat r : Int)] : List Int) = arrP (nxP x y t r) from rfl]
      unfold g65
      rw [find_mpairs (arr_eq 2)]
      by_cases hm : nxP x y t r ∈ q
      · rw [if_pos ((mem_inj (fun a b => arrP_inj)).2 hm), if_pos hm]
        simp only [Option.isSome_some, Bool.not_true, cond_false, Option.bind_some]
        rw [if_pos (by simp only [List.length_cons, List.length_nil, maxCount]; omega), Option.getD_some, wn r (by omega), Nat.zero_add, posOf_inj_map (fun a b => arrP_inj)]
        exact ref_both_row N hx hy hb k0 tb i t ht a1 a2 u1 u2 o1 o2 F (r + 1) _ q (by omega) (by omega) (by simp; omega) (by omega)
      · rw [if_neg (fun h => hm ((mem_inj (fun a b => arrP_inj)).1 h)), if_neg hm]
        simp only [Option.isSome_none, Bool.not_false, cond_true, Option.bind_some, Bool.not_false]
        rw [if_pos (by simp only [List.length_cons, List.length_nil, List.length_map, maxCount]; omega), if_pos (by simp only [List.length_cons, List.length_nil, maxCount]; omega), wn r (by omega)]
        rw [put_mpairs (arr_eq 2) _ _ _ _ (fun h => hm ((mem_inj (fun a b => arrP_inj)).1 h)), show mpairs 0 (q.map arrP) ++ [(arrP (nxP x y t r), ((q.map arrP).length : Int))] = mpairs 0 ((q ++ [nxP x y t r]).map arrP) by rw [List.map_append, List.map_cons, List.map_nil, mpairs_snoc]; simp]
        rw [show q.map arrP ++ [arrP (nxP x y t r)] = (q ++ [nxP x y t r]).map arrP by simp, List.length_map]
        exact ref_both_row N hx hy hb k0 tb i t ht a1 a2 u1 u2 o1 o2 F (r + 1) _ _ (by omega) (by omega) (by simp; omega) (by simp; omega)
    · rw [decide_eq_false hlt, cond_false, List.drop_of_length_le (by simp; omega)]; rfl

theorem ref_both_loop (N : Nat) (hN : 1001 < N) {x y : MM} (hx : WM x) (hy : WM y) (hb : y.1 = x.1) {tb : List (List Int)} (htb : Tab tb) (hK : x.2.1.length * y.2.1.length ≤ 1000) {D : Type} (k0 : MM → MM → Int → Int → List (List Int) → List (List Int × Int) → List Int → List (List Int) → List Int → List (List Int) → Option D)
    (a1 a2 : Int) (u1 : List Int) (u2 : List (List Int)) :
    ∀ (F i : Nat) (q : List PP) (o1 : List Int) (o2 : List (List Int)) (l : List PP) (outs : List Int) (rows : List (List Int)), bfs (0, 0, ()) idK (boOut x y tb) (nxP x y) x.1.toNat F i q o1 o2 = some (l, outs, rows) → (∀ t ∈ q, InP x y t) → q.Nodup → i ≤ q.length → o1.length = i → o2.length = i →
      g53L250f N F k0 tb (i : Int) x y a1 a2 (q.map arrP) (mpairs 0 (q.map arrP)) u1 u2 o1 o2 = k0 x y a1 a2 (l.map arrP) (mpairs 0 (l.map arrP)) u1 u2 outs rows
  | 0, i, q, o1, o2, l, outs, rows, h, _, _, _, _, _ => by simp [bfs] at h
  | F + 1, i, q, o1, o2, l, outs, rows, h, hq, hn, hi, l1, l2 => by
    rw [g53L250f_succ]
    unfold g53L250B
    unfold bfs at h
    have hbx := hx.base
    have hlen : q.length ≤ x.2.1.length * y.2.1.length := pigeon_num idK (fun p : PP => p.1 * (y.2.1.length : Int) + p.2.1) in_inj in_bnd hq (by rw [map_idK]; exact hn)
    by_cases hlt : i < q.length
    · rw [if_pos hlt] at h
      have e1 : decide ((i : Int) < ((q.map arrP).length : Int)) = true := by rw [decide_eq_true_iff, List.length_map]; omega
      have e2 : idx (i : Int) (q.map arrP).length := ⟨by omega, by rw [List.length_map]; omega⟩
      have e3 : Int.toNat (i : Int) < (q.map arrP).length := by rw [List.length_map]; omega
      have hs := hq _ (getD_mem hlt (0, 0, ()))
      rw [e1, cond_true, if_pos e2, if_pos (⟨by omega, by omega⟩ : idx 0 2), if_pos e3, if_pos e2, if_pos (⟨by omega, by omega⟩ : idx 1 2), if_pos e3, Int.toNat_natCast, g53L128154_eq, arrP_get q hlt]
      revert h hs
      generalize q.getD i (0, 0, ()) = t
      intro h hs
      have el := fun k0 => ref_both_row (D := D) N hx hy hb k0 tb (i : Int) t hs a1 a2 u1 u2 o1 o2 N 0 [] q (by omega) (by omega) (by simp) (by omega)
      simp only [Int.natCast_zero, List.drop_zero] at el
      rw [show (arrP t).getD (Int.toNat 0) 0 = t.1 from rfl, show (arrP t).getD (Int.toNat 1) 0 = t.2.1 from rfl, el]
      obtain ⟨new, ext, e, g1, g2, g3, g4, g5⟩ := bfsRow_spec idK (nxP x y) t (InP x y) (List.range x.1.toNat) [] q (fun r hr => in_next hx hy hb hs (by have := List.mem_range.1 hr; omega)) hq (by rw [map_idK]; exact hn)
      rw [e] at h ⊢
      dsimp only at h ⊢
      rw [List.nil_append] at h ⊢
      obtain ⟨i1, i2, i3, i4, _⟩ := bo_out hx hy htb hs
      rw [if_pos i1, if_pos i2, if_pos i3, if_pos i4, if_pos (by simp only [List.length_cons, List.length_nil, maxCount]; omega), if_pos (by simp only [List.length_cons, List.length_nil, maxCount]; omega), wn i (by omega)]
      exact ref_both_loop N hN hx hy hb htb hK k0 a1 a2 u1 u2 F (i + 1) (q ++ ext) _ _ l outs rows h (fun t ht => by
        rcases List.mem_append.1 ht with ht | ht
        · exact hq t ht
        · exact g3 t ht) (by rw [map_idK] at g4; exact g4) (by simp; omega) (by simp [l1]) (by simp [l2])
    · rw [if_neg hlt] at h
      have e1 : decide ((i : Int) < ((q.map arrP).length : Int)) = false := by rw [decide_eq_false_iff_not, List.length_map]; omega
      rw [e1, cond_false]
      simp only [Option.some.injEq, Prod.mk.injEq] at h
      obtain ⟨rfl, rfl, rfl⟩ := h
      rfl

theorem both_right {x y : MM} (hx : Tame x) (hy : Tame y) (hb : y.1 = x.1) {t : List (List Int)} (ht : Tab t) (N : Nat) (hN : 1300 < N) : ∃ r q S, g51 N x y t = some (r, q, ()) ∧ g53 N x y t = some S ∧ g20 N r q S = some true := by
  have hbx := hx.base
  have m1 := hx.many; have m2 := hy.many
  have hK : x.2.1.length * y.2.1.length ≤ 12 * 12 := Nat.mul_le_mul (by omega) (by omega)
  obtain ⟨H, l, e, hl, hw, h1, hlen, hbf⟩ := both_built hx.wm hy.wm hb ht N (by omega) (by omega)
  obtain ⟨r, q, q1, q2, _⟩ := right_eq hw hw rfl (by omega) (fun w _ => rfl) N (by omega) (by omega) (by omega) (by omega) (by omega)
  refine ⟨r, q, H, ?_, ?_, q2⟩
  · obtain ⟨M, rfl⟩ : ∃ M, N = M + 3 := ⟨N - 3, by omega⟩
    obtain ⟨d, d1, d2⟩ := rows_bad (M + 3) (by omega) t (by have := ht.len; omega) (fun r hr => by have := (ht.row r hr).len; omega)
    have : d = false := d2.2 ht.row
    subst this
    unfold g51
    rw [open_ok M x y (hx.check _ (by omega)) (hy.check _ (by omega)), Option.bind_some, not_ieq_self, cond_false, hb, not_ieq_self, cond_false, ht.len, show (!ieq ((10 : Nat) : Int) 10) = false from rfl, cond_false, d1, Option.bind_some, cond_false, e, Option.bind_some, q1]; rfl
  · have := ref_both_loop N (by omega) hx.wm hy.wm hb ht (by omega) (fun e17 e18 e19 e20 e21 e22 e23 e24 e25 e26 => some (e20, e25, e26, ())) 0 x.1 [] [] N 0 [(0, 0, ())] [] [] l _ _ hbf (by intro p hp; simp only [List.mem_cons, List.not_mem_nil, or_false] at hp; subst hp; exact ⟨⟨by simp only; omega, by simp only; omega⟩, ⟨by simp only; omega, by simp only; omega⟩⟩) (by simp) (by simp) rfl rfl
    unfold g53
    rw [g53L250_eq, set_pair]
    refine Eq.trans this ?_
    obtain ⟨a, b, c, ⟨⟩⟩ := H
    simp only at h1
    rw [h1]

theorem both_bad {x y : MM} (hx : Tame x) (hy : Tame y) {t : List (List Int)} (htl : t.length ≤ 10) (htr : ∀ r ∈ t, r.length ≤ 10) (h : y.1 ≠ x.1 ∨ ¬ Tab t) (N : Nat) (hN : 1300 < N) : g51 N x y t = some (nil0, 1, ()) := by
  obtain ⟨M, rfl⟩ : ∃ M, N = M + 3 := ⟨N - 3, by omega⟩
  unfold g51
  rw [open_ok M x y (hx.check _ (by omega)) (hy.check _ (by omega)), Option.bind_some, not_ieq_self, cond_false]
  by_cases hb : y.1 = x.1
  · rw [hb, not_ieq_self, cond_false]
    by_cases h10 : t.length = 10
    · rw [h10, show (!ieq ((10 : Nat) : Int) 10) = false from rfl, cond_false]
      obtain ⟨d, d1, d2⟩ := rows_bad (M + 3) (by omega) t (by omega) htr
      have : d = true := by
        cases d with
        | true => rfl
        | false => exact absurd ⟨h10, d2.1 rfl⟩ (h.resolve_left (fun e => e hb))
      subst this
      rw [d1, Option.bind_some, cond_true]
    · rw [show (!ieq (t.length : Int) 10) = true by simp [ieq]; omega, cond_true]
  · rw [show (!ieq x.1 y.1) = true by simp [ieq]; exact fun e => hb e.symm, cond_true]

end Go.Pv

