/- Plain texts, merged: QaLa, QaR, QaR2, QaLb, QaLc, QaLd, QaLe, QaR3, QaAw, QaLf, QaKept. -/
import Derived.Test.YtldhdlohhiphjaaMg1
import Derived.Test.YtldhdlohhiphjaaPvL06
/- Seat 06, plain: the program's weights that are kept. -/
set_option linter.unusedVariables false
set_option linter.unusedSimpArgs false
namespace Go.Pv
theorem g92_two {a b : Int} (ha : a.natAbs < 2 ^ 62) (hb : b.natAbs < 2 ^ 62) : g92 2000 [a, b] = some ((Nat.gcd a.natAbs b.natAbs : Nat) : Int) := by
 rw [g92_eq (by simp) (fun x hx => by
   rcases List.mem_cons.1 hx with rfl | hx
   · exact ha
   · obtain rfl := List.mem_singleton.1 hx; exact hb)]
 unfold gcdL gcdL gcdL
 rw [Nat.gcd_zero_left]
structure RW (n : Nat) (t : Stg) (R : Nat → Vec) (W : List (List Int)) : Prop where
 len : W.length = t.P.length
 row : ∀ j, j < t.P.length → (W.getD j []).length = n
 fv : ∀ j, j < t.P.length → fv (W.getD j []) = R j
 piv : ∀ j, j < t.P.length → t.P.getD j 0 < n ∧ R j (t.P.getD j 0) ≠ 0 ∧ ∀ l, l < t.P.getD j 0 → R j l = 0
 bd : ∀ j, j < t.P.length → Bdd 2147483648 (R j)
 nodup : t.P.Nodup
 le : t.P.length ≤ 4
 lt : ∀ p ∈ t.P, p < n
section
variable {n : Nat} {t : Stg} {R : Nat → Vec} {W : List (List Int)} {f : Nat}
theorem RW.get (h : RW n t R W) {j : Nat} (hj : j < t.P.length) (k : Nat) : (W.getD j []).getD k 0 = R j k := by
 rw [← h.fv j hj]; rfl
theorem tdiv_le {a b : Int} (hb : b ≠ 0) {B : Int} (ha : -B ≤ a ∧ a ≤ B) : -B ≤ Int.tdiv a b ∧ Int.tdiv a b ≤ B := by
 have h1 : (Int.tdiv a b).natAbs ≤ a.natAbs := by
   rw [Int.natAbs_tdiv]
   exact Nat.div_le_self _ _
 omega
theorem stepA (h : RW n t R W) (hf : f < n) {j : Nat} (hj : j < t.P.length) {a : Int} (ha0 : a ≠ 0) (ha : -512 ≤ a ∧ a ≤ 512) (ha2 : -512 ≤ lsN t R f a j ∧ lsN t R f a j ≤ 512) (es : List (Int × Int)) (x : PP) (ids : List Nat) (rows : List (Option (List Int))) (n' f' : Int) (es2 : List (Int × Int)) (sn : List Nat) :
   g67M4182842S 2000 (((t.P.getD j 0 : Nat) : Int), (j : Int)) (((), W, es, (), (f : Int), a, n', f', ()), (x, (ids, rows), ())) es2 sn = some ((((), W, es, (), (f : Int), lsN t R f a j, n', f', ()), (x, (ids, rows), ())), es2, sn) := by
 unfold g67M4182842S g67M4182842B
 have hW := h.len
 have hr := h.row j hj
 obtain ⟨p1, p2, p3⟩ := h.piv j hj
 have e62 : (2 : Nat) ^ 62 = 4611686018427387904 := by decide
 have bx := h.bd j hj (t.P.getD j 0)
 have bf := h.bd j hj f
 dsimp only
 rw [if_pos (ix (by omega)), Int.toNat_natCast, if_pos (ix (by omega)), Int.toNat_natCast, h.get hj]
 by_cases hy : R j f = 0
 · rw [hy, ieq_self, Bool.not_true, cond_false]
   unfold lsN
   rw [if_pos hy]
 · have hg0 : 0 < Nat.gcd (R j (t.P.getD j 0)).natAbs (R j f).natAbs := Nat.gcd_pos_of_pos_left _ (by omega)
   have hgi : ((Nat.gcd (R j (t.P.getD j 0)).natAbs (R j f).natAbs : Nat) : Int) ≠ 0 := by omega
   have hsb := tdiv_le hgi bx
   have hsd : IntKind.wrap .i64 (Int.tdiv (R j (t.P.getD j 0)) ((Nat.gcd (R j (t.P.getD j 0)).natAbs (R j f).natAbs : Nat) : Int)) = sd t R f j := w64 (by omega) (by omega)
   have hsd2 : sd t R f j = Int.tdiv (R j (t.P.getD j 0)) ((Nat.gcd (R j (t.P.getD j 0)).natAbs (R j f).natAbs : Nat) : Int) := rfl
   have hg2 : 0 < Nat.gcd a.natAbs (sd t R f j).natAbs := Nat.gcd_pos_of_pos_left _ (by omega)
   have hg2i : ((Nat.gcd a.natAbs (sd t R f j).natAbs : Nat) : Int) ≠ 0 := by omega
   have hab := tdiv_le hg2i ha
   have hl : lsN t R f a j = opx a (sd t R f j) := by unfold lsN; rw [if_neg hy]
   rw [hl] at ha2
   rw [show ieq (R j f) 0 = false from decide_eq_false hy, Bool.not_false, cond_true]
   rw [if_pos (ix (by omega)), if_pos (ix (by omega)), if_pos (ix (by omega)), if_pos (ix (by omega)), if_pos (ix (by omega)), if_pos (ix (by omega))]
   rw [Int.toNat_natCast, h.get hj, g92_two (by omega) (by omega)]
   simp only [Option.bind_some]
   rw [if_neg hgi, hsd, g92_two (by omega) (by omega)]
   simp only [Option.bind_some]
   have e1 : IntKind.wrap .i64 (Int.tdiv a ((Nat.gcd a.natAbs (sd t R f j).natAbs : Nat) : Int)) = Int.tdiv a ((Nat.gcd a.natAbs (sd t R f j).natAbs : Nat) : Int) := w64 (by omega) (by omega)
   have e2 : IntKind.wrap .i64 (Int.tdiv a ((Nat.gcd a.natAbs (sd t R f j).natAbs : Nat) : Int) * sd t R f j) = opx a (sd t R f j) := w64 (x := opx a (sd t R f j)) (by omega) (by omega)
   rw [if_neg hg2i, e1, e2, hl]
theorem stepB (h : RW n t R W) (hf : f < n) {j : Nat} (hj : j < t.P.length) {A : Int} (hA : 0 ≤ A ∧ A ≤ 512) {o : List Int} (ho : o.length = n) (hof : fv o f = A) (es : List (Int × Int)) (x : PP) (ids : List Nat) (rows : List (Option (List Int))) (n' f' : Int) (es2 : List (Int × Int)) (sn : List Nat) :
   g67M33462778S 2000 (((t.P.getD j 0 : Nat) : Int), (j : Int)) (((), W, es, (), (f : Int), (), n', f', ()), (x, (ids, rows), o, ())) es2 sn = some ((((), W, es, (), (f : Int), (), n', f', ()), (x, (ids, rows), o.set (t.P.getD j 0) (Int.tdiv (-(R j f) * A) (R j (t.P.getD j 0))), ())), es2, sn) := by
 unfold g67M33462778S g67M33462778B
 have hW := h.len
 have hr := h.row j hj
 obtain ⟨p1, p2, p3⟩ := h.piv j hj
 have bf := h.bd j hj f
 have hof' : o.getD f 0 = A := hof
 dsimp only
 rw [if_pos (ix (by omega)), Int.toNat_natCast, if_pos (ix (by omega)), if_pos (ix (by omega)), if_pos (tnlt (by omega)), if_pos (ix (by omega)), if_pos (ix (by omega)), Int.toNat_natCast, h.get hj, if_neg p2, if_pos (ix (by omega)), if_pos (by omega), Int.toNat_natCast, h.get hj, hof']
 have m1 := mul_bd (a := 2147483648) (b := 512) (x := -(R j f)) (y := A) (by omega) (by omega) (by omega) (by omega)
 have d1 := tdiv_le (B := 2147483648 * 512) p2 m1
 have e0 : ineg (R j f) = -(R j f) := Int.zero_sub _
 have e1 : IntKind.wrap .i64 (-(R j f)) = -(R j f) := w64 (by omega) (by omega)
 have e2 : IntKind.wrap .i64 (-(R j f) * A) = -(R j f) * A := w64 (by omega) (by omega)
 have e3 : IntKind.wrap .i64 (Int.tdiv (-(R j f) * A) (R j (t.P.getD j 0))) = Int.tdiv (-(R j f) * A) (R j (t.P.getD j 0)) := w64 (by omega) (by omega)
 rw [e0, e1, e2, e3]
def esF (t : Stg) (k : Nat) : List (Int × Int) := (List.range k).map fun j => (((t.P.getD j 0 : Nat) : Int), (j : Int))
theorem esF_get {k i : Nat} {q : Int × Int} (h : (esF t k)[i]? = some q) : i < k ∧ q = (((t.P.getD i 0 : Nat) : Int), (i : Int)) := by
 unfold esF at h
 rw [List.getElem?_map] at h
 rcases Nat.lt_or_ge i k with h1 | h1
 · rw [List.getElem?_range h1] at h
   simp only [Option.map_some, Option.some.injEq] at h
   exact ⟨h1, h.symm⟩
 · rw [List.getElem?_eq_none (by simp; omega)] at h; cases h
theorem esF_len (k : Nat) : (esF t k).length = k := by simp [esF]
def fw (t : Stg) (R : Nat → Vec) (f : Nat) : Int := ((lsF t R f t.P.length).natAbs : Int)
theorem runA (h : RW n t R W) (hf : f < n) {D : Nat} (hD0 : 0 < D) (hD : D ≤ 512) (hd : ∀ j, j < t.P.length → dens t R f j ∣ D) (x : PP) (ids : List Nat) (rows : List (Option (List Int))) (n' f' : Int) :
   mrun (g67M4182842S 2000) (((), W, esF t t.P.length, (), (f : Int), 1, n', f', ()), (x, (ids, rows), ())) (esF t t.P.length) = some (((), W, esF t t.P.length, (), (f : Int), lsF t R f t.P.length, n', f', ()), (x, (ids, rows), ())) := by
 have hall := LS.all (t := t) (R := R) (f := f) t.P.length fun j hj => (h.piv j hj).2.1
 refine mrun_st (fun seen X => ∃ a : Int, X = (((), W, esF t t.P.length, (), (f : Int), a, n', f', ()), (x, (ids, rows), ())) ∧ LS t R f seen a) _ _ ⟨1, rfl, .nil⟩ ?_ ?_
 · intro seen X i q hb hn ⟨a, hX, hL⟩ hq hi
   subst hX
   obtain ⟨hik, rfl⟩ := esF_get hq
   rw [esF_len] at hb
   have hs := hL.snoc (j := i) (h.piv i hik).2.1
   have hle := hL.le hD0 hD fun j hj => hd j (hb j hj)
   have hle2 := hs.le hD0 hD fun j hj => by
     rcases List.mem_append.1 hj with h1 | h1
     · exact hd j (hb j h1)
     · obtain rfl := List.mem_singleton.1 h1; exact hd j hik
   exact ⟨_, stepA h hf hik hL.ne hle hle2 _ x ids rows n' f' _ _, _, rfl, hs⟩
 · intro seen X hb hn hall2 ⟨a, hX, hL⟩
   subst hX
   rw [esF_len] at hb hall2
   have := hL.uniq hall hn List.nodup_range fun j => ⟨fun hj => List.mem_range.2 (hb j hj), fun hj => hall2 j (List.mem_range.1 hj)⟩
   rw [this]
theorem runB (h : RW n t R W) (hf : f < n) (hfP : f ∉ t.P) {A : Int} (hA : 0 ≤ A ∧ A ≤ 512) (x : PP) (ids : List Nat) (rows : List (Option (List Int))) (n' f' : Int) :
   mrun (g67M33462778S 2000) (((), W, esF t t.P.length, (), (f : Int), (), n', f', ()), (x, (ids, rows), (List.replicate n 0).set f A, ())) (esF t t.P.length) = some (((), W, esF t t.P.length, (), (f : Int), (), n', f', ()), (x, (ids, rows), osF t R f n A t.P.length, ())) := by
 have hall := OS.all (n := n) (t := t) (R := R) (f := f) (A := A) hf h.nodup h.lt t.P.length (Nat.le_refl _)
 refine mrun_st (fun seen X => ∃ o : List Int, X = (((), W, esF t t.P.length, (), (f : Int), (), n', f', ()), (x, (ids, rows), o, ())) ∧ OS n t R f A seen o) _ _ ⟨_, rfl, .nil hf⟩ ?_ ?_
 · intro seen X i q hb hn ⟨o, hX, hO⟩ hq hi
   subst hX
   obtain ⟨hik, rfl⟩ := esF_get hq
   rw [esF_len] at hb
   have hof : fv o f = A := by
     rw [hO.rest f fun j hj e => hfP (by rw [← e]; exact getD_mem (hb j hj) 0), if_pos rfl]
   refine ⟨_, stepB h hf hik hA hO.len hof _ x ids rows n' f' _ _, _, rfl, hO.snoc (h.piv i hik).1 fun j hj e => hi ?_⟩
   have := inj_getD (i := j) (j := i) h.nodup (hb j hj) hik e
   rw [← this]; exact hj
 · intro seen X hb hn hall2 ⟨o, hX, hO⟩
   subst hX
   rw [esF_len] at hb hall2
   have := hO.uniq hall fun j => ⟨fun hj => List.mem_range.2 (hb j hj), fun hj => hall2 j (List.mem_range.1 hj)⟩
   rw [this]
def wts (n : Nat) (t : Stg) (R : Nat → Vec) (f : Nat) : List Int := osF t R f n (fw t R f) t.P.length
theorem wts_ok (h : RW n t R W) (hf : f < n) (hfP : f ∉ t.P) : (wts n t R f).length = n ∧ WT n t R f (fv (wts n t R f)) := by
 have hL := LS.all (t := t) (R := R) (f := f) t.P.length fun j hj => (h.piv j hj).2.1
 have hO := OS.all (n := n) (t := t) (R := R) (f := f) (A := fw t R f) hf h.nodup h.lt t.P.length (Nat.le_refl _)
 have hff : fv (wts n t R f) f = fw t R f := by
   unfold wts
   rw [hO.rest f fun j hj e => hfP (by rw [← e]; exact getD_mem (List.mem_range.1 hj) 0), if_pos rfl]
 refine ⟨hO.len, fun k hk hkf => ?_, ?_, fun j hj => ?_, fun m hm => ?_⟩
 · unfold wts
   rw [hO.rest k fun j hj e => hk (by rw [← e]; exact getD_mem (List.mem_range.1 hj) 0), if_neg hkf]
 · rw [hff]
   have := hL.ne
   unfold fw
   omega
 · rw [hff]
   unfold wts
   rw [hO.own j (List.mem_range.2 hj)]
   obtain ⟨p1, p2, p3⟩ := h.piv j hj
   have hdv : R j (t.P.getD j 0) ∣ -(R j f) * fw t R f := by
     by_cases hy : R j f = 0
     · rw [hy]; simp
     · have h1 := hL.dvd j (List.mem_range.2 hj) hy
       rw [← Int.natAbs_dvd_natAbs, Int.natAbs_mul, Int.natAbs_neg]
       unfold fw
       rw [Int.natAbs_natCast]
       unfold dens den at h1
       have hg : 0 < Nat.gcd (R j (t.P.getD j 0)).natAbs (R j f).natAbs := Nat.gcd_pos_of_pos_left _ (by omega)
       have e1 : (R j (t.P.getD j 0)).natAbs = Nat.gcd (R j (t.P.getD j 0)).natAbs (R j f).natAbs * ((R j (t.P.getD j 0)).natAbs / Nat.gcd (R j (t.P.getD j 0)).natAbs (R j f).natAbs) := (Nat.mul_div_cancel' (Nat.gcd_dvd_left _ _)).symm
       rw [e1]
       exact Nat.mul_dvd_mul (Nat.gcd_dvd_right _ _) h1
   exact Int.tdiv_mul_cancel hdv
 · rw [hff]
   unfold fw
   rw [Int.natAbs_natCast]
   exact hL.least m fun j hj hne => hm j (List.mem_range.1 hj) hne
end
end Go.Pv
namespace Go.Pv
theorem nodup_len : ∀ {L M : List (List Int)}, L.Nodup → (∀ d ∈ L, d ∈ M) → L.length ≤ M.length
 | [], M, _, _ => by simp
 | a :: L, M, h, hs => by
   have h1 := List.nodup_cons.1 h
   have ha : a ∈ M := hs a (by simp)
   have ih := nodup_len (L := L) (M := M.erase a) h1.2 (fun d hd => by
     have hne : d ≠ a := fun e => h1.1 (e ▸ hd)
     exact (List.mem_erase_of_ne hne).2 (hs d (by simp [hd])))
   have hl := List.length_erase_of_mem ha
   have hp := List.length_pos_of_mem ha
   simp only [List.length_cons]
   omega
def allC : Nat → Nat → List (List Int)
 | 0, 0 => [[]]
 | 0, _ + 1 => []
 | n + 1, s => (List.range (s + 1)).flatMap fun k => (allC n (s - k)).map fun l => (k : Int) :: l
theorem mem_allC : ∀ (n s : Nat) (l : List Int), l.length = n → (∀ t ∈ l, 0 ≤ t) → l.sum = (s : Int) → l ∈ allC n s
 | 0, 0, [], _, _, _ => by simp [allC]
 | 0, s + 1, [], _, _, h => by simp at h; omega
 | n + 1, s, a :: l, hl, hp, hs => by
   have ha := hp a (by simp)
   have hn := sum_nonneg l (fun t ht => hp t (by simp [ht]))
   simp only [List.sum_cons] at hs
   simp only [allC, List.mem_flatMap, List.mem_range, List.mem_map]
   refine ⟨a.toNat, by omega, l, mem_allC n (s - a.toNat) l (by simpa using hl) (fun t ht => hp t (by simp [ht])) (by omega), by rw [Int.toNat_of_nonneg ha]⟩
def lensB : Bool := [1, 2, 3, 4, 5].all fun n => [0, 1, 2, 3, 4, 5, 6, 7, 8, 9].all fun s => decide ((allC n s).length ≤ 715)
theorem lens_ok : lensB = true := by decide +kernel
theorem allC_len (n s : Nat) (h1 : 1 ≤ n) (h2 : n ≤ 5) (h3 : s ≤ 9) : (allC n s).length ≤ 715 := by
 have h := lens_ok
 unfold lensB at h
 have a := List.all_eq_true.1 h n (by simp; omega)
 have b := List.all_eq_true.1 a s (by simp; omega)
 exact of_decide_eq_true b
def nbr (x : PP) (c : List Int) : List (List Int) := (x.2.2.2.1.filter fun r => canR r c).map fun r => stepR r c
def addN (L : List (List Int)) (d : List Int) : List (List Int) := if d ∈ L then L else L ++ [d]
def rnd (x : PP) (L : List (List Int)) (c : List Int) : List (List Int) := (nbr x c).foldl addN L
inductive Reach (x : PP) : List Int → List Int → Prop
 | refl (c) : Reach x c c
 | step {c d e} : Reach x c d → e ∈ nbr x d → Reach x c e
theorem Reach.trans {x : PP} {c d e : List Int} (h1 : Reach x c d) (h2 : Reach x d e) : Reach x c e := by
 induction h2 with
 | refl => exact h1
 | step _ hn ih => exact ih.step hn
theorem nbr_crowd {x : PP} (hx : PT x) {c d : List Int} (hc : Crowd c x.1) (hd : d ∈ nbr x c) : Crowd d x.1 ∧ d.sum = c.sum := by
 unfold nbr at hd
 obtain ⟨r, hr, rfl⟩ := List.mem_map.1 hd
 obtain ⟨hr, hcan⟩ := List.mem_filter.1 hr
 have hro := hx.rules.2.1 r hr
 refine ⟨hc.stepR hx hro hcan, ?_⟩
 obtain ⟨p, q, s, t, rfl, hp, hq, hs, ht⟩ := rule_nat hro
 have hl := hc.len
 exact stepL_sum (p := p) (q := q) (s := s) (t := t) (by omega) (by omega) (by omega) (by omega)
theorem Reach.crowd {x : PP} (hx : PT x) {c d : List Int} (h : Reach x c d) (hc : Crowd c x.1) : Crowd d x.1 ∧ d.sum = c.sum := by
 induction h with
 | refl => exact ⟨hc, rfl⟩
 | step _ hn ih =>
   obtain ⟨h1, h2⟩ := nbr_crowd hx ih.1 hn
   exact ⟨h1, h2.trans ih.2⟩
theorem addN_mem {L : List (List Int)} {d e : List Int} : e ∈ addN L d ↔ e ∈ L ∨ e = d := by
 unfold addN
 split
 · rename_i h
   constructor
   · exact .inl
   · rintro (h1 | rfl)
     · exact h1
     · exact h
 · simp
theorem addN_nodup {L : List (List Int)} (h : L.Nodup) (d : List Int) : (addN L d).Nodup := by
 unfold addN
 split
 · exact h
 · rename_i hd
   rw [List.nodup_append]
   refine ⟨h, by simp, fun a ha b hb => ?_⟩
   obtain rfl := List.mem_singleton.1 hb
   exact fun e => hd (e ▸ ha)
theorem addN_pre (L : List (List Int)) (d : List Int) : ∃ T, addN L d = L ++ T := by
 unfold addN
 split
 · exact ⟨[], by simp⟩
 · exact ⟨[d], rfl⟩
theorem fold_mem {ds : List (List Int)} : ∀ {L : List (List Int)} {e : List Int}, e ∈ ds.foldl addN L ↔ e ∈ L ∨ e ∈ ds := by
 induction ds with
 | nil => intro L e; simp
 | cons d ds ih =>
   intro L e
   rw [List.foldl_cons, ih, addN_mem, List.mem_cons, or_assoc]
theorem fold_nodup {ds : List (List Int)} : ∀ {L : List (List Int)}, L.Nodup → (ds.foldl addN L).Nodup := by
 induction ds with
 | nil => intro L h; exact h
 | cons d ds ih => intro L h; exact ih (addN_nodup h d)
theorem fold_pre {ds : List (List Int)} : ∀ (L : List (List Int)), ∃ T, ds.foldl addN L = L ++ T := by
 induction ds with
 | nil => intro L; exact ⟨[], by simp⟩
 | cons d ds ih =>
   intro L
   obtain ⟨T, h1⟩ := addN_pre L d
   obtain ⟨T2, h2⟩ := ih (addN L d)
   exact ⟨T ++ T2, by rw [List.foldl_cons, h2, h1, List.append_assoc]⟩
structure BInv (x : PP) (c : List Int) (i : Nat) (L : List (List Int)) : Prop where
 head : L.getD 0 [] = c ∧ 0 < L.length
 nodup : L.Nodup
 reach : ∀ d ∈ L, Reach x c d
 closed : ∀ j, j < i → ∀ e ∈ nbr x (L.getD j []), e ∈ L
 le : i ≤ L.length
theorem getD_app (L T : List (List Int)) (i : Nat) (h : i < L.length) : (L ++ T).getD i [] = L.getD i [] := by
 simp only [List.getD_eq_getElem?_getD, List.getElem?_append, h, if_true]
theorem BInv.next {x : PP} {c : List Int} {i : Nat} {L : List (List Int)} (h : BInv x c i L) (hi : i < L.length) : BInv x c (i + 1) (rnd x L (L.getD i [])) := by
 obtain ⟨T, hT⟩ := fold_pre (ds := nbr x (L.getD i [])) L
 have hm := h.reach _ (getD_mem hi [])
 refine ⟨?_, fold_nodup h.nodup, fun d hd => ?_, fun j hj e he => ?_, ?_⟩
 · unfold rnd
   rw [hT, getD_app _ _ _ h.head.2]
   exact ⟨h.head.1, by have := h.head.2; simp; omega⟩
 · rcases fold_mem.1 hd with hd | hd
   · exact h.reach d hd
   · exact hm.step hd
 · unfold rnd at he ⊢
   refine fold_mem.2 ?_
   rw [hT, getD_app _ _ _ (by omega)] at he
   by_cases hji : j = i
   · subst hji; exact .inr he
   · exact .inl (h.closed j (by omega) e he)
 · unfold rnd
   rw [hT]; simp; omega
theorem BInv.len {x : PP} (hx : PT x) {c : List Int} (hc : Crowd c x.1) {i : Nat} {L : List (List Int)} (h : BInv x c i L) : L.length ≤ 715 := by
 have hn := hx.n
 have hs := hc.sum
 refine Nat.le_trans (nodup_len h.nodup (M := allC x.1.toNat c.sum.toNat) fun d hd => ?_) (allC_len _ _ (by omega) (by omega) (by omega))
 obtain ⟨h1, h2⟩ := (h.reach d hd).crowd hx hc
 have := h1.len
 exact mem_allC _ _ d (by omega) h1.pos (by rw [h2]; omega)
theorem BInv.start (x : PP) (c : List Int) : BInv x c 0 [c] :=
 ⟨⟨rfl, by simp⟩, by simp, fun d hd => by obtain rfl := List.mem_singleton.1 hd; exact .refl d, fun j hj => by omega, by simp⟩
structure Found (x : PP) (c : List Int) (L : List (List Int)) : Prop where
 head : L.getD 0 [] = c ∧ 0 < L.length
 nodup : L.Nodup
 mem : ∀ d, d ∈ L ↔ Reach x c d
 len : L.length ≤ 715
end Go.Pv
namespace Go.Pv
section
variable {α β : Type} {eq : α → α → Bool} (heq : ∀ a b, eq a b = true ↔ a = b)
include heq
end
theorem int_eq (a b : Int) : Ty.beq (.int .i64) a b = true ↔ a = b := by
 show ieq a b = true ↔ a = b
 simp [ieq]
end Go.Pv
namespace Go.Pv
theorem first90 {r : List Int} {p : Nat} (hl : r.length ≤ 1000) (hp : p < r.length) (hne : r.getD p 0 ≠ 0) (hz : ∀ l, l < p → r.getD l 0 = 0) : g90 2000 r (fun (x5 : (Int) × (Unit)) => Option.bind (g91 2000 x5.1) fun y6 => some y6) = some (p : Int) := by
 unfold g90
 rw [g90L26_eq]
 have : ∀ (F i : Nat), p - i < F → i ≤ p → g90L26f 2000 F (fun e2 => some e2) (some (-1)) r (fun (x5 : (Int) × (Unit)) => Option.bind (g91 2000 x5.1) fun y6 => some y6) (r.length : Int) (i : Int) = some (p : Int) := by
   intro F
   induction F with
   | zero => intro i h; omega
   | succ F ih =>
     intro i h hi
     rw [g90L26f_succ]
     unfold g90L26B
     have e1 : decide ((i : Int) < (r.length : Int)) = true := by simp; omega
     rw [e1, cond_true, if_pos (ix (by omega)), Int.toNat_natCast]
     unfold g91
     simp only [Option.bind_some]
     by_cases hip : i = p
     · subst hip
       rw [show ieq (r.getD i 0) 0 = false from decide_eq_false hne, Bool.not_false, cond_true]
     · rw [hz i (by omega), ieq_self, Bool.not_true, cond_false, wn i (by omega)]
       exact ih (i + 1) (by omega) (by omega)
 have h0 := this 2000 0 (by omega) (by omega)
 simp only [Int.natCast_zero] at h0
 exact h0
theorem mapPut_new {β : Type} (k : Int) (v : β) : ∀ m : List (Int × β), (∀ q ∈ m, q.1 ≠ k) → mapPut (Ty.beq (.int .i64)) k v m = m ++ [(k, v)]
 | [], _ => rfl
 | q :: m, h => by
   unfold mapPut
   rw [if_neg (fun e => h q (by simp) ((int_eq k q.1).1 e).symm), mapPut_new k v m fun r hr => h r (by simp [hr])]
   rfl
theorem mapFind_int {β : Type} (k : Int) : ∀ m : List (Int × β), (mapFind (Ty.beq (.int .i64)) k m).isSome = decide (∃ q ∈ m, q.1 = k)
 | [] => by simp [mapFind]
 | q :: m => by
   unfold mapFind
   by_cases h : Ty.beq (.int .i64) k q.1 = true
   · rw [if_pos h]
     have := (int_eq k q.1).1 h
     simp [this]
   · rw [if_neg h, mapFind_int k m]
     have h2 : ¬ q.1 = k := fun e => h ((int_eq k q.1).2 e.symm)
     simp [h2]
section
variable {n : Nat} {t : Stg} {R : Nat → Vec} {W : List (List Int)}
theorem firsts_loop {C : Type} (k0 : List (List Int) → PP → List (Int × Int) → Option C) (h : RW n t R W) (hn : n ≤ 5) (x : PP) :
   ∀ (F i : Nat), t.P.length - i < F → i ≤ t.P.length → g67L506f 2000 F k0 W W (t.P.length : Int) (i : Int) x (esF t i) = k0 W x (esF t t.P.length)
 | 0, i, hF, _ => by omega
 | F + 1, i, hF, hi => by
   rw [g67L506f_succ]
   unfold g67L506B
   have hW := h.len
   have hle := h.le
   by_cases hlt : i < t.P.length
   · have e1 : decide ((i : Int) < (t.P.length : Int)) = true := by simp; omega
     obtain ⟨p1, p2, p3⟩ := h.piv i hlt
     have hr := h.row i hlt
     rw [e1, cond_true, if_pos (ix (by omega)), Int.toNat_natCast, first90 (p := t.P.getD i 0) (by omega) (by omega) (by rw [h.get hlt]; exact p2) (fun l hl => by rw [h.get hlt]; exact p3 l hl)]
     simp only [Option.bind_some]
     rw [wn i (by omega), mapPut_new _ _ _ fun q hq => by
       unfold esF at hq
       obtain ⟨j, hj, rfl⟩ := List.mem_map.1 hq
       have hj := List.mem_range.1 hj
       intro e
       have e2 : t.P.getD j 0 = t.P.getD i 0 := by
         dsimp only at e
         omega
       have := inj_getD (i := j) (j := i) h.nodup (by omega) hlt e2
       omega]
     have : esF t i ++ [(((t.P.getD i 0 : Nat) : Int), (i : Int))] = esF t (i + 1) := by unfold esF; rw [List.range_succ, List.map_append]; rfl
     rw [this]
     exact firsts_loop k0 h hn x F (i + 1) (by omega) (by omega)
   · have e1 : decide ((i : Int) < (t.P.length : Int)) = false := by simp; omega
     have : i = t.P.length := by omega
     rw [e1, cond_false, this]
theorem esF_find (f : Nat) : (mapFind (Ty.beq (.int .i64)) (f : Int) (esF t t.P.length)).isSome = t.P.contains f := by
 rw [mapFind_int]
 rw [Bool.eq_iff_iff]
 rw [decide_eq_true_iff, List.contains_iff_mem]
 constructor
 · rintro ⟨q, hq, he⟩
   unfold esF at hq
   obtain ⟨j, hj, rfl⟩ := List.mem_map.1 hq
   have : t.P.getD j 0 = f := by dsimp only at he; omega
   rw [← this]
   exact getD_mem (List.mem_range.1 hj) 0
 · intro hf
   obtain ⟨j, hj, rfl⟩ := List.getElem_of_mem hf
   refine ⟨(((t.P.getD j 0 : Nat) : Int), (j : Int)), ?_, ?_⟩
   · unfold esF
     exact List.mem_map.2 ⟨j, List.mem_range.2 hj, rfl⟩
   · rw [List.getD_eq_getElem?_getD, List.getElem?_eq_getElem hj]; rfl
theorem filt_len (p : Nat → Bool) : ∀ l : List Nat, (l.filter p).length + (l.filter fun f => !p f).length = l.length
 | [] => rfl
 | a :: l => by
   have := filt_len p l
   cases h : p a <;> simp only [List.filter_cons, h, Bool.not_true, Bool.not_false, Bool.false_eq_true, if_true, if_false, List.length_cons] <;> omega
def frees (t : Stg) (c : Nat) : List Nat := (List.range c).filter fun f => !t.P.contains f
theorem frees_len (hn : t.P.Nodup) (hlt : ∀ p ∈ t.P, p < n) : (frees t n).length + t.P.length = n := by
 have h1 := filt_len (fun f => !t.P.contains f) (List.range n)
 rw [List.length_range] at h1
 have h2 : ((List.range n).filter fun f => !(!t.P.contains f)).length = t.P.length := by
   have a1 := nodup_nat (List.nodup_range.sublist (List.filter_sublist (p := fun f => !(!t.P.contains f)) (l := List.range n))) (M := t.P) fun d hd => by
     have := (List.mem_filter.1 hd).2
     simpa using this
   have a2 := nodup_nat hn (M := (List.range n).filter fun f => !(!t.P.contains f)) fun d hd => by
     rw [List.mem_filter, List.mem_range]
     exact ⟨hlt d hd, by simpa using hd⟩
   omega
 unfold frees
 omega
theorem basis_loop {C : Type} (k0 : PP → List Nat → List (Option (List Int)) → Option C) (h : RW n t R W) (hn : n ≤ 5) (hD : ∀ f, f < n → f ∉ t.P → ∃ D : Nat, 0 < D ∧ D ≤ 512 ∧ ∀ j, j < t.P.length → dens t R f j ∣ D) (x : PP) (hx : x.1 = (n : Int)) :
   ∀ (F f : Nat) (ids : List Nat) (rows : List (Option (List Int))), n - f < F → f ≤ n → GR ids rows ((frees t f).map (wts n t R)) → ∃ ids' rows', GR ids' rows' ((frees t n).map (wts n t R)) ∧ g67L2042f 2000 F k0 W (esF t t.P.length) (n : Int) (f : Int) x ids rows = k0 x ids' rows'
 | 0, f, ids, rows, hF, _, _ => by omega
 | F + 1, f, ids, rows, hF, hf, hG => by
   rw [g67L2042f_succ]
   unfold g67L2042B
   by_cases hlt : f < n
   · have e1 : decide ((f : Int) < (n : Int)) = true := by simp; omega
     rw [e1, cond_true, esF_find]
     by_cases hfP : f ∈ t.P
     · rw [List.contains_iff_mem.2 hfP, cond_true, wn f (by omega)]
       refine basis_loop k0 h hn hD x hx F (f + 1) ids rows (by omega) (by omega) ?_
       have : frees t (f + 1) = frees t f := by
         unfold frees
         rw [List.range_succ, List.filter_append]
         simp [hfP]
       rw [this]; exact hG
     · have hc : t.P.contains f = false := by
         cases hb : t.P.contains f with
         | false => rfl
         | true => exact absurd (List.contains_iff_mem.1 hb) hfP
       obtain ⟨D, hD0, hD1, hD2⟩ := hD f hlt hfP
       have hL := LS.all (t := t) (R := R) (f := f) t.P.length fun j hj => (h.piv j hj).2.1
       have hle := hL.le hD0 hD1 fun j hj => hD2 j (List.mem_range.1 hj)
       have hfw : imax (lsF t R f t.P.length) (IntKind.wrap .i64 (ineg (lsF t R f t.P.length))) = fw t R f := by
         unfold fw
         rw [show ineg (lsF t R f t.P.length) = -(lsF t R f t.P.length) from Int.zero_sub _, w64 (by omega) (by omega)]
         simp only [imax]
         split <;> omega
       have hfw2 : 0 ≤ fw t R f ∧ fw t R f ≤ 512 := by unfold fw; omega
       have hil := hG.len
       have hfl : (frees t f).length ≤ f := by
         unfold frees
         refine Nat.le_trans (List.length_filter_le _ _) ?_
         simp
       rw [List.length_map] at hil
       rw [hc, cond_false, runA h hlt hD0 hD1 hD2]
       simp only [Option.bind_some]
       rw [hx, if_pos (mkOk_n hn), Int.toNat_natCast, if_pos (ix (by rw [List.length_replicate]; exact hlt)), if_pos (tnlt (by rw [List.length_replicate]; exact hlt)), Int.toNat_natCast, hfw, runB h hlt hfP hfw2]
       simp only [Option.bind_some]
       rw [if_pos (by simp [maxCount]; omega), wn f (by omega)]
       have hadd := hG.snoc (wts n t R f)
       have : frees t (f + 1) = frees t f ++ [f] := by
         unfold frees
         rw [List.range_succ, List.filter_append]
         simp [hfP]
       have e2 : (frees t f).map (wts n t R) ++ [wts n t R f] = (frees t (f + 1)).map (wts n t R) := by rw [this, List.map_append]; rfl
       rw [e2] at hadd
       exact basis_loop k0 h hn hD x hx F (f + 1) _ _ (by omega) (by omega) hadd
   · have e1 : decide ((f : Int) < (n : Int)) = false := by simp; omega
     have : f = n := by omega
     subst this
     rw [e1, cond_false]
     exact ⟨ids, rows, hG, rfl⟩
end
structure Bas (x : PP) (t : Stg) (R : Nat → Vec) (m : Nat) : Prop where
 elim : Elim 0 x.1.toNat ⟨idM, [], (chgs x).map fv⟩ t
 si : SI x.1.toNat x.1.toNat ((chgs x).map fv) t
 ab : AB ((chgs x).map fv) t
 pr : PR x.1.toNat t m R
 le : t.P.length ≤ 4
 ok : ∀ f, f < x.1.toNat → f ∉ t.P → (wts x.1.toNat t R f).length = x.1.toNat ∧ WT x.1.toNat t R f (fv (wts x.1.toNat t R f))
 rul : ∀ v ∈ (chgs x).map fv, Rul x.1.toNat v
theorem basis67 {x : PP} (hx : PT x) : ∃ t R m, Bas x t R m ∧ g67 2000 x = some ((frees t x.1.toNat).map (wts x.1.toNat t R)) := by
 obtain ⟨hn1, hn2⟩ := hx.n
 have hr15 := hx.rules.1
 have hn : x.1 = ((x.1.toNat : Nat) : Int) := by omega
 have hlen : ∀ r ∈ chgs x, r.length = x.1.toNat := fun r hr => by
   obtain ⟨q, _, rfl⟩ := List.mem_map.1 hr
   exact chg_len _ _
 have hV : ∀ r ∈ chgs x, Rul x.1.toNat (fv r) := fun r hr => by
   obtain ⟨q, hq, rfl⟩ := List.mem_map.1 hr
   exact rul_chg (by omega) (by rw [← hn]; exact hx.rules.2.1 q hq)
 have hV' : ∀ v ∈ (chgs x).map fv, Rul x.1.toNat v := fun v hv => by
   obtain ⟨r, hr, rfl⟩ := List.mem_map.1 hv
   exact hV r hr
 unfold g67
 rw [g67L58_eq]
 obtain ⟨ids, rows, hG, he⟩ := rows67 (fun e1 e2 e3 => Option.bind (g89x 2000 e2 e3) fun r4 => g67L506 2000 (fun e8 e9 e10 => g67L2042 2000 (fun e15 e16 e17 => Option.bind (gridAll e17 e16) fun r18 => some r18) e8 e10 e9.1 0 e9 ([] : List Nat) ([] : List (Option (List (Int))))) r4.1.1 r4.1.1 ((List.length r4.1.1 : Nat) : Int) 0 e1 ([] : List ((Int) × (Int)))) hx 2000 0 [] [] (by omega) (by omega) ⟨rfl, fun i hi => (by simp at hi), List.nodup_nil⟩
 simp only [Int.natCast_zero] at he
 have hcl : (chgs x).length ≤ 1000 := by unfold chgs; rw [List.length_map]; omega
 obtain ⟨t, M', a1, a2, a3, a4, a5, a6, a7, a8⟩ := reduced89 (n := x.1.toNat) (by omega) (by omega) hcl hG hlen hV
 have hPm := a4.len
 have hget : ∀ j, j < t.P.length → (M'.take t.P.length).getD j [] = M'.getD j [] := fun j hj => by
   simp [List.getD_eq_getElem?_getD, List.getElem?_take, hj]
 have hbn : bnd t.P.length ≤ 2147483648 := by
   have : ∀ j, j ≤ 4 → bnd j ≤ 2147483648 := fun j hj => by
     match j, hj with
     | 0, _ => decide
     | 1, _ => decide
     | 2, _ => decide
     | 3, _ => decide
     | 4, _ => decide
   exact this _ a5
 have hRW : RW x.1.toNat t (fun j => fv (M'.getD j [])) (M'.take t.P.length) := by
   refine ⟨by rw [List.length_take]; omega, fun j hj => by rw [hget j hj]; exact a7 j (by omega), fun j hj => by rw [hget j hj], fun j hj => ?_, fun j hj k => ?_, a2.nodup, a5, a2.lt⟩
   · obtain ⟨b1, b2, b3, b4⟩ := a4.piv j hj
     exact ⟨a2.lt _ (getD_mem hj 0), b2, b4⟩
   · have := a4.bd j (by omega) k
     omega
 refine ⟨t, fun j => fv (M'.getD j []), (chgs x).length, ⟨a1, a2, a3, a4, a5, fun f hf hfP => wts_ok hRW hf hfP, hV'⟩, ?_⟩
 refine he.trans ?_
 rw [a8]
 simp only [Option.bind_some]
 have hWl : (M'.take t.P.length).length = t.P.length := hRW.len
 rw [hWl, g67L506_eq]
 have f1 := firsts_loop (fun e8 e9 e10 => g67L2042 2000 (fun e15 e16 e17 => Option.bind (gridAll e17 e16) fun r18 => some r18) e8 e10 e9.1 0 e9 ([] : List Nat) ([] : List (Option (List (Int))))) hRW (by omega) x 2000 0 (by omega) (by omega)
 refine f1.trans ?_
 rw [g67L2042_eq]
 obtain ⟨ids2, rows2, b1, b2⟩ := basis_loop (fun e15 e16 e17 => Option.bind (gridAll e17 e16) fun r18 => some r18) hRW (by omega) (fun f hf hfP => dens_le (by omega) hV' a2 a3 a4 a5 hf hfP) x hn 2000 0 [] [] (by omega) (by omega) ⟨rfl, fun i hi => (by simp [frees] at hi), List.nodup_nil⟩
 simp only [Int.natCast_zero] at b2
 rw [← hn] at b2
 refine b2.trans ?_
 rw [b1.allGR]
 rfl
end Go.Pv
namespace Go.Pv
def dbnd : Nat → Int
 | 0 => 9
 | j + 1 => 2 * (dbnd j * bnd j)
theorem bnd_dbnd : ∀ j, bnd j ≤ dbnd j
 | 0 => by decide
 | j + 1 => by
   have h := bnd_dbnd j
   have hp := bnd_pos j
   have := Int.mul_le_mul_of_nonneg_right h (show 0 ≤ bnd j by omega)
   show 2 * (bnd j * bnd j) ≤ 2 * (dbnd j * bnd j)
   omega
theorem bnd_succ (j : Nat) : bnd j ≤ bnd (j + 1) := by
 have hp := bnd_pos j
 have := Int.mul_le_mul_of_nonneg_left hp (show 0 ≤ bnd j by omega)
 show bnd j ≤ 2 * (bnd j * bnd j)
 omega
theorem dbnd_le : ∀ j, j ≤ 3 → dbnd j ≤ 147456
 | 0, _ => by decide
 | 1, _ => by decide
 | 2, _ => by decide
 | 3, _ => by decide
 | j + 4, h => by omega
structure RelN (own : Vec) (c : Nat) (r r' : Vec) : Prop where
 eq : ∃ g : Int, g ≠ 0 ∧ ∀ k, g * r' k = r k * own c - own k * r c
 le : ∀ k, (r' k).natAbs ≤ (r k * own c - own k * r c).natAbs
 same : r c = 0 → ∀ k, (r' k).natAbs ≤ (r k).natAbs
structure RR (s : Stg) (m : Nat) (R : Nat → Vec) : Prop where
 len : m = s.P.length + s.V.length
 low : ∀ i, i < s.V.length → Par (R (s.P.length + i)) (app s.A (s.V.getD i (fun _ => 0)))
 sum : ∀ j, s.P.length ≤ j → j + 1 < m → sum5 (R j) = 0
 bd : ∀ j, s.P.length ≤ j → j < m → Bdd (if j + 1 = m then dbnd s.P.length else bnd s.P.length) (R j)
theorem RR.zero_before {n c i m : Nat} {V0 : List Vec} {s : Stg} {R R1 : Nat → Vec} (h : RR s m R) (hf : FirstAt c i s)
   (h1 : ∀ j, R1 j = if j = s.P.length then R (s.P.length + i) else if j = s.P.length + i then R s.P.length else R j) (hl : s.P.length + i + 1 = m) {j : Nat} (hj : s.P.length < j) (hjm : j < m) : R1 j c = 0 := by
 have hz : ∀ l, l < i → R (s.P.length + l) c = 0 := fun l hl => ((h.low l (by have := hf.1; omega)).zero c).2 (hf.2.2 l hl)
 rw [h1, if_neg (by omega)]
 split
 · exact hz 0 (by omega)
 · have := hz (j - s.P.length) (by omega)
   rwa [show s.P.length + (j - s.P.length) = j by omega] at this
theorem RR.bd1 {c i m : Nat} {s : Stg} {R R1 : Nat → Vec} (h : RR s m R) (hf : FirstAt c i s)
   (h1 : ∀ j, R1 j = if j = s.P.length then R (s.P.length + i) else if j = s.P.length + i then R s.P.length else R j) {j : Nat} (hj : s.P.length < j) (hjm : j < m) : Bdd (if j + 1 = m ∧ s.P.length + i + 1 ≠ m then dbnd s.P.length else bnd s.P.length) (R1 j) := by
 have hm := h.len
 have hi := hf.1
 have e : R1 j = if j = s.P.length + i then R s.P.length else R j := by rw [h1, if_neg (by omega)]
 by_cases hji : j = s.P.length + i
 · rw [e, if_pos hji, if_neg (fun h => h.2 (by omega))]
   have := h.bd s.P.length (Nat.le_refl _) (by omega)
   rwa [if_neg (by omega)] at this
 · rw [e, if_neg hji]
   have := h.bd j (by omega) hjm
   by_cases hjl : j + 1 = m
   · rw [if_pos hjl] at this
     rw [if_pos ⟨hjl, by omega⟩]; exact this
   · rw [if_neg hjl] at this
     rw [if_neg (fun h => hjl h.1)]; exact this
theorem RR.take {n c i m : Nat} {V0 : List Vec} {s : Stg} {R R1 R2 : Nat → Vec} (hs : SI n c V0 s) (h : RR s m R) (hf : FirstAt c i s)
   (h1 : ∀ j, R1 j = if j = s.P.length then R (s.P.length + i) else if j = s.P.length + i then R s.P.length else R j)
   (hr : ∀ j, s.P.length < j → j < m → RelN (R1 s.P.length) c (R1 j) (R2 j)) : RR (takeS c i s) m R2 := by
 have hi := hf.1
 have hne := hf.2.1
 have hPl : (takeS c i s).P.length = s.P.length + 1 := by simp [takeS]
 have hVl := len_take s c i
 have hm := h.len
 have e0 : R1 s.P.length = R (s.P.length + i) := by rw [h1, if_pos rfl]
 have hown : Par (R1 s.P.length) (app s.A (s.V.getD i (fun _ => 0))) := by rw [e0]; exact h.low i hi
 refine ⟨by rw [hPl, hVl]; omega, fun j hj => ?_, fun j hj hjm => ?_, fun j hj hjm => ?_⟩
 · rw [hVl] at hj
   rw [hPl, get_take (by omega), take_A]
   obtain ⟨g, hg, he⟩ := (hr (s.P.length + 1 + j) (by omega) (by omega)).eq
   have hpar : Par (R1 (s.P.length + 1 + j)) (app s.A (if j + 1 = i then s.V.getD 0 (fun _ => 0) else s.V.getD (j + 1) (fun _ => 0))) := by
     rw [h1, if_neg (by omega)]
     by_cases hji : j + 1 = i
     · rw [if_pos (by omega), if_pos hji]
       exact h.low 0 (by omega)
     · rw [if_neg (by omega), if_neg hji]
       have := h.low (j + 1) (by omega)
       rwa [show s.P.length + (j + 1) = s.P.length + 1 + j by omega] at this
   have hst := hpar.step hown hg c he
   have ef : app (updM s.A (app s.A (s.V.getD i (fun _ => 0))) c) (if j + 1 = i then s.V.getD 0 (fun _ => 0) else s.V.getD (j + 1) (fun _ => 0)) = fun k => app s.A (if j + 1 = i then s.V.getD 0 (fun _ => 0) else s.V.getD (j + 1) (fun _ => 0)) k * app s.A (s.V.getD i (fun _ => 0)) c - app s.A (s.V.getD i (fun _ => 0)) k * app s.A (if j + 1 = i then s.V.getD 0 (fun _ => 0) else s.V.getD (j + 1) (fun _ => 0)) c := by
     funext k
     rw [app_upd, Int.mul_comm (app s.A (s.V.getD i (fun _ => 0)) c)]
   rw [ef]
   exact hst
 · rw [hPl] at hj
   obtain ⟨g, hg, he⟩ := (hr j (by omega) (by omega)).eq
   have s1 : sum5 (R1 j) = 0 := by
     rw [h1, if_neg (by omega)]
     split
     · exact h.sum _ (by omega) (by omega)
     · exact h.sum _ (by omega) (by omega)
   have s2 : sum5 (R1 s.P.length) * R1 j c = 0 := by
     by_cases hl : s.P.length + i + 1 = m
     · rw [h.zero_before (n := n) (V0 := V0) hf h1 hl (by omega) (by omega), Int.mul_zero]
     · rw [e0, h.sum _ (by omega) (by omega), Int.zero_mul]
   refine (Int.mul_eq_zero.1 (?_ : g * _ = 0)).resolve_left hg
   unfold sum5 at s1 s2 ⊢
   have k0 := he 0
   have k1 := he 1
   have k2 := he 2
   have k3 := he 3
   have k4 := he 4
   calc g * (R2 j 0 + R2 j 1 + R2 j 2 + R2 j 3 + R2 j 4) = g * R2 j 0 + g * R2 j 1 + g * R2 j 2 + g * R2 j 3 + g * R2 j 4 := by grind
     _ = (R1 j 0 + R1 j 1 + R1 j 2 + R1 j 3 + R1 j 4) * R1 s.P.length c - (R1 s.P.length 0 + R1 s.P.length 1 + R1 s.P.length 2 + R1 s.P.length 3 + R1 s.P.length 4) * R1 j c := by rw [k0, k1, k2, k3, k4]; grind
     _ = 0 := by rw [s1, s2]; simp
 · rw [hPl] at hj
   have hrel := hr j (by omega) hjm
   have b1 := h.bd1 hf h1 (j := j) (by omega) hjm
   have hbd := bnd_dbnd s.P.length
   have hbs := bnd_succ s.P.length
   have hbds := bnd_dbnd (s.P.length + 1)
   rw [hPl]
   by_cases hl : s.P.length + i + 1 = m
   · have z := h.zero_before (n := n) (V0 := V0) hf h1 hl (j := j) (by omega) hjm
     rw [if_neg (fun h => h.2 hl)] at b1
     intro k
     have q1 := hrel.same z k
     have q2 := b1 k
     split <;> omega
   · have bo : Bdd (bnd s.P.length) (R1 s.P.length) := by
       rw [e0]
       have := h.bd (s.P.length + i) (by omega) (by omega)
       rwa [if_neg hl] at this
     have hbp := bnd_pos s.P.length
     intro k
     have q1 := hrel.le k
     by_cases hjl : j + 1 = m
     · rw [if_pos ⟨hjl, hl⟩] at b1
       rw [if_pos hjl]
       have m1 := mul_bd (b1 k) (bo c) (by omega) (by omega)
       have m2 := mul_bd (bo k) (b1 c) (by omega) (by omega)
       rw [Int.mul_comm (bnd s.P.length)] at m2
       show -(2 * (dbnd s.P.length * bnd s.P.length)) ≤ _ ∧ _ ≤ 2 * (dbnd s.P.length * bnd s.P.length)
       omega
     · rw [if_neg (fun h => hjl h.1)] at b1
       rw [if_neg hjl]
       have m1 := mul_bd (b1 k) (bo c) (by omega) (by omega)
       have m2 := mul_bd (bo k) (b1 c) (by omega) (by omega)
       show -(2 * (bnd s.P.length * bnd s.P.length)) ≤ _ ∧ _ ≤ 2 * (bnd s.P.length * bnd s.P.length)
       omega
theorem RR.fit {n c i m : Nat} {V0 : List Vec} {s : Stg} {R R1 : Nat → Vec} (hs : SI n c V0 s) (h : RR s m R) (hc5 : c < 5) (hf : FirstAt c i s) (hz5 : ∀ j k, 5 ≤ k → R j k = 0)
   (h1 : ∀ j, R1 j = if j = s.P.length then R (s.P.length + i) else if j = s.P.length + i then R s.P.length else R j) {j : Nat} (hj : s.P.length < j) (hjm : j < m) (k l : Nat) :
   -2000000000000000000 ≤ R1 j k * R1 s.P.length l ∧ R1 j k * R1 s.P.length l ≤ 2000000000000000000 := by
 have hm := h.len
 have hi := hf.1
 have hle := hs.le
 by_cases h3 : s.P.length ≤ 3
 · have hd := dbnd_le _ h3
   have hbd := bnd_dbnd s.P.length
   have hbp := bnd_pos s.P.length
   have b1 := h.bd1 hf h1 hj hjm k
   have b2 := h.bd (s.P.length + i) (by omega) (by omega) l
   rw [h1 s.P.length, if_pos rfl]
   have c1 : -147456 ≤ R1 j k ∧ R1 j k ≤ 147456 := by
     split at b1 <;> omega
   have c2 : -147456 ≤ R (s.P.length + i) l ∧ R (s.P.length + i) l ≤ 147456 := by
     split at b2 <;> omega
   have := mul_bd c1 c2 (by omega) (by omega)
   omega
 · have hc : c = 4 := by omega
   subst hc
   have hP : s.P.length = 4 := by omega
   have zr : ∀ q, q < s.V.length → s.P.length + q + 1 < m → ∀ k, R (s.P.length + q) k = 0 := fun q hq hqm k => by
     have hp := h.low q hq
     have hz : ∀ d, d < 4 → R (s.P.length + q) d = 0 := fun d hd => (hp.zero d).2 (hs.zero _ (getD_mem hq _) d hd)
     have hsm := h.sum (s.P.length + q) (by omega) hqm
     unfold sum5 at hsm
     have z0 := hz 0 (by omega)
     have z1 := hz 1 (by omega)
     have z2 := hz 2 (by omega)
     have z3 := hz 3 (by omega)
     have hk : k = 0 ∨ k = 1 ∨ k = 2 ∨ k = 3 ∨ k = 4 ∨ 5 ≤ k := by omega
     rcases hk with rfl | rfl | rfl | rfl | rfl | hk
     · exact z0
     · exact z1
     · exact z2
     · exact z3
     · omega
     · exact hz5 _ _ hk
   have hl : s.P.length + i + 1 = m := by
     rcases Nat.lt_or_ge (s.P.length + i + 1) m with h4 | h4
     · have := zr i hi h4 4
       exact absurd (((h.low i hi).zero 4).1 this) hf.2.1
     · omega
   have : R1 j k = 0 := by
     rw [h1, if_neg (by omega)]
     split
     · exact zr 0 (by omega) (by omega) k
     · have := zr (j - s.P.length) (by omega) (by omega) k
       rwa [show s.P.length + (j - s.P.length) = j by omega] at this
   rw [this, Int.zero_mul]
   omega
theorem gcd93 (N : Nat) {C : Type} (k0 : Int → Option C) : ∀ (k F : Nat) (a b : Int), 2 * k + 1 < F → b.natAbs < 2 ^ k → ∃ r : Int, r.natAbs = Nat.gcd a.natAbs b.natAbs ∧ g93L12f N F k0 a b = k0 r := by
 have zero : ∀ (F : Nat) (a : Int), 0 < F → g93L12f N F k0 a 0 = k0 a := by
   intro F a h
   obtain ⟨F, rfl⟩ : ∃ G, F = G + 1 := ⟨F - 1, by omega⟩
   rw [g93L12f_succ]
   unfold g93L12B
   rw [ieq_self, Bool.not_true, cond_false]
 have step : ∀ (F : Nat) (a b : Int), b ≠ 0 → g93L12f N (F + 1) k0 a b = g93L12f N F k0 b (Int.tmod a b) := by
   intro F a b hb
   rw [g93L12f_succ]
   unfold g93L12B
   rw [show ieq b 0 = false from decide_eq_false hb, Bool.not_false, cond_true, if_neg hb]
 intro k
 induction k with
 | zero =>
   intro F a b hF hb
   have : b = 0 := by simp at hb; omega
   subst this
   exact ⟨a, by simp, zero F a (by omega)⟩
 | succ k ih =>
   intro F a b hF hb
   by_cases hb0 : b = 0
   · subst hb0
     exact ⟨a, by simp, zero F a (by omega)⟩
   · obtain ⟨F, rfl⟩ : ∃ G, F = G + 1 := ⟨F - 1, by omega⟩
     rw [step F a b hb0]
     have g1 : Nat.gcd a.natAbs b.natAbs = Nat.gcd b.natAbs (Int.tmod a b).natAbs := by
       rw [Int.natAbs_tmod, Nat.gcd_comm a.natAbs, Nat.gcd_rec, Nat.gcd_comm]
     by_cases hr0 : Int.tmod a b = 0
     · rw [hr0, zero F b (by omega)]
       exact ⟨b, by rw [g1, hr0]; simp, rfl⟩
     · obtain ⟨F, rfl⟩ : ∃ G, F = G + 1 := ⟨F - 1, by omega⟩
       rw [step F b (Int.tmod a b) hr0]
       have hlt : (Int.tmod a b).natAbs < b.natAbs := by rw [Int.natAbs_tmod]; exact Nat.mod_lt _ (by omega)
       have hhalf : (Int.tmod b (Int.tmod a b)).natAbs < 2 ^ k := by
         rw [Int.natAbs_tmod]
         have h1 := Nat.mod_lt b.natAbs (show 0 < (Int.tmod a b).natAbs by omega)
         have h2 := Nat.mod_add_div b.natAbs (Int.tmod a b).natAbs
         have h3 : 0 < b.natAbs / (Int.tmod a b).natAbs := Nat.div_pos (by omega) (by omega)
         have h4 := Nat.le_mul_of_pos_right (Int.tmod a b).natAbs h3
         rw [Nat.pow_succ] at hb
         omega
       obtain ⟨r, h1, h2⟩ := ih F (Int.tmod a b) (Int.tmod b (Int.tmod a b)) (by omega) hhalf
       refine ⟨r, ?_, h2⟩
       rw [h1, g1, Int.natAbs_tmod b, Nat.gcd_comm b.natAbs, Nat.gcd_rec (Int.tmod a b).natAbs b.natAbs, Nat.gcd_comm (b.natAbs % (Int.tmod a b).natAbs)]
theorem g93_eq {a b : Int} (ha : a.natAbs < 2 ^ 62) (hb : b.natAbs < 2 ^ 62) : g93 2000 a b = some ((Nat.gcd a.natAbs b.natAbs : Nat) : Int) := by
 unfold g93
 rw [g93L12_eq]
 obtain ⟨r, h1, h2⟩ := gcd93 2000 (fun e1 => some (imax e1 (IntKind.wrap .i64 (ineg e1)))) 62 2000 a b (by omega) hb
 refine h2.trans ?_
 have hlt : Nat.gcd a.natAbs b.natAbs < 2 ^ 62 := by
   by_cases h0 : a.natAbs = 0
   · rw [h0, Nat.gcd_zero_left]; exact hb
   · have := Nat.le_of_dvd (by omega) (Nat.gcd_dvd_left a.natAbs b.natAbs)
     omega
 have e : (2 : Nat) ^ 62 = 4611686018427387904 := by decide
 rw [e] at hlt
 rw [show ineg r = -r from Int.zero_sub r, w64 (by omega) (by omega)]
 congr 1
 simp only [imax]
 split <;> omega
def nx (r own : List Int) (a b : Int) (k : Nat) : List Int := (List.range k).map fun l => fv r l * a - fv own l * b
theorem nx_len (r own : List Int) (a b : Int) (k : Nat) : (nx r own a b k).length = k := by simp [nx]
theorem nx_succ (r own : List Int) (a b : Int) (k : Nat) : nx r own a b (k + 1) = nx r own a b k ++ [fv r k * a - fv own k * b] := by
 unfold nx; rw [List.range_succ, List.map_append]; rfl
theorem nx_get {r own : List Int} {a b : Int} {n k : Nat} (h : k < n) : (nx r own a b n).getD k 0 = fv r k * a - fv own k * b := by
 unfold nx
 rw [List.getD_eq_getElem?_getD, List.getElem?_map, List.getElem?_range h]; rfl
theorem gcdL_app : ∀ (l : List Int) (g : Nat) (x : Int), gcdL g (l ++ [x]) = Nat.gcd (gcdL g l) x.natAbs
 | [], g, x => rfl
 | y :: l, g, x => gcdL_app l _ x
section
variable {C : Type} {n m c : Nat} {ids : List Nat} {rows : List (Option (List Int))} {M : List (List Int)}
theorem find68 (k0 : Int → Int → Int → Int → List Nat → List (Option (List Int)) → Option C) (hG : GR ids rows M) (hm : M.length = m) (hm2 : m ≤ 1000) (hc : c < n) (hlen : ∀ j, j < m → (M.getD j []).length = n) (t1 t5 : Int) :
   ∀ (F i : Nat), m - i < F → i ≤ m → ∃ q, i ≤ q ∧ q ≤ m ∧ (∀ j, i ≤ j → j < q → fv (M.getD j []) c = 0) ∧ (q < m → fv (M.getD q []) c ≠ 0) ∧ g68xL7460f 2000 F k0 t1 t5 (c : Int) (i : Int) ids rows = k0 t1 t5 (c : Int) (q : Int) ids rows
 | 0, i, h, _ => by omega
 | F + 1, i, h, hi => by
   rw [g68xL7460f_succ]
   unfold g68xL7460B
   have hil := hG.len
   by_cases hlt : i < m
   · have e1 : decide ((i : Int) < ((ids.length : Nat) : Int)) = true := by simp; omega
     have li := hlen i hlt
     rw [e1, cond_true, if_pos (ix (by omega)), Int.toNat_natCast, hG.id (by omega)]
     simp only [Option.bind_some]
     rw [hG.get i (by omega)]
     simp only [Option.bind_some]
     rw [if_pos (ix (by omega)), if_pos (tnlt (by omega)), Int.toNat_natCast]
     by_cases hz : fv (M.getD i []) c = 0
     · rw [show ieq ((M.getD i []).getD c 0) 0 = true from decide_eq_true hz, cond_true, wn i (by omega)]
       obtain ⟨q, a1, a2, a3, a4, a5⟩ := find68 k0 hG hm hm2 hc hlen t1 t5 F (i + 1) (by omega) (by omega)
       exact ⟨q, by omega, a2, fun j hj hjq => by
         by_cases hji : j = i
         · subst hji; exact hz
         · exact a3 j (by omega) hjq, a4, a5⟩
     · rw [show ieq ((M.getD i []).getD c 0) 0 = false from decide_eq_false hz, cond_false]
       exact ⟨i, Nat.le_refl _, hi, fun j hj hjq => by omega, fun _ => hz, rfl⟩
   · have e1 : decide ((i : Int) < ((ids.length : Nat) : Int)) = false := by simp; omega
     rw [e1, cond_false]
     exact ⟨i, Nat.le_refl _, hi, fun j hj hjq => by omega, fun h => by omega, rfl⟩
theorem next68 (k0 : Int → Int → Int → Int → Int → List Int → List Nat → List (Option (List Int)) → Option C) (hn : n ≤ 5) (hG : GR ids rows M) {d i : Nat} (hd : d < M.length) (hi : i < M.length) (hld : (M.getD d []).length = n) (hli : (M.getD i []).length = n) {a b : Int}
   (hf1 : ∀ k, -2000000000000000000 ≤ fv (M.getD i []) k * a ∧ fv (M.getD i []) k * a ≤ 2000000000000000000) (hf2 : ∀ k, -2000000000000000000 ≤ fv (M.getD d []) k * b ∧ fv (M.getD d []) k * b ≤ 2000000000000000000) (t6 : Int) :
   ∀ (F k : Nat), n - k < F → k ≤ n → g68xL122284346f 2000 F k0 (n : Int) (d : Int) t6 (i : Int) a b (gcdL 0 (nx (M.getD i []) (M.getD d []) a b k) : Int) (k : Int) (nx (M.getD i []) (M.getD d []) a b k) ids rows = k0 (n : Int) (d : Int) t6 (i : Int) (gcdL 0 (nx (M.getD i []) (M.getD d []) a b n) : Int) (nx (M.getD i []) (M.getD d []) a b n) ids rows
 | 0, k, h, _ => by omega
 | F + 1, k, h, hk => by
   rw [g68xL122284346f_succ]
   unfold g68xL122284346B
   have hil := hG.len
   by_cases hlt : k < n
   · have e1 : decide ((k : Int) < (n : Int)) = true := by simp; omega
     have hx : ∀ x ∈ nx (M.getD i []) (M.getD d []) a b k, x.natAbs < 2 ^ 62 := fun x hx => by
       unfold nx at hx
       obtain ⟨l, hl, rfl⟩ := List.mem_map.1 hx
       have q1 := hf1 l
       have q2 := hf2 l
       have e : (2 : Nat) ^ 62 = 4611686018427387904 := by decide
       omega
     have q1 := hf1 k
     have q2 := hf2 k
     have hxk : (fv (M.getD i []) k * a - fv (M.getD d []) k * b).natAbs < 2 ^ 62 := by
       have e : (2 : Nat) ^ 62 = 4611686018427387904 := by decide
       omega
     have e0 : (M.getD i []).getD k 0 = fv (M.getD i []) k := rfl
     have e00 : (M.getD d []).getD k 0 = fv (M.getD d []) k := rfl
     have el : (nx (M.getD i []) (M.getD d []) a b k ++ [fv (M.getD i []) k * a - fv (M.getD d []) k * b]).length = k + 1 := by rw [← nx_succ, nx_len]
     have eg : (nx (M.getD i []) (M.getD d []) a b k ++ [fv (M.getD i []) k * a - fv (M.getD d []) k * b]).getD k 0 = fv (M.getD i []) k * a - fv (M.getD d []) k * b := by rw [← nx_succ, nx_get (by omega)]
     rw [e1, cond_true, if_pos (ix (by omega)), Int.toNat_natCast, hG.id (by omega)]
     simp only [Option.bind_some]
     rw [hG.get i hi]
     simp only [Option.bind_some]
     rw [if_pos (ix (by omega)), Int.toNat_natCast, if_pos (by omega), if_pos (ix (by omega)), Int.toNat_natCast, hG.id hd]
     simp only [Option.bind_some]
     rw [hG.get d hd]
     simp only [Option.bind_some]
     rw [if_pos (ix (by omega)), if_pos (by omega), e0, e00, w64 (x := fv (M.getD i []) k * a) (by omega) (by omega), w64 (x := fv (M.getD d []) k * b) (by omega) (by omega), w64 (x := fv (M.getD i []) k * a - fv (M.getD d []) k * b) (by omega) (by omega), if_pos (by rw [nx_len]; simp [maxCount]; omega), if_pos (ix (by omega)), if_pos (by omega), eg, g93_eq (by rw [Int.natAbs_natCast]; exact gcdL_lt hx) hxk]
     simp only [Option.bind_some]
     rw [wn k (by omega), Int.natAbs_natCast, ← gcdL_app, ← nx_succ]
     exact next68 k0 hn hG hd hi hld hli hf1 hf2 t6 F (k + 1) (by omega) (by omega)
   · have e1 : decide ((k : Int) < (n : Int)) = false := by simp; omega
     have : k = n := by omega
     subst this
     rw [e1, cond_false]
theorem div68 (k0 : Int → Int → Int → Int → List Int → List Nat → List (Option (List Int)) → Option C) (hn : n ≤ 5) {r : List Int} (hrn : r.length = n) {g : Int} (hg : 0 < g) (hdv : ∀ k, g ∣ fv r k) (hr : ∀ k, -4000000000000000000 ≤ fv r k ∧ fv r k ≤ 4000000000000000000) (t5 t6 t8 : Int) :
   ∀ (F i : Nat) (cur : List Int), n - i < F → i ≤ n → cur.length = n → (∀ k, k < i → g * fv cur k = fv r k) → (∀ k, i ≤ k → fv cur k = fv r k) →
     ∃ cur', cur'.length = n ∧ (∀ k, g * fv cur' k = fv r k) ∧ g68xL244568698f 2000 F k0 (n : Int) t5 t6 t8 g (i : Int) cur ids rows = k0 (n : Int) t5 t6 t8 cur' ids rows
 | 0, i, cur, h, _, _, _, _ => by omega
 | F + 1, i, cur, h, hi, hc, h1, h2 => by
   rw [g68xL244568698f_succ]
   unfold g68xL244568698B
   by_cases hlt : i < n
   · have e1 : decide ((i : Int) < (n : Int)) = true := by simp; omega
     have e2 : decide ((0 : Int) < g) = true := decide_eq_true hg
     have ec : cur.getD i 0 = fv r i := h2 i (Nat.le_refl _)
     obtain ⟨q, hq⟩ := hdv i
     have et : Int.tdiv (fv r i) g = q := by rw [hq]; exact Int.mul_tdiv_cancel_left q (by omega)
     have hqb : -4000000000000000000 ≤ q ∧ q ≤ 4000000000000000000 := by
       have := hr i
       have h5 : (fv r i).natAbs = g.natAbs * q.natAbs := by rw [hq, Int.natAbs_mul]
       have h6 : q.natAbs ≤ g.natAbs * q.natAbs := Nat.le_mul_of_pos_left _ (by omega)
       omega
     rw [e1, cond_true, e2, cond_true, if_pos (ix (by omega)), Int.toNat_natCast, if_pos (by omega), if_neg (by omega), if_pos (ix (by omega)), if_pos (by omega), wn i (by omega), ec, et, w64 (x := q) (by omega) (by omega)]
     exact div68 k0 hn hrn hg hdv hr t5 t6 t8 F (i + 1) _ (by omega) (by omega) (by simp [hc]) (fun k hk => by
       rw [fv_set _ (by omega)]
       by_cases hki : k = i
       · subst hki; rw [if_pos rfl, hq]
       · rw [if_neg hki]; exact h1 k (by omega)) (fun k hk => by
       rw [fv_set _ (by omega), if_neg (by omega)]
       exact h2 k (by omega))
   · have e1 : decide ((i : Int) < (n : Int)) = false := by simp; omega
     rw [e1, cond_false]
     refine ⟨cur, hc, fun k => ?_, rfl⟩
     by_cases hk : k < i
     · exact h1 k hk
     · rw [fv_ge hc (by omega), fv_ge hrn (by omega)]; simp
end
end Go.Pv
namespace Go.Pv
theorem gcdL_zero : ∀ (l : List Int), gcdL 0 l = 0 → ∀ x ∈ l, x = 0 := fun l h x hx => by
 have := (gcdL_dvd l 0).2 x hx
 rw [h] at this
 have := Nat.eq_zero_of_zero_dvd this
 omega
theorem dvd_gcdL {d : Nat} : ∀ (l : List Int) (g : Nat), d ∣ g → (∀ x ∈ l, d ∣ x.natAbs) → d ∣ gcdL g l
 | [], g, h, _ => h
 | y :: l, g, h, hl => dvd_gcdL l _ (Nat.dvd_gcd h (hl y (by simp))) fun x hx => hl x (by simp [hx])
theorem relN_of {own r : List Int} {n c : Nat} (hc : c < n) (hrn : r.length = n) (hon : own.length = n) (hoc : fv own c ≠ 0) {nxt : List Int} (hnl : nxt.length = n) {g : Nat} (hg : g = gcdL 0 (nx r own (fv own c) (fv r c) n))
   (h : if 0 < g then ∀ k, (g : Int) * fv nxt k = fv (nx r own (fv own c) (fv r c) n) k else nxt = nx r own (fv own c) (fv r c) n) : RelN (fv own) c (fv r) (fv nxt) := by
 have hx : ∀ k, fv (nx r own (fv own c) (fv r c) n) k = fv r k * fv own c - fv own k * fv r c := fun k => by
   by_cases hk : k < n
   · exact nx_get hk
   · rw [fv_ge (k := k) (nx_len _ _ _ _ _) (by omega), fv_ge (k := k) hrn (by omega), fv_ge (k := k) hon (by omega)]; simp
 by_cases h0 : 0 < g
 · rw [if_pos h0] at h
   have he : ∀ k, (g : Int) * fv nxt k = fv r k * fv own c - fv own k * fv r c := fun k => by rw [h k, hx k]
   refine ⟨⟨g, by omega, he⟩, fun k => ?_, fun hz k => ?_⟩
   · rw [← he k, Int.natAbs_mul]
     exact Nat.le_mul_of_pos_left _ (by omega)
   · have e := he k
     rw [hz, Int.mul_zero, Int.sub_zero] at e
     have hd : (fv own c).natAbs ∣ g := by
       rw [hg]
       refine dvd_gcdL _ _ (Nat.dvd_zero _) fun x hxm => ?_
       unfold nx at hxm
       obtain ⟨l, hl, rfl⟩ := List.mem_map.1 hxm
       rw [hz, Int.mul_zero, Int.sub_zero, Int.natAbs_mul]
       exact Nat.dvd_mul_left _ _
     obtain ⟨q, hq⟩ := hd
     have hq0 : 1 ≤ q := by
       rcases Nat.eq_zero_or_pos q with h1 | h1
       · rw [h1, Nat.mul_zero] at hq; omega
       · exact h1
     have e2 : (fv own c).natAbs * (q * (fv nxt k).natAbs) = (fv own c).natAbs * (fv r k).natAbs := by
       have := congrArg Int.natAbs e
       rw [Int.natAbs_mul, Int.natAbs_mul, Int.natAbs_natCast, hq, Nat.mul_assoc] at this
       rw [this, Nat.mul_comm]
     have e3 := Nat.eq_of_mul_eq_mul_left (by omega) e2
     have := Nat.le_mul_of_pos_left (fv nxt k).natAbs hq0
     omega
 · rw [if_neg h0] at h
   subst h
   have hz : ∀ k, fv r k * fv own c - fv own k * fv r c = 0 := fun k => by
     rw [← hx k]
     by_cases hk : k < n
     · have h00 : gcdL 0 (nx r own (fv own c) (fv r c) n) = 0 := by omega
       have hmm : (nx r own (fv own c) (fv r c) n).getD k 0 ∈ nx r own (fv own c) (fv r c) n := getD_mem (by rw [nx_len]; exact hk) 0
       exact gcdL_zero _ h00 _ hmm
     · exact fv_ge (nx_len _ _ _ _ _) (by omega)
   refine ⟨⟨1, by decide, fun k => by rw [hx k, Int.one_mul]⟩, fun k => by rw [hx k]; exact Nat.le_refl _, fun _ k => by rw [hx k, hz k]; simp⟩
section
variable {C : Type} {n m c d : Nat}
theorem rows68 (k0 : Int → Int → Int → List Nat → List (Option (List Int)) → Option C) (hn : n ≤ 5) {M1 : List (List Int)} (hm : M1.length = m) (hm2 : m ≤ 1000) (hd : d < m) (hc : c < n) (hlen : ∀ j, j < m → (M1.getD j []).length = n) (hoc : fv (M1.getD d []) c ≠ 0)
   (hfit : ∀ j, d < j → j < m → ∀ k l, -2000000000000000000 ≤ fv (M1.getD j []) k * fv (M1.getD d []) l ∧ fv (M1.getD j []) k * fv (M1.getD d []) l ≤ 2000000000000000000) :
   ∀ (F i : Nat) (ids : List Nat) (rows : List (Option (List Int))) (M' : List (List Int)), m - i < F → d < i → i ≤ m → GR ids rows M' → M'.length = m → (∀ j, j < m → (M'.getD j []).length = n) → M'.getD d [] = M1.getD d [] → (∀ j, d < j → j < i → RelN (fv (M1.getD d [])) c (fv (M1.getD j [])) (fv (M'.getD j []))) → (∀ j, i ≤ j → M'.getD j [] = M1.getD j []) →
     ∃ ids' rows' M'', GR ids' rows' M'' ∧ M''.length = m ∧ (∀ j, j < m → (M''.getD j []).length = n) ∧ (∀ j, d < j → j < m → RelN (fv (M1.getD d [])) c (fv (M1.getD j [])) (fv (M''.getD j []))) ∧ g68xL119418f 2000 F k0 (n : Int) (d : Int) (c : Int) (i : Int) ids rows = k0 (n : Int) (d : Int) (c : Int) ids' rows'
 | 0, i, ids, rows, M', h, _, _, _, _, _, _, _, _ => by omega
 | F + 1, i, ids, rows, M', h, hdi, hi, hG, hl, hln, hod, h1, h2 => by
   rw [g68xL119418f_succ]
   unfold g68xL119418B
   have idl : ids.length = m := by rw [hG.len]; exact hl
   by_cases hlt : i < m
   · have e1 : decide ((i : Int) < ((ids.length : Nat) : Int)) = true := by simp; omega
     have gi : rowOf rows (ids.getD i 0) = some (M1.getD i []) := by rw [hG.get i (by omega), h2 i (Nat.le_refl _)]
     have gd : rowOf rows (ids.getD d 0) = some (M1.getD d []) := by rw [hG.get d (by omega), hod]
     have li := hlen i hlt
     have ld := hlen d hd
     have ec : (M1.getD d []).getD c 0 = fv (M1.getD d []) c := rfl
     have ec2 : (M1.getD i []).getD c 0 = fv (M1.getD i []) c := rfl
     rw [e1, cond_true, if_pos (ix (by omega)), Int.toNat_natCast, hG.id (by omega)]
     simp only [Option.bind_some]
     rw [gd]
     simp only [Option.bind_some]
     rw [if_pos (ix (by omega)), Int.toNat_natCast, if_pos (by omega), if_pos (ix (by omega)), Int.toNat_natCast, hG.id (by omega)]
     simp only [Option.bind_some]
     rw [gi]
     simp only [Option.bind_some]
     rw [if_pos (ix (by omega)), if_pos (by omega), ec, ec2, g68xL122284346_eq]
     have hGi : M'.getD i [] = M1.getD i [] := h2 i (Nat.le_refl _)
     have nxt := next68 (fun e25 e26 e27 e28 e29 e30 e31 e32 => g68xL244568698 2000 (fun e33 e34 e35 e36 e37 e38 e39 => if idx e36 (List.length e38) then if (Int.toNat e36) < List.length e38 then (g68xL119418f 2000 F k0 e33 e34 e35 (IntKind.wrap .i64 (e36 + 1)) (List.set e38 (Int.toNat e36) (List.length e39)) (e39 ++ [some e37])) else none else none) e25 e26 e27 e28 e29 0 e30 e31 e32) hn hG (d := d) (i := i) (by omega) (by omega) (by rw [hod]; exact ld) (by rw [hGi]; exact li) (a := fv (M1.getD d []) c) (b := fv (M1.getD i []) c) (fun k => by rw [hGi]; exact hfit i hdi hlt k c) (fun k => by rw [hod, Int.mul_comm]; exact hfit i hdi hlt c k) (c : Int) 2000 0 (by omega) (by omega)
     rw [hGi, hod] at nxt
     have z0 : nx (M1.getD i []) (M1.getD d []) (fv (M1.getD d []) c) (fv (M1.getD i []) c) 0 = [] := rfl
     rw [z0] at nxt
     have z1 : ((gcdL 0 ([] : List Int) : Nat) : Int) = 0 := rfl
     rw [z1] at nxt
     simp only [Int.natCast_zero] at nxt
     have fin : ∀ cur : List Int, cur.length = n → RelN (fv (M1.getD d [])) c (fv (M1.getD i [])) (fv cur) → ∃ ids' rows' M'', GR ids' rows' M'' ∧ M''.length = m ∧ (∀ j, j < m → (M''.getD j []).length = n) ∧ (∀ j, d < j → j < m → RelN (fv (M1.getD d [])) c (fv (M1.getD j [])) (fv (M''.getD j []))) ∧ (if idx (i : Int) (List.length ids) then if (Int.toNat (i : Int)) < List.length ids then (g68xL119418f 2000 F k0 (n : Int) (d : Int) (c : Int) (IntKind.wrap .i64 ((i : Int) + 1)) (List.set ids (Int.toNat (i : Int)) (List.length rows)) (rows ++ [some cur])) else none else none) = k0 (n : Int) (d : Int) (c : Int) ids' rows' := fun cur hcl hrel => by
       rw [if_pos (ix (by omega)), Int.toNat_natCast, if_pos (by omega), wn i (by omega)]
       refine rows68 k0 hn hm hm2 hd hc hlen hoc hfit F (i + 1) _ _ (M'.set i cur) (by omega) (by omega) (by omega) (hG.repl (by omega) cur) (by simp [hl]) (fun j hj => ?_) (by rw [setD _ _ _ _ _ (by omega), if_neg (by omega)]; exact hod) (fun j hj1 hj2 => ?_) (fun j hj => ?_)
       · rw [setD _ _ _ _ _ (by omega)]
         split
         · exact hcl
         · exact hln j hj
       · rw [setD _ _ _ _ _ (by omega)]
         by_cases hji : j = i
         · subst hji; rw [if_pos rfl]; exact hrel
         · rw [if_neg hji]; exact h1 j hj1 (by omega)
       · rw [setD _ _ _ _ _ (by omega), if_neg (by omega)]
         exact h2 j (by omega)
     by_cases hg : 0 < gcdL 0 (nx (M1.getD i []) (M1.getD d []) (fv (M1.getD d []) c) (fv (M1.getD i []) c) n)
     · have hdv : ∀ k, ((gcdL 0 (nx (M1.getD i []) (M1.getD d []) (fv (M1.getD d []) c) (fv (M1.getD i []) c) n) : Nat) : Int) ∣ fv (nx (M1.getD i []) (M1.getD d []) (fv (M1.getD d []) c) (fv (M1.getD i []) c) n) k := fun k => by
         by_cases hk : k < n
         · exact Int.ofNat_dvd_left.2 ((gcdL_dvd _ 0).2 _ (getD_mem (by rw [nx_len]; exact hk) 0))
         · rw [fv_ge (nx_len _ _ _ _ _) (by omega)]; exact Int.dvd_zero _
       have hbd : ∀ k, -4000000000000000000 ≤ fv (nx (M1.getD i []) (M1.getD d []) (fv (M1.getD d []) c) (fv (M1.getD i []) c) n) k ∧ fv (nx (M1.getD i []) (M1.getD d []) (fv (M1.getD d []) c) (fv (M1.getD i []) c) n) k ≤ 4000000000000000000 := fun k => by
         by_cases hk : k < n
         · have en : fv (nx (M1.getD i []) (M1.getD d []) (fv (M1.getD d []) c) (fv (M1.getD i []) c) n) k = fv (M1.getD i []) k * fv (M1.getD d []) c - fv (M1.getD d []) k * fv (M1.getD i []) c := nx_get hk
           rw [en]
           have q1 := hfit i hdi hlt k c
           have q2 := hfit i hdi hlt c k
           rw [Int.mul_comm] at q2
           omega
         · rw [fv_ge (nx_len _ _ _ _ _) (by omega)]; omega
       obtain ⟨cur, b1, b2, b3⟩ := div68 (ids := ids) (rows := rows) (fun e33 e34 e35 e36 e37 e38 e39 => if idx e36 (List.length e38) then if (Int.toNat e36) < List.length e38 then (g68xL119418f 2000 F k0 e33 e34 e35 (IntKind.wrap .i64 (e36 + 1)) (List.set e38 (Int.toNat e36) (List.length e39)) (e39 ++ [some e37])) else none else none) hn (nx_len _ _ _ _ _) (by omega) hdv hbd (d : Int) (c : Int) (i : Int) 2000 0 _ (by omega) (by omega) (nx_len _ _ _ _ _) (fun k hk => by omega) (fun k hk => rfl)
       obtain ⟨ids', rows', M'', c1, c2, c3, c4, c5⟩ := fin cur b1 (relN_of hc li ld hoc b1 rfl (by rw [if_pos hg]; exact b2))
       refine ⟨ids', rows', M'', c1, c2, c3, c4, ?_⟩
       refine nxt.trans ?_
       rw [g68xL244568698_eq]
       simp only [Int.natCast_zero] at b3
       exact b3.trans c5
     · obtain ⟨ids', rows', M'', c1, c2, c3, c4, c5⟩ := fin _ (nx_len _ _ _ _ _) (relN_of hc li ld hoc (nx_len _ _ _ _ _) rfl (by rw [if_neg hg]))
       refine ⟨ids', rows', M'', c1, c2, c3, c4, ?_⟩
       refine nxt.trans ?_
       have hg0 : gcdL 0 (nx (M1.getD i []) (M1.getD d []) (fv (M1.getD d []) c) (fv (M1.getD i []) c) n) = 0 := by omega
       rw [g68xL244568698_eq, hg0, show (2000 : Nat) = 1999 + 1 from rfl, g68xL244568698f_succ]
       unfold g68xL244568698B
       have en : decide ((0 : Int) < (n : Int)) = true := by simp; omega
       rw [en, cond_true, show decide ((0 : Int) < ((0 : Nat) : Int)) = false from rfl, cond_false]
       exact c5
   · have e1 : decide ((i : Int) < ((ids.length : Nat) : Int)) = false := by simp; omega
     rw [e1, cond_false]
     exact ⟨ids, rows, M', hG, hl, hln, fun j hj1 hj2 => h1 j hj1 (by omega), rfl⟩
theorem rank_loop (k0 : Int → List Nat → List (Option (List Int)) → Option C) (hn : n ≤ 5) {V0 : List Vec} (hm2 : m ≤ 1000) :
   ∀ (F c : Nat) (s : Stg) (ids : List Nat) (rows : List (Option (List Int))) (M : List (List Int)), n - c < F → c ≤ n → SI n c V0 s → RR s m (fun j => fv (M.getD j [])) → GR ids rows M → M.length = m → (∀ j, j < m → (M.getD j []).length = n) →
     ∃ t ids' rows', Elim c n s t ∧ g68xL58f 2000 F k0 (n : Int) (s.P.length : Int) (c : Int) ids rows = k0 (t.P.length : Int) ids' rows'
 | 0, c, s, ids, rows, M, h, _, _, _, _, _, _ => by omega
 | F + 1, c, s, ids, rows, M, h, hc, hS, hR, hG, hm, hlen => by
   rw [g68xL58f_succ]
   unfold g68xL58B
   by_cases hlt : c < n
   · have e1 : decide ((c : Int) < (n : Int)) = true := by simp; omega
     have hil : ids.length = m := by rw [hG.len]; exact hm
     have hPm := hR.len
     rw [e1, cond_true, g68xL7460_eq]
     obtain ⟨q, q1, q2, q3, q4, q5⟩ := find68 (fun e4 e5 e6 e7 e8 e9 => bif (ieq e7 ((List.length e8 : Nat) : Int)) then (g68xL58f 2000 F k0 e4 e5 (IntKind.wrap .i64 (e6 + 1)) e8 e9) else if idx e7 (List.length e8) then Option.bind (idAt e8 e9 (Int.toNat e7)) fun r10 => if idx e5 (List.length e8) then Option.bind (idAt e8 e9 (Int.toNat e5)) fun r11 => if idx e5 (List.length e8) then Option.bind (rowOf e9 r10) fun _ => if (Int.toNat e5) < List.length e8 then if idx e7 (List.length (List.set e8 (Int.toNat e5) r10)) then Option.bind (rowOf e9 r11) fun _ => if (Int.toNat e7) < List.length (List.set e8 (Int.toNat e5) r10) then g68xL119418 2000 (fun e40 e41 e42 e43 e44 => (g68xL58f 2000 F k0 e40 (IntKind.wrap .i64 (e41 + 1)) (IntKind.wrap .i64 (e42 + 1)) e43 e44)) e4 e5 e6 (IntKind.wrap .i64 (e5 + 1)) (List.set (List.set e8 (Int.toNat e5) r10) (Int.toNat e7) r11) e9 else none else none else none else none else none else none) hG hm hm2 hlt hlen (n : Int) (s.P.length : Int) 2000 s.P.length (by omega) (by omega)
     rw [q5, hil]
     by_cases hqm : q = m
     · have hnone : NoneAt c s := fun v hv => by
         obtain ⟨i, hi, rfl⟩ := List.getElem_of_mem hv
         have e : s.V.getD i (fun _ => 0) = s.V[i] := by rw [List.getD_eq_getElem?_getD, List.getElem?_eq_getElem hi]; rfl
         rw [← e]
         exact ((hR.low i hi).zero c).1 (q3 _ (by omega) (by omega))
       rw [hqm, ieq_self, cond_true, wn c (by omega)]
       obtain ⟨t, ids', rows', a1, a2⟩ := rank_loop k0 hn hm2 F (c + 1) s ids rows M (by omega) (by omega) (hS.skip hnone) hR hG hm hlen
       exact ⟨t, ids', rows', .none hnone a1, a2⟩
     · have hqlt : q < m := by omega
       obtain ⟨i, rfl⟩ : ∃ i, q = s.P.length + i := ⟨q - s.P.length, by omega⟩
       have hfirst : FirstAt c i s := by
         refine ⟨by omega, fun h0 => ?_, fun j hj => ?_⟩
         · exact q4 hqlt (((hR.low i (by omega)).zero c).2 h0)
         · exact ((hR.low j (by omega)).zero c).1 (q3 _ (by omega) (by omega))
       have hd : s.P.length < m := by omega
       have hG1 := hG.swap (i := s.P.length) (j := s.P.length + i) (by omega) (by omega)
       have hM1 : ∀ j, (List.set (List.set M s.P.length (M.getD (s.P.length + i) [])) (s.P.length + i) (M.getD s.P.length [])).getD j [] = if j = s.P.length then M.getD (s.P.length + i) [] else if j = s.P.length + i then M.getD s.P.length [] else M.getD j [] := fun j => by
         rw [setD _ _ _ _ _ (by simp; omega), setD _ _ _ _ _ (by omega)]
         by_cases e1 : j = s.P.length + i
         · rw [if_pos e1]
           by_cases e2 : j = s.P.length
           · rw [if_pos e2]; have : i = 0 := by omega
             subst this; rfl
           · rw [if_neg e2, if_pos e1]
         · rw [if_neg e1, if_neg e1]
       have hlen1 : ∀ j, j < m → ((List.set (List.set M s.P.length (M.getD (s.P.length + i) [])) (s.P.length + i) (M.getD s.P.length [])).getD j []).length = n := fun j hj => by
         rw [hM1]
         split
         · exact hlen _ hqlt
         · split
           · exact hlen _ hd
           · exact hlen j hj
       have h1R : ∀ j, fv ((List.set (List.set M s.P.length (M.getD (s.P.length + i) [])) (s.P.length + i) (M.getD s.P.length [])).getD j []) = if j = s.P.length then fv (M.getD (s.P.length + i) []) else if j = s.P.length + i then fv (M.getD s.P.length []) else fv (M.getD j []) := fun j => by
         rw [hM1]
         split
         · rfl
         · split <;> rfl
       have hz5 : ∀ j k, 5 ≤ k → fv (M.getD j []) k = 0 := fun j k hk => by
         by_cases hj : j < m
         · exact fv_ge (hlen j hj) (by omega)
         · rw [List.getD_eq_getElem?_getD, List.getElem?_eq_none (by omega)]; rfl
       obtain ⟨ids2, rows2, M2, b1, b2, b3, b5, b6⟩ := rows68 (fun e40 e41 e42 e43 e44 => (g68xL58f 2000 F k0 e40 (IntKind.wrap .i64 (e41 + 1)) (IntKind.wrap .i64 (e42 + 1)) e43 e44)) hn (m := m) (c := c) (d := s.P.length) (by simp [hm]) hm2 hd hlt hlen1 (by rw [hM1, if_pos rfl]; exact q4 hqlt) (fun j hj1 hj2 k l => hR.fit hS (by omega) hfirst hz5 h1R hj1 hj2 k l) 2000 (s.P.length + 1) _ rows _ (by omega) (by omega) (by omega) hG1 (by simp [hm]) hlen1 rfl (fun j hj1 hj2 => by omega) (fun j hj => rfl)
       have hR2 := RR.take (R1 := fun j => fv ((List.set (List.set M s.P.length (M.getD (s.P.length + i) [])) (s.P.length + i) (M.getD s.P.length [])).getD j [])) (R2 := fun j => fv (M2.getD j [])) hS hR hfirst h1R b5
       have hPl : (takeS c i s).P.length = s.P.length + 1 := by simp [takeS]
       obtain ⟨t, ids', rows', a1, a9⟩ := rank_loop k0 hn hm2 F (c + 1) (takeS c i s) ids2 rows2 M2 (by omega) (by omega) (hS.take hfirst) hR2 b1 b2 b3
       refine ⟨t, ids', rows', .take hfirst a1, ?_⟩
       have hids1 : (List.set ids s.P.length (ids.getD (s.P.length + i) 0)).length = m := by simp [hil]
       rw [show ieq ((s.P.length + i : Nat) : Int) ((m : Nat) : Int) = false from decide_eq_false (by omega), cond_false, if_pos (ix hqlt), Int.toNat_natCast, hG.id (by omega)]
       simp only [Option.bind_some]
       rw [if_pos (ix hd), Int.toNat_natCast, hG.id (by omega)]
       simp only [Option.bind_some]
       rw [if_pos (ix hd), hG.get (s.P.length + i) (by omega)]
       simp only [Option.bind_some]
       rw [if_pos hd, hids1, if_pos (ix hqlt), hG.get s.P.length (by omega)]
       simp only [Option.bind_some]
       rw [if_pos hqlt, wn s.P.length (by omega), g68xL119418_eq]
       refine b6.trans ?_
       rw [wn s.P.length (by omega), wn c (by omega)]
       rw [hPl] at a9
       exact a9
   · have e1 : decide ((c : Int) < (n : Int)) = false := by simp; omega
     have : c = n := by omega
     subst this
     rw [e1, cond_false]
     exact ⟨s, ids, rows, .done _ _, rfl⟩
end
theorem app_id5 {v : Vec} (h : ∀ k, 5 ≤ k → v k = 0) : app idM v = v := by
 funext k
 unfold app dot idM
 by_cases h0 : k = 0
 · subst h0; simp
 by_cases h1 : k = 1
 · subst h1; simp
 by_cases h2 : k = 2
 · subst h2; simp
 by_cases h3 : k = 3
 · subst h3; simp
 by_cases h4 : k = 4
 · subst h4; simp
 rw [h k (by omega), if_neg h0, if_neg h1, if_neg h2, if_neg h3, if_neg h4]; simp
theorem rank68 {n : Nat} (hn : n ≤ 5) {ids : List Nat} {rows : List (Option (List Int))} {M : List (List Int)} {V0 : List Vec} (hm : M.length = V0.length) (hm2 : M.length ≤ 1000) (hG : GR ids rows M) (hlen : ∀ r ∈ M, r.length = n) (hz : ∀ v ∈ V0, ∀ k, 5 ≤ k → v k = 0)
   (hp : ∀ j, j < M.length → Par (fv (M.getD j [])) (V0.getD j (fun _ => 0))) (hs : ∀ j, j + 1 < M.length → sum5 (fv (M.getD j [])) = 0) (hb : ∀ j, j < M.length → Bdd (if j + 1 = M.length then 9 else 2) (fv (M.getD j []))) :
   ∃ t ids' rows', Elim 0 n ⟨idM, [], V0⟩ t ∧ g68x 2000 (n : Int) ids rows = some (((t.P.length : Int), ()), ((), (ids', rows'), ()), (())) := by
 unfold g68x
 rw [g68xL58_eq]
 have hR : RR ⟨idM, [], V0⟩ M.length (fun j => fv (M.getD j [])) := by
   refine ⟨by simp [hm], fun i hi => ?_, fun j _ hj => hs j hj, fun j _ hj => hb j hj⟩
   have e : app idM (V0.getD i (fun _ => 0)) = V0.getD i (fun _ => 0) := app_id5 (hz _ (getD_mem hi _))
   simp only [List.length_nil, Nat.zero_add]
   rw [e]
   exact hp i (by rw [hm]; exact hi)
 obtain ⟨t, ids', rows', a1, a2⟩ := rank_loop (fun e45 e46 e47 => some (((e45, ()), ((), (e46, e47), ()), (())) : (g68xS).R)) hn hm2 2000 0 ⟨idM, [], V0⟩ ids rows M (by omega) (by omega) (SI.start n V0) hR hG rfl (fun j hj => hlen _ (getD_mem hj []))
 exact ⟨t, ids', rows', a1, a2⟩
end Go.Pv
namespace Go.Pv
theorem fv_chgN {n : Nat} {r : List Int} (h : RuleOk (n : Int) r) (k : Nat) : fv (stepR r (List.replicate n 0)) k = -fv (chg n r) k := by
 obtain ⟨p, q, s, t, rfl, hp, hq, hs, ht⟩ := rule_nat h
 have hp : p < n := by omega
 have hq : q < n := by omega
 have hs : s < n := by omega
 have ht : t < n := by omega
 rw [fv_chg hp hq hs ht, fv_step (by simpa using hp) (by simpa using hq) (by simpa using hs) (by simpa using ht), fv_rep]
 omega
theorem map_getD {α β : Type} (f : α → β) (l : List α) (i : Nat) (d : α) (e : β) (h : i < l.length) : (l.map f).getD i e = f (l.getD i d) := by
 simp only [List.getD_eq_getElem?_getD, List.getElem?_map, List.getElem?_eq_getElem h, Option.map_some, Option.getD_some]
theorem chg_pair {x : PP} (hx : PT x) {j : Nat} (hj : j < (chgsN x).length) : ∃ r, RuleOk ((x.1.toNat : Nat) : Int) r ∧ (chgsN x).getD j [] = stepR r (List.replicate x.1.toNat 0) ∧ ((chgs x).map fv).getD j (fun _ => 0) = fv (chg x.1.toNat r) := by
 have hj' : j < x.2.2.2.1.length := by unfold chgsN at hj; simpa using hj
 have hn := hx.n
 refine ⟨x.2.2.2.1.getD j [], ?_, ?_, ?_⟩
 · rw [show ((x.1.toNat : Nat) : Int) = x.1 by omega]
   exact hx.rules.2.1 _ (getD_mem hj' [])
 · unfold chgsN
   rw [map_getD _ _ _ [] _ hj']
 · unfold chgs
   rw [List.map_map, map_getD _ _ _ [] _ hj']; rfl
theorem chgsN_len (x : PP) : (chgsN x).length = x.2.2.2.1.length := by simp [chgsN]
theorem par_neg {r s : Vec} (h : ∀ k, r k = -s k) : Par r s := ⟨1, -1, by decide, by decide, fun k => by rw [h k]; omega⟩
theorem rul_of {x : PP} (hx : PT x) {j : Nat} (hj : j < (chgsN x).length) : Rul x.1.toNat (((chgs x).map fv).getD j (fun _ => 0)) ∧ ∀ k, fv ((chgsN x).getD j []) k = -(((chgs x).map fv).getD j (fun _ => 0)) k := by
 obtain ⟨r, h1, h2, h3⟩ := chg_pair hx hj
 have hn := hx.n
 rw [h2, h3]
 exact ⟨rul_chg (by omega) h1, fun k => fv_chgN h1 k⟩
theorem rulN {x : PP} (hx : PT x) {j : Nat} (hj : j < (chgsN x).length) : sum5 (fv ((chgsN x).getD j [])) = 0 ∧ Bdd 2 (fv ((chgsN x).getD j [])) := by
 obtain ⟨h1, h2⟩ := rul_of hx hj
 refine ⟨?_, fun k => ?_⟩
 · have := h1.s
   unfold sum5 at this ⊢
   rw [h2, h2, h2, h2, h2]; omega
 · have := h1.b k
   rw [h2]; omega
theorem chgs_z {x : PP} (hx : PT x) : ∀ v ∈ (chgs x).map fv, ∀ k, 5 ≤ k → v k = 0 := fun v hv k hk => by
 obtain ⟨j, hj, rfl⟩ := List.getElem_of_mem hv
 have hj' : j < (chgsN x).length := by simpa [chgs, chgsN] using hj
 obtain ⟨h1, _⟩ := rul_of hx hj'
 have hn := hx.n
 have := h1.z k (by omega)
 rwa [List.getD_eq_getElem?_getD, List.getElem?_eq_getElem hj] at this
theorem chgsN_row {x : PP} (hx : PT x) : ∀ r ∈ chgsN x, r.length = x.1.toNat := fun r hr => by
 unfold chgsN at hr
 obtain ⟨q, _, rfl⟩ := List.mem_map.1 hr
 rw [step_len, List.length_replicate]
theorem rank_chgs {x : PP} (hx : PT x) {t : Stg} {R : Nat → Vec} {m : Nat} (hB : Bas x t R m) {ids : List Nat} {rows : List (Option (List Int))} (hG : GR ids rows (chgsN x)) :
   ∃ ids' rows', g68x 2000 x.1 ids rows = some (((t.P.length : Int), ()), ((), (ids', rows'), ()), (())) := by
 have hn := hx.n
 have hr := hx.rules.1
 have hl := chgsN_len x
 obtain ⟨t', ids', rows', a1, a2⟩ := rank68 (n := x.1.toNat) (V0 := (chgs x).map fv) (by omega) (by simp [chgs, chgsN]) (by omega) hG (chgsN_row hx) (chgs_z hx) (fun j hj => par_neg (rul_of hx hj).2) (fun j hj => (rulN hx (by omega)).1) (fun j hj k => by
   have := (rulN hx hj).2 k
   split <;> omega)
 rw [a1.uniq hB.elim] at a2
 rw [show ((x.1.toNat : Nat) : Int) = x.1 by omega] at a2
 exact ⟨ids', rows', a2⟩
theorem weighs31 {x : PP} (hx : PT x) {t : Stg} {R : Nat → Vec} {m : Nat} (hB : Bas x t R m) : g31 2000 x = some (x.1 - (t.P.length : Int)) := by
 obtain ⟨ids, rows, hG, he⟩ := changes69 hx
 obtain ⟨ids', rows', hr⟩ := rank_chgs hx hB hG
 have hn := hx.n
 have := hB.le
 unfold g31
 rw [he]
 simp only [Option.bind_some]
 rw [hr]
 simp only [Option.bind_some]
 rw [w64 (by omega) (by omega)]
theorem weighs30 {x : PP} (hx : PT x) {t : Stg} {R : Nat → Vec} {m : Nat} (hB : Bas x t R m) (hg : g67 2000 x = some ((frees t x.1.toNat).map (wts x.1.toNat t R))) : g30 2000 x = some (x.1 - (t.P.length : Int), 0, ()) := by
 have hn := hx.n
 unfold g30
 rw [hx.check 2000 (by omega)]
 simp only [Option.bind_some, ieq_self, Bool.not_true, cond_false]
 rw [hg]
 simp only [Option.bind_some, List.length_map]
 have := frees_len (n := x.1.toNat) hB.si.nodup hB.si.lt
 rw [show (((frees t x.1.toNat).length : Nat) : Int) = x.1 - (t.P.length : Int) by omega]
def dW (w r : List Int) : Int := IntKind.wrap .i64 (IntKind.wrap .i64 (IntKind.wrap .i64 (w.getD (r.getD 0 0).toNat 0 + w.getD (r.getD 1 0).toNat 0) - w.getD (r.getD 2 0).toNat 0) - w.getD (r.getD 3 0).toNat 0)
def okR (w : List Int) (m : Int) (r : List Int) : Bool := if m = 0 then decide (dW w r = 0) else decide (Int.tmod (dW w r) m = 0)
theorem drop_all {p : List Int → Bool} {l : List (List Int)} {i : Nat} (h : i < l.length) (d : List Int) : (l.drop i).all p = (p (l.getD i d) && (l.drop (i + 1)).all p) := by
 rw [List.drop_eq_getElem_cons h, List.all_cons, List.getD_eq_getElem?_getD, List.getElem?_eq_getElem h]; rfl
theorem kept34_loop {x : PP} (hx : PT x) {w : List Int} (hw : (w.length : Int) = x.1) {m : Int} (hm : 0 ≤ m) :
   ∀ (F i : Nat), x.2.2.2.1.length - i < F → i ≤ x.2.2.2.1.length → g34L26f 2000 F (fun e1 e2 => some e1) (fun e3 => some true) w m (i : Int) x = some ((x.2.2.2.1.drop i).all (okR w m))
 | 0, i, h, _ => by omega
 | F + 1, i, h, hi => by
   rw [g34L26f_succ]
   unfold g34L26B
   have hr15 := hx.rules.1
   by_cases hlt : i < x.2.2.2.1.length
   · have e1 : decide ((i : Int) < ((x.2.2.2.1.length : Nat) : Int)) = true := by simp; omega
     have ih := kept34_loop hx hw hm F (i + 1) (by omega) (by omega)
     have hro := hx.rules.2.1 _ (getD_mem hlt (List.replicate 4 0))
     rw [e1, cond_true, if_pos (ix hlt), Int.toNat_natCast, drop_all hlt (List.replicate 4 0), wn i (by omega)]
     generalize x.2.2.2.1.getD i (List.replicate 4 0) = r at hro ⊢
     obtain ⟨p, q, s, t, rfl, hp, hq, hs, ht⟩ := rule_nat hro
     have h0 : idx 0 4 := by decide
     have h1 : idx 1 4 := by decide
     have h2 : idx 2 4 := by decide
     have h3 : idx 3 4 := by decide
     simp only [show Int.toNat 0 = 0 from rfl, show Int.toNat 1 = 1 from rfl, show Int.toNat 2 = 2 from rfl, show Int.toNat 3 = 3 from rfl, List.getD_cons_zero, List.getD_cons_succ, Int.toNat_natCast, if_pos h0, if_pos h1, if_pos h2, if_pos h3, if_pos (ix (show p < w.length by omega)), if_pos (ix (show q < w.length by omega)), if_pos (ix (show s < w.length by omega)), if_pos (ix (show t < w.length by omega)), ih]
     have ed : okR w m [(p : Int), (q : Int), (s : Int), (t : Int)] = if m = 0 then decide (IntKind.wrap .i64 (IntKind.wrap .i64 (IntKind.wrap .i64 (w.getD p 0 + w.getD q 0) - w.getD s 0) - w.getD t 0) = 0) else decide (Int.tmod (IntKind.wrap .i64 (IntKind.wrap .i64 (IntKind.wrap .i64 (w.getD p 0 + w.getD q 0) - w.getD s 0) - w.getD t 0)) m = 0) := rfl
     rw [ed]
     generalize IntKind.wrap .i64 (IntKind.wrap .i64 (IntKind.wrap .i64 (w.getD p 0 + w.getD q 0) - w.getD s 0) - w.getD t 0) = v
     by_cases hm0 : m = 0
     · subst hm0
       rw [ieq_self, cond_true, if_pos rfl]
       by_cases hv : v = 0
       · simp [hv]
       · simp [hv, ieq]
     · rw [show ieq m 0 = false from decide_eq_false hm0, cond_false, decide_eq_true (show 0 < m by omega), cond_true, if_neg hm0, if_neg hm0]
       by_cases hv : Int.tmod v m = 0
       · simp [hv]
       · simp [hv, ieq]
   · have e1 : decide ((i : Int) < ((x.2.2.2.1.length : Nat) : Int)) = false := by simp; omega
     rw [e1, cond_false, List.drop_eq_nil_of_le (by omega)]; rfl
theorem kept34 {x : PP} (hx : PT x) {w : List Int} (hw : (w.length : Int) = x.1) {m : Int} (hm : 0 ≤ m) : g34 2000 x w m = some (x.2.2.2.1.all (okR w m)) := by
 unfold g34
 rw [g34L26_eq]
 have hr15 := hx.rules.1
 have := kept34_loop hx hw hm 2000 0 (by omega) (by omega)
 simpa using this
theorem kept32_loop {x : PP} (hx : PT x) {w : List Int} (hw : (w.length : Int) = x.1) {m : Int} (hm : 0 ≤ m) :
   ∀ (F i : Nat), x.2.2.2.1.length - i < F → i ≤ x.2.2.2.1.length → g32L122f 2000 F (fun e4 e5 => some (e4, e5, ())) (some (true, 0, ())) w m x.2.2.2.1 ((x.2.2.2.1.length : Nat) : Int) (i : Int) = some ((x.2.2.2.1.drop i).all (okR w m), 0, ())
 | 0, i, h, _ => by omega
 | F + 1, i, h, hi => by
   rw [g32L122f_succ]
   unfold g32L122B
   have hr15 := hx.rules.1
   by_cases hlt : i < x.2.2.2.1.length
   · have e1 : decide ((i : Int) < ((x.2.2.2.1.length : Nat) : Int)) = true := by simp; omega
     have ih := kept32_loop hx hw hm F (i + 1) (by omega) (by omega)
     have hro := hx.rules.2.1 _ (getD_mem hlt (List.replicate 4 0))
     rw [e1, cond_true, if_pos (ix hlt), Int.toNat_natCast, drop_all hlt (List.replicate 4 0), wn i (by omega)]
     generalize x.2.2.2.1.getD i (List.replicate 4 0) = r at hro ⊢
     obtain ⟨p, q, s, t, rfl, hp, hq, hs, ht⟩ := rule_nat hro
     have h0 : idx 0 4 := by decide
     have h1 : idx 1 4 := by decide
     have h2 : idx 2 4 := by decide
     have h3 : idx 3 4 := by decide
     simp only [show Int.toNat 0 = 0 from rfl, show Int.toNat 1 = 1 from rfl, show Int.toNat 2 = 2 from rfl, show Int.toNat 3 = 3 from rfl, List.getD_cons_zero, List.getD_cons_succ, Int.toNat_natCast, if_pos h0, if_pos h1, if_pos h2, if_pos h3, if_pos (ix (show p < w.length by omega)), if_pos (ix (show q < w.length by omega)), if_pos (ix (show s < w.length by omega)), if_pos (ix (show t < w.length by omega)), ih]
     have ed : okR w m [(p : Int), (q : Int), (s : Int), (t : Int)] = if m = 0 then decide (IntKind.wrap .i64 (IntKind.wrap .i64 (IntKind.wrap .i64 (w.getD p 0 + w.getD q 0) - w.getD s 0) - w.getD t 0) = 0) else decide (Int.tmod (IntKind.wrap .i64 (IntKind.wrap .i64 (IntKind.wrap .i64 (w.getD p 0 + w.getD q 0) - w.getD s 0) - w.getD t 0)) m = 0) := rfl
     rw [ed]
     generalize IntKind.wrap .i64 (IntKind.wrap .i64 (IntKind.wrap .i64 (w.getD p 0 + w.getD q 0) - w.getD s 0) - w.getD t 0) = v
     by_cases hm0 : m = 0
     · subst hm0
       rw [ieq_self, cond_true, if_pos rfl]
       by_cases hv : v = 0
       · simp [hv]
       · simp [hv, ieq]
     · rw [show ieq m 0 = false from decide_eq_false hm0, cond_false, decide_eq_true (show 0 < m by omega), cond_true, if_neg hm0, if_neg hm0]
       by_cases hv : Int.tmod v m = 0
       · simp [hv]
       · simp [hv, ieq]
   · have e1 : decide ((i : Int) < ((x.2.2.2.1.length : Nat) : Int)) = false := by simp; omega
     rw [e1, cond_false, List.drop_eq_nil_of_le (by omega)]; rfl
def wOk (l : List Int) : Bool := l.all fun x => decide (-1000 ≤ x) && decide (x ≤ 1000)
theorem kept32 {x : PP} (hx : PT x) {w : List Int} (hl : w.length ≤ 100) (m : Int) : g32 2000 x w m = some (if (w.length : Int) = x.1 ∧ wOk w = true ∧ 0 ≤ m ∧ m ≤ 1000 then (x.2.2.2.1.all (okR w m), 0, ()) else (false, 1, ())) := by
 unfold g32
 rw [hx.check 2000 (by omega)]
 simp only [Option.bind_some, ieq_self, Bool.not_true, cond_false]
 by_cases h1 : (w.length : Int) = x.1
 · rw [show ieq ((w.length : Nat) : Int) x.1 = true from decide_eq_true h1, Bool.not_true, cond_false, are_eq 2000 _ _ w (by omega) (by omega)]
   simp only [Option.bind_some]
   by_cases h2 : wOk w = true
   · have h2' : (w.all fun x => decide (-1000 ≤ x) && decide (x ≤ 1000)) = true := h2
     rw [h2', Bool.not_true, cond_false, are_eq 2000 _ _ [m] (by simp) (by simp)]
     simp only [Option.bind_some]
     by_cases h3 : 0 ≤ m ∧ m ≤ 1000
     · have e3 : ([m].all fun x => decide (0 ≤ x) && decide (x ≤ 1000)) = true := by simp [h3.1, h3.2]
       have hr15 := hx.rules.1
       rw [e3, Bool.not_true, cond_false, g32L122_eq]
       have := kept32_loop hx h1 h3.1 2000 0 (by omega) (by omega)
       rw [if_pos ⟨h1, h2, h3⟩]
       simpa using this
     · have e3 : ([m].all fun x => decide (0 ≤ x) && decide (x ≤ 1000)) = false := by
         simp only [List.all_cons, List.all_nil, Bool.and_true]
         by_cases h4 : 0 ≤ m
         · have : ¬ m ≤ 1000 := fun h => h3 ⟨h4, h⟩
           simp [this]
         · simp [h4]
       rw [e3, Bool.not_false, cond_true, if_neg (fun h => h3 h.2.2)]
   · have h2' : (w.all fun x => decide (-1000 ≤ x) && decide (x ≤ 1000)) = false := by
       cases hb : (w.all fun x => decide (-1000 ≤ x) && decide (x ≤ 1000)) with
       | false => rfl
       | true => exact absurd hb h2
     rw [h2', Bool.not_false, cond_true, if_neg (fun h => h2 h.2.1)]
 · rw [show ieq ((w.length : Nat) : Int) x.1 = false from decide_eq_false h1, Bool.not_false, cond_true, if_neg (fun h => h1 h.1)]
theorem drop_allI {p : Int → Bool} {l : List Int} {i : Nat} (h : i < l.length) : (l.drop i).all p = (p (l.getD i 0) && (l.drop (i + 1)).all p) := by
 rw [List.drop_eq_getElem_cons h, List.all_cons, List.getD_eq_getElem?_getD, List.getElem?_eq_getElem h]; rfl
theorem weights33 {x : PP} {w : List Int} (hl : w.length ≤ 100) : g33 2000 x w = some (wOk w && decide ((w.length : Int) = x.1)) := by
 unfold g33
 rw [g33L26_eq]
 have : ∀ (F i : Nat), w.length - i < F → i ≤ w.length → g33L26f 2000 F (fun e1 e2 e3 => some e2) (fun e4 e5 => some (ieq ((List.length e4 : Nat) : Int) e5.1)) w (i : Int) x = some (((w.drop i).all fun x => decide (-1000 ≤ x) && decide (x ≤ 1000)) && decide ((w.length : Int) = x.1)) := by
   intro F
   induction F with
   | zero => intro i h; omega
   | succ F ih =>
     intro i h hi
     rw [g33L26f_succ]
     unfold g33L26B
     by_cases hlt : i < w.length
     · have e1 : decide ((i : Int) < ((w.length : Nat) : Int)) = true := by simp; omega
       rw [e1, cond_true, if_pos (ix hlt), Int.toNat_natCast, drop_allI hlt]
       by_cases h1 : w.getD i 0 < -1000
       · rw [decide_eq_true h1, cond_true, decide_eq_false (show ¬ -1000 ≤ w.getD i 0 by omega)]; simp
       · rw [decide_eq_false h1, cond_false, if_pos (ix hlt), decide_eq_true (show -1000 ≤ w.getD i 0 by omega)]
         by_cases h2 : 1000 < w.getD i 0
         · rw [decide_eq_true h2, cond_true, decide_eq_false (show ¬ w.getD i 0 ≤ 1000 by omega)]; simp
         · rw [decide_eq_false h2, cond_false, decide_eq_true (show w.getD i 0 ≤ 1000 by omega), wn i (by omega)]
           refine (ih (i + 1) (by omega) (by omega)).trans ?_
           simp
     · have e1 : decide ((i : Int) < ((w.length : Nat) : Int)) = false := by simp; omega
       rw [e1, cond_false, List.drop_eq_nil_of_le (by omega)]; rfl
 have h0 := this 2000 0 (by omega) (by omega)
 rw [List.drop_zero] at h0
 exact h0
end Go.Pv
namespace Go.Pv
end Go.Pv
namespace Go.Pv
theorem awake_true : g29 2000 = some true := by kernel_rfl
end Go.Pv
namespace Go.Pv
theorem dot_at1 (w : Vec) {p : Nat} (hp : p < 5) : dot w (at1 p) = w p := by
 unfold dot at1
 have : p = 0 ∨ p = 1 ∨ p = 2 ∨ p = 3 ∨ p = 4 := by omega
 rcases this with rfl | rfl | rfl | rfl | rfl <;> simp
theorem dot_chg (w : Vec) {n p q s t : Nat} (hn : n ≤ 5) (hp : p < n) (hq : q < n) (hs : s < n) (ht : t < n) : dot w (fv (chg n [(p : Int), (q : Int), (s : Int), (t : Int)])) = w p + w q - w s - w t := by
 have e : fv (chg n [(p : Int), (q : Int), (s : Int), (t : Int)]) = fun k => at1 p k + at1 q k - at1 s k - at1 t k := funext (fv_chg hp hq hs ht)
 have h1 := dot_at1 w (p := p) (by omega)
 have h2 := dot_at1 w (p := q) (by omega)
 have h3 := dot_at1 w (p := s) (by omega)
 have h4 := dot_at1 w (p := t) (by omega)
 rw [e, ← h1, ← h2, ← h3, ← h4]
 unfold dot
 grind
structure WK (x : PP) (w : List Int) : Prop where
 len : (w.length : Int) = x.1
 bd : Bdd 512 (fv w)
 kept : ∀ r ∈ x.2.2.2.1, dot (fv w) (fv (chg x.1.toNat r)) = 0
theorem WK.ok {x : PP} {w : List Int} (h : WK x w) : wOk w = true := by
 unfold wOk
 rw [List.all_eq_true]
 intro y hy
 obtain ⟨k, hk, rfl⟩ := List.getElem_of_mem hy
 have := h.bd k
 unfold fv at this
 rw [List.getD_eq_getElem?_getD, List.getElem?_eq_getElem hk, Option.getD_some] at this
 simp; omega
theorem WK.all {x : PP} (hx : PT x) {w : List Int} (h : WK x w) : x.2.2.2.1.all (okR w 0) = true := by
 rw [List.all_eq_true]
 intro r hr
 have hk := h.kept r hr
 have hn := hx.n
 obtain ⟨p, q, s, t, rfl, hp, hq, hs, ht⟩ := rule_nat (hx.rules.2.1 r hr)
 rw [dot_chg _ (by omega) (by omega) (by omega) (by omega) (by omega)] at hk
 have bp := h.bd p
 have bq := h.bd q
 have bs := h.bd s
 have bt := h.bd t
 unfold okR dW
 rw [if_pos rfl]
 simp only [List.getD_cons_zero, List.getD_cons_succ, Int.toNat_natCast]
 unfold fv at hk bp bq bs bt
 rw [w64 (x := w.getD p 0 + w.getD q 0) (by omega) (by omega), w64 (x := w.getD p 0 + w.getD q 0 - w.getD s 0) (by omega) (by omega), w64 (by omega) (by omega)]
 exact decide_eq_true hk
end Go.Pv
namespace Go.Pv
theorem kept_fill {C : Type} (k0 : List Int → Int → Int → PP → PP → List Int → Option C) {x : PP} (hx : PT x) (l : List Int) (m r : Int) :
   ∀ (F i : Nat) (w : List Int), x.1.toNat - i < F → i ≤ x.1.toNat → w.length = i → ∃ w' : List Int, w'.length = x.1.toNat ∧ g4L1042746f 2000 F k0 l m r (i : Int) x x w = k0 l m r x x w'
 | 0, i, w, h, _, _ => by omega
 | F + 1, i, w, h, hi, hw => by
   rw [g4L1042746f_succ]
   unfold g4L1042746B
   have hn := hx.n
   by_cases hlt : i < x.1.toNat
   · have e1 : decide ((i : Int) < x.1) = true := by simp; omega
     have hmx : ∀ v : Int, w.length + List.length [v] ≤ maxCount := fun v => by simp [maxCount]; omega
     have hmx1 : w.length + List.length ([1] : List Nat) ≤ maxCount := by simp [maxCount]; omega
     have go : ∀ v : Int, ∃ w' : List Int, w'.length = x.1.toNat ∧ g4L1042746f 2000 F k0 l m r ((i + 1 : Nat) : Int) x x (w ++ [v]) = k0 l m r x x w' := fun v => kept_fill k0 hx l m r F (i + 1) (w ++ [v]) (by omega) (by omega) (by simp [hw])
     rw [e1, cond_true, wn i (by omega)]
     by_cases h2 : i < l.length
     · have e2 : decide ((i : Int) < ((l.length : Nat) : Int)) = true := by simp; omega
       rw [e2, cond_true]
       by_cases h3 : r = 0
       · subst h3
         rw [ieq_self, cond_true, if_pos (ix h2), if_pos (hmx _)]
         exact go _
       · rw [show ieq r 0 = false from decide_eq_false h3, cond_false, if_pos hmx1]
         exact go 1
     · have e2 : decide ((i : Int) < ((l.length : Nat) : Int)) = false := by simp; omega
       rw [e2, cond_false, if_pos hmx1]
       exact go 1
   · have e1 : decide ((i : Int) < x.1) = false := by simp; omega
     rw [e1, cond_false]
     exact ⟨w, by omega, rfl⟩
theorem kept_round {C : Type} (rec : List Int → Int → List Int → Int → PP → PP → Option C) (k0 : Bool → PP → PP → Option C) (k1 : PP → PP → Option C) {x : PP} (hx : PT x) (l w : List Int) (m i : Int) (hi : i < 3) (hw : w.length ≤ 100) :
   ∃ (w' : List Int) (m' : Int), w'.length ≤ 100 ∧ g4L1018B 2000 rec k0 k1 l m w i x x = rec l m' w' (IntKind.wrap .i64 (i + 1)) x x := by
 have hn := hx.n
 have ei : decide (i < 3) = true := by simpa using hi
 obtain ⟨w', h1, h2⟩ := kept_fill (fun e8 e9 e10 e11 e12 e13 => rec e8 (IntKind.wrap .i64 (Int.tmod (IntKind.wrap .u64 e9) 4)) e13 (IntKind.wrap .i64 (e10 + 1)) e11 e12) hx l m i 2000 0 [] (by omega) (by omega) rfl
 simp only [Int.natCast_zero] at h2
 refine ⟨w', _, by omega, Eq.trans ?_ h2⟩
 rw [← g4L1042746_eq]
 unfold g4L1018B
 rw [ei, cond_true, kept32 hx hw m, weights33 (x := x) hw]
 simp only [Option.bind_some]
 by_cases hW : (w.length : Int) = x.1 ∧ wOk w = true
 · obtain ⟨hl, ho⟩ := hW
   rw [ho, decide_eq_true hl]
   simp only [Bool.and_self, Bool.not_true, cond_false]
   by_cases hm : m < 0
   · rw [decide_eq_true hm, cond_true, if_neg (fun h => by omega)]
     simp only [ieq_self, Bool.not_true, cond_false]
   · rw [decide_eq_false hm, cond_false]
     by_cases hm2 : 1000 < m
     · rw [decide_eq_true hm2, cond_true, if_neg (fun h => by omega)]
       simp only [ieq_self, Bool.not_true, cond_false]
     · rw [decide_eq_false hm2, cond_false, if_pos ⟨hl, trivial, by omega, by omega⟩, kept34 hx hl (by omega)]
       simp only [ieq_self, Bool.not_true, cond_false, Option.bind_some]
       rw [show beqB (x.2.2.2.1.all (okR w m)) (x.2.2.2.1.all (okR w m)) = true by unfold beqB; simp, Bool.not_true, cond_false]
 · have hf : (wOk w && decide ((w.length : Int) = x.1)) = false := by
     cases ho : wOk w with
     | false => rfl
     | true =>
       have : ¬ ((w.length : Int) = x.1) := fun h => hW ⟨h, ho⟩
       simp [this]
   rw [hf, Bool.not_false, cond_true, if_neg (fun h => hW ⟨h.1, h.2.1⟩)]
   simp only [ieq_self, Bool.not_true, cond_false]
theorem tallyKept_plain (p : PP) (l : List Int) (m : Int) : g4 2000 p l m = some true := by
 unfold g4
 obtain ⟨x, ex, hx, _⟩ := tame_eq 2000 (by omega) p 5 (by omega) (by omega)
 have hn := hx.n
 obtain ⟨t, R, mm, hB, hg⟩ := basis67 hx
 rw [ex]
 simp only [Option.bind_some]
 rw [hx.given 2000, few_eq 2000 l 6 (by omega) (by omega)]
 simp only [Option.bind_some]
 rw [weighs30 hx hB hg, weighs31 hx hB]
 simp only [Option.bind_some, ieq_self, Bool.not_true, cond_false]
 rw [g4L1018_eq, show (2000 : Nat) = 1996 + 1 + 1 + 1 + 1 from rfl, g4L1018f_succ]
 obtain ⟨w1, m1, h1, e1⟩ := kept_round (fun a b c d e f => g4L1018f (1996 + 1 + 1 + 1 + 1) (1996 + 1 + 1 + 1) (fun e33 e34 e35 => some e33) (fun e36 e37 => Option.bind (g29 (1996 + 1 + 1 + 1 + 1)) fun r38 => some r38) a b c d e f) (fun e33 e34 e35 => some e33) (fun e36 e37 => Option.bind (g29 (1996 + 1 + 1 + 1 + 1)) fun r38 => some r38) hx l (l.take (Int.toNat 6)) m 0 (by omega) (by simp; omega)
 refine e1.trans ?_
 rw [g4L1018f_succ]
 obtain ⟨w2, m2, h2, e2⟩ := kept_round (fun a b c d e f => g4L1018f (1996 + 1 + 1 + 1 + 1) (1996 + 1 + 1) (fun e33 e34 e35 => some e33) (fun e36 e37 => Option.bind (g29 (1996 + 1 + 1 + 1 + 1)) fun r38 => some r38) a b c d e f) (fun e33 e34 e35 => some e33) (fun e36 e37 => Option.bind (g29 (1996 + 1 + 1 + 1 + 1)) fun r38 => some r38) hx l w1 m1 (IntKind.wrap .i64 (0 + 1)) (by decide) h1
 refine e2.trans ?_
 rw [g4L1018f_succ]
 obtain ⟨w3, m3, h3, e3⟩ := kept_round (fun a b c d e f => g4L1018f (1996 + 1 + 1 + 1 + 1) (1996 + 1) (fun e33 e34 e35 => some e33) (fun e36 e37 => Option.bind (g29 (1996 + 1 + 1 + 1 + 1)) fun r38 => some r38) a b c d e f) (fun e33 e34 e35 => some e33) (fun e36 e37 => Option.bind (g29 (1996 + 1 + 1 + 1 + 1)) fun r38 => some r38) hx l w2 m2 (IntKind.wrap .i64 (IntKind.wrap .i64 (0 + 1) + 1)) (by decide) h2
 refine e3.trans ?_
 rw [g4L1018f_succ]
 unfold g4L1018B
 have e4 : decide (IntKind.wrap .i64 (IntKind.wrap .i64 (IntKind.wrap .i64 (0 + 1) + 1) + 1) < 3) = false := by decide
 rw [e4, cond_false]
 show (Option.bind (g29 2000) fun r38 => some r38) = some true
 rw [awake_true]; rfl
end Go.Pv
