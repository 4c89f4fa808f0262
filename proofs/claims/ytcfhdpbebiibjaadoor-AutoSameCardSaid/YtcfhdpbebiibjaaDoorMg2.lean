/- Plain texts, merged: PlKer, PlBt, PlMo, PlDk, PlBk, PlSm. -/
import Derived.Test.YtcfhdpbebiibjaaDoorMg1
import Derived.KernelRfl
/- Plain: machines begun at another state; states that are met. -/
set_option linter.unusedVariables false
set_option linter.unusedSimpArgs false
namespace Go.Pv
theorem WM.tame {F : MM} (hw : WM F) (hb : 2 ≤ F.1 ∧ F.1 ≤ 5) (hn : F.2.1.length ≤ 12) (hz : Zed F) : Tame F := by
 refine ⟨hb, ⟨hw.many, hn⟩, hw.out, hw.next, fun r hr => ?_, fun s hs => hz s hs⟩
 obtain ⟨i, hi, rfl⟩ := List.getElem_of_mem hr
 have hi' : i < F.2.1.length := by rw [← hw.next]; exact hi
 have e : F.2.2.1.getD i [] = F.2.2.1[i] := getD_of hi []
 exact ⟨by rw [← e]; exact hw.row i hi', fun t ht => hw.rng i hi' t (by rw [e]; exact ht)⟩
theorem open_ok (N : Nat) (y z : MM) (hy : g56 (N + 3) y = some 0) (hz : g56 (N + 3) z = some 0) : g78 (N + 3) [y, z] = some 0 := by
 unfold g78
 rw [g78L26_eq]
 show g78L26f (N + 3) (N + 3) (fun e2 => some e2) (some 0) [y, z] 2 0 = some 0
 rw [g78L26f_succ]
 unfold g78L26B
 rw [show decide ((0 : Int) < 2) = true from rfl, cond_true, if_pos (⟨by omega, by simp⟩ : idx 0 _), show [y, z].getD (Int.toNat 0) (0, [], [], ()) = y from rfl, hy, Option.bind_some, not_ieq_self, cond_false, w64 (by omega) (by omega)]
 show g78L26f (N + 3) (N + 1 + 1) (fun e2 => some e2) (some 0) [y, z] 2 (0 + 1) = some 0
 rw [g78L26f_succ]
 unfold g78L26B
 rw [show decide ((0 + 1 : Int) < 2) = true from rfl, cond_true, if_pos (⟨by omega, by simp⟩ : idx (0 + 1) _), show [y, z].getD (Int.toNat (0 + 1)) (0, [], [], ()) = z from rfl, hz, Option.bind_some, not_ieq_self, cond_false, w64 (by omega) (by omega)]
 show g78L26f (N + 3) (N + 1) (fun e2 => some e2) (some 0) [y, z] 2 (0 + 1 + 1) = some 0
 rw [g78L26f_succ]
 unfold g78L26B
 rw [show decide ((0 + 1 + 1 : Int) < 2) = false from rfl, cond_false]
theorem same_eq {x y : MM} (hx : Tame x) (hy : Tame y) (hb : y.1 = x.1) (N : Nat) (hN : 1300 < N) : ∃ v d, g47 N x y = some (v, !d, 0, ()) ∧ (d = false ↔ Same x y 0 0) := by
 have m1 := hx.many; have m2 := hy.many
 obtain ⟨F, e1, _, b1, f1, s1, l1, _⟩ := forms_one hx.wm (by omega) N (by omega) (by omega)
 obtain ⟨G, e2, _, b2, f2, s2, l2, _⟩ := forms_one hy.wm (by omega) N (by omega) (by omega)
 have hK : F.2.1.length * G.2.1.length ≤ 12 * 12 := Nat.mul_le_mul (by omega) (by omega)
 obtain ⟨v, d, e3, h3⟩ := diff_eq f1.toWM f2.toWM (by rw [b1, b2, hb]) N (by omega) (by omega) (by omega)
 refine ⟨v, d, ?_, h3.trans ⟨fun h => ?_, fun h => ?_⟩⟩
 · obtain ⟨M, rfl⟩ : ∃ M, N = M + 3 := ⟨N - 3, by omega⟩
   unfold g47
   rw [open_ok M x y (hx.check _ (by omega)) (hy.check _ (by omega)), Option.bind_some, not_ieq_self, cond_false, hb, not_ieq_self, cond_false, e1, Option.bind_some, e2, Option.bind_some, e3]; rfl
 · exact ((s1.symm b1.symm).trans b1 h).trans (by rw [b2, hb]) s2
 · exact (s1.trans b1.symm h).trans (by rw [b1, hb]) (s2.symm b2.symm)
end Go.Pv
namespace Go.Pv
def boOut (x y : MM) (t : List (List Int)) (p : PP) : Int := (t.getD (oM x p.1.toNat).toNat []).getD (oM y p.2.1.toNat).toNat 0
theorem bo_out {x y : MM} (hx : WM x) (hy : WM y) {t : List (List Int)} (ht : Tab t) {p : PP} (hp : InP x y p) :
   idx p.1 x.2.1.length ∧ idx (x.2.1.getD p.1.toNat 0) t.length ∧ idx p.2.1 y.2.1.length ∧ idx (y.2.1.getD p.2.1.toNat 0) (t.getD (x.2.1.getD p.1.toNat 0).toNat []).length ∧ 0 ≤ boOut x y t p ∧ boOut x y t p ≤ 9 := by
 have h1 := hp.s; have h2 := hp.t
 have o1 := hx.oAt (s := p.1.toNat) (by omega)
 have o2 := hy.oAt (s := p.2.1.toNat) (by omega)
 have hl := ht.len
 have hr := ht.row _ (getD_mem (l := t) (i := (oM x p.1.toNat).toNat) (by omega) [])
 have hl2 := hr.len
 have o1' : 0 ≤ x.2.1.getD p.1.toNat 0 ∧ x.2.1.getD p.1.toNat 0 ≤ 9 := o1
 have o2' : 0 ≤ y.2.1.getD p.2.1.toNat 0 ∧ y.2.1.getD p.2.1.toNat 0 ≤ 9 := o2
 have hl3 : (t.getD (x.2.1.getD p.1.toNat 0).toNat []).length = 10 := hl2
 refine ⟨⟨by omega, by omega⟩, ⟨by omega, by omega⟩, ⟨by omega, by omega⟩, ⟨by omega, by omega⟩, ?_⟩
 exact to_rng hr o2.1 o2.2
theorem bo_next {x y : MM} (hx : WM x) (hy : WM y) (hb : y.1 = x.1) {p : PP} (hp : InP x y p) {r : Nat} (hr : (r : Int) < x.1) :
   idx p.1 x.2.2.1.length ∧ idx (r : Int) (x.2.2.1.getD p.1.toNat []).length ∧ idx p.2.1 y.2.2.1.length ∧ idx (r : Int) (y.2.2.1.getD p.2.1.toNat []).length ∧
     (x.2.2.1.getD p.1.toNat []).getD r 0 = (dM x p.1.toNat r : Int) ∧ (y.2.2.1.getD p.2.1.toNat []).getD r 0 = (dM y p.2.1.toNat r : Int) := by
 have h1 := hp.s; have h2 := hp.t
 have a1 := hx.nat h1.1 h1.2 hr
 have a2 := hy.nat h2.1 h2.2 (r := r) (by omega)
 have r1 := hx.row p.1.toNat (by omega)
 have r2 := hy.row p.2.1.toNat (by omega)
 have n1 := hx.next; have n2 := hy.next
 exact ⟨⟨by omega, by omega⟩, ⟨by omega, by omega⟩, ⟨by omega, by omega⟩, ⟨by omega, by omega⟩, a1.1, a2.1⟩
theorem ref_both_row (N : Nat) {x y : MM} (hx : WM x) (hy : WM y) (hb : y.1 = x.1) {D : Type} (k0 : List (List Int) → Int → Int → Int → MM → MM → Int → Int → List Int → List (List Int) → List (List Int × Int) → List Int → List (List Int) → List Int → List (List Int) → Option D)
   (tb : List (List Int)) (i : Int) (t : PP) (ht : InP x y t) (a1 a2 : Int) (u1 : List Int) (u2 : List (List Int)) (o1 : List Int) (o2 : List (List Int)) :
   ∀ (F r : Nat) (row : List Int) (q : List PP), x.1.toNat - r < F → (r : Int) ≤ x.1 → row.length ≤ r → q.length ≤ 100000 + r →
     g53L128154f N F k0 tb i t.1 t.2.1 (r : Int) x y a1 a2 row (q.map arrP) (mpairs 0 (q.map arrP)) u1 u2 o1 o2 =
       k0 tb i t.1 t.2.1 x y a1 a2 (bfsRow idK (nxP x y) t ((List.range x.1.toNat).drop r) row q).1 ((bfsRow idK (nxP x y) t ((List.range x.1.toNat).drop r) row q).2.map arrP) (mpairs 0 ((bfsRow idK (nxP x y) t ((List.range x.1.toNat).drop r) row q).2.map arrP)) u1 u2 o1 o2
 | 0, r, row, q, hF, _, _, _ => by omega
 | F + 1, r, row, q, hF, hr, h1, h2 => by
   rw [g53L128154f_succ]
   unfold g53L128154B
   have hbx := hx.base
   by_cases hlt : (r : Int) < x.1
   · obtain ⟨i1, i2, i3, i4, i5, i6⟩ := bo_next hx hy hb ht (r := r) hlt
     rw [decide_eq_true hlt, cond_true, if_pos i1, if_pos i2, if_pos i3, if_pos i4]
     simp only [Int.toNat_natCast]
     rw [i5, i6, set_pair, range_drop (by omega)]
     unfold bfsRow
     rw [map_idK]
     rw [show ([(dM x t.1.toNat r : Int), (dM y t.2.1.toNat r : Int)] : List Int) = arrP (nxP x y t r) from rfl]
     unfold g65
     rw [find_mpairs (arr_eq 2)]
     by_cases hm : nxP x y t r ∈ q
     · rw [if_pos ((mem_inj (fun a b => arrP_inj)).2 hm), if_pos hm]
       simp only [Option.isSome_some, Bool.not_true, cond_false, Option.bind_some]
       rw [if_pos (by simp only [List.length_cons, List.length_nil, maxCount]; omega), Option.getD_some, wn r (by omega), Nat.zero_add, posOf_inj_map (fun a b => arrP_inj)]
       exact ref_both_row N hx hy hb k0 tb i t ht a1 a2 u1 u2 o1 o2 F (r + 1) _ q (by omega) (by omega) (by simp; omega) (by omega)
     · rw [if_neg (fun h => hm ((mem_inj (fun a b => arrP_inj)).1 h)), if_neg hm]
       simp only [Option.isSome_none, Bool.not_false, cond_true, Option.bind_some, Bool.not_false]
       rw [if_pos (by simp only [List.length_cons, List.length_nil, List.length_map, maxCount]; omega), if_pos (by simp only [List.length_cons, List.length_nil, maxCount]; omega), wn r (by omega)]
       rw [put_mpairs (arr_eq 2) _ _ _ _ (fun h => hm ((mem_inj (fun a b => arrP_inj)).1 h)), show mpairs 0 (q.map arrP) ++ [(arrP (nxP x y t r), ((q.map arrP).length : Int))] = mpairs 0 ((q ++ [nxP x y t r]).map arrP) by rw [List.map_append, List.map_cons, List.map_nil, mpairs_snoc]; simp]
       rw [show q.map arrP ++ [arrP (nxP x y t r)] = (q ++ [nxP x y t r]).map arrP by simp, List.length_map]
       exact ref_both_row N hx hy hb k0 tb i t ht a1 a2 u1 u2 o1 o2 F (r + 1) _ _ (by omega) (by omega) (by simp; omega) (by simp; omega)
   · rw [decide_eq_false hlt, cond_false, List.drop_of_length_le (by simp; omega)]; rfl
end Go.Pv
namespace Go.Pv
def Eqk (b : Nat → List Nat → Int) (ok : Nat → Prop) (k i j : Nat) : Prop := ∀ w : List Nat, (∀ r ∈ w, ok r) → w.length ≤ k → b i w = b j w
section
variable {b : Nat → List Nat → Int} {ok : Nat → Prop}
theorem Eqk.symm {k i j : Nat} (h : Eqk b ok k i j) : Eqk b ok k j i := fun w h1 h2 => (h w h1 h2).symm
theorem Eqk.trans {k i j l : Nat} (h : Eqk b ok k i j) (g : Eqk b ok k j l) : Eqk b ok k i l := fun w h1 h2 => (h w h1 h2).trans (g w h1 h2)
theorem Eqk.less {k i j : Nat} (h : Eqk b ok (k + 1) i j) : Eqk b ok k i j := fun w h1 h2 => h w h1 (by omega)
theorem moore_grow {K k : Nat} {l : List Nat} (hl : l.Pairwise fun i j => ¬ Eqk b ok k i j) (hK : ∀ i ∈ l, i < K) {s t : Nat} (hs : s < K) (ht : t < K) (h1 : Eqk b ok k s t) (h2 : ¬ Eqk b ok (k + 1) s t) :
   ∃ l' : List Nat, l'.length = l.length + 1 ∧ (l'.Pairwise fun i j => ¬ Eqk b ok (k + 1) i j) ∧ ∀ i ∈ l', i < K := by
 by_cases hex : ∃ a ∈ l, Eqk b ok k s a
 · obtain ⟨a, ha, hsa⟩ := hex
   obtain ⟨l1, l2, rfl⟩ := List.append_of_mem ha
   have hp : (a :: (l1 ++ l2)).Pairwise fun i j => ¬ Eqk b ok k i j :=
     (List.perm_middle (a := a) (l₁ := l1) (l₂ := l2)).pairwise hl (fun {i j} h e => h e.symm)
   obtain ⟨p1, p2⟩ := List.pairwise_cons.1 hp
   refine ⟨s :: t :: (l1 ++ l2), by simp; omega, ?_, fun i hi => ?_⟩
   · refine List.pairwise_cons.2 ⟨fun c hc => ?_, List.pairwise_cons.2 ⟨fun c hc => ?_, p2.imp fun {i j} h e => h e.less⟩⟩
     · rcases List.mem_cons.1 hc with rfl | hc
       · exact h2
       · exact fun e => p1 c hc (hsa.symm.trans e.less)
     · exact fun e => p1 c hc (hsa.symm.trans (h1.trans e.less))
   · rcases List.mem_cons.1 hi with rfl | hi
     · exact hs
     · rcases List.mem_cons.1 hi with rfl | hi
       · exact ht
       · exact hK i (by
           rcases List.mem_append.1 hi with hi | hi
           · simp [hi]
           · simp [hi])
 · refine ⟨s :: l, by simp, List.pairwise_cons.2 ⟨fun c hc e => hex ⟨c, hc, e.less⟩, hl.imp fun {i j} h e => h e.less⟩, fun i hi => ?_⟩
   rcases List.mem_cons.1 hi with rfl | hi
   · exact hs
   · exact hK i hi
theorem moore_chain {K : Nat} (h0 : 0 < K) : ∀ k : Nat, (∃ j, j < k ∧ ∀ s t, s < K → t < K → Eqk b ok j s t → Eqk b ok (j + 1) s t) ∨ ∃ l : List Nat, l.length = k + 1 ∧ (l.Pairwise fun i j => ¬ Eqk b ok k i j) ∧ ∀ i ∈ l, i < K
 | 0 => .inr ⟨[0], rfl, by simp, fun i hi => by simp at hi; omega⟩
 | k + 1 => by
   rcases moore_chain h0 k with ⟨j, h1, h2⟩ | ⟨l, l1, l2, l3⟩
   · exact .inl ⟨j, by omega, h2⟩
   · by_cases hst : ∀ s t, s < K → t < K → Eqk b ok k s t → Eqk b ok (k + 1) s t
     · exact .inl ⟨k, by omega, hst⟩
     · simp only [Classical.not_forall, not_imp] at hst
       obtain ⟨s, t, hs, ht, h1, h2⟩ := hst
       obtain ⟨l', q1, q2, q3⟩ := moore_grow l2 l3 hs ht h1 h2
       exact .inr ⟨l', by omega, q2, q3⟩
theorem moore {K : Nat} (h0 : 0 < K) (δ : Nat → Nat → Nat) (hstep : ∀ i, i < K → ∀ r, ok r → ∀ w, b i (r :: w) = b (δ i r) w) (hlt : ∀ i, i < K → ∀ r, ok r → δ i r < K) {s t : Nat} (hs : s < K) (ht : t < K)
   (h : ∀ w : List Nat, (∀ r ∈ w, ok r) → w.length < K → b s w = b t w) : ∀ w : List Nat, (∀ r ∈ w, ok r) → b s w = b t w := by
 rcases moore_chain (b := b) (ok := ok) h0 K with ⟨j, hj, hst⟩ | ⟨l, l1, l2, l3⟩
 · have key : ∀ (w : List Nat) (s t : Nat), s < K → t < K → Eqk b ok j s t → (∀ r ∈ w, ok r) → b s w = b t w := by
     intro w
     induction w with
     | nil => intro s t _ _ h _; exact h [] (by simp) (by simp)
     | cons r w ih =>
       intro s t hs ht h hw
       have hr : ok r := hw r (by simp)
       have h' := hst s t hs ht h
       rw [hstep s hs r hr, hstep t ht r hr]
       refine ih _ _ (hlt s hs r hr) (hlt t ht r hr) (fun u hu hl => ?_) (fun q hq => hw q (by simp [hq]))
       rw [← hstep s hs r hr, ← hstep t ht r hr]
       exact h' (r :: u) (fun q hq => by
         rcases List.mem_cons.1 hq with rfl | hq
         · exact hr
         · exact hu q hq) (by simp; omega)
   exact fun w hw => key w s t hs ht (fun u hu hl => h u hu (by omega)) hw
 · exfalso
   have hn : (l.map fun i : Nat => (i : Int)).Nodup := by
     unfold List.Nodup
     rw [List.pairwise_map]
     exact l2.imp fun {i j} h e => h (by
       have : i = j := by omega
       subst this
       exact fun w _ _ => rfl)
   have := pigeon K _ hn (fun v hv => by
     obtain ⟨i, hi, rfl⟩ := List.mem_map.1 hv
     have := l3 i hi
     omega)
   rw [List.length_map] at this
   omega
end
theorem moore_two {x y : MM} (hx : WM x) (hy : WM y) (hb : y.1 = x.1) {s t : Nat} (hs : s < x.2.1.length) (ht : t < y.2.1.length) (h : ∀ w : List Nat, (∀ r ∈ w, (r : Int) < x.1) → w.length < x.2.1.length + y.2.1.length → beh x s w = beh y t w) : Same x y s t := by
 have := moore (K := x.2.1.length + y.2.1.length) (b := fun i w => if i < x.2.1.length then beh x i w else beh y (i - x.2.1.length) w) (ok := fun r => (r : Int) < x.1) (by omega)
   (fun i r => if i < x.2.1.length then dM x i r else x.2.1.length + dM y (i - x.2.1.length) r) (fun i hi r hr w => ?_) (fun i hi r hr => ?_) (s := s) (t := x.2.1.length + t) (by omega) (by omega) (fun w h1 h2 => ?_)
 · intro w hw
   have := this w hw
   rw [if_pos hs, if_neg (by omega), Nat.add_sub_cancel_left] at this
   exact this
 · by_cases hl : i < x.2.1.length
   · rw [if_pos hl, if_pos hl, if_pos (hx.at hl hr).2]; rfl
   · rw [if_neg hl, if_neg hl, if_neg (by omega), Nat.add_sub_cancel_left]; rfl
 · by_cases hl : i < x.2.1.length
   · rw [if_pos hl]
     have := (hx.at hl hr).2
     omega
   · rw [if_neg hl]
     have := (hy.at (s := i - x.2.1.length) (r := r) (by omega) (by rw [hb]; exact hr)).2
     omega
 · rw [if_pos hs, if_neg (by omega), Nat.add_sub_cancel_left]
   exact h w h1 h2
def go (x : MM) : Nat → List Nat → Nat
 | s, [] => s
 | s, r :: w => go x (dM x s r) w
theorem go_snoc (x : MM) : ∀ (w : List Nat) (s r : Nat), go x s (w ++ [r]) = dM x (go x s w) r
 | [], _, _ => rfl
 | q :: w, s, r => go_snoc x w (dM x s q) r
theorem beh_go (x : MM) : ∀ (w : List Nat) (s : Nat), beh x s w = oM x (go x s w)
 | [], _ => rfl
 | r :: w, s => beh_go x w (dM x s r)
theorem go_lt {x : MM} (hx : WM x) : ∀ (w : List Nat) (s : Nat), s < x.2.1.length → (∀ r ∈ w, (r : Int) < x.1) → go x s w < x.2.1.length
 | [], s, hs, _ => hs
 | r :: w, s, hs, hw => go_lt hx w _ (hx.at hs (hw r (by simp))).2 (fun q hq => hw q (by simp [hq]))
end Go.Pv
namespace Go.Pv
def runP (x y : MM) (w : List Nat) : PP := ((go x 0 w : Int), (go y 0 w : Int), ())
abbrev okW (x : MM) (w : List Nat) : Prop := ∀ r ∈ w, (r : Int) < x.1
theorem runP_snoc (x y : MM) (w : List Nat) (r : Nat) : nxP x y (runP x y w) r = runP x y (w ++ [r]) := by
 unfold nxP runP
 simp only [Int.toNat_natCast, go_snoc]
theorem okW_snoc {x : MM} {w : List Nat} {r : Nat} : okW x (w ++ [r]) ↔ okW x w ∧ (r : Int) < x.1 := by
 constructor
 · intro h
   exact ⟨fun q hq => h q (List.mem_append_left _ hq), h r (by simp)⟩
 · intro h q hq
   rcases List.mem_append.1 hq with hq | hq
   · exact h.1 q hq
   · simp only [List.mem_cons, List.not_mem_nil, or_false] at hq
     subst hq; exact h.2
theorem okW_nil (x : MM) : okW x [] := fun r hr => by cases hr
theorem runP_in {x y : MM} (hx : WM x) (hy : WM y) (hb : y.1 = x.1) {w : List Nat} (hw : okW x w) : InP x y (runP x y w) := by
 have h1 := go_lt hx w 0 hx.many hw
 have h2 := go_lt hy w 0 hy.many (by rw [hb]; exact hw)
 exact ⟨⟨by unfold runP; simp only; omega, by unfold runP; simp only; omega⟩, ⟨by unfold runP; simp only; omega, by unfold runP; simp only; omega⟩⟩
theorem sub_len {D E : List PP} (hn : D.Nodup) (h : ∀ p ∈ D, p ∈ E) : D.length ≤ E.length :=
 pigeon_num (P := fun p => p ∈ E) (K := E.length) idK (fun p : PP => (posOf p E : Int)) (fun s t hs ht he => by
   have h1 := posOf_get hs
   have h2 := posOf_get ht
   have he2 : (posOf s E : Int) = (posOf t E : Int) := he
   have he3 : posOf s E = posOf t E := by omega
   rw [he3] at h1
   rw [h1] at h2
   exact Option.some.inj h2) (fun s hs => by
   have := posOf_lt hs
   show 0 ≤ (posOf s E : Int) ∧ (posOf s E : Int) < (E.length : Int)
   omega) h (by rw [map_idK]; exact hn)
structure DK (x y : MM) (mp : List (PP × (PP × Int × Unit))) (D : List PP) (W : List (List Nat)) (h : Nat) : Prop where
 keys : mp.map (·.1) = D
 nd : D.Nodup
 len : W.length = D.length
 zero : 1 ≤ D.length ∧ D.getD 0 dP = dP ∧ W.getD 0 [] = []
 run : ∀ i, i < D.length → okW x (W.getD i []) ∧ D.getD i dP = runP x y (W.getD i [])
 par : ∀ i, 0 < i → i < D.length → ∃ j r : Nat, j < i ∧ mapFind ppB (D.getD i dP) mp = some (D.getD j dP, (r : Int), ()) ∧ W.getD i [] = W.getD j [] ++ [r]
 mono : ∀ i j, i ≤ j → j < D.length → (W.getD i []).length ≤ (W.getD j []).length
 top : h < D.length → ∀ j, j < D.length → (W.getD j []).length ≤ (W.getD h []).length + 1
 done : ∀ i, i < h → i < D.length → oM x (D.getD i dP).1.toNat = oM y (D.getD i dP).2.1.toNat ∧ ∀ r : Nat, (r : Int) < x.1 → ∃ j, j < D.length ∧ D.getD j dP = nxP x y (D.getD i dP) r ∧ (W.getD j []).length ≤ (W.getD i []).length + 1
theorem getD_last {α : Type} (l : List α) (a d : α) : (l ++ [a]).getD l.length d = a := by
 rw [List.getD_eq_getElem?_getD, List.getElem?_append_right (by omega)]; simp
theorem DK.rng {x y : MM} (hx : WM x) (hy : WM y) (hb : y.1 = x.1) {mp : List (PP × (PP × Int × Unit))} {D : List PP} {W : List (List Nat)} {h : Nat} (J : DK x y mp D W h) {i : Nat} (hi : i < D.length) : InP x y (D.getD i dP) := by
 rw [(J.run i hi).2]; exact runP_in hx hy hb (J.run i hi).1
theorem DK.len_le {x y : MM} {mp : List (PP × (PP × Int × Unit))} {D : List PP} {W : List (List Nat)} {h : Nat} (J : DK x y mp D W h) {E : List PP} (hE : ∀ w, okW x w → runP x y w ∈ E) : D.length ≤ E.length :=
 sub_len J.nd fun p hp => by
   obtain ⟨i, hi, rfl⟩ := List.getElem_of_mem hp
   have := J.run i hi
   rw [getD_of hi] at this
   rw [this.2]; exact hE _ this.1
theorem DK.push {x y : MM} {mp : List (PP × (PP × Int × Unit))} {D : List PP} {W : List (List Nat)} {h : Nat} (J : DK x y mp D W h) (hh : h < D.length) {r : Nat} (hr : (r : Int) < x.1) (hm : nxP x y (D.getD h dP) r ∉ D) :
   DK x y (mp ++ [(nxP x y (D.getD h dP) r, (D.getD h dP, (r : Int), ()))]) (D ++ [nxP x y (D.getD h dP) r]) (W ++ [W.getD h [] ++ [r]]) h := by
 have hlen := J.len
 have gl : ∀ i, i < D.length → (D ++ [nxP x y (D.getD h dP) r]).getD i dP = D.getD i dP := fun i hi => getD_append_left hi
 have gw : ∀ i, i < D.length → (W ++ [W.getD h [] ++ [r]]).getD i [] = W.getD i [] := fun i hi => getD_append_left (by omega)
 have gln : (D ++ [nxP x y (D.getD h dP) r]).getD D.length dP = nxP x y (D.getD h dP) r := getD_last _ _ _
 have gwn : (W ++ [W.getD h [] ++ [r]]).getD D.length [] = W.getD h [] ++ [r] := by rw [← hlen]; exact getD_last _ _ _
 have hz := J.zero
 have split : ∀ i, i < (D ++ [nxP x y (D.getD h dP) r]).length → i < D.length ∨ i = D.length := fun i hi => by simp at hi; omega
 refine ⟨by rw [List.map_append, J.keys]; rfl, ?_, by simp [hlen], ⟨by simp, by rw [gl 0 (by omega)]; exact hz.2.1, by rw [gw 0 (by omega)]; exact hz.2.2⟩, fun i hi => ?_, fun i h0 hi => ?_, fun i j hij hj => ?_, fun _ j hj => ?_, fun i hi hi2 => ?_⟩
 · rw [List.nodup_append]
   refine ⟨J.nd, by simp, fun a ha b hb e => ?_⟩
   simp only [List.mem_cons, List.not_mem_nil, or_false] at hb
   exact hm (hb ▸ e ▸ ha)
 · rcases split i hi with hi | rfl
   · rw [gl i hi, gw i hi]; exact J.run i hi
   · rw [gln, gwn]
     have := J.run h hh
     refine ⟨okW_snoc.2 ⟨this.1, hr⟩, ?_⟩
     rw [← runP_snoc, ← this.2]
 · rcases split i hi with hl | rfl
   · obtain ⟨j, q, h1, h2, h3⟩ := J.par i h0 hl
     refine ⟨j, q, h1, ?_, ?_⟩
     · rw [gl i hl, gl j (by omega), find_old _ _ _ (by rw [J.keys]; exact getD_mem hl dP), h2]
     · rw [gw i hl, gw j (by omega), h3]
   · refine ⟨h, r, hh, ?_, ?_⟩
     · rw [gl h hh, gln, find_new _ _ _ (by rw [J.keys]; exact hm)]
     · rw [gw h hh, gwn]
 · rcases split j hj with hl | rfl
   · rw [gw j hl, gw i (by omega)]; exact J.mono i j hij hl
   · rw [gwn]
     by_cases hl : i < D.length
     · rw [gw i hl]
       have := J.top hh i hl
       simpa using this
     · have : i = D.length := by omega
       subst this
       rw [gwn]; omega
 · rw [gw h hh]
   rcases split j hj with hl | rfl
   · rw [gw j hl]; exact J.top hh j hl
   · rw [gwn]; simp
 · have hl : i < D.length := by omega
   rw [gl i hl, gw i hl]
   obtain ⟨h1, h2⟩ := J.done i hi hl
   refine ⟨h1, fun q hq => ?_⟩
   obtain ⟨j, j1, j2, j3⟩ := h2 q hq
   exact ⟨j, by simp; omega, by rw [gl j j1]; exact j2, by rw [gw j j1]; exact j3⟩
theorem dik_row {x y : MM} (hx : WM x) (hy : WM y) (hb : y.1 = x.1) (N : Nat) {C : Type} (k0 : Bool → MM → MM → PP → PP → List (PP × (PP × Int × Unit)) → List PP → Option C) (v : Bool) (v8 p : PP) (h : Nat) :
   ∀ (F r : Nat) (mp : List (PP × (PP × Int × Unit))) (D : List PP) (W : List (List Nat)), x.1.toNat - r < F → (r : Int) ≤ x.1 → DK x y mp D W h → h < D.length → D.getD h dP = p → D.length ≤ 100000 + r → (∀ q : Nat, q < r → nxP x y p q ∈ D) →
     ∃ mp' ext wx, g79L113758f N F k0 v x.1 (r : Int) x y v8 p mp (D.drop (h + 1)) = k0 v x y v8 p mp' ((D ++ ext).drop (h + 1)) ∧ DK x y mp' (D ++ ext) (W ++ wx) h ∧ ∀ q : Nat, (q : Int) < x.1 → nxP x y p q ∈ D ++ ext
 | 0, r, mp, D, W, hF, _, _, _, _, _, _ => by omega
 | F + 1, r, mp, D, W, hF, hr, J, hh, hp, hlen, hall => by
   rw [g79L113758f_succ]
   unfold g79L113758B
   have hbx := hx.base
   by_cases hlt : (r : Int) < x.1
   · have hin := J.rng hx hy hb hh
     rw [hp] at hin
     have h1 := hx.at (s := p.1.toNat) (by have := hin.s; omega) hlt
     have h2 := hy.at (s := p.2.1.toNat) (by have := hin.t; omega) (by rw [hb]; exact hlt)
     have r1 := hx.row p.1.toNat (by have := hin.s; omega)
     have r2 := hy.row p.2.1.toNat (by have := hin.t; omega)
     have n1 := hx.next; have n2 := hy.next
     have hs := hin.s; have ht := hin.t
     rw [decide_eq_true hlt, cond_true, if_pos (⟨by omega, by omega⟩ : idx _ _), if_pos (⟨by omega, by omega⟩ : idx _ _), if_pos (⟨by omega, by omega⟩ : idx _ _), if_pos (⟨by omega, by omega⟩ : idx _ _)]
     simp only [Int.toNat_natCast]
     rw [h1.1, h2.1]
     rw [show (((dM x p.1.toNat r : Int), (dM y p.2.1.toNat r : Int), ()) : PP) = nxP x y p r from rfl]
     by_cases hm : nxP x y p r ∈ D
     · have : (mapFind ppB (nxP x y p r) mp).isSome = true := (find_some _ _).2 (by rw [J.keys]; exact hm)
       rw [this, Bool.not_true, cond_false, wn r (by omega)]
       exact dik_row hx hy hb N k0 v v8 p h F (r + 1) mp D W (by omega) (by omega) J hh hp (by omega) (fun q hq => by
         by_cases hqr : q = r
         · subst hqr; exact hm
         · exact hall q (by omega))
     · have : (mapFind ppB (nxP x y p r) mp).isSome = false := by
         rw [← Bool.not_eq_true, find_some, J.keys]; exact hm
       rw [this, Bool.not_false, cond_true, if_pos (by simp only [List.length_cons, List.length_nil, List.length_drop, maxCount]; omega), wn r (by omega), put_new _ _ _ (by rw [J.keys]; exact hm)]
       have J' := J.push hh hlt (by rw [hp]; exact hm)
       rw [hp] at J'
       have gh : (D ++ [nxP x y p r]).getD h dP = p := by rw [getD_append_left hh]; exact hp
       have ih := dik_row hx hy hb N k0 v v8 p h F (r + 1) _ _ _ (by omega) (by omega) J' (by simp; omega) gh (by simp; omega) (fun q hq => by
         by_cases hqr : q = r
         · subst hqr; simp
         · exact List.mem_append_left _ (hall q (by omega)))
       obtain ⟨mp', ext, wx, e1, e2, e3⟩ := ih
       refine ⟨mp', nxP x y p r :: ext, (W.getD h [] ++ [r]) :: wx, ?_, ?_, ?_⟩
       · rw [List.drop_append_of_le_length (by omega)] at e1
         rw [e1]; simp
       · simpa using e2
       · simpa using e3
   · rw [decide_eq_false hlt, cond_false]
     exact ⟨mp, [], [], by simp, by simpa using J, fun q hq => by simpa using hall q (by omega)⟩
theorem dik_loop {x y : MM} (hx : WM x) (hy : WM y) (hb : y.1 = x.1) (N : Nat) (hN : 1001 < N) {E : List PP} (hE : ∀ w, okW x w → runP x y w ∈ E) (hK : E.length ≤ 60000) {C : Type} (k0 : Bool → MM → MM → PP → List (PP × (PP × Int × Unit)) → List PP → Option C) (v8 : PP) :
   ∀ (F h : Nat) (mp : List (PP × (PP × Int × Unit))) (D : List PP) (W : List (List Nat)), E.length - h < F → DK x y mp D W h → h ≤ D.length →
     (∃ mp' q, g79L444f N F k0 false x y v8 mp (D.drop h) = k0 false x y v8 mp' q ∧ Same x y 0 0) ∨
     (∃ mp' D' W' h' q, g79L444f N F k0 false x y v8 mp (D.drop h) = k0 true x y (D'.getD h' dP) mp' q ∧ h' < D'.length ∧ DK x y mp' D' W' h' ∧ oM x (D'.getD h' dP).1.toNat ≠ oM y (D'.getD h' dP).2.1.toNat)
 | 0, h, mp, D, W, hF, J, hh => by
   have hl := J.len_le hE
   omega
 | F + 1, h, mp, D, W, hF, J, hh => by
   rw [g79L444f_succ]
   unfold g79L444B
   have hl := J.len_le hE
   have hbx := hx.base
   by_cases hlt : h < D.length
   · have hne : 0 < (D.drop h).length := by rw [List.length_drop]; omega
     have e0 : D.drop h = D.getD h dP :: D.drop (h + 1) := dropD D hlt
     have hin := J.rng hx hy hb hlt
     have hs := hin.s; have ht := hin.t
     rw [decide_eq_true (show (0 : Int) < ((D.drop h).length : Int) by omega), cond_true, if_pos (⟨by omega, by omega⟩ : idx 0 (D.drop h).length), if_pos (show Int.toNat 0 < (D.drop h).length from hne), if_pos (by omega)]
     rw [show (D.drop h).getD (Int.toNat 0) (0, 0, ()) = D.getD h dP by rw [e0]; rfl, if_pos (⟨by omega, by omega⟩ : idx _ _), if_pos (⟨by omega, by omega⟩ : idx _ _)]
     rw [show List.drop (Int.toNat 1) (List.take (Int.toNat ((D.drop h).length : Int)) (D.drop h)) = D.drop (h + 1) by rw [Int.toNat_natCast, List.take_length, List.drop_drop]; rfl]
     by_cases ho : oM x (D.getD h dP).1.toNat = oM y (D.getD h dP).2.1.toNat
     · have : ieq (x.2.1.getD (D.getD h dP).1.toNat 0) (y.2.1.getD (D.getD h dP).2.1.toNat 0) = true := by
         have h1 : x.2.1.getD (D.getD h dP).1.toNat 0 = y.2.1.getD (D.getD h dP).2.1.toNat 0 := ho
         rw [h1, ieq_self]
       rw [this, Bool.not_true, cond_false, g79L113758_eq]
       have el := fun k => dik_row (C := C) hx hy hb N k false v8 (D.getD h dP) h N 0 mp D W (by omega) (by omega) J hlt rfl (by omega) (fun q hq => by omega)
       simp only [Int.natCast_zero] at el
       obtain ⟨mp', ext, wx, e1, e2, e3⟩ := el (fun e1 e2 e3 e4 e5 e6 e7 => g79L444f N F k0 e1 e2 e3 e4 e6 e7)
       refine (show _ = _ from e1) ▸ ?_
       have hle : h < (D ++ ext).length := by rw [List.length_append]; omega
       have J2 : DK x y mp' (D ++ ext) (W ++ wx) (h + 1) := ⟨e2.keys, e2.nd, e2.len, e2.zero, e2.run, e2.par, e2.mono, fun h1 j hj => by
         have := e2.top hle j hj
         have := e2.mono h (h + 1) (by omega) h1
         omega, fun i hi hi2 => by
         by_cases hih : i < h
         · exact e2.done i hih hi2
         · have : i = h := by omega
           subst this
           rw [getD_append_left hlt]
           refine ⟨ho, fun r hr => ?_⟩
           obtain ⟨j, j1, j2⟩ := List.getElem_of_mem (e3 r hr)
           exact ⟨j, j1, by rw [getD_of j1, j2], e2.top hle j j1⟩⟩
       exact dik_loop hx hy hb N hN hE hK k0 v8 F (h + 1) mp' (D ++ ext) (W ++ wx) (by omega) J2 (by simp; omega)
     · have : ieq (x.2.1.getD (D.getD h dP).1.toNat 0) (y.2.1.getD (D.getD h dP).2.1.toNat 0) = false := by
         have h1 : ¬ x.2.1.getD (D.getD h dP).1.toNat 0 = y.2.1.getD (D.getD h dP).2.1.toNat 0 := ho
         simp only [ieq, decide_eq_false_iff_not]; exact h1
       rw [this, Bool.not_false, cond_true]
       exact .inr ⟨mp, D, W, h, _, rfl, hlt, J, ho⟩
   · have : h = D.length := by omega
     subst this
     have e0 : D.drop D.length = [] := List.drop_of_length_le (by omega)
     rw [e0, decide_eq_false (show ¬ (0 : Int) < (([] : List PP).length : Int) by simp), cond_false]
     refine .inl ⟨mp, [], rfl, ?_⟩
     have key : ∀ (w : List Nat) (i : Nat), i < D.length → (∀ r ∈ w, (r : Int) < x.1) → beh x (D.getD i dP).1.toNat w = beh y (D.getD i dP).2.1.toNat w := by
       intro w
       induction w with
       | nil => intro i hi _; exact (J.done i hi hi).1
       | cons r w ih =>
         intro i hi hw
         have hr : (r : Int) < x.1 := hw r (by simp)
         obtain ⟨j, hj, he, _⟩ := (J.done i hi hi).2 r hr
         have := ih j hj (fun q hq => hw q (by simp [hq]))
         rw [he] at this
         exact this
     intro w hw
     have := key w 0 (by have := J.zero; omega) hw
     rw [J.zero.2.1] at this
     exact this
theorem DK.short {x y : MM} {mp : List (PP × (PP × Int × Unit))} {D : List PP} {W : List (List Nat)} {h : Nat} (J : DK x y mp D W h) (hh : h < D.length) : ∀ v : List Nat, okW x v.reverse → v.length < (W.getD h []).length → ∃ i, i < h ∧ D.getD i dP = runP x y v.reverse ∧ (W.getD i []).length ≤ v.length
 | [], _, hl => by
   refine ⟨0, ?_, ?_, ?_⟩
   · rcases Nat.eq_zero_or_pos h with h0 | h0
     · subst h0; rw [J.zero.2.2] at hl; simp at hl
     · exact h0
   · rw [J.zero.2.1]; rfl
   · rw [J.zero.2.2]; simp
 | r :: v, hv, hl => by
   rw [List.reverse_cons] at hv ⊢
   simp only [List.length_cons] at hl ⊢
   obtain ⟨h1, h2⟩ := okW_snoc.1 hv
   obtain ⟨i, i1, i2, i3⟩ := J.short hh v h1 (by omega)
   obtain ⟨j, j1, j2, j3⟩ := (J.done i i1 (by omega)).2 r h2
   refine ⟨j, ?_, by rw [j2, i2, runP_snoc], by omega⟩
   rcases Nat.lt_or_ge j h with hj | hj
   · exact hj
   · have := J.mono h j hj j1
     omega
theorem val_snoc (b : Nat) : ∀ (w : List Nat) (r : Nat), val b (w ++ [r]) = val b w + b ^ w.length * r
 | [], r => by simp [val]
 | q :: w, r => by
   simp only [List.cons_append, val, val_snoc b w r, List.length_cons, Nat.pow_succ]
   rw [Nat.mul_add, ← Nat.add_assoc, ← Nat.mul_assoc, Nat.mul_comm b (b ^ w.length)]
theorem val_lt {b : Nat} (hb : 1 ≤ b) : ∀ w : List Nat, (∀ r ∈ w, r < b) → val b w < b ^ w.length
 | [], _ => by simp [val]
 | r :: w, h => by
   have h1 := h r (by simp)
   have h2 := val_lt hb w (fun q hq => h q (by simp [hq]))
   simp only [val, List.length_cons, Nat.pow_succ]
   have h3 : b * (val b w + 1) ≤ b * b ^ w.length := Nat.mul_le_mul_left _ h2
   rw [Nat.mul_add, Nat.mul_one] at h3
   rw [Nat.mul_comm (b ^ w.length) b]
   omega
theorem back_num {x y : MM} (hx : WM x) (N : Nat) {mp : List (PP × (PP × Int × Unit))} {D : List PP} {W : List (List Nat)} {h : Nat} (J : DK x y mp D W h) {C : Type} (k0 : Int → MM → PP → List (PP × (PP × Int × Unit)) → Option C) :
   ∀ (F i : Nat) (v : Int), i < F → i < D.length → ∃ v' p, g79L7162f N F k0 v x (D.getD i dP) mp = k0 v' x p mp ∧ ∀ u : Nat, v = (u : Int) → x.1.toNat ^ (W.getD i []).length * (u + 1) ≤ 4611686018427387904 → v' = ((val x.1.toNat (W.getD i []) + x.1.toNat ^ (W.getD i []).length * u : Nat) : Int)
 | 0, i, v, hF, _ => by omega
 | F + 1, i, v, hF, hi => by
   rw [g79L7162f_succ]
   unfold g79L7162B
   by_cases h0 : D.getD i dP = dP
   · have hi0 : i = 0 := by
       have hz := J.zero
       have h1 : D.getD 0 dP = D.getD i dP := by rw [h0, hz.2.1]
       rw [getD_of (show 0 < D.length by omega), getD_of hi] at h1
       exact ((List.getElem_inj J.nd).1 h1).symm
     rw [h0, (pp_eq dP (0, 0, ())).2 rfl, Bool.not_true, cond_false]
     refine ⟨v, dP, rfl, fun u hu _ => ?_⟩
     subst hi0
     rw [J.zero.2.2, hu]
     simp [val]
   · have : Ty.beq (.pair (.int .i64) (.pair (.int .i64) .unit)) (D.getD i dP) (0, 0, ()) = false := by
       cases hq : Ty.beq (.pair (.int .i64) (.pair (.int .i64) .unit)) (D.getD i dP) (0, 0, ()) with
       | false => rfl
       | true => exact absurd ((pp_eq _ _).1 hq) h0
     rw [this, Bool.not_false, cond_true]
     obtain ⟨j, r, hj, he, hw⟩ := J.par i (by
       rcases Nat.eq_zero_or_pos i with h | h
       · subst h; exact absurd J.zero.2.1 h0
       · exact h) hi
     rw [show mapFind (Ty.beq (.pair (.int .i64) (.pair (.int .i64) .unit))) (D.getD i dP) mp = some (D.getD j dP, (r : Int), ()) from he, Option.getD_some]
     obtain ⟨v', p, e1, e2⟩ := back_num hx N J k0 F j (IntKind.wrap .i64 ((IntKind.wrap .i64 (v * x.1)) + (r : Int))) (by omega) (by omega)
     refine ⟨v', p, e1, fun u hu hb => ?_⟩
     have hbx := hx.base
     have eb : ((x.1.toNat : Nat) : Int) = x.1 := by omega
     have hok := (J.run i hi).1
     rw [hw] at hok hb ⊢
     have hr := (okW_snoc.1 hok).2
     simp only [List.length_append, List.length_cons, List.length_nil, Nat.zero_add, Nat.pow_succ] at hb ⊢
     have hpos : 1 ≤ x.1.toNat ^ (W.getD j []).length := Nat.pow_pos (by omega)
     have h1 : u * x.1.toNat + r + 1 ≤ x.1.toNat * (u + 1) := by
       rw [Nat.mul_add, Nat.mul_one, Nat.mul_comm x.1.toNat u]; omega
     have h2 : x.1.toNat ^ (W.getD j []).length * (u * x.1.toNat + r + 1) ≤ 4611686018427387904 := by
       refine Nat.le_trans (Nat.mul_le_mul_left _ h1) ?_
       rw [← Nat.mul_assoc]; exact hb
     have h3 : u * x.1.toNat + r + 1 ≤ 4611686018427387904 := Nat.le_trans (Nat.le_mul_of_pos_left _ hpos) h2
     have h4 : v * x.1 = ((u * x.1.toNat : Nat) : Int) := by rw [hu, Int.natCast_mul, eb]
     have := e2 (u * x.1.toNat + r) (by rw [h4, w64 (x := ((u * x.1.toNat : Nat) : Int)) (by omega) (by omega), w64 (by omega) (by omega)]; omega) h2
     rw [this, val_snoc]
     congr 1
     rw [Nat.mul_add, Nat.mul_comm u x.1.toNat, ← Nat.mul_assoc]
     omega
theorem diff_gen {x y : MM} (hx : WM x) (hy : WM y) (hb : y.1 = x.1) (N : Nat) (hN : 1001 < N) {E : List PP} (hE : ∀ w, okW x w → runP x y w ∈ E) (hK : E.length ≤ 60000) (hK2 : E.length < N) :
   ∃ v d, g79 N x y = some (v, d, ()) ∧ (d = false ∧ v = 0 ∧ Same x y 0 0 ∨ d = true ∧ ∃ w, okW x w ∧ beh x 0 w ≠ beh y 0 w ∧ (∀ u, okW x u → u.length < w.length → beh x 0 u = beh y 0 u) ∧ (x.1.toNat ^ w.length ≤ 4611686018427387904 → v = (val x.1.toNat w : Int))) := by
 have m1 := hx.many; have m2 := hy.many
 have J0 : DK x y [((0, 0, ()), ((0, 0, ()), 0, ()))] [dP] [[]] 0 := ⟨rfl, by simp, rfl, ⟨by simp, rfl, rfl⟩, fun i hi => by
   have : i = 0 := by simp at hi; omega
   subst this; exact ⟨okW_nil x, rfl⟩, fun i h0 hi => by simp at hi; omega, fun i j hij hj => by
   have : i = 0 ∧ j = 0 := by simp at hj; omega
   rw [this.1, this.2]; exact Nat.le_refl _, fun _ j hj => by
   have : j = 0 := by simp at hj; omega
   subst this; simp, fun i hi => by omega⟩
 have := dik_loop hx hy hb N hN hE hK (C := Int × Bool × Unit) (fun e8 e9 e10 e11 e12 e13 => bif (!e8) then some (0, false, ()) else g79L7162 N (fun e14 e15 e16 e17 => some (e14, true, ())) 0 e9 e11 e12) (0, 0, ()) N 0 _ _ _ (by omega) J0 (by simp)
 rw [List.drop_zero] at this
 rcases this with ⟨mp', q, e, hs⟩ | ⟨mp', D', W', h', q, e, hh, J, ho⟩
 · refine ⟨0, false, ?_, .inl ⟨rfl, rfl, hs⟩⟩
   unfold g79
   rw [g79L444_eq]
   refine Eq.trans e ?_
   rfl
 · have hl := J.len_le hE
   obtain ⟨v', p, e2, e3⟩ := back_num hx N J (fun e14 e15 e16 e17 => some (e14, true, ())) N h' 0 (by omega) hh
   have hr := J.run h' hh
   refine ⟨v', true, ?_, .inr ⟨rfl, W'.getD h' [], hr.1, ?_, fun u hu hlu => ?_, fun hp => ?_⟩⟩
   · unfold g79
     rw [g79L444_eq]
     refine Eq.trans e ?_
     rw [Bool.not_true, cond_false, g79L7162_eq]
     exact e2
   · rw [beh_go, beh_go]
     rw [hr.2] at ho
     exact ho
   · obtain ⟨i, i1, i2, _⟩ := J.short hh u.reverse (by rw [List.reverse_reverse]; exact hu) (by rw [List.length_reverse]; exact hlu)
     have := (J.done i i1 (by omega)).1
     rw [i2, List.reverse_reverse] at this
     rw [beh_go, beh_go]
     exact this
   · have := e3 0 rfl (by simpa using hp)
     simpa using this
end Go.Pv
namespace Go.Pv
theorem ref_both_loop2 (N : Nat) (hN : 1001 < N) {x y : MM} (hx : WM x) (hy : WM y) (hb : y.1 = x.1) {tb : List (List Int)} (htb : Tab tb) {E : List PP} (hE : ∀ w, okW x w → runP x y w ∈ E) (hK : E.length ≤ 60000) {D : Type} (k0 : MM → MM → Int → Int → List (List Int) → List (List Int × Int) → List Int → List (List Int) → List Int → List (List Int) → Option D)
   (a1 a2 : Int) (u1 : List Int) (u2 : List (List Int)) :
   ∀ (F i : Nat) (q : List PP) (o1 : List Int) (o2 : List (List Int)) (l : List PP) (outs : List Int) (rows : List (List Int)), bfs (0, 0, ()) idK (boOut x y tb) (nxP x y) x.1.toNat F i q o1 o2 = some (l, outs, rows) → (∀ t ∈ q, ∃ w, okW x w ∧ t = runP x y w) → q.Nodup → i ≤ q.length → o1.length = i → o2.length = i →
     g53L250f N F k0 tb (i : Int) x y a1 a2 (q.map arrP) (mpairs 0 (q.map arrP)) u1 u2 o1 o2 = k0 x y a1 a2 (l.map arrP) (mpairs 0 (l.map arrP)) u1 u2 outs rows
 | 0, i, q, o1, o2, l, outs, rows, h, _, _, _, _, _ => by simp [bfs] at h
 | F + 1, i, q, o1, o2, l, outs, rows, h, hq, hn, hi, l1, l2 => by
   rw [g53L250f_succ]
   unfold g53L250B
   unfold bfs at h
   have hbx := hx.base
   have hlen : q.length ≤ E.length := sub_len hn fun p hp => by
     obtain ⟨w, hw, rfl⟩ := hq p hp
     exact hE w hw
   by_cases hlt : i < q.length
   · rw [if_pos hlt] at h
     have e1 : decide ((i : Int) < ((q.map arrP).length : Int)) = true := by rw [decide_eq_true_iff, List.length_map]; omega
     have e2 : idx (i : Int) (q.map arrP).length := ⟨by omega, by rw [List.length_map]; omega⟩
     have e3 : Int.toNat (i : Int) < (q.map arrP).length := by rw [List.length_map]; omega
     have hs := hq _ (getD_mem hlt (0, 0, ()))
     rw [e1, cond_true, if_pos e2, if_pos (⟨by omega, by omega⟩ : idx 0 2), if_pos e3, if_pos e2, if_pos (⟨by omega, by omega⟩ : idx 1 2), if_pos e3, Int.toNat_natCast, g53L128154_eq, arrP_get q hlt]
     revert h hs
     generalize q.getD i (0, 0, ()) = t
     intro h hs
     obtain ⟨w0, hw0, ht0⟩ := hs
     have hs : InP x y t := by rw [ht0]; exact runP_in hx hy hb hw0
     have el := fun k0 => ref_both_row (D := D) N hx hy hb k0 tb (i : Int) t hs a1 a2 u1 u2 o1 o2 N 0 [] q (by omega) (by omega) (by simp) (by omega)
     simp only [Int.natCast_zero, List.drop_zero] at el
     rw [show (arrP t).getD (Int.toNat 0) 0 = t.1 from rfl, show (arrP t).getD (Int.toNat 1) 0 = t.2.1 from rfl, el]
     obtain ⟨new, ext, e, g1, g2, g3, g4, g5⟩ := bfsRow_spec idK (nxP x y) t (fun t => ∃ w, okW x w ∧ t = runP x y w) (List.range x.1.toNat) [] q (fun r hr => ⟨w0 ++ [r], okW_snoc.2 ⟨hw0, by have := List.mem_range.1 hr; omega⟩, by rw [ht0, runP_snoc]⟩) hq (by rw [map_idK]; exact hn)
     rw [e] at h ⊢
     dsimp only at h ⊢
     rw [List.nil_append] at h ⊢
     obtain ⟨i1, i2, i3, i4, _⟩ := bo_out hx hy htb hs
     rw [if_pos i1, if_pos i2, if_pos i3, if_pos i4, if_pos (by simp only [List.length_cons, List.length_nil, maxCount]; omega), if_pos (by simp only [List.length_cons, List.length_nil, maxCount]; omega), wn i (by omega)]
     exact ref_both_loop2 N hN hx hy hb htb hE hK k0 a1 a2 u1 u2 F (i + 1) (q ++ ext) _ _ l outs rows h (fun t ht => by
       rcases List.mem_append.1 ht with ht | ht
       · exact hq t ht
       · exact g3 t ht) (by rw [map_idK] at g4; exact g4) (by simp; omega) (by simp [l1]) (by simp [l2])
   · rw [if_neg hlt] at h
     have e1 : decide ((i : Int) < ((q.map arrP).length : Int)) = false := by rw [decide_eq_false_iff_not, List.length_map]; omega
     rw [e1, cond_false]
     simp only [Option.some.injEq, Prod.mk.injEq] at h
     obtain ⟨rfl, rfl, rfl⟩ := h
     rfl
theorem ref_both_gen {x y : MM} (hx : WM x) (hy : WM y) (hb : y.1 = x.1) {tb : List (List Int)} (htb : Tab tb) (N : Nat) (hN : 1001 < N) {E : List PP} (hE : ∀ w, okW x w → runP x y w ∈ E) (hK : E.length ≤ 60000) (hK2 : E.length < N) :
   ∃ (l : List PP) (rows : List (List Int)), g53 N x y tb = some (x.1, l.map (boOut x y tb), rows, ()) ∧ (∀ t ∈ l, ∃ w, okW x w ∧ t = runP x y w) ∧ (∀ w, okW x w → runP x y w ∈ l) ∧ l.length ≤ E.length := by
 have hbx := hx.base
 obtain ⟨l, outs, rows, e, hd, hl⟩ := bfs_disc (0, 0, ()) idK (boOut x y tb) (nxP x y) x.1.toNat (fun t => ∃ w, okW x w ∧ t = runP x y w)
   (fun t ht r hr => by
     obtain ⟨w, hw, rfl⟩ := ht
     exact ⟨w ++ [r], okW_snoc.2 ⟨hw, by omega⟩, runP_snoc x y w r⟩) E.length (fun p : PP => (posOf p E : Int)) (fun t ht => by
     obtain ⟨w, hw, rfl⟩ := ht
     have := posOf_lt (hE w hw)
     show 0 ≤ (posOf (runP x y w) E : Int) ∧ (posOf (runP x y w) E : Int) < (E.length : Int)
     omega) (fun s t hs ht he => by
     obtain ⟨w, hw, rfl⟩ := hs
     obtain ⟨u, hu, rfl⟩ := ht
     have h1 := posOf_get (hE w hw)
     have h2 := posOf_get (hE u hu)
     have he : posOf (runP x y w) E = posOf (runP x y u) E := by
       have he : (posOf (runP x y w) E : Int) = (posOf (runP x y u) E : Int) := he
       omega
     rw [he] at h1
     rw [h1] at h2
     exact Option.some.inj h2) N hK2 (0, 0, ()) ⟨[], okW_nil x, rfl⟩
 have hn : l.Nodup := by have := hd.nodup; rw [map_idK] at this; exact this
 refine ⟨l, rows, ?_, hl, ?_, sub_len hn fun p hp => by
   obtain ⟨w, hw, rfl⟩ := hl p hp
   exact hE w hw⟩
 · have ho : outs = l.map (boOut x y tb) := hd.out
   have := ref_both_loop2 N hN hx hy hb htb hE hK (fun e17 e18 e19 e20 e21 e22 e23 e24 e25 e26 => some (e20, e25, e26, ())) 0 x.1 [] [] N 0 [(0, 0, ())] [] [] l _ _ e (by intro p hp; simp only [List.mem_cons, List.not_mem_nil, or_false] at hp; subst hp; exact ⟨[], okW_nil x, rfl⟩) (by simp) (by simp) rfl rfl
   unfold g53
   rw [g53L250_eq, set_pair]
   refine Eq.trans this ?_
   rw [ho]
 · intro w
   have key : ∀ v : List Nat, okW x v.reverse → runP x y v.reverse ∈ l := by
     intro v
     induction v with
     | nil =>
       intro _
       have := getD_mem hd.some1 (0, 0, ())
       rw [hd.first] at this
       exact this
     | cons r v ih =>
       intro hv
       rw [List.reverse_cons] at hv ⊢
       obtain ⟨h1, h2⟩ := okW_snoc.1 hv
       obtain ⟨i, hi, he⟩ := List.getElem_of_mem (ih h1)
       obtain ⟨j, _, j2, j3⟩ := hd.way i r hi (by omega)
       have j3 : l.getD j (0, 0, ()) = nxP x y (l.getD i (0, 0, ())) r := j3
       rw [getD_of hi, he, runP_snoc] at j3
       rw [← j3]
       exact getD_mem j2 _
   intro hw
   have := key w.reverse (by rw [List.reverse_reverse]; exact hw)
   rwa [List.reverse_reverse] at this
def allPairs (x y : MM) : List PP := (List.range x.2.1.length).flatMap fun s => (List.range y.2.1.length).map fun t : Nat => (((s : Nat) : Int), (t : Int), ())
theorem flat_len {α β : Type} (f : α → List β) (n : Nat) : ∀ l : List α, (∀ a ∈ l, (f a).length ≤ n) → (l.flatMap f).length ≤ l.length * n
 | [], _ => by simp
 | a :: l, h => by
   have h1 := h a (by simp)
   have h2 := flat_len f n l (fun b hb => h b (by simp [hb]))
   simp only [List.flatMap_cons, List.length_append, List.length_cons, Nat.add_mul, Nat.one_mul]
   omega
theorem allPairs_len (x y : MM) : (allPairs x y).length ≤ x.2.1.length * y.2.1.length := by
 have := flat_len (fun s : Nat => (List.range y.2.1.length).map fun t : Nat => ((s : Int), (t : Int), ())) y.2.1.length (List.range x.2.1.length) (fun a _ => by simp)
 rw [List.length_range] at this
 exact this
theorem allPairs_mem {x y : MM} (hx : WM x) (hy : WM y) (hb : y.1 = x.1) : ∀ w, okW x w → runP x y w ∈ allPairs x y := fun w hw =>
 List.mem_flatMap.2 ⟨go x 0 w, List.mem_range.2 (go_lt hx w 0 hx.many hw), List.mem_map.2 ⟨go y 0 w, List.mem_range.2 (go_lt hy w 0 hy.many (by rw [hb]; exact hw)), rfl⟩⟩
end Go.Pv
namespace Go.Pv
def eqTab : List (List Int) := (List.range 10).map fun i => (List.replicate 10 (0 : Int)).set i 1
theorem eq_tab : Tab eqTab := ⟨rfl, fun r hr => by
 have h : eqTab.all (fun r => decide (r.length = 10) && r.all fun v => decide (0 ≤ v) && decide (v ≤ 9)) = true := by kernel_rfl
 have := List.all_eq_true.1 h r hr
 simp only [Bool.and_eq_true, decide_eq_true_eq, List.all_eq_true] at this
 exact ⟨this.1, fun v hv => this.2 v hv⟩⟩
theorem eq_get : ∀ a, a < 10 → ∀ b, b < 10 → (eqTab.getD a []).getD b 0 = if a = b then 1 else 0 := by decide
theorem bo_eq {x y : MM} (hx : WM x) (hy : WM y) {p : PP} (hp : InP x y p) : boOut x y eqTab p = 0 ↔ oM x p.1.toNat ≠ oM y p.2.1.toNat := by
 have h1 := hp.s; have h2 := hp.t
 have o1 := hx.oAt (s := p.1.toNat) (by omega)
 have o2 := hy.oAt (s := p.2.1.toNat) (by omega)
 unfold boOut
 rw [eq_get _ (by omega) _ (by omega)]
 by_cases h : (oM x p.1.toNat).toNat = (oM y p.2.1.toNat).toNat
 · rw [if_pos h]
   constructor
   · intro hh; omega
   · intro hh; exact absurd (by omega) hh
 · rw [if_neg h]
   exact ⟨fun _ e => h (by rw [e]), fun _ => rfl⟩
def tabI : List Nat := [10, 11, 12, 13, 14, 15, 16, 17, 18, 19]
def tabR : List (Option (List Int)) := List.replicate 10 (some []) ++ eqTab.map some
theorem tab48 {C : Type} (k0 : MM → MM → List Nat → List (Option (List Int)) → Option C) (x y : MM) : g48L58f 2000 2000 k0 0 x y (List.range (Int.toNat 10)) (List.replicate (Int.toNat 10) (some ([] : List Int))) = k0 x y tabI tabR := by kernel_rfl
theorem all48 : gridAll tabR tabI = some eqTab := by kernel_rfl
theorem noughts {C : Type} (N : Nat) (k0 : Bool → MM → Option C) (k1 : MM → Option C) (z : MM) (hz : z.2.1.length ≤ 100000) : ∀ (F i : Nat), z.2.1.length - i < F → i ≤ z.2.1.length → (∀ j, j < i → z.2.1.getD j 0 ≠ 0) →
   ((∀ v ∈ z.2.1, v ≠ 0) ∧ g48L250f N F k0 k1 (i : Int) z = k1 z) ∨ ((∃ v ∈ z.2.1, v = 0) ∧ g48L250f N F k0 k1 (i : Int) z = k0 false z)
 | 0, i, hF, _, _ => by omega
 | F + 1, i, hF, hi, hall => by
   rw [g48L250f_succ]
   unfold g48L250B
   by_cases hlt : i < z.2.1.length
   · rw [decide_eq_true (show (i : Int) < ((z.2.1.length : Nat) : Int) by omega), cond_true, if_pos (⟨by omega, by omega⟩ : idx _ _), Int.toNat_natCast]
     by_cases h0 : z.2.1.getD i 0 = 0
     · rw [h0, ieq_self, cond_true]
       exact .inr ⟨⟨_, getD_mem hlt 0, h0⟩, rfl⟩
     · rw [show ieq (z.2.1.getD i 0) 0 = false by simp only [ieq, decide_eq_false_iff_not]; exact h0, cond_false, wn i (by omega)]
       exact noughts N k0 k1 z hz F (i + 1) (by omega) (by omega) (fun j hj => by
         by_cases hji : j = i
         · subst hji; exact h0
         · exact hall j (by omega))
   · rw [decide_eq_false (show ¬ (i : Int) < ((z.2.1.length : Nat) : Int) by omega), cond_false]
     refine .inl ⟨fun v hv => ?_, rfl⟩
     obtain ⟨j, hj, rfl⟩ := List.getElem_of_mem hv
     have := hall j (by omega)
     rwa [getD_of hj] at this
theorem same48 {x y : MM} (hx : WM x) (hy : WM y) (hb : y.1 = x.1) {E : List PP} (hE : ∀ w, okW x w → runP x y w ∈ E) (hK : E.length < 2000) : ∃ b, g48 2000 x y = some b ∧ (b = true ↔ Same x y 0 0) := by
 obtain ⟨l, rows, e, h1, h2, h3⟩ := ref_both_gen hx hy hb eq_tab 2000 (by omega) hE (by omega) hK
 have key : (∀ v ∈ l.map (boOut x y eqTab), v ≠ 0) ↔ Same x y 0 0 := by
   constructor
   · intro h w hw
     have := h _ (List.mem_map.2 ⟨_, h2 w hw, rfl⟩)
     rw [ne_eq, bo_eq hx hy (runP_in hx hy hb hw)] at this
     rw [beh_go, beh_go]
     exact Classical.not_not.1 this
   · intro h v hv
     obtain ⟨t, ht, rfl⟩ := List.mem_map.1 hv
     obtain ⟨w, hw, rfl⟩ := h1 t ht
     rw [ne_eq, bo_eq hx hy (runP_in hx hy hb hw)]
     have := h w hw
     rw [beh_go, beh_go] at this
     exact fun e => e this
 unfold g48
 rw [if_pos (⟨rfl, by omega, by omega⟩ : mkOk 10 10), g48L58_eq, tab48]
 rw [all48]
 simp only [Option.bind_some]
 rw [e]
 simp only [Option.bind_some]
 rw [g48L250_eq]
 have := noughts 2000 (fun e10 e11 => some e10) (fun e12 => some true) (x.1, l.map (boOut x y eqTab), rows, ()) (by simp only [List.length_map]; omega) 2000 0 (by simp only [List.length_map]; omega) (by omega) (fun j hj => by omega)
 simp only [Int.natCast_zero] at this
 rcases this with ⟨a, b⟩ | ⟨a, b⟩
 · exact ⟨true, b, by simp only [true_iff]; exact key.1 a⟩
 · refine ⟨false, b, ?_⟩
   simp only [Bool.false_eq_true, false_iff]
   intro hs
   obtain ⟨v, hv, h0⟩ := a
   exact key.2 hs v hv h0
end Go.Pv
