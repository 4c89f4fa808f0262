/- Seat 05: AutoMaps, plain. -/
import Derived.Test.YtcfhdpbebiibjaaDoorMg2
import Derived.Test.YtcfhdpbebiibjaaDoorPvAB
set_option linter.unusedVariables false
set_option linter.unusedSimpArgs false
namespace Go.Pv

theorem maps_awake : g24 2000 = some true := by kernel_rfl
theorem maps_plain (a c : MM) (l : List Int) : g14 2000 a c l = some true := by
  have hmod : Int.tmod (l.length : Int) 2 = ((l.length % 2 : Nat) : Int) := by rw [Int.tmod_eq_emod_of_nonneg (by omega)]; omega
  have eb : IntKind.wrap .i64 (2 + Int.tmod (l.length : Int) 2) = 2 + ((l.length % 2 : Nat) : Int) := by rw [hmod]; exact w64 (by omega) (by omega)
  obtain ⟨x, e1, hx, hxb, hxn⟩ := tame_eq 2000 (by omega) a (2 + ((l.length % 2 : Nat) : Int)) 5 ⟨by omega, by omega⟩ ⟨by omega, by omega⟩
  obtain ⟨y, e2, hy, hyb, hyn⟩ := tame_eq 2000 (by omega) c (2 + ((l.length % 2 : Nat) : Int)) 5 ⟨by omega, by omega⟩ ⟨by omega, by omega⟩
  obtain ⟨z, e3, hz, hzb, hzn⟩ := tame_eq 2000 (by omega) c (5 - x.1) 5 ⟨by omega, by omega⟩ ⟨by omega, by omega⟩
  obtain ⟨t, e4, ht⟩ := table_eq 2000 (by omega) l
  have htl := ht.len
  have h0 := ht.row _ (getD_mem (l := t) (i := 0) (by omega) [])
  have h0l := h0.len
  obtain ⟨r1, q1, S1, m1, m2, m3⟩ := map_right hx h0 2000 (by omega)
  obtain ⟨r2, q2, S2, b1, b2, b3⟩ := both_right hx hy (by rw [hxb, hyb]) ht 2000 (by omega)
  unfold g14
  rw [eb, e1, Option.bind_some, e2, Option.bind_some, e4, Option.bind_some]
  simp only [hx.given 2000 (by omega), hy.given 2000 (by omega), Option.bind_some]
  have i0 : idx 0 t.length := ⟨by omega, by omega⟩
  rw [show Int.toNat 0 = 0 from rfl]
  simp only [if_pos i0]
  rw [m1, Option.bind_some, b1, Option.bind_some, m2, Option.bind_some]
  dsimp only
  rw [m3, Option.bind_some, Bool.not_true, cond_false, b2, Option.bind_some, b3, Option.bind_some, Bool.not_true, cond_false]
  have es : List.drop 0 (List.take (Int.toNat 9) (t.getD 0 [])) = (t.getD 0 []).take 9 := by rw [List.drop_zero]; rfl
  have eh : List.drop (Int.toNat 1) (List.take (Int.toNat ((t.getD 0 []).length : Int)) (t.getD 0 [])) = (t.getD 0 []).drop 1 := by rw [Int.toNat_natCast, List.take_length]; rfl
  have et : List.drop (Int.toNat 1) (List.take (Int.toNat (t.length : Int)) t) = t.drop 1 := by rw [Int.toNat_natCast, List.take_length]; rfl
  have e9 : List.drop 0 (List.take (Int.toNat 9) t) = t.take 9 := by rw [List.drop_zero]; rfl
  rw [es, eh, et, e9]
  have ls : ((t.getD 0 []).take 9).length = 9 := by rw [List.length_take]; omega
  have lh : ((t.getD 0 []).drop 1).length = 9 := by rw [List.length_drop]; omega
  have lt : (t.drop 1).length = 9 := by rw [List.length_drop]; omega
  rw [if_pos (by omega), if_pos (by omega), if_pos (by rw [lh]; simp [maxCount]), if_pos (by omega), if_pos (by rw [lt]; simp [maxCount]), if_pos (by omega), if_pos (by rw [lt]; simp [maxCount])]
  have ns : ¬ Row10 ((t.getD 0 []).take 9) := fun h => by have := h.len; omega
  have nh : ¬ Row10 ([10] ++ (t.getD 0 []).drop 1) := fun h => by have := h.rng 10 (by simp); omega
  have lh2 : ([10] ++ (t.getD 0 []).drop 1).length = 10 := by rw [List.length_append, lh]; rfl
  have dr : ∀ r ∈ t.drop 1, Row10 r := fun r hr => ht.row r (List.mem_of_mem_drop hr)
  have nw : ¬ Tab ([(t.getD 0 []).take 9] ++ t.drop 1) := fun h => ns (h.row _ (by simp))
  have no : ¬ Tab ([[10] ++ (t.getD 0 []).drop 1] ++ t.drop 1) := fun h => nh (h.row _ (by simp))
  have n9 : ¬ Tab (t.take 9) := fun h => by have := h.len; rw [List.length_take] at this; omega
  rw [map_bad hx (by omega) ns 2000 (by omega), Option.bind_some, map_bad hx (by omega) nh 2000 (by omega), Option.bind_some, if_pos (by omega)]
  rw [both_bad hx hy (t := t.take 9) (by rw [List.length_take]; omega) (fun r hr => by have := (ht.row r (List.mem_of_mem_take hr)).len; omega) (.inr n9) 2000 (by omega), Option.bind_some]
  rw [both_bad hx hy (t := [(t.getD 0 []).take 9] ++ t.drop 1) (by rw [List.length_append, lt]; simp) (fun r hr => by
    rcases List.mem_append.1 hr with hr | hr
    · simp only [List.mem_cons, List.not_mem_nil, or_false] at hr; subst hr; omega
    · have := (dr r hr).len; omega) (.inr nw) 2000 (by omega), Option.bind_some]
  rw [both_bad hx hy (t := [[10] ++ (t.getD 0 []).drop 1] ++ t.drop 1) (by rw [List.length_append, lt]; simp) (fun r hr => by
    rcases List.mem_append.1 hr with hr | hr
    · simp only [List.mem_cons, List.not_mem_nil, or_false] at hr; subst hr; omega
    · have := (dr r hr).len; omega) (.inr no) 2000 (by omega), Option.bind_some]
  have e5 : IntKind.wrap .i64 (5 - x.1) = 5 - x.1 := w64 (by omega) (by omega)
  rw [e5, e3, Option.bind_some, hz.given 2000 (by omega), Option.bind_some]
  rw [both_bad hx hz (t := t) (by omega) (fun r hr => by have := (ht.row r hr).len; omega) (.inl (by omega)) 2000 (by omega), Option.bind_some]
  dsimp only
  simp only [ieq_self, cond_true, none_nil, Option.bind_some, maps_awake]

theorem autoMaps_bnd (a : ProdT (List.map AS.d [MT, MT, .lst (.int .i64)])) (h : BndL [MT, MT, .lst (.int .i64)] a) : g14 2000 a.1 a.2.1 a.2.2.1 = some true := maps_plain a.1 a.2.1 a.2.2.1

end Go.Pv
