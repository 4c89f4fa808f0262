/- Plain: discovering states in order. -/
import Derived.Test.YtcfhdpbebiibjaaDoorPlT
set_option linter.unusedVariables false
set_option linter.unusedSimpArgs false
set_option linter.unusedSectionVars false
namespace Go.Pv

theorem pigeon : ∀ (K : Nat) (l : List Int), l.Nodup → (∀ v ∈ l, 0 ≤ v ∧ v < (K : Int)) → l.length ≤ K
  | 0, l, _, h => by
    cases l with
    | nil => simp
    | cons v r => have := h v (by simp); omega
  | K + 1, l, hn, h => by
    by_cases hk : (K : Int) ∈ l
    · have h1 := List.length_erase_of_mem hk
      have h2 := pigeon K (l.erase (K : Int)) (hn.erase _) (fun v hv => by
        have := (hn.mem_erase_iff).1 hv
        have := h v this.2
        omega)
      omega
    · have := pigeon K l hn (fun v hv => by
        have := h v hv
        have : v ≠ (K : Int) := fun e => hk (e ▸ hv)
        omega)
      omega

section
variable {α κ : Type} [DecidableEq κ]
/-- One row: the numbers of those that follow; new ones join the queue. -/
def bfsRow (key : α → κ) (step : α → Nat → α) (s : α) : List Nat → List Int → List α → List Int × List α
  | [], row, q => (row, q)
  | r :: rs, row, q => if key (step s r) ∈ q.map key then bfsRow key step s rs (row ++ [(posOf (key (step s r)) (q.map key) : Int)]) q else bfsRow key step s rs (row ++ [(q.length : Int)]) (q ++ [step s r])
def bfs (d : α) (key : α → κ) (out : α → Int) (step : α → Nat → α) (b : Nat) : Nat → Nat → List α → List Int → List (List Int) → Option (List α × List Int × List (List Int))
  | 0, _, _, _, _ => none
  | F + 1, i, q, outs, rows => if i < q.length then bfs d key out step b F (i + 1) (bfsRow key step (q.getD i d) (List.range b) [] q).2 (outs ++ [out (q.getD i d)]) (rows ++ [(bfsRow key step (q.getD i d) (List.range b) [] q).1]) else some (q, outs, rows)

theorem posOf_map_append {key : α → κ} {k : κ} {q e : List α} (h : k ∈ q.map key) : posOf k ((q ++ e).map key) = posOf k (q.map key) := by
  rw [List.map_append, posOf_append _ h]

theorem bfsRow_spec (key : α → κ) (step : α → Nat → α) (s : α) (P : α → Prop) : ∀ (rs : List Nat) (row : List Int) (q : List α), (∀ r ∈ rs, P (step s r)) → (∀ t ∈ q, P t) → (q.map key).Nodup →
    ∃ new ext, bfsRow key step s rs row q = (row ++ new, q ++ ext) ∧ new.length = rs.length ∧ scanRow new q.length = some (q ++ ext).length ∧ (∀ t ∈ ext, P t) ∧ ((q ++ ext).map key).Nodup ∧
      ∀ k, k < rs.length → key (step s (rs.getD k 0)) ∈ (q ++ ext).map key ∧ new.getD k 0 = (posOf (key (step s (rs.getD k 0))) ((q ++ ext).map key) : Int)
  | [], row, q, _, _, hn => ⟨[], [], by simp [bfsRow], rfl, by simp [scanRow], by simp, by simpa using hn, by simp⟩
  | r :: rs, row, q, hp, hq, hn => by
    unfold bfsRow
    by_cases hm : key (step s r) ∈ q.map key
    · rw [if_pos hm]
      obtain ⟨new, ext, e, h1, h2, h3, h4, h5⟩ := bfsRow_spec key step s P rs (row ++ [(posOf (key (step s r)) (q.map key) : Int)]) q (fun a ha => hp a (by simp [ha])) hq hn
      refine ⟨(posOf (key (step s r)) (q.map key) : Int) :: new, ext, by rw [e]; simp, by simp [h1], ?_, h3, h4, fun k hk => ?_⟩
      · have := posOf_lt hm
        rw [List.length_map] at this
        simp only [scanRow, Int.toNat_natCast]
        rw [if_pos this, h2]
      · cases k with
        | zero =>
          simp only [List.getD_cons_zero]
          exact ⟨by rw [List.map_append]; simp only [List.mem_append]; exact .inl hm, by rw [posOf_map_append hm]⟩
        | succ k =>
          simp only [List.getD_cons_succ]
          exact h5 k (by simpa using hk)
    · rw [if_neg hm]
      have hn' : ((q ++ [step s r]).map key).Nodup := by
        rw [List.map_append, List.map_cons, List.map_nil, List.nodup_append]
        refine ⟨hn, by simp, fun a ha b hb e => ?_⟩
        simp only [List.mem_cons, List.not_mem_nil, or_false] at hb
        exact hm (hb ▸ e ▸ ha)
      obtain ⟨new, ext, e, h1, h2, h3, h4, h5⟩ := bfsRow_spec key step s P rs (row ++ [(q.length : Int)]) (q ++ [step s r]) (fun a ha => hp a (by simp [ha])) (fun t ht => by
        rcases List.mem_append.1 ht with ht | ht
        · exact hq t ht
        · simp only [List.mem_cons, List.not_mem_nil, or_false] at ht; subst ht; exact hp r (by simp)) hn'
      have hin : key (step s r) ∈ (q ++ [step s r]).map key := by simp
      refine ⟨(q.length : Int) :: new, step s r :: ext, by rw [e]; simp, by simp [h1], ?_, ?_, ?_, fun k hk => ?_⟩
      · simp only [scanRow, Int.toNat_natCast]
        rw [if_neg (by omega), if_pos trivial]
        simpa using h2
      · intro t ht
        rcases List.mem_cons.1 ht with rfl | ht
        · exact hp r (by simp)
        · exact h3 t ht
      · simpa using h4
      · rw [show q ++ step s r :: ext = (q ++ [step s r]) ++ ext by simp]
        cases k with
        | zero =>
          simp only [List.getD_cons_zero]
          refine ⟨by rw [List.map_append]; exact List.mem_append.2 (.inl hin), ?_⟩
          rw [posOf_map_append hin, List.map_append, List.map_cons, List.map_nil, posOf_new hm, List.length_map]
        | succ k =>
          simp only [List.getD_cons_succ]
          exact h5 k (by simpa using hk)

theorem getD_append_left {l e : List α} {i : Nat} (h : i < l.length) {d : α} : (l ++ e).getD i d = l.getD i d := by
  rw [List.getD_eq_getElem?_getD, List.getD_eq_getElem?_getD, List.getElem?_append_left h]

theorem pigeon_num {P : α → Prop} {K : Nat} (key : α → κ) (num : κ → Int) (hinj : ∀ s t, P s → P t → num (key s) = num (key t) → key s = key t) (hK : ∀ s, P s → 0 ≤ num (key s) ∧ num (key s) < (K : Int)) {q : List α} (hq : ∀ t ∈ q, P t) (hn : (q.map key).Nodup) : q.length ≤ K := by
  have h2 : (q.map fun t => num (key t)).Nodup := by
    clear hK
    induction q with
    | nil => simp
    | cons t q ih =>
      simp only [List.map_cons, List.nodup_cons] at hn ⊢
      refine ⟨fun hm => ?_, ih (fun u hu => hq u (by simp [hu])) hn.2⟩
      obtain ⟨u, hu, he⟩ := List.mem_map.1 hm
      refine hn.1 (List.mem_map.2 ⟨u, hu, hinj u t (hq u (by simp [hu])) (hq t (by simp)) he⟩)
  have := pigeon K _ h2 (fun v hv => by
    obtain ⟨t, ht, rfl⟩ := List.mem_map.1 hv
    exact hK t (hq t ht))
  simpa using this
theorem bfs_spec (d : α) (key : α → κ) (out : α → Int) (step : α → Nat → α) (b : Nat) (P : α → Prop) (hP : ∀ s, P s → ∀ r, r < b → P (step s r)) (K : Nat) (num : κ → Int) (hK : ∀ s, P s → 0 ≤ num (key s) ∧ num (key s) < (K : Int)) (hinj : ∀ s t, P s → P t → num (key s) = num (key t) → key s = key t) :
    ∀ (F i : Nat) (q : List α) (outs : List Int) (rows : List (List Int)), K - i < F → i ≤ q.length → (∀ t ∈ q, P t) → (q.map key).Nodup →
      ∃ ext rows', bfs d key out step b F i q outs rows = some (q ++ ext, outs ++ ((q ++ ext).drop i).map out, rows ++ rows') ∧ i + rows'.length = (q ++ ext).length ∧ (∀ t ∈ q ++ ext, P t) ∧ ((q ++ ext).map key).Nodup ∧ scanRows rows' i q.length = true ∧
        ∀ k, i + k < (q ++ ext).length → (rows'.getD k []).length = b ∧ ∀ r, r < b → key (step ((q ++ ext).getD (i + k) d) r) ∈ (q ++ ext).map key ∧ (rows'.getD k []).getD r 0 = (posOf (key (step ((q ++ ext).getD (i + k) d) r)) ((q ++ ext).map key) : Int)
  | 0, i, q, outs, rows, hF, _, _, _ => by omega
  | F + 1, i, q, outs, rows, hF, hi, hq, hn => by
    unfold bfs
    have hlen : q.length ≤ K := by
      exact pigeon_num key num hinj hK hq hn
    by_cases hlt : i < q.length
    · rw [if_pos hlt]
      have hs := hq _ (getD_mem hlt d)
      obtain ⟨new, e1, e, h1, h2, h3, h4, h5⟩ := bfsRow_spec key step (q.getD i d) P (List.range b) [] q (fun r hr => hP _ hs r (List.mem_range.1 hr)) hq hn
      rw [e]
      obtain ⟨ext, rows', g, g1, g2, g3, g4, g5⟩ := bfs_spec d key out step b P hP K num hK hinj F (i + 1) (q ++ e1) (outs ++ [out (q.getD i d)]) (rows ++ [new]) (by omega) (by simp; omega) (fun t ht => by
        rcases List.mem_append.1 ht with ht | ht
        · exact hq t ht
        · exact h3 t ht) h4
      rw [List.nil_append]
      dsimp only
      have ea : q ++ e1 ++ ext = q ++ (e1 ++ ext) := List.append_assoc _ _ _
      rw [ea] at g g1 g2 g3 g5
      have hd : (q ++ (e1 ++ ext)).getD i d = q.getD i d := getD_append_left hlt
      have hlt' : i < (q ++ (e1 ++ ext)).length := by simp; omega
      refine ⟨e1 ++ ext, new :: rows', ?_, ?_, g2, g3, ?_, fun k hk => ?_⟩
      · rw [g, dropD _ hlt', hd]; simp
      · simp only [List.length_cons]; omega
      · simp only [scanRows]
        rw [if_pos hlt, h2]; exact g4
      · cases k with
        | zero =>
          simp only [List.getD_cons_zero, Nat.add_zero]
          rw [h1, List.length_range]
          refine ⟨rfl, fun r hr => ?_⟩
          have := h5 r (by simpa using hr)
          rw [show (List.range b).getD r 0 = r by rw [List.getD_eq_getElem?_getD, List.getElem?_range hr]; rfl] at this
          rw [hd, ← ea, posOf_map_append this.1, List.map_append]
          exact ⟨List.mem_append.2 (.inl this.1), this.2⟩
        | succ k =>
          simp only [List.getD_cons_succ]
          rw [show i + (k + 1) = i + 1 + k by omega] at hk ⊢
          exact g5 k hk
    · rw [if_neg hlt]
      have : i = q.length := by omega
      subst this
      refine ⟨[], [], by simp, by simp, by simpa using hq, by simpa using hn, by simp [scanRows], fun k hk => absurd hk (by simp)⟩

/-- A machine that is made by discovering. -/
structure Disc (d : α) (b : Nat) (key : α → κ) (out : α → Int) (step : α → Nat → α) (a : α) (F : MM) (l : List α) : Prop where
  base : F.1 = (b : Int)
  some1 : 1 ≤ l.length
  first : l.getD 0 d = a
  nodup : (l.map key).Nodup
  out : F.2.1 = l.map out
  next : F.2.2.1.length = l.length
  rowl : ∀ i, i < l.length → (F.2.2.1.getD i []).length = b
  way : ∀ (i r : Nat), i < l.length → r < b → ∃ j : Nat, (F.2.2.1.getD i []).getD r 0 = (j : Int) ∧ j < l.length ∧ key (l.getD j d) = key (step (l.getD i d) r)
  order : scanRows F.2.2.1 0 1 = true

theorem posOf_key {key : α → κ} {k : κ} {q : List α} (h : k ∈ q.map key) (d : α) : posOf k (q.map key) < q.length ∧ key (q.getD (posOf k (q.map key)) d) = k := by
  have h1 := posOf_lt h
  have h2 := posOf_get h
  rw [List.length_map] at h1
  rw [List.getElem?_map, List.getElem?_eq_getElem h1] at h2
  refine ⟨h1, ?_⟩
  rw [getD_of h1]
  simpa using h2

theorem bfs_disc (d : α) (key : α → κ) (out : α → Int) (step : α → Nat → α) (b : Nat) (P : α → Prop) (hP : ∀ s, P s → ∀ r, r < b → P (step s r)) (K : Nat) (num : κ → Int) (hK : ∀ s, P s → 0 ≤ num (key s) ∧ num (key s) < (K : Int)) (hinj : ∀ s t, P s → P t → num (key s) = num (key t) → key s = key t) (N : Nat) (hN : K < N) (a : α) (ha : P a) :
    ∃ l outs rows, bfs d key out step b N 0 [a] [] [] = some (l, outs, rows) ∧ Disc d b key out step a ((b : Int), outs, rows, ()) l ∧ ∀ t ∈ l, P t := by
  obtain ⟨ext, rows, e, h1, h2, h3, h4, h5⟩ := bfs_spec d key out step b P hP K num hK hinj N 0 [a] [] [] (by omega) (by simp) (by simpa using ha) (by simp)
  refine ⟨_, _, _, e, ⟨rfl, by simp, by simp, h3, by simp, by simpa using h1, fun i hi => ?_, fun i r hi hr => ?_, by simpa using h4⟩, h2⟩
  · have := h5 i (by simpa using hi)
    simpa using this.1
  · obtain ⟨m1, m2⟩ := (h5 i (by simpa using hi)).2 r hr
    rw [Nat.zero_add] at m1 m2
    have := posOf_key m1 d
    refine ⟨_, ?_, this.1, this.2⟩
    simpa using m2
end

end Go.Pv
