/- The purifying layer, part 18: an operation's effect leans on its operands and on their objects alone. -/
import Derived.Test.YtcfhdpbebiibjaaDoorPvQ
set_option linter.unusedVariables false
set_option linter.unusedSimpArgs false
namespace Go.Pv
variable {P : Program} {Γ : Cfg} {C : Type}

theorem map_congr' {α β : Type} {f g : α → β} : ∀ (l : List α), (∀ x ∈ l, f x = g x) → l.map f = l.map g := fun l h => List.map_congr_left h
theorem tm_op (o : Oper) {tm tm' : Tm} (lk : Lk) (K : Eff → Option C) (h : ∀ x ∈ o.op.operands.toList, Γ.val tm' x = Γ.val tm x) : evOp Γ o tm' lk K = evOp Γ o tm lk K := by
  unfold evOp
  cases ho : o.op <;> rw [ho] at h
  case build T ps => 
    have : ps.toList.map (fun q => (q.1, Γ.val tm' q.2)) = ps.toList.map (fun q => (q.1, Γ.val tm q.2)) := List.map_congr_left fun q hq => by rw [h q.2 (by simp [Op.operands]; exact ⟨q.1, by simpa using hq⟩)]
    simp only [this]
  case buildSlice T n ps =>
    have : ps.toList.map (fun q => (q.1, Γ.val tm' q.2)) = ps.toList.map (fun q => (q.1, Γ.val tm q.2)) := List.map_congr_left fun q hq => by rw [h q.2 (by simp [Op.operands]; exact ⟨q.1, by simpa using hq⟩)]
    simp only [this]
  case makeFunc g first caps =>
    have : caps.toList.map (Γ.val tm') = caps.toList.map (Γ.val tm) := List.map_congr_left fun x hx => h x (by simp [Op.operands]; exact .inr (by simpa using hx))
    simp only [this]
  case slice T x lo hi mx =>
    have h1 : Γ.val tm' x = Γ.val tm x := h x (by simp [Op.operands])
    have h2 : lo.map (Γ.val tm') = lo.map (Γ.val tm) := by cases lo <;> simp; exact h _ (by simp [Op.operands])
    have h3 : hi.map (Γ.val tm') = hi.map (Γ.val tm) := by cases hi <;> simp; exact h _ (by simp [Op.operands])
    have h4 : mx.map (Γ.val tm') = mx.map (Γ.val tm) := by cases mx <;> simp; exact h _ (by simp [Op.operands])
    simp only [h1, h2, h3, h4]
  case call c =>
    obtain ⟨callee, args, Ts⟩ := c
    have hm : args.toList.map (Γ.val tm') = args.toList.map (Γ.val tm) := List.map_congr_left fun x hx => h x (by
      cases callee <;> simp [Op.operands, Call.operands] <;> first | simpa using hx | exact .inr (by simpa using hx))
    simp only
    cases callee with
    | builtin b =>
      cases b <;> simp only [hm] <;> first | rfl | skip
      · split
        · rename_i x y T T' d hx _ _
          have h1 := h x (by simp [Op.operands, Call.operands]; rw [← Array.mem_toList_iff, hx]; simp)
          have h2 := h y (by simp [Op.operands, Call.operands]; rw [← Array.mem_toList_iff, hx]; simp)
          rw [h1, h2]
        · rfl
      · split
        · rename_i x T _ hx _
          have h1 := h x (by simp [Op.operands, Call.operands]; rw [← Array.mem_toList_iff, hx]; simp)
          rw [h1]
        · rfl
    | value f =>
      have hf := h f (by simp [Op.operands, Call.operands])
      simp only [hm, hf]
    | invoke recv name => rfl
  all_goals first | rfl | (simp [Op.operands] at h; simp only [h])

/-! ### Objects -/
def Agree (lk lk' : Lk) (ks : List Nat) : Prop := ∀ k ∈ ks, lk' k = lk k
theorem Agree.left {lk lk' : Lk} {a b : List Nat} (h : Agree lk lk' (a ++ b)) : Agree lk lk' a := fun k hk => h k (List.mem_append_left _ hk)
theorem Agree.right {lk lk' : Lk} {a b : List Nat} (h : Agree lk lk' (a ++ b)) : Agree lk lk' b := fun k hk => h k (List.mem_append_right _ hk)
abbrev wkeys (wr : List (Nat × Nat × Obj)) : List Nat := wr.map (·.1)

theorem lk_load {lk lk' : Lk} {T : TypeId} {v : V} {K : Eff → Option C} (h : Agree lk lk' v.keysT) : evLoad Γ lk' T v K = evLoad Γ lk T v K := by
  unfold evLoad
  split
  · rfl
  · rw [h _ List.mem_cons_self]
  · rfl
theorem lk_fieldAddr {lk lk' : Lk} {T : TypeId} {v : V} {j : Nat} {K : Eff → Option C} (h : Agree lk lk' v.keysT) : evFieldAddr Γ lk' T v j K = evFieldAddr Γ lk T v j K := by
  unfold evFieldAddr
  split
  · split
    · split
      · rfl
      · split
        · rfl
        · rw [h _ List.mem_cons_self]
        · rfl
    · rfl
  · rfl
theorem lk_indexAddr {lk lk' : Lk} {T : TypeId} {v i : V} {K : Eff → Option C} (h : Agree lk lk' v.keysT) : evIndexAddr Γ lk' T v i K = evIndexAddr Γ lk T v i K := by
  unfold evIndexAddr
  split
  · split
    · rfl
    · rw [h _ List.mem_cons_self]
    · rfl
    · rw [h _ List.mem_cons_self]
    · rfl
  · rfl
theorem lk_convert {lk lk' : Lk} {S T : TypeId} {v : V} {K : Eff → Option C} (h : Agree lk lk' v.keysT) : evConvert Γ lk' S T v K = evConvert Γ lk S T v K := by
  unfold evConvert
  split
  · rfl
  · rfl
  · rfl
  · rw [h _ List.mem_cons_self]
  · rfl
theorem lk_slice {lk lk' : Lk} {T : TypeId} {v : V} {lo hi mx : Option V} {K : Eff → Option C} (h : Agree lk lk' v.keysT) : evSlice Γ lk' T v lo hi mx K = evSlice Γ lk T v lo hi mx K := by
  unfold evSlice
  split
  · rfl
  · rfl
  · rfl
  · rw [h _ List.mem_cons_self]
  · rfl
  · rfl
theorem lk_len {lk lk' : Lk} {v : V} {K : Eff → Option C} (h : Agree lk lk' v.keysT) : evLen lk' v K = evLen lk v K := by
  unfold evLen
  split <;> first | rfl | rw [h _ List.mem_cons_self]
theorem lk_sliceOf {lk lk' : Lk} {e : Ty} {v : V} (h : Agree lk lk' v.keysT) : sliceOf lk' e v = sliceOf lk e v := by
  unfold sliceOf
  split <;> first | rfl | rw [h _ List.mem_cons_self]
theorem lk_sure {lk lk' : Lk} {v : V} (h : Agree lk lk' v.keysT) : v.sure lk' = v.sure lk := by
  unfold V.sure
  split <;> first | rfl | rw [h _ List.mem_cons_self]
theorem lk_snap {lk lk' : Lk} {v : V} (h : Agree lk lk' v.keysT) : v.snap lk' = v.snap lk := by
  unfold V.snap
  split <;> first | rfl | rw [h _ List.mem_cons_self]
theorem lk_append {lk lk' : Lk} {d : Nat} {T T' : TypeId} {v x : V} {e : Eff} (h : Agree lk lk' (v.keysT ++ x.keysT)) (hw : Agree lk lk' (wkeys e.wr)) (he : evAppend Γ lk d T T' v x some = some e) : evAppend Γ lk' d T T' v x some = some e := by
  have h1 : ∀ e, sliceOf lk' e x = sliceOf lk e x := fun e => lk_sliceOf h.right
  cases v
  case sl u k s =>
    have : lk' k = lk k := h.left k (by simp [V.keysT, V.keysG, V.keysL, V.keysA])
    simp only [evAppend, h1, this] at he ⊢
    exact he
  case nils =>
    have hn : nextS lk' d = nextS lk d := by
      have h0 := he
      simp only [evAppend] at h0
      split at h0
      · split at h0
        · split at h0
          · split at h0
            · simp only [Option.some.injEq] at h0
              subst h0
              have : lk' d = lk d := hw d List.mem_cons_self
              simp [nextS, this]
            · simp at h0
          · simp at h0
        · simp at h0
      · simp at h0
    simp only [evAppend, h1, hn] at he ⊢
    exact he
  all_goals simp only [evAppend, h1] at he ⊢; exact he

theorem keys_coll (v : V) : v.coll = v ∨ v.coll.keysT = [] := by
  cases v <;> try exact .inl rfl
  case agg fs =>
    simp only [V.coll]
    split
    · exact .inr rfl
    · exact .inl rfl
theorem snap_coll {lk lk' : Lk} {v : V} (h : Agree lk lk' v.keysT) : v.coll.snap lk' = v.coll.snap lk := by
  rcases keys_coll v with hc | hc
  · rw [hc]; exact lk_snap h
  · exact lk_snap (by rw [hc]; intro k hk; simp at hk)
theorem snap_nilArg {lk lk' : Lk} {T : TypeId} {v : V} (h : Agree lk lk' v.keysT) : (nilArg Γ T v).snap lk' = (nilArg Γ T v).snap lk := by
  unfold nilArg
  split
  · rename_i ti _
    cases v
    case nils =>
      simp only [nilK, nilF]
      split <;> rfl
    case agg fs =>
      simp only [nilK, V.coll]
      split <;> rfl
    all_goals exact snap_coll h
  · exact snap_coll h
theorem snap_nilArgs {lk lk' : Lk} : ∀ (Ts : List TypeId) (vs : List V), Agree lk lk' (vs.flatMap V.keysT) → (nilArgs Γ Ts vs).map (V.snap lk') = (nilArgs Γ Ts vs).map (V.snap lk)
  | [], vs, h => by
    simp only [nilArgs]
    exact List.map_congr_left fun v hv => lk_snap fun k hk => h k (List.mem_flatMap.2 ⟨v, hv, hk⟩)
  | _ :: _, [], h => rfl
  | T :: Ts, v :: vs, h => by
    simp only [List.flatMap_cons] at h
    simp only [nilArgs, List.map_cons, snap_nilArg h.left, snap_nilArgs Ts vs h.right]
theorem lk_call {lk lk' : Lk} {f : V} {Ts : List TypeId} {vs : List V} {K : Eff → Option C} (h : Agree lk lk' (vs.flatMap V.keysT)) : evCall Γ lk' f (nilArgs Γ Ts vs) K = evCall Γ lk f (nilArgs Γ Ts vs) K := by
  simp only [evCall, snap_nilArgs Ts vs h]

/-! ### Thawing -/
theorem lk_thawF {lk lk' : Lk} {k j : Nat} {v : V} {t : Option Ty} (h : Agree lk lk' (wkeys (thawF lk k j v t).2)) : thawF lk' k j v t = thawF lk k j v t := by
  unfold thawF at h ⊢
  split
  · rename_i e
    have : lk' (subKey k j) = lk (subKey k j) := h _ (by simp [wkeys])
    simp [nextS, this]
  · rfl
theorem lk_thawL {lk lk' : Lk} {k : Nat} : ∀ (vs : List V) (ts : List (Option Ty)) (j : Nat), Agree lk lk' (wkeys (thawL lk k j vs ts).2) → thawL lk' k j vs ts = thawL lk k j vs ts
  | v :: vs, t :: ts, j, h => by
    simp only [thawL, wkeys, List.map_append] at h
    simp only [thawL, lk_thawF h.left, lk_thawL vs ts (j + 1) h.right]
  | [], _, _, _ => by simp [thawL]
  | _ :: _, [], _, _ => by simp [thawL]
theorem lk_thawK {lk lk' : Lk} {k : Nat} {sh : K} {v : V} (h : Agree lk lk' (wkeys (thawK lk k sh v).2)) : thawK lk' k sh v = thawK lk k sh v := by
  unfold thawK at h ⊢
  split
  · simp only at h ⊢; rw [lk_thawL _ _ _ h]
  · split
    · simp only at h ⊢; exact lk_thawF h
    · rfl
theorem lk_thawS {lk lk' : Lk} {k : Nat} {p : List Nat} {sh : K} {v : V} (h : Agree lk lk' (wkeys (thawS lk k p sh v).2)) : thawS lk' k p sh v = thawS lk k p sh v := by
  cases p with
  | nil => exact lk_thawK h
  | cons j r => cases r with
    | nil => exact lk_thawF h
    | cons _ _ => exact lk_thawK h
theorem lk_storeBox {lk lk' : Lk} {T : TypeId} {k s : Nat} {p : List Nat} {sh : K} {c x : V} {e : Eff} (hw : Agree lk lk' (wkeys e.wr)) (he : evStoreBox Γ lk T k s p sh c x some = some e) : evStoreBox Γ lk' T k s p sh c x some = some e := by
  unfold evStoreBox at he ⊢
  split at he
  · rename_i o k' hat
    have : thawS lk' k p k' x.coll = thawS lk k p k' x.coll := lk_thawS (by
      (repeat' split at he) <;> simp at he
      subst he
      simp only [wkeys, List.map_append] at hw
      exact hw.left)
    rw [this]; exact he
  · simp at he
theorem lk_store {lk lk' : Lk} {T : TypeId} {v x : V} {e : Eff} (h : Agree lk lk' v.keysT) (hw : Agree lk lk' (wkeys e.wr)) (he : evStore Γ lk T v x some = some e) : evStore Γ lk' T v x some = some e := by
  cases v <;> try exact he
  case ref k s p =>
    have : lk' k = lk k := h k (by simp [V.keysT, V.keysG, V.keysL, V.keysA])
    simp only [evStore, this] at he ⊢
    split at he
    · split at he
      · rename_i hs; rw [if_pos hs]; exact lk_storeBox hw he
      · simp at he
    · exact he
    · simp at he
theorem lk_box {lk lk' : Lk} {d : Nat} {sh : K} {v : V} {e : Eff} (hw : Agree lk lk' (wkeys e.wr)) (he : evBox lk d sh v some = some e) : evBox lk' d sh v some = some e := by
  have h0 := he
  unfold evBox at h0
  simp only at h0
  split at h0
  · simp only [Option.some.injEq] at h0
    subst h0
    simp only [wkeys, List.map_append] at hw
    have h1 := lk_thawK hw.left
    have h2 : lk' d = lk d := hw.right d (by simp)
    have h3 : nextS lk' d = nextS lk d := by simp [nextS, h2]
    unfold evBox at he ⊢
    rw [h1, h3]; exact he
  · simp at h0
theorem lk_buildSlice {lk lk' : Lk} {d : Nat} {T : TypeId} {n : Nat} {parts : List (Nat × V)} {e : Eff} (hw : Agree lk lk' (wkeys e.wr)) (he : evBuildSlice Γ lk d T n parts some = some e) : evBuildSlice Γ lk' d T n parts some = some e := by
  cases hown : Γ.own d with
  | false => simp only [evBuildSlice, hown, cond_false] at he ⊢; exact he
  | true =>
    have hn : nextS lk' d = nextS lk d := by
      have h0 := he
      simp only [evBuildSlice, hown, cond_true] at h0
      split at h0
      · split at h0
        · split at h0
          · simp only [Option.some.injEq] at h0
            subst h0
            have : lk' d = lk d := hw d List.mem_cons_self
            simp [nextS, this]
          · simp at h0
        · simp at h0
      · simp at h0
    simp only [evBuildSlice, hown, cond_true, hn] at he ⊢
    exact he
theorem lk_makeSlice {lk lk' : Lk} {d : Nat} {T : TypeId} {n c : V} {e : Eff} (hw : Agree lk lk' (wkeys e.wr)) (he : evMakeSlice Γ lk d T n c some = some e) : evMakeSlice Γ lk' d T n c some = some e := by
  have hn : nextS lk' d = nextS lk d := by
    have h0 := he
    unfold evMakeSlice at h0
    split at h0
    · split at h0
      · split at h0
        · simp only [Option.some.injEq] at h0
          subst h0
          have : lk' d = lk d := hw d List.mem_cons_self
          simp [nextS, this]
        · simp at h0
      · simp at h0
    · simp at h0
  simp only [evMakeSlice, hn] at he ⊢
  exact he

theorem lk_lookup {lk lk' : Lk} {T : TypeId} {m i : V} {ok : Bool} {K : Eff → Option C} (h : Agree lk lk' m.keysT) : evLookup Γ lk' T m i ok K = evLookup Γ lk T m i ok K := by
  unfold evLookup
  split
  · rfl
  · rw [h _ List.mem_cons_self]
  · rfl
theorem lk_mapUpdate {lk lk' : Lk} {T : TypeId} {m i x : V} {K : Eff → Option C} (h : Agree lk lk' m.keysT) : evMapUpdate Γ lk' T m i x K = evMapUpdate Γ lk T m i x K := by
  unfold evMapUpdate
  split
  · rw [h _ List.mem_cons_self]
  · rfl
theorem lk_makeMap {lk lk' : Lk} {d : Nat} {T : TypeId} {e : Eff} (hw : Agree lk lk' (wkeys e.wr)) (he : evMakeMap Γ lk d T some = some e) : evMakeMap Γ lk' d T some = some e := by
  unfold evMakeMap at he ⊢
  split at he
  · simp only [Option.some.injEq] at he
    subst he
    have : lk' d = lk d := hw d List.mem_cons_self
    simp [nextS, this]
  · simp at he
theorem lk_op {o : Oper} {tm : Tm} {lk lk' : Lk} {e : Eff} (he : evOp Γ o tm lk some = some e) (h : Agree lk lk' ((o.op.operands.toList.flatMap fun x => (Γ.val tm x).keysT) ++ wkeys e.wr)) : evOp Γ o tm lk' some = some e := by
  have hk : ∀ x ∈ o.op.operands.toList, Agree lk lk' (Γ.val tm x).keysT := fun x hx k hk => h k (List.mem_append_left _ (List.mem_flatMap.2 ⟨x, hx, hk⟩))
  have hw : Agree lk lk' (wkeys e.wr) := h.right
  clear h
  unfold evOp at he ⊢
  cases ho : o.op <;> rw [ho] at hk he <;> simp only at he ⊢ <;> try exact he
  case assign x =>
    split at he
    · rename_i hv
      split at he
      · rename_i d hT hd
        simp only [Option.some.injEq] at he
        subst he
        have : lk' d = lk d := hw d (by simp [wkeys])
        simp [nextS, this]
      · exact he
    · exact he
  case alloc T =>
    split at he
    · exact lk_box hw he
    · exact he
  case box T x =>
    split at he
    · split at he
      · rename_i hv; rw [if_pos hv]; exact lk_box hw he
      · simp at he
    · exact he
  case buildSlice T n ps =>
    split at he
    · exact lk_buildSlice hw he
    · exact he
  case load T x => rw [lk_load (hk x (by simp [Op.operands]))]; exact he
  case store T x y => exact lk_store (hk x (by simp [Op.operands])) hw he
  case nilCheck x => rw [lk_sure (hk x (by simp [Op.operands]))]; exact he
  case convert S T x => rw [lk_convert (hk x (by simp [Op.operands]))]; exact he
  case makeSlice T n c =>
    split at he
    · exact lk_makeSlice hw he
    · exact he
  case makeMap T rs =>
    split at he
    · exact lk_makeMap hw he
    · exact he
  case lookup T x i ok => rw [lk_lookup (hk x (by simp [Op.operands]))]; exact he
  case mapUpdate T m i x => rw [lk_mapUpdate (hk m (by simp [Op.operands]))]; exact he
  case insert T m i x => rw [lk_mapUpdate (hk m (by simp [Op.operands]))]; exact he
  case slice T x lo hi mx => rw [lk_slice (hk x (by simp [Op.operands]))]; exact he
  case fieldAddr T x j => rw [lk_fieldAddr (hk x (by simp [Op.operands]))]; exact he
  case indexAddr T x i => rw [lk_indexAddr (hk x (by simp [Op.operands]))]; exact he
  case call c =>
    obtain ⟨callee, ⟨args⟩, ⟨Ts⟩⟩ := c
    simp only at he ⊢
    have hargs : ∀ x ∈ args, Agree lk lk' (Γ.val tm x).keysT := fun x hx => hk x (by simp [Op.operands, Call.operands]; cases callee <;> simp [hx])
    split at he
    · split at he
      · rename_i x T Ts'
        rw [lk_len (hargs x (by simp))]; exact he
      · exact he
    · split at he
      · rename_i x y T T' d hd
        exact lk_append (fun k hk => by
          rcases List.mem_append.1 hk with hk | hk
          · exact hargs x (by simp) k hk
          · exact hargs y (by simp) k hk) hw he
      · exact he
    · exact he
    · exact he
    · rename_i f
      rw [lk_call fun k hk => by
        obtain ⟨v, hv, hk⟩ := List.mem_flatMap.1 hk
        obtain ⟨x, hx, rfl⟩ := List.mem_map.1 hv
        exact hargs x (by simpa using hx) k hk]
      exact he
    · exact he

end Go.Pv
