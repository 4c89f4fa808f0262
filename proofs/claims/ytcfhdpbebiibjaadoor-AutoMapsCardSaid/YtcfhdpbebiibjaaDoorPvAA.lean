/- The purifying layer, part 27: loops, told by shapes. -/
import Derived.Test.YtcfhdpbebiibjaaDoorPvZ
set_option linter.unusedVariables false
set_option linter.unusedSimpArgs false
namespace Go.Pv
variable {P : Program} {Γ : Cfg} {C : Type}

/-! ### Shapes of what lives on at a loop's head -/
inductive Sh0 where
  | d (t : Ty)
  | p (t : Ty)
  | c (a b : Ty)
  | pc (a b : Ty)
  | ref (k s : Nat) (p : List Nat)
  | sl (e : Ty) (k s : Nat)
  | mp (k s : Nat)
  | nils
  | junk
  | undef
  | nilf
@[reducible] def Sh0.T : Sh0 → Type
  | .d t => t.T
  | .p t => t.T
  | .c a b => a.T → Option b.T
  | .pc a b => a.T → Option b.T
  | _ => Unit
def Sh0.put : (s : Sh0) → s.T → V
  | .d t, x => .dat t x
  | .p t, x => .eptr (.dat t x)
  | .c a b, g => .clo a b g
  | .pc a b, g => .eptr (.clo a b g)
  | .ref k s pa, _ => .ref k s pa
  | .sl e k s, _ => .sl e k s
  | .mp k s, _ => .mp k s
  | .nils, _ => .nils
  | .junk, _ => .junk
  | .undef, _ => .undef
  | .nilf, _ => .nilf
def Sh0.get : (s : Sh0) → V → Option s.T
  | .d t, v => v.as t
  | .p t, .eptr v => v.as t
  | .c a b, .clo a' b' g => if h : a' = a ∧ b' = b then some (h.1 ▸ h.2 ▸ g) else none
  | .pc a b, .eptr (.clo a' b' g) => if h : a' = a ∧ b' = b then some (h.1 ▸ h.2 ▸ g) else none
  | .ref k s pa, .ref k' s' pb => if k' = k ∧ s' = s ∧ pb = pa then some () else none
  | .sl e k s, .sl e' k' s' => if e' = e ∧ k' = k ∧ s' = s then some () else none
  | .mp k s, .mp k' s' => if k' = k ∧ s' = s then some () else none
  | .nils, .nils => some ()
  | .junk, .junk => some ()
  | .undef, .undef => some ()
  | .nilf, .nilf => some ()
  | _, _ => none
theorem Sh0.get_put : ∀ (s : Sh0) (v : V) (x : s.T), s.get v = some x → v = s.put x := by
  intro s v x h
  cases s with
  | d t => exact as_some h
  | p t =>
    cases v <;> simp only [Sh0.get] at h <;> first | exact (by rw [as_some h]; rfl) | (simp at h; done)
  | c a b => exact AS.get_put (.c a b) v x (by cases v <;> exact h)
  | pc a b =>
    refine AS.get_put (.pc a b) v x ?_
    cases v <;> try exact h
    rename_i v
    cases v <;> exact h
  | ref k s p =>
    cases v <;> simp only [Sh0.get] at h <;> try (simp at h; done)
    split at h
    · rename_i hh; obtain ⟨rfl, rfl, rfl⟩ := hh; rfl
    · simp at h
  | sl e k s =>
    cases v <;> simp only [Sh0.get] at h <;> try (simp at h; done)
    split at h
    · rename_i hh; obtain ⟨rfl, rfl, rfl⟩ := hh; rfl
    · simp at h
  | mp k s =>
    cases v <;> simp only [Sh0.get] at h <;> try (simp at h; done)
    split at h
    · rename_i hh; obtain ⟨rfl, rfl⟩ := hh; rfl
    · simp at h
  | nils => cases v <;> simp only [Sh0.get] at h <;> first | rfl | (simp at h; done)
  | junk => cases v <;> simp only [Sh0.get] at h <;> first | rfl | (simp at h; done)
  | undef => cases v <;> simp only [Sh0.get] at h <;> first | rfl | (simp at h; done)
  | nilf => cases v <;> simp only [Sh0.get] at h <;> first | rfl | (simp at h; done)
@[reducible] def Prod0 : List Sh0 → Type
  | [] => Unit
  | s :: r => s.T × Prod0 r
def put0 : (l : List Sh0) → Prod0 l → List V
  | [], _ => []
  | s :: r, x => s.put x.1 :: put0 r x.2
def get0 : (l : List Sh0) → List V → Option (Prod0 l)
  | [], [] => some ()
  | s :: r, v :: vs => match s.get v, get0 r vs with
    | some x, some y => some (x, y)
    | _, _ => none
  | _, _ => none
theorem get0_put : ∀ (l : List Sh0) (vs : List V) (x : Prod0 l), get0 l vs = some x → vs = put0 l x
  | [], [], _, _ => rfl
  | [], _ :: _, _, h => by simp [get0] at h
  | _ :: _, [], _, h => by simp [get0] at h
  | s :: r, v :: vs, x, h => by
    simp only [get0] at h
    split at h
    · rename_i y z h1 h2
      simp only [Option.some.injEq] at h
      subst h
      rw [Sh0.get_put s v y h1, get0_put r vs z h2]; rfl
    · simp at h

/-- A slot's value: an atom, a function with what it has caught, a struct. -/
inductive Sh1 where
  | a (s : Sh0)
  | fn (f : FuncId) (caps : List Sh0)
  | agg (fs : List Sh0)
@[reducible] def Sh1.T : Sh1 → Type
  | .a s => s.T
  | .fn _ l => Prod0 l
  | .agg l => Prod0 l
def Sh1.put : (s : Sh1) → s.T → V
  | .a s, x => s.put x
  | .fn f l, x => .fn f (put0 l x)
  | .agg l, x => .agg (put0 l x)
def Sh1.get : (s : Sh1) → V → Option s.T
  | .a s, v => s.get v
  | .fn f l, .fn f' vs => bif Nat.beq f' f then get0 l vs else none
  | .agg l, .agg vs => get0 l vs
  | _, _ => none
theorem Sh1.get_put : ∀ (s : Sh1) (v : V) (x : s.T), s.get v = some x → v = s.put x := by
  intro s v x h
  cases s with
  | a s => exact Sh0.get_put s v x h
  | fn f l =>
    cases v <;> simp only [Sh1.get] at h <;> try (simp at h; done)
    rename_i f' vs
    cases hf : Nat.beq f' f with
    | false => rw [hf] at h; simp at h
    | true =>
      rw [hf] at h
      rw [Nat.eq_of_beq_eq_true hf, get0_put l vs x h]; rfl
  | agg l =>
    cases v <;> simp only [Sh1.get] at h <;> try (simp at h; done)
    rw [get0_put l _ x h]; rfl
@[reducible] def Prod1 : List Sh1 → Type
  | [] => Unit
  | s :: r => s.T × Prod1 r
def put1 : (l : List Sh1) → Prod1 l → List V
  | [], _ => []
  | s :: r, x => s.put x.1 :: put1 r x.2
def get1 : (l : List Sh1) → List V → Option (Prod1 l)
  | [], [] => some ()
  | s :: r, v :: vs => match s.get v, get1 r vs with
    | some x, some y => some (x, y)
    | _, _ => none
  | _, _ => none
theorem get1_put : ∀ (l : List Sh1) (vs : List V) (x : Prod1 l), get1 l vs = some x → vs = put1 l x
  | [], [], _, _ => rfl
  | [], _ :: _, _, h => by simp [get1] at h
  | _ :: _, [], _, h => by simp [get1] at h
  | s :: r, v :: vs, x, h => by
    simp only [get1] at h
    split at h
    · rename_i y z h1 h2
      simp only [Option.some.injEq] at h
      subst h
      rw [Sh1.get_put s v y h1, get1_put r vs z h2]; rfl
    · simp at h

inductive OSh where
  | none
  | box (k : K) (s : Sh1)
  | vec (e : Ty)
  | map (k v : Ty)
@[reducible] def OSh.T : OSh → Type
  | .none => Unit
  | .box _ s => s.T
  | .vec e => List e.T
  | .map k v => List (k.T × v.T)
def OSh.put : (s : OSh) → s.T → Option Obj
  | .none, _ => Option.none
  | .box k s, x => some (.box k (s.put x))
  | .vec e, xs => some (.vec e xs)
  | .map k v, es => some (.map k v es)
def OSh.get : (s : OSh) → Option Obj → Option s.T
  | .none, Option.none => some ()
  | .box k s, some (.box k' c) => if k' = k then s.get c else Option.none
  | .vec e, some (.vec e' xs) => if h : e' = e then some (h ▸ xs) else Option.none
  | .map k v, some (.map k' v' es) => if h : k' = k ∧ v' = v then some (h.1 ▸ h.2 ▸ es) else Option.none
  | _, _ => Option.none
theorem OSh.get_put : ∀ (s : OSh) (o : Option Obj) (x : s.T), s.get o = some x → o = s.put x := by
  intro s o x h
  cases s with
  | none => cases o <;> simp only [OSh.get] at h <;> first | rfl | (simp at h; done)
  | box k s =>
    cases o with
    | none => simp [OSh.get] at h
    | some o =>
      cases o <;> simp only [OSh.get] at h <;> try (simp at h; done)
      split at h
      · rename_i hh; subst hh; rw [Sh1.get_put s _ x h]; rfl
      · simp at h
  | vec e =>
    cases o with
    | none => simp [OSh.get] at h
    | some o =>
      cases o <;> simp only [OSh.get] at h <;> try (simp at h; done)
      split at h
      · rename_i hh; subst hh; simp only [Option.some.injEq] at h; subst h; rfl
      · simp at h
  | map k v =>
    cases o with
    | none => simp [OSh.get] at h
    | some o =>
      cases o <;> simp only [OSh.get] at h <;> try (simp at h; done)
      split at h
      · rename_i hh
        obtain ⟨rfl, rfl⟩ := hh
        simp only [Option.some.injEq] at h; subst h; rfl
      · simp at h
@[reducible] def ProdO : List OSh → Type
  | [] => Unit
  | s :: r => s.T × ProdO r
def putO : (l : List OSh) → ProdO l → List (Option Obj)
  | [], _ => []
  | s :: r, x => s.put x.1 :: putO r x.2
def getO : (l : List OSh) → List (Option Obj) → Option (ProdO l)
  | [], [] => some ()
  | s :: r, v :: vs => match s.get v, getO r vs with
    | some x, some y => some (x, y)
    | _, _ => none
  | _, _ => none
theorem getO_put : ∀ (l : List OSh) (vs : List (Option Obj)) (x : ProdO l), getO l vs = some x → vs = putO l x
  | [], [], _, _ => rfl
  | [], _ :: _, _, h => by simp [getO] at h
  | _ :: _, [], _, h => by simp [getO] at h
  | s :: r, v :: vs, x, h => by
    simp only [getO] at h
    split at h
    · rename_i y z h1 h2
      simp only [Option.some.injEq] at h
      subst h
      rw [OSh.get_put s v y h1, getO_put r vs z h2]; rfl
    · simp at h

/-! ### Loops -/
/-- A loop, as a plain function: its body, again and again. -/
noncomputable def itP {α : Type} (B : (α → Option C) → α → Option C) (n : Nat) : α → Option C := Nat.rec (fun _ => none) (fun _ f => B f) n
theorem itP_zero {α : Type} (B : (α → Option C) → α → Option C) (a : α) : itP B 0 a = none := rfl
theorem itP_succ {α : Type} (B : (α → Option C) → α → Option C) (n : Nat) (a : α) : itP B (n + 1) a = B (itP B n) a := rfl

/-- What a loop's body comes to, whatever comes after. -/
abbrev bodyEv (Γ : Cfg) (an : Ann) (b : Code) (p : Nat) (rec : St → Option C) (K' : Ex → St → Option C) (st : St) : Option C :=
  ev Γ an b (2 * p) st fun e st => match e with
    | .normal => bif objsOk (norm (an.keepOf p).1 (an.keepOf p).2 st).objs then rec (norm (an.keepOf p).1 (an.keepOf p).2 st) else none
    | e => leave (an.outOf p).1 (an.outOf p).2 K' e st

theorem loop_gen {an : Ann} {b : Code} {p : Nat} {K' : Ex → St → Option C} {α : Type} (mk : α → St) (B : (α → Option C) → α → Option C) (h : ∀ rec a, bodyEv Γ an b p rec K' (mk a) = B (fun a => rec (mk a)) a) :
    ∀ n a, loopRun Γ an b p n (mk a) K' = itP B n a
  | 0, _ => rfl
  | n + 1, a => by
    have h1 := h (fun st => loopRun Γ an b p n st K') a
    have h2 : (fun a => loopRun Γ an b p n (mk a) K') = itP B n := funext fun a => loop_gen mk B h n a
    rw [h2] at h1
    exact h1

/-- A loop told from outside, by shapes: slots, objects, and what it comes to. -/
structure Told where
  nt : Nat
  sv : List Sh1
  so : List OSh
  run : {C : Type} → (Ex → St → Option C) → (Prod1 sv × ProdO so → Option C) → Prod1 sv × ProdO so → Option C
  fuel : Prod1 sv × ProdO so → Nat
def Told.mk' (t : Told) (kT kK : List Nat) (a : Prod1 t.sv × ProdO t.so) : St := build t.nt kT kK (put1 t.sv a.1) (putO t.so a.2)
noncomputable def Told.fn (t : Told) : LoopFn := ⟨fun n vs os K' => bif Nat.beq n t.nt then (match get1 t.sv vs, getO t.so os with
  | some x, some y => itP (t.run K') (t.fuel (x, y)) (x, y)
  | _, _ => none) else none⟩
def Told.fu (t : Told) (vs : List V) (os : List (Option Obj)) : Nat := match get1 t.sv vs, getO t.so os with
  | some x, some y => t.fuel (x, y)
  | _, _ => 0

/-- Loops told: path and what is told. -/
noncomputable def toldL : List (Nat × Told) → Nat → Option LoopFn
  | [], _ => none
  | q :: r, p => bif Nat.beq q.1 p then some q.2.fn else toldL r p
def toldFuel : List (Nat × Told) → Nat → List V → List (Option Obj) → Nat
  | [], _, _, _ => 0
  | q :: r, p, vs, os => bif Nat.beq q.1 p then q.2.fu vs os else toldFuel r p vs os

/-- One told loop is right. -/
structure ToldOk (Γ : Cfg) (an : Ann) (root : Code) (p : Nat) (t : Told) : Prop where
  at_ : ∃ b, codeAt root 64 p = some (.loop b) ∧
    ∀ {C : Type} (K' : Ex → St → Option C) rec a, bodyEv Γ an b p rec K' (t.mk' (an.keepOf p).1 (an.keepOf p).2 a) = t.run K' (fun a => rec (t.mk' (an.keepOf p).1 (an.keepOf p).2 a)) a
  fit : ∀ a, objsOk (t.mk' (an.keepOf p).1 (an.keepOf p).2 a).objs = true
def AllTold (Γ : Cfg) (an : Ann) (root : Code) : List (Nat × Told) → Prop
  | [] => True
  | q :: r => ToldOk Γ an root q.1 q.2 ∧ AllTold Γ an root r
theorem told_ok {an : Ann} {root : Code} (l0 : List (Nat × Told)) (hf : an.fuel = toldFuel l0) (hL : an.L = toldL l0) (h : AllTold Γ an root l0) : LOk Γ an root := by
  intro p f hp k b hk C n vs os K' r hr
  rw [hL] at hp
  -- the row
  have key : ∀ l : List (Nat × Told), AllTold Γ an root l → toldL l p = some f → ∃ t : Told, f = t.fn ∧ ToldOk Γ an root p t ∧ ∀ vs os, toldFuel l p vs os = t.fu vs os := by
    intro l
    induction l with
    | nil => intro _ h; simp [toldL] at h
    | cons q l ih =>
      intro ha h
      simp only [toldL] at h
      cases hq : Nat.beq q.1 p with
      | true =>
        rw [hq] at h
        simp only [cond_true, Option.some.injEq] at h
        refine ⟨q.2, h.symm, ?_, fun vs os => by simp [toldFuel, hq]⟩
        rw [← Nat.eq_of_beq_eq_true hq]; exact ha.1
      | false =>
        rw [hq] at h
        obtain ⟨t, h1, h2, h3⟩ := ih ha.2 h
        exact ⟨t, h1, h2, fun vs os => by simp only [toldFuel, hq, cond_false]; exact h3 vs os⟩
  obtain ⟨t, rfl, ht, hfu⟩ := key l0 h hp
  obtain ⟨b', hb', hbody⟩ := ht.at_
  have hbb := codeAt_fn hk hb'
  simp only [Code.loop.injEq] at hbb
  subst hbb
  simp only [Told.fn] at hr
  cases hn : Nat.beq n t.nt with
  | false => rw [hn] at hr; simp at hr
  | true =>
    rw [hn] at hr
    simp only [cond_true] at hr
    have hnn := Nat.eq_of_beq_eq_true hn
    subst hnn
    split at hr
    · rename_i x y hx hy
      have hvs := get1_put _ _ _ hx
      have hos := getO_put _ _ _ hy
      have hfuel : an.fuel p vs os = t.fuel (x, y) := by rw [hf, hfu]; simp only [Told.fu, hx, hy]
      have hloop := loop_gen (t.mk' (an.keepOf p).1 (an.keepOf p).2) (t.run K') (fun rec a => hbody K' rec a) (t.fuel (x, y)) (x, y)
      have hfit := ht.fit (x, y)
      unfold loopEv
      rw [hfuel]
      have hbld : build t.nt (an.keepOf p).1 (an.keepOf p).2 vs os = t.mk' (an.keepOf p).1 (an.keepOf p).2 (x, y) := by rw [hvs, hos]; rfl
      rw [hbld, hfit]
      simp only [cond_true]
      rw [hloop]; exact hr
    · simp at hr

theorem lokF_of {an : Ann} {fn : Func} (h : LOk Γ an (fn.body.getD .skip)) : LOkF Γ an fn := fun c hc => by rw [hc] at h; exact h

end Go.Pv
