/- The purifying layer, part 5: abstract values in a world, and the relation between abstract and real states. -/
import Derived.Test.YtcfhdpbebiibjaaDoorPvD
set_option linter.unusedVariables false
set_option linter.unusedSimpArgs false
namespace Go.Pv

/-- Two lists, place by place. -/
def Pt {α β : Type} (R : α → β → Prop) : List α → List β → Prop
  | [], ys => ys = []
  | x :: xs, ys => ∃ y r, ys = y :: r ∧ R x y ∧ Pt R xs r
theorem Pt.mono {α β : Type} {R R' : α → β → Prop} (h : ∀ x y, R x y → R' x y) : ∀ (xs : List α) (ys : List β), Pt R xs ys → Pt R' xs ys
  | [], _, hc => hc
  | x :: xs, ys, ⟨y, r, he, h1, h2⟩ => ⟨y, r, he, h _ _ h1, Pt.mono h xs r h2⟩
theorem Pt.length {α β : Type} {R : α → β → Prop} : ∀ (xs : List α) (ys : List β), Pt R xs ys → ys.length = xs.length
  | [], _, hc => by subst hc; rfl
  | x :: xs, ys, ⟨y, r, he, h1, h2⟩ => by subst he; simp [Pt.length xs r h2]
theorem Pt.append {α β : Type} {R : α → β → Prop} : ∀ (xs : List α) (ys : List β) (xs' : List α) (ys' : List β), Pt R xs ys → Pt R xs' ys' → Pt R (xs ++ xs') (ys ++ ys')
  | [], ys, xs', ys', h, h' => by have : ys = [] := h; subst this; exact h'
  | x :: xs, ys, xs', ys', ⟨y, r, he, h1, h2⟩, h' => by subst he; exact ⟨y, r ++ ys', rfl, h1, Pt.append xs r xs' ys' h2 h'⟩
theorem Pt.get {α β : Type} {R : α → β → Prop} : ∀ (xs : List α) (ys : List β), Pt R xs ys → ∀ (i : Nat) (x : α), xs[i]? = some x → ∃ y, ys[i]? = some y ∧ R x y
  | [], _, _, i, x, h => by simp at h
  | x :: xs, ys, ⟨y, r, he, h1, h2⟩, 0, z, h => by subst he; simp at h; subst h; exact ⟨y, rfl, h1⟩
  | x :: xs, ys, ⟨y, r, he, h1, h2⟩, i + 1, z, h => by subst he; simp at h; obtain ⟨u, hu, hR⟩ := Pt.get xs r h2 i z h; exact ⟨u, by simpa using hu, hR⟩
theorem Pt.map {α β γ : Type} {R : α → β → Prop} {R' : γ → β → Prop} (f : α → γ) (h : ∀ x y, R x y → R' (f x) y) : ∀ (xs : List α) (ys : List β), Pt R xs ys → Pt R' (xs.map f) ys
  | [], _, hc => hc
  | x :: xs, ys, ⟨y, r, he, h1, h2⟩ => ⟨y, r, he, h _ _ h1, Pt.map f h xs r h2⟩
theorem All2.map {α γ : Type} {R : α → List Value → Prop} {R' : γ → List Value → Prop} (f : α → γ) (h : ∀ x y, R x y → R' (f x) y) : ∀ (xs : List α) (ys : List Value), All2 R xs ys → All2 R' (xs.map f) ys
  | [], _, hc => hc
  | x :: xs, ys, ⟨y, r, he, h1, h2⟩ => ⟨y, r, he, h _ _ h1, All2.map f h xs r h2⟩

/-- What a call keeps: whatever was there is as it was, new things may be frozen. -/
structure Step (Fz : Nat → Prop) (w : World) (Fz' : Nat → Prop) (w' : World) : Prop where
  os : w'.os = w.os
  tape : w'.tape = w.tape
  output : w'.output = w.output
  size : w.heap.size ≤ w'.heap.size
  block : ∀ b, b < w.heap.size → w'.heap[b]? = w.heap[b]?
  fz : ∀ b, b < w.heap.size → (Fz' b ↔ Fz b)
  lt : ∀ b, Fz' b → b < w'.heap.size
theorem Step.refl {Fz : Nat → Prop} {w : World} (h : ∀ b, Fz b → b < w.heap.size) : Step Fz w Fz w := ⟨rfl, rfl, rfl, Nat.le_refl _, fun _ _ => rfl, fun _ _ => Iff.rfl, h⟩
theorem Step.trans {F1 F2 F3 : Nat → Prop} {a b c : World} (h : Step F1 a F2 b) (k : Step F2 b F3 c) : Step F1 a F3 c :=
  ⟨k.os.trans h.os, k.tape.trans h.tape, k.output.trans h.output, Nat.le_trans h.size k.size, fun x hx => (k.block x (Nat.lt_of_lt_of_le hx h.size)).trans (h.block x hx),
   fun x hx => (k.fz x (Nat.lt_of_lt_of_le hx h.size)).trans (h.fz x hx), k.lt⟩
theorem Step.fut {Fz Fz' : Nat → Prop} {w w' : World} (h : Step Fz w Fz' w') (hl : ∀ b, Fz b → b < w.heap.size) : Fut Fz w Fz' w' :=
  fun b hb => ⟨(h.fz b (hl b hb)).2 hb, h.block b (hl b hb)⟩

section
variable (P : Program) (G : Nat → Option V)

/-- The program's variables that are read hold what is told of them. -/
def GlobC (Fz : Nat → Prop) (w : World) : Prop :=
  ∀ g t x, G g = some (.dat t x) → Fz g ∧ ∃ c T fz cells, w.heap[g]? = some (.cells c T fz) ∧ RepC Fz w t x cells ∧ cells <+: c.toList
structure Inv (Fz : Nat → Prop) (w : World) : Prop where
  lt : ∀ b, Fz b → b < w.heap.size
  glob : GlobC G Fz w
variable {G}
theorem Inv.step {Fz Fz' : Nat → Prop} {w w' : World} (h : Inv G Fz w) (hs : Fut Fz w Fz' w') (hl : ∀ b, Fz' b → b < w'.heap.size) : Inv G Fz' w' :=
  ⟨hl, fun g t x hg => let ⟨hf, c, T, fz, cells, h1, h2, h3⟩ := h.glob g t x hg; ⟨(hs g hf).1, c, T, fz, cells, (hs g hf).2.trans h1, h2.mono hs, h3⟩⟩
variable (G)

/-- A call that returns, and keeps. -/
def CallsT (f : FuncId) (args : Array Value) (Fz : Nat → Prop) (w : World) (R : (Nat → Prop) → World → Value → Prop) : Prop :=
  Calls P f args w fun e w' => ∃ v Fz', e = .returned v ∧ Step Fz w Fz' w' ∧ R Fz' w' v

/-- Arguments of a closure: data, one behind the other. -/
def RepArgs (Fz : Nat → Prop) (w : World) : (a : Ty) → a.T → List Value → Prop
  | .unit, _, vs => vs = []
  | .pair t u, x, vs => ∃ v r, vs = v :: r ∧ RepD Fz w t x.1 v ∧ RepArgs Fz w u x.2 r
  | _, _, _ => False

def HasBody (P : Program) (f : FuncId) : Prop := ∃ fn, P.funcs[f]? = some fn ∧ fn.body.isSome = true ∧ (fn.name == "runtime.NumGoroutine") = false
def CloOk (Fz : Nat → Prop) (w : World) (f : FuncId) (caps : Array Value) (a b : Ty) (g : a.T → Option b.T) : Prop :=
  HasBody P f ∧ ∀ Fz' w', Fut Fz w Fz' w' → Inv G Fz' w' → ∀ x vs y, RepArgs Fz' w' a x vs → g x = some y → CallsT P f (vs.toArray ++ caps) Fz' w' fun Fz'' w'' v => RepD Fz'' w'' b y v

/-- Atoms that need no memory of the activation's own. -/
def RepA0 (Fz : Nat → Prop) (w : World) : V → Value → Prop
  | .dat t x, v => RepD Fz w t x v
  | .clo a b g, v => ∃ f caps, v = .func (.func f) #[] caps ∧ CloOk P G Fz w f caps a b g
  | .nilf, v => v = .nilFunc
  | _, _ => False
/-- The same, as cells. -/
def RepP (Fz : Nat → Prop) (w : World) : V → List Value → Prop
  | .dat t x, cs => RepC Fz w t x cs
  | v, cs => ∃ u, cs = [u] ∧ RepA0 P G Fz w v u
end

theorem CloOk.mono {P : Program} {G : Nat → Option V} {Fz Fz' : Nat → Prop} {w w' : World} (hf : Fut Fz w Fz' w') {f : FuncId} {caps : Array Value} {a b : Ty} {g : a.T → Option b.T}
    (h : CloOk P G Fz w f caps a b g) : CloOk P G Fz' w' f caps a b g := ⟨h.1, fun F2 w2 hf2 => h.2 F2 w2 (hf.trans hf2)⟩
theorem RepA0.mono {P : Program} {G : Nat → Option V} {Fz Fz' : Nat → Prop} {w w' : World} (hf : Fut Fz w Fz' w') : ∀ (v : V) (u : Value), RepA0 P G Fz w v u → RepA0 P G Fz' w' v u := by
  intro v u h
  cases v <;> simp only [RepA0] at h ⊢ <;> first | exact h | exact h.mono hf | exact h.elim | skip
  obtain ⟨f, caps, h1, h2⟩ := h
  exact ⟨f, caps, h1, h2.mono hf⟩
theorem RepP.mono {P : Program} {G : Nat → Option V} {Fz Fz' : Nat → Prop} {w w' : World} (hf : Fut Fz w Fz' w') (v : V) (cs : List Value) (h : RepP P G Fz w v cs) : RepP P G Fz' w' v cs := by
  cases v <;> simp only [RepP] at h ⊢ <;> first | exact h.mono hf | (obtain ⟨u, h1, h2⟩ := h; exact ⟨u, h1, RepA0.mono hf _ _ h2⟩)

/-! ### With objects -/
structure E where
  P : Program
  G : Nat → Option V
  Fz : Nat → Prop
  w : World
  lk : Lk
  pos : Nat → Value

def vaddr : Value → Option Addr
  | .pointer (some a) => some a
  | .slice (some a) _ _ => some a
  | _ => none
def vblk : Value → Option Nat
  | .pointer (some a) => some a.block
  | .slice (some a) _ _ => some a.block
  | .map (some b) => some b
  | _ => none

def Obj.off : Obj → List Nat → Option Nat
  | .box sh _, p => (K.at p sh).map (·.1)
  | .vec e _, i :: p => (Ty.at p e).map fun q => i * e.size + q.1
  | _, _ => none
/-- What a reference to an object leans on. -/
def Obj.alike : Obj → Obj → Prop
  | .box sh _, .box sh' _ => sh = sh'
  | .vec e _, .vec e' _ => e = e'
  | .map k v _, .map k' v' _ => k = k' ∧ v = v'
  | _, _ => False
theorem Obj.alike_refl (o : Obj) : o.alike o := by cases o <;> simp [Obj.alike]
theorem Obj.alike_trans {a b c : Obj} (h : a.alike b) (k : b.alike c) : a.alike c := by
  cases a <;> cases b <;> cases c <;> simp_all [Obj.alike]
theorem Obj.alike_off {a b : Obj} (h : a.alike b) (p : List Nat) : b.off p = a.off p := by
  cases a <;> cases b <;> simp only [Obj.alike] at h
  · subst h; rfl
  · subst h; cases p <;> rfl
  · rfl
def Obj.isVec (e : Ty) : Obj → Prop
  | .vec e' _ => e' = e
  | _ => False
theorem Obj.alike_isVec {a b : Obj} (h : a.alike b) {e : Ty} (k : a.isVec e) : b.isVec e := by
  cases a <;> cases b <;> simp_all [Obj.alike, Obj.isVec]

def RepA (E : E) : V → Value → Prop
  | .dat t x, v => RepA0 E.P E.G E.Fz E.w (.dat t x) v
  | .clo a b g, v => RepA0 E.P E.G E.Fz E.w (.clo a b g) v
  | .nilf, v => v = .nilFunc
  | .junk, _ => True
  | .undef, v => v = Go.undef
  | .ref k s p, v => v.oneCell' = true ∧ ∃ s' o, E.lk k = some (s', o) ∧ s ≤ s' ∧ (s = s' → ∃ d a, o.off p = some d ∧ vaddr (E.pos k) = some a ∧ v = .pointer (some ⟨a.block, a.off + d, none⟩))
  | .eptr u, v => ∃ b off c T fz cells, v = .pointer (some ⟨b, off, none⟩) ∧ E.Fz b ∧ E.w.heap[b]? = some (.cells c T fz) ∧ RepP E.P E.G E.Fz E.w u cells ∧ cells <+: c.toList.drop off
  | .sl e k s, v => v.oneCell' = true ∧ ∃ s' o, E.lk k = some (s', o) ∧ s ≤ s' ∧ (s = s' → o.isVec e ∧ v = E.pos k)
  | .nils, v => v = .slice none 0 0
  | .mp k s, v => v.oneCell' = true ∧ ∃ s' o, E.lk k = some (s', o) ∧ s ≤ s' ∧ (s = s' → v = E.pos k)
  | _, _ => False
def RepL (E : E) : V → Value → Prop
  | .fn f caps, v => ∃ us, v = .func (.func f) #[] us.toArray ∧ Pt (RepA E) caps us
  | v, u => RepA E v u
def RepF (E : E) : V → List Value → Prop
  | .dat t x, cs => RepC E.Fz E.w t x cs
  | v, cs => ∃ u, cs = [u] ∧ u.oneCell' = true ∧ RepL E v u
def RepG (E : E) : V → Value → Prop
  | .agg fs, v => ∃ cs, v = .agg cs.toArray ∧ All2 (RepF E) fs cs
  | v, u => RepL E v u
def RepT (E : E) : V → Value → Prop
  | .tup vs, v => ∃ us, v = .tuple us.toArray ∧ Pt (RepG E) vs us
  | v, u => RepG E v u
/-- A box's content, as cells. -/
def RepB (E : E) : V → List Value → Prop
  | .agg fs, cs => All2 (RepF E) fs cs
  | v, cs => RepF E v cs

def RepO (E : E) : Obj → Value → Prop
  | .box sh c, v => c.fits sh = true ∧ ∃ b cells T, v = .pointer (some ⟨b, 0, none⟩) ∧ E.w.heap[b]? = some (.cells cells T (0, 0)) ∧ RepB E c cells.toList
  | .vec e xs, v => (v = .slice none 0 0 ∧ xs = []) ∨ ∃ b off cap cells T, v = .slice (some ⟨b, off, none⟩) xs.length cap ∧ E.w.heap[b]? = some (.cells cells T (0, 0)) ∧ xs.length ≤ cap ∧ cap ≤ maxLen ∧
      off + cap * e.size ≤ cells.size ∧ ∃ cs, All2 (RepC E.Fz E.w e) xs cs ∧ cs <+: cells.toList.drop off
  | .map k v es, u => ∃ b ents clock, u = .map (some b) ∧ E.w.heap[b]? = some (.map ents clock) ∧ clock = ents.size ∧
      MapRep (fun x u => ∃ cs, RepC E.Fz E.w k x cs ∧ u = pack k cs) (fun x u => ∃ cs, RepC E.Fz E.w v x cs ∧ u = pack v cs) 0 es ents.toList

/-- What references live through. -/
structure Le (A B : E) : Prop where
  P : B.P = A.P
  G : B.G = A.G
  fut : Fut A.Fz A.w B.Fz B.w
  lk : ∀ k s o, A.lk k = some (s, o) → ∃ s' o', B.lk k = some (s', o') ∧ s ≤ s' ∧ (s = s' → o.alike o' ∧ B.pos k = A.pos k)

variable {A B : E}
theorem RepA.mono (h : Le A B) : ∀ (v : V) (u : Value), RepA A v u → RepA B v u := by
  intro v u hr
  cases v <;> simp only [RepA] at hr ⊢ <;> try exact hr
  case dat t x => rw [h.P, h.G]; exact RepA0.mono h.fut _ _ hr
  case clo a b g => rw [h.P, h.G]; exact RepA0.mono h.fut _ _ hr
  case ref k s p =>
    obtain ⟨hone, s', o, h1, h2, h3⟩ := hr
    obtain ⟨s2, o2, g1, g2, g3⟩ := h.lk k s' o h1
    refine ⟨hone, s2, o2, g1, Nat.le_trans h2 g2, fun e => ?_⟩
    have e1 : s = s' := by omega
    obtain ⟨ha, hp⟩ := g3 (by omega)
    obtain ⟨d, a, k1, k2, k3⟩ := h3 e1
    exact ⟨d, a, by rw [Obj.alike_off ha]; exact k1, by rw [hp]; exact k2, k3⟩
  case eptr u' =>
    obtain ⟨b, off, c, T, fz, cells, h1, h2, h3, h4, h5⟩ := hr
    exact ⟨b, off, c, T, fz, cells, h1, (h.fut b h2).1, (h.fut b h2).2.trans h3, by rw [h.P, h.G]; exact RepP.mono h.fut _ _ h4, h5⟩
  case sl e k s =>
    obtain ⟨hone, s', o, h1, h2, h3⟩ := hr
    obtain ⟨s2, o2, g1, g2, g3⟩ := h.lk k s' o h1
    refine ⟨hone, s2, o2, g1, Nat.le_trans h2 g2, fun e => ?_⟩
    obtain ⟨ha, hp⟩ := g3 (by omega)
    obtain ⟨k1, k2⟩ := h3 (by omega)
    exact ⟨Obj.alike_isVec ha k1, by rw [hp]; exact k2⟩
  case mp k s =>
    obtain ⟨hone, s', o, h1, h2, h3⟩ := hr
    obtain ⟨s2, o2, g1, g2, g3⟩ := h.lk k s' o h1
    refine ⟨hone, s2, o2, g1, Nat.le_trans h2 g2, fun e => ?_⟩
    obtain ⟨ha, hp⟩ := g3 (by omega)
    rw [hp]; exact h3 (by omega)
theorem RepL.mono (h : Le A B) (v : V) (u : Value) (hr : RepL A v u) : RepL B v u := by
  cases v <;> simp only [RepL] at hr ⊢ <;> first | exact RepA.mono h _ _ hr | skip
  obtain ⟨us, h1, h2⟩ := hr
  exact ⟨us, h1, Pt.mono (RepA.mono h) _ _ h2⟩
theorem RepF.mono (h : Le A B) (v : V) (u : List Value) (hr : RepF A v u) : RepF B v u := by
  cases v <;> simp only [RepF] at hr ⊢ <;> first | exact hr.mono h.fut | (obtain ⟨x, h1, h2, h3⟩ := hr; exact ⟨x, h1, h2, RepL.mono h _ _ h3⟩)
theorem RepG.mono (h : Le A B) (v : V) (u : Value) (hr : RepG A v u) : RepG B v u := by
  cases v <;> simp only [RepG] at hr ⊢ <;> first | exact RepL.mono h _ _ hr | skip
  obtain ⟨us, h1, h2⟩ := hr
  exact ⟨us, h1, All2.mono (RepF.mono h) _ _ h2⟩
theorem RepT.mono (h : Le A B) (v : V) (u : Value) (hr : RepT A v u) : RepT B v u := by
  cases v <;> simp only [RepT] at hr ⊢ <;> first | exact RepG.mono h _ _ hr | skip
  obtain ⟨us, h1, h2⟩ := hr
  exact ⟨us, h1, Pt.mono (RepG.mono h) _ _ h2⟩
theorem RepB.mono (h : Le A B) (v : V) (u : List Value) (hr : RepB A v u) : RepB B v u := by
  cases v <;> simp only [RepB] at hr ⊢ <;> first | exact RepF.mono h _ _ hr | skip
  exact All2.mono (RepF.mono h) _ _ hr
theorem RepO.mono (h : Le A B) (o : Obj) (u : Value) (hb : ∀ b, vblk u = some b → B.w.heap[b]? = A.w.heap[b]?) (hr : RepO A o u) : RepO B o u := by
  cases o <;> simp only [RepO] at hr ⊢
  case box sh c =>
    obtain ⟨h1, b, cells, T, h2, h3, h4⟩ := hr
    exact ⟨h1, b, cells, T, h2, (hb b (by rw [h2]; rfl)).trans h3, RepB.mono h _ _ h4⟩
  case vec e xs =>
    refine hr.imp id fun ⟨b, off, cap, cells, T, h1, h2, h3, h4, h5, cs, h6, h7⟩ => ⟨b, off, cap, cells, T, h1, (hb b (by rw [h1]; rfl)).trans h2, h3, h4, h5, cs, All2.mono (fun x cs hx => hx.mono h.fut) _ _ h6, h7⟩
  case map k v es =>
    obtain ⟨b, ents, clock, h1, h2, h3, h4⟩ := hr
    exact ⟨b, ents, clock, h1, (hb b (by rw [h1]; rfl)).trans h2, h3, MapRep.mono (fun x u ⟨c, hc, hu⟩ => ⟨c, hc.mono h.fut, hu⟩) (fun x u ⟨c, hc, hu⟩ => ⟨c, hc.mono h.fut, hu⟩) _ _ _ h4⟩

/-! ### States -/
structure Cx where
  P : Program
  G : Nat → Option V
  w0 : World
  Fz0 : Nat → Prop
  nt : Nat
  defers : List Deferred

abbrev Cx.e (cx : Cx) (Fz : Nat → Prop) (w : World) (lk : Lk) (pos : Nat → Value) : E := ⟨cx.P, cx.G, Fz, w, lk, pos⟩

structure RelIn (cx : Cx) (tm : Tm) (lk : Lk) (a : Act) (w : World) (Fz : Nat → Prop) (pos : Nat → Value) : Prop where
  size : a.tmps.size = cx.nt
  defers : a.defers = cx.defers
  tmps : ∀ t, RepT (cx.e Fz w lk pos) (tm t) (a.tmps.getD t undef)
  objs : ∀ k s o, lk k = some (s, o) → RepO (cx.e Fz w lk pos) o (pos k)
  own : ∀ k s o b, lk k = some (s, o) → vblk (pos k) = some b → ¬ Fz b ∧ cx.w0.heap.size ≤ b
  inj : ∀ k s o k' s' o' b, lk k = some (s, o) → lk k' = some (s', o') → vblk (pos k) = some b → vblk (pos k') = some b → k = k'
  step : Step cx.Fz0 cx.w0 Fz w
  inv0 : Inv cx.G cx.Fz0 cx.w0
def Rel (cx : Cx) (tm : Tm) (lk : Lk) (a : Act) (w : World) : Prop := ∃ Fz pos, RelIn cx tm lk a w Fz pos

theorem RepO.lt {o : Obj} {u : Value} (h : RepO A o u) {b : Nat} (hb : vblk u = some b) : b < A.w.heap.size := by
  cases o <;> simp only [RepO] at h
  · obtain ⟨_, b', cells, T, rfl, h3, _⟩ := h
    simp [vblk] at hb; subst hb; exact (Array.getElem?_eq_some_iff.1 h3).1
  · rcases h with ⟨rfl, _⟩ | ⟨b', off, cap, cells, T, rfl, h3, _⟩
    · simp [vblk] at hb
    · simp [vblk] at hb; subst hb; exact (Array.getElem?_eq_some_iff.1 h3).1
  · obtain ⟨b', ents, clock, rfl, h3, _⟩ := h
    simp [vblk] at hb; subst hb; exact (Array.getElem?_eq_some_iff.1 h3).1

variable {cx : Cx} {tm : Tm} {lk : Lk} {a : Act} {w : World} {Fz : Nat → Prop} {pos : Nat → Value}
theorem RelIn.inv (r : RelIn cx tm lk a w Fz pos) : Inv cx.G Fz w := r.inv0.step (r.step.fut r.inv0.lt) r.step.lt

def updTm (tm : Tm) (nt : Nat) (dst : Option Tmp) (v : V) : Tm := fun t => if dst = some t ∧ t < nt then v else tm t
def updLk1 (lk : Lk) (k s : Nat) (o : Obj) : Lk := fun x => if x = k then some (s, o) else lk x
def updLk : List (Nat × Nat × Obj) → Lk → Lk
  | [], lk => lk
  | (k, s, o) :: r, lk => updLk r (updLk1 lk k s o)
def updPos (pos : Nat → Value) (k : Nat) (v : Value) : Nat → Value := fun x => if x = k then v else pos x

theorem getD_put (a : Act) (dst : Option Tmp) (v : Value) (t : Nat) : (a.put dst v).tmps.getD t undef = if dst = some t ∧ t < a.tmps.size then v else a.tmps.getD t undef := by
  cases dst with
  | none => simp [Act.put]
  | some d =>
    simp only [Act.put, Array.getD_eq_getD_getElem?, Array.getElem?_setIfInBounds]
    by_cases h : d = t
    · subst h
      by_cases hl : d < a.tmps.size
      · simp [hl]
      · simp [hl]
    · simp [h]
theorem size_put (a : Act) (dst : Option Tmp) (v : Value) : (a.put dst v).tmps.size = a.tmps.size := by cases dst <;> simp [Act.put]
theorem defers_put (a : Act) (dst : Option Tmp) (v : Value) : (a.put dst v).defers = a.defers := by cases dst <;> rfl

/-- Nothing but a slot turns. -/
theorem RelIn.value (r : RelIn cx tm lk a w Fz pos) (dst : Option Tmp) {v : V} {u : Value} (h : RepT (cx.e Fz w lk pos) v u) : RelIn cx (updTm tm cx.nt dst v) lk (a.put dst u) w Fz pos := by
  refine ⟨by rw [size_put]; exact r.size, by rw [defers_put]; exact r.defers, fun t => ?_, r.objs, r.own, r.inj, r.step, r.inv0⟩
  rw [getD_put, r.size]
  unfold updTm
  split
  · exact h
  · exact r.tmps t

/-- A call. -/
theorem RelIn.call (r : RelIn cx tm lk a w Fz pos) {Fz' : Nat → Prop} {w' : World} (hs : Step Fz w Fz' w') : RelIn cx tm lk a w' Fz' pos := by
  have hle : Le (cx.e Fz w lk pos) (cx.e Fz' w' lk pos) := ⟨rfl, rfl, hs.fut r.step.lt, fun k s o h => ⟨s, o, h, Nat.le_refl _, fun _ => ⟨Obj.alike_refl _, rfl⟩⟩⟩
  refine ⟨r.size, r.defers, fun t => RepT.mono hle _ _ (r.tmps t), fun k s o h => ?_, fun k s o b h hb => ?_, r.inj, r.step.trans hs, r.inv0⟩
  · refine RepO.mono hle _ _ (fun b hb => hs.block b ?_) (r.objs k s o h)
    exact (r.objs k s o h).lt hb
  · have := r.own k s o b h hb
    exact ⟨fun hf => this.1 ((hs.fz b ((r.objs k s o h).lt hb)).1 hf), this.2⟩

/-- An object is made, or turned. -/
theorem RelIn.obj (r : RelIn cx tm lk a w Fz pos) (k s : Nat) (o : Obj) (v : Value) {w' : World}
    (hs : ∀ s0 o0, lk k = some (s0, o0) → s0 ≤ s ∧ (s0 = s → o0.alike o ∧ v = pos k))
    (hos : w'.os = w.os) (htape : w'.tape = w.tape) (hout : w'.output = w.output) (hsize : w.heap.size ≤ w'.heap.size)
    (hblk : ∀ b, b < w.heap.size → vblk v ≠ some b → w'.heap[b]? = w.heap[b]?)
    (hnew : ∀ b, vblk v = some b → (∃ s0 o0, lk k = some (s0, o0) ∧ vblk (pos k) = some b) ∨ w.heap.size ≤ b)
    (hrep : Le (cx.e Fz w lk pos) (cx.e Fz w' (updLk1 lk k s o) (updPos pos k v)) → RepO (cx.e Fz w' (updLk1 lk k s o) (updPos pos k v)) o v) :
    RelIn cx tm (updLk1 lk k s o) a w' Fz (updPos pos k v) := by
  have hown : ∀ b, vblk v = some b → ¬ Fz b ∧ cx.w0.heap.size ≤ b := by
    intro b hb
    rcases hnew b hb with ⟨s0, o0, h1, h2⟩ | h
    · exact r.own k s0 o0 b h1 h2
    · exact ⟨fun hf => by have := r.step.lt b hf; omega, Nat.le_trans r.step.size h⟩
  have hfut : Fut Fz w Fz w' := fun b hb => ⟨hb, hblk b (r.step.lt b hb) (fun hv => (hown b hv).1 hb)⟩
  have hle : Le (cx.e Fz w lk pos) (cx.e Fz w' (updLk1 lk k s o) (updPos pos k v)) := by
    refine ⟨rfl, rfl, hfut, fun k' s' o' h => ?_⟩
    by_cases hk : k' = k
    · subst hk
      obtain ⟨h1, h2⟩ := hs s' o' h
      refine ⟨s, o, by simp [updLk1], h1, fun e => ?_⟩
      obtain ⟨g1, g2⟩ := h2 e
      exact ⟨g1, by simp [updPos, g2]⟩
    · exact ⟨s', o', by simpa [updLk1, hk] using h, Nat.le_refl _, fun _ => ⟨Obj.alike_refl _, by simp [updPos, hk]⟩⟩
  have hne : ∀ k' s' o' b, k' ≠ k → lk k' = some (s', o') → vblk (pos k') = some b → vblk v ≠ some b := by
    intro k' s' o' b hk h hb hv
    rcases hnew b hv with ⟨s0, o0, h1, h2⟩ | hge
    · exact hk (r.inj k' s' o' k s0 o0 b h h1 hb h2)
    · have : b < w.heap.size := (r.objs k' s' o' h).lt hb
      omega
  refine ⟨r.size, r.defers, fun t => RepT.mono hle _ _ (r.tmps t), fun k' s' o' h => ?_, fun k' s' o' b h hb => ?_, ?_, ?_, r.inv0⟩
  · by_cases hk : k' = k
    · subst hk
      simp only [updLk1, if_true, Option.some.injEq, Prod.mk.injEq] at h
      obtain ⟨rfl, rfl⟩ := h
      have := hrep hle
      simpa [updPos] using this
    · have h' : lk k' = some (s', o') := by simpa [updLk1, hk] using h
      have hp : updPos pos k v k' = pos k' := by simp [updPos, hk]
      rw [hp]
      refine RepO.mono hle _ _ (fun b hb => ?_) (r.objs k' s' o' h')
      have hlt := (r.objs k' s' o' h').lt hb
      exact hblk b hlt (hne k' s' o' b hk h' hb)
  · by_cases hk : k' = k
    · subst hk
      have : vblk v = some b := by simpa [updPos] using hb
      exact hown b this
    · have h' : lk k' = some (s', o') := by simpa [updLk1, hk] using h
      have hb' : vblk (pos k') = some b := by simpa [updPos, hk] using hb
      exact r.own k' s' o' b h' hb'
  · intro k1 s1 o1 k2 s2 o2 b h1 h2 hb1 hb2
    by_cases e1 : k1 = k
    · by_cases e2 : k2 = k
      · omega
      · exfalso
        have h2' : lk k2 = some (s2, o2) := by simpa [updLk1, e2] using h2
        have hb2' : vblk (pos k2) = some b := by simpa [updPos, e2] using hb2
        exact hne k2 s2 o2 b e2 h2' hb2' (by simpa [updPos, e1] using hb1)
    · have h1' : lk k1 = some (s1, o1) := by simpa [updLk1, e1] using h1
      have hb1' : vblk (pos k1) = some b := by simpa [updPos, e1] using hb1
      by_cases e2 : k2 = k
      · exact absurd (by simpa [updPos, e2] using hb2) (hne k1 s1 o1 b e1 h1' hb1')
      · exact r.inj k1 s1 o1 k2 s2 o2 b h1' (by simpa [updLk1, e2] using h2) hb1' (by simpa [updPos, e2] using hb2)
  · refine ⟨hos.trans r.step.os, htape.trans r.step.tape, hout.trans r.step.output, Nat.le_trans r.step.size hsize, fun b hb => ?_, r.step.fz, fun b hb => Nat.lt_of_lt_of_le (r.step.lt b hb) hsize⟩
    rw [hblk b (Nat.lt_of_lt_of_le hb r.step.size) (fun hv => by have := (hown b hv).2; omega)]
    exact r.step.block b hb

end Go.Pv
