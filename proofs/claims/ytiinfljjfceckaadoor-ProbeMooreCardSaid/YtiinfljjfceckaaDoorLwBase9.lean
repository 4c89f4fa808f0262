/- Seat 09: what its laws share: the tables that are listed, a world for the witness. -/
import Derived.Test.YtiinfljjfceckaaDoorPvG09
import Derived.Test.YtiinfljjfceckaaDoorPvAB
import Derived.Test.YtiinfljjfceckaaDoorCards
import Derived.Test.YtiinfljjfceckaaDoorTie
import Derived.WalkKit
import Derived.ProofKit
import Derived.OpenShut
import Derived.Deep.DeepHandedRow
import Derived.Lib.LaidTab
set_option linter.unusedVariables false
set_option linter.unusedSimpArgs false
namespace Go.Proofs.YtiinfljjfceckaaDoor.laws
open Go.Pv Go.ChangeShapes Go.WideShapes Go.RowKit
theorem own:ownKnob Tryd.prog.godebug = none:=by kernel_rfl
theorem laidOut:laidOutB Tryd.prog = true:=by kernel_rfl
theorem g0 : Tryd.prog.globalNamed "math/bits.deBruijn32tab" = some 0 := by kernel_rfl
theorem g1 : Tryd.prog.globalNamed "math/bits.deBruijn64tab" = some 1 := by kernel_rfl
theorem t0:(Tryd.prog.globals[0]?).map (·.type) = some 198:=by kernel_rfl
theorem t1:(Tryd.prog.globals[1]?).map (·.type) = some 199:=by kernel_rfl
theorem u198:Tryd.prog.underlying 198 = some (.array 32 5):=by kernel_rfl
theorem u199:Tryd.prog.underlying 199 = some (.array 64 5):=by kernel_rfl
theorem u5:Tryd.prog.underlying 5 = some (.int .u8):=by kernel_rfl
theorem c5:Tryd.prog.cellsOf 5 = 1:=by kernel_rfl
theorem c198:Tryd.prog.cellsOf 198 = 32:=by kernel_rfl
theorem c199:Tryd.prog.cellsOf 199 = 64:=by kernel_rfl
theorem j0U (Fz:Nat→Prop) (w:World) (k:IntKind):∀ xs:List Int,All2 (RepC Fz w (.int k)) xs (xs.map fun z=>Value.int k z)
 | []=>rfl
 | x :: xs=>⟨[.int k x],xs.map fun z=>Value.int k z,rfl,rfl,j0U Fz w k xs⟩
theorem var_cells {P:Program} {W:World} {n:String} {g:Nat} {cs:Array Value} (hg:P.globalNamed n = some g) (h:W.var? P n = some cs):∃ T fz,W.heap[g]? = some (.cells cs T fz):=by
 unfold World.var? at h
 rw [hg] at h
 simp only [Option.bind_some] at h
 split at h
 · rename_i cs' T' fz' hb
   simp only [Option.some.injEq] at h
   subst h
   exact ⟨T',fz',hb⟩
 · simp at h
theorem glob_ok {W : World} (h : laidMetH Tryd.prog [("math/bits.deBruijn32tab", Rows.laid_math_bits_deBruijn32tab), ("math/bits.deBruijn64tab", Rows.laid_math_bits_deBruijn64tab)] W) : GlobC Pv.glob (Old W) W := by
 have h : laidMet Tryd.prog [("math/bits.deBruijn32tab", Lib.tabData .u8 tab32b), ("math/bits.deBruijn64tab", Lib.tabData .u8 tab64b)] W := h
 obtain ⟨ps,⟨g,t,cs,fuel,p,q,hg,ht,hvar,hd,⟨g',t',cs',fuel',p',q',hg',ht',hvar',hd',_⟩,_⟩,_⟩:=h
 obtain rfl:=Option.some.inj (g0.symm.trans hg)
 obtain rfl:=Option.some.inj (t0.symm.trans ht)
 obtain rfl:=Option.some.inj (g1.symm.trans hg')
 obtain rfl:=Option.some.inj (t1.symm.trans ht')
 have e0:=Lib.cells_of_tab u198 u5 c5 c198 hd
 have e1:=Lib.cells_of_tab u199 u5 c5 c199 hd'
 obtain ⟨T0,fz0,hb0⟩:=var_cells g0 hvar
 obtain ⟨T1,fz1,hb1⟩:=var_cells g1 hvar'
 intro g t x hG
 unfold Pv.glob at hG
 cases hz:Nat.beq g 0 with
 | true =>
   have hg0:g = 0:=Nat.eq_of_beq_eq_true hz
   subst hg0
   rw [hz] at hG
   simp only [cond_true,Option.some.injEq] at hG
   cases hG
   exact ⟨(Array.getElem?_eq_some_iff.1 hb0).1,cs,T0,fz0,tab32b.map fun z=>Value.int .u8 z,hb0,⟨rfl,j0U _ _ _ _⟩,by rw [e0];exact List.prefix_refl _⟩
 | false =>
   rw [hz] at hG
   simp only [cond_false] at hG
   cases hz1:Nat.beq g 1 with
   | true =>
     have hg1:g = 1:=Nat.eq_of_beq_eq_true hz1
     subst hg1
     rw [hz1] at hG
     simp only [cond_true,Option.some.injEq] at hG
     cases hG
     exact ⟨(Array.getElem?_eq_some_iff.1 hb1).1,cs',T1,fz1,tab64b.map fun z=>Value.int .u8 z,hb1,⟨rfl,j0U _ _ _ _⟩,by rw [e1];exact List.prefix_refl _⟩
   | false=>rw [hz1] at hG;simp at hG
noncomputable def lay (l:List Int):Go.Obj→Go.Obj
 | .cells _ t frozen=>.cells (l.map fun z=>Value.int .u8 z).toArray t frozen
 | o=>o
noncomputable def j1G (os:Os):World :=
 { World.holding Tryd.prog os ⟨#[],#[],[]⟩ with heap:=((World.holding Tryd.prog os ⟨#[],#[],[]⟩).heap.modify 0 (lay tab32b)).modify 1 (lay tab64b) }
end Go.Proofs.YtiinfljjfceckaaDoor.laws
