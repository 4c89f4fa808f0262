/- Seat 05: what its laws share: the variable that is listed, a world for the witness. -/
import Derived.Test.YtcfhdpbebiibjaaDoorPvL05
import Derived.Test.YtcfhdpbebiibjaaDoorPvAB
import Derived.Test.YtcfhdpbebiibjaaDoorCards
import Derived.Test.YtcfhdpbebiibjaaDoorTie
import Derived.WalkKit
import Derived.ProofKit
import Derived.OpenShut
import Derived.Deep.DeepHandedRow
import Derived.Lib.LaidTab
set_option linter.unusedVariables false
set_option linter.unusedSimpArgs false
namespace Go.Proofs.YtcfhdpbebiibjaaDoor.laws
open Go.Pv Go.ChangeShapes Go.WideShapes Go.RowKit
theorem own:ownKnob Tryd.prog.godebug = none:=by kernel_rfl
theorem laidOut:laidOutB Tryd.prog = true:=by kernel_rfl
theorem gStart : Tryd.prog.globalNamed "tosher/auto.start" = some 0 := by kernel_rfl
theorem gType:(Tryd.prog.globals[0]?).map (·.type) = some 121:=by kernel_rfl
theorem cells121:Tryd.prog.cellsOf 121 = 2:=by kernel_rfl
theorem cells3:Tryd.prog.cellsOf 3 = 1:=by kernel_rfl
theorem glob_ok {W : World} (h : laidMetH Tryd.prog [("tosher/auto.start", Rows.laid_tosher_auto_start)] W) : GlobC Pv.glob (Old W) W := by
 have h : laidMet Tryd.prog [("tosher/auto.start", Rows.laid_tosher_auto_start)] W := h
 obtain ⟨ps,⟨g,t,cs,fuel,p,q,hg,ht,hvar,hd,_⟩,_⟩:=h
 obtain rfl:=Option.some.inj (gStart.symm.trans hg)
 obtain rfl:=Option.some.inj (gType.symm.trans ht)
 obtain ⟨y0,y1,n,hx,hl,h0,h1⟩:=trod_struct2 Tryd.underlying121 hd
 obtain ⟨n0,e0,f0,_⟩:=DataW.trod_int Tryd.underlying3 h0
 obtain ⟨n1,e1,f1,_⟩:=DataW.trod_int Tryd.underlying3 h1
 subst f0 f1
 have hx:Rows.laid_tosher_auto_start = DataW.agg [.lit (.int .i64 n0),.lit (.int .i64 n1)]:=(Prod.mk.inj hx).1
 simp only [Rows.laid_tosher_auto_start,DataW.agg.injEq,List.cons.injEq,DataW.lit.injEq,Lit.int.injEq,true_and,and_true] at hx
 obtain ⟨z0,z1⟩:=hx
 subst z0 z1
 simp only [cells3] at e0 e1
 rw [cells121] at hl
 have hcs:cs.toList = [.int .i64 0,.int .i64 0]:=by
   match hq:cs.toList,hl with
   | [u,v],_ =>
     rw [hq] at e0 e1
     simp at e0 e1
     rw [e0,e1]
 intro g t x hG
 unfold Pv.glob at hG
 cases hz:Nat.beq g 0 with
 | false=>rw [hz] at hG;simp at hG
 | true =>
   have hg0:g = 0:=Nat.eq_of_beq_eq_true hz
   subst hg0
   rw [hz] at hG
   simp only [cond_true,Option.some.injEq] at hG
   cases hG
   unfold World.var? at hvar
   rw [gStart] at hvar
   simp only [Option.bind_some] at hvar
   split at hvar
   · rename_i cs' T' fz' hb
     simp only [Option.some.injEq] at hvar
     subst hvar
     refine ⟨(Array.getElem?_eq_some_iff.1 hb).1,_,T',fz',[.int .i64 0,.int .i64 0],hb,?_,by rw [hcs];exact List.prefix_refl _⟩
     exact ⟨[.int .i64 0],[.int .i64 0],rfl,rfl,[.int .i64 0],[],rfl,rfl,rfl⟩
   · simp at hvar
noncomputable def laidWorld (os:Os):World :=
 { World.holding Tryd.prog os ⟨#[],#[],[]⟩ with heap:=(World.holding Tryd.prog os ⟨#[],#[],[]⟩).heap.modify 0 fun
     | .cells _ t frozen=>.cells #[.int .i64 0,.int .i64 0] t frozen
     | o=>o }
abbrev m0:Value:=.agg #[.int .i64 0,.slice none 0 0,.slice none 0 0]
end Go.Proofs.YtcfhdpbebiibjaaDoor.laws
