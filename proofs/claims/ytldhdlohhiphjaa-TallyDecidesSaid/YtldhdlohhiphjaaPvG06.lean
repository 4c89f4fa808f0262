/- The plain functions of the law, part 2. -/
import Derived.Test.YtldhdlohhiphjaaPvG06p0
set_option linter.unusedVariables false
namespace Go.Pv
open Go.Proofs
noncomputable def g5An (N : Nat) : Ann := { loops := [], frz := [], L := toldL N (g5Tl N), Li := toldL N (g5Ti N), fuel := fun _ _ _ => N, R := toldR (g5Rl N), ntR := 77 }
noncomputable def G5 (N : Nat) : Cfg := (G29 N).add 5 (Spec.one [.d tPt, .d tLt] .bool (fun a => g5 N a.1 a.2.1))
theorem G5_ok (N : Nat) : CfgOk Try.prog (G5 N) := add_one [.d tPt, .d tLt] .bool (fun a => g5 N a.1 a.2.1) [] [] (g5An N) (G29_ok N) Try.func5 (by kernel_rfl) (by kernel_rfl) (lokF_of (told_ok (g5Tl N) rfl rfl trivial) (told_ok (g5Ti N) rfl rfl trivial) (toldR_ok (g5Rl N) rfl trivial)) (.inr rfl) fun a => by kernel_rfl
noncomputable def g27L58B (N : Nat) {C : Type} (rec : LIt → LIt → Int → Option C) (k0 : Bool → Option C) (k1 : Option C) (t0 : List (Int)) (t1 : List (Int)) (t5 : Int) : Option C :=
  bif (decide ((t5 : Int) < ((List.length t0 : Nat) : Int))) then if idx t5 (List.length t0) then if idx t5 (List.length t1) then bif (!ieq (List.getD t0 (Int.toNat t5) 0) (List.getD t1 (Int.toNat t5) 0)) then (k0 false) else (rec t0 t1 (IntKind.wrap .i64 (t5 + 1))) else none else none else k1
noncomputable def g27L58 (N : Nat) {C : Type} (k0 : Bool → Option C) (k1 : Option C) (t0 : List (Int)) (t1 : List (Int)) (t5 : Int) : Option C :=
  itP (α := Prod1 [.a (.d tLt), .a (.d tLt), .a (.d tIt)] × ProdO []) (fun rec a => g27L58B N (fun t0 t1 t5 => rec ((t0, t1, t5, ()), (()))) k0 k1 a.1.1 a.1.2.1 a.1.2.2.1) N ((t0, t1, t5, ()), (()))
noncomputable def g27L58T (N : Nat) : Told := { nt := 26, sv := [.a (.d tLt), .a (.d tLt), .a (.d tIt)], so := [], run := fun K' rec a => g27L58B N (fun t0 t1 t5 => rec ((t0, t1, t5, ()), (()))) (fun et4 => K' .ret (build 26 [4] [] [(.dat .bool et4)] [])) (K' (.exit 0) (build 26 [4] [] [.junk] [])) a.1.1 a.1.2.1 a.1.2.2.1 }
noncomputable def g27 (N : Nat) (a0 : List (Int)) (a1 : List (Int)) : Option (Bool) :=
  bif (!ieq ((List.length a0 : Nat) : Int) ((List.length a1 : Nat) : Int)) then some false else g27L58 N (fun e1 => some e1) (some true) a0 a1 0
noncomputable def g27Tl (N : Nat) : List (Nat × Told) := [(58, g27L58T N)]
noncomputable def g27Ti (N : Nat) : List (Nat × Told) := []
noncomputable def g27Rl (N : Nat) : List (Nat × RSh) := []
noncomputable def g27An (N : Nat) : Ann := { loops := [(58, ([0, 1, 5], []), ([4], []))], frz := [], L := toldL N (g27Tl N), Li := toldL N (g27Ti N), fuel := fun _ _ _ => N, R := toldR (g27Rl N), ntR := 26 }
theorem g27L58_ok (N : Nat) : ToldOk (((G5 N).withOwn []).withX []) (g27An N) (Try.f27.body.getD .skip) 58 (g27L58T N) := ⟨⟨loopBody (codeAt (Try.f27.body.getD .skip) 64 58), by kernel_rfl, fun K' rec a => by kernel_rfl⟩, fun a => by kernel_rfl⟩
noncomputable def G27 (N : Nat) : Cfg := (G5 N).add 27 (Spec.one [.d tLt, .d tLt] .bool (fun a => g27 N a.1 a.2.1))
theorem G27_ok (N : Nat) : CfgOk Try.prog (G27 N) := add_one [.d tLt, .d tLt] .bool (fun a => g27 N a.1 a.2.1) [] [] (g27An N) (G5_ok N) Try.func27 (by kernel_rfl) (by kernel_rfl) (lokF_of (told_ok (g27Tl N) rfl rfl ⟨g27L58_ok N, trivial⟩) (told_ok (g27Ti N) rfl rfl trivial) (toldR_ok (g27Rl N) rfl trivial)) (.inr rfl) fun a => by kernel_rfl

end Go.Pv
