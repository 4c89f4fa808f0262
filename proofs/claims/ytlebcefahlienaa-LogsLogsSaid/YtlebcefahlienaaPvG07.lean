/- What the functions of the law come to, as plain functions (printed by a program from the translation), and, by the kernel, that their code comes to just that. -/
import Derived.Test.YtlebcefahlienaaPvAM
import Derived.Test.YtlebcefahlienaaProg
import Derived.KernelRfl
set_option linter.unusedVariables false
namespace Go.Pv
open Go.Proofs
noncomputable section
def tab:List (Nat×TI):=[
(1,⟨.other,.leaf,8⟩),
 (2,⟨.int .i64,.d (.int .i64),8⟩),
 (3,⟨.int .i64,.d (.int .i64),8⟩),
 (4,⟨.bool,.d (.bool),1⟩),
 (5,⟨.int .u8,.d (.int .u8),1⟩),
 (9,⟨.str,.d (.str),16⟩),
 (12,⟨.int .u64,.d (.int .u64),8⟩),
 (21,⟨.int .i32,.d (.int .i32),4⟩),
 (22,⟨.other,.leaf,8⟩),
 (23,⟨.other,.leaf,8⟩),
 (24,⟨.int .u64,.d (.int .u64),8⟩),
 (25,⟨.int .i64,.d (.int .i64),8⟩),
 (27,⟨.other,.leaf,8⟩),
 (28,⟨.other,.leaf,8⟩),
 (29,⟨.other,.leaf,8⟩),
 (31,⟨.other,.leaf,8⟩),
 (32,⟨.other,.leaf,8⟩),
 (33,⟨.other,.leaf,8⟩),
 (34,⟨.other,.leaf,8⟩),
 (35,⟨.other,.leaf,8⟩),
 (36,⟨.other,.leaf,8⟩),
 (37,⟨.other,.leaf,8⟩),
 (39,⟨.other,.leaf,8⟩),
 (40,⟨.slice 3,.d (.lst (.int .i64)),24⟩),
 (42,⟨.other,.leaf,8⟩),
 (43,⟨.other,.leaf,8⟩),
 (44,⟨.slice 47,.d (.lst (.arr 2 (.int .i64))),24⟩),
 (46,⟨.other,.leaf,8⟩),
 (47,⟨.arr 2 3,.d (.arr 2 (.int .i64)),16⟩),
 (48,⟨.other,.leaf,8⟩),
 (49,⟨.other,.leaf,8⟩),
 (50,⟨.other,.leaf,8⟩),
 (51,⟨.other,.leaf,8⟩),
 (53,⟨.int .i64,.d (.int .i64),8⟩),
 (54,⟨.other,.leaf,8⟩),
 (55,⟨.other,.leaf,8⟩),
 (56,⟨.other,.leaf,8⟩),
 (57,⟨.other,.leaf,8⟩),
 (58,⟨.struct [3,3],.d (.pair (.int .i64) (.pair (.int .i64) (.unit))),16⟩),
 (59,⟨.struct [3,3],.d (.pair (.int .i64) (.pair (.int .i64) (.unit))),16⟩),
 (60,⟨.other,.leaf,8⟩),
 (61,⟨.other,.leaf,8⟩),
 (62,⟨.other,.leaf,8⟩),
 (63,⟨.slice 66,.d (.lst (.pair (.int .i64) (.pair (.int .i64) (.unit)))),24⟩),
 (64,⟨.other,.leaf,8⟩),
 (65,⟨.struct [3,3],.d (.pair (.int .i64) (.pair (.int .i64) (.unit))),16⟩),
 (66,⟨.struct [3,3],.d (.pair (.int .i64) (.pair (.int .i64) (.unit))),16⟩),
 (67,⟨.other,.leaf,8⟩),
 (68,⟨.other,.leaf,8⟩),
 (69,⟨.other,.leaf,8⟩),
 (70,⟨.map 3 3,.leaf,8⟩),
 (71,⟨.other,.leaf,8⟩),
 (72,⟨.map 3 63,.leaf,8⟩),
 (73,⟨.other,.leaf,8⟩),
 (74,⟨.other,.leaf,8⟩),
 (75,⟨.map 3 4,.leaf,8⟩),
 (76,⟨.other,.leaf,8⟩),
 (77,⟨.other,.leaf,8⟩),
 (78,⟨.other,.leaf,8⟩),
 (79,⟨.int .i64,.d (.int .i64),8⟩),
 (81,⟨.other,.leaf,8⟩),
 (82,⟨.other,.leaf,8⟩),
 (83,⟨.other,.leaf,8⟩),
 (84,⟨.other,.leaf,8⟩),
 (85,⟨.other,.leaf,8⟩),
 (86,⟨.int .u32,.d (.int .u32),4⟩),
 (87,⟨.other,.leaf,8⟩),
 (88,⟨.int .u64,.d (.int .u64),8⟩),
 (89,⟨.int .u64,.d (.int .u64),8⟩),
 (90,⟨.other,.leaf,8⟩),
 (91,⟨.other,.leaf,8⟩),
 (92,⟨.other,.leaf,8⟩),
 (93,⟨.other,.leaf,8⟩),
 (94,⟨.other,.leaf,8⟩),
 (95,⟨.other,.leaf,8⟩),
 (96,⟨.other,.leaf,8⟩),
 (97,⟨.other,.leaf,8⟩),
 (103,⟨.other,.leaf,8⟩),
 (107,⟨.other,.leaf,8⟩)
]
@[reducible] def asT (T:Type) (x:T):T:=x
abbrev LIt:=List Int
abbrev tIt:Ty:=.int .i64
abbrev tLt:Ty:=.lst (.int .i64)
abbrev TQ1:Type:=(Int)×((Int)×(Unit))
abbrev tQ2:Ty:=.pair tIt (.pair tIt .unit)
abbrev TQ3:Type:=(Int)×(Unit)
abbrev TQ4:Type:=TQ1×(TQ1×(Unit))
abbrev TQ5:Type:=(Int)×(List TQ1)
abbrev TQ6:Type:=List ((Int)×(Int))
abbrev bdy (f:Func):Code:=f.body.getD .skip
abbrev mkAn (N:Nat) (lo:List (Nat×(List Nat×List Nat)×(List Nat×List Nat))) (fr:List (Nat×List Nat)) (a b:List (Nat×Told)) (c:List (Nat×RSh)) (n:Nat):Ann:={ loops:=lo,frz:=fr,L:=toldL N a,Li:=toldL N b,fuel:=fun _ _ _=>N,R:=toldR c,ntR:=n }
theorem lokT {P:Program} {Γ:Cfg} {N n:Nat} {lo:List (Nat×(List Nat×List Nat)×(List Nat×List Nat))} {fr:List (Nat×List Nat)} {a:List (Nat×Told)} {fn:Func} (h:LOk0 Γ (mkAn N lo fr a [] [] n) (fn.body.getD .skip)):LOkF P Γ (mkAn N lo fr a [] [] n) fn:=lokF_of h (told_ok [] rfl rfl trivial) (toldR_ok [] rfl trivial)
theorem lokE {P:Program} {Γ:Cfg} {N n:Nat} {lo:List (Nat×(List Nat×List Nat)×(List Nat×List Nat))} {fr:List (Nat×List Nat)} {fn:Func}:LOkF P Γ (mkAn N lo fr [] [] [] n) fn:=lokT (told_ok [] rfl rfl trivial)
theorem tab_ok:tabB Try.prog tab = true:=by kernel_rfl
theorem mixed:Try.prog.follows .mixedOrders = true:=by kernel_rfl
def ks:List Nat:=[3,59]
theorem ks_ok:keysB Try.prog tab ks = true:=by kernel_rfl
def glob:Nat→Option V:=fun _=>none
def G0 (N:Nat):Cfg:=Cfg.base tab glob ks
theorem ok0 (N:Nat):CfgOk Try.prog (G0 N):=base_ok mixed tab_ok ks_ok
def lit1:List UInt8:=[0,1,2,2,3,3,3,3,4,4,4,4,4,4,4,4,5,5,5,5,5,5,5,5,5,5,5,5,5,5,5,5,6,6,6,6,6,6,6,6,6,6,6,6,6,6,6,6,6,6,6,6,6,6,6,6,6,6,6,6,6,6,6,6,7,7,7,7,7,7,7,7,7,7,7,7,7,7,7,7,7,7,7,7,7,7,7,7,7,7,7,7,7,7,7,7,7,7,7,7,7,7,7,7,7,7,7,7,7,7,7,7,7,7,7,7,7,7,7,7,7,7,7,7,7,7,7,7,8,8,8,8,8,8,8,8,8,8,8,8,8,8,8,8,8,8,8,8,8,8,8,8,8,8,8,8,8,8,8,8,8,8,8,8,8,8,8,8,8,8,8,8,8,8,8,8,8,8,8,8,8,8,8,8,8,8,8,8,8,8,8,8,8,8,8,8,8,8,8,8,8,8,8,8,8,8,8,8,8,8,8,8,8,8,8,8,8,8,8,8,8,8,8,8,8,8,8,8,8,8,8,8,8,8,8,8,8,8,8,8,8,8,8,8,8,8,8,8,8,8,8,8,8,8,8,8]
def g16 (N:Nat) (a0 a1:Int):Option (Int) :=
 if (IntKind.wrap .u64 a1) = 0 then none else some (IntKind.wrap .i64 (1 + (IntKind.wrap .i64 (Int.tmod (IntKind.wrap .u64 a0) (IntKind.wrap .u64 a1)))))
def g16An (N:Nat):Ann:=mkAn N [] [] [] [] [] 12
def G16 (N:Nat):Cfg:=(G0 N).add 16 (Spec.one [.d tIt,.d tIt] tIt (fun a=>g16 N a.1 a.2.1))
theorem G16_ok (N:Nat):CfgOk Try.prog (G16 N):=add_one [.d tIt,.d tIt] tIt (fun a=>g16 N a.1 a.2.1) [] [] (g16An N) (ok0 N) Try.func16 (by kernel_rfl) (by kernel_rfl) lokE (.inr rfl) fun a=>by kernel_rfl
def g26L12B (N:Nat) {C:Type} (rec:Int→Int→Option C) (k0:Int→Option C) (t0 t1:Int):Option C :=
 bif (decide ((0:Int) < t1)) then if t1 = 0 then none else (rec t1 (Int.tmod t0 t1)) else (k0 t0)
def g26L12 (N:Nat) {C:Type} (k0:Int→Option C) (t0 t1:Int):Option C :=
 itP (α:=Prod1 [.a (.d tIt),.a (.d tIt)]×ProdO []) (fun rec a=>g26L12B N (fun t0 t1=>rec ((t0,t1,()),(()))) k0 a.1.1 a.1.2.1) N ((t0,t1,()),(()))
def g26L12T (N:Nat):Told:={ nt:=12,sv:=[.a (.d tIt),.a (.d tIt)],so:=[],run:=fun K' rec a=>g26L12B N (fun t0 t1=>rec ((t0,t1,()),(()))) (fun et0=>K' (.exit 0) (build 12 [0] [] [(.dat tIt et0)] [])) a.1.1 a.1.2.1 }
def g26 (N:Nat) (a0 a1:Int):Option (Int) :=
 g26L12 N (fun e1=>some e1) a0 a1
def g26Tl (N:Nat):List (Nat×Told):=[(12,g26L12T N)]
def g26An (N:Nat):Ann:=mkAn N [(12,([0,1],[]),([0],[]))] [] (g26Tl N) [] [] 12
theorem g26L12_ok (N:Nat):ToldOk (((G16 N).withOwn []).withX []) (g26An N) (bdy Try.f26) 12 (g26L12T N):=⟨⟨loopBody (codeAt (bdy Try.f26) 64 12),by kernel_rfl,fun K' rec a=>by kernel_rfl⟩,fun a=>by kernel_rfl⟩
def G26 (N:Nat):Cfg:=(G16 N).add 26 (Spec.one [.d tIt,.d tIt] tIt (fun a=>g26 N a.1 a.2.1))
theorem G26_ok (N:Nat):CfgOk Try.prog (G26 N):=add_one [.d tIt,.d tIt] tIt (fun a=>g26 N a.1 a.2.1) [] [] (g26An N) (G16_ok N) Try.func26 (by kernel_rfl) (by kernel_rfl) (lokT (told_ok (g26Tl N) rfl rfl ⟨g26L12_ok N,trivial⟩)) (.inr rfl) fun a=>by kernel_rfl
def g17L28B (N:Nat) {C:Type} (rec:Int→Int→Option C) (k0:Int→Option C) (t0 t1:Int):Option C :=
 Option.bind (g26 N t0 t1) fun r1=>bif (!ieq r1 1) then if t0 = 0 then none else (rec t0 (Int.tmod (IntKind.wrap .i64 (t1 + 1)) t0)) else (k0 t1)
def g17L28 (N:Nat) {C:Type} (k0:Int→Option C) (t0 t1:Int):Option C :=
 itP (α:=Prod1 [.a (.d tIt),.a (.d tIt)]×ProdO []) (fun rec a=>g17L28B N (fun t0 t1=>rec ((t0,t1,()),(()))) k0 a.1.1 a.1.2.1) N ((t0,t1,()),(()))
def g17L28T (N:Nat):Told:={ nt:=20,sv:=[.a (.d tIt),.a (.d tIt)],so:=[],run:=fun K' rec a=>g17L28B N (fun t0 t1=>rec ((t0,t1,()),(()))) (fun et1=>K' (.exit 0) (build 20 [1] [] [(.dat tIt et1)] [])) a.1.1 a.1.2.1 }
def g17 (N:Nat) (a0 a1:Int):Option (Int) :=
 if (IntKind.wrap .u64 a0) = 0 then none else g17L28 N (fun e2=>some e2) a0 (IntKind.wrap .i64 (Int.tmod (IntKind.wrap .u64 a1) (IntKind.wrap .u64 a0)))
def g17Tl (N:Nat):List (Nat×Told):=[(28,g17L28T N)]
def g17An (N:Nat):Ann:=mkAn N [(28,([0,1],[]),([1],[]))] [] (g17Tl N) [] [] 20
theorem g17L28_ok (N:Nat):ToldOk (((G26 N).withOwn []).withX []) (g17An N) (bdy Try.f17) 28 (g17L28T N):=⟨⟨loopBody (codeAt (bdy Try.f17) 64 28),by kernel_rfl,fun K' rec a=>by kernel_rfl⟩,fun a=>by kernel_rfl⟩
def G17 (N:Nat):Cfg:=(G26 N).add 17 (Spec.one [.d tIt,.d tIt] tIt (fun a=>g17 N a.1 a.2.1))
theorem G17_ok (N:Nat):CfgOk Try.prog (G17 N):=add_one [.d tIt,.d tIt] tIt (fun a=>g17 N a.1 a.2.1) [] [] (g17An N) (G26_ok N) Try.func17 (by kernel_rfl) (by kernel_rfl) (lokT (told_ok (g17Tl N) rfl rfl ⟨g17L28_ok N,trivial⟩)) (.inr rfl) fun a=>by kernel_rfl
def g18L58B (N:Nat) {C:Type} (rec:Int→Int→Int→Int→Option C) (k0:Int→Option C) (t0 t1:Int) (t2 t7:Int):Option C :=
 bif (decide ((0:Int) < t2)) then bif (ieq (Int.tmod t2 2) 1) then if t0 = 0 then none else if t0 = 0 then none else (rec t0 (Int.tmod (IntKind.wrap .i64 (t1 * t1)) t0) (IntKind.wrap .i64 (Int.tdiv t2 2)) (Int.tmod (IntKind.wrap .i64 (t7 * t1)) t0)) else if t0 = 0 then none else (rec t0 (Int.tmod (IntKind.wrap .i64 (t1 * t1)) t0) (IntKind.wrap .i64 (Int.tdiv t2 2)) t7) else (k0 t7)
def g18L58 (N:Nat) {C:Type} (k0:Int→Option C) (t0 t1:Int) (t2 t7:Int):Option C :=
 itP (α:=Prod1 [.a (.d tIt),.a (.d tIt),.a (.d tIt),.a (.d tIt)]×ProdO []) (fun rec a=>g18L58B N (fun t0 t1 t2 t7=>rec ((t0,t1,t2,t7,()),(()))) k0 a.1.1 a.1.2.1 a.1.2.2.1 a.1.2.2.2.1) N ((t0,t1,t2,t7,()),(()))
def g18L58T (N:Nat):Told:={ nt:=31,sv:=[.a (.d tIt),.a (.d tIt),.a (.d tIt),.a (.d tIt)],so:=[],run:=fun K' rec a=>g18L58B N (fun t0 t1 t2 t7=>rec ((t0,t1,t2,t7,()),(()))) (fun et7=>K' (.exit 0) (build 31 [7] [] [(.dat tIt et7)] [])) a.1.1 a.1.2.1 a.1.2.2.1 a.1.2.2.2.1 }
def g18 (N:Nat) (a0 a1 a2:Int):Option (Int) :=
 if a0 = 0 then none else if a0 = 0 then none else g18L58 N (fun e1=>some e1) a0 (Int.tmod a1 a0) a2 (Int.tmod 1 a0)
def g18Tl (N:Nat):List (Nat×Told):=[(58,g18L58T N)]
def g18An (N:Nat):Ann:=mkAn N [(58,([0,1,2,7],[]),([7],[]))] [] (g18Tl N) [] [] 31
theorem g18L58_ok (N:Nat):ToldOk (((G17 N).withOwn []).withX []) (g18An N) (bdy Try.f18) 58 (g18L58T N):=⟨⟨loopBody (codeAt (bdy Try.f18) 64 58),by kernel_rfl,fun K' rec a=>by kernel_rfl⟩,fun a=>by kernel_rfl⟩
def G18 (N:Nat):Cfg:=(G17 N).add 18 (Spec.one [.d tIt,.d tIt,.d tIt] tIt (fun a=>g18 N a.1 a.2.1 a.2.2.1))
theorem G18_ok (N:Nat):CfgOk Try.prog (G18 N):=add_one [.d tIt,.d tIt,.d tIt] tIt (fun a=>g18 N a.1 a.2.1 a.2.2.1) [] [] (g18An N) (G17_ok N) Try.func18 (by kernel_rfl) (by kernel_rfl) (lokT (told_ok (g18Tl N) rfl rfl ⟨g18L58_ok N,trivial⟩)) (.inr rfl) fun a=>by kernel_rfl
def g55 (N:Nat) (a0:Int):Option (Bool) :=
 bif (decide ((1:Int) ≤ a0)) then some (decide ((a0:Int) ≤ 1000000)) else some false
def g55An (N:Nat):Ann:=mkAn N [] [] [] [] [] 9
def G55 (N:Nat):Cfg:=(G18 N).add 55 (Spec.one [.d tIt] .bool (fun a=>g55 N a.1))
theorem G55_ok (N:Nat):CfgOk Try.prog (G55 N):=add_one [.d tIt] .bool (fun a=>g55 N a.1) [] [] (g55An N) (G18_ok N) Try.func55 (by kernel_rfl) (by kernel_rfl) lokE (.inr rfl) fun a=>by kernel_rfl
def g57L7474B (N:Nat) {C:Type} (rec:Int→Int→LIt→Int→Int→Option C) (k0:Int→LIt→Int→Int→Option C) (t3 t5:Int) (t6:List (Int)) (t7 t8:Int):Option C :=
 bif (!ieq t5 0) then if t5 = 0 then none else (rec t5 (Int.tmod t3 t5) t6 t7 t8) else (k0 t3 t6 t7 t8)
def g57L7474 (N:Nat) {C:Type} (k0:Int→LIt→Int→Int→Option C) (t3 t5:Int) (t6:List (Int)) (t7 t8:Int):Option C :=
 itP (α:=Prod1 [.a (.d tIt),.a (.d tIt),.a (.d tLt),.a (.d tIt),.a (.d tIt)]×ProdO []) (fun rec a=>g57L7474B N (fun t3 t5 t6 t7 t8=>rec ((t3,t5,t6,t7,t8,()),(()))) k0 a.1.1 a.1.2.1 a.1.2.2.1 a.1.2.2.2.1 a.1.2.2.2.2.1) N ((t3,t5,t6,t7,t8,()),(()))
def g57L7474T (N:Nat):Told:={ nt:=23,sv:=[.a (.d tIt),.a (.d tIt),.a (.d tLt),.a (.d tIt),.a (.d tIt)],so:=[],run:=fun K' rec a=>g57L7474B N (fun t3 t5 t6 t7 t8=>rec ((t3,t5,t6,t7,t8,()),(()))) (fun et3 et6 et7 et8=>K' (.exit 2) (build 23 [3,6,7,8] [] [(.dat tIt et3),(.dat tLt et6),(.dat tIt et7),(.dat tIt et8)] [])) a.1.1 a.1.2.1 a.1.2.2.1 a.1.2.2.2.1 a.1.2.2.2.2.1 }
def g57L58B (N:Nat) {C:Type} (rec:Int→LIt→Int→Int→Option C) (k0:Int→Option C) (t3:Int) (t6:List (Int)) (t7 t8:Int):Option C :=
 bif (decide ((t8:Int) < t7)) then if idx t8 (List.length t6) then g57L7474 N (fun e1 e2 e3 e4=>(rec e1 e2 e3 (IntKind.wrap .i64 (e4 + 1)))) t3 (List.getD t6 (Int.toNat t8) 0) t6 t7 t8 else none else (k0 t3)
def g57L58 (N:Nat) {C:Type} (k0:Int→Option C) (t3:Int) (t6:List (Int)) (t7 t8:Int):Option C :=
 itP (α:=Prod1 [.a (.d tIt),.a (.d tLt),.a (.d tIt),.a (.d tIt)]×ProdO []) (fun rec a=>g57L58B N (fun t3 t6 t7 t8=>rec ((t3,t6,t7,t8,()),(()))) k0 a.1.1 a.1.2.1 a.1.2.2.1 a.1.2.2.2.1) N ((t3,t6,t7,t8,()),(()))
def g57L58T (N:Nat):Told:={ nt:=23,sv:=[.a (.d tIt),.a (.d tLt),.a (.d tIt),.a (.d tIt)],so:=[],run:=fun K' rec a=>g57L58B N (fun t3 t6 t7 t8=>rec ((t3,t6,t7,t8,()),(()))) (fun et3=>K' (.exit 0) (build 23 [3] [] [(.dat tIt et3)] [])) a.1.1 a.1.2.1 a.1.2.2.1 a.1.2.2.2.1 }
def g57 (N:Nat) (a0:List (Int)):Option (Int) :=
 g57L58 N (fun e5=>some (imax e5 (IntKind.wrap .i64 (ineg e5)))) 0 a0 ((List.length a0:Nat):Int) 0
def g57Tl (N:Nat):List (Nat×Told):=[(58,g57L58T N),(7474,g57L7474T N)]
def g57An (N:Nat):Ann:=mkAn N [(58,([3,6,7,8],[]),([3],[])),(7474,([3,5,6,7,8],[]),([3,6,7,8],[]))] [] (g57Tl N) [] [] 23
theorem g57L58_ok (N:Nat):ToldOk (((G55 N).withOwn []).withX []) (g57An N) (bdy Try.f57) 58 (g57L58T N):=⟨⟨loopBody (codeAt (bdy Try.f57) 64 58),by kernel_rfl,fun K' rec a=>by kernel_rfl⟩,fun a=>by kernel_rfl⟩
theorem g57L7474_ok (N:Nat):ToldOk (((G55 N).withOwn []).withX []) (g57An N) (bdy Try.f57) 7474 (g57L7474T N):=⟨⟨loopBody (codeAt (bdy Try.f57) 64 7474),by kernel_rfl,fun K' rec a=>by kernel_rfl⟩,fun a=>by kernel_rfl⟩
def G57 (N:Nat):Cfg:=(G55 N).add 57 (Spec.one [.d tLt] tIt (fun a=>g57 N a.1))
theorem G57_ok (N:Nat):CfgOk Try.prog (G57 N):=add_one [.d tLt] tIt (fun a=>g57 N a.1) [] [] (g57An N) (G55_ok N) Try.func57 (by kernel_rfl) (by kernel_rfl) (lokT (told_ok (g57Tl N) rfl rfl ⟨g57L58_ok N,g57L7474_ok N,trivial⟩)) (.inr rfl) fun a=>by kernel_rfl
def g51 (N:Nat) (a0 a1:Int):Option (Int) :=
 Option.bind (g55 N a0) fun r1=>bif (!r1) then some 1 else bif (decide ((a1:Int) < 0)) then some 70 else bif (decide ((a0:Int) ≤ a1)) then some 70 else Option.bind (g57 N [a1,a0]) fun r2=>bif (!ieq r2 1) then some 70 else some 0
def g51An (N:Nat):Ann:=mkAn N [] [] [] [] [] 22
def G51 (N:Nat):Cfg:=(G57 N).add 51 (Spec.one [.d tIt,.d tIt] tIt (fun a=>g51 N a.1 a.2.1))
theorem G51_ok (N:Nat):CfgOk Try.prog (G51 N):=add_one [.d tIt,.d tIt] tIt (fun a=>g51 N a.1 a.2.1) [] [] (g51An N) (G57_ok N) Try.func51 (by kernel_rfl) (by kernel_rfl) lokE (.inr rfl) fun a=>by kernel_rfl
@[reducible] def g56xS:XSh:={ sa:=[.a (.d tIt)],so:=[.gone],rs:=[.fn 71 [.ref 200000 0 []]],many:=false,os:=[(0,.gone)],xs:=[.box (.d tIt) (.a (.d tIt))] }
def g56x (N:Nat) (a0:Int):Option (g56xS).R :=
 some ((((),()),()),((),()),(a0,()))
def g56xAn (N:Nat):Ann:=mkAn N [] [] [] [] [] 4
def G56x (N:Nat):Cfg:=(G51 N).addX 56 (SpecX.of (g56xS) (fun a=>g56x N a.1.1))
theorem G56x_ok (N:Nat):CfgOk Try.prog (G56x N):=add_x (g56xS) (fun a=>g56x N a.1.1) [] [] [1] (g56xAn N) (G51_ok N) Try.func56 (by kernel_rfl) (by kernel_rfl) lokE (.inr rfl) (fun h=>by first | rfl | cases h) fun a=>by kernel_rfl
def g71xL1612B (N:Nat) (t:Ty) {C:Type} (rec:Int→TQ1→(Cbs t)→(t.T)→Int→Option C) (k0:Int→TQ1→(Cbs t)→(t.T)→Int→Option C) (t3:Int) (o4:(Int)×TQ3) (o100000r:Cbs t) (o100000x:t.T) (o100001:Int):Option C :=
 if t3 = 0 then none else bif (ieq (Int.tmod o100001 t3) 0) then if t3 = 0 then none else (rec t3 (o4.1,(IntKind.wrap .i64 (o4.2.1 + 1)),o4.2.2) o100000r o100000x (IntKind.wrap .i64 (Int.tdiv o100001 t3))) else (k0 t3 o4 o100000r o100000x o100001)
def g71xL1612 (N:Nat) (t:Ty) {C:Type} (k0:Int→TQ1→(Cbs t)→(t.T)→Int→Option C) (t3:Int) (o4:(Int)×TQ3) (o100000r:Cbs t) (o100000x:t.T) (o100001:Int):Option C :=
 itP (α:=Prod1 [.a (.cb 0),.a (.ref 100001 0 []),.a (.d tIt),.a (.ref 4 0 [])]×ProdO [.box (.d tQ2) (.a (.d tQ2)),.gh t,.box (.d tIt) (.a (.d tIt))]) (fun rec a=>g71xL1612B N t (fun t3 o4 o100000r o100000x o100001=>rec (((),(),t3,(),()),(o4,(o100000r,o100000x),o100001,()))) k0 a.1.2.2.1 a.2.1 a.2.2.1.1 a.2.2.1.2 a.2.2.2.1) N (((),(),t3,(),()),(o4,(o100000r,o100000x),o100001,()))
def g71xL1612T (N:Nat) (t:Ty):Told:={ nt:=37,sv:=[.a (.cb 0),.a (.ref 100001 0 []),.a (.d tIt),.a (.ref 4 0 [])],so:=[.box (.d tQ2) (.a (.d tQ2)),.gh t,.box (.d tIt) (.a (.d tIt))],run:=fun K' rec a=>g71xL1612B N t (fun t3 o4 o100000r o100000x o100001=>rec (((),(),t3,(),()),(o4,(o100000r,o100000x),o100001,()))) (fun et3 eo4 eo100000r eo100000x eo100001=>K' (.exit 2) (build 37 [0,1,3,4] [4,100000,100001] [(.cb 0),(.ref 100001 0 []),(.dat tIt et3),(.ref 4 0 [])] [(some (.box (.d tQ2) (.dat tQ2 eo4))),(some (.gh t eo100000r eo100000x)),(some (.box (.d tIt) (.dat tIt eo100001)))])) a.1.2.2.1 a.2.1 a.2.2.1.1 a.2.2.1.2 a.2.2.2.1 }
def g71xL6B (N:Nat) (t:Ty) {C:Type} (rec:Int→(Cbs t)→(t.T)→Int→Option C) (k0 k1:(Cbs t)→(t.T)→Int→Option C) (t3:Int) (o100000r:Cbs t) (o100000x:t.T) (o100001:Int):Option C :=
 bif (decide ((1:Int) < o100001)) then bif (decide ((o100001:Int) < (IntKind.wrap .i64 (t3 * t3)))) then g71xL1612 N t (fun e1 e2 e3 e4 e5=>bif (decide ((0:Int) < e2.2.1)) then Option.bind (e3.y e4 [.dat tQ2 e2]) fun r6=>bif (!r6.2) then (k0 e3 r6.1 e5) else (rec (IntKind.wrap .i64 (e1 + 1)) e3 r6.1 e5) else (rec (IntKind.wrap .i64 (e1 + 1)) e3 e4 e5)) o100001 (o100001,0,()) o100000r o100000x o100001 else g71xL1612 N t (fun e7 e8 e9 e10 e11=>bif (decide ((0:Int) < e8.2.1)) then Option.bind (e9.y e10 [.dat tQ2 e8]) fun r12=>bif (!r12.2) then (k0 e9 r12.1 e11) else (rec (IntKind.wrap .i64 (e7 + 1)) e9 r12.1 e11) else (rec (IntKind.wrap .i64 (e7 + 1)) e9 e10 e11)) t3 (t3,0,()) o100000r o100000x o100001 else (k1 o100000r o100000x o100001)
def g71xL6 (N:Nat) (t:Ty) {C:Type} (k0 k1:(Cbs t)→(t.T)→Int→Option C) (t3:Int) (o100000r:Cbs t) (o100000x:t.T) (o100001:Int):Option C :=
 itP (α:=Prod1 [.a (.cb 0),.a (.ref 100001 0 []),.a (.d tIt)]×ProdO [.gh t,.box (.d tIt) (.a (.d tIt))]) (fun rec a=>g71xL6B N t (fun t3 o100000r o100000x o100001=>rec (((),(),t3,()),((o100000r,o100000x),o100001,()))) k0 k1 a.1.2.2.1 a.2.1.1 a.2.1.2 a.2.2.1) N (((),(),t3,()),((o100000r,o100000x),o100001,()))
def g71xL6T (N:Nat) (t:Ty):Told:={ nt:=37,sv:=[.a (.cb 0),.a (.ref 100001 0 []),.a (.d tIt)],so:=[.gh t,.box (.d tIt) (.a (.d tIt))],run:=fun K' rec a=>g71xL6B N t (fun t3 o100000r o100000x o100001=>rec (((),(),t3,()),((o100000r,o100000x),o100001,()))) (fun eo100000r eo100000x eo100001=>K' .ret (build 37 [] [100000,100001] [] [(some (.gh t eo100000r eo100000x)),(some (.box (.d tIt) (.dat tIt eo100001)))])) (fun eo100000r eo100000x eo100001=>K' (.exit 0) (build 37 [] [100000,100001] [] [(some (.gh t eo100000r eo100000x)),(some (.box (.d tIt) (.dat tIt eo100001)))])) a.1.2.2.1 a.2.1.1 a.2.1.2 a.2.2.1 }
@[reducible] def g71xS (t:Ty):XSh:={ sa:=[.a (.cb 0),.a (.ref 100001 0 [])],so:=[.gh t,.box (.d tIt) (.a (.d tIt))],rs:=[],many:=true,os:=[(0,.gh t),(0,.box (.d tIt) (.a (.d tIt)))],xs:=[] }
def g71x (N:Nat) (t:Ty) (run:Cbs t) (x:t.T) (p1:Int):Option (g71xS t).R :=
 g71xL6 N t (fun e13 e14 e15=>some ((()),((e13,e14),e15,()),(()))) (fun e16 e17 e18=>some ((()),((e16,e17),e18,()),(()))) 2 run x p1
def g71xTl (N:Nat) (t:Ty):List (Nat×Told):=[(6,g71xL6T N t),(1612,g71xL1612T N t)]
def g71xAn (N:Nat) (t:Ty):Ann:=mkAn N [(6,([0,1,3],[100000,100001]),([],[100000,100001])),(1612,([0,1,3,4],[4,100000,100001]),([0,1,3,4],[4,100000,100001]))] [] (g71xTl N t) [] [] 37
theorem g71xI1L6_ok (N:Nat):ToldOk (((G56x N).withOwn []).withX [34]) (g71xAn N (.pair tIt (tyO [.box (.d tIt) (.a (.d tIt))]))) (bdy Try.f71) 6 (g71xL6T N (.pair tIt (tyO [.box (.d tIt) (.a (.d tIt))]))):=⟨⟨loopBody (codeAt (bdy Try.f71) 64 6),by kernel_rfl,fun K' rec a=>by kernel_rfl⟩,fun a=>by kernel_rfl⟩
theorem g71xI1L1612_ok (N:Nat):ToldOk (((G56x N).withOwn []).withX [34]) (g71xAn N (.pair tIt (tyO [.box (.d tIt) (.a (.d tIt))]))) (bdy Try.f71) 1612 (g71xL1612T N (.pair tIt (tyO [.box (.d tIt) (.a (.d tIt))]))):=⟨⟨loopBody (codeAt (bdy Try.f71) 64 1612),by kernel_rfl,fun K' rec a=>by kernel_rfl⟩,fun a=>by kernel_rfl⟩
def G71xI1 (N:Nat):Cfg:=(G56x N).addX 71 (SpecX.of (g71xS (.pair tIt (tyO [.box (.d tIt) (.a (.d tIt))]))) (fun a=>g71x N (.pair tIt (tyO [.box (.d tIt) (.a (.d tIt))])) a.2.1.1 a.2.1.2 a.2.2.1))
theorem G71xI1_ok (N:Nat):CfgOk Try.prog (G71xI1 N):=add_x (g71xS (.pair tIt (tyO [.box (.d tIt) (.a (.d tIt))]))) (fun a=>g71x N (.pair tIt (tyO [.box (.d tIt) (.a (.d tIt))])) a.2.1.1 a.2.1.2 a.2.2.1) [] [34] [] (g71xAn N (.pair tIt (tyO [.box (.d tIt) (.a (.d tIt))]))) (G56x_ok N) Try.func71 (by kernel_rfl) (by kernel_rfl) (lokF_of (told_ok (g71xTl N (.pair tIt (tyO [.box (.d tIt) (.a (.d tIt))]))) rfl rfl ⟨g71xI1L6_ok N,g71xI1L1612_ok N,trivial⟩) (told_ok [] rfl rfl trivial) (toldR_ok [] rfl trivial)) (.inr rfl) (fun h=>by first | rfl | cases h) fun a=>by kernel_rfl
def g60R58B (N:Nat) {C:Type} (kn:Int→Option C) (o3:Int) (y0:(Int)×TQ3):Option C :=
 if y0.1 = 0 then none else (kn (IntKind.wrap .i64 ((IntKind.wrap .i64 (Int.tdiv o3 y0.1)) * (IntKind.wrap .i64 (y0.1 - 1)))))
def g60R58 (N:Nat):RSh:={ nt:=18,sv:=[.a (.ref 3 0 [])],so:=[.box (.d tIt) (.a (.d tIt))],px:=[tQ2],exits:=[],brun:=fun K rec v y a=>g60R58B N (fun o3=>rec (o3,())) y.1 a.1 }
def g60 (N:Nat) (a0:Int):Option (Int) :=
 Option.bind (g56x N a0) fun r1=>Option.bind (g71x N (.pair tIt (tyO [.box (.d tIt) (.a (.d tIt))])) ⟨(g60R58 N).told.run [(.ref 3 0 [])],.unit,(g60R58 N).told.f [(.ref 3 0 [])]⟩ (0,(a0,())) r1.2.2.1) fun r2=>if r2.2.1.1.2.1 = 0 then some (asT (Int) r2.2.1.1.2.2.1) else none
def g60Rl (N:Nat):List (Nat×RSh):=[(58,g60R58 N)]
def g60An (N:Nat):Ann:=mkAn N [(58,([3],[3]),([],[]))] [] [] [] (g60Rl N) 18
theorem g60R58_ok (N:Nat):RShOk (((G71xI1 N).withOwn []).withX [7]) (g60An N) (bdy Try.f60) 58 (g60R58 N):=⟨rfl,(rangeAt (codeAt (bdy Try.f60) 64 58)).1,(rangeAt (codeAt (bdy Try.f60) 64 58)).2.1,(rangeAt (codeAt (bdy Try.f60) 64 58)).2.2.1,(rangeAt (codeAt (bdy Try.f60) 64 58)).2.2.2,by kernel_rfl,fun K v y a=>by kernel_rfl⟩
def G60 (N:Nat):Cfg:=(G71xI1 N).add 60 (Spec.one [.d tIt] tIt (fun a=>g60 N a.1))
theorem G60_ok (N:Nat):CfgOk Try.prog (G60 N):=add_one [.d tIt] tIt (fun a=>g60 N a.1) [] [7] (g60An N) (G71xI1_ok N) Try.func60 (by kernel_rfl) (by kernel_rfl) (lokF_of (told_ok [] rfl rfl trivial) (told_ok [] rfl rfl trivial) (toldR_ok (g60Rl N) rfl ⟨⟨g60R58_ok N,noF rfl (fun _ _ _ _=>rfl) rfl⟩,trivial⟩)) (.inr rfl) fun a=>by kernel_rfl
def g58L28B (N:Nat) {C:Type} (rec:Int→Int→Int→Int→Option C) (k0:Int→Option C) (t0 t1:Int) (t2 t7:Int):Option C :=
 bif (decide ((0:Int) < t2)) then bif (ieq (Int.tmod t2 2) 1) then if t0 = 0 then none else if t0 = 0 then none else (rec t0 (Int.tmod (IntKind.wrap .i64 (t1 * t1)) t0) (IntKind.wrap .i64 (Int.tdiv t2 2)) (Int.tmod (IntKind.wrap .i64 (t7 * t1)) t0)) else if t0 = 0 then none else (rec t0 (Int.tmod (IntKind.wrap .i64 (t1 * t1)) t0) (IntKind.wrap .i64 (Int.tdiv t2 2)) t7) else (k0 t7)
def g58L28 (N:Nat) {C:Type} (k0:Int→Option C) (t0 t1:Int) (t2 t7:Int):Option C :=
 itP (α:=Prod1 [.a (.d tIt),.a (.d tIt),.a (.d tIt),.a (.d tIt)]×ProdO []) (fun rec a=>g58L28B N (fun t0 t1 t2 t7=>rec ((t0,t1,t2,t7,()),(()))) k0 a.1.1 a.1.2.1 a.1.2.2.1 a.1.2.2.2.1) N ((t0,t1,t2,t7,()),(()))
def g58L28T (N:Nat):Told:={ nt:=28,sv:=[.a (.d tIt),.a (.d tIt),.a (.d tIt),.a (.d tIt)],so:=[],run:=fun K' rec a=>g58L28B N (fun t0 t1 t2 t7=>rec ((t0,t1,t2,t7,()),(()))) (fun et7=>K' (.exit 0) (build 28 [7] [] [(.dat tIt et7)] [])) a.1.1 a.1.2.1 a.1.2.2.1 a.1.2.2.2.1 }
def g58 (N:Nat) (a0 a1 a2:Int):Option (Int) :=
 if a0 = 0 then none else g58L28 N (fun e1=>some e1) a0 a1 a2 (Int.tmod 1 a0)
def g58Tl (N:Nat):List (Nat×Told):=[(28,g58L28T N)]
def g58An (N:Nat):Ann:=mkAn N [(28,([0,1,2,7],[]),([7],[]))] [] (g58Tl N) [] [] 28
theorem g58L28_ok (N:Nat):ToldOk (((G60 N).withOwn []).withX []) (g58An N) (bdy Try.f58) 28 (g58L28T N):=⟨⟨loopBody (codeAt (bdy Try.f58) 64 28),by kernel_rfl,fun K' rec a=>by kernel_rfl⟩,fun a=>by kernel_rfl⟩
def G58 (N:Nat):Cfg:=(G60 N).add 58 (Spec.one [.d tIt,.d tIt,.d tIt] tIt (fun a=>g58 N a.1 a.2.1 a.2.2.1))
theorem G58_ok (N:Nat):CfgOk Try.prog (G58 N):=add_one [.d tIt,.d tIt,.d tIt] tIt (fun a=>g58 N a.1 a.2.1 a.2.2.1) [] [] (g58An N) (G60_ok N) Try.func58 (by kernel_rfl) (by kernel_rfl) (lokT (told_ok (g58Tl N) rfl rfl ⟨g58L28_ok N,trivial⟩)) (.inr rfl) fun a=>by kernel_rfl
def Gh58 (N:Nat):Cfg:=(G58 N).hand 58 tQ2 tIt
theorem Gh58_ok (N:Nat):CfgOk Try.prog (Gh58 N):=hand_ok (G58_ok N) ⟨Try.f58,Try.func58,by kernel_rfl,by kernel_rfl⟩
def g72 (N:Nat) (a0:Int) (a1:TQ1→Option (Int)) (a2 a3:Int):Option (Bool) :=
 Option.bind (a1 (a2,a0,())) fun r1=>some (ieq r1 a3)
def g72An (N:Nat):Ann:=mkAn N [] [] [] [] [] 12
def G72 (N:Nat):Cfg:=(Gh58 N).add 72 (Spec.one [.d tIt,.pc tQ2 tIt,.p tIt,.p tIt] .bool (fun a=>g72 N a.1 a.2.1 a.2.2.1 a.2.2.2.1))
theorem G72_ok (N:Nat):CfgOk Try.prog (G72 N):=add_one [.d tIt,.pc tQ2 tIt,.p tIt,.p tIt] .bool (fun a=>g72 N a.1 a.2.1 a.2.2.1 a.2.2.2.1) [] [] (g72An N) (Gh58_ok N) Try.func72 (by kernel_rfl) (by kernel_rfl) lokE (.inr rfl) fun a=>by kernel_rfl
def Gh72 (N:Nat):Cfg:=(G72 N).hand 72 (.pair tIt .unit) .bool
theorem Gh72_ok (N:Nat):CfgOk Try.prog (Gh72 N):=hand_ok (G72_ok N) ⟨Try.f72,Try.func72,by kernel_rfl,by kernel_rfl⟩
def g61L4052B (N:Nat) {C:Type} (rec:(TQ3→Option (Bool))→Int→TQ1→(TQ3→Option (Bool))→Option C) (k0:Int→TQ1→(TQ3→Option (Bool))→Option C) (t8:TQ3→Option (Bool)) (o5:Int) (o9:(Int)×TQ3) (o400001:TQ3→Option (Bool)):Option C :=
 if o9.1 = 0 then none else bif (ieq (Int.tmod o5 o9.1) 0) then if o9.1 = 0 then none else Option.bind (t8 ((IntKind.wrap .i64 (Int.tdiv o5 o9.1)),())) fun r9=>bif r9 then if o9.1 = 0 then none else (rec t8 (IntKind.wrap .i64 (Int.tdiv o5 o9.1)) o9 o400001) else (k0 o5 o9 o400001) else (k0 o5 o9 o400001)
abbrev g61L4052V:List Sh1:=[.a (.ref 5 0 []),.a (.pc (.pair tIt .unit) .bool),.a (.ref 9 0 [])]
abbrev g61L4052O:List OSh:=[.box (.d tIt) (.a (.d tIt)),.box (.d tQ2) (.a (.d tQ2)),.sav 0 (.a (.ref 5 0 [])),.sav 1 (.a (.pc (.pair tIt .unit) .bool))]
def g61L4052 (N:Nat) {C:Type} (k0:Int→TQ1→(TQ3→Option (Bool))→Option C) (t8:TQ3→Option (Bool)) (o5:Int) (o9:(Int)×TQ3) (o400001:TQ3→Option (Bool)):Option C :=
 itP (α:=Prod1 g61L4052V×ProdO g61L4052O) (fun rec a=>g61L4052B N (fun t8 o5 o9 o400001=>rec (((),t8,(),()),(o5,o9,(),o400001,()))) k0 a.1.2.1 a.2.1 a.2.2.1 a.2.2.2.2.1) N (((),t8,(),()),(o5,o9,(),o400001,()))
def g61L4052T (N:Nat):Told:={ nt:=38,sv:=g61L4052V,so:=g61L4052O,run:=fun K' rec a=>g61L4052B N (fun t8 o5 o9 o400001=>rec (((),t8,(),()),(o5,o9,(),o400001,()))) (fun eo5 eo9 eo400001=>K' (.exit 2) (build 38 [] [5,9,400000,400001] [] [(some (.box (.d tIt) (.dat tIt eo5))),(some (.box (.d tQ2) (.dat tQ2 eo9))),(some (.sav 0 (.ref 5 0 []))),(some (.sav 1 (.eptr (.clo (.pair tIt .unit) .bool eo400001))))])) a.1.2.1 a.2.1 a.2.2.1 a.2.2.2.2.1 }
def g61R506B (N:Nat) {C:Type} (kn:Int→Option C) (t8:TQ3→Option (Bool)) (o5:Int) (y0:(Int)×TQ3):Option C :=
 g61L4052 N (fun e10 e11 e12=>(kn e10)) t8 o5 y0 t8
def g61R506 (N:Nat):RSh:={ nt:=38,sv:=[.a (.ref 5 0 []),.a (.pc (.pair tIt .unit) .bool)],so:=[.box (.d tIt) (.a (.d tIt))],px:=[tQ2],exits:=[],brun:=fun K rec v y a=>g61R506B N (fun o5=>rec (o5,())) v.2.1 y.1 a.1 }
def g61 (N:Nat) (a0 a1:Int):Option (Int) :=
 Option.bind (g60 N a0) fun r1=>if a0 = 0 then none else Option.bind (g56x N r1) fun r4=>Option.bind (g71x N (.pair tIt (tyO [.box (.d tIt) (.a (.d tIt))])) ⟨(g61R506 N).told.run [(.ref 5 0 []),(.eptr (.clo (.pair tIt .unit) .bool (fun (x7:(Int)×(Unit))=>Option.bind (g72 N x7.1 (fun (x2:(Int)×TQ3)=>Option.bind (g58 N a0 x2.1 x2.2.1) fun y3=>some y3) a1 (Int.tmod 1 a0)) fun y8=>some y8)))],.unit,(g61R506 N).told.f [(.ref 5 0 []),(.eptr (.clo (.pair tIt .unit) .bool (fun (x7:(Int)×(Unit))=>Option.bind (g72 N x7.1 (fun (x2:(Int)×TQ3)=>Option.bind (g58 N a0 x2.1 x2.2.1) fun y3=>some y3) a1 (Int.tmod 1 a0)) fun y8=>some y8)))]⟩ (0,(r1,())) r4.2.2.1) fun r13=>if r13.2.1.1.2.1 = 0 then some (asT (Int) r13.2.1.1.2.2.1) else none
def g61Ti (N:Nat):List (Nat×Told):=[(4052,g61L4052T N)]
def g61Rl (N:Nat):List (Nat×RSh):=[(506,g61R506 N)]
def g61An (N:Nat):Ann:=mkAn N [(4052,([5,8,9],[5,9,400000,400001]),([],[5,9,400000,400001])),(506,([5,8],[5]),([],[]))] [(1000005,[6,3,7,8])] [] (g61Ti N) (g61Rl N) 38
theorem g61L4052_ok (N:Nat):ToldOk (((Gh72 N).withOwn []).withX [18]) (g61An N).inR (bdy Try.f61) 4052 (g61L4052T N):=⟨⟨loopBody (codeAt (bdy Try.f61) 64 4052),by kernel_rfl,fun K' rec a=>by kernel_rfl⟩,fun a=>by kernel_rfl⟩
theorem g61R506_ok (N:Nat):RShOk (((Gh72 N).withOwn []).withX [18]) (g61An N) (bdy Try.f61) 506 (g61R506 N):=⟨rfl,(rangeAt (codeAt (bdy Try.f61) 64 506)).1,(rangeAt (codeAt (bdy Try.f61) 64 506)).2.1,(rangeAt (codeAt (bdy Try.f61) 64 506)).2.2.1,(rangeAt (codeAt (bdy Try.f61) 64 506)).2.2.2,by kernel_rfl,fun K v y a=>by kernel_rfl⟩
def G61 (N:Nat):Cfg:=(Gh72 N).add 61 (Spec.one [.d tIt,.d tIt] tIt (fun a=>g61 N a.1 a.2.1))
theorem G61_ok (N:Nat):CfgOk Try.prog (G61 N):=add_one [.d tIt,.d tIt] tIt (fun a=>g61 N a.1 a.2.1) [] [18] (g61An N) (Gh72_ok N) Try.func61 (by kernel_rfl) (by kernel_rfl) (lokF_of (told_ok [] rfl rfl trivial) (told_ok (g61Ti N) rfl rfl ⟨g61L4052_ok N,trivial⟩) (toldR_ok (g61Rl N) rfl ⟨⟨g61R506_ok N,noF rfl (fun _ _ _ _=>rfl) rfl⟩,trivial⟩)) (.inr rfl) fun a=>by kernel_rfl
def g69 (N:Nat) (a0 a1:Int):Option (Int) :=
 Option.bind (g61 N a0 a1) fun r1=>Option.bind (g58 N a0 a1 (IntKind.wrap .i64 (r1 - 1))) fun r2=>some r2
def g69An (N:Nat):Ann:=mkAn N [] [] [] [] [] 12
def G69 (N:Nat):Cfg:=(G61 N).add 69 (Spec.one [.d tIt,.d tIt] tIt (fun a=>g69 N a.1 a.2.1))
theorem G69_ok (N:Nat):CfgOk Try.prog (G69 N):=add_one [.d tIt,.d tIt] tIt (fun a=>g69 N a.1 a.2.1) [] [] (g69An N) (G61_ok N) Try.func69 (by kernel_rfl) (by kernel_rfl) lokE (.inr rfl) fun a=>by kernel_rfl
def g53L108B (N:Nat) {C:Type} (rec k0:Int→Int→Int→Int→Int→Option C) (t0 t1:Int) (t2 t8 t9:Int):Option C :=
 bif (decide (((IntKind.wrap .i64 (t9 * t9)):Int) < t8)) then (rec t0 t1 t2 t8 (IntKind.wrap .i64 (t9 + 1))) else (k0 t0 t1 t2 t8 t9)
def g53L108 (N:Nat) {C:Type} (k0:Int→Int→Int→Int→Int→Option C) (t0 t1:Int) (t2 t8 t9:Int):Option C :=
 itP (α:=Prod1 [.a (.d tIt),.a (.d tIt),.a (.d tIt),.a (.d tIt),.a (.d tIt)]×ProdO []) (fun rec a=>g53L108B N (fun t0 t1 t2 t8 t9=>rec ((t0,t1,t2,t8,t9,()),(()))) k0 a.1.1 a.1.2.1 a.1.2.2.1 a.1.2.2.2.1 a.1.2.2.2.2.1) N ((t0,t1,t2,t8,t9,()),(()))
def g53L108T (N:Nat):Told:={ nt:=85,sv:=[.a (.d tIt),.a (.d tIt),.a (.d tIt),.a (.d tIt),.a (.d tIt)],so:=[],run:=fun K' rec a=>g53L108B N (fun t0 t1 t2 t8 t9=>rec ((t0,t1,t2,t8,t9,()),(()))) (fun et0 et1 et2 et8 et9=>K' (.exit 0) (build 85 [0,1,2,8,9] [] [(.dat tIt et0),(.dat tIt et1),(.dat tIt et2),(.dat tIt et8),(.dat tIt et9)] [])) a.1.1 a.1.2.1 a.1.2.2.1 a.1.2.2.2.1 a.1.2.2.2.2.1 }
def g53L1786B (N:Nat) {C:Type} (rec:Int→Int→Int→Int→Int→Int→Int→Int→TQ6→Option C) (k0:Int→Int→Int→Int→Int→TQ6→Option C) (t0 t1:Int) (t2 t8:Int) (t9 t11:Int) (t34 t35:Int) (o31:List ((Int)×(Int))):Option C :=
 bif (decide ((t35:Int) < t34)) then bif (!(Option.isSome (mapFind (Ty.beq tIt) t11 o31))) then if t0 = 0 then none else (rec t0 t1 t2 t8 t9 (Int.tmod (IntKind.wrap .i64 (t11 * t1)) t0) t34 (IntKind.wrap .i64 (t35 + 1)) (mapPut (Ty.beq tIt) t11 t35 o31)) else if t0 = 0 then none else (rec t0 t1 t2 t8 t9 (Int.tmod (IntKind.wrap .i64 (t11 * t1)) t0) t34 (IntKind.wrap .i64 (t35 + 1)) o31) else (k0 t0 t2 t8 t9 t11 o31)
abbrev g53L1786V:List Sh1:=[.a (.d tIt),.a (.d tIt),.a (.d tIt),.a (.d tIt),.a (.d tIt),.a (.mp 31 0),.a (.d tIt),.a (.d tIt),.a (.d tIt)]
abbrev g53L1786O:List OSh:=[.map tIt tIt]
def g53L1786 (N:Nat) {C:Type} (k0:Int→Int→Int→Int→Int→TQ6→Option C) (t0 t1:Int) (t2 t8:Int) (t9 t11:Int) (t34 t35:Int) (o31:List ((Int)×(Int))):Option C :=
 itP (α:=Prod1 g53L1786V×ProdO g53L1786O) (fun rec a=>g53L1786B N (fun t0 t1 t2 t8 t9 t11 t34 t35 o31=>rec ((t0,t1,t2,t8,t9,(),t11,t34,t35,()),(o31,()))) k0 a.1.1 a.1.2.1 a.1.2.2.1 a.1.2.2.2.1 a.1.2.2.2.2.1 a.1.2.2.2.2.2.2.1 a.1.2.2.2.2.2.2.2.1 a.1.2.2.2.2.2.2.2.2.1 a.2.1) N ((t0,t1,t2,t8,t9,(),t11,t34,t35,()),(o31,()))
def g53L1786T (N:Nat):Told:={ nt:=85,sv:=g53L1786V,so:=g53L1786O,run:=fun K' rec a=>g53L1786B N (fun t0 t1 t2 t8 t9 t11 t34 t35 o31=>rec ((t0,t1,t2,t8,t9,(),t11,t34,t35,()),(o31,()))) (fun et0 et2 et8 et9 et11 eo31=>K' (.exit 2) (build 85 [0,2,8,9,10,11] [31] [(.dat tIt et0),(.dat tIt et2),(.dat tIt et8),(.dat tIt et9),(.mp 31 0),(.dat tIt et11)] [(some (.map tIt tIt eo31))])) a.1.1 a.1.2.1 a.1.2.2.1 a.1.2.2.2.1 a.1.2.2.2.2.1 a.1.2.2.2.2.2.2.1 a.1.2.2.2.2.2.2.2.1 a.1.2.2.2.2.2.2.2.2.1 a.2.1 }
def g53L28666B (N:Nat) {C:Type} (rec:Int→Int→Int→Int→Int→Int→Bool→Int→Int→TQ6→Option C) (k0:Int→Bool→TQ6→Option C) (t0 t2:Int) (t8 t9:Int) (t15 t16:Int) (t17:Bool) (t59 t60:Int) (o31:List ((Int)×(Int))):Option C :=
 bif (decide ((t60:Int) < t59)) then bif (Option.isSome (mapFind (Ty.beq tIt) t2 o31)) then if t8 = 0 then none else (k0 (Int.tmod (IntKind.wrap .i64 ((IntKind.wrap .i64 (t60 * t9)) + (Option.getD (mapFind (Ty.beq tIt) t2 o31) 0))) t8) true o31) else if t0 = 0 then none else (rec t0 (Int.tmod (IntKind.wrap .i64 (t2 * t15)) t0) t8 t9 t15 t16 t17 t59 (IntKind.wrap .i64 (t60 + 1)) o31) else (k0 t16 t17 o31)
abbrev g53L28666V:List Sh1:=[.a (.d tIt),.a (.d tIt),.a (.d tIt),.a (.d tIt),.a (.mp 31 0),.a (.d tIt),.a (.d tIt),.a (.d .bool),.a (.d tIt),.a (.d tIt)]
abbrev g53L28666O:List OSh:=[.map tIt tIt]
def g53L28666 (N:Nat) {C:Type} (k0:Int→Bool→TQ6→Option C) (t0 t2:Int) (t8 t9:Int) (t15 t16:Int) (t17:Bool) (t59 t60:Int) (o31:List ((Int)×(Int))):Option C :=
 itP (α:=Prod1 g53L28666V×ProdO g53L28666O) (fun rec a=>g53L28666B N (fun t0 t2 t8 t9 t15 t16 t17 t59 t60 o31=>rec ((t0,t2,t8,t9,(),t15,t16,t17,t59,t60,()),(o31,()))) k0 a.1.1 a.1.2.1 a.1.2.2.1 a.1.2.2.2.1 a.1.2.2.2.2.2.1 a.1.2.2.2.2.2.2.1 a.1.2.2.2.2.2.2.2.1 a.1.2.2.2.2.2.2.2.2.1 a.1.2.2.2.2.2.2.2.2.2.1 a.2.1) N ((t0,t2,t8,t9,(),t15,t16,t17,t59,t60,()),(o31,()))
def g53L28666T (N:Nat):Told:={ nt:=85,sv:=g53L28666V,so:=g53L28666O,run:=fun K' rec a=>g53L28666B N (fun t0 t2 t8 t9 t15 t16 t17 t59 t60 o31=>rec ((t0,t2,t8,t9,(),t15,t16,t17,t59,t60,()),(o31,()))) (fun et16 et17 eo31=>K' (.exit 4) (build 85 [16,17] [31] [(.dat tIt et16),(.dat .bool et17)] [(some (.map tIt tIt eo31))])) a.1.1 a.1.2.1 a.1.2.2.1 a.1.2.2.2.1 a.1.2.2.2.2.2.1 a.1.2.2.2.2.2.2.1 a.1.2.2.2.2.2.2.2.1 a.1.2.2.2.2.2.2.2.2.1 a.1.2.2.2.2.2.2.2.2.2.1 a.2.1 }
def g53 (N:Nat) (a0 a1 a2:Int):Option ((Int)×((Bool)×(Unit))) :=
 Option.bind (g61 N a0 a1) fun r1=>g53L108 N (fun e2 e3 e4 e5 e6=>if e2 = 0 then none else g53L1786 N (fun e7 e8 e9 e10 e11 e12=>Option.bind (g69 N e7 e11) fun r13=>g53L28666 N (fun e14 e15 e16=>some (e14,e15,())) e7 e8 e9 e10 r13 0 false (IntKind.wrap .i64 (e10 + 1)) 0 e12) e2 e3 e4 e5 e6 (Int.tmod 1 e2) e6 0 ([]:List ((Int)×(Int)))) a0 a1 a2 r1 1
def g53Tl (N:Nat):List (Nat×Told):=[(108,g53L108T N),(1786,g53L1786T N),(28666,g53L28666T N)]
def g53An (N:Nat):Ann:=mkAn N [(108,([0,1,2,8,9],[]),([0,1,2,8,9],[])),(1786,([0,1,2,8,9,10,11,34,35],[31]),([0,2,8,9,10,11],[31])),(28666,([0,2,8,9,10,15,16,17,59,60],[31]),([16,17],[31]))] [] (g53Tl N) [] [] 85
theorem g53L108_ok (N:Nat):ToldOk (((G69 N).withOwn []).withX []) (g53An N) (bdy Try.f53) 108 (g53L108T N):=⟨⟨loopBody (codeAt (bdy Try.f53) 64 108),by kernel_rfl,fun K' rec a=>by kernel_rfl⟩,fun a=>by kernel_rfl⟩
theorem g53L1786_ok (N:Nat):ToldOk (((G69 N).withOwn []).withX []) (g53An N) (bdy Try.f53) 1786 (g53L1786T N):=⟨⟨loopBody (codeAt (bdy Try.f53) 64 1786),by kernel_rfl,fun K' rec a=>by kernel_rfl⟩,fun a=>by kernel_rfl⟩
theorem g53L28666_ok (N:Nat):ToldOk (((G69 N).withOwn []).withX []) (g53An N) (bdy Try.f53) 28666 (g53L28666T N):=⟨⟨loopBody (codeAt (bdy Try.f53) 64 28666),by kernel_rfl,fun K' rec a=>by kernel_rfl⟩,fun a=>by kernel_rfl⟩
def G53 (N:Nat):Cfg:=(G69 N).add 53 (Spec.many [.d tIt,.d tIt,.d tIt] (.pair tIt (.pair .bool .unit)) (fun a=>g53 N a.1 a.2.1 a.2.2.1))
theorem G53_ok (N:Nat):CfgOk Try.prog (G53 N):=add_many [.d tIt,.d tIt,.d tIt] (.pair tIt (.pair .bool .unit)) (fun a=>g53 N a.1 a.2.1 a.2.2.1) [] [] (g53An N) (G69_ok N) Try.func53 (by kernel_rfl) (by kernel_rfl) (lokT (told_ok (g53Tl N) rfl rfl ⟨g53L108_ok N,g53L1786_ok N,g53L28666_ok N,trivial⟩)) (.inr rfl) fun a=>by kernel_rfl
def g19L26B (N:Nat) {C:Type} (rec:Int→Int→Int→LIt→Int→Int→Option C) (k0:Int→Int→Int→Int→Bool→Int→Option C) (k1:Int→Int→Int→Option C) (t0 t1 t2:Int) (t16:List (Int)) (t17 t18:Int):Option C :=
 bif (decide ((t18:Int) < t17)) then if idx t18 (List.length t16) then Option.bind (g51 N t0 (List.getD t16 (Int.toNat t18) 0)) fun r1=>bif (!ieq r1 0) then (k0 t0 t1 t2 0 false r1) else (rec t0 t1 t2 t16 t17 (IntKind.wrap .i64 (t18 + 1))) else none else (k1 t0 t1 t2)
abbrev g19L26V:List Sh1:=[.a (.d tIt),.a (.d tIt),.a (.d tIt),.a (.d tLt),.a (.d tIt),.a (.d tIt)]
abbrev g19L26O:List OSh:=[]
def g19L26 (N:Nat) {C:Type} (k0:Int→Int→Int→Int→Bool→Int→Option C) (k1:Int→Int→Int→Option C) (t0 t1 t2:Int) (t16:List (Int)) (t17 t18:Int):Option C :=
 itP (α:=Prod1 g19L26V×ProdO g19L26O) (fun rec a=>g19L26B N (fun t0 t1 t2 t16 t17 t18=>rec ((t0,t1,t2,t16,t17,t18,()),(()))) k0 k1 a.1.1 a.1.2.1 a.1.2.2.1 a.1.2.2.2.1 a.1.2.2.2.2.1 a.1.2.2.2.2.2.1) N ((t0,t1,t2,t16,t17,t18,()),(()))
def g19L26T (N:Nat):Told:={ nt:=38,sv:=g19L26V,so:=g19L26O,run:=fun K' rec a=>g19L26B N (fun t0 t1 t2 t16 t17 t18=>rec ((t0,t1,t2,t16,t17,t18,()),(()))) (fun et0 et1 et2 et6 et7 et8=>K' .ret (build 38 [0,1,2,6,7,8] [] [(.dat tIt et0),(.dat tIt et1),(.dat tIt et2),(.dat tIt et6),(.dat .bool et7),(.dat tIt et8)] [])) (fun et0 et1 et2=>K' (.exit 0) (build 38 [0,1,2,6,7,8] [] [(.dat tIt et0),(.dat tIt et1),(.dat tIt et2),.junk,.junk,.junk] [])) a.1.1 a.1.2.1 a.1.2.2.1 a.1.2.2.2.1 a.1.2.2.2.2.1 a.1.2.2.2.2.2.1 }
def g19 (N:Nat) (a0 a1 a2:Int):Option ((Int)×((Bool)×TQ3)) :=
 g19L26 N (fun e2 e3 e4 e5 e6 e7=>some (e5,e6,e7,())) (fun e8 e9 e10=>Option.bind (g53 N e8 e9 e10) fun r11=>some (r11.1,r11.2.1,0,())) a0 a1 a2 [a1,a2] ((List.length [a1,a2]:Nat):Int) 0
def g19Tl (N:Nat):List (Nat×Told):=[(26,g19L26T N)]
def g19An (N:Nat):Ann:=mkAn N [(26,([0,1,2,16,17,18],[]),([0,1,2,6,7,8],[]))] [] (g19Tl N) [] [] 38
theorem g19L26_ok (N:Nat):ToldOk (((G53 N).withOwn []).withX []) (g19An N) (bdy Try.f19) 26 (g19L26T N):=⟨⟨loopBody (codeAt (bdy Try.f19) 64 26),by kernel_rfl,fun K' rec a=>by kernel_rfl⟩,fun a=>by kernel_rfl⟩
def G19 (N:Nat):Cfg:=(G53 N).add 19 (Spec.many [.d tIt,.d tIt,.d tIt] (.pair tIt (.pair .bool (.pair tIt .unit))) (fun a=>g19 N a.1 a.2.1 a.2.2.1))
theorem G19_ok (N:Nat):CfgOk Try.prog (G19 N):=add_many [.d tIt,.d tIt,.d tIt] (.pair tIt (.pair .bool (.pair tIt .unit))) (fun a=>g19 N a.1 a.2.1 a.2.2.1) [] [] (g19An N) (G53_ok N) Try.func19 (by kernel_rfl) (by kernel_rfl) (lokT (told_ok (g19Tl N) rfl rfl ⟨g19L26_ok N,trivial⟩)) (.inr rfl) fun a=>by kernel_rfl
def g20L58B (N:Nat) {C:Type} (rec:Int→Int→Int→Int→Int→Option C) (k0:Int→Option C) (k1:Option C) (t0 t1:Int) (t2 t7 t8:Int):Option C :=
 bif (decide ((t8:Int) < t0)) then bif (ieq t7 t2) then (k0 t8) else if t0 = 0 then none else if t0 = 0 then none else bif (ieq (Int.tmod (IntKind.wrap .i64 (t7 * t1)) t0) (Int.tmod 1 t0)) then (k0 (-1)) else (rec t0 t1 t2 (Int.tmod (IntKind.wrap .i64 (t7 * t1)) t0) (IntKind.wrap .i64 (t8 + 1))) else k1
def g20L58 (N:Nat) {C:Type} (k0:Int→Option C) (k1:Option C) (t0 t1:Int) (t2 t7 t8:Int):Option C :=
 itP (α:=Prod1 [.a (.d tIt),.a (.d tIt),.a (.d tIt),.a (.d tIt),.a (.d tIt)]×ProdO []) (fun rec a=>g20L58B N (fun t0 t1 t2 t7 t8=>rec ((t0,t1,t2,t7,t8,()),(()))) k0 k1 a.1.1 a.1.2.1 a.1.2.2.1 a.1.2.2.2.1 a.1.2.2.2.2.1) N ((t0,t1,t2,t7,t8,()),(()))
def g20L58T (N:Nat):Told:={ nt:=29,sv:=[.a (.d tIt),.a (.d tIt),.a (.d tIt),.a (.d tIt),.a (.d tIt)],so:=[],run:=fun K' rec a=>g20L58B N (fun t0 t1 t2 t7 t8=>rec ((t0,t1,t2,t7,t8,()),(()))) (fun et6=>K' .ret (build 29 [6] [] [(.dat tIt et6)] [])) (K' (.exit 0) (build 29 [6] [] [.junk] [])) a.1.1 a.1.2.1 a.1.2.2.1 a.1.2.2.2.1 a.1.2.2.2.2.1 }
def g20 (N:Nat) (a0 a1 a2:Int):Option (Int) :=
 if a0 = 0 then none else g20L58 N (fun e1=>some e1) (some (-1)) a0 a1 a2 (Int.tmod 1 a0) 0
def g20Tl (N:Nat):List (Nat×Told):=[(58,g20L58T N)]
def g20An (N:Nat):Ann:=mkAn N [(58,([0,1,2,7,8],[]),([6],[]))] [] (g20Tl N) [] [] 29
theorem g20L58_ok (N:Nat):ToldOk (((G19 N).withOwn []).withX []) (g20An N) (bdy Try.f20) 58 (g20L58T N):=⟨⟨loopBody (codeAt (bdy Try.f20) 64 58),by kernel_rfl,fun K' rec a=>by kernel_rfl⟩,fun a=>by kernel_rfl⟩
def G20 (N:Nat):Cfg:=(G19 N).add 20 (Spec.one [.d tIt,.d tIt,.d tIt] tIt (fun a=>g20 N a.1 a.2.1 a.2.2.1))
theorem G20_ok (N:Nat):CfgOk Try.prog (G20 N):=add_one [.d tIt,.d tIt,.d tIt] tIt (fun a=>g20 N a.1 a.2.1 a.2.2.1) [] [] (g20An N) (G19_ok N) Try.func20 (by kernel_rfl) (by kernel_rfl) (lokT (told_ok (g20Tl N) rfl rfl ⟨g20L58_ok N,trivial⟩)) (.inr rfl) fun a=>by kernel_rfl
def g27 (N:Nat) (a0:Int):Option TQ1 :=
 Option.bind (g55 N a0) fun r1=>bif (!r1) then some (0,1,()) else Option.bind (g60 N a0) fun r2=>some (r2,0,())
def g27An (N:Nat):Ann:=mkAn N [] [] [] [] [] 9
def G27 (N:Nat):Cfg:=(G20 N).add 27 (Spec.many [.d tIt] tQ2 (fun a=>g27 N a.1))
theorem G27_ok (N:Nat):CfgOk Try.prog (G27 N):=add_many [.d tIt] tQ2 (fun a=>g27 N a.1) [] [] (g27An N) (G20_ok N) Try.func27 (by kernel_rfl) (by kernel_rfl) lokE (.inr rfl) fun a=>by kernel_rfl
def g77L220B (N:Nat) {C:Type} (rec:Int→Int→Int→Option C) (k0:Int→Option C) (t0 t3 t4:Int):Option C :=
 Option.bind (g57 N [t4,t0]) fun r2=>bif (ieq r2 1) then Option.bind (g61 N t0 t4) fun r3=>bif (ieq r3 t3) then (k0 t4) else (rec t0 t3 (IntKind.wrap .i64 (t4 + 1))) else (rec t0 t3 (IntKind.wrap .i64 (t4 + 1)))
def g77L220 (N:Nat) {C:Type} (k0:Int→Option C) (t0 t3 t4:Int):Option C :=
 itP (α:=Prod1 [.a (.d tIt),.a (.d tIt),.a (.d tIt)]×ProdO []) (fun rec a=>g77L220B N (fun t0 t3 t4=>rec ((t0,t3,t4,()),(()))) k0 a.1.1 a.1.2.1 a.1.2.2.1) N ((t0,t3,t4,()),(()))
def g77L220T (N:Nat):Told:={ nt:=22,sv:=[.a (.d tIt),.a (.d tIt),.a (.d tIt)],so:=[],run:=fun K' rec a=>g77L220B N (fun t0 t3 t4=>rec ((t0,t3,t4,()),(()))) (fun et4=>K' (.exit 0) (build 22 [4] [] [(.dat tIt et4)] [])) a.1.1 a.1.2.1 a.1.2.2.1 }
def g77 (N:Nat) (a0:Int):Option (Int) :=
 Option.bind (g60 N a0) fun r1=>g77L220 N (fun e4=>some e4) a0 r1 2
def g77Tl (N:Nat):List (Nat×Told):=[(220,g77L220T N)]
def g77An (N:Nat):Ann:=mkAn N [(220,([0,3,4],[]),([4],[]))] [] (g77Tl N) [] [] 22
theorem g77L220_ok (N:Nat):ToldOk (((G27 N).withOwn []).withX []) (g77An N) (bdy Try.f77) 220 (g77L220T N):=⟨⟨loopBody (codeAt (bdy Try.f77) 64 220),by kernel_rfl,fun K' rec a=>by kernel_rfl⟩,fun a=>by kernel_rfl⟩
def G77 (N:Nat):Cfg:=(G27 N).add 77 (Spec.one [.d tIt] tIt (fun a=>g77 N a.1))
theorem G77_ok (N:Nat):CfgOk Try.prog (G77 N):=add_one [.d tIt] tIt (fun a=>g77 N a.1) [] [] (g77An N) (G27_ok N) Try.func77 (by kernel_rfl) (by kernel_rfl) (lokT (told_ok (g77Tl N) rfl rfl ⟨g77L220_ok N,trivial⟩)) (.inr rfl) fun a=>by kernel_rfl
def g76L28B (N:Nat) {C:Type} (rec:Int→Int→Int→Option C) (k0:Int→Option C) (t1 t2 t5:Int):Option C :=
 if t2 = 0 then none else if t2 = 0 then none else bif (!ieq (Int.tmod t5 t2) (Int.tmod 1 t2)) then (rec t1 t2 (IntKind.wrap .i64 (t5 + t1))) else (k0 t5)
def g76L28 (N:Nat) {C:Type} (k0:Int→Option C) (t1 t2 t5:Int):Option C :=
 itP (α:=Prod1 [.a (.p tIt),.a (.p tIt),.a (.d tIt)]×ProdO []) (fun rec a=>g76L28B N (fun t1 t2 t5=>rec ((t1,t2,t5,()),(()))) k0 a.1.1 a.1.2.1 a.1.2.2.1) N ((t1,t2,t5,()),(()))
def g76L28T (N:Nat):Told:={ nt:=19,sv:=[.a (.p tIt),.a (.p tIt),.a (.d tIt)],so:=[],run:=fun K' rec a=>g76L28B N (fun t1 t2 t5=>rec ((t1,t2,t5,()),(()))) (fun et5=>K' (.exit 0) (build 19 [5] [] [(.dat tIt et5)] [])) a.1.1 a.1.2.1 a.1.2.2.1 }
def g76 (N:Nat) (a0 a1 a2:Int):Option (Int) :=
 if a1 = 0 then none else g76L28 N (fun e1=>some e1) a1 a2 (Int.tmod a0 a1)
def g76Tl (N:Nat):List (Nat×Told):=[(28,g76L28T N)]
def g76An (N:Nat):Ann:=mkAn N [(28,([1,2,5],[]),([5],[]))] [] (g76Tl N) [] [] 19
theorem g76L28_ok (N:Nat):ToldOk (((G77 N).withOwn []).withX []) (g76An N) (bdy Try.f76) 28 (g76L28T N):=⟨⟨loopBody (codeAt (bdy Try.f76) 64 28),by kernel_rfl,fun K' rec a=>by kernel_rfl⟩,fun a=>by kernel_rfl⟩
def G76 (N:Nat):Cfg:=(G77 N).add 76 (Spec.one [.d tIt,.p tIt,.p tIt] tIt (fun a=>g76 N a.1 a.2.1 a.2.2.1))
theorem G76_ok (N:Nat):CfgOk Try.prog (G76 N):=add_one [.d tIt,.p tIt,.p tIt] tIt (fun a=>g76 N a.1 a.2.1 a.2.2.1) [] [] (g76An N) (G77_ok N) Try.func76 (by kernel_rfl) (by kernel_rfl) (lokT (told_ok (g76Tl N) rfl rfl ⟨g76L28_ok N,trivial⟩)) (.inr rfl) fun a=>by kernel_rfl
theorem g71xI2L6_ok (N:Nat):ToldOk (((G76 N).withOwn []).withX [34]) (g71xAn N (.pair tIt (tyO [.box (.d tIt) (.a (.d tIt)),.box (.d (.lst tQ2)) (.a (.sl tQ2 1192 0)),.vec tQ2]))) (bdy Try.f71) 6 (g71xL6T N (.pair tIt (tyO [.box (.d tIt) (.a (.d tIt)),.box (.d (.lst tQ2)) (.a (.sl tQ2 1192 0)),.vec tQ2]))):=⟨⟨loopBody (codeAt (bdy Try.f71) 64 6),by kernel_rfl,fun K' rec a=>by kernel_rfl⟩,fun a=>by kernel_rfl⟩
theorem g71xI2L1612_ok (N:Nat):ToldOk (((G76 N).withOwn []).withX [34]) (g71xAn N (.pair tIt (tyO [.box (.d tIt) (.a (.d tIt)),.box (.d (.lst tQ2)) (.a (.sl tQ2 1192 0)),.vec tQ2]))) (bdy Try.f71) 1612 (g71xL1612T N (.pair tIt (tyO [.box (.d tIt) (.a (.d tIt)),.box (.d (.lst tQ2)) (.a (.sl tQ2 1192 0)),.vec tQ2]))):=⟨⟨loopBody (codeAt (bdy Try.f71) 64 1612),by kernel_rfl,fun K' rec a=>by kernel_rfl⟩,fun a=>by kernel_rfl⟩
def G71xI2 (N:Nat):Cfg:=(G76 N).addX 71 (SpecX.of (g71xS (.pair tIt (tyO [.box (.d tIt) (.a (.d tIt)),.box (.d (.lst tQ2)) (.a (.sl tQ2 1192 0)),.vec tQ2]))) (fun a=>g71x N (.pair tIt (tyO [.box (.d tIt) (.a (.d tIt)),.box (.d (.lst tQ2)) (.a (.sl tQ2 1192 0)),.vec tQ2])) a.2.1.1 a.2.1.2 a.2.2.1))
theorem G71xI2_ok (N:Nat):CfgOk Try.prog (G71xI2 N):=add_x (g71xS (.pair tIt (tyO [.box (.d tIt) (.a (.d tIt)),.box (.d (.lst tQ2)) (.a (.sl tQ2 1192 0)),.vec tQ2]))) (fun a=>g71x N (.pair tIt (tyO [.box (.d tIt) (.a (.d tIt)),.box (.d (.lst tQ2)) (.a (.sl tQ2 1192 0)),.vec tQ2])) a.2.1.1 a.2.1.2 a.2.2.1) [] [34] [] (g71xAn N (.pair tIt (tyO [.box (.d tIt) (.a (.d tIt)),.box (.d (.lst tQ2)) (.a (.sl tQ2 1192 0)),.vec tQ2]))) (G76_ok N) Try.func71 (by kernel_rfl) (by kernel_rfl) (lokF_of (told_ok (g71xTl N (.pair tIt (tyO [.box (.d tIt) (.a (.d tIt)),.box (.d (.lst tQ2)) (.a (.sl tQ2 1192 0)),.vec tQ2]))) rfl rfl ⟨g71xI2L6_ok N,g71xI2L1612_ok N,trivial⟩) (told_ok [] rfl rfl trivial) (toldR_ok [] rfl trivial)) (.inr rfl) (fun h=>by first | rfl | cases h) fun a=>by kernel_rfl
def g73L3754B (N:Nat) {C:Type} (rec:Int→Int→Int→TQ1→Int→(List TQ1)→Option C) (k0:Int→TQ1→Int→(List TQ1)→Option C) (t12 t13 o1:Int) (o4:(Int)×TQ3) (o5:Int) (o1192:List TQ1):Option C :=
 bif (decide ((t13:Int) < t12)) then (rec t12 (IntKind.wrap .i64 (t13 + 1)) o1 o4 (IntKind.wrap .i64 (o5 * o4.1)) o1192) else (k0 o1 o4 o5 o1192)
abbrev g73L3754V:List Sh1:=[.a (.ref 1 0 []),.a (.ref 3 0 []),.a (.ref 4 0 []),.a (.ref 5 0 []),.a (.d tIt),.a (.d tIt)]
abbrev g73L3754O:List OSh:=[.box (.d tIt) (.a (.d tIt)),.box (.d (.lst tQ2)) (.a (.sl tQ2 1192 0)),.box (.d tQ2) (.a (.d tQ2)),.box (.d tIt) (.a (.d tIt)),.vec tQ2,.sav 0 (.a (.ref 1 0 [])),.sav 1 (.a (.ref 3 0 []))]
def g73L3754 (N:Nat) {C:Type} (k0:Int→TQ1→Int→(List TQ1)→Option C) (t12 t13 o1:Int) (o4:(Int)×TQ3) (o5:Int) (o1192:List TQ1):Option C :=
 itP (α:=Prod1 g73L3754V×ProdO g73L3754O) (fun rec a=>g73L3754B N (fun t12 t13 o1 o4 o5 o1192=>rec (((),(),(),(),t12,t13,()),(o1,(),o4,o5,o1192,(),(),()))) k0 a.1.2.2.2.2.1 a.1.2.2.2.2.2.1 a.2.1 a.2.2.2.1 a.2.2.2.2.1 a.2.2.2.2.2.1) N (((),(),(),(),t12,t13,()),(o1,(),o4,o5,o1192,(),(),()))
def g73L3754T (N:Nat):Told:={ nt:=64,sv:=g73L3754V,so:=g73L3754O,run:=fun K' rec a=>g73L3754B N (fun t12 t13 o1 o4 o5 o1192=>rec (((),(),(),(),t12,t13,()),(o1,(),o4,o5,o1192,(),(),()))) (fun eo1 eo4 eo5 eo1192=>K' (.exit 2) (build 64 [1,3,4,5] [1,3,4,5,1192,400000,400001] [(.ref 1 0 []),(.ref 3 0 []),(.ref 4 0 []),(.ref 5 0 [])] [(some (.box (.d tIt) (.dat tIt eo1))),(some (.box (.d (.lst tQ2)) (.sl tQ2 1192 0))),(some (.box (.d tQ2) (.dat tQ2 eo4))),(some (.box (.d tIt) (.dat tIt eo5))),(some (.vec tQ2 eo1192)),(some (.sav 0 (.ref 1 0 []))),(some (.sav 1 (.ref 3 0 [])))])) a.1.2.2.2.2.1 a.1.2.2.2.2.2.1 a.2.1 a.2.2.2.1 a.2.2.2.2.1 a.2.2.2.2.2.1 }
def g73R58B (N:Nat) {C:Type} (kn:Int→(List TQ1)→Option C) (o1:Int) (o1192:List TQ1) (y0:(Int)×TQ3):Option C :=
 g73L3754 N (fun e2 e3 e4 e5=>if e4 = 0 then none else bif (decide ((2:Int) < e3.1)) then Option.bind (g60 N e4) fun r6=>Option.bind (g77 N e4) fun r7=>Option.bind (g76 N r7 e4 (IntKind.wrap .i64 (Int.tdiv e2 e4))) fun r8=>if List.length e5 + List.length [(r6,r8,())] ≤ maxCount then (kn e2 (e5 ++ [(r6,r8,())])) else none else bif (ieq e4 4) then Option.bind (g76 N 3 e4 (IntKind.wrap .i64 (Int.tdiv e2 e4))) fun r9=>if List.length e5 + List.length [(2,r9,())] ≤ maxCount then (kn e2 (e5 ++ [(2,r9,())])) else none else bif (decide ((4:Int) < e4)) then Option.bind (g76 N (IntKind.wrap .i64 (e4 - 1)) e4 (IntKind.wrap .i64 (Int.tdiv e2 e4))) fun r10=>Option.bind (g76 N 5 e4 (IntKind.wrap .i64 (Int.tdiv e2 e4))) fun r11=>if List.length e5 + List.length [(2,r10,()),((IntKind.wrap .i64 (Int.tdiv e4 4)),r11,())] ≤ maxCount then (kn e2 (e5 ++ [(2,r10,()),((IntKind.wrap .i64 (Int.tdiv e4 4)),r11,())])) else none else (kn e2 e5)) y0.2.1 0 o1 y0 1 o1192
def g73R58 (N:Nat):RSh:={ nt:=64,sv:=[.a (.ref 1 0 []),.a (.ref 3 0 [])],so:=[.box (.d tIt) (.a (.d tIt)),.box (.d (.lst tQ2)) (.a (.sl tQ2 1192 0)),.vec tQ2],px:=[tQ2],exits:=[],brun:=fun K rec v y a=>g73R58B N (fun o1 o1192=>rec (o1,(),o1192,())) y.1 y.2.2.1 a.1 }
def g73 (N:Nat) (a0:Int):Option (List TQ1) :=
 Option.bind (g56x N a0) fun r1=>Option.bind (g71x N (.pair tIt (tyO [.box (.d tIt) (.a (.d tIt)),.box (.d (.lst tQ2)) (.a (.sl tQ2 1192 0)),.vec tQ2])) ⟨(g73R58 N).told.run [(.ref 1 0 []),(.ref 3 0 [])],.unit,(g73R58 N).told.f [(.ref 1 0 []),(.ref 3 0 [])]⟩ (0,(a0,(),([]:List TQ1),())) r1.2.2.1) fun r12=>if r12.2.1.1.2.1 = 0 then some (asT (List TQ1) r12.2.1.1.2.2.2.2.1) else none
def g73Ti (N:Nat):List (Nat×Told):=[(3754,g73L3754T N)]
def g73Rl (N:Nat):List (Nat×RSh):=[(58,g73R58 N)]
def g73An (N:Nat):Ann:=mkAn N [(3754,([1,3,4,5,12,13],[1,3,4,5,1192,400000,400001]),([1,3,4,5],[1,3,4,5,1192,400000,400001])),(58,([1,3],[1,3,1192]),([],[]))] [(12,[6,5]),(14,[6,5]),(16,[6,5])] [] (g73Ti N) (g73Rl N) 64
theorem g73L3754_ok (N:Nat):ToldOk (((G71xI2 N).withOwn []).withX [9]) (g73An N).inR (bdy Try.f73) 3754 (g73L3754T N):=⟨⟨loopBody (codeAt (bdy Try.f73) 64 3754),by kernel_rfl,fun K' rec a=>by kernel_rfl⟩,fun a=>by kernel_rfl⟩
theorem g73R58_ok (N:Nat):RShOk (((G71xI2 N).withOwn []).withX [9]) (g73An N) (bdy Try.f73) 58 (g73R58 N):=⟨rfl,(rangeAt (codeAt (bdy Try.f73) 64 58)).1,(rangeAt (codeAt (bdy Try.f73) 64 58)).2.1,(rangeAt (codeAt (bdy Try.f73) 64 58)).2.2.1,(rangeAt (codeAt (bdy Try.f73) 64 58)).2.2.2,by kernel_rfl,fun K v y a=>by kernel_rfl⟩
def G73 (N:Nat):Cfg:=(G71xI2 N).add 73 (Spec.one [.d tIt] (.lst tQ2) (fun a=>g73 N a.1))
theorem G73_ok (N:Nat):CfgOk Try.prog (G73 N):=add_one [.d tIt] (.lst tQ2) (fun a=>g73 N a.1) [] [9] (g73An N) (G71xI2_ok N) Try.func73 (by kernel_rfl) (by kernel_rfl) (lokF_of (told_ok [] rfl rfl trivial) (told_ok (g73Ti N) rfl rfl ⟨g73L3754_ok N,trivial⟩) (toldR_ok (g73Rl N) rfl ⟨⟨g73R58_ok N,noF rfl (fun _ _ _ _=>rfl) rfl⟩,trivial⟩)) (.inr rfl) fun a=>by kernel_rfl
def g75 (N:Nat) (a0:(Int)×TQ3) (a1:(Int)×TQ3):Option (Int) :=
 some (IntKind.wrap .i64 (a1.1 - a0.1))
def g75An (N:Nat):Ann:=mkAn N [] [] [] [] [] 10
def G75 (N:Nat):Cfg:=(G73 N).add 75 (Spec.one [.d tQ2,.d tQ2] tIt (fun a=>g75 N a.1 a.2.1))
theorem G75_ok (N:Nat):CfgOk Try.prog (G75 N):=add_one [.d tQ2,.d tQ2] tIt (fun a=>g75 N a.1 a.2.1) [] [] (g75An N) (G73_ok N) Try.func75 (by kernel_rfl) (by kernel_rfl) lokE (.inr rfl) fun a=>by kernel_rfl
def Gh75 (N:Nat):Cfg:=(G75 N).hand 75 (.pair tQ2 (.pair tQ2 .unit)) tIt
theorem Gh75_ok (N:Nat):CfgOk Try.prog (Gh75 N):=hand_ok (G75_ok N) ⟨Try.f75,Try.func75,by kernel_rfl,by kernel_rfl⟩
def g89 (N:Nat) (a0:Int):Option (Int) :=
 bif (decide ((4294967296:Int) ≤ a0)) then bif (decide ((65536:Int) ≤ (Int.fdiv a0 (2 ^ 32)))) then bif (decide ((256:Int) ≤ (Int.fdiv (Int.fdiv a0 (2 ^ 32)) (2 ^ 16)))) then if idx (IntKind.wrap .u8 (Int.fdiv (Int.fdiv (Int.fdiv a0 (2 ^ 32)) (2 ^ 16)) (2 ^ 8))) (List.length lit1) then some (IntKind.wrap .i64 ((IntKind.wrap .i64 ((IntKind.wrap .i64 (32 + 16)) + 8)) + (IntKind.wrap .i64 ((List.getD lit1 (Int.toNat (IntKind.wrap .u8 (Int.fdiv (Int.fdiv (Int.fdiv a0 (2 ^ 32)) (2 ^ 16)) (2 ^ 8)))) 0).toNat:Int)))) else none else if idx (IntKind.wrap .u8 (Int.fdiv (Int.fdiv a0 (2 ^ 32)) (2 ^ 16))) (List.length lit1) then some (IntKind.wrap .i64 ((IntKind.wrap .i64 (32 + 16)) + (IntKind.wrap .i64 ((List.getD lit1 (Int.toNat (IntKind.wrap .u8 (Int.fdiv (Int.fdiv a0 (2 ^ 32)) (2 ^ 16)))) 0).toNat:Int)))) else none else bif (decide ((256:Int) ≤ (Int.fdiv a0 (2 ^ 32)))) then if idx (IntKind.wrap .u8 (Int.fdiv (Int.fdiv a0 (2 ^ 32)) (2 ^ 8))) (List.length lit1) then some (IntKind.wrap .i64 ((IntKind.wrap .i64 (32 + 8)) + (IntKind.wrap .i64 ((List.getD lit1 (Int.toNat (IntKind.wrap .u8 (Int.fdiv (Int.fdiv a0 (2 ^ 32)) (2 ^ 8)))) 0).toNat:Int)))) else none else if idx (IntKind.wrap .u8 (Int.fdiv a0 (2 ^ 32))) (List.length lit1) then some (IntKind.wrap .i64 (32 + (IntKind.wrap .i64 ((List.getD lit1 (Int.toNat (IntKind.wrap .u8 (Int.fdiv a0 (2 ^ 32)))) 0).toNat:Int)))) else none else bif (decide ((65536:Int) ≤ a0)) then bif (decide ((256:Int) ≤ (Int.fdiv a0 (2 ^ 16)))) then if idx (IntKind.wrap .u8 (Int.fdiv (Int.fdiv a0 (2 ^ 16)) (2 ^ 8))) (List.length lit1) then some (IntKind.wrap .i64 ((IntKind.wrap .i64 ((IntKind.wrap .i64 (0 + 16)) + 8)) + (IntKind.wrap .i64 ((List.getD lit1 (Int.toNat (IntKind.wrap .u8 (Int.fdiv (Int.fdiv a0 (2 ^ 16)) (2 ^ 8)))) 0).toNat:Int)))) else none else if idx (IntKind.wrap .u8 (Int.fdiv a0 (2 ^ 16))) (List.length lit1) then some (IntKind.wrap .i64 ((IntKind.wrap .i64 (0 + 16)) + (IntKind.wrap .i64 ((List.getD lit1 (Int.toNat (IntKind.wrap .u8 (Int.fdiv a0 (2 ^ 16)))) 0).toNat:Int)))) else none else bif (decide ((256:Int) ≤ a0)) then if idx (IntKind.wrap .u8 (Int.fdiv a0 (2 ^ 8))) (List.length lit1) then some (IntKind.wrap .i64 ((IntKind.wrap .i64 (0 + 8)) + (IntKind.wrap .i64 ((List.getD lit1 (Int.toNat (IntKind.wrap .u8 (Int.fdiv a0 (2 ^ 8)))) 0).toNat:Int)))) else none else if idx (IntKind.wrap .u8 a0) (List.length lit1) then some (IntKind.wrap .i64 (0 + (IntKind.wrap .i64 ((List.getD lit1 (Int.toNat (IntKind.wrap .u8 a0)) 0).toNat:Int)))) else none
def g89An (N:Nat):Ann:=mkAn N [] [] [] [] [] 25
def G89 (N:Nat):Cfg:=(Gh75 N).add 89 (Spec.one [.d (.int .u64)] tIt (fun a=>g89 N a.1))
theorem G89_ok (N:Nat):CfgOk Try.prog (G89 N):=add_one [.d (.int .u64)] tIt (fun a=>g89 N a.1) [] [] (g89An N) (Gh75_ok N) Try.func89 (by kernel_rfl) (by kernel_rfl) lokE (.inr rfl) fun a=>by kernel_rfl
def g79 (N:Nat) (a0:Int):Option (Int) :=
 Option.bind (g89 N a0) fun r1=>some r1
def g79An (N:Nat):Ann:=mkAn N [] [] [] [] [] 8
def G79 (N:Nat):Cfg:=(G89 N).add 79 (Spec.one [.d (.int .u64)] tIt (fun a=>g79 N a.1))
theorem G79_ok (N:Nat):CfgOk Try.prog (G79 N):=add_one [.d (.int .u64)] tIt (fun a=>g79 N a.1) [] [] (g79An N) (G89_ok N) Try.func79 (by kernel_rfl) (by kernel_rfl) lokE (.inr rfl) fun a=>by kernel_rfl
def g80xL402B (N:Nat) {C:Type} (rec:(Nat)→Int→Int→(TQ4→Option (Int))→Int→Int→(List ((Int)×Nat))→(List (Option (List TQ1)))→Option C) (k0:(Nat)→Int→Int→(TQ4→Option (Int))→Int→(List ((Int)×Nat))→(List (Option (List TQ1)))→Option C) (t0:Nat) (t1 t2:Int) (t3:TQ4→Option (Int)) (t8 t9:Int) (o100001i:List ((Int)×Nat)) (o100001r:List (Option (List TQ1))):Option C :=
 bif (decide ((t1:Int) < t9)) then Option.bind (rowOf o100001r t0) fun r1=>if idx t9 (List.length r1) then Option.bind (rowOf o100001r t0) fun r2=>if (Int.toNat t9) < List.length r2 then Option.bind (rowOf o100001r t0) fun r3=>if idx (IntKind.wrap .i64 (t9 - 1)) (List.length r3) then Option.bind (rowOf o100001r t0) fun r4=>if (Int.toNat (IntKind.wrap .i64 (t9 - 1))) < List.length r4 then Option.bind (t3 ((List.getD r2 (Int.toNat t9) (0,0,())),(List.getD r4 (Int.toNat (IntKind.wrap .i64 (t9 - 1))) (0,0,())),())) fun r5=>bif (decide ((r5:Int) < 0)) then Option.bind (rowOf o100001r t0) fun r6=>if idx (IntKind.wrap .i64 (t9 - 1)) (List.length r6) then Option.bind (rowOf o100001r t0) fun r7=>if (Int.toNat (IntKind.wrap .i64 (t9 - 1))) < List.length r7 then Option.bind (rowOf o100001r t0) fun r8=>if idx t9 (List.length r8) then Option.bind (rowOf o100001r t0) fun r9=>if (Int.toNat t9) < List.length r9 then Option.bind (rowOf o100001r t0) fun r10=>if idx t9 (List.length r10) then Option.bind (rowOf o100001r t0) fun r11=>if (Int.toNat t9) < List.length r11 then Option.bind (rowOf (List.set o100001r t0 (some (List.set r11 (Int.toNat t9) (List.getD r7 (Int.toNat (IntKind.wrap .i64 (t9 - 1))) (0,0,()))))) t0) fun r12=>if idx (IntKind.wrap .i64 (t9 - 1)) (List.length r12) then Option.bind (rowOf (List.set o100001r t0 (some (List.set r11 (Int.toNat t9) (List.getD r7 (Int.toNat (IntKind.wrap .i64 (t9 - 1))) (0,0,()))))) t0) fun r13=>if (Int.toNat (IntKind.wrap .i64 (t9 - 1))) < List.length r13 then (rec t0 t1 t2 t3 t8 (IntKind.wrap .i64 (t9 - 1)) o100001i (List.set (List.set o100001r t0 (some (List.set r11 (Int.toNat t9) (List.getD r7 (Int.toNat (IntKind.wrap .i64 (t9 - 1))) (0,0,()))))) t0 (some (List.set r13 (Int.toNat (IntKind.wrap .i64 (t9 - 1))) (List.getD r9 (Int.toNat t9) (0,0,())))))) else none else none else none else none else none else none else none else none else (k0 t0 t1 t2 t3 t8 o100001i o100001r) else none else none else none else none else (k0 t0 t1 t2 t3 t8 o100001i o100001r)
abbrev g80xL402V:List Sh1:=[.a (.rowi tQ2 100001 0),.a (.d tIt),.a (.d tIt),.a (.c (.pair tQ2 (.pair tQ2 .unit)) tIt),.a (.d tIt),.a (.d tIt)]
abbrev g80xL402O:List OSh:=[.gone,.mgrid tIt tQ2]
def g80xL402 (N:Nat) {C:Type} (k0:(Nat)→Int→Int→(TQ4→Option (Int))→Int→(List ((Int)×Nat))→(List (Option (List TQ1)))→Option C) (t0:Nat) (t1 t2:Int) (t3:TQ4→Option (Int)) (t8 t9:Int) (o100001i:List ((Int)×Nat)) (o100001r:List (Option (List TQ1))):Option C :=
 itP (α:=Prod1 g80xL402V×ProdO g80xL402O) (fun rec a=>g80xL402B N (fun t0 t1 t2 t3 t8 t9 o100001i o100001r=>rec ((t0,t1,t2,t3,t8,t9,()),((),(o100001i,o100001r),()))) k0 a.1.1 a.1.2.1 a.1.2.2.1 a.1.2.2.2.1 a.1.2.2.2.2.1 a.1.2.2.2.2.2.1 a.2.2.1.1 a.2.2.1.2) N ((t0,t1,t2,t3,t8,t9,()),((),(o100001i,o100001r),()))
def g80xL402T (N:Nat):Told:={ nt:=53,sv:=g80xL402V,so:=g80xL402O,run:=fun K' rec a=>g80xL402B N (fun t0 t1 t2 t3 t8 t9 o100001i o100001r=>rec ((t0,t1,t2,t3,t8,t9,()),((),(o100001i,o100001r),()))) (fun et0 et1 et2 et3 et8 eo100001i eo100001r=>K' (.exit 2) (build 53 [0,1,2,3,8] [100000,100001] [(.row tQ2 100001 0 (et0 + 1)),(.dat tIt et1),(.dat tIt et2),(.clo (.pair tQ2 (.pair tQ2 .unit)) tIt et3),(.dat tIt et8)] [(some .gone),(some (.grid tQ2 (.keys tIt eo100001i) eo100001r))])) a.1.1 a.1.2.1 a.1.2.2.1 a.1.2.2.2.1 a.1.2.2.2.2.1 a.1.2.2.2.2.2.1 a.2.2.1.1 a.2.2.1.2 }
def g80xL6B (N:Nat) {C:Type} (rec:(Nat)→Int→Int→(TQ4→Option (Int))→Int→(List ((Int)×Nat))→(List (Option (List TQ1)))→Option C) (k0:(List ((Int)×Nat))→(List (Option (List TQ1)))→Option C) (t0:Nat) (t1 t2:Int) (t3:TQ4→Option (Int)) (t8:Int) (o100001i:List ((Int)×Nat)) (o100001r:List (Option (List TQ1))):Option C :=
 bif (decide ((t8:Int) < t2)) then g80xL402 N (fun e14 e15 e16 e17 e18 e19 e20=>(rec e14 e15 e16 e17 (IntKind.wrap .i64 (e18 + 1)) e19 e20)) t0 t1 t2 t3 t8 t8 o100001i o100001r else (k0 o100001i o100001r)
abbrev g80xL6V:List Sh1:=[.a (.rowi tQ2 100001 0),.a (.d tIt),.a (.d tIt),.a (.c (.pair tQ2 (.pair tQ2 .unit)) tIt),.a (.d tIt)]
abbrev g80xL6O:List OSh:=[.gone,.mgrid tIt tQ2]
def g80xL6 (N:Nat) {C:Type} (k0:(List ((Int)×Nat))→(List (Option (List TQ1)))→Option C) (t0:Nat) (t1 t2:Int) (t3:TQ4→Option (Int)) (t8:Int) (o100001i:List ((Int)×Nat)) (o100001r:List (Option (List TQ1))):Option C :=
 itP (α:=Prod1 g80xL6V×ProdO g80xL6O) (fun rec a=>g80xL6B N (fun t0 t1 t2 t3 t8 o100001i o100001r=>rec ((t0,t1,t2,t3,t8,()),((),(o100001i,o100001r),()))) k0 a.1.1 a.1.2.1 a.1.2.2.1 a.1.2.2.2.1 a.1.2.2.2.2.1 a.2.2.1.1 a.2.2.1.2) N ((t0,t1,t2,t3,t8,()),((),(o100001i,o100001r),()))
def g80xL6T (N:Nat):Told:={ nt:=53,sv:=g80xL6V,so:=g80xL6O,run:=fun K' rec a=>g80xL6B N (fun t0 t1 t2 t3 t8 o100001i o100001r=>rec ((t0,t1,t2,t3,t8,()),((),(o100001i,o100001r),()))) (fun eo100001i eo100001r=>K' (.exit 0) (build 53 [] [100000,100001] [] [(some .gone),(some (.grid tQ2 (.keys tIt eo100001i) eo100001r))])) a.1.1 a.1.2.1 a.1.2.2.1 a.1.2.2.2.1 a.1.2.2.2.2.1 a.2.2.1.1 a.2.2.1.2 }
@[reducible] def g80xS:XSh:={ sa:=[.a (.rowi tQ2 100001 0),.a (.d tIt),.a (.d tIt),.a (.c (.pair tQ2 (.pair tQ2 .unit)) tIt)],so:=[.gone,.mgrid tIt tQ2],rs:=[],many:=true,os:=[(0,.gone),(0,.mgrid tIt tQ2)],xs:=[] }
def g80x (N a0:Nat) (a1 a2:Int) (a3:TQ4→Option (Int)) (p1i:List ((Int)×Nat)) (p1r:List (Option (List TQ1))):Option (g80xS).R :=
 g80xL6 N (fun e21 e22=>some ((()),((),(e21,e22),()),(()))) a0 a1 a2 a3 (IntKind.wrap .i64 (a1 + 1)) p1i p1r
def g80xTl (N:Nat):List (Nat×Told):=[(6,g80xL6T N),(402,g80xL402T N)]
def g80xAn (N:Nat):Ann:=mkAn N [(6,([0,1,2,3,8],[100000,100001]),([],[100000,100001])),(402,([0,1,2,3,8,9],[100000,100001]),([0,1,2,3,8],[100000,100001]))] [] (g80xTl N) [] [] 53
theorem g80xL6_ok (N:Nat):ToldOk (((G79 N).withOwn []).withX []) (g80xAn N) (bdy Try.f80) 6 (g80xL6T N):=⟨⟨loopBody (codeAt (bdy Try.f80) 64 6),by kernel_rfl,fun K' rec a=>by kernel_rfl⟩,fun a=>by kernel_rfl⟩
theorem g80xL402_ok (N:Nat):ToldOk (((G79 N).withOwn []).withX []) (g80xAn N) (bdy Try.f80) 402 (g80xL402T N):=⟨⟨loopBody (codeAt (bdy Try.f80) 64 402),by kernel_rfl,fun K' rec a=>by kernel_rfl⟩,fun a=>by kernel_rfl⟩
def G80x (N:Nat):Cfg:=(G79 N).addX 80 (SpecX.of (g80xS) (fun a=>g80x N a.1.1 a.1.2.1 a.1.2.2.1 a.1.2.2.2.1 a.2.2.1.1 a.2.2.1.2))
theorem G80x_ok (N:Nat):CfgOk Try.prog (G80x N):=add_x (g80xS) (fun a=>g80x N a.1.1 a.1.2.1 a.1.2.2.1 a.1.2.2.2.1 a.2.2.1.1 a.2.2.1.2) [] [] [] (g80xAn N) (G79_ok N) Try.func80 (by kernel_rfl) (by kernel_rfl) (lokT (told_ok (g80xTl N) rfl rfl ⟨g80xL6_ok N,g80xL402_ok N,trivial⟩)) (.inr rfl) (fun h=>by first | rfl | cases h) fun a=>by kernel_rfl
def g78xL14B (N:Nat) {C:Type} (rec:(Nat)→Int→Int→Int→(TQ4→Option (Int))→Bool→Bool→(List ((Int)×Nat))→(List (Option (List TQ1)))→Option C) (k0:(List ((Int)×Nat))→(List (Option (List TQ1)))→Option C) (t0:Nat) (t1 t2 t3:Int) (t4:TQ4→Option (Int)) (t10 t11:Bool) (o100001i:List ((Int)×Nat)) (o100001r:List (Option (List TQ1))):Option C :=
 bif (decide (((IntKind.wrap .i64 (t2 - t1)):Int) ≤ 12)) then Option.bind (g80x N t0 t1 t2 t4 o100001i o100001r) fun r1=>(k0 r1.2.1.2.1.1 r1.2.1.2.1.2) else bif (ieq t3 0) then none else bif (!t10) then none else none
abbrev g78xL14V:List Sh1:=[.a (.rowi tQ2 100001 0),.a (.d tIt),.a (.d tIt),.a (.d tIt),.a (.c (.pair tQ2 (.pair tQ2 .unit)) tIt),.a (.d .bool),.a (.d .bool)]
abbrev g78xL14O:List OSh:=[.gone,.mgrid tIt tQ2]
def g78xL14 (N:Nat) {C:Type} (k0:(List ((Int)×Nat))→(List (Option (List TQ1)))→Option C) (t0:Nat) (t1 t2 t3:Int) (t4:TQ4→Option (Int)) (t10 t11:Bool) (o100001i:List ((Int)×Nat)) (o100001r:List (Option (List TQ1))):Option C :=
 itP (α:=Prod1 g78xL14V×ProdO g78xL14O) (fun rec a=>g78xL14B N (fun t0 t1 t2 t3 t4 t10 t11 o100001i o100001r=>rec ((t0,t1,t2,t3,t4,t10,t11,()),((),(o100001i,o100001r),()))) k0 a.1.1 a.1.2.1 a.1.2.2.1 a.1.2.2.2.1 a.1.2.2.2.2.1 a.1.2.2.2.2.2.1 a.1.2.2.2.2.2.2.1 a.2.2.1.1 a.2.2.1.2) N ((t0,t1,t2,t3,t4,t10,t11,()),((),(o100001i,o100001r),()))
def g78xL14T (N:Nat):Told:={ nt:=148,sv:=g78xL14V,so:=g78xL14O,run:=fun K' rec a=>g78xL14B N (fun t0 t1 t2 t3 t4 t10 t11 o100001i o100001r=>rec ((t0,t1,t2,t3,t4,t10,t11,()),((),(o100001i,o100001r),()))) (fun eo100001i eo100001r=>K' .ret (build 148 [] [100000,100001] [] [(some .gone),(some (.grid tQ2 (.keys tIt eo100001i) eo100001r))])) a.1.1 a.1.2.1 a.1.2.2.1 a.1.2.2.2.1 a.1.2.2.2.2.1 a.1.2.2.2.2.2.1 a.1.2.2.2.2.2.2.1 a.2.2.1.1 a.2.2.1.2 }
@[reducible] def g78xS:XSh:={ sa:=[.a (.rowi tQ2 100001 0),.a (.d tIt),.a (.d tIt),.a (.d tIt),.a (.c (.pair tQ2 (.pair tQ2 .unit)) tIt)],so:=[.gone,.mgrid tIt tQ2],rs:=[],many:=true,os:=[(0,.gone),(0,.mgrid tIt tQ2)],xs:=[] }
def g78x (N a0:Nat) (a1 a2 a3:Int) (a4:TQ4→Option (Int)) (p1i:List ((Int)×Nat)) (p1r:List (Option (List TQ1))):Option (g78xS).R :=
 g78xL14 N (fun e2 e3=>some ((()),((),(e2,e3),()),(()))) a0 a1 a2 a3 a4 true true p1i p1r
def g78xTl (N:Nat):List (Nat×Told):=[(14,g78xL14T N)]
def g78xAn (N:Nat):Ann:=mkAn N [(14,([0,1,2,3,4,10,11],[100000,100001]),([],[100000,100001]))] [] (g78xTl N) [] [] 148
theorem g78xL14_ok (N:Nat):ToldOk (((G80x N).withOwn []).withX [30,37,44,52]) (g78xAn N) (bdy Try.f78) 14 (g78xL14T N):=⟨⟨loopBody (codeAt (bdy Try.f78) 64 14),by kernel_rfl,fun K' rec a=>by kernel_rfl⟩,fun a=>by kernel_rfl⟩
def G78x (N:Nat):Cfg:=(G80x N).addX 78 (SpecX.of (g78xS) (fun a=>g78x N a.1.1 a.1.2.1 a.1.2.2.1 a.1.2.2.2.1 a.1.2.2.2.2.1 a.2.2.1.1 a.2.2.1.2))
theorem G78x_ok (N:Nat):CfgOk Try.prog (G78x N):=add_x (g78xS) (fun a=>g78x N a.1.1 a.1.2.1 a.1.2.2.1 a.1.2.2.2.1 a.1.2.2.2.2.1 a.2.2.1.1 a.2.2.1.2) [] [30,37,44,52] [] (g78xAn N) (G80x_ok N) Try.func78 (by kernel_rfl) (by kernel_rfl) (lokT (told_ok (g78xTl N) rfl rfl ⟨g78xL14_ok N,trivial⟩)) (.inr rfl) (fun h=>by first | rfl | cases h) fun a=>by kernel_rfl
@[reducible] def g74xS:XSh:={ sa:=[.a (.rowi tQ2 100001 0),.a (.c (.pair tQ2 (.pair tQ2 .unit)) tIt)],so:=[.gone,.mgrid tIt tQ2],rs:=[],many:=true,os:=[(0,.gone),(0,.mgrid tIt tQ2)],xs:=[] }
def g74x (N a0:Nat) (a1:TQ4→Option (Int)) (p1i:List ((Int)×Nat)) (p1r:List (Option (List TQ1))):Option (g74xS).R :=
 Option.bind (rowOf p1r a0) fun r1=>Option.bind (g79 N (IntKind.wrap .u64 ((List.length r1:Nat):Int))) fun r2=>Option.bind (g78x N a0 0 ((List.length r1:Nat):Int) r2 a1 p1i p1r) fun r3=>some ((()),((),(r3.2.1.2.1.1,r3.2.1.2.1.2),()),(()))
def g74xAn (N:Nat):Ann:=mkAn N [] [] [] [] [] 14
def G74x (N:Nat):Cfg:=(G78x N).addX 74 (SpecX.of (g74xS) (fun a=>g74x N a.1.1 a.1.2.1 a.2.2.1.1 a.2.2.1.2))
theorem G74x_ok (N:Nat):CfgOk Try.prog (G74x N):=add_x (g74xS) (fun a=>g74x N a.1.1 a.1.2.1 a.2.2.1.1 a.2.2.1.2) [] [13] [] (g74xAn N) (G78x_ok N) Try.func74 (by kernel_rfl) (by kernel_rfl) lokE (.inr rfl) (fun h=>by first | rfl | cases h) fun a=>by kernel_rfl
theorem g71xI3L6_ok (N:Nat):ToldOk (((G74x N).withOwn []).withX [34]) (g71xAn N (.pair tIt (tyO [.box (.d tIt) (.a (.d tIt)),.box .leaf (.a (.row tQ2 15 0 0)),.box (.d tIt) (.a (.d tIt)),.box (.d tQ2) (.a (.d tQ2)),.mgrid tIt tQ2]))) (bdy Try.f71) 6 (g71xL6T N (.pair tIt (tyO [.box (.d tIt) (.a (.d tIt)),.box .leaf (.a (.row tQ2 15 0 0)),.box (.d tIt) (.a (.d tIt)),.box (.d tQ2) (.a (.d tQ2)),.mgrid tIt tQ2]))):=⟨⟨loopBody (codeAt (bdy Try.f71) 64 6),by kernel_rfl,fun K' rec a=>by kernel_rfl⟩,fun a=>by kernel_rfl⟩
theorem g71xI3L1612_ok (N:Nat):ToldOk (((G74x N).withOwn []).withX [34]) (g71xAn N (.pair tIt (tyO [.box (.d tIt) (.a (.d tIt)),.box .leaf (.a (.row tQ2 15 0 0)),.box (.d tIt) (.a (.d tIt)),.box (.d tQ2) (.a (.d tQ2)),.mgrid tIt tQ2]))) (bdy Try.f71) 1612 (g71xL1612T N (.pair tIt (tyO [.box (.d tIt) (.a (.d tIt)),.box .leaf (.a (.row tQ2 15 0 0)),.box (.d tIt) (.a (.d tIt)),.box (.d tQ2) (.a (.d tQ2)),.mgrid tIt tQ2]))):=⟨⟨loopBody (codeAt (bdy Try.f71) 64 1612),by kernel_rfl,fun K' rec a=>by kernel_rfl⟩,fun a=>by kernel_rfl⟩
def G71xI3 (N:Nat):Cfg:=(G74x N).addX 71 (SpecX.of (g71xS (.pair tIt (tyO [.box (.d tIt) (.a (.d tIt)),.box .leaf (.a (.row tQ2 15 0 0)),.box (.d tIt) (.a (.d tIt)),.box (.d tQ2) (.a (.d tQ2)),.mgrid tIt tQ2]))) (fun a=>g71x N (.pair tIt (tyO [.box (.d tIt) (.a (.d tIt)),.box .leaf (.a (.row tQ2 15 0 0)),.box (.d tIt) (.a (.d tIt)),.box (.d tQ2) (.a (.d tQ2)),.mgrid tIt tQ2])) a.2.1.1 a.2.1.2 a.2.2.1))
theorem G71xI3_ok (N:Nat):CfgOk Try.prog (G71xI3 N):=add_x (g71xS (.pair tIt (tyO [.box (.d tIt) (.a (.d tIt)),.box .leaf (.a (.row tQ2 15 0 0)),.box (.d tIt) (.a (.d tIt)),.box (.d tQ2) (.a (.d tQ2)),.mgrid tIt tQ2]))) (fun a=>g71x N (.pair tIt (tyO [.box (.d tIt) (.a (.d tIt)),.box .leaf (.a (.row tQ2 15 0 0)),.box (.d tIt) (.a (.d tIt)),.box (.d tQ2) (.a (.d tQ2)),.mgrid tIt tQ2])) a.2.1.1 a.2.1.2 a.2.2.1) [] [34] [] (g71xAn N (.pair tIt (tyO [.box (.d tIt) (.a (.d tIt)),.box .leaf (.a (.row tQ2 15 0 0)),.box (.d tIt) (.a (.d tIt)),.box (.d tQ2) (.a (.d tQ2)),.mgrid tIt tQ2]))) (G74x_ok N) Try.func71 (by kernel_rfl) (by kernel_rfl) (lokF_of (told_ok (g71xTl N (.pair tIt (tyO [.box (.d tIt) (.a (.d tIt)),.box .leaf (.a (.row tQ2 15 0 0)),.box (.d tIt) (.a (.d tIt)),.box (.d tQ2) (.a (.d tQ2)),.mgrid tIt tQ2]))) rfl rfl ⟨g71xI3L6_ok N,g71xI3L1612_ok N,trivial⟩) (told_ok [] rfl rfl trivial) (toldR_ok [] rfl trivial)) (.inr rfl) (fun h=>by first | rfl | cases h) fun a=>by kernel_rfl
def g65L2005418B (N:Nat) {C:Type} (rec:Int→Int→Int→Int→Int→TQ1→TQ1→(List ((Int)×Nat))→(List (Option (List TQ1)))→(List TQ1)→Int→Int→Option C) (k0:Int→Int→Int→TQ1→TQ1→(List ((Int)×Nat))→(List (Option (List TQ1)))→(List TQ1)→Int→Int→Option C) (t8 t28:Int) (t29 o1 o4:Int) (o6:(Int)×TQ3) (o7:(Int)×TQ3) (o15i:List ((Int)×Nat)) (o15r:List (Option (List TQ1))) (o400004:List TQ1) (o400005 o400006:Int):Option C :=
 bif (decide ((t29:Int) < t28)) then (rec (IntKind.wrap .i64 (t8 * o7.1)) t28 (IntKind.wrap .i64 (t29 + 1)) o1 o4 o6 o7 o15i o15r o400004 o400005 o400006) else (k0 t8 o1 o4 o6 o7 o15i o15r o400004 o400005 o400006)
abbrev g65L2005418V:List Sh1:=[.a (.ref 1 0 []),.a (.ref 3 0 []),.a (.ref 4 0 []),.a (.ref 6 0 []),.a (.ref 7 0 []),.a (.d tIt),.a (.d tIt),.a (.d tIt)]
abbrev g65L2005418O:List OSh:=[.box (.d tIt) (.a (.d tIt)),.box .leaf (.a (.row tQ2 15 0 0)),.box (.d tIt) (.a (.d tIt)),.box (.d tQ2) (.a (.d tQ2)),.box (.d tQ2) (.a (.d tQ2)),.mgrid tIt tQ2,.sav 0 (.a (.ref 1 0 [])),.sav 1 (.a (.ref 3 0 [])),.sav 2 (.a (.ref 4 0 [])),.sav 3 (.a (.ref 6 0 [])),.sav 4 (.a (.d (.lst tQ2))),.sav 5 (.a (.d tIt)),.sav 6 (.a (.d tIt))]
def g65L2005418 (N:Nat) {C:Type} (k0:Int→Int→Int→TQ1→TQ1→(List ((Int)×Nat))→(List (Option (List TQ1)))→(List TQ1)→Int→Int→Option C) (t8 t28:Int) (t29 o1 o4:Int) (o6:(Int)×TQ3) (o7:(Int)×TQ3) (o15i:List ((Int)×Nat)) (o15r:List (Option (List TQ1))) (o400004:List TQ1) (o400005 o400006:Int):Option C :=
 itP (α:=Prod1 g65L2005418V×ProdO g65L2005418O) (fun rec a=>g65L2005418B N (fun t8 t28 t29 o1 o4 o6 o7 o15i o15r o400004 o400005 o400006=>rec (((),(),(),(),(),t8,t28,t29,()),(o1,(),o4,o6,o7,(o15i,o15r),(),(),(),(),o400004,o400005,o400006,()))) k0 a.1.2.2.2.2.2.1 a.1.2.2.2.2.2.2.1 a.1.2.2.2.2.2.2.2.1 a.2.1 a.2.2.2.1 a.2.2.2.2.1 a.2.2.2.2.2.1 a.2.2.2.2.2.2.1.1 a.2.2.2.2.2.2.1.2 a.2.2.2.2.2.2.2.2.2.2.2.1 a.2.2.2.2.2.2.2.2.2.2.2.2.1 a.2.2.2.2.2.2.2.2.2.2.2.2.2.1) N (((),(),(),(),(),t8,t28,t29,()),(o1,(),o4,o6,o7,(o15i,o15r),(),(),(),(),o400004,o400005,o400006,()))
def g65L2005418T (N:Nat):Told:={ nt:=107,sv:=g65L2005418V,so:=g65L2005418O,run:=fun K' rec a=>g65L2005418B N (fun t8 t28 t29 o1 o4 o6 o7 o15i o15r o400004 o400005 o400006=>rec (((),(),(),(),(),t8,t28,t29,()),(o1,(),o4,o6,o7,(o15i,o15r),(),(),(),(),o400004,o400005,o400006,()))) (fun et8 eo1 eo4 eo6 eo7 eo15i eo15r eo400004 eo400005 eo400006=>K' (.exit 4) (build 107 [1,3,4,6,7,8] [1,3,4,6,7,15,400000,400001,400002,400003,400004,400005,400006] [(.ref 1 0 []),(.ref 3 0 []),(.ref 4 0 []),(.ref 6 0 []),(.ref 7 0 []),(.dat tIt et8)] [(some (.box (.d tIt) (.dat tIt eo1))),(some (.box .leaf (.row tQ2 15 0 0))),(some (.box (.d tIt) (.dat tIt eo4))),(some (.box (.d tQ2) (.dat tQ2 eo6))),(some (.box (.d tQ2) (.dat tQ2 eo7))),(some (.grid tQ2 (.keys tIt eo15i) eo15r)),(some (.sav 0 (.ref 1 0 []))),(some (.sav 1 (.ref 3 0 []))),(some (.sav 2 (.ref 4 0 []))),(some (.sav 3 (.ref 6 0 []))),(some (.sav 4 (.dat (.lst tQ2) eo400004))),(some (.sav 5 (.dat tIt eo400005))),(some (.sav 6 (.dat tIt eo400006)))])) a.1.2.2.2.2.2.1 a.1.2.2.2.2.2.2.1 a.1.2.2.2.2.2.2.2.1 a.2.1 a.2.2.2.1 a.2.2.2.2.1 a.2.2.2.2.2.1 a.2.2.2.2.2.2.1.1 a.2.2.2.2.2.2.1.2 a.2.2.2.2.2.2.2.2.2.2.2.1 a.2.2.2.2.2.2.2.2.2.2.2.2.1 a.2.2.2.2.2.2.2.2.2.2.2.2.2.1 }
def g65R31334B (N:Nat) {C:Type} (kn:Int→Int→TQ1→(List ((Int)×Nat))→(List (Option (List TQ1)))→Option C) (t17:List TQ1) (t18 t19:Int) (o1 o4:Int) (o6:(Int)×TQ3) (o15i:List ((Int)×Nat)) (o15r:List (Option (List TQ1))) (y0:(Int)×TQ3):Option C :=
 g65L2005418 N (fun e3 e4 e5 e6 e7 e8 e9 e10 e11 e12=>if e3 = 0 then none else Option.bind (g58 N e4 e6.2.1 (IntKind.wrap .i64 (Int.tdiv e6.1 e3))) fun r13=>Option.bind (rowOf (rowsLook (mapFind (Ty.beq tIt) e7.1 e8) e9).2 (rowsLook (mapFind (Ty.beq tIt) e7.1 e8) e9).1) fun r14=>if List.length r14 + List.length [(e3,r13,())] ≤ maxCount then Option.bind (g74x N (List.length (rowsLook (mapFind (Ty.beq tIt) e7.1 e8) e9).2) (fun (x15:TQ1×(TQ1×(Unit)))=>Option.bind (g75 N x15.1 x15.2.1) fun y16=>some y16) e8 (List.set (rowsLook (mapFind (Ty.beq tIt) e7.1 e8) e9).2 (rowsLook (mapFind (Ty.beq tIt) e7.1 e8) e9).1 none ++ [some (r14 ++ [(e3,r13,())])])) fun r17=>Option.bind (rowOf r17.2.1.2.1.2 (List.length (rowsLook (mapFind (Ty.beq tIt) e7.1 e8) e9).2)) fun _=>Option.bind (rowOf r17.2.1.2.1.2 (List.length (rowsLook (mapFind (Ty.beq tIt) e7.1 e8) e9).2)) fun r18=>(kn e4 (imax e5 ((List.length r18:Nat):Int)) e6 (mapPut (Ty.beq tIt) e7.1 (List.length (rowsLook (mapFind (Ty.beq tIt) e7.1 e8) e9).2) r17.2.1.2.1.1) r17.2.1.2.1.2) else none) 1 y0.2.1 0 o1 o4 o6 y0 o15i o15r t17 t18 t19
def g65R31334 (N:Nat):RSh:={ nt:=107,sv:=[.a (.ref 1 0 []),.a (.ref 3 0 []),.a (.ref 4 0 []),.a (.ref 6 0 []),.a (.d (.lst tQ2)),.a (.d tIt),.a (.d tIt)],so:=[.box (.d tIt) (.a (.d tIt)),.box .leaf (.a (.row tQ2 15 0 0)),.box (.d tIt) (.a (.d tIt)),.box (.d tQ2) (.a (.d tQ2)),.mgrid tIt tQ2],px:=[tQ2],exits:=[],brun:=fun K rec v y a=>g65R31334B N (fun o1 o4 o6 o15i o15r=>rec (o1,(),o4,o6,(o15i,o15r),())) v.2.2.2.2.1 v.2.2.2.2.2.1 v.2.2.2.2.2.2.1 y.1 y.2.2.1 y.2.2.2.1 y.2.2.2.2.1.1 y.2.2.2.2.1.2 a.1 }
def g65L122B (N:Nat) {C:Type} (rec:(List TQ1)→Int→Int→Int→Int→(List ((Int)×Nat))→(List (Option (List TQ1)))→Option C) (k0:Int→Int→(List ((Int)×Nat))→(List (Option (List TQ1)))→Option C) (t17:List TQ1) (t18 t19:Int) (o1 o4:Int) (o15i:List ((Int)×Nat)) (o15r:List (Option (List TQ1))):Option C :=
 bif (decide ((t19:Int) < t18)) then if idx t19 (List.length t17) then Option.bind (g56x N (List.getD t17 (Int.toNat t19) (0,0,())).1) fun r2=>Option.bind (g71x N (.pair tIt (tyO [.box (.d tIt) (.a (.d tIt)),.box .leaf (.a (.row tQ2 15 0 0)),.box (.d tIt) (.a (.d tIt)),.box (.d tQ2) (.a (.d tQ2)),.mgrid tIt tQ2])) ⟨(g65R31334 N).told.run [(.ref 1 0 []),(.ref 3 0 []),(.ref 4 0 []),(.ref 6 0 []),(.dat (.lst tQ2) t17),(.dat tIt t18),(.dat tIt t19)],.unit,(g65R31334 N).told.f [(.ref 1 0 []),(.ref 3 0 []),(.ref 4 0 []),(.ref 6 0 []),(.dat (.lst tQ2) t17),(.dat tIt t18),(.dat tIt t19)]⟩ (0,(o1,(),o4,(List.getD t17 (Int.toNat t19) (0,0,())),((List.map (fun q=>(q.1,Int.ofNat q.2)) o15i),(rowsTo [] o15r)),())) r2.2.2.1) fun r19=>if r19.2.1.1.2.1 = 0 then (rec t17 t18 (IntKind.wrap .i64 (t19 + 1)) (asT (Int) r19.2.1.1.2.2.1) (asT (Int) r19.2.1.1.2.2.2.2.1) (asT (List ((Int)×Nat)) (List.map (fun q=>(q.1,Int.toNat q.2)) r19.2.1.1.2.2.2.2.2.2.1.1)) (asT (List (Option (List TQ1))) (rowsFrom r19.2.1.1.2.2.2.2.2.2.1.2))) else none else none else (k0 o1 o4 o15i o15r)
abbrev g65L122V:List Sh1:=[.a (.ref 1 0 []),.a (.ref 3 0 []),.a (.ref 4 0 []),.a (.d (.lst tQ2)),.a (.d tIt),.a (.d tIt)]
abbrev g65L122O:List OSh:=[.box (.d tIt) (.a (.d tIt)),.box .leaf (.a (.row tQ2 15 0 0)),.box (.d tIt) (.a (.d tIt)),.mgrid tIt tQ2]
def g65L122 (N:Nat) {C:Type} (k0:Int→Int→(List ((Int)×Nat))→(List (Option (List TQ1)))→Option C) (t17:List TQ1) (t18 t19:Int) (o1 o4:Int) (o15i:List ((Int)×Nat)) (o15r:List (Option (List TQ1))):Option C :=
 itP (α:=Prod1 g65L122V×ProdO g65L122O) (fun rec a=>g65L122B N (fun t17 t18 t19 o1 o4 o15i o15r=>rec (((),(),(),t17,t18,t19,()),(o1,(),o4,(o15i,o15r),()))) k0 a.1.2.2.2.1 a.1.2.2.2.2.1 a.1.2.2.2.2.2.1 a.2.1 a.2.2.2.1 a.2.2.2.2.1.1 a.2.2.2.2.1.2) N (((),(),(),t17,t18,t19,()),(o1,(),o4,(o15i,o15r),()))
def g65L122T (N:Nat):Told:={ nt:=107,sv:=g65L122V,so:=g65L122O,run:=fun K' rec a=>g65L122B N (fun t17 t18 t19 o1 o4 o15i o15r=>rec (((),(),(),t17,t18,t19,()),(o1,(),o4,(o15i,o15r),()))) (fun eo1 eo4 eo15i eo15r=>K' (.exit 0) (build 107 [1,3,4] [1,3,4,15] [(.ref 1 0 []),(.ref 3 0 []),(.ref 4 0 [])] [(some (.box (.d tIt) (.dat tIt eo1))),(some (.box .leaf (.row tQ2 15 0 0))),(some (.box (.d tIt) (.dat tIt eo4))),(some (.grid tQ2 (.keys tIt eo15i) eo15r))])) a.1.2.2.2.1 a.1.2.2.2.2.1 a.1.2.2.2.2.2.1 a.2.1 a.2.2.2.1 a.2.2.2.2.1.1 a.2.2.2.2.1.2 }
def g65M129610B (N:Nat) (t11 o1:Int) (o3:List TQ5) (o10:List TQ1) (o12:(Int)×TQ3) (q:TQ5) (es:List TQ5) (sn:List Nat):Option ((Prod1 [.a (.ref 1 0 []),.a (.ref 3 0 []),.a (.sl tQ2 10 0),.a (.d tIt),.a (.ref 12 0 [])]×ProdO [.box (.d tIt) (.a (.d tIt)),.box .leaf (.a (.d (.map tIt (.lst tQ2)))),.vec tQ2,.box (.d tQ2) (.a (.d tQ2))])×List TQ5×List Nat) :=
 bif (decide ((t11:Int) < ((List.length q.2:Nat):Int))) then if idx t11 (List.length q.2) then if idx t11 (List.length q.2) then if o1 = 0 then none else some ((((),(),(),t11,(),()),(o1,o3,o10,((IntKind.wrap .i64 (o12.1 * (List.getD q.2 (Int.toNat t11) (0,0,())).1)),(Int.tmod (IntKind.wrap .i64 (o12.2.1 * (List.getD q.2 (Int.toNat t11) (0,0,())).2.1)) o1),o12.2.2),())),es,sn) else none else none else some ((((),(),(),t11,(),()),(o1,o3,o10,o12,())),es,sn)
def g65M129610S (N:Nat) (q:TQ5) (x:(Prod1 [.a (.ref 1 0 []),.a (.ref 3 0 []),.a (.sl tQ2 10 0),.a (.d tIt),.a (.ref 12 0 [])]×ProdO [.box (.d tIt) (.a (.d tIt)),.box .leaf (.a (.d (.map tIt (.lst tQ2)))),.vec tQ2,.box (.d tQ2) (.a (.d tQ2))])) (es:List TQ5) (sn:List Nat):Option ((Prod1 [.a (.ref 1 0 []),.a (.ref 3 0 []),.a (.sl tQ2 10 0),.a (.d tIt),.a (.ref 12 0 [])]×ProdO [.box (.d tIt) (.a (.d tIt)),.box .leaf (.a (.d (.map tIt (.lst tQ2)))),.vec tQ2,.box (.d tQ2) (.a (.d tQ2))])×List TQ5×List Nat):=g65M129610B N x.1.2.2.2.1 x.2.1 x.2.2.1 x.2.2.2.1 x.2.2.2.2.1 q es sn
def g65M129610T (N:Nat):MTold:={ nt:=107,d:=73,t0:=73,t1:=74,t2:=75,id:=8,kt:=tIt,vt:=(.lst tQ2),sv:=[.a (.ref 1 0 []),.a (.ref 3 0 []),.a (.sl tQ2 10 0),.a (.d tIt),.a (.ref 12 0 [])],so:=[.box (.d tIt) (.a (.d tIt)),.box .leaf (.a (.d (.map tIt (.lst tQ2)))),.vec tQ2,.box (.d tQ2) (.a (.d tQ2))],kT:=[1,3,10,11,12],kK:=[1,3,10,12],oT:=[1,3,10,11,12],oK:=[1,3,10,12],step:=g65M129610S N,out:=fun x=>build 107 [1,3,10,11,12] [1,3,10,12] [(.ref 1 0 []),(.ref 3 0 []),(.sl tQ2 10 0),(.dat tIt x.1.2.2.2.1),(.ref 12 0 [])] [(some (.box (.d tIt) (.dat tIt x.2.1))),(some (.box .leaf (.dat (.map tIt (.lst tQ2)) x.2.2.1))),(some (.vec tQ2 x.2.2.2.1)),(some (.box (.d tQ2) (.dat tQ2 x.2.2.2.2.1)))] }
def g65L506B (N:Nat) {C:Type} (rec:Int→Int→(List TQ5)→(List TQ1)→Option C) (k0:Int→(List TQ5)→(List TQ1)→Option C) (t11 o1:Int) (o3:List TQ5) (o10:List TQ1):Option C :=
 bif (decide ((0:Int) ≤ t11)) then if o1 = 0 then none else Option.bind (mrun (g65M129610S N) (((),(),(),t11,(),()),(o1,o3,o10,(1,(Int.tmod 1 o1),()),())) o3) fun r25=>if List.length r25.2.2.2.1 + List.length [r25.2.2.2.2.1] ≤ maxCount then (rec (IntKind.wrap .i64 (r25.1.2.2.2.1 - 1)) r25.2.1 r25.2.2.1 (r25.2.2.2.1 ++ [r25.2.2.2.2.1])) else none else (k0 o1 o3 o10)
abbrev g65L506V:List Sh1:=[.a (.ref 1 0 []),.a (.ref 3 0 []),.a (.sl tQ2 10 0),.a (.d tIt)]
abbrev g65L506O:List OSh:=[.box (.d tIt) (.a (.d tIt)),.box .leaf (.a (.d (.map tIt (.lst tQ2)))),.vec tQ2]
def g65L506 (N:Nat) {C:Type} (k0:Int→(List TQ5)→(List TQ1)→Option C) (t11 o1:Int) (o3:List TQ5) (o10:List TQ1):Option C :=
 itP (α:=Prod1 g65L506V×ProdO g65L506O) (fun rec a=>g65L506B N (fun t11 o1 o3 o10=>rec (((),(),(),t11,()),(o1,o3,o10,()))) k0 a.1.2.2.2.1 a.2.1 a.2.2.1 a.2.2.2.1) N (((),(),(),t11,()),(o1,o3,o10,()))
def g65L506T (N:Nat):Told:={ nt:=107,sv:=g65L506V,so:=g65L506O,run:=fun K' rec a=>g65L506B N (fun t11 o1 o3 o10=>rec (((),(),(),t11,()),(o1,o3,o10,()))) (fun eo1 eo3 eo10=>K' (.exit 6) (build 107 [10] [1,3,10] [(.sl tQ2 10 0)] [(some (.box (.d tIt) (.dat tIt eo1))),(some (.box .leaf (.dat (.map tIt (.lst tQ2)) eo3))),(some (.vec tQ2 eo10))])) a.1.2.2.2.1 a.2.1 a.2.2.1 a.2.2.2.1 }
def g65 (N:Nat) (a0:Int):Option (List TQ1) :=
 Option.bind (g73 N a0) fun r1=>g65L122 N (fun e20 e21 e22 e23=>Option.bind (gridMap e23 e22) fun r24=>g65L506 N (fun e26 e27 e28=>some e28) (IntKind.wrap .i64 (e21 - 1)) e20 r24 ([]:List TQ1)) r1 ((List.length r1:Nat):Int) 0 a0 0 ([]:List ((Int)×Nat)) ([]:List (Option (List TQ1)))
def g65Tl (N:Nat):List (Nat×Told):=[(122,g65L122T N),(506,g65L506T N)]
def g65Ti (N:Nat):List (Nat×Told):=[(2005418,g65L2005418T N)]
def g65Rl (N:Nat):List (Nat×RSh):=[(31334,g65R31334 N)]
def g65Tm (N:Nat):List (Nat×Told):=[]
def g65Ml (N:Nat):List (Nat×MTold):=[(129610,g65M129610T N)]
def g65An (N:Nat):Ann:={ loops:=[(129610,([73,1,3,10,11,12],[73,1,3,10,12]),([1,3,10,11,12],[1,3,10,12])),(122,([1,3,4,17,18,19],[1,3,4,15]),([1,3,4],[1,3,4,15])),(2005418,([1,3,4,6,7,8,28,29],[1,3,4,6,7,15,400000,400001,400002,400003,400004,400005,400006]),([1,3,4,6,7,8],[1,3,4,6,7,15,400000,400001,400002,400003,400004,400005,400006])),(506,([1,3,10,11],[1,3,10]),([10],[1,3,10])),(31334,([1,3,4,6,17,18,19],[1,3,4,6,15]),([],[]))],frz:=[(18,[15])],L:=toldL N (g65Tl N),Li:=toldL N (g65Ti N),fuel:=fun _ _ _=>N,R:=toldR (g65Rl N),ntR:=107,M:=toldM (g65Ml N),Lm:=toldL N (g65Tm N) }
theorem g65L122_ok (N:Nat):ToldOk (((G71xI3 N).withOwn [600015]).withX [25,53]) (g65An N) (bdy Try.f65) 122 (g65L122T N):=⟨⟨loopBody (codeAt (bdy Try.f65) 64 122),by kernel_rfl,fun K' rec a=>by kernel_rfl⟩,fun a=>by kernel_rfl⟩
theorem g65L2005418_ok (N:Nat):ToldOk (((G71xI3 N).withOwn [600015]).withX [25,53]) (g65An N).inR (bdy Try.f65) 2005418 (g65L2005418T N):=⟨⟨loopBody (codeAt (bdy Try.f65) 64 2005418),by kernel_rfl,fun K' rec a=>by kernel_rfl⟩,fun a=>by kernel_rfl⟩
theorem g65L506_ok (N:Nat):ToldOk (((G71xI3 N).withOwn [600015]).withX [25,53]) (g65An N) (bdy Try.f65) 506 (g65L506T N):=⟨⟨loopBody (codeAt (bdy Try.f65) 64 506),by kernel_rfl,fun K' rec a=>by kernel_rfl⟩,fun a=>by kernel_rfl⟩
theorem g65R31334_ok (N:Nat):RShOk (((G71xI3 N).withOwn [600015]).withX [25,53]) (g65An N) (bdy Try.f65) 31334 (g65R31334 N):=⟨rfl,(rangeAt (codeAt (bdy Try.f65) 64 31334)).1,(rangeAt (codeAt (bdy Try.f65) 64 31334)).2.1,(rangeAt (codeAt (bdy Try.f65) 64 31334)).2.2.1,(rangeAt (codeAt (bdy Try.f65) 64 31334)).2.2.2,by kernel_rfl,fun K v y a=>by kernel_rfl⟩
theorem g65M129610_ok (N:Nat):MToldOk (((G71xI3 N).withOwn [600015]).withX [25,53]) (g65An N) (bdy Try.f65) 129610 (g65M129610T N):=⟨by kernel_rfl,by kernel_rfl,by kernel_rfl,by kernel_rfl,fun x es seen cur=>by kernel_rfl,fun x=>by kernel_rfl,fun x es seen cur=>by kernel_rfl,(mapParts (codeAt (bdy Try.f65) 64 129610)).1,(mapParts (codeAt (bdy Try.f65) 64 129610)).2.1,op0 (mapParts (codeAt (bdy Try.f65) 64 129610)).2.1,op1 (mapParts (codeAt (bdy Try.f65) 64 129610)).2.1,(mapParts (codeAt (bdy Try.f65) 64 129610)).2.2,by kernel_rfl,by kernel_rfl,by kernel_rfl,by kernel_rfl,by kernel_rfl,by kernel_rfl,by kernel_rfl,by kernel_rfl,fun x q es seen=>by kernel_rfl,fun x es seen cur=>by kernel_rfl⟩
def G65 (N:Nat):Cfg:=(G71xI3 N).add 65 (Spec.one [.d tIt] (.lst tQ2) (fun a=>g65 N a.1))
theorem G65_ok (N:Nat):CfgOk Try.prog (G65 N):=add_one [.d tIt] (.lst tQ2) (fun a=>g65 N a.1) [600015] [25,53] (g65An N) (G71xI3_ok N) Try.func65 (by kernel_rfl) (by kernel_rfl) (lokF_of (told_ok (g65Tl N) rfl rfl ⟨g65L122_ok N,g65L506_ok N,trivial⟩) (told_ok (g65Ti N) rfl rfl ⟨g65L2005418_ok N,trivial⟩) (toldR_ok (g65Rl N) rfl ⟨⟨g65R31334_ok N,noF rfl (fun _ _ _ _=>rfl) rfl⟩,trivial⟩) (toldM_ok (x_ok (own_ok (G71xI3_ok N))) (g65Ml N) rfl (told_ok (g65Tm N) rfl rfl trivial) ⟨g65M129610_ok N,trivial⟩)) (.inr rfl) fun a=>by kernel_rfl
def g38L122B (N:Nat) {C:Type} (rec:(List TQ1)→Int→Int→LIt→Option C) (k0:LIt→Option C) (t11:List TQ1) (t12 t13:Int) (o4:List (Int)):Option C :=
 bif (decide ((t13:Int) < t12)) then if idx t13 (List.length t11) then if List.length o4 + List.length [(List.getD t11 (Int.toNat t13) (0,0,())).1] ≤ maxCount then (rec t11 t12 (IntKind.wrap .i64 (t13 + 1)) (o4 ++ [(List.getD t11 (Int.toNat t13) (0,0,())).1])) else none else none else (k0 o4)
abbrev g38L122V:List Sh1:=[.a (.sl tIt 4 0),.a (.d (.lst tQ2)),.a (.d tIt),.a (.d tIt)]
abbrev g38L122O:List OSh:=[.vec tIt]
def g38L122 (N:Nat) {C:Type} (k0:LIt→Option C) (t11:List TQ1) (t12 t13:Int) (o4:List (Int)):Option C :=
 itP (α:=Prod1 g38L122V×ProdO g38L122O) (fun rec a=>g38L122B N (fun t11 t12 t13 o4=>rec (((),t11,t12,t13,()),(o4,()))) k0 a.1.2.1 a.1.2.2.1 a.1.2.2.2.1 a.2.1) N (((),t11,t12,t13,()),(o4,()))
def g38L122T (N:Nat):Told:={ nt:=24,sv:=g38L122V,so:=g38L122O,run:=fun K' rec a=>g38L122B N (fun t11 t12 t13 o4=>rec (((),t11,t12,t13,()),(o4,()))) (fun eo4=>K' (.exit 0) (build 24 [4] [4] [(.sl tIt 4 0)] [(some (.vec tIt eo4))])) a.1.2.1 a.1.2.2.1 a.1.2.2.2.1 a.2.1 }
def g38 (N:Nat) (a0:Int):Option (LIt×TQ3) :=
 Option.bind (g55 N a0) fun r1=>bif (!r1) then some (([]:List (Int)),1,()) else Option.bind (g65 N a0) fun r2=>g38L122 N (fun e3=>some (e3,0,())) r2 ((List.length r2:Nat):Int) 0 ([]:List (Int))
def g38Tl (N:Nat):List (Nat×Told):=[(122,g38L122T N)]
def g38An (N:Nat):Ann:=mkAn N [(122,([4,11,12,13],[4]),([4],[4]))] [] (g38Tl N) [] [] 24
theorem g38L122_ok (N:Nat):ToldOk (((G65 N).withOwn []).withX []) (g38An N) (bdy Try.f38) 122 (g38L122T N):=⟨⟨loopBody (codeAt (bdy Try.f38) 64 122),by kernel_rfl,fun K' rec a=>by kernel_rfl⟩,fun a=>by kernel_rfl⟩
def G38 (N:Nat):Cfg:=(G65 N).add 38 (Spec.many [.d tIt] (.pair tLt (.pair tIt .unit)) (fun a=>g38 N a.1))
theorem G38_ok (N:Nat):CfgOk Try.prog (G38 N):=add_many [.d tIt] (.pair tLt (.pair tIt .unit)) (fun a=>g38 N a.1) [] [] (g38An N) (G65_ok N) Try.func38 (by kernel_rfl) (by kernel_rfl) (lokT (told_ok (g38Tl N) rfl rfl ⟨g38L122_ok N,trivial⟩)) (.inr rfl) fun a=>by kernel_rfl
def g28 (N:Nat) (a0:Int):Option TQ1 :=
 Option.bind (g38 N a0) fun r1=>bif (!ieq r1.2.1 0) then some (0,r1.2.1,()) else bif (ieq ((List.length r1.1:Nat):Int) 0) then some (1,0,()) else if idx (IntKind.wrap .i64 (((List.length r1.1:Nat):Int) - 1)) (List.length r1.1) then some ((List.getD r1.1 (Int.toNat (IntKind.wrap .i64 (((List.length r1.1:Nat):Int) - 1))) 0),0,()) else none
def g28An (N:Nat):Ann:=mkAn N [] [] [] [] [] 23
def G28 (N:Nat):Cfg:=(G38 N).add 28 (Spec.many [.d tIt] tQ2 (fun a=>g28 N a.1))
theorem G28_ok (N:Nat):CfgOk Try.prog (G28 N):=add_many [.d tIt] tQ2 (fun a=>g28 N a.1) [] [] (g28An N) (G38_ok N) Try.func28 (by kernel_rfl) (by kernel_rfl) lokE (.inr rfl) fun a=>by kernel_rfl
def g36L250B (N:Nat) {C:Type} (rec:Int→Int→Int→Option C) (k0:Int→Int→Option C) (k1:Option C) (t0 t18 t19:Int):Option C :=
 bif (decide ((t19:Int) < t18)) then Option.bind (g57 N [t19,t0]) fun r2=>bif (ieq r2 1) then Option.bind (g61 N t0 t19) fun r3=>Option.bind (g60 N t0) fun r4=>bif (ieq r3 r4) then (k0 t19 0) else (rec t0 t18 (IntKind.wrap .i64 (t19 + 1))) else (rec t0 t18 (IntKind.wrap .i64 (t19 + 1))) else k1
def g36L250 (N:Nat) {C:Type} (k0:Int→Int→Option C) (k1:Option C) (t0 t18 t19:Int):Option C :=
 itP (α:=Prod1 [.a (.d tIt),.a (.d tIt),.a (.d tIt)]×ProdO []) (fun rec a=>g36L250B N (fun t0 t18 t19=>rec ((t0,t18,t19,()),(()))) k0 k1 a.1.1 a.1.2.1 a.1.2.2.1) N ((t0,t18,t19,()),(()))
def g36L250T (N:Nat):Told:={ nt:=37,sv:=[.a (.d tIt),.a (.d tIt),.a (.d tIt)],so:=[],run:=fun K' rec a=>g36L250B N (fun t0 t18 t19=>rec ((t0,t18,t19,()),(()))) (fun et2 et3=>K' .ret (build 37 [2,3] [] [(.dat tIt et2),(.dat tIt et3)] [])) (K' (.exit 0) (build 37 [2,3] [] [.junk,.junk] [])) a.1.1 a.1.2.1 a.1.2.2.1 }
def g36 (N:Nat) (a0:Int):Option TQ1 :=
 Option.bind (g38 N a0) fun r1=>bif (!ieq r1.2.1 0) then some (0,r1.2.1,()) else bif (decide ((1:Int) < ((List.length r1.1:Nat):Int))) then some (0,4,()) else g36L250 N (fun e5 e6=>some (e5,e6,())) (some (0,4,())) a0 a0 0
def g36Tl (N:Nat):List (Nat×Told):=[(250,g36L250T N)]
def g36An (N:Nat):Ann:=mkAn N [(250,([0,18,19],[]),([2,3],[]))] [] (g36Tl N) [] [] 37
theorem g36L250_ok (N:Nat):ToldOk (((G28 N).withOwn []).withX []) (g36An N) (bdy Try.f36) 250 (g36L250T N):=⟨⟨loopBody (codeAt (bdy Try.f36) 64 250),by kernel_rfl,fun K' rec a=>by kernel_rfl⟩,fun a=>by kernel_rfl⟩
def G36 (N:Nat):Cfg:=(G28 N).add 36 (Spec.many [.d tIt] tQ2 (fun a=>g36 N a.1))
theorem G36_ok (N:Nat):CfgOk Try.prog (G36 N):=add_many [.d tIt] tQ2 (fun a=>g36 N a.1) [] [] (g36An N) (G28_ok N) Try.func36 (by kernel_rfl) (by kernel_rfl) (lokT (told_ok (g36Tl N) rfl rfl ⟨g36L250_ok N,trivial⟩)) (.inr rfl) fun a=>by kernel_rfl
def g62 (N:Nat) (a0 a1 a2:Int):Option (Int) :=
 Option.bind (g51 N a0 a1) fun r1=>bif (!ieq r1 0) then some r1 else bif (decide ((a2:Int) < 1)) then some 1 else bif (decide ((100:Int) < a2)) then some 1 else some 0
def g62An (N:Nat):Ann:=mkAn N [] [] [] [] [] 20
def G62 (N:Nat):Cfg:=(G36 N).add 62 (Spec.one [.d tIt,.d tIt,.d tIt] tIt (fun a=>g62 N a.1 a.2.1 a.2.2.1))
theorem G62_ok (N:Nat):CfgOk Try.prog (G62 N):=add_one [.d tIt,.d tIt,.d tIt] tIt (fun a=>g62 N a.1 a.2.1 a.2.2.1) [] [] (g62An N) (G36_ok N) Try.func62 (by kernel_rfl) (by kernel_rfl) lokE (.inr rfl) fun a=>by kernel_rfl
def g63L26B (N:Nat) {C:Type} (rec:Int→Int→Int→Int→Int→Option C) (k0:Int→Bool→Option C) (k1:Option C) (t0 t1:Int) (t2 t9 t10:Int):Option C :=
 bif (decide ((t10:Int) < t9)) then Option.bind (g58 N t0 t10 t2) fun r1=>bif (ieq r1 t1) then Option.bind (g57 N [t10,t0]) fun r2=>bif (ieq r2 1) then (k0 t10 true) else (rec t0 t1 t2 t9 (IntKind.wrap .i64 (t10 + 1))) else (rec t0 t1 t2 t9 (IntKind.wrap .i64 (t10 + 1))) else k1
def g63L26 (N:Nat) {C:Type} (k0:Int→Bool→Option C) (k1:Option C) (t0 t1:Int) (t2 t9 t10:Int):Option C :=
 itP (α:=Prod1 [.a (.d tIt),.a (.d tIt),.a (.d tIt),.a (.d tIt),.a (.d tIt)]×ProdO []) (fun rec a=>g63L26B N (fun t0 t1 t2 t9 t10=>rec ((t0,t1,t2,t9,t10,()),(()))) k0 k1 a.1.1 a.1.2.1 a.1.2.2.1 a.1.2.2.2.1 a.1.2.2.2.2.1) N ((t0,t1,t2,t9,t10,()),(()))
def g63L26T (N:Nat):Told:={ nt:=28,sv:=[.a (.d tIt),.a (.d tIt),.a (.d tIt),.a (.d tIt),.a (.d tIt)],so:=[],run:=fun K' rec a=>g63L26B N (fun t0 t1 t2 t9 t10=>rec ((t0,t1,t2,t9,t10,()),(()))) (fun et6 et7=>K' .ret (build 28 [6,7] [] [(.dat tIt et6),(.dat .bool et7)] [])) (K' (.exit 0) (build 28 [6,7] [] [.junk,.junk] [])) a.1.1 a.1.2.1 a.1.2.2.1 a.1.2.2.2.1 a.1.2.2.2.2.1 }
def g63 (N:Nat) (a0 a1 a2:Int):Option ((Int)×((Bool)×(Unit))) :=
 g63L26 N (fun e3 e4=>some (e3,e4,())) (some (0,false,())) a0 a1 a2 a0 0
def g63Tl (N:Nat):List (Nat×Told):=[(26,g63L26T N)]
def g63An (N:Nat):Ann:=mkAn N [(26,([0,1,2,9,10],[]),([6,7],[]))] [] (g63Tl N) [] [] 28
theorem g63L26_ok (N:Nat):ToldOk (((G62 N).withOwn []).withX []) (g63An N) (bdy Try.f63) 26 (g63L26T N):=⟨⟨loopBody (codeAt (bdy Try.f63) 64 26),by kernel_rfl,fun K' rec a=>by kernel_rfl⟩,fun a=>by kernel_rfl⟩
def G63 (N:Nat):Cfg:=(G62 N).add 63 (Spec.many [.d tIt,.d tIt,.d tIt] (.pair tIt (.pair .bool .unit)) (fun a=>g63 N a.1 a.2.1 a.2.2.1))
theorem G63_ok (N:Nat):CfgOk Try.prog (G63 N):=add_many [.d tIt,.d tIt,.d tIt] (.pair tIt (.pair .bool .unit)) (fun a=>g63 N a.1 a.2.1 a.2.2.1) [] [] (g63An N) (G62_ok N) Try.func63 (by kernel_rfl) (by kernel_rfl) (lokT (told_ok (g63Tl N) rfl rfl ⟨g63L26_ok N,trivial⟩)) (.inr rfl) fun a=>by kernel_rfl
def g64L58B (N:Nat) {C:Type} (rec:Int→Int→LIt→Int→Int→Option C) (k0:Int→Option C) (t1 t5:Int) (t8:List (Int)) (t9 t10:Int):Option C :=
 bif (decide ((t10:Int) < t9)) then if idx t10 (List.length t8) then Option.bind (g57 N [(List.getD t8 (Int.toNat t10) 0),t1]) fun r1=>(rec t1 (IntKind.wrap .i64 (t5 * r1)) t8 t9 (IntKind.wrap .i64 (t10 + 1))) else none else (k0 t5)
def g64L58 (N:Nat) {C:Type} (k0:Int→Option C) (t1 t5:Int) (t8:List (Int)) (t9 t10:Int):Option C :=
 itP (α:=Prod1 [.a (.d tIt),.a (.d tIt),.a (.d tLt),.a (.d tIt),.a (.d tIt)]×ProdO []) (fun rec a=>g64L58B N (fun t1 t5 t8 t9 t10=>rec ((t1,t5,t8,t9,t10,()),(()))) k0 a.1.1 a.1.2.1 a.1.2.2.1 a.1.2.2.2.1 a.1.2.2.2.2.1) N ((t1,t5,t8,t9,t10,()),(()))
def g64L58T (N:Nat):Told:={ nt:=22,sv:=[.a (.d tIt),.a (.d tIt),.a (.d tLt),.a (.d tIt),.a (.d tIt)],so:=[],run:=fun K' rec a=>g64L58B N (fun t1 t5 t8 t9 t10=>rec ((t1,t5,t8,t9,t10,()),(()))) (fun et5=>K' (.exit 0) (build 22 [5] [] [(.dat tIt et5)] [])) a.1.1 a.1.2.1 a.1.2.2.1 a.1.2.2.2.1 a.1.2.2.2.2.1 }
def g64 (N:Nat) (a0:List (Int)) (a1:Int):Option (Int) :=
 g64L58 N (fun e2=>some e2) a1 1 a0 ((List.length a0:Nat):Int) 0
def g64Tl (N:Nat):List (Nat×Told):=[(58,g64L58T N)]
def g64An (N:Nat):Ann:=mkAn N [(58,([1,5,8,9,10],[]),([5],[]))] [] (g64Tl N) [] [] 22
theorem g64L58_ok (N:Nat):ToldOk (((G63 N).withOwn []).withX []) (g64An N) (bdy Try.f64) 58 (g64L58T N):=⟨⟨loopBody (codeAt (bdy Try.f64) 64 58),by kernel_rfl,fun K' rec a=>by kernel_rfl⟩,fun a=>by kernel_rfl⟩
def G64 (N:Nat):Cfg:=(G63 N).add 64 (Spec.one [.d tLt,.d tIt] tIt (fun a=>g64 N a.1 a.2.1))
theorem G64_ok (N:Nat):CfgOk Try.prog (G64 N):=add_one [.d tLt,.d tIt] tIt (fun a=>g64 N a.1 a.2.1) [] [] (g64An N) (G63_ok N) Try.func64 (by kernel_rfl) (by kernel_rfl) (lokT (told_ok (g64Tl N) rfl rfl ⟨g64L58_ok N,trivial⟩)) (.inr rfl) fun a=>by kernel_rfl
def g30 (N:Nat) (a0 a1 a2:Int):Option TQ1 :=
 Option.bind (g62 N a0 a1 a2) fun r1=>bif (!ieq r1 0) then some (0,r1,()) else Option.bind (g63 N a0 a1 a2) fun r2=>bif (!r2.2.1) then some (0,0,()) else Option.bind (g38 N a0) fun r3=>Option.bind (g64 N r3.1 a2) fun r4=>some (r4,0,())
def g30An (N:Nat):Ann:=mkAn N [] [] [] [] [] 37
def G30 (N:Nat):Cfg:=(G64 N).add 30 (Spec.many [.d tIt,.d tIt,.d tIt] tQ2 (fun a=>g30 N a.1 a.2.1 a.2.2.1))
theorem G30_ok (N:Nat):CfgOk Try.prog (G30 N):=add_many [.d tIt,.d tIt,.d tIt] tQ2 (fun a=>g30 N a.1 a.2.1 a.2.2.1) [] [] (g30An N) (G64_ok N) Try.func30 (by kernel_rfl) (by kernel_rfl) lokE (.inr rfl) fun a=>by kernel_rfl
def g54L1928B (N:Nat) {C:Type} (rec k0:Int→Int→Int→Option C) (t0 t1 t5:Int):Option C :=
 bif (ieq (Int.tmod t0 2) 0) then bif (ieq (Int.tmod t1 8) 3) then (rec (IntKind.wrap .i64 (Int.tdiv t0 2)) t1 (IntKind.wrap .i64 (ineg t5))) else bif (ieq (Int.tmod t1 8) 5) then (rec (IntKind.wrap .i64 (Int.tdiv t0 2)) t1 (IntKind.wrap .i64 (ineg t5))) else (rec (IntKind.wrap .i64 (Int.tdiv t0 2)) t1 t5) else (k0 t0 t1 t5)
def g54L1928 (N:Nat) {C:Type} (k0:Int→Int→Int→Option C) (t0 t1 t5:Int):Option C :=
 itP (α:=Prod1 [.a (.d tIt),.a (.d tIt),.a (.d tIt)]×ProdO []) (fun rec a=>g54L1928B N (fun t0 t1 t5=>rec ((t0,t1,t5,()),(()))) k0 a.1.1 a.1.2.1 a.1.2.2.1) N ((t0,t1,t5,()),(()))
def g54L1928T (N:Nat):Told:={ nt:=49,sv:=[.a (.d tIt),.a (.d tIt),.a (.d tIt)],so:=[],run:=fun K' rec a=>g54L1928B N (fun t0 t1 t5=>rec ((t0,t1,t5,()),(()))) (fun et0 et1 et5=>K' (.exit 2) (build 49 [0,1,5] [] [(.dat tIt et0),(.dat tIt et1),(.dat tIt et5)] [])) a.1.1 a.1.2.1 a.1.2.2.1 }
def g54L60B (N:Nat) {C:Type} (rec:Int→Int→Int→Option C) (k0:Int→Int→Option C) (t0 t1 t5:Int):Option C :=
 bif (!ieq t0 0) then g54L1928 N (fun e1 e2 e3=>bif (ieq (Int.tmod e2 4) 3) then bif (ieq (Int.tmod e1 4) 3) then if e1 = 0 then none else (rec (Int.tmod e2 e1) e1 (IntKind.wrap .i64 (ineg e3))) else if e1 = 0 then none else (rec (Int.tmod e2 e1) e1 e3) else if e1 = 0 then none else (rec (Int.tmod e2 e1) e1 e3)) t0 t1 t5 else (k0 t1 t5)
def g54L60 (N:Nat) {C:Type} (k0:Int→Int→Option C) (t0 t1 t5:Int):Option C :=
 itP (α:=Prod1 [.a (.d tIt),.a (.d tIt),.a (.d tIt)]×ProdO []) (fun rec a=>g54L60B N (fun t0 t1 t5=>rec ((t0,t1,t5,()),(()))) k0 a.1.1 a.1.2.1 a.1.2.2.1) N ((t0,t1,t5,()),(()))
def g54L60T (N:Nat):Told:={ nt:=49,sv:=[.a (.d tIt),.a (.d tIt),.a (.d tIt)],so:=[],run:=fun K' rec a=>g54L60B N (fun t0 t1 t5=>rec ((t0,t1,t5,()),(()))) (fun et1 et5=>K' (.exit 0) (build 49 [1,5] [] [(.dat tIt et1),(.dat tIt et5)] [])) a.1.1 a.1.2.1 a.1.2.2.1 }
def g54 (N:Nat) (a0 a1:Int):Option (Int) :=
 if a1 = 0 then none else if a1 = 0 then none else g54L60 N (fun e4 e5=>bif (!ieq e4 1) then some 0 else some e5) (Int.tmod (IntKind.wrap .i64 ((Int.tmod a0 a1) + a1)) a1) a1 1
def g54Tl (N:Nat):List (Nat×Told):=[(60,g54L60T N),(1928,g54L1928T N)]
def g54An (N:Nat):Ann:=mkAn N [(60,([0,1,5],[]),([1,5],[])),(1928,([0,1,5],[]),([0,1,5],[]))] [] (g54Tl N) [] [] 49
theorem g54L60_ok (N:Nat):ToldOk (((G30 N).withOwn []).withX []) (g54An N) (bdy Try.f54) 60 (g54L60T N):=⟨⟨loopBody (codeAt (bdy Try.f54) 64 60),by kernel_rfl,fun K' rec a=>by kernel_rfl⟩,fun a=>by kernel_rfl⟩
theorem g54L1928_ok (N:Nat):ToldOk (((G30 N).withOwn []).withX []) (g54An N) (bdy Try.f54) 1928 (g54L1928T N):=⟨⟨loopBody (codeAt (bdy Try.f54) 64 1928),by kernel_rfl,fun K' rec a=>by kernel_rfl⟩,fun a=>by kernel_rfl⟩
def G54 (N:Nat):Cfg:=(G30 N).add 54 (Spec.one [.d tIt,.d tIt] tIt (fun a=>g54 N a.1 a.2.1))
theorem G54_ok (N:Nat):CfgOk Try.prog (G54 N):=add_one [.d tIt,.d tIt] tIt (fun a=>g54 N a.1 a.2.1) [] [] (g54An N) (G30_ok N) Try.func54 (by kernel_rfl) (by kernel_rfl) (lokT (told_ok (g54Tl N) rfl rfl ⟨g54L60_ok N,g54L1928_ok N,trivial⟩)) (.inr rfl) fun a=>by kernel_rfl
def g22 (N:Nat) (a0 a1:Int):Option TQ1 :=
 bif (decide ((a1:Int) < 1)) then some (0,1,()) else bif (decide ((1000000:Int) < a1)) then some (0,1,()) else bif (ieq (Int.tmod a1 2) 0) then some (0,1,()) else bif (decide ((a0:Int) < (-1000000000))) then some (0,1,()) else bif (decide ((1000000000:Int) < a0)) then some (0,1,()) else Option.bind (g54 N a0 a1) fun r1=>some (r1,0,())
def g22An (N:Nat):Ann:=mkAn N [] [] [] [] [] 28
def G22 (N:Nat):Cfg:=(G54 N).add 22 (Spec.many [.d tIt,.d tIt] tQ2 (fun a=>g22 N a.1 a.2.1))
theorem G22_ok (N:Nat):CfgOk Try.prog (G22 N):=add_many [.d tIt,.d tIt] tQ2 (fun a=>g22 N a.1 a.2.1) [] [] (g22An N) (G54_ok N) Try.func22 (by kernel_rfl) (by kernel_rfl) lokE (.inr rfl) fun a=>by kernel_rfl
theorem g71xI4L6_ok (N:Nat):ToldOk (((G22 N).withOwn []).withX [34]) (g71xAn N (.pair tIt (tyO [.box (.d tIt) (.a (.d tIt)),.box (.d tIt) (.a (.d tIt)),.box (.d .bool) (.a (.d .bool)),.box (.d tIt) (.a (.d tIt))]))) (bdy Try.f71) 6 (g71xL6T N (.pair tIt (tyO [.box (.d tIt) (.a (.d tIt)),.box (.d tIt) (.a (.d tIt)),.box (.d .bool) (.a (.d .bool)),.box (.d tIt) (.a (.d tIt))]))):=⟨⟨loopBody (codeAt (bdy Try.f71) 64 6),by kernel_rfl,fun K' rec a=>by kernel_rfl⟩,fun a=>by kernel_rfl⟩
theorem g71xI4L1612_ok (N:Nat):ToldOk (((G22 N).withOwn []).withX [34]) (g71xAn N (.pair tIt (tyO [.box (.d tIt) (.a (.d tIt)),.box (.d tIt) (.a (.d tIt)),.box (.d .bool) (.a (.d .bool)),.box (.d tIt) (.a (.d tIt))]))) (bdy Try.f71) 1612 (g71xL1612T N (.pair tIt (tyO [.box (.d tIt) (.a (.d tIt)),.box (.d tIt) (.a (.d tIt)),.box (.d .bool) (.a (.d .bool)),.box (.d tIt) (.a (.d tIt))]))):=⟨⟨loopBody (codeAt (bdy Try.f71) 64 1612),by kernel_rfl,fun K' rec a=>by kernel_rfl⟩,fun a=>by kernel_rfl⟩
def G71xI4 (N:Nat):Cfg:=(G22 N).addX 71 (SpecX.of (g71xS (.pair tIt (tyO [.box (.d tIt) (.a (.d tIt)),.box (.d tIt) (.a (.d tIt)),.box (.d .bool) (.a (.d .bool)),.box (.d tIt) (.a (.d tIt))]))) (fun a=>g71x N (.pair tIt (tyO [.box (.d tIt) (.a (.d tIt)),.box (.d tIt) (.a (.d tIt)),.box (.d .bool) (.a (.d .bool)),.box (.d tIt) (.a (.d tIt))])) a.2.1.1 a.2.1.2 a.2.2.1))
theorem G71xI4_ok (N:Nat):CfgOk Try.prog (G71xI4 N):=add_x (g71xS (.pair tIt (tyO [.box (.d tIt) (.a (.d tIt)),.box (.d tIt) (.a (.d tIt)),.box (.d .bool) (.a (.d .bool)),.box (.d tIt) (.a (.d tIt))]))) (fun a=>g71x N (.pair tIt (tyO [.box (.d tIt) (.a (.d tIt)),.box (.d tIt) (.a (.d tIt)),.box (.d .bool) (.a (.d .bool)),.box (.d tIt) (.a (.d tIt))])) a.2.1.1 a.2.1.2 a.2.2.1) [] [34] [] (g71xAn N (.pair tIt (tyO [.box (.d tIt) (.a (.d tIt)),.box (.d tIt) (.a (.d tIt)),.box (.d .bool) (.a (.d .bool)),.box (.d tIt) (.a (.d tIt))]))) (G22_ok N) Try.func71 (by kernel_rfl) (by kernel_rfl) (lokF_of (told_ok (g71xTl N (.pair tIt (tyO [.box (.d tIt) (.a (.d tIt)),.box (.d tIt) (.a (.d tIt)),.box (.d .bool) (.a (.d .bool)),.box (.d tIt) (.a (.d tIt))]))) rfl rfl ⟨g71xI4L6_ok N,g71xI4L1612_ok N,trivial⟩) (told_ok [] rfl rfl trivial) (toldR_ok [] rfl trivial)) (.inr rfl) (fun h=>by first | rfl | cases h) fun a=>by kernel_rfl
def g24R122B (N:Nat) {C:Type} (kn k1:Int→Int→Bool→Int→Option C) (o1 o2:Int) (o3:Bool) (o4:Int) (y0:(Int)×TQ3):Option C :=
 bif (Ty.beq tQ2 y0 (o1,1,())) then (k1 o1 0 false 0) else (kn o1 o2 o3 o4)
def g24R122 (N:Nat):RSh:={ nt:=51,sv:=[.a (.ref 1 0 []),.a (.ref 2 0 []),.a (.ref 3 0 []),.a (.ref 4 0 [])],so:=[.box (.d tIt) (.a (.d tIt)),.box (.d tIt) (.a (.d tIt)),.box (.d .bool) (.a (.d .bool)),.box (.d tIt) (.a (.d tIt))],px:=[tQ2],exits:=[.ret],brun:=fun K rec v y a=>g24R122B N (fun o1 o2 o3 o4=>rec (o1,o2,o3,o4,())) (fun o1 o2 o3 o4=>K 1 (o1,o2,o3,o4,())) y.1 y.2.1 y.2.2.1 y.2.2.2.1 a.1 }
def g24L250B (N:Nat) {C:Type} (rec:Int→Int→Int→Bool→Int→Option C) (k0 k1:Int→Int→Bool→Int→Option C) (t6 o1 o2:Int) (o3:Bool) (o4:Int):Option C :=
 bif (decide ((t6:Int) < o1)) then Option.bind (g57 N [t6,o1]) fun r4=>bif (decide ((1:Int) < r4)) then (k0 o1 t6 true 0) else Option.bind (g58 N o1 t6 (IntKind.wrap .i64 (Int.tdiv (IntKind.wrap .i64 (o1 - 1)) 2))) fun r5=>Option.bind (g54 N t6 o1) fun r6=>if o1 = 0 then none else bif (!ieq r5 (Int.tmod (IntKind.wrap .i64 (r6 + o1)) o1)) then (k0 o1 t6 true 0) else (rec (IntKind.wrap .i64 (t6 + 1)) o1 o2 o3 o4) else (k1 o1 o2 o3 o4)
abbrev g24L250V:List Sh1:=[.a (.ref 1 0 []),.a (.ref 2 0 []),.a (.ref 3 0 []),.a (.ref 4 0 []),.a (.d tIt)]
abbrev g24L250O:List OSh:=[.box (.d tIt) (.a (.d tIt)),.box (.d tIt) (.a (.d tIt)),.box (.d .bool) (.a (.d .bool)),.box (.d tIt) (.a (.d tIt))]
def g24L250 (N:Nat) {C:Type} (k0 k1:Int→Int→Bool→Int→Option C) (t6 o1 o2:Int) (o3:Bool) (o4:Int):Option C :=
 itP (α:=Prod1 g24L250V×ProdO g24L250O) (fun rec a=>g24L250B N (fun t6 o1 o2 o3 o4=>rec (((),(),(),(),t6,()),(o1,o2,o3,o4,()))) k0 k1 a.1.2.2.2.2.1 a.2.1 a.2.2.1 a.2.2.2.1 a.2.2.2.2.1) N (((),(),(),(),t6,()),(o1,o2,o3,o4,()))
def g24L250T (N:Nat):Told:={ nt:=51,sv:=g24L250V,so:=g24L250O,run:=fun K' rec a=>g24L250B N (fun t6 o1 o2 o3 o4=>rec (((),(),(),(),t6,()),(o1,o2,o3,o4,()))) (fun eo1 eo2 eo3 eo4=>K' .ret (build 51 [2,3,4] [1,2,3,4] [(.ref 2 0 []),(.ref 3 0 []),(.ref 4 0 [])] [(some (.box (.d tIt) (.dat tIt eo1))),(some (.box (.d tIt) (.dat tIt eo2))),(some (.box (.d .bool) (.dat .bool eo3))),(some (.box (.d tIt) (.dat tIt eo4)))])) (fun eo1 eo2 eo3 eo4=>K' (.exit 2) (build 51 [2,3,4] [1,2,3,4] [(.ref 2 0 []),(.ref 3 0 []),(.ref 4 0 [])] [(some (.box (.d tIt) (.dat tIt eo1))),(some (.box (.d tIt) (.dat tIt eo2))),(some (.box (.d .bool) (.dat .bool eo3))),(some (.box (.d tIt) (.dat tIt eo4)))])) a.1.2.2.2.2.1 a.2.1 a.2.2.1 a.2.2.2.1 a.2.2.2.2.1 }
def g24 (N:Nat) (a0:Int):Option ((Int)×((Bool)×TQ3)) :=
 Option.bind (g55 N a0) fun r1=>bif (!r1) then some (0,false,1,()) else bif (decide ((a0:Int) < 3)) then some (0,false,4,()) else bif (ieq (Int.tmod a0 2) 0) then some (0,false,4,()) else Option.bind (g56x N a0) fun r2=>Option.bind (g71x N (.pair tIt (tyO [.box (.d tIt) (.a (.d tIt)),.box (.d tIt) (.a (.d tIt)),.box (.d .bool) (.a (.d .bool)),.box (.d tIt) (.a (.d tIt))])) ⟨(g24R122 N).told.run [(.ref 1 0 []),(.ref 2 0 []),(.ref 3 0 []),(.ref 4 0 [])],.unit,(g24R122 N).told.f [(.ref 1 0 []),(.ref 2 0 []),(.ref 3 0 []),(.ref 4 0 [])]⟩ (0,(a0,(0:Int),false,(0:Int),())) r2.2.2.1) fun r3=>if r3.2.1.1.2.1 = 0 then g24L250 N (fun e7 e8 e9 e10=>some (e8,e9,e10,())) (fun e11 e12 e13 e14=>some (0,false,0,())) 2 (asT (Int) r3.2.1.1.2.2.1) (asT (Int) r3.2.1.1.2.2.2.1) (asT (Bool) r3.2.1.1.2.2.2.2.1) (asT (Int) r3.2.1.1.2.2.2.2.2.1) else if r3.2.1.1.2.1 = 1 then some ((asT (Int) r3.2.1.1.2.2.2.1),(asT (Bool) r3.2.1.1.2.2.2.2.1),(asT (Int) r3.2.1.1.2.2.2.2.2.1),()) else none
def g24Tl (N:Nat):List (Nat×Told):=[(250,g24L250T N)]
def g24Rl (N:Nat):List (Nat×RSh):=[(122,g24R122 N)]
def g24An (N:Nat):Ann:=mkAn N [(250,([1,2,3,4,6],[1,2,3,4]),([2,3,4],[1,2,3,4])),(122,([1,2,3,4],[1,2,3,4]),([],[]))] [] (g24Tl N) [] (g24Rl N) 51
theorem g24L250_ok (N:Nat):ToldOk (((G71xI4 N).withOwn []).withX [18]) (g24An N) (bdy Try.f24) 250 (g24L250T N):=⟨⟨loopBody (codeAt (bdy Try.f24) 64 250),by kernel_rfl,fun K' rec a=>by kernel_rfl⟩,fun a=>by kernel_rfl⟩
theorem g24R122_ok (N:Nat):RShOk (((G71xI4 N).withOwn []).withX [18]) (g24An N) (bdy Try.f24) 122 (g24R122 N):=⟨rfl,(rangeAt (codeAt (bdy Try.f24) 64 122)).1,(rangeAt (codeAt (bdy Try.f24) 64 122)).2.1,(rangeAt (codeAt (bdy Try.f24) 64 122)).2.2.1,(rangeAt (codeAt (bdy Try.f24) 64 122)).2.2.2,by kernel_rfl,fun K v y a=>by kernel_rfl⟩
def G24 (N:Nat):Cfg:=(G71xI4 N).add 24 (Spec.many [.d tIt] (.pair tIt (.pair .bool (.pair tIt .unit))) (fun a=>g24 N a.1))
theorem G24_ok (N:Nat):CfgOk Try.prog (G24 N):=add_many [.d tIt] (.pair tIt (.pair .bool (.pair tIt .unit))) (fun a=>g24 N a.1) [] [18] (g24An N) (G71xI4_ok N) Try.func24 (by kernel_rfl) (by kernel_rfl) (lokF_of (told_ok (g24Tl N) rfl rfl ⟨g24L250_ok N,trivial⟩) (told_ok [] rfl rfl trivial) (toldR_ok (g24Rl N) rfl ⟨⟨g24R122_ok N,noF rfl (fun _ _ _ _=>rfl) rfl⟩,trivial⟩)) (.inr rfl) fun a=>by kernel_rfl
def g42L58B (N:Nat) {C:Type} (rec:LIt→LIt→Int→Option C) (k0:Bool→Option C) (k1:Option C) (t0 t1:List (Int)) (t5:Int):Option C :=
 bif (decide ((t5:Int) < ((List.length t0:Nat):Int))) then if idx t5 (List.length t0) then if idx t5 (List.length t1) then bif (!ieq (List.getD t0 (Int.toNat t5) 0) (List.getD t1 (Int.toNat t5) 0)) then (k0 false) else (rec t0 t1 (IntKind.wrap .i64 (t5 + 1))) else none else none else k1
def g42L58 (N:Nat) {C:Type} (k0:Bool→Option C) (k1:Option C) (t0 t1:List (Int)) (t5:Int):Option C :=
 itP (α:=Prod1 [.a (.d tLt),.a (.d tLt),.a (.d tIt)]×ProdO []) (fun rec a=>g42L58B N (fun t0 t1 t5=>rec ((t0,t1,t5,()),(()))) k0 k1 a.1.1 a.1.2.1 a.1.2.2.1) N ((t0,t1,t5,()),(()))
def g42L58T (N:Nat):Told:={ nt:=26,sv:=[.a (.d tLt),.a (.d tLt),.a (.d tIt)],so:=[],run:=fun K' rec a=>g42L58B N (fun t0 t1 t5=>rec ((t0,t1,t5,()),(()))) (fun et4=>K' .ret (build 26 [4] [] [(.dat .bool et4)] [])) (K' (.exit 0) (build 26 [4] [] [.junk] [])) a.1.1 a.1.2.1 a.1.2.2.1 }
def g42 (N:Nat) (a0 a1:List (Int)):Option (Bool) :=
 bif (!ieq ((List.length a0:Nat):Int) ((List.length a1:Nat):Int)) then some false else g42L58 N (fun e1=>some e1) (some true) a0 a1 0
def g42Tl (N:Nat):List (Nat×Told):=[(58,g42L58T N)]
def g42An (N:Nat):Ann:=mkAn N [(58,([0,1,5],[]),([4],[]))] [] (g42Tl N) [] [] 26
theorem g42L58_ok (N:Nat):ToldOk (((G24 N).withOwn []).withX []) (g42An N) (bdy Try.f42) 58 (g42L58T N):=⟨⟨loopBody (codeAt (bdy Try.f42) 64 58),by kernel_rfl,fun K' rec a=>by kernel_rfl⟩,fun a=>by kernel_rfl⟩
def G42 (N:Nat):Cfg:=(G24 N).add 42 (Spec.one [.d tLt,.d tLt] .bool (fun a=>g42 N a.1 a.2.1))
theorem G42_ok (N:Nat):CfgOk Try.prog (G42 N):=add_one [.d tLt,.d tLt] .bool (fun a=>g42 N a.1 a.2.1) [] [] (g42An N) (G24_ok N) Try.func42 (by kernel_rfl) (by kernel_rfl) (lokT (told_ok (g42Tl N) rfl rfl ⟨g42L58_ok N,trivial⟩)) (.inr rfl) fun a=>by kernel_rfl
def g21 (N:Nat) :Option (Bool) :=
 Option.bind (g27 N 15) fun r1=>Option.bind (g28 N 15) fun r2=>Option.bind (g36 N 15) fun r3=>Option.bind (g38 N 15) fun r4=>Option.bind (g19 N 13 2 3) fun r5=>Option.bind (g30 N 15 1 2) fun r6=>Option.bind (g22 N 2 15) fun r7=>Option.bind (g24 N 15) fun r8=>bif (ieq r1.2.1 0) then bif (ieq r1.1 8) then bif (ieq r2.2.1 0) then bif (ieq r2.1 4) then bif (ieq r3.2.1 4) then bif (ieq r4.2.1 0) then Option.bind (g42 N r4.1 [2,4]) fun r9=>bif r9 then bif (ieq r5.2.2.1 0) then bif r5.2.1 then bif (ieq r5.1 4) then bif (ieq r6.2.1 0) then bif (ieq r6.1 4) then bif (ieq r7.2.1 0) then bif (ieq r7.1 1) then bif (ieq r8.2.2.1 0) then bif r8.2.1 then bif (ieq r8.1 2) then Option.bind (g51 N 0 0) fun r10=>bif (ieq r10 1) then Option.bind (g51 N 15 3) fun r11=>some (ieq r11 70) else some false else some false else some false else some false else some false else some false else some false else some false else some false else some false else some false else some false else some false else some false else some false else some false else some false else some false
def g21An (N:Nat):Ann:=mkAn N [] [] [] [] [] 126
def G21 (N:Nat):Cfg:=(G42 N).add 21 (Spec.one [] .bool (fun _=>g21 N))
theorem G21_ok (N:Nat):CfgOk Try.prog (G21 N):=add_one [] .bool (fun _=>g21 N) [] [] (g21An N) (G42_ok N) Try.func21 (by kernel_rfl) (by kernel_rfl) lokE (.inr rfl) fun a=>by kernel_rfl
def g3L26B (N:Nat) {C:Type} (rec:Int→Int→Int→Int→Option C) (k0:Bool→Option C) (k1:Option C) (t0 t1:Int) (t2 t7:Int):Option C :=
 bif (decide ((t7:Int) < 2)) then bif (ieq t7 1) then Option.bind (g16 N t0 400) fun r1=>Option.bind (g17 N r1 t1) fun r2=>Option.bind (g17 N r1 t2) fun r3=>bif (ieq t7 1) then bif (ieq (Int.tmod t2 2) 0) then Option.bind (g18 N r1 r2 (IntKind.wrap .i64 (Int.tmod (IntKind.wrap .u64 t2) 1000))) fun r4=>Option.bind (g19 N r1 r2 r4) fun r5=>Option.bind (g20 N r1 r2 r4) fun r6=>bif (!ieq r5.2.2.1 0) then (k0 false) else bif (!beqB r5.2.1 (decide ((0:Int) ≤ r6))) then (k0 false) else bif (!ieq r5.1 (imax r6 0)) then (k0 false) else (rec t0 t1 t2 (IntKind.wrap .i64 (t7 + 1))) else Option.bind (g19 N r1 r2 r3) fun r7=>Option.bind (g20 N r1 r2 r3) fun r8=>bif (!ieq r7.2.2.1 0) then (k0 false) else bif (!beqB r7.2.1 (decide ((0:Int) ≤ r8))) then (k0 false) else bif (!ieq r7.1 (imax r8 0)) then (k0 false) else (rec t0 t1 t2 (IntKind.wrap .i64 (t7 + 1))) else Option.bind (g19 N r1 r2 r3) fun r9=>Option.bind (g20 N r1 r2 r3) fun r10=>bif (!ieq r9.2.2.1 0) then (k0 false) else bif (!beqB r9.2.1 (decide ((0:Int) ≤ r10))) then (k0 false) else bif (!ieq r9.1 (imax r10 0)) then (k0 false) else (rec t0 t1 t2 (IntKind.wrap .i64 (t7 + 1))) else Option.bind (g16 N t0 1000000) fun r11=>Option.bind (g17 N r11 t1) fun r12=>Option.bind (g17 N r11 t2) fun r13=>bif (ieq t7 1) then bif (ieq (Int.tmod t2 2) 0) then Option.bind (g18 N r11 r12 (IntKind.wrap .i64 (Int.tmod (IntKind.wrap .u64 t2) 1000))) fun r14=>Option.bind (g19 N r11 r12 r14) fun r15=>Option.bind (g20 N r11 r12 r14) fun r16=>bif (!ieq r15.2.2.1 0) then (k0 false) else bif (!beqB r15.2.1 (decide ((0:Int) ≤ r16))) then (k0 false) else bif (!ieq r15.1 (imax r16 0)) then (k0 false) else (rec t0 t1 t2 (IntKind.wrap .i64 (t7 + 1))) else Option.bind (g19 N r11 r12 r13) fun r17=>Option.bind (g20 N r11 r12 r13) fun r18=>bif (!ieq r17.2.2.1 0) then (k0 false) else bif (!beqB r17.2.1 (decide ((0:Int) ≤ r18))) then (k0 false) else bif (!ieq r17.1 (imax r18 0)) then (k0 false) else (rec t0 t1 t2 (IntKind.wrap .i64 (t7 + 1))) else Option.bind (g19 N r11 r12 r13) fun r19=>Option.bind (g20 N r11 r12 r13) fun r20=>bif (!ieq r19.2.2.1 0) then (k0 false) else bif (!beqB r19.2.1 (decide ((0:Int) ≤ r20))) then (k0 false) else bif (!ieq r19.1 (imax r20 0)) then (k0 false) else (rec t0 t1 t2 (IntKind.wrap .i64 (t7 + 1))) else k1
def g3L26 (N:Nat) {C:Type} (k0:Bool→Option C) (k1:Option C) (t0 t1:Int) (t2 t7:Int):Option C :=
 itP (α:=Prod1 [.a (.d tIt),.a (.d tIt),.a (.d tIt),.a (.d tIt)]×ProdO []) (fun rec a=>g3L26B N (fun t0 t1 t2 t7=>rec ((t0,t1,t2,t7,()),(()))) k0 k1 a.1.1 a.1.2.1 a.1.2.2.1 a.1.2.2.2.1) N ((t0,t1,t2,t7,()),(()))
def g3L26T (N:Nat):Told:={ nt:=72,sv:=[.a (.d tIt),.a (.d tIt),.a (.d tIt),.a (.d tIt)],so:=[],run:=fun K' rec a=>g3L26B N (fun t0 t1 t2 t7=>rec ((t0,t1,t2,t7,()),(()))) (fun et6=>K' .ret (build 72 [6] [] [(.dat .bool et6)] [])) (K' (.exit 0) (build 72 [6] [] [.junk] [])) a.1.1 a.1.2.1 a.1.2.2.1 a.1.2.2.2.1 }
def g3 (N:Nat) (a0 a1 a2:Int):Option (Bool) :=
 g3L26 N (fun e21=>some e21) (Option.bind (g21 N) fun r22=>some r22) a0 a1 a2 0
def g3Tl (N:Nat):List (Nat×Told):=[(26,g3L26T N)]
def g3An (N:Nat):Ann:=mkAn N [(26,([0,1,2,7],[]),([6],[]))] [] (g3Tl N) [] [] 72
theorem g3L26_ok (N:Nat):ToldOk (((G21 N).withOwn []).withX []) (g3An N) (bdy Try.f3) 26 (g3L26T N):=⟨⟨loopBody (codeAt (bdy Try.f3) 64 26),by kernel_rfl,fun K' rec a=>by kernel_rfl⟩,fun a=>by kernel_rfl⟩
def G3 (N:Nat):Cfg:=(G21 N).add 3 (Spec.one [.d tIt,.d tIt,.d tIt] .bool (fun a=>g3 N a.1 a.2.1 a.2.2.1))
theorem G3_ok (N:Nat):CfgOk Try.prog (G3 N):=add_one [.d tIt,.d tIt,.d tIt] .bool (fun a=>g3 N a.1 a.2.1 a.2.2.1) [] [] (g3An N) (G21_ok N) Try.func3 (by kernel_rfl) (by kernel_rfl) (lokT (told_ok (g3Tl N) rfl rfl ⟨g3L26_ok N,trivial⟩)) (.inr rfl) fun a=>by kernel_rfl
end
end Go.Pv
