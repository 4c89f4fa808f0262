/- What the functions of the law come to, as plain functions (printed by a program from the translation), and, by the kernel, that their code comes to just that. -/
import Derived.Test.YtiinfljjfceckaaDoorPvAM
import Derived.Test.YtiinfljjfceckaaDoorProg
import Derived.KernelRfl
set_option linter.unusedVariables false
namespace Go.Pv
open Go.Proofs
noncomputable section
def tab:List (Nat×TI):=[
(1,⟨.other,.leaf,8⟩),
 (2,⟨.int .i64,.d (.int .i64),8⟩),
 (3,⟨.int .i64,.d (.int .i64),8⟩),
 (4,⟨.bool,.d (.bool),1⟩),
 (5,⟨.int .u8,.d (.int .u8),1⟩),
 (9,⟨.str,.d (.str),16⟩),
 (12,⟨.int .u64,.d (.int .u64),8⟩),
 (21,⟨.int .i32,.d (.int .i32),4⟩),
 (22,⟨.slice 28,.d (.lst (.lst (.int .i64))),24⟩),
 (23,⟨.struct [22,22],.d (.pair (.lst (.lst (.int .i64))) (.pair (.lst (.lst (.int .i64))) (.unit))),48⟩),
 (24,⟨.struct [22,22],.d (.pair (.lst (.lst (.int .i64))) (.pair (.lst (.lst (.int .i64))) (.unit))),48⟩),
 (25,⟨.struct [22,22],.d (.pair (.lst (.lst (.int .i64))) (.pair (.lst (.lst (.int .i64))) (.unit))),48⟩),
 (26,⟨.other,.leaf,8⟩),
 (27,⟨.other,.leaf,8⟩),
 (28,⟨.slice 3,.d (.lst (.int .i64)),24⟩),
 (29,⟨.int .i64,.d (.int .i64),8⟩),
 (31,⟨.other,.leaf,8⟩),
 (32,⟨.other,.leaf,8⟩),
 (34,⟨.other,.leaf,8⟩),
 (35,⟨.other,.leaf,8⟩),
 (36,⟨.other,.leaf,8⟩),
 (37,⟨.other,.leaf,8⟩),
 (38,⟨.other,.leaf,8⟩),
 (39,⟨.other,.leaf,8⟩),
 (40,⟨.other,.leaf,8⟩),
 (41,⟨.other,.leaf,8⟩),
 (42,⟨.arr 2 3,.d (.arr 2 (.int .i64)),16⟩),
 (43,⟨.int .u64,.d (.int .u64),8⟩),
 (44,⟨.other,.leaf,8⟩),
 (46,⟨.other,.leaf,8⟩),
 (48,⟨.other,.leaf,8⟩),
 (49,⟨.other,.leaf,8⟩),
 (51,⟨.other,.leaf,8⟩),
 (52,⟨.other,.leaf,8⟩),
 (53,⟨.other,.leaf,8⟩),
 (54,⟨.other,.leaf,8⟩),
 (55,⟨.other,.leaf,8⟩),
 (56,⟨.other,.leaf,8⟩),
 (57,⟨.arr 3 3,.d (.arr 3 (.int .i64)),24⟩),
 (58,⟨.other,.leaf,8⟩),
 (59,⟨.other,.leaf,8⟩),
 (60,⟨.other,.leaf,8⟩),
 (61,⟨.other,.leaf,8⟩),
 (62,⟨.other,.leaf,8⟩),
 (63,⟨.other,.leaf,8⟩),
 (65,⟨.other,.leaf,8⟩),
 (66,⟨.other,.leaf,8⟩),
 (67,⟨.other,.leaf,8⟩),
 (69,⟨.other,.leaf,8⟩),
 (70,⟨.other,.leaf,8⟩),
 (71,⟨.slice 73,.leaf,24⟩),
 (75,⟨.other,.leaf,8⟩),
 (76,⟨.slice 78,.leaf,24⟩),
 (79,⟨.other,.leaf,8⟩),
 (81,⟨.other,.leaf,8⟩),
 (83,⟨.other,.leaf,8⟩),
 (84,⟨.other,.leaf,8⟩),
 (85,⟨.other,.leaf,8⟩),
 (86,⟨.other,.leaf,8⟩),
 (87,⟨.other,.leaf,8⟩),
 (89,⟨.other,.leaf,8⟩),
 (90,⟨.slice 22,.d (.lst (.lst (.lst (.int .i64)))),24⟩),
 (91,⟨.slice 25,.d (.lst (.pair (.lst (.lst (.int .i64))) (.pair (.lst (.lst (.int .i64))) (.unit)))),24⟩),
 (92,⟨.other,.leaf,8⟩),
 (93,⟨.other,.leaf,8⟩),
 (94,⟨.other,.leaf,8⟩),
 (96,⟨.other,.leaf,8⟩),
 (97,⟨.other,.leaf,8⟩),
 (98,⟨.other,.leaf,8⟩),
 (99,⟨.slice 24,.d (.lst (.pair (.lst (.lst (.int .i64))) (.pair (.lst (.lst (.int .i64))) (.unit)))),24⟩),
 (100,⟨.other,.leaf,8⟩),
 (102,⟨.other,.leaf,8⟩),
 (103,⟨.other,.leaf,8⟩),
 (104,⟨.arr 6 3,.d (.arr 6 (.int .i64)),48⟩),
 (105,⟨.struct [104,104],.d (.pair (.arr 6 (.int .i64)) (.pair (.arr 6 (.int .i64)) (.unit))),96⟩),
 (106,⟨.struct [104,104],.d (.pair (.arr 6 (.int .i64)) (.pair (.arr 6 (.int .i64)) (.unit))),96⟩),
 (107,⟨.other,.leaf,8⟩),
 (108,⟨.other,.leaf,8⟩),
 (109,⟨.map 9 4,.leaf,8⟩),
 (110,⟨.other,.leaf,8⟩),
 (111,⟨.other,.leaf,8⟩),
 (112,⟨.other,.leaf,8⟩),
 (113,⟨.struct [3,3],.d (.pair (.int .i64) (.pair (.int .i64) (.unit))),16⟩),
 (114,⟨.struct [3,3],.d (.pair (.int .i64) (.pair (.int .i64) (.unit))),16⟩),
 (115,⟨.struct [3,3],.d (.pair (.int .i64) (.pair (.int .i64) (.unit))),16⟩),
 (116,⟨.struct [3,3],.d (.pair (.int .i64) (.pair (.int .i64) (.unit))),16⟩),
 (117,⟨.slice 116,.d (.lst (.pair (.int .i64) (.pair (.int .i64) (.unit)))),24⟩),
 (118,⟨.map 116 4,.leaf,8⟩),
 (119,⟨.other,.leaf,8⟩),
 (120,⟨.other,.leaf,8⟩),
 (121,⟨.map 124 3,.leaf,8⟩),
 (122,⟨.struct [24,121],.st [some (.pair (.lst (.lst (.int .i64))) (.pair (.lst (.lst (.int .i64))) (.unit))),none],56⟩),
 (123,⟨.struct [24,121],.st [some (.pair (.lst (.lst (.int .i64))) (.pair (.lst (.lst (.int .i64))) (.unit))),none],56⟩),
 (124,⟨.arr 6 3,.d (.arr 6 (.int .i64)),48⟩),
 (125,⟨.other,.leaf,8⟩),
 (126,⟨.other,.leaf,8⟩),
 (127,⟨.other,.leaf,8⟩),
 (128,⟨.other,.leaf,8⟩),
 (129,⟨.other,.leaf,8⟩),
 (130,⟨.other,.leaf,8⟩),
 (131,⟨.other,.leaf,8⟩),
 (132,⟨.other,.leaf,8⟩),
 (133,⟨.other,.leaf,8⟩),
 (134,⟨.other,.leaf,8⟩),
 (135,⟨.other,.leaf,8⟩),
 (136,⟨.other,.leaf,8⟩),
 (137,⟨.other,.leaf,8⟩),
 (138,⟨.map 3 3,.leaf,8⟩),
 (139,⟨.other,.leaf,8⟩),
 (140,⟨.other,.leaf,8⟩),
 (141,⟨.other,.leaf,8⟩),
 (142,⟨.other,.leaf,8⟩),
 (143,⟨.other,.leaf,8⟩),
 (144,⟨.other,.leaf,8⟩),
 (145,⟨.slice 5,.d (.lst (.int .u8)),24⟩),
 (146,⟨.other,.leaf,8⟩),
 (147,⟨.other,.leaf,8⟩),
 (148,⟨.struct [114,4],.d (.pair (.pair (.int .i64) (.pair (.int .i64) (.unit))) (.pair (.bool) (.unit))),24⟩),
 (149,⟨.struct [114,4],.d (.pair (.pair (.int .i64) (.pair (.int .i64) (.unit))) (.pair (.bool) (.unit))),24⟩),
 (150,⟨.other,.leaf,8⟩),
 (151,⟨.other,.leaf,8⟩),
 (152,⟨.slice 124,.d (.lst (.arr 6 (.int .i64))),24⟩),
 (153,⟨.other,.leaf,8⟩),
 (154,⟨.other,.leaf,8⟩),
 (155,⟨.other,.leaf,8⟩),
 (156,⟨.other,.leaf,8⟩),
 (157,⟨.other,.leaf,8⟩),
 (158,⟨.arr 4 3,.d (.arr 4 (.int .i64)),32⟩),
 (159,⟨.other,.leaf,8⟩),
 (160,⟨.other,.leaf,8⟩),
 (161,⟨.other,.leaf,8⟩),
 (162,⟨.other,.leaf,8⟩),
 (163,⟨.struct [106,3],.d (.pair (.pair (.arr 6 (.int .i64)) (.pair (.arr 6 (.int .i64)) (.unit))) (.pair (.int .i64) (.unit))),104⟩),
 (164,⟨.struct [106,3],.d (.pair (.pair (.arr 6 (.int .i64)) (.pair (.arr 6 (.int .i64)) (.unit))) (.pair (.int .i64) (.unit))),104⟩),
 (165,⟨.map 106 164,.leaf,8⟩),
 (166,⟨.other,.leaf,8⟩),
 (167,⟨.other,.leaf,8⟩),
 (168,⟨.other,.leaf,8⟩),
 (171,⟨.slice 106,.d (.lst (.pair (.arr 6 (.int .i64)) (.pair (.arr 6 (.int .i64)) (.unit)))),24⟩),
 (172,⟨.other,.leaf,8⟩),
 (173,⟨.map 114 3,.leaf,8⟩),
 (174,⟨.other,.leaf,8⟩),
 (175,⟨.struct [149,3],.d (.pair (.pair (.pair (.int .i64) (.pair (.int .i64) (.unit))) (.pair (.bool) (.unit))) (.pair (.int .i64) (.unit))),32⟩),
 (176,⟨.struct [149,3],.d (.pair (.pair (.pair (.int .i64) (.pair (.int .i64) (.unit))) (.pair (.bool) (.unit))) (.pair (.int .i64) (.unit))),32⟩),
 (177,⟨.map 149 176,.leaf,8⟩),
 (178,⟨.other,.leaf,8⟩),
 (179,⟨.other,.leaf,8⟩),
 (180,⟨.other,.leaf,8⟩),
 (183,⟨.slice 149,.d (.lst (.pair (.pair (.int .i64) (.pair (.int .i64) (.unit))) (.pair (.bool) (.unit)))),24⟩),
 (184,⟨.other,.leaf,8⟩),
 (185,⟨.int .u32,.d (.int .u32),4⟩),
 (186,⟨.other,.leaf,8⟩),
 (187,⟨.int .u64,.d (.int .u64),8⟩),
 (188,⟨.other,.leaf,8⟩),
 (189,⟨.other,.leaf,8⟩),
 (190,⟨.int .i64,.d (.int .i64),8⟩),
 (192,⟨.other,.leaf,8⟩),
 (193,⟨.other,.leaf,8⟩),
 (194,⟨.other,.leaf,8⟩),
 (195,⟨.other,.leaf,8⟩),
 (196,⟨.other,.leaf,8⟩),
 (197,⟨.other,.leaf,8⟩),
 (198,⟨.arr 32 5,.d (.arr 32 (.int .u8)),32⟩),
 (199,⟨.arr 64 5,.d (.arr 64 (.int .u8)),64⟩),
 (200,⟨.int .u64,.d (.int .u64),8⟩),
 (201,⟨.other,.leaf,8⟩),
 (202,⟨.other,.leaf,8⟩),
 (203,⟨.other,.leaf,8⟩),
 (204,⟨.other,.leaf,8⟩),
 (205,⟨.other,.leaf,8⟩),
 (206,⟨.other,.leaf,8⟩),
 (208,⟨.other,.leaf,8⟩),
 (209,⟨.other,.leaf,8⟩),
 (218,⟨.other,.leaf,8⟩)
]
@[reducible] def asT (T:Type) (x:T):T:=x
abbrev LIt:=List Int
abbrev LMt:=List (List Int)
abbrev tIt:Ty:=.int .i64
abbrev tLt:Ty:=.lst (.int .i64)
abbrev tQ1:Ty:=.pair (.pair tIt (.pair tIt .unit)) (.pair .bool .unit)
abbrev tQ2:Ty:=.pair (.arr 6 tIt) (.pair (.arr 6 tIt) .unit)
abbrev tQ3:Ty:=.pair (.lst tLt) (.pair (.lst tLt) .unit)
abbrev TQ4:Type:=((Int)×((Int)×(Unit)))×((Bool)×(Unit))
abbrev TQ5:Type:=LMt×(LMt×(Unit))
abbrev TQ6:Type:=(Bool)×((Int)×((Int)×((List ((Bool)×((Int)×((Int)×((List (Unit))×(Unit))))))×(Unit))))
abbrev TQ7:Type:=LIt×(LIt×(Unit))
abbrev tQ8:Ty:=.pair .bool (.pair tIt (.pair tIt (.pair (.lst (.pair .bool (.pair tIt (.pair tIt (.pair (.lst .unit) .unit))))) .unit)))
abbrev TQ9:Type:=(Bool)×((Int)×((Int)×((List (Unit))×(Unit))))
abbrev TQ10:Type:=(Int)×(Unit)
abbrev tQ11:Ty:=.pair .bool .unit
abbrev TQ12:Type:=List (LIt×(Int))
abbrev tQ13:Ty:=.pair tIt .unit
abbrev tQ14:Ty:=.pair .bool (.pair tIt (.pair tIt (.pair (.lst tQ8) .unit)))
abbrev tQ15:Ty:=.pair .bool (.pair tIt (.pair tIt (.pair (.lst .unit) .unit)))
abbrev TQ16:Type:=(Bool)×(Unit)
abbrev TQ17:Type:=TQ7×(TQ7×TQ10)
abbrev TQ18:Type:=TQ4×(TQ4×TQ10)
abbrev tQ19:Ty:=.pair tQ2 tQ11
abbrev tQ20:Ty:=.pair tQ1 tQ11
abbrev tQ21:Ty:=.pair tQ3 (.pair (.map (.arr 6 tIt) tIt) .unit)
abbrev tQ22:Ty:=.pair tQ2 tQ13
abbrev tQ23:Ty:=.pair tQ1 tQ13
abbrev TQ24:Type:=((Int)×TQ10)×(Int)
abbrev TQ25:Type:=List ((Int)×(Int))
abbrev tQ26:Ty:=.pair tQ2 .unit
abbrev tQ27:Ty:=.pair tLt (.pair .bool tQ13)
abbrev bdy (f:Func):Code:=f.body.getD .skip
abbrev mkAn (N:Nat) (lo:List (Nat×(List Nat×List Nat)×(List Nat×List Nat))) (fr:List (Nat×List Nat)) (a b:List (Nat×Told)) (c:List (Nat×RSh)) (n:Nat):Ann:={ loops:=lo,frz:=fr,L:=toldL N a,Li:=toldL N b,fuel:=fun _ _ _=>N,R:=toldR c,ntR:=n }
theorem lokT {P:Program} {Γ:Cfg} {N n:Nat} {lo:List (Nat×(List Nat×List Nat)×(List Nat×List Nat))} {fr:List (Nat×List Nat)} {a:List (Nat×Told)} {fn:Func} (h:LOk0 Γ (mkAn N lo fr a [] [] n) (fn.body.getD .skip)):LOkF P Γ (mkAn N lo fr a [] [] n) fn:=lokF_of h (q0R [] rfl rfl trivial) (z4O [] rfl trivial)
theorem lokE {P:Program} {Γ:Cfg} {N n:Nat} {lo:List (Nat×(List Nat×List Nat)×(List Nat×List Nat))} {fr:List (Nat×List Nat)} {fn:Func}:LOkF P Γ (mkAn N lo fr [] [] [] n) fn:=lokT (q0R [] rfl rfl trivial)
@[reducible] def Vw73_0:Ty:=.pair (.bool) (.pair (.int .i64) (.pair (.int .i64) (.pair (.lst (.pair (.bool) (.pair (.int .i64) (.pair (.int .i64) (.pair (.lst (.unit)) (.unit)))))) (.unit))))
@[reducible] def Vw78_0:Ty:=.pair (.bool) (.pair (.int .i64) (.pair (.int .i64) (.pair (.lst (.pair (.bool) (.pair (.int .i64) (.pair (.int .i64) (.pair (.lst (.unit)) (.unit)))))) (.unit))))
def tab0:List (Nat×TI):=[(71,⟨.slice 73,.d (.lst (.pair (.bool) (.pair (.int .i64) (.pair (.int .i64) (.pair (.lst (.unit)) (.unit)))))),24⟩),
 (72,⟨.struct [4,3,3,71],.d (.pair (.bool) (.pair (.int .i64) (.pair (.int .i64) (.pair (.lst (.pair (.bool) (.pair (.int .i64) (.pair (.int .i64) (.pair (.lst (.unit)) (.unit)))))) (.unit))))),48⟩),
 (73,⟨.struct [4,3,3,71],.d (Vw73_0),48⟩),
 (76,⟨.slice 78,.d (.lst (.pair (.bool) (.pair (.int .i64) (.pair (.int .i64) (.pair (.lst (.unit)) (.unit)))))),24⟩),
 (77,⟨.struct [4,3,3,76],.d (.pair (.bool) (.pair (.int .i64) (.pair (.int .i64) (.pair (.lst (.pair (.bool) (.pair (.int .i64) (.pair (.int .i64) (.pair (.lst (.unit)) (.unit)))))) (.unit))))),48⟩),
 (78,⟨.struct [4,3,3,76],.d (Vw78_0),48⟩)] ++ tab
theorem tab0_ok:tabB Tryd.prog tab0 = true:=by kernel_rfl
@[reducible] def Vw73_1:Ty:=.pair (.bool) (.pair (.int .i64) (.pair (.int .i64) (.pair (.lst (Vw73_0)) (.unit))))
@[reducible] def Vw78_1:Ty:=.pair (.bool) (.pair (.int .i64) (.pair (.int .i64) (.pair (.lst (Vw78_0)) (.unit))))
def tab1:List (Nat×TI):=[(71,⟨.slice 73,.d (.lst (Vw73_0)),24⟩),
 (72,⟨.struct [4,3,3,71],.d (.pair (.bool) (.pair (.int .i64) (.pair (.int .i64) (.pair (.lst (Vw73_0)) (.unit))))),48⟩),
 (73,⟨.struct [4,3,3,71],.d (Vw73_1),48⟩),
 (76,⟨.slice 78,.d (.lst (Vw78_0)),24⟩),
 (77,⟨.struct [4,3,3,76],.d (.pair (.bool) (.pair (.int .i64) (.pair (.int .i64) (.pair (.lst (Vw78_0)) (.unit))))),48⟩),
 (78,⟨.struct [4,3,3,76],.d (Vw78_1),48⟩)] ++ tab
theorem tab1_ok:tabB Tryd.prog tab1 = true:=by kernel_rfl
theorem tab_ok:tabB Tryd.prog tab = true:=by kernel_rfl
theorem mixed:Tryd.prog.follows .mixedOrders = true:=by kernel_rfl
def ks:List Nat:=[3,106,114,124,149]
theorem ks_ok:keysB Tryd.prog tab ks = true:=by kernel_rfl
theorem ks0_ok:keysB Tryd.prog tab0 ks = true:=by kernel_rfl
theorem ks1_ok:keysB Tryd.prog tab1 ks = true:=by kernel_rfl
def tab32b:List Int:=[0,1,28,2,29,14,24,3,30,22,20,15,25,17,4,8,31,27,13,23,21,19,16,7,26,12,18,6,11,5,10,9]
def tab64b:List Int:=[0,1,56,2,57,49,28,3,61,58,42,50,38,29,17,4,62,47,59,36,45,43,51,22,53,39,33,30,24,18,12,5,63,55,48,27,60,41,37,16,46,35,44,21,52,32,23,11,54,26,40,15,34,20,31,10,25,14,19,9,13,8,7,6]
def glob:Nat→Option V:=fun g=>bif Nat.beq g 0 then some (.dat (.arr 32 (.int .u8)) tab32b) else bif Nat.beq g 1 then some (.dat (.arr 64 (.int .u8)) tab64b) else none
def G0 (N:Nat):Cfg:=Cfg.base tab glob ks
theorem ok0 (N:Nat):q0A Tryd.prog (G0 N):=base_ok mixed tab_ok ks_ok
def g16 (N:Nat) (a0:Int):Option (Int) :=
 some (IntKind.wrap .i64 (1 + (IntKind.wrap .i64 (Int.tmod (IntKind.wrap .u64 a0) 3))))
def g16An (N:Nat):Ann:=mkAn N [] [] [] [] [] 8
def G16 (N:Nat):Cfg:=(G0 N).add 16 (Spec.one [.d tIt] tIt (fun a=>g16 N a.1))
theorem G16_ok (N:Nat):q0A Tryd.prog (G16 N):=add_one [.d tIt] tIt (fun a=>g16 N a.1) [] [] (g16An N) (ok0 N) Tryd.func16 (by kernel_rfl) (by kernel_rfl) lokE (.inr rfl) fun a=>by kernel_rfl
def q6U (N:Nat) {C:Type} (rec:Int→Int→Int→Int→TQ5→LIt→LIt→LMt→LMt→LMt→LMt→Option C) (k0:Int→Int→Int→TQ5→LIt→LIt→LMt→LMt→LMt→LMt→Option C) (t2 t7:Int) (t9 t12:Int) (o3:LMt×(LMt×(Unit))) (o10 o11:List (Int)) (o1384 o1385:List LIt) (o1512 o1513:List LIt):Option C :=
 bif (decide ((t12:Int) < t2)) then bif (decide ((t9:Int) < ((List.length o3.1:Nat):Int))) then if idx t9 (List.length o3.1) then bif (decide ((t12:Int) < ((List.length (List.getD o3.1 (Int.toNat t9) ([]:List (Int))):Nat):Int))) then if idx t9 (List.length o3.1) then if idx t12 (List.length (List.getD o3.1 (Int.toNat t9) ([]:List (Int)))) then if (IntKind.wrap .u64 t7) = 0 then none else bif (decide ((t9:Int) < ((List.length o3.2.1:Nat):Int))) then if idx t9 (List.length o3.2.1) then bif (decide ((t12:Int) < ((List.length (List.getD o3.2.1 (Int.toNat t9) ([]:List (Int))):Nat):Int))) then if idx t9 (List.length o3.2.1) then if idx t12 (List.length (List.getD o3.2.1 (Int.toNat t9) ([]:List (Int)))) then if List.length o10 + List.length [(IntKind.wrap .i64 (Int.tmod (IntKind.wrap .u64 (List.getD (List.getD o3.1 (Int.toNat t9) ([]:List (Int))) (Int.toNat t12) 0)) (IntKind.wrap .u64 t7)))] ≤ maxCount then if List.length o11 + List.length [(IntKind.wrap .i64 (Int.tmod (IntKind.wrap .u64 (List.getD (List.getD o3.2.1 (Int.toNat t9) ([]:List (Int))) (Int.toNat t12) 0)) 4))] ≤ maxCount then (rec t2 t7 t9 (IntKind.wrap .i64 (t12 + 1)) o3 (o10 ++ [(IntKind.wrap .i64 (Int.tmod (IntKind.wrap .u64 (List.getD (List.getD o3.1 (Int.toNat t9) ([]:List (Int))) (Int.toNat t12) 0)) (IntKind.wrap .u64 t7)))]) (o11 ++ [(IntKind.wrap .i64 (Int.tmod (IntKind.wrap .u64 (List.getD (List.getD o3.2.1 (Int.toNat t9) ([]:List (Int))) (Int.toNat t12) 0)) 4))]) o1384 o1385 o1512 o1513) else none else none else none else none else if List.length o10 + List.length [(IntKind.wrap .i64 (Int.tmod (IntKind.wrap .u64 (List.getD (List.getD o3.1 (Int.toNat t9) ([]:List (Int))) (Int.toNat t12) 0)) (IntKind.wrap .u64 t7)))] ≤ maxCount then if List.length o11 + List.length [0] ≤ maxCount then (rec t2 t7 t9 (IntKind.wrap .i64 (t12 + 1)) o3 (o10 ++ [(IntKind.wrap .i64 (Int.tmod (IntKind.wrap .u64 (List.getD (List.getD o3.1 (Int.toNat t9) ([]:List (Int))) (Int.toNat t12) 0)) (IntKind.wrap .u64 t7)))]) (o11 ++ [0]) o1384 o1385 o1512 o1513) else none else none else none else if List.length o10 + List.length [(IntKind.wrap .i64 (Int.tmod (IntKind.wrap .u64 (List.getD (List.getD o3.1 (Int.toNat t9) ([]:List (Int))) (Int.toNat t12) 0)) (IntKind.wrap .u64 t7)))] ≤ maxCount then if List.length o11 + List.length [0] ≤ maxCount then (rec t2 t7 t9 (IntKind.wrap .i64 (t12 + 1)) o3 (o10 ++ [(IntKind.wrap .i64 (Int.tmod (IntKind.wrap .u64 (List.getD (List.getD o3.1 (Int.toNat t9) ([]:List (Int))) (Int.toNat t12) 0)) (IntKind.wrap .u64 t7)))]) (o11 ++ [0]) o1384 o1385 o1512 o1513) else none else none else none else none else bif (decide ((t9:Int) < ((List.length o3.2.1:Nat):Int))) then if idx t9 (List.length o3.2.1) then bif (decide ((t12:Int) < ((List.length (List.getD o3.2.1 (Int.toNat t9) ([]:List (Int))):Nat):Int))) then if idx t9 (List.length o3.2.1) then if idx t12 (List.length (List.getD o3.2.1 (Int.toNat t9) ([]:List (Int)))) then if List.length o10 + List.length [0] ≤ maxCount then if List.length o11 + List.length [(IntKind.wrap .i64 (Int.tmod (IntKind.wrap .u64 (List.getD (List.getD o3.2.1 (Int.toNat t9) ([]:List (Int))) (Int.toNat t12) 0)) 4))] ≤ maxCount then (rec t2 t7 t9 (IntKind.wrap .i64 (t12 + 1)) o3 (o10 ++ [0]) (o11 ++ [(IntKind.wrap .i64 (Int.tmod (IntKind.wrap .u64 (List.getD (List.getD o3.2.1 (Int.toNat t9) ([]:List (Int))) (Int.toNat t12) 0)) 4))]) o1384 o1385 o1512 o1513) else none else none else none else none else if List.length o10 + List.length [0] ≤ maxCount then if List.length o11 + List.length [0] ≤ maxCount then (rec t2 t7 t9 (IntKind.wrap .i64 (t12 + 1)) o3 (o10 ++ [0]) (o11 ++ [0]) o1384 o1385 o1512 o1513) else none else none else none else if List.length o10 + List.length [0] ≤ maxCount then if List.length o11 + List.length [0] ≤ maxCount then (rec t2 t7 t9 (IntKind.wrap .i64 (t12 + 1)) o3 (o10 ++ [0]) (o11 ++ [0]) o1384 o1385 o1512 o1513) else none else none else none else bif (decide ((t9:Int) < ((List.length o3.2.1:Nat):Int))) then if idx t9 (List.length o3.2.1) then bif (decide ((t12:Int) < ((List.length (List.getD o3.2.1 (Int.toNat t9) ([]:List (Int))):Nat):Int))) then if idx t9 (List.length o3.2.1) then if idx t12 (List.length (List.getD o3.2.1 (Int.toNat t9) ([]:List (Int)))) then if List.length o10 + List.length [0] ≤ maxCount then if List.length o11 + List.length [(IntKind.wrap .i64 (Int.tmod (IntKind.wrap .u64 (List.getD (List.getD o3.2.1 (Int.toNat t9) ([]:List (Int))) (Int.toNat t12) 0)) 4))] ≤ maxCount then (rec t2 t7 t9 (IntKind.wrap .i64 (t12 + 1)) o3 (o10 ++ [0]) (o11 ++ [(IntKind.wrap .i64 (Int.tmod (IntKind.wrap .u64 (List.getD (List.getD o3.2.1 (Int.toNat t9) ([]:List (Int))) (Int.toNat t12) 0)) 4))]) o1384 o1385 o1512 o1513) else none else none else none else none else if List.length o10 + List.length [0] ≤ maxCount then if List.length o11 + List.length [0] ≤ maxCount then (rec t2 t7 t9 (IntKind.wrap .i64 (t12 + 1)) o3 (o10 ++ [0]) (o11 ++ [0]) o1384 o1385 o1512 o1513) else none else none else none else if List.length o10 + List.length [0] ≤ maxCount then if List.length o11 + List.length [0] ≤ maxCount then (rec t2 t7 t9 (IntKind.wrap .i64 (t12 + 1)) o3 (o10 ++ [0]) (o11 ++ [0]) o1384 o1385 o1512 o1513) else none else none else (k0 t2 t7 t9 o3 o10 o11 o1384 o1385 o1512 o1513)
abbrev z6B:List Sh1:=[.a (.d tIt),.a (.ref 3 0 []),.a (.ref 6 0 []),.a (.d tIt),.a (.ref 8 0 []),.a (.d tIt),.a (.sl tIt 10 0),.a (.sl tIt 11 0),.a (.d tIt)]
abbrev z5R:List OSh:=[.box (.d tQ3) (.a (.d tQ3)),.box (.d tQ3) (.agg [.sl tLt 1384 0,.sl tLt 1385 0]),.box (.d tQ3) (.agg [.sl tLt 1512 0,.sl tLt 1513 0]),.vec tIt,.vec tIt,.vec tLt,.vec tLt,.vec tLt,.vec tLt]
def g15L31306 (N:Nat) {C:Type} (k0:Int→Int→Int→TQ5→LIt→LIt→LMt→LMt→LMt→LMt→Option C) (t2 t7:Int) (t9 t12:Int) (o3:LMt×(LMt×(Unit))) (o10 o11:List (Int)) (o1384 o1385:List LIt) (o1512 o1513:List LIt):Option C :=
 itP (α:=q0I z6B×q0E z5R) (fun rec a=>q6U N (fun t2 t7 t9 t12 o3 o10 o11 o1384 o1385 o1512 o1513=>rec ((t2,(),(),t7,(),t9,(),(),t12,()),(o3,((),(),()),((),(),()),o10,o11,o1384,o1385,o1512,o1513,()))) k0 a.1.1 a.1.2.2.2.1 a.1.2.2.2.2.2.1 a.1.2.2.2.2.2.2.2.2.1 a.2.1 a.2.2.2.2.1 a.2.2.2.2.2.1 a.2.2.2.2.2.2.1 a.2.2.2.2.2.2.2.1 a.2.2.2.2.2.2.2.2.1 a.2.2.2.2.2.2.2.2.2.1) N ((t2,(),(),t7,(),t9,(),(),t12,()),(o3,((),(),()),((),(),()),o10,o11,o1384,o1385,o1512,o1513,()))
def g15L31306T (N:Nat):Told:={ nt:=110,sv:=z6B,so:=z5R,run:=fun K' rec a=>q6U N (fun t2 t7 t9 t12 o3 o10 o11 o1384 o1385 o1512 o1513=>rec ((t2,(),(),t7,(),t9,(),(),t12,()),(o3,((),(),()),((),(),()),o10,o11,o1384,o1385,o1512,o1513,()))) (fun et2 et7 et9 eo3 eo10 eo11 eo1384 eo1385 eo1512 eo1513=>K' (.exit 2) (build 110 [2,3,6,7,8,9,10,11] [3,6,8,10,11,1384,1385,1512,1513] [(.dat tIt et2),(.ref 3 0 []),(.ref 6 0 []),(.dat tIt et7),(.ref 8 0 []),(.dat tIt et9),(.sl tIt 10 0),(.sl tIt 11 0)] [(some (.box (.d tQ3) (.dat tQ3 eo3))),(some (.box (.d tQ3) (.agg [(.sl tLt 1384 0),(.sl tLt 1385 0)]))),(some (.box (.d tQ3) (.agg [(.sl tLt 1512 0),(.sl tLt 1513 0)]))),(some (.vec tIt eo10)),(some (.vec tIt eo11)),(some (.vec tLt eo1384)),(some (.vec tLt eo1385)),(some (.vec tLt eo1512)),(some (.vec tLt eo1513))])) a.1.1 a.1.2.2.2.1 a.1.2.2.2.2.2.1 a.1.2.2.2.2.2.2.2.2.1 a.2.1 a.2.2.2.2.1 a.2.2.2.2.2.1 a.2.2.2.2.2.2.1 a.2.2.2.2.2.2.2.1 a.2.2.2.2.2.2.2.2.1 a.2.2.2.2.2.2.2.2.2.1 }
def z3L (N:Nat) {C:Type} (rec:Int→Int→Int→TQ5→LMt→LMt→LMt→LMt→Option C) (k0:TQ5→LMt→LMt→LMt→LMt→Option C) (t2 t7 t9:Int) (o3:LMt×(LMt×(Unit))) (o1384 o1385:List LIt) (o1512 o1513:List LIt):Option C :=
 bif (decide ((t9:Int) < t7)) then g15L31306 N (fun e1 e2 e3 e4 e5 e6 e7 e8 e9 e10=>if List.length e9 + List.length [e5] ≤ maxCount then if List.length e10 + List.length [e6] ≤ maxCount then (rec e1 e2 (IntKind.wrap .i64 (e3 + 1)) e4 e7 e8 (e9 ++ [e5]) (e10 ++ [e6])) else none else none) t2 t7 t9 0 o3 ([]:List (Int)) ([]:List (Int)) o1384 o1385 o1512 o1513 else (k0 o3 o1384 o1385 o1512 o1513)
abbrev g15L122V:List Sh1:=[.a (.d tIt),.a (.ref 3 0 []),.a (.ref 6 0 []),.a (.d tIt),.a (.ref 8 0 []),.a (.d tIt)]
abbrev g15L122O:List OSh:=[.box (.d tQ3) (.a (.d tQ3)),.box (.d tQ3) (.agg [.sl tLt 1384 0,.sl tLt 1385 0]),.box (.d tQ3) (.agg [.sl tLt 1512 0,.sl tLt 1513 0]),.vec tLt,.vec tLt,.vec tLt,.vec tLt]
def g15L122 (N:Nat) {C:Type} (k0:TQ5→LMt→LMt→LMt→LMt→Option C) (t2 t7 t9:Int) (o3:LMt×(LMt×(Unit))) (o1384 o1385:List LIt) (o1512 o1513:List LIt):Option C :=
 itP (α:=q0I g15L122V×q0E g15L122O) (fun rec a=>z3L N (fun t2 t7 t9 o3 o1384 o1385 o1512 o1513=>rec ((t2,(),(),t7,(),t9,()),(o3,((),(),()),((),(),()),o1384,o1385,o1512,o1513,()))) k0 a.1.1 a.1.2.2.2.1 a.1.2.2.2.2.2.1 a.2.1 a.2.2.2.2.1 a.2.2.2.2.2.1 a.2.2.2.2.2.2.1 a.2.2.2.2.2.2.2.1) N ((t2,(),(),t7,(),t9,()),(o3,((),(),()),((),(),()),o1384,o1385,o1512,o1513,()))
def g15L122T (N:Nat):Told:={ nt:=110,sv:=g15L122V,so:=g15L122O,run:=fun K' rec a=>z3L N (fun t2 t7 t9 o3 o1384 o1385 o1512 o1513=>rec ((t2,(),(),t7,(),t9,()),(o3,((),(),()),((),(),()),o1384,o1385,o1512,o1513,()))) (fun eo3 eo1384 eo1385 eo1512 eo1513=>K' (.exit 0) (build 110 [6,8] [3,6,8,1384,1385,1512,1513] [(.ref 6 0 []),(.ref 8 0 [])] [(some (.box (.d tQ3) (.dat tQ3 eo3))),(some (.box (.d tQ3) (.agg [(.sl tLt 1384 0),(.sl tLt 1385 0)]))),(some (.box (.d tQ3) (.agg [(.sl tLt 1512 0),(.sl tLt 1513 0)]))),(some (.vec tLt eo1384)),(some (.vec tLt eo1385)),(some (.vec tLt eo1512)),(some (.vec tLt eo1513))])) a.1.1 a.1.2.2.2.1 a.1.2.2.2.2.2.1 a.2.1 a.2.2.2.2.1 a.2.2.2.2.2.1 a.2.2.2.2.2.2.1 a.2.2.2.2.2.2.2.1 }
def g15 (N:Nat) (a0:LMt×(LMt×(Unit))) (a1 a2:Int):Option TQ5 :=
 g15L122 N (fun e11 e12 e13 e14 e15=>some (e14,e15,())) a2 (imax 1 (imin ((List.length a0.1:Nat):Int) a1)) 0 a0 ([]:List LIt) ([]:List LIt) ([]:List LIt) ([]:List LIt)
def g15Tl (N:Nat):List (Nat×Told):=[(122,g15L122T N),(31306,g15L31306T N)]
def g15An (N:Nat):Ann:=mkAn N [(122,([2,3,6,7,8,9],[3,6,8,1384,1385,1512,1513]),([6,8],[3,6,8,1384,1385,1512,1513])),(31306,([2,3,6,7,8,9,10,11,12],[3,6,8,10,11,1384,1385,1512,1513]),([2,3,6,7,8,9,10,11],[3,6,8,10,11,1384,1385,1512,1513]))] [(18,[10]),(19,[11])] (g15Tl N) [] [] 110
theorem g15L122_ok (N:Nat):q0P (((G16 N).q0F []).q0T []) (g15An N) (bdy Tryd.f15) 122 (g15L122T N):=⟨⟨loopBody (q0G (bdy Tryd.f15) 64 122),by kernel_rfl,fun K' rec a=>by kernel_rfl⟩,fun a=>by kernel_rfl⟩
theorem g15L31306_ok (N:Nat):q0P (((G16 N).q0F []).q0T []) (g15An N) (bdy Tryd.f15) 31306 (g15L31306T N):=⟨⟨loopBody (q0G (bdy Tryd.f15) 64 31306),by kernel_rfl,fun K' rec a=>by kernel_rfl⟩,fun a=>by kernel_rfl⟩
def G15 (N:Nat):Cfg:=(G16 N).add 15 (Spec.one [.d tQ3,.d tIt,.d tIt] tQ3 (fun a=>g15 N a.1 a.2.1 a.2.2.1))
theorem G15_ok (N:Nat):q0A Tryd.prog (G15 N):=add_one [.d tQ3,.d tIt,.d tIt] tQ3 (fun a=>g15 N a.1 a.2.1 a.2.2.1) [] [] (g15An N) (G16_ok N) Tryd.func15 (by kernel_rfl) (by kernel_rfl) (lokT (q0R (g15Tl N) rfl rfl ⟨g15L122_ok N,g15L31306_ok N,trivial⟩)) (.inr rfl) fun a=>by kernel_rfl
def g42 (N:Nat) (a0:List (Int)) (a1:Int):Option LIt :=
 if 0 ≤ (0:Int)∧(0:Int) ≤ (imin ((List.length a0:Nat):Int) a1)∧((imin ((List.length a0:Nat):Int) a1):Int) ≤ ((List.length a0:Nat):Int) then if List.length ([]:List (Int)) + List.length (List.drop (Int.toNat 0) (List.take (Int.toNat (imin ((List.length a0:Nat):Int) a1)) a0)) ≤ maxCount then some (([]:List (Int)) ++ (List.drop (Int.toNat 0) (List.take (Int.toNat (imin ((List.length a0:Nat):Int) a1)) a0))) else none else none
def g42An (N:Nat):Ann:=mkAn N [] [] [] [] [] 14
def G42 (N:Nat):Cfg:=(G15 N).add 42 (Spec.one [.d tLt,.d tIt] tLt (fun a=>g42 N a.1 a.2.1))
theorem G42_ok (N:Nat):q0A Tryd.prog (G42 N):=add_one [.d tLt,.d tIt] tLt (fun a=>g42 N a.1 a.2.1) [] [] (g42An N) (G15_ok N) Tryd.func42 (by kernel_rfl) (by kernel_rfl) lokE (.inr rfl) fun a=>by kernel_rfl
def j0Y (N:Nat) {C:Type} (rec:LMt→Int→LMt→Option C) (k0:LMt→Option C) (t0:List LIt) (t4:Int) (o3:List LIt):Option C :=
 bif (decide ((t4:Int) < ((List.length t0:Nat):Int))) then bif (decide ((t4:Int) ≤ 6)) then if idx t4 (List.length t0) then Option.bind (g42 N (List.getD t0 (Int.toNat t4) ([]:List (Int))) 4) fun r1=>if List.length o3 + List.length [r1] ≤ maxCount then (rec t0 (IntKind.wrap .i64 (t4 + 1)) (o3 ++ [r1])) else none else none else (k0 o3) else (k0 o3)
def g59L58 (N:Nat) {C:Type} (k0:LMt→Option C) (t0:List LIt) (t4:Int) (o3:List LIt):Option C :=
 itP (α:=q0I [.a (.d (.lst tLt)),.a (.sl tLt 3 0),.a (.d tIt)]×q0E [.vec tLt]) (fun rec a=>j0Y N (fun t0 t4 o3=>rec ((t0,(),t4,()),(o3,()))) k0 a.1.1 a.1.2.2.1 a.2.1) N ((t0,(),t4,()),(o3,()))
def g59L58T (N:Nat):Told:={ nt:=24,sv:=[.a (.d (.lst tLt)),.a (.sl tLt 3 0),.a (.d tIt)],so:=[.vec tLt],run:=fun K' rec a=>j0Y N (fun t0 t4 o3=>rec ((t0,(),t4,()),(o3,()))) (fun eo3=>K' (.exit 0) (build 24 [3] [3] [(.sl tLt 3 0)] [(some (.vec tLt eo3))])) a.1.1 a.1.2.2.1 a.2.1 }
def g59 (N:Nat) (a0:List LIt):Option LMt :=
 g59L58 N (fun e2=>some e2) a0 0 ([]:List LIt)
def g59Tl (N:Nat):List (Nat×Told):=[(58,g59L58T N)]
def g59An (N:Nat):Ann:=mkAn N [(58,([0,3,4],[3]),([3],[3]))] [] (g59Tl N) [] [] 24
theorem g59L58_ok (N:Nat):q0P (((G42 N).q0F []).q0T []) (g59An N) (bdy Tryd.f59) 58 (g59L58T N):=⟨⟨loopBody (q0G (bdy Tryd.f59) 64 58),by kernel_rfl,fun K' rec a=>by kernel_rfl⟩,fun a=>by kernel_rfl⟩
def G59 (N:Nat):Cfg:=(G42 N).add 59 (Spec.one [.d (.lst tLt)] (.lst tLt) (fun a=>g59 N a.1))
theorem G59_ok (N:Nat):q0A Tryd.prog (G59 N):=add_one [.d (.lst tLt)] (.lst tLt) (fun a=>g59 N a.1) [] [] (g59An N) (G42_ok N) Tryd.func59 (by kernel_rfl) (by kernel_rfl) (lokT (q0R (g59Tl N) rfl rfl ⟨g59L58_ok N,trivial⟩)) (.inr rfl) fun a=>by kernel_rfl
def g18 (N:Nat) (a0:LMt×(LMt×(Unit))):Option TQ5 :=
 Option.bind (g59 N a0.1) fun r1=>Option.bind (g59 N a0.2.1) fun r2=>some (r1,r2,())
def g18An (N:Nat):Ann:=mkAn N [] [] [] [] [] 10
def G18 (N:Nat):Cfg:=(G59 N).add 18 (Spec.one [.d tQ3] tQ3 (fun a=>g18 N a.1))
theorem G18_ok (N:Nat):q0A Tryd.prog (G18 N):=add_one [.d tQ3] tQ3 (fun a=>g18 N a.1) [] [] (g18An N) (G59_ok N) Tryd.func18 (by kernel_rfl) (by kernel_rfl) lokE (.inr rfl) fun a=>by kernel_rfl
def g107 (N:Nat) (a0 a1 a2:Int):Option (Bool) :=
 bif (decide ((a0:Int) < a1)) then some true else some (decide ((a2:Int) < a0))
def g107An (N:Nat):Ann:=mkAn N [] [] [] [] [] 13
def G107 (N:Nat):Cfg:=(G18 N).add 107 (Spec.one [.d tIt,.p tIt,.p tIt] .bool (fun a=>g107 N a.1 a.2.1 a.2.2.1))
theorem G107_ok (N:Nat):q0A Tryd.prog (G107 N):=add_one [.d tIt,.p tIt,.p tIt] .bool (fun a=>g107 N a.1 a.2.1 a.2.2.1) [] [] (g107An N) (G18_ok N) Tryd.func107 (by kernel_rfl) (by kernel_rfl) lokE (.inr rfl) fun a=>by kernel_rfl
def Gh107 (N:Nat):Cfg:=(G107 N).hand 107 tQ13 .bool
theorem Gh107_ok (N:Nat):q0A Tryd.prog (Gh107 N):=hand_ok (G107_ok N) ⟨Tryd.f107,Tryd.func107,by kernel_rfl,by kernel_rfl⟩
def z2Z (N:Nat) {C:Type} (rec:LIt→(TQ10→Option (Bool))→Int→Int→Option C) (k0:Int→Option C) (k1:Option C) (t0:List (Int)) (t1:TQ10→Option (Bool)) (t7 t8:Int):Option C :=
 bif (decide ((t8:Int) < t7)) then if idx t8 (List.length t0) then Option.bind (t1 ((List.getD t0 (Int.toNat t8) 0),())) fun r1=>bif r1 then (k0 t8) else (rec t0 t1 t7 (IntKind.wrap .i64 (t8 + 1))) else none else k1
def g121L26 (N:Nat) {C:Type} (k0:Int→Option C) (k1:Option C) (t0:List (Int)) (t1:TQ10→Option (Bool)) (t7 t8:Int):Option C :=
 itP (α:=q0I [.a (.d tLt),.a (.c tQ13 .bool),.a (.d tIt),.a (.d tIt)]×q0E []) (fun rec a=>z2Z N (fun t0 t1 t7 t8=>rec ((t0,t1,t7,t8,()),(()))) k0 k1 a.1.1 a.1.2.1 a.1.2.2.1 a.1.2.2.2.1) N ((t0,t1,t7,t8,()),(()))
def g121L26T (N:Nat):Told:={ nt:=19,sv:=[.a (.d tLt),.a (.c tQ13 .bool),.a (.d tIt),.a (.d tIt)],so:=[],run:=fun K' rec a=>z2Z N (fun t0 t1 t7 t8=>rec ((t0,t1,t7,t8,()),(()))) (fun et4=>K' .ret (build 19 [4] [] [(.dat tIt et4)] [])) (K' (.exit 0) (build 19 [4] [] [.junk] [])) a.1.1 a.1.2.1 a.1.2.2.1 a.1.2.2.2.1 }
def g121 (N:Nat) (a0:List (Int)) (a1:TQ10→Option (Bool)):Option (Int) :=
 g121L26 N (fun e2=>some e2) (some (-1)) a0 a1 ((List.length a0:Nat):Int) 0
def g121Tl (N:Nat):List (Nat×Told):=[(26,g121L26T N)]
def g121An (N:Nat):Ann:=mkAn N [(26,([0,1,7,8],[]),([4],[]))] [] (g121Tl N) [] [] 19
theorem g121L26_ok (N:Nat):q0P (((Gh107 N).q0F []).q0T []) (g121An N) (bdy Tryd.f121) 26 (g121L26T N):=⟨⟨loopBody (q0G (bdy Tryd.f121) 64 26),by kernel_rfl,fun K' rec a=>by kernel_rfl⟩,fun a=>by kernel_rfl⟩
def G121 (N:Nat):Cfg:=(Gh107 N).add 121 (Spec.one [.d tLt,.c tQ13 .bool] tIt (fun a=>g121 N a.1 a.2.1))
theorem G121_ok (N:Nat):q0A Tryd.prog (G121 N):=add_one [.d tLt,.c tQ13 .bool] tIt (fun a=>g121 N a.1 a.2.1) [] [] (g121An N) (Gh107_ok N) Tryd.func121 (by kernel_rfl) (by kernel_rfl) (lokT (q0R (g121Tl N) rfl rfl ⟨g121L26_ok N,trivial⟩)) (.inr rfl) fun a=>by kernel_rfl
def g106 (N:Nat) (a0:List (Int)) (a1:TQ10→Option (Bool)):Option (Bool) :=
 Option.bind (g121 N a0 a1) fun r1=>some (decide ((0:Int) ≤ r1))
def g106An (N:Nat):Ann:=mkAn N [] [] [] [] [] 9
def G106 (N:Nat):Cfg:=(G121 N).add 106 (Spec.one [.d tLt,.c tQ13 .bool] .bool (fun a=>g106 N a.1 a.2.1))
theorem G106_ok (N:Nat):q0A Tryd.prog (G106 N):=add_one [.d tLt,.c tQ13 .bool] .bool (fun a=>g106 N a.1 a.2.1) [] [] (g106An N) (G121_ok N) Tryd.func106 (by kernel_rfl) (by kernel_rfl) lokE (.inr rfl) fun a=>by kernel_rfl
def g82 (N:Nat) (a0 a1:Int) (a2:List (Int)):Option (Bool) :=
 Option.bind (g106 N a2 (fun (x1:(Int)×(Unit))=>Option.bind (g107 N x1.1 a0 a1) fun y2=>some y2)) fun r3=>some (!r3)
def g82An (N:Nat):Ann:=mkAn N [] [(1,[4,3])] [] [] [] 11
def G82 (N:Nat):Cfg:=(G106 N).add 82 (Spec.one [.d tIt,.d tIt,.d tLt] .bool (fun a=>g82 N a.1 a.2.1 a.2.2.1))
theorem G82_ok (N:Nat):q0A Tryd.prog (G82 N):=add_one [.d tIt,.d tIt,.d tLt] .bool (fun a=>g82 N a.1 a.2.1 a.2.2.1) [] [] (g82An N) (G106_ok N) Tryd.func82 (by kernel_rfl) (by kernel_rfl) lokE (.inr rfl) fun a=>by kernel_rfl
def g85 (N:Nat) (a0:LMt×(LMt×(Unit))):Option (Int) :=
 if idx 0 (List.length a0.1) then some ((List.length (List.getD a0.1 (Int.toNat 0) ([]:List (Int))):Nat):Int) else none
def g85An (N:Nat):Ann:=mkAn N [] [] [] [] [] 8
def G85 (N:Nat):Cfg:=(G82 N).add 85 (Spec.one [.d tQ3] tIt (fun a=>g85 N a.1))
theorem G85_ok (N:Nat):q0A Tryd.prog (G85 N):=add_one [.d tQ3] tIt (fun a=>g85 N a.1) [] [] (g85An N) (G82_ok N) Tryd.func85 (by kernel_rfl) (by kernel_rfl) lokE (.inr rfl) fun a=>by kernel_rfl
def z4T (N:Nat) {C:Type} (rec:Int→LMt→Int→Int→TQ5→Option C) (k0:Int→TQ5→Option C) (k1:TQ5→Option C) (t3:Int) (t31:List LIt) (t32 t33:Int) (o1:LMt×(LMt×(Unit))):Option C :=
 bif (decide ((t33:Int) < t32)) then if idx t33 (List.length t31) then Option.bind (g85 N o1) fun r3=>bif (!ieq ((List.length (List.getD t31 (Int.toNat t33) ([]:List (Int))):Nat):Int) r3) then (k0 90 o1) else if idx t33 (List.length o1.2.1) then Option.bind (g85 N o1) fun r4=>bif (!ieq ((List.length (List.getD o1.2.1 (Int.toNat t33) ([]:List (Int))):Nat):Int) r4) then (k0 90 o1) else Option.bind (g82 N 0 (IntKind.wrap .i64 (t3 - 1)) (List.getD t31 (Int.toNat t33) ([]:List (Int)))) fun r5=>bif (!r5) then (k0 90 o1) else if idx t33 (List.length o1.2.1) then Option.bind (g82 N 0 3 (List.getD o1.2.1 (Int.toNat t33) ([]:List (Int)))) fun r6=>bif (!r6) then (k0 90 o1) else (rec t3 t31 t32 (IntKind.wrap .i64 (t33 + 1)) o1) else none else none else none else (k1 o1)
abbrev g57L122V:List Sh1:=[.a (.ref 1 0 []),.a (.d tIt),.a (.d (.lst tLt)),.a (.d tIt),.a (.d tIt)]
abbrev g57L122O:List OSh:=[.box (.d tQ3) (.a (.d tQ3))]
def g57L122 (N:Nat) {C:Type} (k0:Int→TQ5→Option C) (k1:TQ5→Option C) (t3:Int) (t31:List LIt) (t32 t33:Int) (o1:LMt×(LMt×(Unit))):Option C :=
 itP (α:=q0I g57L122V×q0E g57L122O) (fun rec a=>z4T N (fun t3 t31 t32 t33 o1=>rec (((),t3,t31,t32,t33,()),(o1,()))) k0 k1 a.1.2.1 a.1.2.2.1 a.1.2.2.2.1 a.1.2.2.2.2.1 a.2.1) N (((),t3,t31,t32,t33,()),(o1,()))
def g57L122T (N:Nat):Told:={ nt:=71,sv:=g57L122V,so:=g57L122O,run:=fun K' rec a=>z4T N (fun t3 t31 t32 t33 o1=>rec (((),t3,t31,t32,t33,()),(o1,()))) (fun et2 eo1=>K' .ret (build 71 [2] [1] [(.dat tIt et2)] [(some (.box (.d tQ3) (.dat tQ3 eo1)))])) (fun eo1=>K' (.exit 0) (build 71 [2] [1] [.junk] [(some (.box (.d tQ3) (.dat tQ3 eo1)))])) a.1.2.1 a.1.2.2.1 a.1.2.2.2.1 a.1.2.2.2.2.1 a.2.1 }
def g57 (N:Nat) (a0:LMt×(LMt×(Unit))):Option (Int) :=
 Option.bind (g82 N 1 6 [((List.length a0.1:Nat):Int)]) fun r1=>bif (!r1) then some 90 else bif (!ieq ((List.length a0.2.1:Nat):Int) ((List.length a0.1:Nat):Int)) then some 90 else if idx 0 (List.length a0.1) then Option.bind (g82 N 1 3 [((List.length (List.getD a0.1 (Int.toNat 0) ([]:List (Int))):Nat):Int)]) fun r2=>bif (!r2) then some 90 else g57L122 N (fun e7 e8=>some e7) (fun e9=>some 0) ((List.length a0.1:Nat):Int) a0.1 ((List.length a0.1:Nat):Int) 0 a0 else none
def g57Tl (N:Nat):List (Nat×Told):=[(122,g57L122T N)]
def g57An (N:Nat):Ann:=mkAn N [(122,([1,3,31,32,33],[1]),([2],[1]))] [] (g57Tl N) [] [] 71
theorem g57L122_ok (N:Nat):q0P (((G85 N).q0F []).q0T []) (g57An N) (bdy Tryd.f57) 122 (g57L122T N):=⟨⟨loopBody (q0G (bdy Tryd.f57) 64 122),by kernel_rfl,fun K' rec a=>by kernel_rfl⟩,fun a=>by kernel_rfl⟩
def G57 (N:Nat):Cfg:=(G85 N).add 57 (Spec.one [.d tQ3] tIt (fun a=>g57 N a.1))
theorem G57_ok (N:Nat):q0A Tryd.prog (G57 N):=add_one [.d tQ3] tIt (fun a=>g57 N a.1) [] [] (g57An N) (G85_ok N) Tryd.func57 (by kernel_rfl) (by kernel_rfl) (lokT (q0R (g57Tl N) rfl rfl ⟨g57L122_ok N,trivial⟩)) (.inr rfl) fun a=>by kernel_rfl
def g76 (N:Nat) (a0:LMt×(LMt×(Unit))):Option (Int) :=
 some ((List.length a0.1:Nat):Int)
def g76An (N:Nat):Ann:=mkAn N [] [] [] [] [] 6
def G76 (N:Nat):Cfg:=(G57 N).add 76 (Spec.one [.d tQ3] tIt (fun a=>g76 N a.1))
theorem G76_ok (N:Nat):q0A Tryd.prog (G76 N):=add_one [.d tQ3] tIt (fun a=>g76 N a.1) [] [] (g76An N) (G57_ok N) Tryd.func76 (by kernel_rfl) (by kernel_rfl) lokE (.inr rfl) fun a=>by kernel_rfl
def g98 (N:Nat) (a0:((Int)×TQ10)×TQ16):Option (Bool) :=
 some a0.2.1
def g98An (N:Nat):Ann:=mkAn N [] [] [] [] [] 5
def G98 (N:Nat):Cfg:=(G76 N).add 98 (Spec.one [.d tQ1] .bool (fun a=>g98 N a.1))
theorem G98_ok (N:Nat):q0A Tryd.prog (G98 N):=add_one [.d tQ1] .bool (fun a=>g98 N a.1) [] [] (g98An N) (G76_ok N) Tryd.func98 (by kernel_rfl) (by kernel_rfl) lokE (.inr rfl) fun a=>by kernel_rfl
def Gh98 (N:Nat):Cfg:=(G98 N).hand 98 (.pair tQ1 .unit) .bool
theorem Gh98_ok (N:Nat):q0A Tryd.prog (Gh98 N):=hand_ok (G98_ok N) ⟨Tryd.f98,Tryd.func98,by kernel_rfl,by kernel_rfl⟩
@[reducible] def g116xS:XSh:={ sa:=[.a (.d tQ1),.a (.d tIt),.fn 117 [.ref 100001 0 [],.ref 100002 0 []]],so:=[.gone,.box .leaf (.fn 99 [.p tQ3,.p tQ3]),.box .leaf (.a (.mp 100003 0)),.map tQ1 tQ23],rs:=[.fn 134 [.ref 200000 0 [],.ref 200001 0 [],.ref 200002 0 []]],many:=false,os:=[(0,.gone),(0,.box .leaf (.fn 99 [.p tQ3,.p tQ3])),(0,.box .leaf (.a (.mp 100003 0))),(0,.map tQ1 tQ23)],xs:=[.box (.d tQ1) (.a (.d tQ1)),.box (.d tIt) (.a (.d tIt)),.box .leaf (.fn 117 [.ref 100001 0 [],.ref 100002 0 []])] }
def g116x (N:Nat) (a0:((Int)×TQ10)×TQ16) (a1:Int) (p1_0:LMt×(LMt×(Unit))) (p1_1:LMt×(LMt×(Unit))) (p3:List TQ18):Option (g116xS).R :=
 some ((((),(),(),()),()),((),(p1_0,p1_1,()),(),p3,()),(a0,a1,((),(),()),()))
def g116xAn (N:Nat):Ann:=mkAn N [] [] [] [] [] 8
def G116x (N:Nat):Cfg:=(Gh98 N).addX 116 (q4N.of (g116xS) (fun a=>g116x N a.1.1 a.1.2.1 a.2.2.1.1 a.2.2.1.2.1 a.2.2.2.2.1))
theorem G116x_ok (N:Nat):q0A Tryd.prog (G116x N):=z7B (g116xS) (fun a=>g116x N a.1.1 a.1.2.1 a.2.2.1.1 a.2.2.1.2.1 a.2.2.2.2.1) [] [] [3,4,5] (g116xAn N) (Gh98_ok N) Tryd.func116 (by kernel_rfl) (by kernel_rfl) lokE (.inr rfl) (fun h=>by first | rfl | cases h) fun a=>by kernel_rfl
def z0E (N:Nat) {C:Type} (rec:Int→Int→LIt→Option C) (k0:LIt→Option C) (t2 t3:Int) (o100001:List (Int)):Option C :=
 bif (decide ((t2:Int) < t3)) then if idx t3 (List.length o100001) then if (Int.toNat t3) < List.length o100001 then if idx t2 (List.length o100001) then if (Int.toNat t2) < List.length o100001 then if idx t2 (List.length o100001) then if (Int.toNat t2) < List.length o100001 then if idx t3 (List.length (List.set o100001 (Int.toNat t2) (List.getD o100001 (Int.toNat t3) 0))) then if (Int.toNat t3) < List.length (List.set o100001 (Int.toNat t2) (List.getD o100001 (Int.toNat t3) 0)) then (rec (IntKind.wrap .i64 (t2 + 1)) (IntKind.wrap .i64 (t3 - 1)) (List.set (List.set o100001 (Int.toNat t2) (List.getD o100001 (Int.toNat t3) 0)) (Int.toNat t3) (List.getD o100001 (Int.toNat t2) 0))) else none else none else none else none else none else none else none else none else (k0 o100001)
def g114xL6 (N:Nat) {C:Type} (k0:LIt→Option C) (t2 t3:Int) (o100001:List (Int)):Option C :=
 itP (α:=q0I [.a (.sl tIt 100001 0),.a (.d tIt),.a (.d tIt)]×q0E [.gone,.vec tIt]) (fun rec a=>z0E N (fun t2 t3 o100001=>rec (((),t2,t3,()),((),o100001,()))) k0 a.1.2.1 a.1.2.2.1 a.2.2.1) N (((),t2,t3,()),((),o100001,()))
def g114xL6T (N:Nat):Told:={ nt:=28,sv:=[.a (.sl tIt 100001 0),.a (.d tIt),.a (.d tIt)],so:=[.gone,.vec tIt],run:=fun K' rec a=>z0E N (fun t2 t3 o100001=>rec (((),t2,t3,()),((),o100001,()))) (fun eo100001=>K' (.exit 0) (build 28 [] [100000,100001] [] [(some .gone),(some (.vec tIt eo100001))])) a.1.2.1 a.1.2.2.1 a.2.2.1 }
@[reducible] def g114xS:XSh:={ sa:=[.a (.sl tIt 100001 0)],so:=[.gone,.vec tIt],rs:=[],many:=true,os:=[(0,.gone),(0,.vec tIt)],xs:=[] }
def g114x (N:Nat) (p1:List (Int)):Option (g114xS).R :=
 g114xL6 N (fun e1=>some ((()),((),e1,()),(()))) 0 (IntKind.wrap .i64 (((List.length p1:Nat):Int) - 1)) p1
def g114xTl (N:Nat):List (Nat×Told):=[(6,g114xL6T N)]
def g114xAn (N:Nat):Ann:=mkAn N [(6,([0,2,3],[100000,100001]),([],[100000,100001]))] [] (g114xTl N) [] [] 28
theorem g114xL6_ok (N:Nat):q0P (((G116x N).q0F []).q0T []) (g114xAn N) (bdy Tryd.f114) 6 (g114xL6T N):=⟨⟨loopBody (q0G (bdy Tryd.f114) 64 6),by kernel_rfl,fun K' rec a=>by kernel_rfl⟩,fun a=>by kernel_rfl⟩
def G114x (N:Nat):Cfg:=(G116x N).addX 114 (q4N.of (g114xS) (fun a=>g114x N a.2.2.1))
theorem G114x_ok (N:Nat):q0A Tryd.prog (G114x N):=z7B (g114xS) (fun a=>g114x N a.2.2.1) [] [] [] (g114xAn N) (G116x_ok N) Tryd.func114 (by kernel_rfl) (by kernel_rfl) (lokT (q0R (g114xTl N) rfl rfl ⟨g114xL6_ok N,trivial⟩)) (.inr rfl) (fun h=>by first | rfl | cases h) fun a=>by kernel_rfl
def g99 (N:Nat) (a0:((Int)×TQ10)×TQ16) (a1:Int) (a2:LMt×(LMt×(Unit))) (a3:LMt×(LMt×(Unit))):Option (TQ4×TQ16) :=
 if idx a0.1.1 (List.length a2.1) then if idx a1 (List.length (List.getD a2.1 (Int.toNat a0.1.1) ([]:List (Int)))) then if idx a0.1.2.1 (List.length a3.1) then if idx a1 (List.length (List.getD a3.1 (Int.toNat a0.1.2.1) ([]:List (Int)))) then if idx a0.1.1 (List.length a2.2.1) then if idx a1 (List.length (List.getD a2.2.1 (Int.toNat a0.1.1) ([]:List (Int)))) then if idx a0.1.2.1 (List.length a3.2.1) then if idx a1 (List.length (List.getD a3.2.1 (Int.toNat a0.1.2.1) ([]:List (Int)))) then some ((((List.getD (List.getD a2.1 (Int.toNat a0.1.1) ([]:List (Int))) (Int.toNat a1) 0),(List.getD (List.getD a3.1 (Int.toNat a0.1.2.1) ([]:List (Int))) (Int.toNat a1) 0),()),(!ieq (List.getD (List.getD a2.2.1 (Int.toNat a0.1.1) ([]:List (Int))) (Int.toNat a1) 0) (List.getD (List.getD a3.2.1 (Int.toNat a0.1.2.1) ([]:List (Int))) (Int.toNat a1) 0)),()),(!a0.2.1),()) else none else none else none else none else none else none else none else none
def g99An (N:Nat):Ann:=mkAn N [] [] [] [] [] 54
def G99 (N:Nat):Cfg:=(G114x N).add 99 (Spec.many [.d tQ1,.d tIt,.p tQ3,.p tQ3] tQ20 (fun a=>g99 N a.1 a.2.1 a.2.2.1 a.2.2.2.1))
theorem G99_ok (N:Nat):q0A Tryd.prog (G99 N):=q2J [.d tQ1,.d tIt,.p tQ3,.p tQ3] tQ20 (fun a=>g99 N a.1 a.2.1 a.2.2.1 a.2.2.2.1) [] [] (g99An N) (G114x_ok N) Tryd.func99 (by kernel_rfl) (by kernel_rfl) lokE (.inr rfl) fun a=>by kernel_rfl
@[reducible] def g117xS:XSh:={ sa:=[.a (.d tQ1),.a (.d tIt),.a (.ref 100001 0 []),.a (.ref 100002 0 [])],so:=[.gone,.box .leaf (.fn 99 [.p tQ3,.p tQ3]),.box .leaf (.a (.mp 100003 0)),.map tQ1 tQ23],rs:=[.a (.d tQ1),.a (.d .bool)],many:=true,os:=[(0,.gone),(0,.box .leaf (.fn 99 [.p tQ3,.p tQ3])),(0,.box .leaf (.a (.mp 100003 0))),(0,.map tQ1 tQ23)],xs:=[] }
def g117x (N:Nat) (a0:((Int)×TQ10)×TQ16) (a1:Int) (p1_0:LMt×(LMt×(Unit))) (p1_1:LMt×(LMt×(Unit))) (p3:List TQ18):Option (g117xS).R :=
 Option.bind (g99 N a0 a1 p1_0 p1_1) fun r1=>bif (!r1.2.1) then some ((r1.1,false,()),((),(p1_0,p1_1,()),(),p3,()),(())) else bif (Option.isSome (q0C (Ty.beq tQ1) r1.1 p3)) then some ((r1.1,false,()),((),(p1_0,p1_1,()),(),p3,()),(())) else some ((r1.1,true,()),((),(p1_0,p1_1,()),(),(q0S (Ty.beq tQ1) r1.1 (a0,a1,()) p3),()),(()))
def g117xAn (N:Nat):Ann:=mkAn N [] [] [] [] [] 37
def G117x (N:Nat):Cfg:=(G99 N).addX 117 (q4N.of (g117xS) (fun a=>g117x N a.1.1 a.1.2.1 a.2.2.1.1 a.2.2.1.2.1 a.2.2.2.2.1))
theorem G117x_ok (N:Nat):q0A Tryd.prog (G117x N):=z7B (g117xS) (fun a=>g117x N a.1.1 a.1.2.1 a.2.2.1.1 a.2.2.1.2.1 a.2.2.2.2.1) [] [] [] (g117xAn N) (G99_ok N) Tryd.func117 (by kernel_rfl) (by kernel_rfl) lokE (.inr rfl) (fun h=>by first | rfl | cases h) fun a=>by kernel_rfl
def q3L (N:Nat) (t:Ty) {C:Type} (rec:(List TQ4)→Int→Int→Int→Int→(List TQ4)→TQ4→(CbF t tQ20)→(t.T)→TQ4→Int→Option C) (k0:(List TQ4)→Int→Int→(List TQ4)→TQ4→(CbF t tQ20)→(t.T)→TQ4→Int→Option C) (t21:List TQ4) (t22 t23:Int) (t27 t28:Int) (o6:List TQ4) (o8:((Int)×TQ10)×TQ16) (o100000r:CbF t tQ20) (o100000x:t.T) (o100001:((Int)×TQ10)×TQ16) (o100002:Int):Option C :=
 bif (decide ((t28:Int) < t27)) then Option.bind (o100000r.f o100000x [.dat tQ1 o8,.dat tIt t28]) fun r2=>bif r2.2.2.1 then if List.length o6 + List.length [r2.2.1] ≤ maxCount then (rec t21 t22 t23 t27 (IntKind.wrap .i64 (t28 + 1)) (o6 ++ [r2.2.1]) o8 o100000r r2.1 o100001 o100002) else none else (rec t21 t22 t23 t27 (IntKind.wrap .i64 (t28 + 1)) o6 o8 o100000r r2.1 o100001 o100002) else (k0 t21 t22 t23 o6 o8 o100000r o100000x o100001 o100002)
def z7G (N:Nat) (t:Ty) {C:Type} (k0:(List TQ4)→Int→Int→(List TQ4)→TQ4→(CbF t tQ20)→(t.T)→TQ4→Int→Option C) (t21:List TQ4) (t22 t23:Int) (t27 t28:Int) (o6:List TQ4) (o8:((Int)×TQ10)×TQ16) (o100000r:CbF t tQ20) (o100000x:t.T) (o100001:((Int)×TQ10)×TQ16) (o100002:Int):Option C :=
 itP (α:=q0I [.a (.cb 0),.a (.ref 100002 0 []),.a (.ref 100003 0 []),.a (.sl tQ1 6 0),.a (.ref 8 0 []),.a (.d (.lst tQ1)),.a (.d tIt),.a (.d tIt),.a (.d tIt),.a (.d tIt)]×q0E [.vec tQ1,.box (.d tQ1) (.a (.d tQ1)),.ghf t tQ20,.box (.d tQ1) (.a (.d tQ1)),.box (.d tIt) (.a (.d tIt)),.box .leaf (.a (.cb 1))]) (fun rec a=>q3L N t (fun t21 t22 t23 t27 t28 o6 o8 o100000r o100000x o100001 o100002=>rec (((),(),(),(),(),t21,t22,t23,t27,t28,()),(o6,o8,(o100000r,o100000x),o100001,o100002,(),()))) k0 a.1.2.2.2.2.2.1 a.1.2.2.2.2.2.2.1 a.1.2.2.2.2.2.2.2.1 a.1.2.2.2.2.2.2.2.2.1 a.1.2.2.2.2.2.2.2.2.2.1 a.2.1 a.2.2.1 a.2.2.2.1.1 a.2.2.2.1.2 a.2.2.2.2.1 a.2.2.2.2.2.1) N (((),(),(),(),(),t21,t22,t23,t27,t28,()),(o6,o8,(o100000r,o100000x),o100001,o100002,(),()))
def z4G (N:Nat) (t:Ty):Told:={ nt:=46,sv:=[.a (.cb 0),.a (.ref 100002 0 []),.a (.ref 100003 0 []),.a (.sl tQ1 6 0),.a (.ref 8 0 []),.a (.d (.lst tQ1)),.a (.d tIt),.a (.d tIt),.a (.d tIt),.a (.d tIt)],so:=[.vec tQ1,.box (.d tQ1) (.a (.d tQ1)),.ghf t tQ20,.box (.d tQ1) (.a (.d tQ1)),.box (.d tIt) (.a (.d tIt)),.box .leaf (.a (.cb 1))],run:=fun K' rec a=>q3L N t (fun t21 t22 t23 t27 t28 o6 o8 o100000r o100000x o100001 o100002=>rec (((),(),(),(),(),t21,t22,t23,t27,t28,()),(o6,o8,(o100000r,o100000x),o100001,o100002,(),()))) (fun et21 et22 et23 eo6 eo8 eo100000r eo100000x eo100001 eo100002=>K' (.exit 4) (build 46 [0,2,3,6,21,22,23] [6,8,100000,100001,100002,100003] [(.cb 0),(.ref 100002 0 []),(.ref 100003 0 []),(.sl tQ1 6 0),(.dat (.lst tQ1) et21),(.dat tIt et22),(.dat tIt et23)] [(some (.vec tQ1 eo6)),(some (.box (.d tQ1) (.dat tQ1 eo8))),(some (.gh t eo100000r.cbs eo100000x)),(some (.box (.d tQ1) (.dat tQ1 eo100001))),(some (.box (.d tIt) (.dat tIt eo100002))),(some (.box .leaf (.cb 1)))])) a.1.2.2.2.2.2.1 a.1.2.2.2.2.2.2.1 a.1.2.2.2.2.2.2.2.1 a.1.2.2.2.2.2.2.2.2.1 a.1.2.2.2.2.2.2.2.2.2.1 a.2.1 a.2.2.1 a.2.2.2.1.1 a.2.2.2.1.2 a.2.2.2.2.1 a.2.2.2.2.2.1 }
def q6D (N:Nat) (t:Ty) {C:Type} (rec:(List TQ4)→Int→Int→(List TQ4)→(CbF t tQ20)→(t.T)→TQ4→Int→Option C) (k0:(List TQ4)→(CbF t tQ20)→(t.T)→TQ4→Int→Option C) (t21:List TQ4) (t22 t23:Int) (o6:List TQ4) (o100000r:CbF t tQ20) (o100000x:t.T) (o100001:((Int)×TQ10)×TQ16) (o100002:Int):Option C :=
 bif (decide ((t23:Int) < t22)) then if idx t23 (List.length t21) then z7G N t (fun e3 e4 e5 e6 e7 e8 e9 e10 e11=>(rec e3 e4 (IntKind.wrap .i64 (e5 + 1)) e6 e8 e9 e10 e11)) t21 t22 t23 o100002 0 o6 (List.getD t21 (Int.toNat t23) ((0,0,()),false,())) o100000r o100000x o100001 o100002 else none else (k0 o6 o100000r o100000x o100001 o100002)
def g134xL1626 (N:Nat) (t:Ty) {C:Type} (k0:(List TQ4)→(CbF t tQ20)→(t.T)→TQ4→Int→Option C) (t21:List TQ4) (t22 t23:Int) (o6:List TQ4) (o100000r:CbF t tQ20) (o100000x:t.T) (o100001:((Int)×TQ10)×TQ16) (o100002:Int):Option C :=
 itP (α:=q0I [.a (.cb 0),.a (.ref 100002 0 []),.a (.ref 100003 0 []),.a (.sl tQ1 6 0),.a (.d (.lst tQ1)),.a (.d tIt),.a (.d tIt)]×q0E [.vec tQ1,.ghf t tQ20,.box (.d tQ1) (.a (.d tQ1)),.box (.d tIt) (.a (.d tIt)),.box .leaf (.a (.cb 1))]) (fun rec a=>q6D N t (fun t21 t22 t23 o6 o100000r o100000x o100001 o100002=>rec (((),(),(),(),t21,t22,t23,()),(o6,(o100000r,o100000x),o100001,o100002,(),()))) k0 a.1.2.2.2.2.1 a.1.2.2.2.2.2.1 a.1.2.2.2.2.2.2.1 a.2.1 a.2.2.1.1 a.2.2.1.2 a.2.2.2.1 a.2.2.2.2.1) N (((),(),(),(),t21,t22,t23,()),(o6,(o100000r,o100000x),o100001,o100002,(),()))
def g134xL1626T (N:Nat) (t:Ty):Told:={ nt:=46,sv:=[.a (.cb 0),.a (.ref 100002 0 []),.a (.ref 100003 0 []),.a (.sl tQ1 6 0),.a (.d (.lst tQ1)),.a (.d tIt),.a (.d tIt)],so:=[.vec tQ1,.ghf t tQ20,.box (.d tQ1) (.a (.d tQ1)),.box (.d tIt) (.a (.d tIt)),.box .leaf (.a (.cb 1))],run:=fun K' rec a=>q6D N t (fun t21 t22 t23 o6 o100000r o100000x o100001 o100002=>rec (((),(),(),(),t21,t22,t23,()),(o6,(o100000r,o100000x),o100001,o100002,(),()))) (fun eo6 eo100000r eo100000x eo100001 eo100002=>K' (.exit 2) (build 46 [0,2,3,6] [6,100000,100001,100002,100003] [(.cb 0),(.ref 100002 0 []),(.ref 100003 0 []),(.sl tQ1 6 0)] [(some (.vec tQ1 eo6)),(some (.gh t eo100000r.cbs eo100000x)),(some (.box (.d tQ1) (.dat tQ1 eo100001))),(some (.box (.d tIt) (.dat tIt eo100002))),(some (.box .leaf (.cb 1)))])) a.1.2.2.2.2.1 a.1.2.2.2.2.2.1 a.1.2.2.2.2.2.2.1 a.2.1 a.2.2.1.1 a.2.2.1.2 a.2.2.2.1 a.2.2.2.2.1 }
def z3I (N:Nat) (t:Ty) {C:Type} (rec:(List TQ4)→(CbF t tQ20)→(t.T)→TQ4→Int→Option C) (k0:(CbF t tQ20)→(t.T)→TQ4→Int→Option C) (k1:(CbF t tQ20)→(t.T)→TQ4→Int→Option C) (t5:List TQ4) (o100000r:CbF t tQ20) (o100000x:t.T) (o100001:((Int)×TQ10)×TQ16) (o100002:Int):Option C :=
 bif (decide ((0:Int) < ((List.length t5:Nat):Int))) then Option.bind (o100000r.y o100000x [.dat (.lst tQ1) t5]) fun r1=>bif (!r1.2) then (k0 o100000r r1.1 o100001 o100002) else g134xL1626 N t (fun e12 e13 e14 e15 e16=>(rec e12 e13 e14 e15 e16)) t5 ((List.length t5:Nat):Int) 0 ([]:List TQ4) o100000r r1.1 o100001 o100002 else (k1 o100000r o100000x o100001 o100002)
def g134xL6 (N:Nat) (t:Ty) {C:Type} (k0:(CbF t tQ20)→(t.T)→TQ4→Int→Option C) (k1:(CbF t tQ20)→(t.T)→TQ4→Int→Option C) (t5:List TQ4) (o100000r:CbF t tQ20) (o100000x:t.T) (o100001:((Int)×TQ10)×TQ16) (o100002:Int):Option C :=
 itP (α:=q0I [.a (.cb 0),.a (.ref 100002 0 []),.a (.ref 100003 0 []),.a (.d (.lst tQ1))]×q0E [.ghf t tQ20,.box (.d tQ1) (.a (.d tQ1)),.box (.d tIt) (.a (.d tIt)),.box .leaf (.a (.cb 1))]) (fun rec a=>z3I N t (fun t5 o100000r o100000x o100001 o100002=>rec (((),(),(),t5,()),((o100000r,o100000x),o100001,o100002,(),()))) k0 k1 a.1.2.2.2.1 a.2.1.1 a.2.1.2 a.2.2.1 a.2.2.2.1) N (((),(),(),t5,()),((o100000r,o100000x),o100001,o100002,(),()))
def g134xL6T (N:Nat) (t:Ty):Told:={ nt:=46,sv:=[.a (.cb 0),.a (.ref 100002 0 []),.a (.ref 100003 0 []),.a (.d (.lst tQ1))],so:=[.ghf t tQ20,.box (.d tQ1) (.a (.d tQ1)),.box (.d tIt) (.a (.d tIt)),.box .leaf (.a (.cb 1))],run:=fun K' rec a=>z3I N t (fun t5 o100000r o100000x o100001 o100002=>rec (((),(),(),t5,()),((o100000r,o100000x),o100001,o100002,(),()))) (fun eo100000r eo100000x eo100001 eo100002=>K' .ret (build 46 [] [100000,100001,100002,100003] [] [(some (.gh t eo100000r.cbs eo100000x)),(some (.box (.d tQ1) (.dat tQ1 eo100001))),(some (.box (.d tIt) (.dat tIt eo100002))),(some (.box .leaf (.cb 1)))])) (fun eo100000r eo100000x eo100001 eo100002=>K' (.exit 0) (build 46 [] [100000,100001,100002,100003] [] [(some (.gh t eo100000r.cbs eo100000x)),(some (.box (.d tQ1) (.dat tQ1 eo100001))),(some (.box (.d tIt) (.dat tIt eo100002))),(some (.box .leaf (.cb 1)))])) a.1.2.2.2.1 a.2.1.1 a.2.1.2 a.2.2.1 a.2.2.2.1 }
@[reducible] def g134xS (t:Ty):XSh:={ sa:=[.a (.cb 0),.a (.ref 100001 0 []),.a (.ref 100002 0 []),.a (.ref 100003 0 [])],so:=[.ghf t tQ20,.box (.d tQ1) (.a (.d tQ1)),.box (.d tIt) (.a (.d tIt)),.box .leaf (.a (.cb 1))],rs:=[],many:=true,os:=[(0,.ghf t tQ20),(0,.box (.d tQ1) (.a (.d tQ1))),(0,.box (.d tIt) (.a (.d tIt))),(0,.box .leaf (.a (.cb 1)))],xs:=[] }
def g134x (N:Nat) (t:Ty) (run:CbF t tQ20) (x:t.T) (p1:((Int)×TQ10)×TQ16) (p2:Int):Option (g134xS t).R :=
 g134xL6 N t (fun e17 e18 e19 e20=>some ((()),((e17,e18),e19,e20,(),()),(()))) (fun e21 e22 e23 e24=>some ((()),((e21,e22),e23,e24,(),()),(()))) [p1] run x p1 p2
def g134xTl (N:Nat) (t:Ty):List (Nat×Told):=[(6,g134xL6T N t),(1626,g134xL1626T N t),(416358,z4G N t)]
def g134xAn (N:Nat) (t:Ty):Ann:=mkAn N [(6,([0,2,3,5],[100000,100001,100002,100003]),([],[100000,100001,100002,100003])),(1626,([0,2,3,6,21,22,23],[6,100000,100001,100002,100003]),([0,2,3,6],[6,100000,100001,100002,100003])),(416358,([0,2,3,6,8,21,22,23,27,28],[6,8,100000,100001,100002,100003]),([0,2,3,6,21,22,23],[6,8,100000,100001,100002,100003]))] [(1000015,[6])] (g134xTl N t) [] [] 46
theorem g134xI1L6_ok (N:Nat):q0P (((G117x N).q0F []).q0T [19,35]) (g134xAn N (.pair tIt (tyO [.box (.d tQ1) (.a (.d tQ1)),.box .leaf (.fn 99 [.p tQ3,.p tQ3]),.box (.d tLt) (.a (.d tLt)),.box (.d .bool) (.a (.d .bool)),.box .leaf (.a (.mp 15 0)),.map tQ1 tQ23,.gone]))) (bdy Tryd.f134) 6 (g134xL6T N (.pair tIt (tyO [.box (.d tQ1) (.a (.d tQ1)),.box .leaf (.fn 99 [.p tQ3,.p tQ3]),.box (.d tLt) (.a (.d tLt)),.box (.d .bool) (.a (.d .bool)),.box .leaf (.a (.mp 15 0)),.map tQ1 tQ23,.gone]))):=⟨⟨loopBody (q0G (bdy Tryd.f134) 64 6),by kernel_rfl,fun K' rec a=>by kernel_rfl⟩,fun a=>by kernel_rfl⟩
theorem g134xI1L1626_ok (N:Nat):q0P (((G117x N).q0F []).q0T [19,35]) (g134xAn N (.pair tIt (tyO [.box (.d tQ1) (.a (.d tQ1)),.box .leaf (.fn 99 [.p tQ3,.p tQ3]),.box (.d tLt) (.a (.d tLt)),.box (.d .bool) (.a (.d .bool)),.box .leaf (.a (.mp 15 0)),.map tQ1 tQ23,.gone]))) (bdy Tryd.f134) 1626 (g134xL1626T N (.pair tIt (tyO [.box (.d tQ1) (.a (.d tQ1)),.box .leaf (.fn 99 [.p tQ3,.p tQ3]),.box (.d tLt) (.a (.d tLt)),.box (.d .bool) (.a (.d .bool)),.box .leaf (.a (.mp 15 0)),.map tQ1 tQ23,.gone]))):=⟨⟨loopBody (q0G (bdy Tryd.f134) 64 1626),by kernel_rfl,fun K' rec a=>by kernel_rfl⟩,fun a=>by kernel_rfl⟩
theorem z5T (N:Nat):q0P (((G117x N).q0F []).q0T [19,35]) (g134xAn N (.pair tIt (tyO [.box (.d tQ1) (.a (.d tQ1)),.box .leaf (.fn 99 [.p tQ3,.p tQ3]),.box (.d tLt) (.a (.d tLt)),.box (.d .bool) (.a (.d .bool)),.box .leaf (.a (.mp 15 0)),.map tQ1 tQ23,.gone]))) (bdy Tryd.f134) 416358 (z4G N (.pair tIt (tyO [.box (.d tQ1) (.a (.d tQ1)),.box .leaf (.fn 99 [.p tQ3,.p tQ3]),.box (.d tLt) (.a (.d tLt)),.box (.d .bool) (.a (.d .bool)),.box .leaf (.a (.mp 15 0)),.map tQ1 tQ23,.gone]))):=⟨⟨loopBody (q0G (bdy Tryd.f134) 64 416358),by kernel_rfl,fun K' rec a=>by kernel_rfl⟩,fun a=>by kernel_rfl⟩
def z5M (N:Nat):Cfg:=(G117x N).addX 134 (q4N.of (g134xS (.pair tIt (tyO [.box (.d tQ1) (.a (.d tQ1)),.box .leaf (.fn 99 [.p tQ3,.p tQ3]),.box (.d tLt) (.a (.d tLt)),.box (.d .bool) (.a (.d .bool)),.box .leaf (.a (.mp 15 0)),.map tQ1 tQ23,.gone]))) (fun a=>g134x N (.pair tIt (tyO [.box (.d tQ1) (.a (.d tQ1)),.box .leaf (.fn 99 [.p tQ3,.p tQ3]),.box (.d tLt) (.a (.d tLt)),.box (.d .bool) (.a (.d .bool)),.box .leaf (.a (.mp 15 0)),.map tQ1 tQ23,.gone])) a.2.1.1 a.2.1.2 a.2.2.1 a.2.2.2.1))
theorem G134xI1_ok (N:Nat):q0A Tryd.prog (z5M N):=z7B (g134xS (.pair tIt (tyO [.box (.d tQ1) (.a (.d tQ1)),.box .leaf (.fn 99 [.p tQ3,.p tQ3]),.box (.d tLt) (.a (.d tLt)),.box (.d .bool) (.a (.d .bool)),.box .leaf (.a (.mp 15 0)),.map tQ1 tQ23,.gone]))) (fun a=>g134x N (.pair tIt (tyO [.box (.d tQ1) (.a (.d tQ1)),.box .leaf (.fn 99 [.p tQ3,.p tQ3]),.box (.d tLt) (.a (.d tLt)),.box (.d .bool) (.a (.d .bool)),.box .leaf (.a (.mp 15 0)),.map tQ1 tQ23,.gone])) a.2.1.1 a.2.1.2 a.2.2.1 a.2.2.2.1) [] [19,35] [] (g134xAn N (.pair tIt (tyO [.box (.d tQ1) (.a (.d tQ1)),.box .leaf (.fn 99 [.p tQ3,.p tQ3]),.box (.d tLt) (.a (.d tLt)),.box (.d .bool) (.a (.d .bool)),.box .leaf (.a (.mp 15 0)),.map tQ1 tQ23,.gone]))) (G117x_ok N) Tryd.func134 (by kernel_rfl) (by kernel_rfl) (lokF_of (q0R (g134xTl N (.pair tIt (tyO [.box (.d tQ1) (.a (.d tQ1)),.box .leaf (.fn 99 [.p tQ3,.p tQ3]),.box (.d tLt) (.a (.d tLt)),.box (.d .bool) (.a (.d .bool)),.box .leaf (.a (.mp 15 0)),.map tQ1 tQ23,.gone]))) rfl rfl ⟨g134xI1L6_ok N,g134xI1L1626_ok N,z5T N,trivial⟩) (q0R [] rfl rfl trivial) (z4O [] rfl trivial)) (.inr rfl) (fun h=>by first | rfl | cases h) fun a=>by kernel_rfl
def q2W (N:Nat) {C:Type} (rec:TQ4→TQ5→TQ5→LIt→Bool→TQ4→LIt→(List TQ18)→((TQ4×(Unit))→Option (Bool))→Option C) (k0:TQ4→TQ5→TQ5→LIt→Bool→TQ4→LIt→(List TQ18)→((TQ4×(Unit))→Option (Bool))→Option C) (o4:((Int)×TQ10)×TQ16) (o7_0:LMt×(LMt×(Unit))) (o7_1:LMt×(LMt×(Unit))) (o8:List (Int)) (o9:Bool) (o13:((Int)×TQ10)×TQ16) (o14:List (Int)) (o15:List TQ18) (o400001:(TQ4×(Unit))→Option (Bool)):Option C :=
 bif (!Ty.beq tQ1 o13 o4) then if List.length o14 + List.length [(Option.getD (q0C (Ty.beq tQ1) o13 o15) (((0,0,()),false,()),0,())).2.1] ≤ maxCount then (rec o4 o7_0 o7_1 o8 o9 (Option.getD (q0C (Ty.beq tQ1) o13 o15) (((0,0,()),false,()),0,())).1 (o14 ++ [(Option.getD (q0C (Ty.beq tQ1) o13 o15) (((0,0,()),false,()),0,())).2.1]) o15 o400001) else none else (k0 o4 o7_0 o7_1 o8 o9 o13 o14 o15 o400001)
abbrev q8O:List Sh1:=[.a (.ref 4 0 []),.a (.ref 8 0 []),.a (.ref 9 0 []),.a (.ref 10 0 []),.a (.ref 13 0 []),.a (.sl tIt 14 0)]
abbrev q8S:List OSh:=[.box (.d tQ1) (.a (.d tQ1)),.box .leaf (.fn 99 [.p tQ3,.p tQ3]),.box (.d tLt) (.a (.d tLt)),.box (.d .bool) (.a (.d .bool)),.box .leaf (.a (.mp 15 0)),.box (.d tQ1) (.a (.d tQ1)),.vec tIt,.map tQ1 tQ23,.gone,.sav 0 (.a (.ref 4 0 [])),.sav 1 (.a (.pc (.pair tQ1 .unit) .bool)),.sav 2 (.a (.ref 8 0 [])),.sav 3 (.a (.ref 9 0 [])),.sav 4 (.a (.ref 10 0 [])),.sav 5 (.a (.ref 7 0 []))]
def j0H (N:Nat) {C:Type} (k0:TQ4→TQ5→TQ5→LIt→Bool→TQ4→LIt→(List TQ18)→((TQ4×(Unit))→Option (Bool))→Option C) (o4:((Int)×TQ10)×TQ16) (o7_0:LMt×(LMt×(Unit))) (o7_1:LMt×(LMt×(Unit))) (o8:List (Int)) (o9:Bool) (o13:((Int)×TQ10)×TQ16) (o14:List (Int)) (o15:List TQ18) (o400001:(TQ4×(Unit))→Option (Bool)):Option C :=
 itP (α:=q0I q8O×q0E q8S) (fun rec a=>q2W N (fun o4 o7_0 o7_1 o8 o9 o13 o14 o15 o400001=>rec (((),(),(),(),(),(),()),(o4,(o7_0,o7_1,()),o8,o9,(),o13,o14,o15,(),(),o400001,(),(),(),(),()))) k0 a.2.1 a.2.2.1.1 a.2.2.1.2.1 a.2.2.2.1 a.2.2.2.2.1 a.2.2.2.2.2.2.1 a.2.2.2.2.2.2.2.1 a.2.2.2.2.2.2.2.2.1 a.2.2.2.2.2.2.2.2.2.2.2.1) N (((),(),(),(),(),(),()),(o4,(o7_0,o7_1,()),o8,o9,(),o13,o14,o15,(),(),o400001,(),(),(),(),()))
def z7X (N:Nat):Told:={ nt:=52,sv:=q8O,so:=q8S,run:=fun K' rec a=>q2W N (fun o4 o7_0 o7_1 o8 o9 o13 o14 o15 o400001=>rec (((),(),(),(),(),(),()),(o4,(o7_0,o7_1,()),o8,o9,(),o13,o14,o15,(),(),o400001,(),(),(),(),()))) (fun eo4 eo7_0 eo7_1 eo8 eo9 eo13 eo14 eo15 eo400001=>K' (.exit 4) (build 52 [8,9,14] [4,7,8,9,10,13,14,15,100000,400000,400001,400002,400003,400004,400005] [(.ref 8 0 []),(.ref 9 0 []),(.sl tIt 14 0)] [(some (.box (.d tQ1) (.dat tQ1 eo4))),(some (.box .leaf (.fn 99 [(.eptr (.dat tQ3 eo7_0)),(.eptr (.dat tQ3 eo7_1))]))),(some (.box (.d tLt) (.dat tLt eo8))),(some (.box (.d .bool) (.dat .bool eo9))),(some (.box .leaf (.mp 15 0))),(some (.box (.d tQ1) (.dat tQ1 eo13))),(some (.vec tIt eo14)),(some (.map tQ1 tQ23 eo15)),(some .gone),(some (.sav 0 (.ref 4 0 []))),(some (.sav 1 (.eptr (.clo (.pair tQ1 .unit) .bool eo400001)))),(some (.sav 2 (.ref 8 0 []))),(some (.sav 3 (.ref 9 0 []))),(some (.sav 4 (.ref 10 0 []))),(some (.sav 5 (.ref 7 0 [])))])) a.2.1 a.2.2.1.1 a.2.2.1.2.1 a.2.2.2.1 a.2.2.2.2.1 a.2.2.2.2.2.2.1 a.2.2.2.2.2.2.2.1 a.2.2.2.2.2.2.2.2.1 a.2.2.2.2.2.2.2.2.2.2.2.1 }
def q8X (N:Nat) {C:Type} (rec:((TQ4×(Unit))→Option (Bool))→(List TQ4)→Int→Int→TQ4→TQ5→TQ5→LIt→Bool→(List TQ18)→((TQ4×(Unit))→Option (Bool))→Option C) (k0:TQ4→TQ5→TQ5→LIt→Bool→(List TQ18)→((TQ4×(Unit))→Option (Bool))→Option C) (k1:TQ4→TQ5→TQ5→LIt→Bool→(List TQ18)→((TQ4×(Unit))→Option (Bool))→Option C) (t6:(TQ4×(Unit))→Option (Bool)) (t24:List TQ4) (t25 t26:Int) (o4:((Int)×TQ10)×TQ16) (o7_0:LMt×(LMt×(Unit))) (o7_1:LMt×(LMt×(Unit))) (o8:List (Int)) (o9:Bool) (o15:List TQ18) (o400001:(TQ4×(Unit))→Option (Bool)):Option C :=
 bif (decide ((t26:Int) < t25)) then if idx t26 (List.length t24) then Option.bind (t6 ((List.getD t24 (Int.toNat t26) ((0,0,()),false,())),())) fun r2=>bif (!r2) then (rec t6 t24 t25 (IntKind.wrap .i64 (t26 + 1)) o4 o7_0 o7_1 o8 o9 o15 o400001) else j0H N (fun e3 e4 e5 e6 e7 e8 e9 e10 e11=>Option.bind (g114x N e9) fun r12=>(k0 e3 e4 e5 r12.2.1.2.1 true e10 e11)) o4 o7_0 o7_1 o8 o9 (List.getD t24 (Int.toNat t26) ((0,0,()),false,())) ([]:List (Int)) o15 o400001 else none else (k1 o4 o7_0 o7_1 o8 o9 o15 o400001)
abbrev j1W:List Sh1:=[.a (.ref 4 0 []),.a (.pc (.pair tQ1 .unit) .bool),.a (.ref 8 0 []),.a (.ref 9 0 []),.a (.ref 10 0 []),.a (.d (.lst tQ1)),.a (.d tIt),.a (.d tIt)]
abbrev j0N:List OSh:=[.box (.d tQ1) (.a (.d tQ1)),.box .leaf (.fn 99 [.p tQ3,.p tQ3]),.box (.d tLt) (.a (.d tLt)),.box (.d .bool) (.a (.d .bool)),.box .leaf (.a (.mp 15 0)),.map tQ1 tQ23,.gone,.sav 0 (.a (.ref 4 0 [])),.sav 1 (.a (.pc (.pair tQ1 .unit) .bool)),.sav 2 (.a (.ref 8 0 [])),.sav 3 (.a (.ref 9 0 [])),.sav 4 (.a (.ref 10 0 [])),.sav 5 (.a (.ref 7 0 []))]
def g97xL938 (N:Nat) {C:Type} (k0:TQ4→TQ5→TQ5→LIt→Bool→(List TQ18)→((TQ4×(Unit))→Option (Bool))→Option C) (k1:TQ4→TQ5→TQ5→LIt→Bool→(List TQ18)→((TQ4×(Unit))→Option (Bool))→Option C) (t6:(TQ4×(Unit))→Option (Bool)) (t24:List TQ4) (t25 t26:Int) (o4:((Int)×TQ10)×TQ16) (o7_0:LMt×(LMt×(Unit))) (o7_1:LMt×(LMt×(Unit))) (o8:List (Int)) (o9:Bool) (o15:List TQ18) (o400001:(TQ4×(Unit))→Option (Bool)):Option C :=
 itP (α:=q0I j1W×q0E j0N) (fun rec a=>q8X N (fun t6 t24 t25 t26 o4 o7_0 o7_1 o8 o9 o15 o400001=>rec (((),t6,(),(),(),t24,t25,t26,()),(o4,(o7_0,o7_1,()),o8,o9,(),o15,(),(),o400001,(),(),(),(),()))) k0 k1 a.1.2.1 a.1.2.2.2.2.2.1 a.1.2.2.2.2.2.2.1 a.1.2.2.2.2.2.2.2.1 a.2.1 a.2.2.1.1 a.2.2.1.2.1 a.2.2.2.1 a.2.2.2.2.1 a.2.2.2.2.2.2.1 a.2.2.2.2.2.2.2.2.2.1) N (((),t6,(),(),(),t24,t25,t26,()),(o4,(o7_0,o7_1,()),o8,o9,(),o15,(),(),o400001,(),(),(),(),()))
def g97xL938T (N:Nat):Told:={ nt:=52,sv:=j1W,so:=j0N,run:=fun K' rec a=>q8X N (fun t6 t24 t25 t26 o4 o7_0 o7_1 o8 o9 o15 o400001=>rec (((),t6,(),(),(),t24,t25,t26,()),(o4,(o7_0,o7_1,()),o8,o9,(),o15,(),(),o400001,(),(),(),(),()))) (fun eo4 eo7_0 eo7_1 eo8 eo9 eo15 eo400001=>K' .ret (build 52 [] [4,7,8,9,10,15,100000,400000,400001,400002,400003,400004,400005] [] [(some (.box (.d tQ1) (.dat tQ1 eo4))),(some (.box .leaf (.fn 99 [(.eptr (.dat tQ3 eo7_0)),(.eptr (.dat tQ3 eo7_1))]))),(some (.box (.d tLt) (.dat tLt eo8))),(some (.box (.d .bool) (.dat .bool eo9))),(some (.box .leaf (.mp 15 0))),(some (.map tQ1 tQ23 eo15)),(some .gone),(some (.sav 0 (.ref 4 0 []))),(some (.sav 1 (.eptr (.clo (.pair tQ1 .unit) .bool eo400001)))),(some (.sav 2 (.ref 8 0 []))),(some (.sav 3 (.ref 9 0 []))),(some (.sav 4 (.ref 10 0 []))),(some (.sav 5 (.ref 7 0 [])))])) (fun eo4 eo7_0 eo7_1 eo8 eo9 eo15 eo400001=>K' (.exit 2) (build 52 [] [4,7,8,9,10,15,100000,400000,400001,400002,400003,400004,400005] [] [(some (.box (.d tQ1) (.dat tQ1 eo4))),(some (.box .leaf (.fn 99 [(.eptr (.dat tQ3 eo7_0)),(.eptr (.dat tQ3 eo7_1))]))),(some (.box (.d tLt) (.dat tLt eo8))),(some (.box (.d .bool) (.dat .bool eo9))),(some (.box .leaf (.mp 15 0))),(some (.map tQ1 tQ23 eo15)),(some .gone),(some (.sav 0 (.ref 4 0 []))),(some (.sav 1 (.eptr (.clo (.pair tQ1 .unit) .bool eo400001)))),(some (.sav 2 (.ref 8 0 []))),(some (.sav 3 (.ref 9 0 []))),(some (.sav 4 (.ref 10 0 []))),(some (.sav 5 (.ref 7 0 [])))])) a.1.2.1 a.1.2.2.2.2.2.1 a.1.2.2.2.2.2.2.1 a.1.2.2.2.2.2.2.2.1 a.2.1 a.2.2.1.1 a.2.2.1.2.1 a.2.2.2.1 a.2.2.2.2.1 a.2.2.2.2.2.2.1 a.2.2.2.2.2.2.2.2.2.1 }
def z8S (N:Nat) {C:Type} (kn:TQ4→TQ5→TQ5→LIt→Bool→(List TQ18)→Option C) (k1:TQ4→TQ5→TQ5→LIt→Bool→(List TQ18)→Option C) (t6:(TQ4×(Unit))→Option (Bool)) (o4:((Int)×TQ10)×TQ16) (o7_0:LMt×(LMt×(Unit))) (o7_1:LMt×(LMt×(Unit))) (o8:List (Int)) (o9:Bool) (o15:List TQ18) (y0:List TQ4):Option C :=
 g97xL938 N (fun e13 e14 e15 e16 e17 e18 e19=>(k1 e13 e14 e15 e16 e17 e18)) (fun e20 e21 e22 e23 e24 e25 e26=>(kn e20 e21 e22 e23 e24 e25)) t6 y0 ((List.length y0:Nat):Int) 0 o4 o7_0 o7_1 o8 o9 o15 t6
def g97xR58F (N:Nat) {C:Type} (kf:q0E [.box (.d tQ1) (.a (.d tQ1)),.box .leaf (.fn 99 [.p tQ3,.p tQ3]),.box (.d tLt) (.a (.d tLt)),.box (.d .bool) (.a (.d .bool)),.box .leaf (.a (.mp 15 0)),.map tQ1 tQ23,.gone]→TQ4×TQ16→Option C) (t6:(TQ4×(Unit))→Option (Bool)) (o4:((Int)×TQ10)×TQ16) (o7_0:LMt×(LMt×(Unit))) (o7_1:LMt×(LMt×(Unit))) (o8:List (Int)) (o9:Bool) (o15:List TQ18) (z0:((Int)×TQ10)×TQ16) (z1:Int):Option C :=
 Option.bind (g117x N z0 z1 o7_0 o7_1 o15) fun r27=>(kf (o4,(r27.2.1.2.1.1,r27.2.1.2.1.2.1,()),o8,o9,(),r27.2.1.2.2.2.1,(),()) (r27.1.1,r27.1.2.1,()))
def q7M (N:Nat):RSh:={ nt:=52,sv:=[.a (.ref 4 0 []),.a (.pc (.pair tQ1 .unit) .bool),.a (.ref 8 0 []),.a (.ref 9 0 []),.a (.ref 10 0 []),.a (.ref 7 0 [])],so:=[.box (.d tQ1) (.a (.d tQ1)),.box .leaf (.fn 99 [.p tQ3,.p tQ3]),.box (.d tLt) (.a (.d tLt)),.box (.d .bool) (.a (.d .bool)),.box .leaf (.a (.mp 15 0)),.map tQ1 tQ23,.gone],px:=[(.lst tQ1)],exits:=[.ret],brun:=fun K rec v y a=>z8S N (fun o4 o7_0 o7_1 o8 o9 o15=>rec (o4,(o7_0,o7_1,()),o8,o9,(),o15,(),())) (fun o4 o7_0 o7_1 o8 o9 o15=>K 1 (o4,(o7_0,o7_1,()),o8,o9,(),o15,(),())) v.2.1 y.1 y.2.1.1 y.2.1.2.1 y.2.2.1 y.2.2.2.1 y.2.2.2.2.2.1 a.1,cb:=some (301410,117,[7,10]),fx:=[tQ1,tIt],bt:=tQ20,frun:=fun kf v y a=>g97xR58F N kf v.2.1 y.1 y.2.1.1 y.2.1.2.1 y.2.2.1 y.2.2.2.1 y.2.2.2.2.2.1 a.1 a.2.1 }
@[reducible] def g97xS:XSh:={ sa:=[.a (.d tQ1),.a (.d tIt),.a (.c (.pair tQ1 .unit) .bool),.fn 99 [.p tQ3,.p tQ3]],so:=[.gone],rs:=[.a (.d tLt),.a (.d .bool)],many:=true,os:=[(0,.gone)],xs:=[] }
def g97x (N:Nat) (a0:((Int)×TQ10)×TQ16) (a1:Int) (a2:(TQ4×(Unit))→Option (Bool)) (a3_0:LMt×(LMt×(Unit))) (a3_1:LMt×(LMt×(Unit))):Option (g97xS).R :=
 Option.bind (g116x N a0 a1 a3_0 a3_1 (q0S (Ty.beq tQ1) a0 (((0,0,()),false,()),0,()) ([]:List TQ18))) fun r1=>Option.bind (g134x N (.pair tIt (tyO [.box (.d tQ1) (.a (.d tQ1)),.box .leaf (.fn 99 [.p tQ3,.p tQ3]),.box (.d tLt) (.a (.d tLt)),.box (.d .bool) (.a (.d .bool)),.box .leaf (.a (.mp 15 0)),.map tQ1 tQ23,.gone])) ⟨(q7M N).told.run [(.ref 4 0 []),(.eptr (.clo (.pair tQ1 .unit) .bool a2)),(.ref 8 0 []),(.ref 9 0 []),(.ref 10 0 []),(.ref 7 0 [])],(q7M N).told.f [(.ref 4 0 []),(.eptr (.clo (.pair tQ1 .unit) .bool a2)),(.ref 8 0 []),(.ref 9 0 []),(.ref 10 0 []),(.ref 7 0 [])]⟩ (0,(a0,(r1.2.1.2.1.1,r1.2.1.2.1.2.1,()),([]:List (Int)),false,(),r1.2.1.2.2.2.1,(),())) r1.2.2.1 r1.2.2.2.1) fun r28=>if r28.2.1.1.2.1 = 0 then some ((([]:List (Int)),false,()),((),()),(())) else if r28.2.1.1.2.1 = 1 then some (((asT LIt r28.2.1.1.2.2.2.2.1),(asT (Bool) r28.2.1.1.2.2.2.2.2.1),()),((),()),(())) else none
def g97xTi (N:Nat):List (Nat×Told):=[(938,g97xL938T N),(960924,z7X N)]
def g97xRl (N:Nat):List (Nat×RSh):=[(58,q7M N)]
def g97xAn (N:Nat):Ann:=mkAn N [(938,([4,6,8,9,10,24,25,26],[4,7,8,9,10,15,100000,400000,400001,400002,400003,400004,400005]),([],[4,7,8,9,10,15,100000,400000,400001,400002,400003,400004,400005])),(960924,([4,8,9,10,13,14],[4,7,8,9,10,13,14,15,100000,400000,400001,400002,400003,400004,400005]),([8,9,14],[4,7,8,9,10,13,14,15,100000,400000,400001,400002,400003,400004,400005])),(58,([4,6,8,9,10,7],[4,7,8,9,10,15,100000]),([],[]))] [(13,[14]),(1000002,[6])] [] (g97xTi N) (g97xRl N) 52
theorem g97xL938_ok (N:Nat):q0P (((z5M N).q0F [700008]).q0T [0,22,49]) (g97xAn N).inR (bdy Tryd.f97) 938 (g97xL938T N):=⟨⟨loopBody (q0G (bdy Tryd.f97) 64 938),by kernel_rfl,fun K' rec a=>by kernel_rfl⟩,fun a=>by kernel_rfl⟩
theorem g97xL960924_ok (N:Nat):q0P (((z5M N).q0F [700008]).q0T [0,22,49]) (g97xAn N).inR (bdy Tryd.f97) 960924 (z7X N):=⟨⟨loopBody (q0G (bdy Tryd.f97) 64 960924),by kernel_rfl,fun K' rec a=>by kernel_rfl⟩,fun a=>by kernel_rfl⟩
theorem g97xR58_ok (N:Nat):RShOk (((z5M N).q0F [700008]).q0T [0,22,49]) (g97xAn N) (bdy Tryd.f97) 58 (q7M N):=⟨rfl,(rangeAt (q0G (bdy Tryd.f97) 64 58)).1,(rangeAt (q0G (bdy Tryd.f97) 64 58)).2.1,(rangeAt (q0G (bdy Tryd.f97) 64 58)).2.2.1,(rangeAt (q0G (bdy Tryd.f97) 64 58)).2.2.2,by kernel_rfl,fun K v y a=>by kernel_rfl⟩
theorem g97xR58_fok (N:Nat):FShOk (((z5M N).q0F [700008]).q0T [0,22,49]) (g97xAn N) 58 (q7M N):=⟨fun h=>(by cases h),rfl,fun c hc {C} K v y a=>by obtain rfl:=Option.some.inj hc;kernel_rfl⟩
def G97x (N:Nat):Cfg:=(z5M N).addX 97 (q4N.of (g97xS) (fun a=>g97x N a.1.1 a.1.2.1 a.1.2.2.1 a.1.2.2.2.1.1 a.1.2.2.2.1.2.1))
theorem G97x_ok (N:Nat):q0A Tryd.prog (G97x N):=z7B (g97xS) (fun a=>g97x N a.1.1 a.1.2.1 a.1.2.2.1 a.1.2.2.2.1.1 a.1.2.2.2.1.2.1) [700008] [0,22,49] [] (g97xAn N) (G134xI1_ok N) Tryd.func97 (by kernel_rfl) (by kernel_rfl) (lokF_of (q0R [] rfl rfl trivial) (q0R (g97xTi N) rfl rfl ⟨g97xL938_ok N,g97xL960924_ok N,trivial⟩) (z4O (g97xRl N) rfl ⟨⟨g97xR58_ok N,g97xR58_fok N⟩,trivial⟩)) (.inr rfl) (fun h=>by first | rfl | cases h) fun a=>by kernel_rfl
def g72 (N:Nat) (a0:LMt×(LMt×(Unit))) (a1:LMt×(LMt×(Unit))) (a2:(Int)×TQ10):Option (LIt×TQ16) :=
 Option.bind (g85 N a0) fun r1=>Option.bind (g97x N (a2,false,()) r1 (fun (x2:TQ4×(Unit))=>Option.bind (g98 N x2.1) fun y3=>some y3) a0 a1) fun r4=>some (r4.1.1,r4.1.2.1,())
def g72An (N:Nat):Ann:=mkAn N [] [(1,[3,4])] [] [] [] 16
def G72 (N:Nat):Cfg:=(G97x N).add 72 (Spec.many [.d tQ3,.d tQ3,.d (.pair tIt tQ13)] (.pair tLt tQ11) (fun a=>g72 N a.1 a.2.1 a.2.2.1))
theorem G72_ok (N:Nat):q0A Tryd.prog (G72 N):=q2J [.d tQ3,.d tQ3,.d (.pair tIt tQ13)] (.pair tLt tQ11) (fun a=>g72 N a.1 a.2.1 a.2.2.1) [] [13] (g72An N) (G97x_ok N) Tryd.func72 (by kernel_rfl) (by kernel_rfl) lokE (.inr rfl) fun a=>by kernel_rfl
def q5V (N:Nat) {C:Type} (rec:Int→Int→Int→Int→Int→TQ5→LIt→Option C) (k0:Int→Int→Int→TQ5→LIt→Option C) (k1:Int→Int→Int→TQ5→LIt→Option C) (t4 t9:Int) (t10 t13 t14:Int) (o1:LMt×(LMt×(Unit))) (o3:List (Int)):Option C :=
 bif (decide ((t14:Int) < t13)) then Option.bind (g72 N o1 o1 (t4,t14,())) fun r2=>bif (!r2.2.1) then if List.length o3 + List.length [t14] ≤ maxCount then (k0 t4 t9 t10 o1 (o3 ++ [t14])) else none else (rec t4 t9 t10 t13 (IntKind.wrap .i64 (t14 + 1)) o1 o3) else (k1 t4 t9 t10 o1 o3)
abbrev z2L:List Sh1:=[.a (.ref 1 0 []),.a (.sl tIt 3 0),.a (.d tIt),.a (.d tIt),.a (.d tIt),.a (.d tIt),.a (.d tIt)]
abbrev z2J:List OSh:=[.box (.d tQ3) (.a (.d tQ3)),.vec tIt]
def g58L111818 (N:Nat) {C:Type} (k0:Int→Int→Int→TQ5→LIt→Option C) (k1:Int→Int→Int→TQ5→LIt→Option C) (t4 t9:Int) (t10 t13 t14:Int) (o1:LMt×(LMt×(Unit))) (o3:List (Int)):Option C :=
 itP (α:=q0I z2L×q0E z2J) (fun rec a=>q5V N (fun t4 t9 t10 t13 t14 o1 o3=>rec (((),(),t4,t9,t10,t13,t14,()),(o1,o3,()))) k0 k1 a.1.2.2.1 a.1.2.2.2.1 a.1.2.2.2.2.1 a.1.2.2.2.2.2.1 a.1.2.2.2.2.2.2.1 a.2.1 a.2.2.1) N (((),(),t4,t9,t10,t13,t14,()),(o1,o3,()))
def j1T (N:Nat):Told:={ nt:=39,sv:=z2L,so:=z2J,run:=fun K' rec a=>q5V N (fun t4 t9 t10 t13 t14 o1 o3=>rec (((),(),t4,t9,t10,t13,t14,()),(o1,o3,()))) (fun et4 et9 et10 eo1 eo3=>K' (.exit 1) (build 39 [1,3,4,9,10] [1,3] [(.ref 1 0 []),(.sl tIt 3 0),(.dat tIt et4),(.dat tIt et9),(.dat tIt et10)] [(some (.box (.d tQ3) (.dat tQ3 eo1))),(some (.vec tIt eo3))])) (fun et4 et9 et10 eo1 eo3=>K' (.exit 2) (build 39 [1,3,4,9,10] [1,3] [(.ref 1 0 []),(.sl tIt 3 0),(.dat tIt et4),(.dat tIt et9),(.dat tIt et10)] [(some (.box (.d tQ3) (.dat tQ3 eo1))),(some (.vec tIt eo3))])) a.1.2.2.1 a.1.2.2.2.1 a.1.2.2.2.2.1 a.1.2.2.2.2.2.1 a.1.2.2.2.2.2.2.1 a.2.1 a.2.2.1 }
def z3J (N:Nat) {C:Type} (rec:Int→Int→TQ5→LIt→Option C) (k0:TQ5→LIt→Option C) (t9 t10:Int) (o1:LMt×(LMt×(Unit))) (o3:List (Int)):Option C :=
 bif (decide ((t10:Int) < t9)) then g58L111818 N (fun e3 e4 e5 e6 e7=>(rec e4 (IntKind.wrap .i64 (e5 + 1)) e6 e7)) (fun e8 e9 e10 e11 e12=>if List.length e12 + List.length [e8] ≤ maxCount then (rec e9 (IntKind.wrap .i64 (e10 + 1)) e11 (e12 ++ [e8])) else none) t10 t9 t10 t10 0 o1 o3 else (k0 o1 o3)
abbrev g58L218V:List Sh1:=[.a (.ref 1 0 []),.a (.sl tIt 3 0),.a (.d tIt),.a (.d tIt)]
abbrev g58L218O:List OSh:=[.box (.d tQ3) (.a (.d tQ3)),.vec tIt]
def g58L218 (N:Nat) {C:Type} (k0:TQ5→LIt→Option C) (t9 t10:Int) (o1:LMt×(LMt×(Unit))) (o3:List (Int)):Option C :=
 itP (α:=q0I g58L218V×q0E g58L218O) (fun rec a=>z3J N (fun t9 t10 o1 o3=>rec (((),(),t9,t10,()),(o1,o3,()))) k0 a.1.2.2.1 a.1.2.2.2.1 a.2.1 a.2.2.1) N (((),(),t9,t10,()),(o1,o3,()))
def g58L218T (N:Nat):Told:={ nt:=39,sv:=g58L218V,so:=g58L218O,run:=fun K' rec a=>z3J N (fun t9 t10 o1 o3=>rec (((),(),t9,t10,()),(o1,o3,()))) (fun eo1 eo3=>K' (.exit 0) (build 39 [3] [1,3] [(.sl tIt 3 0)] [(some (.box (.d tQ3) (.dat tQ3 eo1))),(some (.vec tIt eo3))])) a.1.2.2.1 a.1.2.2.2.1 a.2.1 a.2.2.1 }
def g58 (N:Nat) (a0:LMt×(LMt×(Unit))):Option LIt :=
 Option.bind (g76 N a0) fun r1=>g58L218 N (fun e13 e14=>some e14) r1 0 a0 ([]:List (Int))
def g58Tl (N:Nat):List (Nat×Told):=[(218,g58L218T N),(111818,j1T N)]
def g58An (N:Nat):Ann:=mkAn N [(218,([1,3,9,10],[1,3]),([3],[1,3])),(111818,([1,3,4,9,10,13,14],[1,3]),([1,3,4,9,10],[1,3]))] [] (g58Tl N) [] [] 39
theorem g58L218_ok (N:Nat):q0P (((G72 N).q0F []).q0T []) (g58An N) (bdy Tryd.f58) 218 (g58L218T N):=⟨⟨loopBody (q0G (bdy Tryd.f58) 64 218),by kernel_rfl,fun K' rec a=>by kernel_rfl⟩,fun a=>by kernel_rfl⟩
theorem g58L111818_ok (N:Nat):q0P (((G72 N).q0F []).q0T []) (g58An N) (bdy Tryd.f58) 111818 (j1T N):=⟨⟨loopBody (q0G (bdy Tryd.f58) 64 111818),by kernel_rfl,fun K' rec a=>by kernel_rfl⟩,fun a=>by kernel_rfl⟩
def G58 (N:Nat):Cfg:=(G72 N).add 58 (Spec.one [.d tQ3] tLt (fun a=>g58 N a.1))
theorem G58_ok (N:Nat):q0A Tryd.prog (G58 N):=add_one [.d tQ3] tLt (fun a=>g58 N a.1) [] [] (g58An N) (G72_ok N) Tryd.func58 (by kernel_rfl) (by kernel_rfl) (lokT (q0R (g58Tl N) rfl rfl ⟨g58L218_ok N,g58L111818_ok N,trivial⟩)) (.inr rfl) fun a=>by kernel_rfl
def g17 (N:Nat) (a0:LMt×(LMt×(Unit))):Option (LIt×TQ10) :=
 Option.bind (g57 N a0) fun r1=>bif (!ieq r1 0) then some (([]:List (Int)),r1,()) else Option.bind (g58 N a0) fun r2=>some (r2,0,())
def g17An (N:Nat):Ann:=mkAn N [] [] [] [] [] 12
def G17 (N:Nat):Cfg:=(G58 N).add 17 (Spec.many [.d tQ3] (.pair tLt tQ13) (fun a=>g17 N a.1))
theorem G17_ok (N:Nat):q0A Tryd.prog (G17 N):=q2J [.d tQ3] (.pair tLt tQ13) (fun a=>g17 N a.1) [] [] (g17An N) (G58_ok N) Tryd.func17 (by kernel_rfl) (by kernel_rfl) lokE (.inr rfl) fun a=>by kernel_rfl
def z9M (N:Nat) {C:Type} (rec:(List TQ5)→Int→LMt→(List TQ5)→Int→Int→Option C) (k0:(List TQ5)→Int→LMt→Int→Option C) (k1:(List TQ5)→Int→LMt→Option C) (t0:List TQ5) (t1:Int) (t2:List LIt) (t14:List TQ5) (t15 t16:Int):Option C :=
 bif (decide ((t16:Int) < t15)) then if idx t16 (List.length t14) then Option.bind (g57 N (List.getD t14 (Int.toNat t16) (([]:List LIt),([]:List LIt),()))) fun r1=>bif (!ieq r1 0) then (k0 t0 t1 t2 r1) else (rec t0 t1 t2 t14 t15 (IntKind.wrap .i64 (t16 + 1))) else none else (k1 t0 t1 t2)
abbrev g62L26V:List Sh1:=[.a (.d (.lst tQ3)),.a (.d tIt),.a (.d (.lst tLt)),.a (.d (.lst tQ3)),.a (.d tIt),.a (.d tIt)]
abbrev g62L26O:List OSh:=[]
def g62L26 (N:Nat) {C:Type} (k0:(List TQ5)→Int→LMt→Int→Option C) (k1:(List TQ5)→Int→LMt→Option C) (t0:List TQ5) (t1:Int) (t2:List LIt) (t14:List TQ5) (t15 t16:Int):Option C :=
 itP (α:=q0I g62L26V×q0E g62L26O) (fun rec a=>z9M N (fun t0 t1 t2 t14 t15 t16=>rec ((t0,t1,t2,t14,t15,t16,()),(()))) k0 k1 a.1.1 a.1.2.1 a.1.2.2.1 a.1.2.2.2.1 a.1.2.2.2.2.1 a.1.2.2.2.2.2.1) N ((t0,t1,t2,t14,t15,t16,()),(()))
def g62L26T (N:Nat):Told:={ nt:=69,sv:=g62L26V,so:=g62L26O,run:=fun K' rec a=>z9M N (fun t0 t1 t2 t14 t15 t16=>rec ((t0,t1,t2,t14,t15,t16,()),(()))) (fun et0 et1 et2 et6=>K' .ret (build 69 [0,1,2,6] [] [(.dat (.lst tQ3) et0),(.dat tIt et1),(.dat (.lst tLt) et2),(.dat tIt et6)] [])) (fun et0 et1 et2=>K' (.exit 0) (build 69 [0,1,2,6] [] [(.dat (.lst tQ3) et0),(.dat tIt et1),(.dat (.lst tLt) et2),.junk] [])) a.1.1 a.1.2.1 a.1.2.2.1 a.1.2.2.2.1 a.1.2.2.2.2.1 a.1.2.2.2.2.2.1 }
def z9Y (N:Nat) {C:Type} (rec:(List TQ5)→Int→LMt→(List TQ5)→Int→Int→Option C) (k0:(List TQ5)→Int→LMt→Int→Option C) (k1:(List TQ5)→Int→LMt→Option C) (t0:List TQ5) (t1:Int) (t2:List LIt) (t26:List TQ5) (t27 t28:Int):Option C :=
 bif (decide ((t28:Int) < t27)) then if idx t28 (List.length t26) then Option.bind (g85 N (List.getD t26 (Int.toNat t28) (([]:List LIt),([]:List LIt),()))) fun r9=>if idx 0 (List.length t0) then Option.bind (g85 N (List.getD t0 (Int.toNat 0) (([]:List LIt),([]:List LIt),()))) fun r10=>bif (!ieq r9 r10) then (k0 t0 t1 t2 1) else (rec t0 t1 t2 t26 t27 (IntKind.wrap .i64 (t28 + 1))) else none else none else (k1 t0 t1 t2)
abbrev g62L58V:List Sh1:=[.a (.d (.lst tQ3)),.a (.d tIt),.a (.d (.lst tLt)),.a (.d (.lst tQ3)),.a (.d tIt),.a (.d tIt)]
abbrev g62L58O:List OSh:=[]
def g62L58 (N:Nat) {C:Type} (k0:(List TQ5)→Int→LMt→Int→Option C) (k1:(List TQ5)→Int→LMt→Option C) (t0:List TQ5) (t1:Int) (t2:List LIt) (t26:List TQ5) (t27 t28:Int):Option C :=
 itP (α:=q0I g62L58V×q0E g62L58O) (fun rec a=>z9Y N (fun t0 t1 t2 t26 t27 t28=>rec ((t0,t1,t2,t26,t27,t28,()),(()))) k0 k1 a.1.1 a.1.2.1 a.1.2.2.1 a.1.2.2.2.1 a.1.2.2.2.2.1 a.1.2.2.2.2.2.1) N ((t0,t1,t2,t26,t27,t28,()),(()))
def g62L58T (N:Nat):Told:={ nt:=69,sv:=g62L58V,so:=g62L58O,run:=fun K' rec a=>z9Y N (fun t0 t1 t2 t26 t27 t28=>rec ((t0,t1,t2,t26,t27,t28,()),(()))) (fun et0 et1 et2 et6=>K' .ret (build 69 [0,1,2,6] [] [(.dat (.lst tQ3) et0),(.dat tIt et1),(.dat (.lst tLt) et2),(.dat tIt et6)] [])) (fun et0 et1 et2=>K' (.exit 2) (build 69 [0,1,2,6] [] [(.dat (.lst tQ3) et0),(.dat tIt et1),(.dat (.lst tLt) et2),.junk] [])) a.1.1 a.1.2.1 a.1.2.2.1 a.1.2.2.2.1 a.1.2.2.2.2.1 a.1.2.2.2.2.2.1 }
def z4L (N:Nat) {C:Type} (rec:(List TQ5)→LMt→Int→Int→Option C) (k0:Int→Option C) (k1:Option C) (t0:List TQ5) (t49:List LIt) (t50 t51:Int):Option C :=
 bif (decide ((t51:Int) < t50)) then if idx t51 (List.length t49) then bif (decide ((100:Int) < ((List.length (List.getD t49 (Int.toNat t51) ([]:List (Int))):Nat):Int))) then (k0 1) else if idx 0 (List.length t0) then Option.bind (g85 N (List.getD t0 (Int.toNat 0) (([]:List LIt),([]:List LIt),()))) fun r20=>Option.bind (g82 N 0 (IntKind.wrap .i64 (r20 - 1)) (List.getD t49 (Int.toNat t51) ([]:List (Int)))) fun r21=>bif (!r21) then (k0 1) else (rec t0 t49 t50 (IntKind.wrap .i64 (t51 + 1))) else none else none else k1
abbrev g62L250V:List Sh1:=[.a (.d (.lst tQ3)),.a (.d (.lst tLt)),.a (.d tIt),.a (.d tIt)]
abbrev g62L250O:List OSh:=[]
def g62L250 (N:Nat) {C:Type} (k0:Int→Option C) (k1:Option C) (t0:List TQ5) (t49:List LIt) (t50 t51:Int):Option C :=
 itP (α:=q0I g62L250V×q0E g62L250O) (fun rec a=>z4L N (fun t0 t49 t50 t51=>rec ((t0,t49,t50,t51,()),(()))) k0 k1 a.1.1 a.1.2.1 a.1.2.2.1 a.1.2.2.2.1) N ((t0,t49,t50,t51,()),(()))
def g62L250T (N:Nat):Told:={ nt:=69,sv:=g62L250V,so:=g62L250O,run:=fun K' rec a=>z4L N (fun t0 t49 t50 t51=>rec ((t0,t49,t50,t51,()),(()))) (fun et6=>K' .ret (build 69 [6] [] [(.dat tIt et6)] [])) (K' (.exit 4) (build 69 [6] [] [.junk] [])) a.1.1 a.1.2.1 a.1.2.2.1 a.1.2.2.2.1 }
def g62 (N:Nat) (a0:List TQ5) (a1:Int) (a2:List LIt):Option (Int) :=
 g62L26 N (fun e2 e3 e4 e5=>some e5) (fun e6 e7 e8=>g62L58 N (fun e11 e12 e13 e14=>some e14) (fun e15 e16 e17=>if idx 0 (List.length e15) then Option.bind (g76 N (List.getD e15 (Int.toNat 0) (([]:List LIt),([]:List LIt),()))) fun r18=>Option.bind (g82 N 0 (IntKind.wrap .i64 (r18 - 1)) [e16]) fun r19=>bif (!r19) then some 1 else g62L250 N (fun e22=>some e22) (some 0) e15 e17 ((List.length e17:Nat):Int) 0 else none) e6 e7 e8 e6 ((List.length e6:Nat):Int) 0) a0 a1 a2 a0 ((List.length a0:Nat):Int) 0
def g62Tl (N:Nat):List (Nat×Told):=[(26,g62L26T N),(58,g62L58T N),(250,g62L250T N)]
def g62An (N:Nat):Ann:=mkAn N [(26,([0,1,2,14,15,16],[]),([0,1,2,6],[])),(58,([0,1,2,26,27,28],[]),([0,1,2,6],[])),(250,([0,49,50,51],[]),([6],[]))] [] (g62Tl N) [] [] 69
theorem g62L26_ok (N:Nat):q0P (((G17 N).q0F []).q0T []) (g62An N) (bdy Tryd.f62) 26 (g62L26T N):=⟨⟨loopBody (q0G (bdy Tryd.f62) 64 26),by kernel_rfl,fun K' rec a=>by kernel_rfl⟩,fun a=>by kernel_rfl⟩
theorem g62L58_ok (N:Nat):q0P (((G17 N).q0F []).q0T []) (g62An N) (bdy Tryd.f62) 58 (g62L58T N):=⟨⟨loopBody (q0G (bdy Tryd.f62) 64 58),by kernel_rfl,fun K' rec a=>by kernel_rfl⟩,fun a=>by kernel_rfl⟩
theorem g62L250_ok (N:Nat):q0P (((G17 N).q0F []).q0T []) (g62An N) (bdy Tryd.f62) 250 (g62L250T N):=⟨⟨loopBody (q0G (bdy Tryd.f62) 64 250),by kernel_rfl,fun K' rec a=>by kernel_rfl⟩,fun a=>by kernel_rfl⟩
def G62 (N:Nat):Cfg:=(G17 N).add 62 (Spec.one [.d (.lst tQ3),.d tIt,.d (.lst tLt)] tIt (fun a=>g62 N a.1 a.2.1 a.2.2.1))
theorem G62_ok (N:Nat):q0A Tryd.prog (G62 N):=add_one [.d (.lst tQ3),.d tIt,.d (.lst tLt)] tIt (fun a=>g62 N a.1 a.2.1 a.2.2.1) [] [] (g62An N) (G17_ok N) Tryd.func62 (by kernel_rfl) (by kernel_rfl) (lokT (q0R (g62Tl N) rfl rfl ⟨g62L26_ok N,g62L58_ok N,g62L250_ok N,trivial⟩)) (.inr rfl) fun a=>by kernel_rfl
def g37 (N:Nat) (a0:LMt×(LMt×(Unit))) (a1 a2:Int):Option (LIt×((Bool)×TQ10)) :=
 Option.bind (g62 N [a0] a1 ([]:List LIt)) fun r1=>bif (!ieq r1 0) then some (([]:List (Int)),false,r1,()) else Option.bind (g62 N [a0] a2 ([]:List LIt)) fun r2=>bif (!ieq r2 0) then some (([]:List (Int)),false,r2,()) else Option.bind (g72 N a0 a0 (a1,a2,())) fun r3=>some (r3.1,r3.2.1,0,())
def g37An (N:Nat):Ann:=mkAn N [] [] [] [] [] 38
def G37 (N:Nat):Cfg:=(G62 N).add 37 (Spec.many [.d tQ3,.d tIt,.d tIt] tQ27 (fun a=>g37 N a.1 a.2.1 a.2.2.1))
theorem G37_ok (N:Nat):q0A Tryd.prog (G37 N):=q2J [.d tQ3,.d tIt,.d tIt] tQ27 (fun a=>g37 N a.1 a.2.1 a.2.2.1) [] [] (g37An N) (G62_ok N) Tryd.func37 (by kernel_rfl) (by kernel_rfl) lokE (.inr rfl) fun a=>by kernel_rfl
def q9O (N:Nat) {C:Type} (rec:Int→Int→Int→Int→Int→TQ7→Option C) (k0:Bool→Int→Int→TQ7→Option C) (k1:Int→Int→TQ7→Option C) (t5 t8:Int) (t9 t12 t13:Int) (o3:LIt×(LIt×(Unit))):Option C :=
 bif (decide ((t13:Int) < t12)) then if idx t5 6 then if idx t13 6 then bif (ieq (List.getD o3.1 (Int.toNat t5) 0) (List.getD o3.1 (Int.toNat t13) 0)) then if idx t5 6 then if idx t13 6 then bif (!ieq (List.getD o3.2.1 (Int.toNat t5) 0) (List.getD o3.2.1 (Int.toNat t13) 0)) then (k0 false t8 t9 o3) else (rec t5 t8 t9 t12 (IntKind.wrap .i64 (t13 + 1)) o3) else none else none else (rec t5 t8 t9 t12 (IntKind.wrap .i64 (t13 + 1)) o3) else none else none else (k1 t8 t9 o3)
abbrev j1B:List Sh1:=[.a (.ref 3 0 []),.a (.d tIt),.a (.d tIt),.a (.d tIt),.a (.d tIt),.a (.d tIt)]
abbrev z9V:List OSh:=[.box (.d tQ2) (.a (.d tQ2))]
def g65L6758 (N:Nat) {C:Type} (k0:Bool→Int→Int→TQ7→Option C) (k1:Int→Int→TQ7→Option C) (t5 t8:Int) (t9 t12 t13:Int) (o3:LIt×(LIt×(Unit))):Option C :=
 itP (α:=q0I j1B×q0E z9V) (fun rec a=>q9O N (fun t5 t8 t9 t12 t13 o3=>rec (((),t5,t8,t9,t12,t13,()),(o3,()))) k0 k1 a.1.2.1 a.1.2.2.1 a.1.2.2.2.1 a.1.2.2.2.2.1 a.1.2.2.2.2.2.1 a.2.1) N (((),t5,t8,t9,t12,t13,()),(o3,()))
def g65L6758T (N:Nat):Told:={ nt:=38,sv:=j1B,so:=z9V,run:=fun K' rec a=>q9O N (fun t5 t8 t9 t12 t13 o3=>rec (((),t5,t8,t9,t12,t13,()),(o3,()))) (fun et4 et8 et9 eo3=>K' .ret (build 38 [3,4,8,9] [3] [(.ref 3 0 []),(.dat .bool et4),(.dat tIt et8),(.dat tIt et9)] [(some (.box (.d tQ2) (.dat tQ2 eo3)))])) (fun et8 et9 eo3=>K' (.exit 2) (build 38 [3,4,8,9] [3] [(.ref 3 0 []),.junk,(.dat tIt et8),(.dat tIt et9)] [(some (.box (.d tQ2) (.dat tQ2 eo3)))])) a.1.2.1 a.1.2.2.1 a.1.2.2.2.1 a.1.2.2.2.2.1 a.1.2.2.2.2.2.1 a.2.1 }
def g65L26B (N:Nat) {C:Type} (rec:Int→Int→TQ7→Option C) (k0:Bool→TQ7→Option C) (k1:TQ7→Option C) (t8 t9:Int) (o3:LIt×(LIt×(Unit))):Option C :=
 bif (decide ((t9:Int) < t8)) then g65L6758 N (fun e2 e3 e4 e5=>(k0 e2 e5)) (fun e6 e7 e8=>(rec e6 (IntKind.wrap .i64 (e7 + 1)) e8)) t9 t8 t9 t9 0 o3 else (k1 o3)
abbrev g65L26V:List Sh1:=[.a (.ref 3 0 []),.a (.d tIt),.a (.d tIt)]
abbrev g65L26O:List OSh:=[.box (.d tQ2) (.a (.d tQ2))]
def g65L26 (N:Nat) {C:Type} (k0:Bool→TQ7→Option C) (k1:TQ7→Option C) (t8 t9:Int) (o3:LIt×(LIt×(Unit))):Option C :=
 itP (α:=q0I g65L26V×q0E g65L26O) (fun rec a=>g65L26B N (fun t8 t9 o3=>rec (((),t8,t9,()),(o3,()))) k0 k1 a.1.2.1 a.1.2.2.1 a.2.1) N (((),t8,t9,()),(o3,()))
def g65L26T (N:Nat):Told:={ nt:=38,sv:=g65L26V,so:=g65L26O,run:=fun K' rec a=>g65L26B N (fun t8 t9 o3=>rec (((),t8,t9,()),(o3,()))) (fun et4 eo3=>K' .ret (build 38 [4] [3] [(.dat .bool et4)] [(some (.box (.d tQ2) (.dat tQ2 eo3)))])) (fun eo3=>K' (.exit 0) (build 38 [4] [3] [.junk] [(some (.box (.d tQ2) (.dat tQ2 eo3)))])) a.1.2.1 a.1.2.2.1 a.2.1 }
def g65 (N:Nat) (a0:LMt×(LMt×(Unit))) (a1:LIt×(LIt×(Unit))):Option (Bool) :=
 Option.bind (g76 N a0) fun r1=>g65L26 N (fun e9 e10=>some e9) (fun e11=>some true) r1 0 a1
def g65Tl (N:Nat):List (Nat×Told):=[(26,g65L26T N),(6758,g65L6758T N)]
def g65An (N:Nat):Ann:=mkAn N [(26,([3,8,9],[3]),([4],[3])),(6758,([3,5,8,9,12,13],[3]),([3,4,8,9],[3]))] [] (g65Tl N) [] [] 38
theorem g65L26_ok (N:Nat):q0P (((G37 N).q0F []).q0T []) (g65An N) (bdy Tryd.f65) 26 (g65L26T N):=⟨⟨loopBody (q0G (bdy Tryd.f65) 64 26),by kernel_rfl,fun K' rec a=>by kernel_rfl⟩,fun a=>by kernel_rfl⟩
theorem g65L6758_ok (N:Nat):q0P (((G37 N).q0F []).q0T []) (g65An N) (bdy Tryd.f65) 6758 (g65L6758T N):=⟨⟨loopBody (q0G (bdy Tryd.f65) 64 6758),by kernel_rfl,fun K' rec a=>by kernel_rfl⟩,fun a=>by kernel_rfl⟩
def G65 (N:Nat):Cfg:=(G37 N).add 65 (Spec.one [.d tQ3,.d tQ2] .bool (fun a=>g65 N a.1 a.2.1))
theorem G65_ok (N:Nat):q0A Tryd.prog (G65 N):=add_one [.d tQ3,.d tQ2] .bool (fun a=>g65 N a.1 a.2.1) [] [] (g65An N) (G37_ok N) Tryd.func65 (by kernel_rfl) (by kernel_rfl) (lokT (q0R (g65Tl N) rfl rfl ⟨g65L26_ok N,g65L6758_ok N,trivial⟩)) (.inr rfl) fun a=>by kernel_rfl
def Gh65 (N:Nat):Cfg:=(G65 N).hand 65 tQ26 .bool
theorem Gh65_ok (N:Nat):q0A Tryd.prog (Gh65 N):=hand_ok (G65_ok N) ⟨Tryd.f65,Tryd.func65,by kernel_rfl,by kernel_rfl⟩
def g92L58B (N:Nat) {C:Type} (rec:Int→Int→TQ7→TQ7→Option C) (k0:TQ7→TQ7→Option C) (t6 t7:Int) (o2:LIt×(LIt×(Unit))) (o3:LIt×(LIt×(Unit))):Option C :=
 bif (decide ((t7:Int) < t6)) then if idx t7 6 then (rec t6 (IntKind.wrap .i64 (t7 + 1)) o2 (o3.1,(List.set o3.2.1 (Int.toNat t7) t7),o3.2.2)) else none else (k0 o2 o3)
abbrev g92L58V:List Sh1:=[.a (.ref 2 0 []),.a (.ref 3 0 []),.a (.d tIt),.a (.d tIt)]
abbrev g92L58O:List OSh:=[.box (.d tQ2) (.a (.d tQ2)),.box (.d tQ2) (.a (.d tQ2))]
def g92L58 (N:Nat) {C:Type} (k0:TQ7→TQ7→Option C) (t6 t7:Int) (o2:LIt×(LIt×(Unit))) (o3:LIt×(LIt×(Unit))):Option C :=
 itP (α:=q0I g92L58V×q0E g92L58O) (fun rec a=>g92L58B N (fun t6 t7 o2 o3=>rec (((),(),t6,t7,()),(o2,o3,()))) k0 a.1.2.2.1 a.1.2.2.2.1 a.2.1 a.2.2.1) N (((),(),t6,t7,()),(o2,o3,()))
def g92L58T (N:Nat):Told:={ nt:=16,sv:=g92L58V,so:=g92L58O,run:=fun K' rec a=>g92L58B N (fun t6 t7 o2 o3=>rec (((),(),t6,t7,()),(o2,o3,()))) (fun eo2 eo3=>K' (.exit 0) (build 16 [2,3] [2,3] [(.ref 2 0 []),(.ref 3 0 [])] [(some (.box (.d tQ2) (.dat tQ2 eo2))),(some (.box (.d tQ2) (.dat tQ2 eo3)))])) a.1.2.2.1 a.1.2.2.2.1 a.2.1 a.2.2.1 }
def g92 (N:Nat) (a0:LMt×(LMt×(Unit))):Option TQ7 :=
 Option.bind (g76 N a0) fun r1=>g92L58 N (fun e2 e3=>some e3) r1 0 ((List.replicate 6 0),(List.replicate 6 0),()) ((List.replicate 6 0),(List.replicate 6 0),())
def g92Tl (N:Nat):List (Nat×Told):=[(58,g92L58T N)]
def g92An (N:Nat):Ann:=mkAn N [(58,([2,3,6,7],[2,3]),([2,3],[2,3]))] [] (g92Tl N) [] [] 16
theorem g92L58_ok (N:Nat):q0P (((Gh65 N).q0F []).q0T []) (g92An N) (bdy Tryd.f92) 58 (g92L58T N):=⟨⟨loopBody (q0G (bdy Tryd.f92) 64 58),by kernel_rfl,fun K' rec a=>by kernel_rfl⟩,fun a=>by kernel_rfl⟩
def G92 (N:Nat):Cfg:=(Gh65 N).add 92 (Spec.one [.d tQ3] tQ2 (fun a=>g92 N a.1))
theorem G92_ok (N:Nat):q0A Tryd.prog (G92 N):=add_one [.d tQ3] tQ2 (fun a=>g92 N a.1) [] [] (g92An N) (Gh65_ok N) Tryd.func92 (by kernel_rfl) (by kernel_rfl) (lokT (q0R (g92Tl N) rfl rfl ⟨g92L58_ok N,trivial⟩)) (.inr rfl) fun a=>by kernel_rfl
@[reducible] def g112xS:XSh:={ sa:=[.a (.d tQ2),.a (.d tIt),.fn 113 [.ref 100001 0 [],.ref 100002 0 []]],so:=[.gone,.box .leaf (.fn 93 [.p tQ3]),.box .leaf (.a (.mp 100003 0)),.map tQ2 tQ22],rs:=[.fn 133 [.ref 200000 0 [],.ref 200001 0 [],.ref 200002 0 []]],many:=false,os:=[(0,.gone),(0,.box .leaf (.fn 93 [.p tQ3])),(0,.box .leaf (.a (.mp 100003 0))),(0,.map tQ2 tQ22)],xs:=[.box (.d tQ2) (.a (.d tQ2)),.box (.d tIt) (.a (.d tIt)),.box .leaf (.fn 113 [.ref 100001 0 [],.ref 100002 0 []])] }
def g112x (N:Nat) (a0:LIt×(LIt×(Unit))) (a1:Int) (p1_0:LMt×(LMt×(Unit))) (p3:List TQ17):Option (g112xS).R :=
 some ((((),(),(),()),()),((),(p1_0,()),(),p3,()),(a0,a1,((),(),()),()))
def g112xAn (N:Nat):Ann:=mkAn N [] [] [] [] [] 8
def G112x (N:Nat):Cfg:=(G92 N).addX 112 (q4N.of (g112xS) (fun a=>g112x N a.1.1 a.1.2.1 a.2.2.1.1 a.2.2.2.2.1))
theorem G112x_ok (N:Nat):q0A Tryd.prog (G112x N):=z7B (g112xS) (fun a=>g112x N a.1.1 a.1.2.1 a.2.2.1.1 a.2.2.2.2.1) [] [] [3,4,5] (g112xAn N) (G92_ok N) Tryd.func112 (by kernel_rfl) (by kernel_rfl) lokE (.inr rfl) (fun h=>by first | rfl | cases h) fun a=>by kernel_rfl
def z2W (N:Nat) {C:Type} (rec:Int→Int→Int→TQ5→TQ7→TQ7→TQ7→(List TQ24)→Option C) (k0:TQ5→TQ7→TQ7→TQ7→(List TQ24)→Option C) (t2 t16 t17:Int) (o3:LMt×(LMt×(Unit))) (o4:LIt×(LIt×(Unit))) (o6:LIt×(LIt×(Unit))) (o7:LIt×(LIt×(Unit))) (o14:List TQ24):Option C :=
 bif (decide ((t17:Int) < t16)) then if idx t17 6 then if idx t17 6 then if idx (List.getD o4.2.1 (Int.toNat t17) 0) (List.length o3.2.1) then if idx t2 (List.length (List.getD o3.2.1 (Int.toNat (List.getD o4.2.1 (Int.toNat t17) 0)) ([]:List (Int)))) then bif (!(Option.isSome (q0C (Ty.beq (.pair tIt tQ13)) ((List.getD o4.1 (Int.toNat t17) 0),(List.getD (List.getD o3.2.1 (Int.toNat (List.getD o4.2.1 (Int.toNat t17) 0)) ([]:List (Int))) (Int.toNat t2) 0),()) o14))) then if idx t17 6 then if idx t17 6 then if idx (List.getD o4.2.1 (Int.toNat t17) 0) (List.length o3.1) then if idx t2 (List.length (List.getD o3.1 (Int.toNat (List.getD o4.2.1 (Int.toNat t17) 0)) ([]:List (Int)))) then if idx t17 6 then (rec t2 t16 (IntKind.wrap .i64 (t17 + 1)) o3 o4 o6 ((List.set o7.1 (Int.toNat t17) (Option.getD (q0C (Ty.beq (.pair tIt tQ13)) ((List.getD o4.1 (Int.toNat t17) 0),(List.getD (List.getD o3.2.1 (Int.toNat (List.getD o4.2.1 (Int.toNat t17) 0)) ([]:List (Int))) (Int.toNat t2) 0),()) (q0S (Ty.beq (.pair tIt tQ13)) ((List.getD o4.1 (Int.toNat t17) 0),(List.getD (List.getD o3.2.1 (Int.toNat (List.getD o4.2.1 (Int.toNat t17) 0)) ([]:List (Int))) (Int.toNat t2) 0),()) t17 o14)) 0)),(List.set o7.2.1 (Int.toNat t17) (List.getD (List.getD o3.1 (Int.toNat (List.getD o4.2.1 (Int.toNat t17) 0)) ([]:List (Int))) (Int.toNat t2) 0)),o7.2.2) (q0S (Ty.beq (.pair tIt tQ13)) ((List.getD o4.1 (Int.toNat t17) 0),(List.getD (List.getD o3.2.1 (Int.toNat (List.getD o4.2.1 (Int.toNat t17) 0)) ([]:List (Int))) (Int.toNat t2) 0),()) t17 o14)) else none else none else none else none else none else if idx t17 6 then if idx t17 6 then if idx (List.getD o4.2.1 (Int.toNat t17) 0) (List.length o3.1) then if idx t2 (List.length (List.getD o3.1 (Int.toNat (List.getD o4.2.1 (Int.toNat t17) 0)) ([]:List (Int)))) then if idx t17 6 then (rec t2 t16 (IntKind.wrap .i64 (t17 + 1)) o3 o4 o6 ((List.set o7.1 (Int.toNat t17) (Option.getD (q0C (Ty.beq (.pair tIt tQ13)) ((List.getD o4.1 (Int.toNat t17) 0),(List.getD (List.getD o3.2.1 (Int.toNat (List.getD o4.2.1 (Int.toNat t17) 0)) ([]:List (Int))) (Int.toNat t2) 0),()) o14) 0)),(List.set o7.2.1 (Int.toNat t17) (List.getD (List.getD o3.1 (Int.toNat (List.getD o4.2.1 (Int.toNat t17) 0)) ([]:List (Int))) (Int.toNat t2) 0)),o7.2.2) o14) else none else none else none else none else none else none else none else none else none else (k0 o3 o4 o6 o7 o14)
abbrev g94L122V:List Sh1:=[.a (.d tIt),.a (.ref 3 0 []),.a (.ref 4 0 []),.a (.ref 6 0 []),.a (.ref 7 0 []),.a (.mp 14 0),.a (.d tIt),.a (.d tIt)]
abbrev g94L122O:List OSh:=[.box (.d tQ3) (.a (.d tQ3)),.box (.d tQ2) (.a (.d tQ2)),.box (.d tQ2) (.a (.d tQ2)),.box (.d tQ2) (.a (.d tQ2)),.map (.pair tIt tQ13) tIt]
def g94L122 (N:Nat) {C:Type} (k0:TQ5→TQ7→TQ7→TQ7→(List TQ24)→Option C) (t2 t16 t17:Int) (o3:LMt×(LMt×(Unit))) (o4:LIt×(LIt×(Unit))) (o6:LIt×(LIt×(Unit))) (o7:LIt×(LIt×(Unit))) (o14:List TQ24):Option C :=
 itP (α:=q0I g94L122V×q0E g94L122O) (fun rec a=>z2W N (fun t2 t16 t17 o3 o4 o6 o7 o14=>rec ((t2,(),(),(),(),(),t16,t17,()),(o3,o4,o6,o7,o14,()))) k0 a.1.1 a.1.2.2.2.2.2.2.1 a.1.2.2.2.2.2.2.2.1 a.2.1 a.2.2.1 a.2.2.2.1 a.2.2.2.2.1 a.2.2.2.2.2.1) N ((t2,(),(),(),(),(),t16,t17,()),(o3,o4,o6,o7,o14,()))
def g94L122T (N:Nat):Told:={ nt:=69,sv:=g94L122V,so:=g94L122O,run:=fun K' rec a=>z2W N (fun t2 t16 t17 o3 o4 o6 o7 o14=>rec ((t2,(),(),(),(),(),t16,t17,()),(o3,o4,o6,o7,o14,()))) (fun eo3 eo4 eo6 eo7 eo14=>K' (.exit 0) (build 69 [6,7] [3,4,6,7,14] [(.ref 6 0 []),(.ref 7 0 [])] [(some (.box (.d tQ3) (.dat tQ3 eo3))),(some (.box (.d tQ2) (.dat tQ2 eo4))),(some (.box (.d tQ2) (.dat tQ2 eo6))),(some (.box (.d tQ2) (.dat tQ2 eo7))),(some (.map (.pair tIt tQ13) tIt eo14))])) a.1.1 a.1.2.2.2.2.2.2.1 a.1.2.2.2.2.2.2.2.1 a.2.1 a.2.2.1 a.2.2.2.1 a.2.2.2.2.1 a.2.2.2.2.2.1 }
def g94 (N:Nat) (a0:LMt×(LMt×(Unit))) (a1:LIt×(LIt×(Unit))) (a2:Int):Option TQ7 :=
 Option.bind (g76 N a0) fun r1=>g94L122 N (fun e2 e3 e4 e5 e6=>some e5) a2 r1 0 a0 a1 ((List.replicate 6 0),(List.replicate 6 0),()) a1 ([]:List TQ24)
def g94Tl (N:Nat):List (Nat×Told):=[(122,g94L122T N)]
def g94An (N:Nat):Ann:=mkAn N [(122,([2,3,4,6,7,8,16,17],[3,4,6,7,14]),([6,7],[3,4,6,7,14]))] [] (g94Tl N) [] [] 69
theorem g94L122_ok (N:Nat):q0P (((G112x N).q0F []).q0T []) (g94An N) (bdy Tryd.f94) 122 (g94L122T N):=⟨⟨loopBody (q0G (bdy Tryd.f94) 64 122),by kernel_rfl,fun K' rec a=>by kernel_rfl⟩,fun a=>by kernel_rfl⟩
def G94 (N:Nat):Cfg:=(G112x N).add 94 (Spec.one [.d tQ3,.d tQ2,.d tIt] tQ2 (fun a=>g94 N a.1 a.2.1 a.2.2.1))
theorem G94_ok (N:Nat):q0A Tryd.prog (G94 N):=add_one [.d tQ3,.d tQ2,.d tIt] tQ2 (fun a=>g94 N a.1 a.2.1 a.2.2.1) [] [] (g94An N) (G112x_ok N) Tryd.func94 (by kernel_rfl) (by kernel_rfl) (lokT (q0R (g94Tl N) rfl rfl ⟨g94L122_ok N,trivial⟩)) (.inr rfl) fun a=>by kernel_rfl
def g93 (N:Nat) (a0:LIt×(LIt×(Unit))) (a1:Int) (a2:LMt×(LMt×(Unit))):Option (TQ7×TQ16) :=
 Option.bind (g94 N a2 a0 a1) fun r1=>some (r1,true,())
def g93An (N:Nat):Ann:=mkAn N [] [] [] [] [] 11
def G93 (N:Nat):Cfg:=(G94 N).add 93 (Spec.many [.d tQ2,.d tIt,.p tQ3] tQ19 (fun a=>g93 N a.1 a.2.1 a.2.2.1))
theorem G93_ok (N:Nat):q0A Tryd.prog (G93 N):=q2J [.d tQ2,.d tIt,.p tQ3] tQ19 (fun a=>g93 N a.1 a.2.1 a.2.2.1) [] [] (g93An N) (G94_ok N) Tryd.func93 (by kernel_rfl) (by kernel_rfl) lokE (.inr rfl) fun a=>by kernel_rfl
@[reducible] def g113xS:XSh:={ sa:=[.a (.d tQ2),.a (.d tIt),.a (.ref 100001 0 []),.a (.ref 100002 0 [])],so:=[.gone,.box .leaf (.fn 93 [.p tQ3]),.box .leaf (.a (.mp 100003 0)),.map tQ2 tQ22],rs:=[.a (.d tQ2),.a (.d .bool)],many:=true,os:=[(0,.gone),(0,.box .leaf (.fn 93 [.p tQ3])),(0,.box .leaf (.a (.mp 100003 0))),(0,.map tQ2 tQ22)],xs:=[] }
def g113x (N:Nat) (a0:LIt×(LIt×(Unit))) (a1:Int) (p1_0:LMt×(LMt×(Unit))) (p3:List TQ17):Option (g113xS).R :=
 Option.bind (g93 N a0 a1 p1_0) fun r1=>bif (!r1.2.1) then some ((r1.1,false,()),((),(p1_0,()),(),p3,()),(())) else bif (Option.isSome (q0C (Ty.beq tQ2) r1.1 p3)) then some ((r1.1,false,()),((),(p1_0,()),(),p3,()),(())) else some ((r1.1,true,()),((),(p1_0,()),(),(q0S (Ty.beq tQ2) r1.1 (a0,a1,()) p3),()),(()))
def g113xAn (N:Nat):Ann:=mkAn N [] [] [] [] [] 37
def G113x (N:Nat):Cfg:=(G93 N).addX 113 (q4N.of (g113xS) (fun a=>g113x N a.1.1 a.1.2.1 a.2.2.1.1 a.2.2.2.2.1))
theorem G113x_ok (N:Nat):q0A Tryd.prog (G113x N):=z7B (g113xS) (fun a=>g113x N a.1.1 a.1.2.1 a.2.2.1.1 a.2.2.2.2.1) [] [] [] (g113xAn N) (G93_ok N) Tryd.func113 (by kernel_rfl) (by kernel_rfl) lokE (.inr rfl) (fun h=>by first | rfl | cases h) fun a=>by kernel_rfl
def q3I (N:Nat) (t:Ty) {C:Type} (rec:(List TQ7)→Int→Int→Int→Int→(List TQ7)→TQ7→(CbF t tQ19)→(t.T)→TQ7→Int→Option C) (k0:(List TQ7)→Int→Int→(List TQ7)→TQ7→(CbF t tQ19)→(t.T)→TQ7→Int→Option C) (t21:List TQ7) (t22 t23:Int) (t27 t28:Int) (o6:List TQ7) (o8:LIt×(LIt×(Unit))) (o100000r:CbF t tQ19) (o100000x:t.T) (o100001:LIt×(LIt×(Unit))) (o100002:Int):Option C :=
 bif (decide ((t28:Int) < t27)) then Option.bind (o100000r.f o100000x [.dat tQ2 o8,.dat tIt t28]) fun r2=>bif r2.2.2.1 then if List.length o6 + List.length [r2.2.1] ≤ maxCount then (rec t21 t22 t23 t27 (IntKind.wrap .i64 (t28 + 1)) (o6 ++ [r2.2.1]) o8 o100000r r2.1 o100001 o100002) else none else (rec t21 t22 t23 t27 (IntKind.wrap .i64 (t28 + 1)) o6 o8 o100000r r2.1 o100001 o100002) else (k0 t21 t22 t23 o6 o8 o100000r o100000x o100001 o100002)
def z7U (N:Nat) (t:Ty) {C:Type} (k0:(List TQ7)→Int→Int→(List TQ7)→TQ7→(CbF t tQ19)→(t.T)→TQ7→Int→Option C) (t21:List TQ7) (t22 t23:Int) (t27 t28:Int) (o6:List TQ7) (o8:LIt×(LIt×(Unit))) (o100000r:CbF t tQ19) (o100000x:t.T) (o100001:LIt×(LIt×(Unit))) (o100002:Int):Option C :=
 itP (α:=q0I [.a (.cb 0),.a (.ref 100002 0 []),.a (.ref 100003 0 []),.a (.sl tQ2 6 0),.a (.ref 8 0 []),.a (.d (.lst tQ2)),.a (.d tIt),.a (.d tIt),.a (.d tIt),.a (.d tIt)]×q0E [.vec tQ2,.box (.d tQ2) (.a (.d tQ2)),.ghf t tQ19,.box (.d tQ2) (.a (.d tQ2)),.box (.d tIt) (.a (.d tIt)),.box .leaf (.a (.cb 1))]) (fun rec a=>q3I N t (fun t21 t22 t23 t27 t28 o6 o8 o100000r o100000x o100001 o100002=>rec (((),(),(),(),(),t21,t22,t23,t27,t28,()),(o6,o8,(o100000r,o100000x),o100001,o100002,(),()))) k0 a.1.2.2.2.2.2.1 a.1.2.2.2.2.2.2.1 a.1.2.2.2.2.2.2.2.1 a.1.2.2.2.2.2.2.2.2.1 a.1.2.2.2.2.2.2.2.2.2.1 a.2.1 a.2.2.1 a.2.2.2.1.1 a.2.2.2.1.2 a.2.2.2.2.1 a.2.2.2.2.2.1) N (((),(),(),(),(),t21,t22,t23,t27,t28,()),(o6,o8,(o100000r,o100000x),o100001,o100002,(),()))
def z5H (N:Nat) (t:Ty):Told:={ nt:=46,sv:=[.a (.cb 0),.a (.ref 100002 0 []),.a (.ref 100003 0 []),.a (.sl tQ2 6 0),.a (.ref 8 0 []),.a (.d (.lst tQ2)),.a (.d tIt),.a (.d tIt),.a (.d tIt),.a (.d tIt)],so:=[.vec tQ2,.box (.d tQ2) (.a (.d tQ2)),.ghf t tQ19,.box (.d tQ2) (.a (.d tQ2)),.box (.d tIt) (.a (.d tIt)),.box .leaf (.a (.cb 1))],run:=fun K' rec a=>q3I N t (fun t21 t22 t23 t27 t28 o6 o8 o100000r o100000x o100001 o100002=>rec (((),(),(),(),(),t21,t22,t23,t27,t28,()),(o6,o8,(o100000r,o100000x),o100001,o100002,(),()))) (fun et21 et22 et23 eo6 eo8 eo100000r eo100000x eo100001 eo100002=>K' (.exit 4) (build 46 [0,2,3,6,21,22,23] [6,8,100000,100001,100002,100003] [(.cb 0),(.ref 100002 0 []),(.ref 100003 0 []),(.sl tQ2 6 0),(.dat (.lst tQ2) et21),(.dat tIt et22),(.dat tIt et23)] [(some (.vec tQ2 eo6)),(some (.box (.d tQ2) (.dat tQ2 eo8))),(some (.gh t eo100000r.cbs eo100000x)),(some (.box (.d tQ2) (.dat tQ2 eo100001))),(some (.box (.d tIt) (.dat tIt eo100002))),(some (.box .leaf (.cb 1)))])) a.1.2.2.2.2.2.1 a.1.2.2.2.2.2.2.1 a.1.2.2.2.2.2.2.2.1 a.1.2.2.2.2.2.2.2.2.1 a.1.2.2.2.2.2.2.2.2.2.1 a.2.1 a.2.2.1 a.2.2.2.1.1 a.2.2.2.1.2 a.2.2.2.2.1 a.2.2.2.2.2.1 }
def q5U (N:Nat) (t:Ty) {C:Type} (rec:(List TQ7)→Int→Int→(List TQ7)→(CbF t tQ19)→(t.T)→TQ7→Int→Option C) (k0:(List TQ7)→(CbF t tQ19)→(t.T)→TQ7→Int→Option C) (t21:List TQ7) (t22 t23:Int) (o6:List TQ7) (o100000r:CbF t tQ19) (o100000x:t.T) (o100001:LIt×(LIt×(Unit))) (o100002:Int):Option C :=
 bif (decide ((t23:Int) < t22)) then if idx t23 (List.length t21) then z7U N t (fun e3 e4 e5 e6 e7 e8 e9 e10 e11=>(rec e3 e4 (IntKind.wrap .i64 (e5 + 1)) e6 e8 e9 e10 e11)) t21 t22 t23 o100002 0 o6 (List.getD t21 (Int.toNat t23) ((List.replicate 6 0),(List.replicate 6 0),())) o100000r o100000x o100001 o100002 else none else (k0 o6 o100000r o100000x o100001 o100002)
def g133xL1626 (N:Nat) (t:Ty) {C:Type} (k0:(List TQ7)→(CbF t tQ19)→(t.T)→TQ7→Int→Option C) (t21:List TQ7) (t22 t23:Int) (o6:List TQ7) (o100000r:CbF t tQ19) (o100000x:t.T) (o100001:LIt×(LIt×(Unit))) (o100002:Int):Option C :=
 itP (α:=q0I [.a (.cb 0),.a (.ref 100002 0 []),.a (.ref 100003 0 []),.a (.sl tQ2 6 0),.a (.d (.lst tQ2)),.a (.d tIt),.a (.d tIt)]×q0E [.vec tQ2,.ghf t tQ19,.box (.d tQ2) (.a (.d tQ2)),.box (.d tIt) (.a (.d tIt)),.box .leaf (.a (.cb 1))]) (fun rec a=>q5U N t (fun t21 t22 t23 o6 o100000r o100000x o100001 o100002=>rec (((),(),(),(),t21,t22,t23,()),(o6,(o100000r,o100000x),o100001,o100002,(),()))) k0 a.1.2.2.2.2.1 a.1.2.2.2.2.2.1 a.1.2.2.2.2.2.2.1 a.2.1 a.2.2.1.1 a.2.2.1.2 a.2.2.2.1 a.2.2.2.2.1) N (((),(),(),(),t21,t22,t23,()),(o6,(o100000r,o100000x),o100001,o100002,(),()))
def z9P (N:Nat) (t:Ty):Told:={ nt:=46,sv:=[.a (.cb 0),.a (.ref 100002 0 []),.a (.ref 100003 0 []),.a (.sl tQ2 6 0),.a (.d (.lst tQ2)),.a (.d tIt),.a (.d tIt)],so:=[.vec tQ2,.ghf t tQ19,.box (.d tQ2) (.a (.d tQ2)),.box (.d tIt) (.a (.d tIt)),.box .leaf (.a (.cb 1))],run:=fun K' rec a=>q5U N t (fun t21 t22 t23 o6 o100000r o100000x o100001 o100002=>rec (((),(),(),(),t21,t22,t23,()),(o6,(o100000r,o100000x),o100001,o100002,(),()))) (fun eo6 eo100000r eo100000x eo100001 eo100002=>K' (.exit 2) (build 46 [0,2,3,6] [6,100000,100001,100002,100003] [(.cb 0),(.ref 100002 0 []),(.ref 100003 0 []),(.sl tQ2 6 0)] [(some (.vec tQ2 eo6)),(some (.gh t eo100000r.cbs eo100000x)),(some (.box (.d tQ2) (.dat tQ2 eo100001))),(some (.box (.d tIt) (.dat tIt eo100002))),(some (.box .leaf (.cb 1)))])) a.1.2.2.2.2.1 a.1.2.2.2.2.2.1 a.1.2.2.2.2.2.2.1 a.2.1 a.2.2.1.1 a.2.2.1.2 a.2.2.2.1 a.2.2.2.2.1 }
def z3Q (N:Nat) (t:Ty) {C:Type} (rec:(List TQ7)→(CbF t tQ19)→(t.T)→TQ7→Int→Option C) (k0:(CbF t tQ19)→(t.T)→TQ7→Int→Option C) (k1:(CbF t tQ19)→(t.T)→TQ7→Int→Option C) (t5:List TQ7) (o100000r:CbF t tQ19) (o100000x:t.T) (o100001:LIt×(LIt×(Unit))) (o100002:Int):Option C :=
 bif (decide ((0:Int) < ((List.length t5:Nat):Int))) then Option.bind (o100000r.y o100000x [.dat (.lst tQ2) t5]) fun r1=>bif (!r1.2) then (k0 o100000r r1.1 o100001 o100002) else g133xL1626 N t (fun e12 e13 e14 e15 e16=>(rec e12 e13 e14 e15 e16)) t5 ((List.length t5:Nat):Int) 0 ([]:List TQ7) o100000r r1.1 o100001 o100002 else (k1 o100000r o100000x o100001 o100002)
def g133xL6 (N:Nat) (t:Ty) {C:Type} (k0:(CbF t tQ19)→(t.T)→TQ7→Int→Option C) (k1:(CbF t tQ19)→(t.T)→TQ7→Int→Option C) (t5:List TQ7) (o100000r:CbF t tQ19) (o100000x:t.T) (o100001:LIt×(LIt×(Unit))) (o100002:Int):Option C :=
 itP (α:=q0I [.a (.cb 0),.a (.ref 100002 0 []),.a (.ref 100003 0 []),.a (.d (.lst tQ2))]×q0E [.ghf t tQ19,.box (.d tQ2) (.a (.d tQ2)),.box (.d tIt) (.a (.d tIt)),.box .leaf (.a (.cb 1))]) (fun rec a=>z3Q N t (fun t5 o100000r o100000x o100001 o100002=>rec (((),(),(),t5,()),((o100000r,o100000x),o100001,o100002,(),()))) k0 k1 a.1.2.2.2.1 a.2.1.1 a.2.1.2 a.2.2.1 a.2.2.2.1) N (((),(),(),t5,()),((o100000r,o100000x),o100001,o100002,(),()))
def g133xL6T (N:Nat) (t:Ty):Told:={ nt:=46,sv:=[.a (.cb 0),.a (.ref 100002 0 []),.a (.ref 100003 0 []),.a (.d (.lst tQ2))],so:=[.ghf t tQ19,.box (.d tQ2) (.a (.d tQ2)),.box (.d tIt) (.a (.d tIt)),.box .leaf (.a (.cb 1))],run:=fun K' rec a=>z3Q N t (fun t5 o100000r o100000x o100001 o100002=>rec (((),(),(),t5,()),((o100000r,o100000x),o100001,o100002,(),()))) (fun eo100000r eo100000x eo100001 eo100002=>K' .ret (build 46 [] [100000,100001,100002,100003] [] [(some (.gh t eo100000r.cbs eo100000x)),(some (.box (.d tQ2) (.dat tQ2 eo100001))),(some (.box (.d tIt) (.dat tIt eo100002))),(some (.box .leaf (.cb 1)))])) (fun eo100000r eo100000x eo100001 eo100002=>K' (.exit 0) (build 46 [] [100000,100001,100002,100003] [] [(some (.gh t eo100000r.cbs eo100000x)),(some (.box (.d tQ2) (.dat tQ2 eo100001))),(some (.box (.d tIt) (.dat tIt eo100002))),(some (.box .leaf (.cb 1)))])) a.1.2.2.2.1 a.2.1.1 a.2.1.2 a.2.2.1 a.2.2.2.1 }
@[reducible] def g133xS (t:Ty):XSh:={ sa:=[.a (.cb 0),.a (.ref 100001 0 []),.a (.ref 100002 0 []),.a (.ref 100003 0 [])],so:=[.ghf t tQ19,.box (.d tQ2) (.a (.d tQ2)),.box (.d tIt) (.a (.d tIt)),.box .leaf (.a (.cb 1))],rs:=[],many:=true,os:=[(0,.ghf t tQ19),(0,.box (.d tQ2) (.a (.d tQ2))),(0,.box (.d tIt) (.a (.d tIt))),(0,.box .leaf (.a (.cb 1)))],xs:=[] }
def g133x (N:Nat) (t:Ty) (run:CbF t tQ19) (x:t.T) (p1:LIt×(LIt×(Unit))) (p2:Int):Option (g133xS t).R :=
 g133xL6 N t (fun e17 e18 e19 e20=>some ((()),((e17,e18),e19,e20,(),()),(()))) (fun e21 e22 e23 e24=>some ((()),((e21,e22),e23,e24,(),()),(()))) [p1] run x p1 p2
def g133xTl (N:Nat) (t:Ty):List (Nat×Told):=[(6,g133xL6T N t),(1626,z9P N t),(416358,z5H N t)]
def g133xAn (N:Nat) (t:Ty):Ann:=mkAn N [(6,([0,2,3,5],[100000,100001,100002,100003]),([],[100000,100001,100002,100003])),(1626,([0,2,3,6,21,22,23],[6,100000,100001,100002,100003]),([0,2,3,6],[6,100000,100001,100002,100003])),(416358,([0,2,3,6,8,21,22,23,27,28],[6,8,100000,100001,100002,100003]),([0,2,3,6,21,22,23],[6,8,100000,100001,100002,100003]))] [(1000015,[6])] (g133xTl N t) [] [] 46
theorem g133xI1L6_ok (N:Nat):q0P (((G113x N).q0F []).q0T [19,35]) (g133xAn N (.pair tIt (tyO [.box (.d tQ2) (.a (.d tQ2)),.box .leaf (.fn 93 [.p tQ3]),.box (.d tLt) (.a (.d tLt)),.box (.d .bool) (.a (.d .bool)),.box .leaf (.a (.mp 15 0)),.map tQ2 tQ22,.gone]))) (bdy Tryd.f133) 6 (g133xL6T N (.pair tIt (tyO [.box (.d tQ2) (.a (.d tQ2)),.box .leaf (.fn 93 [.p tQ3]),.box (.d tLt) (.a (.d tLt)),.box (.d .bool) (.a (.d .bool)),.box .leaf (.a (.mp 15 0)),.map tQ2 tQ22,.gone]))):=⟨⟨loopBody (q0G (bdy Tryd.f133) 64 6),by kernel_rfl,fun K' rec a=>by kernel_rfl⟩,fun a=>by kernel_rfl⟩
theorem j1K (N:Nat):q0P (((G113x N).q0F []).q0T [19,35]) (g133xAn N (.pair tIt (tyO [.box (.d tQ2) (.a (.d tQ2)),.box .leaf (.fn 93 [.p tQ3]),.box (.d tLt) (.a (.d tLt)),.box (.d .bool) (.a (.d .bool)),.box .leaf (.a (.mp 15 0)),.map tQ2 tQ22,.gone]))) (bdy Tryd.f133) 1626 (z9P N (.pair tIt (tyO [.box (.d tQ2) (.a (.d tQ2)),.box .leaf (.fn 93 [.p tQ3]),.box (.d tLt) (.a (.d tLt)),.box (.d .bool) (.a (.d .bool)),.box .leaf (.a (.mp 15 0)),.map tQ2 tQ22,.gone]))):=⟨⟨loopBody (q0G (bdy Tryd.f133) 64 1626),by kernel_rfl,fun K' rec a=>by kernel_rfl⟩,fun a=>by kernel_rfl⟩
theorem z6P (N:Nat):q0P (((G113x N).q0F []).q0T [19,35]) (g133xAn N (.pair tIt (tyO [.box (.d tQ2) (.a (.d tQ2)),.box .leaf (.fn 93 [.p tQ3]),.box (.d tLt) (.a (.d tLt)),.box (.d .bool) (.a (.d .bool)),.box .leaf (.a (.mp 15 0)),.map tQ2 tQ22,.gone]))) (bdy Tryd.f133) 416358 (z5H N (.pair tIt (tyO [.box (.d tQ2) (.a (.d tQ2)),.box .leaf (.fn 93 [.p tQ3]),.box (.d tLt) (.a (.d tLt)),.box (.d .bool) (.a (.d .bool)),.box .leaf (.a (.mp 15 0)),.map tQ2 tQ22,.gone]))):=⟨⟨loopBody (q0G (bdy Tryd.f133) 64 416358),by kernel_rfl,fun K' rec a=>by kernel_rfl⟩,fun a=>by kernel_rfl⟩
def z6N (N:Nat):Cfg:=(G113x N).addX 133 (q4N.of (g133xS (.pair tIt (tyO [.box (.d tQ2) (.a (.d tQ2)),.box .leaf (.fn 93 [.p tQ3]),.box (.d tLt) (.a (.d tLt)),.box (.d .bool) (.a (.d .bool)),.box .leaf (.a (.mp 15 0)),.map tQ2 tQ22,.gone]))) (fun a=>g133x N (.pair tIt (tyO [.box (.d tQ2) (.a (.d tQ2)),.box .leaf (.fn 93 [.p tQ3]),.box (.d tLt) (.a (.d tLt)),.box (.d .bool) (.a (.d .bool)),.box .leaf (.a (.mp 15 0)),.map tQ2 tQ22,.gone])) a.2.1.1 a.2.1.2 a.2.2.1 a.2.2.2.1))
theorem G133xI1_ok (N:Nat):q0A Tryd.prog (z6N N):=z7B (g133xS (.pair tIt (tyO [.box (.d tQ2) (.a (.d tQ2)),.box .leaf (.fn 93 [.p tQ3]),.box (.d tLt) (.a (.d tLt)),.box (.d .bool) (.a (.d .bool)),.box .leaf (.a (.mp 15 0)),.map tQ2 tQ22,.gone]))) (fun a=>g133x N (.pair tIt (tyO [.box (.d tQ2) (.a (.d tQ2)),.box .leaf (.fn 93 [.p tQ3]),.box (.d tLt) (.a (.d tLt)),.box (.d .bool) (.a (.d .bool)),.box .leaf (.a (.mp 15 0)),.map tQ2 tQ22,.gone])) a.2.1.1 a.2.1.2 a.2.2.1 a.2.2.2.1) [] [19,35] [] (g133xAn N (.pair tIt (tyO [.box (.d tQ2) (.a (.d tQ2)),.box .leaf (.fn 93 [.p tQ3]),.box (.d tLt) (.a (.d tLt)),.box (.d .bool) (.a (.d .bool)),.box .leaf (.a (.mp 15 0)),.map tQ2 tQ22,.gone]))) (G113x_ok N) Tryd.func133 (by kernel_rfl) (by kernel_rfl) (lokF_of (q0R (g133xTl N (.pair tIt (tyO [.box (.d tQ2) (.a (.d tQ2)),.box .leaf (.fn 93 [.p tQ3]),.box (.d tLt) (.a (.d tLt)),.box (.d .bool) (.a (.d .bool)),.box .leaf (.a (.mp 15 0)),.map tQ2 tQ22,.gone]))) rfl rfl ⟨g133xI1L6_ok N,j1K N,z6P N,trivial⟩) (q0R [] rfl rfl trivial) (z4O [] rfl trivial)) (.inr rfl) (fun h=>by first | rfl | cases h) fun a=>by kernel_rfl
def q3D (N:Nat) {C:Type} (rec:TQ7→TQ5→LIt→Bool→TQ7→LIt→(List TQ17)→((TQ7×(Unit))→Option (Bool))→Option C) (k0:TQ7→TQ5→LIt→Bool→TQ7→LIt→(List TQ17)→((TQ7×(Unit))→Option (Bool))→Option C) (o4:LIt×(LIt×(Unit))) (o7_0:LMt×(LMt×(Unit))) (o8:List (Int)) (o9:Bool) (o13:LIt×(LIt×(Unit))) (o14:List (Int)) (o15:List TQ17) (o400001:(TQ7×(Unit))→Option (Bool)):Option C :=
 bif (!Ty.beq tQ2 o13 o4) then if List.length o14 + List.length [(Option.getD (q0C (Ty.beq tQ2) o13 o15) (((List.replicate 6 0),(List.replicate 6 0),()),0,())).2.1] ≤ maxCount then (rec o4 o7_0 o8 o9 (Option.getD (q0C (Ty.beq tQ2) o13 o15) (((List.replicate 6 0),(List.replicate 6 0),()),0,())).1 (o14 ++ [(Option.getD (q0C (Ty.beq tQ2) o13 o15) (((List.replicate 6 0),(List.replicate 6 0),()),0,())).2.1]) o15 o400001) else none else (k0 o4 o7_0 o8 o9 o13 o14 o15 o400001)
abbrev q9E:List Sh1:=[.a (.ref 4 0 []),.a (.ref 8 0 []),.a (.ref 9 0 []),.a (.ref 10 0 []),.a (.ref 13 0 []),.a (.sl tIt 14 0)]
abbrev q9B:List OSh:=[.box (.d tQ2) (.a (.d tQ2)),.box .leaf (.fn 93 [.p tQ3]),.box (.d tLt) (.a (.d tLt)),.box (.d .bool) (.a (.d .bool)),.box .leaf (.a (.mp 15 0)),.box (.d tQ2) (.a (.d tQ2)),.vec tIt,.map tQ2 tQ22,.gone,.sav 0 (.a (.ref 4 0 [])),.sav 1 (.a (.pc tQ26 .bool)),.sav 2 (.a (.ref 8 0 [])),.sav 3 (.a (.ref 9 0 [])),.sav 4 (.a (.ref 10 0 [])),.sav 5 (.a (.ref 7 0 []))]
def g91xL960924 (N:Nat) {C:Type} (k0:TQ7→TQ5→LIt→Bool→TQ7→LIt→(List TQ17)→((TQ7×(Unit))→Option (Bool))→Option C) (o4:LIt×(LIt×(Unit))) (o7_0:LMt×(LMt×(Unit))) (o8:List (Int)) (o9:Bool) (o13:LIt×(LIt×(Unit))) (o14:List (Int)) (o15:List TQ17) (o400001:(TQ7×(Unit))→Option (Bool)):Option C :=
 itP (α:=q0I q9E×q0E q9B) (fun rec a=>q3D N (fun o4 o7_0 o8 o9 o13 o14 o15 o400001=>rec (((),(),(),(),(),(),()),(o4,(o7_0,()),o8,o9,(),o13,o14,o15,(),(),o400001,(),(),(),(),()))) k0 a.2.1 a.2.2.1.1 a.2.2.2.1 a.2.2.2.2.1 a.2.2.2.2.2.2.1 a.2.2.2.2.2.2.2.1 a.2.2.2.2.2.2.2.2.1 a.2.2.2.2.2.2.2.2.2.2.2.1) N (((),(),(),(),(),(),()),(o4,(o7_0,()),o8,o9,(),o13,o14,o15,(),(),o400001,(),(),(),(),()))
def z7N (N:Nat):Told:={ nt:=52,sv:=q9E,so:=q9B,run:=fun K' rec a=>q3D N (fun o4 o7_0 o8 o9 o13 o14 o15 o400001=>rec (((),(),(),(),(),(),()),(o4,(o7_0,()),o8,o9,(),o13,o14,o15,(),(),o400001,(),(),(),(),()))) (fun eo4 eo7_0 eo8 eo9 eo13 eo14 eo15 eo400001=>K' (.exit 4) (build 52 [8,9,14] [4,7,8,9,10,13,14,15,100000,400000,400001,400002,400003,400004,400005] [(.ref 8 0 []),(.ref 9 0 []),(.sl tIt 14 0)] [(some (.box (.d tQ2) (.dat tQ2 eo4))),(some (.box .leaf (.fn 93 [(.eptr (.dat tQ3 eo7_0))]))),(some (.box (.d tLt) (.dat tLt eo8))),(some (.box (.d .bool) (.dat .bool eo9))),(some (.box .leaf (.mp 15 0))),(some (.box (.d tQ2) (.dat tQ2 eo13))),(some (.vec tIt eo14)),(some (.map tQ2 tQ22 eo15)),(some .gone),(some (.sav 0 (.ref 4 0 []))),(some (.sav 1 (.eptr (.clo tQ26 .bool eo400001)))),(some (.sav 2 (.ref 8 0 []))),(some (.sav 3 (.ref 9 0 []))),(some (.sav 4 (.ref 10 0 []))),(some (.sav 5 (.ref 7 0 [])))])) a.2.1 a.2.2.1.1 a.2.2.2.1 a.2.2.2.2.1 a.2.2.2.2.2.2.1 a.2.2.2.2.2.2.2.1 a.2.2.2.2.2.2.2.2.1 a.2.2.2.2.2.2.2.2.2.2.2.1 }
def q8Q (N:Nat) {C:Type} (rec:((TQ7×(Unit))→Option (Bool))→(List TQ7)→Int→Int→TQ7→TQ5→LIt→Bool→(List TQ17)→((TQ7×(Unit))→Option (Bool))→Option C) (k0:TQ7→TQ5→LIt→Bool→(List TQ17)→((TQ7×(Unit))→Option (Bool))→Option C) (k1:TQ7→TQ5→LIt→Bool→(List TQ17)→((TQ7×(Unit))→Option (Bool))→Option C) (t6:(TQ7×(Unit))→Option (Bool)) (t24:List TQ7) (t25 t26:Int) (o4:LIt×(LIt×(Unit))) (o7_0:LMt×(LMt×(Unit))) (o8:List (Int)) (o9:Bool) (o15:List TQ17) (o400001:(TQ7×(Unit))→Option (Bool)):Option C :=
 bif (decide ((t26:Int) < t25)) then if idx t26 (List.length t24) then Option.bind (t6 ((List.getD t24 (Int.toNat t26) ((List.replicate 6 0),(List.replicate 6 0),())),())) fun r2=>bif (!r2) then (rec t6 t24 t25 (IntKind.wrap .i64 (t26 + 1)) o4 o7_0 o8 o9 o15 o400001) else g91xL960924 N (fun e3 e4 e5 e6 e7 e8 e9 e10=>Option.bind (g114x N e8) fun r11=>(k0 e3 e4 r11.2.1.2.1 true e9 e10)) o4 o7_0 o8 o9 (List.getD t24 (Int.toNat t26) ((List.replicate 6 0),(List.replicate 6 0),())) ([]:List (Int)) o15 o400001 else none else (k1 o4 o7_0 o8 o9 o15 o400001)
abbrev g91xL938V:List Sh1:=[.a (.ref 4 0 []),.a (.pc tQ26 .bool),.a (.ref 8 0 []),.a (.ref 9 0 []),.a (.ref 10 0 []),.a (.d (.lst tQ2)),.a (.d tIt),.a (.d tIt)]
abbrev j1F:List OSh:=[.box (.d tQ2) (.a (.d tQ2)),.box .leaf (.fn 93 [.p tQ3]),.box (.d tLt) (.a (.d tLt)),.box (.d .bool) (.a (.d .bool)),.box .leaf (.a (.mp 15 0)),.map tQ2 tQ22,.gone,.sav 0 (.a (.ref 4 0 [])),.sav 1 (.a (.pc tQ26 .bool)),.sav 2 (.a (.ref 8 0 [])),.sav 3 (.a (.ref 9 0 [])),.sav 4 (.a (.ref 10 0 [])),.sav 5 (.a (.ref 7 0 []))]
def g91xL938 (N:Nat) {C:Type} (k0:TQ7→TQ5→LIt→Bool→(List TQ17)→((TQ7×(Unit))→Option (Bool))→Option C) (k1:TQ7→TQ5→LIt→Bool→(List TQ17)→((TQ7×(Unit))→Option (Bool))→Option C) (t6:(TQ7×(Unit))→Option (Bool)) (t24:List TQ7) (t25 t26:Int) (o4:LIt×(LIt×(Unit))) (o7_0:LMt×(LMt×(Unit))) (o8:List (Int)) (o9:Bool) (o15:List TQ17) (o400001:(TQ7×(Unit))→Option (Bool)):Option C :=
 itP (α:=q0I g91xL938V×q0E j1F) (fun rec a=>q8Q N (fun t6 t24 t25 t26 o4 o7_0 o8 o9 o15 o400001=>rec (((),t6,(),(),(),t24,t25,t26,()),(o4,(o7_0,()),o8,o9,(),o15,(),(),o400001,(),(),(),(),()))) k0 k1 a.1.2.1 a.1.2.2.2.2.2.1 a.1.2.2.2.2.2.2.1 a.1.2.2.2.2.2.2.2.1 a.2.1 a.2.2.1.1 a.2.2.2.1 a.2.2.2.2.1 a.2.2.2.2.2.2.1 a.2.2.2.2.2.2.2.2.2.1) N (((),t6,(),(),(),t24,t25,t26,()),(o4,(o7_0,()),o8,o9,(),o15,(),(),o400001,(),(),(),(),()))
def g91xL938T (N:Nat):Told:={ nt:=52,sv:=g91xL938V,so:=j1F,run:=fun K' rec a=>q8Q N (fun t6 t24 t25 t26 o4 o7_0 o8 o9 o15 o400001=>rec (((),t6,(),(),(),t24,t25,t26,()),(o4,(o7_0,()),o8,o9,(),o15,(),(),o400001,(),(),(),(),()))) (fun eo4 eo7_0 eo8 eo9 eo15 eo400001=>K' .ret (build 52 [] [4,7,8,9,10,15,100000,400000,400001,400002,400003,400004,400005] [] [(some (.box (.d tQ2) (.dat tQ2 eo4))),(some (.box .leaf (.fn 93 [(.eptr (.dat tQ3 eo7_0))]))),(some (.box (.d tLt) (.dat tLt eo8))),(some (.box (.d .bool) (.dat .bool eo9))),(some (.box .leaf (.mp 15 0))),(some (.map tQ2 tQ22 eo15)),(some .gone),(some (.sav 0 (.ref 4 0 []))),(some (.sav 1 (.eptr (.clo tQ26 .bool eo400001)))),(some (.sav 2 (.ref 8 0 []))),(some (.sav 3 (.ref 9 0 []))),(some (.sav 4 (.ref 10 0 []))),(some (.sav 5 (.ref 7 0 [])))])) (fun eo4 eo7_0 eo8 eo9 eo15 eo400001=>K' (.exit 2) (build 52 [] [4,7,8,9,10,15,100000,400000,400001,400002,400003,400004,400005] [] [(some (.box (.d tQ2) (.dat tQ2 eo4))),(some (.box .leaf (.fn 93 [(.eptr (.dat tQ3 eo7_0))]))),(some (.box (.d tLt) (.dat tLt eo8))),(some (.box (.d .bool) (.dat .bool eo9))),(some (.box .leaf (.mp 15 0))),(some (.map tQ2 tQ22 eo15)),(some .gone),(some (.sav 0 (.ref 4 0 []))),(some (.sav 1 (.eptr (.clo tQ26 .bool eo400001)))),(some (.sav 2 (.ref 8 0 []))),(some (.sav 3 (.ref 9 0 []))),(some (.sav 4 (.ref 10 0 []))),(some (.sav 5 (.ref 7 0 [])))])) a.1.2.1 a.1.2.2.2.2.2.1 a.1.2.2.2.2.2.2.1 a.1.2.2.2.2.2.2.2.1 a.2.1 a.2.2.1.1 a.2.2.2.1 a.2.2.2.2.1 a.2.2.2.2.2.2.1 a.2.2.2.2.2.2.2.2.2.1 }
def z8W (N:Nat) {C:Type} (kn:TQ7→TQ5→LIt→Bool→(List TQ17)→Option C) (k1:TQ7→TQ5→LIt→Bool→(List TQ17)→Option C) (t6:(TQ7×(Unit))→Option (Bool)) (o4:LIt×(LIt×(Unit))) (o7_0:LMt×(LMt×(Unit))) (o8:List (Int)) (o9:Bool) (o15:List TQ17) (y0:List TQ7):Option C :=
 g91xL938 N (fun e12 e13 e14 e15 e16 e17=>(k1 e12 e13 e14 e15 e16)) (fun e18 e19 e20 e21 e22 e23=>(kn e18 e19 e20 e21 e22)) t6 y0 ((List.length y0:Nat):Int) 0 o4 o7_0 o8 o9 o15 t6
def g91xR58F (N:Nat) {C:Type} (kf:q0E [.box (.d tQ2) (.a (.d tQ2)),.box .leaf (.fn 93 [.p tQ3]),.box (.d tLt) (.a (.d tLt)),.box (.d .bool) (.a (.d .bool)),.box .leaf (.a (.mp 15 0)),.map tQ2 tQ22,.gone]→TQ7×TQ16→Option C) (t6:(TQ7×(Unit))→Option (Bool)) (o4:LIt×(LIt×(Unit))) (o7_0:LMt×(LMt×(Unit))) (o8:List (Int)) (o9:Bool) (o15:List TQ17) (z0:LIt×(LIt×(Unit))) (z1:Int):Option C :=
 Option.bind (g113x N z0 z1 o7_0 o15) fun r24=>(kf (o4,(r24.2.1.2.1.1,()),o8,o9,(),r24.2.1.2.2.2.1,(),()) (r24.1.1,r24.1.2.1,()))
def q7P (N:Nat):RSh:={ nt:=52,sv:=[.a (.ref 4 0 []),.a (.pc tQ26 .bool),.a (.ref 8 0 []),.a (.ref 9 0 []),.a (.ref 10 0 []),.a (.ref 7 0 [])],so:=[.box (.d tQ2) (.a (.d tQ2)),.box .leaf (.fn 93 [.p tQ3]),.box (.d tLt) (.a (.d tLt)),.box (.d .bool) (.a (.d .bool)),.box .leaf (.a (.mp 15 0)),.map tQ2 tQ22,.gone],px:=[(.lst tQ2)],exits:=[.ret],brun:=fun K rec v y a=>z8W N (fun o4 o7_0 o8 o9 o15=>rec (o4,(o7_0,()),o8,o9,(),o15,(),())) (fun o4 o7_0 o8 o9 o15=>K 1 (o4,(o7_0,()),o8,o9,(),o15,(),())) v.2.1 y.1 y.2.1.1 y.2.2.1 y.2.2.2.1 y.2.2.2.2.2.1 a.1,cb:=some (301410,113,[7,10]),fx:=[tQ2,tIt],bt:=tQ19,frun:=fun kf v y a=>g91xR58F N kf v.2.1 y.1 y.2.1.1 y.2.2.1 y.2.2.2.1 y.2.2.2.2.2.1 a.1 a.2.1 }
@[reducible] def g91xS:XSh:={ sa:=[.a (.d tQ2),.a (.d tIt),.a (.c tQ26 .bool),.fn 93 [.p tQ3]],so:=[.gone],rs:=[.a (.d tLt),.a (.d .bool)],many:=true,os:=[(0,.gone)],xs:=[] }
def g91x (N:Nat) (a0:LIt×(LIt×(Unit))) (a1:Int) (a2:(TQ7×(Unit))→Option (Bool)) (a3_0:LMt×(LMt×(Unit))):Option (g91xS).R :=
 Option.bind (g112x N a0 a1 a3_0 (q0S (Ty.beq tQ2) a0 (((List.replicate 6 0),(List.replicate 6 0),()),0,()) ([]:List TQ17))) fun r1=>Option.bind (g133x N (.pair tIt (tyO [.box (.d tQ2) (.a (.d tQ2)),.box .leaf (.fn 93 [.p tQ3]),.box (.d tLt) (.a (.d tLt)),.box (.d .bool) (.a (.d .bool)),.box .leaf (.a (.mp 15 0)),.map tQ2 tQ22,.gone])) ⟨(q7P N).told.run [(.ref 4 0 []),(.eptr (.clo tQ26 .bool a2)),(.ref 8 0 []),(.ref 9 0 []),(.ref 10 0 []),(.ref 7 0 [])],(q7P N).told.f [(.ref 4 0 []),(.eptr (.clo tQ26 .bool a2)),(.ref 8 0 []),(.ref 9 0 []),(.ref 10 0 []),(.ref 7 0 [])]⟩ (0,(a0,(r1.2.1.2.1.1,()),([]:List (Int)),false,(),r1.2.1.2.2.2.1,(),())) r1.2.2.1 r1.2.2.2.1) fun r25=>if r25.2.1.1.2.1 = 0 then some ((([]:List (Int)),false,()),((),()),(())) else if r25.2.1.1.2.1 = 1 then some (((asT LIt r25.2.1.1.2.2.2.2.1),(asT (Bool) r25.2.1.1.2.2.2.2.2.1),()),((),()),(())) else none
def g91xTi (N:Nat):List (Nat×Told):=[(938,g91xL938T N),(960924,z7N N)]
def g91xRl (N:Nat):List (Nat×RSh):=[(58,q7P N)]
def g91xAn (N:Nat):Ann:=mkAn N [(938,([4,6,8,9,10,24,25,26],[4,7,8,9,10,15,100000,400000,400001,400002,400003,400004,400005]),([],[4,7,8,9,10,15,100000,400000,400001,400002,400003,400004,400005])),(960924,([4,8,9,10,13,14],[4,7,8,9,10,13,14,15,100000,400000,400001,400002,400003,400004,400005]),([8,9,14],[4,7,8,9,10,13,14,15,100000,400000,400001,400002,400003,400004,400005])),(58,([4,6,8,9,10,7],[4,7,8,9,10,15,100000]),([],[]))] [(13,[14]),(1000002,[6])] [] (g91xTi N) (g91xRl N) 52
theorem g91xL938_ok (N:Nat):q0P (((z6N N).q0F [700008]).q0T [0,22,49]) (g91xAn N).inR (bdy Tryd.f91) 938 (g91xL938T N):=⟨⟨loopBody (q0G (bdy Tryd.f91) 64 938),by kernel_rfl,fun K' rec a=>by kernel_rfl⟩,fun a=>by kernel_rfl⟩
theorem g91xL960924_ok (N:Nat):q0P (((z6N N).q0F [700008]).q0T [0,22,49]) (g91xAn N).inR (bdy Tryd.f91) 960924 (z7N N):=⟨⟨loopBody (q0G (bdy Tryd.f91) 64 960924),by kernel_rfl,fun K' rec a=>by kernel_rfl⟩,fun a=>by kernel_rfl⟩
theorem g91xR58_ok (N:Nat):RShOk (((z6N N).q0F [700008]).q0T [0,22,49]) (g91xAn N) (bdy Tryd.f91) 58 (q7P N):=⟨rfl,(rangeAt (q0G (bdy Tryd.f91) 64 58)).1,(rangeAt (q0G (bdy Tryd.f91) 64 58)).2.1,(rangeAt (q0G (bdy Tryd.f91) 64 58)).2.2.1,(rangeAt (q0G (bdy Tryd.f91) 64 58)).2.2.2,by kernel_rfl,fun K v y a=>by kernel_rfl⟩
theorem g91xR58_fok (N:Nat):FShOk (((z6N N).q0F [700008]).q0T [0,22,49]) (g91xAn N) 58 (q7P N):=⟨fun h=>(by cases h),rfl,fun c hc {C} K v y a=>by obtain rfl:=Option.some.inj hc;kernel_rfl⟩
def G91x (N:Nat):Cfg:=(z6N N).addX 91 (q4N.of (g91xS) (fun a=>g91x N a.1.1 a.1.2.1 a.1.2.2.1 a.1.2.2.2.1.1))
theorem G91x_ok (N:Nat):q0A Tryd.prog (G91x N):=z7B (g91xS) (fun a=>g91x N a.1.1 a.1.2.1 a.1.2.2.1 a.1.2.2.2.1.1) [700008] [0,22,49] [] (g91xAn N) (G133xI1_ok N) Tryd.func91 (by kernel_rfl) (by kernel_rfl) (lokF_of (q0R [] rfl rfl trivial) (q0R (g91xTi N) rfl rfl ⟨g91xL938_ok N,g91xL960924_ok N,trivial⟩) (z4O (g91xRl N) rfl ⟨⟨g91xR58_ok N,g91xR58_fok N⟩,trivial⟩)) (.inr rfl) (fun h=>by first | rfl | cases h) fun a=>by kernel_rfl
def g64 (N:Nat) (a0:LMt×(LMt×(Unit))) (a1:(TQ7×(Unit))→Option (Bool)):Option (LIt×TQ16) :=
 Option.bind (g92 N a0) fun r1=>Option.bind (g85 N a0) fun r2=>Option.bind (g91x N r1 r2 a1 a0) fun r3=>some (r3.1.1,r3.1.2.1,())
def g64An (N:Nat):Ann:=mkAn N [] [(1,[2])] [] [] [] 15
def G64 (N:Nat):Cfg:=(G91x N).add 64 (Spec.many [.d tQ3,.c tQ26 .bool] (.pair tLt tQ11) (fun a=>g64 N a.1 a.2.1))
theorem G64_ok (N:Nat):q0A Tryd.prog (G64 N):=q2J [.d tQ3,.c tQ26 .bool] (.pair tLt tQ11) (fun a=>g64 N a.1 a.2.1) [] [12] (g64An N) (G91x_ok N) Tryd.func64 (by kernel_rfl) (by kernel_rfl) lokE (.inr rfl) fun a=>by kernel_rfl
def g29 (N:Nat) (a0:LMt×(LMt×(Unit))):Option (LIt×((Bool)×TQ10)) :=
 Option.bind (g57 N a0) fun r1=>bif (!ieq r1 0) then some (([]:List (Int)),false,r1,()) else Option.bind (g64 N a0 (fun (x2:TQ7×(Unit))=>Option.bind (g65 N a0 x2.1) fun y3=>some y3)) fun r4=>some (r4.1,r4.2.1,0,())
def g29An (N:Nat):Ann:=mkAn N [] [] [] [] [] 22
def G29 (N:Nat):Cfg:=(G64 N).add 29 (Spec.many [.d tQ3] tQ27 (fun a=>g29 N a.1))
theorem G29_ok (N:Nat):q0A Tryd.prog (G29 N):=q2J [.d tQ3] tQ27 (fun a=>g29 N a.1) [] [] (g29An N) (G64_ok N) Tryd.func29 (by kernel_rfl) (by kernel_rfl) lokE (.inr rfl) fun a=>by kernel_rfl
@[reducible] def g109xS:XSh:={ sa:=[.a (.nils),.a (.d tIt)],so:=[.gone],rs:=[.a (.sl tIt 200000 0)],many:=false,os:=[(0,.gone)],xs:=[.vec tIt] }
def g109x (N:Nat) (a1:Int):Option (g109xS).R :=
 bif (decide ((a1:Int) < 0)) then none else bif (decide ((0:Int) < (IntKind.wrap .i64 (a1 - (IntKind.wrap .i64 (0 - 0)))))) then if 0 < ((IntKind.wrap .i64 (a1 - (IntKind.wrap .i64 (0 - 0)))):Int)∧((IntKind.wrap .i64 (a1 - (IntKind.wrap .i64 (0 - 0)))):Int) ≤ 1073741824 then if 0 ≤ (0:Int)∧(0:Int) ≤ 0∧(0:Int) ≤ ((List.length (List.replicate (Int.toNat (IntKind.wrap .i64 (a1 - (IntKind.wrap .i64 (0 - 0))))) (0:Int)):Nat):Int) then some (((),()),((),()),((List.drop (Int.toNat 0) (List.take (Int.toNat 0) (List.replicate (Int.toNat (IntKind.wrap .i64 (a1 - (IntKind.wrap .i64 (0 - 0))))) (0:Int)))),())) else none else none else some (((),()),((),()),(([]:List (Int)),()))
def g109xAn (N:Nat):Ann:=mkAn N [] [] [] [] [] 27
def G109x (N:Nat):Cfg:=(G29 N).addX 109 (q4N.of (g109xS) (fun a=>g109x N a.1.2.1))
theorem G109x_ok (N:Nat):q0A Tryd.prog (G109x N):=z7B (g109xS) (fun a=>g109x N a.1.2.1) [] [] [999999999,22,4] (g109xAn N) (G29_ok N) Tryd.func109 (by kernel_rfl) (by kernel_rfl) lokE (.inr rfl) (fun h=>by first | rfl | cases h) fun a=>by kernel_rfl
def z1T (N:Nat) {C:Type} (rec:LMt→Int→LMt→Int→Int→Option C) (k0:LMt→Int→Option C) (t0:List LIt) (t3:Int) (t9:List LIt) (t10 t11:Int):Option C :=
 bif (decide ((t11:Int) < t10)) then if idx t11 (List.length t9) then bif (decide (((IntKind.wrap .i64 (t3 + ((List.length (List.getD t9 (Int.toNat t11) ([]:List (Int))):Nat):Int))):Int) < 0)) then none else (rec t0 (IntKind.wrap .i64 (t3 + ((List.length (List.getD t9 (Int.toNat t11) ([]:List (Int))):Nat):Int))) t9 t10 (IntKind.wrap .i64 (t11 + 1))) else none else (k0 t0 t3)
abbrev g84L58V:List Sh1:=[.a (.d (.lst tLt)),.a (.d tIt),.a (.d (.lst tLt)),.a (.d tIt),.a (.d tIt)]
abbrev g84L58O:List OSh:=[]
def g84L58 (N:Nat) {C:Type} (k0:LMt→Int→Option C) (t0:List LIt) (t3:Int) (t9:List LIt) (t10 t11:Int):Option C :=
 itP (α:=q0I g84L58V×q0E g84L58O) (fun rec a=>z1T N (fun t0 t3 t9 t10 t11=>rec ((t0,t3,t9,t10,t11,()),(()))) k0 a.1.1 a.1.2.1 a.1.2.2.1 a.1.2.2.2.1 a.1.2.2.2.2.1) N ((t0,t3,t9,t10,t11,()),(()))
def g84L58T (N:Nat):Told:={ nt:=36,sv:=g84L58V,so:=g84L58O,run:=fun K' rec a=>z1T N (fun t0 t3 t9 t10 t11=>rec ((t0,t3,t9,t10,t11,()),(()))) (fun et0 et3=>K' (.exit 0) (build 36 [0,3] [] [(.dat (.lst tLt) et0),(.dat tIt et3)] [])) a.1.1 a.1.2.1 a.1.2.2.1 a.1.2.2.2.1 a.1.2.2.2.2.1 }
def q8E (N:Nat) {C:Type} (rec:LMt→Int→Int→LIt→Option C) (k0:LIt→Option C) (t25:List LIt) (t26 t27:Int) (o301536:List (Int)):Option C :=
 bif (decide ((t27:Int) < t26)) then if idx t27 (List.length t25) then if List.length o301536 + List.length (List.getD t25 (Int.toNat t27) ([]:List (Int))) ≤ maxCount then (rec t25 t26 (IntKind.wrap .i64 (t27 + 1)) (o301536 ++ (List.getD t25 (Int.toNat t27) ([]:List (Int))))) else none else none else (k0 o301536)
abbrev g84L250V:List Sh1:=[.a (.sl tIt 301536 0),.a (.d (.lst tLt)),.a (.d tIt),.a (.d tIt)]
abbrev g84L250O:List OSh:=[.vec tIt]
def g84L250 (N:Nat) {C:Type} (k0:LIt→Option C) (t25:List LIt) (t26 t27:Int) (o301536:List (Int)):Option C :=
 itP (α:=q0I g84L250V×q0E g84L250O) (fun rec a=>q8E N (fun t25 t26 t27 o301536=>rec (((),t25,t26,t27,()),(o301536,()))) k0 a.1.2.1 a.1.2.2.1 a.1.2.2.2.1 a.2.1) N (((),t25,t26,t27,()),(o301536,()))
def g84L250T (N:Nat):Told:={ nt:=36,sv:=g84L250V,so:=g84L250O,run:=fun K' rec a=>q8E N (fun t25 t26 t27 o301536=>rec (((),t25,t26,t27,()),(o301536,()))) (fun eo301536=>K' (.exit 2) (build 36 [6] [301536] [(.sl tIt 301536 0)] [(some (.vec tIt eo301536))])) a.1.2.1 a.1.2.2.1 a.1.2.2.2.1 a.2.1 }
def g84 (N:Nat) (a0:List LIt):Option LIt :=
 g84L58 N (fun e1 e2=>Option.bind (g109x N e2) fun r3=>g84L250 N (fun e4=>some e4) e1 ((List.length e1:Nat):Int) 0 r3.2.2.1) a0 0 a0 ((List.length a0:Nat):Int) 0
def g84Tl (N:Nat):List (Nat×Told):=[(58,g84L58T N),(250,g84L250T N)]
def g84An (N:Nat):Ann:=mkAn N [(58,([0,3,9,10,11],[]),([0,3],[])),(250,([6,25,26,27],[301536]),([6],[301536]))] [] (g84Tl N) [] [] 36
theorem g84L58_ok (N:Nat):q0P (((G109x N).q0F [900028]).q0T [24]) (g84An N) (bdy Tryd.f84) 58 (g84L58T N):=⟨⟨loopBody (q0G (bdy Tryd.f84) 64 58),by kernel_rfl,fun K' rec a=>by kernel_rfl⟩,fun a=>by kernel_rfl⟩
theorem g84L250_ok (N:Nat):q0P (((G109x N).q0F [900028]).q0T [24]) (g84An N) (bdy Tryd.f84) 250 (g84L250T N):=⟨⟨loopBody (q0G (bdy Tryd.f84) 64 250),by kernel_rfl,fun K' rec a=>by kernel_rfl⟩,fun a=>by kernel_rfl⟩
def G84 (N:Nat):Cfg:=(G109x N).add 84 (Spec.one [.d (.lst tLt)] tLt (fun a=>g84 N a.1))
theorem G84_ok (N:Nat):q0A Tryd.prog (G84 N):=add_one [.d (.lst tLt)] tLt (fun a=>g84 N a.1) [900028] [24] (g84An N) (G109x_ok N) Tryd.func84 (by kernel_rfl) (by kernel_rfl) (lokT (q0R (g84Tl N) rfl rfl ⟨g84L58_ok N,g84L250_ok N,trivial⟩)) (.inr rfl) fun a=>by kernel_rfl
def g90 (N:Nat) (a0:List (Int)):Option LIt :=
 if 0 < List.length a0 then if List.length ([]:List (Int)) + List.length a0 ≤ maxCount then some (([]:List (Int)) ++ a0) else none else none
def g90An (N:Nat):Ann:=mkAn N [] [] [] [] [] 8
def G90 (N:Nat):Cfg:=(G84 N).add 90 (Spec.one [.d tLt] tLt (fun a=>g90 N a.1))
theorem G90_ok (N:Nat):q0A Tryd.prog (G90 N):=add_one [.d tLt] tLt (fun a=>g90 N a.1) [5] [] (g90An N) (G84_ok N) Tryd.func90 (by kernel_rfl) (by kernel_rfl) lokE (.inr rfl) fun a=>by kernel_rfl
def q3S (N:Nat) {C:Type} (rec:LIt→Int→Int→LIt→Int→Int→TQ5→LIt→TQ25→LIt→LMt→LMt→LMt→LMt→LMt→Option C) (k0:LIt→Int→Int→TQ5→LIt→TQ25→LIt→LMt→LMt→LMt→LMt→LMt→Option C) (t4:List (Int)) (t9 t10:Int) (t36:List (Int)) (t37 t38:Int) (o1:LMt×(LMt×(Unit))) (o11:List (Int)) (o18:List ((Int)×(Int))) (o20:List (Int)) (o21 o1128:List LIt) (o1129 o1512 o1513:List LIt):Option C :=
 bif (decide ((t38:Int) < t37)) then if idx t38 (List.length t36) then if idx (List.getD t36 (Int.toNat t38) 0) (List.length t4) then bif (!(Option.isSome (q0C (Ty.beq tIt) (List.getD t4 (Int.toNat (List.getD t36 (Int.toNat t38) 0)) 0) o18))) then if List.length o20 + List.length [(List.getD t4 (Int.toNat (List.getD t36 (Int.toNat t38) 0)) 0)] ≤ maxCount then if idx t9 (List.length o21) then if (Int.toNat t9) < List.length o21 then Option.bind (g84 N [(List.getD o21 (Int.toNat t9) ([]:List (Int))),[t38]]) fun r2=>if List.length o21 + List.length [r2] ≤ maxCount then if List.length o11 + List.length [(Option.getD (q0C (Ty.beq tIt) (List.getD t4 (Int.toNat (List.getD t36 (Int.toNat t38) 0)) 0) (q0S (Ty.beq tIt) (List.getD t4 (Int.toNat (List.getD t36 (Int.toNat t38) 0)) 0) ((List.length o20:Nat):Int) o18)) 0)] ≤ maxCount then (rec t4 t9 t10 t36 t37 (IntKind.wrap .i64 (t38 + 1)) o1 (o11 ++ [(Option.getD (q0C (Ty.beq tIt) (List.getD t4 (Int.toNat (List.getD t36 (Int.toNat t38) 0)) 0) (q0S (Ty.beq tIt) (List.getD t4 (Int.toNat (List.getD t36 (Int.toNat t38) 0)) 0) ((List.length o20:Nat):Int) o18)) 0)]) (q0S (Ty.beq tIt) (List.getD t4 (Int.toNat (List.getD t36 (Int.toNat t38) 0)) 0) ((List.length o20:Nat):Int) o18) (o20 ++ [(List.getD t4 (Int.toNat (List.getD t36 (Int.toNat t38) 0)) 0)]) (o21 ++ [r2]) o1128 o1129 o1512 o1513) else none else none else none else none else none else if List.length o11 + List.length [(Option.getD (q0C (Ty.beq tIt) (List.getD t4 (Int.toNat (List.getD t36 (Int.toNat t38) 0)) 0) o18) 0)] ≤ maxCount then (rec t4 t9 t10 t36 t37 (IntKind.wrap .i64 (t38 + 1)) o1 (o11 ++ [(Option.getD (q0C (Ty.beq tIt) (List.getD t4 (Int.toNat (List.getD t36 (Int.toNat t38) 0)) 0) o18) 0)]) o18 o20 o21 o1128 o1129 o1512 o1513) else none else none else none else (k0 t4 t9 t10 o1 o11 o18 o20 o21 o1128 o1129 o1512 o1513)
abbrev z2M:List Sh1:=[.a (.ref 1 0 []),.a (.ref 2 0 []),.a (.d tLt),.a (.mp 18 0),.a (.sl tIt 20 0),.a (.sl tLt 21 0),.a (.ref 8 0 []),.a (.d tIt),.a (.d tIt),.a (.sl tIt 11 0),.a (.d tLt),.a (.d tIt),.a (.d tIt)]
abbrev z2E:List OSh:=[.box (.d tQ3) (.a (.d tQ3)),.box (.d tQ3) (.agg [.sl tLt 1128 0,.sl tLt 1129 0]),.box (.d tQ3) (.agg [.sl tLt 1512 0,.sl tLt 1513 0]),.vec tIt,.map tIt tIt,.vec tIt,.vec tLt,.vec tLt,.vec tLt,.vec tLt,.vec tLt]
def g60L521370 (N:Nat) {C:Type} (k0:LIt→Int→Int→TQ5→LIt→TQ25→LIt→LMt→LMt→LMt→LMt→LMt→Option C) (t4:List (Int)) (t9 t10:Int) (t36:List (Int)) (t37 t38:Int) (o1:LMt×(LMt×(Unit))) (o11:List (Int)) (o18:List ((Int)×(Int))) (o20:List (Int)) (o21 o1128:List LIt) (o1129 o1512 o1513:List LIt):Option C :=
 itP (α:=q0I z2M×q0E z2E) (fun rec a=>q3S N (fun t4 t9 t10 t36 t37 t38 o1 o11 o18 o20 o21 o1128 o1129 o1512 o1513=>rec (((),(),t4,(),(),(),(),t9,t10,(),t36,t37,t38,()),(o1,((),(),()),((),(),()),o11,o18,o20,o21,o1128,o1129,o1512,o1513,()))) k0 a.1.2.2.1 a.1.2.2.2.2.2.2.2.1 a.1.2.2.2.2.2.2.2.2.1 a.1.2.2.2.2.2.2.2.2.2.2.1 a.1.2.2.2.2.2.2.2.2.2.2.2.1 a.1.2.2.2.2.2.2.2.2.2.2.2.2.1 a.2.1 a.2.2.2.2.1 a.2.2.2.2.2.1 a.2.2.2.2.2.2.1 a.2.2.2.2.2.2.2.1 a.2.2.2.2.2.2.2.2.1 a.2.2.2.2.2.2.2.2.2.1 a.2.2.2.2.2.2.2.2.2.2.1 a.2.2.2.2.2.2.2.2.2.2.2.1) N (((),(),t4,(),(),(),(),t9,t10,(),t36,t37,t38,()),(o1,((),(),()),((),(),()),o11,o18,o20,o21,o1128,o1129,o1512,o1513,()))
def z9I (N:Nat):Told:={ nt:=100,sv:=z2M,so:=z2E,run:=fun K' rec a=>q3S N (fun t4 t9 t10 t36 t37 t38 o1 o11 o18 o20 o21 o1128 o1129 o1512 o1513=>rec (((),(),t4,(),(),(),(),t9,t10,(),t36,t37,t38,()),(o1,((),(),()),((),(),()),o11,o18,o20,o21,o1128,o1129,o1512,o1513,()))) (fun et4 et9 et10 eo1 eo11 eo18 eo20 eo21 eo1128 eo1129 eo1512 eo1513=>K' (.exit 2) (build 100 [1,2,4,5,6,7,8,9,10,11] [1,2,8,11,18,20,21,1128,1129,1512,1513] [(.ref 1 0 []),(.ref 2 0 []),(.dat tLt et4),(.mp 18 0),(.sl tIt 20 0),(.sl tLt 21 0),(.ref 8 0 []),(.dat tIt et9),(.dat tIt et10),(.sl tIt 11 0)] [(some (.box (.d tQ3) (.dat tQ3 eo1))),(some (.box (.d tQ3) (.agg [(.sl tLt 1128 0),(.sl tLt 1129 0)]))),(some (.box (.d tQ3) (.agg [(.sl tLt 1512 0),(.sl tLt 1513 0)]))),(some (.vec tIt eo11)),(some (.map tIt tIt eo18)),(some (.vec tIt eo20)),(some (.vec tLt eo21)),(some (.vec tLt eo1128)),(some (.vec tLt eo1129)),(some (.vec tLt eo1512)),(some (.vec tLt eo1513))])) a.1.2.2.1 a.1.2.2.2.2.2.2.2.1 a.1.2.2.2.2.2.2.2.2.1 a.1.2.2.2.2.2.2.2.2.2.2.1 a.1.2.2.2.2.2.2.2.2.2.2.2.1 a.1.2.2.2.2.2.2.2.2.2.2.2.2.1 a.2.1 a.2.2.2.2.1 a.2.2.2.2.2.1 a.2.2.2.2.2.2.1 a.2.2.2.2.2.2.2.1 a.2.2.2.2.2.2.2.2.1 a.2.2.2.2.2.2.2.2.2.1 a.2.2.2.2.2.2.2.2.2.2.1 a.2.2.2.2.2.2.2.2.2.2.2.1 }
def q9H (N:Nat) {C:Type} (rec:LIt→Int→TQ5→TQ25→LIt→LMt→LMt→LMt→LMt→LMt→Option C) (k0:TQ5→TQ25→LIt→LMt→LMt→LMt→LMt→LMt→Option C) (t4:List (Int)) (t9:Int) (o1:LMt×(LMt×(Unit))) (o18:List ((Int)×(Int))) (o20:List (Int)) (o21 o1128:List LIt) (o1129 o1512 o1513:List LIt):Option C :=
 bif (decide ((t9:Int) < ((List.length o20:Nat):Int))) then if idx t9 (List.length o20) then if (Int.toNat t9) < List.length o20 then if idx (List.getD o20 (Int.toNat t9) 0) (List.length o1.1) then g60L521370 N (fun e3 e4 e5 e6 e7 e8 e9 e10 e11 e12 e13 e14=>if List.length e13 + List.length [e7] ≤ maxCount then if idx e5 (List.length e6.2.1) then Option.bind (g90 N (List.getD e6.2.1 (Int.toNat e5) ([]:List (Int)))) fun r15=>if List.length e14 + List.length [r15] ≤ maxCount then (rec e3 (IntKind.wrap .i64 (e4 + 1)) e6 e8 e9 e10 e11 e12 (e13 ++ [e7]) (e14 ++ [r15])) else none else none else none) t4 t9 (List.getD o20 (Int.toNat t9) 0) (List.getD o1.1 (Int.toNat (List.getD o20 (Int.toNat t9) 0)) ([]:List (Int))) ((List.length (List.getD o1.1 (Int.toNat (List.getD o20 (Int.toNat t9) 0)) ([]:List (Int))):Nat):Int) 0 o1 ([]:List (Int)) o18 o20 o21 o1128 o1129 o1512 o1513 else none else none else none else (k0 o1 o18 o20 o21 o1128 o1129 o1512 o1513)
abbrev j1I:List Sh1:=[.a (.ref 1 0 []),.a (.ref 2 0 []),.a (.d tLt),.a (.mp 18 0),.a (.sl tIt 20 0),.a (.sl tLt 21 0),.a (.ref 8 0 []),.a (.d tIt)]
abbrev z9T:List OSh:=[.box (.d tQ3) (.a (.d tQ3)),.box (.d tQ3) (.agg [.sl tLt 1128 0,.sl tLt 1129 0]),.box (.d tQ3) (.agg [.sl tLt 1512 0,.sl tLt 1513 0]),.map tIt tIt,.vec tIt,.vec tLt,.vec tLt,.vec tLt,.vec tLt,.vec tLt]
def g60L1018 (N:Nat) {C:Type} (k0:TQ5→TQ25→LIt→LMt→LMt→LMt→LMt→LMt→Option C) (t4:List (Int)) (t9:Int) (o1:LMt×(LMt×(Unit))) (o18:List ((Int)×(Int))) (o20:List (Int)) (o21 o1128:List LIt) (o1129 o1512 o1513:List LIt):Option C :=
 itP (α:=q0I j1I×q0E z9T) (fun rec a=>q9H N (fun t4 t9 o1 o18 o20 o21 o1128 o1129 o1512 o1513=>rec (((),(),t4,(),(),(),(),t9,()),(o1,((),(),()),((),(),()),o18,o20,o21,o1128,o1129,o1512,o1513,()))) k0 a.1.2.2.1 a.1.2.2.2.2.2.2.2.1 a.2.1 a.2.2.2.2.1 a.2.2.2.2.2.1 a.2.2.2.2.2.2.1 a.2.2.2.2.2.2.2.1 a.2.2.2.2.2.2.2.2.1 a.2.2.2.2.2.2.2.2.2.1 a.2.2.2.2.2.2.2.2.2.2.1) N (((),(),t4,(),(),(),(),t9,()),(o1,((),(),()),((),(),()),o18,o20,o21,o1128,o1129,o1512,o1513,()))
def g60L1018T (N:Nat):Told:={ nt:=100,sv:=j1I,so:=z9T,run:=fun K' rec a=>q9H N (fun t4 t9 o1 o18 o20 o21 o1128 o1129 o1512 o1513=>rec (((),(),t4,(),(),(),(),t9,()),(o1,((),(),()),((),(),()),o18,o20,o21,o1128,o1129,o1512,o1513,()))) (fun eo1 eo18 eo20 eo21 eo1128 eo1129 eo1512 eo1513=>K' (.exit 0) (build 100 [2,7,8] [1,2,8,18,20,21,1128,1129,1512,1513] [(.ref 2 0 []),(.sl tLt 21 0),(.ref 8 0 [])] [(some (.box (.d tQ3) (.dat tQ3 eo1))),(some (.box (.d tQ3) (.agg [(.sl tLt 1128 0),(.sl tLt 1129 0)]))),(some (.box (.d tQ3) (.agg [(.sl tLt 1512 0),(.sl tLt 1513 0)]))),(some (.map tIt tIt eo18)),(some (.vec tIt eo20)),(some (.vec tLt eo21)),(some (.vec tLt eo1128)),(some (.vec tLt eo1129)),(some (.vec tLt eo1512)),(some (.vec tLt eo1513))])) a.1.2.2.1 a.1.2.2.2.2.2.2.2.1 a.2.1 a.2.2.2.2.1 a.2.2.2.2.2.1 a.2.2.2.2.2.2.1 a.2.2.2.2.2.2.2.1 a.2.2.2.2.2.2.2.2.1 a.2.2.2.2.2.2.2.2.2.1 a.2.2.2.2.2.2.2.2.2.2.1 }
def g60 (N:Nat) (a0:LMt×(LMt×(Unit))):Option (TQ5×(LMt×(Unit))) :=
 Option.bind (g58 N a0) fun r1=>g60L1018 N (fun e16 e17 e18 e19 e20 e21 e22 e23=>some ((e22,e23,()),e19,())) r1 0 a0 (q0S (Ty.beq tIt) 0 0 ([]:List ((Int)×(Int)))) [0] [([]:List (Int))] ([]:List LIt) ([]:List LIt) ([]:List LIt) ([]:List LIt)
def g60Tl (N:Nat):List (Nat×Told):=[(1018,g60L1018T N),(521370,z9I N)]
def g60An (N:Nat):Ann:=mkAn N [(1018,([1,2,4,5,6,7,8,9],[1,2,8,18,20,21,1128,1129,1512,1513]),([2,7,8],[1,2,8,18,20,21,1128,1129,1512,1513])),(521370,([1,2,4,5,6,7,8,9,10,11,36,37,38],[1,2,8,11,18,20,21,1128,1129,1512,1513]),([1,2,4,5,6,7,8,9,10,11],[1,2,8,11,18,20,21,1128,1129,1512,1513]))] [(22,[11])] (g60Tl N) [] [] 100
theorem g60L1018_ok (N:Nat):q0P (((G90 N).q0F [20,21]).q0T []) (g60An N) (bdy Tryd.f60) 1018 (g60L1018T N):=⟨⟨loopBody (q0G (bdy Tryd.f60) 64 1018),by kernel_rfl,fun K' rec a=>by kernel_rfl⟩,fun a=>by kernel_rfl⟩
theorem g60L521370_ok (N:Nat):q0P (((G90 N).q0F [20,21]).q0T []) (g60An N) (bdy Tryd.f60) 521370 (z9I N):=⟨⟨loopBody (q0G (bdy Tryd.f60) 64 521370),by kernel_rfl,fun K' rec a=>by kernel_rfl⟩,fun a=>by kernel_rfl⟩
def G60 (N:Nat):Cfg:=(G90 N).add 60 (Spec.many [.d tQ3] (.pair tQ3 (.pair (.lst tLt) .unit)) (fun a=>g60 N a.1))
theorem G60_ok (N:Nat):q0A Tryd.prog (G60 N):=q2J [.d tQ3] (.pair tQ3 (.pair (.lst tLt) .unit)) (fun a=>g60 N a.1) [20,21] [] (g60An N) (G90_ok N) Tryd.func60 (by kernel_rfl) (by kernel_rfl) (lokT (q0R (g60Tl N) rfl rfl ⟨g60L1018_ok N,g60L521370_ok N,trivial⟩)) (.inr rfl) fun a=>by kernel_rfl
def g19 (N:Nat) (a0:LMt×(LMt×(Unit))):Option (TQ5×TQ10) :=
 Option.bind (g57 N a0) fun r1=>bif (!ieq r1 0) then some ((([]:List LIt),([]:List LIt),()),r1,()) else Option.bind (g60 N a0) fun r2=>some (r2.1,0,())
def g19An (N:Nat):Ann:=mkAn N [] [] [] [] [] 19
def G19 (N:Nat):Cfg:=(G60 N).add 19 (Spec.many [.d tQ3] (.pair tQ3 tQ13) (fun a=>g19 N a.1))
theorem G19_ok (N:Nat):q0A Tryd.prog (G19 N):=q2J [.d tQ3] (.pair tQ3 tQ13) (fun a=>g19 N a.1) [] [] (g19An N) (G60_ok N) Tryd.func19 (by kernel_rfl) (by kernel_rfl) lokE (.inr rfl) fun a=>by kernel_rfl
def g40 (N:Nat) (a0:LMt×(LMt×(Unit))) (a1:LMt×(LMt×(Unit))):Option (LIt×((Bool)×TQ10)) :=
 Option.bind (g62 N [a0,a1] 0 ([]:List LIt)) fun r1=>bif (!ieq r1 0) then some (([]:List (Int)),false,r1,()) else Option.bind (g72 N a0 a1 (0,0,())) fun r2=>some (r2.1,(!r2.2.1),0,())
def g40An (N:Nat):Ann:=mkAn N [] [] [] [] [] 27
def G40 (N:Nat):Cfg:=(G19 N).add 40 (Spec.many [.d tQ3,.d tQ3] tQ27 (fun a=>g40 N a.1 a.2.1))
theorem G40_ok (N:Nat):q0A Tryd.prog (G40 N):=q2J [.d tQ3,.d tQ3] tQ27 (fun a=>g40 N a.1 a.2.1) [] [] (g40An N) (G19_ok N) Tryd.func40 (by kernel_rfl) (by kernel_rfl) lokE (.inr rfl) fun a=>by kernel_rfl
def g23 (N:Nat) (a0:LMt×(LMt×(Unit))):Option TQ5 :=
 Option.bind (g59 N a0.1) fun r1=>Option.bind (g59 N a0.2.1) fun r2=>some (r1,r2,())
def g23An (N:Nat):Ann:=mkAn N [] [] [] [] [] 10
def G23 (N:Nat):Cfg:=(G40 N).add 23 (Spec.one [.d tQ3] tQ3 (fun a=>g23 N a.1))
theorem G23_ok (N:Nat):q0A Tryd.prog (G23 N):=add_one [.d tQ3] tQ3 (fun a=>g23 N a.1) [] [] (g23An N) (G40_ok N) Tryd.func23 (by kernel_rfl) (by kernel_rfl) lokE (.inr rfl) fun a=>by kernel_rfl
def j0A (N:Nat) {C:Type} (rec:LIt→LIt→Int→Option C) (k0:Bool→Option C) (k1:Option C) (t0 t1:List (Int)) (t5:Int):Option C :=
 bif (decide ((t5:Int) < ((List.length t0:Nat):Int))) then if idx t5 (List.length t0) then if idx t5 (List.length t1) then bif (!ieq (List.getD t0 (Int.toNat t5) 0) (List.getD t1 (Int.toNat t5) 0)) then (k0 false) else (rec t0 t1 (IntKind.wrap .i64 (t5 + 1))) else none else none else k1
def g20L58 (N:Nat) {C:Type} (k0:Bool→Option C) (k1:Option C) (t0 t1:List (Int)) (t5:Int):Option C :=
 itP (α:=q0I [.a (.d tLt),.a (.d tLt),.a (.d tIt)]×q0E []) (fun rec a=>j0A N (fun t0 t1 t5=>rec ((t0,t1,t5,()),(()))) k0 k1 a.1.1 a.1.2.1 a.1.2.2.1) N ((t0,t1,t5,()),(()))
def g20L58T (N:Nat):Told:={ nt:=26,sv:=[.a (.d tLt),.a (.d tLt),.a (.d tIt)],so:=[],run:=fun K' rec a=>j0A N (fun t0 t1 t5=>rec ((t0,t1,t5,()),(()))) (fun et4=>K' .ret (build 26 [4] [] [(.dat .bool et4)] [])) (K' (.exit 0) (build 26 [4] [] [.junk] [])) a.1.1 a.1.2.1 a.1.2.2.1 }
def g20 (N:Nat) (a0 a1:List (Int)):Option (Bool) :=
 bif (!ieq ((List.length a0:Nat):Int) ((List.length a1:Nat):Int)) then some false else g20L58 N (fun e1=>some e1) (some true) a0 a1 0
def g20Tl (N:Nat):List (Nat×Told):=[(58,g20L58T N)]
def g20An (N:Nat):Ann:=mkAn N [(58,([0,1,5],[]),([4],[]))] [] (g20Tl N) [] [] 26
theorem g20L58_ok (N:Nat):q0P (((G23 N).q0F []).q0T []) (g20An N) (bdy Tryd.f20) 58 (g20L58T N):=⟨⟨loopBody (q0G (bdy Tryd.f20) 64 58),by kernel_rfl,fun K' rec a=>by kernel_rfl⟩,fun a=>by kernel_rfl⟩
def G20 (N:Nat):Cfg:=(G23 N).add 20 (Spec.one [.d tLt,.d tLt] .bool (fun a=>g20 N a.1 a.2.1))
theorem G20_ok (N:Nat):q0A Tryd.prog (G20 N):=add_one [.d tLt,.d tLt] .bool (fun a=>g20 N a.1 a.2.1) [] [] (g20An N) (G23_ok N) Tryd.func20 (by kernel_rfl) (by kernel_rfl) (lokT (q0R (g20Tl N) rfl rfl ⟨g20L58_ok N,trivial⟩)) (.inr rfl) fun a=>by kernel_rfl
def j0D (N:Nat) {C:Type} (rec:LMt→LMt→Int→Option C) (k0:Bool→Option C) (k1:Option C) (t0 t1:List LIt) (t5:Int):Option C :=
 bif (decide ((t5:Int) < ((List.length t0:Nat):Int))) then if idx t5 (List.length t0) then if idx t5 (List.length t1) then Option.bind (g20 N (List.getD t0 (Int.toNat t5) ([]:List (Int))) (List.getD t1 (Int.toNat t5) ([]:List (Int)))) fun r1=>bif (!r1) then (k0 false) else (rec t0 t1 (IntKind.wrap .i64 (t5 + 1))) else none else none else k1
def g61L58 (N:Nat) {C:Type} (k0:Bool→Option C) (k1:Option C) (t0 t1:List LIt) (t5:Int):Option C :=
 itP (α:=q0I [.a (.d (.lst tLt)),.a (.d (.lst tLt)),.a (.d tIt)]×q0E []) (fun rec a=>j0D N (fun t0 t1 t5=>rec ((t0,t1,t5,()),(()))) k0 k1 a.1.1 a.1.2.1 a.1.2.2.1) N ((t0,t1,t5,()),(()))
def g61L58T (N:Nat):Told:={ nt:=27,sv:=[.a (.d (.lst tLt)),.a (.d (.lst tLt)),.a (.d tIt)],so:=[],run:=fun K' rec a=>j0D N (fun t0 t1 t5=>rec ((t0,t1,t5,()),(()))) (fun et4=>K' .ret (build 27 [4] [] [(.dat .bool et4)] [])) (K' (.exit 0) (build 27 [4] [] [.junk] [])) a.1.1 a.1.2.1 a.1.2.2.1 }
def g61 (N:Nat) (a0 a1:List LIt):Option (Bool) :=
 bif (!ieq ((List.length a0:Nat):Int) ((List.length a1:Nat):Int)) then some false else g61L58 N (fun e2=>some e2) (some true) a0 a1 0
def g61Tl (N:Nat):List (Nat×Told):=[(58,g61L58T N)]
def g61An (N:Nat):Ann:=mkAn N [(58,([0,1,5],[]),([4],[]))] [] (g61Tl N) [] [] 27
theorem g61L58_ok (N:Nat):q0P (((G20 N).q0F []).q0T []) (g61An N) (bdy Tryd.f61) 58 (g61L58T N):=⟨⟨loopBody (q0G (bdy Tryd.f61) 64 58),by kernel_rfl,fun K' rec a=>by kernel_rfl⟩,fun a=>by kernel_rfl⟩
def G61 (N:Nat):Cfg:=(G20 N).add 61 (Spec.one [.d (.lst tLt),.d (.lst tLt)] .bool (fun a=>g61 N a.1 a.2.1))
theorem G61_ok (N:Nat):q0A Tryd.prog (G61 N):=add_one [.d (.lst tLt),.d (.lst tLt)] .bool (fun a=>g61 N a.1 a.2.1) [] [] (g61An N) (G20_ok N) Tryd.func61 (by kernel_rfl) (by kernel_rfl) (lokT (q0R (g61Tl N) rfl rfl ⟨g61L58_ok N,trivial⟩)) (.inr rfl) fun a=>by kernel_rfl
def g22 (N:Nat) (a0:LMt×(LMt×(Unit))) (a1:LMt×(LMt×(Unit))):Option (Bool) :=
 Option.bind (g61 N a0.1 a1.1) fun r1=>bif r1 then Option.bind (g61 N a0.2.1 a1.2.1) fun r2=>some r2 else some false
def g22An (N:Nat):Ann:=mkAn N [] [] [] [] [] 17
def G22 (N:Nat):Cfg:=(G61 N).add 22 (Spec.one [.d tQ3,.d tQ3] .bool (fun a=>g22 N a.1 a.2.1))
theorem G22_ok (N:Nat):q0A Tryd.prog (G22 N):=add_one [.d tQ3,.d tQ3] .bool (fun a=>g22 N a.1 a.2.1) [] [] (g22An N) (G61_ok N) Tryd.func22 (by kernel_rfl) (by kernel_rfl) lokE (.inr rfl) fun a=>by kernel_rfl
def g115L26B (N:Nat) {C:Type} (rec:LIt→Int→Int→Int→Option C) (k0:Int→Option C) (k1:Option C) (t0:List (Int)) (t1 t7 t8:Int):Option C :=
 bif (decide ((t8:Int) < t7)) then if idx t8 (List.length t0) then bif (ieq t1 (List.getD t0 (Int.toNat t8) 0)) then (k0 t8) else (rec t0 t1 t7 (IntKind.wrap .i64 (t8 + 1))) else none else k1
def g115L26 (N:Nat) {C:Type} (k0:Int→Option C) (k1:Option C) (t0:List (Int)) (t1 t7 t8:Int):Option C :=
 itP (α:=q0I [.a (.d tLt),.a (.d tIt),.a (.d tIt),.a (.d tIt)]×q0E []) (fun rec a=>g115L26B N (fun t0 t1 t7 t8=>rec ((t0,t1,t7,t8,()),(()))) k0 k1 a.1.1 a.1.2.1 a.1.2.2.1 a.1.2.2.2.1) N ((t0,t1,t7,t8,()),(()))
def g115L26T (N:Nat):Told:={ nt:=19,sv:=[.a (.d tLt),.a (.d tIt),.a (.d tIt),.a (.d tIt)],so:=[],run:=fun K' rec a=>g115L26B N (fun t0 t1 t7 t8=>rec ((t0,t1,t7,t8,()),(()))) (fun et4=>K' .ret (build 19 [4] [] [(.dat tIt et4)] [])) (K' (.exit 0) (build 19 [4] [] [.junk] [])) a.1.1 a.1.2.1 a.1.2.2.1 a.1.2.2.2.1 }
def g115 (N:Nat) (a0:List (Int)) (a1:Int):Option (Int) :=
 g115L26 N (fun e1=>some e1) (some (-1)) a0 a1 ((List.length a0:Nat):Int) 0
def g115Tl (N:Nat):List (Nat×Told):=[(26,g115L26T N)]
def g115An (N:Nat):Ann:=mkAn N [(26,([0,1,7,8],[]),([4],[]))] [] (g115Tl N) [] [] 19
theorem g115L26_ok (N:Nat):q0P (((G22 N).q0F []).q0T []) (g115An N) (bdy Tryd.f115) 26 (g115L26T N):=⟨⟨loopBody (q0G (bdy Tryd.f115) 64 26),by kernel_rfl,fun K' rec a=>by kernel_rfl⟩,fun a=>by kernel_rfl⟩
def G115 (N:Nat):Cfg:=(G22 N).add 115 (Spec.one [.d tLt,.d tIt] tIt (fun a=>g115 N a.1 a.2.1))
theorem G115_ok (N:Nat):q0A Tryd.prog (G115 N):=add_one [.d tLt,.d tIt] tIt (fun a=>g115 N a.1 a.2.1) [] [] (g115An N) (G22_ok N) Tryd.func115 (by kernel_rfl) (by kernel_rfl) (lokT (q0R (g115Tl N) rfl rfl ⟨g115L26_ok N,trivial⟩)) (.inr rfl) fun a=>by kernel_rfl
def g95 (N:Nat) (a0:List (Int)) (a1:Int):Option (Bool) :=
 Option.bind (g115 N a0 a1) fun r1=>some (decide ((0:Int) ≤ r1))
def g95An (N:Nat):Ann:=mkAn N [] [] [] [] [] 9
def G95 (N:Nat):Cfg:=(G115 N).add 95 (Spec.one [.d tLt,.d tIt] .bool (fun a=>g95 N a.1 a.2.1))
theorem G95_ok (N:Nat):q0A Tryd.prog (G95 N):=add_one [.d tLt,.d tIt] .bool (fun a=>g95 N a.1 a.2.1) [] [] (g95An N) (G115_ok N) Tryd.func95 (by kernel_rfl) (by kernel_rfl) lokE (.inr rfl) fun a=>by kernel_rfl
def g66L26B (N:Nat) {C:Type} (rec:TQ7→Int→Int→Option C) (k0:Bool→Option C) (k1:Option C) (t3:LIt×(LIt×(Unit))) (t7 t8:Int):Option C :=
 bif (decide ((t8:Int) < t7)) then if 0 ≤ (0:Int)∧(0:Int) ≤ t8∧(t8:Int) ≤ 6 then if idx t8 6 then Option.bind (g95 N (List.drop (Int.toNat 0) (List.take (Int.toNat t8) t3.1)) (List.getD t3.1 (Int.toNat t8) 0)) fun r2=>bif r2 then (k0 false) else (rec t3 t7 (IntKind.wrap .i64 (t8 + 1))) else none else none else k1
def g66L26 (N:Nat) {C:Type} (k0:Bool→Option C) (k1:Option C) (t3:LIt×(LIt×(Unit))) (t7 t8:Int):Option C :=
 itP (α:=q0I [.a (.p tQ2),.a (.d tIt),.a (.d tIt)]×q0E []) (fun rec a=>g66L26B N (fun t3 t7 t8=>rec ((t3,t7,t8,()),(()))) k0 k1 a.1.1 a.1.2.1 a.1.2.2.1) N ((t3,t7,t8,()),(()))
def g66L26T (N:Nat):Told:={ nt:=20,sv:=[.a (.p tQ2),.a (.d tIt),.a (.d tIt)],so:=[],run:=fun K' rec a=>g66L26B N (fun t3 t7 t8=>rec ((t3,t7,t8,()),(()))) (fun et4=>K' .ret (build 20 [4] [] [(.dat .bool et4)] [])) (K' (.exit 0) (build 20 [4] [] [.junk] [])) a.1.1 a.1.2.1 a.1.2.2.1 }
def g66 (N:Nat) (a0:LMt×(LMt×(Unit))) (a1:LIt×(LIt×(Unit))):Option (Bool) :=
 Option.bind (g76 N a0) fun r1=>g66L26 N (fun e3=>some e3) (some true) a1 r1 0
def g66Tl (N:Nat):List (Nat×Told):=[(26,g66L26T N)]
def g66An (N:Nat):Ann:=mkAn N [(26,([3,7,8],[]),([4],[]))] [(4,[3]),(1000001,[3])] (g66Tl N) [] [] 20
theorem g66L26_ok (N:Nat):q0P (((G95 N).q0F []).q0T []) (g66An N) (bdy Tryd.f66) 26 (g66L26T N):=⟨⟨loopBody (q0G (bdy Tryd.f66) 64 26),by kernel_rfl,fun K' rec a=>by kernel_rfl⟩,fun a=>by kernel_rfl⟩
def G66 (N:Nat):Cfg:=(G95 N).add 66 (Spec.one [.d tQ3,.d tQ2] .bool (fun a=>g66 N a.1 a.2.1))
theorem G66_ok (N:Nat):q0A Tryd.prog (G66 N):=add_one [.d tQ3,.d tQ2] .bool (fun a=>g66 N a.1 a.2.1) [] [] (g66An N) (G95_ok N) Tryd.func66 (by kernel_rfl) (by kernel_rfl) (lokT (q0R (g66Tl N) rfl rfl ⟨g66L26_ok N,trivial⟩)) (.inr rfl) fun a=>by kernel_rfl
def Gh66 (N:Nat):Cfg:=(G66 N).hand 66 tQ26 .bool
theorem Gh66_ok (N:Nat):q0A Tryd.prog (Gh66 N):=hand_ok (G66_ok N) ⟨Tryd.f66,Tryd.func66,by kernel_rfl,by kernel_rfl⟩
def g30 (N:Nat) (a0:LMt×(LMt×(Unit))):Option (LIt×((Bool)×TQ10)) :=
 Option.bind (g57 N a0) fun r1=>bif (!ieq r1 0) then some (([]:List (Int)),false,r1,()) else Option.bind (g64 N a0 (fun (x2:TQ7×(Unit))=>Option.bind (g66 N a0 x2.1) fun y3=>some y3)) fun r4=>some (r4.1,r4.2.1,0,())
def g30An (N:Nat):Ann:=mkAn N [] [] [] [] [] 22
def G30 (N:Nat):Cfg:=(Gh66 N).add 30 (Spec.many [.d tQ3] tQ27 (fun a=>g30 N a.1))
theorem G30_ok (N:Nat):q0A Tryd.prog (G30 N):=q2J [.d tQ3] tQ27 (fun a=>g30 N a.1) [] [] (g30An N) (Gh66_ok N) Tryd.func30 (by kernel_rfl) (by kernel_rfl) lokE (.inr rfl) fun a=>by kernel_rfl
def g75L58B (N:Nat) {C:Type} (rec:Int→Int→Int→LIt→LIt→Option C) (k0:LIt→LIt→Option C) (t1 t8 t9:Int) (o4 o5:List (Int)):Option C :=
 bif (decide ((t9:Int) < t8)) then if (IntKind.wrap .u64 t9) < 0 then none else if idx t9 6 then (rec t1 t8 (IntKind.wrap .i64 (t9 + 1)) o4 (List.set o5 (Int.toNat t9) (iand .i64 t1 (IntKind.wrap .i64 (1 * 2 ^ min (Int.toNat (IntKind.wrap .u64 t9)) 64))))) else none else (k0 o4 o5)
abbrev g75L58V:List Sh1:=[.a (.d tIt),.a (.ref 4 0 []),.a (.ref 5 0 []),.a (.d tIt),.a (.d tIt)]
abbrev g75L58O:List OSh:=[.box (.d (.arr 6 tIt)) (.a (.d (.arr 6 tIt))),.box (.d (.arr 6 tIt)) (.a (.d (.arr 6 tIt)))]
def g75L58 (N:Nat) {C:Type} (k0:LIt→LIt→Option C) (t1 t8 t9:Int) (o4 o5:List (Int)):Option C :=
 itP (α:=q0I g75L58V×q0E g75L58O) (fun rec a=>g75L58B N (fun t1 t8 t9 o4 o5=>rec ((t1,(),(),t8,t9,()),(o4,o5,()))) k0 a.1.1 a.1.2.2.2.1 a.1.2.2.2.2.1 a.2.1 a.2.2.1) N ((t1,(),(),t8,t9,()),(o4,o5,()))
def g75L58T (N:Nat):Told:={ nt:=21,sv:=g75L58V,so:=g75L58O,run:=fun K' rec a=>g75L58B N (fun t1 t8 t9 o4 o5=>rec ((t1,(),(),t8,t9,()),(o4,o5,()))) (fun eo4 eo5=>K' (.exit 0) (build 21 [4,5] [4,5] [(.ref 4 0 []),(.ref 5 0 [])] [(some (.box (.d (.arr 6 tIt)) (.dat (.arr 6 tIt) eo4))),(some (.box (.d (.arr 6 tIt)) (.dat (.arr 6 tIt) eo5)))])) a.1.1 a.1.2.2.2.1 a.1.2.2.2.2.1 a.2.1 a.2.2.1 }
def g75 (N:Nat) (a0:LMt×(LMt×(Unit))) (a1:Int):Option LIt :=
 Option.bind (g76 N a0) fun r1=>g75L58 N (fun e2 e3=>some e3) a1 r1 0 (List.replicate 6 0) (List.replicate 6 0)
def g75Tl (N:Nat):List (Nat×Told):=[(58,g75L58T N)]
def g75An (N:Nat):Ann:=mkAn N [(58,([1,4,5,8,9],[4,5]),([4,5],[4,5]))] [] (g75Tl N) [] [] 21
theorem g75L58_ok (N:Nat):q0P (((G30 N).q0F []).q0T []) (g75An N) (bdy Tryd.f75) 58 (g75L58T N):=⟨⟨loopBody (q0G (bdy Tryd.f75) 64 58),by kernel_rfl,fun K' rec a=>by kernel_rfl⟩,fun a=>by kernel_rfl⟩
def G75 (N:Nat):Cfg:=(G30 N).add 75 (Spec.one [.d tQ3,.d tIt] (.arr 6 tIt) (fun a=>g75 N a.1 a.2.1))
theorem G75_ok (N:Nat):q0A Tryd.prog (G75 N):=add_one [.d tQ3,.d tIt] (.arr 6 tIt) (fun a=>g75 N a.1 a.2.1) [] [] (g75An N) (G30_ok N) Tryd.func75 (by kernel_rfl) (by kernel_rfl) (lokT (q0R (g75Tl N) rfl rfl ⟨g75L58_ok N,trivial⟩)) (.inr rfl) fun a=>by kernel_rfl
def g100L58B (N:Nat) {C:Type} (rec:Int→Int→LIt→Int→TQ5→LIt→LIt→Option C) (k0:TQ5→LIt→LIt→Option C) (t2 t3:Int) (t12:List (Int)) (t13:Int) (o4:LMt×(LMt×(Unit))) (o8 o9:List (Int)):Option C :=
 bif (decide ((t13:Int) < 6)) then if idx t13 6 then bif (!ieq (List.getD t12 (Int.toNat t13) 0) 0) then if idx t13 (List.length o4.2.1) then if idx t2 (List.length (List.getD o4.2.1 (Int.toNat t13) ([]:List (Int)))) then bif (ieq (List.getD (List.getD o4.2.1 (Int.toNat t13) ([]:List (Int))) (Int.toNat t2) 0) t3) then if idx t13 (List.length o4.1) then if idx t2 (List.length (List.getD o4.1 (Int.toNat t13) ([]:List (Int)))) then if idx (List.getD (List.getD o4.1 (Int.toNat t13) ([]:List (Int))) (Int.toNat t2) 0) 6 then if idx (List.getD (List.getD o4.1 (Int.toNat t13) ([]:List (Int))) (Int.toNat t2) 0) 6 then (rec t2 t3 t12 (IntKind.wrap .i64 (t13 + 1)) o4 o8 (List.set o9 (Int.toNat (List.getD (List.getD o4.1 (Int.toNat t13) ([]:List (Int))) (Int.toNat t2) 0)) (ior .i64 (List.getD o9 (Int.toNat (List.getD (List.getD o4.1 (Int.toNat t13) ([]:List (Int))) (Int.toNat t2) 0)) 0) (List.getD t12 (Int.toNat t13) 0)))) else none else none else none else none else (rec t2 t3 t12 (IntKind.wrap .i64 (t13 + 1)) o4 o8 o9) else none else none else (rec t2 t3 t12 (IntKind.wrap .i64 (t13 + 1)) o4 o8 o9) else none else (k0 o4 o8 o9)
abbrev g100L58V:List Sh1:=[.a (.d tIt),.a (.d tIt),.a (.ref 4 0 []),.a (.ref 8 0 []),.a (.ref 9 0 []),.a (.d (.arr 6 tIt)),.a (.d tIt)]
abbrev g100L58O:List OSh:=[.box (.d tQ3) (.a (.d tQ3)),.box (.d (.arr 6 tIt)) (.a (.d (.arr 6 tIt))),.box (.d (.arr 6 tIt)) (.a (.d (.arr 6 tIt)))]
def g100L58 (N:Nat) {C:Type} (k0:TQ5→LIt→LIt→Option C) (t2 t3:Int) (t12:List (Int)) (t13:Int) (o4:LMt×(LMt×(Unit))) (o8 o9:List (Int)):Option C :=
 itP (α:=q0I g100L58V×q0E g100L58O) (fun rec a=>g100L58B N (fun t2 t3 t12 t13 o4 o8 o9=>rec ((t2,t3,(),(),(),t12,t13,()),(o4,o8,o9,()))) k0 a.1.1 a.1.2.1 a.1.2.2.2.2.2.1 a.1.2.2.2.2.2.2.1 a.2.1 a.2.2.1 a.2.2.2.1) N ((t2,t3,(),(),(),t12,t13,()),(o4,o8,o9,()))
def g100L58T (N:Nat):Told:={ nt:=46,sv:=g100L58V,so:=g100L58O,run:=fun K' rec a=>g100L58B N (fun t2 t3 t12 t13 o4 o8 o9=>rec ((t2,t3,(),(),(),t12,t13,()),(o4,o8,o9,()))) (fun eo4 eo8 eo9=>K' (.exit 0) (build 46 [8,9] [4,8,9] [(.ref 8 0 []),(.ref 9 0 [])] [(some (.box (.d tQ3) (.dat tQ3 eo4))),(some (.box (.d (.arr 6 tIt)) (.dat (.arr 6 tIt) eo8))),(some (.box (.d (.arr 6 tIt)) (.dat (.arr 6 tIt) eo9)))])) a.1.1 a.1.2.1 a.1.2.2.2.2.2.1 a.1.2.2.2.2.2.2.1 a.2.1 a.2.2.1 a.2.2.2.1 }
def g100 (N:Nat) (a0:LMt×(LMt×(Unit))) (a1:List (Int)) (a2 a3:Int):Option LIt :=
 g100L58 N (fun e1 e2 e3=>some e3) a2 a3 a1 0 a0 (List.replicate 6 0) (List.replicate 6 0)
def g100Tl (N:Nat):List (Nat×Told):=[(58,g100L58T N)]
def g100An (N:Nat):Ann:=mkAn N [(58,([2,3,4,8,9,12,13],[4,8,9]),([8,9],[4,8,9]))] [] (g100Tl N) [] [] 46
theorem g100L58_ok (N:Nat):q0P (((G75 N).q0F []).q0T []) (g100An N) (bdy Tryd.f100) 58 (g100L58T N):=⟨⟨loopBody (q0G (bdy Tryd.f100) 64 58),by kernel_rfl,fun K' rec a=>by kernel_rfl⟩,fun a=>by kernel_rfl⟩
def G100 (N:Nat):Cfg:=(G75 N).add 100 (Spec.one [.d tQ3,.d (.arr 6 tIt),.d tIt,.d tIt] (.arr 6 tIt) (fun a=>g100 N a.1 a.2.1 a.2.2.1 a.2.2.2.1))
theorem G100_ok (N:Nat):q0A Tryd.prog (G100 N):=add_one [.d tQ3,.d (.arr 6 tIt),.d tIt,.d tIt] (.arr 6 tIt) (fun a=>g100 N a.1 a.2.1 a.2.2.1 a.2.2.2.1) [] [] (g100An N) (G75_ok N) Tryd.func100 (by kernel_rfl) (by kernel_rfl) (lokT (q0R (g100Tl N) rfl rfl ⟨g100L58_ok N,trivial⟩)) (.inr rfl) fun a=>by kernel_rfl
def g101L58B (N:Nat) {C:Type} (rec:Int→LIt→Int→Option C) (k0:Int→Option C) (t3:Int) (t6:List (Int)) (t7:Int):Option C :=
 bif (decide ((t7:Int) < 6)) then if idx t7 6 then (rec (ior .i64 t3 (List.getD t6 (Int.toNat t7) 0)) t6 (IntKind.wrap .i64 (t7 + 1))) else none else (k0 t3)
def g101L58 (N:Nat) {C:Type} (k0:Int→Option C) (t3:Int) (t6:List (Int)) (t7:Int):Option C :=
 itP (α:=q0I [.a (.d tIt),.a (.d (.arr 6 tIt)),.a (.d tIt)]×q0E []) (fun rec a=>g101L58B N (fun t3 t6 t7=>rec ((t3,t6,t7,()),(()))) k0 a.1.1 a.1.2.1 a.1.2.2.1) N ((t3,t6,t7,()),(()))
def g101L58T (N:Nat):Told:={ nt:=15,sv:=[.a (.d tIt),.a (.d (.arr 6 tIt)),.a (.d tIt)],so:=[],run:=fun K' rec a=>g101L58B N (fun t3 t6 t7=>rec ((t3,t6,t7,()),(()))) (fun et3=>K' (.exit 0) (build 15 [3] [] [(.dat tIt et3)] [])) a.1.1 a.1.2.1 a.1.2.2.1 }
def g101 (N:Nat) (a0:List (Int)):Option (Int) :=
 g101L58 N (fun e1=>some e1) 0 a0 0
def g101Tl (N:Nat):List (Nat×Told):=[(58,g101L58T N)]
def g101An (N:Nat):Ann:=mkAn N [(58,([3,6,7],[]),([3],[]))] [] (g101Tl N) [] [] 15
theorem g101L58_ok (N:Nat):q0P (((G100 N).q0F []).q0T []) (g101An N) (bdy Tryd.f101) 58 (g101L58T N):=⟨⟨loopBody (q0G (bdy Tryd.f101) 64 58),by kernel_rfl,fun K' rec a=>by kernel_rfl⟩,fun a=>by kernel_rfl⟩
def G101 (N:Nat):Cfg:=(G100 N).add 101 (Spec.one [.d (.arr 6 tIt)] tIt (fun a=>g101 N a.1))
theorem G101_ok (N:Nat):q0A Tryd.prog (G101 N):=add_one [.d (.arr 6 tIt)] tIt (fun a=>g101 N a.1) [] [] (g101An N) (G100_ok N) Tryd.func101 (by kernel_rfl) (by kernel_rfl) (lokT (q0R (g101Tl N) rfl rfl ⟨g101L58_ok N,trivial⟩)) (.inr rfl) fun a=>by kernel_rfl
def g118L26B (N:Nat) {C:Type} (rec:LIt→Int→Option C) (k0:Bool→Option C) (k1:Option C) (t5:List (Int)) (t6:Int):Option C :=
 bif (decide ((t6:Int) < 6)) then if idx t6 6 then bif (!ieq (iand .i64 (List.getD t5 (Int.toNat t6) 0) (IntKind.wrap .i64 ((List.getD t5 (Int.toNat t6) 0) - 1))) 0) then (k0 true) else (rec t5 (IntKind.wrap .i64 (t6 + 1))) else none else k1
def g118L26 (N:Nat) {C:Type} (k0:Bool→Option C) (k1:Option C) (t5:List (Int)) (t6:Int):Option C :=
 itP (α:=q0I [.a (.d (.arr 6 tIt)),.a (.d tIt)]×q0E []) (fun rec a=>g118L26B N (fun t5 t6=>rec ((t5,t6,()),(()))) k0 k1 a.1.1 a.1.2.1) N ((t5,t6,()),(()))
def g118L26T (N:Nat):Told:={ nt:=15,sv:=[.a (.d (.arr 6 tIt)),.a (.d tIt)],so:=[],run:=fun K' rec a=>g118L26B N (fun t5 t6=>rec ((t5,t6,()),(()))) (fun et2=>K' .ret (build 15 [2] [] [(.dat .bool et2)] [])) (K' (.exit 0) (build 15 [2] [] [.junk] [])) a.1.1 a.1.2.1 }
def g118 (N:Nat) (a0:List (Int)):Option (Bool) :=
 g118L26 N (fun e1=>some e1) (some false) a0 0
def g118Tl (N:Nat):List (Nat×Told):=[(26,g118L26T N)]
def g118An (N:Nat):Ann:=mkAn N [(26,([5,6],[]),([2],[]))] [] (g118Tl N) [] [] 15
theorem g118L26_ok (N:Nat):q0P (((G101 N).q0F []).q0T []) (g118An N) (bdy Tryd.f118) 26 (g118L26T N):=⟨⟨loopBody (q0G (bdy Tryd.f118) 64 26),by kernel_rfl,fun K' rec a=>by kernel_rfl⟩,fun a=>by kernel_rfl⟩
def G118 (N:Nat):Cfg:=(G101 N).add 118 (Spec.one [.d (.arr 6 tIt)] .bool (fun a=>g118 N a.1))
theorem G118_ok (N:Nat):q0A Tryd.prog (G118 N):=add_one [.d (.arr 6 tIt)] .bool (fun a=>g118 N a.1) [] [] (g118An N) (G101_ok N) Tryd.func118 (by kernel_rfl) (by kernel_rfl) (lokT (q0R (g118Tl N) rfl rfl ⟨g118L26_ok N,trivial⟩)) (.inr rfl) fun a=>by kernel_rfl
def g105xL58B (N:Nat) {C:Type} (rec:Int→Int→Int→LIt→TQ5→TQ12→Option C) (k0:Int→LIt→TQ5→TQ12→Option C) (t2 t7 t10:Int) (o4:List (Int)) (o100001_0:LMt×(LMt×(Unit))) (o100002:List (LIt×(Int))):Option C :=
 bif (decide ((t10:Int) < 4)) then Option.bind (g100 N o100001_0 o4 t2 t10) fun r1=>Option.bind (g101 N r1) fun r2=>bif (!ieq r2 0) then (rec t2 (imax t7 (Option.getD (q0C (Ty.beq (.arr 6 tIt)) r1 o100002) 0)) (IntKind.wrap .i64 (t10 + 1)) o4 o100001_0 o100002) else (rec t2 t7 (IntKind.wrap .i64 (t10 + 1)) o4 o100001_0 o100002) else (k0 t7 o4 o100001_0 o100002)
abbrev g105xL58V:List Sh1:=[.a (.ref 100001 0 []),.a (.d tIt),.a (.ref 4 0 []),.a (.d tIt),.a (.d tIt)]
abbrev g105xL58O:List OSh:=[.box (.d (.arr 6 tIt)) (.a (.d (.arr 6 tIt))),.gone,.box (.st [some tQ3,none]) (.agg [.d tQ3,.mp 100002 0]),.map (.arr 6 tIt) tIt]
def g105xL58 (N:Nat) {C:Type} (k0:Int→LIt→TQ5→TQ12→Option C) (t2 t7 t10:Int) (o4:List (Int)) (o100001_0:LMt×(LMt×(Unit))) (o100002:List (LIt×(Int))):Option C :=
 itP (α:=q0I g105xL58V×q0E g105xL58O) (fun rec a=>g105xL58B N (fun t2 t7 t10 o4 o100001_0 o100002=>rec (((),t2,(),t7,t10,()),(o4,(),(o100001_0,(),()),o100002,()))) k0 a.1.2.1 a.1.2.2.2.1 a.1.2.2.2.2.1 a.2.1 a.2.2.2.1.1 a.2.2.2.2.1) N (((),t2,(),t7,t10,()),(o4,(),(o100001_0,(),()),o100002,()))
def g105xL58T (N:Nat):Told:={ nt:=36,sv:=g105xL58V,so:=g105xL58O,run:=fun K' rec a=>g105xL58B N (fun t2 t7 t10 o4 o100001_0 o100002=>rec (((),t2,(),t7,t10,()),(o4,(),(o100001_0,(),()),o100002,()))) (fun et7 eo4 eo100001_0 eo100002=>K' (.exit 0) (build 36 [7] [4,100000,100001,100002] [(.dat tIt et7)] [(some (.box (.d (.arr 6 tIt)) (.dat (.arr 6 tIt) eo4))),(some .gone),(some (.box (.st [some tQ3,none]) (.agg [(.dat tQ3 eo100001_0),(.mp 100002 0)]))),(some (.map (.arr 6 tIt) tIt eo100002))])) a.1.2.1 a.1.2.2.2.1 a.1.2.2.2.2.1 a.2.1 a.2.2.2.1.1 a.2.2.2.2.1 }
@[reducible] def g105xS:XSh:={ sa:=[.a (.ref 100001 0 []),.a (.d (.arr 6 tIt)),.a (.d tIt)],so:=[.gone,.box (.st [some tQ3,none]) (.agg [.d tQ3,.mp 100002 0]),.map (.arr 6 tIt) tIt],rs:=[.a (.d tIt)],many:=false,os:=[(0,.gone),(0,.box (.st [some tQ3,none]) (.agg [.d tQ3,.mp 100002 0])),(0,.map (.arr 6 tIt) tIt)],xs:=[] }
def g105x (N:Nat) (a1:List (Int)) (a2:Int) (p1_0:LMt×(LMt×(Unit))) (p2:List (LIt×(Int))):Option (g105xS).R :=
 g105xL58 N (fun e3 e4 e5 e6=>some (((imin 1000 (IntKind.wrap .i64 (e3 + 1))),()),((),(e5,(),()),e6,()),(()))) a2 0 0 a1 p1_0 p2
def g105xTl (N:Nat):List (Nat×Told):=[(58,g105xL58T N)]
def g105xAn (N:Nat):Ann:=mkAn N [(58,([0,2,4,7,10],[4,100000,100001,100002]),([7],[4,100000,100001,100002]))] [] (g105xTl N) [] [] 36
theorem g105xL58_ok (N:Nat):q0P (((G118 N).q0F []).q0T []) (g105xAn N) (bdy Tryd.f105) 58 (g105xL58T N):=⟨⟨loopBody (q0G (bdy Tryd.f105) 64 58),by kernel_rfl,fun K' rec a=>by kernel_rfl⟩,fun a=>by kernel_rfl⟩
def G105x (N:Nat):Cfg:=(G118 N).addX 105 (q4N.of (g105xS) (fun a=>g105x N a.1.2.1 a.1.2.2.1 a.2.2.1.1 a.2.2.2.1))
theorem G105x_ok (N:Nat):q0A Tryd.prog (G105x N):=z7B (g105xS) (fun a=>g105x N a.1.2.1 a.1.2.2.1 a.2.2.1.1 a.2.2.2.1) [] [] [] (g105xAn N) (G118_ok N) Tryd.func105 (by kernel_rfl) (by kernel_rfl) (lokT (q0R (g105xTl N) rfl rfl ⟨g105xL58_ok N,trivial⟩)) (.inr rfl) (fun h=>by first | rfl | cases h) fun a=>by kernel_rfl
def g102xL122B (N:Nat) {C:Type} (rec:Int→Int→Int→LIt→TQ5→TQ12→Option C) (k0:Int→LIt→TQ5→TQ12→Option C) (t6 t23 t24:Int) (o3:List (Int)) (o100001_0:LMt×(LMt×(Unit))) (o100002:List (LIt×(Int))):Option C :=
 bif (decide ((t24:Int) < t23)) then Option.bind (g105x N o3 t24 o100001_0 o100002) fun r4=>(rec (imin t6 r4.1.1) t23 (IntKind.wrap .i64 (t24 + 1)) o3 r4.2.1.2.1.1 r4.2.1.2.2.1) else (k0 t6 o3 o100001_0 o100002)
abbrev g102xL122V:List Sh1:=[.a (.ref 100001 0 []),.a (.ref 3 0 []),.a (.d tIt),.a (.d tIt),.a (.d tIt)]
abbrev g102xL122O:List OSh:=[.box (.d (.arr 6 tIt)) (.a (.d (.arr 6 tIt))),.gone,.box (.st [some tQ3,none]) (.agg [.d tQ3,.mp 100002 0]),.map (.arr 6 tIt) tIt]
def g102xL122 (N:Nat) {C:Type} (k0:Int→LIt→TQ5→TQ12→Option C) (t6 t23 t24:Int) (o3:List (Int)) (o100001_0:LMt×(LMt×(Unit))) (o100002:List (LIt×(Int))):Option C :=
 itP (α:=q0I g102xL122V×q0E g102xL122O) (fun rec a=>g102xL122B N (fun t6 t23 t24 o3 o100001_0 o100002=>rec (((),(),t6,t23,t24,()),(o3,(),(o100001_0,(),()),o100002,()))) k0 a.1.2.2.1 a.1.2.2.2.1 a.1.2.2.2.2.1 a.2.1 a.2.2.2.1.1 a.2.2.2.2.1) N (((),(),t6,t23,t24,()),(o3,(),(o100001_0,(),()),o100002,()))
def g102xL122T (N:Nat):Told:={ nt:=35,sv:=g102xL122V,so:=g102xL122O,run:=fun K' rec a=>g102xL122B N (fun t6 t23 t24 o3 o100001_0 o100002=>rec (((),(),t6,t23,t24,()),(o3,(),(o100001_0,(),()),o100002,()))) (fun et6 eo3 eo100001_0 eo100002=>K' (.exit 1) (build 35 [6] [3,100000,100001,100002] [(.dat tIt et6)] [(some (.box (.d (.arr 6 tIt)) (.dat (.arr 6 tIt) eo3))),(some .gone),(some (.box (.st [some tQ3,none]) (.agg [(.dat tQ3 eo100001_0),(.mp 100002 0)]))),(some (.map (.arr 6 tIt) tIt eo100002))])) a.1.2.2.1 a.1.2.2.2.1 a.1.2.2.2.2.1 a.2.1 a.2.2.2.1.1 a.2.2.2.2.1 }
@[reducible] def g102xS:XSh:={ sa:=[.a (.ref 100001 0 []),.a (.d (.arr 6 tIt))],so:=[.gone,.box (.st [some tQ3,none]) (.agg [.d tQ3,.mp 100002 0]),.map (.arr 6 tIt) tIt],rs:=[.a (.d tIt)],many:=false,os:=[(0,.gone),(0,.box (.st [some tQ3,none]) (.agg [.d tQ3,.mp 100002 0])),(0,.map (.arr 6 tIt) tIt)],xs:=[] }
def g102x (N:Nat) (a1:List (Int)) (p1_0:LMt×(LMt×(Unit))) (p2:List (LIt×(Int))):Option (g102xS).R :=
 Option.bind (g101 N a1) fun r1=>bif (ieq (iand .i64 r1 (IntKind.wrap .i64 (r1 - 1))) 0) then some ((0,()),((),(p1_0,(),()),p2,()),(())) else Option.bind (g118 N a1) fun r2=>bif r2 then some ((1000,()),((),(p1_0,(),()),p2,()),(())) else Option.bind (g85 N p1_0) fun r3=>g102xL122 N (fun e5 e6 e7 e8=>some ((e5,()),((),(e7,(),()),e8,()),(()))) 1000 r3 0 a1 p1_0 p2
def g102xTl (N:Nat):List (Nat×Told):=[(122,g102xL122T N)]
def g102xAn (N:Nat):Ann:=mkAn N [(122,([0,3,6,23,24],[3,100000,100001,100002]),([6],[3,100000,100001,100002]))] [] (g102xTl N) [] [] 35
theorem g102xL122_ok (N:Nat):q0P (((G105x N).q0F []).q0T [31]) (g102xAn N) (bdy Tryd.f102) 122 (g102xL122T N):=⟨⟨loopBody (q0G (bdy Tryd.f102) 64 122),by kernel_rfl,fun K' rec a=>by kernel_rfl⟩,fun a=>by kernel_rfl⟩
def G102x (N:Nat):Cfg:=(G105x N).addX 102 (q4N.of (g102xS) (fun a=>g102x N a.1.2.1 a.2.2.1.1 a.2.2.2.1))
theorem G102x_ok (N:Nat):q0A Tryd.prog (G102x N):=z7B (g102xS) (fun a=>g102x N a.1.2.1 a.2.2.1.1 a.2.2.2.1) [] [31] [] (g102xAn N) (G105x_ok N) Tryd.func102 (by kernel_rfl) (by kernel_rfl) (lokT (q0R (g102xTl N) rfl rfl ⟨g102xL122_ok N,trivial⟩)) (.inr rfl) (fun h=>by first | rfl | cases h) fun a=>by kernel_rfl
def z3V (N:Nat) {C:Type} (rec:Int→Int→Int→Int→Int→LMt→TQ12→TQ5→Option C) (k0:Int→Int→Int→LMt→TQ12→TQ5→Option C) (t5 t6:Int) (t33 t34 t37:Int) (o16:List LIt) (o18:List (LIt×(Int))) (o100001_0:LMt×(LMt×(Unit))):Option C :=
 bif (decide ((t37:Int) < 4)) then if idx t5 (List.length o16) then if (Int.toNat t5) < List.length o16 then Option.bind (g100 N o100001_0 (List.getD o16 (Int.toNat t5) (List.replicate 6 0)) t6 t37) fun r2=>bif (!(Option.isSome (q0C (Ty.beq (.arr 6 tIt)) r2 o18))) then Option.bind (g101 N r2) fun r3=>bif (!ieq r3 0) then if List.length o16 + List.length [r2] ≤ maxCount then (rec t5 t6 t33 t34 (IntKind.wrap .i64 (t37 + 1)) (o16 ++ [r2]) (q0S (Ty.beq (.arr 6 tIt)) r2 1000 o18) o100001_0) else none else (rec t5 t6 t33 t34 (IntKind.wrap .i64 (t37 + 1)) o16 o18 o100001_0) else (rec t5 t6 t33 t34 (IntKind.wrap .i64 (t37 + 1)) o16 o18 o100001_0) else none else none else (k0 t5 t33 t34 o16 o18 o100001_0)
abbrev z3O:List Sh1:=[.a (.ref 100001 0 []),.a (.sl (.arr 6 tIt) 16 0),.a (.d tIt),.a (.d tIt),.a (.d tIt),.a (.d tIt),.a (.d tIt)]
abbrev z4E:List OSh:=[.vec (.arr 6 tIt),.map (.arr 6 tIt) tIt,.gone,.box (.st [some tQ3,none]) (.agg [.d tQ3,.mp 18 0])]
def g77xL2003558 (N:Nat) {C:Type} (k0:Int→Int→Int→LMt→TQ12→TQ5→Option C) (t5 t6:Int) (t33 t34 t37:Int) (o16:List LIt) (o18:List (LIt×(Int))) (o100001_0:LMt×(LMt×(Unit))):Option C :=
 itP (α:=q0I z3O×q0E z4E) (fun rec a=>z3V N (fun t5 t6 t33 t34 t37 o16 o18 o100001_0=>rec (((),(),t5,t6,t33,t34,t37,()),(o16,o18,(),(o100001_0,(),()),()))) k0 a.1.2.2.1 a.1.2.2.2.1 a.1.2.2.2.2.1 a.1.2.2.2.2.2.1 a.1.2.2.2.2.2.2.1 a.2.1 a.2.2.1 a.2.2.2.2.1.1) N (((),(),t5,t6,t33,t34,t37,()),(o16,o18,(),(o100001_0,(),()),()))
def z3M (N:Nat):Told:={ nt:=103,sv:=z3O,so:=z4E,run:=fun K' rec a=>z3V N (fun t5 t6 t33 t34 t37 o16 o18 o100001_0=>rec (((),(),t5,t6,t33,t34,t37,()),(o16,o18,(),(o100001_0,(),()),()))) (fun et5 et33 et34 eo16 eo18 eo100001_0=>K' (.exit 4) (build 103 [0,4,5,33,34] [16,18,100000,100001] [(.ref 100001 0 []),(.sl (.arr 6 tIt) 16 0),(.dat tIt et5),(.dat tIt et33),(.dat tIt et34)] [(some (.vec (.arr 6 tIt) eo16)),(some (.map (.arr 6 tIt) tIt eo18)),(some .gone),(some (.box (.st [some tQ3,none]) (.agg [(.dat tQ3 eo100001_0),(.mp 18 0)])))])) a.1.2.2.1 a.1.2.2.2.1 a.1.2.2.2.2.1 a.1.2.2.2.2.2.1 a.1.2.2.2.2.2.2.1 a.2.1 a.2.2.1 a.2.2.2.2.1.1 }
def g77xL7826B (N:Nat) {C:Type} (rec:Int→Int→Int→LMt→TQ12→TQ5→Option C) (k0:Int→LMt→TQ12→TQ5→Option C) (t5 t33 t34:Int) (o16:List LIt) (o18:List (LIt×(Int))) (o100001_0:LMt×(LMt×(Unit))):Option C :=
 bif (decide ((t34:Int) < t33)) then g77xL2003558 N (fun e4 e5 e6 e7 e8 e9=>(rec e4 e5 (IntKind.wrap .i64 (e6 + 1)) e7 e8 e9)) t5 t34 t33 t34 0 o16 o18 o100001_0 else (k0 t5 o16 o18 o100001_0)
abbrev g77xL7826V:List Sh1:=[.a (.ref 100001 0 []),.a (.sl (.arr 6 tIt) 16 0),.a (.d tIt),.a (.d tIt),.a (.d tIt)]
abbrev g77xL7826O:List OSh:=[.vec (.arr 6 tIt),.map (.arr 6 tIt) tIt,.gone,.box (.st [some tQ3,none]) (.agg [.d tQ3,.mp 18 0])]
def g77xL7826 (N:Nat) {C:Type} (k0:Int→LMt→TQ12→TQ5→Option C) (t5 t33 t34:Int) (o16:List LIt) (o18:List (LIt×(Int))) (o100001_0:LMt×(LMt×(Unit))):Option C :=
 itP (α:=q0I g77xL7826V×q0E g77xL7826O) (fun rec a=>g77xL7826B N (fun t5 t33 t34 o16 o18 o100001_0=>rec (((),(),t5,t33,t34,()),(o16,o18,(),(o100001_0,(),()),()))) k0 a.1.2.2.1 a.1.2.2.2.1 a.1.2.2.2.2.1 a.2.1 a.2.2.1 a.2.2.2.2.1.1) N (((),(),t5,t33,t34,()),(o16,o18,(),(o100001_0,(),()),()))
def g77xL7826T (N:Nat):Told:={ nt:=103,sv:=g77xL7826V,so:=g77xL7826O,run:=fun K' rec a=>g77xL7826B N (fun t5 t33 t34 o16 o18 o100001_0=>rec (((),(),t5,t33,t34,()),(o16,o18,(),(o100001_0,(),()),()))) (fun et5 eo16 eo18 eo100001_0=>K' (.exit 2) (build 103 [0,4,5] [16,18,100000,100001] [(.ref 100001 0 []),(.sl (.arr 6 tIt) 16 0),(.dat tIt et5)] [(some (.vec (.arr 6 tIt) eo16)),(some (.map (.arr 6 tIt) tIt eo18)),(some .gone),(some (.box (.st [some tQ3,none]) (.agg [(.dat tQ3 eo100001_0),(.mp 18 0)])))])) a.1.2.2.1 a.1.2.2.2.1 a.1.2.2.2.2.1 a.2.1 a.2.2.1 a.2.2.2.2.1.1 }
def g77xL122B (N:Nat) {C:Type} (rec:Int→LMt→TQ12→TQ5→Option C) (k0:LMt→TQ12→TQ5→Option C) (t5:Int) (o16:List LIt) (o18:List (LIt×(Int))) (o100001_0:LMt×(LMt×(Unit))):Option C :=
 bif (decide ((t5:Int) < ((List.length o16:Nat):Int))) then Option.bind (g85 N o100001_0) fun r1=>g77xL7826 N (fun e10 e11 e12 e13=>(rec (IntKind.wrap .i64 (e10 + 1)) e11 e12 e13)) t5 r1 0 o16 o18 o100001_0 else (k0 o16 o18 o100001_0)
abbrev g77xL122V:List Sh1:=[.a (.ref 100001 0 []),.a (.sl (.arr 6 tIt) 16 0),.a (.d tIt)]
abbrev g77xL122O:List OSh:=[.vec (.arr 6 tIt),.map (.arr 6 tIt) tIt,.gone,.box (.st [some tQ3,none]) (.agg [.d tQ3,.mp 18 0])]
def g77xL122 (N:Nat) {C:Type} (k0:LMt→TQ12→TQ5→Option C) (t5:Int) (o16:List LIt) (o18:List (LIt×(Int))) (o100001_0:LMt×(LMt×(Unit))):Option C :=
 itP (α:=q0I g77xL122V×q0E g77xL122O) (fun rec a=>g77xL122B N (fun t5 o16 o18 o100001_0=>rec (((),(),t5,()),(o16,o18,(),(o100001_0,(),()),()))) k0 a.1.2.2.1 a.2.1 a.2.2.1 a.2.2.2.2.1.1) N (((),(),t5,()),(o16,o18,(),(o100001_0,(),()),()))
def g77xL122T (N:Nat):Told:={ nt:=103,sv:=g77xL122V,so:=g77xL122O,run:=fun K' rec a=>g77xL122B N (fun t5 o16 o18 o100001_0=>rec (((),(),t5,()),(o16,o18,(),(o100001_0,(),()),()))) (fun eo16 eo18 eo100001_0=>K' (.exit 0) (build 103 [0,4] [16,18,100000,100001] [(.ref 100001 0 []),(.sl (.arr 6 tIt) 16 0)] [(some (.vec (.arr 6 tIt) eo16)),(some (.map (.arr 6 tIt) tIt eo18)),(some .gone),(some (.box (.st [some tQ3,none]) (.agg [(.dat tQ3 eo100001_0),(.mp 18 0)])))])) a.1.2.2.1 a.2.1 a.2.2.1 a.2.2.2.2.1.1 }
def g77xL8086B (N:Nat) {C:Type} (rec:Bool→Int→Int→LMt→TQ12→TQ5→Option C) (k0:Bool→LMt→TQ12→TQ5→Option C) (t11:Bool) (t80 t81:Int) (o16:List LIt) (o18:List (LIt×(Int))) (o100001_0:LMt×(LMt×(Unit))):Option C :=
 bif (decide ((t81:Int) < t80)) then if idx t81 (List.length o16) then if (Int.toNat t81) < List.length o16 then Option.bind (g102x N (List.getD o16 (Int.toNat t81) (List.replicate 6 0)) o100001_0 o18) fun r17=>bif (decide ((r17.1.1:Int) < (Option.getD (q0C (Ty.beq (.arr 6 tIt)) (List.getD o16 (Int.toNat t81) (List.replicate 6 0)) r17.2.1.2.2.1) 0))) then (rec true t80 (IntKind.wrap .i64 (t81 + 1)) o16 (q0S (Ty.beq (.arr 6 tIt)) (List.getD o16 (Int.toNat t81) (List.replicate 6 0)) r17.1.1 r17.2.1.2.2.1) r17.2.1.2.1.1) else (rec t11 t80 (IntKind.wrap .i64 (t81 + 1)) o16 r17.2.1.2.2.1 r17.2.1.2.1.1) else none else none else (k0 t11 o16 o18 o100001_0)
abbrev g77xL8086V:List Sh1:=[.a (.ref 100001 0 []),.a (.sl (.arr 6 tIt) 16 0),.a (.d .bool),.a (.sl (.arr 6 tIt) 16 0),.a (.d tIt),.a (.d tIt)]
abbrev g77xL8086O:List OSh:=[.vec (.arr 6 tIt),.map (.arr 6 tIt) tIt,.gone,.box (.st [some tQ3,none]) (.agg [.d tQ3,.mp 18 0])]
def g77xL8086 (N:Nat) {C:Type} (k0:Bool→LMt→TQ12→TQ5→Option C) (t11:Bool) (t80 t81:Int) (o16:List LIt) (o18:List (LIt×(Int))) (o100001_0:LMt×(LMt×(Unit))):Option C :=
 itP (α:=q0I g77xL8086V×q0E g77xL8086O) (fun rec a=>g77xL8086B N (fun t11 t80 t81 o16 o18 o100001_0=>rec (((),(),t11,(),t80,t81,()),(o16,o18,(),(o100001_0,(),()),()))) k0 a.1.2.2.1 a.1.2.2.2.2.1 a.1.2.2.2.2.2.1 a.2.1 a.2.2.1 a.2.2.2.2.1.1) N (((),(),t11,(),t80,t81,()),(o16,o18,(),(o100001_0,(),()),()))
def g77xL8086T (N:Nat):Told:={ nt:=103,sv:=g77xL8086V,so:=g77xL8086O,run:=fun K' rec a=>g77xL8086B N (fun t11 t80 t81 o16 o18 o100001_0=>rec (((),(),t11,(),t80,t81,()),(o16,o18,(),(o100001_0,(),()),()))) (fun et11 eo16 eo18 eo100001_0=>K' (.exit 8) (build 103 [0,4,11] [16,18,100000,100001] [(.ref 100001 0 []),(.sl (.arr 6 tIt) 16 0),(.dat .bool et11)] [(some (.vec (.arr 6 tIt) eo16)),(some (.map (.arr 6 tIt) tIt eo18)),(some .gone),(some (.box (.st [some tQ3,none]) (.agg [(.dat tQ3 eo100001_0),(.mp 18 0)])))])) a.1.2.2.1 a.1.2.2.2.2.1 a.1.2.2.2.2.2.1 a.2.1 a.2.2.1 a.2.2.2.2.1.1 }
def g77xL126B (N:Nat) {C:Type} (rec:Bool→LMt→TQ12→TQ5→Option C) (k0:LMt→TQ12→TQ5→Option C) (t11:Bool) (o16:List LIt) (o18:List (LIt×(Int))) (o100001_0:LMt×(LMt×(Unit))):Option C :=
 bif t11 then g77xL8086 N (fun e18 e19 e20 e21=>(rec e18 e19 e20 e21)) false ((List.length o16:Nat):Int) 0 o16 o18 o100001_0 else (k0 o16 o18 o100001_0)
abbrev g77xL126V:List Sh1:=[.a (.ref 100001 0 []),.a (.sl (.arr 6 tIt) 16 0),.a (.d .bool)]
abbrev g77xL126O:List OSh:=[.vec (.arr 6 tIt),.map (.arr 6 tIt) tIt,.gone,.box (.st [some tQ3,none]) (.agg [.d tQ3,.mp 18 0])]
def g77xL126 (N:Nat) {C:Type} (k0:LMt→TQ12→TQ5→Option C) (t11:Bool) (o16:List LIt) (o18:List (LIt×(Int))) (o100001_0:LMt×(LMt×(Unit))):Option C :=
 itP (α:=q0I g77xL126V×q0E g77xL126O) (fun rec a=>g77xL126B N (fun t11 o16 o18 o100001_0=>rec (((),(),t11,()),(o16,o18,(),(o100001_0,(),()),()))) k0 a.1.2.2.1 a.2.1 a.2.2.1 a.2.2.2.2.1.1) N (((),(),t11,()),(o16,o18,(),(o100001_0,(),()),()))
def g77xL126T (N:Nat):Told:={ nt:=103,sv:=g77xL126V,so:=g77xL126O,run:=fun K' rec a=>g77xL126B N (fun t11 o16 o18 o100001_0=>rec (((),(),t11,()),(o16,o18,(),(o100001_0,(),()),()))) (fun eo16 eo18 eo100001_0=>K' (.exit 6) (build 103 [] [16,18,100000,100001] [] [(some (.vec (.arr 6 tIt) eo16)),(some (.map (.arr 6 tIt) tIt eo18)),(some .gone),(some (.box (.st [some tQ3,none]) (.agg [(.dat tQ3 eo100001_0),(.mp 18 0)])))])) a.1.2.2.1 a.2.1 a.2.2.1 a.2.2.2.2.1.1 }
@[reducible] def g77xS:XSh:={ sa:=[.a (.ref 100001 0 []),.a (.d (.arr 6 tIt))],so:=[.gone,.box (.st [some tQ3,none]) (.agg [.d tQ3,.junk])],rs:=[],many:=true,os:=[(0,.gone),(0,.box (.st [some tQ3,none]) (.agg [.d tQ3,.d (.map (.arr 6 tIt) tIt)]))],xs:=[] }
def g77x (N:Nat) (a1:List (Int)) (p1_0:LMt×(LMt×(Unit))):Option (g77xS).R :=
 g77xL122 N (fun e14 e15 e16=>g77xL126 N (fun e22 e23 e24=>some ((()),((),(e24,e23,()),()),(()))) true e14 e15 e16) 0 [a1] (q0S (Ty.beq (.arr 6 tIt)) a1 1000 ([]:List (LIt×(Int)))) p1_0
def g77xTl (N:Nat):List (Nat×Told):=[(122,g77xL122T N),(7826,g77xL7826T N),(2003558,z3M N),(126,g77xL126T N),(8086,g77xL8086T N)]
def g77xAn (N:Nat):Ann:=mkAn N [(122,([0,4,5],[16,18,100000,100001]),([0,4],[16,18,100000,100001])),(7826,([0,4,5,33,34],[16,18,100000,100001]),([0,4,5],[16,18,100000,100001])),(2003558,([0,4,5,6,33,34,37],[16,18,100000,100001]),([0,4,5,33,34],[16,18,100000,100001])),(126,([0,4,11],[16,18,100000,100001]),([],[16,18,100000,100001])),(8086,([0,4,11,79,80,81],[16,18,100000,100001]),([0,4,11],[16,18,100000,100001]))] [] (g77xTl N) [] [] 103
theorem g77xL122_ok (N:Nat):q0P (((G102x N).q0F [16,74]).q0T [87]) (g77xAn N) (bdy Tryd.f77) 122 (g77xL122T N):=⟨⟨loopBody (q0G (bdy Tryd.f77) 64 122),by kernel_rfl,fun K' rec a=>by kernel_rfl⟩,fun a=>by kernel_rfl⟩
theorem g77xL7826_ok (N:Nat):q0P (((G102x N).q0F [16,74]).q0T [87]) (g77xAn N) (bdy Tryd.f77) 7826 (g77xL7826T N):=⟨⟨loopBody (q0G (bdy Tryd.f77) 64 7826),by kernel_rfl,fun K' rec a=>by kernel_rfl⟩,fun a=>by kernel_rfl⟩
theorem g77xL2003558_ok (N:Nat):q0P (((G102x N).q0F [16,74]).q0T [87]) (g77xAn N) (bdy Tryd.f77) 2003558 (z3M N):=⟨⟨loopBody (q0G (bdy Tryd.f77) 64 2003558),by kernel_rfl,fun K' rec a=>by kernel_rfl⟩,fun a=>by kernel_rfl⟩
theorem g77xL126_ok (N:Nat):q0P (((G102x N).q0F [16,74]).q0T [87]) (g77xAn N) (bdy Tryd.f77) 126 (g77xL126T N):=⟨⟨loopBody (q0G (bdy Tryd.f77) 64 126),by kernel_rfl,fun K' rec a=>by kernel_rfl⟩,fun a=>by kernel_rfl⟩
theorem g77xL8086_ok (N:Nat):q0P (((G102x N).q0F [16,74]).q0T [87]) (g77xAn N) (bdy Tryd.f77) 8086 (g77xL8086T N):=⟨⟨loopBody (q0G (bdy Tryd.f77) 64 8086),by kernel_rfl,fun K' rec a=>by kernel_rfl⟩,fun a=>by kernel_rfl⟩
def G77x (N:Nat):Cfg:=(G102x N).addX 77 (q4N.of (g77xS) (fun a=>g77x N a.1.2.1 a.2.2.1.1))
theorem G77x_ok (N:Nat):q0A Tryd.prog (G77x N):=z7B (g77xS) (fun a=>g77x N a.1.2.1 a.2.2.1.1) [16,74] [87] [] (g77xAn N) (G102x_ok N) Tryd.func77 (by kernel_rfl) (by kernel_rfl) (lokT (q0R (g77xTl N) rfl rfl ⟨g77xL122_ok N,g77xL7826_ok N,g77xL2003558_ok N,g77xL126_ok N,g77xL8086_ok N,trivial⟩)) (.inr rfl) (fun h=>by first | rfl | cases h) fun a=>by kernel_rfl
def GV1 (N:Nat):Cfg:=(G77x N).retab tab0 ks
theorem GV1_ok (N:Nat):q0A Tryd.prog (GV1 N):=z8M tab0_ok ks0_ok (G77x_ok N)
def g103v0 (N:Nat) (a0:Int):Option TQ6 :=
 some (true,a0,0,([]:List TQ9),())
def g103v0An (N:Nat):Ann:=mkAn N [] [] [] [] [] 5
def G103v0 (N:Nat):Cfg:=(GV1 N).add 103 (Spec.one [.d tIt] tQ8 (fun a=>g103v0 N a.1))
theorem G103v0_ok (N:Nat):q0A Tryd.prog (G103v0 N):=add_one [.d tIt] tQ8 (fun a=>g103v0 N a.1) [] [] (g103v0An N) (GV1_ok N) Tryd.func103 (by kernel_rfl) (by kernel_rfl) lokE (.inr rfl) fun a=>by kernel_rfl
def g120 (N:Nat) (a0:Int):Option (Int) :=
 bif (ieq a0 0) then some 64 else if idx (Int.fdiv (IntKind.wrap .u64 ((iand .u64 a0 (IntKind.wrap .u64 (ineg a0))) * 285870213051353865)) (2 ^ 58)) 64 then some (IntKind.wrap .i64 (List.getD tab64b (Int.toNat (Int.fdiv (IntKind.wrap .u64 ((iand .u64 a0 (IntKind.wrap .u64 (ineg a0))) * 285870213051353865)) (2 ^ 58))) 0)) else none
def g120An (N:Nat):Ann:=mkAn N [] [] [] [] [] 14
def G120 (N:Nat):Cfg:=(G103v0 N).add 120 (Spec.one [.d (.int .u64)] tIt (fun a=>g120 N a.1))
theorem G120_ok (N:Nat):q0A Tryd.prog (G120 N):=add_one [.d (.int .u64)] tIt (fun a=>g120 N a.1) [] [] (g120An N) (G103v0_ok N) Tryd.func120 (by kernel_rfl) (by kernel_rfl) lokE (.inr rfl) fun a=>by kernel_rfl
def g104 (N:Nat) (a0:Int):Option (Int) :=
 Option.bind (g120 N a0) fun r1=>some r1
def g104An (N:Nat):Ann:=mkAn N [] [] [] [] [] 8
def G104 (N:Nat):Cfg:=(G120 N).add 104 (Spec.one [.d (.int .u64)] tIt (fun a=>g104 N a.1))
theorem G104_ok (N:Nat):q0A Tryd.prog (G104 N):=add_one [.d (.int .u64)] tIt (fun a=>g104 N a.1) [] [] (g104An N) (G120_ok N) Tryd.func104 (by kernel_rfl) (by kernel_rfl) lokE (.inr rfl) fun a=>by kernel_rfl
def g105L58B (N:Nat) {C:Type} (rec:(TQ5×(TQ12×(Unit)))→Int→Int→Int→LIt→Option C) (k0:Int→LIt→Option C) (t0:TQ5×(TQ12×(Unit))) (t2 t7 t10:Int) (o4:List (Int)):Option C :=
 bif (decide ((t10:Int) < 4)) then Option.bind (g100 N t0.1 o4 t2 t10) fun r1=>Option.bind (g101 N r1) fun r2=>bif (!ieq r2 0) then (rec t0 t2 (imax t7 (Option.getD (q0C (Ty.beq (.arr 6 tIt)) r1 t0.2.1) 0)) (IntKind.wrap .i64 (t10 + 1)) o4) else (rec t0 t2 t7 (IntKind.wrap .i64 (t10 + 1)) o4) else (k0 t7 o4)
abbrev g105L58V:List Sh1:=[.a (.p tQ21),.a (.d tIt),.a (.ref 4 0 []),.a (.d tIt),.a (.d tIt)]
abbrev g105L58O:List OSh:=[.box (.d (.arr 6 tIt)) (.a (.d (.arr 6 tIt)))]
def g105L58 (N:Nat) {C:Type} (k0:Int→LIt→Option C) (t0:TQ5×(TQ12×(Unit))) (t2 t7 t10:Int) (o4:List (Int)):Option C :=
 itP (α:=q0I g105L58V×q0E g105L58O) (fun rec a=>g105L58B N (fun t0 t2 t7 t10 o4=>rec ((t0,t2,(),t7,t10,()),(o4,()))) k0 a.1.1 a.1.2.1 a.1.2.2.2.1 a.1.2.2.2.2.1 a.2.1) N ((t0,t2,(),t7,t10,()),(o4,()))
def g105L58T (N:Nat):Told:={ nt:=36,sv:=g105L58V,so:=g105L58O,run:=fun K' rec a=>g105L58B N (fun t0 t2 t7 t10 o4=>rec ((t0,t2,(),t7,t10,()),(o4,()))) (fun et7 eo4=>K' (.exit 0) (build 36 [7] [4] [(.dat tIt et7)] [(some (.box (.d (.arr 6 tIt)) (.dat (.arr 6 tIt) eo4)))])) a.1.1 a.1.2.1 a.1.2.2.2.1 a.1.2.2.2.2.1 a.2.1 }
def g105 (N:Nat) (a0:TQ5×(TQ12×(Unit))) (a1:List (Int)) (a2:Int):Option (Int) :=
 g105L58 N (fun e3 e4=>some (imin 1000 (IntKind.wrap .i64 (e3 + 1)))) a0 a2 0 0 a1
def g105Tl (N:Nat):List (Nat×Told):=[(58,g105L58T N)]
def g105An (N:Nat):Ann:=mkAn N [(58,([0,2,4,7,10],[4]),([7],[4]))] [] (g105Tl N) [] [] 36
theorem g105L58_ok (N:Nat):q0P (((G104 N).q0F []).q0T []) (g105An N) (bdy Tryd.f105) 58 (g105L58T N):=⟨⟨loopBody (q0G (bdy Tryd.f105) 64 58),by kernel_rfl,fun K' rec a=>by kernel_rfl⟩,fun a=>by kernel_rfl⟩
def G105 (N:Nat):Cfg:=(G104 N).add 105 (Spec.one [.p tQ21,.d (.arr 6 tIt),.d tIt] tIt (fun a=>g105 N a.1 a.2.1 a.2.2.1))
theorem G105_ok (N:Nat):q0A Tryd.prog (G105 N):=add_one [.p tQ21,.d (.arr 6 tIt),.d tIt] tIt (fun a=>g105 N a.1 a.2.1 a.2.2.1) [] [] (g105An N) (G104_ok N) Tryd.func105 (by kernel_rfl) (by kernel_rfl) (lokT (q0R (g105Tl N) rfl rfl ⟨g105L58_ok N,trivial⟩)) (.inr rfl) fun a=>by kernel_rfl
def z1D (N:Nat) {C:Type} (rec:(TQ5×(TQ12×(Unit)))→Int→Int→LIt→Bool→Int→Int→Bool→Int→Int→(List TQ9)→(List TQ9)→Option C) (k0:LIt→Bool→Int→Int→Bool→Int→Int→(List TQ9)→(List TQ9)→Option C) (t0:TQ5×(TQ12×(Unit))) (t7 t45:Int) (o3:List (Int)) (o4_0:Bool) (o4_1 o4_2:Int) (o6_0:Bool) (o6_1 o6_2:Int) (o1259:List TQ9) (o1387:List TQ9):Option C :=
 bif (decide ((t45:Int) < 4)) then Option.bind (g100 N t0.1 o3 t7 t45) fun r7=>none else (k0 o3 o4_0 o4_1 o4_2 o6_0 o6_1 o6_2 o1259 o1387)
abbrev z1I:List Sh1:=[.a (.p tQ21),.a (.ref 3 0 []),.a (.ref 4 0 []),.a (.ref 6 0 []),.a (.d tIt),.a (.d tIt)]
abbrev z1K:List OSh:=[.box (.d (.arr 6 tIt)) (.a (.d (.arr 6 tIt))),.box (.d tQ8) (.agg [.d .bool,.d tIt,.d tIt,.sl tQ15 1259 0]),.box (.d tQ8) (.agg [.d .bool,.d tIt,.d tIt,.sl tQ15 1387 0]),.vec tQ15,.vec tQ15]
def g78v0L1823546 (N:Nat) {C:Type} (k0:LIt→Bool→Int→Int→Bool→Int→Int→(List TQ9)→(List TQ9)→Option C) (t0:TQ5×(TQ12×(Unit))) (t7 t45:Int) (o3:List (Int)) (o4_0:Bool) (o4_1 o4_2:Int) (o6_0:Bool) (o6_1 o6_2:Int) (o1259:List TQ9) (o1387:List TQ9):Option C :=
 itP (α:=q0I z1I×q0E z1K) (fun rec a=>z1D N (fun t0 t7 t45 o3 o4_0 o4_1 o4_2 o6_0 o6_1 o6_2 o1259 o1387=>rec ((t0,(),(),(),t7,t45,()),(o3,(o4_0,o4_1,o4_2,(),()),(o6_0,o6_1,o6_2,(),()),o1259,o1387,()))) k0 a.1.1 a.1.2.2.2.2.1 a.1.2.2.2.2.2.1 a.2.1 a.2.2.1.1 a.2.2.1.2.1 a.2.2.1.2.2.1 a.2.2.2.1.1 a.2.2.2.1.2.1 a.2.2.2.1.2.2.1 a.2.2.2.2.1 a.2.2.2.2.2.1) N ((t0,(),(),(),t7,t45,()),(o3,(o4_0,o4_1,o4_2,(),()),(o6_0,o6_1,o6_2,(),()),o1259,o1387,()))
def z1F (N:Nat):Told:={ nt:=66,sv:=z1I,so:=z1K,run:=fun K' rec a=>z1D N (fun t0 t7 t45 o3 o4_0 o4_1 o4_2 o6_0 o6_1 o6_2 o1259 o1387=>rec ((t0,(),(),(),t7,t45,()),(o3,(o4_0,o4_1,o4_2,(),()),(o6_0,o6_1,o6_2,(),()),o1259,o1387,()))) (fun eo3 eo4_0 eo4_1 eo4_2 eo6_0 eo6_1 eo6_2 eo1259 eo1387=>K' (.exit 2) (build 66 [4,6] [3,4,6,1259,1387] [(.ref 4 0 []),(.ref 6 0 [])] [(some (.box (.d (.arr 6 tIt)) (.dat (.arr 6 tIt) eo3))),(some (.box (.d tQ8) (.agg [(.dat .bool eo4_0),(.dat tIt eo4_1),(.dat tIt eo4_2),(.sl tQ15 1259 0)]))),(some (.box (.d tQ8) (.agg [(.dat .bool eo6_0),(.dat tIt eo6_1),(.dat tIt eo6_2),(.sl tQ15 1387 0)]))),(some (.vec tQ15 eo1259)),(some (.vec tQ15 eo1387))])) a.1.1 a.1.2.2.2.2.1 a.1.2.2.2.2.2.1 a.2.1 a.2.2.1.1 a.2.2.1.2.1 a.2.2.1.2.2.1 a.2.2.2.1.1 a.2.2.2.1.2.1 a.2.2.2.1.2.2.1 a.2.2.2.2.1 a.2.2.2.2.2.1 }
def g78v0L890B (N:Nat) {C:Type} (rec:(TQ5×(TQ12×(Unit)))→Int→Int→LIt→Bool→Int→Int→Bool→Int→Int→(List TQ9)→(List TQ9)→Option C) (k0:LIt→Bool→Int→Int→Bool→Int→Int→(List TQ9)→(List TQ9)→Option C) (t0:TQ5×(TQ12×(Unit))) (t28 t29:Int) (o3:List (Int)) (o4_0:Bool) (o4_1 o4_2:Int) (o6_0:Bool) (o6_1 o6_2:Int) (o1259:List TQ9) (o1387:List TQ9):Option C :=
 bif (decide ((t29:Int) < t28)) then Option.bind (g105 N t0 o3 t29) fun r6=>bif (decide (((Option.getD (q0C (Ty.beq (.arr 6 tIt)) o3 t0.2.1) 0):Int) < r6)) then (rec t0 t28 (IntKind.wrap .i64 (t29 + 1)) o3 o4_0 o4_1 o4_2 o6_0 o6_1 o6_2 o1259 o1387) else g78v0L1823546 N (fun e8 e9 e10 e11 e12 e13 e14 e15 e16=>(k0 e8 e9 e10 e11 e12 e13 e14 e15 e16)) t0 t29 0 o3 o4_0 o4_1 o4_2 o6_0 o6_1 t29 o1259 o1387 else (k0 o3 o4_0 o4_1 o4_2 o6_0 o6_1 o6_2 o1259 o1387)
abbrev g78v0L890V:List Sh1:=[.a (.p tQ21),.a (.ref 3 0 []),.a (.ref 4 0 []),.a (.ref 6 0 []),.a (.d tIt),.a (.d tIt)]
abbrev g78v0L890O:List OSh:=[.box (.d (.arr 6 tIt)) (.a (.d (.arr 6 tIt))),.box (.d tQ8) (.agg [.d .bool,.d tIt,.d tIt,.sl tQ15 1259 0]),.box (.d tQ8) (.agg [.d .bool,.d tIt,.d tIt,.sl tQ15 1387 0]),.vec tQ15,.vec tQ15]
def g78v0L890 (N:Nat) {C:Type} (k0:LIt→Bool→Int→Int→Bool→Int→Int→(List TQ9)→(List TQ9)→Option C) (t0:TQ5×(TQ12×(Unit))) (t28 t29:Int) (o3:List (Int)) (o4_0:Bool) (o4_1 o4_2:Int) (o6_0:Bool) (o6_1 o6_2:Int) (o1259:List TQ9) (o1387:List TQ9):Option C :=
 itP (α:=q0I g78v0L890V×q0E g78v0L890O) (fun rec a=>g78v0L890B N (fun t0 t28 t29 o3 o4_0 o4_1 o4_2 o6_0 o6_1 o6_2 o1259 o1387=>rec ((t0,(),(),(),t28,t29,()),(o3,(o4_0,o4_1,o4_2,(),()),(o6_0,o6_1,o6_2,(),()),o1259,o1387,()))) k0 a.1.1 a.1.2.2.2.2.1 a.1.2.2.2.2.2.1 a.2.1 a.2.2.1.1 a.2.2.1.2.1 a.2.2.1.2.2.1 a.2.2.2.1.1 a.2.2.2.1.2.1 a.2.2.2.1.2.2.1 a.2.2.2.2.1 a.2.2.2.2.2.1) N ((t0,(),(),(),t28,t29,()),(o3,(o4_0,o4_1,o4_2,(),()),(o6_0,o6_1,o6_2,(),()),o1259,o1387,()))
def g78v0L890T (N:Nat):Told:={ nt:=66,sv:=g78v0L890V,so:=g78v0L890O,run:=fun K' rec a=>g78v0L890B N (fun t0 t28 t29 o3 o4_0 o4_1 o4_2 o6_0 o6_1 o6_2 o1259 o1387=>rec ((t0,(),(),(),t28,t29,()),(o3,(o4_0,o4_1,o4_2,(),()),(o6_0,o6_1,o6_2,(),()),o1259,o1387,()))) (fun eo3 eo4_0 eo4_1 eo4_2 eo6_0 eo6_1 eo6_2 eo1259 eo1387=>K' (.exit 0) (build 66 [4,6] [3,4,6,1259,1387] [(.ref 4 0 []),(.ref 6 0 [])] [(some (.box (.d (.arr 6 tIt)) (.dat (.arr 6 tIt) eo3))),(some (.box (.d tQ8) (.agg [(.dat .bool eo4_0),(.dat tIt eo4_1),(.dat tIt eo4_2),(.sl tQ15 1259 0)]))),(some (.box (.d tQ8) (.agg [(.dat .bool eo6_0),(.dat tIt eo6_1),(.dat tIt eo6_2),(.sl tQ15 1387 0)]))),(some (.vec tQ15 eo1259)),(some (.vec tQ15 eo1387))])) a.1.1 a.1.2.2.2.2.1 a.1.2.2.2.2.2.1 a.2.1 a.2.2.1.1 a.2.2.1.2.1 a.2.2.1.2.2.1 a.2.2.2.1.1 a.2.2.2.1.2.1 a.2.2.2.1.2.2.1 a.2.2.2.2.1 a.2.2.2.2.2.1 }
def g78v0 (N:Nat) (a0:TQ5×(TQ12×(Unit))) (a1:List (Int)):Option TQ6 :=
 Option.bind (g101 N a1) fun r1=>bif (ieq (iand .i64 r1 (IntKind.wrap .i64 (r1 - 1))) 0) then bif (ieq r1 0) then Option.bind (g103v0 N 0) fun r2=>some r2 else Option.bind (g104 N (IntKind.wrap .u64 r1)) fun r3=>Option.bind (g103v0 N r3) fun r4=>some r4 else Option.bind (g85 N a0.1) fun r5=>g78v0L890 N (fun e17 e18 e19 e20 e21 e22 e23 e24 e25=>some (e21,e22,e23,e25,())) a0 r5 0 a1 false 0 0 false 0 0 ([]:List TQ9) ([]:List TQ9)
def g78v0Tl (N:Nat):List (Nat×Told):=[(890,g78v0L890T N),(1823546,z1F N)]
def g78v0An (N:Nat):Ann:=mkAn N [(890,([0,3,4,6,28,29],[3,4,6,1259,1387]),([4,6],[3,4,6,1259,1387])),(1823546,([0,3,4,6,7,45],[3,4,6,1259,1387]),([4,6],[3,4,6,1259,1387]))] [] (g78v0Tl N) [] [] 66
theorem g78v0L890_ok (N:Nat):q0P (((G105 N).q0F []).q0T []) (g78v0An N) (bdy Tryd.f78) 890 (g78v0L890T N):=⟨⟨loopBody (q0G (bdy Tryd.f78) 64 890),by kernel_rfl,fun K' rec a=>by kernel_rfl⟩,fun a=>by kernel_rfl⟩
theorem z8C (N:Nat):q0P (((G105 N).q0F []).q0T []) (g78v0An N) (bdy Tryd.f78) 1823546 (z1F N):=⟨⟨loopBody (q0G (bdy Tryd.f78) 64 1823546),by kernel_rfl,fun K' rec a=>by kernel_rfl⟩,fun a=>by kernel_rfl⟩
def G78v0 (N:Nat):Cfg:=(G105 N).add 78 (Spec.one [.p tQ21,.d (.arr 6 tIt)] tQ8 (fun a=>g78v0 N a.1 a.2.1))
theorem G78v0_ok (N:Nat):q0A Tryd.prog (G78v0 N):=add_one [.p tQ21,.d (.arr 6 tIt)] tQ8 (fun a=>g78v0 N a.1 a.2.1) [] [] (g78v0An N) (G105_ok N) Tryd.func78 (by kernel_rfl) (by kernel_rfl) (lokT (q0R (g78v0Tl N) rfl rfl ⟨g78v0L890_ok N,z8C N,trivial⟩)) (.inr rfl) fun a=>by kernel_rfl
def GV2 (N:Nat):Cfg:=(G78v0 N).retab tab1 ks
theorem GV2_ok (N:Nat):q0A Tryd.prog (GV2 N):=z8M tab1_ok ks1_ok (G78v0_ok N)
def g103v1 (N:Nat) (a0:Int):Option ((Bool)×((Int)×((Int)×((List TQ6)×(Unit))))) :=
 some (true,a0,0,([]:List TQ6),())
def g103v1An (N:Nat):Ann:=mkAn N [] [] [] [] [] 5
def G103v1 (N:Nat):Cfg:=(GV2 N).add 103 (Spec.one [.d tIt] tQ14 (fun a=>g103v1 N a.1))
theorem G103v1_ok (N:Nat):q0A Tryd.prog (G103v1 N):=add_one [.d tIt] tQ14 (fun a=>g103v1 N a.1) [] [] (g103v1An N) (GV2_ok N) Tryd.func103 (by kernel_rfl) (by kernel_rfl) lokE (.inr rfl) fun a=>by kernel_rfl
def z1J (N:Nat) {C:Type} (rec:(TQ5×(TQ12×(Unit)))→Int→Int→LIt→Bool→Int→Int→Bool→Int→Int→(List TQ6)→(List TQ6)→Option C) (k0:LIt→Bool→Int→Int→Bool→Int→Int→(List TQ6)→(List TQ6)→Option C) (t0:TQ5×(TQ12×(Unit))) (t7 t45:Int) (o3:List (Int)) (o4_0:Bool) (o4_1 o4_2:Int) (o6_0:Bool) (o6_1 o6_2:Int) (o1259:List TQ6) (o1387:List TQ6):Option C :=
 bif (decide ((t45:Int) < 4)) then Option.bind (g100 N t0.1 o3 t7 t45) fun r7=>Option.bind (g78v0 N t0 r7) fun r8=>if List.length o1387 + List.length [r8] ≤ maxCount then (rec t0 t7 (IntKind.wrap .i64 (t45 + 1)) o3 o4_0 o4_1 o4_2 o6_0 o6_1 o6_2 o1259 (o1387 ++ [r8])) else none else (k0 o3 o4_0 o4_1 o4_2 o6_0 o6_1 o6_2 o1259 o1387)
abbrev z1E:List Sh1:=[.a (.p tQ21),.a (.ref 3 0 []),.a (.ref 4 0 []),.a (.ref 6 0 []),.a (.d tIt),.a (.d tIt)]
abbrev z1H:List OSh:=[.box (.d (.arr 6 tIt)) (.a (.d (.arr 6 tIt))),.box (.d tQ14) (.agg [.d .bool,.d tIt,.d tIt,.sl tQ8 1259 0]),.box (.d tQ14) (.agg [.d .bool,.d tIt,.d tIt,.sl tQ8 1387 0]),.vec tQ8,.vec tQ8]
def g78v1L1823546 (N:Nat) {C:Type} (k0:LIt→Bool→Int→Int→Bool→Int→Int→(List TQ6)→(List TQ6)→Option C) (t0:TQ5×(TQ12×(Unit))) (t7 t45:Int) (o3:List (Int)) (o4_0:Bool) (o4_1 o4_2:Int) (o6_0:Bool) (o6_1 o6_2:Int) (o1259:List TQ6) (o1387:List TQ6):Option C :=
 itP (α:=q0I z1E×q0E z1H) (fun rec a=>z1J N (fun t0 t7 t45 o3 o4_0 o4_1 o4_2 o6_0 o6_1 o6_2 o1259 o1387=>rec ((t0,(),(),(),t7,t45,()),(o3,(o4_0,o4_1,o4_2,(),()),(o6_0,o6_1,o6_2,(),()),o1259,o1387,()))) k0 a.1.1 a.1.2.2.2.2.1 a.1.2.2.2.2.2.1 a.2.1 a.2.2.1.1 a.2.2.1.2.1 a.2.2.1.2.2.1 a.2.2.2.1.1 a.2.2.2.1.2.1 a.2.2.2.1.2.2.1 a.2.2.2.2.1 a.2.2.2.2.2.1) N ((t0,(),(),(),t7,t45,()),(o3,(o4_0,o4_1,o4_2,(),()),(o6_0,o6_1,o6_2,(),()),o1259,o1387,()))
def z1N (N:Nat):Told:={ nt:=66,sv:=z1E,so:=z1H,run:=fun K' rec a=>z1J N (fun t0 t7 t45 o3 o4_0 o4_1 o4_2 o6_0 o6_1 o6_2 o1259 o1387=>rec ((t0,(),(),(),t7,t45,()),(o3,(o4_0,o4_1,o4_2,(),()),(o6_0,o6_1,o6_2,(),()),o1259,o1387,()))) (fun eo3 eo4_0 eo4_1 eo4_2 eo6_0 eo6_1 eo6_2 eo1259 eo1387=>K' (.exit 2) (build 66 [4,6] [3,4,6,1259,1387] [(.ref 4 0 []),(.ref 6 0 [])] [(some (.box (.d (.arr 6 tIt)) (.dat (.arr 6 tIt) eo3))),(some (.box (.d tQ14) (.agg [(.dat .bool eo4_0),(.dat tIt eo4_1),(.dat tIt eo4_2),(.sl tQ8 1259 0)]))),(some (.box (.d tQ14) (.agg [(.dat .bool eo6_0),(.dat tIt eo6_1),(.dat tIt eo6_2),(.sl tQ8 1387 0)]))),(some (.vec tQ8 eo1259)),(some (.vec tQ8 eo1387))])) a.1.1 a.1.2.2.2.2.1 a.1.2.2.2.2.2.1 a.2.1 a.2.2.1.1 a.2.2.1.2.1 a.2.2.1.2.2.1 a.2.2.2.1.1 a.2.2.2.1.2.1 a.2.2.2.1.2.2.1 a.2.2.2.2.1 a.2.2.2.2.2.1 }
def g78v1L890B (N:Nat) {C:Type} (rec:(TQ5×(TQ12×(Unit)))→Int→Int→LIt→Bool→Int→Int→Bool→Int→Int→(List TQ6)→(List TQ6)→Option C) (k0:LIt→Bool→Int→Int→Bool→Int→Int→(List TQ6)→(List TQ6)→Option C) (t0:TQ5×(TQ12×(Unit))) (t28 t29:Int) (o3:List (Int)) (o4_0:Bool) (o4_1 o4_2:Int) (o6_0:Bool) (o6_1 o6_2:Int) (o1259:List TQ6) (o1387:List TQ6):Option C :=
 bif (decide ((t29:Int) < t28)) then Option.bind (g105 N t0 o3 t29) fun r6=>bif (decide (((Option.getD (q0C (Ty.beq (.arr 6 tIt)) o3 t0.2.1) 0):Int) < r6)) then (rec t0 t28 (IntKind.wrap .i64 (t29 + 1)) o3 o4_0 o4_1 o4_2 o6_0 o6_1 o6_2 o1259 o1387) else g78v1L1823546 N (fun e9 e10 e11 e12 e13 e14 e15 e16 e17=>(k0 e9 e10 e11 e12 e13 e14 e15 e16 e17)) t0 t29 0 o3 o4_0 o4_1 o4_2 o6_0 o6_1 t29 o1259 o1387 else (k0 o3 o4_0 o4_1 o4_2 o6_0 o6_1 o6_2 o1259 o1387)
abbrev g78v1L890V:List Sh1:=[.a (.p tQ21),.a (.ref 3 0 []),.a (.ref 4 0 []),.a (.ref 6 0 []),.a (.d tIt),.a (.d tIt)]
abbrev g78v1L890O:List OSh:=[.box (.d (.arr 6 tIt)) (.a (.d (.arr 6 tIt))),.box (.d tQ14) (.agg [.d .bool,.d tIt,.d tIt,.sl tQ8 1259 0]),.box (.d tQ14) (.agg [.d .bool,.d tIt,.d tIt,.sl tQ8 1387 0]),.vec tQ8,.vec tQ8]
def g78v1L890 (N:Nat) {C:Type} (k0:LIt→Bool→Int→Int→Bool→Int→Int→(List TQ6)→(List TQ6)→Option C) (t0:TQ5×(TQ12×(Unit))) (t28 t29:Int) (o3:List (Int)) (o4_0:Bool) (o4_1 o4_2:Int) (o6_0:Bool) (o6_1 o6_2:Int) (o1259:List TQ6) (o1387:List TQ6):Option C :=
 itP (α:=q0I g78v1L890V×q0E g78v1L890O) (fun rec a=>g78v1L890B N (fun t0 t28 t29 o3 o4_0 o4_1 o4_2 o6_0 o6_1 o6_2 o1259 o1387=>rec ((t0,(),(),(),t28,t29,()),(o3,(o4_0,o4_1,o4_2,(),()),(o6_0,o6_1,o6_2,(),()),o1259,o1387,()))) k0 a.1.1 a.1.2.2.2.2.1 a.1.2.2.2.2.2.1 a.2.1 a.2.2.1.1 a.2.2.1.2.1 a.2.2.1.2.2.1 a.2.2.2.1.1 a.2.2.2.1.2.1 a.2.2.2.1.2.2.1 a.2.2.2.2.1 a.2.2.2.2.2.1) N ((t0,(),(),(),t28,t29,()),(o3,(o4_0,o4_1,o4_2,(),()),(o6_0,o6_1,o6_2,(),()),o1259,o1387,()))
def g78v1L890T (N:Nat):Told:={ nt:=66,sv:=g78v1L890V,so:=g78v1L890O,run:=fun K' rec a=>g78v1L890B N (fun t0 t28 t29 o3 o4_0 o4_1 o4_2 o6_0 o6_1 o6_2 o1259 o1387=>rec ((t0,(),(),(),t28,t29,()),(o3,(o4_0,o4_1,o4_2,(),()),(o6_0,o6_1,o6_2,(),()),o1259,o1387,()))) (fun eo3 eo4_0 eo4_1 eo4_2 eo6_0 eo6_1 eo6_2 eo1259 eo1387=>K' (.exit 0) (build 66 [4,6] [3,4,6,1259,1387] [(.ref 4 0 []),(.ref 6 0 [])] [(some (.box (.d (.arr 6 tIt)) (.dat (.arr 6 tIt) eo3))),(some (.box (.d tQ14) (.agg [(.dat .bool eo4_0),(.dat tIt eo4_1),(.dat tIt eo4_2),(.sl tQ8 1259 0)]))),(some (.box (.d tQ14) (.agg [(.dat .bool eo6_0),(.dat tIt eo6_1),(.dat tIt eo6_2),(.sl tQ8 1387 0)]))),(some (.vec tQ8 eo1259)),(some (.vec tQ8 eo1387))])) a.1.1 a.1.2.2.2.2.1 a.1.2.2.2.2.2.1 a.2.1 a.2.2.1.1 a.2.2.1.2.1 a.2.2.1.2.2.1 a.2.2.2.1.1 a.2.2.2.1.2.1 a.2.2.2.1.2.2.1 a.2.2.2.2.1 a.2.2.2.2.2.1 }
def g78v1 (N:Nat) (a0:TQ5×(TQ12×(Unit))) (a1:List (Int)):Option ((Bool)×((Int)×((Int)×((List TQ6)×(Unit))))) :=
 Option.bind (g101 N a1) fun r1=>bif (ieq (iand .i64 r1 (IntKind.wrap .i64 (r1 - 1))) 0) then bif (ieq r1 0) then Option.bind (g103v1 N 0) fun r2=>some r2 else Option.bind (g104 N (IntKind.wrap .u64 r1)) fun r3=>Option.bind (g103v1 N r3) fun r4=>some r4 else Option.bind (g85 N a0.1) fun r5=>g78v1L890 N (fun e18 e19 e20 e21 e22 e23 e24 e25 e26=>some (e22,e23,e24,e26,())) a0 r5 0 a1 false 0 0 false 0 0 ([]:List TQ6) ([]:List TQ6)
def g78v1Tl (N:Nat):List (Nat×Told):=[(890,g78v1L890T N),(1823546,z1N N)]
def g78v1An (N:Nat):Ann:=mkAn N [(890,([0,3,4,6,28,29],[3,4,6,1259,1387]),([4,6],[3,4,6,1259,1387])),(1823546,([0,3,4,6,7,45],[3,4,6,1259,1387]),([4,6],[3,4,6,1259,1387]))] [] (g78v1Tl N) [] [] 66
theorem g78v1L890_ok (N:Nat):q0P (((G103v1 N).q0F []).q0T []) (g78v1An N) (bdy Tryd.f78) 890 (g78v1L890T N):=⟨⟨loopBody (q0G (bdy Tryd.f78) 64 890),by kernel_rfl,fun K' rec a=>by kernel_rfl⟩,fun a=>by kernel_rfl⟩
theorem z8E (N:Nat):q0P (((G103v1 N).q0F []).q0T []) (g78v1An N) (bdy Tryd.f78) 1823546 (z1N N):=⟨⟨loopBody (q0G (bdy Tryd.f78) 64 1823546),by kernel_rfl,fun K' rec a=>by kernel_rfl⟩,fun a=>by kernel_rfl⟩
def G78v1 (N:Nat):Cfg:=(G103v1 N).add 78 (Spec.one [.p tQ21,.d (.arr 6 tIt)] tQ14 (fun a=>g78v1 N a.1 a.2.1))
theorem G78v1_ok (N:Nat):q0A Tryd.prog (G78v1 N):=add_one [.p tQ21,.d (.arr 6 tIt)] tQ14 (fun a=>g78v1 N a.1 a.2.1) [] [] (g78v1An N) (G103v1_ok N) Tryd.func78 (by kernel_rfl) (by kernel_rfl) (lokT (q0R (g78v1Tl N) rfl rfl ⟨g78v1L890_ok N,z8E N,trivial⟩)) (.inr rfl) fun a=>by kernel_rfl
def g48v1 (N:Nat) (a0:LMt×(LMt×(Unit))):Option (((Bool)×((Int)×((Int)×((List TQ6)×(Unit)))))×((Bool)×TQ10)) :=
 Option.bind (g57 N a0) fun r1=>bif (!ieq r1 0) then some ((false,0,0,([]:List TQ6),()),false,r1,()) else Option.bind (g76 N a0) fun r2=>if (IntKind.wrap .u64 r2) < 0 then none else Option.bind (g75 N a0 (IntKind.wrap .i64 ((IntKind.wrap .i64 (1 * 2 ^ min (Int.toNat (IntKind.wrap .u64 r2)) 64)) - 1))) fun r3=>Option.bind (g77x N r3 a0) fun r4=>bif (ieq (Option.getD (q0C (Ty.beq (.arr 6 tIt)) r3 r4.2.1.2.1.2.1) 0) 1000) then some ((false,0,0,([]:List TQ6),()),false,0,()) else Option.bind (g78v1 N (r4.2.1.2.1.1,r4.2.1.2.1.2.1,()) r3) fun r5=>some (r5,true,0,())
def g48v1An (N:Nat):Ann:=mkAn N [] [(9,[16])] [] [] [] 38
def G48v1 (N:Nat):Cfg:=(G78v1 N).add 48 (Spec.many [.d tQ3] (.pair tQ14 (.pair .bool tQ13)) (fun a=>g48v1 N a.1))
theorem G48v1_ok (N:Nat):q0A Tryd.prog (G48v1 N):=q2J [.d tQ3] (.pair tQ14 (.pair .bool tQ13)) (fun a=>g48v1 N a.1) [] [26] (g48v1An N) (G78v1_ok N) Tryd.func48 (by kernel_rfl) (by kernel_rfl) lokE (.inr rfl) fun a=>by kernel_rfl
def GV3 (N:Nat):Cfg:=(G48v1 N).retab tab0 ks
theorem GV3_ok (N:Nat):q0A Tryd.prog (GV3 N):=z8M tab0_ok ks0_ok (G48v1_ok N)
def g80v0L250B (N:Nat) {C:Type} (rec:Int→Int→(List TQ9)→Int→Int→Option C) (k0:Int→Option C) (t1 t5:Int) (t48:List TQ9) (t49 t50:Int):Option C :=
 bif (decide ((t50:Int) < t49)) then if idx t50 (List.length t48) then none else none else (k0 t5)
abbrev g80v0L250V:List Sh1:=[.a (.d tIt),.a (.d tIt),.a (.d (.lst tQ15)),.a (.d tIt),.a (.d tIt)]
abbrev g80v0L250O:List OSh:=[]
def g80v0L250 (N:Nat) {C:Type} (k0:Int→Option C) (t1 t5:Int) (t48:List TQ9) (t49 t50:Int):Option C :=
 itP (α:=q0I g80v0L250V×q0E g80v0L250O) (fun rec a=>g80v0L250B N (fun t1 t5 t48 t49 t50=>rec ((t1,t5,t48,t49,t50,()),(()))) k0 a.1.1 a.1.2.1 a.1.2.2.1 a.1.2.2.2.1 a.1.2.2.2.2.1) N ((t1,t5,t48,t49,t50,()),(()))
def g80v0L250T (N:Nat):Told:={ nt:=66,sv:=g80v0L250V,so:=g80v0L250O,run:=fun K' rec a=>g80v0L250B N (fun t1 t5 t48 t49 t50=>rec ((t1,t5,t48,t49,t50,()),(()))) (fun et5=>K' (.exit 0) (build 66 [4,5] [] [.junk,(.dat tIt et5)] [])) a.1.1 a.1.2.1 a.1.2.2.1 a.1.2.2.2.1 a.1.2.2.2.2.1 }
def g80v0 (N:Nat) (a0:(Bool)×((Int)×((Int)×((List TQ9)×(Unit))))) (a1:Int):Option (Int) :=
 bif a0.1 then bif (!ieq a0.2.2.1 0) then some (-1) else bif (!ieq ((List.length a0.2.2.2.1:Nat):Int) 0) then some (-1) else Option.bind (g82 N 0 5 [a0.2.1]) fun r1=>bif (!r1) then some (-1) else some 0 else bif (ieq a1 0) then some (-1) else bif (!ieq a0.2.1 0) then some (-1) else Option.bind (g82 N 0 2 [a0.2.2.1]) fun r2=>bif (!r2) then some (-1) else bif (!ieq ((List.length a0.2.2.2.1:Nat):Int) 4) then some (-1) else g80v0L250 N (fun e3=>some (IntKind.wrap .i64 (e3 + 1))) a1 0 a0.2.2.2.1 ((List.length a0.2.2.2.1:Nat):Int) 0
def g80v0Tl (N:Nat):List (Nat×Told):=[(250,g80v0L250T N)]
def g80v0An (N:Nat):Ann:=mkAn N [(250,([1,5,48,49,50],[]),([4,5],[]))] [] (g80v0Tl N) [] [] 66
theorem g80v0L250_ok (N:Nat):q0P (((GV3 N).q0F [800007]).q0T []) (g80v0An N) (bdy Tryd.f80) 250 (g80v0L250T N):=⟨⟨loopBody (q0G (bdy Tryd.f80) 64 250),by kernel_rfl,fun K' rec a=>by kernel_rfl⟩,fun a=>by kernel_rfl⟩
def G80v0 (N:Nat):Cfg:=(GV3 N).add 80 (Spec.one [.d tQ8,.d tIt] tIt (fun a=>g80v0 N a.1 a.2.1))
theorem G80v0_ok (N:Nat):q0A Tryd.prog (G80v0 N):=add_one [.d tQ8,.d tIt] tIt (fun a=>g80v0 N a.1 a.2.1) [800007] [] (g80v0An N) (GV3_ok N) Tryd.func80 (by kernel_rfl) (by kernel_rfl) (lokT (q0R (g80v0Tl N) rfl rfl ⟨g80v0L250_ok N,trivial⟩)) (.inr rfl) fun a=>by kernel_rfl
def GV4 (N:Nat):Cfg:=(G80v0 N).retab tab1 ks
theorem GV4_ok (N:Nat):q0A Tryd.prog (GV4 N):=z8M tab1_ok ks1_ok (G80v0_ok N)
def g80v1L250B (N:Nat) {C:Type} (rec:Int→Int→(List TQ6)→Int→Int→Option C) (k0:Int→Int→Option C) (k1:Int→Option C) (t1 t5:Int) (t48:List TQ6) (t49 t50:Int):Option C :=
 bif (decide ((t50:Int) < t49)) then if idx t50 (List.length t48) then Option.bind (g80v0 N (List.getD t48 (Int.toNat t50) (false,0,0,([]:List TQ9),())) (IntKind.wrap .i64 (t1 - 1))) fun r3=>bif (decide ((r3:Int) < 0)) then (k0 (-1) t5) else (rec t1 (imax t5 r3) t48 t49 (IntKind.wrap .i64 (t50 + 1))) else none else (k1 t5)
abbrev g80v1L250V:List Sh1:=[.a (.d tIt),.a (.d tIt),.a (.d (.lst tQ8)),.a (.d tIt),.a (.d tIt)]
abbrev g80v1L250O:List OSh:=[]
def g80v1L250 (N:Nat) {C:Type} (k0:Int→Int→Option C) (k1:Int→Option C) (t1 t5:Int) (t48:List TQ6) (t49 t50:Int):Option C :=
 itP (α:=q0I g80v1L250V×q0E g80v1L250O) (fun rec a=>g80v1L250B N (fun t1 t5 t48 t49 t50=>rec ((t1,t5,t48,t49,t50,()),(()))) k0 k1 a.1.1 a.1.2.1 a.1.2.2.1 a.1.2.2.2.1 a.1.2.2.2.2.1) N ((t1,t5,t48,t49,t50,()),(()))
def g80v1L250T (N:Nat):Told:={ nt:=66,sv:=g80v1L250V,so:=g80v1L250O,run:=fun K' rec a=>g80v1L250B N (fun t1 t5 t48 t49 t50=>rec ((t1,t5,t48,t49,t50,()),(()))) (fun et4 et5=>K' .ret (build 66 [4,5] [] [(.dat tIt et4),(.dat tIt et5)] [])) (fun et5=>K' (.exit 0) (build 66 [4,5] [] [.junk,(.dat tIt et5)] [])) a.1.1 a.1.2.1 a.1.2.2.1 a.1.2.2.2.1 a.1.2.2.2.2.1 }
def g80v1 (N:Nat) (a0:(Bool)×((Int)×((Int)×((List TQ6)×(Unit))))) (a1:Int):Option (Int) :=
 bif a0.1 then bif (!ieq a0.2.2.1 0) then some (-1) else bif (!ieq ((List.length a0.2.2.2.1:Nat):Int) 0) then some (-1) else Option.bind (g82 N 0 5 [a0.2.1]) fun r1=>bif (!r1) then some (-1) else some 0 else bif (ieq a1 0) then some (-1) else bif (!ieq a0.2.1 0) then some (-1) else Option.bind (g82 N 0 2 [a0.2.2.1]) fun r2=>bif (!r2) then some (-1) else bif (!ieq ((List.length a0.2.2.2.1:Nat):Int) 4) then some (-1) else g80v1L250 N (fun e4 e5=>some e4) (fun e6=>some (IntKind.wrap .i64 (e6 + 1))) a1 0 a0.2.2.2.1 ((List.length a0.2.2.2.1:Nat):Int) 0
def g80v1Tl (N:Nat):List (Nat×Told):=[(250,g80v1L250T N)]
def g80v1An (N:Nat):Ann:=mkAn N [(250,([1,5,48,49,50],[]),([4,5],[]))] [] (g80v1Tl N) [] [] 66
theorem g80v1L250_ok (N:Nat):q0P (((GV4 N).q0F [800007]).q0T []) (g80v1An N) (bdy Tryd.f80) 250 (g80v1L250T N):=⟨⟨loopBody (q0G (bdy Tryd.f80) 64 250),by kernel_rfl,fun K' rec a=>by kernel_rfl⟩,fun a=>by kernel_rfl⟩
def G80v1 (N:Nat):Cfg:=(GV4 N).add 80 (Spec.one [.d tQ14,.d tIt] tIt (fun a=>g80v1 N a.1 a.2.1))
theorem G80v1_ok (N:Nat):q0A Tryd.prog (G80v1 N):=add_one [.d tQ14,.d tIt] tIt (fun a=>g80v1 N a.1 a.2.1) [800007] [] (g80v1An N) (GV4_ok N) Tryd.func80 (by kernel_rfl) (by kernel_rfl) (lokT (q0R (g80v1Tl N) rfl rfl ⟨g80v1L250_ok N,trivial⟩)) (.inr rfl) fun a=>by kernel_rfl
def g52v1 (N:Nat) (a0:(Bool)×((Int)×((Int)×((List TQ6)×(Unit))))):Option ((Int)×TQ10) :=
 Option.bind (g80v1 N a0 100) fun r1=>bif (decide ((r1:Int) < 0)) then some (0,1,()) else some (r1,0,())
def g52v1An (N:Nat):Ann:=mkAn N [] [] [] [] [] 10
def G52v1 (N:Nat):Cfg:=(G80v1 N).add 52 (Spec.many [.d tQ14] (.pair tIt tQ13) (fun a=>g52v1 N a.1))
theorem G52v1_ok (N:Nat):q0A Tryd.prog (G52v1 N):=q2J [.d tQ14] (.pair tIt tQ13) (fun a=>g52v1 N a.1) [] [] (g52v1An N) (G80v1_ok N) Tryd.func52 (by kernel_rfl) (by kernel_rfl) lokE (.inr rfl) fun a=>by kernel_rfl
def g25v1 (N:Nat) :Option (Bool) :=
 Option.bind (g30 N ([[1],[0]],[[0],[1]],())) fun r1=>Option.bind (g48v1 N ([[1],[0]],[[0],[1]],())) fun r2=>Option.bind (g29 N ([[0],[1]],[[0],[0]],())) fun r3=>Option.bind (g19 N ([[0],[1]],[[0],[0]],())) fun r4=>Option.bind (g52v1 N r2.1) fun r5=>bif (ieq r1.2.2.1 0) then bif r1.2.1 then Option.bind (g20 N r1.1 [0]) fun r6=>bif r6 then bif (ieq r2.2.2.1 0) then bif r2.2.1 then bif (ieq r3.2.2.1 0) then bif (!r3.2.1) then bif (ieq r4.2.1 0) then bif (ieq ((List.length r4.1.1:Nat):Int) 1) then bif (ieq r5.2.1 0) then bif (ieq r5.1 1) then Option.bind (g57 N (([]:List LIt),([]:List LIt),())) fun r7=>some (ieq r7 90) else some false else some false else some false else some false else some false else some false else some false else some false else some false else some false else some false
def g25v1An (N:Nat):Ann:=mkAn N [] [] [] [] [] 106
def G25v1 (N:Nat):Cfg:=(G52v1 N).add 25 (Spec.one [] .bool (fun _=>g25v1 N))
theorem G25v1_ok (N:Nat):q0A Tryd.prog (G25v1 N):=add_one [] .bool (fun _=>g25v1 N) [] [] (g25v1An N) (G52v1_ok N) Tryd.func25 (by kernel_rfl) (by kernel_rfl) lokE (.inr rfl) fun a=>by kernel_rfl
def q6T (N:Nat) {C:Type} (rec:Int→LIt→Bool→Int→Int→TQ5→Option C) (k0:Bool→Int→LIt→Bool→Int→TQ5→Option C) (k1:Int→LIt→Bool→Int→TQ5→Option C) (t7:Int) (t8:List (Int)) (t10:Bool) (t11 t12:Int) (o6:LMt×(LMt×(Unit))):Option C :=
 bif (decide ((t12:Int) < t11)) then Option.bind (g37 N o6 t11 t12) fun r5=>bif (!ieq r5.2.2.1 0) then (k0 false t7 t8 t10 t11 o6) else if idx t11 (List.length t8) then if idx t12 (List.length t8) then bif (!beqB r5.2.1 (!ieq (List.getD t8 (Int.toNat t11) 0) (List.getD t8 (Int.toNat t12) 0))) then (k0 false t7 t8 t10 t11 o6) else bif r5.2.1 then bif (decide ((t7:Int) ≤ ((List.length r5.1:Nat):Int))) then (k0 false t7 t8 t10 t11 o6) else (rec t7 t8 t10 t11 (IntKind.wrap .i64 (t12 + 1)) o6) else (rec t7 t8 t10 t11 (IntKind.wrap .i64 (t12 + 1)) o6) else none else none else (k1 t7 t8 t10 t11 o6)
abbrev z6I:List Sh1:=[.a (.ref 6 0 []),.a (.d tIt),.a (.d tLt),.a (.d .bool),.a (.d tIt),.a (.d tIt)]
abbrev z6T:List OSh:=[.box (.d tQ3) (.a (.d tQ3))]
def j1M (N:Nat) {C:Type} (k0:Bool→Int→LIt→Bool→Int→TQ5→Option C) (k1:Int→LIt→Bool→Int→TQ5→Option C) (t7:Int) (t8:List (Int)) (t10:Bool) (t11 t12:Int) (o6:LMt×(LMt×(Unit))):Option C :=
 itP (α:=q0I z6I×q0E z6T) (fun rec a=>q6T N (fun t7 t8 t10 t11 t12 o6=>rec (((),t7,t8,t10,t11,t12,()),(o6,()))) k0 k1 a.1.2.1 a.1.2.2.1 a.1.2.2.2.1 a.1.2.2.2.2.1 a.1.2.2.2.2.2.1 a.2.1) N (((),t7,t8,t10,t11,t12,()),(o6,()))
def g7L522830T (N:Nat):Told:={ nt:=209,sv:=z6I,so:=z6T,run:=fun K' rec a=>q6T N (fun t7 t8 t10 t11 t12 o6=>rec (((),t7,t8,t10,t11,t12,()),(o6,()))) (fun et4 et7 et8 et10 et11 eo6=>K' .ret (build 209 [4,6,7,8,10,11] [6] [(.dat .bool et4),(.ref 6 0 []),(.dat tIt et7),(.dat tLt et8),(.dat .bool et10),(.dat tIt et11)] [(some (.box (.d tQ3) (.dat tQ3 eo6)))])) (fun et7 et8 et10 et11 eo6=>K' (.exit 2) (build 209 [4,6,7,8,10,11] [6] [.junk,(.ref 6 0 []),(.dat tIt et7),(.dat tLt et8),(.dat .bool et10),(.dat tIt et11)] [(some (.box (.d tQ3) (.dat tQ3 eo6)))])) a.1.2.1 a.1.2.2.1 a.1.2.2.2.1 a.1.2.2.2.2.1 a.1.2.2.2.2.2.1 a.2.1 }
def z4W (N:Nat) {C:Type} (rec:Int→LIt→Bool→Int→TQ5→Option C) (k0:Bool→Int→Bool→TQ5→Option C) (k1:Int→Bool→TQ5→Option C) (t7:Int) (t8:List (Int)) (t10:Bool) (t11:Int) (o6:LMt×(LMt×(Unit))):Option C :=
 bif (decide ((t11:Int) < t7)) then if idx t11 (List.length t8) then bif (decide (((List.getD t8 (Int.toNat t11) 0):Int) < 0)) then (k0 false t7 t10 o6) else if idx t11 (List.length t8) then bif (decide ((t11:Int) < (List.getD t8 (Int.toNat t11) 0))) then (k0 false t7 t10 o6) else bif t10 then if idx t11 (List.length t8) then j1M N (fun e6 e7 e8 e9 e10 e11=>(k0 e6 e7 e9 e11)) (fun e12 e13 e14 e15 e16=>(rec e12 e13 e14 (IntKind.wrap .i64 (e15 + 1)) e16)) t7 t8 (ieq (List.getD t8 (Int.toNat t11) 0) t11) t11 0 o6 else none else j1M N (fun e17 e18 e19 e20 e21 e22=>(k0 e17 e18 e20 e22)) (fun e23 e24 e25 e26 e27=>(rec e23 e24 e25 (IntKind.wrap .i64 (e26 + 1)) e27)) t7 t8 false t11 0 o6 else none else none else (k1 t7 t10 o6)
abbrev g7L2042V:List Sh1:=[.a (.ref 6 0 []),.a (.d tIt),.a (.d tLt),.a (.d .bool),.a (.d tIt)]
abbrev g7L2042O:List OSh:=[.box (.d tQ3) (.a (.d tQ3))]
def g7L2042 (N:Nat) {C:Type} (k0:Bool→Int→Bool→TQ5→Option C) (k1:Int→Bool→TQ5→Option C) (t7:Int) (t8:List (Int)) (t10:Bool) (t11:Int) (o6:LMt×(LMt×(Unit))):Option C :=
 itP (α:=q0I g7L2042V×q0E g7L2042O) (fun rec a=>z4W N (fun t7 t8 t10 t11 o6=>rec (((),t7,t8,t10,t11,()),(o6,()))) k0 k1 a.1.2.1 a.1.2.2.1 a.1.2.2.2.1 a.1.2.2.2.2.1 a.2.1) N (((),t7,t8,t10,t11,()),(o6,()))
def g7L2042T (N:Nat):Told:={ nt:=209,sv:=g7L2042V,so:=g7L2042O,run:=fun K' rec a=>z4W N (fun t7 t8 t10 t11 o6=>rec (((),t7,t8,t10,t11,()),(o6,()))) (fun et4 et7 et10 eo6=>K' .ret (build 209 [4,6,7,10] [6] [(.dat .bool et4),(.ref 6 0 []),(.dat tIt et7),(.dat .bool et10)] [(some (.box (.d tQ3) (.dat tQ3 eo6)))])) (fun et7 et10 eo6=>K' (.exit 0) (build 209 [4,6,7,10] [6] [.junk,(.ref 6 0 []),(.dat tIt et7),(.dat .bool et10)] [(some (.box (.d tQ3) (.dat tQ3 eo6)))])) a.1.2.1 a.1.2.2.1 a.1.2.2.2.1 a.1.2.2.2.2.1 a.2.1 }
def q7C (N:Nat) {C:Type} (rec:LIt→Int→Option C) (k0:Bool→Option C) (k1:Option C) (t26:List (Int)) (t28:Int):Option C :=
 bif (decide ((t28:Int) < ((List.length t26:Nat):Int))) then if idx t28 (List.length t26) then bif (!ieq (List.getD t26 (Int.toNat t28) 0) t28) then (k0 false) else (rec t26 (IntKind.wrap .i64 (t28 + 1))) else none else k1
def z4A (N:Nat) {C:Type} (k0:Bool→Option C) (k1:Option C) (t26:List (Int)) (t28:Int):Option C :=
 itP (α:=q0I [.a (.d tLt),.a (.d tIt)]×q0E []) (fun rec a=>q7C N (fun t26 t28=>rec ((t26,t28,()),(()))) k0 k1 a.1.1 a.1.2.1) N ((t26,t28,()),(()))
def g7L524282T (N:Nat):Told:={ nt:=209,sv:=[.a (.d tLt),.a (.d tIt)],so:=[],run:=fun K' rec a=>q7C N (fun t26 t28=>rec ((t26,t28,()),(()))) (fun et4=>K' .ret (build 209 [4] [] [(.dat .bool et4)] [])) (K' (.exit 4) (build 209 [4] [] [.junk] [])) a.1.1 a.1.2.1 }
def g7 (N:Nat) (a0:LMt×(LMt×(Unit))) (a1:Int):Option (Bool) :=
 Option.bind (g16 N a1) fun r1=>Option.bind (g15 N a0 6 r1) fun r2=>Option.bind (g18 N r2) fun r3=>Option.bind (g17 N r3) fun r4=>bif (!ieq r4.2.1 0) then some false else bif (!ieq ((List.length r4.1:Nat):Int) ((List.length r2.1:Nat):Int)) then some false else g7L2042 N (fun e28 e29 e30 e31=>some e28) (fun e32 e33 e34=>Option.bind (g29 N e34) fun r35=>bif (!ieq r35.2.2.1 0) then some false else bif e33 then bif (!r35.2.1) then some false else bif (decide (((IntKind.wrap .i64 (e32 * (IntKind.wrap .i64 (e32 - 1)))):Int) < (IntKind.wrap .i64 (2 * ((List.length r35.1:Nat):Int))))) then some false else Option.bind (g19 N e34) fun r36=>Option.bind (g40 N e34 r36.1) fun r37=>Option.bind (g19 N r36.1) fun r38=>Option.bind (g17 N r36.1) fun r39=>bif (!ieq r36.2.1 0) then some false else bif (!ieq r37.2.2.1 0) then some false else bif (!ieq r38.2.1 0) then some false else bif (!ieq r39.2.1 0) then some false else bif (!r37.2.1) then some false else Option.bind (g23 N r36.1) fun r40=>Option.bind (g23 N r38.1) fun r41=>Option.bind (g22 N r40 r41) fun r42=>bif (!r42) then some false else bif (!ieq ((List.length r39.1:Nat):Int) ((List.length r36.1.1:Nat):Int)) then some false else z4A N (fun e43=>some e43) (Option.bind (g25v1 N) fun r44=>some r44) r39.1 0 else Option.bind (g19 N e34) fun r45=>Option.bind (g40 N e34 r45.1) fun r46=>Option.bind (g19 N r45.1) fun r47=>Option.bind (g17 N r45.1) fun r48=>bif (!ieq r45.2.1 0) then some false else bif (!ieq r46.2.2.1 0) then some false else bif (!ieq r47.2.1 0) then some false else bif (!ieq r48.2.1 0) then some false else bif (!r46.2.1) then some false else Option.bind (g23 N r45.1) fun r49=>Option.bind (g23 N r47.1) fun r50=>Option.bind (g22 N r49 r50) fun r51=>bif (!r51) then some false else bif (!ieq ((List.length r48.1:Nat):Int) ((List.length r45.1.1:Nat):Int)) then some false else z4A N (fun e52=>some e52) (Option.bind (g25v1 N) fun r53=>some r53) r48.1 0) ((List.length r2.1:Nat):Int) r4.1 true 0 r3
def g7Tl (N:Nat):List (Nat×Told):=[(2042,g7L2042T N),(522830,g7L522830T N),(524282,g7L524282T N)]
def g7An (N:Nat):Ann:=mkAn N [(2042,([6,7,8,10,11],[6]),([4,6,7,10],[6])),(522830,([6,7,8,10,11,12],[6]),([4,6,7,8,10,11],[6])),(524282,([26,28],[]),([4],[]))] [] (g7Tl N) [] [] 209
theorem g7L2042_ok (N:Nat):q0P (((G25v1 N).q0F []).q0T []) (g7An N) (bdy Tryd.f7) 2042 (g7L2042T N):=⟨⟨loopBody (q0G (bdy Tryd.f7) 64 2042),by kernel_rfl,fun K' rec a=>by kernel_rfl⟩,fun a=>by kernel_rfl⟩
theorem g7L522830_ok (N:Nat):q0P (((G25v1 N).q0F []).q0T []) (g7An N) (bdy Tryd.f7) 522830 (g7L522830T N):=⟨⟨loopBody (q0G (bdy Tryd.f7) 64 522830),by kernel_rfl,fun K' rec a=>by kernel_rfl⟩,fun a=>by kernel_rfl⟩
theorem g7L524282_ok (N:Nat):q0P (((G25v1 N).q0F []).q0T []) (g7An N) (bdy Tryd.f7) 524282 (g7L524282T N):=⟨⟨loopBody (q0G (bdy Tryd.f7) 64 524282),by kernel_rfl,fun K' rec a=>by kernel_rfl⟩,fun a=>by kernel_rfl⟩
def G7 (N:Nat):Cfg:=(G25v1 N).add 7 (Spec.one [.d tQ3,.d tIt] .bool (fun a=>g7 N a.1 a.2.1))
theorem G7_ok (N:Nat):q0A Tryd.prog (G7 N):=add_one [.d tQ3,.d tIt] .bool (fun a=>g7 N a.1 a.2.1) [] [] (g7An N) (G25v1_ok N) Tryd.func7 (by kernel_rfl) (by kernel_rfl) (lokT (q0R (g7Tl N) rfl rfl ⟨g7L2042_ok N,g7L522830_ok N,g7L524282_ok N,trivial⟩)) (.inr rfl) fun a=>by kernel_rfl
def g41 (N:Nat) (a0:LMt×(LMt×(Unit))):Option (Int) :=
 if idx 0 (List.length a0.1) then some ((List.length (List.getD a0.1 (Int.toNat 0) ([]:List (Int))):Nat):Int) else none
def g63L58B (N:Nat) {C:Type} (rec:Int→LIt→Int→Int→TQ5→LIt→Option C) (k0:Int→TQ5→LIt→Option C) (t1:Int) (t11:List (Int)) (t12 t13:Int) (o3:LMt×(LMt×(Unit))) (o8:List (Int)):Option C :=
 bif (decide ((t13:Int) < t12)) then if idx t13 (List.length t11) then if idx t1 (List.length o3.2.1) then if idx (List.getD t11 (Int.toNat t13) 0) (List.length (List.getD o3.2.1 (Int.toNat t1) ([]:List (Int)))) then if List.length o8 + List.length [(List.getD (List.getD o3.2.1 (Int.toNat t1) ([]:List (Int))) (Int.toNat (List.getD t11 (Int.toNat t13) 0)) 0)] ≤ maxCount then if idx t1 (List.length o3.1) then if idx (List.getD t11 (Int.toNat t13) 0) (List.length (List.getD o3.1 (Int.toNat t1) ([]:List (Int)))) then (rec (List.getD (List.getD o3.1 (Int.toNat t1) ([]:List (Int))) (Int.toNat (List.getD t11 (Int.toNat t13) 0)) 0) t11 t12 (IntKind.wrap .i64 (t13 + 1)) o3 (o8 ++ [(List.getD (List.getD o3.2.1 (Int.toNat t1) ([]:List (Int))) (Int.toNat (List.getD t11 (Int.toNat t13) 0)) 0)])) else none else none else none else none else none else none else (k0 t1 o3 o8)
abbrev g63L58V:List Sh1:=[.a (.d tIt),.a (.ref 3 0 []),.a (.sl tIt 8 0),.a (.d tLt),.a (.d tIt),.a (.d tIt)]
abbrev g63L58O:List OSh:=[.box (.d tQ3) (.a (.d tQ3)),.vec tIt]
def g63L58 (N:Nat) {C:Type} (k0:Int→TQ5→LIt→Option C) (t1:Int) (t11:List (Int)) (t12 t13:Int) (o3:LMt×(LMt×(Unit))) (o8:List (Int)):Option C :=
 itP (α:=q0I g63L58V×q0E g63L58O) (fun rec a=>g63L58B N (fun t1 t11 t12 t13 o3 o8=>rec ((t1,(),(),t11,t12,t13,()),(o3,o8,()))) k0 a.1.1 a.1.2.2.2.1 a.1.2.2.2.2.1 a.1.2.2.2.2.2.1 a.2.1 a.2.2.1) N ((t1,(),(),t11,t12,t13,()),(o3,o8,()))
def g63 (N:Nat) (a0:LMt×(LMt×(Unit))) (a1:Int) (a2:List (Int)):Option (LIt×TQ10) :=
 g63L58 N (fun e1 e2 e3=>some (e3,e1,())) a1 a2 ((List.length a2:Nat):Int) 0 a0 ([]:List (Int))
def g26L58B (N:Nat) {C:Type} (rec:LIt→Int→Int→TQ5→LIt→Option C) (k0:TQ5→LIt→Option C) (t1:List (Int)) (t2 t8:Int) (o3:LMt×(LMt×(Unit))) (o7:List (Int)):Option C :=
 bif (decide ((t8:Int) < ((List.length t1:Nat):Int))) then bif (decide ((t8:Int) < t2)) then if idx t8 (List.length t1) then Option.bind (g41 N o3) fun r1=>if (IntKind.wrap .u64 r1) = 0 then none else if List.length o7 + List.length [(IntKind.wrap .i64 (Int.tmod (IntKind.wrap .u64 (List.getD t1 (Int.toNat t8) 0)) (IntKind.wrap .u64 r1)))] ≤ maxCount then (rec t1 t2 (IntKind.wrap .i64 (t8 + 1)) o3 (o7 ++ [(IntKind.wrap .i64 (Int.tmod (IntKind.wrap .u64 (List.getD t1 (Int.toNat t8) 0)) (IntKind.wrap .u64 r1)))])) else none else none else (k0 o3 o7) else (k0 o3 o7)
abbrev g26L58V:List Sh1:=[.a (.d tLt),.a (.d tIt),.a (.ref 3 0 []),.a (.sl tIt 7 0),.a (.d tIt)]
abbrev g26L58O:List OSh:=[.box (.d tQ3) (.a (.d tQ3)),.vec tIt]
def g26L58 (N:Nat) {C:Type} (k0:TQ5→LIt→Option C) (t1:List (Int)) (t2 t8:Int) (o3:LMt×(LMt×(Unit))) (o7:List (Int)):Option C :=
 itP (α:=q0I g26L58V×q0E g26L58O) (fun rec a=>g26L58B N (fun t1 t2 t8 o3 o7=>rec ((t1,t2,(),(),t8,()),(o3,o7,()))) k0 a.1.1 a.1.2.1 a.1.2.2.2.2.1 a.2.1 a.2.2.1) N ((t1,t2,(),(),t8,()),(o3,o7,()))
def g26 (N:Nat) (a0:LMt×(LMt×(Unit))) (a1:List (Int)) (a2:Int):Option LIt :=
 g26L58 N (fun e2 e3=>some e3) a1 a2 0 a0 ([]:List (Int))
@[reducible] def g116x2S:XSh:={ sa:=[.a (.d tQ1),.a (.d tIt),.fn 117 [.ref 100001 0 [],.ref 100002 0 []]],so:=[.gone,.box .leaf (.a (.c tQ23 tQ1)),.box .leaf (.a (.mp 100003 0)),.map tQ1 tQ23],rs:=[.fn 134 [.ref 200000 0 [],.ref 200001 0 [],.ref 200002 0 []]],many:=false,os:=[(0,.gone),(0,.box .leaf (.a (.c tQ23 tQ1))),(0,.box .leaf (.a (.mp 100003 0))),(0,.map tQ1 tQ23)],xs:=[.box (.d tQ1) (.a (.d tQ1)),.box (.d tIt) (.a (.d tIt)),.box .leaf (.fn 117 [.ref 100001 0 [],.ref 100002 0 []])] }
@[reducible] def g112x2S:XSh:={ sa:=[.a (.d tQ2),.a (.d tIt),.fn 113 [.ref 100001 0 [],.ref 100002 0 []]],so:=[.gone,.box .leaf (.a (.c tQ22 tQ2)),.box .leaf (.a (.mp 100003 0)),.map tQ2 tQ22],rs:=[.fn 133 [.ref 200000 0 [],.ref 200001 0 [],.ref 200002 0 []]],many:=false,os:=[(0,.gone),(0,.box .leaf (.a (.c tQ22 tQ2))),(0,.box .leaf (.a (.mp 100003 0))),(0,.map tQ2 tQ22)],xs:=[.box (.d tQ2) (.a (.d tQ2)),.box (.d tIt) (.a (.d tIt)),.box .leaf (.fn 113 [.ref 100001 0 [],.ref 100002 0 []])] }
def q3J (N:Nat) {C:Type} (rec:Int→LIt→Int→Int→Int→Bool→Int→TQ5→LIt→Option C) (k0:Int→LIt→Int→Int→Int→Bool→TQ5→LIt→Option C) (t3:Int) (t4:List (Int)) (t5 t7 t8:Int) (t9:Bool) (t10:Int) (o1:LMt×(LMt×(Unit))) (o22:List (Int)):Option C :=
 Option.bind (g41 N o1) fun r1=>bif (decide ((t10:Int) < r1)) then bif t9 then if idx t7 (List.length o1.2.1) then if idx t10 (List.length (List.getD o1.2.1 (Int.toNat t7) ([]:List (Int)))) then if idx t8 (List.length o1.2.1) then if idx t10 (List.length (List.getD o1.2.1 (Int.toNat t8) ([]:List (Int)))) then bif (ieq (List.getD (List.getD o1.2.1 (Int.toNat t7) ([]:List (Int))) (Int.toNat t10) 0) (List.getD (List.getD o1.2.1 (Int.toNat t8) ([]:List (Int))) (Int.toNat t10) 0)) then if idx t7 (List.length o1.1) then if idx t10 (List.length (List.getD o1.1 (Int.toNat t7) ([]:List (Int)))) then if idx (List.getD (List.getD o1.1 (Int.toNat t7) ([]:List (Int))) (Int.toNat t10) 0) (List.length t4) then if idx t8 (List.length o1.1) then if idx t10 (List.length (List.getD o1.1 (Int.toNat t8) ([]:List (Int)))) then if idx (List.getD (List.getD o1.1 (Int.toNat t8) ([]:List (Int))) (Int.toNat t10) 0) (List.length t4) then (rec t3 t4 t5 t7 t8 (ieq (List.getD t4 (Int.toNat (List.getD (List.getD o1.1 (Int.toNat t7) ([]:List (Int))) (Int.toNat t10) 0)) 0) (List.getD t4 (Int.toNat (List.getD (List.getD o1.1 (Int.toNat t8) ([]:List (Int))) (Int.toNat t10) 0)) 0)) (IntKind.wrap .i64 (t10 + 1)) o1 o22) else none else none else none else none else none else none else (rec t3 t4 t5 t7 t8 false (IntKind.wrap .i64 (t10 + 1)) o1 o22) else none else none else none else none else (rec t3 t4 t5 t7 t8 false (IntKind.wrap .i64 (t10 + 1)) o1 o22) else (k0 t3 t4 t5 t7 t8 t9 o1 o22)
abbrev q8N:List Sh1:=[.a (.ref 1 0 []),.a (.d tIt),.a (.d tLt),.a (.d tIt),.a (.sl tIt 22 0),.a (.d tIt),.a (.d tIt),.a (.d .bool),.a (.d tIt)]
abbrev q8R:List OSh:=[.box (.d tQ3) (.a (.d tQ3)),.vec tIt]
def z1L (N:Nat) {C:Type} (k0:Int→LIt→Int→Int→Int→Bool→TQ5→LIt→Option C) (t3:Int) (t4:List (Int)) (t5 t7 t8:Int) (t9:Bool) (t10:Int) (o1:LMt×(LMt×(Unit))) (o22:List (Int)):Option C :=
 itP (α:=q0I q8N×q0E q8R) (fun rec a=>q3J N (fun t3 t4 t5 t7 t8 t9 t10 o1 o22=>rec (((),t3,t4,t5,(),t7,t8,t9,t10,()),(o1,o22,()))) k0 a.1.2.1 a.1.2.2.1 a.1.2.2.2.1 a.1.2.2.2.2.2.1 a.1.2.2.2.2.2.2.1 a.1.2.2.2.2.2.2.2.1 a.1.2.2.2.2.2.2.2.2.1 a.2.1 a.2.2.1) N (((),t3,t4,t5,(),t7,t8,t9,t10,()),(o1,o22,()))
def q4H (N:Nat) {C:Type} (rec:Int→LIt→Int→Int→Int→TQ5→LIt→Option C) (k0:Int→LIt→Int→Int→TQ5→LIt→Option C) (t3:Int) (t4:List (Int)) (t5 t7 t8:Int) (o1:LMt×(LMt×(Unit))) (o22:List (Int)):Option C :=
 bif (decide ((0:Int) ≤ t8)) then if idx t7 (List.length t4) then if idx t8 (List.length t4) then z1L N (fun e2 e3 e4 e5 e6 e7 e8 e9=>bif e7 then if idx e5 (List.length e9) then if (Int.toNat e5) < List.length e9 then (rec e2 e3 e4 e5 (IntKind.wrap .i64 (e6 - 1)) e8 (List.set e9 (Int.toNat e5) e6)) else none else none else (rec e2 e3 e4 e5 (IntKind.wrap .i64 (e6 - 1)) e8 e9)) t3 t4 t5 t7 t8 (ieq (List.getD t4 (Int.toNat t7) 0) (List.getD t4 (Int.toNat t8) 0)) 0 o1 o22 else none else none else (k0 t3 t4 t5 t7 o1 o22)
abbrev z7L:List Sh1:=[.a (.ref 1 0 []),.a (.d tIt),.a (.d tLt),.a (.d tIt),.a (.sl tIt 22 0),.a (.d tIt),.a (.d tIt)]
abbrev z7V:List OSh:=[.box (.d tQ3) (.a (.d tQ3)),.vec tIt]
def j0V (N:Nat) {C:Type} (k0:Int→LIt→Int→Int→TQ5→LIt→Option C) (t3:Int) (t4:List (Int)) (t5 t7 t8:Int) (o1:LMt×(LMt×(Unit))) (o22:List (Int)):Option C :=
 itP (α:=q0I z7L×q0E z7V) (fun rec a=>q4H N (fun t3 t4 t5 t7 t8 o1 o22=>rec (((),t3,t4,t5,(),t7,t8,()),(o1,o22,()))) k0 a.1.2.1 a.1.2.2.1 a.1.2.2.2.1 a.1.2.2.2.2.2.1 a.1.2.2.2.2.2.2.1 a.2.1 a.2.2.1) N (((),t3,t4,t5,(),t7,t8,()),(o1,o22,()))
def z0T (N:Nat) {C:Type} (rec:Int→LIt→Int→Int→TQ5→LIt→Option C) (k0:Int→Int→TQ5→LIt→Option C) (t3:Int) (t4:List (Int)) (t5 t7:Int) (o1:LMt×(LMt×(Unit))) (o22:List (Int)):Option C :=
 bif (decide ((t7:Int) < t3)) then if idx t7 (List.length o22) then if (Int.toNat t7) < List.length o22 then j0V N (fun e10 e11 e12 e13 e14 e15=>(rec e10 e11 e12 (IntKind.wrap .i64 (e13 + 1)) e14 e15)) t3 t4 t5 t7 (IntKind.wrap .i64 (t7 - 1)) o1 (List.set o22 (Int.toNat t7) t7) else none else none else (k0 t3 t5 o1 o22)
abbrev g21L31306V:List Sh1:=[.a (.ref 1 0 []),.a (.d tIt),.a (.d tLt),.a (.d tIt),.a (.sl tIt 22 0),.a (.d tIt)]
abbrev g21L31306O:List OSh:=[.box (.d tQ3) (.a (.d tQ3)),.vec tIt]
def g21L31306 (N:Nat) {C:Type} (k0:Int→Int→TQ5→LIt→Option C) (t3:Int) (t4:List (Int)) (t5 t7:Int) (o1:LMt×(LMt×(Unit))) (o22:List (Int)):Option C :=
 itP (α:=q0I g21L31306V×q0E g21L31306O) (fun rec a=>z0T N (fun t3 t4 t5 t7 o1 o22=>rec (((),t3,t4,t5,(),t7,()),(o1,o22,()))) k0 a.1.2.1 a.1.2.2.1 a.1.2.2.2.1 a.1.2.2.2.2.2.1 a.2.1 a.2.2.1) N (((),t3,t4,t5,(),t7,()),(o1,o22,()))
def z8U (N:Nat) {C:Type} (rec:Int→LIt→Int→TQ5→Option C) (k0:LIt→TQ5→Option C) (t3:Int) (t4:List (Int)) (t5:Int) (o1:LMt×(LMt×(Unit))):Option C :=
 bif (decide ((t5:Int) < t3)) then if mkOk t3 t3 then g21L31306 N (fun e16 e17 e18 e19=>(rec e16 e19 (IntKind.wrap .i64 (e17 + 1)) e18)) t3 t4 t5 0 o1 (List.replicate (Int.toNat t3) (0:Int)) else none else (k0 t4 o1)
abbrev g21L122V:List Sh1:=[.a (.ref 1 0 []),.a (.d tIt),.a (.d tLt),.a (.d tIt)]
abbrev g21L122O:List OSh:=[.box (.d tQ3) (.a (.d tQ3))]
def g21L122 (N:Nat) {C:Type} (k0:LIt→TQ5→Option C) (t3:Int) (t4:List (Int)) (t5:Int) (o1:LMt×(LMt×(Unit))):Option C :=
 itP (α:=q0I g21L122V×q0E g21L122O) (fun rec a=>z8U N (fun t3 t4 t5 o1=>rec (((),t3,t4,t5,()),(o1,()))) k0 a.1.2.1 a.1.2.2.1 a.1.2.2.2.1 a.2.1) N (((),t3,t4,t5,()),(o1,()))
end
end Go.Pv
