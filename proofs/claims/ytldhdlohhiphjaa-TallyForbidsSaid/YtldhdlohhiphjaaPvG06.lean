/- The plain functions of the law, part 2. -/
import Derived.Test.YtldhdlohhiphjaaPvG06p0
set_option linter.unusedVariables false
namespace Go.Pv
open Go.Proofs
noncomputable section
def g64L58T (N:Nat):Told:={ nt:=27,sv:=g64L58V,so:=g64L58O,run:=fun K' rec a=>g64L58B N (fun t8 t9 t10 o2 o4 o5=>rec (((),(),(),t8,t9,t10,()),(o2,o4,o5,()))) (fun eo2 eo4 eo5=>K' (.exit 0) (build 27 [4,5] [2,4,5] [(.ref 4 0 []),(.ref 5 0 [])] [(some (.box (.d tPt) (.dat tPt eo2))),(some (.box (.d (.arr 5 tIt)) (.dat (.arr 5 tIt) eo4))),(some (.box (.d (.arr 5 tIt)) (.dat (.arr 5 tIt) eo5)))])) a.1.2.2.2.1 a.1.2.2.2.2.1 a.1.2.2.2.2.2.1 a.2.1 a.2.2.1 a.2.2.2.1 }
def g64 (N:Nat) (a0:PPt) (a1:List (Int)):Option LIt :=
 g64L58 N (fun e1 e2 e3=>some e3) a1 ((List.length a1:Nat):Int) 0 a0 (List.replicate 5 0) (List.replicate 5 0)
def g64Tl (N:Nat):List (Nat×Told):=[(58,g64L58T N)]
def g64An (N:Nat):Ann:=mkAn N [(58,([2,4,5,8,9,10],[2,4,5]),([4,5],[2,4,5]))] [] (g64Tl N) [] [] 27
theorem g64L58_ok (N:Nat):ToldOk (((G47 N).withOwn []).withX []) (g64An N) (bdy Try.f64) 58 (g64L58T N):=⟨⟨loopBody (codeAt (bdy Try.f64) 64 58),by kernel_rfl,fun K' rec a=>by kernel_rfl⟩,fun a=>by kernel_rfl⟩
def G64 (N:Nat):Cfg:=(G47 N).add 64 (Spec.one [.d tPt,.d tLt] (.arr 5 tIt) (fun a=>g64 N a.1 a.2.1))
theorem G64_ok (N:Nat):CfgOk Try.prog (G64 N):=add_one [.d tPt,.d tLt] (.arr 5 tIt) (fun a=>g64 N a.1 a.2.1) [] [] (g64An N) (G47_ok N) Try.func64 (by kernel_rfl) (by kernel_rfl) (lokT (told_ok (g64Tl N) rfl rfl ⟨g64L58_ok N,trivial⟩)) (.inr rfl) fun a=>by kernel_rfl
def g65 (N:Nat) (a0:List (Int)):Option LIt :=
 if 0 < List.length a0 then if List.length ([]:List (Int)) + List.length a0 ≤ maxCount then some (([]:List (Int)) ++ a0) else none else none
def g65An (N:Nat):Ann:=mkAn N [] [] [] [] [] 8
def G65 (N:Nat):Cfg:=(G64 N).add 65 (Spec.one [.d tLt] tLt (fun a=>g65 N a.1))
theorem G65_ok (N:Nat):CfgOk Try.prog (G65 N):=add_one [.d tLt] tLt (fun a=>g65 N a.1) [5] [] (g65An N) (G64_ok N) Try.func65 (by kernel_rfl) (by kernel_rfl) lokE (.inr rfl) fun a=>by kernel_rfl
def g25 (N:Nat) (a0:PPt) (a1:List (Int)):Option (LIt×((Int)×(Unit))) :=
 Option.bind (g59 N a0) fun r1=>bif (!ieq r1 0) then some (([]:List (Int)),r1,()) else Option.bind (g62 N a1 ((List.length a0.2.2.1:Nat):Int)) fun r2=>bif (!r2) then some (([]:List (Int)),1,()) else Option.bind (g64 N a0 a1) fun r3=>if 0 ≤ (0:Int)∧(0:Int) ≤ a0.1∧(a0.1:Int) ≤ 5 then Option.bind (g65 N (List.drop (Int.toNat 0) (List.take (Int.toNat a0.1) r3))) fun r4=>some (r4,0,()) else none
def g25An (N:Nat):Ann:=mkAn N [] [(7,[7])] [] [] [] 26
def G25 (N:Nat):Cfg:=(G65 N).add 25 (Spec.many [.d tPt,.d tLt] (.pair tLt (.pair tIt .unit)) (fun a=>g25 N a.1 a.2.1))
theorem G25_ok (N:Nat):CfgOk Try.prog (G25 N):=add_many [.d tPt,.d tLt] (.pair tLt (.pair tIt .unit)) (fun a=>g25 N a.1 a.2.1) [] [] (g25An N) (G65_ok N) Try.func25 (by kernel_rfl) (by kernel_rfl) lokE (.inr rfl) fun a=>by kernel_rfl
def g66 (N:Nat) (a0:PPt) (a1 a2:Int):Option LIt :=
 Option.bind (g25 N a0 [a1,a2]) fun r1=>some r1.1
def g66An (N:Nat):Ann:=mkAn N [] [] [] [] [] 18
def G66 (N:Nat):Cfg:=(G25 N).add 66 (Spec.one [.d tPt,.d tIt,.d tIt] tLt (fun a=>g66 N a.1 a.2.1 a.2.2.1))
theorem G66_ok (N:Nat):CfgOk Try.prog (G66 N):=add_one [.d tPt,.d tIt,.d tIt] tLt (fun a=>g66 N a.1 a.2.1 a.2.2.1) [] [] (g66An N) (G25_ok N) Try.func66 (by kernel_rfl) (by kernel_rfl) lokE (.inr rfl) fun a=>by kernel_rfl
def g29 (N:Nat) :Option (Bool) :=
 Option.bind (g36 N (2,[0,1],[0],[(List.set (List.set (List.set (List.set r4t 0 0) 1 0) 2 1) 3 1)],()) [2,0]) fun r1=>Option.bind (g36 N (2,[0,1],[0],[(List.set (List.set (List.set (List.set r4t 0 0) 1 0) 2 1) 3 1)],()) [3,0]) fun r2=>Option.bind (g19 N ([1],2,0,()) [3]) fun r3=>Option.bind (g19 N ([1],2,0,()) [1]) fun r4=>Option.bind (g32 N (2,[0,1],[0],[(List.set (List.set (List.set (List.set r4t 0 0) 1 0) 2 1) 3 1)],()) [1,1] 0) fun r5=>Option.bind (g30 N (2,[0,1],[0],[(List.set (List.set (List.set (List.set r4t 0 0) 1 0) 2 1) 3 1)],())) fun r6=>Option.bind (g47 N) fun r7=>Option.bind (g47 N) fun r8=>Option.bind (g66 N r8 3 2) fun r9=>Option.bind (g36 N r7 r9) fun r10=>bif (ieq r1.2.2.1 0) then bif r1.2.1 then bif (ieq r1.1 1) then bif (ieq r2.2.2.1 0) then bif (!r2.2.1) then bif (ieq r3.2.1 0) then bif r3.1 then bif (ieq r4.2.1 0) then bif (!r4.1) then bif (ieq r5.2.1 0) then bif r5.1 then bif (ieq r6.2.1 0) then bif (ieq r6.1 1) then bif (ieq r10.2.2.1 0) then bif r10.2.1 then bif (ieq r10.1 1) then Option.bind (g59 N (0,([]:List (Int)),([]:List (Int)),([]:List LIt),())) fun r11=>some (ieq r11 60) else some false else some false else some false else some false else some false else some false else some false else some false else some false else some false else some false else some false else some false else some false else some false else some false
def g29An (N:Nat):Ann:=mkAn N [] [] [] [] [] 134
def G29 (N:Nat):Cfg:=(G66 N).add 29 (Spec.one [] .bool (fun _=>g29 N))
theorem G29_ok (N:Nat):CfgOk Try.prog (G29 N):=add_one [] .bool (fun _=>g29 N) [] [] (g29An N) (G66_ok N) Try.func29 (by kernel_rfl) (by kernel_rfl) lokE (.inr rfl) fun a=>by kernel_rfl
def g9L122B (N:Nat) {C:Type} (rec:LIt→LIt→Int→PPt→Option C) (k0:Bool→PPt→Option C) (k1:PPt→Option C) (t6 t7:List (Int)) (t8:Int) (o5:PPt):Option C :=
 bif (decide ((t8:Int) < 2)) then Option.bind (g26 N o5) fun r4=>Option.bind (g44 N r4 t6 t7) fun r5=>bif (!ieq r5.2.2.1 0) then (k0 false o5) else Option.bind (g45 N o5 t6 t7) fun r6=>bif (!beqB r5.2.1 r6) then (k0 false o5) else bif (!r5.2.1) then bif (!ieq ((List.length r5.1:Nat):Int) 0) then (k0 false o5) else bif r5.2.1 then Option.bind (g33 N o5 r5.1) fun r7=>bif (!r7) then (k0 false o5) else Option.bind (g34 N o5 r5.1 0) fun r8=>bif (!r8) then (k0 false o5) else Option.bind (g46 N r5.1 t6) fun r9=>Option.bind (g46 N r5.1 t7) fun r10=>bif (ieq r9 r10) then (k0 false o5) else Option.bind (g39 N o5 t6) fun r11=>if idx (IntKind.wrap .i64 (((List.length r11.1:Nat):Int) - 1)) (List.length r11.1) then (rec t6 (List.getD r11.1 (Int.toNat (IntKind.wrap .i64 (((List.length r11.1:Nat):Int) - 1))) ([]:List (Int))) (IntKind.wrap .i64 (t8 + 1)) o5) else none else Option.bind (g39 N o5 t6) fun r12=>if idx (IntKind.wrap .i64 (((List.length r12.1:Nat):Int) - 1)) (List.length r12.1) then (rec t6 (List.getD r12.1 (Int.toNat (IntKind.wrap .i64 (((List.length r12.1:Nat):Int) - 1))) ([]:List (Int))) (IntKind.wrap .i64 (t8 + 1)) o5) else none else bif r5.2.1 then Option.bind (g33 N o5 r5.1) fun r13=>bif (!r13) then (k0 false o5) else Option.bind (g34 N o5 r5.1 0) fun r14=>bif (!r14) then (k0 false o5) else Option.bind (g46 N r5.1 t6) fun r15=>Option.bind (g46 N r5.1 t7) fun r16=>bif (ieq r15 r16) then (k0 false o5) else Option.bind (g39 N o5 t6) fun r17=>if idx (IntKind.wrap .i64 (((List.length r17.1:Nat):Int) - 1)) (List.length r17.1) then (rec t6 (List.getD r17.1 (Int.toNat (IntKind.wrap .i64 (((List.length r17.1:Nat):Int) - 1))) ([]:List (Int))) (IntKind.wrap .i64 (t8 + 1)) o5) else none else Option.bind (g39 N o5 t6) fun r18=>if idx (IntKind.wrap .i64 (((List.length r18.1:Nat):Int) - 1)) (List.length r18.1) then (rec t6 (List.getD r18.1 (Int.toNat (IntKind.wrap .i64 (((List.length r18.1:Nat):Int) - 1))) ([]:List (Int))) (IntKind.wrap .i64 (t8 + 1)) o5) else none else (k1 o5)
abbrev g9L122V:List Sh1:=[.a (.ref 5 0 []),.a (.d tLt),.a (.d tLt),.a (.d tIt)]
abbrev g9L122O:List OSh:=[.box (.d tPt) (.a (.d tPt))]
def g9L122 (N:Nat) {C:Type} (k0:Bool→PPt→Option C) (k1:PPt→Option C) (t6 t7:List (Int)) (t8:Int) (o5:PPt):Option C :=
 itP (α:=Prod1 g9L122V×ProdO g9L122O) (fun rec a=>g9L122B N (fun t6 t7 t8 o5=>rec (((),t6,t7,t8,()),(o5,()))) k0 k1 a.1.2.1 a.1.2.2.1 a.1.2.2.2.1 a.2.1) N (((),t6,t7,t8,()),(o5,()))
def g9L122T (N:Nat):Told:={ nt:=93,sv:=g9L122V,so:=g9L122O,run:=fun K' rec a=>g9L122B N (fun t6 t7 t8 o5=>rec (((),t6,t7,t8,()),(o5,()))) (fun et4 eo5=>K' .ret (build 93 [4] [5] [(.dat .bool et4)] [(some (.box (.d tPt) (.dat tPt eo5)))])) (fun eo5=>K' (.exit 0) (build 93 [4] [5] [.junk] [(some (.box (.d tPt) (.dat tPt eo5)))])) a.1.2.1 a.1.2.2.1 a.1.2.2.2.1 a.2.1 }
def g9 (N:Nat) (a0:PPt) (a1:List LIt):Option (Bool) :=
 Option.bind (g18 N a0 5) fun r1=>if idx 0 2 then Option.bind (g24 N (List.getD a1 (Int.toNat 0) ([]:List (Int))) r1.1 9) fun r2=>if idx 1 2 then Option.bind (g24 N (List.getD a1 (Int.toNat 1) ([]:List (Int))) r1.1 9) fun r3=>g9L122 N (fun e19 e20=>some e19) (fun e21=>Option.bind (g29 N) fun r22=>some r22) r2 r3 0 r1 else none else none
def g9Tl (N:Nat):List (Nat×Told):=[(122,g9L122T N)]
def g9An (N:Nat):Ann:=mkAn N [(122,([5,6,7,8],[5]),([4],[5]))] [] (g9Tl N) [] [] 93
theorem g9L122_ok (N:Nat):ToldOk (((G29 N).withOwn []).withX []) (g9An N) (bdy Try.f9) 122 (g9L122T N):=⟨⟨loopBody (codeAt (bdy Try.f9) 64 122),by kernel_rfl,fun K' rec a=>by kernel_rfl⟩,fun a=>by kernel_rfl⟩
def G9 (N:Nat):Cfg:=(G29 N).add 9 (Spec.one [.d tPt,.d (.arr 2 tLt)] .bool (fun a=>g9 N a.1 a.2.1))
theorem G9_ok (N:Nat):CfgOk Try.prog (G9 N):=add_one [.d tPt,.d (.arr 2 tLt)] .bool (fun a=>g9 N a.1 a.2.1) [] [] (g9An N) (G29_ok N) Try.func9 (by kernel_rfl) (by kernel_rfl) (lokT (told_ok (g9Tl N) rfl rfl ⟨g9L122_ok N,trivial⟩)) (.inr rfl) fun a=>by kernel_rfl
end
end Go.Pv
