/- The loops of the plain functions, round by round. -/
import Derived.Test.YtiinfljjfceckaaGreatDoorPvG9Z
set_option linter.unusedVariables false
namespace Go.Pv
noncomputable section
def g26L58f (N F:Nat) {C:Type} (k0:LMt→Option C) (t0:List LIt) (t4:Int) (o3:List LIt):Option C :=
 itP (α:=Prod1 [.a (.d (.lst tLt)),.a (.sl tLt 3 0),.a (.d tIt)]×ProdO [.vec tLt]) (fun rec a=>g26L58B N (fun t0 t4 o3=>rec ((t0,(),t4,()),(o3,()))) k0 a.1.1 a.1.2.2.1 a.2.1) F ((t0,(),t4,()),(o3,()))
theorem g26L58_eq (N:Nat) {C:Type} (k0:LMt→Option C) (t0:List LIt) (t4:Int) (o3:List LIt):g26L58 N k0 t0 t4 o3 = g26L58f N N k0 t0 t4 o3:=rfl
theorem g26L58f_succ (N F:Nat) {C:Type} (k0:LMt→Option C) (t0:List LIt) (t4:Int) (o3:List LIt):g26L58f N (F + 1) k0 t0 t4 o3 = g26L58B N (fun t0 t4 o3=>g26L58f N F k0 t0 t4 o3) k0 t0 t4 o3:=rfl
def g7L32038f (N F:Nat) {C:Type} (k0:Bool→Int→Int→Int→(LMt×(LMt×(Unit)))→Option C) (k1:Int→Int→Int→(LMt×(LMt×(Unit)))→Option C) (t3 t4:Int) (t5 t6:Int) (o1:LMt×(LMt×(Unit))):Option C :=
 itP (α:=Prod1 g7L32038V×ProdO g7L32038O) (fun rec a=>g7L32038B N (fun t3 t4 t5 t6 o1=>rec (((),t3,t4,t5,t6,()),(o1,()))) k0 k1 a.1.2.1 a.1.2.2.1 a.1.2.2.2.1 a.1.2.2.2.2.1 a.2.1) F (((),t3,t4,t5,t6,()),(o1,()))
theorem g7L32038_eq (N:Nat) {C:Type} (k0:Bool→Int→Int→Int→(LMt×(LMt×(Unit)))→Option C) (k1:Int→Int→Int→(LMt×(LMt×(Unit)))→Option C) (t3 t4:Int) (t5 t6:Int) (o1:LMt×(LMt×(Unit))):g7L32038 N k0 k1 t3 t4 t5 t6 o1 = g7L32038f N N k0 k1 t3 t4 t5 t6 o1:=rfl
theorem g7L32038f_succ (N F:Nat) {C:Type} (k0:Bool→Int→Int→Int→(LMt×(LMt×(Unit)))→Option C) (k1:Int→Int→Int→(LMt×(LMt×(Unit)))→Option C) (t3 t4:Int) (t5 t6:Int) (o1:LMt×(LMt×(Unit))):g7L32038f N (F + 1) k0 k1 t3 t4 t5 t6 o1 = g7L32038B N (fun t3 t4 t5 t6 o1=>g7L32038f N F k0 k1 t3 t4 t5 t6 o1) k0 k1 t3 t4 t5 t6 o1:=rfl
def g7L250f (N F:Nat) {C:Type} (k0:Bool→Int→(LMt×(LMt×(Unit)))→Option C) (k1:Int→(LMt×(LMt×(Unit)))→Option C) (t3 t4 t5:Int) (o1:LMt×(LMt×(Unit))):Option C :=
 itP (α:=Prod1 g7L250V×ProdO g7L250O) (fun rec a=>g7L250B N (fun t3 t4 t5 o1=>rec (((),t3,t4,t5,()),(o1,()))) k0 k1 a.1.2.1 a.1.2.2.1 a.1.2.2.2.1 a.2.1) F (((),t3,t4,t5,()),(o1,()))
theorem g7L250_eq (N:Nat) {C:Type} (k0:Bool→Int→(LMt×(LMt×(Unit)))→Option C) (k1:Int→(LMt×(LMt×(Unit)))→Option C) (t3 t4 t5:Int) (o1:LMt×(LMt×(Unit))):g7L250 N k0 k1 t3 t4 t5 o1 = g7L250f N N k0 k1 t3 t4 t5 o1:=rfl
theorem g7L250f_succ (N F:Nat) {C:Type} (k0:Bool→Int→(LMt×(LMt×(Unit)))→Option C) (k1:Int→(LMt×(LMt×(Unit)))→Option C) (t3 t4 t5:Int) (o1:LMt×(LMt×(Unit))):g7L250f N (F + 1) k0 k1 t3 t4 t5 o1 = g7L250B N (fun t3 t4 t5 o1=>g7L250f N F k0 k1 t3 t4 t5 o1) k0 k1 t3 t4 t5 o1:=rfl
def g76L26f (N F:Nat) {C:Type} (k0:Int→Option C) (k1:Option C) (t0:List (Int)) (t1:((Int)×(Unit))→Option (Bool)) (t7 t8:Int):Option C :=
 itP (α:=Prod1 [.a (.d tLt),.a (.c (.pair tIt .unit) .bool),.a (.d tIt),.a (.d tIt)]×ProdO []) (fun rec a=>g76L26B N (fun t0 t1 t7 t8=>rec ((t0,t1,t7,t8,()),(()))) k0 k1 a.1.1 a.1.2.1 a.1.2.2.1 a.1.2.2.2.1) F ((t0,t1,t7,t8,()),(()))
theorem g76L26_eq (N:Nat) {C:Type} (k0:Int→Option C) (k1:Option C) (t0:List (Int)) (t1:((Int)×(Unit))→Option (Bool)) (t7 t8:Int):g76L26 N k0 k1 t0 t1 t7 t8 = g76L26f N N k0 k1 t0 t1 t7 t8:=rfl
theorem g76L26f_succ (N F:Nat) {C:Type} (k0:Int→Option C) (k1:Option C) (t0:List (Int)) (t1:((Int)×(Unit))→Option (Bool)) (t7 t8:Int):g76L26f N (F + 1) k0 k1 t0 t1 t7 t8 = g76L26B N (fun t0 t1 t7 t8=>g76L26f N F k0 k1 t0 t1 t7 t8) k0 k1 t0 t1 t7 t8:=rfl
def g8L122f (N F:Nat) {C:Type} (k0:Int→(LMt×(LMt×(Unit)))→Option C) (k1:(LMt×(LMt×(Unit)))→Option C) (t3:Int) (t31:List LIt) (t32 t33:Int) (o1:LMt×(LMt×(Unit))):Option C :=
 itP (α:=Prod1 g8L122V×ProdO g8L122O) (fun rec a=>g8L122B N (fun t3 t31 t32 t33 o1=>rec (((),t3,t31,t32,t33,()),(o1,()))) k0 k1 a.1.2.1 a.1.2.2.1 a.1.2.2.2.1 a.1.2.2.2.2.1 a.2.1) F (((),t3,t31,t32,t33,()),(o1,()))
theorem g8L122_eq (N:Nat) {C:Type} (k0:Int→(LMt×(LMt×(Unit)))→Option C) (k1:(LMt×(LMt×(Unit)))→Option C) (t3:Int) (t31:List LIt) (t32 t33:Int) (o1:LMt×(LMt×(Unit))):g8L122 N k0 k1 t3 t31 t32 t33 o1 = g8L122f N N k0 k1 t3 t31 t32 t33 o1:=rfl
theorem g8L122f_succ (N F:Nat) {C:Type} (k0:Int→(LMt×(LMt×(Unit)))→Option C) (k1:(LMt×(LMt×(Unit)))→Option C) (t3:Int) (t31:List LIt) (t32 t33:Int) (o1:LMt×(LMt×(Unit))):g8L122f N (F + 1) k0 k1 t3 t31 t32 t33 o1 = g8L122B N (fun t3 t31 t32 t33 o1=>g8L122f N F k0 k1 t3 t31 t32 t33 o1) k0 k1 t3 t31 t32 t33 o1:=rfl
def g31L26f (N F:Nat) {C:Type} (k0:(List (LMt×(LMt×(Unit))))→Int→LMt→Int→Option C) (k1:(List (LMt×(LMt×(Unit))))→Int→LMt→Option C) (t0:List (LMt×(LMt×(Unit)))) (t1:Int) (t2:List LIt) (t14:List (LMt×(LMt×(Unit)))) (t15 t16:Int):Option C :=
 itP (α:=Prod1 g31L26V×ProdO g31L26O) (fun rec a=>g31L26B N (fun t0 t1 t2 t14 t15 t16=>rec ((t0,t1,t2,t14,t15,t16,()),(()))) k0 k1 a.1.1 a.1.2.1 a.1.2.2.1 a.1.2.2.2.1 a.1.2.2.2.2.1 a.1.2.2.2.2.2.1) F ((t0,t1,t2,t14,t15,t16,()),(()))
theorem g31L26_eq (N:Nat) {C:Type} (k0:(List (LMt×(LMt×(Unit))))→Int→LMt→Int→Option C) (k1:(List (LMt×(LMt×(Unit))))→Int→LMt→Option C) (t0:List (LMt×(LMt×(Unit)))) (t1:Int) (t2:List LIt) (t14:List (LMt×(LMt×(Unit)))) (t15 t16:Int):g31L26 N k0 k1 t0 t1 t2 t14 t15 t16 = g31L26f N N k0 k1 t0 t1 t2 t14 t15 t16:=rfl
theorem g31L26f_succ (N F:Nat) {C:Type} (k0:(List (LMt×(LMt×(Unit))))→Int→LMt→Int→Option C) (k1:(List (LMt×(LMt×(Unit))))→Int→LMt→Option C) (t0:List (LMt×(LMt×(Unit)))) (t1:Int) (t2:List LIt) (t14:List (LMt×(LMt×(Unit)))) (t15 t16:Int):g31L26f N (F + 1) k0 k1 t0 t1 t2 t14 t15 t16 = g31L26B N (fun t0 t1 t2 t14 t15 t16=>g31L26f N F k0 k1 t0 t1 t2 t14 t15 t16) k0 k1 t0 t1 t2 t14 t15 t16:=rfl
def g31L58f (N F:Nat) {C:Type} (k0:(List (LMt×(LMt×(Unit))))→Int→LMt→Int→Option C) (k1:(List (LMt×(LMt×(Unit))))→Int→LMt→Option C) (t0:List (LMt×(LMt×(Unit)))) (t1:Int) (t2:List LIt) (t26:List (LMt×(LMt×(Unit)))) (t27 t28:Int):Option C :=
 itP (α:=Prod1 g31L58V×ProdO g31L58O) (fun rec a=>g31L58B N (fun t0 t1 t2 t26 t27 t28=>rec ((t0,t1,t2,t26,t27,t28,()),(()))) k0 k1 a.1.1 a.1.2.1 a.1.2.2.1 a.1.2.2.2.1 a.1.2.2.2.2.1 a.1.2.2.2.2.2.1) F ((t0,t1,t2,t26,t27,t28,()),(()))
theorem g31L58_eq (N:Nat) {C:Type} (k0:(List (LMt×(LMt×(Unit))))→Int→LMt→Int→Option C) (k1:(List (LMt×(LMt×(Unit))))→Int→LMt→Option C) (t0:List (LMt×(LMt×(Unit)))) (t1:Int) (t2:List LIt) (t26:List (LMt×(LMt×(Unit)))) (t27 t28:Int):g31L58 N k0 k1 t0 t1 t2 t26 t27 t28 = g31L58f N N k0 k1 t0 t1 t2 t26 t27 t28:=rfl
theorem g31L58f_succ (N F:Nat) {C:Type} (k0:(List (LMt×(LMt×(Unit))))→Int→LMt→Int→Option C) (k1:(List (LMt×(LMt×(Unit))))→Int→LMt→Option C) (t0:List (LMt×(LMt×(Unit)))) (t1:Int) (t2:List LIt) (t26:List (LMt×(LMt×(Unit)))) (t27 t28:Int):g31L58f N (F + 1) k0 k1 t0 t1 t2 t26 t27 t28 = g31L58B N (fun t0 t1 t2 t26 t27 t28=>g31L58f N F k0 k1 t0 t1 t2 t26 t27 t28) k0 k1 t0 t1 t2 t26 t27 t28:=rfl
def g31L250f (N F:Nat) {C:Type} (k0:Int→Option C) (k1:Option C) (t0:List (LMt×(LMt×(Unit)))) (t49:List LIt) (t50 t51:Int):Option C :=
 itP (α:=Prod1 g31L250V×ProdO g31L250O) (fun rec a=>g31L250B N (fun t0 t49 t50 t51=>rec ((t0,t49,t50,t51,()),(()))) k0 k1 a.1.1 a.1.2.1 a.1.2.2.1 a.1.2.2.2.1) F ((t0,t49,t50,t51,()),(()))
theorem g31L250_eq (N:Nat) {C:Type} (k0:Int→Option C) (k1:Option C) (t0:List (LMt×(LMt×(Unit)))) (t49:List LIt) (t50 t51:Int):g31L250 N k0 k1 t0 t49 t50 t51 = g31L250f N N k0 k1 t0 t49 t50 t51:=rfl
theorem g31L250f_succ (N F:Nat) {C:Type} (k0:Int→Option C) (k1:Option C) (t0:List (LMt×(LMt×(Unit)))) (t49:List LIt) (t50 t51:Int):g31L250f N (F + 1) k0 k1 t0 t49 t50 t51 = g31L250B N (fun t0 t49 t50 t51=>g31L250f N F k0 k1 t0 t49 t50 t51) k0 k1 t0 t49 t50 t51:=rfl
def g18L26f (N F:Nat) {C:Type} (k0:LIt→Bool→(LMt×(LMt×(Unit)))→Option C) (k1:LIt→(LMt×(LMt×(Unit)))→Option C) (t1:List (Int)) (t5:Int) (o2:LMt×(LMt×(Unit))):Option C :=
 itP (α:=Prod1 g18L26V×ProdO g18L26O) (fun rec a=>g18L26B N (fun t1 t5 o2=>rec ((t1,(),t5,()),(o2,()))) k0 k1 a.1.1 a.1.2.2.1 a.2.1) F ((t1,(),t5,()),(o2,()))
theorem g18L26_eq (N:Nat) {C:Type} (k0:LIt→Bool→(LMt×(LMt×(Unit)))→Option C) (k1:LIt→(LMt×(LMt×(Unit)))→Option C) (t1:List (Int)) (t5:Int) (o2:LMt×(LMt×(Unit))):g18L26 N k0 k1 t1 t5 o2 = g18L26f N N k0 k1 t1 t5 o2:=rfl
theorem g18L26f_succ (N F:Nat) {C:Type} (k0:LIt→Bool→(LMt×(LMt×(Unit)))→Option C) (k1:LIt→(LMt×(LMt×(Unit)))→Option C) (t1:List (Int)) (t5:Int) (o2:LMt×(LMt×(Unit))):g18L26f N (F + 1) k0 k1 t1 t5 o2 = g18L26B N (fun t1 t5 o2=>g18L26f N F k0 k1 t1 t5 o2) k0 k1 t1 t5 o2:=rfl
end
end Go.Pv
