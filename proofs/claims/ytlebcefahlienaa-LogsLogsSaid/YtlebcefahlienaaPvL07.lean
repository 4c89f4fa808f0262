/- The loops of the plain functions, round by round. -/
import Derived.Test.YtlebcefahlienaaPvG07
set_option linter.unusedVariables false
namespace Go.Pv
noncomputable section
def g26L12f (N F:Nat) {C:Type} (k0:Int→Option C) (t0 t1:Int):Option C :=
 itP (α:=Prod1 [.a (.d tIt),.a (.d tIt)]×ProdO []) (fun rec a=>g26L12B N (fun t0 t1=>rec ((t0,t1,()),(()))) k0 a.1.1 a.1.2.1) F ((t0,t1,()),(()))
theorem g26L12_eq (N:Nat) {C:Type} (k0:Int→Option C) (t0 t1:Int):g26L12 N k0 t0 t1 = g26L12f N N k0 t0 t1:=rfl
theorem g26L12f_succ (N F:Nat) {C:Type} (k0:Int→Option C) (t0 t1:Int):g26L12f N (F + 1) k0 t0 t1 = g26L12B N (fun t0 t1=>g26L12f N F k0 t0 t1) k0 t0 t1:=rfl
def g17L28f (N F:Nat) {C:Type} (k0:Int→Option C) (t0 t1:Int):Option C :=
 itP (α:=Prod1 [.a (.d tIt),.a (.d tIt)]×ProdO []) (fun rec a=>g17L28B N (fun t0 t1=>rec ((t0,t1,()),(()))) k0 a.1.1 a.1.2.1) F ((t0,t1,()),(()))
theorem g17L28_eq (N:Nat) {C:Type} (k0:Int→Option C) (t0 t1:Int):g17L28 N k0 t0 t1 = g17L28f N N k0 t0 t1:=rfl
theorem g17L28f_succ (N F:Nat) {C:Type} (k0:Int→Option C) (t0 t1:Int):g17L28f N (F + 1) k0 t0 t1 = g17L28B N (fun t0 t1=>g17L28f N F k0 t0 t1) k0 t0 t1:=rfl
def g18L58f (N F:Nat) {C:Type} (k0:Int→Option C) (t0 t1:Int) (t2 t7:Int):Option C :=
 itP (α:=Prod1 [.a (.d tIt),.a (.d tIt),.a (.d tIt),.a (.d tIt)]×ProdO []) (fun rec a=>g18L58B N (fun t0 t1 t2 t7=>rec ((t0,t1,t2,t7,()),(()))) k0 a.1.1 a.1.2.1 a.1.2.2.1 a.1.2.2.2.1) F ((t0,t1,t2,t7,()),(()))
theorem g18L58_eq (N:Nat) {C:Type} (k0:Int→Option C) (t0 t1:Int) (t2 t7:Int):g18L58 N k0 t0 t1 t2 t7 = g18L58f N N k0 t0 t1 t2 t7:=rfl
theorem g18L58f_succ (N F:Nat) {C:Type} (k0:Int→Option C) (t0 t1:Int) (t2 t7:Int):g18L58f N (F + 1) k0 t0 t1 t2 t7 = g18L58B N (fun t0 t1 t2 t7=>g18L58f N F k0 t0 t1 t2 t7) k0 t0 t1 t2 t7:=rfl
def g57L7474f (N F:Nat) {C:Type} (k0:Int→LIt→Int→Int→Option C) (t3 t5:Int) (t6:List (Int)) (t7 t8:Int):Option C :=
 itP (α:=Prod1 [.a (.d tIt),.a (.d tIt),.a (.d tLt),.a (.d tIt),.a (.d tIt)]×ProdO []) (fun rec a=>g57L7474B N (fun t3 t5 t6 t7 t8=>rec ((t3,t5,t6,t7,t8,()),(()))) k0 a.1.1 a.1.2.1 a.1.2.2.1 a.1.2.2.2.1 a.1.2.2.2.2.1) F ((t3,t5,t6,t7,t8,()),(()))
theorem g57L7474_eq (N:Nat) {C:Type} (k0:Int→LIt→Int→Int→Option C) (t3 t5:Int) (t6:List (Int)) (t7 t8:Int):g57L7474 N k0 t3 t5 t6 t7 t8 = g57L7474f N N k0 t3 t5 t6 t7 t8:=rfl
theorem g57L7474f_succ (N F:Nat) {C:Type} (k0:Int→LIt→Int→Int→Option C) (t3 t5:Int) (t6:List (Int)) (t7 t8:Int):g57L7474f N (F + 1) k0 t3 t5 t6 t7 t8 = g57L7474B N (fun t3 t5 t6 t7 t8=>g57L7474f N F k0 t3 t5 t6 t7 t8) k0 t3 t5 t6 t7 t8:=rfl
def g57L58f (N F:Nat) {C:Type} (k0:Int→Option C) (t3:Int) (t6:List (Int)) (t7 t8:Int):Option C :=
 itP (α:=Prod1 [.a (.d tIt),.a (.d tLt),.a (.d tIt),.a (.d tIt)]×ProdO []) (fun rec a=>g57L58B N (fun t3 t6 t7 t8=>rec ((t3,t6,t7,t8,()),(()))) k0 a.1.1 a.1.2.1 a.1.2.2.1 a.1.2.2.2.1) F ((t3,t6,t7,t8,()),(()))
theorem g57L58_eq (N:Nat) {C:Type} (k0:Int→Option C) (t3:Int) (t6:List (Int)) (t7 t8:Int):g57L58 N k0 t3 t6 t7 t8 = g57L58f N N k0 t3 t6 t7 t8:=rfl
theorem g57L58f_succ (N F:Nat) {C:Type} (k0:Int→Option C) (t3:Int) (t6:List (Int)) (t7 t8:Int):g57L58f N (F + 1) k0 t3 t6 t7 t8 = g57L58B N (fun t3 t6 t7 t8=>g57L58f N F k0 t3 t6 t7 t8) k0 t3 t6 t7 t8:=rfl
def g19L26f (N F:Nat) {C:Type} (k0:Int→Int→Int→Int→Bool→Int→Option C) (k1:Int→Int→Int→Option C) (t0 t1 t2:Int) (t16:List (Int)) (t17 t18:Int):Option C :=
 itP (α:=Prod1 g19L26V×ProdO g19L26O) (fun rec a=>g19L26B N (fun t0 t1 t2 t16 t17 t18=>rec ((t0,t1,t2,t16,t17,t18,()),(()))) k0 k1 a.1.1 a.1.2.1 a.1.2.2.1 a.1.2.2.2.1 a.1.2.2.2.2.1 a.1.2.2.2.2.2.1) F ((t0,t1,t2,t16,t17,t18,()),(()))
theorem g19L26_eq (N:Nat) {C:Type} (k0:Int→Int→Int→Int→Bool→Int→Option C) (k1:Int→Int→Int→Option C) (t0 t1 t2:Int) (t16:List (Int)) (t17 t18:Int):g19L26 N k0 k1 t0 t1 t2 t16 t17 t18 = g19L26f N N k0 k1 t0 t1 t2 t16 t17 t18:=rfl
theorem g19L26f_succ (N F:Nat) {C:Type} (k0:Int→Int→Int→Int→Bool→Int→Option C) (k1:Int→Int→Int→Option C) (t0 t1 t2:Int) (t16:List (Int)) (t17 t18:Int):g19L26f N (F + 1) k0 k1 t0 t1 t2 t16 t17 t18 = g19L26B N (fun t0 t1 t2 t16 t17 t18=>g19L26f N F k0 k1 t0 t1 t2 t16 t17 t18) k0 k1 t0 t1 t2 t16 t17 t18:=rfl
theorem g60R58_run (N:Nat) (o3 k:Int) (y0:(Int)×TQ3):(g60R58 N).told.run [(.ref 3 0 [])] (k,(o3,())) [.dat tQ2 y0] = if k = 0 then g60R58B N (fun o3=>some ((0,(o3,())),true)) o3 y0 else none:=rfl
def g71xL1612f (N F:Nat) (t:Ty) {C:Type} (k0:Int→TQ1→(Cbs t)→(t.T)→Int→Option C) (t3:Int) (o4:(Int)×TQ3) (o100000r:Cbs t) (o100000x:t.T) (o100001:Int):Option C :=
 itP (α:=Prod1 [.a (.cb 0),.a (.ref 100001 0 []),.a (.d tIt),.a (.ref 4 0 [])]×ProdO [.box (.d tQ2) (.a (.d tQ2)),.gh t,.box (.d tIt) (.a (.d tIt))]) (fun rec a=>g71xL1612B N t (fun t3 o4 o100000r o100000x o100001=>rec (((),(),t3,(),()),(o4,(o100000r,o100000x),o100001,()))) k0 a.1.2.2.1 a.2.1 a.2.2.1.1 a.2.2.1.2 a.2.2.2.1) F (((),(),t3,(),()),(o4,(o100000r,o100000x),o100001,()))
theorem g71xL1612_eq (N:Nat) (t:Ty) {C:Type} (k0:Int→TQ1→(Cbs t)→(t.T)→Int→Option C) (t3:Int) (o4:(Int)×TQ3) (o100000r:Cbs t) (o100000x:t.T) (o100001:Int):g71xL1612 N t k0 t3 o4 o100000r o100000x o100001 = g71xL1612f N N t k0 t3 o4 o100000r o100000x o100001:=rfl
theorem g71xL1612f_succ (N F:Nat) (t:Ty) {C:Type} (k0:Int→TQ1→(Cbs t)→(t.T)→Int→Option C) (t3:Int) (o4:(Int)×TQ3) (o100000r:Cbs t) (o100000x:t.T) (o100001:Int):g71xL1612f N (F + 1) t k0 t3 o4 o100000r o100000x o100001 = g71xL1612B N t (fun t3 o4 o100000r o100000x o100001=>g71xL1612f N F t k0 t3 o4 o100000r o100000x o100001) k0 t3 o4 o100000r o100000x o100001:=rfl
def g71xL6f (N F:Nat) (t:Ty) {C:Type} (k0 k1:(Cbs t)→(t.T)→Int→Option C) (t3:Int) (o100000r:Cbs t) (o100000x:t.T) (o100001:Int):Option C :=
 itP (α:=Prod1 [.a (.cb 0),.a (.ref 100001 0 []),.a (.d tIt)]×ProdO [.gh t,.box (.d tIt) (.a (.d tIt))]) (fun rec a=>g71xL6B N t (fun t3 o100000r o100000x o100001=>rec (((),(),t3,()),((o100000r,o100000x),o100001,()))) k0 k1 a.1.2.2.1 a.2.1.1 a.2.1.2 a.2.2.1) F (((),(),t3,()),((o100000r,o100000x),o100001,()))
theorem g71xL6_eq (N:Nat) (t:Ty) {C:Type} (k0 k1:(Cbs t)→(t.T)→Int→Option C) (t3:Int) (o100000r:Cbs t) (o100000x:t.T) (o100001:Int):g71xL6 N t k0 k1 t3 o100000r o100000x o100001 = g71xL6f N N t k0 k1 t3 o100000r o100000x o100001:=rfl
theorem g71xL6f_succ (N F:Nat) (t:Ty) {C:Type} (k0 k1:(Cbs t)→(t.T)→Int→Option C) (t3:Int) (o100000r:Cbs t) (o100000x:t.T) (o100001:Int):g71xL6f N (F + 1) t k0 k1 t3 o100000r o100000x o100001 = g71xL6B N t (fun t3 o100000r o100000x o100001=>g71xL6f N F t k0 k1 t3 o100000r o100000x o100001) k0 k1 t3 o100000r o100000x o100001:=rfl
def g58L28f (N F:Nat) {C:Type} (k0:Int→Option C) (t0 t1:Int) (t2 t7:Int):Option C :=
 itP (α:=Prod1 [.a (.d tIt),.a (.d tIt),.a (.d tIt),.a (.d tIt)]×ProdO []) (fun rec a=>g58L28B N (fun t0 t1 t2 t7=>rec ((t0,t1,t2,t7,()),(()))) k0 a.1.1 a.1.2.1 a.1.2.2.1 a.1.2.2.2.1) F ((t0,t1,t2,t7,()),(()))
theorem g58L28_eq (N:Nat) {C:Type} (k0:Int→Option C) (t0 t1:Int) (t2 t7:Int):g58L28 N k0 t0 t1 t2 t7 = g58L28f N N k0 t0 t1 t2 t7:=rfl
theorem g58L28f_succ (N F:Nat) {C:Type} (k0:Int→Option C) (t0 t1:Int) (t2 t7:Int):g58L28f N (F + 1) k0 t0 t1 t2 t7 = g58L28B N (fun t0 t1 t2 t7=>g58L28f N F k0 t0 t1 t2 t7) k0 t0 t1 t2 t7:=rfl
def g61L4052f (N F:Nat) {C:Type} (k0:Int→TQ1→(TQ3→Option (Bool))→Option C) (t8:TQ3→Option (Bool)) (o5:Int) (o9:(Int)×TQ3) (o400001:TQ3→Option (Bool)):Option C :=
 itP (α:=Prod1 g61L4052V×ProdO g61L4052O) (fun rec a=>g61L4052B N (fun t8 o5 o9 o400001=>rec (((),t8,(),()),(o5,o9,(),o400001,()))) k0 a.1.2.1 a.2.1 a.2.2.1 a.2.2.2.2.1) F (((),t8,(),()),(o5,o9,(),o400001,()))
theorem g61L4052_eq (N:Nat) {C:Type} (k0:Int→TQ1→(TQ3→Option (Bool))→Option C) (t8:TQ3→Option (Bool)) (o5:Int) (o9:(Int)×TQ3) (o400001:TQ3→Option (Bool)):g61L4052 N k0 t8 o5 o9 o400001 = g61L4052f N N k0 t8 o5 o9 o400001:=rfl
theorem g61L4052f_succ (N F:Nat) {C:Type} (k0:Int→TQ1→(TQ3→Option (Bool))→Option C) (t8:TQ3→Option (Bool)) (o5:Int) (o9:(Int)×TQ3) (o400001:TQ3→Option (Bool)):g61L4052f N (F + 1) k0 t8 o5 o9 o400001 = g61L4052B N (fun t8 o5 o9 o400001=>g61L4052f N F k0 t8 o5 o9 o400001) k0 t8 o5 o9 o400001:=rfl
theorem g61R506_run (N:Nat) (t8:TQ3→Option (Bool)) (o5 k:Int) (y0:(Int)×TQ3):(g61R506 N).told.run [(.ref 5 0 []),(.eptr (.clo (.pair tIt .unit) .bool t8))] (k,(o5,())) [.dat tQ2 y0] = if k = 0 then g61R506B N (fun o5=>some ((0,(o5,())),true)) t8 o5 y0 else none:=rfl
def g53L108f (N F:Nat) {C:Type} (k0:Int→Int→Int→Int→Int→Option C) (t0 t1:Int) (t2 t8 t9:Int):Option C :=
 itP (α:=Prod1 [.a (.d tIt),.a (.d tIt),.a (.d tIt),.a (.d tIt),.a (.d tIt)]×ProdO []) (fun rec a=>g53L108B N (fun t0 t1 t2 t8 t9=>rec ((t0,t1,t2,t8,t9,()),(()))) k0 a.1.1 a.1.2.1 a.1.2.2.1 a.1.2.2.2.1 a.1.2.2.2.2.1) F ((t0,t1,t2,t8,t9,()),(()))
theorem g53L108_eq (N:Nat) {C:Type} (k0:Int→Int→Int→Int→Int→Option C) (t0 t1:Int) (t2 t8 t9:Int):g53L108 N k0 t0 t1 t2 t8 t9 = g53L108f N N k0 t0 t1 t2 t8 t9:=rfl
theorem g53L108f_succ (N F:Nat) {C:Type} (k0:Int→Int→Int→Int→Int→Option C) (t0 t1:Int) (t2 t8 t9:Int):g53L108f N (F + 1) k0 t0 t1 t2 t8 t9 = g53L108B N (fun t0 t1 t2 t8 t9=>g53L108f N F k0 t0 t1 t2 t8 t9) k0 t0 t1 t2 t8 t9:=rfl
def g53L1786f (N F:Nat) {C:Type} (k0:Int→Int→Int→Int→Int→TQ6→Option C) (t0 t1:Int) (t2 t8:Int) (t9 t11:Int) (t34 t35:Int) (o31:List ((Int)×(Int))):Option C :=
 itP (α:=Prod1 g53L1786V×ProdO g53L1786O) (fun rec a=>g53L1786B N (fun t0 t1 t2 t8 t9 t11 t34 t35 o31=>rec ((t0,t1,t2,t8,t9,(),t11,t34,t35,()),(o31,()))) k0 a.1.1 a.1.2.1 a.1.2.2.1 a.1.2.2.2.1 a.1.2.2.2.2.1 a.1.2.2.2.2.2.2.1 a.1.2.2.2.2.2.2.2.1 a.1.2.2.2.2.2.2.2.2.1 a.2.1) F ((t0,t1,t2,t8,t9,(),t11,t34,t35,()),(o31,()))
theorem g53L1786_eq (N:Nat) {C:Type} (k0:Int→Int→Int→Int→Int→TQ6→Option C) (t0 t1:Int) (t2 t8:Int) (t9 t11:Int) (t34 t35:Int) (o31:List ((Int)×(Int))):g53L1786 N k0 t0 t1 t2 t8 t9 t11 t34 t35 o31 = g53L1786f N N k0 t0 t1 t2 t8 t9 t11 t34 t35 o31:=rfl
theorem g53L1786f_succ (N F:Nat) {C:Type} (k0:Int→Int→Int→Int→Int→TQ6→Option C) (t0 t1:Int) (t2 t8:Int) (t9 t11:Int) (t34 t35:Int) (o31:List ((Int)×(Int))):g53L1786f N (F + 1) k0 t0 t1 t2 t8 t9 t11 t34 t35 o31 = g53L1786B N (fun t0 t1 t2 t8 t9 t11 t34 t35 o31=>g53L1786f N F k0 t0 t1 t2 t8 t9 t11 t34 t35 o31) k0 t0 t1 t2 t8 t9 t11 t34 t35 o31:=rfl
def g53L28666f (N F:Nat) {C:Type} (k0:Int→Bool→TQ6→Option C) (t0 t2:Int) (t8 t9:Int) (t15 t16:Int) (t17:Bool) (t59 t60:Int) (o31:List ((Int)×(Int))):Option C :=
 itP (α:=Prod1 g53L28666V×ProdO g53L28666O) (fun rec a=>g53L28666B N (fun t0 t2 t8 t9 t15 t16 t17 t59 t60 o31=>rec ((t0,t2,t8,t9,(),t15,t16,t17,t59,t60,()),(o31,()))) k0 a.1.1 a.1.2.1 a.1.2.2.1 a.1.2.2.2.1 a.1.2.2.2.2.2.1 a.1.2.2.2.2.2.2.1 a.1.2.2.2.2.2.2.2.1 a.1.2.2.2.2.2.2.2.2.1 a.1.2.2.2.2.2.2.2.2.2.1 a.2.1) F ((t0,t2,t8,t9,(),t15,t16,t17,t59,t60,()),(o31,()))
theorem g53L28666_eq (N:Nat) {C:Type} (k0:Int→Bool→TQ6→Option C) (t0 t2:Int) (t8 t9:Int) (t15 t16:Int) (t17:Bool) (t59 t60:Int) (o31:List ((Int)×(Int))):g53L28666 N k0 t0 t2 t8 t9 t15 t16 t17 t59 t60 o31 = g53L28666f N N k0 t0 t2 t8 t9 t15 t16 t17 t59 t60 o31:=rfl
theorem g53L28666f_succ (N F:Nat) {C:Type} (k0:Int→Bool→TQ6→Option C) (t0 t2:Int) (t8 t9:Int) (t15 t16:Int) (t17:Bool) (t59 t60:Int) (o31:List ((Int)×(Int))):g53L28666f N (F + 1) k0 t0 t2 t8 t9 t15 t16 t17 t59 t60 o31 = g53L28666B N (fun t0 t2 t8 t9 t15 t16 t17 t59 t60 o31=>g53L28666f N F k0 t0 t2 t8 t9 t15 t16 t17 t59 t60 o31) k0 t0 t2 t8 t9 t15 t16 t17 t59 t60 o31:=rfl
def g20L58f (N F:Nat) {C:Type} (k0:Int→Option C) (k1:Option C) (t0 t1:Int) (t2 t7 t8:Int):Option C :=
 itP (α:=Prod1 [.a (.d tIt),.a (.d tIt),.a (.d tIt),.a (.d tIt),.a (.d tIt)]×ProdO []) (fun rec a=>g20L58B N (fun t0 t1 t2 t7 t8=>rec ((t0,t1,t2,t7,t8,()),(()))) k0 k1 a.1.1 a.1.2.1 a.1.2.2.1 a.1.2.2.2.1 a.1.2.2.2.2.1) F ((t0,t1,t2,t7,t8,()),(()))
theorem g20L58_eq (N:Nat) {C:Type} (k0:Int→Option C) (k1:Option C) (t0 t1:Int) (t2 t7 t8:Int):g20L58 N k0 k1 t0 t1 t2 t7 t8 = g20L58f N N k0 k1 t0 t1 t2 t7 t8:=rfl
theorem g20L58f_succ (N F:Nat) {C:Type} (k0:Int→Option C) (k1:Option C) (t0 t1:Int) (t2 t7 t8:Int):g20L58f N (F + 1) k0 k1 t0 t1 t2 t7 t8 = g20L58B N (fun t0 t1 t2 t7 t8=>g20L58f N F k0 k1 t0 t1 t2 t7 t8) k0 k1 t0 t1 t2 t7 t8:=rfl
def g3L26f (N F:Nat) {C:Type} (k0:Bool→Option C) (k1:Option C) (t0 t1:Int) (t2 t7:Int):Option C :=
 itP (α:=Prod1 [.a (.d tIt),.a (.d tIt),.a (.d tIt),.a (.d tIt)]×ProdO []) (fun rec a=>g3L26B N (fun t0 t1 t2 t7=>rec ((t0,t1,t2,t7,()),(()))) k0 k1 a.1.1 a.1.2.1 a.1.2.2.1 a.1.2.2.2.1) F ((t0,t1,t2,t7,()),(()))
theorem g3L26_eq (N:Nat) {C:Type} (k0:Bool→Option C) (k1:Option C) (t0 t1:Int) (t2 t7:Int):g3L26 N k0 k1 t0 t1 t2 t7 = g3L26f N N k0 k1 t0 t1 t2 t7:=rfl
theorem g3L26f_succ (N F:Nat) {C:Type} (k0:Bool→Option C) (k1:Option C) (t0 t1:Int) (t2 t7:Int):g3L26f N (F + 1) k0 k1 t0 t1 t2 t7 = g3L26B N (fun t0 t1 t2 t7=>g3L26f N F k0 k1 t0 t1 t2 t7) k0 k1 t0 t1 t2 t7:=rfl
end
end Go.Pv
