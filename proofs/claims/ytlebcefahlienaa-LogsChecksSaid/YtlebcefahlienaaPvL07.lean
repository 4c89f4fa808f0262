/- The loops of the plain functions, round by round. -/
import Derived.Test.YtlebcefahlienaaPvG07
set_option linter.unusedVariables false
namespace Go.Pv
noncomputable section
def g26L12f (N F:Nat) {C:Type} (k0:Int→Option C) (t0 t1:Int):Option C :=
 itP (α:=Prod1 [.a (.d tIt),.a (.d tIt)]×ProdO []) (fun rec a=>g26L12B N (fun t0 t1=>rec ((t0,t1,()),(()))) k0 a.1.1 a.1.2.1) F ((t0,t1,()),(()))
theorem g26L12_eq (N:Nat) {C:Type} (k0:Int→Option C) (t0 t1:Int):g26L12 N k0 t0 t1 = g26L12f N N k0 t0 t1:=rfl
theorem g26L12f_succ (N F:Nat) {C:Type} (k0:Int→Option C) (t0 t1:Int):g26L12f N (F + 1) k0 t0 t1 = g26L12B N (fun t0 t1=>g26L12f N F k0 t0 t1) k0 t0 t1:=rfl
def g57L7474f (N F:Nat) {C:Type} (k0:Int→LIt→Int→Int→Option C) (t3 t5:Int) (t6:List (Int)) (t7 t8:Int):Option C :=
 itP (α:=Prod1 [.a (.d tIt),.a (.d tIt),.a (.d tLt),.a (.d tIt),.a (.d tIt)]×ProdO []) (fun rec a=>g57L7474B N (fun t3 t5 t6 t7 t8=>rec ((t3,t5,t6,t7,t8,()),(()))) k0 a.1.1 a.1.2.1 a.1.2.2.1 a.1.2.2.2.1 a.1.2.2.2.2.1) F ((t3,t5,t6,t7,t8,()),(()))
theorem g57L7474_eq (N:Nat) {C:Type} (k0:Int→LIt→Int→Int→Option C) (t3 t5:Int) (t6:List (Int)) (t7 t8:Int):g57L7474 N k0 t3 t5 t6 t7 t8 = g57L7474f N N k0 t3 t5 t6 t7 t8:=rfl
theorem g57L7474f_succ (N F:Nat) {C:Type} (k0:Int→LIt→Int→Int→Option C) (t3 t5:Int) (t6:List (Int)) (t7 t8:Int):g57L7474f N (F + 1) k0 t3 t5 t6 t7 t8 = g57L7474B N (fun t3 t5 t6 t7 t8=>g57L7474f N F k0 t3 t5 t6 t7 t8) k0 t3 t5 t6 t7 t8:=rfl
def g57L58f (N F:Nat) {C:Type} (k0:Int→Option C) (t3:Int) (t6:List (Int)) (t7 t8:Int):Option C :=
 itP (α:=Prod1 [.a (.d tIt),.a (.d tLt),.a (.d tIt),.a (.d tIt)]×ProdO []) (fun rec a=>g57L58B N (fun t3 t6 t7 t8=>rec ((t3,t6,t7,t8,()),(()))) k0 a.1.1 a.1.2.1 a.1.2.2.1 a.1.2.2.2.1) F ((t3,t6,t7,t8,()),(()))
theorem g57L58_eq (N:Nat) {C:Type} (k0:Int→Option C) (t3:Int) (t6:List (Int)) (t7 t8:Int):g57L58 N k0 t3 t6 t7 t8 = g57L58f N N k0 t3 t6 t7 t8:=rfl
theorem g57L58f_succ (N F:Nat) {C:Type} (k0:Int→Option C) (t3:Int) (t6:List (Int)) (t7 t8:Int):g57L58f N (F + 1) k0 t3 t6 t7 t8 = g57L58B N (fun t3 t6 t7 t8=>g57L58f N F k0 t3 t6 t7 t8) k0 t3 t6 t7 t8:=rfl
def g19L26f (N F:Nat) {C:Type} (k0:Int→Int→Int→Int→Bool→Int→Option C) (k1:Int→Int→Int→Option C) (t0 t1 t2:Int) (t16:List (Int)) (t17 t18:Int):Option C :=
 itP (α:=Prod1 g19L26V×ProdO g19L26O) (fun rec a=>g19L26B N (fun t0 t1 t2 t16 t17 t18=>rec ((t0,t1,t2,t16,t17,t18,()),(()))) k0 k1 a.1.1 a.1.2.1 a.1.2.2.1 a.1.2.2.2.1 a.1.2.2.2.2.1 a.1.2.2.2.2.2.1) F ((t0,t1,t2,t16,t17,t18,()),(()))
theorem g19L26_eq (N:Nat) {C:Type} (k0:Int→Int→Int→Int→Bool→Int→Option C) (k1:Int→Int→Int→Option C) (t0 t1 t2:Int) (t16:List (Int)) (t17 t18:Int):g19L26 N k0 k1 t0 t1 t2 t16 t17 t18 = g19L26f N N k0 k1 t0 t1 t2 t16 t17 t18:=rfl
theorem g19L26f_succ (N F:Nat) {C:Type} (k0:Int→Int→Int→Int→Bool→Int→Option C) (k1:Int→Int→Int→Option C) (t0 t1 t2:Int) (t16:List (Int)) (t17 t18:Int):g19L26f N (F + 1) k0 k1 t0 t1 t2 t16 t17 t18 = g19L26B N (fun t0 t1 t2 t16 t17 t18=>g19L26f N F k0 k1 t0 t1 t2 t16 t17 t18) k0 k1 t0 t1 t2 t16 t17 t18:=rfl
def g17L28f (N F:Nat) {C:Type} (k0:Int→Option C) (t0 t1:Int):Option C :=
 itP (α:=Prod1 [.a (.d tIt),.a (.d tIt)]×ProdO []) (fun rec a=>g17L28B N (fun t0 t1=>rec ((t0,t1,()),(()))) k0 a.1.1 a.1.2.1) F ((t0,t1,()),(()))
theorem g17L28_eq (N:Nat) {C:Type} (k0:Int→Option C) (t0 t1:Int):g17L28 N k0 t0 t1 = g17L28f N N k0 t0 t1:=rfl
theorem g17L28f_succ (N F:Nat) {C:Type} (k0:Int→Option C) (t0 t1:Int):g17L28f N (F + 1) k0 t0 t1 = g17L28B N (fun t0 t1=>g17L28f N F k0 t0 t1) k0 t0 t1:=rfl
end
end Go.Pv
