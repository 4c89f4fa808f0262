/- The loops of the plain functions, round by round. -/
import Derived.Test.YtldhdlohhiphjaaPvG06
set_option linter.unusedVariables false
namespace Go.Pv
noncomputable section
def g57L122f (N F : Nat) {C : Type} (k0 : Bool → Int → PPt → Option C) (k1 : Int → PPt → Option C) (t3 t4 : Int) (o1 : PPt) : Option C :=
 itP (α := Prod1 [.a (.ref 1 0 []), .a (.d tIt), .a (.d tIt)] × ProdO [.box (.d tPt) (.a (.d tPt))]) (fun rec a => g57L122B N (fun t3 t4 o1 => rec (((), t3, t4, ()), (o1, ()))) k0 k1 a.1.2.1 a.1.2.2.1 a.2.1) F (((), t3, t4, ()), (o1, ()))
theorem g57L122_eq (N : Nat) {C : Type} (k0 : Bool → Int → PPt → Option C) (k1 : Int → PPt → Option C) (t3 t4 : Int) (o1 : PPt) : g57L122 N k0 k1 t3 t4 o1 = g57L122f N N k0 k1 t3 t4 o1 := rfl
theorem g57L122f_succ (N F : Nat) {C : Type} (k0 : Bool → Int → PPt → Option C) (k1 : Int → PPt → Option C) (t3 t4 : Int) (o1 : PPt) : g57L122f N (F + 1) k0 k1 t3 t4 o1 = g57L122B N (fun t3 t4 o1 => g57L122f N F k0 k1 t3 t4 o1) k0 k1 t3 t4 o1 := rfl
def g57L250f (N F : Nat) {C : Type} (k0 : Bool → Int → PPt → Option C) (k1 : Int → PPt → Option C) (t3 t5 : Int) (o1 : PPt) : Option C :=
 itP (α := Prod1 [.a (.ref 1 0 []), .a (.d tIt), .a (.d tIt)] × ProdO [.box (.d tPt) (.a (.d tPt))]) (fun rec a => g57L250B N (fun t3 t5 o1 => rec (((), t3, t5, ()), (o1, ()))) k0 k1 a.1.2.1 a.1.2.2.1 a.2.1) F (((), t3, t5, ()), (o1, ()))
theorem g57L250_eq (N : Nat) {C : Type} (k0 : Bool → Int → PPt → Option C) (k1 : Int → PPt → Option C) (t3 t5 : Int) (o1 : PPt) : g57L250 N k0 k1 t3 t5 o1 = g57L250f N N k0 k1 t3 t5 o1 := rfl
theorem g57L250f_succ (N F : Nat) {C : Type} (k0 : Bool → Int → PPt → Option C) (k1 : Int → PPt → Option C) (t3 t5 : Int) (o1 : PPt) : g57L250f N (F + 1) k0 k1 t3 t5 o1 = g57L250B N (fun t3 t5 o1 => g57L250f N F k0 k1 t3 t5 o1) k0 k1 t3 t5 o1 := rfl
def g57L129610f (N F : Nat) {C : Type} (k0 : Bool → Int → Int → PPt → LIt → Option C) (k1 : Int → Int → PPt → LIt → Option C) (t3 t6 t8 : Int) (o1 : PPt) (o7 : List (Int)) : Option C :=
 itP (α := Prod1 g57L129610V × ProdO g57L129610O) (fun rec a => g57L129610B N (fun t3 t6 t8 o1 o7 => rec (((), t3, t6, (), t8, ()), (o1, o7, ()))) k0 k1 a.1.2.1 a.1.2.2.1 a.1.2.2.2.2.1 a.2.1 a.2.2.1) F (((), t3, t6, (), t8, ()), (o1, o7, ()))
theorem g57L129610_eq (N : Nat) {C : Type} (k0 : Bool → Int → Int → PPt → LIt → Option C) (k1 : Int → Int → PPt → LIt → Option C) (t3 t6 t8 : Int) (o1 : PPt) (o7 : List (Int)) : g57L129610 N k0 k1 t3 t6 t8 o1 o7 = g57L129610f N N k0 k1 t3 t6 t8 o1 o7 := rfl
theorem g57L129610f_succ (N F : Nat) {C : Type} (k0 : Bool → Int → Int → PPt → LIt → Option C) (k1 : Int → Int → PPt → LIt → Option C) (t3 t6 t8 : Int) (o1 : PPt) (o7 : List (Int)) : g57L129610f N (F + 1) k0 k1 t3 t6 t8 o1 o7 = g57L129610B N (fun t3 t6 t8 o1 o7 => g57L129610f N F k0 k1 t3 t6 t8 o1 o7) k0 k1 t3 t6 t8 o1 o7 := rfl
def g57L506f (N F : Nat) {C : Type} (k0 : Bool → PPt → Option C) (k1 : PPt → Option C) (t3 t6 : Int) (o1 : PPt) : Option C :=
 itP (α := Prod1 [.a (.ref 1 0 []), .a (.d tIt), .a (.d tIt)] × ProdO [.box (.d tPt) (.a (.d tPt))]) (fun rec a => g57L506B N (fun t3 t6 o1 => rec (((), t3, t6, ()), (o1, ()))) k0 k1 a.1.2.1 a.1.2.2.1 a.2.1) F (((), t3, t6, ()), (o1, ()))
theorem g57L506_eq (N : Nat) {C : Type} (k0 : Bool → PPt → Option C) (k1 : PPt → Option C) (t3 t6 : Int) (o1 : PPt) : g57L506 N k0 k1 t3 t6 o1 = g57L506f N N k0 k1 t3 t6 o1 := rfl
theorem g57L506f_succ (N F : Nat) {C : Type} (k0 : Bool → PPt → Option C) (k1 : PPt → Option C) (t3 t6 : Int) (o1 : PPt) : g57L506f N (F + 1) k0 k1 t3 t6 o1 = g57L506B N (fun t3 t6 o1 => g57L506f N F k0 k1 t3 t6 o1) k0 k1 t3 t6 o1 := rfl
def g90L26f (N F : Nat) {C : Type} (k0 : Int → Option C) (k1 : Option C) (t0 : List (Int)) (t1 : ((Int) × (Unit)) → Option (Bool)) (t7 t8 : Int) : Option C :=
 itP (α := Prod1 [.a (.d tLt), .a (.c (.pair tIt .unit) .bool), .a (.d tIt), .a (.d tIt)] × ProdO []) (fun rec a => g90L26B N (fun t0 t1 t7 t8 => rec ((t0, t1, t7, t8, ()), (()))) k0 k1 a.1.1 a.1.2.1 a.1.2.2.1 a.1.2.2.2.1) F ((t0, t1, t7, t8, ()), (()))
theorem g90L26_eq (N : Nat) {C : Type} (k0 : Int → Option C) (k1 : Option C) (t0 : List (Int)) (t1 : ((Int) × (Unit)) → Option (Bool)) (t7 t8 : Int) : g90L26 N k0 k1 t0 t1 t7 t8 = g90L26f N N k0 k1 t0 t1 t7 t8 := rfl
theorem g90L26f_succ (N F : Nat) {C : Type} (k0 : Int → Option C) (k1 : Option C) (t0 : List (Int)) (t1 : ((Int) × (Unit)) → Option (Bool)) (t7 t8 : Int) : g90L26f N (F + 1) k0 k1 t0 t1 t7 t8 = g90L26B N (fun t0 t1 t7 t8 => g90L26f N F k0 k1 t0 t1 t7 t8) k0 k1 t0 t1 t7 t8 := rfl
def g85L26f (N F : Nat) {C : Type} (k0 : LIt → LIt → Int → Option C) (k1 : LIt → LIt → Option C) (t0 t1 t9 : List (Int)) (t10 t11 : Int) : Option C :=
 itP (α := Prod1 g85L26V × ProdO g85L26O) (fun rec a => g85L26B N (fun t0 t1 t9 t10 t11 => rec ((t0, t1, t9, t10, t11, ()), (()))) k0 k1 a.1.1 a.1.2.1 a.1.2.2.1 a.1.2.2.2.1 a.1.2.2.2.2.1) F ((t0, t1, t9, t10, t11, ()), (()))
theorem g85L26_eq (N : Nat) {C : Type} (k0 : LIt → LIt → Int → Option C) (k1 : LIt → LIt → Option C) (t0 t1 t9 : List (Int)) (t10 t11 : Int) : g85L26 N k0 k1 t0 t1 t9 t10 t11 = g85L26f N N k0 k1 t0 t1 t9 t10 t11 := rfl
theorem g85L26f_succ (N F : Nat) {C : Type} (k0 : LIt → LIt → Int → Option C) (k1 : LIt → LIt → Option C) (t0 t1 t9 : List (Int)) (t10 t11 : Int) : g85L26f N (F + 1) k0 k1 t0 t1 t9 t10 t11 = g85L26B N (fun t0 t1 t9 t10 t11 => g85L26f N F k0 k1 t0 t1 t9 t10 t11) k0 k1 t0 t1 t9 t10 t11 := rfl
def g59L122f (N F : Nat) {C : Type} (k0 : Int → PPt → Option C) (k1 : PPt → Option C) (t3 : Int) (t48 : List LIt) (t49 t50 : Int) (o1 : PPt) : Option C :=
 itP (α := Prod1 g59L122V × ProdO g59L122O) (fun rec a => g59L122B N (fun t3 t48 t49 t50 o1 => rec (((), t3, t48, t49, t50, ()), (o1, ()))) k0 k1 a.1.2.1 a.1.2.2.1 a.1.2.2.2.1 a.1.2.2.2.2.1 a.2.1) F (((), t3, t48, t49, t50, ()), (o1, ()))
theorem g59L122_eq (N : Nat) {C : Type} (k0 : Int → PPt → Option C) (k1 : PPt → Option C) (t3 : Int) (t48 : List LIt) (t49 t50 : Int) (o1 : PPt) : g59L122 N k0 k1 t3 t48 t49 t50 o1 = g59L122f N N k0 k1 t3 t48 t49 t50 o1 := rfl
theorem g59L122f_succ (N F : Nat) {C : Type} (k0 : Int → PPt → Option C) (k1 : PPt → Option C) (t3 : Int) (t48 : List LIt) (t49 t50 : Int) (o1 : PPt) : g59L122f N (F + 1) k0 k1 t3 t48 t49 t50 o1 = g59L122B N (fun t3 t48 t49 t50 o1 => g59L122f N F k0 k1 t3 t48 t49 t50 o1) k0 k1 t3 t48 t49 t50 o1 := rfl
def g88L58f (N F : Nat) {C : Type} (k0 : Int → Option C) (t3 : Int) (t6 : List (Int)) (t7 t8 : Int) : Option C :=
 itP (α := Prod1 [.a (.d tIt), .a (.d tLt), .a (.d tIt), .a (.d tIt)] × ProdO []) (fun rec a => g88L58B N (fun t3 t6 t7 t8 => rec ((t3, t6, t7, t8, ()), (()))) k0 a.1.1 a.1.2.1 a.1.2.2.1 a.1.2.2.2.1) F ((t3, t6, t7, t8, ()), (()))
theorem g88L58_eq (N : Nat) {C : Type} (k0 : Int → Option C) (t3 : Int) (t6 : List (Int)) (t7 t8 : Int) : g88L58 N k0 t3 t6 t7 t8 = g88L58f N N k0 t3 t6 t7 t8 := rfl
theorem g88L58f_succ (N F : Nat) {C : Type} (k0 : Int → Option C) (t3 : Int) (t6 : List (Int)) (t7 t8 : Int) : g88L58f N (F + 1) k0 t3 t6 t7 t8 = g88L58B N (fun t3 t6 t7 t8 => g88L58f N F k0 t3 t6 t7 t8) k0 t3 t6 t7 t8 := rfl
def g64L58f (N F : Nat) {C : Type} (k0 : PPt → LIt → LIt → Option C) (t8 : List (Int)) (t9 t10 : Int) (o2 : PPt) (o4 o5 : List (Int)) : Option C :=
 itP (α := Prod1 g64L58V × ProdO g64L58O) (fun rec a => g64L58B N (fun t8 t9 t10 o2 o4 o5 => rec (((), (), (), t8, t9, t10, ()), (o2, o4, o5, ()))) k0 a.1.2.2.2.1 a.1.2.2.2.2.1 a.1.2.2.2.2.2.1 a.2.1 a.2.2.1 a.2.2.2.1) F (((), (), (), t8, t9, t10, ()), (o2, o4, o5, ()))
theorem g64L58_eq (N : Nat) {C : Type} (k0 : PPt → LIt → LIt → Option C) (t8 : List (Int)) (t9 t10 : Int) (o2 : PPt) (o4 o5 : List (Int)) : g64L58 N k0 t8 t9 t10 o2 o4 o5 = g64L58f N N k0 t8 t9 t10 o2 o4 o5 := rfl
theorem g64L58f_succ (N F : Nat) {C : Type} (k0 : PPt → LIt → LIt → Option C) (t8 : List (Int)) (t9 t10 : Int) (o2 : PPt) (o4 o5 : List (Int)) : g64L58f N (F + 1) k0 t8 t9 t10 o2 o4 o5 = g64L58B N (fun t8 t9 t10 o2 o4 o5 => g64L58f N F k0 t8 t9 t10 o2 o4 o5) k0 t8 t9 t10 o2 o4 o5 := rfl
def g21L26f (N F : Nat) {C : Type} (k0 : LIt → Int → Bool → Option C) (k1 : LIt → Int → Option C) (t0 : List (Int)) (t1 t5 : Int) : Option C :=
 itP (α := Prod1 [.a (.d tLt), .a (.d tIt), .a (.d tIt)] × ProdO []) (fun rec a => g21L26B N (fun t0 t1 t5 => rec ((t0, t1, t5, ()), (()))) k0 k1 a.1.1 a.1.2.1 a.1.2.2.1) F ((t0, t1, t5, ()), (()))
theorem g21L26_eq (N : Nat) {C : Type} (k0 : LIt → Int → Bool → Option C) (k1 : LIt → Int → Option C) (t0 : List (Int)) (t1 t5 : Int) : g21L26 N k0 k1 t0 t1 t5 = g21L26f N N k0 k1 t0 t1 t5 := rfl
theorem g21L26f_succ (N F : Nat) {C : Type} (k0 : LIt → Int → Bool → Option C) (k1 : LIt → Int → Option C) (t0 : List (Int)) (t1 t5 : Int) : g21L26f N (F + 1) k0 k1 t0 t1 t5 = g21L26B N (fun t0 t1 t5 => g21L26f N F k0 k1 t0 t1 t5) k0 k1 t0 t1 t5 := rfl
def g55L58f (N F : Nat) {C : Type} (k0 : Int → Option C) (t0 : List (Int)) (t3 t4 : Int) : Option C :=
 itP (α := Prod1 [.a (.d tLt), .a (.d tIt), .a (.d tIt)] × ProdO []) (fun rec a => g55L58B N (fun t0 t3 t4 => rec ((t0, t3, t4, ()), (()))) k0 a.1.1 a.1.2.1 a.1.2.2.1) F ((t0, t3, t4, ()), (()))
theorem g55L58_eq (N : Nat) {C : Type} (k0 : Int → Option C) (t0 : List (Int)) (t3 t4 : Int) : g55L58 N k0 t0 t3 t4 = g55L58f N N k0 t0 t3 t4 := rfl
theorem g55L58f_succ (N F : Nat) {C : Type} (k0 : Int → Option C) (t0 : List (Int)) (t3 t4 : Int) : g55L58f N (F + 1) k0 t0 t3 t4 = g55L58B N (fun t0 t3 t4 => g55L58f N F k0 t0 t3 t4) k0 t0 t3 t4 := rfl
def g70L58f (N F : Nat) {C : Type} (k0 : Int → PPt → Option C) (k1 : PPt → Option C) (t13 : List LIt) (t14 t15 : Int) (o2 : PPt) : Option C :=
 itP (α := Prod1 g70L58V × ProdO g70L58O) (fun rec a => g70L58B N (fun t13 t14 t15 o2 => rec (((), t13, t14, t15, ()), (o2, ()))) k0 k1 a.1.2.1 a.1.2.2.1 a.1.2.2.2.1 a.2.1) F (((), t13, t14, t15, ()), (o2, ()))
theorem g70L58_eq (N : Nat) {C : Type} (k0 : Int → PPt → Option C) (k1 : PPt → Option C) (t13 : List LIt) (t14 t15 : Int) (o2 : PPt) : g70L58 N k0 k1 t13 t14 t15 o2 = g70L58f N N k0 k1 t13 t14 t15 o2 := rfl
theorem g70L58f_succ (N F : Nat) {C : Type} (k0 : Int → PPt → Option C) (k1 : PPt → Option C) (t13 : List LIt) (t14 t15 : Int) (o2 : PPt) : g70L58f N (F + 1) k0 k1 t13 t14 t15 o2 = g70L58B N (fun t13 t14 t15 o2 => g70L58f N F k0 k1 t13 t14 t15 o2) k0 k1 t13 t14 t15 o2 := rfl
def g28L58f (N F : Nat) {C : Type} (k0 : PPt → LIt → Option C) (t1 : List (Int)) (t6 : Int) (o2 : PPt) (o9 : List (Int)) : Option C :=
 itP (α := Prod1 g28L58V × ProdO g28L58O) (fun rec a => g28L58B N (fun t1 t6 o2 o9 => rec ((t1, (), (), t6, ()), (o2, o9, ()))) k0 a.1.1 a.1.2.2.2.1 a.2.1 a.2.2.1) F ((t1, (), (), t6, ()), (o2, o9, ()))
theorem g28L58_eq (N : Nat) {C : Type} (k0 : PPt → LIt → Option C) (t1 : List (Int)) (t6 : Int) (o2 : PPt) (o9 : List (Int)) : g28L58 N k0 t1 t6 o2 o9 = g28L58f N N k0 t1 t6 o2 o9 := rfl
theorem g28L58f_succ (N F : Nat) {C : Type} (k0 : PPt → LIt → Option C) (t1 : List (Int)) (t6 : Int) (o2 : PPt) (o9 : List (Int)) : g28L58f N (F + 1) k0 t1 t6 o2 o9 = g28L58B N (fun t1 t6 o2 o9 => g28L58f N F k0 t1 t6 o2 o9) k0 t1 t6 o2 o9 := rfl
end
end Go.Pv
