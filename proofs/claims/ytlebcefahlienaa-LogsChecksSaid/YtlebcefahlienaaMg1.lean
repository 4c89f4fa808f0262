/- Plain texts, merged: QeA, QeChecks. -/
import Derived.Test.YtlebcefahlienaaPvL07
import Derived.KernelRfl
/- Seat 07, plain: the greatest common divisor, both Checks, the next unit. -/
set_option linter.unusedVariables false
set_option linter.unusedSimpArgs false
namespace Go.Pv
theorem w64 {x:Int} (h1:-9223372036854775808 ≤ x) (h2:x < 9223372036854775808):IntKind.wrap .i64 x = x:=by rw [IntKind.wrap_i64];omega
theorem wu64 (x:Int):IntKind.wrap .u64 x = x % 18446744073709551616:=by simp only [IntKind.wrap,IntKind.signed,IntKind.bits];simp
theorem wu64n {x:Int} (h1:0 ≤ x) (h2:x < 18446744073709551616):IntKind.wrap .u64 x = x:=by rw [wu64];omega
@[simp] theorem ieq_self (x:Int):ieq x x = true:=by simp only [ieq,decide_true]
theorem ieq_ne {x y:Int} (h:x ≠ y):ieq x y = false:=by simp only [ieq,decide_eq_false h]
theorem tmodN (x y:Nat):Int.tmod (x:Int) (y:Int) = ((x % y:Nat):Int):=by
 rw [Int.tmod_eq_emod_of_nonneg (by omega)];simp
theorem gcd_loop (N:Nat) {C:Type} (k0:Int→Option C):∀ (F:Nat) (x y:Nat),y < F→g26L12f N F k0 (x:Int) (y:Int) = k0 ((Nat.gcd x y:Nat):Int)
 | 0,x,y,h=>by omega
 | F + 1,x,y,h=>by
   rw [g26L12f_succ]
   unfold g26L12B
   by_cases hy:y = 0
   · subst hy;simp
   · have h1:decide ((0:Int) < (y:Int)) = true:=by simp;omega
     rw [h1,cond_true,if_neg (by omega),tmodN]
     refine (gcd_loop N k0 F y (x % y) (by have:=Nat.mod_lt x (show 0 < y by omega);omega)).trans ?_
     rw [Nat.gcd_comm x y,Nat.gcd_rec y x,Nat.gcd_comm (x % y) y]
theorem rgcd_eq (N:Nat) (x y:Nat) (h:y < N):g26 N (x:Int) (y:Int) = some ((Nat.gcd x y:Nat):Int):=by
 unfold g26
 rw [g26L12_eq,gcd_loop N _ N x y h]
theorem div_loop (N:Nat) {C:Type} (k0:Int→List Int→Int→Int→Option C) (l:List Int) (n i:Int):∀ (F:Nat) (x y:Nat),y < F→g57L7474f N F k0 (x:Int) (y:Int) l n i = k0 ((Nat.gcd x y:Nat):Int) l n i
 | 0,x,y,h=>by omega
 | F + 1,x,y,h=>by
   rw [g57L7474f_succ]
   unfold g57L7474B
   by_cases hy:y = 0
   · subst hy;simp [ieq]
   · have h1:ieq (y:Int) 0 = false:=ieq_ne (by omega)
     rw [h1,Bool.not_false,cond_true,if_neg (by omega),tmodN]
     refine (div_loop N k0 l n i F y (x % y) (by have:=Nat.mod_lt x (show 0 < y by omega);omega)).trans ?_
     rw [Nat.gcd_comm x y,Nat.gcd_rec y x,Nat.gcd_comm (x % y) y]
theorem div2_eq (N:Nat) (a n:Nat) (ha:a < N) (hn:n < N) (hN:3 ≤ N) (hb:a < 4611686018427387904) (hb2:n < 4611686018427387904):g57 N [(a:Int),(n:Int)] = some ((Nat.gcd a n:Nat):Int):=by
 obtain ⟨M,rfl⟩:∃ M,N = M + 3:=⟨N - 3,by omega⟩
 unfold g57
 rw [g57L58_eq]
 have e0:∀ F (k0:Int→Option Int) (v:Int) (l:List Int) (n i:Int),g57L58f (M + 3) (F + 1) k0 v l n i = g57L58B (M + 3) (fun a b c d=>g57L58f (M + 3) F k0 a b c d) k0 v l n i:=fun F k0 v l n i=>g57L58f_succ ..
 rw [e0 (M + 2)]
 unfold g57L58B
 have h1:decide ((0:Int) < ((List.length [(a:Int),(n:Int)]:Nat):Int)) = true:=by simp
 rw [h1,cond_true,if_pos (show idx 0 (List.length [(a:Int),(n:Int)]) from ⟨by omega,by simp⟩),g57L7474_eq]
 have h2:=div_loop (M + 3) (fun e1 e2 e3 e4=>g57L58f (M + 3) (M + 2) (fun e5=>some (imax e5 (IntKind.wrap .i64 (ineg e5)))) e1 e2 e3 (IntKind.wrap .i64 (e4 + 1))) [(a:Int),(n:Int)] ((List.length [(a:Int),(n:Int)]:Nat):Int) 0 (M + 3) 0 a ha
 rw [show ([(a:Int),(n:Int)]).getD (Int.toNat 0) 0 = (a:Int) from rfl]
 refine h2.trans ?_
 rw [Nat.gcd_zero_left]
 have e1:IntKind.wrap .i64 ((0:Int) + 1) = 1:=by rw [w64 (by omega) (by omega)];rfl
 rw [e1,e0 (M + 1)]
 unfold g57L58B
 have h3:decide ((1:Int) < ((List.length [(a:Int),(n:Int)]:Nat):Int)) = true:=by simp
 rw [h3,cond_true,if_pos (show idx 1 (List.length [(a:Int),(n:Int)]) from ⟨by omega,by simp⟩),g57L7474_eq]
 rw [show ([(a:Int),(n:Int)]).getD (Int.toNat 1) 0 = (n:Int) from rfl]
 have h4:=div_loop (M + 3) (fun e1 e2 e3 e4=>g57L58f (M + 3) (M + 1) (fun e5=>some (imax e5 (IntKind.wrap .i64 (ineg e5)))) e1 e2 e3 (IntKind.wrap .i64 (e4 + 1))) [(a:Int),(n:Int)] ((List.length [(a:Int),(n:Int)]:Nat):Int) 1 (M + 3) a n hn
 refine h4.trans ?_
 have e2:IntKind.wrap .i64 ((1:Int) + 1) = 2:=by rw [w64 (by omega) (by omega)];rfl
 rw [e2,e0 M]
 unfold g57L58B
 have h5:decide ((2:Int) < ((List.length [(a:Int),(n:Int)]:Nat):Int)) = false:=by simp
 rw [h5,cond_false]
 have hle:Nat.gcd a n ≤ a + n:=by
   rcases Nat.eq_zero_or_pos a with h | h
   · subst h;simp
   · exact Nat.le_trans (Nat.gcd_le_left n h) (by omega)
 have e3:IntKind.wrap .i64 (ineg ((Nat.gcd a n:Nat):Int)) = -((Nat.gcd a n:Nat):Int):=by
   rw [w64 (by unfold ineg;omega) (by unfold ineg;omega)];unfold ineg;omega
 show some (imax ((Nat.gcd a n:Nat):Int) (IntKind.wrap .i64 (ineg ((Nat.gcd a n:Nat):Int)))) = _
 rw [e3]
 congr 1
 unfold imax
 split <;> omega
def unitI (n a:Int):Prop:=0 ≤ a∧a < n∧Nat.gcd n.toNat a.toNat = 1
def modI (n:Int):Prop:=1 ≤ n∧n ≤ 1000000
instance (n a:Int):Decidable (unitI n a):=by unfold unitI;exact inferInstance
instance (n:Int):Decidable (modI n):=by unfold modI;exact inferInstance
def wrong (n a:Int):Int:=if modI n then (if unitI n a then 0 else 70) else 1
theorem mod52 (N:Nat) (n:Int):g52 N n = some (decide (modI n)):=by
 unfold g52 modI
 by_cases h:1 ≤ n <;> simp [h]
theorem mod55 (N:Nat) (n:Int):g55 N n = some (decide (modI n)):=by
 unfold g55 modI
 by_cases h:1 ≤ n <;> simp [h]
theorem check50 (N:Nat) (n a:Int) (hN:1000000 < N):g50 N n a = some (wrong n a):=by
 unfold g50 wrong
 rw [mod52]
 simp only [Option.bind_some]
 by_cases hn:modI n
 · rw [decide_eq_true hn,if_pos hn]
   simp only [Bool.not_true,cond_false]
   by_cases h0:a < 0
   · rw [decide_eq_true h0,cond_true,if_neg (fun h=>by have:=h.1;omega)]
   · rw [decide_eq_false h0,cond_false]
     by_cases h1:n ≤ a
     · rw [decide_eq_true h1,cond_true,if_neg (fun h=>by have:=h.2.1;omega)]
     · rw [decide_eq_false h1,cond_false]
       unfold modI at hn
       obtain ⟨m,rfl⟩:=Int.eq_ofNat_of_zero_le (show 0 ≤ n by omega)
       obtain ⟨b,rfl⟩:=Int.eq_ofNat_of_zero_le (show 0 ≤ a by omega)
       rw [rgcd_eq N m b (by omega)]
       simp only [Option.bind_some]
       by_cases hg:Nat.gcd m b = 1
       · rw [hg,if_pos ⟨by omega,by omega,by simpa using hg⟩];rfl
       · rw [ieq_ne (by omega),if_neg (fun h=>hg (by simpa using h.2.2))];rfl
 · rw [decide_eq_false hn,if_neg hn];rfl
theorem check51 (N:Nat) (n a:Int) (hN:1000000 < N):g51 N n a = some (wrong n a):=by
 unfold g51 wrong
 rw [mod55]
 simp only [Option.bind_some]
 by_cases hn:modI n
 · rw [decide_eq_true hn,if_pos hn]
   simp only [Bool.not_true,cond_false]
   by_cases h0:a < 0
   · rw [decide_eq_true h0,cond_true,if_neg (fun h=>by have:=h.1;omega)]
   · rw [decide_eq_false h0,cond_false]
     by_cases h1:n ≤ a
     · rw [decide_eq_true h1,cond_true,if_neg (fun h=>by have:=h.2.1;omega)]
     · rw [decide_eq_false h1,cond_false]
       unfold modI at hn
       obtain ⟨m,rfl⟩:=Int.eq_ofNat_of_zero_le (show 0 ≤ n by omega)
       obtain ⟨b,rfl⟩:=Int.eq_ofNat_of_zero_le (show 0 ≤ a by omega)
       rw [div2_eq N b m (by omega) (by omega) (by omega) (by omega) (by omega)]
       simp only [Option.bind_some]
       by_cases hg:Nat.gcd m b = 1
       · rw [Nat.gcd_comm b m,hg,if_pos ⟨by omega,by omega,by simpa using hg⟩];rfl
       · rw [Nat.gcd_comm b m,ieq_ne (by omega),if_neg (fun h=>hg (by simpa using h.2.2))];rfl
 · rw [decide_eq_false hn,if_neg hn];rfl
theorem unit_loop (N:Nat) (hN:1000000 < N) {C:Type} (k0:Int→Option C) (n:Nat) (hn:1 ≤ n) (hn2:n ≤ 1000000):∀ (F r:Nat),r < n→n - 1 - r < F→∃ u:Nat,u < n∧Nat.gcd n u = 1∧g17L28f N F k0 (n:Int) (r:Int) = k0 (u:Int)
 | 0,r,_,h=>by omega
 | F + 1,r,hr,h=>by
   rw [g17L28f_succ]
   unfold g17L28B
   rw [rgcd_eq N n r (by omega)]
   simp only [Option.bind_some]
   by_cases hg:Nat.gcd n r = 1
   · exact ⟨r,hr,hg,by rw [hg];rfl⟩
   · rw [ieq_ne (by omega),Bool.not_false,cond_true,if_neg (by omega)]
     by_cases hl:r = n - 1
     · exfalso
       apply hg
       subst hl
       have h1:=Nat.gcd_dvd_left n (n - 1)
       have h2:=Nat.gcd_dvd_right n (n - 1)
       have h3:=Nat.dvd_sub h1 h2
       rw [show n - (n - 1) = 1 by omega] at h3
       exact Nat.dvd_one.1 h3
     · have e:Int.tmod (IntKind.wrap .i64 ((r:Int) + 1)) (n:Int) = ((r + 1:Nat):Int):=by
         rw [w64 (by omega) (by omega),show (r:Int) + 1 = ((r + 1:Nat):Int) by omega,tmodN,Nat.mod_eq_of_lt (by omega)]
       rw [e]
       exact unit_loop N hN k0 n hn hn2 F (r + 1) (by omega) (by omega)
theorem unit_eq (N:Nat) (hN:1000000 < N) (n k:Int) (hn:modI n):∃ u:Int,unitI n u∧g17 N n k = some u:=by
 unfold modI at hn
 obtain ⟨m,rfl⟩:=Int.eq_ofNat_of_zero_le (show 0 ≤ n by omega)
 unfold g17
 rw [wu64n (by omega) (by omega),if_neg (by omega),g17L28_eq,wu64]
 have h0:0 ≤ k % 18446744073709551616:=Int.emod_nonneg _ (by decide)
 obtain ⟨j,hj⟩:=Int.eq_ofNat_of_zero_le h0
 rw [hj,tmodN]
 have hlt:=Nat.mod_lt j (show 0 < m by omega)
 rw [w64 (by omega) (by omega)]
 obtain ⟨u,h1,h2,h3⟩:=unit_loop N hN (fun e2=>some e2) m (by omega) (by omega) N (j % m) hlt (by omega)
 exact ⟨(u:Int),⟨by omega,by omega,by simpa using h2⟩,h3⟩
end Go.Pv
namespace Go.Pv
theorem awakeC:g21 2000000 = some true:=by kernel_rfl
theorem wrong_pos {n a:Int} (h:wrong n a ≠ 0):ieq (wrong n a) 0 = false:=ieq_ne h
theorem order_bad (N:Nat) (hN:1000000 < N) (n a:Int) (h:wrong n a ≠ 0):g29 N n a = some (0,wrong n a,()):=by
 unfold g29
 rw [check51 N n a hN]
 simp only [Option.bind_some,wrong_pos h,Bool.not_false,cond_true]
theorem power_bad (N:Nat) (hN:1000000 < N) (n a k:Int) (h:wrong n a ≠ 0):g48 N n a k = some (0,wrong n a,()):=by
 unfold g48
 rw [check51 N n a hN]
 simp only [Option.bind_some,wrong_pos h,Bool.not_false,cond_true]
theorem inverse_bad (N:Nat) (hN:1000000 < N) (n a:Int) (h:wrong n a ≠ 0):g46 N n a = some (0,wrong n a,()):=by
 unfold g46
 rw [check51 N n a hN]
 simp only [Option.bind_some,wrong_pos h,Bool.not_false,cond_true]
theorem open_bad (N:Nat) (hN:1000000 < N) (n a k:Int) (h:wrong n a ≠ 0):g62 N n a k = some (wrong n a):=by
 unfold g62
 rw [check51 N n a hN]
 simp only [Option.bind_some,wrong_pos h,Bool.not_false,cond_true]
theorem roots_bad (N:Nat) (hN:1000000 < N) (n a k:Int) (h:wrong n a ≠ 0):g30 N n a k = some (0,wrong n a,()):=by
 unfold g30
 rw [open_bad N hN n a k h]
 simp only [Option.bind_some,wrong_pos h,Bool.not_false,cond_true]
theorem root_bad (N:Nat) (hN:1000000 < N) (n a k:Int) (h:wrong n a ≠ 0):g31 N n a k = some (0,false,wrong n a,()):=by
 unfold g31
 rw [open_bad N hN n a k h]
 simp only [Option.bind_some,wrong_pos h,Bool.not_false,cond_true]
theorem log_bad (N:Nat) (hN:1000000 < N) (n a b:Int) (h:wrong n a ≠ 0):g19 N n a b = some (0,false,wrong n a,()):=by
 unfold g19
 obtain ⟨M,rfl⟩:∃ M,N = M + 1:=⟨N - 1,by omega⟩
 rw [g19L26_eq]
 refine (g19L26f_succ (M + 1) M _ _ n a b [a,b] _ 0).trans ?_
 unfold g19L26B
 rw [show decide ((0:Int) < ((List.length [a,b]:Nat):Int)) = true by simp,cond_true,if_pos (show idx 0 (List.length [a,b]) from ⟨by omega,by simp⟩),
   show ([a,b]).getD (Int.toNat 0) 0 = a from rfl,check51 _ n a hN]
 simp only [Option.bind_some,wrong_pos h,Bool.not_false,cond_true]
theorem log_bad2 (N:Nat) (hN:1000000 < N) (n a b:Int) (h0:wrong n a = 0) (h:wrong n b ≠ 0):g19 N n a b = some (0,false,wrong n b,()):=by
 unfold g19
 obtain ⟨M,rfl⟩:∃ M,N = M + 2:=⟨N - 2,by omega⟩
 rw [g19L26_eq]
 refine (g19L26f_succ (M + 2) (M + 1) _ _ n a b [a,b] _ 0).trans ?_
 unfold g19L26B
 rw [show decide ((0:Int) < ((List.length [a,b]:Nat):Int)) = true by simp,cond_true,if_pos (show idx 0 (List.length [a,b]) from ⟨by omega,by simp⟩),
   show ([a,b]).getD (Int.toNat 0) 0 = a from rfl,check51 _ n a hN,h0]
 simp only [Option.bind_some,ieq_self,Bool.not_true,cond_false]
 rw [show IntKind.wrap .i64 ((0:Int) + 1) = 1 by rw [w64 (by omega) (by omega)];rfl]
 refine (g19L26f_succ (M + 2) M _ _ n a b [a,b] _ 1).trans ?_
 unfold g19L26B
 rw [show decide ((1:Int) < ((List.length [a,b]:Nat):Int)) = true by simp,cond_true,if_pos (show idx 1 (List.length [a,b]) from ⟨by omega,by simp⟩),
   show ([a,b]).getD (Int.toNat 1) 0 = b from rfl,check51 _ n b hN]
 simp only [Option.bind_some,wrong_pos h,Bool.not_false,cond_true]
section
variable (N:Nat) {n:Int} (h:¬ modI n)
include h
theorem nm27:g27 N n = some (0,1,()):=by
 unfold g27;rw [mod55,decide_eq_false h];rfl
theorem nm38:g38 N n = some ([],1,()):=by
 unfold g38;rw [mod55,decide_eq_false h];rfl
theorem nm28:g28 N n = some (0,1,()):=by
 unfold g28;rw [nm38 N h];rfl
theorem nm36:g36 N n = some (0,1,()):=by
 unfold g36;rw [nm38 N h];rfl
theorem nm37:g37 N n = some (0,1,()):=by
 unfold g37;rw [nm38 N h];rfl
theorem nm33:g33 N n = some ([],1,()):=by
 unfold g33;rw [mod55,decide_eq_false h];rfl
theorem nm49:g49 N n 0 = some (0,1,()):=by
 unfold g49;rw [nm38 N h];rfl
theorem nm35:g35 N n = some ([],1,()):=by
 unfold g35;rw [mod55,decide_eq_false h];rfl
theorem nm24:g24 N n = some (0,false,1,()):=by
 unfold g24;rw [mod55,decide_eq_false h];rfl
end
theorem checks_plain (n a k:Int):g15 2000000 n a k = some true:=by
 have hN:1000000 < 2000000:=by omega
 unfold g15
 rw [check50 _ n a hN,check51 _ n a hN,mod52]
 simp only [Option.bind_some,ieq_self,Bool.not_true,cond_false]
 by_cases hm:modI n
 · rw [decide_eq_true hm]
   simp only [Bool.not_true,cond_false]
   by_cases h0:wrong n a = 0
   · rw [h0]
     simp only [ieq_self,cond_true,awakeC,Option.bind_some]
   · have h70:wrong n a = 70:=by
       unfold wrong at h0 ⊢
       rw [if_pos hm] at h0 ⊢
       by_cases hu:unitI n a
       · rw [if_pos hu] at h0;exact absurd rfl h0
       · rw [if_neg hu]
     obtain ⟨u,hu,hg⟩:=unit_eq 2000000 hN n k hm
     have hw:wrong n u = 0:=by unfold wrong;rw [if_pos hm,if_pos hu]
     rw [order_bad _ hN n a h0,log_bad _ hN n a a h0,power_bad _ hN n a (-1) h0,inverse_bad _ hN n a h0,roots_bad _ hN n a 0 h0,root_bad _ hN n a 0 h0,hg]
     simp only [Option.bind_some]
     rw [log_bad2 _ hN n u a hw h0,h70]
     simp only [Option.bind_some,awakeC]
     rfl
 · rw [decide_eq_false hm]
   have h1:wrong n a = 1:=by unfold wrong;rw [if_neg hm]
   have h0:wrong n a ≠ 0:=by rw [h1];decide
   rw [nm27 _ hm,nm28 _ hm,nm36 _ hm,nm37 _ hm,nm38 _ hm,nm33 _ hm,nm49 _ hm,nm35 _ hm,nm24 _ hm]
   rw [order_bad _ hN n a h0,log_bad _ hN n a a h0,power_bad _ hN n a (-1) h0,inverse_bad _ hN n a h0,roots_bad _ hN n a 0 h0,root_bad _ hN n a 0 h0,h1,awakeC]
   rfl
end Go.Pv
