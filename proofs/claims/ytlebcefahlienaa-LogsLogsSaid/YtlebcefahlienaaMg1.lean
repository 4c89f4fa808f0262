/- Plain texts, merged: QeA, QeN, QeO, QeP, QeF, QeU, QeOrd, QeLn, QeLog, QeOrders, QeLogs. -/
import Derived.Test.YtlebcefahlienaaPvL07
import Derived.KernelRfl
/- Seat 07, plain: the greatest common divisor, both Checks, the next unit. -/
set_option linter.unusedVariables false
set_option linter.unusedSimpArgs false
namespace Go.Pv
theorem w64 {x:Int} (h1:-9223372036854775808 ≤ x) (h2:x < 9223372036854775808):IntKind.wrap .i64 x = x:=by rw [IntKind.wrap_i64];omega
theorem wu64 (x:Int):IntKind.wrap .u64 x = x % 18446744073709551616:=by simp only [IntKind.wrap,IntKind.signed,IntKind.bits];simp
theorem wu64n {x:Int} (h1:0 ≤ x) (h2:x < 18446744073709551616):IntKind.wrap .u64 x = x:=by rw [wu64];omega
@[simp] theorem ieq_self (x:Int):ieq x x = true:=by simp only [ieq,decide_true]
theorem ieq_ne {x y:Int} (h:x ≠ y):ieq x y = false:=by simp only [ieq,decide_eq_false h]
theorem tmodN (x y:Nat):Int.tmod (x:Int) (y:Int) = ((x % y:Nat):Int):=by
 rw [Int.tmod_eq_emod_of_nonneg (by omega)];simp
theorem gcd_loop (N:Nat) {C:Type} (k0:Int→Option C):∀ (F:Nat) (x y:Nat),y < F→g26L12f N F k0 (x:Int) (y:Int) = k0 ((Nat.gcd x y:Nat):Int)
 | 0,x,y,h=>by omega
 | F + 1,x,y,h=>by
   rw [g26L12f_succ]
   unfold g26L12B
   by_cases hy:y = 0
   · subst hy;simp
   · have h1:decide ((0:Int) < (y:Int)) = true:=by simp;omega
     rw [h1,cond_true,if_neg (by omega),tmodN]
     refine (gcd_loop N k0 F y (x % y) (by have:=Nat.mod_lt x (show 0 < y by omega);omega)).trans ?_
     rw [Nat.gcd_comm x y,Nat.gcd_rec y x,Nat.gcd_comm (x % y) y]
theorem rgcd_eq (N:Nat) (x y:Nat) (h:y < N):g26 N (x:Int) (y:Int) = some ((Nat.gcd x y:Nat):Int):=by
 unfold g26
 rw [g26L12_eq,gcd_loop N _ N x y h]
theorem div_loop (N:Nat) {C:Type} (k0:Int→List Int→Int→Int→Option C) (l:List Int) (n i:Int):∀ (F:Nat) (x y:Nat),y < F→g57L7474f N F k0 (x:Int) (y:Int) l n i = k0 ((Nat.gcd x y:Nat):Int) l n i
 | 0,x,y,h=>by omega
 | F + 1,x,y,h=>by
   rw [g57L7474f_succ]
   unfold g57L7474B
   by_cases hy:y = 0
   · subst hy;simp [ieq]
   · have h1:ieq (y:Int) 0 = false:=ieq_ne (by omega)
     rw [h1,Bool.not_false,cond_true,if_neg (by omega),tmodN]
     refine (div_loop N k0 l n i F y (x % y) (by have:=Nat.mod_lt x (show 0 < y by omega);omega)).trans ?_
     rw [Nat.gcd_comm x y,Nat.gcd_rec y x,Nat.gcd_comm (x % y) y]
theorem div2_eq (N:Nat) (a n:Nat) (ha:a < N) (hn:n < N) (hN:3 ≤ N) (hb:a < 4611686018427387904) (hb2:n < 4611686018427387904):g57 N [(a:Int),(n:Int)] = some ((Nat.gcd a n:Nat):Int):=by
 obtain ⟨M,rfl⟩:∃ M,N = M + 3:=⟨N - 3,by omega⟩
 unfold g57
 rw [g57L58_eq]
 have e0:∀ F (k0:Int→Option Int) (v:Int) (l:List Int) (n i:Int),g57L58f (M + 3) (F + 1) k0 v l n i = g57L58B (M + 3) (fun a b c d=>g57L58f (M + 3) F k0 a b c d) k0 v l n i:=fun F k0 v l n i=>g57L58f_succ ..
 rw [e0 (M + 2)]
 unfold g57L58B
 have h1:decide ((0:Int) < ((List.length [(a:Int),(n:Int)]:Nat):Int)) = true:=by simp
 rw [h1,cond_true,if_pos (show idx 0 (List.length [(a:Int),(n:Int)]) from ⟨by omega,by simp⟩),g57L7474_eq]
 have h2:=div_loop (M + 3) (fun e1 e2 e3 e4=>g57L58f (M + 3) (M + 2) (fun e5=>some (imax e5 (IntKind.wrap .i64 (ineg e5)))) e1 e2 e3 (IntKind.wrap .i64 (e4 + 1))) [(a:Int),(n:Int)] ((List.length [(a:Int),(n:Int)]:Nat):Int) 0 (M + 3) 0 a ha
 rw [show ([(a:Int),(n:Int)]).getD (Int.toNat 0) 0 = (a:Int) from rfl]
 refine h2.trans ?_
 rw [Nat.gcd_zero_left]
 have e1:IntKind.wrap .i64 ((0:Int) + 1) = 1:=by rw [w64 (by omega) (by omega)];rfl
 rw [e1,e0 (M + 1)]
 unfold g57L58B
 have h3:decide ((1:Int) < ((List.length [(a:Int),(n:Int)]:Nat):Int)) = true:=by simp
 rw [h3,cond_true,if_pos (show idx 1 (List.length [(a:Int),(n:Int)]) from ⟨by omega,by simp⟩),g57L7474_eq]
 rw [show ([(a:Int),(n:Int)]).getD (Int.toNat 1) 0 = (n:Int) from rfl]
 have h4:=div_loop (M + 3) (fun e1 e2 e3 e4=>g57L58f (M + 3) (M + 1) (fun e5=>some (imax e5 (IntKind.wrap .i64 (ineg e5)))) e1 e2 e3 (IntKind.wrap .i64 (e4 + 1))) [(a:Int),(n:Int)] ((List.length [(a:Int),(n:Int)]:Nat):Int) 1 (M + 3) a n hn
 refine h4.trans ?_
 have e2:IntKind.wrap .i64 ((1:Int) + 1) = 2:=by rw [w64 (by omega) (by omega)];rfl
 rw [e2,e0 M]
 unfold g57L58B
 have h5:decide ((2:Int) < ((List.length [(a:Int),(n:Int)]:Nat):Int)) = false:=by simp
 rw [h5,cond_false]
 have hle:Nat.gcd a n ≤ a + n:=by
   rcases Nat.eq_zero_or_pos a with h | h
   · subst h;simp
   · exact Nat.le_trans (Nat.gcd_le_left n h) (by omega)
 have e3:IntKind.wrap .i64 (ineg ((Nat.gcd a n:Nat):Int)) = -((Nat.gcd a n:Nat):Int):=by
   rw [w64 (by unfold ineg;omega) (by unfold ineg;omega)];unfold ineg;omega
 show some (imax ((Nat.gcd a n:Nat):Int) (IntKind.wrap .i64 (ineg ((Nat.gcd a n:Nat):Int)))) = _
 rw [e3]
 congr 1
 unfold imax
 split <;> omega
def unitI (n a:Int):Prop:=0 ≤ a∧a < n∧Nat.gcd n.toNat a.toNat = 1
def modI (n:Int):Prop:=1 ≤ n∧n ≤ 1000000
instance (n a:Int):Decidable (unitI n a):=by unfold unitI;exact inferInstance
instance (n:Int):Decidable (modI n):=by unfold modI;exact inferInstance
def wrong (n a:Int):Int:=if modI n then (if unitI n a then 0 else 70) else 1
theorem mod55 (N:Nat) (n:Int):g55 N n = some (decide (modI n)):=by
 unfold g55 modI
 by_cases h:1 ≤ n <;> simp [h]
theorem check51 (N:Nat) (n a:Int) (hN:1000000 < N):g51 N n a = some (wrong n a):=by
 unfold g51 wrong
 rw [mod55]
 simp only [Option.bind_some]
 by_cases hn:modI n
 · rw [decide_eq_true hn,if_pos hn]
   simp only [Bool.not_true,cond_false]
   by_cases h0:a < 0
   · rw [decide_eq_true h0,cond_true,if_neg (fun h=>by have:=h.1;omega)]
   · rw [decide_eq_false h0,cond_false]
     by_cases h1:n ≤ a
     · rw [decide_eq_true h1,cond_true,if_neg (fun h=>by have:=h.2.1;omega)]
     · rw [decide_eq_false h1,cond_false]
       unfold modI at hn
       obtain ⟨m,rfl⟩:=Int.eq_ofNat_of_zero_le (show 0 ≤ n by omega)
       obtain ⟨b,rfl⟩:=Int.eq_ofNat_of_zero_le (show 0 ≤ a by omega)
       rw [div2_eq N b m (by omega) (by omega) (by omega) (by omega) (by omega)]
       simp only [Option.bind_some]
       by_cases hg:Nat.gcd m b = 1
       · rw [Nat.gcd_comm b m,hg,if_pos ⟨by omega,by omega,by simpa using hg⟩];rfl
       · rw [Nat.gcd_comm b m,ieq_ne (by omega),if_neg (fun h=>hg (by simpa using h.2.2))];rfl
 · rw [decide_eq_false hn,if_neg hn];rfl
theorem unit_loop (N:Nat) (hN:1000000 < N) {C:Type} (k0:Int→Option C) (n:Nat) (hn:1 ≤ n) (hn2:n ≤ 1000000):∀ (F r:Nat),r < n→n - 1 - r < F→∃ u:Nat,u < n∧Nat.gcd n u = 1∧g17L28f N F k0 (n:Int) (r:Int) = k0 (u:Int)
 | 0,r,_,h=>by omega
 | F + 1,r,hr,h=>by
   rw [g17L28f_succ]
   unfold g17L28B
   rw [rgcd_eq N n r (by omega)]
   simp only [Option.bind_some]
   by_cases hg:Nat.gcd n r = 1
   · exact ⟨r,hr,hg,by rw [hg];rfl⟩
   · rw [ieq_ne (by omega),Bool.not_false,cond_true,if_neg (by omega)]
     by_cases hl:r = n - 1
     · exfalso
       apply hg
       subst hl
       have h1:=Nat.gcd_dvd_left n (n - 1)
       have h2:=Nat.gcd_dvd_right n (n - 1)
       have h3:=Nat.dvd_sub h1 h2
       rw [show n - (n - 1) = 1 by omega] at h3
       exact Nat.dvd_one.1 h3
     · have e:Int.tmod (IntKind.wrap .i64 ((r:Int) + 1)) (n:Int) = ((r + 1:Nat):Int):=by
         rw [w64 (by omega) (by omega),show (r:Int) + 1 = ((r + 1:Nat):Int) by omega,tmodN,Nat.mod_eq_of_lt (by omega)]
       rw [e]
       exact unit_loop N hN k0 n hn hn2 F (r + 1) (by omega) (by omega)
theorem unit_eq (N:Nat) (hN:1000000 < N) (n k:Int) (hn:modI n):∃ u:Int,unitI n u∧g17 N n k = some u:=by
 unfold modI at hn
 obtain ⟨m,rfl⟩:=Int.eq_ofNat_of_zero_le (show 0 ≤ n by omega)
 unfold g17
 rw [wu64n (by omega) (by omega),if_neg (by omega),g17L28_eq,wu64]
 have h0:0 ≤ k % 18446744073709551616:=Int.emod_nonneg _ (by decide)
 obtain ⟨j,hj⟩:=Int.eq_ofNat_of_zero_le h0
 rw [hj,tmodN]
 have hlt:=Nat.mod_lt j (show 0 < m by omega)
 rw [w64 (by omega) (by omega)]
 obtain ⟨u,h1,h2,h3⟩:=unit_loop N hN (fun e2=>some e2) m (by omega) (by omega) N (j % m) hlt (by omega)
 exact ⟨(u:Int),⟨by omega,by omega,by simpa using h2⟩,h3⟩
end Go.Pv
namespace Go.Nt
theorem mod_of_dvd {n x y:Nat} (hle:y ≤ x) (h:n ∣ x - y):x % n = y % n:=by
 obtain ⟨c,hc⟩:=h
 have:x = y + n * c:=by omega
 rw [this,Nat.add_mul_mod_self_left]
theorem dvd_of_mod {n x y:Nat} (h:x % n = y % n):n ∣ x - y:=Nat.dvd_of_mod_eq_zero (Nat.sub_mod_eq_zero_of_mod_eq h)
def IsP (p:Nat):Prop:=2 ≤ p∧∀ d,d ∣ p→d = 1 ∨ d = p
theorem IsP.cop {p a:Nat} (hp:IsP p) (h:¬ p ∣ a):Nat.Coprime p a:=by
 rcases hp.2 _ (Nat.gcd_dvd_left p a) with h1 | h1
 · exact h1
 · exact absurd (h1 ▸ Nat.gcd_dvd_right p a) h
theorem exists_prime:∀ (F n:Nat),n ≤ F→2 ≤ n→∃ p,IsP p∧p ∣ n
 | 0,n,h,h2=>by omega
 | F + 1,n,h,h2=>by
   by_cases hp:IsP n
   · exact ⟨n,hp,Nat.dvd_refl n⟩
   · have:∃ d,d ∣ n∧d ≠ 1∧d ≠ n:=Classical.byContradiction fun hc=>hp ⟨h2,fun d hd=>Classical.byContradiction fun hn=>hc ⟨d,hd,fun h=>hn (.inl h),fun h=>hn (.inr h)⟩⟩
     obtain ⟨d,hd,h3,h4⟩:=this
     have hle:=Nat.le_of_dvd (by omega) hd
     have h0:d ≠ 0:=fun h0=>by subst h0;have:=Nat.zero_dvd.1 hd;omega
     obtain ⟨p,hp,hpd⟩:=exists_prime F d (by omega) (by omega)
     exact ⟨p,hp,Nat.dvd_trans hpd hd⟩
theorem perm_of_subset:∀ (l m:List Nat),l.Nodup→(∀ x ∈ l,x ∈ m)→m.length ≤ l.length→l.Perm m
 | [],m,_,_,h=>by
   have:m = []:=List.eq_nil_of_length_eq_zero (by simpa using h)
   subst this;exact List.Perm.refl _
 | a :: l,m,hn,hs,h=>by
   have ha:a ∈ m:=hs a (by simp)
   have h1:=List.perm_cons_erase ha
   have hl:=h1.length_eq
   simp only [List.length_cons] at hl h
   rw [List.nodup_cons] at hn
   refine (List.Perm.cons a (perm_of_subset l (m.erase a) hn.2 (fun x hx=>?_) (by omega))).trans h1.symm
   have hne:x ≠ a:=fun h=>hn.1 (h ▸ hx)
   exact (List.mem_erase_of_ne hne).2 (hs x (by simp [hx]))
theorem prod_map_mod (a p:Nat):∀ l:List Nat,(l.map fun x=>a * x % p).prod % p = a ^ l.length * l.prod % p
 | []=>by simp
 | x :: l=>by
   simp only [List.map_cons,List.prod_cons,List.length_cons]
   rw [Nat.mul_mod,prod_map_mod a p l,← Nat.mul_mod,Nat.mul_mod (a * x % p),Nat.mod_mod,← Nat.mul_mod]
   congr 1
   rw [Nat.pow_succ]
   simp only [Nat.mul_assoc,Nat.mul_left_comm,Nat.mul_comm]
theorem prod_cop {p:Nat}:∀ l:List Nat,(∀ x ∈ l,Nat.Coprime p x)→Nat.Coprime p l.prod
 | [],_=>by simp
 | x :: l,h=>by
   rw [List.prod_cons]
   exact Nat.Coprime.mul_right (h x (by simp)) (prod_cop l fun y hy=>h y (by simp [hy]))
theorem fermat {p a:Nat} (hp:IsP p) (ha:¬ p ∣ a):a ^ (p - 1) % p = 1 % p:=by
 have hp2:=hp.1
 have hc:=hp.cop ha
 let L:=List.range' 1 (p - 1)
 have hL:∀ x,x ∈ L ↔ 1 ≤ x∧x < p:=by
   intro x
   show x ∈ List.range' 1 (p - 1) ↔ _
   rw [List.mem_range'_1];omega
 have hnd:L.Nodup:=List.nodup_range'
 have hlen:L.length = p - 1:=by show (List.range' 1 (p - 1)).length = _;simp
 have hpos:∀ x ∈ L,¬ p ∣ a * x:=fun x hx hd=>by
   have h1:=(hL x).1 hx
   have h2:=Nat.le_of_dvd (by omega) (hc.dvd_of_dvd_mul_left hd)
   omega
 have hM:(L.map fun x=>a * x % p).Perm L:=by
   refine perm_of_subset _ _ ?_ ?_ (by simp)
   · rw [List.Nodup,List.pairwise_map]
     refine List.Pairwise.imp_of_mem (fun {x y} hx hy hne he=>?_) hnd
     have h1:=(hL x).1 hx
     have h2:=(hL y).1 hy
     rcases Nat.lt_or_gt_of_ne hne with hlt | hlt
     · have h3:=dvd_of_mod he.symm
       rw [← Nat.mul_sub] at h3
       have h4:=Nat.le_of_dvd (by omega) (hc.dvd_of_dvd_mul_left h3)
       omega
     · have h3:=dvd_of_mod he
       rw [← Nat.mul_sub] at h3
       have h4:=Nat.le_of_dvd (by omega) (hc.dvd_of_dvd_mul_left h3)
       omega
   · intro y hy
     obtain ⟨x,hx,rfl⟩:=List.mem_map.1 hy
     refine (hL _).2 ⟨?_,Nat.mod_lt _ (by omega)⟩
     rcases Nat.eq_zero_or_pos (a * x % p) with h0 | h0
     · exact absurd (Nat.dvd_of_mod_eq_zero h0) (hpos x hx)
     · exact h0
 have h1:=prod_map_mod a p L
 rw [hM.prod_nat,hlen] at h1
 have hcp:Nat.Coprime p L.prod:=prod_cop L fun x hx=>hp.cop fun hd=>by
   have h2:=(hL x).1 hx
   have:=Nat.le_of_dvd (by omega) hd
   omega
 have ha0:0 < a:=by
   rcases Nat.eq_zero_or_pos a with h | h
   · subst h;exact absurd (Nat.dvd_zero p) ha
   · exact h
 have hpow:1 ≤ a ^ (p - 1):=Nat.pow_pos ha0
 have h2:=dvd_of_mod h1.symm
 rw [show a ^ (p - 1) * L.prod - L.prod = L.prod * (a ^ (p - 1) - 1) by rw [Nat.mul_sub,Nat.mul_one,Nat.mul_comm]] at h2
 exact mod_of_dvd hpow (hcp.dvd_of_dvd_mul_left h2)
def geo (x:Nat):Nat→Nat
 | 0=>0
 | k + 1=>geo x k + x ^ k
theorem geo_mul (t k:Nat):t * geo (1 + t) k + 1 = (1 + t) ^ k:=by
 induction k with
 | zero=>simp [geo]
 | succ k ih =>
   rw [Nat.pow_succ,← ih]
   simp only [geo]
   rw [← ih]
   generalize geo (1 + t) k = g
   rw [Nat.mul_add,Nat.mul_add,Nat.mul_add,Nat.mul_one,Nat.mul_one,Nat.add_mul,Nat.one_mul,Nat.mul_comm (t * g) t]
   omega
theorem geo_mod {p x:Nat} (h:x % p = 1 % p):∀ k,geo x k % p = k % p
 | 0=>rfl
 | k + 1=>by
   simp only [geo]
   rw [Nat.add_mod,geo_mod h k,Nat.pow_mod,h,← Nat.pow_mod,Nat.one_pow,← Nat.add_mod]
theorem lift {p e x:Nat} (he:1 ≤ e) (h:x % p ^ e = 1 % p ^ e) (hx:1 ≤ x):x ^ p % p ^ (e + 1) = 1 % p ^ (e + 1):=by
 obtain ⟨t,rfl⟩:∃ t,x = 1 + t:=⟨x - 1,by omega⟩
 have h1:p ^ e ∣ t:=by have:=dvd_of_mod h;simpa using this
 have hpe:p ∣ p ^ e:=by
   obtain ⟨d,rfl⟩:∃ d,e = d + 1:=⟨e - 1,by omega⟩
   rw [Nat.pow_succ];exact Nat.dvd_mul_left p _
 have h2:(1 + t) % p = 1 % p:=mod_of_dvd (by omega) (by simpa using Nat.dvd_trans hpe h1)
 have h3:p ∣ geo (1 + t) p:=Nat.dvd_of_mod_eq_zero (by rw [geo_mod h2];exact Nat.mod_self p)
 have h4:=geo_mul t p
 refine mod_of_dvd (Nat.pow_pos (by omega)) ?_
 rw [← h4,Nat.add_sub_cancel,Nat.pow_succ]
 exact Nat.mul_dvd_mul h1 h3
theorem euler_pp {p a:Nat} (hp:IsP p) (ha:¬ p ∣ a):∀ e,a ^ (p ^ e * (p - 1)) % p ^ (e + 1) = 1 % p ^ (e + 1)
 | 0=>by simpa using fermat hp ha
 | e + 1=>by
   have ha0:0 < a:=by
     rcases Nat.eq_zero_or_pos a with h | h
     · subst h;exact absurd (Nat.dvd_zero p) ha
     · exact h
   have:=lift (by omega) (euler_pp hp ha e) (Nat.pow_pos ha0)
   rw [← Nat.pow_mul] at this
   rw [show p ^ (e + 1) * (p - 1) = p ^ e * (p - 1) * p by rw [Nat.pow_succ];simp only [Nat.mul_assoc,Nat.mul_comm,Nat.mul_left_comm]]
   exact this
def full (l:List (Nat×Nat)):Nat:=(l.map fun q=>q.1 ^ q.2).prod
theorem full_dvd {m:Nat}:∀ l:List (Nat×Nat),l.Pairwise (fun q r=>Nat.Coprime q.1 r.1)→(∀ q ∈ l,q.1 ^ q.2 ∣ m)→full l ∣ m
 | [],_,_=>by simp [full]
 | q :: l,hp,h=>by
   rw [List.pairwise_cons] at hp
   have h1:=full_dvd l hp.2 fun r hr=>h r (by simp [hr])
   have hc:Nat.Coprime (q.1 ^ q.2) (full l):=prod_cop _ fun x hx=>by
     obtain ⟨r,hr,rfl⟩:=List.mem_map.1 hx
     exact Nat.Coprime.pow _ _ (hp.1 r hr)
   show (((q :: l).map fun q=>q.1 ^ q.2).prod) ∣ m
   rw [List.map_cons,List.prod_cons]
   exact hc.mul_dvd_of_dvd_of_dvd (h q (by simp)) h1
def phi (l:List (Nat×Nat)):Nat:=(l.map fun q=>q.1 ^ (q.2 - 1) * (q.1 - 1)).prod
theorem dvd_prod {f:Nat×Nat→Nat}:∀ (l:List (Nat×Nat)),∀ q ∈ l,f q ∣ (l.map f).prod
 | [],q,h=>by simp at h
 | r :: l,q,h=>by
   rw [List.map_cons,List.prod_cons]
   rcases List.mem_cons.1 h with rfl | h
   · exact Nat.dvd_mul_right _ _
   · exact Nat.dvd_trans (dvd_prod l q h) (Nat.dvd_mul_left _ _)
theorem pow_one_of_dvd {a n k m:Nat} (h:a ^ k % n = 1 % n) (hd:k ∣ m):a ^ m % n = 1 % n:=by
 obtain ⟨c,rfl⟩:=hd
 rw [Nat.pow_mul,Nat.pow_mod,h,← Nat.pow_mod,Nat.one_pow]
theorem euler {a:Nat} (l:List (Nat×Nat)) (hl:l.Pairwise fun q r=>Nat.Coprime q.1 r.1) (hP:∀ q ∈ l,IsP q.1∧1 ≤ q.2) (ha:Nat.Coprime (full l) a) (ha0:0 < a):a ^ phi l % full l = 1 % full l:=by
 refine mod_of_dvd (Nat.pow_pos ha0) (full_dvd l hl fun q hq=>dvd_of_mod ?_)
 obtain ⟨hp,he⟩:=hP q hq
 obtain ⟨e,he'⟩:∃ e,q.2 = e + 1:=⟨q.2 - 1,by omega⟩
 have hnd:¬ q.1 ∣ a:=fun hd=>by
   have h1:q.1 ∣ full l:=Nat.dvd_trans (by rw [he',Nat.pow_succ];exact Nat.dvd_mul_left _ _) (dvd_prod (f:=fun q=>q.1 ^ q.2) l q hq)
   have h2:=Nat.dvd_gcd h1 hd
   rw [ha] at h2
   have:=Nat.dvd_one.1 h2
   have:=hp.1
   omega
 have h1:=euler_pp hp hnd e
 rw [he']
 exact pow_one_of_dvd h1 (by have:=dvd_prod (f:=fun q=>q.1 ^ (q.2 - 1) * (q.1 - 1)) l q hq;rw [he'] at this;simpa [phi] using this)
end Go.Nt
namespace Go.Nt
def IsOrd (n a o:Nat):Prop:=1 ≤ o∧a ^ o % n = 1 % n∧∀ k,1 ≤ k→k < o→a ^ k % n ≠ 1 % n
theorem pow_mod_one_mul {n a o q:Nat} (h:a ^ o % n = 1 % n) (r:Nat):a ^ (o * q + r) % n = a ^ r % n:=by
 rw [Nat.pow_add,Nat.mul_mod,Nat.pow_mul,Nat.pow_mod (a ^ o),h,← Nat.pow_mod,Nat.one_pow,← Nat.mul_mod,Nat.one_mul]
theorem ord_dvd {n a o k:Nat} (h:IsOrd n a o) (hk:a ^ k % n = 1 % n):o ∣ k:=by
 have h1:=pow_mod_one_mul (q:=k / o) h.2.1 (k % o)
 rw [Nat.div_add_mod,hk] at h1
 rcases Nat.eq_zero_or_pos (k % o) with h0 | h0
 · exact Nat.dvd_of_mod_eq_zero h0
 · exact absurd h1.symm (h.2.2 _ h0 (Nat.mod_lt _ h.1))
theorem exists_ord {n a m:Nat} (hm:1 ≤ m) (h:a ^ m % n = 1 % n):∃ o,IsOrd n a o:=by
 have key:∀ (F m:Nat),m ≤ F→1 ≤ m→a ^ m % n = 1 % n→∃ o,IsOrd n a o:=by
   intro F
   induction F with
   | zero=>intro m h1 h2;omega
   | succ F ih =>
     intro m h1 h2 h3
     by_cases hc:∃ k,1 ≤ k∧k < m∧a ^ k % n = 1 % n
     · obtain ⟨k,k1,k2,k3⟩:=hc
       exact ih k (by omega) k1 k3
     · exact ⟨m,h2,h3,fun k k1 k2 k3=>hc ⟨k,k1,k2,k3⟩⟩
 exact key m m (Nat.le_refl _) hm h
structure Left (n a m:Nat) (done:List Nat) (out:Nat):Prop where
 pos:1 ≤ out
 one:a ^ out % n = 1 % n
 dvd:out ∣ m
 fin:∀ q ∈ done,∃ s,out ∣ s∧(¬ q ∣ s ∨ a ^ (s / q) % n ≠ 1 % n)
theorem Left.start {n a m:Nat} (hm:1 ≤ m) (h:a ^ m % n = 1 % n):Left n a m [] m:=⟨hm,h,Nat.dvd_refl m,fun q hq=>by cases hq⟩
theorem Left.step {n a m:Nat} {done:List Nat} {out p:Nat} (L:Left n a m done out) (hp:2 ≤ p) (h:p ∣ out) (h1:a ^ (out / p) % n = 1 % n):Left n a m done (out / p)∧out / p < out:=by
 have hd:out / p ∣ out:=Nat.div_dvd_of_dvd h
 have hpos:=L.pos
 have hle:=Nat.le_of_dvd hpos h
 refine ⟨⟨Nat.div_pos hle (by omega),h1,Nat.dvd_trans hd L.dvd,fun q hq=>?_⟩,Nat.div_lt_self hpos hp⟩
 obtain ⟨s,s1,s2⟩:=L.fin q hq
 exact ⟨s,Nat.dvd_trans hd s1,s2⟩
theorem Left.stop {n a m:Nat} {done:List Nat} {out p:Nat} (L:Left n a m done out) (h:¬ p ∣ out ∨ a ^ (out / p) % n ≠ 1 % n):Left n a m (p :: done) out :=
 ⟨L.pos,L.one,L.dvd,fun q hq=>by
   rcases List.mem_cons.1 hq with rfl | hq
   · exact ⟨out,Nat.dvd_refl _,h⟩
   · exact L.fin q hq⟩
theorem Left.ord {n a m:Nat} {done:List Nat} {out:Nat} (L:Left n a m done out) (hall:∀ q,IsP q→q ∣ m→q ∈ done):IsOrd n a out:=by
 obtain ⟨o,ho⟩:=exists_ord L.pos L.one
 obtain ⟨c,hc⟩:=ord_dvd ho L.one
 by_cases h1:c = 1
 · subst h1;rw [Nat.mul_one] at hc;rw [hc];exact ho
 · exfalso
   have hpos:=L.pos
   have hc0:c ≠ 0:=fun h=>by subst h;omega
   obtain ⟨q,hq,hqc⟩:=exists_prime c c (Nat.le_refl _) (by omega)
   have hq2:=hq.1
   have hqo:q * o ∣ out:=by rw [hc,Nat.mul_comm q o];exact Nat.mul_dvd_mul_left o hqc
   obtain ⟨s,s1,s2⟩:=L.fin q (hall q hq (Nat.dvd_trans (Nat.dvd_trans (Nat.dvd_mul_right q o) hqo) L.dvd))
   have h3:=Nat.dvd_trans hqo s1
   rcases s2 with s2 | s2
   · exact s2 (Nat.dvd_trans (Nat.dvd_mul_right q o) h3)
   · apply s2
     obtain ⟨d,hd⟩:=h3
     have:s / q = o * d:=by rw [hd,Nat.mul_assoc];exact Nat.mul_div_cancel_left _ (by omega)
     rw [this]
     exact pow_one_of_dvd ho.2.1 (Nat.dvd_mul_right o d)
structure Facs (n:Nat) (l:List (Nat×Nat)):Prop where
 prod:full l = n
 prime:∀ q ∈ l,IsP q.1∧1 ≤ q.2
 cop:l.Pairwise fun q r=>Nat.Coprime q.1 r.1
theorem prime_of_least {n p:Nat} (hp:2 ≤ p) (hd:p ∣ n) (hs:∀ d,2 ≤ d→d < p→¬ d ∣ n):IsP p:=by
 refine ⟨hp,fun d hdp=>?_⟩
 rcases Nat.lt_or_ge d 2 with h | h
 · have h0:d ≠ 0:=fun h0=>by subst h0;have:=Nat.zero_dvd.1 hdp;omega
   exact .inl (by omega)
 · rcases Nat.lt_or_ge d p with h2 | h2
   · exact absurd (Nat.dvd_trans hdp hd) (hs d h h2)
   · exact .inr (Nat.le_antisymm (Nat.le_of_dvd (by omega) hdp) h2)
theorem prime_of_square {n p:Nat} (hn:2 ≤ n) (hs:∀ d,2 ≤ d→d < p→¬ d ∣ n) (h:n < p * p):IsP n:=by
 refine ⟨hn,fun d hd=>?_⟩
 obtain ⟨c,hc⟩:=hd
 have hd0:d ≠ 0:=fun h=>by subst h;omega
 have hc0:c ≠ 0:=fun h=>by subst h;omega
 rcases Nat.lt_or_ge d p with h1 | h1
 · rcases Nat.lt_or_ge d 2 with h2 | h2
   · exact .inl (by omega)
   · exact absurd ⟨c,hc⟩ (hs d h2 h1)
 · rcases Nat.lt_or_ge c p with h3 | h3
   · rcases Nat.lt_or_ge c 2 with h2 | h2
     · have:c = 1:=by omega
       subst this;exact .inr (by omega)
     · exact absurd ⟨d,by rw [hc,Nat.mul_comm]⟩ (hs c h2 h3)
   · have:=Nat.mul_le_mul h1 h3
     omega
theorem Facs.mem {n:Nat} {l:List (Nat×Nat)} (h:Facs n l) {q:Nat} (hq:IsP q) (hd:q ∣ n):∃ e,(q,e) ∈ l:=by
 have key:∀ l:List (Nat×Nat),(∀ r ∈ l,IsP r.1∧1 ≤ r.2)→q ∣ full l→∃ e,(q,e) ∈ l:=by
   intro l
   induction l with
   | nil =>
     intro _ h
     have:q ∣ 1:=h
     have:=Nat.dvd_one.1 this
     have:=hq.1
     omega
   | cons r l ih =>
     intro hp h
     by_cases hr:r.1 = q
     · exact ⟨r.2,by rw [← hr];simp⟩
     · have hc:Nat.Coprime q (r.1 ^ r.2):=Nat.Coprime.pow_right _ (hq.cop fun hd=>by
         rcases (hp r (by simp)).1.2 q hd with h1 | h1
         · have:=hq.1;omega
         · exact hr h1.symm)
       have h2:q ∣ r.1 ^ r.2 * full l:=h
       obtain ⟨e,he⟩:=ih (fun x hx=>hp x (by simp [hx])) (hc.dvd_of_dvd_mul_left h2)
       exact ⟨e,by simp [he]⟩
 exact key l h.prime (h.prod ▸ hd)
end Go.Nt
namespace Go.Pv
open Go.Nt
theorem mulw {n x y:Nat} (hn:n ≤ 1000000) (hx:x < n) (hy:y < n):Int.tmod (IntKind.wrap .i64 ((x:Int) * (y:Int))) (n:Int) = ((x * y % n:Nat):Int):=by
 have h:x * y ≤ 1000000 * 1000000:=Nat.mul_le_mul (by omega) (by omega)
 rw [← Int.natCast_mul,w64 (by omega) (by omega),tmodN]
theorem halfw {k:Nat} (hk:k < 4611686018427387904):IntKind.wrap .i64 (Int.tdiv (k:Int) 2) = ((k / 2:Nat):Int):=by
 rw [Int.tdiv_eq_ediv_of_nonneg (by omega),w64 (by omega) (by omega)];omega
theorem pow_odd (n out a j:Nat):(out * a % n) * (a * a % n) ^ j % n = out * a ^ (2 * j + 1) % n:=by
 rw [Nat.mul_mod,Nat.mod_mod,← Nat.pow_mod,← Nat.mul_mod]
 congr 1
 rw [← Nat.pow_two,← Nat.pow_mul,Nat.pow_succ,Nat.mul_assoc,Nat.mul_comm a]
theorem pow_even (n out a j:Nat):out * (a * a % n) ^ j % n = out * a ^ (2 * j) % n:=by
 rw [Nat.mul_mod,← Nat.pow_mod,← Nat.mul_mod]
 congr 1
 rw [← Nat.pow_two,← Nat.pow_mul]
theorem pow_loop58 (N:Nat) {C:Type} (k0:Int→Option C) (n:Nat) (h1:1 ≤ n) (hn:n ≤ 1000000):∀ (F a k out:Nat),k < 2 ^ F→k < 4611686018427387904→a < n→out < n→g58L28f N (F + 1) k0 (n:Int) (a:Int) (k:Int) (out:Int) = k0 ((out * a ^ k % n:Nat):Int):=by
 intro F
 induction F with
 | zero =>
   intro a k out hk _ ha ho
   have hk0:k = 0:=by simpa using hk
   subst hk0
   rw [g58L28f_succ]
   unfold g58L28B
   simp [Nat.mod_eq_of_lt ho]
 | succ F ih =>
   intro a k out hk hk2 ha ho
   rw [g58L28f_succ]
   unfold g58L28B
   by_cases hk0:k = 0
   · subst hk0
     simp [Nat.mod_eq_of_lt ho]
   · rw [show decide ((0:Int) < (k:Int)) = true by simp;omega,cond_true,show Int.tmod (k:Int) 2 = ((k % 2:Nat):Int) from tmodN k 2,halfw hk2,mulw hn ha ha,mulw hn ho ha]
     have hlt:k / 2 < 2 ^ F:=by rw [Nat.pow_succ] at hk;omega
     have hm:=Nat.mod_lt (a * a) (show 0 < n by omega)
     by_cases ho2:k % 2 = 1
     · rw [ho2,show ieq (((1:Nat)):Int) 1 = true from rfl,cond_true,if_neg (by omega),if_neg (by omega)]
       refine (ih (a * a % n) (k / 2) (out * a % n) hlt (by omega) hm (Nat.mod_lt _ (by omega))).trans ?_
       rw [pow_odd,show 2 * (k / 2) + 1 = k by omega]
     · rw [ieq_ne (by omega),cond_false,if_neg (by omega)]
       refine (ih (a * a % n) (k / 2) out hlt (by omega) hm ho).trans ?_
       rw [pow_even,show 2 * (k / 2) = k by omega]
theorem pow_loop18 (N:Nat) {C:Type} (k0:Int→Option C) (n:Nat) (h1:1 ≤ n) (hn:n ≤ 1000000):∀ (F a k out:Nat),k < 2 ^ F→k < 4611686018427387904→a < n→out < n→g18L58f N (F + 1) k0 (n:Int) (a:Int) (k:Int) (out:Int) = k0 ((out * a ^ k % n:Nat):Int):=by
 intro F
 induction F with
 | zero =>
   intro a k out hk _ ha ho
   have hk0:k = 0:=by simpa using hk
   subst hk0
   rw [g18L58f_succ]
   unfold g18L58B
   simp [Nat.mod_eq_of_lt ho]
 | succ F ih =>
   intro a k out hk hk2 ha ho
   rw [g18L58f_succ]
   unfold g18L58B
   by_cases hk0:k = 0
   · subst hk0
     simp [Nat.mod_eq_of_lt ho]
   · rw [show decide ((0:Int) < (k:Int)) = true by simp;omega,cond_true,show Int.tmod (k:Int) 2 = ((k % 2:Nat):Int) from tmodN k 2,halfw hk2,mulw hn ha ha,mulw hn ho ha]
     have hlt:k / 2 < 2 ^ F:=by rw [Nat.pow_succ] at hk;omega
     have hm:=Nat.mod_lt (a * a) (show 0 < n by omega)
     by_cases ho2:k % 2 = 1
     · rw [ho2,show ieq (((1:Nat)):Int) 1 = true from rfl,cond_true,if_neg (by omega),if_neg (by omega)]
       refine (ih (a * a % n) (k / 2) (out * a % n) hlt (by omega) hm (Nat.mod_lt _ (by omega))).trans ?_
       rw [pow_odd,show 2 * (k / 2) + 1 = k by omega]
     · rw [ieq_ne (by omega),cond_false,if_neg (by omega)]
       refine (ih (a * a % n) (k / 2) out hlt (by omega) hm ho).trans ?_
       rw [pow_even,show 2 * (k / 2) = k by omega]
theorem one_mul_mod (n x:Nat):1 % n * x % n = x % n:=by rw [Nat.mul_mod,Nat.mod_mod,← Nat.mul_mod,Nat.one_mul]
theorem big_pow {N k:Nat} (hN:64 ≤ N) (hk:k < 4611686018427387904):k < 2 ^ (N - 1):=by
 refine Nat.lt_of_lt_of_le hk (Nat.le_trans (show 4611686018427387904 ≤ 2 ^ 62 by decide) (Nat.pow_le_pow_right (by omega) (by omega)))
theorem power_eq (N:Nat) (hN:64 ≤ N) (n a k:Nat) (h1:1 ≤ n) (hn:n ≤ 1000000) (ha:a < n) (hk:k < 4611686018427387904):g58 N (n:Int) (a:Int) (k:Int) = some ((a ^ k % n:Nat):Int):=by
 unfold g58
 rw [if_neg (by omega),g58L28_eq,show Int.tmod 1 (n:Int) = ((1 % n:Nat):Int) from tmodN 1 n]
 have:=pow_loop58 N (fun e1=>some e1) n h1 hn (N - 1) a k (1 % n) (big_pow hN hk) hk ha (Nat.mod_lt _ (by omega))
 rw [show N - 1 + 1 = N by omega] at this
 rw [this,one_mul_mod]
theorem rpower_eq (N:Nat) (hN:64 ≤ N) (n a k:Nat) (h1:1 ≤ n) (hn:n ≤ 1000000) (ha:a < n) (hk:k < 4611686018427387904):g18 N (n:Int) (a:Int) (k:Int) = some ((a ^ k % n:Nat):Int):=by
 unfold g18
 rw [if_neg (by omega),if_neg (by omega),g18L58_eq,show Int.tmod 1 (n:Int) = ((1 % n:Nat):Int) from tmodN 1 n,tmodN,Nat.mod_eq_of_lt ha]
 have:=pow_loop18 N (fun e1=>some e1) n h1 hn (N - 1) a k (1 % n) (big_pow hN hk) hk ha (Nat.mod_lt _ (by omega))
 rw [show N - 1 + 1 = N by omega] at this
 rw [this,one_mul_mod]
end Go.Pv
namespace Go.Pv
open Go.Nt
abbrev FT:Ty:=.pair (.int .i64) (.pair (.int .i64) .unit)
def fq (q:Nat×Nat):Int×(Int×Unit):=((q.1:Int),(q.2:Int),())
def runs {t:Ty} (run:Cbs t):t.T→List (Nat×Nat)→t.T→Prop
 | x,[],x'=>x' = x
 | x,q :: l,x'=>∃ y,run.y x [.dat FT (fq q)] = some (y,true)∧runs run y l x'
theorem strip_loop (N p:Nat) (hp:2 ≤ p) (hpb:p ≤ 1000000):∀ (F n:Nat),1 ≤ n→n ≤ 1000000→n < F→∃ m d,n = p ^ d * m∧¬ p ∣ m∧1 ≤ m∧m ≤ n∧d ≤ n ∧
   ∀ (t:Ty) (C:Type) (k0:Int→(Int×(Int×Unit))→Cbs t→t.T→Int→Option C) (e:Nat) (run:Cbs t) (x:t.T),e + n ≤ 2000000→g71xL1612f N F t k0 (p:Int) (fq (p,e)) run x (n:Int) = k0 (p:Int) (fq (p,e + d)) run x (m:Int)
 | 0,n,_,_,h=>by omega
 | F + 1,n,h1,hb,h=>by
   by_cases hd:p ∣ n
   · obtain ⟨c,hc⟩:=hd
     have hc0:c ≠ 0:=fun h=>by subst h;omega
     have hcl:c < n:=by rw [hc];exact Nat.lt_of_lt_of_le (show c < 2 * c by omega) (Nat.mul_le_mul_right c hp)
     obtain ⟨m,d,e1,e2,e3,e4,e5,e6⟩:=strip_loop N p hp hpb F c (by omega) (by omega) (by omega)
     refine ⟨m,d + 1,by rw [hc,e1,Nat.pow_succ];simp only [Nat.mul_assoc,Nat.mul_comm,Nat.mul_left_comm],e2,e3,by omega,by omega,fun t C k0 e run x he=>?_⟩
     rw [g71xL1612f_succ]
     unfold g71xL1612B
     rw [if_neg (by omega),tmodN,show n % p = 0 from Nat.mod_eq_zero_of_dvd ⟨c,hc⟩,show ieq (((0:Nat)):Int) 0 = true from rfl,cond_true,if_neg (by omega)]
     have ed:IntKind.wrap .i64 (Int.tdiv (n:Int) (p:Int)) = (c:Int):=by
       rw [Int.tdiv_eq_ediv_of_nonneg (by omega),← Int.natCast_ediv,hc,Nat.mul_div_cancel_left c (by omega),w64 (by omega) (by omega)]
     rw [ed]
     have ew:((fq (p,e)).1,IntKind.wrap .i64 ((fq (p,e)).2.1 + 1),(fq (p,e)).2.2) = fq (p,e + 1):=by
       unfold fq
       simp only
       rw [w64 (by omega) (by omega)];rfl
     rw [ew]
     refine (e6 t C k0 (e + 1) run x (by omega)).trans ?_
     rw [show e + 1 + d = e + (d + 1) by omega]
   · refine ⟨n,0,by simp,hd,h1,Nat.le_refl _,by omega,fun t C k0 e run x he=>?_⟩
     rw [g71xL1612f_succ]
     unfold g71xL1612B
     rw [if_neg (by omega),tmodN,ieq_ne (fun h=>hd (Nat.dvd_of_mod_eq_zero (by exact_mod_cast h))),cond_false]
     rfl
theorem prime_cop {p q:Nat} (hp:IsP p) (hq:IsP q) (h:p ≠ q):Nat.Coprime p q:=hp.cop fun hd=>by
 rcases hq.2 p hd with h1 | h1
 · have:=hp.1;omega
 · exact h h1
theorem facs_cons {p d m:Nat} {l:List (Nat×Nat)} (hp:IsP p) (hd:1 ≤ d) (hnd:¬ p ∣ m) (h:Facs m l):Facs (p ^ d * m) ((p,d) :: l):=by
 refine ⟨?_,fun q hq=>?_,?_⟩
 · show (((p,d) :: l).map fun q=>q.1 ^ q.2).prod = _
   rw [List.map_cons,List.prod_cons,← h.prod];rfl
 · rcases List.mem_cons.1 hq with rfl | hq
   · exact ⟨hp,hd⟩
   · exact h.prime q hq
 · rw [List.pairwise_cons]
   refine ⟨fun r hr=>prime_cop hp (h.prime r hr).1 fun he=>hnd ?_,h.cop⟩
   obtain ⟨_,h2⟩:=h.prime r hr
   have h3:r.1 ^ r.2 ∣ full l:=dvd_prod (f:=fun q=>q.1 ^ q.2) l r hr
   rw [h.prod] at h3
   have he:p = r.1:=he
   rw [he]
   obtain ⟨e,he2⟩:∃ e,r.2 = e + 1:=⟨r.2 - 1,by omega⟩
   exact Nat.dvd_trans (by rw [he2,Nat.pow_succ];exact Nat.dvd_mul_left _ _) h3
theorem facs_loop (N:Nat) (hN:1000000 < N):∀ (F p n:Nat),2 ≤ p→1 ≤ n→n ≤ 1000000→(∀ d,2 ≤ d→d < p→¬ d ∣ n)→n - p + 1 < F→∃ l,Facs n l ∧
   ∀ (t:Ty) (C:Type) (k0 k1:Cbs t→t.T→Int→Option C) (run:Cbs t) (x x':t.T),runs run x l x'→g71xL6f N F t k0 k1 (p:Int) run x (n:Int) = k1 run x' 1
 | 0,p,n,_,_,_,_,h=>by omega
 | F + 1,p,n,hp,h1,hb,hs,h=>by
   by_cases hn1:n = 1
   · subst hn1
     refine ⟨[],⟨rfl,fun q hq=>(by cases hq),List.Pairwise.nil⟩,fun t C k0 k1 run x x' hr=>?_⟩
     have hr:x' = x:=hr
     subst hr
     rw [g71xL6f_succ]
     unfold g71xL6B
     rfl
   · have hpn:p ≤ n:=Nat.le_of_not_lt fun hlt=>hs n (by omega) hlt (Nat.dvd_refl n)
     have hpp:p * p ≤ 1000000 * 1000000:=Nat.mul_le_mul (by omega) (by omega)
     have hw:IntKind.wrap .i64 ((p:Int) * (p:Int)) = ((p * p:Nat):Int):=by rw [← Int.natCast_mul,w64 (by omega) (by omega)]
     by_cases hsq:n < p * p
     · have hP:=prime_of_square (by omega) hs hsq
       obtain ⟨m,d,e1,e2,e3,e4,e5,e6⟩:=strip_loop N n (by omega) hb N n h1 hb (by omega)
       have hd1:1 ≤ d:=Nat.pos_of_ne_zero fun h0=>by
         subst h0
         rw [Nat.pow_zero,Nat.one_mul] at e1
         exact e2 (by rw [← e1];exact Nat.dvd_refl n)
       have hm1:m = 1:=by
         obtain ⟨d',rfl⟩:∃ d',d = d' + 1:=⟨d - 1,by omega⟩
         rw [Nat.pow_succ,Nat.mul_comm (n ^ d') n,Nat.mul_assoc] at e1
         have h3:n ^ d' * m = 1:=Nat.eq_of_mul_eq_mul_left (show 0 < n by omega) (by rw [← e1,Nat.mul_one])
         exact Nat.dvd_one.1 ⟨n ^ d',by rw [Nat.mul_comm];exact h3.symm⟩
       subst hm1
       refine ⟨[(n,d)],?_,fun t C k0 k1 run x x' hr=>?_⟩
       · have:=facs_cons hP hd1 e2 (l:=[]) ⟨rfl,fun q hq=>(by cases hq),List.Pairwise.nil⟩
         rw [← e1] at this;exact this
       · obtain ⟨y,hy,hr⟩:=hr
         have hr:x' = y:=hr
         subst hr
         obtain ⟨G,rfl⟩:∃ G,F = G + 1:=⟨F - 1,by omega⟩
         rw [g71xL6f_succ]
         unfold g71xL6B
         rw [show decide ((1:Int) < (n:Int)) = true by simp;omega,cond_true,hw,show decide ((n:Int) < ((p * p:Nat):Int)) = true by simp;omega,cond_true,g71xL1612_eq]
         have h6:=e6 t C (fun e1 e2 e3 e4 e5=>bif (decide ((0:Int) < e2.2.1)) then Option.bind (e3.y e4 [.dat (.pair (.int .i64) (.pair (.int .i64) .unit)) e2]) fun r6=>bif (!r6.2) then (k0 e3 r6.1 e5) else (g71xL6f N (G + 1) t k0 k1 (IntKind.wrap .i64 (e1 + 1)) e3 r6.1 e5) else (g71xL6f N (G + 1) t k0 k1 (IntKind.wrap .i64 (e1 + 1)) e3 e4 e5)) 0 run x (by omega)
         refine h6.trans ?_
         rw [show decide ((0:Int) < (fq (n,0 + d)).2.1) = true by unfold fq;simp;omega,cond_true]
         rw [show 0 + d = d by omega]
         have hy2:run.y x [.dat (.pair (.int .i64) (.pair (.int .i64) .unit)) (fq (n,d))] = some (x',true):=hy
         rw [hy2]
         simp only [Option.bind_some,Bool.not_true,cond_false]
         rw [g71xL6f_succ]
         unfold g71xL6B
         rfl
     · obtain ⟨m,d,e1,e2,e3,e4,e5,e6⟩:=strip_loop N p hp (by omega) N n h1 hb (by omega)
       have hp2:2 * p ≤ p * p:=Nat.mul_le_mul_right p hp
       have hmn:m ∣ n:=by rw [e1];exact Nat.dvd_mul_left _ _
       have hs2:∀ d,2 ≤ d→d < p + 1→¬ d ∣ m:=fun q h2 h3 h4=>by
         by_cases hq:q = p
         · exact e2 (hq ▸ h4)
         · exact hs q h2 (by omega) (Nat.dvd_trans h4 hmn)
       obtain ⟨l,hl,hrun⟩:=facs_loop N hN F (p + 1) m (by omega) e3 (by omega) hs2 (by omega)
       have hwp:IntKind.wrap .i64 ((p:Int) + 1) = ((p + 1:Nat):Int):=by rw [w64 (by omega) (by omega)];omega
       have hstart:∀ (t:Ty) (C:Type) (k0 k1:Cbs t→t.T→Int→Option C) (run:Cbs t) (x:t.T),g71xL6f N (F + 1) t k0 k1 (p:Int) run x (n:Int) =
           bif (decide ((0:Int) < (d:Int))) then Option.bind (run.y x [.dat (.pair (.int .i64) (.pair (.int .i64) .unit)) (fq (p,d))]) fun r6=>bif (!r6.2) then (k0 run r6.1 (m:Int)) else (g71xL6f N F t k0 k1 ((p + 1:Nat):Int) run r6.1 (m:Int)) else (g71xL6f N F t k0 k1 ((p + 1:Nat):Int) run x (m:Int)):=by
         intro t C k0 k1 run x
         rw [g71xL6f_succ]
         unfold g71xL6B
         rw [show decide ((1:Int) < (n:Int)) = true by simp;omega,cond_true,hw,show decide ((n:Int) < ((p * p:Nat):Int)) = false by simp;omega,cond_false,g71xL1612_eq]
         have h6:=e6 t C (fun e7 e8 e9 e10 e11=>bif (decide ((0:Int) < e8.2.1)) then Option.bind (e9.y e10 [.dat (.pair (.int .i64) (.pair (.int .i64) .unit)) e8]) fun r12=>bif (!r12.2) then (k0 e9 r12.1 e11) else (g71xL6f N F t k0 k1 (IntKind.wrap .i64 (e7 + 1)) e9 r12.1 e11) else (g71xL6f N F t k0 k1 (IntKind.wrap .i64 (e7 + 1)) e9 e10 e11)) 0 run x (by omega)
         refine h6.trans ?_
         rw [show 0 + d = d by omega,hwp]
         rfl
       rcases Nat.eq_zero_or_pos d with h0 | h0
       · subst h0
         rw [Nat.pow_zero,Nat.one_mul] at e1
         subst e1
         refine ⟨l,hl,fun t C k0 k1 run x x' hr=>?_⟩
         rw [hstart]
         exact hrun t C k0 k1 run x x' hr
       · have hP:IsP p:=prime_of_least hp (by rw [e1];obtain ⟨d',rfl⟩:∃ d',d = d' + 1:=⟨d - 1,by omega⟩;rw [Nat.pow_succ,Nat.mul_assoc];exact Nat.dvd_trans (Nat.dvd_mul_right p m) (Nat.dvd_mul_left _ _)) hs
         refine ⟨(p,d) :: l,by rw [e1];exact facs_cons hP h0 e2 hl,fun t C k0 k1 run x x' hr=>?_⟩
         obtain ⟨y,hy,hr⟩:=hr
         rw [hstart,show decide ((0:Int) < (d:Int)) = true by simp;omega,cond_true]
         have hy2:run.y x [.dat (.pair (.int .i64) (.pair (.int .i64) .unit)) (fq (p,d))] = some (y,true):=hy
         rw [hy2]
         simp only [Option.bind_some,Bool.not_true,cond_false]
         exact hrun t C k0 k1 run y x' hr
theorem factors_eq (N:Nat) (hN:1000002 < N) (n:Nat) (h1:1 ≤ n) (hb:n ≤ 1000000):∃ l,Facs n l∧∀ (t:Ty) (run:Cbs t) (x x':t.T),runs run x l x'→g71x N t run x (n:Int) = some ((()),((run,x'),1,()),(())):=by
 obtain ⟨l,hl,h⟩:=facs_loop N (by omega) N 2 n (by omega) h1 hb (fun d h2 h3=>by omega) (by omega)
 refine ⟨l,hl,fun t run x x' hr=>?_⟩
 unfold g71x
 rw [g71xL6_eq]
 exact h t _ _ _ run x x' hr
end Go.Pv
namespace Go.Pv
open Go.Nt
abbrev UT:Ty:=.pair (.int .i64) (tyO [.box (.d (.int .i64)) (.a (.d (.int .i64)))])
theorem full_cons (q:Nat×Nat) (l:List (Nat×Nat)):full (q :: l) = q.1 ^ q.2 * full l:=by
 show ((q :: l).map fun q=>q.1 ^ q.2).prod = _;rw [List.map_cons,List.prod_cons];rfl
theorem phi_cons (q:Nat×Nat) (l:List (Nat×Nat)):phi (q :: l) = q.1 ^ (q.2 - 1) * (q.1 - 1) * phi l:=by
 show ((q :: l).map fun q=>q.1 ^ (q.2 - 1) * (q.1 - 1)).prod = _;rw [List.map_cons,List.prod_cons];rfl
theorem full_pos:∀ l:List (Nat×Nat),(∀ q ∈ l,IsP q.1∧1 ≤ q.2)→1 ≤ full l
 | [],_=>Nat.le_refl 1
 | q :: l,h=>by
   rw [full_cons]
   exact Nat.mul_pos (Nat.pow_pos (by have:=(h q (by simp)).1.1;omega)) (full_pos l fun r hr=>h r (by simp [hr]))
theorem phi_pos:∀ l:List (Nat×Nat),(∀ q ∈ l,IsP q.1∧1 ≤ q.2)→1 ≤ phi l∧phi l ≤ full l
 | [],_=>⟨Nat.le_refl 1,Nat.le_refl 1⟩
 | q :: l,h=>by
   have hq:=(h q (by simp)).1.1
   have h2:=(h q (by simp)).2
   have ih:=phi_pos l fun r hr=>h r (by simp [hr])
   rw [phi_cons,full_cons]
   have h3:1 ≤ q.1 ^ (q.2 - 1):=Nat.pow_pos (by omega)
   refine ⟨Nat.mul_pos (Nat.mul_pos h3 (by omega)) ih.1,Nat.mul_le_mul ?_ ih.2⟩
   obtain ⟨e,he⟩:∃ e,q.2 = e + 1:=⟨q.2 - 1,by omega⟩
   rw [he,Nat.add_sub_cancel,Nat.pow_succ]
   exact Nat.mul_le_mul_left _ (by omega)
theorem units_runs (N:Nat):∀ (l:List (Nat×Nat)) (c:Nat),1 ≤ c→(∀ q ∈ l,IsP q.1∧1 ≤ q.2)→c * full l ≤ 1000000 →
   runs (t:=UT) ⟨(g60R58 N).told.run [(.ref 3 0 [])],.unit,(g60R58 N).told.f [(.ref 3 0 [])]⟩ (0,(((c * full l:Nat):Int),())) l (0,(((c * phi l:Nat):Int),()))
 | [],c,_,_,_=>by
   show (_:UT.T) = _
   rfl
 | q :: l,c,hc,h,hb=>by
   have hq:=(h q (by simp)).1.1
   have h2:=(h q (by simp)).2
   obtain ⟨e,he⟩:∃ e,q.2 = e + 1:=⟨q.2 - 1,by omega⟩
   have hl:=full_pos l fun r hr=>h r (by simp [hr])
   have e1:c * full (q :: l) = q.1 * (c * q.1 ^ e * full l):=by
     rw [full_cons,he,Nat.pow_succ];simp only [Nat.mul_assoc,Nat.mul_comm,Nat.mul_left_comm]
   have e2:c * q.1 ^ e * full l * (q.1 - 1) = c * (q.1 ^ e * (q.1 - 1)) * full l:=by simp only [Nat.mul_assoc,Nat.mul_comm,Nat.mul_left_comm]
   have hle:c * (q.1 ^ e * (q.1 - 1)) * full l ≤ 1000000:=by
     rw [← e2]
     refine Nat.le_trans (Nat.mul_le_mul_left _ (Nat.sub_le q.1 1)) ?_
     rw [Nat.mul_comm,← e1];exact hb
   have hx:1 ≤ c * q.1 ^ e * full l:=Nat.mul_pos (Nat.mul_pos hc (Nat.pow_pos (by omega))) hl
   have hqb:q.1 ≤ 1000000:=by
     refine Nat.le_trans ?_ hb
     rw [e1];exact Nat.le_mul_of_pos_right _ hx
   have hxb:c * q.1 ^ e * full l ≤ 1000000:=by
     refine Nat.le_trans ?_ hb
     rw [e1];exact Nat.le_mul_of_pos_left _ (by omega)
   refine ⟨(0,(((c * (q.1 ^ e * (q.1 - 1)) * full l:Nat):Int),())),?_,?_⟩
   · refine (g60R58_run N ((c * full (q :: l):Nat):Int) 0 (fq q)).trans ?_
     rw [if_pos rfl]
     unfold g60R58B
     have f1:(fq q).1 = (q.1:Int):=rfl
     rw [f1,if_neg (by omega),e1]
     have f2:Int.tdiv ((q.1 * (c * q.1 ^ e * full l):Nat):Int) (q.1:Int) = ((c * q.1 ^ e * full l:Nat):Int):=by
       rw [Int.tdiv_eq_ediv_of_nonneg (by omega),← Int.natCast_ediv,Nat.mul_div_cancel_left _ (by omega)]
     have f3:IntKind.wrap .i64 (IntKind.wrap .i64 ((c * q.1 ^ e * full l:Nat):Int) * IntKind.wrap .i64 ((q.1:Int) - 1)) = ((c * (q.1 ^ e * (q.1 - 1)) * full l:Nat):Int):=by
       rw [← e2] at hle ⊢
       generalize c * q.1 ^ e * full l = X at hxb hle ⊢
       rw [w64 (x:=(X:Int)) (by omega) (by omega),w64 (x:=(q.1:Int) - 1) (by omega) (by omega),show (q.1:Int) - 1 = ((q.1 - 1:Nat):Int) by omega,← Int.natCast_mul]
       exact w64 (by omega) (by omega)
     rw [f2,f3];rfl
   · have ih:=units_runs N l (c * (q.1 ^ e * (q.1 - 1))) (Nat.mul_pos hc (Nat.mul_pos (Nat.pow_pos (by omega)) (by omega))) (fun r hr=>h r (by simp [hr])) hle
     have e3:c * phi (q :: l) = c * (q.1 ^ e * (q.1 - 1)) * phi l:=by rw [phi_cons,he,Nat.add_sub_cancel,Nat.mul_assoc c]
     rw [e3]
     exact ih
theorem units_eq (N:Nat) (hN:1000002 < N) (n:Nat) (h1:1 ≤ n) (hb:n ≤ 1000000):∃ l,Facs n l∧g60 N (n:Int) = some ((phi l:Nat):Int):=by
 obtain ⟨l,hl,h⟩:=factors_eq N hN n h1 hb
 refine ⟨l,hl,?_⟩
 unfold g60 g56x
 simp only [Option.bind_some]
 have hr:=units_runs N l 1 (Nat.le_refl 1) hl.prime (by rw [hl.prod];omega)
 rw [hl.prod,Nat.one_mul,Nat.one_mul] at hr
 have h2:=h UT _ _ _ hr
 refine (congrArg (fun z=>Option.bind z _) h2).trans ?_
 rfl
theorem order_loop (N:Nat) (n a m p e:Nat) (hp:2 ≤ p) (hpb:p ≤ 1000000) (f:(Int×Unit)→Option Bool) (hf:∀ j:Nat,j ≤ 1000000→f ((j:Int),()) = some (decide (a ^ j % n = 1 % n))) {C:Type} (k0:Int→(Int×(Int×Unit))→((Int×Unit)→Option Bool)→Option C) (g:(Int×Unit)→Option Bool) :
   ∀ (F out:Nat) (done:List Nat),Nt.Left n a m done out→out ≤ 1000000→out < F→∃ out',Nt.Left n a m (p :: done) out'∧out' ≤ out∧g61L4052f N F k0 f (out:Int) (fq (p,e)) g = k0 (out':Int) (fq (p,e)) g
 | 0,out,done,_,_,h=>by omega
 | F + 1,out,done,L,hb,h=>by
   rw [g61L4052f_succ]
   unfold g61L4052B
   have f1:(fq (p,e)).1 = (p:Int):=rfl
   rw [f1,if_neg (by omega),tmodN]
   by_cases hd:p ∣ out
   · rw [Nat.mod_eq_zero_of_dvd hd,show ieq (((0:Nat)):Int) 0 = true from rfl,cond_true,if_neg (by omega)]
     have hle:=Nat.div_le_self out p
     have ed:IntKind.wrap .i64 (Int.tdiv (out:Int) (p:Int)) = ((out / p:Nat):Int):=by
       rw [Int.tdiv_eq_ediv_of_nonneg (by omega),← Int.natCast_ediv]
       have hle2:=hle
       generalize out / p = X at hle2 ⊢
       exact w64 (by omega) (by omega)
     rw [ed,hf _ (by omega)]
     simp only [Option.bind_some]
     by_cases h1:a ^ (out / p) % n = 1 % n
     · rw [decide_eq_true h1,cond_true,if_neg (by omega)]
       obtain ⟨L2,hlt⟩:=L.step hp hd h1
       obtain ⟨o,g1,g2,g3⟩:=order_loop N n a m p e hp hpb f hf k0 g F (out / p) done L2 (by omega) (by omega)
       exact ⟨o,g1,by omega,g3⟩
     · rw [decide_eq_false h1,cond_false]
       exact ⟨out,L.stop (.inr h1),Nat.le_refl _,rfl⟩
   · rw [ieq_ne (fun h=>hd (Nat.dvd_of_mod_eq_zero (by exact_mod_cast h))),cond_false]
     exact ⟨out,L.stop (.inl hd),Nat.le_refl _,rfl⟩
theorem order_runs (N:Nat) (hN:1000000 < N) (n a m:Nat) (f:(Int×Unit)→Option Bool) (hf:∀ j:Nat,j ≤ 1000000→f ((j:Int),()) = some (decide (a ^ j % n = 1 % n))) :
   ∀ (l:List (Nat×Nat)) (out:Nat) (done:List Nat),(∀ q ∈ l,IsP q.1∧q.1 ≤ 1000000)→Nt.Left n a m done out→out ≤ 1000000→∃ out' done',Nt.Left n a m done' out'∧out' ≤ out∧(∀ q ∈ l,q.1 ∈ done')∧(∀ q ∈ done,q ∈ done') ∧
     runs (t:=UT) ⟨(g61R506 N).told.run [(.ref 5 0 []),(.eptr (.clo (.pair (.int .i64) .unit) .bool f))],.unit,(g61R506 N).told.f [(.ref 5 0 []),(.eptr (.clo (.pair (.int .i64) .unit) .bool f))]⟩ (0,((out:Int),())) l (0,((out':Int),()))
 | [],out,done,_,L,_=>⟨out,done,L,Nat.le_refl _,fun q hq=>(by cases hq),fun q hq=>hq,rfl⟩
 | q :: l,out,done,h,L,hb=>by
   have hq:=h q (by simp)
   obtain ⟨o1,L1,hle,hr⟩:=order_loop N n a m q.1 q.2 hq.1.1 hq.2 f hf (fun e10 e11 e12=>(some ((0,(e10,())),true):Option (UT.T×Bool))) f N out done L hb (by omega)
   obtain ⟨o2,d2,L2,hle2,hin,hin2,hrun⟩:=order_runs N hN n a m f hf l o1 (q.1 :: done) (fun r hr=>h r (by simp [hr])) L1 (by omega)
   refine ⟨o2,d2,L2,by omega,fun r hr=>?_,fun r hr=>hin2 r (by simp [hr]),⟨(0,((o1:Int),())),?_,hrun⟩⟩
   · rcases List.mem_cons.1 hr with rfl | hr
     · exact hin2 _ (by simp)
     · exact hin r hr
   · refine (g61R506_run N f (out:Int) 0 (fq q)).trans ?_
     rw [if_pos rfl]
     unfold g61R506B
     rw [g61L4052_eq]
     exact hr
end Go.Pv
namespace Go.Pv
open Go.Nt
theorem mem_le {n:Nat} {l:List (Nat×Nat)} (h:Facs n l) (hn:1 ≤ n):∀ q ∈ l,q.1 ≤ n:=fun q hq=>by
 obtain ⟨_,h2⟩:=h.prime q hq
 have h3:q.1 ^ q.2 ∣ full l:=dvd_prod (f:=fun q=>q.1 ^ q.2) l q hq
 rw [h.prod] at h3
 obtain ⟨e,he2⟩:∃ e,q.2 = e + 1:=⟨q.2 - 1,by omega⟩
 exact Nat.le_of_dvd (by omega) (Nat.dvd_trans (by rw [he2,Nat.pow_succ];exact Nat.dvd_mul_left _ _) h3)
theorem order_eq (N:Nat) (hN:1000002 < N) (n u:Nat) (h1:1 ≤ n) (hb:n ≤ 1000000) (hu:u < n) (hg:Nat.gcd n u = 1):∃ o,IsOrd n u o∧o ≤ 1000000∧g61 N (n:Int) (u:Int) = some (o:Int):=by
 obtain ⟨l,hl,hU⟩:=units_eq N hN n h1 hb
 have hphi:=phi_pos l hl.prime
 rw [hl.prod] at hphi
 have hone:u ^ phi l % n = 1 % n:=by
   by_cases hn:n = 1
   · subst hn;rw [Nat.mod_one,Nat.mod_one]
   · have hu0:0 < u:=Nat.pos_of_ne_zero fun h0=>by subst h0;rw [Nat.gcd_zero_right] at hg;exact hn hg
     have:=euler (a:=u) l hl.cop hl.prime (by rw [hl.prod];exact hg) hu0
     rw [hl.prod] at this;exact this
 obtain ⟨l2,hl2,h2⟩:=factors_eq N hN (phi l) hphi.1 (by omega)
 have hf:∀ j:Nat,j ≤ 1000000→(fun (x7:(Int)×(Unit))=>Option.bind (g72 N x7.1 (fun (x2:(Int)×((Int)×(Unit)))=>Option.bind (g58 N (n:Int) x2.1 x2.2.1) fun y3=>some y3) (u:Int) (Int.tmod 1 (n:Int))) fun y8=>some y8) ((j:Int),()) = some (decide (u ^ j % n = 1 % n)):=by
   intro j hj
   unfold g72
   show Option.bind (Option.bind (Option.bind (g58 N (n:Int) (u:Int) (j:Int)) fun y3=>some y3) fun r1=>some (ieq r1 (Int.tmod 1 (n:Int)))) (fun y8=>some y8) = _
   rw [power_eq N (by omega) n u j h1 hb hu (by omega),show Int.tmod 1 (n:Int) = ((1 % n:Nat):Int) from tmodN 1 n]
   simp only [Option.bind_some]
   by_cases he:u ^ j % n = 1 % n
   · rw [he,ieq_self,decide_eq_true rfl]
   · rw [ieq_ne (fun h=>he (by exact_mod_cast h)),decide_eq_false he]
 obtain ⟨o,done,L,hle,hin,_,hr⟩:=order_runs N (by omega) n u (phi l) (fun (x7:(Int)×(Unit))=>Option.bind (g72 N x7.1 (fun (x2:(Int)×((Int)×(Unit)))=>Option.bind (g58 N (n:Int) x2.1 x2.2.1) fun y3=>some y3) (u:Int) (Int.tmod 1 (n:Int))) fun y8=>some y8) hf l2 (phi l) [] (fun q hq=>⟨(hl2.prime q hq).1,by have:=mem_le hl2 hphi.1 q hq;omega⟩) (Nt.Left.start hphi.1 hone) (by omega)
 refine ⟨o,L.ord fun q hq hd=>?_,by omega,?_⟩
 · obtain ⟨e,he⟩:=hl2.mem hq hd
   exact hin _ he
 · unfold g61 g56x
   rw [hU]
   simp only [Option.bind_some]
   rw [if_neg (by omega)]
   refine (congrArg (fun z=>Option.bind z _) (h2 UT _ _ _ hr)).trans ?_
   rfl
theorem inverse_eq (N:Nat) (hN:1000002 < N) (n u o:Nat) (h1:1 ≤ n) (hb:n ≤ 1000000) (hu:u < n) (ho:IsOrd n u o) (hob:o ≤ 1000000) (hg:g61 N (n:Int) (u:Int) = some (o:Int)):g69 N (n:Int) (u:Int) = some ((u ^ (o - 1) % n:Nat):Int)∧u ^ (o - 1) % n * u % n = 1 % n:=by
 have hop:=ho.1
 refine ⟨?_,?_⟩
 · unfold g69
   rw [hg]
   simp only [Option.bind_some]
   rw [w64 (by omega) (by omega),show (o:Int) - 1 = ((o - 1:Nat):Int) by omega,power_eq N (by omega) n u (o - 1) h1 hb hu (by omega)]
   rfl
 · rw [Nat.mul_mod,Nat.mod_mod,← Nat.mul_mod,← Nat.pow_succ,show (o - 1).succ = o by omega]
   exact ho.2.1
end Go.Pv
namespace Go.Nt
theorem ord_inj {n g o i j:Nat} (hc:Nat.Coprime n g) (h:IsOrd n g o) (hi:i < o) (hj:j < o) (he:g ^ i % n = g ^ j % n):i = j:=by
 have key:∀ i j,i < j→j < o→g ^ i % n = g ^ j % n→False:=by
   intro i j hij hj he
   have h1:=dvd_of_mod he.symm
   rw [show g ^ j - g ^ i = g ^ i * (g ^ (j - i) - 1) by rw [Nat.mul_sub,Nat.mul_one,← Nat.pow_add,show i + (j - i) = j by omega]] at h1
   have h2:n ∣ g ^ (j - i) - 1:=(Nat.Coprime.pow_right i hc).dvd_of_dvd_mul_left h1
   by_cases hg:g = 0
   · subst hg
     have hn:n = 1:=by simpa [Nat.Coprime] using hc
     subst hn
     exact h.2.2 (j - i) (by omega) (by omega) (by rw [Nat.mod_one,Nat.mod_one])
   · exact h.2.2 (j - i) (by omega) (by omega) (mod_of_dvd (Nat.pow_pos (by omega)) h2)
 rcases Nat.lt_trichotomy i j with h1 | h1 | h1
 · exact (key i j h1 hj he).elim
 · exact h1
 · exact (key j i h1 hi he.symm).elim
theorem pow_mod_ord {n g o:Nat} (h:IsOrd n g o) (k:Nat):g ^ (k % o) % n = g ^ k % n:=by
 have:=pow_mod_one_mul (q:=k / o) h.2.1 (k % o)
 rw [Nat.div_add_mod] at this
 exact this.symm
theorem mul_cancel {n c x y:Nat} (hc:Nat.Coprime n c) (he:x * c % n = y * c % n):x % n = y % n:=by
 rcases Nat.le_total y x with h | h
 · have h1:=dvd_of_mod he
   rw [← Nat.sub_mul,Nat.mul_comm] at h1
   exact mod_of_dvd h (hc.dvd_of_dvd_mul_left h1)
 · have h1:=dvd_of_mod he.symm
   rw [← Nat.sub_mul,Nat.mul_comm] at h1
   exact (mod_of_dvd h (hc.dvd_of_dvd_mul_left h1)).symm
theorem great_step {n g s v h q:Nat} (hv:v * g ^ s % n = 1 % n):h * v ^ q % n * g ^ (q * s) % n = h % n:=by
 rw [Nat.mul_mod,Nat.mod_mod,← Nat.mul_mod,Nat.mul_assoc,Nat.mul_comm q s,Nat.pow_mul,← Nat.mul_pow,Nat.mul_mod,Nat.pow_mod,hv,← Nat.pow_mod,Nat.one_pow,← Nat.mul_mod,Nat.mul_one]
theorem found_log {n g s v h q k:Nat} (hv:v * g ^ s % n = 1 % n) (hk:g ^ k % n = h * v ^ q % n):g ^ (q * s + k) % n = h % n:=by
 have h1:=great_step (h:=h) (q:=q) hv
 rw [← hk,Nat.mul_mod,Nat.mod_mod,← Nat.mul_mod,← Nat.pow_add,Nat.add_comm] at h1
 exact h1
theorem log_found {n g s v h k:Nat} (hc:Nat.Coprime n g) (hv:v * g ^ s % n = 1 % n) (hk:g ^ k % n = h % n):g ^ (k % s) % n = h * v ^ (k / s) % n:=by
 have h1:=great_step (h:=h) (q:=k / s) hv
 rw [← hk] at h1
 have h2:h * v ^ (k / s) % n * g ^ (k / s * s) % n = g ^ (k % s) * g ^ (k / s * s) % n:=by
   rw [h1,← Nat.pow_add]
   congr 2
   have:=Nat.div_add_mod k s
   rw [Nat.mul_comm] at this
   omega
 have h3:=mul_cancel (Nat.Coprime.pow_right _ hc) h2
 rw [Nat.mod_mod] at h3
 exact h3.symm
end Go.Nt
namespace Go.Pv
open Go.Nt
theorem find_putG {α β:Type} [DecidableEq α] (eq:α→α→Bool) (he:∀ a b,eq a b = decide (a = b)) (k:α) (v:β) (k':α):∀ l:List (α×β),mapFind eq k' (mapPut eq k v l) = if k' = k then some v else mapFind eq k' l
 | []=>by
   simp only [mapPut,mapFind,he,decide_eq_true_eq]
 | q :: r=>by
   simp only [mapPut,he,decide_eq_true_eq]
   by_cases h:k = q.1
   · rw [if_pos h]
     simp only [mapFind,he,decide_eq_true_eq]
     by_cases h2:k' = k
     · rw [if_pos h2,if_pos h2]
     · rw [if_neg h2,if_neg h2,if_neg (by rw [← h];exact h2)]
   · rw [if_neg h]
     simp only [mapFind,he,decide_eq_true_eq]
     by_cases h2:k' = q.1
     · rw [if_pos h2,if_pos h2,if_neg (by rw [h2];exact fun h3=>h h3.symm)]
     · rw [if_neg h2,if_neg h2,find_putG eq he k v k' r]
theorem find_put (k k':Int) (v:Int) (l:List (Int×Int)):mapFind (Ty.beq (.int .i64)) k' (mapPut (Ty.beq (.int .i64)) k v l) = if k' = k then some v else mapFind (Ty.beq (.int .i64)) k' l:=find_putG (α:=Int) (β:=Int) (Ty.beq (.int .i64)) (fun _ _=>rfl) k v k' l
theorem ord_le (N:Nat) (hN:1000002 < N) (n u o:Nat) (h1:1 ≤ n) (hb:n ≤ 1000000) (hu:u < n) (hg:Nat.gcd n u = 1) (ho:IsOrd n u o):o ≤ n:=by
 obtain ⟨l,hl,_⟩:=factors_eq N hN n h1 hb
 have hphi:=phi_pos l hl.prime
 rw [hl.prod] at hphi
 by_cases hn:n = 1
 · subst hn
   have:=ho.2.2 1 (Nat.le_refl 1)
   rcases Nat.lt_or_ge 1 o with h | h
   · exact absurd (by rw [Nat.mod_one,Nat.mod_one]) (this h)
   · exact h
 · have hu0:0 < u:=Nat.pos_of_ne_zero fun h0=>by subst h0;rw [Nat.gcd_zero_right] at hg;exact hn hg
   have:=euler (a:=u) l hl.cop hl.prime (by rw [hl.prod];exact hg) hu0
   rw [hl.prod] at this
   have:=Nat.le_of_dvd (by omega) (ord_dvd ho this)
   omega
def LogIs (n g h o:Nat) (r:Option Nat):Prop:=match r with
 | some k=>k < o∧g ^ k % n = h
 | none=>∀ k,k < o→g ^ k % n ≠ h
theorem LogIs.eq {n g h o:Nat} (hc:Nat.Coprime n g) (ho:IsOrd n g o) {r s:Option Nat} (hr:LogIs n g h o r) (hs:LogIs n g h o s):r = s:=by
 cases r with
 | none=>cases s with
   | none=>rfl
   | some j=>exact absurd hs.2 (hr j hs.1)
 | some k=>cases s with
   | none=>exact absurd hr.2 (hs k hr.1)
   | some j=>rw [ord_inj hc ho hr.1 hs.1 (hr.2.trans hs.2.symm)]
def logV:Option Nat→Int
 | some k=>k
 | none=>-1
theorem rlog_loop (N:Nat) {C:Type} (k0:Int→Option C) (k1:Option C) (n g h o:Nat) (h1:1 ≤ n) (hb:n ≤ 1000000) (hgn:g < n) (hc:Nat.Coprime n g) (ho:IsOrd n g o) (hon:o ≤ n) :
   ∀ (F k:Nat),k < o→o - k < F→(∀ j,j < k→g ^ j % n ≠ h)→∃ r,LogIs n g h o r∧g20L58f N F k0 k1 (n:Int) (g:Int) (h:Int) ((g ^ k % n:Nat):Int) (k:Int) = k0 (logV r)
 | 0,k,_,hF,_=>by omega
 | F + 1,k,hk,hF,hno=>by
   rw [g20L58f_succ]
   unfold g20L58B
   rw [show decide ((k:Int) < (n:Int)) = true by simp;omega,cond_true]
   by_cases he:g ^ k % n = h
   · rw [he,ieq_self,cond_true]
     exact ⟨some k,⟨hk,he⟩,rfl⟩
   · rw [ieq_ne (fun e=>he (by exact_mod_cast e)),cond_false,if_neg (by omega),if_neg (by omega)]
     have hm:=Nat.mod_lt (g ^ k) (show 0 < n by omega)
     rw [mulw hb hm hgn,show Int.tmod 1 (n:Int) = ((1 % n:Nat):Int) from tmodN 1 n]
     have e:g ^ k % n * g % n = g ^ (k + 1) % n:=by rw [Nat.pow_succ,Nat.mul_mod,Nat.mod_mod,← Nat.mul_mod]
     rw [e]
     have hno2:∀ j,j < k + 1→g ^ j % n ≠ h:=fun j hj=>by
       by_cases hjk:j = k
       · rw [hjk];exact he
       · exact hno j (by omega)
     by_cases hone:g ^ (k + 1) % n = 1 % n
     · rw [hone,ieq_self,cond_true]
       have hko:k + 1 = o:=by
         have:=Nat.le_of_dvd (by omega) (ord_dvd ho hone)
         omega
       exact ⟨none,fun j hj=>hno2 j (by omega),rfl⟩
     · rw [ieq_ne (fun e=>hone (by exact_mod_cast e)),cond_false,w64 (by omega) (by omega),show (k:Int) + 1 = ((k + 1:Nat):Int) by omega]
       have hko:k + 1 < o:=Nat.lt_of_le_of_ne (by omega) fun e=>hone (by rw [e];exact ho.2.1)
       exact rlog_loop N k0 k1 n g h o h1 hb hgn hc ho hon F (k + 1) hko (by omega) hno2
theorem rlog_eq (N:Nat) (hN:1000002 < N) (n g h o:Nat) (h1:1 ≤ n) (hb:n ≤ 1000000) (hgn:g < n) (hc:Nat.Coprime n g) (ho:IsOrd n g o) (hon:o ≤ n):∃ r,LogIs n g h o r∧g20 N (n:Int) (g:Int) (h:Int) = some (logV r):=by
 unfold g20
 rw [if_neg (by omega),g20L58_eq,show Int.tmod 1 (n:Int) = ((1 % n:Nat):Int) from tmodN 1 n]
 have:=rlog_loop N (fun e1=>some e1) (some (-1)) n g h o h1 hb hgn hc ho hon N 0 ho.1 (by omega) (fun j hj=>by omega)
 rw [Nat.pow_zero] at this
 exact this
theorem step_loop (N:Nat) {C:Type} (k0:Int→Int→Int→Int→Int→Option C) (a b c:Int) (o:Nat) (ho:o ≤ 1000000):∀ (F s:Nat),1 ≤ s→s ≤ 1000→1001 - s < F→∃ s',1 ≤ s'∧s' ≤ 1000∧o ≤ s' * s'∧g53L108f N F k0 a b c (o:Int) (s:Int) = k0 a b c (o:Int) (s':Int)
 | 0,s,_,_,h=>by omega
 | F + 1,s,h1,h2,h=>by
   rw [g53L108f_succ]
   unfold g53L108B
   have hss:s * s ≤ 1000 * 1000:=Nat.mul_le_mul h2 h2
   rw [← Int.natCast_mul,w64 (x:=((s * s:Nat):Int)) (by omega) (by omega)]
   by_cases hlt:s * s < o
   · have hs:s < 1000:=Nat.lt_of_not_le fun hle=>by
       have:=Nat.mul_le_mul hle hle
       omega
     rw [show decide (((s * s:Nat):Int) < (o:Int)) = true by simp only [decide_eq_true_eq];omega,cond_true,w64 (by omega) (by omega),show (s:Int) + 1 = ((s + 1:Nat):Int) by omega]
     exact step_loop N k0 a b c o ho F (s + 1) (by omega) (by omega) (by omega)
   · rw [show decide (((s * s:Nat):Int) < (o:Int)) = false by simp only [decide_eq_false_iff_not];omega,cond_false]
     exact ⟨s,h1,h2,by omega,rfl⟩
structure Small (n g i s:Nat) (M:List (Int×Int)):Prop where
 ok:∀ (x k':Int),mapFind (Ty.beq (.int .i64)) x M = some k'→∃ k:Nat,k' = (k:Int)∧k < s∧((g ^ k % n:Nat):Int) = x
 all:∀ j,j < i→(mapFind (Ty.beq (.int .i64)) ((g ^ j % n:Nat):Int) M).isSome = true
theorem small_loop (N:Nat) {C:Type} (k0:Int→Int→Int→Int→Int→List (Int×Int)→Option C) (n g s:Nat) (h1:1 ≤ n) (hb:n ≤ 1000000) (hgn:g < n) (hs:s ≤ 1000) (c o:Int):∀ (F i:Nat) (M:List (Int×Int)),i ≤ s→s - i < F→Small n g i s M →
   ∃ M',Small n g s s M'∧g53L1786f N F k0 (n:Int) (g:Int) c o (s:Int) ((g ^ i % n:Nat):Int) (s:Int) (i:Int) M = k0 (n:Int) c o (s:Int) ((g ^ s % n:Nat):Int) M'
 | 0,i,M,_,h,_=>by omega
 | F + 1,i,M,hi,hF,S=>by
   rw [g53L1786f_succ]
   unfold g53L1786B
   by_cases his:i = s
   · subst his
     rw [show decide ((i:Int) < (i:Int)) = false by simp,cond_false]
     exact ⟨M,S,rfl⟩
   · rw [show decide ((i:Int) < (s:Int)) = true by simp only [decide_eq_true_eq];omega,cond_true]
     have hm:=Nat.mod_lt (g ^ i) (show 0 < n by omega)
     have e:g ^ i % n * g % n = g ^ (i + 1) % n:=by rw [Nat.pow_succ,Nat.mul_mod,Nat.mod_mod,← Nat.mul_mod]
     rw [mulw hb hm hgn,e,w64 (x:=(i:Int) + 1) (by omega) (by omega),show (i:Int) + 1 = ((i + 1:Nat):Int) by omega,if_neg (by omega),if_neg (by omega)]
     cases hf:(mapFind (Ty.beq (.int .i64)) ((g ^ i % n:Nat):Int) M).isSome with
     | true =>
       simp only [Bool.not_true,cond_false]
       refine small_loop N k0 n g s h1 hb hgn hs c o F (i + 1) M (by omega) (by omega) ⟨S.ok,fun j hj=>?_⟩
       by_cases hji:j = i
       · rw [hji];exact hf
       · exact S.all j (by omega)
     | false =>
       simp only [Bool.not_false,cond_true]
       refine small_loop N k0 n g s h1 hb hgn hs c o F (i + 1) _ (by omega) (by omega) ⟨fun x k' hx=>?_,fun j hj=>?_⟩
       · rw [find_put] at hx
         split at hx
         · rename_i hxe
           simp only [Option.some.injEq] at hx
           exact ⟨i,hx.symm,by omega,hxe.symm⟩
         · exact S.ok x k' hx
       · rw [find_put]
         split
         · rfl
         · rename_i hne
           by_cases hji:j = i
           · subst hji;exact absurd rfl hne
           · exact S.all j (by omega)
end Go.Pv
namespace Go.Pv
open Go.Nt
theorem awakeO:g21 2000000 = some true:=by kernel_rfl
theorem modulus_eq (N:Nat) (x:Int) (most:Nat) (h1:1 ≤ most) (h2:most ≤ 1000000):∃ m:Nat,1 ≤ m∧m ≤ most∧g16 N x (most:Int) = some (m:Int):=by
 unfold g16
 rw [wu64n (x:=(most:Int)) (by omega) (by omega),if_neg (by omega),wu64]
 have h0:0 ≤ x % 18446744073709551616:=Int.emod_nonneg _ (by decide)
 obtain ⟨j,hj⟩:=Int.eq_ofNat_of_zero_le h0
 rw [hj,tmodN]
 have hlt:=Nat.mod_lt j (show 0 < most by omega)
 refine ⟨1 + j % most,by omega,by omega,?_⟩
 generalize j % most = r at hlt ⊢
 rw [w64 (x:=(r:Int)) (by omega) (by omega),w64 (by omega) (by omega)]
 congr 1
theorem good {m u:Nat} (h1:1 ≤ m) (hb:m ≤ 1000000) (hu:u < m) (hg:Nat.gcd m u = 1):wrong (m:Int) (u:Int) = 0:=by
 unfold wrong
 rw [if_pos (show modI (m:Int) from ⟨by omega,by omega⟩),if_pos (show unitI (m:Int) (u:Int) from ⟨by omega,by omega,by simpa using hg⟩)]
end Go.Pv
namespace Go.Pv
open Go.Nt
theorem great_loop (N:Nat) {C:Type} (k0:Int→Bool→List (Int×Int)→Option C) (n g s h o v:Nat) (M:List (Int×Int)) (h1:1 ≤ n) (hb:n ≤ 1000000) (hh:h < n) (hvn:v < n) (hs1:1 ≤ s) (hs:s ≤ 1000) (hc:Nat.Coprime n g) (ho:IsOrd n g o) (hoss:o ≤ s * s) (hob:o ≤ 1000000) (S:Small n g s s M) (hv:v * g ^ s % n = 1 % n) :
   ∀ (F i:Nat),i ≤ s + 1→s + 1 - i < F→(∀ q,q < i→mapFind (Ty.beq (.int .i64)) ((h * v ^ q % n:Nat):Int) M = none) →
   ∃ r,LogIs n g h o r∧g53L28666f N F k0 (n:Int) ((h * v ^ i % n:Nat):Int) (o:Int) (s:Int) (v:Int) 0 false ((s:Int) + 1) (i:Int) M = match r with | some k=>k0 (k:Int) true M | none=>k0 0 false M
 | 0,i,_,hF,_=>by omega
 | F + 1,i,hi,hF,hno=>by
   rw [g53L28666f_succ]
   unfold g53L28666B
   have hop:=ho.1
   by_cases his:i = s + 1
   · rw [show decide ((i:Int) < (s:Int) + 1) = false by simp only [decide_eq_false_iff_not];omega,cond_false]
     refine ⟨none,fun k hk he=>?_,rfl⟩
     have hq:k / s < i:=by
       have:k / s < s:=Nat.div_lt_of_lt_mul (Nat.lt_of_lt_of_le hk hoss)
       omega
     have h3:=log_found hc hv (he.trans (Nat.mod_eq_of_lt hh).symm)
     have h4:=S.all (k % s) (Nat.mod_lt _ (by omega))
     rw [h3,hno _ hq] at h4
     cases h4
   · rw [show decide ((i:Int) < (s:Int) + 1) = true by simp only [decide_eq_true_eq];omega,cond_true]
     cases hf:mapFind (Ty.beq (.int .i64)) ((h * v ^ i % n:Nat):Int) M with
     | some k' =>
       obtain ⟨k,rfl,hks,hkx⟩:=S.ok _ _ hf
       have hkx2:g ^ k % n = h * v ^ i % n:=by exact_mod_cast hkx
       have h3:=found_log hv hkx2
       have hbd:i * s ≤ 1000 * 1000:=Nat.mul_le_mul (by omega) hs
       refine ⟨some ((i * s + k) % o),⟨Nat.mod_lt _ hop,by rw [pow_mod_ord ho,h3,Nat.mod_eq_of_lt hh]⟩,?_⟩
       simp only [Option.isSome_some,cond_true,Option.getD_some]
       rw [if_neg (by omega),← Int.natCast_mul,w64 (x:=((i * s:Nat):Int)) (by omega) (by omega),← Int.natCast_add,w64 (x:=((i * s + k:Nat):Int)) (by omega) (by omega),tmodN]
     | none =>
       simp only [Option.isSome_none,cond_false]
       have hm:=Nat.mod_lt (h * v ^ i) (show 0 < n by omega)
       have e:h * v ^ i % n * v % n = h * v ^ (i + 1) % n:=by rw [Nat.pow_succ,← Nat.mul_assoc,Nat.mul_mod,Nat.mod_mod,← Nat.mul_mod]
       rw [if_neg (by omega),mulw hb hm hvn,e,w64 (by omega) (by omega),show (i:Int) + 1 = ((i + 1:Nat):Int) by omega]
       refine great_loop N k0 n g s h o v M h1 hb hh hvn hs1 hs hc ho hoss hob S hv F (i + 1) (by omega) (by omega) fun q hq=>?_
       by_cases hqi:q = i
       · rw [hqi];exact hf
       · exact hno q (by omega)
theorem log_eq (N:Nat) (hN:1000002 < N) (n g h:Nat) (h1:1 ≤ n) (hb:n ≤ 1000000) (hgn:g < n) (hg:Nat.gcd n g = 1) (hh:h < n):∃ r:Int,g20 N (n:Int) (g:Int) (h:Int) = some r∧g53 N (n:Int) (g:Int) (h:Int) = some (imax r 0,decide (0 ≤ r),()):=by
 obtain ⟨o,ho,hob,h61⟩:=order_eq N hN n g h1 hb hgn hg
 have hon:=ord_le N hN n g o h1 hb hgn hg ho
 obtain ⟨r,hr,h20⟩:=rlog_eq N hN n g h o h1 hb hgn hg ho hon
 obtain ⟨s,hs1,hs2,hoss,hst⟩:=step_loop N (fun e2 e3 e4 e5 e6=>if e2 = 0 then none else g53L1786 N (fun e7 e8 e9 e10 e11 e12=>Option.bind (g69 N e7 e11) fun r13=>g53L28666 N (fun e14 e15 e16=>some (e14,e15,())) e7 e8 e9 e10 r13 0 false (IntKind.wrap .i64 (e10 + 1)) 0 e12) e2 e3 e4 e5 e6 (Int.tmod 1 e2) e6 0 ([]:List ((Int)×(Int)))) (n:Int) (g:Int) (h:Int) o hob N 1 (by omega) (by omega) (by omega)
 have S0:Small n g 0 s []:=⟨fun x k' hx=>by simp [mapFind] at hx,fun j hj=>by omega⟩
 obtain ⟨M,S,hsm⟩:=small_loop N (fun e7 e8 e9 e10 e11 e12=>Option.bind (g69 N e7 e11) fun r13=>g53L28666 N (fun e14 e15 e16=>some (e14,e15,())) e7 e8 e9 e10 r13 0 false (IntKind.wrap .i64 (e10 + 1)) 0 e12) n g s h1 hb hgn hs2 (h:Int) (o:Int) N 0 [] (by omega) (by omega) S0
 have hx:=Nat.mod_lt (g ^ s) (show 0 < n by omega)
 have hgx:Nat.gcd n (g ^ s % n) = 1:=by
   have:Nat.gcd n (g ^ s) = 1:=Nat.Coprime.pow_right s hg
   rw [Nat.gcd_rec] at this
   rw [Nat.gcd_comm];exact this
 obtain ⟨o2,ho2,hob2,h612⟩:=order_eq N hN n (g ^ s % n) h1 hb hx hgx
 obtain ⟨h69,hinv⟩:=inverse_eq N hN n (g ^ s % n) o2 h1 hb hx ho2 hob2 h612
 have hvn:=Nat.mod_lt ((g ^ s % n) ^ (o2 - 1)) (show 0 < n by omega)
 have hv:((g ^ s % n) ^ (o2 - 1) % n) * g ^ s % n = 1 % n:=by
   rw [← hinv,Nat.mul_mod _ (g ^ s),Nat.mod_mod]
 obtain ⟨r2,hr2,hgr⟩:=great_loop N (fun e14 e15 e16=>(some (e14,e15,()):Option (Int×(Bool×Unit)))) n g s h o ((g ^ s % n) ^ (o2 - 1) % n) M h1 hb hh hvn hs1 hs2 hg ho hoss hob S hv N 0 (by omega) (by omega) (fun q hq=>by omega)
 have hrr:=LogIs.eq hg ho hr hr2
 subst hrr
 refine ⟨logV r,h20,?_⟩
 unfold g53
 rw [h61]
 simp only [Option.bind_some]
 rw [g53L108_eq]
 refine hst.trans ?_
 rw [if_neg (by omega),g53L1786_eq,show Int.tmod 1 (n:Int) = ((g ^ 0 % n:Nat):Int) by rw [Nat.pow_zero];exact tmodN 1 n]
 refine hsm.trans ?_
 rw [h69]
 simp only [Option.bind_some]
 rw [g53L28666_eq,w64 (by omega) (by omega)]
 rw [Nat.pow_zero,Nat.mul_one,Nat.mod_eq_of_lt hh] at hgr
 refine hgr.trans ?_
 cases r with
 | none=>rfl
 | some k =>
   show some ((k:Int),true,()) = some (imax (k:Int) 0,decide (0 ≤ (k:Int)),())
   rw [decide_eq_true (by omega)]
   congr 2
theorem log_good (N:Nat) (hN:1000002 < N) (n g h:Nat) (h1:1 ≤ n) (hb:n ≤ 1000000) (hgn:g < n) (hg:Nat.gcd n g = 1) (hh:h < n) (hgh:Nat.gcd n h = 1):∃ r:Int,g20 N (n:Int) (g:Int) (h:Int) = some r∧g19 N (n:Int) (g:Int) (h:Int) = some (imax r 0,decide (0 ≤ r),0,()):=by
 obtain ⟨r,h20,h53⟩:=log_eq N hN n g h h1 hb hgn hg hh
 refine ⟨r,h20,?_⟩
 unfold g19
 obtain ⟨M,rfl⟩:∃ M,N = M + 3:=⟨N - 3,by omega⟩
 have c1:=check51 (M + 3) (n:Int) (g:Int) (by omega)
 rw [good h1 hb hgn hg] at c1
 have c2:=check51 (M + 3) (n:Int) (h:Int) (by omega)
 rw [good h1 hb hh hgh] at c2
 rw [g19L26_eq]
 refine (g19L26f_succ (M + 3) (M + 2) _ _ (n:Int) (g:Int) (h:Int) [(g:Int),(h:Int)] _ 0).trans ?_
 unfold g19L26B
 rw [show decide ((0:Int) < ((List.length [(g:Int),(h:Int)]:Nat):Int)) = true by simp,cond_true,if_pos (show idx 0 (List.length [(g:Int),(h:Int)]) from ⟨by omega,by simp⟩),
   show ([(g:Int),(h:Int)]).getD (Int.toNat 0) 0 = (g:Int) from rfl,c1]
 simp only [Option.bind_some,ieq_self,Bool.not_true,cond_false]
 rw [show IntKind.wrap .i64 ((0:Int) + 1) = 1 by rw [w64 (by omega) (by omega)];rfl]
 refine (g19L26f_succ (M + 3) (M + 1) _ _ (n:Int) (g:Int) (h:Int) [(g:Int),(h:Int)] _ 1).trans ?_
 unfold g19L26B
 rw [show decide ((1:Int) < ((List.length [(g:Int),(h:Int)]:Nat):Int)) = true by simp,cond_true,if_pos (show idx 1 (List.length [(g:Int),(h:Int)]) from ⟨by omega,by simp⟩),
   show ([(g:Int),(h:Int)]).getD (Int.toNat 1) 0 = (h:Int) from rfl,c2]
 simp only [Option.bind_some,ieq_self,Bool.not_true,cond_false]
 rw [show IntKind.wrap .i64 ((1:Int) + 1) = 2 by rw [w64 (by omega) (by omega)];rfl]
 refine (g19L26f_succ (M + 3) M _ _ (n:Int) (g:Int) (h:Int) [(g:Int),(h:Int)] _ 2).trans ?_
 unfold g19L26B
 rw [show decide ((2:Int) < ((List.length [(g:Int),(h:Int)]:Nat):Int)) = false by simp,cond_false]
 refine (congrArg (fun z=>Option.bind z _) h53).trans ?_
 rfl
theorem round_log (N:Nat) (hN:1000002 < N) {C:Type} (m g h:Nat) (h1:1 ≤ m) (hb:m ≤ 1000000) (hgn:g < m) (hg:Nat.gcd m g = 1) (hh:h < m) (hgh:Nat.gcd m h = 1) (z y:Option C) :
   (Option.bind (g19 N (m:Int) (g:Int) (h:Int)) fun r7=>Option.bind (g20 N (m:Int) (g:Int) (h:Int)) fun r8=>bif (!ieq r7.2.2.1 0) then z else bif (!beqB r7.2.1 (decide ((0:Int) ≤ r8))) then z else bif (!ieq r7.1 (imax r8 0)) then z else y) = y:=by
 obtain ⟨r,h20,h19⟩:=log_good N hN m g h h1 hb hgn hg hh hgh
 rw [h19,h20]
 simp only [Option.bind_some,ieq_self,Bool.not_true,cond_false]
 cases decide ((0:Int) ≤ r) <;> rfl
theorem pick (N:Nat) (hN:1000002 < N) (most:Nat) (hm1:1 ≤ most) (hm2:most ≤ 1000000) (a0 a1 a2:Int):∃ m g h:Nat,1 ≤ m∧m ≤ 1000000∧g < m∧Nat.gcd m g = 1∧h < m∧Nat.gcd m h = 1∧g16 N a0 (most:Int) = some (m:Int)∧g17 N (m:Int) a1 = some (g:Int)∧g17 N (m:Int) a2 = some (h:Int):=by
 obtain ⟨m,h1,h2,hm⟩:=modulus_eq N a0 most hm1 hm2
 obtain ⟨ui,hui,hu17⟩:=unit_eq N (by omega) (m:Int) a1 ⟨by omega,by omega⟩
 obtain ⟨u,rfl⟩:=Int.eq_ofNat_of_zero_le hui.1
 obtain ⟨vi,hvi,hv17⟩:=unit_eq N (by omega) (m:Int) a2 ⟨by omega,by omega⟩
 obtain ⟨v,rfl⟩:=Int.eq_ofNat_of_zero_le hvi.1
 exact ⟨m,u,v,h1,by omega,(by have:=hui.2.1;omega),(by simpa using hui.2.2),(by have:=hvi.2.1;omega),(by simpa using hvi.2.2),hm,hu17,hv17⟩
theorem logs_plain (a0 a1 a2:Int):g3 2000000 a0 a1 a2 = some true:=by
 have hN:1000002 < 2000000:=by omega
 unfold g3
 rw [g3L26_eq,awakeO]
 refine (g3L26f_succ 2000000 1999999 _ _ a0 a1 a2 0).trans ?_
 unfold g3L26B
 simp only [show decide ((0:Int) < 2) = true from rfl,show ieq (0:Int) 1 = false from rfl,cond_true,cond_false]
 obtain ⟨m,g,h,h1,h2,h3,h4,h5,h6,e1,e2,e3⟩:=pick 2000000 hN 1000000 (by omega) (by omega) a0 a1 a2
 rw [show (1000000:Int) = ((1000000:Nat):Int) from rfl,e1]
 simp only [Option.bind_some]
 rw [e2]
 simp only [Option.bind_some]
 rw [e3]
 simp only [Option.bind_some]
 refine (round_log 2000000 hN m g h h1 h2 h3 h4 h5 h6 _ _).trans ?_
 rw [show IntKind.wrap .i64 ((0:Int) + 1) = 1 by rw [w64 (by omega) (by omega)];rfl]
 refine (g3L26f_succ 2000000 1999998 _ _ a0 a1 a2 1).trans ?_
 unfold g3L26B
 simp only [show decide ((1:Int) < 2) = true from rfl,show ieq (1:Int) 1 = true from rfl,cond_true,cond_false]
 have fin:g3L26f 2000000 1999998 (fun e21=>some e21) (Option.bind (some true) fun r22=>some r22) a0 a1 a2 2 = some true:=by
   refine (g3L26f_succ 2000000 1999997 _ _ a0 a1 a2 2).trans ?_
   unfold g3L26B
   rfl
 obtain ⟨m,g,h,h1,h2,h3,h4,h5,h6,e1,e2,e3⟩:=pick 2000000 hN 400 (by omega) (by omega) a0 a1 a2
 rw [show (400:Int) = ((400:Nat):Int) from rfl,e1]
 simp only [Option.bind_some]
 rw [e2]
 simp only [Option.bind_some]
 rw [e3]
 simp only [Option.bind_some]
 rw [show IntKind.wrap .i64 ((1:Int) + 1) = 2 by rw [w64 (by omega) (by omega)];rfl]
 cases ieq (Int.tmod a2 2) 0 with
 | true =>
   simp only [cond_true]
   obtain ⟨j,hj,hw⟩:∃ j:Nat,j < 1000∧IntKind.wrap .i64 (Int.tmod (IntKind.wrap .u64 a2) 1000) = (j:Int):=by
     rw [wu64]
     have h0:0 ≤ a2 % 18446744073709551616:=Int.emod_nonneg _ (by decide)
     obtain ⟨j,hj⟩:=Int.eq_ofNat_of_zero_le h0
     rw [hj,show (1000:Int) = ((1000:Nat):Int) from rfl,tmodN]
     have hlt:=Nat.mod_lt j (show 0 < 1000 by omega)
     exact ⟨j % 1000,hlt,w64 (by omega) (by omega)⟩
   rw [hw,rpower_eq 2000000 (by omega) m g j h1 h2 h3 (by omega)]
   simp only [Option.bind_some]
   have hgx:Nat.gcd m (g ^ j % m) = 1:=by
     have:Nat.gcd m (g ^ j) = 1:=Nat.Coprime.pow_right j h4
     rw [Nat.gcd_rec] at this
     rw [Nat.gcd_comm];exact this
   exact (round_log 2000000 hN m g (g ^ j % m) h1 h2 h3 h4 (Nat.mod_lt _ (by omega)) hgx _ _).trans fin
 | false =>
   simp only [cond_false]
   exact (round_log 2000000 hN m g h h1 h2 h3 h4 h5 h6 _ _).trans fin
end Go.Pv
