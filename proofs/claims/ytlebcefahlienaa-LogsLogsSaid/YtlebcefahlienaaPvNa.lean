/- The purifying layer, part 14a: maps on atoms. -/
import Derived.Test.YtlebcefahlienaaPvN
set_option linter.unusedVariables false
set_option linter.unusedSimpArgs false
namespace Go.Pv
variable {P:Program} {Γ:Cfg} {C:Type}
def V.flat:V→Bool
 | .dat t _=>!t.isAgg
 | .agg _ | .tup _ | .fn _ _=>false
 | _=>true
structure AtomMap (A B:E) (f:V→V):Prop where
 fut:Fut A.Fz A.w B.Fz B.w
 ref:∀ k s p u,RepA A (.ref k s p) u→(f (.ref k s p)).flat = true∧RepA B (f (.ref k s p)) u
 sl:∀ e k s u,RepA A (.sl e k s) u→(f (.sl e k s)).flat = true∧RepA B (f (.sl e k s)) u
 mp:∀ k s u,RepA A (.mp k s) u→(f (.mp k s)).flat = true∧RepA B (f (.mp k s)) u
 row:∀ e k s p u,RepA A (.row e k s p) u→(f (.row e k s p)).flat = true∧RepA B (f (.row e k s p)) u
 P:B.P = A.P
 G:B.G = A.G
 cb:∀ i u,RepA A (.cb i) u→(f (.cb i)).flat = true∧RepA B (f (.cb i)) u
 sv:∀ i v,A.sv i = some v→B.sv i = some v
variable {A B:E} {f:V→V}
theorem flat_L {v:V} {u:Value} (hf:v.flat = true):RepL B v u ↔ RepA B v u:=by cases v <;> first | exact Iff.rfl | simp [V.flat] at hf
theorem flat_G {v:V} {u:Value} (hf:v.flat = true):RepG B v u ↔ RepA B v u:=by cases v <;> first | exact Iff.rfl | simp [V.flat] at hf
theorem flat_T {v:V} {u:Value} (hf:v.flat = true):RepT B v u ↔ RepA B v u:=by cases v <;> first | exact Iff.rfl | simp [V.flat] at hf
theorem flat_F {v:V} {u:Value} (hf:v.flat = true) (h1:u.oneCell' = true) (h:RepA B v u):RepF B v [u]:=by
 cases v
 case dat t x =>
   simp only [V.flat,Bool.not_eq_true'] at hf
   obtain ⟨cs,hc,hu⟩:=h
   obtain ⟨u',rfl,hp⟩:=leaf_one hc hf
   rw [hp] at hu;subst hu;exact hc
 all_goals first | exact ⟨u,rfl,h1,h⟩ | simp [V.flat] at hf
theorem mapA_rep (m:AtomMap A B f) {v:V} {u:Value} (h:RepA A v u):RepA B (v.mapA f) u:=by
 cases v <;> simp only [V.mapA]
 case ref k s p=>exact (m.ref k s p u h).2
 case sl e k s=>exact (m.sl e k s u h).2
 case mp k s=>exact (m.mp k s u h).2
 case row e k s p=>exact (m.row e k s p u h).2
 case dat t x=>simp only [RepA] at h ⊢;rw [m.P,m.G];exact RepA0.mono m.fut _ _ h
 case clo a b g=>simp only [RepA] at h ⊢;rw [m.P,m.G];exact RepA0.mono m.fut _ _ h
 case eptr u' =>
   obtain ⟨b,off,c,T,fz,cells,h1,h2,h3,h4,h5⟩:=h
   exact ⟨b,off,c,T,fz,cells,h1,(m.fut b h2).1,(m.fut b h2).2.trans h3,by rw [m.P,m.G];exact RepP.mono m.fut _ _ h4,h5⟩
 case cb i=>exact (m.cb i u h).2
 all_goals exact h
theorem mapL_rep (m:AtomMap A B f) {v:V} {u:Value} (h:RepL A v u):RepL B (v.mapL f) u:=by
 cases v
 case fn g caps =>
   obtain ⟨us,h1,h2⟩:=h
   exact ⟨us,h1,Pt.map (V.mapA f) (fun v u hv=>mapA_rep m hv) _ _ h2⟩
 case ref k s p=>exact (flat_L (m.ref k s p u h).1).2 (m.ref k s p u h).2
 case sl e k s=>exact (flat_L (m.sl e k s u h).1).2 (m.sl e k s u h).2
 case mp k s=>exact (flat_L (m.mp k s u h).1).2 (m.mp k s u h).2
 case row e k s p=>exact (flat_L (m.row e k s p u h).1).2 (m.row e k s p u h).2
 case cb i=>exact (flat_L (m.cb i u h).1).2 (m.cb i u h).2
 all_goals (simp only [RepL] at h;have h2:=mapA_rep m h;exact h2)
theorem mapF_rep (m:AtomMap A B f) {v:V} {cs:List Value} (h:RepF A v cs):RepF B (v.mapL f) cs:=by
 cases v
 case dat t x=>exact RepC.mono m.fut t x cs h
 all_goals obtain ⟨u,rfl,h1,h2⟩:=h
 case ref k s p=>exact flat_F (m.ref k s p u h2).1 h1 (m.ref k s p u h2).2
 case sl e k s=>exact flat_F (m.sl e k s u h2).1 h1 (m.sl e k s u h2).2
 case mp k s=>exact flat_F (m.mp k s u h2).1 h1 (m.mp k s u h2).2
 case row e k s p=>exact flat_F (m.row e k s p u h2).1 h1 (m.row e k s p u h2).2
 case cb i=>exact flat_F (m.cb i u h2).1 h1 (m.cb i u h2).2
 all_goals exact ⟨u,rfl,h1,mapL_rep m h2⟩
theorem mapG_rep (m:AtomMap A B f) {v:V} {u:Value} (h:RepG A v u):RepG B (v.mapG f) u:=by
 cases v
 case agg fs =>
   obtain ⟨cs,h1,h2⟩:=h
   exact ⟨cs,h1,All2.map (V.mapL f) (fun v cs hv=>mapF_rep m hv) _ _ h2⟩
 case ref k s p=>exact (flat_G (m.ref k s p u h).1).2 (m.ref k s p u h).2
 case sl e k s=>exact (flat_G (m.sl e k s u h).1).2 (m.sl e k s u h).2
 case mp k s=>exact (flat_G (m.mp k s u h).1).2 (m.mp k s u h).2
 case row e k s p=>exact (flat_G (m.row e k s p u h).1).2 (m.row e k s p u h).2
 case cb i=>exact (flat_G (m.cb i u h).1).2 (m.cb i u h).2
 all_goals (simp only [RepG] at h;have h2:=mapL_rep m h;exact h2)
theorem mapT_rep (m:AtomMap A B f) {v:V} {u:Value} (h:RepT A v u):RepT B (v.mapT f) u:=by
 cases v
 case tup vs =>
   obtain ⟨us,h1,h2⟩:=h
   exact ⟨us,h1,Pt.map (V.mapG f) (fun v u hv=>mapG_rep m hv) _ _ h2⟩
 case ref k s p=>exact (flat_T (m.ref k s p u h).1).2 (m.ref k s p u h).2
 case sl e k s=>exact (flat_T (m.sl e k s u h).1).2 (m.sl e k s u h).2
 case mp k s=>exact (flat_T (m.mp k s u h).1).2 (m.mp k s u h).2
 case row e k s p=>exact (flat_T (m.row e k s p u h).1).2 (m.row e k s p u h).2
 case cb i=>exact (flat_T (m.cb i u h).1).2 (m.cb i u h).2
 all_goals (simp only [RepT] at h;have h2:=mapG_rep m h;exact h2)
theorem mapB_rep (m:AtomMap A B f) {v:V} {cs:List Value} (h:RepB A v cs):RepB B (v.mapG f) cs:=by
 have hb:∀ {w:V} {u:Value},w.flat = true→RepF B w [u]→RepB B w [u]:=by
   intro w u hf h
   cases w <;> first | exact h | simp [V.flat] at hf
 cases v
 case agg fs=>exact All2.map (V.mapL f) (fun v cs hv=>mapF_rep m hv) _ _ h
 case ref k s p =>
   obtain ⟨u,rfl,h1,h2⟩:=h
   exact hb (m.ref k s p u h2).1 (flat_F (m.ref k s p u h2).1 h1 (m.ref k s p u h2).2)
 case sl e k s =>
   obtain ⟨u,rfl,h1,h2⟩:=h
   exact hb (m.sl e k s u h2).1 (flat_F (m.sl e k s u h2).1 h1 (m.sl e k s u h2).2)
 case mp k s =>
   obtain ⟨u,rfl,h1,h2⟩:=h
   exact hb (m.mp k s u h2).1 (flat_F (m.mp k s u h2).1 h1 (m.mp k s u h2).2)
 case row e k s p =>
   obtain ⟨u,rfl,h1,h2⟩:=h
   exact hb (m.row e k s p u h2).1 (flat_F (m.row e k s p u h2).1 h1 (m.row e k s p u h2).2)
 case cb i =>
   obtain ⟨u,rfl,h1,h2⟩:=h
   exact hb (m.cb i u h2).1 (flat_F (m.cb i u h2).1 h1 (m.cb i u h2).2)
 all_goals (simp only [RepB] at h;have h2:=mapF_rep m h;exact h2)
theorem mapO_rep (m:AtomMap A B f) {o:Obj} {v:Value} (hok:(o.mapV f).fitOk = true) (hb:∀ b,VB v b→B.w.heap[b]? = A.w.heap[b]?) (h:RepO A o v):RepO B (o.mapV f) v:=by
 cases o
 case box sh c =>
   obtain ⟨h1,b,cells,T,h2,h3,h4⟩:=h
   exact ⟨hok,b,cells,T,h2,(hb b (by rw [h2];rfl)).trans h3,mapB_rep m h4⟩
 case vec e xs =>
   refine h.imp id fun ⟨b,off,cap,cells,T,h1,h2,h3,h4,h5,cs,h6,h7⟩=>⟨b,off,cap,cells,T,h1,(hb b (by rw [h1];rfl)).trans h2,h3,h4,h5,cs,All2.mono (fun x cs hx=>hx.mono m.fut) _ _ h6,h7⟩
 case gh t run x=>exact h
 case gone=>exact h
 case grid e ids rows =>
   obtain ⟨hs,h1,h2⟩:=h
   subst h1
   exact ⟨hs,rfl,h2.mono m.fut hb⟩
 case sav i x=>exact ⟨h.1,let ⟨u,h1,h2⟩:=h.2;⟨u,m.sv _ _ h1,mapT_rep m h2⟩⟩
 case mi k v es seen cur =>
   obtain ⟨r,h1,h2,h3⟩:=h
   refine ⟨r,h1,h2.imp (fun h4=>⟨(hb r (by rw [h1];rfl)).trans h4.1,h4.2⟩) fun ⟨b,ents,since,h4,h5,h6,h7,h8⟩=>⟨b,ents,since,(hb r (by rw [h1];rfl)).trans h4,(m.fut b h5).1,(m.fut b h5).2.trans h6,h7,
     MapRep.mono (fun x u ⟨c,hc,hu⟩=>⟨c,hc.mono m.fut,hu⟩) (fun x u ⟨c,hc,hu⟩=>⟨c,hc.mono m.fut,hu⟩) _ _ _ h8⟩,h3⟩
 case map k v es =>
   obtain ⟨b,ents,clock,h1,h2,h3,h4⟩:=h
   exact ⟨b,ents,clock,h1,(hb b (by rw [h1];rfl)).trans h2,h3,MapRep.mono (fun x u ⟨c,hc,hu⟩=>⟨c,hc.mono m.fut,hu⟩) (fun x u ⟨c,hc,hu⟩=>⟨c,hc.mono m.fut,hu⟩) _ _ _ h4⟩
theorem mapV_alike (o:Obj):o.alike (o.mapV f):=by cases o <;> simp [Obj.alike,Obj.mapV]
end Go.Pv
