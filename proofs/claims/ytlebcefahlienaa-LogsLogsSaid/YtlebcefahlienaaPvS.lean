/- The purifying layer, part 19: regions, in the order of the text and in any order. -/
import Derived.Test.YtlebcefahlienaaPvR
set_option linter.unusedVariables false
set_option linter.unusedSimpArgs false
namespace Go.Pv
variable {P:Program} {Γ:Cfg} {C:Type}
theorem put_look (k s:Nat) (o:Obj):∀ l:List (Nat×Nat×Obj),lookObj (putObj k s o l) = updLk1 (lookObj l) k s o
 | []=>by
   funext x
   simp only [putObj,lookObj,updLk1]
   by_cases h:x = k
   · subst h;simp
   · rw [if_neg h,if_neg (fun e=>h e.symm)]
 | (k',s',o') :: r=>by
   funext x
   simp only [putObj]
   split
   · rename_i h;subst h
     simp only [lookObj,updLk1]
     by_cases h:x = k
     · subst h;simp
     · rw [if_neg h,if_neg (fun e=>h e.symm),if_neg (fun e=>h e.symm)]
   · rename_i hkk
     split
     · simp only [lookObj,updLk1]
       by_cases h:x = k
       · subst h;simp
       · rw [if_neg h,if_neg (fun e=>h e.symm)]
     · simp only [lookObj,put_look k s o r,updLk1]
       by_cases h:x = k
       · subst h;simp [Ne.symm hkk]
       · simp [h]
theorem puts_look:∀ (wr l:List (Nat×Nat×Obj)),lookObj (putObjs wr l) = updLk wr (lookObj l)
 | [],l=>rfl
 | (k,s,o) :: r,l=>by simp only [putObjs,updLk,puts_look r,put_look]
abbrev S2:=Tm×Lk
def S2.put (nt:Nat) (S:S2) (dst:Option Tmp) (e:Eff):S2:=(updTm S.1 nt dst e.val,updLk e.wr S.2)
def St.s2 (st:St):S2:=(st.tm,st.lk)
theorem apply_len (st:St) (dst:Option Tmp) (e:Eff):(st.apply dst e).tmps.length = st.tmps.length:=by cases dst <;> simp [St.apply,Tms.put_length]
theorem apply_s2 (st:St) (dst:Option Tmp) (e:Eff):(st.apply dst e).s2 = st.s2.put st.tmps.length dst e:=by
 simp only [St.s2,S2.put,Prod.mk.injEq]
 constructor
 · funext t
   cases dst with
   | none=>simp [St.apply,St.tm,updTm]
   | some d =>
     simp only [St.apply,St.tm,updTm,Option.some.injEq,Tms.get_put]
     by_cases h:d = t
     · subst h;rfl
     · rw [if_neg (fun e=>h e.1),if_neg (fun e=>h e.1)]
 · exact puts_look e.wr st.objs
abbrev Act1:=Oper×Option Eff
def Act1.eff (t:Act1):Eff:=t.2.getD { val:=.undef }
def S2.step (nt:Nat) (S:S2) (t:Act1):S2:=S.put nt t.1.dst t.eff
def runS (nt:Nat):List Act1→S2→S2
 | [],S=>S
 | t :: r,S=>runS nt r (S.step nt t)
def Good (Γ:Cfg) (ops:Array Oper) (S:S2) (t:Act1):Prop :=
 (match t.1.guard with
  | none=>t.2.isSome = true
  | some (j,want)=>∃ g,guardTmp ops j = some g∧((S.1 g = .undef∧t.2 = none) ∨ ∃ b,S.1 g = .dat .bool b∧(t.2.isSome = (b == want)))) ∧
 ∀ e,t.2 = some e→evOp Γ t.1 S.1 S.2 some = some e
def Tr (Γ:Cfg) (ops:Array Oper) (nt:Nat):List Act1→S2→Prop
 | [],_=>True
 | t :: r,S=>Good Γ ops S t∧Tr Γ ops nt r (S.step nt t)
def foot1 (Γ:Cfg) (ops:Array Oper) (S:S2) (t:Act1):Foot :=
 match t.2 with
 | some e=>footOf Γ ops t.1 S.1 e
 | none=>skipFoot ops t.1
def feet (Γ:Cfg) (ops:Array Oper) (nt:Nat):List Act1→S2→List Foot
 | [],_=>[]
 | t :: r,S=>foot1 Γ ops S t :: feet Γ ops nt r (S.step nt t)
theorem set_same (st:St) {g:Nat} {v:V} (h:st.tm g = v):({ st with tmps:=st.tmps.put g v:St }).s2 = st.s2∧({ st with tmps:=st.tmps.put g v:St }).tmps.length = st.tmps.length:=by
 refine ⟨?_,Tms.put_length _ _ _⟩
 simp only [St.s2,Prod.mk.injEq]
 refine ⟨?_,rfl⟩
 funext t
 simp only [St.tm,Tms.get_put]
 split
 · rename_i hh;rw [← hh.1];exact h.symm
 · rfl
theorem ops_trace (hΓ:CfgOk P Γ) {ops:Array Oper} {draw:Bool} {r:C}:∀ (l:List Oper) (st:St) (fs:List Foot) (K':St→Option C),evOps Γ ops draw l st fs K' = some r →
   ∃ tr:List Act1,tr.map (·.1) = l∧Tr Γ ops st.tmps.length tr st.s2∧(∃ st',st'.tmps.length = st.tmps.length∧st'.s2 = runS st.tmps.length tr st.s2∧K' st' = some r) ∧
     (draw = true→footsOk ops (fs.reverse ++ feet Γ ops st.tmps.length tr st.s2) = true)
 | [],st,fs,K',h=>by
   simp only [evOps] at h
   cases draw with
   | false=>exact ⟨[],rfl,trivial,⟨st,rfl,rfl,h⟩,fun e=>by cases e⟩
   | true =>
     simp only [cond_true] at h
     cases hf:footsOk ops fs.reverse with
     | false=>rw [hf] at h;simp at h
     | true=>rw [hf] at h;exact ⟨[],rfl,trivial,⟨st,rfl,rfl,h⟩,fun _=>by simpa [feet] using hf⟩
 | o :: l,st,fs,K',h=>by
   -- one that is carried out
   have run:∀ st1:St,(st1.s2 = st.s2∧st1.tmps.length = st.tmps.length)→Good Γ ops st.s2 (o,none) ∨ True→(∀ x:Option Eff,x.isSome = true→(∀ e,x = some e→evOp Γ o st.s2.1 st.s2.2 some = some e)→Good Γ ops st.s2 (o,x)) →
       (evOp Γ o st1.tm st1.lk fun e=>evOps Γ ops draw l (st1.apply o.dst e) (bif draw then footOf Γ ops o st1.tm e :: fs else fs) K') = some r →
       ∃ tr:List Act1,tr.map (·.1) = o :: l∧Tr Γ ops st.tmps.length tr st.s2∧(∃ st',st'.tmps.length = st.tmps.length∧st'.s2 = runS st.tmps.length tr st.s2∧K' st' = some r) ∧
         (draw = true→footsOk ops (fs.reverse ++ feet Γ ops st.tmps.length tr st.s2) = true):=by
     intro st1 hst _ hg hrun
     obtain ⟨hs2,hlen⟩:=hst
     have e1:st1.tm = st.tm:=congrArg Prod.fst hs2
     have e2:st1.lk = st.lk:=congrArg Prod.snd hs2
     obtain ⟨e,he,hrest⟩:=op_some hΓ.natX hΓ.nat hrun
     rw [e1,e2] at he
     obtain ⟨tr,h1,h2,⟨st',h3,h4,h5⟩,h6⟩:=ops_trace hΓ l _ _ K' hrest
     rw [apply_len,hlen] at h2 h3 h4 h6
     rw [apply_s2,hs2,hlen] at h2 h4 h6
     rw [e1] at h6
     refine ⟨(o,some e) :: tr,by simp [h1],⟨hg _ rfl (fun e' h'=>by cases h';exact he),h2⟩,⟨st',h3,h4,h5⟩,fun hd=>?_⟩
     have h6:=h6 hd
     subst hd
     simp only [cond_true,List.reverse_cons,List.append_assoc,List.singleton_append] at h6
     exact h6
   -- one that is passed over
   have skip:∀ st1:St,(st1.s2 = st.s2∧st1.tmps.length = st.tmps.length)→Good Γ ops st.s2 (o,none) →
       evOps Γ ops draw l (st1.apply o.dst { val:=.undef }) (bif draw then skipFoot ops o :: fs else fs) K' = some r →
       ∃ tr:List Act1,tr.map (·.1) = o :: l∧Tr Γ ops st.tmps.length tr st.s2∧(∃ st',st'.tmps.length = st.tmps.length∧st'.s2 = runS st.tmps.length tr st.s2∧K' st' = some r) ∧
         (draw = true→footsOk ops (fs.reverse ++ feet Γ ops st.tmps.length tr st.s2) = true):=by
     intro st1 hst hg hrun
     obtain ⟨hs2,hlen⟩:=hst
     obtain ⟨tr,h1,h2,⟨st',h3,h4,h5⟩,h6⟩:=ops_trace hΓ l _ _ K' hrun
     rw [apply_len,hlen] at h2 h3 h4 h6
     rw [apply_s2,hs2,hlen] at h2 h4 h6
     refine ⟨(o,none) :: tr,by simp [h1],⟨hg,h2⟩,⟨st',h3,h4,h5⟩,fun hd=>?_⟩
     have h6:=h6 hd
     subst hd
     simpa [feet,foot1,S2.step,Act1.eff] using h6
   simp only [evOps] at h
   split at h
   · rename_i hgd
     exact run st ⟨rfl,rfl⟩ (.inr trivial) (fun x hx he=>⟨by rw [hgd];exact hx,he⟩) h
   · rename_i j want hgd
     split at h
     · simp at h
     · rename_i g hgt
       split at h
       · rename_i hv
         exact skip st ⟨rfl,rfl⟩ ⟨by rw [hgd];exact ⟨g,hgt,.inl ⟨hv,rfl⟩⟩,fun e he=>by cases he⟩ h
       · rename_i b hv
         revert b
         intro (b:Bool) hv h
         cases b with
         | true =>
           simp only [cond_true] at h
           have hs:=set_same st hv
           cases want with
           | true=>exact run _ hs (.inr trivial) (fun x hx he=>⟨by rw [hgd];exact ⟨g,hgt,.inr ⟨true,hv,by simpa using hx⟩⟩,he⟩) h
           | false=>exact skip _ hs ⟨by rw [hgd];exact ⟨g,hgt,.inr ⟨true,hv,rfl⟩⟩,fun e he=>by cases he⟩ h
         | false =>
           simp only [cond_false] at h
           have hs:=set_same st hv
           cases want with
           | true=>exact skip _ hs ⟨by rw [hgd];exact ⟨g,hgt,.inr ⟨false,hv,rfl⟩⟩,fun e he=>by cases he⟩ h
           | false=>exact run _ hs (.inr trivial) (fun x hx he=>⟨by rw [hgd];exact ⟨g,hgt,.inr ⟨false,hv,by simpa using hx⟩⟩,he⟩) h
       · simp at h
end Go.Pv
