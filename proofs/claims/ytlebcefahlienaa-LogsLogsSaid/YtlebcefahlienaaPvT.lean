/- The purifying layer, part 20: regions in the order of the text; what a selection of a region's operations leaves. -/
import Derived.Test.YtlebcefahlienaaPvS
set_option linter.unusedVariables false
set_option linter.unusedSimpArgs false
namespace Go.Pv
variable {P:Program} {Γ:Cfg} {C:Type}
structure Wide (F:Fence):Prop where
 fn:∀ f,F.fn f
 depth:F.depth = none
 alive:F.alive = false
theorem Wide.fenced {F:Fence} (h:Wide F) (P:Program) (m:Machine):m.fenced P F:=by
 intro g _
 refine ⟨fun e=>?_,.inl (h.fn _),fun f _=>h.fn f,fun d hd=>?_⟩
 · rw [h.alive] at e;cases e
 · rw [h.depth] at hd;cases hd
theorem Wide.room {F:Fence} (h:Wide F) (n:Nat):F.room n:=fun d hd=>by rw [h.depth] at hd;cases hd
theorem wide_wide:Wide Fence.wide:=⟨fun _=>trivial,rfl,rfl⟩
theorem wide_calls {F:Fence} (h:Wide F) {n:Nat} {f:FuncId} {args:Array Value} {w:World} {R:Ending→World→Prop} (hc:Calls P f args w R):CallsIn F n P f args w R:=by
 have hc:=(callsIn_wide (n:=n)).2 hc
 have:Machine.fenced P F = Machine.fenced P Fence.wide:=by
   funext m
   exact propext ⟨fun _=>fenced_wide P m,fun _=>h.fenced P m⟩
 refine ⟨h.fn f,fun cs _=>?_⟩
 obtain ⟨e,w',fr,h1,h2,h3⟩:=hc.2 cs (wide_wide.room _)
 exact ⟨e,w',fr,h1,by rw [this];exact h2,h3⟩
theorem wide_rounds {F:Fence} (h:Wide F) {n l:Nat} {f:FuncId} {tmps:Array Value} {assign body:Code} {w:World} {R:Ending→World→Prop} (hr:RoundIn Fence.wide 0 P l f tmps assign body w R):RoundIn F n P l f tmps assign body w R:=by
 have he:Machine.fenced P F = Machine.fenced P Fence.wide:=by
   funext m
   exact propext ⟨fun _=>fenced_wide P m,fun _=>h.fenced P m⟩
 refine ⟨h.fn f,fun c cs _=>?_⟩
 obtain ⟨e,w',h1,h2⟩:=hr.2 c cs (wide_wide.room _)
 exact ⟨e,w',h1,by rw [he];exact h2⟩
theorem wpOp_of_done {F:Fence} (hF:Wide F) {n:Nat} {o:Oper} {a:Act} {w:World} {next:Act→World→Prop} {Q:Exit→Act→World→Prop} (hd:∀ c,o.op ≠ .defer c) (h:Done P o a w next):o.wpIn F n P a w next Q:=by
 refine ⟨fun f _=>hF.fn f,?_⟩
 rw [Oper.semAt_eq _ _ _ hd]
 rcases h with ⟨v,w',hr,hn⟩ | ⟨w',hr,hn⟩ | ⟨f,args,w',hr,hc⟩ | ⟨l,fn,tmps,assign,body,hr,hc⟩
 · rw [hr];exact hn
 · rw [hr];exact hn
 · rw [hr]
   refine ⟨fun hs=>by rw [hF.depth] at hs;simp at hs,CallsIn.mono (wide_calls hF hc) fun e w'' he=>?_⟩
   obtain ⟨v,rfl,hn⟩:=he
   exact hn
 · rw [hr]
   refine ⟨fun hs=>by rw [hF.depth] at hs;simp at hs,RoundIn.mono (wide_rounds hF hc) fun e w'' he=>?_⟩
   obtain ⟨v,rfl,hn⟩:=he
   exact hn
abbrev RelS (cx:Cx) (S:S2) (a:Act) (w:World):Prop:=∃ Fz pos U,RelIn cx S.1 S.2 a w Fz pos U
theorem yielded_of {ops:Array Oper} {a:Act} {j g:Nat} (hg:guardTmp ops j = some g):yielded ops a.tmps j = (match a.tmps.getD g undef with | .bool b=>some b | _=>none):=by
 unfold yielded guardTmp at *
 rw [hg]
 simp only [Option.bind_some]
 by_cases h:g < a.tmps.size
 · simp only [Array.getElem?_eq_getElem h,Array.getD_eq_getD_getElem?,Option.getD_some]
   cases a.tmps[g] <;> rfl
 · simp only [Array.getElem?_eq_none (Nat.le_of_not_lt h),Array.getD_eq_getD_getElem?,Option.getD_none,Go.undef]
theorem step_one {cx:Cx} {S:S2} {a:Act} {w:World} (hΓ:CfgOk P Γ) (hP:cx.P = P) (hg:cx.G = Γ.glob) {F:Fence} (hF:Wide F) {n:Nat} {ops:Array Oper} {Q:Exit→Act→World→Prop} {i:Nat} {t:Act1} (ho:ops[i]? = some t.1)
   (r:RelS cx S a w) (hgood:Good Γ ops S t) {K:Act→World→Prop} (hK:∀ a' w',RelS cx (S.step cx.nt t) a' w'→K a' w'):wpOpIn F n P ops Q i K a w:=by
 obtain ⟨Fz,pos,U,r⟩:=r
 obtain ⟨o,x⟩:=t
 obtain ⟨h1,h2⟩:=hgood
 have hw:Region.wanted o (yielded ops a.tmps) = x.isSome:=by
   unfold Region.wanted
   simp only at h1
   split at h1
   · rename_i hgd;rw [hgd];simp [h1]
   · rename_i j want hgd
     obtain ⟨g,hgt,hc⟩:=h1
     rw [hgd]
     simp only
     rw [yielded_of hgt]
     have hrep:=r.tmps g
     rcases hc with ⟨hv,hx⟩ | ⟨b,hv,hx⟩
     · rw [hv] at hrep
       have hrep:a.tmps.getD g undef = undef:=hrep
       rw [hrep,hx];simp [Go.undef]
     · rw [hv] at hrep
       rw [repBool hrep,hx]
       cases b <;> cases want <;> rfl
 unfold wpOpIn
 simp only at ho
 rw [ho]
 simp only
 rw [hw]
 cases x with
 | none =>
   simp only [Option.isSome_none,Bool.false_eq_true,if_false]
   refine ⟨fun f _=>hF.fn f,hK _ _ ⟨Fz,pos,U,?_⟩⟩
   exact r.value o.dst (v:=.undef) (u:=undef) rfl
 | some e =>
   simp only [Option.isSome_some,if_true]
   have he:=h2 e rfl
   have hok:=ok_op hΓ hP r hg he
   have hd:∀ c,o.op ≠ .defer c:=by
     intro c hc
     simp only at he
     rw [evOp,show gridOp Γ o S.fst S.snd = false by unfold gridOp;rw [hc],cond_false,evOp0,hc] at he
     simp at he
   refine wpOp_of_done hF hd ?_
   rcases hok with ⟨v,w',hr,hn⟩ | ⟨w',hr,hn⟩ | ⟨f,args,w',hr,hc⟩ | ⟨l,fn,tmps,assign,body,hr,hc⟩
   · exact .inl ⟨v,w',hr,hK _ _ hn⟩
   · exact .inr (.inl ⟨w',hr,hK _ _ hn⟩)
   · exact .inr (.inr (.inl ⟨f,args,w',hr,Calls.mono hc fun e w'' ⟨v,h3,h4⟩=>⟨v,h3,hK _ _ h4⟩⟩))
   · exact .inr (.inr (.inr ⟨l,fn,tmps,assign,body,hr,RoundIn.mono hc fun e w'' ⟨v,h3,h4⟩=>⟨v,h3,hK _ _ h4⟩⟩))
theorem text_ops {cx:Cx} (hΓ:CfgOk P Γ) (hP:cx.P = P) (hg:cx.G = Γ.glob) {F:Fence} (hF:Wide F) {n:Nat} {ops:Array Oper} {Q:Exit→Act→World→Prop} :
   ∀ (tr:List Act1) (i:Nat) (S:S2) (a:Act) (w:World),ops.toList.drop i = tr.map (·.1)→Tr Γ ops cx.nt tr S→RelS cx S a w→(∀ a' w',RelS cx (runS cx.nt tr S) a' w'→Q .normal a' w') →
     wpOpsIn F n P ops Q (List.range' i tr.length) a w
 | [],i,S,a,w,_,_,r,hQ=>hQ a w r
 | t :: tr,i,S,a,w,hd,ht,r,hQ=>by
   simp only [List.length_cons,List.range'_succ]
   rw [wpOpsIn_cons]
   have ho:ops[i]? = some t.1:=by
     have:(ops.toList.drop i)[0]? = some t.1:=by rw [hd];rfl
     rw [List.getElem?_drop] at this
     simpa using this
   refine step_one hΓ hP hg hF ho r ht.1 fun a' w' r'=>text_ops hΓ hP hg hF tr (i + 1) _ a' w' ?_ ht.2 r' hQ
   have:ops.toList.drop (i + 1) = (ops.toList.drop i).drop 1:=by rw [List.drop_drop]
   rw [this,hd];rfl
theorem region_text {cx:Cx} (hΓ:CfgOk P Γ) (hP:cx.P = P) (hg:cx.G = Γ.glob) {F:Fence} (hF:Wide F) {n id:Nat} {ops:Array Oper} {Q:Exit→Act→World→Prop} {tr:List Act1} {S:S2} {a:Act} {w:World}
   (hm:tr.map (·.1) = ops.toList) (ht:Tr Γ ops cx.nt tr S) (r:RelS cx S a w) (hQ:∀ a' w',RelS cx (runS cx.nt tr S) a' w'→Q .normal a' w'):(Code.region id ops false).wpIn F n P Q a w:=by
 apply wpIn_region
 have:=text_ops (n:=n) (Q:=Q) hΓ hP hg hF tr 0 S a w (by simpa using hm.symm) ht r hQ
 have hl:tr.length = ops.size:=by have:=congrArg List.length hm;simpa using this
 rw [List.range_eq_range',← hl]
 exact this
end Go.Pv
