/- Plain: numbering things in the order in which they come; machines, what they say, and that a reduced machine in the order of its discovery is one. -/
set_option linter.unusedSectionVars false
set_option linter.unusedVariables false
set_option linter.unusedSimpArgs false
namespace Go.Pv
section
variable {K:Type} [DecidableEq K]
def posOf (k:K):List K→Nat
 | []=>0
 | x :: r=>if x = k then 0 else posOf k r + 1
theorem posOf_lt {k:K}:∀ {D:List K},k ∈ D→posOf k D < D.length
 | x :: r,h=>by
   unfold posOf
   split
   · simp
   · rename_i hne
     have:k ∈ r:=by rcases List.mem_cons.1 h with h | h;exact absurd h.symm hne;exact h
     have:=posOf_lt this
     simp;omega
theorem posOf_get {k:K}:∀ {D:List K},k ∈ D→D[posOf k D]? = some k
 | x :: r,h=>by
   unfold posOf
   split
   · rename_i he;simp [he]
   · rename_i hne
     have:k ∈ r:=by rcases List.mem_cons.1 h with h | h;exact absurd h.symm hne;exact h
     simpa using posOf_get this
theorem posOf_append {k:K}:∀ {D:List K} (E:List K),k ∈ D→posOf k (D ++ E) = posOf k D
 | x :: r,E,h=>by
   simp only [List.cons_append,posOf]
   split
   · rfl
   · rename_i hne
     have:k ∈ r:=by rcases List.mem_cons.1 h with h | h;exact absurd h.symm hne;exact h
     rw [posOf_append E this]
theorem posOf_new {k:K}:∀ {D:List K},k ∉ D→posOf k (D ++ [k]) = D.length
 | [],_=>by simp [posOf]
 | x :: r,h=>by
   simp only [List.mem_cons,not_or] at h
   simp only [List.cons_append,posOf]
   rw [if_neg (fun e=>h.1 e.symm),posOf_new h.2]
   rfl
theorem posOf_inj {a b:K} {D:List K} (ha:a ∈ D) (hb:b ∈ D) (h:posOf a D = posOf b D):a = b:=by
 have h1:=posOf_get ha
 have h2:=posOf_get hb
 rw [h,h2] at h1
 exact (Option.some.inj h1).symm
def numD:List K→List K→List K
 | [],D=>D
 | k :: r,D=>if k ∈ D then numD r D else numD r (D ++ [k])
theorem numD_mem:∀ (l D:List K) (k:K),k ∈ D ∨ k ∈ l→k ∈ numD l D
 | [],D,k,h=>by rcases h with h | h;exact h;simp at h
 | x :: r,D,k,h=>by
   unfold numD
   split
   · rename_i hx
     refine numD_mem r D k ?_
     rcases h with h | h
     · exact .inl h
     · rcases List.mem_cons.1 h with h | h
       · exact .inl (h ▸ hx)
       · exact .inr h
   · refine numD_mem r _ k ?_
     rcases h with h | h
     · exact .inl (by simp [h])
     · rcases List.mem_cons.1 h with h | h
       · exact .inl (by simp [h])
       · exact .inr h
theorem numD_pos:∀ (l D:List K) (k:K),k ∈ D→posOf k (numD l D) = posOf k D
 | [],D,k,h=>rfl
 | x :: r,D,k,h=>by
   unfold numD
   split
   · exact numD_pos r D k h
   · rw [numD_pos r _ k (by simp [h]),posOf_append _ h]
theorem numD_le:∀ (l D:List K),(numD l D).length ≤ D.length + l.length
 | [],D=>Nat.le_refl _
 | x :: r,D=>by
   unfold numD
   split
   · have:=numD_le r D;simp;omega
   · have:=numD_le r (D ++ [x])
     simp at this ⊢;omega
end
section
variable {A B:Type} [DecidableEq A] [DecidableEq B]
theorem mem_swap {α:Type} {p q:α} {S L:List α} (h:q ∈ (p :: S) ++ L):q ∈ S ++ p :: L:=by
 rcases List.mem_append.1 h with h | h
 · rcases List.mem_cons.1 h with h | h
   · rw [h];simp
   · exact List.mem_append_left _ h
 · exact List.mem_append_right _ (List.mem_cons_of_mem _ h)
theorem mem_swap' {α:Type} {p q:α} {S L:List α} (h:q ∈ S ++ p :: L):q ∈ (p :: S) ++ L:=by
 rcases List.mem_append.1 h with h | h
 · exact List.mem_append_left _ (List.mem_cons_of_mem _ h)
 · rcases List.mem_cons.1 h with h | h
   · rw [h];simp
   · exact List.mem_append_right _ h
structure Seen (S:List (A×B)) (D:List A) (E:List B):Prop where
 a:∀ p ∈ S,p.1 ∈ D
 b:∀ p ∈ S,p.2 ∈ E
 e:∀ b ∈ E,∃ a,(a,b) ∈ S
theorem Seen.push {S:List (A×B)} {D:List A} {E:List B} (h:Seen S D E) (p:A×B) {D':List A} {E':List B} (hD:∀ a ∈ D,a ∈ D') (hE:∀ b ∈ E,b ∈ E') (ha:p.1 ∈ D') (hb:p.2 ∈ E') (he:∀ b ∈ E',b ∈ E ∨ b = p.2):Seen (p :: S) D' E':=by
 refine ⟨fun q hq=>?_,fun q hq=>?_,fun b hb'=>?_⟩
 · rcases List.mem_cons.1 hq with rfl | hq
   · exact ha
   · exact hD _ (h.a q hq)
 · rcases List.mem_cons.1 hq with rfl | hq
   · exact hb
   · exact hE _ (h.b q hq)
 · rcases he b hb' with h1 | h1
   · obtain ⟨a,ha'⟩:=h.e b h1;exact ⟨a,by simp [ha']⟩
   · exact ⟨p.1,by simp [h1]⟩
theorem num_mono:∀ (L S:List (A×B)) (D:List A) (E:List B),Seen S D E→(∀ p ∈ S ++ L,∀ q ∈ S ++ L,p.2 = q.2→p.1 = q.1)→(numD (L.map (·.1)) D).length + E.length ≤ (numD (L.map (·.2)) E).length + D.length
 | [],S,D,E,h,_=>by simp [numD];omega
 | p :: L,S,D,E,h,hr=>by
   have hr':∀ q ∈ (p :: S) ++ L,∀ q' ∈ (p :: S) ++ L,q.2 = q'.2→q.1 = q'.1:=fun q hq q' hq'=>hr q (mem_swap hq) q' (mem_swap hq')
   simp only [List.map_cons,numD]
   by_cases ha:p.1 ∈ D
   · rw [if_pos ha]
     by_cases hb:p.2 ∈ E
     · rw [if_pos hb]
       exact num_mono L (p :: S) D E (h.push p (fun _ h=>h) (fun _ h=>h) ha hb (fun _ h=>.inl h)) hr'
     · rw [if_neg hb]
       have:=num_mono L (p :: S) D (E ++ [p.2]) (h.push p (fun _ h=>h) (fun _ h=>by simp [h]) ha (by simp) (fun b h=>by simpa using h)) hr'
       simp at this;omega
   · rw [if_neg ha]
     by_cases hb:p.2 ∈ E
     · obtain ⟨a,hs⟩:=h.e _ hb
       have:a = p.1:=hr (a,p.2) (by simp [hs]) p (by simp) rfl
       exact absurd (h.a _ hs) (by rw [this];exact ha)
     · rw [if_neg hb]
       have:=num_mono L (p :: S) (D ++ [p.1]) (E ++ [p.2]) (h.push p (fun _ h=>by simp [h]) (fun _ h=>by simp [h]) (by simp) (by simp) (fun b h=>by simpa using h)) hr'
       simp at this;omega
theorem num_same:∀ (L S:List (A×B)) (D:List A) (E:List B),Seen S D E→(∀ p ∈ S ++ L,∀ q ∈ S ++ L,p.2 = q.2→p.1 = q.1)→D.length = E.length→(∀ p ∈ S,posOf p.1 D = posOf p.2 E) →
   (numD (L.map (·.1)) D).length = (numD (L.map (·.2)) E).length→∀ p ∈ S ++ L,posOf p.1 (numD (L.map (·.1)) D) = posOf p.2 (numD (L.map (·.2)) E)
 | [],S,D,E,h,_,_,hp,_=>by simpa [numD] using hp
 | p :: L,S,D,E,h,hr,hl,hp,hf=>by
   have hr':∀ q ∈ (p :: S) ++ L,∀ q' ∈ (p :: S) ++ L,q.2 = q'.2→q.1 = q'.1:=fun q hq q' hq'=>hr q (mem_swap hq) q' (mem_swap hq')
   have fin:∀ (D':List A) (E':List B),(∀ q ∈ (p :: S) ++ L,posOf q.1 D' = posOf q.2 E')→∀ q ∈ S ++ p :: L,posOf q.1 D' = posOf q.2 E':=fun D' E' h q hq=>h q (mem_swap' hq)
   simp only [List.map_cons,numD] at hf ⊢
   by_cases ha:p.1 ∈ D
   · rw [if_pos ha] at hf ⊢
     by_cases hb:p.2 ∈ E
     · rw [if_pos hb] at hf ⊢
       have hs:=h.push p (fun _ h=>h) (fun _ h=>h) ha hb (fun _ h=>.inl h)
       refine fin _ _ (num_same L (p :: S) D E hs hr' hl (fun q hq=>?_) hf)
       rcases List.mem_cons.1 hq with rfl | hq
       · obtain ⟨a,hs⟩:=h.e _ hb
         have:a = q.1:=hr (a,q.2) (by simp [hs]) q (by simp) rfl
         have:=hp _ hs
         simp_all
       · exact hp q hq
     · rw [if_neg hb] at hf
       have:=num_mono L (p :: S) D (E ++ [p.2]) (h.push p (fun _ h=>h) (fun _ h=>by simp [h]) ha (by simp) (fun b h=>by simpa using h)) hr'
       simp at this;omega
   · rw [if_neg ha] at hf ⊢
     by_cases hb:p.2 ∈ E
     · obtain ⟨a,hs⟩:=h.e _ hb
       have:a = p.1:=hr (a,p.2) (by simp [hs]) p (by simp) rfl
       exact absurd (h.a _ hs) (by rw [this];exact ha)
     · rw [if_neg hb] at hf ⊢
       have hs:=h.push p (fun _ h=>by simp [h]) (fun _ h=>by simp [h]) (D':=D ++ [p.1]) (E':=E ++ [p.2]) (by simp) (by simp) (fun b h=>by simpa using h)
       refine fin _ _ (num_same L (p :: S) _ _ hs hr' (by simp [hl]) (fun q hq=>?_) hf)
       rcases List.mem_cons.1 hq with rfl | hq
       · rw [posOf_new ha,posOf_new hb,hl]
       · rw [posOf_append _ (h.a q hq),posOf_append _ (h.b q hq)];exact hp q hq
end
end Go.Pv
