import Derived.Test.YtfaplilocljknaaGFw5
set_option linter.all false
namespace Go.Fw
variable {P:Program}
abbrev HSpec (P:Program) (gl:Gl) (f:FuncId) (args:List AV) (h:List (Nat × Chunk)) (ret:AV) (h':List (Nat × Chunk)):Prop:=FSpec P gl f args (fun k=>lookup k h) ret (fun k=>lookup k h')
def XV.ren (ρ:Nat→Nat) (X:XV):XV where
  ids:=X.ids.map ρ
  rel φ R w v:=X.rel (fun k=>φ (ρ k)) R w v
  mono hR hw hφ h:=X.mono hR hw (fun id hi=>hφ (ρ id) (by simp only [List.contains_eq_mem,decide_eq_true_eq] at hi ⊢;exact List.mem_map_of_mem hi)) h
  one h:=X.one h
def XCh.ren (ρ:Nat→Nat) (X:XCh):XCh where
  ids:=X.ids.map ρ
  fixed:=X.fixed
  nil:=X.nil
  rel φ R w b o c:=X.rel (fun k=>φ (ρ k)) R w b o c
  more:=X.more
  mono hR hw hφ hm h:=X.mono hR hw (fun id hi=>hφ (ρ id) (by simp only [List.contains_eq_mem,decide_eq_true_eq] at hi ⊢;exact List.mem_map_of_mem hi)) hm h
  apart h:=X.apart h
mutual
def AV.ren (ρ:Nat→Nat):AV→AV
  | .any=>.any
  | .bool b=>.bool b
  | .int k n=>.int k n
  | .str s=>.str s
  | .list t xs=>.list t xs
  | .agg cs=>.agg (AV.renL ρ cs)
  | .tup cs=>.tup (AV.renL ρ cs)
  | .rop cs o=>.rop (AV.renL ρ cs) o
  | .loc id o=>.loc (ρ id) o
  | .own id n=>.own (ρ id) n
  | .eloc id s i o=>.eloc (ρ id) s i o
  | .nilp=>.nilp
  | .nils=>.nils
  | .nilf=>.nilf
  | .fn f cs=>.fn f (AV.renL ρ cs)
  | .maybe g a=>.maybe g (AV.ren ρ a)
  | .ub p q=>.ub p q
  | .ex X=>.ex (X.ren ρ)
def AV.renL (ρ:Nat→Nat):List AV→List AV
  | []=>[]
  | a :: as=>AV.ren ρ a :: AV.renL ρ as
end
def Chunk.ren (ρ:Nat→Nat):Chunk→Chunk
  | .box cs=>.box (AV.renL ρ cs)
  | .arr t xs=>.arr t xs
  | .ext X=>.ext (X.ren ρ)
def renH (ρ:Nat→Nat):List (Nat × Chunk)→List (Nat × Chunk)
  | []=>[]
  | (k,c) :: r=>(ρ k,c.ren ρ) :: renH ρ r
mutual
theorem RepV.ren {ρ:Nat→Nat} {φ:Place} {R:Prot} {w:World}:∀ {a:AV} {v:Value},RepV φ R w (a.ren ρ) v ↔ RepV (fun k=>φ (ρ k)) R w a v
  | .any,_=>by simp only [AV.ren,RepV]
  | .bool _,_=>by simp only [AV.ren,RepV]
  | .int _ _,_=>by simp only [AV.ren,RepV]
  | .str _,_=>by simp only [AV.ren,RepV]
  | .list _ _,_=>by simp only [AV.ren,RepV]
  | .agg cs,_=>by simp only [AV.ren,RepV,RepVs.ren]
  | .tup cs,_=>by simp only [AV.ren,RepV,RepVs.ren]
  | .rop cs _,_=>by simp only [AV.ren,RepV,RepVs.ren]
  | .loc _ _,_=>by simp only [AV.ren,RepV]
  | .own _ _,_=>by simp only [AV.ren,RepV]
  | .eloc _ _ _ _,_=>by simp only [AV.ren,RepV]
  | .nilp,_=>by simp only [AV.ren,RepV]
  | .nils,_=>by simp only [AV.ren,RepV]
  | .nilf,_=>by simp only [AV.ren,RepV]
  | .fn _ cs,_=>by simp only [AV.ren,RepV,RepVs.ren]
  | .maybe _ a,_=>by simp only [AV.ren,RepV,RepV.ren]
  | .ub _ _,_=>by simp only [AV.ren,RepV]
  | .ex X,_=>by simp only [AV.ren,RepV,XV.ren]
theorem RepVs.ren {ρ:Nat→Nat} {φ:Place} {R:Prot} {w:World}:∀ {as:List AV} {vs:List Value},RepVs φ R w (AV.renL ρ as) vs ↔ RepVs (fun k=>φ (ρ k)) R w as vs
  | [],_=>by simp only [AV.renL,RepVs]
  | a :: as,_=>by simp only [AV.renL,RepVs,RepV.ren,RepVs.ren]
end
theorem ChunkRel.ren {ρ:Nat→Nat} {φ:Place} {R:Prot} {w:World} {k:Nat} {c:Chunk}:ChunkRel φ R w (ρ k) (c.ren ρ) ↔ ChunkRel (fun k=>φ (ρ k)) R w k c:=by
  cases c with
  | box cs=>simp only [Chunk.ren,ChunkRel,RepVs.ren]
  | arr t xs=>simp only [Chunk.ren,ChunkRel]
  | ext X=>simp only [Chunk.ren,ChunkRel,XCh.ren]
theorem lookup_renH {ρ:Nat→Nat} (hρ:∀ i j,ρ i = ρ j→i = j) (k:Nat):∀ (h:List (Nat × Chunk)),lookup (ρ k) (renH ρ h) = (lookup k h).map (Chunk.ren ρ)
  | []=>rfl
  | (j,c) :: r=>by
    simp only [renH,lookup_cons,lookup_renH hρ k r]
    by_cases e:j = k
    · subst e;simp
    · rw [if_neg e,if_neg (fun h=>e (hρ _ _ h))]
theorem renH_inv {ρ:Nat→Nat} {k:Nat} {c:Chunk}:∀ {h:List (Nat × Chunk)},lookup k (renH ρ h) = some c→∃ j,k = ρ j
  | [],h=>by simp [renH,lookup] at h
  | (j,d) :: r,h=>by
    simp only [renH,lookup_cons] at h
    split at h
    · rename_i e;exact ⟨j,e.symm⟩
    · exact renH_inv h
theorem renH_get {ρ:Nat→Nat} (hρ:∀ i j,ρ i = ρ j→i = j) {h:List (Nat × Chunk)} {k:Nat} {c:Chunk} (hk:lookup k (renH ρ h) = some c):∃ j d,k = ρ j∧lookup j h = some d∧c = d.ren ρ:=by
  obtain ⟨j,rfl⟩:=renH_inv hk
  rw [lookup_renH hρ] at hk
  obtain ⟨d,h1,h2⟩:=Option.map_eq_some_iff.1 hk
  exact ⟨j,d,rfl,h1,h2.symm⟩
theorem Chunk.at_ren {ρ:Nat→Nat} {c:Chunk} {b cap x:Nat}:(c.ren ρ).at b cap x ↔ c.at b cap x:=by
  cases c <;> exact Iff.rfl
theorem owns_ren {ρ:Nat→Nat} (hρ:∀ i j,ρ i = ρ j→i = j) {φ:Place} {h:List (Nat × Chunk)} {b:Nat}:Owns φ (fun k=>lookup k (renH ρ h)) b ↔ Owns (fun k=>φ (ρ k)) (fun k=>lookup k h) b:=by
  constructor
  · rintro ⟨k,c,b0,cap,hk,hp,hx⟩
    obtain ⟨j,d,rfl,hj,rfl⟩:=renH_get hρ hk
    exact ⟨j,d,b0,cap,hj,hp,Chunk.at_ren.1 hx⟩
  · rintro ⟨j,d,b0,cap,hj,hp,hx⟩
    exact ⟨ρ j,d.ren ρ,b0,cap,by simp only [lookup_renH hρ,hj];rfl,hp,Chunk.at_ren.2 hx⟩
theorem FSpec.ren {gl:Gl} {f:FuncId} {args:List AV} {h h':List (Nat × Chunk)} {ret:AV} (k:HSpec P gl f args h ret h') (ρ:Nat→Nat) (hρ:∀ i j,ρ i = ρ j→i = j) :
    HSpec P gl f (AV.renL ρ args) (renH ρ h) (ret.ren ρ) (renH ρ h'):=by
  refine ⟨k.1,fun φ R w vs hh hR hgl hargs=>?_⟩
  have h0:HRel (fun k=>φ (ρ k)) R w (fun k=>lookup k h):=
    ⟨fun j c hj=>ChunkRel.ren.1 (hh.rel (ρ j) _ (by simp only [lookup_renH hρ,hj];rfl)),
      fun i j c d b b' cap cap' x hi hj hp hp' hx hx'=>hρ _ _ (hh.inj (ρ i) (ρ j) (c.ren ρ) (d.ren ρ) b b' cap cap' x (by simp only [lookup_renH hρ,hi];rfl) (by simp only [lookup_renH hρ,hj];rfl) hp hp' (Chunk.at_ren.2 hx) (Chunk.at_ren.2 hx'))⟩
  have hgl0:GlOK gl (fun k=>φ (ρ k)) R w:=fun g cs hg=>by
    refine ⟨RepV.mono (fun _ _ h=>h) (fun _ _ _=>rfl) (fun j hj=>?_) (hgl g cs hg).1,(hgl g cs hg).2⟩
    simp only [AV.has] at hj
    rw [(hgl g cs hg).2 j] at hj
    simp at hj
  refine (k.2 _ R w vs h0 hR hgl0 (RepVs.ren.1 hargs)).mono ?_
  rintro e w' ⟨v,φ',R',rfl,hv,hh',hR',hevo,hkeep⟩
  let φ2:Place:=fun j=>open Classical in if hj:∃ k,ρ k = j then φ' hj.choose else φ j
  have hφ2:∀ k,φ2 (ρ k) = φ' k:=fun k=>by
    have hj:∃ k',ρ k' = ρ k:=⟨k,rfl⟩
    simp only [φ2,dif_pos hj]
    rw [hρ _ _ hj.choose_spec]
  have e2:(fun k=>φ2 (ρ k)) = φ':=funext hφ2
  refine ⟨v,φ2,R',rfl,RepV.ren.2 (by rw [e2];exact hv),⟨fun j c hj=>?_,fun i j c d b b' cap cap' x hi hj hp hp' hx hx'=>?_⟩,hR',
    ⟨hevo.os,hevo.tape,hevo.output,hevo.size,fun b hb ho=>hevo.keep b hb (fun hx=>ho ((owns_ren hρ).2 hx)),hevo.rmono,hevo.rkeep,fun b o hb=>?_,fun b hb=>?_⟩,fun j cs hj hcf=>?_⟩
  · obtain ⟨i,d,rfl,hi,rfl⟩:=renH_get hρ hj
    exact ChunkRel.ren.2 (by rw [e2];exact hh'.rel i d hi)
  · obtain ⟨i',c',rfl,hi',rfl⟩:=renH_get hρ hi
    obtain ⟨j',d',rfl,hj',rfl⟩:=renH_get hρ hj
    rw [hφ2] at hp hp'
    rw [hh'.inj i' j' c' d' b b' cap cap' x hi' hj' hp hp' (Chunk.at_ren.1 hx) (Chunk.at_ren.1 hx')]
  · rcases hevo.rnew b o hb with h|h|h
    · exact .inl h
    · exact .inr (.inl h)
    · exact .inr (.inr ((owns_ren hρ).2 h))
  · have hb2:=(owns_ren hρ).1 hb
    rw [e2] at hb2
    rcases hevo.onew b hb2 with h|h
    · exact .inl h
    · exact .inr ((owns_ren hρ).2 h)
  · obtain ⟨i,d,rfl,hi,hd⟩:=renH_get hρ hj
    subst hd
    have hfd:∀ c:Chunk,(c.ren ρ).fixed = c.fixed:=fun c=>by cases c <;> rfl
    obtain ⟨h1,c',h2,h3⟩:=hkeep i d hi (by rw [← hfd];exact hcf)
    exact ⟨by rw [hφ2,h1],c'.ren ρ,by simp only [lookup_renH hρ,h2];rfl,by rw [hfd];exact h3⟩
def renOf (is:List Nat) (k:Nat):Nat:=is.getD k (k + is.sum + 1)
theorem mem_le_sum:∀ {is:List Nat} {x:Nat},x∈is→x≤is.sum
  | [],_,h=>by simp at h
  | y :: r,x,h=>by
    simp only [List.sum_cons]
    rcases List.mem_cons.1 h with rfl|h
    · omega
    · have:=mem_le_sum h;omega
theorem renOf_inj {is:List Nat} (h:is.Nodup) (i j:Nat) (e:renOf is i = renOf is j):i = j:=by
  unfold renOf at e
  by_cases hi:i < is.length
  · by_cases hj:j < is.length
    · simp only [List.getD,List.getElem?_eq_getElem hi,List.getElem?_eq_getElem hj,Option.getD_some] at e
      exact (List.getElem_inj h).1 e
    · have:=mem_le_sum (List.getElem_mem hi)
      simp only [List.getD,List.getElem?_eq_getElem hi,List.getElem?_eq_none (Nat.le_of_not_lt hj),Option.getD_some,Option.getD_none] at e
      omega
  · by_cases hj:j < is.length
    · have:=mem_le_sum (List.getElem_mem hj)
      simp only [List.getD,List.getElem?_eq_getElem hj,List.getElem?_eq_none (Nat.le_of_not_lt hi),Option.getD_some,Option.getD_none] at e
      omega
    · simp only [List.getD,List.getElem?_eq_none (Nat.le_of_not_lt hi),List.getElem?_eq_none (Nat.le_of_not_lt hj),Option.getD_none] at e
      omega
theorem FSpec.at {gl:Gl} {f:FuncId} {args args':List AV} {h h' g g':List (Nat × Chunk)} {ret ret':AV} (k:HSpec P gl f args h ret h') (is:List Nat) (hn:is.Nodup)
    (e1:args' = AV.renL (renOf is) args) (e2:g = renH (renOf is) h) (e3:ret' = ret.ren (renOf is)) (e4:g' = renH (renOf is) h'):HSpec P gl f args' g ret' g':=by
  subst e1;subst e2;subst e3;subst e4
  exact k.ren _ (renOf_inj hn)
def mayM (M:List Nat) (v:AV):Bool:=match v with|.maybe _ _=>(match M with|[]=>false|_=>true)|v=>M.any fun id=>v.has id
def scrubM (M:List Nat) (v:AV):AV:=match mayM M v with|true=>.any|false=>v
def Chunk.scrubM (M:List Nat):Chunk→Chunk
  | .box cs=>.box (cs.map (Fw.scrubM M))
  | .arr t xs=>.arr t xs
  | .ext X=>match M.any fun id=>X.ids.contains id with
    | true=>.ext (.top X.fixed)
    | false=>.ext X
theorem mayM_has {M:List Nat} {v:AV} {id:Nat} (h:mayM M v = false) (hi:id∈M):v.has id = false:=by
  unfold mayM at h
  split at h
  · split at h
    · simp at hi
    · simp at h
  · rw [List.any_eq_false] at h
    simpa using h id hi
theorem scrubM_has {M:List Nat} {v:AV} {j:Nat} (h:(scrubM M v).has j = true):j ∉ M∧v.has j = true:=by
  unfold scrubM at h
  split at h
  · simp [AV.has] at h
  · rename_i hn
    exact ⟨fun hm=>by rw [mayM_has hn hm] at h;simp at h,h⟩
theorem scrubM_rep {φ φ':Place} {R R':Prot} {w w':World} {M:List Nat} {v:AV} {u:Value} (h:RepV φ R w v u) (hp:∀ j,j ∉ M→v.has j = true→φ' j = φ j) (hR:∀ b o,R b o→R' b o)
    (hw:∀ b o,R b o→w'.cell? ⟨b,o,none⟩ = w.cell? ⟨b,o,none⟩):RepV φ' R' w' (scrubM M v) u:=by
  unfold scrubM
  split
  · simp [RepV]
  · rename_i hn
    exact RepV.mono hR hw (fun j hj=>hp j (fun hm=>by rw [mayM_has hn hm] at hj;simp at hj) hj) h
theorem scrubM_reps {φ φ':Place} {R R':Prot} {w w':World} {M:List Nat} (hR:∀ b o,R b o→R' b o) (hw:∀ b o,R b o→w'.cell? ⟨b,o,none⟩ = w.cell? ⟨b,o,none⟩) :
    ∀ {vs:List AV} {us:List Value},(∀ j,j ∉ M→AV.hasAny j vs = true→φ' j = φ j)→RepVs φ R w vs us→RepVs φ' R' w' (vs.map (scrubM M)) us
  | [],_,_,h=>by simpa [RepVs] using h
  | v :: vs,_,hp,h=>by
    simp only [RepVs] at h
    obtain ⟨u,us,rfl,h1,h⟩:=h
    exact ⟨u,us,rfl,scrubM_rep h1 (fun j hj hv=>hp j hj (by simp [AV.hasAny,hv])) hR hw,scrubM_reps hR hw (fun j hj hv=>hp j hj (by simp [AV.hasAny,hv])) h⟩
theorem hasAny_mem {id:Nat}:∀ {vs:List AV} {x:AV},x∈vs→x.has id = true→AV.hasAny id vs = true
  | [],_,h,_=>by simp at h
  | y :: vs,x,h,h1=>by
    simp only [AV.hasAny,Bool.or_eq_true]
    rcases List.mem_cons.1 h with rfl|h
    · exact .inl h1
    · exact .inr (hasAny_mem h h1)
theorem Chunk.scrubM_has {M:List Nat} {c:Chunk} {j:Nat} (h:(c.scrubM M).has j = true):j ∉ M∧c.has j = true:=by
  cases c with
  | box cs=>
    simp only [Chunk.scrubM,Chunk.has] at h ⊢
    obtain ⟨x,hx,h1⟩:=hasAny_map _ _ _ h
    obtain ⟨h2,h3⟩:=Fw.scrubM_has h1
    exact ⟨h2,hasAny_mem hx h3⟩
  | arr t l=>simp [Chunk.scrubM,Chunk.has] at h
  | ext X=>
    simp only [Chunk.scrubM] at h
    split at h
    · simp [Chunk.has,XCh.top] at h
    · rename_i hn
      simp only [Chunk.has] at h ⊢
      rw [List.any_eq_false] at hn
      exact ⟨fun hm=>hn j hm h,h⟩
theorem Chunk.at_scrubM {M:List Nat} {c:Chunk} {b cap x:Nat} (h:(c.scrubM M).at b cap x):c.at b cap x:=by
  cases c with
  | box cs=>exact h
  | arr t l=>exact h
  | ext X=>
    simp only [Chunk.scrubM] at h
    split at h
    · rcases h with h|h
      · exact .inl h
      · exact h.elim
    · exact h
theorem Chunk.scrubM_rel {φ φ':Place} {R R':Prot} {w w':World} {M:List Nat} {j:Nat} {c:Chunk} (h:ChunkRel φ R w j c) (hj:φ' j = φ j) (hp:∀ k,k ∉ M→c.has k = true→φ' k = φ k) (hR:∀ b o,R b o→R' b o)
    (hk:∀ b o,R b o→w'.cell? ⟨b,o,none⟩ = w.cell? ⟨b,o,none⟩) (hb:∀ b cap x,φ j = some (b,cap)→c.at b cap x→x < w.heap.size→w'.heap[x]? = w.heap[x]?∧∀ o,R' x o→R x o):ChunkRel φ' R' w' j (c.scrubM M):=by
  cases c with
  | box cs=>
    obtain ⟨b,cap,vs,e,fr,q1,q2,q3,q4,q5⟩:=h
    obtain ⟨h1,h2⟩:=hb b cap b q1 rfl (Array.getElem?_eq_some_iff.1 q2).1
    exact ⟨b,cap,vs,e,fr,by rw [hj,q1],by rw [h1,q2],scrubM_reps hR hk (fun k hk hv=>hp k hk hv) q3,fun o h=>q4 o (h2 o h),q5⟩
  | arr t l=>exact ChunkRel.mono (c:=.arr t l) h hj (fun _ h=>by simp [Chunk.has] at h) hR hk hb
  | ext X=>
    simp only [Chunk.scrubM]
    split
    · rcases h with ⟨q1,_⟩|⟨b,cap,o,q1,q2,q3,q4⟩
      · exact .inl ⟨by rw [hj,q1],trivial⟩
      obtain ⟨h1,h2⟩:=hb b cap b q1 (.inl rfl) (Array.getElem?_eq_some_iff.1 q2).1
      exact .inr ⟨b,cap,o,by rw [hj,q1],by rw [h1,q2],trivial,fun o h=>q4 o (h2 o h)⟩
    · rename_i hn
      rw [List.any_eq_false] at hn
      exact ChunkRel.mono (c:=.ext X) h hj (fun k hk=>hp k (fun hm=>hn k hm (by simpa only [Chunk.has] using hk)) hk) hR hk hb
def movIds:List (Nat × Chunk)→List Nat
  | []=>[]
  | (k,c) :: r=>match c.fixed with
    | true=>movIds r
    | false=>k :: movIds r
theorem movIds_mem {k:Nat} {c:Chunk}:∀ {h:List (Nat × Chunk)},lookup k h = some c→k ∉ movIds h→c.fixed = true
  | [],h,_=>by simp [lookup] at h
  | (j,d) :: r,h,hm=>by
    rw [lookup_cons] at h
    simp only [movIds] at hm
    split at h
    · rename_i e
      simp only [Option.some.injEq] at h
      subst h
      cases hd:d.fixed with
      | true=>rfl
      | false=>rw [hd] at hm;simp [e] at hm
    · refine movIds_mem h ?_
      cases hd:d.fixed with
      | true=>rw [hd] at hm;exact hm
      | false=>rw [hd] at hm;simp only [List.mem_cons,not_or] at hm;exact hm.2
theorem movIds_ge {fix k:Nat}:∀ {h:List (Nat × Chunk)},(movIds h).all (Nat.ble fix) = true→k∈movIds h→fix≤k:=by
  intro h hall hk
  rw [List.all_eq_true] at hall
  exact Nat.le_of_ble_eq_true (hall k hk)
def restH (M:List Nat) (h:List (Nat × Chunk)):List (Nat × Chunk)→List (Nat × Chunk)
  | []=>[]
  | (j,c) :: r=>match hasKey j h with
    | true=>restH M h r
    | false=>(j,c.scrubM M) :: restH M h r
theorem hasKey_none {j:Nat}:∀ {h:List (Nat × Chunk)},hasKey j h = false→lookup j h = none
  | [],_=>rfl
  | (k,c) :: r,h=>by
    simp only [hasKey,Bool.or_eq_false_iff] at h
    rw [lookup_cons,if_neg (fun e=>by rw [e,Nat.beq_refl] at h;simp at h)]
    exact hasKey_none h.2
theorem lookup_restH (M:List Nat) (h:List (Nat × Chunk)) (k:Nat):∀ (l:List (Nat × Chunk)),lookup k (restH M h l) = match hasKey k h with|true=>none|false=>(lookup k l).map (Chunk.scrubM M)
  | []=>by cases hasKey k h <;> simp [restH,lookup]
  | (j,c) :: r=>by
    have ih:=lookup_restH M h k r
    simp only [restH]
    by_cases e:j = k
    · subst e
      cases hk:hasKey j h with
      | true=>simp only [hk] at ih ⊢;exact ih
      | false=>simp [lookup_cons]
    · cases hj:hasKey j h with
      | true=>
        simp only
        rw [ih,lookup_cons,if_neg e]
      | false=>
        simp only [lookup_cons,if_neg e]
        exact ih
theorem lookup_append (k:Nat):∀ (a b:List (Nat × Chunk)),lookup k (a ++ b) = match lookup k a with|some c=>some c|none=>lookup k b
  | [],b=>rfl
  | (j,c) :: r,b=>by
    simp only [List.cons_append,lookup_cons]
    by_cases e:j = k
    · simp [e]
    · simp only [if_neg e];exact lookup_append k r b
def St.called (st:St) (dst:Option Nat) (ret:AV) (h h':List (Nat × Chunk)) (next':Nat):St:=
  { n:=st.n,fix:=st.fix,next:=next',env:=(match dst with|some d=>(d,ret) :: st.env.map (fun p=>(p.1,scrubM (movIds h) p.2))|none=>st.env.map (fun p=>(p.1,scrubM (movIds h) p.2))),
    heap:=h' ++ restH (movIds h) h st.heap,gl:=st.gl }
def newKeys (next:Nat) (h:List (Nat × Chunk)):List (Nat × Chunk)→Bool
  | []=>true
  | (k,_) :: r=>(hasKey k h || Nat.ble next k) && newKeys next h r
theorem newKeys_get {next k:Nat} {h:List (Nat × Chunk)} {c:Chunk}:∀ {l:List (Nat × Chunk)},newKeys next h l = true→lookup k l = some c→hasKey k h = true∨next≤k
  | [],_,hl=>by simp [lookup] at hl
  | (j,d) :: r,hn,hl=>by
    simp only [newKeys,Bool.and_eq_true,Bool.or_eq_true] at hn
    rw [lookup_cons] at hl
    split at hl
    · rename_i e
      subst e
      exact hn.1.imp (fun h=>h) Nat.le_of_ble_eq_true
    · exact newKeys_get hn.2 hl
def callChk (fix next next':Nat) (h h':List (Nat × Chunk)) (ret:AV):Bool:=
  (movIds h).all (Nat.ble fix) && newKeys next h h' && idsIn h' ret.ids && heapClosed h' next' h' && Nat.ble next next'
theorem called_sat {R:Prot} {φ:Place} {st:St} {a:Act} {w:World} (hs:Sat R φ st a w) {h h':List (Nat × Chunk)} {ret:AV} {next':Nat} (hle:heapLe h st) (hchk:callChk st.fix st.next next' h h' ret = true)
    {φ1:Place} {R1:Prot} {w1:World} {v:Value} (hv:RepV φ1 R1 w1 ret v) (hh':HRel φ1 R1 w1 (fun k=>lookup k h')) (hrb:RB R1 w1)
    (hevo:Evo R (Owns φ (fun k=>lookup k h)) w R1 (Owns φ1 (fun k=>lookup k h')) w1) (hkeep:∀ id c,lookup id h = some c→c.fixed = true→φ1 id = φ id∧∃ c',lookup id h' = some c'∧c'.fixed = true)
    {dst:Option Nat} (hd:∀ d,dst = some d→d < st.n):∃ φ2,Sat R1 φ2 (st.called dst ret h h' next') (a.put dst v) w1∧Ext st R φ w (st.called dst ret h h' next') R1 φ2 w1:=by
  unfold callChk at hchk
  simp only [Bool.and_eq_true] at hchk
  obtain ⟨⟨⟨⟨hfix,hnew⟩,hret⟩,hcl⟩,hnx⟩:=hchk
  have hnx:=Nat.le_of_ble_eq_true hnx
  have hlk:∀ j c,lookup j h = some c→st.lk j = some c:=fun j c hj=>heapLe_get hle hj
  let φ2:Place:=fun j=>match hasKey j h || hasKey j h' with|true=>φ1 j|false=>φ j
  have p1:∀ j c,lookup j h' = some c→φ2 j = φ1 j:=fun j c hj=>by
    have:hasKey j h' = true:=by
      cases hk:hasKey j h' with
      | true=>rfl
      | false=>rw [hasKey_none hk] at hj;simp at hj
    simp only [φ2,this,Bool.or_true]
  have hnk:∀ j c,lookup j h' = some c→hasKey j h = false→st.next≤j:=fun j c hj hk=>by
    rcases newKeys_get hnew hj with h|h
    · rw [hk] at h;simp at h
    · exact h
  have p2:∀ j c,st.lk j = some c→j ∉ movIds h→φ2 j = φ j:=fun j c hj hm=>by
    simp only [φ2]
    cases hk:hasKey j h with
    | true=>
      obtain ⟨c',hc'⟩:=hasKey_lk hk
      simp only [Bool.true_or]
      exact (hkeep j c' hc' (movIds_mem hc' hm)).1
    | false=>
      cases hk':hasKey j h' with
      | true=>
        obtain ⟨c',hc'⟩:=hasKey_lk hk'
        have:=hnk j c' hc' hk
        have:=hs.s.hnext j c hj
        omega
      | false=>simp
  have hget:∀ t,(st.called dst ret h h' next').get t = if dst = some t then ret else scrubM (movIds h) (st.get t):=fun t=>by
    have e0:scrubM (movIds h) .any = .any:=by unfold scrubM;split <;> rfl
    cases dst with
    | none=>
      simp only [St.called,St.get,lookup_map]
      cases lookup t st.env <;> simp [e0]
    | some d=>
      simp only [St.called,St.get,lookup_cons,lookup_map,Option.some.injEq]
      by_cases e:d = t
      · simp [e]
      · simp only [if_neg e]
        cases lookup t st.env <;> simp [e0]
  have hinv:∀ j c,(st.called dst ret h h' next').lk j = some c→lookup j h' = some c∨(lookup j h' = none∧hasKey j h = false∧∃ c',st.lk j = some c'∧c = c'.scrubM (movIds h)):=fun j c hj=>by
    simp only [St.called,St.lk,lookup_append] at hj
    split at hj
    · rename_i d hd'
      simp only [Option.some.injEq] at hj
      subst hj
      exact .inl hd'
    · rename_i hn
      rw [lookup_restH] at hj
      split at hj
      · simp at hj
      · rename_i hk
        obtain ⟨c',h1,h2⟩:=Option.map_eq_some_iff.1 hj
        exact .inr ⟨hn,hk,c',h1,h2.symm⟩
  have hsome1:∀ j,(∃ c,lookup j h' = some c)→∃ c,(st.called dst ret h h' next').lk j = some c:=fun j ⟨c,hc⟩=>⟨c,by simp only [St.called,St.lk,lookup_append,hc]⟩
  have hsome2:∀ j,j ∉ movIds h→(∃ c,st.lk j = some c)→∃ c,(st.called dst ret h h' next').lk j = some c:=fun j hm ⟨c,hc⟩=>by
    cases hk:hasKey j h with
    | true=>
      obtain ⟨c',hc'⟩:=hasKey_lk hk
      obtain ⟨_,c2,h2,_⟩:=hkeep j c' hc' (movIds_mem hc' hm)
      exact hsome1 j ⟨_,h2⟩
    | false=>
      cases hl:lookup j h' with
      | some c'=>exact hsome1 j ⟨c',hl⟩
      | none=>exact ⟨c.scrubM (movIds h),by simp only [St.called,St.lk,lookup_append,hl,lookup_restH,hk];rw [show lookup j st.heap = some c from hc];rfl⟩
  have hown:∀ b,Owns φ (fun k=>lookup k h) b→Owns φ st.lk b:=fun b ⟨j,c,b0,cap,hj,hp,hx⟩=>⟨j,c,b0,cap,hlk j c hj,hp,hx⟩
  have hnot:∀ j c b cap x,st.lk j = some c→hasKey j h = false→φ j = some (b,cap)→c.at b cap x→¬ Owns φ (fun k=>lookup k h) x:=by
    rintro j c b cap x hj hk hp hx ⟨k,d,b',cap',hk',hp',hx'⟩
    have:=hs.s.heap.inj j k c d b b' cap cap' x hj (hlk k d hk') hp hp' hx hx'
    subst this
    have hk':lookup j h = some d:=hk'
    rw [hasKey_none hk] at hk'
    simp at hk'
  have hoth:∀ j c,lookup j h' = none→hasKey j h = false→st.lk j = some c→φ2 j = φ j:=fun j c h1 h2 _=>by
    have:hasKey j h' = false:=by
      cases hk:hasKey j h' with
      | false=>rfl
      | true=>obtain ⟨c,hc⟩:=hasKey_lk hk;rw [h1] at hc;simp at hc
    simp only [φ2,h2,this,Bool.or_false]
  refine ⟨φ2,⟨⟨fun t=>?_,fun t j hj=>?_,fun j c k hj hk=>?_,fun j c hj=>?_,?_,⟨fun j c hj=>?_,fun j k c d b b' cap cap' x hj hk hp hp' hx hx'=>?_⟩,hrb,?_,fun g cs hg=>?_⟩,Nat.le_trans hs.fx hnx⟩,
    ⟨⟨hevo.os,hevo.tape,hevo.output,hevo.size,fun b hb ho=>hevo.keep b hb (fun hx=>ho (hown b hx)),hevo.rmono,hevo.rkeep,fun b o hb=>?_,fun b hb=>?_⟩,fun j hj=>?_,rfl,rfl⟩⟩
  · rw [hget,getD_put a dst v t (fun d hd'=>by rw [hs.s.sz];exact hd d hd')]
    split
    · exact RepV.mono (fun _ _ h=>h) (fun _ _ _=>rfl) (fun j hj=>by obtain ⟨c,hc⟩:=idsIn_mem hret (AV.has_ids hj);exact p1 j c hc) hv
    · exact scrubM_rep (hs.s.env t) (fun j hm hj=>by obtain ⟨c,hc⟩:=hs.s.named t j hj;exact p2 j c hc hm) hevo.rmono hevo.rkeep
  · rw [hget] at hj
    split at hj
    · exact hsome1 j (idsIn_mem hret (AV.has_ids hj))
    · obtain ⟨hm,hj⟩:=scrubM_has hj
      exact hsome2 j hm (hs.s.named t j hj)
  · rcases hinv j c hj with hj|⟨_,_,c',h1,rfl⟩
    · exact hsome1 k ((heapClosed_mem hcl hj).2 k hk)
    · obtain ⟨hm,hk⟩:=Chunk.scrubM_has hk
      exact hsome2 k hm (hs.s.hnamed j c' k h1 hk)
  · show j < next'
    rcases hinv j c hj with hj|⟨_,_,c',h1,_⟩
    · exact (heapClosed_mem hcl hj).1
    · have:=hs.s.hnext j c' h1;omega
  · have:=hs.s.sz
    cases dst <;> simp [Act.put,St.called,this]
  · rcases hinv j c hj with hj|⟨hn,hk,c',h1,rfl⟩
    · exact (hh'.rel j c hj).mono (p1 j c hj) (fun k hk=>by obtain ⟨d,hd'⟩:=(heapClosed_mem hcl hj).2 k hk;exact p1 k d hd') (fun _ _ h=>h) (fun _ _ _=>rfl) (fun _ _ _ _ _ _=>⟨rfl,fun _ h=>h⟩)
    · exact Chunk.scrubM_rel (hs.s.heap.rel j c' h1) (hoth j c' hn hk h1) (fun k hm hk'=>by obtain ⟨d,hd'⟩:=hs.s.hnamed j c' k h1 hk';exact p2 k d hd' hm) hevo.rmono hevo.rkeep (fun b cap x hp hx hlt=>⟨hevo.keep x hlt (hnot j c' b cap x h1 hk hp hx),fun o hr=>by
        rcases hevo.rnew x o hr with h|h|h
        · exact h
        · omega
        · exact absurd h (hnot j c' b cap x h1 hk hp hx)⟩)
  · have cross:∀ i c j d b b' cap cap' x,lookup i h' = some c→(lookup j h' = none∧hasKey j h = false∧st.lk j = some d)→φ2 i = some (b,cap)→φ2 j = some (b',cap')→c.at b cap x→d.at b' cap' x→False:=by
      intro i c j d b b' cap cap' x hi ⟨hn,hk,hj⟩ hp hp' hx hx'
      rw [p1 i c hi] at hp
      rw [hoth j d hn hk hj] at hp'
      rcases hevo.onew x ⟨i,c,b,cap,hi,hp,hx⟩ with h|h
      · have:=((hs.s.heap.rel j d hj).blocks hp' hx').1;omega
      · exact hnot j d b' cap' x hj hk hp' hx' h
    rcases hinv j c hj with hj1|⟨hn,hk1,c',h1,rfl⟩
    · rcases hinv k d hk with hk2|⟨hn2,hk3,d',h2,rfl⟩
      · rw [p1 j c hj1] at hp
        rw [p1 k d hk2] at hp'
        exact hh'.inj j k c d b b' cap cap' x hj1 hk2 hp hp' hx hx'
      · exact (cross j c k d' b b' cap cap' x hj1 ⟨hn2,hk3,h2⟩ hp hp' hx (Chunk.at_scrubM hx')).elim
    · rcases hinv k d hk with hk2|⟨hn2,hk3,d',h2,rfl⟩
      · exact (cross k d j c' b' b cap' cap x hk2 ⟨hn,hk1,h1⟩ hp' hp hx' (Chunk.at_scrubM hx)).elim
      · rw [hoth j c' hn hk1 h1] at hp
        rw [hoth k d' hn2 hk3 h2] at hp'
        exact hs.s.heap.inj j k c' d' b b' cap cap' x h1 h2 hp hp' (Chunk.at_scrubM hx) (Chunk.at_scrubM hx')
  · have:=hs.s.defers
    cases dst <;> simpa [Act.put] using this
  · have:=hs.s.gl g cs hg
    refine ⟨RepV.mono hevo.rmono hevo.rkeep (fun j hj=>?_) this.1,this.2⟩
    simp only [AV.has] at hj
    rw [this.2 j] at hj
    simp at hj
  · rcases hevo.rnew b o hb with h|h|h
    · exact .inl h
    · exact .inr (.inl h)
    · exact .inr (.inr (hown b h))
  · obtain ⟨j,c,b0,cap,hj,hp,hx⟩:=hb
    rcases hinv j c hj with hj|⟨hn,hk,c',h1,rfl⟩
    · rw [p1 j c hj] at hp
      rcases hevo.onew b ⟨j,c,b0,cap,hj,hp,hx⟩ with h|h
      · exact .inl h
      · exact .inr (hown b h)
    · rw [hoth j c' hn hk h1] at hp
      exact .inr ⟨j,c',b0,cap,h1,hp,Chunk.at_scrubM hx⟩
  · simp only [φ2]
    cases hk:hasKey j h with
    | true=>
      obtain ⟨c',hc'⟩:=hasKey_lk hk
      have hm:j ∉ movIds h:=fun hm=>by have:=movIds_ge hfix hm;omega
      simp only [Bool.true_or]
      exact (hkeep j c' hc' (movIds_mem hc' hm)).1
    | false=>
      cases hk':hasKey j h' with
      | true=>
        obtain ⟨c',hc'⟩:=hasKey_lk hk'
        have:=hnk j c' hc' hk
        have:=hs.fx
        omega
      | false=>simp
def normSM (M:List Nat):List AV→(List AV→Prop)→Prop
  | [],K=>K []
  | v :: r,K=>match mayM M v with
    | true=>normSM M r fun r=>K (.any :: r)
    | false=>normSM M r fun r=>K (v :: r)
theorem normSM_eq (M:List Nat):∀ (l:List AV) (K:List AV→Prop),normSM M l K = K (l.map (scrubM M))
  | [],K=>rfl
  | v :: r,K=>by
    simp only [normSM]
    cases h:mayM M v <;> simp only [normSM_eq M r,List.map_cons,scrubM,h]
def normEM (M:List Nat):List (Nat × AV)→(List (Nat × AV)→Prop)→Prop
  | [],K=>K []
  | (t,v) :: r,K=>match mayM M v with
    | true=>normEM M r K
    | false=>normEM M r fun r=>K ((t,v) :: r)
def normXH (M:List Nat) (h:List (Nat × Chunk)):List (Nat × Chunk)→(List (Nat × Chunk)→Prop)→Prop
  | [],K=>K []
  | (j,c) :: r,K=>match hasKey j h with
    | true=>normXH M h r K
    | false=>match c with
      | .box cs=>normSM M cs fun cs=>normXH M h r fun r=>K ((j,.box cs) :: r)
      | .arr t xs=>normXH M h r fun r=>K ((j,.arr t xs) :: r)
      | .ext X=>match M.any fun id=>X.ids.contains id with
        | true=>normXH M h r fun r=>K ((j,.ext (.top X.fixed)) :: r)
        | false=>normXH M h r fun r=>K ((j,.ext X) :: r)
theorem normXH_eq (M:List Nat) (h:List (Nat × Chunk)):∀ (l:List (Nat × Chunk)) (K:List (Nat × Chunk)→Prop),normXH M h l K = K (restH M h l)
  | [],K=>rfl
  | (j,c) :: r,K=>by
    simp only [normXH,restH]
    cases hasKey j h with
    | true=>simp only [normXH_eq M h r]
    | false=>
      cases c with
      | box cs=>simp only [normSM_eq,normXH_eq M h r,Chunk.scrubM]
      | arr t xs=>simp only [normXH_eq M h r,Chunk.scrubM]
      | ext X=>
        simp only [Chunk.scrubM]
        cases M.any fun id=>X.ids.contains id <;> simp only [normXH_eq M h r]
def normEM2 (M:List Nat):List (Nat × AV)→(List (Nat × AV)→Prop)→Prop
  | [],K=>K []
  | (t,v) :: r,K=>match mayM M v with
    | true=>normEM2 M r fun r=>K ((t,.any) :: r)
    | false=>normEM2 M r fun r=>K ((t,v) :: r)
theorem normEM2_eq (M:List Nat):∀ (l:List (Nat × AV)) (K:List (Nat × AV)→Prop),normEM2 M l K = K (l.map fun p=>(p.1,scrubM M p.2))
  | [],K=>rfl
  | (t,v) :: r,K=>by
    simp only [normEM2]
    cases h:mayM M v <;> simp only [normEM2_eq M r,List.map_cons,scrubM,h]
def normA2:List (Nat × Chunk)→List (Nat × Chunk)→(List (Nat × Chunk)→Prop)→Prop
  | [],b,K=>K b
  | (j,c) :: r,b,K=>normC c fun c=>normA2 r b fun b=>K ((j,c) :: b)
theorem normA2_eq:∀ (a b:List (Nat × Chunk)) (K:List (Nat × Chunk)→Prop),normA2 a b K = K (a ++ b)
  | [],b,K=>rfl
  | (j,c) :: r,b,K=>by simp only [normA2,normC_eq,normA2_eq r,List.cons_append]
def calledN (n fix:Nat) (env:List (Nat × AV)) (heap:List (Nat × Chunk)) (gl:Gl) (dst:Option Nat) (ret:AV) (h h':List (Nat × Chunk)) (next':Nat) (K:St→Prop):Prop:=
  normV ret fun ret=>normEM2 (movIds h) env fun env=>normXH (movIds h) h heap fun heap=>normA2 h' heap fun heap=>
    match dst with
    | some d=>K ⟨n,fix,next',(d,ret) :: env,heap,gl⟩
    | none=>K ⟨n,fix,next',env,heap,gl⟩
theorem calledN_eq (n fix next:Nat) (env:List (Nat × AV)) (heap:List (Nat × Chunk)) (gl:Gl) (dst:Option Nat) (ret:AV) (h h':List (Nat × Chunk)) (next':Nat) (K:St→Prop) :
    calledN n fix env heap gl dst ret h h' next' K = K (St.called ⟨n,fix,next,env,heap,gl⟩ dst ret h h' next'):=by
  cases dst <;> simp only [calledN,normV_eq,normEM2_eq,normXH_eq,normA2_eq,St.called]
theorem OpTri.callH {ops:Array Oper} {o:Oper} {n fix next:Nat} {env:List (Nat × AV)} {heap:List (Nat × Chunk)} {gl:Gl} {K:St→Prop} {f:Operand} {args:Array Operand} {ats:Array TypeId} {g:FuncId} {caps:List AV}
    {h h':List (Nat × Chunk)} {ret:AV} (next':Nat) (ho:o.op = .call ⟨.value f,args,ats⟩) (hg:o.guard = none) (hf:(St.ev ⟨n,fix,next,env,heap,gl⟩ f).un = .fn g caps)
    (hs:HSpec P gl g (args.toList.map (fun x=>(St.ev ⟨n,fix,next,env,heap,gl⟩ x).un) ++ caps) h ret h') (hok:needsAll ((Op.call ⟨.value f,args,ats⟩).operands.toList.map (St.ev ⟨n,fix,next,env,heap,gl⟩)) True)
    (hle:heapLe h ⟨n,fix,next,env,heap,gl⟩) (hchk:callChk fix next next' h h' ret = true) (hK:calledN n fix env heap gl o.dst ret h h' next' K):OpTri P ops o ⟨n,fix,next,env,heap,gl⟩ K:=by
  intro hd R φ a w hsat next0 Q hnext
  generalize hst:(⟨n,fix,next,env,heap,gl⟩:St) = st at *
  have hw:Region.wanted o (yielded ops a.tmps) = true:=by simp [Region.wanted,hg]
  rw [if_pos hw]
  left
  rw [calledN_eq n fix next env heap gl,hst] at hK
  obtain ⟨hok,_⟩:=needsAll_iff hok
  have hok:∀ x∈(Op.call ⟨.value f,args,ats⟩).operands,okP (st.ev x):=fun x hx=>hok _ (List.mem_map.2 ⟨x,by simpa using hx,rfl⟩)
  obtain ⟨⟨fn,hfn,hname,hbody⟩,hspec⟩:=hs
  have hgl:st.gl = gl:=by rw [← hst]
  have hfx:st.fix = fix:=by rw [← hst]
  have hnx:st.next = next:=by rw [← hst]
  have hfr:=(hsat.s.ev f).un (hok f (by simp [Op.operands,Call.operands]))
  have hf':(evF st.get st.gl f).un = .fn g caps:=hf
  rw [hf'] at hfr
  simp only [RepV] at hfr
  obtain ⟨cv,hfv,hcaps⟩:=hfr
  have hargs:RepVs φ R w ((args.toList.map fun x=>(st.ev x).un) ++ caps) ((args.map a.eval).toList ++ cv.toList):=by
    refine RepVs.append ?_ hcaps
    rw [Array.toList_map]
    exact repVs_map _ _ _ (fun x hx=>(hsat.s.ev x).un (hok x (by simp [Op.operands,Call.operands];exact .inr (by simpa using hx))))
  have hlk:∀ j c,lookup j h = some c→st.lk j = some c:=fun j c hj=>heapLe_get hle hj
  have hcall:=hspec φ R w _ ⟨fun k c hk=>hsat.s.heap.rel k c (hlk k c hk),fun k k' c c' b b' cap cap' x hk hk'=>hsat.s.heap.inj k k' c c' b b' cap cap' x (hlk k c hk) (hlk k' c' hk')⟩ hsat.s.rlt (by rw [← hgl];exact hsat.s.gl) hargs
  have hrun:(execOp a.eval o).run P w = .ok (.enter g ((args.map a.eval).toList ++ cv.toList).toArray) w:=by
    simp only [execOp,ho,resolve,hfv,Deferred.ofValue,invoke,callFunc,Sem.run_bind,Sem.run_pure,Result.andThen_ok,run_program,hfn,hname,hbody,Bool.false_eq_true,if_false]
    congr 2
    apply Array.ext'
    simp
  unfold Oper.wp
  rw [hrun,Oper.upon_enter]
  refine hcall.mono ?_
  rintro e w' ⟨v,φ1,R1,rfl,hv,hh',hrb,hevo,hkeep⟩
  obtain ⟨φ2,h1,h2⟩:=called_sat hsat hle (by rw [hfx,hnx];exact hchk) hv hh' hrb hevo hkeep (dst:=o.dst) (fun d hd'=>by simp only [dstB,hd',decide_eq_true_eq] at hd;exact hd)
  exact hnext R1 φ2 _ _ _ hK h1 h2
theorem OpTri.hcall {ops:Array Oper} {o:Oper} {n fix next:Nat} {env:List (Nat × AV)} {heap:List (Nat × Chunk)} {gl:Gl} {K:St→Prop} {f:Operand} {args:Array Operand} {ats:Array TypeId} {g:FuncId} {caps:List AV}
    {h h':List (Nat × Chunk)} {ret:AV} (add:Nat) (ho:o.op = .call ⟨.value f,args,ats⟩) (hg:o.guard = none) (hf:(St.ev ⟨n,fix,next,env,heap,gl⟩ f).un = .fn g caps)
    (hs:HSpec P gl g (args.toList.map (fun x=>(St.ev ⟨n,fix,next,env,heap,gl⟩ x).un) ++ caps) h ret h') (hok:needsAll ((Op.call ⟨.value f,args,ats⟩).operands.toList.map (St.ev ⟨n,fix,next,env,heap,gl⟩)) True)
    (hle:heapLe h ⟨n,fix,next,env,heap,gl⟩) (hchk:callChk fix next (next + add) h h' ret = true) (hK:calledN n fix env heap gl o.dst ret h h' (next + add) K):OpTri P ops o ⟨n,fix,next,env,heap,gl⟩ K:=
  OpTri.callH (next + add) ho hg hf hs hok hle hchk hK
end Go.Fw
