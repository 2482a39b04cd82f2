/-
 What is known of a value without a thing, or where rows' headers may have turned.
-/
import Derived.Test.YteiekijgoifhoaaGreatDoorB9
namespace Go.Proofs.YteiekijgoifhoaaGreatDoor
open Go.RowKit (Below)
theorem beq_ne{p o:Nat}(h:p≠o):Nat.beq p o=false:=by
 cases hb:Nat.beq p o with
 |true=>exact absurd (xe hb) h
 |false=>rfl
theorem beq_self(o:Nat):Nat.beq o o=true:=xea o
section
variable {P:Program} {w:World} {lo:Nat→Prop} {μ:Nat→Option MV} {S:Nat→Prop} {X:Nat→Prop}
theorem frzL_relH[Tabs]{μ':Nat→Option MV}{o:Nat}{d:AV}{S S':Nat→Prop}(hμ:∀p mv,p≠o→μ p=some mv→∃rs hs,μ' p=some ⟨mv.v,rs,hs⟩∧Ext mv.hs hs)(hd:∀mv,μ o=some mv→RelV P w lo μ' S' d mv.v)(hS:∀b,b<w.heap.size→S b→S' b){v:AV}{x:Value}
  (h:RelV P w lo μ S v x):RelV P w lo μ' S' (frzL o d v) x:=by
 cases h with
 | @arr _ p _ _ _ _ _ h=>
  simp only [frzL]
  by_cases e:p=o
  ·subst e;rw [beq_self];exact hd _ h
  ·rw [beq_ne e];obtain⟨rs,hs,h',_⟩:=hμ _ _ e h;exact .arr h'
 | @box _ p _ _ _ _ h=>
  simp only [frzL]
  by_cases e:p=o
  ·subst e;rw [beq_self];exact .undef
  ·rw [beq_ne e];obtain⟨rs,hs,h',_⟩:=hμ _ _ e h;exact .box h'
 | @elt _ p _ _ _ _ _ _ _ h=>
  simp only [frzL]
  by_cases e:p=o
  ·subst e;rw [beq_self];exact .undef
  ·rw [beq_ne e];obtain⟨rs,hs,h',_⟩:=hμ _ _ e h;exact .elt h'
 | @fld _ p _ _ _ _ _ _ _ _ h=>
  simp only [frzL]
  by_cases e:p=o
  ·subst e;rw [beq_self];exact .undef
  ·rw [beq_ne e];obtain⟨rs,hs,h',_⟩:=hμ _ _ e h;exact .fld h'
 | @row _ p _ _ _ _ _ _ _ h hx=>
  simp only [frzL]
  by_cases e:p=o
  ·subst e;rw [beq_self];exact .undef
  ·rw [beq_ne e];obtain⟨rs,hs,h',he⟩:=hμ _ _ e h;exact .row h' (he _ _ hx)
 | @relt _ p _ _ _ _ _ _ _ _ _ h hx=>
  simp only [frzL]
  by_cases e:p=o
  ·subst e;rw [beq_self];exact .undef
  ·rw [beq_ne e];obtain⟨rs,hs,h',he⟩:=hμ _ _ e h;exact .relt h' (he _ _ hx)
 | @suf _ p _ _ _ _ _ _ _ _ _ _ h hi ha=>
  simp only [frzL]
  by_cases e:p=o
  ·subst e;rw [beq_self];exact .undef
  ·rw [beq_ne e];obtain⟨rs,hs,h',_⟩:=hμ _ _ e h;exact .suf h' hi ha
 | @pre _ p _ _ _ _ _ _ h hi=>
  simp only [frzL]
  by_cases e:p=o
  ·subst e;rw [beq_self];exact .undef
  ·rw [beq_ne e];obtain⟨rs,hs,h',_⟩:=hμ _ _ e h;exact .pre h' hi
 |dat ht h=>exact .dat ht (h.step fun b hb hs=>⟨hS b hb hs,rfl⟩)
 |nilsl=>exact .nilsl
 |clo h=>exact .clo h
 | @fn _ f caps xs hl h=>
  cases caps with
  |nil=>exact .fn hl fun j v hv=>by simp [nth] at hv
  |cons c caps=>exact .undef
 |_=>exact .undef
theorem frzC_relH[Tabs]{μ':Nat→Option MV}{o:Nat}{d:AV}{S S':Nat→Prop}(hμ:∀p mv,p≠o→μ p=some mv→∃rs hs,μ' p=some ⟨mv.v,rs,hs⟩∧Ext mv.hs hs)(hd:∀mv,μ o=some mv→RelV P w lo μ' S' d mv.v)(hS:∀b,b<w.heap.size→S b→S' b){v:AV}{x:Value}
  (h:RelV P w lo μ S v x):RelV P w lo μ' S' (frzC o d v) x:=by
 have h0:=h
 cases h with
 | @ptr _ cs b k xs aa hb hx h=>
  have ab:b<w.heap.size:=by
   cases cs with
   |nil=>exact absurd rfl aa
   |cons c cs=>exact block_lt_of_cell (hx 0 c rfl)
  refine .ptr xs (by simpa using aa) (hb.imp (hS b ab) id) (fun j u hu=>?_) fun j u hu=>?_
  ·rw [nth_eq,xr] at hu
   cases hj:cs[j]? with
   |none=>rw [hj] at hu;cases hu
   |some v=>exact hx j v (by rw [nth_eq];exact hj)
  ·rw [nth_eq,xr] at hu
   cases hj:cs[j]? with
   |none=>rw [hj] at hu;cases hu
   |some v=>
    rw [hj] at hu
    simp at hu
    subst hu
    exact frzL_relH hμ hd hS (h j v (by rw [nth_eq];exact hj))
 |_=>exact frzL_relH hμ hd hS h0
theorem frz1_relH[Tabs]{μ':Nat→Option MV}{o:Nat}{d:AV}{S S':Nat→Prop}(hlo:(∀b,lo b→b<w.heap.size))(hμ:∀p mv,p≠o→μ p=some mv→∃rs hs,μ' p=some ⟨mv.v,rs,hs⟩∧Ext mv.hs hs)(hd:∀mv,μ o=some mv→RelV P w lo μ' S' d mv.v)(hS:∀b,b<w.heap.size→S b→S' b){v:AV}{x:Value}
  (h:RelV P w lo μ S v x):RelV P w lo μ' S' (frz1 o d v) x:=by
 have h0:=h
 cases h with
 | @agg _ vs xs hl h=>
  refine .agg (by simpa using hl) fun j u hu=>?_
  rw [nth_eq,xr] at hu
  cases hj:vs[j]? with
  |none=>rw [hj] at hu;cases hu
  |some v=>
   rw [hj] at hu
   simp only [xy,xc] at hu
   subst hu
   exact frzL_relH hμ hd hS (h j v (by rw [nth_eq];exact hj))
 | @fn _ f caps xs hl h=>
  refine .fn (by simpa using hl) fun j u hu=>?_
  rw [nth_eq,xr] at hu
  cases hj:caps[j]? with
  |none=>rw [hj] at hu;cases hu
  |some v=>
   rw [hj] at hu
   simp only [xy,xc] at hu
   subst hu
   exact frzC_relH hμ (fun mv hm=>(hd mv hm).step (fun _ _ h=>h) hlo (fun b _ hs=>⟨.inl hs,rfl⟩) fun _ _=>rfl) (fun b hb hs=>hs.imp (hS b hb) id) (h j v (by rw [nth_eq];exact hj))
 | @bnd _ f fs xs hl h=>
  refine .bnd (by simpa using hl) fun j u hu=>?_
  rw [nth_eq,xr] at hu
  cases hj:fs[j]? with
  |none=>rw [hj] at hu;cases hu
  |some v=>
   rw [hj] at hu
   simp only [xy,xc] at hu
   subst hu
   exact pur1_rel (fun b hb hs=>hS b hb hs) (h j v (by rw [nth_eq];exact hj))
 |_=>exact frzC_relH hμ hd hS h0
theorem frz2_relH[Tabs]{μ':Nat→Option MV}{o:Nat}{d:AV}{S S':Nat→Prop}(hlo:(∀b,lo b→b<w.heap.size))(hμ:∀p mv,p≠o→μ p=some mv→∃rs hs,μ' p=some ⟨mv.v,rs,hs⟩∧Ext mv.hs hs)(hd:∀mv,μ o=some mv→RelV P w lo μ' S' d mv.v)(hS:∀b,b<w.heap.size→S b→S' b){v:AV}{x:Value}
  (h:RelV P w lo μ S v x):RelV P w lo μ' S' (frz2 o d v) x:=by
 have h0:=h
 cases h with
 | @tup _ vs xs hl h=>
  refine .tup (by simpa using hl) fun j u hu=>?_
  rw [nth_eq,xr] at hu
  cases hj:vs[j]? with
  |none=>rw [hj] at hu;cases hu
  |some v=>
   rw [hj] at hu
   simp only [xy,xc] at hu
   subst hu
   exact frz1_relH hlo hμ hd hS (h j v (by rw [nth_eq];exact hj))
 |_=>exact frz1_relH hlo hμ hd hS h0
theorem frzOb_relH[Tabs]{μ':Nat→Option MV}{o:Nat}{d:AV}{S S':Nat→Prop}(hlo:(∀b,lo b→b<w.heap.size))(hμ:∀p mv,p≠o→μ p=some mv→∃rs hs,μ' p=some ⟨mv.v,rs,hs⟩∧Ext mv.hs hs)(hd:∀mv,μ o=some mv→RelV P w lo μ' S' d mv.v)(hS:∀b,b<w.heap.size→S b→S' b){x:Ob}{mv:MV}
  (h:ObOK P w lo μ S x mv):ObOK P w lo μ' S' (frzOb o d x) mv:=by
 cases x with
 |arr e t l=>
  obtain⟨⟨ae,af⟩,ah,xs,h1,h2⟩:=h
  exact⟨⟨ae,af⟩,ah,xs,h1,h2.step fun b hb hs=>⟨hS b hb hs,rfl⟩⟩
 |txt e l=>exact h
 |rows e e2 t l hh=>
  obtain⟨hr,hk⟩:=h
  have ab:∀j,inRow (unl o hh) j→inRow hh j:=fun j hj i k hk=>by
   subst hk
   cases k with
   |none=>exact hj i none rfl
   |some d=>
    simp only [unl,inRow] at hj
    by_cases e:d=o
    ·subst e;rw [beq_self] at hj;exact hj i none rfl
    ·rw [beq_ne e] at hj;exact hj i (some d) rfl
  have ai:RowsOK w lo S e e2 t l (inRow (unl o hh)) mv mv.hs:=⟨hr.own,hr.top,hr.low,hr.slc,fun j x r hj hx hl=>hr.row j x r (ab j hj) hx hl,fun j k x y b hj hk=>hr.apart j k x y b (ab j hj) (ab k hk)⟩
  refine⟨ai.step (fun b hb hs=>⟨hS b hb hs,rfl⟩) (fun _ _=>rfl) fun b hb=>(hr.low b hb).1,fun i d' aa=>?_⟩
  have ad:d'≠o∧hh=some (i,some d'):=by
   cases hh with
   |none=>cases aa
   |some q=>
    obtain⟨i0,k⟩:=q
    cases k with
    |none=>simp [unl] at aa
    |some d0=>
     simp only [unl] at aa
     by_cases e:d0=o
     ·subst e;rw [beq_self] at aa;simp at aa
     ·rw [beq_ne e] at aa
      simp only [xc,xdb] at aa
      obtain⟨rfl,rfl⟩:=aa
      exact⟨e,rfl⟩
  obtain⟨x,rs,hs,k1,k2⟩:=hk i d' ad.2
  obtain⟨aj,ak,k3,_⟩:=hμ d' _ ad.1 k2
  exact⟨x,aj,ak,k1,k3⟩
 |deep e t l=>exact h
 |perm k e e2 t ix l=>exact PermOK.step h (fun b hb hs=>⟨hS b hb hs,rfl⟩) (fun _ _=>rfl) fun b hb=>(PermOK.low h b hb).1
 |spent=>exact h
 |cells cs=>
  obtain⟨b,vs,e,h1,h2,h3,h4,h5⟩:=h
  refine⟨b,vs,e,h1,h2,h3,by simpa using h4,fun j u hu=>?_⟩
  rw [nth_eq,xr] at hu
  cases hj:cs[j]? with
  |none=>rw [hj] at hu;cases hu
  |some v=>
   rw [hj] at hu
   simp only [xy,xc] at hu
   subst hu
   exact frz1_relH hlo hμ hd hS (h5 j v (by rw [nth_eq];exact hj))
def killOb(ks:List Nat)(x:Ob):Ob:=ks.foldl (fun x p=>frzOb p (.arr p) x) x
def killV(ks:List Nat)(v:AV):AV:=ks.foldl (fun v p=>frz2 p (.arr p) v) v
def rehs(μ μ':Nat→Option MV)(p o:Nat):Option MV:=if o=p then(μ o).map fun mv=>⟨mv.v,mv.rs,((μ' o).map (·.hs)).getD []⟩ else μ o
theorem rehs_ne{μ':Nat→Option MV}{p o:Nat}{mv:MV}(h:o≠p)(ho:μ o=some mv):rehs μ μ' p o=some mv:=by simp [rehs,h,ho]
theorem rehs_self{μ':Nat→Option MV}{p:Nat}{mv:MV}(ho:μ p=some mv):rehs μ μ' p p=some ⟨mv.v,mv.rs,((μ' p).map (·.hs)).getD []⟩:=by simp [rehs,ho]
theorem rehs_inv{μ':Nat→Option MV}{p o:Nat}{mv:MV}(h:rehs μ μ' p o=some mv):∃mv0,μ o=some mv0∧mv.v=mv0.v∧(o≠p→mv=mv0)∧(o=p→mv.hs=((μ' p).map (·.hs)).getD []):=by
 unfold rehs at h
 split at h
 next e=>
  cases ho:μ o with
  |none=>rw [ho] at h;cases h
  |some mv0=>
   rw [ho] at h
   simp only [xy,xc] at h
   subst h
   exact⟨mv0,rfl,rfl,fun h=>absurd e h,fun e=>by rw [e]⟩
 next e=>exact⟨mv,h,rfl,fun _=>rfl,fun h=>absurd h e⟩
structure Turns(μ μ':Nat→Option MV)(ks:List Nat):Prop where
 hs:∀o mv,μ o=some mv→∃rs hs,μ' o=some ⟨mv.v,rs,hs⟩∧(o∉ks→Ext mv.hs hs)
 sl:∀o mv,o∈ks→μ o=some mv→∃a n c,mv.v=.slice a n c
theorem Turns.next{μ':Nat→Option MV}{p:Nat}{ks:List Nat}(h:Turns μ μ' (p::ks)):Turns (rehs μ μ' p) μ' ks:=by
 refine⟨fun o mv ho=>?_,fun o mv hk ho=>?_⟩
 ·obtain⟨mv0,h1,h2,h3,h4⟩:=rehs_inv ho
  obtain⟨rs,hs,k1,k2⟩:=h.hs o mv0 h1
  refine⟨rs,hs,by rw [h2];exact k1,fun hn=>?_⟩
  by_cases e:o=p
  ·subst e
   rw [h4 rfl,k1]
   exact Ext.refl _
  ·rw [h3 e]
   exact k2 fun hm=>(xam.1 hm).elim e hn
 ·obtain⟨mv0,h1,h2,_⟩:=rehs_inv ho
  rw [h2]
  exact h.sl o mv0 (xu _ hk) h1
theorem Turns.arr[Tabs]{μ':Nat→Option MV}{p:Nat}{ks:List Nat}(h:Turns μ μ' (p::ks)):∀mv,μ p=some mv→RelV P w lo (rehs μ μ' p) S (.arr p) mv.v:=fun mv hp=>by
 obtain⟨a,n,c,e⟩:=h.sl p mv xx hp
 rw [e]
 exact .arr (by rw [rehs_self hp,e])
theorem RelV.kill[Tabs]{w':World}{μ':Nat→Option MV}{S':Nat→Prop}(hlo:∀b,lo b→b<w.heap.size)(hw:∀b,b<w.heap.size→S b→S' b∧w'.heap[b]? =w.heap[b]?)(hl:∀b,lo b→w'.heap[b]? =w.heap[b]?){x:Value}:
  ∀ {ks:List Nat} {μ:Nat→Option MV} {v:AV},Turns μ μ' ks→RelV P w lo μ S v x→RelV P w' lo μ' S' (killV ks v) x
 | [],μ,v,ht,h=>h.stepH (fun o mv ho=>by obtain⟨rs,hs,k1,k2⟩:=ht.hs o mv ho;exact⟨rs,hs,k1,k2 (by simp)⟩) hlo hw hl
 |p::ks,μ,v,ht,h=>RelV.kill hlo hw hl (ks:=ks) ht.next (frz2_relH hlo (fun q mv aa hq=>⟨mv.rs,mv.hs,rehs_ne aa hq,Ext.refl _⟩) ht.arr (fun _ _ h=>h) h)
theorem ObOK.kill[Tabs]{w':World}{μ':Nat→Option MV}{S':Nat→Prop}(hlo:∀b,lo b→b<w.heap.size)(hw:∀b,b<w.heap.size→S b→S' b∧w'.heap[b]? =w.heap[b]?)(hl:∀b,lo b→w'.heap[b]? =w.heap[b]?){mv:MV}(hr:∀b,b∈mv.rs→w'.heap[b]? =w.heap[b]?):
  ∀ {ks:List Nat} {μ:Nat→Option MV} {x:Ob},Turns μ μ' ks→ObOK P w lo μ S x mv→ObOK P w' lo μ' S' (killOb ks x) mv
 | [],μ,x,ht,h=>h.stepH hlo (fun o mv ho=>by obtain⟨rs,hs,k1,k2⟩:=ht.hs o mv ho;exact⟨rs,hs,k1,k2 (by simp)⟩) hw hl hr
 |p::ks,μ,x,ht,h=>ObOK.kill hlo hw hl hr (ks:=ks) ht.next (frzOb_relH hlo (fun q mv aa hq=>⟨mv.rs,mv.hs,rehs_ne aa hq,Ext.refl _⟩) ht.arr (fun _ _ h=>h) h)
end
end Go.Proofs.YteiekijgoifhoaaGreatDoor
