/-
 What a call hands back is taken over.
-/
import Derived.Test.YteiekijgoifhoaaGreatDoorB35
namespace Go.Proofs.YteiekijgoifhoaaGreatDoor
open Go.RowKit (Below)
theorem look_mem{α:Type}:∀ {l:List (Nat×α)} {k:Nat} {x:α},look l k=some x→(k,x)∈l
 | [],_,_,h=>by simp [look] at h
 |(j,y)::r,k,x,h=>by
  simp only [look] at h
  split at h
  next e=>
   have:=xe e
   subst this
   cases h
   exact xx
  next=>exact xu _ (look_mem h)
theorem mem_look{α:Type}:∀ {l:List (Nat×α)} {k:Nat} {x:α},(l.map (·.1)).Nodup→(k,x)∈l→look l k=some x
 | [],_,_,_,h=>by cases h
 |(j,y)::r,k,x,hn,h=>by
  simp only [xbm,xey] at hn
  simp only [look]
  cases h with
  |head=>simp
  |tail _ h=>
   have aa:j≠k:=fun e=>hn.1 (by rw [e];exact xcm h)
   have:Nat.beq j k=false:=by
    cases hb:Nat.beq j k with
    |true=>exact absurd (xe hb) aa
    |false=>rfl
   rw [this]
   exact mem_look hn.2 h
theorem ixOf_spec:∀ {ρ:List Nat} {o k i:Nat},ixOf ρ o k=some i→k≤i∧nth ρ (i-k)=some o
 | [],_,_,_,h=>by simp [ixOf] at h
 |x::r,o,k,i,h=>by
  simp only [ixOf] at h
  split at h
  next e=>
   cases h
   exact⟨xm _,by rw [xdr];simp [nth,xe e]⟩
  next=>
   obtain⟨h1,h2⟩:=ixOf_spec h
   exact⟨by omega,by rw [show i-k=(i-(k+1))+1 by omega];exact h2⟩
theorem ixOf_mem[Tabs]{ρ:List Nat}{o k i:Nat}(h:ixOf ρ o k=some i):o∈ρ:=by
 have:=(ixOf_spec h).2
 rw [nth_eq] at this
 exact xn this
theorem ixOf_nth:∀ {ρ:List Nat} {o k j:Nat},ρ.Nodup→nth ρ j=some o→ixOf ρ o k=some (k+j)
 | [],_,_,_,_,h=>by simp [nth] at h
 |x::r,o,k,0,_,h=>by
  simp only [nth,xc] at h
  simp [ixOf,h]
 |x::r,o,k,j+1,hn,h=>by
  simp only [xey] at hn
  simp only [nth] at h
  have aa:Nat.beq x o=false:=by
   cases hb:Nat.beq x o with
   |true=>
    have:=xe hb
    subst this
    rw [nth_eq] at h
    exact absurd (xn h) hn.1
   |false=>rfl
  simp only [ixOf,aa]
  rw [ixOf_nth hn.2 h]
  congr 1
  omega
section
variable {P:Program} {tt:Nat→TD} {w:World} {lo:Nat→Prop} {μ:Nat→Option MV} {S:Nat→Prop} {X:Nat→Prop} {g:Nat→Option Ob} {o:Oper} {a:Act} {E:Env}
structure NxU[Tabs](P:Program)(X:Nat→Prop)(lo:Nat→Prop)(g:Nat→Option Ob)(μ:Nat→Option MV)(w:World)(objs:List (Nat×Ob))(ks:List Nat)(w':World)(μ':Nat→Option MV):Prop where
 hs:Turns μ μ' ks
 dom:∀o mv,μ' o=some mv→(∃mv0,μ o=some mv0)∨∃p∈objs,p.1=o
 root:∀o mv b,μ' o=some mv→b∈mv.rs→w.heap.size≤b∨∃p mv0,μ p=some mv0∧b∈mv0.rs
 kept:Kept lo w w'
 frame:∀b,b<w.heap.size→(∀p∈objs,∀mv,μ p.1=some mv→b∉mv.rs)→w'.heap[b]? =w.heap[b]?
 mem:∀g',(∀p∈objs,g' p.1=some p.2)→(∀o mv,μ o=some mv→(∀p∈objs,p.1≠o)→g' o=(g o).map (killOb ks))→Mem P X lo g' μ' w'
theorem NxU.data[Tabs]{objs:List (Nat×Ob)}{ks:List Nat}{w':World}{μ':Nat→Option MV}(h:NxU P X lo g μ w objs ks w' μ'):∀b,b<w.heap.size→SS X μ b→SS X μ' b∧w'.heap[b]? =w.heap[b]? :=fun b hb hS=>
 ⟨⟨hS.1,fun o mv ho hm=>(h.root o mv b ho hm).elim (fun h=>by omega) fun⟨p,mv0,h1,h2⟩=>hS.2 p mv0 h1 h2⟩,h.frame b hb fun p _ mv hp=>hS.2 p.1 mv hp⟩
theorem NxU.step[Tabs]{objs:List (Nat×Ob)}{w':World}{μ':Nat→Option MV}(h:NxU P X lo g μ w objs [] w' μ')(hlo:∀b,lo b→b<w.heap.size){v:AV}{x:Value}(hv:RelV P w lo μ (SS X μ) v x):RelV P w' lo μ' (SS X μ') v x:=
 hv.stepH (fun o mv ho=>by obtain⟨rs,hs,k1,k2⟩:=h.hs.hs o mv ho;exact⟨rs,hs,k1,k2 (by simp)⟩) hlo h.data h.kept.block
theorem NxU.of[Tabs]{q:QR}{x:Value}{w':World}(hm:Mem P X lo g μ w)(aa:∀p∈q.2,μ p.1=none)(h:Nx P X lo g μ w q x w'):∃μ',NxU P X lo g μ w q.2 [] w' μ'∧RelV P w' lo μ' (SS X μ') q.1 x:=by
 obtain⟨μ',h1,h2,h3,h4,h5⟩:=h
 refine⟨μ',⟨⟨fun o mv ho=>⟨mv.rs,mv.hs,h1 o mv ho,fun _=>Ext.refl _⟩,fun o mv ho=>(by cases ho)⟩,fun o mv ho=>(h2 o mv ho).imp (fun h=>⟨mv,h⟩) (·.1),fun o mv b ho hb=>?_,.of h3 hm.hlo,fun b hb _=>h3.block b hb,fun g' k1 k2=>?_⟩,h5⟩
 ·rcases h2 o mv ho with h|h
  ·exact .inr ⟨o,mv,h,hb⟩
  ·exact .inl (h.2 b hb)
 ·refine h4 g' k1 fun o mv ho=>(k2 o mv ho fun p hp e=>?_).trans (by cases g o<;>rfl)
  have:=aa p hp
  rw [e,ho] at this
  cases this
def join(μ μr:Nat→Option MV)(ρ:List Nat)(d:Nat)(o:Nat):Option MV:=
 match ixOf ρ o 64 with
 |some i=>μr i
 |none=>match μ o with
  |some mv=>some mv
  |none=>if d*64≤o∧o<d*64+64 then μr (o-d*64) else none
variable {ρ:List Nat} {μr:Nat→Option MV} {d:Nat}
theorem join_old{o:Nat}{mv:MV}(hi:ixOf ρ o 64=none)(h:μ o=some mv):join μ μr ρ d o=some mv:=by simp [join,hi,h]
theorem join_lent{o i:Nat}(hi:ixOf ρ o 64=some i):join μ μr ρ d o=μr i:=by simp [join,hi]
theorem join_new{k:Nat}(hk:k<64)(hi:ixOf ρ (d*64+k) 64=none)(hf:μ (d*64+k)=none):join μ μr ρ d (d*64+k)=μr k:=by
 simp only [join,hi,hf]
 rw [if_pos (by omega),show d*64+k-d*64=k by omega]
theorem join_inv{o:Nat}{mv:MV}(h:join μ μr ρ d o=some mv):(ixOf ρ o 64=none∧μ o=some mv)∨(∃i,ixOf ρ o 64=some i∧μr i=some mv)∨(ixOf ρ o 64=none∧μ o=none∧∃k,k<64∧o=d*64+k∧μr k=some mv):=by
 simp only [join] at h
 split at h
 next i hi=>exact .inr (.inl ⟨i,hi,h⟩)
 next hi=>
  split at h
  next mv' e=>cases h;exact .inl ⟨hi,e⟩
  next e=>
   split at h
   next hk=>exact .inr (.inr ⟨hi,e,o-d*64,by omega,by omega,h⟩)
   next=>cases h
theorem join_rn[Tabs](hn:ρ.Nodup)(aa:∀k mv,μr k=some mv→k<64→ixOf ρ (d*64+k) 64=none∧μ (d*64+k)=none)(ab:∀k mv,μr k=some mv→k<64+ρ.length){o:Nat}{mv:MV}(h:μr o=some mv):join μ μr ρ d (rn ρ d o)=some mv:=by
 unfold rn
 split
 next ad=>
  obtain⟨h1,h2⟩:=aa o mv h ad
  rw [join_new ad h1 h2]
  exact h
 next hge=>
  have hl:=ab o mv h
  have hx:nth ρ (o-64)=some (ρ[o-64]'(by omega)):=by rw [nth_eq];simp
  rw [hx,xax,join_lent (ixOf_nth hn hx),show 64+(o-64)=o by omega]
  exact h
theorem ren0_rel[Tabs]{w':World}{lo':Nat→Prop}{Sr S':Nat→Prop}(hj:∀o mv,μr o=some mv→join μ μr ρ d (rn ρ d o)=some mv){v:AV}{x:Value}(hv:res0 v=true)
  (hS:deep0 v=false∨∀b,b<w'.heap.size→Sr b→S' b) (h:RelV P w' lo' μr Sr v x):RelV P w' lo (join μ μr ρ d) S' (ren0 ρ d v) x:=by
 cases h with
 |dat ht h=>
  rcases hS with hd|hS
  ·exact .dat ht (h.plain (by simpa [deep0] using hd))
  ·exact .dat ht (h.step fun b hb hs=>⟨hS b hb hs,rfl⟩)
 |nilsl=>exact .nilsl
 |arr h=>exact .arr (hj _ _ h)
 |undef=>exact .undef
 |_=>simp [res0] at hv
theorem ren1_rel[Tabs]{w':World}{lo':Nat→Prop}{Sr S':Nat→Prop}(hj:∀o mv,μr o=some mv→join μ μr ρ d (rn ρ d o)=some mv){v:AV}{x:Value}(hv:res1 v=true)
  (hS:deep1 v=false∨∀b,b<w'.heap.size→Sr b→S' b) (h:RelV P w' lo' μr Sr v x):RelV P w' lo (join μ μr ρ d) S' (ren1 ρ d v) x:=by
 have h0:=h
 cases h with
 | @agg _ vs xs hl h=>
  refine .agg (by simpa using hl) fun j v aa=>?_
  rw [nth_eq,xr] at aa
  cases hu:vs[j]? with
  |none=>rw [hu] at aa;cases aa
  |some u=>
   rw [hu] at aa
   simp only [xy,xc] at aa
   subst aa
   have hm:=xn hu
   refine ren0_rel hj ?_ (hS.imp (fun e=>?_) id) (h j u (by rw [nth_eq];exact hu))
   ·simp only [res1,xp] at hv
    exact hv u hm
   ·simp only [deep1,xbn] at e
    simpa using e u hm
 |_=>exact ren0_rel hj (by simpa only [res1] using hv) (by simpa only [deep1] using hS) h0
theorem renC_rel{w':World}{lo':Nat→Prop}{Sr S':Nat→Prop}(hj:∀o mv,μr o=some mv→join μ μr ρ d (rn ρ d o)=some mv){v:AV}{x:Value}(h:RelV P w' lo' μr Sr v x):RelV P w' lo (join μ μr ρ d) S' (renC ρ d v) x:=by
 cases h with
 |box h=>
  simp only [renC]
  split
  ·exact .undef
  ·exact .box (hj _ _ h)
 |_=>exact .undef
theorem renL_rel[Tabs]{w':World}{lo':Nat→Prop}{Sr S':Nat→Prop}(hj:∀o mv,μr o=some mv→join μ μr ρ d (rn ρ d o)=some mv){v:AV}{x:Value}
  (hS:deepL v=false∨∀b,b<w'.heap.size→Sr b→S' b) (h:RelV P w' lo' μr Sr v x):RelV P w' lo (join μ μr ρ d) S' (renL ρ d v) x:=by
 cases h with
 |dat ht h=>
  rcases hS with hd|hS
  ·exact .dat ht (h.plain (by simpa [deepL] using hd))
  ·exact .dat ht (h.step fun b hb hs=>⟨hS b hb hs,rfl⟩)
 |nilsl=>exact .nilsl
 |arr h=>exact .arr (hj _ _ h)
 |box h=>
  simp only [renL]
  split
  ·exact .undef
  ·exact .box (hj _ _ h)
 | @fn _ f caps xs hl h=>
  refine .fn (by simpa using hl) fun j u hu=>?_
  rw [nth_eq,xr] at hu
  cases hc:caps[j]? with
  |none=>rw [hc] at hu;cases hu
  |some c=>
   rw [hc] at hu
   simp only [xy,xc] at hu
   subst hu
   exact renC_rel hj (h j c (by rw [nth_eq];exact hc))
 |_=>exact .undef
theorem renOb_rel[Tabs]{w':World}{lo':Nat→Prop}{Sr S':Nat→Prop}(hj:∀o mv,μr o=some mv→join μ μr ρ d (rn ρ d o)=some mv)(hle:∀b,lo b→lo' b){y:Ob}{mv:MV}
  (hS:deepOb y=false∨∀b,b<w'.heap.size→Sr b→S' b) (h:ObOK P w' lo' μr Sr y mv):ObOK P w' lo (join μ μr ρ d) S' (renOb ρ d y) mv:=by
 cases y with
 |arr e t l=>
  obtain⟨⟨ah,ai⟩,aj,xs,af,ab⟩:=h
  refine⟨⟨ah,ai⟩,fun b hb hl=>aj b hb (hle b hl),xs,af,?_⟩
  rcases hS with hd|hS
  ·exact ab.plain (by simpa [deepOb] using hd)
  ·exact ab.step fun b hb hs=>⟨hS b hb hs,rfl⟩
 |txt e l=>
  obtain⟨b,cap,cur,fr,h1,h2,h3,h4⟩:=h
  exact⟨b,cap,cur,fr,h1,fun h=>h2 (hle b h),h3,h4⟩
 |rows e e2 t l hh=>
  obtain⟨hr,_⟩:=h
  have ak:∀i d,hh.map (fun p=>(p.1,(none:Option Nat)))=some (i,some d)→False:=fun i d hd=>by
   cases hh<;>simp at hd
  have ae:∀j,inRow (hh.map fun p=>(p.1,(none:Option Nat))) j→inRow hh j:=fun j hj i k hk=>by
   subst hk
   exact hj i none rfl
  refine⟨?_,fun i d hd=>(ak i d hd).elim⟩
  have ad:=hr.low
  have aa:RowsOK w' lo Sr e e2 t l (inRow (hh.map fun p=>(p.1,(none:Option Nat)))) mv mv.hs:=⟨hr.own,hr.top,fun b hb=>⟨fun h=>(ad b hb).1 (hle b h),(ad b hb).2⟩,hr.slc,fun j x r hj hx hl=>hr.row j x r (ae j hj) hx hl,fun j k x y b hj hk=>hr.apart j k x y b (ae j hj) (ae k hk)⟩
  rcases hS with hd|hS
  ·have hd:deepT t=false:=by simpa [deepOb] using hd
   refine⟨aa.own,aa.top,aa.low,aa.slc,fun j x r hj hx hl=>?_,aa.apart⟩
   obtain⟨k1,xs,k2,k3⟩:=aa.row j x r hj hx hl
   exact⟨k1,xs,k2,k3.plain hd⟩
  ·exact aa.step (fun b hb hs=>⟨hS b hb hs,rfl⟩) (fun _ _=>rfl) fun b hb=>(aa.low b hb).1
 |deep e t l=>exact DeepOK.step h (fun _ _=>rfl) fun b hb hl=>(DeepOK.low h b hb).1 (hle b hl)
 |perm k e e2 t ix l=>
  have hp:PermOK w' lo' Sr e e2 t ix l mv:=h
  show PermOK w' lo S' e e2 t ix l mv
  rcases hS with hd|hS
  ·have hd:deepT t=false:=by simpa [deepOb] using hd
   refine⟨hp.own,hp.len,hp.top,fun b hb=>⟨fun h=>(hp.low b hb).1 (hle b h),(hp.low b hb).2⟩,hp.slc,fun j x r hx hl=>?_,hp.apart⟩
   obtain⟨k1,xs,k2,k3⟩:=hp.row j x r hx hl
   exact⟨k1,xs,k2,k3.plain hd⟩
  ·exact hp.step (fun b hb hs=>⟨hS b hb hs,rfl⟩) (fun _ _=>rfl) fun b hb hl=>(hp.low b hb).1 (hle b hl)
 |spent=>exact SpentOK.step h (fun _ _=>rfl) fun b hb hl=>(SpentOK.low h b hb).1 (hle b hl)
 |cells cs=>
  obtain⟨b,vs,e,h1,h2,h3,h4,h5⟩:=h
  refine⟨b,vs,e,h1,fun h=>h2 (hle b h),h3,by simpa using h4,fun j u hu=>?_⟩
  rw [nth_eq,xr] at hu
  cases hc:cs[j]? with
  |none=>rw [hc] at hu;cases hu
  |some c=>
   rw [hc] at hu
   simp only [xy,xc] at hu
   subst hu
   refine renL_rel hj (hS.imp (fun e=>?_) id) (h5 j c (by rw [nth_eq];exact hc))
   simp only [deepOb,xbn] at e
   simpa using e c (xn hc)
def lentM(μ:Nat→Option MV)(ρ:List Nat)(i:Nat):Option MV:=if 64≤i then(nth ρ (i-64)).bind μ else none
theorem lentM_ix[Tabs](hn:ρ.Nodup){i:Nat}{mv:MV}(h:lentM μ ρ i=some mv):∃o,ixOf ρ o 64=some i∧μ o=some mv:=by
 unfold lentM at h
 split at h
 next hi=>
  cases hx:nth ρ (i-64) with
  |none=>rw [hx] at h;cases h
  |some o=>
   rw [hx] at h
   refine⟨o,?_,h⟩
   rw [ixOf_nth hn hx]
   congr 1
   omega
 next=>cases h
theorem lentM_of[Tabs]{o i:Nat}(h:ixOf ρ o 64=some i):lentM μ ρ i=μ o:=by
 obtain⟨h1,h2⟩:=ixOf_spec h
 unfold lentM
 rw [if_pos h1,h2]
 rfl
theorem adopt_ok[Tabs](hm:Mem P X lo g μ w)(hn:ρ.Nodup){w':World}{Xc:Nat→Prop}{res:List AV×List (Nat×Ob)}{x:Value}(ch:∀b,X b→Xc b)
  (bh:(res.1.any deep1||res.2.any fun p=>deepOb p.2)=false∨∀o mv b,μ o=some mv→ixOf ρ o 64=none→b∈mv.rs→Xc b) (br:okRes ρ.length res=true)
  (hr:ResOK P Xc (old w (lentM μ ρ)) w w' (lentM μ ρ) res x) (av:∀p∈(adopt ρ d res).1.2,μ p.1=none) (hρ:∀o∈ρ,∃mv,μ o=some mv):
  ∃μ',NxU P X lo g μ w ((adopt ρ d res).1.2++(adopt ρ d res).2) (rowIds g ((adopt ρ d res).1.2++(adopt ρ d res).2)) w' μ'∧RelV P w' lo μ' (SS X μ') (adopt ρ d res).1.1 x:=by
 obtain⟨hk,μr,aj,aw,bj,bs⟩:=hr
 simp only [okRes,xg,xp,decide_eq_true_eq] at br
 obtain⟨⟨⟨al,bt⟩,bu⟩,bw⟩:=br
 have hd:∀k mv,μr k=some mv→k<64+ρ.length:=fun k mv h=>by
  obtain⟨p,hp,rfl⟩:=aw k mv h
  exact(al p hp).1
 have bz:∀k mv,μr k=some mv→k<64→ixOf ρ (d*64+k) 64=none∧μ (d*64+k)=none:=fun k mv h ak=>by
  obtain⟨p,hp,rfl⟩:=aw k mv h
  have h0:μ (d*64+p.1)=none:=av (d*64+p.1,p.2) (xae.2 ⟨p,xac.2 ⟨hp,by simpa using ak⟩,rfl⟩)
  refine⟨?_,h0⟩
  cases hi:ixOf ρ (d*64+p.1) 64 with
  |none=>rfl
  |some i=>
   obtain⟨mv',h'⟩:=hρ _ (ixOf_mem hi)
   rw [h0] at h'
   cases h'
 have hj:∀o mv,μr o=some mv→join μ μr ρ d (rn ρ d o)=some mv:=fun o mv h=>join_rn hn bz hd h
 have ay:∀b,lo b→old w (lentM μ ρ) b:=fun b hb=>⟨hm.hlo b hb,fun o mv h bk=>by
  obtain⟨o',_,h'⟩:=lentM_ix hn h
  exact(hm.lt h' bk).1 hb⟩
 have bl:∀o mv b,μ o=some mv→ixOf ρ o 64=none→b∈mv.rs→old w (lentM μ ρ) b:=fun o mv b h hi hb=>⟨(hm.lt h hb).2,fun i mv' h' ah=>by
  obtain⟨o',ae,bm⟩:=lentM_ix hn h'
  have:=hm.dis o o' mv mv' b h bm hb ah
  subst this
  rw [hi] at ae
  cases ae⟩
 have af:∀k mv b,μr k=some mv→b∈mv.rs→w.heap.size≤b∨∃o mv0,(∃i,ixOf ρ o 64=some i)∧μ o=some mv0∧b∈mv0.rs:=fun k mv b h hb=>by
  have:=(aj.lt h hb).1
  by_cases ak:b<w.heap.size
  ·by_cases hex:∃i mv0,lentM μ ρ i=some mv0∧b∈mv0.rs
   ·obtain⟨i,mv0,h1,h2⟩:=hex
    obtain⟨o,h3,h4⟩:=lentM_ix hn h1
    exact .inr ⟨o,mv0,⟨i,h3⟩,h4,h2⟩
   ·exact absurd ⟨ak,fun i mv0 h1 h2=>hex ⟨i,mv0,h1,h2⟩⟩ this
  ·exact .inl (by omega)
 have ad:∀o i,ixOf ρ o 64=some i→∃y mv mv',(i,y)∈res.2∧μ o=some mv∧μr i=some mv'∧mv'.v=mv.v:=fun o i hi=>by
  obtain⟨h1,h2⟩:=ixOf_spec hi
  have ak:i-64<ρ.length:=by
   rw [nth_eq] at h2
   exact(xk.1 h2).1
  have:=bw (i-64) (xaq.2 ak)
  rw [xcd,show 64+(i-64)=i by omega] at this
  obtain⟨p,hp,e⟩:=xae.1 this
  obtain⟨mv,rs,cn,k1,k2⟩:=bj p hp (by omega)
  rw [e,lentM_of hi] at k1
  rw [e] at k2
  exact⟨p.2,mv,_,by rw [←e];exact hp,k1,k2,rfl⟩
 have bn:(∀o mv b,μ o=some mv→ixOf ρ o 64=none→b∈mv.rs→Xc b)→∀b,b<w'.heap.size→SS Xc μr b→SS X (join μ μr ρ d) b:=fun hA b _ hS=>
  ⟨fun h=>hS.1 (ch b h),fun o mv h e=>by
   rcases join_inv h with⟨hi,h⟩|⟨i,hi,h⟩|⟨_,_,k,_,_,h⟩
   ·exact hS.1 (hA o mv b h hi e)
   ·exact hS.2 i mv h e
   ·exact hS.2 k mv h e⟩
 have ca:∀o i,ixOf ρ o 64=some i→((∃e e2 t l hh,g o=some (.rows e e2 t l hh))∨∃k e e2 t ix l,g o=some (.perm k e e2 t ix l))→o∈rowIds g ((adopt ρ d res).1.2++(adopt ρ d res).2):=fun o i hi az=>by
  obtain⟨y,_,_,hy,_⟩:=ad o i hi
  obtain⟨h1,h2⟩:=ixOf_spec hi
  have bc:rn ρ d i=o:=by
   unfold rn
   rw [if_neg (by omega),h2]
   rfl
  unfold rowIds
  refine xae.2 ⟨(rn ρ d i,renOb ρ d y),xac.2 ⟨xal _ (xae.2 ⟨(i,y),xac.2 ⟨hy,by simpa using h1⟩,rfl⟩),?_⟩,bc⟩
  have hk:=(al _ hy).2
  unfold rowId
  rw [bc]
  rcases az with⟨e,e2,t,l,hh,az⟩|⟨k,e,e2,t,ix,l,az⟩
  ·rw [az]
   cases y with
   |arr=>rfl
   |txt=>rfl
   |deep=>rfl
   |spent=>rfl
   |cells=>rfl
   |perm=>rfl
   |rows e e2 t l h'=>
    cases h' with
    |none=>rfl
    |some _=>simp at hk
  ·rw [az]
   cases y with
   |arr=>rfl
   |txt=>rfl
   |deep=>rfl
   |spent=>rfl
   |cells=>rfl
   |perm=>rfl
   |rows e e2 t l h'=>
    cases h' with
    |none=>rfl
    |some _=>simp at hk
 have hs:Turns μ (join μ μr ρ d) (rowIds g ((adopt ρ d res).1.2++(adopt ρ d res).2)):=by
  refine⟨fun o mv h=>?_,fun o mv hk h=>?_⟩
  ·cases hi:ixOf ρ o 64 with
   |none=>exact⟨mv.rs,mv.hs,join_old hi h,fun _=>Ext.refl _⟩
   |some i=>
    obtain⟨y,aa,ab,_,k1,k2,k3⟩:=ad o i hi
    rw [h] at k1
    cases k1
    refine⟨ab.rs,ab.hs,by rw [join_lent hi,k2,←k3],fun hn=>?_⟩
    obtain⟨z,hz,ai⟩:=hm.ob o mv h
    have cb:mv.hs=[]:=by
     cases z with
     |arr e t l=>exact ai.1.1
     |txt e l=>obtain⟨b,cap,cur,fr,e,_⟩:=ai;rw [e]
     |cells cs=>obtain⟨b,vs,e,h1,_⟩:=ai;rw [h1]
     |deep e t l=>exact ai.hs
     |spent=>exact ai.hs
     |rows e e2 t l hh=>exact absurd (ca o i hi (.inl ⟨_,_,_,_,_,hz⟩)) hn
     |perm k e e2 t ix l=>exact absurd (ca o i hi (.inr ⟨_,_,_,_,_,_,hz⟩)) hn
    rw [cb]
    exact Ext.nil _
  ·obtain⟨z,hz,ai⟩:=hm.ob o mv h
   obtain⟨q,hq,e⟩:=xae.1 hk
   have hk:=(xac.1 hq).2
   unfold rowId at hk
   rw [e,hz] at hk
   cases z with
   |rows e e2 t l hh=>
    rcases ai.1.own.2 with⟨e1,_⟩|⟨gb,cap,cur,e1,_⟩
    ·exact⟨_,_,_,e1⟩
    ·exact⟨_,_,_,e1⟩
   |perm k e e2 t ix l=>
    rcases(PermOK.own ai).2 with⟨e1,_⟩|⟨gb,cap,cur,e1,_⟩
    ·exact⟨_,_,_,e1⟩
    ·exact⟨_,_,_,e1⟩
   |_=>split at hk<;>cases hk
 have cc:∀p∈(adopt ρ d res).1.2++(adopt ρ d res).2,(∃q∈res.2,q.1<64∧p=(d*64+q.1,q.2))∨∃q∈res.2,64≤q.1∧p=(rn ρ d q.1,renOb ρ d q.2):=fun p hp=>by
  rcases xq.1 hp with hp|hp
  ·obtain⟨q,hq,rfl⟩:=xae.1 hp
   obtain⟨h1,h2⟩:=xac.1 hq
   exact .inl ⟨q,h1,by simpa using h2,rfl⟩
  ·obtain⟨q,hq,rfl⟩:=xae.1 hp
   obtain⟨h1,h2⟩:=xac.1 hq
   exact .inr ⟨q,h1,by simpa using h2,rfl⟩
 have cj:∀b,b<w.heap.size→(∀p∈(adopt ρ d res).1.2++(adopt ρ d res).2,∀mv,μ p.1=some mv→b∉mv.rs)→w'.heap[b]? =w.heap[b]? :=fun b hb hp=>by
  refine hk.block b ⟨hb,fun i mv h bk=>?_⟩
  obtain⟨o,hi,ho⟩:=lentM_ix hn h
  obtain⟨y,aa,ab,hy,_⟩:=ad o i hi
  obtain⟨h1,h2⟩:=ixOf_spec hi
  refine hp (rn ρ d i,renOb ρ d y) (xal _ (xae.2 ⟨(i,y),xac.2 ⟨hy,by simpa using h1⟩,rfl⟩)) mv ?_ bk
  have:rn ρ d i=o:=by
   unfold rn
   rw [if_neg (by omega),h2]
   rfl
  rw [this]
  exact ho
 refine⟨join μ μr ρ d,⟨hs,fun o mv h=>?_,fun o mv b h hb=>?_,hk.mono ay,cj,fun g' h1 h2=>⟨hm.hX,fun b hb=>xan (hm.hlo b hb) hk.size,fun o mv h=>?_,fun o p aa ab b h3 h4 h5 h6=>?_,hm.tab.step (hk.mono ay).block⟩⟩,?_⟩
 ·rcases join_inv h with⟨hi,h⟩|⟨i,hi,h⟩|⟨_,_,k,bd,rfl,hz⟩
  ·exact .inl ⟨mv,h⟩
  ·obtain⟨y,aa,_,_,k1,_⟩:=ad o i hi
   exact .inl ⟨aa,k1⟩
  ·obtain⟨p,hp,rfl⟩:=aw k mv hz
   exact .inr ⟨(d*64+p.1,p.2),xag _ (xae.2 ⟨p,xac.2 ⟨hp,by simpa using bd⟩,rfl⟩),rfl⟩
 ·rcases join_inv h with⟨hi,h⟩|⟨i,hi,h⟩|⟨_,_,k,bd,rfl,hz⟩
  ·exact .inr ⟨o,mv,h,hb⟩
  ·exact(af i mv b h hb).imp id fun⟨o,mv0,_,h4,h5⟩=>⟨o,mv0,h4,h5⟩
  ·exact(af k mv b hz hb).imp id fun⟨o,mv0,_,h4,h5⟩=>⟨o,mv0,h4,h5⟩
 ·rcases join_inv h with⟨hi,h⟩|⟨i,hi,h⟩|⟨_,_,k,bd,rfl,hz⟩
  ·obtain⟨y,hy,ba⟩:=hm.ob o mv h
   refine⟨killOb _ y,?_,ObOK.kill hm.hlo (fun b hb hS=>⟨?_,?_⟩) (fun b hb=>hk.block b (ay b hb)) (fun b hb=>hk.block b (bl o mv b h hi hb)) hs ba⟩
   ·rw [h2 o mv h]
    ·rw [hy];rfl
    ·intro p hp e
     rcases cc p hp with⟨q,hq,ak,rfl⟩|⟨q,hq,hge,rfl⟩
     ·have:=av (d*64+q.1,q.2) (xae.2 ⟨q,xac.2 ⟨hq,by simpa using ak⟩,rfl⟩)
      simp only at e this
      rw [e,h] at this
      cases this
     ·simp only at e
      have hl:=(al q hq).1
      have hx:nth ρ (q.1-64)=some (ρ[q.1-64]'(by omega)):=by rw [nth_eq];simp
      unfold rn at e
      rw [if_neg (by omega),hx,xax] at e
      rw [←e,ixOf_nth hn hx] at hi
      cases hi
   ·exact⟨hS.1,fun o' mv' h' ah=>by
     rcases join_inv h' with⟨_,h'⟩|⟨i,ae,h'⟩|⟨_,_,k,_,_,h'⟩
     ·exact hS.2 o' mv' h' ah
     ·rcases af i mv' b h' ah with h3|⟨o3,bo,_,h4,h5⟩
      ·omega
      ·exact hS.2 o3 bo h4 h5
     ·rcases af k mv' b h' ah with h3|⟨o3,bo,_,h4,h5⟩
      ·omega
      ·exact hS.2 o3 bo h4 h5⟩
   ·exact hk.block b ⟨hb,fun i mv' h' ah=>by
     obtain⟨o',_,ck⟩:=lentM_ix hn h'
     exact hS.2 o' mv' ck ah⟩
  ·obtain⟨y,aa,ab,hy,k1,k2,_⟩:=ad o i hi
   obtain⟨y',cd,ba⟩:=aj.ob i mv h
   have:=mem_look bt hy
   rw [this] at cd
   cases cd
   obtain⟨h3,h4⟩:=ixOf_spec hi
   have bc:rn ρ d i=o:=by
    unfold rn
    rw [if_neg (by omega),h4]
    rfl
   refine⟨renOb ρ d y,?_,renOb_rel hj ay (bh.imp (fun e=>?_) bn) ba⟩
   ·rw [←bc]
    exact h1 (rn ρ d i,renOb ρ d y) (xal _ (xae.2 ⟨(i,y),xac.2 ⟨hy,by simpa using h3⟩,rfl⟩))
   ·simp only [xdf,xbn] at e
    simpa using e.2 _ hy
  ·obtain⟨y,hy,ba⟩:=aj.ob k mv hz
   have bb:=look_mem hy
   have bf:=(al _ bb).2
   refine⟨y,h1 (d*64+k,y) (xag _ (xae.2 ⟨(k,y),xac.2 ⟨bb,by simpa using bd⟩,rfl⟩)),?_⟩
   have this:∀ {M:Nat→Option MV} {S':Nat→Prop},ObOK P w' lo M S' (renOb ρ d y) mv→ObOK P w' lo M S' y mv:=fun{M S'} hh=>by
    cases y with
    |arr e t l=>exact hh
    |txt e l=>exact hh
    |deep e t l=>exact hh
    |spent=>exact hh
    |perm k e e2 t ix l=>exact hh
    |rows e e2 t l hk=>
     cases hk with
     |none=>exact hh
     |some p=>simp at bf
    |cells cs=>simp at bf;omega
   refine this (renOb_rel hj ay (bh.imp (fun e=>?_) bn) ba)
   simp only [xdf,xbn] at e
   simpa using e.2 _ bb
 ·have be:∀ {o i:Nat} {aa ab:MV} {b:Nat},μ o=some aa→ixOf ρ o 64=none→μr i=some ab→b∈aa.rs→b∈ab.rs→False:=fun{o i aa ab b} ho hi hr cf cm=>by
   rcases af i ab b hr cm with h|⟨o',mv0,⟨i',ae⟩,bm,ah⟩
   ·have:=(hm.lt ho cf).2
    omega
   ·have:=hm.dis o o' aa mv0 b ho bm cf ah
    subst this
    rw [hi] at ae
    cases ae
  have ao:∀ {o i:Nat},ixOf ρ o 64=some i→64≤i∧nth ρ (i-64)=some o:=fun h=>ixOf_spec h
  rcases join_inv h3 with⟨hi,h3⟩|⟨i,hi,h3⟩|⟨_,_,k,cp,rfl,z3⟩<;>rcases join_inv h4 with⟨ae,h4⟩|⟨i',ae,h4⟩|⟨_,_,k',cq,rfl,z4⟩
  ·exact hm.dis o p aa ab b h3 h4 h5 h6
  ·exact(be h3 hi h4 h5 h6).elim
  ·exact(be h3 hi z4 h5 h6).elim
  ·exact(be h4 ae h3 h6 h5).elim
  ·have:=aj.dis i i' aa ab b h3 h4 h5 h6
   subst this
   have a1:=(ao hi).2
   have a2:=(ao ae).2
   rw [a1] at a2
   cases a2
   rfl
  ·have:=aj.dis i k' aa ab b h3 z4 h5 h6
   have:=(ao hi).1
   omega
  ·exact(be h4 ae z3 h6 h5).elim
  ·have:=aj.dis k i' aa ab b z3 h4 h5 h6
   have:=(ao ae).1
   omega
  ·rw [aj.dis k k' aa ab b z3 z4 h5 h6]
 ·have bg:∀v∈res.1,∀y,RelV P w' (old w (lentM μ ρ)) μr (SS Xc μr) v y→RelV P w' lo (join μ μr ρ d) (SS X (join μ μr ρ d)) (ren1 ρ d v) y:=fun v hv y hy=>
   ren1_rel hj (bu v hv) (bh.imp (fun e=>by simp only [xdf,xbn] at e;simpa using e.1 v hv) bn) hy
  rcases bs with⟨v,hv,hy⟩|⟨cg,hy⟩
  ·simp only [adopt,hv]
   exact bg v (by rw [hv];exact xx) x hy
  ·have bp:(adopt ρ d res).1.1=.tup (res.1.map (ren1 ρ d)):=by
    simp only [adopt]
    split
    next v hv=>rw [hv] at cg;simp at cg
    next=>rfl
   rw [bp]
   cases hy with
   | @tup _ _ xs hl h=>
    refine .tup (by simpa using hl) fun j v au=>?_
    rw [nth_eq,xr] at au
    cases hu:res.1[j]? with
    |none=>rw [hu] at au;cases au
    |some u=>
     rw [hu] at au
     simp only [xy,xc] at au
     subst au
     exact bg u (xn hu) _ (h j u (by rw [nth_eq];exact hu))
end
end Go.Proofs.YteiekijgoifhoaaGreatDoor
