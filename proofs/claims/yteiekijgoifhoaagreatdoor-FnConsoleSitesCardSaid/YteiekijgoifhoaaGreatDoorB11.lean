/-
 Calls: what the evaluator computes is what the model does.
-/
import Derived.Test.YteiekijgoifhoaaGreatDoorB10
namespace Go.Proofs.YteiekijgoifhoaaGreatDoor
open Go.RowKit (Below)
section
variable {P:Program} {tt:Nat→TD} {w:World} {lo:Nat→Prop} {μ:Nat→Option MV} {S:Nat→Prop} {X:Nat→Prop} {g:Nat→Option Ob} {o:Oper} {a:Act} {E:Env} {ρ:List Nat}
theorem rep_cells:∀ {t:Ty} {v:t.I} {x:Value},t.size=1→Rep S w t v [x]→x.cells= #[x]
 | .int k,_,_,_,hr=>by simp [Rep] at hr;subst hr;rfl
 | .bool,_,_,_,hr=>by simp [Rep] at hr;subst hr;rfl
 | .str,_,_,_,hr=>by simp [Rep] at hr;subst hr;rfl
 | .hdr,_,_,_,hr=>by
  simp only [Rep] at hr
  obtain⟨_,_,e,_⟩:=hr
  simp at e
  rw [e]
  rfl
 | .seq _,_,_,_,hr=>by simp only [Rep] at hr;obtain⟨_,_,_,e,_⟩:=hr;simp at e;subst e;rfl
 | .slice t,_,_,_,hr=>by simp only [Rep] at hr;obtain⟨a,cap,e,_⟩:=hr;simp at e;subst e;rfl
 | .pair a b,_,_,ht,_=>by
  have:=a.size_pos
  have:=b.size_pos
  simp only [Ty.size] at ht
  omega
theorem get1_rel[Tabs]{t:Ty}{v:AV}{x:t.I}(h:get1 t v=some x){y:Value}(hr:RelV P w lo μ S v y):Rep S w t x [y]∧y.cells= #[y]:=by
 unfold get1 at h
 split at h
 ·obtain⟨e,rfl⟩:=Ty.cast_spec h
  subst e
  refine⟨by cases hr with|dat _ hr=>exact hr,?_⟩
  cases hr with
  |dat ht hr=>exact rep_cells ht hr
 ·split at h
  ·cases h
   cases hr
   exact⟨Rep.nil,rfl⟩
  ·cases h
 ·cases h
theorem getA_rel[Tabs]{t:Ty}{v:AV}{x:t.I}(h:getA t v=some x){y:Value}(hr:RelV P w lo μ S v y):Rep S w t x y.cells.toList∧(t.size=1→y.cells= #[y])∧(t.size≠1→∃cs,y=.agg cs):=by
 unfold getA at h
 split at h
 ·split at h
  ·cases h
  next hs=>
   cases hr with
   |agg hl hv=>
    exact⟨unflat_rel h (by simpa [Value.cells] using hl.symm) (by simpa [Value.cells] using hv),fun e=>absurd e hs,fun _=>⟨_,rfl⟩⟩
 ·split at h
  next hs=>
   obtain⟨h1,h2⟩:=get1_rel h hr
   exact⟨by rw [h2];exact h1,fun _=>h2,fun e=>absurd hs e⟩
  ·cases h
theorem hlOf_rel[Tabs]:∀ {ts:List Ty} {vs:List AV} {h:HL ts},hlOf ts vs=some h→∀ {ys:List Value},vs.length=ys.length→(∀j v,nth vs j=some v→RelV P w lo μ S v (ys.getD j undef))→HRel w ts h ys
 | [],[],_,_,ys,hl,_=>by simpa [HRel] using hl.symm
 | [],_::_,_,h,ys,hl,_=>by simp [hlOf] at h
 |_::_,[],_,h,ys,hl,_=>by simp [hlOf] at h
 |t::ts,v::vs,h,hh,[],hl,_=>by simp at hl
 |t::ts,v::vs,h,hh,y::ys,hl,hv=>by
  simp only [hlOf] at hh
  split at hh
  next x r h1 h2=>
   cases hh
   obtain⟨h3,h4,h5⟩:=getA_rel h1 (hv 0 v rfl)
   exact⟨y,ys,rfl,h3.step fun b _ _=>⟨trivial,rfl⟩,h4,h5,hlOf_rel h2 (by simpa using hl) fun j v hj=>hv (j+1) v hj⟩
  next=>cases hh
theorem inj_one{t:Ty}(ht:t.size=1)(x:t.I):inj t x=.dat t x:=by
 cases t with
 |pair a b=>
  have:=a.size_pos
  have:=b.size_pos
  simp only [Ty.size] at ht
  omega
 |_=>rfl
theorem lend_ok[Tabs](hm:Mem P X lo g μ w)(hn:ρ.Nodup):LendOK X lo μ w ρ (old w (lentM μ ρ)) (lentM μ ρ) where
 mi:=fun o i mv hi ho=>by rw [lentM_of hi];exact ho
 le:=fun b hb=>⟨hm.hlo b hb,fun o mv h aa=>by
  obtain⟨o',_,h'⟩:=lentM_ix hn h
  exact(hm.lt h' aa).1 hb⟩
 rest:=fun o mv b h hi hb=>⟨(hm.lt h hb).2,fun i mv' h' ad=>by
  obtain⟨o',ab,ae⟩:=lentM_ix hn h'
  have:=hm.dis o o' mv mv' b h ae hb ad
  subst this
  rw [hi] at ab
  cases ab⟩
 dat:=fun b hb hS=>⟨hb,fun i mv h aa=>by
  obtain⟨o',_,h'⟩:=lentM_ix hn h
  exact hS.2 o' mv h' aa⟩
theorem insOf_look{ρ:List Nat}:∀ {r:List Nat} {k j o:Nat} {x:Ob},nth r j=some o→g o=some x→look (insOf ρ g r k) (k+j)=some (extOb ρ g x)
 | [],_,_,_,_,h,_=>by simp [nth] at h
 |y::r,k,0,o,x,h,hg=>by
  simp only [nth,xc] at h
  subst h
  simp only [insOf,hg,look,xbd]
  simp
 |y::r,k,j+1,o,x,h,hg=>by
  simp only [nth] at h
  have ih:=insOf_look (ρ:=ρ) (k:=k+1) h hg
  rw [show k+(j+1)=k+1+j by omega]
  simp only [insOf]
  cases hy:g y with
  |none=>exact ih
  |some z=>
   simp only [look]
   have:Nat.beq k (k+1+j)=false:=by
    cases hb:Nat.beq k (k+1+j) with
    |true=>have:=xe hb;omega
    |false=>rfl
   rw [this]
   exact ih
theorem insOf_mem{ρ:List Nat}:∀ {r:List Nat} {k:Nat} {p:Nat×Ob},p∈insOf ρ g r k→∃j o,nth r j=some o∧p.1=k+j
 | [],_,_,h=>by simp [insOf] at h
 |y::r,k,p,h=>by
  simp only [insOf] at h
  split at h
  next x hx=>
   rcases xam.1 h with rfl|h
   ·exact⟨0,y,rfl,rfl⟩
   ·obtain⟨j,o,h1,h2⟩:=insOf_mem h
    exact⟨j+1,o,h1,by omega⟩
  next=>
   obtain⟨j,o,h1,h2⟩:=insOf_mem h
   exact⟨j+1,o,h1,by omega⟩
theorem lendIds_ok[Tabs](hm:Mem P X lo g μ w){fs as:List AV}(ab:∀v∈fs,∀f cs j o,v=.fn f cs→nth cs j=some (.box o 0)→∃mv,μ o=some mv)(has:∀v∈as,(∀o k,v=.box o k→∃mv,μ o=some mv)∧(∀o,v=.arr o→∃mv,μ o=some mv)∧∀cs j o,v=.agg cs→nth cs j=some (.arr o)→∃mv,μ o=some mv):∀ {l:List LP} {acc ρ:List Nat},(∀o∈acc,∃mv,μ o=some mv)→lendIds g fs as l acc=some ρ→∀o∈ρ,∃mv,μ o=some mv
 | [],acc,ρ,aa,h,o,ho=>by
  simp only [lendIds,xc] at h
  subst h
  exact aa o ho
 | .arg i::r,acc,ρ,aa,h,o,ho=>by
  simp only [lendIds] at h
  have more:∀p,(∃mv,μ p=some mv)→∀o∈acc++ [p],∃mv,μ o=some mv:=fun p hp o ho=>by
   rcases xq.1 ho with ho|ho
   ·exact aa o ho
   ·rw [xt.1 ho];exact hp
  split at h
  next p hp=>
   rw [nth_eq] at hp
   exact lendIds_ok hm ab has (more p ((has _ (xn hp)).1 p 0 rfl)) h o ho
  next p hp=>
   rw [nth_eq] at hp
   exact lendIds_ok hm ab has (more p ((has _ (xn hp)).2.1 p rfl)) h o ho
  next=>cases h
 | .cell j k::r,acc,ρ,aa,h,o,ho=>by
  simp only [lendIds] at h
  have more:∀p,(∃mv,μ p=some mv)→∀o∈acc++ [p],∃mv,μ o=some mv:=fun p hp o ho=>by
   rcases xq.1 ho with ho|ho
   ·exact aa o ho
   ·rw [xt.1 ho];exact hp
  split at h
  next p hp=>
   rw [nth_eq] at hp
   obtain⟨mv,hmv⟩:=aa p (xn hp)
   split at h
   next cs hg=>
    obtain⟨y,hy,ad⟩:=hm.ob _ _ hmv
    rw [hg] at hy
    cases hy
    obtain⟨b,vs,e,_,_,_,_,hv⟩:=ad
    split at h
    next q hq=>
     have:=hv k _ hq
     generalize vs.getD k undef=z at this
     cases this with
     |box hb=>exact lendIds_ok hm ab has (more q ⟨_,hb⟩) h o ho
    next q hq=>
     have:=hv k _ hq
     generalize vs.getD k undef=z at this
     cases this with
     |arr hb=>exact lendIds_ok hm ab has (more q ⟨_,hb⟩) h o ho
    next=>cases h
   next=>cases h
  next=>cases h
 | .comp i j::r,acc,ρ,aa,h,o,ho=>by
  simp only [lendIds] at h
  have more:∀p,(∃mv,μ p=some mv)→∀o∈acc++ [p],∃mv,μ o=some mv:=fun p hp o ho=>by
   rcases xq.1 ho with ho|ho
   ·exact aa o ho
   ·rw [xt.1 ho];exact hp
  split at h
  next cs hp=>
   rw [nth_eq] at hp
   split at h
   next p hj=>exact lendIds_ok hm ab has (more p ((has _ (xn hp)).2.2 cs j p rfl hj)) h o ho
   next=>cases h
  next=>cases h
 | .cap i j::r,acc,ρ,aa,h,o,ho=>by
  simp only [lendIds] at h
  have more:∀p,(∃mv,μ p=some mv)→∀o∈acc++ [p],∃mv,μ o=some mv:=fun p hp o ho=>by
   rcases xq.1 ho with ho|ho
   ·exact aa o ho
   ·rw [xt.1 ho];exact hp
  split at h
  next f cs hp=>
   rw [nth_eq] at hp
   split at h
   next p hj=>exact lendIds_ok hm ab has (more p (ab _ (xn hp) f cs j p rfl hj)) h o ho
   next=>cases h
  next=>cases h
theorem namedF{v:AV}{x:Value}(h:RelV P w lo μ S v x):∀f cs j o,v=.fn f cs→nth cs j=some (.box o 0)→∃mv,μ o=some mv:=fun f cs j o e hj=>by
 cases h with
 |fn hl hv=>
  cases e
  have:=hv j _ hj
  generalize Array.getD _ j undef=z at this
  cases this with
  |box h=>exact⟨_,h⟩
 |_=>cases e
theorem named{v:AV}{x:Value}(h:RelV P w lo μ S v x):(∀o k,v=.box o k→∃mv,μ o=some mv)∧(∀o,v=.arr o→∃mv,μ o=some mv)∧∀cs j o,v=.agg cs→nth cs j=some (.arr o)→∃mv,μ o=some mv:=by
 cases h with
 |box h=>exact⟨fun o k e=>(by cases e;exact⟨_,h⟩),fun o e=>(by cases e),fun cs j o e=>(by cases e)⟩
 |arr h=>exact⟨fun o k e=>(by cases e),fun o e=>(by cases e;exact⟨_,h⟩),fun cs j o e=>(by cases e)⟩
 |agg hl hv=>exact⟨fun o k e=>(by cases e),fun o e=>(by cases e),fun cs j o e hj=>(by
   cases e
   have:=hv j _ hj
   generalize Array.getD _ j undef=z at this
   cases this with
   |arr h=>exact⟨_,h⟩)⟩
 |_=>exact⟨fun o k e=>(by cases e),fun o e=>(by cases e),fun cs j o e=>(by cases e)⟩
theorem lend_mem[Tabs](hm:Mem P X lo g μ w)(hn:ρ.Nodup)(hρ:∀o∈ρ,∃mv,μ o=some mv){Xc:Nat→Prop}(hX:∀b,Xc b→old w (lentM μ ρ) b)(hS:∀b,b<w.heap.size→SS X μ b→SS Xc (lentM μ ρ) b):
  Mem P Xc (old w (lentM μ ρ)) (look (insOf ρ g ρ 64)) (lentM μ ρ) w:=by
 have hL:=lend_ok hm hn
 refine⟨hX,fun b hb=>hb.1,fun i mv h=>?_,fun i j mv mv' b h1 h2 h3 h4=>?_,hm.tab.le hL.le⟩
 ·obtain⟨o,hi,ho⟩:=lentM_ix hn h
  obtain⟨y,hy,aa⟩:=hm.ob o mv ho
  obtain⟨k1,k2⟩:=ixOf_spec hi
  refine⟨extOb ρ g y,?_,?_⟩
  ·have:=insOf_look (ρ:=ρ) (k:=64) k2 hy
   rw [show 64+(i-64)=i by omega] at this
   exact this
  ·have ab:∀b,b∈mv.rs→¬old w (lentM μ ρ) b:=fun b hb aj=>aj.2 i mv h hb
   cases y with
   |arr e t l=>
    obtain⟨⟨ak,ae⟩,au,xs,af,ah⟩:=aa
    exact⟨⟨ak,ae⟩,fun b hb=>ab b (by rw [ae,hb];simp),xs,af,ah.step fun b hb hs=>⟨hS b hb hs,rfl⟩⟩
   |txt e l=>
    obtain⟨b,cap,cur,fr,rfl,h2,h3⟩:=aa
    exact⟨b,cap,cur,fr,rfl,ab b (by simp),h3⟩
   |rows e e2 t l hh=>
    obtain⟨hr,_⟩:=aa
    have ad:∀j,inRow (hh.map fun p=>(p.1,(none:Option Nat))) j→inRow hh j:=fun j hj i k hk=>by
     subst hk
     exact hj i none rfl
    have al:RowsOK w lo (SS X μ) e e2 t l (inRow (hh.map fun p=>(p.1,(none:Option Nat)))) mv mv.hs:=⟨hr.own,hr.top,hr.low,hr.slc,fun j x r hj hx hl=>hr.row j x r (ad j hj) hx hl,fun j k x y b hj hk=>hr.apart j k x y b (ad j hj) (ad k hk)⟩
    refine⟨al.step (fun b hb hs=>⟨hS b hb hs,rfl⟩) (fun _ _=>rfl) ab,fun i d hd=>?_⟩
    cases hh<;>simp at hd
   |deep e t l=>exact DeepOK.step aa (fun _ _=>rfl) ab
   |perm k e e2 t ix l=>exact PermOK.step aa (fun b hb hs=>⟨hS b hb hs,rfl⟩) (fun _ _=>rfl) ab
   |spent=>exact SpentOK.step aa (fun _ _=>rfl) ab
   |cells cs=>
    obtain⟨b,vs,e,rfl,h2,h3,h4,h5⟩:=aa
    refine⟨b,vs,e,rfl,ab b (by simp),h3,by simpa using h4,fun j u hu=>?_⟩
    rw [nth_eq,xr] at hu
    cases hc:cs[j]? with
    |none=>rw [hc] at hu;cases hu
    |some c=>
     rw [hc] at hu
     simp only [xy,xc] at hu
     subst hu
     exact extL_rel hm hL hS (h5 j c (by rw [nth_eq];exact hc))
 ·obtain⟨o,hi,ho⟩:=lentM_ix hn h1
  obtain⟨o',ai,ao⟩:=lentM_ix hn h2
  have:=hm.dis o o' mv mv' b ho ao h3 h4
  subst this
  rw [hi] at ai
  cases ai
  rfl
theorem acall_ok[Tabs](hE:EnvOK P E)(hm:Mem P X lo g μ w){d:Nat}{h:AV}{args:List AV}{q:QR×List (Nat×Ob)}(hq:(acall E g d h args).ev=some q)(ae:∀p∈q.1.2,μ p.1=none){c:Call}{H:Operand}
  (ho:o.op=.call c) (hc:c.callee=.value H) (hH:RelV P w lo μ (SS X μ) h (a.eval H)) (hl:args.length=c.args.size) (ha:∀j v,nth args j=some v→RelV P w lo μ (SS X μ) v ((c.args.map a.eval).getD j undef)):
  QOK P o a w (fun x w'=>∃μ',NxU P X lo g μ w (q.1.2++q.2) (rowIds g (q.1.2++q.2)) w' μ'∧RelV P w' lo μ' (SS X μ') q.1.1 x):=by
 have fin:∀ {f:Nat} {vals:Array Value} {R:Value→World→Prop},(execOp a.eval o).run P w=(callFunc f vals).run P w→CallR P f vals w R→(∀x w',R x w'→∃μ',NxU P X lo g μ w (q.1.2++q.2) (rowIds g (q.1.2++q.2)) w' μ'∧RelV P w' lo μ' (SS X μ') q.1.1 x)→
   QOK P o a w (fun x w'=>∃μ',NxU P X lo g μ w (q.1.2++q.2) (rowIds g (q.1.2++q.2)) w' μ'∧RelV P w' lo μ' (SS X μ') q.1.1 x):=by
  intro f vals R hex ab hR K Q hK
  unfold Oper.wp
  rcases ab with⟨h1,h2⟩|⟨x,w',h1,h2⟩
  ·rw [hex,h1]
   refine h2.mono fun e w' ⟨x,be,aa⟩=>?_
   subst be
   exact hK x w' (hR x w' aa)
  ·rw [hex,h1]
   exact hK x w' (hR x w' h2)
 unfold acall at hq
 split at hq
 ·rename_i f caps
  split at hq
  case h_2=>cases hq
  rename_i ρ af
  split at hq
  case isFalse=>cases hq
  rename_i ad
  simp only [xg,decide_eq_true_eq] at ad
  have hn:=ad.1.2
  split at hq
  next cr ab=>
   cases ah:a.eval H with
   |func fn first xs=>
    rw [ah] at hH
    cases hH with
    |fn bf hx=>
     simp only [Tr.ev_c] at hq
     cases ai:cr.x with
     |none=>rw [ai] at hq;cases hq
     |some r=>
      rw [ai] at hq
      simp only [xf] at hq
      rw [Tr.ev_bind,cr.spok r,xf] at hq
      obtain⟨ay,hq⟩:=ev_g hq
      simp only [Tr.ev_l,xc] at hq
      subst hq
      simp only [xg,xbl,xat] at ay
      obtain⟨bg,bh⟩:=ay
      have hρ:∀o∈ρ,∃mv,μ o=some mv:=lendIds_ok hm (fun v hv=>by
       obtain⟨j,hj,e⟩:=xbr hv
       exact namedF (ha j v (by rw [nth_eq,xh hj,e]))) (fun v hv=>by
       rcases xq.1 hv with hv|hv
       ·obtain⟨j,hj,e⟩:=xbr hv
        exact named (ha j v (by rw [nth_eq,xh hj,e]))
       ·obtain⟨j,hj,e⟩:=xbr hv
        exact named (hx j v (by rw [nth_eq,xh hj,e]))) (fun _ h=>by cases h) af
      have hL:=lend_ok hm hn
      -- what the result may not touch
      obtain⟨Xc,az,bj,bk,aj,ak⟩:∃Xc:Nat→Prop,(∀b,Xc b→X b∨∃o mv,μ o=some mv∧ixOf ρ o 64=none∧b∈mv.rs)∧(∀b,X b→Xc b)∧
        (((cr.emb r).1.any deep1||(cr.emb r).2.any fun p=>deepOb p.2)=false∨∀o mv b,μ o=some mv→ixOf ρ o 64=none→b∈mv.rs→Xc b)∧
        (∀v∈args,isArr ρ v=false∨∀o mv b,μ o=some mv→ixOf ρ o 64=none→b∈mv.rs→¬Xc b)∧(∀v∈caps,capArr ρ g v=false∨∀o mv b,μ o=some mv→ixOf ρ o 64=none→b∈mv.rs→¬Xc b):=by
       rcases bh with hb|hb
       ·simp only [xdf,xbn] at hb
        exact⟨fun b=>X b∨∃o mv,μ o=some mv∧ixOf ρ o 64=none∧b∈mv.rs,fun b h=>h,fun b h=>.inl h,.inr fun o mv b h1 h2 h3=>.inr ⟨o,mv,h1,h2,h3⟩,fun v hv=>.inl (by simpa using hb.1 v hv),fun v hv=>.inl (by simpa using hb.2 v hv)⟩
       ·refine⟨X,fun b h=>.inl h,fun b h=>h,.inl hb,fun v _=>.inr fun o mv b h1 _ h2 h3=>?_,fun v _=>.inr fun o mv b h1 _ h2 h3=>?_⟩
        ·exact(hm.lt h1 h2).1 (hm.hX b h3)
        ·exact(hm.lt h1 h2).1 (hm.hX b h3)
      have ba:∀b,Xc b→old w (lentM μ ρ) b:=fun b hb=>(az b hb).elim (fun h=>hL.le b (hm.hX b h)) fun⟨o,mv,h1,h2,h3⟩=>hL.rest o mv b h1 h2 h3
      have al:∀b,b<w.heap.size→SS X μ b→SS Xc (lentM μ ρ) b:=fun b hb hS=>⟨fun hx=>(az b hx).elim hS.1 fun⟨o,mv,h1,_,h2⟩=>hS.2 o mv h1 h2,fun i mv h ao=>by
       obtain⟨o',_,h'⟩:=lentM_ix hn h
       exact hS.2 o' mv h' ao⟩
      have hR:∀o mv b,μ o=some mv→ixOf ρ o 64=none→b∈mv.rs→¬Xc b→SS Xc (lentM μ ρ) b:=fun o mv b h1 h2 h3 h4=>⟨h4,fun i mv' h ao=>(hL.rest o mv b h1 h2 h3).2 i mv' h ao⟩
      have au:=hE f _ _ cr ab r ai w Xc (lentM μ ρ) (c.args.map a.eval++xs) ba (lend_mem hm hn hρ ba al)
       (fun p hp=>by
        obtain⟨j,o',h1,h2⟩:=insOf_mem hp
        rw [h2,lentM_of (ixOf_nth hn h1)]
        rw [nth_eq] at h1
        exact hρ o' (xn h1))
       (by simp [hl,bf])
       (fun j v hv=>by
        rw [nth_eq] at hv
        by_cases hj:j<args.length
        ·rw [xab (by simpa using hj),xr] at hv
         cases hu:args[j]? with
         |none=>rw [hu] at hv;cases hv
         |some u=>
          rw [hu] at hv
          simp only [xy,xc] at hv
          subst hv
          have:=extA_rel hm hL al ((aj u (xn hu)).imp id fun h o mv b h1 h2 h3=>hR o mv b h1 h2 h3 (h o mv b h1 h2 h3)) (ha j u (by rw [nth_eq];exact hu))
          have av:j<(c.args.map a.eval).size:=by simpa [←hl] using hj
          rwa [xl,xbh av,←xl]
        ·rw [xz (by simp;omega),xaw,xr] at hv
         cases hu:caps[j-args.length]? with
         |none=>rw [hu] at hv;cases hv
         |some u=>
          rw [hu] at hv
          simp only [xy,xc] at hv
          subst hv
          have:=extC2_rel (p:=false) hm hL al (fun e=>by cases e) ((ak u (xn hu)).imp id fun h o mv b h1 h2 h3=>hR o mv b h1 h2 h3 (h o mv b h1 h2 h3)) (hx _ u (by rw [nth_eq];exact hu))
          have av:(c.args.map a.eval).size≤j:=by simp [←hl];omega
          rwa [xl,xch av,←xl,show j-(c.args.map a.eval).size=j-args.length by simp [hl]])
      refine fin (f:=f) (vals:=c.args.map a.eval++xs) (by simp [execOp,ho,resolve,hc,ah,Deferred.ofValue,invoke]) au fun x w' aa=>?_
      exact adopt_ok hm hn bj bk bg aa ae hρ
   |_=>rw [ah] at hH;cases hH
  next=>cases hq
 ·rename_i ts r p
  split at hq
  case isFalse=>cases hq
  split at hq
  next bb bl=>
   simp only [Tr.ev_c] at hq
   cases hp:p bb with
   |none=>rw [hp] at hq;cases hq
   |some y=>
    rw [hp] at hq
    simp only [xf,Tr.ev_l,xc] at hq
    subst hq
    cases hH with
    |clo bc=>
     obtain⟨hs,f,fs,xs,he,bm⟩:=bc
     have hL:=lend_ok (ρ:=[]) hm (by simp)
     have bd:=hlOf_rel (P:=P) (w:=w) (lo:=old w (lentM μ [])) (μ:=lentM μ []) (S:=fun _=>True) bl (ys:=(c.args.map a.eval).toList) (by simp [hl]) (fun j v hv=>by
      rw [nth_eq,xr] at hv
      cases hu:args[j]? with
      |none=>rw [hu] at hv;cases hv
      |some u=>
       rw [hu] at hv
       simp only [xy,xc] at hv
       subst hv
       have:=ext1_rel (S':=fun _=>True) hm hL (fun _ _ _=>trivial) (.inr fun _ _ _ _ _ _=>trivial) (ha j u (by rw [nth_eq];exact hu))
       simpa using this)
     have ab:=bm w hm.hlo (fun _ _=>rfl) bb _ bd y hp
     simp only [xav] at ab
     refine fin (f:=f) (vals:=fs++c.args.map a.eval++xs) (by simp [execOp,ho,resolve,hc,he,Deferred.ofValue,invoke]) ab fun x w' ⟨aa,hb⟩=>?_
     refine NxU.of (q:=(inj r y,[])) hm (fun p hp=>by cases hp) ⟨μ,fun _ _ h=>h,fun _ _ h=>.inl h,hb,fun g' _ h2=>?_,?_⟩
     ·have hw:=Mem.grow (X:=X) (μ:=μ) hb (μ':=μ) fun _ _ h=>.inl h
      exact⟨hm.hX,fun b aw=>xan (hm.hlo b aw) hb.size,fun o mv ho=>by
       obtain⟨z,hz,bn⟩:=hm.ob o mv ho
       exact⟨z,by rw [h2 o mv ho];exact hz,bn.step hm.hlo (fun _ _ h=>h) hw (fun b bo=>hb.block b (hm.hlo b bo)) fun b bp=>hb.block b (hm.lt ho bp).2⟩,hm.dis,hm.tab.step fun b aw=>hb.block b (hm.hlo b aw)⟩
     ·simp only
      rw [inj_one hs]
      exact .dat hs (aa.step fun b _ hb=>⟨⟨fun hx=>absurd (hm.hlo b (hm.hX b hx)) (by omega),fun o mv ho br=>absurd (hm.lt ho br).2 (by omega)⟩,rfl⟩)
  next=>cases hq
 ·cases hq
end
end Go.Proofs.YteiekijgoifhoaaGreatDoor
