/- A part of the proof that FnReplay hands back true, at every argument of the row. -/
import Derived.Test.YtjiljcblmgeioaaGreatDoorB10
import Derived.ChangeKeysEq
import Derived.Laws.BytesString
import Derived.Lib.ConvBytes
import Derived.Laws.StructEq
import Derived.Laws.OwnMore
namespace Go.Proofs.YtjiljcblmgeioaaGreatDoor
set_option linter.all false
section
open Go.RowKit (Below)
section
variable {P:Program}{tt:Nat->TD}{w:World}{lo:Nat->Prop}{μ:Nat->Option MV}{S:Nat->Prop}{X:Nat->Prop}{g:Nat->Option Ob}{o:Oper}{a:Act}{E:Env}{ρ:List Nat}
theorem Qp:∀{t:Ty} {v:t.I} {x:Value},t.size=1->Rep S w t v [x]->x.cells= #[x]
 | .int k,_,_,_,hr=>by simp[Rep]at hr;subst hr;rfl
 | .bool,_,_,_,hr=>by simp[Rep]at hr;subst hr;rfl
 | .str,_,_,_,hr=>by simp[Rep]at hr;subst hr;rfl
 | .slice t,_,_,_,hr=>by simp only[Rep]at hr;obtain⟨a,cap,e,_⟩:=hr;simp at e;subst e;rfl
 | .pair a b,_,_,ht,_=>by have:=a.size_pos;have:=b.size_pos;simp only[Ty.size]at ht;omega
theorem nB[Tabs]{t:Ty}{v:AV}{x:t.I}(h:Wd t v=some x){y:Value}(hr:RelV P w lo μ S v y):Rep S w t x [y]/\y.cells= #[y]:=by
 unfold Wd at h;split at h
 ·obtain⟨e,rfl⟩:=Ty.cast_spec h;subst e;refine⟨by cases hr with|dat _ hr=>exact hr,?_⟩;cases hr with
  |dat ht hr=>exact Qp ht hr
 ·split at h;·cases h;cases hr;exact⟨Rep.nil,rfl⟩
  ·cases h
 ·cases h
theorem FM[Tabs]{t:Ty}{v:AV}{x:t.I}(h:YT t v=some x){y:Value}(hr:RelV P w lo μ S v y):Rep S w t x y.cells.toList/\(t.size=1->y.cells= #[y])/\(t.size≠1->∃cs,y=.agg cs):=by
 unfold YT at h;split at h
 ·split at h;·cases h
  next hs=>
   cases hr with
   |agg hl hv=>exact⟨kM h (by simpa[Value.cells]using hl.symm) (by simpa[Value.cells]using hv),λe=>absurd e hs,λ_=>⟨_,rfl⟩⟩
 ·split at h
  next hs=>
   obtain⟨h1,h2⟩:=nB h hr;exact⟨by rw[h2];exact h1,λ_=>h2,λe=>absurd hs e⟩
  ·cases h
theorem Eg[Tabs]:∀{ts:List Ty} {vs:List AV} {h:HL ts},Tk ts vs=some h->∀{ys:List Value},vs.length=ys.length->(∀j v,aQ vs j=some v->RelV P w lo μ S v (ys.getD j undef))->Hs w ts h ys
 | [],[],_,_,ys,hl,_=>by simpa[Hs]using hl.symm
 | [],_::_,_,h,ys,hl,_=>by simp[Tk]at h
 |_::_,[],_,h,ys,hl,_=>by simp[Tk]at h
 |t::ts,v::vs,h,hh,[],hl,_=>by simp at hl
 |t::ts,v::vs,h,hh,y::ys,hl,hv=>by
  simp only[Tk]at hh;split at hh
  next x r h1 h2=>
   cases hh;obtain⟨h3,h4,h5⟩:=FM h1 (hv 0 v rfl);exact⟨y,ys,rfl,h3.step λb _ _=>⟨trivial,rfl⟩,h4,h5,Eg h2 (by simpa using hl) λj v hj=>hv (j+1) v hj⟩
  next=>cases hh
theorem Mm{t:Ty}(ht:t.size=1)(x:t.I):inj t x=.dat t x:=by
 cases t with
 |pair a b=>have:=a.size_pos;have:=b.size_pos;simp only[Ty.size]at ht;omega
 |_=>rfl
theorem P4[Tabs](hm:Mem P X lo g μ w)(hn:ρ.Nodup):LendOK X lo μ w ρ (eE w (eK μ ρ)) (eK μ ρ) where
 mi:=λo i mv hi ho=>by rw[A3 hi];exact ho
 le:=λb hb=>⟨hm.hlo b hb,λo mv h aa=>by obtain⟨o',_,h'⟩:=dR hn h;exact(hm.lt h' aa).1 hb⟩
 rest:=λo mv b h hi hb=>⟨(hm.lt h hb).2,λi mv' h' ad=>by obtain⟨o',ab,ae⟩:=dR hn h';have:=hm.dis o o' mv mv' b h ae hb ad;subst this;rw[hi]at ab;cases ab⟩
 dat:=λb hb hS=>⟨hb,λi mv h aa=>by obtain⟨o',_,h'⟩:=dR hn h;exact hS.2 o' mv h' aa⟩
theorem z9:∀{r:List Nat} {k j o:Nat} {x:Ob},aQ r j=some o->g o=some x->aM (kC g r k) (k+j)=some (Yp x)
 | [],_,_,_,_,h,_=>by simp[aQ]at h
 |y::r,k,0,o,x,h,hg=>by simp only[aQ,xe]at h;subst h;simp only[kC,hg,aM,zL];simp
 |y::r,k,j+1,o,x,h,hg=>by
  simp only[aQ]at h;have ih:=z9 (k:=k+1) h hg;rw[show k+(j+1)=k+1+j by omega];simp only[kC];cases hy:g y with
  |none=>exact ih
  |some z=>
   simp only[aM];have:Nat.beq k (k+1+j)=false:=by
    cases hb:Nat.beq k (k+1+j)with
    |true=>have:=xg hb;omega
    |false=>rfl
   rw[this];exact ih
theorem wB:∀{r:List Nat} {k:Nat} {p:Nat×Ob},p∈kC g r k->∃j o,aQ r j=some o/\p.1=k+j
 | [],_,_,h=>by simp[kC]at h
 |y::r,k,p,h=>by
  simp only[kC]at h;split at h
  next x hx=>
   rcases xae.1 h with rfl|h;·exact⟨0,y,rfl,rfl⟩
   ·obtain⟨j,o,h1,h2⟩:=wB h;exact⟨j+1,o,h1,by omega⟩
  next=>
   obtain⟨j,o,h1,h2⟩:=wB h;exact⟨j+1,o,h1,by omega⟩
theorem fV[Tabs](hm:Mem P X lo g μ w){fs as:List AV}(ab:∀v∈fs,∀f cs j o,v=.fn f cs->aQ cs j=some (.box o 0)->∃mv,μ o=some mv)(has:∀v∈as,(∀o k,v=.box o k->∃mv,μ o=some mv)/\(∀o,v=.arr o->∃mv,μ o=some mv)/\∀cs j o,v=.agg cs->aQ cs j=some (.arr o)->∃mv,μ o=some mv):∀{l:List LP} {acc ρ:List Nat},(∀o∈acc,∃mv,μ o=some mv)->bW g fs as l acc=some ρ->∀o∈ρ,∃mv,μ o=some mv
 | [],acc,ρ,aa,h,o,ho=>by simp only[bW,xe]at h;subst h;exact aa o ho
 | .arg i::r,acc,ρ,aa,h,o,ho=>by
  simp only[bW]at h;have more:∀p,(∃mv,μ p=some mv)->∀o∈acc++ [p],∃mv,μ o=some mv:=λp hp o ho=>by
   rcases xp.1 ho with ho|ho;·exact aa o ho
   ·rw[xo.1 ho];exact hp
  split at h
  next p hp=>
   rw[aA]at hp;exact fV hm ab has (more p ((has _ (xz hp)).1 p 0 rfl)) h o ho
  next p hp=>
   rw[aA]at hp;exact fV hm ab has (more p ((has _ (xz hp)).2.1 p rfl)) h o ho
  next=>cases h
 | .cell j k::r,acc,ρ,aa,h,o,ho=>by
  simp only[bW]at h;have more:∀p,(∃mv,μ p=some mv)->∀o∈acc++ [p],∃mv,μ o=some mv:=λp hp o ho=>by
   rcases xp.1 ho with ho|ho;·exact aa o ho
   ·rw[xo.1 ho];exact hp
  split at h
  next p hp=>
   rw[aA]at hp;obtain⟨mv,hmv⟩:=aa p (xz hp);split at h
   next cs hg=>
    obtain⟨y,hy,ad⟩:=hm.ob _ _ hmv;rw[hg]at hy;cases hy;obtain⟨b,vs,e,_,_,_,_,hv⟩:=ad;split at h
    next q hq=>
     have:=hv k _ hq;generalize vs.getD k undef=z at this;cases this with
     |box hb=>exact fV hm ab has (more q ⟨_,hb⟩) h o ho
    next q hq=>
     have:=hv k _ hq;generalize vs.getD k undef=z at this;cases this with
     |arr hb=>exact fV hm ab has (more q ⟨_,hb⟩) h o ho
    next=>cases h
   next=>cases h
  next=>cases h
 | .comp i j::r,acc,ρ,aa,h,o,ho=>by
  simp only[bW]at h;have more:∀p,(∃mv,μ p=some mv)->∀o∈acc++ [p],∃mv,μ o=some mv:=λp hp o ho=>by
   rcases xp.1 ho with ho|ho;·exact aa o ho
   ·rw[xo.1 ho];exact hp
  split at h
  next cs hp=>
   rw[aA]at hp;split at h
   next p hj=>exact fV hm ab has (more p ((has _ (xz hp)).2.2 cs j p rfl hj)) h o ho
   next=>cases h
  next=>cases h
 | .cap i j::r,acc,ρ,aa,h,o,ho=>by
  simp only[bW]at h;have more:∀p,(∃mv,μ p=some mv)->∀o∈acc++ [p],∃mv,μ o=some mv:=λp hp o ho=>by
   rcases xp.1 ho with ho|ho;·exact aa o ho
   ·rw[xo.1 ho];exact hp
  split at h
  next f cs hp=>
   rw[aA]at hp;split at h
   next p hj=>exact fV hm ab has (more p (ab _ (xz hp) f cs j p rfl hj)) h o ho
   next=>cases h
  next=>cases h
theorem aDL{v:AV}{x:Value}(h:RelV P w lo μ S v x):∀f cs j o,v=.fn f cs->aQ cs j=some (.box o 0)->∃mv,μ o=some mv:=λf cs j o e hj=>by
 cases h with
 |fn hl hv=>
  cases e;have:=hv j _ hj;generalize Array.getD _ j undef=z at this;cases this with
  |box h=>exact⟨_,h⟩
 |_=>cases e
theorem named{v:AV}{x:Value}(h:RelV P w lo μ S v x):(∀o k,v=.box o k->∃mv,μ o=some mv)/\(∀o,v=.arr o->∃mv,μ o=some mv)/\∀cs j o,v=.agg cs->aQ cs j=some (.arr o)->∃mv,μ o=some mv:=by
 cases h with
 |box h=>exact⟨λo k e=>(by cases e;exact⟨_,h⟩),λo e=>(by cases e),λcs j o e=>(by cases e)⟩
 |arr h=>exact⟨λo k e=>(by cases e),λo e=>(by cases e;exact⟨_,h⟩),λcs j o e=>(by cases e)⟩
 |agg hl hv=>exact⟨λo k e=>(by cases e),λo e=>(by cases e),λcs j o e hj=>(by
   cases e;have:=hv j _ hj;generalize Array.getD _ j undef=z at this;cases this with
   |arr h=>exact⟨_,h⟩)⟩
 |_=>exact⟨λo k e=>(by cases e),λo e=>(by cases e),λcs j o e=>(by cases e)⟩
theorem CH[Tabs](hm:Mem P X lo g μ w)(hn:ρ.Nodup)(hρ:∀o∈ρ,∃mv,μ o=some mv){Xc:Nat->Prop}(hX:∀b,Xc b->eE w (eK μ ρ) b)(hS:∀b,b<w.heap.size->SS X μ b->SS Xc (eK μ ρ) b):
  Mem P Xc (eE w (eK μ ρ)) (aM (kC g ρ 64)) (eK μ ρ) w:=by
 have hL:=P4 hm hn;refine⟨hX,λb hb=>hb.1,λi mv h=>?_,λi j mv mv' b h1 h2 h3 h4=>?_,hm.tab.le hL.le⟩
 ·obtain⟨o,hi,ho⟩:=dR hn h;obtain⟨y,hy,aa⟩:=hm.ob o mv ho;obtain⟨k1,k2⟩:=eR hi;refine⟨Yp y,?_,?_⟩;·have:=z9 (k:=64) k2 hy;rw[show 64+(i-64)=i by omega]at this;exact this
  ·have ab:∀b,b∈mv.rs->¬eE w (eK μ ρ) b:=λb hb aj=>aj.2 i mv h hb;cases y with
   |arr e t l=>obtain⟨⟨ak,ae⟩,ar,xs,af,ah⟩:=aa;exact⟨⟨ak,ae⟩,λb hb=>ab b (by rw[ae,hb];simp),xs,af,ah.step λb hb hs=>⟨hS b hb hs,rfl⟩⟩
   |rows e e2 t l hh=>
    obtain⟨hr,_⟩:=aa;have ad:∀j,dU (hh.map λp=>(p.1,(none:Option Nat))) j->dU hh j:=λj hj i k hk=>by subst hk;exact hj i none rfl
    have al:RowsOK w lo (SS X μ) e e2 t l (dU (hh.map λp=>(p.1,(none:Option Nat)))) mv mv.hs:=⟨hr.own,hr.top,hr.low,hr.slc,λj x r hj hx hl=>hr.row j x r (ad j hj) hx hl,λj k x y b hj hk=>hr.apart j k x y b (ad j hj) (ad k hk)⟩
    refine⟨al.step (λb hb hs=>⟨hS b hb hs,rfl⟩) (λ_ _=>rfl) ab,λi d hd=>?_⟩;cases hh<;>simp at hd
   |perm k e e2 t ix l=>exact PermOK.step aa (λb hb hs=>⟨hS b hb hs,rfl⟩) (λ_ _=>rfl) ab
   |spent=>exact SpentOK.step aa (λ_ _=>rfl) ab
   |cells cs=>
    obtain⟨b,vs,e,rfl,h2,h3,h4,h5⟩:=aa;refine⟨b,vs,e,rfl,ab b (by simp),h3,by simpa using h4,λj u hu=>?_⟩;rw[aA,oE]at hu;cases hc:cs[j]? with
    |none=>rw[hc]at hu;cases hu
    |some c=>rw[hc]at hu;simp only[oG,xe]at hu;subst hu;exact Yh hm hL hS (h5 j c (by rw[aA];exact hc))
 ·obtain⟨o,hi,ho⟩:=dR hn h1;obtain⟨o',ai,ao⟩:=dR hn h2;have:=hm.dis o o' mv mv' b ho ao h3 h4;subst this;rw[hi]at ai;cases ai;rfl
theorem DN[Tabs](hE:jG P E)(hm:Mem P X lo g μ w){d:Nat}{h:AV}{args:List AV}{q:QR×List (Nat×Ob)}(hq:(pK E g d h args).ev=some q)(ae:∀p∈q.1.2,μ p.1=none){c:Call}{H:Operand}
  (ho:o.op=.call c) (hc:c.callee=.value H) (hH:RelV P w lo μ (SS X μ) h (a.eval H)) (hl:args.length=c.args.size) (ha:∀j v,aQ args j=some v->RelV P w lo μ (SS X μ) v ((c.args.map a.eval).getD j undef)):
  QOK P o a w (λx w'=>∃μ',NxU P X lo g μ w (q.1.2++q.2) (cT g (q.1.2++q.2)) w' μ'/\RelV P w' lo μ' (SS X μ') q.1.1 x):=by
 have fin:∀{f:Nat} {vals:Array Value} {R:Value->World->Prop},(execOp a.eval o).run P w=(callFunc f vals).run P w->CallR P f vals w R->(∀x w',R x w'->∃μ',NxU P X lo g μ w (q.1.2++q.2) (cT g (q.1.2++q.2)) w' μ'/\RelV P w' lo μ' (SS X μ') q.1.1 x)->
   QOK P o a w (λx w'=>∃μ',NxU P X lo g μ w (q.1.2++q.2) (cT g (q.1.2++q.2)) w' μ'/\RelV P w' lo μ' (SS X μ') q.1.1 x):=by
  intro f vals R hex ab hR K Q hK;unfold Oper.wp;rcases ab with⟨h1,h2⟩|⟨x,w',h1,h2⟩
  ·rw[hex,h1];refine h2.mono λe w' ⟨x,bd,aa⟩=>?_;subst bd;exact hK x w' (hR x w' aa)
  ·rw[hex,h1];exact hK x w' (hR x w' h2)
 unfold pK at hq;split at hq
 ·rename_i f caps
  split at hq
  case h_2=>cases hq
  rename_i ρ af
  split at hq
  case isFalse=>cases hq
  rename_i ad
  simp only[xf,qe]at ad;have hn:=ad.1.2;split at hq
  next cr ab=>
   cases ah:a.eval H with
   |func fn first xs=>
    rw[ah]at hH;cases hH with
    |fn be hx=>
     simp only[qn]at hq;cases ai:cr.x with
     |none=>rw[ai]at hq;cases hq
     |some r=>
      rw[ai]at hq;simp only[xc]at hq;rw[Tr.ev_bind,cr.spok r,xc]at hq;obtain⟨aw,hq⟩:=ev_g hq;simp only[qq,xe]at hq;subst hq;simp only[xf,Z7,D9]at aw;obtain⟨bf,bg⟩:=aw;have hρ:∀o∈ρ,∃mv,μ o=some mv:=fV hm (λv hv=>by
       obtain⟨j,hj,e⟩:=JK hv;exact aDL (ha j v (by rw[aA,xh hj,e]))) (λv hv=>by
       rcases xp.1 hv with hv|hv;·obtain⟨j,hj,e⟩:=JK hv;exact named (ha j v (by rw[aA,xh hj,e]))
       ·obtain⟨j,hj,e⟩:=JK hv;exact named (hx j v (by rw[aA,xh hj,e]))) (λ_ h=>by cases h) af
      have hL:=P4 hm hn
      -- what the result may not touch
      obtain⟨Xc,ay,bh,bj,aj,ak⟩:∃Xc:Nat->Prop,(∀b,Xc b->X b\/∃o mv,μ o=some mv/\cW ρ o 64=none/\b∈mv.rs)/\(∀b,X b->Xc b)/\
        (((cr.emb r).1.any O7||(cr.emb r).2.any λp=>oK p.2)=false\/∀o mv b,μ o=some mv->cW ρ o 64=none->b∈mv.rs->Xc b)/\
        (∀v∈args,O6 ρ v=false\/∀o mv b,μ o=some mv->cW ρ o 64=none->b∈mv.rs->¬Xc b)/\(∀v∈caps,nM ρ g v=false\/∀o mv b,μ o=some mv->cW ρ o 64=none->b∈mv.rs->¬Xc b):=by
       rcases bg with hb|hb;·simp only[xcy,Wm]at hb;exact⟨λb=>X b\/∃o mv,μ o=some mv/\cW ρ o 64=none/\b∈mv.rs,λb h=>h,λb h=>.inl h,.inr λo mv b h1 h2 h3=>.inr ⟨o,mv,h1,h2,h3⟩,λv hv=>.inl (by simpa using hb.1 v hv),λv hv=>.inl (by simpa using hb.2 v hv)⟩
       ·refine⟨X,λb h=>.inl h,λb h=>h,.inl hb,λv _=>.inr λo mv b h1 _ h2 h3=>?_,λv _=>.inr λo mv b h1 _ h2 h3=>?_⟩;·exact(hm.lt h1 h2).1 (hm.hX b h3)
        ·exact(hm.lt h1 h2).1 (hm.hX b h3)
      have az:∀b,Xc b->eE w (eK μ ρ) b:=λb hb=>(ay b hb).elim (λh=>hL.le b (hm.hX b h)) λ⟨o,mv,h1,h2,h3⟩=>hL.rest o mv b h1 h2 h3;have al:∀b,b<w.heap.size->SS X μ b->SS Xc (eK μ ρ) b:=λb hb hS=>⟨λhx=>(ay b hx).elim hS.1 λ⟨o,mv,h1,_,h2⟩=>hS.2 o mv h1 h2,λi mv h ao=>by obtain⟨o',_,h'⟩:=dR hn h;exact hS.2 o' mv h' ao⟩
      have hR:∀o mv b,μ o=some mv->cW ρ o 64=none->b∈mv.rs->¬Xc b->SS Xc (eK μ ρ) b:=λo mv b h1 h2 h3 h4=>⟨h4,λi mv' h ao=>(hL.rest o mv b h1 h2 h3).2 i mv' h ao⟩
      have ar:=hE f _ _ cr ab r ai w Xc (eK μ ρ) (c.args.map a.eval++xs) az (CH hm hn hρ az al)
       (λp hp=>by obtain⟨j,o',h1,h2⟩:=wB hp;rw[h2,A3 (lC hn h1)];rw[aA]at h1;exact hρ o' (xz h1))
       (by simp[hl,be])
       (λj v hv=>by
        rw[aA]at hv;by_cases hj:j<args.length
        ·rw[y7 (by simpa using hj),oE]at hv;cases hu:args[j]? with
         |none=>rw[hu]at hv;cases hv
         |some u=>
          rw[hu]at hv;simp only[oG,xe]at hv;subst hv;have:=DQ hm hL al ((aj u (xz hu)).imp id λh o mv b h1 h2 h3=>hR o mv b h1 h2 h3 (h o mv b h1 h2 h3)) (ha j u (by rw[aA];exact hu));have au:j<(c.args.map a.eval).size:=by simpa[<-hl]using hj
          rwa [xn,KJ au,<-xn]
        ·rw[C6 (by simp;omega),Gi,oE]at hv;cases hu:caps[j-args.length]? with
         |none=>rw[hu]at hv;cases hv
         |some u=>
          rw[hu]at hv;simp only[oG,xe]at hv;subst hv;have:=Al hm hL al ((ak u (xz hu)).imp id λh o mv b h1 h2 h3=>hR o mv b h1 h2 h3 (h o mv b h1 h2 h3)) (hx _ u (by rw[aA];exact hu));have au:(c.args.map a.eval).size<=j:=by simp[<-hl];omega
          rwa [xn,xda au,<-xn,show j-(c.args.map a.eval).size=j-args.length by simp[hl]])
      refine fin (f:=f) (vals:=c.args.map a.eval++xs) (by simp[execOp,ho,resolve,hc,ah,Deferred.ofValue,invoke]) ar λx w' aa=>?_;exact Zw hm hn bh bj bf aa ae hρ
   |_=>rw[ah]at hH;cases hH
  next=>cases hq
 ·rename_i ts r p
  split at hq
  case isFalse=>cases hq
  split at hq
  next ba bk=>
   simp only[qn]at hq;cases hp:p ba with
   |none=>rw[hp]at hq;cases hq
   |some y=>
    rw[hp]at hq;simp only[xc,qq,xe]at hq;subst hq;cases hH with
    |clo bb=>
     obtain⟨hs,f,fs,xs,he,bl⟩:=bb;have hL:=P4 (ρ:=[]) hm (by simp);have bc:=Eg (P:=P) (w:=w) (lo:=eE w (eK μ [])) (μ:=eK μ []) (S:=λ_=>True) bk (ys:=(c.args.map a.eval).toList) (by simp[hl]) (λj v hv=>by
      rw[aA,oE]at hv;cases hu:args[j]? with
      |none=>rw[hu]at hv;cases hv
      |some u=>rw[hu]at hv;simp only[oG,xe]at hv;subst hv;have:=Dk (S':=λ_=>True) hm hL (λ_ _ _=>trivial) (.inr λ_ _ _ _ _ _=>trivial) (ha j u (by rw[aA];exact hu));simpa using this)
     have ab:=bl w hm.hlo (λ_ _=>rfl) ba _ bc y hp;simp only[Uk]at ab;refine fin (f:=f) (vals:=fs++c.args.map a.eval++xs) (by simp[execOp,ho,resolve,hc,he,Deferred.ofValue,invoke]) ab λx w' ⟨aa,hb⟩=>?_;refine NxU.of (q:=(inj r y,[])) hm (λp hp=>by cases hp) ⟨μ,λ_ _ h=>h,λ_ _ h=>.inl h,hb,λg' _ h2=>?_,?_⟩;·have hw:=Mem.grow (X:=X) (μ:=μ) hb (μ':=μ) λ_ _ h=>.inl h;exact⟨hm.hX,λb av=>yF (hm.hlo b av) hb.size,λo mv ho=>by obtain⟨z,hz,bm⟩:=hm.ob o mv ho;exact⟨z,by rw[h2 o mv ho];exact hz,bm.step hm.hlo (λ_ _ h=>h) hw (λb bn=>hb.block b (hm.hlo b bn)) λb bo=>hb.block b (hm.lt ho bo).2⟩,hm.dis,hm.tab.step λb av=>hb.block b (hm.hlo b av)⟩
     ·simp only;rw[Mm hs];exact .dat hs (aa.step λb _ hb=>⟨⟨λhx=>absurd (hm.hlo b (hm.hX b hx)) (by omega),λo mv ho bp=>absurd (hm.lt ho bp).2 (by omega)⟩,rfl⟩)
  next=>cases hq
 ·cases hq
end
end
section
open Go.RowKit (Below)
section
variable {P:Program}{tt:Nat->TD}{w:World}{lo:Nat->Prop}{μ:Nat->Option MV}{S:Nat->Prop}{X:Nat->Prop}{g:Nat->Option Ob}{o:Oper}{a:Act}{E:Env}
theorem rZ(hT:aW P tt){ty i ft off:Nat}(h:vA tt ty i=some (ft,off)):∃fields f,P.underlying ty=some (.struct fields)/\fields[i]? =some f/\f.type=ft/\f.offset=off/\∃t,tA P ft t:=by
 have hd:=hT ty;unfold vA at h;split at h
 next t fs he=>
  rw[he]at hd;obtain⟨fields,hu,hf,_⟩:=hd;have key:∀(fl:List Go.Field) (fs:List (Nat×Ty)) (o i:Nat),oX P fl fs o->hJ fs o i=some (ft,off)->∃f,fl[i]? =some f/\f.type=ft/\f.offset=off/\∃t,tA P ft t:=by
   intro fl;induction fl with
   |nil=>
    intro fs o i hf h;cases fs with
    |nil=>simp[hJ]at h
    |cons _ _=>exact hf.elim
   |cons f fl ih=>
    intro fs o i hf h;cases fs with
    |nil=>exact hf.elim
    |cons p fs=>
     obtain⟨aa,t'⟩:=p;obtain⟨h1,h2,h3,h4⟩:=hf;cases i with
     |zero=>simp[hJ]at h;exact⟨f,rfl,by rw[h1,h.1],by rw[h2,h.2],t',by rw[<-h.1];exact h3⟩
     |succ i=>simp only[hJ]at h;obtain⟨f',h5,h6⟩:=ih fs _ i h4 h;exact⟨f',by simpa using h5,h6⟩
  obtain⟨f,h1,h2,h3,h4⟩:=key _ _ _ _ hf h;exact⟨fields,f,hu,by simpa using h1,h2,h3,h4⟩
 next=>cases h
theorem aDK{op:UnOp}{x:AV}{q:QR}(h:(aun op x).ev=some q){vx:Value}(hx:RelV P w lo μ S x vx):q.2=[]/\∃v,(Op.unary op vx).run P w=.ok v w/\RelV P w lo μ S q.1 v:=by
 unfold aun at h;split at h
 ·have:=hx.bool;subst this;cases op
  case not=>have:=xF h;subst this;exact⟨rfl,_,by simp[Op.unary],fD _⟩
  all_goals cases h
 ·have:=hx.int;subst this;cases op
  case neg=>have:=lP h;subst this;exact⟨rfl,_,by simp[Op.unary,Op.intArith],dQ _ _⟩
  all_goals cases h
 ·cases h
theorem uP[Tabs](hm:Mem P X lo g μ w){t:Ty}{x:AV}{src:List t.I}(h:oB g t x=some src){vx:Value}(hx:RelV P w lo μ (SS X μ) x vx):
  ∃ax c news,vx=.slice ax src.length c/\RepL (SS X μ) w t src news/\(ax=none->src.length=0)/\∀ad,ax=some ad->∀j u,news[j]? =some u->w.cell? (ad.add j)=some u:=by
 unfold oB at h;split at h
 ·obtain⟨e,he⟩:=Ty.cast_spec h;cases e;have he:src=_:=he;subst he;obtain⟨ax,c,rfl,hr⟩:=hx.slice;cases ax with
  |none=>
   have hl:List.length src=0:=by
    cases src with
    |nil=>rfl
    |cons y ys=>simp only[Rep]at hr;obtain⟨a',cp,e,_,hi⟩:=hr;obtain⟨_,_,_,e2,_⟩:=hi 0 y rfl;simp only[Np,Value.slice.injEq,ql]at e;rw[e2]at e;cases e.1
   have:src=[]:=C9 hl;subst this;exact⟨none,c,[],rfl,rfl,λ_=>rfl,λ_ e=>by cases e⟩
  |some ad=>
   cases src with
   |nil=>exact⟨some ad,c,[],rfl,rfl,λe=>by(cases e),λ_ _ j u hu=>by simp at hu⟩
   |cons y ys=>have ae:=hr;simp only[Rep]at hr;obtain⟨a',cp,e,_,hi⟩:=hr;obtain⟨b,off,_,e2,_⟩:=hi 0 y rfl;simp only[Np,Value.slice.injEq,ql]at e;rw[e2]at e;obtain⟨e1,_,_⟩:=e;cases e1;obtain⟨news,h1,h2⟩:=RepL.of_slice ae;exact⟨_,c,news,rfl,h1,λe=>by(cases e),λah e j u hu=>by cases e;rw[Addr.add_lit];exact h2 j u hu⟩
 ·cases h;cases hx;exact⟨none,0,[],rfl,rfl,λ_=>rfl,λ_ e=>by cases e⟩
 ·rename_i o
  split at h
  next e t' l hg=>
   obtain⟨e',he⟩:=Ty.cast_spec h;cases e';have he:src=_:=he;subst he;cases hx with
   |arr hμ=>
    obtain⟨y,hy,af⟩:=hm.ob _ _ hμ;rw[hg]at hy;cases hy;obtain⟨⟨ai,aj⟩,ak,xs,aa,ab⟩:=af;rcases aa.2 with⟨e1,e2⟩|⟨gb,cap,cur,e1,_⟩
    ·cases e1;have:src=[]:=C9 e2;subst this;exact⟨none,0,[],rfl,rfl,λ_=>rfl,λ_ e=>by cases e⟩
    ·cases e1;exact⟨_,_,xs,rfl,ab,λe=>by(cases e),λad e j u hu=>by cases e;exact aa.cells (g:=gb) rfl j u hu⟩
  next=>cases h
 ·cases h
theorem L2:∀(ns:List Int) (s:ByteArray),ns.foldl (λr n=>r.push (UInt8.ofNat n.toNat)) s=⟨s.data++(lR ns).toArray⟩
 | [],s=>by cases s;simp[lR]
 |n::ns,s=>by rw[Z5,L2 ns];cases s;simp[lR,ByteArray.push]
theorem De[Tabs]{k:IntKind}:∀{l:List Int} {cs:List Value},RepL S w (.int k) l cs->cs=l.map (Value.int k)
 | [],_,h=>by simpa[RepL]using h
 |x::l,_,⟨c,r,e,h1,h2⟩=>by subst e;have:=De h2;subst this;simp only[Rep]at h1;subst h1;rfl
theorem AA[Tabs](hT:aW P tt)(hm:Mem P X lo g μ w){s d:Nat}{x:AV}{q:QR}(h:(I2 tt g s d x).ev=some q){vx:Value}(hx:RelV P w lo μ (SS X μ) x vx):q.2=[]/\∃v,(convert s d vx).run P w=.ok v w/\RelV P w lo μ (SS X μ) q.1 v:=by
 unfold I2 at h;split at h
 ·have:=hx.int;subst this;split at h
  next k1 k2 hs hd=>
   have h1:=hT s;have h2:=hT d;rw[hs]at h1;rw[hd]at h2;obtain⟨d1,e1,u1,_⟩:=h1;obtain⟨d2,e2,u2,_⟩:=h2;simp only[F5,xe]at e1 e2;subst e1;subst e2;have:=lP h;subst this;exact⟨rfl,_,by simp[convert,run_underlying u1,run_underlying u2,Conv.intToInt],dQ _ _⟩
  next=>cases h
 ·split at h
  next l e _ _ ae hs hd=>
   split at h
   next he=>
    have:=cU h;subst this;have h1:=hT s;have h2:=hT d;have h3:=hT e;rw[hs]at h1;rw[hd]at h2;rw[he]at h3;obtain⟨u1,_⟩:=h1;obtain⟨d2,e2,u2,_⟩:=h2;obtain⟨d3,e3,u3,_⟩:=h3;simp only[F5,xe]at e2 e3;subst e2;subst e3;obtain⟨ax,c,news,rfl,hr,hn,hc⟩:=uP hm ae hx;refine⟨rfl,.string ⟨(lR l).toArray⟩,?_,yY _⟩;rw[run_convert_bytes_string w s d e ax _ c u1 u3 u2];cases ax with
    |none=>have:l=[]:=C9 (hn rfl);subst this;rfl
    |some ad=>have ab:=De hr;subst ab;have aa:=run_loadCells_list (P:=P) w ad (l.map (Value.int .u8)) (hc ad rfl);rw[Gi]at aa;rw[run_bytesToString w ad _ c l aa,L2];have e0:ByteArray.empty.data= #[]:=rfl;rw[e0,Array.empty_append]
   next=>cases h
  next=>cases h
theorem rN{ty e:Nat}(hu:P.underlying ty=some (.slice e))(a:Option Addr)(n c:Nat)(w:World):(Op.equalIn 10000 ty (.slice a n c) (.slice none 0 0)).run P w=.ok a.isNone w:=by rw[show(10000:Nat)=9999+1 from rfl,Op.equalIn.eq_def];cases a<;>simp[run_underlying hu]
theorem Ja{ty e:Nat}(hu:P.underlying ty=some (.slice e))(neq:Bool){b:Bool}{a:Option Addr}{n c:Nat}(hb:(bif neq then !a.isNone else a.isNone)=b)(X Y:Operand):
  (do eqGuard (bif neq then .neq else .eql) ty X Y (.slice a n c) (.slice none 0 0);binOp (bif neq then .neq else .eql) ty (.slice a n c) (.slice none 0 0):Sem Value).run P w=.ok (.bool b) w:=by
 subst hb;have h1:∀op,(eqGuard op ty X Y (.slice a n c) (.slice none 0 0)).run P w=.ok () w:=λop=>by unfold eqGuard;cases op<;>rfl
 cases neq with
 |false=>rw[qb,qb,Sem.run_bind,h1,Result.andThen_ok];simp only[binOp,Op.equal,Op.maxDepth,Sem.run_bind,rN hu,Result.andThen_ok,Sem.run_pure]
 |true=>rw[qa,qa,Sem.run_bind,h1,Result.andThen_ok];simp only[binOp,Op.equal,Op.maxDepth,Sem.run_bind,rN hu,Result.andThen_ok,Sem.run_pure]
theorem Ai[Tabs](hm:Mem P X lo g μ w){ty e:Nat}(hu:P.underlying ty=some (.slice e))(neq:Bool){x:AV}{q:QR}(h:(r7 neq g x).ev=some q){vx:Value}(hx:RelV P w lo μ (SS X μ) x vx)(X' Y':Operand):
  q.2=[]/\∃v,(do eqGuard (bif neq then .neq else .eql) ty X' Y' vx (.slice none 0 0);binOp (bif neq then .neq else .eql) ty vx (.slice none 0 0):Sem Value).run P w=.ok v w/\RelV P w lo μ (SS X μ) q.1 v:=by
 unfold r7 at h;split at h
 ·have:=xF h;subst this;cases hx with|nilsl=>exact⟨rfl,_,Ja hu neq (by cases neq<;>rfl) X' Y',fD _⟩
 ·rename_i t l
  obtain⟨h0,h⟩:=ev_g h;have:=xF h;subst this;obtain⟨a,cap,rfl,aa⟩:=hx.slice;simp only[Rep]at aa;obtain⟨a',ab,ea,_,ae⟩:=aa;simp only[Np,Value.slice.injEq,ql]at ea;obtain⟨rfl,_,rfl⟩:=ea;have hl:0<l.length:=by simpa using h0
  obtain⟨y,hy⟩:∃y,l[0]? =some y:=⟨_,xh hl⟩
  obtain⟨b,off,c',ha,_⟩:=ae 0 y hy;subst ha;exact⟨rfl,_,Ja hu neq (by cases neq<;>rfl) X' Y',fD _⟩
 ·split at h
  next o e' t l hg=>
   obtain⟨h0,h⟩:=ev_g h;have:=xF h;subst this;have hl:0<l.length:=by simpa using h0
   cases hx with
   |arr hμ=>
    obtain⟨y,hy,af⟩:=hm.ob _ _ hμ;rw[hg]at hy;cases hy;obtain⟨_,_,xs,ad,aa⟩:=af;rcases ad.2 with⟨e1,e2⟩|⟨b,ab,cur,ev,_⟩
    ·omega
    ·simp only[Value.slice.injEq]at ev;obtain⟨rfl,rfl,rfl⟩:=ev;exact⟨rfl,_,Ja hu neq (by cases neq<;>rfl) X' Y',fD _⟩
  next=>cases h
 ·cases h
theorem FA[Tabs](hT:aW P tt)(hm:Mem P X lo g μ w){op:BinOp}{ty:Nat}{x y:AV}{q:QR}(h:(I4 tt g op ty x y).ev=some q){vx vy:Value}(hx:RelV P w lo μ (SS X μ) x vx)(hy:RelV P w lo μ (SS X μ) y vy)(X' Y':Operand):
  q.2=[]/\∃v,(do eqGuard op ty X' Y' vx vy;binOp op ty vx vy:Sem Value).run P w=.ok v w/\RelV P w lo μ (SS X μ) q.1 v:=by
 unfold I4 at h;split at h
 next e t b aa=>
  have hd:=hT ty;rw[aa]at hd;cases hy with
  |nilsl=>exact Ai hm hd.1 false h hx X' Y'
 next e t b aa=>
  have hd:=hT ty;rw[aa]at hd;cases hy with
  |nilsl=>exact Ai hm hd.1 true h hx X' Y'
 next=>exact OU hT h hx hy X' Y'
theorem IS[Tabs]{o i s0:Nat}{a0:Option Addr}{c:Nat}{ty e0 b sz:Nat}{t0:Ty}{xs:List Value}{len:Nat}{k:IntKind}{n:Int}{rs:List Nat}{hs:List Value}{e1:Nat}(hT:aW P tt)(ad:tt ty=.sl e0 t0 b)(ae:t0.size=sz)(hμ:μ o=some ⟨.slice a0 c s0,rs,hs⟩)(aa:w.ownsRow 0 e1 sz (.slice a0 c s0) len xs)(hi:i=n.toNat)
  (h0:(0:Int)<=n) (h1:n<=(len:Int)):∃v,(Instr.sliceAt ty (.slice a0 c s0) (some (.int k n)) none none).run P w=.ok v w/\RelV P w lo μ S (.suf o i sz) v:=by
 subst hi;have ab:=hT ty;rw[ad]at ab;obtain⟨hu,⟨i,z,g1,g2,g3,g4,g5⟩,_⟩:=ab;have af:c=len/\len<=s0/\(n.toNat=len\/∃gb,a0=some ⟨gb,0,none⟩):=by
  rcases aa.2 with⟨ev,ah⟩|⟨gb,cap,cur,ev,k1,k2,k3,_⟩
  ·cases ev;exact⟨ah.symm,by omega,.inl (by omega)⟩
  ·simp only[Value.slice.injEq]at ev;obtain⟨rfl,rfl,rfl⟩:=ev;exact⟨rfl,k3,.inr ⟨gb,rfl⟩⟩
 obtain⟨rfl,hle,hb⟩:=af;obtain⟨_,_,z3⟩:=TM (P:=P) (w:=w) (len:=c) (cap:=s0) k n h0 h1 true;refine⟨.slice (if s0=n.toNat then a0 else a0.map (·.add (n.toNat*sz))) (c-n.toNat) (s0-n.toNat),?_,.suf hμ ⟨by omega,rfl⟩ ?_⟩;·simp[Instr.sliceAt,Instr.slice,run_underlying hu,z3,sizeOf,typeInfo,g1,g2,ae]
 ·by_cases e:n.toNat=c;·exact .inl e
  ·rcases hb with hb|⟨gb,rfl⟩
   ·exact absurd hb e
   ·exact .inr ⟨gb,rfl,by rw[qh (by omega)];simp[Addr.add_lit]⟩
theorem aEG[Tabs]{o s0:Nat}{a0:Option Addr}{c:Nat}{ty e0 b sz:Nat}{t0:Ty}{xs:List Value}{len:Nat}{k:IntKind}{n:Int}{rs:List Nat}{hs:List Value}{e1:Nat}(hT:aW P tt)(ad:tt ty=.sl e0 t0 b)(ae:t0.size=sz)(hμ:μ o=some ⟨.slice a0 c s0,rs,hs⟩)(aa:w.ownsRow 0 e1 sz (.slice a0 c s0) len xs)
  (h0:(0:Int)<=n) (h1:n<=(len:Int)):∃v,(Instr.sliceAt ty (.slice a0 c s0) none (some (.int k n)) none).run P w=.ok v w/\RelV P w lo μ S (.pre o n.toNat) v:=by
 have ab:=hT ty;rw[ad]at ab;obtain⟨hu,⟨i,z,g1,g2,g3,g4,g5⟩,_⟩:=ab;rcases aa.2 with⟨ev,af⟩|⟨gb,cap,cur,ev,k1,k2,k3,_⟩
 ·cases ev;have hn:n.toNat=0:=by omega
  obtain⟨_,_,z3⟩:=Bg (P:=P) (w:=w) (len:=0) (cap:=0) (xm 0) k n h0 (by omega) true;refine⟨.slice none n.toNat 0,?_,.pre hμ (by omega)⟩;simp[Instr.sliceAt,Instr.slice,run_underlying hu,z3,sizeOf,typeInfo,g1,g2]
 ·simp only[Value.slice.injEq]at ev;obtain⟨rfl,rfl,rfl⟩:=ev;obtain⟨_,_,z3⟩:=Bg (P:=P) (w:=w) (len:=c) (cap:=s0) k3 k n h0 h1 true;refine⟨.slice (some ⟨gb,0,none⟩) n.toNat s0,?_,.pre hμ (by omega)⟩;simp only[Instr.sliceAt,Instr.slice,Sem.run_bind,run_underlying hu,Result.andThen_ok,z3,sizeOf,typeInfo,g1,Sem.run_pure,xfd,Nat.sub_zero];by_cases e:s0=0;·simp[e,g1]
  ·simp[e,g1,Addr.add_lit]
theorem Hk[Tabs](hT:aW P tt)(hm:Mem P X lo g μ w){ty:Nat}{x:AV}{lo' ad:Option AV}{q:QR}(h:(qB tt g ty x lo' ad).ev=some q){vx:Value}{vl vh:Option Value}(hx:RelV P w lo μ (SS X μ) x vx)
  (hl:ORel P w lo μ (SS X μ) lo' vl) (hh:ORel P w lo μ (SS X μ) ad vh):
  q.2=[]/\∃v,(Instr.sliceAt ty vx vl vh none).run P w=.ok v w/\RelV P w lo μ (SS X μ) q.1 v:=by
 unfold qB at h;split at h
 ·rename_i o k n
  split at h
  next e0 t0 b e e2 t l aa hg=>
   split at h
   next hc=>
    obtain⟨hb,h⟩:=ev_g h;simp only[xf,qe]at hb;have:=cU h;subst this;cases hl;cases hh with
    |some hh=>
     have e1:=hh.int;subst e1;cases hx with
     | @arr _ _ a0 n0 c0 rs hs hμ=>obtain⟨y,hy,ab⟩:=hm.ob _ _ hμ;rw[hg]at hy;cases hy;obtain⟨v,h1,h2⟩:=aEG (P:=P) (w:=w) (lo:=lo) (S:=SS X μ) (k:=k) hT aa hc hμ ab.1.own hb.1 hb.2;exact⟨rfl,v,h1,h2⟩
   next=>cases h
  next=>cases h
 ·rename_i o k n
  split at h
  next e0 t0 b e e2 t l aa hg=>
   split at h
   next hc=>
    obtain⟨hb,h⟩:=ev_g h;simp only[xf,qe]at hb;have:=cU h;subst this;cases hh;cases hl with
    |some hl=>
     have e1:=hl.int;subst e1;cases hx with
     | @arr _ _ a0 n0 c0 rs hs hμ=>obtain⟨y,hy,ab⟩:=hm.ob _ _ hμ;rw[hg]at hy;cases hy;obtain⟨v,h1,h2⟩:=IS (P:=P) (w:=w) (lo:=lo) (S:=SS X μ) (k:=k) hT aa hc hμ ab.1.own rfl hb.1 hb.2;exact⟨rfl,v,h1,h2⟩
   next=>cases h
  next=>cases h
 ·exact Ud hT h hx hl hh
theorem g9{mx:Bool}{vs:List AV}{q:QR}(h:(zI mx vs).ev=some q){ys:Array Value}(hl:vs.length=ys.size)(hv:∀j v,aQ vs j=some v->RelV P w lo μ S v (ys.getD j undef))(ts:Array TypeId)(t:TypeId):
  q.2=[]/\∃v,(if mx then Builtin.max_ ts t ys else Builtin.min_ ts t ys).run P w=.ok v w/\RelV P w lo μ S q.1 v:=by
 unfold zI at h;split at h
 ·rename_i k x k' y
  split at h
  next hk=>
   subst hk;have:=lP h;subst this;have h0:=(hv 0 _ rfl).int;have h1:=(hv 1 _ rfl).int;obtain⟨ys⟩:=ys
   match ys,hl with
   | [u,v],_=>simp at h0 h1;subst h0;subst h1;refine⟨rfl,_,?_,dQ _ _⟩;cases mx<;>simp[Builtin.max_,Builtin.min_,Builtin.max2,Builtin.min2]
  next=>cases h
 ·cases h
theorem Vo[Tabs](hT:aW P tt){ty:Nat}{cs:List AV}(h:Kp tt ty=some cs):∃z:Value,(zeroValue ty).run P w=.ok z w/\AllR P w lo μ S cs z.cells:=by
 have hd:=hT ty;unfold Kp at h;split at h<;>rename_i he<;>rw[he]at hd;·cases h;obtain⟨_,_,_,hi⟩:=hd;obtain⟨z,h1,_,h3⟩:=kZ (w:=w) hi;exact⟨z,h1,f7 h3⟩
 ·cases h;obtain⟨_,_,i,h1,h2,h3⟩:=hd;refine⟨.slice none 0 0,by simp[zeroValue,typeInfo,h1,h3],rfl,λj v hv=>?_⟩
  match j,hv with
  |0,hv=>simp[aQ]at hv;subst hv;exact .nilsl
 ·cases h;obtain⟨_,_,_,_,hi⟩:=hd;obtain⟨z,h1,_,h3⟩:=kZ (w:=w) hi;exact⟨z,h1,f7 h3⟩
 ·cases h
theorem bN{fr:Nat->AV}(h:∀i,RelV P w lo μ S (fr i) (a.tmps.getD i undef))(x:Operand):RelV P w lo μ S (iY fr x) (a.eval x):=by
 cases x with
 |tmp t=>exact h t
 |const v=>
  simp only[iY,Act.eval];unfold aKQ;split;·exact fD _
  ·exact dQ _ _
  ·rename_i s
   have:=yY (P:=P) (w:=w) (lo:=lo) (μ:=μ) (S:=S) s.data.toList;have e:(⟨s.data.toList.toArray⟩:ByteArray)=s:=by cases s;simp
   rwa [e]at this
  ·exact .nilsl
  ·exact .undef
 |global _=>exact .undef
 |func f=>exact .fn rfl λj v hv=>by simp[aQ]at hv
theorem QOK.pure[Tabs](hm:Mem P X lo g μ w){s:Sem Value}(he:(execOp a.eval o).run P w=(do pure (.value (<-s)):Sem Next).run P w){q:QR}(h:q.2=[]/\∃v,s.run P w=.ok v w/\RelV P w lo μ (SS X μ) q.1 v):
  QOK P o a w (Nx P X lo g μ w q):=by
 obtain⟨r,objs⟩:=q;obtain⟨h1,v,h2,h3⟩:=h;simp only at h1;subst h1;exact QOK.val (by rw[he];simp[h2]) (Nx.pure hm h3)
theorem pZ(a:Act){f:Operand->AV}(hf:∀x,RelV P w lo μ S (f x) (a.eval x))(as:Array Operand):(as.toList.map f).length=(as.map a.eval).size/\∀j v,aQ (as.toList.map f) j=some v->RelV P w lo μ S v ((as.map a.eval).getD j undef):=by
 refine⟨by simp,λj v hv=>?_⟩;rw[aA,oE]at hv;cases hj:as.toList[j]? with
 |none=>rw[hj]at hv;cases hv
 |some x=>
  rw[hj]at hv;simp at hv;subst hv;have aa:as[j]? =some x:=by simpa using hj
  simpa[aa]using hf x
theorem wA(a:Act){f:Operand->AV}(hf:∀x,RelV P w lo μ S (f x) (a.eval x))(ps:Array (Nat×Operand)):(ps.map λ(i,x)=>(i,a.eval x)).toList.map (·.1)=(ps.toList.map λp=>(p.1,f p.2)).map (·.1)/\
  ∀(j:Nat) (p:Nat×AV),(ps.toList.map λp=>(p.1,f p.2))[j]? =some p->∃q:Nat×Value,(ps.map λ(i,x)=>(i,a.eval x)).toList[j]? =some q/\RelV P w lo μ S p.2 q.2:=by
 refine⟨by simp[Function.comp_def],λj p hp=>?_⟩;rw[oE]at hp;cases hj:ps.toList[j]? with
 |none=>rw[hj]at hp;cases hp
 |some x=>
  rw[hj]at hp;simp at hp;subst hp;have aa:ps[j]? =some x:=by simpa using hj
  exact⟨(x.1,a.eval x.2),by simp[aa],hf x.2⟩
theorem rF[Tabs](hm:Mem P X lo g μ w){d e e2:Nat}(hd:μ d=none){t:Ty}{l:List (List t.I)}{h:Option (Nat×Option Nat)}{cur:Array Value}{cap:Nat}(hs:cur.size=cap)(hle:l.length<=cap)(ad:cap<=maxLen)
  (ae:∀x∈cur.toList.take l.length,∃a n c,x=.slice a n c) (aa:∀(j:Nat) x r,dU h j->(cur.toList.take l.length)[j]? =some x->l[j]? =some r->x=.slice none 0 0/\r=[])
  (ab:∀i p,h=some (i,some p)->∃x rs hs,(cur.toList.take l.length)[i]? =some x/\μ p=some ⟨x,rs,hs⟩):
  Nx P X lo g μ w (.arr d,[(d,.rows e e2 t l h)]) (.slice (some ⟨w.heap.size,0,none⟩) l.length cap) (w.alloc (.cells cur e)):=by
 have hb:Below w.heap.size w (w.alloc (.cells cur e)):=(Below.refl _ _).alloc (xm _) _;refine Nx.made hm hb (mv:=⟨.slice (some ⟨w.heap.size,0,none⟩) l.length cap,[w.heap.size],cur.toList.take l.length⟩) hd rfl (λμ' hμ hS=>?_) λμ' h=>.arr h;have hlen:(cur.toList.take l.length).length=l.length:=by rw[xw];simp[hs];omega
 refine⟨⟨⟨by rw[hlen];omega,.inr ⟨w.heap.size,cap,cur,rfl,V1 _,heap_alloc_new w _,hle,ad,by omega,by rw[uE]⟩⟩,λb hb=>by simpa[aD]using hb.symm,λb af=>?_,ae,λj x r hj hx hl=>?_,λj k x y b hj hk hx hy ah aj=>?_⟩,λi p hi=>?_⟩;·simp only[xo]at af;subst af;exact⟨λhl=>xi _ (hm.hlo _ hl),by simp⟩
 ·obtain⟨rfl,rfl⟩:=aa j x r hj hx hl;exact⟨λb hb=>by simp[aD]at hb,[],World.ownsRow_nil _ 0 e2 t.size,rfl⟩
 ·have ai:j<l.length:=by have:=(xq.1 hx).1;simp only at this;omega
  obtain⟨rfl,_⟩:=aa j x _ hj hx (xh ai);simp[aD]at ah
 ·obtain⟨x,rs,hs,h1,h2⟩:=ab i p hi;exact⟨x,rs,hs,h1,hμ p _ h2⟩
theorem Ca[Tabs](hT:aW P tt)(hm:Mem P X lo g μ w){d ty p e:Nat}{te:Ty}{b:Nat}(hd:μ d=none)(aj:tt ty=.sl e te b)(ad:te.size=1){qs:Array (Nat×Value)}(hq:qs.toList.map (·.1)=[0])
  (hr:∃q:Nat×Value,qs.toList[0]? =some q/\RelV P w lo μ (SS X μ) (.arr p) q.2) {e2:Nat} {t:Ty}:
  ∃v w',(Instr.buildSlice ty 1 qs).run P w=.ok v w'/\Nx P X lo g μ w (.arr d,[(d,.rows e e2 t [[]] (some (0,some p)))]) v w':=by
 have ae:=hT ty;rw[aj]at ae;obtain⟨hu,⟨i,z,h1,h2,h3,h4,h5⟩,_⟩:=ae;obtain⟨q,aa,af⟩:=hr;have ah:qs= #[q]:=by
  apply xhi;have hl:=congrArg List.length hq;simp only[Gi,xk,xy]at hl
  match ak:qs.toList,hl with
  | [y],_=>rw[ak]at aa;simp at aa;subst aa;rfl
 have ai:q.1=0:=by rw[ah]at hq;simpa using hq
 subst ah;obtain⟨q0,x⟩:=q;simp only at ai af;subst ai;cases af with
 | @arr _ _ a0 n0 c0 rp al ao=>
  have hx:=rF (e:=e) (e2:=e2) hm (d:=d) (t:=t) (l:=[[]]) (h:=some (0,some p)) (cur:= #[.slice a0 n0 c0]) (cap:=1) hd rfl (xm _) (by unfold maxLen;omega)
   (λx hx=>by simp at hx;exact⟨_,_,_,hx⟩) (λj x r hj hx hl=>by
    have ar:j≠0:=hj 0 (some p) rfl;cases j with
    |zero=>exact absurd rfl ar
    |succ j=>simp at hl) (λi p' hi=>by cases hi;exact⟨_,rp,al,rfl,ao⟩)
  refine⟨_,_,?_,hx⟩;have au:i.size=1:=h2.trans ad;have av:z.cells.size=1:=by have:=eU h5;simpa[ad]using this
  have ab:Instr.fill (λi=>some (i,1)) (Array.map (λx=>z.cells[x % z.cells.size]!) (Array.range 1)) [(0,Value.slice a0 n0 c0)]=some #[Value.slice a0 n0 c0]:=by
   have key:∀(A:Array Value) (v:Value),A.size=1->A.setIfInBounds 0 v= #[v]:=λA v h=>by
    obtain⟨l⟩:=A
    match l,h with
    | [y],_=>rfl
   simp[Instr.fill,Value.cells];exact key _ _ (by simp)
  simp[Instr.buildSlice,run_underlying hu,sizeOf,typeInfo,zeroValue,h1,au,h4,ab,newRow]
theorem Jo[Tabs](hT:aW P tt)(hm:Mem P X lo g μ w){d ty n:Nat}{ps:List (Nat×AV)}{q:QR}(h:(rA tt g d ty n ps).ev=some q)(aa:∀p∈q.2,μ p.1=none){qs:Array (Nat×Value)}(hq:qs.toList.map (·.1)=ps.map (·.1))
  (hr:∀(j:Nat) (p:Nat×AV),ps[j]? =some p->∃q:Nat×Value,qs.toList[j]? =some q/\RelV P w lo μ (SS X μ) p.2 q.2):
  ∃v w',(Instr.buildSlice ty n qs).run P w=.ok v w'/\Nx P X lo g μ w q v w':=by
 unfold rA at h;split at h
 ·rename_i e te b p ab
  split at h
  next e2 t b2 e3 t3 lp ae af=>
   split at h
   next hc=>
    simp only[qq,xe]at h;subst h;exact Ca hT hm (aa (d,_) xu) ab hc.1 hq (hr 0 _ rfl)
   next=>cases h
  next=>cases h
 ·have ad:μ d=none:=by
   have h':=h;unfold mA at h';split at h'
   ·split at h';·obtain⟨_,_,h'⟩:=dE h';obtain⟨_,_,h'⟩:=dE h';simp only[qq,xe]at h';subst h';exact aa (d,_) (xu)
    ·cases h'
   ·cases h'
  exact a8 hT hm ad h hq hr
theorem aKa[Tabs](hT:aW P tt)(hm:Mem P X lo g μ w){f:Operand->AV}(hf:∀x,RelV P w lo μ (SS X μ) (f x) (a.eval x)){q:QR}(h:(aq tt g f o).ev=some q)(aa:∀p∈q.2,μ p.1=none):
  QOK P o a w (Nx P X lo g μ w q):=by
 unfold aq at h;split at h
 ·rename_i x _ ho _
  have:=cU h;subst this;exact QOK.val (by simp[execOp,ho]) (Nx.pure hm (hf x))
 ·rename_i x _ ho _
  have:=cU h;subst this;exact QOK.val (by simp[execOp,ho]) (Nx.pure hm (hf x))
 ·rename_i c x y _ ho _
  unfold TJ at h;split at h
  next b hc=>
   have hb:a.eval c=.bool b:=by have:=hf c;rw[hc]at this;exact this.bool
   cases b;·have:=cU (by simpa using h);subst this;exact QOK.val (x:=a.eval y) (by simp[execOp,ho,hb,asBool]) (Nx.pure hm (hf y))
   ·have:=cU (by simpa using h);subst this;exact QOK.val (x:=a.eval x) (by simp[execOp,ho,hb,asBool]) (Nx.pure hm (hf x))
  next=>cases h
 ·rename_i op ty x y _ _ ho _
  exact QOK.pure hm (by simp only[execOp,ho]) (FA hT hm h (hf x) (hf y) x y)
 ·rename_i op _ x _ ho _
  exact QOK.pure hm (by simp only[execOp,ho]) (aDK h (hf x))
 ·rename_i s d x dst ho _
  exact QOK.pure hm (by simp only[execOp,ho]) (AA hT hm h (hf x))
 ·rename_i e x d ho hd
  obtain⟨cs,hc,h⟩:=dE h;simp only[qq,xe]at h;subst h;obtain⟨h1,h2⟩:=lO (hf x) hc;exact QOK.val (by simp[execOp,ho,Instr.box,newVar,newRow]) (Xm (e:=e) hm (aa (d,.cells cs) (by simp)) h1 h2)
 ·rename_i e d ho hd
  obtain⟨cs,hc,h⟩:=dE h;simp only[qq,xe]at h;subst h;obtain⟨z,hz,h1,h2⟩:=Vo (P:=P) (w:=w) (lo:=lo) (μ:=μ) (S:=SS X μ) hT hc;exact QOK.val (by simp[execOp,ho,Instr.alloc,hz,newVar,newRow]) (Xm (e:=e) hm (aa (d,.cells cs) (by simp)) h1 h2)
 ·rename_i ty x _ ho _
  exact QOK.pure hm (by simp only[execOp,ho]) (BE hT hm h (hf x))
 ·rename_i x _ ho _
  split at h
  next o' k hx=>
   have:=cU h;subst this;have hr:=hf x;rw[hx]at hr;have h0:=hr;generalize hv:a.eval x=v at hr h0;cases hr with
   |box hμ=>exact QOK.val (by simp[execOp,ho,hv]) (Nx.pure hm h0)
  next cs hx=>
   have:=cU h;subst this;have hr:=hf x;rw[hx]at hr;have h0:=hr;generalize hv:a.eval x=v at hr h0;cases hr with
   |ptr xs h1 h2 h3 h4=>exact QOK.val (by simp[execOp,ho,hv]) (Nx.pure hm h0)
  next=>cases h
 ·rename_i ty x i _ ho _
  unfold yX at h;split at h
  next o' k hx=>
   split at h
   next ft off ad=>
    have:=cU h;subst this;obtain⟨fields,fl,hu,h1,h2,h3,ti,ae⟩:=rZ hT ad;obtain⟨_,_,ab,_⟩:=kZ (w:=w) ae;have ah:=ti.size_pos;have hr:=hf x;rw[hx]at hr;generalize hv:a.eval x=v at hr;cases hr with
    | @box _ _ b _ _ _ hμ=>refine QOK.val (x:=.pointer (some ⟨b,k+off,none⟩)) ?_ (Nx.pure hm (.box hμ));simp[execOp,ho,hv,Instr.fieldAt,run_underlying hu,h1,Instr.sureAddr,fieldPlace,h2,h3,ab,show ti.size≠0 by omega,Addr.add_lit]
   next=>cases h
  next cs hx=>
   split at h
   next ft off ad=>
    split at h
    next ai=>
     have:=cU h;subst this;obtain⟨fields,fl,hu,h1,h2,h3,ti,ae⟩:=rZ hT ad;obtain⟨_,_,ab,_⟩:=kZ (w:=w) ae;have ah:=ti.size_pos;have hr:=hf x;rw[hx]at hr;generalize hv:a.eval x=v at hr;cases hr with
     | @ptr _ _ b k xs av hb al aj=>
      refine QOK.val (x:=.pointer (some ⟨b,k+off,none⟩)) ?_ (Nx.pure hm (.ptr (λj=>xs (off+j)) ?_ hb (λj v hj=>?_) λj v hj=>?_));·simp[execOp,ho,hv,Instr.fieldAt,run_underlying hu,h1,Instr.sureAddr,fieldPlace,h2,h3,ab,show ti.size≠0 by omega,Addr.add_lit]
      ·intro e;have:=congrArg List.length e;simp at this;omega
      ·rw[aA,yJ,<-aA]at hj;rw[US];exact al _ _ hj
      ·rw[aA,yJ,<-aA]at hj;exact aj _ _ hj
    next=>cases h
   next=>cases h
  next o' j z hx=>
   split at h
   next ft off ad=>
    have:=cU h;subst this;obtain⟨fields,fl,hu,h1,h2,h3,ti,ae⟩:=rZ hT ad;obtain⟨_,_,ab,_⟩:=kZ (w:=w) ae;have ah:=ti.size_pos;have hr:=hf x;rw[hx]at hr;generalize hv:a.eval x=v at hr;cases hr with
    | @elt _ _ _ _ b _ _ _ _ hμ=>refine QOK.val (x:=.pointer (some ⟨b,j*z+off,none⟩)) ?_ (Nx.pure hm (.fld hμ));simp[execOp,ho,hv,Instr.fieldAt,run_underlying hu,h1,Instr.sureAddr,fieldPlace,h2,h3,ab,show ti.size≠0 by omega,Addr.add_lit]
   next=>cases h
  next=>cases h
 ·rename_i ty x i _ ho _
  exact QOK.pure hm (by simp only[execOp,ho]) (Pe hT hm h (hf x) (hf i))
 ·rename_i ty x i _ ho _
  exact QOK.pure hm (by simp only[execOp,ho]) (Gu hT h (hf x) (hf i))
 ·rename_i x i _ ho _
  split at h
  next vs hx=>
   obtain⟨v,hc,h⟩:=dE h;have:=cU h;subst this;have hr:=hf x;rw[hx]at hr;generalize hv:a.eval x=vx at hr;cases hr with
   | @tup _ _ xs hl aj=>
    have ai:i<xs.size:=by rw[<-hl];rw[aA]at hc;exact(xq.1 hc).1
    have:=aj i v hc;refine QOK.val (x:=xs[i]) (by simp[execOp,ho,hv,Instr.extract,ai]) (Nx.pure hm (by simpa[ai]using this))
  next=>cases h
 ·rename_i ty x l r _ ho _
  have hO:∀y:Option Operand,ORel P w lo μ (SS X μ) (y.map f) (y.map a.eval):=λy=>by
   cases y with
   |none=>exact .none
   |some y=>exact .some (hf y)
  exact QOK.pure hm (by simp only[execOp,ho,xew]) (Hk hT hm h (hf x) (hO l) (hO r))
 ·rename_i ty ps _ ho _
  obtain⟨h1,h2⟩:=wA a hf ps;exact QOK.pure hm (by simp only[execOp,ho]) (Pw hT h h1 h2)
 ·rename_i ty n ps d ho hd
  obtain⟨h1,h2⟩:=wA a hf ps;obtain⟨v,w',h3,h4⟩:=Jo hT hm h aa h1 h2;exact QOK.val (x:=v) (w':=w') (by simp only[execOp,ho];simp[h3]) h4
 ·rename_i ty l c d ho hd
  have ao:μ d=none:=by
   have h':=h;unfold Mv at h';split at h'
   ·split at h'
    ·obtain⟨_,h'⟩:=ev_g h';split at h';·simp only[qq,xe]at h';subst h';exact aa (d,_) (xu)
     ·cases h'
    ·cases h'
   ·cases h'
  obtain⟨v,w',h3,h4⟩:=Zd hT hm ao h (hf l) (hf c);exact QOK.val (x:=v) (w':=w') (by simp only[execOp,ho];simp[h3]) h4
 ·rename_i k first caps _ ho _
  split at h
  next h0=>
   have:=cU h;subst this;have af:first= #[]:=xfo h0
   obtain⟨h1,h2⟩:=pZ a hf caps;refine QOK.val (x:=.func (.func k) #[] (caps.map a.eval)) (by simp[execOp,ho,Instr.makeFunc,af]) (Nx.pure hm (.fn h1 λj v hj=>?_));exact(h2 j v hj).step (λ_ _ h=>h) hm.hlo (λb _ hS=>⟨.inl hS,rfl⟩) λ_ _=>rfl
  next h0=>
   split at h
   next ar=>
    have:=cU h;subst this;have ak:caps= #[]:=xfo ar;obtain⟨h1,h2⟩:=pZ a hf first
    refine QOK.val (x:=.func (.func k) (first.map a.eval) #[]) (by simp[execOp,ho,Instr.makeFunc,ak]) (Nx.pure hm (.bnd (by simp) λj v hj=>?_));have e:(first.toList.map λx=>Fd (f x))=(first.toList.map f).map Fd:=by simp
    rw[e,aA,oE]at hj;cases hu:(first.toList.map f)[j]? with
    |none=>rw[hu]at hj;cases hj
    |some u=>rw[hu]at hj;simp only[oG,xe]at hj;subst hj;exact j8 (λ_ _ h=>h) (h2 j u (by rw[aA];exact hu))
   next=>cases h
 ·rename_i as ts _ ho _
  split at h
  next x ty has au=>
   have e1:as= #[x]:=by rw[<-Uk (xs:=as),has]
   have e2:ts= #[ty]:=by rw[<-Uk (xs:=ts),au]
   refine QOK.pure hm (s:=Builtin.len_ #[ty] o.type #[a.eval x]) ?_ (OR hT hm h (hf x));simp[execOp,ho,e1,e2,resolve,invoke,builtin]
  next=>cases h
 ·rename_i as ts _ ho _
  obtain⟨h1,h2⟩:=pZ a hf as;refine QOK.pure hm (s:=Builtin.min_ ts o.type (as.map a.eval)) ?_ (g9 h h1 h2 ts o.type);simp[execOp,ho,resolve,invoke,builtin]
 ·rename_i as ts _ ho _
  obtain⟨h1,h2⟩:=pZ a hf as;refine QOK.pure hm (s:=Builtin.max_ ts o.type (as.map a.eval)) ?_ (g9 h h1 h2 ts o.type);simp[execOp,ho,resolve,invoke,builtin]
 ·cases h
end
end
section
open Go.RowKit (Below)
structure Par where
 n:Nat
 k:List Nat
 v:Nat->Value
def Par.has(N:Par)(d:Nat):Prop:=d∉N.k/\d<N.n
structure SzOK(N:Par)(a:Act):Prop where
 n:a.tmps.size=N.n
 v:∀i,i∈N.k->a.tmps.getD i undef=N.v i
theorem SzOK.put{N:Par}{a:Act}(h:SzOK N a){d:Nat}(hd:N.has d){x:Value}:SzOK N (a.put (some d) x):=
 ⟨by simp[Act.put,h.n],λi hi=>by have e:d≠i:=λe=>hd.1 (e▸hi);have:=h.v i hi;simp only[Act.put];simpa[xdh e]using this⟩
structure RelF[Tabs](P:Program)(X:Nat->Prop)(lo:Nat->Prop)(N:Par)(w0:World)(sl:Nat->AV)(g:Nat->Option Ob)(a:Act)(w:World)(μ:Nat->Option MV):Prop where
 mem:Mem P X lo g μ w
 fr:∀i,RelV P w lo μ (SS X μ) (sl i) (a.tmps.getD i undef)
 bel:Kept lo w0 w
 df:a.defers=[]
 sz:SzOK N a
abbrev Rel[Tabs](P:Program)(X:Nat->Prop)(lo:Nat->Prop)(N:Par)(w0:World)(s:St)(a:Act)(w:World)(μ:Nat->Option MV):Prop:=RelF P X lo N w0 s.slot s.g a w μ
theorem bZ{α β:Type}(f:α->β):∀(l:List (Nat×α)) (i:Nat),aM (l.map λp=>(p.1,f p.2)) i=(aM l i).map f
 | [],_=>rfl
 |(k,x)::r,i=>by
  simp only[M8,aM];split;·rfl
  ·exact bZ f r i
theorem dC[Tabs]{α:Type}(o:Nat):∀(l:List (Nat×α)) (i:Nat),i≠o->aM (l.filter λp=> !(Nat.beq p.1 o)) i=aM l i
 | [],_,_=>rfl
 |(k,x)::r,i,h=>by
  by_cases hk:k=o;·subst hk;simp only[UZ,bC,xl,tJ,if_false,aM];rw[aZ (xB h)];exact dC k r i h
  ·simp only[UZ,aZ hk,nE,if_true,aM];split;·rfl
   ·exact dC o r i h
theorem lZ{α:Type}:∀(l r:List (Nat×α)) (i:Nat),aM (l++r) i=match aM l i with|some x=>some x|none=>aM r i
 | [],r,i=>rfl
 |(k,x)::l,r,i=>by
  simp only[No,aM];split;·rfl
  ·exact lZ l r i
section
variable {P:Program}{tt:Nat->TD}{w:World}{lo:Nat->Prop}{N:Par}{μ:Nat->Option MV}{S:Nat->Prop}{X:Nat->Prop}{g:Nat->Option Ob}{a:Act}{E:Env}{w0:World}
def bJ(μ:Nat->Option MV)(o p:Nat):Option MV:=if p=o then none else μ p
theorem mJ[Tabs]{μ':Nat->Option MV}{o:Nat}{d:AV}{S S':Nat->Prop}(hlo:(∀b,lo b->b<w.heap.size))(hμ:∀p mv,p≠o->μ p=some mv->μ' p=some mv)(hd:∀mv,μ o=some mv->RelV P w lo μ' S' d mv.v)(hS:∀b,b<w.heap.size->S b->S' b){v:AV}{x:Value}
  (h:RelV P w lo μ S v x):RelV P w lo μ' S' (yN o d v) x:=qJ hlo (λp mv hp h=>⟨mv.rs,mv.hs,hμ p mv hp h,Ext.refl _⟩) hd hS h
theorem jW[Tabs]{μ':Nat->Option MV}{o:Nat}{d:AV}{S S':Nat->Prop}(hlo:(∀b,lo b->b<w.heap.size))(hμ:∀p mv,p≠o->μ p=some mv->μ' p=some mv)(hd:∀mv,μ o=some mv->RelV P w lo μ' S' d mv.v)(hS:∀b,b<w.heap.size->S b->S' b){x:Ob}{mv:MV}
  (h:ObOK P w lo μ S x mv):ObOK P w lo μ' S' (fW o d x) mv:=nJ hlo (λp mv hp h=>⟨mv.rs,mv.hs,hμ p mv hp h,Ext.refl _⟩) hd hS h
theorem kU{o:Nat}{b:Nat}(h:SS X μ b):SS X (bJ μ o) b:=
 ⟨h.1,λp mv hp e=>by
  unfold bJ at hp;split at hp;·cases hp
  ·exact h.2 p mv hp e⟩
theorem kP{o p:Nat}{mv:MV}(h:p≠o)(hp:μ p=some mv):bJ μ o p=some mv:=by simp[bJ,h,hp]
theorem eH{o p:Nat}{mv:MV}(h:bJ μ o p=some mv):p≠o/\μ p=some mv:=by
 unfold bJ at h;split at h;·cases h
 ·exact⟨by assumption,h⟩
theorem Rel.swap[Tabs]{s:St}(h:Rel P X lo N w0 s a w μ){o:Nat}{d:AV}(hd:∀mv,μ o=some mv->RelV P w lo (bJ μ o) (SS X (bJ μ o)) d mv.v):Rel P X lo N w0 (s.swap o d []) a w (bJ μ o):=by
 have hS:∀b,b<w.heap.size->SS X μ b->SS X (bJ μ o) b:=λb _ hs=>kU hs;refine⟨⟨h.mem.hX,h.mem.hlo,λp mv hp=>?_,λp p' mv mv' b h1 h2 h3 h4=>h.mem.dis p p' mv mv' b (eH h1).2 (eH h2).2 h3 h4,h.mem.tab⟩,λi=>?_,h.bel,h.df,h.sz⟩;·obtain⟨aa,hp⟩:=eH hp;obtain⟨x,hx,ab⟩:=h.mem.ob p mv hp;refine⟨fW o d x,?_,jW h.mem.hlo (λp mv aa hp=>kP aa hp) hd hS ab⟩;simp only[St.g,St.swap,J8,bZ];rw[dC o s.ob p aa];simp only[St.g]at hx;rw[hx];rfl
 ·simp only[St.slot,St.swap,bZ];have:=mJ (d:=d) h.mem.hlo (λp mv aa hp=>kP (μ:=μ) aa hp) hd hS (h.fr i);simp only[St.slot]at this;cases hl:aM s.fr i with|none=>exact .undef|some v=>rw[hl]at this;exact this
def eV(μ:Nat->Option MV)(o d q:Nat):Option MV:=
 if q=d then none else if q=o then(μ o).map λmv=>⟨mv.v,mv.rs++((μ d).map (·.rs)).getD [],mv.hs⟩else μ q
theorem iB{o d q:Nat}{mv:MV}(h:eV μ o d q=some mv):q≠d/\((q=o/\∃mv0,μ o=some mv0/\mv=⟨mv0.v,mv0.rs++((μ d).map (·.rs)).getD [],mv0.hs⟩)\/(q≠o/\μ q=some mv)):=by
 unfold eV at h;split at h;·cases h
 ·refine⟨by assumption,?_⟩;split at h
  ·cases ho:μ o with
   |none=>rw[ho]at h;cases h
   |some mv0=>rw[ho]at h;simp only[oG,xe]at h;exact .inl ⟨by assumption,mv0,rfl,h.symm⟩
  ·exact .inr ⟨by assumption,h⟩
theorem kW{o d q:Nat}{mv:MV}(h:eV μ o d q=some mv){b:Nat}(hb:b∈mv.rs):∃p mv0,μ p=some mv0/\b∈mv0.rs/\(p=q\/(p=d/\q=o)):=by
 obtain⟨_,⟨rfl,mv0,h0,rfl⟩|⟨_,h1⟩⟩:=iB h
 ·simp only[xp]at hb;rcases hb with hb|hb;·exact⟨_,mv0,h0,hb,.inl rfl⟩
  ·cases hd:μ d with
   |none=>rw[hd]at hb;simp at hb
   |some aa=>rw[hd]at hb;exact⟨d,aa,hd,by simpa using hb,.inr ⟨rfl,rfl⟩⟩
 ·exact⟨q,mv,h1,hb,.inl rfl⟩
theorem Rel.backV[Tabs]{s:St}(h:Rel P X lo N w0 s a w μ){o d i e1 e:Nat}{t:Ty}{l:List (List t.I)}{r:List t.I}(aj:s.g o=some (.rows e1 e t l (some (i,some d))))(aw:s.g d=some (.arr e t r)){dv:AV}
  (ay:∀{S':Nat->Prop} ab,μ d=some ab->RelV P w lo (eV μ o d) S' dv ab.v):
  Rel P X lo N w0 (s.swap d dv [(o,.rows e1 e t (l.set i r) none)]) a w (eV μ o d):=by
 have ak:o≠d:=λe=>by rw[e,aw]at aj;cases aj
 have hμ:∀p mv,p≠d->μ p=some mv->∃rs hs,eV μ o d p=some ⟨mv.v,rs,hs⟩/\Ext mv.hs hs:=λp mv hp hm=>by
  unfold eV;rw[qh hp];split
  next e=>subst e;rw[hm];exact⟨_,_,rfl,Ext.refl _⟩
  next=>exact⟨mv.rs,mv.hs,hm,Ext.refl _⟩
 have hS:∀b,b<w.heap.size->SS X μ b->SS X (eV μ o d) b:=λb _ hs=>⟨hs.1,λq mv hq hb=>by obtain⟨p,mv0,k1,k2,_⟩:=kW hq hb;exact hs.2 p mv0 k1 k2⟩
 have az:∀ab,μ d=some ab->ObOK P w lo μ (SS X μ) (.arr e t r) ab:=λab hd=>by obtain⟨y,hy,af⟩:=h.mem.ob d ab hd;rw[aw]at hy;cases hy;exact af
 refine⟨⟨h.mem.hX,h.mem.hlo,λp mv hp=>?_,λp p' mv mv' b h1 h2 h3 h4=>?_,h.mem.tab⟩,λj=>?_,h.bel,h.df,h.sz⟩
 ·obtain⟨bd,⟨rfl,mv0,k0,rfl⟩|⟨be,k1⟩⟩:=iB hp
  ·refine⟨.rows e1 e t (l.set i r) none,by simp[St.g,St.swap,aM],?_⟩;obtain⟨y,hy,af⟩:=h.mem.ob _ mv0 k0;rw[aj]at hy;cases hy;obtain⟨hr,hk⟩:=af;obtain⟨x,bf,bt,k2,k3⟩:=hk i d rfl;obtain⟨⟨_,al⟩,bg,xs,down,ba⟩:=az _ k3;simp only at al bg down;have hlen:=hr.len;have bu:i<mv0.hs.length:=(xq.1 k2).1;have ai:((μ d).map (·.rs)).getD []=(aD x).toList:=by rw[k3];simp[al]
   have ad:∀b,aD x=some b->b∈bf:=λb hb=>by rw[al,hb];simp
   have ah:∀{l:List t.I} {cs},RepL (SS X μ) w t l cs->RepL (SS X (eV μ p d)) w t l cs:=λhc=>hc.step λb hb hs=>⟨hS b hb hs,rfl⟩
   refine⟨⟨by simpa using hr.own,λb hb=>?_,λb hb=>?_,hr.slc,λj y q hj hy hq=>?_,λj k y z b hj aa hy hz h3 h4=>?_⟩,λi' d' bh=>by cases bh⟩;·exact D1 _ (hr.top b hb)
   ·rw[ai]at hb;rcases xp.1 hb with hb|hb;·exact hr.low b hb
    ·have hb:aD x=some b:=by simpa using hb
     exact h.mem.lt k3 (ad b hb)
   ·by_cases ao:j=i;·subst ao;rw[k2]at hy;cases hy;rw[VA]at hq;rw[qi rfl,qi (by omega)]at hq;cases hq;refine⟨λb hb=>⟨by rw[ai];exact Bt _ (by simp[hb]),λbj=>?_⟩,xs,down,ah ba⟩;exact ak (h.mem.dis _ d mv0 _ b k0 k3 (hr.top b bj) (ad b hb))
    ·rw[xdw (xB ao)]at hq;obtain⟨m1,ys,m2,m3⟩:=hr.row j y q (λi' k' aa=>by cases aa;exact ao) hy hq;exact⟨λb hb=>⟨D1 _ (m1 b hb).1,(m1 b hb).2⟩,ys,m2,ah m3⟩
   ·have ae:∀{j':Nat} {y':Value},j'≠i->mv0.hs[j']? =some y'->aD y'=some b->b∈mv0.rs:=λ{j' y'} bk bb bl=>by
     have bm:j'<l.length:=by have:=(xq.1 bb).1;omega
     exact((hr.row j' y' _ (λi' k' aa=>by cases aa;exact bk) bb (xh bm)).1 b bl).1
    by_cases ar:j=i<;>by_cases au:k=i;·omega
    ·subst ar;rw[k2]at hy;cases hy;exact absurd (h.mem.dis _ d mv0 _ b k0 k3 (ae au hz h4) (ad b h3)) ak
    ·subst au;rw[k2]at hz;cases hz;exact absurd (h.mem.dis _ d mv0 _ b k0 k3 (ae ar hy h3) (ad b h4)) ak
    ·exact hr.apart j k y z b (λi' k' aa=>by cases aa;exact ar) (λi' k' aa=>by cases aa;exact au) hy hz h3 h4
  ·obtain⟨y,hy,af⟩:=h.mem.ob p mv k1;refine⟨fW d dv y,?_,nJ h.mem.hlo hμ (λmv hm=>ay mv hm) hS af⟩;simp only[St.g,St.swap,xek,aM,aZ (xB be),bZ];rw[dC d s.ob p bd];simp only[St.g]at hy;rw[hy];rfl
 ·obtain⟨q,mv0,k1,k2,k3⟩:=kW h1 h3;obtain⟨q',bc,bn,bo,bp⟩:=kW h2 h4;have av:=h.mem.dis q q' mv0 bc b k1 bn k2 bo;have br:=(iB h1).1;have bs:=(iB h2).1;rcases k3 with rfl|⟨rfl,rfl⟩<;>rcases bp with rfl|⟨rfl,rfl⟩
  ·exact av
  ·exact absurd av br
  ·exact absurd av.symm bs
  ·rfl
 ·simp only[St.slot,St.swap,bZ];have:=qJ (d:=dv) h.mem.hlo hμ (λmv hm=>ay mv hm) hS (h.fr j);simp only[St.slot]at this;cases hl:aM s.fr j with|none=>exact .undef|some v=>rw[hl]at this;exact this
theorem Rel.back[Tabs]{s:St}(h:Rel P X lo N w0 s a w μ){o d i e1 e:Nat}{t:Ty}{l:List (List t.I)}{r:List t.I}(aa:s.g o=some (.rows e1 e t l (some (i,some d))))(ab:s.g d=some (.arr e t r)):
  Rel P X lo N w0 (s.swap d .undef [(o,.rows e1 e t (l.set i r) none)]) a w (eV μ o d):=h.backV aa ab λ_ _=>.undef
theorem Rel.freeze[Tabs]{s:St}(h:Rel P X lo N w0 s a w μ)(o:Nat):∃μ',Rel P X lo N w0 (s.freeze o) a w μ':=by
 unfold St.freeze;split
 next e t l hg=>
  split
  next p hp=>
   split
   next e1 e2 t2 l2 i d' ab=>
    split
    next l' hd he hc=>
     have hd:=xg hd;have he:=xg he;subst hd;subst he;obtain⟨et,hl⟩:=Ty.cast_spec hc;cases et;have hl:l'=l:=hl;subst hl;exact⟨_,h.back ab hg⟩
    next=>exact⟨μ,h⟩
   next=>exact⟨μ,h⟩
  next=>
   refine⟨_,h.swap λmv hmv=>?_⟩;have hR:∀b,b∈mv.rs->SS X (bJ μ o) b:=λb hb=>by
    refine⟨λhx=>?_,λp mv' hp e=>?_⟩;·exact(h.mem.lt hmv hb).1 (h.mem.hX b hx)
    ·obtain⟨aa,hp⟩:=eH hp;exact aa (h.mem.dis p o mv' mv b hp hmv e hb)
   obtain⟨a',c,_,hr⟩:=h.mem.asDat hmv hg (S':=SS X (bJ μ o)) (λb _ hs=>kU hs) hR;exact .dat rfl hr
 next e e2 t l hg=>
  refine⟨_,h.swap λmv hmv=>?_⟩;have hR:∀b,b∈mv.rs->SS X (bJ μ o) b:=λb hb=>by
   refine⟨λhx=>?_,λp mv' hp e=>?_⟩;·exact(h.mem.lt hmv hb).1 (h.mem.hX b hx)
   ·obtain⟨aa,hp⟩:=eH hp;exact aa (h.mem.dis p o mv' mv b hp hmv e hb)
  obtain⟨a',c,_,hr⟩:=h.mem.asRows hmv hg (S':=SS X (bJ μ o)) (λb _ hs=>kU hs) hR;exact .dat rfl hr
 next kp e e2 t ix l hg=>
  refine⟨_,h.swap λmv hmv=>?_⟩;have hR:∀b,b∈mv.rs->SS X (bJ μ o) b:=λb hb=>by
   refine⟨λhx=>?_,λp mv' hp e=>?_⟩;·exact(h.mem.lt hmv hb).1 (h.mem.hX b hx)
   ·obtain⟨aa,hp⟩:=eH hp;exact aa (h.mem.dis p o mv' mv b hp hmv e hb)
  obtain⟨a',c,_,hr⟩:=h.mem.asPerm hmv hg (S':=SS X (bJ μ o)) (λb _ hs=>kU hs) hR;exact .dat rfl hr
 next=>exact⟨μ,h⟩
theorem Rel.backR[Tabs]{s:St}(h:Rel P X lo N w0 s a w μ){o:Nat}(ho:∃mv,μ o=some mv)(p:Nat):∃μ',Rel P X lo N w0 (s.backR o p) a w μ':=by
 unfold St.backR;split
 next e1 e2 t2 l2 i d' e t l aa ab=>
  split
  next l' hd he hc=>
   have hd:=xg hd;have he:=xg he;subst hd;subst he;obtain⟨et,hl⟩:=Ty.cast_spec hc;cases et;have hl:l'=l:=hl;subst hl;obtain⟨mv,hmv⟩:=ho;obtain⟨y,hy,ad⟩:=h.mem.ob _ mv hmv;rw[aa]at hy;cases hy;obtain⟨x,ah,ai,k2,k3⟩:=ad.2 i d' rfl;obtain⟨a0,n0,c0,rfl⟩:=ad.1.slc x (xz k2);have af:o≠d':=λe=>by rw[e,ab]at aa;cases aa
   refine⟨_,h.backV aa ab λaj ae=>?_⟩;rw[k3]at ae;cases ae;have hg:eV μ o d' o=(μ o).map λmv=>⟨mv.v,mv.rs++((μ d').map (·.rs)).getD [],mv.hs⟩:=by unfold eV;rw[qh af,qi rfl]
   rw[hmv]at hg;exact .row hg k2
  next=>exact h.freeze p
 next=>exact h.freeze p
theorem Rel.drop[Tabs]{s:St}(h:Rel P X lo N w0 s a w μ)(o:Nat):∃μ',Rel P X lo N w0 (s.drop o) a w μ':=⟨_,h.swap λ_ _=>.undef⟩
theorem RowsOK.perm{S:Nat->Prop}{e e2:Nat}{t:Ty}{l:List (List t.I)}{mv:MV}(h:RowsOK w lo S e e2 t l (dU none) mv mv.hs):PermOK w lo S e e2 t (List.range l.length) l mv:=by
 have aa:∀j,dU none j:=λj i k hk=>by cases hk
 have hl:=h.len;refine⟨?_,hl,h.top,h.low,h.slc,λj x r hx hr=>h.row j x r (aa j) hx hr,λj k x y b=>h.apart j k x y b (aa j) (aa k)⟩;have e:(List.range l.length).map (λi=>mv.hs.getD i (.slice none 0 0))=mv.hs:=by
  apply xgp;·simp[hl]
  ·intro i h1 h2;simp[xd,h2]
 rw[e,xdx];exact h.own
theorem Rel.perm[Tabs]{s:St}(h:Rel P X lo N w0 s a w μ)(o:Nat):∃μ',Rel P X lo N w0 (s.perm o) a w μ':=by
 unfold St.perm;split
 next e e2 t l hg=>
  have hd:∀mv,μ o=some mv->RelV P w lo μ (SS X μ) (.arr o) mv.v:=λmv hmv=>by
   obtain⟨y,hy,ae⟩:=h.mem.ob _ _ hmv;rw[hg]at hy;cases hy;obtain⟨v,rs,hs⟩:=mv;have hx:∃a n c,v=.slice a n c:=by
    rcases ae.1.own.2 with⟨e1,_⟩|⟨_,_,_,e1,_⟩
    ·exact⟨_,_,_,e1⟩
    ·exact⟨_,_,_,e1⟩
   obtain⟨a',n',c',hx⟩:=hx;subst hx;exact .arr (rs:=rs) (hs:=hs) hmv
  refine⟨μ,⟨h.mem.hX,h.mem.hlo,λp mv hp=>?_,h.mem.dis,h.mem.tab⟩,λj=>?_,h.bel,h.df,h.sz⟩
  ·obtain⟨y,hy,ad⟩:=h.mem.ob p mv hp;by_cases aa:p=o;·subst aa;rw[hg]at hy;cases hy;exact⟨.perm false e e2 t (List.range l.length) l,by simp[St.g,St.swap,aM],ad.1.perm⟩
   ·refine⟨fW o (.arr o) y,?_,jW h.mem.hlo (λq mv' hq ab=>ab) hd (λ_ _ hs=>hs) ad⟩;simp only[St.g,St.swap,xek,aM,aZ (xB aa),bZ];rw[dC o s.ob p aa];simp only[St.g]at hy;rw[hy];rfl
  ·simp only[St.slot,St.swap,bZ];have:=mJ (d:=.arr o) h.mem.hlo (λq mv' hq ab=>ab) hd (λ_ _ hs=>hs) (h.fr j);simp only[St.slot]at this;cases hl:aM s.fr j with|none=>exact .undef|some v=>rw[hl]at this;exact this
 next=>exact⟨μ,h⟩
theorem Rel.perms[Tabs]:∀(l:List Nat) {s:St} {μ:Nat->Option MV},Rel P X lo N w0 s a w μ->∃μ',Rel P X lo N w0 (s.perms l) a w μ'
 | [],s,μ,h=>⟨μ,h⟩
 |o::l,s,μ,h=>by obtain⟨μ',h'⟩:=h.perm o;exact Rel.perms l h'
theorem Rel.freezes[Tabs]:∀(l:List Nat) {s:St} {μ:Nat->Option MV},Rel P X lo N w0 s a w μ->∃μ',Rel P X lo N w0 (s.freezes l) a w μ'
 | [],_,μ,h=>⟨μ,h⟩
 |o::l,s,μ,h=>by obtain⟨μ',h'⟩:=h.freeze o;exact Rel.freezes l h'
theorem Rel.put[Tabs]{s:St}(h:Rel P X lo N w0 s a w μ){d:Nat}(hd:N.has d){v:AV}{x:Value}(hv:RelV P w lo μ (SS X μ) v x):Rel P X lo N w0 {s with fr:=(d,v)::s.fr} (a.put (some d) x) w μ:=by
 refine⟨h.mem,λi=>?_,h.bel,h.df,h.sz.put hd⟩;simp only[St.slot,aM,Act.put];by_cases e:d=i
 ·subst e;rw[bC];have aa:d<a.tmps.size:=by rw[h.sz.n];exact hd.2
  simpa[aa]using hv
 ·rw[aZ e];have:=h.fr i;simp only[St.slot]at this;simpa[xdh e]using this
theorem Rel.know[Tabs]{s:St}(h:Rel P X lo N w0 s a w μ){d:Nat}{v:AV}(hv:RelV P w lo μ (SS X μ) v (a.tmps.getD d undef)):Rel P X lo N w0 {s with fr:=(d,v)::s.fr} a w μ:=by
 refine⟨h.mem,λi=>?_,h.bel,h.df,h.sz⟩;simp only[St.slot,aM];by_cases e:d=i;·subst e;rw[bC];exact hv
 ·rw[aZ e];exact h.fr i
def zX(sl:Nat->AV)(u:LU)(i:Nat):AV:=
 match u.d with
 |some p=>if p.1=i then p.2 else(match u.und with
  |some b=>if b=i then .undef else sl i
  |none=>sl i)
 |none=>sl i
def gA(g:Nat->Option Ob)(u:LU)(i:Nat):Option Ob:=
 match aM u.objs i with
 |some x=>some x
 |none=>g i
theorem z8[Tabs](s:St)(u:LU):(s.app u).slot=zX s.slot u:=by
 funext i;obtain⟨d,und,objs⟩:=u;cases d with
 |none=>rfl
 |some p=>
  simp only[St.app,St.slot,aM,zX];by_cases e:p.1=i;·subst e;rw[bC];simp
  ·rw[aZ e,qh e];cases und with
   |none=>rfl
   |some b=>
    simp only[aM];by_cases e':b=i;·subst e';rw[bC];simp
    ·rw[aZ e',qh e']
theorem Ly[Tabs](s:St)(u:LU):(s.app u).g=gA s.g u:=by funext i;simp only[St.app,St.g,lZ,gA];cases aM u.objs i<;>rfl
theorem zP{a:Act}{d:Nat}{x:Value}(hd:d<a.tmps.size)(i:Nat):(a.put (some d) x).tmps.getD i undef=if d=i then x else a.tmps.getD i undef:=by
 simp only[Act.put];by_cases e:d=i;·subst e;simp[hd]
 ·rw[qh e];simp[xdh e]
theorem RelF.upd[Tabs]{sl:Nat->AV}(h:RelF P X lo N w0 sl g a w μ){u:LU}{w':World}{μ':Nat->Option MV}(hn:(u.objs.map (·.1)).Nodup)(hu:u.und=none)(hq:NxU P X lo g μ w u.objs [] w' μ'){dst:Option Nat}(hd:dst=u.d.map (·.1))(ab:∀d,dst=some d->N.has d){x:Value}
  (hv:∀p,u.d=some p->RelV P w' lo μ' (SS X μ') p.2 x):RelF P X lo N w0 (zX sl u) (gA g u) (a.put dst x) w' μ':=by
 refine⟨hq.mem _ (λp hp=>?_) λo mv _ ho=>?_,λi=>?_,h.bel.trans hq.kept,?_,?_⟩;·rw[gA,tU hn hp]
 ·rw[gA];cases hl:aM u.objs o with|none=>simp only;cases g o<;>rfl|some y=>exact absurd rfl (ho _ (dX hl))
 ·have hold:=hq.step h.mem.hlo (h.fr i);rw[zX,hu];cases aa:u.d with
  |none=>rw[aa]at hd;simp only[xew]at hd;subst hd;exact hold
  |some p=>
   rw[aa]at hd;simp only[oG]at hd;subst hd;have ad:p.1<a.tmps.size:=by rw[h.sz.n];exact(ab _ rfl).2
   rw[zP ad];simp only;split;·exact hv p aa
   ·exact hold
 ·cases dst<;>exact h.df
 ·cases dst;·exact h.sz
  ·exact h.sz.put (ab _ rfl)
theorem Fa:∀(ks:List Nat) (s:St),(s.kills ks).fr=s.fr.map λq=>(q.1,Fg ks q.2)
 | [],s=>by simp[St.kills,Fg]
 |p::ks,s=>by have:=Fa ks (s.kill p);simp only[St.kills,Z5]at this⊢;rw[this];simp[St.kill,Fg]
theorem Fy:∀(ks:List Nat) (s:St),(s.kills ks).ob=s.ob.map λq=>(q.1,pA ks q.2)
 | [],s=>by simp[St.kills,pA]
 |p::ks,s=>by have:=Fy ks (s.kill p);simp only[St.kills,Z5]at this⊢;rw[this];simp[St.kill,pA]
theorem Ku(ks:List Nat)(s:St)(i:Nat):(s.kills ks).slot i=((aM s.fr i).map (Fg ks)).getD .undef:=by unfold St.slot;rw[Fa,bZ]
theorem KT(ks:List Nat)(s:St)(i:Nat):(s.kills ks).g i=(s.g i).map (pA ks):=by unfold St.g;rw[Fy,bZ]
theorem Rel.updK[Tabs]{s:St}(h:Rel P X lo N w0 s a w μ){u:LU}{ks:List Nat}{w':World}{μ':Nat->Option MV}(hn:(u.objs.map (·.1)).Nodup)(hu:u.und=none)(hq:NxU P X lo s.g μ w u.objs ks w' μ'){dst:Option Nat}(hd:dst=u.d.map (·.1))(ab:∀d,dst=some d->N.has d){x:Value}
  (hv:∀p,u.d=some p->RelV P w' lo μ' (SS X μ') p.2 x):Rel P X lo N w0 ((s.kills ks).app u) (a.put dst x) w' μ':=by
 refine⟨hq.mem _ (λp hp=>?_) λo mv _ ho=>?_,λi=>?_,h.bel.trans hq.kept,?_,?_⟩;·rw[Ly,gA,tU hn hp]
 ·rw[Ly,gA];cases hl:aM u.objs o with|none=>exact KT ks s o|some y=>exact absurd rfl (ho _ (dX hl))
 ·have hold:RelV P w' lo μ' (SS X μ') ((s.kills ks).slot i) (a.tmps.getD i undef):=by
   rw[Ku];have:=h.fr i;simp only[St.slot]at this;cases hl:aM s.fr i with
   |none=>exact .undef
   |some v=>rw[hl]at this;exact RelV.kill h.mem.hlo hq.data hq.kept.block hq.hs this
  rw[z8,zX,hu];cases aa:u.d with
  |none=>rw[aa]at hd;simp only[xew]at hd;subst hd;exact hold
  |some p=>
   rw[aa]at hd;simp only[oG]at hd;subst hd;have ad:p.1<a.tmps.size:=by rw[h.sz.n];exact(ab _ rfl).2
   rw[zP ad];simp only;split;·exact hv p aa
   ·exact hold
 ·cases dst<;>exact h.df
 ·cases dst;·exact h.sz
  ·exact h.sz.put (ab _ rfl)
theorem Rel.upd[Tabs]{s:St}(h:Rel P X lo N w0 s a w μ){u:LU}{w':World}{μ':Nat->Option MV}(hn:(u.objs.map (·.1)).Nodup)(hu:u.und=none)(hq:NxU P X lo s.g μ w u.objs [] w' μ'){dst:Option Nat}(hd:dst=u.d.map (·.1))(aa:∀d,dst=some d->N.has d){x:Value}
  (hv:∀p,u.d=some p->RelV P w' lo μ' (SS X μ') p.2 x):Rel P X lo N w0 (s.app u) (a.put dst x) w' μ':=by
 have:=RelF.upd h hn hu hq hd aa hv;rw[<-z8,<-Ly]at this;exact this
theorem P2{o:Nat}{v:AV}(h:Ih o v=true):mI o .undef v=v:=by
 cases v with
 |arr p=>simp only[Ih,D9]at h;simp[mI,h]
 |elt p i s=>simp only[Ih,D9]at h;simp[mI,h]
 |fld p i s k=>simp only[Ih,D9]at h;simp[mI,h]
 |row p i=>simp only[Ih,D9]at h;simp[mI,h]
 |relt p i n s=>simp only[Ih,D9]at h;simp[mI,h]
 |suf p i s=>simp only[Ih,D9]at h;simp[mI,h]
 |pre p i=>simp only[Ih,D9]at h;simp[mI,h]
 |box p k=>simp only[Ih,D9]at h;simp[mI,h]
 |fn f caps=>
  cases caps with
  |nil=>rfl
  |cons c caps=>simp[Ih]at h
 |dat t v=>rfl
 |nilsl=>rfl
 |undef=>rfl
 |clo ts r p=>rfl
 |_=>simp[Ih]at h
theorem mT{F:AV->AV}{cs:List AV}(h:∀c∈cs,F c=c):cs.map F=cs:=by
 induction cs with
 |nil=>rfl
 |cons c cs ih=>rw[M8,h c xu,ih λc hc=>h c (xr _ hc)]
theorem Ol[Tabs]{o:Nat}{v:AV}(h:clC o v=true):Tt o .undef v=v:=by
 cases v with
 |ptr cs=>simp only[clC,xt]at h;simp only[Tt];rw[mT λc hc=>P2 (h c hc)]
 |_=>simp only[clC]at h;simpa only[Tt]using P2 h
theorem V9[Tabs]{o:Nat}{v:AV}(h:UP o v=true):Ek o .undef v=v:=by
 cases v with
 |agg cs=>simp only[UP,xt]at h;simp only[Ek];rw[mT λc hc=>P2 (h c hc)]
 |fn f caps=>simp only[UP,xt]at h;simp only[Ek];rw[mT λc hc=>Ol (h c hc)]
 |bnd f fs=>simp[UP,clC,Ih]at h
 |_=>simp only[UP]at h;simpa only[Ek]using Ol h
theorem HF[Tabs]{o:Nat}{x:Ob}(h:Ev o x=true):fW o .undef x=x:=by
 cases x with
 |arr e t l=>rfl
 |perm k e e2 t ix l=>rfl
 |spent=>rfl
 |rows e e2 t l hh=>
  cases hh with
  |none=>rfl
  |some q=>
   obtain⟨i,k⟩:=q;cases k with
   |none=>rfl
   |some d=>simp only[Ev,D9]at h;simp[fW,XY,h]
 |cells cs=>simp only[Ev,xt]at h;simp only[fW];rw[mT λc hc=>V9 (h c hc)]
end
end
section
open Go.RowKit (Below)
section
variable {P:Program}{tt:Nat->TD}{w:World}{lo:Nat->Prop}{N:Par}{μ:Nat->Option MV}{S:Nat->Prop}{X:Nat->Prop}{g:Nat->Option Ob}{a:Act}{E:Env}{w0:World}
theorem Rep.one:∀{t:Ty} {v:t.I} {cs:List Value},Rep S w t v cs->∀u∈cs,u.oneCell'=true
 | .int _,_,_,h,u,hu=>by simp[Rep]at h;subst h;simp at hu;subst hu;rfl
 | .bool,_,_,h,u,hu=>by simp[Rep]at h;subst h;simp at hu;subst hu;rfl
 | .str,_,_,h,u,hu=>by simp[Rep]at h;subst h;simp at hu;subst hu;rfl
 | .slice _,_,_,h,u,hu=>by simp only[Rep]at h;obtain⟨a,c,rfl,_⟩:=h;simp at hu;subst hu;rfl
 | .pair a b,_,_,h,u,hu=>by
  obtain⟨c1,c2,rfl,h1,h2⟩:=h;rcases xp.1 hu with h|h;·exact h1.one u h
  ·exact h2.one u h
theorem RepL.one[Tabs]{t:Ty}:∀{l:List t.I} {cs:List Value},RepL S w t l cs->∀u∈cs,u.oneCell'=true
 | [],_,h,u,hu=>by simp only[RepL]at h;subst h;cases hu
 |_::_,_,⟨c,r,e,h1,h2⟩,u,hu=>by
  subst e;rcases xp.1 hu with h|h;·exact h1.one u h
  ·exact RepL.one h2 u h
theorem CY[Tabs]{v:AV}{x:Value}(h:RelV P w lo μ S v x)(h1:one v=true):x.oneCell'=true:=by
 cases h with
 |undef=>simp[one]at h1
 |skip=>simp[one]at h1
 |tup=>simp[one]at h1
 |agg=>simp[one]at h1
 |dat _ h=>exact h.one x (by simp)
 |clo h=>obtain⟨_,f,fs,xs,rfl,_⟩:=h;rfl
 |_=>rfl
theorem iQ{α:Type}(L c:List α)(i n m:Nat)(hc:c.length=n)(h1:i+n<=m)(h2:m<=L.length):(L.take i++c++L.drop (i+n)).take m=(L.take m).take i++c++(L.take m).drop (i+n):=by
 have hl:(L.take i++c).length=i+n:=by rw[xj,xw,hc];omega
 rw[xgn,hl,Gg (by omega),xfg,Wo (by omega),List.drop_take]
theorem F6{α:Type}(L:List α)(i:Nat)(y:α)(h:i<L.length):(L.set i y).take (i+1)=L.take i++ [y]:=by rw[Wk (by simpa using h)];simp[List.take_set_of_le]
theorem L7[Tabs](k:Nat):∀(xs:List Value) (m:Nat) (us:Array Value),k+m+xs.length<=us.size->(xs.zipIdx m).foldl (λcs (c,j)=>cs.setIfInBounds (k+j) c) us=(us.toList.take (k+m)++xs++us.toList.drop (k+m+xs.length)).toArray
 | [],m,us,_=>by simp
 |y::ys,m,us,hle=>by simp only[xk]at hle;rw[List.zipIdx_cons,Z5];rw[L7 k ys (m+1) _ (by simp;omega)];have e1:=F6 us.toList (k+m) y (by simp;omega);have e2:(us.toList.set (k+m) y).drop (k+m+(ys.length+1))=us.toList.drop (k+m+(ys.length+1)):=List.drop_set_of_lt (by omega);rw[Array.toList_setIfInBounds,show k+(m+1)=k+m+1 by omega,e1,show k+m+1+ys.length=k+m+(ys.length+1) by omega,e2];simp
theorem iL{ty n b k:Nat}{x:Value}{w':World}(hs:(sizeOf ty).run P w=.ok n w)(hx:x.cells.size=n)(h:(storeCells ⟨b,k,none⟩ x.cells.toList).run P w=.ok () w'):
  (Instr.storeAt ty (.pointer (some ⟨b,k,none⟩)) x).run P w=.ok () w':=by
 simp only[Instr.storeAt,Instr.sureAddr,storeVar,Sem.run_bind,Sem.run_pure,Result.andThen_ok,hs];rw[qh (by simp[hx])];exact h
theorem NxU.wrote[Tabs](hm:Mem P X lo g μ w){o b:Nat}{mv:MV}(ho:μ o=some mv)(hr:b∈mv.rs){cs:Array Value}{x:Ob}
  (hx:ObOK P (w.setRow b cs) lo μ (SS X μ) x mv):NxU P X lo g μ w [(o,x)] [] (w.setRow b cs) μ:=by
 have hw:∀k,k≠b->(w.setRow b cs).heap[k]? =w.heap[k]? :=λk hk=>setRow_other w b k cs hk;have ad:=(hm.lt ho hr).1;have ab:∀k,k<w.heap.size->SS X μ k->SS X μ k/\(w.setRow b cs).heap[k]? =w.heap[k]? :=λk _ hS=>⟨hS,hw k λe=>by subst e;exact hS.2 o mv ho hr⟩
 have aa:∀k,lo k->(w.setRow b cs).heap[k]? =w.heap[k]? :=λk hk=>hw k λe=>ad (e▸hk);refine⟨⟨λp mv h=>⟨mv.rs,mv.hs,h,λ_=>Ext.refl _⟩,λ_ _ hk=>(by cases hk)⟩,λp mv h=>.inl ⟨mv,h⟩,λp mv k h hk=>.inr ⟨p,mv,h,hk⟩,⟨rfl,rfl,rfl,by simp,aa⟩,λk _ hk=>hw k λe=>hk (o,x) (by simp) mv ho (e▸hr),λg' h1 h2=>⟨hm.hX,by simpa using hm.hlo,λp mv' hp=>?_,hm.dis,hm.tab.step aa⟩⟩;by_cases e:p=o;·subst e;rw[ho]at hp;cases hp;exact⟨x,h1 (p,x) (by simp),hx⟩
 ·obtain⟨y,hy,ae⟩:=hm.ob p mv' hp;have af:∀q∈ [(o,x)],q.1≠p:=λq hq e'=>by simp only[xo]at hq;subst hq;exact e e'.symm
  refine⟨y,by rw[h2 p mv' hp af,hy];rfl,ae.step hm.hlo (λ_ _ h=>h) ab aa λk hk=>hw k λek=>?_⟩;subst ek;exact e (hm.dis p o mv' mv k hp ho hk hr)
theorem Pn[Tabs](hT:aW P tt)(hm:Mem P X lo g μ w){u:LU}{ty:Nat}{av vv:AV}(hq:(pR tt g ty av vv).ev=some u){va x:Value}(ha:RelV P w lo μ (SS X μ) av va)(hv:RelV P w lo μ (SS X μ) vv x):
  ∃w',(Instr.storeAt ty va x).run P w=.ok () w'/\NxU P X lo g μ w u.objs [] w' μ/\cT g u.objs=[]/\u.d=none/\u.und=none/\(u.objs.map (·.1)).Nodup:=by
 unfold pR at hq;split at hq
 ·rename_i o k
  split at hq
  next cs vs sz hg hc af=>
   split at hq
   next hn=>
    simp only[qq,xe]at hq;subst hq;obtain⟨bd,ah⟩:=lS (P:=P) (w:=w) hT af;obtain⟨ai,be⟩:=lO hv hc;cases ha with
    | @box _ _ b _ _ _ hμ=>
     obtain⟨y,hy,aj⟩:=hm.ob _ _ hμ;rw[hg]at hy;cases hy;obtain⟨b',us,e,he,ao,hh,az,hr⟩:=aj;simp only[MV.mk.injEq,Value.pointer.injEq,xe,Addr.mk.injEq,ql]at he;obtain⟨he,rfl,rfl⟩:=he;subst he;have bf:∀u∈x.cells.toList,u.oneCell'=true:=λu hu=>by
      obtain⟨j,hj,rfl⟩:=xbu.1 hu;have br:j<vs.length:=by rw[<-ai];simpa using hj
      have bs:aQ vs j=some vs[j]:=by rw[aA];simp
      have:=be j _ bs;have h1:=xt.1 hn.2.2 vs[j] (xeb br);have bt:j<x.cells.size:=by simpa using hj
      have h2:=CY this h1;simpa[bt]using h2
     have aa:=run_storeCells_at P b k e x.cells.toList 0 us w hh (by simp[ai,az];exact hn.2.1) bf;simp only[zL]at aa;refine⟨_,iL ah (ai.trans hn.1) aa,?_,by simp[cT,uY,hg],rfl,rfl,by simp⟩;refine NxU.wrote hm hμ (by simp) ⟨b,_,e,rfl,ao,setRow_heap w b us _ e _ hh,?_,?_⟩
     all_goals
      have ae:=AllR.puts (P:=P) (w:=w) (lo:=lo) (μ:=μ) (S:=SS X μ) vs k cs us x.cells.toList ⟨az,hr⟩ (by simpa using ai) (by simpa using be) 0;rw[L7 k x.cells.toList 0 us (by simp[ai,az];exact hn.2.1)]at ae;simp only[zL]at ae⊢
     ·exact ae.1
     ·intro j v hj;refine(ae.2 j v hj).step (λ_ _ h=>h) hm.hlo (λm ba hS=>⟨hS,setRow_other w b m _ λe=>by subst e;exact hS.2 o _ hμ (by simp)⟩) λm ba=>setRow_other w b m _ λe=>ao (e▸ba)
   next=>cases hq
  next=>cases hq
 ·rename_i o i z
  split at hq
  next e t l sz hg af=>
   split at hq
   next hz=>
    split at hq
    next y bu=>
     obtain⟨hi,hq⟩:=ev_g hq;simp only[qe]at hi;simp only[qq,xe]at hq;subst hq;obtain⟨bd,ah⟩:=lS (P:=P) (w:=w) hT af;have ak:=Fo bu hv;cases ha with
     | @elt _ _ _ _ b n c _ _ hμ=>
      obtain⟨yy,al,aj⟩:=hm.ob _ _ hμ;rw[hg]at al;cases al;obtain⟨⟨bg,bh⟩,bw,xs,bj,bz⟩:=aj;simp only[aD,Option.toList]at bh bg;subst bh;subst bg;rcases bj.2 with⟨e1,e2⟩|⟨b',cap,cur,ev,ao,hh,ar,bb,ad,ab⟩
      ·cases e1
      ·simp only[Value.slice.injEq,xe,Addr.mk.injEq,ql]at ev;obtain⟨rfl,rfl,rfl⟩:=ev;have hlen:x.cells.toList.length=t.size:=ak.len;have hle:(i+1)*t.size<=l.length*t.size:=JI _ (by omega);have bk:l.length*t.size<=c*t.size:=JI _ ar;rw[C8,xgh]at hle;have aa:=run_storeCells_at P b (i*t.size) e x.cells.toList 0 cur w hh (by rw[hlen,ad];omega) ak.one;simp only[zL]at aa;have aw:x.cells.size=t.size:=by simpa using hlen
       refine⟨_,iL ah (aw.trans hz.1.symm) (by rw[hz.2];exact aa),?_,by simp[cT,uY,hg],rfl,rfl,by simp⟩;have bl:=RepL.set bz hi ak;refine NxU.wrote hm hμ (by simp) ⟨⟨rfl,rfl⟩,bw,xs.take (i*t.size)++x.cells.toList++xs.drop (i*t.size+t.size),⟨?_,.inr ⟨b,c,_,?_,ao,setRow_heap w b cur _ e _ hh,?_,bb,?_,?_⟩⟩,?_⟩;·have:=bl.len;simpa using this
       ·simp
       ·simpa using ar
       ·simp only[RE,xj,xw,tH,JP,aw,ad];omega
       ·rw[<-ab];simp only[C7];rw[hlen];exact iQ _ _ _ _ _ hlen hle (by simp[ad];exact bk)
       ·refine bl.step λm ba hS=>⟨hS,setRow_other w b m _ λe=>by subst e;exact hS.2 o _ hμ (by simp)⟩
    next=>cases hq
   next=>cases hq
  next kp e e2 t ix l sz hg af=>
   split at hq
   next hz=>
    split at hq
    next p j=>
     split at hq
     next ca=>
      subst ca;obtain⟨hi,hq⟩:=ev_g hq;simp only[qe]at hi;simp only[qq,xe]at hq;subst hq;obtain⟨bd,ah⟩:=lS (P:=P) (w:=w) hT af;cases ha with
      | @elt _ _ _ _ b n c rs bm hμ=>
       cases hv with
       | @row _ _ _ v0 cg cf a1 n1 c1 bc cb=>
        rw[hμ]at bc;simp only[xe,MV.mk.injEq]at bc;obtain⟨rfl,rfl,rfl⟩:=bc;obtain⟨yy,al,aj⟩:=hm.ob _ _ hμ;rw[hg]at al;cases al;have hp:PermOK w lo (SS X μ) e e2 t ix l ⟨.slice (some ⟨b,0,none⟩) n c,rs,bm⟩:=aj;have bn:b∈rs:=hp.top b rfl;rcases hp.own.2 with⟨e1,_⟩|⟨b',cap,cur,ev,hb0,bo,ar,bb,ad,ab⟩
        ·cases e1
        ·simp only[Value.slice.injEq,xe,Addr.mk.injEq,ql]at ev;obtain⟨rfl,rfl,rfl⟩:=ev;simp only[uE]at ad ab;have aa:=run_storeCells_at P b (i*1) e [.slice a1 n1 c1] 0 cur w bo (by simp[ad];omega) (λu hu=>by simp at hu;subst hu;rfl);simp only[zL]at aa;refine⟨_,iL ah (by rw[hz.1];rfl) (by rw[hz.2];exact aa),?_,by simp[cT,uY],rfl,rfl,by simp⟩;have ay:∀b',b'≠b->(w.setRow b (cur.toList.take (i*1)++ [Value.slice a1 n1 c1]++cur.toList.drop (i*1+ [Value.slice a1 n1 c1].length)).toArray).heap[b']? =w.heap[b']? :=λb' cc=>setRow_other w b b' _ cc;refine NxU.wrote hm hμ bn ⟨?_,hp.len,hp.top,λb' au=>⟨(hp.low b' au).1,by simpa using(hp.low b' au).2⟩,hp.slc,λj' x r hx hl=>?_,hp.apart⟩
         ·refine⟨by simp,.inr ⟨b,c,_,by simp,hb0,setRow_heap w b cur _ e _ bo,by simpa using ar,bb,?_,?_⟩⟩;·simp only[RE,xj,xw,tH,JP,xk,xy,ad];omega
          ·have h1:=iQ cur.toList [Value.slice a1 n1 c1] (i*1) 1 ix.length rfl (by omega) (by simp[ad];omega);simp only[xk,xy,P1,C7,uE]at h1⊢;rw[h1,ab,List.map_set];have cd:bm.getD j (.slice none 0 0)=.slice a1 n1 c1:=by rw[xd,cb];rfl
           rw[cd,xfc,qi (by simpa using hi)];simp
         ·obtain⟨m1,xs,m2,m3⟩:=hp.row j' x r hx hl;exact⟨m1,xs,aY m2 λb' au=>ay b' λe=>(m1 b' au).2 (by rw[e];rfl),m3.step λb' _ bp=>⟨bp,ay b' λe=>by subst e;exact bp.2 _ _ hμ bn⟩⟩
     next=>cases hq
    next=>cases hq
   next=>cases hq
  next=>cases hq
 ·cases hq
end
end
section
open Go.RowKit (Below)
section
variable {P:Program}{tt:Nat->TD}{w:World}{lo:Nat->Prop}{N:Par}{μ:Nat->Option MV}{S:Nat->Prop}{X:Nat->Prop}{g:Nat->Option Ob}{a:Act}{E:Env}{w0:World}
theorem yD{ty rt e n c sz:Nat}{i:TypeInfo}(hu:P.underlying ty=some (.slice e))(hi:P.info? e=some i){mv:Value}{xs:List Value}(aa:w.ownsRow 0 e sz mv n xs):
  (Builtin.append_ #[ty,ty] rt #[mv,.slice none 0 c]).run P w=.ok mv w:=by
 rcases aa.2 with⟨rfl,rfl⟩|⟨g,cap,cur,rfl,_,_,ab,_⟩
 ·simp[Builtin.append_,run_underlying hu,sizeOf,typeInfo,hi,Builtin.lenOf,Builtin.firstCells]
 ·simp[Builtin.append_,run_underlying hu,sizeOf,typeInfo,hi,Builtin.lenOf,Builtin.firstCells,ab,storeCells]
theorem hC[Tabs]{ty rt e n m:Nat}{t:Ty}{i:TypeInfo}{z:Value}{b:Nat}(hu:P.underlying ty=some (.slice e))(hi:P.info? e=some i)(hs:i.size=t.size)(hb:i.bytes=b)(hz:i.zero=some z)(al:z.cells.size=t.size)
  {mv:Value} {xs:List Value} (aa:w.ownsRow 0 e t.size mv n xs) {ax:Option Addr} {c:Nat} {news:List Value} (hl:news.length=m*t.size) (av:ax=none->m=0) (ab:∀ad,ax=some ad->∀j u,news[j]? =some u->w.cell? (ad.add j)=some u)
  (h1:∀u∈news,u.oneCell'=true) (af:(n+m)*b<=140737488355328) (hb0:0<b):
  ∃v' w',(Builtin.append_ #[ty,ty] rt #[mv,.slice ax m c]).run P w=.ok v' w'/\w'.ownsRow 0 e t.size v' (n+m) (xs++news)/\w'.os=w.os/\w'.tape=w.tape/\w'.output=w.output/\w.heap.size<=w'.heap.size/\
   (∀k,k<w.heap.size->aD mv≠some k->w'.heap[k]? =w.heap[k]?)/\(∀k,aD v'=some k->aD mv=some k\/w.heap.size<=k)/\∃a' n' c',v'=.slice a' n' c':=by
 have au:n+m<=140737488355328:=by have:=Nat.le_mul_of_pos_right (n+m) hb0;omega
 have ao:n+m<=maxLen:=by unfold maxLen;omega
 have ai:∃a' n' c',mv=.slice a' n' c':=by
  rcases aa.2 with⟨rfl,_⟩|⟨gb,cap,cur,rfl,_⟩
  ·exact⟨_,_,_,rfl⟩
  ·exact⟨_,_,_,rfl⟩
 cases ax with
 |none=>obtain rfl:=av rfl;have hn:news=[]:=C9 (by simpa using hl);subst hn;have ar:=yD (P:=P) (rt:=rt) (c:=c) hu hi aa;exact⟨mv,w,ar,by simpa using aa,rfl,rfl,rfl,xm _,λ_ _ _=>rfl,λ_ h=>.inl h,ai⟩
 |some ad=>
  have ab:=ab ad rfl;rcases aa.2 with⟨rfl,rfl⟩|⟨gb,cap,cur,rfl,aw,hg,ba,ay,az,aj⟩
  ·have ak:w.ownsRow w.heap.size e t.size (.slice none 0 0) 0 xs:=⟨aa.1,.inl ⟨rfl,rfl⟩⟩
   obtain⟨v',w',h2,h3,h4,h5⟩:=run_append_own (P:=P) w w.heap.size ty rt e i z t.size b hu hi hz hs hb al t.size_pos (.slice none 0 0) 0 xs ak ad m c news hl ab h1 ao af (xm _);refine⟨v',w',h2,⟨h3.1,h3.2.imp id λ⟨gb,cap,cur,e1,e2,e3⟩=>⟨gb,cap,cur,e1,V1 _,e3⟩⟩,h4.os,h4.tape,h4.output,h4.size,λk hk _=>h4.block k hk (by simp[Value.ownBlock]),λk hk=>.inr ?_,?_⟩
   ·rcases h3.2 with⟨rfl,_⟩|⟨gb,cap,cur,rfl,e2,_⟩
    ·simp[aD]at hk
    ·simp[aD]at hk;omega
   ·rcases h3.2 with⟨rfl,_⟩|⟨gb,cap,cur,rfl,e2,_⟩
    ·exact⟨_,_,_,rfl⟩
    ·exact⟨_,_,_,rfl⟩
  ·have hlen:(xs++news).length=(n+m)*t.size:=by rw[xj,aa.1,hl,C8]
   by_cases ae:n+m<=cap
   ·have ah:n*i.size+news.length<=cur.size:=by rw[hl,az,hs,<-C8];exact JI _ ae
    have hr:=run_append_room (P:=P) w ty rt e i hu hi gb n cap cur hg ad m c news (by rw[hs];exact hl) ab h1 ae ah;rw[hs]at hr ah;refine⟨_,_,hr,⟨hlen,.inr ⟨gb,cap,_,rfl,aw,setRow_heap w gb cur _ e _ hg,ae,ay,?_,?_⟩⟩,rfl,rfl,rfl,by simp,λk _ hk=>setRow_other w gb k _ (λe=>hk (by simp[aD,e])),λk hk=>.inl hk,⟨_,_,_,rfl⟩⟩;·simp only[RE,xj,xw,tH,JP];omega
    ·rw[aj,<-hlen];exact List.take_left
   ·have holds:∀j u,xs[j]? =some u->w.cell? ((⟨gb,0,none⟩:Addr).add j)=some u:=aa.cells (g:=gb) rfl;have hr:=run_append_grow (P:=P) w ty rt e i z hu hi hz ⟨gb,0,none⟩ n cap xs (by rw[hs];exact aa.1) holds ad m c news (by rw[hs];exact hl) ab (by omega) (by omega) (growslice_fits (by omega) (by rw[hb];exact af));have hge:=grownCap_ge w (n+m) cap e;refine⟨_,_,hr,⟨hlen,.inr ⟨w.heap.size,_,_,rfl,V1 _,heap_alloc_new w.drew _,hge,grownCap_le_maxLen w (n+m) cap e ao,?_,?_⟩⟩,rfl,rfl,rfl,by simp,λk hk _=>heap_alloc_old w.drew _ hk,λk hk=>?_,⟨_,_,_,rfl⟩⟩;·simp only[xgi,RE,size_zeroCells,al,aa.1,hl,<-C8];congr 1;omega
    ·simp only[Array.toList_append,Yi];rw[<-Yi,<-hlen];exact List.take_left
    ·simp[aD]at hk;exact .inr (by omega)
end
end
section
open Go.RowKit (Below)
section
variable {P:Program}{tt:Nat->TD}{w:World}{lo:Nat->Prop}{N:Par}{μ:Nat->Option MV}{S:Nat->Prop}{X:Nat->Prop}{g:Nat->Option Ob}{a:Act}{E:Env}{w0:World}
def kT(μ:Nat->Option MV)(p d:Nat)(x:Value)(q:Nat):Option MV:=
 if q=d then some ⟨x,(aD x).toList,[]⟩else if q=p then(μ p).map λmv=>⟨mv.v,mv.rs.filter λb=>decide (aD x≠some b),mv.hs⟩else μ q
theorem O3{p d q:Nat}{x:Value}{mv:MV}(h:kT μ p d x q=some mv):(q=d/\mv=⟨x,(aD x).toList,[]⟩)\/(q≠d/\q=p/\∃mv0,μ p=some mv0/\mv=⟨mv0.v,mv0.rs.filter λb=>decide (aD x≠some b),mv0.hs⟩)\/(q≠d/\q≠p/\μ q=some mv):=by
 unfold kT at h;split at h;·cases h;exact .inl ⟨by assumption,rfl⟩
 ·split at h
  ·cases ho:μ p with
   |none=>rw[ho]at h;cases h
   |some mv0=>rw[ho]at h;simp only[oG,xe]at h;exact .inr (.inl ⟨by assumption,by assumption,mv0,rfl,h.symm⟩)
  ·exact .inr (.inr ⟨by assumption,by assumption,h⟩)
theorem Rel.takeRow[Tabs]{s:St}(h:Rel P X lo N w0 s a w μ){p d i e e2:Nat}{t:Ty}{l:List (List t.I)}(au:s.g p=some (.rows e e2 t l none))(av:s.g d=none)(aw:d≠p){mv:MV}(ah:μ p=some mv)(hi:i<l.length):
  ∃x,mv.hs[i]? =some x/\Rel P X lo N w0 {fr:=s.fr,ob:=(d,.arr e2 t (l.getD i []))::(p,.rows e e2 t l (some (i,some d)))::s.ob} a w (kT μ p d x)/\RelV P w lo (kT μ p d x) (SS X (kT μ p d x)) (.arr d) x:=by
 obtain⟨y,hy,ai⟩:=h.mem.ob p mv ah;rw[au]at hy;cases hy;obtain⟨hr,_⟩:=ai;have ay:μ d=none:=by
  cases hm:μ d with
  |none=>rfl
  |some mv'=>obtain⟨y,hy,_⟩:=h.mem.ob d mv' hm;rw[av]at hy;cases hy
 have aa:∀j,dU none j:=λj i k hk=>by cases hk
 have hlen:=hr.len;obtain⟨x,hx⟩:∃x,mv.hs[i]? =some x:=⟨mv.hs[i]'(by omega),by simp⟩
 have hl:l[i]? =some (l.getD i []):=by simp[xd,hi]
 obtain⟨k1,xs,k2,k3⟩:=hr.row i x _ (aa i) hx hl;obtain⟨a0,n0,c0,az⟩:=hr.slc x (xz hx);have hμ:∀q mv,μ q=some mv->∃rs hs,kT μ p d x q=some ⟨mv.v,rs,hs⟩/\Ext mv.hs hs:=λq mv' hq=>by
  unfold kT;rw[qh (λe=>by rw[e,ay]at hq;cases hq)];split
  next e=>subst e;rw[hq];exact⟨_,_,rfl,Ext.refl _⟩
  next=>exact⟨mv'.rs,mv'.hs,hq,Ext.refl _⟩
 have aj:∀{q:Nat} {mv':MV} {b:Nat},kT μ p d x q=some mv'->b∈mv'.rs->∃q0 mv0,μ q0=some mv0/\b∈mv0.rs/\((q=d/\q0=p/\aD x=some b)\/(q≠d/\q0=q/\(q=p->aD x≠some b))):=λ{q mv' b} hq hb=>by
  rcases O3 hq with⟨rfl,rfl⟩|⟨ab,rfl,mv0,h0,rfl⟩|⟨ab,ad,h0⟩
  ·have hb:aD x=some b:=by simpa using hb
   exact⟨p,mv,ah,(k1 b hb).1,.inl ⟨rfl,rfl,hb⟩⟩
  ·simp only[xak,qe]at hb;exact⟨_,mv0,h0,hb.1,.inr ⟨ab,rfl,λ_=>hb.2⟩⟩
  ·exact⟨q,mv',h0,hb,.inr ⟨ab,rfl,λe=>absurd e ad⟩⟩
 have hS:∀b,b<w.heap.size->SS X μ b->SS X (kT μ p d x) b:=λb _ hs=>⟨hs.1,λq mv' hq hb=>by obtain⟨q0,mv0,h1,h2,_⟩:=aj hq hb;exact hs.2 q0 mv0 h1 h2⟩
 have ae:kT μ p d x d=some ⟨x,(aD x).toList,[]⟩:=by unfold kT;rw[qi rfl]
 refine⟨x,hx,⟨⟨h.mem.hX,h.mem.hlo,λq mv' hq=>?_,λq q' bc bd b h1 h2 h3 h4=>?_,h.mem.tab⟩,λj=>?_,h.bel,h.df,h.sz⟩,?_⟩
 ·rcases O3 hq with⟨rfl,rfl⟩|⟨ab,rfl,mv0,h0,rfl⟩|⟨ab,ad,h0⟩
  ·refine⟨.arr e2 t (l.getD i []),by simp[St.g,aM],⟨rfl,rfl⟩,λb hb=>(hr.low b (k1 b hb).1).1,xs,k2,k3.step λb hb hs=>⟨hS b hb hs,rfl⟩⟩
  ·rw[ah]at h0;cases h0;refine⟨.rows e e2 t l (some (i,some d)),by simp[St.g,aM,aZ aw],?_,λi' d' ba=>?_⟩
   ·have ao:∀j,dU (some (i,some d)) j->j≠i:=λj hj=>hj i (some d) rfl;refine⟨hr.own,λb hb=>?_,λb hb=>hr.low b ((xak.1 hb).1),hr.slc,λj y r hj hy bb=>?_,λj k y z b hj hk=>hr.apart j k y z b (aa j) (aa k)⟩;·simp only[xak,qe];exact⟨hr.top b hb,λak=>(k1 b ak).2 hb⟩
    ·obtain⟨m1,ys,m2,m3⟩:=hr.row j y r (aa j) hy bb;refine⟨λb hb=>⟨?_,(m1 b hb).2⟩,ys,m2,m3.step λb hb hs=>⟨hS b hb hs,rfl⟩⟩;simp only[xak,qe];exact⟨(m1 b hb).1,λak=>ao j hj (hr.apart j i y x b (aa j) (aa i) hy hx hb ak)⟩
   ·cases ba;exact⟨x,_,_,hx,ae⟩
  ·obtain⟨y,hy,ai⟩:=h.mem.ob q mv' h0;refine⟨y,?_,ai.stepH h.mem.hlo hμ (λb hb hs=>⟨hS b hb hs,rfl⟩) (λ_ _=>rfl) λ_ _=>rfl⟩;simp only[St.g,aM,aZ (xB ab),aZ (xB ad)];exact hy
 ·obtain⟨q0,mv0,a1,a2,a3⟩:=aj h1 h3;obtain⟨q1,ar,b1,b2,b3⟩:=aj h2 h4;have al:=h.mem.dis q0 q1 mv0 ar b a1 b1 a2 b2;rcases a3 with⟨e1,af,e3⟩|⟨e1,af,e3⟩<;>rcases b3 with⟨f1,f2,f3⟩|⟨f1,f2,f3⟩
  ·rw[e1,f1]
  ·subst f2;exact absurd e3 (f3 (al.symm.trans af))
  ·subst af;exact absurd f3 (e3 (al.trans f2))
  ·rw[<-af,<-f2,al]
 ·exact(h.fr j).stepH hμ h.mem.hlo (λb hb hs=>⟨hS b hb hs,rfl⟩) λ_ _=>rfl
 ·subst az;exact .arr ae
theorem Rel.take[Tabs]{s:St}(h:Rel P X lo N w0 s a w μ)(k d:Nat):∃μ',Rel P X lo N w0 (s.take k d) a w μ':=by
 unfold St.take;split
 next p i hk=>
  split
  next e e2 t l aa ab=>
   split
   next ad=>
    have hv:=h.fr k;rw[hk]at hv;generalize hy:a.tmps.getD k undef=y at hv;cases hv with
    | @row _ _ _ v0 rs ae a0 m0 c0 hμ hx=>obtain⟨hi,_⟩:=h.mem.rowAt hμ hx aa;obtain⟨x,h1,h2,h3⟩:=h.takeRow aa ab ad hμ hi;rw[hx]at h1;cases h1;exact⟨_,h2.know (by rw[hy];exact h3)⟩
   next=>exact⟨μ,h⟩
  next=>exact⟨μ,h⟩
 next=>exact⟨μ,h⟩
theorem Rel.ahead[Tabs]{s0:St}:∀(l:List Nat) {s:St} {μ:Nat->Option MV},Rel P X lo N w0 s a w μ->∃μ',Rel P X lo N w0 (St.ahead s0 s l) a w μ'
 | [],s,μ,h=>⟨μ,h⟩
 |k::l,s,μ,h=>by
  simp only[St.ahead];split
  ·split
   ·split;·obtain⟨μ',h'⟩:=Rel.perms (W5 (s0.slot (k-80000000))) h;exact Rel.ahead l h'
    ·obtain⟨μ',h'⟩:=h.drop (k-5000000);exact Rel.ahead l h'
   ·obtain⟨μ',h'⟩:=h.take (k-2000000) (k-1500000);exact Rel.ahead l h'
  ·obtain⟨μ',h'⟩:=Rel.freezes (W5 (s0.slot k)) h;exact Rel.ahead l h'
def lN(μ:Nat->Option MV)(p:Nat)(hs:List Value)(q:Nat):Option MV:=if q=p then(μ p).map λmv=>⟨mv.v,mv.rs,hs⟩else μ q
theorem sE{p:Nat}{hs:List Value}{mv:MV}(h:μ p=some mv):lN μ p hs p=some ⟨mv.v,mv.rs,hs⟩:=by simp[lN,h]
theorem uF{p q:Nat}{hs:List Value}(h:q≠p):lN μ p hs q=μ q:=by simp[lN,h]
theorem nC{p q:Nat}{hs:List Value}{mv:MV}(h:lN μ p hs q=some mv):∃mv0,μ q=some mv0/\mv.v=mv0.v/\mv.rs=mv0.rs/\(q≠p->mv=mv0):=by
 by_cases e:q=p
 ·subst e;cases ho:μ q with|none=>simp[lN,ho]at h|some mv0=>rw[sE ho]at h;cases h;exact⟨mv0,rfl,rfl,rfl,λh=>absurd rfl h⟩
 ·rw[uF e]at h;exact⟨mv,h,rfl,rfl,λ_=>rfl⟩
theorem Dz{p:Nat}{hs:List Value}{b:Nat}(h:SS X μ b):SS X (lN μ p hs) b:=
 ⟨h.1,λq mv hq hb=>by obtain⟨mv0,h1,_,h2,_⟩:=nC hq;exact h.2 q mv0 h1 (h2▸hb)⟩
theorem NxU.wroteR[Tabs](hm:Mem P X lo g μ w){o b:Nat}{mv:MV}(ho:μ o=some mv)(hr:b∈mv.rs){hs:List Value}{cs:Array Value}{x:Ob}(ad:∃a n c,mv.v=.slice a n c)
  (hx:ObOK P (w.setRow b cs) lo (lN μ o hs) (SS X (lN μ o hs)) x ⟨mv.v,mv.rs,hs⟩):NxU P X lo g μ w [(o,x)] [o] (w.setRow b cs) (lN μ o hs):=by
 have hw:∀k,k≠b->(w.setRow b cs).heap[k]? =w.heap[k]? :=λk hk=>setRow_other w b k cs hk;have ae:=(hm.lt ho hr).1;have ab:∀k,k<w.heap.size->SS X μ k->SS X (lN μ o hs) k/\(w.setRow b cs).heap[k]? =w.heap[k]? :=λk _ hS=>⟨Dz hS,hw k λe=>by subst e;exact hS.2 o mv ho hr⟩
 have aa:∀k,lo k->(w.setRow b cs).heap[k]? =w.heap[k]? :=λk hk=>hw k λe=>ae (e▸hk);have ht:Turns μ (lN μ o hs) [o]:=by
  refine⟨λp mv' hp=>?_,λp mv' hk hp=>?_⟩
  ·by_cases e:p=o;·subst e;exact⟨_,_,sE hp,λh=>absurd (xo.2 rfl) h⟩
   ·exact⟨mv'.rs,mv'.hs,by rw[uF e];exact hp,λ_=>Ext.refl _⟩
  ·rw[xo.1 hk,ho]at hp;cases hp;exact ad
 refine⟨ht,λp mv' h=>?_,λp mv' k h hk=>?_,⟨rfl,rfl,rfl,by simp,aa⟩,λk _ hk=>hw k λe=>hk (o,x) (by simp) mv ho (e▸hr),λg' h1 h2=>⟨hm.hX,by simpa using hm.hlo,λp mv' hp=>?_,λp q ak al k h3 h4 h5 h6=>?_,hm.tab.step aa⟩⟩;·obtain⟨mv0,k1,_⟩:=nC h;exact .inl ⟨mv0,k1⟩
 ·obtain⟨mv0,k1,_,k2,_⟩:=nC h;exact .inr ⟨p,mv0,k1,k2▸hk⟩
 ·by_cases e:p=o;·subst e;rw[sE ho]at hp;cases hp;exact⟨x,h1 (p,x) (by simp),hx⟩
  ·rw[uF e]at hp;obtain⟨y,hy,af⟩:=hm.ob p mv' hp;have ah:∀q∈ [(o,x)],q.1≠p:=λq hq e'=>by simp only[xo]at hq;subst hq;exact e e'.symm
   refine⟨pA [o] y,by rw[h2 p mv' hp ah,hy];rfl,ObOK.kill hm.hlo ab aa (λk hk=>hw k λek=>?_) ht af⟩;subst ek;exact e (hm.dis p o mv' mv k hp ho hk hr)
 ·obtain⟨ai,k1,_,k2,_⟩:=nC h3;obtain⟨aj,k3,_,k4,_⟩:=nC h4;exact hm.dis p q ai aj k k1 k3 (k2▸h5) (k4▸h6)
theorem Jf[Tabs](hT:aW P tt){s s':St}(h:Rel P X lo N w0 s a w μ){ty:Nat}{av vv:AV}{r:Tr St}(hr:V6 tt ty av vv s=some r)(hq:r.ev=some s'){va x:Value}(ha:RelV P w lo μ (SS X μ) av va)(hv:RelV P w lo μ (SS X μ) vv x):
  ∃w' μ',(Instr.storeAt ty va x).run P w=.ok () w'/\∀v,Rel P X lo N w0 s' (a.put none v) w' μ':=by
 unfold V6 at hr;split at hr
 ·rename_i o i n z
  simp only[xe]at hr;subst hr;split at hq
  next e e2 t l sz hg be=>
   split at hq
   next hz=>
    split at hq
    next y bf=>
     obtain⟨hi,hq⟩:=ev_g hq;simp only[qe]at hi;simp only[qq,xe]at hq;subst hq;obtain⟨bs,bg⟩:=lS (P:=P) (w:=w) hT be;have ae:=Fo bf hv;have hm:=h.mem;cases ha with
     | @relt _ _ _ _ _ v0 rs bt b m c hμ hx=>
      obtain⟨yy,aw,bh⟩:=hm.ob _ _ hμ;rw[hg]at aw;cases aw;obtain⟨aa,_⟩:=bh;have hlen:=aa.len;simp only at hlen;have ay:i<l.length:=by have:=(xq.1 hx).1;omega
      have ah:∀j,dU none j:=λj i k hk=>by cases hk
      have bj:l[i]? =some (l.getD i []):=by simp[xd,ay]
      obtain⟨k1,xs,az,bk⟩:=aa.row i _ _ (ah i) hx bj;obtain⟨ai,al⟩:=k1 b rfl;generalize hL:l.getD i []=L at*;rcases az.2 with⟨e1,_⟩|⟨b',cap,cur,ev,bl,hh,ba,bm,ao,ar⟩
      ·cases e1
      ·simp only[Value.slice.injEq,xe,Addr.mk.injEq,ql]at ev;obtain⟨rfl,rfl,rfl⟩:=ev;have ab:x.cells.toList.length=t.size:=ae.len;have hle:(n+1)*t.size<=L.length*t.size:=JI _ (by omega);have bb:L.length*t.size<=c*t.size:=JI _ ba;rw[C8,xgh]at hle;have aj:=run_storeCells_at P b (n*t.size) e2 x.cells.toList 0 cur w hh (by rw[ab,ao];omega) ae.one;simp only[zL]at aj;have ak:x.cells.size=t.size:=by simpa using ab
       have bn:(Instr.storeAt ty (.pointer (some ⟨b,n*z,none⟩)) x).run P w=.ok () _:=iL bg (ak.trans hz.1.symm) (by rw[hz.2];exact aj);have bc:=RepL.set bk hi ae;have af:∀b',b'≠b->(w.setRow b (cur.toList.take (n*t.size)++x.cells.toList++cur.toList.drop (n*t.size+x.cells.toList.length)).toArray).heap[b']? =w.heap[b']? :=λb' bo=>setRow_other w b b' _ bo;have hS:∀{l:List t.I} {cs},RepL (SS X μ) w t l cs->RepL (SS X μ) (w.setRow b (cur.toList.take (n*t.size)++x.cells.toList++cur.toList.drop (n*t.size+x.cells.toList.length)).toArray) t l cs:=λhc=>hc.step λb' _ bd=>⟨bd,af b' λe=>by subst e;exact bd.2 o _ hμ ai⟩
       have bp:NxU P X lo s.g μ w [(o,.rows e e2 t (l.set i (L.set n y)) none)] [] (w.setRow b (cur.toList.take (n*t.size)++x.cells.toList++cur.toList.drop (n*t.size+x.cells.toList.length)).toArray) μ:=by
        refine NxU.wrote hm hμ ai ⟨⟨?_,aa.top,λb' ad=>⟨(aa.low b' ad).1,by simpa using(aa.low b' ad).2⟩,aa.slc,λj u rr hj hu hl=>?_,aa.apart⟩,λi' d' br=>by cases br⟩;·rw[C7];exact aY aa.own λb' ad=>af b' λe=>al (by rw[<-e];exact ad)
        ·by_cases au:j=i
         ·subst au;rw[hx]at hu;cases hu;rw[VA,qi rfl,qi ay]at hl;cases hl;refine⟨k1,xs.take (n*t.size)++x.cells.toList++xs.drop (n*t.size+t.size),⟨?_,.inr ⟨b,c,_,?_,bl,setRow_heap w b cur _ e2 _ hh,?_,bm,?_,?_⟩⟩,hS bc⟩;·have:=bc.len;simpa using this
          ·simp
          ·simpa using ba
          ·simp only[RE,xj,xw,tH,JP,ak,ao];omega
          ·rw[<-ar];simp only[C7];rw[ab];exact iQ _ _ _ _ _ ab hle (by simp[ao];exact bb)
         ·rw[xdw (xB au)]at hl;obtain⟨m1,ys,m2,m3⟩:=aa.row j u rr (ah j) hu hl;exact⟨m1,ys,aY m2 λb' ad=>af b' λe=>au (aa.apart j i u _ b (ah j) (ah i) hu hx (by rw[<-e];exact ad) rfl),hS m3⟩
       exact⟨_,μ,bn,λv=>h.upd (u:=⟨none,none,[(o,.rows e e2 t (l.set i (L.set n y)) none)]⟩) (by simp) rfl bp (dst:=none) rfl (λd hd=>by cases hd) (x:=v) (λp hp=>by cases hp)⟩
    next=>cases hq
   next=>cases hq
  next=>cases hq
 ·cases hr
theorem P7[Tabs](hT:aW P tt){s s':St}(h:Rel P X lo N w0 s a w μ){ty:Nat}{av vv:AV}{r:Tr St}(hr:vP tt ty av vv s=some r)(hq:r.ev=some s'){va x:Value}(ha:RelV P w lo μ (SS X μ) av va)(hv:RelV P w lo μ (SS X μ) vv x):
  ∃w' μ',(Instr.storeAt ty va x).run P w=.ok () w'/\∀v,Rel P X lo N w0 s' (a.put none v) w' μ':=by
 unfold vP at hr;split at hr
 ·rename_i p i z q
  split at hr
  next e e2 t l hh e3 t3 lq au bl=>
   simp only[xe]at hr;subst hr;split at hq
   next sz aw=>
    split at hq
    next hc=>
     obtain⟨c1,rfl,c3,rfl,c5⟩:=hc;obtain⟨ay⟩:∃y,Ty.eq? t3 t=some y:=xbd.1 c5;obtain⟨et⟩:=ay
     -- in both cases the place is not among the rows that bm there
     have ae:i<l.length/\(∀j,dU (some (i,some q)) j->dU hh j)/\s'=(((s.kill p).app ⟨none,none,[(p,.rows e e3 t l (some (i,some q)))]⟩).freeze q):=by
      split at hq;·obtain⟨hi,hq⟩:=ev_g hq;simp only[qe]at hi;simp only[qq,xe]at hq;exact⟨hi,λj _ i k hk=>(by cases hk),hq.symm⟩
      ·obtain⟨hi,aj⟩:=ev_g hq;simp only[xf,qe]at hi;simp only[qq,xe]at aj;obtain⟨hi,rfl⟩:=hi;exact⟨hi,λj hj i' k hk=>(by cases hk;exact hj i (some q) rfl),aj.symm⟩
      ·cases hq
     obtain⟨hi,af,rfl⟩:=ae;obtain⟨bn,az⟩:=lS (P:=P) (w:=w) hT aw;cases ha with
     | @elt _ _ _ _ b n c rs hs hμ=>
      cases hv with
      | @arr _ _ a0 n0 c0 rq ba bb=>
       obtain⟨y,hy,bc⟩:=h.mem.ob _ _ hμ;rw[au]at hy;cases hy;obtain⟨hr,_⟩:=bc;have hlen:=hr.len;simp only at hlen hr;rcases hr.own.2 with⟨e1,_⟩|⟨b',cap,cur,ev,hb0,ak,bd,be,ah,ai⟩
       ·cases e1
       ·simp only[Value.slice.injEq,xe,Addr.mk.injEq,ql]at ev;obtain⟨rfl,rfl,rfl⟩:=ev;have al:b∈rs:=hr.top b rfl;have ad:=run_storeCells_at P b (i*1) e [.slice a0 n0 c0] 0 cur w ak (by simp[ah];omega) (λu hu=>by simp at hu;subst hu;rfl);simp only[zL]at ad;have bf:(Instr.storeAt ty (.pointer (some ⟨b,i*1,none⟩)) (.slice a0 n0 c0)).run P w=.ok () _:=iL az (by rw[c1];rfl) ad;have bg:∀b',b'∈rs->b'≠b->(w.setRow b (cur.toList.take (i*1)++ [Value.slice a0 n0 c0]++cur.toList.drop (i*1+ [Value.slice a0 n0 c0].length)).toArray).heap[b']? =w.heap[b']? :=λb' _ ab=>setRow_other w b b' _ ab;have bh:NxU P X lo s.g μ w [(p,.rows e e3 t l (some (i,some q)))] [p] (w.setRow b (cur.toList.take (i*1)++ [Value.slice a0 n0 c0]++cur.toList.drop (i*1+ [Value.slice a0 n0 c0].length)).toArray) (lN μ p (hs.set i (.slice a0 n0 c0))):=by
         have bj:∀{l:List t.I} {cs},RepL (SS X μ) w t l cs->RepL (SS X (lN μ p (hs.set i (.slice a0 n0 c0)))) (w.setRow b (cur.toList.take (i*1)++ [Value.slice a0 n0 c0]++cur.toList.drop (i*1+ [Value.slice a0 n0 c0].length)).toArray) t l cs:=λhc=>hc.step λb' aa ao=>⟨Dz ao,setRow_other w b b' _ λe=>by subst e;exact ao.2 p _ hμ al⟩
         refine NxU.wroteR h.mem hμ al ⟨_,_,_,rfl⟩ ⟨⟨⟨by rw[C7];exact hr.own.1,.inr ⟨b,c,_,rfl,hb0,setRow_heap w b cur _ e _ ak,bd,be,?_,?_⟩⟩,hr.top,λb' aa=>⟨(hr.low b' aa).1,by simpa using(hr.low b' aa).2⟩,λu hu=>?_,λj u rr hj hu hl=>?_,λj k u z b' hj hk hu hz=>?_⟩,λi' d' bk=>?_⟩;·simp only[RE,xj,xw,tH,JP,xk,xy,ah];omega
         ·have h1:=iQ cur.toList [Value.slice a0 n0 c0] (i*1) 1 (l.length*1) rfl (by omega) (by simp[ah];omega);simp only[xk,xy,P1];rw[h1,ai,uE];rw[xfc,qi (by omega)];simp
         ·rcases xcs hu with hu|rfl;·exact hr.slc u hu
          ·exact⟨_,_,_,rfl⟩
         ·have ab:j≠i:=hj i (some q) rfl;simp only at hu;rw[xdw (xB ab)]at hu;obtain⟨m1,ys,m2,m3⟩:=hr.row j u rr (af j hj) hu hl;exact⟨m1,ys,aY m2 λb' aa=>bg b' (m1 b' aa).1 λe=>(m1 b' aa).2 (by rw[e];rfl),bj m3⟩
         ·have ab:j≠i:=hj i (some q) rfl;have ar:k≠i:=hk i (some q) rfl;simp only at hu hz;rw[xdw (xB ab)]at hu;rw[xdw (xB ar)]at hz;exact hr.apart j k u z b' (af j hj) (af k hk) hu hz
         ·cases bk;exact⟨.slice a0 n0 c0,rq,ba,by simp only;rw[VA,qi rfl,qi (by omega)],by rw[uF (xB c3)];exact bb⟩
        have h2:=h.updK (u:=⟨none,none,[(p,.rows e e3 t l (some (i,some q)))]⟩) (by simp) rfl bh (dst:=none) rfl (λd hd=>by cases hd) (x:=.bool true) (λp hp=>by cases hp);obtain⟨μ',h3⟩:=h2.freeze q;exact⟨_,μ',bf,λv=>h3⟩
    next=>cases hq
   next=>cases hq
  next=>cases hr
 ·cases hr
def nZ(μ:Nat->Option MV)(p d:Nat)(x y:Value)(q:Nat):Option MV:=
 if q=d then some ⟨y,(aD y).toList,[]⟩else if q=p then(μ p).map λmv=>⟨mv.v,mv.rs.filter λb=>decide (aD x≠some b),mv.hs⟩else μ q
theorem oR{p d q:Nat}{x y:Value}{mv:MV}(h:nZ μ p d x y q=some mv):(q=d/\mv=⟨y,(aD y).toList,[]⟩)\/(q≠d/\q=p/\∃mv0,μ p=some mv0/\mv=⟨mv0.v,mv0.rs.filter λb=>decide (aD x≠some b),mv0.hs⟩)\/(q≠d/\q≠p/\μ q=some mv):=by
 unfold nZ at h;split at h;·cases h;exact .inl ⟨by assumption,rfl⟩
 ·split at h
  ·cases ho:μ p with
   |none=>rw[ho]at h;cases h
   |some mv0=>rw[ho]at h;simp only[oG,xe]at h;exact .inr (.inl ⟨by assumption,by assumption,mv0,rfl,h.symm⟩)
  ·exact .inr (.inr ⟨by assumption,by assumption,h⟩)
theorem Ko[Tabs](hT:aW P tt)(hm:Mem P X lo g μ w){ty rt e e1 b d p i:Nat}{t:Ty}(he:tt ty=.sl e t b){l:List (List t.I)}(ay:g p=some (.rows e1 e t l none))(bk:g d=none)(bl:d≠p)(hb0:0<b){src:List t.I}(hle:((l.getD i []).length+src.length)*b<=140737488355328)
  {xv:AV} (az:oB g t xv=some src) {va x:Value} (ha:RelV P w lo μ (SS X μ) (.row p i) va) (hx:RelV P w lo μ (SS X μ) xv x):
  ∃v' w' μ',(Builtin.append_ #[ty,ty] rt #[va,x]).run P w=.ok v' w'/\NxU P X lo g μ w [(d,.arr e t (l.getD i []++src)),(p,.rows e1 e t l (some (i,none)))] [] w' μ'/\RelV P w' lo μ' (SS X μ') (.arr d) v':=by
 have hd:=hT ty;rw[he]at hd;obtain⟨hu,⟨inf,z,hi,hs,bm,hz,bn⟩,_⟩:=hd;have bo:z.cells.size=t.size:=by simpa using eU bn
 obtain⟨ax,c,news,rfl,ao,bp,ar⟩:=uP hm az hx;have br:=ao.len;have bs:μ d=none:=by
  cases bt:μ d with
  |none=>rfl
  |some mv=>obtain⟨y,hy,_⟩:=hm.ob d mv bt;rw[bk]at hy;cases hy
 cases ha with
 | @row _ _ _ v0 rs bu a0 m0 c0 hμ au=>
 obtain⟨y,hy,bw⟩:=hm.ob _ _ hμ;rw[ay]at hy;cases hy;obtain⟨hr,_⟩:=bw;have af:∀j,dU none j:=λj i k hk=>by cases hk
 obtain⟨bz,cm,ca,cb⟩:=hm.rowAt hμ au ay;have cc:l[i]? =some (l.getD i []):=by simp[xd,bz]
 obtain⟨k1,xs,ba,bb⟩:=hr.row i _ _ (af i) au cc;simp only at k1;generalize hL:l.getD i []=L at*;obtain⟨v',w',h1,h2,h3,h4,h5,h6,h7,h8,a',n',c',cd⟩:=hC (rt:=rt) (c:=c) hu hi hs bm hz bo ba (m:=src.length) (by rw[br]) bp ar ao.one hle hb0;have ak:∀k,aD (.slice a0 m0 c0)=some k->k∈rs:=λk hk=>(k1 k hk).1;have aa:∀k,aD v'=some k->k∈rs\/w.heap.size<=k:=λk hk=>(h8 k hk).imp (ak k) id;have ab:∀k,k<w.heap.size->k∉rs->w'.heap[k]? =w.heap[k]? :=λk hk hn=>h7 k hk λe=>hn (ak k e);have ae:Kept lo w w':=⟨h3,h4,h5,h6,λk hk=>ab k (hm.hlo k hk) λav=>(hr.low k av).1 hk⟩
 have bc:∀{q:Nat} {mv':MV} {k:Nat},nZ μ p d (.slice a0 m0 c0) v' q=some mv'->k∈mv'.rs->w.heap.size<=k\/∃q0 mv0,μ q0=some mv0/\k∈mv0.rs:=λ{q mv' k} hq hk=>by
  rcases oR hq with⟨rfl,rfl⟩|⟨_,rfl,mv0,h0,rfl⟩|⟨_,_,h0⟩
  ·exact(aa k (by simpa using hk)).symm.imp id λh=>⟨p,_,hμ,h⟩
  ·exact .inr ⟨_,mv0,h0,(xak.1 hk).1⟩
  ·exact .inr ⟨_,mv',h0,hk⟩
 have ad:∀k,k<w.heap.size->SS X μ k->SS X (nZ μ p d (.slice a0 m0 c0) v') k/\w'.heap[k]? =w.heap[k]? :=λk hk hS=>⟨⟨hS.1,λq mv' hq cf=>(bc hq cf).elim (λh=>by omega) λ⟨q0,mv0,z1,z2⟩=>hS.2 q0 mv0 z1 z2⟩,ab k hk (hS.2 p _ hμ)⟩
 have aw:nZ μ p d (.slice a0 m0 c0) v' d=some ⟨v',(aD v').toList,[]⟩:=by unfold nZ;rw[qi rfl]
 have cg:nZ μ p d (.slice a0 m0 c0) v' p=some ⟨v0,rs.filter λb=>decide (aD (.slice a0 m0 c0)≠some b),bu⟩:=by unfold nZ;rw[qh (xB bl),qi rfl,hμ];rfl
 have bd:∀q,q≠p->∀mv,μ q=some mv->nZ μ p d (.slice a0 m0 c0) v' q=some mv:=λq hq mv hmv=>by unfold nZ;rw[qh (λe=>by rw[e,bs]at hmv;cases hmv),qh hq];exact hmv
 have ah:Turns μ (nZ μ p d (.slice a0 m0 c0) v') []:=by
  refine⟨λq mv hq=>?_,λ_ _ hk=>(by cases hk)⟩;by_cases e:q=p;·subst e;rw[hμ]at hq;cases hq;exact⟨_,_,cg,λ_=>Ext.refl _⟩
  ·exact⟨mv.rs,mv.hs,bd q e mv hq,λ_=>Ext.refl _⟩
 refine⟨v',w',nZ μ p d (.slice a0 m0 c0) v',h1,⟨ah,λq mv hq=>?_,λq mv k hq hk=>bc hq hk,ae,λk hk hn=>ab k hk (hn (p,.rows e1 e t l (some (i,none))) (by simp) _ hμ),λg' q1 q2=>⟨hm.hX,λb hb=>yF (hm.hlo b hb) h6,λq mv hq=>?_,λq q' be bf k e1 e2 e3 e4=>?_,hm.tab.step ae.block⟩⟩,?_⟩
 ·rcases oR hq with⟨rfl,rfl⟩|⟨_,rfl,mv0,h0,rfl⟩|⟨_,_,h0⟩
  ·exact .inr ⟨_,xu,rfl⟩
  ·exact .inl ⟨mv0,h0⟩
  ·exact .inl ⟨mv,h0⟩
 ·rcases oR hq with⟨rfl,rfl⟩|⟨_,rfl,mv0,h0,rfl⟩|⟨ai,al,h0⟩
  ·refine⟨_,q1 (q,.arr e t (L++src)) (by simp),⟨rfl,rfl⟩,λk hk hl=>?_,xs++news,?_,?_⟩
   ·rcases aa k hk with h'|h';·exact(hr.low k h').1 hl
    ·have:=hm.hlo k hl;omega
   ·rw[xj];exact h2
   ·exact(bb.step λk hk hS=>ad k hk hS).append (ao.step λk hk hS=>ad k hk hS)
  ·rw[hμ]at h0;cases h0;have ai:∀k,k∈(rs.filter λb=>decide (aD (.slice a0 m0 c0)≠some b))->k∈rs/\aD (.slice a0 m0 c0)≠some k:=λk hk=>by simpa using hk
   refine⟨_,q1 (q,.rows e1 e t l (some (i,none))) (by simp),⟨aY hr.own λk hk=>h7 k ?_ λe=>(k1 k e).2 hk,λk hk=>?_,λk hk=>⟨(hr.low k (ai k hk).1).1,yF (hr.low k (ai k hk).1).2 h6⟩,hr.slc,λj y r hj hy aj=>?_,λj k y z kb hj hk=>hr.apart j k y z kb (af j) (af k)⟩,λi' d' ch=>by cases ch⟩;·exact(hr.low k (hr.top k hk)).2
   ·simp only[xak,qe];exact⟨hr.top k hk,λe=>(k1 k e).2 hk⟩
   ·obtain⟨z1,ys,z2,z3⟩:=hr.row j y r (af j) hy aj;have cj:j≠i:=hj i none rfl;have bg:∀k,aD y=some k->aD (.slice a0 m0 c0)≠some k:=λk hk e=>cj (hr.apart j i y _ k (af j) (af i) hy au hk e);refine⟨λk hk=>⟨?_,(z1 k hk).2⟩,ys,aY z2 λk hk=>h7 k (hr.low k (z1 k hk).1).2 (bg k hk),z3.step λk hk hS=>ad k hk hS⟩;simp only[xak,qe];exact⟨(z1 k hk).1,bg k hk⟩
  ·obtain⟨y,hy,ck⟩:=hm.ob q mv h0;have bh:∀q'∈ [(d,Ob.arr e t (L++src)),(p,.rows e1 e t l (some (i,none)))],q'.1≠q:=λq' aj e=>by
    simp only[xae,Ze,qm]at aj;rcases aj with rfl|rfl;·exact ai e.symm
    ·exact al e.symm
   refine⟨y,by rw[q2 q mv h0 bh,hy];rfl,ck.stepH hm.hlo (λo mv ho=>by obtain⟨rs,hs,z1,z2⟩:=ah.hs o mv ho;exact⟨rs,hs,z1,z2 (by simp)⟩) ad ae.block λk hk=>ab k (hm.lt h0 hk).2 λav=>al (hm.dis q p mv _ k h0 hμ hk av)⟩
 ·rcases oR e1 with⟨f1,f2⟩|⟨f0,f1,mv0,f2,f3⟩|⟨f0,f1,f2⟩<;>rcases oR e2 with⟨g1,g2⟩|⟨g0,g1,bj,g2,g3⟩|⟨g0,g1,g2⟩
  ·rw[f1,g1]
  ·rw[f2]at e3;rw[g3]at e4;rw[hμ]at g2;cases g2;simp only[xak,qe]at e4;rcases h8 k (by simpa using e3)with h'|h';·exact absurd h' e4.2
   ·have:=(hr.low k e4.1).2;omega
  ·rw[f2]at e3;rcases aa k (by simpa using e3)with h'|h';·exact absurd (hm.dis q' p bf _ k g2 hμ e4 h') g1
   ·have:=(hm.lt g2 e4).2;omega
  ·rw[g2]at e4;rw[f3]at e3;rw[hμ]at f2;cases f2;simp only[xak,qe]at e3;rcases h8 k (by simpa using e4)with h'|h';·exact absurd h' e3.2
   ·have:=(hr.low k e3.1).2;omega
  ·rw[f1,g1]
  ·rw[f3]at e3;exact absurd (hm.dis p q' mv0 bf k f2 g2 (xak.1 e3).1 e4).symm g1
  ·rw[g2]at e4;rcases aa k (by simpa using e4)with h'|h';·exact absurd (hm.dis q p be _ k f2 hμ e3 h') f1
   ·have:=(hm.lt f2 e3).2;omega
  ·rw[g3]at e4;exact absurd (hm.dis q p be bj k f2 g2 e3 (xak.1 e4).1) f1
  ·exact hm.dis _ _ _ _ k f2 g2 e3 e4
 ·subst cd;exact .arr aw
theorem xG[Tabs](hT:aW P tt)(hm:Mem P X lo g μ w){ty rt d p i:Nat}{xv:AV}{u:LU}(hq:(gS tt g d ty p i xv).ev=some u){va x:Value}(ha:RelV P w lo μ (SS X μ) (.row p i) va)(hx:RelV P w lo μ (SS X μ) xv x):
  u.und=none/\some d=u.d.map (·.1)/\(u.objs.map (·.1)).Nodup/\cT g u.objs=[]/\∃v' w' μ',(Builtin.append_ #[ty,ty] rt #[va,x]).run P w=.ok v' w'/\NxU P X lo g μ w u.objs [] w' μ'/\∀q,u.d=some q->RelV P w' lo μ' (SS X μ') q.2 v':=by
 unfold gS at hq;split at hq
 ·rename_i e t b e1 e2 t2 l he af ab
  split at hq
  next src r ad aa=>
   obtain⟨et,hr⟩:=Ty.cast_spec aa;cases et;have hr:r=l.getD i []:=hr;subst hr;split at hq
   next hc=>
    obtain⟨rfl,hb0,ae⟩:=hc;obtain⟨hle,hq⟩:=ev_g hq;simp only[qe]at hle;simp only[qq,xe]at hq;subst hq;obtain⟨v',w',μ',k1,k2,k3⟩:=Ko (rt:=rt) hT hm he af ab ae hb0 hle ad ha hx;exact⟨rfl,rfl,by simp[ae],by simp[cT,uY,ab],v',w',μ',k1,k2,λq hq=>by cases hq;exact k3⟩
   next=>cases hq
  next=>cases hq
 ·cases hq
def again(μ:Nat->Option MV)(o:Nat)(v:MV)(p:Nat):Option MV:=if p=o then some v else μ p
theorem iS{o p:Nat}{v mv:MV}(h:p≠o)(hp:μ p=some mv):again μ o v p=some mv:=by simp[again,h,hp]
theorem cD{o:Nat}{v:MV}:again μ o v o=some v:=by simp[again]
theorem aP{o p:Nat}{v mv:MV}(h:again μ o v p=some mv):(p=o/\mv=v)\/(p≠o/\μ p=some mv):=by
 unfold again at h;split at h;·cases h;exact .inl ⟨by assumption,rfl⟩
 ·exact .inr ⟨by assumption,h⟩
structure NxA(P:Program)(X:Nat->Prop)(lo:Nat->Prop)(μ:Nat->Option MV)(w:World)(o:Nat)(x:Ob)(w':World)(mv:MV):Prop where
 kept:Kept lo w w'
 data:∀b,b<w.heap.size->SS X μ b->SS X (again μ o mv) b/\w'.heap[b]? =w.heap[b]?
 ob:ObOK P w' lo (again μ o mv) (SS X (again μ o mv)) x mv
 roots:∀k,k∈mv.rs->(∃mv0,μ o=some mv0/\k∈mv0.rs)\/w.heap.size<=k
 same:∀k,k<w.heap.size->(∀mv0,μ o=some mv0->k∉mv0.rs)->w'.heap[k]? =w.heap[k]?
theorem NxA.dis[Tabs](hm:Mem P X lo g μ w){o:Nat}{x:Ob}{w':World}{mv:MV}(h:NxA P X lo μ w o x w' mv):∀p q aa ab k,again μ o mv p=some aa->again μ o mv q=some ab->k∈aa.rs->k∈ab.rs->p=q:=by
 intro p q aa ab k h1 h2 h3 h4;rcases aP h1 with⟨e1,e2⟩|⟨ae,k1⟩<;>rcases aP h2 with⟨e3,e4⟩|⟨ad,k2⟩
 ·rw[e1,e3]
 ·rw[e2]at h3;rcases h.roots k h3 with⟨mv0,z1,z2⟩|hge;·rw[e1];exact hm.dis _ _ _ _ k z1 k2 z2 h4
  ·have:=(hm.lt k2 h4).2;omega
 ·rw[e4]at h4;rcases h.roots k h4 with⟨mv0,z1,z2⟩|hge;·rw[e3];exact hm.dis _ _ _ _ k k1 z1 h3 z2
  ·have:=(hm.lt k1 h3).2;omega
 ·exact hm.dis _ _ _ _ k k1 k2 h3 h4
theorem NxA.other[Tabs](hm:Mem P X lo g μ w){o:Nat}{x:Ob}{w':World}{mv:MV}(h:NxA P X lo μ w o x w' mv){p:Nat}{aa:MV}(hp:μ p=some aa)(ab:p≠o):∀k,k∈aa.rs->w'.heap[k]? =w.heap[k]? :=λk hk=>
 h.same k (hm.lt hp hk).2 λmv0 h0 ad=>ab (hm.dis p o aa mv0 k hp h0 hk ad)
theorem Rel.appd[Tabs]{s:St}(h:Rel P X lo N w0 s a w μ){o:Nat}{x:Ob}{w':World}{mv':MV}(h2:NxA P X lo μ w o x w' mv'):
  Rel P X lo N w0 {fr:=s.fr.map (λp=>(p.1,yN o .undef p.2)),ob:=(o,x)::(s.ob.filter λp=> !(Nat.beq p.1 o)).map λp=>(p.1,fW o .undef p.2)} a w' (again μ o mv'):=by
 have ad:∀p mv,p≠o->μ p=some mv->Go.Proofs.YtjiljcblmgeioaaGreatDoor.again μ o mv' p=some mv:=λp mv aa hp=>iS aa hp;have ab:=h2.kept.block;refine⟨⟨h.mem.hX,λb hb=>yF (h.mem.hlo b hb) h2.kept.size,λp mv hp=>?_,h2.dis h.mem,h.mem.tab.step h2.kept.block⟩,λi=>?_,h.bel.trans h2.kept,h.df,h.sz⟩
 ·rcases aP hp with⟨rfl,rfl⟩|⟨aa,hp⟩
  ·exact⟨x,by simp[St.g,aM],h2.ob⟩
  ·obtain⟨y,hy,ae⟩:=h.mem.ob p mv hp;refine⟨fW o .undef y,?_,?_⟩;·simp only[St.g,aM,aZ (xB aa),bZ];rw[dC o s.ob p aa];simp only[St.g]at hy;rw[hy];rfl
   ·exact(jW (d:=.undef) h.mem.hlo ad (λ_ _=>.undef) (λ_ _ h=>h) ae).step h.mem.hlo (λ_ _ h=>h) h2.data ab (h2.other h.mem hp aa)
 ·simp only[St.slot,bZ];have:=mJ (d:=.undef) h.mem.hlo ad (λ_ _=>.undef) (λ_ _ h=>h) (h.fr i);simp only[St.slot]at this;cases hl:aM s.fr i with|none=>exact .undef|some v=>rw[hl]at this;exact this.step (λ_ _ h=>h) h.mem.hlo h2.data ab
theorem Rel.newOb[Tabs]{s:St}(h:Rel P X lo N w0 s a w μ){d:Nat}(aa:N.has d)(hg:s.g d=none){x:Ob}{v:Value}{w':World}(hx:Nx P X lo s.g μ w (.arr d,[(d,x)]) v w'):∃μ',Rel P X lo N w0 {fr:=(d,.arr d)::s.fr,ob:=(d,x)::s.ob} (a.put (some d) v) w' μ':=by
 have hμ:∀p∈ [(d,x)],μ p.1=none:=λp hp=>by
  simp only[xo]at hp;subst hp;cases hm:μ d with
  |none=>rfl
  |some mv=>obtain⟨y,hy,_⟩:=h.mem.ob d mv hm;rw[hg]at hy;cases hy
 obtain⟨μ',k1,k2⟩:=NxU.of h.mem hμ hx;exact⟨μ',h.upd (u:=⟨some (d,.arr d),none,[(d,x)]⟩) (by simp) rfl k1 rfl (λd' ab=>by cases ab;exact aa) λp hp=>by cases hp;exact k2⟩
theorem Ft[Tabs](hT:aW P tt){s s':St}(h:Rel P X lo N w0 s a w μ){ty d:Nat}{nv cv:AV}(hq:(x9 tt ty nv cv d s).ev=some s')(ae:N.has d){vn vc:Value}(hn:RelV P w lo μ (SS X μ) nv vn)(hc:RelV P w lo μ (SS X μ) cv vc):
  ∃v w' μ',(Instr.makeSlice ty vn vc).run P w=.ok v w'/\Rel P X lo N w0 s' (a.put (some d) v) w' μ':=by
 unfold x9 at hq;split at hq
 ·rename_i k n k' c e te b ao ab
  split at hq
  next e2 t b2 ar=>
   split at hq
   next aj=>
    obtain⟨hb,hq⟩:=ev_g hq;simp only[xf,qe]at hb;obtain⟨⟨af,ah⟩,ai⟩:=hb;have e1:=hn.int;have au:=hc.int;subst e1;subst au;have ak:=hT ty;have al:=hT e;rw[ao]at ak;rw[ar]at al;obtain⟨hu,⟨i,z,h1,h2,h3,h4,h5⟩,_⟩:=ak;obtain⟨_,_,i',h6,h7,h8⟩:=al;rw[h1]at h6;cases h6;rw[h4]at h8;cases h8;simp only[qq,xe]at hq;subst hq;exact mk h ab ae hu h1 h7 h3 h4 n c af ah ai aj.2
   next=>cases hq
  next=>cases hq
 ·cases hq
where
 mk {s:St} {ty d e e2 b:Nat} {t:Ty} {i:TypeInfo} {k k':IntKind} (h:Rel P X lo N w0 s a w μ) (ab:s.g d=none) (ae:N.has d) (hu:P.underlying ty=some (.slice e)) (h1:P.info? e=some i) (h7:i.size=1) (h3:i.bytes=b) (h4:i.zero=some (.slice none 0 0))
   (n c:Int) (af:0<=n) (ah:n<=c) (ai:(b:Int)*c<=281474976710656) (hb0:0<b):
   ∃v w' μ',(Instr.makeSlice ty (.int k n) (.int k' c)).run P w=.ok v w'/\Rel P X lo N w0 {fr:=(d,.arr d)::s.fr,ob:=(d,.rows e e2 t (List.replicate n.toNat []) none)::s.ob} (a.put (some d) v) w' μ':=by
  have aw:c<=281474976710656:=by have h0:(1:Int)*c<=(b:Int)*c:=xdj (by omega) (by omega);omega
  have ad:=run_make (P:=P) w ty e i (.slice none 0 0) hu h1 h4 k k' n c af ah (by rw[h3];exact ai) (by omega);rw[h7]at ad;have aa:∀x∈(madeCells (Value.slice none 0 0).cells (Int.toNat c*1)).toList,x=Value.slice none 0 0:=λx hx=>by simp only[madeCells,Array.toList_map,xaf]at hx;obtain⟨j,_,rfl⟩:=hx;simp[Value.cells,Nat.mod_one]
  have av:μ d=none:=by
   cases hm:μ d with
   |none=>rfl
   |some mv=>obtain⟨y,hy,_⟩:=h.mem.ob d mv hm;rw[ab]at hy;cases hy
  have hx:=rF (e:=e) (e2:=e2) h.mem (d:=d) (t:=t) (l:=List.replicate (Int.toNat n) []) (h:=none) (cur:=madeCells (Value.slice none 0 0).cells (Int.toNat c*1)) (cap:=Int.toNat c) av
   (by simp[madeCells]) (by simp;omega) (by unfold maxLen;omega) (λx hx=>⟨_,_,_,aa x (Wi hx)⟩)
   (λj x r _ hx hl=>⟨aa x (Wi (xz hx)),by have:=xz hl;exact(List.mem_replicate.1 this).2⟩) (λi p hi=>by cases hi)
  rw[Rn]at hx;obtain⟨μ',k1⟩:=h.newOb ae ab hx;exact⟨_,_,μ',ad,k1⟩
theorem S7[Tabs](hT:aW P tt){s s':St}(h:Rel P X lo N w0 s a w μ){ty n d:Nat}{ps:List (Nat×AV)}(hq:(vZ tt ty n ps d s).ev=some s')(ak:N.has d){qs:Array (Nat×Value)}(ae:qs.toList.map (·.1)=ps.map (·.1))
  (hr:∀(j:Nat) (p:Nat×AV),ps[j]? =some p->∃q:Nat×Value,qs.toList[j]? =some q/\RelV P w lo μ (SS X μ) p.2 q.2):
  ∃v w' μ',(Instr.buildSlice ty n qs).run P w=.ok v w'/\Rel P X lo N w0 s' (a.put (some d) v) w' μ':=by
 have free:s.g d=none->μ d=none:=λaa=>by
  cases hm:μ d with
  |none=>rfl
  |some mv=>obtain⟨y,hy,_⟩:=h.mem.ob d mv hm;rw[aa]at hy;cases hy
 unfold vZ at hq;split at hq
 ·rename_i e te b ah aa
  split at hq
  next e2 t b2 ar=>
   split at hq
   next ab=>
    simp only[qq,xe]at hq;subst hq;have ad:=hT ty;rw[ah]at ad;obtain⟨hu,⟨i,z,h1,h2,h3,h4,h5⟩,_⟩:=ad;have af:qs= #[]:=by apply xhi;have:=congrArg List.length ae;simpa using this
    subst af;have hx:=rF (e:=e) (e2:=e2) h.mem (d:=d) (t:=t) (l:=[]) (h:=none) (cur:= #[]) (cap:=0) (free aa) rfl (xm _) (by unfold maxLen;omega) (λx hx=>by simp at hx) (λj x r _ hx=>by simp at hx) (λi p hi=>by cases hi);obtain⟨μ',k1⟩:=h.newOb ak aa hx;refine⟨_,_,μ',?_,k1⟩;simp[Instr.buildSlice,run_underlying hu,sizeOf,typeInfo,h1,h2,newRow,Instr.fill,Array.range_zero']
   next=>cases hq
  next=>cases hq
 ·rename_i e te b p ah aa
  split at hq
  next e2 t b2 e3 t3 lp ar ba=>
   split at hq
   next ab=>
    simp only[qq,xe]at hq;subst hq;have ad:=hT ty;rw[ah]at ad;obtain⟨hu,⟨i,z,h1,h2,h3,h4,h5⟩,_⟩:=ad;obtain⟨q,ai,al⟩:=hr 0 (0,.arr p) rfl;have af:qs= #[q]:=by
     apply xhi;have hl:=congrArg List.length ae;simp only[Gi,xk,xy]at hl
     match au:qs.toList,hl with
     | [y],_=>rw[au]at ai;simp at ai;subst ai;rfl
    have ao:q.1=0:=by rw[af]at ae;simpa using ae
    subst af;obtain⟨q0,x⟩:=q;simp only at ao al;subst ao;cases al with
    | @arr _ _ a0 n0 c0 rp av aw=>
     have hx:=rF (e:=e) (e2:=e2) h.mem (d:=d) (t:=t) (l:=[[]]) (h:=some (0,some p)) (cur:= #[.slice a0 n0 c0]) (cap:=1) (free aa) rfl (xm _) (by unfold maxLen;omega)
      (λx hx=>by simp at hx;exact⟨_,_,_,hx⟩) (λj x r hj hx hl=>by
       have ay:j≠0:=hj 0 (some p) rfl;cases j with
       |zero=>exact absurd rfl ay
       |succ j=>simp at hl) (λi p' hi=>by cases hi;exact⟨_,rp,av,rfl,aw⟩)
     obtain⟨μ',k1⟩:=h.newOb ak aa hx;refine⟨_,_,μ',?_,k1⟩;have az:i.size=1:=h2.trans ab.1;have bb:z.cells.size=1:=by have:=eU h5;simpa[ab.1]using this
     have aj:Instr.fill (λi=>some (i,1)) (Array.map (λx=>z.cells[x % z.cells.size]!) (Array.range 1)) [(0,Value.slice a0 n0 c0)]=some #[Value.slice a0 n0 c0]:=by
      have key:∀(A:Array Value) (v:Value),A.size=1->A.setIfInBounds 0 v= #[v]:=λA v h=>by
       obtain⟨l⟩:=A
       match l,h with
       | [y],_=>rfl
      simp[Instr.fill,Value.cells];exact key _ _ (by simp)
     simp[Instr.buildSlice,run_underlying hu,sizeOf,typeInfo,zeroValue,h1,az,h4,aj,newRow]
   next=>cases hq
  next=>cases hq
 ·cases hq
theorem Rel.pullG[Tabs]{s:St}(h:Rel P X lo N w0 s a w μ){p d k e2:Nat}{t:Ty}{r:List t.I}{x:Value}{mv:MV}(ab:μ p=some mv)(aj:s.g d=none)(aw:d≠p)(hx:a.tmps.getD k undef=x)
  (ad:∀b,aD x=some b->b∈mv.rs) (ae:∃xs,w.ownsRow 0 e2 t.size x r.length xs/\RepL (SS X μ) w t r xs) (ak:∃a n c,x=.slice a n c):
  ∃μ',Rel P X lo N w0 {fr:=(k,.arr d)::(s.swap p .undef []).fr,ob:=(d,.arr e2 t r)::(s.swap p .undef []).ob} a w μ':=by
 have al:μ d=none:=by
  cases hm:μ d with
  |none=>rfl
  |some mv'=>obtain⟨y,hy,_⟩:=h.mem.ob d mv' hm;rw[aj]at hy;cases hy
 obtain⟨xs,k2,k3⟩:=ae;obtain⟨a0,n0,c0,ao⟩:=ak;have hinv:∀{q mv'},again (bJ μ p) d ⟨x,(aD x).toList,[]⟩ q=some mv'->(q=d/\mv'=⟨x,(aD x).toList,[]⟩)\/(q≠d/\q≠p/\μ q=some mv'):=λ{q mv'} hq=>by
  rcases aP hq with⟨rfl,rfl⟩|⟨aa,hq⟩
  ·exact .inl ⟨rfl,rfl⟩
  ·obtain⟨h1,h2⟩:=eH hq;exact .inr ⟨aa,h1,h2⟩
 have hμ:∀q mv',q≠p->μ q=some mv'->again (bJ μ p) d ⟨x,(aD x).toList,[]⟩ q=some mv':=λq mv' aa hq=>iS (λe=>by rw[e,al]at hq;cases hq) (kP aa hq);have hS:∀b,b<w.heap.size->SS X μ b->SS X (again (bJ μ p) d ⟨x,(aD x).toList,[]⟩) b:=λb _ hs=>⟨hs.1,λq mv' hq hb=>by
  rcases hinv hq with⟨rfl,rfl⟩|⟨_,_,h0⟩
  ·exact hs.2 p mv ab (ad b (by simpa using hb))
  ·exact hs.2 q mv' h0 hb⟩
 refine⟨again (bJ μ p) d ⟨x,(aD x).toList,[]⟩,⟨h.mem.hX,h.mem.hlo,λq mv' hq=>?_,λq q' af ah b h1 h2 h3 h4=>?_,h.mem.tab⟩,λj=>?_,h.bel,h.df,h.sz⟩
 ·rcases hinv hq with⟨rfl,rfl⟩|⟨aa,ar,h0⟩
  ·exact⟨.arr e2 t r,by simp[St.g,aM],⟨rfl,rfl⟩,λb hb=>(h.mem.lt ab (ad b hb)).1,xs,k2,k3.step λb hb hs=>⟨hS b hb hs,rfl⟩⟩
  ·obtain⟨y,hy,au⟩:=h.mem.ob q mv' h0;refine⟨fW p .undef y,?_,jW h.mem.hlo hμ (λ_ _=>.undef) hS au⟩;simp only[St.g,St.swap,J8,aM,aZ (xB aa),bZ];rw[dC p s.ob q ar];simp only[St.g]at hy;rw[hy];rfl
 ·rcases hinv h1 with⟨e1,rfl⟩|⟨n1,p1,g1⟩<;>rcases hinv h2 with⟨av,rfl⟩|⟨n2,p2,g2⟩
  ·rw[e1,av]
  ·exact absurd (h.mem.dis p q' mv ah b ab g2 (ad b (by simpa using h3)) h4).symm p2
  ·exact absurd (h.mem.dis q p af mv b g1 ab h3 (ad b (by simpa using h4))) p1
  ·exact h.mem.dis q q' af ah b g1 g2 h3 h4
 ·simp only[St.slot,aM];by_cases ai:k=j;·subst ai;rw[bC,hx,ao];exact .arr (rs:=(aD (Value.slice a0 n0 c0)).toList) (hs:=[]) (by rw[cD])
  ·rw[aZ ai];simp only[St.swap,bZ];have:=mJ (d:=.undef) h.mem.hlo hμ (λ_ _=>.undef) hS (h.fr j);simp only[St.slot]at this;cases hl:aM s.fr j with|none=>exact .undef|some v=>rw[hl]at this;exact this
theorem Rel.pull[Tabs]{s:St}(h:Rel P X lo N w0 s a w μ)(k d:Nat):∃μ',Rel P X lo N w0 (s.pull k d) a w μ':=by
 unfold St.pull;split
 next p i hk=>
  have hv:=h.fr k;rw[hk]at hv;generalize hy:a.tmps.getD k undef=y at hv;split
  next kp e e2 t ix l ab aa=>
   cases hv with
   | @row _ _ _ v0 rs ae a0 m0 c0 hμ hx=>obtain⟨_,h1,h2⟩:=h.mem.rowAtP hμ hx ab;exact h.pullG hμ aa (λe=>by rw[e,ab]at aa;cases aa) hy h1 h2 ⟨_,_,_,rfl⟩
  next e e2 t l ab aa=>
   cases hv with
   | @row _ _ _ v0 rs ae a0 m0 c0 hμ hx=>obtain⟨hi,h2⟩:=h.mem.rowAt hμ hx ab;obtain⟨y,ad,af⟩:=h.mem.ob _ _ hμ;rw[ab]at ad;cases ad;obtain⟨h1,_⟩:=af.1.row i _ (l.getD i []) (λj k hk=>by cases hk) hx (by simp[xd,hi]);exact h.pullG hμ aa (λe=>by rw[e,ab]at aa;cases aa) hy (λb hb=>(h1 b hb).1) h2 ⟨_,_,_,rfl⟩
  next=>exact⟨μ,h⟩
 next=>exact⟨μ,h⟩
end
end
end Go.Proofs.YtjiljcblmgeioaaGreatDoor
