/- A part of the proof that FnReplay hands back true, at every argument of the row. -/
import Derived.Test.YtjiljcblmgeioaaGreatDoorB20
import Derived.ProofKit
import Derived.Lib.Bytealg
import Derived.Test.YtjiljcblmgeioaaGreatDoorShelf
import Derived.Test.YtjiljcblmgeioaaGreatDoorTie
import Derived.Lib.LaidTab
import Derived.Lib.LaidU8
import Derived.LaidSub
import Derived.ChangeSame
import Derived.ChangeVars
import Derived.JoinedOf
import Derived.RowKit
namespace Go.Proofs.YtjiljcblmgeioaaGreatDoor
set_option linter.all false
section
open Go.RowKit (Below)
section
variable {P:Program}{E:Env}{tt:Nat->TD}{fz:Nat->List Nat}{ops:Array Oper}{p:Nat}{s0:FS}{us:List (LU×List Nat)}{an:Nat->List Nat}
 {X:Nat->Prop} {lo:Nat->Prop} {N:Par} {w0:World}
def gN(listed:Array Bool)(m:Nat):Bool:=match listed[m]? with
 |some true=>true
 |_=>false
theorem selOf_iff{listed:Array Bool}{m:Nat}:gN listed m=true↔listed[m]? =some true:=by
 unfold gN;split
 next h=>simp[h]
 next h=>exact⟨λe=>(by cases e),λe=>absurd e h⟩
theorem Sz[Tabs]{listed:Array Bool}{i:Nat}(hi:i<listed.size):gN (listed.setIfInBounds i true)=λm=>gN listed m||Nat.beq i m:=by
 funext m;by_cases e:i=m;·subst e;rw[bC,Bool.or_true];exact selOf_iff.2 (by rw[sJ hi];simp)
 ·rw[aZ e,xeh];unfold gN;rw[sJ hi,qh e]
structure Inv[Tabs](P:Program)(X:Nat->Prop)(lo:Nat->Prop)(N:Par)(w0:World)(ops:Array Oper)(p:Nat)(s0:FS)(us:List (LU×List Nat))(listed:Array Bool)(a:Act)(w:World):Prop where
 size:listed.size=ops.size
 low:∀i,p<=i->listed[i]? ≠some true
 closed:∀(i:Nat) (o:Oper),listed[i]? =some true->ops[i]? =some o->∀e∈bP o,listed[e]? =some true
 rel:∃μ,RelF P X lo N w0 (aI s0 us (gN listed) p).1 (aI s0 us (gN listed) p).2 a w μ
theorem Rb{o:Oper}{t:Nat}(h:Operand.tmp t∈o.op.operands):t∈o.looksAt ops:=by unfold Oper.looksAt;refine D1 _ (List.mem_filterMap.2 ⟨.tmp t,by simpa using h,rfl⟩)
theorem Bu{o:Oper}{j dj:Nat}{want:Bool}(h:o.guard=some (j,want))(hj:(ops[j]?).bind (·.dst)=some dj):dj∈o.looksAt ops:=by unfold Oper.looksAt;refine Bt _ ?_;simp only[h,hj];simp
theorem Plan.anc_in(h:Plan E tt ops p s0 us an){listed:Array Bool}(hc:∀(i:Nat) (o:Oper),listed[i]? =some true->ops[i]? =some o->∀e∈bP o,listed[e]? =some true)(hz:listed.size=ops.size):
  ∀{i:Nat},listed[i]? =some true->∀n∈an i,listed[n]? =some true:=by
 intro i;induction i using Nat.strongRecOn with
 |_ i ih=>
  intro hi n hn;have aa:i<ops.size:=by rw[<-hz];exact(xba.1 hi).1
  have ho:ops[i]? =some ops[i]:=F3 aa;rcases h.anc i _ ho n hn with h1|⟨e,he,ab⟩
  ·exact hc i _ hi ho n h1
  ·exact ih e (h.back i _ ho e he) (hc i _ hi ho e he) n ab
structure Agree(ops:Array Oper)(s0:FS)(us:List (LU×List Nat))(an:Nat->List Nat)(p:Nat)(sel:Nat->Bool)(i:Nat)(o:Oper)(x:LU×List Nat):Prop where
 sl:∀t,t∈o.looksAt ops->(aI s0 us sel p).1 t=(aI s0 us (λ_=>true) i).1 t
 ob:∀n,n∈A2 ops us i\/n∈x.1.ids->(aI s0 us sel p).2 n=(aI s0 us (λ_=>true) i).2 n
 add:aI s0 us (λm=>sel m||Nat.beq i m) p=vD (aI s0 us sel p) x.1
theorem Plan.agree[Tabs](h:Plan E tt ops p s0 us an){listed:Array Bool}{a:Act}{w:World}(hi:Inv P X lo N w0 ops p s0 us listed a w){i:Nat}(ao:i<p){o:Oper}(ho:ops[i]? =some o)(hn:listed[i]? ≠some true)(he:∀e∈bP o,listed[e]? =some true)
  {x:LU×List Nat} (hx:aQ us i=some x):Agree ops s0 us an p (gN listed) i o x/\(∀n∈an i,listed[n]? =some true)/\∀m,listed[m]? =some true->i∉an m:=by
 have ai:∀n∈an i,listed[n]? =some true:=λn hn=>by
  rcases h.anc i _ ho n hn with h1|⟨e,ar,af⟩
  ·exact he n h1
  ·exact h.anc_in hi.closed hi.size (he e ar) n af
 have ad:∀m,listed[m]? =some true->i∉an m:=λm hm au=>hn (h.anc_in hi.closed hi.size hm i au);have aj:gN listed i=false:=by
  cases hs:gN listed i with
  |true=>exact absurd (selOf_iff.1 hs) hn
  |false=>rfl
 have ak:∀m y,aQ us m=some y->∃om,ops[m]? =some om:=λm y hy=>by
  have:m<us.length:=by rw[aA]at hy;exact(xq.1 hy).1
  exact⟨_,F3 (yF (by rw[<-h.len];exact this) h.le)⟩
 have eT:aI s0 us (λ_=>true) i=aI s0 us (λm=>decide (m<i)) p:=by rw[sV (sel:=λm=>decide (m<i)) (i:=i) (n:=p) (by omega) λm x h1 _ _=>by simp;omega];exact pH λm hm=>by simp[hm]
 have ab:∀m y,m<p->aQ us m=some y->gN listed m≠decide (m<i)->(∀t∈y.1.touch,t∉o.looksAt ops)/\∀n∈y.1.ids,n∉A2 ops us i/\n∉x.1.ids:=by
  intro m y hm hy aa;obtain⟨om,ae⟩:=ak m y hy;rcases Nat.lt_trichotomy m i with al|heq|hgt
  ·have ah:listed[m]? ≠some true:=λhl=>aa (by rw[selOf_iff.2 hl];simp[al]);rcases h.pair m i om o y x al ae ho hy hx with h1|⟨h1,_,h3,_⟩
   ·exact absurd (ai m h1) ah
   ·exact⟨λt ht=>(h1 t ht).1,h3⟩
  ·subst heq;rw[aj]at aa;simp at aa
  ·have ah:listed[m]? =some true:=by
    cases hs:gN listed m with
    |true=>exact selOf_iff.1 hs
    |false=>rw[hs]at aa;simp at aa;omega
   rcases h.pair i m o om x y hgt ho ae hx hy with h1|⟨_,h2,h3,h4⟩
   ·exact absurd h1 (ad m ah)
   ·exact⟨λt ht=>h2 t ht,λn hn=>⟨h4 n hn,λaf=>(h3 n af).2 hn⟩⟩
 refine⟨⟨λt ht=>?_,λn hn=>?_,G9 hx aj ao λm y h1 h2 hy hs=>?_⟩,ai,ad⟩;·rw[eT];exact Li (T:=λt=>t∈o.looksAt ops) (λm y hm hy aa t ht h'=>(ab m y hm hy aa).1 t h' ht) t ht
 ·rw[eT];exact Qb (T:=λn=>n∈A2 ops us i\/n∈x.1.ids) (λm y hm hy aa n hn h'=>hn.elim ((ab m y hm hy aa).2 n h').1 ((ab m y hm hy aa).2 n h').2) n hn
 ·obtain⟨om,ae⟩:=ak m y hy;rcases h.pair i m o om x y h1 ho ae hx hy with h3|⟨h3,_,h5,_⟩
  ·exact absurd h3 (ad m (selOf_iff.1 hs))
  ·exact⟨λt ht=>(h3 t ht).2,λn hn=>(h5 n hn).2⟩
theorem NxU.none[Tabs]{g:Nat->Option Ob}{μ:Nat->Option MV}{w:World}(hm:Mem P X lo g μ w):NxU P X lo g μ w [] [] w μ:=
 ⟨⟨λ_ mv h=>⟨mv.rs,mv.hs,h,λ_=>Ext.refl _⟩,λ_ _ hk=>(by cases hk)⟩,λ_ mv h=>.inl ⟨mv,h⟩,λo mv _ h hb=>.inr ⟨o,mv,h,hb⟩,Kept.refl _ _,λ_ _ _=>rfl,λ_ _ h=>hm.other λo mv ho=>(h o mv ho λ_ hp=>(by cases hp)).trans (by cases g o<;>rfl)⟩
theorem Lb{g:Nat->Option Ob}{l:List Nat}:∀{n:Nat},∀x∈l,x∈DT g n l
 |0,_,hx=>hx
 |_+1,_,hx=>D1 _ hx
theorem Inv.step[Tabs](hE:jG P E)(hT:aW P tt)(hN:∀(j:Nat) (o:Oper) d,ops[j]? =some o->o.dst=some d->N.has d)(h:Plan E tt ops p s0 us an){listed:Array Bool}{a:Act}{w:World}
  (hi:Inv P X lo N w0 ops p s0 us listed a w) {i:Nat} (bc:i<p) (hr:i∈Region.ready .any ops listed) {K:Act->World->Prop} {Qx:Exit->Act->World->Prop}
  (hK:∀a' w',Inv P X lo N w0 ops p s0 us (listed.setIfInBounds i true) a' w'->K a' w'):wpOp P ops Qx i K a w:=by
 obtain⟨o,ho,hn,he⟩:=(iC hi.size).1 hr;have bd:i<listed.size:=by rw[hi.size];exact yF bc h.le
 obtain⟨x,hx⟩:∃x,aQ us i=some x:=by rw[aA];exact⟨_,xh (by rw[h.len];exact bc)⟩
 obtain⟨b,be⟩:=h.step i o x ho hx;obtain⟨af,bh,aw⟩:=h.agree hi bc ho hn he hx;obtain⟨μ,aa⟩:=hi.rel;generalize hS:aI s0 us (gN listed) p=S at*;have put:∀{v:Value} {w':World} {μ':Nat->Option MV},RelF P X lo N w0 (vD S x.1).1 (vD S x.1).2 (a.put o.dst v) w' μ'->K (a.put o.dst v) w':=by
  intro v w' μ' au;refine hK _ _ ⟨by simp[hi.size],λj hj=>?_,λj oj hj ah e bj=>?_,μ',?_⟩;·rw[sJ bd,qh (by omega)];exact hi.low j hj
  ·rw[sJ bd]at hj⊢;split;·rfl
   ·split at hj
    next e'=>subst e';rw[ho]at ah;cases ah;exact he e bj
    next=>exact hi.closed j oj hj ah e bj
  ·rw[Sz bd,af.add,hS];exact au
 unfold wpOp;simp only[ho];have ay:b=true->o.wp P a w K Qx:=by
  intro hb;obtain⟨c,ab,bs,ai,bt⟩:=be.run hb;have hf:∀z∈o.op.operands,iY S.1 z=iY (aI s0 us (λ_=>true) i).1 z:=λz hz=>by
   cases z with
   |tmp t=>exact hS▸af.sl t (Rb hz)
   |_=>rfl
  have aj:∀z∈o.op.operands,∀n∈A4 (iY (aI s0 us (λ_=>true) i).1 z),n∈x.2:=λz hz n hn=>by rw[bs];exact Lb n (xes.2 ⟨z,by simpa using hz,hn⟩)
  have ad:(wM E tt S.2 (iY S.1) o c).ev=some x.1:=by
   cases c with
   |true=>exact IB hf ab
   |false=>
   show(vF E tt S.2 (iY S.1) o).ev=some x.1;have ab:(vF E tt (aI s0 us (λ_=>true) i).2 (iY (aI s0 us (λ_=>true) i).1) o).ev=some x.1:=ab;rcases Qv ho hx with bk|hmv|⟨hlo,bl⟩
   ·by_cases bf:sG o=true;·exact GB bf hf (λz hz n hn=>hS▸af.ob n (.inl (by rw[bk];exact aj z hz n hn))) ab λq hq=>hS▸af.ob q.1 (.inr (xde hq))
    have ai:oP (aI s0 us (λ_=>true) i).2 x.2=true:=by rw[Bool.not_eq_true]at bf;rw[bf]at ai;simpa using ai
    have hD:Dep (λn=>n∈x.2) (aI s0 us (λ_=>true) i).2 S.2:=⟨λn hn=>hS▸af.ob n (.inl (by rw[bk];exact hn)),λn y hn hy k hk=>by unfold oP at ai;have:=xt.1 ai n hn;rw[hy]at this;exact has_iff.1 (xt.1 this k hk)⟩
    exact MY hD hf aj ab λq hq=>hS▸af.ob q.1 (.inr (xde hq))
   ·exact EJ hmv hf ab
   ·refine QG hlo hf (λz hz n hn=>?_) ab;have bu:∀k x,aQ us k=some x->∃o,ops[k]? =some o:=λk x hk=>by
     have:k<us.length:=by rw[aA]at hk;exact(xq.1 hk).1
     exact⟨_,F3 (yF (by rw[<-h.len];exact this) h.le)⟩
    have hl:=λsel m=>Sx (s0:=s0) (us:=us) h.step bu (n:=n) (λk y ok h1 h2 h3=>bl n (aj z hz n hn) k y ok h1 h2 h3) sel m;exact(hl (λ_=>true) i).symm.trans (hS▸hl (gN listed) p)
  cases ak:fJ o with
  |false=>
   obtain⟨k1,k2,k3,k4⟩:=LQ hE hT aa.mem (bN aa.fr) ak ad;have az:cT S.2 x.1.objs=[]:=by rw[<-bt];unfold cT;congr 1;refine List.filter_congr λq hq=>?_;unfold uY;rw[<-af.ob q.1 (.inr (xde hq)),hS]
   rcases k1 with k1|⟨b',d',q1,q2,q3⟩
   ·exact k4 K Qx λv w' ⟨μ',k5,k6⟩=>put (aa.upd k3 k1 (by rw[az]at k5;exact k5) k2 (λd hd=>hN i o d ho hd) k6)
   ·refine k4 K Qx λv w' ⟨μ',k5,k6⟩=>put (μ':=μ') ?_;rw[az]at k5;rw[q3]at k5 k6⊢;exact RelF.forget (aa.upd (u:=⟨some (d',iY S.1 (.tmp b')),none,[]⟩) xfh rfl k5 (by rw[q2];rfl) (λd hd=>hN i o d ho hd) k6)
  |true=>
   have ad:(vF E tt S.2 (iY S.1) o).ev=some x.1:=by
    cases c with
    |false=>exact ad
    |true=>rcases qL ad with⟨_,_,_,_,bm,_⟩|⟨_,_,bm,_⟩<;>unfold fJ at ak<;>rw[bm]at ak<;>cases ak
   rcases D5 hT aa.mem (bN aa.fr) ak ad with⟨d,bb,q,y,k1,k2,k3⟩|⟨k1,k2,k3,k4⟩
   case inr=>exact k4 K Qx λv w' ⟨μ',k5,k6⟩=>put (aa.upd k3 k1 k5 k2 (λd hd=>hN i o d ho hd) k6)
   refine k3 K Qx λv w' ⟨mv',k4,k5⟩=>?_;obtain⟨c1,c2,c3⟩:=h.app i x bb hx (by rw[k2]) q (by rw[k2];simp[LU.ids]);have key:=aa.app (b:=bb) (hN i o d ho k1) k4 k5 (λt ht=>?_) λr z au hz=>?_;·refine put (μ':=again μ q mv') ?_;rw[k1,k2];exact key
   ·have hl:=N2 (s0:=s0) (us:=us) (sel:=gN listed) (t:=t) p;unfold Or at hl;rw[hS]at hl;rcases hl with hl|hl|⟨k,z,z1,z2,z3,z4,z5⟩
    ·rcases c1 t ht with h1|⟨m,zz,m2,m3,m4,m5⟩
     ·rw[hl.1];exact h1
     ·exfalso;have al:=bh m m2;have bg:m<p:=by
       rcases Ya m p with h|h;·exact h
       ·exact absurd al (hi.low m h)
      refine hl.2 m zz bg m3 (selOf_iff.2 al) ?_;unfold LU.touch;cases hd:zz.1.d with
      |none=>exact absurd hd m5
      |some q'=>simp only[m4];simp
    ·rw[hl];rfl
    ·have ao:=selOf_iff.1 z3;rcases(c3 k z z2 (λe=>hn (e▸ao)) (aw k ao)).1 _ z4 with h1|h1|⟨m,zz,m1,m2,m3,m4,m5⟩
     ·exact h1
     ·exact absurd h1 ht
     ·exfalso;have al:=bh m m2;have bg:m<p:=by
       rcases Ya m p with h|h;·exact h
       ·exact absurd al (hi.low m h)
      refine z5 m zz m1 bg m3 (selOf_iff.2 al) ?_;unfold LU.touch;cases hd:zz.1.d with
      |none=>exact absurd hd m5
      |some q'=>simp only[m4];simp
   ·have hl:=Aa (s0:=s0) (us:=us) (sel:=gN listed) (q:=r) p;unfold Md at hl;rw[hS]at hl;rcases hl with hl|⟨k,z',y',z1,z2,z3,z4⟩
    ·exact c2 r z au (by rw[<-hl];exact hz)
    ·have ao:=selOf_iff.1 z2;rw[z4]at hz;cases hz;rcases(c3 k z' z1 (λe=>hn (e▸ao)) (aw k ao)).2 _ z3 with h1|h1;·exact absurd h1 au
     ·exact h1
 have bn:b=false->K (a.put o.dst undef) w:=λhb=>by
  have e:=be.skip hb;refine put (μ':=μ) ?_;rw[e];refine aa.upd (u:=⟨o.dst.map λd=>(d,.skip),none,[]⟩) (by simp) rfl (NxU.none aa.mem) (by cases o.dst<;>rfl) (λd hd=>hN i o d ho hd) λq hq=>?_;cases hd:o.dst with
  |none=>rw[hd]at hq;cases hq
  |some d=>rw[hd]at hq;cases hq;exact .skip
 have hw:=be.want;unfold G3 at hw;unfold Region.wanted;cases hg:o.guard with
 |none=>rw[hg]at hw;simp only[if_true];exact .inl (ay hw)
 |some gd=>
  obtain⟨j,want⟩:=gd;rw[hg]at hw;obtain⟨dj,ae,hw⟩:=hw;replace ae:(ops[j]?).bind (·.dst)=some dj:=ae;have bo:S.1 dj=(aI s0 us (λ_=>true) i).1 dj:=hS▸af.sl dj (Bu hg ae);have ar:=aa.fr dj;rcases hw with⟨v,hv,hb⟩|⟨hv,hb⟩
  case inr=>
   rw[bo,hv]at ar;generalize bw:a.tmps.getD dj undef=y at ar;cases ar;have hy:yielded ops a.tmps j=none:=by
    unfold yielded;rw[ae];cases hgt:a.tmps[dj]? with
    |none=>simp[hgt]
    |some v=>
     have:v=undef:=by rw[<-bw,xn,hgt];rfl
     subst this;simp[hgt];rfl
   simp only[hy];rw[qh (by simp)];exact bn hb
  rw[bo,hv]at ar;have bp:=ar.bool;have ba:dj<a.tmps.size:=by
   rw[aa.sz.n];cases ah:ops[j]? with
   |none=>rw[ah]at ae;cases ae
   |some oj=>rw[ah]at ae;exact(hN j oj dj ah ae).2
  have hy:yielded ops a.tmps j=some v:=by
   have br:a.tmps[dj]? =some (.bool v):=by
    have e:a.tmps.getD dj undef=a.tmps[dj]:=by simp[ba]
    rw[e]at bp;rw[F3 ba,bp]
   simp[yielded,ae,br]
  simp only[hy];cases av:b with
  |true=>
   rw[av]at hb;have:v=want:=by simpa using hb.symm
   rw[qi (by rw[this];simp)];exact .inl (ay av)
  |false=>
   rw[av]at hb;have:v≠want:=by simpa using hb.symm
   rw[qh (by simpa using this)];exact bn av
theorem Vf[Tabs](ae:Plan E tt ops p s0 us an){Qx:Exit->Act->World->Prop}:∀(fuel m:Nat) {listed:Array Bool} {a:Act} {w:World},p<=m->ops.size-m<=fuel->listed.size=ops.size->(∀i,i<ops.size->listed[i]? =some (decide (i<m)))->
  wpList P ops Qx (ops.toList.drop m) a w->wpAny P .any ops Qx fuel listed a w:=by
 intro fuel;have nil:∀{m:Nat} {listed:Array Bool} {a:Act} {w:World},ops.size<=m->listed.size=ops.size->(∀i,i<ops.size->listed[i]? =some (decide (i<m)))->wpList P ops Qx (ops.toList.drop m) a w->Region.ready .any ops listed=[]/\Qx .normal a w:=by
  intro m listed a w hm hs hl h;refine⟨List.eq_nil_iff_forall_not_mem.2 λi hi=>?_,?_⟩
  ·obtain⟨o,ho,hn,_⟩:=(iC hs).1 hi;have ab:i<ops.size:=by
    rcases Ya i ops.size with h|h;·exact h
    ·rw[xcr h]at ho;cases ho
   exact hn (by rw[hl i ab];simp;omega)
  ·rw[VW (by simpa using hm)]at h;exact h
 induction fuel with
 |zero=>intro m listed a w _ hf hs hl h;exact nil (by omega) hs hl h
 |succ fuel ih=>
  intro m listed a w hp hf hs hl h;rcases Ya m ops.size with hm|hm
  ·have aa:∀i,i∈Region.ready .any ops listed->i=m:=λi hi=>by
    obtain⟨o,ho,hn,he⟩:=(iC hs).1 hi;have ab:i<ops.size:=by
     rcases Ya i ops.size with h|h;·exact h
     ·rw[xcr h]at ho;cases ho
    rw[hl i ab]at hn;have ah:m<=i:=by simpa using hn
    by_cases e:i=m;·exact e
    ·have:=he _ (ae.chain i o ho (by omega));rw[hl (i-1) (by omega)]at this;simp at this;omega
   have ho:ops[m]? =some ops[m]:=F3 hm;have af:m∈Region.ready .any ops listed:=(iC hs).2 ⟨_,ho,by rw[hl m hm];simp,λe he=>by have:=ae.back m _ ho e he;rw[hl e (by omega)];simpa using this⟩;refine⟨λe=>(by rw[e]at af;cases af),λi hi=>?_⟩;rw[aa i hi];have hd:ops.toList.drop m=ops[m]::ops.toList.drop (m+1):=by rw[<-Array.getElem_toList hm];exact Wn (by simpa using hm)
   rw[hd]at h;have ad:∀a w,wpList P ops Qx (ops.toList.drop (m+1)) a w->wpAny P .any ops Qx fuel (listed.setIfInBounds m true) a w:=λa w h=>ih (m+1) (by omega) (by omega) (by simp[hs]) (λi hi=>by
    rw[sJ (by omega)];split
    next e=>subst e;simp
    next e=>rw[hl i hi];simp;omega) h
   refine wpOp_mono ad ?_;unfold wpOp;simp only[ho];exact h
  ·obtain⟨h1,h2⟩:=nil hm hs hl h;exact⟨λ_=>h2,λi hi=>by rw[h1]at hi;cases hi⟩
theorem N1{α:Type}{f g:α->Bool}:∀{l:List α} {x:α},(∀y∈l,g y=true->f y=true)->x∈l->f x=true->g x=false->(l.filter g).length<(l.filter f).length
 | [],_,_,h,_,_=>by cases h
 |y::l,x,hs,hx,h1,h2=>by
  have hle:∀{l:List α},(∀y∈l,g y=true->f y=true)->(l.filter g).length<=(l.filter f).length:=by
   intro l;induction l with
   |nil=>intro _;exact xm _
   |cons z l ih=>
    intro hs;have:=ih λy hy=>hs y (xr _ hy);simp only[UZ];cases hg:g z with
    |true=>rw[hs z (xu ..) hg];simpa using this
    |false=>
     simp only[tJ,if_false];split;·simp only[xk];omega
     ·omega
  have aa:∀y∈l,g y=true->f y=true:=λy hy=>hs y (xr _ hy);simp only[UZ];rcases xae.1 hx with rfl|hx;·rw[h1,h2];have:=hle aa;simp;omega
  ·have:=N1 aa hx h1 h2;cases hg:g y with
   |true=>rw[hs y (xu ..) hg];simpa using this
   |false=>
    simp only[tJ,if_false];split;·simp only[xk];omega
    ·omega
def left(p:Nat)(listed:Array Bool):Nat:=((List.range p).filter λi=>listed[i]? !=some true).length
theorem Inv.any[Tabs](hE:jG P E)(hT:aW P tt)(hN:∀(j:Nat) (o:Oper) d,ops[j]? =some o->o.dst=some d->N.has d)(h:Plan E tt ops p s0 us an){Qx:Exit->Act->World->Prop}
  (ae:∀a w μ,RelF P X lo N w0 (aI s0 us (λ_=>true) p).1 (aI s0 us (λ_=>true) p).2 a w μ->wpList P ops Qx (ops.toList.drop p) a w):∀(fuel:Nat) {listed:Array Bool} {a:Act} {w:World},Inv P X lo N w0 ops p s0 us listed a w->left p listed+(ops.size-p)<=fuel->
  wpAny P .any ops Qx fuel listed a w:=by
 intro fuel;have full:∀(fuel:Nat) {listed:Array Bool} {a:Act} {w:World},Inv P X lo N w0 ops p s0 us listed a w->ops.size-p<=fuel->(∀i,i<p->listed[i]? =some true)->wpAny P .any ops Qx fuel listed a w:=by
  intro fuel listed a w hi hf aa;obtain⟨μ,ab⟩:=hi.rel;have e:aI s0 us (gN listed) p=aI s0 us (λ_=>true) p:=pH λm hm=>selOf_iff.2 (aa m hm);rw[e]at ab;refine Vf h fuel p (xm _) hf hi.size (λi af=>?_) (ae a w μ ab);by_cases e:i<p;·rw[aa i e];simp[e]
  ·have h1:=hi.low i (by omega);have h2:i<listed.size:=by rw[hi.size];exact af
   rw[F3 h2]at h1⊢;simp only[xe,ne_eq,Bool.not_eq_true]at h1;simp[h1,e]
 have split:∀listed:Array Bool,(∀i,i<p->listed[i]? =some true)\/∃i,i<p/\listed[i]? ≠some true/\∀j,j<i->listed[j]? =some true:=by
  intro listed;have:∀m,m<=p->(∀i,i<m->listed[i]? =some true)\/∃i,i<p/\listed[i]? ≠some true/\∀j,j<i->listed[j]? =some true:=by
   intro m;induction m with
   |zero=>exact λ_=>.inl λi hi=>absurd hi (xex _)
   |succ m ih=>
    intro hm;rcases ih (by omega)with h1|h1
    ·by_cases e:listed[m]? =some true
     ·refine .inl λi hi=>?_;by_cases e':i=m;·rw[e'];exact e
      ·exact h1 i (by omega)
     ·exact .inr ⟨m,by omega,e,h1⟩
    ·exact .inr h1
  exact this p (xm _)
 induction fuel with
 |zero=>
  intro listed a w hi hf;rcases split listed with aa|⟨i,h1,h2,_⟩
  ·exact full 0 hi (by omega) aa
  ·have:i∈(List.range p).filter λi=>listed[i]? !=some true:=xak.2 ⟨xar.2 h1,by simpa using h2⟩;have:=List.length_pos_of_mem this;unfold left at hf;omega
 |succ fuel ih=>
  intro listed a w hi hf;rcases split listed with aa|⟨i,h1,h2,h3⟩
  ·exact full (fuel+1) hi (by omega) aa
  ·have ad:¬Region.ready .any ops listed=[]:=λe=>by have ho:ops[i]? =some (ops[i]'(yF h1 h.le)):=F3 _;have:i∈Region.ready .any ops listed:=(iC hi.size).2 ⟨_,ho,h2,λe he=>h3 e (h.back i _ ho e he)⟩;rw[e]at this;cases this
   refine⟨λe=>absurd e ad,λj hj=>?_⟩;obtain⟨o,ho,hn,he⟩:=(iC hi.size).1 hj;have ah:j<ops.size:=by
    rcases Ya j ops.size with h|h;·exact h
    ·rw[xcr h]at ho;cases ho
   have ai:j<p:=by
    rcases Ya j p with h|h;·exact h
    ·exfalso;by_cases e:j=p
     ·subst e;have key:∀m,m<=j->∀i,j-m<=i->i<j->listed[i]? =some true:=by
       intro m;induction m with
       |zero=>intro _ i h1 h2;omega
       |succ m aj=>
        intro hm i ar ak;by_cases e:j-m<=i;·exact aj (by omega) i e ak
        ·obtain⟨k,ok,k1,k2,k3,k4⟩:= ‹Plan E tt ops j s0 us an›.sink ah i ak;by_cases ek:k=j;·subst ek;rw[ho]at k3;cases k3;exact he i k4
         ·exact hi.closed k ok (aj (by omega) k (by omega) (by omega)) k3 i k4
      exact h2 (key j (xm _) i (by omega) h1)
     ·have:=he _ (‹Plan E tt ops p s0 us an›.chain j o ho (by omega));exact hi.low (j-1) (by omega) this
   refine hi.step hE hT hN h ai hj λa' w' ao=>ih ao ?_;have af:left p (listed.setIfInBounds j true)<left p listed:=by
    unfold left;have al:j<listed.size:=by rw[hi.size];exact ah
    refine N1 (x:=j) (λy _ hy=>?_) (xar.2 ai) (by simpa using hn) (by rw[sJ al];simp);rw[sJ al]at hy;split at hy;·simp at hy
    ·exact hy
   omega
theorem Th[Tabs](hm:P.follows .mixedOrders=true)(hE:jG P E)(hT:aW P tt)(hN:∀(j:Nat) (o:Oper) d,ops[j]? =some o->o.dst=some d->N.has d){id:Nat}{draw:Bool}
  {s s':St} {a:Act} {w:World} {μ:Nat->Option MV} (h:Rel P X lo N w0 s a w μ) (hq:(match draw with
   |true=>BI E tt fz (λj=>ops[j]?) ops.toList s
   |false=>tF E tt fz (λj=>ops[j]?) ops.toList 0 s).ev=some s') {Qx:Exit->Act->World->Prop} (hQ:∀a' w' μ',Rel P X lo N w0 s' a' w' μ'->Qx .normal a' w'):
  (Code.region id ops draw).wp P Qx a w:=by
 cases draw with
 |false=>exact wp_region_list (tP hE hT hN (λj=>by simp) h hq hQ)
 |true=>
  obtain⟨μ,h⟩:=Rel.ahead (s0:=s) (fz 0) h;simp only[BI,Tr.ev_bind]at hq;generalize St.ahead s s (fz 0)=s at h hq;obtain⟨r,h1,h2⟩:=xdq.1 hq;split at h2
  next hc=>
   obtain⟨ab,ad⟩:=PM h1 hc;obtain⟨ae,_⟩:=d7 ops.toList;refine wp_region_any hm (Inv.any (X:=X) (lo:=lo) (w0:=w0) hE hT hN ab (λa w μ hr=>tP (i:=jJ ops.toList) (s:=r.1) hE hT hN (λj=>by simp) (show Rel P X lo N w0 r.1 a w μ by rw[<-ad]at hr;exact hr) h2 hQ) ops.size (listed:=Array.replicate ops.size false) ?_ ?_)
   ·have aa:∀i:Nat,(Array.replicate ops.size false)[i]? ≠some true:=λi e=>by rw[xeu]at e;split at e<;>simp at e
    refine⟨by simp,λi _=>aa i,λi o hi=>absurd hi (aa i),μ,?_⟩;have e:aI (s.slot,s.g) r.2 (gN (Array.replicate ops.size false)) (jJ ops.toList)=(s.slot,s.g):=by
     rw[sV (i:=0) (V1 _) λm x _ _ _=>?_];·rfl
     ·cases hs:gN (Array.replicate ops.size false) m with
      |true=>exact absurd (selOf_iff.1 hs) (aa m)
      |false=>rfl
    rw[e];refine⟨⟨h.mem.hX,h.mem.hlo,λo mv ho=>?_,h.mem.dis,h.mem.tab⟩,λi=>?_,⟨h.bel.os,h.bel.tape,h.bel.output,h.bel.size,h.bel.block⟩,h.df,h.sz⟩;·obtain⟨x,hx,af⟩:=h.mem.ob o mv ho;exact⟨x,hx,af.step h.mem.hlo (λ_ _ h=>h) (λ_ _ h=>⟨h,rfl⟩) (λ_ _=>rfl) λ_ _=>rfl⟩
    ·exact(h.fr i).step (λ_ _ h=>h) h.mem.hlo (λ_ _ h=>⟨h,rfl⟩) λ_ _=>rfl
   ·have:left (jJ ops.toList) (Array.replicate ops.size false)<=jJ ops.toList:=by unfold left;exact JZ (xdt _ _) (by simp)
    simp at ae;omega
  next=>cases h2
end
end
section
open Go.RowKit (Below)
def X7[Tabs](P:Program)(X:Nat->Prop)(lo:Nat->Prop)(N:Par)(w0:World)(out:Out):Exit->Act->World->Prop
 | .normal,a,w=>∃s μ,out=.normal s/\Rel P X lo N w0 s a w μ
 | .exit id,a,w=>∃s μ,out=.exit id s/\Rel P X lo N w0 s a w μ
 | .ret,a,w=>∃s μ,out=.ret s/\Rel P X lo N w0 s a w μ
 |_,_,_=>False
def Ae[Tabs](P:Program)(X:Nat->Prop)(lo:Nat->Prop)(N:Par)(w0:World)(c:Code)(f:St->Tr Out):Prop:=
 ∀s a w μ out,Rel P X lo N w0 s a w μ->(f s).ev=some out->c.wp P (X7 P X lo N w0 out) a w
def bV:Code->List (Nat×Code)
 | .seq a b=>bV a++bV b
 | .cond _ a b=>bV a++bV b
 | .block id (.loop b)=>(id,b)::bV b
 | .block _ b=>bV b
 |_=>[]
def bT(fz:Nat->Nat->List Nat)(k:List Nat)(n:Nat):Code->Bool
 | .region _ ops _=>ops.all (λo=>match o.dst with|some d=> !has k d&&Nat.blt d n|none=>true)
 | .seq a b=>bT fz k n a&&bT fz k n b
 | .cond _ a b=>bT fz k n a&&bT fz k n b
 | .block _ (.loop b)=>bT fz k n b
 | .block _ b=>bT fz k n b
 |_=>true
section
variable {P:Program}{E:Env}{tt:Nat->TD}{fz:Nat->Nat->List Nat}{orc:Orc}{X:Nat->Prop}{lo:Nat->Prop}{N:Par}{w0:World}
theorem KK{ops:Array Oper}(h:(ops.all λo=>match o.dst with|some d=> !has N.k d&&Nat.blt d N.n|none=>true)=true)(j:Nat)(o:Oper)(d:Nat)(ho:ops[j]? =some o)(hd:o.dst=some d):N.has d:=by rw[xgj]at h;obtain⟨hj,he⟩:=xba.1 ho;have:=h j hj;rw[he,hd]at this;simp only[xf]at this;exact⟨λhm=>(by have h1:=this.1;rw[has_iff.2 hm]at h1;cases h1),xdi this.2⟩
theorem eM{α β:Type}{x:Option α}{f:α->Option β}{y:β}(h:x.bind f=some y):∃a,x=some a/\f a=some y:=by
 cases x with
 |none=>cases h
 |some a=>exact⟨a,rfl,h⟩
theorem iJ[Tabs](hm:P.follows .mixedOrders=true)(hE:jG P E)(hT:aW P tt):∀(c:Code),(∀p∈bV c,Ae P X lo N w0 (.block p.1 (.loop p.2)) (λs=>match orc p.1 s with|some x=>x|none=>.f))->bT fz N.k N.n c=true->
  Ae P X lo N w0 c (cR E tt fz orc c)
 | .skip,_,_=>λs a w μ out h he=>by simp only[cR,qq,xe]at he;subst he;exact wp_skip ⟨s,μ,rfl,h⟩
 | .exit id,_,_=>λs a w μ out h he=>by simp only[cR,qq,xe]at he;subst he;exact wp_exit ⟨s,μ,rfl,h⟩
 | .ret,_,_=>λs a w μ out h he=>by simp only[cR,qq,xe]at he;subst he;exact wp_ret ⟨s,μ,rfl,h⟩
 | .region id ops draw,_,hc=>λs a w μ out h he=>by simp only[bT]at hc;simp only[cR,Tr.ev_bind]at he;obtain⟨s',h1,h2⟩:=eM he;simp only[qq,xe]at h2;subst h2;exact Th hm hE hT (KK hc) h h1 λa' w' μ' h'=>⟨s',μ',rfl,h'⟩
 | .seq x y,hl,hc=>λs a w μ out h he=>by
  simp only[bT,xf]at hc;simp only[bV,xp]at hl;simp only[cR,Tr.ev_bind]at he;obtain⟨o,h1,h2⟩:=eM he;refine wp_seq (Code.wp_mono (λe a' w' hp=>?_) (iJ hm hE hT x (λp hp=>hl p (.inl hp)) hc.1 s a w μ o h h1));cases e with
  |normal=>obtain⟨s',μ',rfl,h'⟩:=hp;exact iJ hm hE hT y (λp hp=>hl p (.inr hp)) hc.2 s' a' w' μ' out h' h2
  |exit id=>obtain⟨s',μ',rfl,h'⟩:=hp;simp only[qq,xe]at h2;subst h2;exact⟨s',μ',rfl,h'⟩
  |ret=>obtain⟨s',μ',rfl,h'⟩:=hp;simp only[qq,xe]at h2;subst h2;exact⟨s',μ',rfl,h'⟩
  |_=>exact hp.elim
 | .cond c x y,hl,hc=>λs a w μ out h he=>by
  simp only[bT,xf]at hc;simp only[bV,xp]at hl;simp only[cR]at he;split at he
  next v hv=>
   have hr:=bN h.fr c;rw[hv]at hr;simp only[qo]at he;cases v with
   |true=>exact wp_cond hr.bool (iJ hm hE hT x (λp hp=>hl p (.inl hp)) hc.1 s a w μ out h (by simpa using he))
   |false=>exact wp_cond hr.bool (iJ hm hE hT y (λp hp=>hl p (.inr hp)) hc.2 s a w μ out h (by simpa using he))
  next=>cases he
 | .block id c,hl,hc=>λs a w μ out h he=>by
  have plain:(∀b,c≠ .loop b)->(Code.block id c).wp P (X7 P X lo N w0 out) a w:=λaa=>by
   have ab:bV (.block id c)=bV c:=by
    cases c with
    |loop b=>exact absurd rfl (aa b)
    |_=>rfl
   have ad:bT fz N.k N.n (.block id c)=bT fz N.k N.n c:=by
    cases c with
    |loop b=>exact absurd rfl (aa b)
    |_=>rfl
   have ae:cR E tt fz orc (.block id c) s=(cR E tt fz orc c s).bind fun
     | .exit i s'=>match Nat.beq i id with
      |true=>.l (.normal s')
      |false=>.l (.exit i s')
     |o=>.l o:=by
    cases c with
    |loop b=>exact absurd rfl (aa b)
    |_=>rfl
   rw[ab]at hl;rw[ad]at hc;rw[ae,Tr.ev_bind]at he;obtain⟨o,h1,h2⟩:=eM he;refine wp_block (Code.wp_mono (λe a' w' hp=>?_) (iJ hm hE hT c hl hc s a w μ o h h1));cases e with
   |normal=>obtain⟨s',μ',rfl,h'⟩:=hp;simp only[qq,xe]at h2;subst h2;exact⟨s',μ',rfl,h'⟩
   |exit i=>
    obtain⟨s',μ',rfl,h'⟩:=hp;simp only at h2;simp only[Exit.inBlock];split at h2
    next hb=>
     simp only[qq,xe]at h2;subst h2;rw[qi (xg hb)];exact⟨s',μ',rfl,h'⟩
    next hb=>
     simp only[qq,xe]at h2;subst h2;rw[qh λe=>by subst e;rw[bC]at hb;cases hb];exact⟨s',μ',rfl,h'⟩
   |ret=>obtain⟨s',μ',rfl,h'⟩:=hp;simp only[qq,xe]at h2;subst h2;exact⟨s',μ',rfl,h'⟩
   |_=>exact hp.elim
  cases c with
  |loop b=>exact hl (id,b) (by simp[bV]) s a w μ out h (by simp only[cR]at he;exact he)
  |_=>exact plain λb=>by simp
 | .loop _,_,_=>λs a w μ out h he=>by simp[cR]at he
 | .label _,_,_=>λs a w μ out h he=>by simp[cR]at he
 | .goto _,_,_=>λs a w μ out h he=>by simp[cR]at he
 | .scope _,_,_=>λs a w μ out h he=>by simp[cR]at he
 | .refuse _,_,_=>λs a w μ out h he=>by simp[cR]at he
 | .rangeFunc _ _ _ _,_,_=>λs a w μ out h he=>by simp[cR]at he
end
theorem Vq{P:Program}{c:Code}{Q:Exit->Act->World->Prop}(I:Nat->Act->World->Prop)
  (round:∀n a w,I n a w->c.wp P (Exit.then (λa' w'=>∃m,m<n/\I m a' w') Q) a w) {n:Nat} {a:Act} {w:World} (h:I n a w):(Code.loop c).wp P Q a w:=by
 intro b k cs;have key:∀n a w,I n a w->∃e a' w',Q e a' w'/\Arrives P (lone (b.at a (.code c::.inLoop c::k)) cs w) b k cs e a' w':=by
  intro n;induction n using Nat.strongRecOn with
  |_ n ih=>
   intro a w hI;obtain⟨e,a₁,w₁,hq,aa⟩:=round n a w hI b (.inLoop c::k) cs;cases e with
   |normal=>obtain⟨m,ad,ae⟩:=hq;obtain⟨e₂,a₂,w₂,af,ab⟩:=ih m ad a₁ w₁ ae;exact⟨e₂,a₂,w₂,af,.of_steps (Steps.trans aa (.one step_inLoop)) ab⟩
   |exit id=>exact⟨_,a₁,w₁,hq,.pass (x:=.inLoop c) rfl (λ_ _=>.inl (by simp)) aa⟩
   |goto l=>exact⟨_,a₁,w₁,hq,.pass (x:=.inLoop c) rfl (λ_ _=>.inl (by simp)) aa⟩
   |ret=>exact⟨_,a₁,w₁,hq,.pass (x:=.inLoop c) rfl (λ_ _=>.inl (by simp)) aa⟩
   |panic ch=>exact⟨_,a₁,w₁,hq,.pass (x:=.inLoop c) rfl (λ_ _=>.inl (by simp)) aa⟩
   |outgrown=>exact⟨_,a₁,w₁,hq,.pass (x:=.inLoop c) rfl (λ_ _=>.inl (by simp)) aa⟩
 obtain⟨e,a',w',hq,aa⟩:=key n a w h;exact⟨e,a',w',hq,.of_steps (.one step_loop) aa⟩
end
section
open Go.RowKit (Below)
def RL(R:AV->Value->Prop):List AV->List Value->Prop
 | [],[]=>True
 |v::l,x::xs=>R v x/\RL R l xs
 |_,_=>False
theorem RL.of{R:AV->Value->Prop}:∀{l:List AV} {ys:List Value},l.length=ys.length->(∀j v,aQ l j=some v->R v (ys.getD j undef))->RL R l ys
 | [],[],_,_=>trivial
 |_::_,[],h,_=>by simp at h
 | [],_::_,h,_=>by simp at h
 |v::l,y::ys,h,hr=>⟨hr 0 v rfl,RL.of (by simpa using h) λj v hv=>hr (j+1) v hv⟩
theorem RL.to{R:AV->Value->Prop}:∀{l:List AV} {ys:List Value},RL R l ys->l.length=ys.length/\∀j v,aQ l j=some v->R v (ys.getD j undef)
 | [],[],_=>⟨rfl,λj v h=>by simp[aQ]at h⟩
 |_::_,[],h=>h.elim
 | [],_::_,h=>h.elim
 |v::l,y::ys,h=>by
  obtain⟨h1,h2⟩:=RL.to h.2;refine⟨by simp[h1],λj u hu=>?_⟩
  match j,hu with
  |0,hu=>simp[aQ]at hu;subst hu;exact h.1
  |j+1,hu=>exact h2 j u hu
theorem RL.append{R:AV->Value->Prop}:∀{l l':List AV} {ys aa:List Value},RL R l ys->RL R l' aa->RL R (l++l') (ys++aa)
 | [],l',[],aa,_,h=>h
 |_::_,_,[],_,h,_=>h.elim
 | [],_,_::_,_,h,_=>h.elim
 |v::l,l',y::ys,aa,h,h'=>⟨h.1,RL.append h.2 h'⟩
theorem RL.one{R:AV->Value->Prop}{v:AV}{x:Value}(h:R v x):RL R [v] [x]:=⟨h,trivial⟩
theorem RL.mono{R R':AV->Value->Prop}(hR:∀v x,R v x->R' v x):∀{l:List AV} {ys:List Value},RL R l ys->RL R' l ys
 | [],[],_=>trivial
 |_::_,[],h=>h.elim
 | [],_::_,h=>h.elim
 |v::l,y::ys,h=>⟨hR _ _ h.1,RL.mono hR h.2⟩
theorem RL.split{R:AV->Value->Prop}:∀{l l':List AV} {ys:List Value},RL R (l++l') ys->∃y1 y2,ys=y1++y2/\RL R l y1/\RL R l' y2
 | [],l',ys,h=>⟨[],ys,rfl,trivial,h⟩
 |v::l,l',[],h=>h.elim
 |v::l,l',y::ys,h=>by obtain⟨y1,y2,rfl,h1,h2⟩:=RL.split h.2;exact⟨y::y1,y2,rfl,⟨h.1,h1⟩,h2⟩
theorem Q2{ts aa:List Ty}{r r':Ty}{p:HL ts->Option r.I}{q:HL aa->Option r'.I}(h:U3 ts aa r r' p=some q):∃(h1:ts=aa) (h2:r=r'),q=h1▸h2▸p:=by
 unfold U3 at h;split at h
 next h1 h2 _ _=>cases h;exact⟨h1,h2,rfl⟩
 next=>cases h
section
variable {P:Program}{w:World}{lo:Nat->Prop}{μ:Nat->Option MV}{S:Nat->Prop}
theorem LE{t:Ty}{v:AV}{y:t.I}{x:Value}(h:un1 t v=some y)(hr:RelV P w lo μ S v x):RelV P w lo μ S (.dat t y) x:=by
 unfold un1 at h;split at h;·obtain⟨e,rfl⟩:=Ty.cast_spec h;subst e;exact hr
 ·split at h;·cases h;cases hr;exact .dat rfl Rep.nil
  ·cases h
 ·cases h
theorem Db{cs:List AV}{b k:Nat}{xs:Nat->Value}(h:∀j v,aQ cs j=some v->RelV P w lo μ S v (xs j)):RL (RelV P w lo μ S) cs ((List.range cs.length).map xs):=by
 refine RL.of (by simp) λj v hv=>?_;have aa:j<cs.length:=by rw[aA]at hv;exact(xq.1 hv).1
 rw[xd,oE,BU aa];exact h j v hv
def CloRule(P:Program)(w:World)(lo:Nat->Prop)(μ:Nat->Option MV)(S:Nat->Prop)(E:Env):Prop:=
 (∀f caps ts r x,r.size=1->(∀v∈caps,∃cs,v=AV.ptr cs/\cs.all cl0=true)->RelV P w lo μ S (.fn f caps) x->CloOK P w lo ts r (HW E f caps ts r) x)/\
 ∀f fs ts r x,r.size=1->fs.all Cy=true->RelV P w lo μ S (.bnd f fs) x->CloOK P w lo ts r (HH E f fs ts r) x
theorem CloRule.none(P:Program)(w:World)(lo:Nat->Prop)(μ:Nat->Option MV)(S:Nat->Prop):CloRule P w lo μ S E0:=by
 refine⟨λf caps ts r x h2 _ h=>?_,λf fs ts r x h2 _ h=>?_⟩
 ·cases h with
  | @fn _ _ _ xs hl hx=>exact⟨h2,f,#[],xs,rfl,λw' _ _ hh vals _ y hy=>by simp[HW,K4,E0]at hy⟩
 ·cases h with
  | @bnd _ _ _ xs hl hx=>exact⟨h2,f,xs,#[],rfl,λw' _ _ hh vals _ y hy=>by simp[HH,K4,E0]at hy⟩
def CloAll(P:Program)(w:World)(lo:Nat->Prop)(μ:Nat->Option MV)(S:Nat->Prop)(E:Env):Prop:=
 ∃Q:(Nat->Prop)->Prop,Q S/\(∀S,Q S->Q (λb=>S b\/lo b))/\∀S,Q S->CloRule P w lo μ S E
theorem CloAll.none{P:Program}{w:World}{lo:Nat->Prop}{μ:Nat->Option MV}{S:Nat->Prop}:CloAll P w lo μ S E0:=⟨λ_=>True,trivial,λ_ _=>trivial,λS _=>CloRule.none P w lo μ S⟩
theorem CloAll.or{E:Env}(h:CloAll P w lo μ S E):CloAll P w lo μ (λb=>S b\/lo b) E:=by obtain⟨Q,h1,h2,h3⟩:=h;exact⟨Q,h2 S h1,h2,h3⟩
theorem CloAll.rule{E:Env}(h:CloAll P w lo μ S E):CloRule P w lo μ S E:=by obtain⟨Q,h1,_,h3⟩:=h;exact h3 S h1
theorem rY{E:Env}:∀{s:Sh} {S:Nat->Prop} {l:List AV} {x:s.I} {r:List AV} {ys:List Value},CloAll P w lo μ S E->un E s l=some (x,r)->RL (RelV P w lo μ S) l ys->∃y1 y2,ys=y1++y2/\RL (RelV P w lo μ S) (val s x) y1/\RL (RelV P w lo μ S) r y2
 | .nil,S,l,x,r,ys,hE,h,hr=>by simp only[un,xe,Wb]at h;obtain⟨_,rfl⟩:=h;exact⟨[],ys,rfl,trivial,hr⟩
 | .cons a b,S,l,x,r,ys,hE,h,hr=>by
  simp only[un]at h;split at h
  next xa ra ha=>
   split at h
   next xb rb hb=>
    cases h;obtain⟨y1,y2,rfl,h1,h2⟩:=rY hE ha hr;obtain⟨y3,y4,rfl,h3,h4⟩:=rY hE hb h2;exact⟨y1++y3,y4,by simp,h1.append h3,h4⟩
   next=>cases h
  next=>cases h
 | .dat t,S,[],x,r,ys,hE,h,hr=>by simp[un]at h
 | .dat t,S,v::l,x,r,[],hE,h,hr=>hr.elim
 | .dat t,S,v::l,x,r,y::ys,hE,h,hr=>by
  simp only[un]at h;split at h
  next z hz=>cases h;exact⟨[y],ys,rfl,.one (LE hz hr.1),hr.2⟩
  next=>cases h
 | .arr o,S,l,x,r,ys,hE,h,hr=>by
  simp only[un]at h;split at h<;>try cases h
  rename_i o' r'
  split at h
  next e=>
   cases h;have:=xg e;subst this;cases ys with
   |nil=>exact hr.elim
   |cons y ys=>exact⟨[y],ys,rfl,.one hr.1,hr.2⟩
  next=>cases h
 | .box o k,S,l,x,r,ys,hE,h,hr=>by
  simp only[un]at h;split at h<;>try cases h
  split at h
  next e e'=>
   cases h;have:=xg e;subst this;have:=xg e';subst this;cases ys with
   |nil=>exact hr.elim
   |cons y ys=>exact⟨[y],ys,rfl,.one hr.1,hr.2⟩
  next=>cases h
 | .row o,S,l,x,r,ys,hE,h,hr=>by
  simp only[un]at h;split at h<;>try cases h
  split at h
  next e=>
   cases h;have:=xg e;subst this;cases ys with
   |nil=>exact hr.elim
   |cons y ys=>exact⟨[y],ys,rfl,.one hr.1,hr.2⟩
  next=>cases h
 | .nilsl,S,l,x,r,ys,hE,h,hr=>by
  simp only[un]at h;split at h<;>try cases h
  cases ys with
  |nil=>exact hr.elim
  |cons y ys=>exact⟨[y],ys,rfl,.one hr.1,hr.2⟩
 | .clo ts rt,S,l,x,r,ys,hE,h,hr=>by
  simp only[un]at h;split at h<;>try cases h
  ·split at h
   next q hq=>
    cases h;obtain⟨h1,h2,rfl⟩:=Q2 hq;subst h1;subst h2;cases ys with
    |nil=>exact hr.elim
    |cons y ys=>exact⟨[y],ys,rfl,.one hr.1,hr.2⟩
   next=>cases h
  ·rename_i f caps r'
   split at h
   next h2 h3=>
    cases h;cases ys with
    |nil=>exact hr.elim
    |cons y ys=>
     refine⟨[y],ys,rfl,.one (.clo (hE.rule.1 f caps ts rt y (xg h2) (λv hv=>?_) hr.1)),hr.2⟩;simp only[xf]at h3;have:=xt.1 h3.1 v hv;unfold SF at this;split at this;·exact⟨_,rfl,this⟩
     ·cases this
   next=>cases h
  ·rename_i f fs r'
   split at h
   next h2 h3=>
    cases h;cases ys with
    |nil=>exact hr.elim
    |cons y ys=>simp only[xf]at h3;exact⟨[y],ys,rfl,.one (.clo (hE.rule.2 f fs ts rt y (xg h2) h3.1 hr.1)),hr.2⟩
   next=>cases h
 | .fn f c,S,l,x,r,ys,hE,h,hr=>by
  simp only[un]at h;split at h<;>try cases h
  rename_i f' caps r'
  split at h
  next z e hz=>
   cases h;have:=xg e;subst this;cases ys with
   |nil=>exact hr.elim
   |cons y ys=>
    refine⟨[y],ys,rfl,.one ?_,hr.2⟩;have h0:=hr.1;cases h0 with
    | @fn _ _ _ xs hl hx=>
     obtain⟨y1,y2,he,h1,h2⟩:=rY (S:=λb=>S b\/lo b) hE.or hz (RL.of (ys:=xs.toList) (by simpa using hl) λj v hv=>by simpa using hx j v hv);cases y2 with
     |cons _ _=>exact h2.elim
     |nil=>obtain⟨k1,k2⟩:=h1.to;rw[yT]at he;subst he;exact .fn (by simpa using k1) λj v hv=>by simpa using k2 j v hv
  next=>cases h
 | .ptr c,S,l,x,r,ys,hE,h,hr=>by
  simp only[un]at h;split at h<;>try cases h
  rename_i cs r'
  split at h
  next z hz=>
   cases h;cases ys with
   |nil=>exact hr.elim
   |cons y ys=>
    refine⟨[y],ys,rfl,.one ?_,hr.2⟩;have h0:=hr.1;cases h0 with
    | @ptr _ _ b k xs aa hb hx hv=>
     obtain⟨y1,y2,he,h1,h2⟩:=rY hE hz (Db (b:=b) (k:=k) hv);cases y2 with
     |cons _ _=>exact h2.elim
     |nil=>
      obtain⟨k1,k2⟩:=h1.to;rw[yT]at he;subst he;simp only[Gi,xdx]at k1;have get:∀j v,aQ (val c x) j=some v->((List.range cs.length).map xs).getD j undef=xs j/\∃v,aQ cs j=some v:=λj v hj=>by
       have ad:j<(val c x).length:=by rw[aA]at hj;exact(xq.1 hj).1
       refine⟨?_,cs[j]'(by omega),by rw[aA];exact xh _⟩;rw[xd,oE,BU (by omega)];rfl
      refine .ptr xs (λe=>aa ?_) hb (λj v hj=>?_) λj v hj=>?_;·rw[e]at k1;exact C9 k1.symm
      ·obtain⟨_,v',ab⟩:=get j v hj;exact hx j v' ab
      ·have:=k2 j v hj;rw[(get j v hj).1]at this;exact this
  next=>cases h
 | .agg c,S,l,x,r,ys,hE,h,hr=>by
  simp only[un]at h;split at h<;>try cases h
  rename_i cs r'
  split at h
  next z hz=>
   cases h;cases ys with
   |nil=>exact hr.elim
   |cons y ys=>
    refine⟨[y],ys,rfl,.one ?_,hr.2⟩;have h0:=hr.1;cases h0 with
    | @agg _ _ xs hl hx=>
     obtain⟨y1,y2,he,h1,h2⟩:=rY hE hz (RL.of (ys:=xs.toList) (by simpa using hl) λj v hv=>by simpa using hx j v hv);cases y2 with
     |cons _ _=>exact h2.elim
     |nil=>obtain⟨k1,k2⟩:=h1.to;rw[yT]at he;subst he;exact .agg (by simpa using k1) λj v hv=>by simpa using k2 j v hv
  next=>cases h
theorem iW{μ':Nat->Option MV}{ids:List Nat}(hμ:∀o∈ids,∀mv,μ o=some mv->μ' o=some mv):∀{s:Sh} {S S':Nat->Prop} {x:s.I} {ys:List Value},s.okIds ids=true->(∀b,S b->S' b)->RL (RelV P w lo μ S) (val s x) ys->RL (RelV P w lo μ' S') (val s x) ys
 | .nil,S,S',x,ys,_,hS,hr=>by cases ys with|nil=>exact trivial|cons _ _=>exact hr.elim
 | .cons a b,S,S',x,ys,hk,hS,hr=>by simp only[Sh.okIds,xf]at hk;obtain⟨y1,y2,rfl,h1,h2⟩:=RL.split hr;exact(iW hμ hk.1 hS h1).append (iW hμ hk.2 hS h2)
 | .dat t,S,S',x,[],_,hS,hr=>hr.elim
 | .dat t,S,S',x,y::ys,_,hS,hr=>by
  obtain⟨h1,h2⟩:=hr;cases ys with
  |cons _ _=>exact h2.elim
  |nil=>cases h1 with|dat ht h=>exact .one (.dat ht (h.step λb _ hb=>⟨hS b hb,rfl⟩))
 | .arr o,S,S',x,[],_,hS,hr=>hr.elim
 | .arr o,S,S',x,y::ys,hk,hS,hr=>by
  obtain⟨h1,h2⟩:=hr;cases ys with
  |cons _ _=>exact h2.elim
  |nil=>simp only[Sh.okIds,xbg]at hk;obtain⟨o',aa,e⟩:=hk;have:=xg e;subst this;cases h1 with|arr h=>exact .one (.arr (hμ _ aa _ h))
 | .box o k,S,S',x,[],_,hS,hr=>hr.elim
 | .box o k,S,S',x,y::ys,hk,hS,hr=>by
  obtain⟨h1,h2⟩:=hr;cases ys with
  |cons _ _=>exact h2.elim
  |nil=>simp only[Sh.okIds,xbg]at hk;obtain⟨o',aa,e⟩:=hk;have:=xg e;subst this;cases h1 with|box h=>exact .one (.box (hμ _ aa _ h))
 | .row o,S,S',x,[],_,hS,hr=>hr.elim
 | .row o,S,S',x,y::ys,hk,hS,hr=>by
  obtain⟨h1,h2⟩:=hr;cases ys with
  |cons _ _=>exact h2.elim
  |nil=>simp only[Sh.okIds,xbg]at hk;obtain⟨o',aa,e⟩:=hk;have:=xg e;subst this;cases h1 with|row h hx=>exact .one (.row (hμ _ aa _ h) hx)
 | .nilsl,S,S',x,[],_,hS,hr=>hr.elim
 | .nilsl,S,S',x,y::ys,hk,hS,hr=>by
  obtain⟨h1,h2⟩:=hr;cases ys with
  |cons _ _=>exact h2.elim
  |nil=>cases h1;exact .one .nilsl
 | .clo ts r,S,S',x,[],_,hS,hr=>hr.elim
 | .clo ts r,S,S',x,y::ys,hk,hS,hr=>by
  obtain⟨h1,h2⟩:=hr;cases ys with
  |cons _ _=>exact h2.elim
  |nil=>cases h1 with|clo h=>exact .one (.clo h)
 | .fn f c,S,S',x,[],_,hS,hr=>hr.elim
 | .fn f c,S,S',x,y::ys,hk,hS,hr=>by
  obtain⟨h1,h2⟩:=hr;cases ys with
  |cons _ _=>exact h2.elim
  |nil=>cases h1 with| @fn _ _ _ xs hl hx=>obtain⟨k1,k2⟩:=(iW (S:=λb=>S b\/lo b) (S':=λb=>S' b\/lo b) (s:=c) hμ (by simpa only[Sh.okIds]using hk) (λb hb=>hb.imp (hS b) id) (RL.of (ys:=xs.toList) (by simpa using hl) λj v hv=>by simpa using hx j v hv)).to;exact .one (.fn (by simpa using k1) λj v hv=>by simpa using k2 j v hv)
 | .ptr c,S,S',x,[],_,hS,hr=>hr.elim
 | .ptr c,S,S',x,y::ys,hk,hS,hr=>by
  obtain⟨h1,h2⟩:=hr;cases ys with
  |cons _ _=>exact h2.elim
  |nil=>cases h1 with| @ptr _ _ b k xs ab hb hx hv=>
   obtain⟨k1,k2⟩:=(iW (s:=c) hμ (by simpa only[Sh.okIds]using hk) hS (Db (b:=b) (k:=k) hv)).to;refine .one (.ptr xs ab (hb.imp (hS b) id) hx λj v hj=>?_);have:=k2 j v hj;have ad:j<(val c x).length:=by rw[aA]at hj;exact(xq.1 hj).1
   rw[xd,oE,BU ad]at this;exact this
 | .agg c,S,S',x,[],_,hS,hr=>hr.elim
 | .agg c,S,S',x,y::ys,hk,hS,hr=>by
  obtain⟨h1,h2⟩:=hr;cases ys with
  |cons _ _=>exact h2.elim
  |nil=>cases h1 with| @agg _ _ xs hl hx=>obtain⟨k1,k2⟩:=(iW (s:=c) hμ (by simpa only[Sh.okIds]using hk) hS (RL.of (ys:=xs.toList) (by simpa using hl) λj v hv=>by simpa using hx j v hv)).to;exact .one (.agg (by simpa using k1) λj v hv=>by simpa using k2 j v hv)
end
end
section
open Go.RowKit (Below)
def only(μ:Nat->Option MV)(ids:List Nat)(o:Nat):Option MV:=if ids.any (Nat.beq o)=true then μ o else none
theorem Mb[Tabs]{μ:Nat->Option MV}{ids:List Nat}{o:Nat}{mv:MV}(ho:o∈ids)(h:μ o=some mv):only μ ids o=some mv:=by unfold only;rw[qi (xbg.2 ⟨o,ho,bC o⟩)];exact h
theorem iU{μ:Nat->Option MV}{ids:List Nat}{o:Nat}{mv:MV}(h:only μ ids o=some mv):o∈ids/\μ o=some mv:=by
 unfold only at h;split at h
 next e=>
  obtain⟨x,hx,e⟩:=xbg.1 e;rw[xg e];exact⟨hx,by rw[<-xg e];exact h⟩
 next=>cases h
section
variable {P:Program}{E:Env}{tt:Nat->TD}{fz:Nat->Nat->List Nat}{orc:Orc}{X:Nat->Prop}{lo:Nat->Prop}{N:Par}{w0 w:World}{a:Act}{μ:Nat->Option MV}{s:St}
theorem RL.map{R:AV->Value->Prop}{f:Nat->AV}{g:Nat->Value}(h:∀i,R (f i) (g i)):∀l:List Nat,RL R (l.map f) (l.map g)
 | []=>trivial
 |i::l=>⟨h i,RL.map h l⟩
theorem RL.zip{R:AV->Value->Prop}(hu:∀x,R .undef x){g:Nat->Value}(i:Nat):∀{l:List Nat} {vs:List AV},RL R vs (l.map g)->R ((aM (BO l vs) i).getD .undef) (g i)
 | [],[],_=>hu _
 | [],_::_,h=>h.elim
 |_::_,[],h=>h.elim
 |j::l,v::vs,h=>by
  simp only[BO,aM];split
  next e=>
   have:=xg e;subst this;exact h.1
  next=>exact RL.zip hu i h.2
theorem pB[Tabs]{g:Nat->Option Ob}:∀{l:List (Nat×OSh)} {y:OL l},K2 g l=some y->∀o,o∈l.map (·.1)->∃os x z,aM (eG l y) o=some (os.mk z)/\g o=some x/\os.un x=some z/\(o,os)∈l
 | [],_,_,o,ho=>by cases ho
 |(i,os)::l,y,h,o,ho=>by
  simp only[K2]at h;split at h
  next x hx=>
   split at h
   next y' z' hy hz=>
    cases h;simp only[eG,aM];by_cases e:i=o;·subst e;rw[bC];exact⟨os,x,y',rfl,hx,hy,xu⟩
    ·rw[aZ e];simp only[M8,xae]at ho;obtain⟨aa,x',z,h1,h2,h3,h4⟩:=pB hz o (ho.resolve_left λe'=>e e'.symm);exact⟨aa,x',z,h1,h2,h3,xr _ h4⟩
   next=>cases h
  next=>cases h
theorem Oh{μ':Nat->Option MV}{ids:List Nat}(hμ:∀o∈ids,∀mv,μ o=some mv->μ' o=some mv){S S':Nat->Prop}(hS:∀b,S b->S' b){os:OSh}{x:Ob}{z:os.I}{mv:MV}(hk:os.okIds ids=true)(hu:os.un x=some z)
  (h:ObOK P w lo μ S x mv):ObOK P w lo μ' S' (os.mk z) mv:=by
 cases os with
 |arr e t=>
  cases x with
  |arr e' t' l=>
   simp only[OSh.un]at hu;split at hu
   next he=>
    have:=xg he;subst this;obtain⟨e2,rfl⟩:=Ty.cast_spec hu;cases e2;obtain⟨⟨ab,ad⟩,ae,xs,h1,h2⟩:=h;exact⟨⟨ab,ad⟩,ae,xs,h1,h2.step λb _ hb=>⟨hS b hb,rfl⟩⟩
   next=>cases hu
  |spent=>simp[OSh.un]at hu
  |perm=>simp[OSh.un]at hu
  |rows e e2 t l hh=>simp[OSh.un]at hu
  |cells cs=>simp[OSh.un]at hu
 |perm e e2 t=>
  cases x with
  |perm k e' af t' ix l=>
   simp only[OSh.un]at hu;split at hu
   next he aa=>
    have:=xg he;subst this;have:=xg aa;subst this;split at hu
    next y hy=>
     obtain⟨e3,rfl⟩:=Ty.cast_spec hy;cases e3;cases hu;exact PermOK.step h (λb _ hb=>⟨hS b hb,rfl⟩) (λ_ _=>rfl) λb hb=>(PermOK.low h b hb).1
    next=>cases hu
   next=>cases hu
  |_=>simp[OSh.un]at hu
 |rows e e2 t=>
  cases x with
  |rows e' af t' l hh=>
   cases hh with
   |some q=>simp[OSh.un]at hu
   |none=>
    simp only[OSh.un]at hu;split at hu
    next he aa=>
     have:=xg he;subst this;have:=xg aa;subst this;obtain⟨e3,rfl⟩:=Ty.cast_spec hu;cases e3;exact⟨h.1.step (λb _ hb=>⟨hS b hb,rfl⟩) (λ_ _=>rfl) λb hb=>(h.1.low b hb).1,λi d hd=>by cases hd⟩
    next=>cases hu
  |arr e' t' l=>simp[OSh.un]at hu
  |perm=>simp[OSh.un]at hu
  |spent=>simp[OSh.un]at hu
  |cells cs=>simp[OSh.un]at hu
 |cells c=>
  cases x with
  |arr e' t' l=>simp[OSh.un]at hu
  |perm=>simp[OSh.un]at hu
  |spent=>simp[OSh.un]at hu
  |rows e e2 t l hh=>simp[OSh.un]at hu
  |cells cs=>
   simp only[OSh.un]at hu;split at hu
   next y hy=>
    cases hu;obtain⟨b,vs,e,h1,h2,h3,h4,h5⟩:=h;obtain⟨y1,y2,he,k1,k2⟩:=rY CloAll.none hy (RL.of (ys:=vs.toList) (by simpa using h4.symm) λj v hv=>by simpa using h5 j v hv);cases y2 with
    |cons _ _=>exact k2.elim
    |nil=>rw[yT]at he;subst he;obtain⟨k3,k4⟩:=(iW hμ (by simpa only[OSh.okIds]using hk) hS k1).to;exact⟨b,vs,e,h1,h2,h3,by simpa using k3.symm,λj v hv=>by simpa using k4 j v hv⟩
   next=>cases hu
theorem U4[Tabs]{ids:List Nat}{b:Nat}(h:SS X μ b):SS X (only μ ids) b:=⟨h.1,λo mv ho=>h.2 o mv (iU ho).2⟩
theorem Rel.un[Tabs]{S:SSh}(hk:S.ok=true){t:S.T}(hu:YV S s=some t)(h:Rel P X lo N w0 s a w μ):∃μ',Rel P X lo N w0 (l8 S t) a w μ':=by
 unfold YV at hu;split at hu
 next x hx=>
  split at hu
  next y hy=>
   cases hu;simp only[SSh.ok,xf,xt]at hk;have hμ:∀o∈S.obs.map (·.1),∀mv,μ o=some mv->only μ (S.obs.map (·.1)) o=some mv:=λo ho mv h=>Mb ho h;refine⟨only μ (S.obs.map (·.1)),⟨h.mem.hX,h.mem.hlo,λo mv ho=>?_,λo p mv mv' b h1 h2=>h.mem.dis o p mv mv' b (iU h1).2 (iU h2).2,h.mem.tab⟩,λi=>?_,h.bel,h.df,h.sz⟩;·obtain⟨h1,h2⟩:=iU ho;obtain⟨os,x',z,k1,k2,k3,k4⟩:=pB hy o h1;obtain⟨aa,k5,k6⟩:=h.mem.ob o mv h2;rw[k5]at k2;cases k2;exact⟨os.mk z,k1,Oh hμ (λb=>U4) (hk.2 _ k4) k3 k6⟩
   ·obtain⟨y1,y2,he,k1,k2⟩:=rY CloAll.none hx (RL.map (λi=>h.fr i) S.slots);cases y2 with|cons _ _=>exact k2.elim|nil=>rw[yT]at he;subst he;exact RL.zip (λ_=>.undef) i (iW hμ hk.1 (λb=>U4) k1)
  next=>cases hu
 next=>cases hu
theorem O4[Tabs]{o e:Nat}{t:Ty}(h:Rel P X lo N w0 s a w μ)(hg:s.g o=none):
  Rel P X lo N w0 {fr:=s.fr,ob:=(o,.arr e t [])::s.ob} a w (again μ o ⟨.slice none 0 0,[],[]⟩):=by
 have af:μ o=none:=by
  cases hm:μ o with
  |none=>rfl
  |some mv=>obtain⟨y,hy,_⟩:=h.mem.ob o mv hm;rw[hg]at hy;cases hy
 have aa:∀p mv,μ p=some mv->again μ o ⟨.slice none 0 0,[],[]⟩ p=some mv:=λp mv hp=>iS (λe=>by rw[e,af]at hp;cases hp) hp;have hS:∀b,b<w.heap.size->SS X μ b->SS X (again μ o ⟨.slice none 0 0,[],[]⟩) b:=λb _ hb=>⟨hb.1,λp mv hp e=>by
  rcases aP hp with⟨rfl,rfl⟩|⟨_,hp⟩
  ·cases e
  ·exact hb.2 p mv hp e⟩
 refine⟨⟨h.mem.hX,h.mem.hlo,λp mv hp=>?_,λp p' mv mv' k hp ah hk ab=>?_,h.mem.tab⟩,λj=>(h.fr j).step aa h.mem.hlo (λb hb hs=>⟨hS b hb hs,rfl⟩) λ_ _=>rfl,h.bel,h.df,h.sz⟩
 ·rcases aP hp with⟨rfl,rfl⟩|⟨ad,hp⟩
  ·exact⟨.arr e t [],by simp[St.g,aM],⟨rfl,rfl⟩,λb hb=>by simp[aD]at hb,[],World.ownsRow_nil w 0 e t.size,rfl⟩
  ·obtain⟨y,hy,ai⟩:=h.mem.ob p mv hp;refine⟨y,?_,ai.step h.mem.hlo aa (λb hb hs=>⟨hS b hb hs,rfl⟩) (λ_ _=>rfl) λ_ _=>rfl⟩;simp only[St.g,aM,aZ (xB ad)];exact hy
 ·rcases aP hp with⟨rfl,rfl⟩|⟨ad,aj⟩<;>rcases aP ah with⟨rfl,rfl⟩|⟨ak,ae⟩
  ·rfl
  ·cases hk
  ·cases ab
  ·exact h.mem.dis _ _ _ _ k aj ae hk ab
theorem Mc{w:World}{S:Nat->Prop}{y:Value}(hv:RelV P w lo μ S .nilsl y):y=.slice none 0 0:=by cases hv;rfl
theorem Rel.own[Tabs]{i o e:Nat}{t:Ty}(h:Rel P X lo N w0 s a w μ)(hs:s.slot i=.nilsl)(hg:s.g o=none):
  ∃μ',Rel P X lo N w0 {fr:=(i,.arr o)::s.fr,ob:=(o,.arr e t [])::s.ob} a w μ':=by
 have hv:=h.fr i;rw[hs]at hv;have aa:=Mc hv;exact⟨_,(O4 h hg).know (d:=i) (by rw[aa];exact .arr (rs:=[]) (hs:=[]) cD)⟩
theorem Ez[Tabs]{p j o:Nat}{x:Ob}{cs:List AV}{μ':Nat->Option MV}(h1:Rel P X lo N w0 {fr:=s.fr,ob:=(o,x)::s.ob} a w μ')(hp:s.g p=some (.cells cs))(hg:s.g o=none)(hj:aQ cs j=some .nilsl)(ho:∃rs hs,μ' o=some ⟨.slice none 0 0,rs,hs⟩):
  Rel P X lo N w0 {fr:=s.fr,ob:=(p,.cells (cs.set j (.arr o)))::(o,x)::s.ob} a w μ':=by
 have ad:o≠p:=λe=>by rw[e,hp]at hg;cases hg
 refine⟨⟨h1.mem.hX,h1.mem.hlo,λq mv hq=>?_,h1.mem.dis,h1.mem.tab⟩,h1.fr,h1.bel,h1.df,h1.sz⟩;obtain⟨y,hy,aa⟩:=h1.mem.ob q mv hq;by_cases e:q=p
 ·subst e;have ab:s.g q=some y:=by simp only[St.g,aM,aZ ad]at hy;exact hy
  rw[hp]at ab;cases ab;refine⟨.cells (cs.set j (.arr o)),by simp[St.g,aM],?_⟩;obtain⟨b,vs,e,h2,h3,h4,h5,h6⟩:=aa;refine⟨b,vs,e,h2,h3,h4,by rw[C7];exact h5,λk v hk=>?_⟩;rw[aA,VA]at hk;split at hk
  next e'=>
   subst e';split at hk
   next=>
    cases hk;obtain⟨rs,hs,ho⟩:=ho;rw[Mc (h6 j _ hj)];exact .arr ho
   next=>cases hk
  next=>exact h6 k v (by rw[aA];exact hk)
 ·refine⟨y,?_,aa⟩;simp only[St.g,aM,aZ (xB e)];exact hy
theorem Rel.ownB[Tabs]{p j o e:Nat}{t:Ty}{cs:List AV}(h:Rel P X lo N w0 s a w μ)(hp:s.g p=some (.cells cs))(hg:s.g o=none)(hj:aQ cs j=some .nilsl):
  ∃μ',Rel P X lo N w0 {fr:=s.fr,ob:=(p,.cells (cs.set j (.arr o)))::(o,.arr e t [])::s.ob} a w μ':=
 ⟨_,Ez (O4 h hg) hp hg hj ⟨[],[],cD⟩⟩
theorem Rel.ownRB[Tabs]{p j o e e2:Nat}{t:Ty}{cs:List AV}(h:Rel P X lo N w0 s a w μ)(hp:s.g p=some (.cells cs))(hg:s.g o=none)(hj:aQ cs j=some .nilsl):
  ∃μ',Rel P X lo N w0 {fr:=s.fr,ob:=(p,.cells (cs.set j (.arr o)))::(o,.rows e e2 t [] none)::s.ob} a w μ':=
 ⟨_,Ez (Ip h hg) hp hg hj ⟨[],[],cD⟩⟩
theorem nG{w:World}{e sz n:Nat}{mv:Value}{xs:List Value}(h:w.ownsRow 0 e sz mv n xs):∃a c,mv=.slice a n c:=by
 rcases h.2 with⟨rfl,rfl⟩|⟨gb,cap,cur,rfl,_⟩
 ·exact⟨_,_,rfl⟩
 ·exact⟨_,_,rfl⟩
def uL(μ:Nat->Option MV)(o o' p:Nat):Option MV:=if p=o' then μ o else if p=o then none else μ p
theorem qN{o o' p:Nat}{mv:MV}(h:uL μ o o' p=some mv):(p=o'/\μ o=some mv)\/(p≠o'/\p≠o/\μ p=some mv):=by
 unfold uL at h;split at h;·exact .inl ⟨by assumption,h⟩
 ·split at h;·cases h
  ·exact .inr ⟨by assumption,by assumption,h⟩
theorem Rel.renG[Tabs]{o o':Nat}{x0:Ob}(h:Rel P X lo N w0 s a w μ)(hg:s.g o=some x0)(ab:s.g o'=none)(ad:∀mv,ObOK P w lo μ (SS X μ) x0 mv->∃a n c,mv.v=.slice a n c)
  (ae:∀μ' S' mv,(∀b,b<w.heap.size->SS X μ b->S' b)->ObOK P w lo μ (SS X μ) x0 mv->ObOK P w lo μ' S' x0 mv):
  ∃μ',Rel P X lo N w0 (s.swap o (.arr o') [(o',x0)]) a w μ':=by
 have ao:o≠o':=λe=>by rw[e,ab]at hg;cases hg
 have af:μ o'=none:=by
  cases hm:μ o' with
  |none=>rfl
  |some mv=>obtain⟨y,hy,_⟩:=h.mem.ob o' mv hm;rw[ab]at hy;cases hy
 have hμ:∀p mv,p≠o->μ p=some mv->uL μ o o' p=some mv:=λp mv hp hm=>by unfold uL;rw[qh (λe=>by rw[e,af]at hm;cases hm),qh hp];exact hm
 have hS:∀b,b<w.heap.size->SS X μ b->SS X (uL μ o o') b:=λb _ hb=>⟨hb.1,λp mv hp e=>by
  rcases qN hp with⟨_,hp⟩|⟨_,_,hp⟩
  ·exact hb.2 o mv hp e
  ·exact hb.2 p mv hp e⟩
 have hd:∀mv,μ o=some mv->RelV P w lo (uL μ o o') (SS X (uL μ o o')) (.arr o') mv.v:=λmv hm=>by obtain⟨y,hy,aa⟩:=h.mem.ob o mv hm;rw[hg]at hy;cases hy;obtain⟨a',n',c',e⟩:=ad mv aa;obtain⟨v,rs,hs⟩:=mv;simp only at e;subst e;exact .arr (rs:=rs) (hs:=hs) (by unfold uL;rw[qi rfl,hm])
 refine⟨uL μ o o',⟨h.mem.hX,h.mem.hlo,λp mv hp=>?_,λp p' mv mv' b h1 h2 h3 h4=>?_,h.mem.tab⟩,λi=>?_,h.bel,h.df,h.sz⟩
 ·rcases qN hp with⟨rfl,ah⟩|⟨ai,aj,hp⟩
  ·obtain⟨x,hx,aa⟩:=h.mem.ob o mv ah;rw[hg]at hx;cases hx;exact⟨x0,by simp[St.g,St.swap,aM],ae _ _ _ hS aa⟩
  ·obtain⟨x,hx,aa⟩:=h.mem.ob p mv hp;refine⟨fW o (.arr o') x,?_,jW h.mem.hlo hμ hd hS aa⟩;simp only[St.g,St.swap,xek,aM,aZ (xB ai),bZ];rw[dC o s.ob p aj];simp only[St.g]at hx;rw[hx];rfl
 ·rcases qN h1 with⟨rfl,k1⟩|⟨k0,ak,k1⟩<;>rcases qN h2 with⟨rfl,k2⟩|⟨k3,al,k2⟩
  ·rfl
  ·exact absurd (h.mem.dis _ _ _ _ b k1 k2 h3 h4).symm al
  ·exact absurd (h.mem.dis _ _ _ _ b k1 k2 h3 h4) ak
  ·exact h.mem.dis _ _ _ _ b k1 k2 h3 h4
 ·simp only[St.slot,St.swap,bZ];have:=mJ (d:=.arr o') h.mem.hlo hμ hd hS (h.fr i);simp only[St.slot]at this;cases hl:aM s.fr i with|none=>exact .undef|some v=>rw[hl]at this;exact this
theorem Rel.ren[Tabs]{o o' e:Nat}{t:Ty}{l:List t.I}(h:Rel P X lo N w0 s a w μ)(hg:s.g o=some (.arr e t l))(ab:s.g o'=none):
  ∃μ',Rel P X lo N w0 (s.swap o (.arr o') [(o',.arr e t l)]) a w μ':=
 h.renG hg ab (λmv ⟨_,_,xs,aa,_⟩=>by obtain⟨a',c',e⟩:=nG aa;exact⟨_,_,_,e⟩)
  λμ' S' mv hS ⟨k0,k3,xs,k1,k2⟩=>⟨k0,k3,xs,k1,k2.step λb hb hs=>⟨hS b hb hs,rfl⟩⟩
theorem Rel.renR[Tabs]{o o' e e2:Nat}{t:Ty}{l:List (List t.I)}(h:Rel P X lo N w0 s a w μ)(hg:s.g o=some (.rows e e2 t l none))(ab:s.g o'=none):
  ∃μ',Rel P X lo N w0 (s.swap o (.arr o') [(o',.rows e e2 t l none)]) a w μ':=
 h.renG hg ab (λmv aa=>by obtain⟨a',c',e⟩:=nG aa.1.own;exact⟨_,_,_,e⟩)
  λμ' S' mv hS aa=>⟨aa.1.step (λb hb hs=>⟨hS b hb hs,rfl⟩) (λ_ _=>rfl) λb hb=>(aa.1.low b hb).1,λi d hd=>by cases hd⟩
theorem Rel.renP[Tabs]{o o' e e2:Nat}{k:Bool}{t:Ty}{ix:List Nat}{l:List (List t.I)}(h:Rel P X lo N w0 s a w μ)(hg:s.g o=some (.perm k e e2 t ix l))(ab:s.g o'=none):
  ∃μ',Rel P X lo N w0 (s.swap o (.arr o') [(o',.perm k e e2 t ix l)]) a w μ':=
 h.renG hg ab (λmv aa=>by obtain⟨a',c',e⟩:=nG (PermOK.own aa);exact⟨_,_,_,e⟩)
  λμ' S' mv hS aa=>PermOK.step aa (λb hb hs=>⟨hS b hb hs,rfl⟩) (λ_ _=>rfl) λb hb=>(PermOK.low aa b hb).1
theorem Rel.ren'[Tabs](h:Rel P X lo N w0 s a w μ)(o o':Nat):∃μ',Rel P X lo N w0 (s.ren o o') a w μ':=by
 unfold St.ren;split
 next h1 h2=>exact h.ren h1 h2
 next h1 h2=>exact h.renR h1 h2
 next h1 h2=>exact h.renP h1 h2
 next=>exact⟨μ,h⟩
theorem Rel.act[Tabs](h:Rel P X lo N w0 s a w μ)(c:CA):∃μ',Rel P X lo N w0 (s.act c) a w μ':=by
 cases c with
 |fz o=>exact h.freeze o
 |own i o e t=>
  simp only[St.act];split
  next h1 h2=>exact h.own h1 h2
  next=>exact⟨μ,h⟩
 |drop o=>exact h.drop o
 |perm o=>exact h.perm o
 |pull k d=>exact h.pull k d
 |ownB p j o e t=>
  simp only[St.act];split
  next h1 h2=>
   split
   next h3=>exact h.ownB h1 h2 h3
   next=>exact⟨μ,h⟩
  next=>exact⟨μ,h⟩
 |ownRB p j o e e2 t=>
  simp only[St.act];split
  next h1 h2=>
   split
   next h3=>exact h.ownRB h1 h2 h3
   next=>exact⟨μ,h⟩
  next=>exact⟨μ,h⟩
 |ren o o'=>exact h.ren' o o'
 |pin i o'=>
  simp only[St.act];split
  next=>exact h.ren' _ o'
  next=>exact⟨μ,h⟩
 |pinB p j o'=>
  simp only[St.act];split
  next=>
   split
   next=>exact h.ren' _ o'
   next=>exact⟨μ,h⟩
  next=>exact⟨μ,h⟩
 |rep o o'=>
  simp only[St.act];split
  next=>
   obtain⟨μ1,h1⟩:=h.freeze o';exact h1.ren' o o'
  next=>exact⟨μ,h⟩
 |repB p j o'=>
  simp only[St.act];split
  next=>
   split
   next o _=>
    split
    next=>
     obtain⟨μ1,h1⟩:=h.drop o';exact h1.ren' o o'
    next=>exact⟨μ,h⟩
   next=>exact⟨μ,h⟩
  next=>exact⟨μ,h⟩
theorem Rel.acts[Tabs]:∀(l:List CA) {s:St} {μ:Nat->Option MV},Rel P X lo N w0 s a w μ->∃μ',Rel P X lo N w0 (s.acts l) a w μ'
 | [],_,μ,h=>⟨μ,h⟩
 |c::l,s,μ,h=>by obtain⟨μ',h'⟩:=h.act c;exact Rel.acts l h'
theorem Keep.ok[Tabs]{k:Keep}(hk:k.S.ok=true){t:k.S.T}(hu:k.at s=some t)(h:Rel P X lo N w0 s a w μ):∃μ',Rel P X lo N w0 (l8 k.S t) a w μ':=by obtain⟨μ1,h1⟩:=Rel.acts k.acts h;exact h1.un hk hu
theorem FK[Tabs]{l:List (Nat×Keep)}(h:l.all (λp=>p.2.S.ok)=true){i:Nat}{k:Keep}(hl:aM l i=some k):k.S.ok=true:=
 xt.1 h _ (dX hl)
theorem d9[Tabs]{hd:Option Keep}{ex:List (Nat×Keep)}{rt:Keep}(h1:∀k,hd=some k->k.S.ok=true)(h2:ex.all (λp=>p.2.S.ok)=true)(h3:rt.S.ok=true){o o':Out}(hk:rB hd ex rt o=some o'){e:Exit}
  (h:X7 P X lo N w0 o e a w):X7 P X lo N w0 o' e a w:=by
 cases e with
 |normal=>
  obtain⟨s,μ,rfl,hr⟩:=h;simp only[rB]at hk;cases hd with
  |none=>cases hk
  |some k=>obtain⟨t,h4,rfl⟩:=xau.1 hk;obtain⟨μ',aa⟩:=Keep.ok (h1 k rfl) h4 hr;exact⟨_,μ',rfl,aa⟩
 |exit id=>
  obtain⟨s,μ,rfl,hr⟩:=h;simp only[rB]at hk;split at hk
  next k hl=>
   obtain⟨t,h4,rfl⟩:=xau.1 hk;obtain⟨μ',aa⟩:=Keep.ok (FK h2 hl) h4 hr;exact⟨_,μ',rfl,aa⟩
  next=>cases hk
 |ret=>obtain⟨s,μ,rfl,hr⟩:=h;simp only[rB]at hk;obtain⟨t,h4,rfl⟩:=xau.1 hk;obtain⟨μ',aa⟩:=Keep.ok h3 h4 hr;exact⟨_,μ',rfl,aa⟩
 |_=>exact h.elim
theorem sW{V R:Type}{f:V->Option (V⊕R)}:∀{n m:Nat} {v:V} {r:R},gU f n v=some r->n<=m->gU f m v=some r
 |0,_,_,_,h,_=>by cases h
 |n+1,0,_,_,_,h=>by omega
 |n+1,m+1,v,r,h,hm=>by
  simp only[gU]at h⊢;split at h;·exact sW h (by omega)
  ·exact h
  ·cases h
theorem iter_some[Tabs]{V R:Type}{f:V->Option (V⊕R)}{v:V}{r:R}:aB f v=some r↔∃n,gU f n v=some r:=by
 have same:∀{n m:Nat} {r r':R},gU f n v=some r->gU f m v=some r'->r=r':=λ{n m r r'} h h'=>by have h1:=sW h (Nat.le_max_left n m);have h2:=sW h' (Nat.le_max_right n m);rw[h1]at h2;exact zB h2
 unfold aB;constructor
 ·intro h;split at h
  next r' hr=>exact⟨_,by rw[<-h];exact hr⟩
  next=>
   split at h
   next hex=>
    have:=hex.choose_spec;simp only[xe]at h;rw[h]at this;exact this
   next=>cases h
 ·rintro⟨n,h⟩;split
  next r' hr=>rw[same hr h]
  next=>
   have hex:∃r n,gU f n v=some r:=⟨r,n,h⟩
   rw[dif_pos hex];obtain⟨m,hm⟩:=hex.choose_spec;rw[same hm h]
theorem OI[Tabs]{id:Nat}{b:Code}{d:LD}(hd:d.OK E tt fz orc b)(hb:Ae P X lo N w0 b (cR E tt fz orc b)):Ae P X lo N w0 (.block id (.loop b)) (λs=>match d.orc id s with|some x=>x|none=>.f):=by
 intro s a w μ out h he;cases ho:d.orc id s with
 |none=>simp only[ho]at he;cases he
 |some x=>
  simp only[ho]at he;unfold LD.orc at ho;obtain⟨t,ht,rfl⟩:=xau.1 ho;simp only[qn,Tr.ev_map]at he;obtain⟨r,hr,he⟩:=eM he;obtain⟨ex,hex,rfl⟩:=xau.1 he;obtain⟨n,hn⟩:=iter_some.1 hr;obtain⟨μ',h'⟩:=Keep.ok hd.ok ht h;rw[<-hd.eta t]at h';refine wp_block (Vq (λn a w=>∃v μ,gU (λv=>(d.step (d.sk t) v).ev) n v=some r/\Rel P X lo N w0 (l8 d.head.S (d.join (d.sk t) v)) a w μ) (λn a w hI=>?_) (n:=n) ⟨_,μ',hn,h'⟩);obtain⟨v,μ1,hv,ad⟩:=hI;cases n with
  |zero=>cases hv
  |succ m=>
   simp only[gU]at hv;have aa:=hd.step (d.sk t) v;rw[Tr.ev_map,Tr.ev_bind]at aa;cases hx:(d.step (d.sk t) v).ev with
   |none=>rw[hx]at hv;cases hv
   |some x=>
    rw[hx]at hv aa;simp only[xc]at aa;cases x with
    |inl v'=>
     simp only at hv;simp only[LD.next,qq]at aa;obtain⟨o,h1,h2⟩:=xau.1 aa;refine Code.wp_mono (λe a' w' hp=>?_) (hb _ a w μ1 o ad h1);have ab:=d9 (λk hk=>by cases hk;exact hd.ok) hd.oke hd.okr h2 hp;cases e with
     |normal=>obtain⟨s',μ2,e1,h3⟩:=ab;cases e1;exact⟨m,Nat.lt_succ_self m,v',μ2,hv,h3⟩
     |exit i=>obtain⟨_,_,e1,_⟩:=ab;cases e1
     |ret=>obtain⟨_,_,e1,_⟩:=ab;cases e1
     |_=>exact ab.elim
    |inr r'=>
     simp only[xe]at hv;subst hv;simp only[LD.next,Tr.ev_map,hex,oG]at aa;obtain⟨o,h1,h2⟩:=xau.1 aa;refine Code.wp_mono (λe a' w' hp=>?_) (hb _ a w μ1 o ad h1);have ab:=d9 (λk hk=>by cases hk;exact hd.ok) hd.oke hd.okr h2 hp;cases ex with
     |exit i s'=>
      cases e with
      |normal=>obtain⟨_,_,e1,_⟩:=ab;cases e1
      |exit i'=>
       obtain⟨s2,μ2,e1,h3⟩:=ab;simp only[Ex.out,Out.exit.injEq]at e1;obtain⟨rfl,rfl⟩:=e1;simp only[Exit.then,Exit.inBlock,Ex.at];by_cases e:i=id;·subst e;rw[bC,qi rfl];exact⟨_,μ2,rfl,h3⟩
       ·rw[aZ e,qh e];exact⟨_,μ2,rfl,h3⟩
      |ret=>obtain⟨_,_,e1,_⟩:=ab;cases e1
      |_=>exact ab.elim
     |ret s'=>
      cases e with
      |normal=>obtain⟨_,_,e1,_⟩:=ab;cases e1
      |exit i'=>obtain⟨_,_,e1,_⟩:=ab;cases e1
      |ret=>obtain⟨s2,μ2,e1,h3⟩:=ab;cases e1;exact⟨_,μ2,rfl,h3⟩
      |_=>exact ab.elim
def eO(E:Env)(tt:Nat->TD)(fz:Nat->Nat->List Nat)(l:List (Nat×LD))(c:Code):Prop:=
 ∀p∈bV c,∀q∈l,q.1=p.1->q.2.OK E tt fz (fK l) p.2
theorem sT{id:Nat}{s:St}{x:Tr Out}:∀{l:List (Nat×LD)},fK l id s=some x->∃q∈l,q.1=id/\q.2.orc id s=some x
 | [],h=>by cases h
 |(n,d)::r,h=>by
  unfold fK at h;split at h
  next e=>
   split at h
   next y hy=>
    cases h;exact⟨(n,d),xu,xg e,hy⟩
   next=>
    obtain⟨q,h1,h2⟩:=sT h;exact⟨q,xr _ h1,h2⟩
  next=>
   obtain⟨q,h1,h2⟩:=sT h;exact⟨q,xr _ h1,h2⟩
theorem dV[Tabs](hm:P.follows .mixedOrders=true)(hE:jG P E)(hT:aW P tt){l:List (Nat×LD)}:∀(c:Code),eO E tt fz l c->bT fz N.k N.n c=true->
  ∀p∈bV c,Ae P X lo N w0 (.block p.1 (.loop p.2)) (λs=>match fK l p.1 s with|some x=>x|none=>.f)
 | .seq x y,hl,hc=>λp hp=>by
  simp only[bT,xf]at hc;simp only[eO,bV,xp]at hl hp;rcases hp with hp|hp;·exact dV hm hE hT x (λp hp=>hl p (.inl hp)) hc.1 p hp
  ·exact dV hm hE hT y (λp hp=>hl p (.inr hp)) hc.2 p hp
 | .cond _ x y,hl,hc=>λp hp=>by
  simp only[bT,xf]at hc;simp only[eO,bV,xp]at hl hp;rcases hp with hp|hp;·exact dV hm hE hT x (λp hp=>hl p (.inl hp)) hc.1 p hp
  ·exact dV hm hE hT y (λp hp=>hl p (.inr hp)) hc.2 p hp
 | .block id (.loop b),hl,hc=>λp hp=>by
  simp only[bT]at hc;simp only[eO,bV,xae]at hl hp;have aa:=dV hm hE hT b (λp hp=>hl p (.inr hp)) hc;rcases hp with rfl|hp
  ·intro s a w μ out h he;dsimp only at he;cases ho:fK l id s with|none=>rw[ho]at he;cases he|some x=>rw[ho]at he;dsimp only at he;obtain⟨q,h1,h2,h3⟩:=sT ho;exact OI (hl _ (.inl rfl) q h1 h2) (iJ hm hE hT b aa hc) s a w μ out h (by dsimp only;rw[h3];exact he)
  ·exact aa p hp
 | .block _ .skip,hl,hc=>λp hp=>by cases hp
 | .block _ (.exit _),hl,hc=>λp hp=>by cases hp
 | .block _ .ret,hl,hc=>λp hp=>by cases hp
 | .block _ (.region _ _ _),hl,hc=>λp hp=>by cases hp
 | .block _ (.seq x y),hl,hc=>dV hm hE hT (.seq x y) hl hc
 | .block _ (.cond c x y),hl,hc=>dV hm hE hT (.cond c x y) hl hc
 | .block _ (.block i c),hl,hc=>dV hm hE hT (.block i c) hl hc
 | .block _ (.rangeFunc _ _ _ _),hl,hc=>λp hp=>by cases hp
 | .block _ (.scope _),hl,hc=>λp hp=>by cases hp
 | .block _ (.label _),hl,hc=>λp hp=>by cases hp
 | .block _ (.goto _),hl,hc=>λp hp=>by cases hp
 | .block _ (.refuse _),hl,hc=>λp hp=>by cases hp
 | .skip,hl,hc=>λp hp=>by cases hp
 | .exit _,hl,hc=>λp hp=>by cases hp
 | .ret,hl,hc=>λp hp=>by cases hp
 | .region _ _ _,hl,hc=>λp hp=>by cases hp
 | .loop _,hl,hc=>λp hp=>by cases hp
 | .rangeFunc _ _ _ _,hl,hc=>λp hp=>by cases hp
 | .scope _,hl,hc=>λp hp=>by cases hp
 | .label _,hl,hc=>λp hp=>by cases hp
 | .goto _,hl,hc=>λp hp=>by cases hp
 | .refuse _,hl,hc=>λp hp=>by cases hp
end
end
section
open Go.RowKit (Below)
section
variable {P:Program}{E:Env}{tt:Nat->TD}{w w':World}{lo lo':Nat->Prop}{μ μ':Nat->Option MV}
theorem Pv{S S':Nat->Prop}{v:AV}{x:Value}(hc:cl0 v=true)(h:RelV P w lo μ S v x)(hl:∀b,lo b->lo' b)(hw:∀b,b<w.heap.size->S b->S' b/\w'.heap[b]? =w.heap[b]?)(aa:∀b,lo b->w'.heap[b]? =w.heap[b]?):
  RelV P w' lo' μ' S' v x:=by
 cases h with
 |undef=>exact .undef
 |dat ht h=>exact .dat ht (h.step hw)
 |nilsl=>exact .nilsl
 |clo h=>exact .clo (h.step hl aa)
 | @fn _ f caps xs ab h=>
  cases caps with
  |nil=>exact .fn ab λj v hv=>by simp[aQ]at hv
  |cons c caps=>simp[cl0]at hc
 |_=>simp[cl0]at hc
theorem Ua[Tabs]{S S':Nat->Prop}{cs:List AV}{x:Value}(hc:cs.all cl0=true)(h:RelV P w lo μ S (.ptr cs) x)(hl:∀b,lo b->lo' b)(hw:∀b,b<w.heap.size->S b->S' b/\w'.heap[b]? =w.heap[b]?)(aa:∀b,lo b->w'.heap[b]? =w.heap[b]?):
  RelV P w' lo' μ' S' (.ptr cs) x:=by
 cases h with
 | @ptr _ _ b k xs hb0 hb hx h=>
  have ad:b<w.heap.size:=by
   cases cs with
   |nil=>exact absurd rfl hb0
   |cons c cs=>exact block_lt_of_cell (hx 0 c rfl)
  have ab:w'.heap[b]? =w.heap[b]? :=hb.elim (λhS=>(hw b ad hS).2) (λhS=>aa b hS);refine .ptr xs hb0 (hb.imp (λhS=>(hw b ad hS).1) (hl b)) (λj v hv=>(World.cell?_of_block (w:=w) ab).trans (hx j v hv)) λj v hv=>Pv ?_ (h j v hv) hl hw aa;rw[aA]at hv;exact xt.1 hc v (xz hv)
theorem LI[Tabs]{t:Ty}(ht:t.size≠1)(x:t.I):inj t x=.agg (fI t x):=by
 unfold inj;have:=eI t x;split
 next y e=>rw[e]at this;exact absurd this.symm ht
 next=>rfl
theorem uV[Tabs]{S:Nat->Prop}(hS:∀b,S b){μ:Nat->Option MV}:∀{ts:List Ty} {h:HL ts} {vals:List Value},Hs w ts h vals->RL (RelV P w lo μ S) (At ts h) vals
 | [],_,vals,h=>by simp only[Hs]at h;subst h;exact trivial
 |t::ts,(x,h),vals,hr=>by
  obtain⟨v,r,rfl,h1,h2,h3,h4⟩:=hr;refine⟨?_,uV hS h4⟩;have aa:=h1.step (S':=S) (w':=w) λb _ _=>⟨hS b,rfl⟩
  by_cases ht:t.size=1;·rw[Mm ht];rw[h2 ht]at aa;exact .dat ht aa
  ·rw[LI ht];obtain⟨cs,rfl⟩:=h3 ht;have hr:Rep S w t x cs.toList:=by simpa[Value.cells]using aa
   refine .agg (by rw[eI];simpa using hr.len.symm) λj v hv=>?_;simpa using iO hr j v hv
theorem s5{S S':Nat->Prop}{μ':Nat->Option MV}{v:AV}{x:Value}(hc:U7 v=true)(h:RelV P w lo μ S v x)(hw:∀b,b<w.heap.size->S b->S' b/\w'.heap[b]? =w.heap[b]?):RelV P w' lo' μ' S' v x:=by
 cases h with
 |undef=>exact .undef
 |dat ht h=>exact .dat ht (h.step hw)
 |nilsl=>exact .nilsl
 |_=>simp[U7]at hc
theorem Vg{S S':Nat->Prop}{μ':Nat->Option MV}{v:AV}{x:Value}(hc:Cy v=true)(h:RelV P w lo μ S v x)(hw:∀b,b<w.heap.size->S b->S' b/\w'.heap[b]? =w.heap[b]?):RelV P w' lo' μ' S' v x:=by
 have h0:=h;cases h with
 | @agg _ vs xs hl h=>simp only[Cy,xt]at hc;exact .agg hl λj u hu=>s5 (hc u (by rw[aA]at hu;exact xz hu)) (h j u hu) hw
 |_=>exact s5 (by simpa only[Cy]using hc) h0 hw
theorem Ab[Tabs](hE:jG P E){f:Nat}{ab:List AV}{r:Ty}{y:r.I}(hy:K4 r (E.call f ab [])=some y){w1:World}{vals:Array Value}(ht:TabsOK w1 (eE w1 λ_=>none))(hl:ab.length=vals.size)
  (hv:∀j v,aQ ab j=some v->RelV P w1 (eE w1 λ_=>none) (λ_=>none) (SS (λ_=>False) λ_=>none) v (vals.getD j undef)):
  CallR P f vals w1 (λv af=>Rep (λb=>w1.heap.size<=b) af r y [v]/\Below w1.heap.size w1 af):=by
 unfold K4 at hy;split at hy
 next cr ai=>
  obtain⟨y0,h1,h2⟩:=eM hy;split at h2
  next v objs he=>
   have ad:=hE f _ _ cr ai y0 h1 w1 (λ_=>False) (λ_=>none) vals (λ_ h=>h.elim)
    ⟨λ_ h=>h.elim,λb hb=>hb.1,λo mv h=>(by cases h),λo p mv mv' b h=>(by cases h),ht⟩ (λp hp=>(by cases hp)) hl hv
   refine ad.mono λx w2 ah=>?_;obtain⟨hk,μ2,hm,ao,_,aa⟩:=ah;have ar:∀b,¬eE w1 (λ_=>none) b->w1.heap.size<=b:=λb hb=>Nat.le_of_not_lt λae=>hb ⟨ae,λ_ _ h=>by cases h⟩;rw[he]at aa hm;refine⟨?_,hk.os,hk.tape,hk.output,hk.size,λk ae=>hk.block k ⟨ae,λ_ _ h=>by cases h⟩⟩;rcases aa with⟨v',aj,ak⟩|⟨al,_⟩
   case inr=>exact absurd rfl al
   cases aj;split at h2
   next t d=>
    split at h2
    next hd=>
     obtain⟨e,rfl⟩:=Ty.cast_spec h2;cases e;cases ak with
     |dat ht hr=>exact hr.plain hd
    next=>cases h2
   next=>cases h2
  next=>cases h2
 next=>cases hy
theorem AI[Tabs](hE:jG P E)(ht:TabsOK w lo){S:Nat->Prop}(hS:∀b,b<w.heap.size->S b->lo b):CloAll P w lo μ S E:=by
 refine⟨λS=>∀b,b<w.heap.size->S b->lo b,hS,λS h b hb hs=>hs.elim (h b hb) id,λS hS=>⟨?_,?_⟩⟩
 ·intro f caps ts r x hs ah hx;cases hx with
  | @fn _ _ _ xs hl hv=>
   refine⟨hs,f,#[],xs,rfl,λw1 ae ab h vals hh y hy=>?_⟩;have aa:=(uV (P:=P) (lo:=eE w1 λ_=>none) (S:=SS (λ_=>False) λ_=>none) (λ_=>⟨λh=>h,λ_ _ h=>by cases h⟩) (μ:=λ_=>none) hh).to;rw[Array.empty_append];refine Ab hE hy ((ht.step ab).le λb hb=>⟨ae b hb,λ_ _ h=>by cases h⟩) (by simp[aa.1,hl]) λj v hj=>?_;rw[aA]at hj;by_cases af:j<(At ts h).length
   ·rw[y7 af,<-aA]at hj;have:=aa.2 j v hj;have ad:j<vals.toArray.size:=by simpa[<-aa.1]using af
    rw[xn,KJ ad,<-xn];simpa using this
   ·rw[C6 (by omega),<-aA]at hj;have h3:=hv _ v hj;have ad:vals.toArray.size<=j:=by simp[<-aa.1];omega
    rw[xn,xda ad,<-xn,show j-vals.toArray.size=j-(At ts h).length by simp[aa.1]];rw[aA]at hj;obtain⟨cs,rfl,aj⟩:=ah v (xz hj);exact Ua aj h3 (λb hb=>⟨ae b hb,λ_ _ h=>by cases h⟩) (λb hb hs=>⟨⟨λh=>h,λ_ _ h=>by cases h⟩,ab b (hs.elim (hS b hb) id)⟩) ab
 ·intro f fs ts r x hs ai hx;cases hx with
  | @bnd _ _ _ xs hl hv=>
   refine⟨hs,f,xs,#[],rfl,λw1 ae ab h vals hh y hy=>?_⟩;have aa:=(uV (P:=P) (lo:=eE w1 λ_=>none) (S:=SS (λ_=>False) λ_=>none) (λ_=>⟨λh=>h,λ_ _ h=>by cases h⟩) (μ:=λ_=>none) hh).to;rw[Array.append_empty];refine Ab hE hy ((ht.step ab).le λb hb=>⟨ae b hb,λ_ _ h=>by cases h⟩) (by simp[aa.1,hl]) λj v hj=>?_;rw[aA]at hj;by_cases af:j<fs.length
   ·rw[y7 af]at hj;have ad:j<xs.size:=by omega
    rw[xn,KJ ad,<-xn];exact Vg (xt.1 ai v (xz hj)) (hv j v (by rw[aA];exact hj)) λb hb hs=>⟨⟨λh=>h,λ_ _ h=>by cases h⟩,ab b (hS b hb hs)⟩
   ·rw[C6 (by omega),<-aA]at hj;have ad:xs.size<=j:=by omega
    rw[xn,xda ad,<-xn,<-hl];have:=aa.2 _ v hj;simpa using this
def dZ[Tabs](P:Program)(p:Nat×FD):Prop:=∀(x:p.2.T) r,p.2.F x=some r->AZ P p.1 (val p.2.A x.1) (eG p.2.ins x.2) (p.2.emb r)
theorem RL.arr{R:AV->Value->Prop}{l:List AV}{vals:Array Value}(h1:l.length=vals.size)(h2:∀j v,aQ l j=some v->R v (vals.getD j undef)):RL R l vals.toList:=
 RL.of (by simpa using h1) λj v hv=>by simpa using h2 j v hv
theorem zT{α β:Type}:∀{l:List (Nat×α)} {m:List (Nat×β)},qZ l m=true->l.map (·.1)=m.map (·.1)
 | [],[],_=>rfl
 | [],_::_,h=>by simp[qZ]at h
 |_::_,[],h=>by simp[qZ]at h
 |(i,_)::r,(j,_)::r',h=>by simp only[qZ,xf]at h;simp[xg h.1,zT h.2]
theorem mP:∀{l:List (Nat×OSh)} {y:OL l},(eG l y).map (·.1)=l.map (·.1)
 | [],_=>rfl
 |(i,o)::r,y=>by simp[eG,mP]
theorem NI{S:Nat->Prop}{os:OSh}{x:Ob}{z:os.I}{mv:MV}(hu:os.un x=some z)(h:ObOK P w lo μ S x mv):ObOK P w lo μ S (os.mk z) mv:=by
 cases os with
 |arr e t=>
  cases x with
  |arr e' t' l=>
   simp only[OSh.un]at hu;split at hu
   next he=>
    have:=xg he;subst this;obtain⟨e2,rfl⟩:=Ty.cast_spec hu;cases e2;exact h
   next=>cases hu
  |spent=>simp[OSh.un]at hu
  |perm=>simp[OSh.un]at hu
  |rows e e2 t l hh=>simp[OSh.un]at hu
  |cells cs=>simp[OSh.un]at hu
 |perm e e2 t=>
  cases x with
  |perm k e' ab t' ix l=>
   simp only[OSh.un]at hu;split at hu
   next he aa=>
    have:=xg he;subst this;have:=xg aa;subst this;split at hu
    next y hy=>
     obtain⟨e3,rfl⟩:=Ty.cast_spec hy;cases e3;cases hu;exact h
    next=>cases hu
   next=>cases hu
  |_=>simp[OSh.un]at hu
 |rows e e2 t=>
  cases x with
  |rows e' ab t' l hh=>
   cases hh with
   |some q=>simp[OSh.un]at hu
   |none=>
    simp only[OSh.un]at hu;split at hu
    next he aa=>
     have:=xg he;subst this;have:=xg aa;subst this;obtain⟨e3,rfl⟩:=Ty.cast_spec hu;cases e3;exact h
    next=>cases hu
  |arr e' t' l=>simp[OSh.un]at hu
  |perm=>simp[OSh.un]at hu
  |spent=>simp[OSh.un]at hu
  |cells cs=>simp[OSh.un]at hu
 |cells c=>
  cases x with
  |arr e' t' l=>simp[OSh.un]at hu
  |perm=>simp[OSh.un]at hu
  |spent=>simp[OSh.un]at hu
  |rows e e2 t l hh=>simp[OSh.un]at hu
  |cells cs=>
   simp only[OSh.un]at hu;split at hu
   next y hy=>
    cases hu;obtain⟨b,vs,e,h1,h2,h3,h4,h5⟩:=h;obtain⟨y1,y2,he,k1,k2⟩:=rY (CloAll.none (P:=P) (w:=w) (lo:=lo) (μ:=μ) (S:=S)) hy (RL.of (ys:=vs.toList) (by simpa using h4.symm) λj v hv=>by simpa using h5 j v hv);cases y2 with
    |cons _ _=>exact k2.elim
    |nil=>rw[yT]at he;subst he;obtain⟨k3,k4⟩:=k1.to;exact⟨b,vs,e,h1,h2,h3,by simpa using k3.symm,λj v hv=>by simpa using k4 j v hv⟩
   next=>cases hu
theorem wV[Tabs]:∀{l:List (Nat×FD)},(∀p∈l,dZ P p)->jG P (oN l)
 | [],_=>λf args ins cr h=>by simp[oN,E0]at h
 |(f,d)::l,hl=>by
  have ih:=wV (l:=l) λp hp=>hl p (xr _ hp);intro f' args ins cr h r hr;simp only[oN]at h;split at h
  next e=>
   have:=xg e;subst this;unfold FD.cr at h;split at h
   next x hx=>
    split at h
    next ab=>
     split at h
     next y hy=>
      cases h;intro w X μi vals hX hm ad ae hv;have aa:=zT ab;obtain⟨y1,y2,he,k1,k2⟩:=rY (AI ih (ht:=hm.tab) (w:=w) (lo:=eE w μi) (μ:=μi) (S:=SS X μi) λb hb hs=>⟨hb,hs.2⟩) hx (RL.arr ae hv);cases y2 with
      |cons _ _=>exact k2.elim
      |nil=>
       rw[yT]at he;subst he;obtain⟨k3,k4⟩:=k1.to;refine hl (f,d) xu (x,y) r hr w X μi vals hX ⟨hm.hX,hm.hlo,λo mv ho=>?_,hm.dis,hm.tab⟩ (λp hp=>?_) (by simpa using k3) λj v hj=>by simpa using k4 j v hj
       ·obtain⟨z,hz,af⟩:=hm.ob o mv ho;have ah:o∈d.ins.map (·.1):=by rw[<-aa];exact xaf.2 ⟨_,dX hz,rfl⟩
        obtain⟨os,x',z',j1,j2,j3,j4⟩:=pB hy o ah;rw[hz]at j2;cases j2;exact⟨os.mk z',j1,NI j3 af⟩
       ·have ai:p.1∈ins.map (·.1):=by rw[aa,<-mP (y:=y)];exact xaf.2 ⟨p,hp,rfl⟩
        obtain⟨q,hq,e⟩:=xaf.1 ai;rw[<-e];exact ad q hq
     next=>cases h
    next=>cases h
   next=>cases h
  next=>exact ih f' args ins cr h r hr
theorem RP[Tabs](hT:aW P tt){X:Nat->Prop}{N:Par}{w0:World}{s:St}{a:Act}{μ:Nat->Option MV}(h:Rel P X lo N w0 s a w μ)(F:ResultVar->Sem Value)(hF:∀t,F (.tmp t)=pure (a.tmps.getD t undef))
  (aa:∀r ty,F (.cell r ty)=(do loadVar ty (<-asAddr (a.tmps.getD r undef)))):∀{l:List ResultVar} {vs:List AV},zZ tt s l=some vs->
  ∃ys,(List.mapM F l).run P w=.ok ys w/\RL (RelV P w lo μ (SS X μ)) vs ys
 | [],vs,hv=>by simp only[zZ,xe]at hv;subst hv;exact⟨[],by simp,trivial⟩
 |r::l,vs,hv=>by
  simp only[zZ]at hv;split at hv
  next v ab h1 h2=>
   cases hv;obtain⟨ys,k1,k2⟩:=RP hT h F hF aa h2;have:∃y,(F r).run P w=.ok y w/\RelV P w lo μ (SS X μ) v y:=by
    cases r with
    |tmp t=>simp only[IX,xe]at h1;subst h1;exact⟨_,by rw[hF];simp,h.fr t⟩
    |cell r ty=>
     simp only[IX]at h1;split at h1
     next o k sz hs hz=>
      split at h1
      next cs hg=>
       have hv:=h.fr r;rw[hs]at hv;generalize hy:a.tmps.getD r undef=y at hv;cases hv with
       | @box _ _ b _ _ _ hb=>have hc:=h.mem.cells (k:=k) hb hg;obtain⟨x,h3,h4⟩:=rD hT hz hc (k:=0) (y8 (by simpa using h1));refine⟨x,?_,h4⟩;rw[aa,hy];simpa[asAddr]using h3
      next=>cases h1
     next=>cases h1
   obtain⟨y,k3,k4⟩:=this;exact⟨y::ys,by rw[xfx];simp[Sem.run_bind,k3,k1],k4,k2⟩
  next=>cases hv
def wI:List Value->Value
 | [x]=>x
 |xs=>.tuple xs.toArray
theorem Ep{fn:Func}{l:List ResultVar}(hl:fn.results=l.toArray){a:Act}{ys:List Value}(h:∀F:ResultVar->Sem Value,(∀t,F (.tmp t)=pure (a.tmps.getD t undef))->(∀r ty,F (.cell r ty)=(do loadVar ty (<-asAddr (a.tmps.getD r undef))))->(List.mapM F l).run P w=.ok ys w):
  (results fn a.tmps).run P w=.ok (wI ys) w:=by
 unfold results;rw[hl,List.mapM_toArray];simp only[bind_pure_comp,Functor.map_map,Sem.run_map];rw[h _ (λt=>rfl) λr ty=>rfl];cases ys with
 |nil=>simp[wI]
 |cons i l=>
  cases l with
  |nil=>simp[wI]
  |cons j l=>simp[wI]
end
end
section
open Go.RowKit (Below)
section
variable {P:Program}{E:Env}{tt:Nat->TD}
theorem cP{f:FuncId}{fn:Func}{c:Code}(hf:P.funcs[f]? =some fn)(aa:(fn.name== "runtime.NumGoroutine")=false)(hb:fn.body=some c)(args:Array Value)(w:World):
  (callFunc f args).run P w=.ok (.enter f args) w:=by
 have h1:fn.name≠ "runtime.NumGoroutine" :=by simpa using aa
 simp[callFunc,hf,h1,hb]
def uB(l:List (Nat×Nat×Nat)):List Nat:=l.map (·.1)
def pF(x:Value):Array Value:=match x with
 | .func _ _ xs=>xs
 |x=>x.cells
def aQR(c:Nat)(x:Value):Value:=match c with
 |0=>x
 |j+1=>(pF x).getD j undef
theorem As{l:List (Nat×Nat×Nat)}{q:Nat×Nat×Nat}(h:q∈l):q.1∈uB l:=xaf.2 ⟨q,h,rfl⟩
theorem Od{w:World}{lo:Nat->Prop}{μ:Nat->Option MV}{S:Nat->Prop}{v:AV}{c o:Nat}(hp:uI v c o=true){x:Value}(h:RelV P w lo μ S v x):∃rs hs,μ o=some ⟨aQR c x,rs,hs⟩:=by
 unfold uI at hp;split at hp
 ·split at hp
  ·have:=xg hp;subst this;cases h with|box h=>exact⟨_,_,h⟩
  ·have:=xg hp;subst this;cases h with|arr h=>exact⟨_,_,h⟩
  ·cases hp
 next j=>
  split at hp
  next cs=>
   split at hp
   next p hj=>
    have:=xg hp;subst this;cases h with
    |agg hl hv=>
     have:=hv j _ hj;show∃rs hs,μ p=some ⟨Array.getD (pF _) j undef,rs,hs⟩;simp only[pF,Value.cells];generalize Array.getD _ j undef=z at this;cases this with
     |arr h=>exact⟨_,_,h⟩
   next=>cases hp
  next f cs=>
   split at hp
   next p hj=>
    have:=xg hp;subst this;cases h with
    |fn hl hv=>
     have:=hv j _ hj;show∃rs hs,μ p=some ⟨Array.getD (pF _) j undef,rs,hs⟩;simp only[pF];generalize Array.getD _ j undef=z at this;cases this with
     |box h=>exact⟨_,_,h⟩
   next=>cases hp
  next=>cases hp
structure FnOK(P:Program)(E:Env)(tt:Nat->TD)(f:Nat)(d:FD)(rt:RetK)(fz:Nat->Nat->List Nat)(l:List (Nat×LD))(fn:Func)(c:Code)(T:d.T->Tr d.R)(rho:d.R->rt.T):Prop where
 at_:P.funcs[f]? =some fn
 name:(fn.name== "runtime.NumGoroutine")=false
 body:fn.body=some c
 res:fn.results=rt.res.toArray
 ok:rt.ok=true
 arity:∀x:d.T,(val d.A x.1).length<=fn.ntmps
 pin:∀x:d.T,(rt.pins.all λq=>uI ((lY d.A d.ins x).slot q.1) q.2.1 q.2.2)=true
 chk:bT fz (uB rt.pins) fn.ntmps c=true
 loops:eO E tt fz l c
 run:∀x:d.T,((cR E tt fz (fK l) c (lY d.A d.ins x)).map (zA tt rt)).ev=((T x).map λr=>some (rho r)).ev
 F:∀x,d.F x=(T x).ev
 emb:∀r,d.emb r=(val rt.sh (rho r).1,eG rt.obs (rho r).2++rt.gone.map λo=>(o,Ob.spent))
 gone:(rt.gone.all λo=>(Nat.ble 64 o&&(d.ins.map (·.1)).any (Nat.beq o))&& !(rt.obs.map (·.1)).any (Nat.beq o))=true:=by rfl
def oA(μi μ:Nat->Option MV)(g:List Nat)(o:Nat):Option MV:=if g.any (Nat.beq o)=true then(μi o).map λmv=>⟨mv.v,[],[]⟩else μ o
theorem Uy{μi μ:Nat->Option MV}{g:List Nat}{o:Nat}(h:¬g.any (Nat.beq o)=true):oA μi μ g o=μ o:=by unfold oA;rw[qh h]
theorem mU{μi μ:Nat->Option MV}{g:List Nat}{o:Nat}{mv:MV}(h:oA μi μ g o=some mv):(g.any (Nat.beq o)=true/\∃mv0,μi o=some mv0/\mv=⟨mv0.v,[],[]⟩)\/(¬g.any (Nat.beq o)=true/\μ o=some mv):=by
 unfold oA at h;split at h
 next e=>
  obtain⟨mv0,h1,h2⟩:=xau.1 h;exact .inl ⟨e,mv0,h1,h2.symm⟩
 next e=>exact .inr ⟨e,h⟩
theorem any_mem{g:List Nat}{o:Nat}:g.any (Nat.beq o)=true↔o∈g:=by rw[xbg];exact⟨λ⟨x,hx,e⟩=>by rw[xg e];exact hx,λh=>⟨o,h,xff o⟩⟩
theorem Vx{g:List Nat}{o:Nat}(h:o∈g):aM (g.map λo=>(o,Ob.spent)) o=some .spent:=by
 induction g with
 |nil=>cases h
 |cons x g ih=>
  simp only[M8,aM];by_cases e:x=o;·subst e;rw[xff]
  ·rw[aZ e];exact ih ((xae.1 h).resolve_left λe'=>e e'.symm)
theorem S8[Tabs](hT:aW P tt){d:FD}{rt:RetK}{fn:Func}{x:d.T}{w:World}{X:Nat->Prop}{μi:Nat->Option MV}{vals:Array Value}(al:∀p∈eG d.ins x.2,∃mv,μi p.1=some mv)
  (ao:fn.results=rt.res.toArray) (hk:rt.ok=true) {pk:List Nat} (bb:pk=uB rt.pins) (ar:(rt.pins.all λq=>uI ((lY d.A d.ins x).slot q.1) q.2.1 q.2.2)=true)
  (au:(rt.gone.all λo=>(Nat.ble 64 o&&(d.ins.map (·.1)).any (Nat.beq o))&& !(rt.obs.map (·.1)).any (Nat.beq o))=true)
  (ah:Rel P X (eE w μi) ⟨fn.ntmps,pk,λi=>vals.getD i undef⟩ w (lY d.A d.ins x) {tmps:=vals++Array.replicate (fn.ntmps-vals.size) undef,defers:=[]} w μi)
  {res:List AV×List (Nat×Ob)} {t:rt.T} (ad:res=(val rt.sh t.1,eG rt.obs t.2++rt.gone.map λo=>(o,Ob.spent)))
  {s:St} {a:Act} {w':World} {μ:Nat->Option MV} (hr:Rel P X (eE w μi) ⟨fn.ntmps,pk,λi=>vals.getD i undef⟩ w s a w' μ) (ht:rt.at tt s=some t):
  a.defers=[]/\∃v,(results fn a.tmps).run P w'=.ok v w'/\∃x,Ending.returned v=.returned x/\lX P X (eE w μi) w w' μi res x:=by
 subst bb;obtain⟨μ1,h1⟩:=Rel.acts rt.acts hr;unfold RetK.at at ht;split at ht
 case h_2=>cases ht
 rename_i ak
 split at ht
 next vs bc=>
  split at ht
  next x' hx=>
   split at ht
   next y hy=>
    simp only[xe]at ht;subst ht;have af:=hk;simp only[RetK.ok,xf,xt]at af;obtain⟨ys,av⟩:∃ys,RL (RelV P w' (eE w μi) μ1 (SS X μ1)) vs ys/\(results fn a.tmps).run P w'=.ok (wI ys) w':=by
     have:∀F:ResultVar->Sem Value,(∀t,F (.tmp t)=pure (a.tmps.getD t undef))->(∀r ty,F (.cell r ty)=(do loadVar ty (<-asAddr (a.tmps.getD r undef))))->∃ys,(List.mapM F rt.res).run P w'=.ok ys w'/\RL (RelV P w' (eE w μi) μ1 (SS X μ1)) vs ys:=λF k1 k2=>RP hT h1 F k1 k2 bc;obtain⟨ys,k1,k2⟩:=this (fun| .tmp t=>pure (a.tmps.getD t undef)| .cell r ty=>do loadVar ty (<-asAddr (a.tmps.getD r undef))) (λ_=>rfl) λ_ _=>rfl;refine⟨ys,k2,Ep ao λF k3 k4=>?_⟩;have:F=(fun| .tmp t=>pure (a.tmps.getD t undef)| .cell r ty=>do loadVar ty (<-asAddr (a.tmps.getD r undef))):=by
      funext r;cases r with
      |tmp t=>exact k3 t
      |cell r ty=>exact k4 r ty
     rw[this];exact k1
    have ab:∀o∈rt.gone,(64<=o/\∃p∈d.ins,p.1=o)/\o∉rt.obs.map (·.1):=λo ho=>by have:=xt.1 au o ho;simp only[xf,D9]at this;obtain⟨⟨g1,g2⟩,g3⟩:=this;obtain⟨p,hp,e⟩:=xaf.1 (any_mem.1 g2);exact⟨⟨xdi g1,p,hp,e⟩,λhm=>by rw[any_mem.2 hm]at g3;cases g3⟩
    have aw:∀o∈rt.obs.map (·.1),¬rt.gone.any (Nat.beq o)=true:=λo ho hg=>(ab o (any_mem.1 hg)).2 ho;have hμ:∀o∈rt.obs.map (·.1),∀mv,μ1 o=some mv->oA μi (only μ1 (rt.obs.map (·.1))) rt.gone o=some mv:=λo ho mv h=>by rw[Uy (aw o ho)];exact Mb ho h
    have ay:∀b,SS X μ1 b->SS X (oA μi (only μ1 (rt.obs.map (·.1))) rt.gone) b:=λb hs=>⟨hs.1,λo mv ho hb=>by
     rcases mU ho with⟨_,mv0,_,rfl⟩|⟨_,ho⟩
     ·cases hb
     ·exact(U4 (ids:=rt.obs.map (·.1)) hs).2 o mv ho hb⟩
    refine⟨h1.df,_,av.2,_,rfl,h1.bel,oA μi (only μ1 (rt.obs.map (·.1))) rt.gone,?_,λo mv ho=>?_,λp hp hge=>?_,?_⟩
    ·rw[ad];refine⟨h1.mem.hX,h1.mem.hlo,λo mv ho=>?_,λo p mv mv' b h2 h3 az ba=>?_,h1.mem.tab⟩
     ·rcases mU ho with⟨hg,mv0,au,rfl⟩|⟨_,ho⟩
      ·refine⟨.spent,?_,rfl,λb hb=>by cases hb⟩;rw[lZ];have hn:=(ab o (any_mem.1 hg)).2;cases hl:aM (eG rt.obs y) o with|some z=>exact absurd (by rw[<-mP (y:=y)];exact xaf.2 ⟨_,dX hl,rfl⟩) hn|none=>exact Vx (any_mem.1 hg)
      ·obtain⟨h2,h3⟩:=iU ho;obtain⟨os,x',z,k1,k2,k3,k4⟩:=pB hy o h2;obtain⟨bj,k5,k6⟩:=h1.mem.ob o mv h3;rw[k5]at k2;cases k2;exact⟨os.mk z,by rw[lZ,k1],Oh hμ ay (af.1.2 _ k4) k3 k6⟩
     ·rcases mU h2 with⟨_,mv0,_,rfl⟩|⟨_,h2⟩
      ·cases az
      ·rcases mU h3 with⟨_,mv0,_,rfl⟩|⟨_,h3⟩
       ·cases ba
       ·exact h1.mem.dis o p mv mv' b (iU h2).2 (iU h3).2 az ba
    ·rw[ad];rcases mU ho with⟨hg,_⟩|⟨_,ho⟩
     ·exact⟨(o,.spent),Bt _ (xaf.2 ⟨o,any_mem.1 hg,rfl⟩),rfl⟩
     ·obtain⟨h2,_⟩:=iU ho;obtain⟨os,x',z,k1,_⟩:=pB hy o h2;exact⟨_,D1 _ (dX k1),rfl⟩
    ·rw[ad]at hp;rcases xp.1 hp with hp|hp
     case inr=>
      obtain⟨o,ho,rfl⟩:=xaf.1 hp;obtain⟨⟨_,q,hq,e⟩,_⟩:=ab o ho;have bd:o∈(eG d.ins x.2).map (·.1):=by rw[mP,<-e];exact xaf.2 ⟨q,hq,rfl⟩
      obtain⟨p',be,e'⟩:=xaf.1 bd;obtain⟨mv,hmv⟩:=al p' be;rw[e']at hmv;refine⟨mv,[],[],hmv,?_⟩;show oA μi (only μ1 (rt.obs.map (·.1))) rt.gone o=_;unfold oA;rw[qi (any_mem.2 ho),hmv];rfl
     have ai:p.1∈rt.obs.map (·.1):=by rw[<-mP (y:=y)];exact xaf.2 ⟨p,hp,rfl⟩
     obtain⟨po,bf,e⟩:=xaf.1 ai;have ae:=af.2 po bf;rw[e]at ae;simp only[Z7,xbg]at ae;rcases ae with ae|⟨q,hq,bg⟩
     ·have:=xdi ae;omega
     ·have aj:=xg bg;obtain⟨JF,bh,g1⟩:=Od (xt.1 ak q hq) (h1.fr q.1);obtain⟨JM,bk,g0⟩:=Od (xt.1 ar q hq) (ah.fr q.1);have e1:=h1.sz.v q.1 (As hq);have e0:=ah.sz.v q.1 (As hq);rw[e1,aj]at g1;rw[e0,aj]at g0;exact⟨_,JF,bh,g0,hμ _ ai _ g1⟩
    ·rw[ad];obtain⟨y1,y2,he,k1,k2⟩:=rY (CloAll.none (P:=P) (w:=w') (lo:=eE w μi) (μ:=μ1) (S:=SS X μ1)) hx av.1;cases y2 with
     |cons _ _=>exact k2.elim
     |nil=>
      rw[yT]at he;subst he;have aa:=iW (S':=SS X (oA μi (only μ1 (rt.obs.map (·.1))) rt.gone)) hμ af.1.1 ay k1;show aGH P w' (eE w μi) (oA μi (only μ1 (rt.obs.map (·.1))) rt.gone) (SS X (oA μi (only μ1 (rt.obs.map (·.1))) rt.gone)) (val rt.sh x') (wI ys);have hlen:=aa.to.1
      match ys,aa,hlen with
      | [],aa,hlen=>refine .inr ⟨by rw[hlen];simp,.tup (by rw[hlen];simp) λj v hj=>?_⟩;rw[C9 hlen]at hj;simp[aQ]at hj
      | [y],aa,hlen=>
       generalize val rt.sh x'=vs at aa hlen
       match vs,aa,hlen with
       | [v],aa,_=>exact .inl ⟨v,rfl,aa.1⟩
      |y::z::ys,aa,hlen=>obtain⟨k1,k2⟩:=aa.to;exact .inr ⟨by rw[hlen];simp,.tup (by rw[hlen];simp) λj v hj=>by simpa using k2 j v hj⟩
   next=>cases ht
  next=>cases ht
 next=>cases ht
theorem GY[Tabs](hm:P.follows .mixedOrders=true)(hE:jG P E)(hT:aW P tt){f:Nat}{d:FD}{rt:RetK}{fz:Nat->Nat->List Nat}{l:List (Nat×LD)}{fn:Func}{c:Code}{T:d.T->Tr d.R}{rho:d.R->rt.T}
  (h:FnOK P E tt f d rt fz l fn c T rho):dZ P (f,d):=by
 intro x r hr w X μi vals hX ah ai aj hv;refine .inl ⟨cP h.at_ h.name h.body vals w,calls_of_wp h.at_ h.body ?_⟩;rw[h.F]at hr;have ab:=h.run x;rw[Tr.ev_map,Tr.ev_map,hr]at ab;obtain⟨o,h1,h2⟩:=xau.1 ab;have al:=h.arity x;have ak:(val d.A x.1).length=vals.size:=aj;have hN:(vals++Array.replicate (fn.ntmps-vals.size) undef).size=fn.ntmps:=by simp only[xgi,Array.size_replicate];omega
 have ad:Rel P X (eE w μi) ⟨fn.ntmps,uB rt.pins,λi=>vals.getD i undef⟩ w (lY d.A d.ins x) {tmps:=vals++Array.replicate (fn.ntmps-vals.size) undef,defers:=[]} w μi:=by
  refine⟨ah,λi=>?_,Kept.refl _ _,rfl,hN,λi _=>?_⟩
  ·refine RL.zip (λ_=>.undef) (g:=λi=>(vals++Array.replicate (fn.ntmps-vals.size) undef).getD i undef) i (RL.of (by simp) λj v hj=>?_);have af:j<(val d.A x.1).length:=by rw[aA]at hj;exact(xq.1 hj).1
   have:=hv j v hj;rw[xd,oE,BU af];simp only[oG,xT];rw[xn,KJ (by omega),<-xn];exact this
  ·by_cases af:i<vals.size;·simp only;rw[xn,KJ af,<-xn]
   ·simp only;rw[xn,xda (by omega),xeu,xn,xcr (by omega)];split<;>rfl
 have aa:=dV (X:=X) (lo:=eE w μi) (w0:=w) (N:=⟨fn.ntmps,uB rt.pins,λi=>vals.getD i undef⟩) hm hE hT c h.loops h.chk;have ae:∀{s:St} {a:Act} {w':World} {μ:Nat->Option MV},Rel P X (eE w μi) ⟨fn.ntmps,uB rt.pins,λi=>vals.getD i undef⟩ w s a w' μ->rt.at tt s=some (rho r)->a.defers=[]/\∃v,(results fn a.tmps).run P w'=.ok v w'/\∃x,Ending.returned v=.returned x/\lX P X (eE w μi) w w' μi (d.emb r) x:=λhr ht=>S8 hT ai h.res h.ok rfl (h.pin x) h.gone ad (h.emb r) hr ht;refine Code.wp_mono (λe a w' hp=>?_) (iJ hm hE hT c aa h.chk _ _ w _ o ad h1);cases e with
 |normal=>obtain⟨s,μ,rfl,hr⟩:=hp;exact ae hr h2
 |ret=>obtain⟨s,μ,rfl,hr⟩:=hp;exact ae hr h2
 |exit i=>obtain⟨s,μ,rfl,_⟩:=hp;cases h2
 |_=>exact hp.elim
structure FnOK2(P:Program)(E:Env)(tt:Nat->TD)(f:Nat)(d:FD)(rt rt2:RetK)(fz:Nat->Nat->List Nat)(l:List (Nat×LD))(fn:Func)(c:Code)(T:d.T->Tr d.R)(rho:d.R->rt.T⊕rt2.T):Prop where
 at_:P.funcs[f]? =some fn
 name:(fn.name== "runtime.NumGoroutine")=false
 body:fn.body=some c
 res:fn.results=rt.res.toArray
 ok:rt.ok=true
 arity:∀x:d.T,(val d.A x.1).length<=fn.ntmps
 pin:∀x:d.T,(rt.pins.all λq=>uI ((lY d.A d.ins x).slot q.1) q.2.1 q.2.2)=true
 chk:bT fz (uB rt.pins) fn.ntmps c=true
 loops:eO E tt fz l c
 run:∀x:d.T,((cR E tt fz (fK l) c (lY d.A d.ins x)).map (Ba tt rt rt2)).ev=((T x).map λr=>some (rho r)).ev
 F:∀x,d.F x=(T x).ev
 emb:∀r,d.emb r=match rho r with
  | .inl t=>(val rt.sh t.1,eG rt.obs t.2++rt.gone.map λo=>(o,Ob.spent))
  | .inr t=>(val rt2.sh t.1,eG rt2.obs t.2++rt2.gone.map λo=>(o,Ob.spent))
 ok2:rt2.ok=true
 res2:rt2.res=rt.res
 pins2:rt2.pins=rt.pins
 gone2:(rt2.gone.all λo=>(Nat.ble 64 o&&(d.ins.map (·.1)).any (Nat.beq o))&& !(rt2.obs.map (·.1)).any (Nat.beq o))=true
 gone:(rt.gone.all λo=>(Nat.ble 64 o&&(d.ins.map (·.1)).any (Nat.beq o))&& !(rt.obs.map (·.1)).any (Nat.beq o))=true:=by rfl
theorem Yg[Tabs](hm:P.follows .mixedOrders=true)(hE:jG P E)(hT:aW P tt){f:Nat}{d:FD}{rt rt2:RetK}{fz:Nat->Nat->List Nat}{l:List (Nat×LD)}{fn:Func}{c:Code}{T:d.T->Tr d.R}{rho:d.R->rt.T⊕rt2.T}
  (h:FnOK2 P E tt f d rt rt2 fz l fn c T rho):dZ P (f,d):=by
 intro x r hr w X μi vals hX ai ad aj hv;refine .inl ⟨cP h.at_ h.name h.body vals w,calls_of_wp h.at_ h.body ?_⟩;rw[h.F]at hr;have ae:=h.run x;rw[Tr.ev_map,Tr.ev_map,hr]at ae;obtain⟨o,h1,h2⟩:=xau.1 ae;have al:=h.arity x;have ak:(val d.A x.1).length=vals.size:=aj;have hN:(vals++Array.replicate (fn.ntmps-vals.size) undef).size=fn.ntmps:=by simp only[xgi,Array.size_replicate];omega
 have aa:Rel P X (eE w μi) ⟨fn.ntmps,uB rt.pins,λi=>vals.getD i undef⟩ w (lY d.A d.ins x) {tmps:=vals++Array.replicate (fn.ntmps-vals.size) undef,defers:=[]} w μi:=by
  refine⟨ai,λi=>?_,Kept.refl _ _,rfl,hN,λi _=>?_⟩
  ·refine RL.zip (λ_=>.undef) (g:=λi=>(vals++Array.replicate (fn.ntmps-vals.size) undef).getD i undef) i (RL.of (by simp) λj v hj=>?_);have ah:j<(val d.A x.1).length:=by rw[aA]at hj;exact(xq.1 hj).1
   have:=hv j v hj;rw[xd,oE,BU ah];simp only[oG,xT];rw[xn,KJ (by omega),<-xn];exact this
  ·by_cases ah:i<vals.size;·simp only;rw[xn,KJ ah,<-xn]
   ·simp only;rw[xn,xda (by omega),xeu,xn,xcr (by omega)];split<;>rfl
 have ab:=dV (X:=X) (lo:=eE w μi) (w0:=w) (N:=⟨fn.ntmps,uB rt.pins,λi=>vals.getD i undef⟩) hm hE hT c h.loops h.chk;have af:∀{s:St} {a:Act} {w':World} {μ:Nat->Option MV},Rel P X (eE w μi) ⟨fn.ntmps,uB rt.pins,λi=>vals.getD i undef⟩ w s a w' μ->atB tt rt rt2 s=some (rho r)->a.defers=[]/\∃v,(results fn a.tmps).run P w'=.ok v w'/\∃x,Ending.returned v=.returned x/\lX P X (eE w μi) w w' μi (d.emb r) x:=by
  intro s a w' μ hr ht;have he:=h.emb r;unfold atB at ht;split at ht
  next y hy=>
   rw[<-zB ht]at he;exact S8 hT ad h.res h.ok rfl (h.pin x) h.gone aa he hr hy
  next=>
   split at ht
   next y hy=>
    rw[<-zB ht]at he;exact S8 hT ad (h.res.trans (by rw[h.res2])) h.ok2 (by rw[h.pins2]) (by rw[h.pins2];exact h.pin x) h.gone2 aa he hr hy
   next=>cases ht
 refine Code.wp_mono (λe a w' hp=>?_) (iJ hm hE hT c ab h.chk _ _ w _ o aa h1);cases e with
 |normal=>obtain⟨s,μ,rfl,hr⟩:=hp;exact af hr h2
 |ret=>obtain⟨s,μ,rfl,hr⟩:=hp;exact af hr h2
 |exit i=>obtain⟨s,μ,rfl,_⟩:=hp;cases h2
 |_=>exact hp.elim
end
section
variable {P:Program}{tt:Nat->TD}
def bU:Nat->Nat->List Nat:=λ_ _=>[]
theorem aLH(d:FD)(E:Env)(rt:RetK)(fz:Nat->Nat->List Nat)(l:List (Nat×LD))(c:Code){f:Nat}{fn:Func}(T:d.T->Tr d.R)(rho:d.R->rt.T)(at_:P.funcs[f]? =some fn)(loops:eO E tt fz l c)
  (run:∀x:d.T,((cR E tt fz (fK l) c (lY d.A d.ins x)).map (zA tt rt)).ev=((T x).map λr=>some (rho r)).ev) (F:∀x,d.F x=(T x).ev:=by exact λ_=>rfl) (emb:∀r,d.emb r=(val rt.sh (rho r).1,eG rt.obs (rho r).2++rt.gone.map λo=>(o,Ob.spent)):=by exact λ_=>rfl)
  (name:(fn.name== "runtime.NumGoroutine")=false:=by kernel_rfl) (body:fn.body=some c:=by kernel_rfl) (res:fn.results=rt.res.toArray:=by kernel_rfl) (ok:rt.ok=true:=by kernel_rfl)
  (arity:∀x:d.T,(val d.A x.1).length<=fn.ntmps:=by exact λ_=>xdi (by kernel_rfl)) (pin:∀x:d.T,(rt.pins.all λq=>uI ((lY d.A d.ins x).slot q.1) q.2.1 q.2.2)=true:=by exact λ_=>by kernel_rfl)
  (chk:bT fz (uB rt.pins) fn.ntmps c=true:=by kernel_rfl) (gone:(rt.gone.all λo=>(Nat.ble 64 o&&(d.ins.map (·.1)).any (Nat.beq o))&& !(rt.obs.map (·.1)).any (Nat.beq o))=true:=by rfl):FnOK P E tt f d rt fz l fn c T rho:=
 ⟨at_,name,body,res,ok,arity,pin,chk,loops,run,F,emb,gone⟩
theorem WU(d:FD)(E:Env)(rt rt2:RetK)(fz:Nat->Nat->List Nat)(l:List (Nat×LD))(c:Code){f:Nat}{fn:Func}(T:d.T->Tr d.R)(rho:d.R->rt.T⊕rt2.T)(at_:P.funcs[f]? =some fn)(loops:eO E tt fz l c)
  (run:∀x:d.T,((cR E tt fz (fK l) c (lY d.A d.ins x)).map (Ba tt rt rt2)).ev=((T x).map λr=>some (rho r)).ev)
  (emb:∀r,d.emb r=match rho r with
   | .inl t=>(val rt.sh t.1,eG rt.obs t.2++rt.gone.map λo=>(o,Ob.spent))
   | .inr t=>(val rt2.sh t.1,eG rt2.obs t.2++rt2.gone.map λo=>(o,Ob.spent)))
  (F:∀x,d.F x=(T x).ev:=by exact λ_=>rfl)
  (name:(fn.name== "runtime.NumGoroutine")=false:=by kernel_rfl) (body:fn.body=some c:=by kernel_rfl) (res:fn.results=rt.res.toArray:=by kernel_rfl) (ok:rt.ok=true:=by kernel_rfl)
  (arity:∀x:d.T,(val d.A x.1).length<=fn.ntmps:=by exact λ_=>xdi (by kernel_rfl)) (pin:∀x:d.T,(rt.pins.all λq=>uI ((lY d.A d.ins x).slot q.1) q.2.1 q.2.2)=true:=by exact λ_=>by kernel_rfl)
  (chk:bT fz (uB rt.pins) fn.ntmps c=true:=by kernel_rfl) (gone:(rt.gone.all λo=>(Nat.ble 64 o&&(d.ins.map (·.1)).any (Nat.beq o))&& !(rt.obs.map (·.1)).any (Nat.beq o))=true:=by rfl)
  (ok2:rt2.ok=true:=by kernel_rfl) (res2:rt2.res=rt.res:=by rfl) (pins2:rt2.pins=rt.pins:=by rfl)
  (gone2:(rt2.gone.all λo=>(Nat.ble 64 o&&(d.ins.map (·.1)).any (Nat.beq o))&& !(rt2.obs.map (·.1)).any (Nat.beq o))=true:=by rfl):FnOK2 P E tt f d rt rt2 fz l fn c T rho:=
 ⟨at_,name,body,res,ok,arity,pin,chk,loops,run,F,emb,ok2,res2,pins2,gone2,gone⟩
theorem Ug{E:Env}{fz:Nat->Nat->List Nat}{orc:Orc}{b:Code}{d:LD}(eta:∀t,d.join (d.sk t) (d.sv t)=t)(step:∀k v,((cR E tt fz orc b (l8 d.head.S (d.join k v))).map (rB (some d.head) d.exits d.rets)).ev=((d.step k v).bind (d.next k)).ev)
  (ok:d.head.S.ok=true:=by kernel_rfl) (oke:d.exits.all (λp=>p.2.S.ok)=true:=by kernel_rfl) (okr:d.rets.S.ok=true:=by kernel_rfl):d.OK E tt fz orc b:=⟨ok,oke,okr,eta,step⟩
def pV(c:Code)(n:Nat):Code:=((bV c).find? λp=>Nat.beq p.1 n).elim .skip (·.2)
def A5(E:Env)(tt:Nat->TD)(fz:Nat->Nat->List Nat)(l:List (Nat×LD))(c:Code)(L:List (Nat×LD)):Prop:=∀q∈L,q.2.OK E tt fz (fK l) (pV c q.1)
theorem Cq{α:Type}:∀{l:List (Nat×α)} {p:Nat×α},(l.map (·.1)).Nodup->p∈l->(l.find? λq=>Nat.beq q.1 p.1)=some p
 |q::l,p,hn,hp=>by
  rw[M8,xfr]at hn;rw[xgz];rcases xae.1 hp with rfl|hp;·rw[xff]
  ·have aa:q.1≠p.1:=λe=>hn.1 (xaf.2 ⟨p,hp,e.symm⟩);rw[aZ aa];exact Cq hn.2 hp
theorem Wt{E:Env}{fz:Nat->Nat->List Nat}{l:List (Nat×LD)}{c:Code}(h:decide ((bV c).map (·.1)).Nodup=true)(H:A5 E tt fz l c l):eO E tt fz l c:=λp hp q hq e=>by have h1:=H q hq;rw[e]at h1;unfold pV at h1;rw[Cq (of_decide_eq_true h) hp]at h1;exact h1
theorem lpN{E:Env}{fz:Nat->Nat->List Nat}{l:List (Nat×LD)}{c:Code}:A5 E tt fz l c []:=λ_ h=>absurd h Ze
theorem lpC{E:Env}{fz:Nat->Nat->List Nat}{l:List (Nat×LD)}{c:Code}{n:Nat}{L:List (Nat×LD)}{D:LD}(h:D.OK E tt fz (fK l) (pV c n))(H:A5 E tt fz l c L):A5 E tt fz l c ((n,D)::L):=xfp.2 ⟨h,H⟩
theorem fdN[Tabs]:∀p∈([]:List (Nat×FD)),dZ P p:=λ_ h=>absurd h Ze
theorem Wj[Tabs]{a:Nat×FD}{l:List (Nat×FD)}(h:dZ P a)(H:∀p∈l,dZ P p):∀p∈a::l,dZ P p:=xfp.2 ⟨h,H⟩
end
theorem aE[Tabs]{V R:Type}(f:V->Option (V⊕R))(v:V):aB f v=match f v with
  |some (.inl v')=>aB f v'
  |some (.inr r)=>some r
  |none=>none:=by
 cases hf:f v with
 |none=>
  cases h:aB f v with
  |none=>rfl
  |some r=>
   obtain⟨n,hn⟩:=iter_some.1 h;cases n with
   |zero=>cases hn
   |succ n=>simp[gU,hf]at hn
 |some x=>
  cases x with
  |inr r=>exact iter_some.2 ⟨1,by simp[gU,hf]⟩
  |inl v'=>
   simp only;cases h:aB f v' with
   |some r=>obtain⟨n,hn⟩:=iter_some.1 h;exact iter_some.2 ⟨n+1,by simp[gU,hf,hn]⟩
   |none=>
    cases h':aB f v with
    |none=>rfl
    |some r=>
     obtain⟨n,hn⟩:=iter_some.1 h';cases n with
     |zero=>cases hn
     |succ n=>simp only[gU,hf]at hn;rw[iter_some.2 ⟨n,hn⟩]at h;cases h
theorem K9[Tabs]{V R:Type}{f:V->Option (V⊕R)}(I:V->Prop)(m:V->Nat)(Q:R->Prop)(h:∀v,I v->match f v with
  |some (.inl v')=>I v'/\m v'<m v
  |some (.inr r)=>Q r
  |none=>False) {v:V} (hv:I v):∃r,aB f v=some r/\Q r:=by
 have key:∀n v,m v=n->I v->∃r,aB f v=some r/\Q r:=by
  intro n;induction n using Nat.strongRecOn with
  |_ n ih=>
   intro v hn hI;have:=h v hI;rw[aE];cases e:f v with
   |none=>rw[e]at this;exact this.elim
   |some x=>
    rw[e]at this;cases x with
    |inl v'=>exact ih _ (hn▸this.2) v' rfl this.1
    |inr r=>exact⟨r,rfl,this⟩
 exact key _ v rfl hv
end
def tR(P:Program)(T:Nat)(t:Ty):Bool:=
 match P.info? T with
 |some i=>Nat.beq i.size t.size&&match i.zero with
  |some z=>vV t z.cells.toList
  |none=>false
 |none=>false
def z7(P:Program)(T:Nat):Ty->Bool
 | .int k=>match P.underlying T with
  |some (.int k')=>decide (k'=k)
  |_=>false
 | .bool=>match P.underlying T with
  |some .bool=>true
  |_=>false
 | .str=>match P.underlying T with
  |some .string=>true
  |_=>false
 |_=>false
def jZ(P:Program):List Go.Field->List (Nat×Ty)->Nat->Bool
 | [],[],_=>true
 |f::fs,(ty,t)::ts,o=>Nat.beq f.type ty&&Nat.beq f.offset o&&tR P ty t&&jZ P fs ts (o+t.size)
 |_,_,_=>false
def Cr(P:Program)(T:Nat):TD->Bool
 | .sc t=>z7 P T t&&tR P T t
 | .sl e t b=>(match P.underlying T with
   |some (.slice e')=>Nat.beq e' e
   |_=>false)&&(match P.info? e with
   |some i=>Nat.beq i.size t.size&&Nat.beq i.bytes b&&(match i.zero with
    |some z=>vV t z.cells.toList
    |none=>false)
   |none=>false)&&(match P.info? T with
   |some i=>Nat.beq i.size 1&&(match i.zero with
    |some (.slice none 0 0)=>true
    |_=>false)
   |none=>false)
 | .st t fs=>(match P.underlying T with
   |some (.struct fields)=>jZ P fields.toList fs 0
   |_=>false)&&Nat.beq (X2 fs) t.size&&tR P T t
 | .no=>true
theorem sZ{P:Program}{T:Nat}{t:Ty}(h:tR P T t=true):tA P T t:=by
 unfold tR at h;split at h
 next i hi=>
  simp only[xf]at h;obtain⟨h1,h2⟩:=h;split at h2
  next z hz=>exact⟨i,z,hi,xg h1,hz,h2⟩
  next=>cases h2
 next=>cases h
theorem Xl{P:Program}{T:Nat}{t:Ty}(h:z7 P T t=true):∃d,F5 t=some d/\P.underlying T=some d:=by
 cases t with
 |int k=>
  simp only[z7]at h;split at h
  next k' hk=>
   have:k'=k:=by simpa using h
   subst this;exact⟨_,rfl,hk⟩
  next=>cases h
 |bool=>
  simp only[z7]at h;split at h
  next hk=>exact⟨_,rfl,hk⟩
  next=>cases h
 |str=>
  simp only[z7]at h;split at h
  next hk=>exact⟨_,rfl,hk⟩
  next=>cases h
 |slice t=>simp[z7]at h
 |pair a b=>simp[z7]at h
theorem tT{P:Program}:∀{fs:List Go.Field} {ts:List (Nat×Ty)} {o:Nat},jZ P fs ts o=true->oX P fs ts o
 | [],[],_,_=>trivial
 |f::fs,(ty,t)::ts,o,h=>by simp only[jZ,xf]at h;exact⟨xg h.1.1.1,xg h.1.1.2,sZ h.1.2,tT h.2⟩
 | [],_::_,_,h=>by simp[jZ]at h
 |_::_,[],_,h=>by simp[jZ]at h
theorem Yn{P:Program}{T:Nat}{d:TD}(h:Cr P T d=true):aDc P T d:=by
 cases d with
 |sc t=>simp only[Cr,xf]at h;obtain⟨d,h1,h2⟩:=Xl h.1;exact⟨d,h1,h2,sZ h.2⟩
 |sl e t b=>
  simp only[Cr,xf]at h;obtain⟨⟨h1,h2⟩,h3⟩:=h;split at h1
  next e' he=>
   split at h2
   next i hi=>
    simp only[xf]at h2;split at h3
    next j hj=>
     simp only[xf]at h3;obtain⟨h3,h4⟩:=h3;obtain⟨⟨h5,h6⟩,h7⟩:=h2;split at h4
     next hz=>
      split at h7
      next z aa=>
       exact⟨by rw[he,xg h1],⟨i,z,hi,xg h5,xg h6,aa,h7⟩,j,hj,xg h3,hz⟩
      next=>cases h7
     next=>cases h4
    next=>cases h3
   next=>cases h2
  next=>cases h1
 |st t fs=>
  simp only[Cr,xf]at h;obtain⟨⟨h1,h2⟩,h3⟩:=h;split at h1
  next fields hf=>
   exact⟨fields,hf,tT h1,xg h2,sZ h3⟩
  next=>cases h1
 |no=>trivial
theorem aFs{P:Program}{l:List (Nat×TD)}(h:l.all (λp=>Cr P p.1 p.2)=true):aW P (λi=>match aM l i with|some d=>d|none=>.no):=by
 intro T;simp only;split
 next d hd=>exact Yn (xt.1 h _ (dX hd))
 next=>trivial
theorem aN{n:Int}(h1: -9223372036854775808<=n)(h2:n<9223372036854775808):IntKind.wrap .i64 n=n:=by unfold IntKind.wrap;simp only[IntKind.bits,IntKind.signed];simp;omega
theorem eA{i n:Nat}(h:i<n):aC (i:Int) n=true:=by unfold aC;simp;omega
section
open Go.RowKit (Below)
def EN:(t:Ty)->t.I->Prop
 | .int k,n=>(Lit.int k n).wf=true
 | .bool,_=>True
 | .str,s=>List.length (α:=UInt8) s<=maxLen
 | .slice t,l=>l.length<=maxLen/\∀x∈l,EN t x
 | .pair a b,v=>EN a v.1/\EN b v.2
def mE(P:Program)(chk:Nat->Ty->Bool):List Go.Field->Nat->Ty->Bool
 | [],_,_=>false
 | [f],o,t=>Nat.beq f.offset o&&Nat.beq (P.cellsOf f.type) t.size&&chk f.type t
 |f::g::fs,o,.pair a b=>Nat.beq f.offset o&&Nat.beq (P.cellsOf f.type) a.size&&chk f.type a&&mE P chk (g::fs) (o+a.size) b
 |_::_::_,_,_=>false
def oQ(P:Program):Nat->Nat->Ty->Bool
 |0,_,_=>false
 |n+1,T,t=>match P.underlying T with
  |some (.int k)=>match t with
   | .int k'=>decide (k=k')
   |_=>false
  |some .bool=>match t with
   | .bool=>true
   |_=>false
  |some .string=>match t with
   | .str=>true
   |_=>false
  |some (.slice e)=>match t with
   | .slice t=>Nat.beq (P.cellsOf e) t.size&&oQ P n e t
   |_=>false
  |some (.struct fs)=>Nat.beq (P.cellsOf T) t.size&&mE P (oQ P n) fs.toList 0 t
  |_=>false
section
variable {H:Type}{enc:TypeId×Value->H}{P:Program}{w:World}{base:Nat}{spare:Nat->Bool}{held:Bool}
theorem Br{α β:Type}{f:α->Option β}:∀{l:List α} {r:List β},l.mapM f=some r->∀(i:Nat) (a:α),l[i]? =some a->∃b,r[i]? =some b/\f a=some b
 | [],r,h,i,a,ha=>by simp at ha
 |x::l,r,h,i,a,ha=>by
  rw[xfx]at h;cases hx:f x with
  |none=>rw[hx]at h;cases h
  |some y=>
   rw[hx]at h;cases hl:l.mapM f with
   |none=>simp[hl]at h
   |some ys=>
    simp[hl]at h;subst h
    match i,ha with
    |0,ha=>simp at ha;subst ha;exact⟨y,rfl,hx⟩
    |i+1,ha=>exact Br hl i a ha
theorem Pu{a:Addr}{n:Nat}{cs:List Value}(h:w.cells? base a n=some cs):cs.length=n/\∀j u,cs[j]? =some u->w.cell? (a.add j)=some u:=by
 unfold World.cells? at h;split at h
 ·have hlen:∀{l:List Nat} {r:List Value},l.mapM (λi=>w.cell? (a.add i))=some r->r.length=l.length:=by
   intro l;induction l with
   |nil=>intro r h;simp at h;subst h;rfl
   |cons x l ih=>
    intro r h;rw[xfx]at h;cases hx:w.cell? (a.add x)with
    |none=>rw[hx]at h;cases h
    |some y=>
     rw[hx]at h;cases hl:l.mapM (λi=>w.cell? (a.add i))with
     |none=>simp[hl]at h
     |some ys=>simp[hl]at h;subst h;simp[ih hl]
  have hl:=hlen h;rw[xdx]at hl;refine⟨hl,λj u hu=>?_⟩;have hj:j<n:=by rw[<-hl];exact(xq.1 hu).1
  obtain⟨b,h1,h2⟩:=Br h j j (BU hj);rw[hu]at h1;cases h1;exact h2
 ·cases h
theorem Sn{a:Addr}{u:Value}(h:w.cell? a=some u):a.spot=none:=by
 unfold World.cell? at h;split at h
 ·split at h;·cases h
  ·rename_i hs
   cases aa:a.spot with
   |none=>rfl
   |some x=>rw[aa]at hs;simp at hs
 ·cases h
theorem s9{chk:Nat->Ty->Bool}{cs:List Value}{G:List Go.Field}
  (hF:∀f∈G,∀t,chk f.type t=true->P.cellsOf f.type=t.size->f.offset+t.size<=cs.length->∃v,Rep (λ_=>True) w t v ((cs.drop f.offset).take t.size)/\EN t v):
  ∀{fs:List Go.Field} {o:Nat} {t:Ty},(∀f∈fs,f∈G)->mE P chk fs o t=true->o+t.size<=cs.length->∃v,Rep (λ_=>True) w t v ((cs.drop o).take t.size)/\EN t v
 | [],_,_,_,h,_=>by simp[mE]at h
 | [f],o,t,hm,h,hle=>by simp only[mE,xf]at h;obtain⟨⟨h1,h2⟩,h3⟩:=h;have e1:=xg h1;rw[<-e1]at hle⊢;exact hF f (hm f (by simp)) t h3 (xg h2) hle
 |f::g::fs,o,.pair a b,hm,h,hle=>by simp only[mE,xf]at h;obtain⟨⟨⟨h1,h2⟩,h3⟩,h4⟩:=h;have e1:=xg h1;simp only[Ty.size]at hle;obtain⟨v1,r1,k1⟩:=hF f (hm f (by simp)) a h3 (xg h2) (by omega);rw[e1]at r1;obtain⟨v2,r2,k2⟩:=s9 hF (λx hx=>hm x (xr _ hx)) h4 (by omega);refine⟨(v1,v2),⟨_,_,?_,r1,r2⟩,k1,k2⟩;simp only[Ty.size];rw[<-xfw,List.take_add]
 |_::_::_,_,.int _,_,h,_=>by simp[mE]at h
 |_::_::_,_,.bool,_,h,_=>by simp[mE]at h
 |_::_::_,_,.str,_,h,_=>by simp[mE]at h
 |_::_::_,_,.slice _,_,h,_=>by simp[mE]at h
theorem l5:∀{n T:Nat} {t:Ty} {fuel:Nat} {cs:List Value} {x:DataW H×List MemPlace},oQ P n T t=true->DataW.trod enc P w base spare held fuel T cs=some x->∃v,Rep (λ_=>True) w t v cs/\EN t v
 |0,_,_,_,_,_,h,_=>by simp[oQ]at h
 |n+1,T,t,fuel,cs,x,hc,h=>by
  simp only[oQ]at hc;split at hc
  next k hk=>
   split at hc
   next k'=>
    have e:k=k':=by simpa using hc
    subst e;obtain⟨m,rfl,_,hw⟩:=DataW.trod_int hk h;exact⟨m,rfl,hw⟩
   next=>cases hc
  next hk=>
   split at hc
   next=>
    obtain⟨b,rfl,_⟩:=DataW.trod_bool hk h;exact⟨b,rfl,trivial⟩
   next=>cases hc
  next hk=>
   split at hc
   next=>
    obtain⟨s,rfl,_,hs⟩:=DataW.trod_string hk h;exact⟨s.data.toList,by simp[Rep],by show s.data.toList.length<=maxLen;rw[JP];exact hs⟩
   next=>cases hc
  next e hk=>
   split at hc
   next t=>
    simp only[xf]at hc;have aa:=xg hc.1;rcases DataW.trod_slice hk h with⟨rfl,_⟩|⟨a,len,cap,au,rest,m,_,rfl,_,_,ah,hm,hlen,ad,_⟩
    ·exact⟨[],Rep.nil,V1 _,λx hx=>by cases hx⟩
    ·have hex:∀i,∃v:t.I,i<len->EN t v/\∃c,Rep (λ_=>True) w t v c/\∀j u,c[j]? =some u->w.cell? ((a.add (i*t.size)).add j)=some u:=λi=>by
      by_cases hi:i<len;·have hy:=ad i hi;rw[xh (by omega)]at hy;obtain⟨c,ai,hy⟩:=eM hy;obtain⟨v,h1,h2⟩:=l5 hc.2 hy;exact⟨v,λ_=>⟨h2,c,h1,by rw[<-aa];exact(Pu ai).2⟩⟩
      ·exact⟨t.dflt,λh=>absurd h hi⟩
     refine⟨(List.range len).map λi=>(hex i).choose,⟨some a,cap,by simp,by simpa using ah,λi x hx=>?_⟩,by simp;omega,λx hx=>?_⟩
     ·rw[oE]at hx;have hi:i<len:=by
       rcases Ya i len with h|h;·exact h
       ·rw[KP (by simpa using h)]at hx;cases hx
      rw[BU hi]at hx;simp only[oG,xe]at hx;subst hx;obtain⟨_,c,h1,h2⟩:=(hex i).choose_spec hi;have ar:=t.size_pos;have hl:=h1.len;have ae:a.spot=none:=by
       obtain⟨_,c0,g1,g2⟩:=(hex 0).choose_spec (by omega);have av:=g1.len;have h0:∃u,c0[0]? =some u:=⟨c0[0]'(by omega),xh _⟩
       obtain⟨u,hu⟩:=h0;have:=Sn (g2 0 u hu);rw[xfd]at this;have e:(a.add 0).add 0=a:=by simp[Addr.add]
       rw[e]at this;exact this
      obtain⟨ab,ao,aw⟩:=a;simp only at ae;subst ae;refine⟨ab,ao,c,rfl,trivial,h1,λj u hu=>?_⟩;have:=h2 j u hu;rw[Addr.add_lit,Addr.add_lit,US]at this;exact this
     ·obtain⟨i,hi,rfl⟩:=xaf.1 hx;exact((hex i).choose_spec (xar.1 hi)).1
   next=>cases hc
  next fs hk=>
   simp only[xf]at hc;have aa:=xg hc.1;obtain⟨xs,m,_,_,hlen,ay,hf⟩:=DataW.trod_struct hk h;have az:cs.length=t.size:=by rw[hlen,aa]
   obtain⟨v,h1,h2⟩:=s9 (P:=P) (w:=w) (cs:=cs) (G:=fs.toList) (chk:=oQ P n) (λf af t' aj ak hle=>by
    obtain⟨i,hi,he⟩:=JK af;have al:i<fs.size:=by simpa using hi
    have:=hf i f (by rw[F3 al];simpa using he);rw[xh (by omega),ak]at this;exact l5 aj this) (λ_ h=>h) hc.2 (by omega)
   rw[Ri,Gg (by omega)]at h1;exact⟨v,h1,h2⟩
  next=>cases hc
end
end
section
open Go.ChangeShapes Go.WideShapes Go.ChangeAt Go.RowKit
open Go.RowKit (Below)
def JX:(ts:List Ty)->HL ts->Prop
 | [],_=>True
 |t::ts,x=>EN t x.1/\JX ts x.2
def R7(P:Program)(n T:Nat)(t:Ty):Bool:=
 oQ P n T t&&P.readableRec T&&decide (T<P.types.size)&&match P.underlying T with
  |some (.struct _)=> !(Nat.beq t.size 1)
  |_=>true
def gJ(P:Program)(n:Nat):List Nat->List Ty->Bool
 | [],[]=>true
 |T::Ts,t::ts=>R7 P n T t&&gJ P n Ts ts
 |_,_=>false
section
variable {H:Type}{enc:TypeId×Value->H}{P:Program}{w w':World}{base:Nat}
theorem AF{n T:Nat}{t:Ty}{v:Value}{d:DataW H}{p:List MemPlace}{spare:Nat->Bool}{held:Bool}{b:Nat}(hc:R7 P n T t=true)(hv:Value.okWide P w .any b T v)(h:DataW.Trod enc P w base spare held T v d p):
  ∃x,Rep (λ_=>True) w t x v.cells.toList/\(t.size=1->v.cells= #[v])/\(t.size≠1->∃cs,v=.agg cs)/\EN t x:=by
 simp only[R7,xf]at hc;obtain⟨⟨⟨h1,_⟩,_⟩,h4⟩:=hc;obtain⟨fuel,h⟩:=h;obtain⟨x,k1,k2⟩:=l5 h1 h;refine⟨x,k1,?_,?_,k2⟩
 ·intro hs;cases n with
  |zero=>simp[oQ]at h1
  |succ n=>
   simp only[oQ]at h1;split at h1
   next k hk=>obtain⟨m,rfl⟩:=okWide_int hk hv;rfl
   next hk=>obtain⟨m,rfl⟩:=okWide_bool hk hv;rfl
   next hk=>obtain⟨m,rfl⟩:=okWide_string hk hv;rfl
   next e hk=>obtain⟨a,l,c,rfl⟩:=okWide_slice hk hv;rfl
   next fs hk=>
    rw[hk]at h4;simp[hs]at h4
   next=>cases h1
 ·intro hs;cases n with
  |zero=>simp[oQ]at h1
  |succ n=>
   simp only[oQ]at h1;split at h1
   next k hk=>
    cases t<;>simp_all[Ty.size]
   next hk=>cases t<;>simp_all[Ty.size]
   next hk=>cases t<;>simp_all[Ty.size]
   next e hk=>cases t<;>simp_all[Ty.size]
   next fs hk=>
    obtain⟨cs,h,_⟩:=okWide_struct hk hv;exact⟨cs,h⟩
   next=>cases h1
theorem M7[Tabs]{n:Nat}:∀{Ts:List Nat} {ts:List Ty} {vs:List Value} {ds:List (DataW H)} {p:List MemPlace},gJ P n Ts ts=true->
  (∀(j:Nat) t v,Ts[j]? =some t->vs[j]? =some v->Value.okWide P w .any base t v)->DataW.TrodAll enc P w 0 (λ_=>true) true Ts vs ds p->∃h:HL ts,Hs w ts h vs/\JX ts h
 | [],[],[],_,_,_,_,_=>⟨(),rfl,trivial⟩
 | [],[],_::_,[],_,_,_,h=>by simp[DataW.TrodAll]at h
 | [],[],_::_,_::_,_,_,_,h=>by simp[DataW.TrodAll]at h
 | [],_::_,_,_,_,hc,_,_=>by simp[gJ]at hc
 |_::_,[],_,_,_,hc,_,_=>by simp[gJ]at hc
 |T::Ts,t::ts,[],_,_,_,_,h=>by simp[DataW.TrodAll]at h
 |T::Ts,t::ts,v::vs,[],_,_,_,h=>by simp[DataW.TrodAll]at h
 |T::Ts,t::ts,v::vs,d::ds,p,hc,hv,h=>by simp only[gJ,xf]at hc;obtain⟨p1,p2,h1,h2,rfl⟩:=h;obtain⟨x,k1,k2,k3,k4⟩:=AF hc.1 (hv 0 T v rfl rfl) h1;obtain⟨r,k5,k6⟩:=M7 hc.2 (λj t v ht aa=>hv (j+1) t v ht aa) h2;exact⟨(x,r),⟨v,vs,rfl,k1,k2,k3,k5⟩,k4,k6⟩
theorem y9(hl:laidOutB P=true){sp:Nat->Bool}{n:Nat}(hb:Below w.heap.size w w'):∀{Ts:List Nat} {ts:List Ty} {vs:List Value} {ds:List (DataW H)} {p:List MemPlace},gJ P n Ts ts=true->
  (∀x∈p,x.block<w.heap.size/\sp x.block=true)->DataW.TrodAll enc P w 0 (λ_=>true) true Ts vs ds p->DataW.TrodAll enc P w' 0 sp true Ts vs ds p
 | [],[],[],[],_,_,_,h=>h
 | [],_::_,_,_,_,hc,_,_=>by simp[gJ]at hc
 |_::_,[],_,_,_,hc,_,_=>by simp[gJ]at hc
 | [],[],[],_::_,_,_,_,h=>by simp[DataW.TrodAll]at h
 | [],[],_::_,[],_,_,_,h=>by simp[DataW.TrodAll]at h
 | [],[],_::_,_::_,_,_,_,h=>by simp[DataW.TrodAll]at h
 |T::Ts,t::ts,[],_,_,_,_,h=>by simp[DataW.TrodAll]at h
 |T::Ts,t::ts,v::vs,[],_,_,_,h=>by simp[DataW.TrodAll]at h
 |T::Ts,t::ts,v::vs,d::ds,p,hc,hp,h=>by
  simp only[gJ,xf]at hc;obtain⟨p1,p2,h1,h2,rfl⟩:=h;have aa:=hc.1;simp only[R7,xf,qe]at aa;exact⟨p1,p2,WideElems.Trod_stays hl aa.1.1.2 aa.1.2 h1 (λx hx=>hb.same (hp x (D1 _ hx)).1) (λx hx=>(hp x (D1 _ hx)).2),
   y9 hl hb hc.2 (λx hx=>hp x (Bt _ hx)) h2,rfl⟩
theorem xW{sp:Nat->Bool}{held:Bool}:∀{Ts:List Nat} {vs:List Value} {ds:List (DataW H)} {p:List MemPlace},DataW.TrodAll enc P w base sp held Ts vs ds p->Ts.length=vs.length/\ds.length=vs.length
 | [],[],[],_,_=>⟨rfl,rfl⟩
 | [],[],_::_,_,h=>by simp[DataW.TrodAll]at h
 | [],_::_,[],_,h=>by simp[DataW.TrodAll]at h
 | [],_::_,_::_,_,h=>by simp[DataW.TrodAll]at h
 |_::_,[],_,_,h=>by simp[DataW.TrodAll]at h
 |_::_,_::_,[],_,h=>by simp[DataW.TrodAll]at h
 |_::_,_::_,_::_,_,⟨_,_,_,h,_⟩=>by obtain⟨h1,h2⟩:=xW h;simp[h1,h2]
end
theorem P9[Tabs]{H:Type}{enc:TypeId×Value->H}{P:Program}{f:Nat}{fn:Func}{s:ChangeSpec}{d:FD}{ts:List Ty}{n tb:Nat}{cv:HL ts->d.T}
  (bd:P.funcs[f]? =some fn) (hl:laidOutB P=true) (ad:gJ P n fn.params.toList ts=true) (ae:s.vars=[]) (au:fn.resultTypes= #[tb]) (hb:P.underlying tb=some .bool)
  (ak:∀ds:List (DataW H),ds.length=fn.params.size->s.fn H (ds++ [])= {results:=[.lit (.bool true)],args:=ds})
  (al:(fn.name== "runtime.NumGoroutine")=false) (ao:fn.body.isSome=true) (av:∀h,val d.A (cv h).1=At ts h) (be:∀h,eG d.ins (cv h).2=[]) (bf:dZ P (f,d))
  (law:∀h,JX ts h->∃r,d.F (cv h)=some r/\d.emb r=([.dat .bool true],[]))
  {W:World} {base:Nat} {args:Array Value} {ds gs:List (DataW H)} {before:List MemPlace}
  (aw:∀(j:Nat) t v,fn.params[j]? =some t->args[j]? =some v->Value.okWide P W .any base t v)
  (hW:DataW.Whole enc P fn.params.toList s.vars false W args.toList ds gs before) (ay:TabsOK W (eE W λ_=>none)):
  Calls P f args W λe W'=>∃v,e=.returned v/\s.post enc P fn false true false false W args v W':=by
 have az:=hW;obtain⟨p,q,hA,hV,rfl,bl,_⟩:=hW;rw[ae]at hV;obtain⟨rfl,rfl⟩:=trodVars_none hV;obtain⟨h,hh,ba⟩:=M7 ad (λj t v ht hv=>aw j t v (by simpa using ht) (by simpa using hv)) hA;obtain⟨r,hr,he⟩:=law h ba;have af:=(uV (P:=P) (lo:=eE W λ_=>none) (S:=SS (λ_=>False) λ_=>none) (λ_=>⟨λh=>h,λ_ _ h=>by cases h⟩) (μ:=λ_=>none) hh).to;have ab:=bf (cv h) r hr W (λ_=>False) (λ_=>none) args (λ_ h=>h.elim)
  ⟨λ_ h=>h.elim,λb hb=>hb.1,λo mv h=>(by cases h),λo p mv mv' b h=>(by cases h),ay⟩ (λp hp=>by rw[be]at hp;cases hp) (by rw[av,af.1];simp) λj v hj=>by
  rw[av]at hj;have:=af.2 j v hj;simpa using this
 rcases ab with⟨_,ab⟩|⟨x,w',ah,_⟩
 case inr=>
  obtain⟨c,hc⟩:=xbd.1 ao;rw[cP bd al hc]at ah;cases ah
 refine ab.mono λe w' ⟨x,hx,aa,μ,_,_,_,bb⟩=>?_;have ai:Below W.heap.size W w':=⟨aa.os,aa.tape,aa.output,aa.size,λk bg=>aa.block k ⟨bg,λ_ _ h=>by cases h⟩⟩
 rw[he]at bb;have bh:x=.bool true:=by
  rcases bb with⟨v,hv,bj⟩|⟨bk,_⟩
  ·cases hv;cases bj with|dat _ aj=>simp[Rep]at aj;exact aj
  ·exact absurd rfl bk
 subst bh;have hlen:=xW hA;have ar:=ak ds (by rw[hlen.2,<-hlen.1];simp);have bc:∀x∈p++ [],x.block<W.heap.size:=λx hx=>by simpa using az.lt x hx
 refine⟨_,hx,ds,[],p++ [],[],p,[],az,?_,?_,?_,ai.frame _,λhf=>nomatch hf⟩;·rw[ar,au];exact trodAll_mk1 (shut_bool hb true)
 ·rw[ar];exact y9 hl ai ad (λx hx=>⟨bc x (by simpa using hx),by simpa using bc x (by simpa using hx)⟩) hA
 ·rw[ar,ae];rfl
end
section
open Go.RowKit (Below)
theorem X0[Tabs]{P:Program}{X lo:Nat->Prop}{w w':World}{μi:Nat->Option MV}{t:Ty}{v:t.I}{x:Value}(ht:t.size=1)(hr:∀S,Rep S w' t v [x])(hk:Kept lo w w')(hX:∀b,X b->lo b)(hlo:∀b,lo b->b<w.heap.size)
  (aa:TabsOK w lo):lX P X lo w w' μi ([.dat t v],[]) x:=
 ⟨hk,λ_=>none,⟨hX,λb hb=>yF (hlo b hb) hk.size,λo mv h=>(by cases h),λo p mv mv' b h=>(by cases h),aa.step hk.block⟩,λo mv h=>(by cases h),λp hp=>(by cases hp),.inl ⟨_,rfl,.dat ht (hr _)⟩⟩
theorem Fq[Tabs]{P:Program}{X lo:Nat->Prop}{w w':World}{μi:Nat->Option MV}{e:Nat}{t:Ty}{l:List t.I}{cs:List Value}{v:Value}(hr:∀S,RepL S w' t l cs)(ho:w'.ownsRow w.heap.size e t.size v l.length cs)(hk:Kept lo w w')(hX:∀b,X b->lo b)(hlo:∀b,lo b->b<w.heap.size)
  (aa:TabsOK w lo):lX P X lo w w' μi ([.arr 0],[(0,.arr e t l)]) v:=by
 obtain⟨a,n,c,rfl⟩:∃a n c,v=.slice a n c:=by
  rcases ho.2 with⟨e,_⟩|⟨_,_,_,e,_⟩
  ·exact⟨_,_,_,e⟩
  ·exact⟨_,_,_,e⟩
 refine⟨hk,again (λ_=>none) 0 ⟨.slice a n c,(aD (.slice a n c)).toList,[]⟩,⟨hX,λb hb=>yF (hlo b hb) hk.size,λo mv h=>?_,λo p mv mv' b h1 h2 _ _=>?_,aa.step hk.block⟩,λo mv h=>?_,λp hp hge=>?_,.inl ⟨_,rfl,.arr (rs:=(aD (.slice a n c)).toList) (hs:=[]) cD⟩⟩
 ·rcases aP h with⟨rfl,rfl⟩|⟨_,h⟩
  ·refine⟨_,rfl,⟨rfl,rfl⟩,λb hb hl=>?_,cs,⟨ho.1,?_⟩,hr _⟩
   ·rcases ho.2 with⟨e1,_⟩|⟨gb,cap,cur,e1,h1,_⟩
    ·rw[e1]at hb;simp[aD]at hb
    ·rw[e1]at hb;simp only[aD,xe]at hb;have:=hlo b hl;omega
   ·rcases ho.2 with h|⟨gb,cap,cur,e1,h1,h2⟩
    ·exact .inl h
    ·exact .inr ⟨gb,cap,cur,e1,V1 _,h2⟩
  ·cases h
 ·rcases aP h1 with⟨rfl,rfl⟩|⟨_,h1⟩
  ·rcases aP h2 with⟨rfl,rfl⟩|⟨_,h2⟩
   ·rfl
   ·cases h2
  ·cases h1
 ·rcases aP h with⟨rfl,rfl⟩|⟨_,h⟩
  ·exact⟨_,xo.2 rfl,rfl⟩
  ·cases h
 ·rw[xo.1 hp]at hge;exact absurd hge (by simp)
theorem GK{R:AV->Value->Prop}{v:AV}{vals:Array Value}(h1:List.length [v]=vals.size)(h2:∀j u,aQ [v] j=some u->R u (vals.getD j undef)):∃x,vals= #[x]/\R v x:=by
 have:vals.size=1:=by simpa using h1.symm
 obtain⟨x,rfl⟩:=Array.size_eq_one_iff.1 this;exact⟨x,rfl,h2 0 v rfl⟩
theorem Nl{R:AV->Value->Prop}{v u:AV}{vals:Array Value}(h1:List.length [v,u]=vals.size)(h2:∀j z,aQ [v,u] j=some z->R z (vals.getD j undef)):∃x y,vals= #[x,y]/\R v x/\R u y:=by
 have:vals.size=2:=by simpa using h1.symm
 refine⟨vals.getD 0 undef,vals.getD 1 undef,?_,h2 0 v rfl,h2 1 u rfl⟩;apply xhf;·simpa using this
 ·intro i hi aa;have:i=0\/i=1:=by simp at aa;omega
  rcases this with rfl|rfl<;>simp[Array.getD,hi]
theorem b8{P:Program}{w:World}{lo:Nat->Prop}{μ:Nat->Option MV}{S:Nat->Prop}{s:List UInt8}{x:Value}(h:RelV P w lo μ S (.dat .str s) x):x=.string ⟨s.toArray⟩:=by cases h with|dat _ hr=>simpa[Rep]using hr
theorem mC{P:Program}{w:World}{lo:Nat->Prop}{μ:Nat->Option MV}{S:Nat->Prop}{k:IntKind}{n:Int}{x:Value}(h:RelV P w lo μ S (.dat (.int k) n) x):x=.int k n:=by cases h with|dat _ hr=>simpa[Rep]using hr
def jM(s:List UInt8)(c:Int):Int:=Lib.indexByte s c.toNat.toUInt8
def wY:FD where
 A:=.cons (.dat .str) (.cons (.dat (.int .u8)) .nil)
 ins:=[]
 lend:=[]
 R:=Int
 F:=λx=>some (jM x.1.1 x.1.2.1)
 emb:=λr=>([.dat (.int .i64) r],[])
theorem w9[Tabs]{P:Program}{f:Nat}{fn:Func}(hf:P.funcs[f]? =some fn)(aa:(fn.name== "runtime.NumGoroutine")=false)(hb:fn.body.isNone=true)(hn:Extern.findNext fn=none)
  (he:Extern.find fn=some Extern.BytealgIndexByte.indexByte):dZ P (f,wY):=by
 intro x r hr w X μi vals hX hm ad ab hv;cases hr;obtain⟨⟨s,c,u⟩,v⟩:=x;obtain⟨x,y,rfl,h1,h2⟩:=Nl (v:=.dat .str s) (u:=.dat (.int .u8) c) ab hv;rw[b8 h1,mC h2];refine .inr ⟨.int .i64 (jM s c),w,?_,X0 rfl (λ_=>rfl) (Kept.refl _ _) hX hm.hlo hm.tab⟩;rw[run_callFunc_extern hf aa hb hn he,Lib.run_indexByteString];rfl
end
section
open Go.RowKit (Below)
open Go.Proofs.Tryz
instance doorTabs:Tabs:=⟨[(5,Lib.pow10Tab.map λz=>Value.int .u64 z)],[1,2]⟩
theorem sR:prog.globalNamed "internal/strconv.uint64pow10" =some (5):=by kernel_rfl
theorem Pa{w:World}{lo:Nat->Prop}(h:TabsOK w lo):Lib.TabIs prog w "internal/strconv.uint64pow10" .u64 Lib.pow10Tab:=by obtain⟨_,t,y,h2⟩:=h.1 _ (xo.2 rfl);unfold Lib.TabIs World.var?;rw[sR];simp only[xc]at h2⊢;rw[h2]
def Mu(n:Int):Bool:=decide (-9223372036854775808<=n)&&decide (n<=9223372036854775807)
def L5(n:Int):Option (List UInt8):=if Mu n then some (Lib.itoa n)else none
def AU:FD where
 A:=.cons (.dat (.int .i64)) .nil
 ins:=[]
 lend:=[]
 R:=List UInt8
 F:=λx=>L5 x.1.1
 emb:=λr=>([.dat .str r],[])
theorem Qu:dZ prog (100,AU):=by
 intro x r hr w X μi vals hX hm af ad hv;obtain⟨⟨n,u⟩,v⟩:=x;have aa:L5 n=some r:=hr;unfold L5 at aa;split at aa
 next ab=>
  cases aa;unfold Mu at ab;simp only[xf,qe]at ab;obtain⟨x,rfl,h1⟩:=GK (v:=.dat (.int .i64) n) ad hv;rw[mC h1];have hb:f100.body.isSome=true:=by kernel_rfl
  obtain⟨c,hc⟩:=xbd.1 hb;refine .inl ⟨cP func100 (by kernel_rfl) hc _ w,(Tryz.strconv_Itoa n ab.1 ab.2 w (Pa hm.tab)).mono λe w' ⟨he,k,os,hw⟩=>⟨_,he,?_⟩⟩;subst hw;refine X0 rfl (λ_=>rfl) ⟨rfl,rfl,rfl,by rw[Sort.size_grow];exact Nat.le_add_right _ _,λb hb=>?_⟩ hX hm.hlo hm.tab;have ae:=hm.hlo b hb;show(w.heap++os)[b]? =w.heap[b]?;exact KJ ae
 next=>cases aa
end
section
open Go.RowKit (Below)
open Go.Proofs.Tryz
mutual
def mK:DataW Unit->List Value
 | .lit (.int k z)=>[.int k z]
 | .agg ds=>xX ds
 |_=>[]
def xX:List (DataW Unit)->List Value
 | []=>[]
 |d::r=>mK d++xX r
end
def setCells(cs:List Value):Obj->Obj
 | .cells _ t y=>.cells cs.toArray t y
 |o=>o
def Pd:DataW Unit->ByteArray
 | .iface _ (.ptr (.agg [.lit (.string b)]))=>⟨b.toArray⟩
 |_=>⟨#[]⟩
def IV(b:Nat):Value:=.iface 270 (.pointer (some ⟨b,0,none⟩))
noncomputable def J2(os:Os):World:=
 {World.holding prog os ⟨#[],#[],[]⟩with heap:=((((((((World.holding prog os ⟨#[],#[],[]⟩).heap.modify 3 (setCells (mK Rows.laid_unicode_utf8_first))).modify 4 (setCells (mK Rows.laid_unicode_utf8_acceptRanges))).modify 1 (setCells [IV 13])).modify 2 (setCells [IV 14])).modify 5 (setCells (mK Rows.laid_internal_strconv_uint64pow10))).modify 6 (setCells (mK Rows.laid_math_bits_deBruijn32tab))).modify 7 (setCells (mK Rows.laid_math_bits_deBruijn64tab)))++ #[Obj.cells #[.string (Pd Rows.laid_strconv_ErrSyntax)] 272,Obj.cells #[.string (Pd Rows.laid_strconv_ErrRange)] 272]}
noncomputable def mS:List (String×DataW Unit):=[("math/bits.deBruijn32tab",Rows.laid_math_bits_deBruijn32tab),("math/bits.deBruijn64tab",Rows.laid_math_bits_deBruijn64tab),("internal/strconv.uint64pow10",Rows.laid_internal_strconv_uint64pow10),("unicode/utf8.acceptRanges",Rows.laid_unicode_utf8_acceptRanges),("strconv.ErrRange",Rows.laid_strconv_ErrRange),("strconv.ErrSyntax",Rows.laid_strconv_ErrSyntax),("unicode/utf8.first",Rows.laid_unicode_utf8_first)]
theorem IF(os:Os)(args:Array Value):laidMetH prog mS ((J2 os).forCall (λ_ _=>0) ⟨#[],args,[]⟩).memory:=
 laidMet_of_run' 8 (by kernel_rfl) (by kernel_rfl)
theorem DV:(prog.globals[5]?).map (·.type)=some (274):=by kernel_rfl
theorem Di{P:Program}{W:World}{t:TypeId}{ms:Array (String×TypeId)}{nm:String}{x:DataW Unit}{ps:List MemPlace}(ht:P.underlying t=some (.interface ms)):
  ∀{fuel:Nat} {cs:List Value},DataW.trod (λ_=>()) P W 0 (λ_=>true) false fuel t cs=some (.iface nm x,ps)->∃u v,cs=[.iface u v]
 |0,cs,h=>by simp[DataW.trod]at h
 |fuel+1,cs,h=>by
  rw[DataW.trod_step]at h;unfold DataW.trodStep at h;rw[ht]at h
  match cs,h with
  | [.iface u v],_=>exact⟨u,v,rfl⟩
  | [.nilIface],h=>cases h
theorem Bz{P:Program}{W:World}{name:String}{nm:String}{x:DataW Unit}{g:Nat}{t:TypeId}(hg:P.globalNamed name=some g)(aa:(P.globals[g]?).map (·.type)=some t)(ht:(match P.underlying t with|some (.interface _)=>true|_=>false)=true)
  (h:Lib.VarReads P W name (.iface nm x)):eE W (λ_=>none) g/\∃u v t y,W.heap[g]? =some (.cells #[.iface u v] t y):=by
 have⟨ms,ht⟩:∃ms,P.underlying t=some (.interface ms):=by
  split at ht;·exact⟨_,by assumption⟩
  ·cases ht
 obtain⟨g',t',cs,fuel,p,h1,h2,h3,h4⟩:=h;obtain rfl:=zB (hg.symm.trans h1);obtain rfl:=zB (aa.symm.trans h2);obtain⟨u,v,e⟩:=Di ht h4;have e':cs= #[.iface u v]:=by rw[<-Uk (xs:=cs),e]
 subst e';unfold World.var? at h3;rw[hg]at h3;simp only[xc]at h3;split at h3
 next ae ab y hw=>
  obtain rfl:=zB h3;obtain⟨ad,_⟩:=xba.1 hw;exact⟨⟨ad,λ_ _ h=>by cases h⟩,u,v,ab,y,hw⟩
 next=>cases h3
theorem T4{W:World}(h:laidMetH prog mS W):TabsOK W (eE W λ_=>none):=by
 have h1:laidMet prog mS W:=h;have h2:laidMet prog [("internal/strconv.uint64pow10",Lib.tabData .u64 Lib.pow10Tab)] W:=h1.filter λx=>x.1== "internal/strconv.uint64pow10"
 have h3:Lib.TabIs prog W "internal/strconv.uint64pow10" .u64 Lib.pow10Tab:=Lib.tabIs_of_head sR DV (by kernel_rfl:prog.underlying (274)=some (.array 20 (63))) (by kernel_rfl) (by kernel_rfl) (by kernel_rfl) h2;refine⟨λp hp=>?_,λb hb=>?_⟩
 ·obtain rfl:=xo.1 hp;unfold Lib.TabIs World.var? at h3;rw[sR]at h3;simp only[xc]at h3;split at h3
  next cs t y hw=>
   obtain rfl:=zB h3;obtain⟨ab,_⟩:=xba.1 hw;exact⟨⟨ab,λ_ _ h=>by cases h⟩,t,y,hw⟩
  next=>cases h3
 ·have ad:b=1\/b=2:=by
   rcases xae.1 hb with e|e;·exact .inl e
   ·exact .inr (xo.1 e)
  rcases ad with rfl|rfl;·exact Bz (name:= "strconv.ErrSyntax") (by kernel_rfl) (by kernel_rfl) (t:=132) (by kernel_rfl) (Lib.laidMet.reads h1 (d:=Rows.laid_strconv_ErrSyntax) (.tail _ (.tail _ (.tail _ (.tail _ (.tail _ (.head _)))))))
  ·exact Bz (name:= "strconv.ErrRange") (by kernel_rfl) (by kernel_rfl) (t:=132) (by kernel_rfl) (Lib.laidMet.reads h1 (d:=Rows.laid_strconv_ErrRange) (.tail _ (.tail _ (.tail _ (.tail _ (.head _))))))
theorem Xd[Tabs]{H:Type}{enc:TypeId×Value->H}{C:Checked}{laid:List (String×DataW Unit)}{os:Os}{f:Nat}{fn:Func}{s:ChangeSpec}{d:FD}{conds:List PathCond}{ts:List Ty}{n tb:Nat}{cv:HL ts->d.T}
  (ai:∀W,laidMetH C.prog laid W->TabsOK W (eE W λ_=>none))
  (own:ownKnob C.prog.godebug=none) (started:os.Started) (aa:C.prog.inits.idxOf? f=none) (aj:C.prog.funcs[f]? =some fn)
  (witness:∃(w:World) (tape:Tape) (i:Input),w.os=os/\(w.forCall tape i).Shaped C.prog/\i.vars=[]/\Input.okWide C.prog (w.forCall tape i) .any w.heap.size f i/\
   ((s.pre enc C.prog fn conds false (w.forCall tape i).memory i.args/\laidMetH C.prog laid (w.forCall tape i).memory)/\sizedMet enc C.prog fn (OpenSpec.ofChange s) false (w.forCall tape i).memory i.args)/\({}:Assume).holds C.prog (lone (Frame.enter C.prog f i.args .normal) [] (w.forCall tape i)))
  (hl:laidOutB C.prog=true) (ab:gJ C.prog n fn.params.toList ts=true) (ad:s.vars=[]) (ak:fn.resultTypes= #[tb]) (hb:C.prog.underlying tb=some .bool)
  (ae:∀ds:List (DataW H),ds.length=fn.params.size->s.fn H (ds++ [])= {results:=[.lit (.bool true)],args:=ds})
  (af:(fn.name== "runtime.NumGoroutine")=false) (ah:fn.body.isSome=true) (ao:∀h,val d.A (cv h).1=At ts h) (ar:∀h,eG d.ins (cv h).2=[]) (au:dZ C.prog (f,d))
  (law:∀h,JX ts h->∃r,d.F (cv h)=some r/\d.emb r=([.dat .bool true],[])):
  ReturnsInHanded {} C os f .any (λw args=>(s.pre enc C.prog fn conds false w args/\laidMetH C.prog laid w)/\sizedMet enc C.prog fn (OpenSpec.ofChange s) false w args) (s.post enc C.prog fn false true false false):=by
 refine returnsInHanded_of_change_and (C:=C) (X:=λw _=>laidMetH C.prog laid w) (λ_ _ _ hh h=>h.of_heap hh) own started aa aj witness ?_;intro W base args ds gs before al hW _ _ hL _;exact P9 aj hl ab ad ak hb ae af ah ao ar au law al hW (ai W hL)
theorem Rp{P:Program}{lk:Bool}{fn:Func}(h1:lk=P.looks [])(h2:(fn.params.toList.all λt=> !P.wantsStandIn t)=true):lk=P.looks []/\∀(j:Nat) t,fn.params[j]? =some t->P.wantsStandIn t=false:=by refine⟨h1,λj t ht=>?_⟩;have:=xt.1 h2 t (by rw[Array.mem_toList_iff];exact Array.mem_of_getElem? ht);simpa using this
end
end Go.Proofs.YtjiljcblmgeioaaGreatDoor
