/- A part of the proof that FnExactExecuteCommand hands back true, at every argument of the row. -/
import Derived.Test.YteiekijgoifhoaaGreatDoorP88
import Derived.Lib.ItoaNum
import Derived.Lib.AtoiAllCases
namespace Go.Proofs.YteiekijgoifhoaaGreatDoor
set_option linter.all false
section
variable {o:List Int}{ds:List (List Int)}{p tm w:List Int}{now:Int}
theorem CZ(hf:Fld o ds)(h:GI o ds p tm w now)(e:GE o ds p tm w now){pr wi:List Int}{st:List Bool}(s:SG ds (gP ds w p now) (gW o ds (gT o ds (gP ds w p now) tm now) w now) pr st wi):
  ∃y,WG o ds now pr st wi (gT o ds (gP ds w p now) tm now)=some y/\NXT now (λu=>(∃i,i<ds.length/\(gW o ds (gT o ds (gP ds w p now) tm now) w now).getD i 0<0/\∃a,a<o.length/\u=dB ds i a)\/gC2 o ds (gP ds w p now) (gT o ds (gP ds w p now) tm now) (gW o ds (gT o ds (gP ds w p now) tm now) w now) now u) y:=by
 have hp:∀i,i<ds.length->0<=(gP ds w p now).getD i 0/\(gP ds w p now).getD i 0<=498960:=λi hi=>by have:=h.price hi;have:=h.n1;omega
 have ah:=h.n0;have av:=h.n1;have ae:=λa=>e.step hf h (a:=a);have ab:=λa (ha:a<o.length)=>h.tight (a:=a) ha;have aw:(gT o ds (gP ds w p now) tm now).length=o.length:=by simp[gT]
 have ak:(gP ds w p now).length=ds.length:=by simp[gP]
 have ad:Ox now pr st wi (gT o ds (gP ds w p now) tm now)=some (gP ds w p now):=by
  rw[V6 hf s];refine congrArg some (lX (by simp[gP]) λi hi=>?_);have af:i<ds.length:=by omega
  rw[fR (w:=gW o ds (gT o ds (gP ds w p now) tm now) w now) af];split
  ·next hw=>exact((h.price af).2.2.2 (h.on af hw).1).symm
  ·rfl
 generalize gP ds w p now=P at*;generalize hT:gT o ds P tm now=T at*;generalize gW o ds T w now=W at*;obtain⟨x,k1,k2⟩:=Rg hf ah s T;obtain⟨r,k3,k4,_⟩:=aJ (f:=λv=>(Xo (o,ds,now,pr,st,wi,T,P) v).ev) (n:=o.length) (λa (c:Int)=>(c,(a:Int)))
  (λa c=>NXT now (λu=>(∃i,i<ds.length/\W.getD i 0<0/\∃a,a<o.length/\u=dB ds i a)\/∃b,b<a/\T.getD b 0<0/\0<aQ ds W now b/\u=now+(kM o b-iQ ds P b+(aQ ds W now b:Int) -1) / (aQ ds W now b:Int)) c/\ -1<=c/\c<=1000000)
  (λc=>NXT now (λu=>(∃i,i<ds.length/\W.getD i 0<0/\∃a,a<o.length/\u=dB ds i a)\/gC2 o ds P T W now u) c/\ -1<=c/\c<=1000000) (s0:=x)
  ⟨k2.eqv λu=>⟨.inl,λh=>h.elim id λ⟨b,hb,_⟩=>absurd hb (by omega)⟩,by
   rcases k2 with⟨h1,_⟩|⟨⟨i,hi,_,a,ha,h1⟩,_,_⟩
   ·omega
   ·have:=vC hf hi ha;omega⟩
  (λa c ha ⟨hc,ai,aj⟩=>by
   left;have hlen:=hf.len;have ay:=hf.clients;have aa:a<T.length:=by omega
   have e1:=On (now:=now) hf s T ha;have e2:=E9 hf ak hp ha;have al:=hf.cost a ha;have az:=G8 hf ha;obtain⟨g1,g2,_⟩:=kU hf (λi hi=>(hp i hi).2) ha ds.length (xp _);have g1:0<=iQ ds P a:=g1;have g2:iQ ds P a<=498960*(ds.length:Int):=g2;have e5:2520*o.getD a 0=kM o a:=EI _ _;have ba:aQ ds W now a<=ds.length:=eZ _ _;have hs:=ae a
   -- what stays as it bb
   have stay:¬(T.getD a 0<0/\0<aQ ds W now a)->NXT now (λu=>(∃i,i<ds.length/\W.getD i 0<0/\∃a,a<o.length/\u=dB ds i a)\/∃b,b<a+1/\T.getD b 0<0/\0<aQ ds W now b/\u=now+(kM o b-iQ ds P b+(aQ ds W now b:Int) -1) / (aQ ds W now b:Int)) c:=λao=>
    hc.eqv λu=>by
     constructor
     ·rintro(h|⟨b,hb,h⟩);·exact .inl h
      ·exact .inr ⟨b,by omega,h⟩
     ·rintro(h|⟨b,hb,h⟩);·exact .inl h
      ·by_cases e:b=a;·subst e;exact absurd ⟨h.1,h.2.1⟩ ao
       ·exact .inr ⟨b,by omega,h⟩
   by_cases c1:T.getD a 0<0
   ·by_cases c2:0<aQ ds W now a
    ·obtain⟨d1,d2,d3⟩:=rF c2 (hs c2);have ar:=(ab a ha c1).2;obtain⟨d4,d5,_⟩:=xC (x:=kM o a-iQ ds P a) (by omega) c2;have h6:¬(aQ ds W now a:Int)=0:=by omega
     have h7:(0:Int)<(aQ ds W now a:Int):=by omega
     have e6:Int.tdiv (kM o a-iQ ds P a) (aQ ds W now a:Int)=(kM o a-iQ ds P a+(aQ ds W now a:Int) -1) / (aQ ds W now a:Int):=by rw[xet (by omega),d3]
     refine⟨JI now c (now+(kM o a-iQ ds P a+(aQ ds W now a:Int) -1) / (aQ ds W now a:Int)),?_,(hc.add ah _).eqv λu=>?_,?_⟩
     ·generalize(kM o a-iQ ds P a+(aQ ds W now a:Int) -1) / (aQ ds W now a:Int)=q at*;generalize bc:(aQ ds W now a:Int)=g at*;unfold JI;by_cases c3:c<0;·rw[qi ⟨by omega,.inl c3⟩];simp(disch:=omega)only[EV,Xo,ha,aa,e1,e2,c1,h7,c3,h6,e5,e6];rfl
      ·have hg:g<=7:=by omega
       have b1:g*(c-now)<=7*1000000:=by
        by_cases hx:0<=c-now;·exact Int.le_trans (xcv hg hx) (by omega)
        ·have:=YZ (show c-now<=0 by omega) (show 0<=g by omega);omega
       have b2: -(7*1000000)<=g*(c-now):=by have h1:=YZ (show-498960<=c-now by omega) (show 0<=g by omega);omega
       by_cases c4:now+q<c
       ·have c5:kM o a-iQ ds P a<g*(c-now):=by rw[<-d2];exact Int.mul_lt_mul_of_pos_left (by omega) h7
        rw[qi ⟨by omega,.inr c4⟩];simp(disch:=omega)only[EV,Xo,ha,aa,e1,e2,c1,h7,c3,h6,e5,e6,c5];rfl
       ·have c5:¬kM o a-iQ ds P a<g*(c-now):=by rw[<-d2];have:=YZ (show c-now<=q by omega) (show 0<=g by omega);omega
        rw[qh λz=>by rcases z.2 with z|z;exact c3 z;exact c4 z];simp(disch:=omega)only[EV,Xo,ha,aa,e1,e2,c1,h7,c3,h6,e5,e6,c5];rfl
     ·constructor
      ·rintro((h|⟨b,hb,h⟩)|h);·exact .inl h
       ·exact .inr ⟨b,by omega,h⟩
       ·exact .inr ⟨a,by omega,c1,c2,h⟩
      ·rintro(h|⟨b,hb,h⟩);·exact .inl (.inl h)
       ·by_cases e:b=a;·subst e;exact .inr h.2.2
        ·exact .inl (.inr ⟨b,by omega,h⟩)
     ·unfold JI;split<;>omega
    ·refine⟨c,?_,stay λh=>c2 h.2,ai,aj⟩;have h7:¬(0:Int)<(aQ ds W now a:Int):=by omega
     simp(disch:=omega)only[EV,Xo,ha,aa,e1,e2,c1,h7];rfl
   ·refine⟨c,?_,stay λh=>c1 h.1,ai,aj⟩;simp(disch:=omega)only[EV,Xo,ha,aa,e1,e2,c1];rfl)
  (λc ⟨hc,hb⟩=>⟨c,by simp(disch:=omega)only[EV,Xo,xj],hc.eqv λu=>⟨λh=>h.imp id λ⟨b,hb,q⟩=>⟨b,hb,q⟩,λh=>h.imp id λ⟨b,hb,q⟩=>⟨b,hb,q⟩⟩,hb⟩)
 have au:aHS (o,ds,now,pr,st,wi,T,P) (x,(0:Int))=some r:=k3;refine⟨r,?_,k4⟩;unfold WG IZ;rw[qn,k1,xc,qn,ad,xc,qn,au,xc,qq]
theorem U4(hf:Fld o ds)(k:(List (Int))×(List (List (Int)))×(Int)×(List (Int))×(List (Int))×(List (Int)))(e1:(DT ((ds.length:Int),o,ds) (now,p,tm,w)).ev=some (.inr (eS o ds (now,p,tm,w))))(e2:∀i,i<ds.length->¬(eS o ds (now,p,tm,w)).2.2.getD i 0<0):
  ∃g,wyv ((ds.length:Int),o,ds) (now,p,tm,w)=some g/\∀{pr wi:List Int} {st:List Bool},SG ds (gP ds w p now) (gW o ds (gT o ds (gP ds w p now) tm now) w now) pr st wi->
   ∃nw ab ad,Zy k (now,pr,st,wi,gT o ds (gP ds w p now) tm now)=some (nw,g.1,ab,ad,g.2.1):=by
 refine⟨eS o ds (now,p,tm,w),iter_some.2 ⟨1,by simp only[fW,e1]⟩,λ{pr wi st} s=>?_⟩;have aa:((List.range ds.length).all λi=> !decide ((gW o ds (gT o ds (gP ds w p now) tm now) w now).getD i 0<0))=true:=xy.2 λi hi=>by have:¬(gW o ds (gT o ds (gP ds w p now) tm now) w now).getD i 0<0:=e2 i (xau.1 hi);rw[qd this];rfl
 have em:=z6 (now:=now) hf s (gT o ds (gP ds w p now) tm now);rw[aa,xq]at em;have ae:pr=gP ds w p now:=lX (by rw[s.pl];simp[gP]) λi hi=>s.pr i (by simpa[gP]using hi) (e2 i (by simpa[gP]using hi));refine⟨now,st,wi,iter_some.2 ⟨1,?_⟩⟩;have es:(wsw k (now,pr,st,wi,gT o ds (gP ds w p now) tm now)).ev=some (.inr (now,pr,st,wi,gT o ds (gP ds w p now) tm now)):=by unfold wsw;rw[qn,em,xc,qo,qb,qq]
 simp only[fW,es];rw[ae];rfl
theorem Pk(hf:Fld o ds)(k:(List (Int))×(List (List (Int)))×(Int)×(List (Int))×(List (Int))×(List (Int)))(ai:k.1=o)(aj:k.2.1=ds):∀(n:Nat) {p tm w:List Int} {now:Int},gM o ds p tm w now<=n->GI o ds p tm w now->GE o ds p tm w now->
  ∃g,wyv ((ds.length:Int),o,ds) (now,p,tm,w)=some g/\∀{pr wi:List Int} {st:List Bool},SG ds (gP ds w p now) (gW o ds (gT o ds (gP ds w p now) tm now) w now) pr st wi->
   ∃nw aa ab,Zy k (now,pr,st,wi,gT o ds (gP ds w p now) tm now)=some (nw,g.1,aa,ab,g.2.1):=by
 intro n;induction n with
 |zero=>
  intro p tm w now hn h e;rcases rJ hf h with⟨t,e1,e2,_,_⟩|⟨e1,e2⟩
  ·have:=(h.next hf e2).2;omega
  ·exact U4 hf k e1 e2
 |succ n ih=>
  intro p tm w now hn h e;rcases rJ hf h with⟨t,e1,e2,e3,i0,ak,al⟩|⟨e1,e2⟩
  ·have ad:=h.next hf e2;have ae:=e.next hf h e2 e3;obtain⟨g,r1,r2⟩:=ih (by have:=ad.2;omega) ad.1 ae;refine⟨g,?_,λ{pr wi st} s=>?_⟩;·unfold wyv;rw[aL,e1];exact r1
   ·have af:((List.range ds.length).all λi=> !decide ((gW o ds (gT o ds (gP ds w p now) tm now) w now).getD i 0<0))=false:=by rw[xes];intro hq;have:=xy.1 hq i0 (xau.2 ak);have ao:(gW o ds (gT o ds (gP ds w p now) tm now) w now).getD i0 0<0:=al;rw[qc ao]at this;cases this
    have em:=z6 (now:=now) hf s (gT o ds (gP ds w p now) tm now);rw[af,mM]at em;obtain⟨y,s1,s2⟩:=CZ hf h e s;have hy:y=t:=by
     have hl:=(h.later hf e2).1;have ah:∀u,gC o ds (gP ds w p now) (gT o ds (gP ds w p now) tm now) (gW o ds (gT o ds (gP ds w p now) tm now) w now) now u->(∃i,i<ds.length/\(gW o ds (gT o ds (gP ds w p now) tm now) w now).getD i 0<0/\∃a,a<o.length/\u=dB ds i a)\/gC2 o ds (gP ds w p now) (gT o ds (gP ds w p now) tm now) (gW o ds (gT o ds (gP ds w p now) tm now) w now) now u:=by
      rintro u (⟨i,hi,a,ha,h1,_,h2⟩|h1);·exact .inl ⟨i,hi,h1,a,ha,h2⟩
      ·exact .inr h1
     rcases s2 with⟨_,s2⟩|⟨s2,s3,s4⟩
     ·exact absurd hl (s2 t (ah t e2))
     ·have ar:gC o ds (gP ds w p now) (gT o ds (gP ds w p now) tm now) (gW o ds (gT o ds (gP ds w p now) tm now) w now) now y:=by
       rcases s2 with⟨i,hi,h1,a,ha,h2⟩|h1;·exact .inl ⟨i,hi,a,ha,h1,by omega,h2⟩
       ·exact .inr h1
      have:=e3 y ar;have:=s4 t (ah t e2) hl;omega
    subst hy;obtain⟨au,aa,ab,q1,q2⟩:=D2 hf ad.1 ae s;obtain⟨nw,av,aw,q3⟩:=r2 q2;refine⟨nw,av,aw,?_⟩;have es:(wsw k (now,pr,st,wi,gT o ds (gP ds w p now) tm now)).ev=some (.inl (y,au,aa,ab,gT o ds (gP ds (gW o ds (gT o ds (gP ds w p now) tm now) w now) (gP ds w p now) y) (gT o ds (gP ds w p now) tm now) y)):=by unfold wsw;rw[qn,em,xc,qo,qa,qn,ai,aj,s1,xc,qn,q1,xc,qq]
    unfold Zy;rw[aL,es];exact q3
  ·exact U4 hf k e1 e2
theorem Ch(hf:Fld o ds){g:List Int×(List Int×List Int)}(hg:V7 o ds=some g):∃nw st wi,GG o ds=some (nw,g.1,st,wi,g.2.1):=by
 have hlen:=hf.len;have ak:=hf.clients;have rep:∀(n:Nat) (x:Int) (i:Nat),i<n->(List.replicate n x).getD i 0=x:=λn x i hi=>by rw[xe,PX,qi hi];rfl
 have aa:=GI.begin hf;have ab:=GE.begin hf;obtain⟨r,k1,k2⟩:=Pk hf (o,ds,(0:Int),([]:List Int),([]:List Int),([]:List Int)) rfl rfl _ (xp _) aa ab
 -- the same ae
 have er:r=g:=by
  have rp:∀n:Nat,n<=1000->In [(-1:Int)] (n:Int)=some (List.replicate n (-1)):=λn hn=>by unfold In;exact wH (by omega) (-1)
  have r1:=rp o.length (by omega);have r2:=rp ds.length (by omega);have e1:(0:Int)<=(ds.length:Int):=by omega
  have e2:((8:Nat):Int)*(ds.length:Int)<=281474976710656:=by omega
  have:V7 o ds=some r:=by unfold V7 CN;simp(disch:=omega)only[EV,e1,e2,w7,r1,r2,k1]
  rw[hg]at this;exact(tM this).symm
 subst er;have af:SG ds (List.replicate ds.length 0) (List.replicate ds.length (-1)) (List.replicate ds.length 0) (List.replicate ds.length false) (List.replicate ds.length 0):=
  ⟨by simp,by simp,by simp,λi hi=>by rw[rep _ _ i hi,xe,PX,qi hi];rfl,λi hi h=>absurd (show(List.replicate ds.length (-1:Int)).getD i 0<0 from by rw[rep _ _ i hi];omega) h⟩
 obtain⟨pr,st,wi,s1,s2⟩:=D2 hf aa ab af;obtain⟨nw,ah,ai,s3⟩:=k2 s2;have aj:aAl (o,ds,(0:Int),(0:Int),([]:List (Int)),([]:List (Int)),([]:List (Int)),List.replicate ds.length (0:Int),List.replicate ds.length false,List.replicate ds.length (0:Int)) ((0:Int),([]:List Int))=some (List.replicate o.length (-1)):=by
  have:=iG (f:=λv=>(wwr (o,ds,(0:Int),(0:Int),([]:List (Int)),([]:List (Int)),([]:List (Int)),List.replicate ds.length (0:Int),List.replicate ds.length false,List.replicate ds.length (0:Int)) v).ev) (n:=o.length) (mk:=λk (l:List Int)=>((k:Int),l)) (λ_=>(-1:Int)) (λl=>l)
   (λi l hi hl=>by
    have ad:∀x:Int,List.length [x]=1:=λ_=>rfl;have hb:(l.length+1)*8<=140737488355328:=by omega
    simp(disch:=omega)only[EV,wwr,hi,ad,hb];rfl)
   (λl _=>by simp(disch:=omega)only[EV,wwr,xj])
  rw[show(List.range o.length).map (λ_=>(-1:Int))=List.replicate o.length (-1)from by simp[List.map_const']]at this;exact this
 refine⟨nw,ah,ai,?_⟩;have e1:(0:Int)<=((ds.length:Nat):Int):=by omega
 have e2:((8:Nat):Int)*((ds.length:Nat):Int)<=281474976710656:=by omega
 have e3:((1:Nat):Int)*((ds.length:Nat):Int)<=281474976710656:=by omega
 unfold GG TU;rw[qp,qc e1,qc (w7 _),qc e2,Wa,Wa,qa,qp,qc e3,Wa,qa,qp,qa,mZ,qn,aj,xc,qn,s1,xc,qn,s3,xc,qq]
theorem CJ{K:Int->Int}(x:Int)(l:List Int):l.take ((l.findIdx? λy=> !decide (K y<=K x)).elim l.length id)++x::l.drop ((l.findIdx? λy=> !decide (K y<=K x)).elim l.length id)=gH K x l:=D4 x l
theorem y8(t:List Int):∀n:Nat,(List.range n).foldl (λacc a=>if 0<=t.getD a 0 then gH (λx=>t.getD x.toNat 0) (a:Int) acc else acc) []=dL (λx=>t.getD x.toNat 0) ((List.range n).foldl (λacc a=>if 0<=t.getD a 0 then acc++ [(a:Int)]else acc) [])
 |0=>rfl
 |n+1=>by
  rw[aR,aR,y8 t n];split;·rw[yW]
  ·rfl
theorem Qh{T acc:List Int}{a:Nat}(ha:a<T.length)(aa:∀x∈acc,0<=x/\x<(a:Int))(hl:acc.length<=1000)(nw:Int)(pr wi:List Int)(st:List Bool):
  FR (acc,(a:Int),nw,pr,st,wi,T) (0:Int)=some (((acc.findIdx? λy=> !decide (T.getD y.toNat 0<=T.getD a 0)).elim acc.length id:Nat):Int):=by
 have key:=fM (f:=λv=>(ZK (acc,(a:Int),nw,pr,st,wi,T) v).ev) (l:=acc) 0 (λy=> !decide (T.getD y.toNat 0<=T.getD a 0)) (mk:=λi=>(i:Int)) (yes:=λi=>(i:Int)) (no:=((acc.length:Nat):Int))
  (λi hi=>by
   have hm:=aa _ (aE (d:=0) hi);have e1:=zX (T:=T) (a:=(a:Int)) (b:=acc.getD i 0) (by omega) (by omega) (by omega) nw pr st wi;rw[mZ]at e1;by_cases c:T.getD (acc.getD i 0).toNat 0<=T.getD a 0;·rw[qd (by omega)]at e1;rw[qc c,xq,qb];simp(disch:=omega)only[EV,ZK,hi,e1];rfl
   ·rw[qc (by omega)]at e1;rw[qd c,mM,qa];simp(disch:=omega)only[EV,ZK,hi,e1])
  (by simp(disch:=omega)only[EV,ZK,xj])
 have k1:FR (acc,(a:Int),nw,pr,st,wi,T) (0:Int)=some ((acc.findIdx? λy=> !decide (T.getD y.toNat 0<=T.getD a 0)).elim ((acc.length:Nat):Int) λi=>(i:Int)):=key;rw[k1];cases acc.findIdx? λy=> !decide (T.getD y.toNat 0<=T.getD a 0)<;>rfl
theorem Qb{T:List Int}(ht:T.length<=7)(nw:Int)(pr wi:List Int)(st:List Bool):TB nw pr st wi T=some (dL (λx=>T.getD x.toNat 0) (fV T)):=by
 have key:=(aK (f:=λv=>(ZU (nw,pr,st,wi,T) v).ev) (n:=T.length) (mk:=λi (acc:List Int)=>(acc,(i:Int))) (I:=λi acc=>(∀x∈acc,0<=x/\x<(i:Int))/\acc.length<=i) (g:=λacc a=>if 0<=T.getD a 0 then gH (λx=>T.getD x.toNat 0) (a:Int) acc else acc) (fin:=λacc=>acc) (s0:=[])
  ⟨λx h=>(by cases h),xp _⟩
  (λa acc ha ⟨h1,h2⟩=>by
   by_cases c:0<=T.getD a 0
   ·have e1:=Qh ha h1 (by omega) nw pr wi st;have e2:=CJ (K:=λx=>T.getD x.toNat 0) (a:Int) acc;simp only[mZ]at e2;have hk:((acc.findIdx? λy=> !decide (T.getD y.toNat 0<=T.getD a 0)).elim acc.length id:Nat)<=acc.length:=by
     cases hf:acc.findIdx? λy=> !decide (T.getD y.toNat 0<=T.getD a 0)with
     |none=>exact xp _
     |some j=>obtain⟨hj,_⟩:=xdd.1 hf;exact Nat.le_of_lt hj
    generalize((acc.findIdx? λy=> !decide (T.getD y.toNat 0<=T.getD a 0)).elim acc.length id:Nat)=k at e1 e2 hk;have hp:=oR (K:=λx=>T.getD x.toNat 0) (a:Int) acc;have ab:=hp.length_eq;rw[xl]at ab;simp only[qi c];refine⟨?_,λx hx=>?_,by rw[ab];omega⟩
    ·have aa:∀x:Int,List.length [x]=1:=λ_=>rfl;have ad:(List.take k acc).length=k:=by rw[kN];omega
     have ae:Nh (List.take k acc)=some (List.take k acc):=jC (by omega);have g1:(0:Int)<=(k:Int):=by omega
     have g2:(k:Int)<=((acc.length:Nat):Int):=by omega
     have g3:(k+1)*8<=140737488355328:=by omega
     have af:(List.drop k (List.take acc.length acc)).length=acc.length-k:=by rw[pM,vA]
     have g4:((List.take k acc++ [(a:Int)]).length+(acc.length-k))*8<=140737488355328:=by rw[xm,aa,ad];omega
     have ah:¬T.getD a 0<0:=by omega
     unfold ZU;dsimp only;rw[qo,qc (show(a:Int)<((T.length:Nat):Int) by omega),qa,qp,show aB (a:Int) T.length=true from gF ha,qa,mZ,qo,qd ah,qb,qn,e1,xc,qp,qc g1,qc g2,Wa,qa,mZ,AP,qn,ae,xc,qp,aa,ad,qc g3,qa,qp,qa,qp,af,qc g4,qa,qq,pM,<-e2,aV (by omega) (by omega)];simp
    ·rcases xaj.1 (hp.mem_iff.1 hx)with rfl|hx;·omega
     ·have:=h1 x hx;omega
   ·simp only[qh c];refine⟨?_,λx hx=>by have:=h1 x hx;omega,by omega⟩;have c':T.getD a 0<0:=by omega
    simp(disch:=omega)only[EV,ZU,ha,c'];rfl)
  (λacc _=>by simp(disch:=omega)only[EV,ZU,xj])).1
 have k1:aEY (nw,pr,st,wi,T) (([]:List Int),(0:Int))=some ((List.range T.length).foldl (λacc a=>if 0<=T.getD a 0 then gH (λx=>T.getD x.toNat 0) (a:Int) acc else acc) []):=key;unfold TB WJ fV;rw[qn,k1,xc,qq,y8]
theorem H4(hf:Fld o ds){pr T:List Int}(hp:pr.length=ds.length)(ht:T.length=o.length){a b:Nat}(ha:a<o.length)(hb:b<o.length)(aa:0<=T.getD a 0)(ab:0<=T.getD b 0)(nw:Int)(st:List Bool)(wi:List Int):HJ o ds nw pr st wi T (a:Int) (b:Int)=some (iI ds pr a b):=by
 have af:=hf.clients;have hlen:=hf.len;have key:=aX (f:=λv=>(LF ((a:Int),(b:Int),o,ds,nw,pr,st,wi,T) v).ev) (n:=ds.length) (λi=>(i:Int)) (λi=> !(decide (dB ds i a<pr.getD i 0)&&decide (dB ds i b<pr.getD i 0))) (.inl ():Unit⊕Bool) (.inr true)
  (λi hi _=>by
   have hr:=hf.rowLen i hi;have h1:=hf.at2 hi ha;have h2:=hf.at2 hi hb;have ad:a<T.length:=by omega
   have ae:b<T.length:=by omega
   have e1:(ds.getD i []).getD a 0=at2 ds i a:=rfl;have e2:(ds.getD i []).getD b 0=at2 ds i b:=rfl;have e3:2520*at2 ds i a=dB ds i a:=EI _ _;have e4:2520*at2 ds i b=dB ds i b:=EI _ _;by_cases c1:dB ds i a<pr.getD i 0
   ·by_cases c2:dB ds i b<pr.getD i 0;·simp(disch:=omega)only[EV,LF,hi,hp,hr,ha,hb,ad,ae,e1,e2,e3,e4,c1,c2,aa,ab]
    ·simp(disch:=omega)only[EV,LF,hi,hp,hr,ha,hb,e1,e2,e3,e4,c1,c2];rfl
   ·simp(disch:=omega)only[EV,LF,hi,hp,hr,ha,e1,e3,c1];rfl)
  (by simp(disch:=omega)only[EV,LF,xj])
 have k1:aCB ((a:Int),(b:Int),o,ds,nw,pr,st,wi,T) (0:Int)=some (bif (List.range ds.length).all λi=> !(decide (dB ds i a<pr.getD i 0)&&decide (dB ds i b<pr.getD i 0))then .inl ()else .inr true):=key;unfold HJ GD iI;rw[qn,k1,xc];cases(List.range ds.length).all λi=> !(decide (dB ds i a<pr.getD i 0)&&decide (dB ds i b<pr.getD i 0))<;>rfl
theorem Rs{l m:List Int}(h:∀x,x∈l↔x∈m)(q:Int->Bool):l.any q=m.any q:=by rw[Oa,xbl,xbl];exact⟨λ⟨x,h1,h2⟩=>⟨x,(h x).1 h1,h2⟩,λ⟨x,h1,h2⟩=>⟨x,(h x).2 h1,h2⟩⟩
theorem B2(t:List Int):∀n:Nat,∀x∈(List.range n).foldl (λacc a=>if 0<=t.getD a 0 then acc++ [(a:Int)]else acc) [],0<=t.getD x.toNat 0
 |0=>λx h=>(by cases h)
 |n+1=>by
  have ih:=B2 t n;rw[aR];split
  ·next h=>
   intro x hx;rcases xaa.1 hx with hx|hx;·exact ih x hx
   ·rw[xx.1 hx];exact h
  ·exact ih
theorem Qr(hf:Fld o ds){pr T:List Int}(hp:pr.length=ds.length)(ht:T.length=o.length)(nw:Int)(st:List Bool)(wi:List Int){l:List Int}(hl:∀x∈l,(0<=x/\x<(o.length:Int))/\0<=T.getD x.toNat 0)(al:l.length<=7)(aj:l.Nodup):
  aFC (l,o,ds,nw,pr,st,wi,T) (([]:List Int),(0:Int))=some (dK (iX ds pr l)):=by
 have hlen:=hf.len;have key:=aJ (f:=λv=>(ZF (l,o,ds,nw,pr,st,wi,T) v).ev) (n:=l.length) (λi (acc:List Int)=>(acc,(i:Int))) (λi acc=>acc=dK (iX ds pr (l.take i))) (λr=>r=dK (iX ds pr l)) (s0:=[]) (by simp[iX,dK])
  (λi acc hi aa=>by
   left;have hx:=hl _ (aE (d:=0) hi);have af:l.take (i+1)=l.take i++ [l.getD i 0]:=by rw[Mj hi,xe,xh hi];rfl
   have ad:=tS ds pr (l.take i);obtain⟨_,s2,s3⟩:=uP (iX ds pr (l.take i));have ao:acc.length<=i:=by rw[aa,s2];have:=ad.length_le;rw[kN]at this;omega
   have ah:∀y∈acc,(0<=y/\y<(o.length:Int))/\0<=T.getD y.toNat 0:=λy hy=>hl y (Je (ad.subset ((s3 y).1 (by rw[aa]at hy;exact hy))));have ai:l.getD i 0∉acc:=λhy=>by have h1:l.getD i 0∈l.take i:=ad.subset ((s3 _).1 (by rw[aa]at hy;exact hy));have h2:(l.take (i+1)).Nodup:=aj.sublist (List.take_sublist _ _);rw[af,List.nodup_append]at h2;exact h2.2.2 _ h1 _ (xx.2 rfl) rfl
   -- the inner rounds
   have e1:aHy (l,acc,(i:Int),o,ds,nw,pr,st,wi,T) (true,(0:Int))=some (!acc.any λb=>iI ds pr (l.getD i 0).toNat b.toNat):=by
    have k:=aJ (f:=λv=>(ZJ (l,acc,(i:Int),o,ds,nw,pr,st,wi,T) v).ev) (n:=acc.length) (λj (c:Bool)=>(c,(j:Int))) (λj c=>c= !(acc.take j).any λb=>iI ds pr (l.getD i 0).toNat b.toNat) (λr=>r= !acc.any λb=>iI ds pr (l.getD i 0).toNat b.toNat) (s0:=true) rfl
     (λj c hj hc=>by
      left;have hb:=ah _ (aE (d:=0) hj);have ak:acc.take (j+1)=acc.take j++ [acc.getD j 0]:=by rw[Mj hj,xe,xh hj];rfl
      have ec:=H4 hf hp ht (a:=(l.getD i 0).toNat) (b:=(acc.getD j 0).toNat) (by omega) (by omega) hx.2 hb.2 nw st wi;rw[xeg hx.1.1,xeg hb.1.1]at ec;refine⟨c&& !iI ds pr (l.getD i 0).toNat (acc.getD j 0).toNat,?_,?_⟩
      ·cases c with
       |true=>simp(disch:=omega)only[EV,ZJ,hj,hi,ec];rfl
       |false=>simp(disch:=omega)only[EV,ZJ,hj];rfl
      ·rw[ak,hc];simp[xhf])
     (λc hc=>⟨c,by simp(disch:=omega)only[EV,ZJ,xj],by rw[hc,pM]⟩)
    obtain⟨r,k1,k2⟩:=k;rw[<-k2];exact k1
   have ab:(acc.any λb=>iI ds pr (l.getD i 0).toNat b.toNat)=(iX ds pr (l.take i)).any λb=>iI ds pr (l.getD i 0).toNat b.toNat:=Rs (λx=>by rw[aa];exact s3 x) _;have ae:iX ds pr (l.take (i+1))=if(iX ds pr (l.take i)).any (λb=>iI ds pr (l.getD i 0).toNat b.toNat)then iX ds pr (l.take i)else iX ds pr (l.take i)++ [l.getD i 0]:=by rw[af];unfold iX;rw[BE];rfl
   cases hq:acc.any λb=>iI ds pr (l.getD i 0).toNat b.toNat with
   |true=>
    rw[hq]at e1 ab;rw[xq]at e1;refine⟨acc,?_,?_⟩;·simp(disch:=omega)only[EV,ZF,hi,e1];rfl
    ·rw[ae,<-ab,qi rfl];exact aa
   |false=>
    rw[hq]at e1 ab;rw[mM]at e1;have e2:=oQ (l:=acc) (x:=l.getD i 0) (by omega) ai;refine⟨ins (l.getD i 0) acc,?_,?_⟩;·simp(disch:=omega)only[EV,ZF,hi,e1,e2];rfl
    ·rw[ae,<-ab,qh (by simp),a6,<-aa])
  (λacc aa=>⟨acc,by simp(disch:=omega)only[EV,ZF,xj],by rw[aa,pM]⟩)
 obtain⟨r,k1,k2⟩:=key;rw[<-k2];exact k1
theorem wU(hf:Fld o ds)(hv:Mt o ds=some true){g:List Int×(List Int×List Int)}(aa:GR o ds g)(hg:V7 o ds=some g)(h0:0<ds.length):Js o ds=some (pD ds g,true):=by obtain⟨nw,st,wi,e1⟩:=Ch hf hg;have hlen:=hf.len;have ae:=aa.tl;have e2:=Qb (T:=g.2.1) (by omega) nw g.1 wi st;obtain⟨r1,r2,r3⟩:=tE g.2.1 g.2.1.length;have hs:=(pN (K:=λx=>g.2.1.getD x.toNat 0) (fV g.2.1)).2;have ad:(dL (λx=>g.2.1.getD x.toNat 0) (fV g.2.1)).Nodup:=hs.nodup_iff.2 (r2.imp λh e=>by omega);have ab:=B2 g.2.1 g.2.1.length;have e3:=Qr hf aa.pl aa.tl nw st wi (l:=dL (λx=>g.2.1.getD x.toNat 0) (fV g.2.1)) (λx hx=>by have hm:x∈fV g.2.1:=hs.mem_iff.1 hx;have:=r1 x hm;exact⟨by omega,ab x hm⟩) (by rw[hs.length_eq];have af:(fV g.2.1).length<=g.2.1.length:=r3;omega) ad;have hd:((((ds.length:Nat):Int))==0)=false:=beq_eq_false_iff_ne.2 (by omega);unfold Js Yx pD;rw[qn,hv,xc,qo,xq,qb,qo,hd,qb,qn,e1,xc,qn,e2,xc,qn,e3,xc,qq]
end
def tX(ds:List (List Int))(n:Nat)(k:Int):List Int:=aS (eO ds) (sD n k)
theorem sR{n:Nat}(h1:1<=n)(h7:n<=7){k:Int}{s:List Int}(hs:s∈sD n k):Places s n/\(s.length:Int)=k/\0<s.length/\aF s:=by obtain⟨a,b⟩:=ofSz_mem.1 hs;obtain⟨c,d,e⟩:=cP h7 (nS h1 h7) a;exact⟨c,b,d,e⟩
theorem Ee{ds:List (List Int)}{n:Nat}(h7:n<=7){k:Int}(hk:1<=k/\k<=(n:Int)):tX ds n k∈sD n k:=
 (dH (xI h7 hk.1 hk.2)).1
theorem Ih{o:List Int}{ds:List (List Int)}(hf:Fld o ds){k:Int}(hk:1<=k/\k<=(o.length:Int)):SN o ds k=some (tX ds o.length k):=by
 have h7:=hf.len;have h1:=hf.pos;have hS:=nS h1 h7;obtain⟨x,e1,e2,e3⟩:=hS.im;have ab:=jG hS h7;have ak:x.1.length=(aM o.length).length:=by rw[<-e3,gY]
 obtain⟨y,k1,k2,k3⟩:=qL (x:=x) e2 (by omega) (p:=λad=>Option.bind (BW ad.1 k) λae=>some ae) (q:=λs=> !decide ((s.length:Int)=k)) λs hs=>by rw[e3]at hs;obtain⟨p1,p2,p3⟩:=cP h7 hS hs;unfold aF at p3;show Option.bind (BW s k) _=_;unfold BW WV;simp(disch:=omega)only[EV];by_cases h:(s.length:Int)=k<;>simp[h]
 have aa:bG y.1 y.2=sD o.length k:=by rw[k3,e3];unfold sD;congr 1;funext s;simp
 have al:y.1.length=(sD o.length k).length:=by rw[<-aa,gY]
 have ai:=xay.2 (xI h7 (k:=k) hk.1 hk.2);have aj:(sD o.length k).length<=(aM o.length).length:=xdy _ _;have hle:=vG (x:=y) k2 (by omega) (by omega) (p:=λaf=>Option.bind (Cz o ds af.1) λah=>some ah) (g:=eO ds) λs hs=>by rw[aa]at hs;obtain⟨p1,_,p2,_⟩:=sR h1 h7 hs;show Option.bind (Cz o ds s) _=_;rw[qZ hf p1 p2];rfl
 rw[aa]at hle;unfold SN PD tX;simp(disch:=omega)only[EV,e1,k1,hle]
theorem Ep{n:Nat}(h1:1<=n)(h7:n<=7){k:Int}(hk:1<=k/\k<=(n:Int))(g:List Int->Int):Ah (λs=>decide ((s.length:Int)=k)) g (aM n)=aS g (sD n k):=by rw[Or (aM n) λs hs e=>by have:=(cP h7 (nS h1 h7) hs).2.1;rw[e]at this;simp at this];rw[qh (show¬(aM n).filter (λs=>decide ((s.length:Int)=k))=[]from xI h7 hk.1 hk.2)];rfl
theorem Hx{o:List Int}{ds:List (List Int)}(hf:Fld o ds){k:Int}(hk:1<=k/\k<=(o.length:Int)):SD o ds k=some (tX ds o.length k):=by
 have h7:=hf.len;have aa:=hf.pos;have hS:=nS (n:=o.length) aa h7;have ad:=jG hS h7;have h0:=dM (f:=λv=>(DM (k,aM o.length,o,ds) v).ev) (aM o.length) [] (mk:=λi s=>(s,(i:Int))) (I:=λ_ s=>s=[]\/s∈sD o.length k)
  (g:=λc s=>if decide ((s.length:Int)=k)=true/\(c=[]\/eO ds s<eO ds c)then s else c) (fin:=λs=>s) (s0:=[]) (.inl rfl)
  (λi s hi hI=>by
   have ab:(aM o.length).getD i []∈aM o.length:=aE hi;obtain⟨p1,p2,_⟩:=cP h7 hS ab;have e1:=mF hf p1 p2;by_cases hv:(((aM o.length).getD i []).length:Int)=k
   ·have ae:(aM o.length).getD i []∈sD o.length k:=ofSz_mem.2 ⟨ab,hv⟩;have hq:((((aM o.length).getD i []).length:Int)==k)=true:=beq_iff_eq.2 hv;refine⟨?_,?_⟩
    ·rcases hI with rfl|hs;·have hz:(((List.length ([]:List Int):Nat):Int)==0)=true:=rfl;simp(disch:=omega)only[EV,DM,hi,hq,hz];rw[qi ⟨by simpa using hv,.inl trivial⟩];rfl
     ·obtain⟨q1,q2,q3,_⟩:=sR aa h7 hs;have hz:(((s.length:Nat):Int)==0)=false:=beq_eq_false_iff_ne.2 (by omega);have af:s≠ []:=λe=>by rw[e]at q3;simp at q3
      have e2:=mF hf q1 q3;by_cases hc:eO ds ((aM o.length).getD i [])<eO ds s;·simp(disch:=omega)only[EV,DM,hi,hq,hz,e1,e2,hc];rw[qi ⟨by simpa using hv,.inr trivial⟩];rfl
      ·simp(disch:=omega)only[EV,DM,hi,hq,hz,e1,e2,hc];rw[qh (λh=>h.2.elim af id)];rfl
    ·split;·exact .inr ae
     ·exact hI
   ·have hq:((((aM o.length).getD i []).length:Int)==k)=false:=beq_eq_false_iff_ne.2 hv;rw[qh (λh=>hv (by simpa using h.1))];exact⟨by simp(disch:=omega)only[EV,DM,hi,hq];rfl,hI⟩)
  (λs _=>by simp(disch:=omega)only[EV,DM,xj])
 have h1:aHM (k,aM o.length,o,ds) (([]:List Int),(0:Int))=some (Ah (λs=>decide ((s.length:Int)=k)) (eO ds) (aM o.length)):=h0.1;rw[Ep aa h7 hk]at h1;unfold SD JS tX;simp(disch:=omega)only[EV,hS.sp,h1]
def aZ(s:List UInt8):Prop:=(s.length:Int)<=1048576
def uB(c:UInt8):Bool:=decide (32<=c.toNat)&&(decide (c.toNat<=126)&& !(c.toNat==35))
def iR(s:List UInt8)(most:Int):Bool:=s.all uB&&decide ((s.length:Int)<=most)
def aU(s:List UInt8)(b:Nat):Bool:=s.any λc=>c.toNat==b
def bX(c r:List UInt8):Bool:= !(c==[])&&(iR c 160&&(!aU c 64&&iR r 200))
theorem j6(a b:Nat):(((a:Nat):Int)==((b:Nat):Int))=(a==b):=by rw[Oa,qg,qg];omega
theorem F2(c:UInt8):c.toNat<256:=c.toNat_lt
theorem uU(s:List UInt8)(p:UInt8->Bool):((List.range s.length).all λi=>p (s.getD i 0))=s.all p:=uJ s 0 p
theorem wI{s:List UInt8}(hs:aZ s)(m:Int):Xe s m=some (iR s m):=by
 unfold aZ at hs;have h0:aFv (s,m) 0=_:=aX (f:=λv=>(wve (s,m) v).ev) (n:=s.length) (mk:=λi=>(i:Int)) (p:=λi=>uB (s.getD i 0)) (yes:=.inl ()) (no:=.inr ()) (λi hi _=>by
  have hb:=F2 (s.getD i 0);have aa:(((s.getD i 0).toNat:Int)==35)=((s.getD i 0).toNat==35):=j6 _ 35;simp(disch:=omega)only[EV,wve,hi,fG,aa];unfold uB bY;by_cases h1:32<=(s.getD i 0).toNat<;>by_cases h2:(s.getD i 0).toNat<=126<;>cases h3:((s.getD i 0).toNat==35)<;>
   simp only[h1,h2,decide_true,decide_false,Dk,xgi,xq,mM,qa,qb,show(32:Int)<=((s.getD i 0).toNat:Int)↔32<=(s.getD i 0).toNat by omega,show((s.getD i 0).toNat:Int)<=126↔(s.getD i 0).toNat<=126 by omega]<;>rfl) (by simp(disch:=omega)only[EV,wve,xj])
 rw[uU s uB]at h0;unfold Xe SW iR;simp(disch:=omega)only[EV,h0];cases s.all uB<;>rfl
theorem yY{s:List UInt8}(hs:aZ s)(m:Int):Wv s m=some (iR s m):=by
 unfold aZ at hs;have h0:aCx (s,m,(s.length:Int)) 0=_:=aX (f:=λv=>(wxo (s,m,(s.length:Int)) v).ev) (n:=s.length) (mk:=λi=>(i:Int)) (p:=λi=>uB (s.getD i 0)) (yes:=.inl ()) (no:=.inr ()) (λi hi _=>by
  have ad:(((s.getD i 0).toNat:Int)==35)=((s.getD i 0).toNat==35):=j6 _ 35;simp(disch:=omega)only[EV,wxo,hi,ad];unfold uB;by_cases h1:32<=(s.getD i 0).toNat
  ·have aa:¬((s.getD i 0).toNat:Int)<32:=by omega
   by_cases h2:(s.getD i 0).toNat<=126
   ·have ab:¬(126:Int)<((s.getD i 0).toNat:Int):=by omega
    simp only[h1,h2,aa,ab,decide_true,if_false,Dk];cases((s.getD i 0).toNat==35)<;>rfl
   ·have ab:(126:Int)<((s.getD i 0).toNat:Int):=by omega
    simp only[h1,h2,aa,ab,decide_true,decide_false,if_false,if_true,Dk,xgi,qb]
  ·have aa:((s.getD i 0).toNat:Int)<32:=by omega
   simp only[h1,aa,decide_false,if_true,xgi,qb]) (by simp(disch:=omega)only[EV,wxo,xj])
 rw[uU s uB]at h0;unfold Wv OA iR;simp(disch:=omega)only[EV,h0];cases s.all uB<;>rfl
theorem Z9{s:List UInt8}(hs:(s.length:Int)<9223372036854775807)(b:Nat):BI s (b:Int)=some (aU s b):=by have h0:aDn (s,(b:Int)) 0=_:=aX (f:=λv=>(wvg (s,(b:Int)) v).ev) (n:=s.length) (mk:=λi=>(i:Int)) (p:=λi=> !((s.getD i 0).toNat==b)) (yes:=.inl ()) (no:=.inr ()) (λi hi _=>by simp(disch:=omega)only[EV,wvg,hi,j6];cases((s.getD i 0).toNat==b)<;>rfl) (by simp(disch:=omega)only[EV,wvg,xj]);rw[uU s λc=> !(c.toNat==b)]at h0;unfold BI XJ aU;simp(disch:=omega)only[EV,h0];rw[xfh];cases s.all λc=> !(c.toNat==b)<;>rfl
theorem oH(c:UInt8):∀s:List UInt8,-1<=Lib.indexByte s c/\(Lib.indexByte s c= -1↔∀x∈s,x≠c)
 | []=>by simp[Lib.indexByte]
 |b::l=>by
  obtain⟨h1,h2⟩:=oH c l;unfold Lib.indexByte;by_cases hb:b=c;·subst hb;simp
  ·have e:(b==c)=false:=by simpa using hb
   rw[e];by_cases h:Lib.indexByte l c= -1
   ·have e2:(Lib.indexByte l c== -1)=true:=by simp[h]
    rw[e2];simp only[rU,if_false,if_true];refine⟨by omega,⟨λ_ x hx=>?_,λ_=>trivial⟩⟩;rcases xaj.1 hx with rfl|hx;·exact hb
    ·exact h2.1 h x hx
   ·have e2:(Lib.indexByte l c== -1)=false:=by simpa using h
    rw[e2];simp only[rU,if_false];refine⟨by omega,⟨λh3=>by omega,λh3=>absurd (h2.2 λx hx=>h3 x (xw _ hx)) h⟩⟩
theorem aCf(b:UInt8):((b.toNat:Int)).toNat.toUInt8=b:=by rw[mZ];exact UInt8.ofNat_toNat
theorem Ae(s:List UInt8)(b:UInt8):decide (0<=jD s (b.toNat:Int))=aU s b.toNat:=by
 unfold jD aU;rw[aCf];obtain⟨h1,h2⟩:=oH b s;rw[Oa,qe,xbl];constructor
 ·intro h;have h3:¬ ∀x∈s,x≠b:=λh4=>by have:=h2.2 h4;omega
  simp only[Classical.not_forall]at h3;obtain⟨x,hx,hn⟩:=h3;exact⟨x,hx,by rw[qg];exact congrArg UInt8.toNat (Classical.not_not.1 hn)⟩
 ·rintro⟨x,hx,he⟩;have aa:Lib.indexByte s b≠ -1:=λh=>h2.1 h x hx (xff.1 (beq_iff_eq.1 he));omega
theorem E1(s:List UInt8)(b:UInt8):bA s [b]=some (if[b]==s then 0 else jD s (b.toNat:Int)):=by unfold bA cI bE bD bN;have e0:(((List.length [b]:Nat):Int)==0)=false:=rfl;have e1:(((List.length [b]:Nat):Int)==1)=true:=rfl;have e2:aB (0:Int) (List.length [b])=true:=rfl;have e3:List.getD [b] (Int.toNat 0) 0=b:=rfl;simp(disch:=omega)only[EV,e0,e1,e2,e3];cases([b]==s)<;>rfl
theorem Qg(s:List UInt8)(b:UInt8):decide ((0:Int)<=if[b]==s then 0 else jD s (b.toNat:Int))=aU s b.toNat:=by
 cases h:([b]==s)with
 |false=>simpa using Ae s b
 |true=>have:=beq_iff_eq.1 h;subst this;simp[aU]
theorem iZ(s:List UInt8)(b:UInt8):V0 s [b]=some (aU s b.toNat):=by unfold V0 QH aGb NQ;simp(disch:=omega)only[EV,E1];rw[Qg]
theorem mK{c r:List UInt8}(hc:aZ c)(hr:aZ r):Uf c r=some (bX c r):=by have h:=hc;unfold aZ at h;unfold Uf RV bX;have aa:BI c (64:Int)=some (aU c 64):=Z9 (by omega) 64;simp(disch:=omega)only[EV,wI hc,wI hr,aa];cases(c==[])<;>cases iR c 160<;>cases aU c 64<;>rfl
theorem eR{c r:List UInt8}(hc:aZ c)(hr:aZ r):Um c r=some (bX c r):=by unfold Um IM bX;have aa:V0 c [64]=some (aU c 64):=iZ c 64;simp(disch:=omega)only[EV,yY hc,yY hr,aa];cases(c==[])<;>cases iR c 160<;>cases aU c 64<;>cases iR r 200<;>rfl
section
open Go
theorem Uj:∀i:Fin 10,List.drop i.val (List.take (i.val+1) ([48,49,50,51,52,53,54,55,56,57]:List UInt8))=[UInt8.ofNat (48+i.val)]:=by decide+kernel
theorem aHt{u:Nat}(h:u<10):List.drop u (List.take (u+1) ([48,49,50,51,52,53,54,55,56,57]:List UInt8))=[UInt8.ofNat (48+u)]:=Uj ⟨u,h⟩
theorem L1:∀(k u:Nat),u<10^(k+1)->Lib.nDigits u<=k+1
 |0,u,h=>by rw[Lib.nDigits_small (by simpa using h)];omega
 |k+1,u,h=>by
  by_cases aa:u<10;·rw[Lib.nDigits_small aa];omega
  ·rw[Lib.nDigits_big aa];have:=L1 k (u/ 10) (by rw[Nat.pow_succ]at h;omega);omega
theorem Hq{u:Nat}(h:u<10000000):Lib.nDigits u<=7:=L1 6 u (by simpa using h)
theorem tK{u:Nat}{b:UInt8}(h:b∈Lib.decDigits u):48<=b.toNat/\b.toNat<=57:=by
 induction u using Nat.strongRecOn with
 |_ u ih=>
  have one:∀i,i<10->∀b∈ [UInt8.ofNat (48+i)],48<=b.toNat/\b.toNat<=57:=by intro i hi b hb;obtain rfl:=xx.1 hb;rw[xgj];omega
  rw[Lib.decDigits]at h;split at h
  next aa=>exact one u aa b h
  next aa=>
   rcases xaa.1 h with h|h;·exact ih (u/ 10) (by omega) h
   ·exact one (u % 10) (by omega) b h
theorem OC(u:Nat):Int.tdiv (u:Int) 10=((u/ 10:Nat):Int):=by rw[xet (by omega)];omega
theorem KT(u:Nat):Int.tmod (u:Int) 10=((u % 10:Nat):Int):=by rw[xgk (by omega)];omega
theorem tV:∀(m u:Nat),u<10000000->Lib.nDigits u<=m->rT m (u:Int)=some (Lib.decDigits u)
 |0,u,_,h=>absurd (Lib.nDigits_pos u) (by omega)
 |m+1,u,hu,h=>by
  show(Na (rT m) (u:Int)).ev=_;unfold Na;have e0:decide ((u:Int)<0)=false:=by simp;
  by_cases aa:u<10
  ·have h1:decide ((u:Int)<10)=true:=by simp;omega
   have e1:IntKind.wrap .i64 ((u:Int)+1)=((u+1:Nat):Int):=by rw[aV (by omega) (by omega)];omega
   have e2:(decide ((0:Int)<=(u:Int))&&decide ((u:Int)<=((u+1:Nat):Int))&&decide (((u+1:Nat):Int)<=((List.length ([48,49,50,51,52,53,54,55,56,57]:List UInt8):Nat):Int)))=true:=by simp only[xi,qe,xl,lI];omega
   rw[e1];simp(disch:=omega)only[EV,e0,h1,e2,mZ,aHt aa];rw[Lib.decDigits_one aa]
  ·have h1:decide ((u:Int)<10)=false:=by simp;omega
   have ih:=tV m (u/ 10) (by omega) (by rw[Lib.nDigits_big aa]at h;omega);have hm:u % 10<10:=by omega
   have e1:IntKind.wrap .i64 (((u % 10:Nat):Int)+1)=((u % 10+1:Nat):Int):=by rw[aV (by omega) (by omega)];omega
   have e2:(decide ((0:Int)<=((u % 10:Nat):Int))&&decide (((u % 10:Nat):Int)<=((u % 10+1:Nat):Int))&&decide (((u % 10+1:Nat):Int)<=((List.length ([48,49,50,51,52,53,54,55,56,57]:List UInt8):Nat):Int)))=true:=by simp only[xi,qe,xl,lI];omega
   have e3:IntKind.wrap .i64 ((u/ 10:Nat):Int)=((u/ 10:Nat):Int):=aV (by omega) (by omega);have hl:(Lib.decDigits (u/ 10)).length<=7:=by rw[Lib.decDigits_length];exact Hq (by omega)
   have e4:List.length (Lib.decDigits (u/ 10))+List.length [UInt8.ofNat (48+u % 10)]<=9223372036854775807:=by simp;omega
   rw[OC,KT,e1,e3];have ez:decide ((10:Int)=0)=false:=rfl;simp(disch:=omega)only[EV,e0,h1,e2,ih,mZ,aHt hm,e4,ez];rw[Lib.decDigits.eq_def u,dif_neg aa]
theorem sI{k:Int}(h0:0<=k)(h1:k<10000000):rT 1000000 k=some (Lib.decDigits k.toNat):=by have:=tV 1000000 k.toNat (by omega) (Xf (Hq (by omega)) (by omega));rw[show((k.toNat:Nat):Int)=k by omega]at this;exact this
theorem xL{k:Int}(h0:0<=k)(h1:k<10000000):Y0 k=some (Lib.decDigits k.toNat):=by
 unfold Y0 A8 Gp Lib.itoa;have e:(decide (-9223372036854775808<=k)&&decide (k<=9223372036854775807))=true:=by simp only[xi,qe];omega
 rw[qi e,qh (by omega)]
def iA(h:Int)(c:UInt8):Int:=Int.tmod (41*h+(c.toNat:Int)+1) 999979
def chk(s:List UInt8):Int:=s.foldl iA 7
theorem rM{h:Int}(h0:0<=h)(c:UInt8):0<=iA h c/\iA h c<999979:=by unfold iA;rw[xgk (by omega)];omega
theorem J9(s:List UInt8):0<=chk s/\chk s<999979:=by
 have:∀(s:List UInt8) (h:Int),0<=h->h<999979->0<=s.foldl iA h/\s.foldl iA h<999979:=by
  intro s;induction s with
  |nil=>intro h a b;exact⟨a,b⟩
  |cons c s ih=>intro h a b;obtain⟨x,y⟩:=rM a c;exact ih _ x y
 exact this s 7 (by omega) (by omega)
theorem Sw{s:List UInt8}(hs:aZ s):ER s=some (chk s):=by unfold aZ at hs;have h0:aCo s ((7:Int),(0:Int))=_:=(dM (f:=λv=>(wvj s v).ev) s (0:UInt8) (λi (h:Int)=>(h,(i:Int))) (λ_ h=>0<=h/\h<999979) iA (λh=>h) (s0:=7) ⟨by omega,by omega⟩ (λi h hi ⟨a,b⟩=>by have hb:=F2 (s.getD i 0);refine⟨?_,rM a _⟩;simp(disch:=omega)only[EV,wvj,hi];unfold iA;rfl) (λh _=>by simp(disch:=omega)only[EV,wvj,xj])).1;unfold ER UC chk;simp(disch:=omega)only[EV,h0]
theorem vX{s:List UInt8}(hs:aZ s):VJ s=some (chk s):=by unfold aZ at hs;have h0:aDc (s,(s.length:Int)) ((7:Int),(0:Int))=_:=(dM (f:=λv=>(wxn (s,(s.length:Int)) v).ev) s (0:UInt8) (λi (h:Int)=>(h,(i:Int))) (λ_ h=>0<=h/\h<999979) iA (λh=>h) (s0:=7) ⟨by omega,by omega⟩ (λi h hi ⟨a,b⟩=>by have hb:=F2 (s.getD i 0);refine⟨?_,rM a _⟩;simp(disch:=omega)only[EV,wxn,hi];unfold iA;rfl) (λh _=>by simp(disch:=omega)only[EV,wxn,xj])).1;unfold VJ PB chk;simp(disch:=omega)only[EV,h0]
end
section
open Go
def cC(b:Nat)(s:List UInt8):List UInt8:=s.takeWhile λc=> !(c.toNat==b)
def l9(b:Nat)(s:List UInt8):List UInt8:=s.drop ((cC b s).length+1)
theorem lK(a c:List UInt8)(b:Nat):aU (a++c) b=(aU a b||aU c b):=xhf
theorem M7(b:Nat)(s:List UInt8):(cC b s).length<=s.length:=(List.takeWhile_sublist _).length_le
theorem mH{b:Nat}{a r:List UInt8}{c:UInt8}(h:aU a b=false)(hc:c.toNat=b):cC b (a++c::r)=a:=by
 unfold cC;induction a with
 |nil=>simp[hc]
 |cons x a ih=>unfold aU at h;simp only[ZW,JE]at h;rw[Y7,xgb,h.1,mM,qi rfl,ih h.2]
theorem Hn{b:Nat}{a r:List UInt8}{c:UInt8}(h:aU a b=false)(hc:c.toNat=b):l9 b (a++c::r)=r:=by unfold l9;rw[mH h hc,show a++c::r=(a++ [c])++r by simp,xhg (by simp)]
theorem Cg{b:Nat}{s:List UInt8}(h:aU s b=false):cC b s=s:=by
 unfold cC aU at*;induction s with
 |nil=>rfl
 |cons x s ih=>simp only[ZW,JE]at h;rw[xgb,h.1,mM,qi rfl,ih h.2]
theorem vF{b:Nat}{s:List UInt8}(h:aU s b=true):∃c:UInt8,c.toNat=b/\s=cC b s++c::l9 b s/\aU (cC b s) b=false:=by
 induction s with
 |nil=>simp[aU]at h
 |cons x s ih=>
  cases hx:(x.toNat==b)with
  |true=>
   refine⟨x,by simpa using hx,?_,?_⟩;·simp[cC,l9,hx]
   ·simp[cC,hx,aU]
  |false=>
   have h':aU s b=true:=by unfold aU at h⊢;rw[ZW,hx,GY]at h;exact h
   obtain⟨c,h1,h2,h3⟩:=ih h';have e:cC b (x::s)=x::cC b s:=by simp[cC,hx]
   refine⟨c,h1,?_,?_⟩
   ·have e2:l9 b (x::s)=l9 b s:=by unfold l9;rw[e,xl];rfl
    rw[e,e2,Y7,<-h2]
   ·rw[e];unfold aU at h3⊢;rw[ZW,hx,GY];exact h3
theorem n7{b:Nat}{s:List UInt8}(h:aU s b=true):(cC b s).length<s.length:=by obtain⟨c,_,h2,_⟩:=vF h;have:=congrArg List.length h2;simp only[xm,xl]at this;omega
theorem Qv(b:Nat)(s:List UInt8):s.take (cC b s).length=cC b s:=by
 unfold cC;induction s with
 |nil=>rfl
 |cons x s ih=>
  rw[xgb];split;·rw[xl,List.take_succ_cons,ih]
  ·rfl
theorem Lo{b:Nat}{s:List UInt8}{c:UInt8}(h:aU s b=true)(hc:c.toNat=b):s.take ((cC b s).length+1)=cC b s++ [c]:=by obtain⟨c',h1,h2,h3⟩:=vF h;have:c'=c:=xff.1 (h1.trans hc.symm);subst this;generalize hb:cC b s=p at*;rw[h2,xgu,Ak (by omega)];simp
theorem qI(c:UInt8):∀s:List UInt8,Lib.indexByte s c=if aU s c.toNat then((cC c.toNat s).length:Int)else-1
 | []=>rfl
 |x::s=>by
  have ih:=qI c s;unfold Lib.indexByte;have e:(x==c)=(x.toNat==c.toNat):=by rw[Oa,qg,qg,xff]
  rw[e];cases hx:(x.toNat==c.toNat)with
  |true=>simp[aU,hx,cC]
  |false=>
   have e1:aU (x::s) c.toNat=aU s c.toNat:=by simp[aU,hx]
   have e2:cC c.toNat (x::s)=x::cC c.toNat s:=by simp[cC,hx]
   rw[e1,e2];simp only[rU,if_false];rw[ih];cases aU s c.toNat with
   |true=>simp
   |false=>simp
theorem vT(s:List UInt8)(c:UInt8):jD s (c.toNat:Int)=if aU s c.toNat then((cC c.toNat s).length:Int)else-1:=by unfold jD;rw[aCf];exact qI c s
theorem H7(s:List UInt8)(c:UInt8):BG s (c.toNat:Int)=some (if aU s c.toNat then((cC c.toNat s).length:Int)else-1):=by unfold BG IV bE bD bN;simp(disch:=omega)only[EV,vT]
theorem EW{s:List UInt8}(hs:aZ s)(c:UInt8):J5 s [c]=some (if aU s c.toNat then(cC c.toNat s,l9 c.toNat s,true)else(s,[],false)):=by
 unfold aZ at hs;have e:bA s [c]=some (if aU s c.toNat then((cC c.toNat s).length:Int)else-1):=by
  rw[E1,vT];cases h:([c]==s)with
  |false=>rfl
  |true=>have:=beq_iff_eq.1 h;subst this;simp[aU,cC]
 unfold J5 NF dZ cS;cases h:aU s c.toNat with
 |false=>rw[h]at e;have:decide ((0:Int)<= -1)=false:=rfl;simp only[rU,if_false]at e;simp(disch:=omega)only[EV,e,this,h];rfl
 |true=>
  rw[h]at e;simp only[if_true]at e;have hl:=n7 h;have e1:decide ((0:Int)<=((cC c.toNat s).length:Int))=true:=by simp
  have e2:decide (((cC c.toNat s).length:Int)<=(s.length:Int))=true:=by simp;omega
  have e3:IntKind.wrap .i64 (((cC c.toNat s).length:Int)+((List.length [c]:Nat):Int))=(((cC c.toNat s).length+1:Nat):Int):=by rw[aV]<;>simp<;>omega
  have e4:(decide ((0:Int)<=(((cC c.toNat s).length+1:Nat):Int))&&decide ((((cC c.toNat s).length+1:Nat):Int)<=(s.length:Int)))=true:=by simp only[xi,qe];omega
  rw[e];simp(disch:=omega)only[EV,e1,e2];rw[e3];simp(disch:=omega)only[EV,e4,mZ];rw[Qv,pM];rfl
def fP(k:Int)(c r:List UInt8):List UInt8:=(((Lib.decDigits k.toNat++ [32])++c)++ [64])++r
def gJ(s:List UInt8):List UInt8:=(s++ [35])++Lib.decDigits (chk s).toNat
def line(k:Int)(c r:List UInt8):List UInt8:=gJ (fP k c r)++ [10]
def Mr(k:Int)(c r:List UInt8):Bool:=bY k 0 59&&bX c r
def Bp(k:Int)(c r:List UInt8):List UInt8×Bool:=if Mr k c r then(line k c r,true)else([],false)
theorem fZ{u:Nat}(h:u<10000000):(Lib.decDigits u).length<=7:=by rw[Lib.decDigits_length];exact Hq h
theorem xB(s:List UInt8):(chk s).toNat<10000000:=by have:=J9 s;omega
theorem uW(s:List UInt8):(gJ s).length<=s.length+8:=by have:=fZ (xB s);unfold gJ;simp only[xm,xl,lI];omega
theorem xG{u b:Nat}(h:b<48\/57<b):aU (Lib.decDigits u) b=false:=by unfold aU;rw[Nl];intro x hx;have:=tK hx;simp only[qg];omega
theorem eK{c r:List UInt8}(h:bX c r=true):aU c 35=false/\aU r 35=false/\aU c 64=false/\aU c 10=false/\aU r 10=false/\c.length<=160/\r.length<=200:=by
 unfold bX iR at h;simp only[xi,s6,qe,xy]at h;obtain⟨_,⟨h1,h2⟩,h3,h4,h5⟩:=h;have key:∀s:List UInt8,(∀x∈s,uB x=true)->aU s 35=false/\aU s 10=false:=by
  intro s hs;unfold aU;rw[Nl,Nl];constructor<;>intro x hx<;>have:=hs x hx<;>unfold uB at this<;>simp only[xi,qe,s6,qf]at this<;>simp only[qg];·exact this.2.2
  ·omega
 exact⟨(key c h1).1,(key r h4).1,h3,(key c h1).2,(key r h4).2,by omega,by omega⟩
theorem rW{k:Int}{c r:List UInt8}(hk:bY k 0 59=true):(fP k c r).length<=9+c.length+r.length:=by unfold bY at hk;simp only[xi,qe]at hk;have:=fZ (u:=k.toNat) (by omega);unfold fP;simp only[xm,xl,lI];omega
theorem mR{k:Int}{c r:List UInt8}(h:bX c r=true):aU (fP k c r) 35=false:=by obtain⟨h1,h2,_⟩:=eK h;unfold fP;simp only[lK,h1,h2,xG (u:=k.toNat) (b:=35) (by omega),YA,GY];rfl
theorem O5{s:List UInt8}(h:aU s 35=false):cC 35 (gJ s)=s:=by unfold gJ;rw[Fy];exact mH h rfl
theorem Bj(k:Int)(c r:List UInt8):cC 32 (fP k c r)=Lib.decDigits k.toNat/\l9 32 (fP k c r)=c++64::r/\aU (fP k c r) 32=true:=by
 have e:fP k c r=Lib.decDigits k.toNat++32::(c++64::r):=by simp[fP]
 rw[e];have h:=xG (u:=k.toNat) (b:=32) (by omega);exact⟨mH h rfl,Hn h rfl,by rw[lK];simp[aU]⟩
theorem W2{c r:List UInt8}(h:aU c 64=false):cC 64 (c++64::r)=c/\l9 64 (c++64::r)=r/\aU (c++64::r) 64=true:=
 ⟨mH h rfl,Hn h rfl,by rw[lK];simp[aU]⟩
theorem Ia{s:List UInt8}(hs:(s.length:Int)<=1000000):Zr s=some (gJ s):=by
 have h:=J9 s;have hd:=fZ (xB s);have e0:List.length s+List.length ([35]:List UInt8)<=9223372036854775807:=by simp;omega
 have e1:List.length (s++([35]:List UInt8))+(Lib.decDigits (chk s).toNat).length<=9223372036854775807:=by simp;omega
 unfold Zr KD gJ;simp(disch:=omega)only[EV,Sw (by unfold aZ;omega:aZ s),sI h.1 (by omega),e0,e1]
theorem kR{s:List UInt8}(hs:s.length<=3000)(aa:aU s 35=false):L0 s=some (gJ s,true):=by
 have h:=J9 s;have hd:=fZ (xB s);have e0:List.length s+List.length ([35]:List UInt8)<=9223372036854775807:=by simp;omega
 have e1:List.length (s++([35]:List UInt8))+(Lib.decDigits (chk s).toNat).length<=9223372036854775807:=by simp;omega
 have e2:¬(4000:Int)<(s.length:Int):=by omega
 have e3:¬(4000:Int)<((List.length ((s++([35]:List UInt8))++Lib.decDigits (chk s).toNat):Nat):Int):=by simp only[xm,xl,lI];omega
 have e4:V0 s ([35]:List UInt8)=some (aU s 35):=iZ s 35;unfold L0 Hy gJ;simp(disch:=omega)only[EV,vX (by unfold aZ;omega:aZ s),xL h.1 (by omega),e0,e1,e2,e3,e4,aa]
theorem qU{s:List UInt8}(hs:aZ s):∃x,L0 s=some x:=by
 by_cases h1:(4000:Int)<(s.length:Int);·unfold L0 Hy;simp(disch:=omega)only[EV,h1];exact⟨_,rfl⟩
 ·cases aa:aU s 35 with
  |true=>have e4:V0 s ([35]:List UInt8)=some (aU s 35):=iZ s 35;unfold L0 Hy;simp(disch:=omega)only[EV,h1,e4,aa];exact⟨_,rfl⟩
  |false=>
   have h:=J9 s;have hd:=fZ (xB s);have e0:List.length s+List.length ([35]:List UInt8)<=9223372036854775807:=by simp;omega
   have e1:List.length (s++([35]:List UInt8))+(Lib.decDigits (chk s).toNat).length<=9223372036854775807:=by simp;omega
   have e4:V0 s ([35]:List UInt8)=some (aU s 35):=iZ s 35;unfold L0 Hy;simp(disch:=omega)only[EV,vX hs,xL h.1 (by omega),e0,e1,h1,e4,aa];split<;>exact⟨_,rfl⟩
theorem yL{k:Int}{c r:List UInt8}(hk:bY k 0 59=true)(hc:(c.length:Int)<=100000)(hr:(r.length:Int)<=100000):Xx k c r=some (line k c r):=by
 have hl:=rW (c:=c) (r:=r) hk;have hs:=uW (fP k c r);unfold bY at hk;simp only[xi,qe]at hk;have hd:=fZ (u:=k.toNat) (by omega);have e1:List.length (Lib.decDigits k.toNat)+List.length ([32]:List UInt8)<=9223372036854775807:=by simp;omega
 have e2:List.length (Lib.decDigits k.toNat++([32]:List UInt8))+List.length c<=9223372036854775807:=by simp;omega
 have e3:List.length ((Lib.decDigits k.toNat++([32]:List UInt8))++c)+List.length ([64]:List UInt8)<=9223372036854775807:=by simp only[xm,xl,lI];omega
 have e4:List.length (((Lib.decDigits k.toNat++([32]:List UInt8))++c)++([64]:List UInt8))+List.length r<=9223372036854775807:=by simp only[xm,xl,lI];omega
 have e5:Zr ((((Lib.decDigits k.toNat++([32]:List UInt8))++c)++([64]:List UInt8))++r)=some (gJ (fP k c r)):=Ia (s:=fP k c r) (by omega);have e6:List.length (gJ (fP k c r))+List.length ([10]:List UInt8)<=9223372036854775807:=by simp;omega
 unfold Xx KW;simp(disch:=omega)only[EV,sI hk.1 (by omega),e1,e2,e3,e4,e5,e6];rfl
theorem jZ{k:Int}{c r:List UInt8}(hc:aZ c)(hr:aZ r):Xs k c r=some (Bp k c r):=by
 unfold Xs XF Bp Mr;simp(disch:=omega)only[EV,dG,eR hc hr];cases h1:bY k 0 59 with
 |false=>rfl
 |true=>
  cases h2:bX c r with
  |false=>rfl
  |true=>
   obtain⟨_,_,_,_,_,a,b⟩:=eK h2;have hl:=rW (c:=c) (r:=r) h1;have hs:=uW (fP k c r);have hk:=h1;unfold bY at hk;simp only[xi,qe]at hk;have hd:=fZ (u:=k.toNat) (by omega);have e1:List.length (Lib.decDigits k.toNat)+List.length ([32]:List UInt8)<=9223372036854775807:=by simp;omega
   have e2:List.length (Lib.decDigits k.toNat++([32]:List UInt8))+List.length c<=9223372036854775807:=by simp;omega
   have e3:List.length ((Lib.decDigits k.toNat++([32]:List UInt8))++c)+List.length ([64]:List UInt8)<=9223372036854775807:=by simp only[xm,xl,lI];omega
   have e4:List.length (((Lib.decDigits k.toNat++([32]:List UInt8))++c)++([64]:List UInt8))+List.length r<=9223372036854775807:=by simp only[xm,xl,lI];omega
   have e5:L0 ((((Lib.decDigits k.toNat++([32]:List UInt8))++c)++([64]:List UInt8))++r)=some (gJ (fP k c r),true):=kR (s:=fP k c r) (by omega) (mR h2);have e6:List.length (gJ (fP k c r))+List.length ([10]:List UInt8)<=9223372036854775807:=by simp;omega
   simp(disch:=omega)only[EV,xL hk.1 (by omega),e1,e2,e3,e4,e5,e6];rfl
end
theorem zM{l:List Int}(hl:aF l):Tc l=some l:=by unfold aF at hl;unfold Tc qQ;rw[qi (by omega)]
theorem Jk{f:Int×List (List Int)->Option ((Int×List (List Int))⊕List (List Int))}{x:List (List Int)}
  (aa:∀i:Nat,i<x.length->f ((i:Int),x.take i)=some (.inl (((i+1:Nat):Int),x.take i++ [x.getD i []]))) (ab:f ((x.length:Int),x)=some (.inr x)):aC f (0,[])=some x:=by
 have:=(aK (f:=f) (n:=x.length) (mk:=λi (_:Unit)=>((i:Int),x.take i)) (I:=λ_ _=>True) (g:=λs _=>s) (fin:=λ_=>x) (s0:=()) trivial
  (λi s hi _=>⟨by rw[aa i hi,cD [] hi],trivial⟩)
  (λs _=>by rw[pM,ab])).1
 simpa using this
theorem Pg{α:Type}(l:List α)(a b:α):(l++ [a]).set l.length b=l++ [b]:=by simp
theorem M3{ds:List (List Int)}(hd:cT ds):Vq ds=some ds:=by
 unfold Vq BX;have hl:=hd.1;have h0:=Jk (f:=λv=>(DN (ds,((ds.length:Nat):Int)) v).ev) (x:=ds)
  (λi hi=>by
   have ht:(ds.take i).length<=i:=xgc _ _;have hg:((ds.take i).length+1)*24<=140737488355328:=by omega
   simp(disch:=omega)only[EV,DN,hi,zM (hd.2 _ (aE (d:=[]) hi)),Pg,hg];rfl)
  (by simp(disch:=omega)only[EV,DN,xj])
 simp(disch:=omega)only[EV,UA,h0]
theorem lS{o:List Int}{ds:List (List Int)}{s:List Int}(ho:aF o)(hd:cT ds)(hs:aF s)(c:Int):Kb o ds s c=some (c,o,ds,s):=by unfold Kb Yp;simp(disch:=omega)only[EV,zM ho,zM hs,M3 hd]
theorem tH{o:List Int}{ds:List (List Int)}{s:List Int}(ho:aF o)(hd:cT ds)(hs:aF s)(c:Int):∃m,US c 1 o ds s=some (m+(s.length:Int),dI 1 o.length,cN (1+(o.length:Int)) ds,dI m s.length)/\m=oK (1+(o.length:Int)) ds/\1<=m/\m<=2199023255553:=by have hl:=hs;unfold aF at hl;obtain⟨m,e1,e2,e3,e4⟩:=K7 ho hd (k:=1) (by omega) (by omega);unfold US QM;simp(disch:=omega)only[EV,e1,nH hs (k:=m) (by omega) (by omega)];exact⟨m,rfl,e2,by omega,by omega⟩
theorem aRU{o:List Int}{ds:List (List Int)}{s:List Int}(ho:aF o)(hd:cT ds)(hs:aF s)(c:Int){m:Int}(e2:m=oK (1+(o.length:Int)) ds)(e3:1<=m)(e4:m<=2199023255553):
  UQ (dI 1 o.length) (cN (1+(o.length:Int)) ds) (dI m s.length) c 1=some (m+(s.length:Int)):=by
 have hl:=hs;unfold aF at hl;have hn:¬m<0:=by omega
 have aa:¬m+(s.length:Int)<0:=by omega
 unfold UQ KN;simp(disch:=omega)only[EV,aOE ho hd (k:=1) (by omega) (by omega),<-e2,hn,wro (n:=s.length) hl (k:=m) (by omega) (by omega),aa]
theorem nU{o:List Int}{ds:List (List Int)}{s:List Int}(ho:aF o)(hd:cT ds)(hs:aF s)(c:Int)(a b:List UInt8)(n:Int):Jn o ds s c a b n o ds s c a b n=some true:=by unfold Jn YC aCH VX;simp(disch:=omega)only[EV,Cs ho hd hs,qj,qk]
def dg(x:Int):List UInt8:=Lib.decDigits x.toNat
def bJ(l:List Int):List UInt8:=Lib.join (l.map dg) [32]
def iY(l:List Int):List UInt8:=if l=[]then[110,111,110,101]else bJ l
def zO(l:List Int):Prop:=l.length<=7/\∀x∈l,0<=x/\x<1000000
theorem O3:∀l:List (List UInt8),(∀x∈l,x.length<=7)->(Lib.join l [32]).length<=8*l.length
 | [],_=>by simp[Lib.join_nil]
 | [x],h=>by rw[Lib.join_one];have:=h x (xx.2 rfl);simp only[xl,lI];omega
 |x::y::r,h=>by have ih:=O3 (y::r) λz hz=>h z (xw _ hz);have hx:=h x xz;rw[Lib.join_cons]at ih⊢;unfold Lib.joinTail at ih⊢;simp only[v9,List.flatten_cons,xm,xl,lI]at ih⊢;omega
theorem UL{l:List Int}(h:zO l):∀x∈l.map dg,x.length<=7/\aU x 32=false:=λx hx=>by obtain⟨y,hy,rfl⟩:=xak.1 hx;have:=h.2 y hy;exact⟨fZ (by omega),xG (by omega)⟩
theorem sH{l:List Int}(h:zO l):(bJ l).length<=56:=by have:=O3 (l.map dg) λx hx=>((UL h) x hx).1;rw[An]at this;have:=h.1;unfold bJ;omega
theorem Kv{l:List Int}:(List.range l.length).map (λi=>dg (l.getD i 0))=l.map dg:=by
 apply xer;intro i;rw[mY,mY];by_cases hi:i<l.length;·rw[Qe hi,xh hi,mX,mX,xe,xh hi];rfl
 ·rw[BF (by simp;omega),BF (by omega)];rfl
theorem Pv{l:List Int}(h:zO l):Jy (l.map dg) [32]=some (bJ l):=by
 have h1:=h.1;have h2:=(sH h)
 unfold bJ at h2;unfold Jy D0;rw[qi ⟨by rw[An];omega,by omega⟩];rfl
theorem jU{l:List Int}(h:zO l):Vr l=some (bJ l):=by
 have h1:=h.1;have aa:∀x:List UInt8,List.length [x]=1:=λ_=>rfl;have key:=iG (f:=λv=>(wyi (l,(l.length:Int)) v).ev) (n:=l.length) (λi (acc:List (List UInt8))=>((i:Int),acc)) (λi=>dg (l.getD i 0)) (λacc=>acc)
  (λi acc hi ha=>by
   have hx:=h.2 _ (aE (d:=0) hi);have hb:(acc.length+1)*16<=140737488355328:=by omega
   simp(disch:=omega)only[EV,wyi,hi,xL hx.1 (show l.getD i 0<10000000 by omega),aa,hb];rfl)
  (λacc _=>by simp(disch:=omega)only[EV,wyi,xj])
 rw[Kv]at key;have k1:aGM (l,(l.length:Int)) ((0:Int),([]:List (List UInt8)))=some (l.map dg):=key;unfold Vr WB;simp(disch:=omega)only[EV,k1,(Pv h)]
theorem vZ{l:List Int}(h:zO l):Uk l=some (iY l):=by
 unfold Uk MB iY;cases l with
 |nil=>rfl
 |cons x r=>have hz:(((((x::r).length:Nat):Int))==0)=false:=beq_eq_false_iff_ne.2 (by simp;omega);simp(disch:=omega)only[EV,hz,jU h];rw[qh (by simp)]
def lE(n:Nat)(k:Int):List (List Int):=(aM n).filter λs=>decide ((s.length:Int)<=k)
theorem upTo_mem{n:Nat}{k:Int}{s:List Int}:s∈lE n k↔s∈aM n/\(s.length:Int)<=k:=by unfold lE;rw[xap,qe]
theorem J6{n:Nat}(h7:n<=7){k:Int}(h1:1<=k/\k<=(n:Int)):lE n k≠ []:=λe=>by have h:=xI h7 (k:=k) h1.1 h1.2;obtain⟨s,hs⟩:=List.exists_mem_of_ne_nil _ h;obtain⟨a,b⟩:=ofSz_mem.1 hs;have:s∈lE n k:=upTo_mem.2 ⟨a,by omega⟩;rw[e]at this;cases this
def l8(ds:List (List Int))(n:Nat)(k:Int):List Int:=aS (Nt ds) (lE n k)
theorem Au{o:List Int}{ds:List (List Int)}{k:Int}(hf:Fld o ds)(hm:Cn o ds k=some true)(hk:1<=k/\k<=(o.length:Int)):Pl o ds k=some (true,l8 ds o.length k):=by
 have h7:=hf.len;have h1:=hf.pos;have hS:=nS h1 h7;obtain⟨x,e1,e2,e3⟩:=hS.im;have ab:=jG hS h7;have ak:x.1.length=(aM o.length).length:=by rw[<-e3,gY]
 obtain⟨y,k1,k2,k3⟩:=qL (x:=x) e2 (by omega) (p:=λad=>Option.bind (Ws ad.1 k) λae=>some ae) (q:=λs=> !decide ((s.length:Int)<=k)) λs hs=>by
  rw[e3]at hs;obtain⟨p1,p2,p3⟩:=cP h7 hS hs;unfold aF at p3;show Option.bind (Ws s k) _=_;unfold Ws PW;simp(disch:=omega)only[EV];by_cases h:(s.length:Int)<=k;·rw[qc h,qd (by omega)];rfl
  ·rw[qd h,qc (by omega)];rfl
 have aa:bG y.1 y.2=lE o.length k:=by rw[k3,e3];unfold lE;congr 1;funext s;simp
 have al:y.1.length=(lE o.length k).length:=by rw[<-aa,gY]
 have ai:=xay.2 (J6 h7 (k:=k) hk);have aj:(lE o.length k).length<=(aM o.length).length:=xdy _ _;have hle:=vG (x:=y) k2 (by omega) (by omega) (p:=λaf=>Option.bind (Ls o ds af.1) λah=>some ah) (g:=Nt ds) λs hs=>by rw[aa]at hs;obtain⟨p1,p2,_⟩:=cP h7 hS (upTo_mem.1 hs).1;show Option.bind (Ls o ds s) _=_;rw[Q0 hf p1 p2];rfl
 rw[aa]at hle;unfold Pl Xp aFe XZ l8;simp(disch:=omega)only[EV,hm,e1,k1,hle]
section
open Go
theorem zK{α:Type}{l:List α}{d:α}{i:Nat}(h:i<l.length):l.getD i d=l[i]:=by rw[xe,xh h,wJ]
theorem T9{α:Type}{l:List α}(r:List α){d:α}{i:Nat}(h:i<l.length):(l++r).getD i d=l.getD i d:=by rw[xe,xe,yD h]
theorem rN{s:List UInt8}(hs:aZ s)(b:Nat):∃ps,Ow s (b:Int)=some ps/\0<ps.length/\ps.getD 0 []=cC b s/\(ps.length<2↔aU s b=false):=by
 unfold aZ at hs;have pre:∀(n:Nat) (hn:n<=s.length),(∀j,j<n->((s.getD j 0).toNat==b)=false)->aU (s.take n) b=false:=by intro n hn h;unfold aU;rw[Nl];intro x hx;obtain⟨j,hj,rfl⟩:=xca.1 hx;rw[kN]at hj;have:=h j (by omega);rw[zK (by omega)]at this;rw[List.getElem_take];simp[this]
 obtain⟨r,hr,hQ⟩:=aJ (f:=λv=>(Wk (s,(b:Int)) v).ev) (n:=s.length) (λi (q:Int×List (List UInt8))=>(q.1,(i:Int),q.2))
  (λi q=>0<=q.1/\q.1<=i/\q.2.length<=i/\((q.2=[]/\q.1=0/\∀j,j<i->((s.getD j 0).toNat==b)=false)\/(0<q.2.length/\q.2.getD 0 []=cC b s/\aU s b=true)))
  (λq=>0<=q.1/\q.1<=s.length/\q.2.length<=s.length/\((q.2=[]/\q.1=0/\aU s b=false)\/(0<q.2.length/\q.2.getD 0 []=cC b s/\aU s b=true)))
  (s0:=((0:Int),([]:List (List UInt8)))) ⟨by simp,by simp,by simp,.inl ⟨rfl,rfl,λj h=>absurd h (by omega)⟩⟩
  (λi q hi ⟨h1,h2,h3,h4⟩=>by
   obtain⟨st,ps⟩:=q;simp only at h1 h2 h3 h4;have g1:st<=(i:Int):=h2;have g2:(i:Int)<=(s.length:Int):=by omega
   left;cases hb:((s.getD i 0).toNat==b)with
   |false=>
    refine⟨(st,ps),?_,h1,by simp only;omega,by simp only;omega,?_⟩;·simp(disch:=omega)only[EV,Wk,hi,j6,hb];rfl
    ·rcases h4 with⟨a,c,d⟩|h4
     ·refine .inl ⟨a,c,λj hj=>?_⟩;rcases Ru j i with h|h;·exact d j h
      ·obtain rfl:j=i:=by omega
       exact hb
     ·exact .inr h4
   |true=>
    have g3:(ps.length+List.length ([(List.drop st.toNat (List.take i s))]:List (List UInt8)))*16<=140737488355328:=by simp only[xl,lI];omega
    refine⟨((i:Int)+1,ps++ [List.drop st.toNat (List.take i s)]),?_,by simp only;omega,by simp only;omega,by simp only[xm,xl,lI];omega,.inr ?_⟩;·simp(disch:=omega)only[EV,Wk,hi,j6,hb,h1,g1,g2,g3];rfl
    ·have aa:aU s b=true:=by unfold aU;rw[xbl];exact⟨s.getD i 0,by rw[zK hi];exact xeh hi,hb⟩
     refine⟨by simp,?_,aa⟩;rcases h4 with⟨a,c,d⟩|⟨a,c,d⟩
     ·subst a;subst c;have hp:=pre i (by omega) d;have e:s=s.take i++s.getD i 0::s.drop (i+1):=by rw[zK hi,<-Im hi,xeo]
      have h3:cC b s=s.take i:=by have:=mH (r:=s.drop (i+1)) hp (by simpa using hb:(s.getD i 0).toNat=b);rwa [<-e]at this
      rw[h3];simp
     ·rw[T9 _ a];exact c)
  (λq ⟨h1,h2,h3,h4⟩=>⟨q,by simp(disch:=omega)only[EV,Wk,xj],h1,h2,h3,by
   rcases h4 with⟨a,c,d⟩|h4;·refine .inl ⟨a,c,?_⟩;have:=pre s.length (xp _) d;rwa [pM]at this
   ·exact .inr h4⟩)
 have h0:QT (s,(b:Int)) ((0:Int),(0:Int),([]:List (List UInt8)))=some r:=hr;obtain⟨st,ps⟩:=r;obtain⟨h1,h2,h3,h4⟩:=hQ;simp only at h1 h2 h3 h4;have g3:(ps.length+List.length ([(List.drop st.toNat (List.take s.length s))]:List (List UInt8)))*16<=140737488355328:=by simp only[xl,lI];omega
 refine⟨ps++ [List.drop st.toNat (List.take s.length s)],?_,by simp,?_,?_⟩;·unfold Ow Ye;simp(disch:=omega)only[EV,h0,h1,h2,g3]
 ·rcases h4 with⟨rfl,rfl,h⟩|⟨a,c,d⟩
  ·simp[Cg h]
  ·rw[T9 _ a];exact c
 ·rcases h4 with⟨rfl,rfl,h⟩|⟨a,c,d⟩
  ·simp[h]
  ·simp only[xm,xl,lI,d];constructor;·intro h;omega
   ·intro h;cases h
def Dec(k:Int)(t c r:List UInt8):Prop:=bY k 0 59=true/\bX c r=true/\line k c r=t++ [10]
def zG(t:List UInt8)(k:Int):List UInt8×List UInt8×Bool:=
 if(cC 35 t).length<(Lib.decDigits k.toNat++ [32]).length then([],[],false)
 else if(cC 35 t).take (Lib.decDigits k.toNat++ [32]).length==Lib.decDigits k.toNat++ [32]then
  if aU ((cC 35 t).drop (Lib.decDigits k.toNat++ [32]).length) 64 then
   if bX (cC 64 ((cC 35 t).drop (Lib.decDigits k.toNat++ [32]).length)) (l9 64 ((cC 35 t).drop (Lib.decDigits k.toNat++ [32]).length))then
    (cC 64 ((cC 35 t).drop (Lib.decDigits k.toNat++ [32]).length),(l9 64 ((cC 35 t).drop (Lib.decDigits k.toNat++ [32]).length),
     line k (cC 64 ((cC 35 t).drop (Lib.decDigits k.toNat++ [32]).length)) (l9 64 ((cC 35 t).drop (Lib.decDigits k.toNat++ [32]).length))==t++ [10]))
   else(cC 64 ((cC 35 t).drop (Lib.decDigits k.toNat++ [32]).length),l9 64 ((cC 35 t).drop (Lib.decDigits k.toNat++ [32]).length),false)
  else([],[],false)
 else([],[],false)
def wZ(k:Int)(t:List UInt8):Option (List UInt8×List UInt8):=
 if bY k 0 59 then if(zG t k).2.2 then some ((zG t k).1,(zG t k).2.1)else none else none
theorem B3{k:Int}{t c r:List UInt8}(h:line k c r=t++ [10]):t=gJ (fP k c r):=(List.append_cancel_right h).symm
theorem V8{k:Int}{t c r:List UInt8}(h:Dec k t c r):wZ k t=some (c,r):=by
 obtain⟨h1,h2,h3⟩:=h;have ht:=B3 h3;have hb:cC 35 t=fP k c r:=by rw[ht];exact O5 (mR h2)
 have aa:=(eK h2).2.2.1;obtain⟨e1,e2,e3⟩:=W2 (r:=r) aa;have et:fP k c r=(Lib.decDigits k.toNat++ [32])++(c++64::r):=by simp[fP]
 unfold wZ;have e4:(cC 35 t).drop (Lib.decDigits k.toNat++ [32]).length=c++64::r:=by rw[hb,et];exact xhg rfl
 have e5:(cC 35 t).take (Lib.decDigits k.toNat++ [32]).length=Lib.decDigits k.toNat++ [32]:=by rw[hb,et];exact List.take_left' rfl
 have e6:¬(cC 35 t).length<(Lib.decDigits k.toNat++ [32]).length:=by rw[hb,et,xm];omega
 have e7:zG t k=(c,r,true):=by unfold zG;rw[e4,e5,e1,e2,e3,qh e6];simp[h2,h3]
 rw[e7];simp[h1]
theorem Ra{k:Int}{t c r:List UInt8}(h:wZ k t=some (c,r)):Dec k t c r:=by
 unfold wZ at h;split at h
 next h1=>
  split at h
  next h2=>
   unfold zG at h h2;split at h2;·cases h2
   ·next h3=>
    rw[qh h3]at h;split at h2
    next h4=>
     rw[qi h4]at h;split at h2
     next h5=>
      rw[qi h5]at h;split at h2
      next h6=>
       rw[qi h6]at h;simp only[xf,Ky]at h;obtain⟨rfl,rfl⟩:=h;exact⟨h1,h6,by simpa using h2⟩
      next=>cases h2
     next=>cases h2
    next=>cases h2
  next=>cases h
 next=>cases h
theorem H0{t:List UInt8}{k:Int}(ht:aZ t)(hk:bY k 0 59=true):KC t k=some (zG t k):=by
 have aa:=hk;unfold bY at aa;simp only[xi,qe]at aa;have hd:=fZ (u:=k.toNat) (by omega);have ad:=ht;unfold aZ at ad;have hn:=sI aa.1 (by omega);obtain⟨ps,p1,p2,p3,p4⟩:=rN ht 35;have ae:Ow t (35:Int)=some ps:=p1;have ak:=M7 35 t;have e1:List.length (Lib.decDigits k.toNat)+List.length ([32]:List UInt8)<=9223372036854775807:=by simp;omega
 have z:Int.toNat (0:Int)=0:=rfl;have al:(0:Int)<(ps.length:Int):=by omega
 unfold KC MG zG;generalize ab:Lib.decDigits k.toNat++ [32]=pre at*;simp(disch:=omega)only[EV,hn,e1,ab,ae,z,p2,p3];generalize af:cC 35 t=body at*;by_cases h1:body.length<pre.length;·simp(disch:=omega)only[EV,h1]
 ·have g1:(0:Int)<=(pre.length:Int):=by omega
  have g2:(pre.length:Int)<=(body.length:Int):=by omega
  simp(disch:=omega)only[EV,h1,g1,g2,AP];cases h2:(List.take pre.length body==pre)with
  |false=>simp(disch:=omega)only[EV];rfl
  |true=>
   simp(disch:=omega)only[EV,pM];have ao:(body.drop pre.length).length<=body.length:=by rw[vA];omega
   generalize ah:body.drop pre.length=rest at*;have ai:aZ rest:=by unfold aZ;omega
   obtain⟨qs,q1,q2,q3,q4⟩:=rN ai 64;have aj:Ow rest (64:Int)=some qs:=q1;have ar:(0:Int)<(qs.length:Int):=by omega
   simp(disch:=omega)only[EV,aj,q2,q3,j6];cases h3:aU rest 64 with
   |false=>rw[Cg h3];simp(disch:=omega)only[EV,qj];rfl
   |true=>
    have hl:=n7 h3;have g3:((cC 64 rest).length==rest.length)=false:=by rw[qf];omega
    have g4:(0:Int)<=((cC 64 rest).length:Int)+1:=by omega
    have g5:((cC 64 rest).length:Int)+1<=(rest.length:Int):=by omega
    have g6:Int.toNat (((cC 64 rest).length:Int)+1)=(cC 64 rest).length+1:=by omega
    have au:(l9 64 rest).length<=rest.length:=by unfold l9;rw[vA];omega
    have e7:List.drop ((cC 64 rest).length+1) rest=l9 64 rest:=rfl;have s1:aZ (cC 64 rest):=by unfold aZ;omega
    have s2:aZ (l9 64 rest):=by unfold aZ;omega
    simp(disch:=omega)only[EV,g3,g4,g5,g6,e7,mK s1 s2];cases h4:bX (cC 64 rest) (l9 64 rest)with
    |false=>simp(disch:=omega)only[EV];rfl
    |true=>
     obtain⟨_,_,_,_,_,a,b⟩:=eK h4;have e8:List.length t+List.length ([10]:List UInt8)<=9223372036854775807:=by simp;omega
     simp(disch:=omega)only[EV,yL (c:=cC 64 rest) (r:=l9 64 rest) hk (by omega) (by omega),e8]
abbrev RS:=Int×List (List UInt8×List UInt8)
def bL(s:List UInt8)(v:RS):RS⊕RS:=
 if aU (s.drop v.1.toNat) 10 then
  match wZ (v.2.length:Int) (cC 10 (s.drop v.1.toNat))with
  |some p=>.inl (v.1+((cC 10 (s.drop v.1.toNat)).length:Int)+1,v.2++ [p])
  |none=>.inr v
 else .inr v
def RI(s:List UInt8)(v:RS):Prop:=0<=v.1/\v.1<=(s.length:Int)/\v.2.length<=60
theorem AW{k:Int}{t:List UInt8}{p:List UInt8×List UInt8}(h:wZ k t=some p):bY k 0 59=true:=by
 unfold wZ at h;split at h
 next h1=>exact h1
 next=>cases h
theorem V3{s:List UInt8}{v:RS}(h:RI s v):match bL s v with
  | .inl v'=>RI s v'/\(s.length-v'.1.toNat)<(s.length-v.1.toNat)
  | .inr r=>RI s r:=by
 obtain⟨h1,h2,h3⟩:=h;unfold bL;cases hb:aU (s.drop v.1.toNat) 10 with
 |true=>
  simp only[if_true];have hl:=n7 hb;rw[vA]at hl;cases hd:wZ (v.2.length:Int) (cC 10 (s.drop v.1.toNat))with
  |some p=>have:=isIn_iff.1 (AW hd);refine⟨⟨by simp only;omega,by simp only;omega,by simp only[xm,xl,lI];omega⟩,?_⟩;simp only;omega
  |none=>exact⟨h1,h2,h3⟩
 |false=>exact⟨h1,h2,h3⟩
theorem sB{s:List UInt8}(hs:aZ s){v:RS}(h:RI s v):(wvk s v).ev=some (bL s v):=by
 obtain⟨h1,h2,h3⟩:=h;have aa:=hs;unfold aZ at aa;obtain⟨off,recs⟩:=v;simp only at h1 h2 h3;unfold wvk bL;by_cases g1:off<(s.length:Int)
 ·by_cases g2:((recs.length:Nat):Int)<(60:Int)
  ·have g3:off<=(s.length:Int):=h2;simp(disch:=omega)only[EV,g1,g2,g3,h1,pM];have af:(s.drop off.toNat).length+off.toNat=s.length:=by rw[vA];omega
   generalize ab:s.drop off.toNat=rest at*;have ad:aZ rest:=by unfold aZ;omega
   obtain⟨ps,p1,p2,p3,p4⟩:=rN ad 10;have ae:Ow rest (10:Int)=some ps:=p1;have ah:(0:Int)<(ps.length:Int):=by omega
   have ai:=M7 10 rest;have hk:bY ((recs.length:Nat):Int) 0 59=true:=isIn_iff.2 ⟨by omega,by omega⟩;have z:Int.toNat (0:Int)=0:=rfl;simp(disch:=omega)only[EV,ae,p2,p3,z,H0 (t:=cC 10 rest) (by unfold aZ;omega) hk];cases hb:aU rest 10 with
   |false=>
    have e:((ps.length:Nat):Int)<2:=by have:=p4.2 hb;omega
    simp(disch:=omega)only[EV,e];rfl
   |true=>
    have e:¬((ps.length:Nat):Int)<2:=by intro h;have:=p4.1 (by omega);rw[hb]at this;cases this
    have hl:=n7 hb;unfold wZ;simp(disch:=omega)only[EV,e,hk];cases hd:(zG (cC 10 rest) ((recs.length:Nat):Int)).2.2 with
    |false=>simp(disch:=omega)only[EV];rfl
    |true=>
     have g4:(recs.length+List.length ([((zG (cC 10 rest) ((recs.length:Nat):Int)).1,(zG (cC 10 rest) ((recs.length:Nat):Int)).2.1)]:List (List UInt8×List UInt8)))*32<=140737488355328:=by simp only[xl,lI];omega
     simp(disch:=omega)only[EV,g4]
  ·have e:wZ ((recs.length:Nat):Int) (cC 10 (s.drop off.toNat))=none:=by unfold wZ;rw[qh];intro h;have:=isIn_iff.1 h;omega
   rw[e];simp(disch:=omega)only[EV,g1,g2];split<;>rfl
 ·have e:s.drop off.toNat=[]:=DW (by omega);rw[e];simp(disch:=omega)only[EV,g1];rfl
theorem L8{s:List UInt8}(hs:aZ s)(c:UInt8):∃y b,J5 s [c]=some (cC c.toNat s,y,b)/\aZ y/\(aU s c.toNat=true->y=l9 c.toNat s):=by
 have h:=EW hs c;have aa:=hs;unfold aZ at aa;cases hb:aU s c.toNat with
 |true=>rw[hb]at h;refine⟨_,_,h,?_,λ_=>rfl⟩;unfold aZ l9;rw[vA];omega
 |false=>rw[hb]at h;rw[Cg hb];exact⟨_,_,h,by unfold aZ;simp,λh=>by cases h⟩
theorem lQ{s:List UInt8}(hs:aZ s){v:RS}(h:RI s v):(HF s v).ev=some (bL s v):=by
 obtain⟨h1,h2,h3⟩:=h;have af:=hs;unfold aZ at af;obtain⟨off,recs⟩:=v;simp only at h1 h2 h3;unfold HF bL;have ah:BG (s.drop off.toNat) (10:Int)=some (if aU (s.drop off.toNat) 10 then((cC 10 (s.drop off.toNat)).length:Int)else-1):=H7 (s.drop off.toNat) 10;have az:(s.drop off.toNat).length+off.toNat=s.length:=by rw[vA];omega
 simp(disch:=omega)only[EV,h1,h2,pM,ah];cases hb:aU (s.drop off.toNat) 10 with
 |false=>
  have:(-1:Int)<0:=by omega
  simp only[rU,if_false];simp(disch:=omega)only[EV,this]
 |true=>
  simp only[if_true];have hl:=n7 hb;have g1:¬((cC 10 (s.drop off.toNat)).length:Int)<0:=by omega
  have g2:off<=off+((cC 10 (s.drop off.toNat)).length:Int)+1:=by omega
  have g3:off+((cC 10 (s.drop off.toNat)).length:Int)+1<=(s.length:Int):=by omega
  have g4:(0:Int)<=((cC 10 (s.drop off.toNat)).length:Int):=by omega
  have e1:List.drop off.toNat (List.take (off+((cC 10 (s.drop off.toNat)).length:Int)+1).toNat s)=cC 10 (s.drop off.toNat)++ [10]:=by rw[List.drop_take,show(off+((cC 10 (s.drop off.toNat)).length:Int)+1).toNat-off.toNat=(cC 10 (s.drop off.toNat)).length+1 by omega];exact Lo hb rfl
  simp(disch:=omega)only[EV,g1,g2,g3,g4,h1,e1];generalize ht:cC 10 (s.drop off.toNat)=t at*;have ai:aZ t:=by unfold aZ;omega
  have g5:((t.length:Nat):Int)<=((List.length (t++ [10]):Nat):Int):=by simp;omega
  have e2:List.take t.length (t++ [10])=t:=List.take_left' rfl;have hc:=M7 35 t;obtain⟨y0,b0,c0,_,_⟩:=L8 ai 35;have aj:J5 t ([35]:List UInt8)=some (cC 35 t,y0,b0):=c0;obtain⟨x,hx⟩:=qU (s:=cC 35 t) (by unfold aZ at*;omega);have hv:KH t=some (if x.2&&x.1==t then(cC 35 t,true)else([],false)):=by unfold KH HZ;simp(disch:=omega)only[EV,aj,hx];cases x.2<;>cases x.1==t<;>rfl
  simp(disch:=omega)only[EV,g5,e2,AP,hv];generalize hy:(if x.2&&x.1==t then(cC 35 t,true)else(([]:List UInt8),false))=y;have ak:aZ y.1:=by subst hy;unfold aZ at*;split<;>simp only[lI]<;>omega
  obtain⟨y1,b1,c1,s1,a1⟩:=L8 ak 32;have al:J5 y.1 ([32]:List UInt8)=some (cC 32 y.1,y1,b1):=c1;obtain⟨y2,b2,c2,s2,a2⟩:=L8 s1 64;have ao:J5 y1 ([64]:List UInt8)=some (cC 64 y1,y2,b2):=c2;have ba:=M7 64 y1;have s3:aZ (cC 64 y1):=by unfold aZ at*;omega
  simp(disch:=omega)only[EV,al,ao,jZ (k:=((recs.length:Nat):Int)) s3 s2];have g6:∀p:List UInt8×List UInt8,(recs.length+List.length ([p]:List (List UInt8×List UInt8)))*32<=140737488355328:=by intro p;simp only[xl,lI];omega
  cases hd:wZ ((recs.length:Nat):Int) t with
  |some p=>
   obtain⟨c,r⟩:=p;obtain⟨d1,d2,d3⟩:=Ra hd;have aa:=B3 d3;have ab:cC 35 t=fP ((recs.length:Nat):Int) c r:=by rw[aa];exact O5 (mR d2)
   obtain⟨_,_,ar,_,_,ra,rb⟩:=eK d2;have bb:=rW (c:=c) (r:=r) d1;have au:x=(t,true):=by have:=kR (s:=fP ((recs.length:Nat):Int) c r) (by omega) (mR d2);rw[ab,this,<-aa]at hx;exact(tM hx).symm
   have ae:y=(fP ((recs.length:Nat):Int) c r,true):=by rw[<-hy,au,ab];simp
   obtain⟨t1,t2,t3⟩:=Bj ((recs.length:Nat):Int) c r;have ad:y1=c++64::r:=by rw[a1 (by rw[ae];exact t3),ae];exact t2
   obtain⟨q1,q2,q3⟩:=W2 (r:=r) ar;have av:cC 64 y1=c:=by rw[ad];exact q1
   have aw:y2=r:=by rw[a2 (by rw[ad];exact q3),ad];exact q2
   have he:Bp ((recs.length:Nat):Int) c r=(t++ [10],true):=by unfold Bp Mr;rw[d1,d2,d3];rfl
   rw[av,aw,he];simp(disch:=omega)only[EV,qj,g6]
  |none=>
   unfold Bp;cases he:Mr ((recs.length:Nat):Int) (cC 64 y1) y2 with
   |false=>simp(disch:=omega)only[EV,rU]
   |true=>
    simp only[if_true];have ay:(line ((recs.length:Nat):Int) (cC 64 y1) y2==t++ [10])=false:=by rw[qf];intro heq;unfold Mr at he;simp only[xi]at he;have:=V8 ⟨he.1,he.2,heq⟩;rw[hd]at this;cases this
    simp(disch:=omega)only[EV,ay]
end
section
open Go
theorem Vj{c r:List UInt8}(n:Int){b:Int}(hc:(c.length:Int)<9223372036854775808)(hr:(r.length:Int)<9223372036854775808)(h0:0<=b)(h1:b<=1048576):Sz (SL c r n b) (aZ c/\aZ r):=by
 unfold SL YF aZ;simp(disch:=omega)only[EV];by_cases k:b-(c.length:Int)<0;·simp(disch:=omega)only[EV,k];exact⟨_,rfl,by omega,λh=>by omega⟩
 ·simp(disch:=omega)only[EV,k];by_cases k2:b-(c.length:Int) -(r.length:Int)<0;·simp(disch:=omega)only[EV,k2];exact⟨_,rfl,by omega,λh=>by omega⟩
  ·simp(disch:=omega)only[EV,k2];exact⟨_,rfl,by omega,λh=>by omega⟩
theorem Pd(c r:List UInt8)(n:Int):IS c r n=some (c,r,n):=by unfold IS GA;simp(disch:=omega)only[EV]
end
section
variable {o:List Int}{ds:List (List Int)}{s:List Int}{n:Int}
theorem EO{A B L:Type}(a:A)(k:A->Tr L)(k':B->Tr L):(Tr.s A B (.inl a) k k').ev=(k a).ev:=rfl
theorem C5(hf:Fld o ds)(hs:ris o.length s):0<=N5 o s/\N5 o s<=693:=by have hp:Places s o.length:=Places.of (hs.low hf.len) (ris_iff.2 hs);have:=uM (l:=List.range s.length) (f:=λk=>o.getD (pl s k) 0) (B:=99) (λk hk=>hf.cost _ (hp.pl (xau.1 hk)).2) 0;have h1:=hs.len;have h2:=hf.len;unfold N5;simp only[YQ]at this;omega
theorem Jg(hf:Fld o ds){s:List Int}(hs:Places s o.length)(h0:0<s.length):0<=Nt ds s/\Nt ds s<=99:=by unfold Nt;exact C2 (λa=>0<=a/\a<=99) (λa j hj h=>by have:=tD hf hs h0 (xau.1 hj);show 0<=max a (near ds s j)/\max a (near ds s j)<=99;omega) ⟨w7 _,by omega⟩
theorem nK{l:List Int}{b:Bool}(h:zO l):Tk l b=some (iY l,b):=by unfold Tk TT;simp(disch:=omega)only[EV,vZ h]
end
def rZ(c:UInt8):List UInt8->List (List UInt8)
 | []=>[[]]
 |x::s=>if x=c then[]::rZ c s else match rZ c s with
  | []=>[[x]]
  |h::t=>(x::h)::t
theorem iF(c:UInt8):∀s,∃h t,rZ c s=h::t
 | []=>⟨_,_,rfl⟩
 |x::s=>by
  unfold rZ;split;·exact⟨_,_,rfl⟩
  ·obtain⟨h,t,e⟩:=iF c s;rw[e];exact⟨_,_,rfl⟩
theorem Ha(c:UInt8):∀s,(rZ c s).length<=s.length+1
 | []=>xp _
 |x::s=>by
  have ih:=Ha c s;unfold rZ;split;·simp only[xl];omega
  ·obtain⟨h,t,e⟩:=iF c s;rw[e]at ih⊢;simp only[xl]at ih⊢;omega
theorem i8(x c:UInt8)(s:List UInt8):Lib.index (x::s) [c]=if x=c then 0 else if Lib.index s [c]== -1 then-1 else Lib.index s [c]+1:=by
 rw[Lib.index];by_cases e:x=c;·subst e;simp
 ·have:([c].isPrefixOf (x::s))=false:=by simp[List.isPrefixOf,wA e]
  rw[this,qh e];simp
theorem zF(c:UInt8):∀s:List UInt8,Lib.splitK [c] 0 (s.count c) s=rZ c s
 | []=>rfl
 |x::s=>by
  have ih:=zF c s;unfold rZ;by_cases e:x=c;·subst e;rw[qi rfl,List.count_cons_self,Lib.splitK,i8,qi rfl];simp[ih]
  ·rw[qh e,List.count_cons_of_ne e,<-ih];cases hn:s.count c with
   |zero=>rfl
   |succ k=>
    have hi:=Lib.index_ge s [c];rw[Lib.splitK,Lib.splitK,i8,qh e];by_cases h:Lib.index s [c]= -1;·rw[h];rfl
    ·have h1:(Lib.index s [c]== -1)=false:=beq_eq_false_iff_ne.2 h;have h2:(Lib.index s [c]+1== -1)=false:=beq_eq_false_iff_ne.2 (by omega);have h3:(Lib.index s [c]+1).toNat=(Lib.index s [c]).toNat+1:=by omega
     simp only[h1,h2,h3,rU,if_false];simp
theorem Is(c:UInt8)(s:List UInt8):Lib.split s [c]=rZ c s:=by unfold Lib.split;rw[Lib.count_one];exact zF c s
def M8(p:List UInt8):List (List UInt8)->List (List UInt8)
 | []=>[]
 |h::t=>(p++h)::t
theorem Sg{c:UInt8}{p s:List UInt8}{x:UInt8}(hx:x≠c):M8 p (rZ c (x::s))=M8 (p++ [x]) (rZ c s):=by obtain⟨h,t,e⟩:=iF c s;rw[rZ,qh hx,e];simp[M8]
theorem Rd{c:UInt8}{p s:List UInt8}:M8 p (rZ c (c::s))=p::M8 [] (rZ c s):=by obtain⟨h,t,e⟩:=iF c s;rw[rZ,qi rfl,e];simp[M8]
theorem Tf{c:UInt8}(s:List UInt8):M8 [] (rZ c s)=rZ c s:=by obtain⟨h,t,e⟩:=iF c s;rw[e];rfl
theorem Ad{s:List UInt8}(hs:s.length<=1000000)(c:UInt8):Ow s (c.toNat:Int)=some (rZ c s):=by
 obtain⟨r,k1,k2,k3⟩:=aJ (f:=λz=>(Wk (s,(c.toNat:Int)) z).ev) (n:=s.length) (λi (v:Int×List (List UInt8))=>(v.1,(i:Int),v.2)) (λi v=>∃j:Nat,v.1=(j:Int)/\j<=i/\v.2.length<=i/\v.2++M8 ((s.take i).drop j) (rZ c (s.drop i))=rZ c s)
  (λr=>∃j:Nat,r.1=(j:Int)/\j<=s.length/\r.2.length<=s.length/\r.2++ [s.drop j]=rZ c s) (s0:=((0:Int),([]:List (List UInt8))))
  ⟨0,rfl,xp _,xp _,by simp[Tf]⟩
  (λi v hi ⟨j,h1,h2,h3,h4⟩=>by
   left;have hd:=Im hi;have hg:s.getD i 0=s[i]:=by rw[xe,xh hi];rfl
   have aa:((((s.getD i 0).toNat:Nat):Int)==(c.toNat:Int))=decide (s.getD i 0=c):=by
    rw[j6];by_cases e:s.getD i 0=c;·rw[qc e,e];simp
    ·rw[qd e];exact beq_eq_false_iff_ne.2 λh=>e (xff.1 h)
   have hw:IntKind.wrap .i64 ((i:Int)+1)=((i+1:Nat):Int):=by rw[aV (by omega) (by omega)];rfl
   by_cases e:s.getD i 0=c
   ·refine⟨(((i+1:Nat):Int),v.2++ [(s.take i).drop j]),?_,i+1,rfl,xp _,by simp;omega,?_⟩
    ·have ab:∀x:List UInt8,List.length [x]=1:=λ_=>rfl;have hb:(v.2.length+1)*16<=140737488355328:=by omega
     have g1:(0:Int)<=(j:Int):=by omega
     have g2:(j:Int)<=(i:Int):=by omega
     have g3:(i:Int)<=(s.length:Int):=by omega
     unfold Wk;dsimp only;rw[qo,qc (show(i:Int)<((s.length:Nat):Int) by omega),qa,qp,show aB (i:Int) s.length=true from gF hi,qa,mZ,qo,aa,qc e,qa,h1,qp,qc g1,qc g2,qc g3,Wa,Wa,qa,qp,ab,qc hb,qa,qq,hw,mZ]
    ·have ad:(s.take (i+1)).drop (i+1)=[]:=DW (by rw[kN];omega);rw[<-h4,hd,<-hg,e,Rd];simp only[ad,Fy,xep]
   ·refine⟨v,?_,j,h1,by omega,by omega,?_⟩;·unfold Wk;dsimp only;rw[qo,qc (show(i:Int)<((s.length:Nat):Int) by omega),qa,qp,show aB (i:Int) s.length=true from gF hi,qa,mZ,qo,aa,qd e,qb,qq,hw]
    ·rw[<-h4,hd,Sg (by rw[<-hg];exact e)];congr 2;rw[Mj hi,List.drop_append_of_le_length (by rw[kN];omega)])
  (λv ⟨j,h1,h2,h3,h4⟩=>⟨v,by unfold Wk;dsimp only;rw[qo,qd (by omega),qb,qq],j,h1,h2,h3,by rw[<-h4,pM,BA];simp[rZ,M8]⟩)
 obtain⟨h1,h2,h3,h4⟩:=k3;have ae:QT (s,(c.toNat:Int)) ((0:Int),(0:Int),([]:List (List UInt8)))=some r:=k1;have ab:∀x:List UInt8,List.length [x]=1:=λ_=>rfl;have hb:(r.2.length+1)*16<=140737488355328:=by omega
 have g1:(0:Int)<=(k2:Int):=by omega
 have g2:(k2:Int)<=((s.length:Nat):Int):=by omega
 unfold Ow Ye;rw[qn,ae,xc,h1,qp,qc g1,qc g2,Wa,qa,qp,ab,qc hb,qa,qq,mZ,pM,h4]
theorem Ey(u:Nat):Lib.decDigits u≠ []:=by rw[Lib.decDigits.eq_def];split<;>simp
def kL(a:Nat)(l:List UInt8):Nat:=l.foldl (λa c=>a*10+(c.toNat-48)) a
theorem xR:∀u:Nat,kL 0 (Lib.decDigits u)=u:=by
 intro u;induction u using Nat.strongRecOn with
 |ind u ih=>
  rw[Lib.decDigits.eq_def];by_cases h:u<10
  ·rw[dif_pos h];have:(UInt8.ofNat (48+u)).toNat=48+u:=by rw[xgj];omega
   show 0*10+((UInt8.ofNat (48+u)).toNat-48)=u;omega
  ·rw[dif_neg h];have h2:=ih (u/ 10) (by omega);have:(UInt8.ofNat (48+u % 10)).toNat=48+u % 10:=by rw[xgj];omega
   unfold kL at h2⊢;rw[BE,h2];simp[this];omega
theorem Gf:∀(l:List UInt8) (a:Nat),a<=kL a l
 | [],_=>xp _
 |c::l,a=>by have:=Gf l (a*10+(c.toNat-48));show a<=kL (a*10+(c.toNat-48)) l;omega
theorem sE:∀(l:List UInt8) (a:Nat),(∀c∈l,48<=c.toNat/\c.toNat<=57)->kL a l<1000000000->Lib.parseUint10 a l=.ok (kL a l)
 | [],_,_,_=>rfl
 |c::l,a,hd,hv=>by have hc:=hd c xz;have hge:=Gf l (a*10+(c.toNat-48));have e:kL a (c::l)=kL (a*10+(c.toNat-48)) l:=rfl;rw[e]at hv⊢;have ih:=sE l (a*10+(c.toNat-48)) (λx hx=>hd x (xw _ hx)) hv;rw[Lib.parseUint10,qi ⟨hc.1,hc.2⟩,qh (by omega),qh (by omega)];exact ih
theorem vO{u:Nat}(h:u<10000000):Lib.atoiAll (Lib.decDigits u)=.ok (u:Int)/\Lib.atoiAll (45::Lib.decDigits u)=.ok (-(u:Int)):=by
 have hp:Lib.parseMag (Lib.decDigits u)=.ok u:=by have h1:=sE (Lib.decDigits u) 0 (λc hc=>tK hc) (by rw[xR];omega);rw[xR]at h1;unfold Lib.parseMag;rw[qh (Ey u)];exact h1
 constructor;·obtain⟨c,r,e⟩:=List.exists_cons_of_ne_nil (Ey u);have hc:=tK (u:=u) (b:=c) (by rw[e];exact xz);rw[e,Lib.atoiAll_plain c r (by omega) (by omega),<-e,hp];exact qh (show¬9223372036854775808<=u by omega)
 ·rw[Lib.atoiAll_minus,hp];exact qh (show¬9223372036854775808<u by omega)
theorem wE{n:Int}(h: -999999<=n/\n<=999999):cX (Lib.itoa n)=(n,true):=by
 have e:Lib.atoiAll (Lib.itoa n)=.ok n:=by
  by_cases h0:0<=n
  ·obtain⟨u,rfl⟩:∃u:Nat,n=(u:Int):=⟨n.toNat,by omega⟩
   rw[Lib.itoa_nonneg];exact(vO (by omega)).1
  ·obtain⟨u,rfl⟩:∃u:Nat,n= -(u:Int):=⟨(-n).toNat,by omega⟩
   rw[Lib.itoa_neg u (by omega)];exact(vO (by omega)).2
 unfold cX;rw[e];dsimp only;rw[qi ⟨h.1,h.2,rfl⟩]
theorem gD(s:List UInt8):(∃n:Int,(-999999<=n/\n<=999999)/\Lib.itoa n=s/\cX s=(n,true))\/(cX s=(0,false)/\∀n:Int,-999999<=n->n<=999999->Lib.itoa n≠s):=by
 by_cases h:∃n:Int,(-999999<=n/\n<=999999)/\Lib.itoa n=s;·obtain⟨n,h1,h2⟩:=h;exact .inl ⟨n,h1,h2,by rw[<-h2];exact wE h1⟩
 ·refine .inr ⟨?_,λn h1 h2 e=>h ⟨n,⟨h1,h2⟩,e⟩⟩;unfold cX;split;·rw[qh];rintro⟨h1,h2,h3⟩;exact h ⟨_,⟨h1,h2⟩,h3⟩
  ·rfl
theorem lR{n:Int}(h: -999999<=n/\n<=999999):rT 1000000 n=some (Lib.itoa n):=by
 by_cases h0:0<=n
 ·obtain⟨u,rfl⟩:∃u:Nat,n=(u:Int):=⟨n.toNat,by omega⟩
  rw[Lib.itoa_nonneg,sI (by omega) (by omega)];rfl
 ·obtain⟨u,rfl⟩:∃u:Nat,n= -(u:Int):=⟨(-n).toNat,by omega⟩
  have ih:=tV 999999 u (by omega) (Xf (Hq (by omega)) (by omega));have hl:(Lib.decDigits u).length<=7:=fZ (by omega);rw[Lib.itoa_neg u (by omega)];show(Na (rT 999999) (-(u:Int))).ev=_;have hw:IntKind.wrap .i64 (0- -(u:Int))=(u:Int):=by rw[aV (by omega) (by omega)];omega
  have e4:List.length ([45]:List UInt8)+(Lib.decDigits u).length<=9223372036854775807:=by simp;omega
  unfold Na;rw[qo,qc (show-(u:Int)<0 by omega),qa,qn,hw,ih,xc,qp,qc e4,qa,qq];rfl
def tZ(l:List UInt8):Prop:=∀c∈l,48<=c.toNat/\c.toNat<=57
theorem Hu(l:List UInt8)(x:UInt8):kL 0 (l++ [x])=kL 0 l*10+(x.toNat-48):=by unfold kL;rw[BE];rfl
theorem Af:∀(l:List UInt8) (a:Nat),tZ l->kL a l<(a+1)*10^l.length
 | [],a,_=>by simp[kL]
 |c::l,a,h=>by have h1:=Af l (a*10+(c.toNat-48)) λx hx=>h x (xw _ hx);have h2:=h c xz;have h3:(a*10+(c.toNat-48)+1)*10^l.length<=((a+1)*10)*10^l.length:=Wf _ (by omega);show kL (a*10+(c.toNat-48)) l<_;rw[xl,Nat.pow_succ,xha (10^l.length) 10,<-Nat.mul_assoc];omega
theorem Fp(l:List UInt8)(h:tZ l):kL 0 l<10^l.length:=by have:=Af l 0 h;omega
theorem Oi{s t:List UInt8}(ht:t.length<=6):∃r,wxb (s,t) ((0:Int),(0:Int))=some r/\(tZ t->r=.inl ((kL 0 t:Nat):Int))/\(¬tZ t->r=.inr ()):=by
 obtain⟨r,k1,k2⟩:=aJ (f:=λz=>(NT (s,t) z).ev) (n:=t.length) (λi (a:Int)=>(a,(i:Int))) (λi a=>a=((kL 0 (t.take i):Nat):Int)/\tZ (t.take i)) (λr=>(tZ t->r=.inl ((kL 0 t:Nat):Int))/\(¬tZ t->r=.inr ())) (s0:=(0:Int))
  ⟨rfl,λc hc=>by simp at hc⟩
  (λi a hi ⟨h1,h2⟩=>by
   have hg:t.getD i 0=t[i]:=by rw[xe,xh hi];rfl
   have aa:t[i]∈t:=xeh hi;by_cases c1:((t.getD i 0).toNat:Int)<48;·right;refine⟨.inr (),?_,λh=>absurd (h _ aa) (by rw[<-hg];omega),λ_=>rfl⟩;simp(disch:=omega)only[EV,NT,hi,c1]
   ·by_cases c2:(57:Int)<((t.getD i 0).toNat:Int);·right;refine⟨.inr (),?_,λh=>absurd (h _ aa) (by rw[<-hg];omega),λ_=>rfl⟩;simp(disch:=omega)only[EV,NT,hi,c1,c2]
    ·left;have hv:=Fp _ h2;have hp:10^(t.take i).length<=10^6:=ZT (by omega) (by rw[kN];omega);have ab:IntKind.wrap .u8 (((t.getD i 0).toNat:Int) -48)=((t.getD i 0).toNat:Int) -48:=by show(((t.getD i 0).toNat:Int) -48) % 256=_;omega
     refine⟨10*a+(((t.getD i 0).toNat:Int) -48),?_,?_,?_⟩;·simp(disch:=omega)only[EV,NT,hi,c1,c2,ab];rfl
     ·rw[Mj hi,Hu,h1,<-hg];omega
     ·rw[Mj hi];intro c hc;rcases xaa.1 hc with hc|hc;·exact h2 c hc
      ·rw[xx.1 hc,<-hg];omega)
  (λa ⟨h1,h2⟩=>⟨.inl a,by simp(disch:=omega)only[EV,NT,xj],λ_=>by rw[h1,pM],λh=>absurd (by rw[pM]at h2;exact h2) h⟩)
 exact⟨r,k1,k2⟩
theorem Gy(s:List UInt8){t:List UInt8}(ht:1<=t.length/\t.length<=6):∃r,wxb (s,t) ((0:Int),(0:Int))=some r/\((∃m:Nat,r=.inl (m:Int)/\m<=999999/\m=kL 0 t/\tZ t)\/(r=.inr ()/\¬tZ t)):=by
 obtain⟨r,e,h1,h2⟩:=Oi (s:=s) ht.2;refine⟨r,e,?_⟩;by_cases hd:tZ t;·have hv:=Fp t hd;have hp:10^t.length<=10^6:=ZT (by omega) ht.2;exact .inl ⟨kL 0 t,h1 hd,by omega,rfl,hd⟩
 ·exact .inr ⟨h2 hd,hd⟩
theorem D9{s:List UInt8}{n:Int}(h: -999999<=n/\n<=999999):cX s=if Lib.itoa n=s then(n,true)else cX s:=by
 split
 ·next e=>rw[<-e];exact wE h
 ·rfl
theorem sP(u:Nat):tZ (Lib.decDigits u):=λ_ hc=>tK hc
theorem yG{u:Nat}(h:u<=999999):1<=(Lib.decDigits u).length/\(Lib.decDigits u).length<=6:=by rw[Lib.decDigits_length];exact⟨Lib.nDigits_pos u,L1 5 u (by omega)⟩
theorem Iw{s:List UInt8}(hs:s.length<=1000000):IQ s=some (cX s):=by
 -- bI a sign
 have plain:(∀c,s[0]? =some c->1<s.length->c≠45)->(Al ((s.length:Nat):Int) 1 6).bind (λr=>(bif !r then Tr.l ((0:Int),false)else .c ((Int)⊕(Unit)) (wxb (s,s) ((0:Int),(0:Int))) λah=>
   .s (Int) (Unit) ah (λab=>.t (decide (((List.length s:Nat):Int)<((List.length s:Nat):Int)))
        (.c (List UInt8) (rT 1000000 (IntKind.wrap .i64 (0-ab))) λai=>.t (!(ai==s)) (.l ((0:Int),false)) (.l ((IntKind.wrap .i64 (0-ab)),true)))
        (.c (List UInt8) (rT 1000000 ab) λaj=>.t (!(aj==s)) (.l ((0:Int),false)) (.l (ab,true))))
    (λ_=>.l ((0:Int),false))).ev)=some (cX s):=λad=>by
  rw[fG,xc];have ae:¬(1<=s.length/\s.length<=6)\/¬tZ s->cX s=(0,false):=λh=>by
   rcases gD s with⟨n,hn,he,_⟩|⟨hp,_⟩
   ·exfalso;by_cases h0:0<=n
    ·obtain⟨u,rfl⟩:∃u:Nat,n=(u:Int):=⟨n.toNat,by omega⟩
     rw[Lib.itoa_nonneg]at he;subst he;rcases h with h|h;·exact h (yG (by omega))
     ·exact h (sP u)
    ·obtain⟨u,rfl⟩:∃u:Nat,n= -(u:Int):=⟨(-n).toNat,by omega⟩
     rw[Lib.itoa_neg u (by omega)]at he;subst he;exact ad 45 rfl (by have:=(yG (u:=u) (by omega)).1;simp;omega) rfl
   ·exact hp
  by_cases hl:1<=s.length/\s.length<=6
  ·have hi:bY ((s.length:Nat):Int) 1 6=true:=isIn_iff.2 (by omega);obtain⟨r,e,⟨m,rfl,hm,hv,hd⟩|⟨rfl,hd⟩⟩:=Gy s hl
   ·rw[hi,xq,qb,qn,e,xc,EO,qo,qd (BN _),qb,qn,lR (by omega),xc,qo,D9 (n:=(m:Int)) (by omega)];by_cases hq:Lib.itoa (m:Int)=s;·rw[qi hq,hq];simp
    ·have:(Lib.itoa (m:Int)==s)=false:=beq_eq_false_iff_ne.2 hq;rw[qh hq,this,mM,qa,qq];rcases gD s with⟨n,hn,he,hp⟩|⟨hp,_⟩
     ·exfalso;by_cases h0:0<=n
      ·obtain⟨u,rfl⟩:∃u:Nat,n=(u:Int):=⟨n.toNat,by omega⟩
       have aa:=he;rw[Lib.itoa_nonneg]at aa;have:kL 0 s=u:=by rw[<-aa,xR]
       rw[hv,this]at hq;exact hq he
      ·obtain⟨u,rfl⟩:∃u:Nat,n= -(u:Int):=⟨(-n).toNat,by omega⟩
       rw[Lib.itoa_neg u (by omega)]at he;have:=hd 45 (by rw[<-he];exact xz);simp at this
     ·rw[hp]
   ·rw[hi,xq,qb,qn,e,xc,ae (.inr hd)];rfl
  ·have hi:bY ((s.length:Nat):Int) 1 6=false:=by rw[xes];intro h;have:=isIn_iff.1 h;omega
   rw[hi,mM,qa,qq,ae (.inl hl)]
 unfold IQ OW;by_cases h1:1<s.length
 ·rw[qo,qc (show(1:Int)<((s.length:Nat):Int) by omega),qa,qp,show aB (0:Int) s.length=true from bM (by omega) (by omega),qa,qo];by_cases ad:s.getD 0 0=45
  ·have af:(((List.getD s (Int.toNat 0) 0).toNat:Int)==45)=true:=by show(((s.getD 0 0).toNat:Int)==45)=true;rw[ad];rfl
   obtain⟨t,rfl⟩:∃t,s=45::t:=by
    cases s with
    |nil=>simp at h1
    |cons c t=>exact⟨t,by rw[show c=45 from ad]⟩
   have et:List.drop (Int.toNat 1) (List.take (List.length (45::t)) (45::t))=t:=by rw[pM];rfl
   have g1:(decide ((0:Int)<=1)&&decide ((1:Int)<=(((45::t).length:Nat):Int)))=true:=by rw[qc (show(1:Int)<=(((45::t).length:Nat):Int) by omega)];rfl
   rw[af,qa,qp,g1,qa,et,qn,fG,xc,qo];have ae:¬(1<=t.length/\t.length<=6)\/¬tZ t->cX (45::t)=(0,false):=λh=>by
    rcases gD (45::t)with⟨n,hn,he,_⟩|⟨hp,_⟩
    ·exfalso;by_cases h0:0<=n
     ·obtain⟨u,rfl⟩:∃u:Nat,n=(u:Int):=⟨n.toNat,by omega⟩
      rw[Lib.itoa_nonneg]at he;have:=sP u 45 (by rw[he];exact xz);simp at this
     ·obtain⟨u,rfl⟩:∃u:Nat,n= -(u:Int):=⟨(-n).toNat,by omega⟩
      rw[Lib.itoa_neg u (by omega)]at he;injection he with _ he;subst he;rcases h with h|h;·exact h (yG (by omega))
      ·exact h (sP u)
    ·exact hp
   by_cases hl:1<=t.length/\t.length<=6
   ·have hi:bY ((t.length:Nat):Int) 1 6=true:=isIn_iff.2 (by omega);obtain⟨r,e,⟨m,rfl,hm,hv,hd⟩|⟨rfl,hd⟩⟩:=Gy (45::t) hl
    ·have ak:((t.length:Nat):Int)<(((45::t).length:Nat):Int):=by rw[xl];omega
     have hw:IntKind.wrap .i64 (0-(m:Int))= -(m:Int):=by rw[aV (by omega) (by omega)];omega
     rw[hi,xq,qb,qn,e,xc,EO,qo,qc ak,qa,hw,qn,lR (by omega),xc,qo,D9 (n:= -(m:Int)) (by omega)];by_cases hq:Lib.itoa (-(m:Int))=45::t;·rw[qi hq,hq];simp
     ·have:(Lib.itoa (-(m:Int))==45::t)=false:=beq_eq_false_iff_ne.2 hq;rw[qh hq,this,mM,qa,qq];rcases gD (45::t)with⟨n,hn,he,hp⟩|⟨hp,_⟩
      ·exfalso;by_cases h0:0<=n
       ·obtain⟨u,rfl⟩:∃u:Nat,n=(u:Int):=⟨n.toNat,by omega⟩
        rw[Lib.itoa_nonneg]at he;have:=sP u 45 (by rw[he];exact xz);simp at this
       ·obtain⟨u,rfl⟩:∃u:Nat,n= -(u:Int):=⟨(-n).toNat,by omega⟩
        have aa:=he;rw[Lib.itoa_neg u (by omega)]at aa;injection aa with _ aa;have:kL 0 t=u:=by rw[<-aa,xR]
        rw[hv,this]at hq;exact hq he
      ·rw[hp]
    ·rw[hi,xq,qb,qn,e,xc,ae (.inr hd)];rfl
   ·have hi:bY ((t.length:Nat):Int) 1 6=false:=by rw[xes];intro h;have:=isIn_iff.1 h;omega
    rw[hi,mM,qa,qq,ae (.inl hl)]
  ·have af:(((List.getD s (Int.toNat 0) 0).toNat:Int)==45)=false:=by refine beq_eq_false_iff_ne.2 λh=>ad (xff.1 ?_);have h':((s.getD 0 0).toNat:Int)=45:=h;show(s.getD 0 0).toNat=45;omega
   rw[af,qb];refine Eq.trans ?_ (plain λc hc _ e=>ad (by rw[xe,hc,e];rfl));rw[qn];congr 1;funext r;cases r<;>rfl
 ·rw[qo,qd (show¬(1:Int)<((s.length:Nat):Int) by omega),qb];refine Eq.trans ?_ (plain λc _ h _=>h1 h);rw[qn];congr 1;funext r;cases r<;>rfl
theorem Ri{o:List Int}{ds:List (List Int)}{p:List Int}(hf:Fld o ds)(hp:PI o ds p){c:Nat}(hc:c<ds.length)(ch:Bool):∃g,IsMin o.length (kI o ds p c) g/\
  (BJ (ds,(ds.length:Int),o,ds) (ch,(c:Int),p)).ev=some (.inl (ch||decide (0<g),(c:Int)+1,p.set c (p.getD c 0+g))):=by
 have hl:=hp.len;have ao:=hf.clients;have hlen:=hf.len;have ab:c<p.length:=by omega
 have hr:=hf.rowLen c hc;have h1:=hp.val hf hc;obtain⟨q,q1,q2,q3⟩:=Pi hf hp;obtain⟨⟨nx,b⟩,k1,k2,k3⟩:=aJ (f:=λv=>(Wm (ch,(c:Int),ds,(ds.length:Int),(c:Int),ds.getD c [],((ds.getD c []).length:Int),o,ds,p,q) v).ev) (n:=(ds.getD c []).length) (λi (a:Int×Int)=>(a.1,a.2,(i:Int)))
  (λi a=>RM i (λs=>p.getD c 0<at2 ds c s) (at2 ds c) a.1/\RM i (λs=>at2 ds c s<=p.getD c 0) (λs=>o.getD s 0-rV ds p s) a.2)
  (λa=>RM o.length (λs=>p.getD c 0<at2 ds c s) (at2 ds c) a.1/\RM o.length (λs=>at2 ds c s<=p.getD c 0) (λs=>o.getD s 0-rV ds p s) a.2) (s0:=((-1:Int),(-1:Int))) ⟨RM.zero _ _,RM.zero _ _⟩
  (λi a hi ⟨m1,m2⟩=>by
   left;obtain⟨nx,b⟩:=a;simp only at m1 m2;have ae:i<o.length:=by omega
   have af:i<q.length:=by omega
   have h2:=hf.at2 hc ae;have e3:(ds.getD c []).getD i 0=at2 ds c i:=rfl;have e4:=q3 i ae;have al:=hp.room i ae;by_cases hn:p.getD c 0<at2 ds c i
   ·have aa:¬at2 ds c i<=p.getD c 0:=by omega
    have ah:=m2.skip aa;by_cases c1:nx<0;·refine⟨(at2 ds c i,b),?_,m1.take hn h2.1 (.inl c1),ah⟩;simp(disch:=omega)only[EV,Wm,hi,ab,e3,hn,aa,c1];rfl
    ·by_cases c2:at2 ds c i<nx;·refine⟨(at2 ds c i,b),?_,m1.take hn h2.1 (.inr c2),ah⟩;simp(disch:=omega)only[EV,Wm,hi,ab,e3,hn,aa,c1,c2];rfl
     ·refine⟨(nx,b),?_,m1.keep c1 c2,ah⟩;simp(disch:=omega)only[EV,Wm,hi,ab,e3,hn,aa,c1,c2];rfl
   ·have aa:at2 ds c i<=p.getD c 0:=by omega
    have ai:=m1.skip hn;by_cases c1:b<0;·refine⟨(nx,o.getD i 0-rV ds p i),?_,ai,m2.take aa (by show(0:Int)<=o.getD i 0-rV ds p i;omega) (.inl c1)⟩;simp(disch:=omega)only[EV,Wm,hi,ab,af,e3,e4,hn,aa,c1];rfl
    ·by_cases c2:o.getD i 0-rV ds p i<b;·refine⟨(nx,o.getD i 0-rV ds p i),?_,ai,m2.take aa (by show(0:Int)<=o.getD i 0-rV ds p i;omega) (.inr c2)⟩;simp(disch:=omega)only[EV,Wm,hi,ab,af,e3,e4,hn,aa,c1,c2];rfl
     ·refine⟨(nx,b),?_,ai,m2.keep c1 c2⟩;simp(disch:=omega)only[EV,Wm,hi,ab,af,e3,e4,hn,aa,c1,c2];rfl)
  (λa ha=>⟨a,by simp only[Wm,BN,decide_false,qo,qb,qq],by rw[<-hr];exact ha⟩)
 have aj:aBF (ch,(c:Int),ds,(ds.length:Int),(c:Int),ds.getD c [],((ds.getD c []).length:Int),o,ds,p,q) ((-1:Int),(-1:Int),(0:Int))=some (nx,b):=k1;simp only at k2 k3
 -- some site is near
 have hb:0<=b/\(∀s,s<o.length->at2 ds c s<=p.getD c 0->b<=o.getD s 0-rV ds p s)/\∃s,s<o.length/\at2 ds c s<=p.getD c 0/\b=o.getD s 0-rV ds p s:=by
  rcases k3 with⟨_,h⟩|h;·obtain⟨s,a1,a2⟩:=hp.near c hc;exact absurd a2 (h s a1)
  ·exact h
 obtain⟨b0,b1,s,b2,b3,b4⟩:=hb;have b5:=hf.cost s b2;have b6:0<=rV ds p s:=(jE (ds:=ds) (p:=p) (s:=s) ds.length).1;by_cases ad:0<=nx
 ·obtain⟨a0,a1,t,a2,a3,a4⟩:0<=nx/\(∀s,s<o.length->p.getD c 0<at2 ds c s->nx<=at2 ds c s)/\∃s,s<o.length/\p.getD c 0<at2 ds c s/\nx=at2 ds c s:=by
   rcases k2 with⟨h,_⟩|h;·omega
   ·exact h
  by_cases ak:nx<p.getD c 0+b
  ·refine⟨nx-p.getD c 0,⟨λu hu=>?_,t,a2,?_⟩,?_⟩
   ·unfold kI;split
    next h=>have:=b1 u hu h;omega
    next h=>have:=a1 u hu (by omega);omega
   ·unfold kI;rw[qh (by omega),a4]
   ·have e1:p.getD c 0+(nx-p.getD c 0)=nx:=by omega
    have e2:decide (0<nx-p.getD c 0)=decide (p.getD c 0<nx):=by rw[Oa,qe,qe];omega
    rw[e1,e2];simp(disch:=omega)only[EV,BJ,hc,q1,aj,ab,ad,ak];cases ch<;>rfl
  ·refine⟨b,⟨λu hu=>?_,s,b2,?_⟩,?_⟩
   ·unfold kI;split
    next h=>exact b1 u hu h
    next h=>have:=a1 u hu (by omega);omega
   ·unfold kI;rw[qi b3,b4]
   ·have e2:decide (0<b)=decide (p.getD c 0<p.getD c 0+b):=by rw[Oa,qe,qe];omega
    rw[e2];simp(disch:=omega)only[EV,BJ,hc,q1,aj,ab,ad,ak];cases ch<;>rfl
 ·refine⟨b,⟨λu hu=>?_,s,b2,?_⟩,?_⟩
  ·unfold kI;split
   next h=>exact b1 u hu h
   next h=>
    rcases k2 with⟨_,h2⟩|⟨h2,_⟩
    ·exact absurd (by omega) (h2 u hu)
    ·exact absurd h2 ad
  ·unfold kI;rw[qi b3,b4]
  ·have e2:decide (0<b)=decide (p.getD c 0<p.getD c 0+b):=by rw[Oa,qe,qe];omega
   rw[e2];simp(disch:=omega)only[EV,BJ,hc,q1,aj,ab,ad];cases ch<;>rfl
theorem So{p:List Int}{c:Nat}(hc:c<p.length):p.set c (p.getD c 0)=p:=by rw[xe,xh hc,wJ,List.set_getElem_self]
theorem Bi{o:List Int}{ds:List (List Int)}{p:List Int}(hf:Fld o ds)(hp:PI o ds p){c:Nat}(hc:c<ds.length)(ch:Bool):∃ab p',PI o ds p'/\fQ p ds.length<=fQ p' ds.length/\(ab=true->ch=true\/fQ p ds.length<fQ p' ds.length)/\
  (BJ (ds,(ds.length:Int),o,ds) (ch,(c:Int),p)).ev=some (.inl (ab,(c:Int)+1,p'))/\
  (HC (o,ds) (ch,(c:Int),p)).ev=some (.inl (ab,(c:Int)+1,p')):=by
 have hl:=hp.len;have af:=hf.clients;have aa:c<p.length:=by omega
 have h1:=hp.val hf hc;obtain⟨g,g1,g2⟩:=Ri hf hp hc ch;obtain⟨g',g3,g4⟩:=Ii hf hp hc;obtain rfl:=g1.uniq g4;obtain⟨h0,hs⟩:=hp.step hc g1;have h2:=hs.val hf hc;rw[cY p aa,qi rfl]at h2;have ad:=O1 aa (p.getD c 0+g) ds.length;rw[qi hc]at ad;refine⟨ch||decide (0<g),_,hs,by omega,λh=>?_,g2,?_⟩
 ·simp only[M9,qe]at h;rcases h with h|h;·exact .inl h
  ·exact .inr (by omega)
 ·by_cases hg:0<g;·simp(disch:=omega)only[EV,HC,aa,g3,hg];rw[Bool.or_true]
  ·have ae:g=0:=by omega
   subst ae;rw[xfq,So aa];simp(disch:=omega)only[EV,HC,aa,g3,hg];rw[YA]
theorem zZ{o:List Int}{ds:List (List Int)}(hf:Fld o ds):∀(k i:Nat) (ch:Bool) (p:List Int),i+k=ds.length->PI o ds p->∃aa p',PI o ds p'/\fQ p ds.length<=fQ p' ds.length/\(aa=true->ch=true\/fQ p ds.length<fQ p' ds.length)/\
  aC (λv=>(BJ (ds,(ds.length:Int),o,ds) v).ev) (ch,(i:Int),p)=some (aa,p')/\
  aC (λv=>(HC (o,ds) v).ev) (ch,(i:Int),p)=some (aa,p')
 |0,i,ch,p,hk,hp=>by
  have hl:=hp.len;obtain rfl:i=ds.length:=by omega
  refine⟨ch,p,hp,w7 _,λh=>.inl h,?_,?_⟩;·rw[aL];simp(disch:=omega)only[EV,BJ,xj]
  ·rw[aL];simp(disch:=omega)only[EV,HC,hl,xj]
 |k+1,i,ch,p,hk,hp=>by
  obtain⟨c1,p1,q1,q2,q3,q4,q5⟩:=Bi hf hp (show i<ds.length by omega) ch;obtain⟨c2,p2,r1,r2,r3,r4,r5⟩:=zZ hf k (i+1) c1 p1 (by omega) q1;refine⟨c2,p2,r1,by omega,λh=>?_,?_,?_⟩
  ·rcases r3 h with h|h
   ·rcases q3 h with h|h;·exact .inl h
    ·exact .inr (by omega)
   ·exact .inr (by omega)
  ·rw[aL];simp only[q4];exact r4
  ·rw[aL];simp only[q5];exact r5
theorem Z7{o:List Int}{ds:List (List Int)}(hf:Fld o ds):∀(m:Nat) (p:List Int),(1386-fQ p ds.length).toNat=m->PI o ds p->∃r,PI o ds r/\
  aC (λv=>(UP (o,ds) v).ev) (true,p)=some r/\aC (λv=>(Xj (o,ds) v).ev) (true,p)=some r:=by
 intro m;induction m using Nat.strongRecOn with
 |_ m ih=>
  intro p hm hp;obtain⟨ch,p',r1,r2,r3,r4,r5⟩:=zZ hf ds.length 0 false p (by omega) hp;have aa:aAs (ds,(ds.length:Int),o,ds) (false,(0:Int),p)=some (ch,p'):=r4;have ab:aCO (o,ds) (false,(0:Int),p)=some (ch,p'):=r5;rw[aL,aL (λv=>(Xj (o,ds) v).ev)];have s1:(UP (o,ds) (true,p)).ev=some (.inl (ch,p')):=by simp(disch:=omega)only[EV,UP,aa]
  have s2:(Xj (o,ds) (true,p)).ev=some (.inl (ch,p')):=by simp(disch:=omega)only[EV,Xj,ab]
  simp only[s1,s2];cases ch with
  |true=>
   rcases r3 rfl with h|h;·cases h
   ·have hb:=oU r1 hf ds.length (xp _);have hb0:=oU hp hf ds.length (xp _);have ad:=hf.clients;exact ih _ (by omega) p' rfl r1
  |false=>
   rw[aL,aL (λv=>(Xj (o,ds) v).ev)];have t1:(UP (o,ds) (false,p')).ev=some (.inr p'):=by simp(disch:=omega)only[EV,UP]
   have t2:(Xj (o,ds) (false,p')).ev=some (.inr p'):=by simp(disch:=omega)only[EV,Xj]
   simp only[t1,t2];exact⟨p',r1,rfl,rfl⟩
theorem GU{l:List Int}(h0:0<l.length)(hl:(l.length:Int)<=1000000):∃m,Ju l=some m/\IsMin l.length (λi=>l.getD i 0) m:=by
 obtain⟨r,k1,k2⟩:=aJ (f:=λv=>(Zg l v).ev) (n:=l.length-1) (λi (a:Int)=>(a,((i+1:Nat):Int))) (λi a=>IsMin (i+1) (λi=>l.getD i 0) a) (λa=>IsMin l.length (λi=>l.getD i 0) a) (s0:=l.getD 0 0)
  ⟨λs hs=>by
   obtain rfl:s=0:=by omega
   exact w7 _,0,by omega,rfl⟩
  (λi a hi ⟨a1,s,a2,a3⟩=>by
   left;have aa:i+1<l.length:=by omega
   by_cases hx:l.getD (i+1) 0<a;·refine⟨l.getD (i+1) 0,?_,all_succ.2 ⟨λs hs=>by have:=a1 s hs;simp only at this⊢;omega,w7 _⟩,i+1,by omega,rfl⟩;simp(disch:=omega)only[EV,Zg,aa,hx];rfl
   ·refine⟨a,?_,all_succ.2 ⟨a1,by simp only;omega⟩,s,by omega,a3⟩;simp(disch:=omega)only[EV,Zg,aa,hx];rfl)
  (λa ha=>⟨a,by
   have e:l.length-1+1=l.length:=by omega
   rw[e];simp(disch:=omega)only[EV,Zg,xj],by
   have e:l.length-1+1=l.length:=by omega
   rw[e]at ha;exact ha⟩)
 have ab:KI l (l.getD 0 0,(1:Int))=some r:=k1;refine⟨r,?_,k2⟩;unfold Ju Xl;have e1:¬(l.length:Int)<1:=by omega
 have e2:(0:Int)<(l.length:Int):=by omega
 have z:Int.toNat (0:Int)=0:=rfl;simp(disch:=omega)only[EV,e1,e2,z,ab]
theorem R0{o:List Int}{ds:List (List Int)}(hf:Fld o ds){c:Nat}(hc:c<ds.length)(a:List Int):∃m,aBr ((c:Int),o,ds,a) ((ds.getD c []).getD 0 0,(0:Int))=some m/\IsMin o.length (at2 ds c) m:=by
 have hr:=hf.rowLen c hc;have hlen:=hf.len;have aa:=hf.pos;obtain⟨r,k1,k2⟩:=aJ (f:=λv=>(wwg ((c:Int),o,ds,a) v).ev) (n:=o.length) (λi (a:Int)=>(a,(i:Int))) (λi a=>(∀s,s<i->a<=at2 ds c s)/\∃s,s<o.length/\a=at2 ds c s) (λa=>IsMin o.length (at2 ds c) a) (s0:=at2 ds c 0)
  ⟨λs hs=>absurd hs (by omega),0,by omega,rfl⟩
  (λi m hi ⟨a1,s,a2,a3⟩=>by
   left;have e3:(ds.getD c []).getD i 0=at2 ds c i:=rfl;refine⟨min m (at2 ds c i),?_,all_succ.2 ⟨λs hs=>by have:=a1 s hs;omega,by omega⟩,?_⟩;·simp(disch:=omega)only[EV,wwg,hi,hc,hr,e3,De];rfl
   ·by_cases h:m<=at2 ds c i;·exact⟨s,a2,by omega⟩
    ·exact⟨i,hi,by omega⟩)
  (λa ha=>⟨a,by simp(disch:=omega)only[EV,wwg,xj],ha⟩)
 exact⟨r,k1,k2⟩
theorem Bn{o:List Int}{ds:List (List Int)}(hf:Fld o ds):∃p,PI o ds p/\PC (o,ds) ((0:Int),[])=some p/\WW (ds,(ds.length:Int),o,ds) ((0:Int),[])=some p:=by
 have hlen:=hf.len;have af:=hf.pos;have ah:=hf.clients;have hex:∀c:Nat,∃m,c<ds.length->IsMin o.length (at2 ds c) m:=λc=>by
  by_cases hc:c<ds.length;·obtain⟨m,_,h⟩:=R0 hf hc [];exact⟨m,λ_=>h⟩
  ·exact⟨0,λh=>absurd h hc⟩
 have hg:=λc=>Classical.choose_spec (hex c);generalize ad:(λc=>Classical.choose (hex c))=g;have aa:∀c,c<ds.length->IsMin o.length (at2 ds c) (g c):=λc hc=>by rw[<-ad];exact hg c hc
 have e1:PC (o,ds) ((0:Int),[])=_:=iG (f:=λv=>(wwh (o,ds) v).ev) (n:=ds.length) (λi l=>((i:Int),l)) g (λl=>l) (λi l hi ae=>by
  have hr:=hf.rowLen i hi;obtain⟨m,m1,m2⟩:=R0 hf hi l;obtain rfl:=m2.uniq (aa i hi);have z:Int.toNat (0:Int)=0:=rfl;have hz:(0:Int)<((ds.getD i []).length:Int):=by omega
  have hs:(l.length+List.length ([g i]:List Int))*8<=140737488355328:=by simp only[xl,lI];omega
  simp(disch:=omega)only[EV,wwh,hi,z,hz,m1,hs];rfl) (λl _=>by simp(disch:=omega)only[EV,wwh,xj])
 have e2:WW (ds,(ds.length:Int),o,ds) ((0:Int),[])=_:=iG (f:=λv=>(Te (ds,(ds.length:Int),o,ds) v).ev) (n:=ds.length) (λi l=>((i:Int),l)) g (λl=>l) (λi l hi ae=>by
  have hr:=hf.rowLen i hi;obtain⟨m,m1,m2⟩:=GU (l:=ds.getD i []) (by omega) (by omega);rw[hr]at m2;obtain rfl:=(show IsMin o.length (at2 ds i) m from m2).uniq (aa i hi);have hs:(l.length+List.length ([g i]:List Int))*8<=140737488355328:=by simp only[xl,lI];omega
  simp(disch:=omega)only[EV,Te,hi,m1,hs];rfl) (λl _=>by simp(disch:=omega)only[EV,Te,xj])
 have ab:∀c,c<ds.length->((List.range ds.length).map g).getD c 0=g c:=λc hc=>by rw[xe,mY,Qe hc];rfl
 refine⟨(List.range ds.length).map g,⟨by simp,λc hc=>?_,λs hs=>?_⟩,e1,e2⟩;·obtain⟨_,s,a,b⟩:=aa c hc;exact⟨s,a,by rw[ab c hc,b];exact w7 _⟩
 ·have hz:∀k,k<=ds.length->fJ ds ((List.range ds.length).map g) s k=0:=by
   intro k;induction k with
   |zero=>intro _;rfl
   |succ k ih=>intro hk;have:=(aa k (by omega)).1 s hs;rw[fJ,ih (by omega),ab k (by omega),(dJ _).2.2 (by omega)];rfl
  unfold rV;rw[hz _ (xp _)];exact(hf.cost s hs).1
theorem vM{o:List Int}{ds:List (List Int)}(ho:aF o)(hd:cT ds)(hf:Fld o ds):∃p,PI o ds p/\AB o ds=some p/\Ya o ds=some (true,p):=by
 obtain⟨p,p1,p2,p3⟩:=Bn hf;obtain⟨r,r1,r2,r3⟩:=Z7 hf _ p rfl p1;have aa:aCI (o,ds) (true,p)=some r:=r2;have ab:aEZ (o,ds) (true,p)=some r:=r3;refine⟨r,r1,?_,?_⟩;·unfold AB SI;simp(disch:=omega)only[EV,p2,ab]
 ·unfold Ya UX;simp(disch:=omega)only[EV,cH ho hd,fieldB_iff.2 hf,p3,aa]
theorem Tx{o:List Int}{ds:List (List Int)}{p:List Int}(hf:Fld o ds)(hp:PI o ds p):XX p=some (fQ p p.length):=by
 have hl:=hp.len;have ab:=hf.clients;obtain⟨r,h1,h2⟩:=aJ (f:=λv=>(wwi p v).ev) (n:=p.length) (λi (a:Int)=>(a,(i:Int))) (λi a=>a=fQ p i) (λr=>r=fQ p p.length) (s0:=0) rfl
  (λi a hi ha=>by subst ha;left;have h3:=oU hp hf i (by omega);have h4:=hp.val hf (show i<ds.length by omega);refine⟨_,?_,rfl⟩;simp(disch:=omega)only[EV,wwi,hi];rfl)
  (λa ha=>⟨a,by simp(disch:=omega)only[EV,wwi,xj],ha⟩)
 subst h2;have aa:aDz p ((0:Int),(0:Int))=some (fQ p p.length):=h1;unfold XX VN;simp(disch:=omega)only[EV,aa]
theorem Yk{o:List Int}{ds:List (List Int)}{p:List Int}(hf:Fld o ds)(hp:PI o ds p):Le p=some (fQ p p.length):=by
 have hl:=hp.len;have ab:=hf.clients;obtain⟨r,h1,h2⟩:=aJ (f:=λv=>(DP (p,(p.length:Int)) v).ev) (n:=p.length) (λi (a:Int)=>(a,(i:Int))) (λi a=>a=fQ p i) (λr=>r=fQ p p.length) (s0:=0) rfl
  (λi a hi ha=>by subst ha;left;have h3:=oU hp hf i (by omega);have h4:=hp.val hf (show i<ds.length by omega);refine⟨_,?_,rfl⟩;simp(disch:=omega)only[EV,DP,hi];rfl)
  (λa ha=>⟨a,by simp(disch:=omega)only[EV,DP,xj],ha⟩)
 subst h2;have aa:RF (p,(p.length:Int)) ((0:Int),(0:Int))=some (fQ p p.length):=h1;unfold Le AZ;simp(disch:=omega)only[EV,aa]
section
variable {o:List Int}{ds:List (List Int)}{s:List Int}{n:Int}
theorem x7(sep x:List UInt8):∀{l:List (List UInt8)},l≠ []->Lib.join (l++ [x]) sep=Lib.join l sep++sep++x
 | [],h=>absurd rfl h
 |a::l,_=>by rw[Y7,Lib.join_cons,Lib.join_cons];unfold Lib.joinTail;simp[Fy]
theorem Vx{l:List Int}{i:Nat}(hi:i<l.length):bJ (l.take (i+1))=(if 0<i then bJ (l.take i)++ [32]else bJ (l.take i))++dg (l.getD i 0):=by
 have e:l.take (i+1)=l.take i++ [l.getD i 0]:=by rw[Mj hi,xe,xh hi];rfl
 unfold bJ;rw[e,TA,v9,PL];by_cases h0:0<i;·rw[qi h0,x7 [32] _ (by rw[Ne,xfz];intro h;have:=congrArg List.length h;rw[kN,lI]at this;omega)]
 ·rw[qh h0,show i=0 by omega,DQ,PL,v5,Lib.join_one,Lib.join_nil,v5]
theorem Pj{l:List Int}(h:zO l)(i:Nat):zO (l.take i):=⟨by have:=h.1;rw[kN];omega,λx hx=>h.2 x (Je hx)⟩
theorem Qd{x:Int}(h:0<=x/\x<1000000):rT 1000000 x=some (dg x):=by
 rw[lR (by omega)];obtain⟨u,rfl⟩:∃u:Nat,x=(u:Int):=⟨x.toNat,by omega⟩
 rw[Lib.itoa_nonneg];rfl
theorem n3{f:List UInt8×Int->Option ((List UInt8×Int)⊕List UInt8)}{l:List Int}(h:zO l)
  (hs:∀(i:Nat) (a:List UInt8),i<l.length->a.length<=56->f (a,(i:Int))=some (.inl ((if 0<i then a++ [32]else a)++dg (l.getD i 0),((i+1:Nat):Int)))) (he:∀a,f (a,((l.length:Nat):Int))=some (.inr a)):aC f (([]:List UInt8),(0:Int))=some (bJ l):=by
 obtain⟨r,k1,k2⟩:=aJ (f:=f) (n:=l.length) (λi (a:List UInt8)=>(a,(i:Int))) (λi a=>a=bJ (l.take i)) (λr=>r=bJ l) (s0:=[]) rfl
  (λi a hi ha=>.inl ⟨_,hs i a hi (by rw[ha];exact sH (Pj h i)),by rw[Vx hi,ha]⟩)
  (λa ha=>⟨a,he a,by rw[ha,pM]⟩)
 rw[<-k2];exact k1
theorem Y4{x:Int}(h:0<=x/\x<1000000):(dg x).length<=7:=fZ (by omega)
theorem yK{l:List Int}(h:zO l):Yg l=some (bJ l):=by
 have h7:=h.1;have k:aAB l (([]:List UInt8),(0:Int))=some (bJ l):=n3 h
  (λi a hi ha=>by
   have hx:=h.2 _ (aE (d:=0) hi);have e1:=Qd hx;have e2:=Y4 hx;have e3:([32]:List UInt8).length=1:=rfl;have e4:(a++ [32]).length=a.length+1:=by simp
   by_cases h0:0<i
   ·rw[qi h0];have g1:a.length+1<=9223372036854775807:=by omega
    have g2:a.length+1+(dg (l.getD i 0)).length<=9223372036854775807:=by omega
    have aa:(0:Int)<(i:Int):=by omega
    simp(disch:=omega)only[EV,wwm,hi,aa,e3,g1,e1,e4,g2];rfl
   ·rw[qh h0];have g2:a.length+(dg (l.getD i 0)).length<=9223372036854775807:=by omega
    have aa:¬(0:Int)<(i:Int):=by omega
    simp(disch:=omega)only[EV,wwm,hi,aa,e1,g2];rfl)
  (λa=>by simp(disch:=omega)only[EV,wwm,xj])
 unfold Yg HN;rw[qn,k,xc,qq]
theorem MH{l:List Int}(h:l≠ []):bJ l≠ []:=by
 cases l with
 |nil=>exact absurd rfl h
 |cons a l=>unfold bJ;rw[v9,Lib.join_cons];intro e;exact Ey _ (List.append_eq_nil_iff.1 e).1
theorem qM{l:List Int}(h:zO l):Lk l=some (iY l):=by
 have h7:=h.1;have k:aCC l (([]:List UInt8),(0:Int))=some (bJ l):=n3 h
  (λi a hi ha=>by
   have hx:=h.2 _ (aE (d:=0) hi);have e1:=Qd hx;have e2:=Y4 hx;have e3:([32]:List UInt8).length=1:=rfl;have e4:(a++ [32]).length=a.length+1:=by simp
   by_cases h0:0<i
   ·rw[qi h0];have g1:a.length+1<=9223372036854775807:=by omega
    have g2:a.length+1+(dg (l.getD i 0)).length<=9223372036854775807:=by omega
    have aa:(0:Int)<(i:Int):=by omega
    simp(disch:=omega)only[EV,wwe,hi,aa,e3,g1,e1,e4,g2];rfl
   ·rw[qh h0];have g2:a.length+(dg (l.getD i 0)).length<=9223372036854775807:=by omega
    have aa:¬(0:Int)<(i:Int):=by omega
    simp(disch:=omega)only[EV,wwe,hi,aa,e1,g2];rfl)
  (λa=>by simp(disch:=omega)only[EV,wwe,xj])
 unfold Lk FE iY;rw[qn,k,xc,qo];by_cases h0:l=[]
 ·subst h0;rfl
 ·have:(bJ l==([]:List UInt8))=false:=beq_eq_false_iff_ne.2 (MH h0);rw[qh h0,this,qb,qq]
theorem kF{l:List Int}{b:Bool}(h:zO l):Tz l b=some (if b then iY l else[63]):=by
 unfold Tz VF;cases b with
 |false=>rfl
 |true=>rw[qo,xq,qb,qn,qM h,xc,qq];rfl
theorem Ie{x:Int}{b:Bool}(h:b=true-> -999999<=x/\x<=999999):Dx x b=some (if b then Lib.itoa x else[63]):=by
 unfold Dx UE;cases b with
 |false=>rfl
 |true=>rw[qo,xq,qb,qn,lR (h rfl),xc,qq];rfl
def uX(o:List Int)(ds:List (List Int)):List UInt8:=Lib.join ((o::ds).map bJ) [32,47,32]
theorem Fld.fewO(hf:Fld o ds):zO o:=⟨hf.len,λx hx=>by obtain⟨i,hi,e⟩:=xca.1 hx;have:=hf.cost i hi;rw[xe,xh hi,wJ,e]at this;omega⟩
theorem Fld.fewR(hf:Fld o ds){i:Nat}(hi:i<ds.length):zO (ds.getD i []):=⟨by rw[hf.rowLen i hi];exact hf.len,λx hx=>by obtain⟨a,ha,e⟩:=xca.1 hx;have hr:=hf.rowLen i hi;have:0<=(ds.getD i []).getD a 0/\(ds.getD i []).getD a 0<=99:=hf.at2 hi (show a<o.length by omega);rw[xe (l:=ds.getD i []),xh ha,wJ,e]at this;omega⟩
theorem U2(hi:n.toNat<ds.length):Lib.join ((o::ds.take (n.toNat+1)).map bJ) [32,47,32]=Lib.join ((o::ds.take n.toNat).map bJ) [32,47,32]++ [32,47,32]++bJ (ds.getD n.toNat []):=by
 have e:ds.take (n.toNat+1)=ds.take n.toNat++ [ds.getD n.toNat []]:=cD [] hi;have e2:(o::ds.take n.toNat++ [ds.getD n.toNat []]).map bJ=(o::ds.take n.toNat).map bJ++ [bJ (ds.getD n.toNat [])]:=by rw[TA];rfl
 rw[e,<-Y7,e2,x7 _ _ (by simp)]
theorem B4(sep:List UInt8):∀l:List (List UInt8),(∀x∈l,x.length<=56)->(Lib.join l sep).length<=(56+sep.length)*l.length
 | [],_=>by simp[Lib.join_nil]
 | [x],h=>by rw[Lib.join_one];have:=h x (xx.2 rfl);simp only[xl,lI];omega
 |x::y::r,h=>by have ih:=B4 sep (y::r) λz hz=>h z (xw _ hz);have hx:=h x xz;rw[Lib.join_cons]at ih⊢;unfold Lib.joinTail at ih⊢;simp only[v9,List.flatten_cons,xm,xl,Nat.mul_add,sK]at ih⊢;omega
theorem i7(hf:Fld o ds)(k:Nat):(Lib.join ((o::ds.take k).map bJ) [32,47,32]).length<=1000:=by
 have h:=B4 [32,47,32] ((o::ds.take k).map bJ) λx hx=>by
  obtain⟨r,hr,rfl⟩:=xak.1 hx;rcases xaj.1 hr with rfl|hr;·exact sH hf.fewO
  ·obtain⟨i,hi,e⟩:=xca.1 (Je hr);have:=hf.fewR hi;rw[xe,xh hi,wJ,e]at this;exact sH this
 have hc:=hf.clients;have h2:((o::ds.take k).map bJ).length<=8:=by rw[An,xl,kN];omega
 have h3:(56+([32,47,32]:List UInt8).length)*((o::ds.take k).map bJ).length<=59*8:=xfk (by decide) h2;omega
theorem wL(ho:aF o)(hd:cT ds)(hf:Fld o ds):Yz o ds=some (uX o ds,true):=by
 have hc:=hf.clients;have k:aES (ds,((ds.length:Nat):Int)) ((0:Int),[bJ o])=some ((o::ds).map bJ):=by
  obtain⟨r,k1,k2⟩:=aJ (f:=λv=>(Vs (ds,((ds.length:Nat):Int)) v).ev) (n:=ds.length) (λi (a:List (List UInt8))=>((i:Int),a)) (λi a=>a=(o::ds.take i).map bJ) (λr=>r=(o::ds).map bJ) (s0:=[bJ o]) rfl
   (λi a hi ha=>by
    left;have e1:=jU (hf.fewR hi);have aa:∀x:List UInt8,List.length [x]=1:=λ_=>rfl;have ab:a.length=i+1:=by rw[ha,An,xl,kN];omega
    have hb:(a.length+1)*16<=140737488355328:=by omega
    refine⟨a++ [bJ (ds.getD i [])],?_,?_⟩;·simp(disch:=omega)only[EV,Vs,hi,e1,aa,hb];rfl
    ·rw[cD [] hi,<-Y7,TA,<-ha];rfl)
   (λa ha=>⟨a,by simp(disch:=omega)only[EV,Vs,xj],by rw[ha,pM]⟩)
  rw[<-k2];exact k1
 have hl:=i7 hf ds.length;rw[pM]at hl;have e2:Jy ((o::ds).map bJ) [32,47,32]=some (uX o ds):=by unfold Jy D0;rw[qi ⟨by rw[An,xl];omega,by omega⟩];rfl
 unfold Yz RR;rw[qn,cH ho hd,xc,fieldB_iff.2 hf,qo,xq,qb,qn,jU hf.fewO,xc,qn,k,xc,qn,e2,xc,qq]
theorem Lc(hf:Fld o ds):Zv o ds=some (uX o ds):=by
 have hc:=hf.clients;have k:aCn (o,ds) (bJ o,(0:Int))=some (uX o ds):=by
  obtain⟨r,k1,k2⟩:=aJ (f:=λv=>(wwn (o,ds) v).ev) (n:=ds.length) (λi (a:List UInt8)=>(a,(i:Int))) (λi a=>a=Lib.join ((o::ds.take i).map bJ) [32,47,32]) (λr=>r=uX o ds) (s0:=bJ o) (by rw[DQ];exact(Lib.join_one _ _).symm)
   (λi a hi ha=>by
    left;have e1:=yK (hf.fewR hi);have aa:a.length<=1000:=by rw[ha];exact i7 hf i
    have e3:([32,47,32]:List UInt8).length=3:=rfl;have e4:(a++ [32,47,32]).length=a.length+3:=by simp
    have e5:=sH (hf.fewR hi);have g1:a.length+3<=9223372036854775807:=by omega
    have g2:a.length+3+(bJ (ds.getD i [])).length<=9223372036854775807:=by omega
    refine⟨a++ [32,47,32]++bJ (ds.getD i []),?_,?_⟩;·simp(disch:=omega)only[EV,wwn,hi,e3,g1,e1,e4,g2];rfl
    ·have:=U2 (o:=o) (ds:=ds) (n:=(i:Int)) (by simpa using hi);rw[mZ]at this;rw[this,<-ha])
   (λa ha=>⟨a,by simp(disch:=omega)only[EV,wwn,xj],by rw[ha,pM];rfl⟩)
  rw[<-k2];exact k1
 unfold Zv QY;rw[qn,yK hf.fewO,xc,qn,k,xc,qq]
def wK(ds:List (List Int))(a b:Nat):Nat:=dA (λi=>at2 ds i a<at2 ds i b) ds.length
def nT(ds:List (List Int))(n a:Nat):Bool:=(List.range n).any λb=>decide ((wK ds a b:Int)<(wK ds b a:Int))
def Ic(ds:List (List Int))(n:Nat):List Int:=(List.range n).foldl (λacc a=>bif nT ds n a then acc else acc++ [(a:Int)]) []
theorem Qq{n:Nat}(hn:n<=7):zO (Ic ds n):=by
 have key:∀m,m<=n->((List.range m).foldl (λacc a=>bif nT ds n a then acc else acc++ [(a:Int)]) []).length<=m/\∀x∈(List.range m).foldl (λacc a=>bif nT ds n a then acc else acc++ [(a:Int)]) [],0<=x/\x<(m:Int):=by
  intro m;induction m with
  |zero=>intro _;exact⟨xp _,λx h=>by cases h⟩
  |succ m ih=>
   intro hm;obtain⟨h1,h2⟩:=ih (by omega);rw[aR];cases nT ds n m with
   |true=>exact⟨by rw[qa];omega,λx hx=>by have:=h2 x hx;omega⟩
   |false=>
    rw[qb];refine⟨by rw[xm,ZC];omega,λx hx=>?_⟩;rcases xaa.1 hx with hx|hx;·have:=h2 x hx;omega
    ·rw[xx.1 hx];omega
 obtain⟨h1,h2⟩:=key n (xp _);exact⟨Xf h1 hn,λx hx=>by have:=h2 x hx;omega⟩
theorem X9{f:Bool×Int->Option ((Bool×Int)⊕Bool)}{n:Nat}(q:Nat->Bool)(hs:∀(i:Nat) (c:Bool),i<n->f (c,(i:Int))=some (.inl (c||q i,((i+1:Nat):Int))))(he:∀c,f (c,(n:Int))=some (.inr c)):aC f (false,(0:Int))=some ((List.range n).any q):=by
 obtain⟨r,k1,k2⟩:=aJ (f:=f) (n:=n) (λi (c:Bool)=>(c,(i:Int))) (λi c=>c=(List.range i).any q) (λr=>r=(List.range n).any q) (s0:=false) rfl
  (λi c hi hc=>.inl ⟨_,hs i c hi,by rw[KK,xhf,hc];simp⟩)
  (λc hc=>⟨c,he c,hc⟩)
 rw[<-k2];exact k1
theorem W9{f:Int×List Int->Option ((Int×List Int)⊕List Int)}{n:Nat}(hs:∀(i:Nat) (c:List Int),i<n->c.length<=i->f ((i:Int),c)=some (.inl (((i+1:Nat):Int),bif nT ds n i then c else c++ [(i:Int)])))(he:∀c,f ((n:Int),c)=some (.inr c)):aC f ((0:Int),[])=some (Ic ds n):=
 (aK (f:=f) (n:=n) (mk:=λi (c:List Int)=>((i:Int),c)) (I:=λi c=>c.length<=i) (g:=λacc a=>bif nT ds n a then acc else acc++ [(a:Int)]) (fin:=λc=>c) (s0:=[]) (xp _)
  (λi c hi hc=>⟨hs i c hi hc,by
   cases nT ds n i with
   |true=>rw[qa];omega
   |false=>rw[qb,xm,ZC];omega⟩)
  (λc _=>he c)).1
theorem A9{f:Int×Int->Option ((Int×Int)⊕Int)}{a b:Nat}(hc:ds.length<=7)(hs:∀(i:Nat) (c:Int),i<ds.length->0<=c->c<=7->f (c,(i:Int))=some (.inl (if at2 ds i a<at2 ds i b then c+1 else c,((i+1:Nat):Int))))(he:∀c,f (c,((ds.length:Nat):Int))=some (.inr c)):aC f ((0:Int),(0:Int))=some (wK ds a b:Int):=by
 obtain⟨r,k1,k2⟩:=aJ (f:=f) (n:=ds.length) (λi (c:Int)=>(c,(i:Int))) (λi c=>c=(dA (λj=>at2 ds j a<at2 ds j b) i:Int)) (λr=>r=(wK ds a b:Int)) (s0:=(0:Int)) rfl
  (λi c hi hc=>by
   have hm:=eZ (λj=>at2 ds j a<at2 ds j b) i;refine .inl ⟨_,hs i c hi (by omega) (by omega),?_⟩;rw[dA];by_cases h:at2 ds i a<at2 ds i b;·rw[qi h,qi h,hc];rfl
   ·rw[qh h,qh h,hc];rfl)
  (λc hc=>⟨c,he c,hc⟩)
 rw[<-k2];exact k1
theorem A3(hf:Fld o ds){a b:Nat}(ha:a<o.length)(hb:b<o.length):BV o ds (a:Int) (b:Int)=some (wK ds a b:Int):=by
 have k:aGD ((a:Int),(b:Int),ds,((ds.length:Nat):Int)) ((0:Int),(0:Int))=some (wK ds a b:Int):=A9 hf.clients
  (λi c hi h0 h7=>by
   have hm:=hf.clients;have hr:=hf.rowLen i hi;have e1:(ds.getD i []).getD a 0=at2 ds i a:=rfl;have e2:(ds.getD i []).getD b 0=at2 ds i b:=rfl;by_cases h:at2 ds i a<at2 ds i b;·rw[qi h];simp(disch:=omega)only[EV,wza,hi,hr,ha,hb,e1,e2,h];rfl
   ·rw[qh h];simp(disch:=omega)only[EV,wza,hi,hr,ha,hb,e1,e2,h];rfl)
  (λc=>by simp(disch:=omega)only[EV,wza,xj])
 unfold BV TZ;rw[qn,k,xc,qq]
theorem b7(ho:aF o)(hd:cT ds)(hf:Fld o ds):JP o ds=some (true,Ic ds o.length):=by
 have hlen:=hf.len;have k:aAD (((o.length:Nat):Int),o,ds) ((0:Int),([]:List Int))=some (Ic ds o.length):=W9
  (λi c hi hc=>by
   have e1:aHl ((i:Int),((o.length:Nat):Int),(i:Int),((o.length:Nat):Int),o,ds,c) (false,(0:Int))=some (nT ds o.length i):=X9 (λb=>decide ((wK ds i b:Int)<(wK ds b i:Int)))
    (λj c hj=>by
     have e1:=A3 hf hi hj;have e2:=A3 hf hj hi;cases c with
     |true=>simp(disch:=omega)only[EV,wzc,hj];rfl
     |false=>simp(disch:=omega)only[EV,wzc,hj,e1,e2];rfl)
    (λc=>by simp(disch:=omega)only[EV,wzc,xj])
   have aa:∀x:Int,List.length [x]=1:=λ_=>rfl;have hb:(c.length+1)*8<=140737488355328:=by omega
   cases hq:nT ds o.length i with
   |true=>rw[hq]at e1;simp(disch:=omega)only[EV,wzd,hi,e1];rfl
   |false=>rw[hq]at e1;simp(disch:=omega)only[EV,wzd,hi,e1,aa,hb];rfl)
  (λc=>by simp(disch:=omega)only[EV,wzd,xj])
 unfold JP MX;rw[qn,cH ho hd,xc,fieldB_iff.2 hf,qo,xq,qb,qn,k,xc,qq]
theorem E5(hf:Fld o ds){a b:Nat}(ha:a<o.length)(hb:b<o.length):Wt o ds (a:Int) (b:Int)=some (wK ds a b:Int):=by
 have k:aHz ((a:Int),(b:Int),o,ds) ((0:Int),(0:Int))=some (wK ds a b:Int):=A9 hf.clients
  (λi c hi h0 h7=>by
   have hm:=hf.clients;have hr:=hf.rowLen i hi;have e1:(ds.getD i []).getD a 0=at2 ds i a:=rfl;have e2:(ds.getD i []).getD b 0=at2 ds i b:=rfl;by_cases h:at2 ds i a<at2 ds i b;·rw[qi h];simp(disch:=omega)only[EV,wws,hi,hr,ha,hb,e1,e2,h];rfl
   ·rw[qh h];simp(disch:=omega)only[EV,wws,hi,hr,ha,hb,e1,e2,h];rfl)
  (λc=>by simp(disch:=omega)only[EV,wws,xj])
 unfold Wt FT;rw[qn,k,xc,qq]
theorem yP(ho:aF o)(hd:cT ds)(hf:Fld o ds):QZ o ds=some (true,Ic ds o.length):=by
 have hlen:=hf.len;have k:aBV (o,ds) ((0:Int),([]:List Int))=some (Ic ds o.length):=W9
  (λi c hi hc=>by
   have e1:aBk ((i:Int),o,ds,c) (false,(0:Int))=some (nT ds o.length i):=X9 (λb=>decide ((wK ds i b:Int)<(wK ds b i:Int)))
    (λj c hj=>by
     have e1:=E5 hf hi hj;have e2:=E5 hf hj hi;cases c with
     |true=>simp(disch:=omega)only[EV,wwu,hj];rfl
     |false=>simp(disch:=omega)only[EV,wwu,hj,e1,e2];rfl)
    (λc=>by simp(disch:=omega)only[EV,wwu,xj])
   have aa:∀x:Int,List.length [x]=1:=λ_=>rfl;have hb:(c.length+1)*8<=140737488355328:=by omega
   cases hq:nT ds o.length i with
   |true=>rw[hq]at e1;simp(disch:=omega)only[EV,www,hi,e1];rfl
   |false=>rw[hq]at e1;simp(disch:=omega)only[EV,www,hi,e1,aa,hb];rfl)
  (λc=>by simp(disch:=omega)only[EV,www,xj])
 unfold QZ PO;rw[qn,fN ho hd,xc,fieldB_iff.2 hf,qo,xq,qb,qn,k,xc,qq]
theorem By(hf:Fld o ds):PA o ds=some (T2 ds o.length):=by
 have ho:=hf.len;have hc:=hf.clients;have k6:∀{i j a:Nat},i<ds.length->j<ds.length->a<o.length->aEl ((i:Int),(j:Int),(a:Int),o,ds) (0:Int)=some (bif Er ds i j a o.length then .inl ()else .inr ()):=λ{i j a} hi hj ha=>
  aX (f:=λv=>(wso ((i:Int),(j:Int),(a:Int),o,ds) v).ev) (n:=o.length) (mk:=λb=>(b:Int)) (p:=λb=> !decide (at2 ds i b+at2 ds j b+at2 ds j a<at2 ds i a)) (yes:=.inl ()) (no:=.inr ())
   (λb hb _=>by
    have aa:=hf.rowLen i hi;have ab:=hf.rowLen j hj;have v1:=hf.at2 hi hb;have v2:=hf.at2 hj hb;have v3:=hf.at2 hj ha;have v4:=hf.at2 hi ha;have e1:(ds.getD i []).getD b 0=at2 ds i b:=rfl;have e2:(ds.getD j []).getD b 0=at2 ds j b:=rfl;have e3:(ds.getD j []).getD a 0=at2 ds j a:=rfl;have e4:(ds.getD i []).getD a 0=at2 ds i a:=rfl;by_cases h:at2 ds i b+at2 ds j b+at2 ds j a<at2 ds i a;·simp(disch:=omega)only[EV,wso,hi,hj,ha,hb,aa,ab,e1,e2,e3,e4,h]
    ·simp(disch:=omega)only[EV,wso,hi,hj,ha,hb,aa,ab,e1,e2,e3,e4,h];rfl)
   (by simp(disch:=omega)only[EV,wso,xj])
 have k4:∀{i j:Nat},i<ds.length->j<ds.length->aAo ((i:Int),(j:Int),o,ds) (0:Int)=some (bif Bw ds i j o.length then .inl ()else .inr ()):=λ{i j} hi hj=>
  aX (f:=λv=>(ZE ((i:Int),(j:Int),o,ds) v).ev) (n:=o.length) (mk:=λb=>(b:Int)) (p:=λa=>Er ds i j a o.length) (yes:=.inl ()) (no:=.inr ())
   (λa ha _=>by
    have e:=k6 hi hj ha;cases hq:Er ds i j a o.length with
    |true=>rw[hq]at e;simp(disch:=omega)only[EV,ZE,ha,e];rfl
    |false=>rw[hq]at e;simp(disch:=omega)only[EV,ZE,ha,e])
   (by simp(disch:=omega)only[EV,ZE,xj])
 have k2:∀{i:Nat},i<ds.length->aBW ((i:Int),o,ds) (0:Int)=some (bif Bh ds i o.length then .inl ()else .inr ()):=λ{i} hi=>
  aX (f:=λv=>(YV ((i:Int),o,ds) v).ev) (n:=ds.length) (mk:=λb=>(b:Int)) (p:=λj=>Bw ds i j o.length) (yes:=.inl ()) (no:=.inr ())
   (λj hj _=>by
    have e:=k4 hi hj;cases hq:Bw ds i j o.length with
    |true=>rw[hq]at e;simp(disch:=omega)only[EV,YV,hj,e];rfl
    |false=>rw[hq]at e;simp(disch:=omega)only[EV,YV,hj,e])
   (by simp(disch:=omega)only[EV,YV,xj])
 have k0:aDv (o,ds) (0:Int)=some (bif T2 ds o.length then .inl ()else .inr ()):=
  aX (f:=λv=>(ZM (o,ds) v).ev) (n:=ds.length) (mk:=λb=>(b:Int)) (p:=λi=>Bh ds i o.length) (yes:=.inl ()) (no:=.inr ())
   (λi hi _=>by
    have e:=k2 hi;cases hq:Bh ds i o.length with
    |true=>rw[hq]at e;simp(disch:=omega)only[EV,ZM,hi,e];rfl
    |false=>rw[hq]at e;simp(disch:=omega)only[EV,ZM,hi,e])
   (by simp(disch:=omega)only[EV,ZM,xj])
 unfold PA JU;rw[qn,k0,xc];cases T2 ds o.length<;>rfl
end
end Go.Proofs.YteiekijgoifhoaaGreatDoor
