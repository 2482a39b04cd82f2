/- A part of the proof that FnExactReplayLog hands back true, at every argument of the row. -/
import Derived.Test.YtidaiohhaanphaaGreatDoorP88
import Derived.Lib.ItoaNum
import Derived.Lib.AtoiAllCases
namespace Go.Proofs.YtidaiohhaanphaaGreatDoor
section
variable {o:List Int}{ds:List (List Int)}{p tm w:List Int}{now:Int}
theorem step_eq(hf:Fld o ds)(h:GI o ds p tm w now)(e:GE o ds p tm w now){pr wi:List Int}{st:List Bool}(s:SG ds (gP ds w p now) (gW o ds (gT o ds (gP ds w p now) tm now) w now) pr st wi):
  ∃y,wbyj o ds now pr st wi (gT o ds (gP ds w p now) tm now)=some y/\NXT now (λu=>(∃i,i<ds.length/\(gW o ds (gT o ds (gP ds w p now) tm now) w now).getD i 0<0/\∃a,a<o.length/\u=gln ds i a)\/gC2 o ds (gP ds w p now) (gT o ds (gP ds w p now) tm now) (gW o ds (gT o ds (gP ds w p now) tm now) w now) now u) y:=by
 have hp:∀i,i<ds.length->0<=(gP ds w p now).getD i 0/\(gP ds w p now).getD i 0<=498960:=λi hi=>by have:=h.price hi;have:=h.n1;omega
 have ah:=h.n0;have av:=h.n1;have ae:=λa=>e.step hf h (a:=a);have ab:=λa (ha:a<o.length)=>h.tight (a:=a) ha;have aw:(gT o ds (gP ds w p now) tm now).length=o.length:=by simp[gT]
 have ak:(gP ds w p now).length=ds.length:=by simp[gP]
 have ad:wbgw now pr st wi (gT o ds (gP ds w p now) tm now)=some (gP ds w p now):=by
  rw[grown_eq hf s];refine congrArg some (list_ext0 (by simp[gP]) λi hi=>?_);have af:i<ds.length:=by omega
  rw[gP_getD (w:=gW o ds (gT o ds (gP ds w p now) tm now) w now) af];split
  ·next hw=>exact((h.price af).2.2.2 (h.on af hw).1).symm
  ·rfl
 generalize gP ds w p now=P at*;generalize hT:gT o ds P tm now=T at*;generalize gW o ds T w now=W at*;obtain⟨x,k1,k2⟩:=break_eq hf ah s T;obtain⟨r,k3,k4,_⟩:=iter_inv (f:=λv=>(wapi (o,ds,now,pr,st,wi,T,P) v).ev) (n:=o.length) (λa (c:Int)=>(c,(a:Int)))
  (λa c=>NXT now (λu=>(∃i,i<ds.length/\W.getD i 0<0/\∃a,a<o.length/\u=gln ds i a)\/∃b,b<a/\T.getD b 0<0/\0<gmany ds W now b/\u=now+(gcs o b-gcl ds P b+(gmany ds W now b:Int) -1) / (gmany ds W now b:Int)) c/\ -1<=c/\c<=1000000)
  (λc=>NXT now (λu=>(∃i,i<ds.length/\W.getD i 0<0/\∃a,a<o.length/\u=gln ds i a)\/gC2 o ds P T W now u) c/\ -1<=c/\c<=1000000) (s0:=x)
  ⟨k2.eqv λu=>⟨.inl,λh=>h.elim id λ⟨b,hb,_⟩=>absurd hb (by omega)⟩,by
   rcases k2 with⟨h1,_⟩|⟨⟨i,hi,_,a,ha,h1⟩,_,_⟩
   ·omega
   ·have:=gln_in hf hi ha;omega⟩
  (λa c ha ⟨hc,ai,aj⟩=>by
   left;have hlen:=hf.len;have ay:=hf.clients;have aa:a<T.length:=by omega
   have e1:=speed_eq (now:=now) hf s T ha;have e2:=sclaim_eq hf ak hp ha;have al:=hf.cost a ha;have az:=gcs_in hf ha;obtain⟨g1,g2,_⟩:=gclN_in hf (λi hi=>(hp i hi).2) ha ds.length (xm _);have g1:0<=gcl ds P a:=g1;have g2:gcl ds P a<=498960*(ds.length:Int):=g2;have e5:2520*o.getD a 0=gcs o a:=xed _ _;have ba:gmany ds W now a<=ds.length:=cntN_max _ _;have hs:=ae a
   -- what stays as it bb
   have stay:¬(T.getD a 0<0/\0<gmany ds W now a)->NXT now (λu=>(∃i,i<ds.length/\W.getD i 0<0/\∃a,a<o.length/\u=gln ds i a)\/∃b,b<a+1/\T.getD b 0<0/\0<gmany ds W now b/\u=now+(gcs o b-gcl ds P b+(gmany ds W now b:Int) -1) / (gmany ds W now b:Int)) c:=λao=>
    hc.eqv λu=>by
     constructor
     ·rintro(h|⟨b,hb,h⟩);·exact .inl h
      ·exact .inr ⟨b,by omega,h⟩
     ·rintro(h|⟨b,hb,h⟩);·exact .inl h
      ·by_cases e:b=a;·subst e;exact absurd ⟨h.1,h.2.1⟩ ao
       ·exact .inr ⟨b,by omega,h⟩
   by_cases c1:T.getD a 0<0
   ·by_cases c2:0<gmany ds W now a
    ·obtain⟨d1,d2,d3⟩:=cdiv_exact c2 (hs c2);have ar:=(ab a ha c1).2;obtain⟨d4,d5,_⟩:=cdiv_in (x:=gcs o a-gcl ds P a) (by omega) c2;have h6:¬(gmany ds W now a:Int)=0:=by omega
     have h7:(0:Int)<(gmany ds W now a:Int):=by omega
     have e6:Int.tdiv (gcs o a-gcl ds P a) (gmany ds W now a:Int)=(gcs o a-gcl ds P a+(gmany ds W now a:Int) -1) / (gmany ds W now a:Int):=by rw[xek (by omega),d3]
     refine⟨nxt now c (now+(gcs o a-gcl ds P a+(gmany ds W now a:Int) -1) / (gmany ds W now a:Int)),?_,(hc.add ah _).eqv λu=>?_,?_⟩
     ·generalize(gcs o a-gcl ds P a+(gmany ds W now a:Int) -1) / (gmany ds W now a:Int)=q at*;generalize bc:(gmany ds W now a:Int)=g at*;unfold nxt;by_cases c3:c<0;·rw[qi ⟨by omega,.inl c3⟩];simp(disch:=omega)only[EV,wapi,ha,e1,e2,c1,h7,c3,h6,e5,e6];rfl
      ·have hg:g<=7:=by omega
       have b1:g*(c-now)<=7*1000000:=by
        by_cases hx:0<=c-now;·exact Int.le_trans (xde hg hx) (by omega)
        ·have:=xch (show c-now<=0 by omega) (show 0<=g by omega);omega
       have b2: -(7*1000000)<=g*(c-now):=by have h1:=xch (show-498960<=c-now by omega) (show 0<=g by omega);omega
       by_cases c4:now+q<c
       ·have c5:gcs o a-gcl ds P a<g*(c-now):=by rw[<-d2];exact Int.mul_lt_mul_of_pos_left (by omega) h7
        rw[qi ⟨by omega,.inr c4⟩];simp(disch:=omega)only[EV,wapi,ha,e1,e2,c1,h7,c3,h6,e5,e6,c5];rfl
       ·have c5:¬gcs o a-gcl ds P a<g*(c-now):=by rw[<-d2];have:=xch (show c-now<=q by omega) (show 0<=g by omega);omega
        rw[qh λz=>by rcases z.2 with z|z;exact c3 z;exact c4 z];simp(disch:=omega)only[EV,wapi,ha,e1,e2,c1,h7,c3,h6,e5,e6,c5];rfl
     ·constructor
      ·rintro((h|⟨b,hb,h⟩)|h);·exact .inl h
       ·exact .inr ⟨b,by omega,h⟩
       ·exact .inr ⟨a,by omega,c1,c2,h⟩
      ·rintro(h|⟨b,hb,h⟩);·exact .inl (.inl h)
       ·by_cases e:b=a;·subst e;exact .inr h.2.2
        ·exact .inl (.inr ⟨b,by omega,h⟩)
     ·unfold nxt;split<;>omega
    ·refine⟨c,?_,stay λh=>c2 h.2,ai,aj⟩;have h7:¬(0:Int)<(gmany ds W now a:Int):=by omega
     simp(disch:=omega)only[EV,wapi,ha,e1,e2,c1,h7];rfl
   ·refine⟨c,?_,stay λh=>c1 h.1,ai,aj⟩;simp(disch:=omega)only[EV,wapi,ha,e1,e2,c1];rfl)
  (λc ⟨hc,hb⟩=>⟨c,by simp(disch:=omega)only[EV,wapi,xi],hc.eqv λu=>⟨λh=>h.imp id λ⟨b,hb,q⟩=>⟨b,hb,q⟩,λh=>h.imp id λ⟨b,hb,q⟩=>⟨b,hb,q⟩⟩,hb⟩)
 have au:wbhe (o,ds,now,pr,st,wi,T,P) (x,(0:Int))=some r:=k3;refine⟨r,?_,k4⟩;unfold wbyj wbyi;rw[qn,k1,xc,qn,ad,xc,qn,au,xc,qq]
theorem both_end(hf:Fld o ds)(k:(List (Int))×(List (List (Int)))×(Int)×(List (Int))×(List (Int))×(List (Int)))(e1:(watq ((ds.length:Int),o,ds) (now,p,tm,w)).ev=some (.inr (gRound o ds (now,p,tm,w))))(e2:∀i,i<ds.length->¬(gRound o ds (now,p,tm,w)).2.2.getD i 0<0):
  ∃g,wbbb ((ds.length:Int),o,ds) (now,p,tm,w)=some g/\∀{pr wi:List Int} {st:List Bool},SG ds (gP ds w p now) (gW o ds (gT o ds (gP ds w p now) tm now) w now) pr st wi->
   ∃nw ab ad,wbbw k (now,pr,st,wi,gT o ds (gP ds w p now) tm now)=some (nw,g.1,ab,ad,g.2.1):=by
 refine⟨gRound o ds (now,p,tm,w),iter_some.2 ⟨1,by simp only[iterN,e1]⟩,λ{pr wi st} s=>?_⟩;have aa:((List.range ds.length).all λi=> !decide ((gW o ds (gT o ds (gP ds w p now) tm now) w now).getD i 0<0))=true:=xq.2 λi hi=>by have:¬(gW o ds (gT o ds (gP ds w p now) tm now) w now).getD i 0<0:=e2 i (xap.1 hi);rw[qd this];rfl
 have em:=moving_eq (now:=now) hf s (gT o ds (gP ds w p now) tm now);rw[aa,xk]at em;have ae:pr=gP ds w p now:=list_ext0 (by rw[s.pl];simp[gP]) λi hi=>s.pr i (by simpa[gP]using hi) (e2 i (by simpa[gP]using hi));refine⟨now,st,wi,iter_some.2 ⟨1,?_⟩⟩;have es:(waxl k (now,pr,st,wi,gT o ds (gP ds w p now) tm now)).ev=some (.inr (now,pr,st,wi,gT o ds (gP ds w p now) tm now)):=by unfold waxl;rw[qn,em,xc,qo,qb,qq]
 simp only[iterN,es];rw[ae];rfl
theorem both_run(hf:Fld o ds)(k:(List (Int))×(List (List (Int)))×(Int)×(List (Int))×(List (Int))×(List (Int)))(ai:k.1=o)(aj:k.2.1=ds):∀(n:Nat) {p tm w:List Int} {now:Int},gM o ds p tm w now<=n->GI o ds p tm w now->GE o ds p tm w now->
  ∃g,wbbb ((ds.length:Int),o,ds) (now,p,tm,w)=some g/\∀{pr wi:List Int} {st:List Bool},SG ds (gP ds w p now) (gW o ds (gT o ds (gP ds w p now) tm now) w now) pr st wi->
   ∃nw aa ab,wbbw k (now,pr,st,wi,gT o ds (gP ds w p now) tm now)=some (nw,g.1,aa,ab,g.2.1):=by
 intro n;induction n with
 |zero=>
  intro p tm w now hn h e;rcases grow_round hf h with⟨t,e1,e2,_,_⟩|⟨e1,e2⟩
  ·have:=(h.next hf e2).2;omega
  ·exact both_end hf k e1 e2
 |succ n ih=>
  intro p tm w now hn h e;rcases grow_round hf h with⟨t,e1,e2,e3,i0,ak,al⟩|⟨e1,e2⟩
  ·have ad:=h.next hf e2;have ae:=e.next hf h e2 e3;obtain⟨g,r1,r2⟩:=ih (by have:=ad.2;omega) ad.1 ae;refine⟨g,?_,λ{pr wi st} s=>?_⟩;·unfold wbbb;rw[iter_eq,e1];exact r1
   ·have af:((List.range ds.length).all λi=> !decide ((gW o ds (gT o ds (gP ds w p now) tm now) w now).getD i 0<0))=false:=by rw[xej];intro hq;have:=xq.1 hq i0 (xap.2 ak);have ao:(gW o ds (gT o ds (gP ds w p now) tm now) w now).getD i0 0<0:=al;rw[qc ao]at this;cases this
    have em:=moving_eq (now:=now) hf s (gT o ds (gP ds w p now) tm now);rw[af,xae]at em;obtain⟨y,s1,s2⟩:=step_eq hf h e s;have hy:y=t:=by
     have hl:=(h.later hf e2).1;have ah:∀u,gC o ds (gP ds w p now) (gT o ds (gP ds w p now) tm now) (gW o ds (gT o ds (gP ds w p now) tm now) w now) now u->(∃i,i<ds.length/\(gW o ds (gT o ds (gP ds w p now) tm now) w now).getD i 0<0/\∃a,a<o.length/\u=gln ds i a)\/gC2 o ds (gP ds w p now) (gT o ds (gP ds w p now) tm now) (gW o ds (gT o ds (gP ds w p now) tm now) w now) now u:=by
      rintro u (⟨i,hi,a,ha,h1,_,h2⟩|h1);·exact .inl ⟨i,hi,h1,a,ha,h2⟩
      ·exact .inr h1
     rcases s2 with⟨_,s2⟩|⟨s2,s3,s4⟩
     ·exact absurd hl (s2 t (ah t e2))
     ·have ar:gC o ds (gP ds w p now) (gT o ds (gP ds w p now) tm now) (gW o ds (gT o ds (gP ds w p now) tm now) w now) now y:=by
       rcases s2 with⟨i,hi,h1,a,ha,h2⟩|h1;·exact .inl ⟨i,hi,a,ha,h1,by omega,h2⟩
       ·exact .inr h1
      have:=e3 y ar;have:=s4 t (ah t e2) hl;omega
    subst hy;obtain⟨au,aa,ab,q1,q2⟩:=settle_eq hf ad.1 ae s;obtain⟨nw,av,aw,q3⟩:=r2 q2;refine⟨nw,av,aw,?_⟩;have es:(waxl k (now,pr,st,wi,gT o ds (gP ds w p now) tm now)).ev=some (.inl (y,au,aa,ab,gT o ds (gP ds (gW o ds (gT o ds (gP ds w p now) tm now) w now) (gP ds w p now) y) (gT o ds (gP ds w p now) tm now) y)):=by unfold waxl;rw[qn,em,xc,qo,qa,qn,ai,aj,s1,xc,qn,q1,xc,qq]
    unfold wbbw;rw[iter_eq,es];exact q3
  ·exact both_end hf k e1 e2
theorem sp_grow_eq(hf:Fld o ds){g:List Int×(List Int×List Int)}(hg:wbcm o ds=some g):∃nw st wi,wbyl o ds=some (nw,g.1,st,wi,g.2.1):=by
 have hlen:=hf.len;have ak:=hf.clients;have rep:∀(n:Nat) (x:Int) (i:Nat),i<n->(List.replicate n x).getD i 0=x:=λn x i hi=>by rw[xd,xcl,qi hi];rfl
 have aa:=GI.begin hf;have ab:=GE.begin hf;obtain⟨r,k1,k2⟩:=both_run hf (o,ds,(0:Int),([]:List Int),([]:List Int),([]:List Int)) rfl rfl _ (xm _) aa ab
 -- the same ae
 have er:r=g:=by
  have rp:∀n:Nat,n<=1000->wbey [(-1:Int)] (n:Int)=some (List.replicate n (-1)):=λn hn=>by unfold wbey;exact repeatF_one (by omega) (-1)
  have r1:=rp o.length (by omega);have r2:=rp ds.length (by omega);have e1:(0:Int)<=(ds.length:Int):=by omega
  have e2:((8:Nat):Int)*(ds.length:Int)<=281474976710656:=by omega
  have:wbcm o ds=some r:=by unfold wbcm wbrx;simp(disch:=omega)only[EV,e1,e2,xbv,r1,r2,k1]
  rw[hg]at this;exact(xbd this).symm
 subst er;have af:SG ds (List.replicate ds.length 0) (List.replicate ds.length (-1)) (List.replicate ds.length 0) (List.replicate ds.length false) (List.replicate ds.length 0):=
  ⟨by simp,by simp,by simp,λi hi=>by rw[rep _ _ i hi,xd,xcl,qi hi];rfl,λi hi h=>absurd (show(List.replicate ds.length (-1:Int)).getD i 0<0 from by rw[rep _ _ i hi];omega) h⟩
 obtain⟨pr,st,wi,s1,s2⟩:=settle_eq hf aa ab af;obtain⟨nw,ah,ai,s3⟩:=k2 s2;have aj:wbhf (o,ds,(0:Int),(0:Int),([]:List (Int)),([]:List (Int)),([]:List (Int)),List.replicate ds.length (0:Int),List.replicate ds.length false,List.replicate ds.length (0:Int)) ((0:Int),([]:List Int))=some (List.replicate o.length (-1)):=by
  have:=iter_app (f:=λv=>(wazt (o,ds,(0:Int),(0:Int),([]:List (Int)),([]:List (Int)),([]:List (Int)),List.replicate ds.length (0:Int),List.replicate ds.length false,List.replicate ds.length (0:Int)) v).ev) (n:=o.length) (mk:=λk (l:List Int)=>((k:Int),l)) (λ_=>(-1:Int)) (λl=>l)
   (λi l hi hl=>by
    have ad:∀x:Int,List.length [x]=1:=λ_=>rfl;have hb:(l.length+1)*8<=140737488355328:=by omega
    simp(disch:=omega)only[EV,wazt,hi,ad,hb];rfl)
   (λl _=>by simp(disch:=omega)only[EV,wazt,xi])
  rw[show(List.range o.length).map (λ_=>(-1:Int))=List.replicate o.length (-1)from by simp[List.map_const']]at this;exact this
 refine⟨nw,ah,ai,?_⟩;have e1:(0:Int)<=((ds.length:Nat):Int):=by omega
 have e2:((8:Nat):Int)*((ds.length:Nat):Int)<=281474976710656:=by omega
 have e3:((1:Nat):Int)*((ds.length:Nat):Int)<=281474976710656:=by omega
 unfold wbyl wbyk;rw[qp,qc e1,qc (xbv _),qc e2,xdo,xdo,qa,qp,qc e3,xdo,qa,qp,qa,xy,qn,aj,xc,qn,s1,xc,qn,s3,xc,qq]
theorem insK_eq{K:Int->Int}(x:Int)(l:List Int):l.take ((l.findIdx? λy=> !decide (K y<=K x)).elim l.length id)++x::l.drop ((l.findIdx? λy=> !decide (K y<=K x)).elim l.length id)=insK K x l:=insK_find x l
theorem ripe_sort(t:List Int):∀n:Nat,(List.range n).foldl (λacc a=>if 0<=t.getD a 0 then insK (λx=>t.getD x.toNat 0) (a:Int) acc else acc) []=sortK (λx=>t.getD x.toNat 0) ((List.range n).foldl (λacc a=>if 0<=t.getD a 0 then acc++ [(a:Int)]else acc) [])
 |0=>rfl
 |n+1=>by
  rw[foldl_range_succ,foldl_range_succ,ripe_sort t n];split;·rw[sortK_snoc]
  ·rfl
theorem ripe2_eq{T acc:List Int}{a:Nat}(ha:a<T.length)(aa:∀x∈acc,0<=x/\x<(a:Int))(hl:acc.length<=1000)(nw:Int)(pr wi:List Int)(st:List Bool):
  wbcy (acc,(a:Int),nw,pr,st,wi,T) (0:Int)=some (((acc.findIdx? λy=> !decide (T.getD y.toNat 0<=T.getD a 0)).elim acc.length id:Nat):Int):=by
 have key:=iter_forE (f:=λv=>(waxm (acc,(a:Int),nw,pr,st,wi,T) v).ev) (l:=acc) 0 (λy=> !decide (T.getD y.toNat 0<=T.getD a 0)) (mk:=λi=>(i:Int)) (yes:=λi=>(i:Int)) (no:=((acc.length:Nat):Int))
  (λi hi=>by
   have hm:=aa _ (getD_mem (d:=0) hi);have e1:=earlier_eq (T:=T) (a:=(a:Int)) (b:=acc.getD i 0) (by omega) (by omega) (by omega) nw pr st wi;rw[xy]at e1;by_cases c:T.getD (acc.getD i 0).toNat 0<=T.getD a 0;·rw[qd (by omega)]at e1;rw[qc c,xk,qb];simp(disch:=omega)only[EV,waxm,hi,e1];rfl
   ·rw[qc (by omega)]at e1;rw[qd c,xae,qa];simp(disch:=omega)only[EV,waxm,hi,e1])
  (by simp(disch:=omega)only[EV,waxm,xi])
 have k1:wbcy (acc,(a:Int),nw,pr,st,wi,T) (0:Int)=some ((acc.findIdx? λy=> !decide (T.getD y.toNat 0<=T.getD a 0)).elim ((acc.length:Nat):Int) λi=>(i:Int)):=key;rw[k1];cases acc.findIdx? λy=> !decide (T.getD y.toNat 0<=T.getD a 0)<;>rfl
theorem sripe_eq{T:List Int}(ht:T.length<=7)(nw:Int)(pr wi:List Int)(st:List Bool):wbyn nw pr st wi T=some (sortK (λx=>T.getD x.toNat 0) (ripeL T)):=by
 have key:=(iter_fold (f:=λv=>(waxn (nw,pr,st,wi,T) v).ev) (n:=T.length) (mk:=λi (acc:List Int)=>(acc,(i:Int))) (I:=λi acc=>(∀x∈acc,0<=x/\x<(i:Int))/\acc.length<=i) (g:=λacc a=>if 0<=T.getD a 0 then insK (λx=>T.getD x.toNat 0) (a:Int) acc else acc) (fin:=λacc=>acc) (s0:=[])
  ⟨λx h=>(by cases h),xm _⟩
  (λa acc ha ⟨h1,h2⟩=>by
   by_cases c:0<=T.getD a 0
   ·have e1:=ripe2_eq ha h1 (by omega) nw pr wi st;have e2:=insK_eq (K:=λx=>T.getD x.toNat 0) (a:Int) acc;simp only[xy]at e2;have hk:((acc.findIdx? λy=> !decide (T.getD y.toNat 0<=T.getD a 0)).elim acc.length id:Nat)<=acc.length:=by
     cases hf:acc.findIdx? λy=> !decide (T.getD y.toNat 0<=T.getD a 0)with
     |none=>exact xm _
     |some j=>obtain⟨hj,_⟩:=xcv.1 hf;exact Nat.le_of_lt hj
    generalize((acc.findIdx? λy=> !decide (T.getD y.toNat 0<=T.getD a 0)).elim acc.length id:Nat)=k at e1 e2 hk;have hp:=insK_perm (K:=λx=>T.getD x.toNat 0) (a:Int) acc;have ab:=hp.length_eq;rw[xj]at ab;simp only[qi c];refine⟨?_,λx hx=>?_,by rw[ab];omega⟩
    ·have aa:∀x:Int,List.length [x]=1:=λ_=>rfl;have ad:(List.take k acc).length=k:=by rw[xx];omega
     have ae:wayj (List.take k acc)=some (List.take k acc):=eown_eq (by omega);have g1:(0:Int)<=(k:Int):=by omega
     have g2:(k:Int)<=((acc.length:Nat):Int):=by omega
     have g3:(k+1)*8<=140737488355328:=by omega
     have af:(List.drop k (List.take acc.length acc)).length=acc.length-k:=by rw[xal,xas]
     have g4:((List.take k acc++ [(a:Int)]).length+(acc.length-k))*8<=140737488355328:=by rw[xl,aa,ad];omega
     have ah:¬T.getD a 0<0:=by omega
     unfold waxn;dsimp only;rw[qo,qc (show(a:Int)<((T.length:Nat):Int) by omega),qa,qp,show inR (a:Int) T.length=true from inR_nat ha,qa,xy,qo,qd ah,qb,qn,e1,xc,qp,qc g1,qc g2,xdo,qa,xy,xea,qn,ae,xc,qp,aa,ad,qc g3,qa,qp,qa,qp,af,qc g4,qa,qq,xal,<-e2,wrap64 (by omega) (by omega)];simp
    ·rcases xaf.1 (hp.mem_iff.1 hx)with rfl|hx;·omega
     ·have:=h1 x hx;omega
   ·simp only[qh c];refine⟨?_,λx hx=>by have:=h1 x hx;omega,by omega⟩;have c':T.getD a 0<0:=by omega
    simp(disch:=omega)only[EV,waxn,ha,c'];rfl)
  (λacc _=>by simp(disch:=omega)only[EV,waxn,xi])).1
 have k1:wbhg (nw,pr,st,wi,T) (([]:List Int),(0:Int))=some ((List.range T.length).foldl (λacc a=>if 0<=T.getD a 0 then insK (λx=>T.getD x.toNat 0) (a:Int) acc else acc) []):=key;unfold wbyn wbym ripeL;rw[qn,k1,xc,qq,ripe_sort]
theorem sconflict_eq(hf:Fld o ds){pr T:List Int}(hp:pr.length=ds.length)(ht:T.length=o.length){a b:Nat}(ha:a<o.length)(hb:b<o.length)(aa:0<=T.getD a 0)(ab:0<=T.getD b 0)(nw:Int)(st:List Bool)(wi:List Int):wbyp o ds nw pr st wi T (a:Int) (b:Int)=some (confB ds pr a b):=by
 have af:=hf.clients;have hlen:=hf.len;have key:=iter_allR (f:=λv=>(wauz ((a:Int),(b:Int),o,ds,nw,pr,st,wi,T) v).ev) (n:=ds.length) (λi=>(i:Int)) (λi=> !(decide (gln ds i a<pr.getD i 0)&&decide (gln ds i b<pr.getD i 0))) (.inl ():Unit⊕Bool) (.inr true)
  (λi hi _=>by
   have hr:=hf.rowLen i hi;have h1:=hf.at2 hi ha;have h2:=hf.at2 hi hb;have ad:a<T.length:=by omega
   have ae:b<T.length:=by omega
   have e1:(ds.getD i []).getD a 0=at2 ds i a:=rfl;have e2:(ds.getD i []).getD b 0=at2 ds i b:=rfl;have e3:2520*at2 ds i a=gln ds i a:=xed _ _;have e4:2520*at2 ds i b=gln ds i b:=xed _ _;by_cases c1:gln ds i a<pr.getD i 0
   ·by_cases c2:gln ds i b<pr.getD i 0;·simp(disch:=omega)only[EV,wauz,hi,hp,hr,e1,e2,e3,e4,c1,c2,aa,ab]
    ·simp(disch:=omega)only[EV,wauz,hi,hp,hr,e1,e2,e3,e4,c1,c2];rfl
   ·simp(disch:=omega)only[EV,wauz,hi,hp,hr,e1,e3,c1];rfl)
  (by simp(disch:=omega)only[EV,wauz,xi])
 have k1:wbhh ((a:Int),(b:Int),o,ds,nw,pr,st,wi,T) (0:Int)=some (bif (List.range ds.length).all λi=> !(decide (gln ds i a<pr.getD i 0)&&decide (gln ds i b<pr.getD i 0))then .inl ()else .inr true):=key;unfold wbyp wbyo confB;rw[qn,k1,xc];cases(List.range ds.length).all λi=> !(decide (gln ds i a<pr.getD i 0)&&decide (gln ds i b<pr.getD i 0))<;>rfl
theorem any_perm{l m:List Int}(h:∀x,x∈l↔x∈m)(q:Int->Bool):l.any q=m.any q:=by rw[xcn,xbf,xbf];exact⟨λ⟨x,h1,h2⟩=>⟨x,(h x).1 h1,h2⟩,λ⟨x,h1,h2⟩=>⟨x,(h x).2 h1,h2⟩⟩
theorem ripeL_pos(t:List Int):∀n:Nat,∀x∈(List.range n).foldl (λacc a=>if 0<=t.getD a 0 then acc++ [(a:Int)]else acc) [],0<=t.getD x.toNat 0
 |0=>λx h=>(by cases h)
 |n+1=>by
  have ih:=ripeL_pos t n;rw[foldl_range_succ];split
  ·next h=>
   intro x hx;rcases xt.1 hx with hx|hx;·exact ih x hx
   ·rw[xp.1 hx];exact h
  ·exact ih
theorem skept_eq(hf:Fld o ds){pr T:List Int}(hp:pr.length=ds.length)(ht:T.length=o.length)(nw:Int)(st:List Bool)(wi:List Int){l:List Int}(hl:∀x∈l,(0<=x/\x<(o.length:Int))/\0<=T.getD x.toNat 0)(al:l.length<=7)(aj:l.Nodup):
  wbhj (l,o,ds,nw,pr,st,wi,T) (([]:List Int),(0:Int))=some (sortI (keptL ds pr l)):=by
 have hlen:=hf.len;have key:=iter_inv (f:=λv=>(waxp (l,o,ds,nw,pr,st,wi,T) v).ev) (n:=l.length) (λi (acc:List Int)=>(acc,(i:Int))) (λi acc=>acc=sortI (keptL ds pr (l.take i))) (λr=>r=sortI (keptL ds pr l)) (s0:=[]) (by simp[keptL,sortI])
  (λi acc hi aa=>by
   left;have hx:=hl _ (getD_mem (d:=0) hi);have af:l.take (i+1)=l.take i++ [l.getD i 0]:=by rw[xan hi,xd,xg hi];rfl
   have ad:=keptL_sub ds pr (l.take i);obtain⟨_,s2,s3⟩:=sortI_inv (keptL ds pr (l.take i));have ao:acc.length<=i:=by rw[aa,s2];have:=ad.length_le;rw[xx]at this;omega
   have ah:∀y∈acc,(0<=y/\y<(o.length:Int))/\0<=T.getD y.toNat 0:=λy hy=>hl y (xbp (ad.subset ((s3 y).1 (by rw[aa]at hy;exact hy))));have ai:l.getD i 0∉acc:=λhy=>by have h1:l.getD i 0∈l.take i:=ad.subset ((s3 _).1 (by rw[aa]at hy;exact hy));have h2:(l.take (i+1)).Nodup:=aj.sublist (List.take_sublist _ _);rw[af,List.nodup_append]at h2;exact h2.2.2 _ h1 _ (xp.2 rfl) rfl
   -- the inner rounds
   have e1:wbhi (l,acc,(i:Int),o,ds,nw,pr,st,wi,T) (true,(0:Int))=some (!acc.any λb=>confB ds pr (l.getD i 0).toNat b.toNat):=by
    have k:=iter_inv (f:=λv=>(waxo (l,acc,(i:Int),o,ds,nw,pr,st,wi,T) v).ev) (n:=acc.length) (λj (c:Bool)=>(c,(j:Int))) (λj c=>c= !(acc.take j).any λb=>confB ds pr (l.getD i 0).toNat b.toNat) (λr=>r= !acc.any λb=>confB ds pr (l.getD i 0).toNat b.toNat) (s0:=true) rfl
     (λj c hj hc=>by
      left;have hb:=ah _ (getD_mem (d:=0) hj);have ak:acc.take (j+1)=acc.take j++ [acc.getD j 0]:=by rw[xan hj,xd,xg hj];rfl
      have ec:=sconflict_eq hf hp ht (a:=(l.getD i 0).toNat) (b:=(acc.getD j 0).toNat) (by omega) (by omega) hx.2 hb.2 nw st wi;rw[xdy hx.1.1,xdy hb.1.1]at ec;refine⟨c&& !confB ds pr (l.getD i 0).toNat (acc.getD j 0).toNat,?_,?_⟩
      ·cases c with
       |true=>simp(disch:=omega)only[EV,waxo,hj,ec];rfl
       |false=>simp(disch:=omega)only[EV,waxo,hj];rfl
      ·rw[ak,hc];simp[])
     (λc hc=>⟨c,by simp(disch:=omega)only[EV,waxo,xi],by rw[hc,xal]⟩)
    obtain⟨r,k1,k2⟩:=k;rw[<-k2];exact k1
   have ab:(acc.any λb=>confB ds pr (l.getD i 0).toNat b.toNat)=(keptL ds pr (l.take i)).any λb=>confB ds pr (l.getD i 0).toNat b.toNat:=any_perm (λx=>by rw[aa];exact s3 x) _;have ae:keptL ds pr (l.take (i+1))=if(keptL ds pr (l.take i)).any (λb=>confB ds pr (l.getD i 0).toNat b.toNat)then keptL ds pr (l.take i)else keptL ds pr (l.take i)++ [l.getD i 0]:=by rw[af];unfold keptL;rw[xcq];rfl
   cases hq:acc.any λb=>confB ds pr (l.getD i 0).toNat b.toNat with
   |true=>
    rw[hq]at e1 ab;rw[xk]at e1;refine⟨acc,?_,?_⟩;·simp(disch:=omega)only[EV,waxp,hi,e1];rfl
    ·rw[ae,<-ab,qi rfl];exact aa
   |false=>
    rw[hq]at e1 ab;rw[xae]at e1;have e2:=eput_eq (l:=acc) (x:=l.getD i 0) (by omega) ai;refine⟨ins (l.getD i 0) acc,?_,?_⟩;·simp(disch:=omega)only[EV,waxp,hi,e1,e2];rfl
    ·rw[ae,<-ab,qh (by simp),sortI_snoc,<-aa])
  (λacc aa=>⟨acc,by simp(disch:=omega)only[EV,waxp,xi],by rw[aa,xal]⟩)
 obtain⟨r,k1,k2⟩:=key;rw[<-k2];exact k1
theorem sp_GrowthSet_eq(hf:Fld o ds)(hv:wavv o ds=some true){g:List Int×(List Int×List Int)}(aa:GR o ds g)(hg:wbcm o ds=some g)(h0:0<ds.length):wbek o ds=some (growSet ds g,true):=by obtain⟨nw,st,wi,e1⟩:=sp_grow_eq hf hg;have hlen:=hf.len;have ae:=aa.tl;have e2:=sripe_eq (T:=g.2.1) (by omega) nw g.1 wi st;obtain⟨r1,r2,r3⟩:=ripeL_in g.2.1 g.2.1.length;have hs:=(sortK_inv (K:=λx=>g.2.1.getD x.toNat 0) (ripeL g.2.1)).2;have ad:(sortK (λx=>g.2.1.getD x.toNat 0) (ripeL g.2.1)).Nodup:=hs.nodup_iff.2 (r2.imp λh e=>by omega);have ab:=ripeL_pos g.2.1 g.2.1.length;have e3:=skept_eq hf aa.pl aa.tl nw st wi (l:=sortK (λx=>g.2.1.getD x.toNat 0) (ripeL g.2.1)) (λx hx=>by have hm:x∈ripeL g.2.1:=hs.mem_iff.1 hx;have:=r1 x hm;exact⟨by omega,ab x hm⟩) (by rw[hs.length_eq];have af:(ripeL g.2.1).length<=g.2.1.length:=r3;omega) ad;have hd:((((ds.length:Nat):Int))==0)=false:=beq_eq_false_iff_ne.2 (by omega);unfold wbek wbnw growSet;rw[qn,hv,xc,qo,xk,qb,qo,hd,qb,qn,e1,xc,qn,e2,xc,qn,e3,xc,qq]
end
def medSet(ds:List (List Int))(n:Nat)(k:Int):List Int:=firstMin (serve ds) (ofSz n k)
theorem nsize_places{n:Nat}(h1:1<=n)(h7:n<=7){k:Int}{s:List Int}(hs:s∈ofSz n k):Places s n/\(s.length:Int)=k/\0<s.length/\Low1 s:=by obtain⟨a,b⟩:=ofSz_mem.1 hs;obtain⟨c,d,e⟩:=setP_places h7 (setsP h1 h7) a;exact⟨c,b,d,e⟩
theorem medSet_mem{ds:List (List Int)}{n:Nat}(h7:n<=7){k:Int}(hk:1<=k/\k<=(n:Int)):medSet ds n k∈ofSz n k:=
 (firstMin_spec (ofSz_ne h7 hk.1 hk.2)).1
theorem median_eq{o:List Int}{ds:List (List Int)}(hf:Fld o ds){k:Int}(hk:1<=k/\k<=(o.length:Int)):wcde o ds k=some (medSet ds o.length k):=by
 have h7:=hf.len;have h1:=hf.pos;have hS:=setsP h1 h7;obtain⟨x,e1,e2,e3⟩:=hS.im;have ab:=setsP_len hS h7;have ak:x.1.length=(setsOf o.length).length:=by rw[<-e3,permL_len]
 obtain⟨y,k1,k2,k3⟩:=deleteFunc_eq (x:=x) e2 (by omega) (p:=λad=>Option.bind (wbqy ad.1 k) λae=>some ae) (q:=λs=> !decide ((s.length:Int)=k)) λs hs=>by rw[e3]at hs;obtain⟨p1,p2,p3⟩:=setP_places h7 hS hs;unfold Low1 at p3;show Option.bind (wbqy s k) _=_;unfold wbqy wcdc;simp(disch:=omega)only[EV];by_cases h:(s.length:Int)=k<;>simp[h]
 have aa:permL y.1 y.2=ofSz o.length k:=by rw[k3,e3];unfold ofSz;congr 1;funext s;simp
 have al:y.1.length=(ofSz o.length k).length:=by rw[<-aa,permL_len]
 have ai:=xar.2 (ofSz_ne h7 (k:=k) hk.1 hk.2);have aj:(ofSz o.length k).length<=(setsOf o.length).length:=xdq _ _;have hle:=leastP_eq (x:=y) k2 (by omega) (by omega) (p:=λaf=>Option.bind (wbdf o ds af.1) λah=>some ah) (g:=serve ds) λs hs=>by rw[aa]at hs;obtain⟨p1,_,p2,_⟩:=nsize_places h1 h7 hs;show Option.bind (wbdf o ds s) _=_;rw[service_eq hf p1 p2];rfl
 rw[aa]at hle;unfold wcde wcdd medSet;simp(disch:=omega)only[EV,e1,k1,hle]
theorem npick_size{n:Nat}(h1:1<=n)(h7:n<=7){k:Int}(hk:1<=k/\k<=(n:Int))(g:List Int->Int):pickL (λs=>decide ((s.length:Int)=k)) g (setsOf n)=firstMin g (ofSz n k):=by rw[pickL_eq (setsOf n) λs hs e=>by have:=(setP_places h7 (setsP h1 h7) hs).2.1;rw[e]at this;simp at this];rw[qh (show¬(setsOf n).filter (λs=>decide ((s.length:Int)=k))=[]from ofSz_ne h7 hk.1 hk.2)];rfl
theorem l4Best_eq{o:List Int}{ds:List (List Int)}(hf:Fld o ds){k:Int}(hk:1<=k/\k<=(o.length:Int)):wbzd o ds k=some (medSet ds o.length k):=by
 have h7:=hf.len;have aa:=hf.pos;have hS:=setsP (n:=o.length) aa h7;have ad:=setsP_len hS h7;have h0:=iter_foldl (f:=λv=>(wapn (k,setsOf o.length,o,ds) v).ev) (setsOf o.length) [] (mk:=λi s=>(s,(i:Int))) (I:=λ_ s=>s=[]\/s∈ofSz o.length k)
  (g:=λc s=>if decide ((s.length:Int)=k)=true/\(c=[]\/serve ds s<serve ds c)then s else c) (fin:=λs=>s) (s0:=[]) (.inl rfl)
  (λi s hi hI=>by
   have ab:(setsOf o.length).getD i []∈setsOf o.length:=getD_mem hi;obtain⟨p1,p2,_⟩:=setP_places h7 hS ab;have e1:=l2Serve_eq hf p1 p2;by_cases hv:(((setsOf o.length).getD i []).length:Int)=k
   ·have ae:(setsOf o.length).getD i []∈ofSz o.length k:=ofSz_mem.2 ⟨ab,hv⟩;have hq:((((setsOf o.length).getD i []).length:Int)==k)=true:=beq_iff_eq.2 hv;refine⟨?_,?_⟩
    ·rcases hI with rfl|hs;·have hz:(((List.length ([]:List Int):Nat):Int)==0)=true:=rfl;simp(disch:=omega)only[EV,wapn,hi,hq,hz];rw[qi ⟨by simpa using hv,.inl trivial⟩];rfl
     ·obtain⟨q1,q2,q3,_⟩:=nsize_places aa h7 hs;have hz:(((s.length:Nat):Int)==0)=false:=beq_eq_false_iff_ne.2 (by omega);have af:s≠ []:=λe=>by rw[e]at q3;simp at q3
      have e2:=l2Serve_eq hf q1 q3;by_cases hc:serve ds ((setsOf o.length).getD i [])<serve ds s;·simp(disch:=omega)only[EV,wapn,hi,hq,hz,e1,e2,hc];rw[qi ⟨by simpa using hv,.inr trivial⟩];rfl
      ·simp(disch:=omega)only[EV,wapn,hi,hq,hz,e1,e2,hc];rw[qh (λh=>h.2.elim af id)];rfl
    ·split;·exact .inr ae
     ·exact hI
   ·have hq:((((setsOf o.length).getD i []).length:Int)==k)=false:=beq_eq_false_iff_ne.2 hv;rw[qh (λh=>hv (by simpa using h.1))];exact⟨by simp(disch:=omega)only[EV,wapn,hi,hq];rfl,hI⟩)
  (λs _=>by simp(disch:=omega)only[EV,wapn,xi])
 have h1:wbho (k,setsOf o.length,o,ds) (([]:List Int),(0:Int))=some (pickL (λs=>decide ((s.length:Int)=k)) (serve ds) (setsOf o.length)):=h0.1;rw[npick_size aa h7 hk]at h1;unfold wbzd wbzc medSet;simp(disch:=omega)only[EV,hS.sp,h1]
def SLow(s:List UInt8):Prop:=(s.length:Int)<=1048576
def byOK(c:UInt8):Bool:=decide (32<=c.toNat)&&(decide (c.toNat<=126)&& !(c.toNat==35))
def bytesB(s:List UInt8)(most:Int):Bool:=s.all byOK&&decide ((s.length:Int)<=most)
def hasB(s:List UInt8)(b:Nat):Bool:=s.any λc=>c.toNat==b
def recordB(c r:List UInt8):Bool:= !(c==[])&&(bytesB c 160&&(!hasB c 64&&bytesB r 200))
theorem castB(a b:Nat):(((a:Nat):Int)==((b:Nat):Int))=(a==b):=by rw[xcn,qg,qg];omega
theorem byte_lt(c:UInt8):c.toNat<256:=c.toNat_lt
theorem all_bytes(s:List UInt8)(p:UInt8->Bool):((List.range s.length).all λi=>p (s.getD i 0))=s.all p:=all_range s 0 p
theorem l12Bytes_eq{s:List UInt8}(hs:SLow s)(m:Int):wbld s m=some (bytesB s m):=by
 unfold SLow at hs;have h0:wbfi (s,m) 0=_:=iter_allR (f:=λv=>(wayv (s,m) v).ev) (n:=s.length) (mk:=λi=>(i:Int)) (p:=λi=>byOK (s.getD i 0)) (yes:=.inl ()) (no:=.inr ()) (λi hi _=>by
  have hb:=byte_lt (s.getD i 0);have aa:(((s.getD i 0).toNat:Int)==35)=((s.getD i 0).toNat==35):=castB _ 35;simp(disch:=omega)only[EV,wayv,hi,l1In_eq,aa];unfold byOK isIn;by_cases h1:32<=(s.getD i 0).toNat<;>by_cases h2:(s.getD i 0).toNat<=126<;>cases h3:((s.getD i 0).toNat==35)<;>
   simp only[h1,h2,decide_true,decide_false,xcg,xga,xk,xae,qa,qb,show(32:Int)<=((s.getD i 0).toNat:Int)↔32<=(s.getD i 0).toNat by omega,show((s.getD i 0).toNat:Int)<=126↔(s.getD i 0).toNat<=126 by omega]<;>rfl) (by simp(disch:=omega)only[EV,wayv,xi])
 rw[all_bytes s byOK]at h0;unfold wbld wbup bytesB;simp(disch:=omega)only[EV,h0];cases s.all byOK<;>rfl
theorem isPlain_eq{s:List UInt8}(hs:SLow s)(m:Int):wbpk s m=some (bytesB s m):=by
 unfold SLow at hs;have h0:wbie (s,m,(s.length:Int)) 0=_:=iter_allR (f:=λv=>(wbae (s,m,(s.length:Int)) v).ev) (n:=s.length) (mk:=λi=>(i:Int)) (p:=λi=>byOK (s.getD i 0)) (yes:=.inl ()) (no:=.inr ()) (λi hi _=>by
  have ad:(((s.getD i 0).toNat:Int)==35)=((s.getD i 0).toNat==35):=castB _ 35;simp(disch:=omega)only[EV,wbae,hi,ad];unfold byOK;by_cases h1:32<=(s.getD i 0).toNat
  ·have aa:¬((s.getD i 0).toNat:Int)<32:=by omega
   by_cases h2:(s.getD i 0).toNat<=126
   ·have ab:¬(126:Int)<((s.getD i 0).toNat:Int):=by omega
    simp only[h1,h2,aa,ab,decide_true,if_false,xcg];cases((s.getD i 0).toNat==35)<;>rfl
   ·have ab:(126:Int)<((s.getD i 0).toNat:Int):=by omega
    simp only[h1,h2,aa,ab,decide_true,decide_false,if_false,if_true,xcg,xga,qb]
  ·have aa:((s.getD i 0).toNat:Int)<32:=by omega
   simp only[h1,aa,decide_false,if_true,xga,qb]) (by simp(disch:=omega)only[EV,wbae,xi])
 rw[all_bytes s byOK]at h0;unfold wbpk wcau bytesB;simp(disch:=omega)only[EV,h0];cases s.all byOK<;>rfl
theorem l1Stands_eq{s:List UInt8}(hs:(s.length:Int)<9223372036854775807)(b:Nat):wblf s (b:Int)=some (hasB s b):=by have h0:wbfj (s,(b:Int)) 0=_:=iter_allR (f:=λv=>(wayw (s,(b:Int)) v).ev) (n:=s.length) (mk:=λi=>(i:Int)) (p:=λi=> !((s.getD i 0).toNat==b)) (yes:=.inl ()) (no:=.inr ()) (λi hi _=>by simp(disch:=omega)only[EV,wayw,hi,castB];cases((s.getD i 0).toNat==b)<;>rfl) (by simp(disch:=omega)only[EV,wayw,xi]);rw[all_bytes s λc=> !(c.toNat==b)]at h0;unfold wblf wbuq hasB;simp(disch:=omega)only[EV,h0];rw[xfa];cases s.all λc=> !(c.toNat==b)<;>rfl
theorem indexByte_spec(c:UInt8):∀s:List UInt8,-1<=Lib.indexByte s c/\(Lib.indexByte s c= -1↔∀x∈s,x≠c)
 | []=>by simp[Lib.indexByte]
 |b::l=>by
  obtain⟨h1,h2⟩:=indexByte_spec c l;unfold Lib.indexByte;by_cases hb:b=c;·subst hb;simp
  ·have e:(b==c)=false:=by simpa using hb
   rw[e];by_cases h:Lib.indexByte l c= -1
   ·have e2:(Lib.indexByte l c== -1)=true:=by simp[h]
    rw[e2];simp only[xai,if_false,if_true];refine⟨by omega,⟨λ_ x hx=>?_,λ_=>trivial⟩⟩;rcases xaf.1 hx with rfl|hx;·exact hb
    ·exact h2.1 h x hx
   ·have e2:(Lib.indexByte l c== -1)=false:=by simpa using h
    rw[e2];simp only[xai,if_false];refine⟨by omega,⟨λh3=>by omega,λh3=>absurd (h2.2 λx hx=>h3 x (xr _ hx)) h⟩⟩
theorem toU8(b:UInt8):((b.toNat:Int)).toNat.toUInt8=b:=by rw[xy];exact UInt8.ofNat_toNat
theorem idxByte_pos(s:List UInt8)(b:UInt8):decide (0<=idxByte s (b.toNat:Int))=hasB s b.toNat:=by
 unfold idxByte hasB;rw[toU8];obtain⟨h1,h2⟩:=indexByte_spec b s;rw[xcn,qe,xbf];constructor
 ·intro h;have h3:¬ ∀x∈s,x≠b:=λh4=>by have:=h2.2 h4;omega
  simp only[Classical.not_forall]at h3;obtain⟨x,hx,hn⟩:=h3;exact⟨x,hx,by rw[qg];exact congrArg UInt8.toNat (Classical.not_not.1 hn)⟩
 ·rintro⟨x,hx,he⟩;have aa:Lib.indexByte s b≠ -1:=λh=>h2.1 h x hx (xey.1 (beq_iff_eq.1 he));omega
theorem index1_eq(s:List UInt8)(b:UInt8):F_internal_stringslite_Index s [b]=some (if[b]==s then 0 else idxByte s (b.toNat:Int)):=by unfold F_internal_stringslite_Index T_internal_stringslite_Index F_internal_stringslite_IndexByte T_internal_stringslite_IndexByte F_internal_bytealg_IndexByteString;have e0:(((List.length [b]:Nat):Int)==0)=false:=rfl;have e1:(((List.length [b]:Nat):Int)==1)=true:=rfl;have e2:inR (0:Int) (List.length [b])=true:=rfl;have e3:List.getD [b] (Int.toNat 0) 0=b:=rfl;simp(disch:=omega)only[EV,e0,e1,e2,e3];cases([b]==s)<;>rfl
theorem idx1_pos(s:List UInt8)(b:UInt8):decide ((0:Int)<=if[b]==s then 0 else idxByte s (b.toNat:Int))=hasB s b.toNat:=by
 cases h:([b]==s)with
 |false=>simpa using idxByte_pos s b
 |true=>have:=beq_iff_eq.1 h;subst this;simp[hasB]
theorem contains1_eq(s:List UInt8)(b:UInt8):wbch s [b]=some (hasB s b.toNat):=by unfold wbch wcap wcgo wcao;simp(disch:=omega)only[EV,index1_eq];rw[idx1_pos]
theorem l12Record_eq{c r:List UInt8}(hc:SLow c)(hr:SLow r):wbfk c r=some (recordB c r):=by have h:=hc;unfold SLow at h;unfold wbfk wbur recordB;have aa:wblf c (64:Int)=some (hasB c 64):=l1Stands_eq (by omega) 64;simp(disch:=omega)only[EV,l12Bytes_eq hc,l12Bytes_eq hr,aa];cases(c==[])<;>cases bytesB c 160<;>cases hasB c 64<;>rfl
theorem im_IsValidRecord_eq{c r:List UInt8}(hc:SLow c)(hr:SLow r):wbif c r=some (recordB c r):=by unfold wbif wcav recordB;have aa:wbch c [64]=some (hasB c 64):=contains1_eq c 64;simp(disch:=omega)only[EV,isPlain_eq hc,isPlain_eq hr,aa];cases(c==[])<;>cases bytesB c 160<;>cases hasB c 64<;>cases bytesB r 200<;>rfl
section
open Go
theorem dig1_fin:∀i:Fin 10,List.drop i.val (List.take (i.val+1) ([48,49,50,51,52,53,54,55,56,57]:List UInt8))=[UInt8.ofNat (48+i.val)]:=by decide+kernel
theorem dig1{u:Nat}(h:u<10):List.drop u (List.take (u+1) ([48,49,50,51,52,53,54,55,56,57]:List UInt8))=[UInt8.ofNat (48+u)]:=dig1_fin ⟨u,h⟩
theorem nDig_le:∀(k u:Nat),u<10^(k+1)->Lib.nDigits u<=k+1
 |0,u,h=>by rw[Lib.nDigits_small (by simpa using h)];omega
 |k+1,u,h=>by
  by_cases aa:u<10;·rw[Lib.nDigits_small aa];omega
  ·rw[Lib.nDigits_big aa];have:=nDig_le k (u/ 10) (by rw[Nat.pow_succ]at h;omega);omega
theorem nDig7{u:Nat}(h:u<10000000):Lib.nDigits u<=7:=nDig_le 6 u (by simpa using h)
theorem dig_mem{u:Nat}{b:UInt8}(h:b∈Lib.decDigits u):48<=b.toNat/\b.toNat<=57:=by
 induction u using Nat.strongRecOn with
 |_ u ih=>
  have one:∀i,i<10->∀b∈ [UInt8.ofNat (48+i)],48<=b.toNat/\b.toNat<=57:=by intro i hi b hb;obtain rfl:=xp.1 hb;rw[xgb];omega
  rw[Lib.decDigits]at h;split at h
  next aa=>exact one u aa b h
  next aa=>
   rcases xt.1 h with h|h;·exact ih (u/ 10) (by omega) h
   ·exact one (u % 10) (by omega) b h
theorem tdiv10(u:Nat):Int.tdiv (u:Int) 10=((u/ 10:Nat):Int):=by rw[xek (by omega)];omega
theorem tmod10(u:Nat):Int.tmod (u:Int) 10=((u % 10:Nat):Int):=by rw[xgc (by omega)];omega
theorem l1Num_nat:∀(m u:Nat),u<10000000->Lib.nDigits u<=m->wafu m (u:Int)=some (Lib.decDigits u)
 |0,u,_,h=>absurd (Lib.nDigits_pos u) (by omega)
 |m+1,u,hu,h=>by
  show(wbeg (wafu m) (u:Int)).ev=_;unfold wbeg;have e0:decide ((u:Int)<0)=false:=by simp;
  by_cases aa:u<10
  ·have h1:decide ((u:Int)<10)=true:=by simp;omega
   have e1:IntKind.wrap .i64 ((u:Int)+1)=((u+1:Nat):Int):=by rw[wrap64 (by omega) (by omega)];omega
   have e2:(decide ((0:Int)<=(u:Int))&&decide ((u:Int)<=((u+1:Nat):Int))&&decide (((u+1:Nat):Int)<=((List.length ([48,49,50,51,52,53,54,55,56,57]:List UInt8):Nat):Int)))=true:=by simp only[xh,qe,xj,xab];omega
   rw[e1];simp(disch:=omega)only[EV,e0,h1,e2,dig1 aa];rw[Lib.decDigits_one aa]
  ·have h1:decide ((u:Int)<10)=false:=by simp;omega
   have ih:=l1Num_nat m (u/ 10) (by omega) (by rw[Lib.nDigits_big aa]at h;omega);have hm:u % 10<10:=by omega
   have e1:IntKind.wrap .i64 (((u % 10:Nat):Int)+1)=((u % 10+1:Nat):Int):=by rw[wrap64 (by omega) (by omega)];omega
   have e2:(decide ((0:Int)<=((u % 10:Nat):Int))&&decide (((u % 10:Nat):Int)<=((u % 10+1:Nat):Int))&&decide (((u % 10+1:Nat):Int)<=((List.length ([48,49,50,51,52,53,54,55,56,57]:List UInt8):Nat):Int)))=true:=by simp only[xh,qe,xj,xab];omega
   have e3:IntKind.wrap .i64 ((u/ 10:Nat):Int)=((u/ 10:Nat):Int):=wrap64 (by omega) (by omega);have hl:(Lib.decDigits (u/ 10)).length<=7:=by rw[Lib.decDigits_length];exact nDig7 (by omega)
   have e4:List.length (Lib.decDigits (u/ 10))+List.length [UInt8.ofNat (48+u % 10)]<=9223372036854775807:=by simp;omega
   rw[tdiv10,tmod10,e1,e3];have ez:decide ((10:Int)=0)=false:=rfl;simp(disch:=omega)only[EV,e0,h1,e2,ih,dig1 hm,e4,ez];rw[Lib.decDigits.eq_def u,dif_neg aa]
theorem l1Num_eq{k:Int}(h0:0<=k)(h1:k<10000000):wafu 1000000 k=some (Lib.decDigits k.toNat):=by have:=l1Num_nat 1000000 k.toNat (by omega) (xds (nDig7 (by omega)) (by omega));rw[show((k.toNat:Nat):Int)=k by omega]at this;exact this
theorem Itoa_eq{k:Int}(h0:0<=k)(h1:k<10000000):wapq k=some (Lib.decDigits k.toNat):=by
 unfold wapq itoaF inI64 Lib.itoa;have e:(decide (-9223372036854775808<=k)&&decide (k<=9223372036854775807))=true:=by simp only[xh,qe];omega
 rw[qi e,qh (by omega)]
def chkStep(h:Int)(c:UInt8):Int:=Int.tmod (41*h+(c.toNat:Int)+1) 999979
def chk(s:List UInt8):Int:=s.foldl chkStep 7
theorem chkStep_in{h:Int}(h0:0<=h)(c:UInt8):0<=chkStep h c/\chkStep h c<999979:=by unfold chkStep;rw[xgc (by omega)];omega
theorem chk_in(s:List UInt8):0<=chk s/\chk s<999979:=by
 have:∀(s:List UInt8) (h:Int),0<=h->h<999979->0<=s.foldl chkStep h/\s.foldl chkStep h<999979:=by
  intro s;induction s with
  |nil=>intro h a b;exact⟨a,b⟩
  |cons c s ih=>intro h a b;obtain⟨x,y⟩:=chkStep_in a c;exact ih _ x y
 exact this s 7 (by omega) (by omega)
theorem l1Sum_eq{s:List UInt8}(hs:SLow s):wbuu s=some (chk s):=by unfold SLow at hs;have h0:wbfl s ((7:Int),(0:Int))=_:=(iter_foldl (f:=λv=>(wayx s v).ev) s (0:UInt8) (λi (h:Int)=>(h,(i:Int))) (λ_ h=>0<=h/\h<999979) chkStep (λh=>h) (s0:=7) ⟨by omega,by omega⟩ (λi h hi ⟨a,b⟩=>by have hb:=byte_lt (s.getD i 0);refine⟨?_,chkStep_in a _⟩;simp(disch:=omega)only[EV,wayx,hi];unfold chkStep;rfl) (λh _=>by simp(disch:=omega)only[EV,wayx,xi])).1;unfold wbuu wbut chk;simp(disch:=omega)only[EV,h0]
theorem checksum_eq{s:List UInt8}(hs:SLow s):wcar s=some (chk s):=by unfold SLow at hs;have h0:wbic (s,(s.length:Int)) ((7:Int),(0:Int))=_:=(iter_foldl (f:=λv=>(wbad (s,(s.length:Int)) v).ev) s (0:UInt8) (λi (h:Int)=>(h,(i:Int))) (λ_ h=>0<=h/\h<999979) chkStep (λh=>h) (s0:=7) ⟨by omega,by omega⟩ (λi h hi ⟨a,b⟩=>by have hb:=byte_lt (s.getD i 0);refine⟨?_,chkStep_in a _⟩;simp(disch:=omega)only[EV,wbad,hi];unfold chkStep;rfl) (λh _=>by simp(disch:=omega)only[EV,wbad,xi])).1;unfold wcar wcaq chk;simp(disch:=omega)only[EV,h0]
end
section
open Go
def bef(b:Nat)(s:List UInt8):List UInt8:=s.takeWhile λc=> !(c.toNat==b)
def aft(b:Nat)(s:List UInt8):List UInt8:=s.drop ((bef b s).length+1)
theorem hasB_app(a c:List UInt8)(b:Nat):hasB (a++c) b=(hasB a b||hasB c b):=xgy
theorem bef_le(b:Nat)(s:List UInt8):(bef b s).length<=s.length:=(List.takeWhile_sublist _).length_le
theorem bef_app{b:Nat}{a r:List UInt8}{c:UInt8}(h:hasB a b=false)(hc:c.toNat=b):bef b (a++c::r)=a:=by
 unfold bef;induction a with
 |nil=>simp[hc]
 |cons x a ih=>unfold hasB at h;simp only[xeq,xct]at h;rw[xbt,xfs,h.1,xae,qi rfl,ih h.2]
theorem aft_app{b:Nat}{a r:List UInt8}{c:UInt8}(h:hasB a b=false)(hc:c.toNat=b):aft b (a++c::r)=r:=by unfold aft;rw[bef_app h hc,show a++c::r=(a++ [c])++r by simp,List.drop_left' (by simp)]
theorem bef_no{b:Nat}{s:List UInt8}(h:hasB s b=false):bef b s=s:=by
 unfold bef hasB at*;induction s with
 |nil=>rfl
 |cons x s ih=>simp only[xeq,xct]at h;rw[xfs,h.1,xae,qi rfl,ih h.2]
theorem bef_split{b:Nat}{s:List UInt8}(h:hasB s b=true):∃c:UInt8,c.toNat=b/\s=bef b s++c::aft b s/\hasB (bef b s) b=false:=by
 induction s with
 |nil=>simp[hasB]at h
 |cons x s ih=>
  cases hx:(x.toNat==b)with
  |true=>
   refine⟨x,by simpa using hx,?_,?_⟩;·simp[bef,aft,hx]
   ·simp[bef,hx,hasB]
  |false=>
   have h':hasB s b=true:=by unfold hasB at h⊢;rw[xeq,hx,xes]at h;exact h
   obtain⟨c,h1,h2,h3⟩:=ih h';have e:bef b (x::s)=x::bef b s:=by simp[bef,hx]
   refine⟨c,h1,?_,?_⟩
   ·have e2:aft b (x::s)=aft b s:=by unfold aft;rw[e,xj];rfl
    rw[e,e2,xbt,<-h2]
   ·rw[e];unfold hasB at h3⊢;rw[xeq,hx,xes];exact h3
theorem bef_lt{b:Nat}{s:List UInt8}(h:hasB s b=true):(bef b s).length<s.length:=by obtain⟨c,_,h2,_⟩:=bef_split h;have:=congrArg List.length h2;simp only[xl,xj]at this;omega
theorem take_bef(b:Nat)(s:List UInt8):s.take (bef b s).length=bef b s:=by
 unfold bef;induction s with
 |nil=>rfl
 |cons x s ih=>
  rw[xfs];split;·rw[xj,List.take_succ_cons,ih]
  ·rfl
theorem take_bef1{b:Nat}{s:List UInt8}{c:UInt8}(h:hasB s b=true)(hc:c.toNat=b):s.take ((bef b s).length+1)=bef b s++ [c]:=by obtain⟨c',h1,h2,h3⟩:=bef_split h;have:c'=c:=xey.1 (h1.trans hc.symm);subst this;generalize hb:bef b s=p at*;rw[h2,xgm,xaw (by omega)];simp
theorem indexByte_bef(c:UInt8):∀s:List UInt8,Lib.indexByte s c=if hasB s c.toNat then((bef c.toNat s).length:Int)else-1
 | []=>rfl
 |x::s=>by
  have ih:=indexByte_bef c s;unfold Lib.indexByte;have e:(x==c)=(x.toNat==c.toNat):=by rw[xcn,qg,qg,xey]
  rw[e];cases hx:(x.toNat==c.toNat)with
  |true=>simp[hasB,hx,bef]
  |false=>
   have e1:hasB (x::s) c.toNat=hasB s c.toNat:=by simp[hasB,hx]
   have e2:bef c.toNat (x::s)=x::bef c.toNat s:=by simp[bef,hx]
   rw[e1,e2];simp only[xai,if_false];rw[ih];cases hasB s c.toNat with
   |true=>simp
   |false=>simp
theorem idxByte_bef(s:List UInt8)(c:UInt8):idxByte s (c.toNat:Int)=if hasB s c.toNat then((bef c.toNat s).length:Int)else-1:=by unfold idxByte;rw[toU8];exact indexByte_bef c s
theorem IndexByte_eq(s:List UInt8)(c:UInt8):wbpg s (c.toNat:Int)=some (if hasB s c.toNat then((bef c.toNat s).length:Int)else-1):=by unfold wbpg wcam F_internal_stringslite_IndexByte T_internal_stringslite_IndexByte F_internal_bytealg_IndexByteString;simp(disch:=omega)only[EV,idxByte_bef]
theorem Cut_eq{s:List UInt8}(hs:SLow s)(c:UInt8):wbbx s [c]=some (if hasB s c.toNat then(bef c.toNat s,aft c.toNat s,true)else(s,[],false)):=by
 unfold SLow at hs;have e:F_internal_stringslite_Index s [c]=some (if hasB s c.toNat then((bef c.toNat s).length:Int)else-1):=by
  rw[index1_eq,idxByte_bef];cases h:([c]==s)with
  |false=>rfl
  |true=>have:=beq_iff_eq.1 h;subst this;simp[hasB,bef]
 unfold wbbx wcan F_internal_stringslite_Cut T_internal_stringslite_Cut;cases h:hasB s c.toNat with
 |false=>rw[h]at e;have:decide ((0:Int)<= -1)=false:=rfl;simp only[xai,if_false]at e;simp(disch:=omega)only[EV,e,this];rfl
 |true=>
  rw[h]at e;simp only[if_true]at e;have hl:=bef_lt h;have e1:decide ((0:Int)<=((bef c.toNat s).length:Int))=true:=by simp
  have e2:decide (((bef c.toNat s).length:Int)<=(s.length:Int))=true:=by simp;omega
  have e3:IntKind.wrap .i64 (((bef c.toNat s).length:Int)+((List.length [c]:Nat):Int))=(((bef c.toNat s).length+1:Nat):Int):=by rw[wrap64]<;>simp<;>omega
  have e4:(decide ((0:Int)<=(((bef c.toNat s).length+1:Nat):Int))&&decide ((((bef c.toNat s).length+1:Nat):Int)<=(s.length:Int)))=true:=by simp only[xh,qe];omega
  rw[e];simp(disch:=omega)only[EV,e1,e2];rw[e3];simp(disch:=omega)only[EV,e4];rw[take_bef,xal];rfl
def text(k:Int)(c r:List UInt8):List UInt8:=(((Lib.decDigits k.toNat++ [32])++c)++ [64])++r
def sealT(s:List UInt8):List UInt8:=(s++ [35])++Lib.decDigits (chk s).toNat
def line(k:Int)(c r:List UInt8):List UInt8:=sealT (text k c r)++ [10]
def encB(k:Int)(c r:List UInt8):Bool:=isIn k 0 59&&recordB c r
def encF(k:Int)(c r:List UInt8):List UInt8×Bool:=if encB k c r then(line k c r,true)else([],false)
theorem dig_len{u:Nat}(h:u<10000000):(Lib.decDigits u).length<=7:=by rw[Lib.decDigits_length];exact nDig7 h
theorem chk_nat(s:List UInt8):(chk s).toNat<10000000:=by have:=chk_in s;omega
theorem sealT_len(s:List UInt8):(sealT s).length<=s.length+8:=by have:=dig_len (chk_nat s);unfold sealT;simp only[xl,xj,xab];omega
theorem dig_has{u b:Nat}(h:b<48\/57<b):hasB (Lib.decDigits u) b=false:=by unfold hasB;rw[xcb];intro x hx;have:=dig_mem hx;simp only[qg];omega
theorem rec_parts{c r:List UInt8}(h:recordB c r=true):hasB c 35=false/\hasB r 35=false/\hasB c 64=false/\hasB c 10=false/\hasB r 10=false/\c.length<=160/\r.length<=200:=by
 unfold recordB bytesB at h;simp only[xh,xay,qe,xq]at h;obtain⟨_,⟨h1,h2⟩,h3,h4,h5⟩:=h;have key:∀s:List UInt8,(∀x∈s,byOK x=true)->hasB s 35=false/\hasB s 10=false:=by
  intro s hs;unfold hasB;rw[xcb,xcb];constructor<;>intro x hx<;>have:=hs x hx<;>unfold byOK at this<;>simp only[xh,qe,xay,qf]at this<;>simp only[qg];·exact this.2.2
  ·omega
 exact⟨(key c h1).1,(key r h4).1,h3,(key c h1).2,(key r h4).2,by omega,by omega⟩
theorem text_len{k:Int}{c r:List UInt8}(hk:isIn k 0 59=true):(text k c r).length<=9+c.length+r.length:=by unfold isIn at hk;simp only[xh,qe]at hk;have:=dig_len (u:=k.toNat) (by omega);unfold text;simp only[xl,xj,xab];omega
theorem text_has35{k:Int}{c r:List UInt8}(h:recordB c r=true):hasB (text k c r) 35=false:=by obtain⟨h1,h2,_⟩:=rec_parts h;unfold text;simp only[hasB_app,h1,h2,dig_has (u:=k.toNat) (b:=35) (by omega),xer,xes];rfl
theorem seal_bef{s:List UInt8}(h:hasB s 35=false):bef 35 (sealT s)=s:=by unfold sealT;rw[xcf];exact bef_app h rfl
theorem text_bef32(k:Int)(c r:List UInt8):bef 32 (text k c r)=Lib.decDigits k.toNat/\aft 32 (text k c r)=c++64::r/\hasB (text k c r) 32=true:=by
 have e:text k c r=Lib.decDigits k.toNat++32::(c++64::r):=by simp[text]
 rw[e];have h:=dig_has (u:=k.toNat) (b:=32) (by omega);exact⟨bef_app h rfl,aft_app h rfl,by rw[hasB_app];simp[hasB]⟩
theorem cr_bef64{c r:List UInt8}(h:hasB c 64=false):bef 64 (c++64::r)=c/\aft 64 (c++64::r)=r/\hasB (c++64::r) 64=true:=
 ⟨bef_app h rfl,aft_app h rfl,by rw[hasB_app];simp[hasB]⟩
theorem l1Seal_eq{s:List UInt8}(hs:(s.length:Int)<=1000000):wblh s=some (sealT s):=by
 have h:=chk_in s;have hd:=dig_len (chk_nat s);have e0:List.length s+List.length ([35]:List UInt8)<=9223372036854775807:=by simp;omega
 have e1:List.length (s++([35]:List UInt8))+(Lib.decDigits (chk s).toNat).length<=9223372036854775807:=by simp;omega
 unfold wblh wbuv sealT;simp(disch:=omega)only[EV,l1Sum_eq (by unfold SLow;omega:SLow s),l1Num_eq h.1 (by omega),e0,e1]
theorem AppendChecksum_eq{s:List UInt8}(hs:s.length<=3000)(aa:hasB s 35=false):F_ze s=some (sealT s,true):=by
 have h:=chk_in s;have hd:=dig_len (chk_nat s);have e0:List.length s+List.length ([35]:List UInt8)<=9223372036854775807:=by simp;omega
 have e1:List.length (s++([35]:List UInt8))+(Lib.decDigits (chk s).toNat).length<=9223372036854775807:=by simp;omega
 have e2:¬(4000:Int)<(s.length:Int):=by omega
 have e3:¬(4000:Int)<((List.length ((s++([35]:List UInt8))++Lib.decDigits (chk s).toNat):Nat):Int):=by simp only[xl,xj,xab];omega
 have e4:wbch s ([35]:List UInt8)=some (hasB s 35):=contains1_eq s 35;unfold F_ze T_ze sealT;simp(disch:=omega)only[EV,checksum_eq (by unfold SLow;omega:SLow s),Itoa_eq h.1 (by omega),e0,e1,e2,e3,e4,aa]
theorem AppendChecksum_any{s:List UInt8}(hs:SLow s):∃x,F_ze s=some x:=by
 by_cases h1:(4000:Int)<(s.length:Int);·unfold F_ze T_ze;simp(disch:=omega)only[EV,h1];exact⟨_,rfl⟩
 ·cases aa:hasB s 35 with
  |true=>have e4:wbch s ([35]:List UInt8)=some (hasB s 35):=contains1_eq s 35;unfold F_ze T_ze;simp(disch:=omega)only[EV,h1,e4,aa];exact⟨_,rfl⟩
  |false=>
   have h:=chk_in s;have hd:=dig_len (chk_nat s);have e0:List.length s+List.length ([35]:List UInt8)<=9223372036854775807:=by simp;omega
   have e1:List.length (s++([35]:List UInt8))+(Lib.decDigits (chk s).toNat).length<=9223372036854775807:=by simp;omega
   have e4:wbch s ([35]:List UInt8)=some (hasB s 35):=contains1_eq s 35;unfold F_ze T_ze;simp(disch:=omega)only[EV,checksum_eq hs,Itoa_eq h.1 (by omega),e0,e1,h1,e4,aa];split<;>exact⟨_,rfl⟩
theorem l12Line_eq{k:Int}{c r:List UInt8}(hk:isIn k 0 59=true)(hc:(c.length:Int)<=100000)(hr:(r.length:Int)<=100000):wbli k c r=some (line k c r):=by
 have hl:=text_len (c:=c) (r:=r) hk;have hs:=sealT_len (text k c r);unfold isIn at hk;simp only[xh,qe]at hk;have hd:=dig_len (u:=k.toNat) (by omega);have e1:List.length (Lib.decDigits k.toNat)+List.length ([32]:List UInt8)<=9223372036854775807:=by simp;omega
 have e2:List.length (Lib.decDigits k.toNat++([32]:List UInt8))+List.length c<=9223372036854775807:=by simp;omega
 have e3:List.length ((Lib.decDigits k.toNat++([32]:List UInt8))++c)+List.length ([64]:List UInt8)<=9223372036854775807:=by simp only[xl,xj,xab];omega
 have e4:List.length (((Lib.decDigits k.toNat++([32]:List UInt8))++c)++([64]:List UInt8))+List.length r<=9223372036854775807:=by simp only[xl,xj,xab];omega
 have e5:wblh ((((Lib.decDigits k.toNat++([32]:List UInt8))++c)++([64]:List UInt8))++r)=some (sealT (text k c r)):=l1Seal_eq (s:=text k c r) (by omega);have e6:List.length (sealT (text k c r))+List.length ([10]:List UInt8)<=9223372036854775807:=by simp;omega
 unfold wbli wbuw;simp(disch:=omega)only[EV,l1Num_eq hk.1 (by omega),e1,e2,e3,e4,e5,e6];rfl
theorem im_EncodeRecord_eq{k:Int}{c r:List UInt8}(hc:SLow c)(hr:SLow r):F_zu k c r=some (encF k c r):=by
 unfold F_zu T_zu encF encB;simp(disch:=omega)only[EV,between_eq,im_IsValidRecord_eq hc hr];cases h1:isIn k 0 59 with
 |false=>rfl
 |true=>
  cases h2:recordB c r with
  |false=>rfl
  |true=>
   obtain⟨_,_,_,_,_,a,b⟩:=rec_parts h2;have hl:=text_len (c:=c) (r:=r) h1;have hs:=sealT_len (text k c r);have hk:=h1;unfold isIn at hk;simp only[xh,qe]at hk;have hd:=dig_len (u:=k.toNat) (by omega);have e1:List.length (Lib.decDigits k.toNat)+List.length ([32]:List UInt8)<=9223372036854775807:=by simp;omega
   have e2:List.length (Lib.decDigits k.toNat++([32]:List UInt8))+List.length c<=9223372036854775807:=by simp;omega
   have e3:List.length ((Lib.decDigits k.toNat++([32]:List UInt8))++c)+List.length ([64]:List UInt8)<=9223372036854775807:=by simp only[xl,xj,xab];omega
   have e4:List.length (((Lib.decDigits k.toNat++([32]:List UInt8))++c)++([64]:List UInt8))+List.length r<=9223372036854775807:=by simp only[xl,xj,xab];omega
   have e5:F_ze ((((Lib.decDigits k.toNat++([32]:List UInt8))++c)++([64]:List UInt8))++r)=some (sealT (text k c r),true):=AppendChecksum_eq (s:=text k c r) (by omega) (text_has35 h2);have e6:List.length (sealT (text k c r))+List.length ([10]:List UInt8)<=9223372036854775807:=by simp;omega
   simp(disch:=omega)only[EV,Itoa_eq hk.1 (by omega),e1,e2,e3,e4,e5,e6];rfl
end
theorem clone_eq{l:List Int}(hl:Low1 l):wbac l=some l:=by unfold Low1 at hl;unfold wbac cloneF;rw[qi (by omega)]
theorem rows_copy{f:Int×List (List Int)->Option ((Int×List (List Int))⊕List (List Int))}{x:List (List Int)}
  (aa:∀i:Nat,i<x.length->f ((i:Int),x.take i)=some (.inl (((i+1:Nat):Int),x.take i++ [x.getD i []]))) (ab:f ((x.length:Int),x)=some (.inr x)):iter f (0,[])=some x:=by
 have:=(iter_fold (f:=f) (n:=x.length) (mk:=λi (_:Unit)=>((i:Int),x.take i)) (I:=λ_ _=>True) (g:=λs _=>s) (fin:=λ_=>x) (s0:=()) trivial
  (λi s hi _=>⟨by rw[aa i hi,take_snoc [] hi],trivial⟩)
  (λs _=>by rw[xal,ab])).1
 simpa using this
theorem set_last{α:Type}(l:List α)(a b:α):(l++ [a]).set l.length b=l++ [b]:=by simp
theorem copyLists_eq{ds:List (List Int)}(hd:Low2 ds):wbib ds=some ds:=by
 unfold wbib wbpe;have hl:=hd.1;have h0:=rows_copy (f:=λv=>(wapp (ds,((ds.length:Nat):Int)) v).ev) (x:=ds)
  (λi hi=>by
   have ht:(ds.take i).length<=i:=xft _ _;have hg:((ds.take i).length+1)*24<=140737488355328:=by omega
   simp(disch:=omega)only[EV,wapp,hi,clone_eq (hd.2 _ (getD_mem (d:=[]) hi)),set_last,hg];rfl)
  (by simp(disch:=omega)only[EV,wapp,xi])
 simp(disch:=omega)only[EV,wbdb,h0]
theorem copied_eq{o:List Int}{ds:List (List Int)}{s:List Int}(ho:Low1 o)(hd:Low2 ds)(hs:Low1 s)(c:Int):F_zm o ds s c=some (c,o,ds,s):=by unfold F_zm T_zm;simp(disch:=omega)only[EV,clone_eq ho,clone_eq hs,copyLists_eq hd]
def ncon(b:Bool)(o:List Int)(ds:List (List Int))(s:List Int)(c:Int):Int×List UInt8×List UInt8×Int×Bool×List Int×List (List Int)×List Int:=bif b then(c,[],[],0,true,o,ds,s)else(0,[],[],0,false,[],[],[])
theorem im_NewConsole_eq{o:List Int}{ds:List (List Int)}{s:List Int}(ho:Low1 o)(hd:Low2 ds)(hs:Low1 s)(c:Int):wbpf o ds s c=some (ncon (atlasB o ds s c) o ds s c):=by unfold wbpf wcal;simp(disch:=omega)only[EV,im_IsAtlas_eq ho hd hs,copied_eq ho hd hs];cases atlasB o ds s c<;>rfl
def dg(x:Int):List UInt8:=Lib.decDigits x.toNat
def txtOf(l:List Int):List UInt8:=Lib.join (l.map dg) [32]
def tellL(l:List Int):List UInt8:=if l=[]then[110,111,110,101]else txtOf l
def Few(l:List Int):Prop:=l.length<=7/\∀x∈l,0<=x/\x<1000000
theorem join_len:∀l:List (List UInt8),(∀x∈l,x.length<=7)->(Lib.join l [32]).length<=8*l.length
 | [],_=>by simp[Lib.join_nil]
 | [x],h=>by rw[Lib.join_one];have:=h x (xp.2 rfl);simp only[xj,xab];omega
 |x::y::r,h=>by have ih:=join_len (y::r) λz hz=>h z (xr _ hz);have hx:=h x xu;rw[Lib.join_cons]at ih⊢;unfold Lib.joinTail at ih⊢;simp only[xbn,List.flatten_cons,xl,xj,xab]at ih⊢;omega
theorem few_dg{l:List Int}(h:Few l):∀x∈l.map dg,x.length<=7/\hasB x 32=false:=λx hx=>by obtain⟨y,hy,rfl⟩:=xak.1 hx;have:=h.2 y hy;exact⟨dig_len (by omega),dig_has (by omega)⟩
theorem few_len{l:List Int}(h:Few l):(txtOf l).length<=56:=by have:=join_len (l.map dg) λx hx=>((few_dg h) x hx).1;rw[xbu]at this;have:=h.1;unfold txtOf;omega
theorem map_range{l:List Int}:(List.range l.length).map (λi=>dg (l.getD i 0))=l.map dg:=by
 apply xei;intro i;rw[xaa,xaa];by_cases hi:i<l.length;·rw[xbx hi,xg hi,xah,xah,xd,xg hi];rfl
 ·rw[xcc (by simp;omega),xcc (by omega)];rfl
theorem few_join{l:List Int}(h:Few l):wbev (l.map dg) [32]=some (txtOf l):=by
 have h1:=h.1;have h2:=(few_len h)
 unfold txtOf at h2;unfold wbev joinF;rw[qi ⟨by rw[xbu];omega,by omega⟩];rfl
theorem numbersText_eq{l:List Int}(h:Few l):wbjj l=some (txtOf l):=by
 have h1:=h.1;have aa:∀x:List UInt8,List.length [x]=1:=λ_=>rfl;have key:=iter_app (f:=λv=>(wbat (l,(l.length:Int)) v).ev) (n:=l.length) (λi (acc:List (List UInt8))=>((i:Int),acc)) (λi=>dg (l.getD i 0)) (λacc=>acc)
  (λi acc hi ha=>by
   have hx:=h.2 _ (getD_mem (d:=0) hi);have hb:(acc.length+1)*16<=140737488355328:=by omega
   simp(disch:=omega)only[EV,wbat,hi,Itoa_eq hx.1 (show l.getD i 0<10000000 by omega),aa,hb];rfl)
  (λacc _=>by simp(disch:=omega)only[EV,wbat,xi])
 rw[map_range]at key;have k1:wbji (l,(l.length:Int)) ((0:Int),([]:List (List UInt8)))=some (l.map dg):=key;unfold wbjj wccz;simp(disch:=omega)only[EV,k1,(few_join h)]
theorem listText_eq{l:List Int}(h:Few l):wbjk l=some (tellL l):=by
 unfold wbjk wcda tellL;cases l with
 |nil=>rfl
 |cons x r=>have hz:(((((x::r).length:Nat):Int))==0)=false:=beq_eq_false_iff_ne.2 (by simp;omega);simp(disch:=omega)only[EV,hz,numbersText_eq h];rw[qh (by simp)]
def upTo(n:Nat)(k:Int):List (List Int):=(setsOf n).filter λs=>decide ((s.length:Int)<=k)
theorem upTo_mem{n:Nat}{k:Int}{s:List Int}:s∈upTo n k↔s∈setsOf n/\(s.length:Int)<=k:=by unfold upTo;rw[xaj,qe]
theorem upTo_ne{n:Nat}(h7:n<=7){k:Int}(h1:1<=k/\k<=(n:Int)):upTo n k≠ []:=λe=>by have h:=ofSz_ne h7 (k:=k) h1.1 h1.2;obtain⟨s,hs⟩:=List.exists_mem_of_ne_nil _ h;obtain⟨a,b⟩:=ofSz_mem.1 hs;have:s∈upTo n k:=upTo_mem.2 ⟨a,by omega⟩;rw[e]at this;cases this
def cenSet(ds:List (List Int))(n:Nat)(k:Int):List Int:=firstMin (far ds) (upTo n k)
theorem centres_eq{o:List Int}{ds:List (List Int)}{k:Int}(hf:Fld o ds)(hm:wbdh o ds k=some true)(hk:1<=k/\k<=(o.length:Int)):F_zp o ds k=some (true,cenSet ds o.length k):=by
 have h7:=hf.len;have h1:=hf.pos;have hS:=setsP h1 h7;obtain⟨x,e1,e2,e3⟩:=hS.im;have ab:=setsP_len hS h7;have ak:x.1.length=(setsOf o.length).length:=by rw[<-e3,permL_len]
 obtain⟨y,k1,k2,k3⟩:=deleteFunc_eq (x:=x) e2 (by omega) (p:=λad=>Option.bind (wbrb ad.1 k) λae=>some ae) (q:=λs=> !decide ((s.length:Int)<=k)) λs hs=>by
  rw[e3]at hs;obtain⟨p1,p2,p3⟩:=setP_places h7 hS hs;unfold Low1 at p3;show Option.bind (wbrb s k) _=_;unfold wbrb wcdf;simp(disch:=omega)only[EV];by_cases h:(s.length:Int)<=k;·rw[qc h,qd (by omega)];rfl
  ·rw[qd h,qc (by omega)];rfl
 have aa:permL y.1 y.2=upTo o.length k:=by rw[k3,e3];unfold upTo;congr 1;funext s;simp
 have al:y.1.length=(upTo o.length k).length:=by rw[<-aa,permL_len]
 have ai:=xar.2 (upTo_ne h7 (k:=k) hk);have aj:(upTo o.length k).length<=(setsOf o.length).length:=xdq _ _;have hle:=leastP_eq (x:=y) k2 (by omega) (by omega) (p:=λaf=>Option.bind (wbew o ds af.1) λah=>some ah) (g:=far ds) λs hs=>by rw[aa]at hs;obtain⟨p1,p2,_⟩:=setP_places h7 hS (upTo_mem.1 hs).1;show Option.bind (wbew o ds s) _=_;rw[reach_eq hf p1 p2];rfl
 rw[aa]at hle;unfold F_zp T_zp wcin wcdg cenSet;simp(disch:=omega)only[EV,hm,e1,k1,hle]
section
open Go
theorem getD_get{α:Type}{l:List α}{d:α}{i:Nat}(h:i<l.length):l.getD i d=l[i]:=by rw[xd,xg h,xat]
theorem getD_app{α:Type}{l:List α}(r:List α){d:α}{i:Nat}(h:i<l.length):(l++r).getD i d=l.getD i d:=by rw[xd,xd,xac h]
theorem l1Split_eq{s:List UInt8}(hs:SLow s)(b:Nat):∃ps,wayu s (b:Int)=some ps/\0<ps.length/\ps.getD 0 []=bef b s/\(ps.length<2↔hasB s b=false):=by
 unfold SLow at hs;have pre:∀(n:Nat) (hn:n<=s.length),(∀j,j<n->((s.getD j 0).toNat==b)=false)->hasB (s.take n) b=false:=by intro n hn h;unfold hasB;rw[xcb];intro x hx;obtain⟨j,hj,rfl⟩:=xbs.1 hx;rw[xx]at hj;have:=h j (by omega);rw[getD_get (by omega)]at this;rw[List.getElem_take];simp[this]
 obtain⟨r,hr,hQ⟩:=iter_inv (f:=λv=>(wany (s,(b:Int)) v).ev) (n:=s.length) (λi (q:Int×List (List UInt8))=>(q.1,(i:Int),q.2))
  (λi q=>0<=q.1/\q.1<=i/\q.2.length<=i/\((q.2=[]/\q.1=0/\∀j,j<i->((s.getD j 0).toNat==b)=false)\/(0<q.2.length/\q.2.getD 0 []=bef b s/\hasB s b=true)))
  (λq=>0<=q.1/\q.1<=s.length/\q.2.length<=s.length/\((q.2=[]/\q.1=0/\hasB s b=false)\/(0<q.2.length/\q.2.getD 0 []=bef b s/\hasB s b=true)))
  (s0:=((0:Int),([]:List (List UInt8)))) ⟨by simp,by simp,by simp,.inl ⟨rfl,rfl,λj h=>absurd h (by omega)⟩⟩
  (λi q hi ⟨h1,h2,h3,h4⟩=>by
   obtain⟨st,ps⟩:=q;simp only at h1 h2 h3 h4;have g1:st<=(i:Int):=h2;have g2:(i:Int)<=(s.length:Int):=by omega
   left;cases hb:((s.getD i 0).toNat==b)with
   |false=>
    refine⟨(st,ps),?_,h1,by simp only;omega,by simp only;omega,?_⟩;·simp(disch:=omega)only[EV,wany,hi,castB,hb];rfl
    ·rcases h4 with⟨a,c,d⟩|h4
     ·refine .inl ⟨a,c,λj hj=>?_⟩;rcases xdg j i with h|h;·exact d j h
      ·obtain rfl:j=i:=by omega
       exact hb
     ·exact .inr h4
   |true=>
    have g3:(ps.length+List.length ([(List.drop st.toNat (List.take i s))]:List (List UInt8)))*16<=140737488355328:=by simp only[xj,xab];omega
    refine⟨((i:Int)+1,ps++ [List.drop st.toNat (List.take i s)]),?_,by simp only;omega,by simp only;omega,by simp only[xl,xj,xab];omega,.inr ?_⟩;·simp(disch:=omega)only[EV,wany,hi,castB,hb,h1,g1,g2,g3];rfl
    ·have aa:hasB s b=true:=by unfold hasB;rw[xbf];exact⟨s.getD i 0,by rw[getD_get hi];exact xdz hi,hb⟩
     refine⟨by simp,?_,aa⟩;rcases h4 with⟨a,c,d⟩|⟨a,c,d⟩
     ·subst a;subst c;have hp:=pre i (by omega) d;have e:s=s.take i++s.getD i 0::s.drop (i+1):=by rw[getD_get hi,<-xbe hi,xef]
      have h3:bef b s=s.take i:=by have:=bef_app (r:=s.drop (i+1)) hp (by simpa using hb:(s.getD i 0).toNat=b);rwa [<-e]at this
      rw[h3];simp
     ·rw[getD_app _ a];exact c)
  (λq ⟨h1,h2,h3,h4⟩=>⟨q,by simp(disch:=omega)only[EV,wany,xi],h1,h2,h3,by
   rcases h4 with⟨a,c,d⟩|h4;·refine .inl ⟨a,c,?_⟩;have:=pre s.length (xm _) d;rwa [xal]at this
   ·exact .inr h4⟩)
 have h0:wbco (s,(b:Int)) ((0:Int),(0:Int),([]:List (List UInt8)))=some r:=hr;obtain⟨st,ps⟩:=r;obtain⟨h1,h2,h3,h4⟩:=hQ;simp only at h1 h2 h3 h4;have g3:(ps.length+List.length ([(List.drop st.toNat (List.take s.length s))]:List (List UInt8)))*16<=140737488355328:=by simp only[xj,xab];omega
 refine⟨ps++ [List.drop st.toNat (List.take s.length s)],?_,by simp,?_,?_⟩;·unfold wayu wblb;simp(disch:=omega)only[EV,h0,h1,h2,g3]
 ·rcases h4 with⟨rfl,rfl,h⟩|⟨a,c,d⟩
  ·simp[bef_no h]
  ·rw[getD_app _ a];exact c
 ·rcases h4 with⟨rfl,rfl,h⟩|⟨a,c,d⟩
  ·simp[h]
  ·simp only[xl,xj,xab,d];constructor;·intro h;omega
   ·intro h;cases h
def Dec(k:Int)(t c r:List UInt8):Prop:=isIn k 0 59=true/\recordB c r=true/\line k c r=t++ [10]
def decR(t:List UInt8)(k:Int):List UInt8×List UInt8×Bool:=
 if(bef 35 t).length<(Lib.decDigits k.toNat++ [32]).length then([],[],false)
 else if(bef 35 t).take (Lib.decDigits k.toNat++ [32]).length==Lib.decDigits k.toNat++ [32]then
  if hasB ((bef 35 t).drop (Lib.decDigits k.toNat++ [32]).length) 64 then
   if recordB (bef 64 ((bef 35 t).drop (Lib.decDigits k.toNat++ [32]).length)) (aft 64 ((bef 35 t).drop (Lib.decDigits k.toNat++ [32]).length))then
    (bef 64 ((bef 35 t).drop (Lib.decDigits k.toNat++ [32]).length),(aft 64 ((bef 35 t).drop (Lib.decDigits k.toNat++ [32]).length),
     line k (bef 64 ((bef 35 t).drop (Lib.decDigits k.toNat++ [32]).length)) (aft 64 ((bef 35 t).drop (Lib.decDigits k.toNat++ [32]).length))==t++ [10]))
   else(bef 64 ((bef 35 t).drop (Lib.decDigits k.toNat++ [32]).length),aft 64 ((bef 35 t).drop (Lib.decDigits k.toNat++ [32]).length),false)
  else([],[],false)
 else([],[],false)
def decF(k:Int)(t:List UInt8):Option (List UInt8×List UInt8):=
 if isIn k 0 59 then if(decR t k).2.2 then some ((decR t k).1,(decR t k).2.1)else none else none
theorem line_seal{k:Int}{t c r:List UInt8}(h:line k c r=t++ [10]):t=sealT (text k c r):=(List.append_cancel_right h).symm
theorem dec_some{k:Int}{t c r:List UInt8}(h:Dec k t c r):decF k t=some (c,r):=by
 obtain⟨h1,h2,h3⟩:=h;have ht:=line_seal h3;have hb:bef 35 t=text k c r:=by rw[ht];exact seal_bef (text_has35 h2)
 have aa:=(rec_parts h2).2.2.1;obtain⟨e1,e2,e3⟩:=cr_bef64 (r:=r) aa;have et:text k c r=(Lib.decDigits k.toNat++ [32])++(c++64::r):=by simp[text]
 unfold decF;have e4:(bef 35 t).drop (Lib.decDigits k.toNat++ [32]).length=c++64::r:=by rw[hb,et];exact List.drop_left' rfl
 have e5:(bef 35 t).take (Lib.decDigits k.toNat++ [32]).length=Lib.decDigits k.toNat++ [32]:=by rw[hb,et];exact List.take_left' rfl
 have e6:¬(bef 35 t).length<(Lib.decDigits k.toNat++ [32]).length:=by rw[hb,et,xl];omega
 have e7:decR t k=(c,r,true):=by unfold decR;rw[e4,e5,e1,e2,e3,qh e6];simp[h2,h3]
 rw[e7];simp[h1]
theorem dec_of{k:Int}{t c r:List UInt8}(h:decF k t=some (c,r)):Dec k t c r:=by
 unfold decF at h;split at h
 next h1=>
  split at h
  next h2=>
   unfold decR at h h2;split at h2;·cases h2
   ·next h3=>
    rw[qh h3]at h;split at h2
    next h4=>
     rw[qi h4]at h;split at h2
     next h5=>
      rw[qi h5]at h;split at h2
      next h6=>
       rw[qi h6]at h;simp only[xe,xcw]at h;obtain⟨rfl,rfl⟩:=h;exact⟨h1,h6,by simpa using h2⟩
      next=>cases h2
     next=>cases h2
    next=>cases h2
  next=>cases h
 next=>cases h
theorem l12Decode_eq{t:List UInt8}{k:Int}(ht:SLow t)(hk:isIn k 0 59=true):wbuy t k=some (decR t k):=by
 have aa:=hk;unfold isIn at aa;simp only[xh,qe]at aa;have hd:=dig_len (u:=k.toNat) (by omega);have ad:=ht;unfold SLow at ad;have hn:=l1Num_eq aa.1 (by omega);obtain⟨ps,p1,p2,p3,p4⟩:=l1Split_eq ht 35;have ae:wayu t (35:Int)=some ps:=p1;have ak:=bef_le 35 t;have e1:List.length (Lib.decDigits k.toNat)+List.length ([32]:List UInt8)<=9223372036854775807:=by simp;omega
 have z:Int.toNat (0:Int)=0:=rfl;have al:(0:Int)<(ps.length:Int):=by omega
 unfold wbuy wbux decR;generalize ab:Lib.decDigits k.toNat++ [32]=pre at*;simp(disch:=omega)only[EV,hn,e1,ab,ae,z,p2,p3];generalize af:bef 35 t=body at*;by_cases h1:body.length<pre.length;·simp(disch:=omega)only[EV,h1]
 ·have g1:(0:Int)<=(pre.length:Int):=by omega
  have g2:(pre.length:Int)<=(body.length:Int):=by omega
  simp(disch:=omega)only[EV,h1,g1,g2,xea];cases h2:(List.take pre.length body==pre)with
  |false=>simp(disch:=omega)only[EV];rfl
  |true=>
   simp(disch:=omega)only[EV,xal];have ao:(body.drop pre.length).length<=body.length:=by rw[xas];omega
   generalize ah:body.drop pre.length=rest at*;have ai:SLow rest:=by unfold SLow;omega
   obtain⟨qs,q1,q2,q3,q4⟩:=l1Split_eq ai 64;have aj:wayu rest (64:Int)=some qs:=q1;have ar:(0:Int)<(qs.length:Int):=by omega
   simp(disch:=omega)only[EV,aj,q2,q3,castB];cases h3:hasB rest 64 with
   |false=>rw[bef_no h3];simp(disch:=omega)only[EV,qj];rfl
   |true=>
    have hl:=bef_lt h3;have g3:((bef 64 rest).length==rest.length)=false:=by rw[qf];omega
    have g4:(0:Int)<=((bef 64 rest).length:Int)+1:=by omega
    have g5:((bef 64 rest).length:Int)+1<=(rest.length:Int):=by omega
    have g6:Int.toNat (((bef 64 rest).length:Int)+1)=(bef 64 rest).length+1:=by omega
    have au:(aft 64 rest).length<=rest.length:=by unfold aft;rw[xas];omega
    have e7:List.drop ((bef 64 rest).length+1) rest=aft 64 rest:=rfl;have s1:SLow (bef 64 rest):=by unfold SLow;omega
    have s2:SLow (aft 64 rest):=by unfold SLow;omega
    simp(disch:=omega)only[EV,g3,g4,g5,g6,e7,l12Record_eq s1 s2];cases h4:recordB (bef 64 rest) (aft 64 rest)with
    |false=>simp(disch:=omega)only[EV];rfl
    |true=>
     obtain⟨_,_,_,_,_,a,b⟩:=rec_parts h4;have e8:List.length t+List.length ([10]:List UInt8)<=9223372036854775807:=by simp;omega
     simp(disch:=omega)only[EV,l12Line_eq (c:=bef 64 rest) (r:=aft 64 rest) hk (by omega) (by omega),e8]
abbrev RS:=Int×List (List UInt8×List UInt8)
def readStep(s:List UInt8)(v:RS):RS⊕RS:=
 if hasB (s.drop v.1.toNat) 10 then
  match decF (v.2.length:Int) (bef 10 (s.drop v.1.toNat))with
  |some p=>.inl (v.1+((bef 10 (s.drop v.1.toNat)).length:Int)+1,v.2++ [p])
  |none=>.inr v
 else .inr v
def RI(s:List UInt8)(v:RS):Prop:=0<=v.1/\v.1<=(s.length:Int)/\v.2.length<=60
theorem decF_in{k:Int}{t:List UInt8}{p:List UInt8×List UInt8}(h:decF k t=some p):isIn k 0 59=true:=by
 unfold decF at h;split at h
 next h1=>exact h1
 next=>cases h
theorem readStep_ok{s:List UInt8}{v:RS}(h:RI s v):match readStep s v with
  | .inl v'=>RI s v'/\(s.length-v'.1.toNat)<(s.length-v.1.toNat)
  | .inr r=>RI s r:=by
 obtain⟨h1,h2,h3⟩:=h;unfold readStep;cases hb:hasB (s.drop v.1.toNat) 10 with
 |true=>
  simp only[if_true];have hl:=bef_lt hb;rw[xas]at hl;cases hd:decF (v.2.length:Int) (bef 10 (s.drop v.1.toNat))with
  |some p=>have:=isIn_iff.1 (decF_in hd);refine⟨⟨by simp only;omega,by simp only;omega,by simp only[xl,xj,xab];omega⟩,?_⟩;simp only;omega
  |none=>exact⟨h1,h2,h3⟩
 |false=>exact⟨h1,h2,h3⟩
theorem l12Open_step{s:List UInt8}(hs:SLow s){v:RS}(h:RI s v):(wayy s v).ev=some (readStep s v):=by
 obtain⟨h1,h2,h3⟩:=h;have aa:=hs;unfold SLow at aa;obtain⟨off,recs⟩:=v;simp only at h1 h2 h3;unfold wayy readStep;by_cases g1:off<(s.length:Int)
 ·by_cases g2:((recs.length:Nat):Int)<(60:Int)
  ·have g3:off<=(s.length:Int):=h2;simp(disch:=omega)only[EV,g1,g2,g3,h1,xal];have af:(s.drop off.toNat).length+off.toNat=s.length:=by rw[xas];omega
   generalize ab:s.drop off.toNat=rest at*;have ad:SLow rest:=by unfold SLow;omega
   obtain⟨ps,p1,p2,p3,p4⟩:=l1Split_eq ad 10;have ae:wayu rest (10:Int)=some ps:=p1;have ah:(0:Int)<(ps.length:Int):=by omega
   have ai:=bef_le 10 rest;have hk:isIn ((recs.length:Nat):Int) 0 59=true:=isIn_iff.2 ⟨by omega,by omega⟩;have z:Int.toNat (0:Int)=0:=rfl;simp(disch:=omega)only[EV,ae,p2,p3,z,l12Decode_eq (t:=bef 10 rest) (by unfold SLow;omega) hk];cases hb:hasB rest 10 with
   |false=>
    have e:((ps.length:Nat):Int)<2:=by have:=p4.2 hb;omega
    simp(disch:=omega)only[EV,e];rfl
   |true=>
    have e:¬((ps.length:Nat):Int)<2:=by intro h;have:=p4.1 (by omega);rw[hb]at this;cases this
    have hl:=bef_lt hb;unfold decF;simp(disch:=omega)only[EV,e,hk];cases hd:(decR (bef 10 rest) ((recs.length:Nat):Int)).2.2 with
    |false=>simp(disch:=omega)only[EV];rfl
    |true=>
     have g4:(recs.length+List.length ([((decR (bef 10 rest) ((recs.length:Nat):Int)).1,(decR (bef 10 rest) ((recs.length:Nat):Int)).2.1)]:List (List UInt8×List UInt8)))*32<=140737488355328:=by simp only[xj,xab];omega
     simp(disch:=omega)only[EV,g4]
  ·have e:decF ((recs.length:Nat):Int) (bef 10 (s.drop off.toNat))=none:=by unfold decF;rw[qh];intro h;have:=isIn_iff.1 h;omega
   rw[e];simp(disch:=omega)only[EV,g1,g2];split<;>rfl
 ·have e:s.drop off.toNat=[]:=xco (by omega);rw[e];simp(disch:=omega)only[EV,g1];rfl
theorem Cut_one{s:List UInt8}(hs:SLow s)(c:UInt8):∃y b,wbbx s [c]=some (bef c.toNat s,y,b)/\SLow y/\(hasB s c.toNat=true->y=aft c.toNat s):=by
 have h:=Cut_eq hs c;have aa:=hs;unfold SLow at aa;cases hb:hasB s c.toNat with
 |true=>rw[hb]at h;refine⟨_,_,h,?_,λ_=>rfl⟩;unfold SLow aft;rw[xas];omega
 |false=>rw[hb]at h;rw[bef_no hb];exact⟨_,_,h,by unfold SLow;simp,λh=>by cases h⟩
theorem readRecords_step{s:List UInt8}(hs:SLow s){v:RS}(h:RI s v):(waxy s v).ev=some (readStep s v):=by
 obtain⟨h1,h2,h3⟩:=h;have af:=hs;unfold SLow at af;obtain⟨off,recs⟩:=v;simp only at h1 h2 h3;unfold waxy readStep;have ah:wbpg (s.drop off.toNat) (10:Int)=some (if hasB (s.drop off.toNat) 10 then((bef 10 (s.drop off.toNat)).length:Int)else-1):=IndexByte_eq (s.drop off.toNat) 10;have az:(s.drop off.toNat).length+off.toNat=s.length:=by rw[xas];omega
 simp(disch:=omega)only[EV,h1,h2,xal,ah];cases hb:hasB (s.drop off.toNat) 10 with
 |false=>
  have:(-1:Int)<0:=by omega
  simp only[xai,if_false];simp(disch:=omega)only[EV,this]
 |true=>
  simp only[if_true];have hl:=bef_lt hb;have g1:¬((bef 10 (s.drop off.toNat)).length:Int)<0:=by omega
  have g2:off<=off+((bef 10 (s.drop off.toNat)).length:Int)+1:=by omega
  have g3:off+((bef 10 (s.drop off.toNat)).length:Int)+1<=(s.length:Int):=by omega
  have g4:(0:Int)<=((bef 10 (s.drop off.toNat)).length:Int):=by omega
  have e1:List.drop off.toNat (List.take (off+((bef 10 (s.drop off.toNat)).length:Int)+1).toNat s)=bef 10 (s.drop off.toNat)++ [10]:=by rw[List.drop_take,show(off+((bef 10 (s.drop off.toNat)).length:Int)+1).toNat-off.toNat=(bef 10 (s.drop off.toNat)).length+1 by omega];exact take_bef1 hb rfl
  simp(disch:=omega)only[EV,g1,g2,g3,g4,e1];generalize ht:bef 10 (s.drop off.toNat)=t at*;have ai:SLow t:=by unfold SLow;omega
  have g5:((t.length:Nat):Int)<=((List.length (t++ [10]):Nat):Int):=by simp;omega
  have e2:List.take t.length (t++ [10])=t:=List.take_left' rfl;have hc:=bef_le 35 t;obtain⟨y0,b0,c0,_,_⟩:=Cut_one ai 35;have aj:wbbx t ([35]:List UInt8)=some (bef 35 t,y0,b0):=c0;obtain⟨x,hx⟩:=AppendChecksum_any (s:=bef 35 t) (by unfold SLow at*;omega);have hv:wcat t=some (if x.2&&x.1==t then(bef 35 t,true)else([],false)):=by unfold wcat wcas;simp(disch:=omega)only[EV,aj,hx];cases x.2<;>cases x.1==t<;>rfl
  simp(disch:=omega)only[EV,g5,e2,xea,hv];generalize hy:(if x.2&&x.1==t then(bef 35 t,true)else(([]:List UInt8),false))=y;have ak:SLow y.1:=by subst hy;unfold SLow at*;split<;>simp only[xab]<;>omega
  obtain⟨y1,b1,c1,s1,a1⟩:=Cut_one ak 32;have al:wbbx y.1 ([32]:List UInt8)=some (bef 32 y.1,y1,b1):=c1;obtain⟨y2,b2,c2,s2,a2⟩:=Cut_one s1 64;have ao:wbbx y1 ([64]:List UInt8)=some (bef 64 y1,y2,b2):=c2;have ba:=bef_le 64 y1;have s3:SLow (bef 64 y1):=by unfold SLow at*;omega
  simp(disch:=omega)only[EV,al,ao,im_EncodeRecord_eq (k:=((recs.length:Nat):Int)) s3 s2];have g6:∀p:List UInt8×List UInt8,(recs.length+List.length ([p]:List (List UInt8×List UInt8)))*32<=140737488355328:=by intro p;simp only[xj,xab];omega
  cases hd:decF ((recs.length:Nat):Int) t with
  |some p=>
   obtain⟨c,r⟩:=p;obtain⟨d1,d2,d3⟩:=dec_of hd;have aa:=line_seal d3;have ab:bef 35 t=text ((recs.length:Nat):Int) c r:=by rw[aa];exact seal_bef (text_has35 d2)
   obtain⟨_,_,ar,_,_,ra,rb⟩:=rec_parts d2;have bb:=text_len (c:=c) (r:=r) d1;have au:x=(t,true):=by have:=AppendChecksum_eq (s:=text ((recs.length:Nat):Int) c r) (by omega) (text_has35 d2);rw[ab,this,<-aa]at hx;exact(xbd hx).symm
   have ae:y=(text ((recs.length:Nat):Int) c r,true):=by rw[<-hy,au,ab];simp
   obtain⟨t1,t2,t3⟩:=text_bef32 ((recs.length:Nat):Int) c r;have ad:y1=c++64::r:=by rw[a1 (by rw[ae];exact t3),ae];exact t2
   obtain⟨q1,q2,q3⟩:=cr_bef64 (r:=r) ar;have av:bef 64 y1=c:=by rw[ad];exact q1
   have aw:y2=r:=by rw[a2 (by rw[ad];exact q3),ad];exact q2
   have he:encF ((recs.length:Nat):Int) c r=(t++ [10],true):=by unfold encF encB;rw[d1,d2,d3];rfl
   rw[av,aw,he];simp(disch:=omega)only[EV,qj,g6]
  |none=>
   unfold encF;cases he:encB ((recs.length:Nat):Int) (bef 64 y1) y2 with
   |false=>simp(disch:=omega)only[EV,xai]
   |true=>
    simp only[if_true];have ay:(line ((recs.length:Nat):Int) (bef 64 y1) y2==t++ [10])=false:=by rw[qf];intro heq;unfold encB at he;simp only[xh]at he;have:=dec_some ⟨he.1,he.2,heq⟩;rw[hd]at this;cases this
    simp(disch:=omega)only[EV,ay]
def Recs(l:List (List UInt8×List UInt8)):Prop:=∀x∈l,recordB x.1 x.2=true
theorem readStep_recs{s:List UInt8}{v v':RS}(h:readStep s v=.inl v')(hv:Recs v.2):Recs v'.2:=by
 unfold readStep at h;split at h
 ·split at h
  ·next p hd=>
   cases h;intro x hx;rcases xt.1 hx with hx|hx;·exact hv x hx
   ·rw[xp.1 hx];exact(dec_of hd).2.1
  ·cases h
 ·cases h
theorem readStep_stay{s:List UInt8}{v r:RS}(h:readStep s v=.inr r):r=v:=by
 unfold readStep at h;split at h
 ·split at h;·cases h
  ·cases h;rfl
 ·cases h;rfl
theorem read_more{s:List UInt8}(hs:SLow s):∃v,wbeh s=some v/\wbem s=some v/\RI s v/\Recs v.2:=by
 have key:∀n (v:RS),s.length-v.1.toNat=n->RI s v->Recs v.2->∃r,iter (λv=>(wayy s v).ev) v=some r/\iter (λv=>(waxy s v).ev) v=some r/\RI s r/\Recs r.2:=by
  intro n;induction n using Nat.strongRecOn with
  |_ n ih=>
   intro v hn hv hc;have h1:=l12Open_step hs hv;have h2:=readRecords_step hs hv;have h3:=readStep_ok hv;rw[iter_eq,iter_eq (λv=>(waxy s v).ev)];simp only[h1,h2];cases hr:readStep s v with
   |inl v'=>rw[hr]at h3;simp only at h3⊢;exact ih _ (by omega) v' rfl h3.1 (readStep_recs hr hc)
   |inr r=>rw[hr]at h3;exact⟨r,rfl,rfl,h3,by rw[readStep_stay hr];exact hc⟩
 obtain⟨r,h1,h2,h3⟩:=key _ ((0:Int),[]) rfl ⟨by simp,by simp,by simp⟩ (λx h=>by cases h);have aa:wbfm s ((0:Int),[])=some r:=h1;have ab:wbig s ((0:Int),[])=some r:=h2;refine⟨r,?_,?_,h3⟩;·unfold wbeh wbuz;simp(disch:=omega)only[EV,aa]
 ·unfold wbem wcax;simp(disch:=omega)only[EV,ab]
theorem read_both{s:List UInt8}(hs:SLow s):∃v,wbeh s=some v/\wbem s=some v/\RI s v:=by obtain⟨v,a,b,c,_⟩:=read_more hs;exact⟨v,a,b,c⟩
end
section
open Go
theorem szLog_sz{c r:List UInt8}(n:Int){b:Int}(hc:(c.length:Int)<9223372036854775808)(hr:(r.length:Int)<9223372036854775808)(h0:0<=b)(h1:b<=1048576):Sz (wbtv c r n b) (SLow c/\SLow r):=by
 unfold wbtv wbtu SLow;simp(disch:=omega)only[EV];by_cases k:b-(c.length:Int)<0;·simp(disch:=omega)only[EV,k];exact⟨_,rfl,by omega,λh=>by omega⟩
 ·simp(disch:=omega)only[EV,k];by_cases k2:b-(c.length:Int) -(r.length:Int)<0;·simp(disch:=omega)only[EV,k2];exact⟨_,rfl,by omega,λh=>by omega⟩
  ·simp(disch:=omega)only[EV,k2];exact⟨_,rfl,by omega,λh=>by omega⟩
theorem toLog_eq(c r:List UInt8)(n:Int):wbkq c r n=some (c,r,n):=by unfold wbkq wbud;simp(disch:=omega)only[EV]
theorem valid_both{a b:List UInt8}(ha:SLow a)(hb:SLow b)(n:Int):∃v,wbfn a b n=some v/\wbih a b n=some v/\(v=true->(a.length:Int)+(b.length:Int)<=30000/\0<=n/\n<=60):=by
 unfold SLow at ha hb;have e0:a.length+b.length<=9223372036854775807:=by omega
 unfold wbfn wbva wbih wcay;have el:((List.length (a++b):Nat):Int)=(a.length:Int)+(b.length:Int):=by simp
 have ew:IntKind.wrap .i64 ((a.length:Int)+(b.length:Int))=(a.length:Int)+(b.length:Int):=wrap64 (by omega) (by omega);by_cases h:(30000:Int)<(a.length:Int)+(b.length:Int)
 ·refine⟨false,?_,?_,λh=>by cases h⟩;·simp(disch:=omega)only[EV,ew,h]
  ·simp(disch:=omega)only[EV,e0,el,h]
 ·obtain⟨v,v1,v2,v3⟩:=read_both (s:=a++b) (by unfold SLow;omega);obtain⟨u,u1,u2,u3⟩:=read_both (s:=a) (by unfold SLow;omega);have e1:¬(30000:Int)<((List.length (a++b):Nat):Int):=by omega
  refine⟨(v.1==(a.length:Int)+(b.length:Int))&&((u.1==(a.length:Int))&&(((v.2.length:Nat):Int)==n)),?_,?_,?_⟩;·simp(disch:=omega)only[EV,ew,h,e0,v1,u1];cases(v.1==(a.length:Int)+(b.length:Int))<;>cases(u.1==(a.length:Int))<;>rfl
  ·simp(disch:=omega)only[EV,e0,e1,v2,u2];rw[el,show(n==((v.2.length:Nat):Int))=(((v.2.length:Nat):Int)==n)from Bool.beq_comm ..];cases(v.1==(a.length:Int)+(b.length:Int))<;>cases(u.1==(a.length:Int))<;>rfl
  ·intro hv;simp only[xh,qg]at hv;have:=v3.2.2;omega
theorem append_both{a b c r:List UInt8}(ha:SLow a)(hb:SLow b)(hc:SLow c)(hr:SLow r)(n:Int):∃v,wbcf a b n c r=some v/\F_zf a b n c r=some v:=by
 obtain⟨v,v1,v2,v3⟩:=valid_both ha hb n;unfold wbcf wbzu F_zf T_zf;simp(disch:=omega)only[EV,v1,v2,l12Record_eq hc hr,im_IsValidRecord_eq hc hr,im_EncodeRecord_eq (k:=n) hc hr];cases v with
 |false=>exact⟨_,rfl,rfl⟩
 |true=>
  obtain⟨h1,h2,h3⟩:=v3 rfl;cases aa:recordB c r with
  |false=>exact⟨_,rfl,rfl⟩
  |true=>
   cases ab:(n==(60:Int))with
   |true=>exact⟨_,rfl,rfl⟩
   |false=>
    have ad:n≠60:=by simpa using ab
    have hk:isIn n 0 59=true:=isIn_iff.2 ⟨h2,by omega⟩;obtain⟨_,_,_,_,_,ra,rb⟩:=rec_parts aa;have he:encF n c r=(line n c r,true):=by unfold encF encB;rw[hk,aa];rfl
    have ae:=text_len (c:=c) (r:=r) hk;have af:=sealT_len (text n c r);have ah:(line n c r).length<=1000:=by unfold line;rw[xl,xj,xab];omega
    have e0:b.length+(line n c r).length<=9223372036854775807:=by unfold SLow at hb;omega
    rw[he];simp(disch:=omega)only[EV,l12Line_eq (c:=c) (r:=r) hk (by omega) (by omega),e0];exact⟨_,rfl,rfl⟩
end
section
variable {o:List Int}{ds:List (List Int)}{s:List Int}{n:Int}
theorem ev_sl{A B L:Type}(a:A)(k:A->Tr L)(k':B->Tr L):(Tr.s A B (.inl a) k k').ev=(k a).ev:=rfl
theorem pay_small(hf:Fld o ds)(hs:ris o.length s):0<=pay o s/\pay o s<=693:=by have hp:Places s o.length:=Places.of (hs.low hf.len) (ris_iff.2 hs);have:=sum_bound (l:=List.range s.length) (f:=λk=>o.getD (pl s k) 0) (B:=99) (λk hk=>hf.cost _ (hp.pl (xap.1 hk)).2) 0;have h1:=hs.len;have h2:=hf.len;unfold pay;simp only[xdv]at this;omega
theorem far_small(hf:Fld o ds){s:List Int}(hs:Places s o.length)(h0:0<s.length):0<=far ds s/\far ds s<=99:=by unfold far;exact foldl_inv (λa=>0<=a/\a<=99) (λa j hj h=>by have:=near_in hf hs h0 (xap.1 hj);show 0<=max a (near ds s j)/\max a (near ds s j)<=99;omega) ⟨xbv _,by omega⟩
theorem ask_list{l:List Int}{b:Bool}(h:Few l):F_zl l b=some (tellL l,b):=by unfold F_zl T_zl;simp(disch:=omega)only[EV,listText_eq h]
end
def spl(c:UInt8):List UInt8->List (List UInt8)
 | []=>[[]]
 |x::s=>if x=c then[]::spl c s else match spl c s with
  | []=>[[x]]
  |h::t=>(x::h)::t
theorem spl_cons(c:UInt8):∀s,∃h t,spl c s=h::t
 | []=>⟨_,_,rfl⟩
 |x::s=>by
  unfold spl;split;·exact⟨_,_,rfl⟩
  ·obtain⟨h,t,e⟩:=spl_cons c s;rw[e];exact⟨_,_,rfl⟩
theorem spl_len(c:UInt8):∀s,(spl c s).length<=s.length+1
 | []=>xm _
 |x::s=>by
  have ih:=spl_len c s;unfold spl;split;·simp only[xj];omega
  ·obtain⟨h,t,e⟩:=spl_cons c s;rw[e]at ih⊢;simp only[xj]at ih⊢;omega
theorem index_cons(x c:UInt8)(s:List UInt8):Lib.index (x::s) [c]=if x=c then 0 else if Lib.index s [c]== -1 then-1 else Lib.index s [c]+1:=by
 rw[Lib.index];by_cases e:x=c;·subst e;simp
 ·have:([c].isPrefixOf (x::s))=false:=by simp[List.isPrefixOf,xcs e]
  rw[this,qh e];simp
theorem splitK_spl(c:UInt8):∀s:List UInt8,Lib.splitK [c] 0 (s.count c) s=spl c s
 | []=>rfl
 |x::s=>by
  have ih:=splitK_spl c s;unfold spl;by_cases e:x=c;·subst e;rw[qi rfl,List.count_cons_self,Lib.splitK,index_cons,qi rfl];simp[ih]
  ·rw[qh e,List.count_cons_of_ne e,<-ih];cases hn:s.count c with
   |zero=>rfl
   |succ k=>
    have hi:=Lib.index_ge s [c];rw[Lib.splitK,Lib.splitK,index_cons,qh e];by_cases h:Lib.index s [c]= -1;·rw[h];rfl
    ·have h1:(Lib.index s [c]== -1)=false:=beq_eq_false_iff_ne.2 h;have h2:(Lib.index s [c]+1== -1)=false:=beq_eq_false_iff_ne.2 (by omega);have h3:(Lib.index s [c]+1).toNat=(Lib.index s [c]).toNat+1:=by omega
     simp only[h1,h2,h3,xai,if_false];simp
theorem split_spl(c:UInt8)(s:List UInt8):Lib.split s [c]=spl c s:=by unfold Lib.split;rw[Lib.count_one];exact splitK_spl c s
def onto(p:List UInt8):List (List UInt8)->List (List UInt8)
 | []=>[]
 |h::t=>(p++h)::t
theorem onto_spl{c:UInt8}{p s:List UInt8}{x:UInt8}(hx:x≠c):onto p (spl c (x::s))=onto (p++ [x]) (spl c s):=by obtain⟨h,t,e⟩:=spl_cons c s;rw[spl,qh hx,e];simp[onto]
theorem onto_hit{c:UInt8}{p s:List UInt8}:onto p (spl c (c::s))=p::onto [] (spl c s):=by obtain⟨h,t,e⟩:=spl_cons c s;rw[spl,qi rfl,e];simp[onto]
theorem onto_nil{c:UInt8}(s:List UInt8):onto [] (spl c s)=spl c s:=by obtain⟨h,t,e⟩:=spl_cons c s;rw[e];rfl
theorem l1Split_spl{s:List UInt8}(hs:s.length<=1000000)(c:UInt8):wayu s (c.toNat:Int)=some (spl c s):=by
 obtain⟨r,k1,k2,k3⟩:=iter_inv (f:=λz=>(wany (s,(c.toNat:Int)) z).ev) (n:=s.length) (λi (v:Int×List (List UInt8))=>(v.1,(i:Int),v.2)) (λi v=>∃j:Nat,v.1=(j:Int)/\j<=i/\v.2.length<=i/\v.2++onto ((s.take i).drop j) (spl c (s.drop i))=spl c s)
  (λr=>∃j:Nat,r.1=(j:Int)/\j<=s.length/\r.2.length<=s.length/\r.2++ [s.drop j]=spl c s) (s0:=((0:Int),([]:List (List UInt8))))
  ⟨0,rfl,xm _,xm _,by simp[onto_nil]⟩
  (λi v hi ⟨j,h1,h2,h3,h4⟩=>by
   left;have hd:=xbe hi;have hg:s.getD i 0=s[i]:=by rw[xd,xg hi];rfl
   have aa:((((s.getD i 0).toNat:Nat):Int)==(c.toNat:Int))=decide (s.getD i 0=c):=by
    rw[castB];by_cases e:s.getD i 0=c;·rw[qc e,e];simp
    ·rw[qd e];exact beq_eq_false_iff_ne.2 λh=>e (xey.1 h)
   have hw:IntKind.wrap .i64 ((i:Int)+1)=((i+1:Nat):Int):=by rw[wrap64 (by omega) (by omega)];rfl
   by_cases e:s.getD i 0=c
   ·refine⟨(((i+1:Nat):Int),v.2++ [(s.take i).drop j]),?_,i+1,rfl,xm _,by simp;omega,?_⟩
    ·have ab:∀x:List UInt8,List.length [x]=1:=λ_=>rfl;have hb:(v.2.length+1)*16<=140737488355328:=by omega
     have g1:(0:Int)<=(j:Int):=by omega
     have g2:(j:Int)<=(i:Int):=by omega
     have g3:(i:Int)<=(s.length:Int):=by omega
     unfold wany;dsimp only;rw[qo,qc (show(i:Int)<((s.length:Nat):Int) by omega),qa,qp,show inR (i:Int) s.length=true from inR_nat hi,qa,xy,qo,aa,qc e,qa,h1,qp,qc g1,qc g2,qc g3,xdo,xdo,qa,qp,ab,qc hb,qa,qq,hw,xy]
    ·have ad:(s.take (i+1)).drop (i+1)=[]:=xco (by rw[xx];omega);rw[<-h4,hd,<-hg,e,onto_hit];simp only[ad,xcf,xeg]
   ·refine⟨v,?_,j,h1,by omega,by omega,?_⟩;·unfold wany;dsimp only;rw[qo,qc (show(i:Int)<((s.length:Nat):Int) by omega),qa,qp,show inR (i:Int) s.length=true from inR_nat hi,qa,xy,qo,aa,qd e,qb,qq,hw]
    ·rw[<-h4,hd,onto_spl (by rw[<-hg];exact e)];congr 2;rw[xan hi,List.drop_append_of_le_length (by rw[xx];omega)])
  (λv ⟨j,h1,h2,h3,h4⟩=>⟨v,by unfold wany;dsimp only;rw[qo,qd (by omega),qb,qq],j,h1,h2,h3,by rw[<-h4,xal,xdp];simp[spl,onto]⟩)
 obtain⟨h1,h2,h3,h4⟩:=k3;have ae:wbco (s,(c.toNat:Int)) ((0:Int),(0:Int),([]:List (List UInt8)))=some r:=k1;have ab:∀x:List UInt8,List.length [x]=1:=λ_=>rfl;have hb:(r.2.length+1)*16<=140737488355328:=by omega
 have g1:(0:Int)<=(k2:Int):=by omega
 have g2:(k2:Int)<=((s.length:Nat):Int):=by omega
 unfold wayu wblb;rw[qn,ae,xc,h1,qp,qc g1,qc g2,xdo,qa,qp,ab,qc hb,qa,qq,xy,xal,h4]
theorem dig_ne(u:Nat):Lib.decDigits u≠ []:=by rw[Lib.decDigits.eq_def];split<;>simp
def valD(a:Nat)(l:List UInt8):Nat:=l.foldl (λa c=>a*10+(c.toNat-48)) a
theorem dig_val:∀u:Nat,valD 0 (Lib.decDigits u)=u:=by
 intro u;induction u using Nat.strongRecOn with
 |ind u ih=>
  rw[Lib.decDigits.eq_def];by_cases h:u<10
  ·rw[dif_pos h];have:(UInt8.ofNat (48+u)).toNat=48+u:=by rw[xgb];omega
   show 0*10+((UInt8.ofNat (48+u)).toNat-48)=u;omega
  ·rw[dif_neg h];have h2:=ih (u/ 10) (by omega);have:(UInt8.ofNat (48+u % 10)).toNat=48+u % 10:=by rw[xgb];omega
   unfold valD at h2⊢;rw[xcq,h2];simp[];omega
theorem valD_ge:∀(l:List UInt8) (a:Nat),a<=valD a l
 | [],_=>xm _
 |c::l,a=>by have:=valD_ge l (a*10+(c.toNat-48));show a<=valD (a*10+(c.toNat-48)) l;omega
theorem parse_digits:∀(l:List UInt8) (a:Nat),(∀c∈l,48<=c.toNat/\c.toNat<=57)->valD a l<1000000000->Lib.parseUint10 a l=.ok (valD a l)
 | [],_,_,_=>rfl
 |c::l,a,hd,hv=>by have hc:=hd c xu;have hge:=valD_ge l (a*10+(c.toNat-48));have e:valD a (c::l)=valD (a*10+(c.toNat-48)) l:=rfl;rw[e]at hv⊢;have ih:=parse_digits l (a*10+(c.toNat-48)) (λx hx=>hd x (xr _ hx)) hv;rw[Lib.parseUint10,qi ⟨hc.1,hc.2⟩,qh (by omega),qh (by omega)];exact ih
theorem atoi_digits{u:Nat}(h:u<10000000):Lib.atoiAll (Lib.decDigits u)=.ok (u:Int)/\Lib.atoiAll (45::Lib.decDigits u)=.ok (-(u:Int)):=by
 have hp:Lib.parseMag (Lib.decDigits u)=.ok u:=by have h1:=parse_digits (Lib.decDigits u) 0 (λc hc=>dig_mem hc) (by rw[dig_val];omega);rw[dig_val]at h1;unfold Lib.parseMag;rw[qh (dig_ne u)];exact h1
 constructor;·obtain⟨c,r,e⟩:=List.exists_cons_of_ne_nil (dig_ne u);have hc:=dig_mem (u:=u) (b:=c) (by rw[e];exact xu);rw[e,Lib.atoiAll_plain c r (by omega) (by omega),<-e,hp];exact qh (show¬9223372036854775808<=u by omega)
 ·rw[Lib.atoiAll_minus,hp];exact qh (show¬9223372036854775808<u by omega)
theorem parseV_itoa{n:Int}(h: -999999<=n/\n<=999999):parseV (Lib.itoa n)=(n,true):=by
 have e:Lib.atoiAll (Lib.itoa n)=.ok n:=by
  by_cases h0:0<=n
  ·obtain⟨u,rfl⟩:∃u:Nat,n=(u:Int):=⟨n.toNat,by omega⟩
   rw[Lib.itoa_nonneg];exact(atoi_digits (by omega)).1
  ·obtain⟨u,rfl⟩:∃u:Nat,n= -(u:Int):=⟨(-n).toNat,by omega⟩
   rw[Lib.itoa_neg u (by omega)];exact(atoi_digits (by omega)).2
 unfold parseV;rw[e];dsimp only;rw[qi ⟨h.1,h.2,rfl⟩]
theorem parseV_cases(s:List UInt8):(∃n:Int,(-999999<=n/\n<=999999)/\Lib.itoa n=s/\parseV s=(n,true))\/(parseV s=(0,false)/\∀n:Int,-999999<=n->n<=999999->Lib.itoa n≠s):=by
 by_cases h:∃n:Int,(-999999<=n/\n<=999999)/\Lib.itoa n=s;·obtain⟨n,h1,h2⟩:=h;exact .inl ⟨n,h1,h2,by rw[<-h2];exact parseV_itoa h1⟩
 ·refine .inr ⟨?_,λn h1 h2 e=>h ⟨n,⟨h1,h2⟩,e⟩⟩;unfold parseV;split;·rw[qh];rintro⟨h1,h2,h3⟩;exact h ⟨_,⟨h1,h2⟩,h3⟩
  ·rfl
theorem l1Num_any{n:Int}(h: -999999<=n/\n<=999999):wafu 1000000 n=some (Lib.itoa n):=by
 by_cases h0:0<=n
 ·obtain⟨u,rfl⟩:∃u:Nat,n=(u:Int):=⟨n.toNat,by omega⟩
  rw[Lib.itoa_nonneg,l1Num_eq (by omega) (by omega)];rfl
 ·obtain⟨u,rfl⟩:∃u:Nat,n= -(u:Int):=⟨(-n).toNat,by omega⟩
  have ih:=l1Num_nat 999999 u (by omega) (xds (nDig7 (by omega)) (by omega));have hl:(Lib.decDigits u).length<=7:=dig_len (by omega);rw[Lib.itoa_neg u (by omega)];show(wbeg (wafu 999999) (-(u:Int))).ev=_;have hw:IntKind.wrap .i64 (0- -(u:Int))=(u:Int):=by rw[wrap64 (by omega) (by omega)];omega
  have e4:List.length ([45]:List UInt8)+(Lib.decDigits u).length<=9223372036854775807:=by simp;omega
  unfold wbeg;rw[qo,qc (show-(u:Int)<0 by omega),qa,qn,hw,ih,xc,qp,qc e4,qa,qq];rfl
def Digs(l:List UInt8):Prop:=∀c∈l,48<=c.toNat/\c.toNat<=57
theorem valD_snoc(l:List UInt8)(x:UInt8):valD 0 (l++ [x])=valD 0 l*10+(x.toNat-48):=by unfold valD;rw[xcq];rfl
theorem valD_lt':∀(l:List UInt8) (a:Nat),Digs l->valD a l<(a+1)*10^l.length
 | [],a,_=>by simp[valD]
 |c::l,a,h=>by have h1:=valD_lt' l (a*10+(c.toNat-48)) λx hx=>h x (xr _ hx);have h2:=h c xu;have h3:(a*10+(c.toNat-48)+1)*10^l.length<=((a+1)*10)*10^l.length:=xca _ (by omega);show valD (a*10+(c.toNat-48)) l<_;rw[xj,Nat.pow_succ,xgs (10^l.length) 10,<-Nat.mul_assoc];omega
theorem valD_lt(l:List UInt8)(h:Digs l):valD 0 l<10^l.length:=by have:=valD_lt' l 0 h;omega
theorem readLoop{s t:List UInt8}(ht:t.length<=6):∃r,waxq (s,t) ((0:Int),(0:Int))=some r/\(Digs t->r=.inl ((valD 0 t:Nat):Int))/\(¬Digs t->r=.inr ()):=by
 obtain⟨r,k1,k2⟩:=iter_inv (f:=λz=>(wava (s,t) z).ev) (n:=t.length) (λi (a:Int)=>(a,(i:Int))) (λi a=>a=((valD 0 (t.take i):Nat):Int)/\Digs (t.take i)) (λr=>(Digs t->r=.inl ((valD 0 t:Nat):Int))/\(¬Digs t->r=.inr ())) (s0:=(0:Int))
  ⟨rfl,λc hc=>by simp at hc⟩
  (λi a hi ⟨h1,h2⟩=>by
   have hg:t.getD i 0=t[i]:=by rw[xd,xg hi];rfl
   have aa:t[i]∈t:=xdz hi;by_cases c1:((t.getD i 0).toNat:Int)<48;·right;refine⟨.inr (),?_,λh=>absurd (h _ aa) (by rw[<-hg];omega),λ_=>rfl⟩;simp(disch:=omega)only[EV,wava,hi,c1]
   ·by_cases c2:(57:Int)<((t.getD i 0).toNat:Int);·right;refine⟨.inr (),?_,λh=>absurd (h _ aa) (by rw[<-hg];omega),λ_=>rfl⟩;simp(disch:=omega)only[EV,wava,hi,c1,c2]
    ·left;have hv:=valD_lt _ h2;have hp:10^(t.take i).length<=10^6:=xdj (by omega) (by rw[xx];omega);have ab:IntKind.wrap .u8 (((t.getD i 0).toNat:Int) -48)=((t.getD i 0).toNat:Int) -48:=by show(((t.getD i 0).toNat:Int) -48) % 256=_;omega
     refine⟨10*a+(((t.getD i 0).toNat:Int) -48),?_,?_,?_⟩;·simp(disch:=omega)only[EV,wava,hi,c1,c2,ab];rfl
     ·rw[xan hi,valD_snoc,h1,<-hg];omega
     ·rw[xan hi];intro c hc;rcases xt.1 hc with hc|hc;·exact h2 c hc
      ·rw[xp.1 hc,<-hg];omega)
  (λa ⟨h1,h2⟩=>⟨.inl a,by simp(disch:=omega)only[EV,wava,xi],λ_=>by rw[h1,xal],λh=>absurd (by rw[xal]at h2;exact h2) h⟩)
 exact⟨r,k1,k2⟩
theorem readEnd(s:List UInt8){t:List UInt8}(ht:1<=t.length/\t.length<=6):∃r,waxq (s,t) ((0:Int),(0:Int))=some r/\((∃m:Nat,r=.inl (m:Int)/\m<=999999/\m=valD 0 t/\Digs t)\/(r=.inr ()/\¬Digs t)):=by
 obtain⟨r,e,h1,h2⟩:=readLoop (s:=s) ht.2;refine⟨r,e,?_⟩;by_cases hd:Digs t;·have hv:=valD_lt t hd;have hp:10^t.length<=10^6:=xdj (by omega) ht.2;exact .inl ⟨valD 0 t,h1 hd,by omega,rfl,hd⟩
 ·exact .inr ⟨h2 hd,hd⟩
theorem parseV_at{s:List UInt8}{n:Int}(h: -999999<=n/\n<=999999):parseV s=if Lib.itoa n=s then(n,true)else parseV s:=by
 split
 ·next e=>rw[<-e];exact parseV_itoa h
 ·rfl
theorem dig_digs(u:Nat):Digs (Lib.decDigits u):=λ_ hc=>dig_mem hc
theorem dig_len6{u:Nat}(h:u<=999999):1<=(Lib.decDigits u).length/\(Lib.decDigits u).length<=6:=by rw[Lib.decDigits_length];exact⟨Lib.nDigits_pos u,nDig_le 5 u (by omega)⟩
theorem l1Read_eq{s:List UInt8}(hs:s.length<=1000000):wbyy s=some (parseV s):=by
 -- without a sign
 have plain:(∀c,s[0]? =some c->1<s.length->c≠45)->(waoo ((s.length:Nat):Int) 1 6).bind (λr=>(bif !r then Tr.l ((0:Int),false)else .c ((Int)⊕(Unit)) (waxq (s,s) ((0:Int),(0:Int))) λah=>
   .s (Int) (Unit) ah (λab=>.t (decide (((List.length s:Nat):Int)<((List.length s:Nat):Int)))
        (.c (List UInt8) (wafu 1000000 (IntKind.wrap .i64 (0-ab))) λai=>.t (!(ai==s)) (.l ((0:Int),false)) (.l ((IntKind.wrap .i64 (0-ab)),true)))
        (.c (List UInt8) (wafu 1000000 ab) λaj=>.t (!(aj==s)) (.l ((0:Int),false)) (.l (ab,true))))
    (λ_=>.l ((0:Int),false))).ev)=some (parseV s):=λad=>by
  rw[l1In_eq,xc];have ae:¬(1<=s.length/\s.length<=6)\/¬Digs s->parseV s=(0,false):=λh=>by
   rcases parseV_cases s with⟨n,hn,he,_⟩|⟨hp,_⟩
   ·exfalso;by_cases h0:0<=n
    ·obtain⟨u,rfl⟩:∃u:Nat,n=(u:Int):=⟨n.toNat,by omega⟩
     rw[Lib.itoa_nonneg]at he;subst he;rcases h with h|h;·exact h (dig_len6 (by omega))
     ·exact h (dig_digs u)
    ·obtain⟨u,rfl⟩:∃u:Nat,n= -(u:Int):=⟨(-n).toNat,by omega⟩
     rw[Lib.itoa_neg u (by omega)]at he;subst he;exact ad 45 rfl (by have:=(dig_len6 (u:=u) (by omega)).1;simp;omega) rfl
   ·exact hp
  by_cases hl:1<=s.length/\s.length<=6
  ·have hi:isIn ((s.length:Nat):Int) 1 6=true:=isIn_iff.2 (by omega);obtain⟨r,e,⟨m,rfl,hm,hv,hd⟩|⟨rfl,hd⟩⟩:=readEnd s hl
   ·rw[hi,xk,qb,qn,e,xc,ev_sl,qo,qd (xdn _),qb,qn,l1Num_any (by omega),xc,qo,parseV_at (n:=(m:Int)) (by omega)];by_cases hq:Lib.itoa (m:Int)=s;·rw[qi hq,hq];simp
    ·have:(Lib.itoa (m:Int)==s)=false:=beq_eq_false_iff_ne.2 hq;rw[qh hq,this,xae,qa,qq];rcases parseV_cases s with⟨n,hn,he,hp⟩|⟨hp,_⟩
     ·exfalso;by_cases h0:0<=n
      ·obtain⟨u,rfl⟩:∃u:Nat,n=(u:Int):=⟨n.toNat,by omega⟩
       have aa:=he;rw[Lib.itoa_nonneg]at aa;have:valD 0 s=u:=by rw[<-aa,dig_val]
       rw[hv,this]at hq;exact hq he
      ·obtain⟨u,rfl⟩:∃u:Nat,n= -(u:Int):=⟨(-n).toNat,by omega⟩
       rw[Lib.itoa_neg u (by omega)]at he;have:=hd 45 (by rw[<-he];exact xu);simp at this
     ·rw[hp]
   ·rw[hi,xk,qb,qn,e,xc,ae (.inr hd)];rfl
  ·have hi:isIn ((s.length:Nat):Int) 1 6=false:=by rw[xej];intro h;have:=isIn_iff.1 h;omega
   rw[hi,xae,qa,qq,ae (.inl hl)]
 unfold wbyy wbyx;by_cases h1:1<s.length
 ·rw[qo,qc (show(1:Int)<((s.length:Nat):Int) by omega),qa,qp,show inR (0:Int) s.length=true from inR_int (by omega) (by omega),qa,qo];by_cases ad:s.getD 0 0=45
  ·have af:(((List.getD s (Int.toNat 0) 0).toNat:Int)==45)=true:=by show(((s.getD 0 0).toNat:Int)==45)=true;rw[ad];rfl
   obtain⟨t,rfl⟩:∃t,s=45::t:=by
    cases s with
    |nil=>simp at h1
    |cons c t=>exact⟨t,by rw[show c=45 from ad]⟩
   have et:List.drop (Int.toNat 1) (List.take (List.length (45::t)) (45::t))=t:=by rw[xal];rfl
   have g1:(decide ((0:Int)<=1)&&decide ((1:Int)<=(((45::t).length:Nat):Int)))=true:=by rw[qc (show(1:Int)<=(((45::t).length:Nat):Int) by omega)];rfl
   rw[af,qa,qp,g1,qa,et,qn,l1In_eq,xc,qo];have ae:¬(1<=t.length/\t.length<=6)\/¬Digs t->parseV (45::t)=(0,false):=λh=>by
    rcases parseV_cases (45::t)with⟨n,hn,he,_⟩|⟨hp,_⟩
    ·exfalso;by_cases h0:0<=n
     ·obtain⟨u,rfl⟩:∃u:Nat,n=(u:Int):=⟨n.toNat,by omega⟩
      rw[Lib.itoa_nonneg]at he;have:=dig_digs u 45 (by rw[he];exact xu);simp at this
     ·obtain⟨u,rfl⟩:∃u:Nat,n= -(u:Int):=⟨(-n).toNat,by omega⟩
      rw[Lib.itoa_neg u (by omega)]at he;injection he with _ he;subst he;rcases h with h|h;·exact h (dig_len6 (by omega))
      ·exact h (dig_digs u)
    ·exact hp
   by_cases hl:1<=t.length/\t.length<=6
   ·have hi:isIn ((t.length:Nat):Int) 1 6=true:=isIn_iff.2 (by omega);obtain⟨r,e,⟨m,rfl,hm,hv,hd⟩|⟨rfl,hd⟩⟩:=readEnd (45::t) hl
    ·have ak:((t.length:Nat):Int)<(((45::t).length:Nat):Int):=by rw[xj];omega
     have hw:IntKind.wrap .i64 (0-(m:Int))= -(m:Int):=by rw[wrap64 (by omega) (by omega)];omega
     rw[hi,xk,qb,qn,e,xc,ev_sl,qo,qc ak,qa,hw,qn,l1Num_any (by omega),xc,qo,parseV_at (n:= -(m:Int)) (by omega)];by_cases hq:Lib.itoa (-(m:Int))=45::t;·rw[qi hq,hq];simp
     ·have:(Lib.itoa (-(m:Int))==45::t)=false:=beq_eq_false_iff_ne.2 hq;rw[qh hq,this,xae,qa,qq];rcases parseV_cases (45::t)with⟨n,hn,he,hp⟩|⟨hp,_⟩
      ·exfalso;by_cases h0:0<=n
       ·obtain⟨u,rfl⟩:∃u:Nat,n=(u:Int):=⟨n.toNat,by omega⟩
        rw[Lib.itoa_nonneg]at he;have:=dig_digs u 45 (by rw[he];exact xu);simp at this
       ·obtain⟨u,rfl⟩:∃u:Nat,n= -(u:Int):=⟨(-n).toNat,by omega⟩
        have aa:=he;rw[Lib.itoa_neg u (by omega)]at aa;injection aa with _ aa;have:valD 0 t=u:=by rw[<-aa,dig_val]
        rw[hv,this]at hq;exact hq he
      ·rw[hp]
    ·rw[hi,xk,qb,qn,e,xc,ae (.inr hd)];rfl
   ·have hi:isIn ((t.length:Nat):Int) 1 6=false:=by rw[xej];intro h;have:=isIn_iff.1 h;omega
    rw[hi,xae,qa,qq,ae (.inl hl)]
  ·have af:(((List.getD s (Int.toNat 0) 0).toNat:Int)==45)=false:=by refine beq_eq_false_iff_ne.2 λh=>ad (xey.1 ?_);have h':((s.getD 0 0).toNat:Int)=45:=h;show(s.getD 0 0).toNat=45;omega
   rw[af,qb];refine Eq.trans ?_ (plain λc hc _ e=>ad (by rw[xd,hc,e];rfl));rw[qn];congr 1;funext r;cases r<;>rfl
 ·rw[qo,qd (show¬(1:Int)<((s.length:Nat):Int) by omega),qb];refine Eq.trans ?_ (plain λc _ h _=>h1 h);rw[qn];congr 1;funext r;cases r<;>rfl
theorem price_eq{o:List Int}{ds:List (List Int)}{p:List Int}(hf:Fld o ds)(hp:PI o ds p){c:Nat}(hc:c<ds.length)(ch:Bool):∃g,IsMin o.length (cand o ds p c) g/\
  (wavu (ds,(ds.length:Int),o,ds) (ch,(c:Int),p)).ev=some (.inl (ch||decide (0<g),(c:Int)+1,p.set c (p.getD c 0+g))):=by
 have hl:=hp.len;have ao:=hf.clients;have hlen:=hf.len;have ab:c<p.length:=by omega
 have hr:=hf.rowLen c hc;have h1:=hp.val hf hc;obtain⟨q,q1,q2,q3⟩:=rests_eq hf hp;obtain⟨⟨nx,b⟩,k1,k2,k3⟩:=iter_inv (f:=λv=>(wats (ch,(c:Int),ds,(ds.length:Int),(c:Int),ds.getD c [],((ds.getD c []).length:Int),o,ds,p,q) v).ev) (n:=(ds.getD c []).length) (λi (a:Int×Int)=>(a.1,a.2,(i:Int)))
  (λi a=>RM i (λs=>p.getD c 0<at2 ds c s) (at2 ds c) a.1/\RM i (λs=>at2 ds c s<=p.getD c 0) (λs=>o.getD s 0-clm ds p s) a.2)
  (λa=>RM o.length (λs=>p.getD c 0<at2 ds c s) (at2 ds c) a.1/\RM o.length (λs=>at2 ds c s<=p.getD c 0) (λs=>o.getD s 0-clm ds p s) a.2) (s0:=((-1:Int),(-1:Int))) ⟨RM.zero _ _,RM.zero _ _⟩
  (λi a hi ⟨m1,m2⟩=>by
   left;obtain⟨nx,b⟩:=a;simp only at m1 m2;have ae:i<o.length:=by omega
   have af:i<q.length:=by omega
   have h2:=hf.at2 hc ae;have e3:(ds.getD c []).getD i 0=at2 ds c i:=rfl;have e4:=q3 i ae;have al:=hp.room i ae;by_cases hn:p.getD c 0<at2 ds c i
   ·have aa:¬at2 ds c i<=p.getD c 0:=by omega
    have ah:=m2.skip aa;by_cases c1:nx<0;·refine⟨(at2 ds c i,b),?_,m1.take hn h2.1 (.inl c1),ah⟩;simp(disch:=omega)only[EV,wats,hi,ab,e3,hn,aa,c1];rfl
    ·by_cases c2:at2 ds c i<nx;·refine⟨(at2 ds c i,b),?_,m1.take hn h2.1 (.inr c2),ah⟩;simp(disch:=omega)only[EV,wats,hi,ab,e3,hn,aa,c1,c2];rfl
     ·refine⟨(nx,b),?_,m1.keep c1 c2,ah⟩;simp(disch:=omega)only[EV,wats,hi,ab,e3,hn,aa,c1,c2];rfl
   ·have aa:at2 ds c i<=p.getD c 0:=by omega
    have ai:=m1.skip hn;by_cases c1:b<0;·refine⟨(nx,o.getD i 0-clm ds p i),?_,ai,m2.take aa (by show(0:Int)<=o.getD i 0-clm ds p i;omega) (.inl c1)⟩;simp(disch:=omega)only[EV,wats,hi,ab,af,e3,e4,hn,aa,c1];rfl
    ·by_cases c2:o.getD i 0-clm ds p i<b;·refine⟨(nx,o.getD i 0-clm ds p i),?_,ai,m2.take aa (by show(0:Int)<=o.getD i 0-clm ds p i;omega) (.inr c2)⟩;simp(disch:=omega)only[EV,wats,hi,ab,af,e3,e4,hn,aa,c1,c2];rfl
     ·refine⟨(nx,b),?_,ai,m2.keep c1 c2⟩;simp(disch:=omega)only[EV,wats,hi,ab,af,e3,e4,hn,aa,c1,c2];rfl)
  (λa ha=>⟨a,by simp only[wats,xdn,decide_false,qo,qb,qq],by rw[<-hr];exact ha⟩)
 have aj:wbtf (ch,(c:Int),ds,(ds.length:Int),(c:Int),ds.getD c [],((ds.getD c []).length:Int),o,ds,p,q) ((-1:Int),(-1:Int),(0:Int))=some (nx,b):=k1;simp only at k2 k3
 -- some site is near
 have hb:0<=b/\(∀s,s<o.length->at2 ds c s<=p.getD c 0->b<=o.getD s 0-clm ds p s)/\∃s,s<o.length/\at2 ds c s<=p.getD c 0/\b=o.getD s 0-clm ds p s:=by
  rcases k3 with⟨_,h⟩|h;·obtain⟨s,a1,a2⟩:=hp.near c hc;exact absurd a2 (h s a1)
  ·exact h
 obtain⟨b0,b1,s,b2,b3,b4⟩:=hb;have b5:=hf.cost s b2;have b6:0<=clm ds p s:=(clmN_ge (ds:=ds) (p:=p) (s:=s) ds.length).1;by_cases ad:0<=nx
 ·obtain⟨a0,a1,t,a2,a3,a4⟩:0<=nx/\(∀s,s<o.length->p.getD c 0<at2 ds c s->nx<=at2 ds c s)/\∃s,s<o.length/\p.getD c 0<at2 ds c s/\nx=at2 ds c s:=by
   rcases k2 with⟨h,_⟩|h;·omega
   ·exact h
  by_cases ak:nx<p.getD c 0+b
  ·refine⟨nx-p.getD c 0,⟨λu hu=>?_,t,a2,?_⟩,?_⟩
   ·unfold cand;split
    next h=>have:=b1 u hu h;omega
    next h=>have:=a1 u hu (by omega);omega
   ·unfold cand;rw[qh (by omega),a4]
   ·have e1:p.getD c 0+(nx-p.getD c 0)=nx:=by omega
    have e2:decide (0<nx-p.getD c 0)=decide (p.getD c 0<nx):=by rw[xcn,qe,qe];omega
    rw[e1,e2];simp(disch:=omega)only[EV,wavu,hc,q1,aj,ab,ad,ak];cases ch<;>rfl
  ·refine⟨b,⟨λu hu=>?_,s,b2,?_⟩,?_⟩
   ·unfold cand;split
    next h=>exact b1 u hu h
    next h=>have:=a1 u hu (by omega);omega
   ·unfold cand;rw[qi b3,b4]
   ·have e2:decide (0<b)=decide (p.getD c 0<p.getD c 0+b):=by rw[xcn,qe,qe];omega
    rw[e2];simp(disch:=omega)only[EV,wavu,hc,q1,aj,ab,ad,ak];cases ch<;>rfl
 ·refine⟨b,⟨λu hu=>?_,s,b2,?_⟩,?_⟩
  ·unfold cand;split
   next h=>exact b1 u hu h
   next h=>
    rcases k2 with⟨_,h2⟩|⟨h2,_⟩
    ·exact absurd (by omega) (h2 u hu)
    ·exact absurd h2 ad
  ·unfold cand;rw[qi b3,b4]
  ·have e2:decide (0<b)=decide (p.getD c 0<p.getD c 0+b):=by rw[xcn,qe,qe];omega
   rw[e2];simp(disch:=omega)only[EV,wavu,hc,q1,aj,ab,ad];cases ch<;>rfl
theorem set_same{p:List Int}{c:Nat}(hc:c<p.length):p.set c (p.getD c 0)=p:=by rw[xd,xg hc,xat,List.set_getElem_self]
theorem price_both{o:List Int}{ds:List (List Int)}{p:List Int}(hf:Fld o ds)(hp:PI o ds p){c:Nat}(hc:c<ds.length)(ch:Bool):∃ab p',PI o ds p'/\psum p ds.length<=psum p' ds.length/\(ab=true->ch=true\/psum p ds.length<psum p' ds.length)/\
  (wavu (ds,(ds.length:Int),o,ds) (ch,(c:Int),p)).ev=some (.inl (ab,(c:Int)+1,p'))/\
  (wauf (o,ds) (ch,(c:Int),p)).ev=some (.inl (ab,(c:Int)+1,p')):=by
 have hl:=hp.len;have af:=hf.clients;have aa:c<p.length:=by omega
 have h1:=hp.val hf hc;obtain⟨g,g1,g2⟩:=price_eq hf hp hc ch;obtain⟨g',g3,g4⟩:=l3Next_eq hf hp hc;obtain rfl:=g1.uniq g4;obtain⟨h0,hs⟩:=hp.step hc g1;have h2:=hs.val hf hc;rw[set_getD p aa,qi rfl]at h2;have ad:=psum_set aa (p.getD c 0+g) ds.length;rw[qi hc]at ad;refine⟨ch||decide (0<g),_,hs,by omega,λh=>?_,g2,?_⟩
 ·simp only[xbk,qe]at h;rcases h with h|h;·exact .inl h
  ·exact .inr (by omega)
 ·by_cases hg:0<g;·simp(disch:=omega)only[EV,wauf,aa,g3,hg];rw[Bool.or_true]
  ·have ae:g=0:=by omega
   subst ae;rw[xgw,set_same aa];simp(disch:=omega)only[EV,wauf,aa,g3,hg];rw[xer]
theorem round_both{o:List Int}{ds:List (List Int)}(hf:Fld o ds):∀(k i:Nat) (ch:Bool) (p:List Int),i+k=ds.length->PI o ds p->∃aa p',PI o ds p'/\psum p ds.length<=psum p' ds.length/\(aa=true->ch=true\/psum p ds.length<psum p' ds.length)/\
  iter (λv=>(wavu (ds,(ds.length:Int),o,ds) v).ev) (ch,(i:Int),p)=some (aa,p')/\
  iter (λv=>(wauf (o,ds) v).ev) (ch,(i:Int),p)=some (aa,p')
 |0,i,ch,p,hk,hp=>by
  have hl:=hp.len;obtain rfl:i=ds.length:=by omega
  refine⟨ch,p,hp,xbv _,λh=>.inl h,?_,?_⟩;·rw[iter_eq];simp(disch:=omega)only[EV,wavu,xi]
  ·rw[iter_eq];simp(disch:=omega)only[EV,wauf,hl,xi]
 |k+1,i,ch,p,hk,hp=>by
  obtain⟨c1,p1,q1,q2,q3,q4,q5⟩:=price_both hf hp (show i<ds.length by omega) ch;obtain⟨c2,p2,r1,r2,r3,r4,r5⟩:=round_both hf k (i+1) c1 p1 (by omega) q1;refine⟨c2,p2,r1,by omega,λh=>?_,?_,?_⟩
  ·rcases r3 h with h|h
   ·rcases q3 h with h|h;·exact .inl h
    ·exact .inr (by omega)
   ·exact .inr (by omega)
  ·rw[iter_eq];simp only[q4];exact r4
  ·rw[iter_eq];simp only[q5];exact r5
theorem rounds_both{o:List Int}{ds:List (List Int)}(hf:Fld o ds):∀(m:Nat) (p:List Int),(1386-psum p ds.length).toNat=m->PI o ds p->∃r,PI o ds r/\
  iter (λv=>(wbav (o,ds) v).ev) (true,p)=some r/\iter (λv=>(waor (o,ds) v).ev) (true,p)=some r:=by
 intro m;induction m using Nat.strongRecOn with
 |_ m ih=>
  intro p hm hp;obtain⟨ch,p',r1,r2,r3,r4,r5⟩:=round_both hf ds.length 0 false p (by omega) hp;have aa:wbtg (ds,(ds.length:Int),o,ds) (false,(0:Int),p)=some (ch,p'):=r4;have ab:wbgi (o,ds) (false,(0:Int),p)=some (ch,p'):=r5;rw[iter_eq,iter_eq (λv=>(waor (o,ds) v).ev)];have s1:(wbav (o,ds) (true,p)).ev=some (.inl (ch,p')):=by simp(disch:=omega)only[EV,wbav,aa]
  have s2:(waor (o,ds) (true,p)).ev=some (.inl (ch,p')):=by simp(disch:=omega)only[EV,waor,ab]
  simp only[s1,s2];cases ch with
  |true=>
   rcases r3 rfl with h|h;·cases h
   ·have hb:=psum_le r1 hf ds.length (xm _);have hb0:=psum_le hp hf ds.length (xm _);have ad:=hf.clients;exact ih _ (by omega) p' rfl r1
  |false=>
   rw[iter_eq,iter_eq (λv=>(waor (o,ds) v).ev)];have t1:(wbav (o,ds) (false,p')).ev=some (.inr p'):=by simp(disch:=omega)only[EV,wbav]
   have t2:(waor (o,ds) (false,p')).ev=some (.inr p'):=by simp(disch:=omega)only[EV,waor]
   simp only[t1,t2];exact⟨p',r1,rfl,rfl⟩
theorem Min_eq{l:List Int}(h0:0<l.length)(hl:(l.length:Int)<=1000000):∃m,wbex l=some m/\IsMin l.length (λi=>l.getD i 0) m:=by
 obtain⟨r,k1,k2⟩:=iter_inv (f:=λv=>(wapj l v).ev) (n:=l.length-1) (λi (a:Int)=>(a,((i+1:Nat):Int))) (λi a=>IsMin (i+1) (λi=>l.getD i 0) a) (λa=>IsMin l.length (λi=>l.getD i 0) a) (s0:=l.getD 0 0)
  ⟨λs hs=>by
   obtain rfl:s=0:=by omega
   exact xbv _,0,by omega,rfl⟩
  (λi a hi ⟨a1,s,a2,a3⟩=>by
   left;have aa:i+1<l.length:=by omega
   by_cases hx:l.getD (i+1) 0<a;·refine⟨l.getD (i+1) 0,?_,all_succ.2 ⟨λs hs=>by have:=a1 s hs;simp only at this⊢;omega,xbv _⟩,i+1,by omega,rfl⟩;simp(disch:=omega)only[EV,wapj,aa,hx];rfl
   ·refine⟨a,?_,all_succ.2 ⟨a1,by simp only;omega⟩,s,by omega,a3⟩;simp(disch:=omega)only[EV,wapj,aa,hx];rfl)
  (λa ha=>⟨a,by
   have e:l.length-1+1=l.length:=by omega
   rw[e];simp(disch:=omega)only[EV,wapj,xi],by
   have e:l.length-1+1=l.length:=by omega
   rw[e]at ha;exact ha⟩)
 have ab:wbdk l (l.getD 0 0,(1:Int))=some r:=k1;refine⟨r,?_,k2⟩;unfold wbex wbrf;have e1:¬(l.length:Int)<1:=by omega
 have e2:(0:Int)<(l.length:Int):=by omega
 have z:Int.toNat (0:Int)=0:=rfl;simp(disch:=omega)only[EV,e1,z,ab]
theorem least_eq{o:List Int}{ds:List (List Int)}(hf:Fld o ds){c:Nat}(hc:c<ds.length)(a:List Int):∃m,wbgh ((c:Int),o,ds,a) ((ds.getD c []).getD 0 0,(0:Int))=some m/\IsMin o.length (at2 ds c) m:=by
 have hr:=hf.rowLen c hc;have hlen:=hf.len;have aa:=hf.pos;obtain⟨r,k1,k2⟩:=iter_inv (f:=λv=>(wazj ((c:Int),o,ds,a) v).ev) (n:=o.length) (λi (a:Int)=>(a,(i:Int))) (λi a=>(∀s,s<i->a<=at2 ds c s)/\∃s,s<o.length/\a=at2 ds c s) (λa=>IsMin o.length (at2 ds c) a) (s0:=at2 ds c 0)
  ⟨λs hs=>absurd hs (by omega),0,by omega,rfl⟩
  (λi m hi ⟨a1,s,a2,a3⟩=>by
   left;have e3:(ds.getD c []).getD i 0=at2 ds c i:=rfl;refine⟨min m (at2 ds c i),?_,all_succ.2 ⟨λs hs=>by have:=a1 s hs;omega,by omega⟩,?_⟩;·simp(disch:=omega)only[EV,wazj,hi,hr,e3,l1Least_eq];rfl
   ·by_cases h:m<=at2 ds c i;·exact⟨s,a2,by omega⟩
    ·exact⟨i,hi,by omega⟩)
  (λa ha=>⟨a,by simp(disch:=omega)only[EV,wazj,xi],ha⟩)
 exact⟨r,k1,k2⟩
theorem first_both{o:List Int}{ds:List (List Int)}(hf:Fld o ds):∃p,PI o ds p/\wbcx (o,ds) ((0:Int),[])=some p/\wbjo (ds,(ds.length:Int),o,ds) ((0:Int),[])=some p:=by
 have hlen:=hf.len;have af:=hf.pos;have ah:=hf.clients;have hex:∀c:Nat,∃m,c<ds.length->IsMin o.length (at2 ds c) m:=λc=>by
  by_cases hc:c<ds.length;·obtain⟨m,_,h⟩:=least_eq hf hc [];exact⟨m,λ_=>h⟩
  ·exact⟨0,λh=>absurd h hc⟩
 have hg:=λc=>Classical.choose_spec (hex c);generalize ad:(λc=>Classical.choose (hex c))=g;have aa:∀c,c<ds.length->IsMin o.length (at2 ds c) (g c):=λc hc=>by rw[<-ad];exact hg c hc
 have e1:wbcx (o,ds) ((0:Int),[])=_:=iter_app (f:=λv=>(wazk (o,ds) v).ev) (n:=ds.length) (λi l=>((i:Int),l)) g (λl=>l) (λi l hi ae=>by
  have hr:=hf.rowLen i hi;obtain⟨m,m1,m2⟩:=least_eq hf hi l;obtain rfl:=m2.uniq (aa i hi);have z:Int.toNat (0:Int)=0:=rfl;have hz:(0:Int)<((ds.getD i []).length:Int):=by omega
  have hs:(l.length+List.length ([g i]:List Int))*8<=140737488355328:=by simp only[xj,xab];omega
  simp(disch:=omega)only[EV,wazk,hi,z,m1,hs];rfl) (λl _=>by simp(disch:=omega)only[EV,wazk,xi])
 have e2:wbjo (ds,(ds.length:Int),o,ds) ((0:Int),[])=_:=iter_app (f:=λv=>(wbck (ds,(ds.length:Int),o,ds) v).ev) (n:=ds.length) (λi l=>((i:Int),l)) g (λl=>l) (λi l hi ae=>by
  have hr:=hf.rowLen i hi;obtain⟨m,m1,m2⟩:=Min_eq (l:=ds.getD i []) (by omega) (by omega);rw[hr]at m2;obtain rfl:=(show IsMin o.length (at2 ds i) m from m2).uniq (aa i hi);have hs:(l.length+List.length ([g i]:List Int))*8<=140737488355328:=by simp only[xj,xab];omega
  simp(disch:=omega)only[EV,wbck,hi,m1,hs];rfl) (λl _=>by simp(disch:=omega)only[EV,wbck,xi])
 have ab:∀c,c<ds.length->((List.range ds.length).map g).getD c 0=g c:=λc hc=>by rw[xd,xaa,xbx hc];rfl
 refine⟨(List.range ds.length).map g,⟨by simp,λc hc=>?_,λs hs=>?_⟩,e1,e2⟩;·obtain⟨_,s,a,b⟩:=aa c hc;exact⟨s,a,by rw[ab c hc,b];exact xbv _⟩
 ·have hz:∀k,k<=ds.length->clmN ds ((List.range ds.length).map g) s k=0:=by
   intro k;induction k with
   |zero=>intro _;rfl
   |succ k ih=>intro hk;have:=(aa k (by omega)).1 s hs;rw[clmN,ih (by omega),ab k (by omega),(pos_in _).2.2 (by omega)];rfl
  unfold clm;rw[hz _ (xm _)];exact(hf.cost s hs).1
theorem ascent_both{o:List Int}{ds:List (List Int)}(ho:Low1 o)(hd:Low2 ds)(hf:Fld o ds):∃p,PI o ds p/\wbmr o ds=some p/\F_zg o ds=some (true,p):=by
 obtain⟨p,p1,p2,p3⟩:=first_both hf;obtain⟨r,r1,r2,r3⟩:=rounds_both hf _ p rfl p1;have aa:wbth (o,ds) (true,p)=some r:=r2;have ab:wbgj (o,ds) (true,p)=some r:=r3;refine⟨r,r1,?_,?_⟩;·unfold wbmr wbxb;simp(disch:=omega)only[EV,p2,ab]
 ·unfold F_zg T_zg;simp(disch:=omega)only[EV,IsField_eq ho hd,fieldB_iff.2 hf,p3,aa]
theorem l3Sum_eq{o:List Int}{ds:List (List Int)}{p:List Int}(hf:Fld o ds)(hp:PI o ds p):wbxd p=some (psum p p.length):=by
 have hl:=hp.len;have ab:=hf.clients;obtain⟨r,h1,h2⟩:=iter_inv (f:=λv=>(wazl p v).ev) (n:=p.length) (λi (a:Int)=>(a,(i:Int))) (λi a=>a=psum p i) (λr=>r=psum p p.length) (s0:=0) rfl
  (λi a hi ha=>by subst ha;left;have h3:=psum_le hp hf i (by omega);have h4:=hp.val hf (show i<ds.length by omega);refine⟨_,?_,rfl⟩;simp(disch:=omega)only[EV,wazl,hi];rfl)
  (λa ha=>⟨a,by simp(disch:=omega)only[EV,wazl,xi],ha⟩)
 subst h2;have aa:wbgk p ((0:Int),(0:Int))=some (psum p p.length):=h1;unfold wbxd wbxc;simp(disch:=omega)only[EV,aa]
theorem sumP_eq{o:List Int}{ds:List (List Int)}{p:List Int}(hf:Fld o ds)(hp:PI o ds p):wbep p=some (psum p p.length):=by
 have hl:=hp.len;have ab:=hf.clients;obtain⟨r,h1,h2⟩:=iter_inv (f:=λv=>(wasy (p,(p.length:Int)) v).ev) (n:=p.length) (λi (a:Int)=>(a,(i:Int))) (λi a=>a=psum p i) (λr=>r=psum p p.length) (s0:=0) rfl
  (λi a hi ha=>by subst ha;left;have h3:=psum_le hp hf i (by omega);have h4:=hp.val hf (show i<ds.length by omega);refine⟨_,?_,rfl⟩;simp(disch:=omega)only[EV,wasy,hi];rfl)
  (λa ha=>⟨a,by simp(disch:=omega)only[EV,wasy,xi],ha⟩)
 subst h2;have aa:wbde (p,(p.length:Int)) ((0:Int),(0:Int))=some (psum p p.length):=h1;unfold wbep wbqc;simp(disch:=omega)only[EV,aa]
section
variable {o:List Int}{ds:List (List Int)}{s:List Int}{n:Int}
theorem join_snoc(sep x:List UInt8):∀{l:List (List UInt8)},l≠ []->Lib.join (l++ [x]) sep=Lib.join l sep++sep++x
 | [],h=>absurd rfl h
 |a::l,_=>by rw[xbt,Lib.join_cons,Lib.join_cons];unfold Lib.joinTail;simp[]
theorem txt_take{l:List Int}{i:Nat}(hi:i<l.length):txtOf (l.take (i+1))=(if 0<i then txtOf (l.take i)++ [32]else txtOf (l.take i))++dg (l.getD i 0):=by
 have e:l.take (i+1)=l.take i++ [l.getD i 0]:=by rw[xan hi,xd,xg hi];rfl
 unfold txtOf;rw[e,xdr,xbn,xen];by_cases h0:0<i;·rw[qi h0,join_snoc [32] _ (by rw[Ne,xfq];intro h;have:=congrArg List.length h;rw[xx,xab]at this;omega)]
 ·rw[qh h0,show i=0 by omega,xel,xen,xbh,Lib.join_one,Lib.join_nil,xbh]
theorem few_take{l:List Int}(h:Few l)(i:Nat):Few (l.take i):=⟨by have:=h.1;rw[xx];omega,λx hx=>h.2 x (xbp hx)⟩
theorem num_dg{x:Int}(h:0<=x/\x<1000000):wafu 1000000 x=some (dg x):=by
 rw[l1Num_any (by omega)];obtain⟨u,rfl⟩:∃u:Nat,x=(u:Int):=⟨x.toNat,by omega⟩
 rw[Lib.itoa_nonneg];rfl
theorem words_loop{f:List UInt8×Int->Option ((List UInt8×Int)⊕List UInt8)}{l:List Int}(h:Few l)
  (hs:∀(i:Nat) (a:List UInt8),i<l.length->a.length<=56->f (a,(i:Int))=some (.inl ((if 0<i then a++ [32]else a)++dg (l.getD i 0),((i+1:Nat):Int)))) (he:∀a,f (a,((l.length:Nat):Int))=some (.inr a)):iter f (([]:List UInt8),(0:Int))=some (txtOf l):=by
 obtain⟨r,k1,k2⟩:=iter_inv (f:=f) (n:=l.length) (λi (a:List UInt8)=>(a,(i:Int))) (λi a=>a=txtOf (l.take i)) (λr=>r=txtOf l) (s0:=[]) rfl
  (λi a hi ha=>.inl ⟨_,hs i a hi (by rw[ha];exact few_len (few_take h i)),by rw[txt_take hi,ha]⟩)
  (λa ha=>⟨a,he a,by rw[ha,xal]⟩)
 rw[<-k2];exact k1
theorem dg_small{x:Int}(h:0<=x/\x<1000000):(dg x).length<=7:=dig_len (by omega)
theorem l2Words_eq{l:List Int}(h:Few l):wbna l=some (txtOf l):=by
 have h7:=h.1;have k:wbgs l (([]:List UInt8),(0:Int))=some (txtOf l):=words_loop h
  (λi a hi ha=>by
   have hx:=h.2 _ (getD_mem (d:=0) hi);have e1:=num_dg hx;have e2:=dg_small hx;have e3:([32]:List UInt8).length=1:=rfl;have e4:(a++ [32]).length=a.length+1:=by simp
   by_cases h0:0<i
   ·rw[qi h0];have g1:a.length+1<=9223372036854775807:=by omega
    have g2:a.length+1+(dg (l.getD i 0)).length<=9223372036854775807:=by omega
    have aa:(0:Int)<(i:Int):=by omega
    simp(disch:=omega)only[EV,wazp,hi,aa,e3,g1,e1,e4,g2];rfl
   ·rw[qh h0];have g2:a.length+(dg (l.getD i 0)).length<=9223372036854775807:=by omega
    have aa:¬(0:Int)<(i:Int):=by omega
    simp(disch:=omega)only[EV,wazp,hi,aa,e1,g2];rfl)
  (λa=>by simp(disch:=omega)only[EV,wazp,xi])
 unfold wbna wbxt;rw[qn,k,xc,qq]
theorem txt_ne{l:List Int}(h:l≠ []):txtOf l≠ []:=by
 cases l with
 |nil=>exact absurd rfl h
 |cons a l=>unfold txtOf;rw[xbn,Lib.join_cons];intro e;exact dig_ne _ (List.append_eq_nil_iff.1 e).1
theorem l12Numbers_eq{l:List Int}(h:Few l):wbcc l=some (tellL l):=by
 have h7:=h.1;have k:wbgf l (([]:List UInt8),(0:Int))=some (txtOf l):=words_loop h
  (λi a hi ha=>by
   have hx:=h.2 _ (getD_mem (d:=0) hi);have e1:=num_dg hx;have e2:=dg_small hx;have e3:([32]:List UInt8).length=1:=rfl;have e4:(a++ [32]).length=a.length+1:=by simp
   by_cases h0:0<i
   ·rw[qi h0];have g1:a.length+1<=9223372036854775807:=by omega
    have g2:a.length+1+(dg (l.getD i 0)).length<=9223372036854775807:=by omega
    have aa:(0:Int)<(i:Int):=by omega
    simp(disch:=omega)only[EV,wazi,hi,aa,e3,g1,e1,e4,g2];rfl
   ·rw[qh h0];have g2:a.length+(dg (l.getD i 0)).length<=9223372036854775807:=by omega
    have aa:¬(0:Int)<(i:Int):=by omega
    simp(disch:=omega)only[EV,wazi,hi,aa,e1,g2];rfl)
  (λa=>by simp(disch:=omega)only[EV,wazi,xi])
 unfold wbcc wbwr tellL;rw[qn,k,xc,qo];by_cases h0:l=[]
 ·subst h0;rfl
 ·have:(txtOf l==([]:List UInt8))=false:=beq_eq_false_iff_ne.2 (txt_ne h0);rw[qh h0,this,qb,qq]
theorem l12List_eq{l:List Int}{b:Bool}(h:Few l):wazo l b=some (if b then tellL l else[63]):=by
 unfold wazo wbxn;cases b with
 |false=>rfl
 |true=>rw[qo,xk,qb,qn,l12Numbers_eq h,xc,qq];rfl
theorem l12Say_eq{x:Int}{b:Bool}(h:b=true-> -999999<=x/\x<=999999):wbcu x b=some (if b then Lib.itoa x else[63]):=by
 unfold wbcu wbwu;cases b with
 |false=>rfl
 |true=>rw[qo,xk,qb,qn,l1Num_any (h rfl),xc,qq];rfl
def fieldT(o:List Int)(ds:List (List Int)):List UInt8:=Lib.join ((o::ds).map txtOf) [32,47,32]
theorem Fld.fewO(hf:Fld o ds):Few o:=⟨hf.len,λx hx=>by obtain⟨i,hi,e⟩:=xbs.1 hx;have:=hf.cost i hi;rw[xd,xg hi,xat,e]at this;omega⟩
theorem Fld.fewR(hf:Fld o ds){i:Nat}(hi:i<ds.length):Few (ds.getD i []):=⟨by rw[hf.rowLen i hi];exact hf.len,λx hx=>by obtain⟨a,ha,e⟩:=xbs.1 hx;have hr:=hf.rowLen i hi;have:0<=(ds.getD i []).getD a 0/\(ds.getD i []).getD a 0<=99:=hf.at2 hi (show a<o.length by omega);rw[xd (l:=ds.getD i []),xg ha,xat,e]at this;omega⟩
theorem fieldT_take(hi:n.toNat<ds.length):Lib.join ((o::ds.take (n.toNat+1)).map txtOf) [32,47,32]=Lib.join ((o::ds.take n.toNat).map txtOf) [32,47,32]++ [32,47,32]++txtOf (ds.getD n.toNat []):=by
 have e:ds.take (n.toNat+1)=ds.take n.toNat++ [ds.getD n.toNat []]:=take_snoc [] hi;have e2:(o::ds.take n.toNat++ [ds.getD n.toNat []]).map txtOf=(o::ds.take n.toNat).map txtOf++ [txtOf (ds.getD n.toNat [])]:=by rw[xdr];rfl
 rw[e,<-xbt,e2,join_snoc _ _ (by simp)]
theorem joinT_len(sep:List UInt8):∀l:List (List UInt8),(∀x∈l,x.length<=56)->(Lib.join l sep).length<=(56+sep.length)*l.length
 | [],_=>by simp[Lib.join_nil]
 | [x],h=>by rw[Lib.join_one];have:=h x (xp.2 rfl);simp only[xj,xab];omega
 |x::y::r,h=>by have ih:=joinT_len sep (y::r) λz hz=>h z (xr _ hz);have hx:=h x xu;rw[Lib.join_cons]at ih⊢;unfold Lib.joinTail at ih⊢;simp only[xbn,List.flatten_cons,xl,xj,Nat.mul_add,xbb]at ih⊢;omega
theorem fieldT_len(hf:Fld o ds)(k:Nat):(Lib.join ((o::ds.take k).map txtOf) [32,47,32]).length<=1000:=by
 have h:=joinT_len [32,47,32] ((o::ds.take k).map txtOf) λx hx=>by
  obtain⟨r,hr,rfl⟩:=xak.1 hx;rcases xaf.1 hr with rfl|hr;·exact few_len hf.fewO
  ·obtain⟨i,hi,e⟩:=xbs.1 (xbp hr);have:=hf.fewR hi;rw[xd,xg hi,xat,e]at this;exact few_len this
 have hc:=hf.clients;have h2:((o::ds.take k).map txtOf).length<=8:=by rw[xbu,xj,xx];omega
 have h3:(56+([32,47,32]:List UInt8).length)*((o::ds.take k).map txtOf).length<=59*8:=xfd (by decide) h2;omega
theorem im_FieldText_eq(ho:Low1 o)(hd:Low2 ds)(hf:Fld o ds):F_zw o ds=some (fieldT o ds,true):=by
 have hc:=hf.clients;have k:wbti (ds,((ds.length:Nat):Int)) ((0:Int),[txtOf o])=some ((o::ds).map txtOf):=by
  obtain⟨r,k1,k2⟩:=iter_inv (f:=λv=>(wbcl (ds,((ds.length:Nat):Int)) v).ev) (n:=ds.length) (λi (a:List (List UInt8))=>((i:Int),a)) (λi a=>a=(o::ds.take i).map txtOf) (λr=>r=(o::ds).map txtOf) (s0:=[txtOf o]) rfl
   (λi a hi ha=>by
    left;have e1:=numbersText_eq (hf.fewR hi);have aa:∀x:List UInt8,List.length [x]=1:=λ_=>rfl;have ab:a.length=i+1:=by rw[ha,xbu,xj,xx];omega
    have hb:(a.length+1)*16<=140737488355328:=by omega
    refine⟨a++ [txtOf (ds.getD i [])],?_,?_⟩;·simp(disch:=omega)only[EV,wbcl,hi,e1,aa,hb];rfl
    ·rw[take_snoc [] hi,<-xbt,xdr,<-ha];rfl)
   (λa ha=>⟨a,by simp(disch:=omega)only[EV,wbcl,xi],by rw[ha,xal]⟩)
  rw[<-k2];exact k1
 have hl:=fieldT_len hf ds.length;rw[xal]at hl;have e2:wbev ((o::ds).map txtOf) [32,47,32]=some (fieldT o ds):=by unfold wbev joinF;rw[qi ⟨by rw[xbu,xj];omega,by omega⟩];rfl
 unfold F_zw T_zw;rw[qn,IsField_eq ho hd,xc,fieldB_iff.2 hf,qo,xk,qb,qn,numbersText_eq hf.fewO,xc,qn,k,xc,qn,e2,xc,qq]
theorem l2Text_eq(hf:Fld o ds):wbnc o ds=some (fieldT o ds):=by
 have hc:=hf.clients;have k:wbgt (o,ds) (txtOf o,(0:Int))=some (fieldT o ds):=by
  obtain⟨r,k1,k2⟩:=iter_inv (f:=λv=>(wazq (o,ds) v).ev) (n:=ds.length) (λi (a:List UInt8)=>(a,(i:Int))) (λi a=>a=Lib.join ((o::ds.take i).map txtOf) [32,47,32]) (λr=>r=fieldT o ds) (s0:=txtOf o) (by rw[xel];exact(Lib.join_one _ _).symm)
   (λi a hi ha=>by
    left;have e1:=l2Words_eq (hf.fewR hi);have aa:a.length<=1000:=by rw[ha];exact fieldT_len hf i
    have e3:([32,47,32]:List UInt8).length=3:=rfl;have e4:(a++ [32,47,32]).length=a.length+3:=by simp
    have e5:=few_len (hf.fewR hi);have g1:a.length+3<=9223372036854775807:=by omega
    have g2:a.length+3+(txtOf (ds.getD i [])).length<=9223372036854775807:=by omega
    refine⟨a++ [32,47,32]++txtOf (ds.getD i []),?_,?_⟩;·simp(disch:=omega)only[EV,wazq,hi,e3,g1,e1,e4,g2];rfl
    ·have:=fieldT_take (o:=o) (ds:=ds) (n:=(i:Int)) (by simpa using hi);rw[xy]at this;rw[this,<-ha])
   (λa ha=>⟨a,by simp(disch:=omega)only[EV,wazq,xi],by rw[ha,xal];rfl⟩)
  rw[<-k2];exact k1
 unfold wbnc wbxu;rw[qn,l2Words_eq hf.fewO,xc,qn,k,xc,qq]
def vote(ds:List (List Int))(a b:Nat):Nat:=cntN (λi=>at2 ds i a<at2 ds i b) ds.length
def beatB(ds:List (List Int))(n a:Nat):Bool:=(List.range n).any λb=>decide ((vote ds a b:Int)<(vote ds b a:Int))
def unbL(ds:List (List Int))(n:Nat):List Int:=(List.range n).foldl (λacc a=>bif beatB ds n a then acc else acc++ [(a:Int)]) []
theorem unbL_few{n:Nat}(hn:n<=7):Few (unbL ds n):=by
 have key:∀m,m<=n->((List.range m).foldl (λacc a=>bif beatB ds n a then acc else acc++ [(a:Int)]) []).length<=m/\∀x∈(List.range m).foldl (λacc a=>bif beatB ds n a then acc else acc++ [(a:Int)]) [],0<=x/\x<(m:Int):=by
  intro m;induction m with
  |zero=>intro _;exact⟨xm _,λx h=>by cases h⟩
  |succ m ih=>
   intro hm;obtain⟨h1,h2⟩:=ih (by omega);rw[foldl_range_succ];cases beatB ds n m with
   |true=>exact⟨by rw[qa];omega,λx hx=>by have:=h2 x hx;omega⟩
   |false=>
    rw[qb];refine⟨by rw[xl,xdc];omega,λx hx=>?_⟩;rcases xt.1 hx with hx|hx;·have:=h2 x hx;omega
    ·rw[xp.1 hx];omega
 obtain⟨h1,h2⟩:=key n (xm _);exact⟨xds h1 hn,λx hx=>by have:=h2 x hx;omega⟩
theorem any_loop{f:Bool×Int->Option ((Bool×Int)⊕Bool)}{n:Nat}(q:Nat->Bool)(hs:∀(i:Nat) (c:Bool),i<n->f (c,(i:Int))=some (.inl (c||q i,((i+1:Nat):Int))))(he:∀c,f (c,(n:Int))=some (.inr c)):iter f (false,(0:Int))=some ((List.range n).any q):=by
 obtain⟨r,k1,k2⟩:=iter_inv (f:=f) (n:=n) (λi (c:Bool)=>(c,(i:Int))) (λi c=>c=(List.range i).any q) (λr=>r=(List.range n).any q) (s0:=false) rfl
  (λi c hi hc=>.inl ⟨_,hs i c hi,by rw[xee,xgy,hc];simp⟩)
  (λc hc=>⟨c,he c,hc⟩)
 rw[<-k2];exact k1
theorem unb_loop{f:Int×List Int->Option ((Int×List Int)⊕List Int)}{n:Nat}(hs:∀(i:Nat) (c:List Int),i<n->c.length<=i->f ((i:Int),c)=some (.inl (((i+1:Nat):Int),bif beatB ds n i then c else c++ [(i:Int)])))(he:∀c,f ((n:Int),c)=some (.inr c)):iter f ((0:Int),[])=some (unbL ds n):=
 (iter_fold (f:=f) (n:=n) (mk:=λi (c:List Int)=>((i:Int),c)) (I:=λi c=>c.length<=i) (g:=λacc a=>bif beatB ds n a then acc else acc++ [(a:Int)]) (fin:=λc=>c) (s0:=[]) (xm _)
  (λi c hi hc=>⟨hs i c hi hc,by
   cases beatB ds n i with
   |true=>rw[qa];omega
   |false=>rw[qb,xl,xdc];omega⟩)
  (λc _=>he c)).1
theorem vote_loop{f:Int×Int->Option ((Int×Int)⊕Int)}{a b:Nat}(hc:ds.length<=7)(hs:∀(i:Nat) (c:Int),i<ds.length->0<=c->c<=7->f (c,(i:Int))=some (.inl (if at2 ds i a<at2 ds i b then c+1 else c,((i+1:Nat):Int))))(he:∀c,f (c,((ds.length:Nat):Int))=some (.inr c)):iter f ((0:Int),(0:Int))=some (vote ds a b:Int):=by
 obtain⟨r,k1,k2⟩:=iter_inv (f:=f) (n:=ds.length) (λi (c:Int)=>(c,(i:Int))) (λi c=>c=(cntN (λj=>at2 ds j a<at2 ds j b) i:Int)) (λr=>r=(vote ds a b:Int)) (s0:=(0:Int)) rfl
  (λi c hi hc=>by
   have hm:=cntN_max (λj=>at2 ds j a<at2 ds j b) i;refine .inl ⟨_,hs i c hi (by omega) (by omega),?_⟩;rw[cntN];by_cases h:at2 ds i a<at2 ds i b;·rw[qi h,qi h,hc];rfl
   ·rw[qh h,qh h,hc];rfl)
  (λc hc=>⟨c,he c,hc⟩)
 rw[<-k2];exact k1
theorem ivotes_eq(hf:Fld o ds){a b:Nat}(ha:a<o.length)(hb:b<o.length):wbso o ds (a:Int) (b:Int)=some (vote ds a b:Int):=by
 have k:wbkh ((a:Int),(b:Int),ds,((ds.length:Nat):Int)) ((0:Int),(0:Int))=some (vote ds a b:Int):=vote_loop hf.clients
  (λi c hi h0 h7=>by
   have hm:=hf.clients;have hr:=hf.rowLen i hi;have e1:(ds.getD i []).getD a 0=at2 ds i a:=rfl;have e2:(ds.getD i []).getD b 0=at2 ds i b:=rfl;by_cases h:at2 ds i a<at2 ds i b;·rw[qi h];simp(disch:=omega)only[EV,wbbg,hi,hr,e1,e2,h];rfl
   ·rw[qh h];simp(disch:=omega)only[EV,wbbg,hi,hr,e1,e2,h];rfl)
  (λc=>by simp(disch:=omega)only[EV,wbbg,xi])
 unfold wbso wcex;rw[qn,k,xc,qq]
theorem im_Unbeaten_eq(ho:Low1 o)(hd:Low2 ds)(hf:Fld o ds):wbsr o ds=some (true,unbL ds o.length):=by
 have hlen:=hf.len;have k:wbkj (((o.length:Nat):Int),o,ds) ((0:Int),([]:List Int))=some (unbL ds o.length):=unb_loop
  (λi c hi hc=>by
   have e1:wbki ((i:Int),((o.length:Nat):Int),(i:Int),((o.length:Nat):Int),o,ds,c) (false,(0:Int))=some (beatB ds o.length i):=any_loop (λb=>decide ((vote ds i b:Int)<(vote ds b i:Int)))
    (λj c hj=>by
     have e1:=ivotes_eq hf hi hj;have e2:=ivotes_eq hf hj hi;cases c with
     |true=>simp(disch:=omega)only[EV,wbbh,hj];rfl
     |false=>simp(disch:=omega)only[EV,wbbh,hj,e1,e2];rfl)
    (λc=>by simp(disch:=omega)only[EV,wbbh,xi])
   have aa:∀x:Int,List.length [x]=1:=λ_=>rfl;have hb:(c.length+1)*8<=140737488355328:=by omega
   cases hq:beatB ds o.length i with
   |true=>rw[hq]at e1;simp(disch:=omega)only[EV,wbbi,hi,e1];rfl
   |false=>rw[hq]at e1;simp(disch:=omega)only[EV,wbbi,hi,e1,aa,hb];rfl)
  (λc=>by simp(disch:=omega)only[EV,wbbi,xi])
 unfold wbsr wcey;rw[qn,IsField_eq ho hd,xc,fieldB_iff.2 hf,qo,xk,qb,qn,k,xc,qq]
theorem svotes_eq(hf:Fld o ds){a b:Nat}(ha:a<o.length)(hb:b<o.length):wbny o ds (a:Int) (b:Int)=some (vote ds a b:Int):=by
 have k:wbhk ((a:Int),(b:Int),o,ds) ((0:Int),(0:Int))=some (vote ds a b:Int):=vote_loop hf.clients
  (λi c hi h0 h7=>by
   have hm:=hf.clients;have hr:=hf.rowLen i hi;have e1:(ds.getD i []).getD a 0=at2 ds i a:=rfl;have e2:(ds.getD i []).getD b 0=at2 ds i b:=rfl;by_cases h:at2 ds i a<at2 ds i b;·rw[qi h];simp(disch:=omega)only[EV,wazu,hi,hr,e1,e2,h];rfl
   ·rw[qh h];simp(disch:=omega)only[EV,wazu,hi,hr,e1,e2,h];rfl)
  (λc=>by simp(disch:=omega)only[EV,wazu,xi])
 unfold wbny wbys;rw[qn,k,xc,qq]
theorem sp_Unbeaten_eq(ho:Low1 o)(hd:Low2 ds)(hf:Fld o ds):wbyu o ds=some (true,unbL ds o.length):=by
 have hlen:=hf.len;have k:wbhm (o,ds) ((0:Int),([]:List Int))=some (unbL ds o.length):=unb_loop
  (λi c hi hc=>by
   have e1:wbhl ((i:Int),o,ds,c) (false,(0:Int))=some (beatB ds o.length i):=any_loop (λb=>decide ((vote ds i b:Int)<(vote ds b i:Int)))
    (λj c hj=>by
     have e1:=svotes_eq hf hi hj;have e2:=svotes_eq hf hj hi;cases c with
     |true=>simp(disch:=omega)only[EV,wazv,hj];rfl
     |false=>simp(disch:=omega)only[EV,wazv,hj,e1,e2];rfl)
    (λc=>by simp(disch:=omega)only[EV,wazv,xi])
   have aa:∀x:Int,List.length [x]=1:=λ_=>rfl;have hb:(c.length+1)*8<=140737488355328:=by omega
   cases hq:beatB ds o.length i with
   |true=>rw[hq]at e1;simp(disch:=omega)only[EV,wazw,hi,e1];rfl
   |false=>rw[hq]at e1;simp(disch:=omega)only[EV,wazw,hi,e1,aa,hb];rfl)
  (λc=>by simp(disch:=omega)only[EV,wazw,xi])
 unfold wbyu wbyt;rw[qn,l2Good_eq ho hd,xc,fieldB_iff.2 hf,qo,xk,qb,qn,k,xc,qq]
theorem smetric_eq(hf:Fld o ds):wbxp o ds=some (metB ds o.length):=by
 have ho:=hf.len;have hc:=hf.clients;have k6:∀{i j a:Nat},i<ds.length->j<ds.length->a<o.length->wbgo ((i:Int),(j:Int),(a:Int),o,ds) (0:Int)=some (bif met6 ds i j a o.length then .inl ()else .inr ()):=λ{i j a} hi hj ha=>
  iter_allR (f:=λv=>(waxf ((i:Int),(j:Int),(a:Int),o,ds) v).ev) (n:=o.length) (mk:=λb=>(b:Int)) (p:=λb=> !decide (at2 ds i b+at2 ds j b+at2 ds j a<at2 ds i a)) (yes:=.inl ()) (no:=.inr ())
   (λb hb _=>by
    have aa:=hf.rowLen i hi;have ab:=hf.rowLen j hj;have v1:=hf.at2 hi hb;have v2:=hf.at2 hj hb;have v3:=hf.at2 hj ha;have v4:=hf.at2 hi ha;have e1:(ds.getD i []).getD b 0=at2 ds i b:=rfl;have e2:(ds.getD j []).getD b 0=at2 ds j b:=rfl;have e3:(ds.getD j []).getD a 0=at2 ds j a:=rfl;have e4:(ds.getD i []).getD a 0=at2 ds i a:=rfl;by_cases h:at2 ds i b+at2 ds j b+at2 ds j a<at2 ds i a;·simp(disch:=omega)only[EV,waxf,hb,aa,ab,e1,e2,e3,e4,h]
    ·simp(disch:=omega)only[EV,waxf,hb,aa,ab,e1,e2,e3,e4,h];rfl)
   (by simp(disch:=omega)only[EV,waxf,xi])
 have k4:∀{i j:Nat},i<ds.length->j<ds.length->wbgp ((i:Int),(j:Int),o,ds) (0:Int)=some (bif met4 ds i j o.length then .inl ()else .inr ()):=λ{i j} hi hj=>
  iter_allR (f:=λv=>(waxg ((i:Int),(j:Int),o,ds) v).ev) (n:=o.length) (mk:=λb=>(b:Int)) (p:=λa=>met6 ds i j a o.length) (yes:=.inl ()) (no:=.inr ())
   (λa ha _=>by
    have e:=k6 hi hj ha;cases hq:met6 ds i j a o.length with
    |true=>rw[hq]at e;simp(disch:=omega)only[EV,waxg,ha,e];rfl
    |false=>rw[hq]at e;simp(disch:=omega)only[EV,waxg,ha,e])
   (by simp(disch:=omega)only[EV,waxg,xi])
 have k2:∀{i:Nat},i<ds.length->wbgq ((i:Int),o,ds) (0:Int)=some (bif met2 ds i o.length then .inl ()else .inr ()):=λ{i} hi=>
  iter_allR (f:=λv=>(waxh ((i:Int),o,ds) v).ev) (n:=ds.length) (mk:=λb=>(b:Int)) (p:=λj=>met4 ds i j o.length) (yes:=.inl ()) (no:=.inr ())
   (λj hj _=>by
    have e:=k4 hi hj;cases hq:met4 ds i j o.length with
    |true=>rw[hq]at e;simp(disch:=omega)only[EV,waxh,hj,e];rfl
    |false=>rw[hq]at e;simp(disch:=omega)only[EV,waxh,hj,e])
   (by simp(disch:=omega)only[EV,waxh,xi])
 have k0:wbgr (o,ds) (0:Int)=some (bif metB ds o.length then .inl ()else .inr ()):=
  iter_allR (f:=λv=>(waxi (o,ds) v).ev) (n:=ds.length) (mk:=λb=>(b:Int)) (p:=λi=>met2 ds i o.length) (yes:=.inl ()) (no:=.inr ())
   (λi hi _=>by
    have e:=k2 hi;cases hq:met2 ds i o.length with
    |true=>rw[hq]at e;simp(disch:=omega)only[EV,waxi,hi,e];rfl
    |false=>rw[hq]at e;simp(disch:=omega)only[EV,waxi,hi,e])
   (by simp(disch:=omega)only[EV,waxi,xi])
 unfold wbxp wbxo;rw[qn,k0,xc];cases metB ds o.length<;>rfl
end
end Go.Proofs.YtidaiohhaanphaaGreatDoor
