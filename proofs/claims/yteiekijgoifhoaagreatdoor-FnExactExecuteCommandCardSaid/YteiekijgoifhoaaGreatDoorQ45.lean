/- A part of the proof that FnExactExecuteCommand hands back true, at every argument of the row. -/
import Derived.Test.YteiekijgoifhoaaGreatDoorP90
namespace Go.Proofs.YteiekijgoifhoaaGreatDoor
set_option linter.all false
def nR:List Int->List Int->Bool
 |a::l,b::r=>if a=b then nR l r else decide (a<b)
 |_,_=>false
theorem y6{l r:List Int}{i:Nat}(h1:i<l.length)(h2:i<r.length):nR (l.drop i) (r.drop i)=if l.getD i 0=r.getD i 0 then nR (l.drop (i+1)) (r.drop (i+1))else decide (l.getD i 0<r.getD i 0):=by rw[Im h1,Im h2,nR,xe,xe,xh h1,xh h2];rfl
theorem Mx{l r:List Int}(h:l.length=r.length)(hl:l.length<=1000):EZ l r=some (nR l r):=by
 obtain⟨x,k1,k2⟩:=aJ (f:=λv=>(ZL (l,r) v).ev) (n:=l.length) (λi (_:Unit)=>(i:Int)) (λi _=>nR l r=nR (l.drop i) (r.drop i)) (λx=>(x=.inl ()/\nR l r=false)\/x=.inr (nR l r)) (s0:=()) rfl
  (λi _ hi hq=>by
   have aa:i<r.length:=by omega
   rw[y6 hi aa]at hq;by_cases e:l.getD i 0=r.getD i 0
   ·left;rw[qi e]at hq;have eb:(l.getD i 0 !=r.getD i 0)=false:=by rw[e];exact qk _
    refine⟨(),?_,hq⟩;simp(disch:=omega)only[EV,ZL,hi,aa,eb];rfl
   ·right;rw[qh e]at hq;have eb:(l.getD i 0 !=r.getD i 0)=true:=bne_iff_ne.2 e;refine⟨_,?_,.inr rfl⟩;rw[hq];simp(disch:=omega)only[EV,ZL,hi,aa,eb])
  (λ_ hq=>⟨_,by simp(disch:=omega)only[EV,ZL,xj],.inl ⟨rfl,by rw[hq,BA];rfl⟩⟩)
 have ab:aDE (l,r) (0:Int)=some x:=k1;unfold EZ OF;rw[qn,ab,xc];rcases k2 with⟨rfl,k2⟩|rfl;·rw[k2];rfl
 ·rfl
theorem Ti(a b:Int):∃c,Be a b=some c/\(c<0↔a<b)/\(c=0↔a=b):=by
 unfold Be AD;have e:∀x,L7 x=some false:=λx=>by unfold L7 Oe;simp only[qq,qk]
 rw[qn,e,xc,qn,e,xc];simp only[qo,qb,qq];by_cases h1:a<b;·exact⟨-1,by rw[qc h1,qa],by omega,by omega⟩
 ·by_cases h2:b<a;·exact⟨1,by rw[qd h1,qb,qc h2,qa],by omega,by omega⟩
  ·exact⟨0,by rw[qd h1,qb,qd h2,qb],by omega,by omega⟩
theorem Q4{l r:List Int}(h:l.length=r.length)(hl:l.length<=1000):∃c,DK l r=some c/\decide (c<0)=nR l r:=by
 obtain⟨x,k1,k2⟩:=aJ (f:=λv=>(wtn (l,r,l,((l.length:Nat):Int)) v).ev) (n:=l.length) (λi (_:Unit)=>(i:Int)) (λi _=>nR l r=nR (l.drop i) (r.drop i)) (λx=>(x=.inl ()/\nR l r=false)\/∃c:Int,x=.inr c/\decide (c<0)=nR l r) (s0:=()) rfl
  (λi _ hi hq=>by
   have aa:i<r.length:=by omega
   have hn:¬((r.length:Nat):Int)<=(i:Int):=by omega
   obtain⟨c,e1,e2,e3⟩:=Ti (l.getD i 0) (r.getD i 0);rw[y6 hi aa]at hq;by_cases e:l.getD i 0=r.getD i 0
   ·left;rw[qi e]at hq;have eb:(c !=0)=false:=by simp[e3.2 e]
    refine⟨(),?_,hq⟩;simp(disch:=omega)only[EV,wtn,hi,aa,hn,e1,eb];rfl
   ·right;rw[qh e]at hq;have eb:(c !=0)=true:=by simp[mt e3.1 e]
    refine⟨.inr c,?_,.inr ⟨c,rfl,by rw[hq];exact decide_eq_decide.2 e2⟩⟩;simp(disch:=omega)only[EV,wtn,hi,aa,hn,e1,eb])
  (λ_ hq=>⟨_,by simp(disch:=omega)only[EV,wtn,xj],.inl ⟨rfl,by rw[hq,BA];rfl⟩⟩)
 have ab:aHQ (l,r,l,((l.length:Nat):Int)) (0:Int)=some x:=k1;unfold DK QW;rw[qn,ab,xc];rcases k2 with⟨rfl,k2⟩|⟨c,rfl,k2⟩
 ·refine⟨0,?_,by rw[k2];rfl⟩;have hn:¬((l.length:Nat):Int)<((r.length:Nat):Int):=by omega
  show(Tr.t (decide (((l.length:Nat):Int)<((r.length:Nat):Int))) (.l (-1:Int)) (.l (0:Int))).ev=some 0;rw[qo,qd hn,qb,qq]
 ·exact⟨c,rfl,k2⟩
theorem Z6{p:Nat->Prop}[DecidablePred p]:∀{n:Nat},dA p n<=1↔∀i,i<n->∀k,k<i->¬(p i/\p k)
 |0=>⟨λ_ i h=>absurd h (by omega),λ_=>Ao _⟩
 |n+1=>by
  have ih:=Z6 (p:=p) (n:=n);rw[dA];constructor
  ·intro h i hi k hk ⟨h1,h2⟩;by_cases e:i=n;·subst e;have:=cntN_pos.2 ⟨k,hk,h2⟩;rw[qi h1]at h;omega
   ·exact ih.1 (by omega) i (by omega) k hk ⟨h1,h2⟩
  ·intro h;have h1:=ih.2 λi hi=>h i (by omega);by_cases hp:p n
   ·rw[qi hp];by_cases h0:0<dA p n;·obtain⟨k,hk,h2⟩:=cntN_pos.1 h0;exact absurd ⟨hp,h2⟩ (h n (by omega) k hk)
    ·omega
   ·rw[qh hp];omega
section
variable {o:List Int}{ds:List (List Int)}{r:Int}
def wT(ds:List (List Int))(n:Nat)(r:Int)(l:List Int):Bool:=(List.range n).all λa=>decide (dA (λk=>at2 ds (pl l k) a<=r) l.length<=1)
def jS(ds:List (List Int))(n:Nat)(r:Int)(i j:Nat):Bool:=(List.range n).all λa=> !(decide (at2 ds i a<=r)&&decide (at2 ds j a<=r))
theorem Zc(n:Nat)(l:List Int):wT ds n r l=(List.range l.length).all λi=>(List.range i).all λk=>jS ds n r (pl l i) (pl l k):=by
 rw[Oa];unfold wT jS;simp only[xy,xau,qe,Z6,s6,Bool.and_eq_false_iff,decide_eq_false_iff_not];constructor
 ·intro h i hi k hk a ha;have:=h a ha i hi k hk;by_cases h1:at2 ds (pl l i) a<=r;·exact .inr λh2=>this ⟨h1,h2⟩
  ·exact .inl h1
 ·rintro h a ha i hi k hk ⟨h1,h2⟩;rcases h i hi k hk a ha with h3|h3;·exact h3 h1
  ·exact h3 h2
def Gh(m:Nat)(l:List Int):Prop:=l.length<=7/\∀x∈l,0<=x/\x<(m:Int)
theorem Uq{m:Nat}{l:List Int}(h:Gh m l){i:Nat}(hi:i<l.length):l.getD i 0=(pl l i:Int)/\pl l i<m:=by have:=h.2 _ (aE (d:=0) hi);unfold pl;omega
theorem Ik(hf:Fld o ds){l:List Int}(hl:Gh ds.length l):AJ o ds l r=some (wT ds o.length r l):=by
 have hlen:=hf.len;have h7:=hl.1;have key:aFP (l,r,((o.length:Nat):Int),o,ds) (0:Int)=some (bif wT ds o.length r l then .inl ()else .inr ()):=
  aX (f:=λv=>(Lm (l,r,((o.length:Nat):Int),o,ds) v).ev) (n:=o.length) (λa=>(a:Int)) (λa=>decide (dA (λk=>at2 ds (pl l k) a<=r) l.length<=1)) (.inl ():Unit⊕Unit) (.inr ())
   (λa ha _=>by
    obtain⟨x,k1,k2⟩:=aJ (f:=λv=>(Jx (l,r,(a:Int),((o.length:Nat):Int),(a:Int),l,((l.length:Nat):Int),o,ds) v).ev) (n:=l.length) (λi (c:Int)=>(c,(i:Int))) (λi c=>c=(dA (λk=>at2 ds (pl l k) a<=r) i:Int)) (λc=>c=(dA (λk=>at2 ds (pl l k) a<=r) l.length:Int)) (s0:=(0:Int)) rfl
     (λi c hi hc=>by
      left;obtain⟨e1,e2⟩:=Uq hl hi;have hr:=hf.rowLen _ e2;have e3:(ds.getD (pl l i) []).getD a 0=at2 ds (pl l i) a:=rfl;have hm:=eZ (λk=>at2 ds (pl l k) a<=r) i;rw[dA];by_cases h:at2 ds (pl l i) a<=r;·refine⟨c+1,?_,by rw[qi h,hc];rfl⟩;simp(disch:=omega)only[EV,Jx,hi,e1,e2,hr,ha,e3,h];rfl
      ·refine⟨c,?_,by rw[qh h,hc];rfl⟩;simp(disch:=omega)only[EV,Jx,hi,e1,e2,hr,ha,e3,h];rfl)
     (λc hc=>⟨c,by simp(disch:=omega)only[EV,Jx,xj],hc⟩)
    have aa:aBU (l,r,(a:Int),((o.length:Nat):Int),(a:Int),l,((l.length:Nat):Int),o,ds) ((0:Int),(0:Int))=some x:=k1;by_cases h:dA (λk=>at2 ds (pl l k) a<=r) l.length<=1
    ·have h':¬(1:Int)<x:=by omega
     rw[qc h,qa];simp(disch:=omega)only[EV,Lm,ha,aa,h'];rfl
    ·have h':(1:Int)<x:=by omega
     rw[qd h,qb];simp(disch:=omega)only[EV,Lm,ha,aa,h'])
   (by simp(disch:=omega)only[EV,Lm,xj])
 unfold AJ GN;rw[qn,key,xc];cases wT ds o.length r l<;>rfl
theorem Un(hf:Fld o ds){i j:Nat}(hi:i<ds.length)(hj:j<ds.length):LJ o ds (i:Int) (j:Int) r=some (jS ds o.length r i j):=by
 have hlen:=hf.len;have key:aAM ((i:Int),(j:Int),r,o,ds) (0:Int)=some (bif jS ds o.length r i j then .inl ()else .inr ()):=
  aX (f:=λv=>(HU ((i:Int),(j:Int),r,o,ds) v).ev) (n:=o.length) (λa=>(a:Int)) (λa=> !(decide (at2 ds i a<=r)&&decide (at2 ds j a<=r))) (.inl ():Unit⊕Unit) (.inr ())
   (λa ha _=>by
    have aa:=hf.rowLen i hi;have ab:=hf.rowLen j hj;have e1:(ds.getD i []).getD a 0=at2 ds i a:=rfl;have e2:(ds.getD j []).getD a 0=at2 ds j a:=rfl;by_cases h1:at2 ds i a<=r
    ·by_cases h2:at2 ds j a<=r;·simp(disch:=omega)only[EV,HU,ha,hi,hj,aa,ab,e1,e2,h1,h2]
     ·simp(disch:=omega)only[EV,HU,ha,hi,hj,aa,ab,e1,e2,h1,h2];rfl
    ·simp(disch:=omega)only[EV,HU,ha,hi,aa,e1,h1];rfl)
   (by simp(disch:=omega)only[EV,HU,xj])
 unfold LJ OJ;rw[qn,key,xc];cases jS ds o.length r i j<;>rfl
theorem Nu(hf:Fld o ds){l:List Int}(hl:Gh ds.length l):DB o ds l r=some (wT ds o.length r l):=by
 have h7:=hl.1;have key:aCh (l,r,o,ds) (0:Int)=some (bif (List.range l.length).all λi=>(List.range i).all λk=>jS ds o.length r (pl l i) (pl l k)then .inl ()else .inr ()):=
  aX (f:=λv=>(ZQ (l,r,o,ds) v).ev) (n:=l.length) (λa=>(a:Int)) (λi=>(List.range i).all λk=>jS ds o.length r (pl l i) (pl l k)) (.inl ():Unit⊕Unit) (.inr ())
   (λi hi _=>by
    obtain⟨e1,e2⟩:=Uq hl hi;have k2:aAw (l,r,(i:Int),o,ds) (0:Int)=some (bif (List.range i).all λk=>jS ds o.length r (pl l i) (pl l k)then .inl ()else .inr ()):=
     aX (f:=λv=>(wtg (l,r,(i:Int),o,ds) v).ev) (n:=i) (λa=>(a:Int)) (λk=>jS ds o.length r (pl l i) (pl l k)) (.inl ():Unit⊕Unit) (.inr ())
      (λk hk _=>by
       obtain⟨e3,e4⟩:=Uq hl (show k<l.length by omega);have ea:=Un (r:=r) hf e2 e4;have aa:k<l.length:=by omega
       cases hq:jS ds o.length r (pl l i) (pl l k)with
       |true=>rw[hq]at ea;simp(disch:=omega)only[EV,wtg,hk,hi,aa,e1,e3,ea];rfl
       |false=>rw[hq]at ea;simp(disch:=omega)only[EV,wtg,hk,hi,aa,e1,e3,ea])
      (by simp(disch:=omega)only[EV,wtg,xj])
    cases hq:(List.range i).all λk=>jS ds o.length r (pl l i) (pl l k)with
    |true=>rw[hq]at k2;simp(disch:=omega)only[EV,ZQ,hi,k2];rfl
    |false=>rw[hq]at k2;simp(disch:=omega)only[EV,ZQ,hi,k2])
   (by simp(disch:=omega)only[EV,ZQ,xj])
 rw[<-Zc]at key;unfold DB VO;rw[qn,key,xc];cases wT ds o.length r l<;>rfl
def fC(ds:List (List Int))(n:Nat)(r:Int)(c:List Int)(b:Nat):List Int:=if(c.length<(kK b).length\/((kK b).length=c.length/\nR (kK b) c=true))/\wT ds n r (kK b)=true then kK b else c
def yB(ds:List (List Int))(n:Nat)(r:Int):List Int:=(List.range (2^ds.length)).foldl (fC ds n r) []
noncomputable def aFz(m:Nat):Bool:=(IntKind.wrap .u64 ((1:Int)*2^(min m (IntKind.bits .u64)))==((2^m:Nat):Int))&&(IntKind.wrap .i64 ((1:Int)*2^(min m (IntKind.bits .i64)))==((2^m:Nat):Int))&&(List.range (2^m)).all λb=>(Zb (m:Int) (b:Int)==some (kK b))&&Nat.ble (kK b).length 7&&(kK b).all λx=>(decide (0<=x))&&decide (x<(m:Int))
theorem Ze:(List.range 8).all aFz=true:=by kernel_rfl
theorem Fx{m:Nat}(h:m<=7):IntKind.wrap .u64 ((1:Int)*2^(min m (IntKind.bits .u64)))=((2^m:Nat):Int)/\IntKind.wrap .i64 ((1:Int)*2^(min m (IntKind.bits .i64)))=((2^m:Nat):Int)/\∀b:Nat,b<2^m->Zb (m:Int) (b:Int)=some (kK b)/\Gh m (kK b):=by have h:=xy.1 Ze m (xau.2 (by omega));simp only[aFz,xi,qg,xy,xau,qe,Nat.ble_eq]at h;exact⟨h.1.1,h.1.2,λb hb=>⟨(h.2 b hb).1.1,(h.2 b hb).1.2,(h.2 b hb).2⟩⟩
theorem wC{m n:Nat}{c:List Int}{b:Nat}(hb:Gh m (kK b))(hc:Gh m c):Gh m (fC ds n r c b):=by
 unfold fC;split;·exact hb
 ·exact hc
theorem At(hf:Fld o ds):NN o ds r=some (yB ds o.length r)/\Gh ds.length (yB ds o.length r):=by
 obtain⟨_,hw,hb⟩:=Fx hf.clients;have ad:=hf.clients;have hp:2^ds.length<=2^7:=ZT (by omega) ad;have aa:(0:Int)<=((ds.length:Nat):Int):=by omega
 obtain⟨k1,k2⟩:=aK (f:=λv=>(wxd (r,o,ds) v).ev) (n:=2^ds.length) (mk:=λb (c:List Int)=>(c,(b:Int))) (I:=λ_ c=>Gh ds.length c) (g:=fC ds o.length r) (fin:=λc=>c) (s0:=[]) ⟨by simp,λx h=>by cases h⟩
  (λb c ae hc=>by
   obtain⟨e1,e2⟩:=hb b ae;refine⟨?_,wC e2 hc⟩;have e3:=Nu (r:=r) hf e2;have h7:=hc.1;have h8:=e2.1;have ab:(b:Int)<((2^ds.length:Nat):Int):=by omega
   have af:IntKind.wrap .i64 ((b:Int)+1)=((b+1:Nat):Int):=by rw[aV (by omega) (by omega)];rfl
   unfold wxd fC;dsimp only;rw[qp,qc aa,qa,mZ,hw,qo,qc ab,qa,qn,e1,xc,qo,af];by_cases h1:c.length<(kK b).length
   ·rw[qc (show((c.length:Nat):Int)<(((kK b).length:Nat):Int) by omega),qa,qn,e3,xc,qo];cases hq:wT ds o.length r (kK b)with|true=>rw[qi ⟨.inl h1,rfl⟩];rfl|false=>rw[qh λh=>by cases h.2];rfl
   ·rw[qd (show¬((c.length:Nat):Int)<(((kK b).length:Nat):Int) by omega),qb,qo];by_cases h2:(kK b).length=c.length
    ·have eb:((((kK b).length:Nat):Int)==((c.length:Nat):Int))=true:=beq_iff_eq.2 (by omega);rw[eb,qa,qn,Mx h2 (by omega),xc,qo];cases ai:nR (kK b) c with
     |true=>
      rw[qa,qn,e3,xc,qo];cases hq:wT ds o.length r (kK b)with
      |true=>rw[qi ⟨.inr ⟨h2,rfl⟩,rfl⟩];rfl
      |false=>rw[qh λh=>by cases h.2];rfl
     |false=>rw[qh λh=>by rcases h.1 with h|h;exact h1 h;cases h.2];rfl
    ·have eb:((((kK b).length:Nat):Int)==((c.length:Nat):Int))=false:=beq_eq_false_iff_ne.2 (by omega);rw[eb,qb,qh λh=>by rcases h.1 with h|h;exact h1 h;exact h2 h.1];rfl)
  (λc _=>by unfold wxd;dsimp only;rw[qp,qc aa,qa,mZ,hw,qo,qd (BN _),qb,qq])
 have ah:aBK (r,o,ds) (([]:List Int),(0:Int))=some (yB ds o.length r):=k1;refine⟨?_,k2⟩;unfold NN QE;rw[qn,ah,xc,qq]
theorem Et(hf:Fld o ds):SQ o ds r=some (yB ds o.length r):=by
 obtain⟨hw,_,hb⟩:=Fx hf.clients;have ae:=hf.clients;have hp:2^ds.length<=2^7:=ZT (by omega) ae;have ah:1<=2^ds.length:=Nat.one_le_two_pow;have ab:(0:Int)<=((ds.length:Nat):Int):=by omega
 have step:∀(b:Nat) (c:List Int),b<2^ds.length->Gh ds.length c->(YR (r,o,ds) (c,(b:Int))).ev=some (.inl (fC ds o.length r c b,((b+1:Nat):Int))):=λb c aa hc=>by
  have e2:=(hb b aa).2;have e1:=(K9 (x:=b) (by omega)).list;have e3:=Ik (r:=r) hf e2;have h7:=hc.1;have h8:=e2.1;have ad:(b:Int)<((2^ds.length:Nat):Int):=by omega
  have af:IntKind.wrap .u64 ((b:Int)+1)=((b+1:Nat):Int):=by show((b:Int)+1) % 18446744073709551616=_;omega
  unfold YR fC;dsimp only;rw[qp,qc ab,qa,mZ,hw,qo,qc ad,qa,qn,e1,xc,qo,af];by_cases h1:c.length<(kK b).length
  ·rw[qc (show((c.length:Nat):Int)<(((kK b).length:Nat):Int) by omega),qa,qn,e3,xc,qo];cases hq:wT ds o.length r (kK b)with|true=>rw[qi ⟨.inl h1,rfl⟩];rfl|false=>rw[qh λh=>by cases h.2];rfl
  ·rw[qd (show¬((c.length:Nat):Int)<(((kK b).length:Nat):Int) by omega),qb,qo];by_cases h2:(kK b).length=c.length
   ·have eb:((((kK b).length:Nat):Int)==((c.length:Nat):Int))=true:=beq_iff_eq.2 (by omega);obtain⟨x,e4,e5⟩:=Q4 h2 (by omega);rw[eb,qa,qn,e4,xc,qo,e5];cases ai:nR (kK b) c with
    |true=>
     rw[qa,qn,e3,xc,qo];cases hq:wT ds o.length r (kK b)with
     |true=>rw[qi ⟨.inr ⟨h2,rfl⟩,rfl⟩];rfl
     |false=>rw[qh λh=>by cases h.2];rfl
    |false=>rw[qh λh=>by rcases h.1 with h|h;exact h1 h;cases h.2];rfl
   ·have eb:((((kK b).length:Nat):Int)==((c.length:Nat):Int))=false:=beq_eq_false_iff_ne.2 (by omega);rw[eb,qb,qh λh=>by rcases h.1 with h|h;exact h1 h;exact h2 h.1];rfl
 have h0:Gh ds.length []:=⟨by simp,λx h=>by cases h⟩
 have k0:DG (r,o,ds) (([]:List Int),(0:Int))=some (yB ds o.length r):=
  (aK (f:=λv=>(YR (r,o,ds) v).ev) (n:=2^ds.length) (mk:=λb (c:List Int)=>(c,(b:Int))) (I:=λ_ c=>Gh ds.length c) (g:=fC ds o.length r) (fin:=λc=>c) (s0:=[]) h0
   (λb c aa hc=>⟨step b c aa hc,wC (hb b aa).2 hc⟩)
   (λc _=>by unfold YR;dsimp only;rw[qp,qc ab,qa,mZ,hw,qo,qd (BN _),qb,qq])).1
 have k1:DG (r,o,ds) (([]:List Int),(1:Int))=some (yB ds o.length r):=by
  rw[<-k0];unfold DG
  conv=>rhs;rw[aL]
  have:=step 0 [] (by omega) h0;have e:fC ds o.length r [] 0=[]:=by have:kK 0=[]:=rfl;unfold fC;rw[this];split<;>rfl
  rw[e]at this;rw[show((0:Int))=((0:Nat):Int)from rfl,this];rfl
 unfold SQ SR;rw[qn,k1,xc,qq]
theorem R6(ho:aF o)(hd:cT ds)(hf:Fld o ds)(k:Int):∃l b,Yq o ds k=some (b,l)/\Ww o ds k=some (l,b)/\Gh o.length l:=by
 have e1:Cn o ds k=some (bY k 1 ((o.length:Nat):Int)):=by unfold Cn Yl;rw[qn,cH ho hd,xc,fieldB_iff.2 hf,qo,qa,qn,dG,xc,qq]
 have e2:XQ o ds k=some (bY k 1 ((o.length:Nat):Int)):=by unfold XQ TW;rw[qn,fN ho hd,xc,fieldB_iff.2 hf,qo,qa,qn,fG,xc,qq]
 cases hk:bY k 1 ((o.length:Nat):Int)with
 |false=>
  rw[hk]at e1 e2;refine⟨[],false,?_,?_,by simp,λx h=>by cases h⟩;·unfold Yq Zs;rw[qn,e1,xc,qo,mM,qa,qq]
  ·unfold Ww BL;rw[qn,e2,xc,qo,mM,qa,qq]
 |true=>
  rw[hk]at e1 e2;have aa:=isIn_iff.1 hk;have h7:=hf.len;obtain⟨m1,m2⟩:=ofSz_mem.1 (Ee h7 (ds:=ds) aa);obtain⟨p1,_,_⟩:=cP h7 (nS hf.pos h7) m1;refine⟨tX ds o.length k,true,?_,?_,by omega,λx hx=>?_⟩;·unfold Yq Zs;rw[qn,e1,xc,qo,xq,qb,qn,Ih hf aa,xc,qq]
  ·unfold Ww BL;rw[qn,e2,xc,qo,xq,qb,qn,Hx hf aa,xc,qq]
  obtain⟨i,hi,e⟩:=xca.1 hx;have:=p1.mem i hi;rw[xe,xh hi,wJ,e]at this;exact this
theorem Fc{f:List Int×Int->Option ((List Int×Int)⊕List Int)}{L:List (List Int)}{g:List Int->Int}(hL:0<L.length)(hs:∀(i:Nat) (c:List Int),i<L.length->c∈L->f (c,(i:Int))=some (.inl (if g (L.getD i [])<g c then L.getD i []else c,((i+1:Nat):Int))))(he:∀c,f (c,((L.length:Nat):Int))=some (.inr c)):aC f (L.getD 0 [],(1:Int))=some (aS g L):=by
 obtain⟨r,h1,rfl⟩:=R5 (f:=f) (n:=L.length-1) (λi v=>v=(aS g (L.take (i+1)),((i+1:Nat):Int))) (λr=>r=aS g L)
  (λi v hi hv=>by
   subst hv;have ab:i+1<L.length:=by omega
   have aa:L.take (i+1)≠ []:=λe=>by have:=congrArg List.length e;rw[kN]at this;simp only[lI]at this;omega
   have ae:=(dH (g:=g) aa).1;have ad:=iB (g:=g) aa (L.getD (i+1) []);rw[<-cD [] ab]at ad;exact⟨_,hs (i+1) _ ab (Je ae),by rw[ad]⟩)
  (λv hv=>by
   subst hv;have e:L.length-1+1=L.length:=by omega
   rw[e];exact⟨_,he _,by rw[pM]⟩)
  (v:=(L.getD 0 [],1)) (by have h1:=cD (l:=L) (i:=0) [] hL;rw[DQ,v5]at h1;rw[h1,fU];rfl)
 exact h1
theorem J3(ho:aF o)(hd:cT ds)(hf:Fld o ds)(k:Int):∃l b,Pl o ds k=some (b,l)/\Yr o ds k=some (b,l)/\Gh o.length l:=by
 have e1:Cn o ds k=some (bY k 1 ((o.length:Nat):Int)):=by unfold Cn Yl;rw[qn,cH ho hd,xc,fieldB_iff.2 hf,qo,qa,qn,dG,xc,qq]
 have e2:OZ o ds k=some (bY k 1 ((o.length:Nat):Int)):=by unfold OZ TK;rw[qn,fN ho hd,xc,fieldB_iff.2 hf,qo,qa,qn,fG,xc,qq]
 cases hk:bY k 1 ((o.length:Nat):Int)with
 |false=>
  rw[hk]at e1 e2;refine⟨[],false,?_,?_,by simp,λx h=>by cases h⟩;·unfold Pl Xp;rw[qn,e1,xc,qo,mM,qa,qq]
  ·unfold Yr CM;rw[qn,e2,xc,qo,mM,qa,qq]
 |true=>
  rw[hk]at e1 e2;have ae:=isIn_iff.1 hk;have h7:=hf.len;have hS:=nS hf.pos h7;have hl:=jG hS h7;have aa:=xay.2 (J6 h7 ae);have ab:l8 ds o.length k∈lE o.length k:=(dH (J6 h7 ae)).1;obtain⟨p1,p2,p3⟩:=cP h7 hS (upTo_mem.1 ab).1;have af:=p1.low;refine⟨_,true,Au hf e1 ae,?_,?_,λx hx=>?_⟩
  ·have k1:aFX (k,aM o.length) ((0:Int),([]:List (List Int)))=some (lE o.length k):=by
    have h:=(dM (f:=λv=>(YX (k,aM o.length) v).ev) (aM o.length) [] (mk:=λi (c:List (List Int))=>((i:Int),c)) (I:=λi c=>c.length<=i) (g:=λc s=>if(s.length:Int)<=k then c++ [s]else c) (fin:=λc=>c) (s0:=[]) (xp _)
     (λi c hi hc=>by
      have ad:∀x:List Int,List.length [x]=1:=λ_=>rfl;have hb:(c.length+1)*24<=140737488355328:=by omega
      by_cases h:(((aM o.length).getD i []).length:Int)<=k;·simp only[qi h];refine⟨?_,by rw[xm,ad];omega⟩;simp(disch:=omega)only[EV,YX,hi,h,ad,hb];rfl
      ·simp only[qh h];refine⟨?_,by omega⟩;simp(disch:=omega)only[EV,YX,hi,h];rfl)
     (λc _=>by simp(disch:=omega)only[EV,YX,xj])).1
    have e:(aM o.length).foldl (λc s=>if(s.length:Int)<=k then c++ [s]else c) []=lE o.length k:=by
     have key:∀(l acc:List (List Int)),l.foldl (λc s=>if(s.length:Int)<=k then c++ [s]else c) acc=acc++l.filter λs=>decide ((s.length:Int)<=k):=by
      intro l;induction l with
      |nil=>intro acc;simp
      |cons a l ih=>
       intro acc;rw[N3,ih,EE];by_cases h:(a.length:Int)<=k;·simp[h]
       ·simp[h]
     rw[key,v5];rfl
    rw[e]at h;exact h
   have k2:aDN (o,ds,lE o.length k) ((lE o.length k).getD 0 [],(1:Int))=some (l8 ds o.length k):=Fc aa
    (λi c hi hc=>by
     have hle:(lE o.length k).length<=(aM o.length).length:=xdy _ _;obtain⟨q1,q2,_⟩:=cP h7 hS (upTo_mem.1 hc).1;obtain⟨q3,q4,_⟩:=cP h7 hS (upTo_mem.1 (aE (d:=[]) hi)).1;have e3:=a8 hf q1 q2;have e4:=a8 hf q3 q4;by_cases h:Nt ds ((lE o.length k).getD i [])<Nt ds c;·rw[qi h];simp(disch:=omega)only[EV,wxc,hi,e3,e4,h];rfl
     ·rw[qh h];simp(disch:=omega)only[EV,wxc,hi,e3,e4,h];rfl)
    (λc=>by simp(disch:=omega)only[EV,wxc,xj])
   have k3:JW o ds k=some (lE o.length k):=by unfold JW OS;rw[qn,hS.sp,xc,qn,k1,xc,qq]
   have k4:MD o ds k=some (l8 ds o.length k):=by unfold MD QQ;rw[qn,k3,xc,qp,show aB (0:Int) (lE o.length k).length=true from bM (by omega) (by omega),qa,qp,qc (show Int.toNat 0<(lE o.length k).length by simpa using aa),qa,qn];rw[show(lE o.length k).getD (Int.toNat 0) []=(lE o.length k).getD 0 []from rfl,k2,xc,qq]
   unfold Yr CM;rw[qn,e2,xc,qo,xq,qb,qn,k4,xc,qn,jC (by omega),xc,qq]
  ·have:=(upTo_mem.1 ab).2;omega
  ·obtain⟨i,hi,e⟩:=xca.1 hx;have:=p1.mem i hi;rw[xe,xh hi,wJ,e]at this;exact this
end
structure Atl(o:List Int)(ds:List (List Int))(s:List Int)(n:Int):Prop where
 fld:Fld o ds
 set:ris o.length s
 count:0<=n/\n<=1000
theorem atl_iff{o:List Int}{ds:List (List Int)}{s:List Int}{n:Int}:dW o ds s n=true↔Atl o ds s n:=by unfold dW;rw[xi,xi,fieldB_iff,ris_iff,isIn_iff];exact⟨λ⟨a,b,c⟩=>⟨a,b,c⟩,λh=>⟨h.fld,h.set,h.count⟩⟩
theorem pI{o:List Int}{ds:List (List Int)}(h:Fld o ds):aF o/\cT ds:=by have h1:=h.len;have h2:=h.clients;refine⟨by unfold aF;omega,by omega,λr hr=>?_⟩;obtain⟨j,hj,e⟩:=xca.1 hr;have h3:=h.rowLen j hj;rw[xe,xh hj,wJ,e]at h3;unfold aF;omega
theorem tG{o:List Int}{ds:List (List Int)}(h:Fld o ds):∀r∈ds,r.length=o.length:=λr hr=>by obtain⟨j,hj,e⟩:=xca.1 hr;have h3:=h.rowLen j hj;rwa [xe,xh hj,wJ,e]at h3
theorem d7{f:Int×List (List Int)->Option ((Int×List (List Int))⊕List (List Int))}{x:List (List Int)}
  (aa:∀i:Nat,i<x.length->f ((i:Int),x.take i)=some (.inl (((i+1:Nat):Int),x.take i++ [x.getD i []]))) (ab:f ((x.length:Int),x)=some (.inr x)):aC f (0,[])=some x:=by
 have:=(aK (f:=f) (n:=x.length) (mk:=λi (_:Unit)=>((i:Int),x.take i)) (I:=λ_ _=>True) (g:=λs _=>s) (fin:=λ_=>x) (s0:=()) trivial
  (λi s hi _=>⟨by rw[aa i hi,cD [] hi],trivial⟩)
  (λs _=>by rw[pM,ab])).1
 simpa using this
theorem Y6{ds:List (List Int)}(hd:ds.length<=1048576)(hr:∀r∈ds,r.length<=1048576)(k:(List (Int))×(List (List (Int)))×(List (Int))×(Int)×(Int)×(List (List (Int)))×(List (Int)))(hk:k.2.1=ds):aEL k (0,[])=some ds:=by
 have h0:=d7 (f:=λv=>(wuw k v).ev) (x:=ds)
  (λi hi=>by
   have ht:(ds.take i).length<=i:=xgc _ _;have r1:((ds.take i).length+1)*24<=140737488355328:=by omega
   have e1:=jC (l:=ds.getD i []) (by have:=hr _ (aE (d:=[]) hi);omega);simp(disch:=omega)only[EV,wuw,hk,hi,e1,hY,r1];rfl)
  (by simp(disch:=omega)only[EV,wuw,hk,xj])
 exact h0
theorem oS{o s:List Int}{ds:List (List Int)}(ho:o.length<=1048576)(hd:ds.length<=1048576)(hr:∀r∈ds,r.length<=1048576)(hs:s.length<=1048576)(c:Int):H3 o ds s c=some (c,o,ds,s):=by unfold H3 KO;rw[qn,jC (l:=o) (by omega),xc,qn,Y6 hd hr _ rfl,xc,qn,jC (l:=s) (by omega),xc,qq]
theorem Qn{α:Type}(f:α->α)(d:α){l:List α}{i:Nat}(hi:i<l.length):((l.take i).map f++l.drop i).getD i d=l.getD i d/\((l.take i).map f++l.drop i).set i (f (l.getD i d))=(l.take (i+1)).map f++l.drop (i+1)/\((l.take i).map f++l.drop i).length=l.length:=by
 have hl:((l.take i).map f).length=i:=by rw[An,kN];omega
 have hd:=Im hi;have hg:l.getD i d=l[i]:=by rw[xe,xh hi];rfl
 refine⟨?_,?_,?_⟩;·rw[xe,j8 (by omega),hl,Nq,hd,hg];rfl
 ·rw[Wd _ _ (by omega),hl,Nq,hd,xej,cD d hi,TA,Fy];rfl
 ·rw[xm,hl,vA];omega
theorem sG{α:Type}{f:Int×List α->Option ((Int×List α)⊕List α)}(g:α->α)(d:α){l:List α}
  (aa:∀(i:Nat) (x:List α),i<l.length->x.length=l.length->x.getD i d=l.getD i d->f ((i:Int),x)=some (.inl (((i+1:Nat):Int),x.set i (g (l.getD i d)))))
  (ab:∀x:List α,x.length=l.length->f ((l.length:Int),x)=some (.inr x)):aC f (0,l)=some (l.map g):=by
 have:=(aK (f:=f) (n:=l.length) (mk:=λi (_:Unit)=>((i:Int),(l.take i).map g++l.drop i)) (I:=λ_ _=>True) (g:=λs _=>s) (fin:=λ_=>l.map g) (s0:=()) trivial
  (λi s hi _=>by obtain⟨h1,h2,h3⟩:=Qn g d hi;exact⟨by rw[aa i _ hi h3 h1,h2],trivial⟩)
  (λs _=>by rw[pM,BA,wG,ab _ (by simp)])).1
 simpa using this
theorem Y5{α:Type}{l:List α}{i:Nat}(d:α)(hi:i<l.length):l.set i (l.getD i d)=l:=by rw[xe,xh hi,wJ,List.set_getElem_self]
def eX(a x:Int):Int:=if a<x then x-1 else x
theorem Uc{o s:List Int}{ds:List (List Int)}{n:Int}(h:Atl o ds s n){a:Int}(h0:0<=a)(ha:a<(o.length:Int)):XU o ds s n a=some (n,cO a o,ds.map (cO a),s.map (eX a)):=by
 have h7:=h.fld.len;have hm:=h.fld.clients;have ab:=tG h.fld;have ai:=h.set.len;have e1:=oS (o:=o) (ds:=ds) (s:=s) (by omega) (by omega) (λr hr=>by have:=ab r hr;omega) (by omega) n;have e2:=Gb (l:=o) (by omega) h0 ha;have l1:=sG (f:=λv=>(wvo (a,o,ds,s,n,(0:Int),n,cO a o,s) v).ev) (cO a) [] (l:=ds)
  (λi x hi hx hg=>by
   have aj:=ab _ (aE (d:=[]) hi);have e3:=Gb (l:=ds.getD i []) (by omega) h0 (by omega);have aa:i<x.length:=by omega
   simp(disch:=omega)only[EV,wvo,hi,aa,e3];rfl)
  (λx hx=>by simp(disch:=omega)only[EV,wvo,xj])
 have l2:=sG (f:=λv=>(wsk (a,(0:Int),n,cO a o,ds.map (cO a)) v).ev) (eX a) 0 (l:=s)
  (λi x hi hx hg=>by
   have aa:i<x.length:=by omega
   have hv:=h.set.1 _ (aE (d:=0) hi);have hw:IntKind.wrap .i64 (s.getD i 0-1)=s.getD i 0-1:=aV (by omega) (by omega);unfold eX;by_cases ae:a<s.getD i 0;·simp(disch:=omega)only[EV,wsk,aa,hg,ae,hw];rfl
   ·have ad:x.set i (s.getD i 0)=x:=by rw[<-hg];exact Y5 0 aa
    simp(disch:=omega)only[EV,wsk,aa,hg,ae,ad];rfl)
  (λx hx=>by
   have hn:¬s.length<x.length:=by omega
   simp(disch:=omega)only[EV,wsk,hn])
 have af:aFW (a,o,ds,s,n,(0:Int),n,cO a o,s) (0,ds)=some (ds.map (cO a)):=l1;have ah:aCN (a,(0:Int),n,cO a o,ds.map (cO a)) (0,s)=some (s.map (eX a)):=l2;unfold XU RX;rw[qn,e1,xc,qn,e2,xc,qn,af,xc,qn,ah,xc,qq]
def eV(o:List Int)(ds:List (List Int))(s:List Int)(k a b c:Int)(l:List Int):List Int×List (List Int)×List Int:=
 if k=1 then(o,ds,ins a s)
 else if k=2 then(o,ds,wo s a)
 else if k=3 then(o,ds,ins b (wo s a))
 else if k=4 then(o.set a.toNat b,ds,s)
 else if k=5 then(o,ds.set a.toNat ((ds.getD a.toNat []).set b.toNat c),s)
 else if k=6 then(o++ [a],List.zipWith (λr x=>r++ [x]) ds l,s)
 else if k=7 then(o,ds++ [l],s)
 else if k=8 then(cO a o,ds.map (cO a),s.map (eX a))
 else if k=9 then(o,cO a ds,s)
 else if k=10 then(o,ds,(mV o ds s).2)
 else if k=11 then(o,ds,oA o ds)
 else(o,ds,s)
def Sm(x:List Int×List (List Int)×List Int):Prop:=aF x.1/\cT x.2.1/\aF x.2.2
theorem T4{o s:List Int}{ds:List (List Int)}{n:Int}(h:Atl o ds s n)(h0:s≠ []):dT o ds s=true:=by unfold dT;rw[fieldB_iff.2 h.fld,ris_iff.2 h.set,qc (xay.2 h0)];rfl
theorem Ac{ds:List (List Int)}{l:List Int}{i:Nat}(hi:i<ds.length)(hl:l.length=ds.length):∀{x:List (List Int)},x=List.zipWith (λr y=>r++ [y]) (ds.take i) (l.take i)++ds.drop i->
  x.getD i []=ds.getD i []/\x.length=ds.length/\x.set i (ds.getD i []++ [l.getD i 0])=List.zipWith (λr y=>r++ [y]) (ds.take (i+1)) (l.take (i+1))++ds.drop (i+1):=by
 intro x hx;subst hx;have hz:(List.zipWith (λr y=>r++ [y]) (ds.take i) (l.take i)).length=i:=by simp;omega
 have hd:=Im hi;have hg:ds.getD i []=ds[i]:=by rw[xe,xh hi];rfl
 refine⟨?_,?_,?_⟩;·rw[xe,j8 (by omega),hz,Nq,hd,hg];rfl
 ·rw[xm,hz,vA];omega
 ·rw[Wd _ _ (by omega),hz,Nq,hd,xej,cD [] hi,cD 0 (show i<l.length by omega),List.zipWith_append (by simp;omega),Fy];rfl
theorem Bz{ds:List (List Int)}{l:List Int}(hl:l.length=ds.length)(hd:ds.length<=7)(hr:∀r∈ds,r.length<=7)(k:(Int)×(Int)×(Int)×(Int)×(List (Int))×(Int)×(Int)×(List (Int))×(List (Int))×(List (Int))×(List (Int)))(hk:k.2.2.2.2.1=l):
  LE k (0,ds)=some (List.zipWith (λr x=>r++ [x]) ds l):=by
 have h:=(aK (f:=λv=>(wwa k v).ev) (n:=ds.length) (mk:=λi (x:List (List Int))=>((i:Int),x)) (I:=λi x=>x=List.zipWith (λr y=>r++ [y]) (ds.take i) (l.take i)++ds.drop i) (g:=λx i=>x.set i (ds.getD i []++ [l.getD i 0])) (fin:=λs=>s) (s0:=ds) (by simp)
  (λi x hi hx=>by
   obtain⟨z1,z2,z3⟩:=Ac hi hl hx;refine⟨?_,z3⟩;have aa:i<l.length:=by omega
   have ab:i<x.length:=by omega
   have r1:=X5 (ds.getD i []) (l.getD i 0) (by have:=hr _ (aE (d:=[]) hi);omega);simp(disch:=omega)only[EV,wwa,hk,aa,ab,z1,r1];rfl)
  (λx hx=>by
   have hn:¬ds.length<l.length:=by omega
   simp(disch:=omega)only[EV,wwa,hk,hn]))
 obtain⟨h1,h2⟩:=h;have h3:LE k (0,ds)=_:=h1;rw[h3,h2,pM,BA,wG,Ak (by omega)]
theorem R9{o s:List Int}{ds:List (List Int)}{n:Int}(h:Atl o ds s n){k a b c:Int}{l:List Int}(hl:aF l)(hm:gV o.length ds.length s k a b l=true):
  LH o ds s n k a b c l=some (n,eV o ds s k a b c l)/\Sm (eV o ds s k a b c l):=by
 have h7:=h.fld.len;have hp:=h.fld.pos;have hc:=h.fld.clients;have af:=tG h.fld;have au:=h.set.len;obtain⟨lo,ld⟩:=pI h.fld;have ls:aF s:=h.set.low h7;have e1:=oS (o:=o) (ds:=ds) (s:=s) (by omega) (by omega) (λr hr=>by have:=af r hr;omega) (by omega) n;have ab:∀{m:Nat} {x:Int},cJ m x=true->0<=x/\x<(m:Int):=λ{m x} hx=>by have:=isIn_iff.1 hx;omega
 have ad:∀{x:Int},bP o.length s x=true->(0<=x/\x<(o.length:Int))/\x∉s:=λ{x} hx=>by unfold bP at hx;rw[xi,s6]at hx;exact⟨ab hx.1,bZ hx.2⟩
 have aa:∀{x:List Int},x.length<=1000->aF x:=λ{x} hx=>by unfold aF;omega
 unfold LH RZ;rw[qn,e1,xc];dsimp only;by_cases h1:k=1;·subst h1;obtain⟨q1,q2⟩:=ad hm;have e2:=oQ (l:=s) (x:=a) (by omega) q2;refine⟨?_,lo,ld,aa (by show(ins a s).length<=1000;rw[oM];omega)⟩;rw[qo,show((1:Int)==1)=true from rfl,qa,qn,e2];rfl
 by_cases h2:k=2;·subst h2;have e2:=nE (l:=s) (by omega) a;refine⟨?_,lo,ld,aa (by have:=As s a;show(wo s a).length<=1000;omega)⟩;rw[qo,show((2:Int)==1)=false from rfl,qb,qo,show((2:Int)==2)=true from rfl,qa,qn,e2];rfl
 by_cases h3:k=3;·subst h3;have ae:(s.contains a&&bP o.length s b)=true:=hm;rw[xi]at ae;obtain⟨q1,q2⟩:=ad ae.2;have e2:=nE (l:=s) (by omega) a;have av:=As s a;have e3:=oQ (l:=wo s a) (x:=b) (by omega) (jY q2);unfold wo at e3;refine⟨?_,lo,ld,aa (by show(ins b (wo s a)).length<=1000;rw[oM];omega)⟩;simp only[qo,show((3:Int)==1)=false from rfl,show((3:Int)==2)=false from rfl,show((3:Int)==3)=true from rfl,qa,qb,qn,e2,xc,e3];rfl
 by_cases h4:k=4
 ·subst h4;have hs:=ab (show cJ o.length a=true from hm);have i1:aB a o.length=true:=bM (by omega) (by omega);have i2:a.toNat<o.length:=by omega
  refine⟨?_,aa (by show(o.set a.toNat b).length<=1000;rw[F0];omega),ld,ls⟩;simp only[qo,show((4:Int)==1)=false from rfl,show((4:Int)==2)=false from rfl,show((4:Int)==3)=false from rfl,show((4:Int)==4)=true from rfl,qa,qb,qp,i1,qc i2];rfl
 by_cases h5:k=5
 ·subst h5;have ae:(cJ ds.length a&&cJ o.length b)=true:=hm;rw[xi]at ae;have q1:=ab ae.1;have q2:=ab ae.2;have i2:a.toNat<ds.length:=by omega
  have aw:=af _ (aE (d:=[]) i2);have i1:aB a ds.length=true:=bM (by omega) (by omega);have i3:aB b (ds.getD a.toNat []).length=true:=bM (by omega) (by omega);have i4:b.toNat<(ds.getD a.toNat []).length:=by omega
  refine⟨?_,lo,⟨by show((ds.set a.toNat ((ds.getD a.toNat []).set b.toNat c)).length:Int)<=_;rw[F0];omega,λr hr=>?_⟩,ls⟩;·simp only[qo,show((5:Int)==1)=false from rfl,show((5:Int)==2)=false from rfl,show((5:Int)==3)=false from rfl,show((5:Int)==4)=false from rfl,show((5:Int)==5)=true from rfl,qa,qb,qp,i1,qc i2,i3,qc i4];rfl
  ·rcases xey (show r∈ds.set a.toNat ((ds.getD a.toNat []).set b.toNat c)from hr)with hr|rfl;·exact ld.2 r hr
   ·exact aa (by rw[F0];omega)
 by_cases h6:k=6
 ·subst h6;have ae:((((l.length:Nat):Int))==((ds.length:Nat):Int))=true:=hm;have ak:l.length=ds.length:=by have:=eq_of_beq ae;omega
  have r1:=X5 o a (by omega);have e2:=λk=>Bz (l:=l) (ds:=ds) ak hc (λr hr=>by have:=af r hr;omega) k;refine⟨?_,aa (by show(o++ [a]).length<=1000;simp;omega),⟨by show((List.zipWith (λr x=>r++ [x]) ds l).length:Int)<=_;simp;omega,λr hr=>?_⟩,ls⟩;·simp only[qo,show((6:Int)==1)=false from rfl,show((6:Int)==2)=false from rfl,show((6:Int)==3)=false from rfl,show((6:Int)==4)=false from rfl,show((6:Int)==5)=false from rfl,show((6:Int)==6)=true from rfl,qa,qb,qp,qc r1,qn];rw[e2 _ rfl];rfl
  ·obtain⟨j,hj,e⟩:=xca.1 (show r∈List.zipWith (λr x=>r++ [x]) ds l from hr);rw[List.getElem_zipWith]at e;subst e;rw[List.length_zipWith]at hj;exact aa (by have:=af _ (xeh (show j<ds.length by omega));simp;omega)
 by_cases ah:k=7
 ·subst ah;have e2:=jC (l:=l) (by unfold aF at hl;omega);have r1:=uG ds (by omega);refine⟨?_,lo,⟨by show((ds++ [l]).length:Int)<=_;simp;omega,λr hr=>?_⟩,ls⟩;·simp only[qo,show((7:Int)==1)=false from rfl,show((7:Int)==2)=false from rfl,show((7:Int)==3)=false from rfl,show((7:Int)==4)=false from rfl,show((7:Int)==5)=false from rfl,show((7:Int)==6)=false from rfl,show((7:Int)==7)=true from rfl,qa,qb,qn,e2,xc,qp,qc r1,hY];rfl
  ·rcases xaa.1 (show r∈ds++ [l]from hr)with hr|hr;·exact ld.2 r hr
   ·rw[xx.1 hr];exact hl
 by_cases h8:k=8
 ·subst h8;obtain⟨q1,q2⟩:=ad (x:=a) hm;have e2:=Uc h q1.1 q1.2;have al:=uD (l:=o) q1.1 q1.2;refine⟨?_,aa (by show(cO a o).length<=1000;omega),⟨by show((ds.map (cO a)).length:Int)<=_;simp;omega,λr hr=>?_⟩,aa (by show(s.map (eX a)).length<=1000;simp;omega)⟩;·simp only[qo,show((8:Int)==1)=false from rfl,show((8:Int)==2)=false from rfl,show((8:Int)==3)=false from rfl,show((8:Int)==4)=false from rfl,show((8:Int)==5)=false from rfl,show((8:Int)==6)=false from rfl,show((8:Int)==7)=false from rfl,show((8:Int)==8)=true from rfl,qa,qb,qn,e2];rfl
  ·obtain⟨r',ao,rfl⟩:=xak.1 (show r∈ds.map (cO a)from hr);have:=af r' ao;have:=uD (l:=r') q1.1 (by omega);exact aa (by omega)
 by_cases h9:k=9
 ·subst h9;have q1:=ab (show cJ ds.length a=true from hm);have hw:IntKind.wrap .i64 (a+1)=a+1:=aV (by omega) (by omega);have ht:(a+1).toNat=a.toNat+1:=by omega
  have g1:(decide (0<=a)&&decide (a<=((ds.length:Nat):Int)))=true:=by rw[qc (by omega),qc (by omega)];rfl
  have g2:(decide (0<=a+1)&&decide (a+1<=((ds.length:Nat):Int)))=true:=by rw[qc (by omega),qc (by omega)];rfl
  have g3:(decide (a.toNat<=a.toNat+1)&&decide ((a.toNat+(ds.length-(a.toNat+1)))*24<=140737488355328))=true:=by rw[qc (by omega),qc (by omega)];rfl
  have al:=uD (l:=ds) q1.1 q1.2;refine⟨?_,lo,⟨by show((cO a ds).length:Int)<=_;omega,λr hr=>ld.2 r (Jw hr)⟩,ls⟩;simp only[qo,show((9:Int)==1)=false from rfl,show((9:Int)==2)=false from rfl,show((9:Int)==3)=false from rfl,show((9:Int)==4)=false from rfl,show((9:Int)==5)=false from rfl,show((9:Int)==6)=false from rfl,show((9:Int)==7)=false from rfl,show((9:Int)==8)=false from rfl,show((9:Int)==9)=true from rfl,qa,qb,qp,hw,ht,g1,g2,g3];rfl
 by_cases ai:k=10;·subst ai;have ae:decide ((0:Int)<((s.length:Nat):Int))=true:=hm;have h0:s≠ []:=xay.1 (by have:=of_decide_eq_true ae;omega);have e2:=Kl lo ld ls;rw[T4 h h0,qa]at e2;have ar:=(Dl h.fld h.set h0).1;refine⟨?_,lo,ld,ar.low h7⟩;simp only[qo,show((10:Int)==1)=false from rfl,show((10:Int)==2)=false from rfl,show((10:Int)==3)=false from rfl,show((10:Int)==4)=false from rfl,show((10:Int)==5)=false from rfl,show((10:Int)==6)=false from rfl,show((10:Int)==7)=false from rfl,show((10:Int)==8)=false from rfl,show((10:Int)==9)=false from rfl,show((10:Int)==10)=true from rfl,qa,qb,qn,e2];rfl
 by_cases aj:k=11;·subst aj;have e2:=Pm h.fld;have hb:=(yT hp h7 (Da h.fld).1).1;have ay:=hb.len;have e3:=jC (l:=oA o ds) (by omega);refine⟨?_,lo,ld,hb.low h7⟩;simp only[qo,show((11:Int)==1)=false from rfl,show((11:Int)==2)=false from rfl,show((11:Int)==3)=false from rfl,show((11:Int)==4)=false from rfl,show((11:Int)==5)=false from rfl,show((11:Int)==6)=false from rfl,show((11:Int)==7)=false from rfl,show((11:Int)==8)=false from rfl,show((11:Int)==9)=false from rfl,show((11:Int)==10)=false from rfl,show((11:Int)==11)=true from rfl,qa,qb,qn,e2,xc,e3];rfl
 have he:eV o ds s k a b c l=(o,ds,s):=by unfold eV;rw[qh h1,qh h2,qh h3,qh h4,qh h5,qh h6,qh ah,qh h8,qh h9,qh ai,qh aj]
 rw[he];refine⟨?_,lo,ld,ls⟩;simp only[qo,qq,beq_eq_false_iff_ne.2 h1,beq_eq_false_iff_ne.2 h2,beq_eq_false_iff_ne.2 h3,beq_eq_false_iff_ne.2 h4,beq_eq_false_iff_ne.2 h5,beq_eq_false_iff_ne.2 h6,beq_eq_false_iff_ne.2 ah,beq_eq_false_iff_ne.2 h8,beq_eq_false_iff_ne.2 h9,beq_eq_false_iff_ne.2 ai,beq_eq_false_iff_ne.2 aj,qb]
def wO(o:List Int)(ds:List (List Int))(s:List Int)(n k a b c:Int)(l:List Int):Option (Int×List Int×List (List Int)×List Int):=
 bif cK k a b c l&&(gV o.length ds.length s k a b l&&dW (eV o ds s k a b c l).1 (eV o ds s k a b c l).2.1 (eV o ds s k a b c l).2.2 (n+1))then some (n+1,eV o ds s k a b c l)else none
theorem Sd{o s:List Int}{ds:List (List Int)}{n k a b c:Int}{l:List Int}{y:Int×List Int×List (List Int)×List Int}(h:wO o ds s n k a b c l=some y):Atl y.2.1 y.2.2.1 y.2.2.2 y.1:=by
 unfold wO at h;cases hb:(cK k a b c l&&(gV o.length ds.length s k a b l&&dW (eV o ds s k a b c l).1 (eV o ds s k a b c l).2.1 (eV o ds s k a b c l).2.2 (n+1)))with
 |false=>rw[hb]at h;cases h
 |true=>rw[hb]at h;cases h;simp only[xi]at hb;exact atl_iff.1 hb.2.2
def doT(x:Option (Int×List Int×List (List Int)×List Int)):Int×Bool×List Int×List (List Int)×List Int:=match x with
 |some y=>(y.1,true,y.2)
 |none=>(0,false,[],[],[])
theorem IC{o s:List Int}{ds:List (List Int)}{n:Int}(h:Atl o ds s n)(k a b c:Int){l:List Int}(hl:aF l):RB o ds s n k a b c l=some (doT (wO o ds s n k a b c l)):=by
 have h7:=h.fld.len;have hc:=h.fld.clients;have aa:=h.set.len;have hn:=h.count;have hw:IntKind.wrap .i64 (n+1)=n+1:=aV (by omega) (by omega);unfold RB HP wO;rw[qn,Jr,xc,qo];cases cK k a b c l with
 |false=>rfl
 |true=>
  rw[xq,qb,qn,Zp (by omega) (by omega) (by omega),xc,qo];cases hm:gV o.length ds.length s k a b l with
  |false=>rfl
  |true=>obtain⟨e1,q1,q2,q3⟩:=R9 h (c:=c) hl hm;rw[xq,qb,qn,e1,xc,qn,hw];dsimp only;rw[mC q1 q2 q3,xc,qo];cases dW (eV o ds s k a b c l).1 (eV o ds s k a b c l).2.1 (eV o ds s k a b c l).2.2 (n+1)<;>rfl
theorem Ov(k a b c:Int)(l:List Int):TR k a b c l=some (cK k a b c l):=by
 unfold TR IX;by_cases h1:k=1
 ·subst h1;have e:wP 1=some (1,false,true):=rfl;rw[qn,e,xc];unfold cK nA;dsimp only;generalize(a==0)=x;generalize(b==0)=y;generalize(c==0)=z;generalize(((List.length l:Nat):Int)==0)=w
  revert x y z w
  decide
 by_cases h2:k=2
 ·subst h2;have e:wP 2=some (1,false,true):=rfl;rw[qn,e,xc];unfold cK nA;dsimp only;generalize(a==0)=x;generalize(b==0)=y;generalize(c==0)=z;generalize(((List.length l:Nat):Int)==0)=w
  revert x y z w
  decide
 by_cases h3:k=3
 ·subst h3;have e:wP 3=some (2,false,true):=rfl;rw[qn,e,xc];unfold cK nA;dsimp only;generalize(a==0)=x;generalize(b==0)=y;generalize(c==0)=z;generalize(((List.length l:Nat):Int)==0)=w
  revert x y z w
  decide
 by_cases h4:k=4
 ·subst h4;have e:wP 4=some (2,false,true):=rfl;rw[qn,e,xc];unfold cK nA;dsimp only;generalize(a==0)=x;generalize(b==0)=y;generalize(c==0)=z;generalize(((List.length l:Nat):Int)==0)=w
  revert x y z w
  decide
 by_cases h5:k=5
 ·subst h5;have e:wP 5=some (3,false,true):=rfl;rw[qn,e,xc];unfold cK nA;dsimp only;generalize(a==0)=x;generalize(b==0)=y;generalize(c==0)=z;generalize(((List.length l:Nat):Int)==0)=w
  revert x y z w
  decide
 by_cases h6:k=6
 ·subst h6;have e:wP 6=some (1,true,true):=rfl;rw[qn,e,xc];unfold cK nA;dsimp only;generalize(a==0)=x;generalize(b==0)=y;generalize(c==0)=z;generalize(((List.length l:Nat):Int)==0)=w
  revert x y z w
  decide
 by_cases h7:k=7
 ·subst h7;have e:wP 7=some (0,true,true):=rfl;rw[qn,e,xc];unfold cK nA;dsimp only;generalize(a==0)=x;generalize(b==0)=y;generalize(c==0)=z;generalize(((List.length l:Nat):Int)==0)=w
  revert x y z w
  decide
 by_cases h8:k=8
 ·subst h8;have e:wP 8=some (1,false,true):=rfl;rw[qn,e,xc];unfold cK nA;dsimp only;generalize(a==0)=x;generalize(b==0)=y;generalize(c==0)=z;generalize(((List.length l:Nat):Int)==0)=w
  revert x y z w
  decide
 by_cases h9:k=9
 ·subst h9;have e:wP 9=some (1,false,true):=rfl;rw[qn,e,xc];unfold cK nA;dsimp only;generalize(a==0)=x;generalize(b==0)=y;generalize(c==0)=z;generalize(((List.length l:Nat):Int)==0)=w
  revert x y z w
  decide
 by_cases aa:k=10
 ·subst aa;have e:wP 10=some (0,false,true):=rfl;rw[qn,e,xc];unfold cK nA;dsimp only;generalize(a==0)=x;generalize(b==0)=y;generalize(c==0)=z;generalize(((List.length l:Nat):Int)==0)=w
  revert x y z w
  decide
 by_cases ab:k=11
 ·subst ab;have e:wP 11=some (0,false,true):=rfl;rw[qn,e,xc];unfold cK nA;dsimp only;generalize(a==0)=x;generalize(b==0)=y;generalize(c==0)=z;generalize(((List.length l:Nat):Int)==0)=w
  revert x y z w
  decide
 have e:wP k=some (0,false,false):=by unfold wP CD;simp only[qo,qq,beq_eq_false_iff_ne.2 h1,beq_eq_false_iff_ne.2 h2,beq_eq_false_iff_ne.2 h3,beq_eq_false_iff_ne.2 h4,beq_eq_false_iff_ne.2 h5,beq_eq_false_iff_ne.2 h6,beq_eq_false_iff_ne.2 h7,beq_eq_false_iff_ne.2 h8,beq_eq_false_iff_ne.2 h9,beq_eq_false_iff_ne.2 aa,beq_eq_false_iff_ne.2 ab,qb]
 have hp:cK k a b c l=false:=by unfold cK;rw[qh (by omega),qh (by omega),qh h5,qh h6,qh h7,qh (by omega)]
 rw[qn,e,hp];rfl
theorem oV{l:List Int}(hl:aF l):Tc l=some l:=by unfold aF at hl;unfold Tc qQ;rw[qi (by omega)]
theorem x4{ds:List (List Int)}(hd:cT ds):Vq ds=some ds:=by
 unfold Vq BX;have hl:=hd.1;have h0:=d7 (f:=λv=>(DN (ds,((ds.length:Nat):Int)) v).ev) (x:=ds)
  (λi hi=>by
   have ht:(ds.take i).length<=i:=xgc _ _;have hg:((ds.take i).length+1)*24<=140737488355328:=by omega
   simp(disch:=omega)only[EV,DN,hi,oV (hd.2 _ (aE (d:=[]) hi)),hY,hg];rfl)
  (by simp(disch:=omega)only[EV,DN,xj])
 simp(disch:=omega)only[EV,UA,h0]
theorem Dp{o:List Int}{ds:List (List Int)}{s:List Int}(ho:aF o)(hd:cT ds)(hs:aF s)(c:Int):Kb o ds s c=some (c,o,ds,s):=by unfold Kb Yp;simp(disch:=omega)only[EV,oV ho,oV hs,x4 hd]
theorem oE{o:List Int}{ds:List (List Int)}{s:List Int}(ho:aF o)(hd:cT ds)(hs:aF s)(c:Int):vP o ds s c=some (dW o ds s c):=hZ ho hd hs c
theorem jR{o s:List Int}{ds:List (List Int)}{n:Int}(h:Atl o ds s n){k a b c:Int}{l:List Int}(hl:aF l)(hm:gV o.length ds.length s k a b l=true):Sm (eV o ds s k a b c l):=(R9 h hl hm).2
theorem kA{o s:List Int}{ds:List (List Int)}{n k a b c:Int}{l:List Int}(hp:cK k a b c l=true)(hm:gV o.length ds.length s k a b l=true){E:List Int×List (List Int)×List Int}(hE:eV o ds s k a b c l=E)(hS:Sm E):
  (Tr.c (Bool) (vP E.1 E.2.1 E.2.2 (n+1)) λr=>Tr.t (!r) (.l ((0:Int),false,([]:List (Int)),([]:List (List (Int))),([]:List (Int)))) (.l (n+1,true,E.1,E.2.1,E.2.2))).ev=some (doT (wO o ds s n k a b c l)):=by
 obtain⟨h1,h2,h3⟩:=hS;unfold wO;rw[hp,hm,hE,qn,oE h1 h2 h3,xc,qo];cases dW E.1 E.2.1 E.2.2 (n+1)<;>rfl
theorem iW{o s:List Int}{ds:List (List Int)}{n k a b c:Int}{l:List Int}(hm:gV o.length ds.length s k a b l=false):wO o ds s n k a b c l=none:=by unfold wO;rw[hm];simp
theorem Py{o s:List Int}{ds:List (List Int)}(ho:o.length<=1000)(n a:Int):I4 a o ds s n=some (cJ o.length a):=by unfold I4 HS cJ;rw[qn,dG,xc,qq,aV (by omega) (by omega)]
theorem K4{α:Type}{a:Int}{l:List α}(h0:0<=a)(h:a<(l.length:Int)):w6 a (a+1) l=some (cO a l):=by unfold w6 cO;rw[qi (by omega),show(a+1).toNat=a.toNat+1 by omega]
theorem Cd{ds:List (List Int)}{l:List Int}(hl:l.length=ds.length)(hd:ds.length<=7)(hr:∀r∈ds,r.length<=7)(k:(Bool)×(List (Int))×(Int)×(Int)×(Int)×(List (Int))×(List (Int))×(List (Int))×(List (Int)))(hk:k.2.1=l)(aa:k.2.2.1=((l.length:Nat):Int)):
  FV k (0,ds)=some (List.zipWith (λr x=>r++ [x]) ds l):=by
 have h:=(aK (f:=λv=>(Ui k v).ev) (n:=ds.length) (mk:=λi (x:List (List Int))=>((i:Int),x)) (I:=λi x=>x=List.zipWith (λr y=>r++ [y]) (ds.take i) (l.take i)++ds.drop i) (g:=λx i=>x.set i (ds.getD i []++ [l.getD i 0])) (fin:=λs=>s) (s0:=ds) (by simp)
  (λi x hi hx=>by
   obtain⟨z1,z2,z3⟩:=Ac hi hl hx;refine⟨?_,z3⟩;have ab:i<l.length:=by omega
   have ad:i<x.length:=by omega
   have r1:=X5 (ds.getD i []) (l.getD i 0) (by have:=hr _ (aE (d:=[]) hi);omega);simp(disch:=omega)only[EV,Ui,hk,aa,ab,ad,z1,r1];rfl)
  (λx hx=>by
   have hn:¬ds.length<l.length:=by omega
   simp(disch:=omega)only[EV,Ui,aa,hn]))
 obtain⟨h1,h2⟩:=h;have h3:FV k (0,ds)=_:=h1;rw[h3,h2,pM,BA,wG,Ak (by omega)]
theorem UR{o s:List Int}{ds:List (List Int)}{n:Int}(h:Atl o ds s n){a:Int}(h0:0<=a)(ha:a<(o.length:Int))(k:(Int)×(Bool)×(Int)×(Int)×(Int)×(List (Int))×(List (Int)))(hk:k.1=a)(aa:k.2.2.1=((ds.length:Nat):Int)):
  aGP k (0,ds)=some (ds.map (cO a)):=by
 have h7:=h.fld.len;have hm:=h.fld.clients;have ab:=tG h.fld;have hw:IntKind.wrap .i64 (a+1)=a+1:=aV (by omega) (by omega);have l1:=sG (f:=λv=>(Ua k v).ev) (cO a) [] (l:=ds)
  (λi x hi hx hg=>by
   have ae:=ab _ (aE (d:=[]) hi);have e3:BT a (a+1) (ds.getD i [])=some (cO a (ds.getD i [])):=K4 h0 (by omega);have ad:i<x.length:=by omega
   simp(disch:=omega)only[EV,Ua,hk,aa,hi,ad,hg,hw,e3];rfl)
  (λx hx=>by simp(disch:=omega)only[EV,Ua,aa,xj])
 exact l1
theorem IW{o s:List Int}{ds:List (List Int)}{n:Int}(h:Atl o ds s n){a:Int}(k:(Int)×(Bool)×(Int)×(Int)×(Int)×(List (Int))×(List (List (Int))))(hk:k.1=a)(aa:k.2.2.1=((s.length:Nat):Int)):
  aHb k (0,s)=some (s.map (eX a)):=by
 have h7:=h.fld.len;have af:=h.set.len;have l2:=sG (f:=λv=>(Mz k v).ev) (eX a) 0 (l:=s)
  (λi x hi hx hg=>by
   have ab:i<x.length:=by omega
   have hv:=h.set.1 _ (aE (d:=0) hi);have hw:IntKind.wrap .i64 (s.getD i 0-1)=s.getD i 0-1:=aV (by omega) (by omega);unfold eX;by_cases ae:a<s.getD i 0;·simp(disch:=omega)only[EV,Mz,hk,aa,hi,ab,hg,ae,hw];rfl
   ·have ad:x.set i (s.getD i 0)=x:=by rw[<-hg];exact Y5 0 ab
    simp(disch:=omega)only[EV,Mz,hk,aa,hi,ab,hg,ae,ad];rfl)
  (λx hx=>by simp(disch:=omega)only[EV,Mz,aa,xj])
 exact l2
theorem Vv{o s:List Int}{ds:List (List Int)}{n:Int}(h:Atl o ds s n)(k a b c:Int){l:List Int}(hl:aF l):TN o ds s n k a b c l=some (doT (wO o ds s n k a b c l)):=by
 have h7:=h.fld.len;have bb:=h.fld.pos;have hc:=h.fld.clients;have ai:=tG h.fld;have bc:=h.set.len;have hn:=h.count;obtain⟨lo,ld⟩:=pI h.fld;have ls:aF s:=h.set.low h7;have hw:IntKind.wrap .i64 (n+1)=n+1:=aV (by omega) (by omega);have e0:=oE lo ld ls n;rw[atl_iff.2 h]at e0;have e1:=Ov k a b c l;have e2:=Dp lo ld ls n;have e3:=zE h7 h.set;have e4:Vu a 0 (IntKind.wrap .i64 (((ds.length:Nat):Int) -1))=some (cJ ds.length a):=by rw[aV (by omega) (by omega),dG];rfl
 have e5:=λx=>Py (s:=s) (ds:=ds) (show o.length<=1000 by omega) n x;have ad:∀{m:Nat} {x:Int},cJ m x=true->0<=x/\x<(m:Int):=λ{m x} hx=>by have:=isIn_iff.1 hx;omega
 have al:∀{x:List Int},x.length<=1000->aF x:=λ{x} hx=>by unfold aF;omega
 unfold TN UZ;rw[qn,e0,xc,qo,xq,qb,qn,e1,xc,qo];cases hp:cK k a b c l with
 |false=>
  have hd:wO o ds s n k a b c l=none:=by unfold wO;rw[hp];rfl
  rw[hd];rfl
 |true=>
  rw[xq,qb,qn,e2,xc,qn,e3,xc,qn,e4,xc];dsimp only;rw[hw];clear e0 e1 e2 e3;by_cases h1:k=1
  ·subst h1;rw[qo,show((1:Int)==1)=true from rfl,qa,qn,e5,xc,qo];cases ab:cJ o.length a with
   |false=>
    have hm:gV o.length ds.length s 1 a b l=false:=by show bP o.length s a=false;unfold bP;rw[ab];rfl
    rw[iW hm];rfl
   |true=>
    have q1:=ad ab;have e6:=gX h7 h.set q1.1 (show a<7 by omega);rw[qa,qn,e6,xc];cases ae:s.contains a with
    |true=>
     have hm:gV o.length ds.length s 1 a b l=false:=by show bP o.length s a=false;unfold bP;rw[ab,ae];rfl
     rw[iW hm];rfl
    |false=>
     have hm:gV o.length ds.length s 1 a b l=true:=by show bP o.length s a=true;unfold bP;rw[ab,ae];rfl
     have ao:=bZ ae;have e7:=A6 h7 h.set q1.1 (show a<7 by omega) ao;unfold DY at e7;rw[qo,mM,qa,qp,qc q1.1,qa,qn,e7,xc,qo,xq,qb];exact kA hp hm (E:=(o,ds,ins a s)) rfl ⟨lo,ld,(h.set.ins q1.1 q1.2 ao).low h7⟩
  by_cases h2:k=2
  ·subst h2;rw[qo,show((2:Int)==1)=false from rfl,qb,qo,show((2:Int)==2)=true from rfl,qa,qn,e5,xc,qo];cases ab:cJ o.length a with
   |false=>
    have hm:gV o.length ds.length s 2 a b l=false:=by
     show s.contains a=false;cases ae:s.contains a with
     |false=>rfl
     |true=>have hr:=h.set.1 a (xck.1 ae);have:cJ o.length a=true:=isIn_iff.2 (by omega);rw[this]at ab;cases ab
    rw[iW hm];rfl
   |true=>
    have q1:=ad ab;have e6:=gX h7 h.set q1.1 (show a<7 by omega);rw[qa,qn,e6,xc];cases ae:s.contains a with
    |false=>have hm:gV o.length ds.length s 2 a b l=false:=ae;rw[iW hm];rfl
    |true=>have hm:gV o.length ds.length s 2 a b l=true:=ae;have e7:=D6 h7 h.set q1.1 (show a<7 by omega);unfold YS at e7;rw[qo,qa,qp,qc q1.1,qa,qn,e7,xc,qo,xq,qb];exact kA hp hm (E:=(o,ds,wo s a)) rfl ⟨lo,ld,(h.set.wo a).low h7⟩
  by_cases h3:k=3
  ·subst h3;have aa:gV o.length ds.length s 3 a b l=(s.contains a&&bP o.length s b):=rfl;rw[qo,show((3:Int)==1)=false from rfl,qb,qo,show((3:Int)==2)=false from rfl,qb,qo,show((3:Int)==3)=true from rfl,qa,qn,e5,xc,qo];cases ab:cJ o.length a with
   |false=>
    have ae:s.contains a=false:=by
     cases ae:s.contains a with
     |false=>rfl
     |true=>have hr:=h.set.1 a (xck.1 ae);have:cJ o.length a=true:=isIn_iff.2 (by omega);rw[this]at ab;cases ab
    rw[iW (by rw[aa,ae];rfl)];rfl
   |true=>
    have q1:=ad ab;have e6:=gX h7 h.set q1.1 (show a<7 by omega);rw[qa,qn,e5,xc,qo];cases af:cJ o.length b with
    |false=>
     have ah:bP o.length s b=false:=by unfold bP;rw[af];rfl
     rw[iW (by rw[aa,ah,xfs])];rfl
    |true=>
     have q2:=ad af;have e7:=gX h7 h.set q2.1 (show b<7 by omega);rw[qa,qn,e6,xc];cases ae:s.contains a with
     |false=>rw[iW (by rw[aa,ae];rfl)];rfl
     |true=>
      rw[qo,qa,qn,e7,xc];cases aj:s.contains b with
      |true=>
       have ah:bP o.length s b=false:=by unfold bP;rw[af,aj];rfl
       rw[iW (by rw[aa,ah,xfs])];rfl
      |false=>
       have ah:bP o.length s b=true:=by unfold bP;rw[af,aj];rfl
       have ar:=bZ aj;have e8:=zA h7 h.set q1.1 (show a<7 by omega) q2.1 (show b<7 by omega) ar;rw[qo,mM,qa,qn,e8,xc,qo,xq,qb];exact kA hp (by rw[aa,ae,ah];rfl) (E:=(o,ds,ins b (wo s a))) rfl ⟨lo,ld,((h.set.wo a).ins q2.1 q2.2 (jY ar)).low h7⟩
  by_cases h4:k=4
  ·subst h4;have aa:gV o.length ds.length s 4 a b l=cJ o.length a:=rfl;rw[qo,show((4:Int)==1)=false from rfl,qb,qo,show((4:Int)==2)=false from rfl,qb,qo,show((4:Int)==3)=false from rfl,qb,qo,show((4:Int)==4)=true from rfl,qa,qn,e5,xc,qo];cases ab:cJ o.length a with
   |false=>rw[iW (aa.trans ab)];rfl
   |true=>
    have q1:=ad ab;have i1:aB a o.length=true:=bM (by omega) (by omega);have i2:a.toNat<o.length:=by omega
    rw[qa,qp,i1,qa,qp,qc i2,qa,qo,xq,qb];exact kA hp (aa.trans ab) (E:=(o.set a.toNat b,ds,s)) rfl ⟨al (by rw[F0];omega),ld,ls⟩
  by_cases h5:k=5
  ·subst h5;have aa:gV o.length ds.length s 5 a b l=(cJ ds.length a&&cJ o.length b):=rfl;rw[qo,show((5:Int)==1)=false from rfl,qb,qo,show((5:Int)==2)=false from rfl,qb,qo,show((5:Int)==3)=false from rfl,qb,qo,show((5:Int)==4)=false from rfl,qb,qo,show((5:Int)==5)=true from rfl,qa,qo];cases ab:cJ ds.length a with
   |false=>rw[iW (by rw[aa,ab];rfl)];rfl
   |true=>
    have q1:=ad ab;rw[qa,qn,e5,xc,qo];cases af:cJ o.length b with
    |false=>rw[iW (by rw[aa,af,xfs])];rfl
    |true=>
     have q2:=ad af;have i2:a.toNat<ds.length:=by omega
     have bd:=ai _ (aE (d:=[]) i2);have i1:aB a ds.length=true:=bM (by omega) (by omega);have i3:aB b (ds.getD a.toNat []).length=true:=bM (by omega) (by omega);have i4:b.toNat<(ds.getD a.toNat []).length:=by omega
     rw[qa,qp,i1,qa,qp,qc i2,qa,qp,i3,qa,qp,qc i4,qa,qo,xq,qb];exact kA hp (by rw[aa,ab,af];rfl) (E:=(o,ds.set a.toNat ((ds.getD a.toNat []).set b.toNat c),s)) rfl (jR h hl (k:=5) (c:=c) (by rw[aa,ab,af];rfl))
  by_cases h6:k=6
  ·subst h6;have aa:gV o.length ds.length s 6 a b l=(((l.length:Nat):Int)==((ds.length:Nat):Int)):=rfl;rw[qo,show((6:Int)==1)=false from rfl,qb,qo,show((6:Int)==2)=false from rfl,qb,qo,show((6:Int)==3)=false from rfl,qb,qo,show((6:Int)==4)=false from rfl,qb,qo,show((6:Int)==5)=false from rfl,qb,qo,show((6:Int)==6)=true from rfl,qa,qo];cases ab:(((l.length:Nat):Int)==((ds.length:Nat):Int))with
   |false=>rw[iW (aa.trans ab)];rfl
   |true=>
    have av:l.length=ds.length:=by have:=eq_of_beq ab;omega
    have r1:=X5 o a (by omega);rw[qa,qp,qc r1,qa,qn,Cd av hc (λr hr=>by have:=ai r hr;omega) _ rfl rfl,xc,qo,xq,qb];exact kA hp (aa.trans ab) (E:=(o++ [a],List.zipWith (λr x=>r++ [x]) ds l,s)) rfl (jR h hl (k:=6) (c:=c) (aa.trans ab))
  by_cases au:k=7;·subst au;have aa:gV o.length ds.length s 7 a b l=true:=rfl;have r1:=uG ds (by omega);rw[qo,show((7:Int)==1)=false from rfl,qb,qo,show((7:Int)==2)=false from rfl,qb,qo,show((7:Int)==3)=false from rfl,qb,qo,show((7:Int)==4)=false from rfl,qb,qo,show((7:Int)==5)=false from rfl,qb,qo,show((7:Int)==6)=false from rfl,qb,qo,show((7:Int)==7)=true from rfl,qa,qn,oV hl,xc,qp,qc r1,qa,hY];exact kA hp aa (E:=(o,ds++ [l],s)) rfl (jR h hl (k:=7) (c:=c) aa)
  by_cases h8:k=8
  ·subst h8;have aa:gV o.length ds.length s 8 a b l=bP o.length s a:=rfl;rw[qo,show((8:Int)==1)=false from rfl,qb,qo,show((8:Int)==2)=false from rfl,qb,qo,show((8:Int)==3)=false from rfl,qb,qo,show((8:Int)==4)=false from rfl,qb,qo,show((8:Int)==5)=false from rfl,qb,qo,show((8:Int)==6)=false from rfl,qb,qo,show((8:Int)==7)=false from rfl,qb,qo,show((8:Int)==8)=true from rfl,qa,qn,e5,xc,qo];cases ab:cJ o.length a with
   |false=>rw[iW (by rw[aa];unfold bP;rw[ab];rfl)];rfl
   |true=>
    have q1:=ad ab;have e6:=gX h7 h.set q1.1 (show a<7 by omega);rw[qa,qn,e6,xc];cases ae:s.contains a with
    |true=>rw[iW (by rw[aa];unfold bP;rw[ab,ae];rfl)];rfl
    |false=>
     have hm:gV o.length ds.length s 8 a b l=true:=by rw[aa];unfold bP;rw[ab,ae];rfl
     have ak:IntKind.wrap .i64 (a+1)=a+1:=aV (by omega) (by omega);have e7:BT a (a+1) o=some (cO a o):=K4 q1.1 q1.2;rw[qo,mM,qa,ak,qn,e7,xc,qn,UR h q1.1 q1.2 _ rfl rfl,xc,qn,IW h _ rfl rfl,xc,qo,xq,qb];exact kA hp hm (E:=(cO a o,ds.map (cO a),s.map (eX a))) rfl (jR h hl (k:=8) (c:=c) hm)
  by_cases h9:k=9
  ·subst h9;have aa:gV o.length ds.length s 9 a b l=cJ ds.length a:=rfl;rw[qo,show((9:Int)==1)=false from rfl,qb,qo,show((9:Int)==2)=false from rfl,qb,qo,show((9:Int)==3)=false from rfl,qb,qo,show((9:Int)==4)=false from rfl,qb,qo,show((9:Int)==5)=false from rfl,qb,qo,show((9:Int)==6)=false from rfl,qb,qo,show((9:Int)==7)=false from rfl,qb,qo,show((9:Int)==8)=false from rfl,qb,qo,show((9:Int)==9)=true from rfl,qa,qo];cases ab:cJ ds.length a with|false=>rw[iW (aa.trans ab)];rfl|true=>have q1:=ad ab;have ak:IntKind.wrap .i64 (a+1)=a+1:=aV (by omega) (by omega);have e7:aER a (a+1) ds=some (cO a ds):=K4 q1.1 q1.2;rw[qa,ak,qn,e7,xc,qo,xq,qb];exact kA hp (aa.trans ab) (E:=(o,cO a ds,s)) rfl (jR h hl (k:=9) (c:=c) (aa.trans ab))
  by_cases aw:k=10
  ·subst aw;have aa:gV o.length ds.length s 10 a b l=decide ((0:Int)<((s.length:Nat):Int)):=rfl;have e6:=Mo lo ld ls;rw[qo,show((10:Int)==1)=false from rfl,qb,qo,show((10:Int)==2)=false from rfl,qb,qo,show((10:Int)==3)=false from rfl,qb,qo,show((10:Int)==4)=false from rfl,qb,qo,show((10:Int)==5)=false from rfl,qb,qo,show((10:Int)==6)=false from rfl,qb,qo,show((10:Int)==7)=false from rfl,qb,qo,show((10:Int)==8)=false from rfl,qb,qo,show((10:Int)==9)=false from rfl,qb,qo,show((10:Int)==10)=true from rfl,qa,qn,e6,xc];by_cases h0:s=[]
   ·have ay:dT o ds s=false:=by unfold dT;rw[h0];simp
    rw[iW (by rw[aa,h0];rfl),ay];rfl
   ·have hq:=xay.2 h0;have hm:gV o.length ds.length s 10 a b l=true:=by rw[aa];exact qc (by omega)
    rw[T4 h h0,qa,qo,xq,qb];exact kA hp hm (E:=(o,ds,(mV o ds s).2)) rfl (jR h hl (k:=10) (c:=c) hm)
  by_cases az:k=11;·subst az;have aa:gV o.length ds.length s 11 a b l=true:=rfl;rw[qo,show((11:Int)==1)=false from rfl,qb,qo,show((11:Int)==2)=false from rfl,qb,qo,show((11:Int)==3)=false from rfl,qb,qo,show((11:Int)==4)=false from rfl,qb,qo,show((11:Int)==5)=false from rfl,qb,qo,show((11:Int)==6)=false from rfl,qb,qo,show((11:Int)==7)=false from rfl,qb,qo,show((11:Int)==8)=false from rfl,qb,qo,show((11:Int)==9)=false from rfl,qb,qo,show((11:Int)==10)=false from rfl,qb,qo,show((11:Int)==11)=true from rfl,qa,qn,Tm lo ld h.fld,xc,qo,xq,qb];exact kA hp aa (E:=(o,ds,oA o ds)) rfl (jR h hl (k:=11) (c:=c) aa)
  have ba:cK k a b c l=false:=by unfold cK;rw[qh (by omega),qh (by omega),qh h5,qh h6,qh au,qh (by omega)]
  rw[ba]at hp;cases hp
section
variable {o:List Int}{ds:List (List Int)}{s:List Int}{n:Int}
def gdB(c:UInt8):Bool:=uB c&& !(c.toNat==63)
def Gd(s:List UInt8):Prop:=∀x∈s,gdB x=true
theorem Cj(u:Nat):Gd (Lib.decDigits u):=λx hx=>by have:=tK hx;unfold gdB uB;simp only[xi,qe,s6,qf];omega
theorem Qy(x:Int):Gd (Lib.itoa x):=by
 by_cases h:0<=x
 ·obtain⟨u,rfl⟩:∃u:Nat,x=(u:Int):=⟨x.toNat,by omega⟩
  rw[Lib.itoa_nonneg];exact Cj u
 ·obtain⟨u,rfl,hu⟩:∃u:Nat,x= -(u:Int)/\1<=u:=⟨(-x).toNat,by omega,by omega⟩
  rw[Lib.itoa_neg u hu];intro y hy;rcases xaj.1 hy with rfl|hy;·rfl
  ·exact Cj u y hy
theorem Gc{sep:List UInt8}(hs:Gd sep):∀l:List (List UInt8),(∀x∈l,Gd x)->Gd (Lib.join l sep)
 | [],_=>λx hx=>by rw[Lib.join_nil]at hx;cases hx
 |w::r,h=>λx hx=>by
  rw[Lib.join_cons]at hx;unfold Lib.joinTail at hx;rcases xaa.1 hx with hx|hx;·exact h w xz x hx
  ·obtain⟨t,ht,hx⟩:=List.mem_flatten.1 hx;obtain⟨u,hu,rfl⟩:=xak.1 ht;rcases xaa.1 hx with hx|hx;·exact hs x hx
   ·exact h u (xw _ hu) x hx
theorem Sj(l:List Int):Gd (bJ l):=Gc (by unfold Gd;decide) _ λx hx=>by obtain⟨y,_,rfl⟩:=xak.1 hx;exact Cj _
theorem xK(l:List Int):Gd (iY l):=by
 unfold iY;split;·unfold Gd;decide
 ·exact Sj l
def v7(x:Option (List UInt8×Bool))(y:Option (List UInt8)):Prop:=∃rep ok,x=some (rep,ok)/\y=some (if ok then rep else[63])/\(ok=true->Gd rep)
theorem kE{c:Bool}{a a':Tr (List UInt8×Bool)}{b b':Tr (List UInt8)}(h1:v7 a.ev b.ev)(h2:c=false->v7 a'.ev b'.ev):v7 (Tr.t c a a').ev (Tr.t c b b').ev:=by
 cases c with
 |true=>exact h1
 |false=>exact h2 rfl
theorem T7{x:Int}(h: -999999<=x/\x<=999999):Y0 x=some (Lib.itoa x):=by
 unfold Y0 A8 Gp;have e:(decide (-9223372036854775808<=x)&&decide (x<=9223372036854775807))=true:=by simp only[xi,qe];omega
 rw[qi e]
theorem sF{X Y:Option (Int×Bool)}{v:Int×Bool}(hx:X=some v)(hy:Y=some v)(h: -999999<=v.1/\v.1<=999999):
  v7 (Tr.c (Int×Bool) X λr=>.c (List UInt8×Bool) (Fg r.1 r.2) λq=>.l (q.1,q.2)).ev (Tr.c (Int×Bool) Y λr=>.c (List UInt8) (Dx r.1 r.2) λq=>.l q).ev:=by
 have e:Fg v.1 v.2=some (Lib.itoa v.1,v.2):=by unfold Fg HI;rw[qn,T7 h,xc,qq]
 refine⟨Lib.itoa v.1,v.2,?_,?_,λ_=>Qy _⟩;·rw[qn,hx,xc,qn,e,xc,qq]
 ·rw[qn,hy,xc,qn,Ie λ_=>h,xc,qq]
theorem yV{X Y:Option (Bool×List Int)}{v:Bool×List Int}(hx:X=some v)(hy:Y=some v)(h:zO v.2):
  v7 (Tr.c (Bool×List Int) X λr=>.c (List UInt8×Bool) (Tk r.2 r.1) λq=>.l (q.1,q.2)).ev (Tr.c (Bool×List Int) Y λr=>.c (List UInt8) (Tz r.2 r.1) λq=>.l q).ev:=by
 refine⟨iY v.2,v.1,?_,?_,λ_=>xK _⟩;·rw[qn,hx,xc,qn,nK h,xc,qq]
 ·rw[qn,hy,xc,qn,kF h,xc,qq]
theorem W5{X Y:Option (Bool×Bool)}{v:Bool×Bool}(hx:X=some v)(hy:Y=some v):
  v7 (Tr.c (Bool×Bool) X λr=>.c (List UInt8×Bool) (HX r.1 r.2) λq=>.l (q.1,q.2)).ev (Tr.c (Bool×Bool) Y λr=>.c (List UInt8) (YH r.1 r.2) λq=>.l q).ev:=by
 obtain⟨a,b⟩:=v;subst hx hy;cases a<;>cases b<;>exact⟨_,_,rfl,rfl,by unfold Gd;decide⟩
theorem Yn(h:Atl o ds s n)(lo:aF o)(ld:cT ds)(ls:aF s):∃v,QG o ds s n=some v/\KS o ds s n=some v/\ -999999<=v.1/\v.1<=999999:=by
 have e1:=lV lo ld ls n;have e2:=lO lo ld ls n;unfold lA at e1 e2;rw[atl_iff.2 h,Dk]at e1 e2;unfold KS PM QG ES;by_cases h0:0<s.length
 ·rw[qc h0,qa]at e1 e2;obtain⟨p,p1,p2,p3⟩:=vM lo ld h.fld;have e3:=Tx h.fld p1;have e4:=Yk h.fld p1;have hl:=p1.len;have hc:=h.fld.clients;have aa:=oU p1 h.fld ds.length (xp _);rw[<-hl]at aa;have q1:=C5 h.fld h.set;have q2:=lP h.fld (Places.of ls (ris_iff.2 h.set)) h0;have hw:IntKind.wrap .i64 (N5 o s+eO ds s-fQ p p.length)=N5 o s+eO ds s-fQ p p.length:=aV (by omega) (by omega);refine⟨(N5 o s+eO ds s-fQ p p.length,true),?_,?_,by simp only;omega,by simp only;omega⟩;·rw[qn,e2,xc,qo,xq,qb,qn,p3,xc,qn];dsimp only;rw[e4,xc,qq,hw]
  ·rw[qn,e1,xc,qo,xq,qb,qn,p2,xc,qn,e3,xc,qq,hw]
 ·rw[qd h0,qb]at e1 e2;refine⟨(0,false),?_,?_,by simp only;omega,by simp only;omega⟩;·rw[qn,e2,xc,qo,mM,qa,qq]
  ·rw[qn,e1,xc,qo,mM,qa,qq]
theorem Sc(h:Atl o ds s n)(w:List UInt8):v7 (X0 o ds s n w []) (Zl o ds s n w):=by
 obtain⟨lo,ld⟩:=pI h.fld;have ls:=h.set.low h.fld.len;have h7:=h.fld.len;have hc:=h.fld.clients;have aa:=Places.of ls (ris_iff.2 h.set);have ab:dT o ds s=decide (0<s.length):=by unfold dT;rw[fieldB_iff.2 h.fld,ris_iff.2 h.set,Dk,Dk]
 -- total
 have t1: -999999<=(lA o ds s n).1/\(lA o ds s n).1<=999999:=by
  unfold lA;rw[atl_iff.2 h,Dk];have q1:=C5 h.fld h.set;by_cases h0:0<s.length;·have q2:=lP h.fld aa h0;rw[qc h0,qa];simp only;omega
  ·rw[qd h0,qb];simp only;omega
 obtain⟨g,g1,g2,g3⟩:=Yn h lo ld ls;have two:=yR lo ld ls;have iP:=kY lo ld ls;rw[ab]at two iP
 -- ad of a set
 have sv:∃v:Int×Bool,OH o ds s=some v/\VV o ds s=some v/\ -999999<=v.1/\v.1<=999999:=by
  unfold OH VA VV LO;by_cases h0:0<s.length
  ·rw[qc h0]at two iP;have q2:=lP h.fld aa h0;refine⟨(eO ds s,true),?_,?_,by simp only;omega,by simp only;omega⟩;·rw[qn,iP,xc,qo,xq,qb,qn,qZ h.fld aa h0,xc,qq]
   ·rw[qn,two,xc,qo,xq,qb,qn,mF h.fld aa h0,xc,qq]
  ·rw[qd h0]at two iP;refine⟨(0,false),?_,?_,by simp only;omega,by simp only;omega⟩;·rw[qn,iP,xc,qo,mM,qa,qq]
   ·rw[qn,two,xc,qo,mM,qa,qq]
 have rc:∃v:Int×Bool,WA o ds s=some v/\MU o ds s=some v/\ -999999<=v.1/\v.1<=999999:=by
  unfold WA VT MU YM;by_cases h0:0<s.length
  ·rw[qc h0]at two iP;have q2:=Jg h.fld aa h0;refine⟨(Nt ds s,true),?_,?_,by simp only;omega,by simp only;omega⟩;·rw[qn,iP,xc,qo,xq,qb,qn,Q0 h.fld aa h0,xc,qq]
   ·rw[qn,two,xc,qo,xq,qb,qn,a8 h.fld aa h0,xc,qq]
  ·rw[qd h0]at two iP;refine⟨(0,false),?_,?_,by simp only;omega,by simp only;omega⟩;·rw[qn,iP,xc,qo,mM,qa,qq]
   ·rw[qn,two,xc,qo,mM,qa,qq]
 have sb:∃v:Bool×List Int,UU o ds s=some v/\HB o ds s=some v/\zO v.2:=by
  unfold UU HR HB FB;by_cases h0:0<s.length
  ·rw[qc h0]at two iP;have k:aFJ (s,o,ds) ((0:Int),([]:List Int))=some ((List.range ds.length).map λj=>(o9 ds j s:Int)):=
    iG (f:=λv=>(wwk (s,o,ds) v).ev) (n:=ds.length) (mk:=λk (l:List Int)=>((k:Int),l)) (λj=>(o9 ds j s:Int)) (λl=>l)
     (λj l hj hl=>by
      have e:(l.length+List.length [(o9 ds j s:Int)])*8<=140737488355328:=by simp;omega
      simp(disch:=omega)only[EV,wwk,hj,C8 h.fld aa h0 hj,e];rfl) (λl _=>by simp(disch:=omega)only[EV,wwk,xj])
   refine⟨(true,(List.range ds.length).map λj=>(o9 ds j s:Int)),?_,?_,by simpa using hc,λx hx=>?_⟩;·rw[qn,iP,xc,qo,xq,qb,qn,z0 h.fld aa h0,xc,qq]
   ·rw[qn,two,xc,qo,xq,qb,qn,k,xc,qq]
   ·obtain⟨j,_,rfl⟩:=xak.1 hx;have:=I0 (ds:=ds) (j:=j) aa h0;omega
  ·rw[qd h0]at two iP;refine⟨(false,[]),?_,?_,by simp,λx hx=>by cases hx⟩;·rw[qn,iP,xc,qo,mM,qa,qq]
   ·rw[qn,two,xc,qo,mM,qa,qq]
 obtain⟨v1,a1,b1,c1⟩:=sv;obtain⟨v2,a2,b2,c2⟩:=rc;obtain⟨v3,a3,b3,c3⟩:=sb;have sg:Mt o ds=some true:=by rw[fN lo ld,fieldB_iff.2 h.fld]
 have ig:Ge o ds=some true:=by rw[cH lo ld,fieldB_iff.2 h.fld]
 have mt:II o ds=some (T2 ds o.length,true):=by unfold II NA;rw[qn,sg,xc,qo,xq,qb,qn,By h.fld,xc,qq]
 have mi:AX o ds=some (T2 ds o.length,true):=by rw[AT lo ld,fieldB_iff.2 h.fld,qa]
 obtain⟨p,p1,p2,p3⟩:=vM lo ld h.fld;have pf:zO p:=⟨by have:=p1.len;omega,λx hx=>by obtain⟨i,hi,e⟩:=xca.1 hx;have:=p1.val h.fld (show i<ds.length by have:=p1.len;omega);rw[xe,xh hi,wJ,e]at this;omega⟩
 have ps:OG o ds=some (true,p):=by unfold OG UD;rw[qn,sg,xc,qo,xq,qb,qn,p2,xc,qq]
 have gr:∃l,Lb o ds=some (true,l)/\Js o ds=some (l,true)/\zO l:=by
  by_cases h0:0<ds.length;·obtain⟨q,q1,q2,q3⟩:=wX h.fld h0 ig;obtain⟨i1,i2⟩:=Cm h.fld q1;exact⟨_,q3,wU h.fld sg q1 q2 h0,i2,λx hx=>by have:=i1 x hx;omega⟩
  ·have hd:((((ds.length:Nat):Int))==0)=true:=beq_iff_eq.2 (by omega);have hp:=(vL h.fld.pos).1;refine⟨[(eC o:Int)],?_,?_,by simp,λx hx=>by rw[xx.1 hx];omega⟩;·unfold Lb CL;rw[qn,ig,xc,qo,xq,qb,qo,hd,qa,qn,Mm h.fld,xc,qq]
   ·unfold Js Yx;rw[qn,sg,xc,qo,xq,qb,qo,hd,qa,qn,Mg h.fld,xc,qq]
 obtain⟨gl,r1,r2,r3⟩:=gr;have gt:v7 (Tr.c (Bool×List Int) (Lb o ds) λr=>.c (List UInt8×Bool) (Tk r.2 r.1) λq=>.l (q.1,q.2)).ev (Tr.c (List Int×Bool) (Js o ds) λr=>.c (List UInt8) (Tz r.1 r.2) λq=>.l q).ev:=by
  refine⟨iY gl,true,?_,?_,λ_=>xK _⟩;·rw[qn,r1,xc,qn,nK r3,xc,qq]
  ·rw[qn,r2,xc,qn,kF r3,xc,qq]
 have ft:v7 (Tr.c (List UInt8×Bool) (Yz o ds) λq=>.l (q.1,q.2)).ev (Tr.c (List UInt8) (Zv o ds) λq=>.l q).ev:=by
  refine⟨uX o ds,true,?_,?_,λ_=>Gc (by unfold Gd;decide) _ λx hx=>by obtain⟨y,_,rfl⟩:=xak.1 hx;exact Sj y⟩;·rw[qn,wL lo ld h.fld,xc,qq]
  ·rw[qn,Lc h.fld,xc,qq];rfl
 unfold X0 Vc Zl FN;rw[qo,show(((([]:List Int).length:Nat):Int)==1)=false from rfl,qb,qo,show decide ((0:Int)<((([]:List Int).length:Nat):Int))=false from rfl,qb];exact kE (sF (lO lo ld ls n) (lV lo ld ls n) t1) λ_=>
  kE (sF g1 g2 g3) λ_=>kE (sF a1 b1 c1) λ_=>kE (sF a2 b2 c2) λ_=>kE (yV a3 b3 c3) λ_=>
  kE (W5 mi mt) λ_=>kE ft λ_=>kE (yV p3 ps pf) λ_=>kE gt λ_=>
  kE (W5 (R1 lo ld ls) (P6 lo ld ls)) λ_=>kE (yV (b7 lo ld h.fld) (yP lo ld h.fld) (Qq h7)) λ_=>⟨[],false,rfl,rfl,by intro h;cases h⟩
end
section
variable {o:List Int}{ds:List (List Int)}{s:List Int}{n:Int}
abbrev Vd:Type:=List Int×List (List Int)×List Int×Int×List UInt8×Bool
abbrev DC:Type:=List Int×List (List Int)×List Int×Int×List UInt8
abbrev aFV:Type:=Int×List UInt8×Bool×List Int×List (List Int)×List Int
def pm(r:aFV):Vd:=(r.2.2.2.1,r.2.2.2.2.1,r.2.2.2.2.2,r.1,r.2.1,r.2.2.1)
noncomputable def QB(o:List Int)(ds:List (List Int))(s:List Int)(n k:Int)(l:List Int):Option Vd:=(Sy n k l o ds s).map pm
noncomputable def imR(o:List Int)(ds:List (List Int))(s:List Int)(n:Int)(line:List UInt8):Option Vd:=(Wu n line o ds s).map pm
def nW(st:List Int×List (List Int)×List Int×Int)(x:Option Vd)(y:Option DC):Prop:=∃o ds s n rep ok,Atl o ds s n/\x=some (o,ds,s,n,rep,ok)/\y=some (o,ds,s,n,if ok then rep else[63])/\(if ok then Gd rep else(o,ds,s,n)=st)
theorem nL{st:List Int×List (List Int)×List Int×Int}{c:Bool}{a a':Tr aFV}{b b':Tr DC}(h1:nW st (a.ev.map pm) b.ev)(h2:nW st (a'.ev.map pm) b'.ev):nW st ((Tr.t c a a').ev.map pm) (Tr.t c b b').ev:=by
 cases c with
 |true=>exact h1
 |false=>exact h2
theorem Fu(h7:o.length<=7)(h:ris o.length s):zO s:=⟨by have:=h.len;omega,λx hx=>by have:=h.1 x hx;omega⟩
theorem kW{st:List Int×List (List Int)×List Int×Int}(h:Atl o ds s n){x:Int}(hx: -999999<=x/\x<=999999):nW st ((Tr.c (List UInt8) (Y0 x) λq=>.l (n,q,true,o,ds,s)).ev.map pm) (Tr.c (List UInt8) (rT 1000000 x) λq=>.l (o,ds,s,n,q)).ev:=
 ⟨o,ds,s,n,Lib.itoa x,true,h,by rw[qn,T7 hx,xc,qq];rfl,by rw[qn,lR hx,xc,qq];rfl,Qy x⟩
theorem xM{st:List Int×List (List Int)×List Int×Int}(h:Atl o ds s n):nW st ((Tr.l (n,iY s,true,o,ds,s)).ev.map pm) (Tr.c (List UInt8) (Lk s) λq=>.l (o,ds,s,n,q)).ev:=
 ⟨o,ds,s,n,iY s,true,h,rfl,by rw[qn,qM (Fu h.fld.len h.set),xc,qq];rfl,xK s⟩
theorem jI(h:Atl o ds s n){k a b c m:Int}{li:Bool}{l L:List Int}(hL:aF L)(hb: -999999<=b/\b<=999999)(hc: -999999<=c/\c<=999999)(hn:wP k=some (m,li,true))(aa:pZ m li l=true)(ad:KJ m l=(m,a,b,c))(ab:l.drop m.toNat=L):
  nW (o,ds,s,n) (QB o ds s n k l) (zS o ds s n k a b c L):=by
 have ae:0<=m:=by rcases Q2 k _ hn with e|e|e|e<;>simp only at e<;>omega
 have af:m<=((l.length:Nat):Int):=by unfold pZ at aa;rw[xi,qe]at aa;exact aa.1
 have e1:QB o ds s n k l=((xT n k l o ds s (m,a,b,c)).ev).map pm:=by unfold QB Sy Kn;rw[hn,xc];dsimp only;rw[aa,qa,ad]
 have e2:=Vv h k a b c hL;have e3:=IC h k a b c hL;rw[e1];unfold xT zS NC;rw[qp,qc ae,qc af,Wa,qa,pM,ab,qn,e2,xc,qn,e3,xc,qo,qo];cases hd:wO o ds s n k a b c L with
 |none=>exact⟨o,ds,s,n,[],false,h,rfl,rfl,rfl⟩
 |some y=>
  have hy:=Sd hd;have h7:=hy.fld.len;have ah:=hy.fld.clients;have el:=vZ (Fu hy.fld.len hy.set);rw[show(!(doT (some y)).2.1)=false from rfl,qb,qb,qn,show Uk (doT (some y)).2.2.2.2=some (iY y.2.2.2)from el,xc];have hO: -999999<=((y.2.1.length:Nat):Int)/\((y.2.1.length:Nat):Int)<=999999:=by omega
  have hD: -999999<=((y.2.2.1.length:Nat):Int)/\((y.2.2.1.length:Nat):Int)<=999999:=by omega
  exact nL (kW hy hb) (nL (kW hy hc) (nL (nL (kW hy hO) (nL (nL (kW hy hD) (xM hy)) (nL (kW hy hD) (xM hy)))) (nL (kW hy hO) (nL (nL (kW hy hD) (xM hy)) (nL (kW hy hD) (xM hy))))))
theorem dU{k m:Int}{li:Bool}{l:List Int}(hn:wP k=some (m,li,true))(aa:pZ m li l=false):QB o ds s n k l=some (o,ds,s,n,[],false):=by unfold QB Sy Kn;rw[hn,xc];dsimp only;rw[aa,qb];rfl
theorem fH(h:Atl o ds s n):nW (o,ds,s,n) (some (o,ds,s,n,[],false)) (some (o,ds,s,n,[63])):=⟨o,ds,s,n,[],false,h,rfl,rfl,rfl⟩
def bS:List (List UInt8)->Option (List Int)
 | []=>some []
 |w::r=>if(cX w).2 then(bS r).map λl=>(cX w).1::l else none
theorem wD:∀{ws:List (List UInt8)} {l:List Int},bS ws=some l->l.length=ws.length/\∀x∈l,-999999<=x/\x<=999999
 | [],l,h=>by cases h;exact⟨rfl,λx hx=>by cases hx⟩
 |w::r,l,h=>by
  unfold bS at h;rcases gD w with⟨x,hx,_,e⟩|⟨e,_⟩
  ·rw[e]at h;obtain⟨l',h1,h2⟩:=xba.1 (show(bS r).map (λl=>x::l)=some l from h);obtain⟨i1,i2⟩:=wD h1;subst h2;refine⟨by simp[i1],λy hy=>?_⟩;rcases xaj.1 hy with rfl|hy;·exact hx
   ·exact i2 y hy
  ·rw[e]at h;cases h
theorem l6{f:Int×List Int->Option ((Int×List Int)⊕(List Int⊕Unit))}{ws:List (List UInt8)}(off:Int)
  (hs:∀(i:Nat) (a:List Int),i<ws.length->a.length<=i->f ((i:Int)+off,a)=some (if(cX (ws.getD i [])).2 then .inl (((i+1:Nat):Int)+off,a++ [(cX (ws.getD i [])).1])else .inr (.inr ()))) (he:∀a,f (((ws.length:Nat):Int)+off,a)=some (.inr (.inl a))):
  aC f (((0:Nat):Int)+off,[])=some (match bS ws with|some l=>.inl l|none=>.inr ()):=by
 obtain⟨r,k1,k2⟩:=aJ (f:=f) (n:=ws.length) (λi (a:List Int)=>((i:Int)+off,a)) (λi a=>a.length<=i/\bS ws=(bS (ws.drop i)).map λl=>a++l) (λr=>r=match bS ws with|some l=>.inl l|none=>.inr ()) (s0:=[])
  ⟨xp _,by rw[AP];cases bS ws<;>rfl⟩
  (λi a hi ⟨h1,h2⟩=>by
   have e:=hs i a hi h1;have hd:ws.drop i=ws.getD i []::ws.drop (i+1):=by rw[Im hi,xe,xh hi];rfl
   rw[hd,bS]at h2;cases hp:(cX (ws.getD i [])).2 with
   |true=>
    left;rw[hp]at e h2;refine⟨_,e,by rw[xm,ZC];omega,?_⟩;rw[h2];cases bS (ws.drop (i+1))with
    |none=>rfl
    |some l=>simp
   |false=>right;rw[hp]at e h2;exact⟨_,e,by rw[h2];rfl⟩)
  (λa ⟨h1,h2⟩=>⟨_,he a,by rw[h2,BA];simp[bS]⟩)
 rw[<-k2];exact k1
theorem Hd{c:UInt8}{w:List UInt8}:∀{s:List UInt8},rZ c s=[w]->w=s
 | [],h=>by unfold rZ at h;injection h with h _;exact h.symm
 |x::s,h=>by
  unfold rZ at h;obtain⟨a,t,e⟩:=iF c s;split at h;·rw[e]at h;cases h
  ·rw[e]at h;injection h with h1 h2;rw[h2]at e;have:=Hd e;rw[<-h1,this]
theorem vQ(c:UInt8):∀(s:List UInt8),∀w∈rZ c s,w.length<=s.length
 | [],w,h=>by unfold rZ at h;rw[xx.1 h];exact xp _
 |x::s,w,h=>by
  have ih:=vQ c s;unfold rZ at h;split at h
  ·rcases xaj.1 h with rfl|h;·simp
   ·have:=ih w h;rw[xl];omega
  ·obtain⟨a,t,e⟩:=iF c s;rw[e]at h ih;rcases xaj.1 h with rfl|h;·have:=ih a xz;rw[xl,xl];omega
   ·have:=ih w (xw _ h);rw[xl];omega
noncomputable def rP(o:List Int)(ds:List (List Int))(s:List Int)(n:Int)(w:List UInt8)(l:List Int):Option Vd:=(Ni w).bind λk=>bif decide (0<k)then QB o ds s n k l else(X0 o ds s n w l).map λr=>(o,ds,s,n,r.1,r.2)
noncomputable def wS(o:List Int)(ds:List (List Int))(s:List Int)(n:Int)(w:List UInt8):List Int->Option DC
 | []=>Ax o ds s n w
 |a::r=>bif w==[115,105,116,101]then zS o ds s n 6 a 0 0 r else bif w==[99,108,105,101,110,116]then zS o ds s n 7 0 0 0 (a::r)else match r with
  | []=>Y8 o ds s n w a
  |_=>Nr o ds s n w (a::r)
theorem xO{w:List UInt8}(w1:(w==[115,105,116,101])=false)(w2:(w==[99,108,105,101,110,116])=false)(a:Int):wS o ds s n w [a]=Y8 o ds s n w a:=by show cond _ _ (cond _ _ _)=_;rw[w1,w2];rfl
theorem oP{w:List UInt8}(w1:(w==[115,105,116,101])=false)(w2:(w==[99,108,105,101,110,116])=false)(a b:Int)(r:List Int):wS o ds s n w (a::b::r)=Nr o ds s n w (a::b::r):=by show cond _ _ (cond _ _ _)=_;rw[w1,w2];rfl
theorem Rh(w:List UInt8)(a:Int)(r:List Int):wS o ds s n w (a::r)=bif w==[115,105,116,101]then zS o ds s n 6 a 0 0 r else bif w==[99,108,105,101,110,116]then zS o ds s n 7 0 0 0 (a::r)else match r with
  | []=>Y8 o ds s n w a
  |_=>Nr o ds s n w (a::r):=rfl
theorem oJ(x:Option DC):(x.bind λr=>some (r.1,r.2.1,r.2.2.1,r.2.2.2.1,r.2.2.2.2))=x:=by cases x<;>rfl
theorem M6{w:List UInt8}(h1:(w==[108,101,110,103,116,104])=false)(h2:(w==[115,119,97,112])=false)(h3:(w==[99,111,115,116])=false)(l:List Int):Nr o ds s n w l=some (o,ds,s,n,[63]):=by unfold Nr To;rw[h1,h2,h3];cases(((l.length:Nat):Int)==3)<;>cases(((l.length:Nat):Int)==2)<;>rfl
theorem zI{m:Int}{li:Bool}{l:List Int}(h:(l.length:Int)<m):pZ m li l=false:=by unfold pZ;rw[qd (by omega),xgi]
theorem U5{m:Int}{l:List Int}(h:m<(l.length:Int)):pZ m false l=false:=by unfold pZ;rw[qd (show¬(l.length:Int)<=m by omega),YA,xfs]
theorem Gk(h:Atl o ds s n){w:List UInt8}{k:Int}(hk:Ni w=some k)(hp:0<k)(hn:wP k=some (1,false,true))(h0:Ax o ds s n w=some (o,ds,s,n,[63]))
  (h1:∀a,Y8 o ds s n w a=(zS o ds s n k a 0 0 []).bind λr=>some (r.1,r.2.1,r.2.2.1,r.2.2.2.1,r.2.2.2.2)) (w1:(w==[115,105,116,101])=false) (w2:(w==[99,108,105,101,110,116])=false)
  (w3:(w==[108,101,110,103,116,104])=false) (w4:(w==[115,119,97,112])=false) (w5:(w==[99,111,115,116])=false):∀l:List Int,nW (o,ds,s,n) (rP o ds s n w l) (wS o ds s n w l)
 | []=>by unfold rP wS;rw[hk,xc,qc hp,qa,dU hn (zI (by simp)),h0];exact fH h
 | [a]=>by unfold rP;rw[xO w1 w2 a,hk,xc,qc hp,qa];rw[h1 a,oJ];exact jI h (show aF [] by unfold aF;simp) (by omega) (by omega) hn rfl rfl rfl
 |a::b::r=>by unfold rP;rw[oP w1 w2 a b r,hk,xc,qc hp,qa,dU hn (U5 (by simp only[xl];omega))];rw[M6 w3 w4 w5];exact fH h
theorem Of(h:Atl o ds s n){w:List UInt8}{k:Int}(hk:Ni w=some k)(hp:0<k)(hn:wP k=some (0,false,true))(h0:Ax o ds s n w=(zS o ds s n k 0 0 0 []).bind λr=>some (r.1,r.2.1,r.2.2.1,r.2.2.2.1,r.2.2.2.2))
  (h1:∀a,Y8 o ds s n w a=some (o,ds,s,n,[63])) (w1:(w==[115,105,116,101])=false) (w2:(w==[99,108,105,101,110,116])=false)
  (w3:(w==[108,101,110,103,116,104])=false) (w4:(w==[115,119,97,112])=false) (w5:(w==[99,111,115,116])=false):∀l:List Int,nW (o,ds,s,n) (rP o ds s n w l) (wS o ds s n w l)
 | []=>by unfold rP wS;rw[hk,xc,qc hp,qa,h0,oJ];exact jI h (show aF [] by unfold aF;simp) (by omega) (by omega) hn rfl rfl rfl
 | [a]=>by unfold rP;rw[xO w1 w2 a,hk,xc,qc hp,qa,dU hn (U5 (by simp))];rw[h1 a];exact fH h
 |a::b::r=>by unfold rP;rw[oP w1 w2 a b r,hk,xc,qc hp,qa,dU hn (U5 (by simp only[xl];omega))];rw[M6 w3 w4 w5];exact fH h
theorem Vg{l:List Int}{i:Nat}(h:l.length≠i):(((l.length:Nat):Int)==(i:Int))=false:=beq_eq_false_iff_ne.2 (by omega)
theorem DZ(h:Atl o ds s n){w:List UInt8}{k:Int}(hk:Ni w=some k)(hp:0<k)(hn:wP k=some (2,false,true))(h0:Ax o ds s n w=some (o,ds,s,n,[63]))
  (h1:∀a,Y8 o ds s n w a=some (o,ds,s,n,[63])) (h2:∀a b,Nr o ds s n w [a,b]=(zS o ds s n k a b 0 []).bind λr=>some (r.1,r.2.1,r.2.2.1,r.2.2.2.1,r.2.2.2.2))
  (w1:(w==[115,105,116,101])=false) (w2:(w==[99,108,105,101,110,116])=false) (w3:(w==[108,101,110,103,116,104])=false):∀l:List Int,(∀x∈l,-999999<=x/\x<=999999)->nW (o,ds,s,n) (rP o ds s n w l) (wS o ds s n w l)
 | [],_=>by unfold rP wS;rw[hk,xc,qc hp,qa,dU hn (zI (by simp)),h0];exact fH h
 | [a],_=>by unfold rP;rw[xO w1 w2 a,hk,xc,qc hp,qa,dU hn (zI (by simp))];rw[h1 a];exact fH h
 | [a,b],hx=>by unfold rP;rw[oP w1 w2 a b [],hk,xc,qc hp,qa];rw[h2 a b,oJ];exact jI h (show aF [] by unfold aF;simp) (hx b (by simp)) (by omega) hn rfl rfl rfl
 |a::b::c::r,_=>by
  unfold rP;rw[oP w1 w2 a b (c::r),hk,xc,qc hp,qa,dU hn (U5 (by simp only[xl];omega))];have e:(((List.length (a::b::c::r):Nat):Int)==2)=false:=Vg (i:=2) (by simp);have em:Nr o ds s n w (a::b::c::r)=some (o,ds,s,n,[63]):=by unfold Nr To;rw[w3,e];cases(((List.length (a::b::c::r):Nat):Int)==3)<;>rfl
  rw[em];exact fH h
theorem Tv(w:List UInt8){a b:Int}{r:List Int}:X0 o ds s n w (a::b::r)=some ([],false):=by unfold X0 Vc;have e:(((List.length (a::b::r):Nat):Int)==1)=false:=Vg (i:=1) (by simp);rw[qo,e,qb,qo,qc (show(0:Int)<((List.length (a::b::r):Nat):Int) by simp only[xl];omega),qa,qq]
theorem AN(h:Atl o ds s n){x:Option (List UInt8×Bool)}{y:Option (List UInt8)}(ht:v7 x y):nW (o,ds,s,n) (x.map λr=>(o,ds,s,n,r.1,r.2)) (y.bind λr=>some (o,ds,s,n,r)):=by
 obtain⟨rep,ok,rfl,rfl,hg⟩:=ht;exact⟨o,ds,s,n,rep,ok,h,rfl,rfl,by
  cases ok with
  |true=>exact hg rfl
  |false=>rfl⟩
theorem j9(h:Atl o ds s n)(l:List Int)(b:Bool):nW (o,ds,s,n) (some (o,ds,s,n,iY l,b)) (some (o,ds,s,n,if b then iY l else[63])):=⟨o,ds,s,n,iY l,b,h,rfl,rfl,by
  cases b with
  |true=>exact xK l
  |false=>rfl⟩
abbrev edW:List (List UInt8):=[[111,112,101,110],[99,108,111,115,101],[115,119,97,112],[99,111,115,116],[108,101,110,103,116,104],[115,105,116,101],[99,108,105,101,110,116],[100,114,111,112,115,105,116,101],[100,114,111,112,99,108,105,101,110,116],[105,109,112,114,111,118,101],[98,101,115,116]]
theorem aBC(h:Atl o ds s n){w:List UInt8}{k:Int}(hk:Ni w=some k)(hp:¬0<k)(hw:∀x∈edW,(w==x)=false):
  ∀l:List Int,nW (o,ds,s,n) (rP o ds s n w l) (wS o ds s n w l)
 | []=>by
  have e:Ax o ds s n w=(Zl o ds s n w).bind λr=>some (o,ds,s,n,r):=by unfold Ax VQ;rw[qo,hw _ (by simp),qb,qo,hw _ (by simp),qb,qo,hw _ (by simp),qb,qn];rfl
  unfold rP wS;rw[hk,xc,qd hp,qb,e];exact AN h (Sc h w)
 | [a]=>by
  obtain⟨lo,ld⟩:=pI h.fld;unfold rP;rw[xO (hw _ (by simp)) (hw _ (by simp)) a,hk,xc,qd hp,qb];unfold Y8 GK X0 Vc;have g1:aB (0:Int) (List.length [a])=true:=rfl;have g2:List.getD [a] (Int.toNat 0) 0=a:=rfl;have u1:(w==[111,112,101,110])=false:=hw _ (by simp);have u2:(w==[99,108,111,115,101])=false:=hw _ (by simp);have u3:(w==[100,114,111,112,115,105,116,101])=false:=hw _ (by simp);have u4:(w==[100,114,111,112,99,108,105,101,110,116])=false:=hw _ (by simp);rw[qo,show((((([a]:List Int)).length:Nat):Int)==1)=true from rfl,qa,qo (w==[111,112,101,110]),u1,qb,qo (w==[99,108,111,115,101]),u2,qb,qo (w==[100,114,111,112,115,105,116,101]),u3,qb,qo (w==[100,114,111,112,99,108,105,101,110,116]),u4,qb];rw[qo (w==[109,101,100,105,97,110]),qo (w==[109,101,100,105,97,110])];cases(w==[109,101,100,105,97,110])with
  |true=>
   obtain⟨l,b,e1,e2,e3⟩:=R6 lo ld h.fld a;have hf:zO l:=⟨e3.1,λx hx=>by have:=e3.2 x hx;have:=h.fld.len;omega⟩
   rw[qa,qa,qp,g1,qa,qn,g2,e1,xc,qn,nK hf,xc,qq,qn,e2,xc,qn,kF hf,xc,qq];exact j9 h _ _
  |false=>
   rw[qb,qb,qo (w==[99,101,110,116,114,101,115]),qo (w==[99,101,110,116,114,101,115])];cases(w==[99,101,110,116,114,101,115])with
   |true=>
    obtain⟨l,b,e1,e2,e3⟩:=J3 lo ld h.fld a;have hf:zO l:=⟨e3.1,λx hx=>by have:=e3.2 x hx;have:=h.fld.len;omega⟩
    rw[qa,qa,qp,g1,qa,qn,g2,e1,xc,qn,nK hf,xc,qq,qn,e2,xc,qn,kF hf,xc,qq];exact j9 h _ _
   |false=>
    rw[qb,qb,qo (w==[102,97,114]),qo (w==[102,97,114])];cases(w==[102,97,114])with
    |true=>
     have e0:∃l b,FA o ds a=some (l,b)/\FO o ds a=some (l,b)/\zO l:=by
      unfold FA QV aHm GP FO PR;by_cases ha:0<=a
      ·obtain⟨m1,m2⟩:=At (r:=a) h.fld;have hc:=h.fld.clients;refine⟨yB ds o.length a,true,?_,?_,m2.1,λx hx=>by have:=m2.2 x hx;omega⟩;·rw[qn,qn,cH lo ld,fieldB_iff.2 h.fld,xc,qo,qa,qq,qc ha,xc,qo,xq,qb,qn,Et h.fld,xc,qq]
       ·rw[qn,fN lo ld,fieldB_iff.2 h.fld,xc,qo,xq,qb,qo,qd (by omega),qb,qn,m1,xc,qq]
      ·refine⟨[],false,?_,?_,by simp,λx hx=>by cases hx⟩;·rw[qn,qn,cH lo ld,fieldB_iff.2 h.fld,xc,qo,qa,qq,qd ha,xc,qo,mM,qa,qq]
       ·rw[qn,fN lo ld,fieldB_iff.2 h.fld,xc,qo,xq,qb,qo,qc (by omega),qa,qq]
     obtain⟨l,b,e1,e2,hf⟩:=e0;rw[qa,qa,qp,g1,qa,qn,g2,e1,xc,qn,nK hf,xc,qq,qn,e2,xc,qn,kF hf,xc,qq];exact j9 h _ _
    |false=>exact fH h
 |a::b::r=>by unfold rP;rw[oP (hw _ (by simp)) (hw _ (by simp)) a b r,hk,xc,qd hp,qb,Tv];rw[M6 (hw _ (by simp)) (hw _ (by simp)) (hw _ (by simp))];exact fH h
theorem Sb(h:Atl o ds s n)(l:List Int)(hx:∀x∈l,-999999<=x/\x<=999999):nW (o,ds,s,n) (rP o ds s n [108,101,110,103,116,104] l) (wS o ds s n [108,101,110,103,116,104] l):=by
 have hk:Ni [108,101,110,103,116,104]=some 5:=by kernel_rfl
 have hn:wP 5=some (3,false,true):=by kernel_rfl
 have hp:decide ((0:Int)<5)=true:=rfl
 match l,hx with
 | [],_=>
  have e:wS o ds s n [108,101,110,103,116,104] []=some (o,ds,s,n,[63]):=by kernel_rfl
  unfold rP;rw[e,hk,xc,hp,qa,dU hn (zI (by simp))];exact fH h
 | [a],_=>
  have e:wS o ds s n [108,101,110,103,116,104] [a]=some (o,ds,s,n,[63]):=by kernel_rfl
  unfold rP;rw[e,hk,xc,hp,qa,dU hn (zI (by simp))];exact fH h
 | [a,b],_=>
  have e:wS o ds s n [108,101,110,103,116,104] [a,b]=some (o,ds,s,n,[63]):=by kernel_rfl
  unfold rP;rw[e,hk,xc,hp,qa,dU hn (zI (by simp))];exact fH h
 | [a,b,c],hx=>have e:wS o ds s n [108,101,110,103,116,104] [a,b,c]=(zS o ds s n 5 a b c []).bind λr=>some (r.1,r.2.1,r.2.2.1,r.2.2.2.1,r.2.2.2.2):=rfl;rw[e,oJ];unfold rP;rw[hk,xc,hp,qa];exact jI h (show aF [] by unfold aF;simp) (hx b (by simp)) (hx c (by simp)) hn rfl rfl rfl
 |a::b::c::d::r,_=>
  have e3:(((List.length (a::b::c::d::r):Nat):Int)==3)=false:=Vg (i:=3) (by simp);have e2:(((List.length (a::b::c::d::r):Nat):Int)==2)=false:=Vg (i:=2) (by simp);have em:Nr o ds s n [108,101,110,103,116,104] (a::b::c::d::r)=some (o,ds,s,n,[63]):=by unfold Nr To;rw[e3,e2];rfl
  have e:wS o ds s n [108,101,110,103,116,104] (a::b::c::d::r)=Nr o ds s n [108,101,110,103,116,104] (a::b::c::d::r):=rfl;rw[e,em];unfold rP;rw[hk,xc,hp,qa,dU hn (U5 (by simp only[xl];omega))];exact fH h
theorem MZ(h:Atl o ds s n)(l:List Int)(hl:aF l):nW (o,ds,s,n) (rP o ds s n [115,105,116,101] l) (wS o ds s n [115,105,116,101] l):=by
 have hk:Ni [115,105,116,101]=some 6:=by kernel_rfl
 have hn:wP 6=some (1,true,true):=by kernel_rfl
 have hp:decide ((0:Int)<6)=true:=rfl;cases l with
 |nil=>
  have e:wS o ds s n [115,105,116,101] []=some (o,ds,s,n,[63]):=by kernel_rfl
  unfold rP;rw[e,hk,xc,hp,qa,dU hn (zI (by simp))];exact fH h
 |cons a r=>have e:wS o ds s n [115,105,116,101] (a::r)=zS o ds s n 6 a 0 0 r:=rfl;rw[e];unfold rP;rw[hk,xc,hp,qa];refine jI h (L:=r) (by unfold aF at hl⊢;rw[xl]at hl;omega) (by omega) (by omega) hn ?_ rfl rfl;unfold pZ;rw[qc (show(1:Int)<=((List.length (a::r):Nat):Int) by rw[xl];omega)];rfl
theorem DL(h:Atl o ds s n)(w:List UInt8){l:List Int}(hl:aF l)(hx:∀x∈l,-999999<=x/\x<=999999):nW (o,ds,s,n) (rP o ds s n w l) (wS o ds s n w l):=by
 by_cases c1:w=[111,112,101,110]
 ·subst c1;exact Gk h (k:=1) (by kernel_rfl) (by decide) (by kernel_rfl) (by kernel_rfl) (λ_=>rfl) rfl rfl rfl rfl rfl l
 by_cases c2:w=[99,108,111,115,101]
 ·subst c2;exact Gk h (k:=2) (by kernel_rfl) (by decide) (by kernel_rfl) (by kernel_rfl) (λ_=>rfl) rfl rfl rfl rfl rfl l
 by_cases c8:w=[100,114,111,112,115,105,116,101]
 ·subst c8;exact Gk h (k:=8) (by kernel_rfl) (by decide) (by kernel_rfl) (by kernel_rfl) (λ_=>rfl) rfl rfl rfl rfl rfl l
 by_cases c9:w=[100,114,111,112,99,108,105,101,110,116]
 ·subst c9;exact Gk h (k:=9) (by kernel_rfl) (by decide) (by kernel_rfl) (by kernel_rfl) (λ_=>rfl) rfl rfl rfl rfl rfl l
 by_cases ab:w=[105,109,112,114,111,118,101]
 ·subst ab;exact Of h (k:=10) (by kernel_rfl) (by decide) (by kernel_rfl) rfl (λ_=>rfl) rfl rfl rfl rfl rfl l
 by_cases ad:w=[98,101,115,116]
 ·subst ad;exact Of h (k:=11) (by kernel_rfl) (by decide) (by kernel_rfl) rfl (λ_=>rfl) rfl rfl rfl rfl rfl l
 by_cases c3:w=[115,119,97,112]
 ·subst c3;exact DZ h (k:=3) (by kernel_rfl) (by decide) (by kernel_rfl) (by kernel_rfl) (λ_=>rfl) (λ_ _=>rfl) rfl rfl rfl l hx
 by_cases c4:w=[99,111,115,116]
 ·subst c4;exact DZ h (k:=4) (by kernel_rfl) (by decide) (by kernel_rfl) (by kernel_rfl) (λ_=>rfl) (λ_ _=>rfl) rfl rfl rfl l hx
 by_cases c5:w=[108,101,110,103,116,104]
 ·subst c5;exact Sb h l hx
 by_cases c6:w=[115,105,116,101]
 ·subst c6;exact MZ h l hl
 by_cases c7:w=[99,108,105,101,110,116]
 ·subst c7;have hk:Ni [99,108,105,101,110,116]=some 7:=by kernel_rfl
  have hn:wP 7=some (0,true,true):=by kernel_rfl
  have hp:decide ((0:Int)<7)=true:=rfl;have e:wS o ds s n [99,108,105,101,110,116] l=(zS o ds s n 7 0 0 0 l).bind λr=>some (r.1,r.2.1,r.2.2.1,r.2.2.2.1,r.2.2.2.2):=by
   cases l with
   |nil=>rfl
   |cons a r=>rw[oJ];rfl
  rw[e,oJ];unfold rP;rw[hk,xc,hp,qa];refine jI h (L:=l) hl (by omega) (by omega) hn ?_ rfl rfl;unfold pZ;rw[qc (show(0:Int)<=((List.length l:Nat):Int) by omega)];rfl
 -- no edit
 have hw:∀x∈edW,(w==x)=false:=λx hx=>by
  simp only[xaj,Rr,qm]at hx;refine beq_eq_false_iff_ne.2 λe=>?_;subst e;rcases hx with e|e|e|e|e|e|e|e|e|e|e;·exact c1 e
  ·exact c2 e
  ·exact c3 e
  ·exact c4 e
  ·exact c5 e
  ·exact c6 e
  ·exact c7 e
  ·exact c8 e
  ·exact c9 e
  ·exact ab e
  ·exact ad e
 have hk:∃k,Ni w=some k/\¬0<k:=by
  have key:=λ(ws:List (List UInt8)) (hlen:ws.length<=1000)=>fM (f:=λv=>(YU (ws,w,((ws.length:Nat):Int)) v).ev) (l:=ws) [] (λx=>w==x) (mk:=λi=>(i:Int)) (yes:=λi=>(.inr (i:Int):Unit⊕Int)) (no:=.inl ())
   (λi hi=>by
    cases hq:w==ws.getD i []with
    |true=>simp(disch:=omega)only[EV,YU,hi,hq]
    |false=>simp(disch:=omega)only[EV,YU,hi,hq];rfl)
   (by simp(disch:=omega)only[EV,YU,xj])
  have k1:MS ([]::edW,w,(12:Int)) (0:Int)=some ((([]::edW).findIdx? λx=>w==x).elim (.inl ()) λi=>.inr (i:Int)):=key ([]::edW) (by decide);have aa:edW.findIdx? (λx=>w==x)=none:=xgn.2 λx hx=>by rw[hw x hx]
  have e:Ni w=((MS ([]::edW,w,(12:Int)) (0:Int)).bind λr=>(Tr.s Unit Int r (λ_=>.l (-1:Int)) λr8=>.l r8).ev).bind λr=>some r:=rfl;rw[e,k1,xek,aa];cases(w==([]:List UInt8))with
  |true=>exact⟨0,rfl,by omega⟩
  |false=>exact⟨-1,rfl,by omega⟩
 obtain⟨k,k1,k2⟩:=hk;exact aBC h k1 k2 hw l
theorem Pp(h:Atl o ds s n){line:List UInt8}(hl:line.length<=1000):nW (o,ds,s,n) (imR o ds s n line) (P1 o ds s n line):=by
 have e1:VS line [32]=some (rZ 32 line):=by unfold VS yE;rw[qi ⟨by omega,rfl⟩,Is]
 have e2:=Ad (s:=line) (by omega) 32;rw[show(((32:UInt8).toNat:Nat):Int)=32 from rfl]at e2;have af:=vQ 32 line;have ae:=Ha 32 line;obtain⟨w,t,et⟩:=iF 32 line;rw[et]at e1 e2 af ae;rw[xl]at ae;have k1:aDY (w::t,t,((t.length:Nat):Int),n,(0:Int),o,ds,s) ((0:Int),([]:List Int))=some (match bS t with|some l=>.inl l|none=>.inr ()):=by
  have:=l6 (f:=λv=>(Mh (w::t,t,((t.length:Nat):Int),n,(0:Int),o,ds,s) v).ev) (ws:=t) 0
   (λi a hi ha=>by
    have hm:=af _ (xw _ (aE (d:=[]) hi));have ep:MY (t.getD i [])=some (cX (t.getD i [])):=by unfold MY xX;rw[qi (by omega)]
    have aa:∀x:Int,List.length [x]=1:=λ_=>rfl;have hb:(a.length+1)*8<=140737488355328:=by omega
    rw[xfq,xfq];cases hq:(cX (t.getD i [])).2 with
    |true=>simp(disch:=omega)only[EV,Mh,hi,ep,hq,aa,hb];rfl
    |false=>simp(disch:=omega)only[EV,Mh,hi,ep,hq];rfl)
   (λa=>by rw[xfq];simp(disch:=omega)only[EV,Mh,xj])
  exact this
 have hd:List.drop (Int.toNat 1) (List.take (List.length (w::t)) (w::t))=t:=by rw[pM];rfl
 have ab:imR o ds s n line=(match bS t with|some l=>rP o ds s n w l|none=>some (o,ds,s,n,[],false)):=by
  unfold imR Wu KA;rw[qn,e1,xc,qp,show(decide ((0:Int)<=1)&&decide ((1:Int)<=((List.length (w::t):Nat):Int)))=true from by rw[qc (show(1:Int)<=((List.length (w::t):Nat):Int) by rw[xl];omega)];rfl,qa,hd,qn,k1,xc];cases bS t with
  |none=>rfl
  |some l=>
   show((Tr.g (aB 0 (List.length (w::t))) _).ev).map pm=rP o ds s n w l;rw[qp,show aB 0 (List.length (w::t))=true from bM (by omega) (by rw[xl];omega),qa,qn];unfold rP;rw[show List.getD (w::t) (Int.toNat 0) ([]:List UInt8)=w from rfl];cases Ni w with
   |none=>rfl
   |some k=>
    rw[xc,xc,qo];cases decide (0<k)with
    |true=>rw[qa,qa,qn];unfold QB;cases Sy n k l o ds s<;>rfl
    |false=>rw[qb,qb,qp,qa,qn];cases X0 o ds s n w l<;>rfl
 have k2:aDU (w::t) ((1:Int),([]:List Int))=some (match bS t with|some l=>.inl l|none=>.inr ()):=by
  have:=l6 (f:=λv=>(wtd (w::t) v).ev) (ws:=t) 1
   (λi a hi ha=>by
    have hm:=af _ (xw _ (aE (d:=[]) hi));have ep:=Iw (s:=t.getD i []) (by omega);have aa:∀x:Int,List.length [x]=1:=λ_=>rfl;have hb:(a.length+1)*8<=140737488355328:=by omega
    have ei:(i:Int)+1=((i+1:Nat):Int):=rfl;have eg:(w::t).getD (i+1) []=t.getD i []:=rfl;have ah:i+1<(w::t).length:=by rw[xl];omega
    rw[ei];cases hq:(cX (t.getD i [])).2 with
    |true=>simp(disch:=omega)only[EV,wtd,ah,eg,ep,hq,aa,hb]
    |false=>simp(disch:=omega)only[EV,wtd,ah,eg,ep,hq];rfl)
   (λa=>by rw[show((t.length:Nat):Int)+1=(((w::t).length:Nat):Int)from rfl];simp(disch:=omega)only[EV,wtd,xj])
  exact this
 by_cases h0:t=[]
 ·subst h0;have ew:=Hd et;have ad:P1 o ds s n line=wS o ds s n w []:=by unfold P1 Rj wS;rw[qn,e2,xc,qo,show(((([w]:List (List UInt8)).length:Nat):Int)==1)=true from rfl,qa,qn,<-ew];exact oJ _
  rw[ab,ad];exact DL h w (show aF [] by unfold aF;simp) λx hx=>by cases hx
 ·have ai:(((List.length (w::t):Nat):Int)==1)=false:=beq_eq_false_iff_ne.2 (by have:=xay.2 h0;rw[xl];omega);have hR:Xq (w::t)=some (match bS t with|some l=>(true,l)|none=>(false,[])):=by unfold Xq JB;rw[qn,k2,xc];cases bS t<;>rfl
  cases hp:bS t with
  |none=>
   rw[hp]at ab hR;have ad:P1 o ds s n line=some (o,ds,s,n,[63]):=by unfold P1 Rj;rw[qn,e2,xc,qo,ai,qb,qn,hR,xc];rfl
   rw[ab,ad];exact fH h
  |some l=>
   rw[hp]at ab hR;obtain⟨i1,i2⟩:=wD hp;have hR:Xq (w::t)=some (true,l):=hR;have ad:P1 o ds s n line=wS o ds s n w l:=by
    unfold P1 Rj;have gw:List.getD (w::t) (Int.toNat 0) ([]:List UInt8)=w:=rfl;have g0:aB 0 (List.length (w::t))=true:=bM (by omega) (by rw[xl];omega);have g1:decide (Int.toNat 0<(w::t).length)=true:=qc (by rw[xl];simp);rw[qn,e2,xc,qo,ai,qb,qn,hR,xc];rw[qo,xq,qb,qp,g0,qa,qp,g1,qa,gw,qo];cases l with
    |nil=>exact absurd (o8 (by rw[<-i1];rfl)) h0
    |cons a r=>
     have aj:aB 0 (List.length (a::r))=true:=bM (by omega) (by rw[xl];omega);have ak:(decide ((0:Int)<=1)&&decide ((1:Int)<=((List.length (a::r):Nat):Int)))=true:=by rw[qc (show(1:Int)<=((List.length (a::r):Nat):Int) by rw[xl];omega)];rfl
     have al:decide (Int.toNat 0<(a::r).length)=true:=qc (by rw[xl];simp);rw[Rh];cases(w==[115,105,116,101])with
     |true=>rw[qa,qa,qp,aj,qa,qp,ak,qa,qn,pM];exact oJ _
     |false=>
      rw[qb,qb,qo];cases(w==[99,108,105,101,110,116])with
      |true=>rw[qa,qa,qn];exact oJ _
      |false=>
       rw[qb,qb,qo];cases r with
       |nil=>rw[show((((([a]:List Int)).length:Nat):Int)==1)=true from rfl,qa,qp,qa,qp,qa,qp,aj,qa,qp,al,qa,qn];exact oJ _
       |cons b r=>rw[show((((true,a::b::r):Bool×List Int).2.length:Int)==1)=false from Vg (l:=a::b::r) (i:=1) (by simp)];rw[qb,qp,qa,qp,qa,qn];exact oJ _
   rw[ab,ad];exact DL h w (by unfold aF;omega) i2
end
section
open Go
noncomputable def rd(s:List UInt8)(v:RS):Option RS:=aC (λv=>some (bL s v)) v
theorem Bb{s:List UInt8}{v v':RS}(h:bL s v=.inl v'):rd s v=rd s v':=by unfold rd;rw[aL];simp only[h]
theorem Si{s:List UInt8}{v r:RS}(h:bL s v=.inr r):rd s v=some r:=by unfold rd;rw[aL];simp only[h]
theorem L6{s:List UInt8}{v r:RS}(h:bL s v=.inr r):r=v:=by
 unfold bL at h;split at h
 ·split at h;·cases h
  ·cases h;rfl
 ·cases h;rfl
theorem Eb{s:List UInt8}{Q:RS->RS->Prop}(h1:∀v,RI s v->bL s v=.inr v->Q v v)(h2:∀v v' r,RI s v->bL s v=.inl v'->RI s v'->RI s r->Q v' r->Q v r):∀v,RI s v->∃r,rd s v=some r/\RI s r/\Q v r:=by
 have key:∀n (v:RS),s.length-v.1.toNat=n->RI s v->∃r,rd s v=some r/\RI s r/\Q v r:=by
  intro n;induction n using Nat.strongRecOn with
  |_ n ih=>
   intro v hn hv;have h3:=V3 hv;cases hr:bL s v with
   |inl v'=>rw[hr]at h3;simp only at h3;obtain⟨r,k1,k2,k3⟩:=ih _ (by omega) v' rfl h3.1;exact⟨r,by rw[Bb hr];exact k1,k2,h2 v v' r hv hr h3.1 k2 k3⟩
   |inr r=>obtain rfl:=L6 hr;exact⟨_,Si hr,hv,h1 _ hv hr⟩
 exact λv hv=>key _ v rfl hv
theorem RI0(s:List UInt8):RI s ((0:Int),[]):=⟨by simp,by simp,by simp⟩
theorem Hh{s:List UInt8}(hs:aZ s):BR s=rd s ((0:Int),[])/\Xn s=rd s ((0:Int),[]):=by
 obtain⟨r,k1,_,k2,k3⟩:=Eb (s:=s) (Q:=λv r=>aC (λv=>(wvk s v).ev) v=some r/\aC (λv=>(HF s v).ev) v=some r)
  (λv hv hr=>by have e1:=sB hs hv;have e2:=lQ hs hv;rw[aL,aL (λv=>(HF s v).ev)];simp only[e1,e2,hr];exact⟨trivial,trivial⟩)
  (λv v' r hv hr _ _ hq=>by have e1:=sB hs hv;have e2:=lQ hs hv;rw[aL,aL (λv=>(HF s v).ev)];simp only[e1,e2,hr];exact hq) _ (RI0 s)
 have aa:aGO s ((0:Int),[])=some r:=k2;have ab:aCD s ((0:Int),[])=some r:=k3;rw[k1];constructor;·unfold BR LX;simp(disch:=omega)only[EV,aa]
 ·unfold Xn IF;simp(disch:=omega)only[EV,ab]
theorem Td{b:Nat}{a:List UInt8}(t:List UInt8)(h:aU a b=true):cC b (a++t)=cC b a:=by
 obtain⟨c,h1,h2,h3⟩:=vF h;have:a++t=cC b a++c::(l9 b a++t):=by
  conv=>lhs;rw[h2]
  simp
 rw[this,mH h3 h1]
theorem Lq{s t:List UInt8}{n:Nat}(h:n<=s.length):(s++t).drop n=s.drop n++t:=by rw[List.drop_append,show n-s.length=0 by omega,AP]
theorem r9{s:List UInt8}(t:List UInt8){v v':RS}(hv:RI s v)(h:bL s v=.inl v'):bL (s++t) v=.inl v':=by
 have hle:v.1.toNat<=s.length:=by have:=hv.2.1;omega
 unfold bL at h⊢;rw[Lq hle];cases hb:aU (s.drop v.1.toNat) 10 with
 |false=>rw[hb]at h;cases h
 |true=>
  rw[hb]at h;have aa:aU (s.drop v.1.toNat++t) 10=true:=by rw[lK,hb];rfl
  rw[aa,Td t hb];exact h
theorem F4{s:List UInt8}(t:List UInt8):∀v,RI s v->∃r,rd s v=some r/\RI s r/\rd (s++t) v=rd (s++t) r:=by intro v hv;exact Eb (s:=s) (Q:=λv r=>rd (s++t) v=rd (s++t) r) (λ_ _ _=>rfl) (λv v' r hv hr _ _ hq=>by rw[Bb (r9 t hv hr)];exact hq) v hv
theorem U0{k:Int}{c r:List UInt8}(hk:bY k 0 59=true)(h:bX c r=true):(line k c r).length<=378:=by obtain⟨_,_,_,_,_,a,b⟩:=eK h;have hl:=rW (c:=c) (r:=r) hk;have hs:=uW (fP k c r);unfold line;rw[xm,xl,lI];omega
theorem IT{s:List UInt8}:∀v,RI s v->v.1<=378*(v.2.length:Int)->∃r,rd s v=some r/\RI s r/\r.1<=378*(r.2.length:Int):=by
 intro v hv h0;obtain⟨r,h1,h2,h3⟩:=Eb (s:=s) (Q:=λv r=>v.1<=378*(v.2.length:Int)->r.1<=378*(r.2.length:Int)) (λ_ _ _ h=>h) (λv v' r hv hr _ _ hq h=>hq (by
  unfold bL at hr;split at hr
  next hb=>
   split at hr
   next p hp=>
    cases hr;obtain⟨d1,d2,d3⟩:=Ra (c:=p.1) (r:=p.2) hp;have hl:=U0 d1 d2;rw[d3]at hl;simp only[xm,xl,lI]at hl⊢;omega
   next=>cases hr
  next=>cases hr)) v hv
 exact⟨r,h1,h2,h3 h0⟩
theorem Dh{k:Int}{c r:List UInt8}(h:bX c r=true):aU (gJ (fP k c r)) 10=false:=by obtain⟨_,_,_,h1,h2,_⟩:=eK h;unfold gJ fP;simp only[lK,h1,h2,xG (b:=10) (by omega),YA,GY];rfl
theorem Xk{s c r:List UInt8}{recs:List (List UInt8×List UInt8)}(hs:rd s ((0:Int),[])=some ((s.length:Int),recs))(hk:bY (recs.length:Int) 0 59=true)(hr:bX c r=true):
  rd (s++line (recs.length:Int) c r) ((0:Int),[])=some (((s++line (recs.length:Int) c r).length:Int),recs++ [(c,r)]):=by
 obtain⟨v,h1,h2,h3⟩:=F4 (line (recs.length:Int) c r) ((0:Int),[]) (RI0 s);rw[hs]at h1;obtain rfl:=tM h1;rw[h3];have aa:=Dh (k:=(recs.length:Int)) hr;have hd:Dec (recs.length:Int) (gJ (fP (recs.length:Int) c r)) c r:=⟨hk,hr,rfl⟩
 have e1:cC 10 (line (recs.length:Int) c r)=gJ (fP (recs.length:Int) c r):=mH aa rfl;have e2:aU (line (recs.length:Int) c r) 10=true:=by unfold line;rw[lK];simp[aU]
 have e3:((s++line (recs.length:Int) c r).drop ((s.length:Int).toNat))=line (recs.length:Int) c r:=by rw[mZ];exact xhg rfl
 have e4:bL (s++line (recs.length:Int) c r) ((s.length:Int),recs)=.inl (((s++line (recs.length:Int) c r).length:Int),recs++ [(c,r)]):=by unfold bL;simp only[e3,e2,e1,V8 hd,if_true];congr 2;rw[xm];unfold line;rw[xm,xl,lI];omega
 rw[Bb e4];apply Si;unfold bL;have e5:(s++line (recs.length:Int) c r).drop ((((s++line (recs.length:Int) c r).length:Nat):Int).toNat)=[]:=by rw[mZ];exact DW (xp _)
 simp only[e5];rfl
structure Val(a b:List UInt8)(n:Int)(recs:List (List UInt8×List UInt8)):Prop where
 all:rd (a++b) ((0:Int),[])=some (((a++b).length:Int),recs)
 dur:∃rs,rd a ((0:Int),[])=some ((a.length:Int),rs)
 cnt:n=(recs.length:Int)
theorem Val.len{a b:List UInt8}{n:Int}{recs:List (List UInt8×List UInt8)}(h:Val a b n recs):recs.length<=60/\((a++b).length:Int)<=378*(recs.length:Int):=by obtain⟨r,h1,h2,h3⟩:=IT (s:=a++b) ((0:Int),[]) (RI0 _) (by simp);rw[h.all]at h1;obtain rfl:=tM h1;exact⟨h2.2.2,h3⟩
theorem C3{a b:List UInt8}(ha:aZ a)(hb:aZ b)(n:Int):∃v,Zz a b n=some v/\DF a b n=some v/\(v=true↔∃recs,Val a b n recs):=by
 have aa:=ha;have ad:=hb;unfold aZ at ha hb;have e0:a.length+b.length<=9223372036854775807:=by omega
 unfold Zz QP DF QI;have el:((List.length (a++b):Nat):Int)=(a.length:Int)+(b.length:Int):=by simp
 have ew:IntKind.wrap .i64 ((a.length:Int)+(b.length:Int))=(a.length:Int)+(b.length:Int):=aV (by omega) (by omega);by_cases h:(30000:Int)<(a.length:Int)+(b.length:Int)
 ·refine⟨false,?_,?_,λh=>(by cases h),λ⟨recs,hv⟩=>?_⟩;·simp(disch:=omega)only[EV,ew,h]
  ·simp(disch:=omega)only[EV,e0,el,h]
  ·have:=hv.len;omega
 ·have ab:aZ (a++b):=by unfold aZ;omega
  obtain⟨v,v1,v3,_⟩:=F4 (s:=a++b) [] ((0:Int),[]) (RI0 _);obtain⟨u,u1,u3,_⟩:=F4 (s:=a) [] ((0:Int),[]) (RI0 _);obtain⟨w1,w2⟩:=Hh ab;obtain⟨w3,w4⟩:=Hh aa;rw[v1]at w1 w2;rw[u1]at w3 w4;have e1:¬(30000:Int)<((List.length (a++b):Nat):Int):=by omega
  refine⟨(v.1==(a.length:Int)+(b.length:Int))&&((u.1==(a.length:Int))&&(((v.2.length:Nat):Int)==n)),?_,?_,?_⟩;·simp(disch:=omega)only[EV,ew,h,e0,w1,w3];cases(v.1==(a.length:Int)+(b.length:Int))<;>cases(u.1==(a.length:Int))<;>rfl
  ·simp(disch:=omega)only[EV,e0,e1,w2,w4];rw[el,show(n==((v.2.length:Nat):Int))=(((v.2.length:Nat):Int)==n)from Bool.beq_comm ..];cases(v.1==(a.length:Int)+(b.length:Int))<;>cases(u.1==(a.length:Int))<;>rfl
  ·obtain⟨vo,vr⟩:=v;obtain⟨uo,ur⟩:=u;simp only[xi,qg];constructor;·rintro⟨q1,q2,q3⟩;exact⟨vr,by rw[v1,el,q1],⟨ur,by rw[u1,q2]⟩,q3.symm⟩
   ·rintro⟨recs,hv⟩;have k1:=hv.all;obtain⟨rs,k2⟩:=hv.dur;rw[v1]at k1;rw[u1]at k2;have k3:=tM k1;have k4:=tM k2;simp only[Ky]at k3 k4;obtain⟨k5,k6⟩:=k3;obtain⟨k7,k8⟩:=k4;subst k6;exact⟨by omega,k7,hv.cnt.symm⟩
theorem Val.line{a b c r:List UInt8}{n:Int}{recs:List (List UInt8×List UInt8)}(h:Val a b n recs)(hk:bY n 0 59=true)(hr:bX c r=true):Val a (b++line n c r) (n+1) (recs++ [(c,r)]):=by have hc:=h.cnt;subst hc;have:=Xk (c:=c) (r:=r) h.all hk hr;rw[Fy]at this;exact⟨this,h.dur,by simp⟩
theorem Val.uniq{a b:List UInt8}{n:Int}{r1 r2:List (List UInt8×List UInt8)}(h:Val a b n r1)(k:Val a b n r2):r1=r2:=by have:=h.all.symm.trans k.all;simp only[xf,Ky,true_and]at this;exact this
end
section
variable {o:List Int}{ds:List (List Int)}{s:List Int}{n:Int}
theorem Bf{a b c r:List UInt8}(ha:aZ a)(hb:aZ b)(hc:aZ c)(hr:aZ r)(n:Int):∃v,Ct a b n c r=some v/\Kf a b n c r=some v/\v.1=a/\v.2.1.length<=b.length+378/\aZ v.2.1/\
  ∀recs,Val a b n recs->n≠60->bX c r=true->v.2.2=(n+1,0)/\Val a v.2.1 (n+1) (recs++ [(c,r)]):=by
 obtain⟨v,v1,v2,v3⟩:=C3 ha hb n;unfold Ct TH Kf MC;simp(disch:=omega)only[EV,v1,v2,mK hc hr,eR hc hr,jZ (k:=n) hc hr];cases v with
 |false=>exact⟨_,rfl,rfl,rfl,by simp,hb,λrecs h=>by have:=v3.2 ⟨recs,h⟩;cases this⟩
 |true=>
  obtain⟨recs,hv⟩:=v3.1 rfl;have hl:=hv.len;have ad:=hv.cnt;cases aa:bX c r with
  |false=>exact⟨_,rfl,rfl,rfl,by simp,hb,λ_ _ _ h=>by cases h⟩
  |true=>
   cases ab:(n==(60:Int))with
   |true=>exact⟨_,rfl,rfl,rfl,by simp,hb,λ_ _ h=>absurd (by simpa using ab) h⟩
   |false=>
    have ae:n≠60:=by simpa using ab
    have hk:bY n 0 59=true:=isIn_iff.2 ⟨by omega,by omega⟩;obtain⟨_,_,_,_,_,ra,rb⟩:=eK aa;have he:Bp n c r=(line n c r,true):=by unfold Bp Mr;rw[hk,aa];rfl
    have af:=U0 hk aa;have e0:b.length+(line n c r).length<=9223372036854775807:=by unfold aZ at hb;omega
    have ah: -9223372036854775808<=n+1:=by omega
    have ai:n+1<9223372036854775808:=by omega
    rw[he];simp(disch:=omega)only[EV,yL (c:=c) (r:=r) hk (by omega) (by omega),e0];rw[xm]at hl;exact⟨_,rfl,rfl,rfl,by simp only[xm];omega,by unfold aZ;simp only[xm];omega,λrecs h _ _=>⟨rfl,h.line hk aa⟩⟩
theorem jL(h:Atl o ds s n):H3 o ds s n=some (n,o,ds,s):=by have h7:=h.fld.len;have hc:=h.fld.clients;have hs:=h.set.len;exact oS (by omega) (by omega) (λr hr=>by have:=tG h.fld r hr;omega) (by omega) n
def cap(rep:List UInt8):List UInt8:=bif decide ((200:Int)<((rep.length:Nat):Int))then[108,111,110,103]else rep
theorem Xw(rep:List UInt8):aZ (cap rep):=by
 unfold cap aZ;by_cases h:(200:Int)<((rep.length:Nat):Int);·rw[qc h,qa];simp
 ·rw[qd h,qb];omega
theorem Xg{line rep:List UInt8}{ok:Bool}(hr:bX line []=true)(hg:ok=true->Gd rep):bX line (cap (if ok then rep else[63]))=true:=by
 have key:iR (cap (if ok then rep else[63])) 200=true:=by
  cases ok with
  |false=>rfl
  |true=>
   rw[qi rfl];unfold cap;by_cases h2:(200:Int)<((rep.length:Nat):Int);·rw[qc h2];rfl
   ·rw[qd h2,qb];unfold iR;rw[qc (by omega),Wa];exact xy.2 λx hx=>(Bool.and_eq_true_iff.1 (hg rfl x hx)).1
 unfold bX at hr⊢;simp only[xi]at hr⊢;exact⟨hr.1,hr.2.1,hr.2.2.1,key⟩
theorem Jf(h:Atl o ds s n){d p:List UInt8}(sd:aZ d)(sp:aZ p){line:List UInt8}(sl:aZ line)(c:Int):
  ∃o' aa s' n' d' p' c' rep,Atl o' aa s' n'/\aZ d'/\aZ p'/\u7 o ds s n d p c line=some (n',d',p',c',rep,o',aa,s')/\I9 o ds s n d p c line=some (n',d',p',c',rep,o',aa,s')/\
   ∀recs,Val d p c recs->(o',aa,s',n',d',p',c')=(o,ds,s,n,d,p,c)\/(c'=c+1/\Val d' p' c' (recs++ [(line,rep)])/\(rep=[63]->(o',aa,s',n')=(o,ds,s,n))):=by
 obtain⟨lo,ld⟩:=pI h.fld;have ls:=h.set.low h.fld.len;obtain⟨v,v1,v2,_⟩:=C3 sd sp c;have hA:=atl_iff.2 h;have nl:aZ []:=by unfold aZ;simp
 have e1:Oo o ds s n d p c=some v:=by unfold Oo Yv;rw[qn,mC lo ld ls,hA,xc,qo,qa,qn,v1,xc,qq]
 have e2:Tt o ds s n d p c=some v:=by unfold Tt Zi;rw[qn,hZ lo ld ls,hA,xc,qo,qa,qn,v2,xc,qq]
 have e3:=eR sl nl;have e4:=mK sl nl;cases v with
 |false=>
  refine⟨o,ds,s,n,d,p,c,[110,111],h,sd,sp,?_,?_,λ_ _=>.inl rfl⟩;·unfold u7 Cr;rw[qn,lS lo ld ls,xc,qn,e2,xc,qo,mM,qa,qq]
  ·unfold I9 Bu;rw[qn,jL h,xc,qn,e1,xc,qo,mM,qa,qq]
 |true=>
  cases hr:bX line []with
  |false=>
   rw[hr]at e3 e4;refine⟨o,ds,s,n,d,p,c,[98,97,100],h,sd,sp,?_,?_,λ_ _=>.inl rfl⟩;·unfold u7 Cr;rw[qn,lS lo ld ls,xc,qn,e2,xc,qo,xq,qb,qn,e3,xc,qo,mM,qa,qq]
   ·unfold I9 Bu;rw[qn,jL h,xc,qn,e1,xc,qo,xq,qb,qn,e4,xc,qo,mM,qa,qq]
  |true=>
   rw[hr]at e3 e4;have hlen:line.length<=160:=by obtain⟨_,_,_,_,_,ra,_⟩:=eK hr;omega
   cases ab:(c==(60:Int))with
   |true=>
    refine⟨o,ds,s,n,d,p,c,[102,117,108,108],h,sd,sp,?_,?_,λ_ _=>.inl rfl⟩;·unfold u7 Cr;rw[qn,lS lo ld ls,xc,qn,e2,xc,qo,xq,qb,qn,e3,xc,qo,xq,qb,qo,ab,qa,qq]
    ·unfold I9 Bu;rw[qn,jL h,xc,qn,e1,xc,qo,xq,qb,qn,e4,xc,qo,xq,qb,qo,ab,qa,qq]
   |false=>
    obtain⟨o',aa,s',n',rep,ok,h',r1,r2,r3⟩:=Pp h (line:=line) (by omega);have r1:Wu n line o ds s=some (n',rep,ok,o',aa,s'):=by
     unfold imR at r1;obtain⟨⟨xn,xr,xk,xo,xd,xs⟩,hx,he⟩:=xba.1 r1;obtain⟨rfl,rfl,rfl,rfl,rfl,rfl⟩:xo=o'/\xd=aa/\xs=s'/\xn=n'/\xr=rep/\xk=ok:=by simpa[pm]using he
     exact hx
    have hR:I9 o ds s n d p c line=(Ct d p c line (cap (if ok then rep else[63]))).bind λv=>some (n',v.1,v.2.1,v.2.2.1,cap (if ok then rep else[63]),o',aa,s'):=by
     unfold I9 Bu cap;rw[qn,jL h,xc,qn,e1,xc,qo,xq,qb,qn,e4,xc,qo,xq,qb,qo,ab,qb,qn,r2,xc,qo];cases decide ((200:Int)<(((if ok then rep else[63]).length:Nat):Int))with
     |true=>
      rw[qa,qa,qn];cases Ct d p c line [108,111,110,103]with
      |none=>rfl
      |some v=>rw[xc,xc,qn,jL h',xc,qq]
     |false=>
      rw[qb,qb,qn];cases Ct d p c line (if ok then rep else[63])with
      |none=>rfl
      |some v=>rw[xc,xc,qn,jL h',xc,qq]
    have hI:u7 o ds s n d p c line=(Kf d p c line (cap (if ok then rep else[63]))).bind λv=>some (n',v.1,v.2.1,v.2.2.1,cap (if ok then rep else[63]),o',aa,s'):=by
     unfold u7 Cr;rw[qn,lS lo ld ls,xc,qn,e2,xc,qo,xq,qb,qn,e3,xc,qo,xq,qb,qo,ab,qb,qn,r1,xc,qo];cases ok with
     |false=>rfl
     |true=>
      rw[xq,qb,qi rfl];unfold cap;rw[qo];cases decide ((200:Int)<((rep.length:Nat):Int))with
      |true=>rfl
      |false=>rfl
    obtain⟨v,a1,a2,a3,_,a4,a5⟩:=Bf sd sp sl (Xw (if ok then rep else[63])) c;rw[a2]at hI;rw[a1]at hR;obtain⟨vd,vp,vc,vs⟩:=v;simp only at a3 a4 a5;subst a3;refine⟨o',aa,s',n',vd,vp,vc,_,h',sd,a4,hI,hR,λrecs hv=>.inr ?_⟩;have ad:c≠60:=by simpa using ab
    obtain⟨k1,k2⟩:=a5 recs hv ad (Xg hr λae=>by rw[ae,qi rfl]at r3;exact r3);obtain⟨rfl,rfl⟩:=Prod.mk.inj k1;refine⟨rfl,k2,λhq=>?_⟩;cases ok with
    |false=>exact r3
    |true=>
     exfalso;rw[qi rfl]at r3 hq;unfold cap at hq;by_cases h2:(200:Int)<((rep.length:Nat):Int);·rw[qc h2,qa]at hq;cases hq
     ·rw[qd h2,qb]at hq;subst hq;have:=r3 63 xz;cases this
end
section
variable {o:List Int}{ds:List (List Int)}{s:List Int}{n:Int}
theorem aAz{s:List UInt8}(h:C1 .str s):(s.length:Int)<9223372036854775808:=vD h
theorem aQI(lo:aF o)(ld:cT ds)(ls:aF s){d p:List UInt8}(sd:aZ d)(sp:aZ p){line:List UInt8}(sl:aZ line)(c:Int):
  ∃o' aa s' n' d' p' c' rep,aF o'/\cT aa/\aF s'/\u7 o ds s n d p c line=some (n',d',p',c',rep,o',aa,s')/\I9 o ds s n d p c line=some (n',d',p',c',rep,o',aa,s'):=by
 cases hA:dW o ds s n with
 |false=>
  have e3:=hZ lo ld ls n;have e4:=mC lo ld ls n;rw[hA]at e3 e4;have ow:H3 o ds s n=some (n,o,ds,s):=by have hd:=ld.1;have hr:=ld.2;unfold aF at lo ls hr;exact oS (by omega) (by omega) (λr h=>by have:=hr r h;omega) (by omega) n
  have iv:Tt o ds s n d p c=some false:=by unfold Tt Zi;rw[qn,e3,xc,qo,qb,qq]
  have sv:Oo o ds s n d p c=some false:=by unfold Oo Yv;rw[qn,e4,xc,qo,qb,qq]
  refine⟨o,ds,s,n,d,p,c,[110,111],lo,ld,ls,?_,?_⟩;·unfold u7 Cr;rw[qn,lS lo ld ls,xc,qn,iv,xc,qo,mM,qa,qq]
  ·unfold I9 Bu;rw[qn,ow,xc,qn,sv,xc,qo,mM,qa,qq]
 |true=>obtain⟨o',aa,s',n',d',p',c',rep,h',_,_,r1,r2,_⟩:=Jf (atl_iff.1 hA) sd sp sl c;obtain⟨q1,q2⟩:=pI h'.fld;exact⟨o',aa,s',n',d',p',c',rep,q1,q2,h'.set.low h'.fld.len,r1,r2⟩
end
theorem wry(o:List Int)(ds:List (List Int))(s:List Int)(n:Int)(a b:List UInt8)(c:Int)(t:List UInt8)(ho:C1 tL o)(hd:C1 tLL ds)(hs:C1 tL s)(_:C1 tI n)(ha:C1 .str a)(hb:C1 .str b)(_:C1 tI c)(_:C1 .str t):aBX o ds s n a b c t=some true:=by
 unfold aBX ID aFp EU Ta VG GV NY TP IL;by_cases ht:(1048576:Int)<((t.length:Nat):Int);·simp(disch:=omega)only[EV,ht]
 ·obtain⟨x,e1,k1,k2⟩:=Dd n (NJ ho) (aKY hd) (NJ hs) (b:=1048576) (by omega) (by omega);simp(disch:=omega)only[EV,ht,e1];by_cases hx:x<0
  ·have hm:(-1:Int)<0:=by omega
   simp(disch:=omega)only[EV,hx,hm]
  ·obtain⟨h1,h2,h3⟩:=k2 (by omega);obtain⟨y,e2,_,k4⟩:=Vj c (aAz ha) (aAz hb) (b:=x) (by omega) (by omega);simp(disch:=omega)only[EV,hx,e2];by_cases hy:y<0
   ·have hm:(-1:Int)<0:=by omega
    simp(disch:=omega)only[EV,hy,hm]
   ·obtain⟨h4,h5⟩:=k4 (by omega);obtain⟨o',ad,s',n',d',p',c',rep,g1,g2,g3,r1,r2⟩:=aQI (n:=n) h1 h2 h3 h4 h5 (line:=t) (by unfold aZ;omega) c;obtain⟨m1,f1,f2,f3,f4⟩:=tH h1 h2 h3 n;obtain⟨m2,f5,f6,f7,f8⟩:=tH g1 g2 g3 n';have hl:=g3;unfold aF at hl;have aa:¬m1+(s.length:Int)<0:=by omega
    have ab:¬m2+(s'.length:Int)<0:=by omega
    simp(disch:=omega)only[EV,hy,Cp h1 h2 h3,Pd,r1,r2,nU g1 g2 g3,nU h1 h2 h3,qj,qk,f1,aa,f5,aRU g1 g2 g3 n' f6 f7 f8,ab]
end Go.Proofs.YteiekijgoifhoaaGreatDoor
