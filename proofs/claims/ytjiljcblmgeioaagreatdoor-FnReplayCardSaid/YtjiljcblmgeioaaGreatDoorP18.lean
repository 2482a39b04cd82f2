/- A part of the proof that FnReplay hands back true, at every argument of the row. -/
import Derived.Test.YtjiljcblmgeioaaGreatDoorP91
namespace Go.Proofs.YtjiljcblmgeioaaGreatDoor
set_option linter.all false
structure Atl(o:List Int)(ds:List (List Int))(s:List Int)(n:Int):Prop where
 fld:Fld o ds
 set:ris o.length s
 count:0<=n/\n<=1000
theorem atl_iff{o:List Int}{ds:List (List Int)}{s:List Int}{n:Int}:cC o ds s n=true↔Atl o ds s n:=by unfold cC;rw[xf,xf,fieldB_iff,ris_iff,isIn_iff];exact⟨λ⟨a,b,c⟩=>⟨a,b,c⟩,λh=>⟨h.fld,h.set,h.count⟩⟩
theorem rC{o:List Int}{ds:List (List Int)}(h:Fld o ds):aK o/\eP ds:=by have h1:=h.len;have h2:=h.clients;refine⟨by unfold aK;omega,by omega,λr hr=>?_⟩;obtain⟨j,hj,e⟩:=xbu.1 hr;have h3:=h.rowLen j hj;rw[xd,xh hj,xT,e]at h3;unfold aK;omega
theorem qA{o:List Int}{ds:List (List Int)}(h:Fld o ds):∀r∈ds,r.length=o.length:=λr hr=>by obtain⟨j,hj,e⟩:=xbu.1 hr;have h3:=h.rowLen j hj;rwa [xd,xh hj,xT,e]at h3
theorem B7{f:Int×List (List Int)->Option ((Int×List (List Int))⊕List (List Int))}{x:List (List Int)}
  (aa:∀i:Nat,i<x.length->f ((i:Int),x.take i)=some (.inl (((i+1:Nat):Int),x.take i++ [x.getD i []]))) (ab:f ((x.length:Int),x)=some (.inr x)):aB f (0,[])=some x:=by
 have:=(aR (f:=f) (n:=x.length) (mk:=λi (_:Unit)=>((i:Int),x.take i)) (I:=λ_ _=>True) (g:=λs _=>s) (fin:=λ_=>x) (s0:=()) trivial
  (λi s hi _=>⟨by rw[aa i hi,dK [] hi],trivial⟩)
  (λs _=>by rw[sX,ab])).1
 simpa using this
theorem Dg{ds:List (List Int)}(hd:ds.length<=1000)(hr:∀r∈ds,r.length<=1000)(k:(List (Int))×(List (List (Int)))×(List (Int))×(Int)×(Int)×(List (List (Int)))×(List (Int)))(hk:k.2.1=ds):aHF k (0,[])=some ds:=by
 have h0:=B7 (f:=λv=>(HM k v).ev) (x:=ds)
  (λi hi=>by have ht:(ds.take i).length<=i:=xfv _ _;have r1:=mH (ds.take i) (by omega);have e1:=jR (l:=ds.getD i []) (by have:=hr _ (aG (d:=[]) hi);omega);simp(disch:=omega)only[EV,HM,hk,hi,e1,eS,r1];rfl)
  (by simp(disch:=omega)only[EV,HM,hk,xi])
 exact h0
theorem vN{o s:List Int}{ds:List (List Int)}(ho:o.length<=1000)(hd:ds.length<=1000)(hr:∀r∈ds,r.length<=1000)(hs:s.length<=1000)(c:Int):Z3 o ds s c=some (c,o,ds,s):=by unfold Z3 aDf;rw[qn,jR (l:=o) (by omega),xc,qn,Dg hd hr _ rfl,xc,qn,jR (l:=s) (by omega),xc,qq]
theorem Xh{α:Type}(f:α->α)(d:α){l:List α}{i:Nat}(hi:i<l.length):((l.take i).map f++l.drop i).getD i d=l.getD i d/\((l.take i).map f++l.drop i).set i (f (l.getD i d))=(l.take (i+1)).map f++l.drop (i+1)/\((l.take i).map f++l.drop i).length=l.length:=by
 have hl:((l.take i).map f).length=i:=by rw[Gi,xw];omega
 have hd:=Wn hi;have hg:l.getD i d=l[i]:=by rw[xd,xh hi];rfl
 refine⟨?_,?_,?_⟩;·rw[xd,C6 (by omega),hl,TA,hd,hg];rfl
 ·rw[xcv _ _ (by omega),hl,TA,hd,List.set_cons_zero,dK d hi,xdu,Yi];rfl
 ·rw[xj,hl,tH];omega
theorem uR{α:Type}{f:Int×List α->Option ((Int×List α)⊕List α)}(g:α->α)(d:α){l:List α}
  (aa:∀(i:Nat) (x:List α),i<l.length->x.length=l.length->x.getD i d=l.getD i d->f ((i:Int),x)=some (.inl (((i+1:Nat):Int),x.set i (g (l.getD i d)))))
  (ab:∀x:List α,x.length=l.length->f ((l.length:Int),x)=some (.inr x)):aB f (0,l)=some (l.map g):=by
 have:=(aR (f:=f) (n:=l.length) (mk:=λi (_:Unit)=>((i:Int),(l.take i).map g++l.drop i)) (I:=λ_ _=>True) (g:=λs _=>s) (fin:=λ_=>l.map g) (s0:=()) trivial
  (λi s hi _=>by obtain⟨h1,h2,h3⟩:=Xh g d hi;exact⟨by rw[aa i _ hi h3 h1,h2],trivial⟩)
  (λs _=>by rw[sX,xds,yT,ab _ (by simp)])).1
 simpa using this
theorem Bm{α:Type}{l:List α}{i:Nat}(d:α)(hi:i<l.length):l.set i (l.getD i d)=l:=by rw[xd,xh hi,xT,List.set_getElem_self]
def fH(a x:Int):Int:=if a<x then x-1 else x
theorem AK{o s:List Int}{ds:List (List Int)}{n:Int}(h:Atl o ds s n){a:Int}(h0:0<=a)(ha:a<(o.length:Int)):YF o ds s n a=some (n,cO a o,ds.map (cO a),s.map (fH a)):=by
 have h7:=h.fld.len;have hm:=h.fld.clients;have ab:=qA h.fld;have ai:=h.set.len;have e1:=vN (o:=o) (ds:=ds) (s:=s) (by omega) (by omega) (λr hr=>by have:=ab r hr;omega) (by omega) n;have e2:=Oc (l:=o) (by omega) h0 ha;have l1:=uR (f:=λv=>(BP (a,o,ds,s,n,(0:Int),n,cO a o,s) v).ev) (cO a) [] (l:=ds)
  (λi x hi hx hg=>by
   have aj:=ab _ (aG (d:=[]) hi);have e3:=Oc (l:=ds.getD i []) (by omega) h0 (by omega);have aa:i<x.length:=by omega
   simp(disch:=omega)only[EV,BP,hi,aa,e3];rfl)
  (λx hx=>by simp(disch:=omega)only[EV,BP,xi])
 have l2:=uR (f:=λv=>(Sy (a,(0:Int),n,cO a o,ds.map (cO a)) v).ev) (fH a) 0 (l:=s)
  (λi x hi hx hg=>by
   have aa:i<x.length:=by omega
   have hv:=h.set.1 _ (aG (d:=0) hi);have hw:IntKind.wrap .i64 (s.getD i 0-1)=s.getD i 0-1:=aN (by omega) (by omega);unfold fH;by_cases ae:a<s.getD i 0;·simp(disch:=omega)only[EV,Sy,aa,hg,ae,hw];rfl
   ·have ad:x.set i (s.getD i 0)=x:=by rw[<-hg];exact Bm 0 aa
    simp(disch:=omega)only[EV,Sy,aa,hg,ae,ad];rfl)
  (λx hx=>by
   have hn:¬s.length<x.length:=by omega
   simp(disch:=omega)only[EV,Sy,hn])
 have af:aHI (a,o,ds,s,n,(0:Int),n,cO a o,s) (0,ds)=some (ds.map (cO a)):=l1;have ah:aIS (a,(0:Int),n,cO a o,ds.map (cO a)) (0,s)=some (s.map (fH a)):=l2;unfold YF aEm;rw[qn,e1,xc,qn,e2,xc,qn,af,xc,qn,ah,xc,qq]
def eY(o:List Int)(ds:List (List Int))(s:List Int)(k a b c:Int)(l:List Int):List Int×List (List Int)×List Int:=
 if k=1 then(o,ds,ins a s)
 else if k=2 then(o,ds,wo s a)
 else if k=3 then(o,ds,ins b (wo s a))
 else if k=4 then(o.set a.toNat b,ds,s)
 else if k=5 then(o,ds.set a.toNat ((ds.getD a.toNat []).set b.toNat c),s)
 else if k=6 then(o++ [a],List.zipWith (λr x=>r++ [x]) ds l,s)
 else if k=7 then(o,ds++ [l],s)
 else if k=8 then(cO a o,ds.map (cO a),s.map (fH a))
 else if k=9 then(o,cO a ds,s)
 else if k=10 then(o,ds,(nX o ds s).2)
 else if k=11 then(o,ds,oO o ds)
 else(o,ds,s)
def Sm(x:List Int×List (List Int)×List Int):Prop:=aK x.1/\eP x.2.1/\aK x.2.2
theorem Fs{o s:List Int}{ds:List (List Int)}{n:Int}(h:Atl o ds s n)(h0:s≠ []):dS o ds s=true:=by unfold dS;rw[fieldB_iff.2 h.fld,ris_iff.2 h.set,qc (xaq.2 h0)];rfl
theorem Gc{ds:List (List Int)}{l:List Int}{i:Nat}(hi:i<ds.length)(hl:l.length=ds.length):∀{x:List (List Int)},x=List.zipWith (λr y=>r++ [y]) (ds.take i) (l.take i)++ds.drop i->
  x.getD i []=ds.getD i []/\x.length=ds.length/\x.set i (ds.getD i []++ [l.getD i 0])=List.zipWith (λr y=>r++ [y]) (ds.take (i+1)) (l.take (i+1))++ds.drop (i+1):=by
 intro x hx;subst hx;have hz:(List.zipWith (λr y=>r++ [y]) (ds.take i) (l.take i)).length=i:=by simp;omega
 have hd:=Wn hi;have hg:ds.getD i []=ds[i]:=by rw[xd,xh hi];rfl
 refine⟨?_,?_,?_⟩;·rw[xd,C6 (by omega),hz,TA,hd,hg];rfl
 ·rw[xj,hz,tH];omega
 ·rw[xcv _ _ (by omega),hz,TA,hd,List.set_cons_zero,dK [] hi,dK 0 (show i<l.length by omega),List.zipWith_append (by simp;omega),Yi];rfl
theorem Jz{ds:List (List Int)}{l:List Int}(hl:l.length=ds.length)(hd:ds.length<=7)(hr:∀r∈ds,r.length<=7)(k:(Int)×(Int)×(Int)×(Int)×(List (Int))×(Int)×(Int)×(List (Int))×(List (Int))×(List (Int))×(List (Int)))(hk:k.2.2.2.2.1=l):
  XX k (0,ds)=some (List.zipWith (λr x=>r++ [x]) ds l):=by
 have h:=(aR (f:=λv=>(HY k v).ev) (n:=ds.length) (mk:=λi (x:List (List Int))=>((i:Int),x)) (I:=λi x=>x=List.zipWith (λr y=>r++ [y]) (ds.take i) (l.take i)++ds.drop i) (g:=λx i=>x.set i (ds.getD i []++ [l.getD i 0])) (fin:=λs=>s) (s0:=ds) (by simp)
  (λi x hi hx=>by
   obtain⟨z1,z2,z3⟩:=Gc hi hl hx;refine⟨?_,z3⟩;have aa:i<l.length:=by omega
   have ab:i<x.length:=by omega
   have r1:=nY (ds.getD i []) (l.getD i 0) (by have:=hr _ (aG (d:=[]) hi);omega);simp(disch:=omega)only[EV,HY,hk,aa,ab,z1,r1];rfl)
  (λx hx=>by
   have hn:¬ds.length<l.length:=by omega
   simp(disch:=omega)only[EV,HY,hk,hn]))
 obtain⟨h1,h2⟩:=h;have h3:XX k (0,ds)=_:=h1;rw[h3,h2,sX,xds,yT,Gg (by omega)]
theorem Az{o s:List Int}{ds:List (List Int)}{n:Int}(h:Atl o ds s n){k a b c:Int}{l:List Int}(hl:aK l)(hm:iE o.length ds.length s k a b l=true):
  aDi o ds s n k a b c l=some (n,eY o ds s k a b c l)/\Sm (eY o ds s k a b c l):=by
 have h7:=h.fld.len;have hp:=h.fld.pos;have hc:=h.fld.clients;have af:=qA h.fld;have au:=h.set.len;obtain⟨lo,ld⟩:=rC h.fld;have ls:aK s:=h.set.low h7;have e1:=vN (o:=o) (ds:=ds) (s:=s) (by omega) (by omega) (λr hr=>by have:=af r hr;omega) (by omega) n;have ab:∀{m:Nat} {x:Int},cI m x=true->0<=x/\x<(m:Int):=λ{m x} hx=>by have:=isIn_iff.1 hx;omega
 have ad:∀{x:Int},bO o.length s x=true->(0<=x/\x<(o.length:Int))/\x∉s:=λ{x} hx=>by unfold bO at hx;rw[xf,D9]at hx;exact⟨ab hx.1,bY hx.2⟩
 have aa:∀{x:List Int},x.length<=1000->aK x:=λ{x} hx=>by unfold aK;omega
 unfold aDi aGz;rw[qn,e1,xc];dsimp only;by_cases h1:k=1;·subst h1;obtain⟨q1,q2⟩:=ad hm;have e2:=qD (l:=s) (x:=a) (by omega) q2;refine⟨?_,lo,ld,aa (by show(ins a s).length<=1000;rw[pD];omega)⟩;rw[qo,show((1:Int)==1)=true from rfl,qa,qn,e2];rfl
 by_cases h2:k=2;·subst h2;have e2:=oW (l:=s) (by omega) a;refine⟨?_,lo,ld,aa (by have:=Jx s a;show(wo s a).length<=1000;omega)⟩;rw[qo,show((2:Int)==1)=false from rfl,qb,qo,show((2:Int)==2)=true from rfl,qa,qn,e2];rfl
 by_cases h3:k=3;·subst h3;have ae:(s.contains a&&bO o.length s b)=true:=hm;rw[xf]at ae;obtain⟨q1,q2⟩:=ad ae.2;have e2:=oW (l:=s) (by omega) a;have av:=Jx s a;have e3:=qD (l:=wo s a) (x:=b) (by omega) (lD q2);unfold wo at e3;refine⟨?_,lo,ld,aa (by show(ins b (wo s a)).length<=1000;rw[pD];omega)⟩;simp only[qo,show((3:Int)==1)=false from rfl,show((3:Int)==2)=false from rfl,show((3:Int)==3)=true from rfl,qa,qb,qn,e2,xc,e3];rfl
 by_cases h4:k=4
 ·subst h4;have hs:=ab (show cI o.length a=true from hm);have i1:aC a o.length=true:=bK (by omega) (by omega);have i2:a.toNat<o.length:=by omega
  refine⟨?_,aa (by show(o.set a.toNat b).length<=1000;rw[C7];omega),ld,ls⟩;simp only[qo,show((4:Int)==1)=false from rfl,show((4:Int)==2)=false from rfl,show((4:Int)==3)=false from rfl,show((4:Int)==4)=true from rfl,qa,qb,qp,i1,qc i2];rfl
 by_cases h5:k=5
 ·subst h5;have ae:(cI ds.length a&&cI o.length b)=true:=hm;rw[xf]at ae;have q1:=ab ae.1;have q2:=ab ae.2;have i2:a.toNat<ds.length:=by omega
  have aw:=af _ (aG (d:=[]) i2);have i1:aC a ds.length=true:=bK (by omega) (by omega);have i3:aC b (ds.getD a.toNat []).length=true:=bK (by omega) (by omega);have i4:b.toNat<(ds.getD a.toNat []).length:=by omega
  refine⟨?_,lo,⟨by show((ds.set a.toNat ((ds.getD a.toNat []).set b.toNat c)).length:Int)<=_;rw[C7];omega,λr hr=>?_⟩,ls⟩;·simp only[qo,show((5:Int)==1)=false from rfl,show((5:Int)==2)=false from rfl,show((5:Int)==3)=false from rfl,show((5:Int)==4)=false from rfl,show((5:Int)==5)=true from rfl,qa,qb,qp,i1,qc i2,i3,qc i4];rfl
  ·rcases xcs (show r∈ds.set a.toNat ((ds.getD a.toNat []).set b.toNat c)from hr)with hr|rfl;·exact ld.2 r hr
   ·exact aa (by rw[C7];omega)
 by_cases h6:k=6
 ·subst h6;have ae:((((l.length:Nat):Int))==((ds.length:Nat):Int))=true:=hm;have ak:l.length=ds.length:=by have:=eq_of_beq ae;omega
  have r1:=nY o a (by omega);have e2:=λk=>Jz (l:=l) (ds:=ds) ak hc (λr hr=>by have:=af r hr;omega) k;refine⟨?_,aa (by show(o++ [a]).length<=1000;simp;omega),⟨by show((List.zipWith (λr x=>r++ [x]) ds l).length:Int)<=_;simp;omega,λr hr=>?_⟩,ls⟩;·simp only[qo,show((6:Int)==1)=false from rfl,show((6:Int)==2)=false from rfl,show((6:Int)==3)=false from rfl,show((6:Int)==4)=false from rfl,show((6:Int)==5)=false from rfl,show((6:Int)==6)=true from rfl,qa,qb,qp,qc r1,qn];rw[e2 _ rfl];rfl
  ·obtain⟨j,hj,e⟩:=xbu.1 (show r∈List.zipWith (λr x=>r++ [x]) ds l from hr);rw[List.getElem_zipWith]at e;subst e;rw[List.length_zipWith]at hj;exact aa (by have:=af _ (xeb (show j<ds.length by omega));simp;omega)
 by_cases ah:k=7
 ·subst ah;have e2:=jR (l:=l) (by unfold aK at hl;omega);have r1:=mH ds (by omega);refine⟨?_,lo,⟨by show((ds++ [l]).length:Int)<=_;simp;omega,λr hr=>?_⟩,ls⟩;·simp only[qo,show((7:Int)==1)=false from rfl,show((7:Int)==2)=false from rfl,show((7:Int)==3)=false from rfl,show((7:Int)==4)=false from rfl,show((7:Int)==5)=false from rfl,show((7:Int)==6)=false from rfl,show((7:Int)==7)=true from rfl,qa,qb,qn,e2,xc,qp,qc r1,eS];rfl
  ·rcases xp.1 (show r∈ds++ [l]from hr)with hr|hr;·exact ld.2 r hr
   ·rw[xo.1 hr];exact hl
 by_cases h8:k=8
 ·subst h8;obtain⟨q1,q2⟩:=ad (x:=a) hm;have e2:=AK h q1.1 q1.2;have al:=wT (l:=o) q1.1 q1.2;refine⟨?_,aa (by show(cO a o).length<=1000;omega),⟨by show((ds.map (cO a)).length:Int)<=_;simp;omega,λr hr=>?_⟩,aa (by show(s.map (fH a)).length<=1000;simp;omega)⟩;·simp only[qo,show((8:Int)==1)=false from rfl,show((8:Int)==2)=false from rfl,show((8:Int)==3)=false from rfl,show((8:Int)==4)=false from rfl,show((8:Int)==5)=false from rfl,show((8:Int)==6)=false from rfl,show((8:Int)==7)=false from rfl,show((8:Int)==8)=true from rfl,qa,qb,qn,e2];rfl
  ·obtain⟨r',ao,rfl⟩:=xaf.1 (show r∈ds.map (cO a)from hr);have:=af r' ao;have:=wT (l:=r') q1.1 (by omega);exact aa (by omega)
 by_cases h9:k=9
 ·subst h9;have q1:=ab (show cI ds.length a=true from hm);have hw:IntKind.wrap .i64 (a+1)=a+1:=aN (by omega) (by omega);have ht:(a+1).toNat=a.toNat+1:=by omega
  have g1:(decide (0<=a)&&decide (a<=((ds.length:Nat):Int)))=true:=by rw[qc (by omega),qc (by omega)];rfl
  have g2:(decide (0<=a+1)&&decide (a+1<=((ds.length:Nat):Int)))=true:=by rw[qc (by omega),qc (by omega)];rfl
  have g3:(decide (a.toNat<=a.toNat+1)&&decide ((a.toNat+(ds.length-(a.toNat+1)))*24<=140737488355328))=true:=by rw[qc (by omega),qc (by omega)];rfl
  have al:=wT (l:=ds) q1.1 q1.2;refine⟨?_,lo,⟨by show((cO a ds).length:Int)<=_;omega,λr hr=>ld.2 r (Un hr)⟩,ls⟩;simp only[qo,show((9:Int)==1)=false from rfl,show((9:Int)==2)=false from rfl,show((9:Int)==3)=false from rfl,show((9:Int)==4)=false from rfl,show((9:Int)==5)=false from rfl,show((9:Int)==6)=false from rfl,show((9:Int)==7)=false from rfl,show((9:Int)==8)=false from rfl,show((9:Int)==9)=true from rfl,qa,qb,qp,hw,ht,g1,g2,g3];rfl
 by_cases ai:k=10;·subst ai;have ae:decide ((0:Int)<((s.length:Nat):Int))=true:=hm;have h0:s≠ []:=xaq.1 (by have:=of_decide_eq_true ae;omega);have e2:=Ru lo ld ls;rw[Fs h h0,qa]at e2;have ar:=(Ic h.fld h.set h0).1;refine⟨?_,lo,ld,ar.low h7⟩;simp only[qo,show((10:Int)==1)=false from rfl,show((10:Int)==2)=false from rfl,show((10:Int)==3)=false from rfl,show((10:Int)==4)=false from rfl,show((10:Int)==5)=false from rfl,show((10:Int)==6)=false from rfl,show((10:Int)==7)=false from rfl,show((10:Int)==8)=false from rfl,show((10:Int)==9)=false from rfl,show((10:Int)==10)=true from rfl,qa,qb,qn,e2];rfl
 by_cases aj:k=11;·subst aj;have e2:=BC h.fld;have hb:=(A0 hp h7 (Ll h.fld).1).1;have ay:=hb.len;have e3:=jR (l:=oO o ds) (by omega);refine⟨?_,lo,ld,hb.low h7⟩;simp only[qo,show((11:Int)==1)=false from rfl,show((11:Int)==2)=false from rfl,show((11:Int)==3)=false from rfl,show((11:Int)==4)=false from rfl,show((11:Int)==5)=false from rfl,show((11:Int)==6)=false from rfl,show((11:Int)==7)=false from rfl,show((11:Int)==8)=false from rfl,show((11:Int)==9)=false from rfl,show((11:Int)==10)=false from rfl,show((11:Int)==11)=true from rfl,qa,qb,qn,e2,xc,e3];rfl
 have he:eY o ds s k a b c l=(o,ds,s):=by unfold eY;rw[qh h1,qh h2,qh h3,qh h4,qh h5,qh h6,qh ah,qh h8,qh h9,qh ai,qh aj]
 rw[he];refine⟨?_,lo,ld,ls⟩;simp only[qo,qq,beq_eq_false_iff_ne.2 h1,beq_eq_false_iff_ne.2 h2,beq_eq_false_iff_ne.2 h3,beq_eq_false_iff_ne.2 h4,beq_eq_false_iff_ne.2 h5,beq_eq_false_iff_ne.2 h6,beq_eq_false_iff_ne.2 ah,beq_eq_false_iff_ne.2 h8,beq_eq_false_iff_ne.2 h9,beq_eq_false_iff_ne.2 ai,beq_eq_false_iff_ne.2 aj,qb]
def wR(o:List Int)(ds:List (List Int))(s:List Int)(n k a b c:Int)(l:List Int):Option (Int×List Int×List (List Int)×List Int):=
 bif cL k a b c l&&(iE o.length ds.length s k a b l&&cC (eY o ds s k a b c l).1 (eY o ds s k a b c l).2.1 (eY o ds s k a b c l).2.2 (n+1))then some (n+1,eY o ds s k a b c l)else none
theorem Au{o s:List Int}{ds:List (List Int)}{n k a b c:Int}{l:List Int}{y:Int×List Int×List (List Int)×List Int}(h:wR o ds s n k a b c l=some y):Atl y.2.1 y.2.2.1 y.2.2.2 y.1:=by
 unfold wR at h;cases hb:(cL k a b c l&&(iE o.length ds.length s k a b l&&cC (eY o ds s k a b c l).1 (eY o ds s k a b c l).2.1 (eY o ds s k a b c l).2.2 (n+1)))with
 |false=>rw[hb]at h;cases h
 |true=>rw[hb]at h;cases h;simp only[xf]at hb;exact atl_iff.1 hb.2.2
def doT(x:Option (Int×List Int×List (List Int)×List Int)):Int×Bool×List Int×List (List Int)×List Int:=match x with
 |some y=>(y.1,true,y.2)
 |none=>(0,false,[],[],[])
theorem FY{o s:List Int}{ds:List (List Int)}{n:Int}(h:Atl o ds s n)(k a b c:Int){l:List Int}(hl:aK l):KE o ds s n k a b c l=some (doT (wR o ds s n k a b c l)):=by
 have h7:=h.fld.len;have hc:=h.fld.clients;have aa:=h.set.len;have hn:=h.count;have hw:IntKind.wrap .i64 (n+1)=n+1:=aN (by omega) (by omega);unfold KE aEn wR;rw[qn,Rt,xc,qo];cases cL k a b c l with
 |false=>rfl
 |true=>
  rw[xl,qb,qn,KW (by omega) (by omega) (by omega),xc,qo];cases hm:iE o.length ds.length s k a b l with
  |false=>rfl
  |true=>obtain⟨e1,q1,q2,q3⟩:=Az h (c:=c) hl hm;rw[xl,qb,qn,e1,xc,qn,hw];dsimp only;rw[kF q1 q2 q3,xc,qo];cases cC (eY o ds s k a b c l).1 (eY o ds s k a b c l).2.1 (eY o ds s k a b c l).2.2 (n+1)<;>rfl
theorem BS(k a b c:Int)(l:List Int):aFO k a b c l=some (cL k a b c l):=by
 unfold aFO aAo;by_cases h1:k=1
 ·subst h1;have e:yM 1=some (1,false,true):=rfl;rw[qn,e,xc];unfold cL oI;dsimp only;generalize(a==0)=x;generalize(b==0)=y;generalize(c==0)=z;generalize(((List.length l:Nat):Int)==0)=w
  revert x y z w
  decide
 by_cases h2:k=2
 ·subst h2;have e:yM 2=some (1,false,true):=rfl;rw[qn,e,xc];unfold cL oI;dsimp only;generalize(a==0)=x;generalize(b==0)=y;generalize(c==0)=z;generalize(((List.length l:Nat):Int)==0)=w
  revert x y z w
  decide
 by_cases h3:k=3
 ·subst h3;have e:yM 3=some (2,false,true):=rfl;rw[qn,e,xc];unfold cL oI;dsimp only;generalize(a==0)=x;generalize(b==0)=y;generalize(c==0)=z;generalize(((List.length l:Nat):Int)==0)=w
  revert x y z w
  decide
 by_cases h4:k=4
 ·subst h4;have e:yM 4=some (2,false,true):=rfl;rw[qn,e,xc];unfold cL oI;dsimp only;generalize(a==0)=x;generalize(b==0)=y;generalize(c==0)=z;generalize(((List.length l:Nat):Int)==0)=w
  revert x y z w
  decide
 by_cases h5:k=5
 ·subst h5;have e:yM 5=some (3,false,true):=rfl;rw[qn,e,xc];unfold cL oI;dsimp only;generalize(a==0)=x;generalize(b==0)=y;generalize(c==0)=z;generalize(((List.length l:Nat):Int)==0)=w
  revert x y z w
  decide
 by_cases h6:k=6
 ·subst h6;have e:yM 6=some (1,true,true):=rfl;rw[qn,e,xc];unfold cL oI;dsimp only;generalize(a==0)=x;generalize(b==0)=y;generalize(c==0)=z;generalize(((List.length l:Nat):Int)==0)=w
  revert x y z w
  decide
 by_cases h7:k=7
 ·subst h7;have e:yM 7=some (0,true,true):=rfl;rw[qn,e,xc];unfold cL oI;dsimp only;generalize(a==0)=x;generalize(b==0)=y;generalize(c==0)=z;generalize(((List.length l:Nat):Int)==0)=w
  revert x y z w
  decide
 by_cases h8:k=8
 ·subst h8;have e:yM 8=some (1,false,true):=rfl;rw[qn,e,xc];unfold cL oI;dsimp only;generalize(a==0)=x;generalize(b==0)=y;generalize(c==0)=z;generalize(((List.length l:Nat):Int)==0)=w
  revert x y z w
  decide
 by_cases h9:k=9
 ·subst h9;have e:yM 9=some (1,false,true):=rfl;rw[qn,e,xc];unfold cL oI;dsimp only;generalize(a==0)=x;generalize(b==0)=y;generalize(c==0)=z;generalize(((List.length l:Nat):Int)==0)=w
  revert x y z w
  decide
 by_cases aa:k=10
 ·subst aa;have e:yM 10=some (0,false,true):=rfl;rw[qn,e,xc];unfold cL oI;dsimp only;generalize(a==0)=x;generalize(b==0)=y;generalize(c==0)=z;generalize(((List.length l:Nat):Int)==0)=w
  revert x y z w
  decide
 by_cases ab:k=11
 ·subst ab;have e:yM 11=some (0,false,true):=rfl;rw[qn,e,xc];unfold cL oI;dsimp only;generalize(a==0)=x;generalize(b==0)=y;generalize(c==0)=z;generalize(((List.length l:Nat):Int)==0)=w
  revert x y z w
  decide
 have e:yM k=some (0,false,false):=by unfold yM NT;simp only[qo,qq,beq_eq_false_iff_ne.2 h1,beq_eq_false_iff_ne.2 h2,beq_eq_false_iff_ne.2 h3,beq_eq_false_iff_ne.2 h4,beq_eq_false_iff_ne.2 h5,beq_eq_false_iff_ne.2 h6,beq_eq_false_iff_ne.2 h7,beq_eq_false_iff_ne.2 h8,beq_eq_false_iff_ne.2 h9,beq_eq_false_iff_ne.2 aa,beq_eq_false_iff_ne.2 ab,qb]
 have hp:cL k a b c l=false:=by unfold cL;rw[qh (by omega),qh (by omega),qh h5,qh h6,qh h7,qh (by omega)]
 rw[qn,e,hp];rfl
theorem qE{l:List Int}(hl:aK l):A6 l=some l:=by unfold aK at hl;unfold A6 sC;rw[qi (by omega)]
theorem G4{ds:List (List Int)}(hd:eP ds):EP ds=some ds:=by
 unfold EP MK;have hl:=hd.1;have h0:=B7 (f:=λv=>(Cv (ds,((ds.length:Nat):Int)) v).ev) (x:=ds)
  (λi hi=>by
   have ht:(ds.take i).length<=i:=xfv _ _;have hg:((ds.take i).length+1)*24<=140737488355328:=by omega
   simp(disch:=omega)only[EV,Cv,hi,qE (hd.2 _ (aG (d:=[]) hi)),eS,hg];rfl)
  (by simp(disch:=omega)only[EV,Cv,xi])
 simp(disch:=omega)only[EV,aEW,h0]
theorem Hx{o:List Int}{ds:List (List Int)}{s:List Int}(ho:aK o)(hd:eP ds)(hs:aK s)(c:Int):Ky o ds s c=some (c,o,ds,s):=by unfold Ky KB;simp(disch:=omega)only[EV,qE ho,qE hs,G4 hd]
theorem oM{o:List Int}{ds:List (List Int)}{s:List Int}(ho:aK o)(hd:eP ds)(hs:aK s)(c:Int):vH o ds s c=some (cC o ds s c):=iH ho hd hs c
theorem kY{o s:List Int}{ds:List (List Int)}{n:Int}(h:Atl o ds s n){k a b c:Int}{l:List Int}(hl:aK l)(hm:iE o.length ds.length s k a b l=true):Sm (eY o ds s k a b c l):=(Az h hl hm).2
theorem kN{o s:List Int}{ds:List (List Int)}{n k a b c:Int}{l:List Int}(hp:cL k a b c l=true)(hm:iE o.length ds.length s k a b l=true){E:List Int×List (List Int)×List Int}(hE:eY o ds s k a b c l=E)(hS:Sm E):
  (Tr.c (Bool) (vH E.1 E.2.1 E.2.2 (n+1)) λr=>Tr.t (!r) (.l ((0:Int),false,([]:List (Int)),([]:List (List (Int))),([]:List (Int)))) (.l (n+1,true,E.1,E.2.1,E.2.2))).ev=some (doT (wR o ds s n k a b c l)):=by
 obtain⟨h1,h2,h3⟩:=hS;unfold wR;rw[hp,hm,hE,qn,oM h1 h2 h3,xc,qo];cases cC E.1 E.2.1 E.2.2 (n+1)<;>rfl
theorem jF{o s:List Int}{ds:List (List Int)}{n k a b c:Int}{l:List Int}(hm:iE o.length ds.length s k a b l=false):wR o ds s n k a b c l=none:=by unfold wR;rw[hm];simp
theorem BN{o s:List Int}{ds:List (List Int)}(ho:o.length<=1000)(n a:Int):R6 a o ds s n=some (cI o.length a):=by unfold R6 YN cI;rw[qn,dI,xc,qq,aN (by omega) (by omega)]
theorem T2{α:Type}{a:Int}{l:List α}(h0:0<=a)(h:a<(l.length:Int)):E3 a (a+1) l=some (cO a l):=by unfold E3 cO;rw[qi (by omega),show(a+1).toNat=a.toNat+1 by omega]
theorem Jq{ds:List (List Int)}{l:List Int}(hl:l.length=ds.length)(hd:ds.length<=7)(hr:∀r∈ds,r.length<=7)(k:(Bool)×(List (Int))×(Int)×(Int)×(Int)×(List (Int))×(List (Int))×(List (Int))×(List (Int)))(hk:k.2.1=l)(aa:k.2.2.1=((l.length:Nat):Int)):
  aCm k (0,ds)=some (List.zipWith (λr x=>r++ [x]) ds l):=by
 have h:=(aR (f:=λv=>(HT k v).ev) (n:=ds.length) (mk:=λi (x:List (List Int))=>((i:Int),x)) (I:=λi x=>x=List.zipWith (λr y=>r++ [y]) (ds.take i) (l.take i)++ds.drop i) (g:=λx i=>x.set i (ds.getD i []++ [l.getD i 0])) (fin:=λs=>s) (s0:=ds) (by simp)
  (λi x hi hx=>by
   obtain⟨z1,z2,z3⟩:=Gc hi hl hx;refine⟨?_,z3⟩;have ab:i<l.length:=by omega
   have ad:i<x.length:=by omega
   have r1:=nY (ds.getD i []) (l.getD i 0) (by have:=hr _ (aG (d:=[]) hi);omega);simp(disch:=omega)only[EV,HT,hk,aa,ab,ad,z1,r1];rfl)
  (λx hx=>by
   have hn:¬ds.length<l.length:=by omega
   simp(disch:=omega)only[EV,HT,aa,hn]))
 obtain⟨h1,h2⟩:=h;have h3:aCm k (0,ds)=_:=h1;rw[h3,h2,sX,xds,yT,Gg (by omega)]
theorem XN{o s:List Int}{ds:List (List Int)}{n:Int}(h:Atl o ds s n){a:Int}(h0:0<=a)(ha:a<(o.length:Int))(k:(Int)×(Bool)×(Int)×(Int)×(Int)×(List (Int))×(List (Int)))(hk:k.1=a)(aa:k.2.2.1=((ds.length:Nat):Int)):
  aJb k (0,ds)=some (ds.map (cO a)):=by
 have h7:=h.fld.len;have hm:=h.fld.clients;have ab:=qA h.fld;have hw:IntKind.wrap .i64 (a+1)=a+1:=aN (by omega) (by omega);have l1:=uR (f:=λv=>(FZ k v).ev) (cO a) [] (l:=ds)
  (λi x hi hx hg=>by
   have ae:=ab _ (aG (d:=[]) hi);have e3:NK a (a+1) (ds.getD i [])=some (cO a (ds.getD i [])):=T2 h0 (by omega);have ad:i<x.length:=by omega
   simp(disch:=omega)only[EV,FZ,hk,aa,hi,ad,hg,hw,e3];rfl)
  (λx hx=>by simp(disch:=omega)only[EV,FZ,aa,xi])
 exact l1
theorem aGj{o s:List Int}{ds:List (List Int)}{n:Int}(h:Atl o ds s n){a:Int}(k:(Int)×(Bool)×(Int)×(Int)×(Int)×(List (Int))×(List (List (Int))))(hk:k.1=a)(aa:k.2.2.1=((s.length:Nat):Int)):
  aHX k (0,s)=some (s.map (fH a)):=by
 have h7:=h.fld.len;have af:=h.set.len;have l2:=uR (f:=λv=>(Tf k v).ev) (fH a) 0 (l:=s)
  (λi x hi hx hg=>by
   have ab:i<x.length:=by omega
   have hv:=h.set.1 _ (aG (d:=0) hi);have hw:IntKind.wrap .i64 (s.getD i 0-1)=s.getD i 0-1:=aN (by omega) (by omega);unfold fH;by_cases ae:a<s.getD i 0;·simp(disch:=omega)only[EV,Tf,hk,aa,hi,ab,hg,ae,hw];rfl
   ·have ad:x.set i (s.getD i 0)=x:=by rw[<-hg];exact Bm 0 ab
    simp(disch:=omega)only[EV,Tf,hk,aa,hi,ab,hg,ae,ad];rfl)
  (λx hx=>by simp(disch:=omega)only[EV,Tf,aa,xi])
 exact l2
theorem DC{o s:List Int}{ds:List (List Int)}{n:Int}(h:Atl o ds s n)(k a b c:Int){l:List Int}(hl:aK l):aAJ o ds s n k a b c l=some (doT (wR o ds s n k a b c l)):=by
 have h7:=h.fld.len;have bb:=h.fld.pos;have hc:=h.fld.clients;have ai:=qA h.fld;have bc:=h.set.len;have hn:=h.count;obtain⟨lo,ld⟩:=rC h.fld;have ls:aK s:=h.set.low h7;have hw:IntKind.wrap .i64 (n+1)=n+1:=aN (by omega) (by omega);have e0:=oM lo ld ls n;rw[atl_iff.2 h]at e0;have e1:=BS k a b c l;have e2:=Hx lo ld ls n;have e3:=s7 h7 h.set;have e4:m9 a 0 (IntKind.wrap .i64 (((ds.length:Nat):Int) -1))=some (cI ds.length a):=by rw[aN (by omega) (by omega),dI];rfl
 have e5:=λx=>BN (s:=s) (ds:=ds) (show o.length<=1000 by omega) n x;have ad:∀{m:Nat} {x:Int},cI m x=true->0<=x/\x<(m:Int):=λ{m x} hx=>by have:=isIn_iff.1 hx;omega
 have al:∀{x:List Int},x.length<=1000->aK x:=λ{x} hx=>by unfold aK;omega
 unfold aAJ aEQ;rw[qn,e0,xc,qo,xl,qb,qn,e1,xc,qo];cases hp:cL k a b c l with
 |false=>
  have hd:wR o ds s n k a b c l=none:=by unfold wR;rw[hp];rfl
  rw[hd];rfl
 |true=>
  rw[xl,qb,qn,e2,xc,qn,e3,xc,qn,e4,xc];dsimp only;rw[hw];clear e0 e1 e2 e3;by_cases h1:k=1
  ·subst h1;rw[qo,show((1:Int)==1)=true from rfl,qa,qn,e5,xc,qo];cases ab:cI o.length a with
   |false=>
    have hm:iE o.length ds.length s 1 a b l=false:=by show bO o.length s a=false;unfold bO;rw[ab];rfl
    rw[jF hm];rfl
   |true=>
    have q1:=ad ab;have e6:=hU h7 h.set q1.1 (show a<7 by omega);rw[qa,qn,e6,xc];cases ae:s.contains a with
    |true=>
     have hm:iE o.length ds.length s 1 a b l=false:=by show bO o.length s a=false;unfold bO;rw[ab,ae];rfl
     rw[jF hm];rfl
    |false=>
     have hm:iE o.length ds.length s 1 a b l=true:=by show bO o.length s a=true;unfold bO;rw[ab,ae];rfl
     have ao:=bY ae;have e7:=O1 h7 h.set q1.1 (show a<7 by omega) ao;unfold RC at e7;rw[qo,nE,qa,qp,qc q1.1,qa,qn,e7,xc,qo,xl,qb];exact kN hp hm (E:=(o,ds,ins a s)) rfl ⟨lo,ld,(h.set.ins q1.1 q1.2 ao).low h7⟩
  by_cases h2:k=2
  ·subst h2;rw[qo,show((2:Int)==1)=false from rfl,qb,qo,show((2:Int)==2)=true from rfl,qa,qn,e5,xc,qo];cases ab:cI o.length a with
   |false=>
    have hm:iE o.length ds.length s 2 a b l=false:=by
     show s.contains a=false;cases ae:s.contains a with
     |false=>rfl
     |true=>have hr:=h.set.1 a (xce.1 ae);have:cI o.length a=true:=isIn_iff.2 (by omega);rw[this]at ab;cases ab
    rw[jF hm];rfl
   |true=>
    have q1:=ad ab;have e6:=hU h7 h.set q1.1 (show a<7 by omega);rw[qa,qn,e6,xc];cases ae:s.contains a with
    |false=>have hm:iE o.length ds.length s 2 a b l=false:=ae;rw[jF hm];rfl
    |true=>have hm:iE o.length ds.length s 2 a b l=true:=ae;have e7:=H4 h7 h.set q1.1 (show a<7 by omega);unfold anB at e7;rw[qo,qa,qp,qc q1.1,qa,qn,e7,xc,qo,xl,qb];exact kN hp hm (E:=(o,ds,wo s a)) rfl ⟨lo,ld,(h.set.wo a).low h7⟩
  by_cases h3:k=3
  ·subst h3;have aa:iE o.length ds.length s 3 a b l=(s.contains a&&bO o.length s b):=rfl;rw[qo,show((3:Int)==1)=false from rfl,qb,qo,show((3:Int)==2)=false from rfl,qb,qo,show((3:Int)==3)=true from rfl,qa,qn,e5,xc,qo];cases ab:cI o.length a with
   |false=>
    have ae:s.contains a=false:=by
     cases ae:s.contains a with
     |false=>rfl
     |true=>have hr:=h.set.1 a (xce.1 ae);have:cI o.length a=true:=isIn_iff.2 (by omega);rw[this]at ab;cases ab
    rw[jF (by rw[aa,ae];rfl)];rfl
   |true=>
    have q1:=ad ab;have e6:=hU h7 h.set q1.1 (show a<7 by omega);rw[qa,qn,e5,xc,qo];cases af:cI o.length b with
    |false=>
     have ah:bO o.length s b=false:=by unfold bO;rw[af];rfl
     rw[jF (by rw[aa,ah,xfl])];rfl
    |true=>
     have q2:=ad af;have e7:=hU h7 h.set q2.1 (show b<7 by omega);rw[qa,qn,e6,xc];cases ae:s.contains a with
     |false=>rw[jF (by rw[aa,ae];rfl)];rfl
     |true=>
      rw[qo,qa,qn,e7,xc];cases aj:s.contains b with
      |true=>
       have ah:bO o.length s b=false:=by unfold bO;rw[af,aj];rfl
       rw[jF (by rw[aa,ah,xfl])];rfl
      |false=>
       have ah:bO o.length s b=true:=by unfold bO;rw[af,aj];rfl
       have ar:=bY aj;have e8:=l3 h7 h.set q1.1 (show a<7 by omega) q2.1 (show b<7 by omega) ar;rw[qo,nE,qa,qn,e8,xc,qo,xl,qb];exact kN hp (by rw[aa,ae,ah];rfl) (E:=(o,ds,ins b (wo s a))) rfl ⟨lo,ld,((h.set.wo a).ins q2.1 q2.2 (lD ar)).low h7⟩
  by_cases h4:k=4
  ·subst h4;have aa:iE o.length ds.length s 4 a b l=cI o.length a:=rfl;rw[qo,show((4:Int)==1)=false from rfl,qb,qo,show((4:Int)==2)=false from rfl,qb,qo,show((4:Int)==3)=false from rfl,qb,qo,show((4:Int)==4)=true from rfl,qa,qn,e5,xc,qo];cases ab:cI o.length a with
   |false=>rw[jF (aa.trans ab)];rfl
   |true=>
    have q1:=ad ab;have i1:aC a o.length=true:=bK (by omega) (by omega);have i2:a.toNat<o.length:=by omega
    rw[qa,qp,i1,qa,qp,qc i2,qa,qo,xl,qb];exact kN hp (aa.trans ab) (E:=(o.set a.toNat b,ds,s)) rfl ⟨al (by rw[C7];omega),ld,ls⟩
  by_cases h5:k=5
  ·subst h5;have aa:iE o.length ds.length s 5 a b l=(cI ds.length a&&cI o.length b):=rfl;rw[qo,show((5:Int)==1)=false from rfl,qb,qo,show((5:Int)==2)=false from rfl,qb,qo,show((5:Int)==3)=false from rfl,qb,qo,show((5:Int)==4)=false from rfl,qb,qo,show((5:Int)==5)=true from rfl,qa,qo];cases ab:cI ds.length a with
   |false=>rw[jF (by rw[aa,ab];rfl)];rfl
   |true=>
    have q1:=ad ab;rw[qa,qn,e5,xc,qo];cases af:cI o.length b with
    |false=>rw[jF (by rw[aa,af,xfl])];rfl
    |true=>
     have q2:=ad af;have i2:a.toNat<ds.length:=by omega
     have bd:=ai _ (aG (d:=[]) i2);have i1:aC a ds.length=true:=bK (by omega) (by omega);have i3:aC b (ds.getD a.toNat []).length=true:=bK (by omega) (by omega);have i4:b.toNat<(ds.getD a.toNat []).length:=by omega
     rw[qa,qp,i1,qa,qp,qc i2,qa,qp,i3,qa,qp,qc i4,qa,qo,xl,qb];exact kN hp (by rw[aa,ab,af];rfl) (E:=(o,ds.set a.toNat ((ds.getD a.toNat []).set b.toNat c),s)) rfl (kY h hl (k:=5) (c:=c) (by rw[aa,ab,af];rfl))
  by_cases h6:k=6
  ·subst h6;have aa:iE o.length ds.length s 6 a b l=(((l.length:Nat):Int)==((ds.length:Nat):Int)):=rfl;rw[qo,show((6:Int)==1)=false from rfl,qb,qo,show((6:Int)==2)=false from rfl,qb,qo,show((6:Int)==3)=false from rfl,qb,qo,show((6:Int)==4)=false from rfl,qb,qo,show((6:Int)==5)=false from rfl,qb,qo,show((6:Int)==6)=true from rfl,qa,qo];cases ab:(((l.length:Nat):Int)==((ds.length:Nat):Int))with
   |false=>rw[jF (aa.trans ab)];rfl
   |true=>
    have av:l.length=ds.length:=by have:=eq_of_beq ab;omega
    have r1:=nY o a (by omega);rw[qa,qp,qc r1,qa,qn,Jq av hc (λr hr=>by have:=ai r hr;omega) _ rfl rfl,xc,qo,xl,qb];exact kN hp (aa.trans ab) (E:=(o++ [a],List.zipWith (λr x=>r++ [x]) ds l,s)) rfl (kY h hl (k:=6) (c:=c) (aa.trans ab))
  by_cases au:k=7;·subst au;have aa:iE o.length ds.length s 7 a b l=true:=rfl;have r1:=mH ds (by omega);rw[qo,show((7:Int)==1)=false from rfl,qb,qo,show((7:Int)==2)=false from rfl,qb,qo,show((7:Int)==3)=false from rfl,qb,qo,show((7:Int)==4)=false from rfl,qb,qo,show((7:Int)==5)=false from rfl,qb,qo,show((7:Int)==6)=false from rfl,qb,qo,show((7:Int)==7)=true from rfl,qa,qn,qE hl,xc,qp,qc r1,qa,eS];exact kN hp aa (E:=(o,ds++ [l],s)) rfl (kY h hl (k:=7) (c:=c) aa)
  by_cases h8:k=8
  ·subst h8;have aa:iE o.length ds.length s 8 a b l=bO o.length s a:=rfl;rw[qo,show((8:Int)==1)=false from rfl,qb,qo,show((8:Int)==2)=false from rfl,qb,qo,show((8:Int)==3)=false from rfl,qb,qo,show((8:Int)==4)=false from rfl,qb,qo,show((8:Int)==5)=false from rfl,qb,qo,show((8:Int)==6)=false from rfl,qb,qo,show((8:Int)==7)=false from rfl,qb,qo,show((8:Int)==8)=true from rfl,qa,qn,e5,xc,qo];cases ab:cI o.length a with
   |false=>rw[jF (by rw[aa];unfold bO;rw[ab];rfl)];rfl
   |true=>
    have q1:=ad ab;have e6:=hU h7 h.set q1.1 (show a<7 by omega);rw[qa,qn,e6,xc];cases ae:s.contains a with
    |true=>rw[jF (by rw[aa];unfold bO;rw[ab,ae];rfl)];rfl
    |false=>
     have hm:iE o.length ds.length s 8 a b l=true:=by rw[aa];unfold bO;rw[ab,ae];rfl
     have ak:IntKind.wrap .i64 (a+1)=a+1:=aN (by omega) (by omega);have e7:NK a (a+1) o=some (cO a o):=T2 q1.1 q1.2;rw[qo,nE,qa,ak,qn,e7,xc,qn,XN h q1.1 q1.2 _ rfl rfl,xc,qn,aGj h _ rfl rfl,xc,qo,xl,qb];exact kN hp hm (E:=(cO a o,ds.map (cO a),s.map (fH a))) rfl (kY h hl (k:=8) (c:=c) hm)
  by_cases h9:k=9
  ·subst h9;have aa:iE o.length ds.length s 9 a b l=cI ds.length a:=rfl;rw[qo,show((9:Int)==1)=false from rfl,qb,qo,show((9:Int)==2)=false from rfl,qb,qo,show((9:Int)==3)=false from rfl,qb,qo,show((9:Int)==4)=false from rfl,qb,qo,show((9:Int)==5)=false from rfl,qb,qo,show((9:Int)==6)=false from rfl,qb,qo,show((9:Int)==7)=false from rfl,qb,qo,show((9:Int)==8)=false from rfl,qb,qo,show((9:Int)==9)=true from rfl,qa,qo];cases ab:cI ds.length a with|false=>rw[jF (aa.trans ab)];rfl|true=>have q1:=ad ab;have ak:IntKind.wrap .i64 (a+1)=a+1:=aN (by omega) (by omega);have e7:aJS a (a+1) ds=some (cO a ds):=T2 q1.1 q1.2;rw[qa,ak,qn,e7,xc,qo,xl,qb];exact kN hp (aa.trans ab) (E:=(o,cO a ds,s)) rfl (kY h hl (k:=9) (c:=c) (aa.trans ab))
  by_cases aw:k=10
  ·subst aw;have aa:iE o.length ds.length s 10 a b l=decide ((0:Int)<((s.length:Nat):Int)):=rfl;have e6:=Um lo ld ls;rw[qo,show((10:Int)==1)=false from rfl,qb,qo,show((10:Int)==2)=false from rfl,qb,qo,show((10:Int)==3)=false from rfl,qb,qo,show((10:Int)==4)=false from rfl,qb,qo,show((10:Int)==5)=false from rfl,qb,qo,show((10:Int)==6)=false from rfl,qb,qo,show((10:Int)==7)=false from rfl,qb,qo,show((10:Int)==8)=false from rfl,qb,qo,show((10:Int)==9)=false from rfl,qb,qo,show((10:Int)==10)=true from rfl,qa,qn,e6,xc];by_cases h0:s=[]
   ·have ay:dS o ds s=false:=by unfold dS;rw[h0];simp
    rw[jF (by rw[aa,h0];rfl),ay];rfl
   ·have hq:=xaq.2 h0;have hm:iE o.length ds.length s 10 a b l=true:=by rw[aa];exact qc (by omega)
    rw[Fs h h0,qa,qo,xl,qb];exact kN hp hm (E:=(o,ds,(nX o ds s).2)) rfl (kY h hl (k:=10) (c:=c) hm)
  by_cases az:k=11;·subst az;have aa:iE o.length ds.length s 11 a b l=true:=rfl;rw[qo,show((11:Int)==1)=false from rfl,qb,qo,show((11:Int)==2)=false from rfl,qb,qo,show((11:Int)==3)=false from rfl,qb,qo,show((11:Int)==4)=false from rfl,qb,qo,show((11:Int)==5)=false from rfl,qb,qo,show((11:Int)==6)=false from rfl,qb,qo,show((11:Int)==7)=false from rfl,qb,qo,show((11:Int)==8)=false from rfl,qb,qo,show((11:Int)==9)=false from rfl,qb,qo,show((11:Int)==10)=false from rfl,qb,qo,show((11:Int)==11)=true from rfl,qa,qn,GT lo ld h.fld,xc,qo,xl,qb];exact kN hp aa (E:=(o,ds,oO o ds)) rfl (kY h hl (k:=11) (c:=c) aa)
  have ba:cL k a b c l=false:=by unfold cL;rw[qh (by omega),qh (by omega),qh h5,qh h6,qh au,qh (by omega)]
  rw[ba]at hp;cases hp
section
variable {o:List Int}{ds:List (List Int)}{s:List Int}{n:Int}
def gdB(c:UInt8):Bool:=vI c&& !(c.toNat==63)
def Gd(s:List UInt8):Prop:=∀x∈s,gdB x=true
theorem If(u:Nat):Gd (Lib.decDigits u):=λx hx=>by have:=uJ hx;unfold gdB vI;simp only[xf,qe,D9,qf];omega
theorem BJ(x:Int):Gd (Lib.itoa x):=by
 by_cases h:0<=x
 ·obtain⟨u,rfl⟩:∃u:Nat,x=(u:Int):=⟨x.toNat,by omega⟩
  rw[Lib.itoa_nonneg];exact If u
 ·obtain⟨u,rfl,hu⟩:∃u:Nat,x= -(u:Int)/\1<=u:=⟨(-x).toNat,by omega,by omega⟩
  rw[Lib.itoa_neg u hu];intro y hy;rcases xae.1 hy with rfl|hy;·rfl
  ·exact If u y hy
theorem Nw{sep:List UInt8}(hs:Gd sep):∀l:List (List UInt8),(∀x∈l,Gd x)->Gd (Lib.join l sep)
 | [],_=>λx hx=>by rw[Lib.join_nil]at hx;cases hx
 |w::r,h=>λx hx=>by
  rw[Lib.join_cons]at hx;unfold Lib.joinTail at hx;rcases xp.1 hx with hx|hx;·exact h w xu x hx
  ·obtain⟨t,ht,hx⟩:=List.mem_flatten.1 hx;obtain⟨u,hu,rfl⟩:=xaf.1 ht;rcases xp.1 hx with hx|hx;·exact hs x hx
   ·exact h u (xr _ hu) x hx
theorem GD(l:List Int):Gd (bL l):=Nw (by unfold Gd;decide) _ λx hx=>by obtain⟨y,_,rfl⟩:=xaf.1 hx;exact If _
theorem zC(l:List Int):Gd (jH l):=by
 unfold jH;split;·unfold Gd;decide
 ·exact GD l
def E9(x:Option (List UInt8×Bool))(y:Option (List UInt8)):Prop:=∃rep ok,x=some (rep,ok)/\y=some (if ok then rep else[63])/\(ok=true->Gd rep)
theorem kD{c:Bool}{a a':Tr (List UInt8×Bool)}{b b':Tr (List UInt8)}(h1:E9 a.ev b.ev)(h2:c=false->E9 a'.ev b'.ev):E9 (Tr.t c a a').ev (Tr.t c b b').ev:=by
 cases c with
 |true=>exact h1
 |false=>exact h2 rfl
theorem Gb{x:Int}(h: -999999<=x/\x<=999999):pL x=some (Lib.itoa x):=by
 unfold pL L5 Mu;have e:(decide (-9223372036854775808<=x)&&decide (x<=9223372036854775807))=true:=by simp only[xf,qe];omega
 rw[qi e]
theorem uK{X Y:Option (Int×Bool)}{v:Int×Bool}(hx:X=some v)(hy:Y=some v)(h: -999999<=v.1/\v.1<=999999):
  E9 (Tr.c (Int×Bool) X λr=>.c (List UInt8×Bool) (Jb r.1 r.2) λq=>.l (q.1,q.2)).ev (Tr.c (Int×Bool) Y λr=>.c (List UInt8) (Gx r.1 r.2) λq=>.l q).ev:=by
 have e:Jb v.1 v.2=some (Lib.itoa v.1,v.2):=by unfold Jb aAF;rw[qn,Gb h,xc,qq]
 refine⟨Lib.itoa v.1,v.2,?_,?_,λ_=>BJ _⟩;·rw[qn,hx,xc,qn,e,xc,qq]
 ·rw[qn,hy,xc,qn,Tj λ_=>h,xc,qq]
theorem o7{X Y:Option (Bool×List Int)}{v:Bool×List Int}(hx:X=some v)(hy:Y=some v)(h:zV v.2):
  E9 (Tr.c (Bool×List Int) X λr=>.c (List UInt8×Bool) (ES r.2 r.1) λq=>.l (q.1,q.2)).ev (Tr.c (Bool×List Int) Y λr=>.c (List UInt8) (a9 r.2 r.1) λq=>.l q).ev:=by
 refine⟨jH v.2,v.1,?_,?_,λ_=>zC _⟩;·rw[qn,hx,xc,qn,pP h,xc,qq]
 ·rw[qn,hy,xc,qn,kQ h,xc,qq]
theorem Fu{X Y:Option (Bool×Bool)}{v:Bool×Bool}(hx:X=some v)(hy:Y=some v):
  E9 (Tr.c (Bool×Bool) X λr=>.c (List UInt8×Bool) (aFG r.1 r.2) λq=>.l (q.1,q.2)).ev (Tr.c (Bool×Bool) Y λr=>.c (List UInt8) (YZ r.1 r.2) λq=>.l q).ev:=by
 obtain⟨a,b⟩:=v;subst hx hy;cases a<;>cases b<;>exact⟨_,_,rfl,rfl,by unfold Gd;decide⟩
theorem JT(h:Atl o ds s n)(lo:aK o)(ld:eP ds)(ls:aK s):∃v,aBZ o ds s n=some v/\aAB o ds s n=some v/\ -999999<=v.1/\v.1<=999999:=by
 have e1:=nD lo ld ls n;have e2:=mY lo ld ls n;unfold lL at e1 e2;rw[atl_iff.2 h,Gq]at e1 e2;unfold aAB YA aBZ aCp;by_cases h0:0<s.length
 ·rw[qc h0,qa]at e1 e2;obtain⟨p,p1,p2,p3⟩:=xY lo ld h.fld;have e3:=GF h.fld p1;have e4:=PG h.fld p1;have hl:=p1.len;have hc:=h.fld.clients;have aa:=qS p1 h.fld ds.length (xm _);rw[<-hl]at aa;have q1:=H3 h.fld h.set;have q2:=nA h.fld (Places.of ls (ris_iff.2 h.set)) h0;have hw:IntKind.wrap .i64 (Bb o s+eX ds s-fZ p p.length)=Bb o s+eX ds s-fZ p p.length:=aN (by omega) (by omega);refine⟨(Bb o s+eX ds s-fZ p p.length,true),?_,?_,by simp only;omega,by simp only;omega⟩;·rw[qn,e2,xc,qo,xl,qb,qn,p3,xc,qn];dsimp only;rw[e4,xc,qq,hw]
  ·rw[qn,e1,xc,qo,xl,qb,qn,p2,xc,qn,e3,xc,qq,hw]
 ·rw[qd h0,qb]at e1 e2;refine⟨(0,false),?_,?_,by simp only;omega,by simp only;omega⟩;·rw[qn,e2,xc,qo,nE,qa,qq]
  ·rw[qn,e1,xc,qo,nE,qa,qq]
theorem BB(h:Atl o ds s n)(w:List UInt8):E9 (Z9 o ds s n w []) (ND o ds s n w):=by
 obtain⟨lo,ld⟩:=rC h.fld;have ls:=h.set.low h.fld.len;have h7:=h.fld.len;have hc:=h.fld.clients;have aa:=Places.of ls (ris_iff.2 h.set);have ab:dS o ds s=decide (0<s.length):=by unfold dS;rw[fieldB_iff.2 h.fld,ris_iff.2 h.set,Gq,Gq]
 -- total
 have t1: -999999<=(lL o ds s n).1/\(lL o ds s n).1<=999999:=by
  unfold lL;rw[atl_iff.2 h,Gq];have q1:=H3 h.fld h.set;by_cases h0:0<s.length;·have q2:=nA h.fld aa h0;rw[qc h0,qa];simp only;omega
  ·rw[qd h0,qb];simp only;omega
 obtain⟨g,g1,g2,g3⟩:=JT h lo ld ls;have two:=j0 lo ld ls;have iY:=lJ lo ld ls;rw[ab]at two iY
 -- ad of a set
 have sv:∃v:Int×Bool,aAe o ds s=some v/\aBa o ds s=some v/\ -999999<=v.1/\v.1<=999999:=by
  unfold aAe aEp aBa aFI;by_cases h0:0<s.length
  ·rw[qc h0]at two iY;have q2:=nA h.fld aa h0;refine⟨(eX ds s,true),?_,?_,by simp only;omega,by simp only;omega⟩;·rw[qn,iY,xc,qo,xl,qb,qn,sS h.fld aa h0,xc,qq]
   ·rw[qn,two,xc,qo,xl,qb,qn,nO h.fld aa h0,xc,qq]
  ·rw[qd h0]at two iY;refine⟨(0,false),?_,?_,by simp only;omega,by simp only;omega⟩;·rw[qn,iY,xc,qo,nE,qa,qq]
   ·rw[qn,two,xc,qo,nE,qa,qq]
 have rc:∃v:Int×Bool,aEJ o ds s=some v/\aCl o ds s=some v/\ -999999<=v.1/\v.1<=999999:=by
  unfold aEJ aDN aCl aCJ;by_cases h0:0<s.length
  ·rw[qc h0]at two iY;have q2:=Tb h.fld aa h0;refine⟨(Wl ds s,true),?_,?_,by simp only;omega,by simp only;omega⟩;·rw[qn,iY,xc,qo,xl,qb,qn,Cg h.fld aa h0,xc,qq]
   ·rw[qn,two,xc,qo,xl,qb,qn,B5 h.fld aa h0,xc,qq]
  ·rw[qd h0]at two iY;refine⟨(0,false),?_,?_,by simp only;omega,by simp only;omega⟩;·rw[qn,iY,xc,qo,nE,qa,qq]
   ·rw[qn,two,xc,qo,nE,qa,qq]
 have sb:∃v:Bool×List Int,aGB o ds s=some v/\aDB o ds s=some v/\zV v.2:=by
  unfold aGB aBM aDB ZW;by_cases h0:0<s.length
  ·rw[qc h0]at two iY;have k:aIK (s,o,ds) ((0:Int),([]:List Int))=some ((List.range ds.length).map λj=>(F8 ds j s:Int)):=
    iP (f:=λv=>(IK (s,o,ds) v).ev) (n:=ds.length) (mk:=λk (l:List Int)=>((k:Int),l)) (λj=>(F8 ds j s:Int)) (λl=>l)
     (λj l hj hl=>by
      have e:(l.length+List.length [(F8 ds j s:Int)])*8<=140737488355328:=by simp;omega
      simp(disch:=omega)only[EV,IK,hj,J1 h.fld aa h0 hj,e];rfl) (λl _=>by simp(disch:=omega)only[EV,IK,xi])
   refine⟨(true,(List.range ds.length).map λj=>(F8 ds j s:Int)),?_,?_,by simpa using hc,λx hx=>?_⟩;·rw[qn,iY,xc,qo,xl,qb,qn,K3 h.fld aa h0,xc,qq]
   ·rw[qn,two,xc,qo,xl,qb,qn,k,xc,qq]
   ·obtain⟨j,_,rfl⟩:=xaf.1 hx;have:=U5 (ds:=ds) (j:=j) aa h0;omega
  ·rw[qd h0]at two iY;refine⟨(false,[]),?_,?_,by simp,λx hx=>by cases hx⟩;·rw[qn,iY,xc,qo,nE,qa,qq]
   ·rw[qn,two,xc,qo,nE,qa,qq]
 obtain⟨v1,a1,b1,c1⟩:=sv;obtain⟨v2,a2,b2,c2⟩:=rc;obtain⟨v3,a3,b3,c3⟩:=sb;have sg:uO o ds=some true:=by rw[eQ lo ld,fieldB_iff.2 h.fld]
 have ig:tQ o ds=some true:=by rw[cG lo ld,fieldB_iff.2 h.fld]
 have mt:aEZ o ds=some (Dq ds o.length,true):=by unfold aEZ aCx;rw[qn,sg,xc,qo,xl,qb,qn,Kf h.fld,xc,qq]
 have mi:MH o ds=some (Dq ds o.length,true):=by rw[PT lo ld,fieldB_iff.2 h.fld,qa]
 obtain⟨p,p1,p2,p3⟩:=xY lo ld h.fld;have pf:zV p:=⟨by have:=p1.len;omega,λx hx=>by obtain⟨i,hi,e⟩:=xbu.1 hx;have:=p1.val h.fld (show i<ds.length by have:=p1.len;omega);rw[xd,xh hi,xT,e]at this;omega⟩
 have ps:aFw o ds=some (true,p):=by unfold aFw aGt;rw[qn,sg,xc,qo,xl,qb,qn,p2,xc,qq]
 have gr:∃l,Tv o ds=some (true,l)/\We o ds=some (l,true)/\zV l:=by
  by_cases h0:0<ds.length;·obtain⟨q,q1,q2,q3⟩:=yR h.fld h0 ig;obtain⟨i1,i2⟩:=Jy h.fld q1;exact⟨_,q3,yC h.fld sg q1 q2 h0,i2,λx hx=>by have:=i1 x hx;omega⟩
  ·have hd:((((ds.length:Nat):Int))==0)=true:=beq_iff_eq.2 (by omega);have hp:=(xE h.fld.pos).1;refine⟨[(eJ o:Int)],?_,?_,by simp,λx hx=>by rw[xo.1 hx];omega⟩;·unfold Tv OZ;rw[qn,ig,xc,qo,xl,qb,qo,hd,qa,qn,Pl h.fld,xc,qq]
   ·unfold We PJ;rw[qn,sg,xc,qo,xl,qb,qo,hd,qa,qn,Vi h.fld,xc,qq]
 obtain⟨gl,r1,r2,r3⟩:=gr;have gt:E9 (Tr.c (Bool×List Int) (Tv o ds) λr=>.c (List UInt8×Bool) (ES r.2 r.1) λq=>.l (q.1,q.2)).ev (Tr.c (List Int×Bool) (We o ds) λr=>.c (List UInt8) (a9 r.1 r.2) λq=>.l q).ev:=by
  refine⟨jH gl,true,?_,?_,λ_=>zC _⟩;·rw[qn,r1,xc,qn,pP r3,xc,qq]
  ·rw[qn,r2,xc,qn,kQ r3,xc,qq]
 have ft:E9 (Tr.c (List UInt8×Bool) (NQ o ds) λq=>.l (q.1,q.2)).ev (Tr.c (List UInt8) (JQ o ds) λq=>.l q).ev:=by
  refine⟨wL o ds,true,?_,?_,λ_=>Nw (by unfold Gd;decide) _ λx hx=>by obtain⟨y,_,rfl⟩:=xaf.1 hx;exact GD y⟩;·rw[qn,yP lo ld h.fld,xc,qq]
  ·rw[qn,Rl h.fld,xc,qq];rfl
 unfold Z9 Xj ND aBb;rw[qo,show(((([]:List Int).length:Nat):Int)==1)=false from rfl,qb,qo,show decide ((0:Int)<((([]:List Int).length:Nat):Int))=false from rfl,qb];exact kD (uK (mY lo ld ls n) (nD lo ld ls n) t1) λ_=>
  kD (uK g1 g2 g3) λ_=>kD (uK a1 b1 c1) λ_=>kD (uK a2 b2 c2) λ_=>kD (o7 a3 b3 c3) λ_=>
  kD (Fu mi mt) λ_=>kD ft λ_=>kD (o7 p3 ps pf) λ_=>kD gt λ_=>
  kD (Fu (Cz lo ld ls) (Af lo ld ls)) λ_=>kD (o7 (n5 lo ld h.fld) (q7 lo ld h.fld) (AY h7)) λ_=>⟨[],false,rfl,rfl,by intro h;cases h⟩
end
section
variable {o:List Int}{ds:List (List Int)}{s:List Int}{n:Int}
abbrev aAK:Type:=List Int×List (List Int)×List Int×Int×List UInt8×Bool
abbrev NB:Type:=List Int×List (List Int)×List Int×Int×List UInt8
def pU(st:List Int×List (List Int)×List Int×Int)(x:Option aAK)(y:Option NB):Prop:=∃o ds s n rep ok,Atl o ds s n/\x=some (o,ds,s,n,rep,ok)/\y=some (o,ds,s,n,if ok then rep else[63])/\(if ok then Gd rep else(o,ds,s,n)=st)
theorem oL{st:List Int×List (List Int)×List Int×Int}{c:Bool}{a a':Tr aAK}{b b':Tr NB}(h1:pU st a.ev b.ev)(h2:pU st a'.ev b'.ev):pU st (Tr.t c a a').ev (Tr.t c b b').ev:=by
 cases c with
 |true=>exact h1
 |false=>exact h2
theorem Nq(h7:o.length<=7)(h:ris o.length s):zV s:=⟨by have:=h.len;omega,λx hx=>by have:=h.1 x hx;omega⟩
theorem lI{st:List Int×List (List Int)×List Int×Int}(h:Atl o ds s n){x:Int}(hx: -999999<=x/\x<=999999):pU st (Tr.c (List UInt8) (pL x) λq=>.l (o,ds,s,n,q,true)).ev (Tr.c (List UInt8) (qQ 1000000 x) λq=>.l (o,ds,s,n,q)).ev:=
 ⟨o,ds,s,n,Lib.itoa x,true,h,by rw[qn,Gb hx,xc,qq],by rw[qn,mO hx,xc,qq];rfl,BJ x⟩
theorem yZ{st:List Int×List (List Int)×List Int×Int}(h:Atl o ds s n):pU st (Tr.l (o,ds,s,n,jH s,true)).ev (Tr.c (List UInt8) (Ss s) λq=>.l (o,ds,s,n,q)).ev:=
 ⟨o,ds,s,n,jH s,true,h,rfl,by rw[qn,rO (Nq h.fld.len h.set),xc,qq];rfl,zC s⟩
theorem jY(h:Atl o ds s n){k a b c m:Int}{li:Bool}{l L:List Int}(hL:aK L)(hb: -999999<=b/\b<=999999)(hc: -999999<=c/\c<=999999)(hn:yM k=some (m,li,true))(aa:rM m li l=true)(ad:aDw m l=(m,a,b,c))(ab:l.drop m.toNat=L):
  pU (o,ds,s,n) (Bs o ds s n k l) (i9 o ds s n k a b c L):=by
 have ae:0<=m:=by rcases Cn k _ hn with e|e|e|e<;>simp only at e<;>omega
 have af:m<=((l.length:Nat):Int):=by unfold rM at aa;rw[xf,qe]at aa;exact aa.1
 have e1:Bs o ds s n k l=(zN o ds s n k l (m,a,b,c)).ev:=by unfold Bs H6;rw[hn,xc];dsimp only;rw[aa,qa,ad]
 have e2:=DC h k a b c hL;have e3:=FY h k a b c hL;rw[e1];unfold zN i9 aAS;rw[qp,qc ae,qc af,JL,qa,sX,ab,qn,e2,xc,qn,e3,xc,qo,qo];cases hd:wR o ds s n k a b c L with
 |none=>exact⟨o,ds,s,n,[],false,h,rfl,rfl,rfl⟩
 |some y=>
  have hy:=Au hd;have h7:=hy.fld.len;have ah:=hy.fld.clients;have el:=xL (Nq hy.fld.len hy.set);rw[show(!(doT (some y)).2.1)=false from rfl,qb,qb,qn,show Xy (doT (some y)).2.2.2.2=some (jH y.2.2.2)from el,xc];have hO: -999999<=((y.2.1.length:Nat):Int)/\((y.2.1.length:Nat):Int)<=999999:=by omega
  have hD: -999999<=((y.2.2.1.length:Nat):Int)/\((y.2.2.1.length:Nat):Int)<=999999:=by omega
  exact oL (lI hy hb) (oL (lI hy hc) (oL (oL (lI hy hO) (oL (oL (lI hy hD) (yZ hy)) (oL (lI hy hD) (yZ hy)))) (oL (lI hy hO) (oL (oL (lI hy hD) (yZ hy)) (oL (lI hy hD) (yZ hy))))))
theorem dT{k m:Int}{li:Bool}{l:List Int}(hn:yM k=some (m,li,true))(aa:rM m li l=false):Bs o ds s n k l=some (o,ds,s,n,[],false):=by unfold Bs H6;rw[hn,xc];dsimp only;rw[aa,qb]
theorem fR(h:Atl o ds s n):pU (o,ds,s,n) (some (o,ds,s,n,[],false)) (some (o,ds,s,n,[63])):=⟨o,ds,s,n,[],false,h,rfl,rfl,rfl⟩
def bS:List (List UInt8)->Option (List Int)
 | []=>some []
 |w::r=>if(cS w).2 then(bS r).map λl=>(cS w).1::l else none
theorem xV:∀{ws:List (List UInt8)} {l:List Int},bS ws=some l->l.length=ws.length/\∀x∈l,-999999<=x/\x<=999999
 | [],l,h=>by cases h;exact⟨rfl,λx hx=>by cases hx⟩
 |w::r,l,h=>by
  unfold bS at h;rcases gQ w with⟨x,hx,_,e⟩|⟨e,_⟩
  ·rw[e]at h;obtain⟨l',h1,h2⟩:=xau.1 (show(bS r).map (λl=>x::l)=some l from h);obtain⟨i1,i2⟩:=xV h1;subst h2;refine⟨by simp[i1],λy hy=>?_⟩;rcases xae.1 hy with rfl|hy;·exact hx
   ·exact i2 y hy
  ·rw[e]at h;cases h
theorem w7{f:Int×List Int->Option ((Int×List Int)⊕(List Int⊕Unit))}{ws:List (List UInt8)}(off:Int)
  (hs:∀(i:Nat) (a:List Int),i<ws.length->a.length<=i->f ((i:Int)+off,a)=some (if(cS (ws.getD i [])).2 then .inl (((i+1:Nat):Int)+off,a++ [(cS (ws.getD i [])).1])else .inr (.inr ()))) (he:∀a,f (((ws.length:Nat):Int)+off,a)=some (.inr (.inl a))):
  aB f (((0:Nat):Int)+off,[])=some (match bS ws with|some l=>.inl l|none=>.inr ()):=by
 obtain⟨r,k1,k2⟩:=aL (f:=f) (n:=ws.length) (λi (a:List Int)=>((i:Int)+off,a)) (λi a=>a.length<=i/\bS ws=(bS (ws.drop i)).map λl=>a++l) (λr=>r=match bS ws with|some l=>.inl l|none=>.inr ()) (s0:=[])
  ⟨xm _,by rw[Ri];cases bS ws<;>rfl⟩
  (λi a hi ⟨h1,h2⟩=>by
   have e:=hs i a hi h1;have hd:ws.drop i=ws.getD i []::ws.drop (i+1):=by rw[Wn hi,xd,xh hi];rfl
   rw[hd,bS]at h2;cases hp:(cS (ws.getD i [])).2 with
   |true=>
    left;rw[hp]at e h2;refine⟨_,e,by rw[xj,JH];omega,?_⟩;rw[h2];cases bS (ws.drop (i+1))with
    |none=>rfl
    |some l=>simp
   |false=>right;rw[hp]at e h2;exact⟨_,e,by rw[h2];rfl⟩)
  (λa ⟨h1,h2⟩=>⟨_,he a,by rw[h2,xds];simp[bS]⟩)
 rw[<-k2];exact k1
theorem Nh{c:UInt8}{w:List UInt8}:∀{s:List UInt8},oJ c s=[w]->w=s
 | [],h=>by unfold oJ at h;injection h with h _;exact h.symm
 |x::s,h=>by
  unfold oJ at h;obtain⟨a,t,e⟩:=iT c s;split at h;·rw[e]at h;cases h
  ·rw[e]at h;injection h with h1 h2;rw[h2]at e;have:=Nh e;rw[<-h1,this]
theorem pS(c:UInt8):∀(s:List UInt8),∀w∈oJ c s,w.length<=s.length
 | [],w,h=>by unfold oJ at h;rw[xo.1 h];exact xm _
 |x::s,w,h=>by
  have ih:=pS c s;unfold oJ at h;split at h
  ·rcases xae.1 h with rfl|h;·simp
   ·have:=ih w h;rw[xk];omega
  ·obtain⟨a,t,e⟩:=iT c s;rw[e]at h ih;rcases xae.1 h with rfl|h;·have:=ih a xu;rw[xk,xk];omega
   ·have:=ih w (xr _ h);rw[xk];omega
noncomputable def sP(o:List Int)(ds:List (List Int))(s:List Int)(n:Int)(w:List UInt8)(l:List Int):Option aAK:=(yI w).bind λk=>bif decide (0<k)then Bs o ds s n k l else(Z9 o ds s n w l).map λr=>(o,ds,s,n,r.1,r.2)
noncomputable def yK(o:List Int)(ds:List (List Int))(s:List Int)(n:Int)(w:List UInt8):List Int->Option NB
 | []=>Hu o ds s n w
 |a::r=>bif w==[115,105,116,101]then i9 o ds s n 6 a 0 0 r else bif w==[99,108,105,101,110,116]then i9 o ds s n 7 0 0 0 (a::r)else match r with
  | []=>Co o ds s n w a
  |_=>yH o ds s n w (a::r)
theorem zO{w:List UInt8}(w1:(w==[115,105,116,101])=false)(w2:(w==[99,108,105,101,110,116])=false)(a:Int):yK o ds s n w [a]=Co o ds s n w a:=by show cond _ _ (cond _ _ _)=_;rw[w1,w2];rfl
theorem pG{w:List UInt8}(w1:(w==[115,105,116,101])=false)(w2:(w==[99,108,105,101,110,116])=false)(a b:Int)(r:List Int):yK o ds s n w (a::b::r)=yH o ds s n w (a::b::r):=by show cond _ _ (cond _ _ _)=_;rw[w1,w2];rfl
theorem FE(w:List UInt8)(a:Int)(r:List Int):yK o ds s n w (a::r)=bif w==[115,105,116,101]then i9 o ds s n 6 a 0 0 r else bif w==[99,108,105,101,110,116]then i9 o ds s n 7 0 0 0 (a::r)else match r with
  | []=>Co o ds s n w a
  |_=>yH o ds s n w (a::r):=rfl
theorem oS(x:Option NB):(x.bind λr=>some (r.1,r.2.1,r.2.2.1,r.2.2.2.1,r.2.2.2.2))=x:=by cases x<;>rfl
theorem R0{w:List UInt8}(h1:(w==[108,101,110,103,116,104])=false)(h2:(w==[115,119,97,112])=false)(h3:(w==[99,111,115,116])=false)(l:List Int):yH o ds s n w l=some (o,ds,s,n,[63]):=by unfold yH Xf;rw[h1,h2,h3];cases(((l.length:Nat):Int)==3)<;>cases(((l.length:Nat):Int)==2)<;>rfl
theorem u9{m:Int}{li:Bool}{l:List Int}(h:(l.length:Int)<m):rM m li l=false:=by unfold rM;rw[qd (by omega),xgc]
theorem Fi{m:Int}{l:List Int}(h:m<(l.length:Int)):rM m false l=false:=by unfold rM;rw[qd (show¬(l.length:Int)<=m by omega),xeh,xfl]
theorem Ns(h:Atl o ds s n){w:List UInt8}{k:Int}(hk:yI w=some k)(hp:0<k)(hn:yM k=some (1,false,true))(h0:Hu o ds s n w=some (o,ds,s,n,[63]))
  (h1:∀a,Co o ds s n w a=(i9 o ds s n k a 0 0 []).bind λr=>some (r.1,r.2.1,r.2.2.1,r.2.2.2.1,r.2.2.2.2)) (w1:(w==[115,105,116,101])=false) (w2:(w==[99,108,105,101,110,116])=false)
  (w3:(w==[108,101,110,103,116,104])=false) (w4:(w==[115,119,97,112])=false) (w5:(w==[99,111,115,116])=false):∀l:List Int,pU (o,ds,s,n) (sP o ds s n w l) (yK o ds s n w l)
 | []=>by unfold sP yK;rw[hk,xc,qc hp,qa,dT hn (u9 (by simp)),h0];exact fR h
 | [a]=>by unfold sP;rw[zO w1 w2 a,hk,xc,qc hp,qa];rw[h1 a,oS];exact jY h (show aK [] by unfold aK;simp) (by omega) (by omega) hn rfl rfl rfl
 |a::b::r=>by unfold sP;rw[pG w1 w2 a b r,hk,xc,qc hp,qa,dT hn (Fi (by simp only[xk];omega))];rw[R0 w3 w4 w5];exact fR h
theorem HQ(h:Atl o ds s n){w:List UInt8}{k:Int}(hk:yI w=some k)(hp:0<k)(hn:yM k=some (0,false,true))(h0:Hu o ds s n w=(i9 o ds s n k 0 0 0 []).bind λr=>some (r.1,r.2.1,r.2.2.1,r.2.2.2.1,r.2.2.2.2))
  (h1:∀a,Co o ds s n w a=some (o,ds,s,n,[63])) (w1:(w==[115,105,116,101])=false) (w2:(w==[99,108,105,101,110,116])=false)
  (w3:(w==[108,101,110,103,116,104])=false) (w4:(w==[115,119,97,112])=false) (w5:(w==[99,111,115,116])=false):∀l:List Int,pU (o,ds,s,n) (sP o ds s n w l) (yK o ds s n w l)
 | []=>by unfold sP yK;rw[hk,xc,qc hp,qa,h0,oS];exact jY h (show aK [] by unfold aK;simp) (by omega) (by omega) hn rfl rfl rfl
 | [a]=>by unfold sP;rw[zO w1 w2 a,hk,xc,qc hp,qa,dT hn (Fi (by simp))];rw[h1 a];exact fR h
 |a::b::r=>by unfold sP;rw[pG w1 w2 a b r,hk,xc,qc hp,qa,dT hn (Fi (by simp only[xk];omega))];rw[R0 w3 w4 w5];exact fR h
theorem GU{l:List Int}{i:Nat}(h:l.length≠i):(((l.length:Nat):Int)==(i:Int))=false:=beq_eq_false_iff_ne.2 (by omega)
theorem VM(h:Atl o ds s n){w:List UInt8}{k:Int}(hk:yI w=some k)(hp:0<k)(hn:yM k=some (2,false,true))(h0:Hu o ds s n w=some (o,ds,s,n,[63]))
  (h1:∀a,Co o ds s n w a=some (o,ds,s,n,[63])) (h2:∀a b,yH o ds s n w [a,b]=(i9 o ds s n k a b 0 []).bind λr=>some (r.1,r.2.1,r.2.2.1,r.2.2.2.1,r.2.2.2.2))
  (w1:(w==[115,105,116,101])=false) (w2:(w==[99,108,105,101,110,116])=false) (w3:(w==[108,101,110,103,116,104])=false):∀l:List Int,(∀x∈l,-999999<=x/\x<=999999)->pU (o,ds,s,n) (sP o ds s n w l) (yK o ds s n w l)
 | [],_=>by unfold sP yK;rw[hk,xc,qc hp,qa,dT hn (u9 (by simp)),h0];exact fR h
 | [a],_=>by unfold sP;rw[zO w1 w2 a,hk,xc,qc hp,qa,dT hn (u9 (by simp))];rw[h1 a];exact fR h
 | [a,b],hx=>by unfold sP;rw[pG w1 w2 a b [],hk,xc,qc hp,qa];rw[h2 a b,oS];exact jY h (show aK [] by unfold aK;simp) (hx b (by simp)) (by omega) hn rfl rfl rfl
 |a::b::c::r,_=>by
  unfold sP;rw[pG w1 w2 a b (c::r),hk,xc,qc hp,qa,dT hn (Fi (by simp only[xk];omega))];have e:(((List.length (a::b::c::r):Nat):Int)==2)=false:=GU (i:=2) (by simp);have em:yH o ds s n w (a::b::c::r)=some (o,ds,s,n,[63]):=by unfold yH Xf;rw[w3,e];cases(((List.length (a::b::c::r):Nat):Int)==3)<;>rfl
  rw[em];exact fR h
theorem AN(w:List UInt8){a b:Int}{r:List Int}:Z9 o ds s n w (a::b::r)=some ([],false):=by unfold Z9 Xj;have e:(((List.length (a::b::r):Nat):Int)==1)=false:=GU (i:=1) (by simp);rw[qo,e,qb,qo,qc (show(0:Int)<((List.length (a::b::r):Nat):Int) by simp only[xk];omega),qa,qq]
theorem QO(h:Atl o ds s n){x:Option (List UInt8×Bool)}{y:Option (List UInt8)}(ht:E9 x y):pU (o,ds,s,n) (x.map λr=>(o,ds,s,n,r.1,r.2)) (y.bind λr=>some (o,ds,s,n,r)):=by
 obtain⟨rep,ok,rfl,rfl,hg⟩:=ht;exact⟨o,ds,s,n,rep,ok,h,rfl,rfl,by
  cases ok with
  |true=>exact hg rfl
  |false=>rfl⟩
theorem n7(h:Atl o ds s n)(l:List Int)(b:Bool):pU (o,ds,s,n) (some (o,ds,s,n,jH l,b)) (some (o,ds,s,n,if b then jH l else[63])):=⟨o,ds,s,n,jH l,b,h,rfl,rfl,by
  cases b with
  |true=>exact zC l
  |false=>rfl⟩
abbrev edW:List (List UInt8):=[[111,112,101,110],[99,108,111,115,101],[115,119,97,112],[99,111,115,116],[108,101,110,103,116,104],[115,105,116,101],[99,108,105,101,110,116],[100,114,111,112,115,105,116,101],[100,114,111,112,99,108,105,101,110,116],[105,109,112,114,111,118,101],[98,101,115,116]]
theorem aIU(h:Atl o ds s n){w:List UInt8}{k:Int}(hk:yI w=some k)(hp:¬0<k)(hw:∀x∈edW,(w==x)=false):
  ∀l:List Int,pU (o,ds,s,n) (sP o ds s n w l) (yK o ds s n w l)
 | []=>by
  have e:Hu o ds s n w=(ND o ds s n w).bind λr=>some (o,ds,s,n,r):=by unfold Hu aBt;rw[qo,hw _ (by simp),qb,qo,hw _ (by simp),qb,qo,hw _ (by simp),qb,qn];rfl
  unfold sP yK;rw[hk,xc,qd hp,qb,e];exact QO h (BB h w)
 | [a]=>by
  obtain⟨lo,ld⟩:=rC h.fld;unfold sP;rw[zO (hw _ (by simp)) (hw _ (by simp)) a,hk,xc,qd hp,qb];unfold Co aBP Z9 Xj;have g1:aC (0:Int) (List.length [a])=true:=rfl;have g2:List.getD [a] (Int.toNat 0) 0=a:=rfl;have u1:(w==[111,112,101,110])=false:=hw _ (by simp);have u2:(w==[99,108,111,115,101])=false:=hw _ (by simp);have u3:(w==[100,114,111,112,115,105,116,101])=false:=hw _ (by simp);have u4:(w==[100,114,111,112,99,108,105,101,110,116])=false:=hw _ (by simp);rw[qo,show((((([a]:List Int)).length:Nat):Int)==1)=true from rfl,qa,qo (w==[111,112,101,110]),u1,qb,qo (w==[99,108,111,115,101]),u2,qb,qo (w==[100,114,111,112,115,105,116,101]),u3,qb,qo (w==[100,114,111,112,99,108,105,101,110,116]),u4,qb];rw[qo (w==[109,101,100,105,97,110]),qo (w==[109,101,100,105,97,110])];cases(w==[109,101,100,105,97,110])with
  |true=>
   obtain⟨l,b,e1,e2,e3⟩:=Dh lo ld h.fld a;have hf:zV l:=⟨e3.1,λx hx=>by have:=e3.2 x hx;have:=h.fld.len;omega⟩
   rw[qa,qa,qp,g1,qa,qn,g2,e1,xc,qn,pP hf,xc,qq,qn,e2,xc,qn,kQ hf,xc,qq];exact n7 h _ _
  |false=>
   rw[qb,qb,qo (w==[99,101,110,116,114,101,115]),qo (w==[99,101,110,116,114,101,115])];cases(w==[99,101,110,116,114,101,115])with
   |true=>
    obtain⟨l,b,e1,e2,e3⟩:=W4 lo ld h.fld a;have hf:zV l:=⟨e3.1,λx hx=>by have:=e3.2 x hx;have:=h.fld.len;omega⟩
    rw[qa,qa,qp,g1,qa,qn,g2,e1,xc,qn,pP hf,xc,qq,qn,e2,xc,qn,kQ hf,xc,qq];exact n7 h _ _
   |false=>
    rw[qb,qb,qo (w==[102,97,114]),qo (w==[102,97,114])];cases(w==[102,97,114])with
    |true=>
     have e0:∃l b,aEv o ds a=some (l,b)/\aES o ds a=some (l,b)/\zV l:=by
      unfold aEv aFc aKE XO aES XV;by_cases ha:0<=a
      ·obtain⟨m1,m2⟩:=Hl (r:=a) h.fld;have hc:=h.fld.clients;refine⟨v9 ds o.length a,true,?_,?_,m2.1,λx hx=>by have:=m2.2 x hx;omega⟩;·rw[qn,qn,cG lo ld,fieldB_iff.2 h.fld,xc,qo,qa,qq,qc ha,xc,qo,xl,qb,qn,It h.fld,xc,qq]
       ·rw[qn,eQ lo ld,fieldB_iff.2 h.fld,xc,qo,xl,qb,qo,qd (by omega),qb,qn,m1,xc,qq]
      ·refine⟨[],false,?_,?_,by simp,λx hx=>by cases hx⟩;·rw[qn,qn,cG lo ld,fieldB_iff.2 h.fld,xc,qo,qa,qq,qd ha,xc,qo,nE,qa,qq]
       ·rw[qn,eQ lo ld,fieldB_iff.2 h.fld,xc,qo,xl,qb,qo,qc (by omega),qa,qq]
     obtain⟨l,b,e1,e2,hf⟩:=e0;rw[qa,qa,qp,g1,qa,qn,g2,e1,xc,qn,pP hf,xc,qq,qn,e2,xc,qn,kQ hf,xc,qq];exact n7 h _ _
    |false=>exact fR h
 |a::b::r=>by unfold sP;rw[pG (hw _ (by simp)) (hw _ (by simp)) a b r,hk,xc,qd hp,qb,AN];rw[R0 (hw _ (by simp)) (hw _ (by simp)) (hw _ (by simp))];exact fR h
theorem IZ(h:Atl o ds s n)(l:List Int)(hx:∀x∈l,-999999<=x/\x<=999999):pU (o,ds,s,n) (sP o ds s n [108,101,110,103,116,104] l) (yK o ds s n [108,101,110,103,116,104] l):=by
 have hk:yI [108,101,110,103,116,104]=some 5:=by kernel_rfl
 have hn:yM 5=some (3,false,true):=by kernel_rfl
 have hp:decide ((0:Int)<5)=true:=rfl
 match l,hx with
 | [],_=>
  have e:yK o ds s n [108,101,110,103,116,104] []=some (o,ds,s,n,[63]):=by kernel_rfl
  unfold sP;rw[e,hk,xc,hp,qa,dT hn (u9 (by simp))];exact fR h
 | [a],_=>
  have e:yK o ds s n [108,101,110,103,116,104] [a]=some (o,ds,s,n,[63]):=by kernel_rfl
  unfold sP;rw[e,hk,xc,hp,qa,dT hn (u9 (by simp))];exact fR h
 | [a,b],_=>
  have e:yK o ds s n [108,101,110,103,116,104] [a,b]=some (o,ds,s,n,[63]):=by kernel_rfl
  unfold sP;rw[e,hk,xc,hp,qa,dT hn (u9 (by simp))];exact fR h
 | [a,b,c],hx=>have e:yK o ds s n [108,101,110,103,116,104] [a,b,c]=(i9 o ds s n 5 a b c []).bind λr=>some (r.1,r.2.1,r.2.2.1,r.2.2.2.1,r.2.2.2.2):=rfl;rw[e,oS];unfold sP;rw[hk,xc,hp,qa];exact jY h (show aK [] by unfold aK;simp) (hx b (by simp)) (hx c (by simp)) hn rfl rfl rfl
 |a::b::c::d::r,_=>
  have e3:(((List.length (a::b::c::d::r):Nat):Int)==3)=false:=GU (i:=3) (by simp);have e2:(((List.length (a::b::c::d::r):Nat):Int)==2)=false:=GU (i:=2) (by simp);have em:yH o ds s n [108,101,110,103,116,104] (a::b::c::d::r)=some (o,ds,s,n,[63]):=by unfold yH Xf;rw[e3,e2];rfl
  have e:yK o ds s n [108,101,110,103,116,104] (a::b::c::d::r)=yH o ds s n [108,101,110,103,116,104] (a::b::c::d::r):=rfl;rw[e,em];unfold sP;rw[hk,xc,hp,qa,dT hn (Fi (by simp only[xk];omega))];exact fR h
theorem aGh(h:Atl o ds s n)(l:List Int)(hl:aK l):pU (o,ds,s,n) (sP o ds s n [115,105,116,101] l) (yK o ds s n [115,105,116,101] l):=by
 have hk:yI [115,105,116,101]=some 6:=by kernel_rfl
 have hn:yM 6=some (1,true,true):=by kernel_rfl
 have hp:decide ((0:Int)<6)=true:=rfl;cases l with
 |nil=>
  have e:yK o ds s n [115,105,116,101] []=some (o,ds,s,n,[63]):=by kernel_rfl
  unfold sP;rw[e,hk,xc,hp,qa,dT hn (u9 (by simp))];exact fR h
 |cons a r=>have e:yK o ds s n [115,105,116,101] (a::r)=i9 o ds s n 6 a 0 0 r:=rfl;rw[e];unfold sP;rw[hk,xc,hp,qa];refine jY h (L:=r) (by unfold aK at hl⊢;rw[xk]at hl;omega) (by omega) (by omega) hn ?_ rfl rfl;unfold rM;rw[qc (show(1:Int)<=((List.length (a::r):Nat):Int) by rw[xk];omega)];rfl
theorem RA(h:Atl o ds s n)(w:List UInt8){l:List Int}(hl:aK l)(hx:∀x∈l,-999999<=x/\x<=999999):pU (o,ds,s,n) (sP o ds s n w l) (yK o ds s n w l):=by
 by_cases c1:w=[111,112,101,110]
 ·subst c1;exact Ns h (k:=1) (by kernel_rfl) (by decide) (by kernel_rfl) (by kernel_rfl) (λ_=>rfl) rfl rfl rfl rfl rfl l
 by_cases c2:w=[99,108,111,115,101]
 ·subst c2;exact Ns h (k:=2) (by kernel_rfl) (by decide) (by kernel_rfl) (by kernel_rfl) (λ_=>rfl) rfl rfl rfl rfl rfl l
 by_cases c8:w=[100,114,111,112,115,105,116,101]
 ·subst c8;exact Ns h (k:=8) (by kernel_rfl) (by decide) (by kernel_rfl) (by kernel_rfl) (λ_=>rfl) rfl rfl rfl rfl rfl l
 by_cases c9:w=[100,114,111,112,99,108,105,101,110,116]
 ·subst c9;exact Ns h (k:=9) (by kernel_rfl) (by decide) (by kernel_rfl) (by kernel_rfl) (λ_=>rfl) rfl rfl rfl rfl rfl l
 by_cases ab:w=[105,109,112,114,111,118,101]
 ·subst ab;exact HQ h (k:=10) (by kernel_rfl) (by decide) (by kernel_rfl) rfl (λ_=>rfl) rfl rfl rfl rfl rfl l
 by_cases ad:w=[98,101,115,116]
 ·subst ad;exact HQ h (k:=11) (by kernel_rfl) (by decide) (by kernel_rfl) rfl (λ_=>rfl) rfl rfl rfl rfl rfl l
 by_cases c3:w=[115,119,97,112]
 ·subst c3;exact VM h (k:=3) (by kernel_rfl) (by decide) (by kernel_rfl) (by kernel_rfl) (λ_=>rfl) (λ_ _=>rfl) rfl rfl rfl l hx
 by_cases c4:w=[99,111,115,116]
 ·subst c4;exact VM h (k:=4) (by kernel_rfl) (by decide) (by kernel_rfl) (by kernel_rfl) (λ_=>rfl) (λ_ _=>rfl) rfl rfl rfl l hx
 by_cases c5:w=[108,101,110,103,116,104]
 ·subst c5;exact IZ h l hx
 by_cases c6:w=[115,105,116,101]
 ·subst c6;exact aGh h l hl
 by_cases c7:w=[99,108,105,101,110,116]
 ·subst c7;have hk:yI [99,108,105,101,110,116]=some 7:=by kernel_rfl
  have hn:yM 7=some (0,true,true):=by kernel_rfl
  have hp:decide ((0:Int)<7)=true:=rfl;have e:yK o ds s n [99,108,105,101,110,116] l=(i9 o ds s n 7 0 0 0 l).bind λr=>some (r.1,r.2.1,r.2.2.1,r.2.2.2.1,r.2.2.2.2):=by
   cases l with
   |nil=>rfl
   |cons a r=>rw[oS];rfl
  rw[e,oS];unfold sP;rw[hk,xc,hp,qa];refine jY h (L:=l) hl (by omega) (by omega) hn ?_ rfl rfl;unfold rM;rw[qc (show(0:Int)<=((List.length l:Nat):Int) by omega)];rfl
 -- no edit
 have hw:∀x∈edW,(w==x)=false:=λx hx=>by
  simp only[xae,Ze,qm]at hx;refine beq_eq_false_iff_ne.2 λe=>?_;subst e;rcases hx with e|e|e|e|e|e|e|e|e|e|e;·exact c1 e
  ·exact c2 e
  ·exact c3 e
  ·exact c4 e
  ·exact c5 e
  ·exact c6 e
  ·exact c7 e
  ·exact c8 e
  ·exact c9 e
  ·exact ab e
  ·exact ad e
 have hk:∃k,yI w=some k/\¬0<k:=by
  have key:=λ(ws:List (List UInt8)) (hlen:ws.length<=1000)=>fX (f:=λv=>(Ux (ws,w,((ws.length:Nat):Int)) v).ev) (l:=ws) [] (λx=>w==x) (mk:=λi=>(i:Int)) (yes:=λi=>(.inr (i:Int):Unit⊕Int)) (no:=.inl ())
   (λi hi=>by
    cases hq:w==ws.getD i []with
    |true=>simp(disch:=omega)only[EV,Ux,hi,hq]
    |false=>simp(disch:=omega)only[EV,Ux,hi,hq];rfl)
   (by simp(disch:=omega)only[EV,Ux,xi])
  have k1:YC ([]::edW,w,(12:Int)) (0:Int)=some ((([]::edW).findIdx? λx=>w==x).elim (.inl ()) λi=>.inr (i:Int)):=key ([]::edW) (by decide);have aa:edW.findIdx? (λx=>w==x)=none:=xgg.2 λx hx=>by rw[hw x hx]
  have e:yI w=((YC ([]::edW,w,(12:Int)) (0:Int)).bind λr=>(Tr.s Unit Int r (λ_=>.l (-1:Int)) λr8=>.l r8).ev).bind λr=>some r:=rfl;rw[e,k1,xee,aa];cases(w==([]:List UInt8))with
  |true=>exact⟨0,rfl,by omega⟩
  |false=>exact⟨-1,rfl,by omega⟩
 obtain⟨k,k1,k2⟩:=hk;exact aIU h k1 k2 hw l
theorem ED(h:Atl o ds s n){line:List UInt8}(hl:line.length<=1000):pU (o,ds,s,n) (LV o ds s n line) (Er o ds s n line):=by
 have e1:Tz line [32]=some (oJ 32 line):=by unfold Tz vW;rw[qi ⟨by omega,rfl⟩,M3]
 have e2:=Bq (s:=line) (by omega) 32;rw[show(((32:UInt8).toNat:Nat):Int)=32 from rfl]at e2;have af:=pS 32 line;have ae:=Q6 32 line;obtain⟨w,t,et⟩:=iT 32 line;rw[et]at e1 e2 af ae;rw[xk]at ae;have k1:aKg (w::t,t,((t.length:Nat):Int),o,ds,s,n,(0:Int)) ((0:Int),([]:List Int))=some (match bS t with|some l=>.inl l|none=>.inr ()):=by
  have:=w7 (f:=λv=>(Rm (w::t,t,((t.length:Nat):Int),o,ds,s,n,(0:Int)) v).ev) (ws:=t) 0
   (λi a hi ha=>by
    have hm:=af _ (xr _ (aG (d:=[]) hi));have ep:aDe (t.getD i [])=some (cS (t.getD i [])):=by unfold aDe z0;rw[qi (by omega)]
    have aa:∀x:Int,List.length [x]=1:=λ_=>rfl;have hb:(a.length+1)*8<=140737488355328:=by omega
    rw[xgy,xgy];cases hq:(cS (t.getD i [])).2 with
    |true=>simp(disch:=omega)only[EV,Rm,hi,ep,hq,aa,hb];rfl
    |false=>simp(disch:=omega)only[EV,Rm,hi,ep,hq];rfl)
   (λa=>by rw[xgy];simp(disch:=omega)only[EV,Rm,xi])
  exact this
 have hd:List.drop (Int.toNat 1) (List.take (List.length (w::t)) (w::t))=t:=by rw[sX];rfl
 have ab:LV o ds s n line=(match bS t with|some l=>sP o ds s n w l|none=>some (o,ds,s,n,[],false)):=by
  unfold LV aEA;rw[qn,e1,xc,qp,show(decide ((0:Int)<=1)&&decide ((1:Int)<=((List.length (w::t):Nat):Int)))=true from by rw[qc (show(1:Int)<=((List.length (w::t):Nat):Int) by rw[xk];omega)];rfl,qa,hd,qn,k1,xc];cases bS t with
  |none=>rfl
  |some l=>
   show(Tr.g (aC 0 (List.length (w::t))) _).ev=sP o ds s n w l;rw[qp,show aC 0 (List.length (w::t))=true from bK (by omega) (by rw[xk];omega),qa,qn];unfold sP;rw[show List.getD (w::t) (Int.toNat 0) ([]:List UInt8)=w from rfl];cases yI w with
   |none=>rfl
   |some k=>
    rw[xc,xc,qo];cases decide (0<k)with
    |true=>rw[qa,qa,qn];cases Bs o ds s n k l<;>rfl
    |false=>rw[qb,qb,qp,qa,qn];cases Z9 o ds s n w l<;>rfl
 have k2:aKN (w::t) ((1:Int),([]:List Int))=some (match bS t with|some l=>.inl l|none=>.inr ()):=by
  have:=w7 (f:=λv=>(Ti (w::t) v).ev) (ws:=t) 1
   (λi a hi ha=>by
    have hm:=af _ (xr _ (aG (d:=[]) hi));have ep:=Rx (s:=t.getD i []) (by omega);have aa:∀x:Int,List.length [x]=1:=λ_=>rfl;have hb:(a.length+1)*8<=140737488355328:=by omega
    have ei:(i:Int)+1=((i+1:Nat):Int):=rfl;have eg:(w::t).getD (i+1) []=t.getD i []:=rfl;have ah:i+1<(w::t).length:=by rw[xk];omega
    rw[ei];cases hq:(cS (t.getD i [])).2 with
    |true=>simp(disch:=omega)only[EV,Ti,ah,eg,ep,hq,aa,hb]
    |false=>simp(disch:=omega)only[EV,Ti,ah,eg,ep,hq];rfl)
   (λa=>by rw[show((t.length:Nat):Int)+1=(((w::t).length:Nat):Int)from rfl];simp(disch:=omega)only[EV,Ti,xi])
  exact this
 by_cases h0:t=[]
 ·subst h0;have ew:=Nh et;have ad:Er o ds s n line=yK o ds s n w []:=by unfold Er JE yK;rw[qn,e2,xc,qo,show(((([w]:List (List UInt8)).length:Nat):Int)==1)=true from rfl,qa,qn,<-ew];exact oS _
  rw[ab,ad];exact RA h w (show aK [] by unfold aK;simp) λx hx=>by cases hx
 ·have ai:(((List.length (w::t):Nat):Int)==1)=false:=beq_eq_false_iff_ne.2 (by have:=xaq.2 h0;rw[xk];omega);have hR:QH (w::t)=some (match bS t with|some l=>(true,l)|none=>(false,[])):=by unfold QH aEV;rw[qn,k2,xc];cases bS t<;>rfl
  cases hp:bS t with
  |none=>
   rw[hp]at ab hR;have ad:Er o ds s n line=some (o,ds,s,n,[63]):=by unfold Er JE;rw[qn,e2,xc,qo,ai,qb,qn,hR,xc];rfl
   rw[ab,ad];exact fR h
  |some l=>
   rw[hp]at ab hR;obtain⟨i1,i2⟩:=xV hp;have hR:QH (w::t)=some (true,l):=hR;have ad:Er o ds s n line=yK o ds s n w l:=by
    unfold Er JE;have gw:List.getD (w::t) (Int.toNat 0) ([]:List UInt8)=w:=rfl;have g0:aC 0 (List.length (w::t))=true:=bK (by omega) (by rw[xk];omega);have g1:decide (Int.toNat 0<(w::t).length)=true:=qc (by rw[xk];simp);rw[qn,e2,xc,qo,ai,qb,qn,hR,xc];rw[qo,xl,qb,qp,g0,qa,qp,g1,qa,gw,qo];cases l with
    |nil=>exact absurd (C9 (by rw[<-i1];rfl)) h0
    |cons a r=>
     have aj:aC 0 (List.length (a::r))=true:=bK (by omega) (by rw[xk];omega);have ak:(decide ((0:Int)<=1)&&decide ((1:Int)<=((List.length (a::r):Nat):Int)))=true:=by rw[qc (show(1:Int)<=((List.length (a::r):Nat):Int) by rw[xk];omega)];rfl
     have al:decide (Int.toNat 0<(a::r).length)=true:=qc (by rw[xk];simp);rw[FE];cases(w==[115,105,116,101])with
     |true=>rw[qa,qa,qp,aj,qa,qp,ak,qa,qn,sX];exact oS _
     |false=>
      rw[qb,qb,qo];cases(w==[99,108,105,101,110,116])with
      |true=>rw[qa,qa,qn];exact oS _
      |false=>
       rw[qb,qb,qo];cases r with
       |nil=>rw[show((((([a]:List Int)).length:Nat):Int)==1)=true from rfl,qa,qp,qa,qp,qa,qp,aj,qa,qp,al,qa,qn];exact oS _
       |cons b r=>rw[show((((true,a::b::r):Bool×List Int).2.length:Int)==1)=false from GU (l:=a::b::r) (i:=1) (by simp)];rw[qb,qp,qa,qp,qa,qn];exact oS _
   rw[ab,ad];exact RA h w (by unfold aK;omega) i2
end
section
open Go
noncomputable def rd(s:List UInt8)(v:RS):Option RS:=aB (λv=>some (bA s v)) v
theorem Ka{s:List UInt8}{v v':RS}(h:bA s v=.inl v'):rd s v=rd s v':=by unfold rd;rw[aE];simp only[h]
theorem V2{s:List UInt8}{v r:RS}(h:bA s v=.inr r):rd s v=some r:=by unfold rd;rw[aE];simp only[h]
theorem T5{s:List UInt8}{v r:RS}(h:bA s v=.inr r):r=v:=by
 unfold bA at h;split at h
 ·split at h;·cases h
  ·cases h;rfl
 ·cases h;rfl
theorem Kc{s:List UInt8}{Q:RS->RS->Prop}(h1:∀v,RI s v->bA s v=.inr v->Q v v)(h2:∀v v' r,RI s v->bA s v=.inl v'->RI s v'->RI s r->Q v' r->Q v r):∀v,RI s v->∃r,rd s v=some r/\RI s r/\Q v r:=by
 have key:∀n (v:RS),s.length-v.1.toNat=n->RI s v->∃r,rd s v=some r/\RI s r/\Q v r:=by
  intro n;induction n using Nat.strongRecOn with
  |_ n ih=>
   intro v hn hv;have h3:=xC hv;cases hr:bA s v with
   |inl v'=>rw[hr]at h3;simp only at h3;obtain⟨r,k1,k2,k3⟩:=ih _ (by omega) v' rfl h3.1;exact⟨r,by rw[Ka hr];exact k1,k2,h2 v v' r hv hr h3.1 k2 k3⟩
   |inr r=>obtain rfl:=T5 hr;exact⟨_,V2 hr,hv,h1 _ hv hr⟩
 exact λv hv=>key _ v rfl hv
theorem RI0(s:List UInt8):RI s ((0:Int),[]):=⟨by simp,by simp,by simp⟩
theorem U6{s:List UInt8}(hs:aJ s):Cc s=rd s ((0:Int),[])/\Ec s=rd s ((0:Int),[]):=by
 obtain⟨r,k1,_,k2,k3⟩:=Kc (s:=s) (Q:=λv r=>aB (λv=>(Rz s v).ev) v=some r/\aB (λv=>(X9 s v).ev) v=some r)
  (λv hv hr=>by have e1:=nP hs hv;have e2:=hZ hs hv;rw[aE,aE (λv=>(X9 s v).ev)];simp only[e1,e2,hr];exact⟨trivial,trivial⟩)
  (λv v' r hv hr _ _ hq=>by have e1:=nP hs hv;have e2:=hZ hs hv;rw[aE,aE (λv=>(X9 s v).ev)];simp only[e1,e2,hr];exact hq) _ (RI0 s)
 have aa:ZT s ((0:Int),[])=some r:=k2;have ab:aGe s ((0:Int),[])=some r:=k3;rw[k1];constructor;·unfold Cc JV;simp(disch:=omega)only[EV,aa]
 ·unfold Ec MJ;simp(disch:=omega)only[EV,ab]
theorem EC{b:Nat}{a:List UInt8}(t:List UInt8)(h:aX a b=true):cB b (a++t)=cB b a:=by
 obtain⟨c,h1,h2,h3⟩:=wN h;have:a++t=cB b a++c::(o9 b a++t):=by
  conv=>lhs;rw[h2]
  simp
 rw[this,nF h3 h1]
theorem Uu{s t:List UInt8}{n:Nat}(h:n<=s.length):(s++t).drop n=s.drop n++t:=by rw[List.drop_append,show n-s.length=0 by omega,Ri]
theorem G5{s:List UInt8}(t:List UInt8){v v':RS}(hv:RI s v)(h:bA s v=.inl v'):bA (s++t) v=.inl v':=by
 have hle:v.1.toNat<=s.length:=by have:=hv.2.1;omega
 unfold bA at h⊢;rw[Uu hle];cases hb:aX (s.drop v.1.toNat) 10 with
 |false=>rw[hb]at h;cases h
 |true=>
  rw[hb]at h;have aa:aX (s.drop v.1.toNat++t) 10=true:=by rw[mR,hb];rfl
  rw[aa,EC t hb];exact h
theorem T9{s:List UInt8}(t:List UInt8):∀v,RI s v->∃r,rd s v=some r/\RI s r/\rd (s++t) v=rd (s++t) r:=by intro v hv;exact Kc (s:=s) (Q:=λv r=>rd (s++t) v=rd (s++t) r) (λ_ _ _=>rfl) (λv v' r hv hr _ _ hq=>by rw[Ka (G5 t hv hr)];exact hq) v hv
theorem A7{k:Int}{c r:List UInt8}(hk:bX k 0 59=true)(h:bQ c r=true):(line k c r).length<=378:=by obtain⟨_,_,_,_,_,a,b⟩:=dN h;have hl:=tO (c:=c) (r:=r) hk;have hs:=vJ (fY k c r);unfold line;rw[xj,xk,xy];omega
theorem aAq{s:List UInt8}:∀v,RI s v->v.1<=378*(v.2.length:Int)->∃r,rd s v=some r/\RI s r/\r.1<=378*(r.2.length:Int):=by
 intro v hv h0;obtain⟨r,h1,h2,h3⟩:=Kc (s:=s) (Q:=λv r=>v.1<=378*(v.2.length:Int)->r.1<=378*(r.2.length:Int)) (λ_ _ _ h=>h) (λv v' r hv hr _ _ hq h=>hq (by
  unfold bA at hr;split at hr
  next hb=>
   split at hr
   next p hp=>
    cases hr;obtain⟨d1,d2,d3⟩:=Jg (c:=p.1) (r:=p.2) hp;have hl:=A7 d1 d2;rw[d3]at hl;simp only[xj,xk,xy]at hl⊢;omega
   next=>cases hr
  next=>cases hr)) v hv
 exact⟨r,h1,h2,h3 h0⟩
theorem Hp{k:Int}{c r:List UInt8}(h:bQ c r=true):aX (gY (fY k c r)) 10=false:=by obtain⟨_,_,_,h1,h2,_⟩:=dN h;unfold gY fY;simp only[mR,h1,h2,zE (b:=10) (by omega),xeh,xei];rfl
theorem LH{s c r:List UInt8}{recs:List (List UInt8×List UInt8)}(hs:rd s ((0:Int),[])=some ((s.length:Int),recs))(hk:bX (recs.length:Int) 0 59=true)(hr:bQ c r=true):
  rd (s++line (recs.length:Int) c r) ((0:Int),[])=some (((s++line (recs.length:Int) c r).length:Int),recs++ [(c,r)]):=by
 obtain⟨v,h1,h2,h3⟩:=T9 (line (recs.length:Int) c r) ((0:Int),[]) (RI0 s);rw[hs]at h1;obtain rfl:=zB h1;rw[h3];have aa:=Hp (k:=(recs.length:Int)) hr;have hd:Dec (recs.length:Int) (gY (fY (recs.length:Int) c r)) c r:=⟨hk,hr,rfl⟩
 have e1:cB 10 (line (recs.length:Int) c r)=gY (fY (recs.length:Int) c r):=nF aa rfl;have e2:aX (line (recs.length:Int) c r) 10=true:=by unfold line;rw[mR];simp[aX]
 have e3:((s++line (recs.length:Int) c r).drop ((s.length:Int).toNat))=line (recs.length:Int) c r:=by rw[xx];exact xhc rfl
 have e4:bA (s++line (recs.length:Int) c r) ((s.length:Int),recs)=.inl (((s++line (recs.length:Int) c r).length:Int),recs++ [(c,r)]):=by unfold bA;simp only[e3,e2,e1,Ew hd,if_true];congr 2;rw[xj];unfold line;rw[xj,xk,xy];omega
 rw[Ka e4];apply V2;unfold bA;have e5:(s++line (recs.length:Int) c r).drop ((((s++line (recs.length:Int) c r).length:Nat):Int).toNat)=[]:=by rw[xx];exact VW (xm _)
 simp only[e5];rfl
structure Val(a b:List UInt8)(n:Int)(recs:List (List UInt8×List UInt8)):Prop where
 all:rd (a++b) ((0:Int),[])=some (((a++b).length:Int),recs)
 dur:∃rs,rd a ((0:Int),[])=some ((a.length:Int),rs)
 cnt:n=(recs.length:Int)
theorem Val.len{a b:List UInt8}{n:Int}{recs:List (List UInt8×List UInt8)}(h:Val a b n recs):recs.length<=60/\((a++b).length:Int)<=378*(recs.length:Int):=by obtain⟨r,h1,h2,h3⟩:=aAq (s:=a++b) ((0:Int),[]) (RI0 _) (by simp);rw[h.all]at h1;obtain rfl:=zB h1;exact⟨h2.2.2,h3⟩
theorem mQ{a b:List UInt8}(ha:aJ a)(hb:aJ b)(n:Int):∃v,Ci a b n=some v/\Jt a b n=some v/\(v=true↔∃recs,Val a b n recs):=by
 have aa:=ha;have ad:=hb;unfold aJ at ha hb;have e0:a.length+b.length<=9223372036854775807:=by omega
 unfold Ci JR Jt NX;have el:((List.length (a++b):Nat):Int)=(a.length:Int)+(b.length:Int):=by simp
 have ew:IntKind.wrap .i64 ((a.length:Int)+(b.length:Int))=(a.length:Int)+(b.length:Int):=aN (by omega) (by omega);by_cases h:(30000:Int)<(a.length:Int)+(b.length:Int)
 ·refine⟨false,?_,?_,λh=>(by cases h),λ⟨recs,hv⟩=>?_⟩;·simp(disch:=omega)only[EV,ew,h]
  ·simp(disch:=omega)only[EV,e0,el,h]
  ·have:=hv.len;omega
 ·have ab:aJ (a++b):=by unfold aJ;omega
  obtain⟨v,v1,v3,_⟩:=T9 (s:=a++b) [] ((0:Int),[]) (RI0 _);obtain⟨u,u1,u3,_⟩:=T9 (s:=a) [] ((0:Int),[]) (RI0 _);obtain⟨w1,w2⟩:=U6 ab;obtain⟨w3,w4⟩:=U6 aa;rw[v1]at w1 w2;rw[u1]at w3 w4;have e1:¬(30000:Int)<((List.length (a++b):Nat):Int):=by omega
  refine⟨(v.1==(a.length:Int)+(b.length:Int))&&((u.1==(a.length:Int))&&(((v.2.length:Nat):Int)==n)),?_,?_,?_⟩;·simp(disch:=omega)only[EV,ew,h,e0,w1,w3];cases(v.1==(a.length:Int)+(b.length:Int))<;>cases(u.1==(a.length:Int))<;>rfl
  ·simp(disch:=omega)only[EV,e0,e1,w2,w4];rw[el,show(n==((v.2.length:Nat):Int))=(((v.2.length:Nat):Int)==n)from xhh ..];cases(v.1==(a.length:Int)+(b.length:Int))<;>cases(u.1==(a.length:Int))<;>rfl
  ·obtain⟨vo,vr⟩:=v;obtain⟨uo,ur⟩:=u;simp only[xf,qg];constructor;·rintro⟨q1,q2,q3⟩;exact⟨vr,by rw[v1,el,q1],⟨ur,by rw[u1,q2]⟩,q3.symm⟩
   ·rintro⟨recs,hv⟩;have k1:=hv.all;obtain⟨rs,k2⟩:=hv.dur;rw[v1]at k1;rw[u1]at k2;have k3:=zB k1;have k4:=zB k2;simp only[Wb]at k3 k4;obtain⟨k5,k6⟩:=k3;obtain⟨k7,k8⟩:=k4;subst k6;exact⟨by omega,k7,hv.cnt.symm⟩
theorem Val.line{a b c r:List UInt8}{n:Int}{recs:List (List UInt8×List UInt8)}(h:Val a b n recs)(hk:bX n 0 59=true)(hr:bQ c r=true):Val a (b++line n c r) (n+1) (recs++ [(c,r)]):=by have hc:=h.cnt;subst hc;have:=LH (c:=c) (r:=r) h.all hk hr;rw[Yi]at this;exact⟨this,h.dur,by simp⟩
theorem Val.uniq{a b:List UInt8}{n:Int}{r1 r2:List (List UInt8×List UInt8)}(h:Val a b n r1)(k:Val a b n r2):r1=r2:=by have:=h.all.symm.trans k.all;simp only[xe,Wb,true_and]at this;exact this
theorem PU{a b:List UInt8}(ha:aJ a)(hb:aJ b)(n:Int):∃v,ZL a b n=some v/\(v.1.length<=a.length+b.length)/\v.2.1=[]:=by
 obtain⟨v,v1,_,_⟩:=mQ ha hb n;unfold aJ at ha hb;have e0:a.length+b.length<=9223372036854775807:=by omega
 refine⟨if v then(a++b,[],n,true)else([],[],0,false),?_,?_,?_⟩;·unfold ZL aFT;simp(disch:=omega)only[EV,v1,e0];cases v<;>rfl
 ·cases v<;>simp
 ·cases v<;>rfl
theorem Vj{a b c r:List UInt8}(ha:aJ a)(hb:aJ b)(hc:aJ c)(hr:aJ r)(n:Int):∃v,yO a b n c r=some v/\v.1=a/\v.2.1.length<=b.length+378:=by
 obtain⟨v,v1,_,v3⟩:=mQ ha hb n;unfold yO NW;simp(disch:=omega)only[EV,v1,jN hc hr];cases v with
 |false=>exact⟨_,rfl,rfl,by simp⟩
 |true=>
  obtain⟨recs,hv⟩:=v3.1 rfl;have hl:=hv.len;have ad:=hv.cnt;cases aa:bQ c r with
  |false=>exact⟨_,rfl,rfl,by simp⟩
  |true=>
   cases ab:(n==(60:Int))with
   |true=>exact⟨_,rfl,rfl,by simp⟩
   |false=>
    have ae:n≠60:=by simpa using ab
    have hk:bX n 0 59=true:=isIn_iff.2 ⟨by omega,by omega⟩;obtain⟨_,_,_,_,_,ra,rb⟩:=dN aa;have af:=A7 hk aa;have e0:b.length+(line n c r).length<=9223372036854775807:=by unfold aJ at hb;omega
    simp(disch:=omega)only[EV,sF (c:=c) (r:=r) hk (by omega) (by omega),e0];exact⟨_,rfl,rfl,by simp only[xj];omega⟩
theorem Hc{a b:List UInt8}(ha:aJ a)(hb:aJ b)(n:Int):∃v,Q3 a b n=some v/\v.2.length<=60/\(∀recs,Val a b n recs->v=(true,recs)):=by
 obtain⟨v,_,v2,v3⟩:=mQ ha hb n;unfold Q3 Us;simp(disch:=omega)only[EV,v2];cases v with
 |false=>exact⟨_,rfl,by simp,λrecs h=>by have:=v3.2 ⟨recs,h⟩;cases this⟩
 |true=>
  obtain⟨recs,hv⟩:=v3.1 rfl;have hl:=hv.len;have e0:a.length+b.length<=9223372036854775807:=by rw[xj]at hl;omega
  obtain⟨_,w2⟩:=U6 (s:=a++b) (by unfold aJ;omega);rw[hv.all]at w2;simp(disch:=omega)only[EV,e0,w2];exact⟨_,rfl,hl.1,λr2 h2=>by rw[hv.uniq h2]⟩
end
section
variable {o:List Int}{ds:List (List Int)}{s:List Int}{n:Int}
theorem sH{a b c r:List UInt8}(ha:aJ a)(hb:aJ b)(hc:aJ c)(hr:aJ r)(n:Int):∃v,yO a b n c r=some v/\Uj a b n c r=some v/\v.1=a/\v.2.1.length<=b.length+378/\aJ v.2.1/\
  ∀recs,Val a b n recs->n≠60->bQ c r=true->v.2.2=(n+1,0)/\Val a v.2.1 (n+1) (recs++ [(c,r)]):=by
 obtain⟨v,v1,v2,v3⟩:=mQ ha hb n;unfold yO NW Uj aAO;simp(disch:=omega)only[EV,v1,v2,jN hc hr,fC hc hr,kI (k:=n) hc hr];cases v with
 |false=>exact⟨_,rfl,rfl,rfl,by simp,hb,λrecs h=>by have:=v3.2 ⟨recs,h⟩;cases this⟩
 |true=>
  obtain⟨recs,hv⟩:=v3.1 rfl;have hl:=hv.len;have ad:=hv.cnt;cases aa:bQ c r with
  |false=>exact⟨_,rfl,rfl,rfl,by simp,hb,λ_ _ _ h=>by cases h⟩
  |true=>
   cases ab:(n==(60:Int))with
   |true=>exact⟨_,rfl,rfl,rfl,by simp,hb,λ_ _ h=>absurd (by simpa using ab) h⟩
   |false=>
    have ae:n≠60:=by simpa using ab
    have hk:bX n 0 59=true:=isIn_iff.2 ⟨by omega,by omega⟩;obtain⟨_,_,_,_,_,ra,rb⟩:=dN aa;have he:Iz n c r=(line n c r,true):=by unfold Iz Vs;rw[hk,aa];rfl
    have af:=A7 hk aa;have e0:b.length+(line n c r).length<=9223372036854775807:=by unfold aJ at hb;omega
    have ah: -9223372036854775808<=n+1:=by omega
    have ai:n+1<9223372036854775808:=by omega
    rw[he];simp(disch:=omega)only[EV,sF (c:=c) (r:=r) hk (by omega) (by omega),e0];rw[xj]at hl;exact⟨_,rfl,rfl,rfl,by simp only[xj];omega,by unfold aJ;simp only[xj];omega,λrecs h _ _=>⟨rfl,h.line hk aa⟩⟩
theorem iA(h:Atl o ds s n):Z3 o ds s n=some (n,o,ds,s):=by have h7:=h.fld.len;have hc:=h.fld.clients;have hs:=h.set.len;exact vN (by omega) (by omega) (λr hr=>by have:=qA h.fld r hr;omega) (by omega) n
theorem lK(lo:aK o)(ld:eP ds)(ls:aK s)(n:Int):Hd o ds s n=some (aHg (cC o ds s n) o ds s n):=by
 unfold Hd aGk;rw[qn,kF lo ld ls,xc,qo];cases hA:cC o ds s n with
 |false=>rfl
 |true=>rw[xl,qb,qn,iA (atl_iff.1 hA),xc,qq];rfl
def cap(rep:List UInt8):List UInt8:=bif decide ((200:Int)<((rep.length:Nat):Int))then[108,111,110,103]else rep
theorem NR(rep:List UInt8):aJ (cap rep):=by
 unfold cap aJ;by_cases h:(200:Int)<((rep.length:Nat):Int);·rw[qc h,qa];simp
 ·rw[qd h,qb];omega
theorem NO{line rep:List UInt8}{ok:Bool}(hr:bQ line []=true)(hg:ok=true->Gd rep):bQ line (cap (if ok then rep else[63]))=true:=by
 have key:jC (cap (if ok then rep else[63])) 200=true:=by
  cases ok with
  |false=>rfl
  |true=>
   rw[qi rfl];unfold cap;by_cases h2:(200:Int)<((rep.length:Nat):Int);·rw[qc h2];rfl
   ·rw[qd h2,qb];unfold jC;rw[qc (by omega),JL];exact xt.2 λx hx=>(Bool.and_eq_true_iff.1 (hg rfl x hx)).1
 unfold bQ at hr⊢;simp only[xf]at hr⊢;exact⟨hr.1,hr.2.1,hr.2.2.1,key⟩
theorem vU(h:Atl o ds s n){d p:List UInt8}(sd:aJ d)(sp:aJ p){line:List UInt8}(sl:aJ line)(c:Int):
  ∃o' aa s' n' d' p' c' rep,Atl o' aa s' n'/\aJ d'/\aJ p'/\R1 o ds s n d p c line=some (o',aa,s',n',d',p',c',rep)/\Q9 o ds s n d p c line=some (n',d',p',c',rep,o',aa,s')/\
   ∀recs,Val d p c recs->(o',aa,s',n',d',p',c')=(o,ds,s,n,d,p,c)\/(c'=c+1/\Val d' p' c' (recs++ [(line,rep)])/\(rep=[63]->(o',aa,s',n')=(o,ds,s,n))):=by
 obtain⟨lo,ld⟩:=rC h.fld;have ls:=h.set.low h.fld.len;obtain⟨v,v1,v2,_⟩:=mQ sd sp c;have hA:=atl_iff.2 h;have nl:aJ []:=by unfold aJ;simp
 have e1:aAz o ds s n d p c=some v:=by unfold aAz aCC;rw[qn,kF lo ld ls,hA,xc,qo,qa,qn,v1,xc,qq]
 have e2:aCa o ds s n d p c=some v:=by unfold aCa aCH;rw[qn,iH lo ld ls,hA,xc,qo,qa,qn,v2,xc,qq]
 have e3:=fC sl nl;have e4:=jN sl nl;cases v with
 |false=>
  refine⟨o,ds,s,n,d,p,c,[110,111],h,sd,sp,?_,?_,λ_ _=>.inl rfl⟩;·unfold R1 Qf;rw[qn,mM lo ld ls,xc,qn,e2,xc,qo,nE,qa,qq]
  ·unfold Q9 Rs;rw[qn,iA h,xc,qn,e1,xc,qo,nE,qa,qq]
 |true=>
  cases hr:bQ line []with
  |false=>
   rw[hr]at e3 e4;refine⟨o,ds,s,n,d,p,c,[98,97,100],h,sd,sp,?_,?_,λ_ _=>.inl rfl⟩;·unfold R1 Qf;rw[qn,mM lo ld ls,xc,qn,e2,xc,qo,xl,qb,qn,e3,xc,qo,nE,qa,qq]
   ·unfold Q9 Rs;rw[qn,iA h,xc,qn,e1,xc,qo,xl,qb,qn,e4,xc,qo,nE,qa,qq]
  |true=>
   rw[hr]at e3 e4;have hlen:line.length<=160:=by obtain⟨_,_,_,_,_,ra,_⟩:=dN hr;omega
   cases ab:(c==(60:Int))with
   |true=>
    refine⟨o,ds,s,n,d,p,c,[102,117,108,108],h,sd,sp,?_,?_,λ_ _=>.inl rfl⟩;·unfold R1 Qf;rw[qn,mM lo ld ls,xc,qn,e2,xc,qo,xl,qb,qn,e3,xc,qo,xl,qb,qo,ab,qa,qq]
    ·unfold Q9 Rs;rw[qn,iA h,xc,qn,e1,xc,qo,xl,qb,qn,e4,xc,qo,xl,qb,qo,ab,qa,qq]
   |false=>
    obtain⟨o',aa,s',n',rep,ok,h',r1,r2,r3⟩:=ED h (line:=line) (by omega);have hR:Q9 o ds s n d p c line=(yO d p c line (cap (if ok then rep else[63]))).bind λv=>some (n',v.1,v.2.1,v.2.2.1,cap (if ok then rep else[63]),o',aa,s'):=by
     unfold Q9 Rs cap;rw[qn,iA h,xc,qn,e1,xc,qo,xl,qb,qn,e4,xc,qo,xl,qb,qo,ab,qb,qn,r2,xc,qo];cases decide ((200:Int)<(((if ok then rep else[63]).length:Nat):Int))with
     |true=>
      rw[qa,qa,qn];cases yO d p c line [108,111,110,103]with
      |none=>rfl
      |some v=>rw[xc,xc,qn,iA h',xc,qq]
     |false=>
      rw[qb,qb,qn];cases yO d p c line (if ok then rep else[63])with
      |none=>rfl
      |some v=>rw[xc,xc,qn,iA h',xc,qq]
    have hI:R1 o ds s n d p c line=(Uj d p c line (cap (if ok then rep else[63]))).bind λv=>some (o',aa,s',n',v.1,v.2.1,v.2.2.1,cap (if ok then rep else[63])):=by
     unfold R1 Qf;rw[qn,mM lo ld ls,xc,qn,e2,xc,qo,xl,qb,qn,e3,xc,qo,xl,qb,qo,ab,qb,qn,r1,xc,qo];cases ok with
     |false=>rfl
     |true=>
      rw[xl,qb,qi rfl];unfold cap;rw[qo];cases decide ((200:Int)<((rep.length:Nat):Int))with
      |true=>rfl
      |false=>rfl
    obtain⟨v,a1,a2,a3,_,a4,a5⟩:=sH sd sp sl (NR (if ok then rep else[63])) c;rw[a2]at hI;rw[a1]at hR;obtain⟨vd,vp,vc,vs⟩:=v;simp only at a3 a4 a5;subst a3;refine⟨o',aa,s',n',vd,vp,vc,_,h',sd,a4,hI,hR,λrecs hv=>.inr ?_⟩;have ad:c≠60:=by simpa using ab
    obtain⟨k1,k2⟩:=a5 recs hv ad (NO hr λae=>by rw[ae,qi rfl]at r3;exact r3);obtain⟨rfl,rfl⟩:=Prod.mk.inj k1;refine⟨rfl,k2,λhq=>?_⟩;cases ok with
    |false=>exact r3
    |true=>
     exfalso;rw[qi rfl]at r3 hq;unfold cap at hq;by_cases h2:(200:Int)<((rep.length:Nat):Int);·rw[qc h2,qa]at hq;cases hq
     ·rw[qd h2,qb]at hq;subst hq;have:=r3 63 xu;cases this
end
abbrev SW:Type:=List Int×List (List Int)×List Int×Int×List UInt8×List UInt8×Int
def StX(a:SW)(l r:List UInt8)(b:SW):Prop:=R1 a.1 a.2.1 a.2.2.1 a.2.2.2.1 a.2.2.2.2.1 a.2.2.2.2.2.1 a.2.2.2.2.2.2 l=some (b.1,b.2.1,b.2.2.1,b.2.2.2.1,b.2.2.2.2.1,b.2.2.2.2.2.1,b.2.2.2.2.2.2,r)
def Ch:SW->List (List UInt8×List UInt8)->SW->Prop
 |a,[],b=>a=b
 |a,x::t,b=>∃c,StX a x.1 x.2 c/\Ch c t b
theorem Ch.snoc:∀{t:List (List UInt8×List UInt8)} {a b c:SW} {l r:List UInt8},Ch a t b->StX b l r c->Ch a (t++ [(l,r)]) c
 | [],_,_,c,_,_,h,he=>by have h:_=_:=h;subst h;exact⟨c,he,rfl⟩
 |_::_,_,_,_,_,_,⟨c,h1,h2⟩,he=>⟨c,h1,h2.snoc he⟩
section
open Go
theorem tV{B:Int}{l:List Int}{i:Int}(c:Int)(h:CK B l i)(hB:B<=900000):∃a b i' c',NF l i c=some (a,b,l,i',c')/\a.length<=100/\b.length<=100/\CK (B+8) l i':=by
 obtain⟨x1,i1,c1,e1,m1,h1⟩:=Dv ([([102,105,101,108,100]:List UInt8),([111,112,101,110,32,48]:List UInt8),([120]:List UInt8),([99,111,115,116,32,49,32,50]:List UInt8),([48,32,49]:List UInt8)]:List (List UInt8)) c h (by omega) (by decide);obtain⟨x2,i2,c2,e2,m2,h2⟩:=Dv ([([]:List UInt8),([51]:List UInt8),([63]:List UInt8),([97,64,98]:List UInt8),([51,32,49,32,50]:List UInt8)]:List (List UInt8)) c1 h1 (by omega) (by decide);obtain⟨x3,i3,c3,e3,_,_,h3⟩:=cK 24 c2 h2 (by omega) (by omega);have b1:x1.length<=100:=(show∀s∈([([102,105,101,108,100]:List UInt8),([111,112,101,110,32,48]:List UInt8),([120]:List UInt8),([99,111,115,116,32,49,32,50]:List UInt8),([48,32,49]:List UInt8)]:List (List UInt8)),s.length<=100 by decide) x1 m1;have b2:x2.length<=100:=(show∀s∈([([]:List UInt8),([51]:List UInt8),([63]:List UInt8),([97,64,98]:List UInt8),([51,32,49,32,50]:List UInt8)]:List (List UInt8)),s.length<=100 by decide) x2 m2;unfold NF aEU;simp(disch:=omega)only[EV,e1,e2,e3];cases k1:(x3==(0:Int))with
 |true=>
  obtain⟨x4,i4,c4,e4,m4,h4⟩:=Dv ([([]:List UInt8),([97,64,98]:List UInt8),([97,35]:List UInt8),([10]:List UInt8),(lR (List.replicate (Int.toNat (3:Int)) (0:Int)))]:List (List UInt8)) c3 h3 (by omega) (by decide);have b4:x4.length<=100:=(show∀s∈([([]:List UInt8),([97,64,98]:List UInt8),([97,35]:List UInt8),([10]:List UInt8),(lR (List.replicate (Int.toNat (3:Int)) (0:Int)))]:List (List UInt8)),s.length<=100 by decide) x4 m4;have g1:(decide ((0:Int)<=(3:Int))&&decide ((3:Int)<=(3:Int))&&decide (((1:Nat):Int)*(3:Int)<=281474976710656))=true:=by decide
  rw[g1];simp(disch:=omega)only[EV,e4];exact⟨_,_,_,_,rfl,b4,b2,h4.mono (by omega)⟩
 |false=>
  cases k2:(x3==(1:Int))with
  |true=>obtain⟨x5,i5,c5,e5,m5,h5⟩:=Dv ([([35]:List UInt8),([10]:List UInt8),([127]:List UInt8)]:List (List UInt8)) c3 h3 (by omega) (by decide);have b5:x5.length<=100:=(show∀s∈([([35]:List UInt8),([10]:List UInt8),([127]:List UInt8)]:List (List UInt8)),s.length<=100 by decide) x5 m5;simp(disch:=omega)only[EV,e5];exact⟨_,_,_,_,rfl,b1,b5,h5.mono (by omega)⟩
  |false=>simp(disch:=omega)only[EV];exact⟨_,_,_,_,rfl,b1,b2,h3.mono (by omega)⟩
theorem jB{s:List UInt8}(h:s.length<=100000):aJ s:=by unfold aJ;omega
theorem DS{B:Int}{l:List Int}{i:Int}(c:Int)(h:CK B l i)(hB:B<=800000):∃a b n i' c',ZH l i c=some (a,b,n,l,i',c')/\a.length<=6000/\b.length<=6000/\CK (B+62) l i':=by
 obtain⟨x1,i1,c1,e1,x0,x2,h1⟩:=cK 7 c h (by omega) (by omega);obtain⟨r,k1,k2⟩:=K9 (f:=λv=>(T6 (([]:List UInt8),([]:List UInt8),(0:Int)) v).ev)
  (λv=>0<=v.1/\v.1<=6/\v.2.1=l/\CK (B+62-10*v.1) l v.2.2.1/\((v.2.2.2.2.1.length:Int)+v.2.2.2.2.2.1.length)<=1000*(6-v.1)) (λv=>v.1.toNat)
  (λr=>r.1=l/\CK (B+62) l r.2.1/\r.2.2.2.1.length<=6000/\r.2.2.2.2.1.length<=6000)
  (λv hv=>by
   obtain⟨k,l',j,c',a,b,n⟩:=v;obtain⟨v1,v2,v3,v4,v5⟩:=hv;simp only at v1 v2 v3 v4 v5;subst v3;by_cases hp:0<k
   ·obtain⟨ra,rb,j1,d1,f1,ab,ad,g1⟩:=tV c' v4 (by omega);obtain⟨q,q1,q2,q3⟩:=Vj (a:=a) (b:=b) (c:=ra) (r:=rb) (jB (by omega)) (jB (by omega)) (jB (by omega)) (jB (by omega)) n;obtain⟨y,j2,d2,f2,g2⟩:=Le 4 d1 g1 (by omega) (by omega);cases y with
    |true=>
     obtain⟨s,s1,s2,s3⟩:=PU (a:=q.1) (b:=q.2.1) (jB (by rw[q2];omega)) (jB (by omega)) q.2.2.1;have hs:(T6 (([]:List UInt8),([]:List UInt8),(0:Int)) (k,l',j,c',a,b,n)).ev=some (.inl (k-1,l',j2,d2,s.1,s.2.1,s.2.2.1)):=by simp(disch:=omega)only[EV,T6,hp,f1,q1,f2,s1]
     rw[hs];refine⟨⟨by simp only;omega,by simp only;omega,rfl,?_,?_⟩,by simp only;omega⟩;·exact g2.mono (by simp only;omega)
     ·simp only[s3,xy];rw[q2]at s2;omega
    |false=>
     have hs:(T6 (([]:List UInt8),([]:List UInt8),(0:Int)) (k,l',j,c',a,b,n)).ev=some (.inl (k-1,l',j2,d2,q.1,q.2.1,q.2.2.1)):=by simp(disch:=omega)only[EV,T6,hp,f1,q1,f2]
     rw[hs];refine⟨⟨by simp only;omega,by simp only;omega,rfl,?_,?_⟩,by simp only;omega⟩;·exact g2.mono (by simp only;omega)
     ·simp only[q2];omega
   ·have hs:(T6 (([]:List UInt8),([]:List UInt8),(0:Int)) (k,l',j,c',a,b,n)).ev=some (.inr (l',j,c',a,b,n)):=by simp(disch:=omega)only[EV,T6,hp]
    rw[hs];exact⟨rfl,v4.mono (by omega),by simp only;omega,by simp only;omega⟩)
  (v:=(x1,l,i1,c1,([]:List UInt8),([]:List UInt8),(0:Int))) ⟨x0,by simp only;omega,rfl,h1.mono (by simp only;omega),by simp only[xy];omega⟩
 have aa:aJY (([]:List UInt8),([]:List UInt8),(0:Int)) (x1,l,i1,c1,([]:List UInt8),([]:List UInt8),(0:Int))=some r:=k1;obtain⟨l',j,c',a,b,n⟩:=r;obtain⟨w1,w2,w3,w4⟩:=k2;simp only at w1 w2 w3 w4;subst w1;unfold ZH aCA;simp(disch:=omega)only[EV,e1,aa];exact⟨_,_,_,_,_,rfl,w3,w4,w2⟩
theorem M6{B:Int}{l:List Int}{i:Int}(s W:List UInt8)(c:Int)(h:CK B l i)(hB:B<=900000)(hs:s.length<=20000)(hW:1<=W.length)(ad:W.length<=100):∃t i' c',CB s W l i c=some (t,l,i',c')/\t.length<=s.length+5/\CK (B+6) l i':=by
 unfold CB aBn;cases k0:(s==([]:List UInt8))with
 |true=>
  have g1:(decide ((0:Int)<=(1:Int))&&decide ((1:Int)<=((W.length:Nat):Int)))=true:=by rw[qc (show(1:Int)<=((W.length:Nat):Int) by omega)];rfl
  rw[g1];simp(disch:=omega)only[EV];exact⟨_,_,_,rfl,by rw[Ri,xw];omega,h.mono (by omega)⟩
 |false=>
  have ab:1<=s.length:=by
   cases s with
   |nil=>simp at k0
   |cons x s=>simp
  obtain⟨x1,i1,c1,e1,a0,a1,h1⟩:=cK (s.length:Int) c h (by omega) (by omega);obtain⟨x2,i2,c2,e2,b0,b1,h2⟩:=cK ((List.length W:Nat):Int) c1 h1 (by omega) (by omega);obtain⟨x3,i3,c3,e3,d0,d1,h3⟩:=cK 3 c2 h2 (by omega) (by omega);have g1:x2<=((List.length W:Nat):Int):=by omega
  have g2:(1:Int)<=((List.length (List.drop (Int.toNat x2) (List.take (List.length W) W)):Nat):Int):=by rw[tH,xw];omega
  have g0:(0:Int)<=1:=by omega
  have g3:x1<=(s.length:Int):=by omega
  have g4:∀n:Nat,(List.drop 0 (List.take n s)).length<=20000:=λn=>by simp only[Ri,xw];omega
  have g5:∀n:Nat,(List.drop n (List.take s.length s)).length<=20000:=λn=>by simp only[tH,xw];omega
  have g6:∀t:List UInt8,(List.drop 0 (List.take (Int.toNat 1) t)).length<=1:=λt=>by simp only[Ri,xw];omega
  have g7:(0:Int)<=x1+1:=by omega
  have g8:x1+1<=(s.length:Int):=by omega
  generalize hT:List.drop 0 (List.take (Int.toNat 1) (List.drop (Int.toNat x2) (List.take (List.length W) W)))=T;have ae:T.length<=1:=by rw[<-hT];exact g6 _
  have r1:∀n m:Nat,(List.drop 0 (List.take n s)).length+(List.drop m (List.take s.length s)).length<=9223372036854775807:=λn m=>by have:=g4 n;have:=g5 m;omega
  have r2:∀n:Nat,(List.drop 0 (List.take n s)).length+T.length<=9223372036854775807:=λn=>by have:=g4 n;omega
  have r3:∀n m:Nat,(List.drop 0 (List.take n s)++T).length+(List.drop m (List.take s.length s)).length<=9223372036854775807:=λn m=>by have:=g4 n;have:=g5 m;rw[xj];omega
  have tl:∀n m:Nat,(n:Int)<=s.length->n<=m+0->((List.drop 0 (List.take n s)++T)++List.drop m (List.take s.length s)).length<=s.length+5:=λn m hn hm=>by simp only[xj,Ri,xw,tH];omega
  have aa:∀n m:Nat,(n:Int)<=s.length->n<=m+0->(List.drop 0 (List.take n s)++List.drop m (List.take s.length s)).length<=s.length+5:=λn m hn hm=>by simp only[xj,Ri,xw,tH];omega
  simp(disch:=omega)only[EV,e1,e2,e3,b0,g1,g2,g0,a0,g3,hT,r2,r3,r1,g7,g8];cases k1:(x3==(0:Int))with
  |true=>exact⟨_,_,_,rfl,tl _ _ (by omega) (by omega),h3.mono (by omega)⟩
  |false=>
   cases k2:(x3==(1:Int))with
   |true=>exact⟨_,_,_,rfl,tl _ _ (by omega) (by omega),h3.mono (by omega)⟩
   |false=>exact⟨_,_,_,rfl,aa _ _ (by omega) (by omega),h3.mono (by omega)⟩
theorem N5{B:Int}{l:List Int}{i:Int}(c:Int)(h:CK B l i)(hB:B<=700000):∃a b n i' c',PY l i c=some (a,b,n,l,i',c')/\a.length<=30000/\b.length<=30000/\CK (B+70) l i':=by
 obtain⟨a,b,n,i1,c1,e1,a1,b1,h1⟩:=DS c h (by omega);obtain⟨x2,i2,c2,e2,x0,x1,h2⟩:=cK 24 c1 h1 (by omega) (by omega);obtain⟨t,i3,c3,e3,t1,h3⟩:=M6 b ([35,64,10,48,49]:List UInt8) c2 h2 (by omega) (by omega) (by decide) (by decide);have g1:a.length+b.length<=9223372036854775807:=by omega
 unfold PY aAX;simp(disch:=omega)only[EV,e1,e2,e3,g1];cases k1:(x2==(0:Int))with
 |true=>exact⟨_,_,_,_,_,rfl,by omega,by omega,h2.mono (by omega)⟩
 |false=>
  cases k2:(x2==(1:Int))with
  |true=>exact⟨_,_,_,_,_,rfl,by omega,by omega,h3.mono (by omega)⟩
  |false=>
   cases k3:(x2==(2:Int))with
   |true=>exact⟨_,_,_,_,_,rfl,by rw[xj];omega,by omega,h2.mono (by omega)⟩
   |false=>exact⟨_,_,_,_,_,rfl,by omega,by omega,h2.mono (by omega)⟩
theorem LX{l:List Int}(h:∀x∈l,0<=x/\x<=255)(hl:l.length<=70000)(n:Int)(hn:0<=n)(aa:n<=100):∃m,aAm l n=some m/\CK 0 m 0:=by
 have ck:∀k:Nat,∀x:Int,CK 0 (([]++List.drop k (List.take l.length l))++ [IntKind.wrap .u8 x]) 0:=λk x=>by
  refine⟨λy hy=>?_,by simp;omega,by omega,by omega⟩;rcases xp.1 hy with hy|hy;·exact h y (XT (i:=k) (by simpa using hy))
  ·rw[xo.1 hy];exact NN x
 have g1:∀k:Nat,(List.length ([]:List Int)+List.length (List.drop k (List.take l.length l)))*1<=140737488355328:=λk=>by simp;omega
 have g2:∀(k:Nat) (x:Int),(List.length (([]:List Int)++(List.drop k (List.take l.length l)))+List.length ([x]:List Int))*1<=140737488355328:=λk x=>by simp;omega
 unfold aAm aCI;by_cases k1:((l.length:Nat):Int)<n
 ·have z:(0:Int)<=((l.length:Nat):Int):=by omega
  simp(disch:=omega)only[EV,k1,z,zG,g1,g2];exact⟨_,rfl,ck _ _⟩
 ·have k2:n<=((l.length:Nat):Int):=by omega
  simp(disch:=omega)only[EV,k1,hn,k2,g1,g2];exact⟨_,rfl,ck _ _⟩
end
end Go.Proofs.YtjiljcblmgeioaaGreatDoor
