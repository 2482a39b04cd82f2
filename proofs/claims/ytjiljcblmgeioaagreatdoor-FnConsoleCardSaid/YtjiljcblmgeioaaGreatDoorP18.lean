/- A part of the proof that FnConsole hands back true, at every argument of the row. -/
import Derived.Test.YtjiljcblmgeioaaGreatDoorP91
namespace Go.Proofs.YtjiljcblmgeioaaGreatDoor
set_option linter.all false
structure Atl(o:List Int)(ds:List (List Int))(s:List Int)(n:Int):Prop where
 fld:Fld o ds
 set:ris o.length s
 count:0<=n/\n<=1000
theorem atl_iff{o:List Int}{ds:List (List Int)}{s:List Int}{n:Int}:bV o ds s n=true↔Atl o ds s n:=by unfold bV;rw[xg,xg,fieldB_iff,ris_iff,isIn_iff];exact⟨λ⟨a,b,c⟩=>⟨a,b,c⟩,λh=>⟨h.fld,h.set,h.count⟩⟩
theorem rN{o:List Int}{ds:List (List Int)}(h:Fld o ds):aI o/\dL ds:=by have h1:=h.len;have h2:=h.clients;refine⟨by unfold aI;omega,by omega,λr hr=>?_⟩;obtain⟨j,hj,e⟩:=xbv.1 hr;have h3:=h.rowLen j hj;rw[xd,xf hj,xM,e]at h3;unfold aI;omega
theorem rJ{o:List Int}{ds:List (List Int)}(h:Fld o ds):∀r∈ds,r.length=o.length:=λr hr=>by obtain⟨j,hj,e⟩:=xbv.1 hr;have h3:=h.rowLen j hj;rwa [xd,xf hj,xM,e]at h3
theorem x8{f:Int×List (List Int)->Option ((Int×List (List Int))⊕List (List Int))}{x:List (List Int)}
  (aa:∀i:Nat,i<x.length->f ((i:Int),x.take i)=some (.inl (((i+1:Nat):Int),x.take i++ [x.getD i []]))) (ab:f ((x.length:Int),x)=some (.inr x)):aB f (0,[])=some x:=by
 have:=(aR (f:=f) (n:=x.length) (mk:=λi (_:Unit)=>((i:Int),x.take i)) (I:=λ_ _=>True) (g:=λs _=>s) (fin:=λ_=>x) (s0:=()) trivial
  (λi s hi _=>⟨by rw[aa i hi,dP [] hi],trivial⟩)
  (λs _=>by rw[tM,ab])).1
 simpa using this
theorem Ek{ds:List (List Int)}(hd:ds.length<=1000)(hr:∀r∈ds,r.length<=1000)(k:(List (Int))×(List (List (Int)))×(List (Int))×(Int)×(Int)×(List (List (Int)))×(List (Int)))(hk:k.2.1=ds):aLO k (0,[])=some ds:=by
 have h0:=x8 (f:=λv=>(FW k v).ev) (x:=ds)
  (λi hi=>by have ht:(ds.take i).length<=i:=xfy _ _;have r1:=mG (ds.take i) (by omega);have e1:=jX (l:=ds.getD i []) (by have:=hr _ (aG (d:=[]) hi);omega);simp(disch:=omega)only[EV,FW,hk,hi,e1,fA,r1];rfl)
  (by simp(disch:=omega)only[EV,FW,hk,xi])
 exact h0
theorem rC{o s:List Int}{ds:List (List Int)}(ho:o.length<=1000)(hd:ds.length<=1000)(hr:∀r∈ds,r.length<=1000)(hs:s.length<=1000)(c:Int):G9 o ds s c=some (c,o,ds,s):=by unfold G9 aBY;rw[qo,jX (l:=o) (by omega),xc,qo,Ek hd hr _ rfl,xc,qo,jX (l:=s) (by omega),xc,qt]
theorem Yu{α:Type}(f:α->α)(d:α){l:List α}{i:Nat}(hi:i<l.length):((l.take i).map f++l.drop i).getD i d=l.getD i d/\((l.take i).map f++l.drop i).set i (f (l.getD i d))=(l.take (i+1)).map f++l.drop (i+1)/\((l.take i).map f++l.drop i).length=l.length:=by
 have hl:((l.take i).map f).length=i:=by rw[Ge,xw];omega
 have hd:=Nj hi;have hg:l.getD i d=l[i]:=by rw[xd,xf hi];rfl
 refine⟨?_,?_,?_⟩;·rw[xd,D4 (by omega),hl,JX,hd,hg];rfl
 ·rw[xcw _ _ (by omega),hl,JX,hd,List.set_cons_zero,dP d hi,xdu,Vt];rfl
 ·rw[xj,hl,tO];omega
theorem vI{α:Type}{f:Int×List α->Option ((Int×List α)⊕List α)}(g:α->α)(d:α){l:List α}
  (aa:∀(i:Nat) (x:List α),i<l.length->x.length=l.length->x.getD i d=l.getD i d->f ((i:Int),x)=some (.inl (((i+1:Nat):Int),x.set i (g (l.getD i d)))))
  (ab:∀x:List α,x.length=l.length->f ((l.length:Int),x)=some (.inr x)):aB f (0,l)=some (l.map g):=by
 have:=(aR (f:=f) (n:=l.length) (mk:=λi (_:Unit)=>((i:Int),(l.take i).map g++l.drop i)) (I:=λ_ _=>True) (g:=λs _=>s) (fin:=λ_=>l.map g) (s0:=()) trivial
  (λi s hi _=>by obtain⟨h1,h2,h3⟩:=Yu g d hi;exact⟨by rw[aa i _ hi h3 h1,h2],trivial⟩)
  (λs _=>by rw[tM,xds,zL,ab _ (by simp)])).1
 simpa using this
theorem Ea{α:Type}{l:List α}{i:Nat}(d:α)(hi:i<l.length):l.set i (l.getD i d)=l:=by rw[xd,xf hi,xM,List.set_getElem_self]
def fO(a x:Int):Int:=if a<x then x-1 else x
theorem DN{o s:List Int}{ds:List (List Int)}{n:Int}(h:Atl o ds s n){a:Int}(h0:0<=a)(ha:a<(o.length:Int)):XM o ds s n a=some (n,cP a o,ds.map (cP a),s.map (fO a)):=by
 have h7:=h.fld.len;have hm:=h.fld.clients;have ab:=rJ h.fld;have ai:=h.set.len;have e1:=rC (o:=o) (ds:=ds) (s:=s) (by omega) (by omega) (λr hr=>by have:=ab r hr;omega) (by omega) n;have e2:=Nk (l:=o) (by omega) h0 ha;have l1:=vI (f:=λv=>(HA (a,o,ds,s,n,(0:Int),n,cP a o,s) v).ev) (cP a) [] (l:=ds)
  (λi x hi hx hg=>by
   have aj:=ab _ (aG (d:=[]) hi);have e3:=Nk (l:=ds.getD i []) (by omega) h0 (by omega);have aa:i<x.length:=by omega
   simp(disch:=omega)only[EV,HA,hi,aa,e3];rfl)
  (λx hx=>by simp(disch:=omega)only[EV,HA,xi])
 have l2:=vI (f:=λv=>(Qj (a,(0:Int),n,cP a o,ds.map (cP a)) v).ev) (fO a) 0 (l:=s)
  (λi x hi hx hg=>by
   have aa:i<x.length:=by omega
   have hv:=h.set.1 _ (aG (d:=0) hi);have hw:IntKind.wrap .i64 (s.getD i 0-1)=s.getD i 0-1:=aL (by omega) (by omega);unfold fO;by_cases ae:a<s.getD i 0;·simp(disch:=omega)only[EV,Qj,aa,hg,ae,hw];rfl
   ·have ad:x.set i (s.getD i 0)=x:=by rw[<-hg];exact Ea 0 aa
    simp(disch:=omega)only[EV,Qj,aa,hg,ae,ad];rfl)
  (λx hx=>by
   have hn:¬s.length<x.length:=by omega
   simp(disch:=omega)only[EV,Qj,hn])
 have af:aKQ (a,o,ds,s,n,(0:Int),n,cP a o,s) (0,ds)=some (ds.map (cP a)):=l1;have ah:aKs (a,(0:Int),n,cP a o,ds.map (cP a)) (0,s)=some (s.map (fO a)):=l2;unfold XM aGk;rw[qo,e1,xc,qo,e2,xc,qo,af,xc,qo,ah,xc,qt]
def fI(o:List Int)(ds:List (List Int))(s:List Int)(k a b c:Int)(l:List Int):List Int×List (List Int)×List Int:=
 if k=1 then(o,ds,ins a s)
 else if k=2 then(o,ds,wo s a)
 else if k=3 then(o,ds,ins b (wo s a))
 else if k=4 then(o.set a.toNat b,ds,s)
 else if k=5 then(o,ds.set a.toNat ((ds.getD a.toNat []).set b.toNat c),s)
 else if k=6 then(o++ [a],List.zipWith (λr x=>r++ [x]) ds l,s)
 else if k=7 then(o,ds++ [l],s)
 else if k=8 then(cP a o,ds.map (cP a),s.map (fO a))
 else if k=9 then(o,cP a ds,s)
 else if k=10 then(o,ds,(oD o ds s).2)
 else if k=11 then(o,ds,pU o ds)
 else(o,ds,s)
def Sm(x:List Int×List (List Int)×List Int):Prop:=aI x.1/\dL x.2.1/\aI x.2.2
theorem Am{o s:List Int}{ds:List (List Int)}{n:Int}(h:Atl o ds s n)(h0:s≠ []):dV o ds s=true:=by unfold dV;rw[fieldB_iff.2 h.fld,ris_iff.2 h.set,qc (xar.2 h0)];rfl
theorem Cl{ds:List (List Int)}{l:List Int}{i:Nat}(hi:i<ds.length)(hl:l.length=ds.length):∀{x:List (List Int)},x=List.zipWith (λr y=>r++ [y]) (ds.take i) (l.take i)++ds.drop i->
  x.getD i []=ds.getD i []/\x.length=ds.length/\x.set i (ds.getD i []++ [l.getD i 0])=List.zipWith (λr y=>r++ [y]) (ds.take (i+1)) (l.take (i+1))++ds.drop (i+1):=by
 intro x hx;subst hx;have hz:(List.zipWith (λr y=>r++ [y]) (ds.take i) (l.take i)).length=i:=by simp;omega
 have hd:=Nj hi;have hg:ds.getD i []=ds[i]:=by rw[xd,xf hi];rfl
 refine⟨?_,?_,?_⟩;·rw[xd,D4 (by omega),hz,JX,hd,hg];rfl
 ·rw[xj,hz,tO];omega
 ·rw[xcw _ _ (by omega),hz,JX,hd,List.set_cons_zero,dP [] hi,dP 0 (show i<l.length by omega),List.zipWith_append (by simp;omega),Vt];rfl
theorem Jj{ds:List (List Int)}{l:List Int}(hl:l.length=ds.length)(hd:ds.length<=7)(hr:∀r∈ds,r.length<=7)(k:(Int)×(Int)×(Int)×(Int)×(List (Int))×(Int)×(Int)×(List (Int))×(List (Int))×(List (Int))×(List (Int)))(hk:k.2.2.2.2.1=l):
  aFq k (0,ds)=some (List.zipWith (λr x=>r++ [x]) ds l):=by
 have h:=(aR (f:=λv=>(BR k v).ev) (n:=ds.length) (mk:=λi (x:List (List Int))=>((i:Int),x)) (I:=λi x=>x=List.zipWith (λr y=>r++ [y]) (ds.take i) (l.take i)++ds.drop i) (g:=λx i=>x.set i (ds.getD i []++ [l.getD i 0])) (fin:=λs=>s) (s0:=ds) (by simp)
  (λi x hi hx=>by
   obtain⟨z1,z2,z3⟩:=Cl hi hl hx;refine⟨?_,z3⟩;have aa:i<l.length:=by omega
   have ab:i<x.length:=by omega
   have r1:=oF (ds.getD i []) (l.getD i 0) (by have:=hr _ (aG (d:=[]) hi);omega);simp(disch:=omega)only[EV,BR,hk,aa,ab,z1,r1];rfl)
  (λx hx=>by
   have hn:¬ds.length<l.length:=by omega
   simp(disch:=omega)only[EV,BR,hk,hn]))
 obtain⟨h1,h2⟩:=h;have h3:aFq k (0,ds)=_:=h1;rw[h3,h2,tM,xds,zL,Gb (by omega)]
theorem Fv{o s:List Int}{ds:List (List Int)}{n:Int}(h:Atl o ds s n){k a b c:Int}{l:List Int}(hl:aI l)(hm:iI o.length ds.length s k a b l=true):
  aBA o ds s n k a b c l=some (n,fI o ds s k a b c l)/\Sm (fI o ds s k a b c l):=by
 have h7:=h.fld.len;have hp:=h.fld.pos;have hc:=h.fld.clients;have af:=rJ h.fld;have au:=h.set.len;obtain⟨lo,ld⟩:=rN h.fld;have ls:aI s:=h.set.low h7;have e1:=rC (o:=o) (ds:=ds) (s:=s) (by omega) (by omega) (λr hr=>by have:=af r hr;omega) (by omega) n;have ab:∀{m:Nat} {x:Int},cK m x=true->0<=x/\x<(m:Int):=λ{m x} hx=>by have:=isIn_iff.1 hx;omega
 have ad:∀{x:Int},bP o.length s x=true->(0<=x/\x<(o.length:Int))/\x∉s:=λ{x} hx=>by unfold bP at hx;rw[xg,E5]at hx;exact⟨ab hx.1,cB hx.2⟩
 have aa:∀{x:List Int},x.length<=1000->aI x:=λ{x} hx=>by unfold aI;omega
 unfold aBA aDB;rw[qo,e1,xc];dsimp only;by_cases h1:k=1;·subst h1;obtain⟨q1,q2⟩:=ad hm;have e2:=qI (l:=s) (x:=a) (by omega) q2;refine⟨?_,lo,ld,aa (by show(ins a s).length<=1000;rw[pT];omega)⟩;rw[qp,show((1:Int)==1)=true from rfl,qa,qo,e2];rfl
 by_cases h2:k=2;·subst h2;have e2:=pC (l:=s) (by omega) a;refine⟨?_,lo,ld,aa (by have:=Hz s a;show(wo s a).length<=1000;omega)⟩;rw[qp,show((2:Int)==1)=false from rfl,qb,qp,show((2:Int)==2)=true from rfl,qa,qo,e2];rfl
 by_cases h3:k=3;·subst h3;have ae:(s.contains a&&bP o.length s b)=true:=hm;rw[xg]at ae;obtain⟨q1,q2⟩:=ad ae.2;have e2:=pC (l:=s) (by omega) a;have av:=Hz s a;have e3:=qI (l:=wo s a) (x:=b) (by omega) (lL q2);unfold wo at e3;refine⟨?_,lo,ld,aa (by show(ins b (wo s a)).length<=1000;rw[pT];omega)⟩;simp only[qp,show((3:Int)==1)=false from rfl,show((3:Int)==2)=false from rfl,show((3:Int)==3)=true from rfl,qa,qb,qo,e2,xc,e3];rfl
 by_cases h4:k=4
 ·subst h4;have hs:=ab (show cK o.length a=true from hm);have i1:aC a o.length=true:=bK (by omega) (by omega);have i2:a.toNat<o.length:=by omega
  refine⟨?_,aa (by show(o.set a.toNat b).length<=1000;rw[E2];omega),ld,ls⟩;simp only[qp,show((4:Int)==1)=false from rfl,show((4:Int)==2)=false from rfl,show((4:Int)==3)=false from rfl,show((4:Int)==4)=true from rfl,qa,qb,qq,i1,qc i2];rfl
 by_cases h5:k=5
 ·subst h5;have ae:(cK ds.length a&&cK o.length b)=true:=hm;rw[xg]at ae;have q1:=ab ae.1;have q2:=ab ae.2;have i2:a.toNat<ds.length:=by omega
  have aw:=af _ (aG (d:=[]) i2);have i1:aC a ds.length=true:=bK (by omega) (by omega);have i3:aC b (ds.getD a.toNat []).length=true:=bK (by omega) (by omega);have i4:b.toNat<(ds.getD a.toNat []).length:=by omega
  refine⟨?_,lo,⟨by show((ds.set a.toNat ((ds.getD a.toNat []).set b.toNat c)).length:Int)<=_;rw[E2];omega,λr hr=>?_⟩,ls⟩;·simp only[qp,show((5:Int)==1)=false from rfl,show((5:Int)==2)=false from rfl,show((5:Int)==3)=false from rfl,show((5:Int)==4)=false from rfl,show((5:Int)==5)=true from rfl,qa,qb,qq,i1,qc i2,i3,qc i4];rfl
  ·rcases xct (show r∈ds.set a.toNat ((ds.getD a.toNat []).set b.toNat c)from hr)with hr|rfl;·exact ld.2 r hr
   ·exact aa (by rw[E2];omega)
 by_cases h6:k=6
 ·subst h6;have ae:((((l.length:Nat):Int))==((ds.length:Nat):Int))=true:=hm;have ak:l.length=ds.length:=by have:=eq_of_beq ae;omega
  have r1:=oF o a (by omega);have e2:=λk=>Jj (l:=l) (ds:=ds) ak hc (λr hr=>by have:=af r hr;omega) k;refine⟨?_,aa (by show(o++ [a]).length<=1000;simp;omega),⟨by show((List.zipWith (λr x=>r++ [x]) ds l).length:Int)<=_;simp;omega,λr hr=>?_⟩,ls⟩;·simp only[qp,show((6:Int)==1)=false from rfl,show((6:Int)==2)=false from rfl,show((6:Int)==3)=false from rfl,show((6:Int)==4)=false from rfl,show((6:Int)==5)=false from rfl,show((6:Int)==6)=true from rfl,qa,qb,qq,qc r1,qo];rw[e2 _ rfl];rfl
  ·obtain⟨j,hj,e⟩:=xbv.1 (show r∈List.zipWith (λr x=>r++ [x]) ds l from hr);rw[List.getElem_zipWith]at e;subst e;rw[List.length_zipWith]at hj;exact aa (by have:=af _ (xed (show j<ds.length by omega));simp;omega)
 by_cases ah:k=7
 ·subst ah;have e2:=jX (l:=l) (by unfold aI at hl;omega);have r1:=mG ds (by omega);refine⟨?_,lo,⟨by show((ds++ [l]).length:Int)<=_;simp;omega,λr hr=>?_⟩,ls⟩;·simp only[qp,show((7:Int)==1)=false from rfl,show((7:Int)==2)=false from rfl,show((7:Int)==3)=false from rfl,show((7:Int)==4)=false from rfl,show((7:Int)==5)=false from rfl,show((7:Int)==6)=false from rfl,show((7:Int)==7)=true from rfl,qa,qb,qo,e2,xc,qq,qc r1,fA];rfl
  ·rcases xq.1 (show r∈ds++ [l]from hr)with hr|hr;·exact ld.2 r hr
   ·rw[xo.1 hr];exact hl
 by_cases h8:k=8
 ·subst h8;obtain⟨q1,q2⟩:=ad (x:=a) hm;have e2:=DN h q1.1 q1.2;have al:=vV (l:=o) q1.1 q1.2;refine⟨?_,aa (by show(cP a o).length<=1000;omega),⟨by show((ds.map (cP a)).length:Int)<=_;simp;omega,λr hr=>?_⟩,aa (by show(s.map (fO a)).length<=1000;simp;omega)⟩;·simp only[qp,show((8:Int)==1)=false from rfl,show((8:Int)==2)=false from rfl,show((8:Int)==3)=false from rfl,show((8:Int)==4)=false from rfl,show((8:Int)==5)=false from rfl,show((8:Int)==6)=false from rfl,show((8:Int)==7)=false from rfl,show((8:Int)==8)=true from rfl,qa,qb,qo,e2];rfl
  ·obtain⟨r',ao,rfl⟩:=xaf.1 (show r∈ds.map (cP a)from hr);have:=af r' ao;have:=vV (l:=r') q1.1 (by omega);exact aa (by omega)
 by_cases h9:k=9
 ·subst h9;have q1:=ab (show cK ds.length a=true from hm);have hw:IntKind.wrap .i64 (a+1)=a+1:=aL (by omega) (by omega);have ht:(a+1).toNat=a.toNat+1:=by omega
  have g1:(decide (0<=a)&&decide (a<=((ds.length:Nat):Int)))=true:=by rw[qc (by omega),qc (by omega)];rfl
  have g2:(decide (0<=a+1)&&decide (a+1<=((ds.length:Nat):Int)))=true:=by rw[qc (by omega),qc (by omega)];rfl
  have g3:(decide (a.toNat<=a.toNat+1)&&decide ((a.toNat+(ds.length-(a.toNat+1)))*24<=140737488355328))=true:=by rw[qc (by omega),qc (by omega)];rfl
  have al:=vV (l:=ds) q1.1 q1.2;refine⟨?_,lo,⟨by show((cP a ds).length:Int)<=_;omega,λr hr=>ld.2 r (Ul hr)⟩,ls⟩;simp only[qp,show((9:Int)==1)=false from rfl,show((9:Int)==2)=false from rfl,show((9:Int)==3)=false from rfl,show((9:Int)==4)=false from rfl,show((9:Int)==5)=false from rfl,show((9:Int)==6)=false from rfl,show((9:Int)==7)=false from rfl,show((9:Int)==8)=false from rfl,show((9:Int)==9)=true from rfl,qa,qb,qq,hw,ht,g1,g2,g3];rfl
 by_cases ai:k=10;·subst ai;have ae:decide ((0:Int)<((s.length:Nat):Int))=true:=hm;have h0:s≠ []:=xar.1 (by have:=of_decide_eq_true ae;omega);have e2:=Tv lo ld ls;rw[Am h h0,qa]at e2;have ar:=(Gw h.fld h.set h0).1;refine⟨?_,lo,ld,ar.low h7⟩;simp only[qp,show((10:Int)==1)=false from rfl,show((10:Int)==2)=false from rfl,show((10:Int)==3)=false from rfl,show((10:Int)==4)=false from rfl,show((10:Int)==5)=false from rfl,show((10:Int)==6)=false from rfl,show((10:Int)==7)=false from rfl,show((10:Int)==8)=false from rfl,show((10:Int)==9)=false from rfl,show((10:Int)==10)=true from rfl,qa,qb,qo,e2];rfl
 by_cases aj:k=11;·subst aj;have e2:=FL h.fld;have hb:=(u9 hp h7 (Kc h.fld).1).1;have ay:=hb.len;have e3:=jX (l:=pU o ds) (by omega);refine⟨?_,lo,ld,hb.low h7⟩;simp only[qp,show((11:Int)==1)=false from rfl,show((11:Int)==2)=false from rfl,show((11:Int)==3)=false from rfl,show((11:Int)==4)=false from rfl,show((11:Int)==5)=false from rfl,show((11:Int)==6)=false from rfl,show((11:Int)==7)=false from rfl,show((11:Int)==8)=false from rfl,show((11:Int)==9)=false from rfl,show((11:Int)==10)=false from rfl,show((11:Int)==11)=true from rfl,qa,qb,qo,e2,xc,e3];rfl
 have he:fI o ds s k a b c l=(o,ds,s):=by unfold fI;rw[qi h1,qi h2,qi h3,qi h4,qi h5,qi h6,qi ah,qi h8,qi h9,qi ai,qi aj]
 rw[he];refine⟨?_,lo,ld,ls⟩;simp only[qp,qt,beq_eq_false_iff_ne.2 h1,beq_eq_false_iff_ne.2 h2,beq_eq_false_iff_ne.2 h3,beq_eq_false_iff_ne.2 h4,beq_eq_false_iff_ne.2 h5,beq_eq_false_iff_ne.2 h6,beq_eq_false_iff_ne.2 ah,beq_eq_false_iff_ne.2 h8,beq_eq_false_iff_ne.2 h9,beq_eq_false_iff_ne.2 ai,beq_eq_false_iff_ne.2 aj,qb]
def wE(o:List Int)(ds:List (List Int))(s:List Int)(n k a b c:Int)(l:List Int):Option (Int×List Int×List (List Int)×List Int):=
 bif cL k a b c l&&(iI o.length ds.length s k a b l&&bV (fI o ds s k a b c l).1 (fI o ds s k a b c l).2.1 (fI o ds s k a b c l).2.2 (n+1))then some (n+1,fI o ds s k a b c l)else none
theorem Ed{o s:List Int}{ds:List (List Int)}{n k a b c:Int}{l:List Int}{y:Int×List Int×List (List Int)×List Int}(h:wE o ds s n k a b c l=some y):Atl y.2.1 y.2.2.1 y.2.2.2 y.1:=by
 unfold wE at h;cases hb:(cL k a b c l&&(iI o.length ds.length s k a b l&&bV (fI o ds s k a b c l).1 (fI o ds s k a b c l).2.1 (fI o ds s k a b c l).2.2 (n+1)))with
 |false=>rw[hb]at h;cases h
 |true=>rw[hb]at h;cases h;simp only[xg]at hb;exact atl_iff.1 hb.2.2
def doT(x:Option (Int×List Int×List (List Int)×List Int)):Int×Bool×List Int×List (List Int)×List Int:=match x with
 |some y=>(y.1,true,y.2)
 |none=>(0,false,[],[],[])
theorem ID{o s:List Int}{ds:List (List Int)}{n:Int}(h:Atl o ds s n)(k a b c:Int){l:List Int}(hl:aI l):MB o ds s n k a b c l=some (doT (wE o ds s n k a b c l)):=by
 have h7:=h.fld.len;have hc:=h.fld.clients;have aa:=h.set.len;have hn:=h.count;have hw:IntKind.wrap .i64 (n+1)=n+1:=aL (by omega) (by omega);unfold MB aAx wE;rw[qo,Qs,xc,qp];cases cL k a b c l with
 |false=>rfl
 |true=>
  rw[xl,qb,qo,PU (by omega) (by omega) (by omega),xc,qp];cases hm:iI o.length ds.length s k a b l with
  |false=>rfl
  |true=>obtain⟨e1,q1,q2,q3⟩:=Fv h (c:=c) hl hm;rw[xl,qb,qo,e1,xc,qo,hw];dsimp only;rw[eN q1 q2 q3,xc,qp];cases bV (fI o ds s k a b c l).1 (fI o ds s k a b c l).2.1 (fI o ds s k a b c l).2.2 (n+1)<;>rfl
theorem CI(k a b c:Int)(l:List Int):aAA k a b c l=some (cL k a b c l):=by
 unfold aAA aCu;by_cases h1:k=1
 ·subst h1;have e:jK 1=some (1,false,true):=rfl;rw[qo,e,xc];unfold cL oO;dsimp only;generalize(a==0)=x;generalize(b==0)=y;generalize(c==0)=z;generalize(((List.length l:Nat):Int)==0)=w
  revert x y z w
  decide
 by_cases h2:k=2
 ·subst h2;have e:jK 2=some (1,false,true):=rfl;rw[qo,e,xc];unfold cL oO;dsimp only;generalize(a==0)=x;generalize(b==0)=y;generalize(c==0)=z;generalize(((List.length l:Nat):Int)==0)=w
  revert x y z w
  decide
 by_cases h3:k=3
 ·subst h3;have e:jK 3=some (2,false,true):=rfl;rw[qo,e,xc];unfold cL oO;dsimp only;generalize(a==0)=x;generalize(b==0)=y;generalize(c==0)=z;generalize(((List.length l:Nat):Int)==0)=w
  revert x y z w
  decide
 by_cases h4:k=4
 ·subst h4;have e:jK 4=some (2,false,true):=rfl;rw[qo,e,xc];unfold cL oO;dsimp only;generalize(a==0)=x;generalize(b==0)=y;generalize(c==0)=z;generalize(((List.length l:Nat):Int)==0)=w
  revert x y z w
  decide
 by_cases h5:k=5
 ·subst h5;have e:jK 5=some (3,false,true):=rfl;rw[qo,e,xc];unfold cL oO;dsimp only;generalize(a==0)=x;generalize(b==0)=y;generalize(c==0)=z;generalize(((List.length l:Nat):Int)==0)=w
  revert x y z w
  decide
 by_cases h6:k=6
 ·subst h6;have e:jK 6=some (1,true,true):=rfl;rw[qo,e,xc];unfold cL oO;dsimp only;generalize(a==0)=x;generalize(b==0)=y;generalize(c==0)=z;generalize(((List.length l:Nat):Int)==0)=w
  revert x y z w
  decide
 by_cases h7:k=7
 ·subst h7;have e:jK 7=some (0,true,true):=rfl;rw[qo,e,xc];unfold cL oO;dsimp only;generalize(a==0)=x;generalize(b==0)=y;generalize(c==0)=z;generalize(((List.length l:Nat):Int)==0)=w
  revert x y z w
  decide
 by_cases h8:k=8
 ·subst h8;have e:jK 8=some (1,false,true):=rfl;rw[qo,e,xc];unfold cL oO;dsimp only;generalize(a==0)=x;generalize(b==0)=y;generalize(c==0)=z;generalize(((List.length l:Nat):Int)==0)=w
  revert x y z w
  decide
 by_cases h9:k=9
 ·subst h9;have e:jK 9=some (1,false,true):=rfl;rw[qo,e,xc];unfold cL oO;dsimp only;generalize(a==0)=x;generalize(b==0)=y;generalize(c==0)=z;generalize(((List.length l:Nat):Int)==0)=w
  revert x y z w
  decide
 by_cases aa:k=10
 ·subst aa;have e:jK 10=some (0,false,true):=rfl;rw[qo,e,xc];unfold cL oO;dsimp only;generalize(a==0)=x;generalize(b==0)=y;generalize(c==0)=z;generalize(((List.length l:Nat):Int)==0)=w
  revert x y z w
  decide
 by_cases ab:k=11
 ·subst ab;have e:jK 11=some (0,false,true):=rfl;rw[qo,e,xc];unfold cL oO;dsimp only;generalize(a==0)=x;generalize(b==0)=y;generalize(c==0)=z;generalize(((List.length l:Nat):Int)==0)=w
  revert x y z w
  decide
 have e:jK k=some (0,false,false):=by unfold jK MD;simp only[qp,qt,beq_eq_false_iff_ne.2 h1,beq_eq_false_iff_ne.2 h2,beq_eq_false_iff_ne.2 h3,beq_eq_false_iff_ne.2 h4,beq_eq_false_iff_ne.2 h5,beq_eq_false_iff_ne.2 h6,beq_eq_false_iff_ne.2 h7,beq_eq_false_iff_ne.2 h8,beq_eq_false_iff_ne.2 h9,beq_eq_false_iff_ne.2 aa,beq_eq_false_iff_ne.2 ab,qb]
 have hp:cL k a b c l=false:=by unfold cL;rw[qi (by omega),qi (by omega),qi h5,qi h6,qi h7,qi (by omega)]
 rw[qo,e,hp];rfl
theorem qP{l:List Int}(hl:aI l):D5 l=some l:=by unfold aI at hl;unfold D5 sQ;rw[qj (by omega)]
theorem H3{ds:List (List Int)}(hd:dL ds):DC ds=some ds:=by
 unfold DC LT;have hl:=hd.1;have h0:=x8 (f:=λv=>(Er (ds,((ds.length:Nat):Int)) v).ev) (x:=ds)
  (λi hi=>by
   have ht:(ds.take i).length<=i:=xfy _ _;have hg:((ds.take i).length+1)*24<=140737488355328:=by omega
   simp(disch:=omega)only[EV,Er,hi,qP (hd.2 _ (aG (d:=[]) hi)),fA,hg];rfl)
  (by simp(disch:=omega)only[EV,Er,xi])
 simp(disch:=omega)only[EV,aCc,h0]
theorem Gp{o:List Int}{ds:List (List Int)}{s:List Int}(ho:aI o)(hd:dL ds)(hs:aI s)(c:Int):Hh o ds s c=some (c,o,ds,s):=by unfold Hh PZ;simp(disch:=omega)only[EV,qP ho,qP hs,H3 hd]
theorem oU{o:List Int}{ds:List (List Int)}{s:List Int}(ho:aI o)(hd:dL ds)(hs:aI s)(c:Int):iK o ds s c=some (bV o ds s c):=cC ho hd hs c
theorem kV{o s:List Int}{ds:List (List Int)}{n:Int}(h:Atl o ds s n){k a b c:Int}{l:List Int}(hl:aI l)(hm:iI o.length ds.length s k a b l=true):Sm (fI o ds s k a b c l):=(Fv h hl hm).2
theorem kM{o s:List Int}{ds:List (List Int)}{n k a b c:Int}{l:List Int}(hp:cL k a b c l=true)(hm:iI o.length ds.length s k a b l=true){E:List Int×List (List Int)×List Int}(hE:fI o ds s k a b c l=E)(hS:Sm E):
  (Tr.c (Bool) (iK E.1 E.2.1 E.2.2 (n+1)) λr=>Tr.t (!r) (.l ((0:Int),false,([]:List (Int)),([]:List (List (Int))),([]:List (Int)))) (.l (n+1,true,E.1,E.2.1,E.2.2))).ev=some (doT (wE o ds s n k a b c l)):=by
 obtain⟨h1,h2,h3⟩:=hS;unfold wE;rw[hp,hm,hE,qo,oU h1 h2 h3,xc,qp];cases bV E.1 E.2.1 E.2.2 (n+1)<;>rfl
theorem jP{o s:List Int}{ds:List (List Int)}{n k a b c:Int}{l:List Int}(hm:iI o.length ds.length s k a b l=false):wE o ds s n k a b c l=none:=by unfold wE;rw[hm];simp
theorem IQ{o s:List Int}{ds:List (List Int)}(ho:o.length<=1000)(n a:Int):Y5 a o ds s n=some (cK o.length a):=by unfold Y5 aAh cK;rw[qo,dK,xc,qt,aL (by omega) (by omega)]
theorem R4{α:Type}{a:Int}{l:List α}(h0:0<=a)(h:a<(l.length:Int)):G4 a (a+1) l=some (cP a l):=by unfold G4 cP;rw[qj (by omega),show(a+1).toNat=a.toNat+1 by omega]
theorem Gn{ds:List (List Int)}{l:List Int}(hl:l.length=ds.length)(hd:ds.length<=7)(hr:∀r∈ds,r.length<=7)(k:(Bool)×(List (Int))×(Int)×(Int)×(Int)×(List (Int))×(List (Int))×(List (Int))×(List (Int)))(hk:k.2.1=l)(aa:k.2.2.1=((l.length:Nat):Int)):
  aDL k (0,ds)=some (List.zipWith (λr x=>r++ [x]) ds l):=by
 have h:=(aR (f:=λv=>(CE k v).ev) (n:=ds.length) (mk:=λi (x:List (List Int))=>((i:Int),x)) (I:=λi x=>x=List.zipWith (λr y=>r++ [y]) (ds.take i) (l.take i)++ds.drop i) (g:=λx i=>x.set i (ds.getD i []++ [l.getD i 0])) (fin:=λs=>s) (s0:=ds) (by simp)
  (λi x hi hx=>by
   obtain⟨z1,z2,z3⟩:=Cl hi hl hx;refine⟨?_,z3⟩;have ab:i<l.length:=by omega
   have ad:i<x.length:=by omega
   have r1:=oF (ds.getD i []) (l.getD i 0) (by have:=hr _ (aG (d:=[]) hi);omega);simp(disch:=omega)only[EV,CE,hk,aa,ab,ad,z1,r1];rfl)
  (λx hx=>by
   have hn:¬ds.length<l.length:=by omega
   simp(disch:=omega)only[EV,CE,aa,hn]))
 obtain⟨h1,h2⟩:=h;have h3:aDL k (0,ds)=_:=h1;rw[h3,h2,tM,xds,zL,Gb (by omega)]
theorem aAE{o s:List Int}{ds:List (List Int)}{n:Int}(h:Atl o ds s n){a:Int}(h0:0<=a)(ha:a<(o.length:Int))(k:(Int)×(Bool)×(Int)×(Int)×(Int)×(List (Int))×(List (Int)))(hk:k.1=a)(aa:k.2.2.1=((ds.length:Nat):Int)):
  aHS k (0,ds)=some (ds.map (cP a)):=by
 have h7:=h.fld.len;have hm:=h.fld.clients;have ab:=rJ h.fld;have hw:IntKind.wrap .i64 (a+1)=a+1:=aL (by omega) (by omega);have l1:=vI (f:=λv=>(GP k v).ev) (cP a) [] (l:=ds)
  (λi x hi hx hg=>by
   have ae:=ab _ (aG (d:=[]) hi);have e3:NS a (a+1) (ds.getD i [])=some (cP a (ds.getD i [])):=R4 h0 (by omega);have ad:i<x.length:=by omega
   simp(disch:=omega)only[EV,GP,hk,aa,hi,ad,hg,hw,e3];rfl)
  (λx hx=>by simp(disch:=omega)only[EV,GP,aa,xi])
 exact l1
theorem aEW{o s:List Int}{ds:List (List Int)}{n:Int}(h:Atl o ds s n){a:Int}(k:(Int)×(Bool)×(Int)×(Int)×(Int)×(List (Int))×(List (List (Int))))(hk:k.1=a)(aa:k.2.2.1=((s.length:Nat):Int)):
  aLc k (0,s)=some (s.map (fO a)):=by
 have h7:=h.fld.len;have af:=h.set.len;have l2:=vI (f:=λv=>(Pb k v).ev) (fO a) 0 (l:=s)
  (λi x hi hx hg=>by
   have ab:i<x.length:=by omega
   have hv:=h.set.1 _ (aG (d:=0) hi);have hw:IntKind.wrap .i64 (s.getD i 0-1)=s.getD i 0-1:=aL (by omega) (by omega);unfold fO;by_cases ae:a<s.getD i 0;·simp(disch:=omega)only[EV,Pb,hk,aa,hi,ab,hg,ae,hw];rfl
   ·have ad:x.set i (s.getD i 0)=x:=by rw[<-hg];exact Ea 0 ab
    simp(disch:=omega)only[EV,Pb,hk,aa,hi,ab,hg,ae,ad];rfl)
  (λx hx=>by simp(disch:=omega)only[EV,Pb,aa,xi])
 exact l2
theorem IH{o s:List Int}{ds:List (List Int)}{n:Int}(h:Atl o ds s n)(k a b c:Int){l:List Int}(hl:aI l):aDU o ds s n k a b c l=some (doT (wE o ds s n k a b c l)):=by
 have h7:=h.fld.len;have bb:=h.fld.pos;have hc:=h.fld.clients;have ai:=rJ h.fld;have bc:=h.set.len;have hn:=h.count;obtain⟨lo,ld⟩:=rN h.fld;have ls:aI s:=h.set.low h7;have hw:IntKind.wrap .i64 (n+1)=n+1:=aL (by omega) (by omega);have e0:=oU lo ld ls n;rw[atl_iff.2 h]at e0;have e1:=CI k a b c l;have e2:=Gp lo ld ls n;have e3:=z9 h7 h.set;have e4:B9 a 0 (IntKind.wrap .i64 (((ds.length:Nat):Int) -1))=some (cK ds.length a):=by rw[aL (by omega) (by omega),dK];rfl
 have e5:=λx=>IQ (s:=s) (ds:=ds) (show o.length<=1000 by omega) n x;have ad:∀{m:Nat} {x:Int},cK m x=true->0<=x/\x<(m:Int):=λ{m x} hx=>by have:=isIn_iff.1 hx;omega
 have al:∀{x:List Int},x.length<=1000->aI x:=λ{x} hx=>by unfold aI;omega
 unfold aDU aDy;rw[qo,e0,xc,qp,xl,qb,qo,e1,xc,qp];cases hp:cL k a b c l with
 |false=>
  have hd:wE o ds s n k a b c l=none:=by unfold wE;rw[hp];rfl
  rw[hd];rfl
 |true=>
  rw[xl,qb,qo,e2,xc,qo,e3,xc,qo,e4,xc];dsimp only;rw[hw];clear e0 e1 e2 e3;by_cases h1:k=1
  ·subst h1;rw[qp,show((1:Int)==1)=true from rfl,qa,qo,e5,xc,qp];cases ab:cK o.length a with
   |false=>
    have hm:iI o.length ds.length s 1 a b l=false:=by show bP o.length s a=false;unfold bP;rw[ab];rfl
    rw[jP hm];rfl
   |true=>
    have q1:=ad ab;have e6:=iN h7 h.set q1.1 (show a<7 by omega);rw[qa,qo,e6,xc];cases ae:s.contains a with
    |true=>
     have hm:iI o.length ds.length s 1 a b l=false:=by show bP o.length s a=false;unfold bP;rw[ab,ae];rfl
     rw[jP hm];rfl
    |false=>
     have hm:iI o.length ds.length s 1 a b l=true:=by show bP o.length s a=true;unfold bP;rw[ab,ae];rfl
     have ao:=cB ae;have e7:=I3 h7 h.set q1.1 (show a<7 by omega) ao;unfold VQ at e7;rw[qp,nL,qa,qq,qc q1.1,qa,qo,e7,xc,qp,xl,qb];exact kM hp hm (E:=(o,ds,ins a s)) rfl ⟨lo,ld,(h.set.ins q1.1 q1.2 ao).low h7⟩
  by_cases h2:k=2
  ·subst h2;rw[qp,show((2:Int)==1)=false from rfl,qb,qp,show((2:Int)==2)=true from rfl,qa,qo,e5,xc,qp];cases ab:cK o.length a with
   |false=>
    have hm:iI o.length ds.length s 2 a b l=false:=by
     show s.contains a=false;cases ae:s.contains a with
     |false=>rfl
     |true=>have hr:=h.set.1 a (xcf.1 ae);have:cK o.length a=true:=isIn_iff.2 (by omega);rw[this]at ab;cases ab
    rw[jP hm];rfl
   |true=>
    have q1:=ad ab;have e6:=iN h7 h.set q1.1 (show a<7 by omega);rw[qa,qo,e6,xc];cases ae:s.contains a with
    |false=>have hm:iI o.length ds.length s 2 a b l=false:=ae;rw[jP hm];rfl
    |true=>have hm:iI o.length ds.length s 2 a b l=true:=ae;have e7:=L2 h7 h.set q1.1 (show a<7 by omega);unfold anB at e7;rw[qp,qa,qq,qc q1.1,qa,qo,e7,xc,qp,xl,qb];exact kM hp hm (E:=(o,ds,wo s a)) rfl ⟨lo,ld,(h.set.wo a).low h7⟩
  by_cases h3:k=3
  ·subst h3;have aa:iI o.length ds.length s 3 a b l=(s.contains a&&bP o.length s b):=rfl;rw[qp,show((3:Int)==1)=false from rfl,qb,qp,show((3:Int)==2)=false from rfl,qb,qp,show((3:Int)==3)=true from rfl,qa,qo,e5,xc,qp];cases ab:cK o.length a with
   |false=>
    have ae:s.contains a=false:=by
     cases ae:s.contains a with
     |false=>rfl
     |true=>have hr:=h.set.1 a (xcf.1 ae);have:cK o.length a=true:=isIn_iff.2 (by omega);rw[this]at ab;cases ab
    rw[jP (by rw[aa,ae];rfl)];rfl
   |true=>
    have q1:=ad ab;have e6:=iN h7 h.set q1.1 (show a<7 by omega);rw[qa,qo,e5,xc,qp];cases af:cK o.length b with
    |false=>
     have ah:bP o.length s b=false:=by unfold bP;rw[af];rfl
     rw[jP (by rw[aa,ah,xfm])];rfl
    |true=>
     have q2:=ad af;have e7:=iN h7 h.set q2.1 (show b<7 by omega);rw[qa,qo,e6,xc];cases ae:s.contains a with
     |false=>rw[jP (by rw[aa,ae];rfl)];rfl
     |true=>
      rw[qp,qa,qo,e7,xc];cases aj:s.contains b with
      |true=>
       have ah:bP o.length s b=false:=by unfold bP;rw[af,aj];rfl
       rw[jP (by rw[aa,ah,xfm])];rfl
      |false=>
       have ah:bP o.length s b=true:=by unfold bP;rw[af,aj];rfl
       have ar:=cB aj;have e8:=A2 h7 h.set q1.1 (show a<7 by omega) q2.1 (show b<7 by omega) ar;rw[qp,nL,qa,qo,e8,xc,qp,xl,qb];exact kM hp (by rw[aa,ae,ah];rfl) (E:=(o,ds,ins b (wo s a))) rfl ⟨lo,ld,((h.set.wo a).ins q2.1 q2.2 (lL ar)).low h7⟩
  by_cases h4:k=4
  ·subst h4;have aa:iI o.length ds.length s 4 a b l=cK o.length a:=rfl;rw[qp,show((4:Int)==1)=false from rfl,qb,qp,show((4:Int)==2)=false from rfl,qb,qp,show((4:Int)==3)=false from rfl,qb,qp,show((4:Int)==4)=true from rfl,qa,qo,e5,xc,qp];cases ab:cK o.length a with
   |false=>rw[jP (aa.trans ab)];rfl
   |true=>
    have q1:=ad ab;have i1:aC a o.length=true:=bK (by omega) (by omega);have i2:a.toNat<o.length:=by omega
    rw[qa,qq,i1,qa,qq,qc i2,qa,qp,xl,qb];exact kM hp (aa.trans ab) (E:=(o.set a.toNat b,ds,s)) rfl ⟨al (by rw[E2];omega),ld,ls⟩
  by_cases h5:k=5
  ·subst h5;have aa:iI o.length ds.length s 5 a b l=(cK ds.length a&&cK o.length b):=rfl;rw[qp,show((5:Int)==1)=false from rfl,qb,qp,show((5:Int)==2)=false from rfl,qb,qp,show((5:Int)==3)=false from rfl,qb,qp,show((5:Int)==4)=false from rfl,qb,qp,show((5:Int)==5)=true from rfl,qa,qp];cases ab:cK ds.length a with
   |false=>rw[jP (by rw[aa,ab];rfl)];rfl
   |true=>
    have q1:=ad ab;rw[qa,qo,e5,xc,qp];cases af:cK o.length b with
    |false=>rw[jP (by rw[aa,af,xfm])];rfl
    |true=>
     have q2:=ad af;have i2:a.toNat<ds.length:=by omega
     have bd:=ai _ (aG (d:=[]) i2);have i1:aC a ds.length=true:=bK (by omega) (by omega);have i3:aC b (ds.getD a.toNat []).length=true:=bK (by omega) (by omega);have i4:b.toNat<(ds.getD a.toNat []).length:=by omega
     rw[qa,qq,i1,qa,qq,qc i2,qa,qq,i3,qa,qq,qc i4,qa,qp,xl,qb];exact kM hp (by rw[aa,ab,af];rfl) (E:=(o,ds.set a.toNat ((ds.getD a.toNat []).set b.toNat c),s)) rfl (kV h hl (k:=5) (c:=c) (by rw[aa,ab,af];rfl))
  by_cases h6:k=6
  ·subst h6;have aa:iI o.length ds.length s 6 a b l=(((l.length:Nat):Int)==((ds.length:Nat):Int)):=rfl;rw[qp,show((6:Int)==1)=false from rfl,qb,qp,show((6:Int)==2)=false from rfl,qb,qp,show((6:Int)==3)=false from rfl,qb,qp,show((6:Int)==4)=false from rfl,qb,qp,show((6:Int)==5)=false from rfl,qb,qp,show((6:Int)==6)=true from rfl,qa,qp];cases ab:(((l.length:Nat):Int)==((ds.length:Nat):Int))with
   |false=>rw[jP (aa.trans ab)];rfl
   |true=>
    have av:l.length=ds.length:=by have:=eq_of_beq ab;omega
    have r1:=oF o a (by omega);rw[qa,qq,qc r1,qa,qo,Gn av hc (λr hr=>by have:=ai r hr;omega) _ rfl rfl,xc,qp,xl,qb];exact kM hp (aa.trans ab) (E:=(o++ [a],List.zipWith (λr x=>r++ [x]) ds l,s)) rfl (kV h hl (k:=6) (c:=c) (aa.trans ab))
  by_cases au:k=7;·subst au;have aa:iI o.length ds.length s 7 a b l=true:=rfl;have r1:=mG ds (by omega);rw[qp,show((7:Int)==1)=false from rfl,qb,qp,show((7:Int)==2)=false from rfl,qb,qp,show((7:Int)==3)=false from rfl,qb,qp,show((7:Int)==4)=false from rfl,qb,qp,show((7:Int)==5)=false from rfl,qb,qp,show((7:Int)==6)=false from rfl,qb,qp,show((7:Int)==7)=true from rfl,qa,qo,qP hl,xc,qq,qc r1,qa,fA];exact kM hp aa (E:=(o,ds++ [l],s)) rfl (kV h hl (k:=7) (c:=c) aa)
  by_cases h8:k=8
  ·subst h8;have aa:iI o.length ds.length s 8 a b l=bP o.length s a:=rfl;rw[qp,show((8:Int)==1)=false from rfl,qb,qp,show((8:Int)==2)=false from rfl,qb,qp,show((8:Int)==3)=false from rfl,qb,qp,show((8:Int)==4)=false from rfl,qb,qp,show((8:Int)==5)=false from rfl,qb,qp,show((8:Int)==6)=false from rfl,qb,qp,show((8:Int)==7)=false from rfl,qb,qp,show((8:Int)==8)=true from rfl,qa,qo,e5,xc,qp];cases ab:cK o.length a with
   |false=>rw[jP (by rw[aa];unfold bP;rw[ab];rfl)];rfl
   |true=>
    have q1:=ad ab;have e6:=iN h7 h.set q1.1 (show a<7 by omega);rw[qa,qo,e6,xc];cases ae:s.contains a with
    |true=>rw[jP (by rw[aa];unfold bP;rw[ab,ae];rfl)];rfl
    |false=>
     have hm:iI o.length ds.length s 8 a b l=true:=by rw[aa];unfold bP;rw[ab,ae];rfl
     have ak:IntKind.wrap .i64 (a+1)=a+1:=aL (by omega) (by omega);have e7:NS a (a+1) o=some (cP a o):=R4 q1.1 q1.2;rw[qp,nL,qa,ak,qo,e7,xc,qo,aAE h q1.1 q1.2 _ rfl rfl,xc,qo,aEW h _ rfl rfl,xc,qp,xl,qb];exact kM hp hm (E:=(cP a o,ds.map (cP a),s.map (fO a))) rfl (kV h hl (k:=8) (c:=c) hm)
  by_cases h9:k=9
  ·subst h9;have aa:iI o.length ds.length s 9 a b l=cK ds.length a:=rfl;rw[qp,show((9:Int)==1)=false from rfl,qb,qp,show((9:Int)==2)=false from rfl,qb,qp,show((9:Int)==3)=false from rfl,qb,qp,show((9:Int)==4)=false from rfl,qb,qp,show((9:Int)==5)=false from rfl,qb,qp,show((9:Int)==6)=false from rfl,qb,qp,show((9:Int)==7)=false from rfl,qb,qp,show((9:Int)==8)=false from rfl,qb,qp,show((9:Int)==9)=true from rfl,qa,qp];cases ab:cK ds.length a with|false=>rw[jP (aa.trans ab)];rfl|true=>have q1:=ad ab;have ak:IntKind.wrap .i64 (a+1)=a+1:=aL (by omega) (by omega);have e7:aLN a (a+1) ds=some (cP a ds):=R4 q1.1 q1.2;rw[qa,ak,qo,e7,xc,qp,xl,qb];exact kM hp (aa.trans ab) (E:=(o,cP a ds,s)) rfl (kV h hl (k:=9) (c:=c) (aa.trans ab))
  by_cases aw:k=10
  ·subst aw;have aa:iI o.length ds.length s 10 a b l=decide ((0:Int)<((s.length:Nat):Int)):=rfl;have e6:=Qb lo ld ls;rw[qp,show((10:Int)==1)=false from rfl,qb,qp,show((10:Int)==2)=false from rfl,qb,qp,show((10:Int)==3)=false from rfl,qb,qp,show((10:Int)==4)=false from rfl,qb,qp,show((10:Int)==5)=false from rfl,qb,qp,show((10:Int)==6)=false from rfl,qb,qp,show((10:Int)==7)=false from rfl,qb,qp,show((10:Int)==8)=false from rfl,qb,qp,show((10:Int)==9)=false from rfl,qb,qp,show((10:Int)==10)=true from rfl,qa,qo,e6,xc];by_cases h0:s=[]
   ·have ay:dV o ds s=false:=by unfold dV;rw[h0];simp
    rw[jP (by rw[aa,h0];rfl),ay];rfl
   ·have hq:=xar.2 h0;have hm:iI o.length ds.length s 10 a b l=true:=by rw[aa];exact qc (by omega)
    rw[Am h h0,qa,qp,xl,qb];exact kM hp hm (E:=(o,ds,(oD o ds s).2)) rfl (kV h hl (k:=10) (c:=c) hm)
  by_cases az:k=11;·subst az;have aa:iI o.length ds.length s 11 a b l=true:=rfl;rw[qp,show((11:Int)==1)=false from rfl,qb,qp,show((11:Int)==2)=false from rfl,qb,qp,show((11:Int)==3)=false from rfl,qb,qp,show((11:Int)==4)=false from rfl,qb,qp,show((11:Int)==5)=false from rfl,qb,qp,show((11:Int)==6)=false from rfl,qb,qp,show((11:Int)==7)=false from rfl,qb,qp,show((11:Int)==8)=false from rfl,qb,qp,show((11:Int)==9)=false from rfl,qb,qp,show((11:Int)==10)=false from rfl,qb,qp,show((11:Int)==11)=true from rfl,qa,qo,Wn lo ld h.fld,xc,qp,xl,qb];exact kM hp aa (E:=(o,ds,pU o ds)) rfl (kV h hl (k:=11) (c:=c) aa)
  have ba:cL k a b c l=false:=by unfold cL;rw[qi (by omega),qi (by omega),qi h5,qi h6,qi au,qi (by omega)]
  rw[ba]at hp;cases hp
section
variable {o:List Int}{ds:List (List Int)}{s:List Int}{n:Int}
def gdB(c:UInt8):Bool:=wG c&& !(c.toNat==63)
def Gd(s:List UInt8):Prop:=∀x∈s,gdB x=true
theorem La(u:Nat):Gd (Lib.decDigits u):=λx hx=>by have:=uN hx;unfold gdB wG;simp only[xg,qf,E5,qg];omega
theorem IG(x:Int):Gd (Lib.itoa x):=by
 by_cases h:0<=x
 ·obtain⟨u,rfl⟩:∃u:Nat,x=(u:Int):=⟨x.toNat,by omega⟩
  rw[Lib.itoa_nonneg];exact La u
 ·obtain⟨u,rfl,hu⟩:∃u:Nat,x= -(u:Int)/\1<=u:=⟨(-x).toNat,by omega,by omega⟩
  rw[Lib.itoa_neg u hu];intro y hy;rcases xae.1 hy with rfl|hy;·rfl
  ·exact La u y hy
theorem Mo{sep:List UInt8}(hs:Gd sep):∀l:List (List UInt8),(∀x∈l,Gd x)->Gd (Lib.join l sep)
 | [],_=>λx hx=>by rw[Lib.join_nil]at hx;cases hx
 |w::r,h=>λx hx=>by
  rw[Lib.join_cons]at hx;unfold Lib.joinTail at hx;rcases xq.1 hx with hx|hx;·exact h w xu x hx
  ·obtain⟨t,ht,hx⟩:=List.mem_flatten.1 hx;obtain⟨u,hu,rfl⟩:=xaf.1 ht;rcases xq.1 hx with hx|hx;·exact hs x hx
   ·exact h u (xt _ hu) x hx
theorem DX(l:List Int):Gd (bM l):=Mo (by unfold Gd;decide) _ λx hx=>by obtain⟨y,_,rfl⟩:=xaf.1 hx;exact La _
theorem zE(l:List Int):Gd (jQ l):=by
 unfold jQ;split;·unfold Gd;decide
 ·exact DX l
def H2(x:Option (List UInt8×Bool))(y:Option (List UInt8)):Prop:=∃rep ok,x=some (rep,ok)/\y=some (if ok then rep else[63])/\(ok=true->Gd rep)
theorem kX{c:Bool}{a a':Tr (List UInt8×Bool)}{b b':Tr (List UInt8)}(h1:H2 a.ev b.ev)(h2:c=false->H2 a'.ev b'.ev):H2 (Tr.t c a a').ev (Tr.t c b b').ev:=by
 cases c with
 |true=>exact h1
 |false=>exact h2 rfl
theorem Cq{x:Int}(h: -999999<=x/\x<=999999):pI x=some (Lib.itoa x):=by
 unfold pI L3 No;have e:(decide (-9223372036854775808<=x)&&decide (x<=9223372036854775807))=true:=by simp only[xg,qf];omega
 rw[qj e]
theorem tR{X Y:Option (Int×Bool)}{v:Int×Bool}(hx:X=some v)(hy:Y=some v)(h: -999999<=v.1/\v.1<=999999):
  H2 (Tr.c (Int×Bool) X λr=>.c (List UInt8×Bool) (Jz r.1 r.2) λq=>.l (q.1,q.2)).ev (Tr.c (Int×Bool) Y λr=>.c (List UInt8) (Jx r.1 r.2) λq=>.l q).ev:=by
 have e:Jz v.1 v.2=some (Lib.itoa v.1,v.2):=by unfold Jz aBN;rw[qo,Cq h,xc,qt]
 refine⟨Lib.itoa v.1,v.2,?_,?_,λ_=>IG _⟩;·rw[qo,hx,xc,qo,e,xc,qt]
 ·rw[qo,hy,xc,qo,Pq λ_=>h,xc,qt]
theorem x7{X Y:Option (Bool×List Int)}{v:Bool×List Int}(hx:X=some v)(hy:Y=some v)(h:j6 v.2):
  H2 (Tr.c (Bool×List Int) X λr=>.c (List UInt8×Bool) (CT r.2 r.1) λq=>.l (q.1,q.2)).ev (Tr.c (Bool×List Int) Y λr=>.c (List UInt8) (v6 r.2 r.1) λq=>.l q).ev:=by
 refine⟨jQ v.2,v.1,?_,?_,λ_=>zE _⟩;·rw[qo,hx,xc,qo,oS h,xc,qt]
 ·rw[qo,hy,xc,qo,kT h,xc,qt]
theorem Ce{X Y:Option (Bool×Bool)}{v:Bool×Bool}(hx:X=some v)(hy:Y=some v):
  H2 (Tr.c (Bool×Bool) X λr=>.c (List UInt8×Bool) (aDi r.1 r.2) λq=>.l (q.1,q.2)).ev (Tr.c (Bool×Bool) Y λr=>.c (List UInt8) (aCT r.1 r.2) λq=>.l q).ev:=by
 obtain⟨a,b⟩:=v;subst hx hy;cases a<;>cases b<;>exact⟨_,_,rfl,rfl,by unfold Gd;decide⟩
theorem OX(h:Atl o ds s n)(lo:aI o)(ld:dL ds)(ls:aI s):∃v,aFL o ds s n=some v/\aCq o ds s n=some v/\ -999999<=v.1/\v.1<=999999:=by
 have e1:=nA lo ld ls n;have e2:=nB lo ld ls n;unfold lQ at e1 e2;rw[atl_iff.2 h,Jl]at e1 e2;unfold aCq XI aFL aFw;by_cases h0:0<s.length
 ·rw[qc h0,qa]at e1 e2;obtain⟨p,p1,p2,p3⟩:=xU lo ld h.fld;have e3:=BP h.fld p1;have e4:=PH h.fld p1;have hl:=p1.len;have hc:=h.fld.clients;have aa:=qM p1 h.fld ds.length (xm _);rw[<-hl]at aa;have q1:=J4 h.fld h.set;have q2:=nD h.fld (Places.of ls (ris_iff.2 h.set)) h0;have hw:IntKind.wrap .i64 (Bb o s+fC ds s-gO p p.length)=Bb o s+fC ds s-gO p p.length:=aL (by omega) (by omega);refine⟨(Bb o s+fC ds s-gO p p.length,true),?_,?_,by simp only;omega,by simp only;omega⟩;·rw[qo,e2,xc,qp,xl,qb,qo,p3,xc,qo];dsimp only;rw[e4,xc,qt,hw]
  ·rw[qo,e1,xc,qp,xl,qb,qo,p2,xc,qo,e3,xc,qt,hw]
 ·rw[qd h0,qb]at e1 e2;refine⟨(0,false),?_,?_,by simp only;omega,by simp only;omega⟩;·rw[qo,e2,xc,qp,nL,qa,qt]
  ·rw[qo,e1,xc,qp,nL,qa,qt]
theorem Xn(h:Atl o ds s n)(w:List UInt8):H2 (Bf o ds s n w []) (NU o ds s n w):=by
 obtain⟨lo,ld⟩:=rN h.fld;have ls:=h.set.low h.fld.len;have h7:=h.fld.len;have hc:=h.fld.clients;have aa:=Places.of ls (ris_iff.2 h.set);have ab:dV o ds s=decide (0<s.length):=by unfold dV;rw[fieldB_iff.2 h.fld,ris_iff.2 h.set,Jl,Jl]
 -- total
 have t1: -999999<=(lQ o ds s n).1/\(lQ o ds s n).1<=999999:=by
  unfold lQ;rw[atl_iff.2 h,Jl];have q1:=J4 h.fld h.set;by_cases h0:0<s.length;·have q2:=nD h.fld aa h0;rw[qc h0,qa];simp only;omega
  ·rw[qd h0,qb];simp only;omega
 obtain⟨g,g1,g2,g3⟩:=OX h lo ld ls;have two:=C0 lo ld ls;have jH:=mF lo ld ls;rw[ab]at two jH
 -- ad of a set
 have sv:∃v:Int×Bool,XE o ds s=some v/\ZF o ds s=some v/\ -999999<=v.1/\v.1<=999999:=by
  unfold XE aFe ZF aCL;by_cases h0:0<s.length
  ·rw[qc h0]at two jH;have q2:=nD h.fld aa h0;refine⟨(fC ds s,true),?_,?_,by simp only;omega,by simp only;omega⟩;·rw[qo,jH,xc,qp,xl,qb,qo,sI h.fld aa h0,xc,qt]
   ·rw[qo,two,xc,qp,xl,qb,qo,nR h.fld aa h0,xc,qt]
  ·rw[qd h0]at two jH;refine⟨(0,false),?_,?_,by simp only;omega,by simp only;omega⟩;·rw[qo,jH,xc,qp,nL,qa,qt]
   ·rw[qo,two,xc,qp,nL,qa,qt]
 have rc:∃v:Int×Bool,aAg o ds s=some v/\aDn o ds s=some v/\ -999999<=v.1/\v.1<=999999:=by
  unfold aAg aBV aDn XL;by_cases h0:0<s.length
  ·rw[qc h0]at two jH;have q2:=Sd h.fld aa h0;refine⟨(Vq ds s,true),?_,?_,by simp only;omega,by simp only;omega⟩;·rw[qo,jH,xc,qp,xl,qb,qo,Ei h.fld aa h0,xc,qt]
   ·rw[qo,two,xc,qp,xl,qb,qo,n9 h.fld aa h0,xc,qt]
  ·rw[qd h0]at two jH;refine⟨(0,false),?_,?_,by simp only;omega,by simp only;omega⟩;·rw[qo,jH,xc,qp,nL,qa,qt]
   ·rw[qo,two,xc,qp,nL,qa,qt]
 have sb:∃v:Bool×List Int,aDR o ds s=some v/\aDY o ds s=some v/\j6 v.2:=by
  unfold aDR aGm aDY aFW;by_cases h0:0<s.length
  ·rw[qc h0]at two jH;have k:aKd (s,o,ds) ((0:Int),([]:List Int))=some ((List.range ds.length).map λj=>(H0 ds j s:Int)):=
    iT (f:=λv=>(Wc (s,o,ds) v).ev) (n:=ds.length) (mk:=λk (l:List Int)=>((k:Int),l)) (λj=>(H0 ds j s:Int)) (λl=>l)
     (λj l hj hl=>by
      have e:(l.length+List.length [(H0 ds j s:Int)])*8<=140737488355328:=by simp;omega
      simp(disch:=omega)only[EV,Wc,hj,L9 h.fld aa h0 hj,e];rfl) (λl _=>by simp(disch:=omega)only[EV,Wc,xi])
   refine⟨(true,(List.range ds.length).map λj=>(H0 ds j s:Int)),?_,?_,by simpa using hc,λx hx=>?_⟩;·rw[qo,jH,xc,qp,xl,qb,qo,J9 h.fld aa h0,xc,qt]
   ·rw[qo,two,xc,qp,xl,qb,qo,k,xc,qt]
   ·obtain⟨j,_,rfl⟩:=xaf.1 hx;have:=X4 (ds:=ds) (j:=j) aa h0;omega
  ·rw[qd h0]at two jH;refine⟨(false,[]),?_,?_,by simp,λx hx=>by cases hx⟩;·rw[qo,jH,xc,qp,nL,qa,qt]
   ·rw[qo,two,xc,qp,nL,qa,qt]
 obtain⟨v1,a1,b1,c1⟩:=sv;obtain⟨v2,a2,b2,c2⟩:=rc;obtain⟨v3,a3,b3,c3⟩:=sb;have sg:vM o ds=some true:=by rw[eZ lo ld,fieldB_iff.2 h.fld]
 have ig:uR o ds=some true:=by rw[cH lo ld,fieldB_iff.2 h.fld]
 have mt:aCP o ds=some (Fr ds o.length,true):=by unfold aCP aBC;rw[qo,sg,xc,qp,xl,qb,qo,Ia h.fld,xc,qt]
 have mi:PV o ds=some (Fr ds o.length,true):=by rw[LN lo ld,fieldB_iff.2 h.fld,qa]
 obtain⟨p,p1,p2,p3⟩:=xU lo ld h.fld;have pf:j6 p:=⟨by have:=p1.len;omega,λx hx=>by obtain⟨i,hi,e⟩:=xbv.1 hx;have:=p1.val h.fld (show i<ds.length by have:=p1.len;omega);rw[xd,xf hi,xM,e]at this;omega⟩
 have ps:aEt o ds=some (true,p):=by unfold aEt aGz;rw[qo,sg,xc,qp,xl,qb,qo,p2,xc,qt]
 have gr:∃l,Sw o ds=some (true,l)/\Vb o ds=some (l,true)/\j6 l:=by
  by_cases h0:0<ds.length;·obtain⟨q,q1,q2,q3⟩:=yT h.fld h0 ig;obtain⟨i1,i2⟩:=Gr h.fld q1;exact⟨_,q3,yX h.fld sg q1 q2 h0,i2,λx hx=>by have:=i1 x hx;omega⟩
  ·have hd:((((ds.length:Nat):Int))==0)=true:=beq_iff_eq.2 (by omega);have hp:=(yF h.fld.pos).1;refine⟨[(eM o:Int)],?_,?_,by simp,λx hx=>by rw[xo.1 hx];omega⟩;·unfold Sw OA;rw[qo,ig,xc,qp,xl,qb,qp,hd,qa,qo,Qp h.fld,xc,qt]
   ·unfold Vb QA;rw[qo,sg,xc,qp,xl,qb,qp,hd,qa,qo,Tx h.fld,xc,qt]
 obtain⟨gl,r1,r2,r3⟩:=gr;have gt:H2 (Tr.c (Bool×List Int) (Sw o ds) λr=>.c (List UInt8×Bool) (CT r.2 r.1) λq=>.l (q.1,q.2)).ev (Tr.c (List Int×Bool) (Vb o ds) λr=>.c (List UInt8) (v6 r.1 r.2) λq=>.l q).ev:=by
  refine⟨jQ gl,true,?_,?_,λ_=>zE _⟩;·rw[qo,r1,xc,qo,oS r3,xc,qt]
  ·rw[qo,r2,xc,qo,kT r3,xc,qt]
 have ft:H2 (Tr.c (List UInt8×Bool) (PW o ds) λq=>.l (q.1,q.2)).ev (Tr.c (List UInt8) (JU o ds) λq=>.l q).ev:=by
  refine⟨wW o ds,true,?_,?_,λ_=>Mo (by unfold Gd;decide) _ λx hx=>by obtain⟨y,_,rfl⟩:=xaf.1 hx;exact DX y⟩;·rw[qo,yQ lo ld h.fld,xc,qt]
  ·rw[qo,Qc h.fld,xc,qt];rfl
 unfold Bf Xp NU XS;rw[qp,show(((([]:List Int).length:Nat):Int)==1)=false from rfl,qb,qp,show decide ((0:Int)<((([]:List Int).length:Nat):Int))=false from rfl,qb];exact kX (tR (nB lo ld ls n) (nA lo ld ls n) t1) λ_=>
  kX (tR g1 g2 g3) λ_=>kX (tR a1 b1 c1) λ_=>kX (tR a2 b2 c2) λ_=>kX (x7 a3 b3 c3) λ_=>
  kX (Ce mi mt) λ_=>kX ft λ_=>kX (x7 p3 ps pf) λ_=>kX gt λ_=>
  kX (Ce (Dm lo ld ls) (Z8 lo ld ls)) λ_=>kX (x7 (D7 lo ld h.fld) (A6 lo ld h.fld) (HZ h7)) λ_=>⟨[],false,rfl,rfl,by intro h;cases h⟩
end
section
variable {o:List Int}{ds:List (List Int)}{s:List Int}{n:Int}
abbrev aBS:Type:=List Int×List (List Int)×List Int×Int×List UInt8×Bool
abbrev PS:Type:=List Int×List (List Int)×List Int×Int×List UInt8
def oY(st:List Int×List (List Int)×List Int×Int)(x:Option aBS)(y:Option PS):Prop:=∃o ds s n rep ok,Atl o ds s n/\x=some (o,ds,s,n,rep,ok)/\y=some (o,ds,s,n,if ok then rep else[63])/\(if ok then Gd rep else(o,ds,s,n)=st)
theorem oW{st:List Int×List (List Int)×List Int×Int}{c:Bool}{a a':Tr aBS}{b b':Tr PS}(h1:oY st a.ev b.ev)(h2:oY st a'.ev b'.ev):oY st (Tr.t c a a').ev (Tr.t c b b').ev:=by
 cases c with
 |true=>exact h1
 |false=>exact h2
theorem Oi(h7:o.length<=7)(h:ris o.length s):j6 s:=⟨by have:=h.len;omega,λx hx=>by have:=h.1 x hx;omega⟩
theorem lY{st:List Int×List (List Int)×List Int×Int}(h:Atl o ds s n){x:Int}(hx: -999999<=x/\x<=999999):oY st (Tr.c (List UInt8) (pI x) λq=>.l (o,ds,s,n,q,true)).ev (Tr.c (List UInt8) (eU 1000000 x) λq=>.l (o,ds,s,n,q)).ev:=
 ⟨o,ds,s,n,Lib.itoa x,true,h,by rw[qo,Cq hx,xc,qt],by rw[qo,mR hx,xc,qt];rfl,IG x⟩
theorem zB{st:List Int×List (List Int)×List Int×Int}(h:Atl o ds s n):oY st (Tr.l (o,ds,s,n,jQ s,true)).ev (Tr.c (List UInt8) (Ui s) λq=>.l (o,ds,s,n,q)).ev:=
 ⟨o,ds,s,n,jQ s,true,h,rfl,by rw[qo,sC (Oi h.fld.len h.set),xc,qt];rfl,zE s⟩
theorem kI(h:Atl o ds s n){k a b c m:Int}{li:Bool}{l L:List Int}(hL:aI L)(hb: -999999<=b/\b<=999999)(hc: -999999<=c/\c<=999999)(hn:jK k=some (m,li,true))(aa:rR m li l=true)(ad:aFr m l=(m,a,b,c))(ab:l.drop m.toNat=L):
  oY (o,ds,s,n) (Fq o ds s n k l) (kP o ds s n k a b c L):=by
 have ae:0<=m:=by rcases Ee k _ hn with e|e|e|e<;>simp only at e<;>omega
 have af:m<=((l.length:Nat):Int):=by unfold rR at aa;rw[xg,qf]at aa;exact aa.1
 have e1:Fq o ds s n k l=(zS o ds s n k l (m,a,b,c)).ev:=by unfold Fq L0;rw[hn,xc];dsimp only;rw[aa,qa,ad]
 have e2:=IH h k a b c hL;have e3:=ID h k a b c hL;rw[e1];unfold zS kP aGy;rw[qq,qc ae,qc af,IY,qa,tM,ab,qo,e2,xc,qo,e3,xc,qp,qp];cases hd:wE o ds s n k a b c L with
 |none=>exact⟨o,ds,s,n,[],false,h,rfl,rfl,rfl⟩
 |some y=>
  have hy:=Ed hd;have h7:=hy.fld.len;have ah:=hy.fld.clients;have el:=yG (Oi hy.fld.len hy.set);rw[show(!(doT (some y)).2.1)=false from rfl,qb,qb,qo,show BM (doT (some y)).2.2.2.2=some (jQ y.2.2.2)from el,xc];have hO: -999999<=((y.2.1.length:Nat):Int)/\((y.2.1.length:Nat):Int)<=999999:=by omega
  have hD: -999999<=((y.2.2.1.length:Nat):Int)/\((y.2.2.1.length:Nat):Int)<=999999:=by omega
  exact oW (lY hy hb) (oW (lY hy hc) (oW (oW (lY hy hO) (oW (oW (lY hy hD) (zB hy)) (oW (lY hy hD) (zB hy)))) (oW (lY hy hO) (oW (oW (lY hy hD) (zB hy)) (oW (lY hy hD) (zB hy))))))
theorem dX{k m:Int}{li:Bool}{l:List Int}(hn:jK k=some (m,li,true))(aa:rR m li l=false):Fq o ds s n k l=some (o,ds,s,n,[],false):=by unfold Fq L0;rw[hn,xc];dsimp only;rw[aa,qb]
theorem fY(h:Atl o ds s n):oY (o,ds,s,n) (some (o,ds,s,n,[],false)) (some (o,ds,s,n,[63])):=⟨o,ds,s,n,[],false,h,rfl,rfl,rfl⟩
def bS:List (List UInt8)->Option (List Int)
 | []=>some []
 |w::r=>if(cS w).2 then(bS r).map λl=>(cS w).1::l else none
theorem xX:∀{ws:List (List UInt8)} {l:List Int},bS ws=some l->l.length=ws.length/\∀x∈l,-999999<=x/\x<=999999
 | [],l,h=>by cases h;exact⟨rfl,λx hx=>by cases hx⟩
 |w::r,l,h=>by
  unfold bS at h;rcases iA w with⟨x,hx,_,e⟩|⟨e,_⟩
  ·rw[e]at h;obtain⟨l',h1,h2⟩:=xau.1 (show(bS r).map (λl=>x::l)=some l from h);obtain⟨i1,i2⟩:=xX h1;subst h2;refine⟨by simp[i1],λy hy=>?_⟩;rcases xae.1 hy with rfl|hy;·exact hx
   ·exact i2 y hy
  ·rw[e]at h;cases h
theorem B4{f:Int×List Int->Option ((Int×List Int)⊕(List Int⊕Unit))}{ws:List (List UInt8)}(off:Int)
  (hs:∀(i:Nat) (a:List Int),i<ws.length->a.length<=i->f ((i:Int)+off,a)=some (if(cS (ws.getD i [])).2 then .inl (((i+1:Nat):Int)+off,a++ [(cS (ws.getD i [])).1])else .inr (.inr ()))) (he:∀a,f (((ws.length:Nat):Int)+off,a)=some (.inr (.inl a))):
  aB f (((0:Nat):Int)+off,[])=some (match bS ws with|some l=>.inl l|none=>.inr ()):=by
 obtain⟨r,k1,k2⟩:=aK (f:=f) (n:=ws.length) (λi (a:List Int)=>((i:Int)+off,a)) (λi a=>a.length<=i/\bS ws=(bS (ws.drop i)).map λl=>a++l) (λr=>r=match bS ws with|some l=>.inl l|none=>.inr ()) (s0:=[])
  ⟨xm _,by rw[Sy];cases bS ws<;>rfl⟩
  (λi a hi ⟨h1,h2⟩=>by
   have e:=hs i a hi h1;have hd:ws.drop i=ws.getD i []::ws.drop (i+1):=by rw[Nj hi,xd,xf hi];rfl
   rw[hd,bS]at h2;cases hp:(cS (ws.getD i [])).2 with
   |true=>
    left;rw[hp]at e h2;refine⟨_,e,by rw[xj,Fy];omega,?_⟩;rw[h2];cases bS (ws.drop (i+1))with
    |none=>rfl
    |some l=>simp
   |false=>right;rw[hp]at e h2;exact⟨_,e,by rw[h2];rfl⟩)
  (λa ⟨h1,h2⟩=>⟨_,he a,by rw[h2,xds];simp[bS]⟩)
 rw[<-k2];exact k1
theorem Lu{c:UInt8}{w:List UInt8}:∀{s:List UInt8},mN c s=[w]->w=s
 | [],h=>by unfold mN at h;injection h with h _;exact h.symm
 |x::s,h=>by
  unfold mN at h;obtain⟨a,t,e⟩:=iW c s;split at h;·rw[e]at h;cases h
  ·rw[e]at h;injection h with h1 h2;rw[h2]at e;have:=Lu e;rw[<-h1,this]
theorem pX(c:UInt8):∀(s:List UInt8),∀w∈mN c s,w.length<=s.length
 | [],w,h=>by unfold mN at h;rw[xo.1 h];exact xm _
 |x::s,w,h=>by
  have ih:=pX c s;unfold mN at h;split at h
  ·rcases xae.1 h with rfl|h;·simp
   ·have:=ih w h;rw[xk];omega
  ·obtain⟨a,t,e⟩:=iW c s;rw[e]at h ih;rcases xae.1 h with rfl|h;·have:=ih a xu;rw[xk,xk];omega
   ·have:=ih w (xt _ h);rw[xk];omega
noncomputable def sR(o:List Int)(ds:List (List Int))(s:List Int)(n:Int)(w:List UInt8)(l:List Int):Option aBS:=(yW w).bind λk=>bif decide (0<k)then Fq o ds s n k l else(Bf o ds s n w l).map λr=>(o,ds,s,n,r.1,r.2)
noncomputable def yS(o:List Int)(ds:List (List Int))(s:List Int)(n:Int)(w:List UInt8):List Int->Option PS
 | []=>Ii o ds s n w
 |a::r=>bif w==[115,105,116,101]then kP o ds s n 6 a 0 0 r else bif w==[99,108,105,101,110,116]then kP o ds s n 7 0 0 0 (a::r)else match r with
  | []=>Fa o ds s n w a
  |_=>yU o ds s n w (a::r)
theorem zQ{w:List UInt8}(w1:(w==[115,105,116,101])=false)(w2:(w==[99,108,105,101,110,116])=false)(a:Int):yS o ds s n w [a]=Fa o ds s n w a:=by show cond _ _ (cond _ _ _)=_;rw[w1,w2];rfl
theorem pG{w:List UInt8}(w1:(w==[115,105,116,101])=false)(w2:(w==[99,108,105,101,110,116])=false)(a b:Int)(r:List Int):yS o ds s n w (a::b::r)=yU o ds s n w (a::b::r):=by show cond _ _ (cond _ _ _)=_;rw[w1,w2];rfl
theorem GF(w:List UInt8)(a:Int)(r:List Int):yS o ds s n w (a::r)=bif w==[115,105,116,101]then kP o ds s n 6 a 0 0 r else bif w==[99,108,105,101,110,116]then kP o ds s n 7 0 0 0 (a::r)else match r with
  | []=>Fa o ds s n w a
  |_=>yU o ds s n w (a::r):=rfl
theorem qC(x:Option PS):(x.bind λr=>some (r.1,r.2.1,r.2.2.1,r.2.2.2.1,r.2.2.2.2))=x:=by cases x<;>rfl
theorem V0{w:List UInt8}(h1:(w==[108,101,110,103,116,104])=false)(h2:(w==[115,119,97,112])=false)(h3:(w==[99,111,115,116])=false)(l:List Int):yU o ds s n w l=some (o,ds,s,n,[63]):=by unfold yU EK;rw[h1,h2,h3];cases(((l.length:Nat):Int)==3)<;>cases(((l.length:Nat):Int)==2)<;>rfl
theorem f4{m:Int}{li:Bool}{l:List Int}(h:(l.length:Int)<m):rR m li l=false:=by unfold rR;rw[qd (by omega),xge]
theorem Ev{m:Int}{l:List Int}(h:m<(l.length:Int)):rR m false l=false:=by unfold rR;rw[qd (show¬(l.length:Int)<=m by omega),xei,xfm]
theorem Nf(h:Atl o ds s n){w:List UInt8}{k:Int}(hk:yW w=some k)(hp:0<k)(hn:jK k=some (1,false,true))(h0:Ii o ds s n w=some (o,ds,s,n,[63]))
  (h1:∀a,Fa o ds s n w a=(kP o ds s n k a 0 0 []).bind λr=>some (r.1,r.2.1,r.2.2.1,r.2.2.2.1,r.2.2.2.2)) (w1:(w==[115,105,116,101])=false) (w2:(w==[99,108,105,101,110,116])=false)
  (w3:(w==[108,101,110,103,116,104])=false) (w4:(w==[115,119,97,112])=false) (w5:(w==[99,111,115,116])=false):∀l:List Int,oY (o,ds,s,n) (sR o ds s n w l) (yS o ds s n w l)
 | []=>by unfold sR yS;rw[hk,xc,qc hp,qa,dX hn (f4 (by simp)),h0];exact fY h
 | [a]=>by unfold sR;rw[zQ w1 w2 a,hk,xc,qc hp,qa];rw[h1 a,qC];exact kI h (show aI [] by unfold aI;simp) (by omega) (by omega) hn rfl rfl rfl
 |a::b::r=>by unfold sR;rw[pG w1 w2 a b r,hk,xc,qc hp,qa,dX hn (Ev (by simp only[xk];omega))];rw[V0 w3 w4 w5];exact fY h
theorem Wk(h:Atl o ds s n){w:List UInt8}{k:Int}(hk:yW w=some k)(hp:0<k)(hn:jK k=some (0,false,true))(h0:Ii o ds s n w=(kP o ds s n k 0 0 0 []).bind λr=>some (r.1,r.2.1,r.2.2.1,r.2.2.2.1,r.2.2.2.2))
  (h1:∀a,Fa o ds s n w a=some (o,ds,s,n,[63])) (w1:(w==[115,105,116,101])=false) (w2:(w==[99,108,105,101,110,116])=false)
  (w3:(w==[108,101,110,103,116,104])=false) (w4:(w==[115,119,97,112])=false) (w5:(w==[99,111,115,116])=false):∀l:List Int,oY (o,ds,s,n) (sR o ds s n w l) (yS o ds s n w l)
 | []=>by unfold sR yS;rw[hk,xc,qc hp,qa,h0,qC];exact kI h (show aI [] by unfold aI;simp) (by omega) (by omega) hn rfl rfl rfl
 | [a]=>by unfold sR;rw[zQ w1 w2 a,hk,xc,qc hp,qa,dX hn (Ev (by simp))];rw[h1 a];exact fY h
 |a::b::r=>by unfold sR;rw[pG w1 w2 a b r,hk,xc,qc hp,qa,dX hn (Ev (by simp only[xk];omega))];rw[V0 w3 w4 w5];exact fY h
theorem GO{l:List Int}{i:Nat}(h:l.length≠i):(((l.length:Nat):Int)==(i:Int))=false:=beq_eq_false_iff_ne.2 (by omega)
theorem TG(h:Atl o ds s n){w:List UInt8}{k:Int}(hk:yW w=some k)(hp:0<k)(hn:jK k=some (2,false,true))(h0:Ii o ds s n w=some (o,ds,s,n,[63]))
  (h1:∀a,Fa o ds s n w a=some (o,ds,s,n,[63])) (h2:∀a b,yU o ds s n w [a,b]=(kP o ds s n k a b 0 []).bind λr=>some (r.1,r.2.1,r.2.2.1,r.2.2.2.1,r.2.2.2.2))
  (w1:(w==[115,105,116,101])=false) (w2:(w==[99,108,105,101,110,116])=false) (w3:(w==[108,101,110,103,116,104])=false):∀l:List Int,(∀x∈l,-999999<=x/\x<=999999)->oY (o,ds,s,n) (sR o ds s n w l) (yS o ds s n w l)
 | [],_=>by unfold sR yS;rw[hk,xc,qc hp,qa,dX hn (f4 (by simp)),h0];exact fY h
 | [a],_=>by unfold sR;rw[zQ w1 w2 a,hk,xc,qc hp,qa,dX hn (f4 (by simp))];rw[h1 a];exact fY h
 | [a,b],hx=>by unfold sR;rw[pG w1 w2 a b [],hk,xc,qc hp,qa];rw[h2 a b,qC];exact kI h (show aI [] by unfold aI;simp) (hx b (by simp)) (by omega) hn rfl rfl rfl
 |a::b::c::r,_=>by
  unfold sR;rw[pG w1 w2 a b (c::r),hk,xc,qc hp,qa,dX hn (Ev (by simp only[xk];omega))];have e:(((List.length (a::b::c::r):Nat):Int)==2)=false:=GO (i:=2) (by simp);have em:yU o ds s n w (a::b::c::r)=some (o,ds,s,n,[63]):=by unfold yU EK;rw[w3,e];cases(((List.length (a::b::c::r):Nat):Int)==3)<;>rfl
  rw[em];exact fY h
theorem Zd(w:List UInt8){a b:Int}{r:List Int}:Bf o ds s n w (a::b::r)=some ([],false):=by unfold Bf Xp;have e:(((List.length (a::b::r):Nat):Int)==1)=false:=GO (i:=1) (by simp);rw[qp,e,qb,qp,qc (show(0:Int)<((List.length (a::b::r):Nat):Int) by simp only[xk];omega),qa,qt]
theorem PP(h:Atl o ds s n){x:Option (List UInt8×Bool)}{y:Option (List UInt8)}(ht:H2 x y):oY (o,ds,s,n) (x.map λr=>(o,ds,s,n,r.1,r.2)) (y.bind λr=>some (o,ds,s,n,r)):=by
 obtain⟨rep,ok,rfl,rfl,hg⟩:=ht;exact⟨o,ds,s,n,rep,ok,h,rfl,rfl,by
  cases ok with
  |true=>exact hg rfl
  |false=>rfl⟩
theorem f7(h:Atl o ds s n)(l:List Int)(b:Bool):oY (o,ds,s,n) (some (o,ds,s,n,jQ l,b)) (some (o,ds,s,n,if b then jQ l else[63])):=⟨o,ds,s,n,jQ l,b,h,rfl,rfl,by
  cases b with
  |true=>exact zE l
  |false=>rfl⟩
abbrev edW:List (List UInt8):=[[111,112,101,110],[99,108,111,115,101],[115,119,97,112],[99,111,115,116],[108,101,110,103,116,104],[115,105,116,101],[99,108,105,101,110,116],[100,114,111,112,115,105,116,101],[100,114,111,112,99,108,105,101,110,116],[105,109,112,114,111,118,101],[98,101,115,116]]
theorem aGH(h:Atl o ds s n){w:List UInt8}{k:Int}(hk:yW w=some k)(hp:¬0<k)(hw:∀x∈edW,(w==x)=false):
  ∀l:List Int,oY (o,ds,s,n) (sR o ds s n w l) (yS o ds s n w l)
 | []=>by
  have e:Ii o ds s n w=(NU o ds s n w).bind λr=>some (o,ds,s,n,r):=by unfold Ii XU;rw[qp,hw _ (by simp),qb,qp,hw _ (by simp),qb,qp,hw _ (by simp),qb,qo];rfl
  unfold sR yS;rw[hk,xc,qd hp,qb,e];exact PP h (Xn h w)
 | [a]=>by
  obtain⟨lo,ld⟩:=rN h.fld;unfold sR;rw[zQ (hw _ (by simp)) (hw _ (by simp)) a,hk,xc,qd hp,qb];unfold Fa aFI Bf Xp;have g1:aC (0:Int) (List.length [a])=true:=rfl;have g2:List.getD [a] (Int.toNat 0) 0=a:=rfl;have u1:(w==[111,112,101,110])=false:=hw _ (by simp);have u2:(w==[99,108,111,115,101])=false:=hw _ (by simp);have u3:(w==[100,114,111,112,115,105,116,101])=false:=hw _ (by simp);have u4:(w==[100,114,111,112,99,108,105,101,110,116])=false:=hw _ (by simp);rw[qp,show((((([a]:List Int)).length:Nat):Int)==1)=true from rfl,qa,qp (w==[111,112,101,110]),u1,qb,qp (w==[99,108,111,115,101]),u2,qb,qp (w==[100,114,111,112,115,105,116,101]),u3,qb,qp (w==[100,114,111,112,99,108,105,101,110,116]),u4,qb];rw[qp (w==[109,101,100,105,97,110]),qp (w==[109,101,100,105,97,110])];cases(w==[109,101,100,105,97,110])with
  |true=>
   obtain⟨l,b,e1,e2,e3⟩:=Bn lo ld h.fld a;have hf:j6 l:=⟨e3.1,λx hx=>by have:=e3.2 x hx;have:=h.fld.len;omega⟩
   rw[qa,qa,qq,g1,qa,qo,g2,e1,xc,qo,oS hf,xc,qt,qo,e2,xc,qo,kT hf,xc,qt];exact f7 h _ _
  |false=>
   rw[qb,qb,qp (w==[99,101,110,116,114,101,115]),qp (w==[99,101,110,116,114,101,115])];cases(w==[99,101,110,116,114,101,115])with
   |true=>
    obtain⟨l,b,e1,e2,e3⟩:=S6 lo ld h.fld a;have hf:j6 l:=⟨e3.1,λx hx=>by have:=e3.2 x hx;have:=h.fld.len;omega⟩
    rw[qa,qa,qq,g1,qa,qo,g2,e1,xc,qo,oS hf,xc,qt,qo,e2,xc,qo,kT hf,xc,qt];exact f7 h _ _
   |false=>
    rw[qb,qb,qp (w==[102,97,114]),qp (w==[102,97,114])];cases(w==[102,97,114])with
    |true=>
     have e0:∃l b,aGj o ds a=some (l,b)/\ZX o ds a=some (l,b)/\j6 l:=by
      unfold aGj aFs aIB aAi ZX aAa;by_cases ha:0<=a
      ·obtain⟨m1,m2⟩:=Iv (r:=a) h.fld;have hc:=h.fld.clients;refine⟨v7 ds o.length a,true,?_,?_,m2.1,λx hx=>by have:=m2.2 x hx;omega⟩;·rw[qo,qo,cH lo ld,fieldB_iff.2 h.fld,xc,qp,qa,qt,qc ha,xc,qp,xl,qb,qo,Hd h.fld,xc,qt]
       ·rw[qo,eZ lo ld,fieldB_iff.2 h.fld,xc,qp,xl,qb,qp,qd (by omega),qb,qo,m1,xc,qt]
      ·refine⟨[],false,?_,?_,by simp,λx hx=>by cases hx⟩;·rw[qo,qo,cH lo ld,fieldB_iff.2 h.fld,xc,qp,qa,qt,qd ha,xc,qp,nL,qa,qt]
       ·rw[qo,eZ lo ld,fieldB_iff.2 h.fld,xc,qp,xl,qb,qp,qc (by omega),qa,qt]
     obtain⟨l,b,e1,e2,hf⟩:=e0;rw[qa,qa,qq,g1,qa,qo,g2,e1,xc,qo,oS hf,xc,qt,qo,e2,xc,qo,kT hf,xc,qt];exact f7 h _ _
    |false=>exact fY h
 |a::b::r=>by unfold sR;rw[pG (hw _ (by simp)) (hw _ (by simp)) a b r,hk,xc,qd hp,qb,Zd];rw[V0 (hw _ (by simp)) (hw _ (by simp)) (hw _ (by simp))];exact fY h
theorem AT(h:Atl o ds s n)(l:List Int)(hx:∀x∈l,-999999<=x/\x<=999999):oY (o,ds,s,n) (sR o ds s n [108,101,110,103,116,104] l) (yS o ds s n [108,101,110,103,116,104] l):=by
 have hk:yW [108,101,110,103,116,104]=some 5:=by kernel_rfl
 have hn:jK 5=some (3,false,true):=by kernel_rfl
 have hp:decide ((0:Int)<5)=true:=rfl
 match l,hx with
 | [],_=>
  have e:yS o ds s n [108,101,110,103,116,104] []=some (o,ds,s,n,[63]):=by kernel_rfl
  unfold sR;rw[e,hk,xc,hp,qa,dX hn (f4 (by simp))];exact fY h
 | [a],_=>
  have e:yS o ds s n [108,101,110,103,116,104] [a]=some (o,ds,s,n,[63]):=by kernel_rfl
  unfold sR;rw[e,hk,xc,hp,qa,dX hn (f4 (by simp))];exact fY h
 | [a,b],_=>
  have e:yS o ds s n [108,101,110,103,116,104] [a,b]=some (o,ds,s,n,[63]):=by kernel_rfl
  unfold sR;rw[e,hk,xc,hp,qa,dX hn (f4 (by simp))];exact fY h
 | [a,b,c],hx=>have e:yS o ds s n [108,101,110,103,116,104] [a,b,c]=(kP o ds s n 5 a b c []).bind λr=>some (r.1,r.2.1,r.2.2.1,r.2.2.2.1,r.2.2.2.2):=rfl;rw[e,qC];unfold sR;rw[hk,xc,hp,qa];exact kI h (show aI [] by unfold aI;simp) (hx b (by simp)) (hx c (by simp)) hn rfl rfl rfl
 |a::b::c::d::r,_=>
  have e3:(((List.length (a::b::c::d::r):Nat):Int)==3)=false:=GO (i:=3) (by simp);have e2:(((List.length (a::b::c::d::r):Nat):Int)==2)=false:=GO (i:=2) (by simp);have em:yU o ds s n [108,101,110,103,116,104] (a::b::c::d::r)=some (o,ds,s,n,[63]):=by unfold yU EK;rw[e3,e2];rfl
  have e:yS o ds s n [108,101,110,103,116,104] (a::b::c::d::r)=yU o ds s n [108,101,110,103,116,104] (a::b::c::d::r):=rfl;rw[e,em];unfold sR;rw[hk,xc,hp,qa,dX hn (Ev (by simp only[xk];omega))];exact fY h
theorem XH(h:Atl o ds s n)(l:List Int)(hl:aI l):oY (o,ds,s,n) (sR o ds s n [115,105,116,101] l) (yS o ds s n [115,105,116,101] l):=by
 have hk:yW [115,105,116,101]=some 6:=by kernel_rfl
 have hn:jK 6=some (1,true,true):=by kernel_rfl
 have hp:decide ((0:Int)<6)=true:=rfl;cases l with
 |nil=>
  have e:yS o ds s n [115,105,116,101] []=some (o,ds,s,n,[63]):=by kernel_rfl
  unfold sR;rw[e,hk,xc,hp,qa,dX hn (f4 (by simp))];exact fY h
 |cons a r=>have e:yS o ds s n [115,105,116,101] (a::r)=kP o ds s n 6 a 0 0 r:=rfl;rw[e];unfold sR;rw[hk,xc,hp,qa];refine kI h (L:=r) (by unfold aI at hl⊢;rw[xk]at hl;omega) (by omega) (by omega) hn ?_ rfl rfl;unfold rR;rw[qc (show(1:Int)<=((List.length (a::r):Nat):Int) by rw[xk];omega)];rfl
theorem QG(h:Atl o ds s n)(w:List UInt8){l:List Int}(hl:aI l)(hx:∀x∈l,-999999<=x/\x<=999999):oY (o,ds,s,n) (sR o ds s n w l) (yS o ds s n w l):=by
 by_cases c1:w=[111,112,101,110]
 ·subst c1;exact Nf h (k:=1) (by kernel_rfl) (by decide) (by kernel_rfl) (by kernel_rfl) (λ_=>rfl) rfl rfl rfl rfl rfl l
 by_cases c2:w=[99,108,111,115,101]
 ·subst c2;exact Nf h (k:=2) (by kernel_rfl) (by decide) (by kernel_rfl) (by kernel_rfl) (λ_=>rfl) rfl rfl rfl rfl rfl l
 by_cases c8:w=[100,114,111,112,115,105,116,101]
 ·subst c8;exact Nf h (k:=8) (by kernel_rfl) (by decide) (by kernel_rfl) (by kernel_rfl) (λ_=>rfl) rfl rfl rfl rfl rfl l
 by_cases c9:w=[100,114,111,112,99,108,105,101,110,116]
 ·subst c9;exact Nf h (k:=9) (by kernel_rfl) (by decide) (by kernel_rfl) (by kernel_rfl) (λ_=>rfl) rfl rfl rfl rfl rfl l
 by_cases ab:w=[105,109,112,114,111,118,101]
 ·subst ab;exact Wk h (k:=10) (by kernel_rfl) (by decide) (by kernel_rfl) rfl (λ_=>rfl) rfl rfl rfl rfl rfl l
 by_cases ad:w=[98,101,115,116]
 ·subst ad;exact Wk h (k:=11) (by kernel_rfl) (by decide) (by kernel_rfl) rfl (λ_=>rfl) rfl rfl rfl rfl rfl l
 by_cases c3:w=[115,119,97,112]
 ·subst c3;exact TG h (k:=3) (by kernel_rfl) (by decide) (by kernel_rfl) (by kernel_rfl) (λ_=>rfl) (λ_ _=>rfl) rfl rfl rfl l hx
 by_cases c4:w=[99,111,115,116]
 ·subst c4;exact TG h (k:=4) (by kernel_rfl) (by decide) (by kernel_rfl) (by kernel_rfl) (λ_=>rfl) (λ_ _=>rfl) rfl rfl rfl l hx
 by_cases c5:w=[108,101,110,103,116,104]
 ·subst c5;exact AT h l hx
 by_cases c6:w=[115,105,116,101]
 ·subst c6;exact XH h l hl
 by_cases c7:w=[99,108,105,101,110,116]
 ·subst c7;have hk:yW [99,108,105,101,110,116]=some 7:=by kernel_rfl
  have hn:jK 7=some (0,true,true):=by kernel_rfl
  have hp:decide ((0:Int)<7)=true:=rfl;have e:yS o ds s n [99,108,105,101,110,116] l=(kP o ds s n 7 0 0 0 l).bind λr=>some (r.1,r.2.1,r.2.2.1,r.2.2.2.1,r.2.2.2.2):=by
   cases l with
   |nil=>rfl
   |cons a r=>rw[qC];rfl
  rw[e,qC];unfold sR;rw[hk,xc,hp,qa];refine kI h (L:=l) hl (by omega) (by omega) hn ?_ rfl rfl;unfold rR;rw[qc (show(0:Int)<=((List.length l:Nat):Int) by omega)];rfl
 -- no edit
 have hw:∀x∈edW,(w==x)=false:=λx hx=>by
  simp only[xae,ER,qn]at hx;refine beq_eq_false_iff_ne.2 λe=>?_;subst e;rcases hx with e|e|e|e|e|e|e|e|e|e|e;·exact c1 e
  ·exact c2 e
  ·exact c3 e
  ·exact c4 e
  ·exact c5 e
  ·exact c6 e
  ·exact c7 e
  ·exact c8 e
  ·exact c9 e
  ·exact ab e
  ·exact ad e
 have hk:∃k,yW w=some k/\¬0<k:=by
  have key:=λ(ws:List (List UInt8)) (hlen:ws.length<=1000)=>gJ (f:=λv=>(Uj (ws,w,((ws.length:Nat):Int)) v).ev) (l:=ws) [] (λx=>w==x) (mk:=λi=>(i:Int)) (yes:=λi=>(.inr (i:Int):Unit⊕Int)) (no:=.inl ())
   (λi hi=>by
    cases hq:w==ws.getD i []with
    |true=>simp(disch:=omega)only[EV,Uj,hi,hq]
    |false=>simp(disch:=omega)only[EV,Uj,hi,hq];rfl)
   (by simp(disch:=omega)only[EV,Uj,xi])
  have k1:aDQ ([]::edW,w,(12:Int)) (0:Int)=some ((([]::edW).findIdx? λx=>w==x).elim (.inl ()) λi=>.inr (i:Int)):=key ([]::edW) (by decide);have aa:edW.findIdx? (λx=>w==x)=none:=xgi.2 λx hx=>by rw[hw x hx]
  have e:yW w=((aDQ ([]::edW,w,(12:Int)) (0:Int)).bind λr=>(Tr.s Unit Int r (λ_=>.l (-1:Int)) λr8=>.l r8).ev).bind λr=>some r:=rfl;rw[e,k1,xef,aa];cases(w==([]:List UInt8))with
  |true=>exact⟨0,rfl,by omega⟩
  |false=>exact⟨-1,rfl,by omega⟩
 obtain⟨k,k1,k2⟩:=hk;exact aGH h k1 k2 hw l
theorem DK(h:Atl o ds s n){line:List UInt8}(hl:line.length<=1000):oY (o,ds,s,n) (LF o ds s n line) (Eb o ds s n line):=by
 have e1:P3 line [32]=some (mN 32 line):=by unfold P3 sN;rw[qj ⟨by omega,rfl⟩,wU]
 have e2:=xQ (s:=line) (by omega) 32;rw[show(((32:UInt8).toNat:Nat):Int)=32 from rfl]at e2;have af:=pX 32 line;have ae:=Oa 32 line;obtain⟨w,t,et⟩:=iW 32 line;rw[et]at e1 e2 af ae;rw[xk]at ae;have k1:aLA (w::t,t,((t.length:Nat):Int),o,ds,s,n,(0:Int)) ((0:Int),([]:List Int))=some (match bS t with|some l=>.inl l|none=>.inr ()):=by
  have:=B4 (f:=λv=>(Pj (w::t,t,((t.length:Nat):Int),o,ds,s,n,(0:Int)) v).ev) (ws:=t) 0
   (λi a hi ha=>by
    have hm:=af _ (xt _ (aG (d:=[]) hi));have ep:aDJ (t.getD i [])=some (cS (t.getD i [])):=by unfold aDJ A7;rw[qj (by omega)]
    have aa:∀x:Int,List.length [x]=1:=λ_=>rfl;have hb:(a.length+1)*8<=140737488355328:=by omega
    rw[xgy,xgy];cases hq:(cS (t.getD i [])).2 with
    |true=>simp(disch:=omega)only[EV,Pj,hi,ep,hq,aa,hb];rfl
    |false=>simp(disch:=omega)only[EV,Pj,hi,ep,hq];rfl)
   (λa=>by rw[xgy];simp(disch:=omega)only[EV,Pj,xi])
  exact this
 have hd:List.drop (Int.toNat 1) (List.take (List.length (w::t)) (w::t))=t:=by rw[tM];rfl
 have ab:LF o ds s n line=(match bS t with|some l=>sR o ds s n w l|none=>some (o,ds,s,n,[],false)):=by
  unfold LF aCY;rw[qo,e1,xc,qq,show(decide ((0:Int)<=1)&&decide ((1:Int)<=((List.length (w::t):Nat):Int)))=true from by rw[qc (show(1:Int)<=((List.length (w::t):Nat):Int) by rw[xk];omega)];rfl,qa,hd,qo,k1,xc];cases bS t with
  |none=>rfl
  |some l=>
   show(Tr.g (aC 0 (List.length (w::t))) _).ev=sR o ds s n w l;rw[qq,show aC 0 (List.length (w::t))=true from bK (by omega) (by rw[xk];omega),qa,qo];unfold sR;rw[show List.getD (w::t) (Int.toNat 0) ([]:List UInt8)=w from rfl];cases yW w with
   |none=>rfl
   |some k=>
    rw[xc,xc,qp];cases decide (0<k)with
    |true=>rw[qa,qa,qo];cases Fq o ds s n k l<;>rfl
    |false=>rw[qb,qb,qq,qa,qo];cases Bf o ds s n w l<;>rfl
 have k2:aLx (w::t) ((1:Int),([]:List Int))=some (match bS t with|some l=>.inl l|none=>.inr ()):=by
  have:=B4 (f:=λv=>(Tm (w::t) v).ev) (ws:=t) 1
   (λi a hi ha=>by
    have hm:=af _ (xt _ (aG (d:=[]) hi));have ep:=Tj (s:=t.getD i []) (by omega);have aa:∀x:Int,List.length [x]=1:=λ_=>rfl;have hb:(a.length+1)*8<=140737488355328:=by omega
    have ei:(i:Int)+1=((i+1:Nat):Int):=rfl;have eg:(w::t).getD (i+1) []=t.getD i []:=rfl;have ah:i+1<(w::t).length:=by rw[xk];omega
    rw[ei];cases hq:(cS (t.getD i [])).2 with
    |true=>simp(disch:=omega)only[EV,Tm,ah,eg,ep,hq,aa,hb]
    |false=>simp(disch:=omega)only[EV,Tm,ah,eg,ep,hq];rfl)
   (λa=>by rw[show((t.length:Nat):Int)+1=(((w::t).length:Nat):Int)from rfl];simp(disch:=omega)only[EV,Tm,xi])
  exact this
 by_cases h0:t=[]
 ·subst h0;have ew:=Lu et;have ad:Eb o ds s n line=yS o ds s n w []:=by unfold Eb Ym yS;rw[qo,e2,xc,qp,show(((([w]:List (List UInt8)).length:Nat):Int)==1)=true from rfl,qa,qo,<-ew];exact qC _
  rw[ab,ad];exact QG h w (show aI [] by unfold aI;simp) λx hx=>by cases hx
 ·have ai:(((List.length (w::t):Nat):Int)==1)=false:=beq_eq_false_iff_ne.2 (by have:=xar.2 h0;rw[xk];omega);have hR:JG (w::t)=some (match bS t with|some l=>(true,l)|none=>(false,[])):=by unfold JG aAN;rw[qo,k2,xc];cases bS t<;>rfl
  cases hp:bS t with
  |none=>
   rw[hp]at ab hR;have ad:Eb o ds s n line=some (o,ds,s,n,[63]):=by unfold Eb Ym;rw[qo,e2,xc,qp,ai,qb,qo,hR,xc];rfl
   rw[ab,ad];exact fY h
  |some l=>
   rw[hp]at ab hR;obtain⟨i1,i2⟩:=xX hp;have hR:JG (w::t)=some (true,l):=hR;have ad:Eb o ds s n line=yS o ds s n w l:=by
    unfold Eb Ym;have gw:List.getD (w::t) (Int.toNat 0) ([]:List UInt8)=w:=rfl;have g0:aC 0 (List.length (w::t))=true:=bK (by omega) (by rw[xk];omega);have g1:decide (Int.toNat 0<(w::t).length)=true:=qc (by rw[xk];simp);rw[qo,e2,xc,qp,ai,qb,qo,hR,xc];rw[qp,xl,qb,qq,g0,qa,qq,g1,qa,gw,qp];cases l with
    |nil=>exact absurd (D8 (by rw[<-i1];rfl)) h0
    |cons a r=>
     have aj:aC 0 (List.length (a::r))=true:=bK (by omega) (by rw[xk];omega);have ak:(decide ((0:Int)<=1)&&decide ((1:Int)<=((List.length (a::r):Nat):Int)))=true:=by rw[qc (show(1:Int)<=((List.length (a::r):Nat):Int) by rw[xk];omega)];rfl
     have al:decide (Int.toNat 0<(a::r).length)=true:=qc (by rw[xk];simp);rw[GF];cases(w==[115,105,116,101])with
     |true=>rw[qa,qa,qq,aj,qa,qq,ak,qa,qo,tM];exact qC _
     |false=>
      rw[qb,qb,qp];cases(w==[99,108,105,101,110,116])with
      |true=>rw[qa,qa,qo];exact qC _
      |false=>
       rw[qb,qb,qp];cases r with
       |nil=>rw[show((((([a]:List Int)).length:Nat):Int)==1)=true from rfl,qa,qq,qa,qq,qa,qq,aj,qa,qq,al,qa,qo];exact qC _
       |cons b r=>rw[show((((true,a::b::r):Bool×List Int).2.length:Int)==1)=false from GO (l:=a::b::r) (i:=1) (by simp)];rw[qb,qq,qa,qq,qa,qo];exact qC _
   rw[ab,ad];exact QG h w (by unfold aI;omega) i2
end
section
open Go
noncomputable def rd(s:List UInt8)(v:RS):Option RS:=aB (λv=>some (bL s v)) v
theorem Gh{s:List UInt8}{v v':RS}(h:bL s v=.inl v'):rd s v=rd s v':=by unfold rd;rw[aF];simp only[h]
theorem P6{s:List UInt8}{v r:RS}(h:bL s v=.inr r):rd s v=some r:=by unfold rd;rw[aF];simp only[h]
theorem U9{s:List UInt8}{v r:RS}(h:bL s v=.inr r):r=v:=by
 unfold bL at h;split at h
 ·split at h;·cases h
  ·cases h;rfl
 ·cases h;rfl
theorem Jk{s:List UInt8}{Q:RS->RS->Prop}(h1:∀v,RI s v->bL s v=.inr v->Q v v)(h2:∀v v' r,RI s v->bL s v=.inl v'->RI s v'->RI s r->Q v' r->Q v r):∀v,RI s v->∃r,rd s v=some r/\RI s r/\Q v r:=by
 have key:∀n (v:RS),s.length-v.1.toNat=n->RI s v->∃r,rd s v=some r/\RI s r/\Q v r:=by
  intro n;induction n using Nat.strongRecOn with
  |_ n ih=>
   intro v hn hv;have h3:=Ec hv;cases hr:bL s v with
   |inl v'=>rw[hr]at h3;simp only at h3;obtain⟨r,k1,k2,k3⟩:=ih _ (by omega) v' rfl h3.1;exact⟨r,by rw[Gh hr];exact k1,k2,h2 v v' r hv hr h3.1 k2 k3⟩
   |inr r=>obtain rfl:=U9 hr;exact⟨_,P6 hr,hv,h1 _ hv hr⟩
 exact λv hv=>key _ v rfl hv
theorem RI0(s:List UInt8):RI s ((0:Int),[]):=⟨by simp,by simp,by simp⟩
theorem Q0{s:List UInt8}(hs:aQ s):PJ s=rd s ((0:Int),[])/\Yh s=rd s ((0:Int),[]):=by
 obtain⟨r,k1,_,k2,k3⟩:=Jk (s:=s) (Q:=λv r=>aB (λv=>(CX s v).ev) v=some r/\aB (λv=>(Kb s v).ev) v=some r)
  (λv hv hr=>by have e1:=uF hs hv;have e2:=mT hs hv;rw[aF,aF (λv=>(Kb s v).ev)];simp only[e1,e2,hr];exact⟨trivial,trivial⟩)
  (λv v' r hv hr _ _ hq=>by have e1:=uF hs hv;have e2:=mT hs hv;rw[aF,aF (λv=>(Kb s v).ev)];simp only[e1,e2,hr];exact hq) _ (RI0 s)
 have aa:aJH s ((0:Int),[])=some r:=k2;have ab:aJk s ((0:Int),[])=some r:=k3;rw[k1];constructor;·unfold PJ aEV;simp(disch:=omega)only[EV,aa]
 ·unfold Yh aBT;simp(disch:=omega)only[EV,ab]
theorem Xk{b:Nat}{a:List UInt8}(t:List UInt8)(h:aX a b=true):cF b (a++t)=cF b a:=by
 obtain⟨c,h1,h2,h3⟩:=xA h;have:a++t=cF b a++c::(o0 b a++t):=by
  conv=>lhs;rw[h2]
  simp
 rw[this,nW h3 h1]
theorem Ru{s t:List UInt8}{n:Nat}(h:n<=s.length):(s++t).drop n=s.drop n++t:=by rw[List.drop_append,show n-s.length=0 by omega,Sy]
theorem H5{s:List UInt8}(t:List UInt8){v v':RS}(hv:RI s v)(h:bL s v=.inl v'):bL (s++t) v=.inl v':=by
 have hle:v.1.toNat<=s.length:=by have:=hv.2.1;omega
 unfold bL at h⊢;rw[Ru hle];cases hb:aX (s.drop v.1.toNat) 10 with
 |false=>rw[hb]at h;cases h
 |true=>
  rw[hb]at h;have aa:aX (s.drop v.1.toNat++t) 10=true:=by rw[nC,hb];rfl
  rw[aa,Xk t hb];exact h
theorem V7{s:List UInt8}(t:List UInt8):∀v,RI s v->∃r,rd s v=some r/\RI s r/\rd (s++t) v=rd (s++t) r:=by intro v hv;exact Jk (s:=s) (Q:=λv r=>rd (s++t) v=rd (s++t) r) (λ_ _ _=>rfl) (λv v' r hv hr _ _ hq=>by rw[Gh (H5 t hv hr)];exact hq) v hv
theorem Ac{k:Int}{c r:List UInt8}(hk:bZ k 0 59=true)(h:bX c r=true):(line k c r).length<=378:=by obtain⟨_,_,_,_,_,a,b⟩:=eX h;have hl:=uM (c:=c) (r:=r) hk;have hs:=wJ (gQ k c r);unfold line;rw[xj,xk,xz];omega
theorem aGq{s:List UInt8}:∀v,RI s v->v.1<=378*(v.2.length:Int)->∃r,rd s v=some r/\RI s r/\r.1<=378*(r.2.length:Int):=by
 intro v hv h0;obtain⟨r,h1,h2,h3⟩:=Jk (s:=s) (Q:=λv r=>v.1<=378*(v.2.length:Int)->r.1<=378*(r.2.length:Int)) (λ_ _ _ h=>h) (λv v' r hv hr _ _ hq h=>hq (by
  unfold bL at hr;split at hr
  next hb=>
   split at hr
   next p hp=>
    cases hr;obtain⟨d1,d2,d3⟩:=Zt (c:=p.1) (r:=p.2) hp;have hl:=Ac d1 d2;rw[d3]at hl;simp only[xj,xk,xz]at hl⊢;omega
   next=>cases hr
  next=>cases hr)) v hv
 exact⟨r,h1,h2,h3 h0⟩
theorem Lb{k:Int}{c r:List UInt8}(h:bX c r=true):aX (iC (gQ k c r)) 10=false:=by obtain⟨_,_,_,h1,h2,_⟩:=eX h;unfold iC gQ;simp only[nC,h1,h2,zC (b:=10) (by omega),xei,RW];rfl
theorem OQ{s c r:List UInt8}{recs:List (List UInt8×List UInt8)}(hs:rd s ((0:Int),[])=some ((s.length:Int),recs))(hk:bZ (recs.length:Int) 0 59=true)(hr:bX c r=true):
  rd (s++line (recs.length:Int) c r) ((0:Int),[])=some (((s++line (recs.length:Int) c r).length:Int),recs++ [(c,r)]):=by
 obtain⟨v,h1,h2,h3⟩:=V7 (line (recs.length:Int) c r) ((0:Int),[]) (RI0 s);rw[hs]at h1;obtain rfl:=yJ h1;rw[h3];have aa:=Lb (k:=(recs.length:Int)) hr;have hd:Dec (recs.length:Int) (iC (gQ (recs.length:Int) c r)) c r:=⟨hk,hr,rfl⟩
 have e1:cF 10 (line (recs.length:Int) c r)=iC (gQ (recs.length:Int) c r):=nW aa rfl;have e2:aX (line (recs.length:Int) c r) 10=true:=by unfold line;rw[nC];simp[aX]
 have e3:((s++line (recs.length:Int) c r).drop ((s.length:Int).toNat))=line (recs.length:Int) c r:=by rw[xy];exact xhc rfl
 have e4:bL (s++line (recs.length:Int) c r) ((s.length:Int),recs)=.inl (((s++line (recs.length:Int) c r).length:Int),recs++ [(c,r)]):=by unfold bL;simp only[e3,e2,e1,Z4 hd,if_true];congr 2;rw[xj];unfold line;rw[xj,xk,xz];omega
 rw[Gh e4];apply P6;unfold bL;have e5:(s++line (recs.length:Int) c r).drop ((((s++line (recs.length:Int) c r).length:Nat):Int).toNat)=[]:=by rw[xy];exact RU (xm _)
 simp only[e5];rfl
structure Val(a b:List UInt8)(n:Int)(recs:List (List UInt8×List UInt8)):Prop where
 all:rd (a++b) ((0:Int),[])=some (((a++b).length:Int),recs)
 dur:∃rs,rd a ((0:Int),[])=some ((a.length:Int),rs)
 cnt:n=(recs.length:Int)
theorem Val.len{a b:List UInt8}{n:Int}{recs:List (List UInt8×List UInt8)}(h:Val a b n recs):recs.length<=60/\((a++b).length:Int)<=378*(recs.length:Int):=by obtain⟨r,h1,h2,h3⟩:=aGq (s:=a++b) ((0:Int),[]) (RI0 _) (by simp);rw[h.all]at h1;obtain rfl:=yJ h1;exact⟨h2.2.2,h3⟩
theorem iF{a b:List UInt8}(ha:aQ a)(hb:aQ b)(n:Int):∃v,PB a b n=some v/\AF a b n=some v/\(v=true↔∃recs,Val a b n recs):=by
 have aa:=ha;have ad:=hb;unfold aQ at ha hb;have e0:a.length+b.length<=9223372036854775807:=by omega
 unfold PB aCp AF YW;have el:((List.length (a++b):Nat):Int)=(a.length:Int)+(b.length:Int):=by simp
 have ew:IntKind.wrap .i64 ((a.length:Int)+(b.length:Int))=(a.length:Int)+(b.length:Int):=aL (by omega) (by omega);by_cases h:(30000:Int)<(a.length:Int)+(b.length:Int)
 ·refine⟨false,?_,?_,λh=>(by cases h),λ⟨recs,hv⟩=>?_⟩;·simp(disch:=omega)only[EV,ew,h]
  ·simp(disch:=omega)only[EV,e0,el,h]
  ·have:=hv.len;omega
 ·have ab:aQ (a++b):=by unfold aQ;omega
  obtain⟨v,v1,v3,_⟩:=V7 (s:=a++b) [] ((0:Int),[]) (RI0 _);obtain⟨u,u1,u3,_⟩:=V7 (s:=a) [] ((0:Int),[]) (RI0 _);obtain⟨w1,w2⟩:=Q0 ab;obtain⟨w3,w4⟩:=Q0 aa;rw[v1]at w1 w2;rw[u1]at w3 w4;have e1:¬(30000:Int)<((List.length (a++b):Nat):Int):=by omega
  refine⟨(v.1==(a.length:Int)+(b.length:Int))&&((u.1==(a.length:Int))&&(((v.2.length:Nat):Int)==n)),?_,?_,?_⟩;·simp(disch:=omega)only[EV,ew,h,e0,w1,w3];cases(v.1==(a.length:Int)+(b.length:Int))<;>cases(u.1==(a.length:Int))<;>rfl
  ·simp(disch:=omega)only[EV,e0,e1,w2,w4];rw[el,show(n==((v.2.length:Nat):Int))=(((v.2.length:Nat):Int)==n)from Bool.beq_comm ..];cases(v.1==(a.length:Int)+(b.length:Int))<;>cases(u.1==(a.length:Int))<;>rfl
  ·obtain⟨vo,vr⟩:=v;obtain⟨uo,ur⟩:=u;simp only[xg,qh];constructor;·rintro⟨q1,q2,q3⟩;exact⟨vr,by rw[v1,el,q1],⟨ur,by rw[u1,q2]⟩,q3.symm⟩
   ·rintro⟨recs,hv⟩;have k1:=hv.all;obtain⟨rs,k2⟩:=hv.dur;rw[v1]at k1;rw[u1]at k2;have k3:=yJ k1;have k4:=yJ k2;simp only[Ut]at k3 k4;obtain⟨k5,k6⟩:=k3;obtain⟨k7,k8⟩:=k4;subst k6;exact⟨by omega,k7,hv.cnt.symm⟩
theorem Val.line{a b c r:List UInt8}{n:Int}{recs:List (List UInt8×List UInt8)}(h:Val a b n recs)(hk:bZ n 0 59=true)(hr:bX c r=true):Val a (b++line n c r) (n+1) (recs++ [(c,r)]):=by have hc:=h.cnt;subst hc;have:=OQ (c:=c) (r:=r) h.all hk hr;rw[Vt]at this;exact⟨this,h.dur,by simp⟩
theorem Val.uniq{a b:List UInt8}{n:Int}{r1 r2:List (List UInt8×List UInt8)}(h:Val a b n r1)(k:Val a b n r2):r1=r2:=by have:=h.all.symm.trans k.all;simp only[xe,Ut,true_and]at this;exact this
theorem Ko{a b:List UInt8}(ha:aQ a)(hb:aQ b)(n:Int):∃v,XV a b n=some v/\v.2.length<=60/\(∀recs,Val a b n recs->v=(true,recs)):=by
 obtain⟨v,_,v2,v3⟩:=iF ha hb n;unfold XV aFH;simp(disch:=omega)only[EV,v2];cases v with
 |false=>exact⟨_,rfl,by simp,λrecs h=>by have:=v3.2 ⟨recs,h⟩;cases this⟩
 |true=>
  obtain⟨recs,hv⟩:=v3.1 rfl;have hl:=hv.len;have e0:a.length+b.length<=9223372036854775807:=by rw[xj]at hl;omega
  obtain⟨_,w2⟩:=Q0 (s:=a++b) (by unfold aQ;omega);rw[hv.all]at w2;simp(disch:=omega)only[EV,e0,w2];exact⟨_,rfl,hl.1,λr2 h2=>by rw[hv.uniq h2]⟩
end
section
variable {o:List Int}{ds:List (List Int)}{s:List Int}{n:Int}
theorem D3{a b c r:List UInt8}(ha:aQ a)(hb:aQ b)(hc:aQ c)(hr:aQ r)(n:Int):∃v,Cc a b n c r=some v/\Qy a b n c r=some v/\v.1=a/\v.2.1.length<=b.length+378/\aQ v.2.1/\
  ∀recs,Val a b n recs->n≠60->bX c r=true->v.2.2=(n+1,0)/\Val a v.2.1 (n+1) (recs++ [(c,r)]):=by
 obtain⟨v,v1,v2,v3⟩:=iF ha hb n;unfold Cc aDI Qy aEn;simp(disch:=omega)only[EV,v1,v2,nT hc hr,fH hc hr,kK (k:=n) hc hr];cases v with
 |false=>exact⟨_,rfl,rfl,rfl,by simp,hb,λrecs h=>by have:=v3.2 ⟨recs,h⟩;cases this⟩
 |true=>
  obtain⟨recs,hv⟩:=v3.1 rfl;have hl:=hv.len;have ad:=hv.cnt;cases aa:bX c r with
  |false=>exact⟨_,rfl,rfl,rfl,by simp,hb,λ_ _ _ h=>by cases h⟩
  |true=>
   cases ab:(n==(60:Int))with
   |true=>exact⟨_,rfl,rfl,rfl,by simp,hb,λ_ _ h=>absurd (by simpa using ab) h⟩
   |false=>
    have ae:n≠60:=by simpa using ab
    have hk:bZ n 0 59=true:=isIn_iff.2 ⟨by omega,by omega⟩;obtain⟨_,_,_,_,_,ra,rb⟩:=eX aa;have he:Ig n c r=(line n c r,true):=by unfold Ig Sk;rw[hk,aa];rfl
    have af:=Ac hk aa;have e0:b.length+(line n c r).length<=9223372036854775807:=by unfold aQ at hb;omega
    have ah: -9223372036854775808<=n+1:=by omega
    have ai:n+1<9223372036854775808:=by omega
    rw[he];simp(disch:=omega)only[EV,d7 (c:=c) (r:=r) hk (by omega) (by omega),e0];rw[xj]at hl;exact⟨_,rfl,rfl,rfl,by simp only[xj];omega,by unfold aQ;simp only[xj];omega,λrecs h _ _=>⟨rfl,h.line hk aa⟩⟩
theorem iE(h:Atl o ds s n):G9 o ds s n=some (n,o,ds,s):=by have h7:=h.fld.len;have hc:=h.fld.clients;have hs:=h.set.len;exact rC (by omega) (by omega) (λr hr=>by have:=rJ h.fld r hr;omega) (by omega) n
theorem lR(lo:aI o)(ld:dL ds)(ls:aI s)(n:Int):GZ o ds s n=some (MA (bV o ds s n) o ds s n):=by
 unfold GZ YU;rw[qo,eN lo ld ls,xc,qp];cases hA:bV o ds s n with
 |false=>rfl
 |true=>rw[xl,qb,qo,iE (atl_iff.1 hA),xc,qt];rfl
def cap(rep:List UInt8):List UInt8:=bif decide ((200:Int)<((rep.length:Nat):Int))then[108,111,110,103]else rep
theorem JE(rep:List UInt8):aQ (cap rep):=by
 unfold cap aQ;by_cases h:(200:Int)<((rep.length:Nat):Int);·rw[qc h,qa];simp
 ·rw[qd h,qb];omega
theorem KG{line rep:List UInt8}{ok:Bool}(hr:bX line []=true)(hg:ok=true->Gd rep):bX line (cap (if ok then rep else[63]))=true:=by
 have key:jJ (cap (if ok then rep else[63])) 200=true:=by
  cases ok with
  |false=>rfl
  |true=>
   rw[qj rfl];unfold cap;by_cases h2:(200:Int)<((rep.length:Nat):Int);·rw[qc h2];rfl
   ·rw[qd h2,qb];unfold jJ;rw[qc (by omega),IY];exact xr.2 λx hx=>(Bool.and_eq_true_iff.1 (hg rfl x hx)).1
 unfold bX at hr⊢;simp only[xg]at hr⊢;exact⟨hr.1,hr.2.1,hr.2.2.1,key⟩
theorem wY(h:Atl o ds s n){d p:List UInt8}(sd:aQ d)(sp:aQ p){line:List UInt8}(sl:aQ line)(c:Int):
  ∃o' aa s' n' d' p' c' rep,Atl o' aa s' n'/\aQ d'/\aQ p'/\yN o ds s n d p c line=some (o',aa,s',n',d',p',c',rep)/\q8 o ds s n d p c line=some (n',d',p',c',rep,o',aa,s')/\
   ∀recs,Val d p c recs->(o',aa,s',n',d',p',c')=(o,ds,s,n,d,p,c)\/(c'=c+1/\Val d' p' c' (recs++ [(line,rep)])/\(rep=[63]->(o',aa,s',n')=(o,ds,s,n))):=by
 obtain⟨lo,ld⟩:=rN h.fld;have ls:=h.set.low h.fld.len;obtain⟨v,v1,v2,_⟩:=iF sd sp c;have hA:=atl_iff.2 h;have nl:aQ []:=by unfold aQ;simp
 have e1:Q2 o ds s n d p c=some v:=by unfold Q2 AZ;rw[qo,eN lo ld ls,hA,xc,qp,qa,qo,v1,xc,qt]
 have e2:pS o ds s n d p c=some v:=by unfold pS Bz;rw[qo,cC lo ld ls,hA,xc,qp,qa,qo,v2,xc,qt]
 have e3:=fH sl nl;have e4:=nT sl nl;cases v with
 |false=>
  refine⟨o,ds,s,n,d,p,c,[110,111],h,sd,sp,?_,?_,λ_ _=>.inl rfl⟩;·unfold yN Kr;rw[qo,kH lo ld ls,xc,qo,e2,xc,qp,nL,qa,qt]
  ·unfold q8 Kv;rw[qo,iE h,xc,qo,e1,xc,qp,nL,qa,qt]
 |true=>
  cases hr:bX line []with
  |false=>
   rw[hr]at e3 e4;refine⟨o,ds,s,n,d,p,c,[98,97,100],h,sd,sp,?_,?_,λ_ _=>.inl rfl⟩;·unfold yN Kr;rw[qo,kH lo ld ls,xc,qo,e2,xc,qp,xl,qb,qo,e3,xc,qp,nL,qa,qt]
   ·unfold q8 Kv;rw[qo,iE h,xc,qo,e1,xc,qp,xl,qb,qo,e4,xc,qp,nL,qa,qt]
  |true=>
   rw[hr]at e3 e4;have hlen:line.length<=160:=by obtain⟨_,_,_,_,_,ra,_⟩:=eX hr;omega
   cases ab:(c==(60:Int))with
   |true=>
    refine⟨o,ds,s,n,d,p,c,[102,117,108,108],h,sd,sp,?_,?_,λ_ _=>.inl rfl⟩;·unfold yN Kr;rw[qo,kH lo ld ls,xc,qo,e2,xc,qp,xl,qb,qo,e3,xc,qp,xl,qb,qp,ab,qa,qt]
    ·unfold q8 Kv;rw[qo,iE h,xc,qo,e1,xc,qp,xl,qb,qo,e4,xc,qp,xl,qb,qp,ab,qa,qt]
   |false=>
    obtain⟨o',aa,s',n',rep,ok,h',r1,r2,r3⟩:=DK h (line:=line) (by omega);have hR:q8 o ds s n d p c line=(Cc d p c line (cap (if ok then rep else[63]))).bind λv=>some (n',v.1,v.2.1,v.2.2.1,cap (if ok then rep else[63]),o',aa,s'):=by
     unfold q8 Kv cap;rw[qo,iE h,xc,qo,e1,xc,qp,xl,qb,qo,e4,xc,qp,xl,qb,qp,ab,qb,qo,r2,xc,qp];cases decide ((200:Int)<(((if ok then rep else[63]).length:Nat):Int))with
     |true=>
      rw[qa,qa,qo];cases Cc d p c line [108,111,110,103]with
      |none=>rfl
      |some v=>rw[xc,xc,qo,iE h',xc,qt]
     |false=>
      rw[qb,qb,qo];cases Cc d p c line (if ok then rep else[63])with
      |none=>rfl
      |some v=>rw[xc,xc,qo,iE h',xc,qt]
    have hI:yN o ds s n d p c line=(Qy d p c line (cap (if ok then rep else[63]))).bind λv=>some (o',aa,s',n',v.1,v.2.1,v.2.2.1,cap (if ok then rep else[63])):=by
     unfold yN Kr;rw[qo,kH lo ld ls,xc,qo,e2,xc,qp,xl,qb,qo,e3,xc,qp,xl,qb,qp,ab,qb,qo,r1,xc,qp];cases ok with
     |false=>rfl
     |true=>
      rw[xl,qb,qj rfl];unfold cap;rw[qp];cases decide ((200:Int)<((rep.length:Nat):Int))with
      |true=>rfl
      |false=>rfl
    obtain⟨v,a1,a2,a3,_,a4,a5⟩:=D3 sd sp sl (JE (if ok then rep else[63])) c;rw[a2]at hI;rw[a1]at hR;obtain⟨vd,vp,vc,vs⟩:=v;simp only at a3 a4 a5;subst a3;refine⟨o',aa,s',n',vd,vp,vc,_,h',sd,a4,hI,hR,λrecs hv=>.inr ?_⟩;have ad:c≠60:=by simpa using ab
    obtain⟨k1,k2⟩:=a5 recs hv ad (KG hr λae=>by rw[ae,qj rfl]at r3;exact r3);obtain⟨rfl,rfl⟩:=Prod.mk.inj k1;refine⟨rfl,k2,λhq=>?_⟩;cases ok with
    |false=>exact r3
    |true=>
     exfalso;rw[qj rfl]at r3 hq;unfold cap at hq;by_cases h2:(200:Int)<((rep.length:Nat):Int);·rw[qc h2,qa]at hq;cases hq
     ·rw[qd h2,qb]at hq;subst hq;have:=r3 63 xu;cases this
end
abbrev St7:Type:=List Int×List (List Int)×List Int×Int×List UInt8×List UInt8×Int
def StX(a:St7)(l r:List UInt8)(b:St7):Prop:=yN a.1 a.2.1 a.2.2.1 a.2.2.2.1 a.2.2.2.2.1 a.2.2.2.2.2.1 a.2.2.2.2.2.2 l=some (b.1,b.2.1,b.2.2.1,b.2.2.2.1,b.2.2.2.2.1,b.2.2.2.2.2.1,b.2.2.2.2.2.2,r)
section
open Go
theorem Or{B:Int}{l:List Int}{i:Int}(s W:List UInt8)(c:Int)(h:CK B l i)(hB:B<=900000)(hs:s.length<=20000)(hW:1<=W.length)(ad:W.length<=100):∃t i' c',MR s W l i c=some (t,l,i',c')/\t.length<=s.length+5/\CK (B+6) l i':=by
 unfold MR aDA;cases k0:(s==([]:List UInt8))with
 |true=>
  have g1:(decide ((0:Int)<=(1:Int))&&decide ((1:Int)<=((W.length:Nat):Int)))=true:=by rw[qc (show(1:Int)<=((W.length:Nat):Int) by omega)];rfl
  rw[g1];simp(disch:=omega)only[EV];exact⟨_,_,_,rfl,by rw[Sy,xw];omega,h.mono (by omega)⟩
 |false=>
  have ab:1<=s.length:=by
   cases s with
   |nil=>simp at k0
   |cons x s=>simp
  obtain⟨x1,i1,c1,e1,a0,a1,h1⟩:=dN (s.length:Int) c h (by omega) (by omega);obtain⟨x2,i2,c2,e2,b0,b1,h2⟩:=dN ((List.length W:Nat):Int) c1 h1 (by omega) (by omega);obtain⟨x3,i3,c3,e3,d0,d1,h3⟩:=dN 3 c2 h2 (by omega) (by omega);have g1:x2<=((List.length W:Nat):Int):=by omega
  have g2:(1:Int)<=((List.length (List.drop (Int.toNat x2) (List.take (List.length W) W)):Nat):Int):=by rw[tO,xw];omega
  have g0:(0:Int)<=1:=by omega
  have g3:x1<=(s.length:Int):=by omega
  have g4:∀n:Nat,(List.drop 0 (List.take n s)).length<=20000:=λn=>by simp only[Sy,xw];omega
  have g5:∀n:Nat,(List.drop n (List.take s.length s)).length<=20000:=λn=>by simp only[tO,xw];omega
  have g6:∀t:List UInt8,(List.drop 0 (List.take (Int.toNat 1) t)).length<=1:=λt=>by simp only[Sy,xw];omega
  have g7:(0:Int)<=x1+1:=by omega
  have g8:x1+1<=(s.length:Int):=by omega
  generalize hT:List.drop 0 (List.take (Int.toNat 1) (List.drop (Int.toNat x2) (List.take (List.length W) W)))=T;have ae:T.length<=1:=by rw[<-hT];exact g6 _
  have r1:∀n m:Nat,(List.drop 0 (List.take n s)).length+(List.drop m (List.take s.length s)).length<=9223372036854775807:=λn m=>by have:=g4 n;have:=g5 m;omega
  have r2:∀n:Nat,(List.drop 0 (List.take n s)).length+T.length<=9223372036854775807:=λn=>by have:=g4 n;omega
  have r3:∀n m:Nat,(List.drop 0 (List.take n s)++T).length+(List.drop m (List.take s.length s)).length<=9223372036854775807:=λn m=>by have:=g4 n;have:=g5 m;rw[xj];omega
  have tl:∀n m:Nat,(n:Int)<=s.length->n<=m+0->((List.drop 0 (List.take n s)++T)++List.drop m (List.take s.length s)).length<=s.length+5:=λn m hn hm=>by simp only[xj,Sy,xw,tO];omega
  have aa:∀n m:Nat,(n:Int)<=s.length->n<=m+0->(List.drop 0 (List.take n s)++List.drop m (List.take s.length s)).length<=s.length+5:=λn m hn hm=>by simp only[xj,Sy,xw,tO];omega
  simp(disch:=omega)only[EV,e1,e2,e3,b0,g1,g2,g0,a0,g3,hT,r2,r3,r1,g7,g8];cases k1:(x3==(0:Int))with
  |true=>exact⟨_,_,_,rfl,tl _ _ (by omega) (by omega),h3.mono (by omega)⟩
  |false=>
   cases k2:(x3==(1:Int))with
   |true=>exact⟨_,_,_,rfl,tl _ _ (by omega) (by omega),h3.mono (by omega)⟩
   |false=>exact⟨_,_,_,rfl,aa _ _ (by omega) (by omega),h3.mono (by omega)⟩
theorem T6{l:List Int}(h:∀x∈l,0<=x/\x<=255)(hl:l.length<=70000)(n:Int)(hn:0<=n)(aa:n<=100):∃m,BN l n=some m/\CK 0 m 0:=by
 have ck:∀k:Nat,∀x:Int,CK 0 (([]++List.drop k (List.take l.length l))++ [IntKind.wrap .u8 x]) 0:=λk x=>by
  refine⟨λy hy=>?_,by simp;omega,by omega,by omega⟩;rcases xq.1 hy with hy|hy;·exact h y (xcz (i:=k) (by simpa using hy))
  ·rw[xo.1 hy];exact MY x
 have g1:∀k:Nat,(List.length ([]:List Int)+List.length (List.drop k (List.take l.length l)))*1<=140737488355328:=λk=>by simp;omega
 have g2:∀(k:Nat) (x:Int),(List.length (([]:List Int)++(List.drop k (List.take l.length l)))+List.length ([x]:List Int))*1<=140737488355328:=λk x=>by simp;omega
 unfold BN aEI;by_cases k1:((l.length:Nat):Int)<n
 ·have z:(0:Int)<=((l.length:Nat):Int):=by omega
  simp(disch:=omega)only[EV,k1,z,zM,g1,g2];exact⟨_,rfl,ck _ _⟩
 ·have k2:n<=((l.length:Nat):Int):=by omega
  simp(disch:=omega)only[EV,k1,hn,k2,g1,g2];exact⟨_,rfl,ck _ _⟩
end
end Go.Proofs.YtjiljcblmgeioaaGreatDoor
