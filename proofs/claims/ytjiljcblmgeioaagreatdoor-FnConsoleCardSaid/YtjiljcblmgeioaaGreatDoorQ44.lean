/- A part of the proof that FnConsole hands back true, at every argument of the row. -/
import Derived.Test.YtjiljcblmgeioaaGreatDoorP18
namespace Go.Proofs.YtjiljcblmgeioaaGreatDoor
set_option linter.all false
theorem rL{V R:Type}{f:V->Option (V⊕R)}{n:Nat}(P:Nat->V->Prop)(Q:R->Prop)(hs:∀k v,k<n->P k v->(∃v',f v=some (.inl v')/\P (k+1) v')\/∃r,f v=some (.inr r)/\Q r)(he:∀v,P n v->∃r,f v=some (.inr r)/\Q r){v:V}(h0:P 0 v):∃r,aB f v=some r/\Q r:=by
 have key:∀m k v,k+m=n->P k v->∃r,aB f v=some r/\Q r:=by
  intro m;induction m with
  |zero=>
   intro k v hk hp;have:k=n:=by omega
   subst this;obtain⟨r,h1,h2⟩:=he v hp;exact⟨r,by rw[aF,h1],h2⟩
  |succ m ih=>
   intro k v hk hp;rcases hs k v (by omega) hp with⟨v',h1,h2⟩|⟨r,h1,h2⟩
   ·obtain⟨r,h3,h4⟩:=ih (k+1) v' (by omega) h2;exact⟨r,by rw[aF,h1];exact h3,h4⟩
   ·exact⟨r,by rw[aF,h1],h2⟩
 exact key n 0 v (by omega) h0
theorem Xd{x b:Int}{L:List Int}(h:x∈L)(hL:∀y∈L,0<=y/\y<=b):∃n:Nat,x=(n:Int)/\(n:Int)<=b:=by have:=hL x h;exact⟨x.toNat,by omega,by omega⟩
structure Bxd(n:Nat)(d:List (List Int)):Prop where
 hn:n<=7
 hm:d.length<=7
 row:∀r∈d,r.length=n/\∀x∈r,0<=x/\x<=99
theorem Bxd.len{n:Nat}{d:List (List Int)}(h:Bxd n d){i:Nat}(hi:i<d.length):(d.getD i []).length=n:=(h.row _ (aG hi)).1
theorem Bxd.at{n:Nat}{d:List (List Int)}(h:Bxd n d){i a:Nat}(hi:i<d.length)(ha:a<n):0<=(d.getD i []).getD a 0/\(d.getD i []).getD a 0<=99:=(h.row _ (aG hi)).2 _ (aG (by rw[h.len hi];exact ha))
theorem N8{α:Type}(l:List α){i:Nat}(hi:i<l.length)(j:Nat)(v d:α):(l.set i v).getD j d=if i=j then v else l.getD j d:=by
 simp only[xd,QQ];split;·simp[hi]
 ·rfl
theorem Bxd.set{n:Nat}{d:List (List Int)}(h:Bxd n d){i a:Nat}{x:Int}(hi:i<d.length)(hx:0<=x/\x<=99):Bxd n (d.set i ((d.getD i []).set a x))/\(d.set i ((d.getD i []).set a x)).length=d.length:=by
 refine⟨⟨h.hn,by simpa using h.hm,λr hr=>?_⟩,by simp⟩;rcases xct hr with h1|rfl;·exact h.row r h1
 ·refine⟨by rw[E2];exact h.len hi,λy hy=>?_⟩;rcases xct hy with h1|rfl;·exact(h.row _ (aG hi)).2 y h1
  ·exact hx
theorem NJ{B:Int}{l:List Int}{i:Int}(k:(Int)×(Int)×(Int)×(Int)×(List (Int))){M n:Nat}(hM:M<=7)(ad:k.1=(M:Int))(ae:k.2.1=(n:Int))(hb:1<=k.2.2.2.1)(c:Int)(h:CK B l i)(hB:B<=900000):
  ∃i' c' o,aJw k ((0:Int),l,i,c,([]:List Int))=some (l,i',c',o)/\o.length=min M n/\CK (B+14) l i':=by
 obtain⟨r,h1,i',c',o,rfl,h2⟩:=cJ (f:=λv=>(Th k v).ev) (n:=min M n)
  (λa v=>∃i c o,v=((a:Int),l,i,c,o)/\o.length=a/\CK (B+2*a) l i)
  (λr=>∃i c o,r=(l,i,c,o)/\o.length=min M n/\CK (B+14) l i)
  (λa v ha hv=>by
   obtain⟨i,c,o,rfl,l1,hc⟩:=hv;obtain⟨x,i1,c1,e1,_,_,h1⟩:=dN k.2.2.2.1 c hc (by omega) hb;have r1:=oF o x (by omega);have aa:(a:Int)<k.1:=by omega
   have ab:(a:Int)<k.2.1:=by omega
   refine⟨(((a+1:Nat):Int),l,i1,c1,o++ [x]),?_,i1,c1,_,rfl,by simp[l1],h1.mono (by omega)⟩;simp(disch:=omega)only[EV,Th,aa,ab,e1,r1];rfl)
  (λv hv=>by
   obtain⟨i,c,o,rfl,l1,hc⟩:=hv;by_cases af:M<=n
   ·have aa:¬((min M n:Nat):Int)<k.1:=by omega
    refine⟨_,by simp(disch:=omega)only[EV,Th,aa,ite_self],i,c,o,rfl,l1,hc.mono (by omega)⟩
   ·have aa:((min M n:Nat):Int)<k.1:=by omega
    have ab:¬((min M n:Nat):Int)<k.2.1:=by omega
    refine⟨_,by simp(disch:=omega)only[EV,Th,aa,ab],i,c,o,rfl,l1,hc.mono (by omega)⟩)
  (v:=((0:Int),l,i,c,([]:List Int))) ⟨i,c,[],rfl,rfl,h.mono (by omega)⟩
 exact⟨i',c',o,h1,h2⟩
theorem QE{B:Int}{l:List Int}{i:Int}(k:(Int)×(Int)×(Int)×(Int)×(List (Int))×(List (List (Int)))×(List (Int))×(List (List (Int))))(hn:k.2.2.2.2.2.2.1.length<=7)(hb:1<=k.2.2.1/\k.2.2.1<=20)(c:Int)(h:CK B l i)(hB:B<=900000):
  ∃i' c' row,aHf k ((0:Int),l,i,c,([]:List Int))=some (l,i',c',row)/\(row.length=k.2.2.2.2.2.2.1.length/\∀x∈row,0<=x/\x<=99)/\CK (B+14) l i':=by
 obtain⟨r,h1,i',c',row,rfl,h2⟩:=cJ (f:=λv=>(IP k v).ev) (n:=k.2.2.2.2.2.2.1.length)
  (λa v=>∃i c row,v=((a:Int),l,i,c,row)/\(row.length=a/\∀x∈row,0<=x/\x<=99)/\CK (B+2*a) l i)
  (λr=>∃i c row,r=(l,i,c,row)/\(row.length=k.2.2.2.2.2.2.1.length/\∀x∈row,0<=x/\x<=99)/\CK (B+14) l i)
  (λa v ha hv=>by
   obtain⟨i,c,row,rfl,⟨l1,l2⟩,hc⟩:=hv;obtain⟨x,i1,c1,e1,aa,ab,h1⟩:=dN k.2.2.1 c hc (by omega) hb.1;have r1:=oF row x (by omega);refine⟨(((a+1:Nat):Int),l,i1,c1,row++ [x]),?_,i1,c1,_,rfl,⟨by simp[l1],λy hy=>?_⟩,h1.mono (by omega)⟩;·simp(disch:=omega)only[EV,IP,ha,e1,r1];rfl
   ·rcases xq.1 hy with h|h;·exact l2 y h
    ·rw[xo.1 h];omega)
  (λv hv=>by obtain⟨i,c,row,rfl,l1,hc⟩:=hv;refine⟨_,by simp(disch:=omega)only[EV,IP,xi],i,c,row,rfl,l1,hc.mono (by omega)⟩)
  (v:=((0:Int),l,i,c,([]:List Int))) ⟨i,c,[],rfl,⟨rfl,λx hx=>by cases hx⟩,h.mono (by omega)⟩
 exact⟨i',c',row,h1,h2⟩
theorem LK{B:Int}{l:List Int}{i:Int}(k:(Int)×(Int)×(Int)×(List (Int))×(List (List (Int)))×(List (Int))){M m:Nat}(hM:M<=7)(ae:k.1=(M:Int))(af:k.2.1=(m:Int))(hn:k.2.2.2.2.2.length<=7)(hb:1<=k.2.2.1/\k.2.2.1<=20)(c:Int)(h:CK B l i)(hB:B<=800000):
  ∃i' c' ds,aHO k ((0:Int),l,i,c,([]:List (List Int)))=some (l,i',c',ds)/\Bxd k.2.2.2.2.2.length ds/\CK (B+98) l i':=by
 obtain⟨r,h1,i',c',ds,rfl,⟨h2,h3⟩,h4⟩:=cJ (f:=λv=>(Tu k v).ev) (n:=min M m)
  (λa v=>∃i c ds,v=((a:Int),l,i,c,ds)/\(ds.length=a/\∀r∈ds,r.length=k.2.2.2.2.2.length/\∀x∈r,0<=x/\x<=99)/\CK (B+14*a) l i)
  (λr=>∃i c ds,r=(l,i,c,ds)/\(ds.length=min M m/\∀r∈ds,r.length=k.2.2.2.2.2.length/\∀x∈r,0<=x/\x<=99)/\CK (B+98) l i)
  (λa v ha hv=>by
   obtain⟨i,c,ds,rfl,⟨l1,l2⟩,hc⟩:=hv;obtain⟨i1,c1,row,e1,hr,h1⟩:=QE (k.1,k.2.1,k.2.2.1,(a:Int),k.2.2.2.1,k.2.2.2.2.1,k.2.2.2.2.2,ds) hn hb c hc (by omega);have r1:=mG ds (by omega);have aa:(a:Int)<k.1:=by omega
   have ab:(a:Int)<k.2.1:=by omega
   refine⟨(((a+1:Nat):Int),l,i1,c1,ds++ [row]),?_,i1,c1,_,rfl,⟨by simp[l1],λr ad=>?_⟩,h1.mono (by omega)⟩;·simp(disch:=omega)only[EV,Tu,aa,ab,e1,r1,fA];rfl
   ·rcases xq.1 ad with h|h;·exact l2 r h
    ·rw[xo.1 h];exact hr)
  (λv hv=>by
   obtain⟨i,c,ds,rfl,l1,hc⟩:=hv;by_cases ah:M<=m
   ·have aa:¬((min M m:Nat):Int)<k.1:=by omega
    refine⟨_,by simp(disch:=omega)only[EV,Tu,aa,ite_self],i,c,ds,rfl,l1,hc.mono (by omega)⟩
   ·have aa:((min M m:Nat):Int)<k.1:=by omega
    have ab:¬((min M m:Nat):Int)<k.2.1:=by omega
    refine⟨_,by simp(disch:=omega)only[EV,Tu,aa,ab],i,c,ds,rfl,l1,hc.mono (by omega)⟩)
  (v:=((0:Int),l,i,c,([]:List (List Int)))) ⟨i,c,[],rfl,⟨rfl,λr hr=>by cases hr⟩,h.mono (by omega)⟩
 exact⟨i',c',ds,h1,⟨hn,by omega,h3⟩,h4⟩
theorem qB{B:Int}{l:List Int}{i:Int}{M:Nat}(hM:1<=M/\M<=7)(c:Int)(h:CK B l i)(hB:B<=700000):
  ∃o ds i' c',Xs (M:Int) l i c=some (o,ds,l,i',c')/\(1<=o.length/\Bxd o.length ds)/\CK (B+120) l i':=by
 obtain⟨x1,i1,c1,e1,m1,h1⟩:=gS ([(3:Int),(4:Int),(2:Int),(5:Int),(1:Int),(6:Int),(7:Int)]:List (Int)) c h (by omega) (by decide);have ad:=(show∀y∈([(3:Int),(4:Int),(2:Int),(5:Int),(1:Int),(6:Int),(7:Int)]:List (Int)),1<=y by decide) x1 m1;obtain⟨n,rfl,hn⟩:=Xd (b:=7) m1 (by decide);obtain⟨x2,i2,c2,e2,m2,h2⟩:=gS ([(4:Int),(3:Int),(5:Int),(2:Int),(6:Int),(7:Int),(1:Int),(0:Int)]:List (Int)) c1 h1 (by omega) (by decide);obtain⟨m,rfl,hm⟩:=Xd (b:=7) m2 (by decide);obtain⟨ab,i3,c3,e3,m3,h3⟩:=gS ([(10:Int),(10:Int),(20:Int),(4:Int)]:List (Int)) c2 h2 (by omega) (by decide);have aa:=(show∀y∈([(10:Int),(10:Int),(20:Int),(4:Int)]:List (Int)),1<=y/\y<=20 by decide) ab m3;obtain⟨i4,c4,o,e4,lo,h4⟩:=NJ ((M:Int),(n:Int),(m:Int),ab,([]:List (Int))) (n:=n) hM.2 rfl rfl aa.1 c3 h3 (by omega);obtain⟨i5,c5,ds,e5,hd,h5⟩:=LK ((M:Int),(m:Int),ab,([]:List (Int)),([]:List (List (Int))),o) (m:=m) hM.2 rfl rfl (by show o.length<=7;omega) aa c4 h4 (by omega);unfold Xs aEN;simp(disch:=omega)only[EV,e1,e2,e3,e4,e5];exact⟨_,_,_,_,rfl,⟨by omega,hd⟩,h5.mono (by omega)⟩
theorem AD{B:Int}{l:List Int}{i:Int}(k:(List (Int))×(List (List (Int))))(hn:k.1.length<=7)(c:Int)(h:CK B l i)(hB:B<=900000):
  ∃i' c' p,aKP k ((0:Int),l,i,c,([]:List Int))=some (l,i',c',p)/\(p.length=k.1.length/\∀x∈p,0<=x/\x<=19)/\CK (B+14) l i':=by
 obtain⟨r,h1,i',c',p,rfl,h2⟩:=cJ (f:=λv=>(Yv k v).ev) (n:=k.1.length)
  (λa v=>∃i c p,v=((a:Int),l,i,c,p)/\(p.length=a/\∀x∈p,0<=x/\x<=19)/\CK (B+2*a) l i)
  (λr=>∃i c p,r=(l,i,c,p)/\(p.length=k.1.length/\∀x∈p,0<=x/\x<=19)/\CK (B+14) l i)
  (λa v ha hv=>by
   obtain⟨i,c,p,rfl,⟨l1,l2⟩,hc⟩:=hv;obtain⟨x,i1,c1,e1,aa,ab,h1⟩:=dN 20 c hc (by omega) (by omega);have r1:=oF p x (by omega);refine⟨(((a+1:Nat):Int),l,i1,c1,p++ [x]),?_,i1,c1,_,rfl,⟨by simp[l1],λy hy=>?_⟩,h1.mono (by omega)⟩;·simp(disch:=omega)only[EV,Yv,ha,e1,r1];rfl
   ·rcases xq.1 hy with h|h;·exact l2 y h
    ·rw[xo.1 h];omega)
  (λv hv=>by obtain⟨i,c,p,rfl,l1,hc⟩:=hv;refine⟨_,by simp(disch:=omega)only[EV,Yv,xi],i,c,p,rfl,l1,hc.mono (by omega)⟩)
  (v:=((0:Int),l,i,c,([]:List Int))) ⟨i,c,[],rfl,⟨rfl,λx hx=>by cases hx⟩,h.mono (by omega)⟩
 exact⟨i',c',p,h1,h2⟩
theorem CL{o p:List Int}{d:List (List Int)}(hb:Bxd o.length d)(hp:p.length=o.length)(ad:∀x∈p,0<=x/\x<=19){j:Nat}(hj:j<d.length){x:Int}(hx:0<=x/\x<=19)(l:List Int)(i c:Int):
  ∃r,aKX ((j:Int),x,l,i,c,p,o) ((0:Int),d)=some r/\Bxd o.length r/\r.length=d.length:=by
 exact cJ (f:=λv=>(CO ((j:Int),x,l,i,c,p,o) v).ev) (n:=o.length)
  (λa v=>∃e,v=((a:Int),e)/\Bxd o.length e/\e.length=d.length)
  (λr=>Bxd o.length r/\r.length=d.length)
  (λa v ha hv=>by
   obtain⟨e,rfl,h1,h2⟩:=hv;have aa:j<e.length:=by omega
   have ab:a<p.length:=by omega
   have hq:=ad _ (aG (d:=0) ab);have hl:=h1.len aa;have hn:=hb.hn;have hm:0<=max (x-p.getD a 0) (p.getD a 0-x)/\max (x-p.getD a 0) (p.getD a 0-x)<=99:=by omega
   obtain⟨h3,h4⟩:=h1.set (a:=a) aa hm;refine⟨(((a+1:Nat):Int),_),?_,_,rfl,h3,by rw[h4,h2]⟩;simp(disch:=omega)only[EV,CO,ha,aa,ab,kD,hl];rfl)
  (λv hv=>by obtain⟨e,rfl,h1,h2⟩:=hv;exact⟨_,by simp(disch:=omega)only[EV,CO,xi],h1,h2⟩)
  (v:=((0:Int),d)) ⟨d,rfl,hb,rfl⟩
theorem HC{B:Int}{l:List Int}{i:Int}{o p:List Int}{d:List (List Int)}(hb:Bxd o.length d)(hp:p.length=o.length)(ab:∀x∈p,0<=x/\x<=19)(c:Int)(h:CK B l i)(hB:B<=900000):
  ∃i' c' r,aGG (p,o) ((0:Int),l,i,c,d)=some (l,i',c',r)/\Bxd o.length r/\CK (B+14) l i':=by
 have hm:=hb.hm;obtain⟨r,h1,i',c',e,rfl,h2⟩:=cJ (f:=λv=>(Wj (p,o) v).ev) (n:=d.length)
  (λa v=>∃i c e,v=((a:Int),l,i,c,e)/\(Bxd o.length e/\e.length=d.length)/\CK (B+2*a) l i)
  (λr=>∃i c e,r=(l,i,c,e)/\Bxd o.length e/\CK (B+14) l i)
  (λa v ha hv=>by
   obtain⟨i,c,e,rfl,⟨h1,h2⟩,hc⟩:=hv;obtain⟨x,i1,c1,e1,ad,ae,h3⟩:=dN 20 c hc (by omega) (by omega);have aa:a<e.length:=by omega
   obtain⟨r,e2,h4,h5⟩:=CL h1 hp ab aa (show 0<=x/\x<=19 by omega) l i1 c1;refine⟨(((a+1:Nat):Int),l,i1,c1,r),?_,i1,c1,_,rfl,⟨h4,by omega⟩,h3.mono (by omega)⟩;simp(disch:=omega)only[EV,Wj,aa,e1,e2];rfl)
  (λv hv=>by
   obtain⟨i,c,e,rfl,⟨h1,h2⟩,hc⟩:=hv;have hq:¬d.length<e.length:=by omega
   refine⟨_,by simp(disch:=omega)only[EV,Wj,hq],i,c,e,rfl,h1,hc.mono (by omega)⟩)
  (v:=((0:Int),l,i,c,d)) ⟨i,c,d,rfl,⟨hb,rfl⟩,h.mono (by omega)⟩
 exact⟨i',c',e,h1,h2⟩
theorem V9{B:Int}{l:List Int}{i:Int}{M:Nat}(hM:1<=M/\M<=7)(c:Int)(h:CK B l i)(hB:B<=600000):
  ∃o ds i' c',aBF (M:Int) l i c=some (o,ds,l,i',c')/\(1<=o.length/\Bxd o.length ds)/\CK (B+150) l i':=by
 obtain⟨o,ds,i1,c1,e1,⟨ho,hd⟩,h1⟩:=qB hM c h (by omega);obtain⟨i2,c2,p,e2,⟨hp,aa⟩,h2⟩:=AD (o,ds) hd.hn c1 h1 (by omega);obtain⟨i3,c3,r,e3,hr,h3⟩:=HC hd hp aa c2 h2 (by omega);unfold aBF aFP;simp(disch:=omega)only[EV,e1,e2,e3];exact⟨_,_,_,_,rfl,⟨ho,hr⟩,h3.mono (by omega)⟩
theorem i9{l:List Int}(h:l.length<=1000000):pO l=some l:=by
 have h1:(List.length ([]:List Int)+l.length)*8<=140737488355328:=by simp;omega
 unfold pO NO;simp(disch:=omega)only[EV,h1,K0]
theorem AK{o:List Int}{d:List (List Int)}(hb:Bxd o.length d):aEd o d=some (o,d):=by
 have hm:=hb.hm;have hn:=hb.hn;obtain⟨r,h1,hr⟩:=cJ (f:=λv=>(EA (o,d,([]:List (List (Int))),o) v).ev) (n:=d.length)
  (λa v=>v=((a:Int),d.take a)) (λr=>r=d)
  (λa v ha hv=>by subst hv;have hl:=hb.len ha;have r1:=mG (d.take a) (by simp;omega);refine⟨_,?_,rfl⟩;simp(disch:=omega)only[EV,EA,ha,i9 (l:=d.getD a []) (by omega),r1,fA];rw[List.take_add_one,xf ha,xd,xf ha];rfl)
  (λv hv=>by subst hv;exact⟨_,by simp(disch:=omega)only[EV,EA,xi],tM⟩)
  (v:=((0:Int),([]:List (List Int)))) (by simp)
 rw[hr]at h1;have aa:aKF (o,d,([]:List (List (Int))),o) ((0:Int),([]:List (List Int)))=some d:=h1;unfold aEd ZI;simp(disch:=omega)only[EV,i9 (l:=o) (by omega),aa]
def RH(n:Nat)(d:List (List Int)):Prop:=∃i j a b,i<d.length/\j<d.length/\a<n/\b<n/\at2 d i b+at2 d j b+at2 d j a<at2 d i a
theorem Km{o:List Int}{d:List (List Int)}(hb:Bxd o.length d){i j a:Nat}(hi:i<d.length)(hj:j<d.length)(ha:a<o.length):
  ∃r,aFy ((i:Int),(j:Int),(a:Int),o,d) 0=some r/\(r=.inr ()->RH o.length d):=by
 have hn:=hb.hn;exact rL (f:=λv=>(G6 ((i:Int),(j:Int),(a:Int),o,d) v).ev) (n:=o.length)
  (λb v=>v=(b:Int)) (λr=>r=.inr ()->RH o.length d)
  (λb v aa hv=>by
   subst hv;have x1:=hb.at hi ha;have x2:=hb.at hi aa;have x3:=hb.at hj aa;have x4:=hb.at hj ha;have y1:=hb.len hi;have y2:=hb.len hj;by_cases hq:(d.getD i []).getD b 0+(d.getD j []).getD b 0+(d.getD j []).getD a 0<(d.getD i []).getD a 0;·exact .inr ⟨.inr (),by simp(disch:=omega)only[EV,G6,aa,hi,hj,ha,y1,y2,hq],λ_=>⟨i,j,a,b,hi,hj,ha,aa,hq⟩⟩
   ·exact .inl ⟨((b+1:Nat):Int),by simp(disch:=omega)only[EV,G6,aa,hi,hj,ha,y1,y2,hq];rfl,rfl⟩)
  (λv hv=>by subst hv;exact⟨.inl (),by simp(disch:=omega)only[EV,G6,xi],λh=>nomatch h⟩)
  (v:=(0:Int)) rfl
theorem Ho{o:List Int}{d:List (List Int)}(hb:Bxd o.length d){i j:Nat}(hi:i<d.length)(hj:j<d.length):
  ∃r,aGa ((i:Int),(j:Int),o,d) 0=some r/\(r=.inr ()->RH o.length d):=by
 have hn:=hb.hn;exact rL (f:=λv=>(E7 ((i:Int),(j:Int),o,d) v).ev) (n:=o.length)
  (λa v=>v=(a:Int)) (λr=>r=.inr ()->RH o.length d)
  (λa v ha hv=>by
   subst hv;obtain⟨r,e1,h1⟩:=Km hb hi hj ha;cases r with
   |inl u=>exact .inl ⟨((a+1:Nat):Int),by simp(disch:=omega)only[EV,E7,ha,e1];rfl,rfl⟩
   |inr u=>exact .inr ⟨.inr (),by simp(disch:=omega)only[EV,E7,ha,e1],λ_=>h1 rfl⟩)
  (λv hv=>by subst hv;exact⟨.inl (),by simp(disch:=omega)only[EV,E7,xi],λh=>nomatch h⟩)
  (v:=(0:Int)) rfl
theorem Iu{o:List Int}{d:List (List Int)}(hb:Bxd o.length d){i:Nat}(hi:i<d.length):
  ∃r,aEX ((i:Int),o,d) 0=some r/\(r=.inr ()->RH o.length d):=by
 have hm:=hb.hm;exact rL (f:=λv=>(F6 ((i:Int),o,d) v).ev) (n:=d.length)
  (λa v=>v=(a:Int)) (λr=>r=.inr ()->RH o.length d)
  (λa v ha hv=>by
   subst hv;obtain⟨r,e1,h1⟩:=Ho hb hi ha;cases r with
   |inl u=>exact .inl ⟨((a+1:Nat):Int),by simp(disch:=omega)only[EV,F6,ha,e1];rfl,rfl⟩
   |inr u=>exact .inr ⟨.inr (),by simp(disch:=omega)only[EV,F6,ha,e1],λ_=>h1 rfl⟩)
  (λv hv=>by subst hv;exact⟨.inl (),by simp(disch:=omega)only[EV,F6,xi],λh=>nomatch h⟩)
  (v:=(0:Int)) rfl
theorem Rk{o:List Int}{d:List (List Int)}(hb:Bxd o.length d):∃b,Qe o d=some b/\(b=false->RH o.length d):=by
 have hm:=hb.hm;obtain⟨r,e,h⟩:=rL (f:=λv=>(G8 (o,d) v).ev) (n:=d.length)
  (λa v=>v=(a:Int)) (λr=>r=.inr ()->RH o.length d)
  (λa v ha hv=>by
   subst hv;obtain⟨r,e1,h1⟩:=Iu hb ha;cases r with
   |inl u=>exact .inl ⟨((a+1:Nat):Int),by simp(disch:=omega)only[EV,G8,ha,e1];rfl,rfl⟩
   |inr u=>exact .inr ⟨.inr (),by simp(disch:=omega)only[EV,G8,ha,e1],λ_=>h1 rfl⟩)
  (λv hv=>by subst hv;exact⟨.inl (),by simp(disch:=omega)only[EV,G8,xi],λh=>nomatch h⟩)
  (v:=(0:Int)) rfl
 have e':ZA (o,d) 0=some r:=e;unfold Qe PX;simp(disch:=omega)only[EV,e'];cases r with
 |inl u=>exact⟨true,rfl,λh=>by cases h⟩
 |inr u=>exact⟨false,rfl,λ_=>h rfl⟩
structure Dn(n:Nat)(D d:List (List Int)):Prop where
 bx:Bxd n d
 len:d.length=D.length
 le:∀i a,i<D.length->a<n->at2 d i a<=at2 D i a
theorem Dn.trans{n:Nat}{D d e:List (List Int)}(h:Dn n D d)(h':Dn n d e):Dn n D e:=⟨h'.bx,by rw[h'.len,h.len],λi a hi ha=>Int.le_trans (h'.le i a (by rw[h.len];exact hi) ha) (h.le i a hi ha)⟩
theorem Dn.refl{n:Nat}{d:List (List Int)}(h:Bxd n d):Dn n d d:=⟨h,rfl,λ_ _ _ _=>zM _⟩
theorem Ms{d:List (List Int)}{n:Nat}(hb:Bxd n d){i a:Nat}(hi:i<d.length)(ha:a<n)(x:Int)(i' a':Nat):at2 (d.set i ((d.getD i []).set a x)) i' a'=if i=i'/\a=a' then x else at2 d i' a':=by
 unfold at2;rw[N8 _ hi];by_cases e:i=i';·subst e;rw[qj rfl,N8 _ (by rw[hb.len hi];exact ha)];by_cases e2:a=a'<;>simp[e2]
 ·simp[e]
theorem Dn.set{n:Nat}{d:List (List Int)}(hb:Bxd n d){i a:Nat}(hi:i<d.length)(ha:a<n){x:Int}(h0:0<=x)(h1:x<=at2 d i a):Dn n d (d.set i ((d.getD i []).set a x)):=by
 have h2:at2 d i a<=99:=(hb.at hi ha).2;obtain⟨h3,h4⟩:=hb.set (a:=a) hi (x:=x) ⟨h0,by omega⟩;refine⟨h3,h4,λi' a' aa ab=>?_⟩;rw[Ms hb hi ha];split
 next e=>obtain⟨rfl,rfl⟩:=e;exact h1
 next=>exact zM _
theorem Pl{o:List Int}{D d:List (List Int)}(h:Dn o.length D d){i j a:Nat}(hi:i<D.length)(hj:j<D.length)(ha:a<o.length):
  ∃r,aHj ((i:Int),(j:Int),(a:Int),o) ((0:Int),d)=some r/\Dn o.length d r/\∀b,b<o.length->at2 r i a<=at2 D i b+at2 D j b+at2 D j a:=by
 have hn:=h.bx.hn;have ad:=h.len;exact cJ (f:=λv=>(NZ ((i:Int),(j:Int),(a:Int),o) v).ev) (n:=o.length)
  (λb v=>∃e,v=((b:Int),e)/\Dn o.length d e/\∀b',b'<b->at2 e i a<=at2 D i b'+at2 D j b'+at2 D j a)
  (λr=>Dn o.length d r/\∀b,b<o.length->at2 r i a<=at2 D i b+at2 D j b+at2 D j a)
  (λb v hb hv=>by
   obtain⟨e,rfl,h1,h2⟩:=hv;have ae:=h1.len;have aa:i<e.length:=by omega
   have ab:j<e.length:=by omega
   have y1:=h1.bx.len aa;have y2:=h1.bx.len ab;have x1:=h1.bx.at aa ha;have x2:=h1.bx.at aa hb;have x3:=h1.bx.at ab hb;have x4:=h1.bx.at ab ha;have hT:=h.trans h1;have z2:(e.getD i []).getD b 0<=at2 D i b:=hT.le i b hi hb;have z3:(e.getD j []).getD b 0<=at2 D j b:=hT.le j b hj hb;have z4:(e.getD j []).getD a 0<=at2 D j a:=hT.le j a hj ha;have hs:=Dn.set h1.bx aa ha (x:=min ((e.getD i []).getD a 0) ((e.getD i []).getD b 0+(e.getD j []).getD b 0+(e.getD j []).getD a 0)) (by omega) (Int.min_le_left _ _);have hv:at2 (e.set i ((e.getD i []).set a (min ((e.getD i []).getD a 0) ((e.getD i []).getD b 0+(e.getD j []).getD b 0+(e.getD j []).getD a 0)))) i a=min ((e.getD i []).getD a 0) ((e.getD i []).getD b 0+(e.getD j []).getD b 0+(e.getD j []).getD a 0):=by rw[Ms h1.bx aa ha,qj ⟨rfl,rfl⟩]
   refine⟨(((b+1:Nat):Int),_),?_,_,rfl,h1.trans hs,λb' af=>?_⟩;·simp(disch:=omega)only[EV,NZ,hb,aa,ab,ha,y1,y2,nZ];rfl
   ·rw[hv];by_cases e2:b'=b;·subst e2;omega
    ·have:=h2 b' (by omega);have h5:at2 e i a=(e.getD i []).getD a 0:=rfl;omega)
  (λv hv=>by
   obtain⟨e,rfl,h1,h2⟩:=hv;refine⟨e,?_,h1,h2⟩;have hq:decide (((o.length:Nat):Int)<((o.length:Nat):Int))=false:=by simp
   have key:∀(x:Tr (((Int)×(List (List Int)))⊕(List (List Int)))),(Tr.t (decide (((o.length:Nat):Int)<((o.length:Nat):Int))) x (.l (.inr e))).ev=some (.inr e):=λx=>by rw[hq];rfl
   exact key _)
  (v:=((0:Int),d)) ⟨d,rfl,Dn.refl h.bx,λb hb=>by omega⟩
theorem Ud{o:List Int}{D d:List (List Int)}(h:Dn o.length D d){i j:Nat}(hi:i<D.length)(hj:j<D.length):
  ∃r,aKM ((i:Int),(j:Int),o) ((0:Int),d)=some r/\Dn o.length d r/\∀a,a<o.length->∀b,b<o.length->at2 r i a<=at2 D i b+at2 D j b+at2 D j a:=by
 have hn:=h.bx.hn;exact cJ (f:=λv=>(DU ((i:Int),(j:Int),o) v).ev) (n:=o.length)
  (λa v=>∃e,v=((a:Int),e)/\Dn o.length d e/\∀a',a'<a->∀b,b<o.length->at2 e i a'<=at2 D i b+at2 D j b+at2 D j a')
  (λr=>Dn o.length d r/\∀a,a<o.length->∀b,b<o.length->at2 r i a<=at2 D i b+at2 D j b+at2 D j a)
  (λa v ha hv=>by
   obtain⟨e,rfl,h1,h2⟩:=hv;obtain⟨r,e1,h3,h4⟩:=Pl (h.trans h1) hi hj ha;refine⟨(((a+1:Nat):Int),r),?_,_,rfl,h1.trans h3,λa' aa b hb=>?_⟩;·simp(disch:=omega)only[EV,DU,ha,e1];rfl
   ·by_cases e2:a'=a;·subst e2;exact h4 b hb
    ·have h5:=h2 a' (by omega) b hb;have h6:=h3.le i a' (by rw[h1.len,h.len];exact hi) (by omega);omega)
  (λv hv=>by obtain⟨e,rfl,h1,h2⟩:=hv;exact⟨_,by simp(disch:=omega)only[EV,DU,xi],h1,h2⟩)
  (v:=((0:Int),d)) ⟨d,rfl,Dn.refl h.bx,λb hb=>by omega⟩
theorem Ri{o:List Int}{D d:List (List Int)}(h:Dn o.length D d){i:Nat}(hi:i<D.length):
  ∃r,aGU ((i:Int),o) ((0:Int),d)=some r/\Dn o.length d r/\∀j,j<D.length->∀a,a<o.length->∀b,b<o.length->at2 r i a<=at2 D i b+at2 D j b+at2 D j a:=by
 have hm:=h.bx.hm;have hl:=h.len;exact cJ (f:=λv=>(BX ((i:Int),o) v).ev) (n:=D.length)
  (λj v=>∃e,v=((j:Int),e)/\Dn o.length d e/\∀j',j'<j->∀a,a<o.length->∀b,b<o.length->at2 e i a<=at2 D i b+at2 D j' b+at2 D j' a)
  (λr=>Dn o.length d r/\∀j,j<D.length->∀a,a<o.length->∀b,b<o.length->at2 r i a<=at2 D i b+at2 D j b+at2 D j a)
  (λj v hj hv=>by
   obtain⟨e,rfl,h1,h2⟩:=hv;have aa:j<e.length:=by rw[h1.len,h.len];exact hj
   obtain⟨r,e1,h3,h4⟩:=Ud (h.trans h1) hi hj;refine⟨(((j+1:Nat):Int),r),?_,_,rfl,h1.trans h3,λj' ab a ha b hb=>?_⟩;·simp(disch:=omega)only[EV,BX,aa,e1];rfl
   ·by_cases e2:j'=j;·subst e2;exact h4 a ha b hb
    ·have h5:=h2 j' (by omega) a ha b hb;have h6:=h3.le i a (by rw[h1.len,h.len];exact hi) ha;omega)
  (λv hv=>by
   obtain⟨e,rfl,h1,h2⟩:=hv;have hq:¬D.length<e.length:=by rw[h1.len,h.len];omega
   exact⟨_,by simp(disch:=omega)only[EV,BX,hq],h1,h2⟩)
  (v:=((0:Int),d)) ⟨d,rfl,Dn.refl h.bx,λb hb=>by omega⟩
theorem Ta{o:List Int}{D:List (List Int)}(hb:Bxd o.length D):
  ∃r,aLT o ((0:Int),D)=some r/\Dn o.length D r/\∀i,i<D.length->∀j,j<D.length->∀a,a<o.length->∀b,b<o.length->at2 r i a<=at2 D i b+at2 D j b+at2 D j a:=by
 have hm:=hb.hm;exact cJ (f:=λv=>(AL o v).ev) (n:=D.length)
  (λi v=>∃e,v=((i:Int),e)/\Dn o.length D e/\∀i',i'<i->∀j,j<D.length->∀a,a<o.length->∀b,b<o.length->at2 e i' a<=at2 D i' b+at2 D j b+at2 D j a)
  (λr=>Dn o.length D r/\∀i,i<D.length->∀j,j<D.length->∀a,a<o.length->∀b,b<o.length->at2 r i a<=at2 D i b+at2 D j b+at2 D j a)
  (λi v hi hv=>by
   obtain⟨e,rfl,h1,h2⟩:=hv;have aa:i<e.length:=by rw[h1.len];exact hi
   obtain⟨r,e1,h3,h4⟩:=Ri h1 hi;refine⟨(((i+1:Nat):Int),r),?_,_,rfl,h1.trans h3,λi' ab j hj a ha b hb=>?_⟩;·simp(disch:=omega)only[EV,AL,aa,e1];rfl
   ·by_cases e2:i'=i;·subst e2;exact h4 j hj a ha b hb
    ·have h5:=h2 i' (by omega) j hj a ha b hb;have h6:=h3.le i' a (by rw[h1.len];omega) ha;omega)
  (λv hv=>by
   obtain⟨e,rfl,h1,h2⟩:=hv;have hq:¬D.length<e.length:=by rw[h1.len];omega
   exact⟨_,by simp(disch:=omega)only[EV,AL,hq],h1,h2⟩)
  (v:=((0:Int),D)) ⟨D,rfl,Dn.refl hb,λb hb=>by omega⟩
theorem Ki:∀(a b:List Nat),a.length=b.length->(∀i,i<a.length->a.getD i 0<=b.getD i 0)->a.sum<=b.sum/\∀i,i<a.length->a.getD i 0<b.getD i 0->a.sum<b.sum
 | [],[],_,_=>⟨xm _,λi hi=>absurd hi (xex i)⟩
 | [],y::b,h,_=>by simp at h
 |x::a,[],h,_=>by simp at h
 |x::a,y::b,h,hle=>by
  have hl:a.length=b.length:=by simpa using h
  obtain⟨h1,h2⟩:=Ki a b hl λi hi=>by simpa using hle (i+1) (by simpa using hi)
  have h0:x<=y:=by simpa using hle 0 (by simp)
  simp only[List.sum_cons];refine⟨by omega,λi hi aa=>?_⟩;cases i with
  |zero=>
   have:x<y:=by simpa using aa
   omega
  |succ i=>have:=h2 i (by simpa using hi) (by simpa using aa);omega
theorem L7{α β:Type}(g:α->β)(l:List α)(d:α)(i:Nat):(l.map g).getD i (g d)=g (l.getD i d):=by simp only[xd,oC];cases l[i]? <;>rfl
def hZ(r:List Int):Nat:=(r.map Int.toNat).sum
def CG(d:List (List Int)):Nat:=(d.map hZ).sum
theorem Te{a b:List Int}(hl:a.length=b.length)(h:∀i,i<a.length->a.getD i 0<=b.getD i 0):hZ a<=hZ b/\∀i,i<a.length->0<=a.getD i 0->a.getD i 0<b.getD i 0->hZ a<hZ b:=by
 have g:∀(l:List Int) i,(l.map Int.toNat).getD i 0=(l.getD i 0).toNat:=λl i=>L7 Int.toNat l 0 i;obtain⟨h1,h2⟩:=Ki (a.map Int.toNat) (b.map Int.toNat) (by simpa using hl) λi hi=>by rw[g,g];have:=h i (by simpa using hi);omega
 refine⟨h1,λi hi h0 aa=>h2 i (by simpa using hi) ?_⟩;rw[g,g];omega
theorem NT{n:Nat}{D d:List (List Int)}(hD:Bxd n D)(h:Dn n D d){i a:Nat}(hi:i<D.length)(ha:a<n)(ad:at2 d i a<at2 D i a):CG d<CG D:=by
 have g:∀(l:List (List Int)) i,(l.map hZ).getD i 0=hZ (l.getD i []):=λl i=>L7 hZ l [] i;have hr:∀j,j<d.length->hZ (d.getD j [])<=hZ (D.getD j [])/\∀i,i<(d.getD j []).length->0<=(d.getD j []).getD i 0->(d.getD j []).getD i 0<(D.getD j []).getD i 0->hZ (d.getD j [])<hZ (D.getD j []):=λj hj=>by
  have ab:j<D.length:=by rw[<-h.len];exact hj
  refine Te (by rw[h.bx.len hj,hD.len ab]) λx hx=>h.le j x ab (by rw[h.bx.len hj]at hx;exact hx)
 obtain⟨_,h2⟩:=Ki (d.map hZ) (D.map hZ) (by simpa using h.len) λj hj=>by rw[g,g];exact(hr j (by simpa using hj)).1
 have aa:i<d.length:=by rw[h.len];exact hi
 refine h2 i (by simpa using aa) ?_;rw[g,g];exact(hr i aa).2 a (by rw[h.bx.len aa];exact ha) (h.bx.at aa ha).1 ad
theorem Qk{o:List Int}:∀(m:Nat) {d:List (List Int)},CG d=m->Bxd o.length d->∃r,OS o d=some r/\Bxd o.length r/\r.length=d.length:=by
 intro m;induction m using Nat.strongRecOn with
 |_ m ih=>
  intro d hm hb;obtain⟨b,e1,h1⟩:=Rk hb;cases b with
  |true=>exact⟨d,by unfold OS;rw[aF];simp(disch:=omega)only[EV,OG,e1],hb,rfl⟩
  |false=>obtain⟨i,j,a,b,hi,hj,ha,aa,ab⟩:=h1 rfl;obtain⟨r,e2,h2,h3⟩:=Ta hb;have h4:=h3 i hi j hj a ha b aa;have h5:=NT hb h2 hi ha (by omega);obtain⟨s,e3,h6,h7⟩:=ih (CG r) (by omega) rfl h2.bx;refine⟨s,?_,h6,by rw[h7,h2.len]⟩;unfold OS at e3⊢;rw[aF];simp(disch:=omega)only[EV,OG,e1,e2];exact e3
theorem Zr{o:List Int}{d:List (List Int)}(hb:Bxd o.length d):∃r,aEF o d=some (o,r)/\Bxd o.length r:=by obtain⟨r,e1,h1,_⟩:=Qk (CG d) rfl hb;unfold aEF WY;simp(disch:=omega)only[EV,AK hb,e1];exact⟨r,rfl,h1⟩
structure DrF(o:List Int)(d:List (List Int)):Prop where
 lo:o.length<=8
 lm:d.length<=8
 row:∀r∈d,r.length<=8
theorem DrF.o1{o:List Int}{d:List (List Int)}(h:DrF o d):aI o:=by have:=h.lo;unfold aI;omega
theorem DrF.d2{o:List Int}{d:List (List Int)}(h:DrF o d):dL d:=⟨by have:=h.lm;omega,λr hr=>by have:=h.row r hr;unfold aI;omega⟩
theorem Bxd.drf{o:List Int}{d:List (List Int)}(h:Bxd o.length d):DrF o d:=⟨by have:=h.hn;omega,by have:=h.hm;omega,λr hr=>by have:=(h.row r hr).1;have:=h.hn;omega⟩
theorem Hg{o:List Int}{d:List (List Int)}(hb:Bxd o.length d)(l:List Int)(i c:Int):∃r,aJQ (l,i,c,o,([]:List (List (Int)))) d=some r/\r.length<=8/\∀x∈r,x.length<=8:=by
 have hn:=hb.hn;have hm:=hb.hm;exact cJ (f:=λv=>(Wv (l,i,c,o,([]:List (List (Int)))) v).ev) (n:=8-d.length)
  (λa v=>v.length=d.length+a/\∀r∈v,r.length<=8) (λr=>r.length<=8/\∀x∈r,x.length<=8)
  (λa v ha hv=>by
   obtain⟨l1,l2⟩:=hv;have r1:=mG v (by omega);have hp:((v.length:Nat):Int)<8:=by omega
   refine⟨v++ [o],?_,by simp[l1];omega,λr aa=>?_⟩;·simp(disch:=omega)only[EV,Wv,hp,i9 (l:=o) (by omega),r1,fA]
   ·rcases xq.1 aa with h|h;·exact l2 r h
    ·rw[xo.1 h];omega)
  (λv hv=>by
   obtain⟨l1,l2⟩:=hv;have hp:¬((v.length:Nat):Int)<8:=by omega
   exact⟨v,by simp(disch:=omega)only[EV,Wv,hp],by omega,l2⟩)
  ⟨rfl,λr hr=>by have:=(hb.row r hr).1;omega⟩
theorem tE{B:Int}{l:List Int}{i:Int}{o:List Int}{d:List (List Int)}(ho:1<=o.length)(hb:Bxd o.length d)(c:Int)(h:CK B l i)(hB:B<=800000):
  ∃o' d' i' c',aFt l i c o d=some (o',d',l,i',c')/\DrF o' d'/\CK (B+10) l i':=by
 have hn:=hb.hn;have hm:=hb.hm;have hD:=hb.drf;have h0:(((o.length:Nat):Int)==(0:Int))=false:=by rw[qg];omega
 obtain⟨x1,i1,c1,e1,aa,ab,h1⟩:=dN (o.length:Int) c h (by omega) (by omega);obtain⟨a,rfl⟩:∃a:Nat,x1=(a:Int):=⟨x1.toNat,by omega⟩
 have ha:a<o.length:=by omega
 obtain⟨x2,i2,c2,e2,_,_,h2⟩:=dN 60 c1 h1 (by omega) (by omega);unfold aFt aFX;simp(disch:=omega)only[EV,h0,e1,e2];cases k0:(x2==(0:Int))with
 |true=>obtain⟨x3,i3,c3,e3,_,h3⟩:=gS ([(-1:Int),(99:Int),(100:Int),(4611686018427387904:Int)]:List (Int)) c2 h2 (by omega) (by decide);simp(disch:=omega)only[EV,e3,ha];exact⟨_,_,_,_,rfl,⟨by simpa using hD.lo,hD.lm,hD.row⟩,h3.mono (by omega)⟩
 |false=>
  cases k1:(x2==(1:Int))with
  |true=>
   by_cases hd:0<d.length
   ·obtain⟨x3,i3,c3,e3,_,h3⟩:=gS ([(-1:Int),(99:Int),(100:Int),(-9223372036854775808:Int)]:List (Int)) c2 h2 (by omega) (by decide);have z:Int.toNat 0=0:=rfl;have hl:=hb.len hd;simp(disch:=omega)only[EV,e3,show(0:Int)<((d.length:Nat):Int) by omega,show aC (0:Int) d.length=true from bK (by omega) (by omega),z,hd,hl,ha];refine⟨_,_,_,_,rfl,⟨hD.lo,by simpa using hD.lm,λr hr=>?_⟩,h3.mono (by omega)⟩;rcases xct hr with h|rfl;·exact hD.row r h
    ·rw[E2,hl];omega
   ·simp(disch:=omega)only[EV,show¬(0:Int)<((d.length:Nat):Int) by omega];exact⟨_,_,_,_,rfl,hD,h2.mono (by omega)⟩
  |false=>
   cases k2:(x2==(2:Int))with
   |true=>have r1:=oF o 1 (by omega);simp(disch:=omega)only[EV,r1];exact⟨_,_,_,_,rfl,⟨by simp;omega,hD.lm,hD.row⟩,h2.mono (by omega)⟩
   |false=>
    cases k3:(x2==(3:Int))with
    |true=>obtain⟨r,e3,h3,h4⟩:=Hg hb l i2 c2;simp(disch:=omega)only[EV,e3];exact⟨_,_,_,_,rfl,⟨hD.lo,h3,h4⟩,h2.mono (by omega)⟩
    |false=>
     cases k4:(x2==(4:Int))with
     |true=>simp(disch:=omega)only[EV];exact⟨_,_,_,_,rfl,⟨by simp,by simp,λr hr=>by cases hr⟩,h2.mono (by omega)⟩
     |false=>simp(disch:=omega)only[EV];exact⟨_,_,_,_,rfl,hD,h2.mono (by omega)⟩
theorem W9{B:Int}{l:List Int}{i:Int}{M:Nat}(hM:1<=M/\M<=7)(c:Int)(h:CK B l i)(hB:B<=500000):
  ∃o d i' c',MJ (M:Int) l i c=some (o,d,l,i',c')/\DrF o d/\CK (B+200) l i':=by
 obtain⟨x,i1,c1,e1,_,_,h1⟩:=dN 3 c h (by omega) (by omega);unfold MJ aFc;simp(disch:=omega)only[EV,e1];cases k0:(x==(0:Int))with
 |true=>obtain⟨o,d,i2,c2,e2,⟨ho,hb⟩,h2⟩:=qB hM c1 h1 (by omega);obtain⟨o',d',i3,c3,e3,hD,h3⟩:=tE ho hb c2 h2 (by omega);simp(disch:=omega)only[EV,e2,e3];exact⟨_,_,_,_,rfl,hD,h3.mono (by omega)⟩
 |false=>
  cases k1:(x==(1:Int))with
  |true=>obtain⟨o,d,i2,c2,e2,⟨ho,hb⟩,h2⟩:=V9 hM c1 h1 (by omega);obtain⟨o',d',i3,c3,e3,hD,h3⟩:=tE ho hb c2 h2 (by omega);simp(disch:=omega)only[EV,e2,e3];exact⟨_,_,_,_,rfl,hD,h3.mono (by omega)⟩
  |false=>obtain⟨o,d,i2,c2,e2,⟨ho,hb⟩,h2⟩:=qB hM c1 h1 (by omega);obtain⟨r,e4,aa⟩:=Zr hb;obtain⟨o',d',i3,c3,e3,hD,h3⟩:=tE ho aa c2 h2 (by omega);simp(disch:=omega)only[EV,e2,e4,e3];exact⟨_,_,_,_,rfl,hD,h3.mono (by omega)⟩
def Dw{R:Type}(Q:R->Prop)(t:Tr R):Prop:=∃r,t.ev=some r/\Q r
theorem Dw.l{R:Type}{Q:R->Prop}{r:R}(h:Q r):Dw Q (.l r):=⟨r,rfl,h⟩
theorem Dw.t{R:Type}{Q:R->Prop}{b:Bool}{x y:Tr R}(h1:b=true->Dw Q x)(h2:b=false->Dw Q y):Dw Q (.t b x y):=by
 cases b;·exact h2 rfl
 ·exact h1 rfl
theorem Dw.g{R:Type}{Q:R->Prop}{b:Bool}{x:Tr R}(h1:b=true)(h2:Dw Q x):Dw Q (.g b x):=by subst h1;exact h2
theorem Dw.c{R S:Type}{Q:R->Prop}{x:Option S}{k:S->Tr R}{r:S}(h1:x=some r)(h2:Dw Q (k r)):Dw Q (.c S x k):=by obtain⟨y,e,h⟩:=h2;exact⟨y,by rw[qo,h1];exact e,h⟩
theorem Dw.pick{R:Type}{Q:R->Prop}{B n:Int}{l:List Int}{i c:Int}{k:(Int)×(List (Int))×(Int)×(Int)->Tr R}(hc:CK B l i)(hB:B<=900000)(hn:1<=n)(h:∀x i' c',0<=x->x<n->CK (B+2) l i'->Dw Q (k (x,l,i',c'))):Dw Q (.c _ (eG n l i c) k):=by obtain⟨x,i',c',e,x0,x1,h1⟩:=dN n c hc (by omega) hn;exact Dw.c e (h _ _ _ x0 x1 h1)
theorem Dw.among{R:Type}{Q:R->Prop}{B:Int}{L:List Int}{l:List Int}{i c:Int}{k:(Int)×(List (Int))×(Int)×(Int)->Tr R}(hc:CK B l i)(hB:B<=900000)(hn:1<=L.length)(h:∀x i' c',CK (B+2) l i'->Dw Q (k (x,l,i',c'))):Dw Q (.c _ (mH L l i c) k):=by obtain⟨x,i',c',e,_,h1⟩:=gS L c hc (by omega) hn;exact Dw.c e (h _ _ _ h1)
theorem Dw.one{R:Type}{Q:R->Prop}{B n:Int}{l:List Int}{i c:Int}{k:(Bool)×(List (Int))×(Int)×(Int)->Tr R}(hc:CK B l i)(hB:B<=900000)(hn:1<=n)(h:∀x i' c',CK (B+2) l i'->Dw Q (k (x,l,i',c'))):Dw Q (.c _ (Pu n l i c) k):=by obtain⟨x,i',c',e,h1⟩:=Yb n c hc (by omega) hn;exact Dw.c e (h _ _ _ h1)
theorem Dw.bits{R:Type}{Q:R->Prop}{n:Nat}{x:Int}{k:List (Int)->Tr R}(hn:n<=1000)(h:∀s,s.length<=n->Dw Q (k s)):Dw Q (.c _ (Z7 (n:Int) x) k):=by obtain⟨s,e,hs⟩:=Pf hn x;exact Dw.c e (h s hs)
theorem Kj{B:Int}{l:List Int}{i:Int}(n:Nat)(c:Int)(h:CK B l i)(hB:B<=900000):
  ∃i' c' o,aHV (n:Int) ((0:Int),l,i,c,([]:List Int))=some (l,i',c',o)/\o.length<=7/\CK (B+14) l i':=by
 obtain⟨r,h1,i',c',o,rfl,h2⟩:=cJ (f:=λv=>(Vo (n:Int) v).ev) (n:=min n 7)
  (λa v=>∃i c o,v=((a:Int),l,i,c,o)/\o.length=a/\CK (B+2*a) l i)
  (λr=>∃i c o,r=(l,i,c,o)/\o.length<=7/\CK (B+14) l i)
  (λa v ha hv=>by
   obtain⟨i,c,o,rfl,l1,hc⟩:=hv;obtain⟨x,i1,c1,e1,_,_,h1⟩:=dN 20 c hc (by omega) (by omega);have r1:=oF o x (by omega);have aa:a<n:=by omega
   have ab:(a:Int)<7:=by omega
   refine⟨(((a+1:Nat):Int),l,i1,c1,o++ [x]),?_,i1,c1,_,rfl,by simp[l1],h1.mono (by omega)⟩;simp(disch:=omega)only[EV,Vo,aa,ab,e1,r1];rfl)
  (λv hv=>by
   obtain⟨i,c,o,rfl,l1,hc⟩:=hv;refine⟨(l,i,c,o),?_,i,c,o,rfl,by omega,hc.mono (by omega)⟩;by_cases hn:7<n
   ·have ab:¬((min n 7:Nat):Int)<7:=by omega
    have aa:min n 7<n:=by omega
    simp(disch:=omega)only[EV,Vo,aa,ab]
   ·have aa:¬min n 7<n:=by omega
    simp(disch:=omega)only[EV,Vo,aa])
  (v:=((0:Int),l,i,c,([]:List Int))) ⟨i,c,[],rfl,rfl,h.mono (by omega)⟩
 exact⟨i',c',o,h1,h2⟩
theorem Uw{B:Int}{l:List Int}{i:Int}(n:Nat)(c:Int)(h:CK B l i)(hB:B<=800000):
  ∃L i' c',BL (n:Int) l i c=some (L,l,i',c')/\L.length<=8/\CK (B+18) l i':=by
 obtain⟨i1,c1,o,e1,ho,h1⟩:=Kj n c h (by omega);obtain⟨b,i2,c2,e2,h2⟩:=Yb 12 c1 h1 (by omega) (by omega);unfold BL aFD;cases b with
 |false=>simp(disch:=omega)only[EV,e1,e2];exact⟨_,_,_,rfl,by omega,h2.mono (by omega)⟩
 |true=>obtain⟨x,i3,c3,e3,_,h3⟩:=gS [(0:Int),(-1:Int),(100:Int)] c2 h2 (by omega) (by decide);have r1:=oF o x (by omega);simp(disch:=omega)only[EV,e1,e2,e3,r1];exact⟨_,_,_,rfl,by simp;omega,h3.mono (by omega)⟩
theorem Dw.list12{R:Type}{Q:R->Prop}{B:Int}{n:Nat}{l:List Int}{i c:Int}{k:(List (Int))×(List (Int))×(Int)×(Int)->Tr R}(hc:CK B l i)(hB:B<=800000)(h:∀L i' c',L.length<=8->CK (B+18) l i'->Dw Q (k (L,l,i',c'))):Dw Q (.c _ (BL (n:Int) l i c) k):=by obtain⟨L,i',c',e,hL,h1⟩:=Uw n c hc hB;exact Dw.c e (h _ _ _ hL h1)
theorem Tc{B:Int}{l:List Int}{i:Int}(o:List Int)(ds:List (List Int))(c:Int)(aa:CK B l i)(hB:B<=700000):
  Dw (λr=>r.2.2.2.2.1.length<=9/\r.2.2.2.2.2.1=l/\CK (B+40) l r.2.2.2.2.2.2.1) (LW o ds l i c):=by
 unfold LW;refine Dw.pick aa (by omega) (by omega) λx i1 c1 x0 x1 h1=>?_;refine Dw.c (nZ _ _) (Dw.c (kD _ _) (Dw.c (nZ _ _) (Dw.c (kD _ _) ?_)));generalize hS:max (1:Int) (min ((o.length:Nat):Int) 7)=S;generalize hT:max (1:Int) (min ((ds.length:Nat):Int) 7)=T;have ab:1<=S:=by omega
 have ad:1<=T:=by omega
 dsimp only
 repeat' first
  |refine Dw.l ⟨?_,rfl,?_⟩
  |refine Dw.g (qc (by simp only[xk,xz];omega)) ?_
  |refine Dw.t (λ_=>?_) (λ_=>?_)
  |(apply Dw.pick<;>first|assumption|omega|(intros;try dsimp only))
  |(apply Dw.among<;>first|assumption|omega|decide|(intros;try dsimp only))
  |(apply Dw.list12<;>first|assumption|omega|(intros;try dsimp only))
  |(show CK _ _ _;refine CK.mono (by assumption) (by omega))
  |(simp only[xj,xk,xz];omega)
  |omega
structure DrA(o:List Int)(ds:List (List Int))(s:List Int):Prop where
 fld:DrF o ds
 set:s.length<=9
theorem DrA.low{o s:List Int}{ds:List (List Int)}(h:DrA o ds s):aI o/\dL ds/\aI s:=⟨h.fld.o1,h.fld.d2,by have:=h.set;unfold aI;omega⟩
theorem Atl.drA{o s:List Int}{ds:List (List Int)}{n:Int}(h:Atl o ds s n):DrA o ds s:=by have h1:=h.fld.len;have h2:=h.fld.clients;have h3:=rJ h.fld;have h4:=h.set.len;exact⟨⟨by omega,by omega,λr hr=>by have:=h3 r hr;omega⟩,by omega⟩
theorem MO{l:List Int}:∀(m:Nat) {B i c n:Int} {o s:List Int} {ds:List (List Int)},CK B l i->B+50*m<=600000->DrA o ds s->
  ∃i' c' o' aa n' s',Hb 0 ((m:Int),l,i,c,o,ds,n,s)=some (l,i',c',o',aa,n',s')/\DrA o' aa s'/\CK (B+50*m) l i':=by
 intro m;induction m with
 |zero=>intro B i c n o s ds hc hB hA;refine⟨i,c,o,ds,n,s,?_,hA,hc.mono (by omega)⟩;unfold Hb;rw[aF];rfl
 |succ m ih=>
  intro B i c n o s ds hc hB hA;obtain⟨q1,q2,q3⟩:=hA.low;have e1:=eN q1 q2 q3 n;have ab:(0:Int)<((m+1:Nat):Int):=by omega
  have aj:=hc.2.2;have hw:IntKind.wrap .i64 (((m+1:Nat):Int) -1)=(m:Int):=by rw[aL (by omega) (by omega)];omega
  cases hb:bV o ds s n with
  |false=>refine⟨i,c,o,ds,n,s,?_,hA,hc.mono (by omega)⟩;unfold Hb;rw[aF];unfold Hr;dsimp only;rw[qp,qc ab,qa,qo,e1,hb,xc,qp,qb,qt]
  |true=>
   have ai:=atl_iff.1 hb;obtain⟨⟨kd,a,b,d,L,l',i1,c1⟩,e2,h1,h2,h3⟩:=Tc o ds c hc (by omega);simp only at h1 h2 h3;subst h2;have af:aGZ o ds l' i c=some (kd,a,b,d,L,l',i1,c1):=e2;have e3:=ID ai kd a b d (l:=L) (by unfold aI;omega);cases ad:wE o ds s n kd a b d L with
   |none=>
    rw[ad]at e3;obtain⟨i',c',o',aa,n',s',e4,h4,h5⟩:=ih (c:=c1) (n:=n) h3 (by omega) hA;refine⟨i',c',o',aa,n',s',?_,h4,h5.mono (by omega)⟩;unfold Hb at e4⊢;rw[aF];have ae:(Hr 0 (((m+1:Nat):Int),l',i,c,o,ds,n,s)).ev=some (.inl ((m:Int),l',i1,c1,o,ds,n,s)):=by unfold Hr;dsimp only;rw[qp,qc ab,qa,qo,e1,hb,xc,qp,qa,qo,af,xc,qo];dsimp only;rw[e3,xc,qp,hw];rfl
    rw[ae];exact e4
   |some y=>
    rw[ad]at e3;have ah:=Ed ad;obtain⟨i',c',o',aa,n',s',e4,h4,h5⟩:=ih (c:=c1) (n:=y.1) h3 (by omega) ah.drA;refine⟨i',c',o',aa,n',s',?_,h4,h5.mono (by omega)⟩;unfold Hb at e4⊢;rw[aF];have ae:(Hr 0 (((m+1:Nat):Int),l',i,c,o,ds,n,s)).ev=some (.inl ((m:Int),l',i1,c1,y.2.1,y.2.2.1,y.1,y.2.2.2)):=by unfold Hr;dsimp only;rw[qp,qc ab,qa,qo,e1,hb,xc,qp,qa,qo,af,xc,qo];dsimp only;rw[e3,xc,qp,hw];rfl
    rw[ae];exact e4
theorem Dw.atl0{R:Type}{Q:R->Prop}{B x i c n:Int}{l o s:List Int}{ds:List (List Int)}{k:(List (Int))×(Int)×(Int)×(List (Int))×(List (List (Int)))×(Int)×(List (Int))->Tr R}(hc:CK B l i)(hB:B<=500000)(ab:0<=x)(ad:x<4)(hA:DrA o ds s)
  (h:∀i' c' o' aa n' s',DrA o' aa s'->CK (B+200) l i'->Dw Q (k (l,i',c',o',aa,n',s'))):Dw Q (.c _ (Hb 0 (x,l,i,c,o,ds,n,s)) k):=by
 obtain⟨m,rfl⟩:∃m:Nat,x=(m:Int):=⟨x.toNat,by omega⟩
 obtain⟨i',c',o',aa,n',s',e,h1,h2⟩:=MO m (c:=c) (n:=n) hc (by omega) hA;exact Dw.c e (h _ _ _ _ _ _ h1 (h2.mono (by omega)))
structure DrA'(o:List Int)(ds:List (List Int))(s:List Int):Prop where
 fld:DrF o ds
 set:s.length<=10
theorem DrA'.low{o s:List Int}{ds:List (List Int)}(h:DrA' o ds s):aI o/\dL ds/\aI s:=⟨h.fld.o1,h.fld.d2,by have:=h.set;unfold aI;omega⟩
theorem Bo{B:Int}{l:List Int}{i:Int}(c:Int)(aa:CK B l i)(hB:B<=100000):
  Dw (λr=>DrA' r.1 r.2.1 r.2.2.2.1/\r.2.2.2.2.1=l/\CK (B+600) l r.2.2.2.2.2.1) (MF l i c):=by
 obtain⟨o,ds,i1,c1,e1,hD,h1⟩:=W9 (M:=6) (by omega) c aa (by omega);have ab:MJ (6:Int) l i c=some (o,ds,l,i1,c1):=e1;have e2:=eZ hD.o1 hD.d2;have ho:=hD.lo;unfold MF;refine Dw.c ab (Dw.c e2 ?_);have ad:DrA o ds []:=⟨hD,by simp⟩
 have hp:1<=IntKind.wrap .i64 ((1:Int)*2^(min (Int.toNat ((o.length:Nat):Int)) (IntKind.bits .i64))):=by
  have:∀k:Nat,k<=8->1<=IntKind.wrap .i64 ((1:Int)*2^(min (Int.toNat ((k:Nat):Int)) (IntKind.bits .i64))):=by decide
  exact this _ ho
 dsimp only
 repeat' first
  |refine Dw.l ⟨⟨?_,?_⟩,rfl,?_⟩
  |(refine Dw.g (qc ?_) ?_)
  |refine Dw.t (λ_=>?_) (λ_=>?_)
  |(apply Dw.pick<;>first|assumption|omega|(intros;try dsimp only))
  |(apply Dw.one<;>first|assumption|omega|(intros;try dsimp only))
  |(apply Dw.among<;>first|assumption|omega|decide|(intros;try dsimp only))
  |(apply Dw.atl0<;>first|assumption|omega|(intros;try dsimp only))
  |(apply Dw.bits<;>first|omega|(intros;try dsimp only))
  |exact DrA.mk (by assumption) (by omega)
  |(show CK _ _ _;refine CK.mono (by assumption) (by omega))
  |(exact DrA.fld (by assumption))
  |(simp only[xj,xk,xz];have:=DrA.set (by assumption);omega)
  |omega
theorem Dw.of{R:Type}{Q:R->Prop}{B:Int}{L:List (List UInt8)}{l:List Int}{i c:Int}{k:(List UInt8)×(List (Int))×(Int)×(Int)->Tr R}(P:List UInt8->Prop)(hc:CK B l i)(hB:B<=900000)(hn:1<=L.length)(hP:∀x∈L,P x)(h:∀x i' c',P x->CK (B+2) l i'->Dw Q (k (x,l,i',c'))):Dw Q (.c _ (JP L l i c) k):=by obtain⟨x,i',c',e,hx,h1⟩:=aHy L c hc (by omega) hn;exact Dw.c e (h _ _ _ (hP x hx) h1)
theorem Dw.num{R:Type}{Q:R->Prop}{x:Int}{k:List UInt8->Tr R}(h0:0<=x)(h1:x<10000000)(h:∀t:List UInt8,t.length<=7->Dw Q (k t)):Dw Q (.c _ (eU 1000000 x) k):=
 Dw.c (pV h0 h1) (h _ (fV (by omega)))
theorem Dw.spoilt{R:Type}{Q:R->Prop}{B:Int}{s W:List UInt8}{l:List Int}{i c:Int}{k:(List UInt8)×(List (Int))×(Int)×(Int)->Tr R}(hc:CK B l i)(hB:B<=900000)(hs:s.length<=20000)(hW:1<=W.length)(aa:W.length<=100)(h:∀t i' c',t.length<=s.length+5->CK (B+6) l i'->Dw Q (k (t,l,i',c'))):Dw Q (.c _ (MR s W l i c) k):=by obtain⟨t,i',c',e,ht,h1⟩:=Or s W c hc hB hs hW aa;exact Dw.c e (h _ _ _ ht h1)
theorem rG{B:Int}{l:List Int}{i:Int}(c:Int)(aa:CK B l i)(hB:B<=800000):
  Dw (λr=>r.1.length<=60/\r.2.1=l/\CK (B+20) l r.2.2.1) (JT l i c):=by
 unfold JT;refine Dw.pick aa (by omega) (by omega) λx i1 c1 x0 x1 h1=>Dw.num x0 (by simp only;omega) λt1 n1=>?_;refine Dw.pick h1 (by omega) (by omega) λy i2 c2 y0 y1 h2=>Dw.num y0 (by simp only;omega) λt2 n2=>?_;obtain⟨z,i3,c3,e3,hz,h3⟩:=gS ([(0:Int),(3:Int),(9:Int),(20:Int),(99:Int),(100:Int)]:List (Int)) c2 h2 (by omega) (by decide);have ab:0<=z/\z<=100:=(show∀z∈([(0:Int),(3:Int),(9:Int),(20:Int),(99:Int),(100:Int)]:List (Int)),0<=z/\z<=100 by decide) z hz;refine Dw.c e3 (Dw.num ab.1 (by simp only;omega) λt3 n3=>?_);dsimp only
 repeat refine Dw.g (qc (by simp only[xj,xk,xz];omega)) ?_
 refine Dw.of (λt=>t.length<=50) h3 (by omega) (by simp only[xk];omega) (by
  simp only[xfs,xj,xk,xz]
  repeat refine⟨by omega,?_⟩
  exact λx hx=>by cases hx) λt i4 c4 ht h4=>?_
 refine Dw.one h4 (by omega) (by omega) λq i5 c5 h5=>Dw.t (λ_=>?_) (λ_=>?_);·exact Dw.spoilt h5 (by omega) (by simp only;omega) (by decide) (by decide) λu i6 c6 hu h6=>Dw.l ⟨by simp only at hu⊢;omega,rfl,h6.mono (by omega)⟩
 ·exact Dw.l ⟨by simp only;omega,rfl,h5.mono (by omega)⟩
theorem Dw.line12{R:Type}{Q:R->Prop}{B:Int}{l:List Int}{i c:Int}{k:(List UInt8)×(List (Int))×(Int)×(Int)->Tr R}(hc:CK B l i)(hB:B<=800000)(h:∀t i' c',t.length<=60->CK (B+20) l i'->Dw Q (k (t,l,i',c'))):Dw Q (.c _ (El l i c) k):=by obtain⟨⟨t,l',i',c'⟩,e,h1,h2,h3⟩:=rG c hc hB;simp only at h1 h2 h3;subst h2;exact Dw.c e (h _ _ _ h1 h3)
theorem Val.low{a b:List UInt8}{n:Int}{recs:List (List UInt8×List UInt8)}(h:Val a b n recs):a.length<=30000/\b.length<=30000/\aQ a/\aQ b:=by have:=h.len;rw[xj]at this;unfold aQ;omega
theorem aOH:Val [] [] 0 []:=⟨P6 rfl,⟨[],P6 rfl⟩,rfl⟩
theorem KU{l:List Int}(k:(Bool)×(Int)×(List UInt8)×(List UInt8)×(Int)):∀(m:Nat) {B i c n cc:Int} {o s:List Int} {ds:List (List Int)} {d p:List UInt8},CK B l i->B+30*m<=600000->DrA' o ds s->(k.1=true->Atl o ds s n)->(∃recs,Val d p cc recs)->
  ∃i' c' o' ab s' n' d' p' aa,AY k ((m:Int),l,i,c,o,ds,s,n,d,p,cc)=some (l,i',c',o',ab,s',n',d',p',aa)/\DrA' o' ab s'/\(∃recs,Val d' p' aa recs)/\CK (B+30*m) l i':=by
 obtain⟨b,k⟩:=k;intro m;induction m with
 |zero=>intro B i c n cc o s ds d p hc hB hA _ hv;refine⟨i,c,o,ds,s,n,d,p,cc,?_,hA,hv,hc.mono (by omega)⟩;unfold AY;rw[aF];rfl
 |succ m ih=>
  intro B i c n cc o s ds d p hc hB hA ah hv;have ad:(0:Int)<((m+1:Nat):Int):=by omega
  have ao:=hc.2.2;have hw:IntKind.wrap .i64 (((m+1:Nat):Int) -1)=(m:Int):=by rw[aL (by omega) (by omega)];omega
  cases b with
  |false=>refine⟨i,c,o,ds,s,n,d,p,cc,?_,hA,hv,hc.mono (by omega)⟩;unfold AY;rw[aF];unfold CW;dsimp only;rw[qp,qc ad,qa,qp,qb,qt]
  |true=>
   have hx:=ah rfl;obtain⟨⟨t,l',i1,c1⟩,e1,n1,n2,h1⟩:=rG c hc (by omega);simp only at n1 n2 h1;subst n2;have e1:El l' i c=some (t,l',i1,c1):=e1;obtain⟨recs,hv⟩:=hv;obtain⟨q1,q2,q3,q4⟩:=hv.low;obtain⟨o',ab,s',n',d',p',aa,rep,ae,_,_,_,e2,e3⟩:=wY hx q3 q4 (line:=t) (by unfold aQ;omega) cc;have ai:∃recs,Val d' p' aa recs:=by
    rcases e3 recs hv with h|⟨_,h,_⟩
    ·obtain⟨_,_,_,_,rfl,rfl,rfl⟩:o'=o/\ab=ds/\s'=s/\n'=n/\d'=d/\p'=p/\aa=cc:=by simpa using h
     exact⟨recs,hv⟩
    ·exact⟨_,h⟩
   have af:=ae.drA;obtain⟨i',c',o2,aj,s2,n2,d2,p2,ak,e4,h4,h5,h6⟩:=ih (c:=c1) (n:=n') h1 (by omega) ⟨af.fld,by have:=af.set;omega⟩ (λ_=>ae) ai;refine⟨i',c',o2,aj,s2,n2,d2,p2,ak,?_,h4,h5,h6.mono (by omega)⟩;unfold AY at e4⊢;rw[aF];have al:(CW (true,k) (((m+1:Nat):Int),l',i,c,o,ds,s,n,d,p,cc)).ev=some (.inl ((m:Int),l',i1,c1,o',ab,s',n',d',p',aa)):=by unfold CW;dsimp only;rw[qp,qc ad,qa,qp,qa,qo,e1,xc,qo];dsimp only;rw[e2,xc,qt,hw]
   rw[al];exact e4
theorem QC{l:List Int}(k:(Int)×(List UInt8)×(List UInt8)×(Int)×(List (Int))×(List (List (Int)))×(List (Int))×(Int)):∀(m:Nat) {B i c n:Int} {d p:List UInt8} {recs:List (List UInt8×List UInt8)},CK B l i->B+2*m<=600000->Val d p n recs->recs.length+m=61->
  ∃i' c' d' p' n',aDz k (l,i,c,d,p,n)=some (l,i',c',d',p',n')/\(∃recs,Val d' p' n' recs)/\CK (B+2*m) l i':=by
 intro m;induction m with
 |zero=>intro B i c n d p recs _ _ hv hm;have:=hv.len;omega
 |succ m ih=>
  intro B i c n d p recs hc hB hv hm;obtain⟨x,i1,c1,e1,x0,x1,h1⟩:=dN 2 c hc (by omega) (by omega);have hw:IntKind.wrap .i64 (59+x)=59+x:=aL (by omega) (by omega);obtain⟨_,_,q3,q4⟩:=hv.low;unfold aDz;rw[aF];by_cases hn:n<59+x
  ·obtain⟨⟨va,vb,vn,vs⟩,a1,_,a2,_,_,a3⟩:=D3 q3 q4 (c:=[116,111,116,97,108]) (r:=[63]) (by unfold aQ;decide) (by unfold aQ;decide) n;simp only at a2 a3;subst a2;obtain⟨a4,a5⟩:=a3 recs hv (by omega) (by decide);obtain⟨rfl,rfl⟩:=Prod.mk.inj a4;obtain⟨i',c',d',p',n',e4,h4,h5⟩:=ih (c:=c1) h1 (by omega) a5 (by rw[xj,Fy];omega);refine⟨i',c',d',p',n',?_,h4,h5.mono (by omega)⟩;have aa:(Pn k (l,i,c,va,p,n)).ev=some (.inl (l,i1,c1,va,vb,n+1)):=by unfold Pn;dsimp only;rw[qo,e1,xc,qp];dsimp only;rw[hw,qc hn,qa,qo,a1,xc];rfl
   rw[aa];exact e4
  ·refine⟨i1,c1,d,p,n,?_,⟨recs,hv⟩,h1.mono (by omega)⟩;have aa:(Pn k (l,i,c,d,p,n)).ev=some (.inr (l,i1,c1,d,p,n)):=by unfold Pn;dsimp only;rw[qo,e1,xc,qp];dsimp only;rw[hw,qd hn,qb,qt]
   rw[aa]
theorem Qd{o s:List Int}{ds:List (List Int)}(h:DrA' o ds s)(n:Int):∃b o' aa s' n',GZ o ds s n=some (n',[],[],0,b,o',aa,s')/\DrA' o' aa s'/\(b=true->Atl o' aa s' n'/\(o',aa,s',n')=(o,ds,s,n)):=by
 obtain⟨lo,ld,ls⟩:=h.low;rw[lR lo ld ls];cases hA:bV o ds s n with
 |false=>exact⟨false,[],[],[],0,rfl,⟨⟨by decide,by decide,λr hr=>by cases hr⟩,by decide⟩,λh=>by cases h⟩
 |true=>exact⟨true,o,ds,s,n,rfl,h,λ_=>⟨atl_iff.1 hA,rfl⟩⟩
structure DrC(o:List Int)(ds:List (List Int))(s:List Int)(d p:List UInt8):Prop where
 atl:DrA' o ds s
 dl:d.length<=30000
 pl:p.length<=30000
theorem DrC.low{o s:List Int}{ds:List (List Int)}{d p:List UInt8}(h:DrC o ds s d p):aQ d/\aQ p:=by have:=h.dl;have:=h.pl;unfold aQ;omega
theorem tH{B:Int}{l:List Int}{i:Int}(c:Int)(ab:CK B l i)(hB:B<=100000):
  Dw (λr=>DrC r.1 r.2.1 r.2.2.1 r.2.2.2.2.1 r.2.2.2.2.2.1/\r.2.2.2.2.2.2.2.1=l/\CK (B+1100) l r.2.2.2.2.2.2.2.2.1) (NB l i c):=by
 obtain⟨⟨o,ds,n,s,l1,i1,c1⟩,e1,hA,hl,h1⟩:=Bo c ab hB;simp only at hA hl h1;subst hl;obtain⟨b,o2,ai,s2,n2,e2,ad,hb⟩:=Qd hA n;unfold NB;refine Dw.c e1 (Dw.c e2 (Dw.pick h1 (by omega) (by omega) λx i3 c3 x0 x1 h3=>?_));obtain⟨m,rfl⟩:∃m:Nat,x=(m:Int):=⟨x.toNat,by omega⟩
 obtain⟨i4,c4,o4,ae,s4,n4,d4,p4,aj,e4,aa,⟨recs,hv⟩,h4⟩:=KU (b,(0:Int),([]:List UInt8),([]:List UInt8),(0:Int)) m (c:=c3) (n:=n2) h3 (by omega) ad (λh=>(hb h).1) ⟨[],aOH⟩;obtain⟨q1,q2,_,_⟩:=hv.low;refine Dw.c e4 (Dw.pick h4 (by omega) (by omega) λy i5 c5 y0 y1 h5=>?_);refine Dw.t (λ_=>Dw.l ⟨⟨aa,q1,q2⟩,rfl,h5.mono (by omega)⟩) λ_=>Dw.t (λ_=>Dw.l ⟨⟨aa,q1,q2⟩,rfl,h5.mono (by omega)⟩) λ_=>Dw.t (λ_=>Dw.l ⟨⟨aa,V6 _,V6 _⟩,rfl,h5.mono (by omega)⟩) λ_=>Dw.t (λ_=>?_) λ_=>Dw.l ⟨⟨aa,q1,q2⟩,rfl,h5.mono (by omega)⟩;have hr:=hv.len;obtain⟨i6,c6,d6,p6,n6,e6,⟨af,ah⟩,h6⟩:=QC ((0:Int),([]:List UInt8),([]:List UInt8),(0:Int),o4,ae,s4,n4) (61-recs.length) (c:=c5) h5 (by omega) hv (by omega);obtain⟨q5,q6,_,_⟩:=ah.low;exact Dw.c e6 (Dw.l ⟨⟨aa,q5,q6⟩,rfl,h6.mono (by omega)⟩)
theorem KP{l:List Int}(k:(Int)×(List UInt8)×(List UInt8)×(Int)×(List (Int))×(List (List (Int)))×(List (Int))×(Int)×(List UInt8)×(List UInt8)×(Int)):∀(m:Nat) {B i c:Int} {t:List UInt8},CK B l i->B+30*m<=600000->t.length+100*m<=10000->
  ∃r,QF k (t,(m:Int),l,i,c)=some r/\r.length<=10000:=by
 intro m;induction m with
 |zero=>intro B i c t _ _ ht;refine⟨t,?_,by omega⟩;unfold QF;rw[aF];rfl
 |succ m ih=>
  intro B i c t hc hB ht;have aa:(0:Int)<((m+1:Nat):Int):=by omega
  have ad:=hc.2.2;have hw:IntKind.wrap .i64 (((m+1:Nat):Int) -1)=(m:Int):=by rw[aL (by omega) (by omega)];omega
  obtain⟨⟨u,l',i1,c1⟩,e1,n1,n2,h1⟩:=rG c hc (by omega);simp only at n1 n2 h1;subst n2;have e1:El l' i c=some (u,l',i1,c1):=e1;have g1:t.length+List.length ([10]:List UInt8)<=9223372036854775807:=by rw[Fy];omega
  have g2:(t++ [10]).length+u.length<=9223372036854775807:=by rw[xj,Fy];omega
  obtain⟨r,e4,h4⟩:=ih (c:=c1) (t:=(t++ [10])++u) h1 (by omega) (by rw[xj,xj,Fy];omega);refine⟨r,?_,h4⟩;unfold QF at e4⊢;rw[aF];have ab:(KV k (t,((m+1:Nat):Int),l',i,c)).ev=some (.inl (((t++ [10])++u),(m:Int),l',i1,c1)):=by unfold KV;dsimp only;rw[qp,qc aa,qa,qq,qc g1,qa,qo,e1,xc,qq];dsimp only;rw[qc g2,qa,qt,hw]
  rw[ab];exact e4
theorem F4{l:List Int}(h:CK 0 l 0):∃o ds s n d p c t,aHd l=some (o,ds,s,n,d,p,c,t)/\DrC o ds s d p/\t.length<=10000:=by
 obtain⟨⟨o,ds,s,n,d,p,cc,l1,i1,c1⟩,e1,hD,hl,h1⟩:=tH 0 h (by omega);simp only at hD hl h1;subst hl;have key:Dw (λr=>DrC r.1 r.2.1 r.2.2.1 r.2.2.2.2.1 r.2.2.2.2.2.1/\r.2.2.2.2.2.2.2.length<=10000) (NX l1):=by
  unfold NX;refine Dw.c e1 (Dw.line12 h1 (by omega) λt i2 c2 ht h2=>Dw.pick h2 (by omega) (by omega) λx i3 c3 x0 x1 h3=>?_);obtain⟨m,rfl⟩:∃m:Nat,x=(m:Int):=⟨x.toNat,by omega⟩
  have hm:∀m:Nat,m<24->(decide ((0:Int)<=(IntKind.wrap .i64 ((8:Int)+(IntKind.wrap .i64 (Int.tdiv (m:Int) (23:Int))))))&&decide ((IntKind.wrap .i64 ((8:Int)+(IntKind.wrap .i64 (Int.tdiv (m:Int) (23:Int)))))<=((List.length ([(0:Int),(1:Int),(2:Int),(3:Int),(4:Int),(5:Int),(6:Int),(7:Int),(30:Int)]:List (Int)):Nat):Int)))=true/\
    1<=(List.drop 0 (List.take (Int.toNat (IntKind.wrap .i64 ((8:Int)+(IntKind.wrap .i64 (Int.tdiv (m:Int) (23:Int)))))) ([(0:Int),(1:Int),(2:Int),(3:Int),(4:Int),(5:Int),(6:Int),(7:Int),(30:Int)]:List (Int)))).length/\
    ∀y∈(List.drop 0 (List.take (Int.toNat (IntKind.wrap .i64 ((8:Int)+(IntKind.wrap .i64 (Int.tdiv (m:Int) (23:Int)))))) ([(0:Int),(1:Int),(2:Int),(3:Int),(4:Int),(5:Int),(6:Int),(7:Int),(30:Int)]:List (Int)))),0<=y/\y<=30:=by decide
  obtain⟨g1,g2,g3⟩:=hm m (by omega);refine Dw.g rfl (Dw.g g1 ?_);obtain⟨y,i4,c4,e4,hy,h4⟩:=gS _ c3 h3 (by omega) g2;obtain⟨y0,y1⟩:=g3 y hy;obtain⟨q,rfl⟩:∃q:Nat,y=(q:Int):=⟨y.toNat,by omega⟩
  obtain⟨r,e5,h5⟩:=KP ((0:Int),([]:List UInt8),([]:List UInt8),(0:Int),o,ds,s,n,d,p,cc) q (c:=c4) (t:=t) h4 (by omega) (by omega);exact Dw.c e4 (Dw.c e5 (Dw.l ⟨hD,h5⟩))
 obtain⟨⟨o,ds,s,n,d,p,cc,t⟩,e,k1,k2⟩:=key;exact⟨o,ds,s,n,d,p,cc,t,e,k1,k2⟩
def Rs:St7->List (List UInt8)->List (List UInt8)->Prop
 |_,[],q=>q=[]
 |a,l::t,q=>∃r q' c,q=r::q'/\StX a l r c/\Rs c t q'
section
variable {o:List Int}{ds:List (List Int)}{s:List Int}{n:Int}
theorem Aw(lo:aI o)(ld:dL ds)(ls:aI s){d p:List UInt8}(sd:aQ d)(sp:aQ p)(c:Int):∃v,Q2 o ds s n d p c=some v/\pS o ds s n d p c=some v/\(v=true->Atl o ds s n):=by
 obtain⟨v,v1,v2,_⟩:=iF sd sp c;unfold Q2 AZ pS Bz;cases hA:bV o ds s n with
 |false=>
  refine⟨false,?_,?_,λh=>by cases h⟩;·rw[qo,eN lo ld ls,hA,xc,qp,qb,qt]
  ·rw[qo,cC lo ld ls,hA,xc,qp,qb,qt]
 |true=>
  refine⟨v,?_,?_,λ_=>atl_iff.1 hA⟩;·rw[qo,eN lo ld ls,hA,xc,qp,qa,qo,v1,xc,qt]
  ·rw[qo,cC lo ld ls,hA,xc,qp,qa,qo,v2,xc,qt]
theorem Dd{ls:List (List UInt8)}(hl:ls.length<=1000)(hs:∀x∈ls,aQ x):∀(k i:Nat) {o:List Int} {ds:List (List Int)} {s:List Int} {n:Int} {d p:List UInt8} (c:Int) (acc:List (List UInt8)),i+k=ls.length->acc.length=i->Atl o ds s n->aQ d->aQ p->
  ∃r:List (List UInt8),r.length=ls.length/\(∃q,r=acc++q/\Rs (o,ds,s,n,d,p,c) (ls.drop i) q)/\GW ls ((i:Int),o,ds,s,n,d,p,c,acc)=some r/\Xa (((ls.length:Nat):Int),ls) ((i:Int),o,ds,s,n,d,p,c,acc)=some r:=by
 intro k;induction k with
 |zero=>
  intro i o ds s n d p c acc hi ha h sd sp;have hn:¬(i:Int)<((ls.length:Nat):Int):=by omega
  refine⟨acc,by omega,⟨[],by simp,by rw[xfn (by omega)];rfl⟩,?_,?_⟩
  ·have e:(Sg ls ((i:Int),o,ds,s,n,d,p,c,acc)).ev=some (.inr acc):=by unfold Sg;rw[qp,qd hn,qb,qt]
   unfold GW;rw[aF,e]
  ·have e:(Rv (((ls.length:Nat):Int),ls) ((i:Int),o,ds,s,n,d,p,c,acc)).ev=some (.inr acc):=by unfold Rv;rw[qp,qd hn,qb,qt]
   unfold Xa;rw[aF,e]
 |succ k ih=>
  intro i o ds s n d p c acc hi ha h sd sp;have aa:i<ls.length:=by omega
  have sl:aQ (ls.getD i []):=hs _ (aG (d:=([]:List UInt8)) aa);obtain⟨o',ad,s',n',d',p',c',rep,h',af,ah,r1,r2,_⟩:=wY h sd sp sl c;have ae:(i:Int)<((ls.length:Nat):Int):=by omega
  have hg:=dM aa;have hw:IntKind.wrap .i64 ((i:Int)+1)=((i+1:Nat):Int):=by rw[aL (by omega) (by omega)];rfl
  have ab:decide ((acc.length+List.length ([rep]:List (List UInt8)))*16<=140737488355328)=true:=by rw[qf,Fy];omega
  have hd:ls.drop i=ls.getD i []::ls.drop (i+1):=by rw[Nj aa,xd,xf aa];rfl
  obtain⟨r,q0,⟨q,qe,qr⟩,q1,q2⟩:=ih (i+1) c' (acc++ [rep]) (by omega) (by rw[xj,Fy,ha]) h' af ah;refine⟨r,q0,⟨rep::q,by rw[qe,Vt];rfl,by rw[hd];exact⟨rep,q,(o',ad,s',n',d',p',c'),rfl,r1,qr⟩⟩,?_,?_⟩
  ·have e:(Sg ls ((i:Int),o,ds,s,n,d,p,c,acc)).ev=some (.inl (((i+1:Nat):Int),o',ad,s',n',d',p',c',acc++ [rep])):=by unfold Sg;dsimp only;rw[qp,qc ae,qa,qq,hg,qa,qq,xy,qc aa,qa,qo,r2,xc,qq,ab,qa,qt,hw]
   unfold GW;rw[aF,e];exact q1
  ·have e:(Rv (((ls.length:Nat):Int),ls) ((i:Int),o,ds,s,n,d,p,c,acc)).ev=some (.inl (((i+1:Nat):Int),o',ad,s',n',d',p',c',acc++ [rep])):=by unfold Rv;dsimp only;rw[qp,qc ae,qa,qq,hg,qa,qq,xy,qc aa,qa,qo,r1,xc,qq,ab,qa,qt,hw]
   unfold Xa;rw[aF,e];exact q2
theorem Ah(lo:aI o)(ld:dL ds)(ls:aI s){a b:List UInt8}(sa:aQ a)(sb:aQ b)(c:Int){t:List UInt8}(st:aQ t):∃v:Bool×List (List UInt8),v.2.length<=999/\aGs o ds s n a b c t=some v/\aBd o ds s n a b c t=some v/\(v.1=true->Rs (o,ds,s,n,a,b,c) (mN 10 t) v.2/\t.length<=4000/\v.2.length=(mN 10 t).length):=by
 obtain⟨v,v1,v2,v3⟩:=Aw (n:=n) lo ld ls sa sb c;have aa:(t.length:Int)<=1048576:=st;have e1:P3 t [10]=some (mN 10 t):=by unfold P3 sN;rw[qj ⟨by omega,rfl⟩,wU]
 unfold aGs aCh aBd aFE;cases v with
 |false=>
  refine⟨(false,[]),by simp,?_,?_,λh=>by cases h⟩;·rw[qo,v1,xc];rfl
  ·rw[qo,e1,xc,qo,v2,xc];rfl
 |true=>
  by_cases h4:(4000:Int)<((t.length:Nat):Int)
  ·refine⟨(false,[]),by simp,?_,?_,λh=>by cases h⟩;·rw[qo,v1,xc,qp,xl,qb,qp,qc h4,qa,qt]
   ·rw[qo,e1,xc,qo,v2,xc,qp,xl,qb,qp,qc h4,qa,qt]
  ·have e2:=xQ (s:=t) (by omega) 10;rw[show(((10:UInt8).toNat:Nat):Int)=10 from rfl]at e2;by_cases h3:(30:Int)<(((mN 10 t).length:Nat):Int)
   ·refine⟨(false,[]),by simp,?_,?_,λh=>by cases h⟩;·rw[qo,v1,xc,qp,xl,qb,qp,qd h4,qb,qo,e2,xc,qp,qc h3,qa,qt]
    ·rw[qo,e1,xc,qo,v2,xc,qp,xl,qb,qp,qd h4,qb,qp,qc h3,qa,qt]
   ·obtain⟨r,q0,⟨q,qe,qr⟩,q1,q2⟩:=Dd (ls:=mN 10 t) (by omega) (λx hx=>by have:=pX 10 t x hx;unfold aQ;omega) (mN 10 t).length 0 c [] (by omega) rfl (v3 rfl) sa sb;have q1:GW (mN 10 t) ((0:Int),o,ds,s,n,a,b,c,[])=some r:=q1;have q2:Xa ((((mN 10 t).length:Nat):Int),mN 10 t) ((0:Int),o,ds,s,n,a,b,c,[])=some r:=q2;refine⟨(true,r),by rw[q0];omega,?_,?_,λ_=>⟨by rw[qe];exact qr,by omega,q0⟩⟩;·rw[qo,v1,xc,qp,xl,qb,qp,qd h4,qb,qo,e2,xc,qp,qd h3,qb,qo,q1,xc,qt]
    ·rw[qo,e1,xc,qo,v2,xc,qp,xl,qb,qp,qd h4,qb,qp,qd h3,qb,qo,q2,xc,qt]
end

theorem aCD{a b:List Int}(ha:aI a):HE a b=some (a==b):=by
 unfold aI at ha;unfold HE aEJ;by_cases h:a.length=b.length
 ·have hs:=Q9 (f:=λv=>(EJ (a,b) v).ev) (a:=a) (b:=b) 0 h (λi hi=>by
   have aa:i<b.length:=by omega
   simp(disch:=omega)only[EV,EJ,hi,aa];cases hq:(a.getD i 0==b.getD i 0)<;>simp only[bne,hq]<;>rfl) (by simp(disch:=omega)only[EV,EJ,xi])
  simp(disch:=omega)only[EV,u5,h,aKp,hs];cases(a==b)<;>rfl
 ·have:(a==b)=false:=by rw[qg];exact λe=>h (by rw[e])
  simp(disch:=omega)only[EV,u5,h,this]
theorem aNd{a b:List (List Int)}(ha:dL a):aBg a b=some (a==b):=by
 obtain⟨ha,hr⟩:=ha;unfold aBg aBj;by_cases h:a.length=b.length
 ·have hs:=Q9 (f:=λv=>(Zm (a,b) v).ev) (a:=a) (b:=b) [] h (λi hi=>by
   have aa:i<b.length:=by omega
   simp(disch:=omega)only[EV,Zm,hi,aa,aCD (hr _ (aG (d:=[]) hi))];cases(a.getD i []==b.getD i [])<;>rfl) (by simp(disch:=omega)only[EV,Zm,xi])
  simp(disch:=omega)only[EV,u5,h,aJO,hs];cases(a==b)<;>rfl
 ·have:(a==b)=false:=by rw[qg];exact λe=>h (by rw[e])
  simp(disch:=omega)only[EV,u5,h,this]
theorem aRe{o:List Int}{ds:List (List Int)}(ho:aI o)(hd:dL ds):aDh o ds o ds=some true:=by unfold aDh aCA;simp(disch:=omega)only[EV,aCD ho,aNd hd,qk]
theorem aGX{o s:List Int}{ds:List (List Int)}(ho:aI o)(hd:dL ds)(hs:aI s)(n:Int):MS o ds s n o ds s n=some true:=by unfold MS aDT;simp(disch:=omega)only[EV,aRe ho hd,aCD hs,qk]
theorem aRH{a:List (List UInt8)}(ha:a.length<=1000):aGv a a=some true:=by
 have hs:=Q9 (f:=λv=>(ES (a,a) v).ev) (a:=a) (b:=a) [] rfl (λi hi=>by
  have hw:IntKind.wrap .i64 ((i:Int)+1)=((i+1:Nat):Int):=by rw[aL (by omega) (by omega)];rfl
  unfold ES;dsimp only;rw[qp,qc (show(i:Int)<((a.length:Nat):Int) by omega),qa,qq,dM hi,qa,qq,qa,qp,qk,xl,qb,qt,hw,qk,qa]) (by
  unfold ES;dsimp only;rw[qp,qd (DG _),qb,qt])
 have h1:aKN (a,a) 0=_:=hs;rw[qk,qa]at h1;unfold aGv aEZ;rw[qp,ql,qb,qo,h1,xc];rfl
theorem aKG{o s:List Int}{ds:List (List Int)}(lo:aI o)(ld:dL ds)(ls:aI s)(n:Int)(d p:List UInt8)(c:Int):MG o ds s n d p c o ds s n d p c=some true:=by unfold MG aCV;rw[qo,aGX lo ld ls n,xc,qp,qa,qt,qk,qk,qk];rfl
theorem aMg{o s:List Int}{ds:List (List Int)}{d p:List UInt8}(hD:DrC o ds s d p){line:List UInt8}(sl:aQ line)(n c:Int):
  ∃o' aa s' n' d' p' c' rep v,aI o'/\dL aa/\aI s'/\yN o ds s n d p c line=some (o',aa,s',n',d',p',c',rep)/\q8 o ds s n d p c line=some (n',d',p',c',rep,o',aa,s')/\pS o ds s n d p c=some v/\
   (v=true->c'=c+1->∃recs,Val d' p' c' (recs++ [(line,rep)])/\Atl o' aa s' n'/\(rep=[63]->(o',aa,s',n')=(o,ds,s,n))):=by
 obtain⟨lo,ld,ls⟩:=hD.atl.low;obtain⟨sd,sp⟩:=hD.low;obtain⟨u,u1,u2,u3⟩:=iF sd sp c;have e3:=cC lo ld ls n;have e4:=eN lo ld ls n;cases hA:bV o ds s n with
 |false=>
  rw[hA]at e3 e4;have hf:=hD.atl.fld;have h1:=hf.lo;have h2:=hf.lm;have h3:=hD.atl.set;have ow:G9 o ds s n=some (n,o,ds,s):=rC (by omega) (by omega) (λr hr=>by have:=hf.row r hr;omega) (by omega) n;have iv:pS o ds s n d p c=some false:=by unfold pS Bz;rw[qo,e3,xc,qp,qb,qt]
  have sv:Q2 o ds s n d p c=some false:=by unfold Q2 AZ;rw[qo,e4,xc,qp,qb,qt]
  refine⟨o,ds,s,n,d,p,c,[110,111],false,lo,ld,ls,?_,?_,iv,λh=>by cases h⟩;·unfold yN Kr;rw[qo,kH lo ld ls,xc,qo,iv,xc,qp,nL,qa,qt]
  ·unfold q8 Kv;rw[qo,ow,xc,qo,sv,xc,qp,nL,qa,qt]
 |true=>
  rw[hA]at e3;have iv:pS o ds s n d p c=some u:=by unfold pS Bz;rw[qo,e3,xc,qp,qa,qo,u2,xc,qt]
  obtain⟨o',aa,s',n',d',p',c',rep,h',_,_,r1,r2,r3⟩:=wY (atl_iff.1 hA) sd sp sl c;obtain⟨q1,q2⟩:=rN h'.fld;refine⟨o',aa,s',n',d',p',c',rep,u,q1,q2,h'.set.low h'.fld.len,r1,r2,iv,λhu hc=>?_⟩;obtain⟨recs,hv⟩:=u3.1 hu;rcases r3 recs hv with e|⟨_,e1,e2⟩
  ·obtain⟨_,_,_,_,_,_,e⟩:o'=o/\aa=ds/\s'=s/\n'=n/\d'=d/\p'=p/\c'=c:=by simpa using e
   omega
  ·exact⟨recs,e1,h',e2⟩
theorem Dw.tt{R:Type}{Q:R->Prop}{b:Bool}{x y:Tr R}(h2:Dw Q y)(h1:Dw Q y->b=true->Dw Q x):Dw Q (.t b x y):=by
 cases b with
 |true=>exact h1 h2 rfl
 |false=>exact h2
theorem aNt(k:(List (List UInt8))×(List (List UInt8)))(hl:k.1.length<=1000)(he:k.1.length=k.2.length):∀(m i:Nat) {a:St7},i+m=k.2.length->Rs a (k.2.drop i) (k.1.drop i)->
  BT k ((i:Int),a.1,a.2.1,a.2.2.1,a.2.2.2.1,a.2.2.2.2.1,a.2.2.2.2.2.1,a.2.2.2.2.2.2)=some (.inl ()):=by
 intro m;induction m with
 |zero=>
  intro i a hi _;have hn:¬(i:Int)<((k.2.length:Nat):Int):=by omega
  unfold BT;rw[aF];unfold Yt;dsimp only;rw[qp,qd hn,qb,qt]
 |succ m ih=>
  intro i a hi h;have aa:i<k.2.length:=by omega
  have ab:i<k.1.length:=by omega
  have ad:k.2.drop i=k.2.getD i []::k.2.drop (i+1):=by rw[Nj aa,xd,xf aa];rfl
  have ae:k.1.drop i=k.1.getD i []::k.1.drop (i+1):=by rw[Nj ab,xd,xf ab];rfl
  rw[ae,ad]at h;obtain⟨r,q,b,h1,h2,h3⟩:=h;obtain⟨rfl,rfl⟩:=List.cons.inj h1;unfold StX at h2;have af:(i:Int)<((k.2.length:Nat):Int):=by omega
  have hw:IntKind.wrap .i64 ((i:Int)+1)=((i+1:Nat):Int):=by rw[aL (by omega) (by omega)];rfl
  have hq:=ih (i+1) (by omega) h3;unfold BT at hq⊢;rw[aF];have e:(Yt k ((i:Int),a.1,a.2.1,a.2.2.1,a.2.2.2.1,a.2.2.2.2.1,a.2.2.2.2.2.1,a.2.2.2.2.2.2)).ev=some (.inl (((i+1:Nat):Int),b.1,b.2.1,b.2.2.1,b.2.2.2.1,b.2.2.2.2.1,b.2.2.2.2.2.1,b.2.2.2.2.2.2)):=by unfold Yt;dsimp only;rw[qp,qc af,qa,qq,dM aa,qa,qq,xy,qc aa,qa,qo,h2,xc,qq,dM ab,qa,qq,qc ab,qa,qp,qk,xl,qb,qt,hw]
  rw[e];exact hq
theorem aNM(code:List Int)(ak:IE (.slice (.int .u8)) code):aLH code=some true:=by
 by_cases af:(65536:Int)<((code.length:Nat):Int);·unfold aLH HI LC KI;simp(disch:=omega)only[EV,af]
 ·have ab:∀x∈code,0<=x/\x<=255:=λx hx=>aTx (ak.2 x hx);have be:CK 0 code 0:=⟨ab,by omega,by omega,by omega⟩
  have e0:LC code=some false:=by unfold LC KI;rw[qt,qd af]
  -- the first bf
  obtain⟨⟨o,ds,n,s,l1,i,c⟩,ea,hA,_,_⟩:=Bo 0 be (by omega);have bg:aDV code 0 0=some (o,ds,n,s,l1,i,c):=ea;have e1:aCs code=some (o,ds,n,s):=by unfold aCs aFF aLs aFY;rw[qo,qo,bg,xc,qt,xc,qt]
  obtain⟨lo,ld,ls⟩:=hA.low;have e2:=wZ lo ld ls n;have e3:=lR lo ld ls n;have l0:aI []:=by unfold aI;simp
  have bh:dL []:=⟨by simp,λr h=>by simp at h⟩
  have hN:∃q:Int×List UInt8×List UInt8×Int×Bool×List Int×List (List Int)×List Int,MA (bV o ds s n) o ds s n=q/\aI q.2.2.2.2.2.1/\dL q.2.2.2.2.2.2.1/\aI q.2.2.2.2.2.2.2:=by
   refine⟨_,rfl,?_⟩;unfold MA;cases bV o ds s n with
   |false=>exact⟨l0,bh,l0⟩
   |true=>exact⟨lo,ld,ls⟩
  obtain⟨q,hq,q1,q2,q3⟩:=hN;rw[hq]at e2 e3
  -- the second Console
  obtain⟨c1,e4,bj⟩:=T6 ab (by omega) 1 (by omega) (by omega);obtain⟨⟨o5,al,s5,n5,d5,p5,c5,l5,i5,bk⟩,e5,ao,_,_⟩:=tH 0 bj (by omega);have bl:EH c1 0 0=some (o5,al,s5,n5,d5,p5,c5,l5,i5,bk):=e5;have e6:aEM c1=some (o5,al,s5,n5,d5,p5,c5):=by unfold aEM aDq;rw[qo,bl,xc,qt]
  obtain⟨bm,bn,bo⟩:=ao.atl.low;obtain⟨bp,br⟩:=ao.low;obtain⟨v5,v51,bs,_⟩:=Aw (n:=n5) bm bn bo bp br c5
  -- the bt Console and dc line
  obtain⟨c2,e7,bu⟩:=T6 ab (by omega) 2 (by omega) (by omega);obtain⟨⟨o8,ad,s8,n8,d8,p8,c8,l8,i8,ah⟩,e8,ae,ar,au⟩:=tH 0 bu (by omega);simp only at ae ar au;subst ar;have bw:EH l8 0 0=some (o8,ad,s8,n8,d8,p8,c8,l8,i8,ah):=e8;obtain⟨⟨t,lt,it,ct⟩,et,ht,_,_⟩:=rG ah au (by omega);have bz:El l8 i8 ah=some (t,lt,it,ct):=et;have e9:ZQ l8=some (o8,ad,s8,n8,d8,p8,c8,t):=by unfold ZQ aAq;rw[qo,bw,xc,qo];dsimp only;rw[bz,xc,qt]
  simp only at ht;obtain⟨o',av,s',n',d',p',c',rep,v8,w1,w2,w3,x1,x2,x3,x4⟩:=aMg ae (line:=t) (by unfold aQ;omega) n8 c8
  -- the bd
  obtain⟨c3,ca,cb⟩:=T6 ab (by omega) 3 (by omega) (by omega);obtain⟨oz,aw,sz,nz,dz,pz,cz,tz,cc,ay,de⟩:=F4 cb;obtain⟨cd,cf,cg⟩:=ay.atl.low;obtain⟨ch,cj⟩:=ay.low;obtain⟨y,y0,y1,y2,y3⟩:=Ah (n:=nz) cd cf cg ch cj cz (t:=tz) (by unfold aQ;omega);have ck:y.1=true->aCo tz [10]=some (true,mN 10 tz):=λh=>by
   obtain⟨_,h4,_⟩:=y3 h;have e1:P3 tz [10]=some (mN 10 tz):=by unfold P3 sN;rw[qj ⟨by omega,rfl⟩,wU]
   unfold aCo aGi;rw[qp,qd (by omega),qb,qp,show((((List.length ([10]:List UInt8)):Nat):Int) !=1)=false from rfl,qb,qo,e1,xc,qt]
  have cm:y.1=true->BT (y.2,mN 10 tz) ((0:Int),oz,aw,sz,nz,dz,pz,cz)=some (.inl ()):=λh=>by obtain⟨k1,_,k2⟩:=y3 h;exact aNt (y.2,mN 10 tz) (by simp only;omega) k2 (mN 10 tz).length 0 (a:=(oz,aw,sz,nz,dz,pz,cz)) (by simp only;omega) k1
  have ai:∀{b:Bool} {Q:Prop},(!(b==b))=true->Q:=λh=>by rw[qk]at h;cases h
  have key:Dw (λb=>b=true) (HI code):=by
   unfold HI;refine Dw.c e0 (Dw.t (λh=>by cases h) λ_=>Dw.c e1 (Dw.c e2 (Dw.c e3 (Dw.c e4 (Dw.c e6 (Dw.c e7 (Dw.c e9 (Dw.c x1 (Dw.c x2 (Dw.t ai λ_=>Dw.c (aKG q1 q2 q3 _ _ _ _) (Dw.t (λh=>by cases h) λ_=>?_)))))))))));refine Dw.c bs (Dw.c v51 (Dw.t ai λ_=>Dw.t (λh=>by rw[qk]at h;cases h) λ_=>Dw.c (aKG w1 w2 w3 _ _ _ _) (Dw.t (λh=>by cases h) λ_=>?_)));refine Dw.c x3 (Dw.tt ?_ λT h1=>Dw.t (λh2=>?_) λ_=>T)
   ·refine Dw.c ca (Dw.c cc (Dw.c y2 (Dw.c y1 (Dw.t ai λ_=>Dw.c (aRH (by omega)) (Dw.t (λh=>by cases h) λ_=>Dw.t (λ_=>Dw.l rfl) λhy=>?_)))));have hy:y.1=true:=by simpa using hy
    obtain⟨_,_,k2⟩:=y3 hy;refine Dw.c (ck hy) (Dw.c (cm hy) ⟨_,rfl,?_⟩);exact beq_iff_eq.2 (by simp only;omega)
   ·have az:v8=true:=h1;have aa:=x3;rw[az]at aa;have dh:0<=c8/\c8<=60:=by
     obtain⟨cn,cp,cq⟩:=ae.atl.low;obtain⟨cu,cw⟩:=ae.low;obtain⟨u,_,u2,u3⟩:=iF cu cw c8;unfold pS Bz at aa;rw[qo,cC cn cp cq,xc,qp]at aa;cases ba:bV o8 ad s8 n8 with
     |false=>rw[ba,qb,qt]at aa;cases aa
     |true=>rw[ba,qa,qo,u2,xc,qt]at aa;obtain⟨recs,hv⟩:=u3.1 (yJ aa);have:=hv.len;have:=hv.cnt;omega
    have cy:c'=c8+1:=by have h2:(c'==IntKind.wrap .i64 (c8+1))=true:=h2;rw[aL (by omega) (by omega)]at h2;exact eq_of_beq h2
    obtain⟨recs,z1,z2,z3⟩:=x4 az cy;obtain⟨_,_,bb,bc⟩:=z1.low;obtain⟨r,r1,_,r3⟩:=Ko bb bc c';have hr:=r3 _ z1;subst hr;have hlen:=z1.len;rw[xj,Fy]at hlen;have da:pS o' av s' n' d' p' c'=some true:=by obtain⟨u,_,u2,u3⟩:=iF bb bc c';unfold pS Bz;rw[qo,cC w1 w2 w3,atl_iff.2 z2,xc,qp,qa,qo,u2,xc,qt,u3.2 ⟨_,z1⟩]
    have aj:IntKind.wrap .i64 (((List.length (recs++ [(t,rep)]):Nat):Int) -1)=(recs.length:Int):=by rw[xj,Fy,aL (by omega) (by omega)];omega
    have db:List.getD (recs++ [(t,rep)]) recs.length (([]:List UInt8),([]:List UInt8))=(t,rep):=by rw[xd,D4 (xm _),JX];rfl
    refine Dw.c r1 (Dw.c da (Dw.t (λh=>by cases h) λ_=>Dw.g ?_ (Dw.g ?_ (Dw.t (λh=>?_) λ_=>Dw.t (λh3=>?_) λ_=>T))));·dsimp only;rw[aj];exact dM (by rw[xj,Fy];omega)
    ·dsimp only;rw[aj,xy];exact qc (by rw[xj,Fy];omega)
    ·exfalso;dsimp only at h;rw[aj,xy,db,qk,qk]at h;cases h
    ·have he:=z3 (eq_of_beq h3);obtain⟨rfl,rfl,rfl,rfl⟩:o'=o8/\av=ad/\s'=s8/\n'=n8:=by simpa using he
     exact Dw.c (aGX w1 w2 w3 _) (Dw.t (λh=>by cases h) λ_=>T)
  obtain⟨r,k1,rfl⟩:=key;exact k1
end Go.Proofs.YtjiljcblmgeioaaGreatDoor
