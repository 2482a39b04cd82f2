/- A part of the proof that FnReplay hands back true, at every argument of the row. -/
import Derived.Test.YtjiljcblmgeioaaGreatDoorP18
namespace Go.Proofs.YtjiljcblmgeioaaGreatDoor
set_option linter.all false
theorem qP{V R:Type}{f:V->Option (V⊕R)}{n:Nat}(P:Nat->V->Prop)(Q:R->Prop)(hs:∀k v,k<n->P k v->(∃v',f v=some (.inl v')/\P (k+1) v')\/∃r,f v=some (.inr r)/\Q r)(he:∀v,P n v->∃r,f v=some (.inr r)/\Q r){v:V}(h0:P 0 v):∃r,aB f v=some r/\Q r:=by
 have key:∀m k v,k+m=n->P k v->∃r,aB f v=some r/\Q r:=by
  intro m;induction m with
  |zero=>
   intro k v hk hp;have:k=n:=by omega
   subst this;obtain⟨r,h1,h2⟩:=he v hp;exact⟨r,by rw[aE,h1],h2⟩
  |succ m ih=>
   intro k v hk hp;rcases hs k v (by omega) hp with⟨v',h1,h2⟩|⟨r,h1,h2⟩
   ·obtain⟨r,h3,h4⟩:=ih (k+1) v' (by omega) h2;exact⟨r,by rw[aE,h1];exact h3,h4⟩
   ·exact⟨r,by rw[aE,h1],h2⟩
 exact key n 0 v (by omega) h0
theorem CT{x b:Int}{L:List Int}(h:x∈L)(hL:∀y∈L,0<=y/\y<=b):∃n:Nat,x=(n:Int)/\(n:Int)<=b:=by have:=hL x h;exact⟨x.toNat,by omega,by omega⟩
structure Bxd(n:Nat)(d:List (List Int)):Prop where
 hn:n<=7
 hm:d.length<=7
 row:∀r∈d,r.length=n/\∀x∈r,0<=x/\x<=99
theorem Bxd.len{n:Nat}{d:List (List Int)}(h:Bxd n d){i:Nat}(hi:i<d.length):(d.getD i []).length=n:=(h.row _ (aG hi)).1
theorem Bxd.at{n:Nat}{d:List (List Int)}(h:Bxd n d){i a:Nat}(hi:i<d.length)(ha:a<n):0<=(d.getD i []).getD a 0/\(d.getD i []).getD a 0<=99:=(h.row _ (aG hi)).2 _ (aG (by rw[h.len hi];exact ha))
theorem J5{α:Type}(l:List α){i:Nat}(hi:i<l.length)(j:Nat)(v d:α):(l.set i v).getD j d=if i=j then v else l.getD j d:=by
 simp only[xd,VA];split;·simp[hi]
 ·rfl
theorem Bxd.set{n:Nat}{d:List (List Int)}(h:Bxd n d){i a:Nat}{x:Int}(hi:i<d.length)(hx:0<=x/\x<=99):Bxd n (d.set i ((d.getD i []).set a x))/\(d.set i ((d.getD i []).set a x)).length=d.length:=by
 refine⟨⟨h.hn,by simpa using h.hm,λr hr=>?_⟩,by simp⟩;rcases xcs hr with h1|rfl;·exact h.row r h1
 ·refine⟨by rw[C7];exact h.len hi,λy hy=>?_⟩;rcases xcs hy with h1|rfl;·exact(h.row _ (aG hi)).2 y h1
  ·exact hx
theorem PH{B:Int}{l:List Int}{i:Int}(k:(Int)×(Int)×(Int)×(Int)×(List (Int))){M n:Nat}(hM:M<=7)(ad:k.1=(M:Int))(ae:k.2.1=(n:Int))(hb:1<=k.2.2.2.1)(c:Int)(h:CK B l i)(hB:B<=900000):
  ∃i' c' o,aKk k ((0:Int),l,i,c,([]:List Int))=some (l,i',c',o)/\o.length=min M n/\CK (B+14) l i':=by
 obtain⟨r,h1,i',c',o,rfl,h2⟩:=cH (f:=λv=>(Se k v).ev) (n:=min M n)
  (λa v=>∃i c o,v=((a:Int),l,i,c,o)/\o.length=a/\CK (B+2*a) l i)
  (λr=>∃i c o,r=(l,i,c,o)/\o.length=min M n/\CK (B+14) l i)
  (λa v ha hv=>by
   obtain⟨i,c,o,rfl,l1,hc⟩:=hv;obtain⟨x,i1,c1,e1,_,_,h1⟩:=cK k.2.2.2.1 c hc (by omega) hb;have r1:=nY o x (by omega);have aa:(a:Int)<k.1:=by omega
   have ab:(a:Int)<k.2.1:=by omega
   refine⟨(((a+1:Nat):Int),l,i1,c1,o++ [x]),?_,i1,c1,_,rfl,by simp[l1],h1.mono (by omega)⟩;simp(disch:=omega)only[EV,Se,aa,ab,e1,r1];rfl)
  (λv hv=>by
   obtain⟨i,c,o,rfl,l1,hc⟩:=hv;by_cases af:M<=n
   ·have aa:¬((min M n:Nat):Int)<k.1:=by omega
    refine⟨_,by simp(disch:=omega)only[EV,Se,aa,ite_self],i,c,o,rfl,l1,hc.mono (by omega)⟩
   ·have aa:((min M n:Nat):Int)<k.1:=by omega
    have ab:¬((min M n:Nat):Int)<k.2.1:=by omega
    refine⟨_,by simp(disch:=omega)only[EV,Se,aa,ab],i,c,o,rfl,l1,hc.mono (by omega)⟩)
  (v:=((0:Int),l,i,c,([]:List Int))) ⟨i,c,[],rfl,rfl,h.mono (by omega)⟩
 exact⟨i',c',o,h1,h2⟩
theorem PR{B:Int}{l:List Int}{i:Int}(k:(Int)×(Int)×(Int)×(Int)×(List (Int))×(List (List (Int)))×(List (Int))×(List (List (Int))))(hn:k.2.2.2.2.2.2.1.length<=7)(hb:1<=k.2.2.1/\k.2.2.1<=20)(c:Int)(h:CK B l i)(hB:B<=900000):
  ∃i' c' row,aII k ((0:Int),l,i,c,([]:List Int))=some (l,i',c',row)/\(row.length=k.2.2.2.2.2.2.1.length/\∀x∈row,0<=x/\x<=99)/\CK (B+14) l i':=by
 obtain⟨r,h1,i',c',row,rfl,h2⟩:=cH (f:=λv=>(Ym k v).ev) (n:=k.2.2.2.2.2.2.1.length)
  (λa v=>∃i c row,v=((a:Int),l,i,c,row)/\(row.length=a/\∀x∈row,0<=x/\x<=99)/\CK (B+2*a) l i)
  (λr=>∃i c row,r=(l,i,c,row)/\(row.length=k.2.2.2.2.2.2.1.length/\∀x∈row,0<=x/\x<=99)/\CK (B+14) l i)
  (λa v ha hv=>by
   obtain⟨i,c,row,rfl,⟨l1,l2⟩,hc⟩:=hv;obtain⟨x,i1,c1,e1,aa,ab,h1⟩:=cK k.2.2.1 c hc (by omega) hb.1;have r1:=nY row x (by omega);refine⟨(((a+1:Nat):Int),l,i1,c1,row++ [x]),?_,i1,c1,_,rfl,⟨by simp[l1],λy hy=>?_⟩,h1.mono (by omega)⟩;·simp(disch:=omega)only[EV,Ym,ha,e1,r1];rfl
   ·rcases xp.1 hy with h|h;·exact l2 y h
    ·rw[xo.1 h];omega)
  (λv hv=>by obtain⟨i,c,row,rfl,l1,hc⟩:=hv;refine⟨_,by simp(disch:=omega)only[EV,Ym,xi],i,c,row,rfl,l1,hc.mono (by omega)⟩)
  (v:=((0:Int),l,i,c,([]:List Int))) ⟨i,c,[],rfl,⟨rfl,λx hx=>by cases hx⟩,h.mono (by omega)⟩
 exact⟨i',c',row,h1,h2⟩
theorem QQ{B:Int}{l:List Int}{i:Int}(k:(Int)×(Int)×(Int)×(List (Int))×(List (List (Int)))×(List (Int))){M m:Nat}(hM:M<=7)(ae:k.1=(M:Int))(af:k.2.1=(m:Int))(hn:k.2.2.2.2.2.length<=7)(hb:1<=k.2.2.1/\k.2.2.1<=20)(c:Int)(h:CK B l i)(hB:B<=800000):
  ∃i' c' ds,aHi k ((0:Int),l,i,c,([]:List (List Int)))=some (l,i',c',ds)/\Bxd k.2.2.2.2.2.length ds/\CK (B+98) l i':=by
 obtain⟨r,h1,i',c',ds,rfl,⟨h2,h3⟩,h4⟩:=cH (f:=λv=>(Qe k v).ev) (n:=min M m)
  (λa v=>∃i c ds,v=((a:Int),l,i,c,ds)/\(ds.length=a/\∀r∈ds,r.length=k.2.2.2.2.2.length/\∀x∈r,0<=x/\x<=99)/\CK (B+14*a) l i)
  (λr=>∃i c ds,r=(l,i,c,ds)/\(ds.length=min M m/\∀r∈ds,r.length=k.2.2.2.2.2.length/\∀x∈r,0<=x/\x<=99)/\CK (B+98) l i)
  (λa v ha hv=>by
   obtain⟨i,c,ds,rfl,⟨l1,l2⟩,hc⟩:=hv;obtain⟨i1,c1,row,e1,hr,h1⟩:=PR (k.1,k.2.1,k.2.2.1,(a:Int),k.2.2.2.1,k.2.2.2.2.1,k.2.2.2.2.2,ds) hn hb c hc (by omega);have r1:=mH ds (by omega);have aa:(a:Int)<k.1:=by omega
   have ab:(a:Int)<k.2.1:=by omega
   refine⟨(((a+1:Nat):Int),l,i1,c1,ds++ [row]),?_,i1,c1,_,rfl,⟨by simp[l1],λr ad=>?_⟩,h1.mono (by omega)⟩;·simp(disch:=omega)only[EV,Qe,aa,ab,e1,r1,eS];rfl
   ·rcases xp.1 ad with h|h;·exact l2 r h
    ·rw[xo.1 h];exact hr)
  (λv hv=>by
   obtain⟨i,c,ds,rfl,l1,hc⟩:=hv;by_cases ah:M<=m
   ·have aa:¬((min M m:Nat):Int)<k.1:=by omega
    refine⟨_,by simp(disch:=omega)only[EV,Qe,aa,ite_self],i,c,ds,rfl,l1,hc.mono (by omega)⟩
   ·have aa:((min M m:Nat):Int)<k.1:=by omega
    have ab:¬((min M m:Nat):Int)<k.2.1:=by omega
    refine⟨_,by simp(disch:=omega)only[EV,Qe,aa,ab],i,c,ds,rfl,l1,hc.mono (by omega)⟩)
  (v:=((0:Int),l,i,c,([]:List (List Int)))) ⟨i,c,[],rfl,⟨rfl,λr hr=>by cases hr⟩,h.mono (by omega)⟩
 exact⟨i',c',ds,h1,⟨hn,by omega,h3⟩,h4⟩
theorem pM{B:Int}{l:List Int}{i:Int}{M:Nat}(hM:1<=M/\M<=7)(c:Int)(h:CK B l i)(hB:B<=700000):
  ∃o ds i' c',Yc (M:Int) l i c=some (o,ds,l,i',c')/\(1<=o.length/\Bxd o.length ds)/\CK (B+120) l i':=by
 obtain⟨x1,i1,c1,e1,m1,h1⟩:=gE ([(3:Int),(4:Int),(2:Int),(5:Int),(1:Int),(6:Int),(7:Int)]:List (Int)) c h (by omega) (by decide);have ad:=(show∀y∈([(3:Int),(4:Int),(2:Int),(5:Int),(1:Int),(6:Int),(7:Int)]:List (Int)),1<=y by decide) x1 m1;obtain⟨n,rfl,hn⟩:=CT (b:=7) m1 (by decide);obtain⟨x2,i2,c2,e2,m2,h2⟩:=gE ([(4:Int),(3:Int),(5:Int),(2:Int),(6:Int),(7:Int),(1:Int),(0:Int)]:List (Int)) c1 h1 (by omega) (by decide);obtain⟨m,rfl,hm⟩:=CT (b:=7) m2 (by decide);obtain⟨ab,i3,c3,e3,m3,h3⟩:=gE ([(10:Int),(10:Int),(20:Int),(4:Int)]:List (Int)) c2 h2 (by omega) (by decide);have aa:=(show∀y∈([(10:Int),(10:Int),(20:Int),(4:Int)]:List (Int)),1<=y/\y<=20 by decide) ab m3;obtain⟨i4,c4,o,e4,lo,h4⟩:=PH ((M:Int),(n:Int),(m:Int),ab,([]:List (Int))) (n:=n) hM.2 rfl rfl aa.1 c3 h3 (by omega);obtain⟨i5,c5,ds,e5,hd,h5⟩:=QQ ((M:Int),(m:Int),ab,([]:List (Int)),([]:List (List (Int))),o) (m:=m) hM.2 rfl rfl (by show o.length<=7;omega) aa c4 h4 (by omega);unfold Yc aAQ;simp(disch:=omega)only[EV,e1,e2,e3,e4,e5];exact⟨_,_,_,_,rfl,⟨by omega,hd⟩,h5.mono (by omega)⟩
theorem DW{B:Int}{l:List Int}{i:Int}(k:(List (Int))×(List (List (Int))))(hn:k.1.length<=7)(c:Int)(h:CK B l i)(hB:B<=900000):
  ∃i' c' p,aJM k ((0:Int),l,i,c,([]:List Int))=some (l,i',c',p)/\(p.length=k.1.length/\∀x∈p,0<=x/\x<=19)/\CK (B+14) l i':=by
 obtain⟨r,h1,i',c',p,rfl,h2⟩:=cH (f:=λv=>(AW k v).ev) (n:=k.1.length)
  (λa v=>∃i c p,v=((a:Int),l,i,c,p)/\(p.length=a/\∀x∈p,0<=x/\x<=19)/\CK (B+2*a) l i)
  (λr=>∃i c p,r=(l,i,c,p)/\(p.length=k.1.length/\∀x∈p,0<=x/\x<=19)/\CK (B+14) l i)
  (λa v ha hv=>by
   obtain⟨i,c,p,rfl,⟨l1,l2⟩,hc⟩:=hv;obtain⟨x,i1,c1,e1,aa,ab,h1⟩:=cK 20 c hc (by omega) (by omega);have r1:=nY p x (by omega);refine⟨(((a+1:Nat):Int),l,i1,c1,p++ [x]),?_,i1,c1,_,rfl,⟨by simp[l1],λy hy=>?_⟩,h1.mono (by omega)⟩;·simp(disch:=omega)only[EV,AW,ha,e1,r1];rfl
   ·rcases xp.1 hy with h|h;·exact l2 y h
    ·rw[xo.1 h];omega)
  (λv hv=>by obtain⟨i,c,p,rfl,l1,hc⟩:=hv;refine⟨_,by simp(disch:=omega)only[EV,AW,xi],i,c,p,rfl,l1,hc.mono (by omega)⟩)
  (v:=((0:Int),l,i,c,([]:List Int))) ⟨i,c,[],rfl,⟨rfl,λx hx=>by cases hx⟩,h.mono (by omega)⟩
 exact⟨i',c',p,h1,h2⟩
theorem BV{o p:List Int}{d:List (List Int)}(hb:Bxd o.length d)(hp:p.length=o.length)(ad:∀x∈p,0<=x/\x<=19){j:Nat}(hj:j<d.length){x:Int}(hx:0<=x/\x<=19)(l:List Int)(i c:Int):
  ∃r,aIA ((j:Int),x,l,i,c,p,o) ((0:Int),d)=some r/\Bxd o.length r/\r.length=d.length:=by
 exact cH (f:=λv=>(Xv ((j:Int),x,l,i,c,p,o) v).ev) (n:=o.length)
  (λa v=>∃e,v=((a:Int),e)/\Bxd o.length e/\e.length=d.length)
  (λr=>Bxd o.length r/\r.length=d.length)
  (λa v ha hv=>by
   obtain⟨e,rfl,h1,h2⟩:=hv;have aa:j<e.length:=by omega
   have ab:a<p.length:=by omega
   have hq:=ad _ (aG (d:=0) ab);have hl:=h1.len aa;have hn:=hb.hn;have hm:0<=max (x-p.getD a 0) (p.getD a 0-x)/\max (x-p.getD a 0) (p.getD a 0-x)<=99:=by omega
   obtain⟨h3,h4⟩:=h1.set (a:=a) aa hm;refine⟨(((a+1:Nat):Int),_),?_,_,rfl,h3,by rw[h4,h2]⟩;simp(disch:=omega)only[EV,Xv,ha,aa,ab,jX,hl];rfl)
  (λv hv=>by obtain⟨e,rfl,h1,h2⟩:=hv;exact⟨_,by simp(disch:=omega)only[EV,Xv,xi],h1,h2⟩)
  (v:=((0:Int),d)) ⟨d,rfl,hb,rfl⟩
theorem CJ{B:Int}{l:List Int}{i:Int}{o p:List Int}{d:List (List Int)}(hb:Bxd o.length d)(hp:p.length=o.length)(ab:∀x∈p,0<=x/\x<=19)(c:Int)(h:CK B l i)(hB:B<=900000):
  ∃i' c' r,aGT (p,o) ((0:Int),l,i,c,d)=some (l,i',c',r)/\Bxd o.length r/\CK (B+14) l i':=by
 have hm:=hb.hm;obtain⟨r,h1,i',c',e,rfl,h2⟩:=cH (f:=λv=>(FC (p,o) v).ev) (n:=d.length)
  (λa v=>∃i c e,v=((a:Int),l,i,c,e)/\(Bxd o.length e/\e.length=d.length)/\CK (B+2*a) l i)
  (λr=>∃i c e,r=(l,i,c,e)/\Bxd o.length e/\CK (B+14) l i)
  (λa v ha hv=>by
   obtain⟨i,c,e,rfl,⟨h1,h2⟩,hc⟩:=hv;obtain⟨x,i1,c1,e1,ad,ae,h3⟩:=cK 20 c hc (by omega) (by omega);have aa:a<e.length:=by omega
   obtain⟨r,e2,h4,h5⟩:=BV h1 hp ab aa (show 0<=x/\x<=19 by omega) l i1 c1;refine⟨(((a+1:Nat):Int),l,i1,c1,r),?_,i1,c1,_,rfl,⟨h4,by omega⟩,h3.mono (by omega)⟩;simp(disch:=omega)only[EV,FC,aa,e1,e2];rfl)
  (λv hv=>by
   obtain⟨i,c,e,rfl,⟨h1,h2⟩,hc⟩:=hv;have hq:¬d.length<e.length:=by omega
   refine⟨_,by simp(disch:=omega)only[EV,FC,hq],i,c,e,rfl,h1,hc.mono (by omega)⟩)
  (v:=((0:Int),l,i,c,d)) ⟨i,c,d,rfl,⟨hb,rfl⟩,h.mono (by omega)⟩
 exact⟨i',c',e,h1,h2⟩
theorem P5{B:Int}{l:List Int}{i:Int}{M:Nat}(hM:1<=M/\M<=7)(c:Int)(h:CK B l i)(hB:B<=600000):
  ∃o ds i' c',aBr (M:Int) l i c=some (o,ds,l,i',c')/\(1<=o.length/\Bxd o.length ds)/\CK (B+150) l i':=by
 obtain⟨o,ds,i1,c1,e1,⟨ho,hd⟩,h1⟩:=pM hM c h (by omega);obtain⟨i2,c2,p,e2,⟨hp,aa⟩,h2⟩:=DW (o,ds) hd.hn c1 h1 (by omega);obtain⟨i3,c3,r,e3,hr,h3⟩:=CJ hd hp aa c2 h2 (by omega);unfold aBr aAu;simp(disch:=omega)only[EV,e1,e2,e3];exact⟨_,_,_,_,rfl,⟨ho,hr⟩,h3.mono (by omega)⟩
theorem B2{l:List Int}(h:l.length<=1000000):pY l=some l:=by
 have h1:(List.length ([]:List Int)+l.length)*8<=140737488355328:=by simp;omega
 unfold pY NE;simp(disch:=omega)only[EV,h1,J8]
theorem GL{o:List Int}{d:List (List Int)}(hb:Bxd o.length d):aFU o d=some (o,d):=by
 have hm:=hb.hm;have hn:=hb.hn;obtain⟨r,h1,hr⟩:=cH (f:=λv=>(DA (o,d,([]:List (List (Int))),o) v).ev) (n:=d.length)
  (λa v=>v=((a:Int),d.take a)) (λr=>r=d)
  (λa v ha hv=>by subst hv;have hl:=hb.len ha;have r1:=mH (d.take a) (by simp;omega);refine⟨_,?_,rfl⟩;simp(disch:=omega)only[EV,DA,ha,B2 (l:=d.getD a []) (by omega),r1,eS];rw[List.take_add_one,xh ha,xd,xh ha];rfl)
  (λv hv=>by subst hv;exact⟨_,by simp(disch:=omega)only[EV,DA,xi],sX⟩)
  (v:=((0:Int),([]:List (List Int)))) (by simp)
 rw[hr]at h1;have aa:aHQ (o,d,([]:List (List (Int))),o) ((0:Int),([]:List (List Int)))=some d:=h1;unfold aFU aGq;simp(disch:=omega)only[EV,B2 (l:=o) (by omega),aa]
def WH(n:Nat)(d:List (List Int)):Prop:=∃i j a b,i<d.length/\j<d.length/\a<n/\b<n/\at2 d i b+at2 d j b+at2 d j a<at2 d i a
theorem Jw{o:List Int}{d:List (List Int)}(hb:Bxd o.length d){i j a:Nat}(hi:i<d.length)(hj:j<d.length)(ha:a<o.length):
  ∃r,aCk ((i:Int),(j:Int),(a:Int),o,d) 0=some r/\(r=.inr ()->WH o.length d):=by
 have hn:=hb.hn;exact qP (f:=λv=>(G6 ((i:Int),(j:Int),(a:Int),o,d) v).ev) (n:=o.length)
  (λb v=>v=(b:Int)) (λr=>r=.inr ()->WH o.length d)
  (λb v aa hv=>by
   subst hv;have x1:=hb.at hi ha;have x2:=hb.at hi aa;have x3:=hb.at hj aa;have x4:=hb.at hj ha;have y1:=hb.len hi;have y2:=hb.len hj;by_cases hq:(d.getD i []).getD b 0+(d.getD j []).getD b 0+(d.getD j []).getD a 0<(d.getD i []).getD a 0;·exact .inr ⟨.inr (),by simp(disch:=omega)only[EV,G6,aa,hi,hj,ha,y1,y2,hq],λ_=>⟨i,j,a,b,hi,hj,ha,aa,hq⟩⟩
   ·exact .inl ⟨((b+1:Nat):Int),by simp(disch:=omega)only[EV,G6,aa,hi,hj,ha,y1,y2,hq];rfl,rfl⟩)
  (λv hv=>by subst hv;exact⟨.inl (),by simp(disch:=omega)only[EV,G6,xi],λh=>nomatch h⟩)
  (v:=(0:Int)) rfl
theorem Jv{o:List Int}{d:List (List Int)}(hb:Bxd o.length d){i j:Nat}(hi:i<d.length)(hj:j<d.length):
  ∃r,aCK ((i:Int),(j:Int),o,d) 0=some r/\(r=.inr ()->WH o.length d):=by
 have hn:=hb.hn;exact qP (f:=λv=>(F1 ((i:Int),(j:Int),o,d) v).ev) (n:=o.length)
  (λa v=>v=(a:Int)) (λr=>r=.inr ()->WH o.length d)
  (λa v ha hv=>by
   subst hv;obtain⟨r,e1,h1⟩:=Jw hb hi hj ha;cases r with
   |inl u=>exact .inl ⟨((a+1:Nat):Int),by simp(disch:=omega)only[EV,F1,ha,e1];rfl,rfl⟩
   |inr u=>exact .inr ⟨.inr (),by simp(disch:=omega)only[EV,F1,ha,e1],λ_=>h1 rfl⟩)
  (λv hv=>by subst hv;exact⟨.inl (),by simp(disch:=omega)only[EV,F1,xi],λh=>nomatch h⟩)
  (v:=(0:Int)) rfl
theorem Hq{o:List Int}{d:List (List Int)}(hb:Bxd o.length d){i:Nat}(hi:i<d.length):
  ∃r,aAW ((i:Int),o,d) 0=some r/\(r=.inr ()->WH o.length d):=by
 have hm:=hb.hm;exact qP (f:=λv=>(G1 ((i:Int),o,d) v).ev) (n:=d.length)
  (λa v=>v=(a:Int)) (λr=>r=.inr ()->WH o.length d)
  (λa v ha hv=>by
   subst hv;obtain⟨r,e1,h1⟩:=Jv hb hi ha;cases r with
   |inl u=>exact .inl ⟨((a+1:Nat):Int),by simp(disch:=omega)only[EV,G1,ha,e1];rfl,rfl⟩
   |inr u=>exact .inr ⟨.inr (),by simp(disch:=omega)only[EV,G1,ha,e1],λ_=>h1 rfl⟩)
  (λv hv=>by subst hv;exact⟨.inl (),by simp(disch:=omega)only[EV,G1,xi],λh=>nomatch h⟩)
  (v:=(0:Int)) rfl
theorem Ql{o:List Int}{d:List (List Int)}(hb:Bxd o.length d):∃b,So o d=some b/\(b=false->WH o.length d):=by
 have hm:=hb.hm;obtain⟨r,e,h⟩:=qP (f:=λv=>(F7 (o,d) v).ev) (n:=d.length)
  (λa v=>v=(a:Int)) (λr=>r=.inr ()->WH o.length d)
  (λa v ha hv=>by
   subst hv;obtain⟨r,e1,h1⟩:=Hq hb ha;cases r with
   |inl u=>exact .inl ⟨((a+1:Nat):Int),by simp(disch:=omega)only[EV,F7,ha,e1];rfl,rfl⟩
   |inr u=>exact .inr ⟨.inr (),by simp(disch:=omega)only[EV,F7,ha,e1],λ_=>h1 rfl⟩)
  (λv hv=>by subst hv;exact⟨.inl (),by simp(disch:=omega)only[EV,F7,xi],λh=>nomatch h⟩)
  (v:=(0:Int)) rfl
 have e':aFK (o,d) 0=some r:=e;unfold So PB;simp(disch:=omega)only[EV,e'];cases r with
 |inl u=>exact⟨true,rfl,λh=>by cases h⟩
 |inr u=>exact⟨false,rfl,λ_=>h rfl⟩
structure Dn(n:Nat)(D d:List (List Int)):Prop where
 bx:Bxd n d
 len:d.length=D.length
 le:∀i a,i<D.length->a<n->at2 d i a<=at2 D i a
theorem Dn.trans{n:Nat}{D d e:List (List Int)}(h:Dn n D d)(h':Dn n d e):Dn n D e:=⟨h'.bx,by rw[h'.len,h.len],λi a hi ha=>Int.le_trans (h'.le i a (by rw[h.len];exact hi) ha) (h.le i a hi ha)⟩
theorem Dn.refl{n:Nat}{d:List (List Int)}(h:Bxd n d):Dn n d d:=⟨h,rfl,λ_ _ _ _=>zG _⟩
theorem Pb{d:List (List Int)}{n:Nat}(hb:Bxd n d){i a:Nat}(hi:i<d.length)(ha:a<n)(x:Int)(i' a':Nat):at2 (d.set i ((d.getD i []).set a x)) i' a'=if i=i'/\a=a' then x else at2 d i' a':=by
 unfold at2;rw[J5 _ hi];by_cases e:i=i';·subst e;rw[qi rfl,J5 _ (by rw[hb.len hi];exact ha)];by_cases e2:a=a'<;>simp[e2]
 ·simp[e]
theorem Dn.set{n:Nat}{d:List (List Int)}(hb:Bxd n d){i a:Nat}(hi:i<d.length)(ha:a<n){x:Int}(h0:0<=x)(h1:x<=at2 d i a):Dn n d (d.set i ((d.getD i []).set a x)):=by
 have h2:at2 d i a<=99:=(hb.at hi ha).2;obtain⟨h3,h4⟩:=hb.set (a:=a) hi (x:=x) ⟨h0,by omega⟩;refine⟨h3,h4,λi' a' aa ab=>?_⟩;rw[Pb hb hi ha];split
 next e=>obtain⟨rfl,rfl⟩:=e;exact h1
 next=>exact zG _
theorem Qw{o:List Int}{D d:List (List Int)}(h:Dn o.length D d){i j a:Nat}(hi:i<D.length)(hj:j<D.length)(ha:a<o.length):
  ∃r,aKB ((i:Int),(j:Int),(a:Int),o) ((0:Int),d)=some r/\Dn o.length d r/\∀b,b<o.length->at2 r i a<=at2 D i b+at2 D j b+at2 D j a:=by
 have hn:=h.bx.hn;have ad:=h.len;exact cH (f:=λv=>(KN ((i:Int),(j:Int),(a:Int),o) v).ev) (n:=o.length)
  (λb v=>∃e,v=((b:Int),e)/\Dn o.length d e/\∀b',b'<b->at2 e i a<=at2 D i b'+at2 D j b'+at2 D j a)
  (λr=>Dn o.length d r/\∀b,b<o.length->at2 r i a<=at2 D i b+at2 D j b+at2 D j a)
  (λb v hb hv=>by
   obtain⟨e,rfl,h1,h2⟩:=hv;have ae:=h1.len;have aa:i<e.length:=by omega
   have ab:j<e.length:=by omega
   have y1:=h1.bx.len aa;have y2:=h1.bx.len ab;have x1:=h1.bx.at aa ha;have x2:=h1.bx.at aa hb;have x3:=h1.bx.at ab hb;have x4:=h1.bx.at ab ha;have hT:=h.trans h1;have z2:(e.getD i []).getD b 0<=at2 D i b:=hT.le i b hi hb;have z3:(e.getD j []).getD b 0<=at2 D j b:=hT.le j b hj hb;have z4:(e.getD j []).getD a 0<=at2 D j a:=hT.le j a hj ha;have hs:=Dn.set h1.bx aa ha (x:=min ((e.getD i []).getD a 0) ((e.getD i []).getD b 0+(e.getD j []).getD b 0+(e.getD j []).getD a 0)) (by omega) (Int.min_le_left _ _);have hv:at2 (e.set i ((e.getD i []).set a (min ((e.getD i []).getD a 0) ((e.getD i []).getD b 0+(e.getD j []).getD b 0+(e.getD j []).getD a 0)))) i a=min ((e.getD i []).getD a 0) ((e.getD i []).getD b 0+(e.getD j []).getD b 0+(e.getD j []).getD a 0):=by rw[Pb h1.bx aa ha,qi ⟨rfl,rfl⟩]
   refine⟨(((b+1:Nat):Int),_),?_,_,rfl,h1.trans hs,λb' af=>?_⟩;·simp(disch:=omega)only[EV,KN,hb,aa,ab,ha,y1,y2,nU];rfl
   ·rw[hv];by_cases e2:b'=b;·subst e2;omega
    ·have:=h2 b' (by omega);have h5:at2 e i a=(e.getD i []).getD a 0:=rfl;omega)
  (λv hv=>by
   obtain⟨e,rfl,h1,h2⟩:=hv;refine⟨e,?_,h1,h2⟩;have hq:decide (((o.length:Nat):Int)<((o.length:Nat):Int))=false:=by simp
   have key:∀(x:Tr (((Int)×(List (List Int)))⊕(List (List Int)))),(Tr.t (decide (((o.length:Nat):Int)<((o.length:Nat):Int))) x (.l (.inr e))).ev=some (.inr e):=λx=>by rw[hq];rfl
   exact key _)
  (v:=((0:Int),d)) ⟨d,rfl,Dn.refl h.bx,λb hb=>by omega⟩
theorem Rg{o:List Int}{D d:List (List Int)}(h:Dn o.length D d){i j:Nat}(hi:i<D.length)(hj:j<D.length):
  ∃r,aHo ((i:Int),(j:Int),o) ((0:Int),d)=some r/\Dn o.length d r/\∀a,a<o.length->∀b,b<o.length->at2 r i a<=at2 D i b+at2 D j b+at2 D j a:=by
 have hn:=h.bx.hn;exact cH (f:=λv=>(EQ ((i:Int),(j:Int),o) v).ev) (n:=o.length)
  (λa v=>∃e,v=((a:Int),e)/\Dn o.length d e/\∀a',a'<a->∀b,b<o.length->at2 e i a'<=at2 D i b+at2 D j b+at2 D j a')
  (λr=>Dn o.length d r/\∀a,a<o.length->∀b,b<o.length->at2 r i a<=at2 D i b+at2 D j b+at2 D j a)
  (λa v ha hv=>by
   obtain⟨e,rfl,h1,h2⟩:=hv;obtain⟨r,e1,h3,h4⟩:=Qw (h.trans h1) hi hj ha;refine⟨(((a+1:Nat):Int),r),?_,_,rfl,h1.trans h3,λa' aa b hb=>?_⟩;·simp(disch:=omega)only[EV,EQ,ha,e1];rfl
   ·by_cases e2:a'=a;·subst e2;exact h4 b hb
    ·have h5:=h2 a' (by omega) b hb;have h6:=h3.le i a' (by rw[h1.len,h.len];exact hi) (by omega);omega)
  (λv hv=>by obtain⟨e,rfl,h1,h2⟩:=hv;exact⟨_,by simp(disch:=omega)only[EV,EQ,xi],h1,h2⟩)
  (v:=((0:Int),d)) ⟨d,rfl,Dn.refl h.bx,λb hb=>by omega⟩
theorem Uz{o:List Int}{D d:List (List Int)}(h:Dn o.length D d){i:Nat}(hi:i<D.length):
  ∃r,aIJ ((i:Int),o) ((0:Int),d)=some r/\Dn o.length d r/\∀j,j<D.length->∀a,a<o.length->∀b,b<o.length->at2 r i a<=at2 D i b+at2 D j b+at2 D j a:=by
 have hm:=h.bx.hm;have hl:=h.len;exact cH (f:=λv=>(Xa ((i:Int),o) v).ev) (n:=D.length)
  (λj v=>∃e,v=((j:Int),e)/\Dn o.length d e/\∀j',j'<j->∀a,a<o.length->∀b,b<o.length->at2 e i a<=at2 D i b+at2 D j' b+at2 D j' a)
  (λr=>Dn o.length d r/\∀j,j<D.length->∀a,a<o.length->∀b,b<o.length->at2 r i a<=at2 D i b+at2 D j b+at2 D j a)
  (λj v hj hv=>by
   obtain⟨e,rfl,h1,h2⟩:=hv;have aa:j<e.length:=by rw[h1.len,h.len];exact hj
   obtain⟨r,e1,h3,h4⟩:=Rg (h.trans h1) hi hj;refine⟨(((j+1:Nat):Int),r),?_,_,rfl,h1.trans h3,λj' ab a ha b hb=>?_⟩;·simp(disch:=omega)only[EV,Xa,aa,e1];rfl
   ·by_cases e2:j'=j;·subst e2;exact h4 a ha b hb
    ·have h5:=h2 j' (by omega) a ha b hb;have h6:=h3.le i a (by rw[h1.len,h.len];exact hi) ha;omega)
  (λv hv=>by
   obtain⟨e,rfl,h1,h2⟩:=hv;have hq:¬D.length<e.length:=by rw[h1.len,h.len];omega
   exact⟨_,by simp(disch:=omega)only[EV,Xa,hq],h1,h2⟩)
  (v:=((0:Int),d)) ⟨d,rfl,Dn.refl h.bx,λb hb=>by omega⟩
theorem Qj{o:List Int}{D:List (List Int)}(hb:Bxd o.length D):
  ∃r,aKR o ((0:Int),D)=some r/\Dn o.length D r/\∀i,i<D.length->∀j,j<D.length->∀a,a<o.length->∀b,b<o.length->at2 r i a<=at2 D i b+at2 D j b+at2 D j a:=by
 have hm:=hb.hm;exact cH (f:=λv=>(GM o v).ev) (n:=D.length)
  (λi v=>∃e,v=((i:Int),e)/\Dn o.length D e/\∀i',i'<i->∀j,j<D.length->∀a,a<o.length->∀b,b<o.length->at2 e i' a<=at2 D i' b+at2 D j b+at2 D j a)
  (λr=>Dn o.length D r/\∀i,i<D.length->∀j,j<D.length->∀a,a<o.length->∀b,b<o.length->at2 r i a<=at2 D i b+at2 D j b+at2 D j a)
  (λi v hi hv=>by
   obtain⟨e,rfl,h1,h2⟩:=hv;have aa:i<e.length:=by rw[h1.len];exact hi
   obtain⟨r,e1,h3,h4⟩:=Uz h1 hi;refine⟨(((i+1:Nat):Int),r),?_,_,rfl,h1.trans h3,λi' ab j hj a ha b hb=>?_⟩;·simp(disch:=omega)only[EV,GM,aa,e1];rfl
   ·by_cases e2:i'=i;·subst e2;exact h4 j hj a ha b hb
    ·have h5:=h2 i' (by omega) j hj a ha b hb;have h6:=h3.le i' a (by rw[h1.len];omega) ha;omega)
  (λv hv=>by
   obtain⟨e,rfl,h1,h2⟩:=hv;have hq:¬D.length<e.length:=by rw[h1.len];omega
   exact⟨_,by simp(disch:=omega)only[EV,GM,hq],h1,h2⟩)
  (v:=((0:Int),D)) ⟨D,rfl,Dn.refl hb,λb hb=>by omega⟩
theorem Lu:∀(a b:List Nat),a.length=b.length->(∀i,i<a.length->a.getD i 0<=b.getD i 0)->a.sum<=b.sum/\∀i,i<a.length->a.getD i 0<b.getD i 0->a.sum<b.sum
 | [],[],_,_=>⟨xm _,λi hi=>absurd hi (xex i)⟩
 | [],y::b,h,_=>by simp at h
 |x::a,[],h,_=>by simp at h
 |x::a,y::b,h,hle=>by
  have hl:a.length=b.length:=by simpa using h
  obtain⟨h1,h2⟩:=Lu a b hl λi hi=>by simpa using hle (i+1) (by simpa using hi)
  have h0:x<=y:=by simpa using hle 0 (by simp)
  simp only[List.sum_cons];refine⟨by omega,λi hi aa=>?_⟩;cases i with
  |zero=>
   have:x<y:=by simpa using aa
   omega
  |succ i=>have:=h2 i (by simpa using hi) (by simpa using aa);omega
theorem L9{α β:Type}(g:α->β)(l:List α)(d:α)(i:Nat):(l.map g).getD i (g d)=g (l.getD i d):=by simp only[xd,oE];cases l[i]? <;>rfl
def gI(r:List Int):Nat:=(r.map Int.toNat).sum
def Xg(d:List (List Int)):Nat:=(d.map gI).sum
theorem Tc{a b:List Int}(hl:a.length=b.length)(h:∀i,i<a.length->a.getD i 0<=b.getD i 0):gI a<=gI b/\∀i,i<a.length->0<=a.getD i 0->a.getD i 0<b.getD i 0->gI a<gI b:=by
 have g:∀(l:List Int) i,(l.map Int.toNat).getD i 0=(l.getD i 0).toNat:=λl i=>L9 Int.toNat l 0 i;obtain⟨h1,h2⟩:=Lu (a.map Int.toNat) (b.map Int.toNat) (by simpa using hl) λi hi=>by rw[g,g];have:=h i (by simpa using hi);omega
 refine⟨h1,λi hi h0 aa=>h2 i (by simpa using hi) ?_⟩;rw[g,g];omega
theorem LB{n:Nat}{D d:List (List Int)}(hD:Bxd n D)(h:Dn n D d){i a:Nat}(hi:i<D.length)(ha:a<n)(ad:at2 d i a<at2 D i a):Xg d<Xg D:=by
 have g:∀(l:List (List Int)) i,(l.map gI).getD i 0=gI (l.getD i []):=λl i=>L9 gI l [] i;have hr:∀j,j<d.length->gI (d.getD j [])<=gI (D.getD j [])/\∀i,i<(d.getD j []).length->0<=(d.getD j []).getD i 0->(d.getD j []).getD i 0<(D.getD j []).getD i 0->gI (d.getD j [])<gI (D.getD j []):=λj hj=>by
  have ab:j<D.length:=by rw[<-h.len];exact hj
  refine Tc (by rw[h.bx.len hj,hD.len ab]) λx hx=>h.le j x ab (by rw[h.bx.len hj]at hx;exact hx)
 obtain⟨_,h2⟩:=Lu (d.map gI) (D.map gI) (by simpa using h.len) λj hj=>by rw[g,g];exact(hr j (by simpa using hj)).1
 have aa:i<d.length:=by rw[h.len];exact hi
 refine h2 i (by simpa using aa) ?_;rw[g,g];exact(hr i aa).2 a (by rw[h.bx.len aa];exact ha) (h.bx.at aa ha).1 ad
theorem Ph{o:List Int}:∀(m:Nat) {d:List (List Int)},Xg d=m->Bxd o.length d->∃r,OC o d=some r/\Bxd o.length r/\r.length=d.length:=by
 intro m;induction m using Nat.strongRecOn with
 |_ m ih=>
  intro d hm hb;obtain⟨b,e1,h1⟩:=Ql hb;cases b with
  |true=>exact⟨d,by unfold OC;rw[aE];simp(disch:=omega)only[EV,MU,e1],hb,rfl⟩
  |false=>obtain⟨i,j,a,b,hi,hj,ha,aa,ab⟩:=h1 rfl;obtain⟨r,e2,h2,h3⟩:=Qj hb;have h4:=h3 i hi j hj a ha b aa;have h5:=LB hb h2 hi ha (by omega);obtain⟨s,e3,h6,h7⟩:=ih (Xg r) (by omega) rfl h2.bx;refine⟨s,?_,h6,by rw[h7,h2.len]⟩;unfold OC at e3⊢;rw[aE];simp(disch:=omega)only[EV,MU,e1,e2];exact e3
theorem GH{o:List Int}{d:List (List Int)}(hb:Bxd o.length d):∃r,aEx o d=some (o,r)/\Bxd o.length r:=by obtain⟨r,e1,h1,_⟩:=Ph (Xg d) rfl hb;unfold aEx aDV;simp(disch:=omega)only[EV,GL hb,e1];exact⟨r,rfl,h1⟩
structure DrF(o:List Int)(d:List (List Int)):Prop where
 lo:o.length<=8
 lm:d.length<=8
 row:∀r∈d,r.length<=8
theorem DrF.o1{o:List Int}{d:List (List Int)}(h:DrF o d):aK o:=by have:=h.lo;unfold aK;omega
theorem DrF.d2{o:List Int}{d:List (List Int)}(h:DrF o d):eP d:=⟨by have:=h.lm;omega,λr hr=>by have:=h.row r hr;unfold aK;omega⟩
theorem Bxd.drf{o:List Int}{d:List (List Int)}(h:Bxd o.length d):DrF o d:=⟨by have:=h.hn;omega,by have:=h.hm;omega,λr hr=>by have:=(h.row r hr).1;have:=h.hn;omega⟩
theorem Ik{o:List Int}{d:List (List Int)}(hb:Bxd o.length d)(l:List Int)(i c:Int):∃r,aJU (l,i,c,o,([]:List (List (Int)))) d=some r/\r.length<=8/\∀x∈r,x.length<=8:=by
 have hn:=hb.hn;have hm:=hb.hm;exact cH (f:=λv=>(Yb (l,i,c,o,([]:List (List (Int)))) v).ev) (n:=8-d.length)
  (λa v=>v.length=d.length+a/\∀r∈v,r.length<=8) (λr=>r.length<=8/\∀x∈r,x.length<=8)
  (λa v ha hv=>by
   obtain⟨l1,l2⟩:=hv;have r1:=mH v (by omega);have hp:((v.length:Nat):Int)<8:=by omega
   refine⟨v++ [o],?_,by simp[l1];omega,λr aa=>?_⟩;·simp(disch:=omega)only[EV,Yb,hp,B2 (l:=o) (by omega),r1,eS]
   ·rcases xp.1 aa with h|h;·exact l2 r h
    ·rw[xo.1 h];omega)
  (λv hv=>by
   obtain⟨l1,l2⟩:=hv;have hp:¬((v.length:Nat):Int)<8:=by omega
   exact⟨v,by simp(disch:=omega)only[EV,Yb,hp],by omega,l2⟩)
  ⟨rfl,λr hr=>by have:=(hb.row r hr).1;omega⟩
theorem sQ{B:Int}{l:List Int}{i:Int}{o:List Int}{d:List (List Int)}(ho:1<=o.length)(hb:Bxd o.length d)(c:Int)(h:CK B l i)(hB:B<=800000):
  ∃o' d' i' c',aDx l i c o d=some (o',d',l,i',c')/\DrF o' d'/\CK (B+10) l i':=by
 have hn:=hb.hn;have hm:=hb.hm;have hD:=hb.drf;have h0:(((o.length:Nat):Int)==(0:Int))=false:=by rw[qf];omega
 obtain⟨x1,i1,c1,e1,aa,ab,h1⟩:=cK (o.length:Int) c h (by omega) (by omega);obtain⟨a,rfl⟩:∃a:Nat,x1=(a:Int):=⟨x1.toNat,by omega⟩
 have ha:a<o.length:=by omega
 obtain⟨x2,i2,c2,e2,_,_,h2⟩:=cK 60 c1 h1 (by omega) (by omega);unfold aDx aBg;simp(disch:=omega)only[EV,h0,e1,e2];cases k0:(x2==(0:Int))with
 |true=>obtain⟨x3,i3,c3,e3,_,h3⟩:=gE ([(-1:Int),(99:Int),(100:Int),(4611686018427387904:Int)]:List (Int)) c2 h2 (by omega) (by decide);simp(disch:=omega)only[EV,e3,ha];exact⟨_,_,_,_,rfl,⟨by simpa using hD.lo,hD.lm,hD.row⟩,h3.mono (by omega)⟩
 |false=>
  cases k1:(x2==(1:Int))with
  |true=>
   by_cases hd:0<d.length
   ·obtain⟨x3,i3,c3,e3,_,h3⟩:=gE ([(-1:Int),(99:Int),(100:Int),(-9223372036854775808:Int)]:List (Int)) c2 h2 (by omega) (by decide);have z:Int.toNat 0=0:=rfl;have hl:=hb.len hd;simp(disch:=omega)only[EV,e3,show(0:Int)<((d.length:Nat):Int) by omega,show aC (0:Int) d.length=true from bK (by omega) (by omega),z,hd,hl,ha];refine⟨_,_,_,_,rfl,⟨hD.lo,by simpa using hD.lm,λr hr=>?_⟩,h3.mono (by omega)⟩;rcases xcs hr with h|rfl;·exact hD.row r h
    ·rw[C7,hl];omega
   ·simp(disch:=omega)only[EV,show¬(0:Int)<((d.length:Nat):Int) by omega];exact⟨_,_,_,_,rfl,hD,h2.mono (by omega)⟩
  |false=>
   cases k2:(x2==(2:Int))with
   |true=>have r1:=nY o 1 (by omega);simp(disch:=omega)only[EV,r1];exact⟨_,_,_,_,rfl,⟨by simp;omega,hD.lm,hD.row⟩,h2.mono (by omega)⟩
   |false=>
    cases k3:(x2==(3:Int))with
    |true=>obtain⟨r,e3,h3,h4⟩:=Ik hb l i2 c2;simp(disch:=omega)only[EV,e3];exact⟨_,_,_,_,rfl,⟨hD.lo,h3,h4⟩,h2.mono (by omega)⟩
    |false=>
     cases k4:(x2==(4:Int))with
     |true=>simp(disch:=omega)only[EV];exact⟨_,_,_,_,rfl,⟨by simp,by simp,λr hr=>by cases hr⟩,h2.mono (by omega)⟩
     |false=>simp(disch:=omega)only[EV];exact⟨_,_,_,_,rfl,hD,h2.mono (by omega)⟩
theorem Y0{B:Int}{l:List Int}{i:Int}{M:Nat}(hM:1<=M/\M<=7)(c:Int)(h:CK B l i)(hB:B<=500000):
  ∃o d i' c',OQ (M:Int) l i c=some (o,d,l,i',c')/\DrF o d/\CK (B+200) l i':=by
 obtain⟨x,i1,c1,e1,_,_,h1⟩:=cK 3 c h (by omega) (by omega);unfold OQ aFl;simp(disch:=omega)only[EV,e1];cases k0:(x==(0:Int))with
 |true=>obtain⟨o,d,i2,c2,e2,⟨ho,hb⟩,h2⟩:=pM hM c1 h1 (by omega);obtain⟨o',d',i3,c3,e3,hD,h3⟩:=sQ ho hb c2 h2 (by omega);simp(disch:=omega)only[EV,e2,e3];exact⟨_,_,_,_,rfl,hD,h3.mono (by omega)⟩
 |false=>
  cases k1:(x==(1:Int))with
  |true=>obtain⟨o,d,i2,c2,e2,⟨ho,hb⟩,h2⟩:=P5 hM c1 h1 (by omega);obtain⟨o',d',i3,c3,e3,hD,h3⟩:=sQ ho hb c2 h2 (by omega);simp(disch:=omega)only[EV,e2,e3];exact⟨_,_,_,_,rfl,hD,h3.mono (by omega)⟩
  |false=>obtain⟨o,d,i2,c2,e2,⟨ho,hb⟩,h2⟩:=pM hM c1 h1 (by omega);obtain⟨r,e4,aa⟩:=GH hb;obtain⟨o',d',i3,c3,e3,hD,h3⟩:=sQ ho aa c2 h2 (by omega);simp(disch:=omega)only[EV,e2,e4,e3];exact⟨_,_,_,_,rfl,hD,h3.mono (by omega)⟩
def Dw{R:Type}(Q:R->Prop)(t:Tr R):Prop:=∃r,t.ev=some r/\Q r
theorem Dw.l{R:Type}{Q:R->Prop}{r:R}(h:Q r):Dw Q (.l r):=⟨r,rfl,h⟩
theorem Dw.t{R:Type}{Q:R->Prop}{b:Bool}{x y:Tr R}(h1:b=true->Dw Q x)(h2:b=false->Dw Q y):Dw Q (.t b x y):=by
 cases b;·exact h2 rfl
 ·exact h1 rfl
theorem Dw.g{R:Type}{Q:R->Prop}{b:Bool}{x:Tr R}(h1:b=true)(h2:Dw Q x):Dw Q (.g b x):=by subst h1;exact h2
theorem Dw.c{R S:Type}{Q:R->Prop}{x:Option S}{k:S->Tr R}{r:S}(h1:x=some r)(h2:Dw Q (k r)):Dw Q (.c S x k):=by obtain⟨y,e,h⟩:=h2;exact⟨y,by rw[qn,h1];exact e,h⟩
theorem Dw.pick{R:Type}{Q:R->Prop}{B n:Int}{l:List Int}{i c:Int}{k:(Int)×(List (Int))×(Int)×(Int)->Tr R}(hc:CK B l i)(hB:B<=900000)(hn:1<=n)(h:∀x i' c',0<=x->x<n->CK (B+2) l i'->Dw Q (k (x,l,i',c'))):Dw Q (.c _ (mW n l i c) k):=by obtain⟨x,i',c',e,x0,x1,h1⟩:=cK n c hc (by omega) hn;exact Dw.c e (h _ _ _ x0 x1 h1)
theorem Dw.among{R:Type}{Q:R->Prop}{B:Int}{L:List Int}{l:List Int}{i c:Int}{k:(Int)×(List (Int))×(Int)×(Int)->Tr R}(hc:CK B l i)(hB:B<=900000)(hn:1<=L.length)(h:∀x i' c',CK (B+2) l i'->Dw Q (k (x,l,i',c'))):Dw Q (.c _ (mF L l i c) k):=by obtain⟨x,i',c',e,_,h1⟩:=gE L c hc (by omega) hn;exact Dw.c e (h _ _ _ h1)
theorem Dw.one{R:Type}{Q:R->Prop}{B n:Int}{l:List Int}{i c:Int}{k:(Bool)×(List (Int))×(Int)×(Int)->Tr R}(hc:CK B l i)(hB:B<=900000)(hn:1<=n)(h:∀x i' c',CK (B+2) l i'->Dw Q (k (x,l,i',c'))):Dw Q (.c _ (F2 n l i c) k):=by obtain⟨x,i',c',e,h1⟩:=Le n c hc (by omega) hn;exact Dw.c e (h _ _ _ h1)
theorem Dw.bits{R:Type}{Q:R->Prop}{n:Nat}{x:Int}{k:List (Int)->Tr R}(hn:n<=1000)(h:∀s,s.length<=n->Dw Q (k s)):Dw Q (.c _ (Ff (n:Int) x) k):=by obtain⟨s,e,hs⟩:=Up hn x;exact Dw.c e (h s hs)
theorem Jl{B:Int}{l:List Int}{i:Int}(n:Nat)(c:Int)(h:CK B l i)(hB:B<=900000):
  ∃i' c' o,aLI (n:Int) ((0:Int),l,i,c,([]:List Int))=some (l,i',c',o)/\o.length<=7/\CK (B+14) l i':=by
 obtain⟨r,h1,i',c',o,rfl,h2⟩:=cH (f:=λv=>(Vb (n:Int) v).ev) (n:=min n 7)
  (λa v=>∃i c o,v=((a:Int),l,i,c,o)/\o.length=a/\CK (B+2*a) l i)
  (λr=>∃i c o,r=(l,i,c,o)/\o.length<=7/\CK (B+14) l i)
  (λa v ha hv=>by
   obtain⟨i,c,o,rfl,l1,hc⟩:=hv;obtain⟨x,i1,c1,e1,_,_,h1⟩:=cK 20 c hc (by omega) (by omega);have r1:=nY o x (by omega);have aa:a<n:=by omega
   have ab:(a:Int)<7:=by omega
   refine⟨(((a+1:Nat):Int),l,i1,c1,o++ [x]),?_,i1,c1,_,rfl,by simp[l1],h1.mono (by omega)⟩;simp(disch:=omega)only[EV,Vb,aa,ab,e1,r1];rfl)
  (λv hv=>by
   obtain⟨i,c,o,rfl,l1,hc⟩:=hv;refine⟨(l,i,c,o),?_,i,c,o,rfl,by omega,hc.mono (by omega)⟩;by_cases hn:7<n
   ·have ab:¬((min n 7:Nat):Int)<7:=by omega
    have aa:min n 7<n:=by omega
    simp(disch:=omega)only[EV,Vb,aa,ab]
   ·have aa:¬min n 7<n:=by omega
    simp(disch:=omega)only[EV,Vb,aa])
  (v:=((0:Int),l,i,c,([]:List Int))) ⟨i,c,[],rfl,rfl,h.mono (by omega)⟩
 exact⟨i',c',o,h1,h2⟩
theorem Sg{B:Int}{l:List Int}{i:Int}(n:Nat)(c:Int)(h:CK B l i)(hB:B<=800000):
  ∃L i' c',HN (n:Int) l i c=some (L,l,i',c')/\L.length<=8/\CK (B+18) l i':=by
 obtain⟨i1,c1,o,e1,ho,h1⟩:=Jl n c h (by omega);obtain⟨b,i2,c2,e2,h2⟩:=Le 12 c1 h1 (by omega) (by omega);unfold HN aCO;cases b with
 |false=>simp(disch:=omega)only[EV,e1,e2];exact⟨_,_,_,rfl,by omega,h2.mono (by omega)⟩
 |true=>obtain⟨x,i3,c3,e3,_,h3⟩:=gE [(0:Int),(-1:Int),(100:Int)] c2 h2 (by omega) (by decide);have r1:=nY o x (by omega);simp(disch:=omega)only[EV,e1,e2,e3,r1];exact⟨_,_,_,rfl,by simp;omega,h3.mono (by omega)⟩
theorem Dw.list12{R:Type}{Q:R->Prop}{B:Int}{n:Nat}{l:List Int}{i c:Int}{k:(List (Int))×(List (Int))×(Int)×(Int)->Tr R}(hc:CK B l i)(hB:B<=800000)(h:∀L i' c',L.length<=8->CK (B+18) l i'->Dw Q (k (L,l,i',c'))):Dw Q (.c _ (HN (n:Int) l i c) k):=by obtain⟨L,i',c',e,hL,h1⟩:=Sg n c hc hB;exact Dw.c e (h _ _ _ hL h1)
theorem Qg{B:Int}{l:List Int}{i:Int}(o:List Int)(ds:List (List Int))(c:Int)(aa:CK B l i)(hB:B<=700000):
  Dw (λr=>r.2.2.2.2.1.length<=9/\r.2.2.2.2.2.1=l/\CK (B+40) l r.2.2.2.2.2.2.1) (NH o ds l i c):=by
 unfold NH;refine Dw.pick aa (by omega) (by omega) λx i1 c1 x0 x1 h1=>?_;refine Dw.c (nU _ _) (Dw.c (jX _ _) (Dw.c (nU _ _) (Dw.c (jX _ _) ?_)));generalize hS:max (1:Int) (min ((o.length:Nat):Int) 7)=S;generalize hT:max (1:Int) (min ((ds.length:Nat):Int) 7)=T;have ab:1<=S:=by omega
 have ad:1<=T:=by omega
 dsimp only
 repeat' first
  |refine Dw.l ⟨?_,rfl,?_⟩
  |refine Dw.g (qc (by simp only[xk,xy];omega)) ?_
  |refine Dw.t (λ_=>?_) (λ_=>?_)
  |(apply Dw.pick<;>first|assumption|omega|(intros;try dsimp only))
  |(apply Dw.among<;>first|assumption|omega|decide|(intros;try dsimp only))
  |(apply Dw.list12<;>first|assumption|omega|(intros;try dsimp only))
  |(show CK _ _ _;refine CK.mono (by assumption) (by omega))
  |(simp only[xj,xk,xy];omega)
  |omega
structure DrA(o:List Int)(ds:List (List Int))(s:List Int):Prop where
 fld:DrF o ds
 set:s.length<=9
theorem DrA.low{o s:List Int}{ds:List (List Int)}(h:DrA o ds s):aK o/\eP ds/\aK s:=⟨h.fld.o1,h.fld.d2,by have:=h.set;unfold aK;omega⟩
theorem Atl.drA{o s:List Int}{ds:List (List Int)}{n:Int}(h:Atl o ds s n):DrA o ds s:=by have h1:=h.fld.len;have h2:=h.fld.clients;have h3:=qA h.fld;have h4:=h.set.len;exact⟨⟨by omega,by omega,λr hr=>by have:=h3 r hr;omega⟩,by omega⟩
theorem OB{l:List Int}:∀(m:Nat) {B i c n:Int} {o s:List Int} {ds:List (List Int)},CK B l i->B+50*m<=600000->DrA o ds s->
  ∃i' c' o' aa n' s',Ld 0 ((m:Int),l,i,c,o,ds,n,s)=some (l,i',c',o',aa,n',s')/\DrA o' aa s'/\CK (B+50*m) l i':=by
 intro m;induction m with
 |zero=>intro B i c n o s ds hc hB hA;refine⟨i,c,o,ds,n,s,?_,hA,hc.mono (by omega)⟩;unfold Ld;rw[aE];rfl
 |succ m ih=>
  intro B i c n o s ds hc hB hA;obtain⟨q1,q2,q3⟩:=hA.low;have e1:=kF q1 q2 q3 n;have ab:(0:Int)<((m+1:Nat):Int):=by omega
  have aj:=hc.2.2;have hw:IntKind.wrap .i64 (((m+1:Nat):Int) -1)=(m:Int):=by rw[aN (by omega) (by omega)];omega
  cases hb:cC o ds s n with
  |false=>refine⟨i,c,o,ds,n,s,?_,hA,hc.mono (by omega)⟩;unfold Ld;rw[aE];unfold Ki;dsimp only;rw[qo,qc ab,qa,qn,e1,hb,xc,qo,qb,qq]
  |true=>
   have ai:=atl_iff.1 hb;obtain⟨⟨kd,a,b,d,L,l',i1,c1⟩,e2,h1,h2,h3⟩:=Qg o ds c hc (by omega);simp only at h1 h2 h3;subst h2;have af:aKy o ds l' i c=some (kd,a,b,d,L,l',i1,c1):=e2;have e3:=FY ai kd a b d (l:=L) (by unfold aK;omega);cases ad:wR o ds s n kd a b d L with
   |none=>
    rw[ad]at e3;obtain⟨i',c',o',aa,n',s',e4,h4,h5⟩:=ih (c:=c1) (n:=n) h3 (by omega) hA;refine⟨i',c',o',aa,n',s',?_,h4,h5.mono (by omega)⟩;unfold Ld at e4⊢;rw[aE];have ae:(Ki 0 (((m+1:Nat):Int),l',i,c,o,ds,n,s)).ev=some (.inl ((m:Int),l',i1,c1,o,ds,n,s)):=by unfold Ki;dsimp only;rw[qo,qc ab,qa,qn,e1,hb,xc,qo,qa,qn,af,xc,qn];dsimp only;rw[e3,xc,qo,hw];rfl
    rw[ae];exact e4
   |some y=>
    rw[ad]at e3;have ah:=Au ad;obtain⟨i',c',o',aa,n',s',e4,h4,h5⟩:=ih (c:=c1) (n:=y.1) h3 (by omega) ah.drA;refine⟨i',c',o',aa,n',s',?_,h4,h5.mono (by omega)⟩;unfold Ld at e4⊢;rw[aE];have ae:(Ki 0 (((m+1:Nat):Int),l',i,c,o,ds,n,s)).ev=some (.inl ((m:Int),l',i1,c1,y.2.1,y.2.2.1,y.1,y.2.2.2)):=by unfold Ki;dsimp only;rw[qo,qc ab,qa,qn,e1,hb,xc,qo,qa,qn,af,xc,qn];dsimp only;rw[e3,xc,qo,hw];rfl
    rw[ae];exact e4
theorem Dw.atl0{R:Type}{Q:R->Prop}{B x i c n:Int}{l o s:List Int}{ds:List (List Int)}{k:(List (Int))×(Int)×(Int)×(List (Int))×(List (List (Int)))×(Int)×(List (Int))->Tr R}(hc:CK B l i)(hB:B<=500000)(ab:0<=x)(ad:x<4)(hA:DrA o ds s)
  (h:∀i' c' o' aa n' s',DrA o' aa s'->CK (B+200) l i'->Dw Q (k (l,i',c',o',aa,n',s'))):Dw Q (.c _ (Ld 0 (x,l,i,c,o,ds,n,s)) k):=by
 obtain⟨m,rfl⟩:∃m:Nat,x=(m:Int):=⟨x.toNat,by omega⟩
 obtain⟨i',c',o',aa,n',s',e,h1,h2⟩:=OB m (c:=c) (n:=n) hc (by omega) hA;exact Dw.c e (h _ _ _ _ _ _ h1 (h2.mono (by omega)))
structure DrA'(o:List Int)(ds:List (List Int))(s:List Int):Prop where
 fld:DrF o ds
 set:s.length<=10
theorem DrA'.low{o s:List Int}{ds:List (List Int)}(h:DrA' o ds s):aK o/\eP ds/\aK s:=⟨h.fld.o1,h.fld.d2,by have:=h.set;unfold aK;omega⟩
theorem Ar{B:Int}{l:List Int}{i:Int}(c:Int)(aa:CK B l i)(hB:B<=100000):
  Dw (λr=>DrA' r.1 r.2.1 r.2.2.2.1/\r.2.2.2.2.1=l/\CK (B+600) l r.2.2.2.2.2.1) (QB l i c):=by
 obtain⟨o,ds,i1,c1,e1,hD,h1⟩:=Y0 (M:=6) (by omega) c aa (by omega);have ab:OQ (6:Int) l i c=some (o,ds,l,i1,c1):=e1;have e2:=eQ hD.o1 hD.d2;have ho:=hD.lo;unfold QB;refine Dw.c ab (Dw.c e2 ?_);have ad:DrA o ds []:=⟨hD,by simp⟩
 have hp:1<=IntKind.wrap .i64 ((1:Int)*2^(min (Int.toNat ((o.length:Nat):Int)) (IntKind.bits .i64))):=by
  have:∀k:Nat,k<=8->1<=IntKind.wrap .i64 ((1:Int)*2^(min (Int.toNat ((k:Nat):Int)) (IntKind.bits .i64))):=by decide
  exact this _ ho
 dsimp only
 repeat' first
  |refine Dw.l ⟨⟨?_,?_⟩,rfl,?_⟩
  |(refine Dw.g (qc ?_) ?_)
  |refine Dw.t (λ_=>?_) (λ_=>?_)
  |(apply Dw.pick<;>first|assumption|omega|(intros;try dsimp only))
  |(apply Dw.one<;>first|assumption|omega|(intros;try dsimp only))
  |(apply Dw.among<;>first|assumption|omega|decide|(intros;try dsimp only))
  |(apply Dw.atl0<;>first|assumption|omega|(intros;try dsimp only))
  |(apply Dw.bits<;>first|omega|(intros;try dsimp only))
  |exact DrA.mk (by assumption) (by omega)
  |(show CK _ _ _;refine CK.mono (by assumption) (by omega))
  |(exact DrA.fld (by assumption))
  |(simp only[xj,xk,xy];have:=DrA.set (by assumption);omega)
  |omega
theorem Dw.of{R:Type}{Q:R->Prop}{B:Int}{L:List (List UInt8)}{l:List Int}{i c:Int}{k:(List UInt8)×(List (Int))×(Int)×(Int)->Tr R}(P:List UInt8->Prop)(hc:CK B l i)(hB:B<=900000)(hn:1<=L.length)(hP:∀x∈L,P x)(h:∀x i' c',P x->CK (B+2) l i'->Dw Q (k (x,l,i',c'))):Dw Q (.c _ (Cj L l i c) k):=by obtain⟨x,i',c',e,hx,h1⟩:=Dv L c hc (by omega) hn;exact Dw.c e (h _ _ _ (hP x hx) h1)
theorem Dw.num{R:Type}{Q:R->Prop}{x:Int}{k:List UInt8->Tr R}(h0:0<=x)(h1:x<10000000)(h:∀t:List UInt8,t.length<=7->Dw Q (k t)):Dw Q (.c _ (qQ 1000000 x) k):=
 Dw.c (oU h0 h1) (h _ (fN (by omega)))
theorem Dw.spoilt{R:Type}{Q:R->Prop}{B:Int}{s W:List UInt8}{l:List Int}{i c:Int}{k:(List UInt8)×(List (Int))×(Int)×(Int)->Tr R}(hc:CK B l i)(hB:B<=900000)(hs:s.length<=20000)(hW:1<=W.length)(aa:W.length<=100)(h:∀t i' c',t.length<=s.length+5->CK (B+6) l i'->Dw Q (k (t,l,i',c'))):Dw Q (.c _ (CB s W l i c) k):=by obtain⟨t,i',c',e,ht,h1⟩:=M6 s W c hc hB hs hW aa;exact Dw.c e (h _ _ _ ht h1)
theorem vG{B:Int}{l:List Int}{i:Int}(c:Int)(aa:CK B l i)(hB:B<=800000):
  Dw (λr=>r.1.length<=60/\r.2.1=l/\CK (B+20) l r.2.2.1) (KY l i c):=by
 unfold KY;refine Dw.pick aa (by omega) (by omega) λx i1 c1 x0 x1 h1=>Dw.num x0 (by simp only;omega) λt1 n1=>?_;refine Dw.pick h1 (by omega) (by omega) λy i2 c2 y0 y1 h2=>Dw.num y0 (by simp only;omega) λt2 n2=>?_;obtain⟨z,i3,c3,e3,hz,h3⟩:=gE ([(0:Int),(3:Int),(9:Int),(20:Int),(99:Int),(100:Int)]:List (Int)) c2 h2 (by omega) (by decide);have ab:0<=z/\z<=100:=(show∀z∈([(0:Int),(3:Int),(9:Int),(20:Int),(99:Int),(100:Int)]:List (Int)),0<=z/\z<=100 by decide) z hz;refine Dw.c e3 (Dw.num ab.1 (by simp only;omega) λt3 n3=>?_);dsimp only
 repeat refine Dw.g (qc (by simp only[xj,xk,xy];omega)) ?_
 refine Dw.of (λt=>t.length<=50) h3 (by omega) (by simp only[xk];omega) (by
  simp only[xfp,xj,xk,xy]
  repeat refine⟨by omega,?_⟩
  exact λx hx=>by cases hx) λt i4 c4 ht h4=>?_
 refine Dw.one h4 (by omega) (by omega) λq i5 c5 h5=>Dw.t (λ_=>?_) (λ_=>?_);·exact Dw.spoilt h5 (by omega) (by simp only;omega) (by decide) (by decide) λu i6 c6 hu h6=>Dw.l ⟨by simp only at hu⊢;omega,rfl,h6.mono (by omega)⟩
 ·exact Dw.l ⟨by simp only;omega,rfl,h5.mono (by omega)⟩
theorem Dw.line12{R:Type}{Q:R->Prop}{B:Int}{l:List Int}{i c:Int}{k:(List UInt8)×(List (Int))×(Int)×(Int)->Tr R}(hc:CK B l i)(hB:B<=800000)(h:∀t i' c',t.length<=60->CK (B+20) l i'->Dw Q (k (t,l,i',c'))):Dw Q (.c _ (Jh l i c) k):=by obtain⟨⟨t,l',i',c'⟩,e,h1,h2,h3⟩:=vG c hc hB;simp only at h1 h2 h3;subst h2;exact Dw.c e (h _ _ _ h1 h3)
theorem Val.low{a b:List UInt8}{n:Int}{recs:List (List UInt8×List UInt8)}(h:Val a b n recs):a.length<=30000/\b.length<=30000/\aJ a/\aJ b:=by have:=h.len;rw[xj]at this;unfold aJ;omega
theorem aBm:Val [] [] 0 []:=⟨V2 rfl,⟨[],V2 rfl⟩,rfl⟩
theorem Ok{l:List Int}(k:(Bool)×(Int)×(List UInt8)×(List UInt8)×(Int)):∀(m:Nat) {B i c n cc:Int} {o s:List Int} {ds:List (List Int)} {d p:List UInt8},CK B l i->B+30*m<=600000->DrA' o ds s->(k.1=true->Atl o ds s n)->(∃recs,Val d p cc recs)->
  ∃i' c' o' ab s' n' d' p' aa,IC k ((m:Int),l,i,c,o,ds,s,n,d,p,cc)=some (l,i',c',o',ab,s',n',d',p',aa)/\DrA' o' ab s'/\(∃recs,Val d' p' aa recs)/\CK (B+30*m) l i':=by
 obtain⟨b,k⟩:=k;intro m;induction m with
 |zero=>intro B i c n cc o s ds d p hc hB hA _ hv;refine⟨i,c,o,ds,s,n,d,p,cc,?_,hA,hv,hc.mono (by omega)⟩;unfold IC;rw[aE];rfl
 |succ m ih=>
  intro B i c n cc o s ds d p hc hB hA ah hv;have ad:(0:Int)<((m+1:Nat):Int):=by omega
  have ao:=hc.2.2;have hw:IntKind.wrap .i64 (((m+1:Nat):Int) -1)=(m:Int):=by rw[aN (by omega) (by omega)];omega
  cases b with
  |false=>refine⟨i,c,o,ds,s,n,d,p,cc,?_,hA,hv,hc.mono (by omega)⟩;unfold IC;rw[aE];unfold Xr;dsimp only;rw[qo,qc ad,qa,qo,qb,qq]
  |true=>
   have hx:=ah rfl;obtain⟨⟨t,l',i1,c1⟩,e1,n1,n2,h1⟩:=vG c hc (by omega);simp only at n1 n2 h1;subst n2;have e1:Jh l' i c=some (t,l',i1,c1):=e1;obtain⟨recs,hv⟩:=hv;obtain⟨q1,q2,q3,q4⟩:=hv.low;obtain⟨o',ab,s',n',d',p',aa,rep,ae,_,_,_,e2,e3⟩:=vU hx q3 q4 (line:=t) (by unfold aJ;omega) cc;have ai:∃recs,Val d' p' aa recs:=by
    rcases e3 recs hv with h|⟨_,h,_⟩
    ·obtain⟨_,_,_,_,rfl,rfl,rfl⟩:o'=o/\ab=ds/\s'=s/\n'=n/\d'=d/\p'=p/\aa=cc:=by simpa using h
     exact⟨recs,hv⟩
    ·exact⟨_,h⟩
   have af:=ae.drA;obtain⟨i',c',o2,aj,s2,n2,d2,p2,ak,e4,h4,h5,h6⟩:=ih (c:=c1) (n:=n') h1 (by omega) ⟨af.fld,by have:=af.set;omega⟩ (λ_=>ae) ai;refine⟨i',c',o2,aj,s2,n2,d2,p2,ak,?_,h4,h5,h6.mono (by omega)⟩;unfold IC at e4⊢;rw[aE];have al:(Xr (true,k) (((m+1:Nat):Int),l',i,c,o,ds,s,n,d,p,cc)).ev=some (.inl ((m:Int),l',i1,c1,o',ab,s',n',d',p',aa)):=by unfold Xr;dsimp only;rw[qo,qc ad,qa,qo,qa,qn,e1,xc,qn];dsimp only;rw[e2,xc,qq,hw]
   rw[al];exact e4
theorem NJ{l:List Int}(k:(Int)×(List UInt8)×(List UInt8)×(Int)×(List (Int))×(List (List (Int)))×(List (Int))×(Int)):∀(m:Nat) {B i c n:Int} {d p:List UInt8} {recs:List (List UInt8×List UInt8)},CK B l i->B+2*m<=600000->Val d p n recs->recs.length+m=61->
  ∃i' c' d' p' n',aAR k (l,i,c,d,p,n)=some (l,i',c',d',p',n')/\(∃recs,Val d' p' n' recs)/\CK (B+2*m) l i':=by
 intro m;induction m with
 |zero=>intro B i c n d p recs _ _ hv hm;have:=hv.len;omega
 |succ m ih=>
  intro B i c n d p recs hc hB hv hm;obtain⟨x,i1,c1,e1,x0,x1,h1⟩:=cK 2 c hc (by omega) (by omega);have hw:IntKind.wrap .i64 (59+x)=59+x:=aN (by omega) (by omega);obtain⟨_,_,q3,q4⟩:=hv.low;unfold aAR;rw[aE];by_cases hn:n<59+x
  ·obtain⟨⟨va,vb,vn,vs⟩,a1,_,a2,_,_,a3⟩:=sH q3 q4 (c:=[116,111,116,97,108]) (r:=[63]) (by unfold aJ;decide) (by unfold aJ;decide) n;simp only at a2 a3;subst a2;obtain⟨a4,a5⟩:=a3 recs hv (by omega) (by decide);obtain⟨rfl,rfl⟩:=Prod.mk.inj a4;obtain⟨i',c',d',p',n',e4,h4,h5⟩:=ih (c:=c1) h1 (by omega) a5 (by rw[xj,JH];omega);refine⟨i',c',d',p',n',?_,h4,h5.mono (by omega)⟩;have aa:(Qh k (l,i,c,va,p,n)).ev=some (.inl (l,i1,c1,va,vb,n+1)):=by unfold Qh;dsimp only;rw[qn,e1,xc,qo];dsimp only;rw[hw,qc hn,qa,qn,a1,xc];rfl
   rw[aa];exact e4
  ·refine⟨i1,c1,d,p,n,?_,⟨recs,hv⟩,h1.mono (by omega)⟩;have aa:(Qh k (l,i,c,d,p,n)).ev=some (.inr (l,i1,c1,d,p,n)):=by unfold Qh;dsimp only;rw[qn,e1,xc,qo];dsimp only;rw[hw,qd hn,qb,qq]
   rw[aa]
theorem L1{o s:List Int}{ds:List (List Int)}(h:DrA' o ds s)(n:Int):∃b o' aa s' n',Hd o ds s n=some (n',[],[],0,b,o',aa,s')/\DrA' o' aa s'/\(b=true->Atl o' aa s' n'/\(o',aa,s',n')=(o,ds,s,n)):=by
 obtain⟨lo,ld,ls⟩:=h.low;rw[lK lo ld ls];cases hA:cC o ds s n with
 |false=>exact⟨false,[],[],[],0,rfl,⟨⟨by decide,by decide,λr hr=>by cases hr⟩,by decide⟩,λh=>by cases h⟩
 |true=>exact⟨true,o,ds,s,n,rfl,h,λ_=>⟨atl_iff.1 hA,rfl⟩⟩
structure DrC(o:List Int)(ds:List (List Int))(s:List Int)(d p:List UInt8):Prop where
 atl:DrA' o ds s
 dl:d.length<=30000
 pl:p.length<=30000
theorem DrC.low{o s:List Int}{ds:List (List Int)}{d p:List UInt8}(h:DrC o ds s d p):aJ d/\aJ p:=by have:=h.dl;have:=h.pl;unfold aJ;omega
theorem La{B:Int}{l:List Int}{i:Int}(c:Int)(ab:CK B l i)(hB:B<=100000):
  Dw (λr=>DrC r.1 r.2.1 r.2.2.1 r.2.2.2.2.1 r.2.2.2.2.2.1/\r.2.2.2.2.2.2.2.1=l/\CK (B+1100) l r.2.2.2.2.2.2.2.2.1) (ME l i c):=by
 obtain⟨⟨o,ds,n,s,l1,i1,c1⟩,e1,hA,hl,h1⟩:=Ar c ab hB;simp only at hA hl h1;subst hl;obtain⟨b,o2,ai,s2,n2,e2,ad,hb⟩:=L1 hA n;unfold ME;refine Dw.c e1 (Dw.c e2 (Dw.pick h1 (by omega) (by omega) λx i3 c3 x0 x1 h3=>?_));obtain⟨m,rfl⟩:∃m:Nat,x=(m:Int):=⟨x.toNat,by omega⟩
 obtain⟨i4,c4,o4,ae,s4,n4,d4,p4,aj,e4,aa,⟨recs,hv⟩,h4⟩:=Ok (b,(0:Int),([]:List UInt8),([]:List UInt8),(0:Int)) m (c:=c3) (n:=n2) h3 (by omega) ad (λh=>(hb h).1) ⟨[],aBm⟩;obtain⟨q1,q2,_,_⟩:=hv.low;refine Dw.c e4 (Dw.pick h4 (by omega) (by omega) λy i5 c5 y0 y1 h5=>?_);refine Dw.t (λ_=>Dw.l ⟨⟨aa,q1,q2⟩,rfl,h5.mono (by omega)⟩) λ_=>Dw.t (λ_=>Dw.l ⟨⟨aa,q1,q2⟩,rfl,h5.mono (by omega)⟩) λ_=>Dw.t (λ_=>Dw.l ⟨⟨aa,V1 _,V1 _⟩,rfl,h5.mono (by omega)⟩) λ_=>Dw.t (λ_=>?_) λ_=>Dw.l ⟨⟨aa,q1,q2⟩,rfl,h5.mono (by omega)⟩;have hr:=hv.len;obtain⟨i6,c6,d6,p6,n6,e6,⟨af,ah⟩,h6⟩:=NJ ((0:Int),([]:List UInt8),([]:List UInt8),(0:Int),o4,ae,s4,n4) (61-recs.length) (c:=c5) h5 (by omega) hv (by omega);obtain⟨q5,q6,_,_⟩:=ah.low;exact Dw.c e6 (Dw.l ⟨⟨aa,q5,q6⟩,rfl,h6.mono (by omega)⟩)
theorem QS{l:List Int}(k:(Int)×(List UInt8)×(List UInt8)×(Int)×(List (Int))×(List (List (Int)))×(List (Int))×(Int)×(List UInt8)×(List UInt8)×(Int)):∀(m:Nat) {B i c:Int} {t:List UInt8},CK B l i->B+30*m<=600000->t.length+100*m<=10000->
  ∃r,KS k (t,(m:Int),l,i,c)=some r/\r.length<=10000:=by
 intro m;induction m with
 |zero=>intro B i c t _ _ ht;refine⟨t,?_,by omega⟩;unfold KS;rw[aE];rfl
 |succ m ih=>
  intro B i c t hc hB ht;have aa:(0:Int)<((m+1:Nat):Int):=by omega
  have ad:=hc.2.2;have hw:IntKind.wrap .i64 (((m+1:Nat):Int) -1)=(m:Int):=by rw[aN (by omega) (by omega)];omega
  obtain⟨⟨u,l',i1,c1⟩,e1,n1,n2,h1⟩:=vG c hc (by omega);simp only at n1 n2 h1;subst n2;have e1:Jh l' i c=some (u,l',i1,c1):=e1;have g1:t.length+List.length ([10]:List UInt8)<=9223372036854775807:=by rw[JH];omega
  have g2:(t++ [10]).length+u.length<=9223372036854775807:=by rw[xj,JH];omega
  obtain⟨r,e4,h4⟩:=ih (c:=c1) (t:=(t++ [10])++u) h1 (by omega) (by rw[xj,xj,JH];omega);refine⟨r,?_,h4⟩;unfold KS at e4⊢;rw[aE];have ab:(KH k (t,((m+1:Nat):Int),l',i,c)).ev=some (.inl (((t++ [10])++u),(m:Int),l',i1,c1)):=by unfold KH;dsimp only;rw[qo,qc aa,qa,qp,qc g1,qa,qn,e1,xc,qp];dsimp only;rw[qc g2,qa,qq,hw]
  rw[ab];exact e4
theorem E2{l:List Int}(h:CK 0 l 0):∃o ds s n d p c t,aLP l=some (o,ds,s,n,d,p,c,t)/\DrC o ds s d p/\t.length<=10000:=by
 obtain⟨⟨o,ds,s,n,d,p,cc,l1,i1,c1⟩,e1,hD,hl,h1⟩:=La 0 h (by omega);simp only at hD hl h1;subst hl;have key:Dw (λr=>DrC r.1 r.2.1 r.2.2.1 r.2.2.2.2.1 r.2.2.2.2.2.1/\r.2.2.2.2.2.2.2.length<=10000) (NZ l1):=by
  unfold NZ;refine Dw.c e1 (Dw.line12 h1 (by omega) λt i2 c2 ht h2=>Dw.pick h2 (by omega) (by omega) λx i3 c3 x0 x1 h3=>?_);obtain⟨m,rfl⟩:∃m:Nat,x=(m:Int):=⟨x.toNat,by omega⟩
  have hm:∀m:Nat,m<24->(decide ((0:Int)<=(IntKind.wrap .i64 ((8:Int)+(IntKind.wrap .i64 (Int.tdiv (m:Int) (23:Int))))))&&decide ((IntKind.wrap .i64 ((8:Int)+(IntKind.wrap .i64 (Int.tdiv (m:Int) (23:Int)))))<=((List.length ([(0:Int),(1:Int),(2:Int),(3:Int),(4:Int),(5:Int),(6:Int),(7:Int),(30:Int)]:List (Int)):Nat):Int)))=true/\
    1<=(List.drop 0 (List.take (Int.toNat (IntKind.wrap .i64 ((8:Int)+(IntKind.wrap .i64 (Int.tdiv (m:Int) (23:Int)))))) ([(0:Int),(1:Int),(2:Int),(3:Int),(4:Int),(5:Int),(6:Int),(7:Int),(30:Int)]:List (Int)))).length/\
    ∀y∈(List.drop 0 (List.take (Int.toNat (IntKind.wrap .i64 ((8:Int)+(IntKind.wrap .i64 (Int.tdiv (m:Int) (23:Int)))))) ([(0:Int),(1:Int),(2:Int),(3:Int),(4:Int),(5:Int),(6:Int),(7:Int),(30:Int)]:List (Int)))),0<=y/\y<=30:=by decide
  obtain⟨g1,g2,g3⟩:=hm m (by omega);refine Dw.g rfl (Dw.g g1 ?_);obtain⟨y,i4,c4,e4,hy,h4⟩:=gE _ c3 h3 (by omega) g2;obtain⟨y0,y1⟩:=g3 y hy;obtain⟨q,rfl⟩:∃q:Nat,y=(q:Int):=⟨y.toNat,by omega⟩
  obtain⟨r,e5,h5⟩:=QS ((0:Int),([]:List UInt8),([]:List UInt8),(0:Int),o,ds,s,n,d,p,cc) q (c:=c4) (t:=t) h4 (by omega) (by omega);exact Dw.c e4 (Dw.c e5 (Dw.l ⟨hD,h5⟩))
 obtain⟨⟨o,ds,s,n,d,p,cc,t⟩,e,k1,k2⟩:=key;exact⟨o,ds,s,n,d,p,cc,t,e,k1,k2⟩
theorem G2{l:List Int}(h:CK 0 l 0):∃o ds n d p c s,aIl l=some (o,ds,n,d,p,c,s)/\DrA' o ds s/\aJ d/\aJ p:=by
 obtain⟨⟨o,ds,n,s,l1,i1,c1⟩,e1,hA,hl,h1⟩:=Ar 0 h (by omega);simp only at hA hl h1;subst hl;obtain⟨b,o2,ab,s2,n2,e2,ad,hb⟩:=L1 hA n;have key:Dw (λr=>DrA' r.1 r.2.1 r.2.2.2.2.2.2/\aJ r.2.2.2.1/\aJ r.2.2.2.2.1) (OJ l1):=by
  unfold OJ;refine Dw.c e1 (Dw.c e2 (Dw.pick h1 (by omega) (by omega) λx i3 c3 x0 x1 h3=>?_));obtain⟨m,rfl⟩:∃m:Nat,x=(m:Int):=⟨x.toNat,by omega⟩
  obtain⟨i4,c4,o4,ae,s4,n4,d4,p4,aa,e4,ah,⟨recs,hv⟩,h4⟩:=Ok (b,(0:Int),([]:List UInt8),([]:List UInt8),(0:Int)) m (c:=c3) (n:=n2) h3 (by omega) ad (λh=>(hb h).1) ⟨[],aBm⟩;obtain⟨_,_,q3,q4⟩:=hv.low;have af:aKP (b,(0:Int),([]:List UInt8),([]:List UInt8),(0:Int),o,ds,n,s) ((m:Int),l1,i3,c3,o2,ab,s2,n2,([]:List UInt8),([]:List UInt8),(0:Int))=some (l1,i4,c4,o4,ae,s4,n4,d4,p4,aa):=e4;refine Dw.c af (Dw.one h4 (by omega) (by omega) λy i5 c5 h5=>Dw.t (λ_=>?_) (λ_=>?_));·obtain⟨ra,rb,i6,c6,e6,ai,aj,h6⟩:=tV c5 h5 (by omega);obtain⟨v,v1,_,v2,_,v3,_⟩:=sH q3 q4 (jB (s:=ra) (by omega)) (jB (s:=rb) (by omega)) aa;refine Dw.c e6 (Dw.c v1 (Dw.one h6 (by omega) (by omega) λz i7 c7 h7=>Dw.t (λ_=>?_) (λ_=>Dw.l ⟨hA,by rw[v2];exact q3,v3⟩)));obtain⟨a,b,nn,i8,c8,e8,a1,b1,h8⟩:=N5 c7 h7 (by omega);exact Dw.c e8 (Dw.l ⟨hA,jB (s:=a) (by omega),jB (s:=b) (by omega)⟩)
  ·refine Dw.one h5 (by omega) (by omega) λz i7 c7 h7=>Dw.t (λ_=>?_) (λ_=>Dw.l ⟨hA,q3,q4⟩);obtain⟨a,b,nn,i8,c8,e8,a1,b1,h8⟩:=N5 c7 h7 (by omega);exact Dw.c e8 (Dw.l ⟨hA,jB (s:=a) (by omega),jB (s:=b) (by omega)⟩)
 obtain⟨⟨o,ds,n,d,p,c,s⟩,e,k1,k2,k3⟩:=key;exact⟨o,ds,n,d,p,c,s,e,k1,k2,k3⟩
section
variable {o:List Int}{ds:List (List Int)}{s:List Int}{n:Int}
theorem Dp{recs:List (List UInt8×List UInt8)}(hl:recs.length<=1000)(hr:Ro recs):∀(k i:Nat) {o:List Int} {ds:List (List Int)} {s:List Int} {n:Int} {d p:List UInt8} (c:Int),i+k=recs.length->Atl o ds s n->aJ d->aJ p->
  ∃r,To recs ((i:Int),o,ds,s,n,d,p,c)=some r/\Y6 (((recs.length:Nat):Int),recs) ((i:Int),o,ds,s,n,d,p,c)=some r:=by
 intro k;induction k with
 |zero=>
  intro i o ds s n d p c hi h sd sp;have hn:¬(i:Int)<((recs.length:Nat):Int):=by omega
  refine⟨.inl (),?_,?_⟩
  ·have e:(An recs ((i:Int),o,ds,s,n,d,p,c)).ev=some (.inr (.inl ())):=by unfold An;rw[qo,qd hn,qb,qq]
   unfold To;rw[aE,e]
  ·have e:(BH (((recs.length:Nat):Int),recs) ((i:Int),o,ds,s,n,d,p,c)).ev=some (.inr (.inl ())):=by unfold BH;rw[qo,qd hn,qb,qq]
   unfold Y6;rw[aE,e]
 |succ k ih=>
  intro i o ds s n d p c hi h sd sp;have aa:i<recs.length:=by omega
  have hx:=hr _ (aG (d:=(([]:List UInt8),([]:List UInt8))) aa);have sl:aJ (recs.getD i ([],[])).1:=by obtain⟨_,_,_,_,_,ra,_⟩:=dN hx;unfold aJ;omega
  obtain⟨o',ad,s',n',d',p',c',rep,h',ae,af,r1,r2,_⟩:=vU h sd sp sl c;have ab:(i:Int)<((recs.length:Nat):Int):=by omega
  have hg:=eA aa;have hw:IntKind.wrap .i64 ((i:Int)+1)=((i+1:Nat):Int):=by rw[aN (by omega) (by omega)];rfl
  cases hq:(rep==(recs.getD i ([],[])).2)with
  |true=>
   obtain⟨r,q1,q2⟩:=ih (i+1) c' (by omega) h' ae af;refine⟨r,?_,?_⟩
   ·have e:(An recs ((i:Int),o,ds,s,n,d,p,c)).ev=some (.inl (((i+1:Nat):Int),o',ad,s',n',d',p',c')):=by unfold An;dsimp only;rw[qo,qc ab,qa,qp,hg,qa,qp,xx,qc aa,qa,qn,r2,xc,qp,qa,qp,qa,qo,hq,xl,qb,qq,hw]
    unfold To;rw[aE,e];exact q1
   ·have e:(BH (((recs.length:Nat):Int),recs) ((i:Int),o,ds,s,n,d,p,c)).ev=some (.inl (((i+1:Nat):Int),o',ad,s',n',d',p',c')):=by unfold BH;dsimp only;rw[qo,qc ab,qa,qp,hg,qa,qp,xx,qc aa,qa,qn,r1,xc,qo,hq,xl,qb,qq,hw]
    unfold Y6;rw[aE,e];exact q2
  |false=>
   refine⟨.inr (i:Int),?_,?_⟩
   ·have e:(An recs ((i:Int),o,ds,s,n,d,p,c)).ev=some (.inr (.inr (i:Int))):=by unfold An;dsimp only;rw[qo,qc ab,qa,qp,hg,qa,qp,xx,qc aa,qa,qn,r2,xc,qp,qa,qp,qa,qo,hq,nE,qa,qq]
    unfold To;rw[aE,e]
   ·have e:(BH (((recs.length:Nat):Int),recs) ((i:Int),o,ds,s,n,d,p,c)).ev=some (.inr (.inr (i:Int))):=by unfold BH;dsimp only;rw[qo,qc ab,qa,qp,hg,qa,qp,xx,qc aa,qa,qn,r1,xc,qo,hq,nE,qa,qq]
    unfold Y6;rw[aE,e]
theorem Bd(lo:aK o)(ld:eP ds)(ls:aK s){a b:List UInt8}(sa:aJ a)(sb:aJ b)(c:Int):∃v,aBk o ds s n a b c=some v/\Pt o ds s n a b c=some v:=by
 have e1:=lK lo ld ls n;have e2:=iF lo ld ls n;obtain⟨v,v1,v2,v3⟩:=Ia sa sb c;unfold aBk aAU Pt MF;have nl:aJ []:=by unfold aJ;simp
 cases hA:cC o ds s n with
 |false=>
  rw[hA]at e1 e2;have aa:∃r,Q3 a b c=some r:=by
   unfold Q3 Us;rw[qn,v2,xc,qo];cases v with
   |false=>exact⟨_,rfl⟩
   |true=>obtain⟨q1,_,_⟩:=v3 rfl;obtain⟨w,_,w2,_⟩:=wH (s:=a++b) (by unfold aJ;rw[xj];omega);rw[xl,qb,qp,qc (show a.length+b.length<=9223372036854775807 by omega),qa,qn,w2,xc,qq];exact⟨_,rfl⟩
  obtain⟨r,aa⟩:=aa;refine⟨(0,false),?_,?_⟩;·rw[qn,e1,xc];rfl
  ·rw[qn,e2,xc,qn,aa,xc];rfl
 |true=>
  rw[hA]at e1 e2;have e1:Hd o ds s n=some (n,[],[],0,true,o,ds,s):=e1;have e2:Wg o ds s n=some (n,[],[],0,true,o,ds,s):=e2;cases v with
  |false=>
   have aa:Q3 a b c=some (false,[]):=by unfold Q3 Us;rw[qn,v2,xc,qo,nE,qa,qq]
   refine⟨(0,false),?_,?_⟩;·rw[qn,e1,xc,qo,xl,qb,qn,v1,xc];rfl
   ·rw[qn,e2,xc,qn,aa,xc];rfl
  |true=>
   obtain⟨q1,_,_⟩:=v3 rfl;obtain⟨w,w1,w2,w3,w4⟩:=wH (s:=a++b) (by unfold aJ;rw[xj];omega);have g:decide (a.length+b.length<=9223372036854775807)=true:=qc (by omega);have aa:Q3 a b c=some (true,w.2):=by unfold Q3 Us;rw[qn,v2,xc,qo,xl,qb,qp,g,qa,qn,w2,xc,qq]
   obtain⟨r,r1,r2⟩:=Dp (recs:=w.2) (by have:=w3.2.2;omega) w4 w.2.length 0 (0:Int) (by omega) (atl_iff.1 hA) nl nl;have r1:To w.2 ((0:Int),o,ds,s,n,[],[],(0:Int))=some r:=r1;have r2:Y6 (((w.2.length:Nat):Int),w.2) ((0:Int),o,ds,s,n,[],[],(0:Int))=some r:=r2;have fin:∀x:Unit⊕Int,∃v:Int×Bool,(Tr.s Unit Int x (λ_=>Tr.l ((((w.2.length:Nat):Int),true):Int×Bool)) λr=>Tr.l (r,true)).ev=some v:=λx=>by cases x<;>exact⟨_,rfl⟩
   obtain⟨y,hy⟩:=fin r;refine⟨y,?_,?_⟩;·rw[qn,e1,xc,qo,xl,qb,qn,v1,xc,qo,xl,qb,qp,g,qa,qn,w1,xc,qn,r1,xc];exact hy
   ·rw[qn,e2,xc,qn,aa,xc,qo,xl,qb,qo,qb,qn,r2,xc];exact hy
end
theorem Vh{recs:List (List UInt8×List UInt8)}(hl:recs.length<=1000):∀(k i:Nat) {a b:SW},i+k=recs.length->Ch a (recs.drop i) b->
  Y6 (((recs.length:Nat):Int),recs) ((i:Int),a.1,a.2.1,a.2.2.1,a.2.2.2.1,a.2.2.2.2.1,a.2.2.2.2.2.1,a.2.2.2.2.2.2)=some (.inl ()):=by
 intro k;induction k with
 |zero=>
  intro i a b hi _;have hn:¬(i:Int)<((recs.length:Nat):Int):=by omega
  unfold Y6;rw[aE];unfold BH;dsimp only;rw[qo,qd hn,qb,qq]
 |succ k ih=>
  intro i a b hi h;have aa:i<recs.length:=by omega
  have hd:recs.drop i=recs.getD i ([],[])::recs.drop (i+1):=by rw[Wn aa,xd,xh aa];rfl
  rw[hd]at h;obtain⟨c,h1,h2⟩:=h;unfold StX at h1;have ab:(i:Int)<((recs.length:Nat):Int):=by omega
  have hw:IntKind.wrap .i64 ((i:Int)+1)=((i+1:Nat):Int):=by rw[aN (by omega) (by omega)];rfl
  have hq:=ih (i+1) (by omega) h2;unfold Y6 at hq⊢;rw[aE];have e:(BH (((recs.length:Nat):Int),recs) ((i:Int),a.1,a.2.1,a.2.2.1,a.2.2.2.1,a.2.2.2.2.1,a.2.2.2.2.2.1,a.2.2.2.2.2.2)).ev=some (.inl (((i+1:Nat):Int),c.1,c.2.1,c.2.2.1,c.2.2.2.1,c.2.2.2.2.1,c.2.2.2.2.2.1,c.2.2.2.2.2.2)):=by unfold BH;dsimp only;rw[qo,qc ab,qa,qp,eA aa,qa,qp,xx,qc aa,qa,qn,h1,xc,qo,qj,xl,qb,qq,hw]
  rw[e];exact hq
theorem Kh{o:List Int}{ds:List (List Int)}{s:List Int}{n:Int}{b:SW}{recs:List (List UInt8×List UInt8)}(h:Atl o ds s n)(hc:Ch (o,ds,s,n,[],[],0) recs b)(sd:aJ b.2.2.2.2.1)(sp:aJ b.2.2.2.2.2.1)(hv:Val b.2.2.2.2.1 b.2.2.2.2.2.1 b.2.2.2.2.2.2 recs):
  Pt o ds s n b.2.2.2.2.1 b.2.2.2.2.2.1 b.2.2.2.2.2.2=some ((recs.length:Int),true):=by
 obtain⟨lo,ld⟩:=rC h.fld;have ls:=h.set.low h.fld.len;have e2:=iF lo ld ls n;rw[atl_iff.2 h]at e2;have e2:Wg o ds s n=some (n,[],[],0,true,o,ds,s):=e2;obtain⟨v,v1,v2,v3⟩:=Hc sd sp b.2.2.2.2.2.2;have aa:=v3 recs hv;subst aa;have hl:=hv.len;have r2:=Vh (recs:=recs) (by omega) recs.length 0 (by omega) hc;unfold Pt MF;rw[qn,e2,xc,qn,v1,xc,qo,xl,qb,qo,qb,qn];dsimp only at r2⊢;rw[show((0:Nat):Int)=0 from rfl]at r2;rw[r2,xc];rfl
theorem Zo{st:SW}(k:(List (Int))×(List (List (Int)))×(List (Int))×(Int)×(List UInt8)×(List UInt8)×(Int)×(List (List UInt8)))(hl:k.2.2.2.2.2.2.2.length<=100000)(hs:∀x∈k.2.2.2.2.2.2.2,aJ x):∀(m i:Nat) {o s:List Int} {ds:List (List Int)} {n c:Int} {d p:List UInt8} {recs:List (List UInt8×List UInt8)},i+m=k.2.2.2.2.2.2.2.length->Atl o ds s n->Val d p c recs->Ch st recs (o,ds,s,n,d,p,c)->
  ∃b aa,Rf k ((i:Int),o,ds,s,n,d,p,c)=some b/\Ch st aa b/\Val b.2.2.2.2.1 b.2.2.2.2.2.1 b.2.2.2.2.2.2 aa:=by
 intro m;induction m with
 |zero=>
  intro i o s ds n c d p recs hi _ hv hc;refine⟨(o,ds,s,n,d,p,c),recs,?_,hc,hv⟩;have hn:¬(i:Int)<((k.2.2.2.2.2.2.2.length:Nat):Int):=by omega
  unfold Rf;rw[aE];unfold CP;dsimp only;rw[qo,qd hn,qb,qq]
 |succ m ih=>
  intro i o s ds n c d p recs hi h hv hc;have ab:i<k.2.2.2.2.2.2.2.length:=by omega
  obtain⟨_,_,q3,q4⟩:=hv.low;obtain⟨o',ad,s',n',d',p',c',rep,h',_,_,r1,_,e3⟩:=vU h q3 q4 (hs _ (aG (d:=([]:List UInt8)) ab)) c;have af:(i:Int)<((k.2.2.2.2.2.2.2.length:Nat):Int):=by omega
  have hw:IntKind.wrap .i64 ((i:Int)+1)=((i+1:Nat):Int):=by rw[aN (by omega) (by omega)];rfl
  have ae:∃aa,Val d' p' c' aa/\Ch st aa (o',ad,s',n',d',p',c'):=by
   rcases e3 recs hv with e|⟨_,e,_⟩
   ·obtain⟨rfl,rfl,rfl,rfl,rfl,rfl,rfl⟩:o'=o/\ad=ds/\s'=s/\n'=n/\d'=d/\p'=p/\c'=c:=by simpa using e
    exact⟨recs,hv,hc⟩
   ·exact⟨_,e,hc.snoc r1⟩
  obtain⟨aa,ah,ai⟩:=ae;obtain⟨b,rb,e4,h4,h5⟩:=ih (i+1) (by omega) h' ah ai;refine⟨b,rb,?_,h4,h5⟩;unfold Rf at e4⊢;rw[aE];have e:(CP k ((i:Int),o,ds,s,n,d,p,c)).ev=some (.inl (((i+1:Nat):Int),o',ad,s',n',d',p',c')):=by unfold CP;dsimp only;rw[qo,qc af,qa,qp,eA ab,qa,qp,xx,qc ab,qa,qn,r1,xc,qq,hw]
  rw[e];exact e4
theorem T7(code:List Int)(ad:EN (.slice (.int .u8)) code):aHE code=some true:=by
 unfold aHE aAC aJP aFx;by_cases ab:(65536:Int)<((code.length:Nat):Int);·simp(disch:=omega)only[EV,ab]
 ·have ae:∀x∈code,0<=x/\x<=255:=λx hx=>aSO (ad.2 x hx);have ai:CK 0 code 0:=⟨ae,by omega,by omega,by omega⟩
  obtain⟨o,ds,n,d,p,c,s,e1,hA,sd,sp⟩:=G2 ai;obtain⟨lo,ld,ls⟩:=hA.low;obtain⟨v,v1,v2⟩:=Bd (n:=n) lo ld ls sd sp c;obtain⟨cut,e2,af⟩:=LX ae (by omega) 1 (by omega) (by omega);obtain⟨o2,aa,s2,n2,d2,p2,c2,t,e3,hD,ht⟩:=E2 af;obtain⟨aj,ak,al⟩:=hD.atl.low;have e4:=iF aj ak al n2;have e5:∃w,aCZ t [10]=some w/\(w.1=true->w.2=oJ 10 t):=by
   unfold aCZ aCu;rw[qo];cases decide ((4000:Int)<((t.length:Nat):Int))with
   |true=>exact⟨_,rfl,λh=>by cases h⟩
   |false=>
    have e1:Tz t [10]=some (oJ 10 t):=by unfold Tz vW;rw[qi ⟨by omega,rfl⟩,M3]
    rw[qb,qo,show((((List.length ([10]:List UInt8)):Nat):Int) !=1)=false from rfl,qb,qn,e1,xc,qq];exact⟨_,rfl,λ_=>rfl⟩
  obtain⟨w,e5,hw⟩:=e5;rw[qn,qq,qd ab,xc,qo,qb,qn,e1,xc,qn];dsimp only;rw[v2,xc,qn,v1,xc,qo,qj,xl,qb,qo,qk,qb,qn,e2,xc,qn,e3,xc,qn];dsimp only;rw[e4,xc,qn,e5,xc,qo];cases ao:cC o2 aa s2 n2 with
  |false=>rfl
  |true=>
   have hx:=atl_iff.1 ao;obtain⟨wb,wl⟩:=w;cases wb with
   |false=>rfl
   |true=>have ar:wl=oJ 10 t:=hw rfl;subst ar;have hlen:=Q6 10 t;have ah:=pS 10 t;obtain⟨b,recs,r1,r2,r3⟩:=Zo (st:=(o2,aa,s2,n2,[],[],0)) (o2,aa,s2,n2,d2,p2,c2,oJ 10 t) (by simp only;omega) (λx hx=>by have:=ah x hx;unfold aJ;omega) (oJ 10 t).length 0 (by simp only;omega) hx aBm rfl;have r1:Rf (o2,aa,s2,n2,d2,p2,c2,oJ 10 t) ((0:Int),o2,aa,s2,n2,[],[],(0:Int))=some b:=r1;have au:=r3.cnt;obtain⟨_,_,q3,q4⟩:=r3.low;have r4:=Kh hx r2 q3 q4 r3;show(Tr.c _ (Rf (o2,aa,s2,n2,d2,p2,c2,oJ 10 t) ((0:Int),o2,aa,s2,n2,[],[],(0:Int))) _).ev=some true;rw[qn,r1,xc,qn,r4,xc,qo,qa,qq,au,qj]
end Go.Proofs.YtjiljcblmgeioaaGreatDoor
