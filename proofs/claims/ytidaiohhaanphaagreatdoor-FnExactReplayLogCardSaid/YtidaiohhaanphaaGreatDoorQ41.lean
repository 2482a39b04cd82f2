/- A part of the proof that FnExactReplayLog hands back true, at every argument of the row. -/
import Derived.Test.YtidaiohhaanphaaGreatDoorP90
namespace Go.Proofs.YtidaiohhaanphaaGreatDoor
def lexB:List Int->List Int->Bool
 |a::l,b::r=>if a=b then lexB l r else decide (a<b)
 |_,_=>false
theorem lexB_drop{l r:List Int}{i:Nat}(h1:i<l.length)(h2:i<r.length):lexB (l.drop i) (r.drop i)=if l.getD i 0=r.getD i 0 then lexB (l.drop (i+1)) (r.drop (i+1))else decide (l.getD i 0<r.getD i 0):=by rw[xbe h1,xbe h2,lexB,xd,xd,xg h1,xg h2];rfl
theorem l5Less_eq{l r:List Int}(h:l.length=r.length)(hl:l.length<=1000):wbzo l r=some (lexB l r):=by
 obtain⟨x,k1,k2⟩:=iter_inv (f:=λv=>(waxv (l,r) v).ev) (n:=l.length) (λi (_:Unit)=>(i:Int)) (λi _=>lexB l r=lexB (l.drop i) (r.drop i)) (λx=>(x=.inl ()/\lexB l r=false)\/x=.inr (lexB l r)) (s0:=()) rfl
  (λi _ hi hq=>by
   have aa:i<r.length:=by omega
   rw[lexB_drop hi aa]at hq;by_cases e:l.getD i 0=r.getD i 0
   ·left;rw[qi e]at hq;have eb:(l.getD i 0 !=r.getD i 0)=false:=by rw[e];exact qk _
    refine⟨(),?_,hq⟩;simp(disch:=omega)only[EV,waxv,hi,eb];rfl
   ·right;rw[qh e]at hq;have eb:(l.getD i 0 !=r.getD i 0)=true:=bne_iff_ne.2 e;refine⟨_,?_,.inr rfl⟩;rw[hq];simp(disch:=omega)only[EV,waxv,hi,eb])
  (λ_ hq=>⟨_,by simp(disch:=omega)only[EV,waxv,xi],.inl ⟨rfl,by rw[hq,xdp];rfl⟩⟩)
 have ab:wbhu (l,r) (0:Int)=some x:=k1;unfold wbzo wbzn;rw[qn,ab,xc];rcases k2 with⟨rfl,k2⟩|rfl;·rw[k2];rfl
 ·rfl
theorem compare3(a b:Int):∃c,F_za a b=some c/\(c<0↔a<b)/\(c=0↔a=b):=by
 unfold F_za T_za;have e:∀x,F_zd x=some false:=λx=>by unfold F_zd T_zd;simp only[qq,qk]
 rw[qn,e,xc,qn,e,xc];simp only[qo,qb,qq];by_cases h1:a<b;·exact⟨-1,by rw[qc h1,qa],by omega,by omega⟩
 ·by_cases h2:b<a;·exact⟨1,by rw[qd h1,qb,qc h2,qa],by omega,by omega⟩
  ·exact⟨0,by rw[qd h1,qb,qd h2,qb],by omega,by omega⟩
theorem compareL_eq{l r:List Int}(h:l.length=r.length)(hl:l.length<=1000):∃c,wbqq l r=some c/\decide (c<0)=lexB l r:=by
 obtain⟨x,k1,k2⟩:=iter_inv (f:=λv=>(waya (l,r,l,((l.length:Nat):Int)) v).ev) (n:=l.length) (λi (_:Unit)=>(i:Int)) (λi _=>lexB l r=lexB (l.drop i) (r.drop i)) (λx=>(x=.inl ()/\lexB l r=false)\/∃c:Int,x=.inr c/\decide (c<0)=lexB l r) (s0:=()) rfl
  (λi _ hi hq=>by
   have aa:i<r.length:=by omega
   have hn:¬((r.length:Nat):Int)<=(i:Int):=by omega
   obtain⟨c,e1,e2,e3⟩:=compare3 (l.getD i 0) (r.getD i 0);rw[lexB_drop hi aa]at hq;by_cases e:l.getD i 0=r.getD i 0
   ·left;rw[qi e]at hq;have eb:(c !=0)=false:=by simp[e3.2 e]
    refine⟨(),?_,hq⟩;simp(disch:=omega)only[EV,waya,hi,hn,e1,eb];rfl
   ·right;rw[qh e]at hq;have eb:(c !=0)=true:=by simp[mt e3.1 e]
    refine⟨.inr c,?_,.inr ⟨c,rfl,by rw[hq];exact decide_eq_decide.2 e2⟩⟩;simp(disch:=omega)only[EV,waya,hi,hn,e1,eb])
  (λ_ hq=>⟨_,by simp(disch:=omega)only[EV,waya,xi],.inl ⟨rfl,by rw[hq,xdp];rfl⟩⟩)
 have ab:wbje (l,r,l,((l.length:Nat):Int)) (0:Int)=some x:=k1;unfold wbqq wccs;rw[qn,ab,xc];rcases k2 with⟨rfl,k2⟩|⟨c,rfl,k2⟩
 ·refine⟨0,?_,by rw[k2];rfl⟩;have hn:¬((l.length:Nat):Int)<((r.length:Nat):Int):=by omega
  show(Tr.t (decide (((l.length:Nat):Int)<((r.length:Nat):Int))) (.l (-1:Int)) (.l (0:Int))).ev=some 0;rw[qo,qd hn,qb,qq]
 ·exact⟨c,rfl,k2⟩
theorem cntN_one{p:Nat->Prop}[DecidablePred p]:∀{n:Nat},cntN p n<=1↔∀i,i<n->∀k,k<i->¬(p i/\p k)
 |0=>⟨λ_ i h=>absurd h (by omega),λ_=>xcm _⟩
 |n+1=>by
  have ih:=cntN_one (p:=p) (n:=n);rw[cntN];constructor
  ·intro h i hi k hk ⟨h1,h2⟩;by_cases e:i=n;·subst e;have:=cntN_pos.2 ⟨k,hk,h2⟩;rw[qi h1]at h;omega
   ·exact ih.1 (by omega) i (by omega) k hk ⟨h1,h2⟩
  ·intro h;have h1:=ih.2 λi hi=>h i (by omega);by_cases hp:p n
   ·rw[qi hp];by_cases h0:0<cntN p n;·obtain⟨k,hk,h2⟩:=cntN_pos.1 h0;exact absurd ⟨hp,h2⟩ (h n (by omega) k hk)
    ·omega
   ·rw[qh hp];omega
section
variable {o:List Int}{ds:List (List Int)}{r:Int}
def farB(ds:List (List Int))(n:Nat)(r:Int)(l:List Int):Bool:=(List.range n).all λa=>decide (cntN (λk=>at2 ds (pl l k) a<=r) l.length<=1)
def apartB(ds:List (List Int))(n:Nat)(r:Int)(i j:Nat):Bool:=(List.range n).all λa=> !(decide (at2 ds i a<=r)&&decide (at2 ds j a<=r))
theorem farB_eq(n:Nat)(l:List Int):farB ds n r l=(List.range l.length).all λi=>(List.range i).all λk=>apartB ds n r (pl l i) (pl l k):=by
 rw[xcn];unfold farB apartB;simp only[xq,xap,qe,cntN_one,xay,Bool.and_eq_false_iff,decide_eq_false_iff_not];constructor
 ·intro h i hi k hk a ha;have:=h a ha i hi k hk;by_cases h1:at2 ds (pl l i) a<=r;·exact .inr λh2=>this ⟨h1,h2⟩
  ·exact .inl h1
 ·rintro h a ha i hi k hk ⟨h1,h2⟩;rcases h i hi k hk a ha with h3|h3;·exact h3 h1
  ·exact h3 h2
def Clt(m:Nat)(l:List Int):Prop:=l.length<=7/\∀x∈l,0<=x/\x<(m:Int)
theorem cl_pl{m:Nat}{l:List Int}(h:Clt m l){i:Nat}(hi:i<l.length):l.getD i 0=(pl l i:Int)/\pl l i<m:=by have:=h.2 _ (getD_mem (d:=0) hi);unfold pl;omega
theorem areFar_eq(hf:Fld o ds){l:List Int}(hl:Clt ds.length l):F_zx o ds l r=some (farB ds o.length r l):=by
 have hlen:=hf.len;have h7:=hl.1;have key:wbte (l,r,((o.length:Nat):Int),o,ds) (0:Int)=some (bif farB ds o.length r l then .inl ()else .inr ()):=
  iter_allR (f:=λv=>(wbbq (l,r,((o.length:Nat):Int),o,ds) v).ev) (n:=o.length) (λa=>(a:Int)) (λa=>decide (cntN (λk=>at2 ds (pl l k) a<=r) l.length<=1)) (.inl ():Unit⊕Unit) (.inr ())
   (λa ha _=>by
    obtain⟨x,k1,k2⟩:=iter_inv (f:=λv=>(wbbp (l,r,(a:Int),((o.length:Nat):Int),(a:Int),l,((l.length:Nat):Int),o,ds) v).ev) (n:=l.length) (λi (c:Int)=>(c,(i:Int))) (λi c=>c=(cntN (λk=>at2 ds (pl l k) a<=r) i:Int)) (λc=>c=(cntN (λk=>at2 ds (pl l k) a<=r) l.length:Int)) (s0:=(0:Int)) rfl
     (λi c hi hc=>by
      left;obtain⟨e1,e2⟩:=cl_pl hl hi;have hr:=hf.rowLen _ e2;have e3:(ds.getD (pl l i) []).getD a 0=at2 ds (pl l i) a:=rfl;have hm:=cntN_max (λk=>at2 ds (pl l k) a<=r) i;rw[cntN];by_cases h:at2 ds (pl l i) a<=r;·refine⟨c+1,?_,by rw[qi h,hc];rfl⟩;simp(disch:=omega)only[EV,wbbp,hi,e1,hr,e3,h];rfl
      ·refine⟨c,?_,by rw[qh h,hc];rfl⟩;simp(disch:=omega)only[EV,wbbp,hi,e1,hr,e3,h];rfl)
     (λc hc=>⟨c,by simp(disch:=omega)only[EV,wbbp,xi],hc⟩)
    have aa:wbtd (l,r,(a:Int),((o.length:Nat):Int),(a:Int),l,((l.length:Nat):Int),o,ds) ((0:Int),(0:Int))=some x:=k1;by_cases h:cntN (λk=>at2 ds (pl l k) a<=r) l.length<=1
    ·have h':¬(1:Int)<x:=by omega
     rw[qc h,qa];simp(disch:=omega)only[EV,wbbq,ha,aa,h'];rfl
    ·have h':(1:Int)<x:=by omega
     rw[qd h,qb];simp(disch:=omega)only[EV,wbbq,ha,aa,h'])
   (by simp(disch:=omega)only[EV,wbbq,xi])
 unfold F_zx T_zx;rw[qn,key,xc];cases farB ds o.length r l<;>rfl
theorem apart_eq(hf:Fld o ds){i j:Nat}(hi:i<ds.length)(hj:j<ds.length):wbzl o ds (i:Int) (j:Int) r=some (apartB ds o.length r i j):=by
 have hlen:=hf.len;have key:wbhr ((i:Int),(j:Int),r,o,ds) (0:Int)=some (bif apartB ds o.length r i j then .inl ()else .inr ()):=
  iter_allR (f:=λv=>(wavc ((i:Int),(j:Int),r,o,ds) v).ev) (n:=o.length) (λa=>(a:Int)) (λa=> !(decide (at2 ds i a<=r)&&decide (at2 ds j a<=r))) (.inl ():Unit⊕Unit) (.inr ())
   (λa ha _=>by
    have aa:=hf.rowLen i hi;have ab:=hf.rowLen j hj;have e1:(ds.getD i []).getD a 0=at2 ds i a:=rfl;have e2:(ds.getD j []).getD a 0=at2 ds j a:=rfl;by_cases h1:at2 ds i a<=r
    ·by_cases h2:at2 ds j a<=r;·simp(disch:=omega)only[EV,wavc,ha,aa,ab,e1,e2,h1,h2]
     ·simp(disch:=omega)only[EV,wavc,ha,aa,ab,e1,e2,h1,h2];rfl
    ·simp(disch:=omega)only[EV,wavc,ha,aa,e1,h1];rfl)
   (by simp(disch:=omega)only[EV,wavc,xi])
 unfold wbzl wbzk;rw[qn,key,xc];cases apartB ds o.length r i j<;>rfl
theorem l5Far_eq(hf:Fld o ds){l:List Int}(hl:Clt ds.length l):wbop o ds l r=some (farB ds o.length r l):=by
 have h7:=hl.1;have key:wbht (l,r,o,ds) (0:Int)=some (bif (List.range l.length).all λi=>(List.range i).all λk=>apartB ds o.length r (pl l i) (pl l k)then .inl ()else .inr ()):=
  iter_allR (f:=λv=>(waxu (l,r,o,ds) v).ev) (n:=l.length) (λa=>(a:Int)) (λi=>(List.range i).all λk=>apartB ds o.length r (pl l i) (pl l k)) (.inl ():Unit⊕Unit) (.inr ())
   (λi hi _=>by
    obtain⟨e1,e2⟩:=cl_pl hl hi;have k2:wbhs (l,r,(i:Int),o,ds) (0:Int)=some (bif (List.range i).all λk=>apartB ds o.length r (pl l i) (pl l k)then .inl ()else .inr ()):=
     iter_allR (f:=λv=>(waxt (l,r,(i:Int),o,ds) v).ev) (n:=i) (λa=>(a:Int)) (λk=>apartB ds o.length r (pl l i) (pl l k)) (.inl ():Unit⊕Unit) (.inr ())
      (λk hk _=>by
       obtain⟨e3,e4⟩:=cl_pl hl (show k<l.length by omega);have ea:=apart_eq (r:=r) hf e2 e4;have aa:k<l.length:=by omega
       cases hq:apartB ds o.length r (pl l i) (pl l k)with
       |true=>rw[hq]at ea;simp(disch:=omega)only[EV,waxt,hk,e1,e3,ea];rfl
       |false=>rw[hq]at ea;simp(disch:=omega)only[EV,waxt,hk,e1,e3,ea])
      (by simp(disch:=omega)only[EV,waxt,xi])
    cases hq:(List.range i).all λk=>apartB ds o.length r (pl l i) (pl l k)with
    |true=>rw[hq]at k2;simp(disch:=omega)only[EV,waxu,hi,k2];rfl
    |false=>rw[hq]at k2;simp(disch:=omega)only[EV,waxu,hi,k2])
   (by simp(disch:=omega)only[EV,waxu,xi])
 rw[<-farB_eq]at key;unfold wbop wbzm;rw[qn,key,xc];cases farB ds o.length r l<;>rfl
def mostStep(ds:List (List Int))(n:Nat)(r:Int)(c:List Int)(b:Nat):List Int:=if(c.length<(lst b).length\/((lst b).length=c.length/\lexB (lst b) c=true))/\farB ds n r (lst b)=true then lst b else c
def mostL(ds:List (List Int))(n:Nat)(r:Int):List Int:=(List.range (2^ds.length)).foldl (mostStep ds n r) []
noncomputable def chkM(m:Nat):Bool:=(IntKind.wrap .u64 ((1:Int)*2^(min m (IntKind.bits .u64)))==((2^m:Nat):Int))&&(IntKind.wrap .i64 ((1:Int)*2^(min m (IntKind.bits .i64)))==((2^m:Nat):Int))&&(List.range (2^m)).all λb=>(wbma (m:Int) (b:Int)==some (lst b))&&Nat.ble (lst b).length 7&&(lst b).all λx=>(decide (0<=x))&&decide (x<(m:Int))
theorem chkM_ok:(List.range 8).all chkM=true:=by kernel_rfl
theorem chkM_at{m:Nat}(h:m<=7):IntKind.wrap .u64 ((1:Int)*2^(min m (IntKind.bits .u64)))=((2^m:Nat):Int)/\IntKind.wrap .i64 ((1:Int)*2^(min m (IntKind.bits .i64)))=((2^m:Nat):Int)/\∀b:Nat,b<2^m->wbma (m:Int) (b:Int)=some (lst b)/\Clt m (lst b):=by have h:=xq.1 chkM_ok m (xap.2 (by omega));simp only[chkM,xh,qg,xq,xap,qe,Nat.ble_eq]at h;exact⟨h.1.1,h.1.2,λb hb=>⟨(h.2 b hb).1.1,(h.2 b hb).1.2,(h.2 b hb).2⟩⟩
theorem mostStep_cl{m n:Nat}{c:List Int}{b:Nat}(hb:Clt m (lst b))(hc:Clt m c):Clt m (mostStep ds n r c b):=by
 unfold mostStep;split;·exact hb
 ·exact hc
theorem sp_Most_eq(hf:Fld o ds):wbzq o ds r=some (mostL ds o.length r)/\Clt ds.length (mostL ds o.length r):=by
 obtain⟨_,hw,hb⟩:=chkM_at hf.clients;have ad:=hf.clients;have hp:2^ds.length<=2^7:=xdj (by omega) ad;have aa:(0:Int)<=((ds.length:Nat):Int):=by omega
 obtain⟨k1,k2⟩:=iter_fold (f:=λv=>(wazy (r,o,ds) v).ev) (n:=2^ds.length) (mk:=λb (c:List Int)=>(c,(b:Int))) (I:=λ_ c=>Clt ds.length c) (g:=mostStep ds o.length r) (fin:=λc=>c) (s0:=[]) ⟨by simp,λx h=>by cases h⟩
  (λb c ae hc=>by
   obtain⟨e1,e2⟩:=hb b ae;refine⟨?_,mostStep_cl e2 hc⟩;have e3:=l5Far_eq (r:=r) hf e2;have h7:=hc.1;have h8:=e2.1;have ab:(b:Int)<((2^ds.length:Nat):Int):=by omega
   have af:IntKind.wrap .i64 ((b:Int)+1)=((b+1:Nat):Int):=by rw[wrap64 (by omega) (by omega)];rfl
   unfold wazy mostStep;dsimp only;rw[qp,qc aa,qa,xy,hw,qo,qc ab,qa,qn,e1,xc,qo,af];by_cases h1:c.length<(lst b).length
   ·rw[qc (show((c.length:Nat):Int)<(((lst b).length:Nat):Int) by omega),qa,qn,e3,xc,qo];cases hq:farB ds o.length r (lst b)with|true=>rw[qi ⟨.inl h1,rfl⟩];rfl|false=>rw[qh λh=>by cases h.2];rfl
   ·rw[qd (show¬((c.length:Nat):Int)<(((lst b).length:Nat):Int) by omega),qb,qo];by_cases h2:(lst b).length=c.length
    ·have eb:((((lst b).length:Nat):Int)==((c.length:Nat):Int))=true:=beq_iff_eq.2 (by omega);rw[eb,qa,qn,l5Less_eq h2 (by omega),xc,qo];cases ai:lexB (lst b) c with
     |true=>
      rw[qa,qn,e3,xc,qo];cases hq:farB ds o.length r (lst b)with
      |true=>rw[qi ⟨.inr ⟨h2,rfl⟩,rfl⟩];rfl
      |false=>rw[qh λh=>by cases h.2];rfl
     |false=>rw[qh λh=>by rcases h.1 with h|h;exact h1 h;cases h.2];rfl
    ·have eb:((((lst b).length:Nat):Int)==((c.length:Nat):Int))=false:=beq_eq_false_iff_ne.2 (by omega);rw[eb,qb,qh λh=>by rcases h.1 with h|h;exact h1 h;exact h2 h.1];rfl)
  (λc _=>by unfold wazy;dsimp only;rw[qp,qc aa,qa,xy,hw,qo,qd (xdn _),qb,qq])
 have ah:wbhv (r,o,ds) (([]:List Int),(0:Int))=some (mostL ds o.length r):=k1;refine⟨?_,k2⟩;unfold wbzq wbzp;rw[qn,ah,xc,qq]
theorem im_Most_eq(hf:Fld o ds):wcdo o ds r=some (mostL ds o.length r):=by
 obtain⟨hw,_,hb⟩:=chkM_at hf.clients;have ae:=hf.clients;have hp:2^ds.length<=2^7:=xdj (by omega) ae;have ah:1<=2^ds.length:=Nat.one_le_two_pow;have ab:(0:Int)<=((ds.length:Nat):Int):=by omega
 have step:∀(b:Nat) (c:List Int),b<2^ds.length->Clt ds.length c->(waye (r,o,ds) (c,(b:Int))).ev=some (.inl (mostStep ds o.length r c b,((b+1:Nat):Int))):=λb c aa hc=>by
  have e2:=(hb b aa).2;have e1:=(bagP (x:=b) (by omega)).list;have e3:=areFar_eq (r:=r) hf e2;have h7:=hc.1;have h8:=e2.1;have ad:(b:Int)<((2^ds.length:Nat):Int):=by omega
  have af:IntKind.wrap .u64 ((b:Int)+1)=((b+1:Nat):Int):=by show((b:Int)+1) % 18446744073709551616=_;omega
  unfold waye mostStep;dsimp only;rw[qp,qc ab,qa,xy,hw,qo,qc ad,qa,qn,e1,xc,qo,af];by_cases h1:c.length<(lst b).length
  ·rw[qc (show((c.length:Nat):Int)<(((lst b).length:Nat):Int) by omega),qa,qn,e3,xc,qo];cases hq:farB ds o.length r (lst b)with|true=>rw[qi ⟨.inl h1,rfl⟩];rfl|false=>rw[qh λh=>by cases h.2];rfl
  ·rw[qd (show¬((c.length:Nat):Int)<(((lst b).length:Nat):Int) by omega),qb,qo];by_cases h2:(lst b).length=c.length
   ·have eb:((((lst b).length:Nat):Int)==((c.length:Nat):Int))=true:=beq_iff_eq.2 (by omega);obtain⟨x,e4,e5⟩:=compareL_eq h2 (by omega);rw[eb,qa,qn,e4,xc,qo,e5];cases ai:lexB (lst b) c with
    |true=>
     rw[qa,qn,e3,xc,qo];cases hq:farB ds o.length r (lst b)with
     |true=>rw[qi ⟨.inr ⟨h2,rfl⟩,rfl⟩];rfl
     |false=>rw[qh λh=>by cases h.2];rfl
    |false=>rw[qh λh=>by rcases h.1 with h|h;exact h1 h;cases h.2];rfl
   ·have eb:((((lst b).length:Nat):Int)==((c.length:Nat):Int))=false:=beq_eq_false_iff_ne.2 (by omega);rw[eb,qb,qh λh=>by rcases h.1 with h|h;exact h1 h;exact h2 h.1];rfl
 have h0:Clt ds.length []:=⟨by simp,λx h=>by cases h⟩
 have k0:wbby (r,o,ds) (([]:List Int),(0:Int))=some (mostL ds o.length r):=
  (iter_fold (f:=λv=>(waye (r,o,ds) v).ev) (n:=2^ds.length) (mk:=λb (c:List Int)=>(c,(b:Int))) (I:=λ_ c=>Clt ds.length c) (g:=mostStep ds o.length r) (fin:=λc=>c) (s0:=[]) h0
   (λb c aa hc=>⟨step b c aa hc,mostStep_cl (hb b aa).2 hc⟩)
   (λc _=>by unfold waye;dsimp only;rw[qp,qc ab,qa,xy,hw,qo,qd (xdn _),qb,qq])).1
 have k1:wbby (r,o,ds) (([]:List Int),(1:Int))=some (mostL ds o.length r):=by
  rw[<-k0];unfold wbby
  conv=>rhs;rw[iter_eq]
  have:=step 0 [] (by omega) h0;have e:mostStep ds o.length r [] 0=[]:=by have:lst 0=[]:=rfl;unfold mostStep;rw[this];split<;>rfl
  rw[e]at this;rw[show((0:Int))=((0:Nat):Int)from rfl,this];rfl
 unfold wcdo wcdn;rw[qn,k1,xc,qq]
theorem median_both(ho:Low1 o)(hd:Low2 ds)(hf:Fld o ds)(k:Int):∃l b,wbra o ds k=some (b,l)/\wboh o ds k=some (l,b)/\Clt o.length l:=by
 have e1:wbdh o ds k=some (isIn k 1 ((o.length:Nat):Int)):=by unfold wbdh wbqu;rw[qn,IsField_eq ho hd,xc,fieldB_iff.2 hf,qo,qa,qn,between_eq,xc,qq]
 have e2:wbzb o ds k=some (isIn k 1 ((o.length:Nat):Int)):=by unfold wbzb wbza;rw[qn,l2Good_eq ho hd,xc,fieldB_iff.2 hf,qo,qa,qn,l1In_eq,xc,qq]
 cases hk:isIn k 1 ((o.length:Nat):Int)with
 |false=>
  rw[hk]at e1 e2;refine⟨[],false,?_,?_,by simp,λx h=>by cases h⟩;·unfold wbra wbqz;rw[qn,e1,xc,qo,xae,qa,qq]
  ·unfold wboh wbog;rw[qn,e2,xc,qo,xae,qa,qq]
 |true=>
  rw[hk]at e1 e2;have aa:=isIn_iff.1 hk;have h7:=hf.len;obtain⟨m1,m2⟩:=ofSz_mem.1 (medSet_mem h7 (ds:=ds) aa);obtain⟨p1,_,_⟩:=setP_places h7 (setsP hf.pos h7) m1;refine⟨medSet ds o.length k,true,?_,?_,by omega,λx hx=>?_⟩;·unfold wbra wbqz;rw[qn,e1,xc,qo,xk,qb,qn,median_eq hf aa,xc,qq]
  ·unfold wboh wbog;rw[qn,e2,xc,qo,xk,qb,qn,l4Best_eq hf aa,xc,qq]
  obtain⟨i,hi,e⟩:=xbs.1 hx;have:=p1.mem i hi;rw[xd,xg hi,xat,e]at this;exact this
theorem first_loop{f:List Int×Int->Option ((List Int×Int)⊕List Int)}{L:List (List Int)}{g:List Int->Int}(hL:0<L.length)(hs:∀(i:Nat) (c:List Int),i<L.length->c∈L->f (c,(i:Int))=some (.inl (if g (L.getD i [])<g c then L.getD i []else c,((i+1:Nat):Int))))(he:∀c,f (c,((L.length:Nat):Int))=some (.inr c)):iter f (L.getD 0 [],(1:Int))=some (firstMin g L):=by
 obtain⟨r,h1,rfl⟩:=iter_cnt (f:=f) (n:=L.length-1) (λi v=>v=(firstMin g (L.take (i+1)),((i+1:Nat):Int))) (λr=>r=firstMin g L)
  (λi v hi hv=>by
   subst hv;have ab:i+1<L.length:=by omega
   have aa:L.take (i+1)≠ []:=λe=>by have:=congrArg List.length e;rw[xx]at this;simp only[xab]at this;omega
   have ae:=(firstMin_spec (g:=g) aa).1;have ad:=firstMin_snoc (g:=g) aa (L.getD (i+1) []);rw[<-take_snoc [] ab]at ad;exact⟨_,hs (i+1) _ ab (xbp ae),by rw[ad]⟩)
  (λv hv=>by
   subst hv;have e:L.length-1+1=L.length:=by omega
   rw[e];exact⟨_,he _,by rw[xal]⟩)
  (v:=(L.getD 0 [],1)) (by have h1:=take_snoc (l:=L) (i:=0) [] hL;rw[xel,xbh]at h1;rw[h1,firstMin_one];rfl)
 exact h1
theorem centres_both(ho:Low1 o)(hd:Low2 ds)(hf:Fld o ds)(k:Int):∃l b,F_zp o ds k=some (b,l)/\wbol o ds k=some (b,l)/\Clt o.length l:=by
 have e1:wbdh o ds k=some (isIn k 1 ((o.length:Nat):Int)):=by unfold wbdh wbqu;rw[qn,IsField_eq ho hd,xc,fieldB_iff.2 hf,qo,qa,qn,between_eq,xc,qq]
 have e2:wbzf o ds k=some (isIn k 1 ((o.length:Nat):Int)):=by unfold wbzf wbze;rw[qn,l2Good_eq ho hd,xc,fieldB_iff.2 hf,qo,qa,qn,l1In_eq,xc,qq]
 cases hk:isIn k 1 ((o.length:Nat):Int)with
 |false=>
  rw[hk]at e1 e2;refine⟨[],false,?_,?_,by simp,λx h=>by cases h⟩;·unfold F_zp T_zp;rw[qn,e1,xc,qo,xae,qa,qq]
  ·unfold wbol wbok;rw[qn,e2,xc,qo,xae,qa,qq]
 |true=>
  rw[hk]at e1 e2;have ae:=isIn_iff.1 hk;have h7:=hf.len;have hS:=setsP hf.pos h7;have hl:=setsP_len hS h7;have aa:=xar.2 (upTo_ne h7 ae);have ab:cenSet ds o.length k∈upTo o.length k:=(firstMin_spec (upTo_ne h7 ae)).1;obtain⟨p1,p2,p3⟩:=setP_places h7 hS (upTo_mem.1 ab).1;have af:=p1.low;refine⟨_,true,centres_eq hf e1 ae,?_,?_,λx hx=>?_⟩
  ·have k1:wbhp (k,setsOf o.length) ((0:Int),([]:List (List Int)))=some (upTo o.length k):=by
    have h:=(iter_foldl (f:=λv=>(waxs (k,setsOf o.length) v).ev) (setsOf o.length) [] (mk:=λi (c:List (List Int))=>((i:Int),c)) (I:=λi c=>c.length<=i) (g:=λc s=>if(s.length:Int)<=k then c++ [s]else c) (fin:=λc=>c) (s0:=[]) (xm _)
     (λi c hi hc=>by
      have ad:∀x:List Int,List.length [x]=1:=λ_=>rfl;have hb:(c.length+1)*24<=140737488355328:=by omega
      by_cases h:(((setsOf o.length).getD i []).length:Int)<=k;·simp only[qi h];refine⟨?_,by rw[xl,ad];omega⟩;simp(disch:=omega)only[EV,waxs,hi,h,ad,hb];rfl
      ·simp only[qh h];refine⟨?_,by omega⟩;simp(disch:=omega)only[EV,waxs,hi,h];rfl)
     (λc _=>by simp(disch:=omega)only[EV,waxs,xi])).1
    have e:(setsOf o.length).foldl (λc s=>if(s.length:Int)<=k then c++ [s]else c) []=upTo o.length k:=by
     have key:∀(l acc:List (List Int)),l.foldl (λc s=>if(s.length:Int)<=k then c++ [s]else c) acc=acc++l.filter λs=>decide ((s.length:Int)<=k):=by
      intro l;induction l with
      |nil=>intro acc;simp
      |cons a l ih=>
       intro acc;rw[xbm,ih,xdf];by_cases h:(a.length:Int)<=k;·simp[h]
       ·simp[h]
     rw[key,xbh];rfl
    rw[e]at h;exact h
   have k2:wbhq (o,ds,upTo o.length k) ((upTo o.length k).getD 0 [],(1:Int))=some (cenSet ds o.length k):=first_loop aa
    (λi c hi hc=>by
     have hle:(upTo o.length k).length<=(setsOf o.length).length:=xdq _ _;obtain⟨q1,q2,_⟩:=setP_places h7 hS (upTo_mem.1 hc).1;obtain⟨q3,q4,_⟩:=setP_places h7 hS (upTo_mem.1 (getD_mem (d:=[]) hi)).1;have e3:=l2Far_eq hf q1 q2;have e4:=l2Far_eq hf q3 q4;by_cases h:far ds ((upTo o.length k).getD i [])<far ds c;·rw[qi h];simp(disch:=omega)only[EV,wazx,hi,e3,e4,h];rfl
     ·rw[qh h];simp(disch:=omega)only[EV,wazx,hi,e3,e4,h];rfl)
    (λc=>by simp(disch:=omega)only[EV,wazx,xi])
   have k3:wbzh o ds k=some (upTo o.length k):=by unfold wbzh wbzg;rw[qn,hS.sp,xc,qn,k1,xc,qq]
   have k4:wbzj o ds k=some (cenSet ds o.length k):=by unfold wbzj wbzi;rw[qn,k3,xc,qp,show inR (0:Int) (upTo o.length k).length=true from inR_int (by omega) (by omega),qa,qp,qc (show Int.toNat 0<(upTo o.length k).length by simpa using aa),qa,qn];rw[show(upTo o.length k).getD (Int.toNat 0) []=(upTo o.length k).getD 0 []from rfl,k2,xc,qq]
   unfold wbol wbok;rw[qn,e2,xc,qo,xk,qb,qn,k4,xc,qn,eown_eq (by omega),xc,qq]
  ·have:=(upTo_mem.1 ab).2;omega
  ·obtain⟨i,hi,e⟩:=xbs.1 hx;have:=p1.mem i hi;rw[xd,xg hi,xat,e]at this;exact this
end
structure Atl(o:List Int)(ds:List (List Int))(s:List Int)(n:Int):Prop where
 fld:Fld o ds
 set:ris o.length s
 count:0<=n/\n<=1000
theorem atl_iff{o:List Int}{ds:List (List Int)}{s:List Int}{n:Int}:atlasB o ds s n=true↔Atl o ds s n:=by unfold atlasB;rw[xh,xh,fieldB_iff,ris_iff,isIn_iff];exact⟨λ⟨a,b,c⟩=>⟨a,b,c⟩,λh=>⟨h.fld,h.set,h.count⟩⟩
theorem fld_low{o:List Int}{ds:List (List Int)}(h:Fld o ds):Low1 o/\Low2 ds:=by have h1:=h.len;have h2:=h.clients;refine⟨by unfold Low1;omega,by omega,λr hr=>?_⟩;obtain⟨j,hj,e⟩:=xbs.1 hr;have h3:=h.rowLen j hj;rw[xd,xg hj,xat,e]at h3;unfold Low1;omega
theorem fld_row{o:List Int}{ds:List (List Int)}(h:Fld o ds):∀r∈ds,r.length=o.length:=λr hr=>by obtain⟨j,hj,e⟩:=xbs.1 hr;have h3:=h.rowLen j hj;rwa [xd,xg hj,xat,e]at h3
theorem erows_copy{f:Int×List (List Int)->Option ((Int×List (List Int))⊕List (List Int))}{x:List (List Int)}
  (aa:∀i:Nat,i<x.length->f ((i:Int),x.take i)=some (.inl (((i+1:Nat):Int),x.take i++ [x.getD i []]))) (ab:f ((x.length:Int),x)=some (.inr x)):iter f (0,[])=some x:=by
 have:=(iter_fold (f:=f) (n:=x.length) (mk:=λi (_:Unit)=>((i:Int),x.take i)) (I:=λ_ _=>True) (g:=λs _=>s) (fin:=λ_=>x) (s0:=()) trivial
  (λi s hi _=>⟨by rw[aa i hi,take_snoc [] hi],trivial⟩)
  (λs _=>by rw[xal,ab])).1
 simpa using this
theorem eown12_loop{ds:List (List Int)}(hd:ds.length<=1000)(hr:∀r∈ds,r.length<=1000)(k:(List (Int))×(List (List (Int)))×(List (Int))×(Int)×(Int)×(List (List (Int)))×(List (Int)))(hk:k.2.1=ds):wbfh k (0,[])=some ds:=by
 have h0:=erows_copy (f:=λv=>(wayt k v).ev) (x:=ds)
  (λi hi=>by have ht:(ds.take i).length<=i:=xft _ _;have r1:=room24 (ds.take i) (by omega);have e1:=eown_eq (l:=ds.getD i []) (by have:=hr _ (getD_mem (d:=[]) hi);omega);simp(disch:=omega)only[EV,wayt,hk,hi,e1,set_end,r1];rfl)
  (by simp(disch:=omega)only[EV,wayt,hk,xi])
 exact h0
theorem eown12_eq{o s:List Int}{ds:List (List Int)}(ho:o.length<=1000)(hd:ds.length<=1000)(hr:∀r∈ds,r.length<=1000)(hs:s.length<=1000)(c:Int):wbbt o ds s c=some (c,o,ds,s):=by unfold wbbt wbum;rw[qn,eown_eq (l:=o) (by omega),xc,qn,eown12_loop hd hr _ rfl,xc,qn,eown_eq (l:=s) (by omega),xc,qq]
theorem map_step{α:Type}(f:α->α)(d:α){l:List α}{i:Nat}(hi:i<l.length):((l.take i).map f++l.drop i).getD i d=l.getD i d/\((l.take i).map f++l.drop i).set i (f (l.getD i d))=(l.take (i+1)).map f++l.drop (i+1)/\((l.take i).map f++l.drop i).length=l.length:=by
 have hl:((l.take i).map f).length=i:=by rw[xbu,xx];omega
 have hd:=xbe hi;have hg:l.getD i d=l[i]:=by rw[xd,xg hi];rfl
 refine⟨?_,?_,?_⟩;·rw[xd,xad (by omega),hl,xdt,hd,hg];rfl
 ·rw[xck _ _ (by omega),hl,xdt,hd,xfx,take_snoc d hi,xdr,xcf];rfl
 ·rw[xl,hl,xas];omega
theorem iter_map{α:Type}{f:Int×List α->Option ((Int×List α)⊕List α)}(g:α->α)(d:α){l:List α}
  (aa:∀(i:Nat) (x:List α),i<l.length->x.length=l.length->x.getD i d=l.getD i d->f ((i:Int),x)=some (.inl (((i+1:Nat):Int),x.set i (g (l.getD i d)))))
  (ab:∀x:List α,x.length=l.length->f ((l.length:Int),x)=some (.inr x)):iter f (0,l)=some (l.map g):=by
 have:=(iter_fold (f:=f) (n:=l.length) (mk:=λi (_:Unit)=>((i:Int),(l.take i).map g++l.drop i)) (I:=λ_ _=>True) (g:=λs _=>s) (fin:=λ_=>l.map g) (s0:=()) trivial
  (λi s hi _=>by obtain⟨h1,h2,h3⟩:=map_step g d hi;exact⟨by rw[aa i _ hi h3 h1,h2],trivial⟩)
  (λs _=>by rw[xal,xdp,xax,ab _ (by simp)])).1
 simpa using this
theorem set_self{α:Type}{l:List α}{i:Nat}(d:α)(hi:i<l.length):l.set i (l.getD i d)=l:=by rw[xd,xg hi,xat,List.set_getElem_self]
def decAbove(a x:Int):Int:=if a<x then x-1 else x
theorem edrop_eq{o s:List Int}{ds:List (List Int)}{n:Int}(h:Atl o ds s n){a:Int}(h0:0<=a)(ha:a<(o.length:Int)):wbvr o ds s n a=some (n,cutAt a o,ds.map (cutAt a),s.map (decAbove a)):=by
 have h7:=h.fld.len;have hm:=h.fld.clients;have ab:=fld_row h.fld;have ai:=h.set.len;have e1:=eown12_eq (o:=o) (ds:=ds) (s:=s) (by omega) (by omega) (λr hr=>by have:=ab r hr;omega) (by omega) n;have e2:=ecut_eq (l:=o) (by omega) h0 ha;have l1:=iter_map (f:=λv=>(waza (a,o,ds,s,n,(0:Int),n,cutAt a o,s) v).ev) (cutAt a) [] (l:=ds)
  (λi x hi hx hg=>by
   have aj:=ab _ (getD_mem (d:=[]) hi);have e3:=ecut_eq (l:=ds.getD i []) (by omega) h0 (by omega);have aa:i<x.length:=by omega
   simp(disch:=omega)only[EV,waza,hi,aa,e3];rfl)
  (λx hx=>by simp(disch:=omega)only[EV,waza,xi])
 have l2:=iter_map (f:=λv=>(wawx (a,(0:Int),n,cutAt a o,ds.map (cutAt a)) v).ev) (decAbove a) 0 (l:=s)
  (λi x hi hx hg=>by
   have aa:i<x.length:=by omega
   have hv:=h.set.1 _ (getD_mem (d:=0) hi);have hw:IntKind.wrap .i64 (s.getD i 0-1)=s.getD i 0-1:=wrap64 (by omega) (by omega);unfold decAbove;by_cases ae:a<s.getD i 0;·simp(disch:=omega)only[EV,wawx,aa,hg,ae,hw];rfl
   ·have ad:x.set i (s.getD i 0)=x:=by rw[<-hg];exact set_self 0 aa
    simp(disch:=omega)only[EV,wawx,aa,hg,ae,ad];rfl)
  (λx hx=>by
   have hn:¬s.length<x.length:=by omega
   simp(disch:=omega)only[EV,wawx,hn])
 have af:wbfq (a,o,ds,s,n,(0:Int),n,cutAt a o,s) (0,ds)=some (ds.map (cutAt a)):=l1;have ah:wbfr (a,(0:Int),n,cutAt a o,ds.map (cutAt a)) (0,s)=some (s.map (decAbove a)):=l2;unfold wbvr wbvq;rw[qn,e1,xc,qn,e2,xc,qn,af,xc,qn,ah,xc,qq]
def editOf(o:List Int)(ds:List (List Int))(s:List Int)(k a b c:Int)(l:List Int):List Int×List (List Int)×List Int:=
 if k=1 then(o,ds,ins a s)
 else if k=2 then(o,ds,wo s a)
 else if k=3 then(o,ds,ins b (wo s a))
 else if k=4 then(o.set a.toNat b,ds,s)
 else if k=5 then(o,ds.set a.toNat ((ds.getD a.toNat []).set b.toNat c),s)
 else if k=6 then(o++ [a],List.zipWith (λr x=>r++ [x]) ds l,s)
 else if k=7 then(o,ds++ [l],s)
 else if k=8 then(cutAt a o,ds.map (cutAt a),s.map (decAbove a))
 else if k=9 then(o,cutAt a ds,s)
 else if k=10 then(o,ds,(locOf o ds s).2)
 else if k=11 then(o,ds,bestOf o ds)
 else(o,ds,s)
def Sm(x:List Int×List (List Int)×List Int):Prop:=Low1 x.1/\Low2 x.2.1/\Low1 x.2.2
theorem atl_open{o s:List Int}{ds:List (List Int)}{n:Int}(h:Atl o ds s n)(h0:s≠ []):openB o ds s=true:=by unfold openB;rw[fieldB_iff.2 h.fld,ris_iff.2 h.set,qc (xar.2 h0)];rfl
theorem zip_step{ds:List (List Int)}{l:List Int}{i:Nat}(hi:i<ds.length)(hl:l.length=ds.length):∀{x:List (List Int)},x=List.zipWith (λr y=>r++ [y]) (ds.take i) (l.take i)++ds.drop i->
  x.getD i []=ds.getD i []/\x.length=ds.length/\x.set i (ds.getD i []++ [l.getD i 0])=List.zipWith (λr y=>r++ [y]) (ds.take (i+1)) (l.take (i+1))++ds.drop (i+1):=by
 intro x hx;subst hx;have hz:(List.zipWith (λr y=>r++ [y]) (ds.take i) (l.take i)).length=i:=by simp;omega
 have hd:=xbe hi;have hg:ds.getD i []=ds[i]:=by rw[xd,xg hi];rfl
 refine⟨?_,?_,?_⟩;·rw[xd,xad (by omega),hz,xdt,hd,hg];rfl
 ·rw[xl,hz,xas];omega
 ·rw[xck _ _ (by omega),hz,xdt,hd,xfx,take_snoc [] hi,take_snoc 0 (show i<l.length by omega),List.zipWith_append (by simp;omega),xcf];rfl
theorem emake_site{ds:List (List Int)}{l:List Int}(hl:l.length=ds.length)(hd:ds.length<=7)(hr:∀r∈ds,r.length<=7)(k:(Int)×(Int)×(Int)×(Int)×(List (Int))×(Int)×(Int)×(List (Int))×(List (Int))×(List (Int))×(List (Int)))(hk:k.2.2.2.2.1=l):
  wbct k (0,ds)=some (List.zipWith (λr x=>r++ [x]) ds l):=by
 have h:=(iter_fold (f:=λv=>(wazh k v).ev) (n:=ds.length) (mk:=λi (x:List (List Int))=>((i:Int),x)) (I:=λi x=>x=List.zipWith (λr y=>r++ [y]) (ds.take i) (l.take i)++ds.drop i) (g:=λx i=>x.set i (ds.getD i []++ [l.getD i 0])) (fin:=λs=>s) (s0:=ds) (by simp)
  (λi x hi hx=>by
   obtain⟨z1,z2,z3⟩:=zip_step hi hl hx;refine⟨?_,z3⟩;have aa:i<l.length:=by omega
   have ab:i<x.length:=by omega
   have r1:=room8 (ds.getD i []) (l.getD i 0) (by have:=hr _ (getD_mem (d:=[]) hi);omega);simp(disch:=omega)only[EV,wazh,hk,aa,ab,z1,r1];rfl)
  (λx hx=>by
   have hn:¬ds.length<l.length:=by omega
   simp(disch:=omega)only[EV,wazh,hk,hn]))
 obtain⟨h1,h2⟩:=h;have h3:wbct k (0,ds)=_:=h1;rw[h3,h2,xal,xdp,xax,xaw (by omega)]
theorem emake_eq{o s:List Int}{ds:List (List Int)}{n:Int}(h:Atl o ds s n){k a b c:Int}{l:List Int}(hl:Low1 l)(hm:mayB o.length ds.length s k a b l=true):
  wbwo o ds s n k a b c l=some (n,editOf o ds s k a b c l)/\Sm (editOf o ds s k a b c l):=by
 have h7:=h.fld.len;have hp:=h.fld.pos;have hc:=h.fld.clients;have af:=fld_row h.fld;have au:=h.set.len;obtain⟨lo,ld⟩:=fld_low h.fld;have ls:Low1 s:=h.set.low h7;have e1:=eown12_eq (o:=o) (ds:=ds) (s:=s) (by omega) (by omega) (λr hr=>by have:=af r hr;omega) (by omega) n;have ab:∀{m:Nat} {x:Int},siteB m x=true->0<=x/\x<(m:Int):=λ{m x} hx=>by have:=isIn_iff.1 hx;omega
 have ad:∀{x:Int},closedB o.length s x=true->(0<=x/\x<(o.length:Int))/\x∉s:=λ{x} hx=>by unfold closedB at hx;rw[xh,xay]at hx;exact⟨ab hx.1,not_contains hx.2⟩
 have aa:∀{x:List Int},x.length<=1000->Low1 x:=λ{x} hx=>by unfold Low1;omega
 unfold wbwo wbwn;rw[qn,e1,xc];dsimp only;by_cases h1:k=1;·subst h1;obtain⟨q1,q2⟩:=ad hm;have e2:=eput_eq (l:=s) (x:=a) (by omega) q2;refine⟨?_,lo,ld,aa (by show(ins a s).length<=1000;rw[eins_len];omega)⟩;rw[qo,show((1:Int)==1)=true from rfl,qa,qn,e2];rfl
 by_cases h2:k=2;·subst h2;have e2:=ewithout_eq (l:=s) (by omega) a;refine⟨?_,lo,ld,aa (by have:=wo_len s a;show(wo s a).length<=1000;omega)⟩;rw[qo,show((2:Int)==1)=false from rfl,qb,qo,show((2:Int)==2)=true from rfl,qa,qn,e2];rfl
 by_cases h3:k=3;·subst h3;have ae:(s.contains a&&closedB o.length s b)=true:=hm;rw[xh]at ae;obtain⟨q1,q2⟩:=ad ae.2;have e2:=ewithout_eq (l:=s) (by omega) a;have av:=wo_len s a;have e3:=eput_eq (l:=wo s a) (x:=b) (by omega) (wo_notin q2);unfold wo at e3;refine⟨?_,lo,ld,aa (by show(ins b (wo s a)).length<=1000;rw[eins_len];omega)⟩;simp only[qo,show((3:Int)==1)=false from rfl,show((3:Int)==2)=false from rfl,show((3:Int)==3)=true from rfl,qa,qb,qn,e2,xc,e3];rfl
 by_cases h4:k=4
 ·subst h4;have hs:=ab (show siteB o.length a=true from hm);have i1:inR a o.length=true:=inR_int (by omega) (by omega);have i2:a.toNat<o.length:=by omega
  refine⟨?_,aa (by show(o.set a.toNat b).length<=1000;rw[xbc];omega),ld,ls⟩;simp only[qo,show((4:Int)==1)=false from rfl,show((4:Int)==2)=false from rfl,show((4:Int)==3)=false from rfl,show((4:Int)==4)=true from rfl,qa,qb,qp,i1,qc i2];rfl
 by_cases h5:k=5
 ·subst h5;have ae:(siteB ds.length a&&siteB o.length b)=true:=hm;rw[xh]at ae;have q1:=ab ae.1;have q2:=ab ae.2;have i2:a.toNat<ds.length:=by omega
  have aw:=af _ (getD_mem (d:=[]) i2);have i1:inR a ds.length=true:=inR_int (by omega) (by omega);have i3:inR b (ds.getD a.toNat []).length=true:=inR_int (by omega) (by omega);have i4:b.toNat<(ds.getD a.toNat []).length:=by omega
  refine⟨?_,lo,⟨by show((ds.set a.toNat ((ds.getD a.toNat []).set b.toNat c)).length:Int)<=_;rw[xbc];omega,λr hr=>?_⟩,ls⟩;·simp only[qo,show((5:Int)==1)=false from rfl,show((5:Int)==2)=false from rfl,show((5:Int)==3)=false from rfl,show((5:Int)==4)=false from rfl,show((5:Int)==5)=true from rfl,qa,qb,qp,i1,qc i2,i3,qc i4];rfl
  ·rcases xep (show r∈ds.set a.toNat ((ds.getD a.toNat []).set b.toNat c)from hr)with hr|rfl;·exact ld.2 r hr
   ·exact aa (by rw[xbc];omega)
 by_cases h6:k=6
 ·subst h6;have ae:((((l.length:Nat):Int))==((ds.length:Nat):Int))=true:=hm;have ak:l.length=ds.length:=by have:=eq_of_beq ae;omega
  have r1:=room8 o a (by omega);have e2:=λk=>emake_site (l:=l) (ds:=ds) ak hc (λr hr=>by have:=af r hr;omega) k;refine⟨?_,aa (by show(o++ [a]).length<=1000;simp;omega),⟨by show((List.zipWith (λr x=>r++ [x]) ds l).length:Int)<=_;simp;omega,λr hr=>?_⟩,ls⟩;·simp only[qo,show((6:Int)==1)=false from rfl,show((6:Int)==2)=false from rfl,show((6:Int)==3)=false from rfl,show((6:Int)==4)=false from rfl,show((6:Int)==5)=false from rfl,show((6:Int)==6)=true from rfl,qa,qb,qp,qc r1,qn];rw[e2 _ rfl];rfl
  ·obtain⟨j,hj,e⟩:=xbs.1 (show r∈List.zipWith (λr x=>r++ [x]) ds l from hr);rw[List.getElem_zipWith]at e;subst e;rw[List.length_zipWith]at hj;exact aa (by have:=af _ (xdz (show j<ds.length by omega));simp;omega)
 by_cases ah:k=7
 ·subst ah;have e2:=eown_eq (l:=l) (by unfold Low1 at hl;omega);have r1:=room24 ds (by omega);refine⟨?_,lo,⟨by show((ds++ [l]).length:Int)<=_;simp;omega,λr hr=>?_⟩,ls⟩;·simp only[qo,show((7:Int)==1)=false from rfl,show((7:Int)==2)=false from rfl,show((7:Int)==3)=false from rfl,show((7:Int)==4)=false from rfl,show((7:Int)==5)=false from rfl,show((7:Int)==6)=false from rfl,show((7:Int)==7)=true from rfl,qa,qb,qn,e2,xc,qp,qc r1,set_end];rfl
  ·rcases xt.1 (show r∈ds++ [l]from hr)with hr|hr;·exact ld.2 r hr
   ·rw[xp.1 hr];exact hl
 by_cases h8:k=8
 ·subst h8;obtain⟨q1,q2⟩:=ad (x:=a) hm;have e2:=edrop_eq h q1.1 q1.2;have al:=cutAt_len (l:=o) q1.1 q1.2;refine⟨?_,aa (by show(cutAt a o).length<=1000;omega),⟨by show((ds.map (cutAt a)).length:Int)<=_;simp;omega,λr hr=>?_⟩,aa (by show(s.map (decAbove a)).length<=1000;simp;omega)⟩;·simp only[qo,show((8:Int)==1)=false from rfl,show((8:Int)==2)=false from rfl,show((8:Int)==3)=false from rfl,show((8:Int)==4)=false from rfl,show((8:Int)==5)=false from rfl,show((8:Int)==6)=false from rfl,show((8:Int)==7)=false from rfl,show((8:Int)==8)=true from rfl,qa,qb,qn,e2];rfl
  ·obtain⟨r',ao,rfl⟩:=xak.1 (show r∈ds.map (cutAt a)from hr);have:=af r' ao;have:=cutAt_len (l:=r') q1.1 (by omega);exact aa (by omega)
 by_cases h9:k=9
 ·subst h9;have q1:=ab (show siteB ds.length a=true from hm);have hw:IntKind.wrap .i64 (a+1)=a+1:=wrap64 (by omega) (by omega);have ht:(a+1).toNat=a.toNat+1:=by omega
  have g1:(decide (0<=a)&&decide (a<=((ds.length:Nat):Int)))=true:=by rw[qc (by omega),qc (by omega)];rfl
  have g2:(decide (0<=a+1)&&decide (a+1<=((ds.length:Nat):Int)))=true:=by rw[qc (by omega),qc (by omega)];rfl
  have g3:(decide (a.toNat<=a.toNat+1)&&decide ((a.toNat+(ds.length-(a.toNat+1)))*24<=140737488355328))=true:=by rw[qc (by omega),qc (by omega)];rfl
  have al:=cutAt_len (l:=ds) q1.1 q1.2;refine⟨?_,lo,⟨by show((cutAt a ds).length:Int)<=_;omega,λr hr=>ld.2 r (cutAt_mem hr)⟩,ls⟩;simp only[qo,show((9:Int)==1)=false from rfl,show((9:Int)==2)=false from rfl,show((9:Int)==3)=false from rfl,show((9:Int)==4)=false from rfl,show((9:Int)==5)=false from rfl,show((9:Int)==6)=false from rfl,show((9:Int)==7)=false from rfl,show((9:Int)==8)=false from rfl,show((9:Int)==9)=true from rfl,qa,qb,qp,hw,ht,g1,g2,g3];rfl
 by_cases ai:k=10;·subst ai;have ae:decide ((0:Int)<((s.length:Nat):Int))=true:=hm;have h0:s≠ []:=xar.1 (by have:=of_decide_eq_true ae;omega);have e2:=elocal_eq lo ld ls;rw[atl_open h h0,qa]at e2;have ar:=(locOf_spec h.fld h.set h0).1;refine⟨?_,lo,ld,ar.low h7⟩;simp only[qo,show((10:Int)==1)=false from rfl,show((10:Int)==2)=false from rfl,show((10:Int)==3)=false from rfl,show((10:Int)==4)=false from rfl,show((10:Int)==5)=false from rfl,show((10:Int)==6)=false from rfl,show((10:Int)==7)=false from rfl,show((10:Int)==8)=false from rfl,show((10:Int)==9)=false from rfl,show((10:Int)==10)=true from rfl,qa,qb,qn,e2];rfl
 by_cases aj:k=11;·subst aj;have e2:=ebest_eq h.fld;have hb:=(sets_ris hp h7 (bestOf_mem h.fld).1).1;have ay:=hb.len;have e3:=eown_eq (l:=bestOf o ds) (by omega);refine⟨?_,lo,ld,hb.low h7⟩;simp only[qo,show((11:Int)==1)=false from rfl,show((11:Int)==2)=false from rfl,show((11:Int)==3)=false from rfl,show((11:Int)==4)=false from rfl,show((11:Int)==5)=false from rfl,show((11:Int)==6)=false from rfl,show((11:Int)==7)=false from rfl,show((11:Int)==8)=false from rfl,show((11:Int)==9)=false from rfl,show((11:Int)==10)=false from rfl,show((11:Int)==11)=true from rfl,qa,qb,qn,e2,xc,e3];rfl
 have he:editOf o ds s k a b c l=(o,ds,s):=by unfold editOf;rw[qh h1,qh h2,qh h3,qh h4,qh h5,qh h6,qh ah,qh h8,qh h9,qh ai,qh aj]
 rw[he];refine⟨?_,lo,ld,ls⟩;simp only[qo,qq,beq_eq_false_iff_ne.2 h1,beq_eq_false_iff_ne.2 h2,beq_eq_false_iff_ne.2 h3,beq_eq_false_iff_ne.2 h4,beq_eq_false_iff_ne.2 h5,beq_eq_false_iff_ne.2 h6,beq_eq_false_iff_ne.2 ah,beq_eq_false_iff_ne.2 h8,beq_eq_false_iff_ne.2 h9,beq_eq_false_iff_ne.2 ai,beq_eq_false_iff_ne.2 aj,qb]
def doOf(o:List Int)(ds:List (List Int))(s:List Int)(n k a b c:Int)(l:List Int):Option (Int×List Int×List (List Int)×List Int):=
 bif plainB k a b c l&&(mayB o.length ds.length s k a b l&&atlasB (editOf o ds s k a b c l).1 (editOf o ds s k a b c l).2.1 (editOf o ds s k a b c l).2.2 (n+1))then some (n+1,editOf o ds s k a b c l)else none
theorem doOf_atl{o s:List Int}{ds:List (List Int)}{n k a b c:Int}{l:List Int}{y:Int×List Int×List (List Int)×List Int}(h:doOf o ds s n k a b c l=some y):Atl y.2.1 y.2.2.1 y.2.2.2 y.1:=by
 unfold doOf at h;cases hb:(plainB k a b c l&&(mayB o.length ds.length s k a b l&&atlasB (editOf o ds s k a b c l).1 (editOf o ds s k a b c l).2.1 (editOf o ds s k a b c l).2.2 (n+1)))with
 |false=>rw[hb]at h;cases h
 |true=>rw[hb]at h;cases h;simp only[xh]at hb;exact atl_iff.1 hb.2.2
def doT(x:Option (Int×List Int×List (List Int)×List Int)):Int×Bool×List Int×List (List Int)×List Int:=match x with
 |some y=>(y.1,true,y.2)
 |none=>(0,false,[],[],[])
theorem edo_eq{o s:List Int}{ds:List (List Int)}{n:Int}(h:Atl o ds s n)(k a b c:Int){l:List Int}(hl:Low1 l):wbwq o ds s n k a b c l=some (doT (doOf o ds s n k a b c l)):=by
 have h7:=h.fld.len;have hc:=h.fld.clients;have aa:=h.set.len;have hn:=h.count;have hw:IntKind.wrap .i64 (n+1)=n+1:=wrap64 (by omega) (by omega);unfold wbwq wbwp doOf;rw[qn,eplain_eq,xc,qo];cases plainB k a b c l with
 |false=>rfl
 |true=>
  rw[xk,qb,qn,emay_eq (by omega) (by omega) (by omega),xc,qo];cases hm:mayB o.length ds.length s k a b l with
  |false=>rfl
  |true=>obtain⟨e1,q1,q2,q3⟩:=emake_eq h (c:=c) hl hm;rw[xk,qb,qn,e1,xc,qn,hw];dsimp only;rw[l12Good_eq q1 q2 q3,xc,qo];cases atlasB (editOf o ds s k a b c l).1 (editOf o ds s k a b c l).2.1 (editOf o ds s k a b c l).2.2 (n+1)<;>rfl
theorem itidy_eq(k a b c:Int)(l:List Int):F_zt k a b c l=some (plainB k a b c l):=by
 unfold F_zt T_zt;by_cases h1:k=1
 ·subst h1;have e:wala 1=some (1,false,true):=rfl;rw[qn,e,xc];unfold plainB nilB;dsimp only;generalize(a==0)=x;generalize(b==0)=y;generalize(c==0)=z;generalize(((List.length l:Nat):Int)==0)=w
  revert x y z w
  decide
 by_cases h2:k=2
 ·subst h2;have e:wala 2=some (1,false,true):=rfl;rw[qn,e,xc];unfold plainB nilB;dsimp only;generalize(a==0)=x;generalize(b==0)=y;generalize(c==0)=z;generalize(((List.length l:Nat):Int)==0)=w
  revert x y z w
  decide
 by_cases h3:k=3
 ·subst h3;have e:wala 3=some (2,false,true):=rfl;rw[qn,e,xc];unfold plainB nilB;dsimp only;generalize(a==0)=x;generalize(b==0)=y;generalize(c==0)=z;generalize(((List.length l:Nat):Int)==0)=w
  revert x y z w
  decide
 by_cases h4:k=4
 ·subst h4;have e:wala 4=some (2,false,true):=rfl;rw[qn,e,xc];unfold plainB nilB;dsimp only;generalize(a==0)=x;generalize(b==0)=y;generalize(c==0)=z;generalize(((List.length l:Nat):Int)==0)=w
  revert x y z w
  decide
 by_cases h5:k=5
 ·subst h5;have e:wala 5=some (3,false,true):=rfl;rw[qn,e,xc];unfold plainB nilB;dsimp only;generalize(a==0)=x;generalize(b==0)=y;generalize(c==0)=z;generalize(((List.length l:Nat):Int)==0)=w
  revert x y z w
  decide
 by_cases h6:k=6
 ·subst h6;have e:wala 6=some (1,true,true):=rfl;rw[qn,e,xc];unfold plainB nilB;dsimp only;generalize(a==0)=x;generalize(b==0)=y;generalize(c==0)=z;generalize(((List.length l:Nat):Int)==0)=w
  revert x y z w
  decide
 by_cases h7:k=7
 ·subst h7;have e:wala 7=some (0,true,true):=rfl;rw[qn,e,xc];unfold plainB nilB;dsimp only;generalize(a==0)=x;generalize(b==0)=y;generalize(c==0)=z;generalize(((List.length l:Nat):Int)==0)=w
  revert x y z w
  decide
 by_cases h8:k=8
 ·subst h8;have e:wala 8=some (1,false,true):=rfl;rw[qn,e,xc];unfold plainB nilB;dsimp only;generalize(a==0)=x;generalize(b==0)=y;generalize(c==0)=z;generalize(((List.length l:Nat):Int)==0)=w
  revert x y z w
  decide
 by_cases h9:k=9
 ·subst h9;have e:wala 9=some (1,false,true):=rfl;rw[qn,e,xc];unfold plainB nilB;dsimp only;generalize(a==0)=x;generalize(b==0)=y;generalize(c==0)=z;generalize(((List.length l:Nat):Int)==0)=w
  revert x y z w
  decide
 by_cases aa:k=10
 ·subst aa;have e:wala 10=some (0,false,true):=rfl;rw[qn,e,xc];unfold plainB nilB;dsimp only;generalize(a==0)=x;generalize(b==0)=y;generalize(c==0)=z;generalize(((List.length l:Nat):Int)==0)=w
  revert x y z w
  decide
 by_cases ab:k=11
 ·subst ab;have e:wala 11=some (0,false,true):=rfl;rw[qn,e,xc];unfold plainB nilB;dsimp only;generalize(a==0)=x;generalize(b==0)=y;generalize(c==0)=z;generalize(((List.length l:Nat):Int)==0)=w
  revert x y z w
  decide
 have e:wala k=some (0,false,false):=by unfold wala wbpn;simp only[qo,qq,beq_eq_false_iff_ne.2 h1,beq_eq_false_iff_ne.2 h2,beq_eq_false_iff_ne.2 h3,beq_eq_false_iff_ne.2 h4,beq_eq_false_iff_ne.2 h5,beq_eq_false_iff_ne.2 h6,beq_eq_false_iff_ne.2 h7,beq_eq_false_iff_ne.2 h8,beq_eq_false_iff_ne.2 h9,beq_eq_false_iff_ne.2 aa,beq_eq_false_iff_ne.2 ab,qb]
 have hp:plainB k a b c l=false:=by unfold plainB;rw[qh (by omega),qh (by omega),qh h5,qh h6,qh h7,qh (by omega)]
 rw[qn,e,hp];rfl
theorem eclone_eq{l:List Int}(hl:Low1 l):wbac l=some l:=by unfold Low1 at hl;unfold wbac cloneF;rw[qi (by omega)]
theorem ecopyLists_eq{ds:List (List Int)}(hd:Low2 ds):wbib ds=some ds:=by
 unfold wbib wbpe;have hl:=hd.1;have h0:=erows_copy (f:=λv=>(wapp (ds,((ds.length:Nat):Int)) v).ev) (x:=ds)
  (λi hi=>by
   have ht:(ds.take i).length<=i:=xft _ _;have hg:((ds.take i).length+1)*24<=140737488355328:=by omega
   simp(disch:=omega)only[EV,wapp,hi,eclone_eq (hd.2 _ (getD_mem (d:=[]) hi)),set_end,hg];rfl)
  (by simp(disch:=omega)only[EV,wapp,xi])
 simp(disch:=omega)only[EV,wbdb,h0]
theorem ecopied_eq{o:List Int}{ds:List (List Int)}{s:List Int}(ho:Low1 o)(hd:Low2 ds)(hs:Low1 s)(c:Int):F_zm o ds s c=some (c,o,ds,s):=by unfold F_zm T_zm;simp(disch:=omega)only[EV,eclone_eq ho,eclone_eq hs,ecopyLists_eq hd]
theorem im_IsAtlas_eq0{o:List Int}{ds:List (List Int)}{s:List Int}(ho:Low1 o)(hd:Low2 ds)(hs:Low1 s)(c:Int):wakz o ds s c=some (atlasB o ds s c):=im_IsAtlas_eq ho hd hs c
theorem emake_sm{o s:List Int}{ds:List (List Int)}{n:Int}(h:Atl o ds s n){k a b c:Int}{l:List Int}(hl:Low1 l)(hm:mayB o.length ds.length s k a b l=true):Sm (editOf o ds s k a b c l):=(emake_eq h hl hm).2
theorem do_fin{o s:List Int}{ds:List (List Int)}{n k a b c:Int}{l:List Int}(hp:plainB k a b c l=true)(hm:mayB o.length ds.length s k a b l=true){E:List Int×List (List Int)×List Int}(hE:editOf o ds s k a b c l=E)(hS:Sm E):
  (Tr.c (Bool) (wakz E.1 E.2.1 E.2.2 (n+1)) λr=>Tr.t (!r) (.l ((0:Int),false,([]:List (Int)),([]:List (List (Int))),([]:List (Int)))) (.l (n+1,true,E.1,E.2.1,E.2.2))).ev=some (doT (doOf o ds s n k a b c l)):=by
 obtain⟨h1,h2,h3⟩:=hS;unfold doOf;rw[hp,hm,hE,qn,im_IsAtlas_eq0 h1 h2 h3,xc,qo];cases atlasB E.1 E.2.1 E.2.2 (n+1)<;>rfl
theorem do_no{o s:List Int}{ds:List (List Int)}{n k a b c:Int}{l:List Int}(hm:mayB o.length ds.length s k a b l=false):doOf o ds s n k a b c l=none:=by unfold doOf;rw[hm];simp
theorem isite_eq{o s:List Int}{ds:List (List Int)}(ho:o.length<=1000)(n a:Int):F_zs a o ds s n=some (siteB o.length a):=by unfold F_zs T_zs siteB;rw[qn,between_eq,xc,qq,wrap64 (by omega) (by omega)]
theorem idel_eq{α:Type}{a:Int}{l:List α}(h0:0<=a)(h:a<(l.length:Int)):delF a (a+1) l=some (cutAt a l):=by unfold delF cutAt;rw[qi (by omega),show(a+1).toNat=a.toNat+1 by omega]
theorem imake_site{ds:List (List Int)}{l:List Int}(hl:l.length=ds.length)(hd:ds.length<=7)(hr:∀r∈ds,r.length<=7)(k:(Bool)×(List (Int))×(Int)×(Int)×(Int)×(List (Int))×(List (Int))×(List (Int))×(List (Int)))(hk:k.2.1=l)(aa:k.2.2.1=((l.length:Nat):Int)):
  L_zs k (0,ds)=some (List.zipWith (λr x=>r++ [x]) ds l):=by
 have h:=(iter_fold (f:=λv=>(S_zs k v).ev) (n:=ds.length) (mk:=λi (x:List (List Int))=>((i:Int),x)) (I:=λi x=>x=List.zipWith (λr y=>r++ [y]) (ds.take i) (l.take i)++ds.drop i) (g:=λx i=>x.set i (ds.getD i []++ [l.getD i 0])) (fin:=λs=>s) (s0:=ds) (by simp)
  (λi x hi hx=>by
   obtain⟨z1,z2,z3⟩:=zip_step hi hl hx;refine⟨?_,z3⟩;have ab:i<l.length:=by omega
   have ad:i<x.length:=by omega
   have r1:=room8 (ds.getD i []) (l.getD i 0) (by have:=hr _ (getD_mem (d:=[]) hi);omega);simp(disch:=omega)only[EV,S_zs,hk,aa,ab,ad,z1,r1];rfl)
  (λx hx=>by
   have hn:¬ds.length<l.length:=by omega
   simp(disch:=omega)only[EV,S_zs,aa,hn]))
 obtain⟨h1,h2⟩:=h;have h3:L_zs k (0,ds)=_:=h1;rw[h3,h2,xal,xdp,xax,xaw (by omega)]
theorem idrop3{o s:List Int}{ds:List (List Int)}{n:Int}(h:Atl o ds s n){a:Int}(h0:0<=a)(ha:a<(o.length:Int))(k:(Int)×(Bool)×(Int)×(Int)×(Int)×(List (Int))×(List (Int)))(hk:k.1=a)(aa:k.2.2.1=((ds.length:Nat):Int)):
  wbta k (0,ds)=some (ds.map (cutAt a)):=by
 have h7:=h.fld.len;have hm:=h.fld.clients;have ab:=fld_row h.fld;have hw:IntKind.wrap .i64 (a+1)=a+1:=wrap64 (by omega) (by omega);have l1:=iter_map (f:=λv=>(wbcj k v).ev) (cutAt a) [] (l:=ds)
  (λi x hi hx hg=>by
   have ae:=ab _ (getD_mem (d:=[]) hi);have e3:wbpu a (a+1) (ds.getD i [])=some (cutAt a (ds.getD i [])):=idel_eq h0 (by omega);have ad:i<x.length:=by omega
   simp(disch:=omega)only[EV,wbcj,hk,aa,hi,ad,hg,hw,e3];rfl)
  (λx hx=>by simp(disch:=omega)only[EV,wbcj,aa,xi])
 exact l1
theorem idrop5{o s:List Int}{ds:List (List Int)}{n:Int}(h:Atl o ds s n){a:Int}(k:(Int)×(Bool)×(Int)×(Int)×(Int)×(List (Int))×(List (List (Int))))(hk:k.1=a)(aa:k.2.2.1=((s.length:Nat):Int)):
  wbtb k (0,s)=some (s.map (decAbove a)):=by
 have h7:=h.fld.len;have af:=h.set.len;have l2:=iter_map (f:=λv=>(wbbo k v).ev) (decAbove a) 0 (l:=s)
  (λi x hi hx hg=>by
   have ab:i<x.length:=by omega
   have hv:=h.set.1 _ (getD_mem (d:=0) hi);have hw:IntKind.wrap .i64 (s.getD i 0-1)=s.getD i 0-1:=wrap64 (by omega) (by omega);unfold decAbove;by_cases ae:a<s.getD i 0;·simp(disch:=omega)only[EV,wbbo,hk,aa,hi,ab,hg,ae,hw];rfl
   ·have ad:x.set i (s.getD i 0)=x:=by rw[<-hg];exact set_self 0 ab
    simp(disch:=omega)only[EV,wbbo,hk,aa,hi,ab,hg,ae,ad];rfl)
  (λx hx=>by simp(disch:=omega)only[EV,wbbo,aa,xi])
 exact l2
theorem iedit_eq{o s:List Int}{ds:List (List Int)}{n:Int}(h:Atl o ds s n)(k a b c:Int){l:List Int}(hl:Low1 l):F_zr o ds s n k a b c l=some (doT (doOf o ds s n k a b c l)):=by
 have h7:=h.fld.len;have bb:=h.fld.pos;have hc:=h.fld.clients;have ai:=fld_row h.fld;have bc:=h.set.len;have hn:=h.count;obtain⟨lo,ld⟩:=fld_low h.fld;have ls:Low1 s:=h.set.low h7;have hw:IntKind.wrap .i64 (n+1)=n+1:=wrap64 (by omega) (by omega);have e0:=im_IsAtlas_eq0 lo ld ls n;rw[atl_iff.2 h]at e0;have e1:=itidy_eq k a b c l;have e2:=ecopied_eq lo ld ls n;have e3:=bagOf_eq h7 h.set;have e4:wazz a 0 (IntKind.wrap .i64 (((ds.length:Nat):Int) -1))=some (siteB ds.length a):=by rw[wrap64 (by omega) (by omega),between_eq];rfl
 have e5:=λx=>isite_eq (s:=s) (ds:=ds) (show o.length<=1000 by omega) n x;have ad:∀{m:Nat} {x:Int},siteB m x=true->0<=x/\x<(m:Int):=λ{m x} hx=>by have:=isIn_iff.1 hx;omega
 have al:∀{x:List Int},x.length<=1000->Low1 x:=λ{x} hx=>by unfold Low1;omega
 unfold F_zr T_zr;rw[qn,e0,xc,qo,xk,qb,qn,e1,xc,qo];cases hp:plainB k a b c l with
 |false=>
  have hd:doOf o ds s n k a b c l=none:=by unfold doOf;rw[hp];rfl
  rw[hd];rfl
 |true=>
  rw[xk,qb,qn,e2,xc,qn,e3,xc,qn,e4,xc];dsimp only;rw[hw];clear e0 e1 e2 e3;by_cases h1:k=1
  ·subst h1;rw[qo,show((1:Int)==1)=true from rfl,qa,qn,e5,xc,qo];cases ab:siteB o.length a with
   |false=>
    have hm:mayB o.length ds.length s 1 a b l=false:=by show closedB o.length s a=false;unfold closedB;rw[ab];rfl
    rw[do_no hm];rfl
   |true=>
    have q1:=ad ab;have e6:=bagHas_eq h7 h.set q1.1 (show a<7 by omega);rw[qa,qn,e6,xc];cases ae:s.contains a with
    |true=>
     have hm:mayB o.length ds.length s 1 a b l=false:=by show closedB o.length s a=false;unfold closedB;rw[ab,ae];rfl
     rw[do_no hm];rfl
    |false=>
     have hm:mayB o.length ds.length s 1 a b l=true:=by show closedB o.length s a=true;unfold closedB;rw[ab,ae];rfl
     have ao:=not_contains ae;have e7:=bagPut_eq h7 h.set q1.1 (show a<7 by omega) ao;unfold orB at e7;rw[qo,xae,qa,qp,qc q1.1,qa,qn,e7,xc,qo,xk,qb];exact do_fin hp hm (E:=(o,ds,ins a s)) rfl ⟨lo,ld,(h.set.ins q1.1 q1.2 ao).low h7⟩
  by_cases h2:k=2
  ·subst h2;rw[qo,show((2:Int)==1)=false from rfl,qb,qo,show((2:Int)==2)=true from rfl,qa,qn,e5,xc,qo];cases ab:siteB o.length a with
   |false=>
    have hm:mayB o.length ds.length s 2 a b l=false:=by
     show s.contains a=false;cases ae:s.contains a with
     |false=>rfl
     |true=>have hr:=h.set.1 a (xcd.1 ae);have:siteB o.length a=true:=isIn_iff.2 (by omega);rw[this]at ab;cases ab
    rw[do_no hm];rfl
   |true=>
    have q1:=ad ab;have e6:=bagHas_eq h7 h.set q1.1 (show a<7 by omega);rw[qa,qn,e6,xc];cases ae:s.contains a with
    |false=>have hm:mayB o.length ds.length s 2 a b l=false:=ae;rw[do_no hm];rfl
    |true=>have hm:mayB o.length ds.length s 2 a b l=true:=ae;have e7:=bagCut_eq h7 h.set q1.1 (show a<7 by omega);unfold anB at e7;rw[qo,qa,qp,qc q1.1,qa,qn,e7,xc,qo,xk,qb];exact do_fin hp hm (E:=(o,ds,wo s a)) rfl ⟨lo,ld,(h.set.wo a).low h7⟩
  by_cases h3:k=3
  ·subst h3;have aa:mayB o.length ds.length s 3 a b l=(s.contains a&&closedB o.length s b):=rfl;rw[qo,show((3:Int)==1)=false from rfl,qb,qo,show((3:Int)==2)=false from rfl,qb,qo,show((3:Int)==3)=true from rfl,qa,qn,e5,xc,qo];cases ab:siteB o.length a with
   |false=>
    have ae:s.contains a=false:=by
     cases ae:s.contains a with
     |false=>rfl
     |true=>have hr:=h.set.1 a (xcd.1 ae);have:siteB o.length a=true:=isIn_iff.2 (by omega);rw[this]at ab;cases ab
    rw[do_no (by rw[aa,ae];rfl)];rfl
   |true=>
    have q1:=ad ab;have e6:=bagHas_eq h7 h.set q1.1 (show a<7 by omega);rw[qa,qn,e5,xc,qo];cases af:siteB o.length b with
    |false=>
     have ah:closedB o.length s b=false:=by unfold closedB;rw[af];rfl
     rw[do_no (by rw[aa,ah,xfj])];rfl
    |true=>
     have q2:=ad af;have e7:=bagHas_eq h7 h.set q2.1 (show b<7 by omega);rw[qa,qn,e6,xc];cases ae:s.contains a with
     |false=>rw[do_no (by rw[aa,ae];rfl)];rfl
     |true=>
      rw[qo,qa,qn,e7,xc];cases aj:s.contains b with
      |true=>
       have ah:closedB o.length s b=false:=by unfold closedB;rw[af,aj];rfl
       rw[do_no (by rw[aa,ah,xfj])];rfl
      |false=>
       have ah:closedB o.length s b=true:=by unfold closedB;rw[af,aj];rfl
       have ar:=not_contains aj;have e8:=swapped_eq h7 h.set q1.1 (show a<7 by omega) q2.1 (show b<7 by omega) ar;rw[qo,xae,qa,qn,e8,xc,qo,xk,qb];exact do_fin hp (by rw[aa,ae,ah];rfl) (E:=(o,ds,ins b (wo s a))) rfl ⟨lo,ld,((h.set.wo a).ins q2.1 q2.2 (wo_notin ar)).low h7⟩
  by_cases h4:k=4
  ·subst h4;have aa:mayB o.length ds.length s 4 a b l=siteB o.length a:=rfl;rw[qo,show((4:Int)==1)=false from rfl,qb,qo,show((4:Int)==2)=false from rfl,qb,qo,show((4:Int)==3)=false from rfl,qb,qo,show((4:Int)==4)=true from rfl,qa,qn,e5,xc,qo];cases ab:siteB o.length a with
   |false=>rw[do_no (aa.trans ab)];rfl
   |true=>
    have q1:=ad ab;have i1:inR a o.length=true:=inR_int (by omega) (by omega);have i2:a.toNat<o.length:=by omega
    rw[qa,qp,i1,qa,qp,qc i2,qa,qo,xk,qb];exact do_fin hp (aa.trans ab) (E:=(o.set a.toNat b,ds,s)) rfl ⟨al (by rw[xbc];omega),ld,ls⟩
  by_cases h5:k=5
  ·subst h5;have aa:mayB o.length ds.length s 5 a b l=(siteB ds.length a&&siteB o.length b):=rfl;rw[qo,show((5:Int)==1)=false from rfl,qb,qo,show((5:Int)==2)=false from rfl,qb,qo,show((5:Int)==3)=false from rfl,qb,qo,show((5:Int)==4)=false from rfl,qb,qo,show((5:Int)==5)=true from rfl,qa,qo];cases ab:siteB ds.length a with
   |false=>rw[do_no (by rw[aa,ab];rfl)];rfl
   |true=>
    have q1:=ad ab;rw[qa,qn,e5,xc,qo];cases af:siteB o.length b with
    |false=>rw[do_no (by rw[aa,af,xfj])];rfl
    |true=>
     have q2:=ad af;have i2:a.toNat<ds.length:=by omega
     have bd:=ai _ (getD_mem (d:=[]) i2);have i1:inR a ds.length=true:=inR_int (by omega) (by omega);have i3:inR b (ds.getD a.toNat []).length=true:=inR_int (by omega) (by omega);have i4:b.toNat<(ds.getD a.toNat []).length:=by omega
     rw[qa,qp,i1,qa,qp,qc i2,qa,qp,i3,qa,qp,qc i4,qa,qo,xk,qb];exact do_fin hp (by rw[aa,ab,af];rfl) (E:=(o,ds.set a.toNat ((ds.getD a.toNat []).set b.toNat c),s)) rfl (emake_sm h hl (k:=5) (c:=c) (by rw[aa,ab,af];rfl))
  by_cases h6:k=6
  ·subst h6;have aa:mayB o.length ds.length s 6 a b l=(((l.length:Nat):Int)==((ds.length:Nat):Int)):=rfl;rw[qo,show((6:Int)==1)=false from rfl,qb,qo,show((6:Int)==2)=false from rfl,qb,qo,show((6:Int)==3)=false from rfl,qb,qo,show((6:Int)==4)=false from rfl,qb,qo,show((6:Int)==5)=false from rfl,qb,qo,show((6:Int)==6)=true from rfl,qa,qo];cases ab:(((l.length:Nat):Int)==((ds.length:Nat):Int))with
   |false=>rw[do_no (aa.trans ab)];rfl
   |true=>
    have av:l.length=ds.length:=by have:=eq_of_beq ab;omega
    have r1:=room8 o a (by omega);rw[qa,qp,qc r1,qa,qn,imake_site av hc (λr hr=>by have:=ai r hr;omega) _ rfl rfl,xc,qo,xk,qb];exact do_fin hp (aa.trans ab) (E:=(o++ [a],List.zipWith (λr x=>r++ [x]) ds l,s)) rfl (emake_sm h hl (k:=6) (c:=c) (aa.trans ab))
  by_cases au:k=7;·subst au;have aa:mayB o.length ds.length s 7 a b l=true:=rfl;have r1:=room24 ds (by omega);rw[qo,show((7:Int)==1)=false from rfl,qb,qo,show((7:Int)==2)=false from rfl,qb,qo,show((7:Int)==3)=false from rfl,qb,qo,show((7:Int)==4)=false from rfl,qb,qo,show((7:Int)==5)=false from rfl,qb,qo,show((7:Int)==6)=false from rfl,qb,qo,show((7:Int)==7)=true from rfl,qa,qn,eclone_eq hl,xc,qp,qc r1,qa,set_end];exact do_fin hp aa (E:=(o,ds++ [l],s)) rfl (emake_sm h hl (k:=7) (c:=c) aa)
  by_cases h8:k=8
  ·subst h8;have aa:mayB o.length ds.length s 8 a b l=closedB o.length s a:=rfl;rw[qo,show((8:Int)==1)=false from rfl,qb,qo,show((8:Int)==2)=false from rfl,qb,qo,show((8:Int)==3)=false from rfl,qb,qo,show((8:Int)==4)=false from rfl,qb,qo,show((8:Int)==5)=false from rfl,qb,qo,show((8:Int)==6)=false from rfl,qb,qo,show((8:Int)==7)=false from rfl,qb,qo,show((8:Int)==8)=true from rfl,qa,qn,e5,xc,qo];cases ab:siteB o.length a with
   |false=>rw[do_no (by rw[aa];unfold closedB;rw[ab];rfl)];rfl
   |true=>
    have q1:=ad ab;have e6:=bagHas_eq h7 h.set q1.1 (show a<7 by omega);rw[qa,qn,e6,xc];cases ae:s.contains a with
    |true=>rw[do_no (by rw[aa];unfold closedB;rw[ab,ae];rfl)];rfl
    |false=>
     have hm:mayB o.length ds.length s 8 a b l=true:=by rw[aa];unfold closedB;rw[ab,ae];rfl
     have ak:IntKind.wrap .i64 (a+1)=a+1:=wrap64 (by omega) (by omega);have e7:wbpu a (a+1) o=some (cutAt a o):=idel_eq q1.1 q1.2;rw[qo,xae,qa,ak,qn,e7,xc,qn,idrop3 h q1.1 q1.2 _ rfl rfl,xc,qn,idrop5 h _ rfl rfl,xc,qo,xk,qb];exact do_fin hp hm (E:=(cutAt a o,ds.map (cutAt a),s.map (decAbove a))) rfl (emake_sm h hl (k:=8) (c:=c) hm)
  by_cases h9:k=9
  ·subst h9;have aa:mayB o.length ds.length s 9 a b l=siteB ds.length a:=rfl;rw[qo,show((9:Int)==1)=false from rfl,qb,qo,show((9:Int)==2)=false from rfl,qb,qo,show((9:Int)==3)=false from rfl,qb,qo,show((9:Int)==4)=false from rfl,qb,qo,show((9:Int)==5)=false from rfl,qb,qo,show((9:Int)==6)=false from rfl,qb,qo,show((9:Int)==7)=false from rfl,qb,qo,show((9:Int)==8)=false from rfl,qb,qo,show((9:Int)==9)=true from rfl,qa,qo];cases ab:siteB ds.length a with|false=>rw[do_no (aa.trans ab)];rfl|true=>have q1:=ad ab;have ak:IntKind.wrap .i64 (a+1)=a+1:=wrap64 (by omega) (by omega);have e7:wcha a (a+1) ds=some (cutAt a ds):=idel_eq q1.1 q1.2;rw[qa,ak,qn,e7,xc,qo,xk,qb];exact do_fin hp (aa.trans ab) (E:=(o,cutAt a ds,s)) rfl (emake_sm h hl (k:=9) (c:=c) (aa.trans ab))
  by_cases aw:k=10
  ·subst aw;have aa:mayB o.length ds.length s 10 a b l=decide ((0:Int)<((s.length:Nat):Int)):=rfl;have e6:=ilocal_eq lo ld ls;rw[qo,show((10:Int)==1)=false from rfl,qb,qo,show((10:Int)==2)=false from rfl,qb,qo,show((10:Int)==3)=false from rfl,qb,qo,show((10:Int)==4)=false from rfl,qb,qo,show((10:Int)==5)=false from rfl,qb,qo,show((10:Int)==6)=false from rfl,qb,qo,show((10:Int)==7)=false from rfl,qb,qo,show((10:Int)==8)=false from rfl,qb,qo,show((10:Int)==9)=false from rfl,qb,qo,show((10:Int)==10)=true from rfl,qa,qn,e6,xc];by_cases h0:s=[]
   ·have ay:openB o ds s=false:=by unfold openB;rw[h0];simp
    rw[do_no (by rw[aa,h0];rfl),ay];rfl
   ·have hq:=xar.2 h0;have hm:mayB o.length ds.length s 10 a b l=true:=by rw[aa];exact qc (by omega)
    rw[atl_open h h0,qa,qo,xk,qb];exact do_fin hp hm (E:=(o,ds,(locOf o ds s).2)) rfl (emake_sm h hl (k:=10) (c:=c) hm)
  by_cases az:k=11;·subst az;have aa:mayB o.length ds.length s 11 a b l=true:=rfl;rw[qo,show((11:Int)==1)=false from rfl,qb,qo,show((11:Int)==2)=false from rfl,qb,qo,show((11:Int)==3)=false from rfl,qb,qo,show((11:Int)==4)=false from rfl,qb,qo,show((11:Int)==5)=false from rfl,qb,qo,show((11:Int)==6)=false from rfl,qb,qo,show((11:Int)==7)=false from rfl,qb,qo,show((11:Int)==8)=false from rfl,qb,qo,show((11:Int)==9)=false from rfl,qb,qo,show((11:Int)==10)=false from rfl,qb,qo,show((11:Int)==11)=true from rfl,qa,qn,ibest_eq lo ld h.fld,xc,qo,xk,qb];exact do_fin hp aa (E:=(o,ds,bestOf o ds)) rfl (emake_sm h hl (k:=11) (c:=c) aa)
  have ba:plainB k a b c l=false:=by unfold plainB;rw[qh (by omega),qh (by omega),qh h5,qh h6,qh au,qh (by omega)]
  rw[ba]at hp;cases hp
section
variable {o:List Int}{ds:List (List Int)}{s:List Int}{n:Int}
def Told(x:Option (List UInt8×Bool))(y:Option (List UInt8)):Prop:=∃rep ok,x=some (rep,ok)/\y=some (if ok then rep else[63])
theorem told_t{c:Bool}{a a':Tr (List UInt8×Bool)}{b b':Tr (List UInt8)}(h1:Told a.ev b.ev)(h2:c=false->Told a'.ev b'.ev):Told (Tr.t c a a').ev (Tr.t c b b').ev:=by
 cases c with
 |true=>exact h1
 |false=>exact h2 rfl
theorem Itoa_any{x:Int}(h: -999999<=x/\x<=999999):wapq x=some (Lib.itoa x):=by
 unfold wapq itoaF inI64;have e:(decide (-9223372036854775808<=x)&&decide (x<=9223372036854775807))=true:=by simp only[xh,qe];omega
 rw[qi e]
theorem told_num{X Y:Option (Int×Bool)}{v:Int×Bool}(hx:X=some v)(hy:Y=some v)(h: -999999<=v.1/\v.1<=999999):
  Told (Tr.c (Int×Bool) X λr=>.c (List UInt8×Bool) (F_zk r.1 r.2) λq=>.l (q.1,q.2)).ev (Tr.c (Int×Bool) Y λr=>.c (List UInt8) (wbcu r.1 r.2) λq=>.l q).ev:=by
 have e:F_zk v.1 v.2=some (Lib.itoa v.1,v.2):=by unfold F_zk T_zk;rw[qn,Itoa_any h,xc,qq]
 refine⟨Lib.itoa v.1,v.2,?_,?_⟩;·rw[qn,hx,xc,qn,e,xc,qq]
 ·rw[qn,hy,xc,qn,l12Say_eq λ_=>h,xc,qq]
theorem told_lst{X Y:Option (Bool×List Int)}{v:Bool×List Int}(hx:X=some v)(hy:Y=some v)(h:Few v.2):
  Told (Tr.c (Bool×List Int) X λr=>.c (List UInt8×Bool) (F_zl r.2 r.1) λq=>.l (q.1,q.2)).ev (Tr.c (Bool×List Int) Y λr=>.c (List UInt8) (wazo r.2 r.1) λq=>.l q).ev:=by
 refine⟨tellL v.2,v.1,?_,?_⟩;·rw[qn,hx,xc,qn,ask_list h,xc,qq]
 ·rw[qn,hy,xc,qn,l12List_eq h,xc,qq]
theorem told_yes{X Y:Option (Bool×Bool)}{v:Bool×Bool}(hx:X=some v)(hy:Y=some v):
  Told (Tr.c (Bool×Bool) X λr=>.c (List UInt8×Bool) (wbju r.1 r.2) λq=>.l (q.1,q.2)).ev (Tr.c (Bool×Bool) Y λr=>.c (List UInt8) (wbxs r.1 r.2) λq=>.l q).ev:=by
 obtain⟨a,b⟩:=v;subst hx hy;cases a<;>cases b<;>exact⟨_,_,rfl,rfl⟩
theorem gap_all(h:Atl o ds s n)(lo:Low1 o)(ld:Low2 ds)(ls:Low1 s):∃v,F_zh o ds s n=some v/\wbxf o ds s n=some v/\ -999999<=v.1/\v.1<=999999:=by
 have e1:=sp_AtlasTotal_eq lo ld ls n;have e2:=im_AtlasTotal_eq lo ld ls n;unfold totalOf at e1 e2;rw[atl_iff.2 h,xcg]at e1 e2;unfold wbxf wbxe F_zh T_zh;by_cases h0:0<s.length
 ·rw[qc h0,qa]at e1 e2;obtain⟨p,p1,p2,p3⟩:=ascent_both lo ld h.fld;have e3:=l3Sum_eq h.fld p1;have e4:=sumP_eq h.fld p1;have hl:=p1.len;have hc:=h.fld.clients;have aa:=psum_le p1 h.fld ds.length (xm _);rw[<-hl]at aa;have q1:=pay_small h.fld h.set;have q2:=serve_in h.fld (Places.of ls (ris_iff.2 h.set)) h0;have hw:IntKind.wrap .i64 (pay o s+serve ds s-psum p p.length)=pay o s+serve ds s-psum p p.length:=wrap64 (by omega) (by omega);refine⟨(pay o s+serve ds s-psum p p.length,true),?_,?_,by simp only;omega,by simp only;omega⟩;·rw[qn,e2,xc,qo,xk,qb,qn,p3,xc,qn];dsimp only;rw[e4,xc,qq,hw]
  ·rw[qn,e1,xc,qo,xk,qb,qn,p2,xc,qn,e3,xc,qq,hw]
 ·rw[qd h0,qb]at e1 e2;refine⟨(0,false),?_,?_,by simp only;omega,by simp only;omega⟩;·rw[qn,e2,xc,qo,xae,qa,qq]
  ·rw[qn,e1,xc,qo,xae,qa,qq]
theorem ask_word(h:Atl o ds s n)(w:List UInt8):Told (F_zj o ds s n w []) (wbob o ds s n w):=by
 obtain⟨lo,ld⟩:=fld_low h.fld;have ls:=h.set.low h.fld.len;have h7:=h.fld.len;have hc:=h.fld.clients;have aa:=Places.of ls (ris_iff.2 h.set);have ab:openB o ds s=decide (0<s.length):=by unfold openB;rw[fieldB_iff.2 h.fld,ris_iff.2 h.set,xcg,xcg]
 -- total
 have t1: -999999<=(totalOf o ds s n).1/\(totalOf o ds s n).1<=999999:=by
  unfold totalOf;rw[atl_iff.2 h,xcg];have q1:=pay_small h.fld h.set;by_cases h0:0<s.length;·have q2:=serve_in h.fld aa h0;rw[qc h0,qa];simp only;omega
  ·rw[qd h0,qb];simp only;omega
 obtain⟨g,g1,g2,g3⟩:=gap_all h lo ld ls;have two:=l2Two_eq lo ld ls;have opd:=isOpened_eq lo ld ls;rw[ab]at two opd
 -- ad of a set
 have sv:∃v:Int×Bool,wbrk o ds s=some v/\wbxh o ds s=some v/\ -999999<=v.1/\v.1<=999999:=by
  unfold wbrk wcdy wbxh wbxg;by_cases h0:0<s.length
  ·rw[qc h0]at two opd;have q2:=serve_in h.fld aa h0;refine⟨(serve ds s,true),?_,?_,by simp only;omega,by simp only;omega⟩;·rw[qn,opd,xc,qo,xk,qb,qn,service_eq h.fld aa h0,xc,qq]
   ·rw[qn,two,xc,qo,xk,qb,qn,l2Serve_eq h.fld aa h0,xc,qq]
  ·rw[qd h0]at two opd;refine⟨(0,false),?_,?_,by simp only;omega,by simp only;omega⟩;·rw[qn,opd,xc,qo,xae,qa,qq]
   ·rw[qn,two,xc,qo,xae,qa,qq]
 have rc:∃v:Int×Bool,wbrl o ds s=some v/\wbxk o ds s=some v/\ -999999<=v.1/\v.1<=999999:=by
  unfold wbrl wcdz wbxk wbxj;by_cases h0:0<s.length
  ·rw[qc h0]at two opd;have q2:=far_small h.fld aa h0;refine⟨(far ds s,true),?_,?_,by simp only;omega,by simp only;omega⟩;·rw[qn,opd,xc,qo,xk,qb,qn,reach_eq h.fld aa h0,xc,qq]
   ·rw[qn,two,xc,qo,xk,qb,qn,l2Far_eq h.fld aa h0,xc,qq]
  ·rw[qd h0]at two opd;refine⟨(0,false),?_,?_,by simp only;omega,by simp only;omega⟩;·rw[qn,opd,xc,qo,xae,qa,qq]
   ·rw[qn,two,xc,qo,xae,qa,qq]
 have sb:∃v:Bool×List Int,wbrm o ds s=some v/\wbxm o ds s=some v/\Few v.2:=by
  unfold wbrm wcea wbxm wbxl;by_cases h0:0<s.length
  ·rw[qc h0]at two opd;have k:wbgn (s,o,ds) ((0:Int),([]:List Int))=some ((List.range ds.length).map λj=>(srv ds j s:Int)):=
    iter_app (f:=λv=>(wazn (s,o,ds) v).ev) (n:=ds.length) (mk:=λk (l:List Int)=>((k:Int),l)) (λj=>(srv ds j s:Int)) (λl=>l)
     (λj l hj hl=>by
      have e:(l.length+List.length [(srv ds j s:Int)])*8<=140737488355328:=by simp;omega
      simp(disch:=omega)only[EV,wazn,hj,l2Site_eq h.fld aa h0 hj,e];rfl) (λl _=>by simp(disch:=omega)only[EV,wazn,xi])
   refine⟨(true,(List.range ds.length).map λj=>(srv ds j s:Int)),?_,?_,by simpa using hc,λx hx=>?_⟩;·rw[qn,opd,xc,qo,xk,qb,qn,served_eq h.fld aa h0,xc,qq]
   ·rw[qn,two,xc,qo,xk,qb,qn,k,xc,qq]
   ·obtain⟨j,_,rfl⟩:=xak.1 hx;have:=srv_lt (ds:=ds) (j:=j) aa h0;omega
  ·rw[qd h0]at two opd;refine⟨(false,[]),?_,?_,by simp,λx hx=>by cases hx⟩;·rw[qn,opd,xc,qo,xae,qa,qq]
   ·rw[qn,two,xc,qo,xae,qa,qq]
 obtain⟨v1,a1,b1,c1⟩:=sv;obtain⟨v2,a2,b2,c2⟩:=rc;obtain⟨v3,a3,b3,c3⟩:=sb;have sg:wavv o ds=some true:=by rw[l2Good_eq lo ld,fieldB_iff.2 h.fld]
 have ig:wavs o ds=some true:=by rw[IsField_eq lo ld,fieldB_iff.2 h.fld]
 have mt:wbxr o ds=some (metB ds o.length,true):=by unfold wbxr wbxq;rw[qn,sg,xc,qo,xk,qb,qn,smetric_eq h.fld,xc,qq]
 have mi:wbjt o ds=some (metB ds o.length,true):=by rw[imet_eq lo ld,fieldB_iff.2 h.fld,qa]
 obtain⟨p,p1,p2,p3⟩:=ascent_both lo ld h.fld;have pf:Few p:=⟨by have:=p1.len;omega,λx hx=>by obtain⟨i,hi,e⟩:=xbs.1 hx;have:=p1.val h.fld (show i<ds.length by have:=p1.len;omega);rw[xd,xg hi,xat,e]at this;omega⟩
 have ps:wbxw o ds=some (true,p):=by unfold wbxw wbxv;rw[qn,sg,xc,qo,xk,qb,qn,p2,xc,qq]
 have gr:∃l,wbdv o ds=some (true,l)/\wbek o ds=some (l,true)/\Few l:=by
  by_cases h0:0<ds.length;·obtain⟨q,q1,q2,q3⟩:=im_GrowthSet_eq h.fld h0 ig;obtain⟨i1,i2⟩:=growSet_in h.fld q1;exact⟨_,q3,sp_GrowthSet_eq h.fld sg q1 q2 h0,i2,λx hx=>by have:=i1 x hx;omega⟩
  ·have hd:((((ds.length:Nat):Int))==0)=true:=beq_iff_eq.2 (by omega);have hp:=(cheapN_spec h.fld.pos).1;refine⟨[(cheapN o:Int)],?_,?_,by simp,λx hx=>by rw[xp.1 hx];omega⟩;·unfold wbdv wbsl;rw[qn,ig,xc,qo,xk,qb,qo,hd,qa,qn,icheap_eq h.fld,xc,qq]
   ·unfold wbek wbnw;rw[qn,sg,xc,qo,xk,qb,qo,hd,qa,qn,scheap_eq h.fld,xc,qq]
 obtain⟨gl,r1,r2,r3⟩:=gr;have gt:Told (Tr.c (Bool×List Int) (wbdv o ds) λr=>.c (List UInt8×Bool) (F_zl r.2 r.1) λq=>.l (q.1,q.2)).ev (Tr.c (List Int×Bool) (wbek o ds) λr=>.c (List UInt8) (wazo r.1 r.2) λq=>.l q).ev:=by
  refine⟨tellL gl,true,?_,?_⟩;·rw[qn,r1,xc,qn,ask_list r3,xc,qq]
  ·rw[qn,r2,xc,qn,l12List_eq r3,xc,qq]
 have ft:Told (Tr.c (List UInt8×Bool) (F_zw o ds) λq=>.l (q.1,q.2)).ev (Tr.c (List UInt8) (wbnc o ds) λq=>.l q).ev:=by
  refine⟨fieldT o ds,true,?_,?_⟩;·rw[qn,im_FieldText_eq lo ld h.fld,xc,qq]
  ·rw[qn,l2Text_eq h.fld,xc,qq];rfl
 unfold F_zj T_zj wbob wbyv;rw[qo,show(((([]:List Int).length:Nat):Int)==1)=false from rfl,qb,qo,show decide ((0:Int)<((([]:List Int).length:Nat):Int))=false from rfl,qb];exact told_t (told_num (im_AtlasTotal_eq lo ld ls n) (sp_AtlasTotal_eq lo ld ls n) t1) λ_=>
  told_t (told_num g1 g2 g3) λ_=>told_t (told_num a1 b1 c1) λ_=>told_t (told_num a2 b2 c2) λ_=>told_t (told_lst a3 b3 c3) λ_=>
  told_t (told_yes mi mt) λ_=>told_t ft λ_=>told_t (told_lst p3 ps pf) λ_=>told_t gt λ_=>
  told_t (told_yes (iisLocal_eq lo ld ls) (sisLocal_eq lo ld ls)) λ_=>told_t (told_lst (im_Unbeaten_eq lo ld h.fld) (sp_Unbeaten_eq lo ld h.fld) (unbL_few h7)) λ_=>⟨[],false,rfl,rfl⟩
end
section
variable {o:List Int}{ds:List (List Int)}{s:List Int}{n:Int}
abbrev RunI:Type:=List Int×List (List Int)×List Int×Int×List UInt8×Bool
abbrev RunS:Type:=List Int×List (List Int)×List Int×Int×List UInt8
def RunP(x:Option RunI)(y:Option RunS):Prop:=∃o ds s n rep ok,Atl o ds s n/\x=some (o,ds,s,n,rep,ok)/\y=some (o,ds,s,n,if ok then rep else[63])
theorem run_t{c:Bool}{a a':Tr RunI}{b b':Tr RunS}(h1:RunP a.ev b.ev)(h2:RunP a'.ev b'.ev):RunP (Tr.t c a a').ev (Tr.t c b b').ev:=by
 cases c with
 |true=>exact h1
 |false=>exact h2
theorem few_ris(h7:o.length<=7)(h:ris o.length s):Few s:=⟨by have:=h.len;omega,λx hx=>by have:=h.1 x hx;omega⟩
theorem run_num(h:Atl o ds s n){x:Int}(hx: -999999<=x/\x<=999999):RunP (Tr.c (List UInt8) (wapq x) λq=>.l (o,ds,s,n,q,true)).ev (Tr.c (List UInt8) (wafu 1000000 x) λq=>.l (o,ds,s,n,q)).ev:=
 ⟨o,ds,s,n,Lib.itoa x,true,h,by rw[qn,Itoa_any hx,xc,qq],by rw[qn,l1Num_any hx,xc,qq];rfl⟩
theorem run_lst(h:Atl o ds s n):RunP (Tr.l (o,ds,s,n,tellL s,true)).ev (Tr.c (List UInt8) (wbcc s) λq=>.l (o,ds,s,n,q)).ev:=
 ⟨o,ds,s,n,tellL s,true,h,rfl,by rw[qn,l12Numbers_eq (few_ris h.fld.len h.set),xc,qq];rfl⟩
theorem edit_told(h:Atl o ds s n){k a b c m:Int}{li:Bool}{l L:List Int}(hL:Low1 L)(hb: -999999<=b/\b<=999999)(hc: -999999<=c/\c<=999999)(hn:wala k=some (m,li,true))(aa:fitE m li l=true)(ad:numE m l=(m,a,b,c))(ab:l.drop m.toNat=L):
  RunP (F_zn o ds s n k l) (waic o ds s n k a b c L):=by
 have ae:0<=m:=by rcases names_in k _ hn with e|e|e|e<;>simp only at e<;>omega
 have af:m<=((l.length:Nat):Int):=by unfold fitE at aa;rw[xh,qe]at aa;exact aa.1
 have e1:F_zn o ds s n k l=(TR_edit o ds s n k l (m,a,b,c)).ev:=by unfold F_zn editF;rw[hn,xc];dsimp only;rw[aa,qa,ad]
 have e2:=iedit_eq h k a b c hL;have e3:=edo_eq h k a b c hL;rw[e1];unfold TR_edit waic wbws;rw[qp,qc ae,qc af,xdo,qa,xal,ab,qn,e2,xc,qn,e3,xc,qo,qo];cases hd:doOf o ds s n k a b c L with
 |none=>exact⟨o,ds,s,n,[],false,h,rfl,rfl⟩
 |some y=>
  have hy:=doOf_atl hd;have h7:=hy.fld.len;have ah:=hy.fld.clients;have el:=listText_eq (few_ris hy.fld.len hy.set);rw[show(!(doT (some y)).2.1)=false from rfl,qb,qb,qn,show wbjk (doT (some y)).2.2.2.2=some (tellL y.2.2.2)from el,xc];have hO: -999999<=((y.2.1.length:Nat):Int)/\((y.2.1.length:Nat):Int)<=999999:=by omega
  have hD: -999999<=((y.2.2.1.length:Nat):Int)/\((y.2.2.1.length:Nat):Int)<=999999:=by omega
  exact run_t (run_num hy hb) (run_t (run_num hy hc) (run_t (run_t (run_num hy hO) (run_t (run_t (run_num hy hD) (run_lst hy)) (run_t (run_num hy hD) (run_lst hy)))) (run_t (run_num hy hO) (run_t (run_t (run_num hy hD) (run_lst hy)) (run_t (run_num hy hD) (run_lst hy))))))
theorem edit_bad{k m:Int}{li:Bool}{l:List Int}(hn:wala k=some (m,li,true))(aa:fitE m li l=false):F_zn o ds s n k l=some (o,ds,s,n,[],false):=by unfold F_zn editF;rw[hn,xc];dsimp only;rw[aa,qb]
theorem run_no(h:Atl o ds s n):RunP (some (o,ds,s,n,[],false)) (some (o,ds,s,n,[63])):=⟨o,ds,s,n,[],false,h,rfl,rfl⟩
def parseAll:List (List UInt8)->Option (List Int)
 | []=>some []
 |w::r=>if(parseV w).2 then(parseAll r).map λl=>(parseV w).1::l else none
theorem parseAll_in:∀{ws:List (List UInt8)} {l:List Int},parseAll ws=some l->l.length=ws.length/\∀x∈l,-999999<=x/\x<=999999
 | [],l,h=>by cases h;exact⟨rfl,λx hx=>by cases hx⟩
 |w::r,l,h=>by
  unfold parseAll at h;rcases parseV_cases w with⟨x,hx,_,e⟩|⟨e,_⟩
  ·rw[e]at h;obtain⟨l',h1,h2⟩:=xau.1 (show(parseAll r).map (λl=>x::l)=some l from h);obtain⟨i1,i2⟩:=parseAll_in h1;subst h2;refine⟨by simp[i1],λy hy=>?_⟩;rcases xaf.1 hy with rfl|hy;·exact hx
   ·exact i2 y hy
  ·rw[e]at h;cases h
theorem parse_loop{f:Int×List Int->Option ((Int×List Int)⊕(List Int⊕Unit))}{ws:List (List UInt8)}(off:Int)
  (hs:∀(i:Nat) (a:List Int),i<ws.length->a.length<=i->f ((i:Int)+off,a)=some (if(parseV (ws.getD i [])).2 then .inl (((i+1:Nat):Int)+off,a++ [(parseV (ws.getD i [])).1])else .inr (.inr ()))) (he:∀a,f (((ws.length:Nat):Int)+off,a)=some (.inr (.inl a))):
  iter f (((0:Nat):Int)+off,[])=some (match parseAll ws with|some l=>.inl l|none=>.inr ()):=by
 obtain⟨r,k1,k2⟩:=iter_inv (f:=f) (n:=ws.length) (λi (a:List Int)=>((i:Int)+off,a)) (λi a=>a.length<=i/\parseAll ws=(parseAll (ws.drop i)).map λl=>a++l) (λr=>r=match parseAll ws with|some l=>.inl l|none=>.inr ()) (s0:=[])
  ⟨xm _,by rw[xea];cases parseAll ws<;>rfl⟩
  (λi a hi ⟨h1,h2⟩=>by
   have e:=hs i a hi h1;have hd:ws.drop i=ws.getD i []::ws.drop (i+1):=by rw[xbe hi,xd,xg hi];rfl
   rw[hd,parseAll]at h2;cases hp:(parseV (ws.getD i [])).2 with
   |true=>
    left;rw[hp]at e h2;refine⟨_,e,by rw[xl,xdc];omega,?_⟩;rw[h2];cases parseAll (ws.drop (i+1))with
    |none=>rfl
    |some l=>simp
   |false=>right;rw[hp]at e h2;exact⟨_,e,by rw[h2];rfl⟩)
  (λa ⟨h1,h2⟩=>⟨_,he a,by rw[h2,xdp];simp[parseAll]⟩)
 rw[<-k2];exact k1
theorem spl_one{c:UInt8}{w:List UInt8}:∀{s:List UInt8},spl c s=[w]->w=s
 | [],h=>by unfold spl at h;injection h with h _;exact h.symm
 |x::s,h=>by
  unfold spl at h;obtain⟨a,t,e⟩:=spl_cons c s;split at h;·rw[e]at h;cases h
  ·rw[e]at h;injection h with h1 h2;rw[h2]at e;have:=spl_one e;rw[<-h1,this]
theorem spl_mem_len(c:UInt8):∀(s:List UInt8),∀w∈spl c s,w.length<=s.length
 | [],w,h=>by unfold spl at h;rw[xp.1 h];exact xm _
 |x::s,w,h=>by
  have ih:=spl_mem_len c s;unfold spl at h;split at h
  ·rcases xaf.1 h with rfl|h;·simp
   ·have:=ih w h;rw[xj];omega
  ·obtain⟨a,t,e⟩:=spl_cons c s;rw[e]at h ih;rcases xaf.1 h with rfl|h;·have:=ih a xu;rw[xj,xj];omega
   ·have:=ih w (xr _ h);rw[xj];omega
noncomputable def imX(o:List Int)(ds:List (List Int))(s:List Int)(n:Int)(w:List UInt8)(l:List Int):Option RunI:=(wayl w).bind λk=>bif decide (0<k)then F_zn o ds s n k l else(F_zj o ds s n w l).map λr=>(o,ds,s,n,r.1,r.2)
noncomputable def spX(o:List Int)(ds:List (List Int))(s:List Int)(n:Int)(w:List UInt8):List Int->Option RunS
 | []=>wbcz o ds s n w
 |a::r=>bif w==[115,105,116,101]then waic o ds s n 6 a 0 0 r else bif w==[99,108,105,101,110,116]then waic o ds s n 7 0 0 0 (a::r)else match r with
  | []=>wbcd o ds s n w a
  |_=>wayk o ds s n w (a::r)
theorem spX_one{w:List UInt8}(w1:(w==[115,105,116,101])=false)(w2:(w==[99,108,105,101,110,116])=false)(a:Int):spX o ds s n w [a]=wbcd o ds s n w a:=by show cond _ _ (cond _ _ _)=_;rw[w1,w2];rfl
theorem spX_more{w:List UInt8}(w1:(w==[115,105,116,101])=false)(w2:(w==[99,108,105,101,110,116])=false)(a b:Int)(r:List Int):spX o ds s n w (a::b::r)=wayk o ds s n w (a::b::r):=by show cond _ _ (cond _ _ _)=_;rw[w1,w2];rfl
theorem spX_cons(w:List UInt8)(a:Int)(r:List Int):spX o ds s n w (a::r)=bif w==[115,105,116,101]then waic o ds s n 6 a 0 0 r else bif w==[99,108,105,101,110,116]then waic o ds s n 7 0 0 0 (a::r)else match r with
  | []=>wbcd o ds s n w a
  |_=>wayk o ds s n w (a::r):=rfl
theorem bindS(x:Option RunS):(x.bind λr=>some (r.1,r.2.1,r.2.2.1,r.2.2.2.1,r.2.2.2.2))=x:=by cases x<;>rfl
theorem more_no{w:List UInt8}(h1:(w==[108,101,110,103,116,104])=false)(h2:(w==[115,119,97,112])=false)(h3:(w==[99,111,115,116])=false)(l:List Int):wayk o ds s n w l=some (o,ds,s,n,[63]):=by unfold wayk wbhw;rw[h1,h2,h3];cases(((l.length:Nat):Int)==3)<;>cases(((l.length:Nat):Int)==2)<;>rfl
theorem fitLo{m:Int}{li:Bool}{l:List Int}(h:(l.length:Int)<m):fitE m li l=false:=by unfold fitE;rw[qd (by omega),xga]
theorem fitHi{m:Int}{l:List Int}(h:m<(l.length:Int)):fitE m false l=false:=by unfold fitE;rw[qd (show¬(l.length:Int)<=m by omega),xer,xfj]
theorem x_one(h:Atl o ds s n){w:List UInt8}{k:Int}(hk:wayl w=some k)(hp:0<k)(hn:wala k=some (1,false,true))(h0:wbcz o ds s n w=some (o,ds,s,n,[63]))
  (h1:∀a,wbcd o ds s n w a=(waic o ds s n k a 0 0 []).bind λr=>some (r.1,r.2.1,r.2.2.1,r.2.2.2.1,r.2.2.2.2)) (w1:(w==[115,105,116,101])=false) (w2:(w==[99,108,105,101,110,116])=false)
  (w3:(w==[108,101,110,103,116,104])=false) (w4:(w==[115,119,97,112])=false) (w5:(w==[99,111,115,116])=false):∀l:List Int,RunP (imX o ds s n w l) (spX o ds s n w l)
 | []=>by unfold imX spX;rw[hk,xc,qc hp,qa,edit_bad hn (fitLo (by simp)),h0];exact run_no h
 | [a]=>by unfold imX;rw[spX_one w1 w2 a,hk,xc,qc hp,qa];rw[h1 a,bindS];exact edit_told h (show Low1 [] by unfold Low1;simp) (by omega) (by omega) hn rfl rfl rfl
 |a::b::r=>by unfold imX;rw[spX_more w1 w2 a b r,hk,xc,qc hp,qa,edit_bad hn (fitHi (by simp only[xj];omega))];rw[more_no w3 w4 w5];exact run_no h
theorem x_zero(h:Atl o ds s n){w:List UInt8}{k:Int}(hk:wayl w=some k)(hp:0<k)(hn:wala k=some (0,false,true))(h0:wbcz o ds s n w=(waic o ds s n k 0 0 0 []).bind λr=>some (r.1,r.2.1,r.2.2.1,r.2.2.2.1,r.2.2.2.2))
  (h1:∀a,wbcd o ds s n w a=some (o,ds,s,n,[63])) (w1:(w==[115,105,116,101])=false) (w2:(w==[99,108,105,101,110,116])=false)
  (w3:(w==[108,101,110,103,116,104])=false) (w4:(w==[115,119,97,112])=false) (w5:(w==[99,111,115,116])=false):∀l:List Int,RunP (imX o ds s n w l) (spX o ds s n w l)
 | []=>by unfold imX spX;rw[hk,xc,qc hp,qa,h0,bindS];exact edit_told h (show Low1 [] by unfold Low1;simp) (by omega) (by omega) hn rfl rfl rfl
 | [a]=>by unfold imX;rw[spX_one w1 w2 a,hk,xc,qc hp,qa,edit_bad hn (fitHi (by simp))];rw[h1 a];exact run_no h
 |a::b::r=>by unfold imX;rw[spX_more w1 w2 a b r,hk,xc,qc hp,qa,edit_bad hn (fitHi (by simp only[xj];omega))];rw[more_no w3 w4 w5];exact run_no h
theorem len3{l:List Int}{i:Nat}(h:l.length≠i):(((l.length:Nat):Int)==(i:Int))=false:=beq_eq_false_iff_ne.2 (by omega)
theorem x_two(h:Atl o ds s n){w:List UInt8}{k:Int}(hk:wayl w=some k)(hp:0<k)(hn:wala k=some (2,false,true))(h0:wbcz o ds s n w=some (o,ds,s,n,[63]))
  (h1:∀a,wbcd o ds s n w a=some (o,ds,s,n,[63])) (h2:∀a b,wayk o ds s n w [a,b]=(waic o ds s n k a b 0 []).bind λr=>some (r.1,r.2.1,r.2.2.1,r.2.2.2.1,r.2.2.2.2))
  (w1:(w==[115,105,116,101])=false) (w2:(w==[99,108,105,101,110,116])=false) (w3:(w==[108,101,110,103,116,104])=false):∀l:List Int,(∀x∈l,-999999<=x/\x<=999999)->RunP (imX o ds s n w l) (spX o ds s n w l)
 | [],_=>by unfold imX spX;rw[hk,xc,qc hp,qa,edit_bad hn (fitLo (by simp)),h0];exact run_no h
 | [a],_=>by unfold imX;rw[spX_one w1 w2 a,hk,xc,qc hp,qa,edit_bad hn (fitLo (by simp))];rw[h1 a];exact run_no h
 | [a,b],hx=>by unfold imX;rw[spX_more w1 w2 a b [],hk,xc,qc hp,qa];rw[h2 a b,bindS];exact edit_told h (show Low1 [] by unfold Low1;simp) (hx b (by simp)) (by omega) hn rfl rfl rfl
 |a::b::c::r,_=>by
  unfold imX;rw[spX_more w1 w2 a b (c::r),hk,xc,qc hp,qa,edit_bad hn (fitHi (by simp only[xj];omega))];have e:(((List.length (a::b::c::r):Nat):Int)==2)=false:=len3 (i:=2) (by simp);have em:wayk o ds s n w (a::b::c::r)=some (o,ds,s,n,[63]):=by unfold wayk wbhw;rw[w3,e];cases(((List.length (a::b::c::r):Nat):Int)==3)<;>rfl
  rw[em];exact run_no h
theorem ask_many(w:List UInt8){a b:Int}{r:List Int}:F_zj o ds s n w (a::b::r)=some ([],false):=by unfold F_zj T_zj;have e:(((List.length (a::b::r):Nat):Int)==1)=false:=len3 (i:=1) (by simp);rw[qo,e,qb,qo,qc (show(0:Int)<((List.length (a::b::r):Nat):Int) by simp only[xj];omega),qa,qq]
theorem run_ask(h:Atl o ds s n){x:Option (List UInt8×Bool)}{y:Option (List UInt8)}(ht:Told x y):RunP (x.map λr=>(o,ds,s,n,r.1,r.2)) (y.bind λr=>some (o,ds,s,n,r)):=by obtain⟨rep,ok,rfl,rfl⟩:=ht;exact⟨o,ds,s,n,rep,ok,h,rfl,rfl⟩
abbrev edW:List (List UInt8):=[[111,112,101,110],[99,108,111,115,101],[115,119,97,112],[99,111,115,116],[108,101,110,103,116,104],[115,105,116,101],[99,108,105,101,110,116],[100,114,111,112,115,105,116,101],[100,114,111,112,99,108,105,101,110,116],[105,109,112,114,111,118,101],[98,101,115,116]]
theorem x_ask(h:Atl o ds s n){w:List UInt8}{k:Int}(hk:wayl w=some k)(hp:¬0<k)(hw:∀x∈edW,(w==x)=false):
  ∀l:List Int,RunP (imX o ds s n w l) (spX o ds s n w l)
 | []=>by
  have e:wbcz o ds s n w=(wbob o ds s n w).bind λr=>some (o,ds,s,n,r):=by unfold wbcz wbyw;rw[qo,hw _ (by simp),qb,qo,hw _ (by simp),qb,qo,hw _ (by simp),qb,qn];rfl
  unfold imX spX;rw[hk,xc,qd hp,qb,e];exact run_ask h (ask_word h w)
 | [a]=>by
  obtain⟨lo,ld⟩:=fld_low h.fld;unfold imX;rw[spX_one (hw _ (by simp)) (hw _ (by simp)) a,hk,xc,qd hp,qb];unfold wbcd wbzt F_zj T_zj;have g1:inR (0:Int) (List.length [a])=true:=rfl;have g2:List.getD [a] (Int.toNat 0) 0=a:=rfl;have u1:(w==[111,112,101,110])=false:=hw _ (by simp);have u2:(w==[99,108,111,115,101])=false:=hw _ (by simp);have u3:(w==[100,114,111,112,115,105,116,101])=false:=hw _ (by simp);have u4:(w==[100,114,111,112,99,108,105,101,110,116])=false:=hw _ (by simp);rw[qo,show((((([a]:List Int)).length:Nat):Int)==1)=true from rfl,qa,qo (w==[111,112,101,110]),u1,qb,qo (w==[99,108,111,115,101]),u2,qb,qo (w==[100,114,111,112,115,105,116,101]),u3,qb,qo (w==[100,114,111,112,99,108,105,101,110,116]),u4,qb];rw[qo (w==[109,101,100,105,97,110]),qo (w==[109,101,100,105,97,110])];cases(w==[109,101,100,105,97,110])with
  |true=>
   obtain⟨l,b,e1,e2,e3⟩:=median_both lo ld h.fld a;have hf:Few l:=⟨e3.1,λx hx=>by have:=e3.2 x hx;have:=h.fld.len;omega⟩
   rw[qa,qa,qp,g1,qa,qn,g2,e1,xc,qn,ask_list hf,xc,qq,qn,e2,xc,qn,l12List_eq hf,xc,qq];exact⟨o,ds,s,n,_,_,h,rfl,rfl⟩
  |false=>
   rw[qb,qb,qo (w==[99,101,110,116,114,101,115]),qo (w==[99,101,110,116,114,101,115])];cases(w==[99,101,110,116,114,101,115])with
   |true=>
    obtain⟨l,b,e1,e2,e3⟩:=centres_both lo ld h.fld a;have hf:Few l:=⟨e3.1,λx hx=>by have:=e3.2 x hx;have:=h.fld.len;omega⟩
    rw[qa,qa,qp,g1,qa,qn,g2,e1,xc,qn,ask_list hf,xc,qq,qn,e2,xc,qn,l12List_eq hf,xc,qq];exact⟨o,ds,s,n,_,_,h,rfl,rfl⟩
   |false=>
    rw[qb,qb,qo (w==[102,97,114]),qo (w==[102,97,114])];cases(w==[102,97,114])with
    |true=>
     have e0:∃l b,wcdq o ds a=some (l,b)/\wbzs o ds a=some (l,b)/\Few l:=by
      unfold wcdq wcdp wcip wcdk wbzs wbzr;by_cases ha:0<=a
      ·obtain⟨m1,m2⟩:=sp_Most_eq (r:=a) h.fld;have hc:=h.fld.clients;refine⟨mostL ds o.length a,true,?_,?_,m2.1,λx hx=>by have:=m2.2 x hx;omega⟩;·rw[qn,qn,IsField_eq lo ld,fieldB_iff.2 h.fld,xc,qo,qa,qq,qc ha,xc,qo,xk,qb,qn,im_Most_eq h.fld,xc,qq]
       ·rw[qn,l2Good_eq lo ld,fieldB_iff.2 h.fld,xc,qo,xk,qb,qo,qd (by omega),qb,qn,m1,xc,qq]
      ·refine⟨[],false,?_,?_,by simp,λx hx=>by cases hx⟩;·rw[qn,qn,IsField_eq lo ld,fieldB_iff.2 h.fld,xc,qo,qa,qq,qd ha,xc,qo,xae,qa,qq]
       ·rw[qn,l2Good_eq lo ld,fieldB_iff.2 h.fld,xc,qo,xk,qb,qo,qc (by omega),qa,qq]
     obtain⟨l,b,e1,e2,hf⟩:=e0;rw[qa,qa,qp,g1,qa,qn,g2,e1,xc,qn,ask_list hf,xc,qq,qn,e2,xc,qn,l12List_eq hf,xc,qq];exact⟨o,ds,s,n,_,_,h,rfl,rfl⟩
    |false=>exact run_no h
 |a::b::r=>by unfold imX;rw[spX_more (hw _ (by simp)) (hw _ (by simp)) a b r,hk,xc,qd hp,qb,ask_many];rw[more_no (hw _ (by simp)) (hw _ (by simp)) (hw _ (by simp))];exact run_no h
theorem x_length(h:Atl o ds s n)(l:List Int)(hx:∀x∈l,-999999<=x/\x<=999999):RunP (imX o ds s n [108,101,110,103,116,104] l) (spX o ds s n [108,101,110,103,116,104] l):=by
 have hk:wayl [108,101,110,103,116,104]=some 5:=by kernel_rfl
 have hn:wala 5=some (3,false,true):=by kernel_rfl
 have hp:decide ((0:Int)<5)=true:=rfl
 match l,hx with
 | [],_=>
  have e:spX o ds s n [108,101,110,103,116,104] []=some (o,ds,s,n,[63]):=by kernel_rfl
  unfold imX;rw[e,hk,xc,hp,qa,edit_bad hn (fitLo (by simp))];exact run_no h
 | [a],_=>
  have e:spX o ds s n [108,101,110,103,116,104] [a]=some (o,ds,s,n,[63]):=by kernel_rfl
  unfold imX;rw[e,hk,xc,hp,qa,edit_bad hn (fitLo (by simp))];exact run_no h
 | [a,b],_=>
  have e:spX o ds s n [108,101,110,103,116,104] [a,b]=some (o,ds,s,n,[63]):=by kernel_rfl
  unfold imX;rw[e,hk,xc,hp,qa,edit_bad hn (fitLo (by simp))];exact run_no h
 | [a,b,c],hx=>have e:spX o ds s n [108,101,110,103,116,104] [a,b,c]=(waic o ds s n 5 a b c []).bind λr=>some (r.1,r.2.1,r.2.2.1,r.2.2.2.1,r.2.2.2.2):=rfl;rw[e,bindS];unfold imX;rw[hk,xc,hp,qa];exact edit_told h (show Low1 [] by unfold Low1;simp) (hx b (by simp)) (hx c (by simp)) hn rfl rfl rfl
 |a::b::c::d::r,_=>
  have e3:(((List.length (a::b::c::d::r):Nat):Int)==3)=false:=len3 (i:=3) (by simp);have e2:(((List.length (a::b::c::d::r):Nat):Int)==2)=false:=len3 (i:=2) (by simp);have em:wayk o ds s n [108,101,110,103,116,104] (a::b::c::d::r)=some (o,ds,s,n,[63]):=by unfold wayk wbhw;rw[e3,e2];rfl
  have e:spX o ds s n [108,101,110,103,116,104] (a::b::c::d::r)=wayk o ds s n [108,101,110,103,116,104] (a::b::c::d::r):=rfl;rw[e,em];unfold imX;rw[hk,xc,hp,qa,edit_bad hn (fitHi (by simp only[xj];omega))];exact run_no h
theorem x_site(h:Atl o ds s n)(l:List Int)(hl:Low1 l):RunP (imX o ds s n [115,105,116,101] l) (spX o ds s n [115,105,116,101] l):=by
 have hk:wayl [115,105,116,101]=some 6:=by kernel_rfl
 have hn:wala 6=some (1,true,true):=by kernel_rfl
 have hp:decide ((0:Int)<6)=true:=rfl;cases l with
 |nil=>
  have e:spX o ds s n [115,105,116,101] []=some (o,ds,s,n,[63]):=by kernel_rfl
  unfold imX;rw[e,hk,xc,hp,qa,edit_bad hn (fitLo (by simp))];exact run_no h
 |cons a r=>have e:spX o ds s n [115,105,116,101] (a::r)=waic o ds s n 6 a 0 0 r:=rfl;rw[e];unfold imX;rw[hk,xc,hp,qa];refine edit_told h (L:=r) (by unfold Low1 at hl⊢;rw[xj]at hl;omega) (by omega) (by omega) hn ?_ rfl rfl;unfold fitE;rw[qc (show(1:Int)<=((List.length (a::r):Nat):Int) by rw[xj];omega)];rfl
theorem x_all(h:Atl o ds s n)(w:List UInt8){l:List Int}(hl:Low1 l)(hx:∀x∈l,-999999<=x/\x<=999999):RunP (imX o ds s n w l) (spX o ds s n w l):=by
 by_cases c1:w=[111,112,101,110]
 ·subst c1;exact x_one h (k:=1) (by kernel_rfl) (by decide) (by kernel_rfl) (by kernel_rfl) (λ_=>rfl) rfl rfl rfl rfl rfl l
 by_cases c2:w=[99,108,111,115,101]
 ·subst c2;exact x_one h (k:=2) (by kernel_rfl) (by decide) (by kernel_rfl) (by kernel_rfl) (λ_=>rfl) rfl rfl rfl rfl rfl l
 by_cases c8:w=[100,114,111,112,115,105,116,101]
 ·subst c8;exact x_one h (k:=8) (by kernel_rfl) (by decide) (by kernel_rfl) (by kernel_rfl) (λ_=>rfl) rfl rfl rfl rfl rfl l
 by_cases c9:w=[100,114,111,112,99,108,105,101,110,116]
 ·subst c9;exact x_one h (k:=9) (by kernel_rfl) (by decide) (by kernel_rfl) (by kernel_rfl) (λ_=>rfl) rfl rfl rfl rfl rfl l
 by_cases ab:w=[105,109,112,114,111,118,101]
 ·subst ab;exact x_zero h (k:=10) (by kernel_rfl) (by decide) (by kernel_rfl) rfl (λ_=>rfl) rfl rfl rfl rfl rfl l
 by_cases ad:w=[98,101,115,116]
 ·subst ad;exact x_zero h (k:=11) (by kernel_rfl) (by decide) (by kernel_rfl) rfl (λ_=>rfl) rfl rfl rfl rfl rfl l
 by_cases c3:w=[115,119,97,112]
 ·subst c3;exact x_two h (k:=3) (by kernel_rfl) (by decide) (by kernel_rfl) (by kernel_rfl) (λ_=>rfl) (λ_ _=>rfl) rfl rfl rfl l hx
 by_cases c4:w=[99,111,115,116]
 ·subst c4;exact x_two h (k:=4) (by kernel_rfl) (by decide) (by kernel_rfl) (by kernel_rfl) (λ_=>rfl) (λ_ _=>rfl) rfl rfl rfl l hx
 by_cases c5:w=[108,101,110,103,116,104]
 ·subst c5;exact x_length h l hx
 by_cases c6:w=[115,105,116,101]
 ·subst c6;exact x_site h l hl
 by_cases c7:w=[99,108,105,101,110,116]
 ·subst c7;have hk:wayl [99,108,105,101,110,116]=some 7:=by kernel_rfl
  have hn:wala 7=some (0,true,true):=by kernel_rfl
  have hp:decide ((0:Int)<7)=true:=rfl;have e:spX o ds s n [99,108,105,101,110,116] l=(waic o ds s n 7 0 0 0 l).bind λr=>some (r.1,r.2.1,r.2.2.1,r.2.2.2.1,r.2.2.2.2):=by
   cases l with
   |nil=>rfl
   |cons a r=>rw[bindS];rfl
  rw[e,bindS];unfold imX;rw[hk,xc,hp,qa];refine edit_told h (L:=l) hl (by omega) (by omega) hn ?_ rfl rfl;unfold fitE;rw[qc (show(0:Int)<=((List.length l:Nat):Int) by omega)];rfl
 -- no edit
 have hw:∀x∈edW,(w==x)=false:=λx hx=>by
  simp only[xaf,xcj,qm]at hx;refine beq_eq_false_iff_ne.2 λe=>?_;subst e;rcases hx with e|e|e|e|e|e|e|e|e|e|e;·exact c1 e
  ·exact c2 e
  ·exact c3 e
  ·exact c4 e
  ·exact c5 e
  ·exact c6 e
  ·exact c7 e
  ·exact c8 e
  ·exact c9 e
  ·exact ab e
  ·exact ad e
 have hk:∃k,wayl w=some k/\¬0<k:=by
  have key:=λ(ws:List (List UInt8)) (hlen:ws.length<=1000)=>iter_forE (f:=λv=>(waxz (ws,w,((ws.length:Nat):Int)) v).ev) (l:=ws) [] (λx=>w==x) (mk:=λi=>(i:Int)) (yes:=λi=>(.inr (i:Int):Unit⊕Int)) (no:=.inl ())
   (λi hi=>by
    cases hq:w==ws.getD i []with
    |true=>simp(disch:=omega)only[EV,waxz,hi,hq]
    |false=>simp(disch:=omega)only[EV,waxz,hi,hq];rfl)
   (by simp(disch:=omega)only[EV,waxz,xi])
  have k1:wbdd ([]::edW,w,(12:Int)) (0:Int)=some ((([]::edW).findIdx? λx=>w==x).elim (.inl ()) λi=>.inr (i:Int)):=key ([]::edW) (by decide);have aa:edW.findIdx? (λx=>w==x)=none:=xgf.2 λx hx=>by rw[hw x hx]
  have e:wayl w=((wbdd ([]::edW,w,(12:Int)) (0:Int)).bind λr=>(Tr.s Unit Int r (λ_=>.l (-1:Int)) λr8=>.l r8).ev).bind λr=>some r:=rfl;rw[e,k1,xec,aa];cases(w==([]:List UInt8))with
  |true=>exact⟨0,rfl,by omega⟩
  |false=>exact⟨-1,rfl,by omega⟩
 obtain⟨k,k1,k2⟩:=hk;exact x_ask h k1 k2 hw l
theorem run_both(h:Atl o ds s n){line:List UInt8}(hl:line.length<=1000):RunP (F_zo o ds s n line) (wbce o ds s n line):=by
 have e1:wcbc line [32]=some (spl 32 line):=by unfold wcbc splitF;rw[qi ⟨by omega,rfl⟩,split_spl]
 have e2:=l1Split_spl (s:=line) (by omega) 32;rw[show(((32:UInt8).toNat:Nat):Int)=32 from rfl]at e2;have af:=spl_mem_len 32 line;have ae:=spl_len 32 line;obtain⟨w,t,et⟩:=spl_cons 32 line;rw[et]at e1 e2 af ae;rw[xj]at ae;have k1:wbtk (w::t,t,((t.length:Nat):Int),o,ds,s,n,(0:Int)) ((0:Int),([]:List Int))=some (match parseAll t with|some l=>.inl l|none=>.inr ()):=by
  have:=parse_loop (f:=λv=>(wbbr (w::t,t,((t.length:Nat):Int),o,ds,s,n,(0:Int)) v).ev) (ws:=t) 0
   (λi a hi ha=>by
    have hm:=af _ (xr _ (getD_mem (d:=[]) hi));have ep:wcbd (t.getD i [])=some (parseV (t.getD i [])):=by unfold wcbd parseF;rw[qi (by omega)]
    have aa:∀x:Int,List.length [x]=1:=λ_=>rfl;have hb:(a.length+1)*8<=140737488355328:=by omega
    rw[xgw,xgw];cases hq:(parseV (t.getD i [])).2 with
    |true=>simp(disch:=omega)only[EV,wbbr,hi,ep,hq,aa,hb];rfl
    |false=>simp(disch:=omega)only[EV,wbbr,hi,ep,hq];rfl)
   (λa=>by rw[xgw];simp(disch:=omega)only[EV,wbbr,xi])
  exact this
 have hd:List.drop (Int.toNat 1) (List.take (List.length (w::t)) (w::t))=t:=by rw[xal];rfl
 have ab:F_zo o ds s n line=(match parseAll t with|some l=>imX o ds s n w l|none=>some (o,ds,s,n,[],false)):=by
  unfold F_zo T_zo;rw[qn,e1,xc,qp,show(decide ((0:Int)<=1)&&decide ((1:Int)<=((List.length (w::t):Nat):Int)))=true from by rw[qc (show(1:Int)<=((List.length (w::t):Nat):Int) by rw[xj];omega)];rfl,qa,hd,qn,k1,xc];cases parseAll t with
  |none=>rfl
  |some l=>
   show(Tr.g (inR 0 (List.length (w::t))) _).ev=imX o ds s n w l;rw[qp,show inR 0 (List.length (w::t))=true from inR_int (by omega) (by rw[xj];omega),qa,qn];unfold imX;rw[show List.getD (w::t) (Int.toNat 0) ([]:List UInt8)=w from rfl];cases wayl w with
   |none=>rfl
   |some k=>
    rw[xc,xc,qo];cases decide (0<k)with
    |true=>rw[qa,qa,qn];cases F_zn o ds s n k l<;>rfl
    |false=>rw[qb,qb,qp,qa,qn];cases F_zj o ds s n w l<;>rfl
 have k2:wbhn (w::t) ((1:Int),([]:List Int))=some (match parseAll t with|some l=>.inl l|none=>.inr ()):=by
  have:=parse_loop (f:=λv=>(waxr (w::t) v).ev) (ws:=t) 1
   (λi a hi ha=>by
    have hm:=af _ (xr _ (getD_mem (d:=[]) hi));have ep:=l1Read_eq (s:=t.getD i []) (by omega);have aa:∀x:Int,List.length [x]=1:=λ_=>rfl;have hb:(a.length+1)*8<=140737488355328:=by omega
    have ei:(i:Int)+1=((i+1:Nat):Int):=rfl;have eg:(w::t).getD (i+1) []=t.getD i []:=rfl;have ah:i+1<(w::t).length:=by rw[xj];omega
    rw[ei];cases hq:(parseV (t.getD i [])).2 with
    |true=>simp(disch:=omega)only[EV,waxr,ah,eg,ep,hq,aa,hb]
    |false=>simp(disch:=omega)only[EV,waxr,ah,eg,ep,hq];rfl)
   (λa=>by rw[show((t.length:Nat):Int)+1=(((w::t).length:Nat):Int)from rfl];simp(disch:=omega)only[EV,waxr,xi])
  exact this
 by_cases h0:t=[]
 ·subst h0;have ew:=spl_one et;have ad:wbce o ds s n line=spX o ds s n w []:=by unfold wbce wbhx spX;rw[qn,e2,xc,qo,show(((([w]:List (List UInt8)).length:Nat):Int)==1)=true from rfl,qa,qn,<-ew];exact bindS _
  rw[ab,ad];exact x_all h w (show Low1 [] by unfold Low1;simp) λx hx=>by cases hx
 ·have ai:(((List.length (w::t):Nat):Int)==1)=false:=beq_eq_false_iff_ne.2 (by have:=xar.2 h0;rw[xj];omega);have hR:wboe (w::t)=some (match parseAll t with|some l=>(true,l)|none=>(false,[])):=by unfold wboe wbyz;rw[qn,k2,xc];cases parseAll t<;>rfl
  cases hp:parseAll t with
  |none=>
   rw[hp]at ab hR;have ad:wbce o ds s n line=some (o,ds,s,n,[63]):=by unfold wbce wbhx;rw[qn,e2,xc,qo,ai,qb,qn,hR,xc];rfl
   rw[ab,ad];exact run_no h
  |some l=>
   rw[hp]at ab hR;obtain⟨i1,i2⟩:=parseAll_in hp;have hR:wboe (w::t)=some (true,l):=hR;have ad:wbce o ds s n line=spX o ds s n w l:=by
    unfold wbce wbhx;have gw:List.getD (w::t) (Int.toNat 0) ([]:List UInt8)=w:=rfl;have g0:inR 0 (List.length (w::t))=true:=inR_int (by omega) (by rw[xj];omega);have g1:decide (Int.toNat 0<(w::t).length)=true:=qc (by rw[xj];simp);rw[qn,e2,xc,qo,ai,qb,qn,hR,xc];rw[qo,xk,qb,qp,g0,qa,qp,g1,qa,gw,qo];cases l with
    |nil=>exact absurd (xz (by rw[<-i1];rfl)) h0
    |cons a r=>
     have aj:inR 0 (List.length (a::r))=true:=inR_int (by omega) (by rw[xj];omega);have ak:(decide ((0:Int)<=1)&&decide ((1:Int)<=((List.length (a::r):Nat):Int)))=true:=by rw[qc (show(1:Int)<=((List.length (a::r):Nat):Int) by rw[xj];omega)];rfl
     have al:decide (Int.toNat 0<(a::r).length)=true:=qc (by rw[xj];simp);rw[spX_cons];cases(w==[115,105,116,101])with
     |true=>rw[qa,qa,qp,aj,qa,qp,ak,qa,qn,xal];exact bindS _
     |false=>
      rw[qb,qb,qo];cases(w==[99,108,105,101,110,116])with
      |true=>rw[qa,qa,qn];exact bindS _
      |false=>
       rw[qb,qb,qo];cases r with
       |nil=>rw[show((((([a]:List Int)).length:Nat):Int)==1)=true from rfl,qa,qp,qa,qp,qa,qp,aj,qa,qp,al,qa,qn];exact bindS _
       |cons b r=>rw[show((((true,a::b::r):Bool×List Int).2.length:Int)==1)=false from len3 (l:=a::b::r) (i:=1) (by simp)];rw[qb,qp,qa,qp,qa,qn];exact bindS _
   rw[ab,ad];exact x_all h w (by unfold Low1;omega) i2
end
section
variable {o:List Int}{ds:List (List Int)}{s:List Int}{n:Int}
theorem append_slow{a b c r:List UInt8}(ha:SLow a)(hb:SLow b)(hc:SLow c)(hr:SLow r)(n:Int):∃v,wbcf a b n c r=some v/\F_zf a b n c r=some v/\SLow v.1/\SLow v.2.1:=by
 obtain⟨v,v1,v2⟩:=append_both ha hb hc hr n;refine⟨v,v1,v2,?_⟩;obtain⟨x,x1,x2,x3⟩:=valid_both ha hb n;unfold F_zf T_zf at v2;rw[qn,x2,xc,qo]at v2;cases x with
 |false=>rw[xae,qa,qq]at v2;cases v2;exact⟨ha,hb⟩
 |true=>
  obtain⟨h1,h2,h3⟩:=x3 rfl;rw[xk,qb,qn,im_IsValidRecord_eq hc hr,xc,qo]at v2;cases aa:recordB c r with
  |false=>rw[aa,xae,qa,qq]at v2;cases v2;exact⟨ha,hb⟩
  |true=>
   rw[aa,xk,qb,qo]at v2;cases ab:(n==(60:Int))with
   |true=>rw[ab,qa,qq]at v2;cases v2;exact⟨ha,hb⟩
   |false=>
    have ad:n≠60:=by simpa using ab
    have hk:isIn n 0 59=true:=isIn_iff.2 ⟨h2,by omega⟩;obtain⟨_,_,_,_,_,ra,rb⟩:=rec_parts aa;have he:encF n c r=(line n c r,true):=by unfold encF encB;rw[hk,aa];rfl
    have ae:=text_len (c:=c) (r:=r) hk;have af:=sealT_len (text n c r);have ah:(line n c r).length<=1000:=by unfold line;rw[xl,xj,xab];omega
    have e0:b.length+(line n c r).length<=9223372036854775807:=by unfold SLow at hb;omega
    rw[ab,qb,qn,im_EncodeRecord_eq (k:=n) hc hr,xc,he,qp,qc e0,qa,qq]at v2;cases v2;refine⟨ha,?_⟩;unfold SLow;simp only[xl];omega
theorem own_small(h:Atl o ds s n):wbbt o ds s n=some (n,o,ds,s):=by have h7:=h.fld.len;have hc:=h.fld.clients;have hs:=h.set.len;exact eown12_eq (by omega) (by omega) (λr hr=>by have:=fld_row h.fld r hr;omega) (by omega) n
theorem sp_NewConsole_eq2(lo:Low1 o)(ld:Low2 ds)(ls:Low1 s)(n:Int):wbkz o ds s n=some (ncon (atlasB o ds s n) o ds s n):=by
 unfold wbkz wbun;rw[qn,l12Good_eq lo ld ls,xc,qo];cases hA:atlasB o ds s n with
 |false=>rfl
 |true=>rw[xk,qb,qn,own_small (atl_iff.1 hA),xc,qq];rfl
def cap(rep:List UInt8):List UInt8:=bif decide ((200:Int)<((rep.length:Nat):Int))then[108,111,110,103]else rep
theorem cap_low(rep:List UInt8):SLow (cap rep):=by
 unfold cap SLow;by_cases h:(200:Int)<((rep.length:Nat):Int);·rw[qc h,qa];simp
 ·rw[qd h,qb];omega
theorem exec_both(h:Atl o ds s n){d p:List UInt8}(sd:SLow d)(sp:SLow p){line:List UInt8}(sl:SLow line)(c:Int):
  ∃o' aa s' n' d' p' c' rep,Atl o' aa s' n'/\SLow d'/\SLow p'/\F_zv o ds s n d p c line=some (o',aa,s',n',d',p',c',rep)/\wbda o ds s n d p c line=some (n',d',p',c',rep,o',aa,s'):=by
 obtain⟨lo,ld⟩:=fld_low h.fld;have ls:=h.set.low h.fld.len;obtain⟨v,v1,v2,_⟩:=valid_both sd sp c;have hA:=atl_iff.2 h;have nl:SLow []:=by unfold SLow;simp
 have e1:wbvd o ds s n d p c=some v:=by unfold wbvd wbvc;rw[qn,l12Good_eq lo ld ls,hA,xc,qo,qa,qn,v1,xc,qq]
 have e2:wcbb o ds s n d p c=some v:=by unfold wcbb wcba;rw[qn,im_IsAtlas_eq lo ld ls,hA,xc,qo,qa,qn,v2,xc,qq]
 have e3:=im_IsValidRecord_eq sl nl;have e4:=l12Record_eq sl nl;cases v with
 |false=>
  refine⟨o,ds,s,n,d,p,c,[110,111],h,sd,sp,?_,?_⟩;·unfold F_zv T_zv;rw[qn,copied_eq lo ld ls,xc,qn,e2,xc,qo,xae,qa,qq]
  ·unfold wbda wbel;rw[qn,own_small h,xc,qn,e1,xc,qo,xae,qa,qq]
 |true=>
  cases hr:recordB line []with
  |false=>
   rw[hr]at e3 e4;refine⟨o,ds,s,n,d,p,c,[98,97,100],h,sd,sp,?_,?_⟩;·unfold F_zv T_zv;rw[qn,copied_eq lo ld ls,xc,qn,e2,xc,qo,xk,qb,qn,e3,xc,qo,xae,qa,qq]
   ·unfold wbda wbel;rw[qn,own_small h,xc,qn,e1,xc,qo,xk,qb,qn,e4,xc,qo,xae,qa,qq]
  |true=>
   rw[hr]at e3 e4;have hlen:line.length<=160:=by obtain⟨_,_,_,_,_,ra,_⟩:=rec_parts hr;omega
   cases ab:(c==(60:Int))with
   |true=>
    refine⟨o,ds,s,n,d,p,c,[102,117,108,108],h,sd,sp,?_,?_⟩;·unfold F_zv T_zv;rw[qn,copied_eq lo ld ls,xc,qn,e2,xc,qo,xk,qb,qn,e3,xc,qo,xk,qb,qo,ab,qa,qq]
    ·unfold wbda wbel;rw[qn,own_small h,xc,qn,e1,xc,qo,xk,qb,qn,e4,xc,qo,xk,qb,qo,ab,qa,qq]
   |false=>
    obtain⟨o',aa,s',n',rep,ok,h',r1,r2⟩:=run_both h (line:=line) (by omega);have hR:wbda o ds s n d p c line=(wbcf d p c line (cap (if ok then rep else[63]))).bind λv=>some (n',v.1,v.2.1,v.2.2.1,cap (if ok then rep else[63]),o',aa,s'):=by
     unfold wbda wbel cap;rw[qn,own_small h,xc,qn,e1,xc,qo,xk,qb,qn,e4,xc,qo,xk,qb,qo,ab,qb,qn,r2,xc,qo];cases decide ((200:Int)<(((if ok then rep else[63]).length:Nat):Int))with
     |true=>
      rw[qa,qa,qn];cases wbcf d p c line [108,111,110,103]with
      |none=>rfl
      |some v=>rw[xc,xc,qn,own_small h',xc,qq]
     |false=>
      rw[qb,qb,qn];cases wbcf d p c line (if ok then rep else[63])with
      |none=>rfl
      |some v=>rw[xc,xc,qn,own_small h',xc,qq]
    have hI:F_zv o ds s n d p c line=(F_zf d p c line (cap (if ok then rep else[63]))).bind λv=>some (o',aa,s',n',v.1,v.2.1,v.2.2.1,cap (if ok then rep else[63])):=by
     unfold F_zv T_zv;rw[qn,copied_eq lo ld ls,xc,qn,e2,xc,qo,xk,qb,qn,e3,xc,qo,xk,qb,qo,ab,qb,qn,r1,xc,qo];cases ok with
     |false=>rfl
     |true=>
      rw[xk,qb,qi rfl];unfold cap;rw[qo];cases decide ((200:Int)<((rep.length:Nat):Int))with
      |true=>rfl
      |false=>rfl
    obtain⟨v,a1,a2,a3,a4⟩:=append_slow sd sp sl (cap_low (if ok then rep else[63])) c;rw[a2]at hI;rw[a1]at hR;exact⟨o',aa,s',n',v.1,v.2.1,v.2.2.1,_,h',a3,a4,hI,hR⟩
end
section
variable {o:List Int}{ds:List (List Int)}{s:List Int}{n:Int}
theorem fitS{s:List UInt8}(h:Fit .str s):(s.length:Int)<9223372036854775808:=maxLen_lt h
theorem replay_loop{recs:List (List UInt8×List UInt8)}(hl:recs.length<=1000)(hr:Recs recs):∀(k i:Nat) {o:List Int} {ds:List (List Int)} {s:List Int} {n:Int} {d p:List UInt8} (c:Int),i+k=recs.length->Atl o ds s n->SLow d->SLow p->
  ∃r,waxw recs ((i:Int),o,ds,s,n,d,p,c)=some r/\wayi (((recs.length:Nat):Int),recs) ((i:Int),o,ds,s,n,d,p,c)=some r:=by
 intro k;induction k with
 |zero=>
  intro i o ds s n d p c hi h sd sp;have hn:¬(i:Int)<((recs.length:Nat):Int):=by omega
  refine⟨.inl (),?_,?_⟩
  ·have e:(wapo recs ((i:Int),o,ds,s,n,d,p,c)).ev=some (.inr (.inl ())):=by unfold wapo;rw[qo,qd hn,qb,qq]
   unfold waxw;rw[iter_eq,e]
  ·have e:(watr (((recs.length:Nat):Int),recs) ((i:Int),o,ds,s,n,d,p,c)).ev=some (.inr (.inl ())):=by unfold watr;rw[qo,qd hn,qb,qq]
   unfold wayi;rw[iter_eq,e]
 |succ k ih=>
  intro i o ds s n d p c hi h sd sp;have aa:i<recs.length:=by omega
  have hx:=hr _ (getD_mem (d:=(([]:List UInt8),([]:List UInt8))) aa);have sl:SLow (recs.getD i ([],[])).1:=by obtain⟨_,_,_,_,_,ra,_⟩:=rec_parts hx;unfold SLow;omega
  obtain⟨o',ad,s',n',d',p',c',rep,h',ae,af,r1,r2⟩:=exec_both h sd sp sl c;have ab:(i:Int)<((recs.length:Nat):Int):=by omega
  have hg:=inR_nat aa;have hw:IntKind.wrap .i64 ((i:Int)+1)=((i+1:Nat):Int):=by rw[wrap64 (by omega) (by omega)];rfl
  cases hq:(rep==(recs.getD i ([],[])).2)with
  |true=>
   obtain⟨r,q1,q2⟩:=ih (i+1) c' (by omega) h' ae af;refine⟨r,?_,?_⟩
   ·have e:(wapo recs ((i:Int),o,ds,s,n,d,p,c)).ev=some (.inl (((i+1:Nat):Int),o',ad,s',n',d',p',c')):=by unfold wapo;dsimp only;rw[qo,qc ab,qa,qp,hg,qa,qp,xy,qc aa,qa,qn,r2,xc,qp,qa,qp,qa,qo,hq,xk,qb,qq,hw]
    unfold waxw;rw[iter_eq,e];exact q1
   ·have e:(watr (((recs.length:Nat):Int),recs) ((i:Int),o,ds,s,n,d,p,c)).ev=some (.inl (((i+1:Nat):Int),o',ad,s',n',d',p',c')):=by unfold watr;dsimp only;rw[qo,qc ab,qa,qp,hg,qa,qp,xy,qc aa,qa,qn,r1,xc,qo,hq,xk,qb,qq,hw]
    unfold wayi;rw[iter_eq,e];exact q2
  |false=>
   refine⟨.inr (i:Int),?_,?_⟩
   ·have e:(wapo recs ((i:Int),o,ds,s,n,d,p,c)).ev=some (.inr (.inr (i:Int))):=by unfold wapo;dsimp only;rw[qo,qc ab,qa,qp,hg,qa,qp,xy,qc aa,qa,qn,r2,xc,qp,qa,qp,qa,qo,hq,xae,qa,qq]
    unfold waxw;rw[iter_eq,e]
   ·have e:(watr (((recs.length:Nat):Int),recs) ((i:Int),o,ds,s,n,d,p,c)).ev=some (.inr (.inr (i:Int))):=by unfold watr;dsimp only;rw[qo,qc ab,qa,qp,hg,qa,qp,xy,qc aa,qa,qn,r1,xc,qo,hq,xae,qa,qq]
    unfold wayi;rw[iter_eq,e]
theorem replay_both(lo:Low1 o)(ld:Low2 ds)(ls:Low1 s){a b:List UInt8}(sa:SLow a)(sb:SLow b)(c:Int):∃v,wbzw o ds s n a b c=some v/\wcfb o ds s n a b c=some v:=by
 have e1:=sp_NewConsole_eq2 lo ld ls n;have e2:=im_NewConsole_eq lo ld ls n;obtain⟨v,v1,v2,v3⟩:=valid_both sa sb c;unfold wbzw wbzv wcfb wcfa;have nl:SLow []:=by unfold SLow;simp
 cases hA:atlasB o ds s n with
 |false=>
  rw[hA]at e1 e2;have aa:∃r,wbdc a b c=some r:=by
   unfold wbdc wbii;rw[qn,v2,xc,qo];cases v with
   |false=>exact⟨_,rfl⟩
   |true=>obtain⟨q1,_,_⟩:=v3 rfl;obtain⟨w,_,w2,_⟩:=read_more (s:=a++b) (by unfold SLow;rw[xl];omega);rw[xk,qb,qp,qc (show a.length+b.length<=9223372036854775807 by omega),qa,qn,w2,xc,qq];exact⟨_,rfl⟩
  obtain⟨r,aa⟩:=aa;refine⟨(0,false),?_,?_⟩;·rw[qn,e1,xc];rfl
  ·rw[qn,e2,xc,qn,aa,xc];rfl
 |true=>
  rw[hA]at e1 e2;have e1:wbkz o ds s n=some (n,[],[],0,true,o,ds,s):=e1;have e2:wbpf o ds s n=some (n,[],[],0,true,o,ds,s):=e2;cases v with
  |false=>
   have aa:wbdc a b c=some (false,[]):=by unfold wbdc wbii;rw[qn,v2,xc,qo,xae,qa,qq]
   refine⟨(0,false),?_,?_⟩;·rw[qn,e1,xc,qo,xk,qb,qn,v1,xc];rfl
   ·rw[qn,e2,xc,qn,aa,xc];rfl
  |true=>
   obtain⟨q1,_,_⟩:=v3 rfl;obtain⟨w,w1,w2,w3,w4⟩:=read_more (s:=a++b) (by unfold SLow;rw[xl];omega);have g:decide (a.length+b.length<=9223372036854775807)=true:=qc (by omega);have aa:wbdc a b c=some (true,w.2):=by unfold wbdc wbii;rw[qn,v2,xc,qo,xk,qb,qp,g,qa,qn,w2,xc,qq]
   obtain⟨r,r1,r2⟩:=replay_loop (recs:=w.2) (by have:=w3.2.2;omega) w4 w.2.length 0 (0:Int) (by omega) (atl_iff.1 hA) nl nl;have r1:waxw w.2 ((0:Int),o,ds,s,n,[],[],(0:Int))=some r:=r1;have r2:wayi (((w.2.length:Nat):Int),w.2) ((0:Int),o,ds,s,n,[],[],(0:Int))=some r:=r2;have fin:∀x:Unit⊕Int,∃v:Int×Bool,(Tr.s Unit Int x (λ_=>Tr.l ((((w.2.length:Nat):Int),true):Int×Bool)) λr=>Tr.l (r,true)).ev=some v:=λx=>by cases x<;>exact⟨_,rfl⟩
   obtain⟨y,hy⟩:=fin r;refine⟨y,?_,?_⟩;·rw[qn,e1,xc,qo,xk,qb,qn,v1,xc,qo,xk,qb,qp,g,qa,qn,w1,xc,qn,r1,xc];exact hy
   ·rw[qn,e2,xc,qn,aa,xc,qo,xk,qb,qo,qb,qn,r2,xc];exact hy
end
theorem law_ReplayLog(o:List Int)(ds:List (List Int))(s:List Int)(n:Int)(a b:List UInt8)(c:Int)(ho:Fit tL o)(hd:Fit tLL ds)(hs:Fit tL s)(_:Fit tI n)(ha:Fit .str a)(hb:Fit .str b)(_:Fit tI c):wcjd o ds s n a b c=some true:=by
 unfold wcjd wcfk;obtain⟨x,e1,k1,k2⟩:=szAtlas_sz n (fit1 ho) (fit2 hd) (fit1 hs) (b:=1048576) (by omega) (by omega);simp(disch:=omega)only[EV,e1];by_cases hx:x<0;·simp(disch:=omega)only[EV,hx]
 ·obtain⟨h1,h2,h3⟩:=k2 (by omega);obtain⟨y,e2,_,k4⟩:=szLog_sz c (fitS ha) (fitS hb) (b:=x) (by omega) (by omega);simp(disch:=omega)only[EV,hx,e2];by_cases hy:y<0;·simp(disch:=omega)only[EV,hy]
  ·obtain⟨h4,h5⟩:=k4 (by omega);obtain⟨v,v1,v2⟩:=replay_both (n:=n) h1 h2 h3 h4 h5 c;simp(disch:=omega)only[EV,hy,toAtlas_eq h1 h2 h3,toLog_eq,v1,v2,eqAtlas_eq h1 h2 h3,qj,qk]
end Go.Proofs.YtidaiohhaanphaaGreatDoor
