/- A part of the proof that FnExactExecuteCommand hands back true, at every argument of the row. -/
import Derived.Test.YteiekijgoifhoaaGreatDoorC1
namespace Go.Proofs.YteiekijgoifhoaaGreatDoor
set_option linter.all false
section
noncomputable section
open Go.Proofs.Tryz
open List (length getD set)
open Int (toNat)
open IntKind (wrap)
def aBa:FD:=wdcd.1.2
theorem aLA:dV prog (8,aBa):=wdcd.2
end
end
theorem V2{A B L:Type}(a:A)(k:A->Tr L)(k':B->Tr L):(Tr.s A B (.inl a) k k').ev=(k a).ev:=rfl
theorem Ud{A B L:Type}(a:B)(k:A->Tr L)(k':B->Tr L):(Tr.s A B (.inr a) k k').ev=(k' a).ev:=rfl
theorem Rv(i n:Nat):aB (i:Int) n=decide (i<n):=by unfold aB;simp
theorem bM{i:Int}{n:Nat}(h0:0<=i)(h1:i<n):aB i n=true:=by unfold aB;simp;omega
theorem aE{α:Type}{l:List α}{i:Nat}{d:α}(h:i<l.length):l.getD i d∈l:=by rw[xe,xh h];exact xeh h
theorem EV:(∀{L:Type} (b:Bool) (x y:Tr L),(Tr.t b x y).ev=bif b then x.ev else y.ev)/\
  (∀{L:Type} (R:Type) (x:Option R) (k:R->Tr L),(Tr.c R x k).ev=x.bind λr=>(k r).ev)/\
  (∀{L:Type} (b:Bool) (x:Tr L),(Tr.g b x).ev=bif b then x.ev else none)/\
  (∀{L:Type} (x:L),(Tr.l x).ev=some x)/\
  (∀{A B L:Type} (a:A) (k:A->Tr L) (k':B->Tr L),(Tr.s A B (.inl a) k k').ev=(k a).ev)/\
  (∀{A B L:Type} (a:B) (k:A->Tr L) (k':B->Tr L),(Tr.s A B (.inr a) k k').ev=(k' a).ev)/\
  (∀i n:Nat,aB (i:Int) n=decide (i<n))/\
  (∀{i:Int} {n:Nat},0<=i->i<n->aB i n=true)/\
  (∀{n m:Nat},((n:Int)<(m:Int))↔n<m)/\
  (∀h:Decidable True,@decide True h=true)/\
  (∀h:Decidable False,@decide False h=false)/\
  (∀{α:Type} (a b:α),(bif true then a else b)=a)/\
  (∀{α:Type} (a b:α),(bif false then a else b)=b)/\
  (∀{α β:Type} (a:α) (f:α->Option β),(some a).bind f=f a)/\
  (∀n:Nat,((n:Int)).toNat=n)/\
  (∀{n:Int},-9223372036854775808<=n->n<9223372036854775808->IntKind.wrap .i64 n=n)/\
  ((!true)=false)/\((!false)=true)/\(∀b:Bool,(true&&b)=b)/\(∀b:Bool,(b&&true)=b)/\(∀b:Bool,(false&&b)=false)/\(∀b:Bool,(b&&false)=false)/\
  (∀{α:Type} (p:Prop) (h:Decidable p) (a b:α),(bif @decide p h then a else b)=if p then a else b)/\
  (∀{α:Type} (h:Decidable True) (a b:α),(@ite α True h a b)=a)/\
  (∀{α:Type} (h:Decidable False) (a b:α),(@ite α False h a b)=b):=by
 refine⟨λb x y=>rfl,λR x k=>rfl,λb x=>rfl,λx=>rfl,λa k k'=>rfl,λa k k'=>rfl,Rv,bM,Int.ofNat_lt,λh=>by simp,λh=>by simp,λa b=>rfl,λa b=>rfl,λa f=>rfl,λn=>rfl,aV,
  rfl,rfl,λb=>by simp,λb=>by simp,λb=>by simp,λb=>by simp,λp h a b=>?_,λh a b=>by simp,λh a b=>by simp⟩
 by_cases hp:p<;>simp[hp]
theorem aR{S:Type}(g:S->Nat->S)(s:S)(n:Nat):(List.range (n+1)).foldl g s=g ((List.range n).foldl g s) n:=by rw[KK,BE];rfl
theorem aK{V S R:Type}{f:V->Option (V⊕R)}{n:Nat}(mk:Nat->S->V)(I:Nat->S->Prop)(g:S->Nat->S)(fin:S->R){s0:S}(h0:I 0 s0)
  (aa:∀i s,i<n->I i s->f (mk i s)=some (.inl (mk (i+1) (g s i)))/\I (i+1) (g s i))
  (ab:∀s,I n s->f (mk n s)=some (.inr (fin s))):
  aC f (mk 0 s0)=some (fin ((List.range n).foldl g s0))/\I n ((List.range n).foldl g s0):=by
 have hI:∀i,i<=n->I i ((List.range i).foldl g s0):=by
  intro i;induction i with
  |zero=>intro _;exact h0
  |succ i ih=>intro hi;rw[aR];exact(aa i _ (by omega) (ih (by omega))).2
 have key:∀k i,i+k=n->aC f (mk i ((List.range i).foldl g s0))=some (fin ((List.range n).foldl g s0)):=by
  intro k;induction k with
  |zero=>
   intro i hi;have:i=n:=by omega
   subst this;rw[aL,ab _ (hI i (xp _))]
  |succ k ih=>intro i hi;rw[aL,(aa i _ (by omega) (hI i (by omega))).1];have:=ih (i+1) (by omega);rw[aR]at this;exact this
 exact⟨key n 0 (by omega),hI n (xp _)⟩
theorem Di{α S:Type}(l:List α)(d:α)(g:S->α->S)(s:S):(List.range l.length).foldl (λs i=>g s (l.getD i d)) s=l.foldl g s:=by
 induction l generalizing s with
 |nil=>rfl
 |cons x l ih=>rw[xl,xfp,N3,xhh,N3];exact ih _
theorem dM{V S R α:Type}{f:V->Option (V⊕R)}(l:List α)(d:α)(mk:Nat->S->V)(I:Nat->S->Prop)(g:S->α->S)(fin:S->R){s0:S}(h0:I 0 s0)
  (aa:∀i s,i<l.length->I i s->f (mk i s)=some (.inl (mk (i+1) (g s (l.getD i d))))/\I (i+1) (g s (l.getD i d)))
  (ab:∀s,I l.length s->f (mk l.length s)=some (.inr (fin s))):
  aC f (mk 0 s0)=some (fin (l.foldl g s0))/\I l.length (l.foldl g s0):=by
 have:=aK mk I (λs i=>g s (l.getD i d)) fin h0 aa ab;rw[Di]at this;exact this
theorem aJ{V S R:Type}{f:V->Option (V⊕R)}{n:Nat}(mk:Nat->S->V)(I:Nat->S->Prop)(Q:R->Prop){s0:S}(h0:I 0 s0)
  (aa:∀i s,i<n->I i s->(∃s',f (mk i s)=some (.inl (mk (i+1) s'))/\I (i+1) s')\/∃r,f (mk i s)=some (.inr r)/\Q r)
  (ab:∀s,I n s->∃r,f (mk n s)=some (.inr r)/\Q r):∃r,aC f (mk 0 s0)=some r/\Q r:=by
 have key:∀k i s,i+k=n->I i s->∃r,aC f (mk i s)=some r/\Q r:=by
  intro k;induction k with
  |zero=>
   intro i s hi hI;have:i=n:=by omega
   subst this;obtain⟨r,h1,h2⟩:=ab s hI;exact⟨r,by rw[aL,h1],h2⟩
  |succ k ih=>
   intro i s hi hI;rcases aa i s (by omega) hI with⟨s',h1,h2⟩|⟨r,h1,h2⟩
   ·obtain⟨r,h3,h4⟩:=ih (i+1) s' (by omega) h2;exact⟨r,by rw[aL,h1];exact h3,h4⟩
   ·exact⟨r,by rw[aL,h1],h2⟩
 exact key n 0 s0 (by omega) h0
theorem aX{V R:Type}{f:V->Option (V⊕R)}{n:Nat}(mk:Nat->V)(p:Nat->Bool)(yes:R)(no:R)
  (h:∀i:Nat,i<n->(∀j,j<i->p j=true)->f (mk i)=some (bif p i then .inl (mk (i+1))else .inr no)) (aa:f (mk n)=some (.inr yes)):
  aC f (mk 0)=some (bif (List.range n).all p then yes else no):=by
 have key:∀(k i:Nat),i+k=n->(∀j,j<i->p j=true)->aC f (mk i)=some (bif (List.range' i k).all p then yes else no):=by
  intro k;induction k with
  |zero=>
   intro i hk _;have:i=n:=by omega
   subst this;rw[aL,aa];rfl
  |succ k ih=>
   intro i hk hj;rw[aL,h i (by omega) hj,List.range'_succ,Wp];cases hs:p i with
   |false=>rfl
   |true=>
    simp only[qa,Dk];exact ih (i+1) (by omega) λj ab=>by
     by_cases e:j=i;·rw[e];exact hs
     ·exact hj j (by omega)
 have:=key n 0 (by omega) λj hj=>absurd hj (xfd _);rw[List.range_eq_range'];exact this
def K2(l:List Int):Prop:=(l.length:Int)<9223372036854775808
def Xu(x:List (List Int)):Prop:=(x.length:Int)<9223372036854775808/\∀r∈x,K2 r
def aF(l:List Int):Prop:=(l.length:Int)<=1048576
def cT(x:List (List Int)):Prop:=(x.length:Int)<=1048576/\∀r∈x,aF r
theorem Uy{α:Type}{l:List α}{i:Nat}{d:α}(h:i<l.length)(d':α):(l.take i++List.replicate (l.length-i) d).set i (l.getD i d')=l.take (i+1)++List.replicate (l.length-(i+1)) d:=by
 have hl:(l.take i).length=i:=by simp;omega
 rw[Wd _ _ (by omega),hl,Nq,show l.length-i=(l.length-(i+1))+1 by omega,List.replicate_succ,xej,Mj h,
  xe,xh h,Fy]
 rfl
theorem B6{α:Type}{f:Int×List α->Option ((Int×List α)⊕List α)}{l:List α}(d:α)
  (aa:∀(i:Nat) (r:List α),i<l.length->r.length=l.length->f ((i:Int),r)=some (.inl (((i+1:Nat):Int),r.set i (l.getD i d))))
  (ab:∀r:List α,f ((l.length:Int),r)=some (.inr r)):aC f (0,List.replicate l.length d)=some l:=by
 have:=(aK (f:=f) (n:=l.length) (mk:=λi (_:Unit)=>((i:Int),l.take i++List.replicate (l.length-i) d)) (I:=λ_ _=>True) (g:=λs _=>s) (fin:=λ_=>l) (s0:=()) trivial
  (λi s hi _=>⟨by rw[aa i _ hi (by simp;omega),Uy hi],trivial⟩)
  (λs _=>by rw[ab];simp)).1
 simpa using this
theorem Oq{α:Type}[BEq α][LawfulBEq α]{a b:List α}{d:α}(h:a.length=b.length):((List.range a.length).all λi=>a.getD i d==b.getD i d)=(a==b):=by
 rw[Oa,xy,qg];constructor;·intro h1;refine xfw h λi hi aa=>?_;have:=h1 i (xau.2 hi);rw[xe,xe,xh hi,xh aa]at this;simpa using this
 ·rintro rfl i _;simp
theorem zU(a b:Nat):(((a:Nat):Int) != ((b:Nat):Int))= !(decide (a=b)):=by
 by_cases h:a=b;·subst h;simp
 ·have:((a:Nat):Int)≠((b:Nat):Int):=by omega
  simp[h,bne,this]
theorem Uz(a b:Nat):(((a:Nat):Int)==((b:Nat):Int))=decide (a=b):=by
 by_cases h:a=b;·subst h;simp
 ·have:((a:Nat):Int)≠((b:Nat):Int):=by omega
  simp[h,this]
theorem Gi{α:Type}[BEq α][LawfulBEq α]{f:Int->Option (Int⊕(Unit⊕Unit))}{a b:List α}(d:α)(hl:a.length=b.length)
  (aa:∀i:Nat,i<a.length->f (i:Int)=some (bif a.getD i d==b.getD i d then .inl ((i+1:Nat):Int)else .inr (.inr ())))
  (ab:f (a.length:Int)=some (.inr (.inl ()))):aC f 0=some (bif a==b then .inl ()else .inr ()):=by
 have:=aX (f:=f) (n:=a.length) (mk:=λi=>(i:Int)) (p:=λi=>a.getD i d==b.getD i d) (yes:=.inl ()) (no:=.inr ()) (λi hi _=>aa i hi) ab;rw[Oq hl]at this;exact this
theorem CI{α:Type}{f:Int×Int->Option ((Int×Int)⊕(Int⊕Unit))}{l:List α}(d:α)(Q:α->Prop){b:Int}(h0:0<=b)(h1:b<=1048576)
  (aa:∀(i:Nat) (s:Int),i<l.length->0<=s->s<=1048576->(∃s',f (s,(i:Int))=some (.inl (s',((i+1:Nat):Int)))/\0<=s'/\s'<=1048576/\Q (l.getD i d))\/f (s,(i:Int))=some (.inr (.inr ())))
  (ab:∀s,f (s,(l.length:Int))=some (.inr (.inl s))):aC f (b,0)=some (.inr ())\/∃s,aC f (b,0)=some (.inl s)/\0<=s/\s<=1048576/\∀x∈l,Q x:=by
 have:=aJ (f:=f) (n:=l.length) (mk:=λi s=>(s,(i:Int))) (I:=λi s=>0<=s/\s<=1048576/\∀j,j<i->Q (l.getD j d)) (Q:=λr=>r=.inr ()\/∃s,r=.inl s/\0<=s/\s<=1048576/\∀x∈l,Q x) (s0:=b)
  ⟨h0,h1,λj hj=>absurd hj (xfd _)⟩ (λi s hi hs=>by
   rcases aa i s hi hs.1 hs.2.1 with⟨s',k1,k2,k3,k4⟩|k
   ·exact .inl ⟨s',k1,k2,k3,λj hj=>by
     by_cases e:j=i;·rw[e];exact k4
     ·exact hs.2.2 j (by omega)⟩
   ·exact .inr ⟨_,k,.inl rfl⟩) (λs hs=>⟨_,ab s,.inr ⟨s,rfl,hs.1,hs.2.1,λx hx=>by obtain⟨j,hj,e⟩:=Su hx;have:=hs.2.2 j hj;rw[xe,xh hj]at this;rw[<-e];exact this⟩⟩)
 obtain⟨r,h2,h3⟩:=this;rcases h3 with rfl|⟨s,rfl,h4⟩
 ·exact .inl h2
 ·exact .inr ⟨s,h2,h4⟩
def Sz(o:Option Int)(Q:Prop):Prop:=∃r,o=some r/\r<=1048576/\(0<=r->Q)
theorem Li{l:List Int}{b:Int}(hl:K2 l)(h0:0<=b)(h1:b<=1048576):Kd l b=some (if b-(l.length:Int)<0 then-1 else b-(l.length:Int)):=by unfold K2 at hl;unfold Kd TI;simp(disch:=omega)only[EV];split<;>rfl
theorem tW{l:List Int}{b:Int}(hl:K2 l)(h0:0<=b)(h1:b<=1048576):Sz (Kd l b) (aF l):=by
 refine⟨_,Li hl h0 h1,?_,λh=>?_⟩;·split<;>omega
 ·unfold aF;split at h<;>omega
theorem Br{x:List (List Int)}{b:Int}(hx:Xu x)(h0:0<=b)(h1:b<=1048576):Sz (TQ x b) (cT x):=by
 obtain⟨ab,aa⟩:=hx;unfold TQ QJ;simp(disch:=omega)only[EV];by_cases hb:b-(x.length:Int)<0;·simp(disch:=omega)only[EV,hb];exact⟨_,rfl,by omega,λh=>by omega⟩
 ·have:=CI (f:=λv=>(wur x v).ev) (l:=x) [] aF (b:=b-(x.length:Int)) (by omega) (by omega) (λi s hi k0 k1=>by
   obtain⟨r,k2,k3,k4⟩:=tW (aa _ (aE (d:=[]) hi)) k0 k1;simp(disch:=omega)only[EV,wur,hi,k2];by_cases hr:r<0;·right;simp(disch:=omega)only[EV,hr]
   ·left;simp(disch:=omega)only[EV,hr];exact⟨r,rfl,by omega,by omega,k4 (by omega)⟩) (λs=>by simp(disch:=omega)only[EV,wur,xj])
  rcases this with h|⟨s,h,k0,k1,k2⟩
  ·simp(disch:=omega)only[EV,hb,PN,h];exact⟨_,rfl,by omega,λh=>by omega⟩
  ·simp(disch:=omega)only[EV,hb,PN,h];exact⟨_,rfl,by omega,λ_=>⟨by omega,k2⟩⟩
theorem vJ{l:List Int}(hl:aF l):Ur l=some l:=by unfold aF at hl;unfold Ur JL;rw[qp,show(decide ((0:Int)<=((l.length:Nat):Int))&&decide (((l.length:Nat):Int)<=((l.length:Nat):Int))&&decide (((8:Nat):Int)*((l.length:Nat):Int)<=281474976710656))=true by simp;omega];have:=B6 (f:=λv=>(wus l v).ev) (l:=l) 0 (λi r hi hr=>by simp(disch:=omega)only[EV,wus,hr,hi];rfl) (λr=>by simp(disch:=omega)only[EV,wus,xj]);simp(disch:=omega)only[EV,aGB,this]
theorem Aq{x:List (List Int)}(hx:cT x):FJ x=some x:=by obtain⟨hl,hr⟩:=hx;unfold FJ VU;rw[qp,show(decide ((0:Int)<=((x.length:Nat):Int))&&decide (((x.length:Nat):Int)<=((x.length:Nat):Int))&&decide (((24:Nat):Int)*((x.length:Nat):Int)<=281474976710656))=true by simp;omega];have:=B6 (f:=λv=>(wut x v).ev) (l:=x) [] (λi r hi aa=>by simp(disch:=omega)only[EV,wut,aa,hi,vJ (hr _ (aE (d:=[]) hi))];rfl) (λr=>by simp(disch:=omega)only[EV,wut,xj]);simp(disch:=omega)only[EV,aCp,this]
theorem uC{a b:List Int}(ha:aF a):Od a b=some (a==b):=by
 unfold aF at ha;unfold Od MJ;by_cases h:a.length=b.length
 ·have hs:=Gi (f:=λv=>(wzf (a,b) v).ev) (a:=a) (b:=b) 0 h (λi hi=>by
   have aa:i<b.length:=by omega
   simp(disch:=omega)only[EV,wzf,hi,aa,bne];cases(a.getD i 0==b.getD i 0)<;>rfl) (by simp(disch:=omega)only[EV,wzf,xj])
  simp(disch:=omega)only[EV,zU,h,aCc,hs];cases(a==b)<;>rfl
 ·have:(a==b)=false:=by rw[qf];exact λe=>h (by rw[e])
  simp(disch:=omega)only[EV,zU,h,this]
theorem Cy{a b:List (List Int)}(ha:cT a):NI a b=some (a==b):=by
 obtain⟨ha,hr⟩:=ha;unfold NI YI;by_cases h:a.length=b.length
 ·have hs:=Gi (f:=λv=>(wzg (a,b) v).ev) (a:=a) (b:=b) [] h (λi hi=>by
   have aa:i<b.length:=by omega
   simp(disch:=omega)only[EV,wzg,hi,aa,uC (hr _ (aE (d:=[]) hi))];cases(a.getD i []==b.getD i [])<;>rfl) (by simp(disch:=omega)only[EV,wzg,xj])
  simp(disch:=omega)only[EV,zU,h,aDF,hs];cases(a==b)<;>rfl
 ·have:(a==b)=false:=by rw[qf];exact λe=>h (by rw[e])
  simp(disch:=omega)only[EV,zU,h,this]
theorem uJ{α:Type}(l:List α)(d:α)(p:α->Bool):((List.range l.length).all λi=>p (l.getD i d))=l.all p:=by
 induction l with
 |nil=>rfl
 |cons x l ih=>rw[xl,xfp,Wp,List.all_map,Wp];exact congrArg (p x&& ·) ih
def bY(n a b:Int):Bool:=decide (a<=n)&&decide (n<=b)
def fY(l:List Int)(a b:Int):Bool:=l.all λx=>bY x a b
theorem isIn_iff{n a b:Int}:bY n a b=true↔a<=n/\n<=b:=by simp[bY]
theorem allIn_iff{l:List Int}{a b:Int}:fY l a b=true↔∀x∈l,a<=x/\x<=b:=by simp[fY,bY]
theorem qX{l:List Int}{a b:Int}(h:fY l a b=true){i:Nat}(hi:i<l.length):a<=l.getD i 0/\l.getD i 0<=b:=allIn_iff.1 h _ (aE hi)
theorem fG(n a b:Int):Al n a b=some (bY n a b):=by unfold Al NS bY;simp only[qo,qq];cases decide (a<=n)<;>rfl
theorem dG(n a b:Int):Vu n a b=some (bY n a b):=by unfold Vu XO bY;simp only[qo,qq];cases decide (a<=n)<;>rfl
theorem De(a b:Int):XB a b=some (min a b):=by
 unfold XB YG;simp(disch:=omega)only[EV];by_cases h:a<b;·rw[qi h,Int.min_eq_left (by omega)]
 ·rw[qh h,xgx (by omega)]
theorem tU(a b:Int):Wy a b=some (max a b):=by
 unfold Wy LT;simp(disch:=omega)only[EV];by_cases h:b<a;·rw[qi h,Int.max_eq_left (by omega)]
 ·rw[qh h,xgy (by omega)]
theorem R7{l:List Int}(hl:aF l)(n b:Int):Zo l n b=some (fY l 0 b&&((l.length:Int)==n)):=by unfold aF at hl;unfold Zo UB;have hs:aDT (l,n,b) 0=_:=aX (f:=λv=>(wuy (l,n,b) v).ev) (n:=l.length) (mk:=λi=>(i:Int)) (p:=λi=>bY (l.getD i 0) 0 b) (yes:=.inl ()) (no:=.inr ()) (λi hi _=>by simp(disch:=omega)only[EV,wuy,hi,fG];cases bY (l.getD i 0) 0 b<;>rfl) (by simp(disch:=omega)only[EV,wuy,xj]);rw[uJ l 0 (λx=>bY x 0 b)]at hs;simp(disch:=omega)only[EV,hs];unfold fY;cases l.all λx=>bY x 0 b<;>rfl
theorem fM{V R α:Type}{f:V->Option (V⊕R)}{l:List α}(d:α)(q:α->Bool)(mk:Nat->V)(yes:Nat->R)(no:R)
  (h:∀i:Nat,i<l.length->f (mk i)=some (bif q (l.getD i d)then .inr (yes i)else .inl (mk (i+1)))) (aa:f (mk l.length)=some (.inr no)):
  aC f (mk 0)=some ((l.findIdx? q).elim no yes):=by
 have key:∀(k i:Nat),i+k=l.length->aC f (mk i)=some (((l.drop i).findIdx? q).elim no (λj=>yes (j+i))):=by
  intro k;induction k with
  |zero=>
   intro i hk;have:i=l.length:=by omega
   subst this;rw[aL,aa];simp
  |succ k ih=>
   intro i hk;rw[aL,h i (by omega),Im (by omega),xek];have e:l.getD i d=l[i]:=by rw[xe,xh (by omega)];rfl
   rw[e];cases q l[i]with
   |true=>simp
   |false=>
    simp only[qb,rU,if_false];rw[ih (i+1) (by omega)];cases(l.drop (i+1)).findIdx? q with
    |none=>rfl
    |some j=>simp[Nat.add_comm,Nat.add_left_comm]
 have:=key l.length 0 (by omega);simpa using this
theorem nQ{α:Type}{l:List α}{q:α->Bool}:l.any q=true↔(l.findIdx? q).isSome=true:=by simp[List.findIdx?_isSome]
theorem w9{l:List (Int)}(hl:(l.length:Int)<9223372036854775807){p:HL [.int .i64]->Option Bool}{q:Int->Bool}(hp:∀n∈l,p (n,())=some (q n)):
  MR l p=some ((l.findIdx? q).elim (-1) (λi=>(i:Int))):=by
 unfold MR KZ;have hs:aFc (l,p,((l.length:Nat):Int)) 0=_:=fM (f:=λv=>(wxi (l,p,((l.length:Nat):Int)) v).ev) (l:=l) 0 q (mk:=λi=>(i:Int)) (yes:=λi=>.inr (i:Int)) (no:=.inl ()) (λi hi=>by simp(disch:=omega)only[EV,wxi,hi,hp _ (aE hi)];cases q (l.getD i 0)<;>rfl) (by simp(disch:=omega)only[EV,wxi,xj]);simp(disch:=omega)only[EV,hs];cases l.findIdx? q<;>rfl
theorem lJ{l:List (Int)}(hl:(l.length:Int)<9223372036854775807){p:HL [.int .i64]->Option Bool}{q:Int->Bool}(hp:∀n∈l,p (n,())=some (q n)):
  DA l p=some (l.any q):=by
 unfold DA FZ;simp(disch:=omega)only[EV,w9 hl hp];congr 1;rw[Oa,nQ];cases l.findIdx? q<;>simp
theorem oF{l:List (List Int)}(hl:(l.length:Int)<9223372036854775807){p:HL [.slice (.int .i64)]->Option Bool}{q:List Int->Bool}(hp:∀n∈l,p (n,())=some (q n)):
  DH l p=some ((l.findIdx? q).elim (-1) (λi=>(i:Int))):=by
 unfold DH ME;have hs:aFG (l,p,((l.length:Nat):Int)) 0=_:=fM (f:=λv=>(wxm (l,p,((l.length:Nat):Int)) v).ev) (l:=l) [] q (mk:=λi=>(i:Int)) (yes:=λi=>.inr (i:Int)) (no:=.inl ()) (λi hi=>by simp(disch:=omega)only[EV,wxm,hi,hp _ (aE hi)];cases q (l.getD i [])<;>rfl) (by simp(disch:=omega)only[EV,wxm,xj]);simp(disch:=omega)only[EV,hs];cases l.findIdx? q<;>rfl
theorem rX{l:List (List Int)}(hl:(l.length:Int)<9223372036854775807){p:HL [.slice (.int .i64)]->Option Bool}{q:List Int->Bool}(hp:∀n∈l,p (n,())=some (q n)):
  UY l p=some (l.any q):=by
 unfold UY EQ;simp(disch:=omega)only[EV,oF hl hp];congr 1;rw[Oa,nQ];cases l.findIdx? q<;>simp
theorem qK{l:List Int}(hl:aF l)(a b:Int):AQ l a b=some (fY l a b):=by unfold aF at hl;unfold AQ XI;rw[qn,lJ (by omega) (q:=λn=> !(bY n a b)) λn _=>by unfold aHK OD;simp(disch:=omega)only[EV,dG]];simp(disch:=omega)only[EV];unfold fY;rw[xfh];simp
def dI(k:Int)(n:Nat):List Int:=(List.range n).map λ(i:Nat)=>k+(i:Int)
theorem gN(k:Int)(n:Nat):(dI k n).length=n:=by simp[dI]
theorem Cl(k:Int)(n:Nat):dI k (n+1)=dI k n++ [k+(n:Int)]:=by simp[dI,KK]
theorem aUh{k:Int}{n i:Nat}(h:i<n):(dI k n).getD i 0=k+(i:Int):=by simp[dI,xe,h]
theorem Sk(k:Int){l:List Int}{i:Nat}(h:i<l.length):(dI k i++l.drop i).set i (k+(i:Int))=dI k (i+1)++l.drop (i+1):=by rw[Wd _ _ (by rw[gN];omega),gN,Nq,Im h,xej,Cl,Fy];rfl
theorem nH{l:List Int}(hl:aF l){k:Int}(h0:0<=k)(h1:k<=4611686018427387904):Uo k l=some (k+(l.length:Int),dI k l.length):=by
 unfold aF at hl;unfold Uo YK;have hs:=(aK (f:=λv=>(wzr () v).ev) (n:=l.length) (mk:=λi (_:Unit)=>(k+(i:Int),(i:Int),dI k i++l.drop i)) (I:=λ_ _=>True) (g:=λs _=>s) (fin:=λ_=>(k+(l.length:Int),dI k l.length)) (s0:=()) trivial
  (λi s hi _=>⟨by
   have hlen:(dI k i++l.drop i).length=l.length:=by simp[gN];omega
   simp(disch:=omega)only[EV,wzr,hlen,hi,Sk k hi,<-Int.add_assoc];congr 1;congr 1;congr 1;omega,trivial⟩)
  (λs _=>by
   have hlen:(dI k l.length++l.drop l.length).length=l.length:=by simp[gN]
   simp(disch:=omega)only[EV,wzr,gN,xj,BA,wG])).1
 simp only[show dI k 0++l.drop 0=l by simp[dI],xex,xfq]at hs;simp(disch:=omega)only[EV,aAJ,hs]
theorem wro{n:Nat}(hn:(n:Int)<=1048576){k:Int}(h0:0<=k)(h1:k<=4611686018427387904):Ro (dI k n) k=some (k+(n:Int)):=by
 unfold Ro VL;have hs:=(aK (f:=λv=>(Qo (dI k n) v).ev) (n:=n) (mk:=λi (_:Unit)=>(k+(i:Int),(i:Int))) (I:=λ_ _=>True) (g:=λs _=>s) (fin:=λ_=>.inl (k+(n:Int))) (s0:=()) trivial
  (λi s hi _=>⟨by simp(disch:=omega)only[EV,Qo,gN,hi,aUh hi,qk];congr 1;congr 1;congr 1;omega,trivial⟩)
  (λs _=>by simp(disch:=omega)only[EV,Qo,gN,xj])).1
 simp only[xex,xfq]at hs;simp(disch:=omega)only[EV,aFE,hs]
def cN:Int->List (List Int)->List (List Int)
 |_,[]=>[]
 |k,r::x=>dI k r.length::cN (k+(r.length:Int)) x
def oK:Int->List (List Int)->Int
 |k,[]=>k
 |k,r::x=>oK (k+(r.length:Int)) x
theorem zR(r:List Int):∀(x:List (List Int)) (k:Int),oK k (x++ [r])=oK k x+(r.length:Int)
 | [],k=>rfl
 |q::x,k=>by simp only[Y7,oK];exact zR r x _
theorem vW(r:List Int):∀(x:List (List Int)) (k:Int),cN k (x++ [r])=cN k x++ [dI (oK k x) r.length]
 | [],k=>rfl
 |q::x,k=>by simp only[Y7,cN,oK];rw[vW r x]
theorem gQ:∀(x:List (List Int)) (k:Int),(cN k x).length=x.length
 | [],_=>rfl
 |q::x,k=>by simp[cN,gQ x]
theorem D1:∀{x:List (List Int)} {k:Int},(∀r∈x,aF r)->k<=oK k x/\oK k x<=k+(x.length:Int)*1048576
 | [],k,_=>by simp[oK]
 |r::x,k,h=>by
  have h1:=h r xz;unfold aF at h1;obtain⟨h2,h3⟩:=D1 (x:=x) (k:=k+(r.length:Int)) λr hr=>h r (xw _ hr);simp only[oK,xl];constructor;·omega
  ·have:((x.length+1:Nat):Int)*1048576=(x.length:Int)*1048576+1048576:=by omega
   omega
theorem cD{α:Type}{l:List α}{i:Nat}(d:α)(h:i<l.length):l.take (i+1)=l.take i++ [l.getD i d]:=by rw[Mj h,xe,xh h];rfl
theorem tJ{x:List (List Int)}(hx:cT x){k:Int}(i:Nat):k<=oK k (x.take i)/\oK k (x.take i)<=k+1099511627776:=by
 obtain⟨h1,h2⟩:=D1 (x:=x.take i) (k:=k) λr hr=>hx.2 r (Je hr);have h3:((x.take i).length:Int)<=1048576:=by have:=hx.1;rw[kN];omega
 refine⟨h1,?_⟩;have:((x.take i).length:Int)*1048576<=1048576*1048576:=xcv h3 (by omega);omega
theorem J4{x:List (List Int)}(hx:cT x){k:Int}(h0:0<=k)(h1:k<=2305843009213693952):NB k x=some (oK k x,cN k x):=by
 have hl:=hx.1;unfold NB OV;have hs:=(aK (f:=λv=>(Tn () v).ev) (n:=x.length) (mk:=λi (_:Unit)=>(oK k (x.take i),(i:Int),cN k (x.take i)++x.drop i)) (I:=λ_ _=>True) (g:=λs _=>s) (fin:=λ_=>(oK k x,cN k x)) (s0:=()) trivial
  (λi s hi _=>⟨by
   have aa:(cN k (x.take i)).length=i:=by rw[gQ,kN];omega
   have hlen:(cN k (x.take i)++x.drop i).length=x.length:=by rw[xm,aa,vA];omega
   have ab:(cN k (x.take i)++x.drop i).getD i []=x.getD i []:=by rw[xe,j8 (by omega),aa,Nq,vN,xe,wY]
   have hb:=tJ hx (k:=k) i;have ad:(cN k (x.take i)++x.drop i).set i (dI (oK k (x.take i)) (x.getD i []).length)=cN k (x.take (i+1))++x.drop (i+1):=by rw[Wd _ _ (by omega),aa,Nq,Im hi,xej,cD [] hi,vW,Fy];rfl
   have ae:oK k (x.take (i+1))=oK k (x.take i)+((x.getD i []).length:Int):=by rw[cD [] hi,zR]
   simp(disch:=omega)only[EV,Tn,hlen,hi,ab,nH (hx.2 _ (aE (d:=[]) hi)) (k:=oK k (x.take i)) (by omega) (by omega),ad,ae];rfl,trivial⟩)
  (λs _=>by
   have hlen:(cN k (x.take x.length)++x.drop x.length).length=x.length:=by simp[gQ]
   simp(disch:=omega)only[EV,Tn,gQ,xj,BA,wG,pM])).1
 simp only[DQ,AP,cN,oK,v5,xex]at hs;simp(disch:=omega)only[EV,aCJ,hs]
theorem aBv:∀(x:List (List Int)) (k:Int) (i:Nat),i<x.length->(cN k x).getD i []=dI (oK k (x.take i)) (x.getD i []).length
 | [],_,_,h=>by simp at h
 |r::x,k,0,_=>rfl
 |r::x,k,i+1,h=>by simp only[cN,List.getD_cons_succ,List.take_succ_cons,oK];exact aBv x _ i (by simpa using h)
theorem aNo{x:List (List Int)}(hx:cT x){k:Int}(h0:0<=k)(h1:k<=2305843009213693952):WX (cN k x) k=some (oK k x):=by
 have hl:=hx.1;unfold WX NL;have hs:=(aK (f:=λv=>(Og (cN k x) v).ev) (n:=x.length) (mk:=λi (_:Unit)=>(oK k (x.take i),(i:Int))) (I:=λ_ _=>True) (g:=λs _=>s) (fin:=λ_=>.inl (oK k x)) (s0:=()) trivial
  (λi s hi _=>⟨by
   have hb:=tJ hx (k:=k) i;have hr:=hx.2 _ (aE (d:=[]) hi);have aa:oK k (x.take (i+1))=oK k (x.take i)+((x.getD i []).length:Int):=by rw[cD [] hi,zR]
   have ab:¬oK k (x.take i)+((x.getD i []).length:Int)<0:=by omega
   simp(disch:=omega)only[EV,Og,gQ,hi,aBv x k i hi,wro hr (k:=oK k (x.take i)) (by omega) (by omega),ab,aa];rfl,trivial⟩)
  (λs _=>by simp(disch:=omega)only[EV,Og,gQ,xj,pM])).1
 simp only[DQ,oK,xex]at hs;simp(disch:=omega)only[EV,aBB,hs]
theorem K7{o:List Int}{ds:List (List Int)}(ho:aF o)(hd:cT ds){k:Int}(h0:0<=k)(h1:k<=1099511627776):∃m,YB k o ds=some (m,dI k o.length,cN (k+(o.length:Int)) ds)/\m=oK (k+(o.length:Int)) ds/\k<=m/\m<=k+2199023255552:=by have hl:=ho;unfold aF at hl;have hb:=tJ hd (k:=k+(o.length:Int)) ds.length;rw[pM]at hb;unfold YB OU;simp(disch:=omega)only[EV,nH ho h0 (by omega),J4 hd (k:=k+(o.length:Int)) (by omega) (by omega)];exact⟨_,rfl,rfl,by omega,by omega⟩
theorem aOE{o:List Int}{ds:List (List Int)}(ho:aF o)(hd:cT ds){k:Int}(h0:0<=k)(h1:k<=1099511627776):QL (dI k o.length) (cN (k+(o.length:Int)) ds) k=some (oK (k+(o.length:Int)) ds):=by
 have hl:=ho;unfold aF at hl;have hb:=tJ hd (k:=k+(o.length:Int)) ds.length;rw[pM]at hb;have hn:¬k+(o.length:Int)<0:=by omega
 have aa:¬oK (k+(o.length:Int)) ds<0:=by omega
 unfold QL RP;simp(disch:=omega)only[EV,wro (n:=o.length) hl h0 (by omega),hn,aNo hd (k:=k+(o.length:Int)) (by omega) (by omega),aa]
def kD:List Int->Int
 | []=>0
 |x::l=>l.foldl min x
theorem oD:∀(l:List Int) (a:Int),(l.foldl min a=a\/l.foldl min a∈l)/\l.foldl min a<=a/\∀x∈l,l.foldl min a<=x
 | [],a=>⟨.inl rfl,w7 _,λx h=>by cases h⟩
 |y::l,a=>by
  obtain⟨h1,h2,h3⟩:=oD l (min a y);simp only[N3];refine⟨?_,by omega,λx hx=>?_⟩
  ·rcases h1 with h1|h1
   ·rw[h1];rcases Int.le_total a y with h|h;·left;omega
    ·right;rw[xgx h];exact xz
   ·exact .inr (xw _ h1)
  ·rcases xaj.1 hx with rfl|hx;·omega
   ·exact h3 x hx
theorem nC{l:List Int}(h:l≠ []):kD l∈l/\∀x∈l,kD l<=x:=by
 cases l with
 |nil=>exact absurd rfl h
 |cons a l=>
  obtain⟨h1,h2,h3⟩:=oD l a;refine⟨?_,λx hx=>?_⟩
  ·rcases h1 with h1|h1;·show l.foldl min a∈a::l;rw[h1];exact xz
   ·exact xw _ h1
  ·rcases xaj.1 hx with rfl|hx;·exact h2
   ·exact h3 x hx
def aS(g:List Int->Int)(l:List (List Int)):List Int:=(l.find? λs=>decide (g s=kD (l.map g))).getD []
theorem dH{g:List Int->Int}{l:List (List Int)}(h:l≠ []):aS g l∈l/\g (aS g l)=kD (l.map g):=by
 obtain⟨h1,_⟩:=nC (l:=l.map g) (by simpa using h);obtain⟨s,hs,e⟩:=xak.1 h1;unfold aS;cases hf:l.find? λs=>decide (g s=kD (l.map g))with
 |none=>have:=xgg.1 hf s hs;simp at this;exact absurd e this
 |some t=>have:=List.find?_some hf;exact⟨xgl hf,by simpa using this⟩
theorem T0{l:List Int}(h:l≠ [])(x:Int):kD (l++ [x])=min (kD l) x:=by
 cases l with
 |nil=>exact absurd rfl h
 |cons a l=>simp[kD,BE]
theorem iB{g:List Int->Int}{l:List (List Int)}(h:l≠ [])(s:List Int):aS g (l++ [s])=if g s<g (aS g l)then s else aS g l:=by
 obtain⟨h1,h2⟩:=dH (g:=g) h;have hm:l.map g≠ []:=by simpa using h
 have hle:=(nC hm).2;rw[h2];unfold aS;rw[TA,List.map_singleton,T0 hm,xfr];by_cases hs:g s<kD (l.map g)
 ·rw[qi hs,xgx (by omega)];have:l.find? (λt=>decide (g t=g s))=none:=xgg.2 λt ht=>by have:=hle (g t) (RW ht);simp only[qe];omega
  rw[this];simp
 ·rw[qh hs,Int.min_eq_left (by omega)];cases hf:l.find? (λt=>decide (g t=kD (l.map g)))with|some t=>rfl|none=>have:=xgg.1 hf _ h1;rw[h2]at this;simp at this
theorem fU{g:List Int->Int}(s:List Int):aS g [s]=s:=by unfold aS;simp[kD]
def Ah(q:List Int->Bool)(g:List Int->Int)(l:List (List Int)):List Int:=l.foldl (λb s=>if q s=true/\(b=[]\/g s<g b)then s else b) []
theorem Or{q:List Int->Bool}{g:List Int->Int}:∀(l:List (List Int)),(∀s∈l,s≠ [])->Ah q g l=if l.filter q=[]then[]else aS g (l.filter q):=by
 have key:∀(n:Nat) (l:List (List Int)),l.length=n->(∀s∈l,s≠ [])->Ah q g l=if l.filter q=[]then[]else aS g (l.filter q):=by
  intro n;induction n with
  |zero=>intro l hl _;have:l=[]:=o8 hl;subst this;rfl
  |succ n ih=>
   intro l hl aa;obtain⟨l',s,rfl⟩:∃l' s,l=l'++ [s]:=⟨l.dropLast,l.getLast (λe=>by rw[e]at hl;simp at hl),(List.dropLast_concat_getLast _).symm⟩
   have ab:l'.length=n:=by simpa using hl
   have h1:=ih l' ab λt ht=>aa t (q8 _ ht);have hs:=aa s (by simp);unfold Ah at h1⊢;rw[BE,h1,N3,xgh,xfg];cases hq:q s with
   |false=>
    have e:List.filter q [s]=[]:=by simp[hq]
    rw[e,wG,qh (λh=>by simp at h)]
   |true=>
    have e:List.filter q [s]=[s]:=by simp[hq]
    rw[e,qh (show¬l'.filter q++ [s]=[] by simp)];by_cases he:l'.filter q=[]
    ·rw[qi he,qi ⟨rfl,.inl rfl⟩,he,v5,fU]
    ·rw[qh he,iB he];have hf:=(dH (g:=g) he).1;have ad:aS g (l'.filter q)≠ []:=aa _ (q8 _ (xap.1 hf).1);by_cases hg:g s<g (aS g (l'.filter q));·rw[qi ⟨rfl,.inr hg⟩,qi hg]
     ·rw[qh (λh=>h.2.elim ad hg),qh hg]
 exact λl=>key l.length l rfl
def at2(x:List (List Int))(i j:Nat):Int:=(x.getD i []).getD j 0
def V5(x:List (List Int))(n i:Nat):Bool:=fY (x.getD i []) 0 99&&(((x.getD i []).length:Int)==(n:Int))
structure Ground(x:List (List Int)):Prop where
 row:∀i,i<x.length->V5 x x.length i=true
 diag:∀i,i<x.length->at2 x i i=0
 sym:∀i j,i<x.length->j<x.length->at2 x i j=at2 x j i
 len:x.length<=7
theorem z9{x:List (List Int)}{n i:Nat}(h:V5 x n i=true):(x.getD i []).length=n:=by simp only[V5,xi,qg]at h;omega
theorem Pq{x:List (List Int)}{n i j:Nat}(h:V5 x n i=true)(hj:j<n):0<=at2 x i j/\at2 x i j<=99:=by have hl:=z9 h;simp only[V5,xi]at h;exact qX h.1 (by omega)
theorem Ground.in{x:List (List Int)}(h:Ground x){i j:Nat}(hi:i<x.length)(hj:j<x.length):0<=at2 x i j/\at2 x i j<=99:=Pq (h.row i hi) hj
theorem Ground.rowLen{x:List (List Int)}(h:Ground x){i:Nat}(hi:i<x.length):(x.getD i []).length=x.length:=z9 (h.row i hi)
def cL(l:List Int)(lo hi:Int):Bool:=(List.range l.length).all λi=>bY (l.getD i 0) lo hi&&(i==0||decide (l.getD (i-1) 0<l.getD i 0))
theorem risingB_iff{l:List Int}{lo hi:Int}:cL l lo hi=true↔(∀x∈l,lo<=x/\x<=hi)/\l.Pairwise (· < ·):=by
 unfold cL;simp only[xy,xau,xi,M9,qg,qe,isIn_iff];constructor
 ·intro h;refine⟨λx hx=>?_,?_⟩;·obtain⟨i,hi,e⟩:=Su hx;have:=(h i hi).1;rw[xe,xh hi]at this;rw[<-e];exact this
  ·rw[xgm];have key:∀d i,i+d+1<l.length->l.getD i 0<l.getD (i+d+1) 0:=by
    intro d;induction d with
    |zero=>
     intro i hi;have:=(h (i+1) hi).2;rcases this with h0|h0;·omega
     ·simpa using h0
    |succ d ih=>
     intro i hi;have h1:=ih i (by omega);have:=(h (i+(d+1)+1) hi).2;rcases this with h0|h0;·omega
     ·have e:i+(d+1)+1-1=i+d+1:=by omega
      rw[e]at h0;omega
   intro i j hi hj aa;have:=key (j-i-1) i (by omega);rw[show i+(j-i-1)+1=j by omega,xe,xe,xh hi,xh hj]at this;exact this
 ·rintro⟨h1,h2⟩ i hi;refine⟨h1 _ (aE hi),?_⟩;by_cases e:i=0;·exact .inl e
  ·right;have:=xgm.1 h2 (i-1) i (by omega) hi (by omega);rw[xe,xe,xh hi,xh (by omega)];exact this
theorem Eu{l:List Int}{lo hi:Int}(h:cL l lo hi=true){i:Nat}(aa:i<l.length):lo<=l.getD i 0/\l.getD i 0<=hi:=(risingB_iff.1 h).1 _ (aE aa)
theorem O9{l:List Int}(hl:aF l)(lo hi:Int):HH l lo hi=some (cL l lo hi):=by
 unfold aF at hl;have h0:aCd (l,lo,hi) 0=_:=aX (f:=λv=>(ZV (l,lo,hi) v).ev) (n:=l.length) (mk:=λi=>(i:Int)) (p:=λi=>bY (l.getD i 0) lo hi&&(i==0||decide (l.getD (i-1) 0<l.getD i 0))) (yes:=.inl ()) (no:=.inr ()) (λi aa _=>by
   cases i with
   |zero=>simp(disch:=omega)only[EV,ZV,aa,fG];cases bY (l.getD 0 0) lo hi<;>rfl
   |succ i=>
    have h1:i<l.length:=by omega
    have e0:(0:Int)<((i+1:Nat):Int):=by omega
    have e1:((i+1:Nat):Int) -1=(i:Int):=by omega
    have e2:(i+1==0)=false:=rfl;simp(disch:=omega)only[EV,ZV,aa,fG,e0,e1,h1,e2,GY,xgf];cases bY (l.getD (i+1) 0) lo hi with
    |false=>rfl
    |true=>
     by_cases h:l.getD (i+1) 0<=l.getD i 0;·simp only[xq,qb,qi h,Dk,show¬l.getD i 0<l.getD (i+1) 0 by omega,decide_false]
     ·simp only[xq,qb,qh h,Dk,show l.getD i 0<l.getD (i+1) 0 by omega,decide_true];rfl) (by simp(disch:=omega)only[EV,ZV,xj])
 unfold HH VZ;simp(disch:=omega)only[EV,h0];unfold cL;cases(List.range l.length).all λi=>bY (l.getD i 0) lo hi&&(i==0||decide (l.getD (i-1) 0<l.getD i 0))<;>rfl
theorem vU{l:List Int}(hl:aF l){n:Int}(h0:0<=n)(h1:n<=1048576):Ym l n=some (cL l 0 (n-1)):=by
 unfold aF at hl;have h0:aBM (l,n,l,((l.length:Nat):Int)) 0=_:=aX (f:=λv=>(wtk (l,n,l,((l.length:Nat):Int)) v).ev) (n:=l.length) (mk:=λi=>(i:Int)) (p:=λi=>bY (l.getD i 0) 0 (n-1)&&(i==0||decide (l.getD (i-1) 0<l.getD i 0))) (yes:=.inl ()) (no:=.inr ()) (λi aa _=>by
   cases i with
   |zero=>simp(disch:=omega)only[EV,wtk,aa,dG];cases bY (l.getD 0 0) 0 (n-1)<;>rfl
   |succ i=>
    have h1:i<l.length:=by omega
    have e0:(0:Int)<((i+1:Nat):Int):=by omega
    have e1:((i+1:Nat):Int) -1=(i:Int):=by omega
    have e2:(i+1==0)=false:=rfl;simp(disch:=omega)only[EV,wtk,aa,dG,e0,e1,h1,e2,GY,xgf];cases bY (l.getD (i+1) 0) 0 (n-1)with
    |false=>rfl
    |true=>
     by_cases h:l.getD (i+1) 0<=l.getD i 0;·simp only[xq,qb,qi h,Dk,show¬l.getD i 0<l.getD (i+1) 0 by omega,decide_false]
     ·simp only[xq,qb,qh h,Dk,show l.getD i 0<l.getD (i+1) 0 by omega,decide_true];rfl) (by simp(disch:=omega)only[EV,wtk,xj])
 unfold Ym VP;simp(disch:=omega)only[EV,h0];unfold cL;cases(List.range l.length).all λi=>bY (l.getD i 0) 0 (n-1)&&(i==0||decide (l.getD (i-1) 0<l.getD i 0))<;>rfl
def pl(s:List Int)(i:Nat):Nat:=(s.getD i 0).toNat
structure Places(s:List Int)(n:Nat):Prop where
 low:(s.length:Int)<=1048576
 mem:∀i,i<s.length->0<=s.getD i 0/\s.getD i 0<n
theorem Places.pl{s:List Int}{n:Nat}(h:Places s n){i:Nat}(hi:i<s.length):s.getD i 0=(pl s i:Int)/\Go.Proofs.YteiekijgoifhoaaGreatDoor.pl s i<n:=by have:=h.mem i hi;unfold Go.Proofs.YteiekijgoifhoaaGreatDoor.pl;omega
theorem Places.of{s:List Int}{n:Nat}(hs:aF s)(h:cL s 0 ((n:Int) -1)=true):Places s n:=⟨hs,λi hi=>by have:=Eu h hi;omega⟩
def fI(o:List Int)(ds:List (List Int)):Bool:=bY (o.length:Int) 1 7&&(fY o 0 99&&(decide ((ds.length:Int)<=7)&&ds.all λr=>decide (r.length=o.length)&&fY r 0 99))
structure Fld(o:List Int)(ds:List (List Int)):Prop where
 pos:1<=o.length
 len:o.length<=7
 cost:∀i,i<o.length->0<=o.getD i 0/\o.getD i 0<=99
 clients:ds.length<=7
 rowLen:∀j,j<ds.length->(ds.getD j []).length=o.length
 dist:∀j i,j<ds.length->i<o.length->0<=(ds.getD j []).getD i 0/\(ds.getD j []).getD i 0<=99
theorem fieldB_iff{o:List Int}{ds:List (List Int)}:fI o ds=true↔Fld o ds:=by
 unfold fI;simp only[xi,qe,xy,isIn_iff];constructor;·rintro⟨⟨h1,h2⟩,h3,h4,h5⟩;have h6:∀j,j<ds.length->(ds.getD j []).length=o.length/\fY (ds.getD j []) 0 99=true:=λj hj=>h5 _ (aE (d:=[]) hj);exact⟨by omega,by omega,λi hi=>qX h3 hi,by omega,λj hj=>(h6 j hj).1,λj i hj hi=>qX (h6 j hj).2 (by rw[(h6 j hj).1];exact hi)⟩
 ·rintro⟨h1,h2,h3,h4,h5,h6⟩;refine⟨by omega,allIn_iff.2 λa ha=>?_,by omega,λr hr=>?_⟩;·obtain⟨i,hi,e⟩:=Su ha;have:=h3 i hi;rw[xe,xh hi,wJ,e]at this;exact this
  ·obtain⟨j,hj,e⟩:=Su hr;have e2:ds.getD j []=r:=by rw[xe,xh hj,wJ,e]
   have h7:=h5 j hj;rw[e2]at h7;refine⟨h7,allIn_iff.2 λa ha=>?_⟩;obtain⟨i,hi,e3⟩:=Su ha;have:=h6 j i hj (by omega);rw[e2,xe,xh hi,wJ,e3]at this;exact this
theorem fN{o:List Int}{ds:List (List Int)}(ho:aF o)(hd:cT ds):Mt o ds=some (fI o ds):=by have hl:=hd.1;have h0:aDx ((o.length:Int),o,ds) 0=_:=aX (f:=λv=>(wva ((o.length:Int),o,ds) v).ev) (n:=ds.length) (mk:=λi=>(i:Int)) (p:=λi=>decide ((ds.getD i []).length=o.length)&&fY (ds.getD i []) 0 99) (yes:=.inl ()) (no:=.inr ()) (λi hi _=>by simp(disch:=omega)only[EV,wva,hi,R7 (hd.2 _ (aE (d:=[]) hi)),Uz];cases fY (ds.getD i []) 0 99<;>cases decide ((ds.getD i []).length=o.length)<;>rfl) (by simp(disch:=omega)only[EV,wva,xj]);rw[uJ ds [] (λr=>decide (r.length=o.length)&&fY r 0 99)]at h0;unfold Mt TX fI;simp(disch:=omega)only[EV,h0,fG,R7 ho,Uz];cases ds.all (λr=>decide (r.length=o.length)&&fY r 0 99)<;>cases bY (o.length:Int) 1 7<;>cases fY o 0 99<;>cases decide ((ds.length:Int)<=7)<;>rfl
theorem cH{o:List Int}{ds:List (List Int)}(ho:aF o)(hd:cT ds):Ge o ds=some (fI o ds):=by
 have hl:=hd.1;have hc:=rX (l:=ds) (show(ds.length:Int)<9223372036854775807 by omega) (p:=λa=>Option.bind (GJ a.1 o ds) λy=>some y) (q:=λr=> !(decide (r.length=o.length)&&fY r 0 99)) λr hr=>by unfold GJ TY;simp(disch:=omega)only[EV,qK (hd.2 r hr),zU];cases decide (r.length=o.length)<;>cases fY r 0 99<;>rfl
 unfold Ge MO fI;simp(disch:=omega)only[EV,dG,qK ho,hc];rw[xfh];simp only[Bool.not_not];cases bY (o.length:Int) 1 7<;>cases fY o 0 99<;>by_cases h:(ds.length:Int)<=7<;>simp only[h,decide_true,decide_false,if_true,if_false]<;>rfl
def dW(o:List Int)(ds:List (List Int))(s:List Int)(c:Int):Bool:=fI o ds&&(cL s 0 ((o.length:Int) -1)&&bY c 0 1000)
theorem O4{o:List Int}(ds:List (List Int)){s:List Int}(ho:aF o)(hs:aF s):BS o ds s=some (cL s 0 ((o.length:Int) -1)):=by unfold aF at ho;unfold BS GT;simp(disch:=omega)only[EV,O9 hs]
theorem mC{o:List Int}{ds:List (List Int)}{s:List Int}(ho:aF o)(hd:cT ds)(hs:aF s)(c:Int):Qj o ds s c=some (dW o ds s c):=by unfold Qj HE dW;simp(disch:=omega)only[EV,fN ho hd,O4 ds ho hs,fG];cases fI o ds<;>cases cL s 0 ((o.length:Int) -1)<;>rfl
theorem hZ{o:List Int}{ds:List (List Int)}{s:List Int}(ho:aF o)(hd:cT ds)(hs:aF s)(c:Int):vP o ds s c=some (dW o ds s c):=by have h:=ho;unfold aF at h;unfold vP KL dW;simp(disch:=omega)only[EV,cH ho hd,vU hs (show(0:Int)<=(o.length:Int) by omega) h,dG];cases fI o ds<;>cases cL s 0 ((o.length:Int) -1)<;>rfl
theorem Ea{o:List Int}{ds:List (List Int)}{b:Int}(ho:K2 o)(hd:Xu ds)(h0:0<=b)(h1:b<=1048576):Sz (VI o ds b) (aF o/\cT ds):=by
 unfold VI WS;obtain⟨r,e1,k1,k2⟩:=tW ho h0 h1;simp(disch:=omega)only[EV,e1];by_cases hr:r<0;·simp(disch:=omega)only[EV,hr];exact⟨_,rfl,by omega,λh=>by omega⟩
 ·obtain⟨r2,e2,k3,k4⟩:=Br hd (show 0<=r by omega) k1;simp(disch:=omega)only[EV,hr,e2];by_cases aa:r2<0;·simp(disch:=omega)only[EV,aa];exact⟨_,rfl,by omega,λh=>by omega⟩
  ·simp(disch:=omega)only[EV,aa];exact⟨_,rfl,k3,λh=>⟨k2 (by omega),k4 h⟩⟩
theorem Dd{o:List Int}{ds:List (List Int)}{s:List Int}(c:Int){b:Int}(ho:K2 o)(hd:Xu ds)(hs:K2 s)(h0:0<=b)(h1:b<=1048576):Sz (TS o ds s c b) (aF o/\cT ds/\aF s):=by
 unfold TS XE;obtain⟨r,e1,k1,k2⟩:=Ea ho hd h0 h1;simp(disch:=omega)only[EV,e1];by_cases hr:r<0;·simp(disch:=omega)only[EV,hr];exact⟨_,rfl,by omega,λh=>by omega⟩
 ·obtain⟨r2,e2,k3,k4⟩:=tW hs (show 0<=r by omega) k1;simp(disch:=omega)only[EV,hr,e2];by_cases aa:r2<0;·simp(disch:=omega)only[EV,aa];exact⟨_,rfl,by omega,λh=>by omega⟩
  ·simp(disch:=omega)only[EV,aa];exact⟨_,rfl,k3,λh=>⟨(k2 (by omega)).1,(k2 (by omega)).2,k4 h⟩⟩
theorem Dz{o:List Int}{ds:List (List Int)}(ho:aF o)(hd:cT ds):PV o ds=some (o,ds):=by unfold PV YN;simp(disch:=omega)only[EV,vJ ho,Aq hd]
theorem Cp{o:List Int}{ds:List (List Int)}{s:List Int}(ho:aF o)(hd:cT ds)(hs:aF s)(c:Int):QS o ds s c=some (c,o,ds,s):=by unfold QS QK;simp(disch:=omega)only[EV,Dz ho hd,vJ hs]
theorem Cc{o o':List Int}{ds aa:List (List Int)}(ho:aF o)(hd:cT ds):VR o ds o' aa=some ((o==o')&&(ds==aa)):=by unfold VR NE;simp(disch:=omega)only[EV,uC ho,Cy hd];cases(o==o')<;>cases(ds==aa)<;>rfl
theorem Cs{o o':List Int}{ds aa:List (List Int)}{s s':List Int}(ho:aF o)(hd:cT ds)(hs:aF s)(c c':Int):XH o ds s c o' aa s' c'=some ((o==o')&&(ds==aa)&&((s==s')&&(c==c'))):=by unfold XH OB;simp(disch:=omega)only[EV,Cc ho hd,uC hs,bne];cases((o==o')&&(ds==aa))<;>cases(s==s')<;>cases(c==c')<;>rfl
theorem Fld.at2{o:List Int}{ds:List (List Int)}(h:Fld o ds){j i:Nat}(hj:j<ds.length)(hi:i<o.length):0<=at2 ds j i/\at2 ds j i<=99:=h.dist j i hj hi
def mG(ds:List (List Int))(j:Nat)(s:List Int)(b k:Nat):Nat:=if at2 ds j (pl s k)<at2 ds j b then pl s k else b
def o9(ds:List (List Int))(j:Nat)(s:List Int):Nat:=(List.range s.length).foldl (mG ds j s) (pl s 0)
def near(ds:List (List Int))(s:List Int)(j:Nat):Int:=at2 ds j (o9 ds j s)
def N5(o s:List Int):Int:=(List.range s.length).foldl (λa k=>a+o.getD (pl s k) 0) 0
def eO(ds:List (List Int))(s:List Int):Int:=(List.range ds.length).foldl (λa j=>a+near ds s j) 0
def Nt(ds:List (List Int))(s:List Int):Int:=(List.range ds.length).foldl (λa j=>max a (near ds s j)) 0
def kC(ds:List (List Int))(s:List Int):List Int:=(List.range ds.length).map (near ds s)
theorem C2{α S:Type}{g:S->α->S}(Q:S->Prop){l:List α}(h:∀s a,a∈l->Q s->Q (g s a)){s:S}(hs:Q s):Q (l.foldl g s):=by
 induction l generalizing s with
 |nil=>exact hs
 |cons a l ih=>exact ih (λs b hb=>h s b (xw _ hb)) (h s a xz hs)
theorem qP{ds:List (List Int)}{j:Nat}{s:List Int}{n b k:Nat}(hs:Places s n)(hk:k<s.length)(hb:b<n):mG ds j s b k<n:=by
 unfold mG;split;·exact(hs.pl hk).2
 ·exact hb
theorem I0{ds:List (List Int)}{j:Nat}{s:List Int}{n:Nat}(hs:Places s n)(h0:0<s.length):o9 ds j s<n:=
 C2 (λb=>b<n) (λ_ _ hk hb=>qP hs (xau.1 hk) hb) (hs.pl h0).2
theorem tD{o:List Int}{ds:List (List Int)}(hf:Fld o ds){s:List Int}(hs:Places s o.length)(h0:0<s.length){j:Nat}(hj:j<ds.length):0<=near ds s j/\near ds s j<=99:=hf.at2 hj (I0 hs h0)
theorem uM{α:Type}{l:List α}{f:α->Int}{B:Int}(h:∀a∈l,0<=f a/\f a<=B)(a0:Int):a0<=l.foldl (λa x=>a+f x) a0/\l.foldl (λa x=>a+f x) a0<=a0+(l.length:Int)*B:=by
 induction l generalizing a0 with
 |nil=>simp
 |cons x l ih=>
  have h1:=ih (λa ha=>h a (xw _ ha)) (a0+f x);have h2:=h x xz;simp only[N3,xl];have e:((l.length+1:Nat):Int)*B=(l.length:Int)*B+B:=by rw[xfe,xhi];simp
  rw[e];omega
theorem lP{o:List Int}{ds:List (List Int)}(hf:Fld o ds){s:List Int}(hs:Places s o.length)(h0:0<s.length):0<=eO ds s/\eO ds s<=693:=by have:=uM (l:=List.range ds.length) (f:=near ds s) (B:=99) (λj hj=>tD hf hs h0 (xau.1 hj)) 0;have hc:=hf.clients;unfold eO;simp only[YQ]at this;omega
theorem Bq{o:List Int}{ds:List (List Int)}(hf:Fld o ds){s:List Int}(hs:Places s o.length):0<=N5 o s/\N5 o s<=103809024:=by have:=uM (l:=List.range s.length) (f:=λk=>o.getD (pl s k) 0) (B:=99) (λk hk=>hf.cost _ (hs.pl (xau.1 hk)).2) 0;have hc:=hs.low;unfold N5;simp only[YQ]at this;omega
theorem C8{o:List Int}{ds:List (List Int)}(hf:Fld o ds){s:List Int}(hs:Places s o.length)(h0:0<s.length){j:Nat}(hj:j<ds.length):BP o ds (j:Int) s=some (o9 ds j s:Int):=by
 have ab:=hs.low;have hr:=hf.rowLen j hj;have hlen:=hf.len;have key:DD ((j:Int),s,o,ds) ((pl s 0:Int),0)=some (o9 ds j s:Int):=
  (aK (f:=λv=>(ZS ((j:Int),s,o,ds) v).ev) (n:=s.length) (mk:=λk (b:Nat)=>((b:Int),(k:Int))) (I:=λ_ b=>b<o.length) (g:=mG ds j s) (fin:=λb=>(b:Int)) (s0:=pl s 0) (hs.pl h0).2
   (λk b hk hb=>by obtain⟨e1,h1⟩:=hs.pl hk;have e3:(ds.getD j []).getD (pl s k) 0=at2 ds j (pl s k):=rfl;have e4:(ds.getD j []).getD b 0=at2 ds j b:=rfl;refine⟨?_,qP hs hk hb⟩;simp(disch:=omega)only[EV,ZS,hj,hk,e1,hr,h1,hb,e3,e4];unfold mG;split<;>rfl)
   (λb _=>by simp(disch:=omega)only[EV,ZS,xj])).1
 have aa:DD ((j:Int),s,o,ds) ((pl s 0:Int),1)=some (o9 ds j s:Int):=by
  rw[<-key];unfold DD
  conv=>rhs;rw[aL]
  obtain⟨e1,h1⟩:=hs.pl h0;have e3:(ds.getD j []).getD (pl s 0) 0=at2 ds j (pl s 0):=rfl;have z:Int.toNat 0=0:=rfl;simp(disch:=omega)only[EV,ZS,hj,h0,z,e1,hr,h1,e3,BN,show(0:Int)<(s.length:Int) by omega];rfl
 unfold BP ET;have z:Int.toNat 0=0:=rfl;simp(disch:=omega)only[EV,z,(hs.pl h0).1,aa]
theorem sV{o:List Int}{ds:List (List Int)}(hf:Fld o ds){s:List Int}(hs:Places s o.length)(h0:0<s.length){j:Nat}(hj:j<ds.length):Yo o ds (j:Int) s=some (near ds s j):=by have hr:=hf.rowLen j hj;have hb:o9 ds j s<o.length:=I0 hs h0;unfold Yo JN;have e3:(ds.getD j []).getD (o9 ds j s) 0=near ds s j:=rfl;simp(disch:=omega)only[EV,hj,C8 hf hs h0 hj,hr,hb,e3]
theorem La{o:List Int}{ds:List (List Int)}(hf:Fld o ds){s:List Int}(hs:Places s o.length)(h0:0<s.length){j:Nat}(hj:j<ds.length):IP o ds (j:Int) s=some (o9 ds j s:Int):=by
 have aa:=hs.low;have hr:=hf.rowLen j hj;have hlen:=hf.len;have key:aHa ((j:Int),s,(s.length:Int),o,ds) ((pl s 0:Int),0)=some (o9 ds j s:Int):=
  (aK (f:=λv=>(wxu ((j:Int),s,(s.length:Int),o,ds) v).ev) (n:=s.length) (mk:=λk (b:Nat)=>((b:Int),(k:Int))) (I:=λ_ b=>b<o.length) (g:=mG ds j s) (fin:=λb=>(b:Int)) (s0:=pl s 0) (hs.pl h0).2
   (λk b hk hb=>by obtain⟨e1,h1⟩:=hs.pl hk;have e3:(ds.getD j []).getD (pl s k) 0=at2 ds j (pl s k):=rfl;have e4:(ds.getD j []).getD b 0=at2 ds j b:=rfl;refine⟨?_,qP hs hk hb⟩;simp(disch:=omega)only[EV,wxu,hj,hk,e1,hr,h1,hb,e3,e4];unfold mG;split<;>rfl)
   (λb _=>by simp(disch:=omega)only[EV,wxu,xj])).1
 unfold IP WL;have z:Int.toNat 0=0:=rfl;simp(disch:=omega)only[EV,z,(hs.pl h0).1,key]
theorem iG{V R α:Type}{f:V->Option (V⊕R)}{n:Nat}(mk:Nat->List α->V)(g:Nat->α)(fin:List α->R)
  (aa:∀i l,i<n->l.length=i->f (mk i l)=some (.inl (mk (i+1) (l++ [g i])))) (ab:∀l,l.length=n->f (mk n l)=some (.inr (fin l))):aC f (mk 0 [])=some (fin ((List.range n).map g)):=by
 have:=(aK (f:=f) (n:=n) mk (λi l=>l.length=i) (λl i=>l++ [g i]) fin (s0:=[]) rfl (λi l hi hl=>⟨aa i l hi hl,by simp[hl]⟩) ab).1;rw[this];congr 2;have:∀(l:List Nat) (acc:List α),l.foldl (λl i=>l++ [g i]) acc=acc++l.map g:=by
  intro l;induction l with
  |nil=>simp
  |cons x l ih=>intro acc;simp[ih]
 rw[this];simp
theorem z0{o:List Int}{ds:List (List Int)}(hf:Fld o ds){s:List Int}(hs:Places s o.length)(h0:0<s.length):AC o ds s=some ((List.range ds.length).map λj=>(o9 ds j s:Int)):=by
 have hc:=hf.clients;have key:aAr (s,(ds.length:Int),o,ds) (0,[])=some ((List.range ds.length).map λj=>(o9 ds j s:Int)):=
  iG (f:=λv=>(wxv (s,(ds.length:Int),o,ds) v).ev) (n:=ds.length) (mk:=λk (l:List Int)=>((k:Int),l)) (λj=>(o9 ds j s:Int)) (λl=>l)
   (λj l hj hl=>by
    have e:(l.length+List.length [(o9 ds j s:Int)])*8<=140737488355328:=by simp;omega
    simp(disch:=omega)only[EV,wxv,hj,La hf hs h0 hj,e];rfl) (λl _=>by simp(disch:=omega)only[EV,wxv,xj])
 unfold AC UK;simp(disch:=omega)only[EV,key]
theorem f9{o:List Int}{ds:List (List Int)}(hf:Fld o ds){s:List Int}(hs:Places s o.length)(h0:0<s.length):Yd o ds s=some (kC ds s):=by
 have hc:=hf.clients;unfold Yd XD;simp(disch:=omega)only[EV,z0 hf hs h0];generalize hr:((List.range ds.length).map λj=>(o9 ds j s:Int))=r;have aa:r.length=ds.length:=by rw[<-hr];simp
 have ab:∀j,j<ds.length->r.getD j 0=(o9 ds j s:Int):=λj hj=>by rw[<-hr,xe,mY,Qe hj];rfl
 have key:aCu ((r.length:Int),o,ds,r) (0,[])=some (kC ds s):=
  iG (f:=λv=>(wxx ((r.length:Int),o,ds,r) v).ev) (n:=ds.length) (mk:=λk (l:List Int)=>((k:Int),l)) (near ds s) (λl=>l)
   (λj l hj hl=>by
    have hb:o9 ds j s<o.length:=I0 hs h0;have e3:(ds.getD j []).getD (o9 ds j s) 0=near ds s j:=rfl;have e:∀x:Int,(l.length+List.length [x])*8<=140737488355328:=λx=>by simp;omega
    simp(disch:=omega)only[EV,wxx,hj,aa,ab j hj,hf.rowLen j hj,hb,e3,e];rfl) (λl _=>by simp(disch:=omega)only[EV,wxx,aa,xj])
 simp(disch:=omega)only[EV,key]
theorem Ja{l:List Int}{B:Int}(hl:(l.length:Int)*B<9223372036854775808)(hn:(l.length:Int)<9223372036854775807)(h:∀a∈l,0<=a/\a<=B):Le l=some (l.foldl (λa x=>a+x) 0):=by
 have key:=dM (f:=λv=>(DP (l,(l.length:Int)) v).ev) l 0 (mk:=λk a=>(a,(k:Int))) (I:=λk a=>0<=a/\a<=(k:Int)*B) (g:=λa x=>a+x) (fin:=λa=>a) (s0:=0) (by simp)
  (λk a hk ha=>by
   have h1:=h _ (aE (d:=0) hk);have h2:((k+1:Nat):Int)*B=(k:Int)*B+B:=by rw[xfe,xhi];simp
   have hB:0<=B:=by omega
   have h3:((k+1:Nat):Int)*B<=(l.length:Int)*B:=xcv (by omega) hB;refine⟨?_,by omega,by omega⟩;simp(disch:=omega)only[EV,DP,hk];rfl)
  (λa _=>by simp(disch:=omega)only[EV,DP,xj])
 unfold Le AZ;have k1:RF (l,(l.length:Int)) (0,0)=_:=key.1;simp(disch:=omega)only[EV,k1]
theorem qZ{o:List Int}{ds:List (List Int)}(hf:Fld o ds){s:List Int}(hs:Places s o.length)(h0:0<s.length):Cz o ds s=some (eO ds s):=by
 have hc:=hf.clients;unfold Cz SB;have hl:(kC ds s).length=ds.length:=by simp[kC]
 simp(disch:=omega)only[EV,f9 hf hs h0,Ja (l:=kC ds s) (B:=99) (by omega) (by omega) (λa ha=>by obtain⟨j,hj,rfl⟩:=xak.1 ha;exact tD hf hs h0 (xau.1 hj))];unfold kC eO;rw[xhh]
theorem mF{o:List Int}{ds:List (List Int)}(hf:Fld o ds){s:List Int}(hs:Places s o.length)(h0:0<s.length):Kj o ds s=some (eO ds s):=by
 have hc:=hf.clients;have key:aEr (s,o,ds) (0,0)=some (eO ds s):=
  (aK (f:=λv=>(wvq (s,o,ds) v).ev) (n:=ds.length) (mk:=λk a=>(a,(k:Int))) (I:=λk a=>0<=a/\a<=(k:Int)*99) (g:=λa j=>a+near ds s j) (fin:=λa=>a) (s0:=0) (by simp)
   (λj a hj ha=>by have h1:=tD hf hs h0 hj;refine⟨?_,by omega,by omega⟩;simp(disch:=omega)only[EV,wvq,hj,sV hf hs h0 hj];rfl)
   (λa _=>by simp(disch:=omega)only[EV,wvq,xj])).1
 unfold Kj LZ;simp(disch:=omega)only[EV,key]
theorem Tj{o:List Int}{ds:List (List Int)}(hf:Fld o ds){s:List Int}(hs:Places s o.length):UT o ds s=some (N5 o s):=by
 have aa:=hs.low;have key:aBY (s,o,ds) (0,0)=some (N5 o s):=
  (aK (f:=λv=>(wvr (s,o,ds) v).ev) (n:=s.length) (mk:=λk a=>(a,(k:Int))) (I:=λk a=>0<=a/\a<=(k:Int)*99) (g:=λa k=>a+o.getD (pl s k) 0) (fin:=λa=>a) (s0:=0) (by simp)
   (λk a hk ha=>by obtain⟨e1,h1⟩:=hs.pl hk;have h2:=hf.cost _ h1;refine⟨?_,by omega,by omega⟩;simp(disch:=omega)only[EV,wvr,hk,e1,h1];rfl)
   (λa _=>by simp(disch:=omega)only[EV,wvr,xj])).1
 unfold UT GX;simp(disch:=omega)only[EV,key]
theorem Ci{o:List Int}{ds:List (List Int)}(hf:Fld o ds){s:List Int}(hs:Places s o.length):LB o ds s=some (N5 o s):=by
 have aa:=hs.low;have key:aGA (s,(s.length:Int),o,ds) (0,0)=some (N5 o s):=
  (aK (f:=λv=>(wxt (s,(s.length:Int),o,ds) v).ev) (n:=s.length) (mk:=λk a=>(a,(k:Int))) (I:=λk a=>0<=a/\a<=(k:Int)*99) (g:=λa k=>a+o.getD (pl s k) 0) (fin:=λa=>a) (s0:=0) (by simp)
   (λk a hk ha=>by obtain⟨e1,h1⟩:=hs.pl hk;have h2:=hf.cost _ h1;refine⟨?_,by omega,by omega⟩;simp(disch:=omega)only[EV,wxt,hk,e1,h1];rfl)
   (λa _=>by simp(disch:=omega)only[EV,wxt,xj])).1
 unfold LB VY;simp(disch:=omega)only[EV,key]
theorem yN{o:List Int}{ds:List (List Int)}(hf:Fld o ds){s:List Int}(hs:Places s o.length)(h0:0<s.length):I6 o ds s=some (N5 o s+eO ds s):=by have h1:=lP hf hs h0;have h2:=Bq hf hs;unfold I6 TO;simp(disch:=omega)only[EV,mF hf hs h0,Tj hf hs];rw[Int.add_comm]
theorem sQ{o:List Int}{ds:List (List Int)}(hf:Fld o ds){s:List Int}(hs:Places s o.length)(h0:0<s.length):Nz o ds s=some (N5 o s+eO ds s):=by have h1:=lP hf hs h0;have h2:=Bq hf hs;unfold Nz JR;simp(disch:=omega)only[EV,qZ hf hs h0,Ci hf hs]
theorem K8{l:List Int}(h0:0<l.length)(hn:(l.length:Int)<9223372036854775807):XA l=some (l.foldl (λa x=>max a x) (l.getD 0 0)):=by
 have mx:∀a x:Int,(if a<x then x else a)=max a x:=λa x=>by
  by_cases h:a<x;·rw[qi h,xgy (by omega)]
  ·rw[qh h,Int.max_eq_left (by omega)]
 have key:=(dM (f:=λv=>(ZH l v).ev) l 0 (mk:=λk a=>(a,(k:Int))) (I:=λ_ _=>True) (g:=λa x=>max a x) (fin:=λa=>a) (s0:=l.getD 0 0) trivial
  (λk a hk _=>by refine⟨?_,trivial⟩;simp(disch:=omega)only[EV,ZH,hk,mx];rfl)
  (λa _=>by simp(disch:=omega)only[EV,ZH,xj])).1
 have aa:LC l (l.getD 0 0,1)=some (l.foldl (λa x=>max a x) (l.getD 0 0)):=by
  rw[<-key];unfold LC
  conv=>rhs;rw[aL]
  have z:Int.toNat 0=0:=rfl;have z1:((0:Nat):Int)=0:=rfl;have ab:(0:Int)<(l.length:Int):=by omega
  simp(disch:=omega)only[EV,ZH,h0,ab,z,z1,mx,Int.max_self];rfl
 unfold XA WI;have z:Int.toNat 0=0:=rfl;have h1:¬(l.length:Int)<1:=by omega
 simp(disch:=omega)only[EV,h1,z,aa]
theorem Ot{l:List Int}(h:∀x∈l,0<=x):(l++ [0]).foldl (λa x=>max a x) ((l++ [0]).getD 0 0)=l.foldl (λa x=>max a x) 0:=by
 cases l with
 |nil=>rfl
 |cons y l=>
  have h1:=h y xz;have hge:∀(l:List Int) (a:Int),a<=l.foldl (λa x=>max a x) a:=by
   intro l;induction l with
   |nil=>intro a;exact w7 _
   |cons x l ih=>intro a;exact Int.le_trans (Int.le_max_left a x) (ih _)
  rw[BE];have e:((y::l)++ [0]).getD 0 0=y:=rfl;have:=hge l y;simp only[e,N3,xgh,Int.max_self,xgy h1];omega
theorem a8{o:List Int}{ds:List (List Int)}(hf:Fld o ds){s:List Int}(hs:Places s o.length)(h0:0<s.length):Rb o ds s=some (Nt ds s):=by
 have hc:=hf.clients;have key:aBm (s,o,ds) (0,0)=some (Nt ds s):=
  (aK (f:=λv=>(wwj (s,o,ds) v).ev) (n:=ds.length) (mk:=λk a=>(a,(k:Int))) (I:=λ_ _=>True) (g:=λa j=>max a (near ds s j)) (fin:=λa=>a) (s0:=0) trivial
   (λj a hj _=>by refine⟨?_,trivial⟩;simp(disch:=omega)only[EV,wwj,hj,sV hf hs h0 hj,tU];rfl)
   (λa _=>by simp(disch:=omega)only[EV,wwj,xj])).1
 unfold Rb YE;simp(disch:=omega)only[EV,key]
theorem Q0{o:List Int}{ds:List (List Int)}(hf:Fld o ds){s:List Int}(hs:Places s o.length)(h0:0<s.length):Ls o ds s=some (Nt ds s):=by
 have hc:=hf.clients;have hl:(kC ds s).length=ds.length:=by simp[kC]
 unfold Ls GF;have e:((kC ds s).length+List.length [(0:Int)])*8<=140737488355328:=by simp;omega
 simp(disch:=omega)only[EV,f9 hf hs h0,e,K8 (l:=kC ds s++ [0]) (by simp) (by simp;omega)];rw[Ot λx hx=>by obtain⟨j,hj,rfl⟩:=xak.1 hx;exact(tD hf hs h0 (xau.1 hj)).1];unfold kC Nt;rw[xhh]
def dT(o:List Int)(ds:List (List Int))(s:List Int):Bool:=fI o ds&&(cL s 0 ((o.length:Int) -1)&&decide (0<s.length))
theorem yR{o:List Int}{ds:List (List Int)}{s:List Int}(ho:aF o)(hd:cT ds)(hs:aF s):Fa o ds s=some (dT o ds s):=by
 unfold Fa OQ dT;simp(disch:=omega)only[EV,fN ho hd,O4 ds ho hs];have e:decide ((0:Int)<(s.length:Int))=decide (0<s.length):=by simp
 rw[e];cases fI o ds<;>cases cL s 0 ((o.length:Int) -1)<;>rfl
theorem kY{o:List Int}{ds:List (List Int)}{s:List Int}(ho:aF o)(hd:cT ds)(hs:aF s):W6 o ds s=some (dT o ds s):=by
 have h:=ho;unfold aF at h;unfold W6 WT aBe KR dT;simp(disch:=omega)only[EV,cH ho hd,vU hs (show(0:Int)<=(o.length:Int) by omega) h];have e:((0:Int)<(s.length:Int))=(0<s.length):=by simp
 by_cases h0:0<s.length
 ·have h1:(0:Int)<(s.length:Int):=by omega
  simp only[h0,h1,decide_true,if_true,Wa];cases fI o ds<;>cases cL s 0 ((o.length:Int) -1)<;>rfl
 ·have h1:¬(0:Int)<(s.length:Int):=by omega
  simp only[h0,h1,decide_false,if_false,xfs];cases fI o ds<;>rfl
theorem pK{o:List Int}{ds:List (List Int)}{s:List Int}(hs:aF s)(h:dT o ds s=true):Fld o ds/\Places s o.length/\0<s.length:=by unfold dT at h;simp only[xi,qe]at h;exact⟨fieldB_iff.1 h.1,Places.of hs h.2.1,h.2.2⟩
def lA(o:List Int)(ds:List (List Int))(s:List Int)(c:Int):Int×Bool:=bif dW o ds s c&&decide (0<s.length)then(N5 o s+eO ds s,true)else(0,false)
theorem zT{o:List Int}{ds:List (List Int)}{s:List Int}{c:Int}(hs:aF s)(h:dW o ds s c=true):Fld o ds/\Places s o.length:=by unfold dW at h;simp only[xi]at h;exact⟨fieldB_iff.1 h.1,Places.of hs h.2.1⟩
theorem lV{o:List Int}{ds:List (List Int)}{s:List Int}(ho:aF o)(hd:cT ds)(hs:aF s)(c:Int):CB o ds s c=some (lA o ds s c):=by
 unfold CB VE lA;simp(disch:=omega)only[EV,mC ho hd hs];cases h:dW o ds s c with
 |false=>rfl
 |true=>
  obtain⟨h1,h2⟩:=zT hs h;by_cases h0:0<s.length;·have e:((s.length:Int)==0)=false:=beq_eq_false_iff_ne.2 (by omega);simp(disch:=omega)only[EV,e,h0,yN h1 h2 h0]
  ·have e:((s.length:Int)==0)=true:=beq_iff_eq.2 (by omega);simp(disch:=omega)only[EV,e,h0]
theorem lO{o:List Int}{ds:List (List Int)}{s:List Int}(ho:aF o)(hd:cT ds)(hs:aF s)(c:Int):BK o ds s c=some (lA o ds s c):=by
 unfold BK LQ aDp JC lA;simp(disch:=omega)only[EV,hZ ho hd hs,kY ho hd hs];cases h:dW o ds s c with
 |false=>rfl
 |true=>
  obtain⟨h1,h2⟩:=zT hs h;have hb:dT o ds s=decide (0<s.length):=by unfold dW at h;simp only[xi]at h;unfold dT;rw[h.1,h.2.1,Dk,Dk]
  rw[hb];by_cases h0:0<s.length;·simp(disch:=omega)only[EV,h0,sQ h1 h2 h0]
  ·simp(disch:=omega)only[EV,h0]
theorem all_succ{P:Nat->Prop}{i:Nat}:(∀s,s<i+1->P s)↔(∀s,s<i->P s)/\P i:=by
 refine⟨λh=>⟨λs hs=>h s (by omega),h i (by omega)⟩,λ⟨h1,h2⟩ s hs=>?_⟩;rcases Ru s i with h|h;·exact h1 s h
 ·obtain rfl:s=i:=by omega
  exact h2
def IsMin(n:Nat)(f:Nat->Int)(g:Int):Prop:=(∀s,s<n->g<=f s)/\∃s,s<n/\g=f s
theorem IsMin.uniq{n:Nat}{f:Nat->Int}{g h:Int}(a:IsMin n f g)(b:IsMin n f h):g=h:=by obtain⟨a1,s,a2,a3⟩:=a;obtain⟨b1,t,b2,b3⟩:=b;have:=a1 t b2;have:=b1 s a2;omega
def RM(i:Nat)(sel:Nat->Prop)(f:Nat->Int)(m:Int):Prop:=
 (m= -1/\∀s,s<i->¬sel s)\/(0<=m/\(∀s,s<i->sel s->m<=f s)/\∃s,s<i/\sel s/\m=f s)
theorem RM.zero(sel:Nat->Prop)(f:Nat->Int):RM 0 sel f (-1):=.inl ⟨rfl,λs hs=>absurd hs (by omega)⟩
theorem RM.skip{i:Nat}{sel:Nat->Prop}{f:Nat->Int}{m:Int}(hn:¬sel i):RM i sel f m->RM (i+1) sel f m
 | .inl ⟨a,b⟩=>.inl ⟨a,all_succ.2 ⟨b,hn⟩⟩
 | .inr ⟨a,b,s,c,d⟩=>.inr ⟨a,all_succ.2 ⟨b,λh=>absurd h hn⟩,s,by omega,d⟩
theorem RM.take{i:Nat}{sel:Nat->Prop}{f:Nat->Int}{m:Int}(hs:sel i)(h0:0<=f i)(hm:m<0\/f i<m):RM i sel f m->RM (i+1) sel f (f i)
 | .inl ⟨_,b⟩=>.inr ⟨h0,all_succ.2 ⟨λs h k=>absurd k (b s h),λ_=>w7 _⟩,i,by omega,hs,rfl⟩
 | .inr ⟨a,b,_⟩=>.inr ⟨h0,all_succ.2 ⟨λs h k=>by have:=b s h k;omega,λ_=>w7 _⟩,i,by omega,hs,rfl⟩
theorem RM.keep{i:Nat}{sel:Nat->Prop}{f:Nat->Int}{m:Int}(h0:¬m<0)(hm:¬f i<m):RM i sel f m->RM (i+1) sel f m
 | .inl ⟨a,_⟩=>by omega
 | .inr ⟨a,b,s,c,d⟩=>.inr ⟨a,all_succ.2 ⟨b,λ_=>by omega⟩,s,by omega,d⟩
def pos(x:Int):Int:=if 0<x then x else 0
theorem dJ(x:Int):0<=pos x/\(0<=x->pos x=x)/\(x<=0->pos x=0):=by unfold pos;split<;>refine⟨by omega,by omega,by omega⟩
theorem Ft(x:Int):max 0 x=pos x:=by unfold pos;split<;>omega
def fJ(ds:List (List Int))(p:List Int)(s:Nat):Nat->Int
 |0=>0
 |k+1=>fJ ds p s k+pos (p.getD k 0-at2 ds k s)
def rV(ds:List (List Int))(p:List Int)(s:Nat):Int:=fJ ds p s ds.length
def fQ(p:List Int):Nat->Int
 |0=>0
 |k+1=>fQ p k+p.getD k 0
theorem cY(l:List Int){i:Nat}(hi:i<l.length)(j:Nat)(v:Int):(l.set i v).getD j 0=if i=j then v else l.getD j 0:=by
 rw[xe,xe,EX];by_cases h:i=j;·subst h;simp[hi]
 ·simp[h]
theorem S2{ds:List (List Int)}{p:List Int}{c:Nat}(hc:c<p.length)(n:Int)(s:Nat):∀k,fJ ds (p.set c n) s k=fJ ds p s k+if c<k then pos (n-at2 ds c s) -pos (p.getD c 0-at2 ds c s)else 0
 |0=>by simp[fJ]
 |k+1=>by
  rw[fJ,fJ,S2 hc n s k,cY p hc];by_cases h1:c=k;·subst h1;rw[qi rfl,qh (by omega),qi (by omega)];omega
  ·rw[qh h1];by_cases h2:c<k;·rw[qi h2,qi (by omega)];omega
   ·rw[qh h2,qh (by omega)];omega
theorem jE{ds:List (List Int)}{p:List Int}{s:Nat}:∀k,0<=fJ ds p s k/\∀c,c<k->pos (p.getD c 0-at2 ds c s)<=fJ ds p s k
 |0=>⟨by simp[fJ],λc h=>absurd h (by omega)⟩
 |k+1=>by obtain⟨h1,h2⟩:=jE (ds:=ds) (p:=p) (s:=s) k;have h3:=(dJ (p.getD k 0-at2 ds k s)).1;refine⟨by rw[fJ];omega,all_succ.2 ⟨λc hc=>by have:=h2 c hc;rw[fJ];omega,by rw[fJ];omega⟩⟩
theorem O1{p:List Int}{c:Nat}(hc:c<p.length)(n:Int):∀k,fQ (p.set c n) k=fQ p k+if c<k then n-p.getD c 0 else 0
 |0=>by simp[fQ]
 |k+1=>by
  rw[fQ,fQ,O1 hc n k,cY p hc];by_cases h1:c=k;·subst h1;rw[qi rfl,qh (by omega),qi (by omega)];omega
  ·rw[qh h1];by_cases h2:c<k;·rw[qi h2,qi (by omega)];omega
   ·rw[qh h2,qh (by omega)];omega
structure PI(o:List Int)(ds:List (List Int))(p:List Int):Prop where
 len:p.length=ds.length
 near:∀c,c<ds.length->∃s,s<o.length/\at2 ds c s<=p.getD c 0
 room:∀s,s<o.length->rV ds p s<=o.getD s 0
theorem PI.val{o:List Int}{ds:List (List Int)}{p:List Int}(h:PI o ds p)(hf:Fld o ds){c:Nat}(hc:c<ds.length):0<=p.getD c 0/\p.getD c 0<=198:=by obtain⟨s,h1,h2⟩:=h.near c hc;have h3:=hf.at2 hc h1;have h4:=h.room s h1;have h5:=hf.cost s h1;have h6:=(jE (ds:=ds) (p:=p) (s:=s) ds.length).2 c hc;have h7:=(dJ (p.getD c 0-at2 ds c s)).2.1 (by omega);unfold rV at h4;omega
theorem mJ{o:List Int}{ds:List (List Int)}{p:List Int}(h:PI o ds p)(hf:Fld o ds){s:Nat}(hs:s<o.length):∀k,k<=ds.length->fJ ds p s k<=198*k
 |0,_=>by simp[fJ]
 |k+1,hk=>by
  have h1:=mJ h hf hs k (by omega);have h2:=h.val hf (show k<ds.length by omega);have h3:=hf.at2 (show k<ds.length by omega) hs;have h4:pos (p.getD k 0-at2 ds k s)<=198:=by
   have:=dJ (p.getD k 0-at2 ds k s);by_cases hx:0<=p.getD k 0-at2 ds k s;·have:=this.2.1 hx;omega
   ·have:=this.2.2 (by omega);omega
  rw[fJ];omega
theorem oU{o:List Int}{ds:List (List Int)}{p:List Int}(h:PI o ds p)(hf:Fld o ds):∀k,k<=ds.length->0<=fQ p k/\fQ p k<=198*k
 |0,_=>by simp[fQ]
 |k+1,hk=>by have h1:=oU h hf k (by omega);have h2:=h.val hf (show k<ds.length by omega);rw[fQ];omega
def kI(o:List Int)(ds:List (List Int))(p:List Int)(c s:Nat):Int:=if at2 ds c s<=p.getD c 0 then o.getD s 0-rV ds p s else at2 ds c s-p.getD c 0
theorem Ho{o:List Int}{ds:List (List Int)}{p:List Int}(h:PI o ds p){c s:Nat}(hs:s<o.length):0<=kI o ds p c s:=by have:=h.room s hs;unfold kI;split<;>omega
theorem PI.step{o:List Int}{ds:List (List Int)}{p:List Int}(h:PI o ds p){c:Nat}(hc:c<ds.length){g:Int}(hg:IsMin o.length (kI o ds p c) g):0<=g/\PI o ds (p.set c (p.getD c 0+g)):=by
 have aa:c<p.length:=by rw[h.len];exact hc
 have h0:0<=g:=by obtain⟨_,s,h1,h2⟩:=hg;rw[h2];exact Ho h h1
 refine⟨h0,by rw[F0];exact h.len,λc' ab=>?_,λs hs=>?_⟩
 ·obtain⟨s,h1,h2⟩:=h.near c' ab;refine⟨s,h1,?_⟩;rw[cY p aa];split
  next he=>subst he;omega
  next=>exact h2
 ·have h1:=hg.1 s hs;have h2:=h.room s hs;unfold rV at h2⊢;rw[S2 aa,qi hc];have h3:=dJ (p.getD c 0-at2 ds c s);have h4:=dJ (p.getD c 0+g-at2 ds c s);unfold kI rV at h1;split at h1;·have:=h3.2.1 (by omega);have:=h4.2.1 (by omega);omega
  ·have:=h3.2.2 (by omega);have:=h4.2.2 (by omega);omega
theorem rD{o:List Int}{ds:List (List Int)}{p:List Int}(hf:Fld o ds)(hp:PI o ds p){s:Nat}(hs:s<o.length):Ev o ds p (s:Int) 1=some (rV ds p s):=by
 have hl:=hp.len;have ab:=hf.clients;have key:IA (p,(s:Int),(1:Int),o,ds) ((0:Int),(0:Int))=some (fJ ds p s p.length):=by
  obtain⟨r,h1,h2⟩:=aJ (f:=λv=>(EF (p,(s:Int),(1:Int),o,ds) v).ev) (n:=p.length) (λi (a:Int)=>(a,(i:Int))) (λi a=>a=fJ ds p s i) (λr=>r=fJ ds p s p.length) (s0:=0) rfl
   (λi a hi ha=>by
    subst ha;left;have aa:i<ds.length:=by omega
    have hr:=hf.rowLen i aa;have h1:=hp.val hf aa;have h2:=hf.at2 aa hs;have h3:=mJ hp hf hs i (by omega);have h4:=(jE (ds:=ds) (p:=p) (s:=s) i).1;have e3:(ds.getD i []).getD s 0=at2 ds i s:=rfl;have h5:=mJ hp hf hs (i+1) (by omega);have h6:=(jE (ds:=ds) (p:=p) (s:=s) (i+1)).1;rw[fJ]at h5 h6;refine⟨_,?_,rfl⟩;simp(disch:=omega)only[EV,EF,hi,aa,hr,hs,e3,tU,Int.one_mul,Ft];rfl)
   (λa ha=>⟨a,by simp(disch:=omega)only[EV,EF,xj],ha⟩)
  exact h1.trans (congrArg some h2)
 unfold Ev Xd rV;rw[hl]at key;simp(disch:=omega)only[EV,key]
theorem Ii{o:List Int}{ds:List (List Int)}{p:List Int}(hf:Fld o ds)(hp:PI o ds p){c:Nat}(hc:c<ds.length):∃g,HM o ds p (c:Int)=some g/\IsMin o.length (kI o ds p c) g:=by
 have hl:=hp.len;have ae:c<p.length:=by omega
 have ah:=hf.pos;have hlen:=hf.len;have hr:=hf.rowLen c hc;have h1:=hp.val hf hc;obtain⟨r,k1,k2⟩:=aJ (f:=λv=>(Wb (p,(c:Int),p.getD c 0,o,ds) v).ev) (n:=o.length) (λi (a:Int)=>(a,(i:Int))) (λi a=>RM i (λ_=>True) (kI o ds p c) a) (λr=>RM o.length (λ_=>True) (kI o ds p c) r) (s0:= -1) (RM.zero _ _)
  (λi a hi ha=>by
   left;have h2:=hf.at2 hc hi;have h3:=hf.cost i hi;have h4:=mJ hp hf hi ds.length (xp _);have h5:=(jE (ds:=ds) (p:=p) (s:=i) ds.length).1;have h6:rV ds p i=fJ ds p i ds.length:=rfl;have h7:=hf.clients;have e3:(ds.getD c []).getD i 0=at2 ds c i:=rfl;have hg:=Ho hp (c:=c) hi;by_cases hn:at2 ds c i<=p.getD c 0
   ·have ab:kI o ds p c i=o.getD i 0-rV ds p i:=by unfold kI;rw[qi hn]
    by_cases aa:a<0;·refine⟨kI o ds p c i,?_,ha.take trivial hg (.inl aa)⟩;rw[ab];simp(disch:=omega)only[EV,Wb,hi,hc,hr,e3,hn,rD hf hp hi,aa];rfl
    ·by_cases ad:o.getD i 0-rV ds p i<a;·refine⟨kI o ds p c i,?_,ha.take trivial hg (.inr (by rw[ab];exact ad))⟩;rw[ab];simp(disch:=omega)only[EV,Wb,hi,hc,hr,e3,hn,rD hf hp hi,aa,ad];rfl
     ·refine⟨a,?_,ha.keep aa (by rw[ab];exact ad)⟩;simp(disch:=omega)only[EV,Wb,hi,hc,hr,e3,hn,rD hf hp hi,aa,ad];rfl
   ·have ab:kI o ds p c i=at2 ds c i-p.getD c 0:=by unfold kI;rw[qh hn]
    by_cases aa:a<0;·refine⟨kI o ds p c i,?_,ha.take trivial hg (.inl aa)⟩;rw[ab];simp(disch:=omega)only[EV,Wb,hi,hc,hr,e3,hn,aa];rfl
    ·by_cases ad:at2 ds c i-p.getD c 0<a;·refine⟨kI o ds p c i,?_,ha.take trivial hg (.inr (by rw[ab];exact ad))⟩;rw[ab];simp(disch:=omega)only[EV,Wb,hi,hc,hr,e3,hn,aa,ad];rfl
     ·refine⟨a,?_,ha.keep aa (by rw[ab];exact ad)⟩;simp(disch:=omega)only[EV,Wb,hi,hc,hr,e3,hn,aa,ad];rfl)
  (λa ha=>⟨a,by simp(disch:=omega)only[EV,Wb,xj],ha⟩)
 have af:aEs (p,(c:Int),p.getD c 0,o,ds) ((-1:Int),(0:Int))=some r:=k1;refine⟨r,?_,?_⟩;·unfold HM XC;simp(disch:=omega)only[EV,ae,af]
 ·rcases k2 with⟨_,h⟩|⟨_,h,s,a,_,b⟩
  ·exact absurd trivial (h 0 (by omega))
  ·exact⟨λs hs=>h s hs trivial,s,a,b⟩
theorem Ig{o:List Int}{ds:List (List Int)}{p:List Int}(hf:Fld o ds)(hp:PI o ds p):∃r,Bl o ds p 1=some r/\r.length=o.length/\∀s,s<o.length->r.getD s 0=rV ds p s:=by
 have hl:=hp.len;have ao:=hf.clients;have hlen:=hf.len;obtain⟨r,k1,k2⟩:=aJ (f:=λv=>(DO (p,(1:Int),ds,(ds.length:Int)) v).ev) (n:=ds.length) (λi (a:List Int)=>((i:Int),a)) (λi a=>a.length=o.length/\∀s,s<o.length->a.getD s 0=fJ ds p s i) (λr=>r.length=o.length/\∀s,s<o.length->r.getD s 0=rV ds p s) (s0:=List.replicate o.length 0)
  ⟨by simp,λs hs=>by rw[xe,PX,qi hs];rfl⟩
  (λc a hc ⟨ah,ai⟩=>by
   left;have hr:=hf.rowLen c hc;have aj:c<p.length:=by omega
   have h1:=hp.val hf hc;obtain⟨b,j1,j2⟩:=aJ (f:=λv=>(LM (p,(1:Int),(c:Int),ds,(ds.length:Int),(c:Int),ds.getD c [],((ds.getD c []).length:Int)) v).ev) (n:=(ds.getD c []).length) (λi (a:List Int)=>((i:Int),a)) (λi a=>a.length=o.length/\∀s,s<o.length->a.getD s 0=if s<i then fJ ds p s (c+1)else fJ ds p s c) (λr=>r.length=o.length/\∀s,s<o.length->r.getD s 0=fJ ds p s (c+1)) (s0:=a)
    ⟨ah,λs hs=>by rw[qh (by omega)];exact ai s hs⟩
    (λi a hi ⟨ad,aa⟩=>by
     left;have ab:i<o.length:=by omega
     have ae:i<a.length:=by omega
     have h2:=hf.at2 hc ab;have h3:=mJ hp hf ab c (by omega);have h4:=(jE (ds:=ds) (p:=p) (s:=i) c).1;have h5:=mJ hp hf ab (c+1) (by omega);have h6:=(jE (ds:=ds) (p:=p) (s:=i) (c+1)).1;have e3:(ds.getD c []).getD i 0=at2 ds c i:=rfl;have e4:a.getD i 0=fJ ds p i c:=by rw[aa i ab,qh (by omega)]
     have e5:(if(0:Int)<p.getD c 0-at2 ds c i then p.getD c 0-at2 ds c i else 0)=pos (p.getD c 0-at2 ds c i):=rfl;rw[fJ]at h5 h6;refine⟨a.set i (fJ ds p i (c+1)),?_,by rw[F0];exact ad,λs hs=>?_⟩;·simp(disch:=omega)only[EV,LM,hi,ae,aj,e3,e4,Int.mul_one,e5];rfl
     ·rw[cY a ae];by_cases af:i=s;·subst af;rw[qi rfl,qi (by omega)]
      ·rw[qh af,aa s hs];by_cases h:s<i;·rw[qi h,qi (by omega)]
       ·rw[qh h,qh (by omega)])
    (λa ⟨ad,aa⟩=>⟨a,by simp(disch:=omega)only[EV,LM,xj],ad,λs hs=>by rw[aa s hs,qi (by omega)]⟩)
   have ak:HQ (p,(1:Int),(c:Int),ds,(ds.length:Int),(c:Int),ds.getD c [],((ds.getD c []).length:Int)) ((0:Int),a)=some b:=j1;refine⟨b,?_,j2⟩;simp(disch:=omega)only[EV,DO,hc,ak];rfl)
  (λa ha=>⟨a,by simp(disch:=omega)only[EV,DO,xj],ha⟩)
 have al:OP (p,(1:Int),ds,(ds.length:Int)) ((0:Int),List.replicate o.length 0)=some r:=k1;refine⟨r,?_,k2⟩;unfold Bl AG;have e1:(0:Int)<=(o.length:Int):=by omega
 have e2:((8:Nat):Int)*(o.length:Int)<=281474976710656:=by omega
 simp(disch:=omega)only[EV,e1,e2,w7,al]
theorem Pi{o:List Int}{ds:List (List Int)}{p:List Int}(hf:Fld o ds)(hp:PI o ds p):∃r,VW o ds p=some r/\r.length=o.length/\∀s,s<o.length->r.getD s 0=o.getD s 0-rV ds p s:=by
 have hlen:=hf.len;have ai:=hf.clients;obtain⟨q,q1,q2,q3⟩:=Ig hf hp;obtain⟨r,k1,k2⟩:=aJ (f:=λv=>(wyj ((q.length:Int),o,ds) v).ev) (n:=q.length) (λi (a:List Int)=>((i:Int),a)) (λi a=>a.length=o.length/\∀s,s<o.length->a.getD s 0=if s<i then o.getD s 0-rV ds p s else rV ds p s) (λr=>r.length=o.length/\∀s,s<o.length->r.getD s 0=o.getD s 0-rV ds p s) (s0:=q)
  ⟨q2,λs hs=>by rw[qh (by omega)];exact q3 s hs⟩
  (λi a hi ⟨ad,aa⟩=>by
   left;have ab:i<o.length:=by omega
   have ae:i<a.length:=by omega
   have h3:=mJ hp hf ab ds.length (xp _);have h4:=(jE (ds:=ds) (p:=p) (s:=i) ds.length).1;have h5:=hf.cost i ab;have h6:rV ds p i=fJ ds p i ds.length:=rfl;have e4:a.getD i 0=rV ds p i:=by rw[aa i ab,qh (by omega)]
   refine⟨a.set i (o.getD i 0-rV ds p i),?_,by rw[F0];exact ad,λs hs=>?_⟩;·simp(disch:=omega)only[EV,wyj,hi,ae,ab,e4];rfl
   ·rw[cY a ae];by_cases af:i=s;·subst af;rw[qi rfl,qi (by omega)]
    ·rw[qh af,aa s hs];by_cases h:s<i;·rw[qi h,qi (by omega)]
     ·rw[qh h,qh (by omega)])
  (λa ⟨ad,aa⟩=>⟨a,by simp(disch:=omega)only[EV,wyj,xj],ad,λs hs=>by rw[aa s hs,qi (by omega)]⟩)
 have ah:aBP ((q.length:Int),o,ds) ((0:Int),q)=some r:=k1;refine⟨r,?_,k2⟩;unfold VW JG;simp(disch:=omega)only[EV,q1,ah]
def dA(p:Nat->Prop)[DecidablePred p]:Nat->Nat
 |0=>0
 |k+1=>dA p k+if p k then 1 else 0
theorem sS{p q:Nat->Prop}[DecidablePred p][DecidablePred q]:∀{n:Nat},(∀i,i<n->p i->q i)->dA p n<=dA q n
 |0,_=>xp _
 |n+1,h=>by
  have h1:=sS (n:=n) λi hi=>h i (by omega);have h2:=h n (by omega);unfold dA;by_cases hp:p n;·rw[qi hp,qi (h2 hp)];omega
  ·rw[qh hp];omega
theorem H9{p q:Nat->Prop}[DecidablePred p][DecidablePred q]:∀{n:Nat},(∀i,i<n->p i->q i)->(∃i,i<n/\q i/\¬p i)->dA p n<dA q n
 |0,_,⟨_,h,_⟩=>absurd h (by omega)
 |n+1,h,⟨i,hi,hq,hp⟩=>by
  unfold dA;by_cases e:i=n;·subst e;have h1:=sS (n:=i) λj hj=>h j (by omega);rw[qh hp,qi hq];omega
  ·have h1:=H9 (n:=n) (λj hj=>h j (by omega)) ⟨i,by omega,hq,hp⟩;have h2:=h n (by omega);by_cases hp:p n;·rw[qi hp,qi (h2 hp)];omega
   ·rw[qh hp];omega
theorem cntN_pos{p:Nat->Prop}[DecidablePred p]{n:Nat}:0<dA p n↔∃i,i<n/\p i:=by
 induction n with
 |zero=>simp[dA]
 |succ n ih=>
  unfold dA;constructor
  ·intro h;by_cases hp:p n;·exact⟨n,by omega,hp⟩
   ·rw[qh hp]at h;obtain⟨i,h1,h2⟩:=ih.1 (by omega);exact⟨i,by omega,h2⟩
  ·rintro⟨i,h1,h2⟩;by_cases e:i=n;·subst e;rw[qi h2];omega
   ·have:=ih.2 ⟨i,by omega,h2⟩;omega
theorem eZ(p:Nat->Prop)[DecidablePred p]:∀n,dA p n<=n
 |0=>xp _
 |n+1=>by have:=eZ p n;unfold dA;split<;>omega
def dB(ds:List (List Int))(i a:Nat):Int:=at2 ds i a*2520
def kM(o:List Int)(a:Nat):Int:=o.getD a 0*2520
def eU(ds:List (List Int))(p:List Int)(a:Nat):Nat->Int
 |0=>0
 |k+1=>eU ds p a k+pos (p.getD k 0-dB ds k a)
def iQ(ds:List (List Int))(p:List Int)(a:Nat):Int:=eU ds p a ds.length
def gP(ds:List (List Int))(w p:List Int)(now:Int):List Int:=(List.range ds.length).map λi=>if w.getD i 0<0 then now else p.getD i 0
def gT(o:List Int)(ds:List (List Int))(p tm:List Int)(now:Int):List Int:=(List.range o.length).map λa=>if tm.getD a 0<0/\kM o a<=iQ ds p a then now else tm.getD a 0
def gB(ds:List (List Int))(tm:List Int)(now:Int)(i:Nat):Nat->Int
 |0=> -1
 |a+1=>if 0<=tm.getD a 0/\dB ds i a<=now/\(gB ds tm now i a<0\/tm.getD a 0<tm.getD (gB ds tm now i a).toNat 0)then(a:Int)else gB ds tm now i a
def gW(o:List Int)(ds:List (List Int))(tm w:List Int)(now:Int):List Int:=(List.range ds.length).map λi=>if w.getD i 0<0 then gB ds tm now i o.length else w.getD i 0
def qA(ds:List (List Int))(w:List Int)(now:Int)(a k:Nat):Nat:=dA (λi=>w.getD i 0<0/\dB ds i a<=now) k
def aQ(ds:List (List Int))(w:List Int)(now:Int)(a:Nat):Nat:=qA ds w now a ds.length
def gC1(o:List Int)(ds:List (List Int))(w:List Int)(now t:Int):Prop:=∃i,i<ds.length/\∃a,a<o.length/\w.getD i 0<0/\now<dB ds i a/\t=dB ds i a
def gC2(o:List Int)(ds:List (List Int))(p tm w:List Int)(now t:Int):Prop:=∃a,a<o.length/\tm.getD a 0<0/\0<aQ ds w now a/\t=now+(kM o a-iQ ds p a+(aQ ds w now a:Int) -1) / (aQ ds w now a:Int)
def gC(o:List Int)(ds:List (List Int))(p tm w:List Int)(now t:Int):Prop:=gC1 o ds w now t\/gC2 o ds p tm w now t
theorem jQ{n:Nat}{f:Nat->Int}{i:Nat}(h:i<n):((List.range n).map f).getD i 0=f i:=by rw[xe,mY,Qe h];rfl
theorem fR{ds:List (List Int)}{w p:List Int}{now:Int}{i:Nat}(h:i<ds.length):(gP ds w p now).getD i 0=if w.getD i 0<0 then now else p.getD i 0:=jQ h
theorem pS{o:List Int}{ds:List (List Int)}{p tm:List Int}{now:Int}{a:Nat}(h:a<o.length):(gT o ds p tm now).getD a 0=if tm.getD a 0<0/\kM o a<=iQ ds p a then now else tm.getD a 0:=jQ h
theorem pH{o:List Int}{ds:List (List Int)}{tm w:List Int}{now:Int}{i:Nat}(h:i<ds.length):(gW o ds tm w now).getD i 0=if w.getD i 0<0 then gB ds tm now i o.length else w.getD i 0:=jQ h
theorem yI{ds:List (List Int)}{tm:List Int}{now:Int}{i:Nat}:∀n:Nat,(gB ds tm now i n= -1/\∀a,a<n->¬(0<=tm.getD a 0/\dB ds i a<=now))\/(0<=gB ds tm now i n/\gB ds tm now i n<n/\0<=tm.getD (gB ds tm now i n).toNat 0)
 |0=>.inl ⟨rfl,λa h=>absurd h (by omega)⟩
 |n+1=>by
  have ih:=yI (ds:=ds) (tm:=tm) (now:=now) (i:=i) n;rw[gB];by_cases hc:0<=tm.getD n 0/\dB ds i n<=now/\(gB ds tm now i n<0\/tm.getD n 0<tm.getD (gB ds tm now i n).toNat 0)
  ·rw[qi hc];exact .inr ⟨by omega,by omega,hc.1⟩
  ·rw[qh hc];rcases ih with⟨h1,h2⟩|⟨h1,h2,h3⟩
   ·exact .inl ⟨h1,all_succ.2 ⟨h2,λh=>hc ⟨h.1,h.2,.inl (by omega)⟩⟩⟩
   ·exact .inr ⟨h1,by omega,h3⟩
structure GI(o:List Int)(ds:List (List Int))(p tm w:List Int)(now:Int):Prop where
 pl:p.length=ds.length
 tl:tm.length=o.length
 wl:w.length=ds.length
 n0:0<=now
 n1:now<=498960
 wi:∀i,i<ds.length->w.getD i 0= -1\/(0<=w.getD i 0/\w.getD i 0<o.length/\0<=p.getD i 0/\p.getD i 0<now)
 ti:∀a,a<o.length->tm.getD a 0= -1\/(0<=tm.getD a 0/\tm.getD a 0<now)
theorem vC{o:List Int}{ds:List (List Int)}(hf:Fld o ds){i a:Nat}(hi:i<ds.length)(ha:a<o.length):0<=dB ds i a/\dB ds i a<=249480:=by have:=hf.at2 hi ha;unfold dB;omega
theorem G8{o:List Int}{ds:List (List Int)}(hf:Fld o ds){a:Nat}(ha:a<o.length):0<=kM o a/\kM o a<=249480:=by have:=hf.cost a ha;unfold kM;omega
theorem Up{x y:Int}(h:x<=y):pos x<=pos y:=by
 have h1:=dJ x;have h2:=dJ y;by_cases h0:0<=x;·have:=h1.2.1 h0;have:=h2.2.1 (by omega);omega
 ·have:=h1.2.2 (by omega);omega
theorem kU{o:List Int}{ds:List (List Int)}{p:List Int}(hf:Fld o ds)(hp:∀i,i<ds.length->p.getD i 0<=498960){a:Nat}(ha:a<o.length):∀k,k<=ds.length->0<=eU ds p a k/\eU ds p a k<=498960*k/\∀c,c<k->pos (p.getD c 0-dB ds c a)<=eU ds p a k
 |0,_=>⟨w7 _,by simp[eU],λc h=>absurd h (by omega)⟩
 |k+1,hk=>by
  obtain⟨h1,h2,h3⟩:=kU hf hp ha k (by omega);have h4:=dJ (p.getD k 0-dB ds k a);have h5:=hp k (by omega);have h6:=vC hf (show k<ds.length by omega) ha;have h7:pos (p.getD k 0-dB ds k a)<=498960:=by
   by_cases h0:0<=p.getD k 0-dB ds k a;·have:=h4.2.1 h0;omega
   ·have:=h4.2.2 (by omega);omega
  rw[eU];exact⟨by omega,by omega,all_succ.2 ⟨λc hc=>by have:=h3 c hc;omega,by omega⟩⟩
theorem GI.price{o:List Int}{ds:List (List Int)}{p tm w:List Int}{now:Int}(h:GI o ds p tm w now){i:Nat}(hi:i<ds.length):0<=(gP ds w p now).getD i 0/\(gP ds w p now).getD i 0<=now/\((gP ds w p now).getD i 0=now↔w.getD i 0<0):=by
 rw[fR hi];have h0:=h.n0;rcases h.wi i hi with h1|⟨h1,_,h2,h3⟩
 ·rw[qi (by omega)];exact⟨h0,w7 _,λ_=>by omega,λ_=>rfl⟩
 ·rw[qh (by omega)];exact⟨h2,by omega,λ_=>by omega,λ_=>by omega⟩
section
variable {o:List Int}{ds:List (List Int)}{p tm w:List Int}{now:Int}
theorem GI.on(_h:GI o ds p tm w now){i:Nat}(hi:i<ds.length)(hw:(gW o ds (gT o ds (gP ds w p now) tm now) w now).getD i 0<0):w.getD i 0<0/\∀a,a<o.length->dB ds i a<=now->(gT o ds (gP ds w p now) tm now).getD a 0<0:=by
 rw[pH hi]at hw;by_cases h0:w.getD i 0<0
 ·rw[qi h0]at hw;refine⟨h0,λa ha hl=>?_⟩;rcases yI (ds:=ds) (tm:=gT o ds (gP ds w p now) tm now) (now:=now) (i:=i) o.length with⟨_,h2⟩|⟨h1,_⟩
  ·have:=h2 a ha;by_cases hx:0<=(gT o ds (gP ds w p now) tm now).getD a 0;·exact absurd ⟨hx,hl⟩ this
   ·omega
  ·omega
 ·rw[qh h0]at hw;exact absurd hw h0
theorem GI.tight(h:GI o ds p tm w now){a:Nat}(ha:a<o.length)(ht:(gT o ds (gP ds w p now) tm now).getD a 0<0):tm.getD a 0<0/\iQ ds (gP ds w p now) a<kM o a:=by
 have h0:=h.n0;rw[pS ha]at ht;by_cases hc:tm.getD a 0<0/\kM o a<=iQ ds (gP ds w p now) a;·rw[qi hc]at ht;omega
 ·rw[qh hc]at ht;exact⟨ht,by
   by_cases hx:kM o a<=iQ ds (gP ds w p now) a;·exact absurd ⟨ht,hx⟩ hc
   ·omega⟩
theorem xC{x:Int}{k:Nat}(hx:0<x)(hk:0<k):0<(x+(k:Int) -1) / (k:Int)/\(x+(k:Int) -1) / (k:Int)<=x/\x<=(k:Int)*((x+(k:Int) -1) / (k:Int)):=by
 have h1:=Int.emod_add_mul_ediv (x+(k:Int) -1) (k:Int);have h2:=Int.emod_lt_of_pos (x+(k:Int) -1) (show(0:Int)<k by omega);have h3:=Int.emod_nonneg (x+(k:Int) -1) (show(k:Int)≠0 by omega);generalize hq:(x+(k:Int) -1) / (k:Int)=q at*;generalize(x+(k:Int) -1) % (k:Int)=r at*;have h4:0<q:=by
  by_cases aa:0<q;·exact aa
  ·have:(k:Int)*q<=(k:Int)*0:=YZ (by omega) (by omega);omega
 refine⟨h4,?_,by omega⟩;have h5:(k:Int)*q=q+((k:Int) -1)*q:=by rw[Int.sub_mul];omega
 have h6:((k:Int) -1)*1<=((k:Int) -1)*q:=YZ (by omega) (by omega);omega
theorem GI.later(hf:Fld o ds)(h:GI o ds p tm w now){t:Int}(ht:gC o ds (gP ds w p now) (gT o ds (gP ds w p now) tm now) (gW o ds (gT o ds (gP ds w p now) tm now) w now) now t):now<t/\t<=498960:=by
 rcases ht with⟨i,hi,a,ha,_,h1,rfl⟩|⟨a,ha,h1,h2,rfl⟩
 ·have:=vC hf hi ha;exact⟨h1,by omega⟩
 ·obtain⟨_,h3⟩:=h.tight ha h1;obtain⟨i,hi,h4,h5⟩:=cntN_pos.1 h2;obtain⟨h6,_⟩:=h.on hi h4;have h7:=xC (x:=kM o a-iQ ds (gP ds w p now) a) (by omega) h2;have h8:=G8 hf ha;have h9:=vC hf hi ha;have aa:=(kU (p:=gP ds w p now) hf (λi hi=>by have:=(h.price hi).2.1;have:=h.n1;omega) ha ds.length (xp _)).2.2 i hi;have ab:=(h.price hi).2.2.2 h6;rw[ab]at aa;have ad:=(dJ (now-dB ds i a)).2.1 (by omega);unfold iQ at h7 h3⊢;omega
theorem GI.some(hf:Fld o ds)(h:GI o ds p tm w now){i:Nat}(hi:i<ds.length)(hw:(gW o ds (gT o ds (gP ds w p now) tm now) w now).getD i 0<0):∃t,gC o ds (gP ds w p now) (gT o ds (gP ds w p now) tm now) (gW o ds (gT o ds (gP ds w p now) tm now) w now) now t:=by
 have ha:0<o.length:=by have:=hf.pos;omega
 obtain⟨_,h2⟩:=h.on hi hw;by_cases hl:dB ds i 0<=now;·exact⟨_,.inr ⟨0,ha,h2 0 ha hl,cntN_pos.2 ⟨i,hi,hw,hl⟩,rfl⟩⟩
 ·exact⟨_,.inl ⟨i,hi,0,ha,hw,by omega,rfl⟩⟩
def gL(o:List Int)(ds:List (List Int))(now:Int):Nat:=dA (λx=>now<dB ds (x/ o.length) (x % o.length)) (ds.length*o.length)
def gM(o:List Int)(ds:List (List Int))(p tm w:List Int)(now:Int):Nat:=gL o ds now+dA (λa=>(gT o ds (gP ds w p now) tm now).getD a 0<0) o.length
theorem E4{p q:List Int}{a:Nat}{d:Int}(hd:0<=d){w:List Int}:∀k,k<=ds.length->(∀i,i<ds.length->p.getD i 0<=q.getD i 0)->(∀i,i<ds.length->w.getD i 0<0->q.getD i 0=p.getD i 0+d/\p.getD i 0=now)->eU ds p a k+(qA ds w now a k:Int)*d<=eU ds q a k
 |0,_,_,_=>by simp[eU,qA,dA]
 |k+1,hk,h1,h2=>by
  have ih:=E4 hd k (by omega) h1 h2 (a:=a);have h3:=Up (x:=p.getD k 0-dB ds k a) (y:=q.getD k 0-dB ds k a) (by have:=h1 k (by omega);omega);rw[eU,eU];unfold qA at ih⊢;rw[dA];by_cases hc:w.getD k 0<0/\dB ds k a<=now;·rw[qi hc];obtain⟨h4,h5⟩:=h2 k (by omega) hc.1;have h6:=(dJ (p.getD k 0-dB ds k a)).2.1 (by omega);have h7:=(dJ (q.getD k 0-dB ds k a)).2.1 (by omega);rw[xfe,xhi];simp only[Int.natCast_one,Int.one_mul];omega
  ·rw[qh hc,wY];omega
theorem GI.next(hf:Fld o ds)(h:GI o ds p tm w now){t:Int}(ht:gC o ds (gP ds w p now) (gT o ds (gP ds w p now) tm now) (gW o ds (gT o ds (gP ds w p now) tm now) w now) now t):
  GI o ds (gP ds w p now) (gT o ds (gP ds w p now) tm now) (gW o ds (gT o ds (gP ds w p now) tm now) w now) t/\
  gM o ds (gP ds w p now) (gT o ds (gP ds w p now) tm now) (gW o ds (gT o ds (gP ds w p now) tm now) w now) t<gM o ds p tm w now:=by
 obtain⟨l1,l2⟩:=h.later hf ht;have h0:=h.n0;have g:GI o ds (gP ds w p now) (gT o ds (gP ds w p now) tm now) (gW o ds (gT o ds (gP ds w p now) tm now) w now) t:=by
  refine⟨by simp[gP],by simp[gT],by simp[gW],by omega,l2,λi hi=>?_,λa ha=>?_⟩
  ·obtain⟨h1,h2,h3⟩:=h.price hi;rw[pH hi];rcases h.wi i hi with h4|⟨h4,h5,_⟩
   ·rw[qi (by omega)];rcases yI (ds:=ds) (tm:=gT o ds (gP ds w p now) tm now) (now:=now) (i:=i) o.length with⟨k1,_⟩|⟨k1,k2,_⟩
    ·exact .inl k1
    ·exact .inr ⟨k1,k2,h1,by omega⟩
   ·rw[qh (by omega)];exact .inr ⟨h4,h5,h1,by omega⟩
  ·rw[pS ha];split;·exact .inr ⟨h0,l1⟩
   ·rcases h.ti a ha with h1|⟨h1,h2⟩
    ·exact .inl h1
    ·exact .inr ⟨h1,by omega⟩
 refine⟨g,?_⟩;unfold gM;have e1:gL o ds t<=gL o ds now:=sS λx _ hx=>by omega
 have e2:dA (λa=>(gT o ds (gP ds (gW o ds (gT o ds (gP ds w p now) tm now) w now) (gP ds w p now) t) (gT o ds (gP ds w p now) tm now) t).getD a 0<0) o.length<=dA (λa=>(gT o ds (gP ds w p now) tm now).getD a 0<0) o.length:=sS λa ha hx=>(g.tight ha hx).1;rcases ht with⟨i,hi,a,ha,k1,k2,k3⟩|⟨a,ha,k1,k2,k3⟩
 ·have:gL o ds t<gL o ds now:=H9 (λx _ hx=>by omega) ⟨i*o.length+a,by
   have:(i+1)*o.length<=ds.length*o.length:=Wf _ (by omega);rw[o6]at this;omega,by
   have e1:(i*o.length+a) / o.length=i:=by rw[xha,Nat.mul_add_div (by omega),Nat.div_eq_of_lt ha,wY]
   have e2:(i*o.length+a) % o.length=a:=by rw[xha,Nat.mul_add_mod,xgv ha]
   simp only[e1,e2];omega⟩
  omega
 ·have:dA (λa=>(gT o ds (gP ds (gW o ds (gT o ds (gP ds w p now) tm now) w now) (gP ds w p now) t) (gT o ds (gP ds w p now) tm now) t).getD a 0<0) o.length<dA (λa=>(gT o ds (gP ds w p now) tm now).getD a 0<0) o.length:=H9 (λa ha hx=>(g.tight ha hx).1) ⟨a,ha,k1,λhx=>by
   obtain⟨_,k4⟩:=g.tight ha hx;obtain⟨_,k5⟩:=h.tight ha k1;have k6:=E4 (ds:=ds) (now:=now) (p:=gP ds w p now) (q:=gP ds (gW o ds (gT o ds (gP ds w p now) tm now) w now) (gP ds w p now) t) (a:=a) (d:=t-now) (by omega) (w:=gW o ds (gT o ds (gP ds w p now) tm now) w now) ds.length (xp _) (λi hi=>by
    have:=(h.price hi).2.1;rw[fR (w:=gW o ds (gT o ds (gP ds w p now) tm now) w now) hi];split<;>omega) (λi hi hw=>by
    have:=(h.price hi).2.2.2 (h.on hi hw).1;rw[fR (w:=gW o ds (gT o ds (gP ds w p now) tm now) w now) hi,qi hw];omega)
   have k7:=(xC (x:=kM o a-iQ ds (gP ds w p now) a) (by omega) k2).2.2;have k8:(aQ ds (gW o ds (gT o ds (gP ds w p now) tm now) w now) now a:Int)*(t-now)=(aQ ds (gW o ds (gT o ds (gP ds w p now) tm now) w now) now a:Int)*((kM o a-iQ ds (gP ds w p now) a+(aQ ds (gW o ds (gT o ds (gP ds w p now) tm now) w now) now a:Int) -1) / (aQ ds (gW o ds (gT o ds (gP ds w p now) tm now) w now) now a:Int)):=by rw[k3];congr 1;omega
   have k9:eU ds (gP ds w p now) a ds.length+(aQ ds (gW o ds (gT o ds (gP ds w p now) tm now) w now) now a:Int)*(t-now)<=eU ds (gP ds (gW o ds (gT o ds (gP ds w p now) tm now) w now) (gP ds w p now) t) a ds.length:=k6;rw[k8]at k9;unfold iQ at k4 k5 k7 k9;omega⟩
  omega
end
theorem lX{a b:List Int}(hl:a.length=b.length)(h:∀i,i<b.length->a.getD i 0=b.getD i 0):a=b:=by
 apply xer;intro i;by_cases hi:i<b.length;·have:=h i hi;rw[xe,xe,xh (by omega),xh hi]at this;rw[xh (by omega),xh hi];exact congrArg some this
 ·rw[BF (by omega),BF (by omega)]
theorem oZ{f:(Int)×(List (Int))->Option (((Int)×(List (Int)))⊕(List (Int)))}{n:Nat}(g:Nat->Int){l r:List Int}(hl:l.length=n)(hr:r.length=n)(hg:∀i,i<n->r.getD i 0=g i)
  (hs:∀(i:Nat) (a:List Int),i<n->a.length=n->a.getD i 0=l.getD i 0->∃b,f ((i:Int),a)=some (.inl (((i+1:Nat):Int),b))/\b.length=n/\∀j,j<n->b.getD j 0=if i=j then g i else a.getD j 0)
  (he:∀a,f ((n:Int),a)=some (.inr a)):aC f ((0:Int),l)=some r:=by
 obtain⟨x,h1,h2⟩:=aJ (f:=f) (n:=n) (λi (a:List Int)=>((i:Int),a)) (λi a=>a.length=n/\∀j,j<n->a.getD j 0=if j<i then g j else l.getD j 0) (λx=>x=r) (s0:=l)
  ⟨hl,λj _=>by rw[qh (by omega)]⟩
  (λi a hi ⟨h1,h2⟩=>by
   left;obtain⟨b,k1,k2,k3⟩:=hs i a hi h1 (by rw[h2 i hi,qh (by omega)]);refine⟨b,k1,k2,λj hj=>?_⟩;rw[k3 j hj];by_cases e:i=j;·subst e;rw[qi rfl,qi (by omega)]
   ·rw[qh e,h2 j hj];by_cases h:j<i;·rw[qi h,qi (by omega)]
    ·rw[qh h,qh (by omega)])
  (λa ⟨h1,h2⟩=>⟨a,he a,lX (by omega) λj hj=>by rw[h2 j (by omega),qi (by omega),hg j (by omega)]⟩)
 rw[<-h2];exact h1
section
variable {o:List Int}{ds:List (List Int)}{p tm w:List Int}{now:Int}
theorem Bv(hf:Fld o ds)(hl:p.length=ds.length)(hp:∀i,i<ds.length->0<=p.getD i 0/\p.getD i 0<=498960):∃r,Bl o ds p 2520=some r/\r.length=o.length/\∀s,s<o.length->r.getD s 0=iQ ds p s:=by
 have aj:=hf.clients;have hlen:=hf.len;obtain⟨r,k1,k2⟩:=aJ (f:=λv=>(DO (p,(2520:Int),ds,(ds.length:Int)) v).ev) (n:=ds.length) (λi (a:List Int)=>((i:Int),a)) (λi a=>a.length=o.length/\∀s,s<o.length->a.getD s 0=eU ds p s i) (λr=>r.length=o.length/\∀s,s<o.length->r.getD s 0=iQ ds p s) (s0:=List.replicate o.length 0)
  ⟨by simp,λs hs=>by rw[xe,PX,qi hs];rfl⟩
  (λc a hc ⟨ab,ad⟩=>by
   left;have hr:=hf.rowLen c hc;have ae:c<p.length:=by omega
   have h1:=hp c hc;have af:HQ (p,(2520:Int),(c:Int),ds,(ds.length:Int),(c:Int),ds.getD c [],((ds.getD c []).length:Int)) ((0:Int),a)=some ((List.range o.length).map λs=>eU ds p s (c+1)):=by
    refine oZ (n:=o.length) (λs=>eU ds p s (c+1)) ab (by simp) (λi hi=>jQ hi) (λi b hi hb he=>?_) (λb=>?_)
    ·have h2:=hf.at2 hc hi;obtain⟨g1,g2,_⟩:=kU hf (λi hi=>(hp i hi).2) hi c (by omega);obtain⟨g3,g4,_⟩:=kU hf (λi hi=>(hp i hi).2) hi (c+1) (by omega);have e3:(ds.getD c []).getD i 0=at2 ds c i:=rfl;have e4:b.getD i 0=eU ds p i c:=by rw[he,ad i hi]
     have aa:i<b.length:=by omega
     have ah:i<(ds.getD c []).length:=by omega
     have e5:(if(0:Int)<p.getD c 0-at2 ds c i*2520 then p.getD c 0-at2 ds c i*2520 else 0)=pos (p.getD c 0-dB ds c i):=rfl;rw[eU]at g3 g4;refine⟨b.set i (eU ds p i (c+1)),?_,by rw[F0];exact hb,λj hj=>cY b aa j _⟩;simp(disch:=omega)only[EV,LM,hr,hi,aa,ah,ae,e3,e4,e5];rfl
    ·simp(disch:=omega)only[EV,LM,hr,xj]
   refine⟨_,?_,by simp,λs hs=>jQ hs⟩;simp(disch:=omega)only[EV,DO,hc,af];rfl)
  (λa ha=>⟨a,by simp(disch:=omega)only[EV,DO,xj],ha⟩)
 have ai:OP (p,(2520:Int),ds,(ds.length:Int)) ((0:Int),List.replicate o.length 0)=some r:=k1;refine⟨r,?_,k2⟩;unfold Bl AG;have e1:(0:Int)<=(o.length:Int):=by omega
 have e2:((8:Nat):Int)*(o.length:Int)<=281474976710656:=by omega
 simp(disch:=omega)only[EV,e1,e2,w7,ai]
theorem Z3(hf:Fld o ds){i a:Nat}(hi:i<ds.length)(ha:a<o.length):Qc (i:Int) (a:Int) o ds=some (dB ds i a):=by
 have h1:=hf.at2 hi ha;have hr:=hf.rowLen i hi;have e3:(ds.getD i []).getD a 0=at2 ds i a:=rfl;unfold Qc UH;have aa:a<(ds.getD i []).length:=by omega
 simp(disch:=omega)only[EV,hi,aa,e3];rfl
theorem RH(hf:Fld o ds)(h:GI o ds p tm w now)(x:Int):aAp (x,(ds.length:Int),o,ds,now,tm,w) ((0:Int),p)=some (gP ds w p now):=by
 have hw:=h.wl;have hm:=hf.clients;refine oZ (n:=ds.length) (λi=>if w.getD i 0<0 then now else p.getD i 0) h.pl (by simp[gP]) (λi hi=>fR hi) (λi b hi hb he=>?_) (λb=>?_)
 ·have aa:i<w.length:=by omega
  have ab:i<b.length:=by omega
  by_cases hc:w.getD i 0<0;·refine⟨b.set i now,?_,by rw[F0];exact hb,λj hj=>by rw[cY b ab,qi hc]⟩;simp(disch:=omega)only[EV,Ut,hi,aa,ab,hc,qi hc];rfl
  ·refine⟨b,?_,hb,λj hj=>?_⟩;·simp(disch:=omega)only[EV,Ut,hi,aa,hc,qh hc];rfl
   ·rw[qh hc];split
    next e=>subst e;exact he
    next=>rfl
 ·simp(disch:=omega)only[EV,Ut,xj]
theorem KY(hf:Fld o ds)(ad:tm.length=o.length){cl:List Int}(af:cl.length=o.length)(hc:∀s,s<o.length->cl.getD s 0=iQ ds p s)(x:Int)(y:List Int)(z:List Int):
  aHx (x,(o.length:Int),o,ds,now,cl,y,z) ((0:Int),tm)=some (gT o ds p tm now):=by
 have hlen:=hf.len;refine oZ (n:=o.length) (λa=>if tm.getD a 0<0/\kM o a<=iQ ds p a then now else tm.getD a 0) ad (by simp[gT]) (λa ha=>pS ha) (λi b hi hb he=>?_) (λb=>?_)
 ·have aa:i<b.length:=by omega
  have ab:i<cl.length:=by omega
  have ae:=hf.cost i hi;have e1:=hc i hi;have e2:o.getD i 0*2520=kM o i:=rfl;by_cases h1:tm.getD i 0<0
  ·by_cases h2:kM o i<=iQ ds p i;·refine⟨b.set i now,?_,by rw[F0];exact hb,λj hj=>by rw[cY b aa];simp only[qi (And.intro h1 h2)]⟩;simp(disch:=omega)only[EV,YT,hi,aa,ab,he,h1,e1,e2,h2];rfl
   ·refine⟨b,?_,hb,λj hj=>?_⟩;·simp(disch:=omega)only[EV,YT,hi,aa,ab,he,h1,e1,e2,h2];rfl
    ·rw[qh (show¬(tm.getD i 0<0/\kM o i<=iQ ds p i)from λq=>h2 q.2)];split
     next e=>subst e;exact he
     next=>rfl
  ·refine⟨b,?_,hb,λj hj=>?_⟩;·simp(disch:=omega)only[EV,YT,hi,aa,ab,he,h1];rfl
   ·rw[qh (show¬(tm.getD i 0<0/\kM o i<=iQ ds p i)from λq=>h1 q.1)];split
    next e=>subst e;exact he
    next=>rfl
 ·simp(disch:=omega)only[EV,YT,xj]
theorem Zj(hf:Fld o ds)(h:GI o ds p tm w now){t q:List Int}(ht:t.length=o.length)(hq:q.length=ds.length){i:Nat}(hi:i<ds.length)(af:q.getD i 0=now↔w.getD i 0<0){b:List Int}(hb:b.length=ds.length)(al:b.getD i 0=w.getD i 0)(x:Int)(y:Bool):
  aDL (x,y,(i:Int),(ds.length:Int),(i:Int),(o.length:Int),o,ds,now,t,q) ((0:Int),b)=some (b.set i (if w.getD i 0<0 then gB ds t now i o.length else w.getD i 0)):=by
 have hlen:=hf.len;have ah:i<b.length:=by omega
 have ab:i<q.length:=by omega
 obtain⟨r,k1,k2⟩:=aJ (f:=λv=>(Wh (x,y,(i:Int),(ds.length:Int),(i:Int),(o.length:Int),o,ds,now,t,q) v).ev) (n:=o.length) (λa (c:List Int)=>((a:Int),c)) (λa c=>c=b.set i (if w.getD i 0<0 then gB ds t now i a else w.getD i 0)) (λr=>r=b.set i (if w.getD i 0<0 then gB ds t now i o.length else w.getD i 0)) (s0:=b)
  (by
   have:(if w.getD i 0<0 then gB ds t now i 0 else w.getD i 0)=b.getD i 0:=by
    rw[al];rcases h.wi i hi with e|e;·rw[e];rfl
    ·rw[qh (by omega)]
   rw[this];exact(lX (by simp) λj hj=>by
    rw[cY b ah];split
    ·next e=>subst e;rfl
    ·rfl).symm)
  (λa c ha hc=>by
   left;refine⟨_,?_,rfl⟩;subst hc;have ad:a<t.length:=by omega
   have aa:∀v,((b.set i v).length=ds.length):=λv=>by rw[F0];exact hb
   have ae:∀v,(b.set i v).getD i 0=v:=λv=>by rw[cY b ah,qi rfl]
   have ai:∀v v':Int,(b.set i v).set i v'=b.set i v':=λv v'=>by rw[List.set_set]
   by_cases h0:w.getD i 0<0
   ·have e1:=af.2 h0;have eb:(now==now)=true:=qj now;have hl:=Z3 hf hi ha;have ao:=yI (ds:=ds) (tm:=t) (now:=now) (i:=i) a;rw[qi h0,qi h0,gB];generalize hB:gB ds t now i a=B at ao⊢;by_cases h1:0<=t.getD a 0
    ·by_cases h2:dB ds i a<=now
     ·by_cases h3:B<0;·rw[qi ⟨h1,h2,.inl h3⟩];simp(disch:=omega)only[EV,Wh,ha,ad,aa,hi,ab,e1,eb,h1,hl,h2,ae,h3,ai];rfl
      ·have aj:B.toNat<t.length:=by omega
       have ak:aB B t.length=true:=bM (by omega) (by omega);by_cases h4:t.getD a 0<t.getD B.toNat 0;·rw[qi ⟨h1,h2,.inr h4⟩];simp(disch:=omega)only[EV,Wh,ha,ad,aa,hi,ab,e1,eb,h1,hl,h2,ae,h3,ak,aj,h4,ai];rfl
       ·rw[qh (λq=>by rcases q.2.2 with q|q;exact h3 q;exact h4 q)];simp(disch:=omega)only[EV,Wh,ha,ad,aa,hi,ab,e1,eb,h1,hl,h2,ae,h3,ak,aj,h4];rfl
     ·rw[qh (λq=>h2 q.2.1)];simp(disch:=omega)only[EV,Wh,ha,ad,aa,hi,ab,e1,eb,h1,hl,h2];rfl
    ·rw[qh (λq=>h1 q.1)];simp(disch:=omega)only[EV,Wh,ha,ad,aa,hi,ab,e1,eb,h1];rfl
   ·have e1:(q.getD i 0==now)=false:=beq_eq_false_iff_ne.2 λe=>h0 (af.1 e);rw[qh h0,qh h0];simp(disch:=omega)only[EV,Wh,ha,ad,aa,hi,ab,e1];rfl)
  (λc hc=>⟨c,by unfold Wh;dsimp only;rw[qo,qd (BN _),qb,qq],hc⟩)
 rw[<-k2];exact k1
theorem FY(hf:Fld o ds)(h:GI o ds p tm w now){t q:List Int}(ht:t.length=o.length)(hq:q.length=ds.length)(ae:∀i,i<ds.length->(q.getD i 0=now↔w.getD i 0<0))(x:Int):
  ∃g,aBt (x,(ds.length:Int),o,ds,now,q,t) (false,(0:Int),w)=some (g,gW o ds t w now)/\(g=true↔∃i,i<ds.length/\(gW o ds t w now).getD i 0<0):=by
 obtain⟨⟨g,r⟩,k1,k2,k3⟩:=aJ (f:=λv=>(ZP (x,(ds.length:Int),o,ds,now,q,t) v).ev) (n:=ds.length) (λi (c:Bool×List Int)=>(c.1,(i:Int),c.2)) (λi c=>c.2.length=ds.length/\(∀j,j<ds.length->c.2.getD j 0=if j<i then(gW o ds t w now).getD j 0 else w.getD j 0)/\(c.1=true↔∃j,j<i/\(gW o ds t w now).getD j 0<0))
  (λr=>r.2=gW o ds t w now/\(r.1=true↔∃j,j<ds.length/\(gW o ds t w now).getD j 0<0)) (s0:=(false,w))
  ⟨h.wl,λj _=>by rw[qh (by omega)],by simp⟩
  (λi c hi ⟨c1,c2,c3⟩=>by
   left;have hm:=hf.clients;have e1:=Zj hf h ht hq hi (ae i hi) c1 (by rw[c2 i hi,qh (by omega)]) x c.1;have e2:(if w.getD i 0<0 then gB ds t now i o.length else w.getD i 0)=(gW o ds t w now).getD i 0:=(pH hi).symm;rw[e2]at e1;have aa:i<c.2.length:=by omega
   have e3:∀v,(c.2.set i v).getD i 0=v:=λv=>by rw[cY c.2 aa,qi rfl]
   have e4:∀v,(c.2.set i v).length=ds.length:=λv=>by rw[F0];exact c1
   refine⟨(c.1||decide ((gW o ds t w now).getD i 0<0),c.2.set i ((gW o ds t w now).getD i 0)),?_,e4 _,λj hj=>?_,?_⟩
   ·cases hc:c.1 with
    |true=>rw[hc]at e1;simp(disch:=omega)only[EV,ZP,hi,ht,e1];rfl
    |false=>rw[hc]at e1;simp(disch:=omega)only[EV,ZP,hi,ht,e1,e3,e4];rfl
   ·rw[cY c.2 aa];by_cases e:i=j;·subst e;rw[qi rfl,qi (by omega)]
    ·rw[qh e,c2 j hj];by_cases ab:j<i;·rw[qi ab,qi (by omega)]
     ·rw[qh ab,qh (by omega)]
   ·rw[M9,c3,qe];constructor
    ·rintro(⟨j,h1,h2⟩|h1);·exact⟨j,by omega,h2⟩
     ·exact⟨i,by omega,h1⟩
    ·rintro⟨j,h1,h2⟩;by_cases e:j=i;·subst e;exact .inr h2
     ·exact .inl ⟨j,by omega,h2⟩)
  (λc ⟨c1,c2,c3⟩=>⟨c,by simp(disch:=omega)only[EV,ZP,xj],lX (by simp[c1,gW]) λj hj=>by
   have ad:j<ds.length:=by simpa[gW]using hj
   rw[c2 j ad,qi ad],c3⟩)
 refine⟨g,?_,k3⟩;simp only at k2;rw[<-k2];exact k1
def NXT(now:Int)(C:Int->Prop)(x:Int):Prop:=(x= -1/\∀t,C t->¬now<t)\/(C x/\now<x/\∀t,C t->now<t->x<=t)
theorem NXT.eqv{C D:Int->Prop}{x:Int}(aa:∀t,C t↔D t)(h:NXT now C x):NXT now D x:=by
 rcases h with⟨h1,h2⟩|⟨h1,h2,h3⟩
 ·exact .inl ⟨h1,λt ht=>h2 t ((aa t).2 ht)⟩
 ·exact .inr ⟨(aa x).1 h1,h2,λt ht=>h3 t ((aa t).2 ht)⟩
theorem NXT.uniq{C:Int->Prop}{x y:Int}(h0:0<=now)(h1:NXT now C x)(h2:NXT now C y):x=y:=by
 rcases h1 with⟨a,b⟩|⟨a,b,c⟩<;>rcases h2 with⟨a',b'⟩|⟨a',b',c'⟩
 ·omega
 ·exact absurd b' (b y a')
 ·exact absurd b (b' x a)
 ·have:=c y a' b';have:=c' x a b;omega
theorem Aa(h0:0<=now){C:Int->Prop}{x:Int}(h:NXT now C x)(t:Int):∃y,AI t now x=some y/\NXT now (λu=>C u\/u=t) y:=by
 unfold AI HY;by_cases h1:now<t
 ·by_cases h2:x<0
  ·refine⟨t,by simp(disch:=omega)only[EV,h1,h2],.inr ⟨.inr rfl,h1,λu hu hn=>?_⟩⟩;rcases h with⟨_,h⟩|⟨_,h,_⟩
   ·rcases hu with hu|rfl;·exact absurd hn (h u hu)
    ·exact w7 _
   ·omega
  ·rcases h with⟨h,_⟩|⟨a,b,c⟩
   ·omega
   by_cases h3:t<x
   ·refine⟨t,by simp(disch:=omega)only[EV,h1,h2,h3],.inr ⟨.inr rfl,h1,λu hu hn=>?_⟩⟩;rcases hu with hu|rfl;·have:=c u hu hn;omega
    ·exact w7 _
   ·refine⟨x,by simp(disch:=omega)only[EV,h1,h2,h3],.inr ⟨.inl a,b,λu hu hn=>?_⟩⟩;rcases hu with hu|rfl;·exact c u hu hn
    ·omega
 ·refine⟨x,by simp(disch:=omega)only[EV,h1],?_⟩;rcases h with⟨a,b⟩|⟨a,b,c⟩
  ·exact .inl ⟨a,λu hu=>by
    rcases hu with hu|rfl;·exact b u hu
    ·exact h1⟩
  ·exact .inr ⟨.inl a,b,λu hu hn=>by
    rcases hu with hu|rfl;·exact c u hu hn
    ·exact absurd hn h1⟩
def gCa(o:List Int)(ds:List (List Int))(p tm w:List Int)(now:Int)(a:Nat)(t:Int):Prop:=
 (∃i,i<ds.length/\w.getD i 0<0/\t=dB ds i a)\/(tm.getD a 0<0/\0<aQ ds w now a/\t=now+(kM o a-iQ ds p a+(aQ ds w now a:Int) -1) / (aQ ds w now a:Int))
theorem CX(hf:Fld o ds)(h0:0<=now/\now<=498960){v cl q t:List Int}(hv:v.length=ds.length){a:Nat}(ha:a<o.length){C:Int->Prop}{x:Int}(hx:NXT now C x)(m:Int):
  ∃y,aFR (m,(a:Int),(o.length:Int),(a:Int),m,o,ds,now,cl,q,t,v) ((0:Int),(0:Int),x)=some ((aQ ds v now a:Int),y)/\NXT now (λu=>C u\/∃i,i<ds.length/\v.getD i 0<0/\u=dB ds i a) y\/m≠(ds.length:Int):=by
 by_cases hm:m=(ds.length:Int)
 ·subst hm;obtain⟨r,k1,k2⟩:=aJ (f:=λz=>(XR ((ds.length:Int),(a:Int),(o.length:Int),(a:Int),(ds.length:Int),o,ds,now,cl,q,t,v) z).ev) (n:=ds.length) (λi (c:Int×Int)=>(c.1,(i:Int),c.2)) (λi c=>c.1=(qA ds v now a i:Int)/\NXT now (λu=>C u\/∃j,j<i/\v.getD j 0<0/\u=dB ds j a) c.2)
   (λr=>r.1=(aQ ds v now a:Int)/\NXT now (λu=>C u\/∃j,j<ds.length/\v.getD j 0<0/\u=dB ds j a) r.2) (s0:=((0:Int),x))
   ⟨rfl,hx.eqv λu=>by simp⟩
   (λi c hi ⟨c1,c2⟩=>by
    left;have aa:i<v.length:=by omega
    have ad:=eZ (λj=>v.getD j 0<0/\dB ds j a<=now) i;have ae:=hf.clients;have e0:qA ds v now a i=dA (λj=>v.getD j 0<0/\dB ds j a<=now) i:=rfl;by_cases h1:0<=v.getD i 0
    ·refine⟨c,?_,?_,c2.eqv λu=>?_⟩;·simp(disch:=omega)only[EV,XR,hi,aa,h1];rfl
     ·rw[c1];unfold qA;rw[dA,qh (by omega)];rfl
     ·constructor
      ·rintro(h|⟨j,h2,h3⟩);·exact .inl h
       ·exact .inr ⟨j,by omega,h3⟩
      ·rintro(h|⟨j,h2,h3,h4⟩);·exact .inl h
       ·by_cases e:j=i;·subst e;omega
        ·exact .inr ⟨j,by omega,h3,h4⟩
    ·obtain⟨y,e2,hy⟩:=Aa h0.1 c2 (dB ds i a);have e1:=Z3 hf hi ha;have ab:NXT now (λu=>C u\/∃j,j<i+1/\v.getD j 0<0/\u=dB ds j a) y:=hy.eqv λu=>by
      constructor
      ·rintro((h|⟨j,h2,h3⟩)|h);·exact .inl h
       ·exact .inr ⟨j,by omega,h3⟩
       ·exact .inr ⟨i,by omega,by omega,h⟩
      ·rintro(h|⟨j,h2,h3,h4⟩);·exact .inl (.inl h)
       ·by_cases e:j=i;·subst e;exact .inr h4
        ·exact .inl (.inr ⟨j,by omega,h3,h4⟩)
     by_cases h2:dB ds i a<=now
     ·refine⟨(c.1+1,y),?_,?_,ab⟩
      ·have hb:c.1<=7:=by omega
       have hb0:0<=c.1:=by omega
       simp(disch:=omega)only[EV,XR,hi,aa,h1,e1,e2,h2];rfl
      ·simp only;rw[c1];unfold qA;rw[dA,qi ⟨by omega,h2⟩];rfl
     ·refine⟨(c.1,y),?_,?_,ab⟩;·simp(disch:=omega)only[EV,XR,hi,aa,h1,e1,e2,h2];rfl
      ·simp only;rw[c1];unfold qA;rw[dA,qh (λq=>h2 q.2)];rfl)
   (λc ⟨c1,c2⟩=>⟨c,by simp(disch:=omega)only[EV,XR,xj],c1,c2⟩)
  refine⟨r.2,.inl ⟨?_,k2.2⟩⟩;rw[<-k2.1];exact k1
 ·exact⟨0,.inr hm⟩
theorem XT(hf:Fld o ds)(h0:0<=now/\now<=498960){v cl q t:List Int}(hv:v.length=ds.length)(ht:t.length=o.length)(aj:cl.length=o.length)(hc:∀s,s<o.length->cl.getD s 0=iQ ds q s)(hq:∀i,i<ds.length->q.getD i 0<=498960)(ah:∀a,a<o.length->t.getD a 0<0->iQ ds q a<kM o a):
  ∃y,aGF ((ds.length:Int),(o.length:Int),o,ds,now,cl,q,t,v) ((0:Int),(-1:Int))=some y/\NXT now (λu=>∃a,a<o.length/\gCa o ds q t v now a u) y:=by
 have hlen:=hf.len;have ad:=hf.clients;obtain⟨r,k1,k2⟩:=aJ (f:=λz=>(PK ((ds.length:Int),(o.length:Int),o,ds,now,cl,q,t,v) z).ev) (n:=o.length) (λi (c:Int)=>((i:Int),c)) (λi c=>NXT now (λu=>∃a,a<i/\gCa o ds q t v now a u) c)
  (λr=>NXT now (λu=>∃a,a<o.length/\gCa o ds q t v now a u) r) (s0:=(-1:Int))
  (.inl ⟨rfl,λu ⟨a,h,_⟩=>absurd h (by omega)⟩)
  (λa c ha ab=>by
   left;obtain⟨y,e1|e1⟩:=CX hf h0 (cl:=cl) (q:=q) (t:=t) hv ha ab (ds.length:Int)
   ·obtain⟨e1,hy⟩:=e1;have ae:a<t.length:=by omega
    have af:a<cl.length:=by omega
    have ak:aQ ds v now a<=ds.length:=eZ _ _;by_cases h1:0<aQ ds v now a
    ·have aa:(0:Int)<(aQ ds v now a:Int):=by omega
     by_cases h2:t.getD a 0<0
     ·have h3:=ah a ha h2;have h4:=G8 hf ha;have h5:=(kU hf hq ha ds.length (xp _)).1;have al:0<=iQ ds q a:=h5;have h6:=xC (x:=kM o a-iQ ds q a) (by omega) h1;have ai:=hf.cost a ha;obtain⟨z,e2,hz⟩:=Aa h0.1 hy (now+(kM o a-iQ ds q a+(aQ ds v now a:Int) -1) / (aQ ds v now a:Int));refine⟨z,?_,hz.eqv λu=>?_⟩
      ·have e3:o.getD a 0*2520=kM o a:=rfl;have e4:=hc a ha;have e5:Int.tdiv (kM o a-iQ ds q a+(aQ ds v now a:Int) -1) (aQ ds v now a:Int)=(kM o a-iQ ds q a+(aQ ds v now a:Int) -1) / (aQ ds v now a:Int):=xet (by omega);have e6:¬(aQ ds v now a:Int)=0:=by omega
       simp(disch:=omega)only[EV,PK,ha,ae,af,e1,aa,h2,e6,e3,e4,e5,e2];rfl
      ·constructor
       ·rintro((⟨b,hb,h⟩|h)|h);·exact⟨b,by omega,h⟩
        ·exact⟨a,by omega,.inl h⟩
        ·exact⟨a,by omega,.inr ⟨h2,h1,h⟩⟩
       ·rintro⟨b,hb,h⟩;by_cases e:b=a
        ·subst e;rcases h with h|h;·exact .inl (.inr h)
         ·exact .inr h.2.2
        ·exact .inl (.inl ⟨b,by omega,h⟩)
     ·refine⟨y,?_,hy.eqv λu=>?_⟩;·simp(disch:=omega)only[EV,PK,ha,ae,af,e1,aa,h2];rfl
      ·constructor
       ·rintro(⟨b,hb,h⟩|h);·exact⟨b,by omega,h⟩
        ·exact⟨a,by omega,.inl h⟩
       ·rintro⟨b,hb,h⟩;by_cases e:b=a
        ·subst e;rcases h with h|h;·exact .inr h
         ·exact absurd h.1 h2
        ·exact .inl ⟨b,by omega,h⟩
    ·have aa:¬(0:Int)<(aQ ds v now a:Int):=by omega
     refine⟨y,?_,hy.eqv λu=>?_⟩;·simp(disch:=omega)only[EV,PK,ha,e1,aa];rfl
     ·constructor
      ·rintro(⟨b,hb,h⟩|h);·exact⟨b,by omega,h⟩
       ·exact⟨a,by omega,.inl h⟩
      ·rintro⟨b,hb,h⟩;by_cases e:b=a
       ·subst e;rcases h with h|h;·exact .inr h
        ·exact absurd h.2.1 h1
       ·exact .inl ⟨b,by omega,h⟩
   ·exact absurd rfl e1)
  (λc ab=>⟨c,by simp(disch:=omega)only[EV,PK,xj],ab⟩)
 exact⟨r,k1,k2⟩
structure GR(o:List Int)(ds:List (List Int))(g:List Int×List Int×List Int):Prop where
 pl:g.1.length=ds.length
 tl:g.2.1.length=o.length
 wl:g.2.2.length=ds.length
 ti:∀a,a<o.length-> -1<=g.2.1.getD a 0
def eS(o:List Int)(ds:List (List Int))(v:(Int)×(List (Int))×(List (Int))×(List (Int))):List Int×List Int×List Int:=
 let p1:=gP ds v.2.2.2 v.2.1 v.1
 let t1:=gT o ds p1 v.2.2.1 v.1
 (p1,t1,gW o ds t1 v.2.2.2 v.1)
theorem rJ(hf:Fld o ds)(h:GI o ds p tm w now):
  (∃t,(DT ((ds.length:Int),o,ds) (now,p,tm,w)).ev=some (.inl (t,eS o ds (now,p,tm,w)))/\gC o ds (eS o ds (now,p,tm,w)).1 (eS o ds (now,p,tm,w)).2.1 (eS o ds (now,p,tm,w)).2.2 now t/\
   (∀t',gC o ds (eS o ds (now,p,tm,w)).1 (eS o ds (now,p,tm,w)).2.1 (eS o ds (now,p,tm,w)).2.2 now t'->t<=t')/\∃i,i<ds.length/\(eS o ds (now,p,tm,w)).2.2.getD i 0<0)\/
  ((DT ((ds.length:Int),o,ds) (now,p,tm,w)).ev=some (.inr (eS o ds (now,p,tm,w)))/\∀i,i<ds.length->¬(eS o ds (now,p,tm,w)).2.2.getD i 0<0):=by
 have hp:∀i,i<ds.length->0<=(gP ds w p now).getD i 0/\(gP ds w p now).getD i 0<=498960:=λi hi=>by have:=h.price hi;have:=h.n1;omega
 obtain⟨cl,c1,c2,c3⟩:=Bv hf (p:=gP ds w p now) (by simp[gP]) hp;have e1:=RH hf h (ds.length:Int);have e2:=KY (p:=gP ds w p now) (now:=now) hf h.tl c2 c3 (ds.length:Int);obtain⟨g,e3,e4⟩:=FY hf h (t:=gT o ds (gP ds w p now) tm now) (q:=gP ds w p now) (by simp[gT]) (by simp[gP]) (λi hi=>(h.price hi).2.2) (ds.length:Int);cases hg:g with
 |false=>right;refine⟨?_,λi hi aa=>by have:=e4.2 ⟨i,hi,aa⟩;rw[hg]at this;cases this⟩;rw[hg]at e3;unfold DT;simp(disch:=omega)only[EV,e1,c1,c2,e2,e3];rfl
 |true=>
  left;rw[hg]at e3 e4;obtain⟨i,hi,aa⟩:=e4.1 rfl;obtain⟨y,e5,e6⟩:=XT hf ⟨h.n0,h.n1⟩ (v:=gW o ds (gT o ds (gP ds w p now) tm now) w now) (q:=gP ds w p now) (t:=gT o ds (gP ds w p now) tm now) (by simp[gW]) (by simp[gT]) c2 c3 (λi hi=>(hp i hi).2) (λa ha ae=>(h.tight ha ae).2);have ab:∀u,gC o ds (gP ds w p now) (gT o ds (gP ds w p now) tm now) (gW o ds (gT o ds (gP ds w p now) tm now) w now) now u->∃a,a<o.length/\gCa o ds (gP ds w p now) (gT o ds (gP ds w p now) tm now) (gW o ds (gT o ds (gP ds w p now) tm now) w now) now a u:=by
   rintro u (⟨i,h1,a,h2,h3,h4,h5⟩|⟨a,h1,h2⟩);·exact⟨a,h2,.inl ⟨i,h1,h3,h5⟩⟩
   ·exact⟨a,h1,.inr h2⟩
  have af:∀u,now<u->(∃a,a<o.length/\gCa o ds (gP ds w p now) (gT o ds (gP ds w p now) tm now) (gW o ds (gT o ds (gP ds w p now) tm now) w now) now a u)->gC o ds (gP ds w p now) (gT o ds (gP ds w p now) tm now) (gW o ds (gT o ds (gP ds w p now) tm now) w now) now u:=by
   rintro u hu ⟨a,h2,⟨i,h1,h3,h5⟩|h1⟩;·exact .inl ⟨i,h1,a,h2,h3,by omega,h5⟩
   ·exact .inr ⟨a,h2,h1⟩
  rcases e6 with⟨_,e6⟩|⟨e6,e7,e8⟩
  ·obtain⟨t,ht⟩:=h.some hf hi aa;exact absurd (h.later hf ht).1 (e6 t (ab t ht))
  ·refine⟨y,?_,af y e7 e6,λt' ad=>e8 t' (ab t' ad) (h.later hf ad).1,i,hi,aa⟩;unfold DT;simp(disch:=omega)only[EV,e1,c1,c2,e2,e3,e5];rfl
theorem GI.begin(hf:Fld o ds):GI o ds (List.replicate ds.length 0) (List.replicate o.length (-1)) (List.replicate ds.length (-1)) 0:=by
 have rep:∀(n:Nat) (x:Int) (i:Nat),i<n->(List.replicate n x).getD i 0=x:=λn x i hi=>by rw[xe,PX,qi hi];rfl
 exact⟨by simp,by simp,by simp,by omega,by omega,λi hi=>.inl (rep _ _ i hi),λa ha=>.inl (rep _ _ a ha)⟩
theorem Aw(hf:Fld o ds):∃g,V7 o ds=some g/\GR o ds g:=by
 have hlen:=hf.len;have ab:=hf.clients;obtain⟨r,k1,k2⟩:=Jq (f:=λv=>(DT ((ds.length:Int),o,ds) v).ev) (λv=>GI o ds v.2.1 v.2.2.1 v.2.2.2 v.1) (λv=>gM o ds v.2.1 v.2.2.1 v.2.2.2 v.1) (GR o ds) (λv hv=>by
  obtain⟨now,p,tm,w⟩:=v;simp only at hv;rcases rJ hf hv with⟨t,e1,e2,_,_⟩|⟨e1,_⟩
  ·simp only[e1];exact hv.next hf e2
  ·simp only[e1];refine⟨by simp[eS,gP],by simp[eS,gT],by simp[eS,gW],λa ha=>?_⟩;show-1<=(gT o ds (gP ds w p now) tm now).getD a 0;rw[pS ha];have:=hv.n0;have:=hv.ti a ha;split<;>omega) (v:=((0:Int),List.replicate ds.length 0,List.replicate o.length (-1),List.replicate ds.length (-1))) (GI.begin hf)
 have aa:wyv ((ds.length:Int),o,ds) ((0:Int),List.replicate ds.length 0,List.replicate o.length (-1),List.replicate ds.length (-1))=some r:=k1;refine⟨r,?_,k2⟩;have rep:∀n:Nat,n<=1000->In [(-1:Int)] (n:Int)=some (List.replicate n (-1)):=λn hn=>by unfold In;exact wH (by omega) (-1)
 have r1:=rep o.length (by omega);have r2:=rep ds.length (by omega);have e1:(0:Int)<=(ds.length:Int):=by omega
 have e2:((8:Nat):Int)*(ds.length:Int)<=281474976710656:=by omega
 unfold V7 CN;simp(disch:=omega)only[EV,e1,e2,w7,r1,r2,aa]
end
def gu(k:Nat):Int:=[2520,2520,1260,420,210,42,7,1].getD k 1
theorem ST{k s:Nat}(hs:0<s)(h:k+s<=7):((s:Int)*gu (k+s))∣gu k:=by
 have key:∀k:Nat,k<8->∀s:Nat,s<8->0<s->k+s<=7->gu k % ((s:Int)*gu (k+s))=0:=by decide
 exact xgz (key k (by omega) s (by omega) hs h)
theorem sU{k l:Nat}(h:k<=l)(h7:l<=7):gu l∣gu k:=by
 have key:∀k:Nat,k<8->∀l:Nat,l<8->k<=l->gu k % gu l=0:=by decide
 exact xgz (key k (by omega) l (by omega) h)
theorem n6{p q r:Nat->Prop}[DecidablePred p][DecidablePred q][DecidablePred r]:∀{n:Nat},(∀i,i<n->p i->r i)->(∀i,i<n->q i->r i)->(∀i,i<n->p i->¬q i)->dA p n+dA q n<=dA r n
 |0,_,_,_=>xp _
 |n+1,h1,h2,h3=>by have ih:=n6 (n:=n) (λi hi=>h1 i (by omega)) (λi hi=>h2 i (by omega)) (λi hi=>h3 i (by omega));have k1:=h1 n (by omega);have k2:=h2 n (by omega);have k3:=h3 n (by omega);unfold dA;by_cases hp:p n<;>by_cases hq:q n<;>by_cases hr:r n<;>simp only[hp,hq,hr,if_true,if_false]<;>first|(exfalso;exact k3 hp hq)|(exfalso;exact hr (k1 hp))|(exfalso;exact hr (k2 hq))|omega
def gK(ds:List (List Int))(w:List Int):Nat:=dA (λi=>¬w.getD i 0<0) ds.length
section
variable {o:List Int}{ds:List (List Int)}{p tm w:List Int}{now:Int}
theorem O0{u:Int}{P:List Int}{a:Nat}(h:∀i,i<ds.length->u∣P.getD i 0-dB ds i a):∀k,k<=ds.length->u∣eU ds P a k
 |0,_=>xhc _
 |k+1,hk=>by
  have ih:=O0 h k (by omega);have h1:=h k (by omega);have h2:=dJ (P.getD k 0-dB ds k a);rw[eU];refine Int.dvd_add ih ?_;by_cases h0:0<=P.getD k 0-dB ds k a;·rw[h2.2.1 h0];exact h1
  ·rw[h2.2.2 (by omega)];exact xhc _
theorem yM{P Q W:List Int}{a:Nat}{d:Int}(hd:0<=d):∀k,k<=ds.length->(∀i,i<ds.length->(W.getD i 0<0/\P.getD i 0=now/\Q.getD i 0=now+d/\(now<dB ds i a->now+d<=dB ds i a))\/(¬W.getD i 0<0/\Q.getD i 0=P.getD i 0))->eU ds Q a k=eU ds P a k+(qA ds W now a k:Int)*d
 |0,_,_=>by simp[eU,qA,dA]
 |k+1,hk,h=>by
  have ih:=yM hd k (by omega) h;rw[eU,eU,ih];unfold qA;rw[dA];rcases h k (by omega)with⟨h1,h2,h3,h4⟩|⟨h1,h2⟩
  ·by_cases hc:dB ds k a<=now;·rw[qi ⟨h1,hc⟩,h2,h3,(dJ _).2.1 (show 0<=now+d-dB ds k a by omega),(dJ _).2.1 (show 0<=now-dB ds k a by omega),xfe,xhi];simp only[Int.natCast_one,Int.one_mul];omega
   ·have h5:=h4 (by omega);have h6:pos (now+d-dB ds k a)=0:=by
     by_cases e:0<=now+d-dB ds k a;·rw[(dJ _).2.1 e];omega
     ·exact(dJ _).2.2 (by omega)
    rw[qh (λq=>hc q.2),h2,h3,h6,(dJ _).2.2 (show now-dB ds k a<=0 by omega),wY];omega
  ·rw[qh (λq=>h1 q.1),h2,wY];omega
structure GE(o:List Int)(ds:List (List Int))(p tm w:List Int)(now:Int):Prop where
 d0:gu (gK ds (gW o ds (gT o ds (gP ds w p now) tm now) w now))∣now
 dp:∀i,i<ds.length->gu (gK ds (gW o ds (gT o ds (gP ds w p now) tm now) w now))∣ (gP ds w p now).getD i 0
 fair:∀a,a<o.length->tm.getD a 0<0->iQ ds (gP ds w p now) a<=kM o a
theorem Q3(hf:Fld o ds){P:List Int}{a:Nat}(ha:a<o.length)(h:∀i,i<ds.length->P.getD i 0=0):∀k,k<=ds.length->eU ds P a k=0
 |0,_=>rfl
 |k+1,hk=>by
  have:=vC hf (show k<ds.length by omega) ha;rw[eU,Q3 hf ha h k (by omega),h k (by omega)];by_cases e:0<=0-dB ds k a;·rw[(dJ _).2.1 e];omega
  ·rw[(dJ _).2.2 (by omega)];omega
theorem GE.begin(hf:Fld o ds):GE o ds (List.replicate ds.length 0) (List.replicate o.length (-1)) (List.replicate ds.length (-1)) 0:=by
 have hz:∀i,i<ds.length->(gP ds (List.replicate ds.length (-1)) (List.replicate ds.length 0) 0).getD i 0=0:=λi hi=>by
  rw[fR hi];split;·rfl
  ·rw[xe,PX,qi hi];rfl
 refine⟨xhc _,λi hi=>by rw[hz i hi];exact xhc _,λa ha _=>?_⟩;have h1:=Q3 hf ha hz ds.length (xp _);have h2:=G8 hf ha;unfold iQ;omega
theorem rF{s:Nat}{u x:Int}(hs:0<s)(h:((s:Int)*u)∣x):u∣ (x+(s:Int) -1) / (s:Int)/\(s:Int)*((x+(s:Int) -1) / (s:Int))=x/\x/ (s:Int)=(x+(s:Int) -1) / (s:Int):=by
 obtain⟨m,rfl⟩:=h;have e:((s:Int)*u*m+(s:Int) -1) / (s:Int)=u*m:=by rw[show(s:Int)*u*m+(s:Int) -1=((s:Int) -1)+(s:Int)*(u*m) by rw[xhk];omega,Int.add_mul_ediv_left _ _ (show(s:Int)≠0 by omega),Int.ediv_eq_zero_of_lt (by omega) (by omega),Int.zero_add]
 refine⟨by rw[e];exact Int.dvd_mul_right _ _,by rw[e,xhk],?_⟩;rw[e,xhk,Int.mul_ediv_cancel_left _ (show(s:Int)≠0 by omega)]
theorem GE.rest(hf:Fld o ds)(e:GE o ds p tm w now){a:Nat}:gu (gK ds (gW o ds (gT o ds (gP ds w p now) tm now) w now))∣kM o a-iQ ds (gP ds w p now) a:=by have h7:=hf.clients;have hk:gK ds (gW o ds (gT o ds (gP ds w p now) tm now) w now)<=7:=Xf (eZ _ _) (by omega);have hu:gu (gK ds (gW o ds (gT o ds (gP ds w p now) tm now) w now))∣2520:=sU (Ao _) hk;refine Int.dvd_sub (xfb hu) (O0 (λi hi=>Int.dvd_sub (e.dp i hi) (xfb hu)) _ (xp _))
theorem GE.step(hf:Fld o ds)(h:GI o ds p tm w now)(e:GE o ds p tm w now){a:Nat}(hm:0<aQ ds (gW o ds (gT o ds (gP ds w p now) tm now) w now) now a):
  ((aQ ds (gW o ds (gT o ds (gP ds w p now) tm now) w now) now a:Int)*gu (gK ds (gW o ds (gT o ds (gP ds w p now) tm now) w now)+aQ ds (gW o ds (gT o ds (gP ds w p now) tm now) w now) now a))∣kM o a-iQ ds (gP ds w p now) a:=by
 have h7:=hf.clients;have hk:gK ds (gW o ds (gT o ds (gP ds w p now) tm now) w now)+aQ ds (gW o ds (gT o ds (gP ds w p now) tm now) w now) now a<=7:=
  Xf (Xf (n6 (r:=λ_=>True) (λ_ _ _=>trivial) (λ_ _ _=>trivial) λi _ h1 h2=>h1 h2.1) (eZ _ _)) (by omega)
 exact xgt (ST hm hk) (e.rest hf)
theorem GE.next(hf:Fld o ds)(h:GI o ds p tm w now)(e:GE o ds p tm w now){t:Int}(ht:gC o ds (gP ds w p now) (gT o ds (gP ds w p now) tm now) (gW o ds (gT o ds (gP ds w p now) tm now) w now) now t)
  (ai:∀t',gC o ds (gP ds w p now) (gT o ds (gP ds w p now) tm now) (gW o ds (gT o ds (gP ds w p now) tm now) w now) now t'->t<=t'):
  GE o ds (gP ds w p now) (gT o ds (gP ds w p now) tm now) (gW o ds (gT o ds (gP ds w p now) tm now) w now) t:=by
 have h7:=hf.clients;have aa:=λa=>e.step hf h (a:=a);have ar:=(h.later hf ht).1;have ae:=λa (ha:a<o.length)=>h.tight (a:=a) ha;have af:=λi (hi:i<ds.length)=>(h.price hi).2.2;have av:=λi (hi:i<ds.length)=>h.on (i:=i) hi;have e0:=e.d0;have ep:=e.dp;generalize hP:gP ds w p now=P at*;generalize hT:gT o ds P tm now=T at*;generalize hW:gW o ds T w now=W at*
 -- au that go on ay the time
 have aj:∀i,i<ds.length->W.getD i 0<0->P.getD i 0=now:=λi hi hw=>(af i hi).2 (av i hi hw).1;have ab:∀a,a<o.length->iQ ds (gP ds W P t) a=iQ ds P a+(aQ ds W now a:Int)*(t-now):=λa ha=>
  yM (by omega) _ (xp _) λi hi=>by
   by_cases hw:W.getD i 0<0;·refine .inl ⟨hw,aj i hi hw,by rw[fR hi,qi hw];omega,λhl=>?_⟩;have:=ai _ (.inl ⟨i,hi,a,ha,hw,hl,rfl⟩);omega
   ·exact .inr ⟨hw,by rw[fR hi,qh hw]⟩
 have ad:∀i,i<ds.length->¬W.getD i 0<0->¬(gW o ds (gT o ds (gP ds W P t) T t) W t).getD i 0<0:=λi hi hw=>by rw[pH hi,qh hw];exact hw
 have ak:gK ds W<=gK ds (gW o ds (gT o ds (gP ds W P t) T t) W t):=sS ad;have ah:gK ds (gW o ds (gT o ds (gP ds W P t) T t) W t)<=7:=Xf (eZ _ _) (by omega);have al:gu (gK ds (gW o ds (gT o ds (gP ds W P t) T t) W t))∣t:=by
  rcases ht with⟨i,hi,a,ha,_,_,rfl⟩|⟨a,ha,k1,k2,k3⟩
  ·exact xfb (sU (k:=0) (Ao _) ah)
  ·obtain⟨c1,c2,_⟩:=rF k2 (aa a k2);have et:(kM o a-iQ ds P a+(aQ ds W now a:Int) -1) / (aQ ds W now a:Int)=t-now:=by omega
   rw[et]at c1 c2;have aw:gK ds W+aQ ds W now a<=gK ds (gW o ds (gT o ds (gP ds W P t) T t) W t):=by
    refine n6 ad (λi hi hq=>?_) λi _ h1 h2=>h1 h2.1;rw[pH hi,qi hq.1];intro az;rcases yI (ds:=ds) (tm:=gT o ds (gP ds W P t) T t) (now:=t) (i:=i) o.length with⟨_,k4⟩|⟨k4,_⟩
    ·refine k4 a ha ⟨?_,by have:=hq.2;omega⟩;rw[pS ha,qi ⟨k1,by rw[ab a ha,c2];omega⟩];have:=h.n0;omega
    ·omega
   have d1:=xgt (sU aw ah) c1;have d2:=xgt (sU ak ah) e0;have:=Int.dvd_add d2 d1;rwa [show now+(t-now)=t by omega]at this
 refine⟨al,λi hi=>?_,λa ha ao=>?_⟩
 ·rw[fR hi];split;·exact al
  ·exact xgt (sU ak ah) (ep i hi)
 ·rw[ab a ha];have k1:=(ae a ha ao).2;by_cases hm:0<aQ ds W now a;·obtain⟨_,c2,_⟩:=rF hm (aa a hm);have:=ai _ (.inr ⟨a,ha,ao,hm,rfl⟩);have h3:(aQ ds W now a:Int)*(t-now)<=(aQ ds W now a:Int)*((kM o a-iQ ds P a+(aQ ds W now a:Int) -1) / (aQ ds W now a:Int)):=YZ (by omega) (by omega);rw[c2]at h3;omega
  ·rw[show aQ ds W now a=0 by omega];simp only[xex,Int.zero_mul];omega
end
end Go.Proofs.YteiekijgoifhoaaGreatDoor
