/- A part of the proof that FnReplay hands back true, at every argument of the row. -/
import Derived.Test.YtjiljcblmgeioaaGreatDoorC1
namespace Go.Proofs.YtjiljcblmgeioaaGreatDoor
set_option linter.all false
section
noncomputable section
open Go.Proofs.Tryz
open List (length getD set)
open Int (toNat)
open IntKind (wrap)
def aKJ:FD:=wclv.1.2
theorem aNB:dZ prog (4,aKJ):=wclv.2
end
end
theorem Fl{A B L:Type}(a:A)(k:A->Tr L)(k':B->Tr L):(Tr.s A B (.inl a) k k').ev=(k a).ev:=rfl
theorem AC{A B L:Type}(a:B)(k:A->Tr L)(k':B->Tr L):(Tr.s A B (.inr a) k k').ev=(k' a).ev:=rfl
theorem AD(i n:Nat):aC (i:Int) n=decide (i<n):=by unfold aC;simp
theorem bK{i:Int}{n:Nat}(h0:0<=i)(h1:i<n):aC i n=true:=by unfold aC;simp;omega
theorem aG{α:Type}{l:List α}{i:Nat}{d:α}(h:i<l.length):l.getD i d∈l:=by rw[xd,xh h];exact xeb h
theorem EV:(∀{L:Type} (b:Bool) (x y:Tr L),(Tr.t b x y).ev=bif b then x.ev else y.ev)/\
  (∀{L:Type} (R:Type) (x:Option R) (k:R->Tr L),(Tr.c R x k).ev=x.bind λr=>(k r).ev)/\
  (∀{L:Type} (b:Bool) (x:Tr L),(Tr.g b x).ev=bif b then x.ev else none)/\
  (∀{L:Type} (x:L),(Tr.l x).ev=some x)/\
  (∀{A B L:Type} (a:A) (k:A->Tr L) (k':B->Tr L),(Tr.s A B (.inl a) k k').ev=(k a).ev)/\
  (∀{A B L:Type} (a:B) (k:A->Tr L) (k':B->Tr L),(Tr.s A B (.inr a) k k').ev=(k' a).ev)/\
  (∀i n:Nat,aC (i:Int) n=decide (i<n))/\
  (∀{i:Int} {n:Nat},0<=i->i<n->aC i n=true)/\
  (∀{n m:Nat},((n:Int)<(m:Int))↔n<m)/\
  (∀h:Decidable True,@decide True h=true)/\
  (∀h:Decidable False,@decide False h=false)/\
  (∀{α:Type} (a b:α),(bif true then a else b)=a)/\
  (∀{α:Type} (a b:α),(bif false then a else b)=b)/\
  (∀{α β:Type} (a:α) (f:α->Option β),(some a).bind f=f a)/\
  (∀n:Nat,((n:Int)).toNat=n)/\
  (∀{n:Int},-9223372036854775808<=n->n<9223372036854775808->IntKind.wrap .i64 n=n)/\
  ((!true)=false)/\((!false)=true)/\(∀b:Bool,(true&&b)=b)/\(∀b:Bool,(b&&true)=b)/\(∀b:Bool,(false&&b)=false)/\(∀b:Bool,(b&&false)=false)/\
  (∀{α:Type} (p:Prop) (h:Decidable p) (a b:α),(bif @decide p h then a else b)=if p then a else b)/\
  (∀{α:Type} (h:Decidable True) (a b:α),(@ite α True h a b)=a)/\
  (∀{α:Type} (h:Decidable False) (a b:α),(@ite α False h a b)=b):=by
 refine⟨λb x y=>rfl,λR x k=>rfl,λb x=>rfl,λx=>rfl,λa k k'=>rfl,λa k k'=>rfl,AD,bK,Int.ofNat_lt,λh=>by simp,λh=>by simp,λa b=>rfl,λa b=>rfl,λa f=>rfl,λn=>rfl,aN,
  rfl,rfl,λb=>by simp,λb=>by simp,λb=>by simp,λb=>by simp,λp h a b=>?_,λh a b=>by simp,λh a b=>by simp⟩
 by_cases hp:p<;>simp[hp]
theorem aU{S:Type}(g:S->Nat->S)(s:S)(n:Nat):(List.range (n+1)).foldl g s=g ((List.range n).foldl g s) n:=by rw[xeg,JW];rfl
theorem aR{V S R:Type}{f:V->Option (V⊕R)}{n:Nat}(mk:Nat->S->V)(I:Nat->S->Prop)(g:S->Nat->S)(fin:S->R){s0:S}(h0:I 0 s0)
  (aa:∀i s,i<n->I i s->f (mk i s)=some (.inl (mk (i+1) (g s i)))/\I (i+1) (g s i))
  (ab:∀s,I n s->f (mk n s)=some (.inr (fin s))):
  aB f (mk 0 s0)=some (fin ((List.range n).foldl g s0))/\I n ((List.range n).foldl g s0):=by
 have hI:∀i,i<=n->I i ((List.range i).foldl g s0):=by
  intro i;induction i with
  |zero=>intro _;exact h0
  |succ i ih=>intro hi;rw[aU];exact(aa i _ (by omega) (ih (by omega))).2
 have key:∀k i,i+k=n->aB f (mk i ((List.range i).foldl g s0))=some (fin ((List.range n).foldl g s0)):=by
  intro k;induction k with
  |zero=>
   intro i hi;have:i=n:=by omega
   subst this;rw[aE,ab _ (hI i (xm _))]
  |succ k ih=>intro i hi;rw[aE,(aa i _ (by omega) (hI i (by omega))).1];have:=ih (i+1) (by omega);rw[aU]at this;exact this
 exact⟨key n 0 (by omega),hI n (xm _)⟩
theorem Kt{α S:Type}(l:List α)(d:α)(g:S->α->S)(s:S):(List.range l.length).foldl (λs i=>g s (l.getD i d)) s=l.foldl g s:=by
 induction l generalizing s with
 |nil=>rfl
 |cons x l ih=>rw[xk,xfj,Z5,xhd,Z5];exact ih _
theorem dP{V S R α:Type}{f:V->Option (V⊕R)}(l:List α)(d:α)(mk:Nat->S->V)(I:Nat->S->Prop)(g:S->α->S)(fin:S->R){s0:S}(h0:I 0 s0)
  (aa:∀i s,i<l.length->I i s->f (mk i s)=some (.inl (mk (i+1) (g s (l.getD i d))))/\I (i+1) (g s (l.getD i d)))
  (ab:∀s,I l.length s->f (mk l.length s)=some (.inr (fin s))):
  aB f (mk 0 s0)=some (fin (l.foldl g s0))/\I l.length (l.foldl g s0):=by
 have:=aR mk I (λs i=>g s (l.getD i d)) fin h0 aa ab;rw[Kt]at this;exact this
theorem aL{V S R:Type}{f:V->Option (V⊕R)}{n:Nat}(mk:Nat->S->V)(I:Nat->S->Prop)(Q:R->Prop){s0:S}(h0:I 0 s0)
  (aa:∀i s,i<n->I i s->(∃s',f (mk i s)=some (.inl (mk (i+1) s'))/\I (i+1) s')\/∃r,f (mk i s)=some (.inr r)/\Q r)
  (ab:∀s,I n s->∃r,f (mk n s)=some (.inr r)/\Q r):∃r,aB f (mk 0 s0)=some r/\Q r:=by
 have key:∀k i s,i+k=n->I i s->∃r,aB f (mk i s)=some r/\Q r:=by
  intro k;induction k with
  |zero=>
   intro i s hi hI;have:i=n:=by omega
   subst this;obtain⟨r,h1,h2⟩:=ab s hI;exact⟨r,by rw[aE,h1],h2⟩
  |succ k ih=>
   intro i s hi hI;rcases aa i s (by omega) hI with⟨s',h1,h2⟩|⟨r,h1,h2⟩
   ·obtain⟨r,h3,h4⟩:=ih (i+1) s' (by omega) h2;exact⟨r,by rw[aE,h1];exact h3,h4⟩
   ·exact⟨r,by rw[aE,h1],h2⟩
 exact key n 0 s0 (by omega) h0
theorem bB{V R:Type}{f:V->Option (V⊕R)}{n:Nat}(mk:Nat->V)(p:Nat->Bool)(yes:R)(no:R)
  (h:∀i:Nat,i<n->(∀j,j<i->p j=true)->f (mk i)=some (bif p i then .inl (mk (i+1))else .inr no)) (aa:f (mk n)=some (.inr yes)):
  aB f (mk 0)=some (bif (List.range n).all p then yes else no):=by
 have key:∀(k i:Nat),i+k=n->(∀j,j<i->p j=true)->aB f (mk i)=some (bif (List.range' i k).all p then yes else no):=by
  intro k;induction k with
  |zero=>
   intro i hk _;have:i=n:=by omega
   subst this;rw[aE,aa];rfl
  |succ k ih=>
   intro i hk hj;rw[aE,h i (by omega) hj,List.range'_succ,NU];cases hs:p i with
   |false=>rfl
   |true=>
    simp only[qa,Gq];exact ih (i+1) (by omega) λj ab=>by
     by_cases e:j=i;·rw[e];exact hs
     ·exact hj j (by omega)
 have:=key n 0 (by omega) λj hj=>absurd hj (xex _);rw[List.range_eq_range'];exact this
def aK(l:List Int):Prop:=(l.length:Int)<=1048576
def eP(x:List (List Int)):Prop:=(x.length:Int)<=1048576/\∀r∈x,aK r
theorem aBo(a b:Nat):(((a:Nat):Int) != ((b:Nat):Int))= !(decide (a=b)):=by
 by_cases h:a=b;·subst h;simp
 ·have:((a:Nat):Int)≠((b:Nat):Int):=by omega
  simp[h,bne,this]
theorem CO(a b:Nat):(((a:Nat):Int)==((b:Nat):Int))=decide (a=b):=by
 by_cases h:a=b;·subst h;simp
 ·have:((a:Nat):Int)≠((b:Nat):Int):=by omega
  simp[h,this]
theorem wU{α:Type}(l:List α)(d:α)(p:α->Bool):((List.range l.length).all λi=>p (l.getD i d))=l.all p:=by
 induction l with
 |nil=>rfl
 |cons x l ih=>rw[xk,xfj,NU,List.all_map,NU];exact congrArg (p x&& ·) ih
def bX(n a b:Int):Bool:=decide (a<=n)&&decide (n<=b)
def gF(l:List Int)(a b:Int):Bool:=l.all λx=>bX x a b
theorem isIn_iff{n a b:Int}:bX n a b=true↔a<=n/\n<=b:=by simp[bX]
theorem allIn_iff{l:List Int}{a b:Int}:gF l a b=true↔∀x∈l,a<=x/\x<=b:=by simp[gF,bX]
theorem sB{l:List Int}{a b:Int}(h:gF l a b=true){i:Nat}(hi:i<l.length):a<=l.getD i 0/\l.getD i 0<=b:=allIn_iff.1 h _ (aG hi)
theorem fM(n a b:Int):rK n a b=some (bX n a b):=by unfold rK ZJ bX;simp only[qo,qq];cases decide (a<=n)<;>rfl
theorem dI(n a b:Int):m9 n a b=some (bX n a b):=by unfold m9 aFv bX;simp only[qo,qq];cases decide (a<=n)<;>rfl
theorem nU(a b:Int):Qc a b=some (min a b):=by
 unfold Qc aAn;simp(disch:=omega)only[EV];by_cases h:a<b;·rw[qi h,Int.min_eq_left (by omega)]
 ·rw[qh h,xgr (by omega)]
theorem jX(a b:Int):Km a b=some (max a b):=by
 unfold Km aEo;simp(disch:=omega)only[EV];by_cases h:b<a;·rw[qi h,Int.max_eq_left (by omega)]
 ·rw[qh h,xgs (by omega)]
theorem Ga{l:List Int}(hl:aK l)(n b:Int):PO l n b=some (gF l 0 b&&((l.length:Int)==n)):=by unfold aK at hl;unfold PO aCn;have hs:aJD (l,n,b) 0=_:=bB (f:=λv=>(HA (l,n,b) v).ev) (n:=l.length) (mk:=λi=>(i:Int)) (p:=λi=>bX (l.getD i 0) 0 b) (yes:=.inl ()) (no:=.inr ()) (λi hi _=>by simp(disch:=omega)only[EV,HA,hi,fM];cases bX (l.getD i 0) 0 b<;>rfl) (by simp(disch:=omega)only[EV,HA,xi]);rw[wU l 0 (λx=>bX x 0 b)]at hs;simp(disch:=omega)only[EV,hs];unfold gF;cases l.all λx=>bX x 0 b<;>rfl
theorem fX{V R α:Type}{f:V->Option (V⊕R)}{l:List α}(d:α)(q:α->Bool)(mk:Nat->V)(yes:Nat->R)(no:R)
  (h:∀i:Nat,i<l.length->f (mk i)=some (bif q (l.getD i d)then .inr (yes i)else .inl (mk (i+1)))) (aa:f (mk l.length)=some (.inr no)):
  aB f (mk 0)=some ((l.findIdx? q).elim no yes):=by
 have key:∀(k i:Nat),i+k=l.length->aB f (mk i)=some (((l.drop i).findIdx? q).elim no (λj=>yes (j+i))):=by
  intro k;induction k with
  |zero=>
   intro i hk;have:i=l.length:=by omega
   subst this;rw[aE,aa];simp
  |succ k ih=>
   intro i hk;rw[aE,h i (by omega),Wn (by omega),xee];have e:l.getD i d=l[i]:=by rw[xd,xh (by omega)];rfl
   rw[e];cases q l[i]with
   |true=>simp
   |false=>
    simp only[qb,tJ,if_false];rw[ih (i+1) (by omega)];cases(l.drop (i+1)).findIdx? q with
    |none=>rfl
    |some j=>simp[Nat.add_comm,Nat.add_left_comm]
 have:=key l.length 0 (by omega);simpa using this
theorem pX{α:Type}{l:List α}{q:α->Bool}:l.any q=true↔(l.findIdx? q).isSome=true:=by simp[List.findIdx?_isSome]
theorem F4{l:List (Int)}(hl:(l.length:Int)<9223372036854775807){p:HL [.int .i64]->Option Bool}{q:Int->Bool}(hp:∀n∈l,p (n,())=some (q n)):
  XU l p=some ((l.findIdx? q).elim (-1) (λi=>(i:Int))):=by
 unfold XU aFP;have hs:aKm (l,p,((l.length:Nat):Int)) 0=_:=fX (f:=λv=>(CW (l,p,((l.length:Nat):Int)) v).ev) (l:=l) 0 q (mk:=λi=>(i:Int)) (yes:=λi=>.inr (i:Int)) (no:=.inl ()) (λi hi=>by simp(disch:=omega)only[EV,CW,hi,hp _ (aG hi)];cases q (l.getD i 0)<;>rfl) (by simp(disch:=omega)only[EV,CW,xi]);simp(disch:=omega)only[EV,hs];cases l.findIdx? q<;>rfl
theorem mV{l:List (Int)}(hl:(l.length:Int)<9223372036854775807){p:HL [.int .i64]->Option Bool}{q:Int->Bool}(hp:∀n∈l,p (n,())=some (q n)):
  QM l p=some (l.any q):=by
 unfold QM aBf;simp(disch:=omega)only[EV,F4 hl hp];congr 1;rw[JN,pX];cases l.findIdx? q<;>simp
theorem pO{l:List (List Int)}(hl:(l.length:Int)<9223372036854775807){p:HL [.slice (.int .i64)]->Option Bool}{q:List Int->Bool}(hp:∀n∈l,p (n,())=some (q n)):
  PW l p=some ((l.findIdx? q).elim (-1) (λi=>(i:Int))):=by
 unfold PW aFQ;have hs:aLe (l,p,((l.length:Nat):Int)) 0=_:=fX (f:=λv=>(Xb (l,p,((l.length:Nat):Int)) v).ev) (l:=l) [] q (mk:=λi=>(i:Int)) (yes:=λi=>.inr (i:Int)) (no:=.inl ()) (λi hi=>by simp(disch:=omega)only[EV,Xb,hi,hp _ (aG hi)];cases q (l.getD i [])<;>rfl) (by simp(disch:=omega)only[EV,Xb,xi]);simp(disch:=omega)only[EV,hs];cases l.findIdx? q<;>rfl
theorem vB{l:List (List Int)}(hl:(l.length:Int)<9223372036854775807){p:HL [.slice (.int .i64)]->Option Bool}{q:List Int->Bool}(hp:∀n∈l,p (n,())=some (q n)):
  aEP l p=some (l.any q):=by
 unfold aEP aBA;simp(disch:=omega)only[EV,pO hl hp];congr 1;rw[JN,pX];cases l.findIdx? q<;>simp
theorem rR{l:List Int}(hl:aK l)(a b:Int):NY l a b=some (gF l a b):=by unfold aK at hl;unfold NY aEX;rw[qn,mV (by omega) (q:=λn=> !(bX n a b)) λn _=>by unfold aHN aAp;simp(disch:=omega)only[EV,dI]];simp(disch:=omega)only[EV];unfold gF;rw[xfb];simp
theorem dK{α:Type}{l:List α}{i:Nat}(d:α)(h:i<l.length):l.take (i+1)=l.take i++ [l.getD i d]:=by rw[Wk h,xd,xh h];rfl
def kB:List Int->Int
 | []=>0
 |x::l=>l.foldl min x
theorem pJ:∀(l:List Int) (a:Int),(l.foldl min a=a\/l.foldl min a∈l)/\l.foldl min a<=a/\∀x∈l,l.foldl min a<=x
 | [],a=>⟨.inl rfl,zG _,λx h=>by cases h⟩
 |y::l,a=>by
  obtain⟨h1,h2,h3⟩:=pJ l (min a y);simp only[Z5];refine⟨?_,by omega,λx hx=>?_⟩
  ·rcases h1 with h1|h1
   ·rw[h1];rcases Int.le_total a y with h|h;·left;omega
    ·right;rw[xgr h];exact xu
   ·exact .inr (xr _ h1)
  ·rcases xae.1 hx with rfl|hx;·omega
   ·exact h3 x hx
theorem oY{l:List Int}(h:l≠ []):kB l∈l/\∀x∈l,kB l<=x:=by
 cases l with
 |nil=>exact absurd rfl h
 |cons a l=>
  obtain⟨h1,h2,h3⟩:=pJ l a;refine⟨?_,λx hx=>?_⟩
  ·rcases h1 with h1|h1;·show l.foldl min a∈a::l;rw[h1];exact xu
   ·exact xr _ h1
  ·rcases xae.1 hx with rfl|hx;·exact h2
   ·exact h3 x hx
def aV(g:List Int->Int)(l:List (List Int)):List Int:=(l.find? λs=>decide (g s=kB (l.map g))).getD []
theorem dG{g:List Int->Int}{l:List (List Int)}(h:l≠ []):aV g l∈l/\g (aV g l)=kB (l.map g):=by
 obtain⟨h1,_⟩:=oY (l:=l.map g) (by simpa using h);obtain⟨s,hs,e⟩:=xaf.1 h1;unfold aV;cases hf:l.find? λs=>decide (g s=kB (l.map g))with
 |none=>have:=xfz.1 hf s hs;simp at this;exact absurd e this
 |some t=>have:=List.find?_some hf;exact⟨xge hf,by simpa using this⟩
theorem Dt{l:List Int}(h:l≠ [])(x:Int):kB (l++ [x])=min (kB l) x:=by
 cases l with
 |nil=>exact absurd rfl h
 |cons a l=>simp[kB,JW]
theorem iI{g:List Int->Int}{l:List (List Int)}(h:l≠ [])(s:List Int):aV g (l++ [s])=if g s<g (aV g l)then s else aV g l:=by
 obtain⟨h1,h2⟩:=dG (g:=g) h;have hm:l.map g≠ []:=by simpa using h
 have hle:=(oY hm).2;rw[h2];unfold aV;rw[xdu,List.map_singleton,Dt hm,xfk];by_cases hs:g s<kB (l.map g)
 ·rw[qi hs,xgr (by omega)];have:l.find? (λt=>decide (g t=g s))=none:=xfz.2 λt ht=>by have:=hle (g t) (xde ht);simp only[qe];omega
  rw[this];simp
 ·rw[qh hs,Int.min_eq_left (by omega)];cases hf:l.find? (λt=>decide (g t=kB (l.map g)))with|some t=>rfl|none=>have:=xfz.1 hf _ h1;rw[h2]at this;simp at this
theorem gR{g:List Int->Int}(s:List Int):aV g [s]=s:=by unfold aV;simp[kB]
def Bh(q:List Int->Bool)(g:List Int->Int)(l:List (List Int)):List Int:=l.foldl (λb s=>if q s=true/\(b=[]\/g s<g b)then s else b) []
theorem CQ{q:List Int->Bool}{g:List Int->Int}:∀(l:List (List Int)),(∀s∈l,s≠ [])->Bh q g l=if l.filter q=[]then[]else aV g (l.filter q):=by
 have key:∀(n:Nat) (l:List (List Int)),l.length=n->(∀s∈l,s≠ [])->Bh q g l=if l.filter q=[]then[]else aV g (l.filter q):=by
  intro n;induction n with
  |zero=>intro l hl _;have:l=[]:=C9 hl;subst this;rfl
  |succ n ih=>
   intro l hl aa;obtain⟨l',s,rfl⟩:∃l' s,l=l'++ [s]:=⟨l.dropLast,l.getLast (λe=>by rw[e]at hl;simp at hl),(List.dropLast_concat_getLast _).symm⟩
   have ab:l'.length=n:=by simpa using hl
   have h1:=ih l' ab λt ht=>aa t (D1 _ ht);have hs:=aa s (by simp);unfold Bh at h1⊢;rw[JW,h1,Z5,xga,xfa];cases hq:q s with
   |false=>
    have e:List.filter q [s]=[]:=by simp[hq]
    rw[e,yT,qh (λh=>by simp at h)]
   |true=>
    have e:List.filter q [s]=[s]:=by simp[hq]
    rw[e,qh (show¬l'.filter q++ [s]=[] by simp)];by_cases he:l'.filter q=[]
    ·rw[qi he,qi ⟨rfl,.inl rfl⟩,he,J8,gR]
    ·rw[qh he,iI he];have hf:=(dG (g:=g) he).1;have ad:aV g (l'.filter q)≠ []:=aa _ (D1 _ (xak.1 hf).1);by_cases hg:g s<g (aV g (l'.filter q));·rw[qi ⟨rfl,.inr hg⟩,qi hg]
     ·rw[qh (λh=>h.2.elim ad hg),qh hg]
 exact λl=>key l.length l rfl
def at2(x:List (List Int))(i j:Nat):Int:=(x.getD i []).getD j 0
def Ei(x:List (List Int))(n i:Nat):Bool:=gF (x.getD i []) 0 99&&(((x.getD i []).length:Int)==(n:Int))
structure Ground(x:List (List Int)):Prop where
 row:∀i,i<x.length->Ei x x.length i=true
 diag:∀i,i<x.length->at2 x i i=0
 sym:∀i j,i<x.length->j<x.length->at2 x i j=at2 x j i
 len:x.length<=7
theorem H9{x:List (List Int)}{n i:Nat}(h:Ei x n i=true):(x.getD i []).length=n:=by simp only[Ei,xf,qg]at h;omega
theorem EI{x:List (List Int)}{n i j:Nat}(h:Ei x n i=true)(hj:j<n):0<=at2 x i j/\at2 x i j<=99:=by have hl:=H9 h;simp only[Ei,xf]at h;exact sB h.1 (by omega)
theorem Ground.in{x:List (List Int)}(h:Ground x){i j:Nat}(hi:i<x.length)(hj:j<x.length):0<=at2 x i j/\at2 x i j<=99:=EI (h.row i hi) hj
theorem Ground.rowLen{x:List (List Int)}(h:Ground x){i:Nat}(hi:i<x.length):(x.getD i []).length=x.length:=H9 (h.row i hi)
def cJ(l:List Int)(lo hi:Int):Bool:=(List.range l.length).all λi=>bX (l.getD i 0) lo hi&&(i==0||decide (l.getD (i-1) 0<l.getD i 0))
theorem risingB_iff{l:List Int}{lo hi:Int}:cJ l lo hi=true↔(∀x∈l,lo<=x/\x<=hi)/\l.Pairwise (· < ·):=by
 unfold cJ;simp only[xt,xar,xf,Z7,qg,qe,isIn_iff];constructor
 ·intro h;refine⟨λx hx=>?_,?_⟩;·obtain⟨i,hi,e⟩:=JK hx;have:=(h i hi).1;rw[xd,xh hi]at this;rw[<-e];exact this
  ·rw[xgf];have key:∀d i,i+d+1<l.length->l.getD i 0<l.getD (i+d+1) 0:=by
    intro d;induction d with
    |zero=>
     intro i hi;have:=(h (i+1) hi).2;rcases this with h0|h0;·omega
     ·simpa using h0
    |succ d ih=>
     intro i hi;have h1:=ih i (by omega);have:=(h (i+(d+1)+1) hi).2;rcases this with h0|h0;·omega
     ·have e:i+(d+1)+1-1=i+d+1:=by omega
      rw[e]at h0;omega
   intro i j hi hj aa;have:=key (j-i-1) i (by omega);rw[show i+(j-i-1)+1=j by omega,xd,xd,xh hi,xh hj]at this;exact this
 ·rintro⟨h1,h2⟩ i hi;refine⟨h1 _ (aG hi),?_⟩;by_cases e:i=0;·exact .inl e
  ·right;have:=xgf.1 h2 (i-1) i (by omega) hi (by omega);rw[xd,xd,xh hi,xh (by omega)];exact this
theorem Lo{l:List Int}{lo hi:Int}(h:cJ l lo hi=true){i:Nat}(aa:i<l.length):lo<=l.getD i 0/\l.getD i 0<=hi:=(risingB_iff.1 h).1 _ (aG aa)
theorem Cf{l:List Int}(hl:aK l)(lo hi:Int):aEj l lo hi=some (cJ l lo hi):=by
 unfold aK at hl;have h0:aIE (l,lo,hi) 0=_:=bB (f:=λv=>(Py (l,lo,hi) v).ev) (n:=l.length) (mk:=λi=>(i:Int)) (p:=λi=>bX (l.getD i 0) lo hi&&(i==0||decide (l.getD (i-1) 0<l.getD i 0))) (yes:=.inl ()) (no:=.inr ()) (λi aa _=>by
   cases i with
   |zero=>simp(disch:=omega)only[EV,Py,aa,fM];cases bX (l.getD 0 0) lo hi<;>rfl
   |succ i=>
    have h1:i<l.length:=by omega
    have e0:(0:Int)<((i+1:Nat):Int):=by omega
    have e1:((i+1:Nat):Int) -1=(i:Int):=by omega
    have e2:(i+1==0)=false:=rfl;simp(disch:=omega)only[EV,Py,aa,fM,e0,e1,h1,e2,xei,xfy];cases bX (l.getD (i+1) 0) lo hi with
    |false=>rfl
    |true=>
     by_cases h:l.getD (i+1) 0<=l.getD i 0;·simp only[xl,qb,qi h,Gq,show¬l.getD i 0<l.getD (i+1) 0 by omega,decide_false]
     ·simp only[xl,qb,qh h,Gq,show l.getD i 0<l.getD (i+1) 0 by omega,decide_true];rfl) (by simp(disch:=omega)only[EV,Py,xi])
 unfold aEj aEt;simp(disch:=omega)only[EV,h0];unfold cJ;cases(List.range l.length).all λi=>bX (l.getD i 0) lo hi&&(i==0||decide (l.getD (i-1) 0<l.getD i 0))<;>rfl
theorem xN{l:List Int}(hl:aK l){n:Int}(h0:0<=n)(h1:n<=1048576):OM l n=some (cJ l 0 (n-1)):=by
 unfold aK at hl;have h0:aLy (l,n,l,((l.length:Nat):Int)) 0=_:=bB (f:=λv=>(Vd (l,n,l,((l.length:Nat):Int)) v).ev) (n:=l.length) (mk:=λi=>(i:Int)) (p:=λi=>bX (l.getD i 0) 0 (n-1)&&(i==0||decide (l.getD (i-1) 0<l.getD i 0))) (yes:=.inl ()) (no:=.inr ()) (λi aa _=>by
   cases i with
   |zero=>simp(disch:=omega)only[EV,Vd,aa,dI];cases bX (l.getD 0 0) 0 (n-1)<;>rfl
   |succ i=>
    have h1:i<l.length:=by omega
    have e0:(0:Int)<((i+1:Nat):Int):=by omega
    have e1:((i+1:Nat):Int) -1=(i:Int):=by omega
    have e2:(i+1==0)=false:=rfl;simp(disch:=omega)only[EV,Vd,aa,dI,e0,e1,h1,e2,xei,xfy];cases bX (l.getD (i+1) 0) 0 (n-1)with
    |false=>rfl
    |true=>
     by_cases h:l.getD (i+1) 0<=l.getD i 0;·simp only[xl,qb,qi h,Gq,show¬l.getD i 0<l.getD (i+1) 0 by omega,decide_false]
     ·simp only[xl,qb,qh h,Gq,show l.getD i 0<l.getD (i+1) 0 by omega,decide_true];rfl) (by simp(disch:=omega)only[EV,Vd,xi])
 unfold OM YP;simp(disch:=omega)only[EV,h0];unfold cJ;cases(List.range l.length).all λi=>bX (l.getD i 0) 0 (n-1)&&(i==0||decide (l.getD (i-1) 0<l.getD i 0))<;>rfl
def pl(s:List Int)(i:Nat):Nat:=(s.getD i 0).toNat
structure Places(s:List Int)(n:Nat):Prop where
 low:(s.length:Int)<=1048576
 mem:∀i,i<s.length->0<=s.getD i 0/\s.getD i 0<n
theorem Places.pl{s:List Int}{n:Nat}(h:Places s n){i:Nat}(hi:i<s.length):s.getD i 0=(pl s i:Int)/\Go.Proofs.YtjiljcblmgeioaaGreatDoor.pl s i<n:=by have:=h.mem i hi;unfold Go.Proofs.YtjiljcblmgeioaaGreatDoor.pl;omega
theorem Places.of{s:List Int}{n:Nat}(hs:aK s)(h:cJ s 0 ((n:Int) -1)=true):Places s n:=⟨hs,λi hi=>by have:=Lo h hi;omega⟩
def fQ(o:List Int)(ds:List (List Int)):Bool:=bX (o.length:Int) 1 7&&(gF o 0 99&&(decide ((ds.length:Int)<=7)&&ds.all λr=>decide (r.length=o.length)&&gF r 0 99))
structure Fld(o:List Int)(ds:List (List Int)):Prop where
 pos:1<=o.length
 len:o.length<=7
 cost:∀i,i<o.length->0<=o.getD i 0/\o.getD i 0<=99
 clients:ds.length<=7
 rowLen:∀j,j<ds.length->(ds.getD j []).length=o.length
 dist:∀j i,j<ds.length->i<o.length->0<=(ds.getD j []).getD i 0/\(ds.getD j []).getD i 0<=99
theorem fieldB_iff{o:List Int}{ds:List (List Int)}:fQ o ds=true↔Fld o ds:=by
 unfold fQ;simp only[xf,qe,xt,isIn_iff];constructor;·rintro⟨⟨h1,h2⟩,h3,h4,h5⟩;have h6:∀j,j<ds.length->(ds.getD j []).length=o.length/\gF (ds.getD j []) 0 99=true:=λj hj=>h5 _ (aG (d:=[]) hj);exact⟨by omega,by omega,λi hi=>sB h3 hi,by omega,λj hj=>(h6 j hj).1,λj i hj hi=>sB (h6 j hj).2 (by rw[(h6 j hj).1];exact hi)⟩
 ·rintro⟨h1,h2,h3,h4,h5,h6⟩;refine⟨by omega,allIn_iff.2 λa ha=>?_,by omega,λr hr=>?_⟩;·obtain⟨i,hi,e⟩:=JK ha;have:=h3 i hi;rw[xd,xh hi,xT,e]at this;exact this
  ·obtain⟨j,hj,e⟩:=JK hr;have e2:ds.getD j []=r:=by rw[xd,xh hj,xT,e]
   have h7:=h5 j hj;rw[e2]at h7;refine⟨h7,allIn_iff.2 λa ha=>?_⟩;obtain⟨i,hi,e3⟩:=JK ha;have:=h6 j i hj (by omega);rw[e2,xd,xh hi,xT,e3]at this;exact this
theorem eQ{o:List Int}{ds:List (List Int)}(ho:aK o)(hd:eP ds):uO o ds=some (fQ o ds):=by have hl:=hd.1;have h0:aJg ((o.length:Int),o,ds) 0=_:=bB (f:=λv=>(HD ((o.length:Int),o,ds) v).ev) (n:=ds.length) (mk:=λi=>(i:Int)) (p:=λi=>decide ((ds.getD i []).length=o.length)&&gF (ds.getD i []) 0 99) (yes:=.inl ()) (no:=.inr ()) (λi hi _=>by simp(disch:=omega)only[EV,HD,hi,Ga (hd.2 _ (aG (d:=[]) hi)),CO];cases gF (ds.getD i []) 0 99<;>cases decide ((ds.getD i []).length=o.length)<;>rfl) (by simp(disch:=omega)only[EV,HD,xi]);rw[wU ds [] (λr=>decide (r.length=o.length)&&gF r 0 99)]at h0;unfold uO aDn fQ;simp(disch:=omega)only[EV,h0,fM,Ga ho,CO];cases ds.all (λr=>decide (r.length=o.length)&&gF r 0 99)<;>cases bX (o.length:Int) 1 7<;>cases gF o 0 99<;>cases decide ((ds.length:Int)<=7)<;>rfl
theorem cG{o:List Int}{ds:List (List Int)}(ho:aK o)(hd:eP ds):tQ o ds=some (fQ o ds):=by
 have hl:=hd.1;have hc:=vB (l:=ds) (show(ds.length:Int)<9223372036854775807 by omega) (p:=λa=>Option.bind (aAI a.1 o ds) λy=>some y) (q:=λr=> !(decide (r.length=o.length)&&gF r 0 99)) λr hr=>by unfold aAI aAx;simp(disch:=omega)only[EV,rR (hd.2 r hr),aBo];cases decide (r.length=o.length)<;>cases gF r 0 99<;>rfl
 unfold tQ aDt fQ;simp(disch:=omega)only[EV,dI,rR ho,hc];rw[xfb];simp only[Bool.not_not];cases bX (o.length:Int) 1 7<;>cases gF o 0 99<;>by_cases h:(ds.length:Int)<=7<;>simp only[h,decide_true,decide_false,if_true,if_false]<;>rfl
def cC(o:List Int)(ds:List (List Int))(s:List Int)(c:Int):Bool:=fQ o ds&&(cJ s 0 ((o.length:Int) -1)&&bX c 0 1000)
theorem Bk{o:List Int}(ds:List (List Int)){s:List Int}(ho:aK o)(hs:aK s):QF o ds s=some (cJ s 0 ((o.length:Int) -1)):=by unfold aK at ho;unfold QF YM;simp(disch:=omega)only[EV,Cf hs]
theorem kF{o:List Int}{ds:List (List Int)}{s:List Int}(ho:aK o)(hd:eP ds)(hs:aK s)(c:Int):Jn o ds s c=some (cC o ds s c):=by unfold Jn aBT cC;simp(disch:=omega)only[EV,eQ ho hd,Bk ds ho hs,fM];cases fQ o ds<;>cases cJ s 0 ((o.length:Int) -1)<;>rfl
theorem iH{o:List Int}{ds:List (List Int)}{s:List Int}(ho:aK o)(hd:eP ds)(hs:aK s)(c:Int):vH o ds s c=some (cC o ds s c):=by have h:=ho;unfold aK at h;unfold vH aAl cC;simp(disch:=omega)only[EV,cG ho hd,xN hs (show(0:Int)<=(o.length:Int) by omega) h,dI];cases fQ o ds<;>cases cJ s 0 ((o.length:Int) -1)<;>rfl
theorem Fld.at2{o:List Int}{ds:List (List Int)}(h:Fld o ds){j i:Nat}(hj:j<ds.length)(hi:i<o.length):0<=at2 ds j i/\at2 ds j i<=99:=h.dist j i hj hi
def nH(ds:List (List Int))(j:Nat)(s:List Int)(b k:Nat):Nat:=if at2 ds j (pl s k)<at2 ds j b then pl s k else b
def F8(ds:List (List Int))(j:Nat)(s:List Int):Nat:=(List.range s.length).foldl (nH ds j s) (pl s 0)
def near(ds:List (List Int))(s:List Int)(j:Nat):Int:=at2 ds j (F8 ds j s)
def Bb(o s:List Int):Int:=(List.range s.length).foldl (λa k=>a+o.getD (pl s k) 0) 0
def eX(ds:List (List Int))(s:List Int):Int:=(List.range ds.length).foldl (λa j=>a+near ds s j) 0
def Wl(ds:List (List Int))(s:List Int):Int:=(List.range ds.length).foldl (λa j=>max a (near ds s j)) 0
def kO(ds:List (List Int))(s:List Int):List Int:=(List.range ds.length).map (near ds s)
theorem K1{α S:Type}{g:S->α->S}(Q:S->Prop){l:List α}(h:∀s a,a∈l->Q s->Q (g s a)){s:S}(hs:Q s):Q (l.foldl g s):=by
 induction l generalizing s with
 |nil=>exact hs
 |cons a l ih=>exact ih (λs b hb=>h s b (xr _ hb)) (h s a xu hs)
theorem sD{ds:List (List Int)}{j:Nat}{s:List Int}{n b k:Nat}(hs:Places s n)(hk:k<s.length)(hb:b<n):nH ds j s b k<n:=by
 unfold nH;split;·exact(hs.pl hk).2
 ·exact hb
theorem U5{ds:List (List Int)}{j:Nat}{s:List Int}{n:Nat}(hs:Places s n)(h0:0<s.length):F8 ds j s<n:=
 K1 (λb=>b<n) (λ_ _ hk hb=>sD hs (xar.1 hk) hb) (hs.pl h0).2
theorem uT{o:List Int}{ds:List (List Int)}(hf:Fld o ds){s:List Int}(hs:Places s o.length)(h0:0<s.length){j:Nat}(hj:j<ds.length):0<=near ds s j/\near ds s j<=99:=hf.at2 hj (U5 hs h0)
theorem wF{α:Type}{l:List α}{f:α->Int}{B:Int}(h:∀a∈l,0<=f a/\f a<=B)(a0:Int):a0<=l.foldl (λa x=>a+f x) a0/\l.foldl (λa x=>a+f x) a0<=a0+(l.length:Int)*B:=by
 induction l generalizing a0 with
 |nil=>simp
 |cons x l ih=>
  have h1:=ih (λa ha=>h a (xr _ ha)) (a0+f x);have h2:=h x xu;simp only[Z5,xk];have e:((l.length+1:Nat):Int)*B=(l.length:Int)*B+B:=by rw[xey,xhe];simp
  rw[e];omega
theorem nA{o:List Int}{ds:List (List Int)}(hf:Fld o ds){s:List Int}(hs:Places s o.length)(h0:0<s.length):0<=eX ds s/\eX ds s<=693:=by have:=wF (l:=List.range ds.length) (f:=near ds s) (B:=99) (λj hj=>uT hf hs h0 (xar.1 hj)) 0;have hc:=hf.clients;unfold eX;simp only[xdx]at this;omega
theorem Ks{o:List Int}{ds:List (List Int)}(hf:Fld o ds){s:List Int}(hs:Places s o.length):0<=Bb o s/\Bb o s<=103809024:=by have:=wF (l:=List.range s.length) (f:=λk=>o.getD (pl s k) 0) (B:=99) (λk hk=>hf.cost _ (hs.pl (xar.1 hk)).2) 0;have hc:=hs.low;unfold Bb;simp only[xdx]at this;omega
theorem J1{o:List Int}{ds:List (List Int)}(hf:Fld o ds){s:List Int}(hs:Places s o.length)(h0:0<s.length){j:Nat}(hj:j<ds.length):MM o ds (j:Int) s=some (F8 ds j s:Int):=by
 have ab:=hs.low;have hr:=hf.rowLen j hj;have hlen:=hf.len;have key:LF ((j:Int),s,o,ds) ((pl s 0:Int),0)=some (F8 ds j s:Int):=
  (aR (f:=λv=>(Vy ((j:Int),s,o,ds) v).ev) (n:=s.length) (mk:=λk (b:Nat)=>((b:Int),(k:Int))) (I:=λ_ b=>b<o.length) (g:=nH ds j s) (fin:=λb=>(b:Int)) (s0:=pl s 0) (hs.pl h0).2
   (λk b hk hb=>by obtain⟨e1,h1⟩:=hs.pl hk;have e3:(ds.getD j []).getD (pl s k) 0=at2 ds j (pl s k):=rfl;have e4:(ds.getD j []).getD b 0=at2 ds j b:=rfl;refine⟨?_,sD hs hk hb⟩;simp(disch:=omega)only[EV,Vy,hj,hk,e1,hr,h1,hb,e3,e4];unfold nH;split<;>rfl)
   (λb _=>by simp(disch:=omega)only[EV,Vy,xi])).1
 have aa:LF ((j:Int),s,o,ds) ((pl s 0:Int),1)=some (F8 ds j s:Int):=by
  rw[<-key];unfold LF
  conv=>rhs;rw[aE]
  obtain⟨e1,h1⟩:=hs.pl h0;have e3:(ds.getD j []).getD (pl s 0) 0=at2 ds j (pl s 0):=rfl;have z:Int.toNat 0=0:=rfl;simp(disch:=omega)only[EV,Vy,hj,h0,z,e1,hr,h1,e3,JJ,show(0:Int)<(s.length:Int) by omega];rfl
 unfold MM aBR;have z:Int.toNat 0=0:=rfl;simp(disch:=omega)only[EV,z,(hs.pl h0).1,aa]
theorem uW{o:List Int}{ds:List (List Int)}(hf:Fld o ds){s:List Int}(hs:Places s o.length)(h0:0<s.length){j:Nat}(hj:j<ds.length):OH o ds (j:Int) s=some (near ds s j):=by have hr:=hf.rowLen j hj;have hb:F8 ds j s<o.length:=U5 hs h0;unfold OH aDl;have e3:(ds.getD j []).getD (F8 ds j s) 0=near ds s j:=rfl;simp(disch:=omega)only[EV,hj,J1 hf hs h0 hj,hr,hb,e3]
theorem Ul{o:List Int}{ds:List (List Int)}(hf:Fld o ds){s:List Int}(hs:Places s o.length)(h0:0<s.length){j:Nat}(hj:j<ds.length):aET o ds (j:Int) s=some (F8 ds j s:Int):=by
 have aa:=hs.low;have hr:=hf.rowLen j hj;have hlen:=hf.len;have key:aIN ((j:Int),s,(s.length:Int),o,ds) ((pl s 0:Int),0)=some (F8 ds j s:Int):=
  (aR (f:=λv=>(Xn ((j:Int),s,(s.length:Int),o,ds) v).ev) (n:=s.length) (mk:=λk (b:Nat)=>((b:Int),(k:Int))) (I:=λ_ b=>b<o.length) (g:=nH ds j s) (fin:=λb=>(b:Int)) (s0:=pl s 0) (hs.pl h0).2
   (λk b hk hb=>by obtain⟨e1,h1⟩:=hs.pl hk;have e3:(ds.getD j []).getD (pl s k) 0=at2 ds j (pl s k):=rfl;have e4:(ds.getD j []).getD b 0=at2 ds j b:=rfl;refine⟨?_,sD hs hk hb⟩;simp(disch:=omega)only[EV,Xn,hj,hk,e1,hr,h1,hb,e3,e4];unfold nH;split<;>rfl)
   (λb _=>by simp(disch:=omega)only[EV,Xn,xi])).1
 unfold aET aBJ;have z:Int.toNat 0=0:=rfl;simp(disch:=omega)only[EV,z,(hs.pl h0).1,key]
theorem iP{V R α:Type}{f:V->Option (V⊕R)}{n:Nat}(mk:Nat->List α->V)(g:Nat->α)(fin:List α->R)
  (aa:∀i l,i<n->l.length=i->f (mk i l)=some (.inl (mk (i+1) (l++ [g i])))) (ab:∀l,l.length=n->f (mk n l)=some (.inr (fin l))):aB f (mk 0 [])=some (fin ((List.range n).map g)):=by
 have:=(aR (f:=f) (n:=n) mk (λi l=>l.length=i) (λl i=>l++ [g i]) fin (s0:=[]) rfl (λi l hi hl=>⟨aa i l hi hl,by simp[hl]⟩) ab).1;rw[this];congr 2;have:∀(l:List Nat) (acc:List α),l.foldl (λl i=>l++ [g i]) acc=acc++l.map g:=by
  intro l;induction l with
  |nil=>simp
  |cons x l ih=>intro acc;simp[ih]
 rw[this];simp
theorem K3{o:List Int}{ds:List (List Int)}(hf:Fld o ds){s:List Int}(hs:Places s o.length)(h0:0<s.length):KM o ds s=some ((List.range ds.length).map λj=>(F8 ds j s:Int)):=by
 have hc:=hf.clients;have key:aLs (s,(ds.length:Int),o,ds) (0,[])=some ((List.range ds.length).map λj=>(F8 ds j s:Int)):=
  iP (f:=λv=>(AL (s,(ds.length:Int),o,ds) v).ev) (n:=ds.length) (mk:=λk (l:List Int)=>((k:Int),l)) (λj=>(F8 ds j s:Int)) (λl=>l)
   (λj l hj hl=>by
    have e:(l.length+List.length [(F8 ds j s:Int)])*8<=140737488355328:=by simp;omega
    simp(disch:=omega)only[EV,AL,hj,Ul hf hs h0 hj,e];rfl) (λl _=>by simp(disch:=omega)only[EV,AL,xi])
 unfold KM aDy;simp(disch:=omega)only[EV,key]
theorem y5{o:List Int}{ds:List (List Int)}(hf:Fld o ds){s:List Int}(hs:Places s o.length)(h0:0<s.length):LA o ds s=some (kO ds s):=by
 have hc:=hf.clients;unfold LA aGb;simp(disch:=omega)only[EV,K3 hf hs h0];generalize hr:((List.range ds.length).map λj=>(F8 ds j s:Int))=r;have aa:r.length=ds.length:=by rw[<-hr];simp
 have ab:∀j,j<ds.length->r.getD j 0=(F8 ds j s:Int):=λj hj=>by rw[<-hr,xd,oE,BU hj];rfl
 have key:aKw ((r.length:Int),o,ds,r) (0,[])=some (kO ds s):=
  iP (f:=λv=>(BQ ((r.length:Int),o,ds,r) v).ev) (n:=ds.length) (mk:=λk (l:List Int)=>((k:Int),l)) (near ds s) (λl=>l)
   (λj l hj hl=>by
    have hb:F8 ds j s<o.length:=U5 hs h0;have e3:(ds.getD j []).getD (F8 ds j s) 0=near ds s j:=rfl;have e:∀x:Int,(l.length+List.length [x])*8<=140737488355328:=λx=>by simp;omega
    simp(disch:=omega)only[EV,BQ,hj,aa,ab j hj,hf.rowLen j hj,hb,e3,e];rfl) (λl _=>by simp(disch:=omega)only[EV,BQ,aa,xi])
 simp(disch:=omega)only[EV,key]
theorem Sq{l:List Int}{B:Int}(hl:(l.length:Int)*B<9223372036854775808)(hn:(l.length:Int)<9223372036854775807)(h:∀a∈l,0<=a/\a<=B):Sf l=some (l.foldl (λa x=>a+x) 0):=by
 have key:=dP (f:=λv=>(Dx (l,(l.length:Int)) v).ev) l 0 (mk:=λk a=>(a,(k:Int))) (I:=λk a=>0<=a/\a<=(k:Int)*B) (g:=λa x=>a+x) (fin:=λa=>a) (s0:=0) (by simp)
  (λk a hk ha=>by
   have h1:=h _ (aG (d:=0) hk);have h2:((k+1:Nat):Int)*B=(k:Int)*B+B:=by rw[xey,xhe];simp
   have hB:0<=B:=by omega
   have h3:((k+1:Nat):Int)*B<=(l.length:Int)*B:=xdj (by omega) hB;refine⟨?_,by omega,by omega⟩;simp(disch:=omega)only[EV,Dx,hk];rfl)
  (λa _=>by simp(disch:=omega)only[EV,Dx,xi])
 unfold Sf OP;have k1:aDZ (l,(l.length:Int)) (0,0)=_:=key.1;simp(disch:=omega)only[EV,k1]
theorem sS{o:List Int}{ds:List (List Int)}(hf:Fld o ds){s:List Int}(hs:Places s o.length)(h0:0<s.length):Jp o ds s=some (eX ds s):=by
 have hc:=hf.clients;unfold Jp aFa;have hl:(kO ds s).length=ds.length:=by simp[kO]
 simp(disch:=omega)only[EV,y5 hf hs h0,Sq (l:=kO ds s) (B:=99) (by omega) (by omega) (λa ha=>by obtain⟨j,hj,rfl⟩:=xaf.1 ha;exact uT hf hs h0 (xar.1 hj))];unfold kO eX;rw[xhd]
theorem nO{o:List Int}{ds:List (List Int)}(hf:Fld o ds){s:List Int}(hs:Places s o.length)(h0:0<s.length):Su o ds s=some (eX ds s):=by
 have hc:=hf.clients;have key:aHp (s,o,ds) (0,0)=some (eX ds s):=
  (aR (f:=λv=>(Xq (s,o,ds) v).ev) (n:=ds.length) (mk:=λk a=>(a,(k:Int))) (I:=λk a=>0<=a/\a<=(k:Int)*99) (g:=λa j=>a+near ds s j) (fin:=λa=>a) (s0:=0) (by simp)
   (λj a hj ha=>by have h1:=uT hf hs h0 hj;refine⟨?_,by omega,by omega⟩;simp(disch:=omega)only[EV,Xq,hj,uW hf hs h0 hj];rfl)
   (λa _=>by simp(disch:=omega)only[EV,Xq,xi])).1
 unfold Su aEe;simp(disch:=omega)only[EV,key]
theorem AQ{o:List Int}{ds:List (List Int)}(hf:Fld o ds){s:List Int}(hs:Places s o.length):aAs o ds s=some (Bb o s):=by
 have aa:=hs.low;have key:aIm (s,o,ds) (0,0)=some (Bb o s):=
  (aR (f:=λv=>(Zx (s,o,ds) v).ev) (n:=s.length) (mk:=λk a=>(a,(k:Int))) (I:=λk a=>0<=a/\a<=(k:Int)*99) (g:=λa k=>a+o.getD (pl s k) 0) (fin:=λa=>a) (s0:=0) (by simp)
   (λk a hk ha=>by obtain⟨e1,h1⟩:=hs.pl hk;have h2:=hf.cost _ h1;refine⟨?_,by omega,by omega⟩;simp(disch:=omega)only[EV,Zx,hk,e1,h1];rfl)
   (λa _=>by simp(disch:=omega)only[EV,Zx,xi])).1
 unfold aAs aEL;simp(disch:=omega)only[EV,key]
theorem Lc{o:List Int}{ds:List (List Int)}(hf:Fld o ds){s:List Int}(hs:Places s o.length):ZC o ds s=some (Bb o s):=by
 have aa:=hs.low;have key:aLg (s,(s.length:Int),o,ds) (0,0)=some (Bb o s):=
  (aR (f:=λv=>(CS (s,(s.length:Int),o,ds) v).ev) (n:=s.length) (mk:=λk a=>(a,(k:Int))) (I:=λk a=>0<=a/\a<=(k:Int)*99) (g:=λa k=>a+o.getD (pl s k) 0) (fin:=λa=>a) (s0:=0) (by simp)
   (λk a hk ha=>by obtain⟨e1,h1⟩:=hs.pl hk;have h2:=hf.cost _ h1;refine⟨?_,by omega,by omega⟩;simp(disch:=omega)only[EV,CS,hk,e1,h1];rfl)
   (λa _=>by simp(disch:=omega)only[EV,CS,xi])).1
 unfold ZC aBI;simp(disch:=omega)only[EV,key]
theorem v8{o:List Int}{ds:List (List Int)}(hf:Fld o ds){s:List Int}(hs:Places s o.length)(h0:0<s.length):V4 o ds s=some (Bb o s+eX ds s):=by have h1:=nA hf hs h0;have h2:=Ks hf hs;unfold V4 aED;simp(disch:=omega)only[EV,nO hf hs h0,AQ hf hs];rw[Int.add_comm]
theorem tS{o:List Int}{ds:List (List Int)}(hf:Fld o ds){s:List Int}(hs:Places s o.length)(h0:0<s.length):u6 o ds s=some (Bb o s+eX ds s):=by have h1:=nA hf hs h0;have h2:=Ks hf hs;unfold u6 aBl;simp(disch:=omega)only[EV,sS hf hs h0,Lc hf hs]
theorem X8{l:List Int}(h0:0<l.length)(hn:(l.length:Int)<9223372036854775807):aAk l=some (l.foldl (λa x=>max a x) (l.getD 0 0)):=by
 have mx:∀a x:Int,(if a<x then x else a)=max a x:=λa x=>by
  by_cases h:a<x;·rw[qi h,xgs (by omega)]
  ·rw[qh h,Int.max_eq_left (by omega)]
 have key:=(dP (f:=λv=>(Tw l v).ev) l 0 (mk:=λk a=>(a,(k:Int))) (I:=λ_ _=>True) (g:=λa x=>max a x) (fin:=λa=>a) (s0:=l.getD 0 0) trivial
  (λk a hk _=>by refine⟨?_,trivial⟩;simp(disch:=omega)only[EV,Tw,hk,mx];rfl)
  (λa _=>by simp(disch:=omega)only[EV,Tw,xi])).1
 have aa:aBc l (l.getD 0 0,1)=some (l.foldl (λa x=>max a x) (l.getD 0 0)):=by
  rw[<-key];unfold aBc
  conv=>rhs;rw[aE]
  have z:Int.toNat 0=0:=rfl;have z1:((0:Nat):Int)=0:=rfl;have ab:(0:Int)<(l.length:Int):=by omega
  simp(disch:=omega)only[EV,Tw,h0,ab,z,z1,mx,Int.max_self];rfl
 unfold aAk aFh;have z:Int.toNat 0=0:=rfl;have h1:¬(l.length:Int)<1:=by omega
 simp(disch:=omega)only[EV,h1,z,aa]
theorem Ye{l:List Int}(h:∀x∈l,0<=x):(l++ [0]).foldl (λa x=>max a x) ((l++ [0]).getD 0 0)=l.foldl (λa x=>max a x) 0:=by
 cases l with
 |nil=>rfl
 |cons y l=>
  have h1:=h y xu;have hge:∀(l:List Int) (a:Int),a<=l.foldl (λa x=>max a x) a:=by
   intro l;induction l with
   |nil=>intro a;exact zG _
   |cons x l ih=>intro a;exact Int.le_trans (Int.le_max_left a x) (ih _)
  rw[JW];have e:((y::l)++ [0]).getD 0 0=y:=rfl;have:=hge l y;simp only[e,Z5,xga,Int.max_self,xgs h1];omega
theorem B5{o:List Int}{ds:List (List Int)}(hf:Fld o ds){s:List Int}(hs:Places s o.length)(h0:0<s.length):Yk o ds s=some (Wl ds s):=by
 have hc:=hf.clients;have key:aLw (s,o,ds) (0,0)=some (Wl ds s):=
  (aR (f:=λv=>(GJ (s,o,ds) v).ev) (n:=ds.length) (mk:=λk a=>(a,(k:Int))) (I:=λ_ _=>True) (g:=λa j=>max a (near ds s j)) (fin:=λa=>a) (s0:=0) trivial
   (λj a hj _=>by refine⟨?_,trivial⟩;simp(disch:=omega)only[EV,GJ,hj,uW hf hs h0 hj,jX];rfl)
   (λa _=>by simp(disch:=omega)only[EV,GJ,xi])).1
 unfold Yk aCg;simp(disch:=omega)only[EV,key]
theorem Cg{o:List Int}{ds:List (List Int)}(hf:Fld o ds){s:List Int}(hs:Places s o.length)(h0:0<s.length):Pi o ds s=some (Wl ds s):=by
 have hc:=hf.clients;have hl:(kO ds s).length=ds.length:=by simp[kO]
 unfold Pi aBD;have e:((kO ds s).length+List.length [(0:Int)])*8<=140737488355328:=by simp;omega
 simp(disch:=omega)only[EV,y5 hf hs h0,e,X8 (l:=kO ds s++ [0]) (by simp) (by simp;omega)];rw[Ye λx hx=>by obtain⟨j,hj,rfl⟩:=xaf.1 hx;exact(uT hf hs h0 (xar.1 hj)).1];unfold kO Wl;rw[xhd]
def dS(o:List Int)(ds:List (List Int))(s:List Int):Bool:=fQ o ds&&(cJ s 0 ((o.length:Int) -1)&&decide (0<s.length))
theorem j0{o:List Int}{ds:List (List Int)}{s:List Int}(ho:aK o)(hd:eP ds)(hs:aK s):Gs o ds s=some (dS o ds s):=by
 unfold Gs ZO dS;simp(disch:=omega)only[EV,eQ ho hd,Bk ds ho hs];have e:decide ((0:Int)<(s.length:Int))=decide (0<s.length):=by simp
 rw[e];cases fQ o ds<;>cases cJ s 0 ((o.length:Int) -1)<;>rfl
theorem lJ{o:List Int}{ds:List (List Int)}{s:List Int}(ho:aK o)(hd:eP ds)(hs:aK s):Fr o ds s=some (dS o ds s):=by
 have h:=ho;unfold aK at h;unfold Fr aDS aIn aFe dS;simp(disch:=omega)only[EV,cG ho hd,xN hs (show(0:Int)<=(o.length:Int) by omega) h];have e:((0:Int)<(s.length:Int))=(0<s.length):=by simp
 by_cases h0:0<s.length
 ·have h1:(0:Int)<(s.length:Int):=by omega
  simp only[h0,h1,decide_true,if_true,JL];cases fQ o ds<;>cases cJ s 0 ((o.length:Int) -1)<;>rfl
 ·have h1:¬(0:Int)<(s.length:Int):=by omega
  simp only[h0,h1,decide_false,if_false,xfl];cases fQ o ds<;>rfl
theorem rG{o:List Int}{ds:List (List Int)}{s:List Int}(hs:aK s)(h:dS o ds s=true):Fld o ds/\Places s o.length/\0<s.length:=by unfold dS at h;simp only[xf,qe]at h;exact⟨fieldB_iff.1 h.1,Places.of hs h.2.1,h.2.2⟩
def lL(o:List Int)(ds:List (List Int))(s:List Int)(c:Int):Int×Bool:=bif cC o ds s c&&decide (0<s.length)then(Bb o s+eX ds s,true)else(0,false)
theorem o5{o:List Int}{ds:List (List Int)}{s:List Int}{c:Int}(hs:aK s)(h:cC o ds s c=true):Fld o ds/\Places s o.length:=by unfold cC at h;simp only[xf]at h;exact⟨fieldB_iff.1 h.1,Places.of hs h.2.1⟩
theorem nD{o:List Int}{ds:List (List Int)}{s:List Int}(ho:aK o)(hd:eP ds)(hs:aK s)(c:Int):OA o ds s c=some (lL o ds s c):=by
 unfold OA aEs lL;simp(disch:=omega)only[EV,kF ho hd hs];cases h:cC o ds s c with
 |false=>rfl
 |true=>
  obtain⟨h1,h2⟩:=o5 hs h;by_cases h0:0<s.length;·have e:((s.length:Int)==0)=false:=beq_eq_false_iff_ne.2 (by omega);simp(disch:=omega)only[EV,e,h0,v8 h1 h2 h0]
  ·have e:((s.length:Int)==0)=true:=beq_iff_eq.2 (by omega);simp(disch:=omega)only[EV,e,h0]
theorem mY{o:List Int}{ds:List (List Int)}{s:List Int}(ho:aK o)(hd:eP ds)(hs:aK s)(c:Int):OO o ds s c=some (lL o ds s c):=by
 unfold OO aGd aHv aEM lL;simp(disch:=omega)only[EV,iH ho hd hs,lJ ho hd hs];cases h:cC o ds s c with
 |false=>rfl
 |true=>
  obtain⟨h1,h2⟩:=o5 hs h;have hb:dS o ds s=decide (0<s.length):=by unfold cC at h;simp only[xf]at h;unfold dS;rw[h.1,h.2.1,Gq,Gq]
  rw[hb];by_cases h0:0<s.length;·simp(disch:=omega)only[EV,h0,tS h1 h2 h0]
  ·simp(disch:=omega)only[EV,h0]
theorem all_succ{P:Nat->Prop}{i:Nat}:(∀s,s<i+1->P s)↔(∀s,s<i->P s)/\P i:=by
 refine⟨λh=>⟨λs hs=>h s (by omega),h i (by omega)⟩,λ⟨h1,h2⟩ s hs=>?_⟩;rcases Ya s i with h|h;·exact h1 s h
 ·obtain rfl:s=i:=by omega
  exact h2
def IsMin(n:Nat)(f:Nat->Int)(g:Int):Prop:=(∀s,s<n->g<=f s)/\∃s,s<n/\g=f s
theorem IsMin.uniq{n:Nat}{f:Nat->Int}{g h:Int}(a:IsMin n f g)(b:IsMin n f h):g=h:=by obtain⟨a1,s,a2,a3⟩:=a;obtain⟨b1,t,b2,b3⟩:=b;have:=a1 t b2;have:=b1 s a2;omega
def RM(i:Nat)(sel:Nat->Prop)(f:Nat->Int)(m:Int):Prop:=
 (m= -1/\∀s,s<i->¬sel s)\/(0<=m/\(∀s,s<i->sel s->m<=f s)/\∃s,s<i/\sel s/\m=f s)
theorem RM.zero(sel:Nat->Prop)(f:Nat->Int):RM 0 sel f (-1):=.inl ⟨rfl,λs hs=>absurd hs (by omega)⟩
theorem RM.skip{i:Nat}{sel:Nat->Prop}{f:Nat->Int}{m:Int}(hn:¬sel i):RM i sel f m->RM (i+1) sel f m
 | .inl ⟨a,b⟩=>.inl ⟨a,all_succ.2 ⟨b,hn⟩⟩
 | .inr ⟨a,b,s,c,d⟩=>.inr ⟨a,all_succ.2 ⟨b,λh=>absurd h hn⟩,s,by omega,d⟩
theorem RM.take{i:Nat}{sel:Nat->Prop}{f:Nat->Int}{m:Int}(hs:sel i)(h0:0<=f i)(hm:m<0\/f i<m):RM i sel f m->RM (i+1) sel f (f i)
 | .inl ⟨_,b⟩=>.inr ⟨h0,all_succ.2 ⟨λs h k=>absurd k (b s h),λ_=>zG _⟩,i,by omega,hs,rfl⟩
 | .inr ⟨a,b,_⟩=>.inr ⟨h0,all_succ.2 ⟨λs h k=>by have:=b s h k;omega,λ_=>zG _⟩,i,by omega,hs,rfl⟩
theorem RM.keep{i:Nat}{sel:Nat->Prop}{f:Nat->Int}{m:Int}(h0:¬m<0)(hm:¬f i<m):RM i sel f m->RM (i+1) sel f m
 | .inl ⟨a,_⟩=>by omega
 | .inr ⟨a,b,s,c,d⟩=>.inr ⟨a,all_succ.2 ⟨b,λ_=>by omega⟩,s,by omega,d⟩
def pos(x:Int):Int:=if 0<x then x else 0
theorem dJ(x:Int):0<=pos x/\(0<=x->pos x=x)/\(x<=0->pos x=0):=by unfold pos;split<;>refine⟨by omega,by omega,by omega⟩
theorem Lz(x:Int):max 0 x=pos x:=by unfold pos;split<;>omega
def fP(ds:List (List Int))(p:List Int)(s:Nat):Nat->Int
 |0=>0
 |k+1=>fP ds p s k+pos (p.getD k 0-at2 ds k s)
def tI(ds:List (List Int))(p:List Int)(s:Nat):Int:=fP ds p s ds.length
def fZ(p:List Int):Nat->Int
 |0=>0
 |k+1=>fZ p k+p.getD k 0
theorem cQ(l:List Int){i:Nat}(hi:i<l.length)(j:Nat)(v:Int):(l.set i v).getD j 0=if i=j then v else l.getD j 0:=by
 rw[xd,xd,VA];by_cases h:i=j;·subst h;simp[hi]
 ·simp[h]
theorem El{ds:List (List Int)}{p:List Int}{c:Nat}(hc:c<p.length)(n:Int)(s:Nat):∀k,fP ds (p.set c n) s k=fP ds p s k+if c<k then pos (n-at2 ds c s) -pos (p.getD c 0-at2 ds c s)else 0
 |0=>by simp[fP]
 |k+1=>by
  rw[fP,fP,El hc n s k,cQ p hc];by_cases h1:c=k;·subst h1;rw[qi rfl,qh (by omega),qi (by omega)];omega
  ·rw[qh h1];by_cases h2:c<k;·rw[qi h2,qi (by omega)];omega
   ·rw[qh h2,qh (by omega)];omega
theorem jS{ds:List (List Int)}{p:List Int}{s:Nat}:∀k,0<=fP ds p s k/\∀c,c<k->pos (p.getD c 0-at2 ds c s)<=fP ds p s k
 |0=>⟨by simp[fP],λc h=>absurd h (by omega)⟩
 |k+1=>by obtain⟨h1,h2⟩:=jS (ds:=ds) (p:=p) (s:=s) k;have h3:=(dJ (p.getD k 0-at2 ds k s)).1;refine⟨by rw[fP];omega,all_succ.2 ⟨λc hc=>by have:=h2 c hc;rw[fP];omega,by rw[fP];omega⟩⟩
theorem Eo{p:List Int}{c:Nat}(hc:c<p.length)(n:Int):∀k,fZ (p.set c n) k=fZ p k+if c<k then n-p.getD c 0 else 0
 |0=>by simp[fZ]
 |k+1=>by
  rw[fZ,fZ,Eo hc n k,cQ p hc];by_cases h1:c=k;·subst h1;rw[qi rfl,qh (by omega),qi (by omega)];omega
  ·rw[qh h1];by_cases h2:c<k;·rw[qi h2,qi (by omega)];omega
   ·rw[qh h2,qh (by omega)];omega
structure PI(o:List Int)(ds:List (List Int))(p:List Int):Prop where
 len:p.length=ds.length
 near:∀c,c<ds.length->∃s,s<o.length/\at2 ds c s<=p.getD c 0
 room:∀s,s<o.length->tI ds p s<=o.getD s 0
theorem PI.val{o:List Int}{ds:List (List Int)}{p:List Int}(h:PI o ds p)(hf:Fld o ds){c:Nat}(hc:c<ds.length):0<=p.getD c 0/\p.getD c 0<=198:=by obtain⟨s,h1,h2⟩:=h.near c hc;have h3:=hf.at2 hc h1;have h4:=h.room s h1;have h5:=hf.cost s h1;have h6:=(jS (ds:=ds) (p:=p) (s:=s) ds.length).2 c hc;have h7:=(dJ (p.getD c 0-at2 ds c s)).2.1 (by omega);unfold tI at h4;omega
theorem nL{o:List Int}{ds:List (List Int)}{p:List Int}(h:PI o ds p)(hf:Fld o ds){s:Nat}(hs:s<o.length):∀k,k<=ds.length->fP ds p s k<=198*k
 |0,_=>by simp[fP]
 |k+1,hk=>by
  have h1:=nL h hf hs k (by omega);have h2:=h.val hf (show k<ds.length by omega);have h3:=hf.at2 (show k<ds.length by omega) hs;have h4:pos (p.getD k 0-at2 ds k s)<=198:=by
   have:=dJ (p.getD k 0-at2 ds k s);by_cases hx:0<=p.getD k 0-at2 ds k s;·have:=this.2.1 hx;omega
   ·have:=this.2.2 (by omega);omega
  rw[fP];omega
theorem qS{o:List Int}{ds:List (List Int)}{p:List Int}(h:PI o ds p)(hf:Fld o ds):∀k,k<=ds.length->0<=fZ p k/\fZ p k<=198*k
 |0,_=>by simp[fZ]
 |k+1,hk=>by have h1:=qS h hf k (by omega);have h2:=h.val hf (show k<ds.length by omega);rw[fZ];omega
def lH(o:List Int)(ds:List (List Int))(p:List Int)(c s:Nat):Int:=if at2 ds c s<=p.getD c 0 then o.getD s 0-tI ds p s else at2 ds c s-p.getD c 0
theorem Nz{o:List Int}{ds:List (List Int)}{p:List Int}(h:PI o ds p){c s:Nat}(hs:s<o.length):0<=lH o ds p c s:=by have:=h.room s hs;unfold lH;split<;>omega
theorem PI.step{o:List Int}{ds:List (List Int)}{p:List Int}(h:PI o ds p){c:Nat}(hc:c<ds.length){g:Int}(hg:IsMin o.length (lH o ds p c) g):0<=g/\PI o ds (p.set c (p.getD c 0+g)):=by
 have aa:c<p.length:=by rw[h.len];exact hc
 have h0:0<=g:=by obtain⟨_,s,h1,h2⟩:=hg;rw[h2];exact Nz h h1
 refine⟨h0,by rw[C7];exact h.len,λc' ab=>?_,λs hs=>?_⟩
 ·obtain⟨s,h1,h2⟩:=h.near c' ab;refine⟨s,h1,?_⟩;rw[cQ p aa];split
  next he=>subst he;omega
  next=>exact h2
 ·have h1:=hg.1 s hs;have h2:=h.room s hs;unfold tI at h2⊢;rw[El aa,qi hc];have h3:=dJ (p.getD c 0-at2 ds c s);have h4:=dJ (p.getD c 0+g-at2 ds c s);unfold lH tI at h1;split at h1;·have:=h3.2.1 (by omega);have:=h4.2.1 (by omega);omega
  ·have:=h3.2.2 (by omega);have:=h4.2.2 (by omega);omega
theorem sI{o:List Int}{ds:List (List Int)}{p:List Int}(hf:Fld o ds)(hp:PI o ds p){s:Nat}(hs:s<o.length):Hb o ds p (s:Int) 1=some (tI ds p s):=by
 have hl:=hp.len;have ab:=hf.clients;have key:aDu (p,(s:Int),(1:Int),o,ds) ((0:Int),(0:Int))=some (fP ds p s p.length):=by
  obtain⟨r,h1,h2⟩:=aL (f:=λv=>(Bp (p,(s:Int),(1:Int),o,ds) v).ev) (n:=p.length) (λi (a:Int)=>(a,(i:Int))) (λi a=>a=fP ds p s i) (λr=>r=fP ds p s p.length) (s0:=0) rfl
   (λi a hi ha=>by
    subst ha;left;have aa:i<ds.length:=by omega
    have hr:=hf.rowLen i aa;have h1:=hp.val hf aa;have h2:=hf.at2 aa hs;have h3:=nL hp hf hs i (by omega);have h4:=(jS (ds:=ds) (p:=p) (s:=s) i).1;have e3:(ds.getD i []).getD s 0=at2 ds i s:=rfl;have h5:=nL hp hf hs (i+1) (by omega);have h6:=(jS (ds:=ds) (p:=p) (s:=s) (i+1)).1;rw[fP]at h5 h6;refine⟨_,?_,rfl⟩;simp(disch:=omega)only[EV,Bp,hi,aa,hr,hs,e3,jX,Int.one_mul,Lz];rfl)
   (λa ha=>⟨a,by simp(disch:=omega)only[EV,Bp,xi],ha⟩)
  exact h1.trans (congrArg some h2)
 unfold Hb LY tI;rw[hl]at key;simp(disch:=omega)only[EV,key]
theorem Ub{o:List Int}{ds:List (List Int)}{p:List Int}(hf:Fld o ds)(hp:PI o ds p){c:Nat}(hc:c<ds.length):∃g,aDC o ds p (c:Int)=some g/\IsMin o.length (lH o ds p c) g:=by
 have hl:=hp.len;have ae:c<p.length:=by omega
 have ah:=hf.pos;have hlen:=hf.len;have hr:=hf.rowLen c hc;have h1:=hp.val hf hc;obtain⟨r,k1,k2⟩:=aL (f:=λv=>(E5 (p,(c:Int),p.getD c 0,o,ds) v).ev) (n:=o.length) (λi (a:Int)=>(a,(i:Int))) (λi a=>RM i (λ_=>True) (lH o ds p c) a) (λr=>RM o.length (λ_=>True) (lH o ds p c) r) (s0:= -1) (RM.zero _ _)
  (λi a hi ha=>by
   left;have h2:=hf.at2 hc hi;have h3:=hf.cost i hi;have h4:=nL hp hf hi ds.length (xm _);have h5:=(jS (ds:=ds) (p:=p) (s:=i) ds.length).1;have h6:tI ds p i=fP ds p i ds.length:=rfl;have h7:=hf.clients;have e3:(ds.getD c []).getD i 0=at2 ds c i:=rfl;have hg:=Nz hp (c:=c) hi;by_cases hn:at2 ds c i<=p.getD c 0
   ·have ab:lH o ds p c i=o.getD i 0-tI ds p i:=by unfold lH;rw[qi hn]
    by_cases aa:a<0;·refine⟨lH o ds p c i,?_,ha.take trivial hg (.inl aa)⟩;rw[ab];simp(disch:=omega)only[EV,E5,hi,hc,hr,e3,hn,sI hf hp hi,aa];rfl
    ·by_cases ad:o.getD i 0-tI ds p i<a;·refine⟨lH o ds p c i,?_,ha.take trivial hg (.inr (by rw[ab];exact ad))⟩;rw[ab];simp(disch:=omega)only[EV,E5,hi,hc,hr,e3,hn,sI hf hp hi,aa,ad];rfl
     ·refine⟨a,?_,ha.keep aa (by rw[ab];exact ad)⟩;simp(disch:=omega)only[EV,E5,hi,hc,hr,e3,hn,sI hf hp hi,aa,ad];rfl
   ·have ab:lH o ds p c i=at2 ds c i-p.getD c 0:=by unfold lH;rw[qh hn]
    by_cases aa:a<0;·refine⟨lH o ds p c i,?_,ha.take trivial hg (.inl aa)⟩;rw[ab];simp(disch:=omega)only[EV,E5,hi,hc,hr,e3,hn,aa];rfl
    ·by_cases ad:at2 ds c i-p.getD c 0<a;·refine⟨lH o ds p c i,?_,ha.take trivial hg (.inr (by rw[ab];exact ad))⟩;rw[ab];simp(disch:=omega)only[EV,E5,hi,hc,hr,e3,hn,aa,ad];rfl
     ·refine⟨a,?_,ha.keep aa (by rw[ab];exact ad)⟩;simp(disch:=omega)only[EV,E5,hi,hc,hr,e3,hn,aa,ad];rfl)
  (λa ha=>⟨a,by simp(disch:=omega)only[EV,E5,xi],ha⟩)
 have af:aJQ (p,(c:Int),p.getD c 0,o,ds) ((-1:Int),(0:Int))=some r:=k1;refine⟨r,?_,?_⟩;·unfold aDC ZG;simp(disch:=omega)only[EV,ae,af]
 ·rcases k2 with⟨_,h⟩|⟨_,h,s,a,_,b⟩
  ·exact absurd trivial (h 0 (by omega))
  ·exact⟨λs hs=>h s hs trivial,s,a,b⟩
theorem Va{o:List Int}{ds:List (List Int)}{p:List Int}(hf:Fld o ds)(hp:PI o ds p):∃r,Ln o ds p 1=some r/\r.length=o.length/\∀s,s<o.length->r.getD s 0=tI ds p s:=by
 have hl:=hp.len;have ao:=hf.clients;have hlen:=hf.len;obtain⟨r,k1,k2⟩:=aL (f:=λv=>(Cm (p,(1:Int),ds,(ds.length:Int)) v).ev) (n:=ds.length) (λi (a:List Int)=>((i:Int),a)) (λi a=>a.length=o.length/\∀s,s<o.length->a.getD s 0=fP ds p s i) (λr=>r.length=o.length/\∀s,s<o.length->r.getD s 0=tI ds p s) (s0:=List.replicate o.length 0)
  ⟨by simp,λs hs=>by rw[xd,xco,qi hs];rfl⟩
  (λc a hc ⟨ah,ai⟩=>by
   left;have hr:=hf.rowLen c hc;have aj:c<p.length:=by omega
   have h1:=hp.val hf hc;obtain⟨b,j1,j2⟩:=aL (f:=λv=>(Kv (p,(1:Int),(c:Int),ds,(ds.length:Int),(c:Int),ds.getD c [],((ds.getD c []).length:Int)) v).ev) (n:=(ds.getD c []).length) (λi (a:List Int)=>((i:Int),a)) (λi a=>a.length=o.length/\∀s,s<o.length->a.getD s 0=if s<i then fP ds p s (c+1)else fP ds p s c) (λr=>r.length=o.length/\∀s,s<o.length->r.getD s 0=fP ds p s (c+1)) (s0:=a)
    ⟨ah,λs hs=>by rw[qh (by omega)];exact ai s hs⟩
    (λi a hi ⟨ad,aa⟩=>by
     left;have ab:i<o.length:=by omega
     have ae:i<a.length:=by omega
     have h2:=hf.at2 hc ab;have h3:=nL hp hf ab c (by omega);have h4:=(jS (ds:=ds) (p:=p) (s:=i) c).1;have h5:=nL hp hf ab (c+1) (by omega);have h6:=(jS (ds:=ds) (p:=p) (s:=i) (c+1)).1;have e3:(ds.getD c []).getD i 0=at2 ds c i:=rfl;have e4:a.getD i 0=fP ds p i c:=by rw[aa i ab,qh (by omega)]
     have e5:(if(0:Int)<p.getD c 0-at2 ds c i then p.getD c 0-at2 ds c i else 0)=pos (p.getD c 0-at2 ds c i):=rfl;rw[fP]at h5 h6;refine⟨a.set i (fP ds p i (c+1)),?_,by rw[C7];exact ad,λs hs=>?_⟩;·simp(disch:=omega)only[EV,Kv,hi,ae,aj,e3,e4,Int.mul_one,e5];rfl
     ·rw[cQ a ae];by_cases af:i=s;·subst af;rw[qi rfl,qi (by omega)]
      ·rw[qh af,aa s hs];by_cases h:s<i;·rw[qi h,qi (by omega)]
       ·rw[qh h,qh (by omega)])
    (λa ⟨ad,aa⟩=>⟨a,by simp(disch:=omega)only[EV,Kv,xi],ad,λs hs=>by rw[aa s hs,qi (by omega)]⟩)
   have ak:aDm (p,(1:Int),(c:Int),ds,(ds.length:Int),(c:Int),ds.getD c [],((ds.getD c []).length:Int)) ((0:Int),a)=some b:=j1;refine⟨b,?_,j2⟩;simp(disch:=omega)only[EV,Cm,hc,ak];rfl)
  (λa ha=>⟨a,by simp(disch:=omega)only[EV,Cm,xi],ha⟩)
 have al:aAA (p,(1:Int),ds,(ds.length:Int)) ((0:Int),List.replicate o.length 0)=some r:=k1;refine⟨r,?_,k2⟩;unfold Ln MG;have e1:(0:Int)<=(o.length:Int):=by omega
 have e2:((8:Nat):Int)*(o.length:Int)<=281474976710656:=by omega
 simp(disch:=omega)only[EV,e1,e2,zG,al]
theorem FV{o:List Int}{ds:List (List Int)}{p:List Int}(hf:Fld o ds)(hp:PI o ds p):∃r,aFt o ds p=some r/\r.length=o.length/\∀s,s<o.length->r.getD s 0=o.getD s 0-tI ds p s:=by
 have hlen:=hf.len;have ai:=hf.clients;obtain⟨q,q1,q2,q3⟩:=Va hf hp;obtain⟨r,k1,k2⟩:=aL (f:=λv=>(Yy ((q.length:Int),o,ds) v).ev) (n:=q.length) (λi (a:List Int)=>((i:Int),a)) (λi a=>a.length=o.length/\∀s,s<o.length->a.getD s 0=if s<i then o.getD s 0-tI ds p s else tI ds p s) (λr=>r.length=o.length/\∀s,s<o.length->r.getD s 0=o.getD s 0-tI ds p s) (s0:=q)
  ⟨q2,λs hs=>by rw[qh (by omega)];exact q3 s hs⟩
  (λi a hi ⟨ad,aa⟩=>by
   left;have ab:i<o.length:=by omega
   have ae:i<a.length:=by omega
   have h3:=nL hp hf ab ds.length (xm _);have h4:=(jS (ds:=ds) (p:=p) (s:=i) ds.length).1;have h5:=hf.cost i ab;have h6:tI ds p i=fP ds p i ds.length:=rfl;have e4:a.getD i 0=tI ds p i:=by rw[aa i ab,qh (by omega)]
   refine⟨a.set i (o.getD i 0-tI ds p i),?_,by rw[C7];exact ad,λs hs=>?_⟩;·simp(disch:=omega)only[EV,Yy,hi,ae,ab,e4];rfl
   ·rw[cQ a ae];by_cases af:i=s;·subst af;rw[qi rfl,qi (by omega)]
    ·rw[qh af,aa s hs];by_cases h:s<i;·rw[qi h,qi (by omega)]
     ·rw[qh h,qh (by omega)])
  (λa ⟨ad,aa⟩=>⟨a,by simp(disch:=omega)only[EV,Yy,xi],ad,λs hs=>by rw[aa s hs,qi (by omega)]⟩)
 have ah:aKL ((q.length:Int),o,ds) ((0:Int),q)=some r:=k1;refine⟨r,?_,k2⟩;unfold aFt aAh;simp(disch:=omega)only[EV,q1,ah]
def cY(p:Nat->Prop)[DecidablePred p]:Nat->Nat
 |0=>0
 |k+1=>cY p k+if p k then 1 else 0
theorem uG{p q:Nat->Prop}[DecidablePred p][DecidablePred q]:∀{n:Nat},(∀i,i<n->p i->q i)->cY p n<=cY q n
 |0,_=>xm _
 |n+1,h=>by
  have h1:=uG (n:=n) λi hi=>h i (by omega);have h2:=h n (by omega);unfold cY;by_cases hp:p n;·rw[qi hp,qi (h2 hp)];omega
  ·rw[qh hp];omega
theorem W0{p q:Nat->Prop}[DecidablePred p][DecidablePred q]:∀{n:Nat},(∀i,i<n->p i->q i)->(∃i,i<n/\q i/\¬p i)->cY p n<cY q n
 |0,_,⟨_,h,_⟩=>absurd h (by omega)
 |n+1,h,⟨i,hi,hq,hp⟩=>by
  unfold cY;by_cases e:i=n;·subst e;have h1:=uG (n:=i) λj hj=>h j (by omega);rw[qh hp,qi hq];omega
  ·have h1:=W0 (n:=n) (λj hj=>h j (by omega)) ⟨i,by omega,hq,hp⟩;have h2:=h n (by omega);by_cases hp:p n;·rw[qi hp,qi (h2 hp)];omega
   ·rw[qh hp];omega
theorem cntN_pos{p:Nat->Prop}[DecidablePred p]{n:Nat}:0<cY p n↔∃i,i<n/\p i:=by
 induction n with
 |zero=>simp[cY]
 |succ n ih=>
  unfold cY;constructor
  ·intro h;by_cases hp:p n;·exact⟨n,by omega,hp⟩
   ·rw[qh hp]at h;obtain⟨i,h1,h2⟩:=ih.1 (by omega);exact⟨i,by omega,h2⟩
  ·rintro⟨i,h1,h2⟩;by_cases e:i=n;·subst e;rw[qi h2];omega
   ·have:=ih.2 ⟨i,by omega,h2⟩;omega
theorem fE(p:Nat->Prop)[DecidablePred p]:∀n,cY p n<=n
 |0=>xm _
 |n+1=>by have:=fE p n;unfold cY;split<;>omega
def dA(ds:List (List Int))(i a:Nat):Int:=at2 ds i a*2520
def lF(o:List Int)(a:Nat):Int:=o.getD a 0*2520
def fA(ds:List (List Int))(p:List Int)(a:Nat):Nat->Int
 |0=>0
 |k+1=>fA ds p a k+pos (p.getD k 0-dA ds k a)
def iZ(ds:List (List Int))(p:List Int)(a:Nat):Int:=fA ds p a ds.length
def gP(ds:List (List Int))(w p:List Int)(now:Int):List Int:=(List.range ds.length).map λi=>if w.getD i 0<0 then now else p.getD i 0
def gT(o:List Int)(ds:List (List Int))(p tm:List Int)(now:Int):List Int:=(List.range o.length).map λa=>if tm.getD a 0<0/\lF o a<=iZ ds p a then now else tm.getD a 0
def gB(ds:List (List Int))(tm:List Int)(now:Int)(i:Nat):Nat->Int
 |0=> -1
 |a+1=>if 0<=tm.getD a 0/\dA ds i a<=now/\(gB ds tm now i a<0\/tm.getD a 0<tm.getD (gB ds tm now i a).toNat 0)then(a:Int)else gB ds tm now i a
def gW(o:List Int)(ds:List (List Int))(tm w:List Int)(now:Int):List Int:=(List.range ds.length).map λi=>if w.getD i 0<0 then gB ds tm now i o.length else w.getD i 0
def rL(ds:List (List Int))(w:List Int)(now:Int)(a k:Nat):Nat:=cY (λi=>w.getD i 0<0/\dA ds i a<=now) k
def aT(ds:List (List Int))(w:List Int)(now:Int)(a:Nat):Nat:=rL ds w now a ds.length
def gC1(o:List Int)(ds:List (List Int))(w:List Int)(now t:Int):Prop:=∃i,i<ds.length/\∃a,a<o.length/\w.getD i 0<0/\now<dA ds i a/\t=dA ds i a
def gC2(o:List Int)(ds:List (List Int))(p tm w:List Int)(now t:Int):Prop:=∃a,a<o.length/\tm.getD a 0<0/\0<aT ds w now a/\t=now+(lF o a-iZ ds p a+(aT ds w now a:Int) -1) / (aT ds w now a:Int)
def gC(o:List Int)(ds:List (List Int))(p tm w:List Int)(now t:Int):Prop:=gC1 o ds w now t\/gC2 o ds p tm w now t
theorem kH{n:Nat}{f:Nat->Int}{i:Nat}(h:i<n):((List.range n).map f).getD i 0=f i:=by rw[xd,oE,BU h];rfl
theorem gG{ds:List (List Int)}{w p:List Int}{now:Int}{i:Nat}(h:i<ds.length):(gP ds w p now).getD i 0=if w.getD i 0<0 then now else p.getD i 0:=kH h
theorem qI{o:List Int}{ds:List (List Int)}{p tm:List Int}{now:Int}{a:Nat}(h:a<o.length):(gT o ds p tm now).getD a 0=if tm.getD a 0<0/\lF o a<=iZ ds p a then now else tm.getD a 0:=kH h
theorem rI{o:List Int}{ds:List (List Int)}{tm w:List Int}{now:Int}{i:Nat}(h:i<ds.length):(gW o ds tm w now).getD i 0=if w.getD i 0<0 then gB ds tm now i o.length else w.getD i 0:=kH h
theorem B3{ds:List (List Int)}{tm:List Int}{now:Int}{i:Nat}:∀n:Nat,(gB ds tm now i n= -1/\∀a,a<n->¬(0<=tm.getD a 0/\dA ds i a<=now))\/(0<=gB ds tm now i n/\gB ds tm now i n<n/\0<=tm.getD (gB ds tm now i n).toNat 0)
 |0=>.inl ⟨rfl,λa h=>absurd h (by omega)⟩
 |n+1=>by
  have ih:=B3 (ds:=ds) (tm:=tm) (now:=now) (i:=i) n;rw[gB];by_cases hc:0<=tm.getD n 0/\dA ds i n<=now/\(gB ds tm now i n<0\/tm.getD n 0<tm.getD (gB ds tm now i n).toNat 0)
  ·rw[qi hc];exact .inr ⟨by omega,by omega,hc.1⟩
  ·rw[qh hc];rcases ih with⟨h1,h2⟩|⟨h1,h2,h3⟩
   ·exact .inl ⟨h1,all_succ.2 ⟨h2,λh=>hc ⟨h.1,h.2,.inl (by omega)⟩⟩⟩
   ·exact .inr ⟨h1,by omega,h3⟩
structure GI(o:List Int)(ds:List (List Int))(p tm w:List Int)(now:Int):Prop where
 pl:p.length=ds.length
 tl:tm.length=o.length
 wl:w.length=ds.length
 n0:0<=now
 n1:now<=498960
 wi:∀i,i<ds.length->w.getD i 0= -1\/(0<=w.getD i 0/\w.getD i 0<o.length/\0<=p.getD i 0/\p.getD i 0<now)
 ti:∀a,a<o.length->tm.getD a 0= -1\/(0<=tm.getD a 0/\tm.getD a 0<now)
theorem wD{o:List Int}{ds:List (List Int)}(hf:Fld o ds){i a:Nat}(hi:i<ds.length)(ha:a<o.length):0<=dA ds i a/\dA ds i a<=249480:=by have:=hf.at2 hi ha;unfold dA;omega
theorem U0{o:List Int}{ds:List (List Int)}(hf:Fld o ds){a:Nat}(ha:a<o.length):0<=lF o a/\lF o a<=249480:=by have:=hf.cost a ha;unfold lF;omega
theorem IY{x y:Int}(h:x<=y):pos x<=pos y:=by
 have h1:=dJ x;have h2:=dJ y;by_cases h0:0<=x;·have:=h1.2.1 h0;have:=h2.2.1 (by omega);omega
 ·have:=h1.2.2 (by omega);omega
theorem lW{o:List Int}{ds:List (List Int)}{p:List Int}(hf:Fld o ds)(hp:∀i,i<ds.length->p.getD i 0<=498960){a:Nat}(ha:a<o.length):∀k,k<=ds.length->0<=fA ds p a k/\fA ds p a k<=498960*k/\∀c,c<k->pos (p.getD c 0-dA ds c a)<=fA ds p a k
 |0,_=>⟨zG _,by simp[fA],λc h=>absurd h (by omega)⟩
 |k+1,hk=>by
  obtain⟨h1,h2,h3⟩:=lW hf hp ha k (by omega);have h4:=dJ (p.getD k 0-dA ds k a);have h5:=hp k (by omega);have h6:=wD hf (show k<ds.length by omega) ha;have h7:pos (p.getD k 0-dA ds k a)<=498960:=by
   by_cases h0:0<=p.getD k 0-dA ds k a;·have:=h4.2.1 h0;omega
   ·have:=h4.2.2 (by omega);omega
  rw[fA];exact⟨by omega,by omega,all_succ.2 ⟨λc hc=>by have:=h3 c hc;omega,by omega⟩⟩
theorem GI.price{o:List Int}{ds:List (List Int)}{p tm w:List Int}{now:Int}(h:GI o ds p tm w now){i:Nat}(hi:i<ds.length):0<=(gP ds w p now).getD i 0/\(gP ds w p now).getD i 0<=now/\((gP ds w p now).getD i 0=now↔w.getD i 0<0):=by
 rw[gG hi];have h0:=h.n0;rcases h.wi i hi with h1|⟨h1,_,h2,h3⟩
 ·rw[qi (by omega)];exact⟨h0,zG _,λ_=>by omega,λ_=>rfl⟩
 ·rw[qh (by omega)];exact⟨h2,by omega,λ_=>by omega,λ_=>by omega⟩
section
variable {o:List Int}{ds:List (List Int)}{p tm w:List Int}{now:Int}
theorem GI.on(_h:GI o ds p tm w now){i:Nat}(hi:i<ds.length)(hw:(gW o ds (gT o ds (gP ds w p now) tm now) w now).getD i 0<0):w.getD i 0<0/\∀a,a<o.length->dA ds i a<=now->(gT o ds (gP ds w p now) tm now).getD a 0<0:=by
 rw[rI hi]at hw;by_cases h0:w.getD i 0<0
 ·rw[qi h0]at hw;refine⟨h0,λa ha hl=>?_⟩;rcases B3 (ds:=ds) (tm:=gT o ds (gP ds w p now) tm now) (now:=now) (i:=i) o.length with⟨_,h2⟩|⟨h1,_⟩
  ·have:=h2 a ha;by_cases hx:0<=(gT o ds (gP ds w p now) tm now).getD a 0;·exact absurd ⟨hx,hl⟩ this
   ·omega
  ·omega
 ·rw[qh h0]at hw;exact absurd hw h0
theorem GI.tight(h:GI o ds p tm w now){a:Nat}(ha:a<o.length)(ht:(gT o ds (gP ds w p now) tm now).getD a 0<0):tm.getD a 0<0/\iZ ds (gP ds w p now) a<lF o a:=by
 have h0:=h.n0;rw[qI ha]at ht;by_cases hc:tm.getD a 0<0/\lF o a<=iZ ds (gP ds w p now) a;·rw[qi hc]at ht;omega
 ·rw[qh hc]at ht;exact⟨ht,by
   by_cases hx:lF o a<=iZ ds (gP ds w p now) a;·exact absurd ⟨ht,hx⟩ hc
   ·omega⟩
theorem yU{x:Int}{k:Nat}(hx:0<x)(hk:0<k):0<(x+(k:Int) -1) / (k:Int)/\(x+(k:Int) -1) / (k:Int)<=x/\x<=(k:Int)*((x+(k:Int) -1) / (k:Int)):=by
 have h1:=Int.emod_add_mul_ediv (x+(k:Int) -1) (k:Int);have h2:=xgb (x+(k:Int) -1) (show(0:Int)<k by omega);have h3:=xha (x+(k:Int) -1) (show(k:Int)≠0 by omega);generalize hq:(x+(k:Int) -1) / (k:Int)=q at*;generalize(x+(k:Int) -1) % (k:Int)=r at*;have h4:0<q:=by
  by_cases aa:0<q;·exact aa
  ·have:(k:Int)*q<=(k:Int)*0:=xcj (by omega) (by omega);omega
 refine⟨h4,?_,by omega⟩;have h5:(k:Int)*q=q+((k:Int) -1)*q:=by rw[Int.sub_mul];omega
 have h6:((k:Int) -1)*1<=((k:Int) -1)*q:=xcj (by omega) (by omega);omega
theorem GI.later(hf:Fld o ds)(h:GI o ds p tm w now){t:Int}(ht:gC o ds (gP ds w p now) (gT o ds (gP ds w p now) tm now) (gW o ds (gT o ds (gP ds w p now) tm now) w now) now t):now<t/\t<=498960:=by
 rcases ht with⟨i,hi,a,ha,_,h1,rfl⟩|⟨a,ha,h1,h2,rfl⟩
 ·have:=wD hf hi ha;exact⟨h1,by omega⟩
 ·obtain⟨_,h3⟩:=h.tight ha h1;obtain⟨i,hi,h4,h5⟩:=cntN_pos.1 h2;obtain⟨h6,_⟩:=h.on hi h4;have h7:=yU (x:=lF o a-iZ ds (gP ds w p now) a) (by omega) h2;have h8:=U0 hf ha;have h9:=wD hf hi ha;have aa:=(lW (p:=gP ds w p now) hf (λi hi=>by have:=(h.price hi).2.1;have:=h.n1;omega) ha ds.length (xm _)).2.2 i hi;have ab:=(h.price hi).2.2.2 h6;rw[ab]at aa;have ad:=(dJ (now-dA ds i a)).2.1 (by omega);unfold iZ at h7 h3⊢;omega
theorem GI.some(hf:Fld o ds)(h:GI o ds p tm w now){i:Nat}(hi:i<ds.length)(hw:(gW o ds (gT o ds (gP ds w p now) tm now) w now).getD i 0<0):∃t,gC o ds (gP ds w p now) (gT o ds (gP ds w p now) tm now) (gW o ds (gT o ds (gP ds w p now) tm now) w now) now t:=by
 have ha:0<o.length:=by have:=hf.pos;omega
 obtain⟨_,h2⟩:=h.on hi hw;by_cases hl:dA ds i 0<=now;·exact⟨_,.inr ⟨0,ha,h2 0 ha hl,cntN_pos.2 ⟨i,hi,hw,hl⟩,rfl⟩⟩
 ·exact⟨_,.inl ⟨i,hi,0,ha,hw,by omega,rfl⟩⟩
def gL(o:List Int)(ds:List (List Int))(now:Int):Nat:=cY (λx=>now<dA ds (x/ o.length) (x % o.length)) (ds.length*o.length)
def gM(o:List Int)(ds:List (List Int))(p tm w:List Int)(now:Int):Nat:=gL o ds now+cY (λa=>(gT o ds (gP ds w p now) tm now).getD a 0<0) o.length
theorem K0{p q:List Int}{a:Nat}{d:Int}(hd:0<=d){w:List Int}:∀k,k<=ds.length->(∀i,i<ds.length->p.getD i 0<=q.getD i 0)->(∀i,i<ds.length->w.getD i 0<0->q.getD i 0=p.getD i 0+d/\p.getD i 0=now)->fA ds p a k+(rL ds w now a k:Int)*d<=fA ds q a k
 |0,_,_,_=>by simp[fA,rL,cY]
 |k+1,hk,h1,h2=>by
  have ih:=K0 hd k (by omega) h1 h2 (a:=a);have h3:=IY (x:=p.getD k 0-dA ds k a) (y:=q.getD k 0-dA ds k a) (by have:=h1 k (by omega);omega);rw[fA,fA];unfold rL at ih⊢;rw[cY];by_cases hc:w.getD k 0<0/\dA ds k a<=now;·rw[qi hc];obtain⟨h4,h5⟩:=h2 k (by omega) hc.1;have h6:=(dJ (p.getD k 0-dA ds k a)).2.1 (by omega);have h7:=(dJ (q.getD k 0-dA ds k a)).2.1 (by omega);rw[xey,xhe];simp only[Int.natCast_one,Int.one_mul];omega
  ·rw[qh hc,zL];omega
theorem GI.next(hf:Fld o ds)(h:GI o ds p tm w now){t:Int}(ht:gC o ds (gP ds w p now) (gT o ds (gP ds w p now) tm now) (gW o ds (gT o ds (gP ds w p now) tm now) w now) now t):
  GI o ds (gP ds w p now) (gT o ds (gP ds w p now) tm now) (gW o ds (gT o ds (gP ds w p now) tm now) w now) t/\
  gM o ds (gP ds w p now) (gT o ds (gP ds w p now) tm now) (gW o ds (gT o ds (gP ds w p now) tm now) w now) t<gM o ds p tm w now:=by
 obtain⟨l1,l2⟩:=h.later hf ht;have h0:=h.n0;have g:GI o ds (gP ds w p now) (gT o ds (gP ds w p now) tm now) (gW o ds (gT o ds (gP ds w p now) tm now) w now) t:=by
  refine⟨by simp[gP],by simp[gT],by simp[gW],by omega,l2,λi hi=>?_,λa ha=>?_⟩
  ·obtain⟨h1,h2,h3⟩:=h.price hi;rw[rI hi];rcases h.wi i hi with h4|⟨h4,h5,_⟩
   ·rw[qi (by omega)];rcases B3 (ds:=ds) (tm:=gT o ds (gP ds w p now) tm now) (now:=now) (i:=i) o.length with⟨k1,_⟩|⟨k1,k2,_⟩
    ·exact .inl k1
    ·exact .inr ⟨k1,k2,h1,by omega⟩
   ·rw[qh (by omega)];exact .inr ⟨h4,h5,h1,by omega⟩
  ·rw[qI ha];split;·exact .inr ⟨h0,l1⟩
   ·rcases h.ti a ha with h1|⟨h1,h2⟩
    ·exact .inl h1
    ·exact .inr ⟨h1,by omega⟩
 refine⟨g,?_⟩;unfold gM;have e1:gL o ds t<=gL o ds now:=uG λx _ hx=>by omega
 have e2:cY (λa=>(gT o ds (gP ds (gW o ds (gT o ds (gP ds w p now) tm now) w now) (gP ds w p now) t) (gT o ds (gP ds w p now) tm now) t).getD a 0<0) o.length<=cY (λa=>(gT o ds (gP ds w p now) tm now).getD a 0<0) o.length:=uG λa ha hx=>(g.tight ha hx).1;rcases ht with⟨i,hi,a,ha,k1,k2,k3⟩|⟨a,ha,k1,k2,k3⟩
 ·have:gL o ds t<gL o ds now:=W0 (λx _ hx=>by omega) ⟨i*o.length+a,by
   have:(i+1)*o.length<=ds.length*o.length:=JI _ (by omega);rw[C8]at this;omega,by
   have e1:(i*o.length+a) / o.length=i:=by rw[xgu,Nat.mul_add_div (by omega),Nat.div_eq_of_lt ha,zL]
   have e2:(i*o.length+a) % o.length=a:=by rw[xgu,Nat.mul_add_mod,xgo ha]
   simp only[e1,e2];omega⟩
  omega
 ·have:cY (λa=>(gT o ds (gP ds (gW o ds (gT o ds (gP ds w p now) tm now) w now) (gP ds w p now) t) (gT o ds (gP ds w p now) tm now) t).getD a 0<0) o.length<cY (λa=>(gT o ds (gP ds w p now) tm now).getD a 0<0) o.length:=W0 (λa ha hx=>(g.tight ha hx).1) ⟨a,ha,k1,λhx=>by
   obtain⟨_,k4⟩:=g.tight ha hx;obtain⟨_,k5⟩:=h.tight ha k1;have k6:=K0 (ds:=ds) (now:=now) (p:=gP ds w p now) (q:=gP ds (gW o ds (gT o ds (gP ds w p now) tm now) w now) (gP ds w p now) t) (a:=a) (d:=t-now) (by omega) (w:=gW o ds (gT o ds (gP ds w p now) tm now) w now) ds.length (xm _) (λi hi=>by
    have:=(h.price hi).2.1;rw[gG (w:=gW o ds (gT o ds (gP ds w p now) tm now) w now) hi];split<;>omega) (λi hi hw=>by
    have:=(h.price hi).2.2.2 (h.on hi hw).1;rw[gG (w:=gW o ds (gT o ds (gP ds w p now) tm now) w now) hi,qi hw];omega)
   have k7:=(yU (x:=lF o a-iZ ds (gP ds w p now) a) (by omega) k2).2.2;have k8:(aT ds (gW o ds (gT o ds (gP ds w p now) tm now) w now) now a:Int)*(t-now)=(aT ds (gW o ds (gT o ds (gP ds w p now) tm now) w now) now a:Int)*((lF o a-iZ ds (gP ds w p now) a+(aT ds (gW o ds (gT o ds (gP ds w p now) tm now) w now) now a:Int) -1) / (aT ds (gW o ds (gT o ds (gP ds w p now) tm now) w now) now a:Int)):=by rw[k3];congr 1;omega
   have k9:fA ds (gP ds w p now) a ds.length+(aT ds (gW o ds (gT o ds (gP ds w p now) tm now) w now) now a:Int)*(t-now)<=fA ds (gP ds (gW o ds (gT o ds (gP ds w p now) tm now) w now) (gP ds w p now) t) a ds.length:=k6;rw[k8]at k9;unfold iZ at k4 k5 k7 k9;omega⟩
  omega
end
theorem mX{a b:List Int}(hl:a.length=b.length)(h:∀i,i<b.length->a.getD i 0=b.getD i 0):a=b:=by
 apply xem;intro i;by_cases hi:i<b.length;·have:=h i hi;rw[xd,xd,xh (by omega),xh hi]at this;rw[xh (by omega),xh hi];exact congrArg some this
 ·rw[KP (by omega),KP (by omega)]
theorem qO{f:(Int)×(List (Int))->Option (((Int)×(List (Int)))⊕(List (Int)))}{n:Nat}(g:Nat->Int){l r:List Int}(hl:l.length=n)(hr:r.length=n)(hg:∀i,i<n->r.getD i 0=g i)
  (hs:∀(i:Nat) (a:List Int),i<n->a.length=n->a.getD i 0=l.getD i 0->∃b,f ((i:Int),a)=some (.inl (((i+1:Nat):Int),b))/\b.length=n/\∀j,j<n->b.getD j 0=if i=j then g i else a.getD j 0)
  (he:∀a,f ((n:Int),a)=some (.inr a)):aB f ((0:Int),l)=some r:=by
 obtain⟨x,h1,h2⟩:=aL (f:=f) (n:=n) (λi (a:List Int)=>((i:Int),a)) (λi a=>a.length=n/\∀j,j<n->a.getD j 0=if j<i then g j else l.getD j 0) (λx=>x=r) (s0:=l)
  ⟨hl,λj _=>by rw[qh (by omega)]⟩
  (λi a hi ⟨h1,h2⟩=>by
   left;obtain⟨b,k1,k2,k3⟩:=hs i a hi h1 (by rw[h2 i hi,qh (by omega)]);refine⟨b,k1,k2,λj hj=>?_⟩;rw[k3 j hj];by_cases e:i=j;·subst e;rw[qi rfl,qi (by omega)]
   ·rw[qh e,h2 j hj];by_cases h:j<i;·rw[qi h,qi (by omega)]
    ·rw[qh h,qh (by omega)])
  (λa ⟨h1,h2⟩=>⟨a,he a,mX (by omega) λj hj=>by rw[h2 j (by omega),qi (by omega),hg j (by omega)]⟩)
 rw[<-h2];exact h1
section
variable {o:List Int}{ds:List (List Int)}{p tm w:List Int}{now:Int}
theorem Kb(hf:Fld o ds)(hl:p.length=ds.length)(hp:∀i,i<ds.length->0<=p.getD i 0/\p.getD i 0<=498960):∃r,Ln o ds p 2520=some r/\r.length=o.length/\∀s,s<o.length->r.getD s 0=iZ ds p s:=by
 have aj:=hf.clients;have hlen:=hf.len;obtain⟨r,k1,k2⟩:=aL (f:=λv=>(Cm (p,(2520:Int),ds,(ds.length:Int)) v).ev) (n:=ds.length) (λi (a:List Int)=>((i:Int),a)) (λi a=>a.length=o.length/\∀s,s<o.length->a.getD s 0=fA ds p s i) (λr=>r.length=o.length/\∀s,s<o.length->r.getD s 0=iZ ds p s) (s0:=List.replicate o.length 0)
  ⟨by simp,λs hs=>by rw[xd,xco,qi hs];rfl⟩
  (λc a hc ⟨ab,ad⟩=>by
   left;have hr:=hf.rowLen c hc;have ae:c<p.length:=by omega
   have h1:=hp c hc;have af:aDm (p,(2520:Int),(c:Int),ds,(ds.length:Int),(c:Int),ds.getD c [],((ds.getD c []).length:Int)) ((0:Int),a)=some ((List.range o.length).map λs=>fA ds p s (c+1)):=by
    refine qO (n:=o.length) (λs=>fA ds p s (c+1)) ab (by simp) (λi hi=>kH hi) (λi b hi hb he=>?_) (λb=>?_)
    ·have h2:=hf.at2 hc hi;obtain⟨g1,g2,_⟩:=lW hf (λi hi=>(hp i hi).2) hi c (by omega);obtain⟨g3,g4,_⟩:=lW hf (λi hi=>(hp i hi).2) hi (c+1) (by omega);have e3:(ds.getD c []).getD i 0=at2 ds c i:=rfl;have e4:b.getD i 0=fA ds p i c:=by rw[he,ad i hi]
     have aa:i<b.length:=by omega
     have ah:i<(ds.getD c []).length:=by omega
     have e5:(if(0:Int)<p.getD c 0-at2 ds c i*2520 then p.getD c 0-at2 ds c i*2520 else 0)=pos (p.getD c 0-dA ds c i):=rfl;rw[fA]at g3 g4;refine⟨b.set i (fA ds p i (c+1)),?_,by rw[C7];exact hb,λj hj=>cQ b aa j _⟩;simp(disch:=omega)only[EV,Kv,hr,hi,aa,ah,ae,e3,e4,e5];rfl
    ·simp(disch:=omega)only[EV,Kv,hr,xi]
   refine⟨_,?_,by simp,λs hs=>kH hs⟩;simp(disch:=omega)only[EV,Cm,hc,af];rfl)
  (λa ha=>⟨a,by simp(disch:=omega)only[EV,Cm,xi],ha⟩)
 have ai:aAA (p,(2520:Int),ds,(ds.length:Int)) ((0:Int),List.replicate o.length 0)=some r:=k1;refine⟨r,?_,k2⟩;unfold Ln MG;have e1:(0:Int)<=(o.length:Int):=by omega
 have e2:((8:Nat):Int)*(o.length:Int)<=281474976710656:=by omega
 simp(disch:=omega)only[EV,e1,e2,zG,ai]
theorem Fn(hf:Fld o ds){i a:Nat}(hi:i<ds.length)(ha:a<o.length):GW (i:Int) (a:Int) o ds=some (dA ds i a):=by
 have h1:=hf.at2 hi ha;have hr:=hf.rowLen i hi;have e3:(ds.getD i []).getD a 0=at2 ds i a:=rfl;unfold GW YL;have aa:a<(ds.getD i []).length:=by omega
 simp(disch:=omega)only[EV,hi,aa,e3];rfl
theorem aBx(hf:Fld o ds)(h:GI o ds p tm w now)(x:Int):aKI (x,(ds.length:Int),o,ds,now,tm,w) ((0:Int),p)=some (gP ds w p now):=by
 have hw:=h.wl;have hm:=hf.clients;refine qO (n:=ds.length) (λi=>if w.getD i 0<0 then now else p.getD i 0) h.pl (by simp[gP]) (λi hi=>gG hi) (λi b hi hb he=>?_) (λb=>?_)
 ·have aa:i<w.length:=by omega
  have ab:i<b.length:=by omega
  by_cases hc:w.getD i 0<0;·refine⟨b.set i now,?_,by rw[C7];exact hb,λj hj=>by rw[cQ b ab,qi hc]⟩;simp(disch:=omega)only[EV,FB,hi,aa,ab,hc,qi hc];rfl
  ·refine⟨b,?_,hb,λj hj=>?_⟩;·simp(disch:=omega)only[EV,FB,hi,aa,hc,qh hc];rfl
   ·rw[qh hc];split
    next e=>subst e;exact he
    next=>rfl
 ·simp(disch:=omega)only[EV,FB,xi]
theorem aAw(hf:Fld o ds)(ad:tm.length=o.length){cl:List Int}(af:cl.length=o.length)(hc:∀s,s<o.length->cl.getD s 0=iZ ds p s)(x:Int)(y:List Int)(z:List Int):
  aGP (x,(o.length:Int),o,ds,now,cl,y,z) ((0:Int),tm)=some (gT o ds p tm now):=by
 have hlen:=hf.len;refine qO (n:=o.length) (λa=>if tm.getD a 0<0/\lF o a<=iZ ds p a then now else tm.getD a 0) ad (by simp[gT]) (λa ha=>qI ha) (λi b hi hb he=>?_) (λb=>?_)
 ·have aa:i<b.length:=by omega
  have ab:i<cl.length:=by omega
  have ae:=hf.cost i hi;have e1:=hc i hi;have e2:o.getD i 0*2520=lF o i:=rfl;by_cases h1:tm.getD i 0<0
  ·by_cases h2:lF o i<=iZ ds p i;·refine⟨b.set i now,?_,by rw[C7];exact hb,λj hj=>by rw[cQ b aa];simp only[qi (And.intro h1 h2)]⟩;simp(disch:=omega)only[EV,Vc,hi,aa,ab,he,h1,e1,e2,h2];rfl
   ·refine⟨b,?_,hb,λj hj=>?_⟩;·simp(disch:=omega)only[EV,Vc,hi,aa,ab,he,h1,e1,e2,h2];rfl
    ·rw[qh (show¬(tm.getD i 0<0/\lF o i<=iZ ds p i)from λq=>h2 q.2)];split
     next e=>subst e;exact he
     next=>rfl
  ·refine⟨b,?_,hb,λj hj=>?_⟩;·simp(disch:=omega)only[EV,Vc,hi,aa,ab,he,h1];rfl
   ·rw[qh (show¬(tm.getD i 0<0/\lF o i<=iZ ds p i)from λq=>h1 q.1)];split
    next e=>subst e;exact he
    next=>rfl
 ·simp(disch:=omega)only[EV,Vc,xi]
theorem LO(hf:Fld o ds)(h:GI o ds p tm w now){t q:List Int}(ht:t.length=o.length)(hq:q.length=ds.length){i:Nat}(hi:i<ds.length)(af:q.getD i 0=now↔w.getD i 0<0){b:List Int}(hb:b.length=ds.length)(al:b.getD i 0=w.getD i 0)(x:Int)(y:Bool):
  aLG (x,y,(i:Int),(ds.length:Int),(i:Int),(o.length:Int),o,ds,now,t,q) ((0:Int),b)=some (b.set i (if w.getD i 0<0 then gB ds t now i o.length else w.getD i 0)):=by
 have hlen:=hf.len;have ah:i<b.length:=by omega
 have ab:i<q.length:=by omega
 obtain⟨r,k1,k2⟩:=aL (f:=λv=>(D2 (x,y,(i:Int),(ds.length:Int),(i:Int),(o.length:Int),o,ds,now,t,q) v).ev) (n:=o.length) (λa (c:List Int)=>((a:Int),c)) (λa c=>c=b.set i (if w.getD i 0<0 then gB ds t now i a else w.getD i 0)) (λr=>r=b.set i (if w.getD i 0<0 then gB ds t now i o.length else w.getD i 0)) (s0:=b)
  (by
   have:(if w.getD i 0<0 then gB ds t now i 0 else w.getD i 0)=b.getD i 0:=by
    rw[al];rcases h.wi i hi with e|e;·rw[e];rfl
    ·rw[qh (by omega)]
   rw[this];exact(mX (by simp) λj hj=>by
    rw[cQ b ah];split
    ·next e=>subst e;rfl
    ·rfl).symm)
  (λa c ha hc=>by
   left;refine⟨_,?_,rfl⟩;subst hc;have ad:a<t.length:=by omega
   have aa:∀v,((b.set i v).length=ds.length):=λv=>by rw[C7];exact hb
   have ae:∀v,(b.set i v).getD i 0=v:=λv=>by rw[cQ b ah,qi rfl]
   have ai:∀v v':Int,(b.set i v).set i v'=b.set i v':=λv v'=>by rw[List.set_set]
   by_cases h0:w.getD i 0<0
   ·have e1:=af.2 h0;have eb:(now==now)=true:=qj now;have hl:=Fn hf hi ha;have ao:=B3 (ds:=ds) (tm:=t) (now:=now) (i:=i) a;rw[qi h0,qi h0,gB];generalize hB:gB ds t now i a=B at ao⊢;by_cases h1:0<=t.getD a 0
    ·by_cases h2:dA ds i a<=now
     ·by_cases h3:B<0;·rw[qi ⟨h1,h2,.inl h3⟩];simp(disch:=omega)only[EV,D2,ha,ad,aa,hi,ab,e1,eb,h1,hl,h2,ae,h3,ai];rfl
      ·have aj:B.toNat<t.length:=by omega
       have ak:aC B t.length=true:=bK (by omega) (by omega);by_cases h4:t.getD a 0<t.getD B.toNat 0;·rw[qi ⟨h1,h2,.inr h4⟩];simp(disch:=omega)only[EV,D2,ha,ad,aa,hi,ab,e1,eb,h1,hl,h2,ae,h3,ak,aj,h4,ai];rfl
       ·rw[qh (λq=>by rcases q.2.2 with q|q;exact h3 q;exact h4 q)];simp(disch:=omega)only[EV,D2,ha,ad,aa,hi,ab,e1,eb,h1,hl,h2,ae,h3,ak,aj,h4];rfl
     ·rw[qh (λq=>h2 q.2.1)];simp(disch:=omega)only[EV,D2,ha,ad,aa,hi,ab,e1,eb,h1,hl,h2];rfl
    ·rw[qh (λq=>h1 q.1)];simp(disch:=omega)only[EV,D2,ha,ad,aa,hi,ab,e1,eb,h1];rfl
   ·have e1:(q.getD i 0==now)=false:=beq_eq_false_iff_ne.2 λe=>h0 (af.1 e);rw[qh h0,qh h0];simp(disch:=omega)only[EV,D2,ha,ad,aa,hi,ab,e1];rfl)
  (λc hc=>⟨c,by unfold D2;dsimp only;rw[qo,qd (JJ _),qb,qq],hc⟩)
 rw[<-k2];exact k1
theorem aGy(hf:Fld o ds)(h:GI o ds p tm w now){t q:List Int}(ht:t.length=o.length)(hq:q.length=ds.length)(ae:∀i,i<ds.length->(q.getD i 0=now↔w.getD i 0<0))(x:Int):
  ∃g,aKF (x,(ds.length:Int),o,ds,now,q,t) (false,(0:Int),w)=some (g,gW o ds t w now)/\(g=true↔∃i,i<ds.length/\(gW o ds t w now).getD i 0<0):=by
 obtain⟨⟨g,r⟩,k1,k2,k3⟩:=aL (f:=λv=>(Tp (x,(ds.length:Int),o,ds,now,q,t) v).ev) (n:=ds.length) (λi (c:Bool×List Int)=>(c.1,(i:Int),c.2)) (λi c=>c.2.length=ds.length/\(∀j,j<ds.length->c.2.getD j 0=if j<i then(gW o ds t w now).getD j 0 else w.getD j 0)/\(c.1=true↔∃j,j<i/\(gW o ds t w now).getD j 0<0))
  (λr=>r.2=gW o ds t w now/\(r.1=true↔∃j,j<ds.length/\(gW o ds t w now).getD j 0<0)) (s0:=(false,w))
  ⟨h.wl,λj _=>by rw[qh (by omega)],by simp⟩
  (λi c hi ⟨c1,c2,c3⟩=>by
   left;have hm:=hf.clients;have e1:=LO hf h ht hq hi (ae i hi) c1 (by rw[c2 i hi,qh (by omega)]) x c.1;have e2:(if w.getD i 0<0 then gB ds t now i o.length else w.getD i 0)=(gW o ds t w now).getD i 0:=(rI hi).symm;rw[e2]at e1;have aa:i<c.2.length:=by omega
   have e3:∀v,(c.2.set i v).getD i 0=v:=λv=>by rw[cQ c.2 aa,qi rfl]
   have e4:∀v,(c.2.set i v).length=ds.length:=λv=>by rw[C7];exact c1
   refine⟨(c.1||decide ((gW o ds t w now).getD i 0<0),c.2.set i ((gW o ds t w now).getD i 0)),?_,e4 _,λj hj=>?_,?_⟩
   ·cases hc:c.1 with
    |true=>rw[hc]at e1;simp(disch:=omega)only[EV,Tp,hi,ht,e1];rfl
    |false=>rw[hc]at e1;simp(disch:=omega)only[EV,Tp,hi,ht,e1,e3,e4];rfl
   ·rw[cQ c.2 aa];by_cases e:i=j;·subst e;rw[qi rfl,qi (by omega)]
    ·rw[qh e,c2 j hj];by_cases ab:j<i;·rw[qi ab,qi (by omega)]
     ·rw[qh ab,qh (by omega)]
   ·rw[Z7,c3,qe];constructor
    ·rintro(⟨j,h1,h2⟩|h1);·exact⟨j,by omega,h2⟩
     ·exact⟨i,by omega,h1⟩
    ·rintro⟨j,h1,h2⟩;by_cases e:j=i;·subst e;exact .inr h2
     ·exact .inl ⟨j,by omega,h2⟩)
  (λc ⟨c1,c2,c3⟩=>⟨c,by simp(disch:=omega)only[EV,Tp,xi],mX (by simp[c1,gW]) λj hj=>by
   have ad:j<ds.length:=by simpa[gW]using hj
   rw[c2 j ad,qi ad],c3⟩)
 refine⟨g,?_,k3⟩;simp only at k2;rw[<-k2];exact k1
def NXT(now:Int)(C:Int->Prop)(x:Int):Prop:=(x= -1/\∀t,C t->¬now<t)\/(C x/\now<x/\∀t,C t->now<t->x<=t)
theorem NXT.eqv{C D:Int->Prop}{x:Int}(aa:∀t,C t↔D t)(h:NXT now C x):NXT now D x:=by
 rcases h with⟨h1,h2⟩|⟨h1,h2,h3⟩
 ·exact .inl ⟨h1,λt ht=>h2 t ((aa t).2 ht)⟩
 ·exact .inr ⟨(aa x).1 h1,h2,λt ht=>h3 t ((aa t).2 ht)⟩
theorem NXT.uniq{C:Int->Prop}{x y:Int}(h0:0<=now)(h1:NXT now C x)(h2:NXT now C y):x=y:=by
 rcases h1 with⟨a,b⟩|⟨a,b,c⟩<;>rcases h2 with⟨a',b'⟩|⟨a',b',c'⟩
 ·omega
 ·exact absurd b' (b y a')
 ·exact absurd b (b' x a)
 ·have:=c y a' b';have:=c' x a b;omega
theorem Am(h0:0<=now){C:Int->Prop}{x:Int}(h:NXT now C x)(t:Int):∃y,MC t now x=some y/\NXT now (λu=>C u\/u=t) y:=by
 unfold MC aFY;by_cases h1:now<t
 ·by_cases h2:x<0
  ·refine⟨t,by simp(disch:=omega)only[EV,h1,h2],.inr ⟨.inr rfl,h1,λu hu hn=>?_⟩⟩;rcases h with⟨_,h⟩|⟨_,h,_⟩
   ·rcases hu with hu|rfl;·exact absurd hn (h u hu)
    ·exact zG _
   ·omega
  ·rcases h with⟨h,_⟩|⟨a,b,c⟩
   ·omega
   by_cases h3:t<x
   ·refine⟨t,by simp(disch:=omega)only[EV,h1,h2,h3],.inr ⟨.inr rfl,h1,λu hu hn=>?_⟩⟩;rcases hu with hu|rfl;·have:=c u hu hn;omega
    ·exact zG _
   ·refine⟨x,by simp(disch:=omega)only[EV,h1,h2,h3],.inr ⟨.inl a,b,λu hu hn=>?_⟩⟩;rcases hu with hu|rfl;·exact c u hu hn
    ·omega
 ·refine⟨x,by simp(disch:=omega)only[EV,h1],?_⟩;rcases h with⟨a,b⟩|⟨a,b,c⟩
  ·exact .inl ⟨a,λu hu=>by
    rcases hu with hu|rfl;·exact b u hu
    ·exact h1⟩
  ·exact .inr ⟨.inl a,b,λu hu hn=>by
    rcases hu with hu|rfl;·exact c u hu hn
    ·exact absurd hn h1⟩
def gCa(o:List Int)(ds:List (List Int))(p tm w:List Int)(now:Int)(a:Nat)(t:Int):Prop:=
 (∃i,i<ds.length/\w.getD i 0<0/\t=dA ds i a)\/(tm.getD a 0<0/\0<aT ds w now a/\t=now+(lF o a-iZ ds p a+(aT ds w now a:Int) -1) / (aT ds w now a:Int))
theorem OE(hf:Fld o ds)(h0:0<=now/\now<=498960){v cl q t:List Int}(hv:v.length=ds.length){a:Nat}(ha:a<o.length){C:Int->Prop}{x:Int}(hx:NXT now C x)(m:Int):
  ∃y,aLO (m,(a:Int),(o.length:Int),(a:Int),m,o,ds,now,cl,q,t,v) ((0:Int),(0:Int),x)=some ((aT ds v now a:Int),y)/\NXT now (λu=>C u\/∃i,i<ds.length/\v.getD i 0<0/\u=dA ds i a) y\/m≠(ds.length:Int):=by
 by_cases hm:m=(ds.length:Int)
 ·subst hm;obtain⟨r,k1,k2⟩:=aL (f:=λz=>(Hv ((ds.length:Int),(a:Int),(o.length:Int),(a:Int),(ds.length:Int),o,ds,now,cl,q,t,v) z).ev) (n:=ds.length) (λi (c:Int×Int)=>(c.1,(i:Int),c.2)) (λi c=>c.1=(rL ds v now a i:Int)/\NXT now (λu=>C u\/∃j,j<i/\v.getD j 0<0/\u=dA ds j a) c.2)
   (λr=>r.1=(aT ds v now a:Int)/\NXT now (λu=>C u\/∃j,j<ds.length/\v.getD j 0<0/\u=dA ds j a) r.2) (s0:=((0:Int),x))
   ⟨rfl,hx.eqv λu=>by simp⟩
   (λi c hi ⟨c1,c2⟩=>by
    left;have aa:i<v.length:=by omega
    have ad:=fE (λj=>v.getD j 0<0/\dA ds j a<=now) i;have ae:=hf.clients;have e0:rL ds v now a i=cY (λj=>v.getD j 0<0/\dA ds j a<=now) i:=rfl;by_cases h1:0<=v.getD i 0
    ·refine⟨c,?_,?_,c2.eqv λu=>?_⟩;·simp(disch:=omega)only[EV,Hv,hi,aa,h1];rfl
     ·rw[c1];unfold rL;rw[cY,qh (by omega)];rfl
     ·constructor
      ·rintro(h|⟨j,h2,h3⟩);·exact .inl h
       ·exact .inr ⟨j,by omega,h3⟩
      ·rintro(h|⟨j,h2,h3,h4⟩);·exact .inl h
       ·by_cases e:j=i;·subst e;omega
        ·exact .inr ⟨j,by omega,h3,h4⟩
    ·obtain⟨y,e2,hy⟩:=Am h0.1 c2 (dA ds i a);have e1:=Fn hf hi ha;have ab:NXT now (λu=>C u\/∃j,j<i+1/\v.getD j 0<0/\u=dA ds j a) y:=hy.eqv λu=>by
      constructor
      ·rintro((h|⟨j,h2,h3⟩)|h);·exact .inl h
       ·exact .inr ⟨j,by omega,h3⟩
       ·exact .inr ⟨i,by omega,by omega,h⟩
      ·rintro(h|⟨j,h2,h3,h4⟩);·exact .inl (.inl h)
       ·by_cases e:j=i;·subst e;exact .inr h4
        ·exact .inl (.inr ⟨j,by omega,h3,h4⟩)
     by_cases h2:dA ds i a<=now
     ·refine⟨(c.1+1,y),?_,?_,ab⟩
      ·have hb:c.1<=7:=by omega
       have hb0:0<=c.1:=by omega
       simp(disch:=omega)only[EV,Hv,hi,aa,h1,e1,e2,h2];rfl
      ·simp only;rw[c1];unfold rL;rw[cY,qi ⟨by omega,h2⟩];rfl
     ·refine⟨(c.1,y),?_,?_,ab⟩;·simp(disch:=omega)only[EV,Hv,hi,aa,h1,e1,e2,h2];rfl
      ·simp only;rw[c1];unfold rL;rw[cY,qh (λq=>h2 q.2)];rfl)
   (λc ⟨c1,c2⟩=>⟨c,by simp(disch:=omega)only[EV,Hv,xi],c1,c2⟩)
  refine⟨r.2,.inl ⟨?_,k2.2⟩⟩;rw[<-k2.1];exact k1
 ·exact⟨0,.inr hm⟩
theorem aGg(hf:Fld o ds)(h0:0<=now/\now<=498960){v cl q t:List Int}(hv:v.length=ds.length)(ht:t.length=o.length)(aj:cl.length=o.length)(hc:∀s,s<o.length->cl.getD s 0=iZ ds q s)(hq:∀i,i<ds.length->q.getD i 0<=498960)(ah:∀a,a<o.length->t.getD a 0<0->iZ ds q a<lF o a):
  ∃y,aHu ((ds.length:Int),(o.length:Int),o,ds,now,cl,q,t,v) ((0:Int),(-1:Int))=some y/\NXT now (λu=>∃a,a<o.length/\gCa o ds q t v now a u) y:=by
 have hlen:=hf.len;have ad:=hf.clients;obtain⟨r,k1,k2⟩:=aL (f:=λz=>(Jr ((ds.length:Int),(o.length:Int),o,ds,now,cl,q,t,v) z).ev) (n:=o.length) (λi (c:Int)=>((i:Int),c)) (λi c=>NXT now (λu=>∃a,a<i/\gCa o ds q t v now a u) c)
  (λr=>NXT now (λu=>∃a,a<o.length/\gCa o ds q t v now a u) r) (s0:=(-1:Int))
  (.inl ⟨rfl,λu ⟨a,h,_⟩=>absurd h (by omega)⟩)
  (λa c ha ab=>by
   left;obtain⟨y,e1|e1⟩:=OE hf h0 (cl:=cl) (q:=q) (t:=t) hv ha ab (ds.length:Int)
   ·obtain⟨e1,hy⟩:=e1;have ae:a<t.length:=by omega
    have af:a<cl.length:=by omega
    have ak:aT ds v now a<=ds.length:=fE _ _;by_cases h1:0<aT ds v now a
    ·have aa:(0:Int)<(aT ds v now a:Int):=by omega
     by_cases h2:t.getD a 0<0
     ·have h3:=ah a ha h2;have h4:=U0 hf ha;have h5:=(lW hf hq ha ds.length (xm _)).1;have al:0<=iZ ds q a:=h5;have h6:=yU (x:=lF o a-iZ ds q a) (by omega) h1;have ai:=hf.cost a ha;obtain⟨z,e2,hz⟩:=Am h0.1 hy (now+(lF o a-iZ ds q a+(aT ds v now a:Int) -1) / (aT ds v now a:Int));refine⟨z,?_,hz.eqv λu=>?_⟩
      ·have e3:o.getD a 0*2520=lF o a:=rfl;have e4:=hc a ha;have e5:Int.tdiv (lF o a-iZ ds q a+(aT ds v now a:Int) -1) (aT ds v now a:Int)=(lF o a-iZ ds q a+(aT ds v now a:Int) -1) / (aT ds v now a:Int):=xeo (by omega);have e6:¬(aT ds v now a:Int)=0:=by omega
       simp(disch:=omega)only[EV,Jr,ha,ae,af,e1,aa,h2,e6,e3,e4,e5,e2];rfl
      ·constructor
       ·rintro((⟨b,hb,h⟩|h)|h);·exact⟨b,by omega,h⟩
        ·exact⟨a,by omega,.inl h⟩
        ·exact⟨a,by omega,.inr ⟨h2,h1,h⟩⟩
       ·rintro⟨b,hb,h⟩;by_cases e:b=a
        ·subst e;rcases h with h|h;·exact .inl (.inr h)
         ·exact .inr h.2.2
        ·exact .inl (.inl ⟨b,by omega,h⟩)
     ·refine⟨y,?_,hy.eqv λu=>?_⟩;·simp(disch:=omega)only[EV,Jr,ha,ae,af,e1,aa,h2];rfl
      ·constructor
       ·rintro(⟨b,hb,h⟩|h);·exact⟨b,by omega,h⟩
        ·exact⟨a,by omega,.inl h⟩
       ·rintro⟨b,hb,h⟩;by_cases e:b=a
        ·subst e;rcases h with h|h;·exact .inr h
         ·exact absurd h.1 h2
        ·exact .inl ⟨b,by omega,h⟩
    ·have aa:¬(0:Int)<(aT ds v now a:Int):=by omega
     refine⟨y,?_,hy.eqv λu=>?_⟩;·simp(disch:=omega)only[EV,Jr,ha,e1,aa];rfl
     ·constructor
      ·rintro(⟨b,hb,h⟩|h);·exact⟨b,by omega,h⟩
       ·exact⟨a,by omega,.inl h⟩
      ·rintro⟨b,hb,h⟩;by_cases e:b=a
       ·subst e;rcases h with h|h;·exact .inr h
        ·exact absurd h.2.1 h1
       ·exact .inl ⟨b,by omega,h⟩
   ·exact absurd rfl e1)
  (λc ab=>⟨c,by simp(disch:=omega)only[EV,Jr,xi],ab⟩)
 exact⟨r,k1,k2⟩
structure GR(o:List Int)(ds:List (List Int))(g:List Int×List Int×List Int):Prop where
 pl:g.1.length=ds.length
 tl:g.2.1.length=o.length
 wl:g.2.2.length=ds.length
 ti:∀a,a<o.length-> -1<=g.2.1.getD a 0
def eZ(o:List Int)(ds:List (List Int))(v:(Int)×(List (Int))×(List (Int))×(List (Int))):List Int×List Int×List Int:=
 let p1:=gP ds v.2.2.2 v.2.1 v.1
 let t1:=gT o ds p1 v.2.2.1 v.1
 (p1,t1,gW o ds t1 v.2.2.2 v.1)
theorem sK(hf:Fld o ds)(h:GI o ds p tm w now):
  (∃t,(Aw ((ds.length:Int),o,ds) (now,p,tm,w)).ev=some (.inl (t,eZ o ds (now,p,tm,w)))/\gC o ds (eZ o ds (now,p,tm,w)).1 (eZ o ds (now,p,tm,w)).2.1 (eZ o ds (now,p,tm,w)).2.2 now t/\
   (∀t',gC o ds (eZ o ds (now,p,tm,w)).1 (eZ o ds (now,p,tm,w)).2.1 (eZ o ds (now,p,tm,w)).2.2 now t'->t<=t')/\∃i,i<ds.length/\(eZ o ds (now,p,tm,w)).2.2.getD i 0<0)\/
  ((Aw ((ds.length:Int),o,ds) (now,p,tm,w)).ev=some (.inr (eZ o ds (now,p,tm,w)))/\∀i,i<ds.length->¬(eZ o ds (now,p,tm,w)).2.2.getD i 0<0):=by
 have hp:∀i,i<ds.length->0<=(gP ds w p now).getD i 0/\(gP ds w p now).getD i 0<=498960:=λi hi=>by have:=h.price hi;have:=h.n1;omega
 obtain⟨cl,c1,c2,c3⟩:=Kb hf (p:=gP ds w p now) (by simp[gP]) hp;have e1:=aBx hf h (ds.length:Int);have e2:=aAw (p:=gP ds w p now) (now:=now) hf h.tl c2 c3 (ds.length:Int);obtain⟨g,e3,e4⟩:=aGy hf h (t:=gT o ds (gP ds w p now) tm now) (q:=gP ds w p now) (by simp[gT]) (by simp[gP]) (λi hi=>(h.price hi).2.2) (ds.length:Int);cases hg:g with
 |false=>right;refine⟨?_,λi hi aa=>by have:=e4.2 ⟨i,hi,aa⟩;rw[hg]at this;cases this⟩;rw[hg]at e3;unfold Aw;simp(disch:=omega)only[EV,e1,c1,c2,e2,e3];rfl
 |true=>
  left;rw[hg]at e3 e4;obtain⟨i,hi,aa⟩:=e4.1 rfl;obtain⟨y,e5,e6⟩:=aGg hf ⟨h.n0,h.n1⟩ (v:=gW o ds (gT o ds (gP ds w p now) tm now) w now) (q:=gP ds w p now) (t:=gT o ds (gP ds w p now) tm now) (by simp[gW]) (by simp[gT]) c2 c3 (λi hi=>(hp i hi).2) (λa ha ae=>(h.tight ha ae).2);have ab:∀u,gC o ds (gP ds w p now) (gT o ds (gP ds w p now) tm now) (gW o ds (gT o ds (gP ds w p now) tm now) w now) now u->∃a,a<o.length/\gCa o ds (gP ds w p now) (gT o ds (gP ds w p now) tm now) (gW o ds (gT o ds (gP ds w p now) tm now) w now) now a u:=by
   rintro u (⟨i,h1,a,h2,h3,h4,h5⟩|⟨a,h1,h2⟩);·exact⟨a,h2,.inl ⟨i,h1,h3,h5⟩⟩
   ·exact⟨a,h1,.inr h2⟩
  have af:∀u,now<u->(∃a,a<o.length/\gCa o ds (gP ds w p now) (gT o ds (gP ds w p now) tm now) (gW o ds (gT o ds (gP ds w p now) tm now) w now) now a u)->gC o ds (gP ds w p now) (gT o ds (gP ds w p now) tm now) (gW o ds (gT o ds (gP ds w p now) tm now) w now) now u:=by
   rintro u hu ⟨a,h2,⟨i,h1,h3,h5⟩|h1⟩;·exact .inl ⟨i,h1,a,h2,h3,by omega,h5⟩
   ·exact .inr ⟨a,h2,h1⟩
  rcases e6 with⟨_,e6⟩|⟨e6,e7,e8⟩
  ·obtain⟨t,ht⟩:=h.some hf hi aa;exact absurd (h.later hf ht).1 (e6 t (ab t ht))
  ·refine⟨y,?_,af y e7 e6,λt' ad=>e8 t' (ab t' ad) (h.later hf ad).1,i,hi,aa⟩;unfold Aw;simp(disch:=omega)only[EV,e1,c1,c2,e2,e3,e5];rfl
theorem GI.begin(hf:Fld o ds):GI o ds (List.replicate ds.length 0) (List.replicate o.length (-1)) (List.replicate ds.length (-1)) 0:=by
 have rep:∀(n:Nat) (x:Int) (i:Nat),i<n->(List.replicate n x).getD i 0=x:=λn x i hi=>by rw[xd,xco,qi hi];rfl
 exact⟨by simp,by simp,by simp,by omega,by omega,λi hi=>.inl (rep _ _ i hi),λa ha=>.inl (rep _ _ a ha)⟩
theorem Gy(hf:Fld o ds):∃g,En o ds=some g/\GR o ds g:=by
 have hlen:=hf.len;have ab:=hf.clients;obtain⟨r,k1,k2⟩:=K9 (f:=λv=>(Aw ((ds.length:Int),o,ds) v).ev) (λv=>GI o ds v.2.1 v.2.2.1 v.2.2.2 v.1) (λv=>gM o ds v.2.1 v.2.2.1 v.2.2.2 v.1) (GR o ds) (λv hv=>by
  obtain⟨now,p,tm,w⟩:=v;simp only at hv;rcases sK hf hv with⟨t,e1,e2,_,_⟩|⟨e1,_⟩
  ·simp only[e1];exact hv.next hf e2
  ·simp only[e1];refine⟨by simp[eZ,gP],by simp[eZ,gT],by simp[eZ,gW],λa ha=>?_⟩;show-1<=(gT o ds (gP ds w p now) tm now).getD a 0;rw[qI ha];have:=hv.n0;have:=hv.ti a ha;split<;>omega) (v:=((0:Int),List.replicate ds.length 0,List.replicate o.length (-1),List.replicate ds.length (-1))) (GI.begin hf)
 have aa:DB ((ds.length:Int),o,ds) ((0:Int),List.replicate ds.length 0,List.replicate o.length (-1),List.replicate ds.length (-1))=some r:=k1;refine⟨r,?_,k2⟩;have rep:∀n:Nat,n<=1000->Uv [(-1:Int)] (n:Int)=some (List.replicate n (-1)):=λn hn=>by unfold Uv;exact xH (by omega) (-1)
 have r1:=rep o.length (by omega);have r2:=rep ds.length (by omega);have e1:(0:Int)<=(ds.length:Int):=by omega
 have e2:((8:Nat):Int)*(ds.length:Int)<=281474976710656:=by omega
 unfold En NA;simp(disch:=omega)only[EV,e1,e2,zG,r1,r2,aa]
end
def gu(k:Nat):Int:=[2520,2520,1260,420,210,42,7,1].getD k 1
theorem aDo{k s:Nat}(hs:0<s)(h:k+s<=7):((s:Int)*gu (k+s))∣gu k:=by
 have key:∀k:Nat,k<8->∀s:Nat,s<8->0<s->k+s<=7->gu k % ((s:Int)*gu (k+s))=0:=by decide
 exact xgt (key k (by omega) s (by omega) hs h)
theorem uQ{k l:Nat}(h:k<=l)(h7:l<=7):gu l∣gu k:=by
 have key:∀k:Nat,k<8->∀l:Nat,l<8->k<=l->gu k % gu l=0:=by decide
 exact xgt (key k (by omega) l (by omega) h)
theorem j7{p q r:Nat->Prop}[DecidablePred p][DecidablePred q][DecidablePred r]:∀{n:Nat},(∀i,i<n->p i->r i)->(∀i,i<n->q i->r i)->(∀i,i<n->p i->¬q i)->cY p n+cY q n<=cY r n
 |0,_,_,_=>xm _
 |n+1,h1,h2,h3=>by have ih:=j7 (n:=n) (λi hi=>h1 i (by omega)) (λi hi=>h2 i (by omega)) (λi hi=>h3 i (by omega));have k1:=h1 n (by omega);have k2:=h2 n (by omega);have k3:=h3 n (by omega);unfold cY;by_cases hp:p n<;>by_cases hq:q n<;>by_cases hr:r n<;>simp only[hp,hq,hr,if_true,if_false]<;>first|(exfalso;exact k3 hp hq)|(exfalso;exact hr (k1 hp))|(exfalso;exact hr (k2 hq))|omega
def gK(ds:List (List Int))(w:List Int):Nat:=cY (λi=>¬w.getD i 0<0) ds.length
section
variable {o:List Int}{ds:List (List Int)}{p tm w:List Int}{now:Int}
theorem Et{u:Int}{P:List Int}{a:Nat}(h:∀i,i<ds.length->u∣P.getD i 0-dA ds i a):∀k,k<=ds.length->u∣fA ds P a k
 |0,_=>xgw _
 |k+1,hk=>by
  have ih:=Et h k (by omega);have h1:=h k (by omega);have h2:=dJ (P.getD k 0-dA ds k a);rw[fA];refine Int.dvd_add ih ?_;by_cases h0:0<=P.getD k 0-dA ds k a;·rw[h2.2.1 h0];exact h1
  ·rw[h2.2.2 (by omega)];exact xgw _
theorem zR{P Q W:List Int}{a:Nat}{d:Int}(hd:0<=d):∀k,k<=ds.length->(∀i,i<ds.length->(W.getD i 0<0/\P.getD i 0=now/\Q.getD i 0=now+d/\(now<dA ds i a->now+d<=dA ds i a))\/(¬W.getD i 0<0/\Q.getD i 0=P.getD i 0))->fA ds Q a k=fA ds P a k+(rL ds W now a k:Int)*d
 |0,_,_=>by simp[fA,rL,cY]
 |k+1,hk,h=>by
  have ih:=zR hd k (by omega) h;rw[fA,fA,ih];unfold rL;rw[cY];rcases h k (by omega)with⟨h1,h2,h3,h4⟩|⟨h1,h2⟩
  ·by_cases hc:dA ds k a<=now;·rw[qi ⟨h1,hc⟩,h2,h3,(dJ _).2.1 (show 0<=now+d-dA ds k a by omega),(dJ _).2.1 (show 0<=now-dA ds k a by omega),xey,xhe];simp only[Int.natCast_one,Int.one_mul];omega
   ·have h5:=h4 (by omega);have h6:pos (now+d-dA ds k a)=0:=by
     by_cases e:0<=now+d-dA ds k a;·rw[(dJ _).2.1 e];omega
     ·exact(dJ _).2.2 (by omega)
    rw[qh (λq=>hc q.2),h2,h3,h6,(dJ _).2.2 (show now-dA ds k a<=0 by omega),zL];omega
  ·rw[qh (λq=>h1 q.1),h2,zL];omega
structure GE(o:List Int)(ds:List (List Int))(p tm w:List Int)(now:Int):Prop where
 d0:gu (gK ds (gW o ds (gT o ds (gP ds w p now) tm now) w now))∣now
 dp:∀i,i<ds.length->gu (gK ds (gW o ds (gT o ds (gP ds w p now) tm now) w now))∣ (gP ds w p now).getD i 0
 fair:∀a,a<o.length->tm.getD a 0<0->iZ ds (gP ds w p now) a<=lF o a
theorem Ct(hf:Fld o ds){P:List Int}{a:Nat}(ha:a<o.length)(h:∀i,i<ds.length->P.getD i 0=0):∀k,k<=ds.length->fA ds P a k=0
 |0,_=>rfl
 |k+1,hk=>by
  have:=wD hf (show k<ds.length by omega) ha;rw[fA,Ct hf ha h k (by omega),h k (by omega)];by_cases e:0<=0-dA ds k a;·rw[(dJ _).2.1 e];omega
  ·rw[(dJ _).2.2 (by omega)];omega
theorem GE.begin(hf:Fld o ds):GE o ds (List.replicate ds.length 0) (List.replicate o.length (-1)) (List.replicate ds.length (-1)) 0:=by
 have hz:∀i,i<ds.length->(gP ds (List.replicate ds.length (-1)) (List.replicate ds.length 0) 0).getD i 0=0:=λi hi=>by
  rw[gG hi];split;·rfl
  ·rw[xd,xco,qi hi];rfl
 refine⟨xgw _,λi hi=>by rw[hz i hi];exact xgw _,λa ha _=>?_⟩;have h1:=Ct hf ha hz ds.length (xm _);have h2:=U0 hf ha;unfold iZ;omega
theorem tE{s:Nat}{u x:Int}(hs:0<s)(h:((s:Int)*u)∣x):u∣ (x+(s:Int) -1) / (s:Int)/\(s:Int)*((x+(s:Int) -1) / (s:Int))=x/\x/ (s:Int)=(x+(s:Int) -1) / (s:Int):=by
 obtain⟨m,rfl⟩:=h;have e:((s:Int)*u*m+(s:Int) -1) / (s:Int)=u*m:=by rw[show(s:Int)*u*m+(s:Int) -1=((s:Int) -1)+(s:Int)*(u*m) by rw[xhg];omega,Int.add_mul_ediv_left _ _ (show(s:Int)≠0 by omega),Int.ediv_eq_zero_of_lt (by omega) (by omega),Int.zero_add]
 refine⟨by rw[e];exact Int.dvd_mul_right _ _,by rw[e,xhg],?_⟩;rw[e,xhg,Int.mul_ediv_cancel_left _ (show(s:Int)≠0 by omega)]
theorem GE.rest(hf:Fld o ds)(e:GE o ds p tm w now){a:Nat}:gu (gK ds (gW o ds (gT o ds (gP ds w p now) tm now) w now))∣lF o a-iZ ds (gP ds w p now) a:=by have h7:=hf.clients;have hk:gK ds (gW o ds (gT o ds (gP ds w p now) tm now) w now)<=7:=JZ (fE _ _) (by omega);have hu:gu (gK ds (gW o ds (gT o ds (gP ds w p now) tm now) w now))∣2520:=uQ (V1 _) hk;refine Int.dvd_sub (xev hu) (Et (λi hi=>Int.dvd_sub (e.dp i hi) (xev hu)) _ (xm _))
theorem GE.step(hf:Fld o ds)(h:GI o ds p tm w now)(e:GE o ds p tm w now){a:Nat}(hm:0<aT ds (gW o ds (gT o ds (gP ds w p now) tm now) w now) now a):
  ((aT ds (gW o ds (gT o ds (gP ds w p now) tm now) w now) now a:Int)*gu (gK ds (gW o ds (gT o ds (gP ds w p now) tm now) w now)+aT ds (gW o ds (gT o ds (gP ds w p now) tm now) w now) now a))∣lF o a-iZ ds (gP ds w p now) a:=by
 have h7:=hf.clients;have hk:gK ds (gW o ds (gT o ds (gP ds w p now) tm now) w now)+aT ds (gW o ds (gT o ds (gP ds w p now) tm now) w now) now a<=7:=
  JZ (JZ (j7 (r:=λ_=>True) (λ_ _ _=>trivial) (λ_ _ _=>trivial) λi _ h1 h2=>h1 h2.1) (fE _ _)) (by omega)
 exact xgm (aDo hm hk) (e.rest hf)
theorem GE.next(hf:Fld o ds)(h:GI o ds p tm w now)(e:GE o ds p tm w now){t:Int}(ht:gC o ds (gP ds w p now) (gT o ds (gP ds w p now) tm now) (gW o ds (gT o ds (gP ds w p now) tm now) w now) now t)
  (ai:∀t',gC o ds (gP ds w p now) (gT o ds (gP ds w p now) tm now) (gW o ds (gT o ds (gP ds w p now) tm now) w now) now t'->t<=t'):
  GE o ds (gP ds w p now) (gT o ds (gP ds w p now) tm now) (gW o ds (gT o ds (gP ds w p now) tm now) w now) t:=by
 have h7:=hf.clients;have aa:=λa=>e.step hf h (a:=a);have ar:=(h.later hf ht).1;have ae:=λa (ha:a<o.length)=>h.tight (a:=a) ha;have af:=λi (hi:i<ds.length)=>(h.price hi).2.2;have av:=λi (hi:i<ds.length)=>h.on (i:=i) hi;have e0:=e.d0;have ep:=e.dp;generalize hP:gP ds w p now=P at*;generalize hT:gT o ds P tm now=T at*;generalize hW:gW o ds T w now=W at*
 -- au that go on ay the time
 have aj:∀i,i<ds.length->W.getD i 0<0->P.getD i 0=now:=λi hi hw=>(af i hi).2 (av i hi hw).1;have ab:∀a,a<o.length->iZ ds (gP ds W P t) a=iZ ds P a+(aT ds W now a:Int)*(t-now):=λa ha=>
  zR (by omega) _ (xm _) λi hi=>by
   by_cases hw:W.getD i 0<0;·refine .inl ⟨hw,aj i hi hw,by rw[gG hi,qi hw];omega,λhl=>?_⟩;have:=ai _ (.inl ⟨i,hi,a,ha,hw,hl,rfl⟩);omega
   ·exact .inr ⟨hw,by rw[gG hi,qh hw]⟩
 have ad:∀i,i<ds.length->¬W.getD i 0<0->¬(gW o ds (gT o ds (gP ds W P t) T t) W t).getD i 0<0:=λi hi hw=>by rw[rI hi,qh hw];exact hw
 have ak:gK ds W<=gK ds (gW o ds (gT o ds (gP ds W P t) T t) W t):=uG ad;have ah:gK ds (gW o ds (gT o ds (gP ds W P t) T t) W t)<=7:=JZ (fE _ _) (by omega);have al:gu (gK ds (gW o ds (gT o ds (gP ds W P t) T t) W t))∣t:=by
  rcases ht with⟨i,hi,a,ha,_,_,rfl⟩|⟨a,ha,k1,k2,k3⟩
  ·exact xev (uQ (k:=0) (V1 _) ah)
  ·obtain⟨c1,c2,_⟩:=tE k2 (aa a k2);have et:(lF o a-iZ ds P a+(aT ds W now a:Int) -1) / (aT ds W now a:Int)=t-now:=by omega
   rw[et]at c1 c2;have aw:gK ds W+aT ds W now a<=gK ds (gW o ds (gT o ds (gP ds W P t) T t) W t):=by
    refine j7 ad (λi hi hq=>?_) λi _ h1 h2=>h1 h2.1;rw[rI hi,qi hq.1];intro az;rcases B3 (ds:=ds) (tm:=gT o ds (gP ds W P t) T t) (now:=t) (i:=i) o.length with⟨_,k4⟩|⟨k4,_⟩
    ·refine k4 a ha ⟨?_,by have:=hq.2;omega⟩;rw[qI ha,qi ⟨k1,by rw[ab a ha,c2];omega⟩];have:=h.n0;omega
    ·omega
   have d1:=xgm (uQ aw ah) c1;have d2:=xgm (uQ ak ah) e0;have:=Int.dvd_add d2 d1;rwa [show now+(t-now)=t by omega]at this
 refine⟨al,λi hi=>?_,λa ha ao=>?_⟩
 ·rw[gG hi];split;·exact al
  ·exact xgm (uQ ak ah) (ep i hi)
 ·rw[ab a ha];have k1:=(ae a ha ao).2;by_cases hm:0<aT ds W now a;·obtain⟨_,c2,_⟩:=tE hm (aa a hm);have:=ai _ (.inr ⟨a,ha,ao,hm,rfl⟩);have h3:(aT ds W now a:Int)*(t-now)<=(aT ds W now a:Int)*((lF o a-iZ ds P a+(aT ds W now a:Int) -1) / (aT ds W now a:Int)):=xcj (by omega) (by omega);rw[c2]at h3;omega
  ·rw[show aT ds W now a=0 by omega];simp only[Int.natCast_zero,Int.zero_mul];omega
end
def ins(x:Int):List Int->List Int
 | []=>[x]
 |a::l=>if a<=x then a::ins x l else x::a::l
def dM(l:List Int):List Int:=l.foldl (λacc x=>ins x acc) []
theorem By{x y:Int}(h:x<y):∀q:List Int,ins x (q++ [y])=ins x q++ [y]
 | []=>by simp[ins];omega
 |a::q=>by
  simp only[No,ins];split;·rw[By h q];rfl
  ·rfl
theorem Ey{x:Int}:∀{l:List Int},(∀y∈l,y<=x)->ins x l=l++ [x]
 | [],_=>rfl
 |a::l,h=>by simp only[ins,qi (h a xu),No];rw[Ey λy hy=>h y (xr _ hy)]
theorem mem_ins{x y:Int}:∀{l:List Int},y∈ins x l↔y=x\/y∈l
 | []=>by simp[ins]
 |a::l=>by
  simp only[ins];split
  ·simp only[xae,mem_ins (l:=l)];constructor
   ·rintro(h|h|h);·exact .inr (.inl h)
    ·exact .inl h
    ·exact .inr (.inr h)
   ·rintro(h|h|h);·exact .inr (.inl h)
    ·exact .inl h
    ·exact .inr (.inr h)
  ·simp only[xae]
theorem Ox{x:Int}:∀{l:List Int},(ins x l).length=l.length+1
 | []=>rfl
 |a::l=>by
  simp only[ins];split;·simp[Ox (l:=l)]
  ·rfl
theorem q9{x:Int}:∀{l:List Int},l.Pairwise (· <= ·)->(ins x l).Pairwise (· <= ·)
 | [],_=>by simp[ins]
 |a::l,h=>by
  rw[xbj]at h;simp only[ins];split
  next hx=>
   rw[xbj];exact⟨λy hy=>(mem_ins.1 hy).elim (λe=>e▸hx) (h.1 y),q9 h.2⟩
  next hx=>
   rw[xbj,xbj];refine⟨λy hy=>?_,h⟩;rcases xae.1 hy with rfl|hy;·omega
   ·have:=h.1 y hy;omega
theorem s6(l:List Int)(x:Int):dM (l++ [x])=ins x (dM l):=by simp[dM]
theorem wP:∀l:List Int,(dM l).Pairwise (· <= ·)/\(dM l).length=l.length/\∀y,y∈dM l↔y∈l:=by
 intro l;have key:∀(l acc:List Int),acc.Pairwise (· <= ·)->(l.foldl (λacc x=>ins x acc) acc).Pairwise (· <= ·)/\(l.foldl (λacc x=>ins x acc) acc).length=acc.length+l.length/\∀y,y∈l.foldl (λacc x=>ins x acc) acc↔y∈acc\/y∈l:=by
  intro l;induction l with
  |nil=>intro acc h;exact⟨h,rfl,λy=>by simp⟩
  |cons x l ih=>
   intro acc h;obtain⟨h1,h2,h3⟩:=ih (ins x acc) (q9 h);refine⟨h1,by rw[Z5,h2,Ox,xk];omega,λy=>?_⟩;rw[Z5,h3,mem_ins,xae];constructor
   ·rintro((h|h)|h);·exact .inr (.inl h)
    ·exact .inl h
    ·exact .inr (.inr h)
   ·rintro(h|h|h);·exact .inl (.inr h)
    ·exact .inl (.inl h)
    ·exact .inr h
 obtain⟨h1,h2,h3⟩:=key l [] List.Pairwise.nil;exact⟨h1,by simpa[dM]using h2,λy=>by simpa[dM]using h3 y⟩
theorem B4(a b:Int):aEE a b=some (decide (a<b)):=by unfold aEE aCb P8 BF;simp(disch:=omega)only[EV,qk]
theorem Bn{p r:List Int}{x:Int}:(p++x::r).getD p.length 0=x:=by rw[xd,C6 (xm _),TA];rfl
theorem Y7(n i:Int):∀(m:Nat) (p:List Int) (x:Int) (r:List Int),p.length=m->(p.length:Int)<9223372036854775807->p.Pairwise (· <= ·)->EG (0,n,i) ((p.length:Int),p++x::r)=some (ins x p++r):=by
 intro m;induction m with
 |zero=>intro p x r hm _ _;have:=C9 hm;subst this;unfold EG;rw[aE];simp(disch:=omega)only[EV,Lq,xi,xy,JJ,show((0:Nat):Int)=0 from rfl];rfl
 |succ m ih=>
  intro p x r hm ae hp;obtain⟨q,y,rfl⟩:∃q y,p=q++ [y]:=by
   have:=xfm p;rcases this with h|⟨q,y,h⟩
   ·rw[h]at hm;cases hm
   ·exact⟨q,y,by simpa using h⟩
  have aa:q.length=m:=by simpa using hm
  have e0:((q++ [y]).length:Int)=((m+1:Nat):Int):=by simp[aa]
  rw[e0]at ae⊢;have e2:((m+1:Nat):Int) -1=(m:Int):=by omega
  have g1:((q++ [y])++x::r).getD (m+1) 0=x:=by have:=Bn (p:=q++ [y]) (x:=x) (r:=r);rwa [show(q++ [y]).length=m+1 by simp[aa]]at this
  have g2:((q++ [y])++x::r).getD m 0=y:=by have:=Bn (p:=q) (x:=y) (r:=x::r);rw[aa]at this;simpa using this
  have hl:((q++ [y])++x::r).length=m+2+r.length:=by simp[aa];omega
  have s1:(((q++ [y])++x::r).set (m+1) y).set m x=q++x::(y::r):=by
   have t1:((q++ [y])++x::r).set (m+1) y=(q++ [y])++y::r:=by rw[xcv _ _ (by simp[aa]),show m+1-(q++ [y]).length=0 by simp[aa]];rfl
   rw[t1,Yi,xcv _ _ (by omega),show m-q.length=0 by omega];rfl
  have ad:¬x<y->((q++ [y])++x::r)=ins x (q++ [y])++r:=λab=>by
   rw[Ey];·simp
   ·intro z hz;rcases xp.1 hz with hz|hz;·have:=(xdo.1 hp).2.2 z hz y (by simp);omega
    ·have:=xo.1 hz;omega
  have h0:(0:Int)<((m+1:Nat):Int):=by omega
  have h1:m+1<m+2+r.length:=by omega
  have h2:m<m+2+r.length:=by omega
  generalize((q++ [y])++x::r)=L at g1 g2 hl s1 ad;unfold EG;rw[aE];by_cases ab:x<y
  ·have e:(Lq (0,n,i) (((m+1:Nat):Int),L)).ev=some (.inl ((m:Int),q++x::(y::r))):=by simp(disch:=omega)only[EV,Lq,h0,hl,h1,e2,h2,g1,g2,B4,ab,C7,s1]
   rw[e];have:=ih q x (y::r) aa (by omega) (xdo.1 hp).1;rw[aa]at this;unfold EG at this;simp only;rw[this,By ab];simp
  ·have e:(Lq (0,n,i) (((m+1:Nat):Int),L)).ev=some (.inr L):=by simp(disch:=omega)only[EV,Lq,h0,hl,h1,e2,h2,g1,g2,B4,ab]
   rw[e];simp only;rw[ad ab]
theorem ER(l:List Int):(List.range (l.length-1)).foldl (λ_ k=>dM (l.take (k+2))++l.drop (k+2)) l=dM l:=by
 cases hn:l.length-1 with
 |zero=>
  rcases l with _|⟨a,_|⟨b,l⟩⟩
  ·rfl
  ·rfl
  ·simp at hn
 |succ n=>rw[xeg,JW];simp only[Z5,xga];rw[Gg (by omega),xgx (by omega),yT]
theorem vK{l:List Int}(hl:(l.length:Int)<9223372036854775806):YS 0 (l.length:Int) l=some (dM l):=by
 have key:=(aR (f:=λv=>(Xo (0,(l.length:Int)) v).ev) (n:=l.length-1) (mk:=λk (s:List Int)=>(((k+1:Nat):Int),s)) (I:=λk s=>s=dM (l.take (k+1))++l.drop (k+1)) (g:=λ_ k=>dM (l.take (k+2))++l.drop (k+2)) (fin:=λs=>s) (s0:=l) (by
   cases l with
   |nil=>rfl
   |cons a l=>simp[dM,ins])
  (λk s hk hs=>by
   subst hs;have aa:k+1<l.length:=by omega
   obtain⟨h1,h2,_⟩:=wP (l.take (k+1));have h3:(dM (l.take (k+1))).length=k+1:=by rw[h2];simp;omega
   have h4:l.drop (k+1)=l[k+1]::l.drop (k+2):=Wn aa;have h5:dM (l.take (k+2))=ins l[k+1] (dM (l.take (k+1))):=by rw[<-s6,Wk aa]
   have h6:=Y7 (l.length:Int) ((k+1:Nat):Int) (k+1) (dM (l.take (k+1))) l[k+1] (l.drop (k+2)) h3 (by rw[h3];omega) h1;rw[h3,<-h4]at h6;refine⟨?_,rfl⟩;simp(disch:=omega)only[EV,Xo,aa,h6];rw[h5];rfl)
  (λs _=>by
   have:¬((l.length-1+1:Nat):Int)<(l.length:Int):=by omega
   simp(disch:=omega)only[EV,Xo,show¬(l.length-1+1<l.length) by omega])).1
 rw[ER]at key;have z:(((0+1:Nat):Int),l)=((1:Int),l):=rfl;have e:aIR (0,(l.length:Int)) (1,l)=some (dM l):=key;unfold YS aDR;simp(disch:=omega)only[EV,show IntKind.wrap .i64 ((0:Int)+1)=1 from rfl,e]
theorem Kr:∀n:Nat,n<=12->∃r,KO (IntKind.wrap .u64 (n:Int))=some r
 |0,_=>⟨0,by kernel_rfl⟩
 |1,_=>⟨1,by kernel_rfl⟩
 |2,_=>⟨2,by kernel_rfl⟩
 |3,_=>⟨2,by kernel_rfl⟩
 |4,_=>⟨3,by kernel_rfl⟩
 |5,_=>⟨3,by kernel_rfl⟩
 |6,_=>⟨3,by kernel_rfl⟩
 |7,_=>⟨3,by kernel_rfl⟩
 |8,_=>⟨4,by kernel_rfl⟩
 |9,_=>⟨4,by kernel_rfl⟩
 |10,_=>⟨4,by kernel_rfl⟩
 |11,_=>⟨4,by kernel_rfl⟩
 |12,_=>⟨4,by kernel_rfl⟩
 |n+13,h=>by omega
theorem E7{l:List Int}(hl:l.length<=12):aAP l=some (dM l):=by
 obtain⟨r,hr⟩:=Kr l.length hl;have key:ZS (0,(l.length:Int),r,true,true,l) ()=some (dM l):=by
  have hw:IntKind.wrap .i64 ((l.length:Int) -0)<=12:=by rw[aN (by omega) (by omega)];omega
  unfold ZS;rw[aE];unfold aCE;rw[qo];simp only;rw[qc hw,qa,qn,vK (by omega)];rfl
 unfold aAP aDd;rw[qn,hr,xc,qn];unfold aHD aCf;rw[qn,key];rfl
theorem Fc(x:Int):∀l:List Int,l.take ((l.findIdx? λy=> !decide (y<=x)).elim l.length id)++x::l.drop ((l.findIdx? λy=> !decide (y<=x)).elim l.length id)=ins x l
 | []=>rfl
 |a::l=>by
  have ih:=Fc x l;rw[xee];by_cases h:a<=x
  ·simp only[h,decide_true,xl,tJ,if_false,ins,if_true];cases hf:l.findIdx? λy=> !decide (y<=x)with|none=>rw[hf]at ih;simpa using ih|some j=>rw[hf]at ih;simpa using ih
  ·simp[h,ins]

section
open Go
def CK(B:Int)(l:List Int)(i:Int):Prop:=(∀x∈l,0<=x/\x<=255)/\l.length<=100000/\0<=i/\i<=B
theorem CK.mono{B B':Int}{l:List Int}{i:Int}(h:CK B l i)(hb:B<=B'):CK B' l i:=⟨h.1,h.2.1,h.2.2.1,by have:=h.2.2.2;omega⟩
theorem aSO{x:Int}(h:EN (.int .u8) x):0<=x/\x<=255:=by have h:(Lit.int .u8 x).wf=true:=h;simp only[Lit.wf,xf,qe]at h;have h1:IntKind.u8.min=0:=rfl;have h2:IntKind.u8.max=255:=rfl;omega
theorem NN(n:Int):0<=IntKind.wrap .u8 n/\IntKind.wrap .u8 n<=255:=by
 have h:IntKind.wrap .u8 n=n % 256:=by unfold IntKind.wrap;simp[IntKind.bits,IntKind.signed]
 rw[h];omega
theorem Mx(A:BitVec (IntKind.bits .u64)):0<=IntKind.wrap .i64 (IntKind.wrap .u64 ((BitVec.toNat (A&&& (BitVec.ofInt (IntKind.bits .u64) (255:Int))):Nat):Int))/\IntKind.wrap .i64 (IntKind.wrap .u64 ((BitVec.toNat (A&&& (BitVec.ofInt (IntKind.bits .u64) (255:Int))):Nat):Int))<=255:=by
 have h1:BitVec.toNat (A&&& (BitVec.ofInt (IntKind.bits .u64) (255:Int)))<=255:=by
  rw[BitVec.toNat_and];have h2:(BitVec.ofInt (IntKind.bits .u64) (255:Int)).toNat=255:=by decide
  rw[h2];exact Nat.and_le_right
 generalize BitVec.toNat (A&&& (BitVec.ofInt (IntKind.bits .u64) (255:Int)))=n at h1;have h3:IntKind.wrap .u64 ((n:Nat):Int)=(n:Int):=by
  have h:IntKind.wrap .u64 ((n:Nat):Int)=(n:Int) % 18446744073709551616:=by unfold IntKind.wrap;simp[IntKind.bits,IntKind.signed]
  rw[h];omega
 rw[h3,aN (by omega) (by omega)];omega
theorem Oa{B:Int}{l:List Int}{i:Int}(c:Int)(h:CK B l i)(hB:B<=1000000):∃x i' c',QC l i c=some (x,l,i',c')/\0<=x/\x<=255/\CK (B+1) l i':=by
 obtain⟨h1,h2,h3,h4⟩:=h;have hk:CK (B+1) l (i+1):=⟨h1,h2,by omega,by omega⟩
 have aa:(0:Int)<=40:=by omega
 unfold QC aCc;by_cases k1:i<((l.length:Nat):Int)
 ·have hx:0<=l.getD i.toNat 0/\l.getD i.toNat 0<=255:=h1 _ (aG (by omega));by_cases k2:i+1<=((l.length:Nat):Int);·simp(disch:=omega)only[EV,k1,k2];exact⟨_,_,_,rfl,by omega,by omega,hk⟩
  ·exact absurd k1 (by omega)
 ·by_cases k2:i+1<=((l.length:Nat):Int);·exact absurd k1 (by omega)
  ·simp only[qo,qp,qq,k1,decide_false,qb];rw[aN (n:=i+1) (by omega) (by omega)];simp only[k2,aa,decide_false,decide_true,qb,qa];exact⟨_,_,_,rfl,(Mx _).1,(Mx _).2,hk⟩
theorem cK{B:Int}{l:List Int}{i:Int}(n c:Int)(h:CK B l i)(hB:B<=999000)(hn:1<=n):∃x i' c',mW n l i c=some (x,l,i',c')/\0<=x/\x<n/\CK (B+2) l i':=by
 unfold mW ZD;by_cases k0:n<=1;·simp(disch:=omega)only[EV,k0];exact⟨_,_,_,rfl,by omega,by omega,h.mono (by omega)⟩
 ·obtain⟨x,i1,c1,e1,x0,x1,h1⟩:=Oa c h (by omega);have nz:decide (n=0)=false:=by simp;omega
  by_cases k1:(200:Int)<n
  ·obtain⟨y,i2,c2,e2,y0,y1,h2⟩:=Oa c1 h1 (by omega);simp(disch:=omega)only[EV,k0,k1,e1,e2,nz];refine⟨_,_,_,rfl,?_,?_,h2.mono (by omega)⟩;·rw[xcp (show 0<=x*256+y by omega)];exact xha _ (by omega)
   ·rw[xcp (show 0<=x*256+y by omega)];exact xgb _ (by omega)
  ·simp(disch:=omega)only[EV,k0,k1,e1,nz];refine⟨_,_,_,rfl,?_,?_,h1.mono (by omega)⟩;·rw[xcp (by omega)];exact xha _ (by omega)
   ·rw[xcp (by omega)];exact xgb _ (by omega)
theorem Dv{B:Int}{l:List Int}{i:Int}(L:List (List UInt8))(c:Int)(h:CK B l i)(hB:B<=990000)(hn:1<=L.length):∃x i' c',Cj L l i c=some (x,l,i',c')/\x∈L/\CK (B+2) l i':=by obtain⟨x,i1,c1,e1,x0,x1,h1⟩:=cK (L.length:Int) c h (by omega) (by omega);unfold Cj aGv;simp(disch:=omega)only[EV,e1];exact⟨_,_,_,rfl,aG (by omega),h1⟩
theorem gE{B:Int}{l:List Int}{i:Int}(L:List Int)(c:Int)(h:CK B l i)(hB:B<=990000)(hn:1<=L.length):∃x i' c',mF L l i c=some (x,l,i',c')/\x∈L/\CK (B+2) l i':=by obtain⟨x,i1,c1,e1,x0,x1,h1⟩:=cK (L.length:Int) c h (by omega) (by omega);unfold mF aBv;simp(disch:=omega)only[EV,e1];exact⟨_,_,_,rfl,aG (by omega),h1⟩
theorem Le{B:Int}{l:List Int}{i:Int}(n c:Int)(h:CK B l i)(hB:B<=990000)(hn:1<=n):∃x i' c',F2 n l i c=some (x,l,i',c')/\CK (B+2) l i':=by obtain⟨x,i1,c1,e1,x0,x1,h1⟩:=cK n c h (by omega) hn;unfold F2 aDT;simp(disch:=omega)only[EV,e1];exact⟨_,_,_,rfl,h1⟩
theorem cH{V R:Type}{f:V->Option (V⊕R)}{n:Nat}(P:Nat->V->Prop)(Q:R->Prop)(hs:∀k v,k<n->P k v->∃v',f v=some (.inl v')/\P (k+1) v')(he:∀v,P n v->∃r,f v=some (.inr r)/\Q r){v:V}(h0:P 0 v):∃r,aB f v=some r/\Q r:=by
 have key:∀m k v,k+m=n->P k v->∃r,aB f v=some r/\Q r:=by
  intro m;induction m with
  |zero=>
   intro k v hk hp;have:k=n:=by omega
   subst this;obtain⟨r,h1,h2⟩:=he v hp;exact⟨r,by rw[aE,h1],h2⟩
  |succ m ih=>intro k v hk hp;obtain⟨v',h1,h2⟩:=hs k v (by omega) hp;obtain⟨r,h3,h4⟩:=ih (k+1) v' (by omega) h2;exact⟨r,by rw[aE,h1];exact h3,h4⟩
 exact key n 0 v (by omega) h0
theorem nY(l:List Int)(x:Int)(h:l.length<=1000000):(l.length+List.length ([x]:List Int))*8<=140737488355328:=by simp;omega
theorem mH{α:Type}(l:List α)(h:l.length<=1000000):(l.length+1)*24<=140737488355328:=by omega
theorem eS{α:Type}(l:List (List α))(x:List α):List.set (l++ [[]]) l.length x=l++ [x]:=by rw[xcv _ _ (xm _)];simp
theorem Up{n:Nat}(hn:n<=1000)(x:Int):∃s,Ff (n:Int) x=some s/\s.length<=n:=by
 obtain⟨r,h1,h2⟩:=cH (f:=λv=>(Qd ((n:Int),x) v).ev) (n:=n) (λa v=>∃s:List Int,v=((a:Int),s)/\s.length<=a) (λr=>r.length<=n)
  (λa v ha hv=>by
   obtain⟨s,rfl,hs⟩:=hv;have hp:(0:Int)<=(a:Int):=by omega
   have hr:=nY s (a:Int) (by omega);cases hb:(IntKind.wrap .i64 (BitVec.toNat ((BitVec.ofInt (IntKind.bits .i64) (Int.fdiv x (2^(min (Int.toNat (a:Int)) (IntKind.bits .i64)))))&&& (BitVec.ofInt (IntKind.bits .i64) (1:Int))))==(1:Int))with
   |true=>refine⟨(((a+1:Nat):Int),s++ [(a:Int)]),?_,s++ [(a:Int)],rfl,by simp;omega⟩;simp only[Qd,qo,qp,qq,hb,Int.ofNat_lt.2 ha,hp,hr,decide_true,qa];rw[aN (by omega) (by omega)];rfl
   |false=>refine⟨(((a+1:Nat):Int),s),?_,s,rfl,by omega⟩;simp only[Qd,qo,qp,qq,hb,Int.ofNat_lt.2 ha,hp,decide_true,qa,qb];rw[aN (by omega) (by omega)];rfl)
  (λv hv=>by obtain⟨s,rfl,hs⟩:=hv;refine⟨s,?_,hs⟩;simp only[Qd,qo,qq,JJ,decide_false,qb])
  (v:=((0:Int),([]:List Int))) ⟨[],rfl,V1 _⟩
 have aa:aHB ((n:Int),x) ((0:Int),([]:List Int))=some r:=h1;unfold Ff aCP;simp(disch:=omega)only[EV,aa];exact⟨r,rfl,h2⟩
end
theorem eins_mem{x y:Int}:∀{l:List Int},y∈ins x l↔y=x\/y∈l
 | []=>by simp[ins]
 |a::l=>by
  simp only[ins];split
  ·rw[xae,eins_mem (l:=l),xae];constructor;·rintro(h|h|h)<;>simp[h]
   ·rintro(h|h|h)<;>simp[h]
  ·simp[xae]
theorem pD(x:Int):∀l:List Int,(ins x l).length=l.length+1
 | []=>rfl
 |a::l=>by
  simp only[ins];split;·simp[pD x l]
  ·simp
theorem J0{x:Int}:∀{l:List Int},l.Pairwise (· < ·)->x∉l->(ins x l).Pairwise (· < ·)
 | [],_,_=>by simp[ins]
 |a::l,h,hx=>by
  obtain⟨h1,h2⟩:=xbj.1 h;rw[xae,not_or]at hx;simp only[ins];split
  next hle=>
   refine xbj.2 ⟨λy hy=>?_,J0 h2 hx.2⟩;rcases eins_mem.1 hy with e|hy;·have:=hx.1;omega
   ·exact h1 y hy
  next hle=>
   refine xbj.2 ⟨λy hy=>?_,h⟩;rcases xae.1 hy with e|hy;·omega
   ·have:=h1 y hy;omega
theorem I7:∀{l:List Int} {a b:Int},l.Pairwise (· < ·)->(∀x∈l,a<=x/\x<b)->l.length<=(b-a).toNat
 | [],_,_,_,_=>by simp
 |x::l,a,b,h,hb=>by
  obtain⟨h1,h2⟩:=xbj.1 h;have ih:=I7 (l:=l) (a:=x+1) (b:=b) h2 λy hy=>⟨by have:=h1 y hy;omega,(hb y (xr _ hy)).2⟩
  have:=hb x (by simp);simp only[xk];omega
def ris(n:Nat)(s:List Int):Prop:=(∀x∈s,0<=x/\x<(n:Int))/\s.Pairwise (· < ·)
theorem ris_iff{n:Nat}{s:List Int}:cJ s 0 ((n:Int) -1)=true↔ris n s:=by rw[risingB_iff];exact⟨λh=>⟨λx hx=>by have:=h.1 x hx;omega,h.2⟩,λh=>⟨λx hx=>by have:=h.1 x hx;omega,h.2⟩⟩
theorem ris.len{n:Nat}{s:List Int}(h:ris n s):s.length<=n:=by have:=I7 h.2 h.1;omega
theorem ris.low{n:Nat}{s:List Int}(h:ris n s)(hn:n<=7):aK s:=by have:=h.len;unfold aK;omega
theorem ris.places{n:Nat}{s:List Int}(h:ris n s)(hn:n<=7):Places s n:=Places.of (h.low hn) (ris_iff.2 h)
theorem ris.ins{n:Nat}{s:List Int}(h:ris n s){a:Int}(h0:0<=a)(ha:a<(n:Int))(hx:a∉s):ris n (ins a s):=
 ⟨λx hx=>by
  rcases eins_mem.1 hx with e|hx;·omega
  ·exact h.1 x hx,J0 h.2 hx⟩
theorem ris.filter{n:Nat}{s:List Int}(h:ris n s)(p:Int->Bool):ris n (s.filter p):=
 ⟨λx hx=>h.1 x (xak.1 hx).1,h.2.filter p⟩
theorem tL{l:List Int}(hl:l.length<=1000000)(x:Int):Es l x=some (l.contains x):=by
 have hs:aIX (l,x) 0=_:=fX (f:=λv=>(EH (l,x) v).ev) (l:=l) 0 (λy=>y==x) (mk:=λi=>(i:Int)) (yes:=λ_=>.inr ()) (no:=.inl ()) (λi hi=>by simp(disch:=omega)only[EV,EH,hi];cases(l.getD i 0==x)<;>rfl) (by simp(disch:=omega)only[EV,EH,xi]);unfold Es aAj;simp(disch:=omega)only[EV,hs];have e:l.contains x=l.any λy=>y==x:=by rw[List.contains_eq_any_beq];congr 1;funext y;exact xhh
 rw[e];have h2:=pX (l:=l) (q:=λy=>y==x);cases h:l.findIdx? λy=>y==x with
 |none=>
  rw[h]at h2;have h3:(l.any λy=>y==x)=false:=by rw[xen];exact λh4=>by have:=h2.1 h4;simp at this
  rw[h3];rfl
 |some i=>rw[h]at h2;rw[h2.2 rfl];rfl
theorem qD{l:List Int}{x:Int}(hl:l.length<=100)(hx:x∉l):Df l x=some (ins x l):=by
 have h:=fX (f:=λv=>(Qm (l,x) v).ev) (l:=l) 0 (λy=> !decide (y<=x)) (mk:=λi=>(i:Int)) (yes:=λi=>(i:Int)) (no:=(l.length:Int))
  (λi hi=>by
   have ad:l.getD i 0≠x:=λe=>hx (e▸aG hi);by_cases aa:l.getD i 0<x
   ·have hle:l.getD i 0<=x:=by omega
    simp(disch:=omega)only[EV,Qm,hi,aa,hle];rfl
   ·have hle:¬l.getD i 0<=x:=by omega
    simp(disch:=omega)only[EV,Qm,hi,aa,hle])
  (by simp(disch:=omega)only[EV,Qm,xi])
 have h0:YB (l,x) 0=some ((((l.findIdx? λy=> !decide (y<=x)).elim l.length id:Nat):Int)):=by have h1:YB (l,x) 0=_:=h;rw[h1];cases l.findIdx? λy=> !decide (y<=x)<;>rfl
 have hi:=Fc x l;have hle:(l.findIdx? λy=> !decide (y<=x)).elim l.length id<=l.length:=by
  cases hf:l.findIdx? λy=> !decide (y<=x)with
  |none=>exact xm _
  |some j=>obtain⟨hj,_⟩:=xdb.1 hf;exact Nat.le_of_lt hj
 generalize(l.findIdx? λy=> !decide (y<=x)).elim l.length id=i at h0 hi hle;have ab:List.drop 0 (List.take i l)++ [x]++List.drop i (List.take l.length l)=ins x l:=by rw[sX,Ri,<-hi];simp
 have hlen:(List.drop 0 (List.take i l)).length<=100:=by simp;omega
 have ae:(List.drop i (List.take l.length l)).length<=100:=by simp;omega
 have g1:(decide (0<=(i:Int))&&decide ((i:Int)<=((l.length:Nat):Int)))=true:=by rw[qc (by omega),qc (by omega)];rfl
 unfold Df YO;rw[qn,h0,xc];by_cases aa:i<l.length;·have ad:(l.getD i 0==x)=false:=beq_eq_false_iff_ne.2 λe=>hx (e▸aG aa);simp(disch:=omega)only[EV,aa,ad,J8,xy,xj,xk,hle];rw[g1,qa,qa,qi (by omega),qi (by omega),qi (by omega)];exact congrArg some ab
 ·simp(disch:=omega)only[EV,aa,J8,xy,xj,xk,hle];rw[g1,qa,qa,qi (by omega),qi (by omega),qi (by omega)];exact congrArg some ab
theorem jR{l:List Int}(h:l.length<=1048576):pY l=some l:=by
 have h1:(0+l.length)*8<=140737488355328:=by omega
 unfold pY NE;simp(disch:=omega)only[EV,xy,J8,h1]
theorem oW{l:List Int}(hl:l.length<=1000000)(a:Int):Wr l a=some (l.filter λx=>x !=a):=by
 have h:=(dP (f:=λv=>(Vv (l,a) v).ev) l 0 (mk:=λi (s:List Int)=>((i:Int),s)) (I:=λi s=>s.length<=i) (g:=λs x=>if x !=a then s++ [x]else s) (fin:=λs=>s) (s0:=[]) (xm _)
  (λi s hi hs=>by
   have r1:=nY s (l.getD i 0) (by omega);cases hb:(l.getD i 0 !=a)with
   |true=>refine⟨?_,by simp;omega⟩;simp(disch:=omega)only[EV,Vv,hi,hb,r1];rfl
   |false=>refine⟨?_,by simp;omega⟩;simp(disch:=omega)only[EV,Vv,hi,hb];rfl)
  (λs _=>by simp(disch:=omega)only[EV,Vv,xi])).1
 have key:∀(l acc:List Int),l.foldl (λs x=>if x !=a then s++ [x]else s) acc=acc++l.filter λx=>x !=a:=by
  intro l;induction l with
  |nil=>intro acc;simp
  |cons x l ih=>intro acc;rw[Z5,ih,UZ];cases(x !=a)<;>simp
 have h0:aGp (l,a) (0,[])=some (l.filter λx=>x !=a):=by have h1:aGp (l,a) (0,[])=_:=h;rw[h1,key];rfl
 unfold Wr aAD;simp(disch:=omega)only[EV,h0]
def cO{α:Type}(a:Int)(l:List α):List α:=l.take a.toNat++l.drop (a.toNat+1)
theorem wT{α:Type}{a:Int}{l:List α}(h0:0<=a)(h:a<(l.length:Int)):(cO a l).length+1=l.length:=by unfold cO;rw[xj,xw,tH];omega
theorem Un{α:Type}{a:Int}{l:List α}{x:α}(h:x∈cO a l):x∈l:=by
 rcases xp.1 h with h|h;·exact Wi h
 ·exact XT h
theorem Oc{l:List Int}(hl:l.length<=1000){a:Int}(h0:0<=a)(h:a<(l.length:Int)):PQ l a=some (cO a l):=by
 have hw:IntKind.wrap .i64 (a+1)=a+1:=aN (by omega) (by omega);have g1:(decide (0<=a)&&decide (a<=((l.length:Nat):Int)))=true:=by rw[qc h0,qc (by omega)];rfl
 have g2:(decide (0<=a+1)&&decide (a+1<=((l.length:Nat):Int)))=true:=by rw[qc (by omega),qc (by omega)];rfl
 have e1:=jR (l:=List.drop 0 (List.take a.toNat l)) (by simp;omega);have ht:(a+1).toNat=a.toNat+1:=by omega
 have g3:((List.drop 0 (List.take a.toNat l)).length+(List.drop (a.toNat+1) (List.take l.length l)).length)*8<=140737488355328:=by simp;omega
 unfold PQ aDH;rw[qp,g1,qa,qn,e1,xc,hw,qp,g2,qa,ht,qp,qc g3,qa,qq];unfold cO;rw[Ri,sX]
def oI(l:List Int):Bool:=((List.length l:Nat):Int)==0
def cL(k a b c:Int)(l:List Int):Bool:=
 if k=1\/k=2\/k=8\/k=9 then(b==0)&&((c==0)&&oI l)
 else if k=3\/k=4 then(c==0)&&oI l
 else if k=5 then oI l
 else if k=6 then(b==0)&&(c==0)
 else if k=7 then(a==0)&&((b==0)&&(c==0))
 else if k=10\/k=11 then(a==0)&&((b==0)&&((c==0)&&oI l))
 else false
theorem a6{x y:Bool}:(Tr.t x (.l y) (.l false)).ev=some (x&&y):=by cases x<;>rfl
theorem Mi{x y:Bool}{z:Tr Bool}(h:z.ev=some y):(Tr.t x z (.l false)).ev=some (x&&y):=by cases x<;>simp[h]
theorem Rt(k a b c:Int)(l:List Int):aEd k a b c l=some (cL k a b c l):=by
 have e2:=a6 (x:=c==0) (y:=oI l);have e3:=Mi (x:=b==0) (a6 (x:=c==0) (y:=oI l));have e4:=Mi (x:=a==0) (Mi (x:=b==0) (a6 (x:=c==0) (y:=oI l)));have e5:=Mi (x:=a==0) (a6 (x:=b==0) (y:=c==0));by_cases h1:k=1;·subst h1;exact e3
 by_cases h2:k=2;·subst h2;exact e3
 by_cases h3:k=3;·subst h3;exact e2
 by_cases h4:k=4;·subst h4;exact e2
 by_cases h5:k=5;·subst h5;rfl
 by_cases h6:k=6;·subst h6;exact a6 (x:=b==0) (y:=c==0)
 by_cases h7:k=7;·subst h7;exact e5
 by_cases h8:k=8;·subst h8;exact e3
 by_cases h9:k=9;·subst h9;exact e3
 by_cases aa:k=10;·subst aa;exact e4
 by_cases ab:k=11;·subst ab;exact e4
 have hp:cL k a b c l=false:=by unfold cL;rw[qh (by omega),qh (by omega),qh h5,qh h6,qh h7,qh (by omega)]
 rw[hp];unfold aEd aCz;simp only[qo,qq,beq_eq_false_iff_ne.2 h1,beq_eq_false_iff_ne.2 h2,beq_eq_false_iff_ne.2 h3,beq_eq_false_iff_ne.2 h4,beq_eq_false_iff_ne.2 h5,beq_eq_false_iff_ne.2 h6,beq_eq_false_iff_ne.2 h7,beq_eq_false_iff_ne.2 h8,beq_eq_false_iff_ne.2 h9,beq_eq_false_iff_ne.2 aa,beq_eq_false_iff_ne.2 ab,qb]
def cI(n:Nat)(a:Int):Bool:=bX a 0 ((n:Int) -1)
def bO(n:Nat)(s:List Int)(a:Int):Bool:=cI n a&& !s.contains a
def iE(n m:Nat)(s:List Int)(k a b:Int)(l:List Int):Bool:=
 if k=1\/k=8 then bO n s a
 else if k=2 then s.contains a
 else if k=3 then s.contains a&&bO n s b
 else if k=4 then cI n a
 else if k=5 then cI m a&&cI n b
 else if k=6 then((l.length:Nat):Int)==((m:Nat):Int)
 else if k=9 then cI m a
 else if k=10 then decide ((0:Int)<((s.length:Nat):Int))
 else true
theorem B0{o:List Int}(ho:o.length<=1000)(ds:List (List Int))(a:Int):BM o ds a=some (cI o.length a):=by unfold BM aBF cI;simp(disch:=omega)only[EV,fM]
theorem a7{o s:List Int}(ho:o.length<=1000)(hs:s.length<=1000)(ds:List (List Int))(c a:Int):OT o ds s c a=some (bO o.length s a):=by unfold OT aEa bO;simp(disch:=omega)only[EV,B0 ho,tL (l:=s) (by omega)];cases cI o.length a<;>rfl
theorem KW{o s:List Int}{ds:List (List Int)}(ho:o.length<=1000)(hd:ds.length<=1000)(hs:s.length<=1000)(n k a b c:Int)(l:List Int):aBV o ds s n k a b c l=some (iE o.length ds.length s k a b l):=by
 have e1:=a7 ho hs ds n a;have e2:=a7 ho hs ds n b;have e3:=tL (l:=s) (by omega) a;have e4:=B0 ho ds a;have e5:=B0 ho ds b;have e6:rK a 0 (IntKind.wrap .i64 (((ds.length:Nat):Int) -1))=some (cI ds.length a):=by rw[aN (by omega) (by omega),fM];rfl
 have c1:∀x:Option Bool,∀y,x=some y->(Tr.c Bool x λr=>.l r).ev=some y:=λx y h=>by rw[h];rfl
 have c2:∀x z:Option Bool,∀y u,x=some y->z=some u->(Tr.c Bool x λr=>.t r (Tr.c Bool z λr=>.l r) (.l false)).ev=some (y&&u):=λx z y u h h'=>by rw[h,h'];cases y<;>rfl
 by_cases h1:k=1;·subst h1;exact c1 _ _ e1
 by_cases h2:k=2;·subst h2;exact c1 _ _ e3
 by_cases h3:k=3;·subst h3;exact c2 _ _ _ _ e3 e2
 by_cases h4:k=4;·subst h4;exact c1 _ _ e4
 by_cases h5:k=5;·subst h5;exact c2 _ _ _ _ e6 e5
 by_cases h6:k=6;·subst h6;rfl
 by_cases h8:k=8;·subst h8;exact c1 _ _ e1
 by_cases h9:k=9;·subst h9;exact c1 _ _ e6
 by_cases aa:k=10;·subst aa;rfl
 have hp:iE o.length ds.length s k a b l=true:=by unfold iE;rw[qh (by omega),qh h2,qh h3,qh h4,qh h5,qh h6,qh h9,qh aa]
 rw[hp];unfold aBV aFC;simp only[qo,qq,beq_eq_false_iff_ne.2 h1,beq_eq_false_iff_ne.2 h2,beq_eq_false_iff_ne.2 h3,beq_eq_false_iff_ne.2 h4,beq_eq_false_iff_ne.2 h5,beq_eq_false_iff_ne.2 h6,beq_eq_false_iff_ne.2 h8,beq_eq_false_iff_ne.2 h9,beq_eq_false_iff_ne.2 aa,qb]
end Go.Proofs.YtjiljcblmgeioaaGreatDoor
