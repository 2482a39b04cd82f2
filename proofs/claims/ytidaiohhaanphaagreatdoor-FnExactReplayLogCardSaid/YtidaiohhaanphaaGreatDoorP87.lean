/- A part of the proof that FnExactReplayLog hands back true, at every argument of the row. -/
import Derived.Test.YtidaiohhaanphaaGreatDoorC1
namespace Go.Proofs.YtidaiohhaanphaaGreatDoor
section
noncomputable section
open Go.Proofs.Tryz
open List (length getD set)
open Int (toNat)
open IntKind (wrap)
def wcjf:FD:=wcje.1.2
theorem wcjg:FDok prog (3,wcjf):=wcje.2
end
end
theorem ev_s_inl{A B L:Type}(a:A)(k:A->Tr L)(k':B->Tr L):(Tr.s A B (.inl a) k k').ev=(k a).ev:=rfl
theorem ev_s_inr{A B L:Type}(a:B)(k:A->Tr L)(k':B->Tr L):(Tr.s A B (.inr a) k k').ev=(k' a).ev:=rfl
theorem inR_cast(i n:Nat):inR (i:Int) n=decide (i<n):=by unfold inR;simp
theorem inR_int{i:Int}{n:Nat}(h0:0<=i)(h1:i<n):inR i n=true:=by unfold inR;simp;omega
theorem getD_mem{α:Type}{l:List α}{i:Nat}{d:α}(h:i<l.length):l.getD i d∈l:=by rw[xd,xg h];exact xdz h
theorem EV:(∀{L:Type} (b:Bool) (x y:Tr L),(Tr.t b x y).ev=bif b then x.ev else y.ev)/\
  (∀{L:Type} (R:Type) (x:Option R) (k:R->Tr L),(Tr.c R x k).ev=x.bind λr=>(k r).ev)/\
  (∀{L:Type} (b:Bool) (x:Tr L),(Tr.g b x).ev=bif b then x.ev else none)/\
  (∀{L:Type} (x:L),(Tr.l x).ev=some x)/\
  (∀{A B L:Type} (a:A) (k:A->Tr L) (k':B->Tr L),(Tr.s A B (.inl a) k k').ev=(k a).ev)/\
  (∀{A B L:Type} (a:B) (k:A->Tr L) (k':B->Tr L),(Tr.s A B (.inr a) k k').ev=(k' a).ev)/\
  (∀i n:Nat,inR (i:Int) n=decide (i<n))/\
  (∀{i:Int} {n:Nat},0<=i->i<n->inR i n=true)/\
  (∀{n m:Nat},((n:Int)<(m:Int))↔n<m)/\
  (∀h:Decidable True,@decide True h=true)/\
  (∀h:Decidable False,@decide False h=false)/\
  (∀{α:Type} (a b:α),(bif true then a else b)=a)/\
  (∀{α:Type} (a b:α),(bif false then a else b)=b)/\
  (∀{α β:Type} (a:α) (f:α->Option β),(some a).bind f=f a)/\
  (∀n:Nat,((n:Int)).toNat=n)/\
  (∀{n:Int},-9223372036854775808<=n->n<9223372036854775808->IntKind.wrap .i64 n=n)/\
  ((!true)=false)/\((!false)=true)/\(∀b:Bool,(true&&b)=b)/\(∀b:Bool,(b&&true)=b)/\(∀b:Bool,(false&&b)=false)/\(∀b:Bool,(b&&false)=false)/\
  (∀{α:Type} (p:Prop) (h:Decidable p) (a b:α),(bif @decide p h then a else b)=if p then a else b)/\
  (∀{α:Type} (h:Decidable True) (a b:α),(@ite α True h a b)=a)/\
  (∀{α:Type} (h:Decidable False) (a b:α),(@ite α False h a b)=b):=by
 refine⟨λb x y=>rfl,λR x k=>rfl,λb x=>rfl,λx=>rfl,λa k k'=>rfl,λa k k'=>rfl,inR_cast,inR_int,Int.ofNat_lt,λh=>by simp,λh=>by simp,λa b=>rfl,λa b=>rfl,λa f=>rfl,λn=>rfl,wrap64,
  rfl,rfl,λb=>by simp,λb=>by simp,λb=>by simp,λb=>by simp,λp h a b=>?_,λh a b=>by simp,λh a b=>by simp⟩
 by_cases hp:p<;>simp[hp]
theorem foldl_range_succ{S:Type}(g:S->Nat->S)(s:S)(n:Nat):(List.range (n+1)).foldl g s=g ((List.range n).foldl g s) n:=by rw[xee,xcq];rfl
theorem iter_fold{V S R:Type}{f:V->Option (V⊕R)}{n:Nat}(mk:Nat->S->V)(I:Nat->S->Prop)(g:S->Nat->S)(fin:S->R){s0:S}(h0:I 0 s0)
  (aa:∀i s,i<n->I i s->f (mk i s)=some (.inl (mk (i+1) (g s i)))/\I (i+1) (g s i))
  (ab:∀s,I n s->f (mk n s)=some (.inr (fin s))):
  iter f (mk 0 s0)=some (fin ((List.range n).foldl g s0))/\I n ((List.range n).foldl g s0):=by
 have hI:∀i,i<=n->I i ((List.range i).foldl g s0):=by
  intro i;induction i with
  |zero=>intro _;exact h0
  |succ i ih=>intro hi;rw[foldl_range_succ];exact(aa i _ (by omega) (ih (by omega))).2
 have key:∀k i,i+k=n->iter f (mk i ((List.range i).foldl g s0))=some (fin ((List.range n).foldl g s0)):=by
  intro k;induction k with
  |zero=>
   intro i hi;have:i=n:=by omega
   subst this;rw[iter_eq,ab _ (hI i (xm _))]
  |succ k ih=>intro i hi;rw[iter_eq,(aa i _ (by omega) (hI i (by omega))).1];have:=ih (i+1) (by omega);rw[foldl_range_succ]at this;exact this
 exact⟨key n 0 (by omega),hI n (xm _)⟩
theorem foldl_getD{α S:Type}(l:List α)(d:α)(g:S->α->S)(s:S):(List.range l.length).foldl (λs i=>g s (l.getD i d)) s=l.foldl g s:=by
 induction l generalizing s with
 |nil=>rfl
 |cons x l ih=>rw[xj,xfh,xbm,xha,xbm];exact ih _
theorem iter_foldl{V S R α:Type}{f:V->Option (V⊕R)}(l:List α)(d:α)(mk:Nat->S->V)(I:Nat->S->Prop)(g:S->α->S)(fin:S->R){s0:S}(h0:I 0 s0)
  (aa:∀i s,i<l.length->I i s->f (mk i s)=some (.inl (mk (i+1) (g s (l.getD i d))))/\I (i+1) (g s (l.getD i d)))
  (ab:∀s,I l.length s->f (mk l.length s)=some (.inr (fin s))):
  iter f (mk 0 s0)=some (fin (l.foldl g s0))/\I l.length (l.foldl g s0):=by
 have:=iter_fold mk I (λs i=>g s (l.getD i d)) fin h0 aa ab;rw[foldl_getD]at this;exact this
theorem iter_inv{V S R:Type}{f:V->Option (V⊕R)}{n:Nat}(mk:Nat->S->V)(I:Nat->S->Prop)(Q:R->Prop){s0:S}(h0:I 0 s0)
  (aa:∀i s,i<n->I i s->(∃s',f (mk i s)=some (.inl (mk (i+1) s'))/\I (i+1) s')\/∃r,f (mk i s)=some (.inr r)/\Q r)
  (ab:∀s,I n s->∃r,f (mk n s)=some (.inr r)/\Q r):∃r,iter f (mk 0 s0)=some r/\Q r:=by
 have key:∀k i s,i+k=n->I i s->∃r,iter f (mk i s)=some r/\Q r:=by
  intro k;induction k with
  |zero=>
   intro i s hi hI;have:i=n:=by omega
   subst this;obtain⟨r,h1,h2⟩:=ab s hI;exact⟨r,by rw[iter_eq,h1],h2⟩
  |succ k ih=>
   intro i s hi hI;rcases aa i s (by omega) hI with⟨s',h1,h2⟩|⟨r,h1,h2⟩
   ·obtain⟨r,h3,h4⟩:=ih (i+1) s' (by omega) h2;exact⟨r,by rw[iter_eq,h1];exact h3,h4⟩
   ·exact⟨r,by rw[iter_eq,h1],h2⟩
 exact key n 0 s0 (by omega) h0
theorem iter_allR{V R:Type}{f:V->Option (V⊕R)}{n:Nat}(mk:Nat->V)(p:Nat->Bool)(yes:R)(no:R)
  (h:∀i:Nat,i<n->(∀j,j<i->p j=true)->f (mk i)=some (bif p i then .inl (mk (i+1))else .inr no)) (aa:f (mk n)=some (.inr yes)):
  iter f (mk 0)=some (bif (List.range n).all p then yes else no):=by
 have key:∀(k i:Nat),i+k=n->(∀j,j<i->p j=true)->iter f (mk i)=some (bif (List.range' i k).all p then yes else no):=by
  intro k;induction k with
  |zero=>
   intro i hk _;have:i=n:=by omega
   subst this;rw[iter_eq,aa];rfl
  |succ k ih=>
   intro i hk hj;rw[iter_eq,h i (by omega) hj,List.range'_succ,xdm];cases hs:p i with
   |false=>rfl
   |true=>
    simp only[qa,xcg];exact ih (i+1) (by omega) λj ab=>by
     by_cases e:j=i;·rw[e];exact hs
     ·exact hj j (by omega)
 have:=key n 0 (by omega) λj hj=>absurd hj (xew _);rw[List.range_eq_range'];exact this
def Fit1(l:List Int):Prop:=(l.length:Int)<9223372036854775808
def Fit2(x:List (List Int)):Prop:=(x.length:Int)<9223372036854775808/\∀r∈x,Fit1 r
def Low1(l:List Int):Prop:=(l.length:Int)<=1048576
def Low2(x:List (List Int)):Prop:=(x.length:Int)<=1048576/\∀r∈x,Low1 r
theorem set_copy{α:Type}{l:List α}{i:Nat}{d:α}(h:i<l.length)(d':α):(l.take i++List.replicate (l.length-i) d).set i (l.getD i d')=l.take (i+1)++List.replicate (l.length-(i+1)) d:=by
 have hl:(l.take i).length=i:=by simp;omega
 rw[xck _ _ (by omega),hl,xdt,show l.length-i=(l.length-(i+1))+1 by omega,List.replicate_succ,xfx,xan h,
  xd,xg h,xcf]
 rfl
theorem copy_loop{α:Type}{f:Int×List α->Option ((Int×List α)⊕List α)}{l:List α}(d:α)
  (aa:∀(i:Nat) (r:List α),i<l.length->r.length=l.length->f ((i:Int),r)=some (.inl (((i+1:Nat):Int),r.set i (l.getD i d))))
  (ab:∀r:List α,f ((l.length:Int),r)=some (.inr r)):iter f (0,List.replicate l.length d)=some l:=by
 have:=(iter_fold (f:=f) (n:=l.length) (mk:=λi (_:Unit)=>((i:Int),l.take i++List.replicate (l.length-i) d)) (I:=λ_ _=>True) (g:=λs _=>s) (fin:=λ_=>l) (s0:=()) trivial
  (λi s hi _=>⟨by rw[aa i _ hi (by simp;omega),set_copy hi],trivial⟩)
  (λs _=>by rw[ab];simp)).1
 simpa using this
theorem all_getD{α:Type}[BEq α][LawfulBEq α]{a b:List α}{d:α}(h:a.length=b.length):((List.range a.length).all λi=>a.getD i d==b.getD i d)=(a==b):=by
 rw[xcn,xq,qg];constructor;·intro h1;refine xfn h λi hi aa=>?_;have:=h1 i (xap.2 hi);rw[xd,xd,xg hi,xg aa]at this;simpa using this
 ·rintro rfl i _;simp
theorem int_ne(a b:Nat):(((a:Nat):Int) != ((b:Nat):Int))= !(decide (a=b)):=by
 by_cases h:a=b;·subst h;simp
 ·have:((a:Nat):Int)≠((b:Nat):Int):=by omega
  simp[h,bne,this]
theorem int_eq(a b:Nat):(((a:Nat):Int)==((b:Nat):Int))=decide (a=b):=by
 by_cases h:a=b;·subst h;simp
 ·have:((a:Nat):Int)≠((b:Nat):Int):=by omega
  simp[h,this]
theorem eq_loop{α:Type}[BEq α][LawfulBEq α]{f:Int->Option (Int⊕(Unit⊕Unit))}{a b:List α}(d:α)(hl:a.length=b.length)
  (aa:∀i:Nat,i<a.length->f (i:Int)=some (bif a.getD i d==b.getD i d then .inl ((i+1:Nat):Int)else .inr (.inr ())))
  (ab:f (a.length:Int)=some (.inr (.inl ()))):iter f 0=some (bif a==b then .inl ()else .inr ()):=by
 have:=iter_allR (f:=f) (n:=a.length) (mk:=λi=>(i:Int)) (p:=λi=>a.getD i d==b.getD i d) (yes:=.inl ()) (no:=.inr ()) (λi hi _=>aa i hi) ab;rw[all_getD hl]at this;exact this
theorem sz_loop{α:Type}{f:Int×Int->Option ((Int×Int)⊕(Int⊕Unit))}{l:List α}(d:α)(Q:α->Prop){b:Int}(h0:0<=b)(h1:b<=1048576)
  (aa:∀(i:Nat) (s:Int),i<l.length->0<=s->s<=1048576->(∃s',f (s,(i:Int))=some (.inl (s',((i+1:Nat):Int)))/\0<=s'/\s'<=1048576/\Q (l.getD i d))\/f (s,(i:Int))=some (.inr (.inr ())))
  (ab:∀s,f (s,(l.length:Int))=some (.inr (.inl s))):iter f (b,0)=some (.inr ())\/∃s,iter f (b,0)=some (.inl s)/\0<=s/\s<=1048576/\∀x∈l,Q x:=by
 have:=iter_inv (f:=f) (n:=l.length) (mk:=λi s=>(s,(i:Int))) (I:=λi s=>0<=s/\s<=1048576/\∀j,j<i->Q (l.getD j d)) (Q:=λr=>r=.inr ()\/∃s,r=.inl s/\0<=s/\s<=1048576/\∀x∈l,Q x) (s0:=b)
  ⟨h0,h1,λj hj=>absurd hj (xew _)⟩ (λi s hi hs=>by
   rcases aa i s hi hs.1 hs.2.1 with⟨s',k1,k2,k3,k4⟩|k
   ·exact .inl ⟨s',k1,k2,k3,λj hj=>by
     by_cases e:j=i;·rw[e];exact k4
     ·exact hs.2.2 j (by omega)⟩
   ·exact .inr ⟨_,k,.inl rfl⟩) (λs hs=>⟨_,ab s,.inr ⟨s,rfl,hs.1,hs.2.1,λx hx=>by obtain⟨j,hj,e⟩:=xbw hx;have:=hs.2.2 j hj;rw[xd,xg hj]at this;rw[<-e];exact this⟩⟩)
 obtain⟨r,h2,h3⟩:=this;rcases h3 with rfl|⟨s,rfl,h4⟩
 ·exact .inl h2
 ·exact .inr ⟨s,h2,h4⟩
def Sz(o:Option Int)(Q:Prop):Prop:=∃r,o=some r/\r<=1048576/\(0<=r->Q)
theorem szIntS_eq{l:List Int}{b:Int}(hl:Fit1 l)(h0:0<=b)(h1:b<=1048576):wbed l b=some (if b-(l.length:Int)<0 then-1 else b-(l.length:Int)):=by unfold Fit1 at hl;unfold wbed wbtm;simp(disch:=omega)only[EV];split<;>rfl
theorem szIntS_sz{l:List Int}{b:Int}(hl:Fit1 l)(h0:0<=b)(h1:b<=1048576):Sz (wbed l b) (Low1 l):=by
 refine⟨_,szIntS_eq hl h0 h1,?_,λh=>?_⟩;·split<;>omega
 ·unfold Low1;split at h<;>omega
theorem szIntSS_sz{x:List (List Int)}{b:Int}(hx:Fit2 x)(h0:0<=b)(h1:b<=1048576):Sz (wbtp x b) (Low2 x):=by
 obtain⟨ab,aa⟩:=hx;unfold wbtp wbto;simp(disch:=omega)only[EV];by_cases hb:b-(x.length:Int)<0;·simp(disch:=omega)only[EV,hb];exact⟨_,rfl,by omega,λh=>by omega⟩
 ·have:=sz_loop (f:=λv=>(wayn x v).ev) (l:=x) [] Low1 (b:=b-(x.length:Int)) (by omega) (by omega) (λi s hi k0 k1=>by
   obtain⟨r,k2,k3,k4⟩:=szIntS_sz (aa _ (getD_mem (d:=[]) hi)) k0 k1;simp(disch:=omega)only[EV,wayn,hi,k2];by_cases hr:r<0;·right;simp(disch:=omega)only[EV,hr]
   ·left;simp(disch:=omega)only[EV,hr];exact⟨r,rfl,by omega,by omega,k4 (by omega)⟩) (λs=>by simp(disch:=omega)only[EV,wayn,xi])
  rcases this with h|⟨s,h,k0,k1,k2⟩
  ·simp(disch:=omega)only[EV,hb,wbcn,h];exact⟨_,rfl,by omega,λh=>by omega⟩
  ·simp(disch:=omega)only[EV,hb,wbcn,h];exact⟨_,rfl,by omega,λ_=>⟨by omega,k2⟩⟩
theorem toIntS_eq{l:List Int}(hl:Low1 l):wbfb l=some l:=by unfold Low1 at hl;unfold wbfb wbtw;rw[qp,show(decide ((0:Int)<=((l.length:Nat):Int))&&decide (((l.length:Nat):Int)<=((l.length:Nat):Int))&&decide (((8:Nat):Int)*((l.length:Nat):Int)<=281474976710656))=true by simp;omega];have:=copy_loop (f:=λv=>(wayo l v).ev) (l:=l) 0 (λi r hi hr=>by simp(disch:=omega)only[EV,wayo,hr,hi];rfl) (λr=>by simp(disch:=omega)only[EV,wayo,xi]);simp(disch:=omega)only[EV,wbfa,this]
theorem toIntSS_eq{x:List (List Int)}(hx:Low2 x):wbtz x=some x:=by obtain⟨hl,hr⟩:=hx;unfold wbtz wbty;rw[qp,show(decide ((0:Int)<=((x.length:Nat):Int))&&decide (((x.length:Nat):Int)<=((x.length:Nat):Int))&&decide (((24:Nat):Int)*((x.length:Nat):Int)<=281474976710656))=true by simp;omega];have:=copy_loop (f:=λv=>(wayp x v).ev) (l:=x) [] (λi r hi aa=>by simp(disch:=omega)only[EV,wayp,aa,hi,toIntS_eq (hr _ (getD_mem (d:=[]) hi))];rfl) (λr=>by simp(disch:=omega)only[EV,wayp,xi]);simp(disch:=omega)only[EV,wbfc,this]
theorem eqIntS_eq{a b:List Int}(ha:Low1 a):wbkl a b=some (a==b):=by
 unfold Low1 at ha;unfold wbkl wcfc;by_cases h:a.length=b.length
 ·have hs:=eq_loop (f:=λv=>(wbbj (a,b) v).ev) (a:=a) (b:=b) 0 h (λi hi=>by
   have aa:i<b.length:=by omega
   simp(disch:=omega)only[EV,wbbj,hi,bne];cases(a.getD i 0==b.getD i 0)<;>rfl) (by simp(disch:=omega)only[EV,wbbj,xi])
  simp(disch:=omega)only[EV,int_ne,h,wbkk,hs];cases(a==b)<;>rfl
 ·have:(a==b)=false:=by rw[qf];exact λe=>h (by rw[e])
  simp(disch:=omega)only[EV,int_ne,h,this]
theorem eqIntSS_eq{a b:List (List Int)}(ha:Low2 a):wcff a b=some (a==b):=by
 obtain⟨ha,hr⟩:=ha;unfold wcff wcfe;by_cases h:a.length=b.length
 ·have hs:=eq_loop (f:=λv=>(wbbk (a,b) v).ev) (a:=a) (b:=b) [] h (λi hi=>by
   have aa:i<b.length:=by omega
   simp(disch:=omega)only[EV,wbbk,hi,eqIntS_eq (hr _ (getD_mem (d:=[]) hi))];cases(a.getD i []==b.getD i [])<;>rfl) (by simp(disch:=omega)only[EV,wbbk,xi])
  simp(disch:=omega)only[EV,int_ne,h,wbkm,hs];cases(a==b)<;>rfl
 ·have:(a==b)=false:=by rw[qf];exact λe=>h (by rw[e])
  simp(disch:=omega)only[EV,int_ne,h,this]
theorem all_range{α:Type}(l:List α)(d:α)(p:α->Bool):((List.range l.length).all λi=>p (l.getD i d))=l.all p:=by
 induction l with
 |nil=>rfl
 |cons x l ih=>rw[xj,xfh,xdm,List.all_map,xdm];exact congrArg (p x&& ·) ih
def isIn(n a b:Int):Bool:=decide (a<=n)&&decide (n<=b)
def allIn(l:List Int)(a b:Int):Bool:=l.all λx=>isIn x a b
theorem isIn_iff{n a b:Int}:isIn n a b=true↔a<=n/\n<=b:=by simp[isIn]
theorem allIn_iff{l:List Int}{a b:Int}:allIn l a b=true↔∀x∈l,a<=x/\x<=b:=by simp[allIn,isIn]
theorem allIn_getD{l:List Int}{a b:Int}(h:allIn l a b=true){i:Nat}(hi:i<l.length):a<=l.getD i 0/\l.getD i 0<=b:=allIn_iff.1 h _ (getD_mem hi)
theorem l1In_eq(n a b:Int):waoo n a b=some (isIn n a b):=by unfold waoo wbue isIn;simp only[qo,qq];cases decide (a<=n)<;>rfl
theorem between_eq(n a b:Int):wazz n a b=some (isIn n a b):=by unfold wazz wbzx isIn;simp only[qo,qq];cases decide (a<=n)<;>rfl
theorem l1Least_eq(a b:Int):wbww a b=some (min a b):=by
 unfold wbww wbwv;simp(disch:=omega)only[EV];by_cases h:a<b;·rw[qi h,Int.min_eq_left (by omega)]
 ·rw[qh h,xgp (by omega)]
theorem l1Most_eq(a b:Int):wbmj a b=some (max a b):=by
 unfold wbmj wbwx;simp(disch:=omega)only[EV];by_cases h:b<a;·rw[qi h,Int.max_eq_left (by omega)]
 ·rw[qh h,xgq (by omega)]
theorem l2Row_eq{l:List Int}(hl:Low1 l)(n b:Int):wbks l n b=some (allIn l 0 b&&((l.length:Int)==n)):=by unfold Low1 at hl;unfold wbks wbuf;have hs:wbfe (l,n,b) 0=_:=iter_allR (f:=λv=>(wayq (l,n,b) v).ev) (n:=l.length) (mk:=λi=>(i:Int)) (p:=λi=>isIn (l.getD i 0) 0 b) (yes:=.inl ()) (no:=.inr ()) (λi hi _=>by simp(disch:=omega)only[EV,wayq,hi,l1In_eq];cases isIn (l.getD i 0) 0 b<;>rfl) (by simp(disch:=omega)only[EV,wayq,xi]);rw[all_range l 0 (λx=>isIn x 0 b)]at hs;simp(disch:=omega)only[EV,hs];unfold allIn;cases l.all λx=>isIn x 0 b<;>rfl
theorem iter_forE{V R α:Type}{f:V->Option (V⊕R)}{l:List α}(d:α)(q:α->Bool)(mk:Nat->V)(yes:Nat->R)(no:R)
  (h:∀i:Nat,i<l.length->f (mk i)=some (bif q (l.getD i d)then .inr (yes i)else .inl (mk (i+1)))) (aa:f (mk l.length)=some (.inr no)):
  iter f (mk 0)=some ((l.findIdx? q).elim no yes):=by
 have key:∀(k i:Nat),i+k=l.length->iter f (mk i)=some (((l.drop i).findIdx? q).elim no (λj=>yes (j+i))):=by
  intro k;induction k with
  |zero=>
   intro i hk;have:i=l.length:=by omega
   subst this;rw[iter_eq,aa];simp
  |succ k ih=>
   intro i hk;rw[iter_eq,h i (by omega),xbe (by omega),xec];have e:l.getD i d=l[i]:=by rw[xd,xg (by omega)];rfl
   rw[e];cases q l[i]with
   |true=>simp
   |false=>
    simp only[qb,xai,if_false];rw[ih (i+1) (by omega)];cases(l.drop (i+1)).findIdx? q with
    |none=>rfl
    |some j=>simp[Nat.add_comm,Nat.add_left_comm]
 have:=key l.length 0 (by omega);simpa using this
theorem findIdx_any{α:Type}{l:List α}{q:α->Bool}:l.any q=true↔(l.findIdx? q).isSome=true:=by simp[List.findIdx?_isSome]
theorem indexFunc_int{l:List (Int)}(hl:(l.length:Int)<9223372036854775807){p:HL [.int .i64]->Option Bool}{q:Int->Bool}(hp:∀n∈l,p (n,())=some (q n)):
  wbzz l p=some ((l.findIdx? q).elim (-1) (λi=>(i:Int))):=by
 unfold wbzz wbzy;have hs:wbhy (l,p,((l.length:Nat):Int)) 0=_:=iter_forE (f:=λv=>(wbaa (l,p,((l.length:Nat):Int)) v).ev) (l:=l) 0 q (mk:=λi=>(i:Int)) (yes:=λi=>.inr (i:Int)) (no:=.inl ()) (λi hi=>by simp(disch:=omega)only[EV,wbaa,hi,hp _ (getD_mem hi)];cases q (l.getD i 0)<;>rfl) (by simp(disch:=omega)only[EV,wbaa,xi]);simp(disch:=omega)only[EV,hs];cases l.findIdx? q<;>rfl
theorem containsFunc_int{l:List (Int)}(hl:(l.length:Int)<9223372036854775807){p:HL [.int .i64]->Option Bool}{q:Int->Bool}(hp:∀n∈l,p (n,())=some (q n)):
  wbou l p=some (l.any q):=by
 unfold wbou wcaa;simp(disch:=omega)only[EV,indexFunc_int hl hp];congr 1;rw[xcn,findIdx_any];cases l.findIdx? q<;>simp
theorem indexFunc_Sint{l:List (List Int)}(hl:(l.length:Int)<9223372036854775807){p:HL [.slice (.int .i64)]->Option Bool}{q:List Int->Bool}(hp:∀n∈l,p (n,())=some (q n)):
  wboy l p=some ((l.findIdx? q).elim (-1) (λi=>(i:Int))):=by
 unfold wboy wcad;have hs:wbhz (l,p,((l.length:Nat):Int)) 0=_:=iter_forE (f:=λv=>(wbab (l,p,((l.length:Nat):Int)) v).ev) (l:=l) [] q (mk:=λi=>(i:Int)) (yes:=λi=>.inr (i:Int)) (no:=.inl ()) (λi hi=>by simp(disch:=omega)only[EV,wbab,hi,hp _ (getD_mem hi)];cases q (l.getD i [])<;>rfl) (by simp(disch:=omega)only[EV,wbab,xi]);simp(disch:=omega)only[EV,hs];cases l.findIdx? q<;>rfl
theorem containsFunc_Sint{l:List (List Int)}(hl:(l.length:Int)<9223372036854775807){p:HL [.slice (.int .i64)]->Option Bool}{q:List Int->Bool}(hp:∀n∈l,p (n,())=some (q n)):
  wcaf l p=some (l.any q):=by
 unfold wcaf wcae;simp(disch:=omega)only[EV,indexFunc_Sint hl hp];congr 1;rw[xcn,findIdx_any];cases l.findIdx? q<;>simp
theorem areBetween_eq{l:List Int}(hl:Low1 l)(a b:Int):wbow l a b=some (allIn l a b):=by unfold Low1 at hl;unfold wbow wcac;rw[qn,containsFunc_int (by omega) (q:=λn=> !(isIn n a b)) λn _=>by unfold wcgh wcab;simp(disch:=omega)only[EV,between_eq]];simp(disch:=omega)only[EV];unfold allIn;rw[xfa];simp
theorem take_snoc{α:Type}{l:List α}{i:Nat}(d:α)(h:i<l.length):l.take (i+1)=l.take i++ [l.getD i d]:=by rw[xan h,xd,xg h];rfl
def lstMin:List Int->Int
 | []=>0
 |x::l=>l.foldl min x
theorem foldl_min_spec:∀(l:List Int) (a:Int),(l.foldl min a=a\/l.foldl min a∈l)/\l.foldl min a<=a/\∀x∈l,l.foldl min a<=x
 | [],a=>⟨.inl rfl,xbv _,λx h=>by cases h⟩
 |y::l,a=>by
  obtain⟨h1,h2,h3⟩:=foldl_min_spec l (min a y);simp only[xbm];refine⟨?_,by omega,λx hx=>?_⟩
  ·rcases h1 with h1|h1
   ·rw[h1];rcases Int.le_total a y with h|h;·left;omega
    ·right;rw[xgp h];exact xu
   ·exact .inr (xr _ h1)
  ·rcases xaf.1 hx with rfl|hx;·omega
   ·exact h3 x hx
theorem lstMin_spec{l:List Int}(h:l≠ []):lstMin l∈l/\∀x∈l,lstMin l<=x:=by
 cases l with
 |nil=>exact absurd rfl h
 |cons a l=>
  obtain⟨h1,h2,h3⟩:=foldl_min_spec l a;refine⟨?_,λx hx=>?_⟩
  ·rcases h1 with h1|h1;·show l.foldl min a∈a::l;rw[h1];exact xu
   ·exact xr _ h1
  ·rcases xaf.1 hx with rfl|hx;·exact h2
   ·exact h3 x hx
def firstMin(g:List Int->Int)(l:List (List Int)):List Int:=(l.find? λs=>decide (g s=lstMin (l.map g))).getD []
theorem firstMin_spec{g:List Int->Int}{l:List (List Int)}(h:l≠ []):firstMin g l∈l/\g (firstMin g l)=lstMin (l.map g):=by
 obtain⟨h1,_⟩:=lstMin_spec (l:=l.map g) (by simpa using h);obtain⟨s,hs,e⟩:=xak.1 h1;unfold firstMin;cases hf:l.find? λs=>decide (g s=lstMin (l.map g))with
 |none=>have:=xfy.1 hf s hs;simp at this;exact absurd e this
 |some t=>have:=List.find?_some hf;exact⟨xgd hf,by simpa using this⟩
theorem lstMin_snoc{l:List Int}(h:l≠ [])(x:Int):lstMin (l++ [x])=min (lstMin l) x:=by
 cases l with
 |nil=>exact absurd rfl h
 |cons a l=>simp[lstMin]
theorem firstMin_snoc{g:List Int->Int}{l:List (List Int)}(h:l≠ [])(s:List Int):firstMin g (l++ [s])=if g s<g (firstMin g l)then s else firstMin g l:=by
 obtain⟨h1,h2⟩:=firstMin_spec (g:=g) h;have hm:l.map g≠ []:=by simpa using h
 have hle:=(lstMin_spec hm).2;rw[h2];unfold firstMin;rw[xdr,List.map_singleton,lstMin_snoc hm,xfi];by_cases hs:g s<lstMin (l.map g)
 ·rw[qi hs,xgp (by omega)];have:l.find? (λt=>decide (g t=g s))=none:=xfy.2 λt ht=>by have:=hle (g t) (xcy ht);simp only[qe];omega
  rw[this];simp
 ·rw[qh hs,Int.min_eq_left (by omega)];cases hf:l.find? (λt=>decide (g t=lstMin (l.map g)))with|some t=>rfl|none=>have:=xfy.1 hf _ h1;rw[h2]at this;simp at this
theorem firstMin_one{g:List Int->Int}(s:List Int):firstMin g [s]=s:=by unfold firstMin;simp[lstMin]
def pickL(q:List Int->Bool)(g:List Int->Int)(l:List (List Int)):List Int:=l.foldl (λb s=>if q s=true/\(b=[]\/g s<g b)then s else b) []
theorem pickL_eq{q:List Int->Bool}{g:List Int->Int}:∀(l:List (List Int)),(∀s∈l,s≠ [])->pickL q g l=if l.filter q=[]then[]else firstMin g (l.filter q):=by
 have key:∀(n:Nat) (l:List (List Int)),l.length=n->(∀s∈l,s≠ [])->pickL q g l=if l.filter q=[]then[]else firstMin g (l.filter q):=by
  intro n;induction n with
  |zero=>intro l hl _;have:l=[]:=xz hl;subst this;rfl
  |succ n ih=>
   intro l hl aa;obtain⟨l',s,rfl⟩:∃l' s,l=l'++ [s]:=⟨l.dropLast,l.getLast (λe=>by rw[e]at hl;simp at hl),(List.dropLast_concat_getLast _).symm⟩
   have ab:l'.length=n:=by simpa using hl
   have h1:=ih l' ab λt ht=>aa t (xaq _ ht);have hs:=aa s (by simp);unfold pickL at h1⊢;rw[xcq,h1,xbm,xfz,xez];cases hq:q s with
   |false=>
    have e:List.filter q [s]=[]:=by simp[hq]
    rw[e,xax,qh (λh=>by simp at h)]
   |true=>
    have e:List.filter q [s]=[s]:=by simp[hq]
    rw[e,qh (show¬l'.filter q++ [s]=[] by simp)];by_cases he:l'.filter q=[]
    ·rw[qi he,qi ⟨rfl,.inl rfl⟩,he,xbh,firstMin_one]
    ·rw[qh he,firstMin_snoc he];have hf:=(firstMin_spec (g:=g) he).1;have ad:firstMin g (l'.filter q)≠ []:=aa _ (xaq _ (xaj.1 hf).1);by_cases hg:g s<g (firstMin g (l'.filter q));·rw[qi ⟨rfl,.inr hg⟩,qi hg]
     ·rw[qh (λh=>h.2.elim ad hg),qh hg]
 exact λl=>key l.length l rfl
def at2(x:List (List Int))(i j:Nat):Int:=(x.getD i []).getD j 0
def rowOK(x:List (List Int))(n i:Nat):Bool:=allIn (x.getD i []) 0 99&&(((x.getD i []).length:Int)==(n:Int))
structure Ground(x:List (List Int)):Prop where
 row:∀i,i<x.length->rowOK x x.length i=true
 diag:∀i,i<x.length->at2 x i i=0
 sym:∀i j,i<x.length->j<x.length->at2 x i j=at2 x j i
 len:x.length<=7
theorem rowOK_len{x:List (List Int)}{n i:Nat}(h:rowOK x n i=true):(x.getD i []).length=n:=by simp only[rowOK,xh,qg]at h;omega
theorem rowOK_in{x:List (List Int)}{n i j:Nat}(h:rowOK x n i=true)(hj:j<n):0<=at2 x i j/\at2 x i j<=99:=by have hl:=rowOK_len h;simp only[rowOK,xh]at h;exact allIn_getD h.1 (by omega)
theorem Ground.in{x:List (List Int)}(h:Ground x){i j:Nat}(hi:i<x.length)(hj:j<x.length):0<=at2 x i j/\at2 x i j<=99:=rowOK_in (h.row i hi) hj
theorem Ground.rowLen{x:List (List Int)}(h:Ground x){i:Nat}(hi:i<x.length):(x.getD i []).length=x.length:=rowOK_len (h.row i hi)
def risingB(l:List Int)(lo hi:Int):Bool:=(List.range l.length).all λi=>isIn (l.getD i 0) lo hi&&(i==0||decide (l.getD (i-1) 0<l.getD i 0))
theorem risingB_iff{l:List Int}{lo hi:Int}:risingB l lo hi=true↔(∀x∈l,lo<=x/\x<=hi)/\l.Pairwise (· < ·):=by
 unfold risingB;simp only[xq,xap,xh,xbk,qg,qe,isIn_iff];constructor
 ·intro h;refine⟨λx hx=>?_,?_⟩;·obtain⟨i,hi,e⟩:=xbw hx;have:=(h i hi).1;rw[xd,xg hi]at this;rw[<-e];exact this
  ·rw[xge];have key:∀d i,i+d+1<l.length->l.getD i 0<l.getD (i+d+1) 0:=by
    intro d;induction d with
    |zero=>
     intro i hi;have:=(h (i+1) hi).2;rcases this with h0|h0;·omega
     ·simpa using h0
    |succ d ih=>
     intro i hi;have h1:=ih i (by omega);have:=(h (i+(d+1)+1) hi).2;rcases this with h0|h0;·omega
     ·have e:i+(d+1)+1-1=i+d+1:=by omega
      rw[e]at h0;omega
   intro i j hi hj aa;have:=key (j-i-1) i (by omega);rw[show i+(j-i-1)+1=j by omega,xd,xd,xg hi,xg hj]at this;exact this
 ·rintro⟨h1,h2⟩ i hi;refine⟨h1 _ (getD_mem hi),?_⟩;by_cases e:i=0;·exact .inl e
  ·right;have:=xge.1 h2 (i-1) i (by omega) hi (by omega);rw[xd,xd,xg hi,xg (by omega)];exact this
theorem risingB_in{l:List Int}{lo hi:Int}(h:risingB l lo hi=true){i:Nat}(aa:i<l.length):lo<=l.getD i 0/\l.getD i 0<=hi:=(risingB_iff.1 h).1 _ (getD_mem aa)
theorem l1Rising_eq{l:List Int}(hl:Low1 l)(lo hi:Int):wbui l lo hi=some (risingB l lo hi):=by
 unfold Low1 at hl;have h0:wbfg (l,lo,hi) 0=_:=iter_allR (f:=λv=>(wawb (l,lo,hi) v).ev) (n:=l.length) (mk:=λi=>(i:Int)) (p:=λi=>isIn (l.getD i 0) lo hi&&(i==0||decide (l.getD (i-1) 0<l.getD i 0))) (yes:=.inl ()) (no:=.inr ()) (λi aa _=>by
   cases i with
   |zero=>simp(disch:=omega)only[EV,wawb,aa,l1In_eq];cases isIn (l.getD 0 0) lo hi<;>rfl
   |succ i=>
    have h1:i<l.length:=by omega
    have e0:(0:Int)<((i+1:Nat):Int):=by omega
    have e1:((i+1:Nat):Int) -1=(i:Int):=by omega
    have e2:(i+1==0)=false:=rfl;simp(disch:=omega)only[EV,wawb,aa,l1In_eq,e0,e1,e2,xes,xfw];cases isIn (l.getD (i+1) 0) lo hi with
    |false=>rfl
    |true=>
     by_cases h:l.getD (i+1) 0<=l.getD i 0;·simp only[xk,qb,qi h,xcg,show¬l.getD i 0<l.getD (i+1) 0 by omega,decide_false]
     ·simp only[xk,qb,qh h,xcg,show l.getD i 0<l.getD (i+1) 0 by omega,decide_true];rfl) (by simp(disch:=omega)only[EV,wawb,xi])
 unfold wbui wbuh;simp(disch:=omega)only[EV,h0];unfold risingB;cases(List.range l.length).all λi=>isIn (l.getD i 0) lo hi&&(i==0||decide (l.getD (i-1) 0<l.getD i 0))<;>rfl
theorem isRising_eq{l:List Int}(hl:Low1 l){n:Int}(h0:0<=n)(h1:n<=1048576):wbpa l n=some (risingB l 0 (n-1)):=by
 unfold Low1 at hl;have h0:wbia (l,n,l,((l.length:Nat):Int)) 0=_:=iter_allR (f:=λv=>(waxx (l,n,l,((l.length:Nat):Int)) v).ev) (n:=l.length) (mk:=λi=>(i:Int)) (p:=λi=>isIn (l.getD i 0) 0 (n-1)&&(i==0||decide (l.getD (i-1) 0<l.getD i 0))) (yes:=.inl ()) (no:=.inr ()) (λi aa _=>by
   cases i with
   |zero=>simp(disch:=omega)only[EV,waxx,aa,between_eq];cases isIn (l.getD 0 0) 0 (n-1)<;>rfl
   |succ i=>
    have h1:i<l.length:=by omega
    have e0:(0:Int)<((i+1:Nat):Int):=by omega
    have e1:((i+1:Nat):Int) -1=(i:Int):=by omega
    have e2:(i+1==0)=false:=rfl;simp(disch:=omega)only[EV,waxx,aa,between_eq,e0,e1,e2,xes,xfw];cases isIn (l.getD (i+1) 0) 0 (n-1)with
    |false=>rfl
    |true=>
     by_cases h:l.getD (i+1) 0<=l.getD i 0;·simp only[xk,qb,qi h,xcg,show¬l.getD i 0<l.getD (i+1) 0 by omega,decide_false]
     ·simp only[xk,qb,qh h,xcg,show l.getD i 0<l.getD (i+1) 0 by omega,decide_true];rfl) (by simp(disch:=omega)only[EV,waxx,xi])
 unfold wbpa wcaj;simp(disch:=omega)only[EV,h0];unfold risingB;cases(List.range l.length).all λi=>isIn (l.getD i 0) 0 (n-1)&&(i==0||decide (l.getD (i-1) 0<l.getD i 0))<;>rfl
def pl(s:List Int)(i:Nat):Nat:=(s.getD i 0).toNat
structure Places(s:List Int)(n:Nat):Prop where
 low:(s.length:Int)<=1048576
 mem:∀i,i<s.length->0<=s.getD i 0/\s.getD i 0<n
theorem Places.pl{s:List Int}{n:Nat}(h:Places s n){i:Nat}(hi:i<s.length):s.getD i 0=(pl s i:Int)/\Go.Proofs.YtidaiohhaanphaaGreatDoor.pl s i<n:=by have:=h.mem i hi;unfold Go.Proofs.YtidaiohhaanphaaGreatDoor.pl;omega
theorem Places.of{s:List Int}{n:Nat}(hs:Low1 s)(h:risingB s 0 ((n:Int) -1)=true):Places s n:=⟨hs,λi hi=>by have:=risingB_in h hi;omega⟩
def fieldB(o:List Int)(ds:List (List Int)):Bool:=isIn (o.length:Int) 1 7&&(allIn o 0 99&&(decide ((ds.length:Int)<=7)&&ds.all λr=>decide (r.length=o.length)&&allIn r 0 99))
structure Fld(o:List Int)(ds:List (List Int)):Prop where
 pos:1<=o.length
 len:o.length<=7
 cost:∀i,i<o.length->0<=o.getD i 0/\o.getD i 0<=99
 clients:ds.length<=7
 rowLen:∀j,j<ds.length->(ds.getD j []).length=o.length
 dist:∀j i,j<ds.length->i<o.length->0<=(ds.getD j []).getD i 0/\(ds.getD j []).getD i 0<=99
theorem fieldB_iff{o:List Int}{ds:List (List Int)}:fieldB o ds=true↔Fld o ds:=by
 unfold fieldB;simp only[xh,qe,xq,isIn_iff];constructor;·rintro⟨⟨h1,h2⟩,h3,h4,h5⟩;have h6:∀j,j<ds.length->(ds.getD j []).length=o.length/\allIn (ds.getD j []) 0 99=true:=λj hj=>h5 _ (getD_mem (d:=[]) hj);exact⟨by omega,by omega,λi hi=>allIn_getD h3 hi,by omega,λj hj=>(h6 j hj).1,λj i hj hi=>allIn_getD (h6 j hj).2 (by rw[(h6 j hj).1];exact hi)⟩
 ·rintro⟨h1,h2,h3,h4,h5,h6⟩;refine⟨by omega,allIn_iff.2 λa ha=>?_,by omega,λr hr=>?_⟩;·obtain⟨i,hi,e⟩:=xbw ha;have:=h3 i hi;rw[xd,xg hi,xat,e]at this;exact this
  ·obtain⟨j,hj,e⟩:=xbw hr;have e2:ds.getD j []=r:=by rw[xd,xg hj,xat,e]
   have h7:=h5 j hj;rw[e2]at h7;refine⟨h7,allIn_iff.2 λa ha=>?_⟩;obtain⟨i,hi,e3⟩:=xbw ha;have:=h6 j i hj (by omega);rw[e2,xd,xg hi,xat,e3]at this;exact this
theorem l2Good_eq{o:List Int}{ds:List (List Int)}(ho:Low1 o)(hd:Low2 ds):wavv o ds=some (fieldB o ds):=by have hl:=hd.1;have h0:wbff ((o.length:Int),o,ds) 0=_:=iter_allR (f:=λv=>(wayr ((o.length:Int),o,ds) v).ev) (n:=ds.length) (mk:=λi=>(i:Int)) (p:=λi=>decide ((ds.getD i []).length=o.length)&&allIn (ds.getD i []) 0 99) (yes:=.inl ()) (no:=.inr ()) (λi hi _=>by simp(disch:=omega)only[EV,wayr,hi,l2Row_eq (hd.2 _ (getD_mem (d:=[]) hi)),int_eq];cases allIn (ds.getD i []) 0 99<;>cases decide ((ds.getD i []).length=o.length)<;>rfl) (by simp(disch:=omega)only[EV,wayr,xi]);rw[all_range ds [] (λr=>decide (r.length=o.length)&&allIn r 0 99)]at h0;unfold wavv wbug fieldB;simp(disch:=omega)only[EV,h0,l1In_eq,l2Row_eq ho,int_eq];cases ds.all (λr=>decide (r.length=o.length)&&allIn r 0 99)<;>cases isIn (o.length:Int) 1 7<;>cases allIn o 0 99<;>cases decide ((ds.length:Int)<=7)<;>rfl
theorem IsField_eq{o:List Int}{ds:List (List Int)}(ho:Low1 o)(hd:Low2 ds):wavs o ds=some (fieldB o ds):=by
 have hl:=hd.1;have hc:=containsFunc_Sint (l:=ds) (show(ds.length:Int)<9223372036854775807 by omega) (p:=λa=>Option.bind (wcah a.1 o ds) λy=>some y) (q:=λr=> !(decide (r.length=o.length)&&allIn r 0 99)) λr hr=>by unfold wcah wcag;simp(disch:=omega)only[EV,areBetween_eq (hd.2 r hr),int_ne];cases decide (r.length=o.length)<;>cases allIn r 0 99<;>rfl
 unfold wavs wcai fieldB;simp(disch:=omega)only[EV,between_eq,areBetween_eq ho,hc];rw[xfa];simp only[Bool.not_not];cases isIn (o.length:Int) 1 7<;>cases allIn o 0 99<;>by_cases h:(ds.length:Int)<=7<;>simp only[h,decide_true,decide_false,if_true,if_false]<;>rfl
def atlasB(o:List Int)(ds:List (List Int))(s:List Int)(c:Int):Bool:=fieldB o ds&&(risingB s 0 ((o.length:Int) -1)&&isIn c 0 1000)
theorem l2Set_eq{o:List Int}(ds:List (List Int)){s:List Int}(ho:Low1 o)(hs:Low1 s):wbkv o ds s=some (risingB s 0 ((o.length:Int) -1)):=by unfold Low1 at ho;unfold wbkv wbuj;simp(disch:=omega)only[EV,l1Rising_eq hs]
theorem l12Good_eq{o:List Int}{ds:List (List Int)}{s:List Int}(ho:Low1 o)(hd:Low2 ds)(hs:Low1 s)(c:Int):wbee o ds s c=some (atlasB o ds s c):=by unfold wbee wbuk atlasB;simp(disch:=omega)only[EV,l2Good_eq ho hd,l2Set_eq ds ho hs,l1In_eq];cases fieldB o ds<;>cases risingB s 0 ((o.length:Int) -1)<;>rfl
theorem im_IsAtlas_eq{o:List Int}{ds:List (List Int)}{s:List Int}(ho:Low1 o)(hd:Low2 ds)(hs:Low1 s)(c:Int):wakz o ds s c=some (atlasB o ds s c):=by have h:=ho;unfold Low1 at h;unfold wakz wcak atlasB;simp(disch:=omega)only[EV,IsField_eq ho hd,isRising_eq hs (show(0:Int)<=(o.length:Int) by omega) h,between_eq];cases fieldB o ds<;>cases risingB s 0 ((o.length:Int) -1)<;>rfl
theorem szField_sz{o:List Int}{ds:List (List Int)}{b:Int}(ho:Fit1 o)(hd:Fit2 ds)(h0:0<=b)(h1:b<=1048576):Sz (wbtr o ds b) (Low1 o/\Low2 ds):=by
 unfold wbtr wbtq;obtain⟨r,e1,k1,k2⟩:=szIntS_sz ho h0 h1;simp(disch:=omega)only[EV,e1];by_cases hr:r<0;·simp(disch:=omega)only[EV,hr];exact⟨_,rfl,by omega,λh=>by omega⟩
 ·obtain⟨r2,e2,k3,k4⟩:=szIntSS_sz hd (show 0<=r by omega) k1;simp(disch:=omega)only[EV,hr,e2];by_cases aa:r2<0;·simp(disch:=omega)only[EV,aa];exact⟨_,rfl,by omega,λh=>by omega⟩
  ·simp(disch:=omega)only[EV,aa];exact⟨_,rfl,k3,λh=>⟨k2 (by omega),k4 h⟩⟩
theorem szAtlas_sz{o:List Int}{ds:List (List Int)}{s:List Int}(c:Int){b:Int}(ho:Fit1 o)(hd:Fit2 ds)(hs:Fit1 s)(h0:0<=b)(h1:b<=1048576):Sz (wbtt o ds s c b) (Low1 o/\Low2 ds/\Low1 s):=by
 unfold wbtt wbts;obtain⟨r,e1,k1,k2⟩:=szField_sz ho hd h0 h1;simp(disch:=omega)only[EV,e1];by_cases hr:r<0;·simp(disch:=omega)only[EV,hr];exact⟨_,rfl,by omega,λh=>by omega⟩
 ·obtain⟨r2,e2,k3,k4⟩:=szIntS_sz hs (show 0<=r by omega) k1;simp(disch:=omega)only[EV,hr,e2];by_cases aa:r2<0;·simp(disch:=omega)only[EV,aa];exact⟨_,rfl,by omega,λh=>by omega⟩
  ·simp(disch:=omega)only[EV,aa];exact⟨_,rfl,k3,λh=>⟨(k2 (by omega)).1,(k2 (by omega)).2,k4 h⟩⟩
theorem toField_eq{o:List Int}{ds:List (List Int)}(ho:Low1 o)(hd:Low2 ds):wbub o ds=some (o,ds):=by unfold wbub wbua;simp(disch:=omega)only[EV,toIntS_eq ho,toIntSS_eq hd]
theorem toAtlas_eq{o:List Int}{ds:List (List Int)}{s:List Int}(ho:Low1 o)(hd:Low2 ds)(hs:Low1 s)(c:Int):wbfd o ds s c=some (c,o,ds,s):=by unfold wbfd wbuc;simp(disch:=omega)only[EV,toField_eq ho hd,toIntS_eq hs]
theorem eqField_eq{o o':List Int}{ds aa:List (List Int)}(ho:Low1 o)(hd:Low2 ds):wcfh o ds o' aa=some ((o==o')&&(ds==aa)):=by unfold wcfh wcfg;simp(disch:=omega)only[EV,eqIntS_eq ho,eqIntSS_eq hd];cases(o==o')<;>cases(ds==aa)<;>rfl
theorem eqAtlas_eq{o o':List Int}{ds aa:List (List Int)}{s s':List Int}(ho:Low1 o)(hd:Low2 ds)(hs:Low1 s)(c c':Int):wcfj o ds s c o' aa s' c'=some ((o==o')&&(ds==aa)&&((s==s')&&(c==c'))):=by unfold wcfj wcfi;simp(disch:=omega)only[EV,eqField_eq ho hd,eqIntS_eq hs,bne];cases((o==o')&&(ds==aa))<;>cases(s==s')<;>cases(c==c')<;>rfl
theorem Fld.at2{o:List Int}{ds:List (List Int)}(h:Fld o ds){j i:Nat}(hj:j<ds.length)(hi:i<o.length):0<=at2 ds j i/\at2 ds j i<=99:=h.dist j i hj hi
def srvStep(ds:List (List Int))(j:Nat)(s:List Int)(b k:Nat):Nat:=if at2 ds j (pl s k)<at2 ds j b then pl s k else b
def srv(ds:List (List Int))(j:Nat)(s:List Int):Nat:=(List.range s.length).foldl (srvStep ds j s) (pl s 0)
def near(ds:List (List Int))(s:List Int)(j:Nat):Int:=at2 ds j (srv ds j s)
def pay(o s:List Int):Int:=(List.range s.length).foldl (λa k=>a+o.getD (pl s k) 0) 0
def serve(ds:List (List Int))(s:List Int):Int:=(List.range ds.length).foldl (λa j=>a+near ds s j) 0
def far(ds:List (List Int))(s:List Int):Int:=(List.range ds.length).foldl (λa j=>max a (near ds s j)) 0
def lensOf(ds:List (List Int))(s:List Int):List Int:=(List.range ds.length).map (near ds s)
theorem foldl_inv{α S:Type}{g:S->α->S}(Q:S->Prop){l:List α}(h:∀s a,a∈l->Q s->Q (g s a)){s:S}(hs:Q s):Q (l.foldl g s):=by
 induction l generalizing s with
 |nil=>exact hs
 |cons a l ih=>exact ih (λs b hb=>h s b (xr _ hb)) (h s a xu hs)
theorem srvStep_lt{ds:List (List Int)}{j:Nat}{s:List Int}{n b k:Nat}(hs:Places s n)(hk:k<s.length)(hb:b<n):srvStep ds j s b k<n:=by
 unfold srvStep;split;·exact(hs.pl hk).2
 ·exact hb
theorem srv_lt{ds:List (List Int)}{j:Nat}{s:List Int}{n:Nat}(hs:Places s n)(h0:0<s.length):srv ds j s<n:=
 foldl_inv (λb=>b<n) (λ_ _ hk hb=>srvStep_lt hs (xap.1 hk) hb) (hs.pl h0).2
theorem near_in{o:List Int}{ds:List (List Int)}(hf:Fld o ds){s:List Int}(hs:Places s o.length)(h0:0<s.length){j:Nat}(hj:j<ds.length):0<=near ds s j/\near ds s j<=99:=hf.at2 hj (srv_lt hs h0)
theorem sum_bound{α:Type}{l:List α}{f:α->Int}{B:Int}(h:∀a∈l,0<=f a/\f a<=B)(a0:Int):a0<=l.foldl (λa x=>a+f x) a0/\l.foldl (λa x=>a+f x) a0<=a0+(l.length:Int)*B:=by
 induction l generalizing a0 with
 |nil=>simp
 |cons x l ih=>
  have h1:=ih (λa ha=>h a (xr _ ha)) (a0+f x);have h2:=h x xu;simp only[xbm,xj];have e:((l.length+1:Nat):Int)*B=(l.length:Int)*B+B:=by rw[xex,xhb];simp
  rw[e];omega
theorem serve_in{o:List Int}{ds:List (List Int)}(hf:Fld o ds){s:List Int}(hs:Places s o.length)(h0:0<s.length):0<=serve ds s/\serve ds s<=693:=by have:=sum_bound (l:=List.range ds.length) (f:=near ds s) (B:=99) (λj hj=>near_in hf hs h0 (xap.1 hj)) 0;have hc:=hf.clients;unfold serve;simp only[xdv]at this;omega
theorem pay_in{o:List Int}{ds:List (List Int)}(hf:Fld o ds){s:List Int}(hs:Places s o.length):0<=pay o s/\pay o s<=103809024:=by have:=sum_bound (l:=List.range s.length) (f:=λk=>o.getD (pl s k) 0) (B:=99) (λk hk=>hf.cost _ (hs.pl (xap.1 hk)).2) 0;have hc:=hs.low;unfold pay;simp only[xdv]at this;omega
theorem l2Site_eq{o:List Int}{ds:List (List Int)}(hf:Fld o ds){s:List Int}(hs:Places s o.length)(h0:0<s.length){j:Nat}(hj:j<ds.length):wblt o ds (j:Int) s=some (srv ds j s:Int):=by
 have ab:=hs.low;have hr:=hf.rowLen j hj;have hlen:=hf.len;have key:wbbu ((j:Int),s,o,ds) ((pl s 0:Int),0)=some (srv ds j s:Int):=
  (iter_fold (f:=λv=>(waxd ((j:Int),s,o,ds) v).ev) (n:=s.length) (mk:=λk (b:Nat)=>((b:Int),(k:Int))) (I:=λ_ b=>b<o.length) (g:=srvStep ds j s) (fin:=λb=>(b:Int)) (s0:=pl s 0) (hs.pl h0).2
   (λk b hk hb=>by obtain⟨e1,h1⟩:=hs.pl hk;have e3:(ds.getD j []).getD (pl s k) 0=at2 ds j (pl s k):=rfl;have e4:(ds.getD j []).getD b 0=at2 ds j b:=rfl;refine⟨?_,srvStep_lt hs hk hb⟩;simp(disch:=omega)only[EV,waxd,hk,e1,hr,e3,e4];unfold srvStep;split<;>rfl)
   (λb _=>by simp(disch:=omega)only[EV,waxd,xi])).1
 have aa:wbbu ((j:Int),s,o,ds) ((pl s 0:Int),1)=some (srv ds j s:Int):=by
  rw[<-key];unfold wbbu
  conv=>rhs;rw[iter_eq]
  obtain⟨e1,h1⟩:=hs.pl h0;have e3:(ds.getD j []).getD (pl s 0) 0=at2 ds j (pl s 0):=rfl;have z:Int.toNat 0=0:=rfl;simp(disch:=omega)only[EV,waxd,z,e1,hr,e3,xdn,show(0:Int)<(s.length:Int) by omega];rfl
 unfold wblt wbvv;have z:Int.toNat 0=0:=rfl;simp(disch:=omega)only[EV,z,(hs.pl h0).1,aa]
theorem l2Nearest_eq{o:List Int}{ds:List (List Int)}(hf:Fld o ds){s:List Int}(hs:Places s o.length)(h0:0<s.length){j:Nat}(hj:j<ds.length):wblu o ds (j:Int) s=some (near ds s j):=by have hr:=hf.rowLen j hj;have hb:srv ds j s<o.length:=srv_lt hs h0;unfold wblu wbvw;have e3:(ds.getD j []).getD (srv ds j s) 0=near ds s j:=rfl;simp(disch:=omega)only[EV,l2Site_eq hf hs h0 hj,hr,e3]
theorem server_eq{o:List Int}{ds:List (List Int)}(hf:Fld o ds){s:List Int}(hs:Places s o.length)(h0:0<s.length){j:Nat}(hj:j<ds.length):wcbn o ds (j:Int) s=some (srv ds j s:Int):=by
 have aa:=hs.low;have hr:=hf.rowLen j hj;have hlen:=hf.len;have key:wbin ((j:Int),s,(s.length:Int),o,ds) ((pl s 0:Int),0)=some (srv ds j s:Int):=
  (iter_fold (f:=λv=>(wbaj ((j:Int),s,(s.length:Int),o,ds) v).ev) (n:=s.length) (mk:=λk (b:Nat)=>((b:Int),(k:Int))) (I:=λ_ b=>b<o.length) (g:=srvStep ds j s) (fin:=λb=>(b:Int)) (s0:=pl s 0) (hs.pl h0).2
   (λk b hk hb=>by obtain⟨e1,h1⟩:=hs.pl hk;have e3:(ds.getD j []).getD (pl s k) 0=at2 ds j (pl s k):=rfl;have e4:(ds.getD j []).getD b 0=at2 ds j b:=rfl;refine⟨?_,srvStep_lt hs hk hb⟩;simp(disch:=omega)only[EV,wbaj,hk,e1,hr,e3,e4];unfold srvStep;split<;>rfl)
   (λb _=>by simp(disch:=omega)only[EV,wbaj,xi])).1
 unfold wcbn wcbm;have z:Int.toNat 0=0:=rfl;simp(disch:=omega)only[EV,z,(hs.pl h0).1,key]
theorem iter_app{V R α:Type}{f:V->Option (V⊕R)}{n:Nat}(mk:Nat->List α->V)(g:Nat->α)(fin:List α->R)
  (aa:∀i l,i<n->l.length=i->f (mk i l)=some (.inl (mk (i+1) (l++ [g i])))) (ab:∀l,l.length=n->f (mk n l)=some (.inr (fin l))):iter f (mk 0 [])=some (fin ((List.range n).map g)):=by
 have:=(iter_fold (f:=f) (n:=n) mk (λi l=>l.length=i) (λl i=>l++ [g i]) fin (s0:=[]) rfl (λi l hi hl=>⟨aa i l hi hl,by simp[hl]⟩) ab).1;rw[this];congr 2;have:∀(l:List Nat) (acc:List α),l.foldl (λl i=>l++ [g i]) acc=acc++l.map g:=by
  intro l;induction l with
  |nil=>simp
  |cons x l ih=>intro acc;simp[ih]
 rw[this];simp
theorem served_eq{o:List Int}{ds:List (List Int)}(hf:Fld o ds){s:List Int}(hs:Places s o.length)(h0:0<s.length):wbpy o ds s=some ((List.range ds.length).map λj=>(srv ds j s:Int)):=by
 have hc:=hf.clients;have key:wbio (s,(ds.length:Int),o,ds) (0,[])=some ((List.range ds.length).map λj=>(srv ds j s:Int)):=
  iter_app (f:=λv=>(wbak (s,(ds.length:Int),o,ds) v).ev) (n:=ds.length) (mk:=λk (l:List Int)=>((k:Int),l)) (λj=>(srv ds j s:Int)) (λl=>l)
   (λj l hj hl=>by
    have e:(l.length+List.length [(srv ds j s:Int)])*8<=140737488355328:=by simp;omega
    simp(disch:=omega)only[EV,wbak,hj,server_eq hf hs h0 hj,e];rfl) (λl _=>by simp(disch:=omega)only[EV,wbak,xi])
 unfold wbpy wcbo;simp(disch:=omega)only[EV,key]
theorem lengths_eq{o:List Int}{ds:List (List Int)}(hf:Fld o ds){s:List Int}(hs:Places s o.length)(h0:0<s.length):wbqa o ds s=some (lensOf ds s):=by
 have hc:=hf.clients;unfold wbqa wcbp;simp(disch:=omega)only[EV,served_eq hf hs h0];generalize hr:((List.range ds.length).map λj=>(srv ds j s:Int))=r;have aa:r.length=ds.length:=by rw[<-hr];simp
 have ab:∀j,j<ds.length->r.getD j 0=(srv ds j s:Int):=λj hj=>by rw[<-hr,xd,xaa,xbx hj];rfl
 have key:wbip ((r.length:Int),o,ds,r) (0,[])=some (lensOf ds s):=
  iter_app (f:=λv=>(wbal ((r.length:Int),o,ds,r) v).ev) (n:=ds.length) (mk:=λk (l:List Int)=>((k:Int),l)) (near ds s) (λl=>l)
   (λj l hj hl=>by
    have hb:srv ds j s<o.length:=srv_lt hs h0;have e3:(ds.getD j []).getD (srv ds j s) 0=near ds s j:=rfl;have e:∀x:Int,(l.length+List.length [x])*8<=140737488355328:=λx=>by simp;omega
    simp(disch:=omega)only[EV,wbal,hj,aa,ab j hj,hf.rowLen j hj,e3,e];rfl) (λl _=>by simp(disch:=omega)only[EV,wbal,aa,xi])
 simp(disch:=omega)only[EV,key]
theorem im_sum_eq{l:List Int}{B:Int}(hl:(l.length:Int)*B<9223372036854775808)(hn:(l.length:Int)<9223372036854775807)(h:∀a∈l,0<=a/\a<=B):wbep l=some (l.foldl (λa x=>a+x) 0):=by
 have key:=iter_foldl (f:=λv=>(wasy (l,(l.length:Int)) v).ev) l 0 (mk:=λk a=>(a,(k:Int))) (I:=λk a=>0<=a/\a<=(k:Int)*B) (g:=λa x=>a+x) (fin:=λa=>a) (s0:=0) (by simp)
  (λk a hk ha=>by
   have h1:=h _ (getD_mem (d:=0) hk);have h2:((k+1:Nat):Int)*B=(k:Int)*B+B:=by rw[xex,xhb];simp
   have hB:0<=B:=by omega
   have h3:((k+1:Nat):Int)*B<=(l.length:Int)*B:=xde (by omega) hB;refine⟨?_,by omega,by omega⟩;simp(disch:=omega)only[EV,wasy,hk];rfl)
  (λa _=>by simp(disch:=omega)only[EV,wasy,xi])
 unfold wbep wbqc;have k1:wbde (l,(l.length:Int)) (0,0)=_:=key.1;simp(disch:=omega)only[EV,k1]
theorem service_eq{o:List Int}{ds:List (List Int)}(hf:Fld o ds){s:List Int}(hs:Places s o.length)(h0:0<s.length):wbdf o ds s=some (serve ds s):=by
 have hc:=hf.clients;unfold wbdf wcbq;have hl:(lensOf ds s).length=ds.length:=by simp[lensOf]
 simp(disch:=omega)only[EV,lengths_eq hf hs h0,im_sum_eq (l:=lensOf ds s) (B:=99) (by omega) (by omega) (λa ha=>by obtain⟨j,hj,rfl⟩:=xak.1 ha;exact near_in hf hs h0 (xap.1 hj))];unfold lensOf serve;rw[xha]
theorem l2Serve_eq{o:List Int}{ds:List (List Int)}(hf:Fld o ds){s:List Int}(hs:Places s o.length)(h0:0<s.length):wbej o ds s=some (serve ds s):=by
 have hc:=hf.clients;have key:wbfv (s,o,ds) (0,0)=some (serve ds s):=
  (iter_fold (f:=λv=>(wazc (s,o,ds) v).ev) (n:=ds.length) (mk:=λk a=>(a,(k:Int))) (I:=λk a=>0<=a/\a<=(k:Int)*99) (g:=λa j=>a+near ds s j) (fin:=λa=>a) (s0:=0) (by simp)
   (λj a hj ha=>by have h1:=near_in hf hs h0 hj;refine⟨?_,by omega,by omega⟩;simp(disch:=omega)only[EV,wazc,hj,l2Nearest_eq hf hs h0 hj];rfl)
   (λa _=>by simp(disch:=omega)only[EV,wazc,xi])).1
 unfold wbej wbvx;simp(disch:=omega)only[EV,key]
theorem l2Pay_eq{o:List Int}{ds:List (List Int)}(hf:Fld o ds){s:List Int}(hs:Places s o.length):wbwa o ds s=some (pay o s):=by
 have aa:=hs.low;have key:wbfw (s,o,ds) (0,0)=some (pay o s):=
  (iter_fold (f:=λv=>(wazd (s,o,ds) v).ev) (n:=s.length) (mk:=λk a=>(a,(k:Int))) (I:=λk a=>0<=a/\a<=(k:Int)*99) (g:=λa k=>a+o.getD (pl s k) 0) (fin:=λa=>a) (s0:=0) (by simp)
   (λk a hk ha=>by obtain⟨e1,h1⟩:=hs.pl hk;have h2:=hf.cost _ h1;refine⟨?_,by omega,by omega⟩;simp(disch:=omega)only[EV,wazd,hk,e1];rfl)
   (λa _=>by simp(disch:=omega)only[EV,wazd,xi])).1
 unfold wbwa wbvz;simp(disch:=omega)only[EV,key]
theorem payment_eq{o:List Int}{ds:List (List Int)}(hf:Fld o ds){s:List Int}(hs:Places s o.length):wcbl o ds s=some (pay o s):=by
 have aa:=hs.low;have key:wbim (s,(s.length:Int),o,ds) (0,0)=some (pay o s):=
  (iter_fold (f:=λv=>(wbai (s,(s.length:Int),o,ds) v).ev) (n:=s.length) (mk:=λk a=>(a,(k:Int))) (I:=λk a=>0<=a/\a<=(k:Int)*99) (g:=λa k=>a+o.getD (pl s k) 0) (fin:=λa=>a) (s0:=0) (by simp)
   (λk a hk ha=>by obtain⟨e1,h1⟩:=hs.pl hk;have h2:=hf.cost _ h1;refine⟨?_,by omega,by omega⟩;simp(disch:=omega)only[EV,wbai,hk,e1];rfl)
   (λa _=>by simp(disch:=omega)only[EV,wbai,xi])).1
 unfold wcbl wcbk;simp(disch:=omega)only[EV,key]
theorem l2Total_eq{o:List Int}{ds:List (List Int)}(hf:Fld o ds){s:List Int}(hs:Places s o.length)(h0:0<s.length):wbbv o ds s=some (pay o s+serve ds s):=by have h1:=serve_in hf hs h0;have h2:=pay_in hf hs;unfold wbbv wbwb;simp(disch:=omega)only[EV,l2Serve_eq hf hs h0,l2Pay_eq hf hs];rw[Int.add_comm]
theorem total_eq{o:List Int}{ds:List (List Int)}(hf:Fld o ds){s:List Int}(hs:Places s o.length)(h0:0<s.length):wbam o ds s=some (pay o s+serve ds s):=by have h1:=serve_in hf hs h0;have h2:=pay_in hf hs;unfold wbam wcbs;simp(disch:=omega)only[EV,service_eq hf hs h0,payment_eq hf hs]
theorem slicesMax_eq{l:List Int}(h0:0<l.length)(hn:(l.length:Int)<9223372036854775807):wcdi l=some (l.foldl (λa x=>max a x) (l.getD 0 0)):=by
 have mx:∀a x:Int,(if a<x then x else a)=max a x:=λa x=>by
  by_cases h:a<x;·rw[qi h,xgq (by omega)]
  ·rw[qh h,Int.max_eq_left (by omega)]
 have key:=(iter_foldl (f:=λv=>(wayd l v).ev) l 0 (mk:=λk a=>(a,(k:Int))) (I:=λ_ _=>True) (g:=λa x=>max a x) (fin:=λa=>a) (s0:=l.getD 0 0) trivial
  (λk a hk _=>by refine⟨?_,trivial⟩;simp(disch:=omega)only[EV,wayd,hk,mx];rfl)
  (λa _=>by simp(disch:=omega)only[EV,wayd,xi])).1
 have aa:wbdj l (l.getD 0 0,1)=some (l.foldl (λa x=>max a x) (l.getD 0 0)):=by
  rw[<-key];unfold wbdj
  conv=>rhs;rw[iter_eq]
  have z:Int.toNat 0=0:=rfl;have z1:((0:Nat):Int)=0:=rfl;have ab:(0:Int)<(l.length:Int):=by omega
  simp(disch:=omega)only[EV,wayd,ab,z,z1,mx,Int.max_self];rfl
 unfold wcdi wcdh;have z:Int.toNat 0=0:=rfl;have h1:¬(l.length:Int)<1:=by omega
 simp(disch:=omega)only[EV,h1,z,aa]
theorem max_zero{l:List Int}(h:∀x∈l,0<=x):(l++ [0]).foldl (λa x=>max a x) ((l++ [0]).getD 0 0)=l.foldl (λa x=>max a x) 0:=by
 cases l with
 |nil=>rfl
 |cons y l=>
  have h1:=h y xu;have hge:∀(l:List Int) (a:Int),a<=l.foldl (λa x=>max a x) a:=by
   intro l;induction l with
   |nil=>intro a;exact xbv _
   |cons x l ih=>intro a;exact Int.le_trans (Int.le_max_left a x) (ih _)
  rw[xcq];have e:((y::l)++ [0]).getD 0 0=y:=rfl;have:=hge l y;simp only[e,xbm,xfz,Int.max_self,xgq h1];omega
theorem l2Far_eq{o:List Int}{ds:List (List Int)}(hf:Fld o ds){s:List Int}(hs:Places s o.length)(h0:0<s.length):wbgm o ds s=some (far ds s):=by
 have hc:=hf.clients;have key:wbgl (s,o,ds) (0,0)=some (far ds s):=
  (iter_fold (f:=λv=>(wazm (s,o,ds) v).ev) (n:=ds.length) (mk:=λk a=>(a,(k:Int))) (I:=λ_ _=>True) (g:=λa j=>max a (near ds s j)) (fin:=λa=>a) (s0:=0) trivial
   (λj a hj _=>by refine⟨?_,trivial⟩;simp(disch:=omega)only[EV,wazm,hj,l2Nearest_eq hf hs h0 hj,l1Most_eq];rfl)
   (λa _=>by simp(disch:=omega)only[EV,wazm,xi])).1
 unfold wbgm wbxi;simp(disch:=omega)only[EV,key]
theorem reach_eq{o:List Int}{ds:List (List Int)}(hf:Fld o ds){s:List Int}(hs:Places s o.length)(h0:0<s.length):wbew o ds s=some (far ds s):=by
 have hc:=hf.clients;have hl:(lensOf ds s).length=ds.length:=by simp[lensOf]
 unfold wbew wcdj;have e:((lensOf ds s).length+List.length [(0:Int)])*8<=140737488355328:=by simp;omega
 simp(disch:=omega)only[EV,lengths_eq hf hs h0,e,slicesMax_eq (l:=lensOf ds s++ [0]) (by simp) (by simp;omega)];rw[max_zero λx hx=>by obtain⟨j,hj,rfl⟩:=xak.1 hx;exact(near_in hf hs h0 (xap.1 hj)).1];unfold lensOf far;rw[xha]
def openB(o:List Int)(ds:List (List Int))(s:List Int):Bool:=fieldB o ds&&(risingB s 0 ((o.length:Int) -1)&&decide (0<s.length))
theorem l2Two_eq{o:List Int}{ds:List (List Int)}{s:List Int}(ho:Low1 o)(hd:Low2 ds)(hs:Low1 s):wbcs o ds s=some (openB o ds s):=by
 unfold wbcs wbvs openB;simp(disch:=omega)only[EV,l2Good_eq ho hd,l2Set_eq ds ho hs];have e:decide ((0:Int)<(s.length:Int))=decide (0<s.length):=by simp
 rw[e];cases fieldB o ds<;>cases risingB s 0 ((o.length:Int) -1)<;>rfl
theorem isOpened_eq{o:List Int}{ds:List (List Int)}{s:List Int}(ho:Low1 o)(hd:Low2 ds)(hs:Low1 s):wbci o ds s=some (openB o ds s):=by
 have h:=ho;unfold Low1 at h;unfold wbci wcbj wchc wcbi openB;simp(disch:=omega)only[EV,IsField_eq ho hd,isRising_eq hs (show(0:Int)<=(o.length:Int) by omega) h];have e:((0:Int)<(s.length:Int))=(0<s.length):=by simp
 by_cases h0:0<s.length
 ·have h1:(0:Int)<(s.length:Int):=by omega
  simp only[h0,h1,decide_true,if_true,xdo];cases fieldB o ds<;>cases risingB s 0 ((o.length:Int) -1)<;>rfl
 ·have h1:¬(0:Int)<(s.length:Int):=by omega
  simp only[h0,h1,decide_false,if_false,xfj];cases fieldB o ds<;>rfl
theorem openB_iff{o:List Int}{ds:List (List Int)}{s:List Int}(hs:Low1 s)(h:openB o ds s=true):Fld o ds/\Places s o.length/\0<s.length:=by unfold openB at h;simp only[xh,qe]at h;exact⟨fieldB_iff.1 h.1,Places.of hs h.2.1,h.2.2⟩
def totalOf(o:List Int)(ds:List (List Int))(s:List Int)(c:Int):Int×Bool:=bif atlasB o ds s c&&decide (0<s.length)then(pay o s+serve ds s,true)else(0,false)
theorem atlasB_fld{o:List Int}{ds:List (List Int)}{s:List Int}{c:Int}(hs:Low1 s)(h:atlasB o ds s c=true):Fld o ds/\Places s o.length:=by unfold atlasB at h;simp only[xh]at h;exact⟨fieldB_iff.1 h.1,Places.of hs h.2.1⟩
theorem sp_AtlasTotal_eq{o:List Int}{ds:List (List Int)}{s:List Int}(ho:Low1 o)(hd:Low2 ds)(hs:Low1 s)(c:Int):wbmi o ds s c=some (totalOf o ds s c):=by
 unfold wbmi wbwt totalOf;simp(disch:=omega)only[EV,l12Good_eq ho hd hs];cases h:atlasB o ds s c with
 |false=>rfl
 |true=>
  obtain⟨h1,h2⟩:=atlasB_fld hs h;by_cases h0:0<s.length;·have e:((s.length:Int)==0)=false:=beq_eq_false_iff_ne.2 (by omega);simp(disch:=omega)only[EV,e,h0,l2Total_eq h1 h2 h0]
  ·have e:((s.length:Int)==0)=true:=beq_iff_eq.2 (by omega);simp(disch:=omega)only[EV,e,h0]
theorem im_AtlasTotal_eq{o:List Int}{ds:List (List Int)}{s:List Int}(ho:Low1 o)(hd:Low2 ds)(hs:Low1 s)(c:Int):F_zi o ds s c=some (totalOf o ds s c):=by
 unfold F_zi T_zi wciq wcdr totalOf;simp(disch:=omega)only[EV,im_IsAtlas_eq ho hd hs,isOpened_eq ho hd hs];cases h:atlasB o ds s c with
 |false=>rfl
 |true=>
  obtain⟨h1,h2⟩:=atlasB_fld hs h;have hb:openB o ds s=decide (0<s.length):=by unfold atlasB at h;simp only[xh]at h;unfold openB;rw[h.1,h.2.1,xcg,xcg]
  rw[hb];by_cases h0:0<s.length;·simp(disch:=omega)only[EV,h0,total_eq h1 h2 h0]
  ·simp(disch:=omega)only[EV,h0]
theorem all_succ{P:Nat->Prop}{i:Nat}:(∀s,s<i+1->P s)↔(∀s,s<i->P s)/\P i:=by
 refine⟨λh=>⟨λs hs=>h s (by omega),h i (by omega)⟩,λ⟨h1,h2⟩ s hs=>?_⟩;rcases xdg s i with h|h;·exact h1 s h
 ·obtain rfl:s=i:=by omega
  exact h2
def IsMin(n:Nat)(f:Nat->Int)(g:Int):Prop:=(∀s,s<n->g<=f s)/\∃s,s<n/\g=f s
theorem IsMin.uniq{n:Nat}{f:Nat->Int}{g h:Int}(a:IsMin n f g)(b:IsMin n f h):g=h:=by obtain⟨a1,s,a2,a3⟩:=a;obtain⟨b1,t,b2,b3⟩:=b;have:=a1 t b2;have:=b1 s a2;omega
def RM(i:Nat)(sel:Nat->Prop)(f:Nat->Int)(m:Int):Prop:=
 (m= -1/\∀s,s<i->¬sel s)\/(0<=m/\(∀s,s<i->sel s->m<=f s)/\∃s,s<i/\sel s/\m=f s)
theorem RM.zero(sel:Nat->Prop)(f:Nat->Int):RM 0 sel f (-1):=.inl ⟨rfl,λs hs=>absurd hs (by omega)⟩
theorem RM.skip{i:Nat}{sel:Nat->Prop}{f:Nat->Int}{m:Int}(hn:¬sel i):RM i sel f m->RM (i+1) sel f m
 | .inl ⟨a,b⟩=>.inl ⟨a,all_succ.2 ⟨b,hn⟩⟩
 | .inr ⟨a,b,s,c,d⟩=>.inr ⟨a,all_succ.2 ⟨b,λh=>absurd h hn⟩,s,by omega,d⟩
theorem RM.take{i:Nat}{sel:Nat->Prop}{f:Nat->Int}{m:Int}(hs:sel i)(h0:0<=f i)(hm:m<0\/f i<m):RM i sel f m->RM (i+1) sel f (f i)
 | .inl ⟨_,b⟩=>.inr ⟨h0,all_succ.2 ⟨λs h k=>absurd k (b s h),λ_=>xbv _⟩,i,by omega,hs,rfl⟩
 | .inr ⟨a,b,_⟩=>.inr ⟨h0,all_succ.2 ⟨λs h k=>by have:=b s h k;omega,λ_=>xbv _⟩,i,by omega,hs,rfl⟩
theorem RM.keep{i:Nat}{sel:Nat->Prop}{f:Nat->Int}{m:Int}(h0:¬m<0)(hm:¬f i<m):RM i sel f m->RM (i+1) sel f m
 | .inl ⟨a,_⟩=>by omega
 | .inr ⟨a,b,s,c,d⟩=>.inr ⟨a,all_succ.2 ⟨b,λ_=>by omega⟩,s,by omega,d⟩
def pos(x:Int):Int:=if 0<x then x else 0
theorem pos_in(x:Int):0<=pos x/\(0<=x->pos x=x)/\(x<=0->pos x=0):=by unfold pos;split<;>refine⟨by omega,by omega,by omega⟩
theorem pos_max(x:Int):max 0 x=pos x:=by unfold pos;split<;>omega
def clmN(ds:List (List Int))(p:List Int)(s:Nat):Nat->Int
 |0=>0
 |k+1=>clmN ds p s k+pos (p.getD k 0-at2 ds k s)
def clm(ds:List (List Int))(p:List Int)(s:Nat):Int:=clmN ds p s ds.length
def psum(p:List Int):Nat->Int
 |0=>0
 |k+1=>psum p k+p.getD k 0
theorem set_getD(l:List Int){i:Nat}(hi:i<l.length)(j:Nat)(v:Int):(l.set i v).getD j 0=if i=j then v else l.getD j 0:=by
 rw[xd,xd,xdk];by_cases h:i=j;·subst h;simp[hi]
 ·simp[h]
theorem clmN_set{ds:List (List Int)}{p:List Int}{c:Nat}(hc:c<p.length)(n:Int)(s:Nat):∀k,clmN ds (p.set c n) s k=clmN ds p s k+if c<k then pos (n-at2 ds c s) -pos (p.getD c 0-at2 ds c s)else 0
 |0=>by simp[clmN]
 |k+1=>by
  rw[clmN,clmN,clmN_set hc n s k,set_getD p hc];by_cases h1:c=k;·subst h1;rw[qi rfl,qh (by omega),qi (by omega)];omega
  ·rw[qh h1];by_cases h2:c<k;·rw[qi h2,qi (by omega)];omega
   ·rw[qh h2,qh (by omega)];omega
theorem clmN_ge{ds:List (List Int)}{p:List Int}{s:Nat}:∀k,0<=clmN ds p s k/\∀c,c<k->pos (p.getD c 0-at2 ds c s)<=clmN ds p s k
 |0=>⟨by simp[clmN],λc h=>absurd h (by omega)⟩
 |k+1=>by obtain⟨h1,h2⟩:=clmN_ge (ds:=ds) (p:=p) (s:=s) k;have h3:=(pos_in (p.getD k 0-at2 ds k s)).1;refine⟨by rw[clmN];omega,all_succ.2 ⟨λc hc=>by have:=h2 c hc;rw[clmN];omega,by rw[clmN];omega⟩⟩
theorem psum_set{p:List Int}{c:Nat}(hc:c<p.length)(n:Int):∀k,psum (p.set c n) k=psum p k+if c<k then n-p.getD c 0 else 0
 |0=>by simp[psum]
 |k+1=>by
  rw[psum,psum,psum_set hc n k,set_getD p hc];by_cases h1:c=k;·subst h1;rw[qi rfl,qh (by omega),qi (by omega)];omega
  ·rw[qh h1];by_cases h2:c<k;·rw[qi h2,qi (by omega)];omega
   ·rw[qh h2,qh (by omega)];omega
structure PI(o:List Int)(ds:List (List Int))(p:List Int):Prop where
 len:p.length=ds.length
 near:∀c,c<ds.length->∃s,s<o.length/\at2 ds c s<=p.getD c 0
 room:∀s,s<o.length->clm ds p s<=o.getD s 0
theorem PI.val{o:List Int}{ds:List (List Int)}{p:List Int}(h:PI o ds p)(hf:Fld o ds){c:Nat}(hc:c<ds.length):0<=p.getD c 0/\p.getD c 0<=198:=by obtain⟨s,h1,h2⟩:=h.near c hc;have h3:=hf.at2 hc h1;have h4:=h.room s h1;have h5:=hf.cost s h1;have h6:=(clmN_ge (ds:=ds) (p:=p) (s:=s) ds.length).2 c hc;have h7:=(pos_in (p.getD c 0-at2 ds c s)).2.1 (by omega);unfold clm at h4;omega
theorem clmN_le{o:List Int}{ds:List (List Int)}{p:List Int}(h:PI o ds p)(hf:Fld o ds){s:Nat}(hs:s<o.length):∀k,k<=ds.length->clmN ds p s k<=198*k
 |0,_=>by simp[clmN]
 |k+1,hk=>by
  have h1:=clmN_le h hf hs k (by omega);have h2:=h.val hf (show k<ds.length by omega);have h3:=hf.at2 (show k<ds.length by omega) hs;have h4:pos (p.getD k 0-at2 ds k s)<=198:=by
   have:=pos_in (p.getD k 0-at2 ds k s);by_cases hx:0<=p.getD k 0-at2 ds k s;·have:=this.2.1 hx;omega
   ·have:=this.2.2 (by omega);omega
  rw[clmN];omega
theorem psum_le{o:List Int}{ds:List (List Int)}{p:List Int}(h:PI o ds p)(hf:Fld o ds):∀k,k<=ds.length->0<=psum p k/\psum p k<=198*k
 |0,_=>by simp[psum]
 |k+1,hk=>by have h1:=psum_le h hf k (by omega);have h2:=h.val hf (show k<ds.length by omega);rw[psum];omega
def cand(o:List Int)(ds:List (List Int))(p:List Int)(c s:Nat):Int:=if at2 ds c s<=p.getD c 0 then o.getD s 0-clm ds p s else at2 ds c s-p.getD c 0
theorem cand_ge{o:List Int}{ds:List (List Int)}{p:List Int}(h:PI o ds p){c s:Nat}(hs:s<o.length):0<=cand o ds p c s:=by have:=h.room s hs;unfold cand;split<;>omega
theorem PI.step{o:List Int}{ds:List (List Int)}{p:List Int}(h:PI o ds p){c:Nat}(hc:c<ds.length){g:Int}(hg:IsMin o.length (cand o ds p c) g):0<=g/\PI o ds (p.set c (p.getD c 0+g)):=by
 have aa:c<p.length:=by rw[h.len];exact hc
 have h0:0<=g:=by obtain⟨_,s,h1,h2⟩:=hg;rw[h2];exact cand_ge h h1
 refine⟨h0,by rw[xbc];exact h.len,λc' ab=>?_,λs hs=>?_⟩
 ·obtain⟨s,h1,h2⟩:=h.near c' ab;refine⟨s,h1,?_⟩;rw[set_getD p aa];split
  next he=>subst he;omega
  next=>exact h2
 ·have h1:=hg.1 s hs;have h2:=h.room s hs;unfold clm at h2⊢;rw[clmN_set aa,qi hc];have h3:=pos_in (p.getD c 0-at2 ds c s);have h4:=pos_in (p.getD c 0+g-at2 ds c s);unfold cand clm at h1;split at h1;·have:=h3.2.1 (by omega);have:=h4.2.1 (by omega);omega
  ·have:=h3.2.2 (by omega);have:=h4.2.2 (by omega);omega
theorem l3Claim_eq{o:List Int}{ds:List (List Int)}{p:List Int}(hf:Fld o ds)(hp:PI o ds p){s:Nat}(hs:s<o.length):wbcw o ds p (s:Int) 1=some (clm ds p s):=by
 have hl:=hp.len;have ab:=hf.clients;have key:wbcv (p,(s:Int),(1:Int),o,ds) ((0:Int),(0:Int))=some (clmN ds p s p.length):=by
  obtain⟨r,h1,h2⟩:=iter_inv (f:=λv=>(wapm (p,(s:Int),(1:Int),o,ds) v).ev) (n:=p.length) (λi (a:Int)=>(a,(i:Int))) (λi a=>a=clmN ds p s i) (λr=>r=clmN ds p s p.length) (s0:=0) rfl
   (λi a hi ha=>by
    subst ha;left;have aa:i<ds.length:=by omega
    have hr:=hf.rowLen i aa;have h1:=hp.val hf aa;have h2:=hf.at2 aa hs;have h3:=clmN_le hp hf hs i (by omega);have h4:=(clmN_ge (ds:=ds) (p:=p) (s:=s) i).1;have e3:(ds.getD i []).getD s 0=at2 ds i s:=rfl;have h5:=clmN_le hp hf hs (i+1) (by omega);have h6:=(clmN_ge (ds:=ds) (p:=p) (s:=s) (i+1)).1;rw[clmN]at h5 h6;refine⟨_,?_,rfl⟩;simp(disch:=omega)only[EV,wapm,hi,hr,e3,l1Most_eq,Int.one_mul,pos_max];rfl)
   (λa ha=>⟨a,by simp(disch:=omega)only[EV,wapm,xi],ha⟩)
  exact h1.trans (congrArg some h2)
 unfold wbcw wbml clm;rw[hl]at key;simp(disch:=omega)only[EV,key]
theorem l3Next_eq{o:List Int}{ds:List (List Int)}{p:List Int}(hf:Fld o ds)(hp:PI o ds p){c:Nat}(hc:c<ds.length):∃g,wbxa o ds p (c:Int)=some g/\IsMin o.length (cand o ds p c) g:=by
 have hl:=hp.len;have ae:c<p.length:=by omega
 have ah:=hf.pos;have hlen:=hf.len;have hr:=hf.rowLen c hc;have h1:=hp.val hf hc;obtain⟨r,k1,k2⟩:=iter_inv (f:=λv=>(waod (p,(c:Int),p.getD c 0,o,ds) v).ev) (n:=o.length) (λi (a:Int)=>(a,(i:Int))) (λi a=>RM i (λ_=>True) (cand o ds p c) a) (λr=>RM o.length (λ_=>True) (cand o ds p c) r) (s0:= -1) (RM.zero _ _)
  (λi a hi ha=>by
   left;have h2:=hf.at2 hc hi;have h3:=hf.cost i hi;have h4:=clmN_le hp hf hi ds.length (xm _);have h5:=(clmN_ge (ds:=ds) (p:=p) (s:=i) ds.length).1;have h6:clm ds p i=clmN ds p i ds.length:=rfl;have h7:=hf.clients;have e3:(ds.getD c []).getD i 0=at2 ds c i:=rfl;have hg:=cand_ge hp (c:=c) hi;by_cases hn:at2 ds c i<=p.getD c 0
   ·have ab:cand o ds p c i=o.getD i 0-clm ds p i:=by unfold cand;rw[qi hn]
    by_cases aa:a<0;·refine⟨cand o ds p c i,?_,ha.take trivial hg (.inl aa)⟩;rw[ab];simp(disch:=omega)only[EV,waod,hi,hr,e3,hn,l3Claim_eq hf hp hi,aa];rfl
    ·by_cases ad:o.getD i 0-clm ds p i<a;·refine⟨cand o ds p c i,?_,ha.take trivial hg (.inr (by rw[ab];exact ad))⟩;rw[ab];simp(disch:=omega)only[EV,waod,hi,hr,e3,hn,l3Claim_eq hf hp hi,aa,ad];rfl
     ·refine⟨a,?_,ha.keep aa (by rw[ab];exact ad)⟩;simp(disch:=omega)only[EV,waod,hi,hr,e3,hn,l3Claim_eq hf hp hi,aa,ad];rfl
   ·have ab:cand o ds p c i=at2 ds c i-p.getD c 0:=by unfold cand;rw[qh hn]
    by_cases aa:a<0;·refine⟨cand o ds p c i,?_,ha.take trivial hg (.inl aa)⟩;rw[ab];simp(disch:=omega)only[EV,waod,hi,hr,e3,hn,aa];rfl
    ·by_cases ad:at2 ds c i-p.getD c 0<a;·refine⟨cand o ds p c i,?_,ha.take trivial hg (.inr (by rw[ab];exact ad))⟩;rw[ab];simp(disch:=omega)only[EV,waod,hi,hr,e3,hn,aa,ad];rfl
     ·refine⟨a,?_,ha.keep aa (by rw[ab];exact ad)⟩;simp(disch:=omega)only[EV,waod,hi,hr,e3,hn,aa,ad];rfl)
  (λa ha=>⟨a,by simp(disch:=omega)only[EV,waod,xi],ha⟩)
 have af:wbgg (p,(c:Int),p.getD c 0,o,ds) ((-1:Int),(0:Int))=some r:=k1;refine⟨r,?_,?_⟩;·unfold wbxa wbwz;simp(disch:=omega)only[EV,af]
 ·rcases k2 with⟨_,h⟩|⟨_,h,s,a,_,b⟩
  ·exact absurd trivial (h 0 (by omega))
  ·exact⟨λs hs=>h s hs trivial,s,a,b⟩
theorem claims_eq{o:List Int}{ds:List (List Int)}{p:List Int}(hf:Fld o ds)(hp:PI o ds p):∃r,wbdn o ds p 1=some r/\r.length=o.length/\∀s,s<o.length->r.getD s 0=clm ds p s:=by
 have hl:=hp.len;have ao:=hf.clients;have hlen:=hf.len;obtain⟨r,k1,k2⟩:=iter_inv (f:=λv=>(watg (p,(1:Int),ds,(ds.length:Int)) v).ev) (n:=ds.length) (λi (a:List Int)=>((i:Int),a)) (λi a=>a.length=o.length/\∀s,s<o.length->a.getD s 0=clmN ds p s i) (λr=>r.length=o.length/\∀s,s<o.length->r.getD s 0=clm ds p s) (s0:=List.replicate o.length 0)
  ⟨by simp,λs hs=>by rw[xd,xcl,qi hs];rfl⟩
  (λc a hc ⟨ah,ai⟩=>by
   left;have hr:=hf.rowLen c hc;have aj:c<p.length:=by omega
   have h1:=hp.val hf hc;obtain⟨b,j1,j2⟩:=iter_inv (f:=λv=>(wavd (p,(1:Int),(c:Int),ds,(ds.length:Int),(c:Int),ds.getD c [],((ds.getD c []).length:Int)) v).ev) (n:=(ds.getD c []).length) (λi (a:List Int)=>((i:Int),a)) (λi a=>a.length=o.length/\∀s,s<o.length->a.getD s 0=if s<i then clmN ds p s (c+1)else clmN ds p s c) (λr=>r.length=o.length/\∀s,s<o.length->r.getD s 0=clmN ds p s (c+1)) (s0:=a)
    ⟨ah,λs hs=>by rw[qh (by omega)];exact ai s hs⟩
    (λi a hi ⟨ad,aa⟩=>by
     left;have ab:i<o.length:=by omega
     have ae:i<a.length:=by omega
     have h2:=hf.at2 hc ab;have h3:=clmN_le hp hf ab c (by omega);have h4:=(clmN_ge (ds:=ds) (p:=p) (s:=i) c).1;have h5:=clmN_le hp hf ab (c+1) (by omega);have h6:=(clmN_ge (ds:=ds) (p:=p) (s:=i) (c+1)).1;have e3:(ds.getD c []).getD i 0=at2 ds c i:=rfl;have e4:a.getD i 0=clmN ds p i c:=by rw[aa i ab,qh (by omega)]
     have e5:(if(0:Int)<p.getD c 0-at2 ds c i then p.getD c 0-at2 ds c i else 0)=pos (p.getD c 0-at2 ds c i):=rfl;rw[clmN]at h5 h6;refine⟨a.set i (clmN ds p i (c+1)),?_,by rw[xbc];exact ad,λs hs=>?_⟩;·simp(disch:=omega)only[EV,wavd,hi,ae,e3,e4,Int.mul_one,e5];rfl
     ·rw[set_getD a ae];by_cases af:i=s;·subst af;rw[qi rfl,qi (by omega)]
      ·rw[qh af,aa s hs];by_cases h:s<i;·rw[qi h,qi (by omega)]
       ·rw[qh h,qh (by omega)])
    (λa ⟨ad,aa⟩=>⟨a,by simp(disch:=omega)only[EV,wavd,xi],ad,λs hs=>by rw[aa s hs,qi (by omega)]⟩)
   have ak:wbdl (p,(1:Int),(c:Int),ds,(ds.length:Int),(c:Int),ds.getD c [],((ds.getD c []).length:Int)) ((0:Int),a)=some b:=j1;refine⟨b,?_,j2⟩;simp(disch:=omega)only[EV,watg,hc,ak];rfl)
  (λa ha=>⟨a,by simp(disch:=omega)only[EV,watg,xi],ha⟩)
 have al:wbdm (p,(1:Int),ds,(ds.length:Int)) ((0:Int),List.replicate o.length 0)=some r:=k1;refine⟨r,?_,k2⟩;unfold wbdn wbri;have e1:(0:Int)<=(o.length:Int):=by omega
 have e2:((8:Nat):Int)*(o.length:Int)<=281474976710656:=by omega
 simp(disch:=omega)only[EV,e1,e2,xbv,al]
theorem rests_eq{o:List Int}{ds:List (List Int)}{p:List Int}(hf:Fld o ds)(hp:PI o ds p):∃r,wcdt o ds p=some r/\r.length=o.length/\∀s,s<o.length->r.getD s 0=o.getD s 0-clm ds p s:=by
 have hlen:=hf.len;have ai:=hf.clients;obtain⟨q,q1,q2,q3⟩:=claims_eq hf hp;obtain⟨r,k1,k2⟩:=iter_inv (f:=λv=>(wbau ((q.length:Int),o,ds) v).ev) (n:=q.length) (λi (a:List Int)=>((i:Int),a)) (λi a=>a.length=o.length/\∀s,s<o.length->a.getD s 0=if s<i then o.getD s 0-clm ds p s else clm ds p s) (λr=>r.length=o.length/\∀s,s<o.length->r.getD s 0=o.getD s 0-clm ds p s) (s0:=q)
  ⟨q2,λs hs=>by rw[qh (by omega)];exact q3 s hs⟩
  (λi a hi ⟨ad,aa⟩=>by
   left;have ab:i<o.length:=by omega
   have ae:i<a.length:=by omega
   have h3:=clmN_le hp hf ab ds.length (xm _);have h4:=(clmN_ge (ds:=ds) (p:=p) (s:=i) ds.length).1;have h5:=hf.cost i ab;have h6:clm ds p i=clmN ds p i ds.length:=rfl;have e4:a.getD i 0=clm ds p i:=by rw[aa i ab,qh (by omega)]
   refine⟨a.set i (o.getD i 0-clm ds p i),?_,by rw[xbc];exact ad,λs hs=>?_⟩;·simp(disch:=omega)only[EV,wbau,hi,ae,e4];rfl
   ·rw[set_getD a ae];by_cases af:i=s;·subst af;rw[qi rfl,qi (by omega)]
    ·rw[qh af,aa s hs];by_cases h:s<i;·rw[qi h,qi (by omega)]
     ·rw[qh h,qh (by omega)])
  (λa ⟨ad,aa⟩=>⟨a,by simp(disch:=omega)only[EV,wbau,xi],ad,λs hs=>by rw[aa s hs,qi (by omega)]⟩)
 have ah:wbjn ((q.length:Int),o,ds) ((0:Int),q)=some r:=k1;refine⟨r,?_,k2⟩;unfold wcdt wcds;simp(disch:=omega)only[EV,q1,ah]
def cntN(p:Nat->Prop)[DecidablePred p]:Nat->Nat
 |0=>0
 |k+1=>cntN p k+if p k then 1 else 0
theorem cntN_le{p q:Nat->Prop}[DecidablePred p][DecidablePred q]:∀{n:Nat},(∀i,i<n->p i->q i)->cntN p n<=cntN q n
 |0,_=>xm _
 |n+1,h=>by
  have h1:=cntN_le (n:=n) λi hi=>h i (by omega);have h2:=h n (by omega);unfold cntN;by_cases hp:p n;·rw[qi hp,qi (h2 hp)];omega
  ·rw[qh hp];omega
theorem cntN_lt{p q:Nat->Prop}[DecidablePred p][DecidablePred q]:∀{n:Nat},(∀i,i<n->p i->q i)->(∃i,i<n/\q i/\¬p i)->cntN p n<cntN q n
 |0,_,⟨_,h,_⟩=>absurd h (by omega)
 |n+1,h,⟨i,hi,hq,hp⟩=>by
  unfold cntN;by_cases e:i=n;·subst e;have h1:=cntN_le (n:=i) λj hj=>h j (by omega);rw[qh hp,qi hq];omega
  ·have h1:=cntN_lt (n:=n) (λj hj=>h j (by omega)) ⟨i,by omega,hq,hp⟩;have h2:=h n (by omega);by_cases hp:p n;·rw[qi hp,qi (h2 hp)];omega
   ·rw[qh hp];omega
theorem cntN_pos{p:Nat->Prop}[DecidablePred p]{n:Nat}:0<cntN p n↔∃i,i<n/\p i:=by
 induction n with
 |zero=>simp[cntN]
 |succ n ih=>
  unfold cntN;constructor
  ·intro h;by_cases hp:p n;·exact⟨n,by omega,hp⟩
   ·rw[qh hp]at h;obtain⟨i,h1,h2⟩:=ih.1 (by omega);exact⟨i,by omega,h2⟩
  ·rintro⟨i,h1,h2⟩;by_cases e:i=n;·subst e;rw[qi h2];omega
   ·have:=ih.2 ⟨i,by omega,h2⟩;omega
theorem cntN_max(p:Nat->Prop)[DecidablePred p]:∀n,cntN p n<=n
 |0=>xm _
 |n+1=>by have:=cntN_max p n;unfold cntN;split<;>omega
def gln(ds:List (List Int))(i a:Nat):Int:=at2 ds i a*2520
def gcs(o:List Int)(a:Nat):Int:=o.getD a 0*2520
def gclN(ds:List (List Int))(p:List Int)(a:Nat):Nat->Int
 |0=>0
 |k+1=>gclN ds p a k+pos (p.getD k 0-gln ds k a)
def gcl(ds:List (List Int))(p:List Int)(a:Nat):Int:=gclN ds p a ds.length
def gP(ds:List (List Int))(w p:List Int)(now:Int):List Int:=(List.range ds.length).map λi=>if w.getD i 0<0 then now else p.getD i 0
def gT(o:List Int)(ds:List (List Int))(p tm:List Int)(now:Int):List Int:=(List.range o.length).map λa=>if tm.getD a 0<0/\gcs o a<=gcl ds p a then now else tm.getD a 0
def gB(ds:List (List Int))(tm:List Int)(now:Int)(i:Nat):Nat->Int
 |0=> -1
 |a+1=>if 0<=tm.getD a 0/\gln ds i a<=now/\(gB ds tm now i a<0\/tm.getD a 0<tm.getD (gB ds tm now i a).toNat 0)then(a:Int)else gB ds tm now i a
def gW(o:List Int)(ds:List (List Int))(tm w:List Int)(now:Int):List Int:=(List.range ds.length).map λi=>if w.getD i 0<0 then gB ds tm now i o.length else w.getD i 0
def gcnt(ds:List (List Int))(w:List Int)(now:Int)(a k:Nat):Nat:=cntN (λi=>w.getD i 0<0/\gln ds i a<=now) k
def gmany(ds:List (List Int))(w:List Int)(now:Int)(a:Nat):Nat:=gcnt ds w now a ds.length
def gC1(o:List Int)(ds:List (List Int))(w:List Int)(now t:Int):Prop:=∃i,i<ds.length/\∃a,a<o.length/\w.getD i 0<0/\now<gln ds i a/\t=gln ds i a
def gC2(o:List Int)(ds:List (List Int))(p tm w:List Int)(now t:Int):Prop:=∃a,a<o.length/\tm.getD a 0<0/\0<gmany ds w now a/\t=now+(gcs o a-gcl ds p a+(gmany ds w now a:Int) -1) / (gmany ds w now a:Int)
def gC(o:List Int)(ds:List (List Int))(p tm w:List Int)(now t:Int):Prop:=gC1 o ds w now t\/gC2 o ds p tm w now t
theorem range_getD{n:Nat}{f:Nat->Int}{i:Nat}(h:i<n):((List.range n).map f).getD i 0=f i:=by rw[xd,xaa,xbx h];rfl
theorem gP_getD{ds:List (List Int)}{w p:List Int}{now:Int}{i:Nat}(h:i<ds.length):(gP ds w p now).getD i 0=if w.getD i 0<0 then now else p.getD i 0:=range_getD h
theorem gT_getD{o:List Int}{ds:List (List Int)}{p tm:List Int}{now:Int}{a:Nat}(h:a<o.length):(gT o ds p tm now).getD a 0=if tm.getD a 0<0/\gcs o a<=gcl ds p a then now else tm.getD a 0:=range_getD h
theorem gW_getD{o:List Int}{ds:List (List Int)}{tm w:List Int}{now:Int}{i:Nat}(h:i<ds.length):(gW o ds tm w now).getD i 0=if w.getD i 0<0 then gB ds tm now i o.length else w.getD i 0:=range_getD h
theorem gB_in{ds:List (List Int)}{tm:List Int}{now:Int}{i:Nat}:∀n:Nat,(gB ds tm now i n= -1/\∀a,a<n->¬(0<=tm.getD a 0/\gln ds i a<=now))\/(0<=gB ds tm now i n/\gB ds tm now i n<n/\0<=tm.getD (gB ds tm now i n).toNat 0)
 |0=>.inl ⟨rfl,λa h=>absurd h (by omega)⟩
 |n+1=>by
  have ih:=gB_in (ds:=ds) (tm:=tm) (now:=now) (i:=i) n;rw[gB];by_cases hc:0<=tm.getD n 0/\gln ds i n<=now/\(gB ds tm now i n<0\/tm.getD n 0<tm.getD (gB ds tm now i n).toNat 0)
  ·rw[qi hc];exact .inr ⟨by omega,by omega,hc.1⟩
  ·rw[qh hc];rcases ih with⟨h1,h2⟩|⟨h1,h2,h3⟩
   ·exact .inl ⟨h1,all_succ.2 ⟨h2,λh=>hc ⟨h.1,h.2,.inl (by omega)⟩⟩⟩
   ·exact .inr ⟨h1,by omega,h3⟩
structure GI(o:List Int)(ds:List (List Int))(p tm w:List Int)(now:Int):Prop where
 pl:p.length=ds.length
 tl:tm.length=o.length
 wl:w.length=ds.length
 n0:0<=now
 n1:now<=498960
 wi:∀i,i<ds.length->w.getD i 0= -1\/(0<=w.getD i 0/\w.getD i 0<o.length/\0<=p.getD i 0/\p.getD i 0<now)
 ti:∀a,a<o.length->tm.getD a 0= -1\/(0<=tm.getD a 0/\tm.getD a 0<now)
theorem gln_in{o:List Int}{ds:List (List Int)}(hf:Fld o ds){i a:Nat}(hi:i<ds.length)(ha:a<o.length):0<=gln ds i a/\gln ds i a<=249480:=by have:=hf.at2 hi ha;unfold gln;omega
theorem gcs_in{o:List Int}{ds:List (List Int)}(hf:Fld o ds){a:Nat}(ha:a<o.length):0<=gcs o a/\gcs o a<=249480:=by have:=hf.cost a ha;unfold gcs;omega
theorem pos_mono{x y:Int}(h:x<=y):pos x<=pos y:=by
 have h1:=pos_in x;have h2:=pos_in y;by_cases h0:0<=x;·have:=h1.2.1 h0;have:=h2.2.1 (by omega);omega
 ·have:=h1.2.2 (by omega);omega
theorem gclN_in{o:List Int}{ds:List (List Int)}{p:List Int}(hf:Fld o ds)(hp:∀i,i<ds.length->p.getD i 0<=498960){a:Nat}(ha:a<o.length):∀k,k<=ds.length->0<=gclN ds p a k/\gclN ds p a k<=498960*k/\∀c,c<k->pos (p.getD c 0-gln ds c a)<=gclN ds p a k
 |0,_=>⟨xbv _,by simp[gclN],λc h=>absurd h (by omega)⟩
 |k+1,hk=>by
  obtain⟨h1,h2,h3⟩:=gclN_in hf hp ha k (by omega);have h4:=pos_in (p.getD k 0-gln ds k a);have h5:=hp k (by omega);have h6:=gln_in hf (show k<ds.length by omega) ha;have h7:pos (p.getD k 0-gln ds k a)<=498960:=by
   by_cases h0:0<=p.getD k 0-gln ds k a;·have:=h4.2.1 h0;omega
   ·have:=h4.2.2 (by omega);omega
  rw[gclN];exact⟨by omega,by omega,all_succ.2 ⟨λc hc=>by have:=h3 c hc;omega,by omega⟩⟩
theorem GI.price{o:List Int}{ds:List (List Int)}{p tm w:List Int}{now:Int}(h:GI o ds p tm w now){i:Nat}(hi:i<ds.length):0<=(gP ds w p now).getD i 0/\(gP ds w p now).getD i 0<=now/\((gP ds w p now).getD i 0=now↔w.getD i 0<0):=by
 rw[gP_getD hi];have h0:=h.n0;rcases h.wi i hi with h1|⟨h1,_,h2,h3⟩
 ·rw[qi (by omega)];exact⟨h0,xbv _,λ_=>by omega,λ_=>rfl⟩
 ·rw[qh (by omega)];exact⟨h2,by omega,λ_=>by omega,λ_=>by omega⟩
section
variable {o:List Int}{ds:List (List Int)}{p tm w:List Int}{now:Int}
theorem GI.on(_h:GI o ds p tm w now){i:Nat}(hi:i<ds.length)(hw:(gW o ds (gT o ds (gP ds w p now) tm now) w now).getD i 0<0):w.getD i 0<0/\∀a,a<o.length->gln ds i a<=now->(gT o ds (gP ds w p now) tm now).getD a 0<0:=by
 rw[gW_getD hi]at hw;by_cases h0:w.getD i 0<0
 ·rw[qi h0]at hw;refine⟨h0,λa ha hl=>?_⟩;rcases gB_in (ds:=ds) (tm:=gT o ds (gP ds w p now) tm now) (now:=now) (i:=i) o.length with⟨_,h2⟩|⟨h1,_⟩
  ·have:=h2 a ha;by_cases hx:0<=(gT o ds (gP ds w p now) tm now).getD a 0;·exact absurd ⟨hx,hl⟩ this
   ·omega
  ·omega
 ·rw[qh h0]at hw;exact absurd hw h0
theorem GI.tight(h:GI o ds p tm w now){a:Nat}(ha:a<o.length)(ht:(gT o ds (gP ds w p now) tm now).getD a 0<0):tm.getD a 0<0/\gcl ds (gP ds w p now) a<gcs o a:=by
 have h0:=h.n0;rw[gT_getD ha]at ht;by_cases hc:tm.getD a 0<0/\gcs o a<=gcl ds (gP ds w p now) a;·rw[qi hc]at ht;omega
 ·rw[qh hc]at ht;exact⟨ht,by
   by_cases hx:gcs o a<=gcl ds (gP ds w p now) a;·exact absurd ⟨ht,hx⟩ hc
   ·omega⟩
theorem cdiv_in{x:Int}{k:Nat}(hx:0<x)(hk:0<k):0<(x+(k:Int) -1) / (k:Int)/\(x+(k:Int) -1) / (k:Int)<=x/\x<=(k:Int)*((x+(k:Int) -1) / (k:Int)):=by
 have h1:=Int.emod_add_mul_ediv (x+(k:Int) -1) (k:Int);have h2:=Int.emod_lt_of_pos (x+(k:Int) -1) (show(0:Int)<k by omega);have h3:=Int.emod_nonneg (x+(k:Int) -1) (show(k:Int)≠0 by omega);generalize hq:(x+(k:Int) -1) / (k:Int)=q at*;generalize(x+(k:Int) -1) % (k:Int)=r at*;have h4:0<q:=by
  by_cases aa:0<q;·exact aa
  ·have:(k:Int)*q<=(k:Int)*0:=xch (by omega) (by omega);omega
 refine⟨h4,?_,by omega⟩;have h5:(k:Int)*q=q+((k:Int) -1)*q:=by rw[Int.sub_mul];omega
 have h6:((k:Int) -1)*1<=((k:Int) -1)*q:=xch (by omega) (by omega);omega
theorem GI.later(hf:Fld o ds)(h:GI o ds p tm w now){t:Int}(ht:gC o ds (gP ds w p now) (gT o ds (gP ds w p now) tm now) (gW o ds (gT o ds (gP ds w p now) tm now) w now) now t):now<t/\t<=498960:=by
 rcases ht with⟨i,hi,a,ha,_,h1,rfl⟩|⟨a,ha,h1,h2,rfl⟩
 ·have:=gln_in hf hi ha;exact⟨h1,by omega⟩
 ·obtain⟨_,h3⟩:=h.tight ha h1;obtain⟨i,hi,h4,h5⟩:=cntN_pos.1 h2;obtain⟨h6,_⟩:=h.on hi h4;have h7:=cdiv_in (x:=gcs o a-gcl ds (gP ds w p now) a) (by omega) h2;have h8:=gcs_in hf ha;have h9:=gln_in hf hi ha;have aa:=(gclN_in (p:=gP ds w p now) hf (λi hi=>by have:=(h.price hi).2.1;have:=h.n1;omega) ha ds.length (xm _)).2.2 i hi;have ab:=(h.price hi).2.2.2 h6;rw[ab]at aa;have ad:=(pos_in (now-gln ds i a)).2.1 (by omega);unfold gcl at h7 h3⊢;omega
theorem GI.some(hf:Fld o ds)(h:GI o ds p tm w now){i:Nat}(hi:i<ds.length)(hw:(gW o ds (gT o ds (gP ds w p now) tm now) w now).getD i 0<0):∃t,gC o ds (gP ds w p now) (gT o ds (gP ds w p now) tm now) (gW o ds (gT o ds (gP ds w p now) tm now) w now) now t:=by
 have ha:0<o.length:=by have:=hf.pos;omega
 obtain⟨_,h2⟩:=h.on hi hw;by_cases hl:gln ds i 0<=now;·exact⟨_,.inr ⟨0,ha,h2 0 ha hl,cntN_pos.2 ⟨i,hi,hw,hl⟩,rfl⟩⟩
 ·exact⟨_,.inl ⟨i,hi,0,ha,hw,by omega,rfl⟩⟩
def gL(o:List Int)(ds:List (List Int))(now:Int):Nat:=cntN (λx=>now<gln ds (x/ o.length) (x % o.length)) (ds.length*o.length)
def gM(o:List Int)(ds:List (List Int))(p tm w:List Int)(now:Int):Nat:=gL o ds now+cntN (λa=>(gT o ds (gP ds w p now) tm now).getD a 0<0) o.length
theorem gclN_grow{p q:List Int}{a:Nat}{d:Int}(hd:0<=d){w:List Int}:∀k,k<=ds.length->(∀i,i<ds.length->p.getD i 0<=q.getD i 0)->(∀i,i<ds.length->w.getD i 0<0->q.getD i 0=p.getD i 0+d/\p.getD i 0=now)->gclN ds p a k+(gcnt ds w now a k:Int)*d<=gclN ds q a k
 |0,_,_,_=>by simp[gclN,gcnt,cntN]
 |k+1,hk,h1,h2=>by
  have ih:=gclN_grow hd k (by omega) h1 h2 (a:=a);have h3:=pos_mono (x:=p.getD k 0-gln ds k a) (y:=q.getD k 0-gln ds k a) (by have:=h1 k (by omega);omega);rw[gclN,gclN];unfold gcnt at ih⊢;rw[cntN];by_cases hc:w.getD k 0<0/\gln ds k a<=now;·rw[qi hc];obtain⟨h4,h5⟩:=h2 k (by omega) hc.1;have h6:=(pos_in (p.getD k 0-gln ds k a)).2.1 (by omega);have h7:=(pos_in (q.getD k 0-gln ds k a)).2.1 (by omega);rw[xex,xhb];simp only[Int.natCast_one,Int.one_mul];omega
  ·rw[qh hc,xbi];omega
theorem GI.next(hf:Fld o ds)(h:GI o ds p tm w now){t:Int}(ht:gC o ds (gP ds w p now) (gT o ds (gP ds w p now) tm now) (gW o ds (gT o ds (gP ds w p now) tm now) w now) now t):
  GI o ds (gP ds w p now) (gT o ds (gP ds w p now) tm now) (gW o ds (gT o ds (gP ds w p now) tm now) w now) t/\
  gM o ds (gP ds w p now) (gT o ds (gP ds w p now) tm now) (gW o ds (gT o ds (gP ds w p now) tm now) w now) t<gM o ds p tm w now:=by
 obtain⟨l1,l2⟩:=h.later hf ht;have h0:=h.n0;have g:GI o ds (gP ds w p now) (gT o ds (gP ds w p now) tm now) (gW o ds (gT o ds (gP ds w p now) tm now) w now) t:=by
  refine⟨by simp[gP],by simp[gT],by simp[gW],by omega,l2,λi hi=>?_,λa ha=>?_⟩
  ·obtain⟨h1,h2,h3⟩:=h.price hi;rw[gW_getD hi];rcases h.wi i hi with h4|⟨h4,h5,_⟩
   ·rw[qi (by omega)];rcases gB_in (ds:=ds) (tm:=gT o ds (gP ds w p now) tm now) (now:=now) (i:=i) o.length with⟨k1,_⟩|⟨k1,k2,_⟩
    ·exact .inl k1
    ·exact .inr ⟨k1,k2,h1,by omega⟩
   ·rw[qh (by omega)];exact .inr ⟨h4,h5,h1,by omega⟩
  ·rw[gT_getD ha];split;·exact .inr ⟨h0,l1⟩
   ·rcases h.ti a ha with h1|⟨h1,h2⟩
    ·exact .inl h1
    ·exact .inr ⟨h1,by omega⟩
 refine⟨g,?_⟩;unfold gM;have e1:gL o ds t<=gL o ds now:=cntN_le λx _ hx=>by omega
 have e2:cntN (λa=>(gT o ds (gP ds (gW o ds (gT o ds (gP ds w p now) tm now) w now) (gP ds w p now) t) (gT o ds (gP ds w p now) tm now) t).getD a 0<0) o.length<=cntN (λa=>(gT o ds (gP ds w p now) tm now).getD a 0<0) o.length:=cntN_le λa ha hx=>(g.tight ha hx).1;rcases ht with⟨i,hi,a,ha,k1,k2,k3⟩|⟨a,ha,k1,k2,k3⟩
 ·have:gL o ds t<gL o ds now:=cntN_lt (λx _ hx=>by omega) ⟨i*o.length+a,by
   have:(i+1)*o.length<=ds.length*o.length:=xca _ (by omega);rw[xbr]at this;omega,by
   have e1:(i*o.length+a) / o.length=i:=by rw[xgs,Nat.mul_add_div (by omega),Nat.div_eq_of_lt ha,xbi]
   have e2:(i*o.length+a) % o.length=a:=by rw[xgs,Nat.mul_add_mod,xgn ha]
   simp only[e1,e2];omega⟩
  omega
 ·have:cntN (λa=>(gT o ds (gP ds (gW o ds (gT o ds (gP ds w p now) tm now) w now) (gP ds w p now) t) (gT o ds (gP ds w p now) tm now) t).getD a 0<0) o.length<cntN (λa=>(gT o ds (gP ds w p now) tm now).getD a 0<0) o.length:=cntN_lt (λa ha hx=>(g.tight ha hx).1) ⟨a,ha,k1,λhx=>by
   obtain⟨_,k4⟩:=g.tight ha hx;obtain⟨_,k5⟩:=h.tight ha k1;have k6:=gclN_grow (ds:=ds) (now:=now) (p:=gP ds w p now) (q:=gP ds (gW o ds (gT o ds (gP ds w p now) tm now) w now) (gP ds w p now) t) (a:=a) (d:=t-now) (by omega) (w:=gW o ds (gT o ds (gP ds w p now) tm now) w now) ds.length (xm _) (λi hi=>by
    have:=(h.price hi).2.1;rw[gP_getD (w:=gW o ds (gT o ds (gP ds w p now) tm now) w now) hi];split<;>omega) (λi hi hw=>by
    have:=(h.price hi).2.2.2 (h.on hi hw).1;rw[gP_getD (w:=gW o ds (gT o ds (gP ds w p now) tm now) w now) hi,qi hw];omega)
   have k7:=(cdiv_in (x:=gcs o a-gcl ds (gP ds w p now) a) (by omega) k2).2.2;have k8:(gmany ds (gW o ds (gT o ds (gP ds w p now) tm now) w now) now a:Int)*(t-now)=(gmany ds (gW o ds (gT o ds (gP ds w p now) tm now) w now) now a:Int)*((gcs o a-gcl ds (gP ds w p now) a+(gmany ds (gW o ds (gT o ds (gP ds w p now) tm now) w now) now a:Int) -1) / (gmany ds (gW o ds (gT o ds (gP ds w p now) tm now) w now) now a:Int)):=by rw[k3];congr 1;omega
   have k9:gclN ds (gP ds w p now) a ds.length+(gmany ds (gW o ds (gT o ds (gP ds w p now) tm now) w now) now a:Int)*(t-now)<=gclN ds (gP ds (gW o ds (gT o ds (gP ds w p now) tm now) w now) (gP ds w p now) t) a ds.length:=k6;rw[k8]at k9;unfold gcl at k4 k5 k7 k9;omega⟩
  omega
end
theorem list_ext0{a b:List Int}(hl:a.length=b.length)(h:∀i,i<b.length->a.getD i 0=b.getD i 0):a=b:=by
 apply xei;intro i;by_cases hi:i<b.length;·have:=h i hi;rw[xd,xd,xg (by omega),xg hi]at this;rw[xg (by omega),xg hi];exact congrArg some this
 ·rw[xcc (by omega),xcc (by omega)]
theorem iter_setI{f:(Int)×(List (Int))->Option (((Int)×(List (Int)))⊕(List (Int)))}{n:Nat}(g:Nat->Int){l r:List Int}(hl:l.length=n)(hr:r.length=n)(hg:∀i,i<n->r.getD i 0=g i)
  (hs:∀(i:Nat) (a:List Int),i<n->a.length=n->a.getD i 0=l.getD i 0->∃b,f ((i:Int),a)=some (.inl (((i+1:Nat):Int),b))/\b.length=n/\∀j,j<n->b.getD j 0=if i=j then g i else a.getD j 0)
  (he:∀a,f ((n:Int),a)=some (.inr a)):iter f ((0:Int),l)=some r:=by
 obtain⟨x,h1,h2⟩:=iter_inv (f:=f) (n:=n) (λi (a:List Int)=>((i:Int),a)) (λi a=>a.length=n/\∀j,j<n->a.getD j 0=if j<i then g j else l.getD j 0) (λx=>x=r) (s0:=l)
  ⟨hl,λj _=>by rw[qh (by omega)]⟩
  (λi a hi ⟨h1,h2⟩=>by
   left;obtain⟨b,k1,k2,k3⟩:=hs i a hi h1 (by rw[h2 i hi,qh (by omega)]);refine⟨b,k1,k2,λj hj=>?_⟩;rw[k3 j hj];by_cases e:i=j;·subst e;rw[qi rfl,qi (by omega)]
   ·rw[qh e,h2 j hj];by_cases h:j<i;·rw[qi h,qi (by omega)]
    ·rw[qh h,qh (by omega)])
  (λa ⟨h1,h2⟩=>⟨a,he a,list_ext0 (by omega) λj hj=>by rw[h2 j (by omega),qi (by omega),hg j (by omega)]⟩)
 rw[<-h2];exact h1
section
variable {o:List Int}{ds:List (List Int)}{p tm w:List Int}{now:Int}
theorem gclaims_eq(hf:Fld o ds)(hl:p.length=ds.length)(hp:∀i,i<ds.length->0<=p.getD i 0/\p.getD i 0<=498960):∃r,wbdn o ds p 2520=some r/\r.length=o.length/\∀s,s<o.length->r.getD s 0=gcl ds p s:=by
 have aj:=hf.clients;have hlen:=hf.len;obtain⟨r,k1,k2⟩:=iter_inv (f:=λv=>(watg (p,(2520:Int),ds,(ds.length:Int)) v).ev) (n:=ds.length) (λi (a:List Int)=>((i:Int),a)) (λi a=>a.length=o.length/\∀s,s<o.length->a.getD s 0=gclN ds p s i) (λr=>r.length=o.length/\∀s,s<o.length->r.getD s 0=gcl ds p s) (s0:=List.replicate o.length 0)
  ⟨by simp,λs hs=>by rw[xd,xcl,qi hs];rfl⟩
  (λc a hc ⟨ab,ad⟩=>by
   left;have hr:=hf.rowLen c hc;have ae:c<p.length:=by omega
   have h1:=hp c hc;have af:wbdl (p,(2520:Int),(c:Int),ds,(ds.length:Int),(c:Int),ds.getD c [],((ds.getD c []).length:Int)) ((0:Int),a)=some ((List.range o.length).map λs=>gclN ds p s (c+1)):=by
    refine iter_setI (n:=o.length) (λs=>gclN ds p s (c+1)) ab (by simp) (λi hi=>range_getD hi) (λi b hi hb he=>?_) (λb=>?_)
    ·have h2:=hf.at2 hc hi;obtain⟨g1,g2,_⟩:=gclN_in hf (λi hi=>(hp i hi).2) hi c (by omega);obtain⟨g3,g4,_⟩:=gclN_in hf (λi hi=>(hp i hi).2) hi (c+1) (by omega);have e3:(ds.getD c []).getD i 0=at2 ds c i:=rfl;have e4:b.getD i 0=gclN ds p i c:=by rw[he,ad i hi]
     have aa:i<b.length:=by omega
     have ah:i<(ds.getD c []).length:=by omega
     have e5:(if(0:Int)<p.getD c 0-at2 ds c i*2520 then p.getD c 0-at2 ds c i*2520 else 0)=pos (p.getD c 0-gln ds c i):=rfl;rw[gclN]at g3 g4;refine⟨b.set i (gclN ds p i (c+1)),?_,by rw[xbc];exact hb,λj hj=>set_getD b aa j _⟩;simp(disch:=omega)only[EV,wavd,hr,hi,aa,e3,e4,e5];rfl
    ·simp(disch:=omega)only[EV,wavd,hr,xi]
   refine⟨_,?_,by simp,λs hs=>range_getD hs⟩;simp(disch:=omega)only[EV,watg,hc,af];rfl)
  (λa ha=>⟨a,by simp(disch:=omega)only[EV,watg,xi],ha⟩)
 have ai:wbdm (p,(2520:Int),ds,(ds.length:Int)) ((0:Int),List.replicate o.length 0)=some r:=k1;refine⟨r,?_,k2⟩;unfold wbdn wbri;have e1:(0:Int)<=(o.length:Int):=by omega
 have e2:((8:Nat):Int)*(o.length:Int)<=281474976710656:=by omega
 simp(disch:=omega)only[EV,e1,e2,xbv,ai]
theorem grow1_eq(hf:Fld o ds){i a:Nat}(hi:i<ds.length)(ha:a<o.length):wbjw (i:Int) (a:Int) o ds=some (gln ds i a):=by
 have h1:=hf.at2 hi ha;have hr:=hf.rowLen i hi;have e3:(ds.getD i []).getD a 0=at2 ds i a:=rfl;unfold wbjw wceg;have aa:a<(ds.getD i []).length:=by omega
 simp(disch:=omega)only[EV,e3];rfl
theorem grow_p(hf:Fld o ds)(h:GI o ds p tm w now)(x:Int):wciw (x,(ds.length:Int),o,ds,now,tm,w) ((0:Int),p)=some (gP ds w p now):=by
 have hw:=h.wl;have hm:=hf.clients;refine iter_setI (n:=ds.length) (λi=>if w.getD i 0<0 then now else p.getD i 0) h.pl (by simp[gP]) (λi hi=>gP_getD hi) (λi b hi hb he=>?_) (λb=>?_)
 ·have aa:i<w.length:=by omega
  have ab:i<b.length:=by omega
  by_cases hc:w.getD i 0<0;·refine⟨b.set i now,?_,by rw[xbc];exact hb,λj hj=>by rw[set_getD b ab,qi hc]⟩;simp(disch:=omega)only[EV,wbjx,hi,aa,ab,hc];rfl
  ·refine⟨b,?_,hb,λj hj=>?_⟩;·simp(disch:=omega)only[EV,wbjx,hi,aa,hc];rfl
   ·rw[qh hc];split
    next e=>subst e;exact he
    next=>rfl
 ·simp(disch:=omega)only[EV,wbjx,xi]
theorem grow_t(hf:Fld o ds)(ad:tm.length=o.length){cl:List Int}(af:cl.length=o.length)(hc:∀s,s<o.length->cl.getD s 0=gcl ds p s)(x:Int)(y:List Int)(z:List Int):
  wbjy (x,(o.length:Int),o,ds,now,cl,y,z) ((0:Int),tm)=some (gT o ds p tm now):=by
 have hlen:=hf.len;refine iter_setI (n:=o.length) (λa=>if tm.getD a 0<0/\gcs o a<=gcl ds p a then now else tm.getD a 0) ad (by simp[gT]) (λa ha=>gT_getD ha) (λi b hi hb he=>?_) (λb=>?_)
 ·have aa:i<b.length:=by omega
  have ab:i<cl.length:=by omega
  have ae:=hf.cost i hi;have e1:=hc i hi;have e2:o.getD i 0*2520=gcs o i:=rfl;by_cases h1:tm.getD i 0<0
  ·by_cases h2:gcs o i<=gcl ds p i;·refine⟨b.set i now,?_,by rw[xbc];exact hb,λj hj=>by rw[set_getD b aa];simp only[qi (And.intro h1 h2)]⟩;simp(disch:=omega)only[EV,wayf,hi,aa,ab,he,h1,e1,e2,h2];rfl
   ·refine⟨b,?_,hb,λj hj=>?_⟩;·simp(disch:=omega)only[EV,wayf,hi,aa,ab,he,h1,e1,e2,h2];rfl
    ·rw[qh (show¬(tm.getD i 0<0/\gcs o i<=gcl ds p i)from λq=>h2 q.2)];split
     next e=>subst e;exact he
     next=>rfl
  ·refine⟨b,?_,hb,λj hj=>?_⟩;·simp(disch:=omega)only[EV,wayf,hi,aa,ab,he,h1];rfl
   ·rw[qh (show¬(tm.getD i 0<0/\gcs o i<=gcl ds p i)from λq=>h1 q.1)];split
    next e=>subst e;exact he
    next=>rfl
 ·simp(disch:=omega)only[EV,wayf,xi]
theorem grow_w1(hf:Fld o ds)(h:GI o ds p tm w now){t q:List Int}(ht:t.length=o.length)(hq:q.length=ds.length){i:Nat}(hi:i<ds.length)(af:q.getD i 0=now↔w.getD i 0<0){b:List Int}(hb:b.length=ds.length)(al:b.getD i 0=w.getD i 0)(x:Int)(y:Bool):
  wbjz (x,y,(i:Int),(ds.length:Int),(i:Int),(o.length:Int),o,ds,now,t,q) ((0:Int),b)=some (b.set i (if w.getD i 0<0 then gB ds t now i o.length else w.getD i 0)):=by
 have hlen:=hf.len;have ah:i<b.length:=by omega
 have ab:i<q.length:=by omega
 obtain⟨r,k1,k2⟩:=iter_inv (f:=λv=>(waol (x,y,(i:Int),(ds.length:Int),(i:Int),(o.length:Int),o,ds,now,t,q) v).ev) (n:=o.length) (λa (c:List Int)=>((a:Int),c)) (λa c=>c=b.set i (if w.getD i 0<0 then gB ds t now i a else w.getD i 0)) (λr=>r=b.set i (if w.getD i 0<0 then gB ds t now i o.length else w.getD i 0)) (s0:=b)
  (by
   have:(if w.getD i 0<0 then gB ds t now i 0 else w.getD i 0)=b.getD i 0:=by
    rw[al];rcases h.wi i hi with e|e;·rw[e];rfl
    ·rw[qh (by omega)]
   rw[this];exact(list_ext0 (by simp) λj hj=>by
    rw[set_getD b ah];split
    ·next e=>subst e;rfl
    ·rfl).symm)
  (λa c ha hc=>by
   left;refine⟨_,?_,rfl⟩;subst hc;have ad:a<t.length:=by omega
   have aa:∀v,((b.set i v).length=ds.length):=λv=>by rw[xbc];exact hb
   have ae:∀v,(b.set i v).getD i 0=v:=λv=>by rw[set_getD b ah,qi rfl]
   have ai:∀v v':Int,(b.set i v).set i v'=b.set i v':=λv v'=>by rw[List.set_set]
   by_cases h0:w.getD i 0<0
   ·have e1:=af.2 h0;have eb:(now==now)=true:=qj now;have hl:=grow1_eq hf hi ha;have ao:=gB_in (ds:=ds) (tm:=t) (now:=now) (i:=i) a;rw[qi h0,qi h0,gB];generalize hB:gB ds t now i a=B at ao⊢;by_cases h1:0<=t.getD a 0
    ·by_cases h2:gln ds i a<=now
     ·by_cases h3:B<0;·rw[qi ⟨h1,h2,.inl h3⟩];simp(disch:=omega)only[EV,waol,ha,ad,aa,hi,ab,e1,eb,h1,hl,h2,ae,h3,ai];rfl
      ·have aj:B.toNat<t.length:=by omega
       have ak:inR B t.length=true:=inR_int (by omega) (by omega);by_cases h4:t.getD a 0<t.getD B.toNat 0;·rw[qi ⟨h1,h2,.inr h4⟩];simp(disch:=omega)only[EV,waol,ha,ad,aa,hi,ab,e1,eb,h1,hl,h2,ae,h3,aj,h4,ai];rfl
       ·rw[qh (λq=>by rcases q.2.2 with q|q;exact h3 q;exact h4 q)];simp(disch:=omega)only[EV,waol,ha,ad,aa,hi,ab,e1,eb,h1,hl,h2,ae,h3,aj,h4];rfl
     ·rw[qh (λq=>h2 q.2.1)];simp(disch:=omega)only[EV,waol,ha,ad,aa,hi,ab,e1,eb,h1,hl,h2];rfl
    ·rw[qh (λq=>h1 q.1)];simp(disch:=omega)only[EV,waol,ha,ad,aa,hi,ab,e1,eb,h1];rfl
   ·have e1:(q.getD i 0==now)=false:=beq_eq_false_iff_ne.2 λe=>h0 (af.1 e);rw[qh h0,qh h0];simp(disch:=omega)only[EV,waol,ha,ad,aa,hi,ab,e1];rfl)
  (λc hc=>⟨c,by unfold waol;dsimp only;rw[qo,qd (xdn _),qb,qq],hc⟩)
 rw[<-k2];exact k1
theorem grow_w(hf:Fld o ds)(h:GI o ds p tm w now){t q:List Int}(ht:t.length=o.length)(hq:q.length=ds.length)(ae:∀i,i<ds.length->(q.getD i 0=now↔w.getD i 0<0))(x:Int):
  ∃g,wbka (x,(ds.length:Int),o,ds,now,q,t) (false,(0:Int),w)=some (g,gW o ds t w now)/\(g=true↔∃i,i<ds.length/\(gW o ds t w now).getD i 0<0):=by
 obtain⟨⟨g,r⟩,k1,k2,k3⟩:=iter_inv (f:=λv=>(wayg (x,(ds.length:Int),o,ds,now,q,t) v).ev) (n:=ds.length) (λi (c:Bool×List Int)=>(c.1,(i:Int),c.2)) (λi c=>c.2.length=ds.length/\(∀j,j<ds.length->c.2.getD j 0=if j<i then(gW o ds t w now).getD j 0 else w.getD j 0)/\(c.1=true↔∃j,j<i/\(gW o ds t w now).getD j 0<0))
  (λr=>r.2=gW o ds t w now/\(r.1=true↔∃j,j<ds.length/\(gW o ds t w now).getD j 0<0)) (s0:=(false,w))
  ⟨h.wl,λj _=>by rw[qh (by omega)],by simp⟩
  (λi c hi ⟨c1,c2,c3⟩=>by
   left;have hm:=hf.clients;have e1:=grow_w1 hf h ht hq hi (ae i hi) c1 (by rw[c2 i hi,qh (by omega)]) x c.1;have e2:(if w.getD i 0<0 then gB ds t now i o.length else w.getD i 0)=(gW o ds t w now).getD i 0:=(gW_getD hi).symm;rw[e2]at e1;have aa:i<c.2.length:=by omega
   have e3:∀v,(c.2.set i v).getD i 0=v:=λv=>by rw[set_getD c.2 aa,qi rfl]
   have e4:∀v,(c.2.set i v).length=ds.length:=λv=>by rw[xbc];exact c1
   refine⟨(c.1||decide ((gW o ds t w now).getD i 0<0),c.2.set i ((gW o ds t w now).getD i 0)),?_,e4 _,λj hj=>?_,?_⟩
   ·cases hc:c.1 with
    |true=>rw[hc]at e1;simp(disch:=omega)only[EV,wayg,hi,ht,e1];rfl
    |false=>rw[hc]at e1;simp(disch:=omega)only[EV,wayg,hi,ht,e1,e3,e4];rfl
   ·rw[set_getD c.2 aa];by_cases e:i=j;·subst e;rw[qi rfl,qi (by omega)]
    ·rw[qh e,c2 j hj];by_cases ab:j<i;·rw[qi ab,qi (by omega)]
     ·rw[qh ab,qh (by omega)]
   ·rw[xbk,c3,qe];constructor
    ·rintro(⟨j,h1,h2⟩|h1);·exact⟨j,by omega,h2⟩
     ·exact⟨i,by omega,h1⟩
    ·rintro⟨j,h1,h2⟩;by_cases e:j=i;·subst e;exact .inr h2
     ·exact .inl ⟨j,by omega,h2⟩)
  (λc ⟨c1,c2,c3⟩=>⟨c,by simp(disch:=omega)only[EV,wayg,xi],list_ext0 (by simp[c1,gW]) λj hj=>by
   have ad:j<ds.length:=by simpa[gW]using hj
   rw[c2 j ad,qi ad],c3⟩)
 refine⟨g,?_,k3⟩;simp only at k2;rw[<-k2];exact k1
def NXT(now:Int)(C:Int->Prop)(x:Int):Prop:=(x= -1/\∀t,C t->¬now<t)\/(C x/\now<x/\∀t,C t->now<t->x<=t)
theorem NXT.eqv{C D:Int->Prop}{x:Int}(aa:∀t,C t↔D t)(h:NXT now C x):NXT now D x:=by
 rcases h with⟨h1,h2⟩|⟨h1,h2,h3⟩
 ·exact .inl ⟨h1,λt ht=>h2 t ((aa t).2 ht)⟩
 ·exact .inr ⟨(aa x).1 h1,h2,λt ht=>h3 t ((aa t).2 ht)⟩
theorem NXT.uniq{C:Int->Prop}{x y:Int}(_:0<=now)(h1:NXT now C x)(h2:NXT now C y):x=y:=by
 rcases h1 with⟨a,b⟩|⟨a,b,c⟩<;>rcases h2 with⟨a',b'⟩|⟨a',b',c'⟩
 ·omega
 ·exact absurd b' (b y a')
 ·exact absurd b (b' x a)
 ·have:=c y a' b';have:=c' x a b;omega
theorem grow2_eq(h0:0<=now){C:Int->Prop}{x:Int}(h:NXT now C x)(t:Int):∃y,wbrs t now x=some y/\NXT now (λu=>C u\/u=t) y:=by
 unfold wbrs wceh;by_cases h1:now<t
 ·by_cases h2:x<0
  ·refine⟨t,by simp(disch:=omega)only[EV,h1,h2],.inr ⟨.inr rfl,h1,λu hu hn=>?_⟩⟩;rcases h with⟨_,h⟩|⟨_,h,_⟩
   ·rcases hu with hu|rfl;·exact absurd hn (h u hu)
    ·exact xbv _
   ·omega
  ·rcases h with⟨h,_⟩|⟨a,b,c⟩
   ·omega
   by_cases h3:t<x
   ·refine⟨t,by simp(disch:=omega)only[EV,h1,h2,h3],.inr ⟨.inr rfl,h1,λu hu hn=>?_⟩⟩;rcases hu with hu|rfl;·have:=c u hu hn;omega
    ·exact xbv _
   ·refine⟨x,by simp(disch:=omega)only[EV,h1,h2,h3],.inr ⟨.inl a,b,λu hu hn=>?_⟩⟩;rcases hu with hu|rfl;·exact c u hu hn
    ·omega
 ·refine⟨x,by simp(disch:=omega)only[EV,h1],?_⟩;rcases h with⟨a,b⟩|⟨a,b,c⟩
  ·exact .inl ⟨a,λu hu=>by
    rcases hu with hu|rfl;·exact b u hu
    ·exact h1⟩
  ·exact .inr ⟨.inl a,b,λu hu hn=>by
    rcases hu with hu|rfl;·exact c u hu hn
    ·exact absurd hn h1⟩
def gCa(o:List Int)(ds:List (List Int))(p tm w:List Int)(now:Int)(a:Nat)(t:Int):Prop:=
 (∃i,i<ds.length/\w.getD i 0<0/\t=gln ds i a)\/(tm.getD a 0<0/\0<gmany ds w now a/\t=now+(gcs o a-gcl ds p a+(gmany ds w now a:Int) -1) / (gmany ds w now a:Int))
theorem grow_n1(hf:Fld o ds)(h0:0<=now/\now<=498960){v cl q t:List Int}(hv:v.length=ds.length){a:Nat}(ha:a<o.length){C:Int->Prop}{x:Int}(hx:NXT now C x)(m:Int):
  ∃y,wbeb (m,(a:Int),(o.length:Int),(a:Int),m,o,ds,now,cl,q,t,v) ((0:Int),(0:Int),x)=some ((gmany ds v now a:Int),y)/\NXT now (λu=>C u\/∃i,i<ds.length/\v.getD i 0<0/\u=gln ds i a) y\/m≠(ds.length:Int):=by
 by_cases hm:m=(ds.length:Int)
 ·subst hm;obtain⟨r,k1,k2⟩:=iter_inv (f:=λz=>(wapk ((ds.length:Int),(a:Int),(o.length:Int),(a:Int),(ds.length:Int),o,ds,now,cl,q,t,v) z).ev) (n:=ds.length) (λi (c:Int×Int)=>(c.1,(i:Int),c.2)) (λi c=>c.1=(gcnt ds v now a i:Int)/\NXT now (λu=>C u\/∃j,j<i/\v.getD j 0<0/\u=gln ds j a) c.2)
   (λr=>r.1=(gmany ds v now a:Int)/\NXT now (λu=>C u\/∃j,j<ds.length/\v.getD j 0<0/\u=gln ds j a) r.2) (s0:=((0:Int),x))
   ⟨rfl,hx.eqv λu=>by simp⟩
   (λi c hi ⟨c1,c2⟩=>by
    left;have aa:i<v.length:=by omega
    have ad:=cntN_max (λj=>v.getD j 0<0/\gln ds j a<=now) i;have ae:=hf.clients;have e0:gcnt ds v now a i=cntN (λj=>v.getD j 0<0/\gln ds j a<=now) i:=rfl;by_cases h1:0<=v.getD i 0
    ·refine⟨c,?_,?_,c2.eqv λu=>?_⟩;·simp(disch:=omega)only[EV,wapk,hi,aa,h1];rfl
     ·rw[c1];unfold gcnt;rw[cntN,qh (by omega)];rfl
     ·constructor
      ·rintro(h|⟨j,h2,h3⟩);·exact .inl h
       ·exact .inr ⟨j,by omega,h3⟩
      ·rintro(h|⟨j,h2,h3,h4⟩);·exact .inl h
       ·by_cases e:j=i;·subst e;omega
        ·exact .inr ⟨j,by omega,h3,h4⟩
    ·obtain⟨y,e2,hy⟩:=grow2_eq h0.1 c2 (gln ds i a);have e1:=grow1_eq hf hi ha;have ab:NXT now (λu=>C u\/∃j,j<i+1/\v.getD j 0<0/\u=gln ds j a) y:=hy.eqv λu=>by
      constructor
      ·rintro((h|⟨j,h2,h3⟩)|h);·exact .inl h
       ·exact .inr ⟨j,by omega,h3⟩
       ·exact .inr ⟨i,by omega,by omega,h⟩
      ·rintro(h|⟨j,h2,h3,h4⟩);·exact .inl (.inl h)
       ·by_cases e:j=i;·subst e;exact .inr h4
        ·exact .inl (.inr ⟨j,by omega,h3,h4⟩)
     by_cases h2:gln ds i a<=now
     ·refine⟨(c.1+1,y),?_,?_,ab⟩
      ·have hb:c.1<=7:=by omega
       have hb0:0<=c.1:=by omega
       simp(disch:=omega)only[EV,wapk,hi,aa,h1,e1,e2,h2];rfl
      ·simp only;rw[c1];unfold gcnt;rw[cntN,qi ⟨by omega,h2⟩];rfl
     ·refine⟨(c.1,y),?_,?_,ab⟩;·simp(disch:=omega)only[EV,wapk,hi,aa,h1,e1,e2,h2];rfl
      ·simp only;rw[c1];unfold gcnt;rw[cntN,qh (λq=>h2 q.2)];rfl)
   (λc ⟨c1,c2⟩=>⟨c,by simp(disch:=omega)only[EV,wapk,xi],c1,c2⟩)
  refine⟨r.2,.inl ⟨?_,k2.2⟩⟩;rw[<-k2.1];exact k1
 ·exact⟨0,.inr hm⟩
theorem grow_n(hf:Fld o ds)(h0:0<=now/\now<=498960){v cl q t:List Int}(hv:v.length=ds.length)(ht:t.length=o.length)(aj:cl.length=o.length)(hc:∀s,s<o.length->cl.getD s 0=gcl ds q s)(hq:∀i,i<ds.length->q.getD i 0<=498960)(ah:∀a,a<o.length->t.getD a 0<0->gcl ds q a<gcs o a):
  ∃y,wbec ((ds.length:Int),(o.length:Int),o,ds,now,cl,q,t,v) ((0:Int),(-1:Int))=some y/\NXT now (λu=>∃a,a<o.length/\gCa o ds q t v now a u) y:=by
 have hlen:=hf.len;have ad:=hf.clients;obtain⟨r,k1,k2⟩:=iter_inv (f:=λz=>(wapl ((ds.length:Int),(o.length:Int),o,ds,now,cl,q,t,v) z).ev) (n:=o.length) (λi (c:Int)=>((i:Int),c)) (λi c=>NXT now (λu=>∃a,a<i/\gCa o ds q t v now a u) c)
  (λr=>NXT now (λu=>∃a,a<o.length/\gCa o ds q t v now a u) r) (s0:=(-1:Int))
  (.inl ⟨rfl,λu ⟨a,h,_⟩=>absurd h (by omega)⟩)
  (λa c ha ab=>by
   left;obtain⟨y,e1|e1⟩:=grow_n1 hf h0 (cl:=cl) (q:=q) (t:=t) hv ha ab (ds.length:Int)
   ·obtain⟨e1,hy⟩:=e1;have ae:a<t.length:=by omega
    have af:a<cl.length:=by omega
    have ak:gmany ds v now a<=ds.length:=cntN_max _ _;by_cases h1:0<gmany ds v now a
    ·have aa:(0:Int)<(gmany ds v now a:Int):=by omega
     by_cases h2:t.getD a 0<0
     ·have h3:=ah a ha h2;have h4:=gcs_in hf ha;have h5:=(gclN_in hf hq ha ds.length (xm _)).1;have al:0<=gcl ds q a:=h5;have h6:=cdiv_in (x:=gcs o a-gcl ds q a) (by omega) h1;have ai:=hf.cost a ha;obtain⟨z,e2,hz⟩:=grow2_eq h0.1 hy (now+(gcs o a-gcl ds q a+(gmany ds v now a:Int) -1) / (gmany ds v now a:Int));refine⟨z,?_,hz.eqv λu=>?_⟩
      ·have e3:o.getD a 0*2520=gcs o a:=rfl;have e4:=hc a ha;have e5:Int.tdiv (gcs o a-gcl ds q a+(gmany ds v now a:Int) -1) (gmany ds v now a:Int)=(gcs o a-gcl ds q a+(gmany ds v now a:Int) -1) / (gmany ds v now a:Int):=xek (by omega);have e6:¬(gmany ds v now a:Int)=0:=by omega
       simp(disch:=omega)only[EV,wapl,ha,ae,af,e1,aa,h2,e6,e3,e4,e5,e2];rfl
      ·constructor
       ·rintro((⟨b,hb,h⟩|h)|h);·exact⟨b,by omega,h⟩
        ·exact⟨a,by omega,.inl h⟩
        ·exact⟨a,by omega,.inr ⟨h2,h1,h⟩⟩
       ·rintro⟨b,hb,h⟩;by_cases e:b=a
        ·subst e;rcases h with h|h;·exact .inl (.inr h)
         ·exact .inr h.2.2
        ·exact .inl (.inl ⟨b,by omega,h⟩)
     ·refine⟨y,?_,hy.eqv λu=>?_⟩;·simp(disch:=omega)only[EV,wapl,ha,ae,af,e1,aa,h2];rfl
      ·constructor
       ·rintro(⟨b,hb,h⟩|h);·exact⟨b,by omega,h⟩
        ·exact⟨a,by omega,.inl h⟩
       ·rintro⟨b,hb,h⟩;by_cases e:b=a
        ·subst e;rcases h with h|h;·exact .inr h
         ·exact absurd h.1 h2
        ·exact .inl ⟨b,by omega,h⟩
    ·have aa:¬(0:Int)<(gmany ds v now a:Int):=by omega
     refine⟨y,?_,hy.eqv λu=>?_⟩;·simp(disch:=omega)only[EV,wapl,ha,e1,aa];rfl
     ·constructor
      ·rintro(⟨b,hb,h⟩|h);·exact⟨b,by omega,h⟩
       ·exact⟨a,by omega,.inl h⟩
      ·rintro⟨b,hb,h⟩;by_cases e:b=a
       ·subst e;rcases h with h|h;·exact .inr h
        ·exact absurd h.2.1 h1
       ·exact .inl ⟨b,by omega,h⟩
   ·exact absurd rfl e1)
  (λc ab=>⟨c,by simp(disch:=omega)only[EV,wapl,xi],ab⟩)
 exact⟨r,k1,k2⟩
structure GR(o:List Int)(ds:List (List Int))(g:List Int×List Int×List Int):Prop where
 pl:g.1.length=ds.length
 tl:g.2.1.length=o.length
 wl:g.2.2.length=ds.length
 ti:∀a,a<o.length-> -1<=g.2.1.getD a 0
def gRound(o:List Int)(ds:List (List Int))(v:(Int)×(List (Int))×(List (Int))×(List (Int))):List Int×List Int×List Int:=
 let p1:=gP ds v.2.2.2 v.2.1 v.1
 let t1:=gT o ds p1 v.2.2.1 v.1
 (p1,t1,gW o ds t1 v.2.2.2 v.1)
theorem grow_round(hf:Fld o ds)(h:GI o ds p tm w now):
  (∃t,(watq ((ds.length:Int),o,ds) (now,p,tm,w)).ev=some (.inl (t,gRound o ds (now,p,tm,w)))/\gC o ds (gRound o ds (now,p,tm,w)).1 (gRound o ds (now,p,tm,w)).2.1 (gRound o ds (now,p,tm,w)).2.2 now t/\
   (∀t',gC o ds (gRound o ds (now,p,tm,w)).1 (gRound o ds (now,p,tm,w)).2.1 (gRound o ds (now,p,tm,w)).2.2 now t'->t<=t')/\∃i,i<ds.length/\(gRound o ds (now,p,tm,w)).2.2.getD i 0<0)\/
  ((watq ((ds.length:Int),o,ds) (now,p,tm,w)).ev=some (.inr (gRound o ds (now,p,tm,w)))/\∀i,i<ds.length->¬(gRound o ds (now,p,tm,w)).2.2.getD i 0<0):=by
 have hp:∀i,i<ds.length->0<=(gP ds w p now).getD i 0/\(gP ds w p now).getD i 0<=498960:=λi hi=>by have:=h.price hi;have:=h.n1;omega
 obtain⟨cl,c1,c2,c3⟩:=gclaims_eq hf (p:=gP ds w p now) (by simp[gP]) hp;have e1:=grow_p hf h (ds.length:Int);have e2:=grow_t (p:=gP ds w p now) (now:=now) hf h.tl c2 c3 (ds.length:Int);obtain⟨g,e3,e4⟩:=grow_w hf h (t:=gT o ds (gP ds w p now) tm now) (q:=gP ds w p now) (by simp[gT]) (by simp[gP]) (λi hi=>(h.price hi).2.2) (ds.length:Int);cases hg:g with
 |false=>right;refine⟨?_,λi hi aa=>by have:=e4.2 ⟨i,hi,aa⟩;rw[hg]at this;cases this⟩;rw[hg]at e3;unfold watq;simp(disch:=omega)only[EV,e1,c1,c2,e2,e3];rfl
 |true=>
  left;rw[hg]at e3 e4;obtain⟨i,hi,aa⟩:=e4.1 rfl;obtain⟨y,e5,e6⟩:=grow_n hf ⟨h.n0,h.n1⟩ (v:=gW o ds (gT o ds (gP ds w p now) tm now) w now) (q:=gP ds w p now) (t:=gT o ds (gP ds w p now) tm now) (by simp[gW]) (by simp[gT]) c2 c3 (λi hi=>(hp i hi).2) (λa ha ae=>(h.tight ha ae).2);have ab:∀u,gC o ds (gP ds w p now) (gT o ds (gP ds w p now) tm now) (gW o ds (gT o ds (gP ds w p now) tm now) w now) now u->∃a,a<o.length/\gCa o ds (gP ds w p now) (gT o ds (gP ds w p now) tm now) (gW o ds (gT o ds (gP ds w p now) tm now) w now) now a u:=by
   rintro u (⟨i,h1,a,h2,h3,h4,h5⟩|⟨a,h1,h2⟩);·exact⟨a,h2,.inl ⟨i,h1,h3,h5⟩⟩
   ·exact⟨a,h1,.inr h2⟩
  have af:∀u,now<u->(∃a,a<o.length/\gCa o ds (gP ds w p now) (gT o ds (gP ds w p now) tm now) (gW o ds (gT o ds (gP ds w p now) tm now) w now) now a u)->gC o ds (gP ds w p now) (gT o ds (gP ds w p now) tm now) (gW o ds (gT o ds (gP ds w p now) tm now) w now) now u:=by
   rintro u hu ⟨a,h2,⟨i,h1,h3,h5⟩|h1⟩;·exact .inl ⟨i,h1,a,h2,h3,by omega,h5⟩
   ·exact .inr ⟨a,h2,h1⟩
  rcases e6 with⟨_,e6⟩|⟨e6,e7,e8⟩
  ·obtain⟨t,ht⟩:=h.some hf hi aa;exact absurd (h.later hf ht).1 (e6 t (ab t ht))
  ·refine⟨y,?_,af y e7 e6,λt' ad=>e8 t' (ab t' ad) (h.later hf ad).1,i,hi,aa⟩;unfold watq;simp(disch:=omega)only[EV,e1,c1,c2,e2,e3,e5];rfl
theorem GI.begin(_:Fld o ds):GI o ds (List.replicate ds.length 0) (List.replicate o.length (-1)) (List.replicate ds.length (-1)) 0:=by
 have rep:∀(n:Nat) (x:Int) (i:Nat),i<n->(List.replicate n x).getD i 0=x:=λn x i hi=>by rw[xd,xcl,qi hi];rfl
 exact⟨by simp,by simp,by simp,by omega,by omega,λi hi=>.inl (rep _ _ i hi),λa ha=>.inl (rep _ _ a ha)⟩
theorem grow_total(hf:Fld o ds):∃g,wbcm o ds=some g/\GR o ds g:=by
 have hlen:=hf.len;have ab:=hf.clients;obtain⟨r,k1,k2⟩:=iter_rule (f:=λv=>(watq ((ds.length:Int),o,ds) v).ev) (λv=>GI o ds v.2.1 v.2.2.1 v.2.2.2 v.1) (λv=>gM o ds v.2.1 v.2.2.1 v.2.2.2 v.1) (GR o ds) (λv hv=>by
  obtain⟨now,p,tm,w⟩:=v;simp only at hv;rcases grow_round hf hv with⟨t,e1,e2,_,_⟩|⟨e1,_⟩
  ·simp only[e1];exact hv.next hf e2
  ·simp only[e1];refine⟨by simp[gRound,gP],by simp[gRound,gT],by simp[gRound,gW],λa ha=>?_⟩;show-1<=(gT o ds (gP ds w p now) tm now).getD a 0;rw[gT_getD ha];have:=hv.n0;have:=hv.ti a ha;split<;>omega) (v:=((0:Int),List.replicate ds.length 0,List.replicate o.length (-1),List.replicate ds.length (-1))) (GI.begin hf)
 have aa:wbbb ((ds.length:Int),o,ds) ((0:Int),List.replicate ds.length 0,List.replicate o.length (-1),List.replicate ds.length (-1))=some r:=k1;refine⟨r,?_,k2⟩;have rep:∀n:Nat,n<=1000->wbey [(-1:Int)] (n:Int)=some (List.replicate n (-1)):=λn hn=>by unfold wbey;exact repeatF_one (by omega) (-1)
 have r1:=rep o.length (by omega);have r2:=rep ds.length (by omega);have e1:(0:Int)<=(ds.length:Int):=by omega
 have e2:((8:Nat):Int)*(ds.length:Int)<=281474976710656:=by omega
 unfold wbcm wbrx;simp(disch:=omega)only[EV,e1,e2,xbv,r1,r2,aa]
end
def gu(k:Nat):Int:=[2520,2520,1260,420,210,42,7,1].getD k 1
theorem gu_mul{k s:Nat}(hs:0<s)(h:k+s<=7):((s:Int)*gu (k+s))∣gu k:=by
 have key:∀k:Nat,k<8->∀s:Nat,s<8->0<s->k+s<=7->gu k % ((s:Int)*gu (k+s))=0:=by decide
 exact xgr (key k (by omega) s (by omega) hs h)
theorem gu_mono{k l:Nat}(h:k<=l)(h7:l<=7):gu l∣gu k:=by
 have key:∀k:Nat,k<8->∀l:Nat,l<8->k<=l->gu k % gu l=0:=by decide
 exact xgr (key k (by omega) l (by omega) h)
theorem cntN_two{p q r:Nat->Prop}[DecidablePred p][DecidablePred q][DecidablePred r]:∀{n:Nat},(∀i,i<n->p i->r i)->(∀i,i<n->q i->r i)->(∀i,i<n->p i->¬q i)->cntN p n+cntN q n<=cntN r n
 |0,_,_,_=>xm _
 |n+1,h1,h2,h3=>by have ih:=cntN_two (n:=n) (λi hi=>h1 i (by omega)) (λi hi=>h2 i (by omega)) (λi hi=>h3 i (by omega));have k1:=h1 n (by omega);have k2:=h2 n (by omega);have k3:=h3 n (by omega);unfold cntN;by_cases hp:p n<;>by_cases hq:q n<;>by_cases hr:r n<;>simp only[hp,hq,hr,if_true,if_false]<;>first|(exfalso;exact k3 hp hq)|(exfalso;exact hr (k1 hp))|(exfalso;exact hr (k2 hq))|omega
def gK(ds:List (List Int))(w:List Int):Nat:=cntN (λi=>¬w.getD i 0<0) ds.length
section
variable {o:List Int}{ds:List (List Int)}{p tm w:List Int}{now:Int}
theorem gclN_dvd{u:Int}{P:List Int}{a:Nat}(h:∀i,i<ds.length->u∣P.getD i 0-gln ds i a):∀k,k<=ds.length->u∣gclN ds P a k
 |0,_=>xgu _
 |k+1,hk=>by
  have ih:=gclN_dvd h k (by omega);have h1:=h k (by omega);have h2:=pos_in (P.getD k 0-gln ds k a);rw[gclN];refine Int.dvd_add ih ?_;by_cases h0:0<=P.getD k 0-gln ds k a;·rw[h2.2.1 h0];exact h1
  ·rw[h2.2.2 (by omega)];exact xgu _
theorem gclN_exact{P Q W:List Int}{a:Nat}{d:Int}(hd:0<=d):∀k,k<=ds.length->(∀i,i<ds.length->(W.getD i 0<0/\P.getD i 0=now/\Q.getD i 0=now+d/\(now<gln ds i a->now+d<=gln ds i a))\/(¬W.getD i 0<0/\Q.getD i 0=P.getD i 0))->gclN ds Q a k=gclN ds P a k+(gcnt ds W now a k:Int)*d
 |0,_,_=>by simp[gclN,gcnt,cntN]
 |k+1,hk,h=>by
  have ih:=gclN_exact hd k (by omega) h;rw[gclN,gclN,ih];unfold gcnt;rw[cntN];rcases h k (by omega)with⟨h1,h2,h3,h4⟩|⟨h1,h2⟩
  ·by_cases hc:gln ds k a<=now;·rw[qi ⟨h1,hc⟩,h2,h3,(pos_in _).2.1 (show 0<=now+d-gln ds k a by omega),(pos_in _).2.1 (show 0<=now-gln ds k a by omega),xex,xhb];simp only[Int.natCast_one,Int.one_mul];omega
   ·have h5:=h4 (by omega);have h6:pos (now+d-gln ds k a)=0:=by
     by_cases e:0<=now+d-gln ds k a;·rw[(pos_in _).2.1 e];omega
     ·exact(pos_in _).2.2 (by omega)
    rw[qh (λq=>hc q.2),h2,h3,h6,(pos_in _).2.2 (show now-gln ds k a<=0 by omega),xbi];omega
  ·rw[qh (λq=>h1 q.1),h2,xbi];omega
structure GE(o:List Int)(ds:List (List Int))(p tm w:List Int)(now:Int):Prop where
 d0:gu (gK ds (gW o ds (gT o ds (gP ds w p now) tm now) w now))∣now
 dp:∀i,i<ds.length->gu (gK ds (gW o ds (gT o ds (gP ds w p now) tm now) w now))∣ (gP ds w p now).getD i 0
 fair:∀a,a<o.length->tm.getD a 0<0->gcl ds (gP ds w p now) a<=gcs o a
theorem gcl_zero(hf:Fld o ds){P:List Int}{a:Nat}(ha:a<o.length)(h:∀i,i<ds.length->P.getD i 0=0):∀k,k<=ds.length->gclN ds P a k=0
 |0,_=>rfl
 |k+1,hk=>by
  have:=gln_in hf (show k<ds.length by omega) ha;rw[gclN,gcl_zero hf ha h k (by omega),h k (by omega)];by_cases e:0<=0-gln ds k a;·rw[(pos_in _).2.1 e];omega
  ·rw[(pos_in _).2.2 (by omega)];omega
theorem GE.begin(hf:Fld o ds):GE o ds (List.replicate ds.length 0) (List.replicate o.length (-1)) (List.replicate ds.length (-1)) 0:=by
 have hz:∀i,i<ds.length->(gP ds (List.replicate ds.length (-1)) (List.replicate ds.length 0) 0).getD i 0=0:=λi hi=>by
  rw[gP_getD hi];split;·rfl
  ·rw[xd,xcl,qi hi];rfl
 refine⟨xgu _,λi hi=>by rw[hz i hi];exact xgu _,λa ha _=>?_⟩;have h1:=gcl_zero hf ha hz ds.length (xm _);have h2:=gcs_in hf ha;unfold gcl;omega
theorem cdiv_exact{s:Nat}{u x:Int}(hs:0<s)(h:((s:Int)*u)∣x):u∣ (x+(s:Int) -1) / (s:Int)/\(s:Int)*((x+(s:Int) -1) / (s:Int))=x/\x/ (s:Int)=(x+(s:Int) -1) / (s:Int):=by
 obtain⟨m,rfl⟩:=h;have e:((s:Int)*u*m+(s:Int) -1) / (s:Int)=u*m:=by rw[show(s:Int)*u*m+(s:Int) -1=((s:Int) -1)+(s:Int)*(u*m) by rw[xhd];omega,Int.add_mul_ediv_left _ _ (show(s:Int)≠0 by omega),Int.ediv_eq_zero_of_lt (by omega) (by omega),Int.zero_add]
 refine⟨by rw[e];exact Int.dvd_mul_right _ _,by rw[e,xhd],?_⟩;rw[e,xhd,Int.mul_ediv_cancel_left _ (show(s:Int)≠0 by omega)]
theorem GE.rest(hf:Fld o ds)(e:GE o ds p tm w now){a:Nat}:gu (gK ds (gW o ds (gT o ds (gP ds w p now) tm now) w now))∣gcs o a-gcl ds (gP ds w p now) a:=by have h7:=hf.clients;have hk:gK ds (gW o ds (gT o ds (gP ds w p now) tm now) w now)<=7:=xds (cntN_max _ _) (by omega);have hu:gu (gK ds (gW o ds (gT o ds (gP ds w p now) tm now) w now))∣2520:=gu_mono (xcm _) hk;refine Int.dvd_sub (xeu hu) (gclN_dvd (λi hi=>Int.dvd_sub (e.dp i hi) (xeu hu)) _ (xm _))
theorem GE.step(hf:Fld o ds)(_:GI o ds p tm w now)(e:GE o ds p tm w now){a:Nat}(hm:0<gmany ds (gW o ds (gT o ds (gP ds w p now) tm now) w now) now a):
  ((gmany ds (gW o ds (gT o ds (gP ds w p now) tm now) w now) now a:Int)*gu (gK ds (gW o ds (gT o ds (gP ds w p now) tm now) w now)+gmany ds (gW o ds (gT o ds (gP ds w p now) tm now) w now) now a))∣gcs o a-gcl ds (gP ds w p now) a:=by
 have h7:=hf.clients;have hk:gK ds (gW o ds (gT o ds (gP ds w p now) tm now) w now)+gmany ds (gW o ds (gT o ds (gP ds w p now) tm now) w now) now a<=7:=
  xds (xds (cntN_two (r:=λ_=>True) (λ_ _ _=>trivial) (λ_ _ _=>trivial) λi _ h1 h2=>h1 h2.1) (cntN_max _ _)) (by omega)
 exact xgl (gu_mul hm hk) (e.rest hf)
theorem GE.next(hf:Fld o ds)(h:GI o ds p tm w now)(e:GE o ds p tm w now){t:Int}(ht:gC o ds (gP ds w p now) (gT o ds (gP ds w p now) tm now) (gW o ds (gT o ds (gP ds w p now) tm now) w now) now t)
  (ai:∀t',gC o ds (gP ds w p now) (gT o ds (gP ds w p now) tm now) (gW o ds (gT o ds (gP ds w p now) tm now) w now) now t'->t<=t'):
  GE o ds (gP ds w p now) (gT o ds (gP ds w p now) tm now) (gW o ds (gT o ds (gP ds w p now) tm now) w now) t:=by
 have h7:=hf.clients;have aa:=λa=>e.step hf h (a:=a);have ar:=(h.later hf ht).1;have ae:=λa (ha:a<o.length)=>h.tight (a:=a) ha;have af:=λi (hi:i<ds.length)=>(h.price hi).2.2;have av:=λi (hi:i<ds.length)=>h.on (i:=i) hi;have e0:=e.d0;have ep:=e.dp;generalize hP:gP ds w p now=P at*;generalize hT:gT o ds P tm now=T at*;generalize hW:gW o ds T w now=W at*
 -- au that go on ay the time
 have aj:∀i,i<ds.length->W.getD i 0<0->P.getD i 0=now:=λi hi hw=>(af i hi).2 (av i hi hw).1;have ab:∀a,a<o.length->gcl ds (gP ds W P t) a=gcl ds P a+(gmany ds W now a:Int)*(t-now):=λa ha=>
  gclN_exact (by omega) _ (xm _) λi hi=>by
   by_cases hw:W.getD i 0<0;·refine .inl ⟨hw,aj i hi hw,by rw[gP_getD hi,qi hw];omega,λhl=>?_⟩;have:=ai _ (.inl ⟨i,hi,a,ha,hw,hl,rfl⟩);omega
   ·exact .inr ⟨hw,by rw[gP_getD hi,qh hw]⟩
 have ad:∀i,i<ds.length->¬W.getD i 0<0->¬(gW o ds (gT o ds (gP ds W P t) T t) W t).getD i 0<0:=λi hi hw=>by rw[gW_getD hi,qh hw];exact hw
 have ak:gK ds W<=gK ds (gW o ds (gT o ds (gP ds W P t) T t) W t):=cntN_le ad;have ah:gK ds (gW o ds (gT o ds (gP ds W P t) T t) W t)<=7:=xds (cntN_max _ _) (by omega);have al:gu (gK ds (gW o ds (gT o ds (gP ds W P t) T t) W t))∣t:=by
  rcases ht with⟨i,hi,a,ha,_,_,rfl⟩|⟨a,ha,k1,k2,k3⟩
  ·exact xeu (gu_mono (k:=0) (xcm _) ah)
  ·obtain⟨c1,c2,_⟩:=cdiv_exact k2 (aa a k2);have et:(gcs o a-gcl ds P a+(gmany ds W now a:Int) -1) / (gmany ds W now a:Int)=t-now:=by omega
   rw[et]at c1 c2;have aw:gK ds W+gmany ds W now a<=gK ds (gW o ds (gT o ds (gP ds W P t) T t) W t):=by
    refine cntN_two ad (λi hi hq=>?_) λi _ h1 h2=>h1 h2.1;rw[gW_getD hi,qi hq.1];intro az;rcases gB_in (ds:=ds) (tm:=gT o ds (gP ds W P t) T t) (now:=t) (i:=i) o.length with⟨_,k4⟩|⟨k4,_⟩
    ·refine k4 a ha ⟨?_,by have:=hq.2;omega⟩;rw[gT_getD ha,qi ⟨k1,by rw[ab a ha,c2];omega⟩];have:=h.n0;omega
    ·omega
   have d1:=xgl (gu_mono aw ah) c1;have d2:=xgl (gu_mono ak ah) e0;have:=Int.dvd_add d2 d1;rwa [show now+(t-now)=t by omega]at this
 refine⟨al,λi hi=>?_,λa ha ao=>?_⟩
 ·rw[gP_getD hi];split;·exact al
  ·exact xgl (gu_mono ak ah) (ep i hi)
 ·rw[ab a ha];have k1:=(ae a ha ao).2;by_cases hm:0<gmany ds W now a;·obtain⟨_,c2,_⟩:=cdiv_exact hm (aa a hm);have:=ai _ (.inr ⟨a,ha,ao,hm,rfl⟩);have h3:(gmany ds W now a:Int)*(t-now)<=(gmany ds W now a:Int)*((gcs o a-gcl ds P a+(gmany ds W now a:Int) -1) / (gmany ds W now a:Int)):=xch (by omega) (by omega);rw[c2]at h3;omega
  ·rw[show gmany ds W now a=0 by omega];simp only[Int.natCast_zero,Int.zero_mul];omega
end
end Go.Proofs.YtidaiohhaanphaaGreatDoor
