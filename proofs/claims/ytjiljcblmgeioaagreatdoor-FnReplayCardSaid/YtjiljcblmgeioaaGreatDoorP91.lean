/- A part of the proof that FnReplay hands back true, at every argument of the row. -/
import Derived.Test.YtjiljcblmgeioaaGreatDoorP89
import Derived.Lib.ItoaNum
import Derived.Lib.AtoiAllCases
namespace Go.Proofs.YtjiljcblmgeioaaGreatDoor
set_option linter.all false
def wK(ds:List (List Int))(n:Nat)(k:Int):List Int:=aV (eX ds) (uA n k)
theorem uH{n:Nat}(h1:1<=n)(h7:n<=7){k:Int}{s:List Int}(hs:s∈uA n k):Places s n/\(s.length:Int)=k/\0<s.length/\aK s:=by obtain⟨a,b⟩:=ofSz_mem.1 hs;obtain⟨c,d,e⟩:=cN h7 (oT h1 h7) a;exact⟨c,b,d,e⟩
theorem Js{ds:List (List Int)}{n:Nat}(h7:n<=7){k:Int}(hk:1<=k/\k<=(n:Int)):wK ds n k∈uA n k:=
 (dG (zK h7 hk.1 hk.2)).1
theorem Ut{o:List Int}{ds:List (List Int)}(hf:Fld o ds){k:Int}(hk:1<=k/\k<=(o.length:Int)):aDI o ds k=some (wK ds o.length k):=by
 have h7:=hf.len;have h1:=hf.pos;have hS:=oT h1 h7;obtain⟨x,e1,e2,e3⟩:=hS.im;have ab:=jV hS h7;have ak:x.1.length=(aO o.length).length:=by rw[<-e3,gZ]
 obtain⟨y,k1,k2,k3⟩:=rT (x:=x) e2 (by omega) (p:=λad=>Option.bind (MA ad.1 k) λae=>some ae) (q:=λs=> !decide ((s.length:Int)=k)) λs hs=>by rw[e3]at hs;obtain⟨p1,p2,p3⟩:=cN h7 hS hs;unfold aK at p3;show Option.bind (MA s k) _=_;unfold MA aGa;simp(disch:=omega)only[EV];by_cases h:(s.length:Int)=k<;>simp[h]
 have aa:bI y.1 y.2=uA o.length k:=by rw[k3,e3];unfold uA;congr 1;funext s;simp
 have al:y.1.length=(uA o.length k).length:=by rw[<-aa,gZ]
 have ai:=xaq.2 (zK h7 (k:=k) hk.1 hk.2);have aj:(uA o.length k).length<=(aO o.length).length:=xdt _ _;have hle:=vQ (x:=y) k2 (by omega) (by omega) (p:=λaf=>Option.bind (Jp o ds af.1) λah=>some ah) (g:=eX ds) λs hs=>by rw[aa]at hs;obtain⟨p1,_,p2,_⟩:=uH h1 h7 hs;show Option.bind (Jp o ds s) _=_;rw[sS hf p1 p2];rfl
 rw[aa]at hle;unfold aDI aFo wK;simp(disch:=omega)only[EV,e1,k1,hle]
theorem Jd{n:Nat}(h1:1<=n)(h7:n<=7){k:Int}(hk:1<=k/\k<=(n:Int))(g:List Int->Int):Bh (λs=>decide ((s.length:Int)=k)) g (aO n)=aV g (uA n k):=by rw[CQ (aO n) λs hs e=>by have:=(cN h7 (oT h1 h7) hs).2.1;rw[e]at this;simp at this];rw[qh (show¬(aO n).filter (λs=>decide ((s.length:Int)=k))=[]from zK h7 hk.1 hk.2)];rfl
theorem Sk{o:List Int}{ds:List (List Int)}(hf:Fld o ds){k:Int}(hk:1<=k/\k<=(o.length:Int)):aBp o ds k=some (wK ds o.length k):=by
 have h7:=hf.len;have aa:=hf.pos;have hS:=oT (n:=o.length) aa h7;have ad:=jV hS h7;have h0:=dP (f:=λv=>(Cw (k,aO o.length,o,ds) v).ev) (aO o.length) [] (mk:=λi s=>(s,(i:Int))) (I:=λ_ s=>s=[]\/s∈uA o.length k)
  (g:=λc s=>if decide ((s.length:Int)=k)=true/\(c=[]\/eX ds s<eX ds c)then s else c) (fin:=λs=>s) (s0:=[]) (.inl rfl)
  (λi s hi hI=>by
   have ab:(aO o.length).getD i []∈aO o.length:=aG hi;obtain⟨p1,p2,_⟩:=cN h7 hS ab;have e1:=nO hf p1 p2;by_cases hv:(((aO o.length).getD i []).length:Int)=k
   ·have ae:(aO o.length).getD i []∈uA o.length k:=ofSz_mem.2 ⟨ab,hv⟩;have hq:((((aO o.length).getD i []).length:Int)==k)=true:=beq_iff_eq.2 hv;refine⟨?_,?_⟩
    ·rcases hI with rfl|hs;·have hz:(((List.length ([]:List Int):Nat):Int)==0)=true:=rfl;simp(disch:=omega)only[EV,Cw,hi,hq,hz];rw[qi ⟨by simpa using hv,.inl trivial⟩];rfl
     ·obtain⟨q1,q2,q3,_⟩:=uH aa h7 hs;have hz:(((s.length:Nat):Int)==0)=false:=beq_eq_false_iff_ne.2 (by omega);have af:s≠ []:=λe=>by rw[e]at q3;simp at q3
      have e2:=nO hf q1 q3;by_cases hc:eX ds ((aO o.length).getD i [])<eX ds s;·simp(disch:=omega)only[EV,Cw,hi,hq,hz,e1,e2,hc];rw[qi ⟨by simpa using hv,.inr trivial⟩];rfl
      ·simp(disch:=omega)only[EV,Cw,hi,hq,hz,e1,e2,hc];rw[qh (λh=>h.2.elim af id)];rfl
    ·split;·exact .inr ae
     ·exact hI
   ·have hq:((((aO o.length).getD i []).length:Int)==k)=false:=beq_eq_false_iff_ne.2 hv;rw[qh (λh=>hv (by simpa using h.1))];exact⟨by simp(disch:=omega)only[EV,Cw,hi,hq];rfl,hI⟩)
  (λs _=>by simp(disch:=omega)only[EV,Cw,xi])
 have h1:aHG (k,aO o.length,o,ds) (([]:List Int),(0:Int))=some (Bh (λs=>decide ((s.length:Int)=k)) (eX ds) (aO o.length)):=h0.1;rw[Jd aa h7 hk]at h1;unfold aBp aFd wK;simp(disch:=omega)only[EV,hS.sp,h1]
def aJ(s:List UInt8):Prop:=(s.length:Int)<=1048576
def vI(c:UInt8):Bool:=decide (32<=c.toNat)&&(decide (c.toNat<=126)&& !(c.toNat==35))
def jC(s:List UInt8)(most:Int):Bool:=s.all vI&&decide ((s.length:Int)<=most)
def aX(s:List UInt8)(b:Nat):Bool:=s.any λc=>c.toNat==b
def bQ(c r:List UInt8):Bool:= !(c==[])&&(jC c 160&&(!aX c 64&&jC r 200))
theorem j9(a b:Nat):(((a:Nat):Int)==((b:Nat):Int))=(a==b):=by rw[JN,qg,qg];omega
theorem Z1(c:UInt8):c.toNat<256:=c.toNat_lt
theorem wJ(s:List UInt8)(p:UInt8->Bool):((List.range s.length).all λi=>p (s.getD i 0))=s.all p:=wU s 0 p
theorem xZ{s:List UInt8}(hs:aJ s)(m:Int):QL s m=some (jC s m):=by
 unfold aJ at hs;have h0:aHs (s,m) 0=_:=bB (f:=λv=>(Za (s,m) v).ev) (n:=s.length) (mk:=λi=>(i:Int)) (p:=λi=>vI (s.getD i 0)) (yes:=.inl ()) (no:=.inr ()) (λi hi _=>by
  have hb:=Z1 (s.getD i 0);have aa:(((s.getD i 0).toNat:Int)==35)=((s.getD i 0).toNat==35):=j9 _ 35;simp(disch:=omega)only[EV,Za,hi,fM,aa];unfold vI bX;by_cases h1:32<=(s.getD i 0).toNat<;>by_cases h2:(s.getD i 0).toNat<=126<;>cases h3:((s.getD i 0).toNat==35)<;>
   simp only[h1,h2,decide_true,decide_false,Gq,xgc,xl,nE,qa,qb,show(32:Int)<=((s.getD i 0).toNat:Int)↔32<=(s.getD i 0).toNat by omega,show((s.getD i 0).toNat:Int)<=126↔(s.getD i 0).toNat<=126 by omega]<;>rfl) (by simp(disch:=omega)only[EV,Za,xi])
 rw[wJ s vI]at h0;unfold QL aDr jC;simp(disch:=omega)only[EV,h0];cases s.all vI<;>rfl
theorem n9{s:List UInt8}(hs:aJ s)(m:Int):LK s m=some (jC s m):=by
 unfold aJ at hs;have h0:aIP (s,m,(s.length:Int)) 0=_:=bB (f:=λv=>(Yf (s,m,(s.length:Int)) v).ev) (n:=s.length) (mk:=λi=>(i:Int)) (p:=λi=>vI (s.getD i 0)) (yes:=.inl ()) (no:=.inr ()) (λi hi _=>by
  have ad:(((s.getD i 0).toNat:Int)==35)=((s.getD i 0).toNat==35):=j9 _ 35;simp(disch:=omega)only[EV,Yf,hi,ad];unfold vI;by_cases h1:32<=(s.getD i 0).toNat
  ·have aa:¬((s.getD i 0).toNat:Int)<32:=by omega
   by_cases h2:(s.getD i 0).toNat<=126
   ·have ab:¬(126:Int)<((s.getD i 0).toNat:Int):=by omega
    simp only[h1,h2,aa,ab,decide_true,if_false,Gq];cases((s.getD i 0).toNat==35)<;>rfl
   ·have ab:(126:Int)<((s.getD i 0).toNat:Int):=by omega
    simp only[h1,h2,aa,ab,decide_true,decide_false,if_false,if_true,Gq,xgc,qb]
  ·have aa:((s.getD i 0).toNat:Int)<32:=by omega
   simp only[h1,aa,decide_false,if_true,xgc,qb]) (by simp(disch:=omega)only[EV,Yf,xi])
 rw[wJ s vI]at h0;unfold LK aAg jC;simp(disch:=omega)only[EV,h0];cases s.all vI<;>rfl
theorem Bo{s:List UInt8}(hs:(s.length:Int)<9223372036854775807)(b:Nat):MN s (b:Int)=some (aX s b):=by have h0:aJf (s,(b:Int)) 0=_:=bB (f:=λv=>(Ww (s,(b:Int)) v).ev) (n:=s.length) (mk:=λi=>(i:Int)) (p:=λi=> !((s.getD i 0).toNat==b)) (yes:=.inl ()) (no:=.inr ()) (λi hi _=>by simp(disch:=omega)only[EV,Ww,hi,j9];cases((s.getD i 0).toNat==b)<;>rfl) (by simp(disch:=omega)only[EV,Ww,xi]);rw[wJ s λc=> !(c.toNat==b)]at h0;unfold MN ZQ aX;simp(disch:=omega)only[EV,h0];rw[xfb];cases s.all λc=> !(c.toNat==b)<;>rfl
theorem pI(c:UInt8):∀s:List UInt8,-1<=Lib.indexByte s c/\(Lib.indexByte s c= -1↔∀x∈s,x≠c)
 | []=>by simp[Lib.indexByte]
 |b::l=>by
  obtain⟨h1,h2⟩:=pI c l;unfold Lib.indexByte;by_cases hb:b=c;·subst hb;simp
  ·have e:(b==c)=false:=by simpa using hb
   rw[e];by_cases h:Lib.indexByte l c= -1
   ·have e2:(Lib.indexByte l c== -1)=true:=by simp[h]
    rw[e2];simp only[tJ,if_false,if_true];refine⟨by omega,⟨λ_ x hx=>?_,λ_=>trivial⟩⟩;rcases xae.1 hx with rfl|hx;·exact hb
    ·exact h2.1 h x hx
   ·have e2:(Lib.indexByte l c== -1)=false:=by simpa using h
    rw[e2];simp only[tJ,if_false];refine⟨by omega,⟨λh3=>by omega,λh3=>absurd (h2.2 λx hx=>h3 x (xr _ hx)) h⟩⟩
theorem aIh(b:UInt8):((b.toNat:Int)).toNat.toUInt8=b:=by rw[xx];exact UInt8.ofNat_toNat
theorem Fp(s:List UInt8)(b:UInt8):decide (0<=jM s (b.toNat:Int))=aX s b.toNat:=by
 unfold jM aX;rw[aIh];obtain⟨h1,h2⟩:=pI b s;rw[JN,qe,xbg];constructor
 ·intro h;have h3:¬ ∀x∈s,x≠b:=λh4=>by have:=h2.2 h4;omega
  simp only[Classical.not_forall]at h3;obtain⟨x,hx,hn⟩:=h3;exact⟨x,hx,by rw[qg];exact congrArg UInt8.toNat (Classical.not_not.1 hn)⟩
 ·rintro⟨x,hx,he⟩;have aa:Lib.indexByte s b≠ -1:=λh=>h2.1 h x hx (xez.1 (beq_iff_eq.1 he));omega
theorem H8(s:List UInt8)(b:UInt8):bD s [b]=some (if[b]==s then 0 else jM s (b.toNat:Int)):=by unfold bD cF bE bF bM;have e0:(((List.length [b]:Nat):Int)==0)=false:=rfl;have e1:(((List.length [b]:Nat):Int)==1)=true:=rfl;have e2:aC (0:Int) (List.length [b])=true:=rfl;have e3:List.getD [b] (Int.toNat 0) 0=b:=rfl;simp(disch:=omega)only[EV,e0,e1,e2,e3];cases([b]==s)<;>rfl
theorem FT(s:List UInt8)(b:UInt8):decide ((0:Int)<=if[b]==s then 0 else jM s (b.toNat:Int))=aX s b.toNat:=by
 cases h:([b]==s)with
 |false=>simpa using Fp s b
 |true=>have:=beq_iff_eq.1 h;subst this;simp[aX]
theorem jP(s:List UInt8)(b:UInt8):Ej s [b]=some (aX s b.toNat):=by unfold Ej YK aHr aBO;simp(disch:=omega)only[EV,H8];rw[FT]
theorem jN{c r:List UInt8}(hc:aJ c)(hr:aJ r):EE c r=some (bQ c r):=by have h:=hc;unfold aJ at h;unfold EE YX bQ;have aa:MN c (64:Int)=some (aX c 64):=Bo (by omega) 64;simp(disch:=omega)only[EV,xZ hc,xZ hr,aa];cases(c==[])<;>cases jC c 160<;>cases aX c 64<;>rfl
theorem fC{c r:List UInt8}(hc:aJ c)(hr:aJ r):Yj c r=some (bQ c r):=by unfold Yj aDs bQ;have aa:Ej c [64]=some (aX c 64):=jP c 64;simp(disch:=omega)only[EV,n9 hc,n9 hr,aa];cases(c==[])<;>cases jC c 160<;>cases aX c 64<;>cases jC r 200<;>rfl
section
open Go
theorem IL:∀i:Fin 10,List.drop i.val (List.take (i.val+1) ([48,49,50,51,52,53,54,55,56,57]:List UInt8))=[UInt8.ofNat (48+i.val)]:=by decide+kernel
theorem aHb{u:Nat}(h:u<10):List.drop u (List.take (u+1) ([48,49,50,51,52,53,54,55,56,57]:List UInt8))=[UInt8.ofNat (48+u)]:=IL ⟨u,h⟩
theorem X1:∀(k u:Nat),u<10^(k+1)->Lib.nDigits u<=k+1
 |0,u,h=>by rw[Lib.nDigits_small (by simpa using h)];omega
 |k+1,u,h=>by
  by_cases aa:u<10;·rw[Lib.nDigits_small aa];omega
  ·rw[Lib.nDigits_big aa];have:=X1 k (u/ 10) (by rw[Nat.pow_succ]at h;omega);omega
theorem Nb{u:Nat}(h:u<10000000):Lib.nDigits u<=7:=X1 6 u (by simpa using h)
theorem uJ{u:Nat}{b:UInt8}(h:b∈Lib.decDigits u):48<=b.toNat/\b.toNat<=57:=by
 induction u using Nat.strongRecOn with
 |_ u ih=>
  have one:∀i,i<10->∀b∈ [UInt8.ofNat (48+i)],48<=b.toNat/\b.toNat<=57:=by intro i hi b hb;obtain rfl:=xo.1 hb;rw[xgd];omega
  rw[Lib.decDigits]at h;split at h
  next aa=>exact one u aa b h
  next aa=>
   rcases xp.1 h with h|h;·exact ih (u/ 10) (by omega) h
   ·exact one (u % 10) (by omega) b h
theorem aBW(u:Nat):Int.tdiv (u:Int) 10=((u/ 10:Nat):Int):=by rw[xeo (by omega)];omega
theorem aDJ(u:Nat):Int.tmod (u:Int) 10=((u % 10:Nat):Int):=by rw[xcp (by omega)];omega
theorem wG:∀(m u:Nat),u<10000000->Lib.nDigits u<=m->qQ m (u:Int)=some (Lib.decDigits u)
 |0,u,_,h=>absurd (Lib.nDigits_pos u) (by omega)
 |m+1,u,hu,h=>by
  show(Sj (qQ m) (u:Int)).ev=_;unfold Sj;have e0:decide ((u:Int)<0)=false:=by simp;
  by_cases aa:u<10
  ·have h1:decide ((u:Int)<10)=true:=by simp;omega
   have e1:IntKind.wrap .i64 ((u:Int)+1)=((u+1:Nat):Int):=by rw[aN (by omega) (by omega)];omega
   have e2:(decide ((0:Int)<=(u:Int))&&decide ((u:Int)<=((u+1:Nat):Int))&&decide (((u+1:Nat):Int)<=((List.length ([48,49,50,51,52,53,54,55,56,57]:List UInt8):Nat):Int)))=true:=by simp only[xf,qe,xk,xy];omega
   rw[e1];simp(disch:=omega)only[EV,e0,h1,e2,xx,aHb aa];rw[Lib.decDigits_one aa]
  ·have h1:decide ((u:Int)<10)=false:=by simp;omega
   have ih:=wG m (u/ 10) (by omega) (by rw[Lib.nDigits_big aa]at h;omega);have hm:u % 10<10:=by omega
   have e1:IntKind.wrap .i64 (((u % 10:Nat):Int)+1)=((u % 10+1:Nat):Int):=by rw[aN (by omega) (by omega)];omega
   have e2:(decide ((0:Int)<=((u % 10:Nat):Int))&&decide (((u % 10:Nat):Int)<=((u % 10+1:Nat):Int))&&decide (((u % 10+1:Nat):Int)<=((List.length ([48,49,50,51,52,53,54,55,56,57]:List UInt8):Nat):Int)))=true:=by simp only[xf,qe,xk,xy];omega
   have e3:IntKind.wrap .i64 ((u/ 10:Nat):Int)=((u/ 10:Nat):Int):=aN (by omega) (by omega);have hl:(Lib.decDigits (u/ 10)).length<=7:=by rw[Lib.decDigits_length];exact Nb (by omega)
   have e4:List.length (Lib.decDigits (u/ 10))+List.length [UInt8.ofNat (48+u % 10)]<=9223372036854775807:=by simp;omega
   rw[aBW,aDJ,e1,e3];have ez:decide ((10:Int)=0)=false:=rfl;simp(disch:=omega)only[EV,e0,h1,e2,ih,xx,aHb hm,e4,ez];rw[Lib.decDigits.eq_def u,dif_neg aa]
theorem oU{k:Int}(h0:0<=k)(h1:k<10000000):qQ 1000000 k=some (Lib.decDigits k.toNat):=by have:=wG 1000000 k.toNat (by omega) (JZ (Nb (by omega)) (by omega));rw[show((k.toNat:Nat):Int)=k by omega]at this;exact this
theorem zJ{k:Int}(h0:0<=k)(h1:k<10000000):pL k=some (Lib.decDigits k.toNat):=by
 unfold pL L5 Mu Lib.itoa;have e:(decide (-9223372036854775808<=k)&&decide (k<=9223372036854775807))=true:=by simp only[xf,qe];omega
 rw[qi e,qh (by omega)]
def iK(h:Int)(c:UInt8):Int:=Int.tmod (41*h+(c.toNat:Int)+1) 999979
def chk(s:List UInt8):Int:=s.foldl iK 7
theorem tB{h:Int}(h0:0<=h)(c:UInt8):0<=iK h c/\iK h c<999979:=by unfold iK;rw[xcp (by omega)];omega
theorem Y5(s:List UInt8):0<=chk s/\chk s<999979:=by
 have:∀(s:List UInt8) (h:Int),0<=h->h<999979->0<=s.foldl iK h/\s.foldl iK h<999979:=by
  intro s;induction s with
  |nil=>intro h a b;exact⟨a,b⟩
  |cons c s ih=>intro h a b;obtain⟨x,y⟩:=tB a c;exact ih _ x y
 exact this s 7 (by omega) (by omega)
theorem Wv{s:List UInt8}(hs:aJ s):aFX s=some (chk s):=by unfold aJ at hs;have h0:aLv s ((7:Int),(0:Int))=_:=(dP (f:=λv=>(Yd s v).ev) s (0:UInt8) (λi (h:Int)=>(h,(i:Int))) (λ_ h=>0<=h/\h<999979) iK (λh=>h) (s0:=7) ⟨by omega,by omega⟩ (λi h hi ⟨a,b⟩=>by have hb:=Z1 (s.getD i 0);refine⟨?_,tB a _⟩;simp(disch:=omega)only[EV,Yd,hi];unfold iK;rfl) (λh _=>by simp(disch:=omega)only[EV,Yd,xi])).1;unfold aFX aBG chk;simp(disch:=omega)only[EV,h0]
theorem xR{s:List UInt8}(hs:aJ s):aFb s=some (chk s):=by unfold aJ at hs;have h0:aHl (s,(s.length:Int)) ((7:Int),(0:Int))=_:=(dP (f:=λv=>(DG (s,(s.length:Int)) v).ev) s (0:UInt8) (λi (h:Int)=>(h,(i:Int))) (λ_ h=>0<=h/\h<999979) iK (λh=>h) (s0:=7) ⟨by omega,by omega⟩ (λi h hi ⟨a,b⟩=>by have hb:=Z1 (s.getD i 0);refine⟨?_,tB a _⟩;simp(disch:=omega)only[EV,DG,hi];unfold iK;rfl) (λh _=>by simp(disch:=omega)only[EV,DG,xi])).1;unfold aFb aBh chk;simp(disch:=omega)only[EV,h0]
end
section
open Go
def cB(b:Nat)(s:List UInt8):List UInt8:=s.takeWhile λc=> !(c.toNat==b)
def o9(b:Nat)(s:List UInt8):List UInt8:=s.drop ((cB b s).length+1)
theorem mR(a c:List UInt8)(b:Nat):aX (a++c) b=(aX a b||aX c b):=xhb
theorem U2(b:Nat)(s:List UInt8):(cB b s).length<=s.length:=(List.takeWhile_sublist _).length_le
theorem nF{b:Nat}{a r:List UInt8}{c:UInt8}(h:aX a b=false)(hc:c.toNat=b):cB b (a++c::r)=a:=by
 unfold cB;induction a with
 |nil=>simp[hc]
 |cons x a ih=>unfold aX at h;simp only[xet,xcy]at h;rw[No,xfu,h.1,nE,qi rfl,ih h.2]
theorem Ma{b:Nat}{a r:List UInt8}{c:UInt8}(h:aX a b=false)(hc:c.toNat=b):o9 b (a++c::r)=r:=by unfold o9;rw[nF h hc,show a++c::r=(a++ [c])++r by simp,xhc (by simp)]
theorem Io{b:Nat}{s:List UInt8}(h:aX s b=false):cB b s=s:=by
 unfold cB aX at*;induction s with
 |nil=>rfl
 |cons x s ih=>simp only[xet,xcy]at h;rw[xfu,h.1,nE,qi rfl,ih h.2]
theorem wN{b:Nat}{s:List UInt8}(h:aX s b=true):∃c:UInt8,c.toNat=b/\s=cB b s++c::o9 b s/\aX (cB b s) b=false:=by
 induction s with
 |nil=>simp[aX]at h
 |cons x s ih=>
  cases hx:(x.toNat==b)with
  |true=>
   refine⟨x,by simpa using hx,?_,?_⟩;·simp[cB,o9,hx]
   ·simp[cB,hx,aX]
  |false=>
   have h':aX s b=true:=by unfold aX at h⊢;rw[xet,hx,xei]at h;exact h
   obtain⟨c,h1,h2,h3⟩:=ih h';have e:cB b (x::s)=x::cB b s:=by simp[cB,hx]
   refine⟨c,h1,?_,?_⟩
   ·have e2:o9 b (x::s)=o9 b s:=by unfold o9;rw[e,xk];rfl
    rw[e,e2,No,<-h2]
   ·rw[e];unfold aX at h3⊢;rw[xet,hx,xei];exact h3
theorem j6{b:Nat}{s:List UInt8}(h:aX s b=true):(cB b s).length<s.length:=by obtain⟨c,_,h2,_⟩:=wN h;have:=congrArg List.length h2;simp only[xj,xk]at this;omega
theorem AE(b:Nat)(s:List UInt8):s.take (cB b s).length=cB b s:=by
 unfold cB;induction s with
 |nil=>rfl
 |cons x s ih=>
  rw[xfu];split;·rw[xk,List.take_succ_cons,ih]
  ·rfl
theorem Px{b:Nat}{s:List UInt8}{c:UInt8}(h:aX s b=true)(hc:c.toNat=b):s.take ((cB b s).length+1)=cB b s++ [c]:=by obtain⟨c',h1,h2,h3⟩:=wN h;have:c'=c:=xez.1 (h1.trans hc.symm);subst this;generalize hb:cB b s=p at*;rw[h2,xgn,Gg (by omega)];simp
theorem rS(c:UInt8):∀s:List UInt8,Lib.indexByte s c=if aX s c.toNat then((cB c.toNat s).length:Int)else-1
 | []=>rfl
 |x::s=>by
  have ih:=rS c s;unfold Lib.indexByte;have e:(x==c)=(x.toNat==c.toNat):=by rw[JN,qg,qg,xez]
  rw[e];cases hx:(x.toNat==c.toNat)with
  |true=>simp[aX,hx,cB]
  |false=>
   have e1:aX (x::s) c.toNat=aX s c.toNat:=by simp[aX,hx]
   have e2:cB c.toNat (x::s)=x::cB c.toNat s:=by simp[cB,hx]
   rw[e1,e2];simp only[tJ,if_false];rw[ih];cases aX s c.toNat with
   |true=>simp
   |false=>simp
theorem xJ(s:List UInt8)(c:UInt8):jM s (c.toNat:Int)=if aX s c.toNat then((cB c.toNat s).length:Int)else-1:=by unfold jM;rw[aIh];exact rS c s
theorem W8(s:List UInt8)(c:UInt8):OD s (c.toNat:Int)=some (if aX s c.toNat then((cB c.toNat s).length:Int)else-1):=by unfold OD aBN bE bF bM;simp(disch:=omega)only[EV,xJ]
theorem aBy{s:List UInt8}(hs:aJ s)(c:UInt8):R8 s [c]=some (if aX s c.toNat then(cB c.toNat s,o9 c.toNat s,true)else(s,[],false)):=by
 unfold aJ at hs;have e:bD s [c]=some (if aX s c.toNat then((cB c.toNat s).length:Int)else-1):=by
  rw[H8,xJ];cases h:([c]==s)with
  |false=>rfl
  |true=>have:=beq_iff_eq.1 h;subst this;simp[aX,cB]
 unfold R8 aFi eN cV;cases h:aX s c.toNat with
 |false=>rw[h]at e;have:decide ((0:Int)<= -1)=false:=rfl;simp only[tJ,if_false]at e;simp(disch:=omega)only[EV,e,this,h];rfl
 |true=>
  rw[h]at e;simp only[if_true]at e;have hl:=j6 h;have e1:decide ((0:Int)<=((cB c.toNat s).length:Int))=true:=by simp
  have e2:decide (((cB c.toNat s).length:Int)<=(s.length:Int))=true:=by simp;omega
  have e3:IntKind.wrap .i64 (((cB c.toNat s).length:Int)+((List.length [c]:Nat):Int))=(((cB c.toNat s).length+1:Nat):Int):=by rw[aN]<;>simp<;>omega
  have e4:(decide ((0:Int)<=(((cB c.toNat s).length+1:Nat):Int))&&decide ((((cB c.toNat s).length+1:Nat):Int)<=(s.length:Int)))=true:=by simp only[xf,qe];omega
  rw[e];simp(disch:=omega)only[EV,e1,e2];rw[e3];simp(disch:=omega)only[EV,e4,xx];rw[AE,sX];rfl
def fY(k:Int)(c r:List UInt8):List UInt8:=(((Lib.decDigits k.toNat++ [32])++c)++ [64])++r
def gY(s:List UInt8):List UInt8:=(s++ [35])++Lib.decDigits (chk s).toNat
def line(k:Int)(c r:List UInt8):List UInt8:=gY (fY k c r)++ [10]
def Vs(k:Int)(c r:List UInt8):Bool:=bX k 0 59&&bQ c r
def Iz(k:Int)(c r:List UInt8):List UInt8×Bool:=if Vs k c r then(line k c r,true)else([],false)
theorem fN{u:Nat}(h:u<10000000):(Lib.decDigits u).length<=7:=by rw[Lib.decDigits_length];exact Nb h
theorem zH(s:List UInt8):(chk s).toNat<10000000:=by have:=Y5 s;omega
theorem vJ(s:List UInt8):(gY s).length<=s.length+8:=by have:=fN (zH s);unfold gY;simp only[xj,xk,xy];omega
theorem zE{u b:Nat}(h:b<48\/57<b):aX (Lib.decDigits u) b=false:=by unfold aX;rw[Wm];intro x hx;have:=uJ hx;simp only[qg];omega
theorem dN{c r:List UInt8}(h:bQ c r=true):aX c 35=false/\aX r 35=false/\aX c 64=false/\aX c 10=false/\aX r 10=false/\c.length<=160/\r.length<=200:=by
 unfold bQ jC at h;simp only[xf,D9,qe,xt]at h;obtain⟨_,⟨h1,h2⟩,h3,h4,h5⟩:=h;have key:∀s:List UInt8,(∀x∈s,vI x=true)->aX s 35=false/\aX s 10=false:=by
  intro s hs;unfold aX;rw[Wm,Wm];constructor<;>intro x hx<;>have:=hs x hx<;>unfold vI at this<;>simp only[xf,qe,D9,qf]at this<;>simp only[qg];·exact this.2.2
  ·omega
 exact⟨(key c h1).1,(key r h4).1,h3,(key c h1).2,(key r h4).2,by omega,by omega⟩
theorem tO{k:Int}{c r:List UInt8}(hk:bX k 0 59=true):(fY k c r).length<=9+c.length+r.length:=by unfold bX at hk;simp only[xf,qe]at hk;have:=fN (u:=k.toNat) (by omega);unfold fY;simp only[xj,xk,xy];omega
theorem nS{k:Int}{c r:List UInt8}(h:bQ c r=true):aX (fY k c r) 35=false:=by obtain⟨h1,h2,_⟩:=dN h;unfold fY;simp only[mR,h1,h2,zE (u:=k.toNat) (b:=35) (by omega),xeh,xei];rfl
theorem Cl{s:List UInt8}(h:aX s 35=false):cB 35 (gY s)=s:=by unfold gY;rw[Yi];exact nF h rfl
theorem Iw(k:Int)(c r:List UInt8):cB 32 (fY k c r)=Lib.decDigits k.toNat/\o9 32 (fY k c r)=c++64::r/\aX (fY k c r) 32=true:=by
 have e:fY k c r=Lib.decDigits k.toNat++32::(c++64::r):=by simp[fY]
 rw[e];have h:=zE (u:=k.toNat) (b:=32) (by omega);exact⟨nF h rfl,Ma h rfl,by rw[mR];simp[aX]⟩
theorem Aq{c r:List UInt8}(h:aX c 64=false):cB 64 (c++64::r)=c/\o9 64 (c++64::r)=r/\aX (c++64::r) 64=true:=
 ⟨nF h rfl,Ma h rfl,by rw[mR];simp[aX]⟩
theorem Vz{s:List UInt8}(hs:(s.length:Int)<=1000000):KA s=some (gY s):=by
 have h:=Y5 s;have hd:=fN (zH s);have e0:List.length s+List.length ([35]:List UInt8)<=9223372036854775807:=by simp;omega
 have e1:List.length (s++([35]:List UInt8))+(Lib.decDigits (chk s).toNat).length<=9223372036854775807:=by simp;omega
 unfold KA aFF gY;simp(disch:=omega)only[EV,Wv (by unfold aJ;omega:aJ s),oU h.1 (by omega),e0,e1]
theorem lQ{s:List UInt8}(hs:s.length<=3000)(aa:aX s 35=false):W6 s=some (gY s,true):=by
 have h:=Y5 s;have hd:=fN (zH s);have e0:List.length s+List.length ([35]:List UInt8)<=9223372036854775807:=by simp;omega
 have e1:List.length (s++([35]:List UInt8))+(Lib.decDigits (chk s).toNat).length<=9223372036854775807:=by simp;omega
 have e2:¬(4000:Int)<(s.length:Int):=by omega
 have e3:¬(4000:Int)<((List.length ((s++([35]:List UInt8))++Lib.decDigits (chk s).toNat):Nat):Int):=by simp only[xj,xk,xy];omega
 have e4:Ej s ([35]:List UInt8)=some (aX s 35):=jP s 35;unfold W6 Qt gY;simp(disch:=omega)only[EV,xR (by unfold aJ;omega:aJ s),zJ h.1 (by omega),e0,e1,e2,e3,e4,aa]
theorem sA{s:List UInt8}(hs:aJ s):∃x,W6 s=some x:=by
 by_cases h1:(4000:Int)<(s.length:Int);·unfold W6 Qt;simp(disch:=omega)only[EV,h1];exact⟨_,rfl⟩
 ·cases aa:aX s 35 with
  |true=>have e4:Ej s ([35]:List UInt8)=some (aX s 35):=jP s 35;unfold W6 Qt;simp(disch:=omega)only[EV,h1,e4,aa];exact⟨_,rfl⟩
  |false=>
   have h:=Y5 s;have hd:=fN (zH s);have e0:List.length s+List.length ([35]:List UInt8)<=9223372036854775807:=by simp;omega
   have e1:List.length (s++([35]:List UInt8))+(Lib.decDigits (chk s).toNat).length<=9223372036854775807:=by simp;omega
   have e4:Ej s ([35]:List UInt8)=some (aX s 35):=jP s 35;unfold W6 Qt;simp(disch:=omega)only[EV,xR hs,zJ h.1 (by omega),e0,e1,h1,e4,aa];split<;>exact⟨_,rfl⟩
theorem sF{k:Int}{c r:List UInt8}(hk:bX k 0 59=true)(hc:(c.length:Int)<=100000)(hr:(r.length:Int)<=100000):OY k c r=some (line k c r):=by
 have hl:=tO (c:=c) (r:=r) hk;have hs:=vJ (fY k c r);unfold bX at hk;simp only[xf,qe]at hk;have hd:=fN (u:=k.toNat) (by omega);have e1:List.length (Lib.decDigits k.toNat)+List.length ([32]:List UInt8)<=9223372036854775807:=by simp;omega
 have e2:List.length (Lib.decDigits k.toNat++([32]:List UInt8))+List.length c<=9223372036854775807:=by simp;omega
 have e3:List.length ((Lib.decDigits k.toNat++([32]:List UInt8))++c)+List.length ([64]:List UInt8)<=9223372036854775807:=by simp only[xj,xk,xy];omega
 have e4:List.length (((Lib.decDigits k.toNat++([32]:List UInt8))++c)++([64]:List UInt8))+List.length r<=9223372036854775807:=by simp only[xj,xk,xy];omega
 have e5:KA ((((Lib.decDigits k.toNat++([32]:List UInt8))++c)++([64]:List UInt8))++r)=some (gY (fY k c r)):=Vz (s:=fY k c r) (by omega);have e6:List.length (gY (fY k c r))+List.length ([10]:List UInt8)<=9223372036854775807:=by simp;omega
 unfold OY aCT;simp(disch:=omega)only[EV,oU hk.1 (by omega),e1,e2,e3,e4,e5,e6];rfl
theorem kI{k:Int}{c r:List UInt8}(hc:aJ c)(hr:aJ r):LZ k c r=some (Iz k c r):=by
 unfold LZ aBX Iz Vs;simp(disch:=omega)only[EV,dI,fC hc hr];cases h1:bX k 0 59 with
 |false=>rfl
 |true=>
  cases h2:bQ c r with
  |false=>rfl
  |true=>
   obtain⟨_,_,_,_,_,a,b⟩:=dN h2;have hl:=tO (c:=c) (r:=r) h1;have hs:=vJ (fY k c r);have hk:=h1;unfold bX at hk;simp only[xf,qe]at hk;have hd:=fN (u:=k.toNat) (by omega);have e1:List.length (Lib.decDigits k.toNat)+List.length ([32]:List UInt8)<=9223372036854775807:=by simp;omega
   have e2:List.length (Lib.decDigits k.toNat++([32]:List UInt8))+List.length c<=9223372036854775807:=by simp;omega
   have e3:List.length ((Lib.decDigits k.toNat++([32]:List UInt8))++c)+List.length ([64]:List UInt8)<=9223372036854775807:=by simp only[xj,xk,xy];omega
   have e4:List.length (((Lib.decDigits k.toNat++([32]:List UInt8))++c)++([64]:List UInt8))+List.length r<=9223372036854775807:=by simp only[xj,xk,xy];omega
   have e5:W6 ((((Lib.decDigits k.toNat++([32]:List UInt8))++c)++([64]:List UInt8))++r)=some (gY (fY k c r),true):=lQ (s:=fY k c r) (by omega) (nS h2);have e6:List.length (gY (fY k c r))+List.length ([10]:List UInt8)<=9223372036854775807:=by simp;omega
   simp(disch:=omega)only[EV,zJ hk.1 (by omega),e1,e2,e3,e4,e5,e6];rfl
end
theorem o0{l:List Int}(hl:aK l):A6 l=some l:=by unfold aK at hl;unfold A6 sC;rw[qi (by omega)]
theorem Re{f:Int×List (List Int)->Option ((Int×List (List Int))⊕List (List Int))}{x:List (List Int)}
  (aa:∀i:Nat,i<x.length->f ((i:Int),x.take i)=some (.inl (((i+1:Nat):Int),x.take i++ [x.getD i []]))) (ab:f ((x.length:Int),x)=some (.inr x)):aB f (0,[])=some x:=by
 have:=(aR (f:=f) (n:=x.length) (mk:=λi (_:Unit)=>((i:Int),x.take i)) (I:=λ_ _=>True) (g:=λs _=>s) (fin:=λ_=>x) (s0:=()) trivial
  (λi s hi _=>⟨by rw[aa i hi,dK [] hi],trivial⟩)
  (λs _=>by rw[sX,ab])).1
 simpa using this
theorem FF{α:Type}(l:List α)(a b:α):(l++ [a]).set l.length b=l++ [b]:=by simp
theorem Z4{ds:List (List Int)}(hd:eP ds):EP ds=some ds:=by
 unfold EP MK;have hl:=hd.1;have h0:=Re (f:=λv=>(Cv (ds,((ds.length:Nat):Int)) v).ev) (x:=ds)
  (λi hi=>by
   have ht:(ds.take i).length<=i:=xfv _ _;have hg:((ds.take i).length+1)*24<=140737488355328:=by omega
   simp(disch:=omega)only[EV,Cv,hi,o0 (hd.2 _ (aG (d:=[]) hi)),FF,hg];rfl)
  (by simp(disch:=omega)only[EV,Cv,xi])
 simp(disch:=omega)only[EV,aEW,h0]
theorem mM{o:List Int}{ds:List (List Int)}{s:List Int}(ho:aK o)(hd:eP ds)(hs:aK s)(c:Int):Ky o ds s c=some (c,o,ds,s):=by unfold Ky KB;simp(disch:=omega)only[EV,o0 ho,o0 hs,Z4 hd]
def aHg(b:Bool)(o:List Int)(ds:List (List Int))(s:List Int)(c:Int):Int×List UInt8×List UInt8×Int×Bool×List Int×List (List Int)×List Int:=bif b then(c,[],[],0,true,o,ds,s)else(0,[],[],0,false,[],[],[])
theorem iF{o:List Int}{ds:List (List Int)}{s:List Int}(ho:aK o)(hd:eP ds)(hs:aK s)(c:Int):Wg o ds s c=some (aHg (cC o ds s c) o ds s c):=by unfold Wg aEN;simp(disch:=omega)only[EV,iH ho hd hs,mM ho hd hs];cases cC o ds s c<;>rfl
def dg(x:Int):List UInt8:=Lib.decDigits x.toNat
def bL(l:List Int):List UInt8:=Lib.join (l.map dg) [32]
def jH(l:List Int):List UInt8:=if l=[]then[110,111,110,101]else bL l
def zV(l:List Int):Prop:=l.length<=7/\∀x∈l,0<=x/\x<1000000
theorem Fz:∀l:List (List UInt8),(∀x∈l,x.length<=7)->(Lib.join l [32]).length<=8*l.length
 | [],_=>by simp[Lib.join_nil]
 | [x],h=>by rw[Lib.join_one];have:=h x (xo.2 rfl);simp only[xk,xy];omega
 |x::y::r,h=>by have ih:=Fz (y::r) λz hz=>h z (xr _ hz);have hx:=h x xu;rw[Lib.join_cons]at ih⊢;unfold Lib.joinTail at ih⊢;simp only[M8,List.flatten_cons,xj,xk,xy]at ih⊢;omega
theorem aAZ{l:List Int}(h:zV l):∀x∈l.map dg,x.length<=7/\aX x 32=false:=λx hx=>by obtain⟨y,hy,rfl⟩:=xaf.1 hx;have:=h.2 y hy;exact⟨fN (by omega),zE (by omega)⟩
theorem uU{l:List Int}(h:zV l):(bL l).length<=56:=by have:=Fz (l.map dg) λx hx=>((aAZ h) x hx).1;rw[Gi]at this;have:=h.1;unfold bL;omega
theorem Tu{l:List Int}:(List.range l.length).map (λi=>dg (l.getD i 0))=l.map dg:=by
 apply xem;intro i;rw[oE,oE];by_cases hi:i<l.length;·rw[BU hi,xh hi,oG,oG,xd,xh hi];rfl
 ·rw[KP (by simp;omega),KP (by omega)];rfl
theorem CZ{l:List Int}(h:zV l):Rd (l.map dg) [32]=some (bL l):=by
 have h1:=h.1;have h2:=(uU h)
 unfold bL at h2;unfold Rd J7;rw[qi ⟨by rw[Gi];omega,by omega⟩];rfl
theorem kX{l:List Int}(h:zV l):GO l=some (bL l):=by
 have h1:=h.1;have aa:∀x:List UInt8,List.length [x]=1:=λ_=>rfl;have key:=iP (f:=λv=>(BR (l,(l.length:Int)) v).ev) (n:=l.length) (λi (acc:List (List UInt8))=>((i:Int),acc)) (λi=>dg (l.getD i 0)) (λacc=>acc)
  (λi acc hi ha=>by
   have hx:=h.2 _ (aG (d:=0) hi);have hb:(acc.length+1)*16<=140737488355328:=by omega
   simp(disch:=omega)only[EV,BR,hi,zJ hx.1 (show l.getD i 0<10000000 by omega),aa,hb];rfl)
  (λacc _=>by simp(disch:=omega)only[EV,BR,xi])
 rw[Tu]at key;have k1:aHJ (l,(l.length:Int)) ((0:Int),([]:List (List UInt8)))=some (l.map dg):=key;unfold GO aFj;simp(disch:=omega)only[EV,k1,(CZ h)]
theorem xL{l:List Int}(h:zV l):Xy l=some (jH l):=by
 unfold Xy aGc jH;cases l with
 |nil=>rfl
 |cons x r=>have hz:(((((x::r).length:Nat):Int))==0)=false:=beq_eq_false_iff_ne.2 (by simp;omega);simp(disch:=omega)only[EV,hz,kX h];rw[qh (by simp)]
def mB(n:Nat)(k:Int):List (List Int):=(aO n).filter λs=>decide ((s.length:Int)<=k)
theorem upTo_mem{n:Nat}{k:Int}{s:List Int}:s∈mB n k↔s∈aO n/\(s.length:Int)<=k:=by unfold mB;rw[xak,qe]
theorem V3{n:Nat}(h7:n<=7){k:Int}(h1:1<=k/\k<=(n:Int)):mB n k≠ []:=λe=>by have h:=zK h7 (k:=k) h1.1 h1.2;obtain⟨s,hs⟩:=List.exists_mem_of_ne_nil _ h;obtain⟨a,b⟩:=ofSz_mem.1 hs;have:s∈mB n k:=upTo_mem.2 ⟨a,by omega⟩;rw[e]at this;cases this
def e9(ds:List (List Int))(n:Nat)(k:Int):List Int:=aV (Wl ds) (mB n k)
theorem Is{o:List Int}{ds:List (List Int)}{k:Int}(hf:Fld o ds)(hm:Kk o ds k=some true)(hk:1<=k/\k<=(o.length:Int)):Zu o ds k=some (true,e9 ds o.length k):=by
 have h7:=hf.len;have h1:=hf.pos;have hS:=oT h1 h7;obtain⟨x,e1,e2,e3⟩:=hS.im;have ab:=jV hS h7;have ak:x.1.length=(aO o.length).length:=by rw[<-e3,gZ]
 obtain⟨y,k1,k2,k3⟩:=rT (x:=x) e2 (by omega) (p:=λad=>Option.bind (MS ad.1 k) λae=>some ae) (q:=λs=> !decide ((s.length:Int)<=k)) λs hs=>by
  rw[e3]at hs;obtain⟨p1,p2,p3⟩:=cN h7 hS hs;unfold aK at p3;show Option.bind (MS s k) _=_;unfold MS aDh;simp(disch:=omega)only[EV];by_cases h:(s.length:Int)<=k;·rw[qc h,qd (by omega)];rfl
  ·rw[qd h,qc (by omega)];rfl
 have aa:bI y.1 y.2=mB o.length k:=by rw[k3,e3];unfold mB;congr 1;funext s;simp
 have al:y.1.length=(mB o.length k).length:=by rw[<-aa,gZ]
 have ai:=xaq.2 (V3 h7 (k:=k) hk);have aj:(mB o.length k).length<=(aO o.length).length:=xdt _ _;have hle:=vQ (x:=y) k2 (by omega) (by omega) (p:=λaf=>Option.bind (Pi o ds af.1) λah=>some ah) (g:=Wl ds) λs hs=>by rw[aa]at hs;obtain⟨p1,p2,_⟩:=cN h7 hS (upTo_mem.1 hs).1;show Option.bind (Pi o ds s) _=_;rw[Cg hf p1 p2];rfl
 rw[aa]at hle;unfold Zu MP aGU aCB e9;simp(disch:=omega)only[EV,hm,e1,k1,hle]
section
open Go
theorem v7{α:Type}{l:List α}{d:α}{i:Nat}(h:i<l.length):l.getD i d=l[i]:=by rw[xd,xh h,xT]
theorem Fb{α:Type}{l:List α}(r:List α){d:α}{i:Nat}(h:i<l.length):(l++r).getD i d=l.getD i d:=by rw[xd,xd,y7 h]
theorem tD{s:List UInt8}(hs:aJ s)(b:Nat):∃ps,l9 s (b:Int)=some ps/\0<ps.length/\ps.getD 0 []=cB b s/\(ps.length<2↔aX s b=false):=by
 unfold aJ at hs;have pre:∀(n:Nat) (hn:n<=s.length),(∀j,j<n->((s.getD j 0).toNat==b)=false)->aX (s.take n) b=false:=by intro n hn h;unfold aX;rw[Wm];intro x hx;obtain⟨j,hj,rfl⟩:=xbu.1 hx;rw[xw]at hj;have:=h j (by omega);rw[v7 (by omega)]at this;rw[List.getElem_take];simp[this]
 obtain⟨r,hr,hQ⟩:=aL (f:=λv=>(G8 (s,(b:Int)) v).ev) (n:=s.length) (λi (q:Int×List (List UInt8))=>(q.1,(i:Int),q.2))
  (λi q=>0<=q.1/\q.1<=i/\q.2.length<=i/\((q.2=[]/\q.1=0/\∀j,j<i->((s.getD j 0).toNat==b)=false)\/(0<q.2.length/\q.2.getD 0 []=cB b s/\aX s b=true)))
  (λq=>0<=q.1/\q.1<=s.length/\q.2.length<=s.length/\((q.2=[]/\q.1=0/\aX s b=false)\/(0<q.2.length/\q.2.getD 0 []=cB b s/\aX s b=true)))
  (s0:=((0:Int),([]:List (List UInt8)))) ⟨by simp,by simp,by simp,.inl ⟨rfl,rfl,λj h=>absurd h (by omega)⟩⟩
  (λi q hi ⟨h1,h2,h3,h4⟩=>by
   obtain⟨st,ps⟩:=q;simp only at h1 h2 h3 h4;have g1:st<=(i:Int):=h2;have g2:(i:Int)<=(s.length:Int):=by omega
   left;cases hb:((s.getD i 0).toNat==b)with
   |false=>
    refine⟨(st,ps),?_,h1,by simp only;omega,by simp only;omega,?_⟩;·simp(disch:=omega)only[EV,G8,hi,j9,hb];rfl
    ·rcases h4 with⟨a,c,d⟩|h4
     ·refine .inl ⟨a,c,λj hj=>?_⟩;rcases Ya j i with h|h;·exact d j h
      ·obtain rfl:j=i:=by omega
       exact hb
     ·exact .inr h4
   |true=>
    have g3:(ps.length+List.length ([(List.drop st.toNat (List.take i s))]:List (List UInt8)))*16<=140737488355328:=by simp only[xk,xy];omega
    refine⟨((i:Int)+1,ps++ [List.drop st.toNat (List.take i s)]),?_,by simp only;omega,by simp only;omega,by simp only[xj,xk,xy];omega,.inr ?_⟩;·simp(disch:=omega)only[EV,G8,hi,j9,hb,h1,g1,g2,g3];rfl
    ·have aa:aX s b=true:=by unfold aX;rw[xbg];exact⟨s.getD i 0,by rw[v7 hi];exact xeb hi,hb⟩
     refine⟨by simp,?_,aa⟩;rcases h4 with⟨a,c,d⟩|⟨a,c,d⟩
     ·subst a;subst c;have hp:=pre i (by omega) d;have e:s=s.take i++s.getD i 0::s.drop (i+1):=by rw[v7 hi,<-Wn hi,xej]
      have h3:cB b s=s.take i:=by have:=nF (r:=s.drop (i+1)) hp (by simpa using hb:(s.getD i 0).toNat=b);rwa [<-e]at this
      rw[h3];simp
     ·rw[Fb _ a];exact c)
  (λq ⟨h1,h2,h3,h4⟩=>⟨q,by simp(disch:=omega)only[EV,G8,xi],h1,h2,h3,by
   rcases h4 with⟨a,c,d⟩|h4;·refine .inl ⟨a,c,?_⟩;have:=pre s.length (xm _) d;rwa [sX]at this
   ·exact .inr h4⟩)
 have h0:aFL (s,(b:Int)) ((0:Int),(0:Int),([]:List (List UInt8)))=some r:=hr;obtain⟨st,ps⟩:=r;obtain⟨h1,h2,h3,h4⟩:=hQ;simp only at h1 h2 h3 h4;have g3:(ps.length+List.length ([(List.drop st.toNat (List.take s.length s))]:List (List UInt8)))*16<=140737488355328:=by simp only[xk,xy];omega
 refine⟨ps++ [List.drop st.toNat (List.take s.length s)],?_,by simp,?_,?_⟩;·unfold l9 LS;simp(disch:=omega)only[EV,h0,h1,h2,g3]
 ·rcases h4 with⟨rfl,rfl,h⟩|⟨a,c,d⟩
  ·simp[Io h]
  ·rw[Fb _ a];exact c
 ·rcases h4 with⟨rfl,rfl,h⟩|⟨a,c,d⟩
  ·simp[h]
  ·simp only[xj,xk,xy,d];constructor;·intro h;omega
   ·intro h;cases h
def Dec(k:Int)(t c r:List UInt8):Prop:=bX k 0 59=true/\bQ c r=true/\line k c r=t++ [10]
def zQ(t:List UInt8)(k:Int):List UInt8×List UInt8×Bool:=
 if(cB 35 t).length<(Lib.decDigits k.toNat++ [32]).length then([],[],false)
 else if(cB 35 t).take (Lib.decDigits k.toNat++ [32]).length==Lib.decDigits k.toNat++ [32]then
  if aX ((cB 35 t).drop (Lib.decDigits k.toNat++ [32]).length) 64 then
   if bQ (cB 64 ((cB 35 t).drop (Lib.decDigits k.toNat++ [32]).length)) (o9 64 ((cB 35 t).drop (Lib.decDigits k.toNat++ [32]).length))then
    (cB 64 ((cB 35 t).drop (Lib.decDigits k.toNat++ [32]).length),(o9 64 ((cB 35 t).drop (Lib.decDigits k.toNat++ [32]).length),
     line k (cB 64 ((cB 35 t).drop (Lib.decDigits k.toNat++ [32]).length)) (o9 64 ((cB 35 t).drop (Lib.decDigits k.toNat++ [32]).length))==t++ [10]))
   else(cB 64 ((cB 35 t).drop (Lib.decDigits k.toNat++ [32]).length),o9 64 ((cB 35 t).drop (Lib.decDigits k.toNat++ [32]).length),false)
  else([],[],false)
 else([],[],false)
def yB(k:Int)(t:List UInt8):Option (List UInt8×List UInt8):=
 if bX k 0 59 then if(zQ t k).2.2 then some ((zQ t k).1,(zQ t k).2.1)else none else none
theorem K8{k:Int}{t c r:List UInt8}(h:line k c r=t++ [10]):t=gY (fY k c r):=(List.append_cancel_right h).symm
theorem Ew{k:Int}{t c r:List UInt8}(h:Dec k t c r):yB k t=some (c,r):=by
 obtain⟨h1,h2,h3⟩:=h;have ht:=K8 h3;have hb:cB 35 t=fY k c r:=by rw[ht];exact Cl (nS h2)
 have aa:=(dN h2).2.2.1;obtain⟨e1,e2,e3⟩:=Aq (r:=r) aa;have et:fY k c r=(Lib.decDigits k.toNat++ [32])++(c++64::r):=by simp[fY]
 unfold yB;have e4:(cB 35 t).drop (Lib.decDigits k.toNat++ [32]).length=c++64::r:=by rw[hb,et];exact xhc rfl
 have e5:(cB 35 t).take (Lib.decDigits k.toNat++ [32]).length=Lib.decDigits k.toNat++ [32]:=by rw[hb,et];exact List.take_left' rfl
 have e6:¬(cB 35 t).length<(Lib.decDigits k.toNat++ [32]).length:=by rw[hb,et,xj];omega
 have e7:zQ t k=(c,r,true):=by unfold zQ;rw[e4,e5,e1,e2,e3,qh e6];simp[h2,h3]
 rw[e7];simp[h1]
theorem Jg{k:Int}{t c r:List UInt8}(h:yB k t=some (c,r)):Dec k t c r:=by
 unfold yB at h;split at h
 next h1=>
  split at h
  next h2=>
   unfold zQ at h h2;split at h2;·cases h2
   ·next h3=>
    rw[qh h3]at h;split at h2
    next h4=>
     rw[qi h4]at h;split at h2
     next h5=>
      rw[qi h5]at h;split at h2
      next h6=>
       rw[qi h6]at h;simp only[xe,Wb]at h;obtain⟨rfl,rfl⟩:=h;exact⟨h1,h6,by simpa using h2⟩
      next=>cases h2
     next=>cases h2
    next=>cases h2
  next=>cases h
 next=>cases h
theorem S3{t:List UInt8}{k:Int}(ht:aJ t)(hk:bX k 0 59=true):aGw t k=some (zQ t k):=by
 have aa:=hk;unfold bX at aa;simp only[xf,qe]at aa;have hd:=fN (u:=k.toNat) (by omega);have ad:=ht;unfold aJ at ad;have hn:=oU aa.1 (by omega);obtain⟨ps,p1,p2,p3,p4⟩:=tD ht 35;have ae:l9 t (35:Int)=some ps:=p1;have ak:=U2 35 t;have e1:List.length (Lib.decDigits k.toNat)+List.length ([32]:List UInt8)<=9223372036854775807:=by simp;omega
 have z:Int.toNat (0:Int)=0:=rfl;have al:(0:Int)<(ps.length:Int):=by omega
 unfold aGw aEz zQ;generalize ab:Lib.decDigits k.toNat++ [32]=pre at*;simp(disch:=omega)only[EV,hn,e1,ab,ae,z,p2,p3];generalize af:cB 35 t=body at*;by_cases h1:body.length<pre.length;·simp(disch:=omega)only[EV,h1]
 ·have g1:(0:Int)<=(pre.length:Int):=by omega
  have g2:(pre.length:Int)<=(body.length:Int):=by omega
  simp(disch:=omega)only[EV,h1,g1,g2,Ri];cases h2:(List.take pre.length body==pre)with
  |false=>simp(disch:=omega)only[EV];rfl
  |true=>
   simp(disch:=omega)only[EV,sX];have ao:(body.drop pre.length).length<=body.length:=by rw[tH];omega
   generalize ah:body.drop pre.length=rest at*;have ai:aJ rest:=by unfold aJ;omega
   obtain⟨qs,q1,q2,q3,q4⟩:=tD ai 64;have aj:l9 rest (64:Int)=some qs:=q1;have ar:(0:Int)<(qs.length:Int):=by omega
   simp(disch:=omega)only[EV,aj,q2,q3,j9];cases h3:aX rest 64 with
   |false=>rw[Io h3];simp(disch:=omega)only[EV,qj];rfl
   |true=>
    have hl:=j6 h3;have g3:((cB 64 rest).length==rest.length)=false:=by rw[qf];omega
    have g4:(0:Int)<=((cB 64 rest).length:Int)+1:=by omega
    have g5:((cB 64 rest).length:Int)+1<=(rest.length:Int):=by omega
    have g6:Int.toNat (((cB 64 rest).length:Int)+1)=(cB 64 rest).length+1:=by omega
    have au:(o9 64 rest).length<=rest.length:=by unfold o9;rw[tH];omega
    have e7:List.drop ((cB 64 rest).length+1) rest=o9 64 rest:=rfl;have s1:aJ (cB 64 rest):=by unfold aJ;omega
    have s2:aJ (o9 64 rest):=by unfold aJ;omega
    simp(disch:=omega)only[EV,g3,g4,g5,g6,e7,jN s1 s2];cases h4:bQ (cB 64 rest) (o9 64 rest)with
    |false=>simp(disch:=omega)only[EV];rfl
    |true=>
     obtain⟨_,_,_,_,_,a,b⟩:=dN h4;have e8:List.length t+List.length ([10]:List UInt8)<=9223372036854775807:=by simp;omega
     simp(disch:=omega)only[EV,sF (c:=cB 64 rest) (r:=o9 64 rest) hk (by omega) (by omega),e8]
abbrev RS:=Int×List (List UInt8×List UInt8)
def bA(s:List UInt8)(v:RS):RS⊕RS:=
 if aX (s.drop v.1.toNat) 10 then
  match yB (v.2.length:Int) (cB 10 (s.drop v.1.toNat))with
  |some p=>.inl (v.1+((cB 10 (s.drop v.1.toNat)).length:Int)+1,v.2++ [p])
  |none=>.inr v
 else .inr v
def RI(s:List UInt8)(v:RS):Prop:=0<=v.1/\v.1<=(s.length:Int)/\v.2.length<=60
theorem PE{k:Int}{t:List UInt8}{p:List UInt8×List UInt8}(h:yB k t=some p):bX k 0 59=true:=by
 unfold yB at h;split at h
 next h1=>exact h1
 next=>cases h
theorem xC{s:List UInt8}{v:RS}(h:RI s v):match bA s v with
  | .inl v'=>RI s v'/\(s.length-v'.1.toNat)<(s.length-v.1.toNat)
  | .inr r=>RI s r:=by
 obtain⟨h1,h2,h3⟩:=h;unfold bA;cases hb:aX (s.drop v.1.toNat) 10 with
 |true=>
  simp only[if_true];have hl:=j6 hb;rw[tH]at hl;cases hd:yB (v.2.length:Int) (cB 10 (s.drop v.1.toNat))with
  |some p=>have:=isIn_iff.1 (PE hd);refine⟨⟨by simp only;omega,by simp only;omega,by simp only[xj,xk,xy];omega⟩,?_⟩;simp only;omega
  |none=>exact⟨h1,h2,h3⟩
 |false=>exact⟨h1,h2,h3⟩
theorem nP{s:List UInt8}(hs:aJ s){v:RS}(h:RI s v):(Rz s v).ev=some (bA s v):=by
 obtain⟨h1,h2,h3⟩:=h;have aa:=hs;unfold aJ at aa;obtain⟨off,recs⟩:=v;simp only at h1 h2 h3;unfold Rz bA;by_cases g1:off<(s.length:Int)
 ·by_cases g2:((recs.length:Nat):Int)<(60:Int)
  ·have g3:off<=(s.length:Int):=h2;simp(disch:=omega)only[EV,g1,g2,g3,h1,sX];have af:(s.drop off.toNat).length+off.toNat=s.length:=by rw[tH];omega
   generalize ab:s.drop off.toNat=rest at*;have ad:aJ rest:=by unfold aJ;omega
   obtain⟨ps,p1,p2,p3,p4⟩:=tD ad 10;have ae:l9 rest (10:Int)=some ps:=p1;have ah:(0:Int)<(ps.length:Int):=by omega
   have ai:=U2 10 rest;have hk:bX ((recs.length:Nat):Int) 0 59=true:=isIn_iff.2 ⟨by omega,by omega⟩;have z:Int.toNat (0:Int)=0:=rfl;simp(disch:=omega)only[EV,ae,p2,p3,z,S3 (t:=cB 10 rest) (by unfold aJ;omega) hk];cases hb:aX rest 10 with
   |false=>
    have e:((ps.length:Nat):Int)<2:=by have:=p4.2 hb;omega
    simp(disch:=omega)only[EV,e];rfl
   |true=>
    have e:¬((ps.length:Nat):Int)<2:=by intro h;have:=p4.1 (by omega);rw[hb]at this;cases this
    have hl:=j6 hb;unfold yB;simp(disch:=omega)only[EV,e,hk];cases hd:(zQ (cB 10 rest) ((recs.length:Nat):Int)).2.2 with
    |false=>simp(disch:=omega)only[EV];rfl
    |true=>
     have g4:(recs.length+List.length ([((zQ (cB 10 rest) ((recs.length:Nat):Int)).1,(zQ (cB 10 rest) ((recs.length:Nat):Int)).2.1)]:List (List UInt8×List UInt8)))*32<=140737488355328:=by simp only[xk,xy];omega
     simp(disch:=omega)only[EV,g4]
  ·have e:yB ((recs.length:Nat):Int) (cB 10 (s.drop off.toNat))=none:=by unfold yB;rw[qh];intro h;have:=isIn_iff.1 h;omega
   rw[e];simp(disch:=omega)only[EV,g1,g2];split<;>rfl
 ·have e:s.drop off.toNat=[]:=VW (by omega);rw[e];simp(disch:=omega)only[EV,g1];rfl
theorem Z2{s:List UInt8}(hs:aJ s)(c:UInt8):∃y b,R8 s [c]=some (cB c.toNat s,y,b)/\aJ y/\(aX s c.toNat=true->y=o9 c.toNat s):=by
 have h:=aBy hs c;have aa:=hs;unfold aJ at aa;cases hb:aX s c.toNat with
 |true=>rw[hb]at h;refine⟨_,_,h,?_,λ_=>rfl⟩;unfold aJ o9;rw[tH];omega
 |false=>rw[hb]at h;rw[Io hb];exact⟨_,_,h,by unfold aJ;simp,λh=>by cases h⟩
theorem hZ{s:List UInt8}(hs:aJ s){v:RS}(h:RI s v):(X9 s v).ev=some (bA s v):=by
 obtain⟨h1,h2,h3⟩:=h;have af:=hs;unfold aJ at af;obtain⟨off,recs⟩:=v;simp only at h1 h2 h3;unfold X9 bA;have ah:OD (s.drop off.toNat) (10:Int)=some (if aX (s.drop off.toNat) 10 then((cB 10 (s.drop off.toNat)).length:Int)else-1):=W8 (s.drop off.toNat) 10;have az:(s.drop off.toNat).length+off.toNat=s.length:=by rw[tH];omega
 simp(disch:=omega)only[EV,h1,h2,sX,ah];cases hb:aX (s.drop off.toNat) 10 with
 |false=>
  have:(-1:Int)<0:=by omega
  simp only[tJ,if_false];simp(disch:=omega)only[EV,this]
 |true=>
  simp only[if_true];have hl:=j6 hb;have g1:¬((cB 10 (s.drop off.toNat)).length:Int)<0:=by omega
  have g2:off<=off+((cB 10 (s.drop off.toNat)).length:Int)+1:=by omega
  have g3:off+((cB 10 (s.drop off.toNat)).length:Int)+1<=(s.length:Int):=by omega
  have g4:(0:Int)<=((cB 10 (s.drop off.toNat)).length:Int):=by omega
  have e1:List.drop off.toNat (List.take (off+((cB 10 (s.drop off.toNat)).length:Int)+1).toNat s)=cB 10 (s.drop off.toNat)++ [10]:=by rw[List.drop_take,show(off+((cB 10 (s.drop off.toNat)).length:Int)+1).toNat-off.toNat=(cB 10 (s.drop off.toNat)).length+1 by omega];exact Px hb rfl
  simp(disch:=omega)only[EV,g1,g2,g3,g4,h1,e1];generalize ht:cB 10 (s.drop off.toNat)=t at*;have ai:aJ t:=by unfold aJ;omega
  have g5:((t.length:Nat):Int)<=((List.length (t++ [10]):Nat):Int):=by simp;omega
  have e2:List.take t.length (t++ [10])=t:=List.take_left' rfl;have hc:=U2 35 t;obtain⟨y0,b0,c0,_,_⟩:=Z2 ai 35;have aj:R8 t ([35]:List UInt8)=some (cB 35 t,y0,b0):=c0;obtain⟨x,hx⟩:=sA (s:=cB 35 t) (by unfold aJ at*;omega);have hv:YD t=some (if x.2&&x.1==t then(cB 35 t,true)else([],false)):=by unfold YD aFn;simp(disch:=omega)only[EV,aj,hx];cases x.2<;>cases x.1==t<;>rfl
  simp(disch:=omega)only[EV,g5,e2,Ri,hv];generalize hy:(if x.2&&x.1==t then(cB 35 t,true)else(([]:List UInt8),false))=y;have ak:aJ y.1:=by subst hy;unfold aJ at*;split<;>simp only[xy]<;>omega
  obtain⟨y1,b1,c1,s1,a1⟩:=Z2 ak 32;have al:R8 y.1 ([32]:List UInt8)=some (cB 32 y.1,y1,b1):=c1;obtain⟨y2,b2,c2,s2,a2⟩:=Z2 s1 64;have ao:R8 y1 ([64]:List UInt8)=some (cB 64 y1,y2,b2):=c2;have ba:=U2 64 y1;have s3:aJ (cB 64 y1):=by unfold aJ at*;omega
  simp(disch:=omega)only[EV,al,ao,kI (k:=((recs.length:Nat):Int)) s3 s2];have g6:∀p:List UInt8×List UInt8,(recs.length+List.length ([p]:List (List UInt8×List UInt8)))*32<=140737488355328:=by intro p;simp only[xk,xy];omega
  cases hd:yB ((recs.length:Nat):Int) t with
  |some p=>
   obtain⟨c,r⟩:=p;obtain⟨d1,d2,d3⟩:=Jg hd;have aa:=K8 d3;have ab:cB 35 t=fY ((recs.length:Nat):Int) c r:=by rw[aa];exact Cl (nS d2)
   obtain⟨_,_,ar,_,_,ra,rb⟩:=dN d2;have bb:=tO (c:=c) (r:=r) d1;have au:x=(t,true):=by have:=lQ (s:=fY ((recs.length:Nat):Int) c r) (by omega) (nS d2);rw[ab,this,<-aa]at hx;exact(zB hx).symm
   have ae:y=(fY ((recs.length:Nat):Int) c r,true):=by rw[<-hy,au,ab];simp
   obtain⟨t1,t2,t3⟩:=Iw ((recs.length:Nat):Int) c r;have ad:y1=c++64::r:=by rw[a1 (by rw[ae];exact t3),ae];exact t2
   obtain⟨q1,q2,q3⟩:=Aq (r:=r) ar;have av:cB 64 y1=c:=by rw[ad];exact q1
   have aw:y2=r:=by rw[a2 (by rw[ad];exact q3),ad];exact q2
   have he:Iz ((recs.length:Nat):Int) c r=(t++ [10],true):=by unfold Iz Vs;rw[d1,d2,d3];rfl
   rw[av,aw,he];simp(disch:=omega)only[EV,qj,g6]
  |none=>
   unfold Iz;cases he:Vs ((recs.length:Nat):Int) (cB 64 y1) y2 with
   |false=>simp(disch:=omega)only[EV,tJ]
   |true=>
    simp only[if_true];have ay:(line ((recs.length:Nat):Int) (cB 64 y1) y2==t++ [10])=false:=by rw[qf];intro heq;unfold Vs at he;simp only[xf]at he;have:=Ew ⟨he.1,he.2,heq⟩;rw[hd]at this;cases this
    simp(disch:=omega)only[EV,ay]
def Ro(l:List (List UInt8×List UInt8)):Prop:=∀x∈l,bQ x.1 x.2=true
theorem G7{s:List UInt8}{v v':RS}(h:bA s v=.inl v')(hv:Ro v.2):Ro v'.2:=by
 unfold bA at h;split at h
 ·split at h
  ·next p hd=>
   cases h;intro x hx;rcases xp.1 hx with hx|hx;·exact hv x hx
   ·rw[xo.1 hx];exact(Jg hd).2.1
  ·cases h
 ·cases h
theorem F9{s:List UInt8}{v r:RS}(h:bA s v=.inr r):r=v:=by
 unfold bA at h;split at h
 ·split at h;·cases h
  ·cases h;rfl
 ·cases h;rfl
theorem wH{s:List UInt8}(hs:aJ s):∃v,Cc s=some v/\Ec s=some v/\RI s v/\Ro v.2:=by
 have key:∀n (v:RS),s.length-v.1.toNat=n->RI s v->Ro v.2->∃r,aB (λv=>(Rz s v).ev) v=some r/\aB (λv=>(X9 s v).ev) v=some r/\RI s r/\Ro r.2:=by
  intro n;induction n using Nat.strongRecOn with
  |_ n ih=>
   intro v hn hv hc;have h1:=nP hs hv;have h2:=hZ hs hv;have h3:=xC hv;rw[aE,aE (λv=>(X9 s v).ev)];simp only[h1,h2];cases hr:bA s v with
   |inl v'=>rw[hr]at h3;simp only at h3⊢;exact ih _ (by omega) v' rfl h3.1 (G7 hr hc)
   |inr r=>rw[hr]at h3;exact⟨r,rfl,rfl,h3,by rw[F9 hr];exact hc⟩
 obtain⟨r,h1,h2,h3⟩:=key _ ((0:Int),[]) rfl ⟨by simp,by simp,by simp⟩ (λx h=>by cases h);have aa:ZT s ((0:Int),[])=some r:=h1;have ab:aGe s ((0:Int),[])=some r:=h2;refine⟨r,?_,?_,h3⟩;·unfold Cc JV;simp(disch:=omega)only[EV,aa]
 ·unfold Ec MJ;simp(disch:=omega)only[EV,ab]
theorem N3{s:List UInt8}(hs:aJ s):∃v,Cc s=some v/\Ec s=some v/\RI s v:=by obtain⟨v,a,b,c,_⟩:=wH hs;exact⟨v,a,b,c⟩
end
section
open Go
theorem Ia{a b:List UInt8}(ha:aJ a)(hb:aJ b)(n:Int):∃v,Ci a b n=some v/\Jt a b n=some v/\(v=true->(a.length:Int)+(b.length:Int)<=30000/\0<=n/\n<=60):=by
 unfold aJ at ha hb;have e0:a.length+b.length<=9223372036854775807:=by omega
 unfold Ci JR Jt NX;have el:((List.length (a++b):Nat):Int)=(a.length:Int)+(b.length:Int):=by simp
 have ew:IntKind.wrap .i64 ((a.length:Int)+(b.length:Int))=(a.length:Int)+(b.length:Int):=aN (by omega) (by omega);by_cases h:(30000:Int)<(a.length:Int)+(b.length:Int)
 ·refine⟨false,?_,?_,λh=>by cases h⟩;·simp(disch:=omega)only[EV,ew,h]
  ·simp(disch:=omega)only[EV,e0,el,h]
 ·obtain⟨v,v1,v2,v3⟩:=N3 (s:=a++b) (by unfold aJ;omega);obtain⟨u,u1,u2,u3⟩:=N3 (s:=a) (by unfold aJ;omega);have e1:¬(30000:Int)<((List.length (a++b):Nat):Int):=by omega
  refine⟨(v.1==(a.length:Int)+(b.length:Int))&&((u.1==(a.length:Int))&&(((v.2.length:Nat):Int)==n)),?_,?_,?_⟩;·simp(disch:=omega)only[EV,ew,h,e0,v1,u1];cases(v.1==(a.length:Int)+(b.length:Int))<;>cases(u.1==(a.length:Int))<;>rfl
  ·simp(disch:=omega)only[EV,e0,e1,v2,u2];rw[el,show(n==((v.2.length:Nat):Int))=(((v.2.length:Nat):Int)==n)from xhh ..];cases(v.1==(a.length:Int)+(b.length:Int))<;>cases(u.1==(a.length:Int))<;>rfl
  ·intro hv;simp only[xf,qg]at hv;have:=v3.2.2;omega
end
section
variable {o:List Int}{ds:List (List Int)}{s:List Int}{n:Int}
theorem QW{A B L:Type}(a:A)(k:A->Tr L)(k':B->Tr L):(Tr.s A B (.inl a) k k').ev=(k a).ev:=rfl
theorem H3(hf:Fld o ds)(hs:ris o.length s):0<=Bb o s/\Bb o s<=693:=by have hp:Places s o.length:=Places.of (hs.low hf.len) (ris_iff.2 hs);have:=wF (l:=List.range s.length) (f:=λk=>o.getD (pl s k) 0) (B:=99) (λk hk=>hf.cost _ (hp.pl (xar.1 hk)).2) 0;have h1:=hs.len;have h2:=hf.len;unfold Bb;simp only[xdx]at this;omega
theorem Tb(hf:Fld o ds){s:List Int}(hs:Places s o.length)(h0:0<s.length):0<=Wl ds s/\Wl ds s<=99:=by unfold Wl;exact K1 (λa=>0<=a/\a<=99) (λa j hj h=>by have:=uT hf hs h0 (xar.1 hj);show 0<=max a (near ds s j)/\max a (near ds s j)<=99;omega) ⟨zG _,by omega⟩
theorem pP{l:List Int}{b:Bool}(h:zV l):ES l b=some (jH l,b):=by unfold ES aBe;simp(disch:=omega)only[EV,xL h]
end
def oJ(c:UInt8):List UInt8->List (List UInt8)
 | []=>[[]]
 |x::s=>if x=c then[]::oJ c s else match oJ c s with
  | []=>[[x]]
  |h::t=>(x::h)::t
theorem iT(c:UInt8):∀s,∃h t,oJ c s=h::t
 | []=>⟨_,_,rfl⟩
 |x::s=>by
  unfold oJ;split;·exact⟨_,_,rfl⟩
  ·obtain⟨h,t,e⟩:=iT c s;rw[e];exact⟨_,_,rfl⟩
theorem Q6(c:UInt8):∀s,(oJ c s).length<=s.length+1
 | []=>xm _
 |x::s=>by
  have ih:=Q6 c s;unfold oJ;split;·simp only[xk];omega
  ·obtain⟨h,t,e⟩:=iT c s;rw[e]at ih⊢;simp only[xk]at ih⊢;omega
theorem o8(x c:UInt8)(s:List UInt8):Lib.index (x::s) [c]=if x=c then 0 else if Lib.index s [c]== -1 then-1 else Lib.index s [c]+1:=by
 rw[Lib.index];by_cases e:x=c;·subst e;simp
 ·have:([c].isPrefixOf (x::s))=false:=by simp[List.isPrefixOf,xB e]
  rw[this,qh e];simp
theorem C2(c:UInt8):∀s:List UInt8,Lib.splitK [c] 0 (s.count c) s=oJ c s
 | []=>rfl
 |x::s=>by
  have ih:=C2 c s;unfold oJ;by_cases e:x=c;·subst e;rw[qi rfl,List.count_cons_self,Lib.splitK,o8,qi rfl];simp[ih]
  ·rw[qh e,List.count_cons_of_ne e,<-ih];cases hn:s.count c with
   |zero=>rfl
   |succ k=>
    have hi:=Lib.index_ge s [c];rw[Lib.splitK,Lib.splitK,o8,qh e];by_cases h:Lib.index s [c]= -1;·rw[h];rfl
    ·have h1:(Lib.index s [c]== -1)=false:=beq_eq_false_iff_ne.2 h;have h2:(Lib.index s [c]+1== -1)=false:=beq_eq_false_iff_ne.2 (by omega);have h3:(Lib.index s [c]+1).toNat=(Lib.index s [c]).toNat+1:=by omega
     simp only[h1,h2,h3,tJ,if_false];simp
theorem M3(c:UInt8)(s:List UInt8):Lib.split s [c]=oJ c s:=by unfold Lib.split;rw[Lib.count_one];exact C2 c s
def R4(p:List UInt8):List (List UInt8)->List (List UInt8)
 | []=>[]
 |h::t=>(p++h)::t
theorem DO{c:UInt8}{p s:List UInt8}{x:UInt8}(hx:x≠c):R4 p (oJ c (x::s))=R4 (p++ [x]) (oJ c s):=by obtain⟨h,t,e⟩:=iT c s;rw[oJ,qh hx,e];simp[R4]
theorem DF{c:UInt8}{p s:List UInt8}:R4 p (oJ c (c::s))=p::R4 [] (oJ c s):=by obtain⟨h,t,e⟩:=iT c s;rw[oJ,qi rfl,e];simp[R4]
theorem CC{c:UInt8}(s:List UInt8):R4 [] (oJ c s)=oJ c s:=by obtain⟨h,t,e⟩:=iT c s;rw[e];rfl
theorem Bq{s:List UInt8}(hs:s.length<=1000000)(c:UInt8):l9 s (c.toNat:Int)=some (oJ c s):=by
 obtain⟨r,k1,k2,k3⟩:=aL (f:=λz=>(G8 (s,(c.toNat:Int)) z).ev) (n:=s.length) (λi (v:Int×List (List UInt8))=>(v.1,(i:Int),v.2)) (λi v=>∃j:Nat,v.1=(j:Int)/\j<=i/\v.2.length<=i/\v.2++R4 ((s.take i).drop j) (oJ c (s.drop i))=oJ c s)
  (λr=>∃j:Nat,r.1=(j:Int)/\j<=s.length/\r.2.length<=s.length/\r.2++ [s.drop j]=oJ c s) (s0:=((0:Int),([]:List (List UInt8))))
  ⟨0,rfl,xm _,xm _,by simp[CC]⟩
  (λi v hi ⟨j,h1,h2,h3,h4⟩=>by
   left;have hd:=Wn hi;have hg:s.getD i 0=s[i]:=by rw[xd,xh hi];rfl
   have aa:((((s.getD i 0).toNat:Nat):Int)==(c.toNat:Int))=decide (s.getD i 0=c):=by
    rw[j9];by_cases e:s.getD i 0=c;·rw[qc e,e];simp
    ·rw[qd e];exact beq_eq_false_iff_ne.2 λh=>e (xez.1 h)
   have hw:IntKind.wrap .i64 ((i:Int)+1)=((i+1:Nat):Int):=by rw[aN (by omega) (by omega)];rfl
   by_cases e:s.getD i 0=c
   ·refine⟨(((i+1:Nat):Int),v.2++ [(s.take i).drop j]),?_,i+1,rfl,xm _,by simp;omega,?_⟩
    ·have ab:∀x:List UInt8,List.length [x]=1:=λ_=>rfl;have hb:(v.2.length+1)*16<=140737488355328:=by omega
     have g1:(0:Int)<=(j:Int):=by omega
     have g2:(j:Int)<=(i:Int):=by omega
     have g3:(i:Int)<=(s.length:Int):=by omega
     unfold G8;dsimp only;rw[qo,qc (show(i:Int)<((s.length:Nat):Int) by omega),qa,qp,show aC (i:Int) s.length=true from eA hi,qa,xx,qo,aa,qc e,qa,h1,qp,qc g1,qc g2,qc g3,JL,JL,qa,qp,ab,qc hb,qa,qq,hw,xx]
    ·have ad:(s.take (i+1)).drop (i+1)=[]:=VW (by rw[xw];omega);rw[<-h4,hd,<-hg,e,DF];simp only[ad,Yi,xek]
   ·refine⟨v,?_,j,h1,by omega,by omega,?_⟩;·unfold G8;dsimp only;rw[qo,qc (show(i:Int)<((s.length:Nat):Int) by omega),qa,qp,show aC (i:Int) s.length=true from eA hi,qa,xx,qo,aa,qd e,qb,qq,hw]
    ·rw[<-h4,hd,DO (by rw[<-hg];exact e)];congr 2;rw[Wk hi,List.drop_append_of_le_length (by rw[xw];omega)])
  (λv ⟨j,h1,h2,h3,h4⟩=>⟨v,by unfold G8;dsimp only;rw[qo,qd (by omega),qb,qq],j,h1,h2,h3,by rw[<-h4,sX,xds];simp[oJ,R4]⟩)
 obtain⟨h1,h2,h3,h4⟩:=k3;have ae:aFL (s,(c.toNat:Int)) ((0:Int),(0:Int),([]:List (List UInt8)))=some r:=k1;have ab:∀x:List UInt8,List.length [x]=1:=λ_=>rfl;have hb:(r.2.length+1)*16<=140737488355328:=by omega
 have g1:(0:Int)<=(k2:Int):=by omega
 have g2:(k2:Int)<=((s.length:Nat):Int):=by omega
 unfold l9 LS;rw[qn,ae,xc,h1,qp,qc g1,qc g2,JL,qa,qp,ab,qc hb,qa,qq,xx,sX,h4]
theorem Ix(u:Nat):Lib.decDigits u≠ []:=by rw[Lib.decDigits.eq_def];split<;>simp
def lE(a:Nat)(l:List UInt8):Nat:=l.foldl (λa c=>a*10+(c.toNat-48)) a
theorem zD:∀u:Nat,lE 0 (Lib.decDigits u)=u:=by
 intro u;induction u using Nat.strongRecOn with
 |ind u ih=>
  rw[Lib.decDigits.eq_def];by_cases h:u<10
  ·rw[dif_pos h];have:(UInt8.ofNat (48+u)).toNat=48+u:=by rw[xgd];omega
   show 0*10+((UInt8.ofNat (48+u)).toNat-48)=u;omega
  ·rw[dif_neg h];have h2:=ih (u/ 10) (by omega);have:(UInt8.ofNat (48+u % 10)).toNat=48+u % 10:=by rw[xgd];omega
   unfold lE at h2⊢;rw[JW,h2];simp[this];omega
theorem Nj:∀(l:List UInt8) (a:Nat),a<=lE a l
 | [],_=>xm _
 |c::l,a=>by have:=Nj l (a*10+(c.toNat-48));show a<=lE (a*10+(c.toNat-48)) l;omega
theorem uC:∀(l:List UInt8) (a:Nat),(∀c∈l,48<=c.toNat/\c.toNat<=57)->lE a l<1000000000->Lib.parseUint10 a l=.ok (lE a l)
 | [],_,_,_=>rfl
 |c::l,a,hd,hv=>by have hc:=hd c xu;have hge:=Nj l (a*10+(c.toNat-48));have e:lE a (c::l)=lE (a*10+(c.toNat-48)) l:=rfl;rw[e]at hv⊢;have ih:=uC l (a*10+(c.toNat-48)) (λx hx=>hd x (xr _ hx)) hv;rw[Lib.parseUint10,qi ⟨hc.1,hc.2⟩,qh (by omega),qh (by omega)];exact ih
theorem xP{u:Nat}(h:u<10000000):Lib.atoiAll (Lib.decDigits u)=.ok (u:Int)/\Lib.atoiAll (45::Lib.decDigits u)=.ok (-(u:Int)):=by
 have hp:Lib.parseMag (Lib.decDigits u)=.ok u:=by have h1:=uC (Lib.decDigits u) 0 (λc hc=>uJ hc) (by rw[zD];omega);rw[zD]at h1;unfold Lib.parseMag;rw[qh (Ix u)];exact h1
 constructor;·obtain⟨c,r,e⟩:=List.exists_cons_of_ne_nil (Ix u);have hc:=uJ (u:=u) (b:=c) (by rw[e];exact xu);rw[e,Lib.atoiAll_plain c r (by omega) (by omega),<-e,hp];exact qh (show¬9223372036854775808<=u by omega)
 ·rw[Lib.atoiAll_minus,hp];exact qh (show¬9223372036854775808<u by omega)
theorem xA{n:Int}(h: -999999<=n/\n<=999999):cS (Lib.itoa n)=(n,true):=by
 have e:Lib.atoiAll (Lib.itoa n)=.ok n:=by
  by_cases h0:0<=n
  ·obtain⟨u,rfl⟩:∃u:Nat,n=(u:Int):=⟨n.toNat,by omega⟩
   rw[Lib.itoa_nonneg];exact(xP (by omega)).1
  ·obtain⟨u,rfl⟩:∃u:Nat,n= -(u:Int):=⟨(-n).toNat,by omega⟩
   rw[Lib.itoa_neg u (by omega)];exact(xP (by omega)).2
 unfold cS;rw[e];dsimp only;rw[qi ⟨h.1,h.2,rfl⟩]
theorem gQ(s:List UInt8):(∃n:Int,(-999999<=n/\n<=999999)/\Lib.itoa n=s/\cS s=(n,true))\/(cS s=(0,false)/\∀n:Int,-999999<=n->n<=999999->Lib.itoa n≠s):=by
 by_cases h:∃n:Int,(-999999<=n/\n<=999999)/\Lib.itoa n=s;·obtain⟨n,h1,h2⟩:=h;exact .inl ⟨n,h1,h2,by rw[<-h2];exact xA h1⟩
 ·refine .inr ⟨?_,λn h1 h2 e=>h ⟨n,⟨h1,h2⟩,e⟩⟩;unfold cS;split;·rw[qh];rintro⟨h1,h2,h3⟩;exact h ⟨_,⟨h1,h2⟩,h3⟩
  ·rfl
theorem mO{n:Int}(h: -999999<=n/\n<=999999):qQ 1000000 n=some (Lib.itoa n):=by
 by_cases h0:0<=n
 ·obtain⟨u,rfl⟩:∃u:Nat,n=(u:Int):=⟨n.toNat,by omega⟩
  rw[Lib.itoa_nonneg,oU (by omega) (by omega)];rfl
 ·obtain⟨u,rfl⟩:∃u:Nat,n= -(u:Int):=⟨(-n).toNat,by omega⟩
  have ih:=wG 999999 u (by omega) (JZ (Nb (by omega)) (by omega));have hl:(Lib.decDigits u).length<=7:=fN (by omega);rw[Lib.itoa_neg u (by omega)];show(Sj (qQ 999999) (-(u:Int))).ev=_;have hw:IntKind.wrap .i64 (0- -(u:Int))=(u:Int):=by rw[aN (by omega) (by omega)];omega
  have e4:List.length ([45]:List UInt8)+(Lib.decDigits u).length<=9223372036854775807:=by simp;omega
  unfold Sj;rw[qo,qc (show-(u:Int)<0 by omega),qa,qn,hw,ih,xc,qp,qc e4,qa,qq];rfl
def vL(l:List UInt8):Prop:=∀c∈l,48<=c.toNat/\c.toNat<=57
theorem Pp(l:List UInt8)(x:UInt8):lE 0 (l++ [x])=lE 0 l*10+(x.toNat-48):=by unfold lE;rw[JW];rfl
theorem Fk:∀(l:List UInt8) (a:Nat),vL l->lE a l<(a+1)*10^l.length
 | [],a,_=>by simp[lE]
 |c::l,a,h=>by have h1:=Fk l (a*10+(c.toNat-48)) λx hx=>h x (xr _ hx);have h2:=h c xu;have h3:(a*10+(c.toNat-48)+1)*10^l.length<=((a+1)*10)*10^l.length:=JI _ (by omega);show lE (a*10+(c.toNat-48)) l<_;rw[xk,Nat.pow_succ,xgu (10^l.length) 10,<-Nat.mul_assoc];omega
theorem Nr(l:List UInt8)(h:vL l):lE 0 l<10^l.length:=by have:=Fk l 0 h;omega
theorem FI{s t:List UInt8}(ht:t.length<=6):∃r,IG (s,t) ((0:Int),(0:Int))=some r/\(vL t->r=.inl ((lE 0 t:Nat):Int))/\(¬vL t->r=.inr ()):=by
 obtain⟨r,k1,k2⟩:=aL (f:=λz=>(Lt (s,t) z).ev) (n:=t.length) (λi (a:Int)=>(a,(i:Int))) (λi a=>a=((lE 0 (t.take i):Nat):Int)/\vL (t.take i)) (λr=>(vL t->r=.inl ((lE 0 t:Nat):Int))/\(¬vL t->r=.inr ())) (s0:=(0:Int))
  ⟨rfl,λc hc=>by simp at hc⟩
  (λi a hi ⟨h1,h2⟩=>by
   have hg:t.getD i 0=t[i]:=by rw[xd,xh hi];rfl
   have aa:t[i]∈t:=xeb hi;by_cases c1:((t.getD i 0).toNat:Int)<48;·right;refine⟨.inr (),?_,λh=>absurd (h _ aa) (by rw[<-hg];omega),λ_=>rfl⟩;simp(disch:=omega)only[EV,Lt,hi,c1]
   ·by_cases c2:(57:Int)<((t.getD i 0).toNat:Int);·right;refine⟨.inr (),?_,λh=>absurd (h _ aa) (by rw[<-hg];omega),λ_=>rfl⟩;simp(disch:=omega)only[EV,Lt,hi,c1,c2]
    ·left;have hv:=Nr _ h2;have hp:10^(t.take i).length<=10^6:=xdp (by omega) (by rw[xw];omega);have ab:IntKind.wrap .u8 (((t.getD i 0).toNat:Int) -48)=((t.getD i 0).toNat:Int) -48:=by show(((t.getD i 0).toNat:Int) -48) % 256=_;omega
     refine⟨10*a+(((t.getD i 0).toNat:Int) -48),?_,?_,?_⟩;·simp(disch:=omega)only[EV,Lt,hi,c1,c2,ab];rfl
     ·rw[Wk hi,Pp,h1,<-hg];omega
     ·rw[Wk hi];intro c hc;rcases xp.1 hc with hc|hc;·exact h2 c hc
      ·rw[xo.1 hc,<-hg];omega)
  (λa ⟨h1,h2⟩=>⟨.inl a,by simp(disch:=omega)only[EV,Lt,xi],λ_=>by rw[h1,sX],λh=>absurd (by rw[sX]at h2;exact h2) h⟩)
 exact⟨r,k1,k2⟩
theorem Oz(s:List UInt8){t:List UInt8}(ht:1<=t.length/\t.length<=6):∃r,IG (s,t) ((0:Int),(0:Int))=some r/\((∃m:Nat,r=.inl (m:Int)/\m<=999999/\m=lE 0 t/\vL t)\/(r=.inr ()/\¬vL t)):=by
 obtain⟨r,e,h1,h2⟩:=FI (s:=s) ht.2;refine⟨r,e,?_⟩;by_cases hd:vL t;·have hv:=Nr t hd;have hp:10^t.length<=10^6:=xdp (by omega) ht.2;exact .inl ⟨lE 0 t,h1 hd,by omega,rfl,hd⟩
 ·exact .inr ⟨h2 hd,hd⟩
theorem M5{s:List UInt8}{n:Int}(h: -999999<=n/\n<=999999):cS s=if Lib.itoa n=s then(n,true)else cS s:=by
 split
 ·next e=>rw[<-e];exact xA h
 ·rfl
theorem uD(u:Nat):vL (Lib.decDigits u):=λ_ hc=>uJ hc
theorem A8{u:Nat}(h:u<=999999):1<=(Lib.decDigits u).length/\(Lib.decDigits u).length<=6:=by rw[Lib.decDigits_length];exact⟨Lib.nDigits_pos u,X1 5 u (by omega)⟩
theorem Rx{s:List UInt8}(hs:s.length<=1000000):aCR s=some (cS s):=by
 -- bJ a sign
 have plain:(∀c,s[0]? =some c->1<s.length->c≠45)->(rK ((s.length:Nat):Int) 1 6).bind (λr=>(bif !r then Tr.l ((0:Int),false)else .c ((Int)⊕(Unit)) (IG (s,s) ((0:Int),(0:Int))) λah=>
   .s (Int) (Unit) ah (λab=>.t (decide (((List.length s:Nat):Int)<((List.length s:Nat):Int)))
        (.c (List UInt8) (qQ 1000000 (IntKind.wrap .i64 (0-ab))) λai=>.t (!(ai==s)) (.l ((0:Int),false)) (.l ((IntKind.wrap .i64 (0-ab)),true)))
        (.c (List UInt8) (qQ 1000000 ab) λaj=>.t (!(aj==s)) (.l ((0:Int),false)) (.l (ab,true))))
    (λ_=>.l ((0:Int),false))).ev)=some (cS s):=λad=>by
  rw[fM,xc];have ae:¬(1<=s.length/\s.length<=6)\/¬vL s->cS s=(0,false):=λh=>by
   rcases gQ s with⟨n,hn,he,_⟩|⟨hp,_⟩
   ·exfalso;by_cases h0:0<=n
    ·obtain⟨u,rfl⟩:∃u:Nat,n=(u:Int):=⟨n.toNat,by omega⟩
     rw[Lib.itoa_nonneg]at he;subst he;rcases h with h|h;·exact h (A8 (by omega))
     ·exact h (uD u)
    ·obtain⟨u,rfl⟩:∃u:Nat,n= -(u:Int):=⟨(-n).toNat,by omega⟩
     rw[Lib.itoa_neg u (by omega)]at he;subst he;exact ad 45 rfl (by have:=(A8 (u:=u) (by omega)).1;simp;omega) rfl
   ·exact hp
  by_cases hl:1<=s.length/\s.length<=6
  ·have hi:bX ((s.length:Nat):Int) 1 6=true:=isIn_iff.2 (by omega);obtain⟨r,e,⟨m,rfl,hm,hv,hd⟩|⟨rfl,hd⟩⟩:=Oz s hl
   ·rw[hi,xl,qb,qn,e,xc,QW,qo,qd (JJ _),qb,qn,mO (by omega),xc,qo,M5 (n:=(m:Int)) (by omega)];by_cases hq:Lib.itoa (m:Int)=s;·rw[qi hq,hq];simp
    ·have:(Lib.itoa (m:Int)==s)=false:=beq_eq_false_iff_ne.2 hq;rw[qh hq,this,nE,qa,qq];rcases gQ s with⟨n,hn,he,hp⟩|⟨hp,_⟩
     ·exfalso;by_cases h0:0<=n
      ·obtain⟨u,rfl⟩:∃u:Nat,n=(u:Int):=⟨n.toNat,by omega⟩
       have aa:=he;rw[Lib.itoa_nonneg]at aa;have:lE 0 s=u:=by rw[<-aa,zD]
       rw[hv,this]at hq;exact hq he
      ·obtain⟨u,rfl⟩:∃u:Nat,n= -(u:Int):=⟨(-n).toNat,by omega⟩
       rw[Lib.itoa_neg u (by omega)]at he;have:=hd 45 (by rw[<-he];exact xu);simp at this
     ·rw[hp]
   ·rw[hi,xl,qb,qn,e,xc,ae (.inr hd)];rfl
  ·have hi:bX ((s.length:Nat):Int) 1 6=false:=by rw[xen];intro h;have:=isIn_iff.1 h;omega
   rw[hi,nE,qa,qq,ae (.inl hl)]
 unfold aCR aFZ;by_cases h1:1<s.length
 ·rw[qo,qc (show(1:Int)<((s.length:Nat):Int) by omega),qa,qp,show aC (0:Int) s.length=true from bK (by omega) (by omega),qa,qo];by_cases ad:s.getD 0 0=45
  ·have af:(((List.getD s (Int.toNat 0) 0).toNat:Int)==45)=true:=by show(((s.getD 0 0).toNat:Int)==45)=true;rw[ad];rfl
   obtain⟨t,rfl⟩:∃t,s=45::t:=by
    cases s with
    |nil=>simp at h1
    |cons c t=>exact⟨t,by rw[show c=45 from ad]⟩
   have et:List.drop (Int.toNat 1) (List.take (List.length (45::t)) (45::t))=t:=by rw[sX];rfl
   have g1:(decide ((0:Int)<=1)&&decide ((1:Int)<=(((45::t).length:Nat):Int)))=true:=by rw[qc (show(1:Int)<=(((45::t).length:Nat):Int) by omega)];rfl
   rw[af,qa,qp,g1,qa,et,qn,fM,xc,qo];have ae:¬(1<=t.length/\t.length<=6)\/¬vL t->cS (45::t)=(0,false):=λh=>by
    rcases gQ (45::t)with⟨n,hn,he,_⟩|⟨hp,_⟩
    ·exfalso;by_cases h0:0<=n
     ·obtain⟨u,rfl⟩:∃u:Nat,n=(u:Int):=⟨n.toNat,by omega⟩
      rw[Lib.itoa_nonneg]at he;have:=uD u 45 (by rw[he];exact xu);simp at this
     ·obtain⟨u,rfl⟩:∃u:Nat,n= -(u:Int):=⟨(-n).toNat,by omega⟩
      rw[Lib.itoa_neg u (by omega)]at he;injection he with _ he;subst he;rcases h with h|h;·exact h (A8 (by omega))
      ·exact h (uD u)
    ·exact hp
   by_cases hl:1<=t.length/\t.length<=6
   ·have hi:bX ((t.length:Nat):Int) 1 6=true:=isIn_iff.2 (by omega);obtain⟨r,e,⟨m,rfl,hm,hv,hd⟩|⟨rfl,hd⟩⟩:=Oz (45::t) hl
    ·have ak:((t.length:Nat):Int)<(((45::t).length:Nat):Int):=by rw[xk];omega
     have hw:IntKind.wrap .i64 (0-(m:Int))= -(m:Int):=by rw[aN (by omega) (by omega)];omega
     rw[hi,xl,qb,qn,e,xc,QW,qo,qc ak,qa,hw,qn,mO (by omega),xc,qo,M5 (n:= -(m:Int)) (by omega)];by_cases hq:Lib.itoa (-(m:Int))=45::t;·rw[qi hq,hq];simp
     ·have:(Lib.itoa (-(m:Int))==45::t)=false:=beq_eq_false_iff_ne.2 hq;rw[qh hq,this,nE,qa,qq];rcases gQ (45::t)with⟨n,hn,he,hp⟩|⟨hp,_⟩
      ·exfalso;by_cases h0:0<=n
       ·obtain⟨u,rfl⟩:∃u:Nat,n=(u:Int):=⟨n.toNat,by omega⟩
        rw[Lib.itoa_nonneg]at he;have:=uD u 45 (by rw[he];exact xu);simp at this
       ·obtain⟨u,rfl⟩:∃u:Nat,n= -(u:Int):=⟨(-n).toNat,by omega⟩
        have aa:=he;rw[Lib.itoa_neg u (by omega)]at aa;injection aa with _ aa;have:lE 0 t=u:=by rw[<-aa,zD]
        rw[hv,this]at hq;exact hq he
      ·rw[hp]
    ·rw[hi,xl,qb,qn,e,xc,ae (.inr hd)];rfl
   ·have hi:bX ((t.length:Nat):Int) 1 6=false:=by rw[xen];intro h;have:=isIn_iff.1 h;omega
    rw[hi,nE,qa,qq,ae (.inl hl)]
  ·have af:(((List.getD s (Int.toNat 0) 0).toNat:Int)==45)=false:=by refine beq_eq_false_iff_ne.2 λh=>ad (xez.1 ?_);have h':((s.getD 0 0).toNat:Int)=45:=h;show(s.getD 0 0).toNat=45;omega
   rw[af,qb];refine Eq.trans ?_ (plain λc hc _ e=>ad (by rw[xd,hc,e];rfl));rw[qn];congr 1;funext r;cases r<;>rfl
 ·rw[qo,qd (show¬(1:Int)<((s.length:Nat):Int) by omega),qb];refine Eq.trans ?_ (plain λc _ h _=>h1 h);rw[qn];congr 1;funext r;cases r<;>rfl
theorem ID{o:List Int}{ds:List (List Int)}{p:List Int}(hf:Fld o ds)(hp:PI o ds p){c:Nat}(hc:c<ds.length)(ch:Bool):∃g,IsMin o.length (lH o ds p c) g/\
  (X3 (ds,(ds.length:Int),o,ds) (ch,(c:Int),p)).ev=some (.inl (ch||decide (0<g),(c:Int)+1,p.set c (p.getD c 0+g))):=by
 have hl:=hp.len;have ao:=hf.clients;have hlen:=hf.len;have ab:c<p.length:=by omega
 have hr:=hf.rowLen c hc;have h1:=hp.val hf hc;obtain⟨q,q1,q2,q3⟩:=FV hf hp;obtain⟨⟨nx,b⟩,k1,k2,k3⟩:=aL (f:=λv=>(D3 (ch,(c:Int),ds,(ds.length:Int),(c:Int),ds.getD c [],((ds.getD c []).length:Int),o,ds,p,q) v).ev) (n:=(ds.getD c []).length) (λi (a:Int×Int)=>(a.1,a.2,(i:Int)))
  (λi a=>RM i (λs=>p.getD c 0<at2 ds c s) (at2 ds c) a.1/\RM i (λs=>at2 ds c s<=p.getD c 0) (λs=>o.getD s 0-tI ds p s) a.2)
  (λa=>RM o.length (λs=>p.getD c 0<at2 ds c s) (at2 ds c) a.1/\RM o.length (λs=>at2 ds c s<=p.getD c 0) (λs=>o.getD s 0-tI ds p s) a.2) (s0:=((-1:Int),(-1:Int))) ⟨RM.zero _ _,RM.zero _ _⟩
  (λi a hi ⟨m1,m2⟩=>by
   left;obtain⟨nx,b⟩:=a;simp only at m1 m2;have ae:i<o.length:=by omega
   have af:i<q.length:=by omega
   have h2:=hf.at2 hc ae;have e3:(ds.getD c []).getD i 0=at2 ds c i:=rfl;have e4:=q3 i ae;have al:=hp.room i ae;by_cases hn:p.getD c 0<at2 ds c i
   ·have aa:¬at2 ds c i<=p.getD c 0:=by omega
    have ah:=m2.skip aa;by_cases c1:nx<0;·refine⟨(at2 ds c i,b),?_,m1.take hn h2.1 (.inl c1),ah⟩;simp(disch:=omega)only[EV,D3,hi,ab,e3,hn,aa,c1];rfl
    ·by_cases c2:at2 ds c i<nx;·refine⟨(at2 ds c i,b),?_,m1.take hn h2.1 (.inr c2),ah⟩;simp(disch:=omega)only[EV,D3,hi,ab,e3,hn,aa,c1,c2];rfl
     ·refine⟨(nx,b),?_,m1.keep c1 c2,ah⟩;simp(disch:=omega)only[EV,D3,hi,ab,e3,hn,aa,c1,c2];rfl
   ·have aa:at2 ds c i<=p.getD c 0:=by omega
    have ai:=m1.skip hn;by_cases c1:b<0;·refine⟨(nx,o.getD i 0-tI ds p i),?_,ai,m2.take aa (by show(0:Int)<=o.getD i 0-tI ds p i;omega) (.inl c1)⟩;simp(disch:=omega)only[EV,D3,hi,ab,af,e3,e4,hn,aa,c1];rfl
    ·by_cases c2:o.getD i 0-tI ds p i<b;·refine⟨(nx,o.getD i 0-tI ds p i),?_,ai,m2.take aa (by show(0:Int)<=o.getD i 0-tI ds p i;omega) (.inr c2)⟩;simp(disch:=omega)only[EV,D3,hi,ab,af,e3,e4,hn,aa,c1,c2];rfl
     ·refine⟨(nx,b),?_,ai,m2.keep c1 c2⟩;simp(disch:=omega)only[EV,D3,hi,ab,af,e3,e4,hn,aa,c1,c2];rfl)
  (λa ha=>⟨a,by simp only[D3,JJ,decide_false,qo,qb,qq],by rw[<-hr];exact ha⟩)
 have aj:aKU (ch,(c:Int),ds,(ds.length:Int),(c:Int),ds.getD c [],((ds.getD c []).length:Int),o,ds,p,q) ((-1:Int),(-1:Int),(0:Int))=some (nx,b):=k1;simp only at k2 k3
 -- some site is near
 have hb:0<=b/\(∀s,s<o.length->at2 ds c s<=p.getD c 0->b<=o.getD s 0-tI ds p s)/\∃s,s<o.length/\at2 ds c s<=p.getD c 0/\b=o.getD s 0-tI ds p s:=by
  rcases k3 with⟨_,h⟩|h;·obtain⟨s,a1,a2⟩:=hp.near c hc;exact absurd a2 (h s a1)
  ·exact h
 obtain⟨b0,b1,s,b2,b3,b4⟩:=hb;have b5:=hf.cost s b2;have b6:0<=tI ds p s:=(jS (ds:=ds) (p:=p) (s:=s) ds.length).1;by_cases ad:0<=nx
 ·obtain⟨a0,a1,t,a2,a3,a4⟩:0<=nx/\(∀s,s<o.length->p.getD c 0<at2 ds c s->nx<=at2 ds c s)/\∃s,s<o.length/\p.getD c 0<at2 ds c s/\nx=at2 ds c s:=by
   rcases k2 with⟨h,_⟩|h;·omega
   ·exact h
  by_cases ak:nx<p.getD c 0+b
  ·refine⟨nx-p.getD c 0,⟨λu hu=>?_,t,a2,?_⟩,?_⟩
   ·unfold lH;split
    next h=>have:=b1 u hu h;omega
    next h=>have:=a1 u hu (by omega);omega
   ·unfold lH;rw[qh (by omega),a4]
   ·have e1:p.getD c 0+(nx-p.getD c 0)=nx:=by omega
    have e2:decide (0<nx-p.getD c 0)=decide (p.getD c 0<nx):=by rw[JN,qe,qe];omega
    rw[e1,e2];simp(disch:=omega)only[EV,X3,hc,q1,aj,ab,ad,ak];cases ch<;>rfl
  ·refine⟨b,⟨λu hu=>?_,s,b2,?_⟩,?_⟩
   ·unfold lH;split
    next h=>exact b1 u hu h
    next h=>have:=a1 u hu (by omega);omega
   ·unfold lH;rw[qi b3,b4]
   ·have e2:decide (0<b)=decide (p.getD c 0<p.getD c 0+b):=by rw[JN,qe,qe];omega
    rw[e2];simp(disch:=omega)only[EV,X3,hc,q1,aj,ab,ad,ak];cases ch<;>rfl
 ·refine⟨b,⟨λu hu=>?_,s,b2,?_⟩,?_⟩
  ·unfold lH;split
   next h=>exact b1 u hu h
   next h=>
    rcases k2 with⟨_,h2⟩|⟨h2,_⟩
    ·exact absurd (by omega) (h2 u hu)
    ·exact absurd h2 ad
  ·unfold lH;rw[qi b3,b4]
  ·have e2:decide (0<b)=decide (p.getD c 0<p.getD c 0+b):=by rw[JN,qe,qe];omega
   rw[e2];simp(disch:=omega)only[EV,X3,hc,q1,aj,ab,ad];cases ch<;>rfl
theorem AB{p:List Int}{c:Nat}(hc:c<p.length):p.set c (p.getD c 0)=p:=by rw[xd,xh hc,xT,List.set_getElem_self]
theorem He{o:List Int}{ds:List (List Int)}{p:List Int}(hf:Fld o ds)(hp:PI o ds p){c:Nat}(hc:c<ds.length)(ch:Bool):∃ab p',PI o ds p'/\fZ p ds.length<=fZ p' ds.length/\(ab=true->ch=true\/fZ p ds.length<fZ p' ds.length)/\
  (X3 (ds,(ds.length:Int),o,ds) (ch,(c:Int),p)).ev=some (.inl (ab,(c:Int)+1,p'))/\
  (Jm (o,ds) (ch,(c:Int),p)).ev=some (.inl (ab,(c:Int)+1,p')):=by
 have hl:=hp.len;have af:=hf.clients;have aa:c<p.length:=by omega
 have h1:=hp.val hf hc;obtain⟨g,g1,g2⟩:=ID hf hp hc ch;obtain⟨g',g3,g4⟩:=Ub hf hp hc;obtain rfl:=g1.uniq g4;obtain⟨h0,hs⟩:=hp.step hc g1;have h2:=hs.val hf hc;rw[cQ p aa,qi rfl]at h2;have ad:=Eo aa (p.getD c 0+g) ds.length;rw[qi hc]at ad;refine⟨ch||decide (0<g),_,hs,by omega,λh=>?_,g2,?_⟩
 ·simp only[Z7,qe]at h;rcases h with h|h;·exact .inl h
  ·exact .inr (by omega)
 ·by_cases hg:0<g;·simp(disch:=omega)only[EV,Jm,aa,g3,hg];rw[Bool.or_true]
  ·have ae:g=0:=by omega
   subst ae;rw[xgy,AB aa];simp(disch:=omega)only[EV,Jm,aa,g3,hg];rw[xeh]
theorem x7{o:List Int}{ds:List (List Int)}(hf:Fld o ds):∀(k i:Nat) (ch:Bool) (p:List Int),i+k=ds.length->PI o ds p->∃aa p',PI o ds p'/\fZ p ds.length<=fZ p' ds.length/\(aa=true->ch=true\/fZ p ds.length<fZ p' ds.length)/\
  aB (λv=>(X3 (ds,(ds.length:Int),o,ds) v).ev) (ch,(i:Int),p)=some (aa,p')/\
  aB (λv=>(Jm (o,ds) v).ev) (ch,(i:Int),p)=some (aa,p')
 |0,i,ch,p,hk,hp=>by
  have hl:=hp.len;obtain rfl:i=ds.length:=by omega
  refine⟨ch,p,hp,zG _,λh=>.inl h,?_,?_⟩;·rw[aE];simp(disch:=omega)only[EV,X3,xi]
  ·rw[aE];simp(disch:=omega)only[EV,Jm,hl,xi]
 |k+1,i,ch,p,hk,hp=>by
  obtain⟨c1,p1,q1,q2,q3,q4,q5⟩:=He hf hp (show i<ds.length by omega) ch;obtain⟨c2,p2,r1,r2,r3,r4,r5⟩:=x7 hf k (i+1) c1 p1 (by omega) q1;refine⟨c2,p2,r1,by omega,λh=>?_,?_,?_⟩
  ·rcases r3 h with h|h
   ·rcases q3 h with h|h;·exact .inl h
    ·exact .inr (by omega)
   ·exact .inr (by omega)
  ·rw[aE];simp only[q4];exact r4
  ·rw[aE];simp only[q5];exact r5
theorem Ad{o:List Int}{ds:List (List Int)}(hf:Fld o ds):∀(m:Nat) (p:List Int),(1386-fZ p ds.length).toNat=m->PI o ds p->∃r,PI o ds r/\
  aB (λv=>(Gw (o,ds) v).ev) (true,p)=some r/\aB (λv=>(Z0 (o,ds) v).ev) (true,p)=some r:=by
 intro m;induction m using Nat.strongRecOn with
 |_ m ih=>
  intro p hm hp;obtain⟨ch,p',r1,r2,r3,r4,r5⟩:=x7 hf ds.length 0 false p (by omega) hp;have aa:aJF (ds,(ds.length:Int),o,ds) (false,(0:Int),p)=some (ch,p'):=r4;have ab:aKq (o,ds) (false,(0:Int),p)=some (ch,p'):=r5;rw[aE,aE (λv=>(Z0 (o,ds) v).ev)];have s1:(Gw (o,ds) (true,p)).ev=some (.inl (ch,p')):=by simp(disch:=omega)only[EV,Gw,aa]
  have s2:(Z0 (o,ds) (true,p)).ev=some (.inl (ch,p')):=by simp(disch:=omega)only[EV,Z0,ab]
  simp only[s1,s2];cases ch with
  |true=>
   rcases r3 rfl with h|h;·cases h
   ·have hb:=qS r1 hf ds.length (xm _);have hb0:=qS hp hf ds.length (xm _);have ad:=hf.clients;exact ih _ (by omega) p' rfl r1
  |false=>
   rw[aE,aE (λv=>(Z0 (o,ds) v).ev)];have t1:(Gw (o,ds) (false,p')).ev=some (.inr p'):=by simp(disch:=omega)only[EV,Gw]
   have t2:(Z0 (o,ds) (false,p')).ev=some (.inr p'):=by simp(disch:=omega)only[EV,Z0]
   simp only[t1,t2];exact⟨p',r1,rfl,rfl⟩
theorem aFS{l:List Int}(h0:0<l.length)(hl:(l.length:Int)<=1000000):∃m,Qi l=some m/\IsMin l.length (λi=>l.getD i 0) m:=by
 obtain⟨r,k1,k2⟩:=aL (f:=λv=>(Y4 l v).ev) (n:=l.length-1) (λi (a:Int)=>(a,((i+1:Nat):Int))) (λi a=>IsMin (i+1) (λi=>l.getD i 0) a) (λa=>IsMin l.length (λi=>l.getD i 0) a) (s0:=l.getD 0 0)
  ⟨λs hs=>by
   obtain rfl:s=0:=by omega
   exact zG _,0,by omega,rfl⟩
  (λi a hi ⟨a1,s,a2,a3⟩=>by
   left;have aa:i+1<l.length:=by omega
   by_cases hx:l.getD (i+1) 0<a;·refine⟨l.getD (i+1) 0,?_,all_succ.2 ⟨λs hs=>by have:=a1 s hs;simp only at this⊢;omega,zG _⟩,i+1,by omega,rfl⟩;simp(disch:=omega)only[EV,Y4,aa,hx];rfl
   ·refine⟨a,?_,all_succ.2 ⟨a1,by simp only;omega⟩,s,by omega,a3⟩;simp(disch:=omega)only[EV,Y4,aa,hx];rfl)
  (λa ha=>⟨a,by
   have e:l.length-1+1=l.length:=by omega
   rw[e];simp(disch:=omega)only[EV,Y4,xi],by
   have e:l.length-1+1=l.length:=by omega
   rw[e]at ha;exact ha⟩)
 have ab:aBs l (l.getD 0 0,(1:Int))=some r:=k1;refine⟨r,?_,k2⟩;unfold Qi LN;have e1:¬(l.length:Int)<1:=by omega
 have e2:(0:Int)<(l.length:Int):=by omega
 have z:Int.toNat (0:Int)=0:=rfl;simp(disch:=omega)only[EV,e1,e2,z,ab]
theorem Av{o:List Int}{ds:List (List Int)}(hf:Fld o ds){c:Nat}(hc:c<ds.length)(a:List Int):∃m,aIf ((c:Int),o,ds,a) ((ds.getD c []).getD 0 0,(0:Int))=some m/\IsMin o.length (at2 ds c) m:=by
 have hr:=hf.rowLen c hc;have hlen:=hf.len;have aa:=hf.pos;obtain⟨r,k1,k2⟩:=aL (f:=λv=>(HB ((c:Int),o,ds,a) v).ev) (n:=o.length) (λi (a:Int)=>(a,(i:Int))) (λi a=>(∀s,s<i->a<=at2 ds c s)/\∃s,s<o.length/\a=at2 ds c s) (λa=>IsMin o.length (at2 ds c) a) (s0:=at2 ds c 0)
  ⟨λs hs=>absurd hs (by omega),0,by omega,rfl⟩
  (λi m hi ⟨a1,s,a2,a3⟩=>by
   left;have e3:(ds.getD c []).getD i 0=at2 ds c i:=rfl;refine⟨min m (at2 ds c i),?_,all_succ.2 ⟨λs hs=>by have:=a1 s hs;omega,by omega⟩,?_⟩;·simp(disch:=omega)only[EV,HB,hi,hc,hr,e3,nU];rfl
   ·by_cases h:m<=at2 ds c i;·exact⟨s,a2,by omega⟩
    ·exact⟨i,hi,by omega⟩)
  (λa ha=>⟨a,by simp(disch:=omega)only[EV,HB,xi],ha⟩)
 exact⟨r,k1,k2⟩
theorem Ib{o:List Int}{ds:List (List Int)}(hf:Fld o ds):∃p,PI o ds p/\YU (o,ds) ((0:Int),[])=some p/\aBC (ds,(ds.length:Int),o,ds) ((0:Int),[])=some p:=by
 have hlen:=hf.len;have af:=hf.pos;have ah:=hf.clients;have hex:∀c:Nat,∃m,c<ds.length->IsMin o.length (at2 ds c) m:=λc=>by
  by_cases hc:c<ds.length;·obtain⟨m,_,h⟩:=Av hf hc [];exact⟨m,λ_=>h⟩
  ·exact⟨0,λh=>absurd h hc⟩
 have hg:=λc=>Classical.choose_spec (hex c);generalize ad:(λc=>Classical.choose (hex c))=g;have aa:∀c,c<ds.length->IsMin o.length (at2 ds c) (g c):=λc hc=>by rw[<-ad];exact hg c hc
 have e1:YU (o,ds) ((0:Int),[])=_:=iP (f:=λv=>(GP (o,ds) v).ev) (n:=ds.length) (λi l=>((i:Int),l)) g (λl=>l) (λi l hi ae=>by
  have hr:=hf.rowLen i hi;obtain⟨m,m1,m2⟩:=Av hf hi l;obtain rfl:=m2.uniq (aa i hi);have z:Int.toNat (0:Int)=0:=rfl;have hz:(0:Int)<((ds.getD i []).length:Int):=by omega
  have hs:(l.length+List.length ([g i]:List Int))*8<=140737488355328:=by simp only[xk,xy];omega
  simp(disch:=omega)only[EV,GP,hi,z,hz,m1,hs];rfl) (λl _=>by simp(disch:=omega)only[EV,GP,xi])
 have e2:aBC (ds,(ds.length:Int),o,ds) ((0:Int),[])=_:=iP (f:=λv=>(Zc (ds,(ds.length:Int),o,ds) v).ev) (n:=ds.length) (λi l=>((i:Int),l)) g (λl=>l) (λi l hi ae=>by
  have hr:=hf.rowLen i hi;obtain⟨m,m1,m2⟩:=aFS (l:=ds.getD i []) (by omega) (by omega);rw[hr]at m2;obtain rfl:=(show IsMin o.length (at2 ds i) m from m2).uniq (aa i hi);have hs:(l.length+List.length ([g i]:List Int))*8<=140737488355328:=by simp only[xk,xy];omega
  simp(disch:=omega)only[EV,Zc,hi,m1,hs];rfl) (λl _=>by simp(disch:=omega)only[EV,Zc,xi])
 have ab:∀c,c<ds.length->((List.range ds.length).map g).getD c 0=g c:=λc hc=>by rw[xd,oE,BU hc];rfl
 refine⟨(List.range ds.length).map g,⟨by simp,λc hc=>?_,λs hs=>?_⟩,e1,e2⟩;·obtain⟨_,s,a,b⟩:=aa c hc;exact⟨s,a,by rw[ab c hc,b];exact zG _⟩
 ·have hz:∀k,k<=ds.length->fP ds ((List.range ds.length).map g) s k=0:=by
   intro k;induction k with
   |zero=>intro _;rfl
   |succ k ih=>intro hk;have:=(aa k (by omega)).1 s hs;rw[fP,ih (by omega),ab k (by omega),(dJ _).2.2 (by omega)];rfl
  unfold tI;rw[hz _ (xm _)];exact(hf.cost s hs).1
theorem xY{o:List Int}{ds:List (List Int)}(ho:aK o)(hd:eP ds)(hf:Fld o ds):∃p,PI o ds p/\PC o ds=some p/\KC o ds=some (true,p):=by
 obtain⟨p,p1,p2,p3⟩:=Ib hf;obtain⟨r,r1,r2,r3⟩:=Ad hf _ p rfl p1;have aa:aLi (o,ds) (true,p)=some r:=r2;have ab:aIr (o,ds) (true,p)=some r:=r3;refine⟨r,r1,?_,?_⟩;·unfold PC aDX;simp(disch:=omega)only[EV,p2,ab]
 ·unfold KC aER;simp(disch:=omega)only[EV,cG ho hd,fieldB_iff.2 hf,p3,aa]
theorem GF{o:List Int}{ds:List (List Int)}{p:List Int}(hf:Fld o ds)(hp:PI o ds p):aEF p=some (fZ p p.length):=by
 have hl:=hp.len;have ab:=hf.clients;obtain⟨r,h1,h2⟩:=aL (f:=λv=>(GZ p v).ev) (n:=p.length) (λi (a:Int)=>(a,(i:Int))) (λi a=>a=fZ p i) (λr=>r=fZ p p.length) (s0:=0) rfl
  (λi a hi ha=>by subst ha;left;have h3:=qS hp hf i (by omega);have h4:=hp.val hf (show i<ds.length by omega);refine⟨_,?_,rfl⟩;simp(disch:=omega)only[EV,GZ,hi];rfl)
  (λa ha=>⟨a,by simp(disch:=omega)only[EV,GZ,xi],ha⟩)
 subst h2;have aa:aJV p ((0:Int),(0:Int))=some (fZ p p.length):=h1;unfold aEF ZF;simp(disch:=omega)only[EV,aa]
theorem PG{o:List Int}{ds:List (List Int)}{p:List Int}(hf:Fld o ds)(hp:PI o ds p):Sf p=some (fZ p p.length):=by
 have hl:=hp.len;have ab:=hf.clients;obtain⟨r,h1,h2⟩:=aL (f:=λv=>(Dx (p,(p.length:Int)) v).ev) (n:=p.length) (λi (a:Int)=>(a,(i:Int))) (λi a=>a=fZ p i) (λr=>r=fZ p p.length) (s0:=0) rfl
  (λi a hi ha=>by subst ha;left;have h3:=qS hp hf i (by omega);have h4:=hp.val hf (show i<ds.length by omega);refine⟨_,?_,rfl⟩;simp(disch:=omega)only[EV,Dx,hi];rfl)
  (λa ha=>⟨a,by simp(disch:=omega)only[EV,Dx,xi],ha⟩)
 subst h2;have aa:aDZ (p,(p.length:Int)) ((0:Int),(0:Int))=some (fZ p p.length):=h1;unfold Sf OP;simp(disch:=omega)only[EV,aa]
section
variable {o:List Int}{ds:List (List Int)}{s:List Int}{n:Int}
theorem L8(sep x:List UInt8):∀{l:List (List UInt8)},l≠ []->Lib.join (l++ [x]) sep=Lib.join l sep++sep++x
 | [],h=>absurd rfl h
 |a::l,_=>by rw[No,Lib.join_cons,Lib.join_cons];unfold Lib.joinTail;simp[Yi]
theorem Xx{l:List Int}{i:Nat}(hi:i<l.length):bL (l.take (i+1))=(if 0<i then bL (l.take i)++ [32]else bL (l.take i))++dg (l.getD i 0):=by
 have e:l.take (i+1)=l.take i++ [l.getD i 0]:=by rw[Wk hi,xd,xh hi];rfl
 unfold bL;rw[e,xdu,M8,xer];by_cases h0:0<i;·rw[qi h0,L8 [32] _ (by rw[Ne,xfs];intro h;have:=congrArg List.length h;rw[xw,xy]at this;omega)]
 ·rw[qh h0,show i=0 by omega,xep,xer,J8,Lib.join_one,Lib.join_nil,J8]
theorem Zn{l:List Int}(h:zV l)(i:Nat):zV (l.take i):=⟨by have:=h.1;rw[xw];omega,λx hx=>h.2 x (Wi hx)⟩
theorem IU{x:Int}(h:0<=x/\x<1000000):qQ 1000000 x=some (dg x):=by
 rw[mO (by omega)];obtain⟨u,rfl⟩:∃u:Nat,x=(u:Int):=⟨x.toNat,by omega⟩
 rw[Lib.itoa_nonneg];rfl
theorem u7{f:List UInt8×Int->Option ((List UInt8×Int)⊕List UInt8)}{l:List Int}(h:zV l)
  (hs:∀(i:Nat) (a:List UInt8),i<l.length->a.length<=56->f (a,(i:Int))=some (.inl ((if 0<i then a++ [32]else a)++dg (l.getD i 0),((i+1:Nat):Int)))) (he:∀a,f (a,((l.length:Nat):Int))=some (.inr a)):aB f (([]:List UInt8),(0:Int))=some (bL l):=by
 obtain⟨r,k1,k2⟩:=aL (f:=f) (n:=l.length) (λi (a:List UInt8)=>(a,(i:Int))) (λi a=>a=bL (l.take i)) (λr=>r=bL l) (s0:=[]) rfl
  (λi a hi ha=>.inl ⟨_,hs i a hi (by rw[ha];exact uU (Zn h i)),by rw[Xx hi,ha]⟩)
  (λa ha=>⟨a,he a,by rw[ha,sX]⟩)
 rw[<-k2];exact k1
theorem Eu{x:Int}(h:0<=x/\x<1000000):(dg x).length<=7:=fN (by omega)
theorem zW{l:List Int}(h:zV l):JU l=some (bL l):=by
 have h7:=h.1;have k:aIi l (([]:List UInt8),(0:Int))=some (bL l):=u7 h
  (λi a hi ha=>by
   have hx:=h.2 _ (aG (d:=0) hi);have e1:=IU hx;have e2:=Eu hx;have e3:([32]:List UInt8).length=1:=rfl;have e4:(a++ [32]).length=a.length+1:=by simp
   by_cases h0:0<i
   ·rw[qi h0];have g1:a.length+1<=9223372036854775807:=by omega
    have g2:a.length+1+(dg (l.getD i 0)).length<=9223372036854775807:=by omega
    have aa:(0:Int)<(i:Int):=by omega
    simp(disch:=omega)only[EV,Zs,hi,aa,e3,g1,e1,e4,g2];rfl
   ·rw[qh h0];have g2:a.length+(dg (l.getD i 0)).length<=9223372036854775807:=by omega
    have aa:¬(0:Int)<(i:Int):=by omega
    simp(disch:=omega)only[EV,Zs,hi,aa,e1,g2];rfl)
  (λa=>by simp(disch:=omega)only[EV,Zs,xi])
 unfold JU aBE;rw[qn,k,xc,qq]
theorem aFM{l:List Int}(h:l≠ []):bL l≠ []:=by
 cases l with
 |nil=>exact absurd rfl h
 |cons a l=>unfold bL;rw[M8,Lib.join_cons];intro e;exact Ix _ (List.append_eq_nil_iff.1 e).1
theorem rO{l:List Int}(h:zV l):Ss l=some (jH l):=by
 have h7:=h.1;have k:aKV l (([]:List UInt8),(0:Int))=some (bL l):=u7 h
  (λi a hi ha=>by
   have hx:=h.2 _ (aG (d:=0) hi);have e1:=IU hx;have e2:=Eu hx;have e3:([32]:List UInt8).length=1:=rfl;have e4:(a++ [32]).length=a.length+1:=by simp
   by_cases h0:0<i
   ·rw[qi h0];have g1:a.length+1<=9223372036854775807:=by omega
    have g2:a.length+1+(dg (l.getD i 0)).length<=9223372036854775807:=by omega
    have aa:(0:Int)<(i:Int):=by omega
    simp(disch:=omega)only[EV,CG,hi,aa,e3,g1,e1,e4,g2];rfl
   ·rw[qh h0];have g2:a.length+(dg (l.getD i 0)).length<=9223372036854775807:=by omega
    have aa:¬(0:Int)<(i:Int):=by omega
    simp(disch:=omega)only[EV,CG,hi,aa,e1,g2];rfl)
  (λa=>by simp(disch:=omega)only[EV,CG,xi])
 unfold Ss aBw jH;rw[qn,k,xc,qo];by_cases h0:l=[]
 ·subst h0;rfl
 ·have:(bL l==([]:List UInt8))=false:=beq_eq_false_iff_ne.2 (aFM h0);rw[qh h0,this,qb,qq]
theorem kQ{l:List Int}{b:Bool}(h:zV l):a9 l b=some (if b then jH l else[63]):=by
 unfold a9 aAG;cases b with
 |false=>rfl
 |true=>rw[qo,xl,qb,qn,rO h,xc,qq];rfl
theorem Tj{x:Int}{b:Bool}(h:b=true-> -999999<=x/\x<=999999):Gx x b=some (if b then Lib.itoa x else[63]):=by
 unfold Gx aAT;cases b with
 |false=>rfl
 |true=>rw[qo,xl,qb,qn,mO (h rfl),xc,qq];rfl
def wL(o:List Int)(ds:List (List Int)):List UInt8:=Lib.join ((o::ds).map bL) [32,47,32]
theorem Fld.fewO(hf:Fld o ds):zV o:=⟨hf.len,λx hx=>by obtain⟨i,hi,e⟩:=xbu.1 hx;have:=hf.cost i hi;rw[xd,xh hi,xT,e]at this;omega⟩
theorem Fld.fewR(hf:Fld o ds){i:Nat}(hi:i<ds.length):zV (ds.getD i []):=⟨by rw[hf.rowLen i hi];exact hf.len,λx hx=>by obtain⟨a,ha,e⟩:=xbu.1 hx;have hr:=hf.rowLen i hi;have:0<=(ds.getD i []).getD a 0/\(ds.getD i []).getD a 0<=99:=hf.at2 hi (show a<o.length by omega);rw[xd (l:=ds.getD i []),xh ha,xT,e]at this;omega⟩
theorem Cu(hi:n.toNat<ds.length):Lib.join ((o::ds.take (n.toNat+1)).map bL) [32,47,32]=Lib.join ((o::ds.take n.toNat).map bL) [32,47,32]++ [32,47,32]++bL (ds.getD n.toNat []):=by
 have e:ds.take (n.toNat+1)=ds.take n.toNat++ [ds.getD n.toNat []]:=dK [] hi;have e2:(o::ds.take n.toNat++ [ds.getD n.toNat []]).map bL=(o::ds.take n.toNat).map bL++ [bL (ds.getD n.toNat [])]:=by rw[xdu];rfl
 rw[e,<-No,e2,L8 _ _ (by simp)]
theorem M1(sep:List UInt8):∀l:List (List UInt8),(∀x∈l,x.length<=56)->(Lib.join l sep).length<=(56+sep.length)*l.length
 | [],_=>by simp[Lib.join_nil]
 | [x],h=>by rw[Lib.join_one];have:=h x (xo.2 rfl);simp only[xk,xy];omega
 |x::y::r,h=>by have ih:=M1 sep (y::r) λz hz=>h z (xr _ hz);have hx:=h x xu;rw[Lib.join_cons]at ih⊢;unfold Lib.joinTail at ih⊢;simp only[M8,List.flatten_cons,xj,xk,Nat.mul_add,uE]at ih⊢;omega
theorem v6(hf:Fld o ds)(k:Nat):(Lib.join ((o::ds.take k).map bL) [32,47,32]).length<=1000:=by
 have h:=M1 [32,47,32] ((o::ds.take k).map bL) λx hx=>by
  obtain⟨r,hr,rfl⟩:=xaf.1 hx;rcases xae.1 hr with rfl|hr;·exact uU hf.fewO
  ·obtain⟨i,hi,e⟩:=xbu.1 (Wi hr);have:=hf.fewR hi;rw[xd,xh hi,xT,e]at this;exact uU this
 have hc:=hf.clients;have h2:((o::ds.take k).map bL).length<=8:=by rw[Gi,xk,xw];omega
 have h3:(56+([32,47,32]:List UInt8).length)*((o::ds.take k).map bL).length<=59*8:=xfe (by decide) h2;omega
theorem yP(ho:aK o)(hd:eP ds)(hf:Fld o ds):NQ o ds=some (wL o ds,true):=by
 have hc:=hf.clients;have k:aGK (ds,((ds.length:Nat):Int)) ((0:Int),[bL o])=some ((o::ds).map bL):=by
  obtain⟨r,k1,k2⟩:=aL (f:=λv=>(HI (ds,((ds.length:Nat):Int)) v).ev) (n:=ds.length) (λi (a:List (List UInt8))=>((i:Int),a)) (λi a=>a=(o::ds.take i).map bL) (λr=>r=(o::ds).map bL) (s0:=[bL o]) rfl
   (λi a hi ha=>by
    left;have e1:=kX (hf.fewR hi);have aa:∀x:List UInt8,List.length [x]=1:=λ_=>rfl;have ab:a.length=i+1:=by rw[ha,Gi,xk,xw];omega
    have hb:(a.length+1)*16<=140737488355328:=by omega
    refine⟨a++ [bL (ds.getD i [])],?_,?_⟩;·simp(disch:=omega)only[EV,HI,hi,e1,aa,hb];rfl
    ·rw[dK [] hi,<-No,xdu,<-ha];rfl)
   (λa ha=>⟨a,by simp(disch:=omega)only[EV,HI,xi],by rw[ha,sX]⟩)
  rw[<-k2];exact k1
 have hl:=v6 hf ds.length;rw[sX]at hl;have e2:Rd ((o::ds).map bL) [32,47,32]=some (wL o ds):=by unfold Rd J7;rw[qi ⟨by rw[Gi,xk];omega,by omega⟩];rfl
 unfold NQ aEC;rw[qn,cG ho hd,xc,fieldB_iff.2 hf,qo,xl,qb,qn,kX hf.fewO,xc,qn,k,xc,qn,e2,xc,qq]
theorem Rl(hf:Fld o ds):JQ o ds=some (wL o ds):=by
 have hc:=hf.clients;have k:aHM (o,ds) (bL o,(0:Int))=some (wL o ds):=by
  obtain⟨r,k1,k2⟩:=aL (f:=λv=>(BA (o,ds) v).ev) (n:=ds.length) (λi (a:List UInt8)=>(a,(i:Int))) (λi a=>a=Lib.join ((o::ds.take i).map bL) [32,47,32]) (λr=>r=wL o ds) (s0:=bL o) (by rw[xep];exact(Lib.join_one _ _).symm)
   (λi a hi ha=>by
    left;have e1:=zW (hf.fewR hi);have aa:a.length<=1000:=by rw[ha];exact v6 hf i
    have e3:([32,47,32]:List UInt8).length=3:=rfl;have e4:(a++ [32,47,32]).length=a.length+3:=by simp
    have e5:=uU (hf.fewR hi);have g1:a.length+3<=9223372036854775807:=by omega
    have g2:a.length+3+(bL (ds.getD i [])).length<=9223372036854775807:=by omega
    refine⟨a++ [32,47,32]++bL (ds.getD i []),?_,?_⟩;·simp(disch:=omega)only[EV,BA,hi,e3,g1,e1,e4,g2];rfl
    ·have:=Cu (o:=o) (ds:=ds) (n:=(i:Int)) (by simpa using hi);rw[xx]at this;rw[this,<-ha])
   (λa ha=>⟨a,by simp(disch:=omega)only[EV,BA,xi],by rw[ha,sX];rfl⟩)
  rw[<-k2];exact k1
 unfold JQ aFm;rw[qn,zW hf.fewO,xc,qn,k,xc,qq]
def yG(ds:List (List Int))(a b:Nat):Nat:=cY (λi=>at2 ds i a<at2 ds i b) ds.length
def oZ(ds:List (List Int))(n a:Nat):Bool:=(List.range n).any λb=>decide ((yG ds a b:Int)<(yG ds b a:Int))
def Ps(ds:List (List Int))(n:Nat):List Int:=(List.range n).foldl (λacc a=>bif oZ ds n a then acc else acc++ [(a:Int)]) []
theorem AY{n:Nat}(hn:n<=7):zV (Ps ds n):=by
 have key:∀m,m<=n->((List.range m).foldl (λacc a=>bif oZ ds n a then acc else acc++ [(a:Int)]) []).length<=m/\∀x∈(List.range m).foldl (λacc a=>bif oZ ds n a then acc else acc++ [(a:Int)]) [],0<=x/\x<(m:Int):=by
  intro m;induction m with
  |zero=>intro _;exact⟨xm _,λx h=>by cases h⟩
  |succ m ih=>
   intro hm;obtain⟨h1,h2⟩:=ih (by omega);rw[aU];cases oZ ds n m with
   |true=>exact⟨by rw[qa];omega,λx hx=>by have:=h2 x hx;omega⟩
   |false=>
    rw[qb];refine⟨by rw[xj,JH];omega,λx hx=>?_⟩;rcases xp.1 hx with hx|hx;·have:=h2 x hx;omega
    ·rw[xo.1 hx];omega
 obtain⟨h1,h2⟩:=key n (xm _);exact⟨JZ h1 hn,λx hx=>by have:=h2 x hx;omega⟩
theorem Fj{f:Bool×Int->Option ((Bool×Int)⊕Bool)}{n:Nat}(q:Nat->Bool)(hs:∀(i:Nat) (c:Bool),i<n->f (c,(i:Int))=some (.inl (c||q i,((i+1:Nat):Int))))(he:∀c,f (c,(n:Int))=some (.inr c)):aB f (false,(0:Int))=some ((List.range n).any q):=by
 obtain⟨r,k1,k2⟩:=aL (f:=f) (n:=n) (λi (c:Bool)=>(c,(i:Int))) (λi c=>c=(List.range i).any q) (λr=>r=(List.range n).any q) (s0:=false) rfl
  (λi c hi hc=>.inl ⟨_,hs i c hi,by rw[xeg,xhb,hc];simp⟩)
  (λc hc=>⟨c,he c,hc⟩)
 rw[<-k2];exact k1
theorem Ao{f:Int×List Int->Option ((Int×List Int)⊕List Int)}{n:Nat}(hs:∀(i:Nat) (c:List Int),i<n->c.length<=i->f ((i:Int),c)=some (.inl (((i+1:Nat):Int),bif oZ ds n i then c else c++ [(i:Int)])))(he:∀c,f ((n:Int),c)=some (.inr c)):aB f ((0:Int),[])=some (Ps ds n):=
 (aR (f:=f) (n:=n) (mk:=λi (c:List Int)=>((i:Int),c)) (I:=λi c=>c.length<=i) (g:=λacc a=>bif oZ ds n a then acc else acc++ [(a:Int)]) (fin:=λc=>c) (s0:=[]) (xm _)
  (λi c hi hc=>⟨hs i c hi hc,by
   cases oZ ds n i with
   |true=>rw[qa];omega
   |false=>rw[qb,xj,JH];omega⟩)
  (λc _=>he c)).1
theorem I6{f:Int×Int->Option ((Int×Int)⊕Int)}{a b:Nat}(hc:ds.length<=7)(hs:∀(i:Nat) (c:Int),i<ds.length->0<=c->c<=7->f (c,(i:Int))=some (.inl (if at2 ds i a<at2 ds i b then c+1 else c,((i+1:Nat):Int))))(he:∀c,f (c,((ds.length:Nat):Int))=some (.inr c)):aB f ((0:Int),(0:Int))=some (yG ds a b:Int):=by
 obtain⟨r,k1,k2⟩:=aL (f:=f) (n:=ds.length) (λi (c:Int)=>(c,(i:Int))) (λi c=>c=(cY (λj=>at2 ds j a<at2 ds j b) i:Int)) (λr=>r=(yG ds a b:Int)) (s0:=(0:Int)) rfl
  (λi c hi hc=>by
   have hm:=fE (λj=>at2 ds j a<at2 ds j b) i;refine .inl ⟨_,hs i c hi (by omega) (by omega),?_⟩;rw[cY];by_cases h:at2 ds i a<at2 ds i b;·rw[qi h,qi h,hc];rfl
   ·rw[qh h,qh h,hc];rfl)
  (λc hc=>⟨c,he c,hc⟩)
 rw[<-k2];exact k1
theorem H2(hf:Fld o ds){a b:Nat}(ha:a<o.length)(hb:b<o.length):KI o ds (a:Int) (b:Int)=some (yG ds a b:Int):=by
 have k:aIq ((a:Int),(b:Int),ds,((ds.length:Nat):Int)) ((0:Int),(0:Int))=some (yG ds a b:Int):=I6 hf.clients
  (λi c hi h0 h7=>by
   have hm:=hf.clients;have hr:=hf.rowLen i hi;have e1:(ds.getD i []).getD a 0=at2 ds i a:=rfl;have e2:(ds.getD i []).getD b 0=at2 ds i b:=rfl;by_cases h:at2 ds i a<at2 ds i b;·rw[qi h];simp(disch:=omega)only[EV,EB,hi,hr,ha,hb,e1,e2,h];rfl
   ·rw[qh h];simp(disch:=omega)only[EV,EB,hi,hr,ha,hb,e1,e2,h];rfl)
  (λc=>by simp(disch:=omega)only[EV,EB,xi])
 unfold KI aDM;rw[qn,k,xc,qq]
theorem n5(ho:aK o)(hd:eP ds)(hf:Fld o ds):aGm o ds=some (true,Ps ds o.length):=by
 have hlen:=hf.len;have k:aGL (((o.length:Nat):Int),o,ds) ((0:Int),([]:List Int))=some (Ps ds o.length):=Ao
  (λi c hi hc=>by
   have e1:aIs ((i:Int),((o.length:Nat):Int),(i:Int),((o.length:Nat):Int),o,ds,c) (false,(0:Int))=some (oZ ds o.length i):=Fj (λb=>decide ((yG ds i b:Int)<(yG ds b i:Int)))
    (λj c hj=>by
     have e1:=H2 hf hi hj;have e2:=H2 hf hj hi;cases c with
     |true=>simp(disch:=omega)only[EV,EZ,hj];rfl
     |false=>simp(disch:=omega)only[EV,EZ,hj,e1,e2];rfl)
    (λc=>by simp(disch:=omega)only[EV,EZ,xi])
   have aa:∀x:Int,List.length [x]=1:=λ_=>rfl;have hb:(c.length+1)*8<=140737488355328:=by omega
   cases hq:oZ ds o.length i with
   |true=>rw[hq]at e1;simp(disch:=omega)only[EV,GX,hi,e1];rfl
   |false=>rw[hq]at e1;simp(disch:=omega)only[EV,GX,hi,e1,aa,hb];rfl)
  (λc=>by simp(disch:=omega)only[EV,GX,xi])
 unfold aGm YR;rw[qn,cG ho hd,xc,fieldB_iff.2 hf,qo,xl,qb,qn,k,xc,qq]
theorem I0(hf:Fld o ds){a b:Nat}(ha:a<o.length)(hb:b<o.length):QK o ds (a:Int) (b:Int)=some (yG ds a b:Int):=by
 have k:aJx ((a:Int),(b:Int),o,ds) ((0:Int),(0:Int))=some (yG ds a b:Int):=I6 hf.clients
  (λi c hi h0 h7=>by
   have hm:=hf.clients;have hr:=hf.rowLen i hi;have e1:(ds.getD i []).getD a 0=at2 ds i a:=rfl;have e2:(ds.getD i []).getD b 0=at2 ds i b:=rfl;by_cases h:at2 ds i a<at2 ds i b;·rw[qi h];simp(disch:=omega)only[EV,DZ,hi,hr,ha,hb,e1,e2,h];rfl
   ·rw[qh h];simp(disch:=omega)only[EV,DZ,hi,hr,ha,hb,e1,e2,h];rfl)
  (λc=>by simp(disch:=omega)only[EV,DZ,xi])
 unfold QK aCw;rw[qn,k,xc,qq]
theorem q7(ho:aK o)(hd:eP ds)(hf:Fld o ds):aFg o ds=some (true,Ps ds o.length):=by
 have hlen:=hf.len;have k:aHZ (o,ds) ((0:Int),([]:List Int))=some (Ps ds o.length):=Ao
  (λi c hi hc=>by
   have e1:aJr ((i:Int),o,ds,c) (false,(0:Int))=some (oZ ds o.length i):=Fj (λb=>decide ((yG ds i b:Int)<(yG ds b i:Int)))
    (λj c hj=>by
     have e1:=I0 hf hi hj;have e2:=I0 hf hj hi;cases c with
     |true=>simp(disch:=omega)only[EV,BG,hj];rfl
     |false=>simp(disch:=omega)only[EV,BG,hj,e1,e2];rfl)
    (λc=>by simp(disch:=omega)only[EV,BG,xi])
   have aa:∀x:Int,List.length [x]=1:=λ_=>rfl;have hb:(c.length+1)*8<=140737488355328:=by omega
   cases hq:oZ ds o.length i with
   |true=>rw[hq]at e1;simp(disch:=omega)only[EV,DK,hi,e1];rfl
   |false=>rw[hq]at e1;simp(disch:=omega)only[EV,DK,hi,e1,aa,hb];rfl)
  (λc=>by simp(disch:=omega)only[EV,DK,xi])
 unfold aFg ZN;rw[qn,eQ ho hd,xc,fieldB_iff.2 hf,qo,xl,qb,qn,k,xc,qq]
theorem Kf(hf:Fld o ds):So o ds=some (Dq ds o.length):=by
 have ho:=hf.len;have hc:=hf.clients;have k6:∀{i j a:Nat},i<ds.length->j<ds.length->a<o.length->aCk ((i:Int),(j:Int),(a:Int),o,ds) (0:Int)=some (bif Lm ds i j a o.length then .inl ()else .inr ()):=λ{i j a} hi hj ha=>
  bB (f:=λv=>(G6 ((i:Int),(j:Int),(a:Int),o,ds) v).ev) (n:=o.length) (mk:=λb=>(b:Int)) (p:=λb=> !decide (at2 ds i b+at2 ds j b+at2 ds j a<at2 ds i a)) (yes:=.inl ()) (no:=.inr ())
   (λb hb _=>by
    have aa:=hf.rowLen i hi;have ab:=hf.rowLen j hj;have v1:=hf.at2 hi hb;have v2:=hf.at2 hj hb;have v3:=hf.at2 hj ha;have v4:=hf.at2 hi ha;have e1:(ds.getD i []).getD b 0=at2 ds i b:=rfl;have e2:(ds.getD j []).getD b 0=at2 ds j b:=rfl;have e3:(ds.getD j []).getD a 0=at2 ds j a:=rfl;have e4:(ds.getD i []).getD a 0=at2 ds i a:=rfl;by_cases h:at2 ds i b+at2 ds j b+at2 ds j a<at2 ds i a;·simp(disch:=omega)only[EV,G6,hi,hj,ha,hb,aa,ab,e1,e2,e3,e4,h]
    ·simp(disch:=omega)only[EV,G6,hi,hj,ha,hb,aa,ab,e1,e2,e3,e4,h];rfl)
   (by simp(disch:=omega)only[EV,G6,xi])
 have k4:∀{i j:Nat},i<ds.length->j<ds.length->aCK ((i:Int),(j:Int),o,ds) (0:Int)=some (bif Hf ds i j o.length then .inl ()else .inr ()):=λ{i j} hi hj=>
  bB (f:=λv=>(F1 ((i:Int),(j:Int),o,ds) v).ev) (n:=o.length) (mk:=λb=>(b:Int)) (p:=λa=>Lm ds i j a o.length) (yes:=.inl ()) (no:=.inr ())
   (λa ha _=>by
    have e:=k6 hi hj ha;cases hq:Lm ds i j a o.length with
    |true=>rw[hq]at e;simp(disch:=omega)only[EV,F1,ha,e];rfl
    |false=>rw[hq]at e;simp(disch:=omega)only[EV,F1,ha,e])
   (by simp(disch:=omega)only[EV,F1,xi])
 have k2:∀{i:Nat},i<ds.length->aAW ((i:Int),o,ds) (0:Int)=some (bif Kg ds i o.length then .inl ()else .inr ()):=λ{i} hi=>
  bB (f:=λv=>(G1 ((i:Int),o,ds) v).ev) (n:=ds.length) (mk:=λb=>(b:Int)) (p:=λj=>Hf ds i j o.length) (yes:=.inl ()) (no:=.inr ())
   (λj hj _=>by
    have e:=k4 hi hj;cases hq:Hf ds i j o.length with
    |true=>rw[hq]at e;simp(disch:=omega)only[EV,G1,hj,e];rfl
    |false=>rw[hq]at e;simp(disch:=omega)only[EV,G1,hj,e])
   (by simp(disch:=omega)only[EV,G1,xi])
 have k0:aFK (o,ds) (0:Int)=some (bif Dq ds o.length then .inl ()else .inr ()):=
  bB (f:=λv=>(F7 (o,ds) v).ev) (n:=ds.length) (mk:=λb=>(b:Int)) (p:=λi=>Kg ds i o.length) (yes:=.inl ()) (no:=.inr ())
   (λi hi _=>by
    have e:=k2 hi;cases hq:Kg ds i o.length with
    |true=>rw[hq]at e;simp(disch:=omega)only[EV,F7,hi,e];rfl
    |false=>rw[hq]at e;simp(disch:=omega)only[EV,F7,hi,e])
   (by simp(disch:=omega)only[EV,F7,xi])
 unfold So PB;rw[qn,k0,xc];cases Dq ds o.length<;>rfl
end
def pW:List Int->List Int->Bool
 |a::l,b::r=>if a=b then pW l r else decide (a<b)
 |_,_=>false
theorem L0{l r:List Int}{i:Nat}(h1:i<l.length)(h2:i<r.length):pW (l.drop i) (r.drop i)=if l.getD i 0=r.getD i 0 then pW (l.drop (i+1)) (r.drop (i+1))else decide (l.getD i 0<r.getD i 0):=by rw[Wn h1,Wn h2,pW,xd,xd,xh h1,xh h2];rfl
theorem Uf{l r:List Int}(h:l.length=r.length)(hl:l.length<=1000):aAM l r=some (pW l r):=by
 obtain⟨x,k1,k2⟩:=aL (f:=λv=>(Wc (l,r) v).ev) (n:=l.length) (λi (_:Unit)=>(i:Int)) (λi _=>pW l r=pW (l.drop i) (r.drop i)) (λx=>(x=.inl ()/\pW l r=false)\/x=.inr (pW l r)) (s0:=()) rfl
  (λi _ hi hq=>by
   have aa:i<r.length:=by omega
   rw[L0 hi aa]at hq;by_cases e:l.getD i 0=r.getD i 0
   ·left;rw[qi e]at hq;have eb:(l.getD i 0 !=r.getD i 0)=false:=by rw[e];exact qk _
    refine⟨(),?_,hq⟩;simp(disch:=omega)only[EV,Wc,hi,aa,eb];rfl
   ·right;rw[qh e]at hq;have eb:(l.getD i 0 !=r.getD i 0)=true:=bne_iff_ne.2 e;refine⟨_,?_,.inr rfl⟩;rw[hq];simp(disch:=omega)only[EV,Wc,hi,aa,eb])
  (λ_ hq=>⟨_,by simp(disch:=omega)only[EV,Wc,xi],.inl ⟨rfl,by rw[hq,xds];rfl⟩⟩)
 have ab:aKD (l,r) (0:Int)=some x:=k1;unfold aAM YY;rw[qn,ab,xc];rcases k2 with⟨rfl,k2⟩|rfl;·rw[k2];rfl
 ·rfl
theorem Wu(a b:Int):∃c,Kl a b=some c/\(c<0↔a<b)/\(c=0↔a=b):=by
 unfold Kl NM;have e:∀x,P8 x=some false:=λx=>by unfold P8 BF;simp only[qq,qk]
 rw[qn,e,xc,qn,e,xc];simp only[qo,qb,qq];by_cases h1:a<b;·exact⟨-1,by rw[qc h1,qa],by omega,by omega⟩
 ·by_cases h2:b<a;·exact⟨1,by rw[qd h1,qb,qc h2,qa],by omega,by omega⟩
  ·exact⟨0,by rw[qd h1,qb,qd h2,qb],by omega,by omega⟩
theorem Cp{l r:List Int}(h:l.length=r.length)(hl:l.length<=1000):∃c,NS l r=some c/\decide (c<0)=pW l r:=by
 obtain⟨x,k1,k2⟩:=aL (f:=λv=>(Tl (l,r,l,((l.length:Nat):Int)) v).ev) (n:=l.length) (λi (_:Unit)=>(i:Int)) (λi _=>pW l r=pW (l.drop i) (r.drop i)) (λx=>(x=.inl ()/\pW l r=false)\/∃c:Int,x=.inr c/\decide (c<0)=pW l r) (s0:=()) rfl
  (λi _ hi hq=>by
   have aa:i<r.length:=by omega
   have hn:¬((r.length:Nat):Int)<=(i:Int):=by omega
   obtain⟨c,e1,e2,e3⟩:=Wu (l.getD i 0) (r.getD i 0);rw[L0 hi aa]at hq;by_cases e:l.getD i 0=r.getD i 0
   ·left;rw[qi e]at hq;have eb:(c !=0)=false:=by simp[e3.2 e]
    refine⟨(),?_,hq⟩;simp(disch:=omega)only[EV,Tl,hi,aa,hn,e1,eb];rfl
   ·right;rw[qh e]at hq;have eb:(c !=0)=true:=by simp[mt e3.1 e]
    refine⟨.inr c,?_,.inr ⟨c,rfl,by rw[hq];exact decide_eq_decide.2 e2⟩⟩;simp(disch:=omega)only[EV,Tl,hi,aa,hn,e1,eb])
  (λ_ hq=>⟨_,by simp(disch:=omega)only[EV,Tl,xi],.inl ⟨rfl,by rw[hq,xds];rfl⟩⟩)
 have ab:aGN (l,r,l,((l.length:Nat):Int)) (0:Int)=some x:=k1;unfold NS aCL;rw[qn,ab,xc];rcases k2 with⟨rfl,k2⟩|⟨c,rfl,k2⟩
 ·refine⟨0,?_,by rw[k2];rfl⟩;have hn:¬((l.length:Nat):Int)<((r.length:Nat):Int):=by omega
  show(Tr.t (decide (((l.length:Nat):Int)<((r.length:Nat):Int))) (.l (-1:Int)) (.l (0:Int))).ev=some 0;rw[qo,qd hn,qb,qq]
 ·exact⟨c,rfl,k2⟩
theorem Ay{p:Nat->Prop}[DecidablePred p]:∀{n:Nat},cY p n<=1↔∀i,i<n->∀k,k<i->¬(p i/\p k)
 |0=>⟨λ_ i h=>absurd h (by omega),λ_=>V1 _⟩
 |n+1=>by
  have ih:=Ay (p:=p) (n:=n);rw[cY];constructor
  ·intro h i hi k hk ⟨h1,h2⟩;by_cases e:i=n;·subst e;have:=cntN_pos.2 ⟨k,hk,h2⟩;rw[qi h1]at h;omega
   ·exact ih.1 (by omega) i (by omega) k hk ⟨h1,h2⟩
  ·intro h;have h1:=ih.2 λi hi=>h i (by omega);by_cases hp:p n
   ·rw[qi hp];by_cases h0:0<cY p n;·obtain⟨k,hk,h2⟩:=cntN_pos.1 h0;exact absurd ⟨hp,h2⟩ (h n (by omega) k hk)
    ·omega
   ·rw[qh hp];omega
section
variable {o:List Int}{ds:List (List Int)}{r:Int}
def yE(ds:List (List Int))(n:Nat)(r:Int)(l:List Int):Bool:=(List.range n).all λa=>decide (cY (λk=>at2 ds (pl l k) a<=r) l.length<=1)
def kR(ds:List (List Int))(n:Nat)(r:Int)(i j:Nat):Bool:=(List.range n).all λa=> !(decide (at2 ds i a<=r)&&decide (at2 ds j a<=r))
theorem QT(n:Nat)(l:List Int):yE ds n r l=(List.range l.length).all λi=>(List.range i).all λk=>kR ds n r (pl l i) (pl l k):=by
 rw[JN];unfold yE kR;simp only[xt,xar,qe,Ay,D9,Bool.and_eq_false_iff,decide_eq_false_iff_not];constructor
 ·intro h i hi k hk a ha;have:=h a ha i hi k hk;by_cases h1:at2 ds (pl l i) a<=r;·exact .inr λh2=>this ⟨h1,h2⟩
  ·exact .inl h1
 ·rintro h a ha i hi k hk ⟨h1,h2⟩;rcases h i hi k hk a ha with h3|h3;·exact h3 h1
  ·exact h3 h2
def Mp(m:Nat)(l:List Int):Prop:=l.length<=7/\∀x∈l,0<=x/\x<(m:Int)
theorem HP{m:Nat}{l:List Int}(h:Mp m l){i:Nat}(hi:i<l.length):l.getD i 0=(pl l i:Int)/\pl l i<m:=by have:=h.2 _ (aG (d:=0) hi);unfold pl;omega
theorem Sa(hf:Fld o ds){l:List Int}(hl:Mp ds.length l):LR o ds l r=some (yE ds o.length r l):=by
 have hlen:=hf.len;have h7:=hl.1;have key:aLp (l,r,((o.length:Nat):Int),o,ds) (0:Int)=some (bif yE ds o.length r l then .inl ()else .inr ()):=
  bB (f:=λv=>(Wh (l,r,((o.length:Nat):Int),o,ds) v).ev) (n:=o.length) (λa=>(a:Int)) (λa=>decide (cY (λk=>at2 ds (pl l k) a<=r) l.length<=1)) (.inl ():Unit⊕Unit) (.inr ())
   (λa ha _=>by
    obtain⟨x,k1,k2⟩:=aL (f:=λv=>(Ry (l,r,(a:Int),((o.length:Nat):Int),(a:Int),l,((l.length:Nat):Int),o,ds) v).ev) (n:=l.length) (λi (c:Int)=>(c,(i:Int))) (λi c=>c=(cY (λk=>at2 ds (pl l k) a<=r) i:Int)) (λc=>c=(cY (λk=>at2 ds (pl l k) a<=r) l.length:Int)) (s0:=(0:Int)) rfl
     (λi c hi hc=>by
      left;obtain⟨e1,e2⟩:=HP hl hi;have hr:=hf.rowLen _ e2;have e3:(ds.getD (pl l i) []).getD a 0=at2 ds (pl l i) a:=rfl;have hm:=fE (λk=>at2 ds (pl l k) a<=r) i;rw[cY];by_cases h:at2 ds (pl l i) a<=r;·refine⟨c+1,?_,by rw[qi h,hc];rfl⟩;simp(disch:=omega)only[EV,Ry,hi,e1,e2,hr,ha,e3,h];rfl
      ·refine⟨c,?_,by rw[qh h,hc];rfl⟩;simp(disch:=omega)only[EV,Ry,hi,e1,e2,hr,ha,e3,h];rfl)
     (λc hc=>⟨c,by simp(disch:=omega)only[EV,Ry,xi],hc⟩)
    have aa:aKK (l,r,(a:Int),((o.length:Nat):Int),(a:Int),l,((l.length:Nat):Int),o,ds) ((0:Int),(0:Int))=some x:=k1;by_cases h:cY (λk=>at2 ds (pl l k) a<=r) l.length<=1
    ·have h':¬(1:Int)<x:=by omega
     rw[qc h,qa];simp(disch:=omega)only[EV,Wh,ha,aa,h'];rfl
    ·have h':(1:Int)<x:=by omega
     rw[qd h,qb];simp(disch:=omega)only[EV,Wh,ha,aa,h'])
   (by simp(disch:=omega)only[EV,Wh,xi])
 unfold LR aEb;rw[qn,key,xc];cases yE ds o.length r l<;>rfl
theorem IP(hf:Fld o ds){i j:Nat}(hi:i<ds.length)(hj:j<ds.length):aCh o ds (i:Int) (j:Int) r=some (kR ds o.length r i j):=by
 have hlen:=hf.len;have key:aLu ((i:Int),(j:Int),r,o,ds) (0:Int)=some (bif kR ds o.length r i j then .inl ()else .inr ()):=
  bB (f:=λv=>(Lk ((i:Int),(j:Int),r,o,ds) v).ev) (n:=o.length) (λa=>(a:Int)) (λa=> !(decide (at2 ds i a<=r)&&decide (at2 ds j a<=r))) (.inl ():Unit⊕Unit) (.inr ())
   (λa ha _=>by
    have aa:=hf.rowLen i hi;have ab:=hf.rowLen j hj;have e1:(ds.getD i []).getD a 0=at2 ds i a:=rfl;have e2:(ds.getD j []).getD a 0=at2 ds j a:=rfl;by_cases h1:at2 ds i a<=r
    ·by_cases h2:at2 ds j a<=r;·simp(disch:=omega)only[EV,Lk,ha,hi,hj,aa,ab,e1,e2,h1,h2]
     ·simp(disch:=omega)only[EV,Lk,ha,hi,hj,aa,ab,e1,e2,h1,h2];rfl
    ·simp(disch:=omega)only[EV,Lk,ha,hi,aa,e1,h1];rfl)
   (by simp(disch:=omega)only[EV,Lk,xi])
 unfold aCh YE;rw[qn,key,xc];cases kR ds o.length r i j<;>rfl
theorem GC(hf:Fld o ds){l:List Int}(hl:Mp ds.length l):PV o ds l r=some (yE ds o.length r l):=by
 have h7:=hl.1;have key:aJI (l,r,o,ds) (0:Int)=some (bif (List.range l.length).all λi=>(List.range i).all λk=>kR ds o.length r (pl l i) (pl l k)then .inl ()else .inr ()):=
  bB (f:=λv=>(Qa (l,r,o,ds) v).ev) (n:=l.length) (λa=>(a:Int)) (λi=>(List.range i).all λk=>kR ds o.length r (pl l i) (pl l k)) (.inl ():Unit⊕Unit) (.inr ())
   (λi hi _=>by
    obtain⟨e1,e2⟩:=HP hl hi;have k2:aKb (l,r,(i:Int),o,ds) (0:Int)=some (bif (List.range i).all λk=>kR ds o.length r (pl l i) (pl l k)then .inl ()else .inr ()):=
     bB (f:=λv=>(Ta (l,r,(i:Int),o,ds) v).ev) (n:=i) (λa=>(a:Int)) (λk=>kR ds o.length r (pl l i) (pl l k)) (.inl ():Unit⊕Unit) (.inr ())
      (λk hk _=>by
       obtain⟨e3,e4⟩:=HP hl (show k<l.length by omega);have ea:=IP (r:=r) hf e2 e4;have aa:k<l.length:=by omega
       cases hq:kR ds o.length r (pl l i) (pl l k)with
       |true=>rw[hq]at ea;simp(disch:=omega)only[EV,Ta,hk,hi,aa,e1,e3,ea];rfl
       |false=>rw[hq]at ea;simp(disch:=omega)only[EV,Ta,hk,hi,aa,e1,e3,ea])
      (by simp(disch:=omega)only[EV,Ta,xi])
    cases hq:(List.range i).all λk=>kR ds o.length r (pl l i) (pl l k)with
    |true=>rw[hq]at k2;simp(disch:=omega)only[EV,Qa,hi,k2];rfl
    |false=>rw[hq]at k2;simp(disch:=omega)only[EV,Qa,hi,k2])
   (by simp(disch:=omega)only[EV,Qa,xi])
 rw[<-QT]at key;unfold PV aCS;rw[qn,key,xc];cases yE ds o.length r l<;>rfl
def fG(ds:List (List Int))(n:Nat)(r:Int)(c:List Int)(b:Nat):List Int:=if(c.length<(lG b).length\/((lG b).length=c.length/\pW (lG b) c=true))/\yE ds n r (lG b)=true then lG b else c
def v9(ds:List (List Int))(n:Nat)(r:Int):List Int:=(List.range (2^ds.length)).foldl (fG ds n r) []
noncomputable def aJk(m:Nat):Bool:=(IntKind.wrap .u64 ((1:Int)*2^(min m (IntKind.bits .u64)))==((2^m:Nat):Int))&&(IntKind.wrap .i64 ((1:Int)*2^(min m (IntKind.bits .i64)))==((2^m:Nat):Int))&&(List.range (2^m)).all λb=>(Ff (m:Int) (b:Int)==some (lG b))&&Nat.ble (lG b).length 7&&(lG b).all λx=>(decide (0<=x))&&decide (x<(m:Int))
theorem PP:(List.range 8).all aJk=true:=by kernel_rfl
theorem Og{m:Nat}(h:m<=7):IntKind.wrap .u64 ((1:Int)*2^(min m (IntKind.bits .u64)))=((2^m:Nat):Int)/\IntKind.wrap .i64 ((1:Int)*2^(min m (IntKind.bits .i64)))=((2^m:Nat):Int)/\∀b:Nat,b<2^m->Ff (m:Int) (b:Int)=some (lG b)/\Mp m (lG b):=by have h:=xt.1 PP m (xar.2 (by omega));simp only[aJk,xf,qg,xt,xar,qe,Nat.ble_eq]at h;exact⟨h.1.1,h.1.2,λb hb=>⟨(h.2 b hb).1.1,(h.2 b hb).1.2,(h.2 b hb).2⟩⟩
theorem xS{m n:Nat}{c:List Int}{b:Nat}(hb:Mp m (lG b))(hc:Mp m c):Mp m (fG ds n r c b):=by
 unfold fG;split;·exact hb
 ·exact hc
theorem Hl(hf:Fld o ds):ZA o ds r=some (v9 ds o.length r)/\Mp ds.length (v9 ds o.length r):=by
 obtain⟨_,hw,hb⟩:=Og hf.clients;have ad:=hf.clients;have hp:2^ds.length<=2^7:=xdp (by omega) ad;have aa:(0:Int)<=((ds.length:Nat):Int):=by omega
 obtain⟨k1,k2⟩:=aR (f:=λv=>(Yz (r,o,ds) v).ev) (n:=2^ds.length) (mk:=λb (c:List Int)=>(c,(b:Int))) (I:=λ_ c=>Mp ds.length c) (g:=fG ds o.length r) (fin:=λc=>c) (s0:=[]) ⟨by simp,λx h=>by cases h⟩
  (λb c ae hc=>by
   obtain⟨e1,e2⟩:=hb b ae;refine⟨?_,xS e2 hc⟩;have e3:=GC (r:=r) hf e2;have h7:=hc.1;have h8:=e2.1;have ab:(b:Int)<((2^ds.length:Nat):Int):=by omega
   have af:IntKind.wrap .i64 ((b:Int)+1)=((b+1:Nat):Int):=by rw[aN (by omega) (by omega)];rfl
   unfold Yz fG;dsimp only;rw[qp,qc aa,qa,xx,hw,qo,qc ab,qa,qn,e1,xc,qo,af];by_cases h1:c.length<(lG b).length
   ·rw[qc (show((c.length:Nat):Int)<(((lG b).length:Nat):Int) by omega),qa,qn,e3,xc,qo];cases hq:yE ds o.length r (lG b)with|true=>rw[qi ⟨.inl h1,rfl⟩];rfl|false=>rw[qh λh=>by cases h.2];rfl
   ·rw[qd (show¬((c.length:Nat):Int)<(((lG b).length:Nat):Int) by omega),qb,qo];by_cases h2:(lG b).length=c.length
    ·have eb:((((lG b).length:Nat):Int)==((c.length:Nat):Int))=true:=beq_iff_eq.2 (by omega);rw[eb,qa,qn,Uf h2 (by omega),xc,qo];cases ai:pW (lG b) c with
     |true=>
      rw[qa,qn,e3,xc,qo];cases hq:yE ds o.length r (lG b)with
      |true=>rw[qi ⟨.inr ⟨h2,rfl⟩,rfl⟩];rfl
      |false=>rw[qh λh=>by cases h.2];rfl
     |false=>rw[qh λh=>by rcases h.1 with h|h;exact h1 h;cases h.2];rfl
    ·have eb:((((lG b).length:Nat):Int)==((c.length:Nat):Int))=false:=beq_eq_false_iff_ne.2 (by omega);rw[eb,qb,qh λh=>by rcases h.1 with h|h;exact h1 h;exact h2 h.1];rfl)
  (λc _=>by unfold Yz;dsimp only;rw[qp,qc aa,qa,xx,hw,qo,qd (JJ _),qb,qq])
 have ah:aJm (r,o,ds) (([]:List Int),(0:Int))=some (v9 ds o.length r):=k1;refine⟨?_,k2⟩;unfold ZA aAY;rw[qn,ah,xc,qq]
theorem It(hf:Fld o ds):aCr o ds r=some (v9 ds o.length r):=by
 obtain⟨hw,_,hb⟩:=Og hf.clients;have ae:=hf.clients;have hp:2^ds.length<=2^7:=xdp (by omega) ae;have ah:1<=2^ds.length:=Nat.one_le_two_pow;have ab:(0:Int)<=((ds.length:Nat):Int):=by omega
 have step:∀(b:Nat) (c:List Int),b<2^ds.length->Mp ds.length c->(Qq (r,o,ds) (c,(b:Int))).ev=some (.inl (fG ds o.length r c b,((b+1:Nat):Int))):=λb c aa hc=>by
  have e2:=(hb b aa).2;have e1:=(Q7 (x:=b) (by omega)).list;have e3:=Sa (r:=r) hf e2;have h7:=hc.1;have h8:=e2.1;have ad:(b:Int)<((2^ds.length:Nat):Int):=by omega
  have af:IntKind.wrap .u64 ((b:Int)+1)=((b+1:Nat):Int):=by show((b:Int)+1) % 18446744073709551616=_;omega
  unfold Qq fG;dsimp only;rw[qp,qc ab,qa,xx,hw,qo,qc ad,qa,qn,e1,xc,qo,af];by_cases h1:c.length<(lG b).length
  ·rw[qc (show((c.length:Nat):Int)<(((lG b).length:Nat):Int) by omega),qa,qn,e3,xc,qo];cases hq:yE ds o.length r (lG b)with|true=>rw[qi ⟨.inl h1,rfl⟩];rfl|false=>rw[qh λh=>by cases h.2];rfl
  ·rw[qd (show¬((c.length:Nat):Int)<(((lG b).length:Nat):Int) by omega),qb,qo];by_cases h2:(lG b).length=c.length
   ·have eb:((((lG b).length:Nat):Int)==((c.length:Nat):Int))=true:=beq_iff_eq.2 (by omega);obtain⟨x,e4,e5⟩:=Cp h2 (by omega);rw[eb,qa,qn,e4,xc,qo,e5];cases ai:pW (lG b) c with
    |true=>
     rw[qa,qn,e3,xc,qo];cases hq:yE ds o.length r (lG b)with
     |true=>rw[qi ⟨.inr ⟨h2,rfl⟩,rfl⟩];rfl
     |false=>rw[qh λh=>by cases h.2];rfl
    |false=>rw[qh λh=>by rcases h.1 with h|h;exact h1 h;cases h.2];rfl
   ·have eb:((((lG b).length:Nat):Int)==((c.length:Nat):Int))=false:=beq_eq_false_iff_ne.2 (by omega);rw[eb,qb,qh λh=>by rcases h.1 with h|h;exact h1 h;exact h2 h.1];rfl
 have h0:Mp ds.length []:=⟨by simp,λx h=>by cases h⟩
 have k0:MT (r,o,ds) (([]:List Int),(0:Int))=some (v9 ds o.length r):=
  (aR (f:=λv=>(Qq (r,o,ds) v).ev) (n:=2^ds.length) (mk:=λb (c:List Int)=>(c,(b:Int))) (I:=λ_ c=>Mp ds.length c) (g:=fG ds o.length r) (fin:=λc=>c) (s0:=[]) h0
   (λb c aa hc=>⟨step b c aa hc,xS (hb b aa).2 hc⟩)
   (λc _=>by unfold Qq;dsimp only;rw[qp,qc ab,qa,xx,hw,qo,qd (JJ _),qb,qq])).1
 have k1:MT (r,o,ds) (([]:List Int),(1:Int))=some (v9 ds o.length r):=by
  rw[<-k0];unfold MT
  conv=>rhs;rw[aE]
  have:=step 0 [] (by omega) h0;have e:fG ds o.length r [] 0=[]:=by have:lG 0=[]:=rfl;unfold fG;rw[this];split<;>rfl
  rw[e]at this;rw[show((0:Int))=((0:Nat):Int)from rfl,this];rfl
 unfold aCr aDv;rw[qn,k1,xc,qq]
theorem Dh(ho:aK o)(hd:eP ds)(hf:Fld o ds)(k:Int):∃l b,MZ o ds k=some (b,l)/\QD o ds k=some (l,b)/\Mp o.length l:=by
 have e1:Kk o ds k=some (bX k 1 ((o.length:Nat):Int)):=by unfold Kk KR;rw[qn,cG ho hd,xc,fieldB_iff.2 hf,qo,qa,qn,dI,xc,qq]
 have e2:aFE o ds k=some (bX k 1 ((o.length:Nat):Int)):=by unfold aFE aBQ;rw[qn,eQ ho hd,xc,fieldB_iff.2 hf,qo,qa,qn,fM,xc,qq]
 cases hk:bX k 1 ((o.length:Nat):Int)with
 |false=>
  rw[hk]at e1 e2;refine⟨[],false,?_,?_,by simp,λx h=>by cases h⟩;·unfold MZ ML;rw[qn,e1,xc,qo,nE,qa,qq]
  ·unfold QD PL;rw[qn,e2,xc,qo,nE,qa,qq]
 |true=>
  rw[hk]at e1 e2;have aa:=isIn_iff.1 hk;have h7:=hf.len;obtain⟨m1,m2⟩:=ofSz_mem.1 (Js h7 (ds:=ds) aa);obtain⟨p1,_,_⟩:=cN h7 (oT hf.pos h7) m1;refine⟨wK ds o.length k,true,?_,?_,by omega,λx hx=>?_⟩;·unfold MZ ML;rw[qn,e1,xc,qo,xl,qb,qn,Ut hf aa,xc,qq]
  ·unfold QD PL;rw[qn,e2,xc,qo,xl,qb,qn,Sk hf aa,xc,qq]
  obtain⟨i,hi,e⟩:=xbu.1 hx;have:=p1.mem i hi;rw[xd,xh hi,xT,e]at this;exact this
theorem Kj{f:List Int×Int->Option ((List Int×Int)⊕List Int)}{L:List (List Int)}{g:List Int->Int}(hL:0<L.length)(hs:∀(i:Nat) (c:List Int),i<L.length->c∈L->f (c,(i:Int))=some (.inl (if g (L.getD i [])<g c then L.getD i []else c,((i+1:Nat):Int))))(he:∀c,f (c,((L.length:Nat):Int))=some (.inr c)):aB f (L.getD 0 [],(1:Int))=some (aV g L):=by
 obtain⟨r,h1,rfl⟩:=cH (f:=f) (n:=L.length-1) (λi v=>v=(aV g (L.take (i+1)),((i+1:Nat):Int))) (λr=>r=aV g L)
  (λi v hi hv=>by
   subst hv;have ab:i+1<L.length:=by omega
   have aa:L.take (i+1)≠ []:=λe=>by have:=congrArg List.length e;rw[xw]at this;simp only[xy]at this;omega
   have ae:=(dG (g:=g) aa).1;have ad:=iI (g:=g) aa (L.getD (i+1) []);rw[<-dK [] ab]at ad;exact⟨_,hs (i+1) _ ab (Wi ae),by rw[ad]⟩)
  (λv hv=>by
   subst hv;have e:L.length-1+1=L.length:=by omega
   rw[e];exact⟨_,he _,by rw[sX]⟩)
  (v:=(L.getD 0 [],1)) (by have h1:=dK (l:=L) (i:=0) [] hL;rw[xep,J8]at h1;rw[h1,gR];rfl)
 exact h1
theorem W4(ho:aK o)(hd:eP ds)(hf:Fld o ds)(k:Int):∃l b,Zu o ds k=some (b,l)/\OW o ds k=some (b,l)/\Mp o.length l:=by
 have e1:Kk o ds k=some (bX k 1 ((o.length:Nat):Int)):=by unfold Kk KR;rw[qn,cG ho hd,xc,fieldB_iff.2 hf,qo,qa,qn,dI,xc,qq]
 have e2:aEr o ds k=some (bX k 1 ((o.length:Nat):Int)):=by unfold aEr YQ;rw[qn,eQ ho hd,xc,fieldB_iff.2 hf,qo,qa,qn,fM,xc,qq]
 cases hk:bX k 1 ((o.length:Nat):Int)with
 |false=>
  rw[hk]at e1 e2;refine⟨[],false,?_,?_,by simp,λx h=>by cases h⟩;·unfold Zu MP;rw[qn,e1,xc,qo,nE,qa,qq]
  ·unfold OW LG;rw[qn,e2,xc,qo,nE,qa,qq]
 |true=>
  rw[hk]at e1 e2;have ae:=isIn_iff.1 hk;have h7:=hf.len;have hS:=oT hf.pos h7;have hl:=jV hS h7;have aa:=xaq.2 (V3 h7 ae);have ab:e9 ds o.length k∈mB o.length k:=(dG (V3 h7 ae)).1;obtain⟨p1,p2,p3⟩:=cN h7 hS (upTo_mem.1 ab).1;have af:=p1.low;refine⟨_,true,Is hf e1 ae,?_,?_,λx hx=>?_⟩
  ·have k1:aJj (k,aO o.length) ((0:Int),([]:List (List Int)))=some (mB o.length k):=by
    have h:=(dP (f:=λv=>(Po (k,aO o.length) v).ev) (aO o.length) [] (mk:=λi (c:List (List Int))=>((i:Int),c)) (I:=λi c=>c.length<=i) (g:=λc s=>if(s.length:Int)<=k then c++ [s]else c) (fin:=λc=>c) (s0:=[]) (xm _)
     (λi c hi hc=>by
      have ad:∀x:List Int,List.length [x]=1:=λ_=>rfl;have hb:(c.length+1)*24<=140737488355328:=by omega
      by_cases h:(((aO o.length).getD i []).length:Int)<=k;·simp only[qi h];refine⟨?_,by rw[xj,ad];omega⟩;simp(disch:=omega)only[EV,Po,hi,h,ad,hb];rfl
      ·simp only[qh h];refine⟨?_,by omega⟩;simp(disch:=omega)only[EV,Po,hi,h];rfl)
     (λc _=>by simp(disch:=omega)only[EV,Po,xi])).1
    have e:(aO o.length).foldl (λc s=>if(s.length:Int)<=k then c++ [s]else c) []=mB o.length k:=by
     have key:∀(l acc:List (List Int)),l.foldl (λc s=>if(s.length:Int)<=k then c++ [s]else c) acc=acc++l.filter λs=>decide ((s.length:Int)<=k):=by
      intro l;induction l with
      |nil=>intro acc;simp
      |cons a l ih=>
       intro acc;rw[Z5,ih,UZ];by_cases h:(a.length:Int)<=k;·simp[h]
       ·simp[h]
     rw[key,J8];rfl
    rw[e]at h;exact h
   have k2:aIx (o,ds,mB o.length k) ((mB o.length k).getD 0 [],(1:Int))=some (e9 ds o.length k):=Kj aa
    (λi c hi hc=>by
     have hle:(mB o.length k).length<=(aO o.length).length:=xdt _ _;obtain⟨q1,q2,_⟩:=cN h7 hS (upTo_mem.1 hc).1;obtain⟨q3,q4,_⟩:=cN h7 hS (upTo_mem.1 (aG (d:=[]) hi)).1;have e3:=B5 hf q1 q2;have e4:=B5 hf q3 q4;by_cases h:Wl ds ((mB o.length k).getD i [])<Wl ds c;·rw[qi h];simp(disch:=omega)only[EV,Yo,hi,e3,e4,h];rfl
     ·rw[qh h];simp(disch:=omega)only[EV,Yo,hi,e3,e4,h];rfl)
    (λc=>by simp(disch:=omega)only[EV,Yo,xi])
   have k3:aCd o ds k=some (mB o.length k):=by unfold aCd aBi;rw[qn,hS.sp,xc,qn,k1,xc,qq]
   have k4:aAb o ds k=some (e9 ds o.length k):=by unfold aAb aCQ;rw[qn,k3,xc,qp,show aC (0:Int) (mB o.length k).length=true from bK (by omega) (by omega),qa,qp,qc (show Int.toNat 0<(mB o.length k).length by simpa using aa),qa,qn];rw[show(mB o.length k).getD (Int.toNat 0) []=(mB o.length k).getD 0 []from rfl,k2,xc,qq]
   unfold OW LG;rw[qn,e2,xc,qo,xl,qb,qn,k4,xc,qn,jR (by omega),xc,qq]
  ·have:=(upTo_mem.1 ab).2;omega
  ·obtain⟨i,hi,e⟩:=xbu.1 hx;have:=p1.mem i hi;rw[xd,xh hi,xT,e]at this;exact this
end
end Go.Proofs.YtjiljcblmgeioaaGreatDoor
