/- A part of the proof that FnConsole hands back true, at every argument of the row. -/
import Derived.Test.YtjiljcblmgeioaaGreatDoorP89
import Derived.Lib.ItoaNum
import Derived.Lib.AtoiAllCases
namespace Go.Proofs.YtjiljcblmgeioaaGreatDoor
set_option linter.all false
def vW(ds:List (List Int))(n:Nat)(k:Int):List Int:=aW (fC ds) (uL n k)
theorem vA{n:Nat}(h1:1<=n)(h7:n<=7){k:Int}{s:List Int}(hs:s∈uL n k):Places s n/\(s.length:Int)=k/\0<s.length/\aI s:=by obtain⟨a,b⟩:=ofSz_mem.1 hs;obtain⟨c,d,e⟩:=cO h7 (pD h1 h7) a;exact⟨c,b,d,e⟩
theorem Il{ds:List (List Int)}{n:Nat}(h7:n<=7){k:Int}(hk:1<=k/\k<=(n:Int)):vW ds n k∈uL n k:=
 (dJ (zP h7 hk.1 hk.2)).1
theorem Sb{o:List Int}{ds:List (List Int)}(hf:Fld o ds){k:Int}(hk:1<=k/\k<=(o.length:Int)):ZG o ds k=some (vW ds o.length k):=by
 have h7:=hf.len;have h1:=hf.pos;have hS:=pD h1 h7;obtain⟨x,e1,e2,e3⟩:=hS.im;have ab:=kJ hS h7;have ak:x.1.length=(aN o.length).length:=by rw[<-e3,iO]
 obtain⟨y,k1,k2,k3⟩:=rS (x:=x) e2 (by omega) (p:=λad=>Option.bind (KZ ad.1 k) λae=>some ae) (q:=λs=> !decide ((s.length:Int)=k)) λs hs=>by rw[e3]at hs;obtain⟨p1,p2,p3⟩:=cO h7 hS hs;unfold aI at p3;show Option.bind (KZ s k) _=_;unfold KZ ZU;simp(disch:=omega)only[EV];by_cases h:(s.length:Int)=k<;>simp[h]
 have aa:bH y.1 y.2=uL o.length k:=by rw[k3,e3];unfold uL;congr 1;funext s;simp
 have al:y.1.length=(uL o.length k).length:=by rw[<-aa,iO]
 have ai:=xar.2 (zP h7 (k:=k) hk.1 hk.2);have aj:(uL o.length k).length<=(aN o.length).length:=xdt _ _;have hle:=wH (x:=y) k2 (by omega) (by omega) (p:=λaf=>Option.bind (Gi o ds af.1) λah=>some ah) (g:=fC ds) λs hs=>by rw[aa]at hs;obtain⟨p1,_,p2,_⟩:=vA h1 h7 hs;show Option.bind (Gi o ds s) _=_;rw[sI hf p1 p2];rfl
 rw[aa]at hle;unfold ZG aAw vW;simp(disch:=omega)only[EV,e1,k1,hle]
theorem Jr{n:Nat}(h1:1<=n)(h7:n<=7){k:Int}(hk:1<=k/\k<=(n:Int))(g:List Int->Int):Bd (λs=>decide ((s.length:Int)=k)) g (aN n)=aW g (uL n k):=by rw[Yk (aN n) λs hs e=>by have:=(cO h7 (pD h1 h7) hs).2.1;rw[e]at this;simp at this];rw[qi (show¬(aN n).filter (λs=>decide ((s.length:Int)=k))=[]from zP h7 hk.1 hk.2)];rfl
theorem Vh{o:List Int}{ds:List (List Int)}(hf:Fld o ds){k:Int}(hk:1<=k/\k<=(o.length:Int)):aAR o ds k=some (vW ds o.length k):=by
 have h7:=hf.len;have aa:=hf.pos;have hS:=pD (n:=o.length) aa h7;have ad:=kJ hS h7;have h0:=dT (f:=λv=>(Db (k,aN o.length,o,ds) v).ev) (aN o.length) [] (mk:=λi s=>(s,(i:Int))) (I:=λ_ s=>s=[]\/s∈uL o.length k)
  (g:=λc s=>if decide ((s.length:Int)=k)=true/\(c=[]\/fC ds s<fC ds c)then s else c) (fin:=λs=>s) (s0:=[]) (.inl rfl)
  (λi s hi hI=>by
   have ab:(aN o.length).getD i []∈aN o.length:=aG hi;obtain⟨p1,p2,_⟩:=cO h7 hS ab;have e1:=nR hf p1 p2;by_cases hv:(((aN o.length).getD i []).length:Int)=k
   ·have ae:(aN o.length).getD i []∈uL o.length k:=ofSz_mem.2 ⟨ab,hv⟩;have hq:((((aN o.length).getD i []).length:Int)==k)=true:=beq_iff_eq.2 hv;refine⟨?_,?_⟩
    ·rcases hI with rfl|hs;·have hz:(((List.length ([]:List Int):Nat):Int)==0)=true:=rfl;simp(disch:=omega)only[EV,Db,hi,hq,hz];rw[qj ⟨by simpa using hv,.inl trivial⟩];rfl
     ·obtain⟨q1,q2,q3,_⟩:=vA aa h7 hs;have hz:(((s.length:Nat):Int)==0)=false:=beq_eq_false_iff_ne.2 (by omega);have af:s≠ []:=λe=>by rw[e]at q3;simp at q3
      have e2:=nR hf q1 q3;by_cases hc:fC ds ((aN o.length).getD i [])<fC ds s;·simp(disch:=omega)only[EV,Db,hi,hq,hz,e1,e2,hc];rw[qj ⟨by simpa using hv,.inr trivial⟩];rfl
      ·simp(disch:=omega)only[EV,Db,hi,hq,hz,e1,e2,hc];rw[qi (λh=>h.2.elim af id)];rfl
    ·split;·exact .inr ae
     ·exact hI
   ·have hq:((((aN o.length).getD i []).length:Int)==k)=false:=beq_eq_false_iff_ne.2 hv;rw[qi (λh=>hv (by simpa using h.1))];exact⟨by simp(disch:=omega)only[EV,Db,hi,hq];rfl,hI⟩)
  (λs _=>by simp(disch:=omega)only[EV,Db,xi])
 have h1:aHM (k,aN o.length,o,ds) (([]:List Int),(0:Int))=some (Bd (λs=>decide ((s.length:Int)=k)) (fC ds) (aN o.length)):=h0.1;rw[Jr aa h7 hk]at h1;unfold aAR aBQ vW;simp(disch:=omega)only[EV,hS.sp,h1]
def aQ(s:List UInt8):Prop:=(s.length:Int)<=1048576
def wG(c:UInt8):Bool:=decide (32<=c.toNat)&&(decide (c.toNat<=126)&& !(c.toNat==35))
def jJ(s:List UInt8)(most:Int):Bool:=s.all wG&&decide ((s.length:Int)<=most)
def aX(s:List UInt8)(b:Nat):Bool:=s.any λc=>c.toNat==b
def bX(c r:List UInt8):Bool:= !(c==[])&&(jJ c 160&&(!aX c 64&&jJ r 200))
theorem D6(a b:Nat):(((a:Nat):Int)==((b:Nat):Int))=(a==b):=by rw[CZ,qh,qh];omega
theorem W4(c:UInt8):c.toNat<256:=c.toNat_lt
theorem wR(s:List UInt8)(p:UInt8->Bool):((List.range s.length).all λi=>p (s.getD i 0))=s.all p:=wO s 0 p
theorem yB{s:List UInt8}(hs:aQ s)(m:Int):KH s m=some (jJ s m):=by
 unfold aQ at hs;have h0:aHH (s,m) 0=_:=bA (f:=λv=>(GX (s,m) v).ev) (n:=s.length) (mk:=λi=>(i:Int)) (p:=λi=>wG (s.getD i 0)) (yes:=.inl ()) (no:=.inr ()) (λi hi _=>by
  have hb:=W4 (s.getD i 0);have aa:(((s.getD i 0).toNat:Int)==35)=((s.getD i 0).toNat==35):=D6 _ 35;simp(disch:=omega)only[EV,GX,hi,fW,aa];unfold wG bZ;by_cases h1:32<=(s.getD i 0).toNat<;>by_cases h2:(s.getD i 0).toNat<=126<;>cases h3:((s.getD i 0).toNat==35)<;>
   simp only[h1,h2,decide_true,decide_false,Jl,xge,xl,nL,qa,qb,show(32:Int)<=((s.getD i 0).toNat:Int)↔32<=(s.getD i 0).toNat by omega,show((s.getD i 0).toNat:Int)<=126↔(s.getD i 0).toNat<=126 by omega]<;>rfl) (by simp(disch:=omega)only[EV,GX,xi])
 rw[wR s wG]at h0;unfold KH aFx jJ;simp(disch:=omega)only[EV,h0];cases s.all wG<;>rfl
theorem A0{s:List UInt8}(hs:aQ s)(m:Int):MC s m=some (jJ s m):=by
 unfold aQ at hs;have h0:aHl (s,m,(s.length:Int)) 0=_:=bA (f:=λv=>(Ww (s,m,(s.length:Int)) v).ev) (n:=s.length) (mk:=λi=>(i:Int)) (p:=λi=>wG (s.getD i 0)) (yes:=.inl ()) (no:=.inr ()) (λi hi _=>by
  have ad:(((s.getD i 0).toNat:Int)==35)=((s.getD i 0).toNat==35):=D6 _ 35;simp(disch:=omega)only[EV,Ww,hi,ad];unfold wG;by_cases h1:32<=(s.getD i 0).toNat
  ·have aa:¬((s.getD i 0).toNat:Int)<32:=by omega
   by_cases h2:(s.getD i 0).toNat<=126
   ·have ab:¬(126:Int)<((s.getD i 0).toNat:Int):=by omega
    simp only[h1,h2,aa,ab,decide_true,if_false,Jl];cases((s.getD i 0).toNat==35)<;>rfl
   ·have ab:(126:Int)<((s.getD i 0).toNat:Int):=by omega
    simp only[h1,h2,aa,ab,decide_true,decide_false,if_false,if_true,Jl,xge,qb]
  ·have aa:((s.getD i 0).toNat:Int)<32:=by omega
   simp only[h1,aa,decide_false,if_true,xge,qb]) (by simp(disch:=omega)only[EV,Ww,xi])
 rw[wR s wG]at h0;unfold MC aBm jJ;simp(disch:=omega)only[EV,h0];cases s.all wG<;>rfl
theorem Ab{s:List UInt8}(hs:(s.length:Int)<9223372036854775807)(b:Nat):JN s (b:Int)=some (aX s b):=by have h0:aHU (s,(b:Int)) 0=_:=bA (f:=λv=>(GM (s,(b:Int)) v).ev) (n:=s.length) (mk:=λi=>(i:Int)) (p:=λi=> !((s.getD i 0).toNat==b)) (yes:=.inl ()) (no:=.inr ()) (λi hi _=>by simp(disch:=omega)only[EV,GM,hi,D6];cases((s.getD i 0).toNat==b)<;>rfl) (by simp(disch:=omega)only[EV,GM,xi]);rw[wR s λc=> !(c.toNat==b)]at h0;unfold JN aEb aX;simp(disch:=omega)only[EV,h0];rw[xfb];cases s.all λc=> !(c.toNat==b)<;>rfl
theorem oT(c:UInt8):∀s:List UInt8,-1<=Lib.indexByte s c/\(Lib.indexByte s c= -1↔∀x∈s,x≠c)
 | []=>by simp[Lib.indexByte]
 |b::l=>by
  obtain⟨h1,h2⟩:=oT c l;unfold Lib.indexByte;by_cases hb:b=c;·subst hb;simp
  ·have e:(b==c)=false:=by simpa using hb
   rw[e];by_cases h:Lib.indexByte l c= -1
   ·have e2:(Lib.indexByte l c== -1)=true:=by simp[h]
    rw[e2];simp only[tN,if_false,if_true];refine⟨by omega,⟨λ_ x hx=>?_,λ_=>trivial⟩⟩;rcases xae.1 hx with rfl|hx;·exact hb
    ·exact h2.1 h x hx
   ·have e2:(Lib.indexByte l c== -1)=false:=by simpa using h
    rw[e2];simp only[tN,if_false];refine⟨by omega,⟨λh3=>by omega,λh3=>absurd (h2.2 λx hx=>h3 x (xt _ hx)) h⟩⟩
theorem aIk(b:UInt8):((b.toNat:Int)).toNat.toUInt8=b:=by rw[xy];exact UInt8.ofNat_toNat
theorem Dc(s:List UInt8)(b:UInt8):decide (0<=jU s (b.toNat:Int))=aX s b.toNat:=by
 unfold jU aX;rw[aIk];obtain⟨h1,h2⟩:=oT b s;rw[CZ,qf,xbh];constructor
 ·intro h;have h3:¬ ∀x∈s,x≠b:=λh4=>by have:=h2.2 h4;omega
  simp only[Classical.not_forall]at h3;obtain⟨x,hx,hn⟩:=h3;exact⟨x,hx,by rw[qh];exact congrArg UInt8.toNat (Classical.not_not.1 hn)⟩
 ·rintro⟨x,hx,he⟩;have aa:Lib.indexByte s b≠ -1:=λh=>h2.1 h x hx (xez.1 (beq_iff_eq.1 he));omega
theorem N5(s:List UInt8)(b:UInt8):bB s [b]=some (if[b]==s then 0 else jU s (b.toNat:Int)):=by unfold bB cG bE bD bO;have e0:(((List.length [b]:Nat):Int)==0)=false:=rfl;have e1:(((List.length [b]:Nat):Int)==1)=true:=rfl;have e2:aC (0:Int) (List.length [b])=true:=rfl;have e3:List.getD [b] (Int.toNat 0) 0=b:=rfl;simp(disch:=omega)only[EV,e0,e1,e2,e3];cases([b]==s)<;>rfl
theorem Wg(s:List UInt8)(b:UInt8):decide ((0:Int)<=if[b]==s then 0 else jU s (b.toNat:Int))=aX s b.toNat:=by
 cases h:([b]==s)with
 |false=>simpa using Dc s b
 |true=>have:=beq_iff_eq.1 h;subst this;simp[aX]
theorem jT(s:List UInt8)(b:UInt8):Dk s [b]=some (aX s b.toNat):=by unfold Dk aCa aKg aEj;simp(disch:=omega)only[EV,N5];rw[Wg]
theorem nT{c r:List UInt8}(hc:aQ c)(hr:aQ r):Wm c r=some (bX c r):=by have h:=hc;unfold aQ at h;unfold Wm aEP bX;have aa:JN c (64:Int)=some (aX c 64):=Ab (by omega) 64;simp(disch:=omega)only[EV,yB hc,yB hr,aa];cases(c==[])<;>cases jJ c 160<;>cases aX c 64<;>rfl
theorem fH{c r:List UInt8}(hc:aQ c)(hr:aQ r):BB c r=some (bX c r):=by unfold BB ZN bX;have aa:Dk c [64]=some (aX c 64):=jT c 64;simp(disch:=omega)only[EV,A0 hc,A0 hr,aa];cases(c==[])<;>cases jJ c 160<;>cases aX c 64<;>cases jJ r 200<;>rfl
section
open Go
theorem Yw:∀i:Fin 10,List.drop i.val (List.take (i.val+1) ([48,49,50,51,52,53,54,55,56,57]:List UInt8))=[UInt8.ofNat (48+i.val)]:=by decide+kernel
theorem aIa{u:Nat}(h:u<10):List.drop u (List.take (u+1) ([48,49,50,51,52,53,54,55,56,57]:List UInt8))=[UInt8.ofNat (48+u)]:=Yw ⟨u,h⟩
theorem X2:∀(k u:Nat),u<10^(k+1)->Lib.nDigits u<=k+1
 |0,u,h=>by rw[Lib.nDigits_small (by simpa using h)];omega
 |k+1,u,h=>by
  by_cases aa:u<10;·rw[Lib.nDigits_small aa];omega
  ·rw[Lib.nDigits_big aa];have:=X2 k (u/ 10) (by rw[Nat.pow_succ]at h;omega);omega
theorem Mz{u:Nat}(h:u<10000000):Lib.nDigits u<=7:=X2 6 u (by simpa using h)
theorem uN{u:Nat}{b:UInt8}(h:b∈Lib.decDigits u):48<=b.toNat/\b.toNat<=57:=by
 induction u using Nat.strongRecOn with
 |_ u ih=>
  have one:∀i,i<10->∀b∈ [UInt8.ofNat (48+i)],48<=b.toNat/\b.toNat<=57:=by intro i hi b hb;obtain rfl:=xo.1 hb;rw[xgf];omega
  rw[Lib.decDigits]at h;split at h
  next aa=>exact one u aa b h
  next aa=>
   rcases xq.1 h with h|h;·exact ih (u/ 10) (by omega) h
   ·exact one (u % 10) (by omega) b h
theorem aAY(u:Nat):Int.tdiv (u:Int) 10=((u/ 10:Nat):Int):=by rw[xeo (by omega)];omega
theorem aBo(u:Nat):Int.tmod (u:Int) 10=((u % 10:Nat):Int):=by rw[xcp (by omega)];omega
theorem wV:∀(m u:Nat),u<10000000->Lib.nDigits u<=m->eU m (u:Int)=some (Lib.decDigits u)
 |0,u,_,h=>absurd (Lib.nDigits_pos u) (by omega)
 |m+1,u,hu,h=>by
  show(Tf (eU m) (u:Int)).ev=_;unfold Tf;have e0:decide ((u:Int)<0)=false:=by simp;
  by_cases aa:u<10
  ·have h1:decide ((u:Int)<10)=true:=by simp;omega
   have e1:IntKind.wrap .i64 ((u:Int)+1)=((u+1:Nat):Int):=by rw[aL (by omega) (by omega)];omega
   have e2:(decide ((0:Int)<=(u:Int))&&decide ((u:Int)<=((u+1:Nat):Int))&&decide (((u+1:Nat):Int)<=((List.length ([48,49,50,51,52,53,54,55,56,57]:List UInt8):Nat):Int)))=true:=by simp only[xg,qf,xk,xz];omega
   rw[e1];simp(disch:=omega)only[EV,e0,h1,e2,xy,aIa aa];rw[Lib.decDigits_one aa]
  ·have h1:decide ((u:Int)<10)=false:=by simp;omega
   have ih:=wV m (u/ 10) (by omega) (by rw[Lib.nDigits_big aa]at h;omega);have hm:u % 10<10:=by omega
   have e1:IntKind.wrap .i64 (((u % 10:Nat):Int)+1)=((u % 10+1:Nat):Int):=by rw[aL (by omega) (by omega)];omega
   have e2:(decide ((0:Int)<=((u % 10:Nat):Int))&&decide (((u % 10:Nat):Int)<=((u % 10+1:Nat):Int))&&decide (((u % 10+1:Nat):Int)<=((List.length ([48,49,50,51,52,53,54,55,56,57]:List UInt8):Nat):Int)))=true:=by simp only[xg,qf,xk,xz];omega
   have e3:IntKind.wrap .i64 ((u/ 10:Nat):Int)=((u/ 10:Nat):Int):=aL (by omega) (by omega);have hl:(Lib.decDigits (u/ 10)).length<=7:=by rw[Lib.decDigits_length];exact Mz (by omega)
   have e4:List.length (Lib.decDigits (u/ 10))+List.length [UInt8.ofNat (48+u % 10)]<=9223372036854775807:=by simp;omega
   rw[aAY,aBo,e1,e3];have ez:decide ((10:Int)=0)=false:=rfl;simp(disch:=omega)only[EV,e0,h1,e2,ih,xy,aIa hm,e4,ez];rw[Lib.decDigits.eq_def u,dif_neg aa]
theorem pV{k:Int}(h0:0<=k)(h1:k<10000000):eU 1000000 k=some (Lib.decDigits k.toNat):=by have:=wV 1000000 k.toNat (by omega) (OD (Mz (by omega)) (by omega));rw[show((k.toNat:Nat):Int)=k by omega]at this;exact this
theorem zD{k:Int}(h0:0<=k)(h1:k<10000000):pI k=some (Lib.decDigits k.toNat):=by
 unfold pI L3 No Lib.itoa;have e:(decide (-9223372036854775808<=k)&&decide (k<=9223372036854775807))=true:=by simp only[xg,qf];omega
 rw[qj e,qi (by omega)]
def iP(h:Int)(c:UInt8):Int:=Int.tmod (41*h+(c.toNat:Int)+1) 999979
def chk(s:List UInt8):Int:=s.foldl iP 7
theorem sM{h:Int}(h0:0<=h)(c:UInt8):0<=iP h c/\iP h c<999979:=by unfold iP;rw[xcp (by omega)];omega
theorem P7(s:List UInt8):0<=chk s/\chk s<999979:=by
 have:∀(s:List UInt8) (h:Int),0<=h->h<999979->0<=s.foldl iP h/\s.foldl iP h<999979:=by
  intro s;induction s with
  |nil=>intro h a b;exact⟨a,b⟩
  |cons c s ih=>intro h a b;obtain⟨x,y⟩:=sM a c;exact ih _ x y
 exact this s 7 (by omega) (by omega)
theorem Zl{s:List UInt8}(hs:aQ s):aAM s=some (chk s):=by unfold aQ at hs;have h0:aLI s ((7:Int),(0:Int))=_:=(dT (f:=λv=>(CS s v).ev) s (0:UInt8) (λi (h:Int)=>(h,(i:Int))) (λ_ h=>0<=h/\h<999979) iP (λh=>h) (s0:=7) ⟨by omega,by omega⟩ (λi h hi ⟨a,b⟩=>by have hb:=W4 (s.getD i 0);refine⟨?_,sM a _⟩;simp(disch:=omega)only[EV,CS,hi];unfold iP;rfl) (λh _=>by simp(disch:=omega)only[EV,CS,xi])).1;unfold aAM aBl chk;simp(disch:=omega)only[EV,h0]
theorem xN{s:List UInt8}(hs:aQ s):aEq s=some (chk s):=by unfold aQ at hs;have h0:aKD (s,(s.length:Int)) ((7:Int),(0:Int))=_:=(dT (f:=λv=>(EE (s,(s.length:Int)) v).ev) s (0:UInt8) (λi (h:Int)=>(h,(i:Int))) (λ_ h=>0<=h/\h<999979) iP (λh=>h) (s0:=7) ⟨by omega,by omega⟩ (λi h hi ⟨a,b⟩=>by have hb:=W4 (s.getD i 0);refine⟨?_,sM a _⟩;simp(disch:=omega)only[EV,EE,hi];unfold iP;rfl) (λh _=>by simp(disch:=omega)only[EV,EE,xi])).1;unfold aEq aEL chk;simp(disch:=omega)only[EV,h0]
end
section
open Go
def cF(b:Nat)(s:List UInt8):List UInt8:=s.takeWhile λc=> !(c.toNat==b)
def o0(b:Nat)(s:List UInt8):List UInt8:=s.drop ((cF b s).length+1)
theorem nC(a c:List UInt8)(b:Nat):aX (a++c) b=(aX a b||aX c b):=xhb
theorem T7(b:Nat)(s:List UInt8):(cF b s).length<=s.length:=(List.takeWhile_sublist _).length_le
theorem nW{b:Nat}{a r:List UInt8}{c:UInt8}(h:aX a b=false)(hc:c.toNat=b):cF b (a++c::r)=a:=by
 unfold cF;induction a with
 |nil=>simp[hc]
 |cons x a ih=>unfold aX at h;simp only[xet,ZY]at h;rw[Nl,xfx,h.1,nL,qj rfl,ih h.2]
theorem Ng{b:Nat}{a r:List UInt8}{c:UInt8}(h:aX a b=false)(hc:c.toNat=b):o0 b (a++c::r)=r:=by unfold o0;rw[nW h hc,show a++c::r=(a++ [c])++r by simp,xhc (by simp)]
theorem Jd{b:Nat}{s:List UInt8}(h:aX s b=false):cF b s=s:=by
 unfold cF aX at*;induction s with
 |nil=>rfl
 |cons x s ih=>simp only[xet,ZY]at h;rw[xfx,h.1,nL,qj rfl,ih h.2]
theorem xA{b:Nat}{s:List UInt8}(h:aX s b=true):∃c:UInt8,c.toNat=b/\s=cF b s++c::o0 b s/\aX (cF b s) b=false:=by
 induction s with
 |nil=>simp[aX]at h
 |cons x s ih=>
  cases hx:(x.toNat==b)with
  |true=>
   refine⟨x,by simpa using hx,?_,?_⟩;·simp[cF,o0,hx]
   ·simp[cF,hx,aX]
  |false=>
   have h':aX s b=true:=by unfold aX at h⊢;rw[xet,hx,RW]at h;exact h
   obtain⟨c,h1,h2,h3⟩:=ih h';have e:cF b (x::s)=x::cF b s:=by simp[cF,hx]
   refine⟨c,h1,?_,?_⟩
   ·have e2:o0 b (x::s)=o0 b s:=by unfold o0;rw[e,xk];rfl
    rw[e,e2,Nl,<-h2]
   ·rw[e];unfold aX at h3⊢;rw[xet,hx,RW];exact h3
theorem n7{b:Nat}{s:List UInt8}(h:aX s b=true):(cF b s).length<s.length:=by obtain⟨c,_,h2,_⟩:=xA h;have:=congrArg List.length h2;simp only[xj,xk]at this;omega
theorem FM(b:Nat)(s:List UInt8):s.take (cF b s).length=cF b s:=by
 unfold cF;induction s with
 |nil=>rfl
 |cons x s ih=>
  rw[xfx];split;·rw[xk,List.take_succ_cons,ih]
  ·rfl
theorem Sz{b:Nat}{s:List UInt8}{c:UInt8}(h:aX s b=true)(hc:c.toNat=b):s.take ((cF b s).length+1)=cF b s++ [c]:=by obtain⟨c',h1,h2,h3⟩:=xA h;have:c'=c:=xez.1 (h1.trans hc.symm);subst this;generalize hb:cF b s=p at*;rw[h2,xgp,Gb (by omega)];simp
theorem rT(c:UInt8):∀s:List UInt8,Lib.indexByte s c=if aX s c.toNat then((cF c.toNat s).length:Int)else-1
 | []=>rfl
 |x::s=>by
  have ih:=rT c s;unfold Lib.indexByte;have e:(x==c)=(x.toNat==c.toNat):=by rw[CZ,qh,qh,xez]
  rw[e];cases hx:(x.toNat==c.toNat)with
  |true=>simp[aX,hx,cF]
  |false=>
   have e1:aX (x::s) c.toNat=aX s c.toNat:=by simp[aX,hx]
   have e2:cF c.toNat (x::s)=x::cF c.toNat s:=by simp[cF,hx]
   rw[e1,e2];simp only[tN,if_false];rw[ih];cases aX s c.toNat with
   |true=>simp
   |false=>simp
theorem yI(s:List UInt8)(c:UInt8):jU s (c.toNat:Int)=if aX s c.toNat then((cF c.toNat s).length:Int)else-1:=by unfold jU;rw[aIk];exact rT c s
theorem X3(s:List UInt8)(c:UInt8):JR s (c.toNat:Int)=some (if aX s c.toNat then((cF c.toNat s).length:Int)else-1):=by unfold JR aDk bE bD bO;simp(disch:=omega)only[EV,yI]
theorem aAb{s:List UInt8}(hs:aQ s)(c:UInt8):T5 s [c]=some (if aX s c.toNat then(cF c.toNat s,o0 c.toNat s,true)else(s,[],false)):=by
 unfold aQ at hs;have e:bB s [c]=some (if aX s c.toNat then((cF c.toNat s).length:Int)else-1):=by
  rw[N5,yI];cases h:([c]==s)with
  |false=>rfl
  |true=>have:=beq_iff_eq.1 h;subst this;simp[aX,cF]
 unfold T5 YH eK cW;cases h:aX s c.toNat with
 |false=>rw[h]at e;have:decide ((0:Int)<= -1)=false:=rfl;simp only[tN,if_false]at e;simp(disch:=omega)only[EV,e,this,h];rfl
 |true=>
  rw[h]at e;simp only[if_true]at e;have hl:=n7 h;have e1:decide ((0:Int)<=((cF c.toNat s).length:Int))=true:=by simp
  have e2:decide (((cF c.toNat s).length:Int)<=(s.length:Int))=true:=by simp;omega
  have e3:IntKind.wrap .i64 (((cF c.toNat s).length:Int)+((List.length [c]:Nat):Int))=(((cF c.toNat s).length+1:Nat):Int):=by rw[aL]<;>simp<;>omega
  have e4:(decide ((0:Int)<=(((cF c.toNat s).length+1:Nat):Int))&&decide ((((cF c.toNat s).length+1:Nat):Int)<=(s.length:Int)))=true:=by simp only[xg,qf];omega
  rw[e];simp(disch:=omega)only[EV,e1,e2];rw[e3];simp(disch:=omega)only[EV,e4,xy];rw[FM,tM];rfl
def gQ(k:Int)(c r:List UInt8):List UInt8:=(((Lib.decDigits k.toNat++ [32])++c)++ [64])++r
def iC(s:List UInt8):List UInt8:=(s++ [35])++Lib.decDigits (chk s).toNat
def line(k:Int)(c r:List UInt8):List UInt8:=iC (gQ k c r)++ [10]
def Sk(k:Int)(c r:List UInt8):Bool:=bZ k 0 59&&bX c r
def Ig(k:Int)(c r:List UInt8):List UInt8×Bool:=if Sk k c r then(line k c r,true)else([],false)
theorem fV{u:Nat}(h:u<10000000):(Lib.decDigits u).length<=7:=by rw[Lib.decDigits_length];exact Mz h
theorem yZ(s:List UInt8):(chk s).toNat<10000000:=by have:=P7 s;omega
theorem wJ(s:List UInt8):(iC s).length<=s.length+8:=by have:=fV (yZ s);unfold iC;simp only[xj,xk,xz];omega
theorem zC{u b:Nat}(h:b<48\/57<b):aX (Lib.decDigits u) b=false:=by unfold aX;rw[Vu];intro x hx;have:=uN hx;simp only[qh];omega
theorem eX{c r:List UInt8}(h:bX c r=true):aX c 35=false/\aX r 35=false/\aX c 64=false/\aX c 10=false/\aX r 10=false/\c.length<=160/\r.length<=200:=by
 unfold bX jJ at h;simp only[xg,E5,qf,xr]at h;obtain⟨_,⟨h1,h2⟩,h3,h4,h5⟩:=h;have key:∀s:List UInt8,(∀x∈s,wG x=true)->aX s 35=false/\aX s 10=false:=by
  intro s hs;unfold aX;rw[Vu,Vu];constructor<;>intro x hx<;>have:=hs x hx<;>unfold wG at this<;>simp only[xg,qf,E5,qg]at this<;>simp only[qh];·exact this.2.2
  ·omega
 exact⟨(key c h1).1,(key r h4).1,h3,(key c h1).2,(key r h4).2,by omega,by omega⟩
theorem uM{k:Int}{c r:List UInt8}(hk:bZ k 0 59=true):(gQ k c r).length<=9+c.length+r.length:=by unfold bZ at hk;simp only[xg,qf]at hk;have:=fV (u:=k.toNat) (by omega);unfold gQ;simp only[xj,xk,xz];omega
theorem nO{k:Int}{c r:List UInt8}(h:bX c r=true):aX (gQ k c r) 35=false:=by obtain⟨h1,h2,_⟩:=eX h;unfold gQ;simp only[nC,h1,h2,zC (u:=k.toNat) (b:=35) (by omega),xei,RW];rfl
theorem Dp{s:List UInt8}(h:aX s 35=false):cF 35 (iC s)=s:=by unfold iC;rw[Vt];exact nW h rfl
theorem Gl(k:Int)(c r:List UInt8):cF 32 (gQ k c r)=Lib.decDigits k.toNat/\o0 32 (gQ k c r)=c++64::r/\aX (gQ k c r) 32=true:=by
 have e:gQ k c r=Lib.decDigits k.toNat++32::(c++64::r):=by simp[gQ]
 rw[e];have h:=zC (u:=k.toNat) (b:=32) (by omega);exact⟨nW h rfl,Ng h rfl,by rw[nC];simp[aX]⟩
theorem Do{c r:List UInt8}(h:aX c 64=false):cF 64 (c++64::r)=c/\o0 64 (c++64::r)=r/\aX (c++64::r) 64=true:=
 ⟨nW h rfl,Ng h rfl,by rw[nC];simp[aX]⟩
theorem Su{s:List UInt8}(hs:(s.length:Int)<=1000000):OP s=some (iC s):=by
 have h:=P7 s;have hd:=fV (yZ s);have e0:List.length s+List.length ([35]:List UInt8)<=9223372036854775807:=by simp;omega
 have e1:List.length (s++([35]:List UInt8))+(Lib.decDigits (chk s).toNat).length<=9223372036854775807:=by simp;omega
 unfold OP aBz iC;simp(disch:=omega)only[EV,Zl (by unfold aQ;omega:aQ s),pV h.1 (by omega),e0,e1]
theorem lW{s:List UInt8}(hs:s.length<=3000)(aa:aX s 35=false):R7 s=some (iC s,true):=by
 have h:=P7 s;have hd:=fV (yZ s);have e0:List.length s+List.length ([35]:List UInt8)<=9223372036854775807:=by simp;omega
 have e1:List.length (s++([35]:List UInt8))+(Lib.decDigits (chk s).toNat).length<=9223372036854775807:=by simp;omega
 have e2:¬(4000:Int)<(s.length:Int):=by omega
 have e3:¬(4000:Int)<((List.length ((s++([35]:List UInt8))++Lib.decDigits (chk s).toNat):Nat):Int):=by simp only[xj,xk,xz];omega
 have e4:Dk s ([35]:List UInt8)=some (aX s 35):=jT s 35;unfold R7 Qv iC;simp(disch:=omega)only[EV,xN (by unfold aQ;omega:aQ s),zD h.1 (by omega),e0,e1,e2,e3,e4,aa]
theorem tK{s:List UInt8}(hs:aQ s):∃x,R7 s=some x:=by
 by_cases h1:(4000:Int)<(s.length:Int);·unfold R7 Qv;simp(disch:=omega)only[EV,h1];exact⟨_,rfl⟩
 ·cases aa:aX s 35 with
  |true=>have e4:Dk s ([35]:List UInt8)=some (aX s 35):=jT s 35;unfold R7 Qv;simp(disch:=omega)only[EV,h1,e4,aa];exact⟨_,rfl⟩
  |false=>
   have h:=P7 s;have hd:=fV (yZ s);have e0:List.length s+List.length ([35]:List UInt8)<=9223372036854775807:=by simp;omega
   have e1:List.length (s++([35]:List UInt8))+(Lib.decDigits (chk s).toNat).length<=9223372036854775807:=by simp;omega
   have e4:Dk s ([35]:List UInt8)=some (aX s 35):=jT s 35;unfold R7 Qv;simp(disch:=omega)only[EV,xN hs,zD h.1 (by omega),e0,e1,h1,e4,aa];split<;>exact⟨_,rfl⟩
theorem d7{k:Int}{c r:List UInt8}(hk:bZ k 0 59=true)(hc:(c.length:Int)<=100000)(hr:(r.length:Int)<=100000):ML k c r=some (line k c r):=by
 have hl:=uM (c:=c) (r:=r) hk;have hs:=wJ (gQ k c r);unfold bZ at hk;simp only[xg,qf]at hk;have hd:=fV (u:=k.toNat) (by omega);have e1:List.length (Lib.decDigits k.toNat)+List.length ([32]:List UInt8)<=9223372036854775807:=by simp;omega
 have e2:List.length (Lib.decDigits k.toNat++([32]:List UInt8))+List.length c<=9223372036854775807:=by simp;omega
 have e3:List.length ((Lib.decDigits k.toNat++([32]:List UInt8))++c)+List.length ([64]:List UInt8)<=9223372036854775807:=by simp only[xj,xk,xz];omega
 have e4:List.length (((Lib.decDigits k.toNat++([32]:List UInt8))++c)++([64]:List UInt8))+List.length r<=9223372036854775807:=by simp only[xj,xk,xz];omega
 have e5:OP ((((Lib.decDigits k.toNat++([32]:List UInt8))++c)++([64]:List UInt8))++r)=some (iC (gQ k c r)):=Su (s:=gQ k c r) (by omega);have e6:List.length (iC (gQ k c r))+List.length ([10]:List UInt8)<=9223372036854775807:=by simp;omega
 unfold ML aFN;simp(disch:=omega)only[EV,pV hk.1 (by omega),e1,e2,e3,e4,e5,e6];rfl
theorem kK{k:Int}{c r:List UInt8}(hc:aQ c)(hr:aQ r):PY k c r=some (Ig k c r):=by
 unfold PY aBe Ig Sk;simp(disch:=omega)only[EV,dK,fH hc hr];cases h1:bZ k 0 59 with
 |false=>rfl
 |true=>
  cases h2:bX c r with
  |false=>rfl
  |true=>
   obtain⟨_,_,_,_,_,a,b⟩:=eX h2;have hl:=uM (c:=c) (r:=r) h1;have hs:=wJ (gQ k c r);have hk:=h1;unfold bZ at hk;simp only[xg,qf]at hk;have hd:=fV (u:=k.toNat) (by omega);have e1:List.length (Lib.decDigits k.toNat)+List.length ([32]:List UInt8)<=9223372036854775807:=by simp;omega
   have e2:List.length (Lib.decDigits k.toNat++([32]:List UInt8))+List.length c<=9223372036854775807:=by simp;omega
   have e3:List.length ((Lib.decDigits k.toNat++([32]:List UInt8))++c)+List.length ([64]:List UInt8)<=9223372036854775807:=by simp only[xj,xk,xz];omega
   have e4:List.length (((Lib.decDigits k.toNat++([32]:List UInt8))++c)++([64]:List UInt8))+List.length r<=9223372036854775807:=by simp only[xj,xk,xz];omega
   have e5:R7 ((((Lib.decDigits k.toNat++([32]:List UInt8))++c)++([64]:List UInt8))++r)=some (iC (gQ k c r),true):=lW (s:=gQ k c r) (by omega) (nO h2);have e6:List.length (iC (gQ k c r))+List.length ([10]:List UInt8)<=9223372036854775807:=by simp;omega
   simp(disch:=omega)only[EV,zD hk.1 (by omega),e1,e2,e3,e4,e5,e6];rfl
end
theorem a8{l:List Int}(hl:aI l):D5 l=some l:=by unfold aI at hl;unfold D5 sQ;rw[qj (by omega)]
theorem Uz{f:Int×List (List Int)->Option ((Int×List (List Int))⊕List (List Int))}{x:List (List Int)}
  (aa:∀i:Nat,i<x.length->f ((i:Int),x.take i)=some (.inl (((i+1:Nat):Int),x.take i++ [x.getD i []]))) (ab:f ((x.length:Int),x)=some (.inr x)):aB f (0,[])=some x:=by
 have:=(aR (f:=f) (n:=x.length) (mk:=λi (_:Unit)=>((i:Int),x.take i)) (I:=λ_ _=>True) (g:=λs _=>s) (fin:=λ_=>x) (s0:=()) trivial
  (λi s hi _=>⟨by rw[aa i hi,dP [] hi],trivial⟩)
  (λs _=>by rw[tM,ab])).1
 simpa using this
theorem DL{α:Type}(l:List α)(a b:α):(l++ [a]).set l.length b=l++ [b]:=by simp
theorem U3{ds:List (List Int)}(hd:dL ds):DC ds=some ds:=by
 unfold DC LT;have hl:=hd.1;have h0:=Uz (f:=λv=>(Er (ds,((ds.length:Nat):Int)) v).ev) (x:=ds)
  (λi hi=>by
   have ht:(ds.take i).length<=i:=xfy _ _;have hg:((ds.take i).length+1)*24<=140737488355328:=by omega
   simp(disch:=omega)only[EV,Er,hi,a8 (hd.2 _ (aG (d:=[]) hi)),DL,hg];rfl)
  (by simp(disch:=omega)only[EV,Er,xi])
 simp(disch:=omega)only[EV,aCc,h0]
theorem kH{o:List Int}{ds:List (List Int)}{s:List Int}(ho:aI o)(hd:dL ds)(hs:aI s)(c:Int):Hh o ds s c=some (c,o,ds,s):=by unfold Hh PZ;simp(disch:=omega)only[EV,a8 ho,a8 hs,U3 hd]
def MA(b:Bool)(o:List Int)(ds:List (List Int))(s:List Int)(c:Int):Int×List UInt8×List UInt8×Int×Bool×List Int×List (List Int)×List Int:=bif b then(c,[],[],0,true,o,ds,s)else(0,[],[],0,false,[],[],[])
theorem wZ{o:List Int}{ds:List (List Int)}{s:List Int}(ho:aI o)(hd:dL ds)(hs:aI s)(c:Int):aGg o ds s c=some (MA (bV o ds s c) o ds s c):=by unfold aGg aBc;simp(disch:=omega)only[EV,cC ho hd hs,kH ho hd hs];cases bV o ds s c<;>rfl
def dg(x:Int):List UInt8:=Lib.decDigits x.toNat
def bM(l:List Int):List UInt8:=Lib.join (l.map dg) [32]
def jQ(l:List Int):List UInt8:=if l=[]then[110,111,110,101]else bM l
def j6(l:List Int):Prop:=l.length<=7/\∀x∈l,0<=x/\x<1000000
theorem Cn:∀l:List (List UInt8),(∀x∈l,x.length<=7)->(Lib.join l [32]).length<=8*l.length
 | [],_=>by simp[Lib.join_nil]
 | [x],h=>by rw[Lib.join_one];have:=h x (xo.2 rfl);simp only[xk,xz];omega
 |x::y::r,h=>by have ih:=Cn (y::r) λz hz=>h z (xt _ hz);have hx:=h x xu;rw[Lib.join_cons]at ih⊢;unfold Lib.joinTail at ih⊢;simp only[P0,List.flatten_cons,xj,xk,xz]at ih⊢;omega
theorem aDO{l:List Int}(h:j6 l):∀x∈l.map dg,x.length<=7/\aX x 32=false:=λx hx=>by obtain⟨y,hy,rfl⟩:=xaf.1 hx;have:=h.2 y hy;exact⟨fV (by omega),zC (by omega)⟩
theorem vN{l:List Int}(h:j6 l):(bM l).length<=56:=by have:=Cn (l.map dg) λx hx=>((aDO h) x hx).1;rw[Ge]at this;have:=h.1;unfold bM;omega
theorem Qa{l:List Int}:(List.range l.length).map (λi=>dg (l.getD i 0))=l.map dg:=by
 apply xem;intro i;rw[oC,oC];by_cases hi:i<l.length;·rw[IS hi,xf hi,oN,oN,xd,xf hi];rfl
 ·rw[MM (by simp;omega),MM (by omega)];rfl
theorem II{l:List Int}(h:j6 l):Rb (l.map dg) [32]=some (bM l):=by
 have h1:=h.1;have h2:=(vN h)
 unfold bM at h2;unfold Rb M7;rw[qj ⟨by rw[Ge];omega,by omega⟩];rfl
theorem kO{l:List Int}(h:j6 l):AI l=some (bM l):=by
 have h1:=h.1;have aa:∀x:List UInt8,List.length [x]=1:=λ_=>rfl;have key:=iT (f:=λv=>(Xl (l,(l.length:Int)) v).ev) (n:=l.length) (λi (acc:List (List UInt8))=>((i:Int),acc)) (λi=>dg (l.getD i 0)) (λacc=>acc)
  (λi acc hi ha=>by
   have hx:=h.2 _ (aG (d:=0) hi);have hb:(acc.length+1)*16<=140737488355328:=by omega
   simp(disch:=omega)only[EV,Xl,hi,zD hx.1 (show l.getD i 0<10000000 by omega),aa,hb];rfl)
  (λacc _=>by simp(disch:=omega)only[EV,Xl,xi])
 rw[Qa]at key;have k1:aIG (l,(l.length:Int)) ((0:Int),([]:List (List UInt8)))=some (l.map dg):=key;unfold AI aBH;simp(disch:=omega)only[EV,k1,(II h)]
theorem yG{l:List Int}(h:j6 l):BM l=some (jQ l):=by
 unfold BM YP jQ;cases l with
 |nil=>rfl
 |cons x r=>have hz:(((((x::r).length:Nat):Int))==0)=false:=beq_eq_false_iff_ne.2 (by simp;omega);simp(disch:=omega)only[EV,hz,kO h];rw[qi (by simp)]
def mO(n:Nat)(k:Int):List (List Int):=(aN n).filter λs=>decide ((s.length:Int)<=k)
theorem upTo_mem{n:Nat}{k:Int}{s:List Int}:s∈mO n k↔s∈aN n/\(s.length:Int)<=k:=by unfold mO;rw[xaj,qf]
theorem X1{n:Nat}(h7:n<=7){k:Int}(h1:1<=k/\k<=(n:Int)):mO n k≠ []:=λe=>by have h:=zP h7 (k:=k) h1.1 h1.2;obtain⟨s,hs⟩:=List.exists_mem_of_ne_nil _ h;obtain⟨a,b⟩:=ofSz_mem.1 hs;have:s∈mO n k:=upTo_mem.2 ⟨a,by omega⟩;rw[e]at this;cases this
def l3(ds:List (List Int))(n:Nat)(k:Int):List Int:=aW (Vq ds) (mO n k)
theorem Gj{o:List Int}{ds:List (List Int)}{k:Int}(hf:Fld o ds)(hm:Jo o ds k=some true)(hk:1<=k/\k<=(o.length:Int)):GC o ds k=some (true,l3 ds o.length k):=by
 have h7:=hf.len;have h1:=hf.pos;have hS:=pD h1 h7;obtain⟨x,e1,e2,e3⟩:=hS.im;have ab:=kJ hS h7;have ak:x.1.length=(aN o.length).length:=by rw[<-e3,iO]
 obtain⟨y,k1,k2,k3⟩:=rS (x:=x) e2 (by omega) (p:=λad=>Option.bind (LX ad.1 k) λae=>some ae) (q:=λs=> !decide ((s.length:Int)<=k)) λs hs=>by
  rw[e3]at hs;obtain⟨p1,p2,p3⟩:=cO h7 hS hs;unfold aI at p3;show Option.bind (LX s k) _=_;unfold LX aCj;simp(disch:=omega)only[EV];by_cases h:(s.length:Int)<=k;·rw[qc h,qd (by omega)];rfl
  ·rw[qd h,qc (by omega)];rfl
 have aa:bH y.1 y.2=mO o.length k:=by rw[k3,e3];unfold mO;congr 1;funext s;simp
 have al:y.1.length=(mO o.length k).length:=by rw[<-aa,iO]
 have ai:=xar.2 (X1 h7 (k:=k) hk);have aj:(mO o.length k).length<=(aN o.length).length:=xdt _ _;have hle:=wH (x:=y) k2 (by omega) (by omega) (p:=λaf=>Option.bind (Rp o ds af.1) λah=>some ah) (g:=Vq ds) λs hs=>by rw[aa]at hs;obtain⟨p1,p2,_⟩:=cO h7 hS (upTo_mem.1 hs).1;show Option.bind (Rp o ds s) _=_;rw[Ei hf p1 p2];rfl
 rw[aa]at hle;unfold GC LM aKY aBu l3;simp(disch:=omega)only[EV,hm,e1,k1,hle]
section
open Go
theorem zV{α:Type}{l:List α}{d:α}{i:Nat}(h:i<l.length):l.getD i d=l[i]:=by rw[xd,xf h,xM]
theorem Bv{α:Type}{l:List α}(r:List α){d:α}{i:Nat}(h:i<l.length):(l++r).getD i d=l.getD i d:=by rw[xd,xd,w7 h]
theorem sK{s:List UInt8}(hs:aQ s)(b:Nat):∃ps,yM s (b:Int)=some ps/\0<ps.length/\ps.getD 0 []=cF b s/\(ps.length<2↔aX s b=false):=by
 unfold aQ at hs;have pre:∀(n:Nat) (hn:n<=s.length),(∀j,j<n->((s.getD j 0).toNat==b)=false)->aX (s.take n) b=false:=by intro n hn h;unfold aX;rw[Vu];intro x hx;obtain⟨j,hj,rfl⟩:=xbv.1 hx;rw[xw]at hj;have:=h j (by omega);rw[zV (by omega)]at this;rw[List.getElem_take];simp[this]
 obtain⟨r,hr,hQ⟩:=aK (f:=λv=>(F7 (s,(b:Int)) v).ev) (n:=s.length) (λi (q:Int×List (List UInt8))=>(q.1,(i:Int),q.2))
  (λi q=>0<=q.1/\q.1<=i/\q.2.length<=i/\((q.2=[]/\q.1=0/\∀j,j<i->((s.getD j 0).toNat==b)=false)\/(0<q.2.length/\q.2.getD 0 []=cF b s/\aX s b=true)))
  (λq=>0<=q.1/\q.1<=s.length/\q.2.length<=s.length/\((q.2=[]/\q.1=0/\aX s b=false)\/(0<q.2.length/\q.2.getD 0 []=cF b s/\aX s b=true)))
  (s0:=((0:Int),([]:List (List UInt8)))) ⟨by simp,by simp,by simp,.inl ⟨rfl,rfl,λj h=>absurd h (by omega)⟩⟩
  (λi q hi ⟨h1,h2,h3,h4⟩=>by
   obtain⟨st,ps⟩:=q;simp only at h1 h2 h3 h4;have g1:st<=(i:Int):=h2;have g2:(i:Int)<=(s.length:Int):=by omega
   left;cases hb:((s.getD i 0).toNat==b)with
   |false=>
    refine⟨(st,ps),?_,h1,by simp only;omega,by simp only;omega,?_⟩;·simp(disch:=omega)only[EV,F7,hi,D6,hb];rfl
    ·rcases h4 with⟨a,c,d⟩|h4
     ·refine .inl ⟨a,c,λj hj=>?_⟩;rcases ED j i with h|h;·exact d j h
      ·obtain rfl:j=i:=by omega
       exact hb
     ·exact .inr h4
   |true=>
    have g3:(ps.length+List.length ([(List.drop st.toNat (List.take i s))]:List (List UInt8)))*16<=140737488355328:=by simp only[xk,xz];omega
    refine⟨((i:Int)+1,ps++ [List.drop st.toNat (List.take i s)]),?_,by simp only;omega,by simp only;omega,by simp only[xj,xk,xz];omega,.inr ?_⟩;·simp(disch:=omega)only[EV,F7,hi,D6,hb,h1,g1,g2,g3];rfl
    ·have aa:aX s b=true:=by unfold aX;rw[xbh];exact⟨s.getD i 0,by rw[zV hi];exact xed hi,hb⟩
     refine⟨by simp,?_,aa⟩;rcases h4 with⟨a,c,d⟩|⟨a,c,d⟩
     ·subst a;subst c;have hp:=pre i (by omega) d;have e:s=s.take i++s.getD i 0::s.drop (i+1):=by rw[zV hi,<-Nj hi,xej]
      have h3:cF b s=s.take i:=by have:=nW (r:=s.drop (i+1)) hp (by simpa using hb:(s.getD i 0).toNat=b);rwa [<-e]at this
      rw[h3];simp
     ·rw[Bv _ a];exact c)
  (λq ⟨h1,h2,h3,h4⟩=>⟨q,by simp(disch:=omega)only[EV,F7,xi],h1,h2,h3,by
   rcases h4 with⟨a,c,d⟩|h4;·refine .inl ⟨a,c,?_⟩;have:=pre s.length (xm _) d;rwa [tM]at this
   ·exact .inr h4⟩)
 have h0:aDw (s,(b:Int)) ((0:Int),(0:Int),([]:List (List UInt8)))=some r:=hr;obtain⟨st,ps⟩:=r;obtain⟨h1,h2,h3,h4⟩:=hQ;simp only at h1 h2 h3 h4;have g3:(ps.length+List.length ([(List.drop st.toNat (List.take s.length s))]:List (List UInt8)))*16<=140737488355328:=by simp only[xk,xz];omega
 refine⟨ps++ [List.drop st.toNat (List.take s.length s)],?_,by simp,?_,?_⟩;·unfold yM LL;simp(disch:=omega)only[EV,h0,h1,h2,g3]
 ·rcases h4 with⟨rfl,rfl,h⟩|⟨a,c,d⟩
  ·simp[Jd h]
  ·rw[Bv _ a];exact c
 ·rcases h4 with⟨rfl,rfl,h⟩|⟨a,c,d⟩
  ·simp[h]
  ·simp only[xj,xk,xz,d];constructor;·intro h;omega
   ·intro h;cases h
def Dec(k:Int)(t c r:List UInt8):Prop:=bZ k 0 59=true/\bX c r=true/\line k c r=t++ [10]
def r7(t:List UInt8)(k:Int):List UInt8×List UInt8×Bool:=
 if(cF 35 t).length<(Lib.decDigits k.toNat++ [32]).length then([],[],false)
 else if(cF 35 t).take (Lib.decDigits k.toNat++ [32]).length==Lib.decDigits k.toNat++ [32]then
  if aX ((cF 35 t).drop (Lib.decDigits k.toNat++ [32]).length) 64 then
   if bX (cF 64 ((cF 35 t).drop (Lib.decDigits k.toNat++ [32]).length)) (o0 64 ((cF 35 t).drop (Lib.decDigits k.toNat++ [32]).length))then
    (cF 64 ((cF 35 t).drop (Lib.decDigits k.toNat++ [32]).length),(o0 64 ((cF 35 t).drop (Lib.decDigits k.toNat++ [32]).length),
     line k (cF 64 ((cF 35 t).drop (Lib.decDigits k.toNat++ [32]).length)) (o0 64 ((cF 35 t).drop (Lib.decDigits k.toNat++ [32]).length))==t++ [10]))
   else(cF 64 ((cF 35 t).drop (Lib.decDigits k.toNat++ [32]).length),o0 64 ((cF 35 t).drop (Lib.decDigits k.toNat++ [32]).length),false)
  else([],[],false)
 else([],[],false)
def yR(k:Int)(t:List UInt8):Option (List UInt8×List UInt8):=
 if bZ k 0 59 then if(r7 t k).2.2 then some ((r7 t k).1,(r7 t k).2.1)else none else none
theorem N9{k:Int}{t c r:List UInt8}(h:line k c r=t++ [10]):t=iC (gQ k c r):=(List.append_cancel_right h).symm
theorem Z4{k:Int}{t c r:List UInt8}(h:Dec k t c r):yR k t=some (c,r):=by
 obtain⟨h1,h2,h3⟩:=h;have ht:=N9 h3;have hb:cF 35 t=gQ k c r:=by rw[ht];exact Dp (nO h2)
 have aa:=(eX h2).2.2.1;obtain⟨e1,e2,e3⟩:=Do (r:=r) aa;have et:gQ k c r=(Lib.decDigits k.toNat++ [32])++(c++64::r):=by simp[gQ]
 unfold yR;have e4:(cF 35 t).drop (Lib.decDigits k.toNat++ [32]).length=c++64::r:=by rw[hb,et];exact xhc rfl
 have e5:(cF 35 t).take (Lib.decDigits k.toNat++ [32]).length=Lib.decDigits k.toNat++ [32]:=by rw[hb,et];exact List.take_left' rfl
 have e6:¬(cF 35 t).length<(Lib.decDigits k.toNat++ [32]).length:=by rw[hb,et,xj];omega
 have e7:r7 t k=(c,r,true):=by unfold r7;rw[e4,e5,e1,e2,e3,qi e6];simp[h2,h3]
 rw[e7];simp[h1]
theorem Zt{k:Int}{t c r:List UInt8}(h:yR k t=some (c,r)):Dec k t c r:=by
 unfold yR at h;split at h
 next h1=>
  split at h
  next h2=>
   unfold r7 at h h2;split at h2;·cases h2
   ·next h3=>
    rw[qi h3]at h;split at h2
    next h4=>
     rw[qj h4]at h;split at h2
     next h5=>
      rw[qj h5]at h;split at h2
      next h6=>
       rw[qj h6]at h;simp only[xe,Ut]at h;obtain⟨rfl,rfl⟩:=h;exact⟨h1,h6,by simpa using h2⟩
      next=>cases h2
     next=>cases h2
    next=>cases h2
  next=>cases h
 next=>cases h
theorem T0{t:List UInt8}{k:Int}(ht:aQ t)(hk:bZ k 0 59=true):aDZ t k=some (r7 t k):=by
 have aa:=hk;unfold bZ at aa;simp only[xg,qf]at aa;have hd:=fV (u:=k.toNat) (by omega);have ad:=ht;unfold aQ at ad;have hn:=pV aa.1 (by omega);obtain⟨ps,p1,p2,p3,p4⟩:=sK ht 35;have ae:yM t (35:Int)=some ps:=p1;have ak:=T7 35 t;have e1:List.length (Lib.decDigits k.toNat)+List.length ([32]:List UInt8)<=9223372036854775807:=by simp;omega
 have z:Int.toNat (0:Int)=0:=rfl;have al:(0:Int)<(ps.length:Int):=by omega
 unfold aDZ aEy r7;generalize ab:Lib.decDigits k.toNat++ [32]=pre at*;simp(disch:=omega)only[EV,hn,e1,ab,ae,z,p2,p3];generalize af:cF 35 t=body at*;by_cases h1:body.length<pre.length;·simp(disch:=omega)only[EV,h1]
 ·have g1:(0:Int)<=(pre.length:Int):=by omega
  have g2:(pre.length:Int)<=(body.length:Int):=by omega
  simp(disch:=omega)only[EV,h1,g1,g2,Sy];cases h2:(List.take pre.length body==pre)with
  |false=>simp(disch:=omega)only[EV];rfl
  |true=>
   simp(disch:=omega)only[EV,tM];have ao:(body.drop pre.length).length<=body.length:=by rw[tO];omega
   generalize ah:body.drop pre.length=rest at*;have ai:aQ rest:=by unfold aQ;omega
   obtain⟨qs,q1,q2,q3,q4⟩:=sK ai 64;have aj:yM rest (64:Int)=some qs:=q1;have ar:(0:Int)<(qs.length:Int):=by omega
   simp(disch:=omega)only[EV,aj,q2,q3,D6];cases h3:aX rest 64 with
   |false=>rw[Jd h3];simp(disch:=omega)only[EV,qk];rfl
   |true=>
    have hl:=n7 h3;have g3:((cF 64 rest).length==rest.length)=false:=by rw[qg];omega
    have g4:(0:Int)<=((cF 64 rest).length:Int)+1:=by omega
    have g5:((cF 64 rest).length:Int)+1<=(rest.length:Int):=by omega
    have g6:Int.toNat (((cF 64 rest).length:Int)+1)=(cF 64 rest).length+1:=by omega
    have au:(o0 64 rest).length<=rest.length:=by unfold o0;rw[tO];omega
    have e7:List.drop ((cF 64 rest).length+1) rest=o0 64 rest:=rfl;have s1:aQ (cF 64 rest):=by unfold aQ;omega
    have s2:aQ (o0 64 rest):=by unfold aQ;omega
    simp(disch:=omega)only[EV,g3,g4,g5,g6,e7,nT s1 s2];cases h4:bX (cF 64 rest) (o0 64 rest)with
    |false=>simp(disch:=omega)only[EV];rfl
    |true=>
     obtain⟨_,_,_,_,_,a,b⟩:=eX h4;have e8:List.length t+List.length ([10]:List UInt8)<=9223372036854775807:=by simp;omega
     simp(disch:=omega)only[EV,d7 (c:=cF 64 rest) (r:=o0 64 rest) hk (by omega) (by omega),e8]
abbrev RS:=Int×List (List UInt8×List UInt8)
def bL(s:List UInt8)(v:RS):RS⊕RS:=
 if aX (s.drop v.1.toNat) 10 then
  match yR (v.2.length:Int) (cF 10 (s.drop v.1.toNat))with
  |some p=>.inl (v.1+((cF 10 (s.drop v.1.toNat)).length:Int)+1,v.2++ [p])
  |none=>.inr v
 else .inr v
def RI(s:List UInt8)(v:RS):Prop:=0<=v.1/\v.1<=(s.length:Int)/\v.2.length<=60
theorem PN{k:Int}{t:List UInt8}{p:List UInt8×List UInt8}(h:yR k t=some p):bZ k 0 59=true:=by
 unfold yR at h;split at h
 next h1=>exact h1
 next=>cases h
theorem Ec{s:List UInt8}{v:RS}(h:RI s v):match bL s v with
  | .inl v'=>RI s v'/\(s.length-v'.1.toNat)<(s.length-v.1.toNat)
  | .inr r=>RI s r:=by
 obtain⟨h1,h2,h3⟩:=h;unfold bL;cases hb:aX (s.drop v.1.toNat) 10 with
 |true=>
  simp only[if_true];have hl:=n7 hb;rw[tO]at hl;cases hd:yR (v.2.length:Int) (cF 10 (s.drop v.1.toNat))with
  |some p=>have:=isIn_iff.1 (PN hd);refine⟨⟨by simp only;omega,by simp only;omega,by simp only[xj,xk,xz];omega⟩,?_⟩;simp only;omega
  |none=>exact⟨h1,h2,h3⟩
 |false=>exact⟨h1,h2,h3⟩
theorem uF{s:List UInt8}(hs:aQ s){v:RS}(h:RI s v):(CX s v).ev=some (bL s v):=by
 obtain⟨h1,h2,h3⟩:=h;have aa:=hs;unfold aQ at aa;obtain⟨off,recs⟩:=v;simp only at h1 h2 h3;unfold CX bL;by_cases g1:off<(s.length:Int)
 ·by_cases g2:((recs.length:Nat):Int)<(60:Int)
  ·have g3:off<=(s.length:Int):=h2;simp(disch:=omega)only[EV,g1,g2,g3,h1,tM];have af:(s.drop off.toNat).length+off.toNat=s.length:=by rw[tO];omega
   generalize ab:s.drop off.toNat=rest at*;have ad:aQ rest:=by unfold aQ;omega
   obtain⟨ps,p1,p2,p3,p4⟩:=sK ad 10;have ae:yM rest (10:Int)=some ps:=p1;have ah:(0:Int)<(ps.length:Int):=by omega
   have ai:=T7 10 rest;have hk:bZ ((recs.length:Nat):Int) 0 59=true:=isIn_iff.2 ⟨by omega,by omega⟩;have z:Int.toNat (0:Int)=0:=rfl;simp(disch:=omega)only[EV,ae,p2,p3,z,T0 (t:=cF 10 rest) (by unfold aQ;omega) hk];cases hb:aX rest 10 with
   |false=>
    have e:((ps.length:Nat):Int)<2:=by have:=p4.2 hb;omega
    simp(disch:=omega)only[EV,e];rfl
   |true=>
    have e:¬((ps.length:Nat):Int)<2:=by intro h;have:=p4.1 (by omega);rw[hb]at this;cases this
    have hl:=n7 hb;unfold yR;simp(disch:=omega)only[EV,e,hk];cases hd:(r7 (cF 10 rest) ((recs.length:Nat):Int)).2.2 with
    |false=>simp(disch:=omega)only[EV];rfl
    |true=>
     have g4:(recs.length+List.length ([((r7 (cF 10 rest) ((recs.length:Nat):Int)).1,(r7 (cF 10 rest) ((recs.length:Nat):Int)).2.1)]:List (List UInt8×List UInt8)))*32<=140737488355328:=by simp only[xk,xz];omega
     simp(disch:=omega)only[EV,g4]
  ·have e:yR ((recs.length:Nat):Int) (cF 10 (s.drop off.toNat))=none:=by unfold yR;rw[qi];intro h;have:=isIn_iff.1 h;omega
   rw[e];simp(disch:=omega)only[EV,g1,g2];split<;>rfl
 ·have e:s.drop off.toNat=[]:=RU (by omega);rw[e];simp(disch:=omega)only[EV,g1];rfl
theorem Y8{s:List UInt8}(hs:aQ s)(c:UInt8):∃y b,T5 s [c]=some (cF c.toNat s,y,b)/\aQ y/\(aX s c.toNat=true->y=o0 c.toNat s):=by
 have h:=aAb hs c;have aa:=hs;unfold aQ at aa;cases hb:aX s c.toNat with
 |true=>rw[hb]at h;refine⟨_,_,h,?_,λ_=>rfl⟩;unfold aQ o0;rw[tO];omega
 |false=>rw[hb]at h;rw[Jd hb];exact⟨_,_,h,by unfold aQ;simp,λh=>by cases h⟩
theorem mT{s:List UInt8}(hs:aQ s){v:RS}(h:RI s v):(Kb s v).ev=some (bL s v):=by
 obtain⟨h1,h2,h3⟩:=h;have af:=hs;unfold aQ at af;obtain⟨off,recs⟩:=v;simp only at h1 h2 h3;unfold Kb bL;have ah:JR (s.drop off.toNat) (10:Int)=some (if aX (s.drop off.toNat) 10 then((cF 10 (s.drop off.toNat)).length:Int)else-1):=X3 (s.drop off.toNat) 10;have az:(s.drop off.toNat).length+off.toNat=s.length:=by rw[tO];omega
 simp(disch:=omega)only[EV,h1,h2,tM,ah];cases hb:aX (s.drop off.toNat) 10 with
 |false=>
  have:(-1:Int)<0:=by omega
  simp only[tN,if_false];simp(disch:=omega)only[EV,this]
 |true=>
  simp only[if_true];have hl:=n7 hb;have g1:¬((cF 10 (s.drop off.toNat)).length:Int)<0:=by omega
  have g2:off<=off+((cF 10 (s.drop off.toNat)).length:Int)+1:=by omega
  have g3:off+((cF 10 (s.drop off.toNat)).length:Int)+1<=(s.length:Int):=by omega
  have g4:(0:Int)<=((cF 10 (s.drop off.toNat)).length:Int):=by omega
  have e1:List.drop off.toNat (List.take (off+((cF 10 (s.drop off.toNat)).length:Int)+1).toNat s)=cF 10 (s.drop off.toNat)++ [10]:=by rw[List.drop_take,show(off+((cF 10 (s.drop off.toNat)).length:Int)+1).toNat-off.toNat=(cF 10 (s.drop off.toNat)).length+1 by omega];exact Sz hb rfl
  simp(disch:=omega)only[EV,g1,g2,g3,g4,h1,e1];generalize ht:cF 10 (s.drop off.toNat)=t at*;have ai:aQ t:=by unfold aQ;omega
  have g5:((t.length:Nat):Int)<=((List.length (t++ [10]):Nat):Int):=by simp;omega
  have e2:List.take t.length (t++ [10])=t:=List.take_left' rfl;have hc:=T7 35 t;obtain⟨y0,b0,c0,_,_⟩:=Y8 ai 35;have aj:T5 t ([35]:List UInt8)=some (cF 35 t,y0,b0):=c0;obtain⟨x,hx⟩:=tK (s:=cF 35 t) (by unfold aQ at*;omega);have hv:aGb t=some (if x.2&&x.1==t then(cF 35 t,true)else([],false)):=by unfold aGb aDG;simp(disch:=omega)only[EV,aj,hx];cases x.2<;>cases x.1==t<;>rfl
  simp(disch:=omega)only[EV,g5,e2,Sy,hv];generalize hy:(if x.2&&x.1==t then(cF 35 t,true)else(([]:List UInt8),false))=y;have ak:aQ y.1:=by subst hy;unfold aQ at*;split<;>simp only[xz]<;>omega
  obtain⟨y1,b1,c1,s1,a1⟩:=Y8 ak 32;have al:T5 y.1 ([32]:List UInt8)=some (cF 32 y.1,y1,b1):=c1;obtain⟨y2,b2,c2,s2,a2⟩:=Y8 s1 64;have ao:T5 y1 ([64]:List UInt8)=some (cF 64 y1,y2,b2):=c2;have ba:=T7 64 y1;have s3:aQ (cF 64 y1):=by unfold aQ at*;omega
  simp(disch:=omega)only[EV,al,ao,kK (k:=((recs.length:Nat):Int)) s3 s2];have g6:∀p:List UInt8×List UInt8,(recs.length+List.length ([p]:List (List UInt8×List UInt8)))*32<=140737488355328:=by intro p;simp only[xk,xz];omega
  cases hd:yR ((recs.length:Nat):Int) t with
  |some p=>
   obtain⟨c,r⟩:=p;obtain⟨d1,d2,d3⟩:=Zt hd;have aa:=N9 d3;have ab:cF 35 t=gQ ((recs.length:Nat):Int) c r:=by rw[aa];exact Dp (nO d2)
   obtain⟨_,_,ar,_,_,ra,rb⟩:=eX d2;have bb:=uM (c:=c) (r:=r) d1;have au:x=(t,true):=by have:=lW (s:=gQ ((recs.length:Nat):Int) c r) (by omega) (nO d2);rw[ab,this,<-aa]at hx;exact(yJ hx).symm
   have ae:y=(gQ ((recs.length:Nat):Int) c r,true):=by rw[<-hy,au,ab];simp
   obtain⟨t1,t2,t3⟩:=Gl ((recs.length:Nat):Int) c r;have ad:y1=c++64::r:=by rw[a1 (by rw[ae];exact t3),ae];exact t2
   obtain⟨q1,q2,q3⟩:=Do (r:=r) ar;have av:cF 64 y1=c:=by rw[ad];exact q1
   have aw:y2=r:=by rw[a2 (by rw[ad];exact q3),ad];exact q2
   have he:Ig ((recs.length:Nat):Int) c r=(t++ [10],true):=by unfold Ig Sk;rw[d1,d2,d3];rfl
   rw[av,aw,he];simp(disch:=omega)only[EV,qk,g6]
  |none=>
   unfold Ig;cases he:Sk ((recs.length:Nat):Int) (cF 64 y1) y2 with
   |false=>simp(disch:=omega)only[EV,tN]
   |true=>
    simp only[if_true];have ay:(line ((recs.length:Nat):Int) (cF 64 y1) y2==t++ [10])=false:=by rw[qg];intro heq;unfold Sk at he;simp only[xg]at he;have:=Z4 ⟨he.1,he.2,heq⟩;rw[hd]at this;cases this
    simp(disch:=omega)only[EV,ay]
end
section
open Go
end
section
variable {o:List Int}{ds:List (List Int)}{s:List Int}{n:Int}
theorem SE{A B L:Type}(a:A)(k:A->Tr L)(k':B->Tr L):(Tr.s A B (.inl a) k k').ev=(k a).ev:=rfl
theorem J4(hf:Fld o ds)(hs:ris o.length s):0<=Bb o s/\Bb o s<=693:=by have hp:Places s o.length:=Places.of (hs.low hf.len) (ris_iff.2 hs);have:=wX (l:=List.range s.length) (f:=λk=>o.getD (pl s k) 0) (B:=99) (λk hk=>hf.cost _ (hp.pl (xap.1 hk)).2) 0;have h1:=hs.len;have h2:=hf.len;unfold Bb;simp only[xdy]at this;omega
theorem Sd(hf:Fld o ds){s:List Int}(hs:Places s o.length)(h0:0<s.length):0<=Vq ds s/\Vq ds s<=99:=by unfold Vq;exact N4 (λa=>0<=a/\a<=99) (λa j hj h=>by have:=vG hf hs h0 (xap.1 hj);show 0<=max a (near ds s j)/\max a (near ds s j)<=99;omega) ⟨zM _,by omega⟩
theorem oS{l:List Int}{b:Bool}(h:j6 l):CT l b=some (jQ l,b):=by unfold CT aEu;simp(disch:=omega)only[EV,yG h]
end
def mN(c:UInt8):List UInt8->List (List UInt8)
 | []=>[[]]
 |x::s=>if x=c then[]::mN c s else match mN c s with
  | []=>[[x]]
  |h::t=>(x::h)::t
theorem iW(c:UInt8):∀s,∃h t,mN c s=h::t
 | []=>⟨_,_,rfl⟩
 |x::s=>by
  unfold mN;split;·exact⟨_,_,rfl⟩
  ·obtain⟨h,t,e⟩:=iW c s;rw[e];exact⟨_,_,rfl⟩
theorem Oa(c:UInt8):∀s,(mN c s).length<=s.length+1
 | []=>xm _
 |x::s=>by
  have ih:=Oa c s;unfold mN;split;·simp only[xk];omega
  ·obtain⟨h,t,e⟩:=iW c s;rw[e]at ih⊢;simp only[xk]at ih⊢;omega
theorem A9(x c:UInt8)(s:List UInt8):Lib.index (x::s) [c]=if x=c then 0 else if Lib.index s [c]== -1 then-1 else Lib.index s [c]+1:=by
 rw[Lib.index];by_cases e:x=c;·subst e;simp
 ·have:([c].isPrefixOf (x::s))=false:=by simp[List.isPrefixOf,xL e]
  rw[this,qi e];simp
theorem C9(c:UInt8):∀s:List UInt8,Lib.splitK [c] 0 (s.count c) s=mN c s
 | []=>rfl
 |x::s=>by
  have ih:=C9 c s;unfold mN;by_cases e:x=c;·subst e;rw[qj rfl,List.count_cons_self,Lib.splitK,A9,qj rfl];simp[ih]
  ·rw[qi e,List.count_cons_of_ne e,<-ih];cases hn:s.count c with
   |zero=>rfl
   |succ k=>
    have hi:=Lib.index_ge s [c];rw[Lib.splitK,Lib.splitK,A9,qi e];by_cases h:Lib.index s [c]= -1;·rw[h];rfl
    ·have h1:(Lib.index s [c]== -1)=false:=beq_eq_false_iff_ne.2 h;have h2:(Lib.index s [c]+1== -1)=false:=beq_eq_false_iff_ne.2 (by omega);have h3:(Lib.index s [c]+1).toNat=(Lib.index s [c]).toNat+1:=by omega
     simp only[h1,h2,h3,tN,if_false];simp
theorem wU(c:UInt8)(s:List UInt8):Lib.split s [c]=mN c s:=by unfold Lib.split;rw[Lib.count_one];exact C9 c s
def S3(p:List UInt8):List (List UInt8)->List (List UInt8)
 | []=>[]
 |h::t=>(p++h)::t
theorem GK{c:UInt8}{p s:List UInt8}{x:UInt8}(hx:x≠c):S3 p (mN c (x::s))=S3 (p++ [x]) (mN c s):=by obtain⟨h,t,e⟩:=iW c s;rw[mN,qi hx,e];simp[S3]
theorem CP{c:UInt8}{p s:List UInt8}:S3 p (mN c (c::s))=p::S3 [] (mN c s):=by obtain⟨h,t,e⟩:=iW c s;rw[mN,qj rfl,e];simp[S3]
theorem BU{c:UInt8}(s:List UInt8):S3 [] (mN c s)=mN c s:=by obtain⟨h,t,e⟩:=iW c s;rw[e];rfl
theorem xQ{s:List UInt8}(hs:s.length<=1000000)(c:UInt8):yM s (c.toNat:Int)=some (mN c s):=by
 obtain⟨r,k1,k2,k3⟩:=aK (f:=λz=>(F7 (s,(c.toNat:Int)) z).ev) (n:=s.length) (λi (v:Int×List (List UInt8))=>(v.1,(i:Int),v.2)) (λi v=>∃j:Nat,v.1=(j:Int)/\j<=i/\v.2.length<=i/\v.2++S3 ((s.take i).drop j) (mN c (s.drop i))=mN c s)
  (λr=>∃j:Nat,r.1=(j:Int)/\j<=s.length/\r.2.length<=s.length/\r.2++ [s.drop j]=mN c s) (s0:=((0:Int),([]:List (List UInt8))))
  ⟨0,rfl,xm _,xm _,by simp[BU]⟩
  (λi v hi ⟨j,h1,h2,h3,h4⟩=>by
   left;have hd:=Nj hi;have hg:s.getD i 0=s[i]:=by rw[xd,xf hi];rfl
   have aa:((((s.getD i 0).toNat:Nat):Int)==(c.toNat:Int))=decide (s.getD i 0=c):=by
    rw[D6];by_cases e:s.getD i 0=c;·rw[qc e,e];simp
    ·rw[qd e];exact beq_eq_false_iff_ne.2 λh=>e (xez.1 h)
   have hw:IntKind.wrap .i64 ((i:Int)+1)=((i+1:Nat):Int):=by rw[aL (by omega) (by omega)];rfl
   by_cases e:s.getD i 0=c
   ·refine⟨(((i+1:Nat):Int),v.2++ [(s.take i).drop j]),?_,i+1,rfl,xm _,by simp;omega,?_⟩
    ·have ab:∀x:List UInt8,List.length [x]=1:=λ_=>rfl;have hb:(v.2.length+1)*16<=140737488355328:=by omega
     have g1:(0:Int)<=(j:Int):=by omega
     have g2:(j:Int)<=(i:Int):=by omega
     have g3:(i:Int)<=(s.length:Int):=by omega
     unfold F7;dsimp only;rw[qp,qc (show(i:Int)<((s.length:Nat):Int) by omega),qa,qq,show aC (i:Int) s.length=true from dM hi,qa,xy,qp,aa,qc e,qa,h1,qq,qc g1,qc g2,qc g3,IY,IY,qa,qq,ab,qc hb,qa,qt,hw,xy]
    ·have ad:(s.take (i+1)).drop (i+1)=[]:=RU (by rw[xw];omega);rw[<-h4,hd,<-hg,e,CP];simp only[ad,Vt,xek]
   ·refine⟨v,?_,j,h1,by omega,by omega,?_⟩;·unfold F7;dsimp only;rw[qp,qc (show(i:Int)<((s.length:Nat):Int) by omega),qa,qq,show aC (i:Int) s.length=true from dM hi,qa,xy,qp,aa,qd e,qb,qt,hw]
    ·rw[<-h4,hd,GK (by rw[<-hg];exact e)];congr 2;rw[Vw hi,List.drop_append_of_le_length (by rw[xw];omega)])
  (λv ⟨j,h1,h2,h3,h4⟩=>⟨v,by unfold F7;dsimp only;rw[qp,qd (by omega),qb,qt],j,h1,h2,h3,by rw[<-h4,tM,xds];simp[mN,S3]⟩)
 obtain⟨h1,h2,h3,h4⟩:=k3;have ae:aDw (s,(c.toNat:Int)) ((0:Int),(0:Int),([]:List (List UInt8)))=some r:=k1;have ab:∀x:List UInt8,List.length [x]=1:=λ_=>rfl;have hb:(r.2.length+1)*16<=140737488355328:=by omega
 have g1:(0:Int)<=(k2:Int):=by omega
 have g2:(k2:Int)<=((s.length:Nat):Int):=by omega
 unfold yM LL;rw[qo,ae,xc,h1,qq,qc g1,qc g2,IY,qa,qq,ab,qc hb,qa,qt,xy,tM,h4]
theorem Gf(u:Nat):Lib.decDigits u≠ []:=by rw[Lib.decDigits.eq_def];split<;>simp
def lN(a:Nat)(l:List UInt8):Nat:=l.foldl (λa c=>a*10+(c.toNat-48)) a
theorem zR:∀u:Nat,lN 0 (Lib.decDigits u)=u:=by
 intro u;induction u using Nat.strongRecOn with
 |ind u ih=>
  rw[Lib.decDigits.eq_def];by_cases h:u<10
  ·rw[dif_pos h];have:(UInt8.ofNat (48+u)).toNat=48+u:=by rw[xgf];omega
   show 0*10+((UInt8.ofNat (48+u)).toNat-48)=u;omega
  ·rw[dif_neg h];have h2:=ih (u/ 10) (by omega);have:(UInt8.ofNat (48+u % 10)).toNat=48+u % 10:=by rw[xgf];omega
   unfold lN at h2⊢;rw[LA,h2];simp[this];omega
theorem Mc:∀(l:List UInt8) (a:Nat),a<=lN a l
 | [],_=>xm _
 |c::l,a=>by have:=Mc l (a*10+(c.toNat-48));show a<=lN (a*10+(c.toNat-48)) l;omega
theorem uI:∀(l:List UInt8) (a:Nat),(∀c∈l,48<=c.toNat/\c.toNat<=57)->lN a l<1000000000->Lib.parseUint10 a l=.ok (lN a l)
 | [],_,_,_=>rfl
 |c::l,a,hd,hv=>by have hc:=hd c xu;have hge:=Mc l (a*10+(c.toNat-48));have e:lN a (c::l)=lN (a*10+(c.toNat-48)) l:=rfl;rw[e]at hv⊢;have ih:=uI l (a*10+(c.toNat-48)) (λx hx=>hd x (xt _ hx)) hv;rw[Lib.parseUint10,qj ⟨hc.1,hc.2⟩,qi (by omega),qi (by omega)];exact ih
theorem xJ{u:Nat}(h:u<10000000):Lib.atoiAll (Lib.decDigits u)=.ok (u:Int)/\Lib.atoiAll (45::Lib.decDigits u)=.ok (-(u:Int)):=by
 have hp:Lib.parseMag (Lib.decDigits u)=.ok u:=by have h1:=uI (Lib.decDigits u) 0 (λc hc=>uN hc) (by rw[zR];omega);rw[zR]at h1;unfold Lib.parseMag;rw[qi (Gf u)];exact h1
 constructor;·obtain⟨c,r,e⟩:=List.exists_cons_of_ne_nil (Gf u);have hc:=uN (u:=u) (b:=c) (by rw[e];exact xu);rw[e,Lib.atoiAll_plain c r (by omega) (by omega),<-e,hp];exact qi (show¬9223372036854775808<=u by omega)
 ·rw[Lib.atoiAll_minus,hp];exact qi (show¬9223372036854775808<u by omega)
theorem xP{n:Int}(h: -999999<=n/\n<=999999):cS (Lib.itoa n)=(n,true):=by
 have e:Lib.atoiAll (Lib.itoa n)=.ok n:=by
  by_cases h0:0<=n
  ·obtain⟨u,rfl⟩:∃u:Nat,n=(u:Int):=⟨n.toNat,by omega⟩
   rw[Lib.itoa_nonneg];exact(xJ (by omega)).1
  ·obtain⟨u,rfl⟩:∃u:Nat,n= -(u:Int):=⟨(-n).toNat,by omega⟩
   rw[Lib.itoa_neg u (by omega)];exact(xJ (by omega)).2
 unfold cS;rw[e];dsimp only;rw[qj ⟨h.1,h.2,rfl⟩]
theorem iA(s:List UInt8):(∃n:Int,(-999999<=n/\n<=999999)/\Lib.itoa n=s/\cS s=(n,true))\/(cS s=(0,false)/\∀n:Int,-999999<=n->n<=999999->Lib.itoa n≠s):=by
 by_cases h:∃n:Int,(-999999<=n/\n<=999999)/\Lib.itoa n=s;·obtain⟨n,h1,h2⟩:=h;exact .inl ⟨n,h1,h2,by rw[<-h2];exact xP h1⟩
 ·refine .inr ⟨?_,λn h1 h2 e=>h ⟨n,⟨h1,h2⟩,e⟩⟩;unfold cS;split;·rw[qi];rintro⟨h1,h2,h3⟩;exact h ⟨_,⟨h1,h2⟩,h3⟩
  ·rfl
theorem mR{n:Int}(h: -999999<=n/\n<=999999):eU 1000000 n=some (Lib.itoa n):=by
 by_cases h0:0<=n
 ·obtain⟨u,rfl⟩:∃u:Nat,n=(u:Int):=⟨n.toNat,by omega⟩
  rw[Lib.itoa_nonneg,pV (by omega) (by omega)];rfl
 ·obtain⟨u,rfl⟩:∃u:Nat,n= -(u:Int):=⟨(-n).toNat,by omega⟩
  have ih:=wV 999999 u (by omega) (OD (Mz (by omega)) (by omega));have hl:(Lib.decDigits u).length<=7:=fV (by omega);rw[Lib.itoa_neg u (by omega)];show(Tf (eU 999999) (-(u:Int))).ev=_;have hw:IntKind.wrap .i64 (0- -(u:Int))=(u:Int):=by rw[aL (by omega) (by omega)];omega
  have e4:List.length ([45]:List UInt8)+(Lib.decDigits u).length<=9223372036854775807:=by simp;omega
  unfold Tf;rw[qp,qc (show-(u:Int)<0 by omega),qa,qo,hw,ih,xc,qq,qc e4,qa,qt];rfl
def wA(l:List UInt8):Prop:=∀c∈l,48<=c.toNat/\c.toNat<=57
theorem Uf(l:List UInt8)(x:UInt8):lN 0 (l++ [x])=lN 0 l*10+(x.toNat-48):=by unfold lN;rw[LA];rfl
theorem Au:∀(l:List UInt8) (a:Nat),wA l->lN a l<(a+1)*10^l.length
 | [],a,_=>by simp[lN]
 |c::l,a,h=>by have h1:=Au l (a*10+(c.toNat-48)) λx hx=>h x (xt _ hx);have h2:=h c xu;have h3:(a*10+(c.toNat-48)+1)*10^l.length<=((a+1)*10)*10^l.length:=JC _ (by omega);show lN (a*10+(c.toNat-48)) l<_;rw[xk,Nat.pow_succ,xgv (10^l.length) 10,<-Nat.mul_assoc];omega
theorem Mx(l:List UInt8)(h:wA l):lN 0 l<10^l.length:=by have:=Au l 0 h;omega
theorem CF{s t:List UInt8}(ht:t.length<=6):∃r,EN (s,t) ((0:Int),(0:Int))=some r/\(wA t->r=.inl ((lN 0 t:Nat):Int))/\(¬wA t->r=.inr ()):=by
 obtain⟨r,k1,k2⟩:=aK (f:=λz=>(Gk (s,t) z).ev) (n:=t.length) (λi (a:Int)=>(a,(i:Int))) (λi a=>a=((lN 0 (t.take i):Nat):Int)/\wA (t.take i)) (λr=>(wA t->r=.inl ((lN 0 t:Nat):Int))/\(¬wA t->r=.inr ())) (s0:=(0:Int))
  ⟨rfl,λc hc=>by simp at hc⟩
  (λi a hi ⟨h1,h2⟩=>by
   have hg:t.getD i 0=t[i]:=by rw[xd,xf hi];rfl
   have aa:t[i]∈t:=xed hi;by_cases c1:((t.getD i 0).toNat:Int)<48;·right;refine⟨.inr (),?_,λh=>absurd (h _ aa) (by rw[<-hg];omega),λ_=>rfl⟩;simp(disch:=omega)only[EV,Gk,hi,c1]
   ·by_cases c2:(57:Int)<((t.getD i 0).toNat:Int);·right;refine⟨.inr (),?_,λh=>absurd (h _ aa) (by rw[<-hg];omega),λ_=>rfl⟩;simp(disch:=omega)only[EV,Gk,hi,c1,c2]
    ·left;have hv:=Mx _ h2;have hp:10^(t.take i).length<=10^6:=xdq (by omega) (by rw[xw];omega);have ab:IntKind.wrap .u8 (((t.getD i 0).toNat:Int) -48)=((t.getD i 0).toNat:Int) -48:=by show(((t.getD i 0).toNat:Int) -48) % 256=_;omega
     refine⟨10*a+(((t.getD i 0).toNat:Int) -48),?_,?_,?_⟩;·simp(disch:=omega)only[EV,Gk,hi,c1,c2,ab];rfl
     ·rw[Vw hi,Uf,h1,<-hg];omega
     ·rw[Vw hi];intro c hc;rcases xq.1 hc with hc|hc;·exact h2 c hc
      ·rw[xo.1 hc,<-hg];omega)
  (λa ⟨h1,h2⟩=>⟨.inl a,by simp(disch:=omega)only[EV,Gk,xi],λ_=>by rw[h1,tM],λh=>absurd (by rw[tM]at h2;exact h2) h⟩)
 exact⟨r,k1,k2⟩
theorem Md(s:List UInt8){t:List UInt8}(ht:1<=t.length/\t.length<=6):∃r,EN (s,t) ((0:Int),(0:Int))=some r/\((∃m:Nat,r=.inl (m:Int)/\m<=999999/\m=lN 0 t/\wA t)\/(r=.inr ()/\¬wA t)):=by
 obtain⟨r,e,h1,h2⟩:=CF (s:=s) ht.2;refine⟨r,e,?_⟩;by_cases hd:wA t;·have hv:=Mx t hd;have hp:10^t.length<=10^6:=xdq (by omega) ht.2;exact .inl ⟨lN 0 t,h1 hd,by omega,rfl,hd⟩
 ·exact .inr ⟨h2 hd,hd⟩
theorem I4{s:List UInt8}{n:Int}(h: -999999<=n/\n<=999999):cS s=if Lib.itoa n=s then(n,true)else cS s:=by
 split
 ·next e=>rw[<-e];exact xP h
 ·rfl
theorem uP(u:Nat):wA (Lib.decDigits u):=λ_ hc=>uN hc
theorem g9{u:Nat}(h:u<=999999):1<=(Lib.decDigits u).length/\(Lib.decDigits u).length<=6:=by rw[Lib.decDigits_length];exact⟨Lib.nDigits_pos u,X2 5 u (by omega)⟩
theorem Tj{s:List UInt8}(hs:s.length<=1000000):aDH s=some (cS s):=by
 -- bJ a sign
 have plain:(∀c,s[0]? =some c->1<s.length->c≠45)->(rO ((s.length:Nat):Int) 1 6).bind (λr=>(bif !r then Tr.l ((0:Int),false)else .c ((Int)⊕(Unit)) (EN (s,s) ((0:Int),(0:Int))) λah=>
   .s (Int) (Unit) ah (λab=>.t (decide (((List.length s:Nat):Int)<((List.length s:Nat):Int)))
        (.c (List UInt8) (eU 1000000 (IntKind.wrap .i64 (0-ab))) λai=>.t (!(ai==s)) (.l ((0:Int),false)) (.l ((IntKind.wrap .i64 (0-ab)),true)))
        (.c (List UInt8) (eU 1000000 ab) λaj=>.t (!(aj==s)) (.l ((0:Int),false)) (.l (ab,true))))
    (λ_=>.l ((0:Int),false))).ev)=some (cS s):=λad=>by
  rw[fW,xc];have ae:¬(1<=s.length/\s.length<=6)\/¬wA s->cS s=(0,false):=λh=>by
   rcases iA s with⟨n,hn,he,_⟩|⟨hp,_⟩
   ·exfalso;by_cases h0:0<=n
    ·obtain⟨u,rfl⟩:∃u:Nat,n=(u:Int):=⟨n.toNat,by omega⟩
     rw[Lib.itoa_nonneg]at he;subst he;rcases h with h|h;·exact h (g9 (by omega))
     ·exact h (uP u)
    ·obtain⟨u,rfl⟩:∃u:Nat,n= -(u:Int):=⟨(-n).toNat,by omega⟩
     rw[Lib.itoa_neg u (by omega)]at he;subst he;exact ad 45 rfl (by have:=(g9 (u:=u) (by omega)).1;simp;omega) rfl
   ·exact hp
  by_cases hl:1<=s.length/\s.length<=6
  ·have hi:bZ ((s.length:Nat):Int) 1 6=true:=isIn_iff.2 (by omega);obtain⟨r,e,⟨m,rfl,hm,hv,hd⟩|⟨rfl,hd⟩⟩:=Md s hl
   ·rw[hi,xl,qb,qo,e,xc,SE,qp,qd (DG _),qb,qo,mR (by omega),xc,qp,I4 (n:=(m:Int)) (by omega)];by_cases hq:Lib.itoa (m:Int)=s;·rw[qj hq,hq];simp
    ·have:(Lib.itoa (m:Int)==s)=false:=beq_eq_false_iff_ne.2 hq;rw[qi hq,this,nL,qa,qt];rcases iA s with⟨n,hn,he,hp⟩|⟨hp,_⟩
     ·exfalso;by_cases h0:0<=n
      ·obtain⟨u,rfl⟩:∃u:Nat,n=(u:Int):=⟨n.toNat,by omega⟩
       have aa:=he;rw[Lib.itoa_nonneg]at aa;have:lN 0 s=u:=by rw[<-aa,zR]
       rw[hv,this]at hq;exact hq he
      ·obtain⟨u,rfl⟩:∃u:Nat,n= -(u:Int):=⟨(-n).toNat,by omega⟩
       rw[Lib.itoa_neg u (by omega)]at he;have:=hd 45 (by rw[<-he];exact xu);simp at this
     ·rw[hp]
   ·rw[hi,xl,qb,qo,e,xc,ae (.inr hd)];rfl
  ·have hi:bZ ((s.length:Nat):Int) 1 6=false:=by rw[xen];intro h;have:=isIn_iff.1 h;omega
   rw[hi,nL,qa,qt,ae (.inl hl)]
 unfold aDH aAH;by_cases h1:1<s.length
 ·rw[qp,qc (show(1:Int)<((s.length:Nat):Int) by omega),qa,qq,show aC (0:Int) s.length=true from bK (by omega) (by omega),qa,qp];by_cases ad:s.getD 0 0=45
  ·have af:(((List.getD s (Int.toNat 0) 0).toNat:Int)==45)=true:=by show(((s.getD 0 0).toNat:Int)==45)=true;rw[ad];rfl
   obtain⟨t,rfl⟩:∃t,s=45::t:=by
    cases s with
    |nil=>simp at h1
    |cons c t=>exact⟨t,by rw[show c=45 from ad]⟩
   have et:List.drop (Int.toNat 1) (List.take (List.length (45::t)) (45::t))=t:=by rw[tM];rfl
   have g1:(decide ((0:Int)<=1)&&decide ((1:Int)<=(((45::t).length:Nat):Int)))=true:=by rw[qc (show(1:Int)<=(((45::t).length:Nat):Int) by omega)];rfl
   rw[af,qa,qq,g1,qa,et,qo,fW,xc,qp];have ae:¬(1<=t.length/\t.length<=6)\/¬wA t->cS (45::t)=(0,false):=λh=>by
    rcases iA (45::t)with⟨n,hn,he,_⟩|⟨hp,_⟩
    ·exfalso;by_cases h0:0<=n
     ·obtain⟨u,rfl⟩:∃u:Nat,n=(u:Int):=⟨n.toNat,by omega⟩
      rw[Lib.itoa_nonneg]at he;have:=uP u 45 (by rw[he];exact xu);simp at this
     ·obtain⟨u,rfl⟩:∃u:Nat,n= -(u:Int):=⟨(-n).toNat,by omega⟩
      rw[Lib.itoa_neg u (by omega)]at he;injection he with _ he;subst he;rcases h with h|h;·exact h (g9 (by omega))
      ·exact h (uP u)
    ·exact hp
   by_cases hl:1<=t.length/\t.length<=6
   ·have hi:bZ ((t.length:Nat):Int) 1 6=true:=isIn_iff.2 (by omega);obtain⟨r,e,⟨m,rfl,hm,hv,hd⟩|⟨rfl,hd⟩⟩:=Md (45::t) hl
    ·have ak:((t.length:Nat):Int)<(((45::t).length:Nat):Int):=by rw[xk];omega
     have hw:IntKind.wrap .i64 (0-(m:Int))= -(m:Int):=by rw[aL (by omega) (by omega)];omega
     rw[hi,xl,qb,qo,e,xc,SE,qp,qc ak,qa,hw,qo,mR (by omega),xc,qp,I4 (n:= -(m:Int)) (by omega)];by_cases hq:Lib.itoa (-(m:Int))=45::t;·rw[qj hq,hq];simp
     ·have:(Lib.itoa (-(m:Int))==45::t)=false:=beq_eq_false_iff_ne.2 hq;rw[qi hq,this,nL,qa,qt];rcases iA (45::t)with⟨n,hn,he,hp⟩|⟨hp,_⟩
      ·exfalso;by_cases h0:0<=n
       ·obtain⟨u,rfl⟩:∃u:Nat,n=(u:Int):=⟨n.toNat,by omega⟩
        rw[Lib.itoa_nonneg]at he;have:=uP u 45 (by rw[he];exact xu);simp at this
       ·obtain⟨u,rfl⟩:∃u:Nat,n= -(u:Int):=⟨(-n).toNat,by omega⟩
        have aa:=he;rw[Lib.itoa_neg u (by omega)]at aa;injection aa with _ aa;have:lN 0 t=u:=by rw[<-aa,zR]
        rw[hv,this]at hq;exact hq he
      ·rw[hp]
    ·rw[hi,xl,qb,qo,e,xc,ae (.inr hd)];rfl
   ·have hi:bZ ((t.length:Nat):Int) 1 6=false:=by rw[xen];intro h;have:=isIn_iff.1 h;omega
    rw[hi,nL,qa,qt,ae (.inl hl)]
  ·have af:(((List.getD s (Int.toNat 0) 0).toNat:Int)==45)=false:=by refine beq_eq_false_iff_ne.2 λh=>ad (xez.1 ?_);have h':((s.getD 0 0).toNat:Int)=45:=h;show(s.getD 0 0).toNat=45;omega
   rw[af,qb];refine Eq.trans ?_ (plain λc hc _ e=>ad (by rw[xd,hc,e];rfl));rw[qo];congr 1;funext r;cases r<;>rfl
 ·rw[qp,qd (show¬(1:Int)<((s.length:Nat):Int) by omega),qb];refine Eq.trans ?_ (plain λc _ h _=>h1 h);rw[qo];congr 1;funext r;cases r<;>rfl
theorem Xh{o:List Int}{ds:List (List Int)}{p:List Int}(hf:Fld o ds)(hp:PI o ds p){c:Nat}(hc:c<ds.length)(ch:Bool):∃g,IsMin o.length (lM o ds p c) g/\
  (R1 (ds,(ds.length:Int),o,ds) (ch,(c:Int),p)).ev=some (.inl (ch||decide (0<g),(c:Int)+1,p.set c (p.getD c 0+g))):=by
 have hl:=hp.len;have ao:=hf.clients;have hlen:=hf.len;have ab:c<p.length:=by omega
 have hr:=hf.rowLen c hc;have h1:=hp.val hf hc;obtain⟨q,q1,q2,q3⟩:=BC hf hp;obtain⟨⟨nx,b⟩,k1,k2,k3⟩:=aK (f:=λv=>(H4 (ch,(c:Int),ds,(ds.length:Int),(c:Int),ds.getD c [],((ds.getD c []).length:Int),o,ds,p,q) v).ev) (n:=(ds.getD c []).length) (λi (a:Int×Int)=>(a.1,a.2,(i:Int)))
  (λi a=>RM i (λs=>p.getD c 0<at2 ds c s) (at2 ds c) a.1/\RM i (λs=>at2 ds c s<=p.getD c 0) (λs=>o.getD s 0-tQ ds p s) a.2)
  (λa=>RM o.length (λs=>p.getD c 0<at2 ds c s) (at2 ds c) a.1/\RM o.length (λs=>at2 ds c s<=p.getD c 0) (λs=>o.getD s 0-tQ ds p s) a.2) (s0:=((-1:Int),(-1:Int))) ⟨RM.zero _ _,RM.zero _ _⟩
  (λi a hi ⟨m1,m2⟩=>by
   left;obtain⟨nx,b⟩:=a;simp only at m1 m2;have ae:i<o.length:=by omega
   have af:i<q.length:=by omega
   have h2:=hf.at2 hc ae;have e3:(ds.getD c []).getD i 0=at2 ds c i:=rfl;have e4:=q3 i ae;have al:=hp.room i ae;by_cases hn:p.getD c 0<at2 ds c i
   ·have aa:¬at2 ds c i<=p.getD c 0:=by omega
    have ah:=m2.skip aa;by_cases c1:nx<0;·refine⟨(at2 ds c i,b),?_,m1.take hn h2.1 (.inl c1),ah⟩;simp(disch:=omega)only[EV,H4,hi,ab,e3,hn,aa,c1];rfl
    ·by_cases c2:at2 ds c i<nx;·refine⟨(at2 ds c i,b),?_,m1.take hn h2.1 (.inr c2),ah⟩;simp(disch:=omega)only[EV,H4,hi,ab,e3,hn,aa,c1,c2];rfl
     ·refine⟨(nx,b),?_,m1.keep c1 c2,ah⟩;simp(disch:=omega)only[EV,H4,hi,ab,e3,hn,aa,c1,c2];rfl
   ·have aa:at2 ds c i<=p.getD c 0:=by omega
    have ai:=m1.skip hn;by_cases c1:b<0;·refine⟨(nx,o.getD i 0-tQ ds p i),?_,ai,m2.take aa (by show(0:Int)<=o.getD i 0-tQ ds p i;omega) (.inl c1)⟩;simp(disch:=omega)only[EV,H4,hi,ab,af,e3,e4,hn,aa,c1];rfl
    ·by_cases c2:o.getD i 0-tQ ds p i<b;·refine⟨(nx,o.getD i 0-tQ ds p i),?_,ai,m2.take aa (by show(0:Int)<=o.getD i 0-tQ ds p i;omega) (.inr c2)⟩;simp(disch:=omega)only[EV,H4,hi,ab,af,e3,e4,hn,aa,c1,c2];rfl
     ·refine⟨(nx,b),?_,ai,m2.keep c1 c2⟩;simp(disch:=omega)only[EV,H4,hi,ab,af,e3,e4,hn,aa,c1,c2];rfl)
  (λa ha=>⟨a,by simp only[H4,DG,decide_false,qp,qb,qt],by rw[<-hr];exact ha⟩)
 have aj:aGP (ch,(c:Int),ds,(ds.length:Int),(c:Int),ds.getD c [],((ds.getD c []).length:Int),o,ds,p,q) ((-1:Int),(-1:Int),(0:Int))=some (nx,b):=k1;simp only at k2 k3
 -- some site is near
 have hb:0<=b/\(∀s,s<o.length->at2 ds c s<=p.getD c 0->b<=o.getD s 0-tQ ds p s)/\∃s,s<o.length/\at2 ds c s<=p.getD c 0/\b=o.getD s 0-tQ ds p s:=by
  rcases k3 with⟨_,h⟩|h;·obtain⟨s,a1,a2⟩:=hp.near c hc;exact absurd a2 (h s a1)
  ·exact h
 obtain⟨b0,b1,s,b2,b3,b4⟩:=hb;have b5:=hf.cost s b2;have b6:0<=tQ ds p s:=(jV (ds:=ds) (p:=p) (s:=s) ds.length).1;by_cases ad:0<=nx
 ·obtain⟨a0,a1,t,a2,a3,a4⟩:0<=nx/\(∀s,s<o.length->p.getD c 0<at2 ds c s->nx<=at2 ds c s)/\∃s,s<o.length/\p.getD c 0<at2 ds c s/\nx=at2 ds c s:=by
   rcases k2 with⟨h,_⟩|h;·omega
   ·exact h
  by_cases ak:nx<p.getD c 0+b
  ·refine⟨nx-p.getD c 0,⟨λu hu=>?_,t,a2,?_⟩,?_⟩
   ·unfold lM;split
    next h=>have:=b1 u hu h;omega
    next h=>have:=a1 u hu (by omega);omega
   ·unfold lM;rw[qi (by omega),a4]
   ·have e1:p.getD c 0+(nx-p.getD c 0)=nx:=by omega
    have e2:decide (0<nx-p.getD c 0)=decide (p.getD c 0<nx):=by rw[CZ,qf,qf];omega
    rw[e1,e2];simp(disch:=omega)only[EV,R1,hc,q1,aj,ab,ad,ak];cases ch<;>rfl
  ·refine⟨b,⟨λu hu=>?_,s,b2,?_⟩,?_⟩
   ·unfold lM;split
    next h=>exact b1 u hu h
    next h=>have:=a1 u hu (by omega);omega
   ·unfold lM;rw[qj b3,b4]
   ·have e2:decide (0<b)=decide (p.getD c 0<p.getD c 0+b):=by rw[CZ,qf,qf];omega
    rw[e2];simp(disch:=omega)only[EV,R1,hc,q1,aj,ab,ad,ak];cases ch<;>rfl
 ·refine⟨b,⟨λu hu=>?_,s,b2,?_⟩,?_⟩
  ·unfold lM;split
   next h=>exact b1 u hu h
   next h=>
    rcases k2 with⟨_,h2⟩|⟨h2,_⟩
    ·exact absurd (by omega) (h2 u hu)
    ·exact absurd h2 ad
  ·unfold lM;rw[qj b3,b4]
  ·have e2:decide (0<b)=decide (p.getD c 0<p.getD c 0+b):=by rw[CZ,qf,qf];omega
   rw[e2];simp(disch:=omega)only[EV,R1,hc,q1,aj,ab,ad];cases ch<;>rfl
theorem DT{p:List Int}{c:Nat}(hc:c<p.length):p.set c (p.getD c 0)=p:=by rw[xd,xf hc,xM,List.set_getElem_self]
theorem Kn{o:List Int}{ds:List (List Int)}{p:List Int}(hf:Fld o ds)(hp:PI o ds p){c:Nat}(hc:c<ds.length)(ch:Bool):∃ab p',PI o ds p'/\gO p ds.length<=gO p' ds.length/\(ab=true->ch=true\/gO p ds.length<gO p' ds.length)/\
  (R1 (ds,(ds.length:Int),o,ds) (ch,(c:Int),p)).ev=some (.inl (ab,(c:Int)+1,p'))/\
  (Lc (o,ds) (ch,(c:Int),p)).ev=some (.inl (ab,(c:Int)+1,p')):=by
 have hl:=hp.len;have af:=hf.clients;have aa:c<p.length:=by omega
 have h1:=hp.val hf hc;obtain⟨g,g1,g2⟩:=Xh hf hp hc ch;obtain⟨g',g3,g4⟩:=Ug hf hp hc;obtain rfl:=g1.uniq g4;obtain⟨h0,hs⟩:=hp.step hc g1;have h2:=hs.val hf hc;rw[cU p aa,qj rfl]at h2;have ad:=Da aa (p.getD c 0+g) ds.length;rw[qj hc]at ad;refine⟨ch||decide (0<g),_,hs,by omega,λh=>?_,g2,?_⟩
 ·simp only[Z1,qf]at h;rcases h with h|h;·exact .inl h
  ·exact .inr (by omega)
 ·by_cases hg:0<g;·simp(disch:=omega)only[EV,Lc,aa,g3,hg];rw[Bool.or_true]
  ·have ae:g=0:=by omega
   subst ae;rw[xgy,DT aa];simp(disch:=omega)only[EV,Lc,aa,g3,hg];rw[xei]
theorem C2{o:List Int}{ds:List (List Int)}(hf:Fld o ds):∀(k i:Nat) (ch:Bool) (p:List Int),i+k=ds.length->PI o ds p->∃aa p',PI o ds p'/\gO p ds.length<=gO p' ds.length/\(aa=true->ch=true\/gO p ds.length<gO p' ds.length)/\
  aB (λv=>(R1 (ds,(ds.length:Int),o,ds) v).ev) (ch,(i:Int),p)=some (aa,p')/\
  aB (λv=>(Lc (o,ds) v).ev) (ch,(i:Int),p)=some (aa,p')
 |0,i,ch,p,hk,hp=>by
  have hl:=hp.len;obtain rfl:i=ds.length:=by omega
  refine⟨ch,p,hp,zM _,λh=>.inl h,?_,?_⟩;·rw[aF];simp(disch:=omega)only[EV,R1,xi]
  ·rw[aF];simp(disch:=omega)only[EV,Lc,hl,xi]
 |k+1,i,ch,p,hk,hp=>by
  obtain⟨c1,p1,q1,q2,q3,q4,q5⟩:=Kn hf hp (show i<ds.length by omega) ch;obtain⟨c2,p2,r1,r2,r3,r4,r5⟩:=C2 hf k (i+1) c1 p1 (by omega) q1;refine⟨c2,p2,r1,by omega,λh=>?_,?_,?_⟩
  ·rcases r3 h with h|h
   ·rcases q3 h with h|h;·exact .inl h
    ·exact .inr (by omega)
   ·exact .inr (by omega)
  ·rw[aF];simp only[q4];exact r4
  ·rw[aF];simp only[q5];exact r5
theorem Dz{o:List Int}{ds:List (List Int)}(hf:Fld o ds):∀(m:Nat) (p:List Int),(1386-gO p ds.length).toNat=m->PI o ds p->∃r,PI o ds r/\
  aB (λv=>(Jp (o,ds) v).ev) (true,p)=some r/\aB (λv=>(S2 (o,ds) v).ev) (true,p)=some r:=by
 intro m;induction m using Nat.strongRecOn with
 |_ m ih=>
  intro p hm hp;obtain⟨ch,p',r1,r2,r3,r4,r5⟩:=C2 hf ds.length 0 false p (by omega) hp;have aa:aIP (ds,(ds.length:Int),o,ds) (false,(0:Int),p)=some (ch,p'):=r4;have ab:aIS (o,ds) (false,(0:Int),p)=some (ch,p'):=r5;rw[aF,aF (λv=>(S2 (o,ds) v).ev)];have s1:(Jp (o,ds) (true,p)).ev=some (.inl (ch,p')):=by simp(disch:=omega)only[EV,Jp,aa]
  have s2:(S2 (o,ds) (true,p)).ev=some (.inl (ch,p')):=by simp(disch:=omega)only[EV,S2,ab]
  simp only[s1,s2];cases ch with
  |true=>
   rcases r3 rfl with h|h;·cases h
   ·have hb:=qM r1 hf ds.length (xm _);have hb0:=qM hp hf ds.length (xm _);have ad:=hf.clients;exact ih _ (by omega) p' rfl r1
  |false=>
   rw[aF,aF (λv=>(S2 (o,ds) v).ev)];have t1:(Jp (o,ds) (false,p')).ev=some (.inr p'):=by simp(disch:=omega)only[EV,Jp]
   have t2:(S2 (o,ds) (false,p')).ev=some (.inr p'):=by simp(disch:=omega)only[EV,S2]
   simp only[t1,t2];exact⟨p',r1,rfl,rfl⟩
theorem aGc{l:List Int}(h0:0<l.length)(hl:(l.length:Int)<=1000000):∃m,Sp l=some m/\IsMin l.length (λi=>l.getD i 0) m:=by
 obtain⟨r,k1,k2⟩:=aK (f:=λv=>(P4 l v).ev) (n:=l.length-1) (λi (a:Int)=>(a,((i+1:Nat):Int))) (λi a=>IsMin (i+1) (λi=>l.getD i 0) a) (λa=>IsMin l.length (λi=>l.getD i 0) a) (s0:=l.getD 0 0)
  ⟨λs hs=>by
   obtain rfl:s=0:=by omega
   exact zM _,0,by omega,rfl⟩
  (λi a hi ⟨a1,s,a2,a3⟩=>by
   left;have aa:i+1<l.length:=by omega
   by_cases hx:l.getD (i+1) 0<a;·refine⟨l.getD (i+1) 0,?_,all_succ.2 ⟨λs hs=>by have:=a1 s hs;simp only at this⊢;omega,zM _⟩,i+1,by omega,rfl⟩;simp(disch:=omega)only[EV,P4,aa,hx];rfl
   ·refine⟨a,?_,all_succ.2 ⟨a1,by simp only;omega⟩,s,by omega,a3⟩;simp(disch:=omega)only[EV,P4,aa,hx];rfl)
  (λa ha=>⟨a,by
   have e:l.length-1+1=l.length:=by omega
   rw[e];simp(disch:=omega)only[EV,P4,xi],by
   have e:l.length-1+1=l.length:=by omega
   rw[e]at ha;exact ha⟩)
 have ab:aES l (l.getD 0 0,(1:Int))=some r:=k1;refine⟨r,?_,k2⟩;unfold Sp KF;have e1:¬(l.length:Int)<1:=by omega
 have e2:(0:Int)<(l.length:Int):=by omega
 have z:Int.toNat (0:Int)=0:=rfl;simp(disch:=omega)only[EV,e1,e2,z,ab]
theorem Co{o:List Int}{ds:List (List Int)}(hf:Fld o ds){c:Nat}(hc:c<ds.length)(a:List Int):∃m,aKR ((c:Int),o,ds,a) ((ds.getD c []).getD 0 0,(0:Int))=some m/\IsMin o.length (at2 ds c) m:=by
 have hr:=hf.rowLen c hc;have hlen:=hf.len;have aa:=hf.pos;obtain⟨r,k1,k2⟩:=aK (f:=λv=>(We ((c:Int),o,ds,a) v).ev) (n:=o.length) (λi (a:Int)=>(a,(i:Int))) (λi a=>(∀s,s<i->a<=at2 ds c s)/\∃s,s<o.length/\a=at2 ds c s) (λa=>IsMin o.length (at2 ds c) a) (s0:=at2 ds c 0)
  ⟨λs hs=>absurd hs (by omega),0,by omega,rfl⟩
  (λi m hi ⟨a1,s,a2,a3⟩=>by
   left;have e3:(ds.getD c []).getD i 0=at2 ds c i:=rfl;refine⟨min m (at2 ds c i),?_,all_succ.2 ⟨λs hs=>by have:=a1 s hs;omega,by omega⟩,?_⟩;·simp(disch:=omega)only[EV,We,hi,hc,hr,e3,nZ];rfl
   ·by_cases h:m<=at2 ds c i;·exact⟨s,a2,by omega⟩
    ·exact⟨i,hi,by omega⟩)
  (λa ha=>⟨a,by simp(disch:=omega)only[EV,We,xi],ha⟩)
 exact⟨r,k1,k2⟩
theorem Jg{o:List Int}{ds:List (List Int)}(hf:Fld o ds):∃p,PI o ds p/\aDF (o,ds) ((0:Int),[])=some p/\aGf (ds,(ds.length:Int),o,ds) ((0:Int),[])=some p:=by
 have hlen:=hf.len;have af:=hf.pos;have ah:=hf.clients;have hex:∀c:Nat,∃m,c<ds.length->IsMin o.length (at2 ds c) m:=λc=>by
  by_cases hc:c<ds.length;·obtain⟨m,_,h⟩:=Co hf hc [];exact⟨m,λ_=>h⟩
  ·exact⟨0,λh=>absurd h hc⟩
 have hg:=λc=>Classical.choose_spec (hex c);generalize ad:(λc=>Classical.choose (hex c))=g;have aa:∀c,c<ds.length->IsMin o.length (at2 ds c) (g c):=λc hc=>by rw[<-ad];exact hg c hc
 have e1:aDF (o,ds) ((0:Int),[])=_:=iT (f:=λv=>(DA (o,ds) v).ev) (n:=ds.length) (λi l=>((i:Int),l)) g (λl=>l) (λi l hi ae=>by
  have hr:=hf.rowLen i hi;obtain⟨m,m1,m2⟩:=Co hf hi l;obtain rfl:=m2.uniq (aa i hi);have z:Int.toNat (0:Int)=0:=rfl;have hz:(0:Int)<((ds.getD i []).length:Int):=by omega
  have hs:(l.length+List.length ([g i]:List Int))*8<=140737488355328:=by simp only[xk,xz];omega
  simp(disch:=omega)only[EV,DA,hi,z,hz,m1,hs];rfl) (λl _=>by simp(disch:=omega)only[EV,DA,xi])
 have e2:aGf (ds,(ds.length:Int),o,ds) ((0:Int),[])=_:=iT (f:=λv=>(AE (ds,(ds.length:Int),o,ds) v).ev) (n:=ds.length) (λi l=>((i:Int),l)) g (λl=>l) (λi l hi ae=>by
  have hr:=hf.rowLen i hi;obtain⟨m,m1,m2⟩:=aGc (l:=ds.getD i []) (by omega) (by omega);rw[hr]at m2;obtain rfl:=(show IsMin o.length (at2 ds i) m from m2).uniq (aa i hi);have hs:(l.length+List.length ([g i]:List Int))*8<=140737488355328:=by simp only[xk,xz];omega
  simp(disch:=omega)only[EV,AE,hi,m1,hs];rfl) (λl _=>by simp(disch:=omega)only[EV,AE,xi])
 have ab:∀c,c<ds.length->((List.range ds.length).map g).getD c 0=g c:=λc hc=>by rw[xd,oC,IS hc];rfl
 refine⟨(List.range ds.length).map g,⟨by simp,λc hc=>?_,λs hs=>?_⟩,e1,e2⟩;·obtain⟨_,s,a,b⟩:=aa c hc;exact⟨s,a,by rw[ab c hc,b];exact zM _⟩
 ·have hz:∀k,k<=ds.length->fX ds ((List.range ds.length).map g) s k=0:=by
   intro k;induction k with
   |zero=>intro _;rfl
   |succ k ih=>intro hk;have:=(aa k (by omega)).1 s hs;rw[fX,ih (by omega),ab k (by omega),(dR _).2.2 (by omega)];rfl
  unfold tQ;rw[hz _ (xm _)];exact(hf.cost s hs).1
theorem xU{o:List Int}{ds:List (List Int)}(ho:aI o)(hd:dL ds)(hf:Fld o ds):∃p,PI o ds p/\NM o ds=some p/\MU o ds=some (true,p):=by
 obtain⟨p,p1,p2,p3⟩:=Jg hf;obtain⟨r,r1,r2,r3⟩:=Dz hf _ p rfl p1;have aa:aJG (o,ds) (true,p)=some r:=r2;have ab:aLh (o,ds) (true,p)=some r:=r3;refine⟨r,r1,?_,?_⟩;·unfold NM XJ;simp(disch:=omega)only[EV,p2,ab]
 ·unfold MU aCR;simp(disch:=omega)only[EV,cH ho hd,fieldB_iff.2 hf,p3,aa]
theorem BP{o:List Int}{ds:List (List Int)}{p:List Int}(hf:Fld o ds)(hp:PI o ds p):XQ p=some (gO p p.length):=by
 have hl:=hp.len;have ab:=hf.clients;obtain⟨r,h1,h2⟩:=aK (f:=λv=>(Wl p v).ev) (n:=p.length) (λi (a:Int)=>(a,(i:Int))) (λi a=>a=gO p i) (λr=>r=gO p p.length) (s0:=0) rfl
  (λi a hi ha=>by subst ha;left;have h3:=qM hp hf i (by omega);have h4:=hp.val hf (show i<ds.length by omega);refine⟨_,?_,rfl⟩;simp(disch:=omega)only[EV,Wl,hi];rfl)
  (λa ha=>⟨a,by simp(disch:=omega)only[EV,Wl,xi],ha⟩)
 subst h2;have aa:aKU p ((0:Int),(0:Int))=some (gO p p.length):=h1;unfold XQ aEG;simp(disch:=omega)only[EV,aa]
theorem PH{o:List Int}{ds:List (List Int)}{p:List Int}(hf:Fld o ds)(hp:PI o ds p):Sq p=some (gO p p.length):=by
 have hl:=hp.len;have ab:=hf.clients;obtain⟨r,h1,h2⟩:=aK (f:=λv=>(Cj (p,(p.length:Int)) v).ev) (n:=p.length) (λi (a:Int)=>(a,(i:Int))) (λi a=>a=gO p i) (λr=>r=gO p p.length) (s0:=0) rfl
  (λi a hi ha=>by subst ha;left;have h3:=qM hp hf i (by omega);have h4:=hp.val hf (show i<ds.length by omega);refine⟨_,?_,rfl⟩;simp(disch:=omega)only[EV,Cj,hi];rfl)
  (λa ha=>⟨a,by simp(disch:=omega)only[EV,Cj,xi],ha⟩)
 subst h2;have aa:aFB (p,(p.length:Int)) ((0:Int),(0:Int))=some (gO p p.length):=h1;unfold Sq KJ;simp(disch:=omega)only[EV,aa]
section
variable {o:List Int}{ds:List (List Int)}{s:List Int}{n:Int}
theorem O5(sep x:List UInt8):∀{l:List (List UInt8)},l≠ []->Lib.join (l++ [x]) sep=Lib.join l sep++sep++x
 | [],h=>absurd rfl h
 |a::l,_=>by rw[Nl,Lib.join_cons,Lib.join_cons];unfold Lib.joinTail;simp[Vt]
theorem DJ{l:List Int}{i:Nat}(hi:i<l.length):bM (l.take (i+1))=(if 0<i then bM (l.take i)++ [32]else bM (l.take i))++dg (l.getD i 0):=by
 have e:l.take (i+1)=l.take i++ [l.getD i 0]:=by rw[Vw hi,xd,xf hi];rfl
 unfold bM;rw[e,xdu,P0,xer];by_cases h0:0<i;·rw[qj h0,O5 [32] _ (by rw[Ne,xfv];intro h;have:=congrArg List.length h;rw[xw,xz]at this;omega)]
 ·rw[qi h0,show i=0 by omega,xep,xer,K0,Lib.join_one,Lib.join_nil,K0]
theorem EU{l:List Int}(h:j6 l)(i:Nat):j6 (l.take i):=⟨by have:=h.1;rw[xw];omega,λx hx=>h.2 x (Vs hx)⟩
theorem EM{x:Int}(h:0<=x/\x<1000000):eU 1000000 x=some (dg x):=by
 rw[mR (by omega)];obtain⟨u,rfl⟩:∃u:Nat,x=(u:Int):=⟨x.toNat,by omega⟩
 rw[Lib.itoa_nonneg];rfl
theorem j0{f:List UInt8×Int->Option ((List UInt8×Int)⊕List UInt8)}{l:List Int}(h:j6 l)
  (hs:∀(i:Nat) (a:List UInt8),i<l.length->a.length<=56->f (a,(i:Int))=some (.inl ((if 0<i then a++ [32]else a)++dg (l.getD i 0),((i+1:Nat):Int)))) (he:∀a,f (a,((l.length:Nat):Int))=some (.inr a)):aB f (([]:List UInt8),(0:Int))=some (bM l):=by
 obtain⟨r,k1,k2⟩:=aK (f:=f) (n:=l.length) (λi (a:List UInt8)=>(a,(i:Int))) (λi a=>a=bM (l.take i)) (λr=>r=bM l) (s0:=[]) rfl
  (λi a hi ha=>.inl ⟨_,hs i a hi (by rw[ha];exact vN (EU h i)),by rw[DJ hi,ha]⟩)
  (λa ha=>⟨a,he a,by rw[ha,tM]⟩)
 rw[<-k2];exact k1
theorem Bt{x:Int}(h:0<=x/\x<1000000):(dg x).length<=7:=fV (by omega)
theorem l6{l:List Int}(h:j6 l):PA l=some (bM l):=by
 have h7:=h.1;have k:aJE l (([]:List UInt8),(0:Int))=some (bM l):=j0 h
  (λi a hi ha=>by
   have hx:=h.2 _ (aG (d:=0) hi);have e1:=EM hx;have e2:=Bt hx;have e3:([32]:List UInt8).length=1:=rfl;have e4:(a++ [32]).length=a.length+1:=by simp
   by_cases h0:0<i
   ·rw[qj h0];have g1:a.length+1<=9223372036854775807:=by omega
    have g2:a.length+1+(dg (l.getD i 0)).length<=9223372036854775807:=by omega
    have aa:(0:Int)<(i:Int):=by omega
    simp(disch:=omega)only[EV,GG,hi,aa,e3,g1,e1,e4,g2];rfl
   ·rw[qi h0];have g2:a.length+(dg (l.getD i 0)).length<=9223372036854775807:=by omega
    have aa:¬(0:Int)<(i:Int):=by omega
    simp(disch:=omega)only[EV,GG,hi,aa,e1,g2];rfl)
  (λa=>by simp(disch:=omega)only[EV,GG,xi])
 unfold PA aBB;rw[qo,k,xc,qt]
theorem aFk{l:List Int}(h:l≠ []):bM l≠ []:=by
 cases l with
 |nil=>exact absurd rfl h
 |cons a l=>unfold bM;rw[P0,Lib.join_cons];intro e;exact Gf _ (List.append_eq_nil_iff.1 e).1
theorem sC{l:List Int}(h:j6 l):Ui l=some (jQ l):=by
 have h7:=h.1;have k:aKW l (([]:List UInt8),(0:Int))=some (bM l):=j0 h
  (λi a hi ha=>by
   have hx:=h.2 _ (aG (d:=0) hi);have e1:=EM hx;have e2:=Bt hx;have e3:([32]:List UInt8).length=1:=rfl;have e4:(a++ [32]).length=a.length+1:=by simp
   by_cases h0:0<i
   ·rw[qj h0];have g1:a.length+1<=9223372036854775807:=by omega
    have g2:a.length+1+(dg (l.getD i 0)).length<=9223372036854775807:=by omega
    have aa:(0:Int)<(i:Int):=by omega
    simp(disch:=omega)only[EV,FH,hi,aa,e3,g1,e1,e4,g2];rfl
   ·rw[qi h0];have g2:a.length+(dg (l.getD i 0)).length<=9223372036854775807:=by omega
    have aa:¬(0:Int)<(i:Int):=by omega
    simp(disch:=omega)only[EV,FH,hi,aa,e1,g2];rfl)
  (λa=>by simp(disch:=omega)only[EV,FH,xi])
 unfold Ui aBE jQ;rw[qo,k,xc,qp];by_cases h0:l=[]
 ·subst h0;rfl
 ·have:(bM l==([]:List UInt8))=false:=beq_eq_false_iff_ne.2 (aFk h0);rw[qi h0,this,qb,qt]
theorem kT{l:List Int}{b:Bool}(h:j6 l):v6 l b=some (if b then jQ l else[63]):=by
 unfold v6 aBM;cases b with
 |false=>rfl
 |true=>rw[qp,xl,qb,qo,sC h,xc,qt];rfl
theorem Pq{x:Int}{b:Bool}(h:b=true-> -999999<=x/\x<=999999):Jx x b=some (if b then Lib.itoa x else[63]):=by
 unfold Jx XX;cases b with
 |false=>rfl
 |true=>rw[qp,xl,qb,qo,mR (h rfl),xc,qt];rfl
def wW(o:List Int)(ds:List (List Int)):List UInt8:=Lib.join ((o::ds).map bM) [32,47,32]
theorem Fld.fewO(hf:Fld o ds):j6 o:=⟨hf.len,λx hx=>by obtain⟨i,hi,e⟩:=xbv.1 hx;have:=hf.cost i hi;rw[xd,xf hi,xM,e]at this;omega⟩
theorem Fld.fewR(hf:Fld o ds){i:Nat}(hi:i<ds.length):j6 (ds.getD i []):=⟨by rw[hf.rowLen i hi];exact hf.len,λx hx=>by obtain⟨a,ha,e⟩:=xbv.1 hx;have hr:=hf.rowLen i hi;have:0<=(ds.getD i []).getD a 0/\(ds.getD i []).getD a 0<=99:=hf.at2 hi (show a<o.length by omega);rw[xd (l:=ds.getD i []),xf ha,xM,e]at this;omega⟩
theorem Fj(hi:n.toNat<ds.length):Lib.join ((o::ds.take (n.toNat+1)).map bM) [32,47,32]=Lib.join ((o::ds.take n.toNat).map bM) [32,47,32]++ [32,47,32]++bM (ds.getD n.toNat []):=by
 have e:ds.take (n.toNat+1)=ds.take n.toNat++ [ds.getD n.toNat []]:=dP [] hi;have e2:(o::ds.take n.toNat++ [ds.getD n.toNat []]).map bM=(o::ds.take n.toNat).map bM++ [bM (ds.getD n.toNat [])]:=by rw[xdu];rfl
 rw[e,<-Nl,e2,O5 _ _ (by simp)]
theorem M0(sep:List UInt8):∀l:List (List UInt8),(∀x∈l,x.length<=56)->(Lib.join l sep).length<=(56+sep.length)*l.length
 | [],_=>by simp[Lib.join_nil]
 | [x],h=>by rw[Lib.join_one];have:=h x (xo.2 rfl);simp only[xk,xz];omega
 |x::y::r,h=>by have ih:=M0 sep (y::r) λz hz=>h z (xt _ hz);have hx:=h x xu;rw[Lib.join_cons]at ih⊢;unfold Lib.joinTail at ih⊢;simp only[P0,List.flatten_cons,xj,xk,Nat.mul_add,uW]at ih⊢;omega
theorem B6(hf:Fld o ds)(k:Nat):(Lib.join ((o::ds.take k).map bM) [32,47,32]).length<=1000:=by
 have h:=M0 [32,47,32] ((o::ds.take k).map bM) λx hx=>by
  obtain⟨r,hr,rfl⟩:=xaf.1 hx;rcases xae.1 hr with rfl|hr;·exact vN hf.fewO
  ·obtain⟨i,hi,e⟩:=xbv.1 (Vs hr);have:=hf.fewR hi;rw[xd,xf hi,xM,e]at this;exact vN this
 have hc:=hf.clients;have h2:((o::ds.take k).map bM).length<=8:=by rw[Ge,xk,xw];omega
 have h3:(56+([32,47,32]:List UInt8).length)*((o::ds.take k).map bM).length<=59*8:=xff (by decide) h2;omega
theorem yQ(ho:aI o)(hd:dL ds)(hf:Fld o ds):PW o ds=some (wW o ds,true):=by
 have hc:=hf.clients;have k:aKv (ds,((ds.length:Nat):Int)) ((0:Int),[bM o])=some ((o::ds).map bM):=by
  obtain⟨r,k1,k2⟩:=aK (f:=λv=>(HT (ds,((ds.length:Nat):Int)) v).ev) (n:=ds.length) (λi (a:List (List UInt8))=>((i:Int),a)) (λi a=>a=(o::ds.take i).map bM) (λr=>r=(o::ds).map bM) (s0:=[bM o]) rfl
   (λi a hi ha=>by
    left;have e1:=kO (hf.fewR hi);have aa:∀x:List UInt8,List.length [x]=1:=λ_=>rfl;have ab:a.length=i+1:=by rw[ha,Ge,xk,xw];omega
    have hb:(a.length+1)*16<=140737488355328:=by omega
    refine⟨a++ [bM (ds.getD i [])],?_,?_⟩;·simp(disch:=omega)only[EV,HT,hi,e1,aa,hb];rfl
    ·rw[dP [] hi,<-Nl,xdu,<-ha];rfl)
   (λa ha=>⟨a,by simp(disch:=omega)only[EV,HT,xi],by rw[ha,tM]⟩)
  rw[<-k2];exact k1
 have hl:=B6 hf ds.length;rw[tM]at hl;have e2:Rb ((o::ds).map bM) [32,47,32]=some (wW o ds):=by unfold Rb M7;rw[qj ⟨by rw[Ge,xk];omega,by omega⟩];rfl
 unfold PW aFQ;rw[qo,cH ho hd,xc,fieldB_iff.2 hf,qp,xl,qb,qo,kO hf.fewO,xc,qo,k,xc,qo,e2,xc,qt]
theorem Qc(hf:Fld o ds):JU o ds=some (wW o ds):=by
 have hc:=hf.clients;have k:aIy (o,ds) (bM o,(0:Int))=some (wW o ds):=by
  obtain⟨r,k1,k2⟩:=aK (f:=λv=>(Ys (o,ds) v).ev) (n:=ds.length) (λi (a:List UInt8)=>(a,(i:Int))) (λi a=>a=Lib.join ((o::ds.take i).map bM) [32,47,32]) (λr=>r=wW o ds) (s0:=bM o) (by rw[xep];exact(Lib.join_one _ _).symm)
   (λi a hi ha=>by
    left;have e1:=l6 (hf.fewR hi);have aa:a.length<=1000:=by rw[ha];exact B6 hf i
    have e3:([32,47,32]:List UInt8).length=3:=rfl;have e4:(a++ [32,47,32]).length=a.length+3:=by simp
    have e5:=vN (hf.fewR hi);have g1:a.length+3<=9223372036854775807:=by omega
    have g2:a.length+3+(bM (ds.getD i [])).length<=9223372036854775807:=by omega
    refine⟨a++ [32,47,32]++bM (ds.getD i []),?_,?_⟩;·simp(disch:=omega)only[EV,Ys,hi,e3,g1,e1,e4,g2];rfl
    ·have:=Fj (o:=o) (ds:=ds) (n:=(i:Int)) (by simpa using hi);rw[xy]at this;rw[this,<-ha])
   (λa ha=>⟨a,by simp(disch:=omega)only[EV,Ys,xi],by rw[ha,tM];rfl⟩)
  rw[<-k2];exact k1
 unfold JU aEk;rw[qo,l6 hf.fewO,xc,qo,k,xc,qt]
def yY(ds:List (List Int))(a b:Nat):Nat:=dA (λi=>at2 ds i a<at2 ds i b) ds.length
def pE(ds:List (List Int))(n a:Nat):Bool:=(List.range n).any λb=>decide ((yY ds a b:Int)<(yY ds b a:Int))
def Pv(ds:List (List Int))(n:Nat):List Int:=(List.range n).foldl (λacc a=>bif pE ds n a then acc else acc++ [(a:Int)]) []
theorem HZ{n:Nat}(hn:n<=7):j6 (Pv ds n):=by
 have key:∀m,m<=n->((List.range m).foldl (λacc a=>bif pE ds n a then acc else acc++ [(a:Int)]) []).length<=m/\∀x∈(List.range m).foldl (λacc a=>bif pE ds n a then acc else acc++ [(a:Int)]) [],0<=x/\x<(m:Int):=by
  intro m;induction m with
  |zero=>intro _;exact⟨xm _,λx h=>by cases h⟩
  |succ m ih=>
   intro hm;obtain⟨h1,h2⟩:=ih (by omega);rw[aV];cases pE ds n m with
   |true=>exact⟨by rw[qa];omega,λx hx=>by have:=h2 x hx;omega⟩
   |false=>
    rw[qb];refine⟨by rw[xj,Fy];omega,λx hx=>?_⟩;rcases xq.1 hx with hx|hx;·have:=h2 x hx;omega
    ·rw[xo.1 hx];omega
 obtain⟨h1,h2⟩:=key n (xm _);exact⟨OD h1 hn,λx hx=>by have:=h2 x hx;omega⟩
theorem Eg{f:Bool×Int->Option ((Bool×Int)⊕Bool)}{n:Nat}(q:Nat->Bool)(hs:∀(i:Nat) (c:Bool),i<n->f (c,(i:Int))=some (.inl (c||q i,((i+1:Nat):Int))))(he:∀c,f (c,(n:Int))=some (.inr c)):aB f (false,(0:Int))=some ((List.range n).any q):=by
 obtain⟨r,k1,k2⟩:=aK (f:=f) (n:=n) (λi (c:Bool)=>(c,(i:Int))) (λi c=>c=(List.range i).any q) (λr=>r=(List.range n).any q) (s0:=false) rfl
  (λi c hi hc=>.inl ⟨_,hs i c hi,by rw[xeh,xhb,hc];simp⟩)
  (λc hc=>⟨c,he c,hc⟩)
 rw[<-k2];exact k1
theorem Z9{f:Int×List Int->Option ((Int×List Int)⊕List Int)}{n:Nat}(hs:∀(i:Nat) (c:List Int),i<n->c.length<=i->f ((i:Int),c)=some (.inl (((i+1:Nat):Int),bif pE ds n i then c else c++ [(i:Int)])))(he:∀c,f ((n:Int),c)=some (.inr c)):aB f ((0:Int),[])=some (Pv ds n):=
 (aR (f:=f) (n:=n) (mk:=λi (c:List Int)=>((i:Int),c)) (I:=λi c=>c.length<=i) (g:=λacc a=>bif pE ds n a then acc else acc++ [(a:Int)]) (fin:=λc=>c) (s0:=[]) (xm _)
  (λi c hi hc=>⟨hs i c hi hc,by
   cases pE ds n i with
   |true=>rw[qa];omega
   |false=>rw[qb,xj,Fy];omega⟩)
  (λc _=>he c)).1
theorem M5{f:Int×Int->Option ((Int×Int)⊕Int)}{a b:Nat}(hc:ds.length<=7)(hs:∀(i:Nat) (c:Int),i<ds.length->0<=c->c<=7->f (c,(i:Int))=some (.inl (if at2 ds i a<at2 ds i b then c+1 else c,((i+1:Nat):Int))))(he:∀c,f (c,((ds.length:Nat):Int))=some (.inr c)):aB f ((0:Int),(0:Int))=some (yY ds a b:Int):=by
 obtain⟨r,k1,k2⟩:=aK (f:=f) (n:=ds.length) (λi (c:Int)=>(c,(i:Int))) (λi c=>c=(dA (λj=>at2 ds j a<at2 ds j b) i:Int)) (λr=>r=(yY ds a b:Int)) (s0:=(0:Int)) rfl
  (λi c hi hc=>by
   have hm:=fM (λj=>at2 ds j a<at2 ds j b) i;refine .inl ⟨_,hs i c hi (by omega) (by omega),?_⟩;rw[dA];by_cases h:at2 ds i a<at2 ds i b;·rw[qj h,qj h,hc];rfl
   ·rw[qi h,qi h,hc];rfl)
  (λc hc=>⟨c,he c,hc⟩)
 rw[<-k2];exact k1
theorem O8(hf:Fld o ds){a b:Nat}(ha:a<o.length)(hb:b<o.length):NF o ds (a:Int) (b:Int)=some (yY ds a b:Int):=by
 have k:aJv ((a:Int),(b:Int),ds,((ds.length:Nat):Int)) ((0:Int),(0:Int))=some (yY ds a b:Int):=M5 hf.clients
  (λi c hi h0 h7=>by
   have hm:=hf.clients;have hr:=hf.rowLen i hi;have e1:(ds.getD i []).getD a 0=at2 ds i a:=rfl;have e2:(ds.getD i []).getD b 0=at2 ds i b:=rfl;by_cases h:at2 ds i a<at2 ds i b;·rw[qj h];simp(disch:=omega)only[EV,BY,hi,hr,ha,hb,e1,e2,h];rfl
   ·rw[qi h];simp(disch:=omega)only[EV,BY,hi,hr,ha,hb,e1,e2,h];rfl)
  (λc=>by simp(disch:=omega)only[EV,BY,xi])
 unfold NF aAs;rw[qo,k,xc,qt]
theorem D7(ho:aI o)(hd:dL ds)(hf:Fld o ds):aBi o ds=some (true,Pv ds o.length):=by
 have hlen:=hf.len;have k:aLv (((o.length:Nat):Int),o,ds) ((0:Int),([]:List Int))=some (Pv ds o.length):=Z9
  (λi c hi hc=>by
   have e1:aIT ((i:Int),((o.length:Nat):Int),(i:Int),((o.length:Nat):Int),o,ds,c) (false,(0:Int))=some (pE ds o.length i):=Eg (λb=>decide ((yY ds i b:Int)<(yY ds b i:Int)))
    (λj c hj=>by
     have e1:=O8 hf hi hj;have e2:=O8 hf hj hi;cases c with
     |true=>simp(disch:=omega)only[EV,Wq,hj];rfl
     |false=>simp(disch:=omega)only[EV,Wq,hj,e1,e2];rfl)
    (λc=>by simp(disch:=omega)only[EV,Wq,xi])
   have aa:∀x:Int,List.length [x]=1:=λ_=>rfl;have hb:(c.length+1)*8<=140737488355328:=by omega
   cases hq:pE ds o.length i with
   |true=>rw[hq]at e1;simp(disch:=omega)only[EV,BG,hi,e1];rfl
   |false=>rw[hq]at e1;simp(disch:=omega)only[EV,BG,hi,e1,aa,hb];rfl)
  (λc=>by simp(disch:=omega)only[EV,BG,xi])
 unfold aBi YB;rw[qo,cH ho hd,xc,fieldB_iff.2 hf,qp,xl,qb,qo,k,xc,qt]
theorem K2(hf:Fld o ds){a b:Nat}(ha:a<o.length)(hb:b<o.length):OF o ds (a:Int) (b:Int)=some (yY ds a b:Int):=by
 have k:aKT ((a:Int),(b:Int),o,ds) ((0:Int),(0:Int))=some (yY ds a b:Int):=M5 hf.clients
  (λi c hi h0 h7=>by
   have hm:=hf.clients;have hr:=hf.rowLen i hi;have e1:(ds.getD i []).getD a 0=at2 ds i a:=rfl;have e2:(ds.getD i []).getD b 0=at2 ds i b:=rfl;by_cases h:at2 ds i a<at2 ds i b;·rw[qj h];simp(disch:=omega)only[EV,IF,hi,hr,ha,hb,e1,e2,h];rfl
   ·rw[qi h];simp(disch:=omega)only[EV,IF,hi,hr,ha,hb,e1,e2,h];rfl)
  (λc=>by simp(disch:=omega)only[EV,IF,xi])
 unfold OF aCF;rw[qo,k,xc,qt]
theorem A6(ho:aI o)(hd:dL ds)(hf:Fld o ds):aDj o ds=some (true,Pv ds o.length):=by
 have hlen:=hf.len;have k:aIE (o,ds) ((0:Int),([]:List Int))=some (Pv ds o.length):=Z9
  (λi c hi hc=>by
   have e1:aKJ ((i:Int),o,ds,c) (false,(0:Int))=some (pE ds o.length i):=Eg (λb=>decide ((yY ds i b:Int)<(yY ds b i:Int)))
    (λj c hj=>by
     have e1:=K2 hf hi hj;have e2:=K2 hf hj hi;cases c with
     |true=>simp(disch:=omega)only[EV,HF,hj];rfl
     |false=>simp(disch:=omega)only[EV,HF,hj,e1,e2];rfl)
    (λc=>by simp(disch:=omega)only[EV,HF,xi])
   have aa:∀x:Int,List.length [x]=1:=λ_=>rfl;have hb:(c.length+1)*8<=140737488355328:=by omega
   cases hq:pE ds o.length i with
   |true=>rw[hq]at e1;simp(disch:=omega)only[EV,FE,hi,e1];rfl
   |false=>rw[hq]at e1;simp(disch:=omega)only[EV,FE,hi,e1,aa,hb];rfl)
  (λc=>by simp(disch:=omega)only[EV,FE,xi])
 unfold aDj aAC;rw[qo,eZ ho hd,xc,fieldB_iff.2 hf,qp,xl,qb,qo,k,xc,qt]
theorem Ia(hf:Fld o ds):Qe o ds=some (Fr ds o.length):=by
 have ho:=hf.len;have hc:=hf.clients;have k6:∀{i j a:Nat},i<ds.length->j<ds.length->a<o.length->aFy ((i:Int),(j:Int),(a:Int),o,ds) (0:Int)=some (bif Jb ds i j a o.length then .inl ()else .inr ()):=λ{i j a} hi hj ha=>
  bA (f:=λv=>(G6 ((i:Int),(j:Int),(a:Int),o,ds) v).ev) (n:=o.length) (mk:=λb=>(b:Int)) (p:=λb=> !decide (at2 ds i b+at2 ds j b+at2 ds j a<at2 ds i a)) (yes:=.inl ()) (no:=.inr ())
   (λb hb _=>by
    have aa:=hf.rowLen i hi;have ab:=hf.rowLen j hj;have v1:=hf.at2 hi hb;have v2:=hf.at2 hj hb;have v3:=hf.at2 hj ha;have v4:=hf.at2 hi ha;have e1:(ds.getD i []).getD b 0=at2 ds i b:=rfl;have e2:(ds.getD j []).getD b 0=at2 ds j b:=rfl;have e3:(ds.getD j []).getD a 0=at2 ds j a:=rfl;have e4:(ds.getD i []).getD a 0=at2 ds i a:=rfl;by_cases h:at2 ds i b+at2 ds j b+at2 ds j a<at2 ds i a;·simp(disch:=omega)only[EV,G6,hi,hj,ha,hb,aa,ab,e1,e2,e3,e4,h]
    ·simp(disch:=omega)only[EV,G6,hi,hj,ha,hb,aa,ab,e1,e2,e3,e4,h];rfl)
   (by simp(disch:=omega)only[EV,G6,xi])
 have k4:∀{i j:Nat},i<ds.length->j<ds.length->aGa ((i:Int),(j:Int),o,ds) (0:Int)=some (bif Iy ds i j o.length then .inl ()else .inr ()):=λ{i j} hi hj=>
  bA (f:=λv=>(E7 ((i:Int),(j:Int),o,ds) v).ev) (n:=o.length) (mk:=λb=>(b:Int)) (p:=λa=>Jb ds i j a o.length) (yes:=.inl ()) (no:=.inr ())
   (λa ha _=>by
    have e:=k6 hi hj ha;cases hq:Jb ds i j a o.length with
    |true=>rw[hq]at e;simp(disch:=omega)only[EV,E7,ha,e];rfl
    |false=>rw[hq]at e;simp(disch:=omega)only[EV,E7,ha,e])
   (by simp(disch:=omega)only[EV,E7,xi])
 have k2:∀{i:Nat},i<ds.length->aEX ((i:Int),o,ds) (0:Int)=some (bif It ds i o.length then .inl ()else .inr ()):=λ{i} hi=>
  bA (f:=λv=>(F6 ((i:Int),o,ds) v).ev) (n:=ds.length) (mk:=λb=>(b:Int)) (p:=λj=>Iy ds i j o.length) (yes:=.inl ()) (no:=.inr ())
   (λj hj _=>by
    have e:=k4 hi hj;cases hq:Iy ds i j o.length with
    |true=>rw[hq]at e;simp(disch:=omega)only[EV,F6,hj,e];rfl
    |false=>rw[hq]at e;simp(disch:=omega)only[EV,F6,hj,e])
   (by simp(disch:=omega)only[EV,F6,xi])
 have k0:ZA (o,ds) (0:Int)=some (bif Fr ds o.length then .inl ()else .inr ()):=
  bA (f:=λv=>(G8 (o,ds) v).ev) (n:=ds.length) (mk:=λb=>(b:Int)) (p:=λi=>It ds i o.length) (yes:=.inl ()) (no:=.inr ())
   (λi hi _=>by
    have e:=k2 hi;cases hq:It ds i o.length with
    |true=>rw[hq]at e;simp(disch:=omega)only[EV,G8,hi,e];rfl
    |false=>rw[hq]at e;simp(disch:=omega)only[EV,G8,hi,e])
   (by simp(disch:=omega)only[EV,G8,xi])
 unfold Qe PX;rw[qo,k0,xc];cases Fr ds o.length<;>rfl
end
def pZ:List Int->List Int->Bool
 |a::l,b::r=>if a=b then pZ l r else decide (a<b)
 |_,_=>false
theorem I7{l r:List Int}{i:Nat}(h1:i<l.length)(h2:i<r.length):pZ (l.drop i) (r.drop i)=if l.getD i 0=r.getD i 0 then pZ (l.drop (i+1)) (r.drop (i+1))else decide (l.getD i 0<r.getD i 0):=by rw[Nj h1,Nj h2,pZ,xd,xd,xf h1,xf h2];rfl
theorem Sl{l r:List Int}(h:l.length=r.length)(hl:l.length<=1000):aBh l r=some (pZ l r):=by
 obtain⟨x,k1,k2⟩:=aK (f:=λv=>(Uc (l,r) v).ev) (n:=l.length) (λi (_:Unit)=>(i:Int)) (λi _=>pZ l r=pZ (l.drop i) (r.drop i)) (λx=>(x=.inl ()/\pZ l r=false)\/x=.inr (pZ l r)) (s0:=()) rfl
  (λi _ hi hq=>by
   have aa:i<r.length:=by omega
   rw[I7 hi aa]at hq;by_cases e:l.getD i 0=r.getD i 0
   ·left;rw[qj e]at hq;have eb:(l.getD i 0 !=r.getD i 0)=false:=by rw[e];exact ql _
    refine⟨(),?_,hq⟩;simp(disch:=omega)only[EV,Uc,hi,aa,eb];rfl
   ·right;rw[qi e]at hq;have eb:(l.getD i 0 !=r.getD i 0)=true:=bne_iff_ne.2 e;refine⟨_,?_,.inr rfl⟩;rw[hq];simp(disch:=omega)only[EV,Uc,hi,aa,eb])
  (λ_ hq=>⟨_,by simp(disch:=omega)only[EV,Uc,xi],.inl ⟨rfl,by rw[hq,xds];rfl⟩⟩)
 have ab:aKl (l,r) (0:Int)=some x:=k1;unfold aBh aCJ;rw[qo,ab,xc];rcases k2 with⟨rfl,k2⟩|rfl;·rw[k2];rfl
 ·rfl
theorem DS(a b:Int):∃c,Ih a b=some c/\(c<0↔a<b)/\(c=0↔a=b):=by
 unfold Ih KN;have e:∀x,T9 x=some false:=λx=>by unfold T9 IJ;simp only[qt,ql]
 rw[qo,e,xc,qo,e,xc];simp only[qp,qb,qt];by_cases h1:a<b;·exact⟨-1,by rw[qc h1,qa],by omega,by omega⟩
 ·by_cases h2:b<a;·exact⟨1,by rw[qd h1,qb,qc h2,qa],by omega,by omega⟩
  ·exact⟨0,by rw[qd h1,qb,qd h2,qb],by omega,by omega⟩
theorem Ad{l r:List Int}(h:l.length=r.length)(hl:l.length<=1000):∃c,PM l r=some c/\decide (c<0)=pZ l r:=by
 obtain⟨x,k1,k2⟩:=aK (f:=λv=>(Oq (l,r,l,((l.length:Nat):Int)) v).ev) (n:=l.length) (λi (_:Unit)=>(i:Int)) (λi _=>pZ l r=pZ (l.drop i) (r.drop i)) (λx=>(x=.inl ()/\pZ l r=false)\/∃c:Int,x=.inr c/\decide (c<0)=pZ l r) (s0:=()) rfl
  (λi _ hi hq=>by
   have aa:i<r.length:=by omega
   have hn:¬((r.length:Nat):Int)<=(i:Int):=by omega
   obtain⟨c,e1,e2,e3⟩:=DS (l.getD i 0) (r.getD i 0);rw[I7 hi aa]at hq;by_cases e:l.getD i 0=r.getD i 0
   ·left;rw[qj e]at hq;have eb:(c !=0)=false:=by simp[e3.2 e]
    refine⟨(),?_,hq⟩;simp(disch:=omega)only[EV,Oq,hi,aa,hn,e1,eb];rfl
   ·right;rw[qi e]at hq;have eb:(c !=0)=true:=by simp[mt e3.1 e]
    refine⟨.inr c,?_,.inr ⟨c,rfl,by rw[hq];exact decide_eq_decide.2 e2⟩⟩;simp(disch:=omega)only[EV,Oq,hi,aa,hn,e1,eb])
  (λ_ hq=>⟨_,by simp(disch:=omega)only[EV,Oq,xi],.inl ⟨rfl,by rw[hq,xds];rfl⟩⟩)
 have ab:aHT (l,r,l,((l.length:Nat):Int)) (0:Int)=some x:=k1;unfold PM aBb;rw[qo,ab,xc];rcases k2 with⟨rfl,k2⟩|⟨c,rfl,k2⟩
 ·refine⟨0,?_,by rw[k2];rfl⟩;have hn:¬((l.length:Nat):Int)<((r.length:Nat):Int):=by omega
  show(Tr.t (decide (((l.length:Nat):Int)<((r.length:Nat):Int))) (.l (-1:Int)) (.l (0:Int))).ev=some 0;rw[qp,qd hn,qb,qt]
 ·exact⟨c,rfl,k2⟩
theorem Cb{p:Nat->Prop}[DecidablePred p]:∀{n:Nat},dA p n<=1↔∀i,i<n->∀k,k<i->¬(p i/\p k)
 |0=>⟨λ_ i h=>absurd h (by omega),λ_=>V6 _⟩
 |n+1=>by
  have ih:=Cb (p:=p) (n:=n);rw[dA];constructor
  ·intro h i hi k hk ⟨h1,h2⟩;by_cases e:i=n;·subst e;have:=cntN_pos.2 ⟨k,hk,h2⟩;rw[qj h1]at h;omega
   ·exact ih.1 (by omega) i (by omega) k hk ⟨h1,h2⟩
  ·intro h;have h1:=ih.2 λi hi=>h i (by omega);by_cases hp:p n
   ·rw[qj hp];by_cases h0:0<dA p n;·obtain⟨k,hk,h2⟩:=cntN_pos.1 h0;exact absurd ⟨hp,h2⟩ (h n (by omega) k hk)
    ·omega
   ·rw[qi hp];omega
section
variable {o:List Int}{ds:List (List Int)}{r:Int}
def yV(ds:List (List Int))(n:Nat)(r:Int)(l:List Int):Bool:=(List.range n).all λa=>decide (dA (λk=>at2 ds (pl l k) a<=r) l.length<=1)
def lE(ds:List (List Int))(n:Nat)(r:Int)(i j:Nat):Bool:=(List.range n).all λa=> !(decide (at2 ds i a<=r)&&decide (at2 ds j a<=r))
theorem JS(n:Nat)(l:List Int):yV ds n r l=(List.range l.length).all λi=>(List.range i).all λk=>lE ds n r (pl l i) (pl l k):=by
 rw[CZ];unfold yV lE;simp only[xr,xap,qf,Cb,E5,Bool.and_eq_false_iff,decide_eq_false_iff_not];constructor
 ·intro h i hi k hk a ha;have:=h a ha i hi k hk;by_cases h1:at2 ds (pl l i) a<=r;·exact .inr λh2=>this ⟨h1,h2⟩
  ·exact .inl h1
 ·rintro h a ha i hi k hk ⟨h1,h2⟩;rcases h i hi k hk a ha with h3|h3;·exact h3 h1
  ·exact h3 h2
def Nu(m:Nat)(l:List Int):Prop:=l.length<=7/\∀x∈l,0<=x/\x<(m:Int)
theorem GH{m:Nat}{l:List Int}(h:Nu m l){i:Nat}(hi:i<l.length):l.getD i 0=(pl l i:Int)/\pl l i<m:=by have:=h.2 _ (aG (d:=0) hi);unfold pl;omega
theorem Py(hf:Fld o ds){l:List Int}(hl:Nu ds.length l):NY o ds l r=some (yV ds o.length r l):=by
 have hlen:=hf.len;have h7:=hl.1;have key:aJC (l,r,((o.length:Nat):Int),o,ds) (0:Int)=some (bif yV ds o.length r l then .inl ()else .inr ()):=
  bA (f:=λv=>(Si (l,r,((o.length:Nat):Int),o,ds) v).ev) (n:=o.length) (λa=>(a:Int)) (λa=>decide (dA (λk=>at2 ds (pl l k) a<=r) l.length<=1)) (.inl ():Unit⊕Unit) (.inr ())
   (λa ha _=>by
    obtain⟨x,k1,k2⟩:=aK (f:=λv=>(Uk (l,r,(a:Int),((o.length:Nat):Int),(a:Int),l,((l.length:Nat):Int),o,ds) v).ev) (n:=l.length) (λi (c:Int)=>(c,(i:Int))) (λi c=>c=(dA (λk=>at2 ds (pl l k) a<=r) i:Int)) (λc=>c=(dA (λk=>at2 ds (pl l k) a<=r) l.length:Int)) (s0:=(0:Int)) rfl
     (λi c hi hc=>by
      left;obtain⟨e1,e2⟩:=GH hl hi;have hr:=hf.rowLen _ e2;have e3:(ds.getD (pl l i) []).getD a 0=at2 ds (pl l i) a:=rfl;have hm:=fM (λk=>at2 ds (pl l k) a<=r) i;rw[dA];by_cases h:at2 ds (pl l i) a<=r;·refine⟨c+1,?_,by rw[qj h,hc];rfl⟩;simp(disch:=omega)only[EV,Uk,hi,e1,e2,hr,ha,e3,h];rfl
      ·refine⟨c,?_,by rw[qi h,hc];rfl⟩;simp(disch:=omega)only[EV,Uk,hi,e1,e2,hr,ha,e3,h];rfl)
     (λc hc=>⟨c,by simp(disch:=omega)only[EV,Uk,xi],hc⟩)
    have aa:aIH (l,r,(a:Int),((o.length:Nat):Int),(a:Int),l,((l.length:Nat):Int),o,ds) ((0:Int),(0:Int))=some x:=k1;by_cases h:dA (λk=>at2 ds (pl l k) a<=r) l.length<=1
    ·have h':¬(1:Int)<x:=by omega
     rw[qc h,qa];simp(disch:=omega)only[EV,Si,ha,aa,h'];rfl
    ·have h':(1:Int)<x:=by omega
     rw[qd h,qb];simp(disch:=omega)only[EV,Si,ha,aa,h'])
   (by simp(disch:=omega)only[EV,Si,xi])
 unfold NY aER;rw[qo,key,xc];cases yV ds o.length r l<;>rfl
theorem AQ(hf:Fld o ds){i j:Nat}(hi:i<ds.length)(hj:j<ds.length):YI o ds (i:Int) (j:Int) r=some (lE ds o.length r i j):=by
 have hlen:=hf.len;have key:aHZ ((i:Int),(j:Int),r,o,ds) (0:Int)=some (bif lE ds o.length r i j then .inl ()else .inr ()):=
  bA (f:=λv=>(Ib ((i:Int),(j:Int),r,o,ds) v).ev) (n:=o.length) (λa=>(a:Int)) (λa=> !(decide (at2 ds i a<=r)&&decide (at2 ds j a<=r))) (.inl ():Unit⊕Unit) (.inr ())
   (λa ha _=>by
    have aa:=hf.rowLen i hi;have ab:=hf.rowLen j hj;have e1:(ds.getD i []).getD a 0=at2 ds i a:=rfl;have e2:(ds.getD j []).getD a 0=at2 ds j a:=rfl;by_cases h1:at2 ds i a<=r
    ·by_cases h2:at2 ds j a<=r;·simp(disch:=omega)only[EV,Ib,ha,hi,hj,aa,ab,e1,e2,h1,h2]
     ·simp(disch:=omega)only[EV,Ib,ha,hi,hj,aa,ab,e1,e2,h1,h2];rfl
    ·simp(disch:=omega)only[EV,Ib,ha,hi,aa,e1,h1];rfl)
   (by simp(disch:=omega)only[EV,Ib,xi])
 unfold YI aAe;rw[qo,key,xc];cases lE ds o.length r i j<;>rfl
theorem Wu(hf:Fld o ds){l:List Int}(hl:Nu ds.length l):ON o ds l r=some (yV ds o.length r l):=by
 have h7:=hl.1;have key:aLJ (l,r,o,ds) (0:Int)=some (bif (List.range l.length).all λi=>(List.range i).all λk=>lE ds o.length r (pl l i) (pl l k)then .inl ()else .inr ()):=
  bA (f:=λv=>(Ov (l,r,o,ds) v).ev) (n:=l.length) (λa=>(a:Int)) (λi=>(List.range i).all λk=>lE ds o.length r (pl l i) (pl l k)) (.inl ():Unit⊕Unit) (.inr ())
   (λi hi _=>by
    obtain⟨e1,e2⟩:=GH hl hi;have k2:aHQ (l,r,(i:Int),o,ds) (0:Int)=some (bif (List.range i).all λk=>lE ds o.length r (pl l i) (pl l k)then .inl ()else .inr ()):=
     bA (f:=λv=>(Oz (l,r,(i:Int),o,ds) v).ev) (n:=i) (λa=>(a:Int)) (λk=>lE ds o.length r (pl l i) (pl l k)) (.inl ():Unit⊕Unit) (.inr ())
      (λk hk _=>by
       obtain⟨e3,e4⟩:=GH hl (show k<l.length by omega);have ea:=AQ (r:=r) hf e2 e4;have aa:k<l.length:=by omega
       cases hq:lE ds o.length r (pl l i) (pl l k)with
       |true=>rw[hq]at ea;simp(disch:=omega)only[EV,Oz,hk,hi,aa,e1,e3,ea];rfl
       |false=>rw[hq]at ea;simp(disch:=omega)only[EV,Oz,hk,hi,aa,e1,e3,ea])
      (by simp(disch:=omega)only[EV,Oz,xi])
    cases hq:(List.range i).all λk=>lE ds o.length r (pl l i) (pl l k)with
    |true=>rw[hq]at k2;simp(disch:=omega)only[EV,Ov,hi,k2];rfl
    |false=>rw[hq]at k2;simp(disch:=omega)only[EV,Ov,hi,k2])
   (by simp(disch:=omega)only[EV,Ov,xi])
 rw[<-JS]at key;unfold ON aAV;rw[qo,key,xc];cases yV ds o.length r l<;>rfl
def fL(ds:List (List Int))(n:Nat)(r:Int)(c:List Int)(b:Nat):List Int:=if(c.length<(lO b).length\/((lO b).length=c.length/\pZ (lO b) c=true))/\yV ds n r (lO b)=true then lO b else c
def v7(ds:List (List Int))(n:Nat)(r:Int):List Int:=(List.range (2^ds.length)).foldl (fL ds n r) []
noncomputable def aHD(m:Nat):Bool:=(IntKind.wrap .u64 ((1:Int)*2^(min m (IntKind.bits .u64)))==((2^m:Nat):Int))&&(IntKind.wrap .i64 ((1:Int)*2^(min m (IntKind.bits .i64)))==((2^m:Nat):Int))&&(List.range (2^m)).all λb=>(Z7 (m:Int) (b:Int)==some (lO b))&&Nat.ble (lO b).length 7&&(lO b).all λx=>(decide (0<=x))&&decide (x<(m:Int))
theorem KL:(List.range 8).all aHD=true:=by kernel_rfl
theorem Ly{m:Nat}(h:m<=7):IntKind.wrap .u64 ((1:Int)*2^(min m (IntKind.bits .u64)))=((2^m:Nat):Int)/\IntKind.wrap .i64 ((1:Int)*2^(min m (IntKind.bits .i64)))=((2^m:Nat):Int)/\∀b:Nat,b<2^m->Z7 (m:Int) (b:Int)=some (lO b)/\Nu m (lO b):=by have h:=xr.1 KL m (xap.2 (by omega));simp only[aHD,xg,qh,xr,xap,qf,Nat.ble_eq]at h;exact⟨h.1.1,h.1.2,λb hb=>⟨(h.2 b hb).1.1,(h.2 b hb).1.2,(h.2 b hb).2⟩⟩
theorem yE{m n:Nat}{c:List Int}{b:Nat}(hb:Nu m (lO b))(hc:Nu m c):Nu m (fL ds n r c b):=by
 unfold fL;split;·exact hb
 ·exact hc
theorem Iv(hf:Fld o ds):aEo o ds r=some (v7 ds o.length r)/\Nu ds.length (v7 ds o.length r):=by
 obtain⟨_,hw,hb⟩:=Ly hf.clients;have ad:=hf.clients;have hp:2^ds.length<=2^7:=xdq (by omega) ad;have aa:(0:Int)<=((ds.length:Nat):Int):=by omega
 obtain⟨k1,k2⟩:=aR (f:=λv=>(Xy (r,o,ds) v).ev) (n:=2^ds.length) (mk:=λb (c:List Int)=>(c,(b:Int))) (I:=λ_ c=>Nu ds.length c) (g:=fL ds o.length r) (fin:=λc=>c) (s0:=[]) ⟨by simp,λx h=>by cases h⟩
  (λb c ae hc=>by
   obtain⟨e1,e2⟩:=hb b ae;refine⟨?_,yE e2 hc⟩;have e3:=Wu (r:=r) hf e2;have h7:=hc.1;have h8:=e2.1;have ab:(b:Int)<((2^ds.length:Nat):Int):=by omega
   have af:IntKind.wrap .i64 ((b:Int)+1)=((b+1:Nat):Int):=by rw[aL (by omega) (by omega)];rfl
   unfold Xy fL;dsimp only;rw[qq,qc aa,qa,xy,hw,qp,qc ab,qa,qo,e1,xc,qp,af];by_cases h1:c.length<(lO b).length
   ·rw[qc (show((c.length:Nat):Int)<(((lO b).length:Nat):Int) by omega),qa,qo,e3,xc,qp];cases hq:yV ds o.length r (lO b)with|true=>rw[qj ⟨.inl h1,rfl⟩];rfl|false=>rw[qi λh=>by cases h.2];rfl
   ·rw[qd (show¬((c.length:Nat):Int)<(((lO b).length:Nat):Int) by omega),qb,qp];by_cases h2:(lO b).length=c.length
    ·have eb:((((lO b).length:Nat):Int)==((c.length:Nat):Int))=true:=beq_iff_eq.2 (by omega);rw[eb,qa,qo,Sl h2 (by omega),xc,qp];cases ai:pZ (lO b) c with
     |true=>
      rw[qa,qo,e3,xc,qp];cases hq:yV ds o.length r (lO b)with
      |true=>rw[qj ⟨.inr ⟨h2,rfl⟩,rfl⟩];rfl
      |false=>rw[qi λh=>by cases h.2];rfl
     |false=>rw[qi λh=>by rcases h.1 with h|h;exact h1 h;cases h.2];rfl
    ·have eb:((((lO b).length:Nat):Int)==((c.length:Nat):Int))=false:=beq_eq_false_iff_ne.2 (by omega);rw[eb,qb,qi λh=>by rcases h.1 with h|h;exact h1 h;exact h2 h.1];rfl)
  (λc _=>by unfold Xy;dsimp only;rw[qq,qc aa,qa,xy,hw,qp,qd (DG _),qb,qt])
 have ah:aLV (r,o,ds) (([]:List Int),(0:Int))=some (v7 ds o.length r):=k1;refine⟨?_,k2⟩;unfold aEo aAT;rw[qo,ah,xc,qt]
theorem Hd(hf:Fld o ds):aBP o ds r=some (v7 ds o.length r):=by
 obtain⟨hw,_,hb⟩:=Ly hf.clients;have ae:=hf.clients;have hp:2^ds.length<=2^7:=xdq (by omega) ae;have ah:1<=2^ds.length:=Nat.one_le_two_pow;have ab:(0:Int)<=((ds.length:Nat):Int):=by omega
 have step:∀(b:Nat) (c:List Int),b<2^ds.length->Nu ds.length c->(Vd (r,o,ds) (c,(b:Int))).ev=some (.inl (fL ds o.length r c b,((b+1:Nat):Int))):=λb c aa hc=>by
  have e2:=(hb b aa).2;have e1:=(V5 (x:=b) (by omega)).list;have e3:=Py (r:=r) hf e2;have h7:=hc.1;have h8:=e2.1;have ad:(b:Int)<((2^ds.length:Nat):Int):=by omega
  have af:IntKind.wrap .u64 ((b:Int)+1)=((b+1:Nat):Int):=by show((b:Int)+1) % 18446744073709551616=_;omega
  unfold Vd fL;dsimp only;rw[qq,qc ab,qa,xy,hw,qp,qc ad,qa,qo,e1,xc,qp,af];by_cases h1:c.length<(lO b).length
  ·rw[qc (show((c.length:Nat):Int)<(((lO b).length:Nat):Int) by omega),qa,qo,e3,xc,qp];cases hq:yV ds o.length r (lO b)with|true=>rw[qj ⟨.inl h1,rfl⟩];rfl|false=>rw[qi λh=>by cases h.2];rfl
  ·rw[qd (show¬((c.length:Nat):Int)<(((lO b).length:Nat):Int) by omega),qb,qp];by_cases h2:(lO b).length=c.length
   ·have eb:((((lO b).length:Nat):Int)==((c.length:Nat):Int))=true:=beq_iff_eq.2 (by omega);obtain⟨x,e4,e5⟩:=Ad h2 (by omega);rw[eb,qa,qo,e4,xc,qp,e5];cases ai:pZ (lO b) c with
    |true=>
     rw[qa,qo,e3,xc,qp];cases hq:yV ds o.length r (lO b)with
     |true=>rw[qj ⟨.inr ⟨h2,rfl⟩,rfl⟩];rfl
     |false=>rw[qi λh=>by cases h.2];rfl
    |false=>rw[qi λh=>by rcases h.1 with h|h;exact h1 h;cases h.2];rfl
   ·have eb:((((lO b).length:Nat):Int)==((c.length:Nat):Int))=false:=beq_eq_false_iff_ne.2 (by omega);rw[eb,qb,qi λh=>by rcases h.1 with h|h;exact h1 h;exact h2 h.1];rfl
 have h0:Nu ds.length []:=⟨by simp,λx h=>by cases h⟩
 have k0:LH (r,o,ds) (([]:List Int),(0:Int))=some (v7 ds o.length r):=
  (aR (f:=λv=>(Vd (r,o,ds) v).ev) (n:=2^ds.length) (mk:=λb (c:List Int)=>(c,(b:Int))) (I:=λ_ c=>Nu ds.length c) (g:=fL ds o.length r) (fin:=λc=>c) (s0:=[]) h0
   (λb c aa hc=>⟨step b c aa hc,yE (hb b aa).2 hc⟩)
   (λc _=>by unfold Vd;dsimp only;rw[qq,qc ab,qa,xy,hw,qp,qd (DG _),qb,qt])).1
 have k1:LH (r,o,ds) (([]:List Int),(1:Int))=some (v7 ds o.length r):=by
  rw[<-k0];unfold LH
  conv=>rhs;rw[aF]
  have:=step 0 [] (by omega) h0;have e:fL ds o.length r [] 0=[]:=by have:lO 0=[]:=rfl;unfold fL;rw[this];split<;>rfl
  rw[e]at this;rw[show((0:Int))=((0:Nat):Int)from rfl,this];rfl
 unfold aBP aEr;rw[qo,k1,xc,qt]
theorem Bn(ho:aI o)(hd:dL ds)(hf:Fld o ds)(k:Int):∃l b,OO o ds k=some (b,l)/\KE o ds k=some (l,b)/\Nu o.length l:=by
 have e1:Jo o ds k=some (bZ k 1 ((o.length:Nat):Int)):=by unfold Jo KT;rw[qo,cH ho hd,xc,fieldB_iff.2 hf,qp,qa,qo,dK,xc,qt]
 have e2:aFM o ds k=some (bZ k 1 ((o.length:Nat):Int)):=by unfold aFM ZC;rw[qo,eZ ho hd,xc,fieldB_iff.2 hf,qp,qa,qo,fW,xc,qt]
 cases hk:bZ k 1 ((o.length:Nat):Int)with
 |false=>
  rw[hk]at e1 e2;refine⟨[],false,?_,?_,by simp,λx h=>by cases h⟩;·unfold OO JW;rw[qo,e1,xc,qp,nL,qa,qt]
  ·unfold KE NG;rw[qo,e2,xc,qp,nL,qa,qt]
 |true=>
  rw[hk]at e1 e2;have aa:=isIn_iff.1 hk;have h7:=hf.len;obtain⟨m1,m2⟩:=ofSz_mem.1 (Il h7 (ds:=ds) aa);obtain⟨p1,_,_⟩:=cO h7 (pD hf.pos h7) m1;refine⟨vW ds o.length k,true,?_,?_,by omega,λx hx=>?_⟩;·unfold OO JW;rw[qo,e1,xc,qp,xl,qb,qo,Sb hf aa,xc,qt]
  ·unfold KE NG;rw[qo,e2,xc,qp,xl,qb,qo,Vh hf aa,xc,qt]
  obtain⟨i,hi,e⟩:=xbv.1 hx;have:=p1.mem i hi;rw[xd,xf hi,xM,e]at this;exact this
theorem He{f:List Int×Int->Option ((List Int×Int)⊕List Int)}{L:List (List Int)}{g:List Int->Int}(hL:0<L.length)(hs:∀(i:Nat) (c:List Int),i<L.length->c∈L->f (c,(i:Int))=some (.inl (if g (L.getD i [])<g c then L.getD i []else c,((i+1:Nat):Int))))(he:∀c,f (c,((L.length:Nat):Int))=some (.inr c)):aB f (L.getD 0 [],(1:Int))=some (aW g L):=by
 obtain⟨r,h1,rfl⟩:=cJ (f:=f) (n:=L.length-1) (λi v=>v=(aW g (L.take (i+1)),((i+1:Nat):Int))) (λr=>r=aW g L)
  (λi v hi hv=>by
   subst hv;have ab:i+1<L.length:=by omega
   have aa:L.take (i+1)≠ []:=λe=>by have:=congrArg List.length e;rw[xw]at this;simp only[xz]at this;omega
   have ae:=(dJ (g:=g) aa).1;have ad:=iR (g:=g) aa (L.getD (i+1) []);rw[<-dP [] ab]at ad;exact⟨_,hs (i+1) _ ab (Vs ae),by rw[ad]⟩)
  (λv hv=>by
   subst hv;have e:L.length-1+1=L.length:=by omega
   rw[e];exact⟨_,he _,by rw[tM]⟩)
  (v:=(L.getD 0 [],1)) (by have h1:=dP (l:=L) (i:=0) [] hL;rw[xep,K0]at h1;rw[h1,gV];rfl)
 exact h1
theorem S6(ho:aI o)(hd:dL ds)(hf:Fld o ds)(k:Int):∃l b,GC o ds k=some (b,l)/\MW o ds k=some (b,l)/\Nu o.length l:=by
 have e1:Jo o ds k=some (bZ k 1 ((o.length:Nat):Int)):=by unfold Jo KT;rw[qo,cH ho hd,xc,fieldB_iff.2 hf,qp,qa,qo,dK,xc,qt]
 have e2:aFg o ds k=some (bZ k 1 ((o.length:Nat):Int)):=by unfold aFg aAP;rw[qo,eZ ho hd,xc,fieldB_iff.2 hf,qp,qa,qo,fW,xc,qt]
 cases hk:bZ k 1 ((o.length:Nat):Int)with
 |false=>
  rw[hk]at e1 e2;refine⟨[],false,?_,?_,by simp,λx h=>by cases h⟩;·unfold GC LM;rw[qo,e1,xc,qp,nL,qa,qt]
  ·unfold MW LV;rw[qo,e2,xc,qp,nL,qa,qt]
 |true=>
  rw[hk]at e1 e2;have ae:=isIn_iff.1 hk;have h7:=hf.len;have hS:=pD hf.pos h7;have hl:=kJ hS h7;have aa:=xar.2 (X1 h7 ae);have ab:l3 ds o.length k∈mO o.length k:=(dJ (X1 h7 ae)).1;obtain⟨p1,p2,p3⟩:=cO h7 hS (upTo_mem.1 ab).1;have af:=p1.low;refine⟨_,true,Gj hf e1 ae,?_,?_,λx hx=>?_⟩
  ·have k1:aJT (k,aN o.length) ((0:Int),([]:List (List Int)))=some (mO o.length k):=by
    have h:=(dT (f:=λv=>(Ps (k,aN o.length) v).ev) (aN o.length) [] (mk:=λi (c:List (List Int))=>((i:Int),c)) (I:=λi c=>c.length<=i) (g:=λc s=>if(s.length:Int)<=k then c++ [s]else c) (fin:=λc=>c) (s0:=[]) (xm _)
     (λi c hi hc=>by
      have ad:∀x:List Int,List.length [x]=1:=λ_=>rfl;have hb:(c.length+1)*24<=140737488355328:=by omega
      by_cases h:(((aN o.length).getD i []).length:Int)<=k;·simp only[qj h];refine⟨?_,by rw[xj,ad];omega⟩;simp(disch:=omega)only[EV,Ps,hi,h,ad,hb];rfl
      ·simp only[qi h];refine⟨?_,by omega⟩;simp(disch:=omega)only[EV,Ps,hi,h];rfl)
     (λc _=>by simp(disch:=omega)only[EV,Ps,xi])).1
    have e:(aN o.length).foldl (λc s=>if(s.length:Int)<=k then c++ [s]else c) []=mO o.length k:=by
     have key:∀(l acc:List (List Int)),l.foldl (λc s=>if(s.length:Int)<=k then c++ [s]else c) acc=acc++l.filter λs=>decide ((s.length:Int)<=k):=by
      intro l;induction l with
      |nil=>intro acc;simp
      |cons a l ih=>
       intro acc;rw[Z2,ih,WM];by_cases h:(a.length:Int)<=k;·simp[h]
       ·simp[h]
     rw[key,K0];rfl
    rw[e]at h;exact h
   have k2:aKh (o,ds,mO o.length k) ((mO o.length k).getD 0 [],(1:Int))=some (l3 ds o.length k):=He aa
    (λi c hi hc=>by
     have hle:(mO o.length k).length<=(aN o.length).length:=xdt _ _;obtain⟨q1,q2,_⟩:=cO h7 hS (upTo_mem.1 hc).1;obtain⟨q3,q4,_⟩:=cO h7 hS (upTo_mem.1 (aG (d:=[]) hi)).1;have e3:=n9 hf q1 q2;have e4:=n9 hf q3 q4;by_cases h:Vq ds ((mO o.length k).getD i [])<Vq ds c;·rw[qj h];simp(disch:=omega)only[EV,AR,hi,e3,e4,h];rfl
     ·rw[qi h];simp(disch:=omega)only[EV,AR,hi,e3,e4,h];rfl)
    (λc=>by simp(disch:=omega)only[EV,AR,xi])
   have k3:WX o ds k=some (mO o.length k):=by unfold WX aBG;rw[qo,hS.sp,xc,qo,k1,xc,qt]
   have k4:aEl o ds k=some (l3 ds o.length k):=by unfold aEl aAf;rw[qo,k3,xc,qq,show aC (0:Int) (mO o.length k).length=true from bK (by omega) (by omega),qa,qq,qc (show Int.toNat 0<(mO o.length k).length by simpa using aa),qa,qo];rw[show(mO o.length k).getD (Int.toNat 0) []=(mO o.length k).getD 0 []from rfl,k2,xc,qt]
   unfold MW LV;rw[qo,e2,xc,qp,xl,qb,qo,k4,xc,qo,jX (by omega),xc,qt]
  ·have:=(upTo_mem.1 ab).2;omega
  ·obtain⟨i,hi,e⟩:=xbv.1 hx;have:=p1.mem i hi;rw[xd,xf hi,xM,e]at this;exact this
end
end Go.Proofs.YtjiljcblmgeioaaGreatDoor
