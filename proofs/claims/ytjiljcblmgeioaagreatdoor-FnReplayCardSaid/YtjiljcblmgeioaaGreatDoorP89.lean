/- A part of the proof that FnReplay hands back true, at every argument of the row. -/
import Derived.Test.YtjiljcblmgeioaaGreatDoorP46
namespace Go.Proofs.YtjiljcblmgeioaaGreatDoor
set_option linter.all false
def HG(x:List Nat×List (List Int)):Prop:=∀i∈x.1,i<x.2.length
def aO:Nat->List (List Int)
 |1=>[[0]]
 |2=>[[0],[1],[0,1]]
 |3=>[[0],[1],[2],[0,1],[0,2],[1,2],[0,1,2]]
 |4=>[[0],[1],[2],[3],[0,1],[0,2],[0,3],[1,2],[1,3],[2,3],[0,1,2],[0,1,3],[0,2,3],[1,2,3],[0,1,2,3]]
 |5=>[[0],[1],[2],[3],[4],[0,1],[0,2],[0,3],[0,4],[1,2],[1,3],[1,4],[2,3],[2,4],[3,4],[0,1,2],[0,1,3],[0,1,4],[0,2,3],[0,2,4],[0,3,4],[1,2,3],[1,2,4],[1,3,4],[2,3,4],[0,1,2,3],[0,1,2,4],[0,1,3,4],[0,2,3,4],[1,2,3,4],[0,1,2,3,4]]
 |6=>[[0],[1],[2],[3],[4],[5],[0,1],[0,2],[0,3],[0,4],[0,5],[1,2],[1,3],[1,4],[1,5],[2,3],[2,4],[2,5],[3,4],[3,5],[4,5],[0,1,2],[0,1,3],[0,1,4],[0,1,5],[0,2,3],[0,2,4],[0,2,5],[0,3,4],[0,3,5],[0,4,5],[1,2,3],[1,2,4],[1,2,5],[1,3,4],[1,3,5],[1,4,5],[2,3,4],[2,3,5],[2,4,5],[3,4,5],[0,1,2,3],[0,1,2,4],[0,1,2,5],[0,1,3,4],[0,1,3,5],[0,1,4,5],[0,2,3,4],[0,2,3,5],[0,2,4,5],[0,3,4,5],[1,2,3,4],[1,2,3,5],[1,2,4,5],[1,3,4,5],[2,3,4,5],[0,1,2,3,4],[0,1,2,3,5],[0,1,2,4,5],[0,1,3,4,5],[0,2,3,4,5],[1,2,3,4,5],[0,1,2,3,4,5]]
 |7=>[[0],[1],[2],[3],[4],[5],[6],[0,1],[0,2],[0,3],[0,4],[0,5],[0,6],[1,2],[1,3],[1,4],[1,5],[1,6],[2,3],[2,4],[2,5],[2,6],[3,4],[3,5],[3,6],[4,5],[4,6],[5,6],[0,1,2],[0,1,3],[0,1,4],[0,1,5],[0,1,6],[0,2,3],[0,2,4],[0,2,5],[0,2,6],[0,3,4],[0,3,5],[0,3,6],[0,4,5],[0,4,6],[0,5,6],[1,2,3],[1,2,4],[1,2,5],[1,2,6],[1,3,4],[1,3,5],[1,3,6],[1,4,5],[1,4,6],[1,5,6],[2,3,4],[2,3,5],[2,3,6],[2,4,5],[2,4,6],[2,5,6],[3,4,5],[3,4,6],[3,5,6],[4,5,6],[0,1,2,3],[0,1,2,4],[0,1,2,5],[0,1,2,6],[0,1,3,4],[0,1,3,5],[0,1,3,6],[0,1,4,5],[0,1,4,6],[0,1,5,6],[0,2,3,4],[0,2,3,5],[0,2,3,6],[0,2,4,5],[0,2,4,6],[0,2,5,6],[0,3,4,5],[0,3,4,6],[0,3,5,6],[0,4,5,6],[1,2,3,4],[1,2,3,5],[1,2,3,6],[1,2,4,5],[1,2,4,6],[1,2,5,6],[1,3,4,5],[1,3,4,6],[1,3,5,6],[1,4,5,6],[2,3,4,5],[2,3,4,6],[2,3,5,6],[2,4,5,6],[3,4,5,6],[0,1,2,3,4],[0,1,2,3,5],[0,1,2,3,6],[0,1,2,4,5],[0,1,2,4,6],[0,1,2,5,6],[0,1,3,4,5],[0,1,3,4,6],[0,1,3,5,6],[0,1,4,5,6],[0,2,3,4,5],[0,2,3,4,6],[0,2,3,5,6],[0,2,4,5,6],[0,3,4,5,6],[1,2,3,4,5],[1,2,3,4,6],[1,2,3,5,6],[1,2,4,5,6],[1,3,4,5,6],[2,3,4,5,6],[0,1,2,3,4,5],[0,1,2,3,4,6],[0,1,2,3,5,6],[0,1,2,4,5,6],[0,1,3,4,5,6],[0,2,3,4,5,6],[1,2,3,4,5,6],[0,1,2,3,4,5,6]]
 |_=>[]
noncomputable def X4(n:Nat):Bool:=match Ur (n:Int)with
 |some x=>x.1.all (λi=>Nat.blt i x.2.length)&&(bI x.1 x.2==aO n)
 |none=>false
noncomputable def T0(n:Nat):Bool:=BY (n:Int)==some (aO n)
def Y9(n:Nat):Bool:=(aO n).all (λs=>cJ s 0 ((n:Int) -1)&&Nat.blt 0 s.length&&Nat.ble s.length 7)&&Nat.beq ((aO n).length+1) (2^n)
theorem ZR:Y9 1=true:=by kernel_rfl
theorem aEO:Y9 2=true:=by kernel_rfl
theorem aCY:Y9 3=true:=by kernel_rfl
theorem aDz:Y9 4=true:=by kernel_rfl
theorem aDQ:Y9 5=true:=by kernel_rfl
theorem aEq:Y9 6=true:=by kernel_rfl
theorem aFD:Y9 7=true:=by kernel_rfl
theorem NG:∀n:Nat,1<=n->n<=7->Y9 n=true
 |1,_,_=>ZR
 |2,_,_=>aEO
 |3,_,_=>aCY
 |4,_,_=>aDz
 |5,_,_=>aDQ
 |6,_,_=>aEq
 |7,_,_=>aFD
 |0,h,_=>by omega
 |n+8,_,h=>by omega
theorem YW:T0 1=true:=by kernel_rfl
theorem aFB:T0 2=true:=by kernel_rfl
theorem aCV:T0 3=true:=by kernel_rfl
theorem aCN:T0 4=true:=by kernel_rfl
theorem aDE:T0 5=true:=by kernel_rfl
theorem aCF:T0 6=true:=by kernel_rfl
theorem XR:T0 7=true:=by kernel_rfl
theorem aBY:∀n:Nat,1<=n->n<=7->T0 n=true
 |1,_,_=>YW
 |2,_,_=>aFB
 |3,_,_=>aCV
 |4,_,_=>aCN
 |5,_,_=>aDE
 |6,_,_=>aCF
 |7,_,_=>XR
 |0,h,_=>by omega
 |n+8,_,h=>by omega
theorem aFJ:X4 1=true:=by kernel_rfl
theorem aBu:X4 2=true:=by kernel_rfl
theorem aBz:X4 3=true:=by kernel_rfl
theorem aDG:X4 4=true:=by kernel_rfl
theorem aCM:X4 5=true:=by kernel_rfl
theorem aCi:X4 6=true:=by kernel_rfl
theorem aGi:X4 7=true:=by kernel_rfl
theorem aAE:∀n:Nat,1<=n->n<=7->X4 n=true
 |1,_,_=>aFJ
 |2,_,_=>aBu
 |3,_,_=>aBz
 |4,_,_=>aDG
 |5,_,_=>aCM
 |6,_,_=>aCi
 |7,_,_=>aGi
 |0,h,_=>by omega
 |n+8,_,h=>by omega
structure SetsP(n:Nat):Prop where
 im:∃x,Ur (n:Int)=some x/\HG x/\bI x.1 x.2=aO n
 sp:BY (n:Int)=some (aO n)
 len:(aO n).length+1=2^n
 rising:∀s∈aO n,cJ s 0 ((n:Int) -1)=true/\0<s.length/\s.length<=7
theorem oT{n:Nat}(h1:1<=n)(h2:n<=7):SetsP n:=by
 have c3:=NG n h1 h2;simp only[Y9,xf,xt]at c3;have hr:∀s∈aO n,cJ s 0 ((n:Int) -1)=true/\0<s.length/\s.length<=7:=λs hs=>⟨(c3.1 s hs).1.1,by simpa using(c3.1 s hs).1.2,by simpa using(c3.1 s hs).2⟩
 have c2:=aBY n h1 h2;simp only[T0,qg]at c2;have aa:=c2;have c1:=aAE n h1 h2;have hi:∃x,Ur (n:Int)=some x/\HG x/\bI x.1 x.2=aO n:=by
  unfold X4 at c1;split at c1
  next x hx=>
   simp only[xf,xt,qg]at c1;exact⟨x,hx,λi hi=>by simpa using c1.1 i hi,c1.2⟩
  next=>cases c1
 exact⟨hi,aa,xg c3.2,hr⟩
theorem OS{n:Nat}(h:n<=7):2^n<=2^7:=xdp (by omega) h
theorem jV{n:Nat}(hS:SetsP n)(h:n<=7):(aO n).length<=128:=by
 have h1:=hS.len;have h2:=OS h;have h3:2^7<=128:=by decide
 omega
theorem gZ{α:Type}(ix:List Nat)(l:List (List α)):(bI ix l).length=ix.length:=by simp[bI]
theorem iD{α:Type}{ix:List Nat}(l:List (List α)){i:Nat}(h:i<ix.length):(bI ix l).getD i []=l.getD (ix.getD i 0) []:=by unfold bI;rw[xd,oE,xd (l:=ix),xh h];rfl
theorem Lh{α:Type}(ix:List Nat)(i:Nat)(l:List (List α)):bI (ix++ [i]) l=bI ix l++ [l.getD i []]:=by simp[bI]
theorem Kd{α:Type}(ix:List Nat)(l:List (List α))(n:Nat):bI (ix.take n) l=(bI ix l).take n:=by simp[bI]
theorem HG.at{x:List Nat×List (List Int)}(h:HG x){i:Nat}(hi:i<x.1.length):x.1.getD i 0<x.2.length:=h _ (aG hi)
theorem kL{α:Type}{l:List α}{i:Nat}(d:α)(h:i<l.length):l.take (i+1)=l.take i++ [l.getD i d]:=by rw[Wk h,xd,xh h];rfl
theorem vQ{x:List Nat×List (List Int)}(hx:HG x)(h0:0<x.1.length)(hl:(x.1.length:Int)<=1048576){p:HL [.slice (.int .i64)]->Option Int}{g:List Int->Int}(hp:∀s∈bI x.1 x.2,p (s,())=some (g s)):
  BD p x=some (aV g (bI x.1 x.2)):=by
 obtain⟨ix,l⟩:=x;simp only at h0 hl hp⊢;have hn:=gZ ix l;have ab:∀i,i<ix.length->l.getD (ix.getD i 0) []∈bI ix l:=λi hi=>by rw[<-iD l hi];exact aG (by omega)
 have ai:∀m,0<m->(bI ix l).take m≠ []:=λm hm e=>by have:=congrArg List.length e;simp only[xw,hn,xy]at this;omega
 have hz:Int.toNat 0=0:=rfl;have hb:∀i,i<ix.length->ix.getD i 0<l.length:=λi hi=>HG.at hx hi;have h:=aR (f:=λv=>(Qr (p,(ix.length:Int),ix,l) v).ev) (n:=ix.length) (mk:=λi (b:Nat)=>(b,(i:Int)))
  (I:=λi b=>b<l.length/\l.getD b []∈bI ix l/\l.getD b []=aV g ((bI ix l).take (i+if i=0 then 1 else 0))) (g:=λb i=>if g (l.getD (ix.getD i 0) [])<g (l.getD b [])then ix.getD i 0 else b) (fin:=λb=>b) (s0:=ix.getD 0 0)
  ⟨hb 0 h0,ab 0 h0,by rw[qi rfl,kL [] (by omega),iD l h0,xep,J8,gR]⟩
  (λi b hi hI=>by
   obtain⟨aj,ae,ad⟩:=hI;have af:=hp _ (ab i hi);have ah:=hp _ ae;have aa:aV g ((bI ix l).take (i+1))=if g (l.getD (ix.getD i 0) [])<g (l.getD b [])then l.getD (ix.getD i 0) []else l.getD b []:=by
    by_cases e:i=0;·subst e;rw[qi rfl]at ad;rw[qh,ad];rw[ad,P1,kL [] (by omega),iD l h0,xep,J8,gR];exact JJ _
    ·rw[qh e,zL]at ad;rw[kL [] (by omega),iD l hi,iI (ai i (by omega)),<-ad]
   by_cases hq:g (l.getD (ix.getD i 0) [])<g (l.getD b [])
   ·refine⟨?_,?_⟩;·simp(disch:=omega)only[EV,Qr,hi,hb i hi,af,ah,hq];rfl
    ·rw[qi hq]at aa⊢;exact⟨hb i hi,ab i hi,by rw[qh (by omega),zL,aa]⟩
   ·refine⟨?_,?_⟩;·simp(disch:=omega)only[EV,Qr,hi,hb i hi,af,ah,hq];rfl
    ·rw[qh hq]at aa⊢;exact⟨aj,ae,by rw[qh (by omega),zL,aa]⟩)
  (λb _=>by simp(disch:=omega)only[EV,Qr,xi])
 have h1:aGX (p,(ix.length:Int),ix,l) (ix.getD 0 0,(0:Int))=_:=h.1;obtain⟨_,_,e⟩:=h.2;rw[qh (by omega),zL,Gg (by omega)]at e;unfold BD aFA;simp(disch:=omega)only[EV,show aC (0:Int) ix.length=true from bK (by omega) (by omega),hz,h0,hb 0 h0,h1];rw[<-e]
theorem rT{x:List Nat×List (List Int)}(hx:HG x)(hl:(x.1.length:Int)<=1048576){p:HL [.slice (.int .i64)]->Option Bool}{q:List Int->Bool}(hp:∀s∈bI x.1 x.2,p (s,())=some (q s)):
  ∃y,PK p x=some y/\HG y/\bI y.1 y.2=(bI x.1 x.2).filter λs=> !q s:=by
 obtain⟨ix,l⟩:=x;simp only at hl hp⊢;have hn:=gZ ix l;have aa:=pO (l:=bI ix l) (by omega) hp;unfold PK aEg;cases hf:(bI ix l).findIdx? q with
 |none=>rw[hf]at aa;have e:(Option.elim (none:Option Nat) (-1) λi=>((i:Nat):Int))= -1:=rfl;rw[e]at aa;simp(disch:=omega)only[EV,aa,show((-1:Int)== -1)=true from rfl];refine⟨_,rfl,hx,?_⟩;have av:=xgg.1 hf;exact(xft.2 λs hs=>by rw[av s hs];rfl).symm
 |some i0=>
  rw[hf]at aa;have e:(Option.elim (some i0:Option Nat) (-1) λi=>((i:Nat):Int))=(i0:Int):=rfl;rw[e]at aa;obtain⟨aw,ay,af⟩:=xdb.1 hf;have ba:i0<ix.length:=by omega
  have ah:∀i,i<ix.length->l.getD (ix.getD i 0) []∈bI ix l:=λi hi=>by rw[<-iD l hi];exact aG (by omega)
  have hb:∀i,i<ix.length->ix.getD i 0<l.length:=λi hi=>HG.at hx hi;have ai:((bI ix l).take (i0+1)).filter (λs=> !q s)=(bI ix l).take i0:=by
   rw[Wk aw,xfa];have e1:((bI ix l).take i0).filter (λs=> !q s)=(bI ix l).take i0:=xft.2 λs hs=>by
    obtain⟨j,hj,rfl⟩:=JK hs;have az:j<i0:=by simp at hj;omega
    have:=af j az;simpa using this
   rw[e1];simp[ay]
  have h:=aR (f:=λv=>(Vu p v).ev) (n:=ix.length-(i0+1)) (mk:=λk (st:Nat×List Nat)=>((st.1:Int),((i0+1+k:Nat):Int),st.2,l))
   (I:=λk st=>st.2.length=ix.length/\st.1<=i0+k/\bI (st.2.take st.1) l=((bI ix l).take (i0+1+k)).filter (λs=> !q s)/\st.2.drop (i0+1+k)=ix.drop (i0+1+k)/\∀m∈st.2,m<l.length)
   (g:=λst k=>if q (l.getD (ix.getD (i0+1+k) 0) [])=true then st else(st.1+1,st.2.set st.1 (ix.getD (i0+1+k) 0))) (fin:=λst=>((st.1:Int),st.2,l)) (s0:=(i0,ix))
   ⟨rfl,xm _,by rw[Kd,zL,ai],rfl,hx⟩
   (λk st hk hI=>by
    obtain⟨i,jx⟩:=st;obtain⟨a1,a2,a3,a4,a5⟩:=hI;simp only at a1 a2 a3 a4 a5⊢;have hj:i0+1+k<ix.length:=by omega
    have aj:i0+1+k<jx.length:=by omega
    have ak:jx.getD (i0+1+k) 0=ix.getD (i0+1+k) 0:=by have:=congrArg (λl:List Nat=>l[0]?) a4;simp only[yJ,zL]at this;rw[xd,xd,this]
    have ae:=hb _ hj;have al:=hp _ (ah _ hj);have ao:(bI ix l).take (i0+1+(k+1))=(bI ix l).take (i0+1+k)++ [l.getD (ix.getD (i0+1+k) 0) []]:=by rw[show i0+1+(k+1)=(i0+1+k)+1 by omega,kL [] (by omega),iD l hj]
    have ar:jx.drop (i0+1+(k+1))=ix.drop (i0+1+(k+1)):=by have:=congrArg (List.drop 1) a4;rw[xfw,xfw]at this;exact this
    have ab:((i0+1+k:Nat):Int)+1=((i0+1+(k+1):Nat):Int):=by omega
    cases hq:q (l.getD (ix.getD (i0+1+k) 0) [])with
    |true=>
     rw[qi rfl];refine⟨?_,a1,by omega,?_,ar,a5⟩;·simp(disch:=omega)only[EV,Vu,aj,ak,ae,al,hq,ab]
     ·rw[a3,ao,xfa,List.filter_cons_of_neg (by rw[hq];exact Bool.noConfusion),List.filter_nil,yT]
    |false=>
     rw[qh (by simp)];have ad:i<jx.length:=by omega
     refine⟨?_,by simpa using a1,by omega,?_,?_,λm hm=>?_⟩;·simp(disch:=omega)only[EV,Vu,aj,ak,ae,al,hq,ab,ad];rfl
     ·rw[kL 0 (by simpa using ad),List.take_set_of_le (xm _),Lh,a3,ao,xfa];have e2:(jx.set i (ix.getD (i0+1+k) 0)).getD i 0=ix.getD (i0+1+k) 0:=by rw[xd,List.getElem?_set_self ad];rfl
      rw[e2,List.filter_cons_of_pos (by rw[hq];rfl),List.filter_nil]
     ·rw[List.drop_set_of_lt (by omega)];exact ar
     ·rcases xcs hm with h|rfl;·exact a5 m h
      ·exact ae)
   (λst hI=>by
    have e3:i0+1+(ix.length-(i0+1))=st.2.length:=by rw[hI.1];omega
    simp(disch:=omega)only[EV,Vu,e3,xi])
  obtain⟨h1,b1,b2,b3,_,b5⟩:=h;generalize(List.range (ix.length-(i0+1))).foldl _ (i0,ix)=st at h1 b1 b2 b3 b5;obtain⟨i,jx⟩:=st;simp only at h1 b1 b2 b3 b5;have h2:aJX p ((i0:Int),(i0:Int)+1,ix,l)=some ((i:Int),jx,l):=h1;have au:((i0:Int)== -1)=false:=beq_eq_false_iff_ne.2 (by omega);have ad:i<=jx.length:=by omega
  have e4:(jx.take i++List.replicate (jx.length-i) l.length).length=jx.length:=by simp only[xj,xw,Rn];omega
  have e5:(jx.take i++List.replicate (jx.length-i) l.length).take i=jx.take i:=by rw[xfq (by rw[xw];omega),xfg,Nat.min_self]
  have g1:(0:Int)<=(i:Int):=by omega
  have g2:(i:Int)<=((jx.length:Nat):Int):=by omega
  simp(disch:=omega)only[EV,aa,au,h2,e4,e5,g1,g2];refine⟨_,rfl,λm hm=>b5 m (Wi hm),?_⟩;simp only;rw[b3,Gg (by omega)]
theorem cN{n:Nat}(h7:n<=7)(hS:SetsP n){s:List Int}(hs:s∈aO n):Places s n/\0<s.length/\aK s:=by
 obtain⟨h1,h2,h3⟩:=hS.rising s hs;have hl:aK s:=by unfold aK;omega
 exact⟨Places.of hl h1,h2,hl⟩
def uA(n:Nat)(k:Int):List (List Int):=(aO n).filter λs=>decide ((s.length:Int)=k)
def XL(n:Nat):Bool:=(List.range n).all λk=>(aO n).any λs=>Nat.beq s.length (k+1)
theorem Td:∀n:Nat,n<=7->XL n=true
 |0,_=>by kernel_rfl
 |1,_=>by kernel_rfl
 |2,_=>by kernel_rfl
 |3,_=>by kernel_rfl
 |4,_=>by kernel_rfl
 |5,_=>by kernel_rfl
 |6,_=>by kernel_rfl
 |7,_=>by kernel_rfl
 |n+8,h=>by omega
theorem zK{n:Nat}(h7:n<=7){k:Int}(h1:1<=k)(hk:k<=(n:Int)):uA n k≠ []:=by have h:=Td n h7;unfold XL at h;have h2:=xt.1 h (k.toNat-1) (xar.2 (by omega));obtain⟨s,hs,e⟩:=xbg.1 h2;have e2:=xg e;intro h3;have h4:s∈uA n k:=xak.2 ⟨hs,by simp;omega⟩;rw[h3]at h4;cases h4
theorem ofSz_mem{n:Nat}{k:Int}{s:List Int}:s∈uA n k↔s∈aO n/\(s.length:Int)=k:=by unfold uA;rw[xak,qe]
def dB(o:List Int)(ds:List (List Int))(s:List Int):Int:=Bb o s+eX ds s
theorem vR{o:List Int}{ds:List (List Int)}(hf:Fld o ds){s:List Int}(hs:ris o.length s)(h0:s≠ []):0<=dB o ds s/\dB o ds s<=103809717:=by have hp:=hs.places hf.len;have h1:=Ks hf hp;have h2:=nA hf hp (xaq.2 h0);unfold dB;omega
theorem wE{o:List Int}{ds:List (List Int)}(hf:Fld o ds){s:List Int}(hs:ris o.length s)(h0:s≠ []):V4 o ds s=some (dB o ds s):=v8 hf (hs.places hf.len) (xaq.2 h0)
def wo(s:List Int)(a:Int):List Int:=s.filter λx=>x !=a
def swF(n:Nat)(s w:List Int)(acc:List (List Int)):List (List Int):=(List.range n).foldl (λacc (b:Nat)=>if s.contains (b:Int)then acc else acc++ [ins (b:Int) w]) acc
def hY(n:Nat)(s:List Int)(x:List (List Int)×List (List Int)×List (List Int))(a:Nat):List (List Int)×List (List Int)×List (List Int):=
 if s.contains (a:Int)then(x.1,(if 0<(wo s (a:Int)).length then x.2.1++ [wo s (a:Int)]else x.2.1),swF n s (wo s (a:Int)) x.2.2)
 else(x.1++ [ins (a:Int) s],x.2.1,x.2.2)
def Gh(n:Nat)(s:List Int):List (List Int)×List (List Int)×List (List Int):=(List.range n).foldl (hY n s) ([],[],[])
def eD(n:Nat)(s:List Int):List (List Int):=(Gh n s).1++(Gh n s).2.1++(Gh n s).2.2
theorem bY{s:List Int}{a:Int}(h:s.contains a=false):a∉s:=λhm=>by rw[xce.2 hm]at h;cases h
theorem Mg{n:Nat}{s w:List Int}(Q:List Int->Prop)(h:∀b:Nat,b<n->(b:Int)∉s->Q (ins (b:Int) w)){acc:List (List Int)}(ha:∀m∈acc,Q m):(∀m∈swF n s w acc,Q m)/\(swF n s w acc).length<=acc.length+n:=by
 have key:∀k,k<=n->(∀m∈(List.range k).foldl (λacc (b:Nat)=>if s.contains (b:Int)then acc else acc++ [ins (b:Int) w]) acc,Q m)/\((List.range k).foldl (λacc (b:Nat)=>if s.contains (b:Int)then acc else acc++ [ins (b:Int) w]) acc).length<=acc.length+k:=by
  intro k;induction k with
  |zero=>intro _;exact⟨ha,xm _⟩
  |succ k ih=>
   intro hk;obtain⟨i1,i2⟩:=ih (by omega);rw[aU];cases hc:s.contains (k:Int)with
   |true=>simp only[if_true];exact⟨i1,by omega⟩
   |false=>
    simp only[tJ,if_false];refine⟨λm hm=>?_,by rw[xj,JH];omega⟩;rcases xp.1 hm with hm|hm;·exact i1 m hm
    ·rw[xo.1 hm];exact h k (by omega) (bY hc)
 exact key n (xm _)
theorem Oe{n:Nat}{s:List Int}(Q:List Int->Prop)(h1:∀a:Nat,a<n->(a:Int)∉s->Q (ins (a:Int) s))(h2:∀a:Nat,a<n->(a:Int)∈s->0<(wo s (a:Int)).length->Q (wo s (a:Int)))
  (h3:∀a:Nat,a<n->(a:Int)∈s->∀b:Nat,b<n->(b:Int)∉s->Q (ins (b:Int) (wo s (a:Int)))):∀k,k<=n->(∀m∈((List.range k).foldl (hY n s) ([],[],[])).1,Q m)/\(∀m∈((List.range k).foldl (hY n s) ([],[],[])).2.1,Q m)/\(∀m∈((List.range k).foldl (hY n s) ([],[],[])).2.2,Q m)/\
  ((List.range k).foldl (hY n s) ([],[],[])).1.length<=k/\((List.range k).foldl (hY n s) ([],[],[])).2.1.length<=k/\((List.range k).foldl (hY n s) ([],[],[])).2.2.length<=k*n:=by
 intro k;induction k with
 |zero=>intro _;exact⟨λm h=>(by cases h),λm h=>(by cases h),λm h=>(by cases h),xm _,xm _,by simp⟩
 |succ k ih=>
  intro hk;obtain⟨i1,i2,i3,i4,i5,i6⟩:=ih (by omega);rw[aU];generalize(List.range k).foldl (hY n s) ([],[],[])=x at i1 i2 i3 i4 i5 i6⊢;unfold hY;have hmul:(k+1)*n=k*n+n:=by rw[C8,xgh]
  cases hc:s.contains (k:Int)with
  |true=>
   have hm:=xce.1 hc;obtain⟨j1,j2⟩:=Mg (n:=n) (s:=s) (w:=wo s (k:Int)) Q (h3 k (by omega) hm) i3;simp only[if_true];refine⟨i1,?_,j1,by omega,?_,by omega⟩
   ·split
    next hp=>
     intro m aa;rcases xp.1 aa with aa|aa;·exact i2 m aa
     ·rw[xo.1 aa];exact h2 k (by omega) hm hp
    next=>exact i2
   ·split;·simp;omega
    ·omega
  |false=>
   simp only[tJ,if_false];refine⟨λm hm=>?_,i2,i3,by simp;omega,by omega,by omega⟩;rcases xp.1 hm with hm|hm;·exact i1 m hm
   ·rw[xo.1 hm];exact h1 k (by omega) (bY hc)
theorem lD{s:List Int}{a b:Int}(h:b∉s):b∉wo s a:=λhm=>h (xak.1 hm).1
theorem ris.wo{n:Nat}{s:List Int}(h:ris n s)(a:Int):ris n (wo s a):=h.filter _
theorem xK{n:Nat}{s:List Int}(h:ris n s):∀m∈eD n s,ris n m/\m≠ []:=by
 have aa:∀x (l:List Int),ins x l≠ []:=λx l e=>by have:=pD x l;rw[e]at this;simp at this
 obtain⟨h1,h2,h3,_⟩:=Oe (n:=n) (s:=s) (λm=>ris n m/\m≠ []) (λa ha hn=>⟨h.ins (by omega) (by omega) hn,aa _ _⟩) (λa ha hm hp=>⟨h.wo _,xaq.1 hp⟩)
  (λa ha hm b hb hn=>⟨(h.wo _).ins (by omega) (by omega) (lD hn),aa _ _⟩) n (xm _)
 intro m hm;rcases xp.1 hm with hm|hm
 ·rcases xp.1 hm with hm|hm;·exact h1 m hm
  ·exact h2 m hm
 ·exact h3 m hm
theorem Ax{n:Nat}(hn:n<=7)(s:List Int):(eD n s).length<=100:=by obtain⟨_,_,_,h1,h2,h3⟩:=Oe (n:=n) (s:=s) (λ_=>True) (λ_ _ _=>trivial) (λ_ _ _ _=>trivial) (λ_ _ _ _ _ _=>trivial) n (xm _);have hmul:n*n<=7*7:=xfe hn hn;have q1:(Gh n s).1.length<=n:=h1;have q2:(Gh n s).2.1.length<=n:=h2;have q3:(Gh n s).2.2.length<=n*n:=h3;unfold eD;rw[xj,xj];omega
theorem Jx(s:List Int)(a:Int):(wo s a).length<=s.length:=xdt _ _
theorem aFR(k:(List (Int))×(Int)×(Nat)×(List (Int))×(List (List (Int)))×(List (List (Int)))×(List (List (Int)))){s w:List Int}{n:Nat}(h1:k.1=s)(h2:k.2.2.2.1.length=n)(h3:List.getD k.2.2.2.2.2.2 k.2.2.1 []=w)
  (hn:n<=7) (hs:s.length<=7) (hw:w.length<=7) (aa:∀b,b∉s->b∉w) {acc:List (List Int)} (ha:acc.length<=1000):aLl k (0,acc)=some (swF n s w acc):=by
 have h:=(aR (f:=λv=>(Sd k v).ev) (n:=n) (mk:=λi (acc:List (List Int))=>((i:Int),acc)) (I:=λi a=>a.length<=1000+i) (g:=λacc (b:Nat)=>if s.contains (b:Int)then acc else acc++ [ins (b:Int) w]) (fin:=λs=>s) (s0:=acc) (by omega)
  (λi x hi hx=>by
   have e1:=tL (l:=s) (by omega) (i:Int);have e2:(i:Int)<((k.2.2.2.1.length:Nat):Int):=by omega
   cases hc:s.contains (i:Int)with
   |true=>rw[hc]at e1;refine⟨?_,by simp only[if_true];omega⟩;simp(disch:=omega)only[EV,Sd,h1,h2,e1,hi];rfl
   |false=>rw[hc]at e1;have e3:=qD (l:=w) (x:=(i:Int)) (by omega) (aa _ (bY hc));have r1:=mH x (by omega);refine⟨?_,by simp;omega⟩;simp(disch:=omega)only[EV,Sd,h1,h2,h3,e1,e3,hi,r1,eS];rfl)
  (λx _=>by simp(disch:=omega)only[EV,Sd,h2,xi])).1
 exact h
theorem PZ(k:(List (Int))×(Int)×(List (Int))×(List (List (Int)))×(List (List (Int)))×(List (List (Int)))×(List (Int))){s w:List Int}{n:Nat}(h1:k.1=s)(h2:k.2.2.1.length=n)(h3:k.2.2.2.2.2.2=w)
  (hn:n<=7) (hs:s.length<=7) (hw:w.length<=7) (aa:∀b,b∉s->b∉w) {acc:List (List Int)} (ha:acc.length<=1000):aIW k (0,acc)=some (swF n s w acc):=by
 have h:=(aR (f:=λv=>(wcm k v).ev) (n:=n) (mk:=λi (acc:List (List Int))=>((i:Int),acc)) (I:=λi a=>a.length<=1000+i) (g:=λacc (b:Nat)=>if s.contains (b:Int)then acc else acc++ [ins (b:Int) w]) (fin:=λs=>s) (s0:=acc) (by omega)
  (λi x hi hx=>by
   have e1:=tL (l:=s) (by omega) (i:Int);cases hc:s.contains (i:Int)with
   |true=>rw[hc]at e1;refine⟨?_,by simp only[if_true];omega⟩;simp(disch:=omega)only[EV,wcm,h1,h2,e1,hi];rfl
   |false=>rw[hc]at e1;have e3:=qD (l:=w) (x:=(i:Int)) (by omega) (aa _ (bY hc));have r1:=mH x (by omega);refine⟨?_,by simp;omega⟩;simp(disch:=omega)only[EV,wcm,h1,h2,h3,e1,e3,hi,r1,eS];rfl)
  (λx _=>by simp(disch:=omega)only[EV,wcm,h2,xi])).1
 exact h
theorem Sp{o s:List Int}(ds:List (List Int))(ho:o.length<=7)(hs:s.length<=7):aFu o ds s=some (eD o.length s):=by
 have h:=(aR (f:=λv=>(Ht (s,o,ds) v).ev) (n:=o.length) (mk:=λi (x:List (List Int)×List (List Int)×List (List Int))=>((i:Int),x)) (I:=λi x=>x.1.length<=i/\x.2.1.length<=i/\x.2.2.length<=i*o.length) (g:=hY o.length s) (fin:=λx=>x) (s0:=([],[],[])) ⟨xm _,xm _,by simp⟩
  (λi x hi hx=>by
   obtain⟨x1,x2,x3⟩:=x;obtain⟨g1,g2,g3⟩:=hx;simp only at g1 g2 g3;have hmul:(i+1)*o.length=i*o.length+o.length:=by rw[C8,xgh]
   have aa:i*o.length<=7*7:=xfe (by omega) ho;have e1:=tL (l:=s) (by omega) (i:Int);unfold hY;cases hc:s.contains (i:Int)with
   |false=>rw[hc]at e1;have e3:=qD (l:=s) (x:=(i:Int)) (by omega) (bY hc);have r1:=mH x1 (by omega);simp only[tJ,if_false];refine⟨?_,by simp;omega,by omega,by omega⟩;simp(disch:=omega)only[EV,Ht,e1,e3,hi,r1,eS];rfl
   |true=>
    rw[hc]at e1;have e3:=oW (l:=s) (by omega) (i:Int);have hw:=Jx s (i:Int);have hj:=(Mg (n:=o.length) (s:=s) (w:=wo s (i:Int)) (λ_=>True) (λ_ _ _=>trivial) (acc:=x3) λ_ _=>trivial).2;simp only[if_true];by_cases hp:0<(wo s (i:Int)).length
    ·have r1:=mH x2 (by omega);have ad:0<(List.filter (λx=>x != (i:Int)) s).length:=hp;have e4:=aFR (s,(i:Int),x2.length,o,ds,x1,(List.set (x2++ [[]]) x2.length (wo s (i:Int)))) (w:=wo s (i:Int)) rfl rfl (by show List.getD (List.set (x2++ [[]]) x2.length (wo s (i:Int))) x2.length []=wo s (i:Int);rw[eS];simp) ho hs (by omega) (λb hb=>lD hb) (acc:=x3) (by omega);unfold wo at e4;rw[eS]at e4;rw[qi hp];refine⟨?_,by omega,by simp;omega,by omega⟩;have ab:((0:Int)<(((List.filter (λx=>x != (i:Int)) s).length:Nat):Int)):=by omega
     simp(disch:=omega)only[EV,Ht,e1,e3,hi,r1,ab,e4,eS];rfl
    ·have e4:=PZ (s,(i:Int),o,ds,x1,x2,wo s (i:Int)) (w:=wo s (i:Int)) rfl rfl rfl ho hs (by omega) (λb hb=>lD hb) (acc:=x3) (by omega);rw[qh hp];unfold wo at e4 hp;refine⟨?_,by omega,by omega,by omega⟩;have ab:¬((0:Int)<(((List.filter (λx=>x != (i:Int)) s).length:Nat):Int)):=by omega
     simp(disch:=omega)only[EV,Ht,e1,e3,hi,ab,e4];rfl)
  (λx _=>by simp(disch:=omega)only[EV,Ht,xi]))
 obtain⟨h1,g1,g2,g3⟩:=h;have h0:aLB (s,o,ds) (0,[],[],[])=some (Gh o.length s):=h1;have q1:(Gh o.length s).1.length<=o.length:=g1;have q2:(Gh o.length s).2.1.length<=o.length:=g2;have q3:(Gh o.length s).2.2.length<=o.length*o.length:=g3;have aa:o.length*o.length<=7*7:=xfe ho ho;have r1:((Gh o.length s).1.length+(Gh o.length s).2.1.length)*24<=140737488355328:=by omega
 have r2:(((Gh o.length s).1++(Gh o.length s).2.1).length+(Gh o.length s).2.2.length)*24<=140737488355328:=by rw[xj];omega
 unfold aFu aDD;rw[qn,h0,xc,qp,qc r1,qa,qp,qc r2,qa,qq];rfl
def aS(o:List Int)(ds:List (List Int))(s:List Int):Option (List Int):=(eD o.length s).find? λm=>decide (dB o ds m<dB o ds s)
theorem dH{o:List Int}{ds:List (List Int)}{s m:List Int}(hs:ris o.length s)(h:aS o ds s=some m):ris o.length m/\m≠ []/\dB o ds m<dB o ds s:=by unfold aS at h;have h1:=List.find?_some h;obtain⟨a,b⟩:=xK hs m (xge h);exact⟨a,b,of_decide_eq_true h1⟩
theorem Ah{α:Type}(q:α->Bool)(d:α):∀l:List α,l.find? q=(l.findIdx? q).map λi=>l.getD i d
 | []=>rfl
 |x::l=>by
  rw[xgz,xee];cases hx:q x with
  |true=>simp
  |false=>have ih:=Ah q d l;simp only[tJ,if_false];rw[ih];cases l.findIdx? q<;>simp
def mD(o:List Int)(ds:List (List Int)):Nat->List Int->Nat×List Int
 |0,s=>(0,s)
 |m+1,s=>match aS o ds s with
  |some t=>((mD o ds m t).1+1,(mD o ds m t).2)
  |none=>(0,s)
def nX(o:List Int)(ds:List (List Int))(s:List Int):Nat×List Int:=mD o ds 103809717 s
theorem I5{o:List Int}{ds:List (List Int)}(hf:Fld o ds):∀(m:Nat) {s:List Int},ris o.length s->s≠ []->dB o ds s<=(m:Int)->
  ris o.length (mD o ds m s).2/\(mD o ds m s).2≠ []/\aS o ds (mD o ds m s).2=none/\dB o ds (mD o ds m s).2+((mD o ds m s).1:Int)<=dB o ds s/\(mD o ds m s).1<=m
 |0,s,hs,h0,hm=>by
  refine⟨hs,h0,?_,by simp[mD],xm _⟩;show aS o ds s=none;cases hb:aS o ds s with
  |none=>rfl
  |some t=>obtain⟨a,b,c⟩:=dH hs hb;have:=vR hf a b;omega
 |m+1,s,hs,h0,hm=>by
  unfold mD;cases hb:aS o ds s with
  |none=>exact⟨hs,h0,hb,by simp,by simp⟩
  |some t=>obtain⟨a,b,c⟩:=dH hs hb;obtain⟨i1,i2,i3,i4,i5⟩:=I5 hf m a b (by omega);refine⟨i1,i2,i3,?_,by simp only;omega⟩;simp only;omega
theorem Ic{o:List Int}{ds:List (List Int)}(hf:Fld o ds){s:List Int}(hs:ris o.length s)(h0:s≠ []):
  ris o.length (nX o ds s).2/\(nX o ds s).2≠ []/\aS o ds (nX o ds s).2=none/\dB o ds (nX o ds s).2+((nX o ds s).1:Int)<=dB o ds s/\(nX o ds s).1<=103809717:=
 I5 hf 103809717 hs h0 (by have:=(vR hf hs h0).2;omega)
def f5(x:Option (List Int)):Bool×List Int:=match x with
 |some m=>(true,m)
 |none=>(false,[])
theorem sL{o:List Int}{ds:List (List Int)}(hf:Fld o ds){s:List Int}(hs:ris o.length s)(h0:s≠ []):CV o ds s=some (f5 (aS o ds s)):=by
 have hl:=hs.len;have h7:=hf.len;have e1:=Sp (o:=o) (s:=s) ds h7 (by omega);have e2:=wE hf hs h0;have ab:=Ax h7 s;have h:=fX (f:=λv=>(Si (s,o,ds,eD o.length s) v).ev) (l:=eD o.length s) [] (λm=>decide (dB o ds m<dB o ds s)) (mk:=λi=>(i:Int)) (yes:=λi=>.inr i) (no:=.inl ())
  (λi hi=>by
   obtain⟨a,b⟩:=xK hs _ (aG (d:=[]) hi);have e3:=wE hf a b;by_cases aa:dB o ds ((eD o.length s).getD i [])<dB o ds s;·simp(disch:=omega)only[EV,Si,hi,e2,e3,aa]
   ·simp(disch:=omega)only[EV,Si,hi,e2,e3,aa];rfl)
  (by simp(disch:=omega)only[EV,Si,xi])
 have hb:aJZ (s,o,ds,eD o.length s) 0=_:=h;unfold CV ZZ;rw[qn,e1,xc,qn,hb,xc];unfold aS;rw[Ah _ []];cases(eD o.length s).findIdx? λm=>decide (dB o ds m<dB o ds s)<;>rfl
theorem Wz{o:List Int}{ds:List (List Int)}(hf:Fld o ds):∀(m:Nat) {s:List Int} (many:Int),0<=many->many+(m:Int)<=1000000000->ris o.length s->s≠ []->dB o ds s<=(m:Int)->
  Yr (o,ds) (many,(f5 (aS o ds s)).1,s,(f5 (aS o ds s)).2)=some (many+((mD o ds m s).1:Int),(mD o ds m s).2):=by
 have out:∀{s:List Int} (many:Int),aS o ds s=none->Yr (o,ds) (many,(f5 (aS o ds s)).1,s,(f5 (aS o ds s)).2)=some (many,s):=λ{s} many hb=>by rw[hb];unfold Yr;rw[aE];simp(disch:=omega)only[EV,CD,f5]
 intro m;induction m with
 |zero=>
  intro s many h1 h2 hs h0 ht;have hb:aS o ds s=none:=by
   cases hb:aS o ds s with
   |none=>rfl
   |some t=>obtain⟨a,b,c⟩:=dH hs hb;have:=vR hf a b;omega
  rw[out many hb];simp[mD]
 |succ m ih=>
  intro s many h1 h2 hs h0 ht;cases hb:aS o ds s with
  |none=>have:=out many hb;rw[hb]at this;rw[this];simp[mD,hb]
  |some t=>
   obtain⟨a,b,c⟩:=dH hs hb;have e1:=sL hf a b;have hw:IntKind.wrap .i64 (many+1)=many+1:=aN (by omega) (by omega);have aa:=ih (s:=t) (many+1) (by omega) (by omega) a b (by omega);unfold Yr at aa⊢;rw[aE];have ab:(CD (o,ds) (many,(f5 (some t)).1,s,(f5 (some t)).2)).ev=some (.inl (many+1,(f5 (aS o ds t)).1,t,(f5 (aS o ds t)).2)):=by simp(disch:=omega)only[EV,CD,f5,e1,hw]
   rw[ab];simp only;rw[aa];simp only[mD,hb,xe,Wb,ql];omega
theorem Ru{o:List Int}{ds:List (List Int)}(ho:aK o)(hd:eP ds){s:List Int}(hs:aK s):aFN o ds s=some (bif dS o ds s then(((nX o ds s).1:Int),true,(nX o ds s).2)else(0,false,[])):=by
 have e1:=j0 ho hd hs;unfold aFN aCv;rw[qn,e1,xc,qo];cases hb:dS o ds s with
 |false=>rfl
 |true=>
  obtain⟨hf,hp,h0⟩:=rG hs hb;have hr:ris o.length s:=by unfold dS at hb;simp only[xf]at hb;exact ris_iff.1 hb.2.1
  have aa:s≠ []:=xaq.1 h0;have hl:=hr.len;have h7:=hf.len;have e2:=jR (l:=s) (by omega);have e3:=sL hf hr aa;have e4:=Wz hf 103809717 (s:=s) 0 (by omega) (by omega) hr aa (vR hf hr aa).2;rw[xl,qb,qn,e2,xc,qn,e3,xc,qn,e4,xc,qq,qa,Int.zero_add];rfl
def oO(o:List Int)(ds:List (List Int)):List Int:=aV (dB o ds) (aO o.length)
theorem A0{n:Nat}(h1:1<=n)(h7:n<=7){s:List Int}(hs:s∈aO n):ris n s/\s≠ []:=by obtain⟨a,b,_⟩:=(oT h1 h7).rising s hs;exact⟨ris_iff.1 a,xaq.1 b⟩
theorem zM{n:Nat}(h1:1<=n)(h7:n<=7):aO n≠ []:=λe=>by have:=(oT h1 h7).len;rw[e]at this;have h2:2^1<=2^n:=xdp (by omega) h1;simp at this;omega
theorem Ll{o:List Int}{ds:List (List Int)}(hf:Fld o ds):oO o ds∈aO o.length/\∀s∈aO o.length,dB o ds (oO o ds)<=dB o ds s:=by obtain⟨a,b⟩:=dG (g:=dB o ds) (zM hf.pos hf.len);refine⟨a,λs hs=>?_⟩;show dB o ds (aV (dB o ds) (aO o.length))<=_;rw[b];exact(oY (λe=>zM hf.pos hf.len (xfs.1 e))).2 _ (xde hs)
theorem BC{o:List Int}{ds:List (List Int)}(hf:Fld o ds):aAv o ds=some (oO o ds):=by
 have hS:=oT hf.pos hf.len;have ai:=zM hf.pos hf.len;have hl:=jV hS hf.len;have e1:=hS.sp;have hr:∀s∈aO o.length,V4 o ds s=some (dB o ds s):=λs hs=>by obtain⟨a,b⟩:=A0 hf.pos hf.len hs;exact wE hf a b
 unfold oO;generalize aO o.length=L at*;have af:0<L.length:=xaq.2 ai;have h:=cH (f:=λv=>(EM (L,o,ds) v).ev) (n:=L.length-1) (λi v=>v=(aV (dB o ds) (L.take (i+1)),((i+1:Nat):Int))) (λr=>r=aV (dB o ds) L)
  (λi v hi hv=>by
   subst hv;have ab:i+1<L.length:=by omega
   have aa:L.take (i+1)≠ []:=λe=>by have:=congrArg List.length e;rw[xw]at this;simp only[xy]at this;omega
   have aj:=(dG (g:=dB o ds) aa).1;have e2:=hr _ (Wi aj);have e3:=hr _ (aG (d:=[]) ab);have ah:=iI (g:=dB o ds) aa (L.getD (i+1) []);rw[<-dK [] ab]at ah;refine⟨_,?_,rfl⟩;have hw:IntKind.wrap .i64 (((i+1:Nat):Int)+1)=((i+1+1:Nat):Int):=by rw[aN (by omega) (by omega)];rfl
   have ad:((i+1:Nat):Int)<((L.length:Nat):Int):=by omega
   have ae:=eA ab;unfold EM;dsimp only;rw[qo,qc ad,qa,qp,ae,qa,qn,xx,e3,xc,qn,e2,xc,qo,hw,ah];by_cases hc:dB o ds (L.getD (i+1) [])<dB o ds (aV (dB o ds) (L.take (i+1)));·rw[qc hc,qa,qi hc,qp,qa,qq]
   ·rw[qd hc,qb,qh hc,qq])
  (λv hv=>by
   subst hv;have ad:¬((L.length-1+1:Nat):Int)<((L.length:Nat):Int):=by omega
   refine⟨aV (dB o ds) (List.take (L.length-1+1) L),?_,by rw[Gg (by omega)]⟩;unfold EM;dsimp only;rw[qo,qd ad,qb,qq])
  (v:=(L.getD 0 [],1)) (by have h1:=dK (l:=L) (i:=0) [] af;rw[xep,J8]at h1;rw[h1,gR];rfl)
 obtain⟨r,h1,rfl⟩:=h;have hL:aGF (L,o,ds) (L.getD 0 [],1)=some (aV (dB o ds) L):=h1;unfold aAv aCt;have ae:aC (0:Int) L.length=true:=bK (by omega) (by omega);rw[qn,e1,xc,qp,ae,qa,qn];have ht:Int.toNat 0=0:=rfl;rw[ht,hL,xc,qq]
section
variable {K:Int->Int}
def gV(K:Int->Int)(x:Int):List Int->List Int
 | []=>[x]
 |a::l=>if K a<=K x then a::gV K x l else x::a::l
def dL(K:Int->Int)(l:List Int):List Int:=l.foldl (λacc x=>gV K x acc) []
theorem H7{x y:Int}(h:K x<K y):∀q:List Int,gV K x (q++ [y])=gV K x q++ [y]
 | []=>by simp[gV];omega
 |a::q=>by
  simp only[No,gV];split;·rw[H7 h q];rfl
  ·rfl
theorem L4{x:Int}:∀{l:List Int},(∀y∈l,K y<=K x)->gV K x l=l++ [x]
 | [],_=>rfl
 |a::l,h=>by simp only[gV,qi (h a xu),No];rw[L4 λy hy=>h y (xr _ hy)]
theorem qK(x:Int):∀l:List Int,(gV K x l).Perm (x::l)
 | []=>.refl _
 |a::l=>by
  simp only[gV];split;·exact((qK x l).cons a).trans (.swap x a l)
  ·exact .refl _
theorem xD{x:Int}:∀{l:List Int},l.Pairwise (λa b=>K a<=K b)->(gV K x l).Pairwise λa b=>K a<=K b
 | [],_=>by simp[gV]
 |a::l,h=>by
  rw[xbj]at h;simp only[gV];split
  next hx=>
   rw[xbj];refine⟨λy hy=>?_,xD h.2⟩;rcases xae.1 ((qK x l).mem_iff.1 hy)with e|hy;·rw[e];exact hx
   ·exact h.1 y hy
  next hx=>
   rw[xbj,xbj];refine⟨λy hy=>?_,h⟩;rcases xae.1 hy with rfl|hy;·omega
   ·have:=h.1 y hy;omega
theorem o6(l:List Int)(x:Int):dL K (l++ [x])=gV K x (dL K l):=by simp[dL]
theorem qY:∀l:List Int,(dL K l).Pairwise (λa b=>K a<=K b)/\(dL K l).Perm l:=by
 intro l;have key:∀(l acc:List Int),acc.Pairwise (λa b=>K a<=K b)->(l.foldl (λacc x=>gV K x acc) acc).Pairwise (λa b=>K a<=K b)/\(l.foldl (λacc x=>gV K x acc) acc).Perm (acc++l):=by
  intro l;induction l with
  |nil=>intro acc h;exact⟨h,by simp⟩
  |cons x l ih=>intro acc h;obtain⟨h1,h2⟩:=ih (gV K x acc) (xD h);refine⟨h1,h2.trans (((qK x acc).append_right l).trans ?_)⟩;rw[No];exact List.perm_middle.symm
 have h:=key l [] List.Pairwise.nil;rw[J8]at h;exact h
theorem N8(x:Int):∀l:List Int,l.take ((l.findIdx? λy=> !decide (K y<=K x)).elim l.length id)++x::l.drop ((l.findIdx? λy=> !decide (K y<=K x)).elim l.length id)=gV K x l
 | []=>rfl
 |a::l=>by
  have ih:=N8 x l;rw[xee];by_cases h:K a<=K x
  ·simp only[h,decide_true,xl,tJ,if_false,gV,if_true];cases hf:l.findIdx? λy=> !decide (K y<=K x)with|none=>rw[hf]at ih;simpa using ih|some j=>rw[hf]at ih;simpa using ih
  ·simp[h,gV]
theorem M9{p r:List Int}{x:Int}:(p++x::r).getD p.length 0=x:=by rw[xd,C6 (xm _),TA];rfl
theorem Ra(l:List Int):(List.range (l.length-1)).foldl (λ_ k=>dL K (l.take (k+2))++l.drop (k+2)) l=dL K l:=by
 cases hn:l.length-1 with
 |zero=>
  rcases l with _|⟨a,_|⟨b,l⟩⟩
  ·rfl
  ·rfl
  ·simp at hn
 |succ n=>rw[xeg,JW];simp only[Z5,xga];rw[Gg (by omega),xgx (by omega),yT]
def aFW(K:Int->Int)(M:Int->Prop)(p:HL [.int .i64,.int .i64]->Option Int):Prop:=∀x y,M x->M y->∃c,p (x,y,())=some c/\(c<0↔K x<K y)
theorem D6{M:Int->Prop}{f:HL [.int .i64,.int .i64]->Option Int}(hf:aFW K M f)(n i:Int):∀(m:Nat) (p:List Int) (x:Int) (r:List Int),p.length=m->(∀y∈p,M y)->M x->(p.length:Int)<9223372036854775807->p.Pairwise (λa b=>K a<=K b)->
  EY (0,n,f,i) ((p.length:Int),p++x::r)=some (gV K x p++r):=by
 intro m;induction m with
 |zero=>intro p x r hm _ _ _ _;have:=C9 hm;subst this;unfold EY;rw[aE];simp(disch:=omega)only[EV,Je,xi,xy,JJ,show((0:Nat):Int)=0 from rfl];rfl
 |succ m ih=>
  intro p x r hm hM hx ah hp;obtain⟨q,y,rfl⟩:∃q y,p=q++ [y]:=by
   have:=xfm p;rcases this with h|⟨q,y,h⟩
   ·rw[h]at hm;cases hm
   ·exact⟨q,y,by simpa using h⟩
  have aa:q.length=m:=by simpa using hm
  have e0:((q++ [y]).length:Int)=((m+1:Nat):Int):=by simp[aa]
  rw[e0]at ah⊢;have e2:((m+1:Nat):Int) -1=(m:Int):=by omega
  have g1:((q++ [y])++x::r).getD (m+1) 0=x:=by have:=M9 (p:=q++ [y]) (x:=x) (r:=r);rwa [show(q++ [y]).length=m+1 by simp[aa]]at this
  have g2:((q++ [y])++x::r).getD m 0=y:=by have:=M9 (p:=q) (x:=y) (r:=x::r);rw[aa]at this;simpa using this
  have hl:((q++ [y])++x::r).length=m+2+r.length:=by simp[aa];omega
  have s1:(((q++ [y])++x::r).set (m+1) y).set m x=q++x::(y::r):=by
   have t1:((q++ [y])++x::r).set (m+1) y=(q++ [y])++y::r:=by rw[xcv _ _ (by simp[aa]),show m+1-(q++ [y]).length=0 by simp[aa]];rfl
   rw[t1,Yi,xcv _ _ (by omega),show m-q.length=0 by omega];rfl
  have ad:¬K x<K y->((q++ [y])++x::r)=gV K x (q++ [y])++r:=λab=>by
   rw[L4];·simp
   ·intro z hz;rcases xp.1 hz with hz|hz;·have:=(xdo.1 hp).2.2 z hz y (by simp);omega
    ·have:=xo.1 hz;rw[this];omega
  have h0:(0:Int)<((m+1:Nat):Int):=by omega
  have h1:m+1<m+2+r.length:=by omega
  have h2:m<m+2+r.length:=by omega
  obtain⟨c,hc,af⟩:=hf x y hx (hM y (by simp));generalize((q++ [y])++x::r)=L at g1 g2 hl s1 ad;unfold EY;rw[aE];by_cases ab:K x<K y
  ·have ae:=af.2 ab;have e:(Je (0,n,f,i) (((m+1:Nat):Int),L)).ev=some (.inl ((m:Int),q++x::(y::r))):=by simp(disch:=omega)only[EV,Je,h0,hl,h1,e2,h2,g1,g2,hc,ae,C7,s1]
   rw[e];have:=ih q x (y::r) aa (λz hz=>hM z (by simp[hz])) hx (by omega) (xdo.1 hp).1;rw[aa]at this;unfold EY at this;simp only;rw[this,H7 ab];simp
  ·have ae:¬c<0:=λh=>ab (af.1 h);have e:(Je (0,n,f,i) (((m+1:Nat):Int),L)).ev=some (.inr L):=by simp(disch:=omega)only[EV,Je,h0,hl,h1,e2,h2,g1,g2,hc,ae]
   rw[e];simp only;rw[ad ab]
theorem G0{M:Int->Prop}{f:HL [.int .i64,.int .i64]->Option Int}(hf:aFW K M f){l:List Int}(hM:∀x∈l,M x)(hl:(l.length:Int)<9223372036854775806):QA 0 (l.length:Int) f l=some (dL K l):=by
 have key:=(aR (f:=λv=>(Xi (0,(l.length:Int),f) v).ev) (n:=l.length-1) (mk:=λk (s:List Int)=>(((k+1:Nat):Int),s)) (I:=λk s=>s=dL K (l.take (k+1))++l.drop (k+1)) (g:=λ_ k=>dL K (l.take (k+2))++l.drop (k+2)) (fin:=λs=>s) (s0:=l) (by
   cases l with
   |nil=>rfl
   |cons a l=>simp[dL,gV])
  (λk s hk hs=>by
   subst hs;have aa:k+1<l.length:=by omega
   obtain⟨h1,h2⟩:=qY (K:=K) (l.take (k+1));have h3:(dL K (l.take (k+1))).length=k+1:=by rw[h2.length_eq];simp;omega
   have h4:l.drop (k+1)=l[k+1]::l.drop (k+2):=Wn aa;have h5:dL K (l.take (k+2))=gV K l[k+1] (dL K (l.take (k+1))):=by rw[<-o6,Wk aa]
   have h6:=D6 hf (l.length:Int) ((k+1:Nat):Int) (k+1) (dL K (l.take (k+1))) l[k+1] (l.drop (k+2)) h3 (λy hy=>hM y (Wi (h2.mem_iff.1 hy))) (hM _ (xeb aa)) (by rw[h3];omega) h1;rw[h3,<-h4]at h6;refine⟨?_,rfl⟩;simp(disch:=omega)only[EV,Xi,aa,h6];rw[h5];rfl)
  (λs _=>by simp(disch:=omega)only[EV,Xi,show¬(l.length-1+1<l.length) by omega])).1
 rw[Ra]at key;have e:aJA (0,(l.length:Int),f) (1,l)=some (dL K l):=key;unfold QA XS;simp(disch:=omega)only[EV,show IntKind.wrap .i64 ((0:Int)+1)=1 from rfl,e]
theorem zS{M:Int->Prop}{f:HL [.int .i64,.int .i64]->Option Int}(hf:aFW K M f){l:List Int}(hM:∀x∈l,M x)(hl:l.length<=19):aAf f l=some (dL K l):=by
 have e1:YH ((l.length:Int),f,20) (0,20,l)=some (0,l):=by
  unfold YH;rw[aE];have hn:¬(20:Int)<=(l.length:Int):=by omega
  simp(disch:=omega)only[EV,ZK,hn]
 have e2:∀s:List Int,aCU ((l.length:Int),f,s) 20=some ():=λs=>by
  unfold aCU;rw[aE];have hn:¬(20:Int)<(l.length:Int):=by omega
  simp(disch:=omega)only[EV,aDj,hn]
 have e3:=G0 hf hM (by omega);unfold aAf aCG aGD aDA;rw[qn,qn,e1,xc,qn];dsimp only;rw[e3,xc,qn,e2];rfl
end
def kd(ds:List (List Int))(a x:Int):Int:=(ds.getD x.toNat []).getD a.toNat 0
theorem Ju(a b:Int):∃c,Kl a b=some c/\(c<0↔a<b):=by
 unfold Kl NM;have e:∀x,P8 x=some false:=λx=>by unfold P8 BF;simp only[qq,qk]
 rw[qn,e,xc,qn,e,xc];simp only[qo,qb,qq];by_cases h1:a<b;·rw[qc h1];exact⟨_,rfl,by omega⟩
 ·rw[qd h1];by_cases h2:b<a;·rw[qc h2];exact⟨_,rfl,by omega⟩
  ·rw[qd h2];exact⟨_,rfl,by omega⟩
def iX(ds:List (List Int))(p:List Int)(a b:Nat):Bool:= !(List.range ds.length).all λi=> !(decide (dA ds i a<p.getD i 0)&&decide (dA ds i b<p.getD i 0))
section
variable {o:List Int}{ds:List (List Int)}
theorem Eh(hf:Fld o ds){p:List Int}(hp:p.length=ds.length){a b:Nat}(ha:a<o.length)(hb:b<o.length)(t w:List Int):YJ o ds p t w (a:Int) (b:Int)=some (iX ds p a b):=by
 have ae:=hf.clients;have hlen:=hf.len;have key:=bB (f:=λv=>(Hz ((a:Int),(b:Int),ds,(ds.length:Int),p,t,w) v).ev) (n:=ds.length) (λi=>(i:Int)) (λi=> !(decide (dA ds i a<p.getD i 0)&&decide (dA ds i b<p.getD i 0))) (.inl ():Unit⊕Unit) (.inr ())
  (λi hi _=>by
   have hr:=hf.rowLen i hi;have h1:=hf.at2 hi ha;have h2:=hf.at2 hi hb;have aa:i<p.length:=by omega
   have ab:a<(ds.getD i []).length:=by omega
   have ad:b<(ds.getD i []).length:=by omega
   have e1:(ds.getD i []).getD a 0=at2 ds i a:=rfl;have e2:(ds.getD i []).getD b 0=at2 ds i b:=rfl;have e3:at2 ds i a*2520=dA ds i a:=rfl;have e4:at2 ds i b*2520=dA ds i b:=rfl;by_cases c1:dA ds i a<p.getD i 0
   ·by_cases c2:dA ds i b<p.getD i 0;·simp(disch:=omega)only[EV,Hz,hi,aa,ab,ad,e1,e2,e3,e4,c1,c2]
    ·simp(disch:=omega)only[EV,Hz,hi,aa,ab,ad,e1,e2,e3,e4,c1,c2];rfl
   ·simp(disch:=omega)only[EV,Hz,hi,aa,ab,ad,e1,e2,e3,e4,c1];rfl)
  (by simp(disch:=omega)only[EV,Hz,xi])
 have k1:aLN ((a:Int),(b:Int),ds,(ds.length:Int),p,t,w) (0:Int)=some (bif (List.range ds.length).all λi=> !(decide (dA ds i a<p.getD i 0)&&decide (dA ds i b<p.getD i 0))then .inl ()else .inr ()):=key;unfold YJ aGf iX;cases h:(List.range ds.length).all λi=> !(decide (dA ds i a<p.getD i 0)&&decide (dA ds i b<p.getD i 0))with
 |false=>rw[h]at k1;simp(disch:=omega)only[EV,k1]
 |true=>rw[h]at k1;simp(disch:=omega)only[EV,k1]
def gO(t:List Int):List Int:=(List.range t.length).foldl (λacc a=>if 0<=t.getD a 0 then acc++ [(a:Int)]else acc) []
def jK(ds:List (List Int))(p:List Int)(l:List Int):List Int:=l.foldl (λacc a=>if acc.any (λb=>iX ds p a.toNat b.toNat)then acc else acc++ [a]) []
def rE(ds:List (List Int))(g:List Int×List Int×List Int):List Int:=dM (jK ds g.1 (dL (λx=>g.2.1.getD x.toNat 0) (gO g.2.1)))
theorem uZ(t:List Int):∀n:Nat,(∀x∈(List.range n).foldl (λacc a=>if 0<=t.getD a 0 then acc++ [(a:Int)]else acc) [],0<=x/\x<(n:Int))/\((List.range n).foldl (λacc a=>if 0<=t.getD a 0 then acc++ [(a:Int)]else acc) []).Pairwise (· < ·)/\((List.range n).foldl (λacc a=>if 0<=t.getD a 0 then acc++ [(a:Int)]else acc) []).length<=n
 |0=>⟨λx h=>(by cases h),List.Pairwise.nil,xm _⟩
 |n+1=>by
  obtain⟨h1,h2,h3⟩:=uZ t n;rw[aU];generalize(List.range n).foldl (λacc a=>if 0<=t.getD a 0 then acc++ [(a:Int)]else acc) []=l at h1 h2 h3⊢;split
  ·refine⟨λx hx=>?_,xdo.2 ⟨h2,List.pairwise_singleton _ _,λa ha b hb=>?_⟩,by simp;omega⟩
   ·rcases xp.1 hx with hx|hx;·have:=h1 x hx;omega
    ·rw[xo.1 hx];omega
   ·rw[xo.1 hb];have:=h1 a ha;omega
  ·exact⟨λx hx=>by have:=h1 x hx;omega,h2,by omega⟩
theorem wX(ds:List (List Int))(p:List Int):∀l:List Int,(jK ds p l).Sublist l:=by
 intro l;have key:∀(l acc pre:List Int),acc.Sublist pre->(l.foldl (λacc a=>if acc.any (λb=>iX ds p a.toNat b.toNat)then acc else acc++ [a]) acc).Sublist (pre++l):=by
  intro l;induction l with
  |nil=>intro acc pre h;simpa using h
  |cons a l ih=>
   intro acc pre h;rw[Z5,show pre++a::l=(pre++ [a])++l by simp];refine ih _ _ ?_;split;·exact h.trans (List.sublist_append_left _ _)
   ·exact h.append (List.Sublist.refl _)
 exact key l [] [] (List.Sublist.refl _)
theorem Jy(hf:Fld o ds){g:List Int×(List Int×List Int)}(hg:GR o ds g):(∀x∈rE ds g,0<=x/\x<(o.length:Int))/\(rE ds g).length<=7:=by
 have hlen:=hf.len;obtain⟨h1,h2,h3⟩:=uZ g.2.1 g.2.1.length;have hs:=(qY (K:=λx=>g.2.1.getD x.toNat 0) (gO g.2.1)).2;have hk:=wX ds g.1 (dL (λx=>g.2.1.getD x.toNat 0) (gO g.2.1));obtain⟨_,s2,s3⟩:=wP (jK ds g.1 (dL (λx=>g.2.1.getD x.toNat 0) (gO g.2.1)));have aa:=hg.tl;refine⟨λx hx=>?_,?_⟩;·have:=h1 x (hs.mem_iff.1 (hk.subset ((s3 x).1 hx)));omega
 ·show(dM _).length<=7;rw[s2];have:=hk.length_le;rw[hs.length_eq]at this;have ab:(gO g.2.1).length<=g.2.1.length:=h3;omega
theorem JS{t:List Int}(ht:t.length<=1000)(y:List Int)(z w:List Int):aDY ((t.length:Int),o,ds,t,y,w) ((0:Int),z)=some ((List.range t.length).foldl (λacc a=>if 0<=t.getD a 0 then acc++ [(a:Int)]else acc) z)\/1000<z.length:=by
 by_cases hz:z.length<=1000
 ·left;have key:=(aR (f:=λv=>(Rw ((t.length:Int),o,ds,t,y,w) v).ev) (n:=t.length) (mk:=λi (acc:List Int)=>((i:Int),acc)) (I:=λi acc=>acc.length<=1000+i) (g:=λacc a=>if 0<=t.getD a 0 then acc++ [(a:Int)]else acc) (fin:=λacc=>acc) (s0:=z) (by omega)
   (λi acc hi ha=>by
    have aa:∀x:Int,List.length [x]=1:=λ_=>rfl;by_cases h:0<=t.getD i 0
    ·refine⟨?_,by simp only[qi h,xj,aa];omega⟩;have hb:(acc.length+1)*8<=140737488355328:=by omega
     simp only[qi h];simp(disch:=omega)only[EV,Rw,hi,h,aa,hb];rfl
    ·refine⟨?_,by simp only[qh h];omega⟩;simp only[qh h];simp(disch:=omega)only[EV,Rw,hi,h];rfl)
   (λacc _=>by simp(disch:=omega)only[EV,Rw,xi])).1
  exact key
 ·right;omega
theorem Ea(hf:Fld o ds){p:List Int}(hp:p.length=ds.length)(t w:List Int){l:List Int}(hl:∀x∈l,0<=x/\x<(o.length:Int))(af:l.length<=100):
  aLM ((l.length:Int),o,ds,l,p,t,w) ((0:Int),([]:List Int))=some (jK ds p l):=by
 have hlen:=hf.len;exact(dP (f:=λv=>(Ve ((l.length:Int),o,ds,l,p,t,w) v).ev) l 0 (mk:=λi (acc:List Int)=>((i:Int),acc)) (I:=λi acc=>acc.length<=i/\∀x∈acc,0<=x/\x<(o.length:Int)) (g:=λacc a=>if acc.any (λb=>iX ds p a.toNat b.toNat)then acc else acc++ [a]) (fin:=λacc=>acc) (s0:=[]) ⟨xm _,λx h=>by cases h⟩
  (λi acc hi ⟨h1,h2⟩=>by
   have hm:=hl _ (aG (d:=0) hi);have aa:∀x:Int,List.length [x]=1:=λ_=>rfl;have e1:=mV (l:=acc) (by omega) (p:=λab=>Option.bind (PF ab.1 o ds p t w (l.getD i 0)) λad=>some ad) (q:=λb=>iX ds p (l.getD i 0).toNat b.toNat) (λb hb=>by have ae:=h2 b hb;have ec:=Eh hf hp (a:=(l.getD i 0).toNat) (b:=b.toNat) (by omega) (by omega) t w;rw[xea hm.1,xea ae.1]at ec;show Option.bind (PF b o ds p t w (l.getD i 0)) _=_;unfold PF ZP;simp(disch:=omega)only[EV,ec]);cases h:acc.any λb=>iX ds p (l.getD i 0).toNat b.toNat with
   |true=>rw[h]at e1;refine⟨?_,by simp only[if_true];omega,by simpa using h2⟩;simp only[if_true];simp(disch:=omega)only[EV,Ve,hi,e1];rfl
   |false=>
    rw[h]at e1;have hb:(acc.length+1)*8<=140737488355328:=by omega
    refine⟨?_,by simp only[tJ,if_false,xj,aa];omega,λx hx=>?_⟩;·simp only[tJ,if_false];simp(disch:=omega)only[EV,Ve,hi,e1,aa,hb];rfl
    ·simp only[tJ,if_false]at hx;rcases xp.1 hx with hx|hx;·exact h2 x hx
     ·rw[xo.1 hx];exact hm)
  (λacc _=>by simp(disch:=omega)only[EV,Ve,xi])).1
theorem yR(hf:Fld o ds)(h0:0<ds.length)(hv:tQ o ds=some true):∃g,GR o ds g/\En o ds=some g/\Tv o ds=some (true,rE ds g):=by
 obtain⟨⟨p,t,w⟩,e1,hg⟩:=Gy hf;have hlen:=hf.len;have ad:=hg.tl;simp only at ad;obtain⟨h1,h2,h3⟩:=uZ t t.length;rcases JS (o:=o) (ds:=ds) (t:=t) (by omega) p [] w with e2|e2
 ·have ae:aDY ((t.length:Int),o,ds,t,p,w) ((0:Int),([]:List Int))=some (gO t):=e2;have hr:∀x∈gO t,0<=x/\x<(o.length:Int):=λx hx=>by have:=h1 x hx;omega
  have ai:(gO t).length<=t.length:=h3;have e3:=zS (K:=λx=>t.getD x.toNat 0) (M:=λx=>0<=x/\x<(o.length:Int)) (f:=λaa=>Option.bind (MI aa.1 aa.2.1 p t w) λab=>some ab) (λx y hx hy=>by obtain⟨c,k1,k2⟩:=Ju (t.getD x.toNat 0) (t.getD y.toNat 0);have af:aC x t.length=true:=bK hx.1 (by omega);have ah:aC y t.length=true:=bK hy.1 (by omega);refine⟨c,?_,k2⟩;show Option.bind (MI x y p t w) _=_;unfold MI aEy;simp(disch:=omega)only[EV,af,ah,k1]) hr (by omega);have hs:=(qY (K:=λx=>t.getD x.toNat 0) (gO t)).2;have aj:=hs.length_eq;have e4:=Ea hf (p:=p) hg.pl t w (l:=dL (λx=>t.getD x.toNat 0) (gO t)) (λx hx=>hr x (hs.mem_iff.1 hx)) (by omega);have hk:=(wX ds p (dL (λx=>t.getD x.toNat 0) (gO t))).length_le;have e5:=E7 (l:=jK ds p (dL (λx=>t.getD x.toNat 0) (gO t))) (by omega);have hd:((((ds.length:Nat):Int))==0)=false:=beq_eq_false_iff_ne.2 (by omega);refine⟨(p,t,w),hg,e1,?_⟩;unfold Tv OZ rE;simp(disch:=omega)only[EV,hv,hd,e1,ae,e3,e4,e5]
 ·simp at e2
end
section
variable {J S O:List Nat}{f:Nat->Int}{d:Nat->Nat->Int}{σ ω:Nat->Nat}
end
def Aj:Nat->List (List Int)
 |0=>[[]]
 |n+1=>Aj n++(Aj n).map λs=>s++ [(n:Int)]
theorem qF:∀(n:Nat) {s:List Int},s.Pairwise (· < ·)->(∀x∈s,0<=x/\x<(n:Int))->s∈Aj n
 |0,s,_,h=>by
  cases s with
  |nil=>exact xo.2 rfl
  |cons x s=>have:=h x (by simp);omega
 |n+1,s,hp,h=>by
  rw[Aj,xp];rcases xfm s with rfl|⟨i,z,rfl⟩
  ·exact .inl (qF n hp λx hx=>by cases hx)
  ·rw[List.concat_eq_append]at hp h⊢;obtain⟨p1,_,p3⟩:=xdo.1 hp;have hz:=h z (by simp);by_cases e:z=(n:Int)
   ·refine .inr (xaf.2 ⟨i,qF n p1 λx hx=>?_,by rw[e]⟩);have h1:=h x (D1 _ hx);have h2:=p3 x hx z (by simp);omega
   ·refine .inl (qF n hp λx hx=>?_);have h1:=h x hx;rcases xp.1 hx with hx|hx;·have h2:=p3 x hx z (by simp);omega
    ·rw[xo.1 hx]at h1⊢;omega
def bits(h:List Int):Nat:=h.foldl (λx a=>x|||2^a.toNat) 0
def lG(x:Nat):List Int:=((List.range 7).filter x.testBit).map λ(a:Nat)=>(a:Int)
def RC(x:Int)(a:Nat):Int:=IntKind.wrap .u64 (BitVec.toNat ((BitVec.ofInt (IntKind.bits .u64) x)||| (BitVec.ofInt (IntKind.bits .u64) (IntKind.wrap .u64 ((1:Int)*2^(min a (IntKind.bits .u64)))))))
def anB(x:Int)(a:Nat):Int:=IntKind.wrap .u64 (BitVec.toNat ((BitVec.ofInt (IntKind.bits .u64) x)&&& ~~~(BitVec.ofInt (IntKind.bits .u64) (IntKind.wrap .u64 ((1:Int)*2^(min a (IntKind.bits .u64)))))))
def clr(x a:Nat):Nat:=if x.testBit a then x-2^a else x
noncomputable def Rr(x:Nat):Bool:=(t5 (x:Int)==some (lG x))&&(List.range 7).all λ(a:Nat)=>
 (r9 (x:Int) (a:Int)==some (x.testBit a))&&((lG x).contains (a:Int)==x.testBit a)&&(RC (x:Int) a==((x|||2^a:Nat):Int))&&Nat.blt (x|||2^a) 128&&(anB (x:Int) a==((clr x a:Nat):Int))&&Nat.blt (clr x a) 128&&
 (x.testBit a||(lG (x|||2^a)==ins (a:Int) (lG x)))&&(lG (clr x a)==wo (lG x) (a:Int))
theorem Mh:(List.range 128).all Rr=true:=by kernel_rfl
def aKf(s:List Int):Bool:=(lG (bits s)==s)&&Nat.blt (bits s) 128
theorem KZ:(Aj 7).all aKf=true:=by kernel_rfl
structure BagP(x:Nat):Prop where
 list:t5 (x:Int)=some (lG x)
 has:∀a:Nat,a<7->r9 (x:Int) (a:Int)=some ((lG x).contains (a:Int))
 put:∀a:Nat,a<7->(a:Int)∉lG x->∃y:Nat,y<128/\RC (x:Int) a=(y:Int)/\lG y=ins (a:Int) (lG x)
 cut:∀a:Nat,a<7->∃y:Nat,y<128/\anB (x:Int) a=(y:Int)/\lG y=wo (lG x) (a:Int)
theorem Q7{x:Nat}(hx:x<128):BagP x:=by
 have h:=xt.1 Mh x (xar.2 hx);simp only[Rr,xf,xt,xar,qg,Z7]at h;obtain⟨h1,h2⟩:=h;refine⟨h1,λa ha=>?_,λa ha hn=>?_,λa ha=>?_⟩;·obtain⟨⟨⟨⟨⟨⟨⟨k1,k2⟩,k3⟩,k4⟩,k5⟩,k6⟩,k7⟩,k8⟩:=h2 a ha;rw[k2];exact k1
 ·obtain⟨⟨⟨⟨⟨⟨⟨k1,k2⟩,k3⟩,k4⟩,k5⟩,k6⟩,k7⟩,k8⟩:=h2 a ha;refine⟨x|||2^a,by simpa using k4,k3,?_⟩;rcases k7 with k7|k7;·rw[k7]at k2;exact absurd (xce.1 k2) hn
  ·exact k7
 ·obtain⟨⟨⟨⟨⟨⟨⟨k1,k2⟩,k3⟩,k4⟩,k5⟩,k6⟩,k7⟩,k8⟩:=h2 a ha;exact⟨clr x a,by simpa using k6,k5,k8⟩
theorem tX{n:Nat}(hn:n<=7){s:List Int}(h:ris n s):lG (bits s)=s/\bits s<128:=by
 have hm:=qF 7 h.2 λx hx=>by have:=h.1 x hx;omega
 have hk:=xt.1 KZ s hm;simp only[aKf,xf,qg]at hk;exact⟨hk.1,by simpa using hk.2⟩
theorem aLq:∀(x a:Nat),x<128->a<7->x|||2^a<128:=λx a hx ha=>Nat.or_lt_two_pow (n:=7) hx (Nat.pow_lt_pow_right (by omega) ha)
theorem aBj{x a:Nat}(hx:x<128)(ha:a<7):RC (x:Int) a=((x|||2^a:Nat):Int):=by have h:=xt.1 Mh x (xar.2 hx);simp only[Rr,xf,xt,xar,qg,Z7]at h;exact(h.2 a ha).1.1.1.1.1.2
theorem s7{n:Nat}(hn:n<=7){s:List Int}(h:ris n s):IJ s=some (bits s:Int):=by
 have hl:=h.len;have key:=(dP (f:=λv=>(BL (s,((s.length:Nat):Int)) v).ev) s 0 (mk:=λi (x:Nat)=>((x:Int),(i:Int))) (I:=λ_ x=>x<128) (g:=λx a=>x|||2^a.toNat) (fin:=λx=>(x:Int)) (s0:=0) (by omega)
  (λi x hi hx=>by
   have ha:=h.1 _ (aG (d:=0) hi);obtain⟨a,e⟩:∃a:Nat,s.getD i 0=(a:Int):=⟨(s.getD i 0).toNat,by omega⟩
   have k2:=aBj hx (show a<7 by omega);unfold RC at k2;rw[e,xx];refine⟨?_,aLq x a hx (by omega)⟩;have i1:aC (i:Int) s.length=true:=bK (by omega) (by omega);have i2:(0:Int)<=(a:Int):=by omega
   have i3:(i:Int)<((s.length:Nat):Int):=by omega
   simp only[BL,qo,qp,qq,i1,xx,e,i2,i3,decide_true,qa];rw[k2,aN (by omega) (by omega)];rfl)
  (λx _=>by simp(disch:=omega)only[EV,BL,xi])).1
 have k2:aIo (s,((s.length:Nat):Int)) (0,0)=some (bits s:Int):=key;unfold IJ ZV;simp(disch:=omega)only[EV,k2]
theorem hU{n:Nat}(hn:n<=7){s:List Int}(h:ris n s){a:Int}(h0:0<=a)(ha:a<7):r9 (bits s:Int) a=some (s.contains a):=by
 obtain⟨e,hb⟩:=tX hn h;obtain⟨a,rfl⟩:∃b:Nat,a=(b:Int):=⟨a.toNat,by omega⟩
 have:=(Q7 hb).has a (by omega);rwa [e]at this
theorem O1{n:Nat}(hn:n<=7){s:List Int}(h:ris n s){a:Int}(h0:0<=a)(ha:a<7)(hx:a∉s):t5 (RC (bits s:Int) a.toNat)=some (ins a s):=by
 obtain⟨e,hb⟩:=tX hn h;obtain⟨a,rfl⟩:∃b:Nat,a=(b:Int):=⟨a.toNat,by omega⟩
 obtain⟨y,y1,y2,y3⟩:=(Q7 hb).put a (by omega) (by rw[e];exact hx);rw[xx,y2,(Q7 y1).list,y3,e]
theorem H4{n:Nat}(hn:n<=7){s:List Int}(h:ris n s){a:Int}(h0:0<=a)(ha:a<7):t5 (anB (bits s:Int) a.toNat)=some (wo s a):=by
 obtain⟨e,hb⟩:=tX hn h;obtain⟨a,rfl⟩:∃b:Nat,a=(b:Int):=⟨a.toNat,by omega⟩
 obtain⟨y,y1,y2,y3⟩:=(Q7 hb).cut a (by omega);rw[xx,y2,(Q7 y1).list,y3,e]
theorem l3{n:Nat}(hn:n<=7){s:List Int}(h:ris n s){a b:Int}(h0:0<=a)(ha:a<7)(h1:0<=b)(hb:b<7)(hx:b∉s):LW s a b=some (ins b (wo s a)):=by obtain⟨e,aa⟩:=tX hn h;have e0:=s7 hn h;obtain⟨y,y1,y2,y3⟩:=(Q7 aa).cut a.toNat (by omega);rw[e,show((a.toNat:Nat):Int)=a by omega]at y3;obtain⟨z,z1,z2,z3⟩:=(Q7 y1).put b.toNat (by omega) (by rw[y3,show((b.toNat:Nat):Int)=b by omega];exact lD hx);rw[y3,show((b.toNat:Nat):Int)=b by omega]at z3;have e1:=(Q7 z1).list;rw[z3,<-z2,<-y2]at e1;unfold RC anB at e1;unfold LW aCe;rw[qn,e0,xc,qp,qc h0,qa,qp,qc h1,qa,qn,e1,xc,qq]
section
variable (o:List Int) (ds:List (List Int)) (S L:List Int)
end
section
variable {o:List Int}{ds:List (List Int)}{S L:List Int}
end
section
variable {o:List Int}{ds:List (List Int)}{S L:List Int}
end
section
variable (o:List Int) (ds:List (List Int))
end
section
variable {o:List Int}{ds:List (List Int)}{S L:List Int}
end
section
variable {o:List Int}{ds:List (List Int)}
end
theorem B8{V R:Type}{f:V->Option (V⊕R)}{α:Type}{n:Nat}(h:Nat->Option α)(mk:Nat->V)(yes:α->R)(no:R)
  (hs:∀i,i<n->f (mk i)=some (match h i with|some m=>.inr (yes m)|none=>.inl (mk (i+1)))) (he:f (mk n)=some (.inr no)):
  ∀k i,i+k=n->aB f (mk i)=some (((List.range' i k).findSome? h).elim no yes):=by
 intro k;induction k with
 |zero=>
  intro i hi;have:i=n:=by omega
  subst this;rw[aE,he];rfl
 |succ k ih=>
  intro i hi;rw[aE,hs i (by omega),List.range'_succ,xdg];cases h i with
  |some m=>rfl
  |none=>exact ih (i+1) (by omega)
theorem nV{V R:Type}{f:V->Option (V⊕R)}{α:Type}{n:Nat}(h:Nat->Option α)(mk:Nat->V)(yes:α->R)(no:R)
  (hs:∀i,i<n->f (mk i)=some (match h i with|some m=>.inr (yes m)|none=>.inl (mk (i+1)))) (he:f (mk n)=some (.inr no)):
  aB f (mk 0)=some (((List.range n).findSome? h).elim no yes):=by
 rw[List.range_eq_range'];exact B8 h mk yes no hs he n 0 (by omega)
def MO(s:List Int)(a:Nat):Option (List Int):=if s.contains (a:Int)then none else some (ins (a:Int) s)
def Wp(s:List Int)(a:Nat):Option (List Int):=if s.contains (a:Int)/\0<(wo s (a:Int)).length then some (wo s (a:Int))else none
def Zb(s w:List Int)(b:Nat):Option (List Int):=if s.contains (b:Int)then none else some (ins (b:Int) w)
def W9(n:Nat)(s:List Int)(a:Nat):List (List Int):=if s.contains (a:Int)then(List.range n).filterMap (Zb s (wo s (a:Int)))else[]
theorem vY{α:Type}(g:Nat->Option α)(a:Nat):[a].filterMap g=(g a).toList:=by rw[List.filterMap_cons];cases g a<;>rfl
theorem aGo(n:Nat)(s w:List Int)(acc:List (List Int)):swF n s w acc=acc++(List.range n).filterMap (Zb s w):=by
 unfold swF;induction n with
 |zero=>simp
 |succ n ih=>
  rw[aU,ih,xeg,xfn,<-Yi,vY];cases hc:s.contains (n:Int)with
  |true=>
   have e:Zb s w n=none:=by unfold Zb;rw[hc];rfl
   rw[e,qi rfl];exact(yT _).symm
  |false=>
   have e:Zb s w n=some (ins (n:Int) w):=by unfold Zb;rw[hc];rfl
   rw[e,qh (by simp)];rfl
theorem Wx(n:Nat)(s:List Int):∀k,(List.range k).foldl (hY n s) ([],[],[])=((List.range k).filterMap (MO s),(List.range k).filterMap (Wp s),(List.range k).flatMap (W9 n s))
 |0=>rfl
 |k+1=>by
  rw[aU,Wx n s k,xeg,xfn,xfn,List.flatMap_append];unfold hY;cases hc:s.contains (k:Int)with
  |true=>
   simp only[if_true,aGo];have h1:[k].filterMap (MO s)=[]:=by
    have:MO s k=none:=by unfold MO;rw[hc];rfl
    rw[vY,this];rfl
   have h3:[k].flatMap (W9 n s)=(List.range n).filterMap (Zb s (wo s (k:Int))):=by
    have:W9 n s k=(List.range n).filterMap (Zb s (wo s (k:Int))):=by unfold W9;rw[hc];rfl
    rw[xel,List.flatMap_nil,yT,this]
   rw[h1,h3,yT];by_cases hp:0<(wo s (k:Int)).length
   ·have h2:[k].filterMap (Wp s)=[wo s (k:Int)]:=by
     have:Wp s k=some (wo s (k:Int)):=by unfold Wp;rw[qi ⟨hc,hp⟩]
     rw[vY,this];rfl
    rw[h2,qi hp]
   ·have h2:[k].filterMap (Wp s)=[]:=by
     have:Wp s k=none:=by unfold Wp;rw[qh λh=>hp h.2]
     rw[vY,this];rfl
    rw[h2,qh hp,yT]
  |false=>
   simp only[tJ,if_false];have h1:[k].filterMap (MO s)=[ins (k:Int) s]:=by
    have:MO s k=some (ins (k:Int) s):=by unfold MO;rw[hc];rfl
    rw[vY,this];rfl
   have h2:[k].filterMap (Wp s)=[]:=by
    have:Wp s k=none:=by unfold Wp;rw[hc];simp
    rw[vY,this];rfl
   have h3:[k].flatMap (W9 n s)=[]:=by
    have:W9 n s k=[]:=by unfold W9;rw[hc];rfl
    rw[xel,List.flatMap_nil,yT,this]
   rw[h1,h2,h3,yT,yT]
def Wa(q:List Int->Bool)(x:Option (List Int)):Option (List Int):=match x with
 |some m=>bif q m then some m else none
 |none=>none
theorem tM(g:Nat->Option (List Int))(q:List Int->Bool):∀l:List Nat,(l.filterMap g).find? q=l.findSome? λa=>Wa q (g a)
 | []=>rfl
 |a::l=>by
  rw[List.filterMap_cons,xdg];cases ha:g a with
  |none=>show(l.filterMap g).find? q=l.findSome? λa=>Wa q (g a);exact tM g q l
  |some m=>
   show(m::l.filterMap g).find? q=_;rw[xgz];cases hq:q m with
   |true=>simp only[Wa,hq,qa]
   |false=>simp only[Wa,hq,qb];exact tM g q l
theorem M2(g:Nat->List (List Int))(q:List Int->Bool):∀l:List Nat,(l.flatMap g).find? q=l.findSome? λa=>(g a).find? q
 | []=>rfl
 |a::l=>by rw[xel,xfk,xdg,M2 g q l];cases(g a).find? q<;>rfl
theorem Ck:∀{l m:List Int},l.Pairwise (· < ·)->m.Pairwise (· < ·)->(∀x,x∈l↔x∈m)->l=m
 | [],[],_,_,_=>rfl
 | [],y::m,_,_,h=>by have:=(h y).2 (by simp);cases this
 |x::l,[],_,_,h=>by have:=(h x).1 (by simp);cases this
 |x::l,y::m,h1,h2,h=>by
  obtain⟨a1,a2⟩:=xbj.1 h1;obtain⟨b1,b2⟩:=xbj.1 h2;have e:x=y:=by
   rcases xae.1 ((h x).1 (by simp))with e|hx;·exact e
   ·rcases xae.1 ((h y).2 (by simp))with e|hy;·exact e.symm
    ·have:=b1 x hx;have:=a1 y hy;omega
  subst e;rw[Ck a2 b2 λz=>?_];constructor
  ·intro hz;rcases xae.1 ((h z).1 (xr _ hz))with e|aa;·have:=a1 z hz;omega
   ·exact aa
  ·intro hz;rcases xae.1 ((h z).2 (xr _ hz))with e|aa;·have:=b1 z hz;omega
   ·exact aa
theorem K5{n:Nat}{s:List Int}(h:ris n s):s=((List.range n).filter λa:Nat=>s.contains (a:Int)).map λa:Nat=>(a:Int):=by
 refine Ck h.2 ?_ λx=>?_;·rw[List.pairwise_map];exact(List.pairwise_lt_range.filter _).imp λh=>by omega
 ·constructor;·intro hx;have hb:=h.1 x hx;refine xaf.2 ⟨x.toNat,xak.2 ⟨xar.2 (by omega),?_⟩,by omega⟩;rw[show((x.toNat:Nat):Int)=x by omega];exact xce.2 hx
  ·intro hx;obtain⟨a,ha,rfl⟩:=xaf.1 hx;exact xce.1 (xak.1 ha).2
theorem fL{α:Type}(p:Nat->Bool)(h:Int->Option α):∀l:List Nat,((l.filter p).map λa:Nat=>(a:Int)).findSome? h=l.findSome? λa=>if p a then h (a:Int)else none
 | []=>rfl
 |a::l=>by
  rw[UZ,xdg];cases hp:p a with
  |true=>
   simp only[if_true,M8,xdg];cases h (a:Int)with
   |some m=>rfl
   |none=>exact fL p h l
  |false=>simp only[tJ,if_false];exact fL p h l
theorem O9{s:List Int}(hp:s.Pairwise (· < ·)){a:Int}(ha:a∈s):(wo s a).length+1=s.length:=by
 induction s with
 |nil=>cases ha
 |cons x s ih=>
  obtain⟨h1,h2⟩:=xbj.1 hp;unfold wo;rw[UZ];by_cases e:x=a
  ·subst e;have hf:s.filter (λy=>y !=x)=s:=xft.2 λy hy=>by have:=h1 y hy;simp;omega
   simp[hf]
  ·have hm:a∈s:=by
    rcases xae.1 ha with h|h;·exact absurd h.symm e
    ·exact h
   have hb:(x !=a)=true:=by simpa using e
   have:=ih h2 hm;unfold wo at this;rw[hb,qi rfl,xk,xk,this]
def opB(t:List Int->Bool)(s:List Int)(a:Nat):Option (List Int):=Wa t (MO s a)
def TL(t:List Int->Bool)(s:List Int)(x:Int):Option (List Int):=if 1<s.length then Wa t (some (wo s x))else none
def NC(t:List Int->Bool)(n:Nat)(s:List Int)(x:Int):Option (List Int):=(List.range n).findSome? λb=>Wa t (Zb s (wo s x) b)
theorem V7{n:Nat}{s:List Int}(h:ris n s)(t:List Int->Bool):(eD n s).find? t=(((List.range n).findSome? (opB t s)).or (s.findSome? (TL t s))).or (s.findSome? (NC t n s)):=by
 have e:=Wx n s n;have h2:s.findSome? (TL t s)=(List.range n).findSome? λa=>Wa t (Wp s a):=by
  have h0:=fL (λa:Nat=>s.contains (a:Int)) (TL t s) (List.range n);rw[<-K5 h]at h0;rw[h0];congr 1;funext a;unfold TL Wp;cases hc:s.contains (a:Int)with
  |false=>simp[Wa]
  |true=>
   have hl:=O9 h.2 (xce.1 hc);by_cases h1:1<s.length;·rw[qi rfl,qi h1,qi ⟨rfl,by omega⟩]
   ·rw[qi rfl,qh h1,qh (by omega)];rfl
 have h3:s.findSome? (NC t n s)=(List.range n).findSome? λa=>(W9 n s a).find? t:=by
  have h0:=fL (λa:Nat=>s.contains (a:Int)) (NC t n s) (List.range n);rw[<-K5 h]at h0;rw[h0];congr 1;funext a;unfold NC W9;cases hc:s.contains (a:Int)with
  |false=>simp
  |true=>rw[qi rfl,qi rfl,tM]
 unfold eD Gh;rw[e,xfk,xfk,tM,tM,M2,h2,h3];rfl
def W2(o:List Int)(ds:List (List Int))(T:Int)(m:List Int):Bool:=decide (dB o ds m<T)
theorem sY{o m:List Int}{ds:List (List Int)}(hf:Fld o ds)(hm:ris o.length m)(h0:m≠ [])(T:Int):
  Tx m o ds T=some (bif W2 o ds T m then .inr (m,o,ds,T)else .inl (m,o,ds,T)):=by
 have hp:=xaq.2 h0;have e:u6 o ds m=some (dB o ds m):=tS hf (hm.places hf.len) hp;unfold Tx XZ W2;rw[qn,e,xc,qo,qp,qc hp,qa];cases decide (dB o ds m<T)<;>rfl
theorem GQ(x:Int)(l:List Int):ins x l≠ []:=λe=>by have:=pD x l;rw[e]at this;simp at this
theorem aAi{o s:List Int}{ds:List (List Int)}(hf:Fld o ds)(hs:ris o.length s)(T:Int):
  aKe (s,(bits s:Int),((o.length:Nat):Int),((o.length:Nat):Int)) (0,o,ds,T)=some (((List.range o.length).findSome? (opB (W2 o ds T) s)).elim (.inl (o,ds,T)) λm=>.inr (o,ds,T,m)):=by
 have h7:=hf.len;have h:=nV (f:=λv=>(Yl (s,(bits s:Int),((o.length:Nat):Int),((o.length:Nat):Int)) v).ev) (n:=o.length) (opB (W2 o ds T) s) (λi=>((i:Int),o,ds,T)) (λm=>.inr (o,ds,T,m)) (.inl (o,ds,T))
  (λi hi=>by
   have e1:=hU h7 hs (a:=(i:Int)) (by omega) (by omega);have aa:(i:Int)<((o.length:Nat):Int):=by omega
   have hw:IntKind.wrap .i64 ((i:Int)+1)=((i+1:Nat):Int):=by rw[aN (by omega) (by omega)];rfl
   unfold opB MO Yl;dsimp only;rw[qo,qc aa,qa,qn,e1,xc,qo,hw];cases hc:s.contains (i:Int)with
   |true=>rfl
   |false=>
    have hn:=bY hc;have e2:=O1 h7 hs (a:=(i:Int)) (by omega) (by omega) hn;unfold RC at e2;have e3:=sY hf (hs.ins (a:=(i:Int)) (by omega) (by omega) hn) (GQ _ _) T;have g0:(0:Int)<=(i:Int):=by omega
    rw[nE,qa,qp,qc g0,qa,qn,e2,xc,qn,e3,xc];simp only[tJ,if_false,Wa];cases W2 o ds T (ins (i:Int) s)<;>rfl)
  (by
   have aa:¬((o.length:Nat):Int)<((o.length:Nat):Int):=by omega
   unfold Yl;dsimp only;rw[qo,qd aa,qb,qq])
 exact h
theorem rP{α:Type}(h:Int->Option α)(s:List Int):(List.range s.length).findSome? (λi=>h (s.getD i 0))=s.findSome? h:=by
 induction s with
 |nil=>rfl
 |cons x s ih=>
  rw[xk,xfj,xdg,xdg,List.findSome?_map];cases hx:h x with
  |some m=>simp[hx]
  |none=>have h1:h ((x::s).getD 0 0)=none:=hx;rw[h1];exact ih
theorem aAr{o s:List Int}{ds:List (List Int)}(hf:Fld o ds)(hs:ris o.length s)(T:Int):
  aIz (s,(bits s:Int),((o.length:Nat):Int),s,((s.length:Nat):Int)) (0,o,ds,T)=some ((s.findSome? (TL (W2 o ds T) s)).elim (.inl (o,ds,T)) λm=>.inr (o,ds,T,m)):=by
 have h7:=hf.len;have ae:=hs.len;rw[<-rP];have h:=nV (f:=λv=>(IH (s,(bits s:Int),((o.length:Nat):Int),s,((s.length:Nat):Int)) v).ev) (n:=s.length) (λi=>TL (W2 o ds T) s (s.getD i 0)) (λi=>((i:Int),o,ds,T)) (λm=>.inr (o,ds,T,m)) (.inl (o,ds,T))
  (λi hi=>by
   have aa:(i:Int)<((s.length:Nat):Int):=by omega
   have hw:IntKind.wrap .i64 ((i:Int)+1)=((i+1:Nat):Int):=by rw[aN (by omega) (by omega)];rfl
   have ad:=eA hi;have hm:=aG (d:=0) hi;have hb:=hs.1 _ hm;unfold TL IH;dsimp only;rw[qo,qc aa,qa,qp,ad,qa,qo,hw,xx];by_cases h1:1<s.length
   ·have ab:(1:Int)<((s.length:Nat):Int):=by omega
    have e2:=H4 h7 hs hb.1 (by omega);unfold anB at e2;have hl:=O9 hs.2 hm;have e3:=sY hf (hs.wo (s.getD i 0)) (xaq.1 (by omega)) T;rw[qc ab,qa,qp,qc hb.1,qa,qn,e2,xc,qn,e3,xc,qi h1];simp only[Wa];cases W2 o ds T (wo s (s.getD i 0))<;>rfl
   ·have ab:¬(1:Int)<((s.length:Nat):Int):=by omega
    rw[qd ab,qb,qh h1];rfl)
  (by
   have aa:¬((s.length:Nat):Int)<((s.length:Nat):Int):=by omega
   unfold IH;dsimp only;rw[qo,qd aa,qb,qq])
 exact h
theorem ZX{o s:List Int}{ds:List (List Int)}(hf:Fld o ds)(hs:ris o.length s)(T:Int){a:Int}(ha:a∈s)(k:(List (Int))×(Int)×(Int)×(Int)×(List (Int))×(Int)×(Int)×(Int))(k1:k.1=s)(k2:k.2.1=(bits s:Int))(k3:k.2.2.2.1=a)(k4:k.2.2.2.2.2.2.2=((o.length:Nat):Int)):
  aLL k (0,o,ds,T)=some ((NC (W2 o ds T) o.length s a).elim (.inl (o,ds,T)) λm=>.inr (o,ds,T,m)):=by
 have h7:=hf.len;have ab:=hs.1 a ha;have h:=nV (f:=λv=>(DM k v).ev) (n:=o.length) (λb=>Wa (W2 o ds T) (Zb s (wo s a) b)) (λi=>((i:Int),o,ds,T)) (λm=>.inr (o,ds,T,m)) (.inl (o,ds,T))
  (λi hi=>by
   have e1:=hU h7 hs (a:=(i:Int)) (by omega) (by omega);have aa:(i:Int)<((o.length:Nat):Int):=by omega
   have hw:IntKind.wrap .i64 ((i:Int)+1)=((i+1:Nat):Int):=by rw[aN (by omega) (by omega)];rfl
   unfold Zb DM;dsimp only;rw[k1,k2,k3,k4,qo,qc aa,qa,qn,e1,xc,qo,hw];cases hc:s.contains (i:Int)with
   |true=>rfl
   |false=>have hn:=bY hc;have e2:=l3 h7 hs (a:=a) (b:=(i:Int)) (by omega) (by omega) (by omega) (by omega) hn;have e3:=sY hf ((hs.wo a).ins (a:=(i:Int)) (by omega) (by omega) (lD hn)) (GQ _ _) T;rw[nE,qa,qn,e2,xc,qn,e3,xc];simp only[tJ,if_false,Wa];cases W2 o ds T (ins (i:Int) (wo s a))<;>rfl)
  (by
   have aa:¬((o.length:Nat):Int)<((o.length:Nat):Int):=by omega
   unfold DM;dsimp only;rw[k4,qo,qd aa,qb,qq])
 exact h
theorem aGA{o s:List Int}{ds:List (List Int)}(hf:Fld o ds)(hs:ris o.length s)(T:Int):
  aLb (s,(bits s:Int),((o.length:Nat):Int),s,((s.length:Nat):Int)) (0,o,ds,T)=some ((s.findSome? (NC (W2 o ds T) o.length s)).elim (.inl (o,ds,T)) λm=>.inr (o,ds,T,m)):=by
 have h7:=hf.len;have ad:=hs.len;rw[<-rP];have h:=nV (f:=λv=>(HC (s,(bits s:Int),((o.length:Nat):Int),s,((s.length:Nat):Int)) v).ev) (n:=s.length) (λi=>NC (W2 o ds T) o.length s (s.getD i 0)) (λi=>((i:Int),o,ds,T)) (λm=>.inr (o,ds,T,m)) (.inl (o,ds,T))
  (λi hi=>by
   have aa:(i:Int)<((s.length:Nat):Int):=by omega
   have hw:IntKind.wrap .i64 ((i:Int)+1)=((i+1:Nat):Int):=by rw[aN (by omega) (by omega)];rfl
   have ab:=eA hi;have hm:=aG (d:=0) hi;have e1:=ZX hf hs T hm (s,(bits s:Int),((o.length:Nat):Int),(s.getD i 0),s,((s.length:Nat):Int),(i:Int),((o.length:Nat):Int)) rfl rfl rfl rfl;unfold HC;dsimp only;rw[qo,qc aa,qa,qp,ab,qa,qn,hw,xx,e1,xc];cases NC (W2 o ds T) o.length s (s.getD i 0)<;>rfl)
  (by
   have aa:¬((s.length:Nat):Int)<((s.length:Nat):Int):=by omega
   unfold HC;dsimp only;rw[qo,qd aa,qb,qq])
 exact h
theorem Wy{o s:List Int}{ds:List (List Int)}(hf:Fld o ds)(hs:ris o.length s)(T:Int):
  MX o ds s o ds T=some (((eD o.length s).find? (W2 o ds T)).elim (.inl (o,ds,T)) λm=>.inr (o,ds,T,m)):=by
 have h7:=hf.len;have e0:=s7 h7 hs;have e1:=aAi hf hs T;have e2:=aAr hf hs T;have e3:=aGA hf hs T;rw[V7 hs];unfold MX YI;rw[qn,e0,xc,qn,e1,xc];cases(List.range o.length).findSome? (opB (W2 o ds T) s)with
 |some m=>rfl
 |none=>
  simp only[Option.elim_none,Fl,qn];rw[e2,xc];cases s.findSome? (TL (W2 o ds T) s)with
  |some m=>rfl
  |none=>simp only[Option.elim_none,Fl,qn];rw[e3,xc];cases s.findSome? (NC (W2 o ds T) o.length s)<;>rfl
theorem sU{o s:List Int}{ds:List (List Int)}(hf:Fld o ds)(hs:ris o.length s)(h0:s≠ []):LC o ds s=some (match aS o ds s with|some m=>(true,m)|none=>(false,[])):=by
 have h7:=hf.len;have e:u6 o ds s=some (dB o ds s):=tS hf (hs.places h7) (xaq.2 h0);have e1:=Wy hf hs (dB o ds s);have e2:(eD o.length s).find? (W2 o ds (dB o ds s))=aS o ds s:=rfl;rw[e2]at e1;unfold LC YG;rw[qn,e,xc,qn,e1,xc];cases hb:aS o ds s with
 |none=>rfl
 |some m=>have hp:=xaq.2 (dH hs hb).2.1;simp only[Option.elim_some,AC,qp];rw[qc hp];rfl
theorem AH{o:List Int}{ds:List (List Int)}(hf:Fld o ds):∀(m:Nat) {s:List Int} (many:Int),0<=many->many+(m:Int)<=1000000000->ris o.length s->s≠ []->dB o ds s<=(m:Int)->
  BX (o,ds) (many,s)=some (many+((mD o ds m s).1:Int),(mD o ds m s).2):=by
 have out:∀{s:List Int} (many:Int),ris o.length s->s≠ []->aS o ds s=none->BX (o,ds) (many,s)=some (many,s):=λ{s} many hs h0 hb=>by have e1:=sU hf hs h0;rw[hb]at e1;unfold BX;rw[aE];unfold EW;dsimp only;rw[qn,e1];rfl
 intro m;induction m with
 |zero=>
  intro s many h1 h2 hs h0 ht;have hb:aS o ds s=none:=by
   cases hb:aS o ds s with
   |none=>rfl
   |some t=>obtain⟨a,b,c⟩:=dH hs hb;have:=vR hf a b;omega
  rw[out many hs h0 hb];simp[mD]
 |succ m ih=>
  intro s many h1 h2 hs h0 ht;cases hb:aS o ds s with
  |none=>rw[out many hs h0 hb];simp[mD,hb]
  |some t=>
   obtain⟨a,b,c⟩:=dH hs hb;have e1:=sU hf hs h0;rw[hb]at e1;have hw:IntKind.wrap .i64 (many+1)=many+1:=aN (by omega) (by omega);have aa:=ih (s:=t) (many+1) (by omega) (by omega) a b (by omega);unfold BX at aa⊢;rw[aE];have ab:(EW (o,ds) (many,s)).ev=some (.inl (many+1,t)):=by unfold EW;dsimp only;rw[qn,e1,xc,qo,hw];rfl
   rw[ab];simp only;rw[aa];simp only[mD,hb,xe,Wb,ql];omega
theorem Um{o:List Int}{ds:List (List Int)}(ho:aK o)(hd:eP ds){s:List Int}(hs:aK s):aCX o ds s=some (bif dS o ds s then(((nX o ds s).1:Int),true,(nX o ds s).2)else(0,false,[])):=by
 have e1:=lJ ho hd hs;unfold aCX aGx;rw[qn,e1,xc,qo];cases hb:dS o ds s with
 |false=>rfl
 |true=>
  obtain⟨hf,hp,h0⟩:=rG hs hb;have hr:ris o.length s:=by unfold dS at hb;simp only[xf]at hb;exact ris_iff.1 hb.2.1
  have aa:s≠ []:=xaq.1 h0;have e2:A6 s=some s:=by unfold aK at hs;unfold A6 sC;rw[qi (by omega)]
  have e4:=AH hf 103809717 (s:=s) 0 (by omega) (by omega) hr aa (vR hf hr aa).2;rw[xl,qb,qn,e2,xc,qn,e4,xc,qq,qa,Int.zero_add];rfl
theorem GT{o:List Int}{ds:List (List Int)}(ho:aK o)(hd:eP ds)(hf:Fld o ds):aEl o ds=some (true,oO o ds):=by
 have hS:=oT hf.pos hf.len;have hl:=jV hS hf.len;have aa:=zM hf.pos hf.len;obtain⟨x,e1,e2,e3⟩:=hS.im;have af:x.1.length=(aO o.length).length:=by rw[<-e3,gZ]
 have ae:=xaq.2 aa;have e4:=vQ (x:=x) e2 (by omega) (by omega) (p:=λab=>Option.bind (u6 o ds ab.1) λad=>some ad) (g:=dB o ds) (λs hs=>by rw[e3]at hs;obtain⟨a,b⟩:=A0 hf.pos hf.len hs;have e:u6 o ds s=some (dB o ds s):=tS hf (a.places hf.len) (xaq.2 b);show Option.bind (u6 o ds s) (λy=>some y)=_;rw[e];rfl);unfold aEl aEK;rw[qn,cG ho hd,fieldB_iff.2 hf,xc,qo,xl,qb,qn,e1,xc,qn,e4,xc,qq,e3];rfl
section
variable {n:Nat}{s:List Int}
end
section
variable {o:List Int}{ds:List (List Int)}
def KL(o:List Int)(ds:List (List Int))(s:List Int):Bool×Bool:=bif dS o ds s then(!(aS o ds s).isSome,true)else(false,false)
theorem Af{s:List Int}(ho:aK o)(hd:eP ds)(hs:aK s):aAy o ds s=some (KL o ds s):=by
 unfold aAy aBd KL;rw[qn,j0 ho hd hs,xc,qo];cases hb:dS o ds s with
 |false=>rfl
 |true=>
  obtain⟨hf,hp,h0⟩:=rG hs hb;have hr:ris o.length s:=by unfold dS at hb;simp only[xf]at hb;exact ris_iff.1 hb.2.1
  rw[xl,qb,qn,sL hf hr (xaq.1 h0),xc,qq];cases aS o ds s<;>rfl
theorem Cz{s:List Int}(ho:aK o)(hd:eP ds)(hs:aK s):aCo o ds s=some (KL o ds s):=by
 unfold aCo aEh KL;rw[qn,lJ ho hd hs,xc,qo];cases hb:dS o ds s with
 |false=>rfl
 |true=>
  obtain⟨hf,hp,h0⟩:=rG hs hb;have hr:ris o.length s:=by unfold dS at hb;simp only[xf]at hb;exact ris_iff.1 hb.2.1
  rw[xl,qb,qn,sU hf hr (xaq.1 h0),xc,qq];cases aS o ds s<;>rfl
end
section
variable {o:List Int}{ds:List (List Int)}
def Lm(ds:List (List Int))(i j a n:Nat):Bool:=(List.range n).all λb=> !decide (at2 ds i b+at2 ds j b+at2 ds j a<at2 ds i a)
def Hf(ds:List (List Int))(i j n:Nat):Bool:=(List.range n).all λa=>Lm ds i j a n
def Kg(ds:List (List Int))(i n:Nat):Bool:=(List.range ds.length).all λj=>Hf ds i j n
def Dq(ds:List (List Int))(n:Nat):Bool:=(List.range ds.length).all λi=>Kg ds i n
theorem aHa(hf:Fld o ds){i j a:Nat}(hi:i<ds.length)(hj:j<ds.length)(ha:a<o.length)(k:(List (Int))×(List (Int))×(Int)×(List (List (Int)))×(Int)×(Int)×(List (List (Int)))×(Int)×(Int)×(Int)×(Int)×(Int)×(List (Int))×(List (List (Int))))
  (k1:k.1=ds.getD i []) (k2:k.2.1=ds.getD j []) (k3:k.2.2.1=(a:Int)) (k4:k.2.2.2.2.2.2.2.2.2.2.2.1=(o.length:Int)):aKr k 0=some (bif Lm ds i j a o.length then .inl ()else .inr ()):=by
 have ho:=hf.len;have ae:=hf.rowLen i hi;have af:=hf.rowLen j hj;have h:=bB (f:=λv=>(Xw k v).ev) (n:=o.length) (mk:=λb=>(b:Int)) (p:=λb=> !decide (at2 ds i b+at2 ds j b+at2 ds j a<at2 ds i a)) (yes:=.inl ()) (no:=.inr ())
  (λb hb _=>by
   have v1:=hf.at2 hi hb;have v2:=hf.at2 hj hb;have v3:=hf.at2 hj ha;have v4:=hf.at2 hi ha;unfold at2 at v1 v2 v3 v4⊢;have aa:(b:Int)<(o.length:Int):=by omega
   have g1:aC (a:Int) (ds.getD i []).length=true:=bK (by omega) (by omega);have g2:aC (b:Int) (ds.getD i []).length=true:=bK (by omega) (by omega);have g3:aC (b:Int) (ds.getD j []).length=true:=bK (by omega) (by omega);have g4:aC (a:Int) (ds.getD j []).length=true:=bK (by omega) (by omega);have hw:IntKind.wrap .i64 ((b:Int)+1)=((b+1:Nat):Int):=by rw[aN (by omega) (by omega)];rfl
   have ab:IntKind.wrap .i64 ((ds.getD i []).getD b 0+(ds.getD j []).getD b 0)=(ds.getD i []).getD b 0+(ds.getD j []).getD b 0:=aN (by omega) (by omega);have ad:IntKind.wrap .i64 ((ds.getD i []).getD b 0+(ds.getD j []).getD b 0+(ds.getD j []).getD a 0)=(ds.getD i []).getD b 0+(ds.getD j []).getD b 0+(ds.getD j []).getD a 0:=aN (by omega) (by omega);unfold Xw;rw[k1,k2,k3,k4,qo,qc aa,qa,qp,g1,qa,qp,g2,qa,qp,g3,qa,qp,g4,qa,qo,hw];simp only[xx,ab,ad];cases decide ((ds.getD i []).getD b 0+(ds.getD j []).getD b 0+(ds.getD j []).getD a 0<(ds.getD i []).getD a 0)<;>rfl)
  (by
   have aa:¬(o.length:Int)<(o.length:Int):=by omega
   unfold Xw;rw[k4,qo,qd aa,qb,qq])
 exact h
theorem aHd(hf:Fld o ds){i j:Nat}(hi:i<ds.length)(hj:j<ds.length)(k:(List (Int))×(List (Int))×(List (List (Int)))×(Int)×(Int)×(List (List (Int)))×(Int)×(Int)×(Int)×(List (Int))×(List (List (Int))))
  (k1:k.1=ds.getD i []) (k2:k.2.1=ds.getD j []) (k3:k.2.2.2.2.2.2.2.2.1=(o.length:Int)) (k4:k.2.2.2.2.2.2.2.2.2.1=o):aKh k 0=some (bif Hf ds i j o.length then .inl ()else .inr ()):=by
 have ho:=hf.len;have h:=bB (f:=λv=>(IN k v).ev) (n:=o.length) (mk:=λb=>(b:Int)) (p:=λa=>Lm ds i j a o.length) (yes:=.inl ()) (no:=.inr ())
  (λa ha _=>by
   have aa:(a:Int)<(o.length:Int):=by omega
   have hw:IntKind.wrap .i64 ((a:Int)+1)=((a+1:Nat):Int):=by rw[aN (by omega) (by omega)];rfl
   unfold IN;rw[k3,qo,qc aa,qa,qn,aHa hf hi hj ha _ k1 k2 rfl (by rw[k4]),xc,hw];cases Lm ds i j a o.length<;>rfl)
  (by
   have aa:¬(o.length:Int)<(o.length:Int):=by omega
   unfold IN;rw[k3,qo,qd aa,qb,qq])
 exact h
theorem aHh(hf:Fld o ds){i:Nat}(hi:i<ds.length)(k:(List (Int))×(List (List (Int)))×(Int)×(Int)×(List (List (Int)))×(Int)×(List (Int))×(List (List (Int))))
  (k1:k.1=ds.getD i []) (k2:k.2.2.2.2.1=ds) (k3:k.2.2.2.2.2.1=(ds.length:Int)) (k4:k.2.2.2.2.2.2.1=o):aLa k 0=some (bif Kg ds i o.length then .inl ()else .inr ()):=by
 have hc:=hf.clients;have h:=bB (f:=λv=>(DE k v).ev) (n:=ds.length) (mk:=λb=>(b:Int)) (p:=λj=>Hf ds i j o.length) (yes:=.inl ()) (no:=.inr ())
  (λj hj _=>by
   have aa:(j:Int)<(ds.length:Int):=by omega
   have hw:IntKind.wrap .i64 ((j:Int)+1)=((j+1:Nat):Int):=by rw[aN (by omega) (by omega)];rfl
   have g1:=eA hj;unfold DE;rw[k3,qo,qc aa,qa,qp,k2,g1,qa,qn,aHd hf hi hj _ k1 (by dsimp only;rw[xx]) (by dsimp only;rw[k4]) k4,xc,hw];cases Hf ds i j o.length<;>rfl)
  (by
   have aa:¬(ds.length:Int)<(ds.length:Int):=by omega
   unfold DE;rw[k3,qo,qd aa,qb,qq])
 exact h
theorem PT(ho:aK o)(hd:eP ds):MH o ds=some (bif fQ o ds then(Dq ds o.length,true)else(false,false)):=by
 unfold MH aDg;rw[qn,cG ho hd,xc,qo];cases hb:fQ o ds with
 |false=>rfl
 |true=>
  have hf:=fieldB_iff.1 hb;have hc:=hf.clients;have h:=bB (f:=λv=>(GN (ds,((ds.length:Nat):Int),o,ds) v).ev) (n:=ds.length) (mk:=λb=>(b:Int)) (p:=λi=>Kg ds i o.length) (yes:=.inl ()) (no:=.inr ())
   (λi hi _=>by
    have aa:(i:Int)<(ds.length:Int):=by omega
    have hw:IntKind.wrap .i64 ((i:Int)+1)=((i+1:Nat):Int):=by rw[aN (by omega) (by omega)];rfl
    have g1:=eA hi;unfold GN;dsimp only;rw[qo,qc aa,qa,qp,g1,qa,qn,aHh hf hi _ (by dsimp only;rw[xx]) rfl rfl rfl,xc,hw];cases Kg ds i o.length<;>rfl)
   (by
    have aa:¬(ds.length:Int)<(ds.length:Int):=by omega
    unfold GN;dsimp only;rw[qo,qd aa,qb,qq])
  have h1:aHT (ds,((ds.length:Nat):Int),o,ds) 0=some (bif Dq ds o.length then .inl ()else .inr ()):=h;rw[xl,qb,qn,h1,xc,qa];cases Dq ds o.length<;>rfl
def eJ(o:List Int):Nat:=(List.range (o.length-1)).foldl (λb k=>if o.getD (k+1) 0<o.getD b 0 then k+1 else b) 0
theorem xE(hp:1<=o.length):eJ o<o.length/\(∀i,i<o.length->o.getD (eJ o) 0<=o.getD i 0)/\∀i,i<eJ o->o.getD (eJ o) 0<o.getD i 0:=by
 have key:∀k,k+1<=o.length->(List.range k).foldl (λb k=>if o.getD (k+1) 0<o.getD b 0 then k+1 else b) 0<=k/\(∀i,i<=k->o.getD ((List.range k).foldl (λb k=>if o.getD (k+1) 0<o.getD b 0 then k+1 else b) 0) 0<=o.getD i 0)/\
   ∀i,i<(List.range k).foldl (λb k=>if o.getD (k+1) 0<o.getD b 0 then k+1 else b) 0->o.getD ((List.range k).foldl (λb k=>if o.getD (k+1) 0<o.getD b 0 then k+1 else b) 0) 0<o.getD i 0:=by
  intro k;induction k with
  |zero=>
   intro _;refine⟨xm _,λi hi=>?_,λi hi=>absurd hi (by simp)⟩;have:i=0:=by omega
   subst this;exact zG _
  |succ k ih=>
   intro hk;obtain⟨i1,i2,i3⟩:=ih (by omega);rw[aU];generalize(List.range k).foldl (λb k=>if o.getD (k+1) 0<o.getD b 0 then k+1 else b) 0=b at i1 i2 i3;by_cases aa:o.getD (k+1) 0<o.getD b 0
   ·rw[qi aa];refine⟨xm _,λi hi=>?_,λi hi=>?_⟩
    ·by_cases e:i=k+1;·subst e;exact zG _
     ·have:=i2 i (by omega);omega
    ·have:=i2 i (by omega);omega
   ·rw[qh aa];refine⟨by omega,λi hi=>?_,i3⟩;by_cases e:i=k+1;·subst e;omega
    ·exact i2 i (by omega)
 obtain⟨a,b,c⟩:=key (o.length-1) (by omega);exact⟨by unfold eJ;omega,λi hi=>b i (by omega),c⟩
theorem LL{l:List Int}(h0:0<l.length)(hl:l.length<=1000):Qi l=some (l.getD (eJ l) 0):=by
 have h:=(aR (f:=λv=>(Y4 l v).ev) (n:=l.length-1) (mk:=λk (b:Nat)=>(l.getD b 0,((k+1:Nat):Int))) (I:=λk b=>b<=k) (g:=λb k=>if l.getD (k+1) 0<l.getD b 0 then k+1 else b) (fin:=λb=>l.getD b 0) (s0:=0) (xm _)
  (λk b hk hb=>by
   have aa:((k+1:Nat):Int)<((l.length:Nat):Int):=by omega
   have g1:aC ((k+1:Nat):Int) l.length=true:=eA (by omega);have hw:IntKind.wrap .i64 (((k+1:Nat):Int)+1)=((k+1+1:Nat):Int):=by rw[aN (by omega) (by omega)];rfl
   refine⟨?_,by split<;>omega⟩;have ab:(if l.getD (k+1) 0<l.getD b 0 then l.getD (k+1) 0 else l.getD b 0)=l.getD (if l.getD (k+1) 0<l.getD b 0 then k+1 else b) 0:=by split<;>rfl
   unfold Y4;dsimp only;rw[qo,qc aa,qa,qp,g1,qa,hw,xx,ab];rfl)
  (λb _=>by
   have aa:¬((l.length-1+1:Nat):Int)<((l.length:Nat):Int):=by omega
   unfold Y4;dsimp only;rw[qo,qd aa,qb,qq])).1
 have h1:aBs l (l.getD 0 0,1)=some (l.getD (eJ l) 0):=h;have hn:¬((l.length:Nat):Int)<1:=by omega
 have g0:aC (0:Int) l.length=true:=bK (by omega) (by omega);unfold Qi LN;rw[qo,qd hn,qb,qp,g0,qa,qn,show Int.toNat 0=0 from rfl,h1,xc,qq]
theorem Pl(hf:Fld o ds):aFp o ds=some (eJ o:Int):=by
 have hp:=hf.pos;have h7:=hf.len;obtain⟨c1,c2,c3⟩:=xE hp;have e1:=LL (l:=o) (by omega) (by omega);have h:=fX (f:=λv=>(HU (o,o.getD (eJ o) 0,((o.length:Nat):Int)) v).ev) (l:=o) 0 (λy=>o.getD (eJ o) 0==y) (mk:=λi=>(i:Int)) (yes:=λi=>.inr (i:Int)) (no:=.inl ())
  (λi hi=>by simp(disch:=omega)only[EV,HU,hi];cases(o.getD (eJ o) 0==o.getD i 0)<;>rfl)
  (by simp(disch:=omega)only[EV,HU,xi])
 have h1:aJW (o,o.getD (eJ o) 0,((o.length:Nat):Int)) 0=_:=h;have aa:(o.findIdx? λy=>o.getD (eJ o) 0==y)=some (eJ o):=by
  rw[xdb];have hg:∀i (hi:i<o.length),o[i]=o.getD i 0:=λi hi=>by rw[xd,xh hi];rfl
  refine⟨c1,by rw[hg _ c1];exact qj _,λi hi=>?_⟩;rw[hg _ (by omega)];have:=c3 i hi;intro h;have:=eq_of_beq h;omega
 rw[aa]at h1;unfold aFp aDb aKx aEH;rw[qn,e1,xc,qn,qn,h1];rfl
theorem Vi(hf:Fld o ds):aDq o ds=some (eJ o:Int):=by
 have hp:=hf.pos;have h7:=hf.len;have h:=(aR (f:=λv=>(Xs (o,ds) v).ev) (n:=o.length-1) (mk:=λk (b:Nat)=>((b:Int),((k+1:Nat):Int))) (I:=λk b=>b<=k) (g:=λb k=>if o.getD (k+1) 0<o.getD b 0 then k+1 else b) (fin:=λb=>(b:Int)) (s0:=0) (xm _)
  (λk b hk hb=>by
   have aa:((k+1:Nat):Int)<((o.length:Nat):Int):=by omega
   have g1:aC ((k+1:Nat):Int) o.length=true:=eA (by omega);have g2:aC (b:Int) o.length=true:=eA (by omega);have hw:IntKind.wrap .i64 (((k+1:Nat):Int)+1)=((k+1+1:Nat):Int):=by rw[aN (by omega) (by omega)];rfl
   refine⟨?_,by split<;>omega⟩;unfold Xs;dsimp only;simp only[xx];rw[qo,qc aa,qa,qp,g1,qa,qp,g2,qa,qo,hw];by_cases hc:o.getD (k+1) 0<o.getD b 0;·rw[qc hc,qa,qi hc];rfl
   ·rw[qd hc,qb,qh hc];rfl)
  (λb _=>by
   have aa:¬((o.length-1+1:Nat):Int)<((o.length:Nat):Int):=by omega
   unfold Xs;dsimp only;rw[qo,qd aa,qb,qq])).1
 have h1:aIj (o,ds) (0,1)=some (eJ o:Int):=h;unfold aDq aDO;rw[qn,h1,xc,qq]
end
section
variable {o:List Int}{ds:List (List Int)}{p tm w:List Int}{now:Int}
def nxt(now x t:Int):Int:=if now<t/\(x<0\/t<x)then t else x
theorem NXT.add{C:Int->Prop}{x:Int}(h0:0<=now)(h:NXT now C x)(t:Int):NXT now (λu=>C u\/u=t) (nxt now x t):=by
 unfold nxt;by_cases h1:now<t/\(x<0\/t<x)
 ·rw[qi h1];refine .inr ⟨.inr rfl,h1.1,λu hu hn=>?_⟩;rcases hu with hu|rfl
  ·rcases h with⟨_,h⟩|⟨_,h,c⟩
   ·exact absurd hn (h u hu)
   ·have:=c u hu hn;rcases h1.2 with h2|h2<;>omega
  ·exact zG _
 ·rw[qh h1];rcases h with⟨a,b⟩|⟨a,b,c⟩
  ·refine .inl ⟨a,λu hu=>?_⟩;rcases hu with hu|rfl;·exact b u hu
   ·exact λh2=>h1 ⟨h2,.inl (by omega)⟩
  ·refine .inr ⟨.inl a,b,λu hu hn=>?_⟩;rcases hu with hu|rfl;·exact c u hu hn
   ·by_cases h2:u<x;·exact absurd ⟨hn,.inr h2⟩ h1
    ·omega
structure SG(ds:List (List Int))(P W pr:List Int)(st:List Bool)(wi:List Int):Prop where
 pl:pr.length=ds.length
 sl:st.length=ds.length
 wl:wi.length=ds.length
 st:∀i,i<ds.length->st.getD i false= !decide (W.getD i 0<0)
 pr:∀i,i<ds.length->¬W.getD i 0<0->pr.getD i 0=P.getD i 0
theorem Qy(l:List Bool){i:Nat}(hi:i<l.length)(j:Nat)(v:Bool):(l.set i v).getD j false=if i=j then v else l.getD j false:=by
 rw[xd,xd,VA];by_cases h:i=j;·subst h;simp[hi]
 ·simp[h]
theorem Dc(hf:Fld o ds){P W pr wi:List Int}{st:List Bool}(h:SG ds P W pr st wi)(t:Int)(tm:List Int):CU t pr st wi tm=some (gP ds W P t):=by
 have hm:=hf.clients;have key:aLd (t,pr,st,wi,tm) ((0:Int),([]:List Int))=some ((List.range ds.length).map λi=>if W.getD i 0<0 then t else P.getD i 0):=
  iP (f:=λv=>(Tm (t,pr,st,wi,tm) v).ev) (n:=ds.length) (mk:=λk (l:List Int)=>((k:Int),l)) (λi=>if W.getD i 0<0 then t else P.getD i 0) (λl=>l)
   (λi l hi hl=>by
    have aa:∀x:Int,List.length [x]=1:=λ_=>rfl;have hb:(l.length+1)*8<=140737488355328:=by omega
    have e1:=h.st i hi;have ab:=h.pl;have ad:=h.sl;by_cases c:W.getD i 0<0;·rw[qc c,xl]at e1;simp only[qi c];simp(disch:=omega)only[EV,Tm,hi,ab,ad,e1,aa,hb];rfl
    ·rw[qd c,nE]at e1;have e2:=h.pr i hi c;simp only[qh c];simp(disch:=omega)only[EV,Tm,hi,ab,ad,e1,e2,aa,hb];rfl)
   (λl _=>by simp(disch:=omega)only[EV,Tm,h.pl,xi])
 unfold CU aEi gP;simp(disch:=omega)only[EV,key]
theorem I3(hf:Fld o ds){P:List Int}(hl:P.length=ds.length)(hp:∀i,i<ds.length->0<=P.getD i 0/\P.getD i 0<=498960){a:Nat}(ha:a<o.length):Hb o ds P (a:Int) 2520=some (iZ ds P a):=by
 have ab:=hf.clients;have key:aDu (P,(a:Int),(2520:Int),o,ds) ((0:Int),(0:Int))=some (fA ds P a P.length):=by
  obtain⟨r,h1,h2⟩:=aL (f:=λv=>(Bp (P,(a:Int),(2520:Int),o,ds) v).ev) (n:=P.length) (λi (c:Int)=>(c,(i:Int))) (λi c=>c=fA ds P a i) (λr=>r=fA ds P a P.length) (s0:=0) rfl
   (λi c hi hc=>by
    subst hc;left;have aa:i<ds.length:=by omega
    have hr:=hf.rowLen i aa;have h1:=hp i aa;have h2:=hf.at2 aa ha;obtain⟨g1,g2,_⟩:=lW hf (λi hi=>(hp i hi).2) ha i (by omega);obtain⟨g3,g4,_⟩:=lW hf (λi hi=>(hp i hi).2) ha (i+1) (by omega);have e3:(ds.getD i []).getD a 0=at2 ds i a:=rfl;have e4:2520*at2 ds i a=dA ds i a:=XE _ _;have h5:=wD hf aa ha;rw[fA]at g3 g4;refine⟨_,?_,rfl⟩;simp(disch:=omega)only[EV,Bp,hi,aa,hr,ha,e3,e4,jX,Lz];rfl)
   (λc hc=>⟨c,by simp(disch:=omega)only[EV,Bp,xi],hc⟩)
  exact h1.trans (congrArg some h2)
 unfold Hb LY iZ;rw[hl]at key;simp(disch:=omega)only[EV,key]
theorem Jj(hf:Fld o ds){P:List Int}(ad:tm.length=o.length)(hl:P.length=ds.length)(hp:∀i,i<ds.length->0<=P.getD i 0/\P.getD i 0<=498960)(ab:∀a,a<o.length->tm.getD a 0<0->iZ ds P a<=lF o a)(pr:List Int)(st:List Bool)(wi:List Int):
  aIZ (now,pr,st,wi,o,ds,now,(0:Int),P) ((0:Int),tm)=some (gT o ds P tm now):=
 qO (f:=λv=>(Gz (now,pr,st,wi,o,ds,now,(0:Int),P) v).ev) (n:=o.length) (λa=>if tm.getD a 0<0/\lF o a<=iZ ds P a then now else tm.getD a 0) ad (by simp[gT]) (λi hi=>qI hi)
  (λa b ha hb he=>by
   have e1:=I3 hf hl hp ha;have aa:a<b.length:=by omega
   have hc:=hf.cost a ha;have hlen:=hf.len;have e5:2520*o.getD a 0=lF o a:=XE _ _;by_cases c:tm.getD a 0<0
   ·by_cases c2:iZ ds P a=lF o a
    ·have eb:(iZ ds P a==lF o a)=true:=beq_iff_eq.2 c2;refine⟨b.set a now,?_,by simp[hb],λj hj=>?_⟩;·simp(disch:=omega)only[EV,Gz,ha,aa,he,c,e1,e5,eb];rfl
     ·rw[cQ b aa];by_cases e:a=j;·rw[qi e,qi e,qi ⟨c,by omega⟩]
      ·rw[qh e,qh e]
    ·have eb:(iZ ds P a==lF o a)=false:=beq_eq_false_iff_ne.2 c2;have:=ab a ha c;refine⟨b,?_,hb,λj hj=>?_⟩;·simp(disch:=omega)only[EV,Gz,ha,aa,he,c,e1,e5,eb];rfl
     ·by_cases e:a=j;·subst e;rw[qi rfl,he,qh λq=>c2 (by omega)]
      ·rw[qh e]
   ·refine⟨b,?_,hb,λj hj=>?_⟩;·simp(disch:=omega)only[EV,Gz,ha,aa,he,c];rfl
    ·by_cases e:a=j;·subst e;rw[qi rfl,he,qh λq=>c q.1]
     ·rw[qh e])
  (λb=>by simp(disch:=omega)only[EV,Gz,xi])
theorem C3{T:List Int}{a b:Int}(ha:0<=a/\a<(T.length:Int))(hb:0<=b/\b<(T.length:Int))(aa:b<=a)(n:Int)(pr:List Int)(st:List Bool)(wi:List Int):LM n pr st wi T a b=some (decide (T.getD a.toNat 0<T.getD b.toNat 0)):=by
 have h1:aC a T.length=true:=bK ha.1 ha.2;have h2:aC b T.length=true:=bK hb.1 hb.2;have h3:decide (a<b)=false:=qd (by omega);unfold LM aDp;rw[qp,h1,qa,qp,h2,qa,qo];cases hq:decide (T.getD a.toNat 0<T.getD b.toNat 0)with
 |true=>rw[qa,qq]
 |false=>
  rw[qb,qp,qa,qp,qa,qo];cases T.getD a.toNat 0==T.getD b.toNat 0 with
  |true=>rw[qa,qq,h3]
  |false=>rw[qb,qq]
theorem Hh(hf:Fld o ds){T W:List Int}(ht:T.length=o.length){i:Nat}(hi:i<ds.length){st:List Bool}(ad:i<st.length)(aa:st.getD i false= !decide (W.getD i 0<0))(pr wi P:List Int):
  aJG (now,(i:Int),pr,st,wi,T,o,ds,now,(0:Int),P) ((-1:Int),(0:Int))=some (if W.getD i 0<0 then gB ds T now i o.length else-1):=by
 have ai:=hf.pos;have hlen:=hf.len;by_cases c:W.getD i 0<0
 ·rw[qi c];rw[qc c,xl]at aa;obtain⟨r,k1,k2⟩:=aL (f:=λv=>(CL (now,(i:Int),pr,st,wi,T,o,ds,now,(0:Int),P) v).ev) (n:=o.length) (λa (b:Int)=>(b,(a:Int))) (λa b=>b=gB ds T now i a) (λr=>r=gB ds T now i o.length) (s0:= -1) rfl
   (λa b ha hb=>by
    subst hb;left;refine⟨gB ds T now i (a+1),?_,rfl⟩;have hr:=hf.rowLen i hi;have h2:=hf.at2 hi ha;have e3:(ds.getD i []).getD a 0=at2 ds i a:=rfl;have e4:2520*at2 ds i a=dA ds i a:=XE _ _;have ae:a<T.length:=by omega
    have af:=B3 (ds:=ds) (tm:=T) (now:=now) (i:=i) a;rw[gB];generalize gB ds T now i a=B at af⊢;by_cases h1:0<=T.getD a 0
    ·by_cases ab:dA ds i a<=now
     ·by_cases h3:B<0;·rw[qi ⟨h1,ab,.inl h3⟩];simp(disch:=omega)only[EV,CL,ha,ae,ad,aa,h1,hi,hr,e3,e4,ab,h3];rfl
      ·have e5:=C3 (T:=T) (a:=(a:Int)) (b:=B) (by omega) (by omega) (by omega) now pr st wi;rw[xx]at e5;by_cases h4:T.getD a 0<T.getD B.toNat 0;·rw[qc h4]at e5;rw[qi ⟨h1,ab,.inr h4⟩];simp(disch:=omega)only[EV,CL,ha,ae,ad,aa,h1,hi,hr,e3,e4,ab,h3,e5];rfl
       ·rw[qd h4]at e5;rw[qh λq=>by rcases q.2.2 with q|q;exact h3 q;exact h4 q];simp(disch:=omega)only[EV,CL,ha,ae,ad,aa,h1,hi,hr,e3,e4,ab,h3,e5];rfl
     ·rw[qh λq=>ab q.2.1];simp(disch:=omega)only[EV,CL,ha,ae,ad,aa,h1,hi,hr,e3,e4,ab];rfl
    ·rw[qh λq=>h1 q.1];simp(disch:=omega)only[EV,CL,ha,ae,ad,aa,h1];rfl)
   (λb hb=>⟨b,by simp(disch:=omega)only[EV,CL,xi],hb⟩)
  rw[<-k2];exact k1
 ·rw[qh c];rw[qd c,nE]at aa;have ah:(CL (now,(i:Int),pr,st,wi,T,o,ds,now,(0:Int),P) ((-1:Int),(0:Int))).ev=some (.inr (-1)):=by
   have h0:(0:Int)<((o.length:Nat):Int):=by omega
   simp(disch:=omega)only[EV,CL,h0,ad,aa]
  refine iter_some.2 ⟨1,?_⟩;simp only[gU,ah]
theorem Gv(hf:Fld o ds){T P W:List Int}(ht:T.length=o.length){pr wi:List Int}{st:List Bool}(s:SG ds P W pr st wi){Q:List Int}(hQ:Q.length=ds.length):
  ∃aa ab ad,aLt (now,T,o,ds,now,(0:Int),Q) ((0:Int),pr,st,wi)=some (aa,ab,ad)/\SG ds (gP ds W P now) (gW o ds T W now) aa ab ad:=by
 obtain⟨r,k1,k2,k3,k4,k5⟩:=aL (f:=λv=>(S6 (now,T,o,ds,now,(0:Int),Q) v).ev) (n:=ds.length) (λi (c:List Int×List Bool×List Int)=>((i:Int),c))
  (λi c=>c.1.length=ds.length/\c.2.1.length=ds.length/\c.2.2.length=ds.length/\∀j,j<ds.length->c.2.1.getD j false=(!decide ((if j<i then(gW o ds T W now).getD j 0 else W.getD j 0)<0))/\(¬(if j<i then(gW o ds T W now).getD j 0 else W.getD j 0)<0->c.1.getD j 0=(gP ds W P now).getD j 0))
  (λc=>c.1.length=ds.length/\c.2.1.length=ds.length/\c.2.2.length=ds.length/\∀j,j<ds.length->c.2.1.getD j false=(!decide ((gW o ds T W now).getD j 0<0))/\(¬(gW o ds T W now).getD j 0<0->c.1.getD j 0=(gP ds W P now).getD j 0)) (s0:=(pr,st,wi))
  ⟨s.pl,s.sl,s.wl,λj hj=>by rw[qh (by omega)];exact⟨s.st j hj,λh=>by rw[gG hj,qh h];exact s.pr j hj h⟩⟩
  (λi c hi ⟨c1,c2,c3,c4⟩=>by
   left;obtain⟨x,y,z⟩:=c;simp only at c1 c2 c3 c4;have ae:=(c4 i hi).1;rw[qh (by omega)]at ae;have e1:=Hh (now:=now) hf ht hi (by omega) ae x z Q;have hm:=hf.clients;have g1:i<x.length:=by omega
   have g2:i<y.length:=by omega
   have g3:i<z.length:=by omega
   have hW:=rI (o:=o) (ds:=ds) (tm:=T) (w:=W) (now:=now) hi;have af:=B3 (ds:=ds) (tm:=T) (now:=now) (i:=i) o.length
   -- what stays as it ah
   have stay:(S6 (now,T,o,ds,now,(0:Int),Q) ((i:Int),x,y,z)).ev=some (.inl (((i+1:Nat):Int),x,y,z))->(W.getD i 0<0↔(gW o ds T W now).getD i 0<0)->∃s',(S6 (now,T,o,ds,now,(0:Int),Q) ((i:Int),x,y,z)).ev=some (.inl (((i+1:Nat):Int),s'))/\s'.1.length=ds.length/\s'.2.1.length=ds.length/\s'.2.2.length=ds.length/\∀j,j<ds.length->s'.2.1.getD j false=(!decide ((if j<i+1 then(gW o ds T W now).getD j 0 else W.getD j 0)<0))/\(¬(if j<i+1 then(gW o ds T W now).getD j 0 else W.getD j 0)<0->s'.1.getD j 0=(gP ds W P now).getD j 0):=λhs hw=>
    ⟨(x,y,z),hs,c1,c2,c3,λj hj=>by
     obtain⟨q1,q2⟩:=c4 j hj;by_cases e:j=i;·subst e;rw[qh (by omega)]at q1 q2;rw[qi (by omega)];refine⟨by rw[q1];congr 1;exact decide_eq_decide.2 hw,λh=>q2 λh'=>h (hw.1 h')⟩
     ·by_cases h:j<i;·rw[qi h]at q1 q2;rw[qi (by omega)];exact⟨q1,q2⟩
      ·rw[qh h]at q1 q2;rw[qh (by omega)];exact⟨q1,q2⟩⟩
   by_cases c:W.getD i 0<0
   ·rw[qi c]at e1 hW;by_cases hB:0<=gB ds T now i o.length
    ·refine⟨(x.set i now,y.set i true,z.set i (gB ds T now i o.length)),?_,by simp[c1],by simp[c2],by simp[c3],λj hj=>?_⟩;·simp(disch:=omega)only[EV,S6,hQ,hi,e1,hB,g1,g2,g3,c1,c2,c3];rfl
     ·simp only;rw[Qy y g2,cQ x g1];by_cases e:i=j;·subst e;rw[qi rfl,qi rfl,qi (by omega),hW,qd (by omega),gG hj,qi c];exact⟨rfl,λ_=>rfl⟩
      ·obtain⟨q1,q2⟩:=c4 j hj;rw[qh e,qh e];by_cases h:j<i;·rw[qi h]at q1 q2;rw[qi (by omega)];exact⟨q1,q2⟩
       ·rw[qh h]at q1 q2;rw[qh (by omega)];exact⟨q1,q2⟩
    ·refine stay ?_ (by rw[hW];omega);simp(disch:=omega)only[EV,S6,hQ,hi,e1,hB];rfl
   ·rw[qh c]at e1 hW;refine stay ?_ (by rw[hW]);have h1:¬(0:Int)<= -1:=by omega
    simp(disch:=omega)only[EV,S6,hQ,hi,e1,h1];rfl)
  (λc ⟨c1,c2,c3,c4⟩=>⟨c,by simp(disch:=omega)only[EV,S6,hQ,xi],c1,c2,c3,λj hj=>by have:=c4 j hj;rw[qi hj]at this;exact this⟩)
 exact⟨r.1,r.2.1,r.2.2,k1,⟨k2,k3,k4,λi hi=>(k5 i hi).1,λi hi=>(k5 i hi).2⟩⟩
theorem I9(hf:Fld o ds)(h:GI o ds p tm w now)(e:GE o ds p tm w now){pr wi:List Int}{st:List Bool}(s:SG ds p w pr st wi):
  ∃aa ab ad,KF o ds now pr st wi tm=some (now,aa,ab,ad,gT o ds (gP ds w p now) tm now)/\SG ds (gP ds w p now) (gW o ds (gT o ds (gP ds w p now) tm now) w now) aa ab ad:=by
 have hp:∀i,i<ds.length->0<=(gP ds w p now).getD i 0/\(gP ds w p now).getD i 0<=498960:=λi hi=>by have:=h.price hi;have:=h.n1;omega
 have e1:=Dc hf s now tm;have e2:=Jj (now:=now) hf h.tl (P:=gP ds w p now) (by simp[gP]) hp e.fair pr st wi;obtain⟨aa,ab,ad,e3,e4⟩:=Gv (now:=now) hf (T:=gT o ds (gP ds w p now) tm now) (by simp[gT]) s (Q:=gP ds w p now) (by simp[gP]);refine⟨aa,ab,ad,?_,e4⟩;unfold KF aDW;rw[qn,e1,xc,qn,e2,xc,qn,e3,xc,qq]
theorem P0(hf:Fld o ds){P W pr wi:List Int}{st:List Bool}(s:SG ds P W pr st wi)(T:List Int):aFH now pr st wi T=some (!(List.range ds.length).all λi=> !decide (W.getD i 0<0)):=by
 have hm:=hf.clients;have key:=bB (f:=λv=>(Pj (now,pr,st,wi,T) v).ev) (n:=ds.length) (λi=>(i:Int)) (λi=> !decide (W.getD i 0<0)) (.inl ():Unit⊕Unit) (.inr ())
  (λi hi _=>by
   have e1:=s.st i hi;have aa:=s.sl;cases hq: !decide (W.getD i 0<0)with
   |true=>rw[hq]at e1;simp(disch:=omega)only[EV,Pj,hi,aa,e1];rfl
   |false=>rw[hq]at e1;simp(disch:=omega)only[EV,Pj,hi,aa,e1])
  (by simp(disch:=omega)only[EV,Pj,s.sl,xi])
 have k1:aIV (now,pr,st,wi,T) (0:Int)=some (bif (List.range ds.length).all λi=> !decide (W.getD i 0<0)then .inl ()else .inr ()):=key;unfold aFH ZB;rw[qn,k1,xc];cases(List.range ds.length).all λi=> !decide (W.getD i 0<0)<;>rfl
theorem IT(hf:Fld o ds){P W pr wi:List Int}{st:List Bool}(s:SG ds P W pr st wi)(T:List Int){a:Nat}(ha:a<o.length):XP o ds now pr st wi T (a:Int)=some (aT ds W now a:Int):=by
 obtain⟨r,k1,k2⟩:=aL (f:=λv=>(Ir ((a:Int),o,ds,now,pr,st,wi,T) v).ev) (n:=ds.length) (λi (c:Int)=>(c,(i:Int))) (λi c=>c=(rL ds W now a i:Int)) (λr=>r=(aT ds W now a:Int)) (s0:=(0:Int)) rfl
  (λi c hi hc=>by
   left;have hm:=hf.clients;have hr:=hf.rowLen i hi;have h2:=hf.at2 hi ha;have e1:=s.st i hi;have aa:=s.sl;have e3:(ds.getD i []).getD a 0=at2 ds i a:=rfl;have e4:2520*at2 ds i a=dA ds i a:=XE _ _;have ad:=fE (λj=>W.getD j 0<0/\dA ds j a<=now) i;have e0:rL ds W now a i=cY (λj=>W.getD j 0<0/\dA ds j a<=now) i:=rfl;have hb:c<=7:=by omega
   have hb0:0<=c:=by omega
   refine⟨(rL ds W now a (i+1):Int),?_,rfl⟩;unfold rL;rw[cY];rw[e0]at hc;by_cases c1:W.getD i 0<0
   ·rw[qc c1,xl]at e1;by_cases c2:dA ds i a<=now;·rw[qi ⟨c1,c2⟩,xey,<-hc];simp(disch:=omega)only[EV,Ir,hi,aa,e1,hr,ha,e3,e4,c2];rfl
    ·rw[qh λq=>c2 q.2,zL,<-hc];simp(disch:=omega)only[EV,Ir,hi,aa,e1,hr,ha,e3,e4,c2];rfl
   ·rw[qd c1,nE]at e1;rw[qh λq=>c1 q.1,zL,<-hc];simp(disch:=omega)only[EV,Ir,hi,aa,e1];rfl)
  (λc hc=>⟨c,by simp(disch:=omega)only[EV,Ir,xi],hc⟩)
 have ab:aJu ((a:Int),o,ds,now,pr,st,wi,T) ((0:Int),(0:Int))=some r:=k1;unfold XP aGl;rw[qn,ab,xc,qq,k2]
theorem Tn(hf:Fld o ds)(h0:0<=now){P W pr wi:List Int}{st:List Bool}(s:SG ds P W pr st wi)(T:List Int){i:Nat}(hi:i<ds.length){C:Int->Prop}{x:Int}(hx:NXT now C x):
  ∃y,aLh ((i:Int),o,ds,now,pr,st,wi,T) (x,(0:Int))=some y/\NXT now (λu=>C u\/(W.getD i 0<0/\∃a,a<o.length/\u=dA ds i a)) y:=by
 obtain⟨r,k1,k2⟩:=aL (f:=λv=>(V8 ((i:Int),o,ds,now,pr,st,wi,T) v).ev) (n:=o.length) (λa (c:Int)=>(c,(a:Int))) (λa c=>NXT now (λu=>C u\/(W.getD i 0<0/\∃b,b<a/\u=dA ds i b)) c) (λc=>NXT now (λu=>C u\/(W.getD i 0<0/\∃a,a<o.length/\u=dA ds i a)) c) (s0:=x)
  (hx.eqv λu=>⟨.inl,λh=>h.elim id λ⟨_,b,hb,_⟩=>absurd hb (by omega)⟩)
  (λa c ha hc=>by
   left;have hr:=hf.rowLen i hi;have h2:=hf.at2 hi ha;have hlen:=hf.len;have e1:=s.st i hi;have aa:=s.sl;have e3:(ds.getD i []).getD a 0=at2 ds i a:=rfl;have e4:2520*at2 ds i a=dA ds i a:=XE _ _;by_cases c1:W.getD i 0<0
   ·rw[qc c1,xl]at e1;refine⟨nxt now c (dA ds i a),?_,(hc.add h0 (dA ds i a)).eqv λu=>?_⟩
    ·unfold nxt;by_cases c2:now<dA ds i a
     ·by_cases c3:c<0;·rw[qi ⟨c2,.inl c3⟩];simp(disch:=omega)only[EV,V8,ha,hi,hr,aa,e1,e3,e4,c2,c3];rfl
      ·by_cases c4:dA ds i a<c;·rw[qi ⟨c2,.inr c4⟩];simp(disch:=omega)only[EV,V8,ha,hi,hr,aa,e1,e3,e4,c2,c3,c4];rfl
       ·rw[qh λq=>by rcases q.2 with q|q;exact c3 q;exact c4 q];simp(disch:=omega)only[EV,V8,ha,hi,hr,aa,e1,e3,e4,c2,c3,c4];rfl
     ·rw[qh λq=>c2 q.1];simp(disch:=omega)only[EV,V8,ha,hi,hr,aa,e1,e3,e4,c2];rfl
    ·constructor
     ·rintro((h|⟨_,b,hb,h⟩)|h);·exact .inl h
      ·exact .inr ⟨c1,b,by omega,h⟩
      ·exact .inr ⟨c1,a,by omega,h⟩
     ·rintro(h|⟨_,b,hb,h⟩);·exact .inl (.inl h)
      ·by_cases e:b=a;·subst e;exact .inr h
       ·exact .inl (.inr ⟨c1,b,by omega,h⟩)
   ·rw[qd c1,nE]at e1;refine⟨c,?_,hc.eqv λu=>⟨λh=>h.imp id λh=>absurd h.1 c1,λh=>h.imp id λh=>absurd h.1 c1⟩⟩;simp(disch:=omega)only[EV,V8,ha,hi,hr,aa,e1];rfl)
  (λc hc=>⟨c,by simp(disch:=omega)only[EV,V8,xi],hc⟩)
 exact⟨r,k1,k2⟩
theorem DU(hf:Fld o ds)(h0:0<=now){P W pr wi:List Int}{st:List Bool}(s:SG ds P W pr st wi)(T:List Int):
  ∃x,aEk o ds now pr st wi T=some x/\NXT now (λu=>∃i,i<ds.length/\W.getD i 0<0/\∃a,a<o.length/\u=dA ds i a) x:=by
 obtain⟨r,k1,k2⟩:=aL (f:=λv=>(Ys (o,ds,now,pr,st,wi,T) v).ev) (n:=ds.length) (λi (c:Int)=>(c,(i:Int))) (λi c=>NXT now (λu=>∃j,j<i/\W.getD j 0<0/\∃a,a<o.length/\u=dA ds j a) c) (λc=>NXT now (λu=>∃i,i<ds.length/\W.getD i 0<0/\∃a,a<o.length/\u=dA ds i a) c) (s0:= -1)
  (.inl ⟨rfl,λu ⟨j,h,_⟩=>absurd h (by omega)⟩)
  (λi c hi hc=>by
   left;have hm:=hf.clients;obtain⟨y,e1,hy⟩:=Tn hf h0 s T hi hc;refine⟨y,by simp(disch:=omega)only[EV,Ys,hi,e1];rfl,hy.eqv λu=>?_⟩;constructor
   ·rintro(⟨j,hj,h⟩|h);·exact⟨j,by omega,h⟩
    ·exact⟨i,by omega,h⟩
   ·rintro⟨j,hj,h⟩;by_cases e:j=i;·subst e;exact .inr h
    ·exact .inl ⟨j,by omega,h⟩)
  (λc hc=>⟨c,by simp(disch:=omega)only[EV,Ys,xi],hc⟩)
 have aa:aKj (o,ds,now,pr,st,wi,T) ((-1:Int),(0:Int))=some r:=k1;refine⟨r,?_,k2⟩;unfold aEk aFz;rw[qn,aa,xc,qq]
end
section
variable {o:List Int}{ds:List (List Int)}{p tm w:List Int}{now:Int}
theorem KQ(hf:Fld o ds)(h:GI o ds p tm w now)(e:GE o ds p tm w now){pr wi:List Int}{st:List Bool}(s:SG ds (gP ds w p now) (gW o ds (gT o ds (gP ds w p now) tm now) w now) pr st wi):
  ∃y,aCy o ds now pr st wi (gT o ds (gP ds w p now) tm now)=some y/\NXT now (λu=>(∃i,i<ds.length/\(gW o ds (gT o ds (gP ds w p now) tm now) w now).getD i 0<0/\∃a,a<o.length/\u=dA ds i a)\/gC2 o ds (gP ds w p now) (gT o ds (gP ds w p now) tm now) (gW o ds (gT o ds (gP ds w p now) tm now) w now) now u) y:=by
 have hp:∀i,i<ds.length->0<=(gP ds w p now).getD i 0/\(gP ds w p now).getD i 0<=498960:=λi hi=>by have:=h.price hi;have:=h.n1;omega
 have ah:=h.n0;have av:=h.n1;have ae:=λa=>e.step hf h (a:=a);have ab:=λa (ha:a<o.length)=>h.tight (a:=a) ha;have aw:(gT o ds (gP ds w p now) tm now).length=o.length:=by simp[gT]
 have ak:(gP ds w p now).length=ds.length:=by simp[gP]
 have ad:CU now pr st wi (gT o ds (gP ds w p now) tm now)=some (gP ds w p now):=by
  rw[Dc hf s];refine congrArg some (mX (by simp[gP]) λi hi=>?_);have af:i<ds.length:=by omega
  rw[gG (w:=gW o ds (gT o ds (gP ds w p now) tm now) w now) af];split
  ·next hw=>exact((h.price af).2.2.2 (h.on af hw).1).symm
  ·rfl
 generalize gP ds w p now=P at*;generalize hT:gT o ds P tm now=T at*;generalize gW o ds T w now=W at*;obtain⟨x,k1,k2⟩:=DU hf ah s T;obtain⟨r,k3,k4,_⟩:=aL (f:=λv=>(U8 (o,ds,now,pr,st,wi,T,P) v).ev) (n:=o.length) (λa (c:Int)=>(c,(a:Int)))
  (λa c=>NXT now (λu=>(∃i,i<ds.length/\W.getD i 0<0/\∃a,a<o.length/\u=dA ds i a)\/∃b,b<a/\T.getD b 0<0/\0<aT ds W now b/\u=now+(lF o b-iZ ds P b+(aT ds W now b:Int) -1) / (aT ds W now b:Int)) c/\ -1<=c/\c<=1000000)
  (λc=>NXT now (λu=>(∃i,i<ds.length/\W.getD i 0<0/\∃a,a<o.length/\u=dA ds i a)\/gC2 o ds P T W now u) c/\ -1<=c/\c<=1000000) (s0:=x)
  ⟨k2.eqv λu=>⟨.inl,λh=>h.elim id λ⟨b,hb,_⟩=>absurd hb (by omega)⟩,by
   rcases k2 with⟨h1,_⟩|⟨⟨i,hi,_,a,ha,h1⟩,_,_⟩
   ·omega
   ·have:=wD hf hi ha;omega⟩
  (λa c ha ⟨hc,ai,aj⟩=>by
   left;have hlen:=hf.len;have ay:=hf.clients;have aa:a<T.length:=by omega
   have e1:=IT (now:=now) hf s T ha;have e2:=I3 hf ak hp ha;have al:=hf.cost a ha;have az:=U0 hf ha;obtain⟨g1,g2,_⟩:=lW hf (λi hi=>(hp i hi).2) ha ds.length (xm _);have g1:0<=iZ ds P a:=g1;have g2:iZ ds P a<=498960*(ds.length:Int):=g2;have e5:2520*o.getD a 0=lF o a:=XE _ _;have ba:aT ds W now a<=ds.length:=fE _ _;have hs:=ae a
   -- what stays as it bb
   have stay:¬(T.getD a 0<0/\0<aT ds W now a)->NXT now (λu=>(∃i,i<ds.length/\W.getD i 0<0/\∃a,a<o.length/\u=dA ds i a)\/∃b,b<a+1/\T.getD b 0<0/\0<aT ds W now b/\u=now+(lF o b-iZ ds P b+(aT ds W now b:Int) -1) / (aT ds W now b:Int)) c:=λao=>
    hc.eqv λu=>by
     constructor
     ·rintro(h|⟨b,hb,h⟩);·exact .inl h
      ·exact .inr ⟨b,by omega,h⟩
     ·rintro(h|⟨b,hb,h⟩);·exact .inl h
      ·by_cases e:b=a;·subst e;exact absurd ⟨h.1,h.2.1⟩ ao
       ·exact .inr ⟨b,by omega,h⟩
   by_cases c1:T.getD a 0<0
   ·by_cases c2:0<aT ds W now a
    ·obtain⟨d1,d2,d3⟩:=tE c2 (hs c2);have ar:=(ab a ha c1).2;obtain⟨d4,d5,_⟩:=yU (x:=lF o a-iZ ds P a) (by omega) c2;have h6:¬(aT ds W now a:Int)=0:=by omega
     have h7:(0:Int)<(aT ds W now a:Int):=by omega
     have e6:Int.tdiv (lF o a-iZ ds P a) (aT ds W now a:Int)=(lF o a-iZ ds P a+(aT ds W now a:Int) -1) / (aT ds W now a:Int):=by rw[xeo (by omega),d3]
     refine⟨nxt now c (now+(lF o a-iZ ds P a+(aT ds W now a:Int) -1) / (aT ds W now a:Int)),?_,(hc.add ah _).eqv λu=>?_,?_⟩
     ·generalize(lF o a-iZ ds P a+(aT ds W now a:Int) -1) / (aT ds W now a:Int)=q at*;generalize bc:(aT ds W now a:Int)=g at*;unfold nxt;by_cases c3:c<0;·rw[qi ⟨by omega,.inl c3⟩];simp(disch:=omega)only[EV,U8,ha,aa,e1,e2,c1,h7,c3,h6,e5,e6];rfl
      ·have hg:g<=7:=by omega
       have b1:g*(c-now)<=7*1000000:=by
        by_cases hx:0<=c-now;·exact Int.le_trans (xdj hg hx) (by omega)
        ·have:=xcj (show c-now<=0 by omega) (show 0<=g by omega);omega
       have b2: -(7*1000000)<=g*(c-now):=by have h1:=xcj (show-498960<=c-now by omega) (show 0<=g by omega);omega
       by_cases c4:now+q<c
       ·have c5:lF o a-iZ ds P a<g*(c-now):=by rw[<-d2];exact Int.mul_lt_mul_of_pos_left (by omega) h7
        rw[qi ⟨by omega,.inr c4⟩];simp(disch:=omega)only[EV,U8,ha,aa,e1,e2,c1,h7,c3,h6,e5,e6,c5];rfl
       ·have c5:¬lF o a-iZ ds P a<g*(c-now):=by rw[<-d2];have:=xcj (show c-now<=q by omega) (show 0<=g by omega);omega
        rw[qh λz=>by rcases z.2 with z|z;exact c3 z;exact c4 z];simp(disch:=omega)only[EV,U8,ha,aa,e1,e2,c1,h7,c3,h6,e5,e6,c5];rfl
     ·constructor
      ·rintro((h|⟨b,hb,h⟩)|h);·exact .inl h
       ·exact .inr ⟨b,by omega,h⟩
       ·exact .inr ⟨a,by omega,c1,c2,h⟩
      ·rintro(h|⟨b,hb,h⟩);·exact .inl (.inl h)
       ·by_cases e:b=a;·subst e;exact .inr h.2.2
        ·exact .inl (.inr ⟨b,by omega,h⟩)
     ·unfold nxt;split<;>omega
    ·refine⟨c,?_,stay λh=>c2 h.2,ai,aj⟩;have h7:¬(0:Int)<(aT ds W now a:Int):=by omega
     simp(disch:=omega)only[EV,U8,ha,aa,e1,e2,c1,h7];rfl
   ·refine⟨c,?_,stay λh=>c1 h.1,ai,aj⟩;simp(disch:=omega)only[EV,U8,ha,aa,e1,e2,c1];rfl)
  (λc ⟨hc,hb⟩=>⟨c,by simp(disch:=omega)only[EV,U8,xi],hc.eqv λu=>⟨λh=>h.imp id λ⟨b,hb,q⟩=>⟨b,hb,q⟩,λh=>h.imp id λ⟨b,hb,q⟩=>⟨b,hb,q⟩⟩,hb⟩)
 have au:aHq (o,ds,now,pr,st,wi,T,P) (x,(0:Int))=some r:=k3;refine⟨r,?_,k4⟩;unfold aCy aEY;rw[qn,k1,xc,qn,ad,xc,qn,au,xc,qq]
theorem Bw(hf:Fld o ds)(k:(List (Int))×(List (List (Int)))×(Int)×(List (Int))×(List (Int))×(List (Int)))(e1:(Aw ((ds.length:Int),o,ds) (now,p,tm,w)).ev=some (.inr (eZ o ds (now,p,tm,w))))(e2:∀i,i<ds.length->¬(eZ o ds (now,p,tm,w)).2.2.getD i 0<0):
  ∃g,DB ((ds.length:Int),o,ds) (now,p,tm,w)=some g/\∀{pr wi:List Int} {st:List Bool},SG ds (gP ds w p now) (gW o ds (gT o ds (gP ds w p now) tm now) w now) pr st wi->
   ∃nw ab ad,MQ k (now,pr,st,wi,gT o ds (gP ds w p now) tm now)=some (nw,g.1,ab,ad,g.2.1):=by
 refine⟨eZ o ds (now,p,tm,w),iter_some.2 ⟨1,by simp only[gU,e1]⟩,λ{pr wi st} s=>?_⟩;have aa:((List.range ds.length).all λi=> !decide ((gW o ds (gT o ds (gP ds w p now) tm now) w now).getD i 0<0))=true:=xt.2 λi hi=>by have:¬(gW o ds (gT o ds (gP ds w p now) tm now) w now).getD i 0<0:=e2 i (xar.1 hi);rw[qd this];rfl
 have em:=P0 (now:=now) hf s (gT o ds (gP ds w p now) tm now);rw[aa,xl]at em;have ae:pr=gP ds w p now:=mX (by rw[s.pl];simp[gP]) λi hi=>s.pr i (by simpa[gP]using hi) (e2 i (by simpa[gP]using hi));refine⟨now,st,wi,iter_some.2 ⟨1,?_⟩⟩;have es:(Ue k (now,pr,st,wi,gT o ds (gP ds w p now) tm now)).ev=some (.inr (now,pr,st,wi,gT o ds (gP ds w p now) tm now)):=by unfold Ue;rw[qn,em,xc,qo,qb,qq]
 simp only[gU,es];rw[ae];rfl
theorem GS(hf:Fld o ds)(k:(List (Int))×(List (List (Int)))×(Int)×(List (Int))×(List (Int))×(List (Int)))(ai:k.1=o)(aj:k.2.1=ds):∀(n:Nat) {p tm w:List Int} {now:Int},gM o ds p tm w now<=n->GI o ds p tm w now->GE o ds p tm w now->
  ∃g,DB ((ds.length:Int),o,ds) (now,p,tm,w)=some g/\∀{pr wi:List Int} {st:List Bool},SG ds (gP ds w p now) (gW o ds (gT o ds (gP ds w p now) tm now) w now) pr st wi->
   ∃nw aa ab,MQ k (now,pr,st,wi,gT o ds (gP ds w p now) tm now)=some (nw,g.1,aa,ab,g.2.1):=by
 intro n;induction n with
 |zero=>
  intro p tm w now hn h e;rcases sK hf h with⟨t,e1,e2,_,_⟩|⟨e1,e2⟩
  ·have:=(h.next hf e2).2;omega
  ·exact Bw hf k e1 e2
 |succ n ih=>
  intro p tm w now hn h e;rcases sK hf h with⟨t,e1,e2,e3,i0,ak,al⟩|⟨e1,e2⟩
  ·have ad:=h.next hf e2;have ae:=e.next hf h e2 e3;obtain⟨g,r1,r2⟩:=ih (by have:=ad.2;omega) ad.1 ae;refine⟨g,?_,λ{pr wi st} s=>?_⟩;·unfold DB;rw[aE,e1];exact r1
   ·have af:((List.range ds.length).all λi=> !decide ((gW o ds (gT o ds (gP ds w p now) tm now) w now).getD i 0<0))=false:=by rw[xen];intro hq;have:=xt.1 hq i0 (xar.2 ak);have ao:(gW o ds (gT o ds (gP ds w p now) tm now) w now).getD i0 0<0:=al;rw[qc ao]at this;cases this
    have em:=P0 (now:=now) hf s (gT o ds (gP ds w p now) tm now);rw[af,nE]at em;obtain⟨y,s1,s2⟩:=KQ hf h e s;have hy:y=t:=by
     have hl:=(h.later hf e2).1;have ah:∀u,gC o ds (gP ds w p now) (gT o ds (gP ds w p now) tm now) (gW o ds (gT o ds (gP ds w p now) tm now) w now) now u->(∃i,i<ds.length/\(gW o ds (gT o ds (gP ds w p now) tm now) w now).getD i 0<0/\∃a,a<o.length/\u=dA ds i a)\/gC2 o ds (gP ds w p now) (gT o ds (gP ds w p now) tm now) (gW o ds (gT o ds (gP ds w p now) tm now) w now) now u:=by
      rintro u (⟨i,hi,a,ha,h1,_,h2⟩|h1);·exact .inl ⟨i,hi,h1,a,ha,h2⟩
      ·exact .inr h1
     rcases s2 with⟨_,s2⟩|⟨s2,s3,s4⟩
     ·exact absurd hl (s2 t (ah t e2))
     ·have ar:gC o ds (gP ds w p now) (gT o ds (gP ds w p now) tm now) (gW o ds (gT o ds (gP ds w p now) tm now) w now) now y:=by
       rcases s2 with⟨i,hi,h1,a,ha,h2⟩|h1;·exact .inl ⟨i,hi,a,ha,h1,by omega,h2⟩
       ·exact .inr h1
      have:=e3 y ar;have:=s4 t (ah t e2) hl;omega
    subst hy;obtain⟨au,aa,ab,q1,q2⟩:=I9 hf ad.1 ae s;obtain⟨nw,av,aw,q3⟩:=r2 q2;refine⟨nw,av,aw,?_⟩;have es:(Ue k (now,pr,st,wi,gT o ds (gP ds w p now) tm now)).ev=some (.inl (y,au,aa,ab,gT o ds (gP ds (gW o ds (gT o ds (gP ds w p now) tm now) w now) (gP ds w p now) y) (gT o ds (gP ds w p now) tm now) y)):=by unfold Ue;rw[qn,em,xc,qo,qa,qn,ai,aj,s1,xc,qn,q1,xc,qq]
    unfold MQ;rw[aE,es];exact q3
  ·exact Bw hf k e1 e2
theorem Hr(hf:Fld o ds){g:List Int×(List Int×List Int)}(hg:En o ds=some g):∃nw st wi,aAN o ds=some (nw,g.1,st,wi,g.2.1):=by
 have hlen:=hf.len;have ak:=hf.clients;have rep:∀(n:Nat) (x:Int) (i:Nat),i<n->(List.replicate n x).getD i 0=x:=λn x i hi=>by rw[xd,xco,qi hi];rfl
 have aa:=GI.begin hf;have ab:=GE.begin hf;obtain⟨r,k1,k2⟩:=GS hf (o,ds,(0:Int),([]:List Int),([]:List Int),([]:List Int)) rfl rfl _ (xm _) aa ab
 -- the same ae
 have er:r=g:=by
  have rp:∀n:Nat,n<=1000->Uv [(-1:Int)] (n:Int)=some (List.replicate n (-1)):=λn hn=>by unfold Uv;exact xH (by omega) (-1)
  have r1:=rp o.length (by omega);have r2:=rp ds.length (by omega);have e1:(0:Int)<=(ds.length:Int):=by omega
  have e2:((8:Nat):Int)*(ds.length:Int)<=281474976710656:=by omega
  have:En o ds=some r:=by unfold En NA;simp(disch:=omega)only[EV,e1,e2,zG,r1,r2,k1]
  rw[hg]at this;exact(zB this).symm
 subst er;have af:SG ds (List.replicate ds.length 0) (List.replicate ds.length (-1)) (List.replicate ds.length 0) (List.replicate ds.length false) (List.replicate ds.length 0):=
  ⟨by simp,by simp,by simp,λi hi=>by rw[rep _ _ i hi,xd,xco,qi hi];rfl,λi hi h=>absurd (show(List.replicate ds.length (-1:Int)).getD i 0<0 from by rw[rep _ _ i hi];omega) h⟩
 obtain⟨pr,st,wi,s1,s2⟩:=I9 hf aa ab af;obtain⟨nw,ah,ai,s3⟩:=k2 s2;have aj:aLE (o,ds,(0:Int),(0:Int),([]:List (Int)),([]:List (Int)),([]:List (Int)),List.replicate ds.length (0:Int),List.replicate ds.length false,List.replicate ds.length (0:Int)) ((0:Int),([]:List Int))=some (List.replicate o.length (-1)):=by
  have:=iP (f:=λv=>(IE (o,ds,(0:Int),(0:Int),([]:List (Int)),([]:List (Int)),([]:List (Int)),List.replicate ds.length (0:Int),List.replicate ds.length false,List.replicate ds.length (0:Int)) v).ev) (n:=o.length) (mk:=λk (l:List Int)=>((k:Int),l)) (λ_=>(-1:Int)) (λl=>l)
   (λi l hi hl=>by
    have ad:∀x:Int,List.length [x]=1:=λ_=>rfl;have hb:(l.length+1)*8<=140737488355328:=by omega
    simp(disch:=omega)only[EV,IE,hi,ad,hb];rfl)
   (λl _=>by simp(disch:=omega)only[EV,IE,xi])
  rw[show(List.range o.length).map (λ_=>(-1:Int))=List.replicate o.length (-1)from by simp[List.map_const']]at this;exact this
 refine⟨nw,ah,ai,?_⟩;have e1:(0:Int)<=((ds.length:Nat):Int):=by omega
 have e2:((8:Nat):Int)*((ds.length:Nat):Int)<=281474976710656:=by omega
 have e3:((1:Nat):Int)*((ds.length:Nat):Int)<=281474976710656:=by omega
 unfold aAN aEB;rw[qp,qc e1,qc (zG _),qc e2,JL,JL,qa,qp,qc e3,JL,qa,qp,qa,xx,qn,aj,xc,qn,s1,xc,qn,s3,xc,qq]
theorem KG{K:Int->Int}(x:Int)(l:List Int):l.take ((l.findIdx? λy=> !decide (K y<=K x)).elim l.length id)++x::l.drop ((l.findIdx? λy=> !decide (K y<=K x)).elim l.length id)=gV K x l:=N8 x l
theorem N7(t:List Int):∀n:Nat,(List.range n).foldl (λacc a=>if 0<=t.getD a 0 then gV (λx=>t.getD x.toNat 0) (a:Int) acc else acc) []=dL (λx=>t.getD x.toNat 0) ((List.range n).foldl (λacc a=>if 0<=t.getD a 0 then acc++ [(a:Int)]else acc) [])
 |0=>rfl
 |n+1=>by
  rw[aU,aU,N7 t n];split;·rw[o6]
  ·rfl
theorem HK{T acc:List Int}{a:Nat}(ha:a<T.length)(aa:∀x∈acc,0<=x/\x<(a:Int))(hl:acc.length<=1000)(nw:Int)(pr wi:List Int)(st:List Bool):
  aCs (acc,(a:Int),nw,pr,st,wi,T) (0:Int)=some (((acc.findIdx? λy=> !decide (T.getD y.toNat 0<=T.getD a 0)).elim acc.length id:Nat):Int):=by
 have key:=fX (f:=λv=>(Sw (acc,(a:Int),nw,pr,st,wi,T) v).ev) (l:=acc) 0 (λy=> !decide (T.getD y.toNat 0<=T.getD a 0)) (mk:=λi=>(i:Int)) (yes:=λi=>(i:Int)) (no:=((acc.length:Nat):Int))
  (λi hi=>by
   have hm:=aa _ (aG (d:=0) hi);have e1:=C3 (T:=T) (a:=(a:Int)) (b:=acc.getD i 0) (by omega) (by omega) (by omega) nw pr st wi;rw[xx]at e1;by_cases c:T.getD (acc.getD i 0).toNat 0<=T.getD a 0;·rw[qd (by omega)]at e1;rw[qc c,xl,qb];simp(disch:=omega)only[EV,Sw,hi,e1];rfl
   ·rw[qc (by omega)]at e1;rw[qd c,nE,qa];simp(disch:=omega)only[EV,Sw,hi,e1])
  (by simp(disch:=omega)only[EV,Sw,xi])
 have k1:aCs (acc,(a:Int),nw,pr,st,wi,T) (0:Int)=some ((acc.findIdx? λy=> !decide (T.getD y.toNat 0<=T.getD a 0)).elim ((acc.length:Nat):Int) λi=>(i:Int)):=key;rw[k1];cases acc.findIdx? λy=> !decide (T.getD y.toNat 0<=T.getD a 0)<;>rfl
theorem EX{T:List Int}(ht:T.length<=7)(nw:Int)(pr wi:List Int)(st:List Bool):aFq nw pr st wi T=some (dL (λx=>T.getD x.toNat 0) (gO T)):=by
 have key:=(aR (f:=λv=>(Sl (nw,pr,st,wi,T) v).ev) (n:=T.length) (mk:=λi (acc:List Int)=>(acc,(i:Int))) (I:=λi acc=>(∀x∈acc,0<=x/\x<(i:Int))/\acc.length<=i) (g:=λacc a=>if 0<=T.getD a 0 then gV (λx=>T.getD x.toNat 0) (a:Int) acc else acc) (fin:=λacc=>acc) (s0:=[])
  ⟨λx h=>(by cases h),xm _⟩
  (λa acc ha ⟨h1,h2⟩=>by
   by_cases c:0<=T.getD a 0
   ·have e1:=HK ha h1 (by omega) nw pr wi st;have e2:=KG (K:=λx=>T.getD x.toNat 0) (a:Int) acc;simp only[xx]at e2;have hk:((acc.findIdx? λy=> !decide (T.getD y.toNat 0<=T.getD a 0)).elim acc.length id:Nat)<=acc.length:=by
     cases hf:acc.findIdx? λy=> !decide (T.getD y.toNat 0<=T.getD a 0)with
     |none=>exact xm _
     |some j=>obtain⟨hj,_⟩:=xdb.1 hf;exact Nat.le_of_lt hj
    generalize((acc.findIdx? λy=> !decide (T.getD y.toNat 0<=T.getD a 0)).elim acc.length id:Nat)=k at e1 e2 hk;have hp:=qK (K:=λx=>T.getD x.toNat 0) (a:Int) acc;have ab:=hp.length_eq;rw[xk]at ab;simp only[qi c];refine⟨?_,λx hx=>?_,by rw[ab];omega⟩
    ·have aa:∀x:Int,List.length [x]=1:=λ_=>rfl;have ad:(List.take k acc).length=k:=by rw[xw];omega
     have ae:pY (List.take k acc)=some (List.take k acc):=jR (by omega);have g1:(0:Int)<=(k:Int):=by omega
     have g2:(k:Int)<=((acc.length:Nat):Int):=by omega
     have g3:(k+1)*8<=140737488355328:=by omega
     have af:(List.drop k (List.take acc.length acc)).length=acc.length-k:=by rw[sX,tH]
     have g4:((List.take k acc++ [(a:Int)]).length+(acc.length-k))*8<=140737488355328:=by rw[xj,aa,ad];omega
     have ah:¬T.getD a 0<0:=by omega
     unfold Sl;dsimp only;rw[qo,qc (show(a:Int)<((T.length:Nat):Int) by omega),qa,qp,show aC (a:Int) T.length=true from eA ha,qa,xx,qo,qd ah,qb,qn,e1,xc,qp,qc g1,qc g2,JL,qa,xx,Ri,qn,ae,xc,qp,aa,ad,qc g3,qa,qp,qa,qp,af,qc g4,qa,qq,sX,<-e2,aN (by omega) (by omega)];simp
    ·rcases xae.1 (hp.mem_iff.1 hx)with rfl|hx;·omega
     ·have:=h1 x hx;omega
   ·simp only[qh c];refine⟨?_,λx hx=>by have:=h1 x hx;omega,by omega⟩;have c':T.getD a 0<0:=by omega
    simp(disch:=omega)only[EV,Sl,ha,c'];rfl)
  (λacc _=>by simp(disch:=omega)only[EV,Sl,xi])).1
 have k1:aJn (nw,pr,st,wi,T) (([]:List Int),(0:Int))=some ((List.range T.length).foldl (λacc a=>if 0<=T.getD a 0 then gV (λx=>T.getD x.toNat 0) (a:Int) acc else acc) []):=key;unfold aFq aAL gO;rw[qn,k1,xc,qq,N7]
theorem R5(hf:Fld o ds){pr T:List Int}(hp:pr.length=ds.length)(ht:T.length=o.length){a b:Nat}(ha:a<o.length)(hb:b<o.length)(aa:0<=T.getD a 0)(ab:0<=T.getD b 0)(nw:Int)(st:List Bool)(wi:List Int):aGs o ds nw pr st wi T (a:Int) (b:Int)=some (iX ds pr a b):=by
 have af:=hf.clients;have hlen:=hf.len;have key:=bB (f:=λv=>(Gm ((a:Int),(b:Int),o,ds,nw,pr,st,wi,T) v).ev) (n:=ds.length) (λi=>(i:Int)) (λi=> !(decide (dA ds i a<pr.getD i 0)&&decide (dA ds i b<pr.getD i 0))) (.inl ():Unit⊕Bool) (.inr true)
  (λi hi _=>by
   have hr:=hf.rowLen i hi;have h1:=hf.at2 hi ha;have h2:=hf.at2 hi hb;have ad:a<T.length:=by omega
   have ae:b<T.length:=by omega
   have e1:(ds.getD i []).getD a 0=at2 ds i a:=rfl;have e2:(ds.getD i []).getD b 0=at2 ds i b:=rfl;have e3:2520*at2 ds i a=dA ds i a:=XE _ _;have e4:2520*at2 ds i b=dA ds i b:=XE _ _;by_cases c1:dA ds i a<pr.getD i 0
   ·by_cases c2:dA ds i b<pr.getD i 0;·simp(disch:=omega)only[EV,Gm,hi,hp,hr,ha,hb,ad,ae,e1,e2,e3,e4,c1,c2,aa,ab]
    ·simp(disch:=omega)only[EV,Gm,hi,hp,hr,ha,hb,e1,e2,e3,e4,c1,c2];rfl
   ·simp(disch:=omega)only[EV,Gm,hi,hp,hr,ha,e1,e3,c1];rfl)
  (by simp(disch:=omega)only[EV,Gm,xi])
 have k1:aIw ((a:Int),(b:Int),o,ds,nw,pr,st,wi,T) (0:Int)=some (bif (List.range ds.length).all λi=> !(decide (dA ds i a<pr.getD i 0)&&decide (dA ds i b<pr.getD i 0))then .inl ()else .inr true):=key;unfold aGs aAV iX;rw[qn,k1,xc];cases(List.range ds.length).all λi=> !(decide (dA ds i a<pr.getD i 0)&&decide (dA ds i b<pr.getD i 0))<;>rfl
theorem DR{l m:List Int}(h:∀x,x∈l↔x∈m)(q:Int->Bool):l.any q=m.any q:=by rw[JN,xbg,xbg];exact⟨λ⟨x,h1,h2⟩=>⟨x,(h x).1 h1,h2⟩,λ⟨x,h1,h2⟩=>⟨x,(h x).2 h1,h2⟩⟩
theorem H0(t:List Int):∀n:Nat,∀x∈(List.range n).foldl (λacc a=>if 0<=t.getD a 0 then acc++ [(a:Int)]else acc) [],0<=t.getD x.toNat 0
 |0=>λx h=>(by cases h)
 |n+1=>by
  have ih:=H0 t n;rw[aU];split
  ·next h=>
   intro x hx;rcases xp.1 hx with hx|hx;·exact ih x hx
   ·rw[xo.1 hx];exact h
  ·exact ih
theorem Ws(hf:Fld o ds){pr T:List Int}(hp:pr.length=ds.length)(ht:T.length=o.length)(nw:Int)(st:List Bool)(wi:List Int){l:List Int}(hl:∀x∈l,(0<=x/\x<(o.length:Int))/\0<=T.getD x.toNat 0)(al:l.length<=7)(aj:l.Nodup):
  aHW (l,o,ds,nw,pr,st,wi,T) (([]:List Int),(0:Int))=some (dM (jK ds pr l)):=by
 have hlen:=hf.len;have key:=aL (f:=λv=>(Vr (l,o,ds,nw,pr,st,wi,T) v).ev) (n:=l.length) (λi (acc:List Int)=>(acc,(i:Int))) (λi acc=>acc=dM (jK ds pr (l.take i))) (λr=>r=dM (jK ds pr l)) (s0:=[]) (by simp[jK,dM])
  (λi acc hi aa=>by
   left;have hx:=hl _ (aG (d:=0) hi);have af:l.take (i+1)=l.take i++ [l.getD i 0]:=by rw[Wk hi,xd,xh hi];rfl
   have ad:=wX ds pr (l.take i);obtain⟨_,s2,s3⟩:=wP (jK ds pr (l.take i));have ao:acc.length<=i:=by rw[aa,s2];have:=ad.length_le;rw[xw]at this;omega
   have ah:∀y∈acc,(0<=y/\y<(o.length:Int))/\0<=T.getD y.toNat 0:=λy hy=>hl y (Wi (ad.subset ((s3 y).1 (by rw[aa]at hy;exact hy))));have ai:l.getD i 0∉acc:=λhy=>by have h1:l.getD i 0∈l.take i:=ad.subset ((s3 _).1 (by rw[aa]at hy;exact hy));have h2:(l.take (i+1)).Nodup:=aj.sublist (List.take_sublist _ _);rw[af,List.nodup_append]at h2;exact h2.2.2 _ h1 _ (xo.2 rfl) rfl
   -- the inner rounds
   have e1:aKY (l,acc,(i:Int),o,ds,nw,pr,st,wi,T) (true,(0:Int))=some (!acc.any λb=>iX ds pr (l.getD i 0).toNat b.toNat):=by
    have k:=aL (f:=λv=>(Pf (l,acc,(i:Int),o,ds,nw,pr,st,wi,T) v).ev) (n:=acc.length) (λj (c:Bool)=>(c,(j:Int))) (λj c=>c= !(acc.take j).any λb=>iX ds pr (l.getD i 0).toNat b.toNat) (λr=>r= !acc.any λb=>iX ds pr (l.getD i 0).toNat b.toNat) (s0:=true) rfl
     (λj c hj hc=>by
      left;have hb:=ah _ (aG (d:=0) hj);have ak:acc.take (j+1)=acc.take j++ [acc.getD j 0]:=by rw[Wk hj,xd,xh hj];rfl
      have ec:=R5 hf hp ht (a:=(l.getD i 0).toNat) (b:=(acc.getD j 0).toNat) (by omega) (by omega) hx.2 hb.2 nw st wi;rw[xea hx.1.1,xea hb.1.1]at ec;refine⟨c&& !iX ds pr (l.getD i 0).toNat (acc.getD j 0).toNat,?_,?_⟩
      ·cases c with
       |true=>simp(disch:=omega)only[EV,Pf,hj,hi,ec];rfl
       |false=>simp(disch:=omega)only[EV,Pf,hj];rfl
      ·rw[ak,hc];simp[xhb])
     (λc hc=>⟨c,by simp(disch:=omega)only[EV,Pf,xi],by rw[hc,sX]⟩)
    obtain⟨r,k1,k2⟩:=k;rw[<-k2];exact k1
   have ab:(acc.any λb=>iX ds pr (l.getD i 0).toNat b.toNat)=(jK ds pr (l.take i)).any λb=>iX ds pr (l.getD i 0).toNat b.toNat:=DR (λx=>by rw[aa];exact s3 x) _;have ae:jK ds pr (l.take (i+1))=if(jK ds pr (l.take i)).any (λb=>iX ds pr (l.getD i 0).toNat b.toNat)then jK ds pr (l.take i)else jK ds pr (l.take i)++ [l.getD i 0]:=by rw[af];unfold jK;rw[JW];rfl
   cases hq:acc.any λb=>iX ds pr (l.getD i 0).toNat b.toNat with
   |true=>
    rw[hq]at e1 ab;rw[xl]at e1;refine⟨acc,?_,?_⟩;·simp(disch:=omega)only[EV,Vr,hi,e1];rfl
    ·rw[ae,<-ab,qi rfl];exact aa
   |false=>
    rw[hq]at e1 ab;rw[nE]at e1;have e2:=qD (l:=acc) (x:=l.getD i 0) (by omega) ai;refine⟨ins (l.getD i 0) acc,?_,?_⟩;·simp(disch:=omega)only[EV,Vr,hi,e1,e2];rfl
    ·rw[ae,<-ab,qh (by simp),s6,<-aa])
  (λacc aa=>⟨acc,by simp(disch:=omega)only[EV,Vr,xi],by rw[aa,sX]⟩)
 obtain⟨r,k1,k2⟩:=key;rw[<-k2];exact k1
theorem yC(hf:Fld o ds)(hv:uO o ds=some true){g:List Int×(List Int×List Int)}(aa:GR o ds g)(hg:En o ds=some g)(h0:0<ds.length):We o ds=some (rE ds g,true):=by obtain⟨nw,st,wi,e1⟩:=Hr hf hg;have hlen:=hf.len;have ae:=aa.tl;have e2:=EX (T:=g.2.1) (by omega) nw g.1 wi st;obtain⟨r1,r2,r3⟩:=uZ g.2.1 g.2.1.length;have hs:=(qY (K:=λx=>g.2.1.getD x.toNat 0) (gO g.2.1)).2;have ad:(dL (λx=>g.2.1.getD x.toNat 0) (gO g.2.1)).Nodup:=hs.nodup_iff.2 (r2.imp λh e=>by omega);have ab:=H0 g.2.1 g.2.1.length;have e3:=Ws hf aa.pl aa.tl nw st wi (l:=dL (λx=>g.2.1.getD x.toNat 0) (gO g.2.1)) (λx hx=>by have hm:x∈gO g.2.1:=hs.mem_iff.1 hx;have:=r1 x hm;exact⟨by omega,ab x hm⟩) (by rw[hs.length_eq];have af:(gO g.2.1).length<=g.2.1.length:=r3;omega) ad;have hd:((((ds.length:Nat):Int))==0)=false:=beq_eq_false_iff_ne.2 (by omega);unfold We PJ rE;rw[qn,hv,xc,qo,xl,qb,qo,hd,qb,qn,e1,xc,qn,e2,xc,qn,e3,xc,qq]
end
end Go.Proofs.YtjiljcblmgeioaaGreatDoor
