/- A part of the proof that FnConsole hands back true, at every argument of the row. -/
import Derived.Test.YtjiljcblmgeioaaGreatDoorP46
namespace Go.Proofs.YtjiljcblmgeioaaGreatDoor
set_option linter.all false
def HG(x:List Nat×List (List Int)):Prop:=∀i∈x.1,i<x.2.length
def aN:Nat->List (List Int)
 |1=>[[0]]
 |2=>[[0],[1],[0,1]]
 |3=>[[0],[1],[2],[0,1],[0,2],[1,2],[0,1,2]]
 |4=>[[0],[1],[2],[3],[0,1],[0,2],[0,3],[1,2],[1,3],[2,3],[0,1,2],[0,1,3],[0,2,3],[1,2,3],[0,1,2,3]]
 |5=>[[0],[1],[2],[3],[4],[0,1],[0,2],[0,3],[0,4],[1,2],[1,3],[1,4],[2,3],[2,4],[3,4],[0,1,2],[0,1,3],[0,1,4],[0,2,3],[0,2,4],[0,3,4],[1,2,3],[1,2,4],[1,3,4],[2,3,4],[0,1,2,3],[0,1,2,4],[0,1,3,4],[0,2,3,4],[1,2,3,4],[0,1,2,3,4]]
 |6=>[[0],[1],[2],[3],[4],[5],[0,1],[0,2],[0,3],[0,4],[0,5],[1,2],[1,3],[1,4],[1,5],[2,3],[2,4],[2,5],[3,4],[3,5],[4,5],[0,1,2],[0,1,3],[0,1,4],[0,1,5],[0,2,3],[0,2,4],[0,2,5],[0,3,4],[0,3,5],[0,4,5],[1,2,3],[1,2,4],[1,2,5],[1,3,4],[1,3,5],[1,4,5],[2,3,4],[2,3,5],[2,4,5],[3,4,5],[0,1,2,3],[0,1,2,4],[0,1,2,5],[0,1,3,4],[0,1,3,5],[0,1,4,5],[0,2,3,4],[0,2,3,5],[0,2,4,5],[0,3,4,5],[1,2,3,4],[1,2,3,5],[1,2,4,5],[1,3,4,5],[2,3,4,5],[0,1,2,3,4],[0,1,2,3,5],[0,1,2,4,5],[0,1,3,4,5],[0,2,3,4,5],[1,2,3,4,5],[0,1,2,3,4,5]]
 |7=>[[0],[1],[2],[3],[4],[5],[6],[0,1],[0,2],[0,3],[0,4],[0,5],[0,6],[1,2],[1,3],[1,4],[1,5],[1,6],[2,3],[2,4],[2,5],[2,6],[3,4],[3,5],[3,6],[4,5],[4,6],[5,6],[0,1,2],[0,1,3],[0,1,4],[0,1,5],[0,1,6],[0,2,3],[0,2,4],[0,2,5],[0,2,6],[0,3,4],[0,3,5],[0,3,6],[0,4,5],[0,4,6],[0,5,6],[1,2,3],[1,2,4],[1,2,5],[1,2,6],[1,3,4],[1,3,5],[1,3,6],[1,4,5],[1,4,6],[1,5,6],[2,3,4],[2,3,5],[2,3,6],[2,4,5],[2,4,6],[2,5,6],[3,4,5],[3,4,6],[3,5,6],[4,5,6],[0,1,2,3],[0,1,2,4],[0,1,2,5],[0,1,2,6],[0,1,3,4],[0,1,3,5],[0,1,3,6],[0,1,4,5],[0,1,4,6],[0,1,5,6],[0,2,3,4],[0,2,3,5],[0,2,3,6],[0,2,4,5],[0,2,4,6],[0,2,5,6],[0,3,4,5],[0,3,4,6],[0,3,5,6],[0,4,5,6],[1,2,3,4],[1,2,3,5],[1,2,3,6],[1,2,4,5],[1,2,4,6],[1,2,5,6],[1,3,4,5],[1,3,4,6],[1,3,5,6],[1,4,5,6],[2,3,4,5],[2,3,4,6],[2,3,5,6],[2,4,5,6],[3,4,5,6],[0,1,2,3,4],[0,1,2,3,5],[0,1,2,3,6],[0,1,2,4,5],[0,1,2,4,6],[0,1,2,5,6],[0,1,3,4,5],[0,1,3,4,6],[0,1,3,5,6],[0,1,4,5,6],[0,2,3,4,5],[0,2,3,4,6],[0,2,3,5,6],[0,2,4,5,6],[0,3,4,5,6],[1,2,3,4,5],[1,2,3,4,6],[1,2,3,5,6],[1,2,4,5,6],[1,3,4,5,6],[2,3,4,5,6],[0,1,2,3,4,5],[0,1,2,3,4,6],[0,1,2,3,5,6],[0,1,2,4,5,6],[0,1,3,4,5,6],[0,2,3,4,5,6],[1,2,3,4,5,6],[0,1,2,3,4,5,6]]
 |_=>[]
noncomputable def Q7(n:Nat):Bool:=match Rq (n:Int)with
 |some x=>x.1.all (λi=>Nat.blt i x.2.length)&&(bH x.1 x.2==aN n)
 |none=>false
noncomputable def U1(n:Nat):Bool:=Zg (n:Int)==some (aN n)
def W7(n:Nat):Bool:=(aN n).all (λs=>cN s 0 ((n:Int) -1)&&Nat.blt 0 s.length&&Nat.ble s.length 7)&&Nat.beq ((aN n).length+1) (2^n)
theorem aFu:W7 1=true:=by kernel_rfl
theorem aEe:W7 2=true:=by kernel_rfl
theorem aEE:W7 3=true:=by kernel_rfl
theorem aFj:W7 4=true:=by kernel_rfl
theorem aBR:W7 5=true:=by kernel_rfl
theorem aBv:W7 6=true:=by kernel_rfl
theorem YK:W7 7=true:=by kernel_rfl
theorem PQ:∀n:Nat,1<=n->n<=7->W7 n=true
 |1,_,_=>aFu
 |2,_,_=>aEe
 |3,_,_=>aEE
 |4,_,_=>aFj
 |5,_,_=>aBR
 |6,_,_=>aBv
 |7,_,_=>YK
 |0,h,_=>by omega
 |n+8,_,h=>by omega
theorem aBJ:U1 1=true:=by kernel_rfl
theorem YR:U1 2=true:=by kernel_rfl
theorem aCd:U1 3=true:=by kernel_rfl
theorem aDs:U1 4=true:=by kernel_rfl
theorem YX:U1 5=true:=by kernel_rfl
theorem aEi:U1 6=true:=by kernel_rfl
theorem XY:U1 7=true:=by kernel_rfl
theorem aBa:∀n:Nat,1<=n->n<=7->U1 n=true
 |1,_,_=>aBJ
 |2,_,_=>YR
 |3,_,_=>aCd
 |4,_,_=>aDs
 |5,_,_=>YX
 |6,_,_=>aEi
 |7,_,_=>XY
 |0,h,_=>by omega
 |n+8,_,h=>by omega
theorem aEY:Q7 1=true:=by kernel_rfl
theorem WZ:Q7 2=true:=by kernel_rfl
theorem aCz:Q7 3=true:=by kernel_rfl
theorem aDg:Q7 4=true:=by kernel_rfl
theorem aCK:Q7 5=true:=by kernel_rfl
theorem aAn:Q7 6=true:=by kernel_rfl
theorem aFC:Q7 7=true:=by kernel_rfl
theorem aAZ:∀n:Nat,1<=n->n<=7->Q7 n=true
 |1,_,_=>aEY
 |2,_,_=>WZ
 |3,_,_=>aCz
 |4,_,_=>aDg
 |5,_,_=>aCK
 |6,_,_=>aAn
 |7,_,_=>aFC
 |0,h,_=>by omega
 |n+8,_,h=>by omega
structure SetsP(n:Nat):Prop where
 im:∃x,Rq (n:Int)=some x/\HG x/\bH x.1 x.2=aN n
 sp:Zg (n:Int)=some (aN n)
 len:(aN n).length+1=2^n
 rising:∀s∈aN n,cN s 0 ((n:Int) -1)=true/\0<s.length/\s.length<=7
theorem pD{n:Nat}(h1:1<=n)(h2:n<=7):SetsP n:=by
 have c3:=PQ n h1 h2;simp only[W7,xg,xr]at c3;have hr:∀s∈aN n,cN s 0 ((n:Int) -1)=true/\0<s.length/\s.length<=7:=λs hs=>⟨(c3.1 s hs).1.1,by simpa using(c3.1 s hs).1.2,by simpa using(c3.1 s hs).2⟩
 have c2:=aBa n h1 h2;simp only[U1,qh]at c2;have aa:=c2;have c1:=aAZ n h1 h2;have hi:∃x,Rq (n:Int)=some x/\HG x/\bH x.1 x.2=aN n:=by
  unfold Q7 at c1;split at c1
  next x hx=>
   simp only[xg,xr,qh]at c1;exact⟨x,hx,λi hi=>by simpa using c1.1 i hi,c1.2⟩
  next=>cases c1
 exact⟨hi,aa,xh c3.2,hr⟩
theorem QB{n:Nat}(h:n<=7):2^n<=2^7:=xdq (by omega) h
theorem kJ{n:Nat}(hS:SetsP n)(h:n<=7):(aN n).length<=128:=by
 have h1:=hS.len;have h2:=QB h;have h3:2^7<=128:=by decide
 omega
theorem iO{α:Type}(ix:List Nat)(l:List (List α)):(bH ix l).length=ix.length:=by simp[bH]
theorem iD{α:Type}{ix:List Nat}(l:List (List α)){i:Nat}(h:i<ix.length):(bH ix l).getD i []=l.getD (ix.getD i 0) []:=by unfold bH;rw[xd,oC,xd (l:=ix),xf h];rfl
theorem Kq{α:Type}(ix:List Nat)(i:Nat)(l:List (List α)):bH (ix++ [i]) l=bH ix l++ [l.getD i []]:=by simp[bH]
theorem Ha{α:Type}(ix:List Nat)(l:List (List α))(n:Nat):bH (ix.take n) l=(bH ix l).take n:=by simp[bH]
theorem HG.at{x:List Nat×List (List Int)}(h:HG x){i:Nat}(hi:i<x.1.length):x.1.getD i 0<x.2.length:=h _ (aG hi)
theorem kW{α:Type}{l:List α}{i:Nat}(d:α)(h:i<l.length):l.take (i+1)=l.take i++ [l.getD i d]:=by rw[Vw h,xd,xf h];rfl
theorem wH{x:List Nat×List (List Int)}(hx:HG x)(h0:0<x.1.length)(hl:(x.1.length:Int)<=1048576){p:HL [.slice (.int .i64)]->Option Int}{g:List Int->Int}(hp:∀s∈bH x.1 x.2,p (s,())=some (g s)):
  HR p x=some (aW g (bH x.1 x.2)):=by
 obtain⟨ix,l⟩:=x;simp only at h0 hl hp⊢;have hn:=iO ix l;have ab:∀i,i<ix.length->l.getD (ix.getD i 0) []∈bH ix l:=λi hi=>by rw[<-iD l hi];exact aG (by omega)
 have ai:∀m,0<m->(bH ix l).take m≠ []:=λm hm e=>by have:=congrArg List.length e;simp only[xw,hn,xz]at this;omega
 have hz:Int.toNat 0=0:=rfl;have hb:∀i,i<ix.length->ix.getD i 0<l.length:=λi hi=>HG.at hx hi;have h:=aR (f:=λv=>(Tw (p,(ix.length:Int),ix,l) v).ev) (n:=ix.length) (mk:=λi (b:Nat)=>(b,(i:Int)))
  (I:=λi b=>b<l.length/\l.getD b []∈bH ix l/\l.getD b []=aW g ((bH ix l).take (i+if i=0 then 1 else 0))) (g:=λb i=>if g (l.getD (ix.getD i 0) [])<g (l.getD b [])then ix.getD i 0 else b) (fin:=λb=>b) (s0:=ix.getD 0 0)
  ⟨hb 0 h0,ab 0 h0,by rw[qj rfl,kW [] (by omega),iD l h0,xep,K0,gV]⟩
  (λi b hi hI=>by
   obtain⟨aj,ae,ad⟩:=hI;have af:=hp _ (ab i hi);have ah:=hp _ ae;have aa:aW g ((bH ix l).take (i+1))=if g (l.getD (ix.getD i 0) [])<g (l.getD b [])then l.getD (ix.getD i 0) []else l.getD b []:=by
    by_cases e:i=0;·subst e;rw[qj rfl]at ad;rw[qi,ad];rw[ad,U2,kW [] (by omega),iD l h0,xep,K0,gV];exact DG _
    ·rw[qi e,yP]at ad;rw[kW [] (by omega),iD l hi,iR (ai i (by omega)),<-ad]
   by_cases hq:g (l.getD (ix.getD i 0) [])<g (l.getD b [])
   ·refine⟨?_,?_⟩;·simp(disch:=omega)only[EV,Tw,hi,hb i hi,af,ah,hq];rfl
    ·rw[qj hq]at aa⊢;exact⟨hb i hi,ab i hi,by rw[qi (by omega),yP,aa]⟩
   ·refine⟨?_,?_⟩;·simp(disch:=omega)only[EV,Tw,hi,hb i hi,af,ah,hq];rfl
    ·rw[qi hq]at aa⊢;exact⟨aj,ae,by rw[qi (by omega),yP,aa]⟩)
  (λb _=>by simp(disch:=omega)only[EV,Tw,xi])
 have h1:aIM (p,(ix.length:Int),ix,l) (ix.getD 0 0,(0:Int))=_:=h.1;obtain⟨_,_,e⟩:=h.2;rw[qi (by omega),yP,Gb (by omega)]at e;unfold HR ZJ;simp(disch:=omega)only[EV,show aC (0:Int) ix.length=true from bK (by omega) (by omega),hz,h0,hb 0 h0,h1];rw[<-e]
theorem rS{x:List Nat×List (List Int)}(hx:HG x)(hl:(x.1.length:Int)<=1048576){p:HL [.slice (.int .i64)]->Option Bool}{q:List Int->Bool}(hp:∀s∈bH x.1 x.2,p (s,())=some (q s)):
  ∃y,KO p x=some y/\HG y/\bH y.1 y.2=(bH x.1 x.2).filter λs=> !q s:=by
 obtain⟨ix,l⟩:=x;simp only at hl hp⊢;have hn:=iO ix l;have aa:=pQ (l:=bH ix l) (by omega) hp;unfold KO aDM;cases hf:(bH ix l).findIdx? q with
 |none=>rw[hf]at aa;have e:(Option.elim (none:Option Nat) (-1) λi=>((i:Nat):Int))= -1:=rfl;rw[e]at aa;simp(disch:=omega)only[EV,aa,show((-1:Int)== -1)=true from rfl];refine⟨_,rfl,hx,?_⟩;have av:=xgi.1 hf;exact(xfw.2 λs hs=>by rw[av s hs];rfl).symm
 |some i0=>
  rw[hf]at aa;have e:(Option.elim (some i0:Option Nat) (-1) λi=>((i:Nat):Int))=(i0:Int):=rfl;rw[e]at aa;obtain⟨aw,ay,af⟩:=xdb.1 hf;have ba:i0<ix.length:=by omega
  have ah:∀i,i<ix.length->l.getD (ix.getD i 0) []∈bH ix l:=λi hi=>by rw[<-iD l hi];exact aG (by omega)
  have hb:∀i,i<ix.length->ix.getD i 0<l.length:=λi hi=>HG.at hx hi;have ai:((bH ix l).take (i0+1)).filter (λs=> !q s)=(bH ix l).take i0:=by
   rw[Vw aw,xfa];have e1:((bH ix l).take i0).filter (λs=> !q s)=(bH ix l).take i0:=xfw.2 λs hs=>by
    obtain⟨j,hj,rfl⟩:=IX hs;have az:j<i0:=by simp at hj;omega
    have:=af j az;simpa using this
   rw[e1];simp[ay]
  have h:=aR (f:=λv=>(Qu p v).ev) (n:=ix.length-(i0+1)) (mk:=λk (st:Nat×List Nat)=>((st.1:Int),((i0+1+k:Nat):Int),st.2,l))
   (I:=λk st=>st.2.length=ix.length/\st.1<=i0+k/\bH (st.2.take st.1) l=((bH ix l).take (i0+1+k)).filter (λs=> !q s)/\st.2.drop (i0+1+k)=ix.drop (i0+1+k)/\∀m∈st.2,m<l.length)
   (g:=λst k=>if q (l.getD (ix.getD (i0+1+k) 0) [])=true then st else(st.1+1,st.2.set st.1 (ix.getD (i0+1+k) 0))) (fin:=λst=>((st.1:Int),st.2,l)) (s0:=(i0,ix))
   ⟨rfl,xm _,by rw[Ha,yP,ai],rfl,hx⟩
   (λk st hk hI=>by
    obtain⟨i,jx⟩:=st;obtain⟨a1,a2,a3,a4,a5⟩:=hI;simp only at a1 a2 a3 a4 a5⊢;have hj:i0+1+k<ix.length:=by omega
    have aj:i0+1+k<jx.length:=by omega
    have ak:jx.getD (i0+1+k) 0=ix.getD (i0+1+k) 0:=by have:=congrArg (λl:List Nat=>l[0]?) a4;simp only[vZ,yP]at this;rw[xd,xd,this]
    have ae:=hb _ hj;have al:=hp _ (ah _ hj);have ao:(bH ix l).take (i0+1+(k+1))=(bH ix l).take (i0+1+k)++ [l.getD (ix.getD (i0+1+k) 0) []]:=by rw[show i0+1+(k+1)=(i0+1+k)+1 by omega,kW [] (by omega),iD l hj]
    have ar:jx.drop (i0+1+(k+1))=ix.drop (i0+1+(k+1)):=by have:=congrArg (List.drop 1) a4;rw[xfe,xfe]at this;exact this
    have ab:((i0+1+k:Nat):Int)+1=((i0+1+(k+1):Nat):Int):=by omega
    cases hq:q (l.getD (ix.getD (i0+1+k) 0) [])with
    |true=>
     rw[qj rfl];refine⟨?_,a1,by omega,?_,ar,a5⟩;·simp(disch:=omega)only[EV,Qu,aj,ak,ae,al,hq,ab]
     ·rw[a3,ao,xfa,List.filter_cons_of_neg (by rw[hq];exact Bool.noConfusion),List.filter_nil,zL]
    |false=>
     rw[qi (by simp)];have ad:i<jx.length:=by omega
     refine⟨?_,by simpa using a1,by omega,?_,?_,λm hm=>?_⟩;·simp(disch:=omega)only[EV,Qu,aj,ak,ae,al,hq,ab,ad];rfl
     ·rw[kW 0 (by simpa using ad),List.take_set_of_le (xm _),Kq,a3,ao,xfa];have e2:(jx.set i (ix.getD (i0+1+k) 0)).getD i 0=ix.getD (i0+1+k) 0:=by rw[xd,List.getElem?_set_self ad];rfl
      rw[e2,List.filter_cons_of_pos (by rw[hq];rfl),List.filter_nil]
     ·rw[List.drop_set_of_lt (by omega)];exact ar
     ·rcases xct hm with h|rfl;·exact a5 m h
      ·exact ae)
   (λst hI=>by
    have e3:i0+1+(ix.length-(i0+1))=st.2.length:=by rw[hI.1];omega
    simp(disch:=omega)only[EV,Qu,e3,xi])
  obtain⟨h1,b1,b2,b3,_,b5⟩:=h;generalize(List.range (ix.length-(i0+1))).foldl _ (i0,ix)=st at h1 b1 b2 b3 b5;obtain⟨i,jx⟩:=st;simp only at h1 b1 b2 b3 b5;have h2:aJV p ((i0:Int),(i0:Int)+1,ix,l)=some ((i:Int),jx,l):=h1;have au:((i0:Int)== -1)=false:=beq_eq_false_iff_ne.2 (by omega);have ad:i<=jx.length:=by omega
  have e4:(jx.take i++List.replicate (jx.length-i) l.length).length=jx.length:=by simp only[xj,xw,So];omega
  have e5:(jx.take i++List.replicate (jx.length-i) l.length).take i=jx.take i:=by rw[xft (by rw[xw];omega),xfh,Nat.min_self]
  have g1:(0:Int)<=(i:Int):=by omega
  have g2:(i:Int)<=((jx.length:Nat):Int):=by omega
  simp(disch:=omega)only[EV,aa,au,h2,e4,e5,g1,g2];refine⟨_,rfl,λm hm=>b5 m (Vs hm),?_⟩;simp only;rw[b3,Gb (by omega)]
theorem cO{n:Nat}(h7:n<=7)(hS:SetsP n){s:List Int}(hs:s∈aN n):Places s n/\0<s.length/\aI s:=by
 obtain⟨h1,h2,h3⟩:=hS.rising s hs;have hl:aI s:=by unfold aI;omega
 exact⟨Places.of hl h1,h2,hl⟩
def uL(n:Nat)(k:Int):List (List Int):=(aN n).filter λs=>decide ((s.length:Int)=k)
def UA(n:Nat):Bool:=(List.range n).all λk=>(aN n).any λs=>Nat.beq s.length (k+1)
theorem Pg:∀n:Nat,n<=7->UA n=true
 |0,_=>by kernel_rfl
 |1,_=>by kernel_rfl
 |2,_=>by kernel_rfl
 |3,_=>by kernel_rfl
 |4,_=>by kernel_rfl
 |5,_=>by kernel_rfl
 |6,_=>by kernel_rfl
 |7,_=>by kernel_rfl
 |n+8,h=>by omega
theorem zP{n:Nat}(h7:n<=7){k:Int}(h1:1<=k)(hk:k<=(n:Int)):uL n k≠ []:=by have h:=Pg n h7;unfold UA at h;have h2:=xr.1 h (k.toNat-1) (xap.2 (by omega));obtain⟨s,hs,e⟩:=xbh.1 h2;have e2:=xh e;intro h3;have h4:s∈uL n k:=xaj.2 ⟨hs,by simp;omega⟩;rw[h3]at h4;cases h4
theorem ofSz_mem{n:Nat}{k:Int}{s:List Int}:s∈uL n k↔s∈aN n/\(s.length:Int)=k:=by unfold uL;rw[xaj,qf]
def dD(o:List Int)(ds:List (List Int))(s:List Int):Int:=Bb o s+fC ds s
theorem wD{o:List Int}{ds:List (List Int)}(hf:Fld o ds){s:List Int}(hs:ris o.length s)(h0:s≠ []):0<=dD o ds s/\dD o ds s<=103809717:=by have hp:=hs.places hf.len;have h1:=Lh hf hp;have h2:=nD hf hp (xar.2 h0);unfold dD;omega
theorem vY{o:List Int}{ds:List (List Int)}(hf:Fld o ds){s:List Int}(hs:ris o.length s)(h0:s≠ []):Q8 o ds s=some (dD o ds s):=j7 hf (hs.places hf.len) (xar.2 h0)
def wo(s:List Int)(a:Int):List Int:=s.filter λx=>x !=a
def swF(n:Nat)(s w:List Int)(acc:List (List Int)):List (List Int):=(List.range n).foldl (λacc (b:Nat)=>if s.contains (b:Int)then acc else acc++ [ins (b:Int) w]) acc
def iG(n:Nat)(s:List Int)(x:List (List Int)×List (List Int)×List (List Int))(a:Nat):List (List Int)×List (List Int)×List (List Int):=
 if s.contains (a:Int)then(x.1,(if 0<(wo s (a:Int)).length then x.2.1++ [wo s (a:Int)]else x.2.1),swF n s (wo s (a:Int)) x.2.2)
 else(x.1++ [ins (a:Int) s],x.2.1,x.2.2)
def Ga(n:Nat)(s:List Int):List (List Int)×List (List Int)×List (List Int):=(List.range n).foldl (iG n s) ([],[],[])
def eH(n:Nat)(s:List Int):List (List Int):=(Ga n s).1++(Ga n s).2.1++(Ga n s).2.2
theorem cB{s:List Int}{a:Int}(h:s.contains a=false):a∉s:=λhm=>by rw[xcf.2 hm]at h;cases h
theorem Na{n:Nat}{s w:List Int}(Q:List Int->Prop)(h:∀b:Nat,b<n->(b:Int)∉s->Q (ins (b:Int) w)){acc:List (List Int)}(ha:∀m∈acc,Q m):(∀m∈swF n s w acc,Q m)/\(swF n s w acc).length<=acc.length+n:=by
 have key:∀k,k<=n->(∀m∈(List.range k).foldl (λacc (b:Nat)=>if s.contains (b:Int)then acc else acc++ [ins (b:Int) w]) acc,Q m)/\((List.range k).foldl (λacc (b:Nat)=>if s.contains (b:Int)then acc else acc++ [ins (b:Int) w]) acc).length<=acc.length+k:=by
  intro k;induction k with
  |zero=>intro _;exact⟨ha,xm _⟩
  |succ k ih=>
   intro hk;obtain⟨i1,i2⟩:=ih (by omega);rw[aV];cases hc:s.contains (k:Int)with
   |true=>simp only[if_true];exact⟨i1,by omega⟩
   |false=>
    simp only[tN,if_false];refine⟨λm hm=>?_,by rw[xj,Fy];omega⟩;rcases xq.1 hm with hm|hm;·exact i1 m hm
    ·rw[xo.1 hm];exact h k (by omega) (cB hc)
 exact key n (xm _)
theorem Mf{n:Nat}{s:List Int}(Q:List Int->Prop)(h1:∀a:Nat,a<n->(a:Int)∉s->Q (ins (a:Int) s))(h2:∀a:Nat,a<n->(a:Int)∈s->0<(wo s (a:Int)).length->Q (wo s (a:Int)))
  (h3:∀a:Nat,a<n->(a:Int)∈s->∀b:Nat,b<n->(b:Int)∉s->Q (ins (b:Int) (wo s (a:Int)))):∀k,k<=n->(∀m∈((List.range k).foldl (iG n s) ([],[],[])).1,Q m)/\(∀m∈((List.range k).foldl (iG n s) ([],[],[])).2.1,Q m)/\(∀m∈((List.range k).foldl (iG n s) ([],[],[])).2.2,Q m)/\
  ((List.range k).foldl (iG n s) ([],[],[])).1.length<=k/\((List.range k).foldl (iG n s) ([],[],[])).2.1.length<=k/\((List.range k).foldl (iG n s) ([],[],[])).2.2.length<=k*n:=by
 intro k;induction k with
 |zero=>intro _;exact⟨λm h=>(by cases h),λm h=>(by cases h),λm h=>(by cases h),xm _,xm _,by simp⟩
 |succ k ih=>
  intro hk;obtain⟨i1,i2,i3,i4,i5,i6⟩:=ih (by omega);rw[aV];generalize(List.range k).foldl (iG n s) ([],[],[])=x at i1 i2 i3 i4 i5 i6⊢;unfold iG;have hmul:(k+1)*n=k*n+n:=by rw[E1,xgj]
  cases hc:s.contains (k:Int)with
  |true=>
   have hm:=xcf.1 hc;obtain⟨j1,j2⟩:=Na (n:=n) (s:=s) (w:=wo s (k:Int)) Q (h3 k (by omega) hm) i3;simp only[if_true];refine⟨i1,?_,j1,by omega,?_,by omega⟩
   ·split
    next hp=>
     intro m aa;rcases xq.1 aa with aa|aa;·exact i2 m aa
     ·rw[xo.1 aa];exact h2 k (by omega) hm hp
    next=>exact i2
   ·split;·simp;omega
    ·omega
  |false=>
   simp only[tN,if_false];refine⟨λm hm=>?_,i2,i3,by simp;omega,by omega,by omega⟩;rcases xq.1 hm with hm|hm;·exact i1 m hm
   ·rw[xo.1 hm];exact h1 k (by omega) (cB hc)
theorem lL{s:List Int}{a b:Int}(h:b∉s):b∉wo s a:=λhm=>h (xaj.1 hm).1
theorem ris.wo{n:Nat}{s:List Int}(h:ris n s)(a:Int):ris n (wo s a):=h.filter _
theorem yD{n:Nat}{s:List Int}(h:ris n s):∀m∈eH n s,ris n m/\m≠ []:=by
 have aa:∀x (l:List Int),ins x l≠ []:=λx l e=>by have:=pT x l;rw[e]at this;simp at this
 obtain⟨h1,h2,h3,_⟩:=Mf (n:=n) (s:=s) (λm=>ris n m/\m≠ []) (λa ha hn=>⟨h.ins (by omega) (by omega) hn,aa _ _⟩) (λa ha hm hp=>⟨h.wo _,xar.1 hp⟩)
  (λa ha hm b hb hn=>⟨(h.wo _).ins (by omega) (by omega) (lL hn),aa _ _⟩) n (xm _)
 intro m hm;rcases xq.1 hm with hm|hm
 ·rcases xq.1 hm with hm|hm;·exact h1 m hm
  ·exact h2 m hm
 ·exact h3 m hm
theorem Df{n:Nat}(hn:n<=7)(s:List Int):(eH n s).length<=100:=by obtain⟨_,_,_,h1,h2,h3⟩:=Mf (n:=n) (s:=s) (λ_=>True) (λ_ _ _=>trivial) (λ_ _ _ _=>trivial) (λ_ _ _ _ _ _=>trivial) n (xm _);have hmul:n*n<=7*7:=xff hn hn;have q1:(Ga n s).1.length<=n:=h1;have q2:(Ga n s).2.1.length<=n:=h2;have q3:(Ga n s).2.2.length<=n*n:=h3;unfold eH;rw[xj,xj];omega
theorem Hz(s:List Int)(a:Int):(wo s a).length<=s.length:=xdt _ _
theorem aEC(k:(List (Int))×(Int)×(Nat)×(List (Int))×(List (List (Int)))×(List (List (Int)))×(List (List (Int)))){s w:List Int}{n:Nat}(h1:k.1=s)(h2:k.2.2.2.1.length=n)(h3:List.getD k.2.2.2.2.2.2 k.2.2.1 []=w)
  (hn:n<=7) (hs:s.length<=7) (hw:w.length<=7) (aa:∀b,b∉s->b∉w) {acc:List (List Int)} (ha:acc.length<=1000):aLz k (0,acc)=some (swF n s w acc):=by
 have h:=(aR (f:=λv=>(Ot k v).ev) (n:=n) (mk:=λi (acc:List (List Int))=>((i:Int),acc)) (I:=λi a=>a.length<=1000+i) (g:=λacc (b:Nat)=>if s.contains (b:Int)then acc else acc++ [ins (b:Int) w]) (fin:=λs=>s) (s0:=acc) (by omega)
  (λi x hi hx=>by
   have e1:=vK (l:=s) (by omega) (i:Int);have e2:(i:Int)<((k.2.2.2.1.length:Nat):Int):=by omega
   cases hc:s.contains (i:Int)with
   |true=>rw[hc]at e1;refine⟨?_,by simp only[if_true];omega⟩;simp(disch:=omega)only[EV,Ot,h1,h2,e1,hi];rfl
   |false=>rw[hc]at e1;have e3:=qI (l:=w) (x:=(i:Int)) (by omega) (aa _ (cB hc));have r1:=mG x (by omega);refine⟨?_,by simp;omega⟩;simp(disch:=omega)only[EV,Ot,h1,h2,h3,e1,e3,hi,r1,fA];rfl)
  (λx _=>by simp(disch:=omega)only[EV,Ot,h2,xi])).1
 exact h
theorem OR(k:(List (Int))×(Int)×(List (Int))×(List (List (Int)))×(List (List (Int)))×(List (List (Int)))×(List (Int))){s w:List Int}{n:Nat}(h1:k.1=s)(h2:k.2.2.1.length=n)(h3:k.2.2.2.2.2.2=w)
  (hn:n<=7) (hs:s.length<=7) (hw:w.length<=7) (aa:∀b,b∉s->b∉w) {acc:List (List Int)} (ha:acc.length<=1000):aIJ k (0,acc)=some (swF n s w acc):=by
 have h:=(aR (f:=λv=>(Rf k v).ev) (n:=n) (mk:=λi (acc:List (List Int))=>((i:Int),acc)) (I:=λi a=>a.length<=1000+i) (g:=λacc (b:Nat)=>if s.contains (b:Int)then acc else acc++ [ins (b:Int) w]) (fin:=λs=>s) (s0:=acc) (by omega)
  (λi x hi hx=>by
   have e1:=vK (l:=s) (by omega) (i:Int);cases hc:s.contains (i:Int)with
   |true=>rw[hc]at e1;refine⟨?_,by simp only[if_true];omega⟩;simp(disch:=omega)only[EV,Rf,h1,h2,e1,hi];rfl
   |false=>rw[hc]at e1;have e3:=qI (l:=w) (x:=(i:Int)) (by omega) (aa _ (cB hc));have r1:=mG x (by omega);refine⟨?_,by simp;omega⟩;simp(disch:=omega)only[EV,Rf,h1,h2,h3,e1,e3,hi,r1,fA];rfl)
  (λx _=>by simp(disch:=omega)only[EV,Rf,h2,xi])).1
 exact h
theorem Po{o s:List Int}(ds:List (List Int))(ho:o.length<=7)(hs:s.length<=7):aEg o ds s=some (eH o.length s):=by
 have h:=(aR (f:=λv=>(Kd (s,o,ds) v).ev) (n:=o.length) (mk:=λi (x:List (List Int)×List (List Int)×List (List Int))=>((i:Int),x)) (I:=λi x=>x.1.length<=i/\x.2.1.length<=i/\x.2.2.length<=i*o.length) (g:=iG o.length s) (fin:=λx=>x) (s0:=([],[],[])) ⟨xm _,xm _,by simp⟩
  (λi x hi hx=>by
   obtain⟨x1,x2,x3⟩:=x;obtain⟨g1,g2,g3⟩:=hx;simp only at g1 g2 g3;have hmul:(i+1)*o.length=i*o.length+o.length:=by rw[E1,xgj]
   have aa:i*o.length<=7*7:=xff (by omega) ho;have e1:=vK (l:=s) (by omega) (i:Int);unfold iG;cases hc:s.contains (i:Int)with
   |false=>rw[hc]at e1;have e3:=qI (l:=s) (x:=(i:Int)) (by omega) (cB hc);have r1:=mG x1 (by omega);simp only[tN,if_false];refine⟨?_,by simp;omega,by omega,by omega⟩;simp(disch:=omega)only[EV,Kd,e1,e3,hi,r1,fA];rfl
   |true=>
    rw[hc]at e1;have e3:=pC (l:=s) (by omega) (i:Int);have hw:=Hz s (i:Int);have hj:=(Na (n:=o.length) (s:=s) (w:=wo s (i:Int)) (λ_=>True) (λ_ _ _=>trivial) (acc:=x3) λ_ _=>trivial).2;simp only[if_true];by_cases hp:0<(wo s (i:Int)).length
    ·have r1:=mG x2 (by omega);have ad:0<(List.filter (λx=>x != (i:Int)) s).length:=hp;have e4:=aEC (s,(i:Int),x2.length,o,ds,x1,(List.set (x2++ [[]]) x2.length (wo s (i:Int)))) (w:=wo s (i:Int)) rfl rfl (by show List.getD (List.set (x2++ [[]]) x2.length (wo s (i:Int))) x2.length []=wo s (i:Int);rw[fA];simp) ho hs (by omega) (λb hb=>lL hb) (acc:=x3) (by omega);unfold wo at e4;rw[fA]at e4;rw[qj hp];refine⟨?_,by omega,by simp;omega,by omega⟩;have ab:((0:Int)<(((List.filter (λx=>x != (i:Int)) s).length:Nat):Int)):=by omega
     simp(disch:=omega)only[EV,Kd,e1,e3,hi,r1,ab,e4,fA];rfl
    ·have e4:=OR (s,(i:Int),o,ds,x1,x2,wo s (i:Int)) (w:=wo s (i:Int)) rfl rfl rfl ho hs (by omega) (λb hb=>lL hb) (acc:=x3) (by omega);rw[qi hp];unfold wo at e4 hp;refine⟨?_,by omega,by omega,by omega⟩;have ab:¬((0:Int)<(((List.filter (λx=>x != (i:Int)) s).length:Nat):Int)):=by omega
     simp(disch:=omega)only[EV,Kd,e1,e3,hi,ab,e4];rfl)
  (λx _=>by simp(disch:=omega)only[EV,Kd,xi]))
 obtain⟨h1,g1,g2,g3⟩:=h;have h0:aKx (s,o,ds) (0,[],[],[])=some (Ga o.length s):=h1;have q1:(Ga o.length s).1.length<=o.length:=g1;have q2:(Ga o.length s).2.1.length<=o.length:=g2;have q3:(Ga o.length s).2.2.length<=o.length*o.length:=g3;have aa:o.length*o.length<=7*7:=xff ho ho;have r1:((Ga o.length s).1.length+(Ga o.length s).2.1.length)*24<=140737488355328:=by omega
 have r2:(((Ga o.length s).1++(Ga o.length s).2.1).length+(Ga o.length s).2.2.length)*24<=140737488355328:=by rw[xj];omega
 unfold aEg YV;rw[qo,h0,xc,qq,qc r1,qa,qq,qc r2,qa,qt];rfl
def aT(o:List Int)(ds:List (List Int))(s:List Int):Option (List Int):=(eH o.length s).find? λm=>decide (dD o ds m<dD o ds s)
theorem dI{o:List Int}{ds:List (List Int)}{s m:List Int}(hs:ris o.length s)(h:aT o ds s=some m):ris o.length m/\m≠ []/\dD o ds m<dD o ds s:=by unfold aT at h;have h1:=List.find?_some h;obtain⟨a,b⟩:=yD hs m (xgg h);exact⟨a,b,of_decide_eq_true h1⟩
theorem En{α:Type}(q:α->Bool)(d:α):∀l:List α,l.find? q=(l.findIdx? q).map λi=>l.getD i d
 | []=>rfl
 |x::l=>by
  rw[xgz,xef];cases hx:q x with
  |true=>simp
  |false=>have ih:=En q d l;simp only[tN,if_false];rw[ih];cases l.findIdx? q<;>simp
def mM(o:List Int)(ds:List (List Int)):Nat->List Int->Nat×List Int
 |0,s=>(0,s)
 |m+1,s=>match aT o ds s with
  |some t=>((mM o ds m t).1+1,(mM o ds m t).2)
  |none=>(0,s)
def oD(o:List Int)(ds:List (List Int))(s:List Int):Nat×List Int:=mM o ds 103809717 s
theorem J8{o:List Int}{ds:List (List Int)}(hf:Fld o ds):∀(m:Nat) {s:List Int},ris o.length s->s≠ []->dD o ds s<=(m:Int)->
  ris o.length (mM o ds m s).2/\(mM o ds m s).2≠ []/\aT o ds (mM o ds m s).2=none/\dD o ds (mM o ds m s).2+((mM o ds m s).1:Int)<=dD o ds s/\(mM o ds m s).1<=m
 |0,s,hs,h0,hm=>by
  refine⟨hs,h0,?_,by simp[mM],xm _⟩;show aT o ds s=none;cases hb:aT o ds s with
  |none=>rfl
  |some t=>obtain⟨a,b,c⟩:=dI hs hb;have:=wD hf a b;omega
 |m+1,s,hs,h0,hm=>by
  unfold mM;cases hb:aT o ds s with
  |none=>exact⟨hs,h0,hb,by simp,by simp⟩
  |some t=>obtain⟨a,b,c⟩:=dI hs hb;obtain⟨i1,i2,i3,i4,i5⟩:=J8 hf m a b (by omega);refine⟨i1,i2,i3,?_,by simp only;omega⟩;simp only;omega
theorem Gw{o:List Int}{ds:List (List Int)}(hf:Fld o ds){s:List Int}(hs:ris o.length s)(h0:s≠ []):
  ris o.length (oD o ds s).2/\(oD o ds s).2≠ []/\aT o ds (oD o ds s).2=none/\dD o ds (oD o ds s).2+((oD o ds s).1:Int)<=dD o ds s/\(oD o ds s).1<=103809717:=
 J8 hf 103809717 hs h0 (by have:=(wD hf hs h0).2;omega)
def f9(x:Option (List Int)):Bool×List Int:=match x with
 |some m=>(true,m)
 |none=>(false,[])
theorem sO{o:List Int}{ds:List (List Int)}(hf:Fld o ds){s:List Int}(hs:ris o.length s)(h0:s≠ []):IL o ds s=some (f9 (aT o ds s)):=by
 have hl:=hs.len;have h7:=hf.len;have e1:=Po (o:=o) (s:=s) ds h7 (by omega);have e2:=vY hf hs h0;have ab:=Df h7 s;have h:=gJ (f:=λv=>(Ra (s,o,ds,eH o.length s) v).ev) (l:=eH o.length s) [] (λm=>decide (dD o ds m<dD o ds s)) (mk:=λi=>(i:Int)) (yes:=λi=>.inr i) (no:=.inl ())
  (λi hi=>by
   obtain⟨a,b⟩:=yD hs _ (aG (d:=[]) hi);have e3:=vY hf a b;by_cases aa:dD o ds ((eH o.length s).getD i [])<dD o ds s;·simp(disch:=omega)only[EV,Ra,hi,e2,e3,aa]
   ·simp(disch:=omega)only[EV,Ra,hi,e2,e3,aa];rfl)
  (by simp(disch:=omega)only[EV,Ra,xi])
 have hb:aGD (s,o,ds,eH o.length s) 0=_:=h;unfold IL aDX;rw[qo,e1,xc,qo,hb,xc];unfold aT;rw[En _ []];cases(eH o.length s).findIdx? λm=>decide (dD o ds m<dD o ds s)<;>rfl
theorem GD{o:List Int}{ds:List (List Int)}(hf:Fld o ds):∀(m:Nat) {s:List Int} (many:Int),0<=many->many+(m:Int)<=1000000000->ris o.length s->s≠ []->dD o ds s<=(m:Int)->
  HW (o,ds) (many,(f9 (aT o ds s)).1,s,(f9 (aT o ds s)).2)=some (many+((mM o ds m s).1:Int),(mM o ds m s).2):=by
 have out:∀{s:List Int} (many:Int),aT o ds s=none->HW (o,ds) (many,(f9 (aT o ds s)).1,s,(f9 (aT o ds s)).2)=some (many,s):=λ{s} many hb=>by rw[hb];unfold HW;rw[aF];simp(disch:=omega)only[EV,Xi,f9]
 intro m;induction m with
 |zero=>
  intro s many h1 h2 hs h0 ht;have hb:aT o ds s=none:=by
   cases hb:aT o ds s with
   |none=>rfl
   |some t=>obtain⟨a,b,c⟩:=dI hs hb;have:=wD hf a b;omega
  rw[out many hb];simp[mM]
 |succ m ih=>
  intro s many h1 h2 hs h0 ht;cases hb:aT o ds s with
  |none=>have:=out many hb;rw[hb]at this;rw[this];simp[mM,hb]
  |some t=>
   obtain⟨a,b,c⟩:=dI hs hb;have e1:=sO hf a b;have hw:IntKind.wrap .i64 (many+1)=many+1:=aL (by omega) (by omega);have aa:=ih (s:=t) (many+1) (by omega) (by omega) a b (by omega);unfold HW at aa⊢;rw[aF];have ab:(Xi (o,ds) (many,(f9 (some t)).1,s,(f9 (some t)).2)).ev=some (.inl (many+1,(f9 (aT o ds t)).1,t,(f9 (aT o ds t)).2)):=by simp(disch:=omega)only[EV,Xi,f9,e1,hw]
   rw[ab];simp only;rw[aa];simp only[mM,hb,xe,Ut,qm];omega
theorem Tv{o:List Int}{ds:List (List Int)}(ho:aI o)(hd:dL ds){s:List Int}(hs:aI s):aBr o ds s=some (bif dV o ds s then(((oD o ds s).1:Int),true,(oD o ds s).2)else(0,false,[])):=by
 have e1:=C0 ho hd hs;unfold aBr aAr;rw[qo,e1,xc,qp];cases hb:dV o ds s with
 |false=>rfl
 |true=>
  obtain⟨hf,hp,h0⟩:=rF hs hb;have hr:ris o.length s:=by unfold dV at hb;simp only[xg]at hb;exact ris_iff.1 hb.2.1
  have aa:s≠ []:=xar.1 h0;have hl:=hr.len;have h7:=hf.len;have e2:=jX (l:=s) (by omega);have e3:=sO hf hr aa;have e4:=GD hf 103809717 (s:=s) 0 (by omega) (by omega) hr aa (wD hf hr aa).2;rw[xl,qb,qo,e2,xc,qo,e3,xc,qo,e4,xc,qt,qa,Int.zero_add];rfl
def pU(o:List Int)(ds:List (List Int)):List Int:=aW (dD o ds) (aN o.length)
theorem u9{n:Nat}(h1:1<=n)(h7:n<=7){s:List Int}(hs:s∈aN n):ris n s/\s≠ []:=by obtain⟨a,b,_⟩:=(pD h1 h7).rising s hs;exact⟨ris_iff.1 a,xar.1 b⟩
theorem zG{n:Nat}(h1:1<=n)(h7:n<=7):aN n≠ []:=λe=>by have:=(pD h1 h7).len;rw[e]at this;have h2:2^1<=2^n:=xdq (by omega) h1;simp at this;omega
theorem Kc{o:List Int}{ds:List (List Int)}(hf:Fld o ds):pU o ds∈aN o.length/\∀s∈aN o.length,dD o ds (pU o ds)<=dD o ds s:=by obtain⟨a,b⟩:=dJ (g:=dD o ds) (zG hf.pos hf.len);refine⟨a,λs hs=>?_⟩;show dD o ds (aW (dD o ds) (aN o.length))<=_;rw[b];exact(pN (λe=>zG hf.pos hf.len (xfv.1 e))).2 _ (xdf hs)
theorem FL{o:List Int}{ds:List (List Int)}(hf:Fld o ds):ZR o ds=some (pU o ds):=by
 have hS:=pD hf.pos hf.len;have ai:=zG hf.pos hf.len;have hl:=kJ hS hf.len;have e1:=hS.sp;have hr:∀s∈aN o.length,Q8 o ds s=some (dD o ds s):=λs hs=>by obtain⟨a,b⟩:=u9 hf.pos hf.len hs;exact vY hf a b
 unfold pU;generalize aN o.length=L at*;have af:0<L.length:=xar.2 ai;have h:=cJ (f:=λv=>(DH (L,o,ds) v).ev) (n:=L.length-1) (λi v=>v=(aW (dD o ds) (L.take (i+1)),((i+1:Nat):Int))) (λr=>r=aW (dD o ds) L)
  (λi v hi hv=>by
   subst hv;have ab:i+1<L.length:=by omega
   have aa:L.take (i+1)≠ []:=λe=>by have:=congrArg List.length e;rw[xw]at this;simp only[xz]at this;omega
   have aj:=(dJ (g:=dD o ds) aa).1;have e2:=hr _ (Vs aj);have e3:=hr _ (aG (d:=[]) ab);have ah:=iR (g:=dD o ds) aa (L.getD (i+1) []);rw[<-dP [] ab]at ah;refine⟨_,?_,rfl⟩;have hw:IntKind.wrap .i64 (((i+1:Nat):Int)+1)=((i+1+1:Nat):Int):=by rw[aL (by omega) (by omega)];rfl
   have ad:((i+1:Nat):Int)<((L.length:Nat):Int):=by omega
   have ae:=dM ab;unfold DH;dsimp only;rw[qp,qc ad,qa,qq,ae,qa,qo,xy,e3,xc,qo,e2,xc,qp,hw,ah];by_cases hc:dD o ds (L.getD (i+1) [])<dD o ds (aW (dD o ds) (L.take (i+1)));·rw[qc hc,qa,qj hc,qq,qa,qt]
   ·rw[qd hc,qb,qi hc,qt])
  (λv hv=>by
   subst hv;have ad:¬((L.length-1+1:Nat):Int)<((L.length:Nat):Int):=by omega
   refine⟨aW (dD o ds) (List.take (L.length-1+1) L),?_,by rw[Gb (by omega)]⟩;unfold DH;dsimp only;rw[qp,qd ad,qb,qt])
  (v:=(L.getD 0 [],1)) (by have h1:=dP (l:=L) (i:=0) [] af;rw[xep,K0]at h1;rw[h1,gV];rfl)
 obtain⟨r,h1,rfl⟩:=h;have hL:aIU (L,o,ds) (L.getD 0 [],1)=some (aW (dD o ds) L):=h1;unfold ZR aBO;have ae:aC (0:Int) L.length=true:=bK (by omega) (by omega);rw[qo,e1,xc,qq,ae,qa,qo];have ht:Int.toNat 0=0:=rfl;rw[ht,hL,xc,qt]
section
variable {K:Int->Int}
def iB(K:Int->Int)(x:Int):List Int->List Int
 | []=>[x]
 |a::l=>if K a<=K x then a::iB K x l else x::a::l
def dS(K:Int->Int)(l:List Int):List Int:=l.foldl (λacc x=>iB K x acc) []
theorem J2{x y:Int}(h:K x<K y):∀q:List Int,iB K x (q++ [y])=iB K x q++ [y]
 | []=>by simp[iB];omega
 |a::q=>by
  simp only[Nl,iB];split;·rw[J2 h q];rfl
  ·rfl
theorem N1{x:Int}:∀{l:List Int},(∀y∈l,K y<=K x)->iB K x l=l++ [x]
 | [],_=>rfl
 |a::l,h=>by simp only[iB,qj (h a xu),Nl];rw[N1 λy hy=>h y (xt _ hy)]
theorem qH(x:Int):∀l:List Int,(iB K x l).Perm (x::l)
 | []=>.refl _
 |a::l=>by
  simp only[iB];split;·exact((qH x l).cons a).trans (.swap x a l)
  ·exact .refl _
theorem xI{x:Int}:∀{l:List Int},l.Pairwise (λa b=>K a<=K b)->(iB K x l).Pairwise λa b=>K a<=K b
 | [],_=>by simp[iB]
 |a::l,h=>by
  rw[xbk]at h;simp only[iB];split
  next hx=>
   rw[xbk];refine⟨λy hy=>?_,xI h.2⟩;rcases xae.1 ((qH x l).mem_iff.1 hy)with e|hy;·rw[e];exact hx
   ·exact h.1 y hy
  next hx=>
   rw[xbk,xbk];refine⟨λy hy=>?_,h⟩;rcases xae.1 hy with rfl|hy;·omega
   ·have:=h.1 y hy;omega
theorem x6(l:List Int)(x:Int):dS K (l++ [x])=iB K x (dS K l):=by simp[dS]
theorem qN:∀l:List Int,(dS K l).Pairwise (λa b=>K a<=K b)/\(dS K l).Perm l:=by
 intro l;have key:∀(l acc:List Int),acc.Pairwise (λa b=>K a<=K b)->(l.foldl (λacc x=>iB K x acc) acc).Pairwise (λa b=>K a<=K b)/\(l.foldl (λacc x=>iB K x acc) acc).Perm (acc++l):=by
  intro l;induction l with
  |nil=>intro acc h;exact⟨h,by simp⟩
  |cons x l ih=>intro acc h;obtain⟨h1,h2⟩:=ih (iB K x acc) (xI h);refine⟨h1,h2.trans (((qH x acc).append_right l).trans ?_)⟩;rw[Nl];exact List.perm_middle.symm
 have h:=key l [] List.Pairwise.nil;rw[K0]at h;exact h
theorem K5(x:Int):∀l:List Int,l.take ((l.findIdx? λy=> !decide (K y<=K x)).elim l.length id)++x::l.drop ((l.findIdx? λy=> !decide (K y<=K x)).elim l.length id)=iB K x l
 | []=>rfl
 |a::l=>by
  have ih:=K5 x l;rw[xef];by_cases h:K a<=K x
  ·simp only[h,decide_true,xl,tN,if_false,iB,if_true];cases hf:l.findIdx? λy=> !decide (K y<=K x)with|none=>rw[hf]at ih;simpa using ih|some j=>rw[hf]at ih;simpa using ih
  ·simp[h,iB]
theorem K6{p r:List Int}{x:Int}:(p++x::r).getD p.length 0=x:=by rw[xd,D4 (xm _),JX];rfl
theorem Pd(l:List Int):(List.range (l.length-1)).foldl (λ_ k=>dS K (l.take (k+2))++l.drop (k+2)) l=dS K l:=by
 cases hn:l.length-1 with
 |zero=>
  rcases l with _|⟨a,_|⟨b,l⟩⟩
  ·rfl
  ·rfl
  ·simp at hn
 |succ n=>rw[xeh,LA];simp only[Z2,xgc];rw[Gb (by omega),xfn (by omega),zL]
def aFa(K:Int->Int)(M:Int->Prop)(p:HL [.int .i64,.int .i64]->Option Int):Prop:=∀x y,M x->M y->∃c,p (x,y,())=some c/\(c<0↔K x<K y)
theorem G5{M:Int->Prop}{f:HL [.int .i64,.int .i64]->Option Int}(hf:aFa K M f)(n i:Int):∀(m:Nat) (p:List Int) (x:Int) (r:List Int),p.length=m->(∀y∈p,M y)->M x->(p.length:Int)<9223372036854775807->p.Pairwise (λa b=>K a<=K b)->
  CM (0,n,f,i) ((p.length:Int),p++x::r)=some (iB K x p++r):=by
 intro m;induction m with
 |zero=>intro p x r hm _ _ _ _;have:=D8 hm;subst this;unfold CM;rw[aF];simp(disch:=omega)only[EV,Ix,xi,xz,DG,show((0:Nat):Int)=0 from rfl];rfl
 |succ m ih=>
  intro p x r hm hM hx ah hp;obtain⟨q,y,rfl⟩:∃q y,p=q++ [y]:=by
   have:=xfo p;rcases this with h|⟨q,y,h⟩
   ·rw[h]at hm;cases hm
   ·exact⟨q,y,by simpa using h⟩
  have aa:q.length=m:=by simpa using hm
  have e0:((q++ [y]).length:Int)=((m+1:Nat):Int):=by simp[aa]
  rw[e0]at ah⊢;have e2:((m+1:Nat):Int) -1=(m:Int):=by omega
  have g1:((q++ [y])++x::r).getD (m+1) 0=x:=by have:=K6 (p:=q++ [y]) (x:=x) (r:=r);rwa [show(q++ [y]).length=m+1 by simp[aa]]at this
  have g2:((q++ [y])++x::r).getD m 0=y:=by have:=K6 (p:=q) (x:=y) (r:=x::r);rw[aa]at this;simpa using this
  have hl:((q++ [y])++x::r).length=m+2+r.length:=by simp[aa];omega
  have s1:(((q++ [y])++x::r).set (m+1) y).set m x=q++x::(y::r):=by
   have t1:((q++ [y])++x::r).set (m+1) y=(q++ [y])++y::r:=by rw[xcw _ _ (by simp[aa]),show m+1-(q++ [y]).length=0 by simp[aa]];rfl
   rw[t1,Vt,xcw _ _ (by omega),show m-q.length=0 by omega];rfl
  have ad:¬K x<K y->((q++ [y])++x::r)=iB K x (q++ [y])++r:=λab=>by
   rw[N1];·simp
   ·intro z hz;rcases xq.1 hz with hz|hz;·have:=(xdp.1 hp).2.2 z hz y (by simp);omega
    ·have:=xo.1 hz;rw[this];omega
  have h0:(0:Int)<((m+1:Nat):Int):=by omega
  have h1:m+1<m+2+r.length:=by omega
  have h2:m<m+2+r.length:=by omega
  obtain⟨c,hc,af⟩:=hf x y hx (hM y (by simp));generalize((q++ [y])++x::r)=L at g1 g2 hl s1 ad;unfold CM;rw[aF];by_cases ab:K x<K y
  ·have ae:=af.2 ab;have e:(Ix (0,n,f,i) (((m+1:Nat):Int),L)).ev=some (.inl ((m:Int),q++x::(y::r))):=by simp(disch:=omega)only[EV,Ix,h0,hl,h1,e2,h2,g1,g2,hc,ae,E2,s1]
   rw[e];have:=ih q x (y::r) aa (λz hz=>hM z (by simp[hz])) hx (by omega) (xdp.1 hp).1;rw[aa]at this;unfold CM at this;simp only;rw[this,J2 ab];simp
  ·have ae:¬c<0:=λh=>ab (af.1 h);have e:(Ix (0,n,f,i) (((m+1:Nat):Int),L)).ev=some (.inr L):=by simp(disch:=omega)only[EV,Ix,h0,hl,h1,e2,h2,g1,g2,hc,ae]
   rw[e];simp only;rw[ad ab]
theorem E9{M:Int->Prop}{f:HL [.int .i64,.int .i64]->Option Int}(hf:aFa K M f){l:List Int}(hM:∀x∈l,M x)(hl:(l.length:Int)<9223372036854775806):OM 0 (l.length:Int) f l=some (dS K l):=by
 have key:=(aR (f:=λv=>(BA (0,(l.length:Int),f) v).ev) (n:=l.length-1) (mk:=λk (s:List Int)=>(((k+1:Nat):Int),s)) (I:=λk s=>s=dS K (l.take (k+1))++l.drop (k+1)) (g:=λ_ k=>dS K (l.take (k+2))++l.drop (k+2)) (fin:=λs=>s) (s0:=l) (by
   cases l with
   |nil=>rfl
   |cons a l=>simp[dS,iB])
  (λk s hk hs=>by
   subst hs;have aa:k+1<l.length:=by omega
   obtain⟨h1,h2⟩:=qN (K:=K) (l.take (k+1));have h3:(dS K (l.take (k+1))).length=k+1:=by rw[h2.length_eq];simp;omega
   have h4:l.drop (k+1)=l[k+1]::l.drop (k+2):=Nj aa;have h5:dS K (l.take (k+2))=iB K l[k+1] (dS K (l.take (k+1))):=by rw[<-x6,Vw aa]
   have h6:=G5 hf (l.length:Int) ((k+1:Nat):Int) (k+1) (dS K (l.take (k+1))) l[k+1] (l.drop (k+2)) h3 (λy hy=>hM y (Vs (h2.mem_iff.1 hy))) (hM _ (xed aa)) (by rw[h3];omega) h1;rw[h3,<-h4]at h6;refine⟨?_,rfl⟩;simp(disch:=omega)only[EV,BA,aa,h6];rw[h5];rfl)
  (λs _=>by simp(disch:=omega)only[EV,BA,show¬(l.length-1+1<l.length) by omega])).1
 rw[Pd]at key;have e:aHs (0,(l.length:Int),f) (1,l)=some (dS K l):=key;unfold OM XB;simp(disch:=omega)only[EV,show IntKind.wrap .i64 ((0:Int)+1)=1 from rfl,e]
theorem z0{M:Int->Prop}{f:HL [.int .i64,.int .i64]->Option Int}(hf:aFa K M f){l:List Int}(hM:∀x∈l,M x)(hl:l.length<=19):ZE f l=some (dS K l):=by
 have e1:aCH ((l.length:Int),f,20) (0,20,l)=some (0,l):=by
  unfold aCH;rw[aF];have hn:¬(20:Int)<=(l.length:Int):=by omega
  simp(disch:=omega)only[EV,aBf,hn]
 have e2:∀s:List Int,YE ((l.length:Int),f,s) 20=some ():=λs=>by
  unfold YE;rw[aF];have hn:¬(20:Int)<(l.length:Int):=by omega
  simp(disch:=omega)only[EV,WT,hn]
 have e3:=E9 hf hM (by omega);unfold ZE aAk aJR aDf;rw[qo,qo,e1,xc,qo];dsimp only;rw[e3,xc,qo,e2];rfl
end
def kd(ds:List (List Int))(a x:Int):Int:=(ds.getD x.toNat []).getD a.toNat 0
theorem Jw(a b:Int):∃c,Ih a b=some c/\(c<0↔a<b):=by
 unfold Ih KN;have e:∀x,T9 x=some false:=λx=>by unfold T9 IJ;simp only[qt,ql]
 rw[qo,e,xc,qo,e,xc];simp only[qp,qb,qt];by_cases h1:a<b;·rw[qc h1];exact⟨_,rfl,by omega⟩
 ·rw[qd h1];by_cases h2:b<a;·rw[qc h2];exact⟨_,rfl,by omega⟩
  ·rw[qd h2];exact⟨_,rfl,by omega⟩
def iX(ds:List (List Int))(p:List Int)(a b:Nat):Bool:= !(List.range ds.length).all λi=> !(decide (dB ds i a<p.getD i 0)&&decide (dB ds i b<p.getD i 0))
section
variable {o:List Int}{ds:List (List Int)}
theorem Cv(hf:Fld o ds){p:List Int}(hp:p.length=ds.length){a b:Nat}(ha:a<o.length)(hb:b<o.length)(t w:List Int):aAl o ds p t w (a:Int) (b:Int)=some (iX ds p a b):=by
 have ae:=hf.clients;have hlen:=hf.len;have key:=bA (f:=λv=>(Kz ((a:Int),(b:Int),ds,(ds.length:Int),p,t,w) v).ev) (n:=ds.length) (λi=>(i:Int)) (λi=> !(decide (dB ds i a<p.getD i 0)&&decide (dB ds i b<p.getD i 0))) (.inl ():Unit⊕Unit) (.inr ())
  (λi hi _=>by
   have hr:=hf.rowLen i hi;have h1:=hf.at2 hi ha;have h2:=hf.at2 hi hb;have aa:i<p.length:=by omega
   have ab:a<(ds.getD i []).length:=by omega
   have ad:b<(ds.getD i []).length:=by omega
   have e1:(ds.getD i []).getD a 0=at2 ds i a:=rfl;have e2:(ds.getD i []).getD b 0=at2 ds i b:=rfl;have e3:at2 ds i a*2520=dB ds i a:=rfl;have e4:at2 ds i b*2520=dB ds i b:=rfl;by_cases c1:dB ds i a<p.getD i 0
   ·by_cases c2:dB ds i b<p.getD i 0;·simp(disch:=omega)only[EV,Kz,hi,aa,ab,ad,e1,e2,e3,e4,c1,c2]
    ·simp(disch:=omega)only[EV,Kz,hi,aa,ab,ad,e1,e2,e3,e4,c1,c2];rfl
   ·simp(disch:=omega)only[EV,Kz,hi,aa,ab,ad,e1,e2,e3,e4,c1];rfl)
  (by simp(disch:=omega)only[EV,Kz,xi])
 have k1:aLE ((a:Int),(b:Int),ds,(ds.length:Int),p,t,w) (0:Int)=some (bif (List.range ds.length).all λi=> !(decide (dB ds i a<p.getD i 0)&&decide (dB ds i b<p.getD i 0))then .inl ()else .inr ()):=key;unfold aAl aDl iX;cases h:(List.range ds.length).all λi=> !(decide (dB ds i a<p.getD i 0)&&decide (dB ds i b<p.getD i 0))with
 |false=>rw[h]at k1;simp(disch:=omega)only[EV,k1]
 |true=>rw[h]at k1;simp(disch:=omega)only[EV,k1]
def gX(t:List Int):List Int:=(List.range t.length).foldl (λacc a=>if 0<=t.getD a 0 then acc++ [(a:Int)]else acc) []
def jL(ds:List (List Int))(p:List Int)(l:List Int):List Int:=l.foldl (λacc a=>if acc.any (λb=>iX ds p a.toNat b.toNat)then acc else acc++ [a]) []
def rH(ds:List (List Int))(g:List Int×List Int×List Int):List Int:=dQ (jL ds g.1 (dS (λx=>g.2.1.getD x.toNat 0) (gX g.2.1)))
theorem uX(t:List Int):∀n:Nat,(∀x∈(List.range n).foldl (λacc a=>if 0<=t.getD a 0 then acc++ [(a:Int)]else acc) [],0<=x/\x<(n:Int))/\((List.range n).foldl (λacc a=>if 0<=t.getD a 0 then acc++ [(a:Int)]else acc) []).Pairwise (· < ·)/\((List.range n).foldl (λacc a=>if 0<=t.getD a 0 then acc++ [(a:Int)]else acc) []).length<=n
 |0=>⟨λx h=>(by cases h),List.Pairwise.nil,xm _⟩
 |n+1=>by
  obtain⟨h1,h2,h3⟩:=uX t n;rw[aV];generalize(List.range n).foldl (λacc a=>if 0<=t.getD a 0 then acc++ [(a:Int)]else acc) []=l at h1 h2 h3⊢;split
  ·refine⟨λx hx=>?_,xdp.2 ⟨h2,List.pairwise_singleton _ _,λa ha b hb=>?_⟩,by simp;omega⟩
   ·rcases xq.1 hx with hx|hx;·have:=h1 x hx;omega
    ·rw[xo.1 hx];omega
   ·rw[xo.1 hb];have:=h1 a ha;omega
  ·exact⟨λx hx=>by have:=h1 x hx;omega,h2,by omega⟩
theorem wS(ds:List (List Int))(p:List Int):∀l:List Int,(jL ds p l).Sublist l:=by
 intro l;have key:∀(l acc pre:List Int),acc.Sublist pre->(l.foldl (λacc a=>if acc.any (λb=>iX ds p a.toNat b.toNat)then acc else acc++ [a]) acc).Sublist (pre++l):=by
  intro l;induction l with
  |nil=>intro acc pre h;simpa using h
  |cons a l ih=>
   intro acc pre h;rw[Z2,show pre++a::l=(pre++ [a])++l by simp];refine ih _ _ ?_;split;·exact h.trans (List.sublist_append_left _ _)
   ·exact h.append (List.Sublist.refl _)
 exact key l [] [] (List.Sublist.refl _)
theorem Gr(hf:Fld o ds){g:List Int×(List Int×List Int)}(hg:GR o ds g):(∀x∈rH ds g,0<=x/\x<(o.length:Int))/\(rH ds g).length<=7:=by
 have hlen:=hf.len;obtain⟨h1,h2,h3⟩:=uX g.2.1 g.2.1.length;have hs:=(qN (K:=λx=>g.2.1.getD x.toNat 0) (gX g.2.1)).2;have hk:=wS ds g.1 (dS (λx=>g.2.1.getD x.toNat 0) (gX g.2.1));obtain⟨_,s2,s3⟩:=wF (jL ds g.1 (dS (λx=>g.2.1.getD x.toNat 0) (gX g.2.1)));have aa:=hg.tl;refine⟨λx hx=>?_,?_⟩;·have:=h1 x (hs.mem_iff.1 (hk.subset ((s3 x).1 hx)));omega
 ·show(dQ _).length<=7;rw[s2];have:=hk.length_le;rw[hs.length_eq]at this;have ab:(gX g.2.1).length<=g.2.1.length:=h3;omega
theorem KS{t:List Int}(ht:t.length<=1000)(y:List Int)(z w:List Int):aCl ((t.length:Int),o,ds,t,y,w) ((0:Int),z)=some ((List.range t.length).foldl (λacc a=>if 0<=t.getD a 0 then acc++ [(a:Int)]else acc) z)\/1000<z.length:=by
 by_cases hz:z.length<=1000
 ·left;have key:=(aR (f:=λv=>(Re ((t.length:Int),o,ds,t,y,w) v).ev) (n:=t.length) (mk:=λi (acc:List Int)=>((i:Int),acc)) (I:=λi acc=>acc.length<=1000+i) (g:=λacc a=>if 0<=t.getD a 0 then acc++ [(a:Int)]else acc) (fin:=λacc=>acc) (s0:=z) (by omega)
   (λi acc hi ha=>by
    have aa:∀x:Int,List.length [x]=1:=λ_=>rfl;by_cases h:0<=t.getD i 0
    ·refine⟨?_,by simp only[qj h,xj,aa];omega⟩;have hb:(acc.length+1)*8<=140737488355328:=by omega
     simp only[qj h];simp(disch:=omega)only[EV,Re,hi,h,aa,hb];rfl
    ·refine⟨?_,by simp only[qi h];omega⟩;simp only[qi h];simp(disch:=omega)only[EV,Re,hi,h];rfl)
   (λacc _=>by simp(disch:=omega)only[EV,Re,xi])).1
  exact key
 ·right;omega
theorem Ax(hf:Fld o ds){p:List Int}(hp:p.length=ds.length)(t w:List Int){l:List Int}(hl:∀x∈l,0<=x/\x<(o.length:Int))(af:l.length<=100):
  aGO ((l.length:Int),o,ds,l,p,t,w) ((0:Int),([]:List Int))=some (jL ds p l):=by
 have hlen:=hf.len;exact(dT (f:=λv=>(Sn ((l.length:Int),o,ds,l,p,t,w) v).ev) l 0 (mk:=λi (acc:List Int)=>((i:Int),acc)) (I:=λi acc=>acc.length<=i/\∀x∈acc,0<=x/\x<(o.length:Int)) (g:=λacc a=>if acc.any (λb=>iX ds p a.toNat b.toNat)then acc else acc++ [a]) (fin:=λacc=>acc) (s0:=[]) ⟨xm _,λx h=>by cases h⟩
  (λi acc hi ⟨h1,h2⟩=>by
   have hm:=hl _ (aG (d:=0) hi);have aa:∀x:Int,List.length [x]=1:=λ_=>rfl;have e1:=nG (l:=acc) (by omega) (p:=λab=>Option.bind (MK ab.1 o ds p t w (l.getD i 0)) λad=>some ad) (q:=λb=>iX ds p (l.getD i 0).toNat b.toNat) (λb hb=>by have ae:=h2 b hb;have ec:=Cv hf hp (a:=(l.getD i 0).toNat) (b:=b.toNat) (by omega) (by omega) t w;rw[xec hm.1,xec ae.1]at ec;show Option.bind (MK b o ds p t w (l.getD i 0)) _=_;unfold MK aEf;simp(disch:=omega)only[EV,ec]);cases h:acc.any λb=>iX ds p (l.getD i 0).toNat b.toNat with
   |true=>rw[h]at e1;refine⟨?_,by simp only[if_true];omega,by simpa using h2⟩;simp only[if_true];simp(disch:=omega)only[EV,Sn,hi,e1];rfl
   |false=>
    rw[h]at e1;have hb:(acc.length+1)*8<=140737488355328:=by omega
    refine⟨?_,by simp only[tN,if_false,xj,aa];omega,λx hx=>?_⟩;·simp only[tN,if_false];simp(disch:=omega)only[EV,Sn,hi,e1,aa,hb];rfl
    ·simp only[tN,if_false]at hx;rcases xq.1 hx with hx|hx;·exact h2 x hx
     ·rw[xo.1 hx];exact hm)
  (λacc _=>by simp(disch:=omega)only[EV,Sn,xi])).1
theorem yT(hf:Fld o ds)(h0:0<ds.length)(hv:uR o ds=some true):∃g,GR o ds g/\Cd o ds=some g/\Sw o ds=some (true,rH ds g):=by
 obtain⟨⟨p,t,w⟩,e1,hg⟩:=Le hf;have hlen:=hf.len;have ad:=hg.tl;simp only at ad;obtain⟨h1,h2,h3⟩:=uX t t.length;rcases KS (o:=o) (ds:=ds) (t:=t) (by omega) p [] w with e2|e2
 ·have ae:aCl ((t.length:Int),o,ds,t,p,w) ((0:Int),([]:List Int))=some (gX t):=e2;have hr:∀x∈gX t,0<=x/\x<(o.length:Int):=λx hx=>by have:=h1 x hx;omega
  have ai:(gX t).length<=t.length:=h3;have e3:=z0 (K:=λx=>t.getD x.toNat 0) (M:=λx=>0<=x/\x<(o.length:Int)) (f:=λaa=>Option.bind (LE aa.1 aa.2.1 p t w) λab=>some ab) (λx y hx hy=>by obtain⟨c,k1,k2⟩:=Jw (t.getD x.toNat 0) (t.getD y.toNat 0);have af:aC x t.length=true:=bK hx.1 (by omega);have ah:aC y t.length=true:=bK hy.1 (by omega);refine⟨c,?_,k2⟩;show Option.bind (LE x y p t w) _=_;unfold LE aFd;simp(disch:=omega)only[EV,af,ah,k1]) hr (by omega);have hs:=(qN (K:=λx=>t.getD x.toNat 0) (gX t)).2;have aj:=hs.length_eq;have e4:=Ax hf (p:=p) hg.pl t w (l:=dS (λx=>t.getD x.toNat 0) (gX t)) (λx hx=>hr x (hs.mem_iff.1 hx)) (by omega);have hk:=(wS ds p (dS (λx=>t.getD x.toNat 0) (gX t))).length_le;have e5:=F9 (l:=jL ds p (dS (λx=>t.getD x.toNat 0) (gX t))) (by omega);have hd:((((ds.length:Nat):Int))==0)=false:=beq_eq_false_iff_ne.2 (by omega);refine⟨(p,t,w),hg,e1,?_⟩;unfold Sw OA rH;simp(disch:=omega)only[EV,hv,hd,e1,ae,e3,e4,e5]
 ·simp at e2
end
section
variable {J S O:List Nat}{f:Nat->Int}{d:Nat->Nat->Int}{σ ω:Nat->Nat}
end
def Dh:Nat->List (List Int)
 |0=>[[]]
 |n+1=>Dh n++(Dh n).map λs=>s++ [(n:Int)]
theorem qK:∀(n:Nat) {s:List Int},s.Pairwise (· < ·)->(∀x∈s,0<=x/\x<(n:Int))->s∈Dh n
 |0,s,_,h=>by
  cases s with
  |nil=>exact xo.2 rfl
  |cons x s=>have:=h x (by simp);omega
 |n+1,s,hp,h=>by
  rw[Dh,xq];rcases xfo s with rfl|⟨i,z,rfl⟩
  ·exact .inl (qK n hp λx hx=>by cases hx)
  ·rw[List.concat_eq_append]at hp h⊢;obtain⟨p1,_,p3⟩:=xdp.1 hp;have hz:=h z (by simp);by_cases e:z=(n:Int)
   ·refine .inr (xaf.2 ⟨i,qK n p1 λx hx=>?_,by rw[e]⟩);have h1:=h x (F5 _ hx);have h2:=p3 x hx z (by simp);omega
   ·refine .inl (qK n hp λx hx=>?_);have h1:=h x hx;rcases xq.1 hx with hx|hx;·have h2:=p3 x hx z (by simp);omega
    ·rw[xo.1 hx]at h1⊢;omega
def bits(h:List Int):Nat:=h.foldl (λx a=>x|||2^a.toNat) 0
def lO(x:Nat):List Int:=((List.range 7).filter x.testBit).map λ(a:Nat)=>(a:Int)
def VQ(x:Int)(a:Nat):Int:=IntKind.wrap .u64 (BitVec.toNat ((BitVec.ofInt (IntKind.bits .u64) x)||| (BitVec.ofInt (IntKind.bits .u64) (IntKind.wrap .u64 ((1:Int)*2^(min a (IntKind.bits .u64)))))))
def anB(x:Int)(a:Nat):Int:=IntKind.wrap .u64 (BitVec.toNat ((BitVec.ofInt (IntKind.bits .u64) x)&&& ~~~(BitVec.ofInt (IntKind.bits .u64) (IntKind.wrap .u64 ((1:Int)*2^(min a (IntKind.bits .u64)))))))
def clr(x a:Nat):Nat:=if x.testBit a then x-2^a else x
noncomputable def Tp(x:Nat):Bool:=(zW (x:Int)==some (lO x))&&(List.range 7).all λ(a:Nat)=>
 (zY (x:Int) (a:Int)==some (x.testBit a))&&((lO x).contains (a:Int)==x.testBit a)&&(VQ (x:Int) a==((x|||2^a:Nat):Int))&&Nat.blt (x|||2^a) 128&&(anB (x:Int) a==((clr x a:Nat):Int))&&Nat.blt (clr x a) 128&&
 (x.testBit a||(lO (x|||2^a)==ins (a:Int) (lO x)))&&(lO (clr x a)==wo (lO x) (a:Int))
theorem Nr:(List.range 128).all Tp=true:=by kernel_rfl
def aKi(s:List Int):Bool:=(lO (bits s)==s)&&Nat.blt (bits s) 128
theorem OZ:(Dh 7).all aKi=true:=by kernel_rfl
structure BagP(x:Nat):Prop where
 list:zW (x:Int)=some (lO x)
 has:∀a:Nat,a<7->zY (x:Int) (a:Int)=some ((lO x).contains (a:Int))
 put:∀a:Nat,a<7->(a:Int)∉lO x->∃y:Nat,y<128/\VQ (x:Int) a=(y:Int)/\lO y=ins (a:Int) (lO x)
 cut:∀a:Nat,a<7->∃y:Nat,y<128/\anB (x:Int) a=(y:Int)/\lO y=wo (lO x) (a:Int)
theorem V5{x:Nat}(hx:x<128):BagP x:=by
 have h:=xr.1 Nr x (xap.2 hx);simp only[Tp,xg,xr,xap,qh,Z1]at h;obtain⟨h1,h2⟩:=h;refine⟨h1,λa ha=>?_,λa ha hn=>?_,λa ha=>?_⟩;·obtain⟨⟨⟨⟨⟨⟨⟨k1,k2⟩,k3⟩,k4⟩,k5⟩,k6⟩,k7⟩,k8⟩:=h2 a ha;rw[k2];exact k1
 ·obtain⟨⟨⟨⟨⟨⟨⟨k1,k2⟩,k3⟩,k4⟩,k5⟩,k6⟩,k7⟩,k8⟩:=h2 a ha;refine⟨x|||2^a,by simpa using k4,k3,?_⟩;rcases k7 with k7|k7;·rw[k7]at k2;exact absurd (xcf.1 k2) hn
  ·exact k7
 ·obtain⟨⟨⟨⟨⟨⟨⟨k1,k2⟩,k3⟩,k4⟩,k5⟩,k6⟩,k7⟩,k8⟩:=h2 a ha;exact⟨clr x a,by simpa using k6,k5,k8⟩
theorem uA{n:Nat}(hn:n<=7){s:List Int}(h:ris n s):lO (bits s)=s/\bits s<128:=by
 have hm:=qK 7 h.2 λx hx=>by have:=h.1 x hx;omega
 have hk:=xr.1 OZ s hm;simp only[aKi,xg,qh]at hk;exact⟨hk.1,by simpa using hk.2⟩
theorem aJa:∀(x a:Nat),x<128->a<7->x|||2^a<128:=λx a hx ha=>Nat.or_lt_two_pow (n:=7) hx (Nat.pow_lt_pow_right (by omega) ha)
theorem YL{x a:Nat}(hx:x<128)(ha:a<7):VQ (x:Int) a=((x|||2^a:Nat):Int):=by have h:=xr.1 Nr x (xap.2 hx);simp only[Tp,xg,xr,xap,qh,Z1]at h;exact(h.2 a ha).1.1.1.1.1.2
theorem z9{n:Nat}(hn:n<=7){s:List Int}(h:ris n s):Ya s=some (bits s:Int):=by
 have hl:=h.len;have key:=(dT (f:=λv=>(GV (s,((s.length:Nat):Int)) v).ev) s 0 (mk:=λi (x:Nat)=>((x:Int),(i:Int))) (I:=λ_ x=>x<128) (g:=λx a=>x|||2^a.toNat) (fin:=λx=>(x:Int)) (s0:=0) (by omega)
  (λi x hi hx=>by
   have ha:=h.1 _ (aG (d:=0) hi);obtain⟨a,e⟩:∃a:Nat,s.getD i 0=(a:Int):=⟨(s.getD i 0).toNat,by omega⟩
   have k2:=YL hx (show a<7 by omega);unfold VQ at k2;rw[e,xy];refine⟨?_,aJa x a hx (by omega)⟩;have i1:aC (i:Int) s.length=true:=bK (by omega) (by omega);have i2:(0:Int)<=(a:Int):=by omega
   have i3:(i:Int)<((s.length:Nat):Int):=by omega
   simp only[GV,qp,qq,qt,i1,xy,e,i2,i3,decide_true,qa];rw[k2,aL (by omega) (by omega)];rfl)
  (λx _=>by simp(disch:=omega)only[EV,GV,xi])).1
 have k2:aJm (s,((s.length:Nat):Int)) (0,0)=some (bits s:Int):=key;unfold Ya aCW;simp(disch:=omega)only[EV,k2]
theorem iN{n:Nat}(hn:n<=7){s:List Int}(h:ris n s){a:Int}(h0:0<=a)(ha:a<7):zY (bits s:Int) a=some (s.contains a):=by
 obtain⟨e,hb⟩:=uA hn h;obtain⟨a,rfl⟩:∃b:Nat,a=(b:Int):=⟨a.toNat,by omega⟩
 have:=(V5 hb).has a (by omega);rwa [e]at this
theorem I3{n:Nat}(hn:n<=7){s:List Int}(h:ris n s){a:Int}(h0:0<=a)(ha:a<7)(hx:a∉s):zW (VQ (bits s:Int) a.toNat)=some (ins a s):=by
 obtain⟨e,hb⟩:=uA hn h;obtain⟨a,rfl⟩:∃b:Nat,a=(b:Int):=⟨a.toNat,by omega⟩
 obtain⟨y,y1,y2,y3⟩:=(V5 hb).put a (by omega) (by rw[e];exact hx);rw[xy,y2,(V5 y1).list,y3,e]
theorem L2{n:Nat}(hn:n<=7){s:List Int}(h:ris n s){a:Int}(h0:0<=a)(ha:a<7):zW (anB (bits s:Int) a.toNat)=some (wo s a):=by
 obtain⟨e,hb⟩:=uA hn h;obtain⟨a,rfl⟩:∃b:Nat,a=(b:Int):=⟨a.toNat,by omega⟩
 obtain⟨y,y1,y2,y3⟩:=(V5 hb).cut a (by omega);rw[xy,y2,(V5 y1).list,y3,e]
theorem A2{n:Nat}(hn:n<=7){s:List Int}(h:ris n s){a b:Int}(h0:0<=a)(ha:a<7)(h1:0<=b)(hb:b<7)(hx:b∉s):PD s a b=some (ins b (wo s a)):=by obtain⟨e,aa⟩:=uA hn h;have e0:=z9 hn h;obtain⟨y,y1,y2,y3⟩:=(V5 aa).cut a.toNat (by omega);rw[e,show((a.toNat:Nat):Int)=a by omega]at y3;obtain⟨z,z1,z2,z3⟩:=(V5 y1).put b.toNat (by omega) (by rw[y3,show((b.toNat:Nat):Int)=b by omega];exact lL hx);rw[y3,show((b.toNat:Nat):Int)=b by omega]at z3;have e1:=(V5 z1).list;rw[z3,<-z2,<-y2]at e1;unfold VQ anB at e1;unfold PD WV;rw[qo,e0,xc,qq,qc h0,qa,qq,qc h1,qa,qo,e1,xc,qt]
section
variable (o:List Int) (ds:List (List Int)) (S L:List Int)
end
section
variable {o:List Int}{ds:List (List Int)}{S L:List Int}
end
section
variable {o:List Int}{ds:List (List Int)}{S L:List Int}
end
section
variable (o:List Int) (ds:List (List Int))
end
section
variable {o:List Int}{ds:List (List Int)}{S L:List Int}
end
section
variable {o:List Int}{ds:List (List Int)}
end
theorem a9{V R:Type}{f:V->Option (V⊕R)}{α:Type}{n:Nat}(h:Nat->Option α)(mk:Nat->V)(yes:α->R)(no:R)
  (hs:∀i,i<n->f (mk i)=some (match h i with|some m=>.inr (yes m)|none=>.inl (mk (i+1)))) (he:f (mk n)=some (.inr no)):
  ∀k i,i+k=n->aB f (mk i)=some (((List.range' i k).findSome? h).elim no yes):=by
 intro k;induction k with
 |zero=>
  intro i hi;have:i=n:=by omega
  subst this;rw[aF,he];rfl
 |succ k ih=>
  intro i hi;rw[aF,hs i (by omega),List.range'_succ,xdh];cases h i with
  |some m=>rfl
  |none=>exact ih (i+1) (by omega)
theorem nN{V R:Type}{f:V->Option (V⊕R)}{α:Type}{n:Nat}(h:Nat->Option α)(mk:Nat->V)(yes:α->R)(no:R)
  (hs:∀i,i<n->f (mk i)=some (match h i with|some m=>.inr (yes m)|none=>.inl (mk (i+1)))) (he:f (mk n)=some (.inr no)):
  aB f (mk 0)=some (((List.range n).findSome? h).elim no yes):=by
 rw[List.range_eq_range'];exact a9 h mk yes no hs he n 0 (by omega)
def MT(s:List Int)(a:Nat):Option (List Int):=if s.contains (a:Int)then none else some (ins (a:Int) s)
def Vy(s:List Int)(a:Nat):Option (List Int):=if s.contains (a:Int)/\0<(wo s (a:Int)).length then some (wo s (a:Int))else none
def EL(s w:List Int)(b:Nat):Option (List Int):=if s.contains (b:Int)then none else some (ins (b:Int) w)
def S7(n:Nat)(s:List Int)(a:Nat):List (List Int):=if s.contains (a:Int)then(List.range n).filterMap (EL s (wo s (a:Int)))else[]
theorem vQ{α:Type}(g:Nat->Option α)(a:Nat):[a].filterMap g=(g a).toList:=by rw[List.filterMap_cons];cases g a<;>rfl
theorem aDx(n:Nat)(s w:List Int)(acc:List (List Int)):swF n s w acc=acc++(List.range n).filterMap (EL s w):=by
 unfold swF;induction n with
 |zero=>simp
 |succ n ih=>
  rw[aV,ih,xeh,xfp,<-Vt,vQ];cases hc:s.contains (n:Int)with
  |true=>
   have e:EL s w n=none:=by unfold EL;rw[hc];rfl
   rw[e,qj rfl];exact(zL _).symm
  |false=>
   have e:EL s w n=some (ins (n:Int) w):=by unfold EL;rw[hc];rfl
   rw[e,qi (by simp)];rfl
theorem DQ(n:Nat)(s:List Int):∀k,(List.range k).foldl (iG n s) ([],[],[])=((List.range k).filterMap (MT s),(List.range k).filterMap (Vy s),(List.range k).flatMap (S7 n s))
 |0=>rfl
 |k+1=>by
  rw[aV,DQ n s k,xeh,xfp,xfp,List.flatMap_append];unfold iG;cases hc:s.contains (k:Int)with
  |true=>
   simp only[if_true,aDx];have h1:[k].filterMap (MT s)=[]:=by
    have:MT s k=none:=by unfold MT;rw[hc];rfl
    rw[vQ,this];rfl
   have h3:[k].flatMap (S7 n s)=(List.range n).filterMap (EL s (wo s (k:Int))):=by
    have:S7 n s k=(List.range n).filterMap (EL s (wo s (k:Int))):=by unfold S7;rw[hc];rfl
    rw[xel,List.flatMap_nil,zL,this]
   rw[h1,h3,zL];by_cases hp:0<(wo s (k:Int)).length
   ·have h2:[k].filterMap (Vy s)=[wo s (k:Int)]:=by
     have:Vy s k=some (wo s (k:Int)):=by unfold Vy;rw[qj ⟨hc,hp⟩]
     rw[vQ,this];rfl
    rw[h2,qj hp]
   ·have h2:[k].filterMap (Vy s)=[]:=by
     have:Vy s k=none:=by unfold Vy;rw[qi λh=>hp h.2]
     rw[vQ,this];rfl
    rw[h2,qi hp,zL]
  |false=>
   simp only[tN,if_false];have h1:[k].filterMap (MT s)=[ins (k:Int) s]:=by
    have:MT s k=some (ins (k:Int) s):=by unfold MT;rw[hc];rfl
    rw[vQ,this];rfl
   have h2:[k].filterMap (Vy s)=[]:=by
    have:Vy s k=none:=by unfold Vy;rw[hc];simp
    rw[vQ,this];rfl
   have h3:[k].flatMap (S7 n s)=[]:=by
    have:S7 n s k=[]:=by unfold S7;rw[hc];rfl
    rw[xel,List.flatMap_nil,zL,this]
   rw[h1,h2,h3,zL,zL]
def Sf(q:List Int->Bool)(x:Option (List Int)):Option (List Int):=match x with
 |some m=>bif q m then some m else none
 |none=>none
theorem uO(g:Nat->Option (List Int))(q:List Int->Bool):∀l:List Nat,(l.filterMap g).find? q=l.findSome? λa=>Sf q (g a)
 | []=>rfl
 |a::l=>by
  rw[List.filterMap_cons,xdh];cases ha:g a with
  |none=>show(l.filterMap g).find? q=l.findSome? λa=>Sf q (g a);exact uO g q l
  |some m=>
   show(m::l.filterMap g).find? q=_;rw[xgz];cases hq:q m with
   |true=>simp only[Sf,hq,qa]
   |false=>simp only[Sf,hq,qb];exact uO g q l
theorem P1(g:Nat->List (List Int))(q:List Int->Bool):∀l:List Nat,(l.flatMap g).find? q=l.findSome? λa=>(g a).find? q
 | []=>rfl
 |a::l=>by rw[xel,xfl,xdh,P1 g q l];cases(g a).find? q<;>rfl
theorem Dj:∀{l m:List Int},l.Pairwise (· < ·)->m.Pairwise (· < ·)->(∀x,x∈l↔x∈m)->l=m
 | [],[],_,_,_=>rfl
 | [],y::m,_,_,h=>by have:=(h y).2 (by simp);cases this
 |x::l,[],_,_,h=>by have:=(h x).1 (by simp);cases this
 |x::l,y::m,h1,h2,h=>by
  obtain⟨a1,a2⟩:=xbk.1 h1;obtain⟨b1,b2⟩:=xbk.1 h2;have e:x=y:=by
   rcases xae.1 ((h x).1 (by simp))with e|hx;·exact e
   ·rcases xae.1 ((h y).2 (by simp))with e|hy;·exact e.symm
    ·have:=b1 x hx;have:=a1 y hy;omega
  subst e;rw[Dj a2 b2 λz=>?_];constructor
  ·intro hz;rcases xae.1 ((h z).1 (xt _ hz))with e|aa;·have:=a1 z hz;omega
   ·exact aa
  ·intro hz;rcases xae.1 ((h z).2 (xt _ hz))with e|aa;·have:=b1 z hz;omega
   ·exact aa
theorem O0{n:Nat}{s:List Int}(h:ris n s):s=((List.range n).filter λa:Nat=>s.contains (a:Int)).map λa:Nat=>(a:Int):=by
 refine Dj h.2 ?_ λx=>?_;·rw[List.pairwise_map];exact(List.pairwise_lt_range.filter _).imp λh=>by omega
 ·constructor;·intro hx;have hb:=h.1 x hx;refine xaf.2 ⟨x.toNat,xaj.2 ⟨xap.2 (by omega),?_⟩,by omega⟩;rw[show((x.toNat:Nat):Int)=x by omega];exact xcf.2 hx
  ·intro hx;obtain⟨a,ha,rfl⟩:=xaf.1 hx;exact xcf.1 (xaj.1 ha).2
theorem fS{α:Type}(p:Nat->Bool)(h:Int->Option α):∀l:List Nat,((l.filter p).map λa:Nat=>(a:Int)).findSome? h=l.findSome? λa=>if p a then h (a:Int)else none
 | []=>rfl
 |a::l=>by
  rw[WM,xdh];cases hp:p a with
  |true=>
   simp only[if_true,P0,xdh];cases h (a:Int)with
   |some m=>rfl
   |none=>exact fS p h l
  |false=>simp only[tN,if_false];exact fS p h l
theorem I5{s:List Int}(hp:s.Pairwise (· < ·)){a:Int}(ha:a∈s):(wo s a).length+1=s.length:=by
 induction s with
 |nil=>cases ha
 |cons x s ih=>
  obtain⟨h1,h2⟩:=xbk.1 hp;unfold wo;rw[WM];by_cases e:x=a
  ·subst e;have hf:s.filter (λy=>y !=x)=s:=xfw.2 λy hy=>by have:=h1 y hy;simp;omega
   simp[hf]
  ·have hm:a∈s:=by
    rcases xae.1 ha with h|h;·exact absurd h.symm e
    ·exact h
   have hb:(x !=a)=true:=by simpa using e
   have:=ih h2 hm;unfold wo at this;rw[hb,qj rfl,xk,xk,this]
def opB(t:List Int->Bool)(s:List Int)(a:Nat):Option (List Int):=Sf t (MT s a)
def WS(t:List Int->Bool)(s:List Int)(x:Int):Option (List Int):=if 1<s.length then Sf t (some (wo s x))else none
def OT(t:List Int->Bool)(n:Nat)(s:List Int)(x:Int):Option (List Int):=(List.range n).findSome? λb=>Sf t (EL s (wo s x) b)
theorem V8{n:Nat}{s:List Int}(h:ris n s)(t:List Int->Bool):(eH n s).find? t=(((List.range n).findSome? (opB t s)).or (s.findSome? (WS t s))).or (s.findSome? (OT t n s)):=by
 have e:=DQ n s n;have h2:s.findSome? (WS t s)=(List.range n).findSome? λa=>Sf t (Vy s a):=by
  have h0:=fS (λa:Nat=>s.contains (a:Int)) (WS t s) (List.range n);rw[<-O0 h]at h0;rw[h0];congr 1;funext a;unfold WS Vy;cases hc:s.contains (a:Int)with
  |false=>simp[Sf]
  |true=>
   have hl:=I5 h.2 (xcf.1 hc);by_cases h1:1<s.length;·rw[qj rfl,qj h1,qj ⟨rfl,by omega⟩]
   ·rw[qj rfl,qi h1,qi (by omega)];rfl
 have h3:s.findSome? (OT t n s)=(List.range n).findSome? λa=>(S7 n s a).find? t:=by
  have h0:=fS (λa:Nat=>s.contains (a:Int)) (OT t n s) (List.range n);rw[<-O0 h]at h0;rw[h0];congr 1;funext a;unfold OT S7;cases hc:s.contains (a:Int)with
  |false=>simp
  |true=>rw[qj rfl,qj rfl,uO]
 unfold eH Ga;rw[e,xfl,xfl,uO,uO,P1,h2,h3];rfl
def X0(o:List Int)(ds:List (List Int))(T:Int)(m:List Int):Bool:=decide (dD o ds m<T)
theorem tF{o m:List Int}{ds:List (List Int)}(hf:Fld o ds)(hm:ris o.length m)(h0:m≠ [])(T:Int):
  Tb m o ds T=some (bif X0 o ds T m then .inr (m,o,ds,T)else .inl (m,o,ds,T)):=by
 have hp:=xar.2 h0;have e:a6 o ds m=some (dD o ds m):=uB hf (hm.places hf.len) hp;unfold Tb aCr X0;rw[qo,e,xc,qp,qq,qc hp,qa];cases decide (dD o ds m<T)<;>rfl
theorem FI(x:Int)(l:List Int):ins x l≠ []:=λe=>by have:=pT x l;rw[e]at this;simp at this
theorem aBK{o s:List Int}{ds:List (List Int)}(hf:Fld o ds)(hs:ris o.length s)(T:Int):
  aLS (s,(bits s:Int),((o.length:Nat):Int),((o.length:Nat):Int)) (0,o,ds,T)=some (((List.range o.length).findSome? (opB (X0 o ds T) s)).elim (.inl (o,ds,T)) λm=>.inr (o,ds,T,m)):=by
 have h7:=hf.len;have h:=nN (f:=λv=>(Xq (s,(bits s:Int),((o.length:Nat):Int),((o.length:Nat):Int)) v).ev) (n:=o.length) (opB (X0 o ds T) s) (λi=>((i:Int),o,ds,T)) (λm=>.inr (o,ds,T,m)) (.inl (o,ds,T))
  (λi hi=>by
   have e1:=iN h7 hs (a:=(i:Int)) (by omega) (by omega);have aa:(i:Int)<((o.length:Nat):Int):=by omega
   have hw:IntKind.wrap .i64 ((i:Int)+1)=((i+1:Nat):Int):=by rw[aL (by omega) (by omega)];rfl
   unfold opB MT Xq;dsimp only;rw[qp,qc aa,qa,qo,e1,xc,qp,hw];cases hc:s.contains (i:Int)with
   |true=>rfl
   |false=>
    have hn:=cB hc;have e2:=I3 h7 hs (a:=(i:Int)) (by omega) (by omega) hn;unfold VQ at e2;have e3:=tF hf (hs.ins (a:=(i:Int)) (by omega) (by omega) hn) (FI _ _) T;have g0:(0:Int)<=(i:Int):=by omega
    rw[nL,qa,qq,qc g0,qa,qo,e2,xc,qo,e3,xc];simp only[tN,if_false,Sf];cases X0 o ds T (ins (i:Int) s)<;>rfl)
  (by
   have aa:¬((o.length:Nat):Int)<((o.length:Nat):Int):=by omega
   unfold Xq;dsimp only;rw[qp,qd aa,qb,qt])
 exact h
theorem rU{α:Type}(h:Int->Option α)(s:List Int):(List.range s.length).findSome? (λi=>h (s.getD i 0))=s.findSome? h:=by
 induction s with
 |nil=>rfl
 |cons x s ih=>
  rw[xk,xfk,xdh,xdh,List.findSome?_map];cases hx:h x with
  |some m=>simp[hx]
  |none=>have h1:h ((x::s).getD 0 0)=none:=hx;rw[h1];exact ih
theorem aCM{o s:List Int}{ds:List (List Int)}(hf:Fld o ds)(hs:ris o.length s)(T:Int):
  aJp (s,(bits s:Int),((o.length:Nat):Int),s,((s.length:Nat):Int)) (0,o,ds,T)=some ((s.findSome? (WS (X0 o ds T) s)).elim (.inl (o,ds,T)) λm=>.inr (o,ds,T,m)):=by
 have h7:=hf.len;have ae:=hs.len;rw[<-rU];have h:=nN (f:=λv=>(AA (s,(bits s:Int),((o.length:Nat):Int),s,((s.length:Nat):Int)) v).ev) (n:=s.length) (λi=>WS (X0 o ds T) s (s.getD i 0)) (λi=>((i:Int),o,ds,T)) (λm=>.inr (o,ds,T,m)) (.inl (o,ds,T))
  (λi hi=>by
   have aa:(i:Int)<((s.length:Nat):Int):=by omega
   have hw:IntKind.wrap .i64 ((i:Int)+1)=((i+1:Nat):Int):=by rw[aL (by omega) (by omega)];rfl
   have ad:=dM hi;have hm:=aG (d:=0) hi;have hb:=hs.1 _ hm;unfold WS AA;dsimp only;rw[qp,qc aa,qa,qq,ad,qa,qp,hw,xy];by_cases h1:1<s.length
   ·have ab:(1:Int)<((s.length:Nat):Int):=by omega
    have e2:=L2 h7 hs hb.1 (by omega);unfold anB at e2;have hl:=I5 hs.2 hm;have e3:=tF hf (hs.wo (s.getD i 0)) (xar.1 (by omega)) T;rw[qc ab,qa,qq,qc hb.1,qa,qo,e2,xc,qo,e3,xc,qj h1];simp only[Sf];cases X0 o ds T (wo s (s.getD i 0))<;>rfl
   ·have ab:¬(1:Int)<((s.length:Nat):Int):=by omega
    rw[qd ab,qb,qi h1];rfl)
  (by
   have aa:¬((s.length:Nat):Int)<((s.length:Nat):Int):=by omega
   unfold AA;dsimp only;rw[qp,qd aa,qb,qt])
 exact h
theorem aDu{o s:List Int}{ds:List (List Int)}(hf:Fld o ds)(hs:ris o.length s)(T:Int){a:Int}(ha:a∈s)(k:(List (Int))×(Int)×(Int)×(Int)×(List (Int))×(Int)×(Int)×(Int))(k1:k.1=s)(k2:k.2.1=(bits s:Int))(k3:k.2.2.2.1=a)(k4:k.2.2.2.2.2.2.2=((o.length:Nat):Int)):
  aIs k (0,o,ds,T)=some ((OT (X0 o ds T) o.length s a).elim (.inl (o,ds,T)) λm=>.inr (o,ds,T,m)):=by
 have h7:=hf.len;have ab:=hs.1 a ha;have h:=nN (f:=λv=>(Wp k v).ev) (n:=o.length) (λb=>Sf (X0 o ds T) (EL s (wo s a) b)) (λi=>((i:Int),o,ds,T)) (λm=>.inr (o,ds,T,m)) (.inl (o,ds,T))
  (λi hi=>by
   have e1:=iN h7 hs (a:=(i:Int)) (by omega) (by omega);have aa:(i:Int)<((o.length:Nat):Int):=by omega
   have hw:IntKind.wrap .i64 ((i:Int)+1)=((i+1:Nat):Int):=by rw[aL (by omega) (by omega)];rfl
   unfold EL Wp;dsimp only;rw[k1,k2,k3,k4,qp,qc aa,qa,qo,e1,xc,qp,hw];cases hc:s.contains (i:Int)with
   |true=>rfl
   |false=>have hn:=cB hc;have e2:=A2 h7 hs (a:=a) (b:=(i:Int)) (by omega) (by omega) (by omega) (by omega) hn;have e3:=tF hf ((hs.wo a).ins (a:=(i:Int)) (by omega) (by omega) (lL hn)) (FI _ _) T;rw[nL,qa,qo,e2,xc,qo,e3,xc];simp only[tN,if_false,Sf];cases X0 o ds T (ins (i:Int) (wo s a))<;>rfl)
  (by
   have aa:¬((o.length:Nat):Int)<((o.length:Nat):Int):=by omega
   unfold Wp;dsimp only;rw[k4,qp,qd aa,qb,qt])
 exact h
theorem aGo{o s:List Int}{ds:List (List Int)}(hf:Fld o ds)(hs:ris o.length s)(T:Int):
  aIF (s,(bits s:Int),((o.length:Nat):Int),s,((s.length:Nat):Int)) (0,o,ds,T)=some ((s.findSome? (OT (X0 o ds T) o.length s)).elim (.inl (o,ds,T)) λm=>.inr (o,ds,T,m)):=by
 have h7:=hf.len;have ad:=hs.len;rw[<-rU];have h:=nN (f:=λv=>(GL (s,(bits s:Int),((o.length:Nat):Int),s,((s.length:Nat):Int)) v).ev) (n:=s.length) (λi=>OT (X0 o ds T) o.length s (s.getD i 0)) (λi=>((i:Int),o,ds,T)) (λm=>.inr (o,ds,T,m)) (.inl (o,ds,T))
  (λi hi=>by
   have aa:(i:Int)<((s.length:Nat):Int):=by omega
   have hw:IntKind.wrap .i64 ((i:Int)+1)=((i+1:Nat):Int):=by rw[aL (by omega) (by omega)];rfl
   have ab:=dM hi;have hm:=aG (d:=0) hi;have e1:=aDu hf hs T hm (s,(bits s:Int),((o.length:Nat):Int),(s.getD i 0),s,((s.length:Nat):Int),(i:Int),((o.length:Nat):Int)) rfl rfl rfl rfl;unfold GL;dsimp only;rw[qp,qc aa,qa,qq,ab,qa,qo,hw,xy,e1,xc];cases OT (X0 o ds T) o.length s (s.getD i 0)<;>rfl)
  (by
   have aa:¬((s.length:Nat):Int)<((s.length:Nat):Int):=by omega
   unfold GL;dsimp only;rw[qp,qd aa,qb,qt])
 exact h
theorem AP{o s:List Int}{ds:List (List Int)}(hf:Fld o ds)(hs:ris o.length s)(T:Int):
  KY o ds s o ds T=some (((eH o.length s).find? (X0 o ds T)).elim (.inl (o,ds,T)) λm=>.inr (o,ds,T,m)):=by
 have h7:=hf.len;have e0:=z9 h7 hs;have e1:=aBK hf hs T;have e2:=aCM hf hs T;have e3:=aGo hf hs T;rw[V8 hs];unfold KY aCU;rw[qo,e0,xc,qo,e1,xc];cases(List.range o.length).findSome? (opB (X0 o ds T) s)with
 |some m=>rfl
 |none=>
  simp only[Option.elim_none,Aj,qo];rw[e2,xc];cases s.findSome? (WS (X0 o ds T) s)with
  |some m=>rfl
  |none=>simp only[Option.elim_none,Aj,qo];rw[e3,xc];cases s.findSome? (OT (X0 o ds T) o.length s)<;>rfl
theorem sT{o s:List Int}{ds:List (List Int)}(hf:Fld o ds)(hs:ris o.length s)(h0:s≠ []):MP o ds s=some (match aT o ds s with|some m=>(true,m)|none=>(false,[])):=by
 have h7:=hf.len;have e:a6 o ds s=some (dD o ds s):=uB hf (hs.places h7) (xar.2 h0);have e1:=AP hf hs (dD o ds s);have e2:(eH o.length s).find? (X0 o ds (dD o ds s))=aT o ds s:=rfl;rw[e2]at e1;unfold MP aAW;rw[qo,e,xc,qo,e1,xc];cases hb:aT o ds s with
 |none=>rfl
 |some m=>have hp:=xar.2 (dI hs hb).2.1;simp only[Option.elim_some,HB,qq];rw[qc hp];rfl
theorem DR{o:List Int}{ds:List (List Int)}(hf:Fld o ds):∀(m:Nat) {s:List Int} (many:Int),0<=many->many+(m:Int)<=1000000000->ris o.length s->s≠ []->dD o ds s<=(m:Int)->
  FK (o,ds) (many,s)=some (many+((mM o ds m s).1:Int),(mM o ds m s).2):=by
 have out:∀{s:List Int} (many:Int),ris o.length s->s≠ []->aT o ds s=none->FK (o,ds) (many,s)=some (many,s):=λ{s} many hs h0 hb=>by have e1:=sT hf hs h0;rw[hb]at e1;unfold FK;rw[aF];unfold BK;dsimp only;rw[qo,e1];rfl
 intro m;induction m with
 |zero=>
  intro s many h1 h2 hs h0 ht;have hb:aT o ds s=none:=by
   cases hb:aT o ds s with
   |none=>rfl
   |some t=>obtain⟨a,b,c⟩:=dI hs hb;have:=wD hf a b;omega
  rw[out many hs h0 hb];simp[mM]
 |succ m ih=>
  intro s many h1 h2 hs h0 ht;cases hb:aT o ds s with
  |none=>rw[out many hs h0 hb];simp[mM,hb]
  |some t=>
   obtain⟨a,b,c⟩:=dI hs hb;have e1:=sT hf hs h0;rw[hb]at e1;have hw:IntKind.wrap .i64 (many+1)=many+1:=aL (by omega) (by omega);have aa:=ih (s:=t) (many+1) (by omega) (by omega) a b (by omega);unfold FK at aa⊢;rw[aF];have ab:(BK (o,ds) (many,s)).ev=some (.inl (many+1,t)):=by unfold BK;dsimp only;rw[qo,e1,xc,qp,hw];rfl
   rw[ab];simp only;rw[aa];simp only[mM,hb,xe,Ut,qm];omega
theorem Qb{o:List Int}{ds:List (List Int)}(ho:aI o)(hd:dL ds){s:List Int}(hs:aI s):WU o ds s=some (bif dV o ds s then(((oD o ds s).1:Int),true,(oD o ds s).2)else(0,false,[])):=by
 have e1:=mF ho hd hs;unfold WU aCw;rw[qo,e1,xc,qp];cases hb:dV o ds s with
 |false=>rfl
 |true=>
  obtain⟨hf,hp,h0⟩:=rF hs hb;have hr:ris o.length s:=by unfold dV at hb;simp only[xg]at hb;exact ris_iff.1 hb.2.1
  have aa:s≠ []:=xar.1 h0;have e2:D5 s=some s:=by unfold aI at hs;unfold D5 sQ;rw[qj (by omega)]
  have e4:=DR hf 103809717 (s:=s) 0 (by omega) (by omega) hr aa (wD hf hr aa).2;rw[xl,qb,qo,e2,xc,qo,e4,xc,qt,qa,Int.zero_add];rfl
theorem Wn{o:List Int}{ds:List (List Int)}(ho:aI o)(hd:dL ds)(hf:Fld o ds):aCg o ds=some (true,pU o ds):=by
 have hS:=pD hf.pos hf.len;have hl:=kJ hS hf.len;have aa:=zG hf.pos hf.len;obtain⟨x,e1,e2,e3⟩:=hS.im;have af:x.1.length=(aN o.length).length:=by rw[<-e3,iO]
 have ae:=xar.2 aa;have e4:=wH (x:=x) e2 (by omega) (by omega) (p:=λab=>Option.bind (a6 o ds ab.1) λad=>some ad) (g:=dD o ds) (λs hs=>by rw[e3]at hs;obtain⟨a,b⟩:=u9 hf.pos hf.len hs;have e:a6 o ds s=some (dD o ds s):=uB hf (a.places hf.len) (xar.2 b);show Option.bind (a6 o ds s) (λy=>some y)=_;rw[e];rfl);unfold aCg ZS;rw[qo,cH ho hd,fieldB_iff.2 hf,xc,qp,xl,qb,qo,e1,xc,qo,e4,xc,qt,e3];rfl
section
variable {n:Nat}{s:List Int}
end
section
variable {o:List Int}{ds:List (List Int)}
def NR(o:List Int)(ds:List (List Int))(s:List Int):Bool×Bool:=bif dV o ds s then(!(aT o ds s).isSome,true)else(false,false)
theorem Z8{s:List Int}(ho:aI o)(hd:dL ds)(hs:aI s):aGe o ds s=some (NR o ds s):=by
 unfold aGe aCk NR;rw[qo,C0 ho hd hs,xc,qp];cases hb:dV o ds s with
 |false=>rfl
 |true=>
  obtain⟨hf,hp,h0⟩:=rF hs hb;have hr:ris o.length s:=by unfold dV at hb;simp only[xg]at hb;exact ris_iff.1 hb.2.1
  rw[xl,qb,qo,sO hf hr (xar.1 h0),xc,qt];cases aT o ds s<;>rfl
theorem Dm{s:List Int}(ho:aI o)(hd:dL ds)(hs:aI s):aEa o ds s=some (NR o ds s):=by
 unfold aEa aAX NR;rw[qo,mF ho hd hs,xc,qp];cases hb:dV o ds s with
 |false=>rfl
 |true=>
  obtain⟨hf,hp,h0⟩:=rF hs hb;have hr:ris o.length s:=by unfold dV at hb;simp only[xg]at hb;exact ris_iff.1 hb.2.1
  rw[xl,qb,qo,sT hf hr (xar.1 h0),xc,qt];cases aT o ds s<;>rfl
end
section
variable {o:List Int}{ds:List (List Int)}
def Jb(ds:List (List Int))(i j a n:Nat):Bool:=(List.range n).all λb=> !decide (at2 ds i b+at2 ds j b+at2 ds j a<at2 ds i a)
def Iy(ds:List (List Int))(i j n:Nat):Bool:=(List.range n).all λa=>Jb ds i j a n
def It(ds:List (List Int))(i n:Nat):Bool:=(List.range ds.length).all λj=>Iy ds i j n
def Fr(ds:List (List Int))(n:Nat):Bool:=(List.range ds.length).all λi=>It ds i n
theorem aGK(hf:Fld o ds){i j a:Nat}(hi:i<ds.length)(hj:j<ds.length)(ha:a<o.length)(k:(List (Int))×(List (Int))×(Int)×(List (List (Int)))×(Int)×(Int)×(List (List (Int)))×(Int)×(Int)×(Int)×(Int)×(Int)×(List (Int))×(List (List (Int))))
  (k1:k.1=ds.getD i []) (k2:k.2.1=ds.getD j []) (k3:k.2.2.1=(a:Int)) (k4:k.2.2.2.2.2.2.2.2.2.2.2.1=(o.length:Int)):aHB k 0=some (bif Jb ds i j a o.length then .inl ()else .inr ()):=by
 have ho:=hf.len;have ae:=hf.rowLen i hi;have af:=hf.rowLen j hj;have h:=bA (f:=λv=>(Xb k v).ev) (n:=o.length) (mk:=λb=>(b:Int)) (p:=λb=> !decide (at2 ds i b+at2 ds j b+at2 ds j a<at2 ds i a)) (yes:=.inl ()) (no:=.inr ())
  (λb hb _=>by
   have v1:=hf.at2 hi hb;have v2:=hf.at2 hj hb;have v3:=hf.at2 hj ha;have v4:=hf.at2 hi ha;unfold at2 at v1 v2 v3 v4⊢;have aa:(b:Int)<(o.length:Int):=by omega
   have g1:aC (a:Int) (ds.getD i []).length=true:=bK (by omega) (by omega);have g2:aC (b:Int) (ds.getD i []).length=true:=bK (by omega) (by omega);have g3:aC (b:Int) (ds.getD j []).length=true:=bK (by omega) (by omega);have g4:aC (a:Int) (ds.getD j []).length=true:=bK (by omega) (by omega);have hw:IntKind.wrap .i64 ((b:Int)+1)=((b+1:Nat):Int):=by rw[aL (by omega) (by omega)];rfl
   have ab:IntKind.wrap .i64 ((ds.getD i []).getD b 0+(ds.getD j []).getD b 0)=(ds.getD i []).getD b 0+(ds.getD j []).getD b 0:=aL (by omega) (by omega);have ad:IntKind.wrap .i64 ((ds.getD i []).getD b 0+(ds.getD j []).getD b 0+(ds.getD j []).getD a 0)=(ds.getD i []).getD b 0+(ds.getD j []).getD b 0+(ds.getD j []).getD a 0:=aL (by omega) (by omega);unfold Xb;rw[k1,k2,k3,k4,qp,qc aa,qa,qq,g1,qa,qq,g2,qa,qq,g3,qa,qq,g4,qa,qp,hw];simp only[xy,ab,ad];cases decide ((ds.getD i []).getD b 0+(ds.getD j []).getD b 0+(ds.getD j []).getD a 0<(ds.getD i []).getD a 0)<;>rfl)
  (by
   have aa:¬(o.length:Int)<(o.length:Int):=by omega
   unfold Xb;rw[k4,qp,qd aa,qb,qt])
 exact h
theorem aJP(hf:Fld o ds){i j:Nat}(hi:i<ds.length)(hj:j<ds.length)(k:(List (Int))×(List (Int))×(List (List (Int)))×(Int)×(Int)×(List (List (Int)))×(Int)×(Int)×(Int)×(List (Int))×(List (List (Int))))
  (k1:k.1=ds.getD i []) (k2:k.2.1=ds.getD j []) (k3:k.2.2.2.2.2.2.2.2.1=(o.length:Int)) (k4:k.2.2.2.2.2.2.2.2.2.1=o):aJF k 0=some (bif Iy ds i j o.length then .inl ()else .inr ()):=by
 have ho:=hf.len;have h:=bA (f:=λv=>(EP k v).ev) (n:=o.length) (mk:=λb=>(b:Int)) (p:=λa=>Jb ds i j a o.length) (yes:=.inl ()) (no:=.inr ())
  (λa ha _=>by
   have aa:(a:Int)<(o.length:Int):=by omega
   have hw:IntKind.wrap .i64 ((a:Int)+1)=((a+1:Nat):Int):=by rw[aL (by omega) (by omega)];rfl
   unfold EP;rw[k3,qp,qc aa,qa,qo,aGK hf hi hj ha _ k1 k2 rfl (by rw[k4]),xc,hw];cases Jb ds i j a o.length<;>rfl)
  (by
   have aa:¬(o.length:Int)<(o.length:Int):=by omega
   unfold EP;rw[k3,qp,qd aa,qb,qt])
 exact h
theorem aIQ(hf:Fld o ds){i:Nat}(hi:i<ds.length)(k:(List (Int))×(List (List (Int)))×(Int)×(Int)×(List (List (Int)))×(Int)×(List (Int))×(List (List (Int))))
  (k1:k.1=ds.getD i []) (k2:k.2.2.2.2.1=ds) (k3:k.2.2.2.2.2.1=(ds.length:Int)) (k4:k.2.2.2.2.2.2.1=o):aIj k 0=some (bif It ds i o.length then .inl ()else .inr ()):=by
 have hc:=hf.clients;have h:=bA (f:=λv=>(CQ k v).ev) (n:=ds.length) (mk:=λb=>(b:Int)) (p:=λj=>Iy ds i j o.length) (yes:=.inl ()) (no:=.inr ())
  (λj hj _=>by
   have aa:(j:Int)<(ds.length:Int):=by omega
   have hw:IntKind.wrap .i64 ((j:Int)+1)=((j+1:Nat):Int):=by rw[aL (by omega) (by omega)];rfl
   have g1:=dM hj;unfold CQ;rw[k3,qp,qc aa,qa,qq,k2,g1,qa,qo,aJP hf hi hj _ k1 (by dsimp only;rw[xy]) (by dsimp only;rw[k4]) k4,xc,hw];cases Iy ds i j o.length<;>rfl)
  (by
   have aa:¬(ds.length:Int)<(ds.length:Int):=by omega
   unfold CQ;rw[k3,qp,qd aa,qb,qt])
 exact h
theorem LN(ho:aI o)(hd:dL ds):PV o ds=some (bif gE o ds then(Fr ds o.length,true)else(false,false)):=by
 unfold PV aGr;rw[qo,cH ho hd,xc,qp];cases hb:gE o ds with
 |false=>rfl
 |true=>
  have hf:=fieldB_iff.1 hb;have hc:=hf.clients;have h:=bA (f:=λv=>(DY (ds,((ds.length:Nat):Int),o,ds) v).ev) (n:=ds.length) (mk:=λb=>(b:Int)) (p:=λi=>It ds i o.length) (yes:=.inl ()) (no:=.inr ())
   (λi hi _=>by
    have aa:(i:Int)<(ds.length:Int):=by omega
    have hw:IntKind.wrap .i64 ((i:Int)+1)=((i+1:Nat):Int):=by rw[aL (by omega) (by omega)];rfl
    have g1:=dM hi;unfold DY;dsimp only;rw[qp,qc aa,qa,qq,g1,qa,qo,aIQ hf hi _ (by dsimp only;rw[xy]) rfl rfl rfl,xc,hw];cases It ds i o.length<;>rfl)
   (by
    have aa:¬(ds.length:Int)<(ds.length:Int):=by omega
    unfold DY;dsimp only;rw[qp,qd aa,qb,qt])
  have h1:aJb (ds,((ds.length:Nat):Int),o,ds) 0=some (bif Fr ds o.length then .inl ()else .inr ()):=h;rw[xl,qb,qo,h1,xc,qa];cases Fr ds o.length<;>rfl
def eM(o:List Int):Nat:=(List.range (o.length-1)).foldl (λb k=>if o.getD (k+1) 0<o.getD b 0 then k+1 else b) 0
theorem yF(hp:1<=o.length):eM o<o.length/\(∀i,i<o.length->o.getD (eM o) 0<=o.getD i 0)/\∀i,i<eM o->o.getD (eM o) 0<o.getD i 0:=by
 have key:∀k,k+1<=o.length->(List.range k).foldl (λb k=>if o.getD (k+1) 0<o.getD b 0 then k+1 else b) 0<=k/\(∀i,i<=k->o.getD ((List.range k).foldl (λb k=>if o.getD (k+1) 0<o.getD b 0 then k+1 else b) 0) 0<=o.getD i 0)/\
   ∀i,i<(List.range k).foldl (λb k=>if o.getD (k+1) 0<o.getD b 0 then k+1 else b) 0->o.getD ((List.range k).foldl (λb k=>if o.getD (k+1) 0<o.getD b 0 then k+1 else b) 0) 0<o.getD i 0:=by
  intro k;induction k with
  |zero=>
   intro _;refine⟨xm _,λi hi=>?_,λi hi=>absurd hi (by simp)⟩;have:i=0:=by omega
   subst this;exact zM _
  |succ k ih=>
   intro hk;obtain⟨i1,i2,i3⟩:=ih (by omega);rw[aV];generalize(List.range k).foldl (λb k=>if o.getD (k+1) 0<o.getD b 0 then k+1 else b) 0=b at i1 i2 i3;by_cases aa:o.getD (k+1) 0<o.getD b 0
   ·rw[qj aa];refine⟨xm _,λi hi=>?_,λi hi=>?_⟩
    ·by_cases e:i=k+1;·subst e;exact zM _
     ·have:=i2 i (by omega);omega
    ·have:=i2 i (by omega);omega
   ·rw[qi aa];refine⟨by omega,λi hi=>?_,i3⟩;by_cases e:i=k+1;·subst e;omega
    ·exact i2 i (by omega)
 obtain⟨a,b,c⟩:=key (o.length-1) (by omega);exact⟨by unfold eM;omega,λi hi=>b i (by omega),c⟩
theorem JZ{l:List Int}(h0:0<l.length)(hl:l.length<=1000):Sp l=some (l.getD (eM l) 0):=by
 have h:=(aR (f:=λv=>(P4 l v).ev) (n:=l.length-1) (mk:=λk (b:Nat)=>(l.getD b 0,((k+1:Nat):Int))) (I:=λk b=>b<=k) (g:=λb k=>if l.getD (k+1) 0<l.getD b 0 then k+1 else b) (fin:=λb=>l.getD b 0) (s0:=0) (xm _)
  (λk b hk hb=>by
   have aa:((k+1:Nat):Int)<((l.length:Nat):Int):=by omega
   have g1:aC ((k+1:Nat):Int) l.length=true:=dM (by omega);have hw:IntKind.wrap .i64 (((k+1:Nat):Int)+1)=((k+1+1:Nat):Int):=by rw[aL (by omega) (by omega)];rfl
   refine⟨?_,by split<;>omega⟩;have ab:(if l.getD (k+1) 0<l.getD b 0 then l.getD (k+1) 0 else l.getD b 0)=l.getD (if l.getD (k+1) 0<l.getD b 0 then k+1 else b) 0:=by split<;>rfl
   unfold P4;dsimp only;rw[qp,qc aa,qa,qq,g1,qa,hw,xy,ab];rfl)
  (λb _=>by
   have aa:¬((l.length-1+1:Nat):Int)<((l.length:Nat):Int):=by omega
   unfold P4;dsimp only;rw[qp,qd aa,qb,qt])).1
 have h1:aES l (l.getD 0 0,1)=some (l.getD (eM l) 0):=h;have hn:¬((l.length:Nat):Int)<1:=by omega
 have g0:aC (0:Int) l.length=true:=bK (by omega) (by omega);unfold Sp KF;rw[qp,qd hn,qb,qq,g0,qa,qo,show Int.toNat 0=0 from rfl,h1,xc,qt]
theorem Qp(hf:Fld o ds):aFf o ds=some (eM o:Int):=by
 have hp:=hf.pos;have h7:=hf.len;obtain⟨c1,c2,c3⟩:=yF hp;have e1:=JZ (l:=o) (by omega) (by omega);have h:=gJ (f:=λv=>(BI (o,o.getD (eM o) 0,((o.length:Nat):Int)) v).ev) (l:=o) 0 (λy=>o.getD (eM o) 0==y) (mk:=λi=>(i:Int)) (yes:=λi=>.inr (i:Int)) (no:=.inl ())
  (λi hi=>by simp(disch:=omega)only[EV,BI,hi];cases(o.getD (eM o) 0==o.getD i 0)<;>rfl)
  (by simp(disch:=omega)only[EV,BI,xi])
 have h1:aIt (o,o.getD (eM o) 0,((o.length:Nat):Int)) 0=_:=h;have aa:(o.findIdx? λy=>o.getD (eM o) 0==y)=some (eM o):=by
  rw[xdb];have hg:∀i (hi:i<o.length),o[i]=o.getD i 0:=λi hi=>by rw[xd,xf hi];rfl
  refine⟨c1,by rw[hg _ c1];exact qk _,λi hi=>?_⟩;rw[hg _ (by omega)];have:=c3 i hi;intro h;have:=eq_of_beq h;omega
 rw[aa]at h1;unfold aFf aCB aLK aDN;rw[qo,e1,xc,qo,qo,h1];rfl
theorem Tx(hf:Fld o ds):aAj o ds=some (eM o:Int):=by
 have hp:=hf.pos;have h7:=hf.len;have h:=(aR (f:=λv=>(Zh (o,ds) v).ev) (n:=o.length-1) (mk:=λk (b:Nat)=>((b:Int),((k+1:Nat):Int))) (I:=λk b=>b<=k) (g:=λb k=>if o.getD (k+1) 0<o.getD b 0 then k+1 else b) (fin:=λb=>(b:Int)) (s0:=0) (xm _)
  (λk b hk hb=>by
   have aa:((k+1:Nat):Int)<((o.length:Nat):Int):=by omega
   have g1:aC ((k+1:Nat):Int) o.length=true:=dM (by omega);have g2:aC (b:Int) o.length=true:=dM (by omega);have hw:IntKind.wrap .i64 (((k+1:Nat):Int)+1)=((k+1+1:Nat):Int):=by rw[aL (by omega) (by omega)];rfl
   refine⟨?_,by split<;>omega⟩;unfold Zh;dsimp only;simp only[xy];rw[qp,qc aa,qa,qq,g1,qa,qq,g2,qa,qp,hw];by_cases hc:o.getD (k+1) 0<o.getD b 0;·rw[qc hc,qa,qj hc];rfl
   ·rw[qd hc,qb,qi hc];rfl)
  (λb _=>by
   have aa:¬((o.length-1+1:Nat):Int)<((o.length:Nat):Int):=by omega
   unfold Zh;dsimp only;rw[qp,qd aa,qb,qt])).1
 have h1:aJN (o,ds) (0,1)=some (eM o:Int):=h;unfold aAj aFR;rw[qo,h1,xc,qt]
end
section
variable {o:List Int}{ds:List (List Int)}{p tm w:List Int}{now:Int}
def nxt(now x t:Int):Int:=if now<t/\(x<0\/t<x)then t else x
theorem NXT.add{C:Int->Prop}{x:Int}(h0:0<=now)(h:NXT now C x)(t:Int):NXT now (λu=>C u\/u=t) (nxt now x t):=by
 unfold nxt;by_cases h1:now<t/\(x<0\/t<x)
 ·rw[qj h1];refine .inr ⟨.inr rfl,h1.1,λu hu hn=>?_⟩;rcases hu with hu|rfl
  ·rcases h with⟨_,h⟩|⟨_,h,c⟩
   ·exact absurd hn (h u hu)
   ·have:=c u hu hn;rcases h1.2 with h2|h2<;>omega
  ·exact zM _
 ·rw[qi h1];rcases h with⟨a,b⟩|⟨a,b,c⟩
  ·refine .inl ⟨a,λu hu=>?_⟩;rcases hu with hu|rfl;·exact b u hu
   ·exact λh2=>h1 ⟨h2,.inl (by omega)⟩
  ·refine .inr ⟨.inl a,b,λu hu hn=>?_⟩;rcases hu with hu|rfl;·exact c u hu hn
   ·by_cases h2:u<x;·exact absurd ⟨hn,.inr h2⟩ h1
    ·omega
structure SG(ds:List (List Int))(P W pr:List Int)(st:List Bool)(wi:List Int):Prop where
 pl:pr.length=ds.length
 sl:st.length=ds.length
 wl:wi.length=ds.length
 st:∀i,i<ds.length->st.getD i false= !decide (W.getD i 0<0)
 pr:∀i,i<ds.length->¬W.getD i 0<0->pr.getD i 0=P.getD i 0
theorem Px(l:List Bool){i:Nat}(hi:i<l.length)(j:Nat)(v:Bool):(l.set i v).getD j false=if i=j then v else l.getD j false:=by
 rw[xd,xd,QQ];by_cases h:i=j;·subst h;simp[hi]
 ·simp[h]
theorem Bp(hf:Fld o ds){P W pr wi:List Int}{st:List Bool}(h:SG ds P W pr st wi)(t:Int)(tm:List Int):EI t pr st wi tm=some (gP ds W P t):=by
 have hm:=hf.clients;have key:aLk (t,pr,st,wi,tm) ((0:Int),([]:List Int))=some ((List.range ds.length).map λi=>if W.getD i 0<0 then t else P.getD i 0):=
  iT (f:=λv=>(Vn (t,pr,st,wi,tm) v).ev) (n:=ds.length) (mk:=λk (l:List Int)=>((k:Int),l)) (λi=>if W.getD i 0<0 then t else P.getD i 0) (λl=>l)
   (λi l hi hl=>by
    have aa:∀x:Int,List.length [x]=1:=λ_=>rfl;have hb:(l.length+1)*8<=140737488355328:=by omega
    have e1:=h.st i hi;have ab:=h.pl;have ad:=h.sl;by_cases c:W.getD i 0<0;·rw[qc c,xl]at e1;simp only[qj c];simp(disch:=omega)only[EV,Vn,hi,ab,ad,e1,aa,hb];rfl
    ·rw[qd c,nL]at e1;have e2:=h.pr i hi c;simp only[qi c];simp(disch:=omega)only[EV,Vn,hi,ab,ad,e1,e2,aa,hb];rfl)
   (λl _=>by simp(disch:=omega)only[EV,Vn,h.pl,xi])
 unfold EI YM gP;simp(disch:=omega)only[EV,key]
theorem O3(hf:Fld o ds){P:List Int}(hl:P.length=ds.length)(hp:∀i,i<ds.length->0<=P.getD i 0/\P.getD i 0<=498960){a:Nat}(ha:a<o.length):Li o ds P (a:Int) 2520=some (jG ds P a):=by
 have ab:=hf.clients;have key:aDe (P,(a:Int),(2520:Int),o,ds) ((0:Int),(0:Int))=some (fG ds P a P.length):=by
  obtain⟨r,h1,h2⟩:=aK (f:=λv=>(Ew (P,(a:Int),(2520:Int),o,ds) v).ev) (n:=P.length) (λi (c:Int)=>(c,(i:Int))) (λi c=>c=fG ds P a i) (λr=>r=fG ds P a P.length) (s0:=0) rfl
   (λi c hi hc=>by
    subst hc;left;have aa:i<ds.length:=by omega
    have hr:=hf.rowLen i aa;have h1:=hp i aa;have h2:=hf.at2 aa ha;obtain⟨g1,g2,_⟩:=mC hf (λi hi=>(hp i hi).2) ha i (by omega);obtain⟨g3,g4,_⟩:=mC hf (λi hi=>(hp i hi).2) ha (i+1) (by omega);have e3:(ds.getD i []).getD a 0=at2 ds i a:=rfl;have e4:2520*at2 ds i a=dB ds i a:=RR _ _;have h5:=vS hf aa ha;rw[fG]at g3 g4;refine⟨_,?_,rfl⟩;simp(disch:=omega)only[EV,Ew,hi,aa,hr,ha,e3,e4,kD,Ns];rfl)
   (λc hc=>⟨c,by simp(disch:=omega)only[EV,Ew,xi],hc⟩)
  exact h1.trans (congrArg some h2)
 unfold Li PK jG;rw[hl]at key;simp(disch:=omega)only[EV,key]
theorem Gy(hf:Fld o ds){P:List Int}(ad:tm.length=o.length)(hl:P.length=ds.length)(hp:∀i,i<ds.length->0<=P.getD i 0/\P.getD i 0<=498960)(ab:∀a,a<o.length->tm.getD a 0<0->jG ds P a<=lP o a)(pr:List Int)(st:List Bool)(wi:List Int):
  aJn (now,pr,st,wi,o,ds,now,(0:Int),P) ((0:Int),tm)=some (gT o ds P tm now):=
 qY (f:=λv=>(Ku (now,pr,st,wi,o,ds,now,(0:Int),P) v).ev) (n:=o.length) (λa=>if tm.getD a 0<0/\lP o a<=jG ds P a then now else tm.getD a 0) ad (by simp[gT]) (λi hi=>qU hi)
  (λa b ha hb he=>by
   have e1:=O3 hf hl hp ha;have aa:a<b.length:=by omega
   have hc:=hf.cost a ha;have hlen:=hf.len;have e5:2520*o.getD a 0=lP o a:=RR _ _;by_cases c:tm.getD a 0<0
   ·by_cases c2:jG ds P a=lP o a
    ·have eb:(jG ds P a==lP o a)=true:=beq_iff_eq.2 c2;refine⟨b.set a now,?_,by simp[hb],λj hj=>?_⟩;·simp(disch:=omega)only[EV,Ku,ha,aa,he,c,e1,e5,eb];rfl
     ·rw[cU b aa];by_cases e:a=j;·rw[qj e,qj e,qj ⟨c,by omega⟩]
      ·rw[qi e,qi e]
    ·have eb:(jG ds P a==lP o a)=false:=beq_eq_false_iff_ne.2 c2;have:=ab a ha c;refine⟨b,?_,hb,λj hj=>?_⟩;·simp(disch:=omega)only[EV,Ku,ha,aa,he,c,e1,e5,eb];rfl
     ·by_cases e:a=j;·subst e;rw[qj rfl,he,qi λq=>c2 (by omega)]
      ·rw[qi e]
   ·refine⟨b,?_,hb,λj hj=>?_⟩;·simp(disch:=omega)only[EV,Ku,ha,aa,he,c];rfl
    ·by_cases e:a=j;·subst e;rw[qj rfl,he,qi λq=>c q.1]
     ·rw[qi e])
  (λb=>by simp(disch:=omega)only[EV,Ku,xi])
theorem f6{T:List Int}{a b:Int}(ha:0<=a/\a<(T.length:Int))(hb:0<=b/\b<(T.length:Int))(aa:b<=a)(n:Int)(pr:List Int)(st:List Bool)(wi:List Int):PO n pr st wi T a b=some (decide (T.getD a.toNat 0<T.getD b.toNat 0)):=by
 have h1:aC a T.length=true:=bK ha.1 ha.2;have h2:aC b T.length=true:=bK hb.1 hb.2;have h3:decide (a<b)=false:=qd (by omega);unfold PO aFp;rw[qq,h1,qa,qq,h2,qa,qp];cases hq:decide (T.getD a.toNat 0<T.getD b.toNat 0)with
 |true=>rw[qa,qt]
 |false=>
  rw[qb,qq,qa,qq,qa,qp];cases T.getD a.toNat 0==T.getD b.toNat 0 with
  |true=>rw[qa,qt,h3]
  |false=>rw[qb,qt]
theorem Ip(hf:Fld o ds){T W:List Int}(ht:T.length=o.length){i:Nat}(hi:i<ds.length){st:List Bool}(ad:i<st.length)(aa:st.getD i false= !decide (W.getD i 0<0))(pr wi P:List Int):
  aHR (now,(i:Int),pr,st,wi,T,o,ds,now,(0:Int),P) ((-1:Int),(0:Int))=some (if W.getD i 0<0 then gB ds T now i o.length else-1):=by
 have ai:=hf.pos;have hlen:=hf.len;by_cases c:W.getD i 0<0
 ·rw[qj c];rw[qc c,xl]at aa;obtain⟨r,k1,k2⟩:=aK (f:=λv=>(z8 (now,(i:Int),pr,st,wi,T,o,ds,now,(0:Int),P) v).ev) (n:=o.length) (λa (b:Int)=>(b,(a:Int))) (λa b=>b=gB ds T now i a) (λr=>r=gB ds T now i o.length) (s0:= -1) rfl
   (λa b ha hb=>by
    subst hb;left;refine⟨gB ds T now i (a+1),?_,rfl⟩;have hr:=hf.rowLen i hi;have h2:=hf.at2 hi ha;have e3:(ds.getD i []).getD a 0=at2 ds i a:=rfl;have e4:2520*at2 ds i a=dB ds i a:=RR _ _;have ae:a<T.length:=by omega
    have af:=i7 (ds:=ds) (tm:=T) (now:=now) (i:=i) a;rw[gB];generalize gB ds T now i a=B at af⊢;by_cases h1:0<=T.getD a 0
    ·by_cases ab:dB ds i a<=now
     ·by_cases h3:B<0;·rw[qj ⟨h1,ab,.inl h3⟩];simp(disch:=omega)only[EV,z8,ha,ae,ad,aa,h1,hi,hr,e3,e4,ab,h3];rfl
      ·have e5:=f6 (T:=T) (a:=(a:Int)) (b:=B) (by omega) (by omega) (by omega) now pr st wi;rw[xy]at e5;by_cases h4:T.getD a 0<T.getD B.toNat 0;·rw[qc h4]at e5;rw[qj ⟨h1,ab,.inr h4⟩];simp(disch:=omega)only[EV,z8,ha,ae,ad,aa,h1,hi,hr,e3,e4,ab,h3,e5];rfl
       ·rw[qd h4]at e5;rw[qi λq=>by rcases q.2.2 with q|q;exact h3 q;exact h4 q];simp(disch:=omega)only[EV,z8,ha,ae,ad,aa,h1,hi,hr,e3,e4,ab,h3,e5];rfl
     ·rw[qi λq=>ab q.2.1];simp(disch:=omega)only[EV,z8,ha,ae,ad,aa,h1,hi,hr,e3,e4,ab];rfl
    ·rw[qi λq=>h1 q.1];simp(disch:=omega)only[EV,z8,ha,ae,ad,aa,h1];rfl)
   (λb hb=>⟨b,by simp(disch:=omega)only[EV,z8,xi],hb⟩)
  rw[<-k2];exact k1
 ·rw[qi c];rw[qd c,nL]at aa;have ah:(z8 (now,(i:Int),pr,st,wi,T,o,ds,now,(0:Int),P) ((-1:Int),(0:Int))).ev=some (.inr (-1)):=by
   have h0:(0:Int)<((o.length:Nat):Int):=by omega
   simp(disch:=omega)only[EV,z8,h0,ad,aa]
  refine iter_some.2 ⟨1,?_⟩;simp only[hC,ah]
theorem Ie(hf:Fld o ds){T P W:List Int}(ht:T.length=o.length){pr wi:List Int}{st:List Bool}(s:SG ds P W pr st wi){Q:List Int}(hQ:Q.length=ds.length):
  ∃aa ab ad,aLa (now,T,o,ds,now,(0:Int),Q) ((0:Int),pr,st,wi)=some (aa,ab,ad)/\SG ds (gP ds W P now) (gW o ds T W now) aa ab ad:=by
 obtain⟨r,k1,k2,k3,k4,k5⟩:=aK (f:=λv=>(Q1 (now,T,o,ds,now,(0:Int),Q) v).ev) (n:=ds.length) (λi (c:List Int×List Bool×List Int)=>((i:Int),c))
  (λi c=>c.1.length=ds.length/\c.2.1.length=ds.length/\c.2.2.length=ds.length/\∀j,j<ds.length->c.2.1.getD j false=(!decide ((if j<i then(gW o ds T W now).getD j 0 else W.getD j 0)<0))/\(¬(if j<i then(gW o ds T W now).getD j 0 else W.getD j 0)<0->c.1.getD j 0=(gP ds W P now).getD j 0))
  (λc=>c.1.length=ds.length/\c.2.1.length=ds.length/\c.2.2.length=ds.length/\∀j,j<ds.length->c.2.1.getD j false=(!decide ((gW o ds T W now).getD j 0<0))/\(¬(gW o ds T W now).getD j 0<0->c.1.getD j 0=(gP ds W P now).getD j 0)) (s0:=(pr,st,wi))
  ⟨s.pl,s.sl,s.wl,λj hj=>by rw[qi (by omega)];exact⟨s.st j hj,λh=>by rw[gZ hj,qi h];exact s.pr j hj h⟩⟩
  (λi c hi ⟨c1,c2,c3,c4⟩=>by
   left;obtain⟨x,y,z⟩:=c;simp only at c1 c2 c3 c4;have ae:=(c4 i hi).1;rw[qi (by omega)]at ae;have e1:=Ip (now:=now) hf ht hi (by omega) ae x z Q;have hm:=hf.clients;have g1:i<x.length:=by omega
   have g2:i<y.length:=by omega
   have g3:i<z.length:=by omega
   have hW:=rI (o:=o) (ds:=ds) (tm:=T) (w:=W) (now:=now) hi;have af:=i7 (ds:=ds) (tm:=T) (now:=now) (i:=i) o.length
   -- what stays as it ah
   have stay:(Q1 (now,T,o,ds,now,(0:Int),Q) ((i:Int),x,y,z)).ev=some (.inl (((i+1:Nat):Int),x,y,z))->(W.getD i 0<0↔(gW o ds T W now).getD i 0<0)->∃s',(Q1 (now,T,o,ds,now,(0:Int),Q) ((i:Int),x,y,z)).ev=some (.inl (((i+1:Nat):Int),s'))/\s'.1.length=ds.length/\s'.2.1.length=ds.length/\s'.2.2.length=ds.length/\∀j,j<ds.length->s'.2.1.getD j false=(!decide ((if j<i+1 then(gW o ds T W now).getD j 0 else W.getD j 0)<0))/\(¬(if j<i+1 then(gW o ds T W now).getD j 0 else W.getD j 0)<0->s'.1.getD j 0=(gP ds W P now).getD j 0):=λhs hw=>
    ⟨(x,y,z),hs,c1,c2,c3,λj hj=>by
     obtain⟨q1,q2⟩:=c4 j hj;by_cases e:j=i;·subst e;rw[qi (by omega)]at q1 q2;rw[qj (by omega)];refine⟨by rw[q1];congr 1;exact decide_eq_decide.2 hw,λh=>q2 λh'=>h (hw.1 h')⟩
     ·by_cases h:j<i;·rw[qj h]at q1 q2;rw[qj (by omega)];exact⟨q1,q2⟩
      ·rw[qi h]at q1 q2;rw[qi (by omega)];exact⟨q1,q2⟩⟩
   by_cases c:W.getD i 0<0
   ·rw[qj c]at e1 hW;by_cases hB:0<=gB ds T now i o.length
    ·refine⟨(x.set i now,y.set i true,z.set i (gB ds T now i o.length)),?_,by simp[c1],by simp[c2],by simp[c3],λj hj=>?_⟩;·simp(disch:=omega)only[EV,Q1,hQ,hi,e1,hB,g1,g2,g3,c1,c2,c3];rfl
     ·simp only;rw[Px y g2,cU x g1];by_cases e:i=j;·subst e;rw[qj rfl,qj rfl,qj (by omega),hW,qd (by omega),gZ hj,qj c];exact⟨rfl,λ_=>rfl⟩
      ·obtain⟨q1,q2⟩:=c4 j hj;rw[qi e,qi e];by_cases h:j<i;·rw[qj h]at q1 q2;rw[qj (by omega)];exact⟨q1,q2⟩
       ·rw[qi h]at q1 q2;rw[qi (by omega)];exact⟨q1,q2⟩
    ·refine stay ?_ (by rw[hW];omega);simp(disch:=omega)only[EV,Q1,hQ,hi,e1,hB];rfl
   ·rw[qi c]at e1 hW;refine stay ?_ (by rw[hW]);have h1:¬(0:Int)<= -1:=by omega
    simp(disch:=omega)only[EV,Q1,hQ,hi,e1,h1];rfl)
  (λc ⟨c1,c2,c3,c4⟩=>⟨c,by simp(disch:=omega)only[EV,Q1,hQ,xi],c1,c2,c3,λj hj=>by have:=c4 j hj;rw[qj hj]at this;exact this⟩)
 exact⟨r.1,r.2.1,r.2.2,k1,⟨k2,k3,k4,λi hi=>(k5 i hi).1,λi hi=>(k5 i hi).2⟩⟩
theorem M6(hf:Fld o ds)(h:GI o ds p tm w now)(e:GE o ds p tm w now){pr wi:List Int}{st:List Bool}(s:SG ds p w pr st wi):
  ∃aa ab ad,OJ o ds now pr st wi tm=some (now,aa,ab,ad,gT o ds (gP ds w p now) tm now)/\SG ds (gP ds w p now) (gW o ds (gT o ds (gP ds w p now) tm now) w now) aa ab ad:=by
 have hp:∀i,i<ds.length->0<=(gP ds w p now).getD i 0/\(gP ds w p now).getD i 0<=498960:=λi hi=>by have:=h.price hi;have:=h.n1;omega
 have e1:=Bp hf s now tm;have e2:=Gy (now:=now) hf h.tl (P:=gP ds w p now) (by simp[gP]) hp e.fair pr st wi;obtain⟨aa,ab,ad,e3,e4⟩:=Ie (now:=now) hf (T:=gT o ds (gP ds w p now) tm now) (by simp[gT]) s (Q:=gP ds w p now) (by simp[gP]);refine⟨aa,ab,ad,?_,e4⟩;unfold OJ aED;rw[qo,e1,xc,qo,e2,xc,qo,e3,xc,qt]
theorem L1(hf:Fld o ds){P W pr wi:List Int}{st:List Bool}(s:SG ds P W pr st wi)(T:List Int):aEB now pr st wi T=some (!(List.range ds.length).all λi=> !decide (W.getD i 0<0)):=by
 have hm:=hf.clients;have key:=bA (f:=λv=>(Sa (now,pr,st,wi,T) v).ev) (n:=ds.length) (λi=>(i:Int)) (λi=> !decide (W.getD i 0<0)) (.inl ():Unit⊕Unit) (.inr ())
  (λi hi _=>by
   have e1:=s.st i hi;have aa:=s.sl;cases hq: !decide (W.getD i 0<0)with
   |true=>rw[hq]at e1;simp(disch:=omega)only[EV,Sa,hi,aa,e1];rfl
   |false=>rw[hq]at e1;simp(disch:=omega)only[EV,Sa,hi,aa,e1])
  (by simp(disch:=omega)only[EV,Sa,s.sl,xi])
 have k1:aIN (now,pr,st,wi,T) (0:Int)=some (bif (List.range ds.length).all λi=> !decide (W.getD i 0<0)then .inl ()else .inr ()):=key;unfold aEB ZZ;rw[qo,k1,xc];cases(List.range ds.length).all λi=> !decide (W.getD i 0<0)<;>rfl
theorem AW(hf:Fld o ds){P W pr wi:List Int}{st:List Bool}(s:SG ds P W pr st wi)(T:List Int){a:Nat}(ha:a<o.length):aEw o ds now pr st wi T (a:Int)=some (aU ds W now a:Int):=by
 obtain⟨r,k1,k2⟩:=aK (f:=λv=>(Hu ((a:Int),o,ds,now,pr,st,wi,T) v).ev) (n:=ds.length) (λi (c:Int)=>(c,(i:Int))) (λi c=>c=(rP ds W now a i:Int)) (λr=>r=(aU ds W now a:Int)) (s0:=(0:Int)) rfl
  (λi c hi hc=>by
   left;have hm:=hf.clients;have hr:=hf.rowLen i hi;have h2:=hf.at2 hi ha;have e1:=s.st i hi;have aa:=s.sl;have e3:(ds.getD i []).getD a 0=at2 ds i a:=rfl;have e4:2520*at2 ds i a=dB ds i a:=RR _ _;have ad:=fM (λj=>W.getD j 0<0/\dB ds j a<=now) i;have e0:rP ds W now a i=dA (λj=>W.getD j 0<0/\dB ds j a<=now) i:=rfl;have hb:c<=7:=by omega
   have hb0:0<=c:=by omega
   refine⟨(rP ds W now a (i+1):Int),?_,rfl⟩;unfold rP;rw[dA];rw[e0]at hc;by_cases c1:W.getD i 0<0
   ·rw[qc c1,xl]at e1;by_cases c2:dB ds i a<=now;·rw[qj ⟨c1,c2⟩,xey,<-hc];simp(disch:=omega)only[EV,Hu,hi,aa,e1,hr,ha,e3,e4,c2];rfl
    ·rw[qi λq=>c2 q.2,yP,<-hc];simp(disch:=omega)only[EV,Hu,hi,aa,e1,hr,ha,e3,e4,c2];rfl
   ·rw[qd c1,nL]at e1;rw[qi λq=>c1 q.1,yP,<-hc];simp(disch:=omega)only[EV,Hu,hi,aa,e1];rfl)
  (λc hc=>⟨c,by simp(disch:=omega)only[EV,Hu,xi],hc⟩)
 have ab:aKz ((a:Int),o,ds,now,pr,st,wi,T) ((0:Int),(0:Int))=some r:=k1;unfold aEw aCt;rw[qo,ab,xc,qt,k2]
theorem Rn(hf:Fld o ds)(h0:0<=now){P W pr wi:List Int}{st:List Bool}(s:SG ds P W pr st wi)(T:List Int){i:Nat}(hi:i<ds.length){C:Int->Prop}{x:Int}(hx:NXT now C x):
  ∃y,aHF ((i:Int),o,ds,now,pr,st,wi,T) (x,(0:Int))=some y/\NXT now (λu=>C u\/(W.getD i 0<0/\∃a,a<o.length/\u=dB ds i a)) y:=by
 obtain⟨r,k1,k2⟩:=aK (f:=λv=>(W2 ((i:Int),o,ds,now,pr,st,wi,T) v).ev) (n:=o.length) (λa (c:Int)=>(c,(a:Int))) (λa c=>NXT now (λu=>C u\/(W.getD i 0<0/\∃b,b<a/\u=dB ds i b)) c) (λc=>NXT now (λu=>C u\/(W.getD i 0<0/\∃a,a<o.length/\u=dB ds i a)) c) (s0:=x)
  (hx.eqv λu=>⟨.inl,λh=>h.elim id λ⟨_,b,hb,_⟩=>absurd hb (by omega)⟩)
  (λa c ha hc=>by
   left;have hr:=hf.rowLen i hi;have h2:=hf.at2 hi ha;have hlen:=hf.len;have e1:=s.st i hi;have aa:=s.sl;have e3:(ds.getD i []).getD a 0=at2 ds i a:=rfl;have e4:2520*at2 ds i a=dB ds i a:=RR _ _;by_cases c1:W.getD i 0<0
   ·rw[qc c1,xl]at e1;refine⟨nxt now c (dB ds i a),?_,(hc.add h0 (dB ds i a)).eqv λu=>?_⟩
    ·unfold nxt;by_cases c2:now<dB ds i a
     ·by_cases c3:c<0;·rw[qj ⟨c2,.inl c3⟩];simp(disch:=omega)only[EV,W2,ha,hi,hr,aa,e1,e3,e4,c2,c3];rfl
      ·by_cases c4:dB ds i a<c;·rw[qj ⟨c2,.inr c4⟩];simp(disch:=omega)only[EV,W2,ha,hi,hr,aa,e1,e3,e4,c2,c3,c4];rfl
       ·rw[qi λq=>by rcases q.2 with q|q;exact c3 q;exact c4 q];simp(disch:=omega)only[EV,W2,ha,hi,hr,aa,e1,e3,e4,c2,c3,c4];rfl
     ·rw[qi λq=>c2 q.1];simp(disch:=omega)only[EV,W2,ha,hi,hr,aa,e1,e3,e4,c2];rfl
    ·constructor
     ·rintro((h|⟨_,b,hb,h⟩)|h);·exact .inl h
      ·exact .inr ⟨c1,b,by omega,h⟩
      ·exact .inr ⟨c1,a,by omega,h⟩
     ·rintro(h|⟨_,b,hb,h⟩);·exact .inl (.inl h)
      ·by_cases e:b=a;·subst e;exact .inr h
       ·exact .inl (.inr ⟨c1,b,by omega,h⟩)
   ·rw[qd c1,nL]at e1;refine⟨c,?_,hc.eqv λu=>⟨λh=>h.imp id λh=>absurd h.1 c1,λh=>h.imp id λh=>absurd h.1 c1⟩⟩;simp(disch:=omega)only[EV,W2,ha,hi,hr,aa,e1];rfl)
  (λc hc=>⟨c,by simp(disch:=omega)only[EV,W2,xi],hc⟩)
 exact⟨r,k1,k2⟩
theorem BO(hf:Fld o ds)(h0:0<=now){P W pr wi:List Int}{st:List Bool}(s:SG ds P W pr st wi)(T:List Int):
  ∃x,aEm o ds now pr st wi T=some x/\NXT now (λu=>∃i,i<ds.length/\W.getD i 0<0/\∃a,a<o.length/\u=dB ds i a) x:=by
 obtain⟨r,k1,k2⟩:=aK (f:=λv=>(FX (o,ds,now,pr,st,wi,T) v).ev) (n:=ds.length) (λi (c:Int)=>(c,(i:Int))) (λi c=>NXT now (λu=>∃j,j<i/\W.getD j 0<0/\∃a,a<o.length/\u=dB ds j a) c) (λc=>NXT now (λu=>∃i,i<ds.length/\W.getD i 0<0/\∃a,a<o.length/\u=dB ds i a) c) (s0:= -1)
  (.inl ⟨rfl,λu ⟨j,h,_⟩=>absurd h (by omega)⟩)
  (λi c hi hc=>by
   left;have hm:=hf.clients;obtain⟨y,e1,hy⟩:=Rn hf h0 s T hi hc;refine⟨y,by simp(disch:=omega)only[EV,FX,hi,e1];rfl,hy.eqv λu=>?_⟩;constructor
   ·rintro(⟨j,hj,h⟩|h);·exact⟨j,by omega,h⟩
    ·exact⟨i,by omega,h⟩
   ·rintro⟨j,hj,h⟩;by_cases e:j=i;·subst e;exact .inr h
    ·exact .inl ⟨j,by omega,h⟩)
  (λc hc=>⟨c,by simp(disch:=omega)only[EV,FX,xi],hc⟩)
 have aa:aLp (o,ds,now,pr,st,wi,T) ((-1:Int),(0:Int))=some r:=k1;refine⟨r,?_,k2⟩;unfold aEm aFJ;rw[qo,aa,xc,qt]
end
section
variable {o:List Int}{ds:List (List Int)}{p tm w:List Int}{now:Int}
theorem KK(hf:Fld o ds)(h:GI o ds p tm w now)(e:GE o ds p tm w now){pr wi:List Int}{st:List Bool}(s:SG ds (gP ds w p now) (gW o ds (gT o ds (gP ds w p now) tm now) w now) pr st wi):
  ∃y,aDC o ds now pr st wi (gT o ds (gP ds w p now) tm now)=some y/\NXT now (λu=>(∃i,i<ds.length/\(gW o ds (gT o ds (gP ds w p now) tm now) w now).getD i 0<0/\∃a,a<o.length/\u=dB ds i a)\/gC2 o ds (gP ds w p now) (gT o ds (gP ds w p now) tm now) (gW o ds (gT o ds (gP ds w p now) tm now) w now) now u) y:=by
 have hp:∀i,i<ds.length->0<=(gP ds w p now).getD i 0/\(gP ds w p now).getD i 0<=498960:=λi hi=>by have:=h.price hi;have:=h.n1;omega
 have ah:=h.n0;have av:=h.n1;have ae:=λa=>e.step hf h (a:=a);have ab:=λa (ha:a<o.length)=>h.tight (a:=a) ha;have aw:(gT o ds (gP ds w p now) tm now).length=o.length:=by simp[gT]
 have ak:(gP ds w p now).length=ds.length:=by simp[gP]
 have ad:EI now pr st wi (gT o ds (gP ds w p now) tm now)=some (gP ds w p now):=by
  rw[Bp hf s];refine congrArg some (mY (by simp[gP]) λi hi=>?_);have af:i<ds.length:=by omega
  rw[gZ (w:=gW o ds (gT o ds (gP ds w p now) tm now) w now) af];split
  ·next hw=>exact((h.price af).2.2.2 (h.on af hw).1).symm
  ·rfl
 generalize gP ds w p now=P at*;generalize hT:gT o ds P tm now=T at*;generalize gW o ds T w now=W at*;obtain⟨x,k1,k2⟩:=BO hf ah s T;obtain⟨r,k3,k4,_⟩:=aK (f:=λv=>(T4 (o,ds,now,pr,st,wi,T,P) v).ev) (n:=o.length) (λa (c:Int)=>(c,(a:Int)))
  (λa c=>NXT now (λu=>(∃i,i<ds.length/\W.getD i 0<0/\∃a,a<o.length/\u=dB ds i a)\/∃b,b<a/\T.getD b 0<0/\0<aU ds W now b/\u=now+(lP o b-jG ds P b+(aU ds W now b:Int) -1) / (aU ds W now b:Int)) c/\ -1<=c/\c<=1000000)
  (λc=>NXT now (λu=>(∃i,i<ds.length/\W.getD i 0<0/\∃a,a<o.length/\u=dB ds i a)\/gC2 o ds P T W now u) c/\ -1<=c/\c<=1000000) (s0:=x)
  ⟨k2.eqv λu=>⟨.inl,λh=>h.elim id λ⟨b,hb,_⟩=>absurd hb (by omega)⟩,by
   rcases k2 with⟨h1,_⟩|⟨⟨i,hi,_,a,ha,h1⟩,_,_⟩
   ·omega
   ·have:=vS hf hi ha;omega⟩
  (λa c ha ⟨hc,ai,aj⟩=>by
   left;have hlen:=hf.len;have ay:=hf.clients;have aa:a<T.length:=by omega
   have e1:=AW (now:=now) hf s T ha;have e2:=O3 hf ak hp ha;have al:=hf.cost a ha;have az:=R8 hf ha;obtain⟨g1,g2,_⟩:=mC hf (λi hi=>(hp i hi).2) ha ds.length (xm _);have g1:0<=jG ds P a:=g1;have g2:jG ds P a<=498960*(ds.length:Int):=g2;have e5:2520*o.getD a 0=lP o a:=RR _ _;have ba:aU ds W now a<=ds.length:=fM _ _;have hs:=ae a
   -- what stays as it bb
   have stay:¬(T.getD a 0<0/\0<aU ds W now a)->NXT now (λu=>(∃i,i<ds.length/\W.getD i 0<0/\∃a,a<o.length/\u=dB ds i a)\/∃b,b<a+1/\T.getD b 0<0/\0<aU ds W now b/\u=now+(lP o b-jG ds P b+(aU ds W now b:Int) -1) / (aU ds W now b:Int)) c:=λao=>
    hc.eqv λu=>by
     constructor
     ·rintro(h|⟨b,hb,h⟩);·exact .inl h
      ·exact .inr ⟨b,by omega,h⟩
     ·rintro(h|⟨b,hb,h⟩);·exact .inl h
      ·by_cases e:b=a;·subst e;exact absurd ⟨h.1,h.2.1⟩ ao
       ·exact .inr ⟨b,by omega,h⟩
   by_cases c1:T.getD a 0<0
   ·by_cases c2:0<aU ds W now a
    ·obtain⟨d1,d2,d3⟩:=tG c2 (hs c2);have ar:=(ab a ha c1).2;obtain⟨d4,d5,_⟩:=zK (x:=lP o a-jG ds P a) (by omega) c2;have h6:¬(aU ds W now a:Int)=0:=by omega
     have h7:(0:Int)<(aU ds W now a:Int):=by omega
     have e6:Int.tdiv (lP o a-jG ds P a) (aU ds W now a:Int)=(lP o a-jG ds P a+(aU ds W now a:Int) -1) / (aU ds W now a:Int):=by rw[xeo (by omega),d3]
     refine⟨nxt now c (now+(lP o a-jG ds P a+(aU ds W now a:Int) -1) / (aU ds W now a:Int)),?_,(hc.add ah _).eqv λu=>?_,?_⟩
     ·generalize(lP o a-jG ds P a+(aU ds W now a:Int) -1) / (aU ds W now a:Int)=q at*;generalize bc:(aU ds W now a:Int)=g at*;unfold nxt;by_cases c3:c<0;·rw[qj ⟨by omega,.inl c3⟩];simp(disch:=omega)only[EV,T4,ha,aa,e1,e2,c1,h7,c3,h6,e5,e6];rfl
      ·have hg:g<=7:=by omega
       have b1:g*(c-now)<=7*1000000:=by
        by_cases hx:0<=c-now;·exact Int.le_trans (xdk hg hx) (by omega)
        ·have:=xcj (show c-now<=0 by omega) (show 0<=g by omega);omega
       have b2: -(7*1000000)<=g*(c-now):=by have h1:=xcj (show-498960<=c-now by omega) (show 0<=g by omega);omega
       by_cases c4:now+q<c
       ·have c5:lP o a-jG ds P a<g*(c-now):=by rw[<-d2];exact Int.mul_lt_mul_of_pos_left (by omega) h7
        rw[qj ⟨by omega,.inr c4⟩];simp(disch:=omega)only[EV,T4,ha,aa,e1,e2,c1,h7,c3,h6,e5,e6,c5];rfl
       ·have c5:¬lP o a-jG ds P a<g*(c-now):=by rw[<-d2];have:=xcj (show c-now<=q by omega) (show 0<=g by omega);omega
        rw[qi λz=>by rcases z.2 with z|z;exact c3 z;exact c4 z];simp(disch:=omega)only[EV,T4,ha,aa,e1,e2,c1,h7,c3,h6,e5,e6,c5];rfl
     ·constructor
      ·rintro((h|⟨b,hb,h⟩)|h);·exact .inl h
       ·exact .inr ⟨b,by omega,h⟩
       ·exact .inr ⟨a,by omega,c1,c2,h⟩
      ·rintro(h|⟨b,hb,h⟩);·exact .inl (.inl h)
       ·by_cases e:b=a;·subst e;exact .inr h.2.2
        ·exact .inl (.inr ⟨b,by omega,h⟩)
     ·unfold nxt;split<;>omega
    ·refine⟨c,?_,stay λh=>c2 h.2,ai,aj⟩;have h7:¬(0:Int)<(aU ds W now a:Int):=by omega
     simp(disch:=omega)only[EV,T4,ha,aa,e1,e2,c1,h7];rfl
   ·refine⟨c,?_,stay λh=>c1 h.1,ai,aj⟩;simp(disch:=omega)only[EV,T4,ha,aa,e1,e2,c1];rfl)
  (λc ⟨hc,hb⟩=>⟨c,by simp(disch:=omega)only[EV,T4,xi],hc.eqv λu=>⟨λh=>h.imp id λ⟨b,hb,q⟩=>⟨b,hb,q⟩,λh=>h.imp id λ⟨b,hb,q⟩=>⟨b,hb,q⟩⟩,hb⟩)
 have au:aJh (o,ds,now,pr,st,wi,T,P) (x,(0:Int))=some r:=k3;refine⟨r,?_,k4⟩;unfold aDC aFV;rw[qo,k1,xc,qo,ad,xc,qo,au,xc,qt]
theorem Bg(hf:Fld o ds)(k:(List (Int))×(List (List (Int)))×(Int)×(List (Int))×(List (Int))×(List (Int)))(e1:(Bi ((ds.length:Int),o,ds) (now,p,tm,w)).ev=some (.inr (fF o ds (now,p,tm,w))))(e2:∀i,i<ds.length->¬(fF o ds (now,p,tm,w)).2.2.getD i 0<0):
  ∃g,HJ ((ds.length:Int),o,ds) (now,p,tm,w)=some g/\∀{pr wi:List Int} {st:List Bool},SG ds (gP ds w p now) (gW o ds (gT o ds (gP ds w p now) tm now) w now) pr st wi->
   ∃nw ab ad,LB k (now,pr,st,wi,gT o ds (gP ds w p now) tm now)=some (nw,g.1,ab,ad,g.2.1):=by
 refine⟨fF o ds (now,p,tm,w),iter_some.2 ⟨1,by simp only[hC,e1]⟩,λ{pr wi st} s=>?_⟩;have aa:((List.range ds.length).all λi=> !decide ((gW o ds (gT o ds (gP ds w p now) tm now) w now).getD i 0<0))=true:=xr.2 λi hi=>by have:¬(gW o ds (gT o ds (gP ds w p now) tm now) w now).getD i 0<0:=e2 i (xap.1 hi);rw[qd this];rfl
 have em:=L1 (now:=now) hf s (gT o ds (gP ds w p now) tm now);rw[aa,xl]at em;have ae:pr=gP ds w p now:=mY (by rw[s.pl];simp[gP]) λi hi=>s.pr i (by simpa[gP]using hi) (e2 i (by simpa[gP]using hi));refine⟨now,st,wi,iter_some.2 ⟨1,?_⟩⟩;have es:(Rj k (now,pr,st,wi,gT o ds (gP ds w p now) tm now)).ev=some (.inr (now,pr,st,wi,gT o ds (gP ds w p now) tm now)):=by unfold Rj;rw[qo,em,xc,qp,qb,qt]
 simp only[hC,es];rw[ae];rfl
theorem Zb(hf:Fld o ds)(k:(List (Int))×(List (List (Int)))×(Int)×(List (Int))×(List (Int))×(List (Int)))(ai:k.1=o)(aj:k.2.1=ds):∀(n:Nat) {p tm w:List Int} {now:Int},gM o ds p tm w now<=n->GI o ds p tm w now->GE o ds p tm w now->
  ∃g,HJ ((ds.length:Int),o,ds) (now,p,tm,w)=some g/\∀{pr wi:List Int} {st:List Bool},SG ds (gP ds w p now) (gW o ds (gT o ds (gP ds w p now) tm now) w now) pr st wi->
   ∃nw aa ab,LB k (now,pr,st,wi,gT o ds (gP ds w p now) tm now)=some (nw,g.1,aa,ab,g.2.1):=by
 intro n;induction n with
 |zero=>
  intro p tm w now hn h e;rcases sG hf h with⟨t,e1,e2,_,_⟩|⟨e1,e2⟩
  ·have:=(h.next hf e2).2;omega
  ·exact Bg hf k e1 e2
 |succ n ih=>
  intro p tm w now hn h e;rcases sG hf h with⟨t,e1,e2,e3,i0,ak,al⟩|⟨e1,e2⟩
  ·have ad:=h.next hf e2;have ae:=e.next hf h e2 e3;obtain⟨g,r1,r2⟩:=ih (by have:=ad.2;omega) ad.1 ae;refine⟨g,?_,λ{pr wi st} s=>?_⟩;·unfold HJ;rw[aF,e1];exact r1
   ·have af:((List.range ds.length).all λi=> !decide ((gW o ds (gT o ds (gP ds w p now) tm now) w now).getD i 0<0))=false:=by rw[xen];intro hq;have:=xr.1 hq i0 (xap.2 ak);have ao:(gW o ds (gT o ds (gP ds w p now) tm now) w now).getD i0 0<0:=al;rw[qc ao]at this;cases this
    have em:=L1 (now:=now) hf s (gT o ds (gP ds w p now) tm now);rw[af,nL]at em;obtain⟨y,s1,s2⟩:=KK hf h e s;have hy:y=t:=by
     have hl:=(h.later hf e2).1;have ah:∀u,gC o ds (gP ds w p now) (gT o ds (gP ds w p now) tm now) (gW o ds (gT o ds (gP ds w p now) tm now) w now) now u->(∃i,i<ds.length/\(gW o ds (gT o ds (gP ds w p now) tm now) w now).getD i 0<0/\∃a,a<o.length/\u=dB ds i a)\/gC2 o ds (gP ds w p now) (gT o ds (gP ds w p now) tm now) (gW o ds (gT o ds (gP ds w p now) tm now) w now) now u:=by
      rintro u (⟨i,hi,a,ha,h1,_,h2⟩|h1);·exact .inl ⟨i,hi,h1,a,ha,h2⟩
      ·exact .inr h1
     rcases s2 with⟨_,s2⟩|⟨s2,s3,s4⟩
     ·exact absurd hl (s2 t (ah t e2))
     ·have ar:gC o ds (gP ds w p now) (gT o ds (gP ds w p now) tm now) (gW o ds (gT o ds (gP ds w p now) tm now) w now) now y:=by
       rcases s2 with⟨i,hi,h1,a,ha,h2⟩|h1;·exact .inl ⟨i,hi,a,ha,h1,by omega,h2⟩
       ·exact .inr h1
      have:=e3 y ar;have:=s4 t (ah t e2) hl;omega
    subst hy;obtain⟨au,aa,ab,q1,q2⟩:=M6 hf ad.1 ae s;obtain⟨nw,av,aw,q3⟩:=r2 q2;refine⟨nw,av,aw,?_⟩;have es:(Rj k (now,pr,st,wi,gT o ds (gP ds w p now) tm now)).ev=some (.inl (y,au,aa,ab,gT o ds (gP ds (gW o ds (gT o ds (gP ds w p now) tm now) w now) (gP ds w p now) y) (gT o ds (gP ds w p now) tm now) y)):=by unfold Rj;rw[qo,em,xc,qp,qa,qo,ai,aj,s1,xc,qo,q1,xc,qt]
    unfold LB;rw[aF,es];exact q3
  ·exact Bg hf k e1 e2
theorem Gz(hf:Fld o ds){g:List Int×(List Int×List Int)}(hg:Cd o ds=some g):∃nw st wi,aDa o ds=some (nw,g.1,st,wi,g.2.1):=by
 have hlen:=hf.len;have ak:=hf.clients;have rep:∀(n:Nat) (x:Int) (i:Nat),i<n->(List.replicate n x).getD i 0=x:=λn x i hi=>by rw[xd,xco,qj hi];rfl
 have aa:=GI.begin hf;have ab:=GE.begin hf;obtain⟨r,k1,k2⟩:=Zb hf (o,ds,(0:Int),([]:List Int),([]:List Int),([]:List Int)) rfl rfl _ (xm _) aa ab
 -- the same ae
 have er:r=g:=by
  have rp:∀n:Nat,n<=1000->Vg [(-1:Int)] (n:Int)=some (List.replicate n (-1)):=λn hn=>by unfold Vg;exact yA (by omega) (-1)
  have r1:=rp o.length (by omega);have r2:=rp ds.length (by omega);have e1:(0:Int)<=(ds.length:Int):=by omega
  have e2:((8:Nat):Int)*(ds.length:Int)<=281474976710656:=by omega
  have:Cd o ds=some r:=by unfold Cd NC;simp(disch:=omega)only[EV,e1,e2,zM,r1,r2,k1]
  rw[hg]at this;exact(yJ this).symm
 subst er;have af:SG ds (List.replicate ds.length 0) (List.replicate ds.length (-1)) (List.replicate ds.length 0) (List.replicate ds.length false) (List.replicate ds.length 0):=
  ⟨by simp,by simp,by simp,λi hi=>by rw[rep _ _ i hi,xd,xco,qj hi];rfl,λi hi h=>absurd (show(List.replicate ds.length (-1:Int)).getD i 0<0 from by rw[rep _ _ i hi];omega) h⟩
 obtain⟨pr,st,wi,s1,s2⟩:=M6 hf aa ab af;obtain⟨nw,ah,ai,s3⟩:=k2 s2;have aj:aIc (o,ds,(0:Int),(0:Int),([]:List (Int)),([]:List (Int)),([]:List (Int)),List.replicate ds.length (0:Int),List.replicate ds.length false,List.replicate ds.length (0:Int)) ((0:Int),([]:List Int))=some (List.replicate o.length (-1)):=by
  have:=iT (f:=λv=>(EZ (o,ds,(0:Int),(0:Int),([]:List (Int)),([]:List (Int)),([]:List (Int)),List.replicate ds.length (0:Int),List.replicate ds.length false,List.replicate ds.length (0:Int)) v).ev) (n:=o.length) (mk:=λk (l:List Int)=>((k:Int),l)) (λ_=>(-1:Int)) (λl=>l)
   (λi l hi hl=>by
    have ad:∀x:Int,List.length [x]=1:=λ_=>rfl;have hb:(l.length+1)*8<=140737488355328:=by omega
    simp(disch:=omega)only[EV,EZ,hi,ad,hb];rfl)
   (λl _=>by simp(disch:=omega)only[EV,EZ,xi])
  rw[show(List.range o.length).map (λ_=>(-1:Int))=List.replicate o.length (-1)from by simp[List.map_const']]at this;exact this
 refine⟨nw,ah,ai,?_⟩;have e1:(0:Int)<=((ds.length:Nat):Int):=by omega
 have e2:((8:Nat):Int)*((ds.length:Nat):Int)<=281474976710656:=by omega
 have e3:((1:Nat):Int)*((ds.length:Nat):Int)<=281474976710656:=by omega
 unfold aDa ZD;rw[qq,qc e1,qc (zM _),qc e2,IY,IY,qa,qq,qc e3,IY,qa,qq,qa,xy,qo,aj,xc,qo,s1,xc,qo,s3,xc,qt]
theorem JQ{K:Int->Int}(x:Int)(l:List Int):l.take ((l.findIdx? λy=> !decide (K y<=K x)).elim l.length id)++x::l.drop ((l.findIdx? λy=> !decide (K y<=K x)).elim l.length id)=iB K x l:=K5 x l
theorem M2(t:List Int):∀n:Nat,(List.range n).foldl (λacc a=>if 0<=t.getD a 0 then iB (λx=>t.getD x.toNat 0) (a:Int) acc else acc) []=dS (λx=>t.getD x.toNat 0) ((List.range n).foldl (λacc a=>if 0<=t.getD a 0 then acc++ [(a:Int)]else acc) [])
 |0=>rfl
 |n+1=>by
  rw[aV,aV,M2 t n];split;·rw[x6]
  ·rfl
theorem Wt{T acc:List Int}{a:Nat}(ha:a<T.length)(aa:∀x∈acc,0<=x/\x<(a:Int))(hl:acc.length<=1000)(nw:Int)(pr wi:List Int)(st:List Bool):
  YO (acc,(a:Int),nw,pr,st,wi,T) (0:Int)=some (((acc.findIdx? λy=> !decide (T.getD y.toNat 0<=T.getD a 0)).elim acc.length id:Nat):Int):=by
 have key:=gJ (f:=λv=>(Qm (acc,(a:Int),nw,pr,st,wi,T) v).ev) (l:=acc) 0 (λy=> !decide (T.getD y.toNat 0<=T.getD a 0)) (mk:=λi=>(i:Int)) (yes:=λi=>(i:Int)) (no:=((acc.length:Nat):Int))
  (λi hi=>by
   have hm:=aa _ (aG (d:=0) hi);have e1:=f6 (T:=T) (a:=(a:Int)) (b:=acc.getD i 0) (by omega) (by omega) (by omega) nw pr st wi;rw[xy]at e1;by_cases c:T.getD (acc.getD i 0).toNat 0<=T.getD a 0;·rw[qd (by omega)]at e1;rw[qc c,xl,qb];simp(disch:=omega)only[EV,Qm,hi,e1];rfl
   ·rw[qc (by omega)]at e1;rw[qd c,nL,qa];simp(disch:=omega)only[EV,Qm,hi,e1])
  (by simp(disch:=omega)only[EV,Qm,xi])
 have k1:YO (acc,(a:Int),nw,pr,st,wi,T) (0:Int)=some ((acc.findIdx? λy=> !decide (T.getD y.toNat 0<=T.getD a 0)).elim ((acc.length:Nat):Int) λi=>(i:Int)):=key;rw[k1];cases acc.findIdx? λy=> !decide (T.getD y.toNat 0<=T.getD a 0)<;>rfl
theorem Zc{T:List Int}(ht:T.length<=7)(nw:Int)(pr wi:List Int)(st:List Bool):aEx nw pr st wi T=some (dS (λx=>T.getD x.toNat 0) (gX T)):=by
 have key:=(aR (f:=λv=>(Tk (nw,pr,st,wi,T) v).ev) (n:=T.length) (mk:=λi (acc:List Int)=>(acc,(i:Int))) (I:=λi acc=>(∀x∈acc,0<=x/\x<(i:Int))/\acc.length<=i) (g:=λacc a=>if 0<=T.getD a 0 then iB (λx=>T.getD x.toNat 0) (a:Int) acc else acc) (fin:=λacc=>acc) (s0:=[])
  ⟨λx h=>(by cases h),xm _⟩
  (λa acc ha ⟨h1,h2⟩=>by
   by_cases c:0<=T.getD a 0
   ·have e1:=Wt ha h1 (by omega) nw pr wi st;have e2:=JQ (K:=λx=>T.getD x.toNat 0) (a:Int) acc;simp only[xy]at e2;have hk:((acc.findIdx? λy=> !decide (T.getD y.toNat 0<=T.getD a 0)).elim acc.length id:Nat)<=acc.length:=by
     cases hf:acc.findIdx? λy=> !decide (T.getD y.toNat 0<=T.getD a 0)with
     |none=>exact xm _
     |some j=>obtain⟨hj,_⟩:=xdb.1 hf;exact Nat.le_of_lt hj
    generalize((acc.findIdx? λy=> !decide (T.getD y.toNat 0<=T.getD a 0)).elim acc.length id:Nat)=k at e1 e2 hk;have hp:=qH (K:=λx=>T.getD x.toNat 0) (a:Int) acc;have ab:=hp.length_eq;rw[xk]at ab;simp only[qj c];refine⟨?_,λx hx=>?_,by rw[ab];omega⟩
    ·have aa:∀x:Int,List.length [x]=1:=λ_=>rfl;have ad:(List.take k acc).length=k:=by rw[xw];omega
     have ae:pO (List.take k acc)=some (List.take k acc):=jX (by omega);have g1:(0:Int)<=(k:Int):=by omega
     have g2:(k:Int)<=((acc.length:Nat):Int):=by omega
     have g3:(k+1)*8<=140737488355328:=by omega
     have af:(List.drop k (List.take acc.length acc)).length=acc.length-k:=by rw[tM,tO]
     have g4:((List.take k acc++ [(a:Int)]).length+(acc.length-k))*8<=140737488355328:=by rw[xj,aa,ad];omega
     have ah:¬T.getD a 0<0:=by omega
     unfold Tk;dsimp only;rw[qp,qc (show(a:Int)<((T.length:Nat):Int) by omega),qa,qq,show aC (a:Int) T.length=true from dM ha,qa,xy,qp,qd ah,qb,qo,e1,xc,qq,qc g1,qc g2,IY,qa,xy,Sy,qo,ae,xc,qq,aa,ad,qc g3,qa,qq,qa,qq,af,qc g4,qa,qt,tM,<-e2,aL (by omega) (by omega)];simp
    ·rcases xae.1 (hp.mem_iff.1 hx)with rfl|hx;·omega
     ·have:=h1 x hx;omega
   ·simp only[qi c];refine⟨?_,λx hx=>by have:=h1 x hx;omega,by omega⟩;have c':T.getD a 0<0:=by omega
    simp(disch:=omega)only[EV,Tk,ha,c'];rfl)
  (λacc _=>by simp(disch:=omega)only[EV,Tk,xi])).1
 have k1:aGW (nw,pr,st,wi,T) (([]:List Int),(0:Int))=some ((List.range T.length).foldl (λacc a=>if 0<=T.getD a 0 then iB (λx=>T.getD x.toNat 0) (a:Int) acc else acc) []):=key;unfold aEx aFZ gX;rw[qo,k1,xc,qt,M2]
theorem Q5(hf:Fld o ds){pr T:List Int}(hp:pr.length=ds.length)(ht:T.length=o.length){a b:Nat}(ha:a<o.length)(hb:b<o.length)(aa:0<=T.getD a 0)(ab:0<=T.getD b 0)(nw:Int)(st:List Bool)(wi:List Int):aAo o ds nw pr st wi T (a:Int) (b:Int)=some (iX ds pr a b):=by
 have af:=hf.clients;have hlen:=hf.len;have key:=bA (f:=λv=>(Gx ((a:Int),(b:Int),o,ds,nw,pr,st,wi,T) v).ev) (n:=ds.length) (λi=>(i:Int)) (λi=> !(decide (dB ds i a<pr.getD i 0)&&decide (dB ds i b<pr.getD i 0))) (.inl ():Unit⊕Bool) (.inr true)
  (λi hi _=>by
   have hr:=hf.rowLen i hi;have h1:=hf.at2 hi ha;have h2:=hf.at2 hi hb;have ad:a<T.length:=by omega
   have ae:b<T.length:=by omega
   have e1:(ds.getD i []).getD a 0=at2 ds i a:=rfl;have e2:(ds.getD i []).getD b 0=at2 ds i b:=rfl;have e3:2520*at2 ds i a=dB ds i a:=RR _ _;have e4:2520*at2 ds i b=dB ds i b:=RR _ _;by_cases c1:dB ds i a<pr.getD i 0
   ·by_cases c2:dB ds i b<pr.getD i 0;·simp(disch:=omega)only[EV,Gx,hi,hp,hr,ha,hb,ad,ae,e1,e2,e3,e4,c1,c2,aa,ab]
    ·simp(disch:=omega)only[EV,Gx,hi,hp,hr,ha,hb,e1,e2,e3,e4,c1,c2];rfl
   ·simp(disch:=omega)only[EV,Gx,hi,hp,hr,ha,e1,e3,c1];rfl)
  (by simp(disch:=omega)only[EV,Gx,xi])
 have k1:aJU ((a:Int),(b:Int),o,ds,nw,pr,st,wi,T) (0:Int)=some (bif (List.range ds.length).all λi=> !(decide (dB ds i a<pr.getD i 0)&&decide (dB ds i b<pr.getD i 0))then .inl ()else .inr true):=key;unfold aAo aFo iX;rw[qo,k1,xc];cases(List.range ds.length).all λi=> !(decide (dB ds i a<pr.getD i 0)&&decide (dB ds i b<pr.getD i 0))<;>rfl
theorem DV{l m:List Int}(h:∀x,x∈l↔x∈m)(q:Int->Bool):l.any q=m.any q:=by rw[CZ,xbh,xbh];exact⟨λ⟨x,h1,h2⟩=>⟨x,(h x).1 h1,h2⟩,λ⟨x,h1,h2⟩=>⟨x,(h x).2 h1,h2⟩⟩
theorem O1(t:List Int):∀n:Nat,∀x∈(List.range n).foldl (λacc a=>if 0<=t.getD a 0 then acc++ [(a:Int)]else acc) [],0<=t.getD x.toNat 0
 |0=>λx h=>(by cases h)
 |n+1=>by
  have ih:=O1 t n;rw[aV];split
  ·next h=>
   intro x hx;rcases xq.1 hx with hx|hx;·exact ih x hx
   ·rw[xo.1 hx];exact h
  ·exact ih
theorem FU(hf:Fld o ds){pr T:List Int}(hp:pr.length=ds.length)(ht:T.length=o.length)(nw:Int)(st:List Bool)(wi:List Int){l:List Int}(hl:∀x∈l,(0<=x/\x<(o.length:Int))/\0<=T.getD x.toNat 0)(al:l.length<=7)(aj:l.Nodup):
  aJz (l,o,ds,nw,pr,st,wi,T) (([]:List Int),(0:Int))=some (dQ (jL ds pr l)):=by
 have hlen:=hf.len;have key:=aK (f:=λv=>(Rw (l,o,ds,nw,pr,st,wi,T) v).ev) (n:=l.length) (λi (acc:List Int)=>(acc,(i:Int))) (λi acc=>acc=dQ (jL ds pr (l.take i))) (λr=>r=dQ (jL ds pr l)) (s0:=[]) (by simp[jL,dQ])
  (λi acc hi aa=>by
   left;have hx:=hl _ (aG (d:=0) hi);have af:l.take (i+1)=l.take i++ [l.getD i 0]:=by rw[Vw hi,xd,xf hi];rfl
   have ad:=wS ds pr (l.take i);obtain⟨_,s2,s3⟩:=wF (jL ds pr (l.take i));have ao:acc.length<=i:=by rw[aa,s2];have:=ad.length_le;rw[xw]at this;omega
   have ah:∀y∈acc,(0<=y/\y<(o.length:Int))/\0<=T.getD y.toNat 0:=λy hy=>hl y (Vs (ad.subset ((s3 y).1 (by rw[aa]at hy;exact hy))));have ai:l.getD i 0∉acc:=λhy=>by have h1:l.getD i 0∈l.take i:=ad.subset ((s3 _).1 (by rw[aa]at hy;exact hy));have h2:(l.take (i+1)).Nodup:=aj.sublist (List.take_sublist _ _);rw[af,List.nodup_append]at h2;exact h2.2.2 _ h1 _ (xo.2 rfl) rfl
   -- the inner rounds
   have e1:aKm (l,acc,(i:Int),o,ds,nw,pr,st,wi,T) (true,(0:Int))=some (!acc.any λb=>iX ds pr (l.getD i 0).toNat b.toNat):=by
    have k:=aK (f:=λv=>(Pc (l,acc,(i:Int),o,ds,nw,pr,st,wi,T) v).ev) (n:=acc.length) (λj (c:Bool)=>(c,(j:Int))) (λj c=>c= !(acc.take j).any λb=>iX ds pr (l.getD i 0).toNat b.toNat) (λr=>r= !acc.any λb=>iX ds pr (l.getD i 0).toNat b.toNat) (s0:=true) rfl
     (λj c hj hc=>by
      left;have hb:=ah _ (aG (d:=0) hj);have ak:acc.take (j+1)=acc.take j++ [acc.getD j 0]:=by rw[Vw hj,xd,xf hj];rfl
      have ec:=Q5 hf hp ht (a:=(l.getD i 0).toNat) (b:=(acc.getD j 0).toNat) (by omega) (by omega) hx.2 hb.2 nw st wi;rw[xec hx.1.1,xec hb.1.1]at ec;refine⟨c&& !iX ds pr (l.getD i 0).toNat (acc.getD j 0).toNat,?_,?_⟩
      ·cases c with
       |true=>simp(disch:=omega)only[EV,Pc,hj,hi,ec];rfl
       |false=>simp(disch:=omega)only[EV,Pc,hj];rfl
      ·rw[ak,hc];simp[xhb])
     (λc hc=>⟨c,by simp(disch:=omega)only[EV,Pc,xi],by rw[hc,tM]⟩)
    obtain⟨r,k1,k2⟩:=k;rw[<-k2];exact k1
   have ab:(acc.any λb=>iX ds pr (l.getD i 0).toNat b.toNat)=(jL ds pr (l.take i)).any λb=>iX ds pr (l.getD i 0).toNat b.toNat:=DV (λx=>by rw[aa];exact s3 x) _;have ae:jL ds pr (l.take (i+1))=if(jL ds pr (l.take i)).any (λb=>iX ds pr (l.getD i 0).toNat b.toNat)then jL ds pr (l.take i)else jL ds pr (l.take i)++ [l.getD i 0]:=by rw[af];unfold jL;rw[LA];rfl
   cases hq:acc.any λb=>iX ds pr (l.getD i 0).toNat b.toNat with
   |true=>
    rw[hq]at e1 ab;rw[xl]at e1;refine⟨acc,?_,?_⟩;·simp(disch:=omega)only[EV,Rw,hi,e1];rfl
    ·rw[ae,<-ab,qj rfl];exact aa
   |false=>
    rw[hq]at e1 ab;rw[nL]at e1;have e2:=qI (l:=acc) (x:=l.getD i 0) (by omega) ai;refine⟨ins (l.getD i 0) acc,?_,?_⟩;·simp(disch:=omega)only[EV,Rw,hi,e1,e2];rfl
    ·rw[ae,<-ab,qi (by simp),b7,<-aa])
  (λacc aa=>⟨acc,by simp(disch:=omega)only[EV,Rw,xi],by rw[aa,tM]⟩)
 obtain⟨r,k1,k2⟩:=key;rw[<-k2];exact k1
theorem yX(hf:Fld o ds)(hv:vM o ds=some true){g:List Int×(List Int×List Int)}(aa:GR o ds g)(hg:Cd o ds=some g)(h0:0<ds.length):Vb o ds=some (rH ds g,true):=by obtain⟨nw,st,wi,e1⟩:=Gz hf hg;have hlen:=hf.len;have ae:=aa.tl;have e2:=Zc (T:=g.2.1) (by omega) nw g.1 wi st;obtain⟨r1,r2,r3⟩:=uX g.2.1 g.2.1.length;have hs:=(qN (K:=λx=>g.2.1.getD x.toNat 0) (gX g.2.1)).2;have ad:(dS (λx=>g.2.1.getD x.toNat 0) (gX g.2.1)).Nodup:=hs.nodup_iff.2 (r2.imp λh e=>by omega);have ab:=O1 g.2.1 g.2.1.length;have e3:=FU hf aa.pl aa.tl nw st wi (l:=dS (λx=>g.2.1.getD x.toNat 0) (gX g.2.1)) (λx hx=>by have hm:x∈gX g.2.1:=hs.mem_iff.1 hx;have:=r1 x hm;exact⟨by omega,ab x hm⟩) (by rw[hs.length_eq];have af:(gX g.2.1).length<=g.2.1.length:=r3;omega) ad;have hd:((((ds.length:Nat):Int))==0)=false:=beq_eq_false_iff_ne.2 (by omega);unfold Vb QA rH;rw[qo,hv,xc,qp,xl,qb,qp,hd,qb,qo,e1,xc,qo,e2,xc,qo,e3,xc,qt]
end
end Go.Proofs.YtjiljcblmgeioaaGreatDoor
