/- A part of the proof that FnExactExecuteCommand hands back true, at every argument of the row. -/
import Derived.Test.YteiekijgoifhoaaGreatDoorP87
namespace Go.Proofs.YteiekijgoifhoaaGreatDoor
set_option linter.all false
def ins(x:Int):List Int->List Int
 | []=>[x]
 |a::l=>if a<=x then a::ins x l else x::a::l
def dK(l:List Int):List Int:=l.foldl (λacc x=>ins x acc) []
theorem N8{x y:Int}(h:x<y):∀q:List Int,ins x (q++ [y])=ins x q++ [y]
 | []=>by simp[ins];omega
 |a::q=>by
  simp only[Y7,ins];split;·rw[N8 h q];rfl
  ·rfl
theorem P8{x:Int}:∀{l:List Int},(∀y∈l,y<=x)->ins x l=l++ [x]
 | [],_=>rfl
 |a::l,h=>by simp only[ins,qi (h a xz),Y7];rw[P8 λy hy=>h y (xw _ hy)]
theorem mem_ins{x y:Int}:∀{l:List Int},y∈ins x l↔y=x\/y∈l
 | []=>by simp[ins]
 |a::l=>by
  simp only[ins];split
  ·simp only[xaj,mem_ins (l:=l)];constructor
   ·rintro(h|h|h);·exact .inr (.inl h)
    ·exact .inl h
    ·exact .inr (.inr h)
   ·rintro(h|h|h);·exact .inr (.inl h)
    ·exact .inl h
    ·exact .inr (.inr h)
  ·simp only[xaj]
theorem Fz{x:Int}:∀{l:List Int},(ins x l).length=l.length+1
 | []=>rfl
 |a::l=>by
  simp only[ins];split;·simp[Fz (l:=l)]
  ·rfl
theorem j7{x:Int}:∀{l:List Int},l.Pairwise (· <= ·)->(ins x l).Pairwise (· <= ·)
 | [],_=>by simp[ins]
 |a::l,h=>by
  rw[xbo]at h;simp only[ins];split
  next hx=>
   rw[xbo];exact⟨λy hy=>(mem_ins.1 hy).elim (λe=>e▸hx) (h.1 y),j7 h.2⟩
  next hx=>
   rw[xbo,xbo];refine⟨λy hy=>?_,h⟩;rcases xaj.1 hy with rfl|hy;·omega
   ·have:=h.1 y hy;omega
theorem a6(l:List Int)(x:Int):dK (l++ [x])=ins x (dK l):=by simp[dK]
theorem uP:∀l:List Int,(dK l).Pairwise (· <= ·)/\(dK l).length=l.length/\∀y,y∈dK l↔y∈l:=by
 intro l;have key:∀(l acc:List Int),acc.Pairwise (· <= ·)->(l.foldl (λacc x=>ins x acc) acc).Pairwise (· <= ·)/\(l.foldl (λacc x=>ins x acc) acc).length=acc.length+l.length/\∀y,y∈l.foldl (λacc x=>ins x acc) acc↔y∈acc\/y∈l:=by
  intro l;induction l with
  |nil=>intro acc h;exact⟨h,rfl,λy=>by simp⟩
  |cons x l ih=>
   intro acc h;obtain⟨h1,h2,h3⟩:=ih (ins x acc) (j7 h);refine⟨h1,by rw[N3,h2,Fz,xl];omega,λy=>?_⟩;rw[N3,h3,mem_ins,xaj];constructor
   ·rintro((h|h)|h);·exact .inr (.inl h)
    ·exact .inl h
    ·exact .inr (.inr h)
   ·rintro(h|h|h);·exact .inl (.inr h)
    ·exact .inl (.inl h)
    ·exact .inr h
 obtain⟨h1,h2,h3⟩:=key l [] List.Pairwise.nil;exact⟨h1,by simpa[dK]using h2,λy=>by simpa[dK]using h3 y⟩
theorem zL(a b:Int):FW a b=some (decide (a<b)):=by unfold FW ON L7 Oe;simp(disch:=omega)only[EV,qk]
theorem O2{p r:List Int}{x:Int}:(p++x::r).getD p.length 0=x:=by rw[xe,j8 (xp _),Nq];rfl
theorem I7(n i:Int):∀(m:Nat) (p:List Int) (x:Int) (r:List Int),p.length=m->(p.length:Int)<9223372036854775807->p.Pairwise (· <= ·)->wyy (0,n,i) ((p.length:Int),p++x::r)=some (ins x p++r):=by
 intro m;induction m with
 |zero=>intro p x r hm _ _;have:=o8 hm;subst this;unfold wyy;rw[aL];simp(disch:=omega)only[EV,OT,xj,lI,BN,show((0:Nat):Int)=0 from rfl];rfl
 |succ m ih=>
  intro p x r hm ae hp;obtain⟨q,y,rfl⟩:∃q y,p=q++ [y]:=by
   have:=xft p;rcases this with h|⟨q,y,h⟩
   ·rw[h]at hm;cases hm
   ·exact⟨q,y,by simpa using h⟩
  have aa:q.length=m:=by simpa using hm
  have e0:((q++ [y]).length:Int)=((m+1:Nat):Int):=by simp[aa]
  rw[e0]at ae⊢;have e2:((m+1:Nat):Int) -1=(m:Int):=by omega
  have g1:((q++ [y])++x::r).getD (m+1) 0=x:=by have:=O2 (p:=q++ [y]) (x:=x) (r:=r);rwa [show(q++ [y]).length=m+1 by simp[aa]]at this
  have g2:((q++ [y])++x::r).getD m 0=y:=by have:=O2 (p:=q) (x:=y) (r:=x::r);rw[aa]at this;simpa using this
  have hl:((q++ [y])++x::r).length=m+2+r.length:=by simp[aa];omega
  have s1:(((q++ [y])++x::r).set (m+1) y).set m x=q++x::(y::r):=by
   have t1:((q++ [y])++x::r).set (m+1) y=(q++ [y])++y::r:=by rw[Wd _ _ (by simp[aa]),show m+1-(q++ [y]).length=0 by simp[aa]];rfl
   rw[t1,Fy,Wd _ _ (by omega),show m-q.length=0 by omega];rfl
  have ad:¬x<y->((q++ [y])++x::r)=ins x (q++ [y])++r:=λab=>by
   rw[P8];·simp
   ·intro z hz;rcases xaa.1 hz with hz|hz;·have:=(xdr.1 hp).2.2 z hz y (by simp);omega
    ·have:=xx.1 hz;omega
  have h0:(0:Int)<((m+1:Nat):Int):=by omega
  have h1:m+1<m+2+r.length:=by omega
  have h2:m<m+2+r.length:=by omega
  generalize((q++ [y])++x::r)=L at g1 g2 hl s1 ad;unfold wyy;rw[aL];by_cases ab:x<y
  ·have e:(OT (0,n,i) (((m+1:Nat):Int),L)).ev=some (.inl ((m:Int),q++x::(y::r))):=by simp(disch:=omega)only[EV,OT,h0,hl,h1,e2,h2,g1,g2,zL,ab,F0,s1]
   rw[e];have:=ih q x (y::r) aa (by omega) (xdr.1 hp).1;rw[aa]at this;unfold wyy at this;simp only;rw[this,N8 ab];simp
  ·have e:(OT (0,n,i) (((m+1:Nat):Int),L)).ev=some (.inr L):=by simp(disch:=omega)only[EV,OT,h0,hl,h1,e2,h2,g1,g2,zL,ab]
   rw[e];simp only;rw[ad ab]
theorem Ub(l:List Int):(List.range (l.length-1)).foldl (λ_ k=>dK (l.take (k+2))++l.drop (k+2)) l=dK l:=by
 cases hn:l.length-1 with
 |zero=>
  rcases l with _|⟨a,_|⟨b,l⟩⟩
  ·rfl
  ·rfl
  ·simp at hn
 |succ n=>rw[KK,BE];simp only[N3,xgh];rw[Ak (by omega),xhd (by omega),wG]
theorem uN{l:List Int}(hl:(l.length:Int)<9223372036854775806):SH 0 (l.length:Int) l=some (dK l):=by
 have key:=(aK (f:=λv=>(wyz (0,(l.length:Int)) v).ev) (n:=l.length-1) (mk:=λk (s:List Int)=>(((k+1:Nat):Int),s)) (I:=λk s=>s=dK (l.take (k+1))++l.drop (k+1)) (g:=λ_ k=>dK (l.take (k+2))++l.drop (k+2)) (fin:=λs=>s) (s0:=l) (by
   cases l with
   |nil=>rfl
   |cons a l=>simp[dK,ins])
  (λk s hk hs=>by
   subst hs;have aa:k+1<l.length:=by omega
   obtain⟨h1,h2,_⟩:=uP (l.take (k+1));have h3:(dK (l.take (k+1))).length=k+1:=by rw[h2];simp;omega
   have h4:l.drop (k+1)=l[k+1]::l.drop (k+2):=Im aa;have h5:dK (l.take (k+2))=ins l[k+1] (dK (l.take (k+1))):=by rw[<-a6,Mj aa]
   have h6:=I7 (l.length:Int) ((k+1:Nat):Int) (k+1) (dK (l.take (k+1))) l[k+1] (l.drop (k+2)) h3 (by rw[h3];omega) h1;rw[h3,<-h4]at h6;refine⟨?_,rfl⟩;simp(disch:=omega)only[EV,wyz,aa,h6];rw[h5];rfl)
  (λs _=>by
   have:¬((l.length-1+1:Nat):Int)<(l.length:Int):=by omega
   simp(disch:=omega)only[EV,wyz,show¬(l.length-1+1<l.length) by omega])).1
 rw[Ub]at key;have z:(((0+1:Nat):Int),l)=((1:Int),l):=rfl;have e:aEO (0,(l.length:Int)) (1,l)=some (dK l):=key;unfold SH MP;simp(disch:=omega)only[EV,show IntKind.wrap .i64 ((0:Int)+1)=1 from rfl,e]
theorem Cb:∀n:Nat,n<=12->∃r,Wq (IntKind.wrap .u64 (n:Int))=some r
 |0,_=>⟨0,by kernel_rfl⟩
 |1,_=>⟨1,by kernel_rfl⟩
 |2,_=>⟨2,by kernel_rfl⟩
 |3,_=>⟨2,by kernel_rfl⟩
 |4,_=>⟨3,by kernel_rfl⟩
 |5,_=>⟨3,by kernel_rfl⟩
 |6,_=>⟨3,by kernel_rfl⟩
 |7,_=>⟨3,by kernel_rfl⟩
 |8,_=>⟨4,by kernel_rfl⟩
 |9,_=>⟨4,by kernel_rfl⟩
 |10,_=>⟨4,by kernel_rfl⟩
 |11,_=>⟨4,by kernel_rfl⟩
 |12,_=>⟨4,by kernel_rfl⟩
 |n+13,h=>by omega
theorem v6{l:List Int}(hl:l.length<=12):UO l=some (dK l):=by
 obtain⟨r,hr⟩:=Cb l.length hl;have key:WR (0,(l.length:Int),r,true,true,l) ()=some (dK l):=by
  have hw:IntKind.wrap .i64 ((l.length:Int) -0)<=12:=by rw[aV (by omega) (by omega)];omega
  unfold WR;rw[aL];unfold GW;rw[qo];simp only;rw[qc hw,qa,qn,uN (by omega)];rfl
 unfold UO OR;rw[qn,hr,xc,qn];unfold aBn KU;rw[qn,key];rfl
theorem X6(x:Int):∀l:List Int,l.take ((l.findIdx? λy=> !decide (y<=x)).elim l.length id)++x::l.drop ((l.findIdx? λy=> !decide (y<=x)).elim l.length id)=ins x l
 | []=>rfl
 |a::l=>by
  have ih:=X6 x l;rw[xek];by_cases h:a<=x
  ·simp only[h,decide_true,xq,rU,if_false,ins,if_true];cases hf:l.findIdx? λy=> !decide (y<=x)with|none=>rw[hf]at ih;simpa using ih|some j=>rw[hf]at ih;simpa using ih
  ·simp[h,ins]
abbrev tI:Ty:=.int .i64
abbrev tL:Ty:=.slice tI
abbrev tLL:Ty:=.slice tL
theorem vD{n:Nat}(h:n<=maxLen):(n:Int)<9223372036854775808:=by unfold maxLen at h;omega
theorem NJ{l:List Int}(h:C1 tL l):K2 l:=by have:=vD h.1;unfold K2;omega
theorem aKY{x:List (List Int)}(h:C1 tLL x):Xu x:=by have:=vD h.1;exact⟨by omega,λr hr=>NJ (h.2 r hr)⟩
section
open Go
def CK(B:Int)(l:List Int)(i:Int):Prop:=(∀x∈l,0<=x/\x<=255)/\l.length<=100000/\0<=i/\i<=B
theorem CK.mono{B B':Int}{l:List Int}{i:Int}(h:CK B l i)(hb:B<=B'):CK B' l i:=⟨h.1,h.2.1,h.2.2.1,by have:=h.2.2.2;omega⟩
theorem R5{V R:Type}{f:V->Option (V⊕R)}{n:Nat}(P:Nat->V->Prop)(Q:R->Prop)(hs:∀k v,k<n->P k v->∃v',f v=some (.inl v')/\P (k+1) v')(he:∀v,P n v->∃r,f v=some (.inr r)/\Q r){v:V}(h0:P 0 v):∃r,aC f v=some r/\Q r:=by
 have key:∀m k v,k+m=n->P k v->∃r,aC f v=some r/\Q r:=by
  intro m;induction m with
  |zero=>
   intro k v hk hp;have:k=n:=by omega
   subst this;obtain⟨r,h1,h2⟩:=he v hp;exact⟨r,by rw[aL,h1],h2⟩
  |succ m ih=>intro k v hk hp;obtain⟨v',h1,h2⟩:=hs k v (by omega) hp;obtain⟨r,h3,h4⟩:=ih (k+1) v' (by omega) h2;exact⟨r,by rw[aL,h1];exact h3,h4⟩
 exact key n 0 v (by omega) h0
theorem X5(l:List Int)(x:Int)(h:l.length<=1000000):(l.length+List.length ([x]:List Int))*8<=140737488355328:=by simp;omega
theorem uG{α:Type}(l:List α)(h:l.length<=1000000):(l.length+1)*24<=140737488355328:=by omega
theorem hY{α:Type}(l:List (List α))(x:List α):List.set (l++ [[]]) l.length x=l++ [x]:=by rw[Wd _ _ (xp _)];simp
end
theorem eins_mem{x y:Int}:∀{l:List Int},y∈ins x l↔y=x\/y∈l
 | []=>by simp[ins]
 |a::l=>by
  simp only[ins];split
  ·rw[xaj,eins_mem (l:=l),xaj];constructor;·rintro(h|h|h)<;>simp[h]
   ·rintro(h|h|h)<;>simp[h]
  ·simp[xaj]
theorem oM(x:Int):∀l:List Int,(ins x l).length=l.length+1
 | []=>rfl
 |a::l=>by
  simp only[ins];split;·simp[oM x l]
  ·simp
theorem C4{x:Int}:∀{l:List Int},l.Pairwise (· < ·)->x∉l->(ins x l).Pairwise (· < ·)
 | [],_,_=>by simp[ins]
 |a::l,h,hx=>by
  obtain⟨h1,h2⟩:=xbo.1 h;rw[xaj,not_or]at hx;simp only[ins];split
  next hle=>
   refine xbo.2 ⟨λy hy=>?_,C4 h2 hx.2⟩;rcases eins_mem.1 hy with e|hy;·have:=hx.1;omega
   ·exact h1 y hy
  next hle=>
   refine xbo.2 ⟨λy hy=>?_,h⟩;rcases xaj.1 hy with e|hy;·omega
   ·have:=h1 y hy;omega
theorem A4:∀{l:List Int} {a b:Int},l.Pairwise (· < ·)->(∀x∈l,a<=x/\x<b)->l.length<=(b-a).toNat
 | [],_,_,_,_=>by simp
 |x::l,a,b,h,hb=>by
  obtain⟨h1,h2⟩:=xbo.1 h;have ih:=A4 (l:=l) (a:=x+1) (b:=b) h2 λy hy=>⟨by have:=h1 y hy;omega,(hb y (xw _ hy)).2⟩
  have:=hb x (by simp);simp only[xl];omega
def ris(n:Nat)(s:List Int):Prop:=(∀x∈s,0<=x/\x<(n:Int))/\s.Pairwise (· < ·)
theorem ris_iff{n:Nat}{s:List Int}:cL s 0 ((n:Int) -1)=true↔ris n s:=by rw[risingB_iff];exact⟨λh=>⟨λx hx=>by have:=h.1 x hx;omega,h.2⟩,λh=>⟨λx hx=>by have:=h.1 x hx;omega,h.2⟩⟩
theorem ris.len{n:Nat}{s:List Int}(h:ris n s):s.length<=n:=by have:=A4 h.2 h.1;omega
theorem ris.low{n:Nat}{s:List Int}(h:ris n s)(hn:n<=7):aF s:=by have:=h.len;unfold aF;omega
theorem ris.places{n:Nat}{s:List Int}(h:ris n s)(hn:n<=7):Places s n:=Places.of (h.low hn) (ris_iff.2 h)
theorem ris.ins{n:Nat}{s:List Int}(h:ris n s){a:Int}(h0:0<=a)(ha:a<(n:Int))(hx:a∉s):ris n (ins a s):=
 ⟨λx hx=>by
  rcases eins_mem.1 hx with e|hx;·omega
  ·exact h.1 x hx,C4 h.2 hx⟩
theorem ris.filter{n:Nat}{s:List Int}(h:ris n s)(p:Int->Bool):ris n (s.filter p):=
 ⟨λx hx=>h.1 x (xap.1 hx).1,h.2.filter p⟩
theorem sZ{l:List Int}(hl:l.length<=1000000)(x:Int):N7 l x=some (l.contains x):=by
 have hs:aAy (l,x) 0=_:=fM (f:=λv=>(wvm (l,x) v).ev) (l:=l) 0 (λy=>y==x) (mk:=λi=>(i:Int)) (yes:=λ_=>.inr ()) (no:=.inl ()) (λi hi=>by simp(disch:=omega)only[EV,wvm,hi];cases(l.getD i 0==x)<;>rfl) (by simp(disch:=omega)only[EV,wvm,xj]);unfold N7 QX;simp(disch:=omega)only[EV,hs];have e:l.contains x=l.any λy=>y==x:=by rw[List.contains_eq_any_beq];congr 1;funext y;exact Bool.beq_comm
 rw[e];have h2:=nQ (l:=l) (q:=λy=>y==x);cases h:l.findIdx? λy=>y==x with
 |none=>
  rw[h]at h2;have h3:(l.any λy=>y==x)=false:=by rw[xes];exact λh4=>by have:=h2.1 h4;simp at this
  rw[h3];rfl
 |some i=>rw[h]at h2;rw[h2.2 rfl];rfl
theorem oQ{l:List Int}{x:Int}(hl:l.length<=100)(hx:x∉l):P4 l x=some (ins x l):=by
 have h:=fM (f:=λv=>(ZZ (l,x) v).ev) (l:=l) 0 (λy=> !decide (y<=x)) (mk:=λi=>(i:Int)) (yes:=λi=>(i:Int)) (no:=(l.length:Int))
  (λi hi=>by
   have ad:l.getD i 0≠x:=λe=>hx (e▸aE hi);by_cases aa:l.getD i 0<x
   ·have hle:l.getD i 0<=x:=by omega
    simp(disch:=omega)only[EV,ZZ,hi,aa,hle];rfl
   ·have hle:¬l.getD i 0<=x:=by omega
    simp(disch:=omega)only[EV,ZZ,hi,aa,hle])
  (by simp(disch:=omega)only[EV,ZZ,xj])
 have h0:IE (l,x) 0=some ((((l.findIdx? λy=> !decide (y<=x)).elim l.length id:Nat):Int)):=by have h1:IE (l,x) 0=_:=h;rw[h1];cases l.findIdx? λy=> !decide (y<=x)<;>rfl
 have hi:=X6 x l;have hle:(l.findIdx? λy=> !decide (y<=x)).elim l.length id<=l.length:=by
  cases hf:l.findIdx? λy=> !decide (y<=x)with
  |none=>exact xp _
  |some j=>obtain⟨hj,_⟩:=xdd.1 hf;exact Nat.le_of_lt hj
 generalize(l.findIdx? λy=> !decide (y<=x)).elim l.length id=i at h0 hi hle;have ab:List.drop 0 (List.take i l)++ [x]++List.drop i (List.take l.length l)=ins x l:=by rw[pM,AP,<-hi];simp
 have hlen:(List.drop 0 (List.take i l)).length<=100:=by simp;omega
 have ae:(List.drop i (List.take l.length l)).length<=100:=by simp;omega
 have g1:(decide (0<=(i:Int))&&decide ((i:Int)<=((l.length:Nat):Int)))=true:=by rw[qc (by omega),qc (by omega)];rfl
 unfold P4 FX;rw[qn,h0,xc];by_cases aa:i<l.length;·have ad:(l.getD i 0==x)=false:=beq_eq_false_iff_ne.2 λe=>hx (e▸aE aa);simp(disch:=omega)only[EV,aa,ad,v5,lI,xm,xl,hle];rw[g1,qa,qa,qi (by omega),qi (by omega),qi (by omega)];exact congrArg some ab
 ·simp(disch:=omega)only[EV,aa,v5,lI,xm,xl,hle];rw[g1,qa,qa,qi (by omega),qi (by omega),qi (by omega)];exact congrArg some ab
theorem jC{l:List Int}(h:l.length<=1048576):Nh l=some l:=by
 have h1:(0+l.length)*8<=140737488355328:=by omega
 unfold Nh JY;simp(disch:=omega)only[EV,lI,v5,h1]
theorem nE{l:List Int}(hl:l.length<=1000000)(a:Int):Vl l a=some (l.filter λx=>x !=a):=by
 have h:=(dM (f:=λv=>(ZO (l,a) v).ev) l 0 (mk:=λi (s:List Int)=>((i:Int),s)) (I:=λi s=>s.length<=i) (g:=λs x=>if x !=a then s++ [x]else s) (fin:=λs=>s) (s0:=[]) (xp _)
  (λi s hi hs=>by
   have r1:=X5 s (l.getD i 0) (by omega);cases hb:(l.getD i 0 !=a)with
   |true=>refine⟨?_,by simp;omega⟩;simp(disch:=omega)only[EV,ZO,hi,hb,r1];rfl
   |false=>refine⟨?_,by simp;omega⟩;simp(disch:=omega)only[EV,ZO,hi,hb];rfl)
  (λs _=>by simp(disch:=omega)only[EV,ZO,xj])).1
 have key:∀(l acc:List Int),l.foldl (λs x=>if x !=a then s++ [x]else s) acc=acc++l.filter λx=>x !=a:=by
  intro l;induction l with
  |nil=>intro acc;simp
  |cons x l ih=>intro acc;rw[N3,ih,EE];cases(x !=a)<;>simp
 have h0:JV (l,a) (0,[])=some (l.filter λx=>x !=a):=by have h1:JV (l,a) (0,[])=_:=h;rw[h1,key];rfl
 unfold Vl OO;simp(disch:=omega)only[EV,h0]
def cO{α:Type}(a:Int)(l:List α):List α:=l.take a.toNat++l.drop (a.toNat+1)
theorem uD{α:Type}{a:Int}{l:List α}(h0:0<=a)(h:a<(l.length:Int)):(cO a l).length+1=l.length:=by unfold cO;rw[xm,kN,vA];omega
theorem Jw{α:Type}{a:Int}{l:List α}{x:α}(h:x∈cO a l):x∈l:=by
 rcases xaa.1 h with h|h;·exact Je h
 ·exact xdp h
theorem Gb{l:List Int}(hl:l.length<=1000){a:Int}(h0:0<=a)(h:a<(l.length:Int)):AO l a=some (cO a l):=by
 have hw:IntKind.wrap .i64 (a+1)=a+1:=aV (by omega) (by omega);have g1:(decide (0<=a)&&decide (a<=((l.length:Nat):Int)))=true:=by rw[qc h0,qc (by omega)];rfl
 have g2:(decide (0<=a+1)&&decide (a+1<=((l.length:Nat):Int)))=true:=by rw[qc (by omega),qc (by omega)];rfl
 have e1:=jC (l:=List.drop 0 (List.take a.toNat l)) (by simp;omega);have ht:(a+1).toNat=a.toNat+1:=by omega
 have g3:((List.drop 0 (List.take a.toNat l)).length+(List.drop (a.toNat+1) (List.take l.length l)).length)*8<=140737488355328:=by simp;omega
 unfold AO RT;rw[qp,g1,qa,qn,e1,xc,hw,qp,g2,qa,ht,qp,qc g3,qa,qq];unfold cO;rw[AP,pM]
def nA(l:List Int):Bool:=((List.length l:Nat):Int)==0
def cK(k a b c:Int)(l:List Int):Bool:=
 if k=1\/k=2\/k=8\/k=9 then(b==0)&&((c==0)&&nA l)
 else if k=3\/k=4 then(c==0)&&nA l
 else if k=5 then nA l
 else if k=6 then(b==0)&&(c==0)
 else if k=7 then(a==0)&&((b==0)&&(c==0))
 else if k=10\/k=11 then(a==0)&&((b==0)&&((c==0)&&nA l))
 else false
theorem yA{x y:Bool}:(Tr.t x (.l y) (.l false)).ev=some (x&&y):=by cases x<;>rfl
theorem Hi{x y:Bool}{z:Tr Bool}(h:z.ev=some y):(Tr.t x z (.l false)).ev=some (x&&y):=by cases x<;>simp[h]
theorem Jr(k a b c:Int)(l:List Int):NR k a b c l=some (cK k a b c l):=by
 have e2:=yA (x:=c==0) (y:=nA l);have e3:=Hi (x:=b==0) (yA (x:=c==0) (y:=nA l));have e4:=Hi (x:=a==0) (Hi (x:=b==0) (yA (x:=c==0) (y:=nA l)));have e5:=Hi (x:=a==0) (yA (x:=b==0) (y:=c==0));by_cases h1:k=1;·subst h1;exact e3
 by_cases h2:k=2;·subst h2;exact e3
 by_cases h3:k=3;·subst h3;exact e2
 by_cases h4:k=4;·subst h4;exact e2
 by_cases h5:k=5;·subst h5;rfl
 by_cases h6:k=6;·subst h6;exact yA (x:=b==0) (y:=c==0)
 by_cases h7:k=7;·subst h7;exact e5
 by_cases h8:k=8;·subst h8;exact e3
 by_cases h9:k=9;·subst h9;exact e3
 by_cases aa:k=10;·subst aa;exact e4
 by_cases ab:k=11;·subst ab;exact e4
 have hp:cK k a b c l=false:=by unfold cK;rw[qh (by omega),qh (by omega),qh h5,qh h6,qh h7,qh (by omega)]
 rw[hp];unfold NR OY;simp only[qo,qq,beq_eq_false_iff_ne.2 h1,beq_eq_false_iff_ne.2 h2,beq_eq_false_iff_ne.2 h3,beq_eq_false_iff_ne.2 h4,beq_eq_false_iff_ne.2 h5,beq_eq_false_iff_ne.2 h6,beq_eq_false_iff_ne.2 h7,beq_eq_false_iff_ne.2 h8,beq_eq_false_iff_ne.2 h9,beq_eq_false_iff_ne.2 aa,beq_eq_false_iff_ne.2 ab,qb]
def cJ(n:Nat)(a:Int):Bool:=bY a 0 ((n:Int) -1)
def bP(n:Nat)(s:List Int)(a:Int):Bool:=cJ n a&& !s.contains a
def gV(n m:Nat)(s:List Int)(k a b:Int)(l:List Int):Bool:=
 if k=1\/k=8 then bP n s a
 else if k=2 then s.contains a
 else if k=3 then s.contains a&&bP n s b
 else if k=4 then cJ n a
 else if k=5 then cJ m a&&cJ n b
 else if k=6 then((l.length:Nat):Int)==((m:Nat):Int)
 else if k=9 then cJ m a
 else if k=10 then decide ((0:Int)<((s.length:Nat):Int))
 else true
theorem a7{o:List Int}(ho:o.length<=1000)(ds:List (List Int))(a:Int):Tw o ds a=some (cJ o.length a):=by unfold Tw FL cJ;simp(disch:=omega)only[EV,fG]
theorem yS{o s:List Int}(ho:o.length<=1000)(hs:s.length<=1000)(ds:List (List Int))(c a:Int):BC o ds s c a=some (bP o.length s a):=by unfold BC JF bP;simp(disch:=omega)only[EV,a7 ho,sZ (l:=s) (by omega)];cases cJ o.length a<;>rfl
theorem Zp{o s:List Int}{ds:List (List Int)}(ho:o.length<=1000)(hd:ds.length<=1000)(hs:s.length<=1000)(n k a b c:Int)(l:List Int):QA o ds s n k a b c l=some (gV o.length ds.length s k a b l):=by
 have e1:=yS ho hs ds n a;have e2:=yS ho hs ds n b;have e3:=sZ (l:=s) (by omega) a;have e4:=a7 ho ds a;have e5:=a7 ho ds b;have e6:Al a 0 (IntKind.wrap .i64 (((ds.length:Nat):Int) -1))=some (cJ ds.length a):=by rw[aV (by omega) (by omega),fG];rfl
 have c1:∀x:Option Bool,∀y,x=some y->(Tr.c Bool x λr=>.l r).ev=some y:=λx y h=>by rw[h];rfl
 have c2:∀x z:Option Bool,∀y u,x=some y->z=some u->(Tr.c Bool x λr=>.t r (Tr.c Bool z λr=>.l r) (.l false)).ev=some (y&&u):=λx z y u h h'=>by rw[h,h'];cases y<;>rfl
 by_cases h1:k=1;·subst h1;exact c1 _ _ e1
 by_cases h2:k=2;·subst h2;exact c1 _ _ e3
 by_cases h3:k=3;·subst h3;exact c2 _ _ _ _ e3 e2
 by_cases h4:k=4;·subst h4;exact c1 _ _ e4
 by_cases h5:k=5;·subst h5;exact c2 _ _ _ _ e6 e5
 by_cases h6:k=6;·subst h6;rfl
 by_cases h8:k=8;·subst h8;exact c1 _ _ e1
 by_cases h9:k=9;·subst h9;exact c1 _ _ e6
 by_cases aa:k=10;·subst aa;rfl
 have hp:gV o.length ds.length s k a b l=true:=by unfold gV;rw[qh (by omega),qh h2,qh h3,qh h4,qh h5,qh h6,qh h9,qh aa]
 rw[hp];unfold QA PS;simp only[qo,qq,beq_eq_false_iff_ne.2 h1,beq_eq_false_iff_ne.2 h2,beq_eq_false_iff_ne.2 h3,beq_eq_false_iff_ne.2 h4,beq_eq_false_iff_ne.2 h5,beq_eq_false_iff_ne.2 h6,beq_eq_false_iff_ne.2 h8,beq_eq_false_iff_ne.2 h9,beq_eq_false_iff_ne.2 aa,qb]
def HG(x:List Nat×List (List Int)):Prop:=∀i∈x.1,i<x.2.length
def aM:Nat->List (List Int)
 |1=>[[0]]
 |2=>[[0],[1],[0,1]]
 |3=>[[0],[1],[2],[0,1],[0,2],[1,2],[0,1,2]]
 |4=>[[0],[1],[2],[3],[0,1],[0,2],[0,3],[1,2],[1,3],[2,3],[0,1,2],[0,1,3],[0,2,3],[1,2,3],[0,1,2,3]]
 |5=>[[0],[1],[2],[3],[4],[0,1],[0,2],[0,3],[0,4],[1,2],[1,3],[1,4],[2,3],[2,4],[3,4],[0,1,2],[0,1,3],[0,1,4],[0,2,3],[0,2,4],[0,3,4],[1,2,3],[1,2,4],[1,3,4],[2,3,4],[0,1,2,3],[0,1,2,4],[0,1,3,4],[0,2,3,4],[1,2,3,4],[0,1,2,3,4]]
 |6=>[[0],[1],[2],[3],[4],[5],[0,1],[0,2],[0,3],[0,4],[0,5],[1,2],[1,3],[1,4],[1,5],[2,3],[2,4],[2,5],[3,4],[3,5],[4,5],[0,1,2],[0,1,3],[0,1,4],[0,1,5],[0,2,3],[0,2,4],[0,2,5],[0,3,4],[0,3,5],[0,4,5],[1,2,3],[1,2,4],[1,2,5],[1,3,4],[1,3,5],[1,4,5],[2,3,4],[2,3,5],[2,4,5],[3,4,5],[0,1,2,3],[0,1,2,4],[0,1,2,5],[0,1,3,4],[0,1,3,5],[0,1,4,5],[0,2,3,4],[0,2,3,5],[0,2,4,5],[0,3,4,5],[1,2,3,4],[1,2,3,5],[1,2,4,5],[1,3,4,5],[2,3,4,5],[0,1,2,3,4],[0,1,2,3,5],[0,1,2,4,5],[0,1,3,4,5],[0,2,3,4,5],[1,2,3,4,5],[0,1,2,3,4,5]]
 |7=>[[0],[1],[2],[3],[4],[5],[6],[0,1],[0,2],[0,3],[0,4],[0,5],[0,6],[1,2],[1,3],[1,4],[1,5],[1,6],[2,3],[2,4],[2,5],[2,6],[3,4],[3,5],[3,6],[4,5],[4,6],[5,6],[0,1,2],[0,1,3],[0,1,4],[0,1,5],[0,1,6],[0,2,3],[0,2,4],[0,2,5],[0,2,6],[0,3,4],[0,3,5],[0,3,6],[0,4,5],[0,4,6],[0,5,6],[1,2,3],[1,2,4],[1,2,5],[1,2,6],[1,3,4],[1,3,5],[1,3,6],[1,4,5],[1,4,6],[1,5,6],[2,3,4],[2,3,5],[2,3,6],[2,4,5],[2,4,6],[2,5,6],[3,4,5],[3,4,6],[3,5,6],[4,5,6],[0,1,2,3],[0,1,2,4],[0,1,2,5],[0,1,2,6],[0,1,3,4],[0,1,3,5],[0,1,3,6],[0,1,4,5],[0,1,4,6],[0,1,5,6],[0,2,3,4],[0,2,3,5],[0,2,3,6],[0,2,4,5],[0,2,4,6],[0,2,5,6],[0,3,4,5],[0,3,4,6],[0,3,5,6],[0,4,5,6],[1,2,3,4],[1,2,3,5],[1,2,3,6],[1,2,4,5],[1,2,4,6],[1,2,5,6],[1,3,4,5],[1,3,4,6],[1,3,5,6],[1,4,5,6],[2,3,4,5],[2,3,4,6],[2,3,5,6],[2,4,5,6],[3,4,5,6],[0,1,2,3,4],[0,1,2,3,5],[0,1,2,3,6],[0,1,2,4,5],[0,1,2,4,6],[0,1,2,5,6],[0,1,3,4,5],[0,1,3,4,6],[0,1,3,5,6],[0,1,4,5,6],[0,2,3,4,5],[0,2,3,4,6],[0,2,3,5,6],[0,2,4,5,6],[0,3,4,5,6],[1,2,3,4,5],[1,2,3,4,6],[1,2,3,5,6],[1,2,4,5,6],[1,3,4,5,6],[2,3,4,5,6],[0,1,2,3,4,5],[0,1,2,3,4,6],[0,1,2,3,5,6],[0,1,2,4,5,6],[0,1,3,4,5,6],[0,2,3,4,5,6],[1,2,3,4,5,6],[0,1,2,3,4,5,6]]
 |_=>[]
noncomputable def M0(n:Nat):Bool:=match Ly (n:Int)with
 |some x=>x.1.all (λi=>Nat.blt i x.2.length)&&(bG x.1 x.2==aM n)
 |none=>false
noncomputable def I3(n:Nat):Bool:=Ug (n:Int)==some (aM n)
def G7(n:Nat):Bool:=(aM n).all (λs=>cL s 0 ((n:Int) -1)&&Nat.blt 0 s.length&&Nat.ble s.length 7)&&Nat.beq ((aM n).length+1) (2^n)
theorem RJ:G7 1=true:=by kernel_rfl
theorem XG:G7 2=true:=by kernel_rfl
theorem IY:G7 3=true:=by kernel_rfl
theorem PE:G7 4=true:=by kernel_rfl
theorem KF:G7 5=true:=by kernel_rfl
theorem LR:G7 6=true:=by kernel_rfl
theorem IN:G7 7=true:=by kernel_rfl
theorem Zu:∀n:Nat,1<=n->n<=7->G7 n=true
 |1,_,_=>RJ
 |2,_,_=>XG
 |3,_,_=>IY
 |4,_,_=>PE
 |5,_,_=>KF
 |6,_,_=>LR
 |7,_,_=>IN
 |0,h,_=>by omega
 |n+8,_,h=>by omega
theorem UI:I3 1=true:=by kernel_rfl
theorem WN:I3 2=true:=by kernel_rfl
theorem UF:I3 3=true:=by kernel_rfl
theorem JM:I3 4=true:=by kernel_rfl
theorem GC:I3 5=true:=by kernel_rfl
theorem MK:I3 6=true:=by kernel_rfl
theorem NH:I3 7=true:=by kernel_rfl
theorem MT:∀n:Nat,1<=n->n<=7->I3 n=true
 |1,_,_=>UI
 |2,_,_=>WN
 |3,_,_=>UF
 |4,_,_=>JM
 |5,_,_=>GC
 |6,_,_=>MK
 |7,_,_=>NH
 |0,h,_=>by omega
 |n+8,_,h=>by omega
theorem NW:M0 1=true:=by kernel_rfl
theorem NU:M0 2=true:=by kernel_rfl
theorem XS:M0 3=true:=by kernel_rfl
theorem RU:M0 4=true:=by kernel_rfl
theorem IK:M0 5=true:=by kernel_rfl
theorem UN:M0 6=true:=by kernel_rfl
theorem SV:M0 7=true:=by kernel_rfl
theorem UV:∀n:Nat,1<=n->n<=7->M0 n=true
 |1,_,_=>NW
 |2,_,_=>NU
 |3,_,_=>XS
 |4,_,_=>RU
 |5,_,_=>IK
 |6,_,_=>UN
 |7,_,_=>SV
 |0,h,_=>by omega
 |n+8,_,h=>by omega
structure SetsP(n:Nat):Prop where
 im:∃x,Ly (n:Int)=some x/\HG x/\bG x.1 x.2=aM n
 sp:Ug (n:Int)=some (aM n)
 len:(aM n).length+1=2^n
 rising:∀s∈aM n,cL s 0 ((n:Int) -1)=true/\0<s.length/\s.length<=7
theorem nS{n:Nat}(h1:1<=n)(h2:n<=7):SetsP n:=by
 have c3:=Zu n h1 h2;simp only[G7,xi,xy]at c3;have hr:∀s∈aM n,cL s 0 ((n:Int) -1)=true/\0<s.length/\s.length<=7:=λs hs=>⟨(c3.1 s hs).1.1,by simpa using(c3.1 s hs).1.2,by simpa using(c3.1 s hs).2⟩
 have c2:=MT n h1 h2;simp only[I3,qg]at c2;have aa:=c2;have c1:=UV n h1 h2;have hi:∃x,Ly (n:Int)=some x/\HG x/\bG x.1 x.2=aM n:=by
  unfold M0 at c1;split at c1
  next x hx=>
   simp only[xi,xy,qg]at c1;exact⟨x,hx,λi hi=>by simpa using c1.1 i hi,c1.2⟩
  next=>cases c1
 exact⟨hi,aa,xg c3.2,hr⟩
theorem Zw{n:Nat}(h:n<=7):2^n<=2^7:=ZT (by omega) h
theorem jG{n:Nat}(hS:SetsP n)(h:n<=7):(aM n).length<=128:=by
 have h1:=hS.len;have h2:=Zw h;have h3:2^7<=128:=by decide
 omega
theorem gY{α:Type}(ix:List Nat)(l:List (List α)):(bG ix l).length=ix.length:=by simp[bG]
theorem gR{α:Type}{ix:List Nat}(l:List (List α)){i:Nat}(h:i<ix.length):(bG ix l).getD i []=l.getD (ix.getD i 0) []:=by unfold bG;rw[xe,mY,xe (l:=ix),xh h];rfl
theorem Dj{α:Type}(ix:List Nat)(i:Nat)(l:List (List α)):bG (ix++ [i]) l=bG ix l++ [l.getD i []]:=by simp[bG]
theorem Ar{α:Type}(ix:List Nat)(l:List (List α))(n:Nat):bG (ix.take n) l=(bG ix l).take n:=by simp[bG]
theorem HG.at{x:List Nat×List (List Int)}(h:HG x){i:Nat}(hi:i<x.1.length):x.1.getD i 0<x.2.length:=h _ (aE hi)
theorem jX{α:Type}{l:List α}{i:Nat}(d:α)(h:i<l.length):l.take (i+1)=l.take i++ [l.getD i d]:=by rw[Mj h,xe,xh h];rfl
theorem vG{x:List Nat×List (List Int)}(hx:HG x)(h0:0<x.1.length)(hl:(x.1.length:Int)<=1048576){p:HL [.slice (.int .i64)]->Option Int}{g:List Int->Int}(hp:∀s∈bG x.1 x.2,p (s,())=some (g s)):
  Nv p x=some (aS g (bG x.1 x.2)):=by
 obtain⟨ix,l⟩:=x;simp only at h0 hl hp⊢;have hn:=gY ix l;have ab:∀i,i<ix.length->l.getD (ix.getD i 0) []∈bG ix l:=λi hi=>by rw[<-gR l hi];exact aE (by omega)
 have ai:∀m,0<m->(bG ix l).take m≠ []:=λm hm e=>by have:=congrArg List.length e;simp only[kN,hn,lI]at this;omega
 have hz:Int.toNat 0=0:=rfl;have hb:∀i,i<ix.length->ix.getD i 0<l.length:=λi hi=>HG.at hx hi;have h:=aK (f:=λv=>(wto (p,(ix.length:Int),ix,l) v).ev) (n:=ix.length) (mk:=λi (b:Nat)=>(b,(i:Int)))
  (I:=λi b=>b<l.length/\l.getD b []∈bG ix l/\l.getD b []=aS g ((bG ix l).take (i+if i=0 then 1 else 0))) (g:=λb i=>if g (l.getD (ix.getD i 0) [])<g (l.getD b [])then ix.getD i 0 else b) (fin:=λb=>b) (s0:=ix.getD 0 0)
  ⟨hb 0 h0,ab 0 h0,by rw[qi rfl,jX [] (by omega),gR l h0,DQ,v5,fU]⟩
  (λi b hi hI=>by
   obtain⟨aj,ae,ad⟩:=hI;have af:=hp _ (ab i hi);have ah:=hp _ ae;have aa:aS g ((bG ix l).take (i+1))=if g (l.getD (ix.getD i 0) [])<g (l.getD b [])then l.getD (ix.getD i 0) []else l.getD b []:=by
    by_cases e:i=0;·subst e;rw[qi rfl]at ad;rw[qh,ad];rw[ad,K6,jX [] (by omega),gR l h0,DQ,v5,fU];exact BN _
    ·rw[qh e,wY]at ad;rw[jX [] (by omega),gR l hi,iB (ai i (by omega)),<-ad]
   by_cases hq:g (l.getD (ix.getD i 0) [])<g (l.getD b [])
   ·refine⟨?_,?_⟩;·simp(disch:=omega)only[EV,wto,hi,hb i hi,af,ah,hq];rfl
    ·rw[qi hq]at aa⊢;exact⟨hb i hi,ab i hi,by rw[qh (by omega),wY,aa]⟩
   ·refine⟨?_,?_⟩;·simp(disch:=omega)only[EV,wto,hi,hb i hi,af,ah,hq];rfl
    ·rw[qh hq]at aa⊢;exact⟨aj,ae,by rw[qh (by omega),wY,aa]⟩)
  (λb _=>by simp(disch:=omega)only[EV,wto,xj])
 have h1:aHN (p,(ix.length:Int),ix,l) (ix.getD 0 0,(0:Int))=_:=h.1;obtain⟨_,_,e⟩:=h.2;rw[qh (by omega),wY,Ak (by omega)]at e;unfold Nv TG;simp(disch:=omega)only[EV,show aB (0:Int) ix.length=true from bM (by omega) (by omega),hz,h0,hb 0 h0,h1];rw[<-e]
theorem qL{x:List Nat×List (List Int)}(hx:HG x)(hl:(x.1.length:Int)<=1048576){p:HL [.slice (.int .i64)]->Option Bool}{q:List Int->Bool}(hp:∀s∈bG x.1 x.2,p (s,())=some (q s)):
  ∃y,Zf p x=some y/\HG y/\bG y.1 y.2=(bG x.1 x.2).filter λs=> !q s:=by
 obtain⟨ix,l⟩:=x;simp only at hl hp⊢;have hn:=gY ix l;have aa:=oF (l:=bG ix l) (by omega) hp;unfold Zf HV;cases hf:(bG ix l).findIdx? q with
 |none=>rw[hf]at aa;have e:(Option.elim (none:Option Nat) (-1) λi=>((i:Nat):Int))= -1:=rfl;rw[e]at aa;simp(disch:=omega)only[EV,aa,show((-1:Int)== -1)=true from rfl];refine⟨_,rfl,hx,?_⟩;have av:=xgn.1 hf;exact(xga.2 λs hs=>by rw[av s hs];rfl).symm
 |some i0=>
  rw[hf]at aa;have e:(Option.elim (some i0:Option Nat) (-1) λi=>((i:Nat):Int))=(i0:Int):=rfl;rw[e]at aa;obtain⟨aw,ay,af⟩:=xdd.1 hf;have ba:i0<ix.length:=by omega
  have ah:∀i,i<ix.length->l.getD (ix.getD i 0) []∈bG ix l:=λi hi=>by rw[<-gR l hi];exact aE (by omega)
  have hb:∀i,i<ix.length->ix.getD i 0<l.length:=λi hi=>HG.at hx hi;have ai:((bG ix l).take (i0+1)).filter (λs=> !q s)=(bG ix l).take i0:=by
   rw[Mj aw,xfg];have e1:((bG ix l).take i0).filter (λs=> !q s)=(bG ix l).take i0:=xga.2 λs hs=>by
    obtain⟨j,hj,rfl⟩:=Su hs;have az:j<i0:=by simp at hj;omega
    have:=af j az;simpa using this
   rw[e1];simp[ay]
  have h:=aK (f:=λv=>(YW p v).ev) (n:=ix.length-(i0+1)) (mk:=λk (st:Nat×List Nat)=>((st.1:Int),((i0+1+k:Nat):Int),st.2,l))
   (I:=λk st=>st.2.length=ix.length/\st.1<=i0+k/\bG (st.2.take st.1) l=((bG ix l).take (i0+1+k)).filter (λs=> !q s)/\st.2.drop (i0+1+k)=ix.drop (i0+1+k)/\∀m∈st.2,m<l.length)
   (g:=λst k=>if q (l.getD (ix.getD (i0+1+k) 0) [])=true then st else(st.1+1,st.2.set st.1 (ix.getD (i0+1+k) 0))) (fin:=λst=>((st.1:Int),st.2,l)) (s0:=(i0,ix))
   ⟨rfl,xp _,by rw[Ar,wY,ai],rfl,hx⟩
   (λk st hk hI=>by
    obtain⟨i,jx⟩:=st;obtain⟨a1,a2,a3,a4,a5⟩:=hI;simp only at a1 a2 a3 a4 a5⊢;have hj:i0+1+k<ix.length:=by omega
    have aj:i0+1+k<jx.length:=by omega
    have ak:jx.getD (i0+1+k) 0=ix.getD (i0+1+k) 0:=by have:=congrArg (λl:List Nat=>l[0]?) a4;simp only[vN,wY]at this;rw[xe,xe,this]
    have ae:=hb _ hj;have al:=hp _ (ah _ hj);have ao:(bG ix l).take (i0+1+(k+1))=(bG ix l).take (i0+1+k)++ [l.getD (ix.getD (i0+1+k) 0) []]:=by rw[show i0+1+(k+1)=(i0+1+k)+1 by omega,jX [] (by omega),gR l hj]
    have ar:jx.drop (i0+1+(k+1))=ix.drop (i0+1+(k+1)):=by have:=congrArg (List.drop 1) a4;rw[xgd,xgd]at this;exact this
    have ab:((i0+1+k:Nat):Int)+1=((i0+1+(k+1):Nat):Int):=by omega
    cases hq:q (l.getD (ix.getD (i0+1+k) 0) [])with
    |true=>
     rw[qi rfl];refine⟨?_,a1,by omega,?_,ar,a5⟩;·simp(disch:=omega)only[EV,YW,aj,ak,ae,al,hq,ab]
     ·rw[a3,ao,xfg,List.filter_cons_of_neg (by rw[hq];exact Bool.noConfusion),List.filter_nil,wG]
    |false=>
     rw[qh (by simp)];have ad:i<jx.length:=by omega
     refine⟨?_,by simpa using a1,by omega,?_,?_,λm hm=>?_⟩;·simp(disch:=omega)only[EV,YW,aj,ak,ae,al,hq,ab,ad];rfl
     ·rw[jX 0 (by simpa using ad),List.take_set_of_le (xp _),Dj,a3,ao,xfg];have e2:(jx.set i (ix.getD (i0+1+k) 0)).getD i 0=ix.getD (i0+1+k) 0:=by rw[xe,List.getElem?_set_self ad];rfl
      rw[e2,List.filter_cons_of_pos (by rw[hq];rfl),List.filter_nil]
     ·rw[List.drop_set_of_lt (by omega)];exact ar
     ·rcases xey hm with h|rfl;·exact a5 m h
      ·exact ae)
   (λst hI=>by
    have e3:i0+1+(ix.length-(i0+1))=st.2.length:=by rw[hI.1];omega
    simp(disch:=omega)only[EV,YW,e3,xj])
  obtain⟨h1,b1,b2,b3,_,b5⟩:=h;generalize(List.range (ix.length-(i0+1))).foldl _ (i0,ix)=st at h1 b1 b2 b3 b5;obtain⟨i,jx⟩:=st;simp only at h1 b1 b2 b3 b5;have h2:aGW p ((i0:Int),(i0:Int)+1,ix,l)=some ((i:Int),jx,l):=h1;have au:((i0:Int)== -1)=false:=beq_eq_false_iff_ne.2 (by omega);have ad:i<=jx.length:=by omega
  have e4:(jx.take i++List.replicate (jx.length-i) l.length).length=jx.length:=by simp only[xm,kN,Jd];omega
  have e5:(jx.take i++List.replicate (jx.length-i) l.length).take i=jx.take i:=by rw[xfx (by rw[kN];omega),xfm,Nat.min_self]
  have g1:(0:Int)<=(i:Int):=by omega
  have g2:(i:Int)<=((jx.length:Nat):Int):=by omega
  simp(disch:=omega)only[EV,aa,au,h2,e4,e5,g1,g2];refine⟨_,rfl,λm hm=>b5 m (Je hm),?_⟩;simp only;rw[b3,Ak (by omega)]
theorem cP{n:Nat}(h7:n<=7)(hS:SetsP n){s:List Int}(hs:s∈aM n):Places s n/\0<s.length/\aF s:=by
 obtain⟨h1,h2,h3⟩:=hS.rising s hs;have hl:aF s:=by unfold aF;omega
 exact⟨Places.of hl h1,h2,hl⟩
def sD(n:Nat)(k:Int):List (List Int):=(aM n).filter λs=>decide ((s.length:Int)=k)
def EM(n:Nat):Bool:=(List.range n).all λk=>(aM n).any λs=>Nat.beq s.length (k+1)
theorem Nb:∀n:Nat,n<=7->EM n=true
 |0,_=>by kernel_rfl
 |1,_=>by kernel_rfl
 |2,_=>by kernel_rfl
 |3,_=>by kernel_rfl
 |4,_=>by kernel_rfl
 |5,_=>by kernel_rfl
 |6,_=>by kernel_rfl
 |7,_=>by kernel_rfl
 |n+8,h=>by omega
theorem xI{n:Nat}(h7:n<=7){k:Int}(h1:1<=k)(hk:k<=(n:Int)):sD n k≠ []:=by have h:=Nb n h7;unfold EM at h;have h2:=xy.1 h (k.toNat-1) (xau.2 (by omega));obtain⟨s,hs,e⟩:=xbl.1 h2;have e2:=xg e;intro h3;have h4:s∈sD n k:=xap.2 ⟨hs,by simp;omega⟩;rw[h3]at h4;cases h4
theorem ofSz_mem{n:Nat}{k:Int}{s:List Int}:s∈sD n k↔s∈aM n/\(s.length:Int)=k:=by unfold sD;rw[xap,qe]
def dC(o:List Int)(ds:List (List Int))(s:List Int):Int:=N5 o s+eO ds s
theorem uQ{o:List Int}{ds:List (List Int)}(hf:Fld o ds){s:List Int}(hs:ris o.length s)(h0:s≠ []):0<=dC o ds s/\dC o ds s<=103809717:=by have hp:=hs.places hf.len;have h1:=Bq hf hp;have h2:=lP hf hp (xay.2 h0);unfold dC;omega
theorem vE{o:List Int}{ds:List (List Int)}(hf:Fld o ds){s:List Int}(hs:ris o.length s)(h0:s≠ []):I6 o ds s=some (dC o ds s):=yN hf (hs.places hf.len) (xay.2 h0)
def wo(s:List Int)(a:Int):List Int:=s.filter λx=>x !=a
def PJ(n:Nat)(s w:List Int)(acc:List (List Int)):List (List Int):=(List.range n).foldl (λacc (b:Nat)=>if s.contains (b:Int)then acc else acc++ [ins (b:Int) w]) acc
def gS(n:Nat)(s:List Int)(x:List (List Int)×List (List Int)×List (List Int))(a:Nat):List (List Int)×List (List Int)×List (List Int):=
 if s.contains (a:Int)then(x.1,(if 0<(wo s (a:Int)).length then x.2.1++ [wo s (a:Int)]else x.2.1),PJ n s (wo s (a:Int)) x.2.2)
 else(x.1++ [ins (a:Int) s],x.2.1,x.2.2)
def Am(n:Nat)(s:List Int):List (List Int)×List (List Int)×List (List Int):=(List.range n).foldl (gS n s) ([],[],[])
def dY(n:Nat)(s:List Int):List (List Int):=(Am n s).1++(Am n s).2.1++(Am n s).2.2
theorem bZ{s:List Int}{a:Int}(h:s.contains a=false):a∉s:=λhm=>by rw[xck.2 hm]at h;cases h
theorem Hc{n:Nat}{s w:List Int}(Q:List Int->Prop)(h:∀b:Nat,b<n->(b:Int)∉s->Q (ins (b:Int) w)){acc:List (List Int)}(ha:∀m∈acc,Q m):(∀m∈PJ n s w acc,Q m)/\(PJ n s w acc).length<=acc.length+n:=by
 have key:∀k,k<=n->(∀m∈(List.range k).foldl (λacc (b:Nat)=>if s.contains (b:Int)then acc else acc++ [ins (b:Int) w]) acc,Q m)/\((List.range k).foldl (λacc (b:Nat)=>if s.contains (b:Int)then acc else acc++ [ins (b:Int) w]) acc).length<=acc.length+k:=by
  intro k;induction k with
  |zero=>intro _;exact⟨ha,xp _⟩
  |succ k ih=>
   intro hk;obtain⟨i1,i2⟩:=ih (by omega);rw[aR];cases hc:s.contains (k:Int)with
   |true=>simp only[if_true];exact⟨i1,by omega⟩
   |false=>
    simp only[rU,if_false];refine⟨λm hm=>?_,by rw[xm,ZC];omega⟩;rcases xaa.1 hm with hm|hm;·exact i1 m hm
    ·rw[xx.1 hm];exact h k (by omega) (bZ hc)
 exact key n (xp _)
theorem Hf{n:Nat}{s:List Int}(Q:List Int->Prop)(h1:∀a:Nat,a<n->(a:Int)∉s->Q (ins (a:Int) s))(h2:∀a:Nat,a<n->(a:Int)∈s->0<(wo s (a:Int)).length->Q (wo s (a:Int)))
  (h3:∀a:Nat,a<n->(a:Int)∈s->∀b:Nat,b<n->(b:Int)∉s->Q (ins (b:Int) (wo s (a:Int)))):∀k,k<=n->(∀m∈((List.range k).foldl (gS n s) ([],[],[])).1,Q m)/\(∀m∈((List.range k).foldl (gS n s) ([],[],[])).2.1,Q m)/\(∀m∈((List.range k).foldl (gS n s) ([],[],[])).2.2,Q m)/\
  ((List.range k).foldl (gS n s) ([],[],[])).1.length<=k/\((List.range k).foldl (gS n s) ([],[],[])).2.1.length<=k/\((List.range k).foldl (gS n s) ([],[],[])).2.2.length<=k*n:=by
 intro k;induction k with
 |zero=>intro _;exact⟨λm h=>(by cases h),λm h=>(by cases h),λm h=>(by cases h),xp _,xp _,by simp⟩
 |succ k ih=>
  intro hk;obtain⟨i1,i2,i3,i4,i5,i6⟩:=ih (by omega);rw[aR];generalize(List.range k).foldl (gS n s) ([],[],[])=x at i1 i2 i3 i4 i5 i6⊢;unfold gS;have hmul:(k+1)*n=k*n+n:=by rw[o6,xgo]
  cases hc:s.contains (k:Int)with
  |true=>
   have hm:=xck.1 hc;obtain⟨j1,j2⟩:=Hc (n:=n) (s:=s) (w:=wo s (k:Int)) Q (h3 k (by omega) hm) i3;simp only[if_true];refine⟨i1,?_,j1,by omega,?_,by omega⟩
   ·split
    next hp=>
     intro m aa;rcases xaa.1 aa with aa|aa;·exact i2 m aa
     ·rw[xx.1 aa];exact h2 k (by omega) hm hp
    next=>exact i2
   ·split;·simp;omega
    ·omega
  |false=>
   simp only[rU,if_false];refine⟨λm hm=>?_,i2,i3,by simp;omega,by omega,by omega⟩;rcases xaa.1 hm with hm|hm;·exact i1 m hm
   ·rw[xx.1 hm];exact h1 k (by omega) (bZ hc)
theorem jY{s:List Int}{a b:Int}(h:b∉s):b∉wo s a:=λhm=>h (xap.1 hm).1
theorem ris.wo{n:Nat}{s:List Int}(h:ris n s)(a:Int):ris n (wo s a):=h.filter _
theorem vY{n:Nat}{s:List Int}(h:ris n s):∀m∈dY n s,ris n m/\m≠ []:=by
 have aa:∀x (l:List Int),ins x l≠ []:=λx l e=>by have:=oM x l;rw[e]at this;simp at this
 obtain⟨h1,h2,h3,_⟩:=Hf (n:=n) (s:=s) (λm=>ris n m/\m≠ []) (λa ha hn=>⟨h.ins (by omega) (by omega) hn,aa _ _⟩) (λa ha hm hp=>⟨h.wo _,xay.1 hp⟩)
  (λa ha hm b hb hn=>⟨(h.wo _).ins (by omega) (by omega) (jY hn),aa _ _⟩) n (xp _)
 intro m hm;rcases xaa.1 hm with hm|hm
 ·rcases xaa.1 hm with hm|hm;·exact h1 m hm
  ·exact h2 m hm
 ·exact h3 m hm
theorem R8{n:Nat}(hn:n<=7)(s:List Int):(dY n s).length<=100:=by obtain⟨_,_,_,h1,h2,h3⟩:=Hf (n:=n) (s:=s) (λ_=>True) (λ_ _ _=>trivial) (λ_ _ _ _=>trivial) (λ_ _ _ _ _ _=>trivial) n (xp _);have hmul:n*n<=7*7:=xfk hn hn;have q1:(Am n s).1.length<=n:=h1;have q2:(Am n s).2.1.length<=n:=h2;have q3:(Am n s).2.2.length<=n*n:=h3;unfold dY;rw[xm,xm];omega
theorem As(s:List Int)(a:Int):(wo s a).length<=s.length:=xdy _ _
theorem GB(k:(List (Int))×(Int)×(Nat)×(List (Int))×(List (List (Int)))×(List (List (Int)))×(List (List (Int)))){s w:List Int}{n:Nat}(h1:k.1=s)(h2:k.2.2.2.1.length=n)(h3:List.getD k.2.2.2.2.2.2 k.2.2.1 []=w)
  (hn:n<=7) (hs:s.length<=7) (hw:w.length<=7) (aa:∀b,b∉s->b∉w) {acc:List (List Int)} (ha:acc.length<=1000):aAj k (0,acc)=some (PJ n s w acc):=by
 have h:=(aK (f:=λv=>(wsl k v).ev) (n:=n) (mk:=λi (acc:List (List Int))=>((i:Int),acc)) (I:=λi a=>a.length<=1000+i) (g:=λacc (b:Nat)=>if s.contains (b:Int)then acc else acc++ [ins (b:Int) w]) (fin:=λs=>s) (s0:=acc) (by omega)
  (λi x hi hx=>by
   have e1:=sZ (l:=s) (by omega) (i:Int);have e2:(i:Int)<((k.2.2.2.1.length:Nat):Int):=by omega
   cases hc:s.contains (i:Int)with
   |true=>rw[hc]at e1;refine⟨?_,by simp only[if_true];omega⟩;simp(disch:=omega)only[EV,wsl,h1,h2,e1,hi];rfl
   |false=>rw[hc]at e1;have e3:=oQ (l:=w) (x:=(i:Int)) (by omega) (aa _ (bZ hc));have r1:=uG x (by omega);refine⟨?_,by simp;omega⟩;simp(disch:=omega)only[EV,wsl,h1,h2,h3,e1,e3,hi,r1,hY];rfl)
  (λx _=>by simp(disch:=omega)only[EV,wsl,h2,xj])).1
 exact h
theorem Wr(k:(List (Int))×(Int)×(List (Int))×(List (List (Int)))×(List (List (Int)))×(List (List (Int)))×(List (Int))){s w:List Int}{n:Nat}(h1:k.1=s)(h2:k.2.2.1.length=n)(h3:k.2.2.2.2.2.2=w)
  (hn:n<=7) (hs:s.length<=7) (hw:w.length<=7) (aa:∀b,b∉s->b∉w) {acc:List (List Int)} (ha:acc.length<=1000):wvp k (0,acc)=some (PJ n s w acc):=by
 have h:=(aK (f:=λv=>(ZR k v).ev) (n:=n) (mk:=λi (acc:List (List Int))=>((i:Int),acc)) (I:=λi a=>a.length<=1000+i) (g:=λacc (b:Nat)=>if s.contains (b:Int)then acc else acc++ [ins (b:Int) w]) (fin:=λs=>s) (s0:=acc) (by omega)
  (λi x hi hx=>by
   have e1:=sZ (l:=s) (by omega) (i:Int);cases hc:s.contains (i:Int)with
   |true=>rw[hc]at e1;refine⟨?_,by simp only[if_true];omega⟩;simp(disch:=omega)only[EV,ZR,h1,h2,e1,hi];rfl
   |false=>rw[hc]at e1;have e3:=oQ (l:=w) (x:=(i:Int)) (by omega) (aa _ (bZ hc));have r1:=uG x (by omega);refine⟨?_,by simp;omega⟩;simp(disch:=omega)only[EV,ZR,h1,h2,h3,e1,e3,hi,r1,hY];rfl)
  (λx _=>by simp(disch:=omega)only[EV,ZR,h2,xj])).1
 exact h
theorem Kx{o s:List Int}(ds:List (List Int))(ho:o.length<=7)(hs:s.length<=7):ML o ds s=some (dY o.length s):=by
 have h:=(aK (f:=λv=>(SM (s,o,ds) v).ev) (n:=o.length) (mk:=λi (x:List (List Int)×List (List Int)×List (List Int))=>((i:Int),x)) (I:=λi x=>x.1.length<=i/\x.2.1.length<=i/\x.2.2.length<=i*o.length) (g:=gS o.length s) (fin:=λx=>x) (s0:=([],[],[])) ⟨xp _,xp _,by simp⟩
  (λi x hi hx=>by
   obtain⟨x1,x2,x3⟩:=x;obtain⟨g1,g2,g3⟩:=hx;simp only at g1 g2 g3;have hmul:(i+1)*o.length=i*o.length+o.length:=by rw[o6,xgo]
   have aa:i*o.length<=7*7:=xfk (by omega) ho;have e1:=sZ (l:=s) (by omega) (i:Int);unfold gS;cases hc:s.contains (i:Int)with
   |false=>rw[hc]at e1;have e3:=oQ (l:=s) (x:=(i:Int)) (by omega) (bZ hc);have r1:=uG x1 (by omega);simp only[rU,if_false];refine⟨?_,by simp;omega,by omega,by omega⟩;simp(disch:=omega)only[EV,SM,e1,e3,hi,r1,hY];rfl
   |true=>
    rw[hc]at e1;have e3:=nE (l:=s) (by omega) (i:Int);have hw:=As s (i:Int);have hj:=(Hc (n:=o.length) (s:=s) (w:=wo s (i:Int)) (λ_=>True) (λ_ _ _=>trivial) (acc:=x3) λ_ _=>trivial).2;simp only[if_true];by_cases hp:0<(wo s (i:Int)).length
    ·have r1:=uG x2 (by omega);have ad:0<(List.filter (λx=>x != (i:Int)) s).length:=hp;have e4:=GB (s,(i:Int),x2.length,o,ds,x1,(List.set (x2++ [[]]) x2.length (wo s (i:Int)))) (w:=wo s (i:Int)) rfl rfl (by show List.getD (List.set (x2++ [[]]) x2.length (wo s (i:Int))) x2.length []=wo s (i:Int);rw[hY];simp) ho hs (by omega) (λb hb=>jY hb) (acc:=x3) (by omega);unfold wo at e4;rw[hY]at e4;rw[qi hp];refine⟨?_,by omega,by simp;omega,by omega⟩;have ab:((0:Int)<(((List.filter (λx=>x != (i:Int)) s).length:Nat):Int)):=by omega
     simp(disch:=omega)only[EV,SM,e1,e3,hi,r1,ab,e4,hY];rfl
    ·have e4:=Wr (s,(i:Int),o,ds,x1,x2,wo s (i:Int)) (w:=wo s (i:Int)) rfl rfl rfl ho hs (by omega) (λb hb=>jY hb) (acc:=x3) (by omega);rw[qh hp];unfold wo at e4 hp;refine⟨?_,by omega,by omega,by omega⟩;have ab:¬((0:Int)<(((List.filter (λx=>x != (i:Int)) s).length:Nat):Int)):=by omega
     simp(disch:=omega)only[EV,SM,e1,e3,hi,ab,e4];rfl)
  (λx _=>by simp(disch:=omega)only[EV,SM,xj]))
 obtain⟨h1,g1,g2,g3⟩:=h;have h0:aCb (s,o,ds) (0,[],[],[])=some (Am o.length s):=h1;have q1:(Am o.length s).1.length<=o.length:=g1;have q2:(Am o.length s).2.1.length<=o.length:=g2;have q3:(Am o.length s).2.2.length<=o.length*o.length:=g3;have aa:o.length*o.length<=7*7:=xfk ho ho;have r1:((Am o.length s).1.length+(Am o.length s).2.1.length)*24<=140737488355328:=by omega
 have r2:(((Am o.length s).1++(Am o.length s).2.1).length+(Am o.length s).2.2.length)*24<=140737488355328:=by rw[xm];omega
 unfold ML WQ;rw[qn,h0,xc,qp,qc r1,qa,qp,qc r2,qa,qq];rfl
def aP(o:List Int)(ds:List (List Int))(s:List Int):Option (List Int):=(dY o.length s).find? λm=>decide (dC o ds m<dC o ds s)
theorem dF{o:List Int}{ds:List (List Int)}{s m:List Int}(hs:ris o.length s)(h:aP o ds s=some m):ris o.length m/\m≠ []/\dC o ds m<dC o ds s:=by unfold aP at h;have h1:=List.find?_some h;obtain⟨a,b⟩:=vY hs m (xgl h);exact⟨a,b,of_decide_eq_true h1⟩
theorem S7{α:Type}(q:α->Bool)(d:α):∀l:List α,l.find? q=(l.findIdx? q).map λi=>l.getD i d
 | []=>rfl
 |x::l=>by
  rw[xhe,xek];cases hx:q x with
  |true=>simp
  |false=>have ih:=S7 q d l;simp only[rU,if_false];rw[ih];cases l.findIdx? q<;>simp
def lC(o:List Int)(ds:List (List Int)):Nat->List Int->Nat×List Int
 |0,s=>(0,s)
 |m+1,s=>match aP o ds s with
  |some t=>((lC o ds m t).1+1,(lC o ds m t).2)
  |none=>(0,s)
def mV(o:List Int)(ds:List (List Int))(s:List Int):Nat×List Int:=lC o ds 103809717 s
theorem B9{o:List Int}{ds:List (List Int)}(hf:Fld o ds):∀(m:Nat) {s:List Int},ris o.length s->s≠ []->dC o ds s<=(m:Int)->
  ris o.length (lC o ds m s).2/\(lC o ds m s).2≠ []/\aP o ds (lC o ds m s).2=none/\dC o ds (lC o ds m s).2+((lC o ds m s).1:Int)<=dC o ds s/\(lC o ds m s).1<=m
 |0,s,hs,h0,hm=>by
  refine⟨hs,h0,?_,by simp[lC],xp _⟩;show aP o ds s=none;cases hb:aP o ds s with
  |none=>rfl
  |some t=>obtain⟨a,b,c⟩:=dF hs hb;have:=uQ hf a b;omega
 |m+1,s,hs,h0,hm=>by
  unfold lC;cases hb:aP o ds s with
  |none=>exact⟨hs,h0,hb,by simp,by simp⟩
  |some t=>obtain⟨a,b,c⟩:=dF hs hb;obtain⟨i1,i2,i3,i4,i5⟩:=B9 hf m a b (by omega);refine⟨i1,i2,i3,?_,by simp only;omega⟩;simp only;omega
theorem Dl{o:List Int}{ds:List (List Int)}(hf:Fld o ds){s:List Int}(hs:ris o.length s)(h0:s≠ []):
  ris o.length (mV o ds s).2/\(mV o ds s).2≠ []/\aP o ds (mV o ds s).2=none/\dC o ds (mV o ds s).2+((mV o ds s).1:Int)<=dC o ds s/\(mV o ds s).1<=103809717:=
 B9 hf 103809717 hs h0 (by have:=(uQ hf hs h0).2;omega)
def i9(x:Option (List Int)):Bool×List Int:=match x with
 |some m=>(true,m)
 |none=>(false,[])
theorem rQ{o:List Int}{ds:List (List Int)}(hf:Fld o ds){s:List Int}(hs:ris o.length s)(h0:s≠ []):Px o ds s=some (i9 (aP o ds s)):=by
 have hl:=hs.len;have h7:=hf.len;have e1:=Kx (o:=o) (s:=s) ds h7 (by omega);have e2:=vE hf hs h0;have ab:=R8 h7 s;have h:=fM (f:=λv=>(YY (s,o,ds,dY o.length s) v).ev) (l:=dY o.length s) [] (λm=>decide (dC o ds m<dC o ds s)) (mk:=λi=>(i:Int)) (yes:=λi=>.inr i) (no:=.inl ())
  (λi hi=>by
   obtain⟨a,b⟩:=vY hs _ (aE (d:=[]) hi);have e3:=vE hf a b;by_cases aa:dC o ds ((dY o.length s).getD i [])<dC o ds s;·simp(disch:=omega)only[EV,YY,hi,e2,e3,aa]
   ·simp(disch:=omega)only[EV,YY,hi,e2,e3,aa];rfl)
  (by simp(disch:=omega)only[EV,YY,xj])
 have hb:aBR (s,o,ds,dY o.length s) 0=_:=h;unfold Px JT;rw[qn,e1,xc,qn,hb,xc];unfold aP;rw[S7 _ []];cases(dY o.length s).findIdx? λm=>decide (dC o ds m<dC o ds s)<;>rfl
theorem Vm{o:List Int}{ds:List (List Int)}(hf:Fld o ds):∀(m:Nat) {s:List Int} (many:Int),0<=many->many+(m:Int)<=1000000000->ris o.length s->s≠ []->dC o ds s<=(m:Int)->
  wvv (o,ds) (many,(i9 (aP o ds s)).1,s,(i9 (aP o ds s)).2)=some (many+((lC o ds m s).1:Int),(lC o ds m s).2):=by
 have out:∀{s:List Int} (many:Int),aP o ds s=none->wvv (o,ds) (many,(i9 (aP o ds s)).1,s,(i9 (aP o ds s)).2)=some (many,s):=λ{s} many hb=>by rw[hb];unfold wvv;rw[aL];simp(disch:=omega)only[EV,wvu,i9]
 intro m;induction m with
 |zero=>
  intro s many h1 h2 hs h0 ht;have hb:aP o ds s=none:=by
   cases hb:aP o ds s with
   |none=>rfl
   |some t=>obtain⟨a,b,c⟩:=dF hs hb;have:=uQ hf a b;omega
  rw[out many hb];simp[lC]
 |succ m ih=>
  intro s many h1 h2 hs h0 ht;cases hb:aP o ds s with
  |none=>have:=out many hb;rw[hb]at this;rw[this];simp[lC,hb]
  |some t=>
   obtain⟨a,b,c⟩:=dF hs hb;have e1:=rQ hf a b;have hw:IntKind.wrap .i64 (many+1)=many+1:=aV (by omega) (by omega);have aa:=ih (s:=t) (many+1) (by omega) (by omega) a b (by omega);unfold wvv at aa⊢;rw[aL];have ab:(wvu (o,ds) (many,(i9 (some t)).1,s,(i9 (some t)).2)).ev=some (.inl (many+1,(i9 (aP o ds t)).1,t,(i9 (aP o ds t)).2)):=by simp(disch:=omega)only[EV,wvu,i9,e1,hw]
   rw[ab];simp only;rw[aa];simp only[lC,hb,xf,Ky,ql];omega
theorem Kl{o:List Int}{ds:List (List Int)}(ho:aF o)(hd:cT ds){s:List Int}(hs:aF s):RC o ds s=some (bif dT o ds s then(((mV o ds s).1:Int),true,(mV o ds s).2)else(0,false,[])):=by
 have e1:=yR ho hd hs;unfold RC JQ;rw[qn,e1,xc,qo];cases hb:dT o ds s with
 |false=>rfl
 |true=>
  obtain⟨hf,hp,h0⟩:=pK hs hb;have hr:ris o.length s:=by unfold dT at hb;simp only[xi]at hb;exact ris_iff.1 hb.2.1
  have aa:s≠ []:=xay.1 h0;have hl:=hr.len;have h7:=hf.len;have e2:=jC (l:=s) (by omega);have e3:=rQ hf hr aa;have e4:=Vm hf 103809717 (s:=s) 0 (by omega) (by omega) hr aa (uQ hf hr aa).2;rw[xq,qb,qn,e2,xc,qn,e3,xc,qn,e4,xc,qq,qa,Int.zero_add];rfl
def oA(o:List Int)(ds:List (List Int)):List Int:=aS (dC o ds) (aM o.length)
theorem yT{n:Nat}(h1:1<=n)(h7:n<=7){s:List Int}(hs:s∈aM n):ris n s/\s≠ []:=by obtain⟨a,b,_⟩:=(nS h1 h7).rising s hs;exact⟨ris_iff.1 a,xay.1 b⟩
theorem xD{n:Nat}(h1:1<=n)(h7:n<=7):aM n≠ []:=λe=>by have:=(nS h1 h7).len;rw[e]at this;have h2:2^1<=2^n:=ZT (by omega) h1;simp at this;omega
theorem Da{o:List Int}{ds:List (List Int)}(hf:Fld o ds):oA o ds∈aM o.length/\∀s∈aM o.length,dC o ds (oA o ds)<=dC o ds s:=by obtain⟨a,b⟩:=dH (g:=dC o ds) (xD hf.pos hf.len);refine⟨a,λs hs=>?_⟩;show dC o ds (aS (dC o ds) (aM o.length))<=_;rw[b];exact(nC (λe=>xD hf.pos hf.len (xfz.1 e))).2 _ (RW hs)
theorem Pm{o:List Int}{ds:List (List Int)}(hf:Fld o ds):PP o ds=some (oA o ds):=by
 have hS:=nS hf.pos hf.len;have ai:=xD hf.pos hf.len;have hl:=jG hS hf.len;have e1:=hS.sp;have hr:∀s∈aM o.length,I6 o ds s=some (dC o ds s):=λs hs=>by obtain⟨a,b⟩:=yT hf.pos hf.len hs;exact vE hf a b
 unfold oA;generalize aM o.length=L at*;have af:0<L.length:=xay.2 ai;have h:=R5 (f:=λv=>(wvy (L,o,ds) v).ev) (n:=L.length-1) (λi v=>v=(aS (dC o ds) (L.take (i+1)),((i+1:Nat):Int))) (λr=>r=aS (dC o ds) L)
  (λi v hi hv=>by
   subst hv;have ab:i+1<L.length:=by omega
   have aa:L.take (i+1)≠ []:=λe=>by have:=congrArg List.length e;rw[kN]at this;simp only[lI]at this;omega
   have aj:=(dH (g:=dC o ds) aa).1;have e2:=hr _ (Je aj);have e3:=hr _ (aE (d:=[]) ab);have ah:=iB (g:=dC o ds) aa (L.getD (i+1) []);rw[<-cD [] ab]at ah;refine⟨_,?_,rfl⟩;have hw:IntKind.wrap .i64 (((i+1:Nat):Int)+1)=((i+1+1:Nat):Int):=by rw[aV (by omega) (by omega)];rfl
   have ad:((i+1:Nat):Int)<((L.length:Nat):Int):=by omega
   have ae:=gF ab;unfold wvy;dsimp only;rw[qo,qc ad,qa,qp,ae,qa,qn,mZ,e3,xc,qn,e2,xc,qo,hw,ah];by_cases hc:dC o ds (L.getD (i+1) [])<dC o ds (aS (dC o ds) (L.take (i+1)));·rw[qc hc,qa,qi hc,qp,qa,qq]
   ·rw[qd hc,qb,qh hc,qq])
  (λv hv=>by
   subst hv;have ad:¬((L.length-1+1:Nat):Int)<((L.length:Nat):Int):=by omega
   refine⟨aS (dC o ds) (List.take (L.length-1+1) L),?_,by rw[Ak (by omega)]⟩;unfold wvy;dsimp only;rw[qo,qd ad,qb,qq])
  (v:=(L.getD 0 [],1)) (by have h1:=cD (l:=L) (i:=0) [] af;rw[DQ,v5]at h1;rw[h1,fU];rfl)
 obtain⟨r,h1,rfl⟩:=h;have hL:aHw (L,o,ds) (L.getD 0 [],1)=some (aS (dC o ds) L):=h1;unfold PP QN;have ae:aB (0:Int) L.length=true:=bM (by omega) (by omega);rw[qn,e1,xc,qp,ae,qa,qn];have ht:Int.toNat 0=0:=rfl;rw[ht,hL,xc,qq]
section
variable {K:Int->Int}
def gH(K:Int->Int)(x:Int):List Int->List Int
 | []=>[x]
 |a::l=>if K a<=K x then a::gH K x l else x::a::l
def dL(K:Int->Int)(l:List Int):List Int:=l.foldl (λacc x=>gH K x acc) []
theorem B5{x y:Int}(h:K x<K y):∀q:List Int,gH K x (q++ [y])=gH K x q++ [y]
 | []=>by simp[gH];omega
 |a::q=>by
  simp only[Y7,gH];split;·rw[B5 h q];rfl
  ·rfl
theorem y5{x:Int}:∀{l:List Int},(∀y∈l,K y<=K x)->gH K x l=l++ [x]
 | [],_=>rfl
 |a::l,h=>by simp only[gH,qi (h a xz),Y7];rw[y5 λy hy=>h y (xw _ hy)]
theorem oR(x:Int):∀l:List Int,(gH K x l).Perm (x::l)
 | []=>.refl _
 |a::l=>by
  simp only[gH];split;·exact((oR x l).cons a).trans (.swap x a l)
  ·exact .refl _
theorem vV{x:Int}:∀{l:List Int},l.Pairwise (λa b=>K a<=K b)->(gH K x l).Pairwise λa b=>K a<=K b
 | [],_=>by simp[gH]
 |a::l,h=>by
  rw[xbo]at h;simp only[gH];split
  next hx=>
   rw[xbo];refine⟨λy hy=>?_,vV h.2⟩;rcases xaj.1 ((oR x l).mem_iff.1 hy)with e|hy;·rw[e];exact hx
   ·exact h.1 y hy
  next hx=>
   rw[xbo,xbo];refine⟨λy hy=>?_,h⟩;rcases xaj.1 hy with rfl|hy;·omega
   ·have:=h.1 y hy;omega
theorem yW(l:List Int)(x:Int):dL K (l++ [x])=gH K x (dL K l):=by simp[dL]
theorem pN:∀l:List Int,(dL K l).Pairwise (λa b=>K a<=K b)/\(dL K l).Perm l:=by
 intro l;have key:∀(l acc:List Int),acc.Pairwise (λa b=>K a<=K b)->(l.foldl (λacc x=>gH K x acc) acc).Pairwise (λa b=>K a<=K b)/\(l.foldl (λacc x=>gH K x acc) acc).Perm (acc++l):=by
  intro l;induction l with
  |nil=>intro acc h;exact⟨h,by simp⟩
  |cons x l ih=>intro acc h;obtain⟨h1,h2⟩:=ih (gH K x acc) (vV h);refine⟨h1,h2.trans (((oR x acc).append_right l).trans ?_)⟩;rw[Y7];exact List.perm_middle.symm
 have h:=key l [] List.Pairwise.nil;rw[v5]at h;exact h
theorem D4(x:Int):∀l:List Int,l.take ((l.findIdx? λy=> !decide (K y<=K x)).elim l.length id)++x::l.drop ((l.findIdx? λy=> !decide (K y<=K x)).elim l.length id)=gH K x l
 | []=>rfl
 |a::l=>by
  have ih:=D4 x l;rw[xek];by_cases h:K a<=K x
  ·simp only[h,decide_true,xq,rU,if_false,gH,if_true];cases hf:l.findIdx? λy=> !decide (K y<=K x)with|none=>rw[hf]at ih;simpa using ih|some j=>rw[hf]at ih;simpa using ih
  ·simp[h,gH]
theorem B8{p r:List Int}{x:Int}:(p++x::r).getD p.length 0=x:=by rw[xe,j8 (xp _),Nq];rfl
theorem Ib(l:List Int):(List.range (l.length-1)).foldl (λ_ k=>dL K (l.take (k+2))++l.drop (k+2)) l=dL K l:=by
 cases hn:l.length-1 with
 |zero=>
  rcases l with _|⟨a,_|⟨b,l⟩⟩
  ·rfl
  ·rfl
  ·simp at hn
 |succ n=>rw[KK,BE];simp only[N3,xgh];rw[Ak (by omega),xhd (by omega),wG]
def SC(K:Int->Int)(M:Int->Prop)(p:HL [.int .i64,.int .i64]->Option Int):Prop:=∀x y,M x->M y->∃c,p (x,y,())=some c/\(c<0↔K x<K y)
theorem u0{M:Int->Prop}{f:HL [.int .i64,.int .i64]->Option Int}(hf:SC K M f)(n i:Int):∀(m:Nat) (p:List Int) (x:Int) (r:List Int),p.length=m->(∀y∈p,M y)->M x->(p.length:Int)<9223372036854775807->p.Pairwise (λa b=>K a<=K b)->
  wyw (0,n,f,i) ((p.length:Int),p++x::r)=some (gH K x p++r):=by
 intro m;induction m with
 |zero=>intro p x r hm _ _ _ _;have:=o8 hm;subst this;unfold wyw;rw[aL];simp(disch:=omega)only[EV,TL,xj,lI,BN,show((0:Nat):Int)=0 from rfl];rfl
 |succ m ih=>
  intro p x r hm hM hx ah hp;obtain⟨q,y,rfl⟩:∃q y,p=q++ [y]:=by
   have:=xft p;rcases this with h|⟨q,y,h⟩
   ·rw[h]at hm;cases hm
   ·exact⟨q,y,by simpa using h⟩
  have aa:q.length=m:=by simpa using hm
  have e0:((q++ [y]).length:Int)=((m+1:Nat):Int):=by simp[aa]
  rw[e0]at ah⊢;have e2:((m+1:Nat):Int) -1=(m:Int):=by omega
  have g1:((q++ [y])++x::r).getD (m+1) 0=x:=by have:=B8 (p:=q++ [y]) (x:=x) (r:=r);rwa [show(q++ [y]).length=m+1 by simp[aa]]at this
  have g2:((q++ [y])++x::r).getD m 0=y:=by have:=B8 (p:=q) (x:=y) (r:=x::r);rw[aa]at this;simpa using this
  have hl:((q++ [y])++x::r).length=m+2+r.length:=by simp[aa];omega
  have s1:(((q++ [y])++x::r).set (m+1) y).set m x=q++x::(y::r):=by
   have t1:((q++ [y])++x::r).set (m+1) y=(q++ [y])++y::r:=by rw[Wd _ _ (by simp[aa]),show m+1-(q++ [y]).length=0 by simp[aa]];rfl
   rw[t1,Fy,Wd _ _ (by omega),show m-q.length=0 by omega];rfl
  have ad:¬K x<K y->((q++ [y])++x::r)=gH K x (q++ [y])++r:=λab=>by
   rw[y5];·simp
   ·intro z hz;rcases xaa.1 hz with hz|hz;·have:=(xdr.1 hp).2.2 z hz y (by simp);omega
    ·have:=xx.1 hz;rw[this];omega
  have h0:(0:Int)<((m+1:Nat):Int):=by omega
  have h1:m+1<m+2+r.length:=by omega
  have h2:m<m+2+r.length:=by omega
  obtain⟨c,hc,af⟩:=hf x y hx (hM y (by simp));generalize((q++ [y])++x::r)=L at g1 g2 hl s1 ad;unfold wyw;rw[aL];by_cases ab:K x<K y
  ·have ae:=af.2 ab;have e:(TL (0,n,f,i) (((m+1:Nat):Int),L)).ev=some (.inl ((m:Int),q++x::(y::r))):=by simp(disch:=omega)only[EV,TL,h0,hl,h1,e2,h2,g1,g2,hc,ae,F0,s1]
   rw[e];have:=ih q x (y::r) aa (λz hz=>hM z (by simp[hz])) hx (by omega) (xdr.1 hp).1;rw[aa]at this;unfold wyw at this;simp only;rw[this,B5 ab];simp
  ·have ae:¬c<0:=λh=>ab (af.1 h);have e:(TL (0,n,f,i) (((m+1:Nat):Int),L)).ev=some (.inr L):=by simp(disch:=omega)only[EV,TL,h0,hl,h1,e2,h2,g1,g2,hc,ae]
   rw[e];simp only;rw[ad ab]
theorem q7{M:Int->Prop}{f:HL [.int .i64,.int .i64]->Option Int}(hf:SC K M f){l:List Int}(hM:∀x∈l,M x)(hl:(l.length:Int)<9223372036854775806):Zd 0 (l.length:Int) f l=some (dL K l):=by
 have key:=(aK (f:=λv=>(wyx (0,(l.length:Int),f) v).ev) (n:=l.length-1) (mk:=λk (s:List Int)=>(((k+1:Nat):Int),s)) (I:=λk s=>s=dL K (l.take (k+1))++l.drop (k+1)) (g:=λ_ k=>dL K (l.take (k+2))++l.drop (k+2)) (fin:=λs=>s) (s0:=l) (by
   cases l with
   |nil=>rfl
   |cons a l=>simp[dL,gH])
  (λk s hk hs=>by
   subst hs;have aa:k+1<l.length:=by omega
   obtain⟨h1,h2⟩:=pN (K:=K) (l.take (k+1));have h3:(dL K (l.take (k+1))).length=k+1:=by rw[h2.length_eq];simp;omega
   have h4:l.drop (k+1)=l[k+1]::l.drop (k+2):=Im aa;have h5:dL K (l.take (k+2))=gH K l[k+1] (dL K (l.take (k+1))):=by rw[<-yW,Mj aa]
   have h6:=u0 hf (l.length:Int) ((k+1:Nat):Int) (k+1) (dL K (l.take (k+1))) l[k+1] (l.drop (k+2)) h3 (λy hy=>hM y (Je (h2.mem_iff.1 hy))) (hM _ (xeh aa)) (by rw[h3];omega) h1;rw[h3,<-h4]at h6;refine⟨?_,rfl⟩;simp(disch:=omega)only[EV,wyx,aa,h6];rw[h5];rfl)
  (λs _=>by simp(disch:=omega)only[EV,wyx,show¬(l.length-1+1<l.length) by omega])).1
 rw[Ib]at key;have e:aEA (0,(l.length:Int),f) (1,l)=some (dL K l):=key;unfold Zd MA;simp(disch:=omega)only[EV,show IntKind.wrap .i64 ((0:Int)+1)=1 from rfl,e]
theorem n5{M:Int->Prop}{f:HL [.int .i64,.int .i64]->Option Int}(hf:SC K M f){l:List Int}(hM:∀x∈l,M x)(hl:l.length<=19):XN f l=some (dL K l):=by
 have e1:IB ((l.length:Int),f,20) (0,20,l)=some (0,l):=by
  unfold IB;rw[aL];have hn:¬(20:Int)<=(l.length:Int):=by omega
  simp(disch:=omega)only[EV,SE,hn]
 have e2:∀s:List Int,PZ ((l.length:Int),f,s) 20=some ():=λs=>by
  unfold PZ;rw[aL];have hn:¬(20:Int)<(l.length:Int):=by omega
  simp(disch:=omega)only[EV,NM,hn]
 have e3:=q7 hf hM (by omega);unfold XN QU aDw WD;rw[qn,qn,e1,xc,qn];dsimp only;rw[e3,xc,qn,e2];rfl
end
theorem Dg(a b:Int):∃c,Be a b=some c/\(c<0↔a<b):=by
 unfold Be AD;have e:∀x,L7 x=some false:=λx=>by unfold L7 Oe;simp only[qq,qk]
 rw[qn,e,xc,qn,e,xc];simp only[qo,qb,qq];by_cases h1:a<b;·rw[qc h1];exact⟨_,rfl,by omega⟩
 ·rw[qd h1];by_cases h2:b<a;·rw[qc h2];exact⟨_,rfl,by omega⟩
  ·rw[qd h2];exact⟨_,rfl,by omega⟩
def iI(ds:List (List Int))(p:List Int)(a b:Nat):Bool:= !(List.range ds.length).all λi=> !(decide (dB ds i a<p.getD i 0)&&decide (dB ds i b<p.getD i 0))
section
variable {o:List Int}{ds:List (List Int)}
theorem Z0(hf:Fld o ds){p:List Int}(hp:p.length=ds.length){a b:Nat}(ha:a<o.length)(hb:b<o.length)(t w:List Int):HW o ds p t w (a:Int) (b:Int)=some (iI ds p a b):=by
 have ae:=hf.clients;have hlen:=hf.len;have key:=aX (f:=λv=>(PG ((a:Int),(b:Int),ds,(ds.length:Int),p,t,w) v).ev) (n:=ds.length) (λi=>(i:Int)) (λi=> !(decide (dB ds i a<p.getD i 0)&&decide (dB ds i b<p.getD i 0))) (.inl ():Unit⊕Unit) (.inr ())
  (λi hi _=>by
   have hr:=hf.rowLen i hi;have h1:=hf.at2 hi ha;have h2:=hf.at2 hi hb;have aa:i<p.length:=by omega
   have ab:a<(ds.getD i []).length:=by omega
   have ad:b<(ds.getD i []).length:=by omega
   have e1:(ds.getD i []).getD a 0=at2 ds i a:=rfl;have e2:(ds.getD i []).getD b 0=at2 ds i b:=rfl;have e3:at2 ds i a*2520=dB ds i a:=rfl;have e4:at2 ds i b*2520=dB ds i b:=rfl;by_cases c1:dB ds i a<p.getD i 0
   ·by_cases c2:dB ds i b<p.getD i 0;·simp(disch:=omega)only[EV,PG,hi,aa,ab,ad,e1,e2,e3,e4,c1,c2]
    ·simp(disch:=omega)only[EV,PG,hi,aa,ab,ad,e1,e2,e3,e4,c1,c2];rfl
   ·simp(disch:=omega)only[EV,PG,hi,aa,ab,ad,e1,e2,e3,e4,c1];rfl)
  (by simp(disch:=omega)only[EV,PG,xj])
 have k1:aHJ ((a:Int),(b:Int),ds,(ds.length:Int),p,t,w) (0:Int)=some (bif (List.range ds.length).all λi=> !(decide (dB ds i a<p.getD i 0)&&decide (dB ds i b<p.getD i 0))then .inl ()else .inr ()):=key;unfold HW MI iI;cases h:(List.range ds.length).all λi=> !(decide (dB ds i a<p.getD i 0)&&decide (dB ds i b<p.getD i 0))with
 |false=>rw[h]at k1;simp(disch:=omega)only[EV,k1]
 |true=>rw[h]at k1;simp(disch:=omega)only[EV,k1]
def fV(t:List Int):List Int:=(List.range t.length).foldl (λacc a=>if 0<=t.getD a 0 then acc++ [(a:Int)]else acc) []
def iX(ds:List (List Int))(p:List Int)(l:List Int):List Int:=l.foldl (λacc a=>if acc.any (λb=>iI ds p a.toNat b.toNat)then acc else acc++ [a]) []
def pD(ds:List (List Int))(g:List Int×List Int×List Int):List Int:=dK (iX ds g.1 (dL (λx=>g.2.1.getD x.toNat 0) (fV g.2.1)))
theorem tE(t:List Int):∀n:Nat,(∀x∈(List.range n).foldl (λacc a=>if 0<=t.getD a 0 then acc++ [(a:Int)]else acc) [],0<=x/\x<(n:Int))/\((List.range n).foldl (λacc a=>if 0<=t.getD a 0 then acc++ [(a:Int)]else acc) []).Pairwise (· < ·)/\((List.range n).foldl (λacc a=>if 0<=t.getD a 0 then acc++ [(a:Int)]else acc) []).length<=n
 |0=>⟨λx h=>(by cases h),List.Pairwise.nil,xp _⟩
 |n+1=>by
  obtain⟨h1,h2,h3⟩:=tE t n;rw[aR];generalize(List.range n).foldl (λacc a=>if 0<=t.getD a 0 then acc++ [(a:Int)]else acc) []=l at h1 h2 h3⊢;split
  ·refine⟨λx hx=>?_,xdr.2 ⟨h2,List.pairwise_singleton _ _,λa ha b hb=>?_⟩,by simp;omega⟩
   ·rcases xaa.1 hx with hx|hx;·have:=h1 x hx;omega
    ·rw[xx.1 hx];omega
   ·rw[xx.1 hb];have:=h1 a ha;omega
  ·exact⟨λx hx=>by have:=h1 x hx;omega,h2,by omega⟩
theorem tS(ds:List (List Int))(p:List Int):∀l:List Int,(iX ds p l).Sublist l:=by
 intro l;have key:∀(l acc pre:List Int),acc.Sublist pre->(l.foldl (λacc a=>if acc.any (λb=>iI ds p a.toNat b.toNat)then acc else acc++ [a]) acc).Sublist (pre++l):=by
  intro l;induction l with
  |nil=>intro acc pre h;simpa using h
  |cons a l ih=>
   intro acc pre h;rw[N3,show pre++a::l=(pre++ [a])++l by simp];refine ih _ _ ?_;split;·exact h.trans (List.sublist_append_left _ _)
   ·exact h.append (List.Sublist.refl _)
 exact key l [] [] (List.Sublist.refl _)
theorem Cm(hf:Fld o ds){g:List Int×(List Int×List Int)}(hg:GR o ds g):(∀x∈pD ds g,0<=x/\x<(o.length:Int))/\(pD ds g).length<=7:=by
 have hlen:=hf.len;obtain⟨h1,h2,h3⟩:=tE g.2.1 g.2.1.length;have hs:=(pN (K:=λx=>g.2.1.getD x.toNat 0) (fV g.2.1)).2;have hk:=tS ds g.1 (dL (λx=>g.2.1.getD x.toNat 0) (fV g.2.1));obtain⟨_,s2,s3⟩:=uP (iX ds g.1 (dL (λx=>g.2.1.getD x.toNat 0) (fV g.2.1)));have aa:=hg.tl;refine⟨λx hx=>?_,?_⟩;·have:=h1 x (hs.mem_iff.1 (hk.subset ((s3 x).1 hx)));omega
 ·show(dK _).length<=7;rw[s2];have:=hk.length_le;rw[hs.length_eq]at this;have ab:(fV g.2.1).length<=g.2.1.length:=h3;omega
theorem Wx{t:List Int}(ht:t.length<=1000)(y:List Int)(z w:List Int):SJ ((t.length:Int),o,ds,t,y,w) ((0:Int),z)=some ((List.range t.length).foldl (λacc a=>if 0<=t.getD a 0 then acc++ [(a:Int)]else acc) z)\/1000<z.length:=by
 by_cases hz:z.length<=1000
 ·left;have key:=(aK (f:=λv=>(ZY ((t.length:Int),o,ds,t,y,w) v).ev) (n:=t.length) (mk:=λi (acc:List Int)=>((i:Int),acc)) (I:=λi acc=>acc.length<=1000+i) (g:=λacc a=>if 0<=t.getD a 0 then acc++ [(a:Int)]else acc) (fin:=λacc=>acc) (s0:=z) (by omega)
   (λi acc hi ha=>by
    have aa:∀x:Int,List.length [x]=1:=λ_=>rfl;by_cases h:0<=t.getD i 0
    ·refine⟨?_,by simp only[qi h,xm,aa];omega⟩;have hb:(acc.length+1)*8<=140737488355328:=by omega
     simp only[qi h];simp(disch:=omega)only[EV,ZY,hi,h,aa,hb];rfl
    ·refine⟨?_,by simp only[qh h];omega⟩;simp only[qh h];simp(disch:=omega)only[EV,ZY,hi,h];rfl)
   (λacc _=>by simp(disch:=omega)only[EV,ZY,xj])).1
  exact key
 ·right;omega
theorem X8(hf:Fld o ds){p:List Int}(hp:p.length=ds.length)(t w:List Int){l:List Int}(hl:∀x∈l,0<=x/\x<(o.length:Int))(af:l.length<=100):
  aBc ((l.length:Int),o,ds,l,p,t,w) ((0:Int),([]:List Int))=some (iX ds p l):=by
 have hlen:=hf.len;exact(dM (f:=λv=>(Jc ((l.length:Int),o,ds,l,p,t,w) v).ev) l 0 (mk:=λi (acc:List Int)=>((i:Int),acc)) (I:=λi acc=>acc.length<=i/\∀x∈acc,0<=x/\x<(o.length:Int)) (g:=λacc a=>if acc.any (λb=>iI ds p a.toNat b.toNat)then acc else acc++ [a]) (fin:=λacc=>acc) (s0:=[]) ⟨xp _,λx h=>by cases h⟩
  (λi acc hi ⟨h1,h2⟩=>by
   have hm:=hl _ (aE (d:=0) hi);have aa:∀x:Int,List.length [x]=1:=λ_=>rfl;have e1:=lJ (l:=acc) (by omega) (p:=λab=>Option.bind (BZ ab.1 o ds p t w (l.getD i 0)) λad=>some ad) (q:=λb=>iI ds p (l.getD i 0).toNat b.toNat) (λb hb=>by have ae:=h2 b hb;have ec:=Z0 hf hp (a:=(l.getD i 0).toNat) (b:=b.toNat) (by omega) (by omega) t w;rw[xeg hm.1,xeg ae.1]at ec;show Option.bind (BZ b o ds p t w (l.getD i 0)) _=_;unfold BZ XW;simp(disch:=omega)only[EV,ec]);cases h:acc.any λb=>iI ds p (l.getD i 0).toNat b.toNat with
   |true=>rw[h]at e1;refine⟨?_,by simp only[if_true];omega,by simpa using h2⟩;simp only[if_true];simp(disch:=omega)only[EV,Jc,hi,e1];rfl
   |false=>
    rw[h]at e1;have hb:(acc.length+1)*8<=140737488355328:=by omega
    refine⟨?_,by simp only[rU,if_false,xm,aa];omega,λx hx=>?_⟩;·simp only[rU,if_false];simp(disch:=omega)only[EV,Jc,hi,e1,aa,hb];rfl
    ·simp only[rU,if_false]at hx;rcases xaa.1 hx with hx|hx;·exact h2 x hx
     ·rw[xx.1 hx];exact hm)
  (λacc _=>by simp(disch:=omega)only[EV,Jc,xj])).1
theorem wX(hf:Fld o ds)(h0:0<ds.length)(hv:Ge o ds=some true):∃g,GR o ds g/\V7 o ds=some g/\Lb o ds=some (true,pD ds g):=by
 obtain⟨⟨p,t,w⟩,e1,hg⟩:=Aw hf;have hlen:=hf.len;have ad:=hg.tl;simp only at ad;obtain⟨h1,h2,h3⟩:=tE t t.length;rcases Wx (o:=o) (ds:=ds) (t:=t) (by omega) p [] w with e2|e2
 ·have ae:SJ ((t.length:Int),o,ds,t,p,w) ((0:Int),([]:List Int))=some (fV t):=e2;have hr:∀x∈fV t,0<=x/\x<(o.length:Int):=λx hx=>by have:=h1 x hx;omega
  have ai:(fV t).length<=t.length:=h3;have e3:=n5 (K:=λx=>t.getD x.toNat 0) (M:=λx=>0<=x/\x<(o.length:Int)) (f:=λaa=>Option.bind (AM aa.1 aa.2.1 p t w) λab=>some ab) (λx y hx hy=>by obtain⟨c,k1,k2⟩:=Dg (t.getD x.toNat 0) (t.getD y.toNat 0);have af:aB x t.length=true:=bM hx.1 (by omega);have ah:aB y t.length=true:=bM hy.1 (by omega);refine⟨c,?_,k2⟩;show Option.bind (AM x y p t w) _=_;unfold AM XP;simp(disch:=omega)only[EV,af,ah,k1]) hr (by omega);have hs:=(pN (K:=λx=>t.getD x.toNat 0) (fV t)).2;have aj:=hs.length_eq;have e4:=X8 hf (p:=p) hg.pl t w (l:=dL (λx=>t.getD x.toNat 0) (fV t)) (λx hx=>hr x (hs.mem_iff.1 hx)) (by omega);have hk:=(tS ds p (dL (λx=>t.getD x.toNat 0) (fV t))).length_le;have e5:=v6 (l:=iX ds p (dL (λx=>t.getD x.toNat 0) (fV t))) (by omega);have hd:((((ds.length:Nat):Int))==0)=false:=beq_eq_false_iff_ne.2 (by omega);refine⟨(p,t,w),hg,e1,?_⟩;unfold Lb CL pD;simp(disch:=omega)only[EV,hv,hd,e1,ae,e3,e4,e5]
 ·simp at e2
end
section
variable {J S O:List Nat}{f:Nat->Int}{d:Nat->Nat->Int}{σ ω:Nat->Nat}
end
def O6:Nat->List (List Int)
 |0=>[[]]
 |n+1=>O6 n++(O6 n).map λs=>s++ [(n:Int)]
theorem pJ:∀(n:Nat) {s:List Int},s.Pairwise (· < ·)->(∀x∈s,0<=x/\x<(n:Int))->s∈O6 n
 |0,s,_,h=>by
  cases s with
  |nil=>exact xx.2 rfl
  |cons x s=>have:=h x (by simp);omega
 |n+1,s,hp,h=>by
  rw[O6,xaa];rcases xft s with rfl|⟨i,z,rfl⟩
  ·exact .inl (pJ n hp λx hx=>by cases hx)
  ·rw[List.concat_eq_append]at hp h⊢;obtain⟨p1,_,p3⟩:=xdr.1 hp;have hz:=h z (by simp);by_cases e:z=(n:Int)
   ·refine .inr (xak.2 ⟨i,pJ n p1 λx hx=>?_,by rw[e]⟩);have h1:=h x (q8 _ hx);have h2:=p3 x hx z (by simp);omega
   ·refine .inl (pJ n hp λx hx=>?_);have h1:=h x hx;rcases xaa.1 hx with hx|hx;·have h2:=p3 x hx z (by simp);omega
    ·rw[xx.1 hx]at h1⊢;omega
def bits(h:List Int):Nat:=h.foldl (λx a=>x|||2^a.toNat) 0
def kK(x:Nat):List Int:=((List.range 7).filter x.testBit).map λ(a:Nat)=>(a:Int)
def DY(x:Int)(a:Nat):Int:=IntKind.wrap .u64 (BitVec.toNat ((BitVec.ofInt (IntKind.bits .u64) x)||| (BitVec.ofInt (IntKind.bits .u64) (IntKind.wrap .u64 ((1:Int)*2^(min a (IntKind.bits .u64)))))))
def YS(x:Int)(a:Nat):Int:=IntKind.wrap .u64 (BitVec.toNat ((BitVec.ofInt (IntKind.bits .u64) x)&&& ~~~(BitVec.ofInt (IntKind.bits .u64) (IntKind.wrap .u64 ((1:Int)*2^(min a (IntKind.bits .u64)))))))
def clr(x a:Nat):Nat:=if x.testBit a then x-2^a else x
noncomputable def Lr(x:Nat):Bool:=(Rp (x:Int)==some (kK x))&&(List.range 7).all λ(a:Nat)=>
 (Ou (x:Int) (a:Int)==some (x.testBit a))&&((kK x).contains (a:Int)==x.testBit a)&&(DY (x:Int) a==((x|||2^a:Nat):Int))&&Nat.blt (x|||2^a) 128&&(YS (x:Int) a==((clr x a:Nat):Int))&&Nat.blt (clr x a) 128&&
 (x.testBit a||(kK (x|||2^a)==ins (a:Int) (kK x)))&&(kK (clr x a)==wo (kK x) (a:Int))
theorem He:(List.range 128).all Lr=true:=by kernel_rfl
def aHC(s:List Int):Bool:=(kK (bits s)==s)&&Nat.blt (bits s) 128
theorem CQ:(O6 7).all aHC=true:=by kernel_rfl
structure BagP(x:Nat):Prop where
 list:Rp (x:Int)=some (kK x)
 has:∀a:Nat,a<7->Ou (x:Int) (a:Int)=some ((kK x).contains (a:Int))
 put:∀a:Nat,a<7->(a:Int)∉kK x->∃y:Nat,y<128/\DY (x:Int) a=(y:Int)/\kK y=ins (a:Int) (kK x)
 cut:∀a:Nat,a<7->∃y:Nat,y<128/\YS (x:Int) a=(y:Int)/\kK y=wo (kK x) (a:Int)
theorem K9{x:Nat}(hx:x<128):BagP x:=by
 have h:=xy.1 He x (xau.2 hx);simp only[Lr,xi,xy,xau,qg,M9]at h;obtain⟨h1,h2⟩:=h;refine⟨h1,λa ha=>?_,λa ha hn=>?_,λa ha=>?_⟩;·obtain⟨⟨⟨⟨⟨⟨⟨k1,k2⟩,k3⟩,k4⟩,k5⟩,k6⟩,k7⟩,k8⟩:=h2 a ha;rw[k2];exact k1
 ·obtain⟨⟨⟨⟨⟨⟨⟨k1,k2⟩,k3⟩,k4⟩,k5⟩,k6⟩,k7⟩,k8⟩:=h2 a ha;refine⟨x|||2^a,by simpa using k4,k3,?_⟩;rcases k7 with k7|k7;·rw[k7]at k2;exact absurd (xck.1 k2) hn
  ·exact k7
 ·obtain⟨⟨⟨⟨⟨⟨⟨k1,k2⟩,k3⟩,k4⟩,k5⟩,k6⟩,k7⟩,k8⟩:=h2 a ha;exact⟨clr x a,by simpa using k6,k5,k8⟩
theorem tA{n:Nat}(hn:n<=7){s:List Int}(h:ris n s):kK (bits s)=s/\bits s<128:=by
 have hm:=pJ 7 h.2 λx hx=>by have:=h.1 x hx;omega
 have hk:=xy.1 CQ s hm;simp only[aHC,xi,qg]at hk;exact⟨hk.1,by simpa using hk.2⟩
theorem aGw:∀(x a:Nat),x<128->a<7->x|||2^a<128:=λx a hx ha=>Nat.or_lt_two_pow (n:=7) hx (Nat.pow_lt_pow_right (by omega) ha)
theorem LI{x a:Nat}(hx:x<128)(ha:a<7):DY (x:Int) a=((x|||2^a:Nat):Int):=by have h:=xy.1 He x (xau.2 hx);simp only[Lr,xi,xy,xau,qg,M9]at h;exact(h.2 a ha).1.1.1.1.1.2
theorem zE{n:Nat}(hn:n<=7){s:List Int}(h:ris n s):Se s=some (bits s:Int):=by
 have hl:=h.len;have key:=(dM (f:=λv=>(wxp (s,((s.length:Nat):Int)) v).ev) s 0 (mk:=λi (x:Nat)=>((x:Int),(i:Int))) (I:=λ_ x=>x<128) (g:=λx a=>x|||2^a.toNat) (fin:=λx=>(x:Int)) (s0:=0) (by omega)
  (λi x hi hx=>by
   have ha:=h.1 _ (aE (d:=0) hi);obtain⟨a,e⟩:∃a:Nat,s.getD i 0=(a:Int):=⟨(s.getD i 0).toNat,by omega⟩
   have k2:=LI hx (show a<7 by omega);unfold DY at k2;rw[e,mZ];refine⟨?_,aGw x a hx (by omega)⟩;have i1:aB (i:Int) s.length=true:=bM (by omega) (by omega);have i2:(0:Int)<=(a:Int):=by omega
   have i3:(i:Int)<((s.length:Nat):Int):=by omega
   simp only[wxp,qo,qp,qq,i1,mZ,e,i2,i3,decide_true,qa];rw[k2,aV (by omega) (by omega)];rfl)
  (λx _=>by simp(disch:=omega)only[EV,wxp,xj])).1
 have k2:aFI (s,((s.length:Nat):Int)) (0,0)=some (bits s:Int):=key;unfold Se FF;simp(disch:=omega)only[EV,k2]
theorem gX{n:Nat}(hn:n<=7){s:List Int}(h:ris n s){a:Int}(h0:0<=a)(ha:a<7):Ou (bits s:Int) a=some (s.contains a):=by
 obtain⟨e,hb⟩:=tA hn h;obtain⟨a,rfl⟩:∃b:Nat,a=(b:Int):=⟨a.toNat,by omega⟩
 have:=(K9 hb).has a (by omega);rwa [e]at this
theorem A6{n:Nat}(hn:n<=7){s:List Int}(h:ris n s){a:Int}(h0:0<=a)(ha:a<7)(hx:a∉s):Rp (DY (bits s:Int) a.toNat)=some (ins a s):=by
 obtain⟨e,hb⟩:=tA hn h;obtain⟨a,rfl⟩:∃b:Nat,a=(b:Int):=⟨a.toNat,by omega⟩
 obtain⟨y,y1,y2,y3⟩:=(K9 hb).put a (by omega) (by rw[e];exact hx);rw[mZ,y2,(K9 y1).list,y3,e]
theorem D6{n:Nat}(hn:n<=7){s:List Int}(h:ris n s){a:Int}(h0:0<=a)(ha:a<7):Rp (YS (bits s:Int) a.toNat)=some (wo s a):=by
 obtain⟨e,hb⟩:=tA hn h;obtain⟨a,rfl⟩:∃b:Nat,a=(b:Int):=⟨a.toNat,by omega⟩
 obtain⟨y,y1,y2,y3⟩:=(K9 hb).cut a (by omega);rw[mZ,y2,(K9 y1).list,y3,e]
theorem zA{n:Nat}(hn:n<=7){s:List Int}(h:ris n s){a b:Int}(h0:0<=a)(ha:a<7)(h1:0<=b)(hb:b<7)(hx:b∉s):BM s a b=some (ins b (wo s a)):=by obtain⟨e,aa⟩:=tA hn h;have e0:=zE hn h;obtain⟨y,y1,y2,y3⟩:=(K9 aa).cut a.toNat (by omega);rw[e,show((a.toNat:Nat):Int)=a by omega]at y3;obtain⟨z,z1,z2,z3⟩:=(K9 y1).put b.toNat (by omega) (by rw[y3,show((b.toNat:Nat):Int)=b by omega];exact jY hx);rw[y3,show((b.toNat:Nat):Int)=b by omega]at z3;have e1:=(K9 z1).list;rw[z3,<-z2,<-y2]at e1;unfold DY YS at e1;unfold BM PF;rw[qn,e0,xc,qp,qc h0,qa,qp,qc h1,qa,qn,e1,xc,qq]
section
variable (o:List Int) (ds:List (List Int)) (S L:List Int)
end
section
variable {o:List Int}{ds:List (List Int)}{S L:List Int}
end
section
variable {o:List Int}{ds:List (List Int)}{S L:List Int}
end
section
variable (o:List Int) (ds:List (List Int))
end
section
variable {o:List Int}{ds:List (List Int)}{S L:List Int}
end
section
variable {o:List Int}{ds:List (List Int)}
end
theorem xW{V R:Type}{f:V->Option (V⊕R)}{α:Type}{n:Nat}(h:Nat->Option α)(mk:Nat->V)(yes:α->R)(no:R)
  (hs:∀i,i<n->f (mk i)=some (match h i with|some m=>.inr (yes m)|none=>.inl (mk (i+1)))) (he:f (mk n)=some (.inr no)):
  ∀k i,i+k=n->aC f (mk i)=some (((List.range' i k).findSome? h).elim no yes):=by
 intro k;induction k with
 |zero=>
  intro i hi;have:i=n:=by omega
  subst this;rw[aL,he];rfl
 |succ k ih=>
  intro i hi;rw[aL,hs i (by omega),List.range'_succ,NV];cases h i with
  |some m=>rfl
  |none=>exact ih (i+1) (by omega)
theorem mD{V R:Type}{f:V->Option (V⊕R)}{α:Type}{n:Nat}(h:Nat->Option α)(mk:Nat->V)(yes:α->R)(no:R)
  (hs:∀i,i<n->f (mk i)=some (match h i with|some m=>.inr (yes m)|none=>.inl (mk (i+1)))) (he:f (mk n)=some (.inr no)):
  aC f (mk 0)=some (((List.range n).findSome? h).elim no yes):=by
 rw[List.range_eq_range'];exact xW h mk yes no hs he n 0 (by omega)
def Wz(s:List Int)(a:Nat):Option (List Int):=if s.contains (a:Int)then none else some (ins (a:Int) s)
def No(s:List Int)(a:Nat):Option (List Int):=if s.contains (a:Int)/\0<(wo s (a:Int)).length then some (wo s (a:Int))else none
def Tu(s w:List Int)(b:Nat):Option (List Int):=if s.contains (b:Int)then none else some (ins (b:Int) w)
def G9(n:Nat)(s:List Int)(a:Nat):List (List Int):=if s.contains (a:Int)then(List.range n).filterMap (Tu s (wo s (a:Int)))else[]
theorem uK{α:Type}(g:Nat->Option α)(a:Nat):[a].filterMap g=(g a).toList:=by rw[List.filterMap_cons];cases g a<;>rfl
theorem SY(n:Nat)(s w:List Int)(acc:List (List Int)):PJ n s w acc=acc++(List.range n).filterMap (Tu s w):=by
 unfold PJ;induction n with
 |zero=>simp
 |succ n ih=>
  rw[aR,ih,KK,xfu,<-Fy,uK];cases hc:s.contains (n:Int)with
  |true=>
   have e:Tu s w n=none:=by unfold Tu;rw[hc];rfl
   rw[e,qi rfl];exact(wG _).symm
  |false=>
   have e:Tu s w n=some (ins (n:Int) w):=by unfold Tu;rw[hc];rfl
   rw[e,qh (by simp)];rfl
theorem Rl(n:Nat)(s:List Int):∀k,(List.range k).foldl (gS n s) ([],[],[])=((List.range k).filterMap (Wz s),(List.range k).filterMap (No s),(List.range k).flatMap (G9 n s))
 |0=>rfl
 |k+1=>by
  rw[aR,Rl n s k,KK,xfu,xfu,List.flatMap_append];unfold gS;cases hc:s.contains (k:Int)with
  |true=>
   simp only[if_true,SY];have h1:[k].filterMap (Wz s)=[]:=by
    have:Wz s k=none:=by unfold Wz;rw[hc];rfl
    rw[uK,this];rfl
   have h3:[k].flatMap (G9 n s)=(List.range n).filterMap (Tu s (wo s (k:Int))):=by
    have:G9 n s k=(List.range n).filterMap (Tu s (wo s (k:Int))):=by unfold G9;rw[hc];rfl
    rw[xeq,List.flatMap_nil,wG,this]
   rw[h1,h3,wG];by_cases hp:0<(wo s (k:Int)).length
   ·have h2:[k].filterMap (No s)=[wo s (k:Int)]:=by
     have:No s k=some (wo s (k:Int)):=by unfold No;rw[qi ⟨hc,hp⟩]
     rw[uK,this];rfl
    rw[h2,qi hp]
   ·have h2:[k].filterMap (No s)=[]:=by
     have:No s k=none:=by unfold No;rw[qh λh=>hp h.2]
     rw[uK,this];rfl
    rw[h2,qh hp,wG]
  |false=>
   simp only[rU,if_false];have h1:[k].filterMap (Wz s)=[ins (k:Int) s]:=by
    have:Wz s k=some (ins (k:Int) s):=by unfold Wz;rw[hc];rfl
    rw[uK,this];rfl
   have h2:[k].filterMap (No s)=[]:=by
    have:No s k=none:=by unfold No;rw[hc];simp
    rw[uK,this];rfl
   have h3:[k].flatMap (G9 n s)=[]:=by
    have:G9 n s k=[]:=by unfold G9;rw[hc];rfl
    rw[xeq,List.flatMap_nil,wG,this]
   rw[h1,h2,h3,wG,wG]
def Jo(q:List Int->Bool)(x:Option (List Int)):Option (List Int):=match x with
 |some m=>bif q m then some m else none
 |none=>none
theorem tQ(g:Nat->Option (List Int))(q:List Int->Bool):∀l:List Nat,(l.filterMap g).find? q=l.findSome? λa=>Jo q (g a)
 | []=>rfl
 |a::l=>by
  rw[List.filterMap_cons,NV];cases ha:g a with
  |none=>show(l.filterMap g).find? q=l.findSome? λa=>Jo q (g a);exact tQ g q l
  |some m=>
   show(m::l.filterMap g).find? q=_;rw[xhe];cases hq:q m with
   |true=>simp only[Jo,hq,qa]
   |false=>simp only[Jo,hq,qb];exact tQ g q l
theorem D7(g:Nat->List (List Int))(q:List Int->Bool):∀l:List Nat,(l.flatMap g).find? q=l.findSome? λa=>(g a).find? q
 | []=>rfl
 |a::l=>by rw[xeq,xfr,NV,D7 g q l];cases(g a).find? q<;>rfl
theorem V1:∀{l m:List Int},l.Pairwise (· < ·)->m.Pairwise (· < ·)->(∀x,x∈l↔x∈m)->l=m
 | [],[],_,_,_=>rfl
 | [],y::m,_,_,h=>by have:=(h y).2 (by simp);cases this
 |x::l,[],_,_,h=>by have:=(h x).1 (by simp);cases this
 |x::l,y::m,h1,h2,h=>by
  obtain⟨a1,a2⟩:=xbo.1 h1;obtain⟨b1,b2⟩:=xbo.1 h2;have e:x=y:=by
   rcases xaj.1 ((h x).1 (by simp))with e|hx;·exact e
   ·rcases xaj.1 ((h y).2 (by simp))with e|hy;·exact e.symm
    ·have:=b1 x hx;have:=a1 y hy;omega
  subst e;rw[V1 a2 b2 λz=>?_];constructor
  ·intro hz;rcases xaj.1 ((h z).1 (xw _ hz))with e|aa;·have:=a1 z hz;omega
   ·exact aa
  ·intro hz;rcases xaj.1 ((h z).2 (xw _ hz))with e|aa;·have:=b1 z hz;omega
   ·exact aa
theorem D8{n:Nat}{s:List Int}(h:ris n s):s=((List.range n).filter λa:Nat=>s.contains (a:Int)).map λa:Nat=>(a:Int):=by
 refine V1 h.2 ?_ λx=>?_;·rw[List.pairwise_map];exact(List.pairwise_lt_range.filter _).imp λh=>by omega
 ·constructor;·intro hx;have hb:=h.1 x hx;refine xak.2 ⟨x.toNat,xap.2 ⟨xau.2 (by omega),?_⟩,by omega⟩;rw[show((x.toNat:Nat):Int)=x by omega];exact xck.2 hx
  ·intro hx;obtain⟨a,ha,rfl⟩:=xak.1 hx;exact xck.1 (xap.1 ha).2
theorem fF{α:Type}(p:Nat->Bool)(h:Int->Option α):∀l:List Nat,((l.filter p).map λa:Nat=>(a:Int)).findSome? h=l.findSome? λa=>if p a then h (a:Int)else none
 | []=>rfl
 |a::l=>by
  rw[EE,NV];cases hp:p a with
  |true=>
   simp only[if_true,v9,NV];cases h (a:Int)with
   |some m=>rfl
   |none=>exact fF p h l
  |false=>simp only[rU,if_false];exact fF p h l
theorem A5{s:List Int}(hp:s.Pairwise (· < ·)){a:Int}(ha:a∈s):(wo s a).length+1=s.length:=by
 induction s with
 |nil=>cases ha
 |cons x s ih=>
  obtain⟨h1,h2⟩:=xbo.1 hp;unfold wo;rw[EE];by_cases e:x=a
  ·subst e;have hf:s.filter (λy=>y !=x)=s:=xga.2 λy hy=>by have:=h1 y hy;simp;omega
   simp[hf]
  ·have hm:a∈s:=by
    rcases xaj.1 ha with h|h;·exact absurd h.symm e
    ·exact h
   have hb:(x !=a)=true:=by simpa using e
   have:=ih h2 hm;unfold wo at this;rw[hb,qi rfl,xl,xl,this]
def opB(t:List Int->Bool)(s:List Int)(a:Nat):Option (List Int):=Jo t (Wz s a)
def EK(t:List Int->Bool)(s:List Int)(x:Int):Option (List Int):=if 1<s.length then Jo t (some (wo s x))else none
def AK(t:List Int->Bool)(n:Nat)(s:List Int)(x:Int):Option (List Int):=(List.range n).findSome? λb=>Jo t (Tu s (wo s x) b)
theorem I8{n:Nat}{s:List Int}(h:ris n s)(t:List Int->Bool):(dY n s).find? t=(((List.range n).findSome? (opB t s)).or (s.findSome? (EK t s))).or (s.findSome? (AK t n s)):=by
 have e:=Rl n s n;have h2:s.findSome? (EK t s)=(List.range n).findSome? λa=>Jo t (No s a):=by
  have h0:=fF (λa:Nat=>s.contains (a:Int)) (EK t s) (List.range n);rw[<-D8 h]at h0;rw[h0];congr 1;funext a;unfold EK No;cases hc:s.contains (a:Int)with
  |false=>simp[Jo]
  |true=>
   have hl:=A5 h.2 (xck.1 hc);by_cases h1:1<s.length;·rw[qi rfl,qi h1,qi ⟨rfl,by omega⟩]
   ·rw[qi rfl,qh h1,qh (by omega)];rfl
 have h3:s.findSome? (AK t n s)=(List.range n).findSome? λa=>(G9 n s a).find? t:=by
  have h0:=fF (λa:Nat=>s.contains (a:Int)) (AK t n s) (List.range n);rw[<-D8 h]at h0;rw[h0];congr 1;funext a;unfold AK G9;cases hc:s.contains (a:Int)with
  |false=>simp
  |true=>rw[qi rfl,qi rfl,tQ]
 unfold dY Am;rw[e,xfr,xfr,tQ,tQ,D7,h2,h3];rfl
def L2(o:List Int)(ds:List (List Int))(T:Int)(m:List Int):Bool:=decide (dC o ds m<T)
theorem rE{o m:List Int}{ds:List (List Int)}(hf:Fld o ds)(hm:ris o.length m)(h0:m≠ [])(T:Int):
  Lz m o ds T=some (bif L2 o ds T m then .inr (m,o,ds,T)else .inl (m,o,ds,T)):=by
 have hp:=xay.2 h0;have e:Nz o ds m=some (dC o ds m):=sQ hf (hm.places hf.len) hp;unfold Lz LW L2;rw[qn,e,xc,qo,qp,qc hp,qa];cases decide (dC o ds m<T)<;>rfl
theorem Qp(x:Int)(l:List Int):ins x l≠ []:=λe=>by have:=oM x l;rw[e]at this;simp at this
theorem FU{o s:List Int}{ds:List (List Int)}(hf:Fld o ds)(hs:ris o.length s)(T:Int):
  aDV (s,(bits s:Int),((o.length:Nat):Int),((o.length:Nat):Int)) (0,o,ds,T)=some (((List.range o.length).findSome? (opB (L2 o ds T) s)).elim (.inl (o,ds,T)) λm=>.inr (o,ds,T,m)):=by
 have h7:=hf.len;have h:=mD (f:=λv=>(wya (s,(bits s:Int),((o.length:Nat):Int),((o.length:Nat):Int)) v).ev) (n:=o.length) (opB (L2 o ds T) s) (λi=>((i:Int),o,ds,T)) (λm=>.inr (o,ds,T,m)) (.inl (o,ds,T))
  (λi hi=>by
   have e1:=gX h7 hs (a:=(i:Int)) (by omega) (by omega);have aa:(i:Int)<((o.length:Nat):Int):=by omega
   have hw:IntKind.wrap .i64 ((i:Int)+1)=((i+1:Nat):Int):=by rw[aV (by omega) (by omega)];rfl
   unfold opB Wz wya;dsimp only;rw[qo,qc aa,qa,qn,e1,xc,qo,hw];cases hc:s.contains (i:Int)with
   |true=>rfl
   |false=>
    have hn:=bZ hc;have e2:=A6 h7 hs (a:=(i:Int)) (by omega) (by omega) hn;unfold DY at e2;have e3:=rE hf (hs.ins (a:=(i:Int)) (by omega) (by omega) hn) (Qp _ _) T;have g0:(0:Int)<=(i:Int):=by omega
    rw[mM,qa,qp,qc g0,qa,qn,e2,xc,qn,e3,xc];simp only[rU,if_false,Jo];cases L2 o ds T (ins (i:Int) s)<;>rfl)
  (by
   have aa:¬((o.length:Nat):Int)<((o.length:Nat):Int):=by omega
   unfold wya;dsimp only;rw[qo,qd aa,qb,qq])
 exact h
theorem qF{α:Type}(h:Int->Option α)(s:List Int):(List.range s.length).findSome? (λi=>h (s.getD i 0))=s.findSome? h:=by
 induction s with
 |nil=>rfl
 |cons x s ih=>
  rw[xl,xfp,NV,NV,List.findSome?_map];cases hx:h x with
  |some m=>simp[hx]
  |none=>have h1:h ((x::s).getD 0 0)=none:=hx;rw[h1];exact ih
theorem SO{o s:List Int}{ds:List (List Int)}(hf:Fld o ds)(hs:ris o.length s)(T:Int):
  aBh (s,(bits s:Int),((o.length:Nat):Int),s,((s.length:Nat):Int)) (0,o,ds,T)=some ((s.findSome? (EK (L2 o ds T) s)).elim (.inl (o,ds,T)) λm=>.inr (o,ds,T,m)):=by
 have h7:=hf.len;have ae:=hs.len;rw[<-qF];have h:=mD (f:=λv=>(wyb (s,(bits s:Int),((o.length:Nat):Int),s,((s.length:Nat):Int)) v).ev) (n:=s.length) (λi=>EK (L2 o ds T) s (s.getD i 0)) (λi=>((i:Int),o,ds,T)) (λm=>.inr (o,ds,T,m)) (.inl (o,ds,T))
  (λi hi=>by
   have aa:(i:Int)<((s.length:Nat):Int):=by omega
   have hw:IntKind.wrap .i64 ((i:Int)+1)=((i+1:Nat):Int):=by rw[aV (by omega) (by omega)];rfl
   have ad:=gF hi;have hm:=aE (d:=0) hi;have hb:=hs.1 _ hm;unfold EK wyb;dsimp only;rw[qo,qc aa,qa,qp,ad,qa,qo,hw,mZ];by_cases h1:1<s.length
   ·have ab:(1:Int)<((s.length:Nat):Int):=by omega
    have e2:=D6 h7 hs hb.1 (by omega);unfold YS at e2;have hl:=A5 hs.2 hm;have e3:=rE hf (hs.wo (s.getD i 0)) (xay.1 (by omega)) T;rw[qc ab,qa,qp,qc hb.1,qa,qn,e2,xc,qn,e3,xc,qi h1];simp only[Jo];cases L2 o ds T (wo s (s.getD i 0))<;>rfl
   ·have ab:¬(1:Int)<((s.length:Nat):Int):=by omega
    rw[qd ab,qb,qh h1];rfl)
  (by
   have aa:¬((s.length:Nat):Int)<((s.length:Nat):Int):=by omega
   unfold wyb;dsimp only;rw[qo,qd aa,qb,qq])
 exact h
theorem HK{o s:List Int}{ds:List (List Int)}(hf:Fld o ds)(hs:ris o.length s)(T:Int){a:Int}(ha:a∈s)(k:(List (Int))×(Int)×(Int)×(Int)×(List (Int))×(Int)×(Int)×(Int))(k1:k.1=s)(k2:k.2.1=(bits s:Int))(k3:k.2.2.2.1=a)(k4:k.2.2.2.2.2.2.2=((o.length:Nat):Int)):
  aGy k (0,o,ds,T)=some ((AK (L2 o ds T) o.length s a).elim (.inl (o,ds,T)) λm=>.inr (o,ds,T,m)):=by
 have h7:=hf.len;have ab:=hs.1 a ha;have h:=mD (f:=λv=>(wyc k v).ev) (n:=o.length) (λb=>Jo (L2 o ds T) (Tu s (wo s a) b)) (λi=>((i:Int),o,ds,T)) (λm=>.inr (o,ds,T,m)) (.inl (o,ds,T))
  (λi hi=>by
   have e1:=gX h7 hs (a:=(i:Int)) (by omega) (by omega);have aa:(i:Int)<((o.length:Nat):Int):=by omega
   have hw:IntKind.wrap .i64 ((i:Int)+1)=((i+1:Nat):Int):=by rw[aV (by omega) (by omega)];rfl
   unfold Tu wyc;dsimp only;rw[k1,k2,k3,k4,qo,qc aa,qa,qn,e1,xc,qo,hw];cases hc:s.contains (i:Int)with
   |true=>rfl
   |false=>have hn:=bZ hc;have e2:=zA h7 hs (a:=a) (b:=(i:Int)) (by omega) (by omega) (by omega) (by omega) hn;have e3:=rE hf ((hs.wo a).ins (a:=(i:Int)) (by omega) (by omega) (jY hn)) (Qp _ _) T;rw[mM,qa,qn,e2,xc,qn,e3,xc];simp only[rU,if_false,Jo];cases L2 o ds T (ins (i:Int) (wo s a))<;>rfl)
  (by
   have aa:¬((o.length:Nat):Int)<((o.length:Nat):Int):=by omega
   unfold wyc;dsimp only;rw[k4,qo,qd aa,qb,qq])
 exact h
theorem LV{o s:List Int}{ds:List (List Int)}(hf:Fld o ds)(hs:ris o.length s)(T:Int):
  aHc (s,(bits s:Int),((o.length:Nat):Int),s,((s.length:Nat):Int)) (0,o,ds,T)=some ((s.findSome? (AK (L2 o ds T) o.length s)).elim (.inl (o,ds,T)) λm=>.inr (o,ds,T,m)):=by
 have h7:=hf.len;have ad:=hs.len;rw[<-qF];have h:=mD (f:=λv=>(wye (s,(bits s:Int),((o.length:Nat):Int),s,((s.length:Nat):Int)) v).ev) (n:=s.length) (λi=>AK (L2 o ds T) o.length s (s.getD i 0)) (λi=>((i:Int),o,ds,T)) (λm=>.inr (o,ds,T,m)) (.inl (o,ds,T))
  (λi hi=>by
   have aa:(i:Int)<((s.length:Nat):Int):=by omega
   have hw:IntKind.wrap .i64 ((i:Int)+1)=((i+1:Nat):Int):=by rw[aV (by omega) (by omega)];rfl
   have ab:=gF hi;have hm:=aE (d:=0) hi;have e1:=HK hf hs T hm (s,(bits s:Int),((o.length:Nat):Int),(s.getD i 0),s,((s.length:Nat):Int),(i:Int),((o.length:Nat):Int)) rfl rfl rfl rfl;unfold wye;dsimp only;rw[qo,qc aa,qa,qp,ab,qa,qn,hw,mZ,e1,xc];cases AK (L2 o ds T) o.length s (s.getD i 0)<;>rfl)
  (by
   have aa:¬((s.length:Nat):Int)<((s.length:Nat):Int):=by omega
   unfold wye;dsimp only;rw[qo,qd aa,qb,qq])
 exact h
theorem Vi{o s:List Int}{ds:List (List Int)}(hf:Fld o ds)(hs:ris o.length s)(T:Int):
  Wo o ds s o ds T=some (((dY o.length s).find? (L2 o ds T)).elim (.inl (o,ds,T)) λm=>.inr (o,ds,T,m)):=by
 have h7:=hf.len;have e0:=zE h7 hs;have e1:=FU hf hs T;have e2:=SO hf hs T;have e3:=LV hf hs T;rw[I8 hs];unfold Wo PY;rw[qn,e0,xc,qn,e1,xc];cases(List.range o.length).findSome? (opB (L2 o ds T) s)with
 |some m=>rfl
 |none=>
  simp only[Option.elim_none,V2,qn];rw[e2,xc];cases s.findSome? (EK (L2 o ds T) s)with
  |some m=>rfl
  |none=>simp only[Option.elim_none,V2,qn];rw[e3,xc];cases s.findSome? (AK (L2 o ds T) o.length s)<;>rfl
theorem rL{o s:List Int}{ds:List (List Int)}(hf:Fld o ds)(hs:ris o.length s)(h0:s≠ []):CS o ds s=some (match aP o ds s with|some m=>(true,m)|none=>(false,[])):=by
 have h7:=hf.len;have e:Nz o ds s=some (dC o ds s):=sQ hf (hs.places h7) (xay.2 h0);have e1:=Vi hf hs (dC o ds s);have e2:(dY o.length s).find? (L2 o ds (dC o ds s))=aP o ds s:=rfl;rw[e2]at e1;unfold CS VH;rw[qn,e,xc,qn,e1,xc];cases hb:aP o ds s with
 |none=>rfl
 |some m=>have hp:=xay.2 (dF hs hb).2.1;simp only[Option.elim_some,Ud,qp];rw[qc hp];rfl
theorem Sp{o:List Int}{ds:List (List Int)}(hf:Fld o ds):∀(m:Nat) {s:List Int} (many:Int),0<=many->many+(m:Int)<=1000000000->ris o.length s->s≠ []->dC o ds s<=(m:Int)->
  wyh (o,ds) (many,s)=some (many+((lC o ds m s).1:Int),(lC o ds m s).2):=by
 have out:∀{s:List Int} (many:Int),ris o.length s->s≠ []->aP o ds s=none->wyh (o,ds) (many,s)=some (many,s):=λ{s} many hs h0 hb=>by have e1:=rL hf hs h0;rw[hb]at e1;unfold wyh;rw[aL];unfold wyg;dsimp only;rw[qn,e1];rfl
 intro m;induction m with
 |zero=>
  intro s many h1 h2 hs h0 ht;have hb:aP o ds s=none:=by
   cases hb:aP o ds s with
   |none=>rfl
   |some t=>obtain⟨a,b,c⟩:=dF hs hb;have:=uQ hf a b;omega
  rw[out many hs h0 hb];simp[lC]
 |succ m ih=>
  intro s many h1 h2 hs h0 ht;cases hb:aP o ds s with
  |none=>rw[out many hs h0 hb];simp[lC,hb]
  |some t=>
   obtain⟨a,b,c⟩:=dF hs hb;have e1:=rL hf hs h0;rw[hb]at e1;have hw:IntKind.wrap .i64 (many+1)=many+1:=aV (by omega) (by omega);have aa:=ih (s:=t) (many+1) (by omega) (by omega) a b (by omega);unfold wyh at aa⊢;rw[aL];have ab:(wyg (o,ds) (many,s)).ev=some (.inl (many+1,t)):=by unfold wyg;dsimp only;rw[qn,e1,xc,qo,hw];rfl
   rw[ab];simp only;rw[aa];simp only[lC,hb,xf,Ky,ql];omega
theorem Mo{o:List Int}{ds:List (List Int)}(ho:aF o)(hd:cT ds){s:List Int}(hs:aF s):TC o ds s=some (bif dT o ds s then(((mV o ds s).1:Int),true,(mV o ds s).2)else(0,false,[])):=by
 have e1:=kY ho hd hs;unfold TC NX;rw[qn,e1,xc,qo];cases hb:dT o ds s with
 |false=>rfl
 |true=>
  obtain⟨hf,hp,h0⟩:=pK hs hb;have hr:ris o.length s:=by unfold dT at hb;simp only[xi]at hb;exact ris_iff.1 hb.2.1
  have aa:s≠ []:=xay.1 h0;have e2:Tc s=some s:=by unfold aF at hs;unfold Tc qQ;rw[qi (by omega)]
  have e4:=Sp hf 103809717 (s:=s) 0 (by omega) (by omega) hr aa (uQ hf hr aa).2;rw[xq,qb,qn,e2,xc,qn,e4,xc,qq,qa,Int.zero_add];rfl
theorem Tm{o:List Int}{ds:List (List Int)}(ho:aF o)(hd:cT ds)(hf:Fld o ds):XK o ds=some (true,oA o ds):=by
 have hS:=nS hf.pos hf.len;have hl:=jG hS hf.len;have aa:=xD hf.pos hf.len;obtain⟨x,e1,e2,e3⟩:=hS.im;have af:x.1.length=(aM o.length).length:=by rw[<-e3,gY]
 have ae:=xay.2 aa;have e4:=vG (x:=x) e2 (by omega) (by omega) (p:=λab=>Option.bind (Nz o ds ab.1) λad=>some ad) (g:=dC o ds) (λs hs=>by rw[e3]at hs;obtain⟨a,b⟩:=yT hf.pos hf.len hs;have e:Nz o ds s=some (dC o ds s):=sQ hf (a.places hf.len) (xay.2 b);show Option.bind (Nz o ds s) (λy=>some y)=_;rw[e];rfl);unfold XK IU;rw[qn,cH ho hd,fieldB_iff.2 hf,xc,qo,xq,qb,qn,e1,xc,qn,e4,xc,qq,e3];rfl
section
variable {n:Nat}{s:List Int}
end
section
variable {o:List Int}{ds:List (List Int)}
def CO(o:List Int)(ds:List (List Int))(s:List Int):Bool×Bool:=bif dT o ds s then(!(aP o ds s).isSome,true)else(false,false)
theorem P6{s:List Int}(ho:aF o)(hd:cT ds)(hs:aF s):NO o ds s=some (CO o ds s):=by
 unfold NO SZ CO;rw[qn,yR ho hd hs,xc,qo];cases hb:dT o ds s with
 |false=>rfl
 |true=>
  obtain⟨hf,hp,h0⟩:=pK hs hb;have hr:ris o.length s:=by unfold dT at hb;simp only[xi]at hb;exact ris_iff.1 hb.2.1
  rw[xq,qb,qn,rQ hf hr (xay.1 h0),xc,qq];cases aP o ds s<;>rfl
theorem R1{s:List Int}(ho:aF o)(hd:cT ds)(hs:aF s):NG o ds s=some (CO o ds s):=by
 unfold NG KP CO;rw[qn,kY ho hd hs,xc,qo];cases hb:dT o ds s with
 |false=>rfl
 |true=>
  obtain⟨hf,hp,h0⟩:=pK hs hb;have hr:ris o.length s:=by unfold dT at hb;simp only[xi]at hb;exact ris_iff.1 hb.2.1
  rw[xq,qb,qn,rL hf hr (xay.1 h0),xc,qq];cases aP o ds s<;>rfl
end
section
variable {o:List Int}{ds:List (List Int)}
def Er(ds:List (List Int))(i j a n:Nat):Bool:=(List.range n).all λb=> !decide (at2 ds i b+at2 ds j b+at2 ds j a<at2 ds i a)
def Bw(ds:List (List Int))(i j n:Nat):Bool:=(List.range n).all λa=>Er ds i j a n
def Bh(ds:List (List Int))(i n:Nat):Bool:=(List.range ds.length).all λj=>Bw ds i j n
def T2(ds:List (List Int))(n:Nat):Bool:=(List.range ds.length).all λi=>Bh ds i n
theorem aAn(hf:Fld o ds){i j a:Nat}(hi:i<ds.length)(hj:j<ds.length)(ha:a<o.length)(k:(List (Int))×(List (Int))×(Int)×(List (List (Int)))×(Int)×(Int)×(List (List (Int)))×(Int)×(Int)×(Int)×(Int)×(Int)×(List (Int))×(List (List (Int))))
  (k1:k.1=ds.getD i []) (k2:k.2.1=ds.getD j []) (k3:k.2.2.1=(a:Int)) (k4:k.2.2.2.2.2.2.2.2.2.2.2.1=(o.length:Int)):aAf k 0=some (bif Er ds i j a o.length then .inl ()else .inr ()):=by
 have ho:=hf.len;have ae:=hf.rowLen i hi;have af:=hf.rowLen j hj;have h:=aX (f:=λv=>(wyo k v).ev) (n:=o.length) (mk:=λb=>(b:Int)) (p:=λb=> !decide (at2 ds i b+at2 ds j b+at2 ds j a<at2 ds i a)) (yes:=.inl ()) (no:=.inr ())
  (λb hb _=>by
   have v1:=hf.at2 hi hb;have v2:=hf.at2 hj hb;have v3:=hf.at2 hj ha;have v4:=hf.at2 hi ha;unfold at2 at v1 v2 v3 v4⊢;have aa:(b:Int)<(o.length:Int):=by omega
   have g1:aB (a:Int) (ds.getD i []).length=true:=bM (by omega) (by omega);have g2:aB (b:Int) (ds.getD i []).length=true:=bM (by omega) (by omega);have g3:aB (b:Int) (ds.getD j []).length=true:=bM (by omega) (by omega);have g4:aB (a:Int) (ds.getD j []).length=true:=bM (by omega) (by omega);have hw:IntKind.wrap .i64 ((b:Int)+1)=((b+1:Nat):Int):=by rw[aV (by omega) (by omega)];rfl
   have ab:IntKind.wrap .i64 ((ds.getD i []).getD b 0+(ds.getD j []).getD b 0)=(ds.getD i []).getD b 0+(ds.getD j []).getD b 0:=aV (by omega) (by omega);have ad:IntKind.wrap .i64 ((ds.getD i []).getD b 0+(ds.getD j []).getD b 0+(ds.getD j []).getD a 0)=(ds.getD i []).getD b 0+(ds.getD j []).getD b 0+(ds.getD j []).getD a 0:=aV (by omega) (by omega);unfold wyo;rw[k1,k2,k3,k4,qo,qc aa,qa,qp,g1,qa,qp,g2,qa,qp,g3,qa,qp,g4,qa,qo,hw];simp only[mZ,ab,ad];cases decide ((ds.getD i []).getD b 0+(ds.getD j []).getD b 0+(ds.getD j []).getD a 0<(ds.getD i []).getD a 0)<;>rfl)
  (by
   have aa:¬(o.length:Int)<(o.length:Int):=by omega
   unfold wyo;rw[k4,qo,qd aa,qb,qq])
 exact h
theorem aFF(hf:Fld o ds){i j:Nat}(hi:i<ds.length)(hj:j<ds.length)(k:(List (Int))×(List (Int))×(List (List (Int)))×(Int)×(Int)×(List (List (Int)))×(Int)×(Int)×(Int)×(List (Int))×(List (List (Int))))
  (k1:k.1=ds.getD i []) (k2:k.2.1=ds.getD j []) (k3:k.2.2.2.2.2.2.2.2.1=(o.length:Int)) (k4:k.2.2.2.2.2.2.2.2.2.1=o):aFi k 0=some (bif Bw ds i j o.length then .inl ()else .inr ()):=by
 have ho:=hf.len;have h:=aX (f:=λv=>(wyp k v).ev) (n:=o.length) (mk:=λb=>(b:Int)) (p:=λa=>Er ds i j a o.length) (yes:=.inl ()) (no:=.inr ())
  (λa ha _=>by
   have aa:(a:Int)<(o.length:Int):=by omega
   have hw:IntKind.wrap .i64 ((a:Int)+1)=((a+1:Nat):Int):=by rw[aV (by omega) (by omega)];rfl
   unfold wyp;rw[k3,qo,qc aa,qa,qn,aAn hf hi hj ha _ k1 k2 rfl (by rw[k4]),xc,hw];cases Er ds i j a o.length<;>rfl)
  (by
   have aa:¬(o.length:Int)<(o.length:Int):=by omega
   unfold wyp;rw[k3,qo,qd aa,qb,qq])
 exact h
theorem aHE(hf:Fld o ds){i:Nat}(hi:i<ds.length)(k:(List (Int))×(List (List (Int)))×(Int)×(Int)×(List (List (Int)))×(Int)×(List (Int))×(List (List (Int))))
  (k1:k.1=ds.getD i []) (k2:k.2.2.2.2.1=ds) (k3:k.2.2.2.2.2.1=(ds.length:Int)) (k4:k.2.2.2.2.2.2.1=o):aAU k 0=some (bif Bh ds i o.length then .inl ()else .inr ()):=by
 have hc:=hf.clients;have h:=aX (f:=λv=>(wyr k v).ev) (n:=ds.length) (mk:=λb=>(b:Int)) (p:=λj=>Bw ds i j o.length) (yes:=.inl ()) (no:=.inr ())
  (λj hj _=>by
   have aa:(j:Int)<(ds.length:Int):=by omega
   have hw:IntKind.wrap .i64 ((j:Int)+1)=((j+1:Nat):Int):=by rw[aV (by omega) (by omega)];rfl
   have g1:=gF hj;unfold wyr;rw[k3,qo,qc aa,qa,qp,k2,g1,qa,qn,aFF hf hi hj _ k1 (by dsimp only;rw[mZ]) (by dsimp only;rw[k4]) k4,xc,hw];cases Bw ds i j o.length<;>rfl)
  (by
   have aa:¬(ds.length:Int)<(ds.length:Int):=by omega
   unfold wyr;rw[k3,qo,qd aa,qb,qq])
 exact h
theorem AT(ho:aF o)(hd:cT ds):AX o ds=some (bif fI o ds then(T2 ds o.length,true)else(false,false)):=by
 unfold AX UJ;rw[qn,cH ho hd,xc,qo];cases hb:fI o ds with
 |false=>rfl
 |true=>
  have hf:=fieldB_iff.1 hb;have hc:=hf.clients;have h:=aX (f:=λv=>(wyt (ds,((ds.length:Nat):Int),o,ds) v).ev) (n:=ds.length) (mk:=λb=>(b:Int)) (p:=λi=>Bh ds i o.length) (yes:=.inl ()) (no:=.inr ())
   (λi hi _=>by
    have aa:(i:Int)<(ds.length:Int):=by omega
    have hw:IntKind.wrap .i64 ((i:Int)+1)=((i+1:Nat):Int):=by rw[aV (by omega) (by omega)];rfl
    have g1:=gF hi;unfold wyt;dsimp only;rw[qo,qc aa,qa,qp,g1,qa,qn,aHE hf hi _ (by dsimp only;rw[mZ]) rfl rfl rfl,xc,hw];cases Bh ds i o.length<;>rfl)
   (by
    have aa:¬(ds.length:Int)<(ds.length:Int):=by omega
    unfold wyt;dsimp only;rw[qo,qd aa,qb,qq])
  have h1:aDS (ds,((ds.length:Nat):Int),o,ds) 0=some (bif T2 ds o.length then .inl ()else .inr ()):=h;rw[xq,qb,qn,h1,xc,qa];cases T2 ds o.length<;>rfl
def eC(o:List Int):Nat:=(List.range (o.length-1)).foldl (λb k=>if o.getD (k+1) 0<o.getD b 0 then k+1 else b) 0
theorem vL(hp:1<=o.length):eC o<o.length/\(∀i,i<o.length->o.getD (eC o) 0<=o.getD i 0)/\∀i,i<eC o->o.getD (eC o) 0<o.getD i 0:=by
 have key:∀k,k+1<=o.length->(List.range k).foldl (λb k=>if o.getD (k+1) 0<o.getD b 0 then k+1 else b) 0<=k/\(∀i,i<=k->o.getD ((List.range k).foldl (λb k=>if o.getD (k+1) 0<o.getD b 0 then k+1 else b) 0) 0<=o.getD i 0)/\
   ∀i,i<(List.range k).foldl (λb k=>if o.getD (k+1) 0<o.getD b 0 then k+1 else b) 0->o.getD ((List.range k).foldl (λb k=>if o.getD (k+1) 0<o.getD b 0 then k+1 else b) 0) 0<o.getD i 0:=by
  intro k;induction k with
  |zero=>
   intro _;refine⟨xp _,λi hi=>?_,λi hi=>absurd hi (by simp)⟩;have:i=0:=by omega
   subst this;exact w7 _
  |succ k ih=>
   intro hk;obtain⟨i1,i2,i3⟩:=ih (by omega);rw[aR];generalize(List.range k).foldl (λb k=>if o.getD (k+1) 0<o.getD b 0 then k+1 else b) 0=b at i1 i2 i3;by_cases aa:o.getD (k+1) 0<o.getD b 0
   ·rw[qi aa];refine⟨xp _,λi hi=>?_,λi hi=>?_⟩
    ·by_cases e:i=k+1;·subst e;exact w7 _
     ·have:=i2 i (by omega);omega
    ·have:=i2 i (by omega);omega
   ·rw[qh aa];refine⟨by omega,λi hi=>?_,i3⟩;by_cases e:i=k+1;·subst e;omega
    ·exact i2 i (by omega)
 obtain⟨a,b,c⟩:=key (o.length-1) (by omega);exact⟨by unfold eC;omega,λi hi=>b i (by omega),c⟩
theorem CT{l:List Int}(h0:0<l.length)(hl:l.length<=1000):Ju l=some (l.getD (eC l) 0):=by
 have h:=(aK (f:=λv=>(Zg l v).ev) (n:=l.length-1) (mk:=λk (b:Nat)=>(l.getD b 0,((k+1:Nat):Int))) (I:=λk b=>b<=k) (g:=λb k=>if l.getD (k+1) 0<l.getD b 0 then k+1 else b) (fin:=λb=>l.getD b 0) (s0:=0) (xp _)
  (λk b hk hb=>by
   have aa:((k+1:Nat):Int)<((l.length:Nat):Int):=by omega
   have g1:aB ((k+1:Nat):Int) l.length=true:=gF (by omega);have hw:IntKind.wrap .i64 (((k+1:Nat):Int)+1)=((k+1+1:Nat):Int):=by rw[aV (by omega) (by omega)];rfl
   refine⟨?_,by split<;>omega⟩;have ab:(if l.getD (k+1) 0<l.getD b 0 then l.getD (k+1) 0 else l.getD b 0)=l.getD (if l.getD (k+1) 0<l.getD b 0 then k+1 else b) 0:=by split<;>rfl
   unfold Zg;dsimp only;rw[qo,qc aa,qa,qp,g1,qa,hw,mZ,ab];rfl)
  (λb _=>by
   have aa:¬((l.length-1+1:Nat):Int)<((l.length:Nat):Int):=by omega
   unfold Zg;dsimp only;rw[qo,qd aa,qb,qq])).1
 have h1:KI l (l.getD 0 0,1)=some (l.getD (eC l) 0):=h;have hn:¬((l.length:Nat):Int)<1:=by omega
 have g0:aB (0:Int) l.length=true:=bM (by omega) (by omega);unfold Ju Xl;rw[qo,qd hn,qb,qp,g0,qa,qn,show Int.toNat 0=0 from rfl,h1,xc,qq]
theorem Mm(hf:Fld o ds):PU o ds=some (eC o:Int):=by
 have hp:=hf.pos;have h7:=hf.len;obtain⟨c1,c2,c3⟩:=vL hp;have e1:=CT (l:=o) (by omega) (by omega);have h:=fM (f:=λv=>(wyu (o,o.getD (eC o) 0,((o.length:Nat):Int)) v).ev) (l:=o) 0 (λy=>o.getD (eC o) 0==y) (mk:=λi=>(i:Int)) (yes:=λi=>.inr (i:Int)) (no:=.inl ())
  (λi hi=>by simp(disch:=omega)only[EV,wyu,hi];cases(o.getD (eC o) 0==o.getD i 0)<;>rfl)
  (by simp(disch:=omega)only[EV,wyu,xj])
 have h1:aGL (o,o.getD (eC o) 0,((o.length:Nat):Int)) 0=_:=h;have aa:(o.findIdx? λy=>o.getD (eC o) 0==y)=some (eC o):=by
  rw[xdd];have hg:∀i (hi:i<o.length),o[i]=o.getD i 0:=λi hi=>by rw[xe,xh hi];rfl
  refine⟨c1,by rw[hg _ c1];exact qj _,λi hi=>?_⟩;rw[hg _ (by omega)];have:=c3 i hi;intro h;have:=eq_of_beq h;omega
 rw[aa]at h1;unfold PU RK aAc VB;rw[qn,e1,xc,qn,qn,h1];rfl
theorem Mg(hf:Fld o ds):QF o ds=some (eC o:Int):=by
 have hp:=hf.pos;have h7:=hf.len;have h:=(aK (f:=λv=>(wwo (o,ds) v).ev) (n:=o.length-1) (mk:=λk (b:Nat)=>((b:Int),((k+1:Nat):Int))) (I:=λk b=>b<=k) (g:=λb k=>if o.getD (k+1) 0<o.getD b 0 then k+1 else b) (fin:=λb=>(b:Int)) (s0:=0) (xp _)
  (λk b hk hb=>by
   have aa:((k+1:Nat):Int)<((o.length:Nat):Int):=by omega
   have g1:aB ((k+1:Nat):Int) o.length=true:=gF (by omega);have g2:aB (b:Int) o.length=true:=gF (by omega);have hw:IntKind.wrap .i64 (((k+1:Nat):Int)+1)=((k+1+1:Nat):Int):=by rw[aV (by omega) (by omega)];rfl
   refine⟨?_,by split<;>omega⟩;unfold wwo;dsimp only;simp only[mZ];rw[qo,qc aa,qa,qp,g1,qa,qp,g2,qa,qo,hw];by_cases hc:o.getD (k+1) 0<o.getD b 0;·rw[qc hc,qa,qi hc];rfl
   ·rw[qd hc,qb,qh hc];rfl)
  (λb _=>by
   have aa:¬((o.length-1+1:Nat):Int)<((o.length:Nat):Int):=by omega
   unfold wwo;dsimp only;rw[qo,qd aa,qb,qq])).1
 have h1:aHk (o,ds) (0,1)=some (eC o:Int):=h;unfold QF WC;rw[qn,h1,xc,qq]
end
section
variable {o:List Int}{ds:List (List Int)}{p tm w:List Int}{now:Int}
def JI(now x t:Int):Int:=if now<t/\(x<0\/t<x)then t else x
theorem NXT.add{C:Int->Prop}{x:Int}(h0:0<=now)(h:NXT now C x)(t:Int):NXT now (λu=>C u\/u=t) (JI now x t):=by
 unfold JI;by_cases h1:now<t/\(x<0\/t<x)
 ·rw[qi h1];refine .inr ⟨.inr rfl,h1.1,λu hu hn=>?_⟩;rcases hu with hu|rfl
  ·rcases h with⟨_,h⟩|⟨_,h,c⟩
   ·exact absurd hn (h u hu)
   ·have:=c u hu hn;rcases h1.2 with h2|h2<;>omega
  ·exact w7 _
 ·rw[qh h1];rcases h with⟨a,b⟩|⟨a,b,c⟩
  ·refine .inl ⟨a,λu hu=>?_⟩;rcases hu with hu|rfl;·exact b u hu
   ·exact λh2=>h1 ⟨h2,.inl (by omega)⟩
  ·refine .inr ⟨.inl a,b,λu hu hn=>?_⟩;rcases hu with hu|rfl;·exact c u hu hn
   ·by_cases h2:u<x;·exact absurd ⟨hn,.inr h2⟩ h1
    ·omega
structure SG(ds:List (List Int))(P W pr:List Int)(st:List Bool)(wi:List Int):Prop where
 pl:pr.length=ds.length
 sl:st.length=ds.length
 wl:wi.length=ds.length
 st:∀i,i<ds.length->st.getD i false= !decide (W.getD i 0<0)
 pr:∀i,i<ds.length->¬W.getD i 0<0->pr.getD i 0=P.getD i 0
theorem It(l:List Bool){i:Nat}(hi:i<l.length)(j:Nat)(v:Bool):(l.set i v).getD j false=if i=j then v else l.getD j false:=by
 rw[xe,xe,EX];by_cases h:i=j;·subst h;simp[hi]
 ·simp[h]
theorem V6(hf:Fld o ds){P W pr wi:List Int}{st:List Bool}(h:SG ds P W pr st wi)(t:Int)(tm:List Int):Ox t pr st wi tm=some (gP ds W P t):=by
 have hm:=hf.clients;have key:aHR (t,pr,st,wi,tm) ((0:Int),([]:List Int))=some ((List.range ds.length).map λi=>if W.getD i 0<0 then t else P.getD i 0):=
  iG (f:=λv=>(ZI (t,pr,st,wi,tm) v).ev) (n:=ds.length) (mk:=λk (l:List Int)=>((k:Int),l)) (λi=>if W.getD i 0<0 then t else P.getD i 0) (λl=>l)
   (λi l hi hl=>by
    have aa:∀x:Int,List.length [x]=1:=λ_=>rfl;have hb:(l.length+1)*8<=140737488355328:=by omega
    have e1:=h.st i hi;have ab:=h.pl;have ad:=h.sl;by_cases c:W.getD i 0<0;·rw[qc c,xq]at e1;simp only[qi c];simp(disch:=omega)only[EV,ZI,hi,ab,ad,e1,aa,hb];rfl
    ·rw[qd c,mM]at e1;have e2:=h.pr i hi c;simp only[qh c];simp(disch:=omega)only[EV,ZI,hi,ab,ad,e1,e2,aa,hb];rfl)
   (λl _=>by simp(disch:=omega)only[EV,ZI,h.pl,xj])
 unfold Ox VD gP;simp(disch:=omega)only[EV,key]
theorem E9(hf:Fld o ds){P:List Int}(hl:P.length=ds.length)(hp:∀i,i<ds.length->0<=P.getD i 0/\P.getD i 0<=498960){a:Nat}(ha:a<o.length):Ev o ds P (a:Int) 2520=some (iQ ds P a):=by
 have ab:=hf.clients;have key:IA (P,(a:Int),(2520:Int),o,ds) ((0:Int),(0:Int))=some (eU ds P a P.length):=by
  obtain⟨r,h1,h2⟩:=aJ (f:=λv=>(EF (P,(a:Int),(2520:Int),o,ds) v).ev) (n:=P.length) (λi (c:Int)=>(c,(i:Int))) (λi c=>c=eU ds P a i) (λr=>r=eU ds P a P.length) (s0:=0) rfl
   (λi c hi hc=>by
    subst hc;left;have aa:i<ds.length:=by omega
    have hr:=hf.rowLen i aa;have h1:=hp i aa;have h2:=hf.at2 aa ha;obtain⟨g1,g2,_⟩:=kU hf (λi hi=>(hp i hi).2) ha i (by omega);obtain⟨g3,g4,_⟩:=kU hf (λi hi=>(hp i hi).2) ha (i+1) (by omega);have e3:(ds.getD i []).getD a 0=at2 ds i a:=rfl;have e4:2520*at2 ds i a=dB ds i a:=EI _ _;have h5:=vC hf aa ha;rw[eU]at g3 g4;refine⟨_,?_,rfl⟩;simp(disch:=omega)only[EV,EF,hi,aa,hr,ha,e3,e4,tU,Ft];rfl)
   (λc hc=>⟨c,by simp(disch:=omega)only[EV,EF,xj],hc⟩)
  exact h1.trans (congrArg some h2)
 unfold Ev Xd iQ;rw[hl]at key;simp(disch:=omega)only[EV,key]
theorem Bo(hf:Fld o ds){P:List Int}(ad:tm.length=o.length)(hl:P.length=ds.length)(hp:∀i,i<ds.length->0<=P.getD i 0/\P.getD i 0<=498960)(ab:∀a,a<o.length->tm.getD a 0<0->iQ ds P a<=kM o a)(pr:List Int)(st:List Bool)(wi:List Int):
  aED (now,pr,st,wi,o,ds,now,(0:Int),P) ((0:Int),tm)=some (gT o ds P tm now):=
 oZ (f:=λv=>(JD (now,pr,st,wi,o,ds,now,(0:Int),P) v).ev) (n:=o.length) (λa=>if tm.getD a 0<0/\kM o a<=iQ ds P a then now else tm.getD a 0) ad (by simp[gT]) (λi hi=>pS hi)
  (λa b ha hb he=>by
   have e1:=E9 hf hl hp ha;have aa:a<b.length:=by omega
   have hc:=hf.cost a ha;have hlen:=hf.len;have e5:2520*o.getD a 0=kM o a:=EI _ _;by_cases c:tm.getD a 0<0
   ·by_cases c2:iQ ds P a=kM o a
    ·have eb:(iQ ds P a==kM o a)=true:=beq_iff_eq.2 c2;refine⟨b.set a now,?_,by simp[hb],λj hj=>?_⟩;·simp(disch:=omega)only[EV,JD,ha,aa,he,c,e1,e5,eb];rfl
     ·rw[cY b aa];by_cases e:a=j;·rw[qi e,qi e,qi ⟨c,by omega⟩]
      ·rw[qh e,qh e]
    ·have eb:(iQ ds P a==kM o a)=false:=beq_eq_false_iff_ne.2 c2;have:=ab a ha c;refine⟨b,?_,hb,λj hj=>?_⟩;·simp(disch:=omega)only[EV,JD,ha,aa,he,c,e1,e5,eb];rfl
     ·by_cases e:a=j;·subst e;rw[qi rfl,he,qh λq=>c2 (by omega)]
      ·rw[qh e]
   ·refine⟨b,?_,hb,λj hj=>?_⟩;·simp(disch:=omega)only[EV,JD,ha,aa,he,c];rfl
    ·by_cases e:a=j;·subst e;rw[qi rfl,he,qh λq=>c q.1]
     ·rw[qh e])
  (λb=>by simp(disch:=omega)only[EV,JD,xj])
theorem zX{T:List Int}{a b:Int}(ha:0<=a/\a<(T.length:Int))(hb:0<=b/\b<(T.length:Int))(aa:b<=a)(n:Int)(pr:List Int)(st:List Bool)(wi:List Int):Xr n pr st wi T a b=some (decide (T.getD a.toNat 0<T.getD b.toNat 0)):=by
 have h1:aB a T.length=true:=bM ha.1 ha.2;have h2:aB b T.length=true:=bM hb.1 hb.2;have h3:decide (a<b)=false:=qd (by omega);unfold Xr VK;rw[qp,h1,qa,qp,h2,qa,qo];cases hq:decide (T.getD a.toNat 0<T.getD b.toNat 0)with
 |true=>rw[qa,qq]
 |false=>
  rw[qb,qp,qa,qp,qa,qo];cases T.getD a.toNat 0==T.getD b.toNat 0 with
  |true=>rw[qa,qq,h3]
  |false=>rw[qb,qq]
theorem Dv(hf:Fld o ds){T W:List Int}(ht:T.length=o.length){i:Nat}(hi:i<ds.length){st:List Bool}(ad:i<st.length)(aa:st.getD i false= !decide (W.getD i 0<0))(pr wi P:List Int):
  aGs (now,(i:Int),pr,st,wi,T,o,ds,now,(0:Int),P) ((-1:Int),(0:Int))=some (if W.getD i 0<0 then gB ds T now i o.length else-1):=by
 have ai:=hf.pos;have hlen:=hf.len;by_cases c:W.getD i 0<0
 ·rw[qi c];rw[qc c,xq]at aa;obtain⟨r,k1,k2⟩:=aJ (f:=λv=>(Po (now,(i:Int),pr,st,wi,T,o,ds,now,(0:Int),P) v).ev) (n:=o.length) (λa (b:Int)=>(b,(a:Int))) (λa b=>b=gB ds T now i a) (λr=>r=gB ds T now i o.length) (s0:= -1) rfl
   (λa b ha hb=>by
    subst hb;left;refine⟨gB ds T now i (a+1),?_,rfl⟩;have hr:=hf.rowLen i hi;have h2:=hf.at2 hi ha;have e3:(ds.getD i []).getD a 0=at2 ds i a:=rfl;have e4:2520*at2 ds i a=dB ds i a:=EI _ _;have ae:a<T.length:=by omega
    have af:=yI (ds:=ds) (tm:=T) (now:=now) (i:=i) a;rw[gB];generalize gB ds T now i a=B at af⊢;by_cases h1:0<=T.getD a 0
    ·by_cases ab:dB ds i a<=now
     ·by_cases h3:B<0;·rw[qi ⟨h1,ab,.inl h3⟩];simp(disch:=omega)only[EV,Po,ha,ae,ad,aa,h1,hi,hr,e3,e4,ab,h3];rfl
      ·have e5:=zX (T:=T) (a:=(a:Int)) (b:=B) (by omega) (by omega) (by omega) now pr st wi;rw[mZ]at e5;by_cases h4:T.getD a 0<T.getD B.toNat 0;·rw[qc h4]at e5;rw[qi ⟨h1,ab,.inr h4⟩];simp(disch:=omega)only[EV,Po,ha,ae,ad,aa,h1,hi,hr,e3,e4,ab,h3,e5];rfl
       ·rw[qd h4]at e5;rw[qh λq=>by rcases q.2.2 with q|q;exact h3 q;exact h4 q];simp(disch:=omega)only[EV,Po,ha,ae,ad,aa,h1,hi,hr,e3,e4,ab,h3,e5];rfl
     ·rw[qh λq=>ab q.2.1];simp(disch:=omega)only[EV,Po,ha,ae,ad,aa,h1,hi,hr,e3,e4,ab];rfl
    ·rw[qh λq=>h1 q.1];simp(disch:=omega)only[EV,Po,ha,ae,ad,aa,h1];rfl)
   (λb hb=>⟨b,by simp(disch:=omega)only[EV,Po,xj],hb⟩)
  rw[<-k2];exact k1
 ·rw[qh c];rw[qd c,mM]at aa;have ah:(Po (now,(i:Int),pr,st,wi,T,o,ds,now,(0:Int),P) ((-1:Int),(0:Int))).ev=some (.inr (-1)):=by
   have h0:(0:Int)<((o.length:Nat):Int):=by omega
   simp(disch:=omega)only[EV,Po,h0,ad,aa]
  refine iter_some.2 ⟨1,?_⟩;simp only[fW,ah]
theorem Av(hf:Fld o ds){T P W:List Int}(ht:T.length=o.length){pr wi:List Int}{st:List Bool}(s:SG ds P W pr st wi){Q:List Int}(hQ:Q.length=ds.length):
  ∃aa ab ad,aAx (now,T,o,ds,now,(0:Int),Q) ((0:Int),pr,st,wi)=some (aa,ab,ad)/\SG ds (gP ds W P now) (gW o ds T W now) aa ab ad:=by
 obtain⟨r,k1,k2,k3,k4,k5⟩:=aJ (f:=λv=>(Xh (now,T,o,ds,now,(0:Int),Q) v).ev) (n:=ds.length) (λi (c:List Int×List Bool×List Int)=>((i:Int),c))
  (λi c=>c.1.length=ds.length/\c.2.1.length=ds.length/\c.2.2.length=ds.length/\∀j,j<ds.length->c.2.1.getD j false=(!decide ((if j<i then(gW o ds T W now).getD j 0 else W.getD j 0)<0))/\(¬(if j<i then(gW o ds T W now).getD j 0 else W.getD j 0)<0->c.1.getD j 0=(gP ds W P now).getD j 0))
  (λc=>c.1.length=ds.length/\c.2.1.length=ds.length/\c.2.2.length=ds.length/\∀j,j<ds.length->c.2.1.getD j false=(!decide ((gW o ds T W now).getD j 0<0))/\(¬(gW o ds T W now).getD j 0<0->c.1.getD j 0=(gP ds W P now).getD j 0)) (s0:=(pr,st,wi))
  ⟨s.pl,s.sl,s.wl,λj hj=>by rw[qh (by omega)];exact⟨s.st j hj,λh=>by rw[fR hj,qh h];exact s.pr j hj h⟩⟩
  (λi c hi ⟨c1,c2,c3,c4⟩=>by
   left;obtain⟨x,y,z⟩:=c;simp only at c1 c2 c3 c4;have ae:=(c4 i hi).1;rw[qh (by omega)]at ae;have e1:=Dv (now:=now) hf ht hi (by omega) ae x z Q;have hm:=hf.clients;have g1:i<x.length:=by omega
   have g2:i<y.length:=by omega
   have g3:i<z.length:=by omega
   have hW:=pH (o:=o) (ds:=ds) (tm:=T) (w:=W) (now:=now) hi;have af:=yI (ds:=ds) (tm:=T) (now:=now) (i:=i) o.length
   -- what stays as it ah
   have stay:(Xh (now,T,o,ds,now,(0:Int),Q) ((i:Int),x,y,z)).ev=some (.inl (((i+1:Nat):Int),x,y,z))->(W.getD i 0<0↔(gW o ds T W now).getD i 0<0)->∃s',(Xh (now,T,o,ds,now,(0:Int),Q) ((i:Int),x,y,z)).ev=some (.inl (((i+1:Nat):Int),s'))/\s'.1.length=ds.length/\s'.2.1.length=ds.length/\s'.2.2.length=ds.length/\∀j,j<ds.length->s'.2.1.getD j false=(!decide ((if j<i+1 then(gW o ds T W now).getD j 0 else W.getD j 0)<0))/\(¬(if j<i+1 then(gW o ds T W now).getD j 0 else W.getD j 0)<0->s'.1.getD j 0=(gP ds W P now).getD j 0):=λhs hw=>
    ⟨(x,y,z),hs,c1,c2,c3,λj hj=>by
     obtain⟨q1,q2⟩:=c4 j hj;by_cases e:j=i;·subst e;rw[qh (by omega)]at q1 q2;rw[qi (by omega)];refine⟨by rw[q1];congr 1;exact decide_eq_decide.2 hw,λh=>q2 λh'=>h (hw.1 h')⟩
     ·by_cases h:j<i;·rw[qi h]at q1 q2;rw[qi (by omega)];exact⟨q1,q2⟩
      ·rw[qh h]at q1 q2;rw[qh (by omega)];exact⟨q1,q2⟩⟩
   by_cases c:W.getD i 0<0
   ·rw[qi c]at e1 hW;by_cases hB:0<=gB ds T now i o.length
    ·refine⟨(x.set i now,y.set i true,z.set i (gB ds T now i o.length)),?_,by simp[c1],by simp[c2],by simp[c3],λj hj=>?_⟩;·simp(disch:=omega)only[EV,Xh,hQ,hi,e1,hB,g1,g2,g3,c1,c2,c3];rfl
     ·simp only;rw[It y g2,cY x g1];by_cases e:i=j;·subst e;rw[qi rfl,qi rfl,qi (by omega),hW,qd (by omega),fR hj,qi c];exact⟨rfl,λ_=>rfl⟩
      ·obtain⟨q1,q2⟩:=c4 j hj;rw[qh e,qh e];by_cases h:j<i;·rw[qi h]at q1 q2;rw[qi (by omega)];exact⟨q1,q2⟩
       ·rw[qh h]at q1 q2;rw[qh (by omega)];exact⟨q1,q2⟩
    ·refine stay ?_ (by rw[hW];omega);simp(disch:=omega)only[EV,Xh,hQ,hi,e1,hB];rfl
   ·rw[qh c]at e1 hW;refine stay ?_ (by rw[hW]);have h1:¬(0:Int)<= -1:=by omega
    simp(disch:=omega)only[EV,Xh,hQ,hi,e1,h1];rfl)
  (λc ⟨c1,c2,c3,c4⟩=>⟨c,by simp(disch:=omega)only[EV,Xh,hQ,xj],c1,c2,c3,λj hj=>by have:=c4 j hj;rw[qi hj]at this;exact this⟩)
 exact⟨r.1,r.2.1,r.2.2,k1,⟨k2,k3,k4,λi hi=>(k5 i hi).1,λi hi=>(k5 i hi).2⟩⟩
theorem D2(hf:Fld o ds)(h:GI o ds p tm w now)(e:GE o ds p tm w now){pr wi:List Int}{st:List Bool}(s:SG ds p w pr st wi):
  ∃aa ab ad,Yh o ds now pr st wi tm=some (now,aa,ab,ad,gT o ds (gP ds w p now) tm now)/\SG ds (gP ds w p now) (gW o ds (gT o ds (gP ds w p now) tm now) w now) aa ab ad:=by
 have hp:∀i,i<ds.length->0<=(gP ds w p now).getD i 0/\(gP ds w p now).getD i 0<=498960:=λi hi=>by have:=h.price hi;have:=h.n1;omega
 have e1:=V6 hf s now tm;have e2:=Bo (now:=now) hf h.tl (P:=gP ds w p now) (by simp[gP]) hp e.fair pr st wi;obtain⟨aa,ab,ad,e3,e4⟩:=Av (now:=now) hf (T:=gT o ds (gP ds w p now) tm now) (by simp[gT]) s (Q:=gP ds w p now) (by simp[gP]);refine⟨aa,ab,ad,?_,e4⟩;unfold Yh RA;rw[qn,e1,xc,qn,e2,xc,qn,e3,xc,qq]
theorem z6(hf:Fld o ds){P W pr wi:List Int}{st:List Bool}(s:SG ds P W pr st wi)(T:List Int):NK now pr st wi T=some (!(List.range ds.length).all λi=> !decide (W.getD i 0<0)):=by
 have hm:=hf.clients;have key:=aX (f:=λv=>(wsv (now,pr,st,wi,T) v).ev) (n:=ds.length) (λi=>(i:Int)) (λi=> !decide (W.getD i 0<0)) (.inl ():Unit⊕Unit) (.inr ())
  (λi hi _=>by
   have e1:=s.st i hi;have aa:=s.sl;cases hq: !decide (W.getD i 0<0)with
   |true=>rw[hq]at e1;simp(disch:=omega)only[EV,wsv,hi,aa,e1];rfl
   |false=>rw[hq]at e1;simp(disch:=omega)only[EV,wsv,hi,aa,e1])
  (by simp(disch:=omega)only[EV,wsv,s.sl,xj])
 have k1:aEV (now,pr,st,wi,T) (0:Int)=some (bif (List.range ds.length).all λi=> !decide (W.getD i 0<0)then .inl ()else .inr ()):=key;unfold NK OX;rw[qn,k1,xc];cases(List.range ds.length).all λi=> !decide (W.getD i 0<0)<;>rfl
theorem On(hf:Fld o ds){P W pr wi:List Int}{st:List Bool}(s:SG ds P W pr st wi)(T:List Int){a:Nat}(ha:a<o.length):RY o ds now pr st wi T (a:Int)=some (aQ ds W now a:Int):=by
 obtain⟨r,k1,k2⟩:=aJ (f:=λv=>(WY ((a:Int),o,ds,now,pr,st,wi,T) v).ev) (n:=ds.length) (λi (c:Int)=>(c,(i:Int))) (λi c=>c=(qA ds W now a i:Int)) (λr=>r=(aQ ds W now a:Int)) (s0:=(0:Int)) rfl
  (λi c hi hc=>by
   left;have hm:=hf.clients;have hr:=hf.rowLen i hi;have h2:=hf.at2 hi ha;have e1:=s.st i hi;have aa:=s.sl;have e3:(ds.getD i []).getD a 0=at2 ds i a:=rfl;have e4:2520*at2 ds i a=dB ds i a:=EI _ _;have ad:=eZ (λj=>W.getD j 0<0/\dB ds j a<=now) i;have e0:qA ds W now a i=dA (λj=>W.getD j 0<0/\dB ds j a<=now) i:=rfl;have hb:c<=7:=by omega
   have hb0:0<=c:=by omega
   refine⟨(qA ds W now a (i+1):Int),?_,rfl⟩;unfold qA;rw[dA];rw[e0]at hc;by_cases c1:W.getD i 0<0
   ·rw[qc c1,xq]at e1;by_cases c2:dB ds i a<=now;·rw[qi ⟨c1,c2⟩,xfe,<-hc];simp(disch:=omega)only[EV,WY,hi,aa,e1,hr,ha,e3,e4,c2];rfl
    ·rw[qh λq=>c2 q.2,wY,<-hc];simp(disch:=omega)only[EV,WY,hi,aa,e1,hr,ha,e3,e4,c2];rfl
   ·rw[qd c1,mM]at e1;rw[qh λq=>c1 q.1,wY,<-hc];simp(disch:=omega)only[EV,WY,hi,aa,e1];rfl)
  (λc hc=>⟨c,by simp(disch:=omega)only[EV,WY,xj],hc⟩)
 have ab:aFm ((a:Int),o,ds,now,pr,st,wi,T) ((0:Int),(0:Int))=some r:=k1;unfold RY PT;rw[qn,ab,xc,qq,k2]
theorem Kq(hf:Fld o ds)(h0:0<=now){P W pr wi:List Int}{st:List Bool}(s:SG ds P W pr st wi)(T:List Int){i:Nat}(hi:i<ds.length){C:Int->Prop}{x:Int}(hx:NXT now C x):
  ∃y,aGZ ((i:Int),o,ds,now,pr,st,wi,T) (x,(0:Int))=some y/\NXT now (λu=>C u\/(W.getD i 0<0/\∃a,a<o.length/\u=dB ds i a)) y:=by
 obtain⟨r,k1,k2⟩:=aJ (f:=λv=>(AA ((i:Int),o,ds,now,pr,st,wi,T) v).ev) (n:=o.length) (λa (c:Int)=>(c,(a:Int))) (λa c=>NXT now (λu=>C u\/(W.getD i 0<0/\∃b,b<a/\u=dB ds i b)) c) (λc=>NXT now (λu=>C u\/(W.getD i 0<0/\∃a,a<o.length/\u=dB ds i a)) c) (s0:=x)
  (hx.eqv λu=>⟨.inl,λh=>h.elim id λ⟨_,b,hb,_⟩=>absurd hb (by omega)⟩)
  (λa c ha hc=>by
   left;have hr:=hf.rowLen i hi;have h2:=hf.at2 hi ha;have hlen:=hf.len;have e1:=s.st i hi;have aa:=s.sl;have e3:(ds.getD i []).getD a 0=at2 ds i a:=rfl;have e4:2520*at2 ds i a=dB ds i a:=EI _ _;by_cases c1:W.getD i 0<0
   ·rw[qc c1,xq]at e1;refine⟨JI now c (dB ds i a),?_,(hc.add h0 (dB ds i a)).eqv λu=>?_⟩
    ·unfold JI;by_cases c2:now<dB ds i a
     ·by_cases c3:c<0;·rw[qi ⟨c2,.inl c3⟩];simp(disch:=omega)only[EV,AA,ha,hi,hr,aa,e1,e3,e4,c2,c3];rfl
      ·by_cases c4:dB ds i a<c;·rw[qi ⟨c2,.inr c4⟩];simp(disch:=omega)only[EV,AA,ha,hi,hr,aa,e1,e3,e4,c2,c3,c4];rfl
       ·rw[qh λq=>by rcases q.2 with q|q;exact c3 q;exact c4 q];simp(disch:=omega)only[EV,AA,ha,hi,hr,aa,e1,e3,e4,c2,c3,c4];rfl
     ·rw[qh λq=>c2 q.1];simp(disch:=omega)only[EV,AA,ha,hi,hr,aa,e1,e3,e4,c2];rfl
    ·constructor
     ·rintro((h|⟨_,b,hb,h⟩)|h);·exact .inl h
      ·exact .inr ⟨c1,b,by omega,h⟩
      ·exact .inr ⟨c1,a,by omega,h⟩
     ·rintro(h|⟨_,b,hb,h⟩);·exact .inl (.inl h)
      ·by_cases e:b=a;·subst e;exact .inr h
       ·exact .inl (.inr ⟨c1,b,by omega,h⟩)
   ·rw[qd c1,mM]at e1;refine⟨c,?_,hc.eqv λu=>⟨λh=>h.imp id λh=>absurd h.1 c1,λh=>h.imp id λh=>absurd h.1 c1⟩⟩;simp(disch:=omega)only[EV,AA,ha,hi,hr,aa,e1];rfl)
  (λc hc=>⟨c,by simp(disch:=omega)only[EV,AA,xj],hc⟩)
 exact⟨r,k1,k2⟩
theorem Rg(hf:Fld o ds)(h0:0<=now){P W pr wi:List Int}{st:List Bool}(s:SG ds P W pr st wi)(T:List Int):
  ∃x,WU o ds now pr st wi T=some x/\NXT now (λu=>∃i,i<ds.length/\W.getD i 0<0/\∃a,a<o.length/\u=dB ds i a) x:=by
 obtain⟨r,k1,k2⟩:=aJ (f:=λv=>(wwq (o,ds,now,pr,st,wi,T) v).ev) (n:=ds.length) (λi (c:Int)=>(c,(i:Int))) (λi c=>NXT now (λu=>∃j,j<i/\W.getD j 0<0/\∃a,a<o.length/\u=dB ds j a) c) (λc=>NXT now (λu=>∃i,i<ds.length/\W.getD i 0<0/\∃a,a<o.length/\u=dB ds i a) c) (s0:= -1)
  (.inl ⟨rfl,λu ⟨j,h,_⟩=>absurd h (by omega)⟩)
  (λi c hi hc=>by
   left;have hm:=hf.clients;obtain⟨y,e1,hy⟩:=Kq hf h0 s T hi hc;refine⟨y,by simp(disch:=omega)only[EV,wwq,hi,e1];rfl,hy.eqv λu=>?_⟩;constructor
   ·rintro(⟨j,hj,h⟩|h);·exact⟨j,by omega,h⟩
    ·exact⟨i,by omega,h⟩
   ·rintro⟨j,hj,h⟩;by_cases e:j=i;·subst e;exact .inr h
    ·exact .inl ⟨j,by omega,h⟩)
  (λc hc=>⟨c,by simp(disch:=omega)only[EV,wwq,xj],hc⟩)
 have aa:aEg (o,ds,now,pr,st,wi,T) ((-1:Int),(0:Int))=some r:=k1;refine⟨r,?_,k2⟩;unfold WU GZ;rw[qn,aa,xc,qq]
end
end Go.Proofs.YteiekijgoifhoaaGreatDoor
