/- A part of the proof that FnExactReplayLog hands back true, at every argument of the row. -/
import Derived.Test.YtidaiohhaanphaaGreatDoorP87
namespace Go.Proofs.YtidaiohhaanphaaGreatDoor
def ins(x:Int):List Int->List Int
 | []=>[x]
 |a::l=>if a<=x then a::ins x l else x::a::l
def sortI(l:List Int):List Int:=l.foldl (λacc x=>ins x acc) []
theorem ins_snoc{x y:Int}(h:x<y):∀q:List Int,ins x (q++ [y])=ins x q++ [y]
 | []=>by simp[ins];omega
 |a::q=>by
  simp only[xbt,ins];split;·rw[ins_snoc h q];rfl
  ·rfl
theorem ins_last{x:Int}:∀{l:List Int},(∀y∈l,y<=x)->ins x l=l++ [x]
 | [],_=>rfl
 |a::l,h=>by simp only[ins,qi (h a xu),xbt];rw[ins_last λy hy=>h y (xr _ hy)]
theorem mem_ins{x y:Int}:∀{l:List Int},y∈ins x l↔y=x\/y∈l
 | []=>by simp[ins]
 |a::l=>by
  simp only[ins];split
  ·simp only[xaf,mem_ins (l:=l)];constructor
   ·rintro(h|h|h);·exact .inr (.inl h)
    ·exact .inl h
    ·exact .inr (.inr h)
   ·rintro(h|h|h);·exact .inr (.inl h)
    ·exact .inl h
    ·exact .inr (.inr h)
  ·simp only[xaf]
theorem ins_len{x:Int}:∀{l:List Int},(ins x l).length=l.length+1
 | []=>rfl
 |a::l=>by
  simp only[ins];split;·simp[ins_len (l:=l)]
  ·rfl
theorem ins_sorted{x:Int}:∀{l:List Int},l.Pairwise (· <= ·)->(ins x l).Pairwise (· <= ·)
 | [],_=>by simp[ins]
 |a::l,h=>by
  rw[xbj]at h;simp only[ins];split
  next hx=>
   rw[xbj];exact⟨λy hy=>(mem_ins.1 hy).elim (λe=>e▸hx) (h.1 y),ins_sorted h.2⟩
  next hx=>
   rw[xbj,xbj];refine⟨λy hy=>?_,h⟩;rcases xaf.1 hy with rfl|hy;·omega
   ·have:=h.1 y hy;omega
theorem sortI_snoc(l:List Int)(x:Int):sortI (l++ [x])=ins x (sortI l):=by simp[sortI]
theorem sortI_inv:∀l:List Int,(sortI l).Pairwise (· <= ·)/\(sortI l).length=l.length/\∀y,y∈sortI l↔y∈l:=by
 intro l;have key:∀(l acc:List Int),acc.Pairwise (· <= ·)->(l.foldl (λacc x=>ins x acc) acc).Pairwise (· <= ·)/\(l.foldl (λacc x=>ins x acc) acc).length=acc.length+l.length/\∀y,y∈l.foldl (λacc x=>ins x acc) acc↔y∈acc\/y∈l:=by
  intro l;induction l with
  |nil=>intro acc h;exact⟨h,rfl,λy=>by simp⟩
  |cons x l ih=>
   intro acc h;obtain⟨h1,h2,h3⟩:=ih (ins x acc) (ins_sorted h);refine⟨h1,by rw[xbm,h2,ins_len,xj];omega,λy=>?_⟩;rw[xbm,h3,mem_ins,xaf];constructor
   ·rintro((h|h)|h);·exact .inr (.inl h)
    ·exact .inl h
    ·exact .inr (.inr h)
   ·rintro(h|h|h);·exact .inl (.inr h)
    ·exact .inl (.inl h)
    ·exact .inr h
 obtain⟨h1,h2,h3⟩:=key l [] List.Pairwise.nil;exact⟨h1,by simpa[sortI]using h2,λy=>by simpa[sortI]using h3 y⟩
theorem cmpLess_eq(a b:Int):F_zb a b=some (decide (a<b)):=by unfold F_zb T_zb F_zd T_zd;simp(disch:=omega)only[EV,qk]
theorem getD_mid{p r:List Int}{x:Int}:(p++x::r).getD p.length 0=x:=by rw[xd,xad (xm _),xdt];rfl
theorem insertion_in(n i:Int):∀(m:Nat) (p:List Int) (x:Int) (r:List Int),p.length=m->(p.length:Int)<9223372036854775807->p.Pairwise (· <= ·)->wbbe (0,n,i) ((p.length:Int),p++x::r)=some (ins x p++r):=by
 intro m;induction m with
 |zero=>intro p x r hm _ _;have:=xz hm;subst this;unfold wbbe;rw[iter_eq];simp(disch:=omega)only[EV,wavr,xab,xdn,show((0:Nat):Int)=0 from rfl];rfl
 |succ m ih=>
  intro p x r hm ae hp;obtain⟨q,y,rfl⟩:∃q y,p=q++ [y]:=by
   have:=xfk p;rcases this with h|⟨q,y,h⟩
   ·rw[h]at hm;cases hm
   ·exact⟨q,y,by simpa using h⟩
  have aa:q.length=m:=by simpa using hm
  have e0:((q++ [y]).length:Int)=((m+1:Nat):Int):=by simp[aa]
  rw[e0]at ae⊢;have e2:((m+1:Nat):Int) -1=(m:Int):=by omega
  have g1:((q++ [y])++x::r).getD (m+1) 0=x:=by have:=getD_mid (p:=q++ [y]) (x:=x) (r:=r);rwa [show(q++ [y]).length=m+1 by simp[aa]]at this
  have g2:((q++ [y])++x::r).getD m 0=y:=by have:=getD_mid (p:=q) (x:=y) (r:=x::r);rw[aa]at this;simpa using this
  have hl:((q++ [y])++x::r).length=m+2+r.length:=by simp[aa];omega
  have s1:(((q++ [y])++x::r).set (m+1) y).set m x=q++x::(y::r):=by
   have t1:((q++ [y])++x::r).set (m+1) y=(q++ [y])++y::r:=by rw[xck _ _ (by simp[aa]),show m+1-(q++ [y]).length=0 by simp[aa]];rfl
   rw[t1,xcf,xck _ _ (by omega),show m-q.length=0 by omega];rfl
  have ad:¬x<y->((q++ [y])++x::r)=ins x (q++ [y])++r:=λab=>by
   rw[ins_last];·simp
   ·intro z hz;rcases xt.1 hz with hz|hz;·have:=(xdi.1 hp).2.2 z hz y (by simp);omega
    ·have:=xp.1 hz;omega
  have h0:(0:Int)<((m+1:Nat):Int):=by omega
  have h1:m+1<m+2+r.length:=by omega
  have h2:m<m+2+r.length:=by omega
  generalize((q++ [y])++x::r)=L at g1 g2 hl s1 ad;unfold wbbe;rw[iter_eq];by_cases ab:x<y
  ·have e:(wavr (0,n,i) (((m+1:Nat):Int),L)).ev=some (.inl ((m:Int),q++x::(y::r))):=by simp(disch:=omega)only[EV,wavr,h0,hl,h1,e2,h2,g1,g2,cmpLess_eq,ab,xbc,s1]
   rw[e];have:=ih q x (y::r) aa (by omega) (xdi.1 hp).1;rw[aa]at this;unfold wbbe at this;simp only;rw[this,ins_snoc ab];simp
  ·have e:(wavr (0,n,i) (((m+1:Nat):Int),L)).ev=some (.inr L):=by simp(disch:=omega)only[EV,wavr,h0,hl,h1,e2,h2,g1,g2,cmpLess_eq,ab]
   rw[e];simp only;rw[ad ab]
theorem sort_fin(l:List Int):(List.range (l.length-1)).foldl (λ_ k=>sortI (l.take (k+2))++l.drop (k+2)) l=sortI l:=by
 cases hn:l.length-1 with
 |zero=>
  rcases l with _|⟨a,_|⟨b,l⟩⟩
  ·rfl
  ·rfl
  ·simp at hn
 |succ n=>rw[xee,xcq];simp only[xbm,xfz];rw[xaw (by omega),xgv (by omega),xax]
theorem insertionSort_eq{l:List Int}(hl:(l.length:Int)<9223372036854775806):wces 0 (l.length:Int) l=some (sortI l):=by
 have key:=(iter_fold (f:=λv=>(wbbf (0,(l.length:Int)) v).ev) (n:=l.length-1) (mk:=λk (s:List Int)=>(((k+1:Nat):Int),s)) (I:=λk s=>s=sortI (l.take (k+1))++l.drop (k+1)) (g:=λ_ k=>sortI (l.take (k+2))++l.drop (k+2)) (fin:=λs=>s) (s0:=l) (by
   cases l with
   |nil=>rfl
   |cons a l=>simp[sortI,ins])
  (λk s hk hs=>by
   subst hs;have aa:k+1<l.length:=by omega
   obtain⟨h1,h2,_⟩:=sortI_inv (l.take (k+1));have h3:(sortI (l.take (k+1))).length=k+1:=by rw[h2];simp;omega
   have h4:l.drop (k+1)=l[k+1]::l.drop (k+2):=xbe aa;have h5:sortI (l.take (k+2))=ins l[k+1] (sortI (l.take (k+1))):=by rw[<-sortI_snoc,xan aa]
   have h6:=insertion_in (l.length:Int) ((k+1:Nat):Int) (k+1) (sortI (l.take (k+1))) l[k+1] (l.drop (k+2)) h3 (by rw[h3];omega) h1;rw[h3,<-h4]at h6;refine⟨?_,rfl⟩;simp(disch:=omega)only[EV,wbbf,aa,h6];rw[h5];rfl)
  (λs _=>by
   have:¬((l.length-1+1:Nat):Int)<(l.length:Int):=by omega
   simp(disch:=omega)only[EV,wbbf,show¬(l.length-1+1<l.length) by omega])).1
 rw[sort_fin]at key;have z:(((0+1:Nat):Int),l)=((1:Int),l):=rfl;have e:wbkg (0,(l.length:Int)) (1,l)=some (sortI l):=key;unfold wces wcer;simp(disch:=omega)only[EV,show IntKind.wrap .i64 ((0:Int)+1)=1 from rfl,e]
theorem bitsLen_ok:∀n:Nat,n<=12->∃r,wbqf (IntKind.wrap .u64 (n:Int))=some r
 |0,_=>⟨0,by kernel_rfl⟩
 |1,_=>⟨1,by kernel_rfl⟩
 |2,_=>⟨2,by kernel_rfl⟩
 |3,_=>⟨2,by kernel_rfl⟩
 |4,_=>⟨3,by kernel_rfl⟩
 |5,_=>⟨3,by kernel_rfl⟩
 |6,_=>⟨3,by kernel_rfl⟩
 |7,_=>⟨3,by kernel_rfl⟩
 |8,_=>⟨4,by kernel_rfl⟩
 |9,_=>⟨4,by kernel_rfl⟩
 |10,_=>⟨4,by kernel_rfl⟩
 |11,_=>⟨4,by kernel_rfl⟩
 |12,_=>⟨4,by kernel_rfl⟩
 |n+13,h=>by omega
theorem slicesSort_eq{l:List Int}(hl:l.length<=12):wcev l=some (sortI l):=by
 obtain⟨r,hr⟩:=bitsLen_ok l.length hl;have key:wbdt (0,(l.length:Int),r,true,true,l) ()=some (sortI l):=by
  have hw:IntKind.wrap .i64 ((l.length:Int) -0)<=12:=by rw[wrap64 (by omega) (by omega)];omega
  unfold wbdt;rw[iter_eq];unfold wbds;rw[qo];simp only;rw[qc hw,qa,qn,insertionSort_eq (by omega)];rfl
 unfold wcev wceu;rw[qn,hr,xc,qn];unfold wcja wcet;rw[qn,key];rfl
theorem ins_find(x:Int):∀l:List Int,l.take ((l.findIdx? λy=> !decide (y<=x)).elim l.length id)++x::l.drop ((l.findIdx? λy=> !decide (y<=x)).elim l.length id)=ins x l
 | []=>rfl
 |a::l=>by
  have ih:=ins_find x l;rw[xec];by_cases h:a<=x
  ·simp only[h,decide_true,xk,xai,if_false,ins,if_true];cases hf:l.findIdx? λy=> !decide (y<=x)with|none=>rw[hf]at ih;simpa using ih|some j=>rw[hf]at ih;simpa using ih
  ·simp[h,ins]
abbrev tI:Ty:=.int .i64
abbrev tL:Ty:=.slice tI
abbrev tLL:Ty:=.slice tL
theorem maxLen_lt{n:Nat}(h:n<=maxLen):(n:Int)<9223372036854775808:=by unfold maxLen at h;omega
theorem fit1{l:List Int}(h:Fit tL l):Fit1 l:=by have:=maxLen_lt h.1;unfold Fit1;omega
theorem fit2{x:List (List Int)}(h:Fit tLL x):Fit2 x:=by have:=maxLen_lt h.1;exact⟨by omega,λr hr=>fit1 (h.2 r hr)⟩
section
open Go
def CK(B:Int)(l:List Int)(i:Int):Prop:=(∀x∈l,0<=x/\x<=255)/\l.length<=100000/\0<=i/\i<=B
theorem CK.mono{B B':Int}{l:List Int}{i:Int}(h:CK B l i)(hb:B<=B'):CK B' l i:=⟨h.1,h.2.1,h.2.2.1,by have:=h.2.2.2;omega⟩
theorem iter_cnt{V R:Type}{f:V->Option (V⊕R)}{n:Nat}(P:Nat->V->Prop)(Q:R->Prop)(hs:∀k v,k<n->P k v->∃v',f v=some (.inl v')/\P (k+1) v')(he:∀v,P n v->∃r,f v=some (.inr r)/\Q r){v:V}(h0:P 0 v):∃r,iter f v=some r/\Q r:=by
 have key:∀m k v,k+m=n->P k v->∃r,iter f v=some r/\Q r:=by
  intro m;induction m with
  |zero=>
   intro k v hk hp;have:k=n:=by omega
   subst this;obtain⟨r,h1,h2⟩:=he v hp;exact⟨r,by rw[iter_eq,h1],h2⟩
  |succ m ih=>intro k v hk hp;obtain⟨v',h1,h2⟩:=hs k v (by omega) hp;obtain⟨r,h3,h4⟩:=ih (k+1) v' (by omega) h2;exact⟨r,by rw[iter_eq,h1];exact h3,h4⟩
 exact key n 0 v (by omega) h0
theorem room8(l:List Int)(x:Int)(h:l.length<=1000000):(l.length+List.length ([x]:List Int))*8<=140737488355328:=by simp;omega
theorem room24{α:Type}(l:List α)(h:l.length<=1000000):(l.length+1)*24<=140737488355328:=by omega
theorem set_end{α:Type}(l:List (List α))(x:List α):List.set (l++ [[]]) l.length x=l++ [x]:=by rw[xck _ _ (xm _)];simp
end
theorem eins_mem{x y:Int}:∀{l:List Int},y∈ins x l↔y=x\/y∈l
 | []=>by simp[ins]
 |a::l=>by
  simp only[ins];split
  ·rw[xaf,eins_mem (l:=l),xaf];constructor;·rintro(h|h|h)<;>simp[h]
   ·rintro(h|h|h)<;>simp[h]
  ·simp[]
theorem eins_len(x:Int):∀l:List Int,(ins x l).length=l.length+1
 | []=>rfl
 |a::l=>by
  simp only[ins];split;·simp[eins_len x l]
  ·simp
theorem eins_rise{x:Int}:∀{l:List Int},l.Pairwise (· < ·)->x∉l->(ins x l).Pairwise (· < ·)
 | [],_,_=>by simp[ins]
 |a::l,h,hx=>by
  obtain⟨h1,h2⟩:=xbj.1 h;rw[xaf,not_or]at hx;simp only[ins];split
  next hle=>
   refine xbj.2 ⟨λy hy=>?_,eins_rise h2 hx.2⟩;rcases eins_mem.1 hy with e|hy;·have:=hx.1;omega
   ·exact h1 y hy
  next hle=>
   refine xbj.2 ⟨λy hy=>?_,h⟩;rcases xaf.1 hy with e|hy;·omega
   ·have:=h1 y hy;omega
theorem erise_len:∀{l:List Int} {a b:Int},l.Pairwise (· < ·)->(∀x∈l,a<=x/\x<b)->l.length<=(b-a).toNat
 | [],_,_,_,_=>by simp
 |x::l,a,b,h,hb=>by
  obtain⟨h1,h2⟩:=xbj.1 h;have ih:=erise_len (l:=l) (a:=x+1) (b:=b) h2 λy hy=>⟨by have:=h1 y hy;omega,(hb y (xr _ hy)).2⟩
  have:=hb x (by simp);simp only[xj];omega
def ris(n:Nat)(s:List Int):Prop:=(∀x∈s,0<=x/\x<(n:Int))/\s.Pairwise (· < ·)
theorem ris_iff{n:Nat}{s:List Int}:risingB s 0 ((n:Int) -1)=true↔ris n s:=by rw[risingB_iff];exact⟨λh=>⟨λx hx=>by have:=h.1 x hx;omega,h.2⟩,λh=>⟨λx hx=>by have:=h.1 x hx;omega,h.2⟩⟩
theorem ris.len{n:Nat}{s:List Int}(h:ris n s):s.length<=n:=by have:=erise_len h.2 h.1;omega
theorem ris.low{n:Nat}{s:List Int}(h:ris n s)(hn:n<=7):Low1 s:=by have:=h.len;unfold Low1;omega
theorem ris.places{n:Nat}{s:List Int}(h:ris n s)(hn:n<=7):Places s n:=Places.of (h.low hn) (ris_iff.2 h)
theorem ris.ins{n:Nat}{s:List Int}(h:ris n s){a:Int}(h0:0<=a)(ha:a<(n:Int))(hx:a∉s):ris n (ins a s):=
 ⟨λx hx=>by
  rcases eins_mem.1 hx with e|hx;·omega
  ·exact h.1 x hx,eins_rise h.2 hx⟩
theorem ris.filter{n:Nat}{s:List Int}(h:ris n s)(p:Int->Bool):ris n (s.filter p):=
 ⟨λx hx=>h.1 x (xaj.1 hx).1,h.2.filter p⟩
theorem ehas_eq{l:List Int}(hl:l.length<=1000000)(x:Int):wbbm l x=some (l.contains x):=by
 have hs:wbfo (l,x) 0=_:=iter_forE (f:=λv=>(wayz (l,x) v).ev) (l:=l) 0 (λy=>y==x) (mk:=λi=>(i:Int)) (yes:=λ_=>.inr ()) (no:=.inl ()) (λi hi=>by simp(disch:=omega)only[EV,wayz,hi];cases(l.getD i 0==x)<;>rfl) (by simp(disch:=omega)only[EV,wayz,xi]);unfold wbbm wbvh;simp(disch:=omega)only[EV,hs];have e:l.contains x=l.any λy=>y==x:=by rw[List.contains_eq_any_beq];congr 1;funext y;exact Bool.beq_comm
 rw[e];have h2:=findIdx_any (l:=l) (q:=λy=>y==x);cases h:l.findIdx? λy=>y==x with
 |none=>
  rw[h]at h2;have h3:(l.any λy=>y==x)=false:=by rw[xej];exact λh4=>by have:=h2.1 h4;simp at this
  rw[h3];rfl
 |some i=>rw[h]at h2;rw[h2.2 rfl];rfl
theorem eput_eq{l:List Int}{x:Int}(hl:l.length<=100)(hx:x∉l):wbca l x=some (ins x l):=by
 have h:=iter_forE (f:=λv=>(wawo (l,x) v).ev) (l:=l) 0 (λy=> !decide (y<=x)) (mk:=λi=>(i:Int)) (yes:=λi=>(i:Int)) (no:=(l.length:Int))
  (λi hi=>by
   have ad:l.getD i 0≠x:=λe=>hx (e▸getD_mem hi);by_cases aa:l.getD i 0<x
   ·have hle:l.getD i 0<=x:=by omega
    simp(disch:=omega)only[EV,wawo,hi,aa,hle];rfl
   ·have hle:¬l.getD i 0<=x:=by omega
    simp(disch:=omega)only[EV,wawo,hi,aa,hle])
  (by simp(disch:=omega)only[EV,wawo,xi])
 have h0:wbcq (l,x) 0=some ((((l.findIdx? λy=> !decide (y<=x)).elim l.length id:Nat):Int)):=by have h1:wbcq (l,x) 0=_:=h;rw[h1];cases l.findIdx? λy=> !decide (y<=x)<;>rfl
 have hi:=ins_find x l;have hle:(l.findIdx? λy=> !decide (y<=x)).elim l.length id<=l.length:=by
  cases hf:l.findIdx? λy=> !decide (y<=x)with
  |none=>exact xm _
  |some j=>obtain⟨hj,_⟩:=xcv.1 hf;exact Nat.le_of_lt hj
 generalize(l.findIdx? λy=> !decide (y<=x)).elim l.length id=i at h0 hi hle;have ab:List.drop 0 (List.take i l)++ [x]++List.drop i (List.take l.length l)=ins x l:=by rw[xal,xea,<-hi];simp
 have hlen:(List.drop 0 (List.take i l)).length<=100:=by simp;omega
 have ae:(List.drop i (List.take l.length l)).length<=100:=by simp;omega
 have g1:(decide (0<=(i:Int))&&decide ((i:Int)<=((l.length:Nat):Int)))=true:=by rw[qc (by omega),qc (by omega)];rfl
 unfold wbca wbvm;rw[qn,h0,xc];by_cases aa:i<l.length;·have ad:(l.getD i 0==x)=false:=beq_eq_false_iff_ne.2 λe=>hx (e▸getD_mem aa);simp(disch:=omega)only[EV,aa,ad,xbh,xab,xl,xj];rw[g1,qa,qa,qi (by omega),qi (by omega),qi (by omega)];exact congrArg some ab
 ·simp(disch:=omega)only[EV,aa,xbh,xab,xl,xj];rw[g1,qa,qa,qi (by omega),qi (by omega),qi (by omega)];exact congrArg some ab
theorem eown_eq{l:List Int}(h:l.length<=1048576):wayj l=some l:=by
 have h1:(0+l.length)*8<=140737488355328:=by omega
 unfold wayj wbul;simp(disch:=omega)only[EV,xab,xbh,h1]
theorem ewithout_eq{l:List Int}(hl:l.length<=1000000)(a:Int):wbfp l a=some (l.filter λx=>x !=a):=by
 have h:=(iter_foldl (f:=λv=>(wawp (l,a) v).ev) l 0 (mk:=λi (s:List Int)=>((i:Int),s)) (I:=λi s=>s.length<=i) (g:=λs x=>if x !=a then s++ [x]else s) (fin:=λs=>s) (s0:=[]) (xm _)
  (λi s hi hs=>by
   have r1:=room8 s (l.getD i 0) (by omega);cases hb:(l.getD i 0 !=a)with
   |true=>refine⟨?_,by simp;omega⟩;simp(disch:=omega)only[EV,wawp,hi,hb,r1];rfl
   |false=>refine⟨?_,by simp;omega⟩;simp(disch:=omega)only[EV,wawp,hi,hb];rfl)
  (λs _=>by simp(disch:=omega)only[EV,wawp,xi])).1
 have key:∀(l acc:List Int),l.foldl (λs x=>if x !=a then s++ [x]else s) acc=acc++l.filter λx=>x !=a:=by
  intro l;induction l with
  |nil=>intro acc;simp
  |cons x l ih=>intro acc;rw[xbm,ih,xdf];cases(x !=a)<;>simp
 have h0:wbcr (l,a) (0,[])=some (l.filter λx=>x !=a):=by have h1:wbcr (l,a) (0,[])=_:=h;rw[h1,key];rfl
 unfold wbfp wbvo;simp(disch:=omega)only[EV,h0]
def cutAt{α:Type}(a:Int)(l:List α):List α:=l.take a.toNat++l.drop (a.toNat+1)
theorem cutAt_len{α:Type}{a:Int}{l:List α}(h0:0<=a)(h:a<(l.length:Int)):(cutAt a l).length+1=l.length:=by unfold cutAt;rw[xl,xx,xas];omega
theorem cutAt_mem{α:Type}{a:Int}{l:List α}{x:α}(h:x∈cutAt a l):x∈l:=by
 rcases xt.1 h with h|h;·exact xbp h
 ·exact xdh h
theorem ecut_eq{l:List Int}(hl:l.length<=1000){a:Int}(h0:0<=a)(h:a<(l.length:Int)):wbln l a=some (cutAt a l):=by
 have hw:IntKind.wrap .i64 (a+1)=a+1:=wrap64 (by omega) (by omega);have g1:(decide (0<=a)&&decide (a<=((l.length:Nat):Int)))=true:=by rw[qc h0,qc (by omega)];rfl
 have g2:(decide (0<=a+1)&&decide (a+1<=((l.length:Nat):Int)))=true:=by rw[qc (by omega),qc (by omega)];rfl
 have e1:=eown_eq (l:=List.drop 0 (List.take a.toNat l)) (by simp;omega);have ht:(a+1).toNat=a.toNat+1:=by omega
 have g3:((List.drop 0 (List.take a.toNat l)).length+(List.drop (a.toNat+1) (List.take l.length l)).length)*8<=140737488355328:=by simp;omega
 unfold wbln wbvp;rw[qp,g1,qa,qn,e1,xc,hw,qp,g2,qa,ht,qp,qc g3,qa,qq];unfold cutAt;rw[xea,xal]
def nilB(l:List Int):Bool:=((List.length l:Nat):Int)==0
def plainB(k a b c:Int)(l:List Int):Bool:=
 if k=1\/k=2\/k=8\/k=9 then(b==0)&&((c==0)&&nilB l)
 else if k=3\/k=4 then(c==0)&&nilB l
 else if k=5 then nilB l
 else if k=6 then(b==0)&&(c==0)
 else if k=7 then(a==0)&&((b==0)&&(c==0))
 else if k=10\/k=11 then(a==0)&&((b==0)&&((c==0)&&nilB l))
 else false
theorem ev_and{x y:Bool}:(Tr.t x (.l y) (.l false)).ev=some (x&&y):=by cases x<;>rfl
theorem t_and{x y:Bool}{z:Tr Bool}(h:z.ev=some y):(Tr.t x z (.l false)).ev=some (x&&y):=by cases x<;>simp[h]
theorem eplain_eq(k a b c:Int)(l:List Int):wbvf k a b c l=some (plainB k a b c l):=by
 have e2:=ev_and (x:=c==0) (y:=nilB l);have e3:=t_and (x:=b==0) (ev_and (x:=c==0) (y:=nilB l));have e4:=t_and (x:=a==0) (t_and (x:=b==0) (ev_and (x:=c==0) (y:=nilB l)));have e5:=t_and (x:=a==0) (ev_and (x:=b==0) (y:=c==0));by_cases h1:k=1;·subst h1;exact e3
 by_cases h2:k=2;·subst h2;exact e3
 by_cases h3:k=3;·subst h3;exact e2
 by_cases h4:k=4;·subst h4;exact e2
 by_cases h5:k=5;·subst h5;rfl
 by_cases h6:k=6;·subst h6;exact ev_and (x:=b==0) (y:=c==0)
 by_cases h7:k=7;·subst h7;exact e5
 by_cases h8:k=8;·subst h8;exact e3
 by_cases h9:k=9;·subst h9;exact e3
 by_cases aa:k=10;·subst aa;exact e4
 by_cases ab:k=11;·subst ab;exact e4
 have hp:plainB k a b c l=false:=by unfold plainB;rw[qh (by omega),qh (by omega),qh h5,qh h6,qh h7,qh (by omega)]
 rw[hp];unfold wbvf wbve;simp only[qo,qq,beq_eq_false_iff_ne.2 h1,beq_eq_false_iff_ne.2 h2,beq_eq_false_iff_ne.2 h3,beq_eq_false_iff_ne.2 h4,beq_eq_false_iff_ne.2 h5,beq_eq_false_iff_ne.2 h6,beq_eq_false_iff_ne.2 h7,beq_eq_false_iff_ne.2 h8,beq_eq_false_iff_ne.2 h9,beq_eq_false_iff_ne.2 aa,beq_eq_false_iff_ne.2 ab,qb]
def siteB(n:Nat)(a:Int):Bool:=isIn a 0 ((n:Int) -1)
def closedB(n:Nat)(s:List Int)(a:Int):Bool:=siteB n a&& !s.contains a
def mayB(n m:Nat)(s:List Int)(k a b:Int)(l:List Int):Bool:=
 if k=1\/k=8 then closedB n s a
 else if k=2 then s.contains a
 else if k=3 then s.contains a&&closedB n s b
 else if k=4 then siteB n a
 else if k=5 then siteB m a&&siteB n b
 else if k=6 then((l.length:Nat):Int)==((m:Nat):Int)
 else if k=9 then siteB m a
 else if k=10 then decide ((0:Int)<((s.length:Nat):Int))
 else true
theorem esite_eq{o:List Int}(ho:o.length<=1000)(ds:List (List Int))(a:Int):wbcp o ds a=some (siteB o.length a):=by unfold wbcp wbvg siteB;simp(disch:=omega)only[EV,l1In_eq]
theorem eclosed_eq{o s:List Int}(ho:o.length<=1000)(hs:s.length<=1000)(ds:List (List Int))(c a:Int):wbei o ds s c a=some (closedB o.length s a):=by unfold wbei wbvj closedB;simp(disch:=omega)only[EV,esite_eq ho,ehas_eq (l:=s) (by omega)];cases siteB o.length a<;>rfl
theorem emay_eq{o s:List Int}{ds:List (List Int)}(ho:o.length<=1000)(hd:ds.length<=1000)(hs:s.length<=1000)(n k a b c:Int)(l:List Int):wbvl o ds s n k a b c l=some (mayB o.length ds.length s k a b l):=by
 have e1:=eclosed_eq ho hs ds n a;have e2:=eclosed_eq ho hs ds n b;have e3:=ehas_eq (l:=s) (by omega) a;have e4:=esite_eq ho ds a;have e5:=esite_eq ho ds b;have e6:waoo a 0 (IntKind.wrap .i64 (((ds.length:Nat):Int) -1))=some (siteB ds.length a):=by rw[wrap64 (by omega) (by omega),l1In_eq];rfl
 have c1:∀x:Option Bool,∀y,x=some y->(Tr.c Bool x λr=>.l r).ev=some y:=λx y h=>by rw[h];rfl
 have c2:∀x z:Option Bool,∀y u,x=some y->z=some u->(Tr.c Bool x λr=>.t r (Tr.c Bool z λr=>.l r) (.l false)).ev=some (y&&u):=λx z y u h h'=>by rw[h,h'];cases y<;>rfl
 by_cases h1:k=1;·subst h1;exact c1 _ _ e1
 by_cases h2:k=2;·subst h2;exact c1 _ _ e3
 by_cases h3:k=3;·subst h3;exact c2 _ _ _ _ e3 e2
 by_cases h4:k=4;·subst h4;exact c1 _ _ e4
 by_cases h5:k=5;·subst h5;exact c2 _ _ _ _ e6 e5
 by_cases h6:k=6;·subst h6;rfl
 by_cases h8:k=8;·subst h8;exact c1 _ _ e1
 by_cases h9:k=9;·subst h9;exact c1 _ _ e6
 by_cases aa:k=10;·subst aa;rfl
 have hp:mayB o.length ds.length s k a b l=true:=by unfold mayB;rw[qh (by omega),qh h2,qh h3,qh h4,qh h5,qh h6,qh h9,qh aa]
 rw[hp];unfold wbvl wbvk;simp only[qo,qq,beq_eq_false_iff_ne.2 h1,beq_eq_false_iff_ne.2 h2,beq_eq_false_iff_ne.2 h3,beq_eq_false_iff_ne.2 h4,beq_eq_false_iff_ne.2 h5,beq_eq_false_iff_ne.2 h6,beq_eq_false_iff_ne.2 h8,beq_eq_false_iff_ne.2 h9,beq_eq_false_iff_ne.2 aa,qb]
def HG(x:List Nat×List (List Int)):Prop:=∀i∈x.1,i<x.2.length
def setsOf:Nat->List (List Int)
 |1=>[[0]]
 |2=>[[0],[1],[0,1]]
 |3=>[[0],[1],[2],[0,1],[0,2],[1,2],[0,1,2]]
 |4=>[[0],[1],[2],[3],[0,1],[0,2],[0,3],[1,2],[1,3],[2,3],[0,1,2],[0,1,3],[0,2,3],[1,2,3],[0,1,2,3]]
 |5=>[[0],[1],[2],[3],[4],[0,1],[0,2],[0,3],[0,4],[1,2],[1,3],[1,4],[2,3],[2,4],[3,4],[0,1,2],[0,1,3],[0,1,4],[0,2,3],[0,2,4],[0,3,4],[1,2,3],[1,2,4],[1,3,4],[2,3,4],[0,1,2,3],[0,1,2,4],[0,1,3,4],[0,2,3,4],[1,2,3,4],[0,1,2,3,4]]
 |6=>[[0],[1],[2],[3],[4],[5],[0,1],[0,2],[0,3],[0,4],[0,5],[1,2],[1,3],[1,4],[1,5],[2,3],[2,4],[2,5],[3,4],[3,5],[4,5],[0,1,2],[0,1,3],[0,1,4],[0,1,5],[0,2,3],[0,2,4],[0,2,5],[0,3,4],[0,3,5],[0,4,5],[1,2,3],[1,2,4],[1,2,5],[1,3,4],[1,3,5],[1,4,5],[2,3,4],[2,3,5],[2,4,5],[3,4,5],[0,1,2,3],[0,1,2,4],[0,1,2,5],[0,1,3,4],[0,1,3,5],[0,1,4,5],[0,2,3,4],[0,2,3,5],[0,2,4,5],[0,3,4,5],[1,2,3,4],[1,2,3,5],[1,2,4,5],[1,3,4,5],[2,3,4,5],[0,1,2,3,4],[0,1,2,3,5],[0,1,2,4,5],[0,1,3,4,5],[0,2,3,4,5],[1,2,3,4,5],[0,1,2,3,4,5]]
 |7=>[[0],[1],[2],[3],[4],[5],[6],[0,1],[0,2],[0,3],[0,4],[0,5],[0,6],[1,2],[1,3],[1,4],[1,5],[1,6],[2,3],[2,4],[2,5],[2,6],[3,4],[3,5],[3,6],[4,5],[4,6],[5,6],[0,1,2],[0,1,3],[0,1,4],[0,1,5],[0,1,6],[0,2,3],[0,2,4],[0,2,5],[0,2,6],[0,3,4],[0,3,5],[0,3,6],[0,4,5],[0,4,6],[0,5,6],[1,2,3],[1,2,4],[1,2,5],[1,2,6],[1,3,4],[1,3,5],[1,3,6],[1,4,5],[1,4,6],[1,5,6],[2,3,4],[2,3,5],[2,3,6],[2,4,5],[2,4,6],[2,5,6],[3,4,5],[3,4,6],[3,5,6],[4,5,6],[0,1,2,3],[0,1,2,4],[0,1,2,5],[0,1,2,6],[0,1,3,4],[0,1,3,5],[0,1,3,6],[0,1,4,5],[0,1,4,6],[0,1,5,6],[0,2,3,4],[0,2,3,5],[0,2,3,6],[0,2,4,5],[0,2,4,6],[0,2,5,6],[0,3,4,5],[0,3,4,6],[0,3,5,6],[0,4,5,6],[1,2,3,4],[1,2,3,5],[1,2,3,6],[1,2,4,5],[1,2,4,6],[1,2,5,6],[1,3,4,5],[1,3,4,6],[1,3,5,6],[1,4,5,6],[2,3,4,5],[2,3,4,6],[2,3,5,6],[2,4,5,6],[3,4,5,6],[0,1,2,3,4],[0,1,2,3,5],[0,1,2,3,6],[0,1,2,4,5],[0,1,2,4,6],[0,1,2,5,6],[0,1,3,4,5],[0,1,3,4,6],[0,1,3,5,6],[0,1,4,5,6],[0,2,3,4,5],[0,2,3,4,6],[0,2,3,5,6],[0,2,4,5,6],[0,3,4,5,6],[1,2,3,4,5],[1,2,3,4,6],[1,2,3,5,6],[1,2,4,5,6],[1,3,4,5,6],[2,3,4,5,6],[0,1,2,3,4,5],[0,1,2,3,4,6],[0,1,2,3,5,6],[0,1,2,4,5,6],[0,1,3,4,5,6],[0,2,3,4,5,6],[1,2,3,4,5,6],[0,1,2,3,4,5,6]]
 |_=>[]
noncomputable def chkI(n:Nat):Bool:=match wbet (n:Int)with
 |some x=>x.1.all (λi=>Nat.blt i x.2.length)&&(permL x.1 x.2==setsOf n)
 |none=>false
noncomputable def chkS(n:Nat):Bool:=wbgd (n:Int)==some (setsOf n)
def chkR(n:Nat):Bool:=(setsOf n).all (λs=>risingB s 0 ((n:Int) -1)&&Nat.blt 0 s.length&&Nat.ble s.length 7)&&Nat.beq ((setsOf n).length+1) (2^n)
theorem chkR_1:chkR 1=true:=by kernel_rfl
theorem chkR_2:chkR 2=true:=by kernel_rfl
theorem chkR_3:chkR 3=true:=by kernel_rfl
theorem chkR_4:chkR 4=true:=by kernel_rfl
theorem chkR_5:chkR 5=true:=by kernel_rfl
theorem chkR_6:chkR 6=true:=by kernel_rfl
theorem chkR_7:chkR 7=true:=by kernel_rfl
theorem chk_all:∀n:Nat,1<=n->n<=7->chkR n=true
 |1,_,_=>chkR_1
 |2,_,_=>chkR_2
 |3,_,_=>chkR_3
 |4,_,_=>chkR_4
 |5,_,_=>chkR_5
 |6,_,_=>chkR_6
 |7,_,_=>chkR_7
 |0,h,_=>by omega
 |n+8,_,h=>by omega
theorem chkS_1:chkS 1=true:=by kernel_rfl
theorem chkS_2:chkS 2=true:=by kernel_rfl
theorem chkS_3:chkS 3=true:=by kernel_rfl
theorem chkS_4:chkS 4=true:=by kernel_rfl
theorem chkS_5:chkS 5=true:=by kernel_rfl
theorem chkS_6:chkS 6=true:=by kernel_rfl
theorem chkS_7:chkS 7=true:=by kernel_rfl
theorem chk_sp:∀n:Nat,1<=n->n<=7->chkS n=true
 |1,_,_=>chkS_1
 |2,_,_=>chkS_2
 |3,_,_=>chkS_3
 |4,_,_=>chkS_4
 |5,_,_=>chkS_5
 |6,_,_=>chkS_6
 |7,_,_=>chkS_7
 |0,h,_=>by omega
 |n+8,_,h=>by omega
theorem chkI_1:chkI 1=true:=by kernel_rfl
theorem chkI_2:chkI 2=true:=by kernel_rfl
theorem chkI_3:chkI 3=true:=by kernel_rfl
theorem chkI_4:chkI 4=true:=by kernel_rfl
theorem chkI_5:chkI 5=true:=by kernel_rfl
theorem chkI_6:chkI 6=true:=by kernel_rfl
theorem chkI_7:chkI 7=true:=by kernel_rfl
theorem chk_im:∀n:Nat,1<=n->n<=7->chkI n=true
 |1,_,_=>chkI_1
 |2,_,_=>chkI_2
 |3,_,_=>chkI_3
 |4,_,_=>chkI_4
 |5,_,_=>chkI_5
 |6,_,_=>chkI_6
 |7,_,_=>chkI_7
 |0,h,_=>by omega
 |n+8,_,h=>by omega
structure SetsP(n:Nat):Prop where
 im:∃x,wbet (n:Int)=some x/\HG x/\permL x.1 x.2=setsOf n
 sp:wbgd (n:Int)=some (setsOf n)
 len:(setsOf n).length+1=2^n
 rising:∀s∈setsOf n,risingB s 0 ((n:Int) -1)=true/\0<s.length/\s.length<=7
theorem setsP{n:Nat}(h1:1<=n)(h2:n<=7):SetsP n:=by
 have c3:=chk_all n h1 h2;simp only[chkR,xh,xq]at c3;have hr:∀s∈setsOf n,risingB s 0 ((n:Int) -1)=true/\0<s.length/\s.length<=7:=λs hs=>⟨(c3.1 s hs).1.1,by simpa using(c3.1 s hs).1.2,by simpa using(c3.1 s hs).2⟩
 have c2:=chk_sp n h1 h2;simp only[chkS,qg]at c2;have aa:=c2;have c1:=chk_im n h1 h2;have hi:∃x,wbet (n:Int)=some x/\HG x/\permL x.1 x.2=setsOf n:=by
  unfold chkI at c1;split at c1
  next x hx=>
   simp only[xh,xq,qg]at c1;exact⟨x,hx,λi hi=>by simpa using c1.1 i hi,c1.2⟩
  next=>cases c1
 exact⟨hi,aa,xf c3.2,hr⟩
theorem pow2_le{n:Nat}(h:n<=7):2^n<=2^7:=xdj (by omega) h
theorem setsP_len{n:Nat}(hS:SetsP n)(h:n<=7):(setsOf n).length<=128:=by
 have h1:=hS.len;have h2:=pow2_le h;have h3:2^7<=128:=by decide
 omega
theorem permL_len{α:Type}(ix:List Nat)(l:List (List α)):(permL ix l).length=ix.length:=by simp[permL]
theorem permL_getD{α:Type}{ix:List Nat}(l:List (List α)){i:Nat}(h:i<ix.length):(permL ix l).getD i []=l.getD (ix.getD i 0) []:=by unfold permL;rw[xd,xaa,xd (l:=ix),xg h];rfl
theorem permL_snoc{α:Type}(ix:List Nat)(i:Nat)(l:List (List α)):permL (ix++ [i]) l=permL ix l++ [l.getD i []]:=by simp[permL]
theorem permL_take{α:Type}(ix:List Nat)(l:List (List α))(n:Nat):permL (ix.take n) l=(permL ix l).take n:=by simp[permL]
theorem HG.at{x:List Nat×List (List Int)}(h:HG x){i:Nat}(hi:i<x.1.length):x.1.getD i 0<x.2.length:=h _ (getD_mem hi)
theorem take_snocD{α:Type}{l:List α}{i:Nat}(d:α)(h:i<l.length):l.take (i+1)=l.take i++ [l.getD i d]:=by rw[xan h,xd,xg h];rfl
theorem leastP_eq{x:List Nat×List (List Int)}(hx:HG x)(h0:0<x.1.length)(hl:(x.1.length:Int)<=1048576){p:HL [.slice (.int .i64)]->Option Int}{g:List Int->Int}(hp:∀s∈permL x.1 x.2,p (s,())=some (g s)):
  wbjh p x=some (firstMin g (permL x.1 x.2)):=by
 obtain⟨ix,l⟩:=x;simp only at h0 hl hp⊢;have hn:=permL_len ix l;have ab:∀i,i<ix.length->l.getD (ix.getD i 0) []∈permL ix l:=λi hi=>by rw[<-permL_getD l hi];exact getD_mem (by omega)
 have ai:∀m,0<m->(permL ix l).take m≠ []:=λm hm e=>by have:=congrArg List.length e;simp only[xx,hn,xab]at this;omega
 have hz:Int.toNat 0=0:=rfl;have hb:∀i,i<ix.length->ix.getD i 0<l.length:=λi hi=>HG.at hx hi;have h:=iter_fold (f:=λv=>(wayb (p,(ix.length:Int),ix,l) v).ev) (n:=ix.length) (mk:=λi (b:Nat)=>(b,(i:Int)))
  (I:=λi b=>b<l.length/\l.getD b []∈permL ix l/\l.getD b []=firstMin g ((permL ix l).take (i+if i=0 then 1 else 0))) (g:=λb i=>if g (l.getD (ix.getD i 0) [])<g (l.getD b [])then ix.getD i 0 else b) (fin:=λb=>b) (s0:=ix.getD 0 0)
  ⟨hb 0 h0,ab 0 h0,by rw[qi rfl,take_snocD [] (by omega),permL_getD l h0,xel,xbh,firstMin_one]⟩
  (λi b hi hI=>by
   obtain⟨aj,ae,ad⟩:=hI;have af:=hp _ (ab i hi);have ah:=hp _ ae;have aa:firstMin g ((permL ix l).take (i+1))=if g (l.getD (ix.getD i 0) [])<g (l.getD b [])then l.getD (ix.getD i 0) []else l.getD b []:=by
    by_cases e:i=0;·subst e;rw[qi rfl]at ad;rw[qh,ad];rw[ad,xbz,take_snocD [] (by omega),permL_getD l h0,xel,xbh,firstMin_one];exact xdn _
    ·rw[qh e,xbi]at ad;rw[take_snocD [] (by omega),permL_getD l hi,firstMin_snoc (ai i (by omega)),<-ad]
   by_cases hq:g (l.getD (ix.getD i 0) [])<g (l.getD b [])
   ·refine⟨?_,?_⟩;·simp(disch:=omega)only[EV,wayb,hi,hb i hi,af,ah,hq];rfl
    ·rw[qi hq]at aa⊢;exact⟨hb i hi,ab i hi,by rw[qh (by omega),xbi,aa]⟩
   ·refine⟨?_,?_⟩;·simp(disch:=omega)only[EV,wayb,hi,hb i hi,af,ah,hq];rfl
    ·rw[qh hq]at aa⊢;exact⟨aj,ae,by rw[qh (by omega),xbi,aa]⟩)
  (λb _=>by simp(disch:=omega)only[EV,wayb,xi])
 have h1:wbjg (p,(ix.length:Int),ix,l) (ix.getD 0 0,(0:Int))=_:=h.1;obtain⟨_,_,e⟩:=h.2;rw[qh (by omega),xbi,xaw (by omega)]at e;unfold wbjh wccw;simp(disch:=omega)only[EV,hz,h0,hb 0 h0,h1];rw[<-e]
theorem deleteFunc_eq{x:List Nat×List (List Int)}(hx:HG x)(hl:(x.1.length:Int)<=1048576){p:HL [.slice (.int .i64)]->Option Bool}{q:List Int->Bool}(hp:∀s∈permL x.1 x.2,p (s,())=some (q s)):
  ∃y,wbqw p x=some y/\HG y/\permL y.1 y.2=(permL x.1 x.2).filter λs=> !q s:=by
 obtain⟨ix,l⟩:=x;simp only at hl hp⊢;have hn:=permL_len ix l;have aa:=indexFunc_Sint (l:=permL ix l) (by omega) hp;unfold wbqw wcdb;cases hf:(permL ix l).findIdx? q with
 |none=>rw[hf]at aa;have e:(Option.elim (none:Option Nat) (-1) λi=>((i:Nat):Int))= -1:=rfl;rw[e]at aa;simp(disch:=omega)only[EV,aa,show((-1:Int)== -1)=true from rfl];refine⟨_,rfl,hx,?_⟩;have av:=xgf.1 hf;exact(xfr.2 λs hs=>by rw[av s hs];rfl).symm
 |some i0=>
  rw[hf]at aa;have e:(Option.elim (some i0:Option Nat) (-1) λi=>((i:Nat):Int))=(i0:Int):=rfl;rw[e]at aa;obtain⟨aw,ay,af⟩:=xcv.1 hf;have ba:i0<ix.length:=by omega
  have ah:∀i,i<ix.length->l.getD (ix.getD i 0) []∈permL ix l:=λi hi=>by rw[<-permL_getD l hi];exact getD_mem (by omega)
  have hb:∀i,i<ix.length->ix.getD i 0<l.length:=λi hi=>HG.at hx hi;have ai:((permL ix l).take (i0+1)).filter (λs=> !q s)=(permL ix l).take i0:=by
   rw[xan aw,xez];have e1:((permL ix l).take i0).filter (λs=> !q s)=(permL ix l).take i0:=xfr.2 λs hs=>by
    obtain⟨j,hj,rfl⟩:=xbw hs;have az:j<i0:=by simp at hj;omega
    have:=af j az;simpa using this
   rw[e1];simp[ay]
  have h:=iter_fold (f:=λv=>(wayc p v).ev) (n:=ix.length-(i0+1)) (mk:=λk (st:Nat×List Nat)=>((st.1:Int),((i0+1+k:Nat):Int),st.2,l))
   (I:=λk st=>st.2.length=ix.length/\st.1<=i0+k/\permL (st.2.take st.1) l=((permL ix l).take (i0+1+k)).filter (λs=> !q s)/\st.2.drop (i0+1+k)=ix.drop (i0+1+k)/\∀m∈st.2,m<l.length)
   (g:=λst k=>if q (l.getD (ix.getD (i0+1+k) 0) [])=true then st else(st.1+1,st.2.set st.1 (ix.getD (i0+1+k) 0))) (fin:=λst=>((st.1:Int),st.2,l)) (s0:=(i0,ix))
   ⟨rfl,xm _,by rw[permL_take,xbi,ai],rfl,hx⟩
   (λk st hk hI=>by
    obtain⟨i,jx⟩:=st;obtain⟨a1,a2,a3,a4,a5⟩:=hI;simp only at a1 a2 a3 a4 a5⊢;have hj:i0+1+k<ix.length:=by omega
    have aj:i0+1+k<jx.length:=by omega
    have ak:jx.getD (i0+1+k) 0=ix.getD (i0+1+k) 0:=by have:=congrArg (λl:List Nat=>l[0]?) a4;simp only[xam,xbi]at this;rw[xd,xd,this]
    have ae:=hb _ hj;have al:=hp _ (ah _ hj);have ao:(permL ix l).take (i0+1+(k+1))=(permL ix l).take (i0+1+k)++ [l.getD (ix.getD (i0+1+k) 0) []]:=by rw[show i0+1+(k+1)=(i0+1+k)+1 by omega,take_snocD [] (by omega),permL_getD l hj]
    have ar:jx.drop (i0+1+(k+1))=ix.drop (i0+1+(k+1)):=by have:=congrArg (List.drop 1) a4;rw[xfu,xfu]at this;exact this
    have ab:((i0+1+k:Nat):Int)+1=((i0+1+(k+1):Nat):Int):=by omega
    cases hq:q (l.getD (ix.getD (i0+1+k) 0) [])with
    |true=>
     rw[qi rfl];refine⟨?_,a1,by omega,?_,ar,a5⟩;·simp(disch:=omega)only[EV,wayc,aj,ak,ae,al,hq,ab]
     ·rw[a3,ao,xez,List.filter_cons_of_neg (by rw[hq];exact Bool.noConfusion),List.filter_nil,xax]
    |false=>
     rw[qh (by simp)];have ad:i<jx.length:=by omega
     refine⟨?_,by simpa using a1,by omega,?_,?_,λm hm=>?_⟩;·simp(disch:=omega)only[EV,wayc,aj,ak,ae,al,hq,ab,ad];rfl
     ·rw[take_snocD 0 (by simpa using ad),List.take_set_of_le (xm _),permL_snoc,a3,ao,xez];have e2:(jx.set i (ix.getD (i0+1+k) 0)).getD i 0=ix.getD (i0+1+k) 0:=by rw[xd,List.getElem?_set_self ad];rfl
      rw[e2,List.filter_cons_of_pos (by rw[hq];rfl),List.filter_nil]
     ·rw[List.drop_set_of_lt (by omega)];exact ar
     ·rcases xep hm with h|rfl;·exact a5 m h
      ·exact ae)
   (λst hI=>by
    have e3:i0+1+(ix.length-(i0+1))=st.2.length:=by rw[hI.1];omega
    simp(disch:=omega)only[EV,wayc,e3,xi])
  obtain⟨h1,b1,b2,b3,_,b5⟩:=h;generalize(List.range (ix.length-(i0+1))).foldl _ (i0,ix)=st at h1 b1 b2 b3 b5;obtain⟨i,jx⟩:=st;simp only at h1 b1 b2 b3 b5;have h2:wbjl p ((i0:Int),(i0:Int)+1,ix,l)=some ((i:Int),jx,l):=h1;have au:((i0:Int)== -1)=false:=beq_eq_false_iff_ne.2 (by omega);have ad:i<=jx.length:=by omega
  have e4:(jx.take i++List.replicate (jx.length-i) l.length).length=jx.length:=by simp only[xl,xx,xbg];omega
  have e5:(jx.take i++List.replicate (jx.length-i) l.length).take i=jx.take i:=by rw[xfo (by rw[xx];omega),xff,Nat.min_self]
  have g1:(0:Int)<=(i:Int):=by omega
  have g2:(i:Int)<=((jx.length:Nat):Int):=by omega
  simp(disch:=omega)only[EV,aa,au,h2,e4,e5,g1,g2];refine⟨_,rfl,λm hm=>b5 m (xbp hm),?_⟩;simp only;rw[b3,xaw (by omega)]
theorem setP_places{n:Nat}(_:n<=7)(hS:SetsP n){s:List Int}(hs:s∈setsOf n):Places s n/\0<s.length/\Low1 s:=by
 obtain⟨h1,h2,h3⟩:=hS.rising s hs;have hl:Low1 s:=by unfold Low1;omega
 exact⟨Places.of hl h1,h2,hl⟩
def ofSz(n:Nat)(k:Int):List (List Int):=(setsOf n).filter λs=>decide ((s.length:Int)=k)
def chkNE(n:Nat):Bool:=(List.range n).all λk=>(setsOf n).any λs=>Nat.beq s.length (k+1)
theorem chkNE_all:∀n:Nat,n<=7->chkNE n=true
 |0,_=>by kernel_rfl
 |1,_=>by kernel_rfl
 |2,_=>by kernel_rfl
 |3,_=>by kernel_rfl
 |4,_=>by kernel_rfl
 |5,_=>by kernel_rfl
 |6,_=>by kernel_rfl
 |7,_=>by kernel_rfl
 |n+8,h=>by omega
theorem ofSz_ne{n:Nat}(h7:n<=7){k:Int}(h1:1<=k)(hk:k<=(n:Int)):ofSz n k≠ []:=by have h:=chkNE_all n h7;unfold chkNE at h;have h2:=xq.1 h (k.toNat-1) (xap.2 (by omega));obtain⟨s,hs,e⟩:=xbf.1 h2;have e2:=xf e;intro h3;have h4:s∈ofSz n k:=xaj.2 ⟨hs,by simp;omega⟩;rw[h3]at h4;cases h4
theorem ofSz_mem{n:Nat}{k:Int}{s:List Int}:s∈ofSz n k↔s∈setsOf n/\(s.length:Int)=k:=by unfold ofSz;rw[xaj,qe]
def totF(o:List Int)(ds:List (List Int))(s:List Int):Int:=pay o s+serve ds s
theorem tot_in{o:List Int}{ds:List (List Int)}(hf:Fld o ds){s:List Int}(hs:ris o.length s)(h0:s≠ []):0<=totF o ds s/\totF o ds s<=103809717:=by have hp:=hs.places hf.len;have h1:=pay_in hf hp;have h2:=serve_in hf hp (xar.2 h0);unfold totF;omega
theorem etotal_eq{o:List Int}{ds:List (List Int)}(hf:Fld o ds){s:List Int}(hs:ris o.length s)(h0:s≠ []):wbbv o ds s=some (totF o ds s):=l2Total_eq hf (hs.places hf.len) (xar.2 h0)
def wo(s:List Int)(a:Int):List Int:=s.filter λx=>x !=a
def swF(n:Nat)(s w:List Int)(acc:List (List Int)):List (List Int):=(List.range n).foldl (λacc (b:Nat)=>if s.contains (b:Int)then acc else acc++ [ins (b:Int) w]) acc
def mvStep(n:Nat)(s:List Int)(x:List (List Int)×List (List Int)×List (List Int))(a:Nat):List (List Int)×List (List Int)×List (List Int):=
 if s.contains (a:Int)then(x.1,(if 0<(wo s (a:Int)).length then x.2.1++ [wo s (a:Int)]else x.2.1),swF n s (wo s (a:Int)) x.2.2)
 else(x.1++ [ins (a:Int) s],x.2.1,x.2.2)
def mvs(n:Nat)(s:List Int):List (List Int)×List (List Int)×List (List Int):=(List.range n).foldl (mvStep n s) ([],[],[])
def movesOf(n:Nat)(s:List Int):List (List Int):=(mvs n s).1++(mvs n s).2.1++(mvs n s).2.2
theorem not_contains{s:List Int}{a:Int}(h:s.contains a=false):a∉s:=λhm=>by rw[xcd.2 hm]at h;cases h
theorem swF_inv{n:Nat}{s w:List Int}(Q:List Int->Prop)(h:∀b:Nat,b<n->(b:Int)∉s->Q (ins (b:Int) w)){acc:List (List Int)}(ha:∀m∈acc,Q m):(∀m∈swF n s w acc,Q m)/\(swF n s w acc).length<=acc.length+n:=by
 have key:∀k,k<=n->(∀m∈(List.range k).foldl (λacc (b:Nat)=>if s.contains (b:Int)then acc else acc++ [ins (b:Int) w]) acc,Q m)/\((List.range k).foldl (λacc (b:Nat)=>if s.contains (b:Int)then acc else acc++ [ins (b:Int) w]) acc).length<=acc.length+k:=by
  intro k;induction k with
  |zero=>intro _;exact⟨ha,xm _⟩
  |succ k ih=>
   intro hk;obtain⟨i1,i2⟩:=ih (by omega);rw[foldl_range_succ];cases hc:s.contains (k:Int)with
   |true=>simp only[if_true];exact⟨i1,by omega⟩
   |false=>
    simp only[xai,if_false];refine⟨λm hm=>?_,by rw[xl,xdc];omega⟩;rcases xt.1 hm with hm|hm;·exact i1 m hm
    ·rw[xp.1 hm];exact h k (by omega) (not_contains hc)
 exact key n (xm _)
theorem mvs_inv{n:Nat}{s:List Int}(Q:List Int->Prop)(h1:∀a:Nat,a<n->(a:Int)∉s->Q (ins (a:Int) s))(h2:∀a:Nat,a<n->(a:Int)∈s->0<(wo s (a:Int)).length->Q (wo s (a:Int)))
  (h3:∀a:Nat,a<n->(a:Int)∈s->∀b:Nat,b<n->(b:Int)∉s->Q (ins (b:Int) (wo s (a:Int)))):∀k,k<=n->(∀m∈((List.range k).foldl (mvStep n s) ([],[],[])).1,Q m)/\(∀m∈((List.range k).foldl (mvStep n s) ([],[],[])).2.1,Q m)/\(∀m∈((List.range k).foldl (mvStep n s) ([],[],[])).2.2,Q m)/\
  ((List.range k).foldl (mvStep n s) ([],[],[])).1.length<=k/\((List.range k).foldl (mvStep n s) ([],[],[])).2.1.length<=k/\((List.range k).foldl (mvStep n s) ([],[],[])).2.2.length<=k*n:=by
 intro k;induction k with
 |zero=>intro _;exact⟨λm h=>(by cases h),λm h=>(by cases h),λm h=>(by cases h),xm _,xm _,by simp⟩
 |succ k ih=>
  intro hk;obtain⟨i1,i2,i3,i4,i5,i6⟩:=ih (by omega);rw[foldl_range_succ];generalize(List.range k).foldl (mvStep n s) ([],[],[])=x at i1 i2 i3 i4 i5 i6⊢;unfold mvStep;have hmul:(k+1)*n=k*n+n:=by rw[xbr,xgg]
  cases hc:s.contains (k:Int)with
  |true=>
   have hm:=xcd.1 hc;obtain⟨j1,j2⟩:=swF_inv (n:=n) (s:=s) (w:=wo s (k:Int)) Q (h3 k (by omega) hm) i3;simp only[if_true];refine⟨i1,?_,j1,by omega,?_,by omega⟩
   ·split
    next hp=>
     intro m aa;rcases xt.1 aa with aa|aa;·exact i2 m aa
     ·rw[xp.1 aa];exact h2 k (by omega) hm hp
    next=>exact i2
   ·split;·simp;omega
    ·omega
  |false=>
   simp only[xai,if_false];refine⟨λm hm=>?_,i2,i3,by simp;omega,by omega,by omega⟩;rcases xt.1 hm with hm|hm;·exact i1 m hm
   ·rw[xp.1 hm];exact h1 k (by omega) (not_contains hc)
theorem wo_notin{s:List Int}{a b:Int}(h:b∉s):b∉wo s a:=λhm=>h (xaj.1 hm).1
theorem ris.wo{n:Nat}{s:List Int}(h:ris n s)(a:Int):ris n (wo s a):=h.filter _
theorem movesOf_ris{n:Nat}{s:List Int}(h:ris n s):∀m∈movesOf n s,ris n m/\m≠ []:=by
 have aa:∀x (l:List Int),ins x l≠ []:=λx l e=>by have:=eins_len x l;rw[e]at this;simp at this
 obtain⟨h1,h2,h3,_⟩:=mvs_inv (n:=n) (s:=s) (λm=>ris n m/\m≠ []) (λa ha hn=>⟨h.ins (by omega) (by omega) hn,aa _ _⟩) (λa ha hm hp=>⟨h.wo _,xar.1 hp⟩)
  (λa ha hm b hb hn=>⟨(h.wo _).ins (by omega) (by omega) (wo_notin hn),aa _ _⟩) n (xm _)
 intro m hm;rcases xt.1 hm with hm|hm
 ·rcases xt.1 hm with hm|hm;·exact h1 m hm
  ·exact h2 m hm
 ·exact h3 m hm
theorem movesOf_len{n:Nat}(hn:n<=7)(s:List Int):(movesOf n s).length<=100:=by obtain⟨_,_,_,h1,h2,h3⟩:=mvs_inv (n:=n) (s:=s) (λ_=>True) (λ_ _ _=>trivial) (λ_ _ _ _=>trivial) (λ_ _ _ _ _ _=>trivial) n (xm _);have hmul:n*n<=7*7:=xfd hn hn;have q1:(mvs n s).1.length<=n:=h1;have q2:(mvs n s).2.1.length<=n:=h2;have q3:(mvs n s).2.2.length<=n*n:=h3;unfold movesOf;rw[xl,xl];omega
theorem wo_len(s:List Int)(a:Int):(wo s a).length<=s.length:=xdq _ _
theorem mv2_eq(k:(List (Int))×(Int)×(Nat)×(List (Int))×(List (List (Int)))×(List (List (Int)))×(List (List (Int)))){s w:List Int}{n:Nat}(h1:k.1=s)(h2:k.2.2.2.1.length=n)(h3:List.getD k.2.2.2.2.2.2 k.2.2.1 []=w)
  (hn:n<=7) (hs:s.length<=7) (hw:w.length<=7) (aa:∀b,b∉s->b∉w) {acc:List (List Int)} (ha:acc.length<=1000):wbft k (0,acc)=some (swF n s w acc):=by
 have h:=(iter_fold (f:=λv=>(waxc k v).ev) (n:=n) (mk:=λi (acc:List (List Int))=>((i:Int),acc)) (I:=λi a=>a.length<=1000+i) (g:=λacc (b:Nat)=>if s.contains (b:Int)then acc else acc++ [ins (b:Int) w]) (fin:=λs=>s) (s0:=acc) (by omega)
  (λi x hi hx=>by
   have e1:=ehas_eq (l:=s) (by omega) (i:Int);have e2:(i:Int)<((k.2.2.2.1.length:Nat):Int):=by omega
   cases hc:s.contains (i:Int)with
   |true=>rw[hc]at e1;refine⟨?_,by simp only[if_true];omega⟩;simp(disch:=omega)only[EV,waxc,h1,h2,e1,hi];rfl
   |false=>rw[hc]at e1;have e3:=eput_eq (l:=w) (x:=(i:Int)) (by omega) (aa _ (not_contains hc));have r1:=room24 x (by omega);refine⟨?_,by simp;omega⟩;simp(disch:=omega)only[EV,waxc,h1,h2,h3,e1,e3,hi,r1,set_end];rfl)
  (λx _=>by simp(disch:=omega)only[EV,waxc,h2,xi])).1
 exact h
theorem mv2b_eq(k:(List (Int))×(Int)×(List (Int))×(List (List (Int)))×(List (List (Int)))×(List (List (Int)))×(List (Int))){s w:List Int}{n:Nat}(h1:k.1=s)(h2:k.2.2.1.length=n)(h3:k.2.2.2.2.2.2=w)
  (hn:n<=7) (hs:s.length<=7) (hw:w.length<=7) (aa:∀b,b∉s->b∉w) {acc:List (List Int)} (ha:acc.length<=1000):wazb k (0,acc)=some (swF n s w acc):=by
 have h:=(iter_fold (f:=λv=>(wakn k v).ev) (n:=n) (mk:=λi (acc:List (List Int))=>((i:Int),acc)) (I:=λi a=>a.length<=1000+i) (g:=λacc (b:Nat)=>if s.contains (b:Int)then acc else acc++ [ins (b:Int) w]) (fin:=λs=>s) (s0:=acc) (by omega)
  (λi x hi hx=>by
   have e1:=ehas_eq (l:=s) (by omega) (i:Int);cases hc:s.contains (i:Int)with
   |true=>rw[hc]at e1;refine⟨?_,by simp only[if_true];omega⟩;simp(disch:=omega)only[EV,wakn,h1,h2,e1,hi];rfl
   |false=>rw[hc]at e1;have e3:=eput_eq (l:=w) (x:=(i:Int)) (by omega) (aa _ (not_contains hc));have r1:=room24 x (by omega);refine⟨?_,by simp;omega⟩;simp(disch:=omega)only[EV,wakn,h1,h2,h3,e1,e3,hi,r1,set_end];rfl)
  (λx _=>by simp(disch:=omega)only[EV,wakn,h2,xi])).1
 exact h
theorem emoves_eq{o s:List Int}(ds:List (List Int))(ho:o.length<=7)(hs:s.length<=7):wbvu o ds s=some (movesOf o.length s):=by
 have h:=(iter_fold (f:=λv=>(waua (s,o,ds) v).ev) (n:=o.length) (mk:=λi (x:List (List Int)×List (List Int)×List (List Int))=>((i:Int),x)) (I:=λi x=>x.1.length<=i/\x.2.1.length<=i/\x.2.2.length<=i*o.length) (g:=mvStep o.length s) (fin:=λx=>x) (s0:=([],[],[])) ⟨xm _,xm _,by simp⟩
  (λi x hi hx=>by
   obtain⟨x1,x2,x3⟩:=x;obtain⟨g1,g2,g3⟩:=hx;simp only at g1 g2 g3;have hmul:(i+1)*o.length=i*o.length+o.length:=by rw[xbr,xgg]
   have aa:i*o.length<=7*7:=xfd (by omega) ho;have e1:=ehas_eq (l:=s) (by omega) (i:Int);unfold mvStep;cases hc:s.contains (i:Int)with
   |false=>rw[hc]at e1;have e3:=eput_eq (l:=s) (x:=(i:Int)) (by omega) (not_contains hc);have r1:=room24 x1 (by omega);simp only[xai,if_false];refine⟨?_,by simp;omega,by omega,by omega⟩;simp(disch:=omega)only[EV,waua,e1,e3,hi,r1,set_end];rfl
   |true=>
    rw[hc]at e1;have e3:=ewithout_eq (l:=s) (by omega) (i:Int);have hw:=wo_len s (i:Int);have hj:=(swF_inv (n:=o.length) (s:=s) (w:=wo s (i:Int)) (λ_=>True) (λ_ _ _=>trivial) (acc:=x3) λ_ _=>trivial).2;simp only[if_true];by_cases hp:0<(wo s (i:Int)).length
    ·have r1:=room24 x2 (by omega);have ad:0<(List.filter (λx=>x != (i:Int)) s).length:=hp;have e4:=mv2_eq (s,(i:Int),x2.length,o,ds,x1,(List.set (x2++ [[]]) x2.length (wo s (i:Int)))) (w:=wo s (i:Int)) rfl rfl (by show List.getD (List.set (x2++ [[]]) x2.length (wo s (i:Int))) x2.length []=wo s (i:Int);rw[set_end];simp) ho hs (by omega) (λb hb=>wo_notin hb) (acc:=x3) (by omega);unfold wo at e4;rw[set_end]at e4;rw[qi hp];refine⟨?_,by omega,by simp;omega,by omega⟩;have ab:((0:Int)<(((List.filter (λx=>x != (i:Int)) s).length:Nat):Int)):=by omega
     simp(disch:=omega)only[EV,waua,e1,e3,hi,r1,ab,e4,set_end];rfl
    ·have e4:=mv2b_eq (s,(i:Int),o,ds,x1,x2,wo s (i:Int)) (w:=wo s (i:Int)) rfl rfl rfl ho hs (by omega) (λb hb=>wo_notin hb) (acc:=x3) (by omega);rw[qh hp];unfold wo at e4 hp;refine⟨?_,by omega,by omega,by omega⟩;have ab:¬((0:Int)<(((List.filter (λx=>x != (i:Int)) s).length:Nat):Int)):=by omega
     simp(disch:=omega)only[EV,waua,e1,e3,hi,ab,e4];rfl)
  (λx _=>by simp(disch:=omega)only[EV,waua,xi]))
 obtain⟨h1,g1,g2,g3⟩:=h;have h0:wbfu (s,o,ds) (0,[],[],[])=some (mvs o.length s):=h1;have q1:(mvs o.length s).1.length<=o.length:=g1;have q2:(mvs o.length s).2.1.length<=o.length:=g2;have q3:(mvs o.length s).2.2.length<=o.length*o.length:=g3;have aa:o.length*o.length<=7*7:=xfd ho ho;have r1:((mvs o.length s).1.length+(mvs o.length s).2.1.length)*24<=140737488355328:=by omega
 have r2:(((mvs o.length s).1++(mvs o.length s).2.1).length+(mvs o.length s).2.2.length)*24<=140737488355328:=by rw[xl];omega
 unfold wbvu wbvt;rw[qn,h0,xc,qp,qc r1,qa,qp,qc r2,qa,qq];rfl
def betterOf(o:List Int)(ds:List (List Int))(s:List Int):Option (List Int):=(movesOf o.length s).find? λm=>decide (totF o ds m<totF o ds s)
theorem betterOf_some{o:List Int}{ds:List (List Int)}{s m:List Int}(hs:ris o.length s)(h:betterOf o ds s=some m):ris o.length m/\m≠ []/\totF o ds m<totF o ds s:=by unfold betterOf at h;have h1:=List.find?_some h;obtain⟨a,b⟩:=movesOf_ris hs m (xgd h);exact⟨a,b,of_decide_eq_true h1⟩
theorem find_idx{α:Type}(q:α->Bool)(d:α):∀l:List α,l.find? q=(l.findIdx? q).map λi=>l.getD i d
 | []=>rfl
 |x::l=>by
  rw[xgx,xec];cases hx:q x with
  |true=>simp
  |false=>have ih:=find_idx q d l;simp only[xai,if_false];rw[ih];cases l.findIdx? q<;>simp
def locN(o:List Int)(ds:List (List Int)):Nat->List Int->Nat×List Int
 |0,s=>(0,s)
 |m+1,s=>match betterOf o ds s with
  |some t=>((locN o ds m t).1+1,(locN o ds m t).2)
  |none=>(0,s)
def locOf(o:List Int)(ds:List (List Int))(s:List Int):Nat×List Int:=locN o ds 103809717 s
theorem locN_spec{o:List Int}{ds:List (List Int)}(hf:Fld o ds):∀(m:Nat) {s:List Int},ris o.length s->s≠ []->totF o ds s<=(m:Int)->
  ris o.length (locN o ds m s).2/\(locN o ds m s).2≠ []/\betterOf o ds (locN o ds m s).2=none/\totF o ds (locN o ds m s).2+((locN o ds m s).1:Int)<=totF o ds s/\(locN o ds m s).1<=m
 |0,s,hs,h0,hm=>by
  refine⟨hs,h0,?_,by simp[locN],xm _⟩;show betterOf o ds s=none;cases hb:betterOf o ds s with
  |none=>rfl
  |some t=>obtain⟨a,b,c⟩:=betterOf_some hs hb;have:=tot_in hf a b;omega
 |m+1,s,hs,h0,hm=>by
  unfold locN;cases hb:betterOf o ds s with
  |none=>exact⟨hs,h0,hb,by simp,by simp⟩
  |some t=>obtain⟨a,b,c⟩:=betterOf_some hs hb;obtain⟨i1,i2,i3,i4,i5⟩:=locN_spec hf m a b (by omega);refine⟨i1,i2,i3,?_,by simp only;omega⟩;simp only;omega
theorem locOf_spec{o:List Int}{ds:List (List Int)}(hf:Fld o ds){s:List Int}(hs:ris o.length s)(h0:s≠ []):
  ris o.length (locOf o ds s).2/\(locOf o ds s).2≠ []/\betterOf o ds (locOf o ds s).2=none/\totF o ds (locOf o ds s).2+((locOf o ds s).1:Int)<=totF o ds s/\(locOf o ds s).1<=103809717:=
 locN_spec hf 103809717 hs h0 (by have:=(tot_in hf hs h0).2;omega)
def optB(x:Option (List Int)):Bool×List Int:=match x with
 |some m=>(true,m)
 |none=>(false,[])
theorem ebetter_eq{o:List Int}{ds:List (List Int)}(hf:Fld o ds){s:List Int}(hs:ris o.length s)(h0:s≠ []):wbfy o ds s=some (optB (betterOf o ds s)):=by
 have hl:=hs.len;have h7:=hf.len;have e1:=emoves_eq (o:=o) (s:=s) ds h7 (by omega);have e2:=etotal_eq hf hs h0;have ab:=movesOf_len h7 s;have h:=iter_forE (f:=λv=>(waxe (s,o,ds,movesOf o.length s) v).ev) (l:=movesOf o.length s) [] (λm=>decide (totF o ds m<totF o ds s)) (mk:=λi=>(i:Int)) (yes:=λi=>.inr i) (no:=.inl ())
  (λi hi=>by
   obtain⟨a,b⟩:=movesOf_ris hs _ (getD_mem (d:=[]) hi);have e3:=etotal_eq hf a b;by_cases aa:totF o ds ((movesOf o.length s).getD i [])<totF o ds s;·simp(disch:=omega)only[EV,waxe,hi,e2,e3,aa]
   ·simp(disch:=omega)only[EV,waxe,hi,e2,e3,aa];rfl)
  (by simp(disch:=omega)only[EV,waxe,xi])
 have hb:wbfx (s,o,ds,movesOf o.length s) 0=_:=h;unfold wbfy wbwd;rw[qn,e1,xc,qn,hb,xc];unfold betterOf;rw[find_idx _ []];cases(movesOf o.length s).findIdx? λm=>decide (totF o ds m<totF o ds s)<;>rfl
theorem eloc_run{o:List Int}{ds:List (List Int)}(hf:Fld o ds):∀(m:Nat) {s:List Int} (many:Int),0<=many->many+(m:Int)<=1000000000->ris o.length s->s≠ []->totF o ds s<=(m:Int)->
  wazf (o,ds) (many,(optB (betterOf o ds s)).1,s,(optB (betterOf o ds s)).2)=some (many+((locN o ds m s).1:Int),(locN o ds m s).2):=by
 have out:∀{s:List Int} (many:Int),betterOf o ds s=none->wazf (o,ds) (many,(optB (betterOf o ds s)).1,s,(optB (betterOf o ds s)).2)=some (many,s):=λ{s} many hb=>by rw[hb];unfold wazf;rw[iter_eq];simp(disch:=omega)only[EV,waze,optB]
 intro m;induction m with
 |zero=>
  intro s many h1 h2 hs h0 ht;have hb:betterOf o ds s=none:=by
   cases hb:betterOf o ds s with
   |none=>rfl
   |some t=>obtain⟨a,b,c⟩:=betterOf_some hs hb;have:=tot_in hf a b;omega
  rw[out many hb];simp[locN]
 |succ m ih=>
  intro s many h1 h2 hs h0 ht;cases hb:betterOf o ds s with
  |none=>have:=out many hb;rw[hb]at this;rw[this];simp[locN,hb]
  |some t=>
   obtain⟨a,b,c⟩:=betterOf_some hs hb;have e1:=ebetter_eq hf a b;have hw:IntKind.wrap .i64 (many+1)=many+1:=wrap64 (by omega) (by omega);have aa:=ih (s:=t) (many+1) (by omega) (by omega) a b (by omega);unfold wazf at aa⊢;rw[iter_eq];have ab:(waze (o,ds) (many,(optB (some t)).1,s,(optB (some t)).2)).ev=some (.inl (many+1,(optB (betterOf o ds t)).1,t,(optB (betterOf o ds t)).2)):=by simp(disch:=omega)only[EV,waze,optB,e1,hw]
   rw[ab];simp only;rw[aa];simp only[locN,hb,xe,xcw,ql];omega
theorem elocal_eq{o:List Int}{ds:List (List Int)}(ho:Low1 o)(hd:Low2 ds){s:List Int}(hs:Low1 s):wbwf o ds s=some (bif openB o ds s then(((locOf o ds s).1:Int),true,(locOf o ds s).2)else(0,false,[])):=by
 have e1:=l2Two_eq ho hd hs;unfold wbwf wbwe;rw[qn,e1,xc,qo];cases hb:openB o ds s with
 |false=>rfl
 |true=>
  obtain⟨hf,hp,h0⟩:=openB_iff hs hb;have hr:ris o.length s:=by unfold openB at hb;simp only[xh]at hb;exact ris_iff.1 hb.2.1
  have aa:s≠ []:=xar.1 h0;have hl:=hr.len;have h7:=hf.len;have e2:=eown_eq (l:=s) (by omega);have e3:=ebetter_eq hf hr aa;have e4:=eloc_run hf 103809717 (s:=s) 0 (by omega) (by omega) hr aa (tot_in hf hr aa).2;rw[xk,qb,qn,e2,xc,qn,e3,xc,qn,e4,xc,qq,qa,Int.zero_add];rfl
def bestOf(o:List Int)(ds:List (List Int)):List Int:=firstMin (totF o ds) (setsOf o.length)
theorem sets_ris{n:Nat}(h1:1<=n)(h7:n<=7){s:List Int}(hs:s∈setsOf n):ris n s/\s≠ []:=by obtain⟨a,b,_⟩:=(setsP h1 h7).rising s hs;exact⟨ris_iff.1 a,xar.1 b⟩
theorem sets_ne{n:Nat}(h1:1<=n)(h7:n<=7):setsOf n≠ []:=λe=>by have:=(setsP h1 h7).len;rw[e]at this;have h2:2^1<=2^n:=xdj (by omega) h1;simp at this;omega
theorem bestOf_mem{o:List Int}{ds:List (List Int)}(hf:Fld o ds):bestOf o ds∈setsOf o.length/\∀s∈setsOf o.length,totF o ds (bestOf o ds)<=totF o ds s:=by obtain⟨a,b⟩:=firstMin_spec (g:=totF o ds) (sets_ne hf.pos hf.len);refine⟨a,λs hs=>?_⟩;show totF o ds (firstMin (totF o ds) (setsOf o.length))<=_;rw[b];exact(lstMin_spec (λe=>sets_ne hf.pos hf.len (xfq.1 e))).2 _ (xcy hs)
theorem ebest_eq{o:List Int}{ds:List (List Int)}(hf:Fld o ds):wbwm o ds=some (bestOf o ds):=by
 have hS:=setsP hf.pos hf.len;have ai:=sets_ne hf.pos hf.len;have hl:=setsP_len hS hf.len;have e1:=hS.sp;have hr:∀s∈setsOf o.length,wbbv o ds s=some (totF o ds s):=λs hs=>by obtain⟨a,b⟩:=sets_ris hf.pos hf.len hs;exact etotal_eq hf a b
 unfold bestOf;generalize setsOf o.length=L at*;have af:0<L.length:=xar.2 ai;have h:=iter_cnt (f:=λv=>(wazg (L,o,ds) v).ev) (n:=L.length-1) (λi v=>v=(firstMin (totF o ds) (L.take (i+1)),((i+1:Nat):Int))) (λr=>r=firstMin (totF o ds) L)
  (λi v hi hv=>by
   subst hv;have ab:i+1<L.length:=by omega
   have aa:L.take (i+1)≠ []:=λe=>by have:=congrArg List.length e;rw[xx]at this;simp only[xab]at this;omega
   have aj:=(firstMin_spec (g:=totF o ds) aa).1;have e2:=hr _ (xbp aj);have e3:=hr _ (getD_mem (d:=[]) ab);have ah:=firstMin_snoc (g:=totF o ds) aa (L.getD (i+1) []);rw[<-take_snoc [] ab]at ah;refine⟨_,?_,rfl⟩;have hw:IntKind.wrap .i64 (((i+1:Nat):Int)+1)=((i+1+1:Nat):Int):=by rw[wrap64 (by omega) (by omega)];rfl
   have ad:((i+1:Nat):Int)<((L.length:Nat):Int):=by omega
   have ae:=inR_nat ab;unfold wazg;dsimp only;rw[qo,qc ad,qa,qp,ae,qa,qn,xy,e3,xc,qn,e2,xc,qo,hw,ah];by_cases hc:totF o ds (L.getD (i+1) [])<totF o ds (firstMin (totF o ds) (L.take (i+1)));·rw[qc hc,qa,qi hc,qp,qa,qq]
   ·rw[qd hc,qb,qh hc,qq])
  (λv hv=>by
   subst hv;have ad:¬((L.length-1+1:Nat):Int)<((L.length:Nat):Int):=by omega
   refine⟨firstMin (totF o ds) (List.take (L.length-1+1) L),?_,by rw[xaw (by omega)]⟩;unfold wazg;dsimp only;rw[qo,qd ad,qb,qq])
  (v:=(L.getD 0 [],1)) (by have h1:=take_snoc (l:=L) (i:=0) [] af;rw[xel,xbh]at h1;rw[h1,firstMin_one];rfl)
 obtain⟨r,h1,rfl⟩:=h;have hL:wbge (L,o,ds) (L.getD 0 [],1)=some (firstMin (totF o ds) L):=h1;unfold wbwm wbwl;have ae:inR (0:Int) L.length=true:=inR_int (by omega) (by omega);rw[qn,e1,xc,qp,ae,qa,qn];have ht:Int.toNat 0=0:=rfl;rw[ht,hL,xc,qq]
section
variable {K:Int->Int}
def insK(K:Int->Int)(x:Int):List Int->List Int
 | []=>[x]
 |a::l=>if K a<=K x then a::insK K x l else x::a::l
def sortK(K:Int->Int)(l:List Int):List Int:=l.foldl (λacc x=>insK K x acc) []
theorem insK_snoc{x y:Int}(h:K x<K y):∀q:List Int,insK K x (q++ [y])=insK K x q++ [y]
 | []=>by simp[insK];omega
 |a::q=>by
  simp only[xbt,insK];split;·rw[insK_snoc h q];rfl
  ·rfl
theorem insK_last{x:Int}:∀{l:List Int},(∀y∈l,K y<=K x)->insK K x l=l++ [x]
 | [],_=>rfl
 |a::l,h=>by simp only[insK,qi (h a xu),xbt];rw[insK_last λy hy=>h y (xr _ hy)]
theorem insK_perm(x:Int):∀l:List Int,(insK K x l).Perm (x::l)
 | []=>.refl _
 |a::l=>by
  simp only[insK];split;·exact((insK_perm x l).cons a).trans (.swap x a l)
  ·exact .refl _
theorem insK_sorted{x:Int}:∀{l:List Int},l.Pairwise (λa b=>K a<=K b)->(insK K x l).Pairwise λa b=>K a<=K b
 | [],_=>by simp[insK]
 |a::l,h=>by
  rw[xbj]at h;simp only[insK];split
  next hx=>
   rw[xbj];refine⟨λy hy=>?_,insK_sorted h.2⟩;rcases xaf.1 ((insK_perm x l).mem_iff.1 hy)with e|hy;·rw[e];exact hx
   ·exact h.1 y hy
  next hx=>
   rw[xbj,xbj];refine⟨λy hy=>?_,h⟩;rcases xaf.1 hy with rfl|hy;·omega
   ·have:=h.1 y hy;omega
theorem sortK_snoc(l:List Int)(x:Int):sortK K (l++ [x])=insK K x (sortK K l):=by simp[sortK]
theorem sortK_inv:∀l:List Int,(sortK K l).Pairwise (λa b=>K a<=K b)/\(sortK K l).Perm l:=by
 intro l;have key:∀(l acc:List Int),acc.Pairwise (λa b=>K a<=K b)->(l.foldl (λacc x=>insK K x acc) acc).Pairwise (λa b=>K a<=K b)/\(l.foldl (λacc x=>insK K x acc) acc).Perm (acc++l):=by
  intro l;induction l with
  |nil=>intro acc h;exact⟨h,by simp⟩
  |cons x l ih=>intro acc h;obtain⟨h1,h2⟩:=ih (insK K x acc) (insK_sorted h);refine⟨h1,h2.trans (((insK_perm x acc).append_right l).trans ?_)⟩;rw[xbt];exact List.perm_middle.symm
 have h:=key l [] List.Pairwise.nil;rw[xbh]at h;exact h
theorem insK_find(x:Int):∀l:List Int,l.take ((l.findIdx? λy=> !decide (K y<=K x)).elim l.length id)++x::l.drop ((l.findIdx? λy=> !decide (K y<=K x)).elim l.length id)=insK K x l
 | []=>rfl
 |a::l=>by
  have ih:=insK_find x l;rw[xec];by_cases h:K a<=K x
  ·simp only[h,decide_true,xk,xai,if_false,insK,if_true];cases hf:l.findIdx? λy=> !decide (K y<=K x)with|none=>rw[hf]at ih;simpa using ih|some j=>rw[hf]at ih;simpa using ih
  ·simp[h,insK]
theorem getD_midK{p r:List Int}{x:Int}:(p++x::r).getD p.length 0=x:=by rw[xd,xad (xm _),xdt];rfl
theorem sortK_fin(l:List Int):(List.range (l.length-1)).foldl (λ_ k=>sortK K (l.take (k+2))++l.drop (k+2)) l=sortK K l:=by
 cases hn:l.length-1 with
 |zero=>
  rcases l with _|⟨a,_|⟨b,l⟩⟩
  ·rfl
  ·rfl
  ·simp at hn
 |succ n=>rw[xee,xcq];simp only[xbm,xfz];rw[xaw (by omega),xgv (by omega),xax]
def CmpK(K:Int->Int)(M:Int->Prop)(p:HL [.int .i64,.int .i64]->Option Int):Prop:=∀x y,M x->M y->∃c,p (x,y,())=some c/\(c<0↔K x<K y)
theorem insertionK_in{M:Int->Prop}{f:HL [.int .i64,.int .i64]->Option Int}(hf:CmpK K M f)(n i:Int):∀(m:Nat) (p:List Int) (x:Int) (r:List Int),p.length=m->(∀y∈p,M y)->M x->(p.length:Int)<9223372036854775807->p.Pairwise (λa b=>K a<=K b)->
  wbbc (0,n,f,i) ((p.length:Int),p++x::r)=some (insK K x p++r):=by
 intro m;induction m with
 |zero=>intro p x r hm _ _ _ _;have:=xz hm;subst this;unfold wbbc;rw[iter_eq];simp(disch:=omega)only[EV,wavi,xab,xdn,show((0:Nat):Int)=0 from rfl];rfl
 |succ m ih=>
  intro p x r hm hM hx ah hp;obtain⟨q,y,rfl⟩:∃q y,p=q++ [y]:=by
   have:=xfk p;rcases this with h|⟨q,y,h⟩
   ·rw[h]at hm;cases hm
   ·exact⟨q,y,by simpa using h⟩
  have aa:q.length=m:=by simpa using hm
  have e0:((q++ [y]).length:Int)=((m+1:Nat):Int):=by simp[aa]
  rw[e0]at ah⊢;have e2:((m+1:Nat):Int) -1=(m:Int):=by omega
  have g1:((q++ [y])++x::r).getD (m+1) 0=x:=by have:=getD_midK (p:=q++ [y]) (x:=x) (r:=r);rwa [show(q++ [y]).length=m+1 by simp[aa]]at this
  have g2:((q++ [y])++x::r).getD m 0=y:=by have:=getD_midK (p:=q) (x:=y) (r:=x::r);rw[aa]at this;simpa using this
  have hl:((q++ [y])++x::r).length=m+2+r.length:=by simp[aa];omega
  have s1:(((q++ [y])++x::r).set (m+1) y).set m x=q++x::(y::r):=by
   have t1:((q++ [y])++x::r).set (m+1) y=(q++ [y])++y::r:=by rw[xck _ _ (by simp[aa]),show m+1-(q++ [y]).length=0 by simp[aa]];rfl
   rw[t1,xcf,xck _ _ (by omega),show m-q.length=0 by omega];rfl
  have ad:¬K x<K y->((q++ [y])++x::r)=insK K x (q++ [y])++r:=λab=>by
   rw[insK_last];·simp
   ·intro z hz;rcases xt.1 hz with hz|hz;·have:=(xdi.1 hp).2.2 z hz y (by simp);omega
    ·have:=xp.1 hz;rw[this];omega
  have h0:(0:Int)<((m+1:Nat):Int):=by omega
  have h1:m+1<m+2+r.length:=by omega
  have h2:m<m+2+r.length:=by omega
  obtain⟨c,hc,af⟩:=hf x y hx (hM y (by simp));generalize((q++ [y])++x::r)=L at g1 g2 hl s1 ad;unfold wbbc;rw[iter_eq];by_cases ab:K x<K y
  ·have ae:=af.2 ab;have e:(wavi (0,n,f,i) (((m+1:Nat):Int),L)).ev=some (.inl ((m:Int),q++x::(y::r))):=by simp(disch:=omega)only[EV,wavi,h0,hl,h1,e2,h2,g1,g2,hc,ae,xbc,s1]
   rw[e];have:=ih q x (y::r) aa (λz hz=>hM z (by simp[hz])) hx (by omega) (xdi.1 hp).1;rw[aa]at this;unfold wbbc at this;simp only;rw[this,insK_snoc ab];simp
  ·have ae:¬c<0:=λh=>ab (af.1 h);have e:(wavi (0,n,f,i) (((m+1:Nat):Int),L)).ev=some (.inr L):=by simp(disch:=omega)only[EV,wavi,h0,hl,h1,e2,h2,g1,g2,hc,ae]
   rw[e];simp only;rw[ad ab]
theorem insertionK_eq{M:Int->Prop}{f:HL [.int .i64,.int .i64]->Option Int}(hf:CmpK K M f){l:List Int}(hM:∀x∈l,M x)(hl:(l.length:Int)<9223372036854775806):wbsa 0 (l.length:Int) f l=some (sortK K l):=by
 have key:=(iter_fold (f:=λv=>(wbbd (0,(l.length:Int),f) v).ev) (n:=l.length-1) (mk:=λk (s:List Int)=>(((k+1:Nat):Int),s)) (I:=λk s=>s=sortK K (l.take (k+1))++l.drop (k+1)) (g:=λ_ k=>sortK K (l.take (k+2))++l.drop (k+2)) (fin:=λs=>s) (s0:=l) (by
   cases l with
   |nil=>rfl
   |cons a l=>simp[sortK,insK])
  (λk s hk hs=>by
   subst hs;have aa:k+1<l.length:=by omega
   obtain⟨h1,h2⟩:=sortK_inv (K:=K) (l.take (k+1));have h3:(sortK K (l.take (k+1))).length=k+1:=by rw[h2.length_eq];simp;omega
   have h4:l.drop (k+1)=l[k+1]::l.drop (k+2):=xbe aa;have h5:sortK K (l.take (k+2))=insK K l[k+1] (sortK K (l.take (k+1))):=by rw[<-sortK_snoc,xan aa]
   have h6:=insertionK_in hf (l.length:Int) ((k+1:Nat):Int) (k+1) (sortK K (l.take (k+1))) l[k+1] (l.drop (k+2)) h3 (λy hy=>hM y (xbp (h2.mem_iff.1 hy))) (hM _ (xdz aa)) (by rw[h3];omega) h1;rw[h3,<-h4]at h6;refine⟨?_,rfl⟩;simp(disch:=omega)only[EV,wbbd,aa,h6];rw[h5];rfl)
  (λs _=>by simp(disch:=omega)only[EV,wbbd,show¬(l.length-1+1<l.length) by omega])).1
 rw[sortK_fin]at key;have e:wbkd (0,(l.length:Int),f) (1,l)=some (sortK K l):=key;unfold wbsa wcei;simp(disch:=omega)only[EV,show IntKind.wrap .i64 ((0:Int)+1)=1 from rfl,e]
theorem sortStableK_eq{M:Int->Prop}{f:HL [.int .i64,.int .i64]->Option Int}(hf:CmpK K M f){l:List Int}(hM:∀x∈l,M x)(hl:l.length<=19):wcem f l=some (sortK K l):=by
 have e1:wbdp ((l.length:Int),f,20) (0,20,l)=some (0,l):=by
  unfold wbdp;rw[iter_eq];have hn:¬(20:Int)<=(l.length:Int):=by omega
  simp(disch:=omega)only[EV,wbdo,hn]
 have e2:∀s:List Int,wbdr ((l.length:Int),f,s) 20=some ():=λs=>by
  unfold wbdr;rw[iter_eq];have hn:¬(20:Int)<(l.length:Int):=by omega
  simp(disch:=omega)only[EV,wbdq,hn]
 have e3:=insertionK_eq hf hM (by omega);unfold wcem wcel wciy wcek;rw[qn,qn,e1,xc,qn];dsimp only;rw[e3,xc,qn,e2];rfl
end
theorem compare_eq(a b:Int):∃c,F_za a b=some c/\(c<0↔a<b):=by
 unfold F_za T_za;have e:∀x,F_zd x=some false:=λx=>by unfold F_zd T_zd;simp only[qq,qk]
 rw[qn,e,xc,qn,e,xc];simp only[qo,qb,qq];by_cases h1:a<b;·rw[qc h1];exact⟨_,rfl,by omega⟩
 ·rw[qd h1];by_cases h2:b<a;·rw[qc h2];exact⟨_,rfl,by omega⟩
  ·rw[qd h2];exact⟨_,rfl,by omega⟩
def confB(ds:List (List Int))(p:List Int)(a b:Nat):Bool:= !(List.range ds.length).all λi=> !(decide (gln ds i a<p.getD i 0)&&decide (gln ds i b<p.getD i 0))
section
variable {o:List Int}{ds:List (List Int)}
theorem conflict_eq(hf:Fld o ds){p:List Int}(hp:p.length=ds.length){a b:Nat}(ha:a<o.length)(hb:b<o.length)(t w:List Int):wcep o ds p t w (a:Int) (b:Int)=some (confB ds p a b):=by
 have ae:=hf.clients;have hlen:=hf.len;have key:=iter_allR (f:=λv=>(wavn ((a:Int),(b:Int),ds,(ds.length:Int),p,t,w) v).ev) (n:=ds.length) (λi=>(i:Int)) (λi=> !(decide (gln ds i a<p.getD i 0)&&decide (gln ds i b<p.getD i 0))) (.inl ():Unit⊕Unit) (.inr ())
  (λi hi _=>by
   have hr:=hf.rowLen i hi;have h1:=hf.at2 hi ha;have h2:=hf.at2 hi hb;have aa:i<p.length:=by omega
   have ab:a<(ds.getD i []).length:=by omega
   have ad:b<(ds.getD i []).length:=by omega
   have e1:(ds.getD i []).getD a 0=at2 ds i a:=rfl;have e2:(ds.getD i []).getD b 0=at2 ds i b:=rfl;have e3:at2 ds i a*2520=gln ds i a:=rfl;have e4:at2 ds i b*2520=gln ds i b:=rfl;by_cases c1:gln ds i a<p.getD i 0
   ·by_cases c2:gln ds i b<p.getD i 0;·simp(disch:=omega)only[EV,wavn,hi,e1,e2,e3,e4,c1,c2]
    ·simp(disch:=omega)only[EV,wavn,hi,e1,e2,e3,e4,c1,c2];rfl
   ·simp(disch:=omega)only[EV,wavn,hi,e1,e2,e3,e4,c1];rfl)
  (by simp(disch:=omega)only[EV,wavn,xi])
 have k1:wbkf ((a:Int),(b:Int),ds,(ds.length:Int),p,t,w) (0:Int)=some (bif (List.range ds.length).all λi=> !(decide (gln ds i a<p.getD i 0)&&decide (gln ds i b<p.getD i 0))then .inl ()else .inr ()):=key;unfold wcep wceo confB;cases h:(List.range ds.length).all λi=> !(decide (gln ds i a<p.getD i 0)&&decide (gln ds i b<p.getD i 0))with
 |false=>rw[h]at k1;simp(disch:=omega)only[EV,k1]
 |true=>rw[h]at k1;simp(disch:=omega)only[EV,k1]
def ripeL(t:List Int):List Int:=(List.range t.length).foldl (λacc a=>if 0<=t.getD a 0 then acc++ [(a:Int)]else acc) []
def keptL(ds:List (List Int))(p:List Int)(l:List Int):List Int:=l.foldl (λacc a=>if acc.any (λb=>confB ds p a.toNat b.toNat)then acc else acc++ [a]) []
def growSet(ds:List (List Int))(g:List Int×List Int×List Int):List Int:=sortI (keptL ds g.1 (sortK (λx=>g.2.1.getD x.toNat 0) (ripeL g.2.1)))
theorem ripeL_in(t:List Int):∀n:Nat,(∀x∈(List.range n).foldl (λacc a=>if 0<=t.getD a 0 then acc++ [(a:Int)]else acc) [],0<=x/\x<(n:Int))/\((List.range n).foldl (λacc a=>if 0<=t.getD a 0 then acc++ [(a:Int)]else acc) []).Pairwise (· < ·)/\((List.range n).foldl (λacc a=>if 0<=t.getD a 0 then acc++ [(a:Int)]else acc) []).length<=n
 |0=>⟨λx h=>(by cases h),List.Pairwise.nil,xm _⟩
 |n+1=>by
  obtain⟨h1,h2,h3⟩:=ripeL_in t n;rw[foldl_range_succ];generalize(List.range n).foldl (λacc a=>if 0<=t.getD a 0 then acc++ [(a:Int)]else acc) []=l at h1 h2 h3⊢;split
  ·refine⟨λx hx=>?_,xdi.2 ⟨h2,List.pairwise_singleton _ _,λa ha b hb=>?_⟩,by simp;omega⟩
   ·rcases xt.1 hx with hx|hx;·have:=h1 x hx;omega
    ·rw[xp.1 hx];omega
   ·rw[xp.1 hb];have:=h1 a ha;omega
  ·exact⟨λx hx=>by have:=h1 x hx;omega,h2,by omega⟩
theorem keptL_sub(ds:List (List Int))(p:List Int):∀l:List Int,(keptL ds p l).Sublist l:=by
 intro l;have key:∀(l acc pre:List Int),acc.Sublist pre->(l.foldl (λacc a=>if acc.any (λb=>confB ds p a.toNat b.toNat)then acc else acc++ [a]) acc).Sublist (pre++l):=by
  intro l;induction l with
  |nil=>intro acc pre h;simpa using h
  |cons a l ih=>
   intro acc pre h;rw[xbm,show pre++a::l=(pre++ [a])++l by simp];refine ih _ _ ?_;split;·exact h.trans (List.sublist_append_left _ _)
   ·exact h.append (List.Sublist.refl _)
 exact key l [] [] (List.Sublist.refl _)
theorem growSet_in(hf:Fld o ds){g:List Int×(List Int×List Int)}(hg:GR o ds g):(∀x∈growSet ds g,0<=x/\x<(o.length:Int))/\(growSet ds g).length<=7:=by
 have hlen:=hf.len;obtain⟨h1,h2,h3⟩:=ripeL_in g.2.1 g.2.1.length;have hs:=(sortK_inv (K:=λx=>g.2.1.getD x.toNat 0) (ripeL g.2.1)).2;have hk:=keptL_sub ds g.1 (sortK (λx=>g.2.1.getD x.toNat 0) (ripeL g.2.1));obtain⟨_,s2,s3⟩:=sortI_inv (keptL ds g.1 (sortK (λx=>g.2.1.getD x.toNat 0) (ripeL g.2.1)));have aa:=hg.tl;refine⟨λx hx=>?_,?_⟩;·have:=h1 x (hs.mem_iff.1 (hk.subset ((s3 x).1 hx)));omega
 ·show(sortI _).length<=7;rw[s2];have:=hk.length_le;rw[hs.length_eq]at this;have ab:(ripeL g.2.1).length<=g.2.1.length:=h3;omega
theorem ripe_eq{t:List Int}(ht:t.length<=1000)(y:List Int)(z w:List Int):wbdu ((t.length:Int),o,ds,t,y,w) ((0:Int),z)=some ((List.range t.length).foldl (λacc a=>if 0<=t.getD a 0 then acc++ [(a:Int)]else acc) z)\/1000<z.length:=by
 by_cases hz:z.length<=1000
 ·left;have key:=(iter_fold (f:=λv=>(wayh ((t.length:Int),o,ds,t,y,w) v).ev) (n:=t.length) (mk:=λi (acc:List Int)=>((i:Int),acc)) (I:=λi acc=>acc.length<=1000+i) (g:=λacc a=>if 0<=t.getD a 0 then acc++ [(a:Int)]else acc) (fin:=λacc=>acc) (s0:=z) (by omega)
   (λi acc hi ha=>by
    have aa:∀x:Int,List.length [x]=1:=λ_=>rfl;by_cases h:0<=t.getD i 0
    ·refine⟨?_,by simp only[qi h,xl,aa];omega⟩;have hb:(acc.length+1)*8<=140737488355328:=by omega
     simp only[qi h];simp(disch:=omega)only[EV,wayh,hi,h,aa,hb];rfl
    ·refine⟨?_,by simp only[qh h];omega⟩;simp only[qh h];simp(disch:=omega)only[EV,wayh,hi,h];rfl)
   (λacc _=>by simp(disch:=omega)only[EV,wayh,xi])).1
  exact key
 ·right;omega
theorem keptStep_eq(hf:Fld o ds){p:List Int}(hp:p.length=ds.length)(t w:List Int){l:List Int}(hl:∀x∈l,0<=x/\x<(o.length:Int))(af:l.length<=100):
  wcjb ((l.length:Int),o,ds,l,p,t,w) ((0:Int),([]:List Int))=some (keptL ds p l):=by
 have hlen:=hf.len;exact(iter_foldl (f:=λv=>(wbez ((l.length:Int),o,ds,l,p,t,w) v).ev) l 0 (mk:=λi (acc:List Int)=>((i:Int),acc)) (I:=λi acc=>acc.length<=i/\∀x∈acc,0<=x/\x<(o.length:Int)) (g:=λacc a=>if acc.any (λb=>confB ds p a.toNat b.toNat)then acc else acc++ [a]) (fin:=λacc=>acc) (s0:=[]) ⟨xm _,λx h=>by cases h⟩
  (λi acc hi ⟨h1,h2⟩=>by
   have hm:=hl _ (getD_mem (d:=0) hi);have aa:∀x:Int,List.length [x]=1:=λ_=>rfl;have e1:=containsFunc_int (l:=acc) (by omega) (p:=λab=>Option.bind (wbsg ab.1 o ds p t w (l.getD i 0)) λad=>some ad) (q:=λb=>confB ds p (l.getD i 0).toNat b.toNat) (λb hb=>by have ae:=h2 b hb;have ec:=conflict_eq hf hp (a:=(l.getD i 0).toNat) (b:=b.toNat) (by omega) (by omega) t w;rw[xdy hm.1,xdy ae.1]at ec;show Option.bind (wbsg b o ds p t w (l.getD i 0)) _=_;unfold wbsg wceq;simp(disch:=omega)only[EV,ec]);cases h:acc.any λb=>confB ds p (l.getD i 0).toNat b.toNat with
   |true=>rw[h]at e1;refine⟨?_,by simp only[if_true];omega,by simpa using h2⟩;simp only[if_true];simp(disch:=omega)only[EV,wbez,hi,e1];rfl
   |false=>
    rw[h]at e1;have hb:(acc.length+1)*8<=140737488355328:=by omega
    refine⟨?_,by simp only[xai,if_false,xl,aa];omega,λx hx=>?_⟩;·simp only[xai,if_false];simp(disch:=omega)only[EV,wbez,hi,e1,aa,hb];rfl
    ·simp only[xai,if_false]at hx;rcases xt.1 hx with hx|hx;·exact h2 x hx
     ·rw[xp.1 hx];exact hm)
  (λacc _=>by simp(disch:=omega)only[EV,wbez,xi])).1
theorem im_GrowthSet_eq(hf:Fld o ds)(h0:0<ds.length)(hv:wavs o ds=some true):∃g,GR o ds g/\wbcm o ds=some g/\wbdv o ds=some (true,growSet ds g):=by
 obtain⟨⟨p,t,w⟩,e1,hg⟩:=grow_total hf;have hlen:=hf.len;have ad:=hg.tl;simp only at ad;obtain⟨h1,h2,h3⟩:=ripeL_in t t.length;rcases ripe_eq (o:=o) (ds:=ds) (t:=t) (by omega) p [] w with e2|e2
 ·have ae:wbdu ((t.length:Int),o,ds,t,p,w) ((0:Int),([]:List Int))=some (ripeL t):=e2;have hr:∀x∈ripeL t,0<=x/\x<(o.length:Int):=λx hx=>by have:=h1 x hx;omega
  have ai:(ripeL t).length<=t.length:=h3;have e3:=sortStableK_eq (K:=λx=>t.getD x.toNat 0) (M:=λx=>0<=x/\x<(o.length:Int)) (f:=λaa=>Option.bind (wbse aa.1 aa.2.1 p t w) λab=>some ab) (λx y hx hy=>by obtain⟨c,k1,k2⟩:=compare_eq (t.getD x.toNat 0) (t.getD y.toNat 0);have af:inR x t.length=true:=inR_int hx.1 (by omega);have ah:inR y t.length=true:=inR_int hy.1 (by omega);refine⟨c,?_,k2⟩;show Option.bind (wbse x y p t w) _=_;unfold wbse wcen;simp(disch:=omega)only[EV,k1]) hr (by omega);have hs:=(sortK_inv (K:=λx=>t.getD x.toNat 0) (ripeL t)).2;have aj:=hs.length_eq;have e4:=keptStep_eq hf (p:=p) hg.pl t w (l:=sortK (λx=>t.getD x.toNat 0) (ripeL t)) (λx hx=>hr x (hs.mem_iff.1 hx)) (by omega);have hk:=(keptL_sub ds p (sortK (λx=>t.getD x.toNat 0) (ripeL t))).length_le;have e5:=slicesSort_eq (l:=keptL ds p (sortK (λx=>t.getD x.toNat 0) (ripeL t))) (by omega);have hd:((((ds.length:Nat):Int))==0)=false:=beq_eq_false_iff_ne.2 (by omega);refine⟨(p,t,w),hg,e1,?_⟩;unfold wbdv wbsl growSet;simp(disch:=omega)only[EV,hv,hd,e1,ae,e3,e4,e5]
 ·simp at e2
end
section
variable {J S O:List Nat}{f:Nat->Int}{d:Nat->Nat->Int}{σ ω:Nat->Nat}
end
def esubs:Nat->List (List Int)
 |0=>[[]]
 |n+1=>esubs n++(esubs n).map λs=>s++ [(n:Int)]
theorem esubs_mem:∀(n:Nat) {s:List Int},s.Pairwise (· < ·)->(∀x∈s,0<=x/\x<(n:Int))->s∈esubs n
 |0,s,_,h=>by
  cases s with
  |nil=>exact xp.2 rfl
  |cons x s=>have:=h x (by simp);omega
 |n+1,s,hp,h=>by
  rw[esubs,xt];rcases xfk s with rfl|⟨i,z,rfl⟩
  ·exact .inl (esubs_mem n hp λx hx=>by cases hx)
  ·rw[List.concat_eq_append]at hp h⊢;obtain⟨p1,_,p3⟩:=xdi.1 hp;have hz:=h z (by simp);by_cases e:z=(n:Int)
   ·refine .inr (xak.2 ⟨i,esubs_mem n p1 λx hx=>?_,by rw[e]⟩);have h1:=h x (xaq _ hx);have h2:=p3 x hx z (by simp);omega
   ·refine .inl (esubs_mem n hp λx hx=>?_);have h1:=h x hx;rcases xt.1 hx with hx|hx;·have h2:=p3 x hx z (by simp);omega
    ·rw[xp.1 hx]at h1⊢;omega
def bits(h:List Int):Nat:=h.foldl (λx a=>x|||2^a.toNat) 0
def lst(x:Nat):List Int:=((List.range 7).filter x.testBit).map λ(a:Nat)=>(a:Int)
def orB(x:Int)(a:Nat):Int:=IntKind.wrap .u64 (BitVec.toNat ((BitVec.ofInt (IntKind.bits .u64) x)||| (BitVec.ofInt (IntKind.bits .u64) (IntKind.wrap .u64 ((1:Int)*2^(min a (IntKind.bits .u64)))))))
def anB(x:Int)(a:Nat):Int:=IntKind.wrap .u64 (BitVec.toNat ((BitVec.ofInt (IntKind.bits .u64) x)&&& ~~~(BitVec.ofInt (IntKind.bits .u64) (IntKind.wrap .u64 ((1:Int)*2^(min a (IntKind.bits .u64)))))))
def clr(x a:Nat):Nat:=if x.testBit a then x-2^a else x
noncomputable def chkB(x:Nat):Bool:=(wbah (x:Int)==some (lst x))&&(List.range 7).all λ(a:Nat)=>
 (wbag (x:Int) (a:Int)==some (x.testBit a))&&((lst x).contains (a:Int)==x.testBit a)&&(orB (x:Int) a==((x|||2^a:Nat):Int))&&Nat.blt (x|||2^a) 128&&(anB (x:Int) a==((clr x a:Nat):Int))&&Nat.blt (clr x a) 128&&
 (x.testBit a||(lst (x|||2^a)==ins (a:Int) (lst x)))&&(lst (clr x a)==wo (lst x) (a:Int))
theorem chkB_ok:(List.range 128).all chkB=true:=by kernel_rfl
def chkL(s:List Int):Bool:=(lst (bits s)==s)&&Nat.blt (bits s) 128
theorem chkL_ok:(esubs 7).all chkL=true:=by kernel_rfl
structure BagP(x:Nat):Prop where
 list:wbah (x:Int)=some (lst x)
 has:∀a:Nat,a<7->wbag (x:Int) (a:Int)=some ((lst x).contains (a:Int))
 put:∀a:Nat,a<7->(a:Int)∉lst x->∃y:Nat,y<128/\orB (x:Int) a=(y:Int)/\lst y=ins (a:Int) (lst x)
 cut:∀a:Nat,a<7->∃y:Nat,y<128/\anB (x:Int) a=(y:Int)/\lst y=wo (lst x) (a:Int)
theorem bagP{x:Nat}(hx:x<128):BagP x:=by
 have h:=xq.1 chkB_ok x (xap.2 hx);simp only[chkB,xh,xq,xap,qg,xbk]at h;obtain⟨h1,h2⟩:=h;refine⟨h1,λa ha=>?_,λa ha hn=>?_,λa ha=>?_⟩;·obtain⟨⟨⟨⟨⟨⟨⟨k1,k2⟩,k3⟩,k4⟩,k5⟩,k6⟩,k7⟩,k8⟩:=h2 a ha;rw[k2];exact k1
 ·obtain⟨⟨⟨⟨⟨⟨⟨k1,k2⟩,k3⟩,k4⟩,k5⟩,k6⟩,k7⟩,k8⟩:=h2 a ha;refine⟨x|||2^a,by simpa using k4,k3,?_⟩;rcases k7 with k7|k7;·rw[k7]at k2;exact absurd (xcd.1 k2) hn
  ·exact k7
 ·obtain⟨⟨⟨⟨⟨⟨⟨k1,k2⟩,k3⟩,k4⟩,k5⟩,k6⟩,k7⟩,k8⟩:=h2 a ha;exact⟨clr x a,by simpa using k6,k5,k8⟩
theorem lst_bits{n:Nat}(hn:n<=7){s:List Int}(h:ris n s):lst (bits s)=s/\bits s<128:=by
 have hm:=esubs_mem 7 h.2 λx hx=>by have:=h.1 x hx;omega
 have hk:=xq.1 chkL_ok s hm;simp only[chkL,xh,qg]at hk;exact⟨hk.1,by simpa using hk.2⟩
theorem or_lt:∀(x a:Nat),x<128->a<7->x|||2^a<128:=λx a hx ha=>Nat.or_lt_two_pow (n:=7) hx (Nat.pow_lt_pow_right (by omega) ha)
theorem orB_eq{x a:Nat}(hx:x<128)(ha:a<7):orB (x:Int) a=((x|||2^a:Nat):Int):=by have h:=xq.1 chkB_ok x (xap.2 hx);simp only[chkB,xh,xq,xap,qg,xbk]at h;exact(h.2 a ha).1.1.1.1.1.2
theorem bagOf_eq{n:Nat}(hn:n<=7){s:List Int}(h:ris n s):wbik s=some (bits s:Int):=by
 have hl:=h.len;have key:=(iter_foldl (f:=λv=>(wbaf (s,((s.length:Nat):Int)) v).ev) s 0 (mk:=λi (x:Nat)=>((x:Int),(i:Int))) (I:=λ_ x=>x<128) (g:=λx a=>x|||2^a.toNat) (fin:=λx=>(x:Int)) (s0:=0) (by omega)
  (λi x hi hx=>by
   have ha:=h.1 _ (getD_mem (d:=0) hi);obtain⟨a,e⟩:∃a:Nat,s.getD i 0=(a:Int):=⟨(s.getD i 0).toNat,by omega⟩
   have k2:=orB_eq hx (show a<7 by omega);unfold orB at k2;rw[e,xy];refine⟨?_,or_lt x a hx (by omega)⟩;have i1:inR (i:Int) s.length=true:=inR_int (by omega) (by omega);have i2:(0:Int)<=(a:Int):=by omega
   have i3:(i:Int)<((s.length:Nat):Int):=by omega
   simp only[wbaf,qo,qp,qq,i1,xy,e,i2,i3,decide_true,qa];rw[k2,wrap64 (by omega) (by omega)];rfl)
  (λx _=>by simp(disch:=omega)only[EV,wbaf,xi])).1
 have k2:wbij (s,((s.length:Nat):Int)) (0,0)=some (bits s:Int):=key;unfold wbik wcbe;simp(disch:=omega)only[EV,k2]
theorem bagHas_eq{n:Nat}(hn:n<=7){s:List Int}(h:ris n s){a:Int}(h0:0<=a)(ha:a<7):wbag (bits s:Int) a=some (s.contains a):=by
 obtain⟨e,hb⟩:=lst_bits hn h;obtain⟨a,rfl⟩:∃b:Nat,a=(b:Int):=⟨a.toNat,by omega⟩
 have:=(bagP hb).has a (by omega);rwa [e]at this
theorem bagPut_eq{n:Nat}(hn:n<=7){s:List Int}(h:ris n s){a:Int}(h0:0<=a)(ha:a<7)(hx:a∉s):wbah (orB (bits s:Int) a.toNat)=some (ins a s):=by
 obtain⟨e,hb⟩:=lst_bits hn h;obtain⟨a,rfl⟩:∃b:Nat,a=(b:Int):=⟨a.toNat,by omega⟩
 obtain⟨y,y1,y2,y3⟩:=(bagP hb).put a (by omega) (by rw[e];exact hx);rw[xy,y2,(bagP y1).list,y3,e]
theorem bagCut_eq{n:Nat}(hn:n<=7){s:List Int}(h:ris n s){a:Int}(h0:0<=a)(ha:a<7):wbah (anB (bits s:Int) a.toNat)=some (wo s a):=by
 obtain⟨e,hb⟩:=lst_bits hn h;obtain⟨a,rfl⟩:∃b:Nat,a=(b:Int):=⟨a.toNat,by omega⟩
 obtain⟨y,y1,y2,y3⟩:=(bagP hb).cut a (by omega);rw[xy,y2,(bagP y1).list,y3,e]
theorem swapped_eq{n:Nat}(hn:n<=7){s:List Int}(h:ris n s){a b:Int}(h0:0<=a)(ha:a<7)(h1:0<=b)(hb:b<7)(hx:b∉s):wbpt s a b=some (ins b (wo s a)):=by obtain⟨e,aa⟩:=lst_bits hn h;have e0:=bagOf_eq hn h;obtain⟨y,y1,y2,y3⟩:=(bagP aa).cut a.toNat (by omega);rw[e,show((a.toNat:Nat):Int)=a by omega]at y3;obtain⟨z,z1,z2,z3⟩:=(bagP y1).put b.toNat (by omega) (by rw[y3,show((b.toNat:Nat):Int)=b by omega];exact wo_notin hx);rw[y3,show((b.toNat:Nat):Int)=b by omega]at z3;have e1:=(bagP z1).list;rw[z3,<-z2,<-y2]at e1;unfold orB anB at e1;unfold wbpt wcbg;rw[qn,e0,xc,qp,qc h0,qa,qp,qc h1,qa,qn,e1,xc,qq]
section
variable (o:List Int) (ds:List (List Int)) (S L:List Int)
end
section
variable {o:List Int}{ds:List (List Int)}{S L:List Int}
end
section
variable {o:List Int}{ds:List (List Int)}{S L:List Int}
end
section
variable (o:List Int) (ds:List (List Int))
end
section
variable {o:List Int}{ds:List (List Int)}{S L:List Int}
end
section
variable {o:List Int}{ds:List (List Int)}
end
theorem iter_some_from{V R:Type}{f:V->Option (V⊕R)}{α:Type}{n:Nat}(h:Nat->Option α)(mk:Nat->V)(yes:α->R)(no:R)
  (hs:∀i,i<n->f (mk i)=some (match h i with|some m=>.inr (yes m)|none=>.inl (mk (i+1)))) (he:f (mk n)=some (.inr no)):
  ∀k i,i+k=n->iter f (mk i)=some (((List.range' i k).findSome? h).elim no yes):=by
 intro k;induction k with
 |zero=>
  intro i hi;have:i=n:=by omega
  subst this;rw[iter_eq,he];rfl
 |succ k ih=>
  intro i hi;rw[iter_eq,hs i (by omega),List.range'_succ,xda];cases h i with
  |some m=>rfl
  |none=>exact ih (i+1) (by omega)
theorem iter_first{V R:Type}{f:V->Option (V⊕R)}{α:Type}{n:Nat}(h:Nat->Option α)(mk:Nat->V)(yes:α->R)(no:R)
  (hs:∀i,i<n->f (mk i)=some (match h i with|some m=>.inr (yes m)|none=>.inl (mk (i+1)))) (he:f (mk n)=some (.inr no)):
  iter f (mk 0)=some (((List.range n).findSome? h).elim no yes):=by
 rw[List.range_eq_range'];exact iter_some_from h mk yes no hs he n 0 (by omega)
def opG(s:List Int)(a:Nat):Option (List Int):=if s.contains (a:Int)then none else some (ins (a:Int) s)
def clG(s:List Int)(a:Nat):Option (List Int):=if s.contains (a:Int)/\0<(wo s (a:Int)).length then some (wo s (a:Int))else none
def swG(s w:List Int)(b:Nat):Option (List Int):=if s.contains (b:Int)then none else some (ins (b:Int) w)
def swsG(n:Nat)(s:List Int)(a:Nat):List (List Int):=if s.contains (a:Int)then(List.range n).filterMap (swG s (wo s (a:Int)))else[]
theorem fm_one{α:Type}(g:Nat->Option α)(a:Nat):[a].filterMap g=(g a).toList:=by rw[List.filterMap_cons];cases g a<;>rfl
theorem swF_eq(n:Nat)(s w:List Int)(acc:List (List Int)):swF n s w acc=acc++(List.range n).filterMap (swG s w):=by
 unfold swF;induction n with
 |zero=>simp
 |succ n ih=>
  rw[foldl_range_succ,ih,xee,xfl,<-xcf,fm_one];cases hc:s.contains (n:Int)with
  |true=>
   have e:swG s w n=none:=by unfold swG;rw[hc];rfl
   rw[e,qi rfl];exact(xax _).symm
  |false=>
   have e:swG s w n=some (ins (n:Int) w):=by unfold swG;rw[hc];rfl
   rw[e,qh (by simp)];rfl
theorem mvs_eq(n:Nat)(s:List Int):∀k,(List.range k).foldl (mvStep n s) ([],[],[])=((List.range k).filterMap (opG s),(List.range k).filterMap (clG s),(List.range k).flatMap (swsG n s))
 |0=>rfl
 |k+1=>by
  rw[foldl_range_succ,mvs_eq n s k,xee,xfl,xfl,List.flatMap_append];unfold mvStep;cases hc:s.contains (k:Int)with
  |true=>
   simp only[if_true,swF_eq];have h1:[k].filterMap (opG s)=[]:=by
    have:opG s k=none:=by unfold opG;rw[hc];rfl
    rw[fm_one,this];rfl
   have h3:[k].flatMap (swsG n s)=(List.range n).filterMap (swG s (wo s (k:Int))):=by
    have:swsG n s k=(List.range n).filterMap (swG s (wo s (k:Int))):=by unfold swsG;rw[hc];rfl
    rw[xeh,List.flatMap_nil,xax,this]
   rw[h1,h3,xax];by_cases hp:0<(wo s (k:Int)).length
   ·have h2:[k].filterMap (clG s)=[wo s (k:Int)]:=by
     have:clG s k=some (wo s (k:Int)):=by unfold clG;rw[qi ⟨hc,hp⟩]
     rw[fm_one,this];rfl
    rw[h2,qi hp]
   ·have h2:[k].filterMap (clG s)=[]:=by
     have:clG s k=none:=by unfold clG;rw[qh λh=>hp h.2]
     rw[fm_one,this];rfl
    rw[h2,qh hp,xax]
  |false=>
   simp only[xai,if_false];have h1:[k].filterMap (opG s)=[ins (k:Int) s]:=by
    have:opG s k=some (ins (k:Int) s):=by unfold opG;rw[hc];rfl
    rw[fm_one,this];rfl
   have h2:[k].filterMap (clG s)=[]:=by
    have:clG s k=none:=by unfold clG;rw[hc];simp
    rw[fm_one,this];rfl
   have h3:[k].flatMap (swsG n s)=[]:=by
    have:swsG n s k=[]:=by unfold swsG;rw[hc];rfl
    rw[xeh,List.flatMap_nil,xax,this]
   rw[h1,h2,h3,xax,xax]
def bet(q:List Int->Bool)(x:Option (List Int)):Option (List Int):=match x with
 |some m=>bif q m then some m else none
 |none=>none
theorem find_fm(g:Nat->Option (List Int))(q:List Int->Bool):∀l:List Nat,(l.filterMap g).find? q=l.findSome? λa=>bet q (g a)
 | []=>rfl
 |a::l=>by
  rw[List.filterMap_cons,xda];cases ha:g a with
  |none=>show(l.filterMap g).find? q=l.findSome? λa=>bet q (g a);exact find_fm g q l
  |some m=>
   show(m::l.filterMap g).find? q=_;rw[xgx];cases hq:q m with
   |true=>simp only[bet,hq,qa]
   |false=>simp only[bet,hq,qb];exact find_fm g q l
theorem find_flat(g:Nat->List (List Int))(q:List Int->Bool):∀l:List Nat,(l.flatMap g).find? q=l.findSome? λa=>(g a).find? q
 | []=>rfl
 |a::l=>by rw[xeh,xfi,xda,find_flat g q l];cases(g a).find? q<;>rfl
theorem rise_ext:∀{l m:List Int},l.Pairwise (· < ·)->m.Pairwise (· < ·)->(∀x,x∈l↔x∈m)->l=m
 | [],[],_,_,_=>rfl
 | [],y::m,_,_,h=>by have:=(h y).2 (by simp);cases this
 |x::l,[],_,_,h=>by have:=(h x).1 (by simp);cases this
 |x::l,y::m,h1,h2,h=>by
  obtain⟨a1,a2⟩:=xbj.1 h1;obtain⟨b1,b2⟩:=xbj.1 h2;have e:x=y:=by
   rcases xaf.1 ((h x).1 (by simp))with e|hx;·exact e
   ·rcases xaf.1 ((h y).2 (by simp))with e|hy;·exact e.symm
    ·have:=b1 x hx;have:=a1 y hy;omega
  subst e;rw[rise_ext a2 b2 λz=>?_];constructor
  ·intro hz;rcases xaf.1 ((h z).1 (xr _ hz))with e|aa;·have:=a1 z hz;omega
   ·exact aa
  ·intro hz;rcases xaf.1 ((h z).2 (xr _ hz))with e|aa;·have:=b1 z hz;omega
   ·exact aa
theorem ris_range{n:Nat}{s:List Int}(h:ris n s):s=((List.range n).filter λa:Nat=>s.contains (a:Int)).map λa:Nat=>(a:Int):=by
 refine rise_ext h.2 ?_ λx=>?_;·rw[List.pairwise_map];exact(List.pairwise_lt_range.filter _).imp λh=>by omega
 ·constructor;·intro hx;have hb:=h.1 x hx;refine xak.2 ⟨x.toNat,xaj.2 ⟨xap.2 (by omega),?_⟩,by omega⟩;rw[show((x.toNat:Nat):Int)=x by omega];exact xcd.2 hx
  ·intro hx;obtain⟨a,ha,rfl⟩:=xak.1 hx;exact xcd.1 (xaj.1 ha).2
theorem findSome_filter{α:Type}(p:Nat->Bool)(h:Int->Option α):∀l:List Nat,((l.filter p).map λa:Nat=>(a:Int)).findSome? h=l.findSome? λa=>if p a then h (a:Int)else none
 | []=>rfl
 |a::l=>by
  rw[xdf,xda];cases hp:p a with
  |true=>
   simp only[if_true,xbn,xda];cases h (a:Int)with
   |some m=>rfl
   |none=>exact findSome_filter p h l
  |false=>simp only[xai,if_false];exact findSome_filter p h l
theorem wo_length{s:List Int}(hp:s.Pairwise (· < ·)){a:Int}(ha:a∈s):(wo s a).length+1=s.length:=by
 induction s with
 |nil=>cases ha
 |cons x s ih=>
  obtain⟨h1,h2⟩:=xbj.1 hp;unfold wo;rw[xdf];by_cases e:x=a
  ·subst e;have hf:s.filter (λy=>y !=x)=s:=xfr.2 λy hy=>by have:=h1 y hy;simp;omega
   simp[hf]
  ·have hm:a∈s:=by
    rcases xaf.1 ha with h|h;·exact absurd h.symm e
    ·exact h
   have hb:(x !=a)=true:=by simpa using e
   have:=ih h2 hm;unfold wo at this;rw[hb,qi rfl,xj,xj,this]
def opB(t:List Int->Bool)(s:List Int)(a:Nat):Option (List Int):=bet t (opG s a)
def clB(t:List Int->Bool)(s:List Int)(x:Int):Option (List Int):=if 1<s.length then bet t (some (wo s x))else none
def swB(t:List Int->Bool)(n:Nat)(s:List Int)(x:Int):Option (List Int):=(List.range n).findSome? λb=>bet t (swG s (wo s x) b)
theorem better_parts{n:Nat}{s:List Int}(h:ris n s)(t:List Int->Bool):(movesOf n s).find? t=(((List.range n).findSome? (opB t s)).or (s.findSome? (clB t s))).or (s.findSome? (swB t n s)):=by
 have e:=mvs_eq n s n;have h2:s.findSome? (clB t s)=(List.range n).findSome? λa=>bet t (clG s a):=by
  have h0:=findSome_filter (λa:Nat=>s.contains (a:Int)) (clB t s) (List.range n);rw[<-ris_range h]at h0;rw[h0];congr 1;funext a;unfold clB clG;cases hc:s.contains (a:Int)with
  |false=>simp[bet]
  |true=>
   have hl:=wo_length h.2 (xcd.1 hc);by_cases h1:1<s.length;·rw[qi rfl,qi h1,qi ⟨rfl,by omega⟩]
   ·rw[qi rfl,qh h1,qh (by omega)];rfl
 have h3:s.findSome? (swB t n s)=(List.range n).findSome? λa=>(swsG n s a).find? t:=by
  have h0:=findSome_filter (λa:Nat=>s.contains (a:Int)) (swB t n s) (List.range n);rw[<-ris_range h]at h0;rw[h0];congr 1;funext a;unfold swB swsG;cases hc:s.contains (a:Int)with
  |false=>simp
  |true=>rw[qi rfl,qi rfl,find_fm]
 unfold movesOf mvs;rw[e,xfi,xfi,find_fm,find_fm,find_flat,h2,h3];rfl
def ltB(o:List Int)(ds:List (List Int))(T:Int)(m:List Int):Bool:=decide (totF o ds m<T)
theorem better1_eq{o m:List Int}{ds:List (List Int)}(hf:Fld o ds)(hm:ris o.length m)(h0:m≠ [])(T:Int):
  F_zz m o ds T=some (bif ltB o ds T m then .inr (m,o,ds,T)else .inl (m,o,ds,T)):=by
 have hp:=xar.2 h0;have e:wbam o ds m=some (totF o ds m):=total_eq hf (hm.places hf.len) hp;unfold F_zz T_zz ltB;rw[qn,e,xc,qo,qp,qc hp,qa];cases decide (totF o ds m<T)<;>rfl
theorem ins_ne(x:Int)(l:List Int):ins x l≠ []:=λe=>by have:=eins_len x l;rw[e]at this;simp at this
theorem mv0_eq{o s:List Int}{ds:List (List Int)}(hf:Fld o ds)(hs:ris o.length s)(T:Int):
  wbir (s,(bits s:Int),((o.length:Nat):Int),((o.length:Nat):Int)) (0,o,ds,T)=some (((List.range o.length).findSome? (opB (ltB o ds T) s)).elim (.inl (o,ds,T)) λm=>.inr (o,ds,T,m)):=by
 have h7:=hf.len;have h:=iter_first (f:=λv=>(wban (s,(bits s:Int),((o.length:Nat):Int),((o.length:Nat):Int)) v).ev) (n:=o.length) (opB (ltB o ds T) s) (λi=>((i:Int),o,ds,T)) (λm=>.inr (o,ds,T,m)) (.inl (o,ds,T))
  (λi hi=>by
   have e1:=bagHas_eq h7 hs (a:=(i:Int)) (by omega) (by omega);have aa:(i:Int)<((o.length:Nat):Int):=by omega
   have hw:IntKind.wrap .i64 ((i:Int)+1)=((i+1:Nat):Int):=by rw[wrap64 (by omega) (by omega)];rfl
   unfold opB opG wban;dsimp only;rw[qo,qc aa,qa,qn,e1,xc,qo,hw];cases hc:s.contains (i:Int)with
   |true=>rfl
   |false=>
    have hn:=not_contains hc;have e2:=bagPut_eq h7 hs (a:=(i:Int)) (by omega) (by omega) hn;unfold orB at e2;have e3:=better1_eq hf (hs.ins (a:=(i:Int)) (by omega) (by omega) hn) (ins_ne _ _) T;have g0:(0:Int)<=(i:Int):=by omega
    rw[xae,qa,qp,qc g0,qa,qn,e2,xc,qn,e3,xc];simp only[xai,if_false,bet];cases ltB o ds T (ins (i:Int) s)<;>rfl)
  (by
   have aa:¬((o.length:Nat):Int)<((o.length:Nat):Int):=by omega
   unfold wban;dsimp only;rw[qo,qd aa,qb,qq])
 exact h
theorem findSome_getD{α:Type}(h:Int->Option α)(s:List Int):(List.range s.length).findSome? (λi=>h (s.getD i 0))=s.findSome? h:=by
 induction s with
 |nil=>rfl
 |cons x s ih=>
  rw[xj,xfh,xda,xda,List.findSome?_map];cases hx:h x with
  |some m=>simp[hx]
  |none=>have h1:h ((x::s).getD 0 0)=none:=hx;rw[h1];exact ih
theorem mv2_im{o s:List Int}{ds:List (List Int)}(hf:Fld o ds)(hs:ris o.length s)(T:Int):
  wbis (s,(bits s:Int),((o.length:Nat):Int),s,((s.length:Nat):Int)) (0,o,ds,T)=some ((s.findSome? (clB (ltB o ds T) s)).elim (.inl (o,ds,T)) λm=>.inr (o,ds,T,m)):=by
 have h7:=hf.len;have ae:=hs.len;rw[<-findSome_getD];have h:=iter_first (f:=λv=>(wbao (s,(bits s:Int),((o.length:Nat):Int),s,((s.length:Nat):Int)) v).ev) (n:=s.length) (λi=>clB (ltB o ds T) s (s.getD i 0)) (λi=>((i:Int),o,ds,T)) (λm=>.inr (o,ds,T,m)) (.inl (o,ds,T))
  (λi hi=>by
   have aa:(i:Int)<((s.length:Nat):Int):=by omega
   have hw:IntKind.wrap .i64 ((i:Int)+1)=((i+1:Nat):Int):=by rw[wrap64 (by omega) (by omega)];rfl
   have ad:=inR_nat hi;have hm:=getD_mem (d:=0) hi;have hb:=hs.1 _ hm;unfold clB wbao;dsimp only;rw[qo,qc aa,qa,qp,ad,qa,qo,hw,xy];by_cases h1:1<s.length
   ·have ab:(1:Int)<((s.length:Nat):Int):=by omega
    have e2:=bagCut_eq h7 hs hb.1 (by omega);unfold anB at e2;have hl:=wo_length hs.2 hm;have e3:=better1_eq hf (hs.wo (s.getD i 0)) (xar.1 (by omega)) T;rw[qc ab,qa,qp,qc hb.1,qa,qn,e2,xc,qn,e3,xc,qi h1];simp only[bet];cases ltB o ds T (wo s (s.getD i 0))<;>rfl
   ·have ab:¬(1:Int)<((s.length:Nat):Int):=by omega
    rw[qd ab,qb,qh h1];rfl)
  (by
   have aa:¬((s.length:Nat):Int)<((s.length:Nat):Int):=by omega
   unfold wbao;dsimp only;rw[qo,qd aa,qb,qq])
 exact h
theorem mv6_im{o s:List Int}{ds:List (List Int)}(hf:Fld o ds)(hs:ris o.length s)(T:Int){a:Int}(ha:a∈s)(k:(List (Int))×(Int)×(Int)×(Int)×(List (Int))×(Int)×(Int)×(Int))(k1:k.1=s)(k2:k.2.1=(bits s:Int))(k3:k.2.2.2.1=a)(k4:k.2.2.2.2.2.2.2=((o.length:Nat):Int)):
  wbit k (0,o,ds,T)=some ((swB (ltB o ds T) o.length s a).elim (.inl (o,ds,T)) λm=>.inr (o,ds,T,m)):=by
 have h7:=hf.len;have ab:=hs.1 a ha;have h:=iter_first (f:=λv=>(wbap k v).ev) (n:=o.length) (λb=>bet (ltB o ds T) (swG s (wo s a) b)) (λi=>((i:Int),o,ds,T)) (λm=>.inr (o,ds,T,m)) (.inl (o,ds,T))
  (λi hi=>by
   have e1:=bagHas_eq h7 hs (a:=(i:Int)) (by omega) (by omega);have aa:(i:Int)<((o.length:Nat):Int):=by omega
   have hw:IntKind.wrap .i64 ((i:Int)+1)=((i+1:Nat):Int):=by rw[wrap64 (by omega) (by omega)];rfl
   unfold swG wbap;dsimp only;rw[k1,k2,k3,k4,qo,qc aa,qa,qn,e1,xc,qo,hw];cases hc:s.contains (i:Int)with
   |true=>rfl
   |false=>have hn:=not_contains hc;have e2:=swapped_eq h7 hs (a:=a) (b:=(i:Int)) (by omega) (by omega) (by omega) (by omega) hn;have e3:=better1_eq hf ((hs.wo a).ins (a:=(i:Int)) (by omega) (by omega) (wo_notin hn)) (ins_ne _ _) T;rw[xae,qa,qn,e2,xc,qn,e3,xc];simp only[xai,if_false,bet];cases ltB o ds T (ins (i:Int) (wo s a))<;>rfl)
  (by
   have aa:¬((o.length:Nat):Int)<((o.length:Nat):Int):=by omega
   unfold wbap;dsimp only;rw[k4,qo,qd aa,qb,qq])
 exact h
theorem mv4_im{o s:List Int}{ds:List (List Int)}(hf:Fld o ds)(hs:ris o.length s)(T:Int):
  wbiu (s,(bits s:Int),((o.length:Nat):Int),s,((s.length:Nat):Int)) (0,o,ds,T)=some ((s.findSome? (swB (ltB o ds T) o.length s)).elim (.inl (o,ds,T)) λm=>.inr (o,ds,T,m)):=by
 have h7:=hf.len;have ad:=hs.len;rw[<-findSome_getD];have h:=iter_first (f:=λv=>(wbaq (s,(bits s:Int),((o.length:Nat):Int),s,((s.length:Nat):Int)) v).ev) (n:=s.length) (λi=>swB (ltB o ds T) o.length s (s.getD i 0)) (λi=>((i:Int),o,ds,T)) (λm=>.inr (o,ds,T,m)) (.inl (o,ds,T))
  (λi hi=>by
   have aa:(i:Int)<((s.length:Nat):Int):=by omega
   have hw:IntKind.wrap .i64 ((i:Int)+1)=((i+1:Nat):Int):=by rw[wrap64 (by omega) (by omega)];rfl
   have ab:=inR_nat hi;have hm:=getD_mem (d:=0) hi;have e1:=mv6_im hf hs T hm (s,(bits s:Int),((o.length:Nat):Int),(s.getD i 0),s,((s.length:Nat):Int),(i:Int),((o.length:Nat):Int)) rfl rfl rfl rfl;unfold wbaq;dsimp only;rw[qo,qc aa,qa,qp,ab,qa,qn,hw,xy,e1,xc];cases swB (ltB o ds T) o.length s (s.getD i 0)<;>rfl)
  (by
   have aa:¬((s.length:Nat):Int)<((s.length:Nat):Int):=by omega
   unfold wbaq;dsimp only;rw[qo,qd aa,qb,qq])
 exact h
theorem moves_im{o s:List Int}{ds:List (List Int)}(hf:Fld o ds)(hs:ris o.length s)(T:Int):
  wbqd o ds s o ds T=some (((movesOf o.length s).find? (ltB o ds T)).elim (.inl (o,ds,T)) λm=>.inr (o,ds,T,m)):=by
 have h7:=hf.len;have e0:=bagOf_eq h7 hs;have e1:=mv0_eq hf hs T;have e2:=mv2_im hf hs T;have e3:=mv4_im hf hs T;rw[better_parts hs];unfold wbqd wcbt;rw[qn,e0,xc,qn,e1,xc];cases(List.range o.length).findSome? (opB (ltB o ds T) s)with
 |some m=>rfl
 |none=>
  simp only[Option.elim_none,ev_s_inl,qn];rw[e2,xc];cases s.findSome? (clB (ltB o ds T) s)with
  |some m=>rfl
  |none=>simp only[Option.elim_none,ev_s_inl,qn];rw[e3,xc];cases s.findSome? (swB (ltB o ds T) o.length s)<;>rfl
theorem ibetter_eq{o s:List Int}{ds:List (List Int)}(hf:Fld o ds)(hs:ris o.length s)(h0:s≠ []):F_zy o ds s=some (match betterOf o ds s with|some m=>(true,m)|none=>(false,[])):=by
 have h7:=hf.len;have e:wbam o ds s=some (totF o ds s):=total_eq hf (hs.places h7) (xar.2 h0);have e1:=moves_im hf hs (totF o ds s);have e2:(movesOf o.length s).find? (ltB o ds (totF o ds s))=betterOf o ds s:=rfl;rw[e2]at e1;unfold F_zy T_zy;rw[qn,e,xc,qn,e1,xc];cases hb:betterOf o ds s with
 |none=>rfl
 |some m=>have hp:=xar.2 (betterOf_some hs hb).2.1;simp only[Option.elim_some,ev_s_inr,qp];rw[qc hp];rfl
theorem iloc_run{o:List Int}{ds:List (List Int)}(hf:Fld o ds):∀(m:Nat) {s:List Int} (many:Int),0<=many->many+(m:Int)<=1000000000->ris o.length s->s≠ []->totF o ds s<=(m:Int)->
  wbas (o,ds) (many,s)=some (many+((locN o ds m s).1:Int),(locN o ds m s).2):=by
 have out:∀{s:List Int} (many:Int),ris o.length s->s≠ []->betterOf o ds s=none->wbas (o,ds) (many,s)=some (many,s):=λ{s} many hs h0 hb=>by have e1:=ibetter_eq hf hs h0;rw[hb]at e1;unfold wbas;rw[iter_eq];unfold wbar;dsimp only;rw[qn,e1];rfl
 intro m;induction m with
 |zero=>
  intro s many h1 h2 hs h0 ht;have hb:betterOf o ds s=none:=by
   cases hb:betterOf o ds s with
   |none=>rfl
   |some t=>obtain⟨a,b,c⟩:=betterOf_some hs hb;have:=tot_in hf a b;omega
  rw[out many hs h0 hb];simp[locN]
 |succ m ih=>
  intro s many h1 h2 hs h0 ht;cases hb:betterOf o ds s with
  |none=>rw[out many hs h0 hb];simp[locN,hb]
  |some t=>
   obtain⟨a,b,c⟩:=betterOf_some hs hb;have e1:=ibetter_eq hf hs h0;rw[hb]at e1;have hw:IntKind.wrap .i64 (many+1)=many+1:=wrap64 (by omega) (by omega);have aa:=ih (s:=t) (many+1) (by omega) (by omega) a b (by omega);unfold wbas at aa⊢;rw[iter_eq];have ab:(wbar (o,ds) (many,s)).ev=some (.inl (many+1,t)):=by unfold wbar;dsimp only;rw[qn,e1,xc,qo,hw];rfl
   rw[ab];simp only;rw[aa];simp only[locN,hb,xe,xcw,ql];omega
theorem ilocal_eq{o:List Int}{ds:List (List Int)}(ho:Low1 o)(hd:Low2 ds){s:List Int}(hs:Low1 s):wcca o ds s=some (bif openB o ds s then(((locOf o ds s).1:Int),true,(locOf o ds s).2)else(0,false,[])):=by
 have e1:=isOpened_eq ho hd hs;unfold wcca wcbz;rw[qn,e1,xc,qo];cases hb:openB o ds s with
 |false=>rfl
 |true=>
  obtain⟨hf,hp,h0⟩:=openB_iff hs hb;have hr:ris o.length s:=by unfold openB at hb;simp only[xh]at hb;exact ris_iff.1 hb.2.1
  have aa:s≠ []:=xar.1 h0;have e2:wbac s=some s:=by unfold Low1 at hs;unfold wbac cloneF;rw[qi (by omega)]
  have e4:=iloc_run hf 103809717 (s:=s) 0 (by omega) (by omega) hr aa (tot_in hf hr aa).2;rw[xk,qb,qn,e2,xc,qn,e4,xc,qq,qa,Int.zero_add];rfl
theorem ibest_eq{o:List Int}{ds:List (List Int)}(ho:Low1 o)(hd:Low2 ds)(hf:Fld o ds):F_zq o ds=some (true,bestOf o ds):=by
 have hS:=setsP hf.pos hf.len;have hl:=setsP_len hS hf.len;have aa:=sets_ne hf.pos hf.len;obtain⟨x,e1,e2,e3⟩:=hS.im;have af:x.1.length=(setsOf o.length).length:=by rw[<-e3,permL_len]
 have ae:=xar.2 aa;have e4:=leastP_eq (x:=x) e2 (by omega) (by omega) (p:=λab=>Option.bind (wbam o ds ab.1) λad=>some ad) (g:=totF o ds) (λs hs=>by rw[e3]at hs;obtain⟨a,b⟩:=sets_ris hf.pos hf.len hs;have e:wbam o ds s=some (totF o ds s):=total_eq hf (a.places hf.len) (xar.2 b);show Option.bind (wbam o ds s) (λy=>some y)=_;rw[e];rfl);unfold F_zq T_zq;rw[qn,IsField_eq ho hd,fieldB_iff.2 hf,xc,qo,xk,qb,qn,e1,xc,qn,e4,xc,qq,e3];rfl
section
variable {n:Nat}{s:List Int}
end
section
variable {o:List Int}{ds:List (List Int)}
def locB(o:List Int)(ds:List (List Int))(s:List Int):Bool×Bool:=bif openB o ds s then(!(betterOf o ds s).isSome,true)else(false,false)
theorem sisLocal_eq{s:List Int}(ho:Low1 o)(hd:Low2 ds)(hs:Low1 s):wbyr o ds s=some (locB o ds s):=by
 unfold wbyr wbyq locB;rw[qn,l2Two_eq ho hd hs,xc,qo];cases hb:openB o ds s with
 |false=>rfl
 |true=>
  obtain⟨hf,hp,h0⟩:=openB_iff hs hb;have hr:ris o.length s:=by unfold openB at hb;simp only[xh]at hb;exact ris_iff.1 hb.2.1
  rw[xk,qb,qn,ebetter_eq hf hr (xar.1 h0),xc,qq];cases betterOf o ds s<;>rfl
theorem iisLocal_eq{s:List Int}(ho:Low1 o)(hd:Low2 ds)(hs:Low1 s):wbsm o ds s=some (locB o ds s):=by
 unfold wbsm wcew locB;rw[qn,isOpened_eq ho hd hs,xc,qo];cases hb:openB o ds s with
 |false=>rfl
 |true=>
  obtain⟨hf,hp,h0⟩:=openB_iff hs hb;have hr:ris o.length s:=by unfold openB at hb;simp only[xh]at hb;exact ris_iff.1 hb.2.1
  rw[xk,qb,qn,ibetter_eq hf hr (xar.1 h0),xc,qq];cases betterOf o ds s<;>rfl
end
section
variable {o:List Int}{ds:List (List Int)}
def met6(ds:List (List Int))(i j a n:Nat):Bool:=(List.range n).all λb=> !decide (at2 ds i b+at2 ds j b+at2 ds j a<at2 ds i a)
def met4(ds:List (List Int))(i j n:Nat):Bool:=(List.range n).all λa=>met6 ds i j a n
def met2(ds:List (List Int))(i n:Nat):Bool:=(List.range ds.length).all λj=>met4 ds i j n
def metB(ds:List (List Int))(n:Nat):Bool:=(List.range ds.length).all λi=>met2 ds i n
theorem imet6(hf:Fld o ds){i j a:Nat}(hi:i<ds.length)(hj:j<ds.length)(ha:a<o.length)(k:(List (Int))×(List (Int))×(Int)×(List (List (Int)))×(Int)×(Int)×(List (List (Int)))×(Int)×(Int)×(Int)×(Int)×(Int)×(List (Int))×(List (List (Int))))
  (k1:k.1=ds.getD i []) (k2:k.2.1=ds.getD j []) (k3:k.2.2.1=(a:Int)) (k4:k.2.2.2.2.2.2.2.2.2.2.2.1=(o.length:Int)):wbjp k 0=some (bif met6 ds i j a o.length then .inl ()else .inr ()):=by
 have ho:=hf.len;have ae:=hf.rowLen i hi;have af:=hf.rowLen j hj;have h:=iter_allR (f:=λv=>(wbaw k v).ev) (n:=o.length) (mk:=λb=>(b:Int)) (p:=λb=> !decide (at2 ds i b+at2 ds j b+at2 ds j a<at2 ds i a)) (yes:=.inl ()) (no:=.inr ())
  (λb hb _=>by
   have v1:=hf.at2 hi hb;have v2:=hf.at2 hj hb;have v3:=hf.at2 hj ha;have v4:=hf.at2 hi ha;unfold at2 at v1 v2 v3 v4⊢;have aa:(b:Int)<(o.length:Int):=by omega
   have g1:inR (a:Int) (ds.getD i []).length=true:=inR_int (by omega) (by omega);have g2:inR (b:Int) (ds.getD i []).length=true:=inR_int (by omega) (by omega);have g3:inR (b:Int) (ds.getD j []).length=true:=inR_int (by omega) (by omega);have g4:inR (a:Int) (ds.getD j []).length=true:=inR_int (by omega) (by omega);have hw:IntKind.wrap .i64 ((b:Int)+1)=((b+1:Nat):Int):=by rw[wrap64 (by omega) (by omega)];rfl
   have ab:IntKind.wrap .i64 ((ds.getD i []).getD b 0+(ds.getD j []).getD b 0)=(ds.getD i []).getD b 0+(ds.getD j []).getD b 0:=wrap64 (by omega) (by omega);have ad:IntKind.wrap .i64 ((ds.getD i []).getD b 0+(ds.getD j []).getD b 0+(ds.getD j []).getD a 0)=(ds.getD i []).getD b 0+(ds.getD j []).getD b 0+(ds.getD j []).getD a 0:=wrap64 (by omega) (by omega);unfold wbaw;rw[k1,k2,k3,k4,qo,qc aa,qa,qp,g1,qa,qp,g2,qa,qp,g3,qa,qp,g4,qa,qo,hw];simp only[xy,ab,ad];cases decide ((ds.getD i []).getD b 0+(ds.getD j []).getD b 0+(ds.getD j []).getD a 0<(ds.getD i []).getD a 0)<;>rfl)
  (by
   have aa:¬(o.length:Int)<(o.length:Int):=by omega
   unfold wbaw;rw[k4,qo,qd aa,qb,qq])
 exact h
theorem imet4(hf:Fld o ds){i j:Nat}(hi:i<ds.length)(hj:j<ds.length)(k:(List (Int))×(List (Int))×(List (List (Int)))×(Int)×(Int)×(List (List (Int)))×(Int)×(Int)×(Int)×(List (Int))×(List (List (Int))))
  (k1:k.1=ds.getD i []) (k2:k.2.1=ds.getD j []) (k3:k.2.2.2.2.2.2.2.2.1=(o.length:Int)) (k4:k.2.2.2.2.2.2.2.2.2.1=o):wbjq k 0=some (bif met4 ds i j o.length then .inl ()else .inr ()):=by
 have ho:=hf.len;have h:=iter_allR (f:=λv=>(wbax k v).ev) (n:=o.length) (mk:=λb=>(b:Int)) (p:=λa=>met6 ds i j a o.length) (yes:=.inl ()) (no:=.inr ())
  (λa ha _=>by
   have aa:(a:Int)<(o.length:Int):=by omega
   have hw:IntKind.wrap .i64 ((a:Int)+1)=((a+1:Nat):Int):=by rw[wrap64 (by omega) (by omega)];rfl
   unfold wbax;rw[k3,qo,qc aa,qa,qn,imet6 hf hi hj ha _ k1 k2 rfl (by rw[k4]),xc,hw];cases met6 ds i j a o.length<;>rfl)
  (by
   have aa:¬(o.length:Int)<(o.length:Int):=by omega
   unfold wbax;rw[k3,qo,qd aa,qb,qq])
 exact h
theorem imet2(hf:Fld o ds){i:Nat}(hi:i<ds.length)(k:(List (Int))×(List (List (Int)))×(Int)×(Int)×(List (List (Int)))×(Int)×(List (Int))×(List (List (Int))))
  (k1:k.1=ds.getD i []) (k2:k.2.2.2.2.1=ds) (k3:k.2.2.2.2.2.1=(ds.length:Int)) (k4:k.2.2.2.2.2.2.1=o):wbjr k 0=some (bif met2 ds i o.length then .inl ()else .inr ()):=by
 have hc:=hf.clients;have h:=iter_allR (f:=λv=>(wbay k v).ev) (n:=ds.length) (mk:=λb=>(b:Int)) (p:=λj=>met4 ds i j o.length) (yes:=.inl ()) (no:=.inr ())
  (λj hj _=>by
   have aa:(j:Int)<(ds.length:Int):=by omega
   have hw:IntKind.wrap .i64 ((j:Int)+1)=((j+1:Nat):Int):=by rw[wrap64 (by omega) (by omega)];rfl
   have g1:=inR_nat hj;unfold wbay;rw[k3,qo,qc aa,qa,qp,k2,g1,qa,qn,imet4 hf hi hj _ k1 (by dsimp only;rw[xy]) (by dsimp only;rw[k4]) k4,xc,hw];cases met4 ds i j o.length<;>rfl)
  (by
   have aa:¬(ds.length:Int)<(ds.length:Int):=by omega
   unfold wbay;rw[k3,qo,qd aa,qb,qq])
 exact h
theorem imet_eq(ho:Low1 o)(hd:Low2 ds):wbjt o ds=some (bif fieldB o ds then(metB ds o.length,true)else(false,false)):=by
 unfold wbjt wceb;rw[qn,IsField_eq ho hd,xc,qo];cases hb:fieldB o ds with
 |false=>rfl
 |true=>
  have hf:=fieldB_iff.1 hb;have hc:=hf.clients;have h:=iter_allR (f:=λv=>(wbaz (ds,((ds.length:Nat):Int),o,ds) v).ev) (n:=ds.length) (mk:=λb=>(b:Int)) (p:=λi=>met2 ds i o.length) (yes:=.inl ()) (no:=.inr ())
   (λi hi _=>by
    have aa:(i:Int)<(ds.length:Int):=by omega
    have hw:IntKind.wrap .i64 ((i:Int)+1)=((i+1:Nat):Int):=by rw[wrap64 (by omega) (by omega)];rfl
    have g1:=inR_nat hi;unfold wbaz;dsimp only;rw[qo,qc aa,qa,qp,g1,qa,qn,imet2 hf hi _ (by dsimp only;rw[xy]) rfl rfl rfl,xc,hw];cases met2 ds i o.length<;>rfl)
   (by
    have aa:¬(ds.length:Int)<(ds.length:Int):=by omega
    unfold wbaz;dsimp only;rw[qo,qd aa,qb,qq])
  have h1:wbjs (ds,((ds.length:Nat):Int),o,ds) 0=some (bif metB ds o.length then .inl ()else .inr ()):=h;rw[xk,qb,qn,h1,xc,qa];cases metB ds o.length<;>rfl
def cheapN(o:List Int):Nat:=(List.range (o.length-1)).foldl (λb k=>if o.getD (k+1) 0<o.getD b 0 then k+1 else b) 0
theorem cheapN_spec(hp:1<=o.length):cheapN o<o.length/\(∀i,i<o.length->o.getD (cheapN o) 0<=o.getD i 0)/\∀i,i<cheapN o->o.getD (cheapN o) 0<o.getD i 0:=by
 have key:∀k,k+1<=o.length->(List.range k).foldl (λb k=>if o.getD (k+1) 0<o.getD b 0 then k+1 else b) 0<=k/\(∀i,i<=k->o.getD ((List.range k).foldl (λb k=>if o.getD (k+1) 0<o.getD b 0 then k+1 else b) 0) 0<=o.getD i 0)/\
   ∀i,i<(List.range k).foldl (λb k=>if o.getD (k+1) 0<o.getD b 0 then k+1 else b) 0->o.getD ((List.range k).foldl (λb k=>if o.getD (k+1) 0<o.getD b 0 then k+1 else b) 0) 0<o.getD i 0:=by
  intro k;induction k with
  |zero=>
   intro _;refine⟨xm _,λi hi=>?_,λi hi=>absurd hi (by simp)⟩;have:i=0:=by omega
   subst this;exact xbv _
  |succ k ih=>
   intro hk;obtain⟨i1,i2,i3⟩:=ih (by omega);rw[foldl_range_succ];generalize(List.range k).foldl (λb k=>if o.getD (k+1) 0<o.getD b 0 then k+1 else b) 0=b at i1 i2 i3;by_cases aa:o.getD (k+1) 0<o.getD b 0
   ·rw[qi aa];refine⟨xm _,λi hi=>?_,λi hi=>?_⟩
    ·by_cases e:i=k+1;·subst e;exact xbv _
     ·have:=i2 i (by omega);omega
    ·have:=i2 i (by omega);omega
   ·rw[qh aa];refine⟨by omega,λi hi=>?_,i3⟩;by_cases e:i=k+1;·subst e;omega
    ·exact i2 i (by omega)
 obtain⟨a,b,c⟩:=key (o.length-1) (by omega);exact⟨by unfold cheapN;omega,λi hi=>b i (by omega),c⟩
theorem gmin_eq{l:List Int}(h0:0<l.length)(hl:l.length<=1000):wbex l=some (l.getD (cheapN l) 0):=by
 have h:=(iter_fold (f:=λv=>(wapj l v).ev) (n:=l.length-1) (mk:=λk (b:Nat)=>(l.getD b 0,((k+1:Nat):Int))) (I:=λk b=>b<=k) (g:=λb k=>if l.getD (k+1) 0<l.getD b 0 then k+1 else b) (fin:=λb=>l.getD b 0) (s0:=0) (xm _)
  (λk b hk hb=>by
   have aa:((k+1:Nat):Int)<((l.length:Nat):Int):=by omega
   have g1:inR ((k+1:Nat):Int) l.length=true:=inR_nat (by omega);have hw:IntKind.wrap .i64 (((k+1:Nat):Int)+1)=((k+1+1:Nat):Int):=by rw[wrap64 (by omega) (by omega)];rfl
   refine⟨?_,by split<;>omega⟩;have ab:(if l.getD (k+1) 0<l.getD b 0 then l.getD (k+1) 0 else l.getD b 0)=l.getD (if l.getD (k+1) 0<l.getD b 0 then k+1 else b) 0:=by split<;>rfl
   unfold wapj;dsimp only;rw[qo,qc aa,qa,qp,g1,qa,hw,xy,ab];rfl)
  (λb _=>by
   have aa:¬((l.length-1+1:Nat):Int)<((l.length:Nat):Int):=by omega
   unfold wapj;dsimp only;rw[qo,qd aa,qb,qq])).1
 have h1:wbdk l (l.getD 0 0,1)=some (l.getD (cheapN l) 0):=h;have hn:¬((l.length:Nat):Int)<1:=by omega
 have g0:inR (0:Int) l.length=true:=inR_int (by omega) (by omega);unfold wbex wbrf;rw[qo,qd hn,qb,qp,g0,qa,qn,show Int.toNat 0=0 from rfl,h1,xc,qq]
theorem icheap_eq(hf:Fld o ds):wcef o ds=some (cheapN o:Int):=by
 have hp:=hf.pos;have h7:=hf.len;obtain⟨c1,c2,c3⟩:=cheapN_spec hp;have e1:=gmin_eq (l:=o) (by omega) (by omega);have h:=iter_forE (f:=λv=>(wbba (o,o.getD (cheapN o) 0,((o.length:Nat):Int)) v).ev) (l:=o) 0 (λy=>o.getD (cheapN o) 0==y) (mk:=λi=>(i:Int)) (yes:=λi=>.inr (i:Int)) (no:=.inl ())
  (λi hi=>by simp(disch:=omega)only[EV,wbba,hi];cases(o.getD (cheapN o) 0==o.getD i 0)<;>rfl)
  (by simp(disch:=omega)only[EV,wbba,xi])
 have h1:wbjv (o,o.getD (cheapN o) 0,((o.length:Nat):Int)) 0=_:=h;have aa:(o.findIdx? λy=>o.getD (cheapN o) 0==y)=some (cheapN o):=by
  rw[xcv];have hg:∀i (hi:i<o.length),o[i]=o.getD i 0:=λi hi=>by rw[xd,xg hi];rfl
  refine⟨c1,by rw[hg _ c1];exact qj _,λi hi=>?_⟩;rw[hg _ (by omega)];have:=c3 i hi;intro h;have:=eq_of_beq h;omega
 rw[aa]at h1;unfold wcef wcee wciu wced;rw[qn,e1,xc,qn,qn,h1];rfl
theorem scheap_eq(hf:Fld o ds):wbxy o ds=some (cheapN o:Int):=by
 have hp:=hf.pos;have h7:=hf.len;have h:=(iter_fold (f:=λv=>(wazr (o,ds) v).ev) (n:=o.length-1) (mk:=λk (b:Nat)=>((b:Int),((k+1:Nat):Int))) (I:=λk b=>b<=k) (g:=λb k=>if o.getD (k+1) 0<o.getD b 0 then k+1 else b) (fin:=λb=>(b:Int)) (s0:=0) (xm _)
  (λk b hk hb=>by
   have aa:((k+1:Nat):Int)<((o.length:Nat):Int):=by omega
   have g1:inR ((k+1:Nat):Int) o.length=true:=inR_nat (by omega);have g2:inR (b:Int) o.length=true:=inR_nat (by omega);have hw:IntKind.wrap .i64 (((k+1:Nat):Int)+1)=((k+1+1:Nat):Int):=by rw[wrap64 (by omega) (by omega)];rfl
   refine⟨?_,by split<;>omega⟩;unfold wazr;dsimp only;simp only[xy];rw[qo,qc aa,qa,qp,g1,qa,qp,g2,qa,qo,hw];by_cases hc:o.getD (k+1) 0<o.getD b 0;·rw[qc hc,qa,qi hc];rfl
   ·rw[qd hc,qb,qh hc];rfl)
  (λb _=>by
   have aa:¬((o.length-1+1:Nat):Int)<((o.length:Nat):Int):=by omega
   unfold wazr;dsimp only;rw[qo,qd aa,qb,qq])).1
 have h1:wbgu (o,ds) (0,1)=some (cheapN o:Int):=h;unfold wbxy wbxx;rw[qn,h1,xc,qq]
end
section
variable {o:List Int}{ds:List (List Int)}{p tm w:List Int}{now:Int}
def nxt(now x t:Int):Int:=if now<t/\(x<0\/t<x)then t else x
theorem NXT.add{C:Int->Prop}{x:Int}(h0:0<=now)(h:NXT now C x)(t:Int):NXT now (λu=>C u\/u=t) (nxt now x t):=by
 unfold nxt;by_cases h1:now<t/\(x<0\/t<x)
 ·rw[qi h1];refine .inr ⟨.inr rfl,h1.1,λu hu hn=>?_⟩;rcases hu with hu|rfl
  ·rcases h with⟨_,h⟩|⟨_,h,c⟩
   ·exact absurd hn (h u hu)
   ·have:=c u hu hn;rcases h1.2 with h2|h2<;>omega
  ·exact xbv _
 ·rw[qh h1];rcases h with⟨a,b⟩|⟨a,b,c⟩
  ·refine .inl ⟨a,λu hu=>?_⟩;rcases hu with hu|rfl;·exact b u hu
   ·exact λh2=>h1 ⟨h2,.inl (by omega)⟩
  ·refine .inr ⟨.inl a,b,λu hu hn=>?_⟩;rcases hu with hu|rfl;·exact c u hu hn
   ·by_cases h2:u<x;·exact absurd ⟨hn,.inr h2⟩ h1
    ·omega
structure SG(ds:List (List Int))(P W pr:List Int)(st:List Bool)(wi:List Int):Prop where
 pl:pr.length=ds.length
 sl:st.length=ds.length
 wl:wi.length=ds.length
 st:∀i,i<ds.length->st.getD i false= !decide (W.getD i 0<0)
 pr:∀i,i<ds.length->¬W.getD i 0<0->pr.getD i 0=P.getD i 0
theorem setB_getD(l:List Bool){i:Nat}(hi:i<l.length)(j:Nat)(v:Bool):(l.set i v).getD j false=if i=j then v else l.getD j false:=by
 rw[xd,xd,xdk];by_cases h:i=j;·subst h;simp[hi]
 ·simp[h]
theorem grown_eq(hf:Fld o ds){P W pr wi:List Int}{st:List Bool}(h:SG ds P W pr st wi)(t:Int)(tm:List Int):wbgw t pr st wi tm=some (gP ds W P t):=by
 have hm:=hf.clients;have key:wbgv (t,pr,st,wi,tm) ((0:Int),([]:List Int))=some ((List.range ds.length).map λi=>if W.getD i 0<0 then t else P.getD i 0):=
  iter_app (f:=λv=>(waxj (t,pr,st,wi,tm) v).ev) (n:=ds.length) (mk:=λk (l:List Int)=>((k:Int),l)) (λi=>if W.getD i 0<0 then t else P.getD i 0) (λl=>l)
   (λi l hi hl=>by
    have aa:∀x:Int,List.length [x]=1:=λ_=>rfl;have hb:(l.length+1)*8<=140737488355328:=by omega
    have e1:=h.st i hi;have ab:=h.pl;have ad:=h.sl;by_cases c:W.getD i 0<0;·rw[qc c,xk]at e1;simp only[qi c];simp(disch:=omega)only[EV,waxj,hi,ab,ad,e1,aa,hb];rfl
    ·rw[qd c,xae]at e1;have e2:=h.pr i hi c;simp only[qh c];simp(disch:=omega)only[EV,waxj,hi,ab,ad,e1,e2,aa,hb];rfl)
   (λl _=>by simp(disch:=omega)only[EV,waxj,h.pl,xi])
 unfold wbgw wbxz gP;simp(disch:=omega)only[EV,key]
theorem sclaim_eq(hf:Fld o ds){P:List Int}(hl:P.length=ds.length)(hp:∀i,i<ds.length->0<=P.getD i 0/\P.getD i 0<=498960){a:Nat}(ha:a<o.length):wbcw o ds P (a:Int) 2520=some (gcl ds P a):=by
 have ab:=hf.clients;have key:wbcv (P,(a:Int),(2520:Int),o,ds) ((0:Int),(0:Int))=some (gclN ds P a P.length):=by
  obtain⟨r,h1,h2⟩:=iter_inv (f:=λv=>(wapm (P,(a:Int),(2520:Int),o,ds) v).ev) (n:=P.length) (λi (c:Int)=>(c,(i:Int))) (λi c=>c=gclN ds P a i) (λr=>r=gclN ds P a P.length) (s0:=0) rfl
   (λi c hi hc=>by
    subst hc;left;have aa:i<ds.length:=by omega
    have hr:=hf.rowLen i aa;have h1:=hp i aa;have h2:=hf.at2 aa ha;obtain⟨g1,g2,_⟩:=gclN_in hf (λi hi=>(hp i hi).2) ha i (by omega);obtain⟨g3,g4,_⟩:=gclN_in hf (λi hi=>(hp i hi).2) ha (i+1) (by omega);have e3:(ds.getD i []).getD a 0=at2 ds i a:=rfl;have e4:2520*at2 ds i a=gln ds i a:=xed _ _;have h5:=gln_in hf aa ha;rw[gclN]at g3 g4;refine⟨_,?_,rfl⟩;simp(disch:=omega)only[EV,wapm,hi,hr,e3,e4,l1Most_eq,pos_max];rfl)
   (λc hc=>⟨c,by simp(disch:=omega)only[EV,wapm,xi],hc⟩)
  exact h1.trans (congrArg some h2)
 unfold wbcw wbml gcl;rw[hl]at key;simp(disch:=omega)only[EV,key]
theorem settle0_eq(hf:Fld o ds){P:List Int}(ad:tm.length=o.length)(hl:P.length=ds.length)(hp:∀i,i<ds.length->0<=P.getD i 0/\P.getD i 0<=498960)(ab:∀a,a<o.length->tm.getD a 0<0->gcl ds P a<=gcs o a)(pr:List Int)(st:List Bool)(wi:List Int):
  wbgx (now,pr,st,wi,o,ds,now,(0:Int),P) ((0:Int),tm)=some (gT o ds P tm now):=
 iter_setI (f:=λv=>(wauv (now,pr,st,wi,o,ds,now,(0:Int),P) v).ev) (n:=o.length) (λa=>if tm.getD a 0<0/\gcs o a<=gcl ds P a then now else tm.getD a 0) ad (by simp[gT]) (λi hi=>gT_getD hi)
  (λa b ha hb he=>by
   have e1:=sclaim_eq hf hl hp ha;have aa:a<b.length:=by omega
   have hc:=hf.cost a ha;have hlen:=hf.len;have e5:2520*o.getD a 0=gcs o a:=xed _ _;by_cases c:tm.getD a 0<0
   ·by_cases c2:gcl ds P a=gcs o a
    ·have eb:(gcl ds P a==gcs o a)=true:=beq_iff_eq.2 c2;refine⟨b.set a now,?_,by simp[hb],λj hj=>?_⟩;·simp(disch:=omega)only[EV,wauv,ha,aa,he,c,e1,e5,eb];rfl
     ·rw[set_getD b aa];by_cases e:a=j;·rw[qi e,qi e,qi ⟨c,by omega⟩]
      ·rw[qh e,qh e]
    ·have eb:(gcl ds P a==gcs o a)=false:=beq_eq_false_iff_ne.2 c2;have:=ab a ha c;refine⟨b,?_,hb,λj hj=>?_⟩;·simp(disch:=omega)only[EV,wauv,ha,aa,he,c,e1,e5,eb];rfl
     ·by_cases e:a=j;·subst e;rw[qi rfl,he,qh λq=>c2 (by omega)]
      ·rw[qh e]
   ·refine⟨b,?_,hb,λj hj=>?_⟩;·simp(disch:=omega)only[EV,wauv,ha,aa,he,c];rfl
    ·by_cases e:a=j;·subst e;rw[qi rfl,he,qh λq=>c q.1]
     ·rw[qh e])
  (λb=>by simp(disch:=omega)only[EV,wauv,xi])
theorem earlier_eq{T:List Int}{a b:Int}(ha:0<=a/\a<(T.length:Int))(hb:0<=b/\b<(T.length:Int))(aa:b<=a)(n:Int)(pr:List Int)(st:List Bool)(wi:List Int):wbnf n pr st wi T a b=some (decide (T.getD a.toNat 0<T.getD b.toNat 0)):=by
 have h1:inR a T.length=true:=inR_int ha.1 ha.2;have h2:inR b T.length=true:=inR_int hb.1 hb.2;have h3:decide (a<b)=false:=qd (by omega);unfold wbnf wbya;rw[qp,h1,qa,qp,h2,qa,qo];cases hq:decide (T.getD a.toNat 0<T.getD b.toNat 0)with
 |true=>rw[qa,qq]
 |false=>
  rw[qb,qp,qa,qp,qa,qo];cases T.getD a.toNat 0==T.getD b.toNat 0 with
  |true=>rw[qa,qq,h3]
  |false=>rw[qb,qq]
theorem settle4_eq(hf:Fld o ds){T W:List Int}(ht:T.length=o.length){i:Nat}(hi:i<ds.length){st:List Bool}(ad:i<st.length)(aa:st.getD i false= !decide (W.getD i 0<0))(pr wi P:List Int):
  wbgy (now,(i:Int),pr,st,wi,T,o,ds,now,(0:Int),P) ((-1:Int),(0:Int))=some (if W.getD i 0<0 then gB ds T now i o.length else-1):=by
 have ai:=hf.pos;have hlen:=hf.len;by_cases c:W.getD i 0<0
 ·rw[qi c];rw[qc c,xk]at aa;obtain⟨r,k1,k2⟩:=iter_inv (f:=λv=>(walb (now,(i:Int),pr,st,wi,T,o,ds,now,(0:Int),P) v).ev) (n:=o.length) (λa (b:Int)=>(b,(a:Int))) (λa b=>b=gB ds T now i a) (λr=>r=gB ds T now i o.length) (s0:= -1) rfl
   (λa b ha hb=>by
    subst hb;left;refine⟨gB ds T now i (a+1),?_,rfl⟩;have hr:=hf.rowLen i hi;have h2:=hf.at2 hi ha;have e3:(ds.getD i []).getD a 0=at2 ds i a:=rfl;have e4:2520*at2 ds i a=gln ds i a:=xed _ _;have ae:a<T.length:=by omega
    have af:=gB_in (ds:=ds) (tm:=T) (now:=now) (i:=i) a;rw[gB];generalize gB ds T now i a=B at af⊢;by_cases h1:0<=T.getD a 0
    ·by_cases ab:gln ds i a<=now
     ·by_cases h3:B<0;·rw[qi ⟨h1,ab,.inl h3⟩];simp(disch:=omega)only[EV,walb,ha,ae,ad,aa,h1,hr,e3,e4,ab,h3];rfl
      ·have e5:=earlier_eq (T:=T) (a:=(a:Int)) (b:=B) (by omega) (by omega) (by omega) now pr st wi;rw[xy]at e5;by_cases h4:T.getD a 0<T.getD B.toNat 0;·rw[qc h4]at e5;rw[qi ⟨h1,ab,.inr h4⟩];simp(disch:=omega)only[EV,walb,ha,ae,ad,aa,h1,hr,e3,e4,ab,h3,e5];rfl
       ·rw[qd h4]at e5;rw[qh λq=>by rcases q.2.2 with q|q;exact h3 q;exact h4 q];simp(disch:=omega)only[EV,walb,ha,ae,ad,aa,h1,hr,e3,e4,ab,h3,e5];rfl
     ·rw[qh λq=>ab q.2.1];simp(disch:=omega)only[EV,walb,ha,ae,ad,aa,h1,hr,e3,e4,ab];rfl
    ·rw[qh λq=>h1 q.1];simp(disch:=omega)only[EV,walb,ha,ae,ad,aa,h1];rfl)
   (λb hb=>⟨b,by simp(disch:=omega)only[EV,walb,xi],hb⟩)
  rw[<-k2];exact k1
 ·rw[qh c];rw[qd c,xae]at aa;have ah:(walb (now,(i:Int),pr,st,wi,T,o,ds,now,(0:Int),P) ((-1:Int),(0:Int))).ev=some (.inr (-1)):=by
   have h0:(0:Int)<((o.length:Nat):Int):=by omega
   simp(disch:=omega)only[EV,walb,h0,ad,aa]
  refine iter_some.2 ⟨1,?_⟩;simp only[iterN,ah]
theorem settle2_eq(hf:Fld o ds){T P W:List Int}(ht:T.length=o.length){pr wi:List Int}{st:List Bool}(s:SG ds P W pr st wi){Q:List Int}(hQ:Q.length=ds.length):
  ∃aa ab ad,wbgz (now,T,o,ds,now,(0:Int),Q) ((0:Int),pr,st,wi)=some (aa,ab,ad)/\SG ds (gP ds W P now) (gW o ds T W now) aa ab ad:=by
 obtain⟨r,k1,k2,k3,k4,k5⟩:=iter_inv (f:=λv=>(waot (now,T,o,ds,now,(0:Int),Q) v).ev) (n:=ds.length) (λi (c:List Int×List Bool×List Int)=>((i:Int),c))
  (λi c=>c.1.length=ds.length/\c.2.1.length=ds.length/\c.2.2.length=ds.length/\∀j,j<ds.length->c.2.1.getD j false=(!decide ((if j<i then(gW o ds T W now).getD j 0 else W.getD j 0)<0))/\(¬(if j<i then(gW o ds T W now).getD j 0 else W.getD j 0)<0->c.1.getD j 0=(gP ds W P now).getD j 0))
  (λc=>c.1.length=ds.length/\c.2.1.length=ds.length/\c.2.2.length=ds.length/\∀j,j<ds.length->c.2.1.getD j false=(!decide ((gW o ds T W now).getD j 0<0))/\(¬(gW o ds T W now).getD j 0<0->c.1.getD j 0=(gP ds W P now).getD j 0)) (s0:=(pr,st,wi))
  ⟨s.pl,s.sl,s.wl,λj hj=>by rw[qh (by omega)];exact⟨s.st j hj,λh=>by rw[gP_getD hj,qh h];exact s.pr j hj h⟩⟩
  (λi c hi ⟨c1,c2,c3,c4⟩=>by
   left;obtain⟨x,y,z⟩:=c;simp only at c1 c2 c3 c4;have ae:=(c4 i hi).1;rw[qh (by omega)]at ae;have e1:=settle4_eq (now:=now) hf ht hi (by omega) ae x z Q;have hm:=hf.clients;have g1:i<x.length:=by omega
   have g2:i<y.length:=by omega
   have g3:i<z.length:=by omega
   have hW:=gW_getD (o:=o) (ds:=ds) (tm:=T) (w:=W) (now:=now) hi;have af:=gB_in (ds:=ds) (tm:=T) (now:=now) (i:=i) o.length
   -- what stays as it ah
   have stay:(waot (now,T,o,ds,now,(0:Int),Q) ((i:Int),x,y,z)).ev=some (.inl (((i+1:Nat):Int),x,y,z))->(W.getD i 0<0↔(gW o ds T W now).getD i 0<0)->∃s',(waot (now,T,o,ds,now,(0:Int),Q) ((i:Int),x,y,z)).ev=some (.inl (((i+1:Nat):Int),s'))/\s'.1.length=ds.length/\s'.2.1.length=ds.length/\s'.2.2.length=ds.length/\∀j,j<ds.length->s'.2.1.getD j false=(!decide ((if j<i+1 then(gW o ds T W now).getD j 0 else W.getD j 0)<0))/\(¬(if j<i+1 then(gW o ds T W now).getD j 0 else W.getD j 0)<0->s'.1.getD j 0=(gP ds W P now).getD j 0):=λhs hw=>
    ⟨(x,y,z),hs,c1,c2,c3,λj hj=>by
     obtain⟨q1,q2⟩:=c4 j hj;by_cases e:j=i;·subst e;rw[qh (by omega)]at q1 q2;rw[qi (by omega)];refine⟨by rw[q1];congr 1;exact decide_eq_decide.2 hw,λh=>q2 λh'=>h (hw.1 h')⟩
     ·by_cases h:j<i;·rw[qi h]at q1 q2;rw[qi (by omega)];exact⟨q1,q2⟩
      ·rw[qh h]at q1 q2;rw[qh (by omega)];exact⟨q1,q2⟩⟩
   by_cases c:W.getD i 0<0
   ·rw[qi c]at e1 hW;by_cases hB:0<=gB ds T now i o.length
    ·refine⟨(x.set i now,y.set i true,z.set i (gB ds T now i o.length)),?_,by simp[c1],by simp[c2],by simp[c3],λj hj=>?_⟩;·simp(disch:=omega)only[EV,waot,hQ,hi,e1,hB,c1,c2,c3];rfl
     ·simp only;rw[setB_getD y g2,set_getD x g1];by_cases e:i=j;·subst e;rw[qi rfl,qi rfl,qi (by omega),hW,qd (by omega),gP_getD hj,qi c];exact⟨rfl,λ_=>rfl⟩
      ·obtain⟨q1,q2⟩:=c4 j hj;rw[qh e,qh e];by_cases h:j<i;·rw[qi h]at q1 q2;rw[qi (by omega)];exact⟨q1,q2⟩
       ·rw[qh h]at q1 q2;rw[qh (by omega)];exact⟨q1,q2⟩
    ·refine stay ?_ (by rw[hW];omega);simp(disch:=omega)only[EV,waot,hQ,hi,e1,hB];rfl
   ·rw[qh c]at e1 hW;refine stay ?_ (by rw[hW]);have h1:¬(0:Int)<= -1:=by omega
    simp(disch:=omega)only[EV,waot,hQ,hi,e1,h1];rfl)
  (λc ⟨c1,c2,c3,c4⟩=>⟨c,by simp(disch:=omega)only[EV,waot,hQ,xi],c1,c2,c3,λj hj=>by have:=c4 j hj;rw[qi hj]at this;exact this⟩)
 exact⟨r.1,r.2.1,r.2.2,k1,⟨k2,k3,k4,λi hi=>(k5 i hi).1,λi hi=>(k5 i hi).2⟩⟩
theorem settle_eq(hf:Fld o ds)(h:GI o ds p tm w now)(e:GE o ds p tm w now){pr wi:List Int}{st:List Bool}(s:SG ds p w pr st wi):
  ∃aa ab ad,wbnj o ds now pr st wi tm=some (now,aa,ab,ad,gT o ds (gP ds w p now) tm now)/\SG ds (gP ds w p now) (gW o ds (gT o ds (gP ds w p now) tm now) w now) aa ab ad:=by
 have hp:∀i,i<ds.length->0<=(gP ds w p now).getD i 0/\(gP ds w p now).getD i 0<=498960:=λi hi=>by have:=h.price hi;have:=h.n1;omega
 have e1:=grown_eq hf s now tm;have e2:=settle0_eq (now:=now) hf h.tl (P:=gP ds w p now) (by simp[gP]) hp e.fair pr st wi;obtain⟨aa,ab,ad,e3,e4⟩:=settle2_eq (now:=now) hf (T:=gT o ds (gP ds w p now) tm now) (by simp[gT]) s (Q:=gP ds w p now) (by simp[gP]);refine⟨aa,ab,ad,?_,e4⟩;unfold wbnj wbyb;rw[qn,e1,xc,qn,e2,xc,qn,e3,xc,qq]
theorem moving_eq(hf:Fld o ds){P W pr wi:List Int}{st:List Bool}(s:SG ds P W pr st wi)(T:List Int):wbyd now pr st wi T=some (!(List.range ds.length).all λi=> !decide (W.getD i 0<0)):=by
 have hm:=hf.clients;have key:=iter_allR (f:=λv=>(waxk (now,pr,st,wi,T) v).ev) (n:=ds.length) (λi=>(i:Int)) (λi=> !decide (W.getD i 0<0)) (.inl ():Unit⊕Unit) (.inr ())
  (λi hi _=>by
   have e1:=s.st i hi;have aa:=s.sl;cases hq: !decide (W.getD i 0<0)with
   |true=>rw[hq]at e1;simp(disch:=omega)only[EV,waxk,hi,aa,e1];rfl
   |false=>rw[hq]at e1;simp(disch:=omega)only[EV,waxk,hi,aa,e1])
  (by simp(disch:=omega)only[EV,waxk,s.sl,xi])
 have k1:wbha (now,pr,st,wi,T) (0:Int)=some (bif (List.range ds.length).all λi=> !decide (W.getD i 0<0)then .inl ()else .inr ()):=key;unfold wbyd wbyc;rw[qn,k1,xc];cases(List.range ds.length).all λi=> !decide (W.getD i 0<0)<;>rfl
theorem speed_eq(hf:Fld o ds){P W pr wi:List Int}{st:List Bool}(s:SG ds P W pr st wi)(T:List Int){a:Nat}(ha:a<o.length):wbyh o ds now pr st wi T (a:Int)=some (gmany ds W now a:Int):=by
 obtain⟨r,k1,k2⟩:=iter_inv (f:=λv=>(wauy ((a:Int),o,ds,now,pr,st,wi,T) v).ev) (n:=ds.length) (λi (c:Int)=>(c,(i:Int))) (λi c=>c=(gcnt ds W now a i:Int)) (λr=>r=(gmany ds W now a:Int)) (s0:=(0:Int)) rfl
  (λi c hi hc=>by
   left;have hm:=hf.clients;have hr:=hf.rowLen i hi;have h2:=hf.at2 hi ha;have e1:=s.st i hi;have aa:=s.sl;have e3:(ds.getD i []).getD a 0=at2 ds i a:=rfl;have e4:2520*at2 ds i a=gln ds i a:=xed _ _;have ad:=cntN_max (λj=>W.getD j 0<0/\gln ds j a<=now) i;have e0:gcnt ds W now a i=cntN (λj=>W.getD j 0<0/\gln ds j a<=now) i:=rfl;have hb:c<=7:=by omega
   have hb0:0<=c:=by omega
   refine⟨(gcnt ds W now a (i+1):Int),?_,rfl⟩;unfold gcnt;rw[cntN];rw[e0]at hc;by_cases c1:W.getD i 0<0
   ·rw[qc c1,xk]at e1;by_cases c2:gln ds i a<=now;·rw[qi ⟨c1,c2⟩,xex,<-hc];simp(disch:=omega)only[EV,wauy,hi,aa,e1,hr,e3,e4,c2];rfl
    ·rw[qh λq=>c2 q.2,xbi,<-hc];simp(disch:=omega)only[EV,wauy,hi,aa,e1,hr,e3,e4,c2];rfl
   ·rw[qd c1,xae]at e1;rw[qh λq=>c1 q.1,xbi,<-hc];simp(disch:=omega)only[EV,wauy,hi,aa,e1];rfl)
  (λc hc=>⟨c,by simp(disch:=omega)only[EV,wauy,xi],hc⟩)
 have ab:wbhd ((a:Int),o,ds,now,pr,st,wi,T) ((0:Int),(0:Int))=some r:=k1;unfold wbyh wbyg;rw[qn,ab,xc,qq,k2]
theorem break2_eq(hf:Fld o ds)(h0:0<=now){P W pr wi:List Int}{st:List Bool}(s:SG ds P W pr st wi)(T:List Int){i:Nat}(hi:i<ds.length){C:Int->Prop}{x:Int}(hx:NXT now C x):
  ∃y,wbhb ((i:Int),o,ds,now,pr,st,wi,T) (x,(0:Int))=some y/\NXT now (λu=>C u\/(W.getD i 0<0/\∃a,a<o.length/\u=gln ds i a)) y:=by
 obtain⟨r,k1,k2⟩:=iter_inv (f:=λv=>(wapd ((i:Int),o,ds,now,pr,st,wi,T) v).ev) (n:=o.length) (λa (c:Int)=>(c,(a:Int))) (λa c=>NXT now (λu=>C u\/(W.getD i 0<0/\∃b,b<a/\u=gln ds i b)) c) (λc=>NXT now (λu=>C u\/(W.getD i 0<0/\∃a,a<o.length/\u=gln ds i a)) c) (s0:=x)
  (hx.eqv λu=>⟨.inl,λh=>h.elim id λ⟨_,b,hb,_⟩=>absurd hb (by omega)⟩)
  (λa c ha hc=>by
   left;have hr:=hf.rowLen i hi;have h2:=hf.at2 hi ha;have hlen:=hf.len;have e1:=s.st i hi;have aa:=s.sl;have e3:(ds.getD i []).getD a 0=at2 ds i a:=rfl;have e4:2520*at2 ds i a=gln ds i a:=xed _ _;by_cases c1:W.getD i 0<0
   ·rw[qc c1,xk]at e1;refine⟨nxt now c (gln ds i a),?_,(hc.add h0 (gln ds i a)).eqv λu=>?_⟩
    ·unfold nxt;by_cases c2:now<gln ds i a
     ·by_cases c3:c<0;·rw[qi ⟨c2,.inl c3⟩];simp(disch:=omega)only[EV,wapd,ha,hr,aa,e1,e3,e4,c2,c3];rfl
      ·by_cases c4:gln ds i a<c;·rw[qi ⟨c2,.inr c4⟩];simp(disch:=omega)only[EV,wapd,ha,hr,aa,e1,e3,e4,c2,c3,c4];rfl
       ·rw[qh λq=>by rcases q.2 with q|q;exact c3 q;exact c4 q];simp(disch:=omega)only[EV,wapd,ha,hr,aa,e1,e3,e4,c2,c3,c4];rfl
     ·rw[qh λq=>c2 q.1];simp(disch:=omega)only[EV,wapd,ha,hr,aa,e1,e3,e4,c2];rfl
    ·constructor
     ·rintro((h|⟨_,b,hb,h⟩)|h);·exact .inl h
      ·exact .inr ⟨c1,b,by omega,h⟩
      ·exact .inr ⟨c1,a,by omega,h⟩
     ·rintro(h|⟨_,b,hb,h⟩);·exact .inl (.inl h)
      ·by_cases e:b=a;·subst e;exact .inr h
       ·exact .inl (.inr ⟨c1,b,by omega,h⟩)
   ·rw[qd c1,xae]at e1;refine⟨c,?_,hc.eqv λu=>⟨λh=>h.imp id λh=>absurd h.1 c1,λh=>h.imp id λh=>absurd h.1 c1⟩⟩;simp(disch:=omega)only[EV,wapd,ha,hr,aa,e1];rfl)
  (λc hc=>⟨c,by simp(disch:=omega)only[EV,wapd,xi],hc⟩)
 exact⟨r,k1,k2⟩
theorem break_eq(hf:Fld o ds)(h0:0<=now){P W pr wi:List Int}{st:List Bool}(s:SG ds P W pr st wi)(T:List Int):
  ∃x,wbyf o ds now pr st wi T=some x/\NXT now (λu=>∃i,i<ds.length/\W.getD i 0<0/\∃a,a<o.length/\u=gln ds i a) x:=by
 obtain⟨r,k1,k2⟩:=iter_inv (f:=λv=>(wazs (o,ds,now,pr,st,wi,T) v).ev) (n:=ds.length) (λi (c:Int)=>(c,(i:Int))) (λi c=>NXT now (λu=>∃j,j<i/\W.getD j 0<0/\∃a,a<o.length/\u=gln ds j a) c) (λc=>NXT now (λu=>∃i,i<ds.length/\W.getD i 0<0/\∃a,a<o.length/\u=gln ds i a) c) (s0:= -1)
  (.inl ⟨rfl,λu ⟨j,h,_⟩=>absurd h (by omega)⟩)
  (λi c hi hc=>by
   left;have hm:=hf.clients;obtain⟨y,e1,hy⟩:=break2_eq hf h0 s T hi hc;refine⟨y,by simp(disch:=omega)only[EV,wazs,hi,e1];rfl,hy.eqv λu=>?_⟩;constructor
   ·rintro(⟨j,hj,h⟩|h);·exact⟨j,by omega,h⟩
    ·exact⟨i,by omega,h⟩
   ·rintro⟨j,hj,h⟩;by_cases e:j=i;·subst e;exact .inr h
    ·exact .inl ⟨j,by omega,h⟩)
  (λc hc=>⟨c,by simp(disch:=omega)only[EV,wazs,xi],hc⟩)
 have aa:wbhc (o,ds,now,pr,st,wi,T) ((-1:Int),(0:Int))=some r:=k1;refine⟨r,?_,k2⟩;unfold wbyf wbye;rw[qn,aa,xc,qq]
end
end Go.Proofs.YtidaiohhaanphaaGreatDoor
