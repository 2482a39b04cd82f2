/-
 Plain laws: small sorts; ordered values.
-/
import Derived.Test.YteiekijgoifhoaaGreatDoorP8
import Derived.Test.YteiekijgoifhoaaGreatDoorPM
import Derived.Test.YteiekijgoifhoaaGreatDoorB30
namespace Go.Proofs.YteiekijgoifhoaaGreatDoor
def ins(x:Int):List Int→List Int
 | []=>[x]
 |a::l=>if a≤x then a::ins x l else x::a::l
def sortI(l:List Int):List Int:=l.foldl (fun acc x=>ins x acc) []
theorem ins_snoc{x y:Int}(h:x<y):∀q:List Int,ins x (q++ [y])=ins x q++ [y]
 | []=>by simp [ins];omega
 |a::q=>by
  simp only [xdn,ins]
  split
  ·rw [ins_snoc h q];rfl
  ·rfl
theorem ins_last{x:Int}:∀ {l:List Int},(∀y∈l,y≤x)→ins x l=l++ [x]
 | [],_=>rfl
 |a::l,h=>by
  simp only [ins,if_pos (h a xx),xdn]
  rw [ins_last fun y hy=>h y (xu _ hy)]
theorem mem_ins{x y:Int}:∀ {l:List Int},y∈ins x l↔y=x∨y∈l
 | []=>by simp [ins]
 |a::l=>by
  simp only [ins]
  split
  ·simp only [xam,mem_ins (l:=l)]
   constructor
   ·rintro(h|h|h)
    ·exact .inr (.inl h)
    ·exact .inl h
    ·exact .inr (.inr h)
   ·rintro(h|h|h)
    ·exact .inr (.inl h)
    ·exact .inl h
    ·exact .inr (.inr h)
  ·simp only [xam]
theorem ins_len{x:Int}:∀ {l:List Int},(ins x l).length=l.length+1
 | []=>rfl
 |a::l=>by
  simp only [ins]
  split
  ·simp [ins_len (l:=l)]
  ·rfl
theorem ins_sorted{x:Int}:∀ {l:List Int},l.Pairwise (· ≤ ·)→(ins x l).Pairwise (· ≤ ·)
 | [],_=>by simp [ins]
 |a::l,h=>by
  rw [xbe] at h
  simp only [ins]
  split
  next hx=>
   rw [xbe]
   exact⟨fun y hy=>(mem_ins.1 hy).elim (fun e=>e▸hx) (h.1 y),ins_sorted h.2⟩
  next hx=>
   rw [xbe,xbe]
   refine⟨fun y hy=>?_,h⟩
   rcases xam.1 hy with rfl|hy
   ·omega
   ·have:=h.1 y hy;omega
theorem sortI_snoc(l:List Int)(x:Int):sortI (l++ [x])=ins x (sortI l):=by simp [sortI]
theorem sortI_inv:∀l:List Int,(sortI l).Pairwise (· ≤ ·)∧(sortI l).length=l.length∧∀y,y∈sortI l↔y∈l:=by
 intro l
 have key:∀ (l acc:List Int),acc.Pairwise (· ≤ ·)→(l.foldl (fun acc x=>ins x acc) acc).Pairwise (· ≤ ·)∧(l.foldl (fun acc x=>ins x acc) acc).length=acc.length+l.length∧∀y,y∈l.foldl (fun acc x=>ins x acc) acc↔y∈acc∨y∈l:=by
  intro l
  induction l with
  |nil=>intro acc h;exact⟨h,rfl,fun y=>by simp⟩
  |cons x l ih=>
   intro acc h
   obtain⟨h1,h2,h3⟩:=ih (ins x acc) (ins_sorted h)
   refine⟨h1,by rw [xbk,h2,ins_len,xad];omega,fun y=>?_⟩
   rw [xbk,h3,mem_ins,xam]
   constructor
   ·rintro((h|h)|h)
    ·exact .inr (.inl h)
    ·exact .inl h
    ·exact .inr (.inr h)
   ·rintro(h|h|h)
    ·exact .inl (.inr h)
    ·exact .inl (.inl h)
    ·exact .inr h
 obtain⟨h1,h2,h3⟩:=key l [] List.Pairwise.nil
 exact⟨h1,by simpa [sortI] using h2,fun y=>by simpa [sortI] using h3 y⟩
theorem cmpLess_eq(a b:Int):F_zb a b=some (decide (a<b)):=by
 unfold F_zb T_zb wwj T_zd
 simp (disch:=omega) only [EV,bne_self_eq_false]
theorem getD_mid{p r:List Int}{x:Int}:(p++x::r).getD p.length 0=x:=by
 rw [xd,xz (xm _),xdr];rfl
theorem insertion_in(n i:Int):∀ (m:Nat) (p:List Int) (x:Int) (r:List Int),p.length=m→(p.length:Int)<9223372036854775807→p.Pairwise (· ≤ ·)→wcv (0,(n,i)) ((p.length:Int),p++x::r)=some (ins x p++r):=by
 intro m
 induction m with
 |zero=>
  intro p x r hm _ _
  have:=xi hm
  subst this
  unfold wcv
  rw [iter_eq]
  simp (disch:=omega) only [EV,wai,xo,xai,xdl,show((0:Nat):Int)=0 from rfl]
  rfl
 |succ m ih=>
  intro p x r hm ae hp
  obtain⟨q,y,rfl⟩:∃q y,p=q++ [y]:=by
   have:=xeq p
   rcases this with h|⟨q,y,h⟩
   ·rw [h] at hm;cases hm
   ·exact⟨q,y,by simpa using h⟩
  have aa:q.length=m:=by simpa using hm
  have e0:((q++ [y]).length:Int)=((m+1:Nat):Int):=by simp [aa]
  rw [e0] at ae⊢
  have e2:((m+1:Nat):Int) -1=(m:Int):=by omega
  have g1:((q++ [y])++x::r).getD (m+1) 0=x:=by
   have:=getD_mid (p:=q++ [y]) (x:=x) (r:=r)
   rwa [show(q++ [y]).length=m+1 by simp [aa]] at this
  have g2:((q++ [y])++x::r).getD m 0=y:=by
   have:=getD_mid (p:=q) (x:=y) (r:=x::r)
   rw [aa] at this
   simpa using this
  have hl:((q++ [y])++x::r).length=m+2+r.length:=by simp [aa];omega
  have s1:(((q++ [y])++x::r).set (m+1) y).set m x=q++x::(y::r):=by
   have t1:((q++ [y])++x::r).set (m+1) y=(q++ [y])++y::r:=by
    rw [xce _ _ (by simp [aa]),show m+1-(q++ [y]).length=0 by simp [aa]];rfl
   rw [t1,xcx,xce _ _ (by omega),show m-q.length=0 by omega]
   rfl
  have ad:¬x<y→((q++ [y])++x::r)=ins x (q++ [y])++r:=fun ab=>by
   rw [ins_last]
   ·simp
   ·intro z hz
    rcases xq.1 hz with hz|hz
    ·have:=(xcw.1 hp).2.2 z hz y (by simp)
     omega
    ·have:=xt.1 hz
     omega
  have h0:(0:Int)<((m+1:Nat):Int):=by omega
  have h1:m+1<m+2+r.length:=by omega
  have h2:m<m+2+r.length:=by omega
  generalize ((q++ [y])++x::r)=L at g1 g2 hl s1 ad
  unfold wcv
  rw [iter_eq]
  by_cases ab:x<y
  ·have e:(wai (0,(n,i)) (((m+1:Nat):Int),L)).ev=some (.inl ((m:Int),q++x::(y::r))):=by
    simp (disch:=omega) only [EV,wai,h0,hl,h1,e2,h2,g1,g2,cmpLess_eq,ab,xar,s1]
   rw [e]
   have:=ih q x (y::r) aa (by omega) (xcw.1 hp).1
   rw [aa] at this
   unfold wcv at this
   simp only
   rw [this,ins_snoc ab]
   simp
  ·have e:(wai (0,(n,i)) (((m+1:Nat):Int),L)).ev=some (.inr L):=by
    simp (disch:=omega) only [EV,wai,h0,hl,h1,e2,h2,g1,g2,cmpLess_eq,ab]
   rw [e]
   simp only
   rw [ad ab]
theorem sort_fin(l:List Int):(List.range (l.length-1)).foldl (fun _ k=>sortI (l.take (k+2))++l.drop (k+2)) l=sortI l:=by
 cases hn:l.length-1 with
 |zero=>
  rcases l with _|⟨a,_|⟨b,l⟩⟩
  ·rfl
  ·rfl
  ·simp at hn
 |succ n=>
  rw [xef,xdx]
  simp only [xbk,xgd]
  rw [xah (by omega),xek (by omega),xas]
theorem insertionSort_eq{l:List Int}(hl:(l.length:Int)<9223372036854775806):wyn 0 (l.length:Int) l=some (sortI l):=by
 have key:=(iter_fold (f:=fun v=>(wcw (0,(l.length:Int)) v).ev) (n:=l.length-1) (mk:=fun k (s:List Int)=>(((k+1:Nat):Int),s)) (I:=fun k s=>s=sortI (l.take (k+1))++l.drop (k+1)) (g:=fun _ k=>sortI (l.take (k+2))++l.drop (k+2)) (fin:=fun s=>s) (s0:=l) (by
   cases l with
   |nil=>rfl
   |cons a l=>simp [sortI,ins])
  (fun k s hk hs=>by
   subst hs
   have aa:k+1<l.length:=by omega
   obtain⟨h1,h2,_⟩:=sortI_inv (l.take (k+1))
   have h3:(sortI (l.take (k+1))).length=k+1:=by rw [h2];simp;omega
   have h4:l.drop (k+1)=l[k+1]::l.drop (k+2):=xcb aa
   have h5:sortI (l.take (k+2))=ins l[k+1] (sortI (l.take (k+1))):=by
    rw [←sortI_snoc,xbo aa]
   have h6:=insertion_in (l.length:Int) ((k+1:Nat):Int) (k+1) (sortI (l.take (k+1))) l[k+1] (l.drop (k+2)) h3 (by rw [h3];omega) h1
   rw [h3,←h4] at h6
   refine⟨?_,rfl⟩
   simp (disch:=omega) only [EV,wcw,aa,h6]
   rw [h5]
   rfl)
  (fun s _=>by
   have:¬((l.length-1+1:Nat):Int)<(l.length:Int):=by omega
   simp (disch:=omega) only [EV,wcw,show¬(l.length-1+1<l.length) by omega])).1
 rw [sort_fin] at key
 have z:(((0+1:Nat):Int),l)=((1:Int),l):=rfl
 have e:wjp (0,(l.length:Int)) (1,l)=some (sortI l):=key
 unfold wyn wym
 simp (disch:=omega) only [EV,show IntKind.wrap .i64 ((0:Int)+1)=1 from rfl,e]
theorem bitsLen_ok:∀n:Nat,n≤12→∃r,wnu (IntKind.wrap .u64 (n:Int))=some r
 |0,_=>⟨0,by kernel_rfl⟩
 |1,_=>⟨1,by kernel_rfl⟩
 |2,_=>⟨2,by kernel_rfl⟩
 |3,_=>⟨2,by kernel_rfl⟩
 |4,_=>⟨3,by kernel_rfl⟩
 |5,_=>⟨3,by kernel_rfl⟩
 |6,_=>⟨3,by kernel_rfl⟩
 |7,_=>⟨3,by kernel_rfl⟩
 |8,_=>⟨4,by kernel_rfl⟩
 |9,_=>⟨4,by kernel_rfl⟩
 |10,_=>⟨4,by kernel_rfl⟩
 |11,_=>⟨4,by kernel_rfl⟩
 |12,_=>⟨4,by kernel_rfl⟩
 |n+13,h=>by omega
theorem slicesSort_eq{l:List Int}(hl:l.length≤12):wyq l=some (sortI l):=by
 obtain⟨r,hr⟩:=bitsLen_ok l.length hl
 have key:wew (0,((l.length:Int),(r,(true,(true,l))))) ()=some (sortI l):=by
  have hw:IntKind.wrap .i64 ((l.length:Int) -0)≤12:=by rw [wrap64 (by omega) (by omega)];omega
  unfold wew
  rw [iter_eq]
  unfold wev
  rw [Tr.ev_t]
  simp only
  rw [decide_eq_true hw,cond_true,Tr.ev_c,insertionSort_eq (by omega)]
  rfl
 unfold wyq wyp
 rw [Tr.ev_c,hr,xf,Tr.ev_c]
 unfold wady wyo
 rw [Tr.ev_c,key]
 rfl
theorem ins_find(x:Int):∀l:List Int,l.take ((l.findIdx? fun y=> !decide (y≤x)).elim l.length id)++x::l.drop ((l.findIdx? fun y=> !decide (y≤x)).elim l.length id)=ins x l
 | []=>rfl
 |a::l=>by
  have ih:=ins_find x l
  rw [xfj]
  by_cases h:a≤x
  ·simp only [h,decide_true,xbv,xaf,if_false,ins,if_true]
   cases hf:l.findIdx? fun y=> !decide (y≤x) with
   |none=>rw [hf] at ih;simpa using ih
   |some j=>rw [hf] at ih;simpa using ih
  ·simp [h,ins]
end Go.Proofs.YteiekijgoifhoaaGreatDoor
/-
 What is known of arguments by their types alone, in the words of the plain laws.
-/
namespace Go.Proofs.YteiekijgoifhoaaGreatDoor
end Go.Proofs.YteiekijgoifhoaaGreatDoor
/-
 Plain laws: the cursor from which inputs are drawn.
-/
namespace Go.Proofs.YteiekijgoifhoaaGreatDoor
open Go
def CK(B:Int)(l:List Int)(i:Int):Prop:=(∀x∈l,0≤x∧x≤255)∧l.length≤100000∧0≤i∧i≤B
theorem CK.mono{B B':Int}{l:List Int}{i:Int}(h:CK B l i)(hb:B≤B'):CK B' l i:=⟨h.1,h.2.1,h.2.2.1,by have:=h.2.2.2;omega⟩
theorem fitB{x:Int}(h:Fit (.int .u8) x):0≤x∧x≤255:=by
 have h:(Lit.int .u8 x).wf=true:=h
 simp only [Lit.wf,xg,decide_eq_true_eq] at h
 have h1:IntKind.u8.min=0:=rfl
 have h2:IntKind.u8.max=255:=rfl
 omega
theorem mask_in(A:BitVec (IntKind.bits .u64)):0≤IntKind.wrap .i64 (IntKind.wrap .u64 ((BitVec.toNat (A&&& (BitVec.ofInt (IntKind.bits .u64) (255:Int))):Nat):Int))∧IntKind.wrap .i64 (IntKind.wrap .u64 ((BitVec.toNat (A&&& (BitVec.ofInt (IntKind.bits .u64) (255:Int))):Nat):Int))≤255:=by
 have h1:BitVec.toNat (A&&& (BitVec.ofInt (IntKind.bits .u64) (255:Int)))≤255:=by
  rw [BitVec.toNat_and]
  have h2:(BitVec.ofInt (IntKind.bits .u64) (255:Int)).toNat=255:=by decide
  rw [h2]
  exact Nat.and_le_right
 generalize BitVec.toNat (A&&& (BitVec.ofInt (IntKind.bits .u64) (255:Int)))=n at h1
 have h3:IntKind.wrap .u64 ((n:Nat):Int)=(n:Int):=by
  have h:IntKind.wrap .u64 ((n:Nat):Int)=(n:Int) % 18446744073709551616:=by
   unfold IntKind.wrap
   simp [IntKind.bits,IntKind.signed]
  rw [h]
  omega
 rw [h3,wrap64 (by omega) (by omega)]
 omega
theorem next_ok{B:Int}{l:List Int}{i:Int}(c:Int)(h:CK B l i)(hB:B≤1000000):∃x i' c',wjy l i c=some (x,(l,(i',c')))∧0≤x∧x≤255∧CK (B+1) l i':=by
 obtain⟨h1,h2,h3,h4⟩:=h
 have hk:CK (B+1) l (i+1):=⟨h1,h2,by omega,by omega⟩
 have aa:(0:Int)≤40:=by omega
 unfold wjy wql
 by_cases k1:i<((l.length:Nat):Int)
 ·have hx:0≤l.getD i.toNat 0∧l.getD i.toNat 0≤255:=h1 _ (getD_mem (by omega))
  by_cases k2:i+1≤((l.length:Nat):Int)
  ·simp (disch:=omega) only [EV,k1,k2]
   exact⟨_,_,_,rfl,by omega,by omega,hk⟩
  ·exact absurd k1 (by omega)
 ·by_cases k2:i+1≤((l.length:Nat):Int)
  ·exact absurd k1 (by omega)
  ·simp only [Tr.ev_t,Tr.ev_g,Tr.ev_l,k1,decide_false,cond_false]
   rw [wrap64 (n:=i+1) (by omega) (by omega)]
   simp only [k2,aa,decide_false,decide_true,cond_false,cond_true]
   exact⟨_,_,_,rfl,(mask_in _).1,(mask_in _).2,hk⟩
theorem pick_ok{B:Int}{l:List Int}{i:Int}(n c:Int)(h:CK B l i)(hB:B≤999000)(hn:1≤n):∃x i' c',ww n l i c=some (x,(l,(i',c')))∧0≤x∧x<n∧CK (B+2) l i':=by
 unfold ww wqm
 by_cases k0:n≤1
 ·simp (disch:=omega) only [EV,k0]
  exact⟨_,_,_,rfl,by omega,by omega,h.mono (by omega)⟩
 ·obtain⟨x,i1,c1,e1,x0,x1,h1⟩:=next_ok c h (by omega)
  have nz:decide (n=0)=false:=by simp;omega
  by_cases k1:(200:Int)<n
  ·obtain⟨y,i2,c2,e2,y0,y1,h2⟩:=next_ok c1 h1 (by omega)
   simp (disch:=omega) only [EV,k0,k1,e1,e2,nz]
   refine⟨_,_,_,rfl,?_,?_,h2.mono (by omega)⟩
   ·rw [xcl (show 0≤x*256+y by omega)];exact xga _ (by omega)
   ·rw [xcl (show 0≤x*256+y by omega)];exact xfl _ (by omega)
  ·simp (disch:=omega) only [EV,k0,k1,e1,nz]
   refine⟨_,_,_,rfl,?_,?_,h1.mono (by omega)⟩
   ·rw [xcl (by omega)];exact xga _ (by omega)
   ·rw [xcl (by omega)];exact xfl _ (by omega)
theorem among_ok{B:Int}{l:List Int}{i:Int}(L:List Int)(c:Int)(h:CK B l i)(hB:B≤990000)(hn:1≤L.length):∃x i' c',wu L l i c=some (x,(l,(i',c')))∧x∈L∧CK (B+2) l i':=by
 obtain⟨x,i1,c1,e1,x0,x1,h1⟩:=pick_ok (L.length:Int) c h (by omega) (by omega)
 unfold wu wqn
 simp (disch:=omega) only [EV,e1]
 exact⟨_,_,_,rfl,getD_mem (by omega),h1⟩
theorem one_ok{B:Int}{l:List Int}{i:Int}(n c:Int)(h:CK B l i)(hB:B≤990000)(hn:1≤n):∃x i' c',wgw n l i c=some (x,(l,(i',c')))∧CK (B+2) l i':=by
 obtain⟨x,i1,c1,e1,x0,x1,h1⟩:=pick_ok n c h (by omega) hn
 unfold wgw wrl
 simp (disch:=omega) only [EV,e1]
 exact⟨_,_,_,rfl,h1⟩
theorem iter_cnt{V R:Type}{f:V→Option (V⊕R)}{n:Nat}(P:Nat→V→Prop)(Q:R→Prop)(hs:∀k v,k<n→P k v→∃v',f v=some (.inl v')∧P (k+1) v')(he:∀v,P n v→∃r,f v=some (.inr r)∧Q r){v:V}(h0:P 0 v):∃r,iter f v=some r∧Q r:=by
 have key:∀m k v,k+m=n→P k v→∃r,iter f v=some r∧Q r:=by
  intro m
  induction m with
  |zero=>
   intro k v hk hp
   have:k=n:=by omega
   subst this
   obtain⟨r,h1,h2⟩:=he v hp
   exact⟨r,by rw [iter_eq,h1],h2⟩
  |succ m ih=>
   intro k v hk hp
   obtain⟨v',h1,h2⟩:=hs k v (by omega) hp
   obtain⟨r,h3,h4⟩:=ih (k+1) v' (by omega) h2
   exact⟨r,by rw [iter_eq,h1];exact h3,h4⟩
 exact key n 0 v (by omega) h0
theorem room8(l:List Int)(x:Int)(h:l.length≤1000000):(l.length+List.length ([x]:List Int))*8≤140737488355328:=by simp;omega
theorem room24{α:Type}(l:List α)(h:l.length≤1000000):(l.length+1)*24≤140737488355328:=by omega
theorem set_end{α:Type}(l:List (List α))(x:List α):List.set (l++ [[]]) l.length x=l++ [x]:=by
 rw [xce _ _ (xm _)]
 simp
theorem l2Bits_ok{n:Nat}(hn:n≤1000)(x:Int):∃s,wgy (n:Int) x=some s∧s.length≤n:=by
 obtain⟨r,h1,h2⟩:=iter_cnt (f:=fun v=>(waq ((n:Int),x) v).ev) (n:=n) (fun a v=>∃s:List Int,v=((a:Int),s)∧s.length≤a) (fun r=>r.length≤n)
  (fun a v ha hv=>by
   obtain⟨s,rfl,hs⟩:=hv
   have hp:(0:Int)≤(a:Int):=by omega
   have hr:=room8 s (a:Int) (by omega)
   cases hb:(IntKind.wrap .i64 (BitVec.toNat ((BitVec.ofInt (IntKind.bits .i64) (Int.fdiv x (2^(min (Int.toNat (a:Int)) (IntKind.bits .i64)))))&&& (BitVec.ofInt (IntKind.bits .i64) (1:Int))))==(1:Int)) with
   |true=>
    refine⟨(((a+1:Nat):Int),s++ [(a:Int)]),?_,s++ [(a:Int)],rfl,by simp;omega⟩
    simp only [waq,Tr.ev_t,Tr.ev_g,Tr.ev_l,hb,Int.ofNat_lt.2 ha,hp,hr,decide_true,cond_true]
    rw [wrap64 (by omega) (by omega)]
    rfl
   |false=>
    refine⟨(((a+1:Nat):Int),s),?_,s,rfl,by omega⟩
    simp only [waq,Tr.ev_t,Tr.ev_g,Tr.ev_l,hb,Int.ofNat_lt.2 ha,hp,decide_true,cond_true,cond_false]
    rw [wrap64 (by omega) (by omega)]
    rfl)
  (fun v hv=>by
   obtain⟨s,rfl,hs⟩:=hv
   refine⟨s,?_,hs⟩
   simp only [waq,Tr.ev_t,Tr.ev_l,xdl,decide_false,cond_false])
  (v:=((0:Int),([]:List Int))) ⟨[],rfl,xcp _⟩
 have aa:wgx ((n:Int),x) ((0:Int),([]:List Int))=some r:=h1
 unfold wgy wrm
 simp (disch:=omega) only [EV,aa]
 exact⟨r,rfl,h2⟩
end Go.Proofs.YteiekijgoifhoaaGreatDoor
/-
 Plain laws: numbers put into lists and taken out of them; which edits of an atlas may be made (the reference's side).
-/
namespace Go.Proofs.YteiekijgoifhoaaGreatDoor
theorem eins_mem{x y:Int}:∀ {l:List Int},y∈ins x l↔y=x∨y∈l
 | []=>by simp [ins]
 |a::l=>by
  simp only [ins]
  split
  ·rw [xam,eins_mem (l:=l),xam]
   constructor
   ·rintro(h|h|h)<;>simp [h]
   ·rintro(h|h|h)<;>simp [h]
  ·simp [xam]
theorem eins_len(x:Int):∀l:List Int,(ins x l).length=l.length+1
 | []=>rfl
 |a::l=>by
  simp only [ins]
  split
  ·simp [eins_len x l]
  ·simp
theorem eins_rise{x:Int}:∀ {l:List Int},l.Pairwise (· < ·)→x∉l→(ins x l).Pairwise (· < ·)
 | [],_,_=>by simp [ins]
 |a::l,h,hx=>by
  obtain⟨h1,h2⟩:=xbe.1 h
  rw [xam,not_or] at hx
  simp only [ins]
  split
  next hle=>
   refine xbe.2 ⟨fun y hy=>?_,eins_rise h2 hx.2⟩
   rcases eins_mem.1 hy with e|hy
   ·have:=hx.1;omega
   ·exact h1 y hy
  next hle=>
   refine xbe.2 ⟨fun y hy=>?_,h⟩
   rcases xam.1 hy with e|hy
   ·omega
   ·have:=h1 y hy;omega
theorem erise_len:∀ {l:List Int} {a b:Int},l.Pairwise (· < ·)→(∀x∈l,a≤x∧x<b)→l.length≤(b-a).toNat
 | [],_,_,_,_=>by simp
 |x::l,a,b,h,hb=>by
  obtain⟨h1,h2⟩:=xbe.1 h
  have ih:=erise_len (l:=l) (a:=x+1) (b:=b) h2 fun y hy=>⟨by have:=h1 y hy;omega,(hb y (xu _ hy)).2⟩
  have:=hb x (by simp)
  simp only [xad]
  omega
def ris(n:Nat)(s:List Int):Prop:=(∀x∈s,0≤x∧x<(n:Int))∧s.Pairwise (· < ·)
theorem ris_iff{n:Nat}{s:List Int}:risingB s 0 ((n:Int) -1)=true↔ris n s:=by
 rw [risingB_iff]
 exact⟨fun h=>⟨fun x hx=>by have:=h.1 x hx;omega,h.2⟩,fun h=>⟨fun x hx=>by have:=h.1 x hx;omega,h.2⟩⟩
theorem ris.len{n:Nat}{s:List Int}(h:ris n s):s.length≤n:=by
 have:=erise_len h.2 h.1
 omega
theorem ris.low{n:Nat}{s:List Int}(h:ris n s)(hn:n≤7):Low1 s:=by
 have:=h.len
 unfold Low1
 omega
theorem ris.places{n:Nat}{s:List Int}(h:ris n s)(hn:n≤7):Places s n:=Places.of (h.low hn) (ris_iff.2 h)
theorem ris.ins{n:Nat}{s:List Int}(h:ris n s){a:Int}(h0:0≤a)(ha:a<(n:Int))(hx:a∉s):ris n (ins a s):=
 ⟨fun x hx=>by
  rcases eins_mem.1 hx with e|hx
  ·omega
  ·exact h.1 x hx,eins_rise h.2 hx⟩
theorem ris.filter{n:Nat}{s:List Int}(h:ris n s)(p:Int→Bool):ris n (s.filter p):=
 ⟨fun x hx=>h.1 x (xac.1 hx).1,h.2.filter p⟩
theorem ehas_eq{l:List Int}(hl:l.length≤1000000)(x:Int):wdh l x=some (l.contains x):=by
 have hs:whc (l,x) 0=_:=iter_forE (f:=fun v=>(wbv (l,x) v).ev) (l:=l) 0 (fun y=>y==x) (mk:=fun i=>(i:Int)) (yes:=fun _=>.inr ()) (no:=.inl ()) (fun i hi=>by
  simp (disch:=omega) only [EV,wbv,hi]
  cases (l.getD i 0==x)<;>rfl) (by simp (disch:=omega) only [EV,wbv,xo])
 unfold wdh wrw
 simp (disch:=omega) only [EV,hs]
 have e:l.contains x=l.any fun y=>y==x:=by
  rw [List.contains_eq_any_beq]
  congr 1
  funext y
  exact Bool.beq_comm
 rw [e]
 have h2:=findIdx_any (l:=l) (q:=fun y=>y==x)
 cases h:l.findIdx? fun y=>y==x with
 |none=>
  rw [h] at h2
  have h3:(l.any fun y=>y==x)=false:=by
   rw [Bool.eq_false_iff]
   exact fun h4=>by have:=h2.1 h4;simp at this
  rw [h3]
  rfl
 |some i=>
  rw [h] at h2
  rw [h2.2 rfl]
  rfl
theorem eput_eq{l:List Int}{x:Int}(hl:l.length≤100)(hx:x∉l):weh l x=some (ins x l):=by
 have h:=iter_forE (f:=fun v=>(wau (l,x) v).ev) (l:=l) 0 (fun y=> !decide (y≤x)) (mk:=fun i=>(i:Int)) (yes:=fun i=>(i:Int)) (no:=(l.length:Int))
  (fun i hi=>by
   have ad:l.getD i 0≠x:=fun e=>hx (e▸getD_mem hi)
   by_cases aa:l.getD i 0<x
   ·have hle:l.getD i 0≤x:=by omega
    simp (disch:=omega) only [EV,wau,hi,aa,hle]
    rfl
   ·have hle:¬l.getD i 0≤x:=by omega
    simp (disch:=omega) only [EV,wau,hi,aa,hle])
  (by simp (disch:=omega) only [EV,wau,xo])
 have h0:weg (l,x) 0=some ((((l.findIdx? fun y=> !decide (y≤x)).elim l.length id:Nat):Int)):=by
  have h1:weg (l,x) 0=_:=h
  rw [h1]
  cases l.findIdx? fun y=> !decide (y≤x)<;>rfl
 have hi:=ins_find x l
 have hle:(l.findIdx? fun y=> !decide (y≤x)).elim l.length id≤l.length:=by
  cases hf:l.findIdx? fun y=> !decide (y≤x) with
  |none=>exact xm _
  |some j=>
   obtain⟨hj,_⟩:=xdd.1 hf
   exact Nat.le_of_lt hj
 generalize (l.findIdx? fun y=> !decide (y≤x)).elim l.length id=i at h0 hi hle
 have ab:List.drop 0 (List.take i l)++ [x]++List.drop i (List.take l.length l)=ins x l:=by
  rw [xct,xgb,←hi]
  simp
 have hlen:(List.drop 0 (List.take i l)).length≤100:=by simp;omega
 have ae:(List.drop i (List.take l.length l)).length≤100:=by simp;omega
 have g1:(decide (0≤(i:Int))&&decide ((i:Int)≤((l.length:Nat):Int)))=true:=by
  rw [decide_eq_true (by omega),decide_eq_true (by omega)]
  rfl
 unfold weh wsc
 rw [Tr.ev_c,h0,xf]
 by_cases aa:i<l.length
 ·have ad:(l.getD i 0==x)=false:=beq_eq_false_iff_ne.2 fun e=>hx (e▸getD_mem aa)
  simp (disch:=omega) only [EV,aa,ad,xbu,xai,xj,xad,hle]
  rw [g1,cond_true,cond_true,if_pos (by omega),if_pos (by omega),if_pos (by omega)]
  exact congrArg some ab
 ·simp (disch:=omega) only [EV,aa,xbu,xai,xj,xad,hle]
  rw [g1,cond_true,cond_true,if_pos (by omega),if_pos (by omega),if_pos (by omega)]
  exact congrArg some ab
theorem eown_eq{l:List Int}(h:l.length≤1048576):waj l=some l:=by
 have h1:(0+l.length)*8≤140737488355328:=by omega
 unfold waj wke
 simp (disch:=omega) only [EV,xai,xbu,h1]
theorem ewithout_eq{l:List Int}(hl:l.length≤1000000)(a:Int):whe l a=some (l.filter fun x=>x !=a):=by
 have h:=(iter_foldl (f:=fun v=>(wav (l,a) v).ev) l 0 (mk:=fun i (s:List Int)=>((i:Int),s)) (I:=fun i s=>s.length≤i) (g:=fun s x=>if x !=a then s++ [x] else s) (fin:=fun s=>s) (s0:=[]) (xm _)
  (fun i s hi hs=>by
   have r1:=room8 s (l.getD i 0) (by omega)
   cases hb:(l.getD i 0 !=a) with
   |true=>
    refine⟨?_,by simp;omega⟩
    simp (disch:=omega) only [EV,wav,hi,hb,r1]
    rfl
   |false=>
    refine⟨?_,by simp;omega⟩
    simp (disch:=omega) only [EV,wav,hi,hb]
    rfl)
  (fun s _=>by simp (disch:=omega) only [EV,wav,xo])).1
 have key:∀ (l acc:List Int),l.foldl (fun s x=>if x !=a then s++ [x] else s) acc=acc++l.filter fun x=>x !=a:=by
  intro l
  induction l with
  |nil=>intro acc;simp
  |cons x l ih=>
   intro acc
   rw [xbk,ih,xcf]
   cases (x !=a)<;>simp
 have h0:wei (l,a) (0,[])=some (l.filter fun x=>x !=a):=by
  have h1:wei (l,a) (0,[])=_:=h
  rw [h1,key]
  rfl
 unfold whe wsd
 simp (disch:=omega) only [EV,h0]
def cutAt{α:Type}(a:Int)(l:List α):List α:=l.take a.toNat++l.drop (a.toNat+1)
theorem cutAt_len{α:Type}{a:Int}{l:List α}(h0:0≤a)(h:a<(l.length:Int)):(cutAt a l).length+1=l.length:=by
 unfold cutAt
 rw [xj,xw,xap]
 omega
theorem cutAt_mem{α:Type}{a:Int}{l:List α}{x:α}(h:x∈cutAt a l):x∈l:=by
 rcases xq.1 h with h|h
 ·exact xcg h
 ·exact xdy h
theorem ecut_eq{l:List Int}(hl:l.length≤1000){a:Int}(h0:0≤a)(h:a<(l.length:Int)):wmf l a=some (cutAt a l):=by
 have hw:IntKind.wrap .i64 (a+1)=a+1:=wrap64 (by omega) (by omega)
 have g1:(decide (0≤a)&&decide (a≤((l.length:Nat):Int)))=true:=by
  rw [decide_eq_true h0,decide_eq_true (by omega)]
  rfl
 have g2:(decide (0≤a+1)&&decide (a+1≤((l.length:Nat):Int)))=true:=by
  rw [decide_eq_true (by omega),decide_eq_true (by omega)]
  rfl
 have e1:=eown_eq (l:=List.drop 0 (List.take a.toNat l)) (by simp;omega)
 have ht:(a+1).toNat=a.toNat+1:=by omega
 have g3:((List.drop 0 (List.take a.toNat l)).length+(List.drop (a.toNat+1) (List.take l.length l)).length)*8≤140737488355328:=by
  simp
  omega
 unfold wmf wsf
 rw [Tr.ev_g,g1,cond_true,Tr.ev_c,e1,xf,hw,Tr.ev_g,g2,cond_true,ht,Tr.ev_g,decide_eq_true g3,cond_true,Tr.ev_l]
 unfold cutAt
 rw [xgb,xct]
def nilB(l:List Int):Bool:=((List.length l:Nat):Int)==0
def plainB(k a b c:Int)(l:List Int):Bool:=
 if k=1∨k=2∨k=8∨k=9 then(b==0)&&((c==0)&&nilB l)
 else if k=3∨k=4 then(c==0)&&nilB l
 else if k=5 then nilB l
 else if k=6 then(b==0)&&(c==0)
 else if k=7 then(a==0)&&((b==0)&&(c==0))
 else if k=10∨k=11 then(a==0)&&((b==0)&&((c==0)&&nilB l))
 else false
theorem ev_and{x y:Bool}:(Tr.t x (.l y) (.l false)).ev=some (x&&y):=by cases x<;>rfl
theorem t_and{x y:Bool}{z:Tr Bool}(h:z.ev=some y):(Tr.t x z (.l false)).ev=some (x&&y):=by cases x<;>simp [h]
theorem eplain_eq(k a b c:Int)(l:List Int):wru k a b c l=some (plainB k a b c l):=by
 have e2:=ev_and (x:=c==0) (y:=nilB l)
 have e3:=t_and (x:=b==0) (ev_and (x:=c==0) (y:=nilB l))
 have e4:=t_and (x:=a==0) (t_and (x:=b==0) (ev_and (x:=c==0) (y:=nilB l)))
 have e5:=t_and (x:=a==0) (ev_and (x:=b==0) (y:=c==0))
 by_cases h1:k=1
 ·subst h1;exact e3
 by_cases h2:k=2
 ·subst h2;exact e3
 by_cases h3:k=3
 ·subst h3;exact e2
 by_cases h4:k=4
 ·subst h4;exact e2
 by_cases h5:k=5
 ·subst h5;rfl
 by_cases h6:k=6
 ·subst h6;exact ev_and (x:=b==0) (y:=c==0)
 by_cases h7:k=7
 ·subst h7;exact e5
 by_cases h8:k=8
 ·subst h8;exact e3
 by_cases h9:k=9
 ·subst h9;exact e3
 by_cases aa:k=10
 ·subst aa;exact e4
 by_cases ab:k=11
 ·subst ab;exact e4
 have hp:plainB k a b c l=false:=by
  unfold plainB
  rw [if_neg (by omega),if_neg (by omega),if_neg h5,if_neg h6,if_neg h7,if_neg (by omega)]
 rw [hp]
 unfold wru wrt
 simp only [Tr.ev_t,Tr.ev_l,beq_eq_false_iff_ne.2 h1,beq_eq_false_iff_ne.2 h2,beq_eq_false_iff_ne.2 h3,beq_eq_false_iff_ne.2 h4,beq_eq_false_iff_ne.2 h5,beq_eq_false_iff_ne.2 h6,beq_eq_false_iff_ne.2 h7,beq_eq_false_iff_ne.2 h8,beq_eq_false_iff_ne.2 h9,beq_eq_false_iff_ne.2 aa,beq_eq_false_iff_ne.2 ab,cond_false]
def siteB(n:Nat)(a:Int):Bool:=isIn a 0 ((n:Int) -1)
def closedB(n:Nat)(s:List Int)(a:Int):Bool:=siteB n a&& !s.contains a
def mayB(n m:Nat)(s:List Int)(k a b:Int)(l:List Int):Bool:=
 if k=1∨k=8 then closedB n s a
 else if k=2 then s.contains a
 else if k=3 then s.contains a&&closedB n s b
 else if k=4 then siteB n a
 else if k=5 then siteB m a&&siteB n b
 else if k=6 then((l.length:Nat):Int)==((m:Nat):Int)
 else if k=9 then siteB m a
 else if k=10 then decide ((0:Int)<((s.length:Nat):Int))
 else true
theorem esite_eq{o:List Int}(ho:o.length≤1000)(ds:List (List Int))(a:Int):wef o ds a=some (siteB o.length a):=by
 unfold wef wrv siteB
 simp (disch:=omega) only [EV,l1In_eq]
theorem eclosed_eq{o s:List Int}(ho:o.length≤1000)(hs:s.length≤1000)(ds:List (List Int))(c a:Int):wfi o ds s c a=some (closedB o.length s a):=by
 unfold wfi wry closedB
 simp (disch:=omega) only [EV,esite_eq ho,ehas_eq (l:=s) (by omega)]
 cases siteB o.length a<;>rfl
theorem emay_eq{o s:List Int}{ds:List (List Int)}(ho:o.length≤1000)(hd:ds.length≤1000)(hs:s.length≤1000)(n k a b c:Int)(l:List Int):wsa o ds s n k a b c l=some (mayB o.length ds.length s k a b l):=by
 have e1:=eclosed_eq ho hs ds n a
 have e2:=eclosed_eq ho hs ds n b
 have e3:=ehas_eq (l:=s) (by omega) a
 have e4:=esite_eq ho ds a
 have e5:=esite_eq ho ds b
 have e6:wbh a 0 (IntKind.wrap .i64 (((ds.length:Nat):Int) -1))=some (siteB ds.length a):=by rw [wrap64 (by omega) (by omega),l1In_eq];rfl
 have c1:∀x:Option Bool,∀y,x=some y→(Tr.c Bool x fun r=>.l r).ev=some y:=fun x y h=>by rw [h];rfl
 have c2:∀x z:Option Bool,∀y u,x=some y→z=some u→(Tr.c Bool x fun r=>.t r (Tr.c Bool z fun r=>.l r) (.l false)).ev=some (y&&u):=fun x z y u h h'=>by rw [h,h'];cases y<;>rfl
 by_cases h1:k=1
 ·subst h1;exact c1 _ _ e1
 by_cases h2:k=2
 ·subst h2;exact c1 _ _ e3
 by_cases h3:k=3
 ·subst h3;exact c2 _ _ _ _ e3 e2
 by_cases h4:k=4
 ·subst h4;exact c1 _ _ e4
 by_cases h5:k=5
 ·subst h5;exact c2 _ _ _ _ e6 e5
 by_cases h6:k=6
 ·subst h6;rfl
 by_cases h8:k=8
 ·subst h8;exact c1 _ _ e1
 by_cases h9:k=9
 ·subst h9;exact c1 _ _ e6
 by_cases aa:k=10
 ·subst aa;rfl
 have hp:mayB o.length ds.length s k a b l=true:=by
  unfold mayB
  rw [if_neg (by omega),if_neg h2,if_neg h3,if_neg h4,if_neg h5,if_neg h6,if_neg h9,if_neg aa]
 rw [hp]
 unfold wsa wrz
 simp only [Tr.ev_t,Tr.ev_l,beq_eq_false_iff_ne.2 h1,beq_eq_false_iff_ne.2 h2,beq_eq_false_iff_ne.2 h3,beq_eq_false_iff_ne.2 h4,beq_eq_false_iff_ne.2 h5,beq_eq_false_iff_ne.2 h6,beq_eq_false_iff_ne.2 h8,beq_eq_false_iff_ne.2 h9,beq_eq_false_iff_ne.2 aa,cond_false]
end Go.Proofs.YteiekijgoifhoaaGreatDoor
