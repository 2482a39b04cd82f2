/-
 Plain laws: sums; local openings in metric fields; greedy stars.
-/
import Derived.Test.YteiekijgoifhoaaGreatDoorP47
import Derived.Test.YteiekijgoifhoaaGreatDoorC1
import Derived.Test.YteiekijgoifhoaaGreatDoorP53
namespace Go.Proofs.YteiekijgoifhoaaGreatDoor
section
variable {J S O:List Nat} {f:Nat→Int} {d:Nat→Nat→Int} {σ ω:Nat→Nat}
end
end Go.Proofs.YteiekijgoifhoaaGreatDoor
/-
 Plain laws: sets of sites as numbers: the program's small functions on them computed by the kernel.
-/
namespace Go.Proofs.YteiekijgoifhoaaGreatDoor
def esubs:Nat→List (List Int)
 |0=>[[]]
 |n+1=>esubs n++(esubs n).map fun s=>s++ [(n:Int)]
theorem esubs_mem:∀ (n:Nat) {s:List Int},s.Pairwise (· < ·)→(∀x∈s,0≤x∧x<(n:Int))→s∈esubs n
 |0,s,_,h=>by
  cases s with
  |nil=>exact xt.2 rfl
  |cons x s=>have:=h x (by simp);omega
 |n+1,s,hp,h=>by
  rw [esubs,xq]
  rcases xeq s with rfl|⟨i,z,rfl⟩
  ·exact .inl (esubs_mem n hp fun x hx=>by cases hx)
  ·rw [List.concat_eq_append] at hp h⊢
   obtain⟨p1,_,p3⟩:=xcw.1 hp
   have hz:=h z (by simp)
   by_cases e:z=(n:Int)
   ·refine .inr (xae.2 ⟨i,esubs_mem n p1 fun x hx=>?_,by rw [e]⟩)
    have h1:=h x (xag _ hx)
    have h2:=p3 x hx z (by simp)
    omega
   ·refine .inl (esubs_mem n hp fun x hx=>?_)
    have h1:=h x hx
    rcases xq.1 hx with hx|hx
    ·have h2:=p3 x hx z (by simp)
     omega
    ·rw [xt.1 hx] at h1⊢
     omega
def bits(h:List Int):Nat:=h.foldl (fun x a=>x|||2^a.toNat) 0
def lst(x:Nat):List Int:=((List.range 7).filter x.testBit).map fun(a:Nat)=>(a:Int)
def orB(x:Int)(a:Nat):Int:=IntKind.wrap .u64 (BitVec.toNat ((BitVec.ofInt (IntKind.bits .u64) x)||| (BitVec.ofInt (IntKind.bits .u64) (IntKind.wrap .u64 ((1:Int)*2^(min a (IntKind.bits .u64)))))))
def anB(x:Int)(a:Nat):Int:=IntKind.wrap .u64 (BitVec.toNat ((BitVec.ofInt (IntKind.bits .u64) x)&&& ~~~(BitVec.ofInt (IntKind.bits .u64) (IntKind.wrap .u64 ((1:Int)*2^(min a (IntKind.bits .u64)))))))
def clr(x a:Nat):Nat:=if x.testBit a then x-2^a else x
noncomputable def chkB(x:Nat):Bool:=(wdy (x:Int)==some (lst x))&&(List.range 7).all fun(a:Nat)=>
 (wfl (x:Int) (a:Int)==some (x.testBit a))&&((lst x).contains (a:Int)==x.testBit a)&&(orB (x:Int) a==((x|||2^a:Nat):Int))&&Nat.blt (x|||2^a) 128&&(anB (x:Int) a==((clr x a:Nat):Int))&&Nat.blt (clr x a) 128&&
 (x.testBit a||(lst (x|||2^a)==ins (a:Int) (lst x)))&&(lst (clr x a)==wo (lst x) (a:Int))
theorem chkB_ok:(List.range 128).all chkB=true:=by kernel_rfl
def chkL(s:List Int):Bool:=(lst (bits s)==s)&&Nat.blt (bits s) 128
theorem chkL_ok:(esubs 7).all chkL=true:=by kernel_rfl
structure BagP(x:Nat):Prop where
 list:wdy (x:Int)=some (lst x)
 has:∀a:Nat,a<7→wfl (x:Int) (a:Int)=some ((lst x).contains (a:Int))
 put:∀a:Nat,a<7→(a:Int)∉lst x→∃y:Nat,y<128∧orB (x:Int) a=(y:Int)∧lst y=ins (a:Int) (lst x)
 cut:∀a:Nat,a<7→∃y:Nat,y<128∧anB (x:Int) a=(y:Int)∧lst y=wo (lst x) (a:Int)
theorem bagP{x:Nat}(hx:x<128):BagP x:=by
 have h:=xp.1 chkB_ok x (xaq.2 hx)
 simp only [chkB,xg,xp,xaq,beq_iff_eq,xbl] at h
 obtain⟨h1,h2⟩:=h
 refine⟨h1,fun a ha=>?_,fun a ha hn=>?_,fun a ha=>?_⟩
 ·obtain⟨⟨⟨⟨⟨⟨⟨k1,k2⟩,k3⟩,k4⟩,k5⟩,k6⟩,k7⟩,k8⟩:=h2 a ha
  rw [k2]
  exact k1
 ·obtain⟨⟨⟨⟨⟨⟨⟨k1,k2⟩,k3⟩,k4⟩,k5⟩,k6⟩,k7⟩,k8⟩:=h2 a ha
  refine⟨x|||2^a,by simpa using k4,k3,?_⟩
  rcases k7 with k7|k7
  ·rw [k7] at k2
   exact absurd (xcd.1 k2) hn
  ·exact k7
 ·obtain⟨⟨⟨⟨⟨⟨⟨k1,k2⟩,k3⟩,k4⟩,k5⟩,k6⟩,k7⟩,k8⟩:=h2 a ha
  exact⟨clr x a,by simpa using k6,k5,k8⟩
theorem lst_bits{n:Nat}(hn:n≤7){s:List Int}(h:ris n s):lst (bits s)=s∧bits s<128:=by
 have hm:=esubs_mem 7 h.2 fun x hx=>by have:=h.1 x hx;omega
 have hk:=xp.1 chkL_ok s hm
 simp only [chkL,xg,beq_iff_eq] at hk
 exact⟨hk.1,by simpa using hk.2⟩
theorem or_lt:∀ (x a:Nat),x<128→a<7→x|||2^a<128:=fun x a hx ha=>Nat.or_lt_two_pow (n:=7) hx (Nat.pow_lt_pow_right (by omega) ha)
theorem orB_eq{x a:Nat}(hx:x<128)(ha:a<7):orB (x:Int) a=((x|||2^a:Nat):Int):=by
 have h:=xp.1 chkB_ok x (xaq.2 hx)
 simp only [chkB,xg,xp,xaq,beq_iff_eq,xbl] at h
 exact(h.2 a ha).1.1.1.1.1.2
theorem bagOf_eq{n:Nat}(hn:n≤7){s:List Int}(h:ris n s):wps s=some (bits s:Int):=by
 have hl:=h.len
 have key:=(iter_foldl (f:=fun v=>(wcx (s,((s.length:Nat):Int)) v).ev) s 0 (mk:=fun i (x:Nat)=>((x:Int),(i:Int))) (I:=fun _ x=>x<128) (g:=fun x a=>x|||2^a.toNat) (fin:=fun x=>(x:Int)) (s0:=0) (by omega)
  (fun i x hi hx=>by
   have ha:=h.1 _ (getD_mem (d:=0) hi)
   obtain⟨a,e⟩:∃a:Nat,s.getD i 0=(a:Int):=⟨(s.getD i 0).toNat,by omega⟩
   have k2:=orB_eq hx (show a<7 by omega)
   unfold orB at k2
   rw [e,xbx]
   refine⟨?_,or_lt x a hx (by omega)⟩
   have i1:inR (i:Int) s.length=true:=inR_int (by omega) (by omega)
   have i2:(0:Int)≤(a:Int):=by omega
   have i3:(i:Int)<((s.length:Nat):Int):=by omega
   simp only [wcx,Tr.ev_t,Tr.ev_g,Tr.ev_l,i1,xbx,e,i2,i3,decide_true,cond_true]
   rw [k2,wrap64 (by omega) (by omega)]
   rfl)
  (fun x _=>by simp (disch:=omega) only [EV,wcx,xo])).1
 have k2:wjq (s,((s.length:Nat):Int)) (0,0)=some (bits s:Int):=key
 unfold wps wyr
 simp (disch:=omega) only [EV,k2]
theorem bagHas_eq{n:Nat}(hn:n≤7){s:List Int}(h:ris n s){a:Int}(h0:0≤a)(ha:a<7):wfl (bits s:Int) a=some (s.contains a):=by
 obtain⟨e,hb⟩:=lst_bits hn h
 obtain⟨a,rfl⟩:∃b:Nat,a=(b:Int):=⟨a.toNat,by omega⟩
 have:=(bagP hb).has a (by omega)
 rwa [e] at this
theorem bagPut_eq{n:Nat}(hn:n≤7){s:List Int}(h:ris n s){a:Int}(h0:0≤a)(ha:a<7)(hx:a∉s):wdy (orB (bits s:Int) a.toNat)=some (ins a s):=by
 obtain⟨e,hb⟩:=lst_bits hn h
 obtain⟨a,rfl⟩:∃b:Nat,a=(b:Int):=⟨a.toNat,by omega⟩
 obtain⟨y,y1,y2,y3⟩:=(bagP hb).put a (by omega) (by rw [e];exact hx)
 rw [xbx,y2,(bagP y1).list,y3,e]
theorem bagCut_eq{n:Nat}(hn:n≤7){s:List Int}(h:ris n s){a:Int}(h0:0≤a)(ha:a<7):wdy (anB (bits s:Int) a.toNat)=some (wo s a):=by
 obtain⟨e,hb⟩:=lst_bits hn h
 obtain⟨a,rfl⟩:∃b:Nat,a=(b:Int):=⟨a.toNat,by omega⟩
 obtain⟨y,y1,y2,y3⟩:=(bagP hb).cut a (by omega)
 rw [xbx,y2,(bagP y1).list,y3,e]
theorem swapped_eq{n:Nat}(hn:n≤7){s:List Int}(h:ris n s){a b:Int}(h0:0≤a)(ha:a<7)(h1:0≤b)(hb:b<7)(hx:b∉s):wyu s a b=some (ins b (wo s a)):=by
 obtain⟨e,aa⟩:=lst_bits hn h
 have e0:=bagOf_eq hn h
 obtain⟨y,y1,y2,y3⟩:=(bagP aa).cut a.toNat (by omega)
 rw [e,show((a.toNat:Nat):Int)=a by omega] at y3
 obtain⟨z,z1,z2,z3⟩:=(bagP y1).put b.toNat (by omega) (by rw [y3,show((b.toNat:Nat):Int)=b by omega];exact wo_notin hx)
 rw [y3,show((b.toNat:Nat):Int)=b by omega] at z3
 have e1:=(bagP z1).list
 rw [z3,←z2,←y2] at e1
 unfold orB anB at e1
 unfold wyu wyt
 rw [Tr.ev_c,e0,xf,Tr.ev_g,decide_eq_true h0,cond_true,Tr.ev_g,decide_eq_true h1,cond_true,Tr.ev_c,e1,xf,Tr.ev_l]
end Go.Proofs.YteiekijgoifhoaaGreatDoor
/-
 Plain laws: the best star, as both sides find it.
-/
namespace Go.Proofs.YteiekijgoifhoaaGreatDoor
section
variable (o:List Int) (ds:List (List Int)) (S L:List Int)
end
section
variable {o:List Int} {ds:List (List Int)} {S L:List Int}
end
end Go.Proofs.YteiekijgoifhoaaGreatDoor
/-
 Plain laws: greedy stars: the reference's rounds, and both sides' whole ones.
-/
namespace Go.Proofs.YteiekijgoifhoaaGreatDoor
section
variable {o:List Int} {ds:List (List Int)} {S L:List Int}
end
end Go.Proofs.YteiekijgoifhoaaGreatDoor
/-
 Plain laws: greedy stars, all rounds, and what they cost.
-/
namespace Go.Proofs.YteiekijgoifhoaaGreatDoor
section
variable (o:List Int) (ds:List (List Int))
end
section
variable {o:List Int} {ds:List (List Int)} {S L:List Int}
end
end Go.Proofs.YteiekijgoifhoaaGreatDoor
/-
 Plain laws: greedy stars cost no more than the harmonic number times the least total.
-/
namespace Go.Proofs.YteiekijgoifhoaaGreatDoor
section
variable {o:List Int} {ds:List (List Int)}
end
end Go.Proofs.YteiekijgoifhoaaGreatDoor
/-
 Plain laws: moves, local openings and best sets as the program finds them.
-/
namespace Go.Proofs.YteiekijgoifhoaaGreatDoor
theorem iter_some_from{V R:Type}{f:V→Option (V⊕R)}{α:Type}{n:Nat}(h:Nat→Option α)(mk:Nat→V)(yes:α→R)(no:R)
  (hs:∀i,i<n→f (mk i)=some (match h i with|some m=>.inr (yes m)|none=>.inl (mk (i+1)))) (he:f (mk n)=some (.inr no)):
  ∀k i,i+k=n→iter f (mk i)=some (((List.range' i k).findSome? h).elim no yes):=by
 intro k
 induction k with
 |zero=>
  intro i hi
  have:i=n:=by omega
  subst this
  rw [iter_eq,he]
  rfl
 |succ k ih=>
  intro i hi
  rw [iter_eq,hs i (by omega),List.range'_succ,xco]
  cases h i with
  |some m=>rfl
  |none=>exact ih (i+1) (by omega)
theorem iter_first{V R:Type}{f:V→Option (V⊕R)}{α:Type}{n:Nat}(h:Nat→Option α)(mk:Nat→V)(yes:α→R)(no:R)
  (hs:∀i,i<n→f (mk i)=some (match h i with|some m=>.inr (yes m)|none=>.inl (mk (i+1)))) (he:f (mk n)=some (.inr no)):
  iter f (mk 0)=some (((List.range n).findSome? h).elim no yes):=by
 rw [List.range_eq_range']
 exact iter_some_from h mk yes no hs he n 0 (by omega)
def opG(s:List Int)(a:Nat):Option (List Int):=if s.contains (a:Int) then none else some (ins (a:Int) s)
def clG(s:List Int)(a:Nat):Option (List Int):=if s.contains (a:Int)∧0<(wo s (a:Int)).length then some (wo s (a:Int)) else none
def swG(s w:List Int)(b:Nat):Option (List Int):=if s.contains (b:Int) then none else some (ins (b:Int) w)
def swsG(n:Nat)(s:List Int)(a:Nat):List (List Int):=if s.contains (a:Int) then(List.range n).filterMap (swG s (wo s (a:Int))) else []
theorem fm_one{α:Type}(g:Nat→Option α)(a:Nat):[a].filterMap g=(g a).toList:=by
 rw [List.filterMap_cons]
 cases g a<;>rfl
theorem swF_eq(n:Nat)(s w:List Int)(acc:List (List Int)):swF n s w acc=acc++(List.range n).filterMap (swG s w):=by
 unfold swF
 induction n with
 |zero=>simp
 |succ n ih=>
  rw [foldl_range_succ,ih,xef,xer,←xcx,fm_one]
  cases hc:s.contains (n:Int) with
  |true=>
   have e:swG s w n=none:=by unfold swG;rw [hc];rfl
   rw [e,if_pos rfl]
   exact(xas _).symm
  |false=>
   have e:swG s w n=some (ins (n:Int) w):=by unfold swG;rw [hc];rfl
   rw [e,if_neg (by simp)]
   rfl
theorem mvs_eq(n:Nat)(s:List Int):∀k,(List.range k).foldl (mvStep n s) ([],[],[])=((List.range k).filterMap (opG s),(List.range k).filterMap (clG s),(List.range k).flatMap (swsG n s))
 |0=>rfl
 |k+1=>by
  rw [foldl_range_succ,mvs_eq n s k,xef,xer,xer,List.flatMap_append]
  unfold mvStep
  cases hc:s.contains (k:Int) with
  |true=>
   simp only [if_true,swF_eq]
   have h1:[k].filterMap (opG s)=[]:=by
    have:opG s k=none:=by unfold opG;rw [hc];rfl
    rw [fm_one,this]
    rfl
   have h3:[k].flatMap (swsG n s)=(List.range n).filterMap (swG s (wo s (k:Int))):=by
    have:swsG n s k=(List.range n).filterMap (swG s (wo s (k:Int))):=by unfold swsG;rw [hc];rfl
    rw [xdu,List.flatMap_nil,xas,this]
   rw [h1,h3,xas]
   by_cases hp:0<(wo s (k:Int)).length
   ·have h2:[k].filterMap (clG s)=[wo s (k:Int)]:=by
     have:clG s k=some (wo s (k:Int)):=by unfold clG;rw [if_pos ⟨hc,hp⟩]
     rw [fm_one,this]
     rfl
    rw [h2,if_pos hp]
   ·have h2:[k].filterMap (clG s)=[]:=by
     have:clG s k=none:=by unfold clG;rw [if_neg fun h=>hp h.2]
     rw [fm_one,this]
     rfl
    rw [h2,if_neg hp,xas]
  |false=>
   simp only [xaf,if_false]
   have h1:[k].filterMap (opG s)=[ins (k:Int) s]:=by
    have:opG s k=some (ins (k:Int) s):=by unfold opG;rw [hc];rfl
    rw [fm_one,this]
    rfl
   have h2:[k].filterMap (clG s)=[]:=by
    have:clG s k=none:=by unfold clG;rw [hc];simp
    rw [fm_one,this]
    rfl
   have h3:[k].flatMap (swsG n s)=[]:=by
    have:swsG n s k=[]:=by unfold swsG;rw [hc];rfl
    rw [xdu,List.flatMap_nil,xas,this]
   rw [h1,h2,h3,xas,xas]
def bet(q:List Int→Bool)(x:Option (List Int)):Option (List Int):=match x with
 |some m=>bif q m then some m else none
 |none=>none
theorem find_fm(g:Nat→Option (List Int))(q:List Int→Bool):∀l:List Nat,(l.filterMap g).find? q=l.findSome? fun a=>bet q (g a)
 | []=>rfl
 |a::l=>by
  rw [List.filterMap_cons,xco]
  cases ha:g a with
  |none=>
   show(l.filterMap g).find? q=l.findSome? fun a=>bet q (g a)
   exact find_fm g q l
  |some m=>
   show(m::l.filterMap g).find? q=_
   rw [xfy]
   cases hq:q m with
   |true=>simp only [bet,hq,cond_true]
   |false=>
    simp only [bet,hq,cond_false]
    exact find_fm g q l
theorem find_flat(g:Nat→List (List Int))(q:List Int→Bool):∀l:List Nat,(l.flatMap g).find? q=l.findSome? fun a=>(g a).find? q
 | []=>rfl
 |a::l=>by
  rw [xdu,xeo,xco,find_flat g q l]
  cases (g a).find? q<;>rfl
theorem rise_ext:∀ {l m:List Int},l.Pairwise (· < ·)→m.Pairwise (· < ·)→(∀x,x∈l↔x∈m)→l=m
 | [],[],_,_,_=>rfl
 | [],y::m,_,_,h=>by have:=(h y).2 (by simp);cases this
 |x::l,[],_,_,h=>by have:=(h x).1 (by simp);cases this
 |x::l,y::m,h1,h2,h=>by
  obtain⟨a1,a2⟩:=xbe.1 h1
  obtain⟨b1,b2⟩:=xbe.1 h2
  have e:x=y:=by
   rcases xam.1 ((h x).1 (by simp)) with e|hx
   ·exact e
   ·rcases xam.1 ((h y).2 (by simp)) with e|hy
    ·exact e.symm
    ·have:=b1 x hx
     have:=a1 y hy
     omega
  subst e
  rw [rise_ext a2 b2 fun z=>?_]
  constructor
  ·intro hz
   rcases xam.1 ((h z).1 (xu _ hz)) with e|aa
   ·have:=a1 z hz;omega
   ·exact aa
  ·intro hz
   rcases xam.1 ((h z).2 (xu _ hz)) with e|aa
   ·have:=b1 z hz;omega
   ·exact aa
theorem ris_range{n:Nat}{s:List Int}(h:ris n s):s=((List.range n).filter fun a:Nat=>s.contains (a:Int)).map fun a:Nat=>(a:Int):=by
 refine rise_ext h.2 ?_ fun x=>?_
 ·rw [List.pairwise_map]
  exact(List.pairwise_lt_range.filter _).imp fun h=>by omega
 ·constructor
  ·intro hx
   have hb:=h.1 x hx
   refine xae.2 ⟨x.toNat,xac.2 ⟨xaq.2 (by omega),?_⟩,by omega⟩
   rw [show((x.toNat:Nat):Int)=x by omega]
   exact xcd.2 hx
  ·intro hx
   obtain⟨a,ha,rfl⟩:=xae.1 hx
   exact xcd.1 (xac.1 ha).2
theorem findSome_filter{α:Type}(p:Nat→Bool)(h:Int→Option α):∀l:List Nat,((l.filter p).map fun a:Nat=>(a:Int)).findSome? h=l.findSome? fun a=>if p a then h (a:Int) else none
 | []=>rfl
 |a::l=>by
  rw [xcf,xco]
  cases hp:p a with
  |true=>
   simp only [if_true,xbm,xco]
   cases h (a:Int) with
   |some m=>rfl
   |none=>exact findSome_filter p h l
  |false=>
   simp only [xaf,if_false]
   exact findSome_filter p h l
theorem wo_length{s:List Int}(hp:s.Pairwise (· < ·)){a:Int}(ha:a∈s):(wo s a).length+1=s.length:=by
 induction s with
 |nil=>cases ha
 |cons x s ih=>
  obtain⟨h1,h2⟩:=xbe.1 hp
  unfold wo
  rw [xcf]
  by_cases e:x=a
  ·subst e
   have hf:s.filter (fun y=>y !=x)=s:=xfd.2 fun y hy=>by
    have:=h1 y hy
    simp
    omega
   simp [hf]
  ·have hm:a∈s:=by
    rcases xam.1 ha with h|h
    ·exact absurd h.symm e
    ·exact h
   have hb:(x !=a)=true:=by simpa using e
   have:=ih h2 hm
   unfold wo at this
   rw [hb,if_pos rfl,xad,xad,this]
def opB(t:List Int→Bool)(s:List Int)(a:Nat):Option (List Int):=bet t (opG s a)
def clB(t:List Int→Bool)(s:List Int)(x:Int):Option (List Int):=if 1<s.length then bet t (some (wo s x)) else none
def swB(t:List Int→Bool)(n:Nat)(s:List Int)(x:Int):Option (List Int):=(List.range n).findSome? fun b=>bet t (swG s (wo s x) b)
theorem better_parts{n:Nat}{s:List Int}(h:ris n s)(t:List Int→Bool):(movesOf n s).find? t=(((List.range n).findSome? (opB t s)).or (s.findSome? (clB t s))).or (s.findSome? (swB t n s)):=by
 have e:=mvs_eq n s n
 have h2:s.findSome? (clB t s)=(List.range n).findSome? fun a=>bet t (clG s a):=by
  have h0:=findSome_filter (fun a:Nat=>s.contains (a:Int)) (clB t s) (List.range n)
  rw [←ris_range h] at h0
  rw [h0]
  congr 1
  funext a
  unfold clB clG
  cases hc:s.contains (a:Int) with
  |false=>simp [bet]
  |true=>
   have hl:=wo_length h.2 (xcd.1 hc)
   by_cases h1:1<s.length
   ·rw [if_pos rfl,if_pos h1,if_pos ⟨rfl,by omega⟩]
   ·rw [if_pos rfl,if_neg h1,if_neg (by omega)]
    rfl
 have h3:s.findSome? (swB t n s)=(List.range n).findSome? fun a=>(swsG n s a).find? t:=by
  have h0:=findSome_filter (fun a:Nat=>s.contains (a:Int)) (swB t n s) (List.range n)
  rw [←ris_range h] at h0
  rw [h0]
  congr 1
  funext a
  unfold swB swsG
  cases hc:s.contains (a:Int) with
  |false=>simp
  |true=>
   rw [if_pos rfl,if_pos rfl,find_fm]
 unfold movesOf mvs
 rw [e,xeo,xeo,find_fm,find_fm,find_flat,h2,h3]
 rfl
def ltB(o:List Int)(ds:List (List Int))(T:Int)(m:List Int):Bool:=decide (totF o ds m<T)
theorem better1_eq{o m:List Int}{ds:List (List Int)}(hf:Fld o ds)(hm:ris o.length m)(h0:m≠ [])(T:Int):
  F_zq m o ds T=some (bif ltB o ds T m then .inr (m,(o,(ds,T))) else .inl (m,(o,(ds,T)))):=by
 have hp:=xay.2 h0
 have e:wep o ds m=some (totF o ds m):=total_eq hf (hm.places hf.len) hp
 unfold F_zq T_zq ltB
 rw [Tr.ev_c,e,xf,Tr.ev_t,Tr.ev_g,decide_eq_true hp,cond_true]
 cases decide (totF o ds m<T)<;>rfl
theorem ins_ne(x:Int)(l:List Int):ins x l≠ []:=fun e=>by have:=eins_len x l;rw [e] at this;simp at this
theorem mv0_eq{o s:List Int}{ds:List (List Int)}(hf:Fld o ds)(hs:ris o.length s)(T:Int):
  wjr (s,((bits s:Int),(((o.length:Nat):Int),((o.length:Nat):Int)))) (0,(o,(ds,T)))=some (((List.range o.length).findSome? (opB (ltB o ds T) s)).elim (.inl (o,(ds,T))) fun m=>.inr (o,(ds,(T,m)))):=by
 have h7:=hf.len
 have h:=iter_first (f:=fun v=>(wcy (s,((bits s:Int),(((o.length:Nat):Int),((o.length:Nat):Int)))) v).ev) (n:=o.length) (opB (ltB o ds T) s) (fun i=>((i:Int),(o,(ds,T)))) (fun m=>.inr (o,(ds,(T,m)))) (.inl (o,(ds,T)))
  (fun i hi=>by
   have e1:=bagHas_eq h7 hs (a:=(i:Int)) (by omega) (by omega)
   have aa:(i:Int)<((o.length:Nat):Int):=by omega
   have hw:IntKind.wrap .i64 ((i:Int)+1)=((i+1:Nat):Int):=by rw [wrap64 (by omega) (by omega)];rfl
   unfold opB opG wcy
   dsimp only
   rw [Tr.ev_t,decide_eq_true aa,cond_true,Tr.ev_c,e1,xf,Tr.ev_t,hw]
   cases hc:s.contains (i:Int) with
   |true=>rfl
   |false=>
    have hn:=not_contains hc
    have e2:=bagPut_eq h7 hs (a:=(i:Int)) (by omega) (by omega) hn
    unfold orB at e2
    have e3:=better1_eq hf (hs.ins (a:=(i:Int)) (by omega) (by omega) hn) (ins_ne _ _) T
    have g0:(0:Int)≤(i:Int):=by omega
    rw [xfg,cond_true,Tr.ev_g,decide_eq_true g0,cond_true,Tr.ev_c,e2,xf,Tr.ev_c,e3,xf]
    simp only [xaf,if_false,bet]
    cases ltB o ds T (ins (i:Int) s)<;>rfl)
  (by
   have aa:¬((o.length:Nat):Int)<((o.length:Nat):Int):=by omega
   unfold wcy
   dsimp only
   rw [Tr.ev_t,decide_eq_false aa,cond_false,Tr.ev_l])
 exact h
theorem findSome_getD{α:Type}(h:Int→Option α)(s:List Int):(List.range s.length).findSome? (fun i=>h (s.getD i 0))=s.findSome? h:=by
 induction s with
 |nil=>rfl
 |cons x s ih=>
  rw [xad,xen,xco,xco,List.findSome?_map]
  cases hx:h x with
  |some m=>simp [hx]
  |none=>
   have h1:h ((x::s).getD 0 0)=none:=hx
   rw [h1]
   exact ih
theorem mv2_im{o s:List Int}{ds:List (List Int)}(hf:Fld o ds)(hs:ris o.length s)(T:Int):
  wjs (s,((bits s:Int),(((o.length:Nat):Int),(s,((s.length:Nat):Int))))) (0,(o,(ds,T)))=some ((s.findSome? (clB (ltB o ds T) s)).elim (.inl (o,(ds,T))) fun m=>.inr (o,(ds,(T,m)))):=by
 have h7:=hf.len
 have ae:=hs.len
 rw [←findSome_getD]
 have h:=iter_first (f:=fun v=>(wcz (s,((bits s:Int),(((o.length:Nat):Int),(s,((s.length:Nat):Int))))) v).ev) (n:=s.length) (fun i=>clB (ltB o ds T) s (s.getD i 0)) (fun i=>((i:Int),(o,(ds,T)))) (fun m=>.inr (o,(ds,(T,m)))) (.inl (o,(ds,T)))
  (fun i hi=>by
   have aa:(i:Int)<((s.length:Nat):Int):=by omega
   have hw:IntKind.wrap .i64 ((i:Int)+1)=((i+1:Nat):Int):=by rw [wrap64 (by omega) (by omega)];rfl
   have ad:=inR_nat hi
   have hm:=getD_mem (d:=0) hi
   have hb:=hs.1 _ hm
   unfold clB wcz
   dsimp only
   rw [Tr.ev_t,decide_eq_true aa,cond_true,Tr.ev_g,ad,cond_true,Tr.ev_t,hw,xbx]
   by_cases h1:1<s.length
   ·have ab:(1:Int)<((s.length:Nat):Int):=by omega
    have e2:=bagCut_eq h7 hs hb.1 (by omega)
    unfold anB at e2
    have hl:=wo_length hs.2 hm
    have e3:=better1_eq hf (hs.wo (s.getD i 0)) (xay.1 (by omega)) T
    rw [decide_eq_true ab,cond_true,Tr.ev_g,decide_eq_true hb.1,cond_true,Tr.ev_c,e2,xf,Tr.ev_c,e3,xf,if_pos h1]
    simp only [bet]
    cases ltB o ds T (wo s (s.getD i 0))<;>rfl
   ·have ab:¬(1:Int)<((s.length:Nat):Int):=by omega
    rw [decide_eq_false ab,cond_false,if_neg h1]
    rfl)
  (by
   have aa:¬((s.length:Nat):Int)<((s.length:Nat):Int):=by omega
   unfold wcz
   dsimp only
   rw [Tr.ev_t,decide_eq_false aa,cond_false,Tr.ev_l])
 exact h
theorem mv6_im{o s:List Int}{ds:List (List Int)}(hf:Fld o ds)(hs:ris o.length s)(T:Int){a:Int}(ha:a∈s)(k:(List (Int))×((Int)×((Int)×((Int)×((List (Int))×((Int)×((Int)×(Int))))))))(k1:k.1=s)(k2:k.2.1=(bits s:Int))(k3:k.2.2.2.1=a)(k4:k.2.2.2.2.2.2.2=((o.length:Nat):Int)):
  wjt k (0,(o,(ds,T)))=some ((swB (ltB o ds T) o.length s a).elim (.inl (o,(ds,T))) fun m=>.inr (o,(ds,(T,m)))):=by
 have h7:=hf.len
 have ab:=hs.1 a ha
 have h:=iter_first (f:=fun v=>(wdc k v).ev) (n:=o.length) (fun b=>bet (ltB o ds T) (swG s (wo s a) b)) (fun i=>((i:Int),(o,(ds,T)))) (fun m=>.inr (o,(ds,(T,m)))) (.inl (o,(ds,T)))
  (fun i hi=>by
   have e1:=bagHas_eq h7 hs (a:=(i:Int)) (by omega) (by omega)
   have aa:(i:Int)<((o.length:Nat):Int):=by omega
   have hw:IntKind.wrap .i64 ((i:Int)+1)=((i+1:Nat):Int):=by rw [wrap64 (by omega) (by omega)];rfl
   unfold swG wdc
   dsimp only
   rw [k1,k2,k3,k4,Tr.ev_t,decide_eq_true aa,cond_true,Tr.ev_c,e1,xf,Tr.ev_t,hw]
   cases hc:s.contains (i:Int) with
   |true=>rfl
   |false=>
    have hn:=not_contains hc
    have e2:=swapped_eq h7 hs (a:=a) (b:=(i:Int)) (by omega) (by omega) (by omega) (by omega) hn
    have e3:=better1_eq hf ((hs.wo a).ins (a:=(i:Int)) (by omega) (by omega) (wo_notin hn)) (ins_ne _ _) T
    rw [xfg,cond_true,Tr.ev_c,e2,xf,Tr.ev_c,e3,xf]
    simp only [xaf,if_false,bet]
    cases ltB o ds T (ins (i:Int) (wo s a))<;>rfl)
  (by
   have aa:¬((o.length:Nat):Int)<((o.length:Nat):Int):=by omega
   unfold wdc
   dsimp only
   rw [k4,Tr.ev_t,decide_eq_false aa,cond_false,Tr.ev_l])
 exact h
theorem mv4_im{o s:List Int}{ds:List (List Int)}(hf:Fld o ds)(hs:ris o.length s)(T:Int):
  wju (s,((bits s:Int),(((o.length:Nat):Int),(s,((s.length:Nat):Int))))) (0,(o,(ds,T)))=some ((s.findSome? (swB (ltB o ds T) o.length s)).elim (.inl (o,(ds,T))) fun m=>.inr (o,(ds,(T,m)))):=by
 have h7:=hf.len
 have ad:=hs.len
 rw [←findSome_getD]
 have h:=iter_first (f:=fun v=>(wdd (s,((bits s:Int),(((o.length:Nat):Int),(s,((s.length:Nat):Int))))) v).ev) (n:=s.length) (fun i=>swB (ltB o ds T) o.length s (s.getD i 0)) (fun i=>((i:Int),(o,(ds,T)))) (fun m=>.inr (o,(ds,(T,m)))) (.inl (o,(ds,T)))
  (fun i hi=>by
   have aa:(i:Int)<((s.length:Nat):Int):=by omega
   have hw:IntKind.wrap .i64 ((i:Int)+1)=((i+1:Nat):Int):=by rw [wrap64 (by omega) (by omega)];rfl
   have ab:=inR_nat hi
   have hm:=getD_mem (d:=0) hi
   have e1:=mv6_im hf hs T hm (s,((bits s:Int),(((o.length:Nat):Int),((s.getD i 0),(s,(((s.length:Nat):Int),((i:Int),((o.length:Nat):Int)))))))) rfl rfl rfl rfl
   unfold wdd
   dsimp only
   rw [Tr.ev_t,decide_eq_true aa,cond_true,Tr.ev_g,ab,cond_true,Tr.ev_c,hw,xbx,e1,xf]
   cases swB (ltB o ds T) o.length s (s.getD i 0)<;>rfl)
  (by
   have aa:¬((s.length:Nat):Int)<((s.length:Nat):Int):=by omega
   unfold wdd
   dsimp only
   rw [Tr.ev_t,decide_eq_false aa,cond_false,Tr.ev_l])
 exact h
theorem moves_im{o s:List Int}{ds:List (List Int)}(hf:Fld o ds)(hs:ris o.length s)(T:Int):
  wpt o ds s o ds T=some (((movesOf o.length s).find? (ltB o ds T)).elim (.inl (o,(ds,T))) fun m=>.inr (o,(ds,(T,m)))):=by
 have h7:=hf.len
 have e0:=bagOf_eq h7 hs
 have e1:=mv0_eq hf hs T
 have e2:=mv2_im hf hs T
 have e3:=mv4_im hf hs T
 rw [better_parts hs]
 unfold wpt wyv
 rw [Tr.ev_c,e0,xf,Tr.ev_c,e1,xf]
 cases (List.range o.length).findSome? (opB (ltB o ds T) s) with
 |some m=>rfl
 |none=>
  simp only [Option.elim_none,ev_s_inl,Tr.ev_c]
  rw [e2,xf]
  cases s.findSome? (clB (ltB o ds T) s) with
  |some m=>rfl
  |none=>
   simp only [Option.elim_none,ev_s_inl,Tr.ev_c]
   rw [e3,xf]
   cases s.findSome? (swB (ltB o ds T) o.length s)<;>rfl
theorem ibetter_eq{o s:List Int}{ds:List (List Int)}(hf:Fld o ds)(hs:ris o.length s)(h0:s≠ []):F_zp o ds s=some (match betterOf o ds s with|some m=>(true,m)|none=>(false,[])):=by
 have h7:=hf.len
 have e:wep o ds s=some (totF o ds s):=total_eq hf (hs.places h7) (xay.2 h0)
 have e1:=moves_im hf hs (totF o ds s)
 have e2:(movesOf o.length s).find? (ltB o ds (totF o ds s))=betterOf o ds s:=rfl
 rw [e2] at e1
 unfold F_zp T_zp
 rw [Tr.ev_c,e,xf,Tr.ev_c,e1,xf]
 cases hb:betterOf o ds s with
 |none=>rfl
 |some m=>
  have hp:=xay.2 (betterOf_some hs hb).2.1
  simp only [Option.elim_some,ev_s_inr,Tr.ev_g]
  rw [decide_eq_true hp]
  rfl
end Go.Proofs.YteiekijgoifhoaaGreatDoor
/-
 Plain laws: local openings in metric fields have at most three times the least total.
-/
namespace Go.Proofs.YteiekijgoifhoaaGreatDoor
section
variable {n:Nat} {s:List Int}
end
section
variable {o:List Int} {ds:List (List Int)}
def locB(o:List Int)(ds:List (List Int))(s:List Int):Bool×Bool:=bif openB o ds s then(!(betterOf o ds s).isSome,true) else(false,false)
theorem iisLocal_eq{s:List Int}(ho:Low1 o)(hd:Low2 ds)(hs:Low1 s):wey o ds s=some (locB o ds s):=by
 unfold wey wzb locB
 rw [Tr.ev_c,isOpened_eq ho hd hs,xf,Tr.ev_t]
 cases hb:openB o ds s with
 |false=>rfl
 |true=>
  obtain⟨hf,hp,h0⟩:=openB_iff hs hb
  have hr:ris o.length s:=by
   unfold openB at hb
   simp only [xg] at hb
   exact ris_iff.1 hb.2.1
  rw [xbv,cond_false,Tr.ev_c,ibetter_eq hf hr (xay.1 h0),xf,Tr.ev_l]
  cases betterOf o ds s<;>rfl
end
end Go.Proofs.YteiekijgoifhoaaGreatDoor
/-
 Plain laws: the program's test for metric fields; totals; both sides' greedy stars.
-/
namespace Go.Proofs.YteiekijgoifhoaaGreatDoor
section
variable {o:List Int} {ds:List (List Int)}
def cheapN(o:List Int):Nat:=(List.range (o.length-1)).foldl (fun b k=>if o.getD (k+1) 0<o.getD b 0 then k+1 else b) 0
theorem cheapN_spec(hp:1≤o.length):cheapN o<o.length∧(∀i,i<o.length→o.getD (cheapN o) 0≤o.getD i 0)∧∀i,i<cheapN o→o.getD (cheapN o) 0<o.getD i 0:=by
 have key:∀k,k+1≤o.length→(List.range k).foldl (fun b k=>if o.getD (k+1) 0<o.getD b 0 then k+1 else b) 0≤k∧(∀i,i≤k→o.getD ((List.range k).foldl (fun b k=>if o.getD (k+1) 0<o.getD b 0 then k+1 else b) 0) 0≤o.getD i 0)∧
   ∀i,i<(List.range k).foldl (fun b k=>if o.getD (k+1) 0<o.getD b 0 then k+1 else b) 0→o.getD ((List.range k).foldl (fun b k=>if o.getD (k+1) 0<o.getD b 0 then k+1 else b) 0) 0<o.getD i 0:=by
  intro k
  induction k with
  |zero=>
   intro _
   refine⟨xm _,fun i hi=>?_,fun i hi=>absurd hi (by simp)⟩
   have:i=0:=by omega
   subst this
   exact xby _
  |succ k ih=>
   intro hk
   obtain⟨i1,i2,i3⟩:=ih (by omega)
   rw [foldl_range_succ]
   generalize (List.range k).foldl (fun b k=>if o.getD (k+1) 0<o.getD b 0 then k+1 else b) 0=b at i1 i2 i3
   by_cases aa:o.getD (k+1) 0<o.getD b 0
   ·rw [if_pos aa]
    refine⟨xm _,fun i hi=>?_,fun i hi=>?_⟩
    ·by_cases e:i=k+1
     ·subst e;exact xby _
     ·have:=i2 i (by omega);omega
    ·have:=i2 i (by omega);omega
   ·rw [if_neg aa]
    refine⟨by omega,fun i hi=>?_,i3⟩
    by_cases e:i=k+1
    ·subst e;omega
    ·exact i2 i (by omega)
 obtain⟨a,b,c⟩:=key (o.length-1) (by omega)
 exact⟨by unfold cheapN;omega,fun i hi=>b i (by omega),c⟩
theorem gmin_eq{l:List Int}(h0:0<l.length)(hl:l.length≤1000):wxv l=some (l.getD (cheapN l) 0):=by
 have h:=(iter_fold (f:=fun v=>(wcp l v).ev) (n:=l.length-1) (mk:=fun k (b:Nat)=>(l.getD b 0,((k+1:Nat):Int))) (I:=fun k b=>b≤k) (g:=fun b k=>if l.getD (k+1) 0<l.getD b 0 then k+1 else b) (fin:=fun b=>l.getD b 0) (s0:=0) (xm _)
  (fun k b hk hb=>by
   have aa:((k+1:Nat):Int)<((l.length:Nat):Int):=by omega
   have g1:inR ((k+1:Nat):Int) l.length=true:=inR_nat (by omega)
   have hw:IntKind.wrap .i64 (((k+1:Nat):Int)+1)=((k+1+1:Nat):Int):=by rw [wrap64 (by omega) (by omega)];rfl
   refine⟨?_,by split<;>omega⟩
   have ab:(if l.getD (k+1) 0<l.getD b 0 then l.getD (k+1) 0 else l.getD b 0)=l.getD (if l.getD (k+1) 0<l.getD b 0 then k+1 else b) 0:=by split<;>rfl
   unfold wcp
   dsimp only
   rw [Tr.ev_t,decide_eq_true aa,cond_true,Tr.ev_g,g1,cond_true,hw,xbx,ab]
   rfl)
  (fun b _=>by
   have aa:¬((l.length-1+1:Nat):Int)<((l.length:Nat):Int):=by omega
   unfold wcp
   dsimp only
   rw [Tr.ev_t,decide_eq_false aa,cond_false,Tr.ev_l])).1
 have h1:wjj l (l.getD 0 0,1)=some (l.getD (cheapN l) 0):=h
 have hn:¬((l.length:Nat):Int)<1:=by omega
 have g0:inR (0:Int) l.length=true:=inR_int (by omega) (by omega)
 unfold wxv wxu
 rw [Tr.ev_t,decide_eq_false hn,cond_false,Tr.ev_g,g0,cond_true,Tr.ev_c,show Int.toNat 0=0 from rfl,h1,xf,Tr.ev_l]
theorem icheap_eq(hf:Fld o ds):F_zr o ds=some (cheapN o:Int):=by
 have hp:=hf.pos
 have h7:=hf.len
 obtain⟨c1,c2,c3⟩:=cheapN_spec hp
 have e1:=gmin_eq (l:=o) (by omega) (by omega)
 have h:=iter_forE (f:=fun v=>(wcq (o,(o.getD (cheapN o) 0,((o.length:Nat):Int))) v).ev) (l:=o) 0 (fun y=>o.getD (cheapN o) 0==y) (mk:=fun i=>(i:Int)) (yes:=fun i=>.inr (i:Int)) (no:=.inl ())
  (fun i hi=>by
   simp (disch:=omega) only [EV,wcq,hi]
   cases (o.getD (cheapN o) 0==o.getD i 0)<;>rfl)
  (by simp (disch:=omega) only [EV,wcq,xo])
 have h1:wjk (o,(o.getD (cheapN o) 0,((o.length:Nat):Int))) 0=_:=h
 have aa:(o.findIdx? fun y=>o.getD (cheapN o) 0==y)=some (cheapN o):=by
  rw [xdd]
  have hg:∀i (hi:i<o.length),o[i]=o.getD i 0:=fun i hi=>by rw [xd,xh hi];rfl
  refine⟨c1,by rw [hg _ c1];exact beq_self_eq_true _,fun i hi=>?_⟩
  rw [hg _ (by omega)]
  have:=c3 i hi
  intro h
  have:=eq_of_beq h
  omega
 rw [aa] at h1
 unfold F_zr T_zr wadt wxw
 rw [Tr.ev_c,e1,xf,Tr.ev_c,Tr.ev_c,h1]
 rfl
end
end Go.Proofs.YteiekijgoifhoaaGreatDoor
