/-
 Plain laws: growth: what a round of it does, and that it comes to an end.
-/
import Derived.Test.YteiekijgoifhoaaGreatDoorP15
namespace Go.Proofs.YteiekijgoifhoaaGreatDoor
def cntN(p:Nat→Prop)[DecidablePred p]:Nat→Nat
 |0=>0
 |k+1=>cntN p k+if p k then 1 else 0
theorem cntN_le{p q:Nat→Prop}[DecidablePred p][DecidablePred q]:∀ {n:Nat},(∀i,i<n→p i→q i)→cntN p n≤cntN q n
 |0,_=>xm _
 |n+1,h=>by
  have h1:=cntN_le (n:=n) fun i hi=>h i (by omega)
  have h2:=h n (by omega)
  unfold cntN
  by_cases hp:p n
  ·rw [if_pos hp,if_pos (h2 hp)];omega
  ·rw [if_neg hp];omega
theorem cntN_lt{p q:Nat→Prop}[DecidablePred p][DecidablePred q]:∀ {n:Nat},(∀i,i<n→p i→q i)→(∃i,i<n∧q i∧¬p i)→cntN p n<cntN q n
 |0,_,⟨_,h,_⟩=>absurd h (by omega)
 |n+1,h,⟨i,hi,hq,hp⟩=>by
  unfold cntN
  by_cases e:i=n
  ·subst e
   have h1:=cntN_le (n:=i) fun j hj=>h j (by omega)
   rw [if_neg hp,if_pos hq]
   omega
  ·have h1:=cntN_lt (n:=n) (fun j hj=>h j (by omega)) ⟨i,by omega,hq,hp⟩
   have h2:=h n (by omega)
   by_cases hp:p n
   ·rw [if_pos hp,if_pos (h2 hp)];omega
   ·rw [if_neg hp];omega
theorem cntN_pos{p:Nat→Prop}[DecidablePred p]{n:Nat}:0<cntN p n↔∃i,i<n∧p i:=by
 induction n with
 |zero=>simp [cntN]
 |succ n ih=>
  unfold cntN
  constructor
  ·intro h
   by_cases hp:p n
   ·exact⟨n,by omega,hp⟩
   ·rw [if_neg hp] at h
    obtain⟨i,h1,h2⟩:=ih.1 (by omega)
    exact⟨i,by omega,h2⟩
  ·rintro⟨i,h1,h2⟩
   by_cases e:i=n
   ·subst e;rw [if_pos h2];omega
   ·have:=ih.2 ⟨i,by omega,h2⟩
    omega
theorem cntN_max(p:Nat→Prop)[DecidablePred p]:∀n,cntN p n≤n
 |0=>xm _
 |n+1=>by
  have:=cntN_max p n
  unfold cntN
  split<;>omega
def gln(ds:List (List Int))(i a:Nat):Int:=at2 ds i a*2520
def gcs(o:List Int)(a:Nat):Int:=o.getD a 0*2520
def gclN(ds:List (List Int))(p:List Int)(a:Nat):Nat→Int
 |0=>0
 |k+1=>gclN ds p a k+pos (p.getD k 0-gln ds k a)
def gcl(ds:List (List Int))(p:List Int)(a:Nat):Int:=gclN ds p a ds.length
def gP(ds:List (List Int))(w p:List Int)(now:Int):List Int:=(List.range ds.length).map fun i=>if w.getD i 0<0 then now else p.getD i 0
def gT(o:List Int)(ds:List (List Int))(p tm:List Int)(now:Int):List Int:=(List.range o.length).map fun a=>if tm.getD a 0<0∧gcs o a≤gcl ds p a then now else tm.getD a 0
def gB(ds:List (List Int))(tm:List Int)(now:Int)(i:Nat):Nat→Int
 |0=> -1
 |a+1=>if 0≤tm.getD a 0∧gln ds i a≤now∧(gB ds tm now i a<0∨tm.getD a 0<tm.getD (gB ds tm now i a).toNat 0) then(a:Int) else gB ds tm now i a
def gW(o:List Int)(ds:List (List Int))(tm w:List Int)(now:Int):List Int:=(List.range ds.length).map fun i=>if w.getD i 0<0 then gB ds tm now i o.length else w.getD i 0
def gcnt(ds:List (List Int))(w:List Int)(now:Int)(a k:Nat):Nat:=cntN (fun i=>w.getD i 0<0∧gln ds i a≤now) k
def gmany(ds:List (List Int))(w:List Int)(now:Int)(a:Nat):Nat:=gcnt ds w now a ds.length
def gC1(o:List Int)(ds:List (List Int))(w:List Int)(now t:Int):Prop:=∃i,i<ds.length∧∃a,a<o.length∧w.getD i 0<0∧now<gln ds i a∧t=gln ds i a
def gC2(o:List Int)(ds:List (List Int))(p tm w:List Int)(now t:Int):Prop:=∃a,a<o.length∧tm.getD a 0<0∧0<gmany ds w now a∧t=now+(gcs o a-gcl ds p a+(gmany ds w now a:Int) -1) / (gmany ds w now a:Int)
def gC(o:List Int)(ds:List (List Int))(p tm w:List Int)(now t:Int):Prop:=gC1 o ds w now t∨gC2 o ds p tm w now t
theorem range_getD{n:Nat}{f:Nat→Int}{i:Nat}(h:i<n):((List.range n).map f).getD i 0=f i:=by
 rw [xd,xr,xbs h];rfl
theorem gP_getD{ds:List (List Int)}{w p:List Int}{now:Int}{i:Nat}(h:i<ds.length):(gP ds w p now).getD i 0=if w.getD i 0<0 then now else p.getD i 0:=range_getD h
theorem gT_getD{o:List Int}{ds:List (List Int)}{p tm:List Int}{now:Int}{a:Nat}(h:a<o.length):(gT o ds p tm now).getD a 0=if tm.getD a 0<0∧gcs o a≤gcl ds p a then now else tm.getD a 0:=range_getD h
theorem gW_getD{o:List Int}{ds:List (List Int)}{tm w:List Int}{now:Int}{i:Nat}(h:i<ds.length):(gW o ds tm w now).getD i 0=if w.getD i 0<0 then gB ds tm now i o.length else w.getD i 0:=range_getD h
theorem gB_in{ds:List (List Int)}{tm:List Int}{now:Int}{i:Nat}:∀n:Nat,(gB ds tm now i n= -1∧∀a,a<n→¬(0≤tm.getD a 0∧gln ds i a≤now))∨(0≤gB ds tm now i n∧gB ds tm now i n<n∧0≤tm.getD (gB ds tm now i n).toNat 0)
 |0=>.inl ⟨rfl,fun a h=>absurd h (by omega)⟩
 |n+1=>by
  have ih:=gB_in (ds:=ds) (tm:=tm) (now:=now) (i:=i) n
  rw [gB]
  by_cases hc:0≤tm.getD n 0∧gln ds i n≤now∧(gB ds tm now i n<0∨tm.getD n 0<tm.getD (gB ds tm now i n).toNat 0)
  ·rw [if_pos hc]
   exact .inr ⟨by omega,by omega,hc.1⟩
  ·rw [if_neg hc]
   rcases ih with⟨h1,h2⟩|⟨h1,h2,h3⟩
   ·exact .inl ⟨h1,all_succ.2 ⟨h2,fun h=>hc ⟨h.1,h.2,.inl (by omega)⟩⟩⟩
   ·exact .inr ⟨h1,by omega,h3⟩
structure GI(o:List Int)(ds:List (List Int))(p tm w:List Int)(now:Int):Prop where
 pl:p.length=ds.length
 tl:tm.length=o.length
 wl:w.length=ds.length
 n0:0≤now
 n1:now≤498960
 wi:∀i,i<ds.length→w.getD i 0= -1∨(0≤w.getD i 0∧w.getD i 0<o.length∧0≤p.getD i 0∧p.getD i 0<now)
 ti:∀a,a<o.length→tm.getD a 0= -1∨(0≤tm.getD a 0∧tm.getD a 0<now)
theorem gln_in{o:List Int}{ds:List (List Int)}(hf:Fld o ds){i a:Nat}(hi:i<ds.length)(ha:a<o.length):0≤gln ds i a∧gln ds i a≤249480:=by
 have:=hf.at2 hi ha
 unfold gln
 omega
theorem gcs_in{o:List Int}{ds:List (List Int)}(hf:Fld o ds){a:Nat}(ha:a<o.length):0≤gcs o a∧gcs o a≤249480:=by
 have:=hf.cost a ha
 unfold gcs
 omega
theorem pos_mono{x y:Int}(h:x≤y):pos x≤pos y:=by
 have h1:=pos_in x
 have h2:=pos_in y
 by_cases h0:0≤x
 ·have:=h1.2.1 h0;have:=h2.2.1 (by omega);omega
 ·have:=h1.2.2 (by omega);omega
theorem gclN_in{o:List Int}{ds:List (List Int)}{p:List Int}(hf:Fld o ds)(hp:∀i,i<ds.length→p.getD i 0≤498960){a:Nat}(ha:a<o.length):∀k,k≤ds.length→0≤gclN ds p a k∧gclN ds p a k≤498960*k∧∀c,c<k→pos (p.getD c 0-gln ds c a)≤gclN ds p a k
 |0,_=>⟨xby _,by simp [gclN],fun c h=>absurd h (by omega)⟩
 |k+1,hk=>by
  obtain⟨h1,h2,h3⟩:=gclN_in hf hp ha k (by omega)
  have h4:=pos_in (p.getD k 0-gln ds k a)
  have h5:=hp k (by omega)
  have h6:=gln_in hf (show k<ds.length by omega) ha
  have h7:pos (p.getD k 0-gln ds k a)≤498960:=by
   by_cases h0:0≤p.getD k 0-gln ds k a
   ·have:=h4.2.1 h0;omega
   ·have:=h4.2.2 (by omega);omega
  rw [gclN]
  exact⟨by omega,by omega,all_succ.2 ⟨fun c hc=>by have:=h3 c hc;omega,by omega⟩⟩
theorem GI.price{o:List Int}{ds:List (List Int)}{p tm w:List Int}{now:Int}(h:GI o ds p tm w now){i:Nat}(hi:i<ds.length):0≤(gP ds w p now).getD i 0∧(gP ds w p now).getD i 0≤now∧((gP ds w p now).getD i 0=now↔w.getD i 0<0):=by
 rw [gP_getD hi]
 have h0:=h.n0
 rcases h.wi i hi with h1|⟨h1,_,h2,h3⟩
 ·rw [if_pos (by omega)];exact⟨h0,xby _,fun _=>by omega,fun _=>rfl⟩
 ·rw [if_neg (by omega)];exact⟨h2,by omega,fun _=>by omega,fun _=>by omega⟩
section
variable {o:List Int} {ds:List (List Int)} {p tm w:List Int} {now:Int}
theorem GI.on(_h:GI o ds p tm w now){i:Nat}(hi:i<ds.length)(hw:(gW o ds (gT o ds (gP ds w p now) tm now) w now).getD i 0<0):w.getD i 0<0∧∀a,a<o.length→gln ds i a≤now→(gT o ds (gP ds w p now) tm now).getD a 0<0:=by
 rw [gW_getD hi] at hw
 by_cases h0:w.getD i 0<0
 ·rw [if_pos h0] at hw
  refine⟨h0,fun a ha hl=>?_⟩
  rcases gB_in (ds:=ds) (tm:=gT o ds (gP ds w p now) tm now) (now:=now) (i:=i) o.length with⟨_,h2⟩|⟨h1,_⟩
  ·have:=h2 a ha
   by_cases hx:0≤(gT o ds (gP ds w p now) tm now).getD a 0
   ·exact absurd ⟨hx,hl⟩ this
   ·omega
  ·omega
 ·rw [if_neg h0] at hw;exact absurd hw h0
theorem GI.tight(h:GI o ds p tm w now){a:Nat}(ha:a<o.length)(ht:(gT o ds (gP ds w p now) tm now).getD a 0<0):tm.getD a 0<0∧gcl ds (gP ds w p now) a<gcs o a:=by
 have h0:=h.n0
 rw [gT_getD ha] at ht
 by_cases hc:tm.getD a 0<0∧gcs o a≤gcl ds (gP ds w p now) a
 ·rw [if_pos hc] at ht;omega
 ·rw [if_neg hc] at ht
  exact⟨ht,by
   by_cases hx:gcs o a≤gcl ds (gP ds w p now) a
   ·exact absurd ⟨ht,hx⟩ hc
   ·omega⟩
theorem cdiv_in{x:Int}{k:Nat}(hx:0<x)(hk:0<k):0<(x+(k:Int) -1) / (k:Int)∧(x+(k:Int) -1) / (k:Int)≤x∧x≤(k:Int)*((x+(k:Int) -1) / (k:Int)):=by
 have h1:=Int.emod_add_mul_ediv (x+(k:Int) -1) (k:Int)
 have h2:=xfl (x+(k:Int) -1) (show(0:Int)<k by omega)
 have h3:=xga (x+(k:Int) -1) (show(k:Int)≠0 by omega)
 generalize hq:(x+(k:Int) -1) / (k:Int)=q at*
 generalize (x+(k:Int) -1) % (k:Int)=r at*
 have h4:0<q:=by
  by_cases aa:0<q
  ·exact aa
  ·have:(k:Int)*q≤(k:Int)*0:=xex (by omega) (by omega)
   omega
 refine⟨h4,?_,by omega⟩
 have h5:(k:Int)*q=q+((k:Int) -1)*q:=by rw [Int.sub_mul];omega
 have h6:((k:Int) -1)*1≤((k:Int) -1)*q:=xex (by omega) (by omega)
 omega
theorem GI.later(hf:Fld o ds)(h:GI o ds p tm w now){t:Int}(ht:gC o ds (gP ds w p now) (gT o ds (gP ds w p now) tm now) (gW o ds (gT o ds (gP ds w p now) tm now) w now) now t):now<t∧t≤498960:=by
 rcases ht with⟨i,hi,a,ha,_,h1,rfl⟩|⟨a,ha,h1,h2,rfl⟩
 ·have:=gln_in hf hi ha
  exact⟨h1,by omega⟩
 ·obtain⟨_,h3⟩:=h.tight ha h1
  obtain⟨i,hi,h4,h5⟩:=cntN_pos.1 h2
  obtain⟨h6,_⟩:=h.on hi h4
  have h7:=cdiv_in (x:=gcs o a-gcl ds (gP ds w p now) a) (by omega) h2
  have h8:=gcs_in hf ha
  have h9:=gln_in hf hi ha
  have aa:=(gclN_in (p:=gP ds w p now) hf (fun i hi=>by have:=(h.price hi).2.1;have:=h.n1;omega) ha ds.length (xm _)).2.2 i hi
  have ab:=(h.price hi).2.2.2 h6
  rw [ab] at aa
  have ad:=(pos_in (now-gln ds i a)).2.1 (by omega)
  unfold gcl at h7 h3⊢
  omega
theorem GI.some(hf:Fld o ds)(h:GI o ds p tm w now){i:Nat}(hi:i<ds.length)(hw:(gW o ds (gT o ds (gP ds w p now) tm now) w now).getD i 0<0):∃t,gC o ds (gP ds w p now) (gT o ds (gP ds w p now) tm now) (gW o ds (gT o ds (gP ds w p now) tm now) w now) now t:=by
 have ha:0<o.length:=by have:=hf.pos;omega
 obtain⟨_,h2⟩:=h.on hi hw
 by_cases hl:gln ds i 0≤now
 ·exact⟨_,.inr ⟨0,ha,h2 0 ha hl,cntN_pos.2 ⟨i,hi,hw,hl⟩,rfl⟩⟩
 ·exact⟨_,.inl ⟨i,hi,0,ha,hw,by omega,rfl⟩⟩
def gL(o:List Int)(ds:List (List Int))(now:Int):Nat:=cntN (fun x=>now<gln ds (x/ o.length) (x % o.length)) (ds.length*o.length)
def gM(o:List Int)(ds:List (List Int))(p tm w:List Int)(now:Int):Nat:=gL o ds now+cntN (fun a=>(gT o ds (gP ds w p now) tm now).getD a 0<0) o.length
theorem gclN_grow{p q:List Int}{a:Nat}{d:Int}(hd:0≤d){w:List Int}:∀k,k≤ds.length→(∀i,i<ds.length→p.getD i 0≤q.getD i 0)→(∀i,i<ds.length→w.getD i 0<0→q.getD i 0=p.getD i 0+d∧p.getD i 0=now)→gclN ds p a k+(gcnt ds w now a k:Int)*d≤gclN ds q a k
 |0,_,_,_=>by simp [gclN,gcnt,cntN]
 |k+1,hk,h1,h2=>by
  have ih:=gclN_grow hd k (by omega) h1 h2 (a:=a)
  have h3:=pos_mono (x:=p.getD k 0-gln ds k a) (y:=q.getD k 0-gln ds k a) (by have:=h1 k (by omega);omega)
  rw [gclN,gclN]
  unfold gcnt at ih⊢
  rw [cntN]
  by_cases hc:w.getD k 0<0∧gln ds k a≤now
  ·rw [if_pos hc]
   obtain⟨h4,h5⟩:=h2 k (by omega) hc.1
   have h6:=(pos_in (p.getD k 0-gln ds k a)).2.1 (by omega)
   have h7:=(pos_in (q.getD k 0-gln ds k a)).2.1 (by omega)
   rw [xfz,Int.add_mul]
   simp only [Int.natCast_one,Int.one_mul]
   omega
  ·rw [if_neg hc,xbd]
   omega
theorem GI.next(hf:Fld o ds)(h:GI o ds p tm w now){t:Int}(ht:gC o ds (gP ds w p now) (gT o ds (gP ds w p now) tm now) (gW o ds (gT o ds (gP ds w p now) tm now) w now) now t):
  GI o ds (gP ds w p now) (gT o ds (gP ds w p now) tm now) (gW o ds (gT o ds (gP ds w p now) tm now) w now) t∧
  gM o ds (gP ds w p now) (gT o ds (gP ds w p now) tm now) (gW o ds (gT o ds (gP ds w p now) tm now) w now) t<gM o ds p tm w now:=by
 obtain⟨l1,l2⟩:=h.later hf ht
 have h0:=h.n0
 have g:GI o ds (gP ds w p now) (gT o ds (gP ds w p now) tm now) (gW o ds (gT o ds (gP ds w p now) tm now) w now) t:=by
  refine⟨by simp [gP],by simp [gT],by simp [gW],by omega,l2,fun i hi=>?_,fun a ha=>?_⟩
  ·obtain⟨h1,h2,h3⟩:=h.price hi
   rw [gW_getD hi]
   rcases h.wi i hi with h4|⟨h4,h5,_⟩
   ·rw [if_pos (by omega)]
    rcases gB_in (ds:=ds) (tm:=gT o ds (gP ds w p now) tm now) (now:=now) (i:=i) o.length with⟨k1,_⟩|⟨k1,k2,_⟩
    ·exact .inl k1
    ·exact .inr ⟨k1,k2,h1,by omega⟩
   ·rw [if_neg (by omega)]
    exact .inr ⟨h4,h5,h1,by omega⟩
  ·rw [gT_getD ha]
   split
   ·exact .inr ⟨h0,l1⟩
   ·rcases h.ti a ha with h1|⟨h1,h2⟩
    ·exact .inl h1
    ·exact .inr ⟨h1,by omega⟩
 refine⟨g,?_⟩
 unfold gM
 have e1:gL o ds t≤gL o ds now:=cntN_le fun x _ hx=>by omega
 have e2:cntN (fun a=>(gT o ds (gP ds (gW o ds (gT o ds (gP ds w p now) tm now) w now) (gP ds w p now) t) (gT o ds (gP ds w p now) tm now) t).getD a 0<0) o.length≤cntN (fun a=>(gT o ds (gP ds w p now) tm now).getD a 0<0) o.length:=cntN_le fun a ha hx=>(g.tight ha hx).1
 rcases ht with⟨i,hi,a,ha,k1,k2,k3⟩|⟨a,ha,k1,k2,k3⟩
 ·have:gL o ds t<gL o ds now:=cntN_lt (fun x _ hx=>by omega) ⟨i*o.length+a,by
   have:(i+1)*o.length≤ds.length*o.length:=xao _ (by omega)
   rw [xaz] at this;omega,by
   have e1:(i*o.length+a) / o.length=i:=by
    rw [Nat.mul_comm,Nat.mul_add_div (by omega),Nat.div_eq_of_lt ha,xbd]
   have e2:(i*o.length+a) % o.length=a:=by
    rw [Nat.mul_comm,Nat.mul_add_mod,xfr ha]
   simp only [e1,e2]
   omega⟩
  omega
 ·have:cntN (fun a=>(gT o ds (gP ds (gW o ds (gT o ds (gP ds w p now) tm now) w now) (gP ds w p now) t) (gT o ds (gP ds w p now) tm now) t).getD a 0<0) o.length<cntN (fun a=>(gT o ds (gP ds w p now) tm now).getD a 0<0) o.length:=cntN_lt (fun a ha hx=>(g.tight ha hx).1) ⟨a,ha,k1,fun hx=>by
   obtain⟨_,k4⟩:=g.tight ha hx
   obtain⟨_,k5⟩:=h.tight ha k1
   have k6:=gclN_grow (ds:=ds) (now:=now) (p:=gP ds w p now) (q:=gP ds (gW o ds (gT o ds (gP ds w p now) tm now) w now) (gP ds w p now) t) (a:=a) (d:=t-now) (by omega) (w:=gW o ds (gT o ds (gP ds w p now) tm now) w now) ds.length (xm _) (fun i hi=>by
    have:=(h.price hi).2.1
    rw [gP_getD (w:=gW o ds (gT o ds (gP ds w p now) tm now) w now) hi]
    split<;>omega) (fun i hi hw=>by
    have:=(h.price hi).2.2.2 (h.on hi hw).1
    rw [gP_getD (w:=gW o ds (gT o ds (gP ds w p now) tm now) w now) hi,if_pos hw]
    omega)
   have k7:=(cdiv_in (x:=gcs o a-gcl ds (gP ds w p now) a) (by omega) k2).2.2
   have k8:(gmany ds (gW o ds (gT o ds (gP ds w p now) tm now) w now) now a:Int)*(t-now)=(gmany ds (gW o ds (gT o ds (gP ds w p now) tm now) w now) now a:Int)*((gcs o a-gcl ds (gP ds w p now) a+(gmany ds (gW o ds (gT o ds (gP ds w p now) tm now) w now) now a:Int) -1) / (gmany ds (gW o ds (gT o ds (gP ds w p now) tm now) w now) now a:Int)):=by
    rw [k3];congr 1;omega
   have k9:gclN ds (gP ds w p now) a ds.length+(gmany ds (gW o ds (gT o ds (gP ds w p now) tm now) w now) now a:Int)*(t-now)≤gclN ds (gP ds (gW o ds (gT o ds (gP ds w p now) tm now) w now) (gP ds w p now) t) a ds.length:=k6
   rw [k8] at k9
   unfold gcl at k4 k5 k7 k9
   omega⟩
  omega
end
end Go.Proofs.YteiekijgoifhoaaGreatDoor
/-
 Plain laws: growth as the program finds it: each round, and the whole.
-/
namespace Go.Proofs.YteiekijgoifhoaaGreatDoor
theorem list_ext0{a b:List Int}(hl:a.length=b.length)(h:∀i,i<b.length→a.getD i 0=b.getD i 0):a=b:=by
 apply xdv
 intro i
 by_cases hi:i<b.length
 ·have:=h i hi
  rw [xd,xd,xh (by omega),xh hi] at this
  rw [xh (by omega),xh hi]
  exact congrArg some this
 ·rw [xbj (by omega),xbj (by omega)]
theorem iter_setI{f:(Int)×(List (Int))→Option (((Int)×(List (Int)))⊕(List (Int)))}{n:Nat}(g:Nat→Int){l r:List Int}(hl:l.length=n)(hr:r.length=n)(hg:∀i,i<n→r.getD i 0=g i)
  (hs:∀ (i:Nat) (a:List Int),i<n→a.length=n→a.getD i 0=l.getD i 0→∃b,f ((i:Int),a)=some (.inl (((i+1:Nat):Int),b))∧b.length=n∧∀j,j<n→b.getD j 0=if i=j then g i else a.getD j 0)
  (he:∀a,f ((n:Int),a)=some (.inr a)):iter f ((0:Int),l)=some r:=by
 obtain⟨x,h1,h2⟩:=iter_inv (f:=f) (n:=n) (fun i (a:List Int)=>((i:Int),a)) (fun i a=>a.length=n∧∀j,j<n→a.getD j 0=if j<i then g j else l.getD j 0) (fun x=>x=r) (s0:=l)
  ⟨hl,fun j _=>by rw [if_neg (by omega)]⟩
  (fun i a hi ⟨h1,h2⟩=>by
   left
   obtain⟨b,k1,k2,k3⟩:=hs i a hi h1 (by rw [h2 i hi,if_neg (by omega)])
   refine⟨b,k1,k2,fun j hj=>?_⟩
   rw [k3 j hj]
   by_cases e:i=j
   ·subst e
    rw [if_pos rfl,if_pos (by omega)]
   ·rw [if_neg e,h2 j hj]
    by_cases h:j<i
    ·rw [if_pos h,if_pos (by omega)]
    ·rw [if_neg h,if_neg (by omega)])
  (fun a ⟨h1,h2⟩=>⟨a,he a,list_ext0 (by omega) fun j hj=>by rw [h2 j (by omega),if_pos (by omega),hg j (by omega)]⟩)
 rw [←h2]
 exact h1
section
variable {o:List Int} {ds:List (List Int)} {p tm w:List Int} {now:Int}
theorem gclaims_eq(hf:Fld o ds)(hl:p.length=ds.length)(hp:∀i,i<ds.length→0≤p.getD i 0∧p.getD i 0≤498960):∃r,F_zs o ds p 2520=some r∧r.length=o.length∧∀s,s<o.length→r.getD s 0=gcl ds p s:=by
 have aj:=hf.clients
 have hlen:=hf.len
 obtain⟨r,k1,k2⟩:=iter_inv (f:=fun v=>(wec (p,((2520:Int),(ds,(ds.length:Int)))) v).ev) (n:=ds.length) (fun i (a:List Int)=>((i:Int),a)) (fun i a=>a.length=o.length∧∀s,s<o.length→a.getD s 0=gclN ds p s i) (fun r=>r.length=o.length∧∀s,s<o.length→r.getD s 0=gcl ds p s) (s0:=List.replicate o.length 0)
  ⟨by simp,fun s hs=>by rw [xd,xeh,if_pos hs];rfl⟩
  (fun c a hc ⟨ab,ad⟩=>by
   left
   have hr:=hf.rowLen c hc
   have ae:c<p.length:=by omega
   have h1:=hp c hc
   have af:wqd (p,((2520:Int),((c:Int),(ds,((ds.length:Int),((c:Int),(ds.getD c [],((ds.getD c []).length:Int)))))))) ((0:Int),a)=some ((List.range o.length).map fun s=>gclN ds p s (c+1)):=by
    refine iter_setI (n:=o.length) (fun s=>gclN ds p s (c+1)) ab (by simp) (fun i hi=>range_getD hi) (fun i b hi hb he=>?_) (fun b=>?_)
    ·have h2:=hf.at2 hc hi
     obtain⟨g1,g2,_⟩:=gclN_in hf (fun i hi=>(hp i hi).2) hi c (by omega)
     obtain⟨g3,g4,_⟩:=gclN_in hf (fun i hi=>(hp i hi).2) hi (c+1) (by omega)
     have e3:(ds.getD c []).getD i 0=at2 ds c i:=rfl
     have e4:b.getD i 0=gclN ds p i c:=by rw [he,ad i hi]
     have aa:i<b.length:=by omega
     have ah:i<(ds.getD c []).length:=by omega
     have e5:(if(0:Int)<p.getD c 0-at2 ds c i*2520 then p.getD c 0-at2 ds c i*2520 else 0)=pos (p.getD c 0-gln ds c i):=rfl
     rw [gclN] at g3 g4
     refine⟨b.set i (gclN ds p i (c+1)),?_,by rw [xar];exact hb,fun j hj=>set_getD b aa j _⟩
     simp (disch:=omega) only [EV,wfb,hr,hi,aa,ah,ae,e3,e4,e5]
     rfl
    ·simp (disch:=omega) only [EV,wfb,hr,xo]
   refine⟨_,?_,by simp,fun s hs=>range_getD hs⟩
   simp (disch:=omega) only [EV,wec,hc,af]
   rfl)
  (fun a ha=>⟨a,by simp (disch:=omega) only [EV,wec,xo],ha⟩)
 have ai:wqe (p,((2520:Int),(ds,(ds.length:Int)))) ((0:Int),List.replicate o.length 0)=some r:=k1
 refine⟨r,?_,k2⟩
 unfold F_zs T_zs
 have e1:(0:Int)≤(o.length:Int):=by omega
 have e2:((8:Nat):Int)*(o.length:Int)≤281474976710656:=by omega
 simp (disch:=omega) only [EV,e1,e2,xby,ai]
theorem grow1_eq(hf:Fld o ds){i a:Nat}(hi:i<ds.length)(ha:a<o.length):F_zv (i:Int) (a:Int) o ds=some (gln ds i a):=by
 have h1:=hf.at2 hi ha
 have hr:=hf.rowLen i hi
 have e3:(ds.getD i []).getD a 0=at2 ds i a:=rfl
 unfold F_zv T_zv
 have aa:a<(ds.getD i []).length:=by omega
 simp (disch:=omega) only [EV,hi,aa,e3]
 rfl
theorem grow_p(hf:Fld o ds)(h:GI o ds p tm w now)(x:Int):L_zw (x,((ds.length:Int),(o,(ds,(now,(tm,w)))))) ((0:Int),p)=some (gP ds w p now):=by
 have hw:=h.wl
 have hm:=hf.clients
 refine iter_setI (n:=ds.length) (fun i=>if w.getD i 0<0 then now else p.getD i 0) h.pl (by simp [gP]) (fun i hi=>gP_getD hi) (fun i b hi hb he=>?_) (fun b=>?_)
 ·have aa:i<w.length:=by omega
  have ab:i<b.length:=by omega
  by_cases hc:w.getD i 0<0
  ·refine⟨b.set i now,?_,by rw [xar];exact hb,fun j hj=>by rw [set_getD b ab,if_pos hc]⟩
   simp (disch:=omega) only [EV,S_zw,hi,aa,ab,hc,if_pos hc]
   rfl
  ·refine⟨b,?_,hb,fun j hj=>?_⟩
   ·simp (disch:=omega) only [EV,S_zw,hi,aa,hc,if_neg hc]
    rfl
   ·rw [if_neg hc]
    split
    next e=>subst e;exact he
    next=>rfl
 ·simp (disch:=omega) only [EV,S_zw,xo]
theorem grow_t(hf:Fld o ds)(ad:tm.length=o.length){cl:List Int}(af:cl.length=o.length)(hc:∀s,s<o.length→cl.getD s 0=gcl ds p s)(x:Int)(y:List Int)(z:List Int):
  wqf (x,((o.length:Int),(o,(ds,(now,(cl,(y,z))))))) ((0:Int),tm)=some (gT o ds p tm now):=by
 have hlen:=hf.len
 refine iter_setI (n:=o.length) (fun a=>if tm.getD a 0<0∧gcs o a≤gcl ds p a then now else tm.getD a 0) ad (by simp [gT]) (fun a ha=>gT_getD ha) (fun i b hi hb he=>?_) (fun b=>?_)
 ·have aa:i<b.length:=by omega
  have ab:i<cl.length:=by omega
  have ae:=hf.cost i hi
  have e1:=hc i hi
  have e2:o.getD i 0*2520=gcs o i:=rfl
  by_cases h1:tm.getD i 0<0
  ·by_cases h2:gcs o i≤gcl ds p i
   ·refine⟨b.set i now,?_,by rw [xar];exact hb,fun j hj=>by rw [set_getD b aa];simp only [if_pos (And.intro h1 h2)]⟩
    simp (disch:=omega) only [EV,wdj,hi,aa,ab,he,h1,e1,e2,h2]
    rfl
   ·refine⟨b,?_,hb,fun j hj=>?_⟩
    ·simp (disch:=omega) only [EV,wdj,hi,aa,ab,he,h1,e1,e2,h2]
     rfl
    ·rw [if_neg (show¬(tm.getD i 0<0∧gcs o i≤gcl ds p i) from fun q=>h2 q.2)]
     split
     next e=>subst e;exact he
     next=>rfl
  ·refine⟨b,?_,hb,fun j hj=>?_⟩
   ·simp (disch:=omega) only [EV,wdj,hi,aa,ab,he,h1]
    rfl
   ·rw [if_neg (show¬(tm.getD i 0<0∧gcs o i≤gcl ds p i) from fun q=>h1 q.1)]
    split
    next e=>subst e;exact he
    next=>rfl
 ·simp (disch:=omega) only [EV,wdj,xo]
theorem grow_w1(hf:Fld o ds)(h:GI o ds p tm w now){t q:List Int}(ht:t.length=o.length)(hq:q.length=ds.length){i:Nat}(hi:i<ds.length)(af:q.getD i 0=now↔w.getD i 0<0){b:List Int}(hb:b.length=ds.length)(al:b.getD i 0=w.getD i 0)(x:Int)(y:Bool):
  wqg (x,(y,((i:Int),((ds.length:Int),((i:Int),((o.length:Int),(o,(ds,(now,(t,q)))))))))) ((0:Int),b)=some (b.set i (if w.getD i 0<0 then gB ds t now i o.length else w.getD i 0)):=by
 have hlen:=hf.len
 have ah:i<b.length:=by omega
 have ab:i<q.length:=by omega
 obtain⟨r,k1,k2⟩:=iter_inv (f:=fun v=>(wab (x,(y,((i:Int),((ds.length:Int),((i:Int),((o.length:Int),(o,(ds,(now,(t,q)))))))))) v).ev) (n:=o.length) (fun a (c:List Int)=>((a:Int),c)) (fun a c=>c=b.set i (if w.getD i 0<0 then gB ds t now i a else w.getD i 0)) (fun r=>r=b.set i (if w.getD i 0<0 then gB ds t now i o.length else w.getD i 0)) (s0:=b)
  (by
   have:(if w.getD i 0<0 then gB ds t now i 0 else w.getD i 0)=b.getD i 0:=by
    rw [al]
    rcases h.wi i hi with e|e
    ·rw [e];rfl
    ·rw [if_neg (by omega)]
   rw [this]
   exact(list_ext0 (by simp) fun j hj=>by
    rw [set_getD b ah]
    split
    ·next e=>subst e;rfl
    ·rfl).symm)
  (fun a c ha hc=>by
   left
   refine⟨_,?_,rfl⟩
   subst hc
   have ad:a<t.length:=by omega
   have aa:∀v,((b.set i v).length=ds.length):=fun v=>by rw [xar];exact hb
   have ae:∀v,(b.set i v).getD i 0=v:=fun v=>by rw [set_getD b ah,if_pos rfl]
   have ai:∀v v':Int,(b.set i v).set i v'=b.set i v':=fun v v'=>by rw [List.set_set]
   by_cases h0:w.getD i 0<0
   ·have e1:=af.2 h0
    have eb:(now==now)=true:=beq_self_eq_true now
    have hl:=grow1_eq hf hi ha
    have ao:=gB_in (ds:=ds) (tm:=t) (now:=now) (i:=i) a
    rw [if_pos h0,if_pos h0,gB]
    generalize hB:gB ds t now i a=B at ao⊢
    by_cases h1:0≤t.getD a 0
    ·by_cases h2:gln ds i a≤now
     ·by_cases h3:B<0
      ·rw [if_pos ⟨h1,h2,.inl h3⟩]
       simp (disch:=omega) only [EV,wab,ha,ad,aa,hi,ab,e1,eb,h1,hl,h2,ae,h3,ai]
       rfl
      ·have aj:B.toNat<t.length:=by omega
       have ak:inR B t.length=true:=inR_int (by omega) (by omega)
       by_cases h4:t.getD a 0<t.getD B.toNat 0
       ·rw [if_pos ⟨h1,h2,.inr h4⟩]
        simp (disch:=omega) only [EV,wab,ha,ad,aa,hi,ab,e1,eb,h1,hl,h2,ae,h3,ak,aj,h4,ai]
        rfl
       ·rw [if_neg (fun q=>by rcases q.2.2 with q|q;exact h3 q;exact h4 q)]
        simp (disch:=omega) only [EV,wab,ha,ad,aa,hi,ab,e1,eb,h1,hl,h2,ae,h3,ak,aj,h4]
        rfl
     ·rw [if_neg (fun q=>h2 q.2.1)]
      simp (disch:=omega) only [EV,wab,ha,ad,aa,hi,ab,e1,eb,h1,hl,h2]
      rfl
    ·rw [if_neg (fun q=>h1 q.1)]
     simp (disch:=omega) only [EV,wab,ha,ad,aa,hi,ab,e1,eb,h1]
     rfl
   ·have e1:(q.getD i 0==now)=false:=beq_eq_false_iff_ne.2 fun e=>h0 (af.1 e)
    rw [if_neg h0,if_neg h0]
    simp (disch:=omega) only [EV,wab,ha,ad,aa,hi,ab,e1]
    rfl)
  (fun c hc=>⟨c,by
   unfold wab
   dsimp only
   rw [Tr.ev_t,decide_eq_false (xdl _),cond_false,Tr.ev_l],hc⟩)
 rw [←k2]
 exact k1
theorem grow_w(hf:Fld o ds)(h:GI o ds p tm w now){t q:List Int}(ht:t.length=o.length)(hq:q.length=ds.length)(ae:∀i,i<ds.length→(q.getD i 0=now↔w.getD i 0<0))(x:Int):
  ∃g,wqh (x,((ds.length:Int),(o,(ds,(now,(q,t)))))) (false,((0:Int),w))=some (g,gW o ds t w now)∧(g=true↔∃i,i<ds.length∧(gW o ds t w now).getD i 0<0):=by
 obtain⟨⟨g,r⟩,k1,k2,k3⟩:=iter_inv (f:=fun v=>(wdk (x,((ds.length:Int),(o,(ds,(now,(q,t)))))) v).ev) (n:=ds.length) (fun i (c:Bool×List Int)=>(c.1,((i:Int),c.2))) (fun i c=>c.2.length=ds.length∧(∀j,j<ds.length→c.2.getD j 0=if j<i then(gW o ds t w now).getD j 0 else w.getD j 0)∧(c.1=true↔∃j,j<i∧(gW o ds t w now).getD j 0<0))
  (fun r=>r.2=gW o ds t w now∧(r.1=true↔∃j,j<ds.length∧(gW o ds t w now).getD j 0<0)) (s0:=(false,w))
  ⟨h.wl,fun j _=>by rw [if_neg (by omega)],by simp⟩
  (fun i c hi ⟨c1,c2,c3⟩=>by
   left
   have hm:=hf.clients
   have e1:=grow_w1 hf h ht hq hi (ae i hi) c1 (by rw [c2 i hi,if_neg (by omega)]) x c.1
   have e2:(if w.getD i 0<0 then gB ds t now i o.length else w.getD i 0)=(gW o ds t w now).getD i 0:=(gW_getD hi).symm
   rw [e2] at e1
   have aa:i<c.2.length:=by omega
   have e3:∀v,(c.2.set i v).getD i 0=v:=fun v=>by rw [set_getD c.2 aa,if_pos rfl]
   have e4:∀v,(c.2.set i v).length=ds.length:=fun v=>by rw [xar];exact c1
   refine⟨(c.1||decide ((gW o ds t w now).getD i 0<0),c.2.set i ((gW o ds t w now).getD i 0)),?_,e4 _,fun j hj=>?_,?_⟩
   ·cases hc:c.1 with
    |true=>
     rw [hc] at e1
     simp (disch:=omega) only [EV,wdk,hi,ht,e1]
     rfl
    |false=>
     rw [hc] at e1
     simp (disch:=omega) only [EV,wdk,hi,ht,e1,e3,e4]
     rfl
   ·rw [set_getD c.2 aa]
    by_cases e:i=j
    ·subst e
     rw [if_pos rfl,if_pos (by omega)]
    ·rw [if_neg e,c2 j hj]
     by_cases ab:j<i
     ·rw [if_pos ab,if_pos (by omega)]
     ·rw [if_neg ab,if_neg (by omega)]
   ·rw [xbl,c3,decide_eq_true_eq]
    constructor
    ·rintro(⟨j,h1,h2⟩|h1)
     ·exact⟨j,by omega,h2⟩
     ·exact⟨i,by omega,h1⟩
    ·rintro⟨j,h1,h2⟩
     by_cases e:j=i
     ·subst e;exact .inr h2
     ·exact .inl ⟨j,by omega,h2⟩)
  (fun c ⟨c1,c2,c3⟩=>⟨c,by simp (disch:=omega) only [EV,wdk,xo],list_ext0 (by simp [c1,gW]) fun j hj=>by
   have ad:j<ds.length:=by simpa [gW] using hj
   rw [c2 j ad,if_pos ad],c3⟩)
 refine⟨g,?_,k3⟩
 simp only at k2
 rw [←k2]
 exact k1
def NXT(now:Int)(C:Int→Prop)(x:Int):Prop:=(x= -1∧∀t,C t→¬now<t)∨(C x∧now<x∧∀t,C t→now<t→x≤t)
theorem NXT.eqv{C D:Int→Prop}{x:Int}(aa:∀t,C t↔D t)(h:NXT now C x):NXT now D x:=by
 rcases h with⟨h1,h2⟩|⟨h1,h2,h3⟩
 ·exact .inl ⟨h1,fun t ht=>h2 t ((aa t).2 ht)⟩
 ·exact .inr ⟨(aa x).1 h1,h2,fun t ht=>h3 t ((aa t).2 ht)⟩
theorem grow2_eq(h0:0≤now){C:Int→Prop}{x:Int}(h:NXT now C x)(t:Int):∃y,F_zw t now x=some y∧NXT now (fun u=>C u∨u=t) y:=by
 unfold F_zw T_zw
 by_cases h1:now<t
 ·by_cases h2:x<0
  ·refine⟨t,by simp (disch:=omega) only [EV,h1,h2],.inr ⟨.inr rfl,h1,fun u hu hn=>?_⟩⟩
   rcases h with⟨_,h⟩|⟨_,h,_⟩
   ·rcases hu with hu|rfl
    ·exact absurd hn (h u hu)
    ·exact xby _
   ·omega
  ·rcases h with⟨h,_⟩|⟨a,b,c⟩
   ·omega
   by_cases h3:t<x
   ·refine⟨t,by simp (disch:=omega) only [EV,h1,h2,h3],.inr ⟨.inr rfl,h1,fun u hu hn=>?_⟩⟩
    rcases hu with hu|rfl
    ·have:=c u hu hn;omega
    ·exact xby _
   ·refine⟨x,by simp (disch:=omega) only [EV,h1,h2,h3],.inr ⟨.inl a,b,fun u hu hn=>?_⟩⟩
    rcases hu with hu|rfl
    ·exact c u hu hn
    ·omega
 ·refine⟨x,by simp (disch:=omega) only [EV,h1],?_⟩
  rcases h with⟨a,b⟩|⟨a,b,c⟩
  ·exact .inl ⟨a,fun u hu=>by
    rcases hu with hu|rfl
    ·exact b u hu
    ·exact h1⟩
  ·exact .inr ⟨.inl a,b,fun u hu hn=>by
    rcases hu with hu|rfl
    ·exact c u hu hn
    ·exact absurd hn h1⟩
def gCa(o:List Int)(ds:List (List Int))(p tm w:List Int)(now:Int)(a:Nat)(t:Int):Prop:=
 (∃i,i<ds.length∧w.getD i 0<0∧t=gln ds i a)∨(tm.getD a 0<0∧0<gmany ds w now a∧t=now+(gcs o a-gcl ds p a+(gmany ds w now a:Int) -1) / (gmany ds w now a:Int))
theorem grow_n1(hf:Fld o ds)(h0:0≤now∧now≤498960){v cl q t:List Int}(hv:v.length=ds.length){a:Nat}(ha:a<o.length){C:Int→Prop}{x:Int}(hx:NXT now C x)(m:Int):
  ∃y,wjl (m,((a:Int),((o.length:Int),((a:Int),(m,(o,(ds,(now,(cl,(q,(t,v))))))))))) ((0:Int),((0:Int),x))=some ((gmany ds v now a:Int),y)∧NXT now (fun u=>C u∨∃i,i<ds.length∧v.getD i 0<0∧u=gln ds i a) y∨m≠(ds.length:Int):=by
 by_cases hm:m=(ds.length:Int)
 ·subst hm
  obtain⟨r,k1,k2⟩:=iter_inv (f:=fun z=>(waf ((ds.length:Int),((a:Int),((o.length:Int),((a:Int),((ds.length:Int),(o,(ds,(now,(cl,(q,(t,v))))))))))) z).ev) (n:=ds.length) (fun i (c:Int×Int)=>(c.1,((i:Int),c.2))) (fun i c=>c.1=(gcnt ds v now a i:Int)∧NXT now (fun u=>C u∨∃j,j<i∧v.getD j 0<0∧u=gln ds j a) c.2)
   (fun r=>r.1=(gmany ds v now a:Int)∧NXT now (fun u=>C u∨∃j,j<ds.length∧v.getD j 0<0∧u=gln ds j a) r.2) (s0:=((0:Int),x))
   ⟨rfl,hx.eqv fun u=>by simp⟩
   (fun i c hi ⟨c1,c2⟩=>by
    left
    have aa:i<v.length:=by omega
    have ad:=cntN_max (fun j=>v.getD j 0<0∧gln ds j a≤now) i
    have ae:=hf.clients
    have e0:gcnt ds v now a i=cntN (fun j=>v.getD j 0<0∧gln ds j a≤now) i:=rfl
    by_cases h1:0≤v.getD i 0
    ·refine⟨c,?_,?_,c2.eqv fun u=>?_⟩
     ·simp (disch:=omega) only [EV,waf,hi,aa,h1]
      rfl
     ·rw [c1]
      unfold gcnt
      rw [cntN,if_neg (by omega)]
      rfl
     ·constructor
      ·rintro(h|⟨j,h2,h3⟩)
       ·exact .inl h
       ·exact .inr ⟨j,by omega,h3⟩
      ·rintro(h|⟨j,h2,h3,h4⟩)
       ·exact .inl h
       ·by_cases e:j=i
        ·subst e;omega
        ·exact .inr ⟨j,by omega,h3,h4⟩
    ·obtain⟨y,e2,hy⟩:=grow2_eq h0.1 c2 (gln ds i a)
     have e1:=grow1_eq hf hi ha
     have ab:NXT now (fun u=>C u∨∃j,j<i+1∧v.getD j 0<0∧u=gln ds j a) y:=hy.eqv fun u=>by
      constructor
      ·rintro((h|⟨j,h2,h3⟩)|h)
       ·exact .inl h
       ·exact .inr ⟨j,by omega,h3⟩
       ·exact .inr ⟨i,by omega,by omega,h⟩
      ·rintro(h|⟨j,h2,h3,h4⟩)
       ·exact .inl (.inl h)
       ·by_cases e:j=i
        ·subst e;exact .inr h4
        ·exact .inl (.inr ⟨j,by omega,h3,h4⟩)
     by_cases h2:gln ds i a≤now
     ·refine⟨(c.1+1,y),?_,?_,ab⟩
      ·have hb:c.1≤7:=by omega
       have hb0:0≤c.1:=by omega
       simp (disch:=omega) only [EV,waf,hi,aa,h1,e1,e2,h2]
       rfl
      ·simp only
       rw [c1]
       unfold gcnt
       rw [cntN,if_pos ⟨by omega,h2⟩]
       rfl
     ·refine⟨(c.1,y),?_,?_,ab⟩
      ·simp (disch:=omega) only [EV,waf,hi,aa,h1,e1,e2,h2]
       rfl
      ·simp only
       rw [c1]
       unfold gcnt
       rw [cntN,if_neg (fun q=>h2 q.2)]
       rfl)
   (fun c ⟨c1,c2⟩=>⟨c,by simp (disch:=omega) only [EV,waf,xo],c1,c2⟩)
  refine⟨r.2,.inl ⟨?_,k2.2⟩⟩
  rw [←k2.1]
  exact k1
 ·exact⟨0,.inr hm⟩
theorem grow_n(hf:Fld o ds)(h0:0≤now∧now≤498960){v cl q t:List Int}(hv:v.length=ds.length)(ht:t.length=o.length)(aj:cl.length=o.length)(hc:∀s,s<o.length→cl.getD s 0=gcl ds q s)(hq:∀i,i<ds.length→q.getD i 0≤498960)(ah:∀a,a<o.length→t.getD a 0<0→gcl ds q a<gcs o a):
  ∃y,wjm ((ds.length:Int),((o.length:Int),(o,(ds,(now,(cl,(q,(t,v)))))))) ((0:Int),(-1:Int))=some y∧NXT now (fun u=>∃a,a<o.length∧gCa o ds q t v now a u) y:=by
 have hlen:=hf.len
 have ad:=hf.clients
 obtain⟨r,k1,k2⟩:=iter_inv (f:=fun z=>(wag ((ds.length:Int),((o.length:Int),(o,(ds,(now,(cl,(q,(t,v)))))))) z).ev) (n:=o.length) (fun i (c:Int)=>((i:Int),c)) (fun i c=>NXT now (fun u=>∃a,a<i∧gCa o ds q t v now a u) c)
  (fun r=>NXT now (fun u=>∃a,a<o.length∧gCa o ds q t v now a u) r) (s0:=(-1:Int))
  (.inl ⟨rfl,fun u ⟨a,h,_⟩=>absurd h (by omega)⟩)
  (fun a c ha ab=>by
   left
   obtain⟨y,e1|e1⟩:=grow_n1 hf h0 (cl:=cl) (q:=q) (t:=t) hv ha ab (ds.length:Int)
   ·obtain⟨e1,hy⟩:=e1
    have ae:a<t.length:=by omega
    have af:a<cl.length:=by omega
    have ak:gmany ds v now a≤ds.length:=cntN_max _ _
    by_cases h1:0<gmany ds v now a
    ·have aa:(0:Int)<(gmany ds v now a:Int):=by omega
     by_cases h2:t.getD a 0<0
     ·have h3:=ah a ha h2
      have h4:=gcs_in hf ha
      have h5:=(gclN_in hf hq ha ds.length (xm _)).1
      have al:0≤gcl ds q a:=h5
      have h6:=cdiv_in (x:=gcs o a-gcl ds q a) (by omega) h1
      have ai:=hf.cost a ha
      obtain⟨z,e2,hz⟩:=grow2_eq h0.1 hy (now+(gcs o a-gcl ds q a+(gmany ds v now a:Int) -1) / (gmany ds v now a:Int))
      refine⟨z,?_,hz.eqv fun u=>?_⟩
      ·have e3:o.getD a 0*2520=gcs o a:=rfl
       have e4:=hc a ha
       have e5:Int.tdiv (gcs o a-gcl ds q a+(gmany ds v now a:Int) -1) (gmany ds v now a:Int)=(gcs o a-gcl ds q a+(gmany ds v now a:Int) -1) / (gmany ds v now a:Int):=Int.tdiv_eq_ediv_of_nonneg (by omega)
       have e6:¬(gmany ds v now a:Int)=0:=by omega
       simp (disch:=omega) only [EV,wag,ha,ae,af,e1,aa,h2,e6,e3,e4,e5,e2]
       rfl
      ·constructor
       ·rintro((⟨b,hb,h⟩|h)|h)
        ·exact⟨b,by omega,h⟩
        ·exact⟨a,by omega,.inl h⟩
        ·exact⟨a,by omega,.inr ⟨h2,h1,h⟩⟩
       ·rintro⟨b,hb,h⟩
        by_cases e:b=a
        ·subst e
         rcases h with h|h
         ·exact .inl (.inr h)
         ·exact .inr h.2.2
        ·exact .inl (.inl ⟨b,by omega,h⟩)
     ·refine⟨y,?_,hy.eqv fun u=>?_⟩
      ·simp (disch:=omega) only [EV,wag,ha,ae,af,e1,aa,h2]
       rfl
      ·constructor
       ·rintro(⟨b,hb,h⟩|h)
        ·exact⟨b,by omega,h⟩
        ·exact⟨a,by omega,.inl h⟩
       ·rintro⟨b,hb,h⟩
        by_cases e:b=a
        ·subst e
         rcases h with h|h
         ·exact .inr h
         ·exact absurd h.1 h2
        ·exact .inl ⟨b,by omega,h⟩
    ·have aa:¬(0:Int)<(gmany ds v now a:Int):=by omega
     refine⟨y,?_,hy.eqv fun u=>?_⟩
     ·simp (disch:=omega) only [EV,wag,ha,e1,aa]
      rfl
     ·constructor
      ·rintro(⟨b,hb,h⟩|h)
       ·exact⟨b,by omega,h⟩
       ·exact⟨a,by omega,.inl h⟩
      ·rintro⟨b,hb,h⟩
       by_cases e:b=a
       ·subst e
        rcases h with h|h
        ·exact .inr h
        ·exact absurd h.2.1 h1
       ·exact .inl ⟨b,by omega,h⟩
   ·exact absurd rfl e1)
  (fun c ab=>⟨c,by simp (disch:=omega) only [EV,wag,xo],ab⟩)
 exact⟨r,k1,k2⟩
structure GR(o:List Int)(ds:List (List Int))(g:List Int×(List Int×List Int)):Prop where
 pl:g.1.length=ds.length
 tl:g.2.1.length=o.length
 wl:g.2.2.length=ds.length
 ti:∀a,a<o.length→ -1≤g.2.1.getD a 0
def gRound(o:List Int)(ds:List (List Int))(v:(Int)×((List (Int))×((List (Int))×(List (Int))))):List Int×(List Int×List Int):=
 let p1:=gP ds v.2.2.2 v.2.1 v.1
 let t1:=gT o ds p1 v.2.2.1 v.1
 (p1,(t1,gW o ds t1 v.2.2.2 v.1))
theorem grow_round(hf:Fld o ds)(h:GI o ds p tm w now):
  (∃t,(wcr ((ds.length:Int),(o,ds)) (now,(p,(tm,w)))).ev=some (.inl (t,gRound o ds (now,(p,(tm,w)))))∧gC o ds (gRound o ds (now,(p,(tm,w)))).1 (gRound o ds (now,(p,(tm,w)))).2.1 (gRound o ds (now,(p,(tm,w)))).2.2 now t∧
   (∀t',gC o ds (gRound o ds (now,(p,(tm,w)))).1 (gRound o ds (now,(p,(tm,w)))).2.1 (gRound o ds (now,(p,(tm,w)))).2.2 now t'→t≤t')∧∃i,i<ds.length∧(gRound o ds (now,(p,(tm,w)))).2.2.getD i 0<0)∨
  ((wcr ((ds.length:Int),(o,ds)) (now,(p,(tm,w)))).ev=some (.inr (gRound o ds (now,(p,(tm,w)))))∧∀i,i<ds.length→¬(gRound o ds (now,(p,(tm,w)))).2.2.getD i 0<0):=by
 have hp:∀i,i<ds.length→0≤(gP ds w p now).getD i 0∧(gP ds w p now).getD i 0≤498960:=fun i hi=>by
  have:=h.price hi
  have:=h.n1
  omega
 obtain⟨cl,c1,c2,c3⟩:=gclaims_eq hf (p:=gP ds w p now) (by simp [gP]) hp
 have e1:=grow_p hf h (ds.length:Int)
 have e2:=grow_t (p:=gP ds w p now) (now:=now) hf h.tl c2 c3 (ds.length:Int)
 obtain⟨g,e3,e4⟩:=grow_w hf h (t:=gT o ds (gP ds w p now) tm now) (q:=gP ds w p now) (by simp [gT]) (by simp [gP]) (fun i hi=>(h.price hi).2.2) (ds.length:Int)
 cases hg:g with
 |false=>
  right
  refine⟨?_,fun i hi aa=>by have:=e4.2 ⟨i,hi,aa⟩;rw [hg] at this;cases this⟩
  rw [hg] at e3
  unfold wcr
  simp (disch:=omega) only [EV,e1,c1,c2,e2,e3]
  rfl
 |true=>
  left
  rw [hg] at e3 e4
  obtain⟨i,hi,aa⟩:=e4.1 rfl
  obtain⟨y,e5,e6⟩:=grow_n hf ⟨h.n0,h.n1⟩ (v:=gW o ds (gT o ds (gP ds w p now) tm now) w now) (q:=gP ds w p now) (t:=gT o ds (gP ds w p now) tm now) (by simp [gW]) (by simp [gT]) c2 c3 (fun i hi=>(hp i hi).2) (fun a ha ae=>(h.tight ha ae).2)
  have ab:∀u,gC o ds (gP ds w p now) (gT o ds (gP ds w p now) tm now) (gW o ds (gT o ds (gP ds w p now) tm now) w now) now u→∃a,a<o.length∧gCa o ds (gP ds w p now) (gT o ds (gP ds w p now) tm now) (gW o ds (gT o ds (gP ds w p now) tm now) w now) now a u:=by
   rintro u (⟨i,h1,a,h2,h3,h4,h5⟩|⟨a,h1,h2⟩)
   ·exact⟨a,h2,.inl ⟨i,h1,h3,h5⟩⟩
   ·exact⟨a,h1,.inr h2⟩
  have af:∀u,now<u→(∃a,a<o.length∧gCa o ds (gP ds w p now) (gT o ds (gP ds w p now) tm now) (gW o ds (gT o ds (gP ds w p now) tm now) w now) now a u)→gC o ds (gP ds w p now) (gT o ds (gP ds w p now) tm now) (gW o ds (gT o ds (gP ds w p now) tm now) w now) now u:=by
   rintro u hu ⟨a,h2,⟨i,h1,h3,h5⟩|h1⟩
   ·exact .inl ⟨i,h1,a,h2,h3,by omega,h5⟩
   ·exact .inr ⟨a,h2,h1⟩
  rcases e6 with⟨_,e6⟩|⟨e6,e7,e8⟩
  ·obtain⟨t,ht⟩:=h.some hf hi aa
   exact absurd (h.later hf ht).1 (e6 t (ab t ht))
  ·refine⟨y,?_,af y e7 e6,fun t' ad=>e8 t' (ab t' ad) (h.later hf ad).1,i,hi,aa⟩
   unfold wcr
   simp (disch:=omega) only [EV,e1,c1,c2,e2,e3,e5]
   rfl
theorem GI.begin(hf:Fld o ds):GI o ds (List.replicate ds.length 0) (List.replicate o.length (-1)) (List.replicate ds.length (-1)) 0:=by
 have rep:∀ (n:Nat) (x:Int) (i:Nat),i<n→(List.replicate n x).getD i 0=x:=fun n x i hi=>by
  rw [xd,xeh,if_pos hi];rfl
 exact⟨by simp,by simp,by simp,by omega,by omega,fun i hi=>.inl (rep _ _ i hi),fun a ha=>.inl (rep _ _ a ha)⟩
theorem grow_total(hf:Fld o ds):∃g,F_zu o ds=some g∧GR o ds g:=by
 have hlen:=hf.len
 have ab:=hf.clients
 obtain⟨r,k1,k2⟩:=iter_rule (f:=fun v=>(wcr ((ds.length:Int),(o,ds)) v).ev) (fun v=>GI o ds v.2.1 v.2.2.1 v.2.2.2 v.1) (fun v=>gM o ds v.2.1 v.2.2.1 v.2.2.2 v.1) (GR o ds) (fun v hv=>by
  obtain⟨now,p,tm,w⟩:=v
  simp only at hv
  rcases grow_round hf hv with⟨t,e1,e2,_,_⟩|⟨e1,_⟩
  ·simp only [e1]
   exact hv.next hf e2
  ·simp only [e1]
   refine⟨by simp [gRound,gP],by simp [gRound,gT],by simp [gRound,gW],fun a ha=>?_⟩
   show-1≤(gT o ds (gP ds w p now) tm now).getD a 0
   rw [gT_getD ha]
   have:=hv.n0
   have:=hv.ti a ha
   split<;>omega) (v:=((0:Int),(List.replicate ds.length 0,(List.replicate o.length (-1),List.replicate ds.length (-1))))) (GI.begin hf)
 have aa:wqi ((ds.length:Int),(o,ds)) ((0:Int),(List.replicate ds.length 0,(List.replicate o.length (-1),List.replicate ds.length (-1))))=some r:=k1
 refine⟨r,?_,k2⟩
 have rep:∀n:Nat,n≤1000→wpa [(-1:Int)] (n:Int)=some (List.replicate n (-1)):=fun n hn=>by
  unfold wpa
  exact repeatF_one (by omega) (-1)
 have r1:=rep o.length (by omega)
 have r2:=rep ds.length (by omega)
 have e1:(0:Int)≤(ds.length:Int):=by omega
 have e2:((8:Nat):Int)*(ds.length:Int)≤281474976710656:=by omega
 unfold F_zu T_zu
 simp (disch:=omega) only [EV,e1,e2,xby,r1,r2,aa]
end
end Go.Proofs.YteiekijgoifhoaaGreatDoor
