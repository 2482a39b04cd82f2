/-
 Plain laws: the ascent of the prices.
-/
import Derived.Test.YteiekijgoifhoaaGreatDoorP8
namespace Go.Proofs.YteiekijgoifhoaaGreatDoor
theorem all_succ{P:Nat→Prop}{i:Nat}:(∀s,s<i+1→P s)↔(∀s,s<i→P s)∧P i:=by
 refine⟨fun h=>⟨fun s hs=>h s (by omega),h i (by omega)⟩,fun⟨h1,h2⟩ s hs=>?_⟩
 rcases xcz s i with h|h
 ·exact h1 s h
 ·obtain rfl:s=i:=by omega
  exact h2
def IsMin(n:Nat)(f:Nat→Int)(g:Int):Prop:=(∀s,s<n→g≤f s)∧∃s,s<n∧g=f s
def RM(i:Nat)(sel:Nat→Prop)(f:Nat→Int)(m:Int):Prop:=
 (m= -1∧∀s,s<i→¬sel s)∨(0≤m∧(∀s,s<i→sel s→m≤f s)∧∃s,s<i∧sel s∧m=f s)
theorem RM.zero(sel:Nat→Prop)(f:Nat→Int):RM 0 sel f (-1):=.inl ⟨rfl,fun s hs=>absurd hs (by omega)⟩
theorem RM.skip{i:Nat}{sel:Nat→Prop}{f:Nat→Int}{m:Int}(hn:¬sel i):RM i sel f m→RM (i+1) sel f m
 | .inl ⟨a,b⟩=>.inl ⟨a,all_succ.2 ⟨b,hn⟩⟩
 | .inr ⟨a,b,s,c,d⟩=>.inr ⟨a,all_succ.2 ⟨b,fun h=>absurd h hn⟩,s,by omega,d⟩
theorem RM.take{i:Nat}{sel:Nat→Prop}{f:Nat→Int}{m:Int}(hs:sel i)(h0:0≤f i)(hm:m<0∨f i<m):RM i sel f m→RM (i+1) sel f (f i)
 | .inl ⟨_,b⟩=>.inr ⟨h0,all_succ.2 ⟨fun s h k=>absurd k (b s h),fun _=>xby _⟩,i,by omega,hs,rfl⟩
 | .inr ⟨a,b,_⟩=>.inr ⟨h0,all_succ.2 ⟨fun s h k=>by have:=b s h k;omega,fun _=>xby _⟩,i,by omega,hs,rfl⟩
theorem RM.keep{i:Nat}{sel:Nat→Prop}{f:Nat→Int}{m:Int}(h0:¬m<0)(hm:¬f i<m):RM i sel f m→RM (i+1) sel f m
 | .inl ⟨a,_⟩=>by omega
 | .inr ⟨a,b,s,c,d⟩=>.inr ⟨a,all_succ.2 ⟨b,fun _=>by omega⟩,s,by omega,d⟩
def pos(x:Int):Int:=if 0<x then x else 0
theorem pos_in(x:Int):0≤pos x∧(0≤x→pos x=x)∧(x≤0→pos x=0):=by unfold pos;split<;>refine⟨by omega,by omega,by omega⟩
def clmN(ds:List (List Int))(p:List Int)(s:Nat):Nat→Int
 |0=>0
 |k+1=>clmN ds p s k+pos (p.getD k 0-at2 ds k s)
def clm(ds:List (List Int))(p:List Int)(s:Nat):Int:=clmN ds p s ds.length
theorem set_getD(l:List Int){i:Nat}(hi:i<l.length)(j:Nat)(v:Int):(l.set i v).getD j 0=if i=j then v else l.getD j 0:=by
 rw [xd,xd,xcj]
 by_cases h:i=j
 ·subst h;simp [hi]
 ·simp [h]
theorem clmN_set{ds:List (List Int)}{p:List Int}{c:Nat}(hc:c<p.length)(n:Int)(s:Nat):∀k,clmN ds (p.set c n) s k=clmN ds p s k+if c<k then pos (n-at2 ds c s) -pos (p.getD c 0-at2 ds c s) else 0
 |0=>by simp [clmN]
 |k+1=>by
  rw [clmN,clmN,clmN_set hc n s k,set_getD p hc]
  by_cases h1:c=k
  ·subst h1
   rw [if_pos rfl,if_neg (by omega),if_pos (by omega)]
   omega
  ·rw [if_neg h1]
   by_cases h2:c<k
   ·rw [if_pos h2,if_pos (by omega)];omega
   ·rw [if_neg h2,if_neg (by omega)];omega
theorem clmN_ge{ds:List (List Int)}{p:List Int}{s:Nat}:∀k,0≤clmN ds p s k∧∀c,c<k→pos (p.getD c 0-at2 ds c s)≤clmN ds p s k
 |0=>⟨by simp [clmN],fun c h=>absurd h (by omega)⟩
 |k+1=>by
  obtain⟨h1,h2⟩:=clmN_ge (ds:=ds) (p:=p) (s:=s) k
  have h3:=(pos_in (p.getD k 0-at2 ds k s)).1
  refine⟨by rw [clmN];omega,all_succ.2 ⟨fun c hc=>by have:=h2 c hc;rw [clmN];omega,by rw [clmN];omega⟩⟩
structure PI(o:List Int)(ds:List (List Int))(p:List Int):Prop where
 len:p.length=ds.length
 near:∀c,c<ds.length→∃s,s<o.length∧at2 ds c s≤p.getD c 0
 room:∀s,s<o.length→clm ds p s≤o.getD s 0
theorem PI.val{o:List Int}{ds:List (List Int)}{p:List Int}(h:PI o ds p)(hf:Fld o ds){c:Nat}(hc:c<ds.length):0≤p.getD c 0∧p.getD c 0≤198:=by
 obtain⟨s,h1,h2⟩:=h.near c hc
 have h3:=hf.at2 hc h1
 have h4:=h.room s h1
 have h5:=hf.cost s h1
 have h6:=(clmN_ge (ds:=ds) (p:=p) (s:=s) ds.length).2 c hc
 have h7:=(pos_in (p.getD c 0-at2 ds c s)).2.1 (by omega)
 unfold clm at h4
 omega
def cand(o:List Int)(ds:List (List Int))(p:List Int)(c s:Nat):Int:=if at2 ds c s≤p.getD c 0 then o.getD s 0-clm ds p s else at2 ds c s-p.getD c 0
theorem cand_ge{o:List Int}{ds:List (List Int)}{p:List Int}(h:PI o ds p){c s:Nat}(hs:s<o.length):0≤cand o ds p c s:=by
 have:=h.room s hs
 unfold cand
 split<;>omega
theorem PI.step{o:List Int}{ds:List (List Int)}{p:List Int}(h:PI o ds p){c:Nat}(hc:c<ds.length){g:Int}(hg:IsMin o.length (cand o ds p c) g):0≤g∧PI o ds (p.set c (p.getD c 0+g)):=by
 have aa:c<p.length:=by rw [h.len];exact hc
 have h0:0≤g:=by
  obtain⟨_,s,h1,h2⟩:=hg
  rw [h2]
  exact cand_ge h h1
 refine⟨h0,by rw [xar];exact h.len,fun c' ab=>?_,fun s hs=>?_⟩
 ·obtain⟨s,h1,h2⟩:=h.near c' ab
  refine⟨s,h1,?_⟩
  rw [set_getD p aa]
  split
  next he=>subst he;omega
  next=>exact h2
 ·have h1:=hg.1 s hs
  have h2:=h.room s hs
  unfold clm at h2⊢
  rw [clmN_set aa,if_pos hc]
  have h3:=pos_in (p.getD c 0-at2 ds c s)
  have h4:=pos_in (p.getD c 0+g-at2 ds c s)
  unfold cand clm at h1
  split at h1
  ·have:=h3.2.1 (by omega)
   have:=h4.2.1 (by omega)
   omega
  ·have:=h3.2.2 (by omega)
   have:=h4.2.2 (by omega)
   omega
end Go.Proofs.YteiekijgoifhoaaGreatDoor
