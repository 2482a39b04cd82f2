/-
 Plain laws: the growth set as the program finds it.
-/
import Derived.Test.YteiekijgoifhoaaGreatDoorP81
import Derived.Test.YteiekijgoifhoaaGreatDoorP53
import Derived.Test.YteiekijgoifhoaaGreatDoorP46
namespace Go.Proofs.YteiekijgoifhoaaGreatDoor
def confB(ds:List (List Int))(p:List Int)(a b:Nat):Bool:= !(List.range ds.length).all fun i=> !(decide (gln ds i a<p.getD i 0)&&decide (gln ds i b<p.getD i 0))
section
variable {o:List Int} {ds:List (List Int)}
theorem conflict_eq(hf:Fld o ds){p:List Int}(hp:p.length=ds.length){a b:Nat}(ha:a<o.length)(hb:b<o.length)(t w:List Int):F_zt o ds p t w (a:Int) (b:Int)=some (confB ds p a b):=by
 have ae:=hf.clients
 have hlen:=hf.len
 have key:=iter_allR (f:=fun v=>(wcu ((a:Int),((b:Int),(ds,((ds.length:Int),(p,(t,w)))))) v).ev) (n:=ds.length) (fun i=>(i:Int)) (fun i=> !(decide (gln ds i a<p.getD i 0)&&decide (gln ds i b<p.getD i 0))) (.inl ():Unit⊕Unit) (.inr ())
  (fun i hi _=>by
   have hr:=hf.rowLen i hi
   have h1:=hf.at2 hi ha
   have h2:=hf.at2 hi hb
   have aa:i<p.length:=by omega
   have ab:a<(ds.getD i []).length:=by omega
   have ad:b<(ds.getD i []).length:=by omega
   have e1:(ds.getD i []).getD a 0=at2 ds i a:=rfl
   have e2:(ds.getD i []).getD b 0=at2 ds i b:=rfl
   have e3:at2 ds i a*2520=gln ds i a:=rfl
   have e4:at2 ds i b*2520=gln ds i b:=rfl
   by_cases c1:gln ds i a<p.getD i 0
   ·by_cases c2:gln ds i b<p.getD i 0
    ·simp (disch:=omega) only [EV,wcu,hi,aa,ab,ad,e1,e2,e3,e4,c1,c2]
    ·simp (disch:=omega) only [EV,wcu,hi,aa,ab,ad,e1,e2,e3,e4,c1,c2]
     rfl
   ·simp (disch:=omega) only [EV,wcu,hi,aa,ab,ad,e1,e2,e3,e4,c1]
    rfl)
  (by simp (disch:=omega) only [EV,wcu,xo])
 have k1:wqj ((a:Int),((b:Int),(ds,((ds.length:Int),(p,(t,w)))))) (0:Int)=some (bif (List.range ds.length).all fun i=> !(decide (gln ds i a<p.getD i 0)&&decide (gln ds i b<p.getD i 0)) then .inl () else .inr ()):=key
 unfold F_zt T_zt confB
 cases h:(List.range ds.length).all fun i=> !(decide (gln ds i a<p.getD i 0)&&decide (gln ds i b<p.getD i 0)) with
 |false=>
  rw [h] at k1
  simp (disch:=omega) only [EV,k1]
 |true=>
  rw [h] at k1
  simp (disch:=omega) only [EV,k1]
def ripeL(t:List Int):List Int:=(List.range t.length).foldl (fun acc a=>if 0≤t.getD a 0 then acc++ [(a:Int)] else acc) []
def keptL(ds:List (List Int))(p:List Int)(l:List Int):List Int:=l.foldl (fun acc a=>if acc.any (fun b=>confB ds p a.toNat b.toNat) then acc else acc++ [a]) []
def growSet(ds:List (List Int))(g:List Int×(List Int×List Int)):List Int:=sortI (keptL ds g.1 (sortK (fun x=>g.2.1.getD x.toNat 0) (ripeL g.2.1)))
theorem ripeL_in(t:List Int):∀n:Nat,(∀x∈(List.range n).foldl (fun acc a=>if 0≤t.getD a 0 then acc++ [(a:Int)] else acc) [],0≤x∧x<(n:Int))∧((List.range n).foldl (fun acc a=>if 0≤t.getD a 0 then acc++ [(a:Int)] else acc) []).Pairwise (· < ·)∧((List.range n).foldl (fun acc a=>if 0≤t.getD a 0 then acc++ [(a:Int)] else acc) []).length≤n
 |0=>⟨fun x h=>(by cases h),List.Pairwise.nil,xm _⟩
 |n+1=>by
  obtain⟨h1,h2,h3⟩:=ripeL_in t n
  rw [foldl_range_succ]
  generalize (List.range n).foldl (fun acc a=>if 0≤t.getD a 0 then acc++ [(a:Int)] else acc) []=l at h1 h2 h3⊢
  split
  ·refine⟨fun x hx=>?_,xcw.2 ⟨h2,List.pairwise_singleton _ _,fun a ha b hb=>?_⟩,by simp;omega⟩
   ·rcases xq.1 hx with hx|hx
    ·have:=h1 x hx;omega
    ·rw [xt.1 hx];omega
   ·rw [xt.1 hb]
    have:=h1 a ha
    omega
  ·exact⟨fun x hx=>by have:=h1 x hx;omega,h2,by omega⟩
theorem keptL_sub(ds:List (List Int))(p:List Int):∀l:List Int,(keptL ds p l).Sublist l:=by
 intro l
 have key:∀ (l acc pre:List Int),acc.Sublist pre→(l.foldl (fun acc a=>if acc.any (fun b=>confB ds p a.toNat b.toNat) then acc else acc++ [a]) acc).Sublist (pre++l):=by
  intro l
  induction l with
  |nil=>intro acc pre h;simpa using h
  |cons a l ih=>
   intro acc pre h
   rw [xbk,show pre++a::l=(pre++ [a])++l by simp]
   refine ih _ _ ?_
   split
   ·exact h.trans (List.sublist_append_left _ _)
   ·exact h.append (List.Sublist.refl _)
 exact key l [] [] (List.Sublist.refl _)
theorem growSet_in(hf:Fld o ds){g:List Int×(List Int×List Int)}(hg:GR o ds g):(∀x∈growSet ds g,0≤x∧x<(o.length:Int))∧(growSet ds g).length≤7:=by
 have hlen:=hf.len
 obtain⟨h1,h2,h3⟩:=ripeL_in g.2.1 g.2.1.length
 have hs:=(sortK_inv (K:=fun x=>g.2.1.getD x.toNat 0) (ripeL g.2.1)).2
 have hk:=keptL_sub ds g.1 (sortK (fun x=>g.2.1.getD x.toNat 0) (ripeL g.2.1))
 obtain⟨_,s2,s3⟩:=sortI_inv (keptL ds g.1 (sortK (fun x=>g.2.1.getD x.toNat 0) (ripeL g.2.1)))
 have aa:=hg.tl
 refine⟨fun x hx=>?_,?_⟩
 ·have:=h1 x (hs.mem_iff.1 (hk.subset ((s3 x).1 hx)))
  omega
 ·show(sortI _).length≤7
  rw [s2]
  have:=hk.length_le
  rw [hs.length_eq] at this
  have ab:(ripeL g.2.1).length≤g.2.1.length:=h3
  omega
theorem ripe_eq{t:List Int}(ht:t.length≤1000)(y:List Int)(z w:List Int):wex ((t.length:Int),(o,(ds,(t,(y,w))))) ((0:Int),z)=some ((List.range t.length).foldl (fun acc a=>if 0≤t.getD a 0 then acc++ [(a:Int)] else acc) z)∨1000<z.length:=by
 by_cases hz:z.length≤1000
 ·left
  have key:=(iter_fold (f:=fun v=>(wbf ((t.length:Int),(o,(ds,(t,(y,w))))) v).ev) (n:=t.length) (mk:=fun i (acc:List Int)=>((i:Int),acc)) (I:=fun i acc=>acc.length≤1000+i) (g:=fun acc a=>if 0≤t.getD a 0 then acc++ [(a:Int)] else acc) (fin:=fun acc=>acc) (s0:=z) (by omega)
   (fun i acc hi ha=>by
    have aa:∀x:Int,List.length [x]=1:=fun _=>rfl
    by_cases h:0≤t.getD i 0
    ·refine⟨?_,by simp only [if_pos h,xj,aa];omega⟩
     have hb:(acc.length+1)*8≤140737488355328:=by omega
     simp only [if_pos h]
     simp (disch:=omega) only [EV,wbf,hi,h,aa,hb]
     rfl
    ·refine⟨?_,by simp only [if_neg h];omega⟩
     simp only [if_neg h]
     simp (disch:=omega) only [EV,wbf,hi,h]
     rfl)
   (fun acc _=>by simp (disch:=omega) only [EV,wbf,xo])).1
  exact key
 ·right;omega
theorem keptStep_eq(hf:Fld o ds){p:List Int}(hp:p.length=ds.length)(t w:List Int){l:List Int}(hl:∀x∈l,0≤x∧x<(o.length:Int))(af:l.length≤100):
  wadz ((l.length:Int),(o,(ds,(l,(p,(t,w)))))) ((0:Int),([]:List Int))=some (keptL ds p l):=by
 have hlen:=hf.len
 exact(iter_foldl (f:=fun v=>(wft ((l.length:Int),(o,(ds,(l,(p,(t,w)))))) v).ev) l 0 (mk:=fun i (acc:List Int)=>((i:Int),acc)) (I:=fun i acc=>acc.length≤i∧∀x∈acc,0≤x∧x<(o.length:Int)) (g:=fun acc a=>if acc.any (fun b=>confB ds p a.toNat b.toNat) then acc else acc++ [a]) (fin:=fun acc=>acc) (s0:=[]) ⟨xm _,fun x h=>by cases h⟩
  (fun i acc hi ⟨h1,h2⟩=>by
   have hm:=hl _ (getD_mem (d:=0) hi)
   have aa:∀x:Int,List.length [x]=1:=fun _=>rfl
   have e1:=containsFunc_int (l:=acc) (by omega) (p:=fun ab=>Option.bind (wpk ab.1 o ds p t w (l.getD i 0)) fun ad=>some ad) (q:=fun b=>confB ds p (l.getD i 0).toNat b.toNat) (fun b hb=>by
    have ae:=h2 b hb
    have ec:=conflict_eq hf hp (a:=(l.getD i 0).toNat) (b:=b.toNat) (by omega) (by omega) t w
    rw [xfc hm.1,xfc ae.1] at ec
    show Option.bind (wpk b o ds p t w (l.getD i 0)) _=_
    unfold wpk wyl
    simp (disch:=omega) only [EV,ec])
   cases h:acc.any fun b=>confB ds p (l.getD i 0).toNat b.toNat with
   |true=>
    rw [h] at e1
    refine⟨?_,by simp only [if_true];omega,by simpa using h2⟩
    simp only [if_true]
    simp (disch:=omega) only [EV,wft,hi,e1]
    rfl
   |false=>
    rw [h] at e1
    have hb:(acc.length+1)*8≤140737488355328:=by omega
    refine⟨?_,by simp only [xaf,if_false,xj,aa];omega,fun x hx=>?_⟩
    ·simp only [xaf,if_false]
     simp (disch:=omega) only [EV,wft,hi,e1,aa,hb]
     rfl
    ·simp only [xaf,if_false] at hx
     rcases xq.1 hx with hx|hx
     ·exact h2 x hx
     ·rw [xt.1 hx];exact hm)
  (fun acc _=>by simp (disch:=omega) only [EV,wft,xo])).1
theorem im_GrowthSet_eq(hf:Fld o ds)(h0:0<ds.length)(hv:wdt o ds=some true):∃g,GR o ds g∧F_zu o ds=some g∧wdu o ds=some (true,growSet ds g):=by
 obtain⟨⟨p,t,w⟩,e1,hg⟩:=grow_total hf
 have hlen:=hf.len
 have ad:=hg.tl
 simp only at ad
 obtain⟨h1,h2,h3⟩:=ripeL_in t t.length
 rcases ripe_eq (o:=o) (ds:=ds) (t:=t) (by omega) p [] w with e2|e2
 ·have ae:wex ((t.length:Int),(o,(ds,(t,(p,w))))) ((0:Int),([]:List Int))=some (ripeL t):=e2
  have hr:∀x∈ripeL t,0≤x∧x<(o.length:Int):=fun x hx=>by have:=h1 x hx;omega
  have ai:(ripeL t).length≤t.length:=h3
  have e3:=sortStableK_eq (K:=fun x=>t.getD x.toNat 0) (M:=fun x=>0≤x∧x<(o.length:Int)) (f:=fun aa=>Option.bind (wpj aa.1 aa.2.1 p t w) fun ab=>some ab) (fun x y hx hy=>by
   obtain⟨c,k1,k2⟩:=compare_eq (t.getD x.toNat 0) (t.getD y.toNat 0)
   have af:inR x t.length=true:=inR_int hx.1 (by omega)
   have ah:inR y t.length=true:=inR_int hy.1 (by omega)
   refine⟨c,?_,k2⟩
   show Option.bind (wpj x y p t w) _=_
   unfold wpj wyj
   simp (disch:=omega) only [EV,af,ah,k1]) hr (by omega)
  have hs:=(sortK_inv (K:=fun x=>t.getD x.toNat 0) (ripeL t)).2
  have aj:=hs.length_eq
  have e4:=keptStep_eq hf (p:=p) hg.pl t w (l:=sortK (fun x=>t.getD x.toNat 0) (ripeL t)) (fun x hx=>hr x (hs.mem_iff.1 hx)) (by omega)
  have hk:=(keptL_sub ds p (sortK (fun x=>t.getD x.toNat 0) (ripeL t))).length_le
  have e5:=slicesSort_eq (l:=keptL ds p (sortK (fun x=>t.getD x.toNat 0) (ripeL t))) (by omega)
  have hd:((((ds.length:Nat):Int))==0)=false:=beq_eq_false_iff_ne.2 (by omega)
  refine⟨(p,t,w),hg,e1,?_⟩
  unfold wdu wpq growSet
  simp (disch:=omega) only [EV,hv,hd,e1,ae,e3,e4,e5]
 ·simp at e2
end
end Go.Proofs.YteiekijgoifhoaaGreatDoor
