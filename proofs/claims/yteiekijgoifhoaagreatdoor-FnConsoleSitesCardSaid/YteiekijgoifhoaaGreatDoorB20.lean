/-
 Regions whose order is drawn: an append to an array that one slot knows; the last one that touched a slot.
-/
import Derived.Test.YteiekijgoifhoaaGreatDoorB19
namespace Go.Proofs.YteiekijgoifhoaaGreatDoor
open Go.RowKit (Below)
section
variable {P:Program} {E:Env} {tt:Nat→TD} {ops:Array Oper} {p:Nat} {s0:FS} {us:List (LU×List Nat)} {an:Nat→List Nat}
 {X:Nat→Prop} {lo:Nat→Prop} {N:Par} {w0 w:World} {μ:Nat→Option MV} {g:Nat→Option Ob} {a:Act} {o:Oper}
theorem set_at{listed:Array Bool}{i:Nat}(hi:i<listed.size)(j:Nat):(listed.setIfInBounds i true)[j]? =if i=j then some true else listed[j]? :=by
 rw [Array.getElem?_setIfInBounds]
 split
 next e=>rfl
 next=>rfl
theorem ready_spec{listed:Array Bool}{i:Nat}(hs:listed.size=ops.size):i∈Region.ready .any ops listed↔∃o,ops[i]? =some o∧listed[i]? ≠some true∧∀e∈edgesOf o,listed[e]? =some true:=by
 unfold Region.ready
 simp only [xac,xaq,xg,xat]
 constructor
 ·rintro⟨hi,h1,h2⟩
  refine⟨ops[i],xaj hi,fun e=>by simp [xl,e] at h1,fun e he=>?_⟩
  rw [xaj hi] at h2
  simp only [xy,xax,xfp] at h2
  obtain⟨x,hx,rfl⟩:=xae.1 he
  obtain⟨ad,ae⟩:=xac.1 hx
  obtain⟨k,hk,aa⟩:=xbr ad
  have:=h2 k (by simpa using hk)
  simp only [Array.getElem_toList] at aa
  rw [aa] at this
  simp only [ae,xbv,xev] at this
  cases hl:listed[x.on]? with
  |none=>simp [xl,hl] at this
  |some b=>simp [xl,hl] at this;rw [this]
 ·rintro⟨o,ho,h1,h2⟩
  have hi:i<ops.size:=by
   rcases xcz i ops.size with h|h
   ·exact h
   ·rw [xck h] at ho;cases ho
  refine⟨hi,?_,?_⟩
  ·have ab:i<listed.size:=by omega
   rw [xaj ab] at h1
   simp [ab]
   simpa using h1
  ·rw [ho]
   simp only [xy,xax,xfp,xbl,xat]
   intro k hk
   cases hb:Region.binds .any o.after[k] with
   |false=>exact .inl rfl
   |true=>
    refine .inr ?_
    have:=h2 _ (xae.2 ⟨o.after[k],xac.2 ⟨by simp,hb⟩,rfl⟩)
    simp [xl,this]
def LastS(s0:FS)(us:List (LU×List Nat))(sel:Nat→Bool)(t n:Nat):Prop:=((foldS s0 us sel n).1 t=s0.1 t∧∀m z,m<n→nth us m=some z→sel m=true→t∉z.1.touch)∨(foldS s0 us sel n).1 t=.undef∨
  ∃k x,k<n∧nth us k=some x∧sel k=true∧x.1.d=some (t,(foldS s0 us sel n).1 t)∧∀m z,k<m→m<n→nth us m=some z→sel m=true→t∉z.1.touch
theorem last_slot{sel:Nat→Bool}{t:Nat}:∀n,LastS s0 us sel t n
 |0=>.inl ⟨rfl,fun m z h=>absurd h (xee m)⟩
 |n+1=>by
  have ih:=last_slot (sel:=sel) (t:=t) n
  have keep:(foldS s0 us sel (n+1)).1 t=(foldS s0 us sel n).1 t→(∀z,nth us n=some z→sel n=true→t∉z.1.touch)→LastS s0 us sel t (n+1):=fun e hz=>by
   unfold LastS at ih⊢
   rw [e]
   rcases ih with h|h|⟨k,x,h1,h2,h3,h4,h5⟩
   ·refine .inl ⟨h.1,fun m z k2 k3 k4=>?_⟩
    by_cases e':m=n
    ·subst e';exact hz z k3 k4
    ·exact h.2 m z (by omega) k3 k4
   ·exact .inr (.inl h)
   ·refine .inr (.inr ⟨k,x,by omega,h2,h3,h4,fun m z k1 k2 k3 k4=>?_⟩)
    by_cases e':m=n
    ·subst e';exact hz z k3 k4
    ·exact h5 m z k1 (by omega) k3 k4
  cases hx:nth us n with
  |none=>exact keep (by simp only [foldS,hx]) fun z hz=>by rw [hx] at hz;cases hz
  |some x=>
   cases hs:sel n with
   |false=>exact keep (by simp only [foldS,hx,hs,xaf,if_false]) fun z _ h=>by rw [hs] at h;cases h
   |true=>
    have e:(foldS s0 us sel (n+1)).1 t=slA (foldS s0 us sel n).1 x.1 t:=by simp only [foldS,hx,hs,if_true,appF]
    by_cases ht:t∈x.1.touch
    ·obtain⟨⟨d,und,objs⟩,nm⟩:=x
     unfold LU.touch at ht
     unfold slA at e
     cases d with
     |none=>simp at ht
     |some q=>
      simp only at ht e
      by_cases hq:q.1=t
      ·rw [if_pos hq] at e
       refine .inr (.inr ⟨n,_,Nat.lt_succ_self n,hx,hs,?_,fun m z k1 k2=>by omega⟩)
       rw [e,←hq]
      ·rw [if_neg hq] at e
       cases und with
       |none=>simp only [xt] at ht;exact absurd ht.symm hq
       |some b=>
        simp only [xam,xeu,or_false] at ht e
        rcases ht with ht|ht
        ·exact absurd ht.symm hq
        ·rw [if_pos ht.symm] at e
         exact .inr (.inl e)
    ·exact keep (by rw [e,slA_out ht]) fun z hz _=>by rw [hx] at hz;cases hz;exact ht
def LastO(s0:FS)(us:List (LU×List Nat))(sel:Nat→Bool)(q n:Nat):Prop:=(foldS s0 us sel n).2 q=s0.2 q∨∃k x y,nth us k=some x∧sel k=true∧(q,y)∈x.1.objs∧(foldS s0 us sel n).2 q=some y
theorem last_obj[Tabs]{sel:Nat→Bool}{q:Nat}:∀n,LastO s0 us sel q n
 |0=>.inl rfl
 |n+1=>by
  have ih:=last_obj (sel:=sel) (q:=q) n
  have keep:(foldS s0 us sel (n+1)).2 q=(foldS s0 us sel n).2 q→LastO s0 us sel q (n+1):=fun e=>by unfold LastO at ih⊢;rw [e];exact ih
  cases hx:nth us n with
  |none=>exact keep (by simp only [foldS,hx])
  |some x=>
   cases hs:sel n with
   |false=>exact keep (by simp only [foldS,hx,hs,xaf,if_false])
   |true=>
    have e:(foldS s0 us sel (n+1)).2 q=gA (foldS s0 us sel n).2 x.1 q:=by simp only [foldS,hx,hs,if_true,appF]
    unfold gA at e
    cases hl:look x.1.objs q with
    |none=>rw [hl] at e;exact keep e
    |some y=>rw [hl] at e;exact .inr ⟨n,x,y,hx,hs,look_mem hl,e⟩
theorem cl2_rel[Tabs]{w':World}{o:Nat}{mv':MV}{v:AV}{x:Value}(hc:cl2 o v=true)(hm:Mem P X lo g μ w)(h:RelV P w lo μ (SS X μ) v x)
  (hd:∀b,b<w.heap.size→SS X μ b→SS X (again μ o mv') b∧w'.heap[b]? =w.heap[b]?) (hk:Kept lo w w'):RelV P w' lo (again μ o mv') (SS X (again μ o mv')) v x:=by
 have main:frz2 o .undef v=v→RelV P w' lo (again μ o mv') (SS X (again μ o mv')) v x:=fun e=>by
  have:=frz2_rel (d:=.undef) (μ':=again μ o mv') hm.hlo (fun p mv aa hp=>again_ne aa hp) (fun _ _=>.undef) (fun _ _ h=>h) h
  rw [e] at this
  exact this.step (fun _ _ h=>h) hm.hlo hd hk.block
 cases v with
 |skip=>cases h;exact .skip
 |tup vs=>
  simp only [cl2,xp] at hc
  exact main (by simp only [frz2];rw [map_id_of fun c h=>cl1_frz (hc c h)])
 |_=>exact main (by simp only [cl2] at hc;simpa only [frz2] using cl1_frz hc)
theorem alu_append_ok[Tabs](hT:TabOK P tt)(hm:Mem P X lo g μ w){f:Operand→AV}(hf:∀x,RelV P w lo μ (SS X μ) (f x) (a.eval x))(aa:isAppend o=true){u:LU}(h:(alu E tt g f o).ev=some u):
  (∃d b i x,o.dst=some d∧u=⟨some (d,.arr i),some b,[(i,x)]⟩∧QOK P o a w (fun v w'=>∃mv',NxA P X lo μ w i x w' mv'∧RelV P w' lo (again μ i mv') (SS X (again μ i mv')) (.arr i) v))∨
  (u.und=none∧o.dst=u.d.map (·.1)∧(u.objs.map (·.1)).Nodup∧QOK P o a w (fun x w'=>∃μ',NxU P X lo g μ w u.objs [] w' μ'∧∀p,u.d=some p→RelV P w' lo μ' (SS X μ') p.2 x)):=by
 unfold alu at h
 split at h
 ·rename_i ho _;unfold isAppend at aa;rw [ho] at aa;cases aa
 ·rename_i as ts d ho hd
  split at h
  next b y ty al has ai=>
   split at h
   next aj=>
    subst aj
    have e1:as= #[.tmp b,y]:=by rw [←xav (xs:=as),has]
    have e2:ts= #[ty,ty]:=by rw [←xav (xs:=ts),ai]
    split at h
    next p i ad=>
     have ab:=hf (.tmp b)
     rw [ad] at ab
     obtain⟨k1,k2,k3,_,v',w',μ',k4,k5,k6⟩:=aappendR_ok (rt:=o.type) hT hm h ab (hf y)
     refine .inr ⟨k1,by rw [hd];exact k2,k3,fun K Q hK=>?_⟩
     unfold Oper.wp execOp
     simp only [ho,e1,e2,resolve,invoke,builtin,Sem.run_bind,Sem.run_pure,Result.andThen_ok,xdp,xbm,xel,k4]
     exact hK _ w' ⟨μ',k5,k6⟩
    refine .inl ?_
    unfold aappendL at h
    split at h
    ·rename_i e t ao he
     split at h
     next src ah=>
      split at h
      ·rename_i i ad
       split at h
       next e' t' l hg=>
        split at h
        next l' ae=>
         obtain⟨et,af⟩:=Ty.cast_spec ae
         cases et
         have af:l'=l:=af
         subst af
         split at h
         next ak=>
          obtain⟨rfl,hb0⟩:=ak
          obtain⟨hle,h⟩:=ev_g h
          simp only [decide_eq_true_eq] at hle
          simp only [Tr.ev_l,xc] at h
          subst h
          have ab:=hf (.tmp b)
          rw [ad] at ab
          obtain⟨v',w',mv',h1,h2,h3⟩:=append_arr (rt:=o.type) hT hm he hg hb0 hle ah ab (hf y)
          refine⟨d,b,i,_,hd,rfl,fun K Q hK=>?_⟩
          unfold Oper.wp execOp
          simp only [ho,e1,e2,resolve,invoke,builtin,Sem.run_bind,Sem.run_pure,Result.andThen_ok,xdp,xbm,xel,h1]
          exact hK _ w' ⟨mv',h2,h3⟩
         next=>cases h
        next=>cases h
       next=>cases h
      ·cases h
     next=>cases h
    ·cases h
   next=>cases h
  next=>cases h
 ·rename_i ho _;unfold isAppend at aa;rw [ho] at aa;cases aa
 ·rename_i d hd _ _
  unfold isAppend at aa
  split at aa
  ·rename_i ho
   unfold aq at h
   rw [ho,hd] at h
   simp only [Tr.ev_bind,Tr.ev_f,Option.bind_none] at h
   cases h
  ·cases aa
 ·cases h
theorem RelF.forget[Tabs]{sl:Nat→AV}{G:Nat→Option Ob}{p:Nat×AV}{b:Nat}{os:List (Nat×Ob)}(h:RelF P X lo N w0 (slA sl ⟨some p,none,os⟩) G a w μ):RelF P X lo N w0 (slA sl ⟨some p,some b,os⟩) G a w μ:=by
 refine⟨h.mem,fun i=>?_,h.bel,h.df,h.sz⟩
 have:=h.fr i
 simp only [slA] at this⊢
 by_cases e:p.1=i
 ·rw [if_pos e] at this⊢;exact this
 ·rw [if_neg e] at this⊢
  by_cases e':b=i
  ·rw [if_pos e'];exact .undef
  ·rw [if_neg e'];exact this
theorem RelF.app[Tabs]{sl:Nat→AV}(h:RelF P X lo N w0 sl g a w μ){d b i:Nat}{x:Ob}{w':World}{mv':MV}{v:Value}(ab:N.has d)(hn:NxA P X lo μ w i x w' mv')(hv:RelV P w' lo (again μ i mv') (SS X (again μ i mv')) (.arr i) v)
  (ae:∀t,t≠b→cl2 i (sl t)=true) (af:∀q y,q≠i→g q=some y→clOb i y=true):RelF P X lo N w0 (slA sl ⟨some (d,.arr i),some b,[(i,x)]⟩) (gA g ⟨some (d,.arr i),some b,[(i,x)]⟩) (a.put (some d) v) w' (again μ i mv'):=by
 have ad:=hn.kept.block
 refine⟨⟨h.mem.hX,fun b hb=>xan (h.mem.hlo b hb) hn.kept.size,fun p mv hp=>?_,hn.dis h.mem,h.mem.tab.step hn.kept.block⟩,fun t=>?_,h.bel.trans hn.kept,by simpa [Act.put] using h.df,h.sz.put ab⟩
 ·rcases again_inv hp with⟨rfl,rfl⟩|⟨aa,hp⟩
  ·exact⟨x,by simp [gA,look],hn.ob⟩
  ·obtain⟨y,hy,ah⟩:=h.mem.ob p mv hp
   refine⟨y,by simp [gA,look,beq_ne (xcc aa),hy],?_⟩
   have:=(frzOb_rel (d:=.undef) (μ':=again μ i mv') h.mem.hlo (fun p mv aa hp=>again_ne aa hp) (fun _ _=>.undef) (fun _ _ h=>h) ah)
   rw [clOb_frz (af p y aa hy)] at this
   exact this.step h.mem.hlo (fun _ _ h=>h) hn.data ad (hn.other h.mem hp aa)
 ·rw [tmps_put (by rw [h.sz.n];exact ab.2)]
  simp only [slA]
  by_cases e:d=t
  ·rw [if_pos e,if_pos e];exact hv
  ·rw [if_neg e,if_neg e]
   by_cases e':b=t
   ·rw [if_pos e'];exact .undef
   ·rw [if_neg e']
    exact cl2_rel (ae t (xcc e')) h.mem (h.fr t) hn.data hn.kept
end
end Go.Proofs.YteiekijgoifhoaaGreatDoor
