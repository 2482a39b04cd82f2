/-
 Arrays of arrays whose rows are owned: rows taken out, put in, appended.
-/
import Derived.Test.YteiekijgoifhoaaGreatDoorB15
namespace Go.Proofs.YteiekijgoifhoaaGreatDoor
open Go.RowKit (Below)
section
variable {P:Program} {tt:Nat→TD} {w:World} {lo:Nat→Prop} {N:Par} {μ:Nat→Option MV} {S:Nat→Prop} {X:Nat→Prop} {g:Nat→Option Ob} {a:Act} {E:Env} {w0:World}
def takenM(μ:Nat→Option MV)(p d:Nat)(x:Value)(q:Nat):Option MV:=
 if q=d then some ⟨x,(rootV x).toList,[]⟩ else if q=p then(μ p).map fun mv=>⟨mv.v,mv.rs.filter fun b=>decide (rootV x≠some b),mv.hs⟩ else μ q
theorem taken_inv{p d q:Nat}{x:Value}{mv:MV}(h:takenM μ p d x q=some mv):(q=d∧mv=⟨x,(rootV x).toList,[]⟩)∨(q≠d∧q=p∧∃mv0,μ p=some mv0∧mv=⟨mv0.v,mv0.rs.filter fun b=>decide (rootV x≠some b),mv0.hs⟩)∨(q≠d∧q≠p∧μ q=some mv):=by
 unfold takenM at h
 split at h
 ·cases h;exact .inl ⟨by assumption,rfl⟩
 ·split at h
  ·cases ho:μ p with
   |none=>rw [ho] at h;cases h
   |some mv0=>
    rw [ho] at h
    simp only [xy,xc] at h
    exact .inr (.inl ⟨by assumption,by assumption,mv0,rfl,h.symm⟩)
  ·exact .inr (.inr ⟨by assumption,by assumption,h⟩)
theorem Rel.takeRow[Tabs]{s:St}(h:Rel P X lo N w0 s a w μ){p d i e e2:Nat}{t:Ty}{l:List (List t.I)}(av:s.g p=some (.rows e e2 t l none))(aw:s.g d=none)(ay:d≠p){mv:MV}(ah:μ p=some mv)(hi:i<l.length):
  ∃x,mv.hs[i]? =some x∧Rel P X lo N w0 {fr:=s.fr,ob:=(d,.arr e2 t (l.getD i []))::(p,.rows e e2 t l (some (i,some d)))::s.ob} a w (takenM μ p d x)∧RelV P w lo (takenM μ p d x) (SS X (takenM μ p d x)) (.arr d) x:=by
 obtain⟨y,hy,ai⟩:=h.mem.ob p mv ah
 rw [av] at hy
 cases hy
 obtain⟨hr,_⟩:=ai
 have az:μ d=none:=by
  cases hm:μ d with
  |none=>rfl
  |some mv'=>obtain⟨y,hy,_⟩:=h.mem.ob d mv' hm;rw [aw] at hy;cases hy
 have aa:∀j,inRow none j:=fun j i k hk=>by cases hk
 have hlen:=hr.len
 obtain⟨x,hx⟩:∃x,mv.hs[i]? =some x:=⟨mv.hs[i]'(by omega),by simp⟩
 have hl:l[i]? =some (l.getD i []):=by simp [xd,hi]
 obtain⟨k1,xs,k2,k3⟩:=hr.row i x _ (aa i) hx hl
 obtain⟨a0,n0,c0,ba⟩:=hr.slc x (xn hx)
 have hμ:∀q mv,μ q=some mv→∃rs hs,takenM μ p d x q=some ⟨mv.v,rs,hs⟩∧Ext mv.hs hs:=fun q mv' hq=>by
  unfold takenM
  rw [if_neg (fun e=>by rw [e,az] at hq;cases hq)]
  split
  next e=>subst e;rw [hq];exact⟨_,_,rfl,Ext.refl _⟩
  next=>exact⟨mv'.rs,mv'.hs,hq,Ext.refl _⟩
 have aj:∀ {q:Nat} {mv':MV} {b:Nat},takenM μ p d x q=some mv'→b∈mv'.rs→∃q0 mv0,μ q0=some mv0∧b∈mv0.rs∧((q=d∧q0=p∧rootV x=some b)∨(q≠d∧q0=q∧(q=p→rootV x≠some b))):=fun{q mv' b} hq hb=>by
  rcases taken_inv hq with⟨rfl,rfl⟩|⟨ab,rfl,mv0,h0,rfl⟩|⟨ab,ad,h0⟩
  ·have hb:rootV x=some b:=by simpa using hb
   exact⟨p,mv,ah,(k1 b hb).1,.inl ⟨rfl,rfl,hb⟩⟩
  ·simp only [xac,decide_eq_true_eq] at hb
   exact⟨_,mv0,h0,hb.1,.inr ⟨ab,rfl,fun _=>hb.2⟩⟩
  ·exact⟨q,mv',h0,hb,.inr ⟨ab,rfl,fun e=>absurd e ad⟩⟩
 have hS:∀b,b<w.heap.size→SS X μ b→SS X (takenM μ p d x) b:=fun b _ hs=>⟨hs.1,fun q mv' hq hb=>by
  obtain⟨q0,mv0,h1,h2,_⟩:=aj hq hb
  exact hs.2 q0 mv0 h1 h2⟩
 have ae:takenM μ p d x d=some ⟨x,(rootV x).toList,[]⟩:=by unfold takenM;rw [if_pos rfl]
 refine⟨x,hx,⟨⟨h.mem.hX,h.mem.hlo,fun q mv' hq=>?_,fun q q' bd be b h1 h2 h3 h4=>?_,h.mem.tab⟩,fun j=>?_,h.bel,h.df,h.sz⟩,?_⟩
 ·rcases taken_inv hq with⟨rfl,rfl⟩|⟨ab,rfl,mv0,h0,rfl⟩|⟨ab,ad,h0⟩
  ·refine⟨.arr e2 t (l.getD i []),by simp [St.g,look],⟨rfl,rfl⟩,fun b hb=>(hr.low b (k1 b hb).1).1,xs,k2,k3.step fun b hb hs=>⟨hS b hb hs,rfl⟩⟩
  ·rw [ah] at h0
   cases h0
   refine⟨.rows e e2 t l (some (i,some d)),by simp [St.g,look,beq_ne ay],?_,fun i' d' bb=>?_⟩
   ·have ao:∀j,inRow (some (i,some d)) j→j≠i:=fun j hj=>hj i (some d) rfl
    refine⟨hr.own,fun b hb=>?_,fun b hb=>hr.low b ((xac.1 hb).1),hr.slc,fun j y r hj hy bc=>?_,fun j k y z b hj hk=>hr.apart j k y z b (aa j) (aa k)⟩
    ·simp only [xac,decide_eq_true_eq]
     exact⟨hr.top b hb,fun ak=>(k1 b ak).2 hb⟩
    ·obtain⟨m1,ys,m2,m3⟩:=hr.row j y r (aa j) hy bc
     refine⟨fun b hb=>⟨?_,(m1 b hb).2⟩,ys,m2,m3.step fun b hb hs=>⟨hS b hb hs,rfl⟩⟩
     simp only [xac,decide_eq_true_eq]
     exact⟨(m1 b hb).1,fun ak=>ao j hj (hr.apart j i y x b (aa j) (aa i) hy hx hb ak)⟩
   ·cases bb
    exact⟨x,_,_,hx,ae⟩
  ·obtain⟨y,hy,ai⟩:=h.mem.ob q mv' h0
   refine⟨y,?_,ai.stepH h.mem.hlo hμ (fun b hb hs=>⟨hS b hb hs,rfl⟩) (fun _ _=>rfl) fun _ _=>rfl⟩
   simp only [St.g,look,beq_ne (xcc ab),beq_ne (xcc ad)]
   exact hy
 ·obtain⟨q0,mv0,a1,a2,a3⟩:=aj h1 h3
  obtain⟨q1,au,b1,b2,b3⟩:=aj h2 h4
  have al:=h.mem.dis q0 q1 mv0 au b a1 b1 a2 b2
  rcases a3 with⟨e1,af,e3⟩|⟨e1,af,e3⟩<;>rcases b3 with⟨f1,f2,f3⟩|⟨f1,f2,f3⟩
  ·rw [e1,f1]
  ·subst f2
   exact absurd e3 (f3 (al.symm.trans af))
  ·subst af
   exact absurd f3 (e3 (al.trans f2))
  ·rw [←af,←f2,al]
 ·exact(h.fr j).stepH hμ h.mem.hlo (fun b hb hs=>⟨hS b hb hs,rfl⟩) fun _ _=>rfl
 ·subst ba
  exact .arr ae
theorem Rel.take[Tabs]{s:St}(h:Rel P X lo N w0 s a w μ)(k d:Nat):∃μ',Rel P X lo N w0 (s.take k d) a w μ':=by
 unfold St.take
 split
 next p i hk=>
  split
  next e e2 t l aa ab=>
   split
   next ad=>
    have hv:=h.fr k
    rw [hk] at hv
    generalize hy:a.tmps.getD k undef=y at hv
    cases hv with
    | @row _ _ _ v0 rs ae a0 m0 c0 hμ hx=>
     obtain⟨hi,_⟩:=h.mem.rowAt hμ hx aa
     obtain⟨x,h1,h2,h3⟩:=h.takeRow aa ab ad hμ hi
     rw [hx] at h1
     cases h1
     exact⟨_,h2.know (by rw [hy];exact h3)⟩
   next=>exact⟨μ,h⟩
  next=>exact⟨μ,h⟩
 next=>exact⟨μ,h⟩
theorem look_forget{k i:Nat}(h:i≠k):∀l:List (Nat×AV),look (l.filter fun p=> !(Nat.beq p.1 k)) i=look l i
 | []=>rfl
 |(j,v)::r=>by
  have ih:=look_forget h r
  cases hj:Nat.beq j k with
  |true=>
   have:j=k:=xe hj
   have aa:Nat.beq j i=false:=by
    cases hb:Nat.beq j i with
    |false=>rfl
    |true=>exact absurd ((xe hb).symm.trans this) h
   rw [xcf]
   simp only [hj,xbv,xaf,if_false,look,aa,ih]
  |false=>
   rw [xcf]
   simp only [hj,xfg,if_true,look,ih]
theorem St.forget_slot(s:St)(k:Nat):(s.forget k).slot=({s with fr:=(k,.undef)::s.fr}:St).slot:=funext fun i=>by
 unfold St.slot St.forget
 by_cases h:i=k
 ·subst h
  have hb:Nat.beq i i=true:=xea i
  simp only [look,hb]
 ·have hb:Nat.beq k i=false:=by
   cases hb:Nat.beq k i with
   |false=>rfl
   |true=>exact absurd (xe hb).symm h
  simp only [look,hb,look_forget h]
theorem Rel.forget[Tabs]{s:St}{μ:Nat→Option MV}(h:Rel P X lo N w0 s a w μ)(k:Nat):Rel P X lo N w0 (s.forget k) a w μ:=by
 have:=h.know (d:=k) .undef
 unfold Rel at this⊢
 rw [St.forget_slot]
 exact this
theorem Rel.ahead[Tabs]{s0:St}:∀ (l:List Nat) {s:St} {μ:Nat→Option MV},Rel P X lo N w0 s a w μ→∃μ',Rel P X lo N w0 (St.ahead s0 s l) a w μ'
 | [],s,μ,h=>⟨μ,h⟩
 |k::l,s,μ,h=>by
  simp only [St.ahead]
  split
  ·split
   ·split
    ·split
     ·split
      ·split
       ·split
        ·obtain⟨μ',h'⟩:=h.flat (k-110000000)
         exact Rel.ahead l h'
        ·exact Rel.ahead l (h.forget (k-90000000))
       ·obtain⟨μ',h'⟩:=Rel.perms (arrsOf (s0.slot (k-80000000))) h
        exact Rel.ahead l h'
      ·obtain⟨μ',h'⟩:=h.freeze (k-70000000)
       exact Rel.ahead l h'
     ·obtain⟨μ',h'⟩:=h.drop (k-5000000)
      exact Rel.ahead l h'
    ·obtain⟨μ',h'⟩:=Rel.flats (arrsOf (s0.slot (k-4000000))) h
     exact Rel.ahead l h'
   ·obtain⟨μ',h'⟩:=h.take (k-2000000) (k-1500000)
    exact Rel.ahead l h'
  ·obtain⟨μ',h'⟩:=Rel.freezes (arrsOf (s0.slot k)) h
   exact Rel.ahead l h'
def setHs(μ:Nat→Option MV)(p:Nat)(hs:List Value)(q:Nat):Option MV:=if q=p then(μ p).map fun mv=>⟨mv.v,mv.rs,hs⟩ else μ q
theorem setHs_self{p:Nat}{hs:List Value}{mv:MV}(h:μ p=some mv):setHs μ p hs p=some ⟨mv.v,mv.rs,hs⟩:=by simp [setHs,h]
theorem setHs_ne{p q:Nat}{hs:List Value}(h:q≠p):setHs μ p hs q=μ q:=by simp [setHs,h]
theorem setHs_inv{p q:Nat}{hs:List Value}{mv:MV}(h:setHs μ p hs q=some mv):∃mv0,μ q=some mv0∧mv.v=mv0.v∧mv.rs=mv0.rs∧(q≠p→mv=mv0):=by
 by_cases e:q=p
 ·subst e
  cases ho:μ q with
  |none=>simp [setHs,ho] at h
  |some mv0=>
   rw [setHs_self ho] at h
   cases h
   exact⟨mv0,rfl,rfl,rfl,fun h=>absurd rfl h⟩
 ·rw [setHs_ne e] at h
  exact⟨mv,h,rfl,rfl,fun _=>rfl⟩
theorem SS_setHs{p:Nat}{hs:List Value}{b:Nat}(h:SS X μ b):SS X (setHs μ p hs) b:=
 ⟨h.1,fun q mv hq hb=>by
  obtain⟨mv0,h1,_,h2,_⟩:=setHs_inv hq
  exact h.2 q mv0 h1 (h2▸hb)⟩
theorem NxU.wroteR[Tabs](hm:Mem P X lo g μ w){o b:Nat}{mv:MV}(ho:μ o=some mv)(hr:b∈mv.rs){hs:List Value}{cs:Array Value}{x:Ob}(ad:∃a n c,mv.v=.slice a n c)
  (hx:ObOK P (w.setRow b cs) lo (setHs μ o hs) (SS X (setHs μ o hs)) x ⟨mv.v,mv.rs,hs⟩):NxU P X lo g μ w [(o,x)] [o] (w.setRow b cs) (setHs μ o hs):=by
 have hw:∀k,k≠b→(w.setRow b cs).heap[k]? =w.heap[k]? :=fun k hk=>setRow_other w b k cs hk
 have ae:=(hm.lt ho hr).1
 have ab:∀k,k<w.heap.size→SS X μ k→SS X (setHs μ o hs) k∧(w.setRow b cs).heap[k]? =w.heap[k]? :=fun k _ hS=>⟨SS_setHs hS,hw k fun e=>by subst e;exact hS.2 o mv ho hr⟩
 have aa:∀k,lo k→(w.setRow b cs).heap[k]? =w.heap[k]? :=fun k hk=>hw k fun e=>ae (e▸hk)
 have ht:Turns μ (setHs μ o hs) [o]:=by
  refine⟨fun p mv' hp=>?_,fun p mv' hk hp=>?_⟩
  ·by_cases e:p=o
   ·subst e
    exact⟨_,_,setHs_self hp,fun h=>absurd (xt.2 rfl) h⟩
   ·exact⟨mv'.rs,mv'.hs,by rw [setHs_ne e];exact hp,fun _=>Ext.refl _⟩
  ·rw [xt.1 hk,ho] at hp
   cases hp
   exact ad
 refine⟨ht,fun p mv' h=>?_,fun p mv' k h hk=>?_,⟨rfl,rfl,rfl,by simp,aa⟩,fun k _ hk=>hw k fun e=>hk (o,x) (by simp) mv ho (e▸hr),fun g' h1 h2=>⟨hm.hX,by simpa using hm.hlo,fun p mv' hp=>?_,fun p q ak al k h3 h4 h5 h6=>?_,hm.tab.step aa⟩⟩
 ·obtain⟨mv0,k1,_⟩:=setHs_inv h
  exact .inl ⟨mv0,k1⟩
 ·obtain⟨mv0,k1,_,k2,_⟩:=setHs_inv h
  exact .inr ⟨p,mv0,k1,k2▸hk⟩
 ·by_cases e:p=o
  ·subst e
   rw [setHs_self ho] at hp
   cases hp
   exact⟨x,h1 (p,x) (by simp),hx⟩
  ·rw [setHs_ne e] at hp
   obtain⟨y,hy,af⟩:=hm.ob p mv' hp
   have ah:∀q∈ [(o,x)],q.1≠p:=fun q hq e'=>by
    simp only [xt] at hq
    subst hq
    exact e e'.symm
   refine⟨killOb [o] y,by rw [h2 p mv' hp ah,hy];rfl,ObOK.kill hm.hlo ab aa (fun k hk=>hw k fun ek=>?_) ht af⟩
   subst ek
   exact e (hm.dis p o mv' mv k hp ho hk hr)
 ·obtain⟨ai,k1,_,k2,_⟩:=setHs_inv h3
  obtain⟨aj,k3,_,k4,_⟩:=setHs_inv h4
  exact hm.dis p q ai aj k k1 k3 (k2▸h5) (k4▸h6)
theorem rowsSet_ok[Tabs](hT:TabOK P tt){s s':St}(h:Rel P X lo N w0 s a w μ){ty:Nat}{av vv:AV}{r:Tr St}(hr:rowsSet tt ty av vv s=some r)(hq:r.ev=some s'){va x:Value}(ha:RelV P w lo μ (SS X μ) av va)(hv:RelV P w lo μ (SS X μ) vv x):
  ∃w' μ',(Instr.storeAt ty va x).run P w=.ok () w'∧∀v,Rel P X lo N w0 s' (a.put none v) w' μ':=by
 unfold rowsSet at hr
 split at hr
 ·rename_i o i n z
  simp only [xc] at hr
  subst hr
  split at hq
  next e e2 t l sz hg bf=>
   split at hq
   next hz=>
    split at hq
    next y bg=>
     obtain⟨hi,hq⟩:=ev_g hq
     simp only [decide_eq_true_eq] at hi
     simp only [Tr.ev_l,xc] at hq
     subst hq
     obtain⟨bt,bh⟩:=run_agg (P:=P) (w:=w) hT bf
     have ae:=getT_rel bg hv
     have hm:=h.mem
     cases ha with
     | @relt _ _ _ _ _ v0 rs bu b m c hμ hx=>
      obtain⟨yy,ay,bj⟩:=hm.ob _ _ hμ
      rw [hg] at ay
      cases ay
      obtain⟨aa,_⟩:=bj
      have hlen:=aa.len
      simp only at hlen
      have az:i<l.length:=by have:=(xk.1 hx).1;omega
      have ah:∀j,inRow none j:=fun j i k hk=>by cases hk
      have bk:l[i]? =some (l.getD i []):=by simp [xd,az]
      obtain⟨k1,xs,ba,bl⟩:=aa.row i _ _ (ah i) hx bk
      obtain⟨ai,al⟩:=k1 b rfl
      generalize hL:l.getD i []=L at*
      rcases ba.2 with⟨e1,_⟩|⟨b',cap,cur,ev,bm,hh,bb,bn,ao,au⟩
      ·cases e1
      ·simp only [Value.slice.injEq,xc,Addr.mk.injEq,and_true] at ev
       obtain⟨rfl,rfl,rfl⟩:=ev
       have ab:x.cells.toList.length=t.size:=ae.len
       have hle:(n+1)*t.size≤L.length*t.size:=xao _ (by omega)
       have bc:L.length*t.size≤c*t.size:=xao _ bb
       rw [xaz,xdg] at hle
       have aj:=run_storeCells_at P b (n*t.size) e2 x.cells.toList 0 cur w hh (by rw [ab,ao];omega) ae.one
       simp only [xbd] at aj
       have ak:x.cells.size=t.size:=by simpa using ab
       have bo:(Instr.storeAt ty (.pointer (some ⟨b,n*z,none⟩)) x).run P w=.ok () _:=run_storeAt bh (ak.trans hz.1.symm) (by rw [hz.2];exact aj)
       have bd:=RepL.set bl hi ae
       have af:∀b',b'≠b→(w.setRow b (cur.toList.take (n*t.size)++x.cells.toList++cur.toList.drop (n*t.size+x.cells.toList.length)).toArray).heap[b']? =w.heap[b']? :=fun b' bp=>setRow_other w b b' _ bp
       have hS:∀ {l:List t.I} {cs},RepL (SS X μ) w t l cs→RepL (SS X μ) (w.setRow b (cur.toList.take (n*t.size)++x.cells.toList++cur.toList.drop (n*t.size+x.cells.toList.length)).toArray) t l cs:=fun hc=>hc.step fun b' _ be=>⟨be,af b' fun e=>by subst e;exact be.2 o _ hμ ai⟩
       have br:NxU P X lo s.g μ w [(o,.rows e e2 t (l.set i (L.set n y)) none)] [] (w.setRow b (cur.toList.take (n*t.size)++x.cells.toList++cur.toList.drop (n*t.size+x.cells.toList.length)).toArray) μ:=by
        refine NxU.wrote hm hμ ai ⟨⟨?_,aa.top,fun b' ad=>⟨(aa.low b' ad).1,by simpa using(aa.low b' ad).2⟩,aa.slc,fun j u rr hj hu hl=>?_,aa.apart⟩,fun i' d' bs=>by cases bs⟩
        ·rw [xar]
         exact ownsRow_same aa.own fun b' ad=>af b' fun e=>al (by rw [←e];exact ad)
        ·by_cases aw:j=i
         ·subst aw
          rw [hx] at hu
          cases hu
          rw [xcj,if_pos rfl,if_pos az] at hl
          cases hl
          refine⟨k1,xs.take (n*t.size)++x.cells.toList++xs.drop (n*t.size+t.size),⟨?_,.inr ⟨b,c,_,?_,bm,setRow_heap w b cur _ e2 _ hh,?_,bn,?_,?_⟩⟩,hS bd⟩
          ·have:=bd.len
           simpa using this
          ·simp
          ·simpa using bb
          ·simp only [xbp,xj,xw,xap,xbf,ak,ao]
           omega
          ·rw [←au]
           simp only [xar]
           rw [ab]
           exact take_splice _ _ _ _ _ ab hle (by simp [ao];exact bc)
         ·rw [xdh (xcc aw)] at hl
          obtain⟨m1,ys,m2,m3⟩:=aa.row j u rr (ah j) hu hl
          exact⟨m1,ys,ownsRow_same m2 fun b' ad=>af b' fun e=>aw (aa.apart j i u _ b (ah j) (ah i) hu hx (by rw [←e];exact ad) rfl),hS m3⟩
       exact⟨_,μ,bo,fun v=>h.upd (u:=⟨none,none,[(o,.rows e e2 t (l.set i (L.set n y)) none)]⟩) (by simp) rfl br (dst:=none) rfl (fun d hd=>by cases hd) (x:=v) (fun p hp=>by cases hp)⟩
    next=>cases hq
   next=>cases hq
  next=>cases hq
 ·cases hr
theorem own_rep{w w':World}{S':Nat→Prop}{e:Nat}{t:Ty}{x:Value}{r:List t.I}{ys:List Value}(ab:w.ownsRow 0 e t.size x r.length ys)(hk:∀b,rootV x=some b→Free w b→S' b∧w'.heap[b]? =w.heap[b]?)(ae:RepL S' w' t r ys):Rep S' w' (.slice t) r [x]:=by
 rcases ab.2 with⟨e1,h0⟩|⟨gb,ai,af,e1,h1,h2,h3,_⟩
 ·have:r=[]:=xi h0
  subst this
  rw [e1]
  exact Rep.nil
 ·have ah:=hk gb (by rw [e1];rfl) ⟨af,e,h2⟩
  have aa:=ownsRow_same (w':=w') ab fun k ad=>by
   rw [e1] at ad
   simp only [rootV,xc] at ad
   exact ad▸ah.2
  rw [e1] at aa⊢
  refine Rep.slice_of h3 ah.1 ae fun j u hu=>?_
  have:=aa.cells (g:=gb) rfl j u hu
  rw [Addr.add_lit] at this
  exact this
theorem Rel.deepStoreG[Tabs](hT:TabOK P tt){s:St}(h:Rel P X lo N w0 s a w μ){ty p q i e:Nat}{t:Ty}{l:List t.I}{x:t.I}{sz:Nat×Bool}(bn:s.g p=some (.deep e t l))(ba:p≠q)
  (bo:tySize tt ty=some sz) (bb:sz.1=t.size) (hi:i<l.length) {va vx:Value} (ha:RelV P w lo μ (SS X μ) (.elt p i t.size) va) {mq:MV} (ao:μ q=some mq) (bp:∀k∈mq.rs,¬lo k∧k<w.heap.size)
  {vs:List Value} (ai:vx.cells.toList=vs) (bc:∀ (S':Nat→Prop) (w':World),(∀k∈mq.rs,Free w k→S' k∧w'.heap[k]? =w.heap[k]?)→Rep S' w' t x vs):
  ∃w' μ',(Instr.storeAt ty va vx).run P w=.ok () w'∧∀v,Rel P X lo N w0 (s.swap q .undef [(p,.deep e t (l.set i x))]) (a.put none v) w' μ':=by
 obtain⟨cn,br⟩:=run_agg (P:=P) (w:=w) hT bo
 have bd:=bc (fun _=>True) w fun _ _ _=>⟨trivial,rfl⟩
 have af:vs.length=t.size:=bd.len
 have cm:=t.size_pos
 cases ha with
 | @elt _ _ _ _ b n c rs hs hμ=>
  obtain⟨y,hy,bs⟩:=h.mem.ob _ _ hμ
  rw [bn] at hy
  cases hy
  have hD:DeepOK w lo e t l ⟨.slice (some ⟨b,0,none⟩) n c,rs,hs⟩:=bs
  obtain⟨xs,ak,be⟩:=hD.rep
  have ah:b∈rs:=hD.top b rfl
  have bt:b∉mq.rs:=fun hb=>ba (h.mem.dis p q _ _ b hμ ao ah hb)
  rcases ak.2 with⟨e1,_⟩|⟨b',cap,cur,ev,hb0,bf,bg,bu,au,av⟩
  ·cases e1
  ·simp only [Value.slice.injEq,xc,Addr.mk.injEq,and_true] at ev
   obtain⟨rfl,rfl,rfl⟩:=ev
   have bw:xs.length=l.length*t.size:=ak.1
   have hle:i*t.size+t.size≤l.length*t.size:=by rw [←Nat.succ_mul];exact xao _ hi
   have bh:l.length*t.size≤c*t.size:=xao _ bg
   have al:=run_storeCells_at P b (i*t.size) e vx.cells.toList 0 cur w bf (by rw [ai,af,au];omega) (by rw [ai];exact bd.one)
   simp only [xbd] at al
   have bz:(Instr.storeAt ty (.pointer (some ⟨b,i*t.size,none⟩)) vx).run P w=.ok () _:=run_storeAt br (by rw [bb,←af,←ai];simp) al
   refine⟨_,given μ p q,bz,fun v=>?_⟩
   rw [ai,af]
   generalize aj:w.setRow b (cur.toList.take (i*t.size)++vs++cur.toList.drop (i*t.size+t.size)).toArray=w'
   have aa:∀b',b'≠b→w'.heap[b']? =w.heap[b']? :=fun b' ca=>by rw [←aj];exact setRow_other w b b' _ ca
   have ab:w'.heap.size=w.heap.size:=by rw [←aj];simp
   have bj:¬lo b:=(hD.low b ah).1
   have bk:∀o mv,o≠q→μ o=some mv→∃rs hs,given μ p q o=some ⟨mv.v,rs,hs⟩∧Ext mv.hs hs:=fun o mv ho hm=>by
    unfold given
    rw [if_neg ho]
    split
    next e=>subst e;rw [hm];exact⟨_,_,rfl,Ext.refl _⟩
    next=>exact⟨mv.rs,mv.hs,hm,Ext.refl _⟩
   have hS:∀k,k<w.heap.size→SS X μ k→SS X (given μ p q) k:=fun k _ hs=>⟨hs.1,fun o mv ho hb=>by
    obtain⟨o',mv0,k1,k2,_⟩:=given_rs ho hb
    exact hs.2 o' mv0 k1 k2⟩
   have cp:∀k,k<w.heap.size→SS X μ k→SS X (given μ p q) k∧w'.heap[k]? =w.heap[k]? :=fun k hk hs=>⟨hS k hk hs,aa k fun e=>hs.2 p _ hμ (by rw [e];exact ah)⟩
   have ad:∀k,lo k→w'.heap[k]? =w.heap[k]? :=fun k hk=>aa k fun e=>bj (e▸hk)
   have aw:Rep (fun k=>(k∈rs++mq.rs∧some b≠some k)∧Free w' k) w' t x vs:=bc _ w' fun k hk hf=>by
    have ay:k≠b:=fun e=>bt (e▸hk)
    exact⟨⟨⟨xal _ hk,fun e=>ay (xbz e).symm⟩,hf.step (aa k ay)⟩,aa k ay⟩
   have ae:given μ p q p=some ⟨.slice (some ⟨b,0,none⟩) l.length c,rs++mq.rs,hs⟩:=by
    unfold given
    rw [if_neg ba,if_pos rfl,hμ,ao]
    rfl
   have hold:RepL (fun k=>(k∈rs++mq.rs∧some b≠some k)∧Free w' k) w' t l xs:=be.step fun k _ hk=>⟨⟨⟨xag _ hk.1.1,by simpa [rootV] using hk.1.2⟩,hk.2.step (aa k fun e=>hk.1.2 (by simp [rootV,e]))⟩,aa k fun e=>hk.1.2 (by simp [rootV,e])⟩
   refine⟨⟨h.mem.hX,by rw [ab];exact h.mem.hlo,fun o mv ho=>?_,fun o o' mv mv' k h1 h2 h3 h4=>?_,h.mem.tab.step ad⟩,fun j=>?_,?_,h.df,h.sz⟩
   ·obtain⟨cb,⟨rfl,mv0,k0,rfl⟩|⟨bl,k1⟩⟩:=given_inv ho
    ·rw [hμ] at k0
     cases k0
     refine⟨.deep e t (l.set i x),by simp [St.g,St.swap,look],?_⟩
     have cc:((μ q).map (·.rs)).getD []=mq.rs:=by rw [ao];rfl
     show DeepOK w' lo e t (l.set i x) ⟨.slice (some ⟨b,0,none⟩) l.length c,rs++((μ q).map (·.rs)).getD [],hs⟩
     rw [cc]
     refine⟨hD.hs,fun k hk=>xag _ (hD.top k hk),fun k hk=>?_,xs.take (i*t.size)++vs++xs.drop (i*t.size+t.size),⟨?_,.inr ⟨b,c,_,?_,hb0,by rw [←aj];exact setRow_heap w b cur _ e _ bf,?_,bu,?_,?_⟩⟩,?_⟩
     ·rw [ab]
      rcases xq.1 hk with hk|hk
      ·exact hD.low k hk
      ·exact bp k hk
     ·simp only [xj,xw,xap,xar,bw,af]
      omega
     ·simp
     ·simpa using bg
     ·simp only [xbp,xj,xw,xap,xbf,au,af]
      omega
     ·rw [←av]
      simp only [xar]
      exact take_splice _ _ _ _ _ af hle (by simp [au];exact bh)
     ·exact RepL.set hold hi aw
    ·obtain⟨z,hz,cd⟩:=h.mem.ob o mv k1
     refine⟨frzOb q .undef z,?_,?_⟩
     ·simp only [St.g,St.swap,xdc,look,beq_ne (xcc bl),look_map]
      rw [look_filter q s.ob o cb]
      simp only [St.g] at hz
      rw [hz]
      rfl
     ·have h1:ObOK P w lo (given μ p q) (SS X (given μ p q)) (frzOb q .undef z) mv:=frzOb_relH h.mem.hlo bk (fun _ _=>.undef) hS cd
      refine h1.step h.mem.hlo (fun o mv ho=>ho) (fun k hk hs=>⟨hs,aa k fun e=>hs.2 p _ ae (by rw [e];exact xag _ ah)⟩) ad fun k hk=>aa k fun e=>bl (h.mem.dis o p mv _ k k1 hμ hk (by rw [e];exact ah))
   ·obtain⟨r,mv0,k1,k2,k3⟩:=given_rs h1 h3
    obtain⟨r',bm,cf,cg,ch⟩:=given_rs h2 h4
    have az:=h.mem.dis r r' mv0 bm k k1 cf k2 cg
    have cj:=(given_inv h1).1
    have ck:=(given_inv h2).1
    rcases k3 with rfl|⟨rfl,rfl⟩<;>rcases ch with rfl|⟨rfl,rfl⟩
    ·exact az
    ·exact absurd az cj
    ·exact absurd az.symm ck
    ·rfl
   ·simp only [St.slot,St.swap,look_map]
    have h1:=frz2_relH (d:=.undef) h.mem.hlo bk (fun _ _=>.undef) hS (h.fr j)
    simp only [St.slot] at h1
    have h2:=fun(u:AV) (hu:RelV P w lo (given μ p q) (SS X (given μ p q)) u (a.tmps.getD j undef))=>hu.step (w':=w') (fun o mv ho=>ho) h.mem.hlo (fun k hk hs=>⟨hs,aa k fun e=>hs.2 p _ ae (by rw [e];exact xag _ ah)⟩) ad
    cases hl:look s.fr j with
    |none=>exact .undef
    |some u=>rw [hl] at h1;exact h2 _ h1
   ·refine h.bel.trans ⟨?_,?_,?_,by rw [ab];exact xm _,ad⟩<;>(rw [←aj];rfl)
theorem Rel.deepStore[Tabs](hT:TabOK P tt){s:St}(h:Rel P X lo N w0 s a w μ){ty p q i e e2 e3:Nat}{t t2:Ty}{l:List t.I}{lq:List (List t2.I)}{x:t.I}{sz:Nat×Bool}(ak:s.g p=some (.deep e t l))(al:s.g q=some (.rows e2 e3 t2 lq none))(hc:Ty.cast (.slice (.slice t2)) t lq=some x)(ao:p≠q)
  (au:tySize tt ty=some sz) (af:sz.1=1) (hi:i<l.length) (av:deepT t2=false) {va vx:Value} (ha:RelV P w lo μ (SS X μ) (.elt p i 1) va) (hv:RelV P w lo μ (SS X μ) (.arr q) vx):
  ∃w' μ',(Instr.storeAt ty va vx).run P w=.ok () w'∧∀v,Rel P X lo N w0 (s.swap q .undef [(p,.deep e t (l.set i x))]) (a.put none v) w' μ':=by
 obtain⟨et,hx⟩:=Ty.cast_spec hc
 cases et
 have hx:x=lq:=hx
 have hx:=hx.symm
 subst hx
 cases hv with
 | @arr _ _ a0 n0 c0 rq aw ah=>
  obtain⟨yq,ai,aj⟩:=h.mem.ob _ _ ah
  rw [al] at ai
  cases ai
  obtain⟨aa,_⟩:=aj
  refine h.deepStoreG hT ak ao au af hi ha ah (fun k hk=>aa.low k hk) (vs:=[.slice a0 n0 c0]) rfl fun S' w' hk=>?_
  have ay:∀j,inRow none j:=fun j i k hk=>by cases hk
  have key:∀ (hs:List Value) (l:List (List t2.I)),hs.length=l.length→(∀ (j:Nat) (x:Value) (r:List t2.I),hs[j]? =some x→l[j]? =some r→Rep S' w' (.slice t2) r [x])→RepL S' w' (.slice t2) l hs:=by
   intro hs
   induction hs with
   |nil=>
    intro l hl _
    have:l=[]:=xi (by simpa using hl.symm)
    subst this
    rfl
   |cons x hs ih=>
    intro l hl ab
    cases l with
    |nil=>simp at hl
    |cons r l=>exact⟨[x],hs,rfl,ab 0 x r rfl rfl,ih l (by simpa using hl) fun j y q hy hq=>ab (j+1) y q (by simpa using hy) (by simpa using hq)⟩
  refine own_rep (t:=.slice t2) aa.own (fun b hb hf=>hk b (aa.top b hb) hf) (key aw lq aa.len fun j y r hy hl=>?_)
  obtain⟨k1,ys,ad,ae⟩:=aa.row j y r (ay j) hy hl
  exact own_rep ad (fun b hb hf=>hk b (k1 b hb).1 hf) (ae.plain av)
theorem ownAgg_mem{q:Nat}:∀ {cs:List AV},ownAgg cs=some q→.arr q∈cs
 | [],h=>by cases h
 |v::r,h=>by
  unfold ownAgg at h
  split at h
  ·cases h
  ·next e=>cases e;cases h;exact xx
  ·next e=>cases e;exact xu _ (ownAgg_mem h)
theorem Rel.deepAgg[Tabs](hT:TabOK P tt){s:St}(h:Rel P X lo N w0 s a w μ){ty p q i e e3:Nat}{t t3:Ty}{cs:List AV}{l:List t.I}{lq:List t3.I}{x:t.I}{sz:Nat×Bool}(ay:s.g p=some (.deep e t l))(ho:ownAgg cs=some q)(az:s.g q=some (.arr e3 t3 lq))
  (hx:getT t (.agg (cs.map (frzL q (.dat (.slice t3) lq))))=some x) (ba:p≠q)
  (bb:tySize tt ty=some sz) (ai:sz.1=t.size) (hi:i<l.length) (bc:deepT t3=false) (aj:cs.all (aggCell q)=true) {va vx:Value} (ha:RelV P w lo μ (SS X μ) (.elt p i t.size) va) (hv:RelV P w lo μ (SS X μ) (.agg cs) vx):
  ∃w' μ',(Instr.storeAt ty va vx).run P w=.ok () w'∧∀v,Rel P X lo N w0 (s.swap q .undef [(p,.deep e t (l.set i x))]) (a.put none v) w' μ':=by
 obtain⟨vs,hl,aa⟩:∃vs,vx.cells.toList=vs∧vs.length=cs.length∧∀j v,nth cs j=some v→RelV P w lo μ (SS X μ) v (vs.getD j undef):=by
  obtain⟨h1,h2⟩:=cellsOf_rel hv (cs:=cs) rfl
  exact⟨_,rfl,by simpa using h1,by simpa using h2⟩
 obtain⟨hlen,aa⟩:=aa
 obtain⟨j0,bd⟩:=List.mem_iff_getElem?.1 (ownAgg_mem ho)
 have ak:=aa j0 _ (by rw [nth_eq];exact bd)
 generalize bj:vs.getD j0 undef=x0 at ak
 cases ak with
 | @arr _ _ a0 n0 c0 rq bk af=>
  obtain⟨yq,al,ao⟩:=h.mem.ob _ _ af
  rw [az] at al
  cases al
  obtain⟨⟨be,ab⟩,au,xs,ad,av⟩:=ao
  simp only at be ab ad au
  refine h.deepStoreG hT ay ba bb ai hi ha af (fun k hk=>⟨au k (by rw [ab] at hk;simpa using hk),?_⟩) hl fun S' w' hk=>?_
  ·rcases ad.2 with⟨e1,h0⟩|⟨gb,bg,bh,e1,h1,h2,h3,_⟩
   ·rw [ab,e1] at hk
    simp [rootV] at hk
   ·rw [ab,e1] at hk
    simp only [rootV,Option.toList_some,xt] at hk
    subst hk
    exact(xau.1 h2).1
  ·have bf:Rep S' w' (.slice t3) lq [.slice a0 n0 c0]:=own_rep ad (fun b hb hf=>hk b (by rw [ab,hb];simp) hf) (av.plain bc)
   unfold getT at hx
   rw [show cellsOf (.agg (cs.map (frzL q (.dat (.slice t3) lq))))=some (cs.map (frzL q (.dat (.slice t3) lq))) from rfl] at hx
   refine unflat_rel (P:=P) (lo:=lo) (μ:=μ) (w:=w') hx (by rw [xaw];exact hlen) fun j v hj=>?_
   rw [nth_eq,xr,xbb] at hj
   obtain⟨u,hu,rfl⟩:=hj
   have ah:=aa j u (by rw [nth_eq];exact hu)
   have ae:=xp.1 aj u (xn hu)
   generalize vs.getD j undef=y at ah⊢
   unfold aggCell at ae
   split at ae
   next p'=>
    have e:=xe ae
    subst e
    have:frzL p' (.dat (.slice t3) lq) (.arr p')=.dat (.slice t3) lq:=by simp [frzL]
    rw [this]
    cases ah with
    | @arr _ _ a1 n1 c1 bl bm aw=>
     rw [af] at aw
     cases aw
     exact .dat rfl bf
   next t' v'=>
    cases ah with
    |dat ht hr=>exact .dat ht (hr.plain (by simpa using ae))
   next=>cases ae
theorem rowsStore_ok[Tabs](hT:TabOK P tt){s s':St}(h:Rel P X lo N w0 s a w μ){ty:Nat}{av vv:AV}{r:Tr St}(hr:rowsStore tt ty av vv s=some r)(hq:r.ev=some s'){va x:Value}(ha:RelV P w lo μ (SS X μ) av va)(hv:RelV P w lo μ (SS X μ) vv x):
  ∃w' μ',(Instr.storeAt ty va x).run P w=.ok () w'∧∀v,Rel P X lo N w0 s' (a.put none v) w' μ':=by
 unfold rowsStore at hr
 split at hr
 ·rename_i p i z q
  split at hr
  next e e2 t l hh e3 t3 lq ab ah=>
   simp only [xc] at hr
   subst hr
   split at hq
   next sz ad=>
    split at hq
    next hc=>
     obtain⟨c1,rfl,c3,rfl,c5⟩:=hc
     obtain⟨bb⟩:∃y,Ty.eq? t3 t=some y:=xbq.1 c5
     obtain⟨et⟩:=bb
     -- in both cases the place is not among the rows that bo there
     have aj:i<l.length∧(∀j,inRow (some (i,some q)) j→inRow hh j)∧s'=(((s.kill p).app ⟨none,none,[(p,.rows e e3 t l (some (i,some q)))]⟩).freeze q):=by
      split at hq
      ·obtain⟨hi,hq⟩:=ev_g hq
       simp only [decide_eq_true_eq] at hi
       simp only [Tr.ev_l,xc] at hq
       exact⟨hi,fun j _ i k hk=>(by cases hk),hq.symm⟩
      ·obtain⟨hi,au⟩:=ev_g hq
       simp only [xg,decide_eq_true_eq] at hi
       simp only [Tr.ev_l,xc] at au
       obtain⟨hi,rfl⟩:=hi
       exact⟨hi,fun j hj i' k hk=>(by cases hk;exact hj i (some q) rfl),au.symm⟩
      ·cases hq
     obtain⟨hi,ak,rfl⟩:=aj
     obtain⟨bp,bc⟩:=run_agg (P:=P) (w:=w) hT ad
     cases ha with
     | @elt _ _ _ _ b n c rs hs hμ=>
      cases hv with
      | @arr _ _ a0 n0 c0 rq bd be=>
       obtain⟨y,hy,bf⟩:=h.mem.ob _ _ hμ
       rw [ab] at hy
       cases hy
       obtain⟨hr,_⟩:=bf
       have hlen:=hr.len
       simp only at hlen hr
       rcases hr.own.2 with⟨e1,_⟩|⟨b',cap,cur,ev,hb0,aw,bg,bh,al,ao⟩
       ·cases e1
       ·simp only [Value.slice.injEq,xc,Addr.mk.injEq,and_true] at ev
        obtain⟨rfl,rfl,rfl⟩:=ev
        have ay:b∈rs:=hr.top b rfl
        have ai:=run_storeCells_at P b (i*1) e [.slice a0 n0 c0] 0 cur w aw (by simp [al];omega) (fun u hu=>by simp at hu;subst hu;rfl)
        simp only [xbd] at ai
        have bj:(Instr.storeAt ty (.pointer (some ⟨b,i*1,none⟩)) (.slice a0 n0 c0)).run P w=.ok () _:=run_storeAt bc (by rw [c1];rfl) ai
        have bk:∀b',b'∈rs→b'≠b→(w.setRow b (cur.toList.take (i*1)++ [Value.slice a0 n0 c0]++cur.toList.drop (i*1+ [Value.slice a0 n0 c0].length)).toArray).heap[b']? =w.heap[b']? :=fun b' _ ae=>setRow_other w b b' _ ae
        have bl:NxU P X lo s.g μ w [(p,.rows e e3 t l (some (i,some q)))] [p] (w.setRow b (cur.toList.take (i*1)++ [Value.slice a0 n0 c0]++cur.toList.drop (i*1+ [Value.slice a0 n0 c0].length)).toArray) (setHs μ p (hs.set i (.slice a0 n0 c0))):=by
         have bm:∀ {l:List t.I} {cs},RepL (SS X μ) w t l cs→RepL (SS X (setHs μ p (hs.set i (.slice a0 n0 c0)))) (w.setRow b (cur.toList.take (i*1)++ [Value.slice a0 n0 c0]++cur.toList.drop (i*1+ [Value.slice a0 n0 c0].length)).toArray) t l cs:=fun hc=>hc.step fun b' aa az=>⟨SS_setHs az,setRow_other w b b' _ fun e=>by subst e;exact az.2 p _ hμ ay⟩
         refine NxU.wroteR h.mem hμ ay ⟨_,_,_,rfl⟩ ⟨⟨⟨by rw [xar];exact hr.own.1,.inr ⟨b,c,_,rfl,hb0,setRow_heap w b cur _ e _ aw,bg,bh,?_,?_⟩⟩,hr.top,fun b' aa=>⟨(hr.low b' aa).1,by simpa using(hr.low b' aa).2⟩,fun u hu=>?_,fun j u rr hj hu hl=>?_,fun j k u z b' hj hk hu hz=>?_⟩,fun i' d' bn=>?_⟩
         ·simp only [xbp,xj,xw,xap,xbf,xad,xai,al]
          omega
         ·have h1:=take_splice cur.toList [Value.slice a0 n0 c0] (i*1) 1 (l.length*1) rfl (by omega) (by simp [al];omega)
          simp only [xad,xai,xbg]
          rw [h1,ao,xbw]
          rw [xei,if_pos (by omega)]
          simp
         ·rcases xca hu with hu|rfl
          ·exact hr.slc u hu
          ·exact⟨_,_,_,rfl⟩
         ·have ae:j≠i:=hj i (some q) rfl
          simp only at hu
          rw [xdh (xcc ae)] at hu
          obtain⟨m1,ys,m2,m3⟩:=hr.row j u rr (ak j hj) hu hl
          exact⟨m1,ys,ownsRow_same m2 fun b' aa=>bk b' (m1 b' aa).1 fun e=>(m1 b' aa).2 (by rw [e];rfl),bm m3⟩
         ·have ae:j≠i:=hj i (some q) rfl
          have ba:k≠i:=hk i (some q) rfl
          simp only at hu hz
          rw [xdh (xcc ae)] at hu
          rw [xdh (xcc ba)] at hz
          exact hr.apart j k u z b' (ak j hj) (ak k hk) hu hz
         ·cases bn
          exact⟨.slice a0 n0 c0,rq,bd,by simp only;rw [xcj,if_pos rfl,if_pos (by omega)],by rw [setHs_ne (xcc c3)];exact be⟩
        have h2:=h.updK (u:=⟨none,none,[(p,.rows e e3 t l (some (i,some q)))]⟩) (by simp) rfl bl (dst:=none) rfl (fun d hd=>by cases hd) (x:=.bool true) (fun p hp=>by cases hp)
        obtain⟨μ',h3⟩:=h2.freeze q
        exact⟨_,μ',bj,fun v=>h3⟩
    next=>cases hq
   next=>cases hq
  next e t l e2 e3 t2 lq ab ah=>
   simp only [xc] at hr
   subst hr
   split at hq
   next sz x ad hc=>
    split at hq
    next af=>
     obtain⟨c1,rfl,c3,c4⟩:=af
     obtain⟨hi,hq⟩:=ev_g hq
     simp only [decide_eq_true_eq] at hi
     simp only [Tr.ev_l,xc] at hq
     subst hq
     exact h.deepStore hT ab ah hc c3 ad c1 hi c4 ha hv
    next=>cases hq
   next=>cases hq
  next=>cases hr
 ·rename_i p i z cs
  split at hr
  next e t l q ab ho=>
   split at hr
   next e3 t3 lq ah=>
    simp only [xc] at hr
    subst hr
    split at hq
    next sz x ad hx=>
     split at hq
     next af=>
      obtain⟨c1,rfl,c3,c4,c5⟩:=af
      obtain⟨hi,hq⟩:=ev_g hq
      simp only [decide_eq_true_eq] at hi
      simp only [Tr.ev_l,xc] at hq
      subst hq
      exact h.deepAgg hT ab ho ah hx c3 ad c1 hi c4 c5 ha hv
     next=>cases hq
    next=>cases hq
   next=>cases hr
  next=>cases hr
 ·cases hr
def goneM(μ:Nat→Option MV)(p d:Nat)(x y:Value)(q:Nat):Option MV:=
 if q=d then some ⟨y,(rootV y).toList,[]⟩ else if q=p then(μ p).map fun mv=>⟨mv.v,mv.rs.filter fun b=>decide (rootV x≠some b),mv.hs⟩ else μ q
theorem gone_inv{p d q:Nat}{x y:Value}{mv:MV}(h:goneM μ p d x y q=some mv):(q=d∧mv=⟨y,(rootV y).toList,[]⟩)∨(q≠d∧q=p∧∃mv0,μ p=some mv0∧mv=⟨mv0.v,mv0.rs.filter fun b=>decide (rootV x≠some b),mv0.hs⟩)∨(q≠d∧q≠p∧μ q=some mv):=by
 unfold goneM at h
 split at h
 ·cases h;exact .inl ⟨by assumption,rfl⟩
 ·split at h
  ·cases ho:μ p with
   |none=>rw [ho] at h;cases h
   |some mv0=>
    rw [ho] at h
    simp only [xy,xc] at h
    exact .inr (.inl ⟨by assumption,by assumption,mv0,rfl,h.symm⟩)
  ·exact .inr (.inr ⟨by assumption,by assumption,h⟩)
theorem append_row[Tabs](hT:TabOK P tt)(hm:Mem P X lo g μ w){ty rt e e1 b d p i:Nat}{t:Ty}(he:tt ty=.sl e t b){l:List (List t.I)}(az:g p=some (.rows e1 e t l none))(bl:g d=none)(bm:d≠p)(hb0:0<b){src:List t.I}(hle:((l.getD i []).length+src.length)*b≤140737488355328)
  {xv:AV} (ba:srcOf g t xv=some src) {va x:Value} (ha:RelV P w lo μ (SS X μ) (.row p i) va) (hx:RelV P w lo μ (SS X μ) xv x):
  ∃v' w' μ',(Builtin.append_ #[ty,ty] rt #[va,x]).run P w=.ok v' w'∧NxU P X lo g μ w [(d,.arr e t (l.getD i []++src)),(p,.rows e1 e t l (some (i,none)))] [] w' μ'∧RelV P w' lo μ' (SS X μ') (.arr d) v':=by
 have hd:=hT ty
 rw [he] at hd
 obtain⟨hu,⟨inf,z,hi,hs,bn,hz,bo⟩,_⟩:=hd
 have bp:z.cells.size=t.size:=by simpa using isZ_len bo
 obtain⟨ax,c,news,rfl,ao,br,au⟩:=srcOf_ok hm ba hx
 have bs:=ao.len
 have bt:μ d=none:=by
  cases bu:μ d with
  |none=>rfl
  |some mv=>obtain⟨y,hy,_⟩:=hm.ob d mv bu;rw [bl] at hy;cases hy
 cases ha with
 | @row _ _ _ v0 rs bw a0 m0 c0 hμ av=>
 obtain⟨y,hy,bz⟩:=hm.ob _ _ hμ
 rw [az] at hy
 cases hy
 obtain⟨hr,_⟩:=bz
 have af:∀j,inRow none j:=fun j i k hk=>by cases hk
 obtain⟨ca,cn,cb,cc⟩:=hm.rowAt hμ av az
 have cd:l[i]? =some (l.getD i []):=by simp [xd,ca]
 obtain⟨k1,xs,bb,bc⟩:=hr.row i _ _ (af i) av cd
 simp only at k1
 generalize hL:l.getD i []=L at*
 obtain⟨v',w',h1,h2,h3,h4,h5,h6,h7,h8,a',n',c',cf⟩:=append_own (rt:=rt) (c:=c) hu hi hs bn hz bp bb (m:=src.length) (by rw [bs]) br au ao.one hle hb0
 have ak:∀k,rootV (.slice a0 m0 c0)=some k→k∈rs:=fun k hk=>(k1 k hk).1
 have aa:∀k,rootV v'=some k→k∈rs∨w.heap.size≤k:=fun k hk=>(h8 k hk).imp (ak k) id
 have ab:∀k,k<w.heap.size→k∉rs→w'.heap[k]? =w.heap[k]? :=fun k hk hn=>h7 k hk fun e=>hn (ak k e)
 have ae:Kept lo w w':=⟨h3,h4,h5,h6,fun k hk=>ab k (hm.hlo k hk) fun aw=>(hr.low k aw).1 hk⟩
 have bd:∀ {q:Nat} {mv':MV} {k:Nat},goneM μ p d (.slice a0 m0 c0) v' q=some mv'→k∈mv'.rs→w.heap.size≤k∨∃q0 mv0,μ q0=some mv0∧k∈mv0.rs:=fun{q mv' k} hq hk=>by
  rcases gone_inv hq with⟨rfl,rfl⟩|⟨_,rfl,mv0,h0,rfl⟩|⟨_,_,h0⟩
  ·exact(aa k (by simpa using hk)).symm.imp id fun h=>⟨p,_,hμ,h⟩
  ·exact .inr ⟨_,mv0,h0,(xac.1 hk).1⟩
  ·exact .inr ⟨_,mv',h0,hk⟩
 have ad:∀k,k<w.heap.size→SS X μ k→SS X (goneM μ p d (.slice a0 m0 c0) v') k∧w'.heap[k]? =w.heap[k]? :=fun k hk hS=>⟨⟨hS.1,fun q mv' hq cg=>(bd hq cg).elim (fun h=>by omega) fun⟨q0,mv0,z1,z2⟩=>hS.2 q0 mv0 z1 z2⟩,ab k hk (hS.2 p _ hμ)⟩
 have ay:goneM μ p d (.slice a0 m0 c0) v' d=some ⟨v',(rootV v').toList,[]⟩:=by unfold goneM;rw [if_pos rfl]
 have ch:goneM μ p d (.slice a0 m0 c0) v' p=some ⟨v0,rs.filter fun b=>decide (rootV (.slice a0 m0 c0)≠some b),bw⟩:=by unfold goneM;rw [if_neg (xcc bm),if_pos rfl,hμ];rfl
 have be:∀q,q≠p→∀mv,μ q=some mv→goneM μ p d (.slice a0 m0 c0) v' q=some mv:=fun q hq mv hmv=>by
  unfold goneM
  rw [if_neg (fun e=>by rw [e,bt] at hmv;cases hmv),if_neg hq]
  exact hmv
 have ah:Turns μ (goneM μ p d (.slice a0 m0 c0) v') []:=by
  refine⟨fun q mv hq=>?_,fun _ _ hk=>(by cases hk)⟩
  by_cases e:q=p
  ·subst e
   rw [hμ] at hq
   cases hq
   exact⟨_,_,ch,fun _=>Ext.refl _⟩
  ·exact⟨mv.rs,mv.hs,be q e mv hq,fun _=>Ext.refl _⟩
 refine⟨v',w',goneM μ p d (.slice a0 m0 c0) v',h1,⟨ah,fun q mv hq=>?_,fun q mv k hq hk=>bd hq hk,ae,fun k hk hn=>ab k hk (hn (p,.rows e1 e t l (some (i,none))) (by simp) _ hμ),fun g' q1 q2=>⟨hm.hX,fun b hb=>xan (hm.hlo b hb) h6,fun q mv hq=>?_,fun q q' bf bg k e1 e2 e3 e4=>?_,hm.tab.step ae.block⟩⟩,?_⟩
 ·rcases gone_inv hq with⟨rfl,rfl⟩|⟨_,rfl,mv0,h0,rfl⟩|⟨_,_,h0⟩
  ·exact .inr ⟨_,xx,rfl⟩
  ·exact .inl ⟨mv0,h0⟩
  ·exact .inl ⟨mv,h0⟩
 ·rcases gone_inv hq with⟨rfl,rfl⟩|⟨_,rfl,mv0,h0,rfl⟩|⟨ai,al,h0⟩
  ·refine⟨_,q1 (q,.arr e t (L++src)) (by simp),⟨rfl,rfl⟩,fun k hk hl=>?_,xs++news,?_,?_⟩
   ·rcases aa k hk with h'|h'
    ·exact(hr.low k h').1 hl
    ·have:=hm.hlo k hl;omega
   ·rw [xj];exact h2
   ·exact(bc.step fun k hk hS=>ad k hk hS).append (ao.step fun k hk hS=>ad k hk hS)
  ·rw [hμ] at h0
   cases h0
   have ai:∀k,k∈(rs.filter fun b=>decide (rootV (.slice a0 m0 c0)≠some b))→k∈rs∧rootV (.slice a0 m0 c0)≠some k:=fun k hk=>by simpa using hk
   refine⟨_,q1 (q,.rows e1 e t l (some (i,none))) (by simp),⟨ownsRow_same hr.own fun k hk=>h7 k ?_ fun e=>(k1 k e).2 hk,fun k hk=>?_,fun k hk=>⟨(hr.low k (ai k hk).1).1,xan (hr.low k (ai k hk).1).2 h6⟩,hr.slc,fun j y r hj hy aj=>?_,fun j k y z kb hj hk=>hr.apart j k y z kb (af j) (af k)⟩,fun i' d' cj=>by cases cj⟩
   ·exact(hr.low k (hr.top k hk)).2
   ·simp only [xac,decide_eq_true_eq]
    exact⟨hr.top k hk,fun e=>(k1 k e).2 hk⟩
   ·obtain⟨z1,ys,z2,z3⟩:=hr.row j y r (af j) hy aj
    have ck:j≠i:=hj i none rfl
    have bh:∀k,rootV y=some k→rootV (.slice a0 m0 c0)≠some k:=fun k hk e=>ck (hr.apart j i y _ k (af j) (af i) hy av hk e)
    refine⟨fun k hk=>⟨?_,(z1 k hk).2⟩,ys,ownsRow_same z2 fun k hk=>h7 k (hr.low k (z1 k hk).1).2 (bh k hk),z3.step fun k hk hS=>ad k hk hS⟩
    simp only [xac,decide_eq_true_eq]
    exact⟨(z1 k hk).1,bh k hk⟩
  ·obtain⟨y,hy,cm⟩:=hm.ob q mv h0
   have bj:∀q'∈ [(d,Ob.arr e t (L++src)),(p,.rows e1 e t l (some (i,none)))],q'.1≠q:=fun q' aj e=>by
    simp only [xam,xeu,or_false] at aj
    rcases aj with rfl|rfl
    ·exact ai e.symm
    ·exact al e.symm
   refine⟨y,by rw [q2 q mv h0 bj,hy];rfl,cm.stepH hm.hlo (fun o mv ho=>by obtain⟨rs,hs,z1,z2⟩:=ah.hs o mv ho;exact⟨rs,hs,z1,z2 (by simp)⟩) ad ae.block fun k hk=>ab k (hm.lt h0 hk).2 fun aw=>al (hm.dis q p mv _ k h0 hμ hk aw)⟩
 ·rcases gone_inv e1 with⟨f1,f2⟩|⟨f0,f1,mv0,f2,f3⟩|⟨f0,f1,f2⟩<;>rcases gone_inv e2 with⟨g1,g2⟩|⟨g0,g1,bk,g2,g3⟩|⟨g0,g1,g2⟩
  ·rw [f1,g1]
  ·rw [f2] at e3
   rw [g3] at e4
   rw [hμ] at g2
   cases g2
   simp only [xac,decide_eq_true_eq] at e4
   rcases h8 k (by simpa using e3) with h'|h'
   ·exact absurd h' e4.2
   ·have:=(hr.low k e4.1).2;omega
  ·rw [f2] at e3
   rcases aa k (by simpa using e3) with h'|h'
   ·exact absurd (hm.dis q' p bg _ k g2 hμ e4 h') g1
   ·have:=(hm.lt g2 e4).2;omega
  ·rw [g2] at e4
   rw [f3] at e3
   rw [hμ] at f2
   cases f2
   simp only [xac,decide_eq_true_eq] at e3
   rcases h8 k (by simpa using e4) with h'|h'
   ·exact absurd h' e3.2
   ·have:=(hr.low k e3.1).2;omega
  ·rw [f1,g1]
  ·rw [f3] at e3
   exact absurd (hm.dis p q' mv0 bg k f2 g2 (xac.1 e3).1 e4).symm g1
  ·rw [g2] at e4
   rcases aa k (by simpa using e4) with h'|h'
   ·exact absurd (hm.dis q p bf _ k f2 hμ e3 h') f1
   ·have:=(hm.lt f2 e3).2;omega
  ·rw [g3] at e4
   exact absurd (hm.dis q p bf bk k f2 g2 e3 (xac.1 e4).1) f1
  ·exact hm.dis _ _ _ _ k f2 g2 e3 e4
 ·subst cf
  exact .arr ay
theorem aappendR_ok[Tabs](hT:TabOK P tt)(hm:Mem P X lo g μ w){ty rt d p i:Nat}{xv:AV}{u:LU}(hq:(aappendR tt g d ty p i xv).ev=some u){va x:Value}(ha:RelV P w lo μ (SS X μ) (.row p i) va)(hx:RelV P w lo μ (SS X μ) xv x):
  u.und=none∧some d=u.d.map (·.1)∧(u.objs.map (·.1)).Nodup∧rowIds g u.objs=[]∧∃v' w' μ',(Builtin.append_ #[ty,ty] rt #[va,x]).run P w=.ok v' w'∧NxU P X lo g μ w u.objs [] w' μ'∧∀q,u.d=some q→RelV P w' lo μ' (SS X μ') q.2 v':=by
 unfold aappendR at hq
 split at hq
 ·rename_i e t b e1 e2 t2 l he af ab
  split at hq
  next src r ad aa=>
   obtain⟨et,hr⟩:=Ty.cast_spec aa
   cases et
   have hr:r=l.getD i []:=hr
   subst hr
   split at hq
   next hc=>
    obtain⟨rfl,hb0,ae⟩:=hc
    obtain⟨hle,hq⟩:=ev_g hq
    simp only [decide_eq_true_eq] at hle
    simp only [Tr.ev_l,xc] at hq
    subst hq
    obtain⟨v',w',μ',k1,k2,k3⟩:=append_row (rt:=rt) hT hm he af ab ae hb0 hle ad ha hx
    exact⟨rfl,rfl,by simp [ae],by simp [rowIds,rowId,ab],v',w',μ',k1,k2,fun q hq=>by cases hq;exact k3⟩
   next=>cases hq
  next=>cases hq
 ·cases hq
def again(μ:Nat→Option MV)(o:Nat)(v:MV)(p:Nat):Option MV:=if p=o then some v else μ p
theorem again_ne{o p:Nat}{v mv:MV}(h:p≠o)(hp:μ p=some mv):again μ o v p=some mv:=by simp [again,h,hp]
theorem again_self{o:Nat}{v:MV}:again μ o v o=some v:=by simp [again]
theorem again_inv{o p:Nat}{v mv:MV}(h:again μ o v p=some mv):(p=o∧mv=v)∨(p≠o∧μ p=some mv):=by
 unfold again at h
 split at h
 ·cases h;exact .inl ⟨by assumption,rfl⟩
 ·exact .inr ⟨by assumption,h⟩
structure NxA(P:Program)(X:Nat→Prop)(lo:Nat→Prop)(μ:Nat→Option MV)(w:World)(o:Nat)(x:Ob)(w':World)(mv:MV):Prop where
 kept:Kept lo w w'
 data:∀b,b<w.heap.size→SS X μ b→SS X (again μ o mv) b∧w'.heap[b]? =w.heap[b]?
 ob:ObOK P w' lo (again μ o mv) (SS X (again μ o mv)) x mv
 roots:∀k,k∈mv.rs→(∃mv0,μ o=some mv0∧k∈mv0.rs)∨w.heap.size≤k
 same:∀k,k<w.heap.size→(∀mv0,μ o=some mv0→k∉mv0.rs)→w'.heap[k]? =w.heap[k]?
theorem NxA.dis[Tabs](hm:Mem P X lo g μ w){o:Nat}{x:Ob}{w':World}{mv:MV}(h:NxA P X lo μ w o x w' mv):∀p q aa ab k,again μ o mv p=some aa→again μ o mv q=some ab→k∈aa.rs→k∈ab.rs→p=q:=by
 intro p q aa ab k h1 h2 h3 h4
 rcases again_inv h1 with⟨e1,e2⟩|⟨ae,k1⟩<;>rcases again_inv h2 with⟨e3,e4⟩|⟨ad,k2⟩
 ·rw [e1,e3]
 ·rw [e2] at h3
  rcases h.roots k h3 with⟨mv0,z1,z2⟩|hge
  ·rw [e1];exact hm.dis _ _ _ _ k z1 k2 z2 h4
  ·have:=(hm.lt k2 h4).2;omega
 ·rw [e4] at h4
  rcases h.roots k h4 with⟨mv0,z1,z2⟩|hge
  ·rw [e3];exact hm.dis _ _ _ _ k k1 z1 h3 z2
  ·have:=(hm.lt k1 h3).2;omega
 ·exact hm.dis _ _ _ _ k k1 k2 h3 h4
theorem NxA.other[Tabs](hm:Mem P X lo g μ w){o:Nat}{x:Ob}{w':World}{mv:MV}(h:NxA P X lo μ w o x w' mv){p:Nat}{aa:MV}(hp:μ p=some aa)(ab:p≠o):∀k,k∈aa.rs→w'.heap[k]? =w.heap[k]? :=fun k hk=>
 h.same k (hm.lt hp hk).2 fun mv0 h0 ad=>ab (hm.dis p o aa mv0 k hp h0 hk ad)
theorem Rel.appd[Tabs]{s:St}(h:Rel P X lo N w0 s a w μ){o:Nat}{x:Ob}{w':World}{mv':MV}(h2:NxA P X lo μ w o x w' mv'):
  Rel P X lo N w0 {fr:=s.fr.map (fun p=>(p.1,frz2 o .undef p.2)),ob:=(o,x)::(s.ob.filter fun p=> !(Nat.beq p.1 o)).map fun p=>(p.1,frzOb o .undef p.2)} a w' (again μ o mv'):=by
 have ad:∀p mv,p≠o→μ p=some mv→Go.Proofs.YteiekijgoifhoaaGreatDoor.again μ o mv' p=some mv:=fun p mv aa hp=>again_ne aa hp
 have ab:=h2.kept.block
 refine⟨⟨h.mem.hX,fun b hb=>xan (h.mem.hlo b hb) h2.kept.size,fun p mv hp=>?_,h2.dis h.mem,h.mem.tab.step h2.kept.block⟩,fun i=>?_,h.bel.trans h2.kept,h.df,h.sz⟩
 ·rcases again_inv hp with⟨rfl,rfl⟩|⟨aa,hp⟩
  ·exact⟨x,by simp [St.g,look],h2.ob⟩
  ·obtain⟨y,hy,ae⟩:=h.mem.ob p mv hp
   refine⟨frzOb o .undef y,?_,?_⟩
   ·simp only [St.g,look,beq_ne (xcc aa),look_map]
    rw [look_filter o s.ob p aa]
    simp only [St.g] at hy
    rw [hy];rfl
   ·exact(frzOb_rel (d:=.undef) h.mem.hlo ad (fun _ _=>.undef) (fun _ _ h=>h) ae).step h.mem.hlo (fun _ _ h=>h) h2.data ab (h2.other h.mem hp aa)
 ·simp only [St.slot,look_map]
  have:=frz2_rel (d:=.undef) h.mem.hlo ad (fun _ _=>.undef) (fun _ _ h=>h) (h.fr i)
  simp only [St.slot] at this
  cases hl:look s.fr i with
  |none=>exact .undef
  |some v=>rw [hl] at this;exact this.step (fun _ _ h=>h) h.mem.hlo h2.data ab
theorem Rel.newOb[Tabs]{s:St}(h:Rel P X lo N w0 s a w μ){d:Nat}(aa:N.has d)(hg:s.g d=none){x:Ob}{v:Value}{w':World}(hx:Nx P X lo s.g μ w (.arr d,[(d,x)]) v w'):∃μ',Rel P X lo N w0 {fr:=(d,.arr d)::s.fr,ob:=(d,x)::s.ob} (a.put (some d) v) w' μ':=by
 have hμ:∀p∈ [(d,x)],μ p.1=none:=fun p hp=>by
  simp only [xt] at hp
  subst hp
  cases hm:μ d with
  |none=>rfl
  |some mv=>obtain⟨y,hy,_⟩:=h.mem.ob d mv hm;rw [hg] at hy;cases hy
 obtain⟨μ',k1,k2⟩:=NxU.of h.mem hμ hx
 exact⟨μ',h.upd (u:=⟨some (d,.arr d),none,[(d,x)]⟩) (by simp) rfl k1 rfl (fun d' ab=>by cases ab;exact aa) fun p hp=>by cases hp;exact k2⟩
theorem rowsMake_ok[Tabs](hT:TabOK P tt){s s':St}(h:Rel P X lo N w0 s a w μ){ty d:Nat}{nv cv:AV}(hq:(rowsMake tt ty nv cv d s).ev=some s')(ah:N.has d){vn vc:Value}(hn:RelV P w lo μ (SS X μ) nv vn)(hc:RelV P w lo μ (SS X μ) cv vc):
  ∃v w' μ',(Instr.makeSlice ty vn vc).run P w=.ok v w'∧Rel P X lo N w0 s' (a.put (some d) v) w' μ':=by
 unfold rowsMake at hq
 split at hq
 ·rename_i k n k' c e te b au aa
  split at hq
  next e2 t b2 av=>
   split at hq
   next ai=>
    obtain⟨hb,hq⟩:=ev_g hq
    simp only [xg,decide_eq_true_eq] at hb
    obtain⟨⟨ab,ad⟩,ae⟩:=hb
    have e1:=hn.int
    have al:=hc.int
    subst e1;subst al
    have aj:=hT ty
    have aw:=hT e
    rw [au] at aj
    rw [av] at aw
    obtain⟨hu,⟨i,z,h1,h2,h3,h4,h5⟩,_⟩:=aj
    obtain⟨_,_,i',h6,h7,h8⟩:=aw
    rw [h1] at h6
    cases h6
    rw [h4] at h8
    cases h8
    split at hq
    next=>
     simp only [Tr.ev_l,xc] at hq
     subst hq
     exact mkD (t:=.slice (.slice _)) h aa ah hu h1 h7 h3 h4 rfl n c ab ad ae ai.2
    next=>
     simp only [Tr.ev_l,xc] at hq
     subst hq
     exact mk h aa ah hu h1 h7 h3 h4 n c ab ad ae ai.2
   next=>cases hq
  next t2 fs av=>
   split at hq
   next ai=>
    obtain⟨hb,hq⟩:=ev_g hq
    simp only [xg,decide_eq_true_eq] at hb
    obtain⟨⟨ab,ad⟩,ae⟩:=hb
    have e1:=hn.int
    have al:=hc.int
    subst e1;subst al
    have aj:=hT ty
    rw [au] at aj
    obtain⟨hu,⟨i,z,h1,h2,h3,h4,h5⟩,_⟩:=aj
    simp only [Tr.ev_l,xc] at hq
    subst hq
    exact mkD h aa ah hu h1 h2 h3 h4 h5 n c ab ad ae ai
   next=>cases hq
  next=>cases hq
 ·cases hq
where
 mk {s:St} {ty d e e2 b:Nat} {t:Ty} {i:TypeInfo} {k k':IntKind} (h:Rel P X lo N w0 s a w μ) (aa:s.g d=none) (ah:N.has d) (hu:P.underlying ty=some (.slice e)) (h1:P.info? e=some i) (h7:i.size=1) (h3:i.bytes=b) (h4:i.zero=some (.slice none 0 0))
   (n c:Int) (ab:0≤n) (ad:n≤c) (ae:(b:Int)*c≤281474976710656) (hb0:0<b):
   ∃v w' μ',(Instr.makeSlice ty (.int k n) (.int k' c)).run P w=.ok v w'∧Rel P X lo N w0 {fr:=(d,.arr d)::s.fr,ob:=(d,.rows e e2 t (List.replicate n.toNat []) none)::s.ob} (a.put (some d) v) w' μ':=by
  have ay:c≤281474976710656:=by
   have h0:(1:Int)*c≤(b:Int)*c:=xcs (by omega) (by omega)
   omega
  have af:=run_make (P:=P) w ty e i (.slice none 0 0) hu h1 h4 k k' n c ab ad (by rw [h3];exact ae) (by omega)
  rw [h7] at af
  have ak:∀x∈(madeCells (Value.slice none 0 0).cells (Int.toNat c*1)).toList,x=Value.slice none 0 0:=fun x hx=>by
   simp only [madeCells,Array.toList_map,xae] at hx
   obtain⟨j,_,rfl⟩:=hx
   simp [Value.cells,Nat.mod_one]
  have ao:μ d=none:=by
   cases hm:μ d with
   |none=>rfl
   |some mv=>obtain⟨y,hy,_⟩:=h.mem.ob d mv hm;rw [aa] at hy;cases hy
  have hx:=rows_made (e:=e) (e2:=e2) h.mem (d:=d) (t:=t) (l:=List.replicate (Int.toNat n) []) (h:=none) (cur:=madeCells (Value.slice none 0 0).cells (Int.toNat c*1)) (cap:=Int.toNat c) ao
   (by simp [madeCells]) (by simp;omega) (by unfold maxLen;omega) (fun x hx=>⟨_,_,_,ak x (xcg hx)⟩)
   (fun j x r _ hx hl=>⟨ak x (xcg (xn hx)),by
    have:=xn hl
    exact(List.mem_replicate.1 this).2⟩) (fun i p hi=>by cases hi)
  rw [xak] at hx
  obtain⟨μ',k1⟩:=h.newOb ah aa hx
  exact⟨_,_,μ',af,k1⟩
 mkD {s:St} {ty d e b:Nat} {t:Ty} {i:TypeInfo} {z:Value} {k k':IntKind} (h:Rel P X lo N w0 s a w μ) (aa:s.g d=none) (ah:N.has d) (hu:P.underlying ty=some (.slice e)) (h1:P.info? e=some i) (h2:i.size=t.size) (h3:i.bytes=b) (h4:i.zero=some z) (h5:isZ t z.cells.toList=true)
   (n c:Int) (ab:0≤n) (ad:n≤c) (ae:(b:Int)*c≤281474976710656) (hb0:0<b):
   ∃v w' μ',(Instr.makeSlice ty (.int k n) (.int k' c)).run P w=.ok v w'∧Rel P X lo N w0 {fr:=(d,.arr d)::s.fr,ob:=(d,.deep e t (List.replicate n.toNat t.dflt))::s.ob} (a.put (some d) v) w' μ':=by
  have ay:c≤281474976710656:=by
   have h0:(1:Int)*c≤(b:Int)*c:=xcs (by omega) (by omega)
   omega
  have af:=run_make (P:=P) w ty e i z hu h1 h4 k k' n c ab ad (by rw [h3];exact ae) (by omega)
  rw [h2] at af
  have ao:μ d=none:=by
   cases hm:μ d with
   |none=>rfl
   |some mv=>obtain⟨y,hy,_⟩:=h.mem.ob d mv hm;rw [aa] at hy;cases hy
  have hx:=deep_made (e:=e) h.mem (d:=d) (t:=t) (n:=Int.toNat n) (cur:=madeCells z.cells (Int.toNat c*t.size)) (cap:=Int.toNat c) ao
   (size_madeCells _ _) (by omega) (by unfold maxLen;omega) fun _ _=>made_rep h5 _ _ (by omega)
  obtain⟨μ',k1⟩:=h.newOb ah aa hx
  exact⟨_,_,μ',af,k1⟩
theorem rowsBuild_ok[Tabs](hT:TabOK P tt){s s':St}(h:Rel P X lo N w0 s a w μ){ty n d:Nat}{ps:List (Nat×AV)}(hq:(rowsBuild tt ty n ps d s).ev=some s')(ak:N.has d){qs:Array (Nat×Value)}(ae:qs.toList.map (·.1)=ps.map (·.1))
  (hr:∀ (j:Nat) (p:Nat×AV),ps[j]? =some p→∃q:Nat×Value,qs.toList[j]? =some q∧RelV P w lo μ (SS X μ) p.2 q.2):
  ∃v w' μ',(Instr.buildSlice ty n qs).run P w=.ok v w'∧Rel P X lo N w0 s' (a.put (some d) v) w' μ':=by
 have free:s.g d=none→μ d=none:=fun aa=>by
  cases hm:μ d with
  |none=>rfl
  |some mv=>obtain⟨y,hy,_⟩:=h.mem.ob d mv hm;rw [aa] at hy;cases hy
 unfold rowsBuild at hq
 split at hq
 ·rename_i e te b ah aa
  split at hq
  next e2 t b2 au=>
   split at hq
   next ab=>
    simp only [Tr.ev_l,xc] at hq
    subst hq
    have ad:=hT ty
    rw [ah] at ad
    obtain⟨hu,⟨i,z,h1,h2,h3,h4,h5⟩,_⟩:=ad
    have af:qs= #[]:=by
     apply xgf
     have:=congrArg List.length ae
     simpa using this
    subst af
    have hx:=rows_made (e:=e) (e2:=e2) h.mem (d:=d) (t:=t) (l:=[]) (h:=none) (cur:= #[]) (cap:=0) (free aa) rfl (xm _) (by unfold maxLen;omega) (fun x hx=>by simp at hx) (fun j x r _ hx=>by simp at hx) (fun i p hi=>by cases hi)
    obtain⟨μ',k1⟩:=h.newOb ak aa hx
    refine⟨_,_,μ',?_,k1⟩
    simp [Instr.buildSlice,run_underlying hu,sizeOf,typeInfo,h1,h2,newRow,Instr.fill,Array.range_zero']
   next=>cases hq
  next=>cases hq
 ·rename_i e te b p ah aa
  split at hq
  next e2 t b2 e3 t3 lp au bb=>
   split at hq
   next ab=>
    simp only [Tr.ev_l,xc] at hq
    subst hq
    have ad:=hT ty
    rw [ah] at ad
    obtain⟨hu,⟨i,z,h1,h2,h3,h4,h5⟩,_⟩:=ad
    obtain⟨q,ai,al⟩:=hr 0 (0,.arr p) rfl
    have af:qs= #[q]:=by
     apply xgf
     have hl:=congrArg List.length ae
     simp only [xaw,xad,xai] at hl
     match av:qs.toList,hl with
     | [y],_=>rw [av] at ai;simp at ai;subst ai;rfl
    have ao:q.1=0:=by
     rw [af] at ae
     simpa using ae
    subst af
    obtain⟨q0,x⟩:=q
    simp only at ao al
    subst ao
    cases al with
    | @arr _ _ a0 n0 c0 rp aw ay=>
     have hx:=rows_made (e:=e) (e2:=e2) h.mem (d:=d) (t:=t) (l:=[[]]) (h:=some (0,some p)) (cur:= #[.slice a0 n0 c0]) (cap:=1) (free aa) rfl (xm _) (by unfold maxLen;omega)
      (fun x hx=>by simp at hx;exact⟨_,_,_,hx⟩) (fun j x r hj hx hl=>by
       have az:j≠0:=hj 0 (some p) rfl
       cases j with
       |zero=>exact absurd rfl az
       |succ j=>simp at hl) (fun i p' hi=>by cases hi;exact⟨_,rp,aw,rfl,ay⟩)
     obtain⟨μ',k1⟩:=h.newOb ak aa hx
     refine⟨_,_,μ',?_,k1⟩
     have ba:i.size=1:=h2.trans ab.1
     have bc:z.cells.size=1:=by
      have:=isZ_len h5
      simpa [ab.1] using this
     have aj:Instr.fill (fun i=>some (i,1)) (Array.map (fun x=>z.cells[x % z.cells.size]!) (Array.range 1)) [(0,Value.slice a0 n0 c0)]=some #[Value.slice a0 n0 c0]:=by
      have key:∀ (A:Array Value) (v:Value),A.size=1→A.setIfInBounds 0 v= #[v]:=fun A v h=>by
       obtain⟨l⟩:=A
       match l,h with
       | [y],_=>rfl
      simp [Instr.fill,Value.cells]
      exact key _ _ (by simp)
     simp [Instr.buildSlice,run_underlying hu,sizeOf,typeInfo,zeroValue,h1,ba,h4,aj,newRow]
   next=>cases hq
  next=>cases hq
 ·cases hq
theorem Rel.pullG[Tabs]{s:St}(h:Rel P X lo N w0 s a w μ){p d k e2:Nat}{t:Ty}{r:List t.I}{x:Value}{mv:MV}(ab:μ p=some mv)(aj:s.g d=none)(ay:d≠p)(hx:a.tmps.getD k undef=x)
  (ad:∀b,rootV x=some b→b∈mv.rs) (ae:∃xs,w.ownsRow 0 e2 t.size x r.length xs∧RepL (SS X μ) w t r xs) (ak:∃a n c,x=.slice a n c):
  ∃μ',Rel P X lo N w0 {fr:=(k,.arr d)::(s.swap p .undef []).fr,ob:=(d,.arr e2 t r)::(s.swap p .undef []).ob} a w μ':=by
 have al:μ d=none:=by
  cases hm:μ d with
  |none=>rfl
  |some mv'=>obtain⟨y,hy,_⟩:=h.mem.ob d mv' hm;rw [aj] at hy;cases hy
 obtain⟨xs,k2,k3⟩:=ae
 obtain⟨a0,n0,c0,ao⟩:=ak
 have hinv:∀ {q mv'},again (without μ p) d ⟨x,(rootV x).toList,[]⟩ q=some mv'→(q=d∧mv'=⟨x,(rootV x).toList,[]⟩)∨(q≠d∧q≠p∧μ q=some mv'):=fun{q mv'} hq=>by
  rcases again_inv hq with⟨rfl,rfl⟩|⟨aa,hq⟩
  ·exact .inl ⟨rfl,rfl⟩
  ·obtain⟨h1,h2⟩:=without_inv hq
   exact .inr ⟨aa,h1,h2⟩
 have hμ:∀q mv',q≠p→μ q=some mv'→again (without μ p) d ⟨x,(rootV x).toList,[]⟩ q=some mv':=fun q mv' aa hq=>again_ne (fun e=>by rw [e,al] at hq;cases hq) (without_ne aa hq)
 have hS:∀b,b<w.heap.size→SS X μ b→SS X (again (without μ p) d ⟨x,(rootV x).toList,[]⟩) b:=fun b _ hs=>⟨hs.1,fun q mv' hq hb=>by
  rcases hinv hq with⟨rfl,rfl⟩|⟨_,_,h0⟩
  ·exact hs.2 p mv ab (ad b (by simpa using hb))
  ·exact hs.2 q mv' h0 hb⟩
 refine⟨again (without μ p) d ⟨x,(rootV x).toList,[]⟩,⟨h.mem.hX,h.mem.hlo,fun q mv' hq=>?_,fun q q' af ah b h1 h2 h3 h4=>?_,h.mem.tab⟩,fun j=>?_,h.bel,h.df,h.sz⟩
 ·rcases hinv hq with⟨rfl,rfl⟩|⟨aa,au,h0⟩
  ·exact⟨.arr e2 t r,by simp [St.g,look],⟨rfl,rfl⟩,fun b hb=>(h.mem.lt ab (ad b hb)).1,xs,k2,k3.step fun b hb hs=>⟨hS b hb hs,rfl⟩⟩
  ·obtain⟨y,hy,av⟩:=h.mem.ob q mv' h0
   refine⟨frzOb p .undef y,?_,frzOb_rel h.mem.hlo hμ (fun _ _=>.undef) hS av⟩
   simp only [St.g,St.swap,xbu,look,beq_ne (xcc aa),look_map]
   rw [look_filter p s.ob q au]
   simp only [St.g] at hy
   rw [hy]
   rfl
 ·rcases hinv h1 with⟨e1,rfl⟩|⟨n1,p1,g1⟩<;>rcases hinv h2 with⟨aw,rfl⟩|⟨n2,p2,g2⟩
  ·rw [e1,aw]
  ·exact absurd (h.mem.dis p q' mv ah b ab g2 (ad b (by simpa using h3)) h4).symm p2
  ·exact absurd (h.mem.dis q p af mv b g1 ab h3 (ad b (by simpa using h4))) p1
  ·exact h.mem.dis q q' af ah b g1 g2 h3 h4
 ·simp only [St.slot,look]
  by_cases ai:k=j
  ·subst ai
   rw [beq_self,hx,ao]
   exact .arr (rs:=(rootV (Value.slice a0 n0 c0)).toList) (hs:=[]) (by rw [again_self])
  ·rw [beq_ne ai]
   simp only [St.swap,look_map]
   have:=frz2_rel (d:=.undef) h.mem.hlo hμ (fun _ _=>.undef) hS (h.fr j)
   simp only [St.slot] at this
   cases hl:look s.fr j with
   |none=>exact .undef
   |some v=>rw [hl] at this;exact this
theorem Rel.pull[Tabs]{s:St}(h:Rel P X lo N w0 s a w μ)(k d:Nat):∃μ',Rel P X lo N w0 (s.pull k d) a w μ':=by
 unfold St.pull
 split
 next p i hk=>
  have hv:=h.fr k
  rw [hk] at hv
  generalize hy:a.tmps.getD k undef=y at hv
  split
  next kp e e2 t ix l ab aa=>
   cases hv with
   | @row _ _ _ v0 rs ae a0 m0 c0 hμ hx=>
    obtain⟨_,h1,h2⟩:=h.mem.rowAtP hμ hx ab
    exact h.pullG hμ aa (fun e=>by rw [e,ab] at aa;cases aa) hy h1 h2 ⟨_,_,_,rfl⟩
  next e e2 t l ab aa=>
   cases hv with
   | @row _ _ _ v0 rs ae a0 m0 c0 hμ hx=>
    obtain⟨hi,h2⟩:=h.mem.rowAt hμ hx ab
    obtain⟨y,ad,af⟩:=h.mem.ob _ _ hμ
    rw [ab] at ad
    cases ad
    obtain⟨h1,_⟩:=af.1.row i _ (l.getD i []) (fun j k hk=>by cases hk) hx (by simp [xd,hi])
    exact h.pullG hμ aa (fun e=>by rw [e,ab] at aa;cases aa) hy (fun b hb=>(h1 b hb).1) h2 ⟨_,_,_,rfl⟩
  next=>exact⟨μ,h⟩
 next=>exact⟨μ,h⟩
end
end Go.Proofs.YteiekijgoifhoaaGreatDoor
