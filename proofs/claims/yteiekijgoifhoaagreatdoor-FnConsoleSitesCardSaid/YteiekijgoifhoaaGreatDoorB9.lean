/-
 Calls; all operations that write nothing.
-/
import Derived.Test.YteiekijgoifhoaaGreatDoorB8
namespace Go.Proofs.YteiekijgoifhoaaGreatDoor
open Go.RowKit (Below)
def RelR(P:Program)(w:World)(lo:Nat→Prop)(μ:Nat→Option MV)(S:Nat→Prop)(vs:List AV)(x:Value):Prop:=
 (∃v,vs=[v]∧RelV P w lo μ S v x)∨(vs.length≠1∧RelV P w lo μ S (.tup vs) x)
def old(w:World)(μi:Nat→Option MV)(b:Nat):Prop:=b<w.heap.size∧∀o mv,μi o=some mv→b∉mv.rs
def ResOK[Tabs](P:Program)(X:Nat→Prop)(lo:Nat→Prop)(w w':World)(μi:Nat→Option MV)(res:List AV×List (Nat×Ob))(x:Value):Prop:=
 Kept lo w w'∧∃μ,Mem P X lo (look res.2) μ w'∧(∀o mv,μ o=some mv→∃p∈res.2,p.1=o)∧(∀p∈res.2,64≤p.1→∃mv rs hs,μi p.1=some mv∧μ p.1=some ⟨mv.v,rs,hs⟩)∧RelR P w' lo μ (SS X μ) res.1 x
def CallOK[Tabs](P:Program)(f:Nat)(args:List AV)(ins:List (Nat×Ob))(res:List AV×List (Nat×Ob)):Prop:=
 ∀ (w:World) (X:Nat→Prop) (μi:Nat→Option MV) (vals:Array Value),(∀b,X b→old w μi b)→Mem P X (old w μi) (look ins) μi w→(∀p∈ins,∃mv,μi p.1=some mv)→args.length=vals.size→
  (∀j v,nth args j=some v→RelV P w (old w μi) μi (SS X μi) v (vals.getD j undef))→CallR P f vals w (fun x w'=>ResOK P X (old w μi) w w' μi res x)
def EnvOK[Tabs](P:Program)(E:Env):Prop:=∀f args ins cr,E.call f args ins=some cr→∀r,cr.x=some r→CallOK P f args ins (cr.emb r)
section
variable {P:Program} {tt:Nat→TD} {w:World} {lo:Nat→Prop} {μ:Nat→Option MV} {S:Nat→Prop} {X:Nat→Prop} {g:Nat→Option Ob} {o:Oper} {a:Act} {E:Env}
theorem Rep.plain{S':Nat→Prop}{w':World}:∀ {t:Ty} {v:t.I} {cs:List Value},deepT t=false→Rep S w t v cs→Rep S' w' t v cs
 | .int _,_,_,_,h=>h
 | .bool,_,_,_,h=>h
 | .str,_,_,_,h=>h
 | .seq _,_,_,d,_=>by simp [deepT] at d
 | .hdr,_,_,d,_=>by simp [deepT] at d
 | .slice _,_,_,d,_=>by simp [deepT] at d
 | .pair a b,v,cs,d,h=>by
  simp only [deepT,xdf] at d
  obtain⟨c1,c2,e,h1,h2⟩:=h
  exact⟨c1,c2,e,h1.plain d.1,h2.plain d.2⟩
theorem RepL.plain[Tabs]{S':Nat→Prop}{w':World}{t:Ty}(d:deepT t=false):∀ {l:List t.I} {cs:List Value},RepL S w t l cs→RepL S' w' t l cs
 | [],_,h=>h
 |_::_,_,⟨c,r,e,h1,h2⟩=>⟨c,r,e,h1.plain d,h2.plain d⟩
theorem Mem.asDat[Tabs](hm:Mem P X lo g μ w){o:Nat}{mv:MV}{e:Nat}{t:Ty}{l:List t.I}(h:μ o=some mv)(hg:g o=some (.arr e t l)){S':Nat→Prop}(hS:∀b,b<w.heap.size→SS X μ b→S' b)
  (hR:∀b,b∈mv.rs→S' b):∃a c,mv.v=.slice a l.length c∧Rep S' w (.slice t) l [mv.v]:=by
 obtain⟨y,hy,ae⟩:=hm.ob _ _ h
 rw [hg] at hy
 cases hy
 obtain⟨⟨ai,af⟩,aj,xs,aa,ad⟩:=ae
 have ab:=ad.step (S':=S') (w':=w) fun b ah hb=>⟨hS b ah hb,rfl⟩
 rcases aa.2 with⟨e1,h0⟩|⟨gb,cap,cur,e1,h1,h2,h3,_⟩
 ·have:l=[]:=xi h0
  subst this
  rw [e1]
  exact⟨_,_,rfl,Rep.nil⟩
 ·rw [e1]
  refine⟨_,_,rfl,Rep.slice_of h3 (hR gb (by rw [af,e1];simp [rootV])) ab fun j u hu=>?_⟩
  rw [e1] at aa
  have:=aa.cells (g:=gb) rfl j u hu
  rw [Addr.add_lit] at this
  exact this
theorem Mem.asDatF[Tabs](hm:Mem P X lo g μ w){o:Nat}{mv:MV}{e:Nat}{t:Ty}{l:List t.I}(h:μ o=some mv)(hg:g o=some (.arr e t l))(hd:deepT t=false){S':Nat→Prop}(hR:∀b,b∈mv.rs→S' b):∃a c,mv.v=.slice a l.length c∧Rep S' w (.slice t) l [mv.v]:=by
 obtain⟨y,hy,ae⟩:=hm.ob _ _ h
 rw [hg] at hy
 cases hy
 obtain⟨⟨ah,af⟩,ai,xs,aa,ad⟩:=ae
 have ab:RepL S' w t l xs:=ad.plain hd
 rcases aa.2 with⟨e1,h0⟩|⟨gb,cap,cur,e1,h1,h2,h3,_⟩
 ·have:l=[]:=xi h0
  subst this
  rw [e1]
  exact⟨_,_,rfl,Rep.nil⟩
 ·rw [e1]
  refine⟨_,_,rfl,Rep.slice_of h3 (hR gb (by rw [af,e1];simp [rootV])) ab fun j u hu=>?_⟩
  rw [e1] at aa
  have:=aa.cells (g:=gb) rfl j u hu
  rw [Addr.add_lit] at this
  exact this
theorem Mem.asDeep[Tabs](hm:Mem P X lo g μ w){o:Nat}{mv:MV}{e:Nat}{t:Ty}{l:List t.I}(h:μ o=some mv)(hg:g o=some (.deep e t l)){S':Nat→Prop}(hR:∀b,b∈mv.rs→S' b):∃a c,mv.v=.slice a l.length c∧Rep S' w (.slice t) l [mv.v]:=by
 obtain⟨y,hy,ab⟩:=hm.ob _ _ h
 rw [hg] at hy
 cases hy
 have ab:DeepOK w lo e t l mv:=ab
 obtain⟨xs,aa,ae⟩:=ab.rep
 have ad:=ae.step (S':=S') (w':=w) fun b af hb=>⟨hR b hb.1.1,rfl⟩
 rcases aa.2 with⟨e1,h0⟩|⟨gb,cap,cur,e1,h1,h2,h3,_⟩
 ·have:l=[]:=xi h0
  subst this
  rw [e1]
  exact⟨_,_,rfl,Rep.nil⟩
 ·rw [e1]
  refine⟨_,_,rfl,Rep.slice_of h3 (hR gb (ab.top gb (by rw [e1];simp [rootV]))) ad fun j u hu=>?_⟩
  rw [e1] at aa
  have:=aa.cells (g:=gb) rfl j u hu
  rw [Addr.add_lit] at this
  exact this
theorem Mem.rowsRep[Tabs](hm:Mem P X lo g μ w){o:Nat}{mv:MV}{e e2:Nat}{t:Ty}{l:List (List t.I)}(h:μ o=some mv)(hg:g o=some (.rows e e2 t l none)){S':Nat→Prop}(hS:∀b,b<w.heap.size→SS X μ b→S' b)
  (hR:∀b,b∈mv.rs→rootV mv.v≠some b→S' b):RowsOK w lo (SS X μ) e e2 t l (inRow none) mv mv.hs∧RepL S' w (.slice t) l mv.hs:=by
 obtain⟨y,hy,ae⟩:=hm.ob _ _ h
 rw [hg] at hy
 cases hy
 obtain⟨hr,_⟩:=ae
 refine⟨hr,?_⟩
 have af:∀j,inRow none j:=fun j i k hk=>by cases hk
 have hlen:=hr.len
 generalize mv.hs=hs at hr hlen
 have key:∀ (hs:List Value) (l:List (List t.I)),hs.length=l.length→(∀ (j:Nat) (x:Value) (r:List t.I),hs[j]? =some x→l[j]? =some r→Rep S' w (.slice t) r [x])→RepL S' w (.slice t) l hs:=by
  intro hs
  induction hs with
  |nil=>
   intro l hl _
   have:l=[]:=xi (by simpa using hl.symm)
   subst this
   rfl
  |cons x hs ih=>
   intro l hl aa
   cases l with
   |nil=>simp at hl
   |cons r l=>exact⟨[x],hs,rfl,aa 0 x r rfl rfl,ih l (by simpa using hl) fun j y q hy hq=>aa (j+1) y q (by simpa using hy) (by simpa using hq)⟩
 refine key hs l hlen fun j x r hx hl=>?_
 obtain⟨k1,xs,ab,aa⟩:=hr.row j x r (af j) hx hl
 have ad:=aa.step (S':=S') (w':=w) fun b ah hb=>⟨hS b ah hb,rfl⟩
 rcases ab.2 with⟨e1,h0⟩|⟨gb,cap,cur,e1,h1,h2,h3,_⟩
 ·have:r=[]:=xi h0
  subst this
  rw [e1]
  exact Rep.nil
 ·have hk:=k1 gb (by rw [e1];simp [rootV])
  rw [e1]
  refine Rep.slice_of h3 (hR gb hk.1 hk.2) ad fun j u hu=>?_
  rw [e1] at ab
  have:=ab.cells (g:=gb) rfl j u hu
  rw [Addr.add_lit] at this
  exact this
theorem Mem.asRows[Tabs](hm:Mem P X lo g μ w){o:Nat}{mv:MV}{e e2:Nat}{t:Ty}{l:List (List t.I)}(h:μ o=some mv)(hg:g o=some (.rows e e2 t l none)){S':Nat→Prop}(hS:∀b,b<w.heap.size→SS X μ b→S' b)
  (hR:∀b,b∈mv.rs→S' b):∃a c,mv.v=.slice a l.length c∧Rep S' w (.slice (.slice t)) l [mv.v]:=by
 obtain⟨y,hy,af⟩:=hm.ob _ _ h
 rw [hg] at hy
 cases hy
 obtain⟨hr,_⟩:=af
 have ah:∀j,inRow none j:=fun j i k hk=>by cases hk
 have hlen:=hr.len
 generalize mv.hs=hs at hr hlen
 -- the rows, as data
 have ad:RepL S' w (.slice t) l hs:=by
  have key:∀ (hs:List Value) (l:List (List t.I)),hs.length=l.length→(∀ (j:Nat) (x:Value) (r:List t.I),hs[j]? =some x→l[j]? =some r→Rep S' w (.slice t) r [x])→RepL S' w (.slice t) l hs:=by
   intro hs
   induction hs with
   |nil=>
    intro l hl _
    have:l=[]:=xi (by simpa using hl.symm)
    subst this
    rfl
   |cons x hs ih=>
    intro l hl ab
    cases l with
    |nil=>simp at hl
    |cons r l=>exact⟨[x],hs,rfl,ab 0 x r rfl rfl,ih l (by simpa using hl) fun j y q hy hq=>ab (j+1) y q (by simpa using hy) (by simpa using hq)⟩
  refine key hs l hlen fun j x r hx hl=>?_
  obtain⟨k1,xs,aa,ab⟩:=hr.row j x r (ah j) hx hl
  have ae:=ab.step (S':=S') (w':=w) fun b ai hb=>⟨hS b ai hb,rfl⟩
  rcases aa.2 with⟨e1,h0⟩|⟨gb,cap,cur,e1,h1,h2,h3,_⟩
  ·have:r=[]:=xi h0
   subst this
   rw [e1]
   exact Rep.nil
  ·rw [e1]
   refine Rep.slice_of h3 (hR gb (k1 gb (by rw [e1];simp [rootV])).1) ae fun j u hu=>?_
   rw [e1] at aa
   have:=aa.cells (g:=gb) rfl j u hu
   rw [Addr.add_lit] at this
   exact this
 have aa:=hr.own
 rcases aa.2 with⟨e1,h0⟩|⟨gb,cap,cur,e1,h1,h2,h3,_⟩
 ·have:l=[]:=xi h0
  subst this
  rw [e1]
  exact⟨_,_,rfl,Rep.nil⟩
 ·rw [e1]
  refine⟨_,_,rfl,Rep.slice_of h3 (hR gb (hr.top gb (by rw [e1];simp [rootV]))) ad fun j u hu=>?_⟩
  rw [e1] at aa
  have:=aa.cells (g:=gb) rfl j u hu
  rw [Addr.add_lit] at this
  exact this
theorem Mem.asRowsF[Tabs](hm:Mem P X lo g μ w){o:Nat}{mv:MV}{e e2:Nat}{t:Ty}{l:List (List t.I)}(h:μ o=some mv)(hg:g o=some (.rows e e2 t l none))(hd:deepT t=false){S':Nat→Prop}(hR:∀b,b∈mv.rs→S' b):∃a c,mv.v=.slice a l.length c∧Rep S' w (.slice (.slice t)) l [mv.v]:=by
 obtain⟨y,hy,af⟩:=hm.ob _ _ h
 rw [hg] at hy
 cases hy
 obtain⟨hr,_⟩:=af
 have ah:∀j,inRow none j:=fun j i k hk=>by cases hk
 have hlen:=hr.len
 generalize mv.hs=hs at hr hlen
 -- the rows, as data
 have ad:RepL S' w (.slice t) l hs:=by
  have key:∀ (hs:List Value) (l:List (List t.I)),hs.length=l.length→(∀ (j:Nat) (x:Value) (r:List t.I),hs[j]? =some x→l[j]? =some r→Rep S' w (.slice t) r [x])→RepL S' w (.slice t) l hs:=by
   intro hs
   induction hs with
   |nil=>
    intro l hl _
    have:l=[]:=xi (by simpa using hl.symm)
    subst this
    rfl
   |cons x hs ih=>
    intro l hl ab
    cases l with
    |nil=>simp at hl
    |cons r l=>exact⟨[x],hs,rfl,ab 0 x r rfl rfl,ih l (by simpa using hl) fun j y q hy hq=>ab (j+1) y q (by simpa using hy) (by simpa using hq)⟩
  refine key hs l hlen fun j x r hx hl=>?_
  obtain⟨k1,xs,aa,ab⟩:=hr.row j x r (ah j) hx hl
  have ae:RepL S' w t r xs:=ab.plain hd
  rcases aa.2 with⟨e1,h0⟩|⟨gb,cap,cur,e1,h1,h2,h3,_⟩
  ·have:r=[]:=xi h0
   subst this
   rw [e1]
   exact Rep.nil
  ·rw [e1]
   refine Rep.slice_of h3 (hR gb (k1 gb (by rw [e1];simp [rootV])).1) ae fun j u hu=>?_
   rw [e1] at aa
   have:=aa.cells (g:=gb) rfl j u hu
   rw [Addr.add_lit] at this
   exact this
 have aa:=hr.own
 rcases aa.2 with⟨e1,h0⟩|⟨gb,cap,cur,e1,h1,h2,h3,_⟩
 ·have:l=[]:=xi h0
  subst this
  rw [e1]
  exact⟨_,_,rfl,Rep.nil⟩
 ·rw [e1]
  refine⟨_,_,rfl,Rep.slice_of h3 (hR gb (hr.top gb (by rw [e1];simp [rootV]))) ad fun j u hu=>?_⟩
  rw [e1] at aa
  have:=aa.cells (g:=gb) rfl j u hu
  rw [Addr.add_lit] at this
  exact this
theorem Mem.asPerm[Tabs](hm:Mem P X lo g μ w){o:Nat}{mv:MV}{e e2:Nat}{t:Ty}{ix:List Nat}{l:List (List t.I)}(h:μ o=some mv){k:Bool}(hg:g o=some (.perm k e e2 t ix l)){S':Nat→Prop}(hS:∀b,b<w.heap.size→SS X μ b→S' b)
  (hR:∀b,b∈mv.rs→S' b):∃a c,mv.v=.slice a (permL ix l).length c∧Rep S' w (.slice (.slice t)) (permL ix l) [mv.v]:=by
 obtain⟨y,hy,ai⟩:=hm.ob _ _ h
 rw [hg] at hy
 cases hy
 have hp:PermOK w lo (SS X μ) e e2 t ix l mv:=ai
 have hlen:=hp.len
 have af:∀i,Rep S' w (.slice t) (l.getD i []) [mv.hs.getD i (.slice none 0 0)]:=fun i=>by
  by_cases hi:i<l.length
  ·have hx:mv.hs[i]? =some (mv.hs.getD i (.slice none 0 0)):=by
    rw [xd,xh (by omega)];rfl
   have hl:l[i]? =some (l.getD i []):=by simp [xd,hi]
   generalize mv.hs.getD i (.slice none 0 0)=x at hx
   generalize l.getD i []=r at hl
   obtain⟨k1,xs,aa,ah⟩:=hp.row i x r hx hl
   have ab:=ah.step (S':=S') (w':=w) fun b aj hb=>⟨hS b aj hb,rfl⟩
   rcases aa.2 with⟨e1,h0⟩|⟨gb,cap,cur,e1,h1,h2,h3,_⟩
   ·have:r=[]:=xi h0
    subst this
    rw [e1]
    exact Rep.nil
   ·rw [e1]
    refine Rep.slice_of h3 (hR gb (k1 gb (by rw [e1];simp [rootV])).1) ab fun j u hu=>?_
    rw [e1] at aa
    have:=aa.cells (g:=gb) rfl j u hu
    rw [Addr.add_lit] at this
    exact this
  ·have e1:l.getD i []=[]:=by rw [xd,xbj (by omega)];rfl
   have e2:mv.hs.getD i (.slice none 0 0)=.slice none 0 0:=by rw [xd,xbj (by omega)];rfl
   rw [e1,e2]
   exact Rep.nil
 have ad:∀ix:List Nat,RepL S' w (.slice t) (permL ix l) (ix.map fun i=>mv.hs.getD i (.slice none 0 0)):=fun ix=>by
  induction ix with
  |nil=>rfl
  |cons i ix ih=>exact⟨[_],_,rfl,af i,ih⟩
 have aa:=hp.own
 have ae:(permL ix l).length=ix.length:=by simp [permL]
 rcases aa.2 with⟨e1,h0⟩|⟨gb,cap,cur,e1,h1,h2,h3,_⟩
 ·have:ix=[]:=xi h0
  subst this
  rw [e1]
  exact⟨_,_,rfl,Rep.nil⟩
 ·rw [e1]
  refine⟨_,_,by rw [ae],?_⟩
  rw [←ae]
  refine Rep.slice_of (by rw [ae];exact h3) (hR gb (hp.top gb (by rw [e1];simp [rootV]))) (ad ix) fun j u hu=>?_
  rw [e1] at aa
  have:=aa.cells (g:=gb) rfl j u hu
  rw [Addr.add_lit] at this
  exact this
structure LendOK(X:Nat→Prop)(lo:Nat→Prop)(μ:Nat→Option MV)(w:World)(ρ:List Nat)(lo':Nat→Prop)(μi:Nat→Option MV):Prop where
 mi:∀o i mv,ixOf ρ o 64=some i→μ o=some mv→μi i=some mv
 le:∀b,lo b→lo' b
 rest:∀o mv b,μ o=some mv→ixOf ρ o 64=none→b∈mv.rs→lo' b
 dat:∀b,b<w.heap.size→SS X μ b→lo' b
variable {ρ:List Nat} {lo':Nat→Prop} {μi:Nat→Option MV}
theorem ext0_rel[Tabs](hm:Mem P X lo g μ w)(hL:LendOK X lo μ w ρ lo' μi){S' Sv:Nat→Prop}(hS:∀b,b<w.heap.size→SS X μ b→S' b)(ai:∀b,b<w.heap.size→Sv b→S' b){v:AV}{x:Value}
  (hR:isArr0 ρ v=false∨∀o mv b,μ o=some mv→ixOf ρ o 64=none→b∈mv.rs→S' b) (h:RelV P w lo μ Sv v x):RelV P w lo' μi S' (ext0 ρ g v) x:=by
 cases h with
 |dat ht h=>exact .dat ht (h.step fun b ae hb=>⟨ai b ae hb,rfl⟩)
 |nilsl=>exact .nilsl
 | @arr _ o a n c rs _ h=>
  simp only [ext0]
  split
  next i hi=>exact .arr (hL.mi o i _ hi h)
  next hi=>
   split
   next e t l hg=>
    have aa:=hR.resolve_left (by simp [isArr0,hi])
    obtain⟨a',c',e',hr⟩:=hm.asDat h hg hS (fun b hb=>aa o _ b h hi hb)
    exact .dat rfl hr
   next e t l hg=>
    have aa:=hR.resolve_left (by simp [isArr0,hi])
    obtain⟨a',c',e',hr⟩:=hm.asDeep h hg (fun b hb=>aa o _ b h hi hb)
    exact .dat rfl hr
   next hg=>
    have aa:=hR.resolve_left (by simp [isArr0,hi])
    obtain⟨a',c',e',hr⟩:=hm.asRows h hg hS (fun b hb=>aa o _ b h hi hb)
    exact .dat rfl hr
   next hg=>
    have aa:=hR.resolve_left (by simp [isArr0,hi])
    obtain⟨a',c',e',hr⟩:=hm.asPerm h hg hS (fun b hb=>aa o _ b h hi hb)
    exact .dat rfl hr
   next=>exact .undef
 | @row _ o i v0 rs al a m c h hx=>
  simp only [ext0]
  split
  next=>exact .undef
  next hi=>
   split
   next e e2 t l hg=>
    have aa:=hR.resolve_left (by simp [isArr0])
    obtain⟨y,hy,aj⟩:=hm.ob _ _ h
    rw [hg] at hy
    cases hy
    obtain⟨ak,_⟩:=aj
    obtain⟨ah,xs,ab,af⟩:=hm.rowAt h hx hg
    obtain⟨k1,_⟩:=ak.row i _ (l.getD i []) (fun j k hk=>by cases hk) hx (by simp [xd,ah])
    have ad:=af.step (S':=S') (w':=w) fun b ae hb=>⟨hS b ae hb,rfl⟩
    refine .dat rfl ?_
    rcases ab.2 with⟨e1,h0⟩|⟨gb,cap,cur,e1,h1,h2,h3,_⟩
    ·have:l.getD i []=[]:=xi h0
     rw [e1,this]
     exact Rep.nil
    ·rw [e1]
     refine Rep.slice_of h3 (aa o _ gb h hi (k1 gb (by rw [e1];simp [rootV])).1) ad fun j u hu=>?_
     rw [e1] at ab
     have:=ab.cells (g:=gb) rfl j u hu
     rw [Addr.add_lit] at this
     exact this
   next kp e e2 t ix l hg=>
    have aa:=hR.resolve_left (by simp [isArr0])
    obtain⟨ah,k1,xs,ab,af⟩:=hm.rowAtP h hx hg
    have ad:=af.step (S':=S') (w':=w) fun b ae hb=>⟨hS b ae hb,rfl⟩
    refine .dat rfl ?_
    rcases ab.2 with⟨e1,h0⟩|⟨gb,cap,cur,e1,h1,h2,h3,_⟩
    ·have:l.getD i []=[]:=xi h0
     rw [e1,this]
     exact Rep.nil
    ·rw [e1]
     refine Rep.slice_of h3 (aa o _ gb h hi (k1 gb (by rw [e1];simp [rootV]))) ad fun j u hu=>?_
     rw [e1] at ab
     have:=ab.cells (g:=gb) rfl j u hu
     rw [Addr.add_lit] at this
     exact this
   next=>exact .undef
 |clo h=>exact .clo (h.step hL.le fun b _=>rfl)
 | @fn _ f caps xs hl h=>
  cases caps with
  |nil=>exact .fn hl fun j v hv=>by simp [nth] at hv
  |cons c caps=>exact .undef
 |_=>exact .undef
theorem ext1_rel[Tabs](hm:Mem P X lo g μ w)(hL:LendOK X lo μ w ρ lo' μi){S':Nat→Prop}(hS:∀b,b<w.heap.size→SS X μ b→S' b){v:AV}{x:Value}(hR:isArr ρ v=false∨∀o mv b,μ o=some mv→ixOf ρ o 64=none→b∈mv.rs→S' b)
  (h:RelV P w lo μ (SS X μ) v x):RelV P w lo' μi S' (ext1 ρ g v) x:=by
 have h0:=h
 cases h with
 | @agg _ vs xs hl h=>
  refine .agg (by simpa using hl) fun j v hv=>?_
  rw [nth_eq,xr] at hv
  cases hj:vs[j]? with
  |none=>rw [hj] at hv;cases hv
  |some u=>
   rw [hj] at hv
   simp only [xy,xc] at hv
   subst hv
   refine ext0_rel hm hL hS hS (hR.imp (fun e=>?_) id) (h j u (by rw [nth_eq];exact hj))
   simp only [isArr,xbn] at e
   simpa using e u (xn hj)
 |_=>exact ext0_rel hm hL hS hS (by simpa only [isArr] using hR) h0
theorem extC_rel[Tabs](hm:Mem P X lo g μ w)(hL:LendOK X lo μ w ρ lo' μi){S' Sv:Nat→Prop}(hS:∀b,b<w.heap.size→SS X μ b→S' b){p:Bool}(ah:p=true→(∀b,b<w.heap.size→Sv b→S' b)∧(∀b,lo b→S' b)∧∀b,lo' b→S' b){v:AV}{x:Value}
  (hR:capArr ρ g v=false∨∀o mv b,μ o=some mv→ixOf ρ o 64=none→b∈mv.rs→S' b) (h:RelV P w lo μ Sv v x):RelV P w lo' μi S' (extC ρ g p v) x:=by
 cases h with
 | @box _ o b k rs ai h=>
  simp only [extC]
  split
  next i hi=>exact .box (hL.mi o i _ hi h)
  next hi=>
  split
  next cs hg=>
   split
   next hk=>
    have hc:=hm.cells (k:=k) h hg
    have aj:b∈(⟨.pointer (some ⟨b,0,none⟩),rs,ai⟩:MV).rs:=by
     obtain⟨y,hy,ak⟩:=hm.ob _ _ h
     rw [hg] at hy
     cases hy
     obtain⟨b',vs,e,he,_⟩:=ak
     cases he
     simp
    have hex:∀j,∃x,∀v,nth (cs.drop k) j=some v→w.cell? ⟨b,k+j,none⟩=some x∧RelV P w lo μ (SS X μ) v x:=fun j=>by
     cases hj:nth (cs.drop k) j with
     |none=>exact⟨undef,fun v hv=>by cases hv⟩
     |some v=>obtain⟨x,h1,h2⟩:=hc j v hj;exact⟨x,fun v' al=>by cases al;exact⟨h1,h2⟩⟩
    have aa:∀j u,nth ((cs.map (ext0 ρ g)).drop k) j=some u→∃v,nth (cs.drop k) j=some v∧u=ext0 ρ g v:=fun j u hu=>by
     rw [nth_eq,xaa,xr] at hu
     cases hj:cs[k+j]? with
     |none=>rw [hj] at hu;cases hu
     |some v=>rw [hj] at hu;simp at hu;exact⟨v,by rw [nth_eq,xaa];exact hj,hu.symm⟩
    refine .ptr (fun j=>(hex j).choose) ?_ (.inr (hL.rest o _ b h hi aj)) (fun j u hu=>?_) fun j u hu=>?_
    ·intro e
     have:=congrArg List.length e
     simp at this
     omega
    ·obtain⟨v,h1,_⟩:=aa j u hu
     exact((hex j).choose_spec v h1).1
    ·obtain⟨v,h1,rfl⟩:=aa j u hu
     refine ext0_rel hm hL hS hS (hR.imp (fun e=>?_) id) ((hex j).choose_spec v h1).2
     simp only [capArr,hi,hg,xbn] at e
     have ad:v∈cs:=by
      rw [nth_eq,xaa] at h1
      exact xn h1
     simpa using e v ad
   next=>exact .undef
  next=>exact .undef
 | @ptr _ cs b k xs ae hb hx h=>
  cases p with
  |false=>exact .undef
  |true=>
   obtain⟨ab,hlo,af⟩:=ah rfl
   have ao:b<w.heap.size:=by
    cases cs with
    |nil=>exact absurd rfl ae
    |cons c cs=>exact block_lt_of_cell (hx 0 c rfl)
   refine .ptr xs (by simpa using ae) (.inl (hb.elim (ab b ao) (hlo b))) (fun j u hu=>?_) fun j u hu=>?_
   ·rw [nth_eq,xr] at hu
    cases hj:cs[j]? with
    |none=>rw [hj] at hu;cases hu
    |some v=>exact hx j v (by rw [nth_eq];exact hj)
   ·rw [nth_eq,xr] at hu
    cases hj:cs[j]? with
    |none=>rw [hj] at hu;cases hu
    |some v=>
     rw [hj] at hu
     simp at hu
     subst hu
     exact ext0_rel hm hL hS ab (.inr fun o mv b ho hi hb=>af b (hL.rest o mv b ho hi hb)) (h j v (by rw [nth_eq];exact hj))
 |_=>exact .undef
theorem ext0F_rel[Tabs](hm:Mem P X lo g μ w)(hL:LendOK X lo μ w ρ lo' μi){S' Sv:Nat→Prop}(hS:∀b,b<w.heap.size→SS X μ b→S' b)(ab:∀b,b<w.heap.size→Sv b→S' b){v:AV}{x:Value}
  (hR:isArr0 ρ v=false∨∀o mv b,μ o=some mv→ixOf ρ o 64=none→b∈mv.rs→S' b) (h:RelV P w lo μ Sv v x):RelV P w lo' μi S' (ext0F ρ g v) x:=by
 have h0:=h
 cases h with
 | @fn _ f caps xs hl h=>
  refine .fn (by simpa using hl) fun j u hu=>?_
  rw [nth_eq,xr] at hu
  cases hj:caps[j]? with
  |none=>rw [hj] at hu;cases hu
  |some c=>
   rw [hj] at hu
   simp only [xy,xc] at hu
   subst hu
   exact extC_rel (S':=fun b=>S' b∨lo' b) (Sv:=fun b=>Sv b∨lo b) hm hL (fun b aa hs=>.inr (hL.dat b aa hs)) (fun _=>⟨fun b aa hs=>hs.imp (ab b aa) (hL.le b),fun b h=>.inr (hL.le b h),fun b h=>.inr h⟩) (.inr fun o mv b ho hi hb=>.inr (hL.rest o mv b ho hi hb)) (h j c (by rw [nth_eq];exact hj))
 |_=>exact ext0_rel hm hL hS ab hR h0
theorem extC2_rel[Tabs](hm:Mem P X lo g μ w)(hL:LendOK X lo μ w ρ lo' μi){S' Sv:Nat→Prop}(hS:∀b,b<w.heap.size→SS X μ b→S' b){p:Bool}(ad:p=true→(∀b,b<w.heap.size→Sv b→S' b)∧(∀b,lo b→S' b)∧∀b,lo' b→S' b){v:AV}{x:Value}
  (hR:capArr ρ g v=false∨∀o mv b,μ o=some mv→ixOf ρ o 64=none→b∈mv.rs→S' b) (h:RelV P w lo μ Sv v x):RelV P w lo' μi S' (extC2 ρ g p v) x:=by
 cases h with
 | @box _ o b k rs ae h=>
  simp only [extC2]
  split
  next i hi=>exact .box (hL.mi o i _ hi h)
  next hi=>
  split
  next cs hg=>
   split
   next hk=>
    have hc:=hm.cells (k:=k) h hg
    have af:b∈(⟨.pointer (some ⟨b,0,none⟩),rs,ae⟩:MV).rs:=by
     obtain⟨y,hy,ah⟩:=hm.ob _ _ h
     rw [hg] at hy
     cases hy
     obtain⟨b',vs,e,he,_⟩:=ah
     cases he
     simp
    have hex:∀j,∃x,∀v,nth (cs.drop k) j=some v→w.cell? ⟨b,k+j,none⟩=some x∧RelV P w lo μ (SS X μ) v x:=fun j=>by
     cases hj:nth (cs.drop k) j with
     |none=>exact⟨undef,fun v hv=>by cases hv⟩
     |some v=>obtain⟨x,h1,h2⟩:=hc j v hj;exact⟨x,fun v' ai=>by cases ai;exact⟨h1,h2⟩⟩
    have aa:∀j u,nth ((cs.map (ext0F ρ g)).drop k) j=some u→∃v,nth (cs.drop k) j=some v∧u=ext0F ρ g v:=fun j u hu=>by
     rw [nth_eq,xaa,xr] at hu
     cases hj:cs[k+j]? with
     |none=>rw [hj] at hu;cases hu
     |some v=>rw [hj] at hu;simp at hu;exact⟨v,by rw [nth_eq,xaa];exact hj,hu.symm⟩
    refine .ptr (fun j=>(hex j).choose) ?_ (.inr (hL.rest o _ b h hi af)) (fun j u hu=>?_) fun j u hu=>?_
    ·intro e
     have:=congrArg List.length e
     simp at this
     omega
    ·obtain⟨v,h1,_⟩:=aa j u hu
     exact((hex j).choose_spec v h1).1
    ·obtain⟨v,h1,rfl⟩:=aa j u hu
     refine ext0F_rel hm hL hS hS (hR.imp (fun e=>?_) id) ((hex j).choose_spec v h1).2
     simp only [capArr,hi,hg,xbn] at e
     have ab:v∈cs:=by
      rw [nth_eq,xaa] at h1
      exact xn h1
     simpa using e v ab
   next=>exact .undef
  next=>exact .undef
 | @ptr _ cs b k xs aj hb hx h=>exact extC_rel hm hL hS ad (.inl rfl) (.ptr xs aj hb hx h)
 |_=>exact .undef
theorem extF_rel[Tabs](hm:Mem P X lo g μ w)(hL:LendOK X lo μ w ρ lo' μi){S0:Nat→Prop}(p:Bool){v:AV}{x:Value}(h:RelV P w lo μ (fun b=>SS X μ b∨lo b) v x):RelV P w lo' μi (fun b=>S0 b∨lo' b) (extC ρ g p v) x:=
 extC_rel hm hL (fun b aa hs=>.inr (hL.dat b aa hs)) (fun _=>⟨fun b aa hs=>.inr (hs.elim (hL.dat b aa) (hL.le b)),fun b h=>.inr (hL.le b h),fun b h=>.inr h⟩) (.inr fun o mv b ho hi hb=>.inr (hL.rest o mv b ho hi hb)) h
theorem extF2_rel[Tabs](hm:Mem P X lo g μ w)(hL:LendOK X lo μ w ρ lo' μi){S0:Nat→Prop}(p:Bool){v:AV}{x:Value}(h:RelV P w lo μ (fun b=>SS X μ b∨lo b) v x):RelV P w lo' μi (fun b=>S0 b∨lo' b) (extC2 ρ g p v) x:=
 extC2_rel hm hL (fun b aa hs=>.inr (hL.dat b aa hs)) (fun _=>⟨fun b aa hs=>.inr (hs.elim (hL.dat b aa) (hL.le b)),fun b h=>.inr (hL.le b h),fun b h=>.inr h⟩) (.inr fun o mv b ho hi hb=>.inr (hL.rest o mv b ho hi hb)) h
theorem purL_rel{S' Sv:Nat→Prop}{μi:Nat→Option MV}{lo':Nat→Prop}(aa:∀b,b<w.heap.size→Sv b→S' b){v:AV}{x:Value}(h:RelV P w lo μ Sv v x):RelV P w lo' μi S' (purL v) x:=by
 cases h with
 |dat ht h=>exact .dat ht (h.step fun b ab hb=>⟨aa b ab hb,rfl⟩)
 |nilsl=>exact .nilsl
 |_=>exact .undef
theorem pur1_rel{S' Sv:Nat→Prop}{μi:Nat→Option MV}{lo':Nat→Prop}(aa:∀b,b<w.heap.size→Sv b→S' b){v:AV}{x:Value}(h:RelV P w lo μ Sv v x):RelV P w lo' μi S' (pur1 v) x:=by
 have h0:=h
 cases h with
 | @agg _ vs xs hl h=>
  refine .agg (by simpa using hl) fun j u hu=>?_
  rw [nth_eq,xr] at hu
  cases hj:vs[j]? with
  |none=>rw [hj] at hu;cases hu
  |some c=>
   rw [hj] at hu
   simp only [xy,xc] at hu
   subst hu
   exact purL_rel aa (h j c (by rw [nth_eq];exact hj))
 |_=>exact purL_rel aa h0
theorem extA_rel[Tabs](hm:Mem P X lo g μ w)(hL:LendOK X lo μ w ρ lo' μi){S':Nat→Prop}(hS:∀b,b<w.heap.size→SS X μ b→S' b){v:AV}{x:Value}(hR:isArr ρ v=false∨∀o mv b,μ o=some mv→ixOf ρ o 64=none→b∈mv.rs→S' b)
  (h:RelV P w lo μ (SS X μ) v x):RelV P w lo' μi S' (extA ρ g v) x:=by
 have h0:=h
 cases h with
 | @fn _ f caps xs hl h=>
  refine .fn (by simpa using hl) fun j v hv=>?_
  rw [nth_eq,xr] at hv
  cases hj:caps[j]? with
  |none=>rw [hj] at hv;cases hv
  |some u=>
   rw [hj] at hv
   simp only [xy,xc] at hv
   subst hv
   exact extF2_rel hm hL true (h j u (by rw [nth_eq];exact hj))
 | @bnd _ f fs xs hl h=>
  refine .bnd (by simpa using hl) fun j v hv=>?_
  rw [nth_eq,xr] at hv
  cases hj:fs[j]? with
  |none=>rw [hj] at hv;cases hv
  |some u=>
   rw [hj] at hv
   simp only [xy,xc] at hv
   subst hv
   exact pur1_rel hS (h j u (by rw [nth_eq];exact hj))
 | @box _ o b k rs _ h=>
  simp only [extA]
  split
  next i hi=>exact .box (hL.mi o i _ hi h)
  next=>exact .undef
 |_=>exact ext1_rel hm hL hS hR h0
theorem extL_rel[Tabs](hm:Mem P X lo g μ w)(hL:LendOK X lo μ w ρ lo' μi){S':Nat→Prop}(hS:∀b,b<w.heap.size→SS X μ b→S' b){v:AV}{x:Value}(h:RelV P w lo μ (SS X μ) v x):RelV P w lo' μi S' (extL ρ g v) x:=by
 cases h with
 | @fn _ f caps xs hl h=>
  refine .fn (by simpa using hl) fun j v hv=>?_
  rw [nth_eq,xr] at hv
  cases hj:caps[j]? with
  |none=>rw [hj] at hv;cases hv
  |some u=>
   rw [hj] at hv
   simp only [xy,xc] at hv
   subst hv
   exact extF_rel hm hL false (h j u (by rw [nth_eq];exact hj))
 | @box _ o b k rs _ h=>
  simp only [extL]
  split
  next i hi=>exact .box (hL.mi o i _ hi h)
  next=>exact .undef
 | @arr _ o a n c rs _ h=>
  simp only [extL]
  split
  next i hi=>exact .arr (hL.mi o i _ hi h)
  next=>exact .undef
 |dat ht h=>exact .dat ht (h.step fun b aa hb=>⟨hS b aa hb,rfl⟩)
 |nilsl=>exact .nilsl
 |clo h=>exact .clo (h.step hL.le fun b _=>rfl)
 |_=>exact .undef
end
end Go.Proofs.YteiekijgoifhoaaGreatDoor
