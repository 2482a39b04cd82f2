/-
 The state; arrays that are given up.
-/
import Derived.Test.YteiekijgoifhoaaGreatDoorB12
import Derived.Laws.OwnMore
namespace Go.Proofs.YteiekijgoifhoaaGreatDoor
open Go.RowKit (Below)
structure Par where
 n:Nat
 k:List Nat
 v:Nat→Value
def Par.has(N:Par)(d:Nat):Prop:=d∉N.k∧d<N.n
structure SzOK(N:Par)(a:Act):Prop where
 n:a.tmps.size=N.n
 v:∀i,i∈N.k→a.tmps.getD i undef=N.v i
theorem SzOK.put{N:Par}{a:Act}(h:SzOK N a){d:Nat}(hd:N.has d){x:Value}:SzOK N (a.put (some d) x):=
 ⟨by simp [Act.put,h.n],fun i hi=>by
  have e:d≠i:=fun e=>hd.1 (e▸hi)
  have:=h.v i hi
  simp only [Act.put]
  simpa [xcq e] using this⟩
structure RelF[Tabs](P:Program)(X:Nat→Prop)(lo:Nat→Prop)(N:Par)(w0:World)(sl:Nat→AV)(g:Nat→Option Ob)(a:Act)(w:World)(μ:Nat→Option MV):Prop where
 mem:Mem P X lo g μ w
 fr:∀i,RelV P w lo μ (SS X μ) (sl i) (a.tmps.getD i undef)
 bel:Kept lo w0 w
 df:a.defers=[]
 sz:SzOK N a
abbrev Rel[Tabs](P:Program)(X:Nat→Prop)(lo:Nat→Prop)(N:Par)(w0:World)(s:St)(a:Act)(w:World)(μ:Nat→Option MV):Prop:=RelF P X lo N w0 s.slot s.g a w μ
theorem look_map{α β:Type}(f:α→β):∀ (l:List (Nat×α)) (i:Nat),look (l.map fun p=>(p.1,f p.2)) i=(look l i).map f
 | [],_=>rfl
 |(k,x)::r,i=>by
  simp only [xbm,look]
  split
  ·rfl
  ·exact look_map f r i
theorem look_filter[Tabs]{α:Type}(o:Nat):∀ (l:List (Nat×α)) (i:Nat),i≠o→look (l.filter fun p=> !(Nat.beq p.1 o)) i=look l i
 | [],_,_=>rfl
 |(k,x)::r,i,h=>by
  by_cases hk:k=o
  ·subst hk
   simp only [xcf,beq_self,xbv,xaf,if_false,look]
   rw [beq_ne (xcc h)]
   exact look_filter k r i h
  ·simp only [xcf,beq_ne hk,xfg,if_true,look]
   split
   ·rfl
   ·exact look_filter o r i h
theorem look_append{α:Type}:∀ (l r:List (Nat×α)) (i:Nat),look (l++r) i=match look l i with|some x=>some x|none=>look r i
 | [],r,i=>rfl
 |(k,x)::l,r,i=>by
  simp only [xdn,look]
  split
  ·rfl
  ·exact look_append l r i
section
variable {P:Program} {tt:Nat→TD} {w:World} {lo:Nat→Prop} {N:Par} {μ:Nat→Option MV} {S:Nat→Prop} {X:Nat→Prop} {g:Nat→Option Ob} {a:Act} {E:Env} {w0:World}
def without(μ:Nat→Option MV)(o p:Nat):Option MV:=if p=o then none else μ p
theorem frz2_rel[Tabs]{μ':Nat→Option MV}{o:Nat}{d:AV}{S S':Nat→Prop}(hlo:(∀b,lo b→b<w.heap.size))(hμ:∀p mv,p≠o→μ p=some mv→μ' p=some mv)(hd:∀mv,μ o=some mv→RelV P w lo μ' S' d mv.v)(hS:∀b,b<w.heap.size→S b→S' b){v:AV}{x:Value}
  (h:RelV P w lo μ S v x):RelV P w lo μ' S' (frz2 o d v) x:=frz2_relH hlo (fun p mv hp h=>⟨mv.rs,mv.hs,hμ p mv hp h,Ext.refl _⟩) hd hS h
theorem frzOb_rel[Tabs]{μ':Nat→Option MV}{o:Nat}{d:AV}{S S':Nat→Prop}(hlo:(∀b,lo b→b<w.heap.size))(hμ:∀p mv,p≠o→μ p=some mv→μ' p=some mv)(hd:∀mv,μ o=some mv→RelV P w lo μ' S' d mv.v)(hS:∀b,b<w.heap.size→S b→S' b){x:Ob}{mv:MV}
  (h:ObOK P w lo μ S x mv):ObOK P w lo μ' S' (frzOb o d x) mv:=frzOb_relH hlo (fun p mv hp h=>⟨mv.rs,mv.hs,hμ p mv hp h,Ext.refl _⟩) hd hS h
theorem SS_without{o:Nat}{b:Nat}(h:SS X μ b):SS X (without μ o) b:=
 ⟨h.1,fun p mv hp e=>by
  unfold without at hp
  split at hp
  ·cases hp
  ·exact h.2 p mv hp e⟩
theorem without_ne{o p:Nat}{mv:MV}(h:p≠o)(hp:μ p=some mv):without μ o p=some mv:=by simp [without,h,hp]
theorem without_inv{o p:Nat}{mv:MV}(h:without μ o p=some mv):p≠o∧μ p=some mv:=by
 unfold without at h
 split at h
 ·cases h
 ·exact⟨by assumption,h⟩
theorem Rel.swap[Tabs]{s:St}(h:Rel P X lo N w0 s a w μ){o:Nat}{d:AV}(hd:∀mv,μ o=some mv→RelV P w lo (without μ o) (SS X (without μ o)) d mv.v):Rel P X lo N w0 (s.swap o d []) a w (without μ o):=by
 have hS:∀b,b<w.heap.size→SS X μ b→SS X (without μ o) b:=fun b _ hs=>SS_without hs
 refine⟨⟨h.mem.hX,h.mem.hlo,fun p mv hp=>?_,fun p p' mv mv' b h1 h2 h3 h4=>h.mem.dis p p' mv mv' b (without_inv h1).2 (without_inv h2).2 h3 h4,h.mem.tab⟩,fun i=>?_,h.bel,h.df,h.sz⟩
 ·obtain⟨aa,hp⟩:=without_inv hp
  obtain⟨x,hx,ab⟩:=h.mem.ob p mv hp
  refine⟨frzOb o d x,?_,frzOb_rel h.mem.hlo (fun p mv aa hp=>without_ne aa hp) hd hS ab⟩
  simp only [St.g,St.swap,xbu,look_map]
  rw [look_filter o s.ob p aa]
  simp only [St.g] at hx
  rw [hx]
  rfl
 ·simp only [St.slot,St.swap,look_map]
  have:=frz2_rel (d:=d) h.mem.hlo (fun p mv aa hp=>without_ne (μ:=μ) aa hp) hd hS (h.fr i)
  simp only [St.slot] at this
  cases hl:look s.fr i with
  |none=>exact .undef
  |some v=>rw [hl] at this;exact this
def given(μ:Nat→Option MV)(o d q:Nat):Option MV:=
 if q=d then none else if q=o then(μ o).map fun mv=>⟨mv.v,mv.rs++((μ d).map (·.rs)).getD [],mv.hs⟩ else μ q
theorem given_inv{o d q:Nat}{mv:MV}(h:given μ o d q=some mv):q≠d∧((q=o∧∃mv0,μ o=some mv0∧mv=⟨mv0.v,mv0.rs++((μ d).map (·.rs)).getD [],mv0.hs⟩)∨(q≠o∧μ q=some mv)):=by
 unfold given at h
 split at h
 ·cases h
 ·refine⟨by assumption,?_⟩
  split at h
  ·cases ho:μ o with
   |none=>rw [ho] at h;cases h
   |some mv0=>
    rw [ho] at h
    simp only [xy,xc] at h
    exact .inl ⟨by assumption,mv0,rfl,h.symm⟩
  ·exact .inr ⟨by assumption,h⟩
theorem given_rs{o d q:Nat}{mv:MV}(h:given μ o d q=some mv){b:Nat}(hb:b∈mv.rs):∃p mv0,μ p=some mv0∧b∈mv0.rs∧(p=q∨(p=d∧q=o)):=by
 obtain⟨_,⟨rfl,mv0,h0,rfl⟩|⟨_,h1⟩⟩:=given_inv h
 ·simp only [xq] at hb
  rcases hb with hb|hb
  ·exact⟨_,mv0,h0,hb,.inl rfl⟩
  ·cases hd:μ d with
   |none=>rw [hd] at hb;simp at hb
   |some aa=>rw [hd] at hb;exact⟨d,aa,hd,by simpa using hb,.inr ⟨rfl,rfl⟩⟩
 ·exact⟨q,mv,h1,hb,.inl rfl⟩
theorem Rel.backV[Tabs]{s:St}(h:Rel P X lo N w0 s a w μ){o d i e1 e:Nat}{t:Ty}{l:List (List t.I)}{r:List t.I}(aj:s.g o=some (.rows e1 e t l (some (i,some d))))(ay:s.g d=some (.arr e t r)){dv:AV}
  (az:∀ {S':Nat→Prop} ab,μ d=some ab→RelV P w lo (given μ o d) S' dv ab.v):
  Rel P X lo N w0 (s.swap d dv [(o,.rows e1 e t (l.set i r) none)]) a w (given μ o d):=by
 have ak:o≠d:=fun e=>by rw [e,ay] at aj;cases aj
 have hμ:∀p mv,p≠d→μ p=some mv→∃rs hs,given μ o d p=some ⟨mv.v,rs,hs⟩∧Ext mv.hs hs:=fun p mv hp hm=>by
  unfold given
  rw [if_neg hp]
  split
  next e=>subst e;rw [hm];exact⟨_,_,rfl,Ext.refl _⟩
  next=>exact⟨mv.rs,mv.hs,hm,Ext.refl _⟩
 have hS:∀b,b<w.heap.size→SS X μ b→SS X (given μ o d) b:=fun b _ hs=>⟨hs.1,fun q mv hq hb=>by
  obtain⟨p,mv0,k1,k2,_⟩:=given_rs hq hb
  exact hs.2 p mv0 k1 k2⟩
 have ba:∀ab,μ d=some ab→ObOK P w lo μ (SS X μ) (.arr e t r) ab:=fun ab hd=>by
  obtain⟨y,hy,af⟩:=h.mem.ob d ab hd
  rw [ay] at hy
  cases hy
  exact af
 refine⟨⟨h.mem.hX,h.mem.hlo,fun p mv hp=>?_,fun p p' mv mv' b h1 h2 h3 h4=>?_,h.mem.tab⟩,fun j=>?_,h.bel,h.df,h.sz⟩
 ·obtain⟨be,⟨rfl,mv0,k0,rfl⟩|⟨bf,k1⟩⟩:=given_inv hp
  ·refine⟨.rows e1 e t (l.set i r) none,by simp [St.g,St.swap,look],?_⟩
   obtain⟨y,hy,af⟩:=h.mem.ob _ mv0 k0
   rw [aj] at hy
   cases hy
   obtain⟨hr,hk⟩:=af
   obtain⟨x,bg,bu,k2,k3⟩:=hk i d rfl
   obtain⟨⟨_,al⟩,bh,xs,down,bb⟩:=ba _ k3
   simp only at al bh down
   have hlen:=hr.len
   have bw:i<mv0.hs.length:=(xk.1 k2).1
   have ai:((μ d).map (·.rs)).getD []=(rootV x).toList:=by rw [k3];simp [al]
   have ad:∀b,rootV x=some b→b∈bg:=fun b hb=>by rw [al,hb];simp
   have ah:∀ {l:List t.I} {cs},RepL (SS X μ) w t l cs→RepL (SS X (given μ p d)) w t l cs:=fun hc=>hc.step fun b hb hs=>⟨hS b hb hs,rfl⟩
   refine⟨⟨by simpa using hr.own,fun b hb=>?_,fun b hb=>?_,hr.slc,fun j y q hj hy hq=>?_,fun j k y z b hj aa hy hz h3 h4=>?_⟩,fun i' d' bj=>by cases bj⟩
   ·exact xag _ (hr.top b hb)
   ·rw [ai] at hb
    rcases xq.1 hb with hb|hb
    ·exact hr.low b hb
    ·have hb:rootV x=some b:=by simpa using hb
     exact h.mem.lt k3 (ad b hb)
   ·by_cases ao:j=i
    ·subst ao
     rw [k2] at hy
     cases hy
     rw [xcj] at hq
     rw [if_pos rfl,if_pos (by omega)] at hq
     cases hq
     refine⟨fun b hb=>⟨by rw [ai];exact xal _ (by simp [hb]),fun bk=>?_⟩,xs,down,ah bb⟩
     exact ak (h.mem.dis _ d mv0 _ b k0 k3 (hr.top b bk) (ad b hb))
    ·rw [xdh (xcc ao)] at hq
     obtain⟨m1,ys,m2,m3⟩:=hr.row j y q (fun i' k' aa=>by cases aa;exact ao) hy hq
     exact⟨fun b hb=>⟨xag _ (m1 b hb).1,(m1 b hb).2⟩,ys,m2,ah m3⟩
   ·have ae:∀ {j':Nat} {y':Value},j'≠i→mv0.hs[j']? =some y'→rootV y'=some b→b∈mv0.rs:=fun{j' y'} bl bc bm=>by
     have bn:j'<l.length:=by have:=(xk.1 bc).1;omega
     exact((hr.row j' y' _ (fun i' k' aa=>by cases aa;exact bl) bc (xh bn)).1 b bm).1
    by_cases au:j=i<;>by_cases av:k=i
    ·omega
    ·subst au
     rw [k2] at hy
     cases hy
     exact absurd (h.mem.dis _ d mv0 _ b k0 k3 (ae av hz h4) (ad b h3)) ak
    ·subst av
     rw [k2] at hz
     cases hz
     exact absurd (h.mem.dis _ d mv0 _ b k0 k3 (ae au hy h3) (ad b h4)) ak
    ·exact hr.apart j k y z b (fun i' k' aa=>by cases aa;exact au) (fun i' k' aa=>by cases aa;exact av) hy hz h3 h4
  ·obtain⟨y,hy,af⟩:=h.mem.ob p mv k1
   refine⟨frzOb d dv y,?_,frzOb_relH h.mem.hlo hμ (fun mv hm=>az mv hm) hS af⟩
   simp only [St.g,St.swap,xdc,look,beq_ne (xcc bf),look_map]
   rw [look_filter d s.ob p be]
   simp only [St.g] at hy
   rw [hy]
   rfl
 ·obtain⟨q,mv0,k1,k2,k3⟩:=given_rs h1 h3
  obtain⟨q',bd,bo,bp,br⟩:=given_rs h2 h4
  have aw:=h.mem.dis q q' mv0 bd b k1 bo k2 bp
  have bs:=(given_inv h1).1
  have bt:=(given_inv h2).1
  rcases k3 with rfl|⟨rfl,rfl⟩<;>rcases br with rfl|⟨rfl,rfl⟩
  ·exact aw
  ·exact absurd aw bs
  ·exact absurd aw.symm bt
  ·rfl
 ·simp only [St.slot,St.swap,look_map]
  have:=frz2_relH (d:=dv) h.mem.hlo hμ (fun mv hm=>az mv hm) hS (h.fr j)
  simp only [St.slot] at this
  cases hl:look s.fr j with
  |none=>exact .undef
  |some v=>rw [hl] at this;exact this
theorem Rel.back[Tabs]{s:St}(h:Rel P X lo N w0 s a w μ){o d i e1 e:Nat}{t:Ty}{l:List (List t.I)}{r:List t.I}(aa:s.g o=some (.rows e1 e t l (some (i,some d))))(ab:s.g d=some (.arr e t r)):
  Rel P X lo N w0 (s.swap d .undef [(o,.rows e1 e t (l.set i r) none)]) a w (given μ o d):=h.backV aa ab fun _ _=>.undef
theorem Rel.freeze[Tabs]{s:St}(h:Rel P X lo N w0 s a w μ)(o:Nat):∃μ',Rel P X lo N w0 (s.freeze o) a w μ':=by
 unfold St.freeze
 split
 next e t l hg=>
  split
  next p hp=>
   split
   next e1 e2 t2 l2 i d' ab=>
    split
    next l' hd he hc=>
     have hd:=xe hd
     have he:=xe he
     subst hd;subst he
     obtain⟨et,hl⟩:=Ty.cast_spec hc
     cases et
     have hl:l'=l:=hl
     subst hl
     exact⟨_,h.back ab hg⟩
    next=>exact⟨μ,h⟩
   next=>exact⟨μ,h⟩
  next=>
   refine⟨_,h.swap fun mv hmv=>?_⟩
   have hR:∀b,b∈mv.rs→SS X (without μ o) b:=fun b hb=>by
    refine⟨fun hx=>?_,fun p mv' hp e=>?_⟩
    ·exact(h.mem.lt hmv hb).1 (h.mem.hX b hx)
    ·obtain⟨aa,hp⟩:=without_inv hp
     exact aa (h.mem.dis p o mv' mv b hp hmv e hb)
   obtain⟨a',c,_,hr⟩:=h.mem.asDat hmv hg (S':=SS X (without μ o)) (fun b _ hs=>SS_without hs) hR
   exact .dat rfl hr
 next e e2 t l hg=>
  refine⟨_,h.swap fun mv hmv=>?_⟩
  have hR:∀b,b∈mv.rs→SS X (without μ o) b:=fun b hb=>by
   refine⟨fun hx=>?_,fun p mv' hp e=>?_⟩
   ·exact(h.mem.lt hmv hb).1 (h.mem.hX b hx)
   ·obtain⟨aa,hp⟩:=without_inv hp
    exact aa (h.mem.dis p o mv' mv b hp hmv e hb)
  obtain⟨a',c,_,hr⟩:=h.mem.asRows hmv hg (S':=SS X (without μ o)) (fun b _ hs=>SS_without hs) hR
  exact .dat rfl hr
 next e t l hg=>
  refine⟨_,h.swap fun mv hmv=>?_⟩
  have hR:∀b,b∈mv.rs→SS X (without μ o) b:=fun b hb=>by
   refine⟨fun hx=>?_,fun p mv' hp e=>?_⟩
   ·exact(h.mem.lt hmv hb).1 (h.mem.hX b hx)
   ·obtain⟨aa,hp⟩:=without_inv hp
    exact aa (h.mem.dis p o mv' mv b hp hmv e hb)
  obtain⟨a',c,_,hr⟩:=h.mem.asDeep hmv hg (S':=SS X (without μ o)) hR
  exact .dat rfl hr
 next kp e e2 t ix l hg=>
  refine⟨_,h.swap fun mv hmv=>?_⟩
  have hR:∀b,b∈mv.rs→SS X (without μ o) b:=fun b hb=>by
   refine⟨fun hx=>?_,fun p mv' hp e=>?_⟩
   ·exact(h.mem.lt hmv hb).1 (h.mem.hX b hx)
   ·obtain⟨aa,hp⟩:=without_inv hp
    exact aa (h.mem.dis p o mv' mv b hp hmv e hb)
  obtain⟨a',c,_,hr⟩:=h.mem.asPerm hmv hg (S':=SS X (without μ o)) (fun b _ hs=>SS_without hs) hR
  exact .dat rfl hr
 next=>exact⟨μ,h⟩
theorem Rel.backR[Tabs]{s:St}(h:Rel P X lo N w0 s a w μ){o:Nat}(ho:∃mv,μ o=some mv)(p:Nat):∃μ',Rel P X lo N w0 (s.backR o p) a w μ':=by
 unfold St.backR
 split
 next e1 e2 t2 l2 i d' e t l aa ab=>
  split
  next l' hd he hc=>
   have hd:=xe hd
   have he:=xe he
   subst hd;subst he
   obtain⟨et,hl⟩:=Ty.cast_spec hc
   cases et
   have hl:l'=l:=hl
   subst hl
   obtain⟨mv,hmv⟩:=ho
   obtain⟨y,hy,ad⟩:=h.mem.ob _ mv hmv
   rw [aa] at hy
   cases hy
   obtain⟨x,ah,ai,k2,k3⟩:=ad.2 i d' rfl
   obtain⟨a0,n0,c0,rfl⟩:=ad.1.slc x (xn k2)
   have af:o≠d':=fun e=>by rw [e,ab] at aa;cases aa
   refine⟨_,h.backV aa ab fun aj ae=>?_⟩
   rw [k3] at ae
   cases ae
   have hg:given μ o d' o=(μ o).map fun mv=>⟨mv.v,mv.rs++((μ d').map (·.rs)).getD [],mv.hs⟩:=by
    unfold given
    rw [if_neg af,if_pos rfl]
   rw [hmv] at hg
   exact .row hg k2
  next=>exact h.freeze p
 next=>exact h.freeze p
theorem Rel.drop[Tabs]{s:St}(h:Rel P X lo N w0 s a w μ)(o:Nat):∃μ',Rel P X lo N w0 (s.drop o) a w μ':=⟨_,h.swap fun _ _=>.undef⟩
def flatM(μ:Nat→Option MV)(o q:Nat):Option MV:=if q=o then(μ o).map fun mv=>⟨mv.v,(rootV mv.v).toList,[]⟩ else μ q
theorem flatM_ne{o q:Nat}(h:q≠o):flatM μ o q=μ q:=by simp [flatM,h]
theorem flatM_inv{o q:Nat}{mv:MV}(h:flatM μ o q=some mv):(q=o∧∃mv0,μ o=some mv0∧mv=⟨mv0.v,(rootV mv0.v).toList,[]⟩)∨(q≠o∧μ q=some mv):=by
 unfold flatM at h
 split at h
 ·cases ho:μ o with
  |none=>rw [ho] at h;cases h
  |some mv0=>
   rw [ho] at h
   simp only [xy,xc] at h
   exact .inl ⟨by assumption,mv0,rfl,h.symm⟩
 ·exact .inr ⟨by assumption,h⟩
theorem Rel.flat[Tabs]{s:St}(h:Rel P X lo N w0 s a w μ)(o:Nat):∃μ',Rel P X lo N w0 (s.flat o) a w μ':=by
 unfold St.flat
 split
 next e e2 t l hg=>
  have ah:∀mv,μ o=some mv→∀b,rootV mv.v=some b→b∈mv.rs:=fun mv hmv b hb=>by
   obtain⟨y,hy,ab⟩:=h.mem.ob _ _ hmv
   rw [hg] at hy
   cases hy
   exact ab.1.top b hb
  have ad:∀q mv b,flatM μ o q=some mv→b∈mv.rs→∃mv0,μ q=some mv0∧b∈mv0.rs:=fun q mv b hq hb=>by
   rcases flatM_inv hq with⟨rfl,mv0,h0,rfl⟩|⟨_,h0⟩
   ·exact⟨mv0,h0,ah mv0 h0 b (by simpa using hb)⟩
   ·exact⟨mv,h0,hb⟩
  have hS:∀b,b<w.heap.size→SS X μ b→SS X (flatM μ o) b:=fun b _ hs=>⟨hs.1,fun q mv hq hb=>by
   obtain⟨mv0,h0,h1⟩:=ad q mv b hq hb
   exact hs.2 q mv0 h0 h1⟩
  have hd:∀mv,μ o=some mv→RelV P w lo (flatM μ o) (SS X (flatM μ o)) (.arr o) mv.v:=fun mv hmv=>by
   obtain⟨y,hy,ab⟩:=h.mem.ob _ _ hmv
   rw [hg] at hy
   cases hy
   have hx:∃a n c,mv.v=.slice a n c:=by
    rcases ab.1.own.2 with⟨e1,_⟩|⟨_,_,_,e1,_⟩
    ·exact⟨_,_,_,e1⟩
    ·exact⟨_,_,_,e1⟩
   obtain⟨a',n',c',hx⟩:=hx
   rw [hx]
   exact .arr (rs:=(rootV mv.v).toList) (hs:=[]) (by simp [flatM,hmv,hx])
  refine⟨flatM μ o,⟨h.mem.hX,h.mem.hlo,fun p mv hp=>?_,fun p p' mv mv' b h1 h2 h3 h4=>?_,h.mem.tab⟩,fun j=>?_,h.bel,h.df,h.sz⟩
  ·rcases flatM_inv hp with⟨rfl,mv0,h0,rfl⟩|⟨aa,h0⟩
   ·obtain⟨hr,ai⟩:=h.mem.rowsRep h0 hg (S':=SS X (flatM μ p)) hS fun b hb ae=>by
     refine⟨fun hx=>(h.mem.lt h0 hb).1 (h.mem.hX b hx),fun q mv hq aj=>?_⟩
     rcases flatM_inv hq with⟨rfl,al,h1,rfl⟩|⟨aa,h1⟩
     ·rw [h0] at h1
      cases h1
      exact ae (by simpa using aj)
     ·exact aa (h.mem.dis _ _ _ _ _ h1 h0 aj hb)
    exact⟨.arr e (.slice t) l,by simp [St.g,St.swap,look],⟨rfl,rfl⟩,fun b hb=>(hr.low b (hr.top b hb)).1,mv0.hs,hr.own,ai⟩
   ·obtain⟨y,hy,ak⟩:=h.mem.ob p mv h0
    refine⟨frzOb o (.arr o) y,?_,frzOb_rel h.mem.hlo (fun q mv' hq af=>by rw [flatM_ne hq];exact af) hd hS ak⟩
    simp only [St.g,St.swap,xdc,look,beq_ne (xcc aa),look_map]
    rw [look_filter o s.ob p aa]
    simp only [St.g] at hy
    rw [hy]
    rfl
  ·obtain⟨m1,k1,k2⟩:=ad _ _ _ h1 h3
   obtain⟨m2,k3,k4⟩:=ad _ _ _ h2 h4
   exact h.mem.dis _ _ _ _ b k1 k3 k2 k4
  ·simp only [St.slot,St.swap,look_map]
   have:=frz2_rel (d:=.arr o) h.mem.hlo (fun q mv' hq af=>by rw [flatM_ne hq];exact af) hd hS (h.fr j)
   simp only [St.slot] at this
   cases hl:look s.fr j with
   |none=>exact .undef
   |some v=>rw [hl] at this;exact this
 next=>exact⟨μ,h⟩
theorem RowsOK.perm{S:Nat→Prop}{e e2:Nat}{t:Ty}{l:List (List t.I)}{mv:MV}(h:RowsOK w lo S e e2 t l (inRow none) mv mv.hs):PermOK w lo S e e2 t (List.range l.length) l mv:=by
 have aa:∀j,inRow none j:=fun j i k hk=>by cases hk
 have hl:=h.len
 refine⟨?_,hl,h.top,h.low,h.slc,fun j x r hx hr=>h.row j x r (aa j) hx hr,fun j k x y b=>h.apart j k x y b (aa j) (aa k)⟩
 have e:(List.range l.length).map (fun i=>mv.hs.getD i (.slice none 0 0))=mv.hs:=by
  apply xfs
  ·simp [hl]
  ·intro i h1 h2
   simp [xd,h2]
 rw [e,xdi]
 exact h.own
theorem Rel.perm[Tabs]{s:St}(h:Rel P X lo N w0 s a w μ)(o:Nat):∃μ',Rel P X lo N w0 (s.perm o) a w μ':=by
 unfold St.perm
 split
 next e e2 t l hg=>
  have hd:∀mv,μ o=some mv→RelV P w lo μ (SS X μ) (.arr o) mv.v:=fun mv hmv=>by
   obtain⟨y,hy,ae⟩:=h.mem.ob _ _ hmv
   rw [hg] at hy
   cases hy
   obtain⟨v,rs,hs⟩:=mv
   have hx:∃a n c,v=.slice a n c:=by
    rcases ae.1.own.2 with⟨e1,_⟩|⟨_,_,_,e1,_⟩
    ·exact⟨_,_,_,e1⟩
    ·exact⟨_,_,_,e1⟩
   obtain⟨a',n',c',hx⟩:=hx
   subst hx
   exact .arr (rs:=rs) (hs:=hs) hmv
  refine⟨μ,⟨h.mem.hX,h.mem.hlo,fun p mv hp=>?_,h.mem.dis,h.mem.tab⟩,fun j=>?_,h.bel,h.df,h.sz⟩
  ·obtain⟨y,hy,ad⟩:=h.mem.ob p mv hp
   by_cases aa:p=o
   ·subst aa
    rw [hg] at hy
    cases hy
    exact⟨.perm false e e2 t (List.range l.length) l,by simp [St.g,St.swap,look],ad.1.perm⟩
   ·refine⟨frzOb o (.arr o) y,?_,frzOb_rel h.mem.hlo (fun q mv' hq ab=>ab) hd (fun _ _ hs=>hs) ad⟩
    simp only [St.g,St.swap,xdc,look,beq_ne (xcc aa),look_map]
    rw [look_filter o s.ob p aa]
    simp only [St.g] at hy
    rw [hy]
    rfl
  ·simp only [St.slot,St.swap,look_map]
   have:=frz2_rel (d:=.arr o) h.mem.hlo (fun q mv' hq ab=>ab) hd (fun _ _ hs=>hs) (h.fr j)
   simp only [St.slot] at this
   cases hl:look s.fr j with
   |none=>exact .undef
   |some v=>rw [hl] at this;exact this
 next=>exact⟨μ,h⟩
theorem Rel.perms[Tabs]:∀ (l:List Nat) {s:St} {μ:Nat→Option MV},Rel P X lo N w0 s a w μ→∃μ',Rel P X lo N w0 (s.perms l) a w μ'
 | [],s,μ,h=>⟨μ,h⟩
 |o::l,s,μ,h=>by
  obtain⟨μ',h'⟩:=h.perm o
  exact Rel.perms l h'
theorem Rel.flats[Tabs]:∀ (l:List Nat) {s:St} {μ:Nat→Option MV},Rel P X lo N w0 s a w μ→∃μ',Rel P X lo N w0 (s.flats l) a w μ'
 | [],_,μ,h=>⟨μ,h⟩
 |o::l,s,μ,h=>by
  obtain⟨μ',h'⟩:=h.flat o
  exact Rel.flats l h'
theorem Rel.freezes[Tabs]:∀ (l:List Nat) {s:St} {μ:Nat→Option MV},Rel P X lo N w0 s a w μ→∃μ',Rel P X lo N w0 (s.freezes l) a w μ'
 | [],_,μ,h=>⟨μ,h⟩
 |o::l,s,μ,h=>by
  obtain⟨μ',h'⟩:=h.freeze o
  exact Rel.freezes l h'
theorem Rel.put[Tabs]{s:St}(h:Rel P X lo N w0 s a w μ){d:Nat}(hd:N.has d){v:AV}{x:Value}(hv:RelV P w lo μ (SS X μ) v x):Rel P X lo N w0 {s with fr:=(d,v)::s.fr} (a.put (some d) x) w μ:=by
 refine⟨h.mem,fun i=>?_,h.bel,h.df,h.sz.put hd⟩
 simp only [St.slot,look,Act.put]
 by_cases e:d=i
 ·subst e
  rw [beq_self]
  have aa:d<a.tmps.size:=by rw [h.sz.n];exact hd.2
  simpa [aa] using hv
 ·rw [beq_ne e]
  have:=h.fr i
  simp only [St.slot] at this
  simpa [xcq e] using this
theorem Rel.know[Tabs]{s:St}(h:Rel P X lo N w0 s a w μ){d:Nat}{v:AV}(hv:RelV P w lo μ (SS X μ) v (a.tmps.getD d undef)):Rel P X lo N w0 {s with fr:=(d,v)::s.fr} a w μ:=by
 refine⟨h.mem,fun i=>?_,h.bel,h.df,h.sz⟩
 simp only [St.slot,look]
 by_cases e:d=i
 ·subst e
  rw [beq_self]
  exact hv
 ·rw [beq_ne e]
  exact h.fr i
def slA(sl:Nat→AV)(u:LU)(i:Nat):AV:=
 match u.d with
 |some p=>if p.1=i then p.2 else(match u.und with
  |some b=>if b=i then .undef else sl i
  |none=>sl i)
 |none=>sl i
def gA(g:Nat→Option Ob)(u:LU)(i:Nat):Option Ob:=
 match look u.objs i with
 |some x=>some x
 |none=>g i
theorem slot_app[Tabs](s:St)(u:LU):(s.app u).slot=slA s.slot u:=by
 funext i
 obtain⟨d,und,objs⟩:=u
 cases d with
 |none=>rfl
 |some p=>
  simp only [St.app,St.slot,look,slA]
  by_cases e:p.1=i
  ·subst e;rw [beq_self];simp
  ·rw [beq_ne e,if_neg e]
   cases und with
   |none=>rfl
   |some b=>
    simp only [look]
    by_cases e':b=i
    ·subst e';rw [beq_self];simp
    ·rw [beq_ne e',if_neg e']
theorem g_app[Tabs](s:St)(u:LU):(s.app u).g=gA s.g u:=by
 funext i
 simp only [St.app,St.g,look_append,gA]
 cases look u.objs i<;>rfl
theorem tmps_put{a:Act}{d:Nat}{x:Value}(hd:d<a.tmps.size)(i:Nat):(a.put (some d) x).tmps.getD i undef=if d=i then x else a.tmps.getD i undef:=by
 simp only [Act.put]
 by_cases e:d=i
 ·subst e;simp [hd]
 ·rw [if_neg e];simp [xcq e]
theorem RelF.upd[Tabs]{sl:Nat→AV}(h:RelF P X lo N w0 sl g a w μ){u:LU}{w':World}{μ':Nat→Option MV}(hn:(u.objs.map (·.1)).Nodup)(hu:u.und=none)(hq:NxU P X lo g μ w u.objs [] w' μ'){dst:Option Nat}(hd:dst=u.d.map (·.1))(ab:∀d,dst=some d→N.has d){x:Value}
  (hv:∀p,u.d=some p→RelV P w' lo μ' (SS X μ') p.2 x):RelF P X lo N w0 (slA sl u) (gA g u) (a.put dst x) w' μ':=by
 refine⟨hq.mem _ (fun p hp=>?_) fun o mv _ ho=>?_,fun i=>?_,h.bel.trans hq.kept,?_,?_⟩
 ·rw [gA,mem_look hn hp]
 ·rw [gA]
  cases hl:look u.objs o with
  |none=>simp only;cases g o<;>rfl
  |some y=>exact absurd rfl (ho _ (look_mem hl))
 ·have hold:=hq.step h.mem.hlo (h.fr i)
  rw [slA,hu]
  cases aa:u.d with
  |none=>
   rw [aa] at hd
   simp only [xed] at hd
   subst hd
   exact hold
  |some p=>
   rw [aa] at hd
   simp only [xy] at hd
   subst hd
   have ad:p.1<a.tmps.size:=by rw [h.sz.n];exact(ab _ rfl).2
   rw [tmps_put ad]
   simp only
   split
   ·exact hv p aa
   ·exact hold
 ·cases dst<;>exact h.df
 ·cases dst
  ·exact h.sz
  ·exact h.sz.put (ab _ rfl)
theorem kills_fr:∀ (ks:List Nat) (s:St),(s.kills ks).fr=s.fr.map fun q=>(q.1,killV ks q.2)
 | [],s=>by simp [St.kills,killV]
 |p::ks,s=>by
  have:=kills_fr ks (s.kill p)
  simp only [St.kills,xbk] at this⊢
  rw [this]
  simp [St.kill,killV]
theorem kills_ob:∀ (ks:List Nat) (s:St),(s.kills ks).ob=s.ob.map fun q=>(q.1,killOb ks q.2)
 | [],s=>by simp [St.kills,killOb]
 |p::ks,s=>by
  have:=kills_ob ks (s.kill p)
  simp only [St.kills,xbk] at this⊢
  rw [this]
  simp [St.kill,killOb]
theorem kills_slot(ks:List Nat)(s:St)(i:Nat):(s.kills ks).slot i=((look s.fr i).map (killV ks)).getD .undef:=by
 unfold St.slot
 rw [kills_fr,look_map]
theorem kills_g(ks:List Nat)(s:St)(i:Nat):(s.kills ks).g i=(s.g i).map (killOb ks):=by
 unfold St.g
 rw [kills_ob,look_map]
theorem Rel.updK[Tabs]{s:St}(h:Rel P X lo N w0 s a w μ){u:LU}{ks:List Nat}{w':World}{μ':Nat→Option MV}(hn:(u.objs.map (·.1)).Nodup)(hu:u.und=none)(hq:NxU P X lo s.g μ w u.objs ks w' μ'){dst:Option Nat}(hd:dst=u.d.map (·.1))(ab:∀d,dst=some d→N.has d){x:Value}
  (hv:∀p,u.d=some p→RelV P w' lo μ' (SS X μ') p.2 x):Rel P X lo N w0 ((s.kills ks).app u) (a.put dst x) w' μ':=by
 refine⟨hq.mem _ (fun p hp=>?_) fun o mv _ ho=>?_,fun i=>?_,h.bel.trans hq.kept,?_,?_⟩
 ·rw [g_app,gA,mem_look hn hp]
 ·rw [g_app,gA]
  cases hl:look u.objs o with
  |none=>exact kills_g ks s o
  |some y=>exact absurd rfl (ho _ (look_mem hl))
 ·have hold:RelV P w' lo μ' (SS X μ') ((s.kills ks).slot i) (a.tmps.getD i undef):=by
   rw [kills_slot]
   have:=h.fr i
   simp only [St.slot] at this
   cases hl:look s.fr i with
   |none=>exact .undef
   |some v=>rw [hl] at this;exact RelV.kill h.mem.hlo hq.data hq.kept.block hq.hs this
  rw [slot_app,slA,hu]
  cases aa:u.d with
  |none=>
   rw [aa] at hd
   simp only [xed] at hd
   subst hd
   exact hold
  |some p=>
   rw [aa] at hd
   simp only [xy] at hd
   subst hd
   have ad:p.1<a.tmps.size:=by rw [h.sz.n];exact(ab _ rfl).2
   rw [tmps_put ad]
   simp only
   split
   ·exact hv p aa
   ·exact hold
 ·cases dst<;>exact h.df
 ·cases dst
  ·exact h.sz
  ·exact h.sz.put (ab _ rfl)
theorem Rel.upd[Tabs]{s:St}(h:Rel P X lo N w0 s a w μ){u:LU}{w':World}{μ':Nat→Option MV}(hn:(u.objs.map (·.1)).Nodup)(hu:u.und=none)(hq:NxU P X lo s.g μ w u.objs [] w' μ'){dst:Option Nat}(hd:dst=u.d.map (·.1))(aa:∀d,dst=some d→N.has d){x:Value}
  (hv:∀p,u.d=some p→RelV P w' lo μ' (SS X μ') p.2 x):Rel P X lo N w0 (s.app u) (a.put dst x) w' μ':=by
 have:=RelF.upd h hn hu hq hd aa hv
 rw [←slot_app,←g_app] at this
 exact this
theorem clL_frz{o:Nat}{v:AV}(h:clL o v=true):frzL o .undef v=v:=by
 cases v with
 |arr p=>simp only [clL,xat] at h;simp [frzL,h]
 |elt p i s=>simp only [clL,xat] at h;simp [frzL,h]
 |fld p i s k=>simp only [clL,xat] at h;simp [frzL,h]
 |row p i=>simp only [clL,xat] at h;simp [frzL,h]
 |relt p i n s=>simp only [clL,xat] at h;simp [frzL,h]
 |suf p i s=>simp only [clL,xat] at h;simp [frzL,h]
 |pre p i=>simp only [clL,xat] at h;simp [frzL,h]
 |box p k=>simp only [clL,xat] at h;simp [frzL,h]
 |fn f caps=>
  cases caps with
  |nil=>rfl
  |cons c caps=>simp [clL] at h
 |dat t v=>rfl
 |nilsl=>rfl
 |undef=>rfl
 |clo ts r p=>rfl
 |_=>simp [clL] at h
theorem map_id_of{F:AV→AV}{cs:List AV}(h:∀c∈cs,F c=c):cs.map F=cs:=by
 induction cs with
 |nil=>rfl
 |cons c cs ih=>rw [xbm,h c xx,ih fun c hc=>h c (xu _ hc)]
theorem clC_frz[Tabs]{o:Nat}{v:AV}(h:clC o v=true):frzC o .undef v=v:=by
 cases v with
 |ptr cs=>
  simp only [clC,xp] at h
  simp only [frzC]
  rw [map_id_of fun c hc=>clL_frz (h c hc)]
 |_=>simp only [clC] at h;simpa only [frzC] using clL_frz h
theorem cl1_frz[Tabs]{o:Nat}{v:AV}(h:cl1 o v=true):frz1 o .undef v=v:=by
 cases v with
 |agg cs=>
  simp only [cl1,xp] at h
  simp only [frz1]
  rw [map_id_of fun c hc=>clL_frz (h c hc)]
 |fn f caps=>
  simp only [cl1,xp] at h
  simp only [frz1]
  rw [map_id_of fun c hc=>clC_frz (h c hc)]
 |bnd f fs=>simp [cl1,clC,clL] at h
 |_=>simp only [cl1] at h;simpa only [frz1] using clC_frz h
theorem clOb_frz[Tabs]{o:Nat}{x:Ob}(h:clOb o x=true):frzOb o .undef x=x:=by
 cases x with
 |arr e t l=>rfl
 |txt e l=>rfl
 |deep e t l=>rfl
 |perm k e e2 t ix l=>rfl
 |spent=>rfl
 |rows e e2 t l hh=>
  cases hh with
  |none=>rfl
  |some q=>
   obtain⟨i,k⟩:=q
   cases k with
   |none=>rfl
   |some d=>
    simp only [clOb,xat] at h
    simp [frzOb,unl,h]
 |cells cs=>
  simp only [clOb,xp] at h
  simp only [frzOb]
  rw [map_id_of fun c hc=>cl1_frz (h c hc)]
end
end Go.Proofs.YteiekijgoifhoaaGreatDoor
/-
 Stores and appends.
-/
namespace Go.Proofs.YteiekijgoifhoaaGreatDoor
open Go.RowKit (Below)
section
variable {P:Program} {tt:Nat→TD} {w:World} {lo:Nat→Prop} {N:Par} {μ:Nat→Option MV} {S:Nat→Prop} {X:Nat→Prop} {g:Nat→Option Ob} {a:Act} {E:Env} {w0:World}
theorem Rep.one:∀ {t:Ty} {v:t.I} {cs:List Value},Rep S w t v cs→∀u∈cs,u.oneCell'=true
 | .int _,_,_,h,u,hu=>by simp [Rep] at h;subst h;simp at hu;subst hu;rfl
 | .bool,_,_,h,u,hu=>by simp [Rep] at h;subst h;simp at hu;subst hu;rfl
 | .str,_,_,h,u,hu=>by simp [Rep] at h;subst h;simp at hu;subst hu;rfl
 | .hdr,_,_,h,u,hu=>by
  simp only [Rep] at h
  obtain⟨_,_,e,_⟩:=h
  rw [e] at hu
  simp at hu
  rw [hu]
  rfl
 | .seq _,_,_,h,u,hu=>by simp only [Rep] at h;obtain⟨_,_,_,rfl,_⟩:=h;simp at hu;subst hu;rfl
 | .slice _,_,_,h,u,hu=>by simp only [Rep] at h;obtain⟨a,c,rfl,_⟩:=h;simp at hu;subst hu;rfl
 | .pair a b,_,_,h,u,hu=>by
  obtain⟨c1,c2,rfl,h1,h2⟩:=h
  rcases xq.1 hu with h|h
  ·exact h1.one u h
  ·exact h2.one u h
theorem RepL.one[Tabs]{t:Ty}:∀ {l:List t.I} {cs:List Value},RepL S w t l cs→∀u∈cs,u.oneCell'=true
 | [],_,h,u,hu=>by simp only [RepL] at h;subst h;cases hu
 |_::_,_,⟨c,r,e,h1,h2⟩,u,hu=>by
  subst e
  rcases xq.1 hu with h|h
  ·exact h1.one u h
  ·exact RepL.one h2 u h
theorem one_cell[Tabs]{v:AV}{x:Value}(h:RelV P w lo μ S v x)(h1:one v=true):x.oneCell'=true:=by
 cases h with
 |undef=>simp [one] at h1
 |skip=>simp [one] at h1
 |tup=>simp [one] at h1
 |agg=>simp [one] at h1
 |dat _ h=>exact h.one x (by simp)
 |clo h=>obtain⟨_,f,fs,xs,rfl,_⟩:=h;rfl
 |_=>rfl
theorem take_splice{α:Type}(L c:List α)(i n m:Nat)(hc:c.length=n)(h1:i+n≤m)(h2:m≤L.length):(L.take i++c++L.drop (i+n)).take m=(L.take m).take i++c++(L.take m).drop (i+n):=by
 have hl:(L.take i++c).length=i+n:=by
  rw [xj,xw,hc]
  omega
 rw [xdz,hl,xah (by omega),xdo,xba (by omega),List.drop_take]
theorem take_set_snoc{α:Type}(L:List α)(i:Nat)(y:α)(h:i<L.length):(L.set i y).take (i+1)=L.take i++ [y]:=by
 rw [xbo (by simpa using h)]
 simp [List.take_set_of_le]
theorem puts_fold[Tabs](k:Nat):∀ (xs:List Value) (m:Nat) (us:Array Value),k+m+xs.length≤us.size→(xs.zipIdx m).foldl (fun cs (c,j)=>cs.setIfInBounds (k+j) c) us=(us.toList.take (k+m)++xs++us.toList.drop (k+m+xs.length)).toArray
 | [],m,us,_=>by simp
 |y::ys,m,us,hle=>by
  simp only [xad] at hle
  rw [List.zipIdx_cons,xbk]
  rw [puts_fold k ys (m+1) _ (by simp;omega)]
  have e1:=take_set_snoc us.toList (k+m) y (by simp;omega)
  have e2:(us.toList.set (k+m) y).drop (k+m+(ys.length+1))=us.toList.drop (k+m+(ys.length+1)):=List.drop_set_of_lt (by omega)
  rw [xfh,show k+(m+1)=k+m+1 by omega,e1,show k+m+1+ys.length=k+m+(ys.length+1) by omega,e2]
  simp
theorem run_storeAt{ty n b k:Nat}{x:Value}{w':World}(hs:(sizeOf ty).run P w=.ok n w)(hx:x.cells.size=n)(h:(storeCells ⟨b,k,none⟩ x.cells.toList).run P w=.ok () w'):
  (Instr.storeAt ty (.pointer (some ⟨b,k,none⟩)) x).run P w=.ok () w':=by
 simp only [Instr.storeAt,Instr.sureAddr,storeVar,Sem.run_bind,Sem.run_pure,Result.andThen_ok,hs]
 rw [if_neg (by simp [hx])]
 exact h
theorem NxU.wrote[Tabs](hm:Mem P X lo g μ w){o b:Nat}{mv:MV}(ho:μ o=some mv)(hr:b∈mv.rs){cs:Array Value}{x:Ob}
  (hx:ObOK P (w.setRow b cs) lo μ (SS X μ) x mv):NxU P X lo g μ w [(o,x)] [] (w.setRow b cs) μ:=by
 have hw:∀k,k≠b→(w.setRow b cs).heap[k]? =w.heap[k]? :=fun k hk=>setRow_other w b k cs hk
 have ad:=(hm.lt ho hr).1
 have ab:∀k,k<w.heap.size→SS X μ k→SS X μ k∧(w.setRow b cs).heap[k]? =w.heap[k]? :=fun k _ hS=>⟨hS,hw k fun e=>by subst e;exact hS.2 o mv ho hr⟩
 have aa:∀k,lo k→(w.setRow b cs).heap[k]? =w.heap[k]? :=fun k hk=>hw k fun e=>ad (e▸hk)
 refine⟨⟨fun p mv h=>⟨mv.rs,mv.hs,h,fun _=>Ext.refl _⟩,fun _ _ hk=>(by cases hk)⟩,fun p mv h=>.inl ⟨mv,h⟩,fun p mv k h hk=>.inr ⟨p,mv,h,hk⟩,⟨rfl,rfl,rfl,by simp,aa⟩,fun k _ hk=>hw k fun e=>hk (o,x) (by simp) mv ho (e▸hr),fun g' h1 h2=>⟨hm.hX,by simpa using hm.hlo,fun p mv' hp=>?_,hm.dis,hm.tab.step aa⟩⟩
 by_cases e:p=o
 ·subst e
  rw [ho] at hp
  cases hp
  exact⟨x,h1 (p,x) (by simp),hx⟩
 ·obtain⟨y,hy,ae⟩:=hm.ob p mv' hp
  have af:∀q∈ [(o,x)],q.1≠p:=fun q hq e'=>by
   simp only [xt] at hq
   subst hq
   exact e e'.symm
  refine⟨y,by rw [h2 p mv' hp af,hy];rfl,ae.step hm.hlo (fun _ _ h=>h) ab aa fun k hk=>hw k fun ek=>?_⟩
  subst ek
  exact e (hm.dis p o mv' mv k hp ho hk hr)
theorem astore_ok[Tabs](hT:TabOK P tt)(hm:Mem P X lo g μ w){u:LU}{ty:Nat}{av vv:AV}(hq:(astore tt g ty av vv).ev=some u){va x:Value}(ha:RelV P w lo μ (SS X μ) av va)(hv:RelV P w lo μ (SS X μ) vv x):
  ∃w',(Instr.storeAt ty va x).run P w=.ok () w'∧NxU P X lo g μ w u.objs [] w' μ∧rowIds g u.objs=[]∧u.d=none∧u.und=none∧(u.objs.map (·.1)).Nodup:=by
 unfold astore at hq
 split at hq
 ·rename_i o k
  split at hq
  next cs vs sz hg hc ai=>
   split at hq
   next hn=>
    simp only [Tr.ev_l,xc] at hq
    subst hq
    obtain⟨bj,aj⟩:=run_agg (P:=P) (w:=w) hT ai
    obtain⟨ak,bk⟩:=cellsOf_rel hv hc
    cases ha with
    | @box _ _ b _ _ _ hμ=>
     obtain⟨y,hy,al⟩:=hm.ob _ _ hμ
     rw [hg] at hy
     cases hy
     obtain⟨b',us,e,he,ao,hh,br,hr⟩:=al
     simp only [MV.mk.injEq,Value.pointer.injEq,xc,Addr.mk.injEq,and_true] at he
     obtain⟨he,rfl,rfl⟩:=he
     subst he
     have bz:∀u∈x.cells.toList,u.oneCell'=true:=fun u hu=>by
      obtain⟨j,hj,rfl⟩:=xdj.1 hu
      have cm:j<vs.length:=by rw [←ak];simpa using hj
      have cn:nth vs j=some vs[j]:=by rw [nth_eq];simp
      have:=bk j _ cn
      have h1:=xp.1 hn.2.2 vs[j] (xet cm)
      have cp:j<x.cells.size:=by simpa using hj
      have h2:=one_cell this h1
      simpa [cp] using h2
     have aa:=run_storeCells_at P b k e x.cells.toList 0 us w hh (by simp [ak,br];exact hn.2.1) bz
     simp only [xbd] at aa
     refine⟨_,run_storeAt aj (ak.trans hn.1) aa,?_,by simp [rowIds,rowId,hg],rfl,rfl,by simp⟩
     refine NxU.wrote hm hμ (by simp) ⟨b,_,e,rfl,ao,setRow_heap w b us _ e _ hh,?_,?_⟩
     all_goals
      have ab:=AllR.puts (P:=P) (w:=w) (lo:=lo) (μ:=μ) (S:=SS X μ) vs k cs us x.cells.toList ⟨br,hr⟩ (by simpa using ak) (by simpa using bk) 0
      rw [puts_fold k x.cells.toList 0 us (by simp [ak,br];exact hn.2.1)] at ab
      simp only [xbd] at ab⊢
     ·exact ab.1
     ·intro j v hj
      refine(ab.2 j v hj).step (fun _ _ h=>h) hm.hlo (fun m bl hS=>⟨hS,setRow_other w b m _ fun e=>by subst e;exact hS.2 o _ hμ (by simp)⟩) fun m bl=>setRow_other w b m _ fun e=>ao (e▸bl)
   next=>cases hq
  next=>cases hq
 ·rename_i o i z
  split at hq
  next e t l sz hg ai=>
   split at hq
   next hz=>
    split at hq
    next y ba=>
     obtain⟨hi,hq⟩:=ev_g hq
     simp only [decide_eq_true_eq] at hi
     simp only [Tr.ev_l,xc] at hq
     subst hq
     obtain⟨bj,aj⟩:=run_agg (P:=P) (w:=w) hT ai
     have au:=getT_rel ba hv
     cases ha with
     | @elt _ _ _ _ b n c _ _ hμ=>
      obtain⟨yy,af,al⟩:=hm.ob _ _ hμ
      rw [hg] at af
      cases af
      obtain⟨⟨bb,bc⟩,bs,xs,ay,bm⟩:=al
      simp only [rootV,Option.toList] at bc bb
      subst bc
      subst bb
      rcases ay.2 with⟨e1,e2⟩|⟨b',cap,cur,ev,ao,hh,aw,bd,ad,ae⟩
      ·cases e1
      ·simp only [Value.slice.injEq,xc,Addr.mk.injEq,and_true] at ev
       obtain⟨rfl,rfl,rfl⟩:=ev
       have hlen:x.cells.toList.length=t.size:=au.len
       have hle:(i+1)*t.size≤l.length*t.size:=xao _ (by omega)
       have be:l.length*t.size≤c*t.size:=xao _ aw
       rw [xaz,xdg] at hle
       have aa:=run_storeCells_at P b (i*t.size) e x.cells.toList 0 cur w hh (by rw [hlen,ad];omega) au.one
       simp only [xbd] at aa
       have az:x.cells.size=t.size:=by simpa using hlen
       refine⟨_,run_storeAt aj (az.trans hz.1.symm) (by rw [hz.2];exact aa),?_,by simp [rowIds,rowId,hg],rfl,rfl,by simp⟩
       have bf:=RepL.set bm hi au
       refine NxU.wrote hm hμ (by simp) ⟨⟨rfl,rfl⟩,bs,xs.take (i*t.size)++x.cells.toList++xs.drop (i*t.size+t.size),⟨?_,.inr ⟨b,c,_,?_,ao,setRow_heap w b cur _ e _ hh,?_,bd,?_,?_⟩⟩,?_⟩
       ·have:=bf.len
        simpa using this
       ·simp
       ·simpa using aw
       ·simp only [xbp,xj,xw,xap,xbf,az,ad]
        omega
       ·rw [←ae]
        simp only [xar]
        rw [hlen]
        exact take_splice _ _ _ _ _ hlen hle (by simp [ad];exact be)
       ·refine bf.step fun m bl hS=>⟨hS,setRow_other w b m _ fun e=>by subst e;exact hS.2 o _ hμ (by simp)⟩
    next=>cases hq
   next=>cases hq
  next kp e e2 t ix l sz hg ai=>
   split at hq
   next hz=>
    split at hq
    next p j=>
     split at hq
     next cq=>
      subst cq
      obtain⟨hi,hq⟩:=ev_g hq
      simp only [decide_eq_true_eq] at hi
      simp only [Tr.ev_l,xc] at hq
      subst hq
      obtain⟨bj,aj⟩:=run_agg (P:=P) (w:=w) hT ai
      cases ha with
      | @elt _ _ _ _ b n c rs ca hμ=>
       cases hv with
       | @row _ _ _ v0 dj di a1 n1 c1 bt ct=>
        rw [hμ] at bt
        simp only [xc,MV.mk.injEq] at bt
        obtain⟨rfl,rfl,rfl⟩:=bt
        obtain⟨yy,af,al⟩:=hm.ob _ _ hμ
        rw [hg] at af
        cases af
        have hp:PermOK w lo (SS X μ) e e2 t ix l ⟨.slice (some ⟨b,0,none⟩) n c,rs,ca⟩:=al
        have cb:b∈rs:=hp.top b rfl
        rcases hp.own.2 with⟨e1,_⟩|⟨b',cap,cur,ev,hb0,cc,aw,bd,ad,ae⟩
        ·cases e1
        ·simp only [Value.slice.injEq,xc,Addr.mk.injEq,and_true] at ev
         obtain⟨rfl,rfl,rfl⟩:=ev
         simp only [xbw] at ad ae
         have aa:=run_storeCells_at P b (i*1) e [.slice a1 n1 c1] 0 cur w cc (by simp [ad];omega) (fun u hu=>by simp at hu;subst hu;rfl)
         simp only [xbd] at aa
         refine⟨_,run_storeAt aj (by rw [hz.1];rfl) (by rw [hz.2];exact aa),?_,by simp [rowIds,rowId],rfl,rfl,by simp⟩
         have bo:∀b',b'≠b→(w.setRow b (cur.toList.take (i*1)++ [Value.slice a1 n1 c1]++cur.toList.drop (i*1+ [Value.slice a1 n1 c1].length)).toArray).heap[b']? =w.heap[b']? :=fun b' cu=>setRow_other w b b' _ cu
         refine NxU.wrote hm hμ cb ⟨?_,hp.len,hp.top,fun b' bn=>⟨(hp.low b' bn).1,by simpa using(hp.low b' bn).2⟩,hp.slc,fun j' x r hx hl=>?_,hp.apart⟩
         ·refine⟨by simp,.inr ⟨b,c,_,by simp,hb0,setRow_heap w b cur _ e _ cc,by simpa using aw,bd,?_,?_⟩⟩
          ·simp only [xbp,xj,xw,xap,xbf,xad,xai,ad]
           omega
          ·have h1:=take_splice cur.toList [Value.slice a1 n1 c1] (i*1) 1 ix.length rfl (by omega) (by simp [ad];omega)
           simp only [xad,xai,xbg,xar,xbw] at h1⊢
           rw [h1,ae,List.map_set]
           have cw:ca.getD j (.slice none 0 0)=.slice a1 n1 c1:=by rw [xd,ct];rfl
           rw [cw,xei,if_pos (by simpa using hi)]
           simp
         ·obtain⟨m1,xs,m2,m3⟩:=hp.row j' x r hx hl
          exact⟨m1,xs,ownsRow_same m2 fun b' bn=>bo b' fun e=>(m1 b' bn).2 (by rw [e];rfl),m3.step fun b' _ cd=>⟨cd,bo b' fun e=>by subst e;exact cd.2 _ _ hμ cb⟩⟩
     next=>cases hq
    next=>cases hq
   next=>cases hq
  next e l sz hg ai=>
   split at hq
   next hz=>
    split at hq
    next y ba=>
     obtain⟨hi,hq⟩:=ev_g hq
     simp only [decide_eq_true_eq] at hi
     simp only [Tr.ev_l,xc] at hq
     subst hq
     obtain⟨bj,aj⟩:=run_agg (P:=P) (w:=w) hT ai
     have au:=getT_rel ba hv
     cases ha with
     | @elt _ _ _ _ b n c _ _ hμ=>
      obtain⟨yy,af,al⟩:=hm.ob _ _ hμ
      rw [hg] at af
      cases af
      obtain⟨b',cap,cur,fr,he,ao,hh,cf,cy,ad,cz⟩:=al
      simp only [MV.mk.injEq,Value.slice.injEq,xc,Addr.mk.injEq,and_true] at he
      obtain⟨⟨rfl,rfl,rfl⟩,rfl,rfl⟩:=he
      have bg:x.cells.toList=[.int .u8 y]:=by simpa [Rep] using au
      have az:x.cells.size=1:=by rw [←xbf,bg];rfl
      have da:i<cur.size:=by omega
      have aa:(storeCells ⟨b,i*z,none⟩ x.cells.toList).run P w=.ok () (w.setRow b (cur.setIfInBounds i (.int .u8 y))):=by
       rw [bg,hz.2,xbw]
       have cg:(⟨b,i,none⟩:Addr).add 0=⟨b,i,none⟩:=by rw [Addr.add_lit];rfl
       have bu:w.cell? ⟨b,i,none⟩=some cur[i]:=by simp [World.cell?,hh,da]
       have ch:w.frozen? ⟨b,i,none⟩=false:=by
        obtain⟨f1,f2⟩:=fr
        simp only at cf
        simp only [World.frozen?,hh,Bool.and_eq_false_iff,decide_eq_false_iff_not]
        left;omega
       have db:(store ((⟨b,i,none⟩:Addr).add 0) (.int .u8 y)).run P w=.ok () (w.setRow b (cur.setIfInBounds i (.int .u8 y))):=by
        rw [cg,run_store P w _ _ _ rfl,bu]
        simp only [ch,xaf,if_false]
        rw [setCell_eq_setRow w b i cur e fr _ hh]
       simp [storeCells,db]
      refine⟨_,run_storeAt aj (az.trans hz.1.symm) aa,?_,by simp [rowIds,rowId,hg],rfl,rfl,by simp⟩
      refine NxU.wrote hm hμ (by simp) ⟨b,c,_,fr,by simp,ao,setRow_heap w b cur _ e _ hh,cf,by simpa using cy,by simpa using ad,?_⟩
      rw [xfh,xar,List.take_set,cz,List.map_set]
    next=>cases hq
   next=>cases hq
  next=>cases hq
 ·rename_i o i z k
  split at hq
  next e t l vs sz hg hc ai=>
   split at hq
   next hz=>
    split at hq
    next y ba=>
     obtain⟨hi,hq⟩:=ev_g hq
     simp only [decide_eq_true_eq] at hi
     simp only [Tr.ev_l,xc] at hq
     subst hq
     obtain⟨hn,rfl,dk⟩:=hz
     obtain⟨bj,aj⟩:=run_agg (P:=P) (w:=w) hT ai
     obtain⟨ak,bk⟩:=cellsOf_rel hv hc
     cases ha with
     | @fld _ _ _ _ _ b n c _ _ hμ=>
      obtain⟨yy,af,al⟩:=hm.ob _ _ hμ
      rw [hg] at af
      cases af
      obtain⟨⟨bb,bc⟩,bs,xs,ay,bm⟩:=al
      simp only [rootV,Option.toList] at bc bb
      subst bc
      subst bb
      rcases ay.2 with⟨e1,e2⟩|⟨b',cap,cur,ev,ao,hh,aw,bd,ad,ae⟩
      ·cases e1
      ·simp only [Value.slice.injEq,xc,Addr.mk.injEq,and_true] at ev
       obtain⟨rfl,rfl,rfl⟩:=ev
       have hle:(i+1)*t.size≤l.length*t.size:=xao _ (by omega)
       have be:l.length*t.size≤c*t.size:=xao _ aw
       rw [xaz,xdg] at hle
       have dm:xs.length=l.length*t.size:=ay.1
       -- the bw cells
       have dc:l[i]? =some (l.getD i t.dflt):=by simp [xd,hi]
       obtain⟨ah,cj,de⟩:=bm.at dc
       have dh:=cj.len
       have bp:(xs.drop (i*t.size)).take t.size=ah:=by
        apply xdv
        intro j
        by_cases hj:j<t.size
        ·rw [xbc,if_pos hj,xaa]
         have:ah[j]? =some (ah[j]'(by omega)):=by simp
         rw [this]
         exact de j _ this
        ·rw [xbj (by simp;omega),xbj (by omega)]
       have bg:x.cells.toList.length=vs.length:=by simpa using ak
       have ab:=AllR.puts (P:=P) (w:=w) (lo:=lo) (μ:=μ) (S:=SS X μ) vs k (flat t (l.getD i t.dflt)) ah.toArray x.cells.toList
        ⟨by simp [dh,flat_len],fun j v hj=>by have:=flat_rel (P:=P) (lo:=lo) (μ:=μ) cj j v hj;simpa [xd] using this⟩ bg (by simpa using bk) 0
       rw [puts_fold k x.cells.toList 0 ah.toArray (by simp only [xbp];omega)] at ab
       simp only [xbd] at ab
       have bh:=unflat_rel ba (vs:=ah.take k++x.cells.toList++ah.drop (k+x.cells.toList.length)) (by simpa using ab.1) (fun j v hj=>by have:=ab.2 j v hj;simpa [xd] using this)
       have aa:=run_storeCells_at P b (i*t.size+k) e x.cells.toList 0 cur w hh (by rw [bg,ad];omega) (fun u hu=>bh.one u (by simp [hu]))
       simp only [xbd] at aa
       refine⟨_,run_storeAt aj (ak.trans hn) aa,?_,by simp [rowIds,rowId,hg],rfl,rfl,by simp⟩
       have bf:=RepL.set bm hi bh
       have ck:x.cells.size=vs.length:=ak
       refine NxU.wrote hm hμ (by simp) ⟨⟨rfl,rfl⟩,bs,xs.take (i*t.size)++(ah.take k++x.cells.toList++ah.drop (k+x.cells.toList.length))++xs.drop (i*t.size+t.size),⟨?_,.inr ⟨b,c,_,?_,ao,setRow_heap w b cur _ e _ hh,?_,bd,?_,?_⟩⟩,?_⟩
       ·have:=bf.len
        simpa using this
       ·simp
       ·simpa using aw
       ·simp only [xbp,xj,xw,xap,xbf,ck,ad]
        omega
       ·simp only [xar]
        have h1:=take_splice cur.toList x.cells.toList (i*t.size+k) x.cells.toList.length (l.length*t.size) rfl (by omega) (by simp [ad];exact be)
        rw [h1,ae]
        have h2:xs.take (i*t.size+k)=xs.take (i*t.size)++ah.take k:=by
         rw [List.take_add,←bp,xdo,xba (by omega)]
        have h3:xs.drop (i*t.size+k+x.cells.toList.length)=ah.drop (k+x.cells.toList.length)++xs.drop (i*t.size+t.size):=by
         rw [←bp,←List.drop_append_of_le_length (by simp;omega)]
         rw [show xs.drop (i*t.size+t.size)=(xs.drop (i*t.size)).drop t.size by rw [xdm],xds,xdm]
         congr 1
         omega
        rw [h2,h3]
        simp
       ·refine bf.step fun m bl hS=>⟨hS,setRow_other w b m _ fun e=>by subst e;exact hS.2 o _ hμ (by simp)⟩
    next=>cases hq
   next=>cases hq
  next=>cases hq
 ·cases hq
end
end Go.Proofs.YteiekijgoifhoaaGreatDoor
/-
 Appends; one operation; the operations of a region in the order of the text.
-/
namespace Go.Proofs.YteiekijgoifhoaaGreatDoor
open Go.RowKit (Below)
section
variable {P:Program} {tt:Nat→TD} {w:World} {lo:Nat→Prop} {N:Par} {μ:Nat→Option MV} {S:Nat→Prop} {X:Nat→Prop} {g:Nat→Option Ob} {a:Act} {E:Env} {w0:World}
theorem run_append_none{ty rt e n c sz:Nat}{i:TypeInfo}(hu:P.underlying ty=some (.slice e))(hi:P.info? e=some i){mv:Value}{xs:List Value}(aa:w.ownsRow 0 e sz mv n xs):
  (Builtin.append_ #[ty,ty] rt #[mv,.slice none 0 c]).run P w=.ok mv w:=by
 rcases aa.2 with⟨rfl,rfl⟩|⟨g,cap,cur,rfl,_,_,ab,_⟩
 ·simp [Builtin.append_,run_underlying hu,sizeOf,typeInfo,hi,Builtin.lenOf,Builtin.firstCells]
 ·simp [Builtin.append_,run_underlying hu,sizeOf,typeInfo,hi,Builtin.lenOf,Builtin.firstCells,ab,storeCells]
theorem append_own[Tabs]{ty rt e n m:Nat}{t:Ty}{i:TypeInfo}{z:Value}{b:Nat}(hu:P.underlying ty=some (.slice e))(hi:P.info? e=some i)(hs:i.size=t.size)(hb:i.bytes=b)(hz:i.zero=some z)(al:z.cells.size=t.size)
  {mv:Value} {xs:List Value} (aa:w.ownsRow 0 e t.size mv n xs) {ax:Option Addr} {c:Nat} {news:List Value} (hl:news.length=m*t.size) (aw:ax=none→m=0) (ab:∀ad,ax=some ad→∀j u,news[j]? =some u→w.cell? (ad.add j)=some u)
  (h1:∀u∈news,u.oneCell'=true) (af:(n+m)*b≤140737488355328) (hb0:0<b):
  ∃v' w',(Builtin.append_ #[ty,ty] rt #[mv,.slice ax m c]).run P w=.ok v' w'∧w'.ownsRow 0 e t.size v' (n+m) (xs++news)∧w'.os=w.os∧w'.tape=w.tape∧w'.output=w.output∧w.heap.size≤w'.heap.size∧
   (∀k,k<w.heap.size→rootV mv≠some k→w'.heap[k]? =w.heap[k]?)∧(∀k,rootV v'=some k→rootV mv=some k∨w.heap.size≤k)∧∃a' n' c',v'=.slice a' n' c':=by
 have av:n+m≤140737488355328:=by
  have:=xft (n+m) hb0
  omega
 have ao:n+m≤maxLen:=by unfold maxLen;omega
 have ai:∃a' n' c',mv=.slice a' n' c':=by
  rcases aa.2 with⟨rfl,_⟩|⟨gb,cap,cur,rfl,_⟩
  ·exact⟨_,_,_,rfl⟩
  ·exact⟨_,_,_,rfl⟩
 cases ax with
 |none=>
  obtain rfl:=aw rfl
  have hn:news=[]:=xi (by simpa using hl)
  subst hn
  have au:=run_append_none (P:=P) (rt:=rt) (c:=c) hu hi aa
  exact⟨mv,w,au,by simpa using aa,rfl,rfl,rfl,xm _,fun _ _ _=>rfl,fun _ h=>.inl h,ai⟩
 |some ad=>
  have ab:=ab ad rfl
  rcases aa.2 with⟨rfl,rfl⟩|⟨gb,cap,cur,rfl,ay,hg,bb,az,ba,aj⟩
  ·have ak:w.ownsRow w.heap.size e t.size (.slice none 0 0) 0 xs:=⟨aa.1,.inl ⟨rfl,rfl⟩⟩
   obtain⟨v',w',h2,h3,h4,h5⟩:=run_append_own (P:=P) w w.heap.size ty rt e i z t.size b hu hi hz hs hb al t.size_pos (.slice none 0 0) 0 xs ak ad m c news hl ab h1 ao af (xm _)
   refine⟨v',w',h2,⟨h3.1,h3.2.imp id fun⟨gb,cap,cur,e1,e2,e3⟩=>⟨gb,cap,cur,e1,xcp _,e3⟩⟩,h4.os,h4.tape,h4.output,h4.size,fun k hk _=>h4.block k hk (by simp [Value.ownBlock]),fun k hk=>.inr ?_,?_⟩
   ·rcases h3.2 with⟨rfl,_⟩|⟨gb,cap,cur,rfl,e2,_⟩
    ·simp [rootV] at hk
    ·simp [rootV] at hk;omega
   ·rcases h3.2 with⟨rfl,_⟩|⟨gb,cap,cur,rfl,e2,_⟩
    ·exact⟨_,_,_,rfl⟩
    ·exact⟨_,_,_,rfl⟩
  ·have hlen:(xs++news).length=(n+m)*t.size:=by rw [xj,aa.1,hl,xaz]
   by_cases ae:n+m≤cap
   ·have ah:n*i.size+news.length≤cur.size:=by rw [hl,ba,hs,←xaz];exact xao _ ae
    have hr:=run_append_room (P:=P) w ty rt e i hu hi gb n cap cur hg ad m c news (by rw [hs];exact hl) ab h1 ae ah
    rw [hs] at hr ah
    refine⟨_,_,hr,⟨hlen,.inr ⟨gb,cap,_,rfl,ay,setRow_heap w gb cur _ e _ hg,ae,az,?_,?_⟩⟩,rfl,rfl,rfl,by simp,fun k _ hk=>setRow_other w gb k _ (fun e=>hk (by simp [rootV,e])),fun k hk=>.inl hk,⟨_,_,_,rfl⟩⟩
    ·simp only [xbp,xj,xw,xap,xbf]
     omega
    ·rw [aj,←hlen]
     exact List.take_left
   ·have holds:∀j u,xs[j]? =some u→w.cell? ((⟨gb,0,none⟩:Addr).add j)=some u:=aa.cells (g:=gb) rfl
    have hr:=run_append_grow (P:=P) w ty rt e i z hu hi hz ⟨gb,0,none⟩ n cap xs (by rw [hs];exact aa.1) holds ad m c news (by rw [hs];exact hl) ab (by omega) (by omega) (growslice_fits (by omega) (by rw [hb];exact af))
    have hge:=grownCap_ge w (n+m) cap e
    refine⟨_,_,hr,⟨hlen,.inr ⟨w.heap.size,_,_,rfl,xcp _,heap_alloc_new w.drew _,hge,grownCap_le_maxLen w (n+m) cap e ao,?_,?_⟩⟩,rfl,rfl,rfl,by simp,fun k hk _=>heap_alloc_old w.drew _ hk,fun k hk=>?_,⟨_,_,_,rfl⟩⟩
    ·simp only [xdw,xbp,size_zeroCells,al,aa.1,hl,←xaz]
     congr 1
     omega
    ·simp only [xfa,xcx]
     rw [←xcx,←hlen]
     exact List.take_left
    ·simp [rootV] at hk
     exact .inr (by omega)
end
end Go.Proofs.YteiekijgoifhoaaGreatDoor
