/-
 What is done at a loop's head and at an exit; loops.
-/
import Derived.Test.YteiekijgoifhoaaGreatDoorB23
namespace Go.Proofs.YteiekijgoifhoaaGreatDoor
open Go.RowKit (Below)
def only(μ:Nat→Option MV)(ids:List Nat)(o:Nat):Option MV:=if ids.any (Nat.beq o)=true then μ o else none
theorem only_in[Tabs]{μ:Nat→Option MV}{ids:List Nat}{o:Nat}{mv:MV}(ho:o∈ids)(h:μ o=some mv):only μ ids o=some mv:=by
 unfold only
 rw [if_pos (xbi.2 ⟨o,ho,beq_self o⟩)]
 exact h
theorem only_inv{μ:Nat→Option MV}{ids:List Nat}{o:Nat}{mv:MV}(h:only μ ids o=some mv):o∈ids∧μ o=some mv:=by
 unfold only at h
 split at h
 next e=>
  obtain⟨x,hx,e⟩:=xbi.1 e
  rw [xe e]
  exact⟨hx,by rw [←xe e];exact h⟩
 next=>cases h
section
variable {P:Program} {E:Env} {tt:Nat→TD} {fz:Nat→Nat→List Nat} {orc:Orc} {X:Nat→Prop} {lo:Nat→Prop} {N:Par} {w0 w:World} {a:Act} {μ:Nat→Option MV} {s:St}
theorem RL.map{R:AV→Value→Prop}{f:Nat→AV}{g:Nat→Value}(h:∀i,R (f i) (g i)):∀l:List Nat,RL R (l.map f) (l.map g)
 | []=>trivial
 |i::l=>⟨h i,RL.map h l⟩
theorem RL.zip{R:AV→Value→Prop}(hu:∀x,R .undef x){g:Nat→Value}(i:Nat):∀ {l:List Nat} {vs:List AV},RL R vs (l.map g)→R ((look (zipS l vs) i).getD .undef) (g i)
 | [],[],_=>hu _
 | [],_::_,h=>h.elim
 |_::_,[],h=>h.elim
 |j::l,v::vs,h=>by
  simp only [zipS,look]
  split
  next e=>
   have:=xe e
   subst this
   exact h.1
  next=>exact RL.zip hu i h.2
theorem obs_look[Tabs]{g:Nat→Option Ob}:∀ {l:List (Nat×OSh)} {y:OL l},unObs g l=some y→∀o,o∈l.map (·.1)→∃os x z,look (mkObs l y) o=some (os.mk z)∧g o=some x∧os.un x=some z∧(o,os)∈l
 | [],_,_,o,ho=>by cases ho
 |(i,os)::l,y,h,o,ho=>by
  simp only [unObs] at h
  split at h
  next x hx=>
   split at h
   next y' z' hy hz=>
    cases h
    simp only [mkObs,look]
    by_cases e:i=o
    ·subst e
     rw [beq_self]
     exact⟨os,x,y',rfl,hx,hy,xx⟩
    ·rw [beq_ne e]
     simp only [xbm,xam] at ho
     obtain⟨aa,x',z,h1,h2,h3,h4⟩:=obs_look hz o (ho.resolve_left fun e'=>e e'.symm)
     exact⟨aa,x',z,h1,h2,h3,xu _ h4⟩
   next=>cases h
  next=>cases h
theorem ob_weak{μ':Nat→Option MV}{ids:List Nat}(hμ:∀o∈ids,∀mv,μ o=some mv→μ' o=some mv){S S':Nat→Prop}(hS:∀b,S b→S' b){os:OSh}{x:Ob}{z:os.I}{mv:MV}(hk:os.okIds ids=true)(hu:os.un x=some z)
  (h:ObOK P w lo μ S x mv):ObOK P w lo μ' S' (os.mk z) mv:=by
 cases os with
 |arr e t=>
  cases x with
  |arr e' t' l=>
   simp only [OSh.un] at hu
   split at hu
   next he=>
    have:=xe he
    subst this
    obtain⟨e2,rfl⟩:=Ty.cast_spec hu
    cases e2
    obtain⟨⟨ab,ad⟩,ae,xs,h1,h2⟩:=h
    exact⟨⟨ab,ad⟩,ae,xs,h1,h2.step fun b _ hb=>⟨hS b hb,rfl⟩⟩
   next=>cases hu
  |txt e l=>simp [OSh.un] at hu
  |deep=>simp [OSh.un] at hu
  |perm=>simp [OSh.un] at hu
  |spent=>simp [OSh.un] at hu
  |rows e e2 t l hh=>simp [OSh.un] at hu
  |cells cs=>simp [OSh.un] at hu
 |deep e t=>
  cases x with
  |deep e' t' l=>
   simp only [OSh.un] at hu
   split at hu
   next he=>
    have:=xe he
    subst this
    obtain⟨e2,rfl⟩:=Ty.cast_spec hu
    cases e2
    exact h
   next=>cases hu
  |_=>simp [OSh.un] at hu
 |perm e e2 t=>
  cases x with
  |perm k e' af t' ix l=>
   simp only [OSh.un] at hu
   split at hu
   next he aa=>
    have:=xe he
    subst this
    have:=xe aa
    subst this
    split at hu
    next y hy=>
     obtain⟨e3,rfl⟩:=Ty.cast_spec hy
     cases e3
     cases hu
     exact PermOK.step h (fun b _ hb=>⟨hS b hb,rfl⟩) (fun _ _=>rfl) fun b hb=>(PermOK.low h b hb).1
    next=>cases hu
   next=>cases hu
  |_=>simp [OSh.un] at hu
 |spent=>
  cases x with
  |spent=>exact h
  |_=>simp [OSh.un] at hu
 |rows e e2 t=>
  cases x with
  |rows e' af t' l hh=>
   cases hh with
   |some q=>simp [OSh.un] at hu
   |none=>
    simp only [OSh.un] at hu
    split at hu
    next he aa=>
     have:=xe he
     subst this
     have:=xe aa
     subst this
     obtain⟨e3,rfl⟩:=Ty.cast_spec hu
     cases e3
     exact⟨h.1.step (fun b _ hb=>⟨hS b hb,rfl⟩) (fun _ _=>rfl) fun b hb=>(h.1.low b hb).1,fun i d hd=>by cases hd⟩
    next=>cases hu
  |arr e' t' l=>simp [OSh.un] at hu
  |txt e l=>simp [OSh.un] at hu
  |deep=>simp [OSh.un] at hu
  |perm=>simp [OSh.un] at hu
  |spent=>simp [OSh.un] at hu
  |cells cs=>simp [OSh.un] at hu
 |cells c=>
  cases x with
  |arr e' t' l=>simp [OSh.un] at hu
  |txt e l=>simp [OSh.un] at hu
  |deep=>simp [OSh.un] at hu
  |perm=>simp [OSh.un] at hu
  |spent=>simp [OSh.un] at hu
  |rows e e2 t l hh=>simp [OSh.un] at hu
  |cells cs=>
   simp only [OSh.un] at hu
   split at hu
   next y hy=>
    cases hu
    obtain⟨b,vs,e,h1,h2,h3,h4,h5⟩:=h
    obtain⟨y1,y2,he,k1,k2⟩:=un_ok CloAll.none hy (RL.of (ys:=vs.toList) (by simpa using h4.symm) fun j v hv=>by simpa using h5 j v hv)
    cases y2 with
    |cons _ _=>exact k2.elim
    |nil=>
     rw [xas] at he
     subst he
     obtain⟨k3,k4⟩:=(val_weak hμ (by simpa only [OSh.okIds] using hk) hS k1).to
     exact⟨b,vs,e,h1,h2,h3,by simpa using k3.symm,fun j v hv=>by simpa using k4 j v hv⟩
   next=>cases hu
theorem SS_only[Tabs]{ids:List Nat}{b:Nat}(h:SS X μ b):SS X (only μ ids) b:=⟨h.1,fun o mv ho=>h.2 o mv (only_inv ho).2⟩
theorem Rel.un[Tabs]{S:SSh}(hk:S.ok=true){t:S.T}(hu:unSt S s=some t)(h:Rel P X lo N w0 s a w μ):∃μ',Rel P X lo N w0 (mkSt S t) a w μ':=by
 unfold unSt at hu
 split at hu
 next x hx=>
  split at hu
  next y hy=>
   cases hu
   simp only [SSh.ok,xg,xp] at hk
   have hμ:∀o∈S.obs.map (·.1),∀mv,μ o=some mv→only μ (S.obs.map (·.1)) o=some mv:=fun o ho mv h=>only_in ho h
   refine⟨only μ (S.obs.map (·.1)),⟨h.mem.hX,h.mem.hlo,fun o mv ho=>?_,fun o p mv mv' b h1 h2=>h.mem.dis o p mv mv' b (only_inv h1).2 (only_inv h2).2,h.mem.tab⟩,fun i=>?_,h.bel,h.df,h.sz⟩
   ·obtain⟨h1,h2⟩:=only_inv ho
    obtain⟨os,x',z,k1,k2,k3,k4⟩:=obs_look hy o h1
    obtain⟨aa,k5,k6⟩:=h.mem.ob o mv h2
    rw [k5] at k2
    cases k2
    exact⟨os.mk z,k1,ob_weak hμ (fun b=>SS_only) (hk.2 _ k4) k3 k6⟩
   ·obtain⟨y1,y2,he,k1,k2⟩:=un_ok CloAll.none hx (RL.map (fun i=>h.fr i) S.slots)
    cases y2 with
    |cons _ _=>exact k2.elim
    |nil=>
     rw [xas] at he
     subst he
     exact RL.zip (fun _=>.undef) i (val_weak hμ hk.1 (fun b=>SS_only) k1)
  next=>cases hu
 next=>cases hu
theorem noArr_rel[Tabs]{o e:Nat}{t:Ty}(h:Rel P X lo N w0 s a w μ)(hg:s.g o=none):
  Rel P X lo N w0 {fr:=s.fr,ob:=(o,.arr e t [])::s.ob} a w (again μ o ⟨.slice none 0 0,[],[]⟩):=by
 have af:μ o=none:=by
  cases hm:μ o with
  |none=>rfl
  |some mv=>obtain⟨y,hy,_⟩:=h.mem.ob o mv hm;rw [hg] at hy;cases hy
 have aa:∀p mv,μ p=some mv→again μ o ⟨.slice none 0 0,[],[]⟩ p=some mv:=fun p mv hp=>again_ne (fun e=>by rw [e,af] at hp;cases hp) hp
 have hS:∀b,b<w.heap.size→SS X μ b→SS X (again μ o ⟨.slice none 0 0,[],[]⟩) b:=fun b _ hb=>⟨hb.1,fun p mv hp e=>by
  rcases again_inv hp with⟨rfl,rfl⟩|⟨_,hp⟩
  ·cases e
  ·exact hb.2 p mv hp e⟩
 refine⟨⟨h.mem.hX,h.mem.hlo,fun p mv hp=>?_,fun p p' mv mv' k hp ah hk ab=>?_,h.mem.tab⟩,fun j=>(h.fr j).step aa h.mem.hlo (fun b hb hs=>⟨hS b hb hs,rfl⟩) fun _ _=>rfl,h.bel,h.df,h.sz⟩
 ·rcases again_inv hp with⟨rfl,rfl⟩|⟨ad,hp⟩
  ·exact⟨.arr e t [],by simp [St.g,look],⟨rfl,rfl⟩,fun b hb=>by simp [rootV] at hb,[],World.ownsRow_nil w 0 e t.size,rfl⟩
  ·obtain⟨y,hy,ai⟩:=h.mem.ob p mv hp
   refine⟨y,?_,ai.step h.mem.hlo aa (fun b hb hs=>⟨hS b hb hs,rfl⟩) (fun _ _=>rfl) fun _ _=>rfl⟩
   simp only [St.g,look,beq_ne (xcc ad)]
   exact hy
 ·rcases again_inv hp with⟨rfl,rfl⟩|⟨ad,aj⟩<;>rcases again_inv ah with⟨rfl,rfl⟩|⟨ak,ae⟩
  ·rfl
  ·cases hk
  ·cases ab
  ·exact h.mem.dis _ _ _ _ k aj ae hk ab
theorem nil_val{w:World}{S:Nat→Prop}{y:Value}(hv:RelV P w lo μ S .nilsl y):y=.slice none 0 0:=by
 cases hv
 rfl
theorem Rel.own[Tabs]{i o e:Nat}{t:Ty}(h:Rel P X lo N w0 s a w μ)(hs:s.slot i=.nilsl)(hg:s.g o=none):
  ∃μ',Rel P X lo N w0 {fr:=(i,.arr o)::s.fr,ob:=(o,.arr e t [])::s.ob} a w μ':=by
 have hv:=h.fr i
 rw [hs] at hv
 have aa:=nil_val hv
 exact⟨_,(noArr_rel h hg).know (d:=i) (by rw [aa];exact .arr (rs:=[]) (hs:=[]) again_self)⟩
theorem Rel.ownR[Tabs]{i o e e2:Nat}{t:Ty}(h:Rel P X lo N w0 s a w μ)(hs:s.slot i=.nilsl)(hg:s.g o=none):
  ∃μ',Rel P X lo N w0 {fr:=(i,.arr o)::s.fr,ob:=(o,.rows e e2 t [] none)::s.ob} a w μ':=by
 have hv:=h.fr i
 rw [hs] at hv
 have aa:=nil_val hv
 have ab:=noRows_rel h (d:=o) (e:=e) (e2:=e2) (t:=t) hg
 exact⟨_,ab.know (d:=i) (by rw [aa];exact .arr (rs:=[]) (hs:=[]) again_self)⟩
theorem agg_own{w:World}{S:Nat→Prop}{cs:List AV}{j o:Nat}{y:Value}(hv:RelV P w lo μ S (.agg cs) y)(hj:nth cs j=some .nilsl)(ho:∃rs hs,μ o=some ⟨.slice none 0 0,rs,hs⟩):RelV P w lo μ S (.agg (cs.set j (.arr o))) y:=by
 obtain⟨rs,hs,ho⟩:=ho
 cases hv with
 |agg hl hv=>
  refine .agg (by rw [xar];exact hl) fun k v hk=>?_
  rw [nth_eq,xcj] at hk
  split at hk
  next e=>
   subst e
   split at hk
   next=>
    cases hk
    rw [nil_val (hv j _ hj)]
    exact .arr ho
   next=>cases hk
  next=>exact hv k v (by rw [nth_eq];exact hk)
theorem Rel.ownC[Tabs]{i j o e:Nat}{t:Ty}{cs:List AV}(h:Rel P X lo N w0 s a w μ)(hs:s.slot i=.agg cs)(hg:s.g o=none)(hj:nth cs j=some .nilsl):
  ∃μ',Rel P X lo N w0 {fr:=(i,.agg (cs.set j (.arr o)))::s.fr,ob:=(o,.arr e t [])::s.ob} a w μ':=by
 have h1:=noArr_rel h (o:=o) (e:=e) (t:=t) hg
 have hv:=h1.fr i
 rw [show({fr:=s.fr,ob:=(o,.arr e t [])::s.ob}:St).slot i=s.slot i from rfl,hs] at hv
 exact⟨_,h1.know (d:=i) (agg_own hv hj ⟨[],[],again_self⟩)⟩
theorem Rel.ownRC[Tabs]{i j o e e2:Nat}{t:Ty}{cs:List AV}(h:Rel P X lo N w0 s a w μ)(hs:s.slot i=.agg cs)(hg:s.g o=none)(hj:nth cs j=some .nilsl):
  ∃μ',Rel P X lo N w0 {fr:=(i,.agg (cs.set j (.arr o)))::s.fr,ob:=(o,.rows e e2 t [] none)::s.ob} a w μ':=by
 have h1:=noRows_rel h (d:=o) (e:=e) (e2:=e2) (t:=t) hg
 have hv:=h1.fr i
 rw [show({fr:=s.fr,ob:=(o,.rows e e2 t [] none)::s.ob}:St).slot i=s.slot i from rfl,hs] at hv
 exact⟨_,h1.know (d:=i) (agg_own hv hj ⟨[],[],again_self⟩)⟩
theorem cell_own[Tabs]{p j o:Nat}{x:Ob}{cs:List AV}{μ':Nat→Option MV}(h1:Rel P X lo N w0 {fr:=s.fr,ob:=(o,x)::s.ob} a w μ')(hp:s.g p=some (.cells cs))(hg:s.g o=none)(hj:nth cs j=some .nilsl)(ho:∃rs hs,μ' o=some ⟨.slice none 0 0,rs,hs⟩):
  Rel P X lo N w0 {fr:=s.fr,ob:=(p,.cells (cs.set j (.arr o)))::(o,x)::s.ob} a w μ':=by
 have ad:o≠p:=fun e=>by rw [e,hp] at hg;cases hg
 refine⟨⟨h1.mem.hX,h1.mem.hlo,fun q mv hq=>?_,h1.mem.dis,h1.mem.tab⟩,h1.fr,h1.bel,h1.df,h1.sz⟩
 obtain⟨y,hy,aa⟩:=h1.mem.ob q mv hq
 by_cases e:q=p
 ·subst e
  have ab:s.g q=some y:=by
   simp only [St.g,look,beq_ne ad] at hy
   exact hy
  rw [hp] at ab
  cases ab
  refine⟨.cells (cs.set j (.arr o)),by simp [St.g,look],?_⟩
  obtain⟨b,vs,e,h2,h3,h4,h5,h6⟩:=aa
  refine⟨b,vs,e,h2,h3,h4,by rw [xar];exact h5,fun k v hk=>?_⟩
  rw [nth_eq,xcj] at hk
  split at hk
  next e'=>
   subst e'
   split at hk
   next=>
    cases hk
    obtain⟨rs,hs,ho⟩:=ho
    rw [nil_val (h6 j _ hj)]
    exact .arr ho
   next=>cases hk
  next=>exact h6 k v (by rw [nth_eq];exact hk)
 ·refine⟨y,?_,aa⟩
  simp only [St.g,look,beq_ne (xcc e)]
  exact hy
theorem Rel.ownB[Tabs]{p j o e:Nat}{t:Ty}{cs:List AV}(h:Rel P X lo N w0 s a w μ)(hp:s.g p=some (.cells cs))(hg:s.g o=none)(hj:nth cs j=some .nilsl):
  ∃μ',Rel P X lo N w0 {fr:=s.fr,ob:=(p,.cells (cs.set j (.arr o)))::(o,.arr e t [])::s.ob} a w μ':=
 ⟨_,cell_own (noArr_rel h hg) hp hg hj ⟨[],[],again_self⟩⟩
theorem Rel.ownRB[Tabs]{p j o e e2:Nat}{t:Ty}{cs:List AV}(h:Rel P X lo N w0 s a w μ)(hp:s.g p=some (.cells cs))(hg:s.g o=none)(hj:nth cs j=some .nilsl):
  ∃μ',Rel P X lo N w0 {fr:=s.fr,ob:=(p,.cells (cs.set j (.arr o)))::(o,.rows e e2 t [] none)::s.ob} a w μ':=
 ⟨_,cell_own (noRows_rel h hg) hp hg hj ⟨[],[],again_self⟩⟩
theorem append_shape{w:World}{e sz n:Nat}{mv:Value}{xs:List Value}(h:w.ownsRow 0 e sz mv n xs):∃a c,mv=.slice a n c:=by
 rcases h.2 with⟨rfl,rfl⟩|⟨gb,cap,cur,rfl,_⟩
 ·exact⟨_,_,rfl⟩
 ·exact⟨_,_,rfl⟩
def moved(μ:Nat→Option MV)(o o' p:Nat):Option MV:=if p=o' then μ o else if p=o then none else μ p
theorem moved_inv{o o' p:Nat}{mv:MV}(h:moved μ o o' p=some mv):(p=o'∧μ o=some mv)∨(p≠o'∧p≠o∧μ p=some mv):=by
 unfold moved at h
 split at h
 ·exact .inl ⟨by assumption,h⟩
 ·split at h
  ·cases h
  ·exact .inr ⟨by assumption,by assumption,h⟩
theorem Rel.renG[Tabs]{o o':Nat}{x0:Ob}(h:Rel P X lo N w0 s a w μ)(hg:s.g o=some x0)(ab:s.g o'=none)(ad:∀mv,ObOK P w lo μ (SS X μ) x0 mv→∃a n c,mv.v=.slice a n c)
  (ae:∀μ' S' mv,(∀b,b<w.heap.size→SS X μ b→S' b)→ObOK P w lo μ (SS X μ) x0 mv→ObOK P w lo μ' S' x0 mv):
  ∃μ',Rel P X lo N w0 (s.swap o (.arr o') [(o',x0)]) a w μ':=by
 have ao:o≠o':=fun e=>by rw [e,ab] at hg;cases hg
 have af:μ o'=none:=by
  cases hm:μ o' with
  |none=>rfl
  |some mv=>obtain⟨y,hy,_⟩:=h.mem.ob o' mv hm;rw [ab] at hy;cases hy
 have hμ:∀p mv,p≠o→μ p=some mv→moved μ o o' p=some mv:=fun p mv hp hm=>by
  unfold moved
  rw [if_neg (fun e=>by rw [e,af] at hm;cases hm),if_neg hp]
  exact hm
 have hS:∀b,b<w.heap.size→SS X μ b→SS X (moved μ o o') b:=fun b _ hb=>⟨hb.1,fun p mv hp e=>by
  rcases moved_inv hp with⟨_,hp⟩|⟨_,_,hp⟩
  ·exact hb.2 o mv hp e
  ·exact hb.2 p mv hp e⟩
 have hd:∀mv,μ o=some mv→RelV P w lo (moved μ o o') (SS X (moved μ o o')) (.arr o') mv.v:=fun mv hm=>by
  obtain⟨y,hy,aa⟩:=h.mem.ob o mv hm
  rw [hg] at hy
  cases hy
  obtain⟨a',n',c',e⟩:=ad mv aa
  obtain⟨v,rs,hs⟩:=mv
  simp only at e
  subst e
  exact .arr (rs:=rs) (hs:=hs) (by unfold moved;rw [if_pos rfl,hm])
 refine⟨moved μ o o',⟨h.mem.hX,h.mem.hlo,fun p mv hp=>?_,fun p p' mv mv' b h1 h2 h3 h4=>?_,h.mem.tab⟩,fun i=>?_,h.bel,h.df,h.sz⟩
 ·rcases moved_inv hp with⟨rfl,ah⟩|⟨ai,aj,hp⟩
  ·obtain⟨x,hx,aa⟩:=h.mem.ob o mv ah
   rw [hg] at hx
   cases hx
   exact⟨x0,by simp [St.g,St.swap,look],ae _ _ _ hS aa⟩
  ·obtain⟨x,hx,aa⟩:=h.mem.ob p mv hp
   refine⟨frzOb o (.arr o') x,?_,frzOb_rel h.mem.hlo hμ hd hS aa⟩
   simp only [St.g,St.swap,xdc,look,beq_ne (xcc ai),look_map]
   rw [look_filter o s.ob p aj]
   simp only [St.g] at hx
   rw [hx]
   rfl
 ·rcases moved_inv h1 with⟨rfl,k1⟩|⟨k0,ak,k1⟩<;>rcases moved_inv h2 with⟨rfl,k2⟩|⟨k3,al,k2⟩
  ·rfl
  ·exact absurd (h.mem.dis _ _ _ _ b k1 k2 h3 h4).symm al
  ·exact absurd (h.mem.dis _ _ _ _ b k1 k2 h3 h4) ak
  ·exact h.mem.dis _ _ _ _ b k1 k2 h3 h4
 ·simp only [St.slot,St.swap,look_map]
  have:=frz2_rel (d:=.arr o') h.mem.hlo hμ hd hS (h.fr i)
  simp only [St.slot] at this
  cases hl:look s.fr i with
  |none=>exact .undef
  |some v=>rw [hl] at this;exact this
theorem Rel.ren[Tabs]{o o' e:Nat}{t:Ty}{l:List t.I}(h:Rel P X lo N w0 s a w μ)(hg:s.g o=some (.arr e t l))(ab:s.g o'=none):
  ∃μ',Rel P X lo N w0 (s.swap o (.arr o') [(o',.arr e t l)]) a w μ':=
 h.renG hg ab (fun mv ⟨_,_,xs,aa,_⟩=>by obtain⟨a',c',e⟩:=append_shape aa;exact⟨_,_,_,e⟩)
  fun μ' S' mv hS ⟨k0,k3,xs,k1,k2⟩=>⟨k0,k3,xs,k1,k2.step fun b hb hs=>⟨hS b hb hs,rfl⟩⟩
theorem Rel.renR[Tabs]{o o' e e2:Nat}{t:Ty}{l:List (List t.I)}(h:Rel P X lo N w0 s a w μ)(hg:s.g o=some (.rows e e2 t l none))(ab:s.g o'=none):
  ∃μ',Rel P X lo N w0 (s.swap o (.arr o') [(o',.rows e e2 t l none)]) a w μ':=
 h.renG hg ab (fun mv aa=>by obtain⟨a',c',e⟩:=append_shape aa.1.own;exact⟨_,_,_,e⟩)
  fun μ' S' mv hS aa=>⟨aa.1.step (fun b hb hs=>⟨hS b hb hs,rfl⟩) (fun _ _=>rfl) fun b hb=>(aa.1.low b hb).1,fun i d hd=>by cases hd⟩
theorem Rel.renD[Tabs]{o o' e:Nat}{t:Ty}{l:List t.I}(h:Rel P X lo N w0 s a w μ)(hg:s.g o=some (.deep e t l))(ab:s.g o'=none):
  ∃μ',Rel P X lo N w0 (s.swap o (.arr o') [(o',.deep e t l)]) a w μ':=
 h.renG hg ab (fun mv aa=>by obtain⟨xs,h1,_⟩:=DeepOK.rep aa;obtain⟨a',c',e⟩:=append_shape h1;exact⟨_,_,_,e⟩) fun μ' S' mv hS aa=>aa
theorem Rel.renP[Tabs]{o o' e e2:Nat}{k:Bool}{t:Ty}{ix:List Nat}{l:List (List t.I)}(h:Rel P X lo N w0 s a w μ)(hg:s.g o=some (.perm k e e2 t ix l))(ab:s.g o'=none):
  ∃μ',Rel P X lo N w0 (s.swap o (.arr o') [(o',.perm k e e2 t ix l)]) a w μ':=
 h.renG hg ab (fun mv aa=>by obtain⟨a',c',e⟩:=append_shape (PermOK.own aa);exact⟨_,_,_,e⟩)
  fun μ' S' mv hS aa=>PermOK.step aa (fun b hb hs=>⟨hS b hb hs,rfl⟩) (fun _ _=>rfl) fun b hb=>(PermOK.low aa b hb).1
theorem Rel.ren'[Tabs](h:Rel P X lo N w0 s a w μ)(o o':Nat):∃μ',Rel P X lo N w0 (s.ren o o') a w μ':=by
 unfold St.ren
 split
 next h1 h2=>exact h.ren h1 h2
 next h1 h2=>exact h.renR h1 h2
 next h1 h2=>exact h.renD h1 h2
 next h1 h2=>exact h.renP h1 h2
 next=>exact⟨μ,h⟩
theorem Rel.act[Tabs](h:Rel P X lo N w0 s a w μ)(c:CA):∃μ',Rel P X lo N w0 (s.act c) a w μ':=by
 cases c with
 |fz o=>exact h.freeze o
 |own i o e t=>
  simp only [St.act]
  split
  next h1 h2=>exact h.own h1 h2
  next=>exact⟨μ,h⟩
 |ownR i o e e2 t=>
  simp only [St.act]
  split
  next h1 h2=>exact h.ownR h1 h2
  next=>exact⟨μ,h⟩
 |ownC i j o e t=>
  simp only [St.act]
  split
  next h1 h2=>
   split
   next h3=>exact h.ownC h1 h2 h3
   next=>exact⟨μ,h⟩
  next=>exact⟨μ,h⟩
 |ownRC i j o e e2 t=>
  simp only [St.act]
  split
  next h1 h2=>
   split
   next h3=>exact h.ownRC h1 h2 h3
   next=>exact⟨μ,h⟩
  next=>exact⟨μ,h⟩
 |flat o=>exact h.flat o
 |drop o=>exact h.drop o
 |perm o=>exact h.perm o
 |pull k d=>exact h.pull k d
 |ownB p j o e t=>
  simp only [St.act]
  split
  next h1 h2=>
   split
   next h3=>exact h.ownB h1 h2 h3
   next=>exact⟨μ,h⟩
  next=>exact⟨μ,h⟩
 |ownRB p j o e e2 t=>
  simp only [St.act]
  split
  next h1 h2=>
   split
   next h3=>exact h.ownRB h1 h2 h3
   next=>exact⟨μ,h⟩
  next=>exact⟨μ,h⟩
 |ren o o'=>exact h.ren' o o'
 |pin i o'=>
  simp only [St.act]
  split
  next=>exact h.ren' _ o'
  next=>exact⟨μ,h⟩
 |pinB p j o'=>
  simp only [St.act]
  split
  next=>
   split
   next=>exact h.ren' _ o'
   next=>exact⟨μ,h⟩
  next=>exact⟨μ,h⟩
 |pinC i j o'=>
  simp only [St.act]
  split
  next=>
   split
   next=>exact h.ren' _ o'
   next=>exact⟨μ,h⟩
  next=>exact⟨μ,h⟩
 |rep o o'=>
  simp only [St.act]
  split
  next=>
   obtain⟨μ1,h1⟩:=h.freeze o'
   exact h1.ren' o o'
  next=>exact⟨μ,h⟩
 |repB p j o'=>
  simp only [St.act]
  split
  next=>
   split
   next o _=>
    split
    next=>
     obtain⟨μ1,h1⟩:=h.drop o'
     exact h1.ren' o o'
    next=>exact⟨μ,h⟩
   next=>exact⟨μ,h⟩
  next=>exact⟨μ,h⟩
theorem Rel.acts[Tabs]:∀ (l:List CA) {s:St} {μ:Nat→Option MV},Rel P X lo N w0 s a w μ→∃μ',Rel P X lo N w0 (s.acts l) a w μ'
 | [],_,μ,h=>⟨μ,h⟩
 |c::l,s,μ,h=>by
  obtain⟨μ',h'⟩:=h.act c
  exact Rel.acts l h'
theorem Keep.ok[Tabs]{k:Keep}(hk:k.S.ok=true){t:k.S.T}(hu:k.at s=some t)(h:Rel P X lo N w0 s a w μ):∃μ',Rel P X lo N w0 (mkSt k.S t) a w μ':=by
 obtain⟨μ1,h1⟩:=Rel.acts k.acts h
 exact h1.un hk hu
theorem look_all[Tabs]{l:List (Nat×Keep)}(h:l.all (fun p=>p.2.S.ok)=true){i:Nat}{k:Keep}(hl:look l i=some k):k.S.ok=true:=
 xp.1 h _ (look_mem hl)
theorem keepOut_ok[Tabs]{hd:Option Keep}{ex:List (Nat×Keep)}{rt:Keep}(h1:∀k,hd=some k→k.S.ok=true)(h2:ex.all (fun p=>p.2.S.ok)=true)(h3:rt.S.ok=true){o o':Out}(hk:keepOut hd ex rt o=some o'){e:Exit}
  (h:Post P X lo N w0 o e a w):Post P X lo N w0 o' e a w:=by
 cases e with
 |normal=>
  obtain⟨s,μ,rfl,hr⟩:=h
  simp only [keepOut] at hk
  cases hd with
  |none=>cases hk
  |some k=>
   obtain⟨t,h4,rfl⟩:=xbb.1 hk
   obtain⟨μ',aa⟩:=Keep.ok (h1 k rfl) h4 hr
   exact⟨_,μ',rfl,aa⟩
 |exit id=>
  obtain⟨s,μ,rfl,hr⟩:=h
  simp only [keepOut] at hk
  split at hk
  next k hl=>
   obtain⟨t,h4,rfl⟩:=xbb.1 hk
   obtain⟨μ',aa⟩:=Keep.ok (look_all h2 hl) h4 hr
   exact⟨_,μ',rfl,aa⟩
  next=>cases hk
 |ret=>
  obtain⟨s,μ,rfl,hr⟩:=h
  simp only [keepOut] at hk
  obtain⟨t,h4,rfl⟩:=xbb.1 hk
  obtain⟨μ',aa⟩:=Keep.ok h3 h4 hr
  exact⟨_,μ',rfl,aa⟩
 |_=>exact h.elim
theorem iterN_mono{V R:Type}{f:V→Option (V⊕R)}:∀ {n m:Nat} {v:V} {r:R},iterN f n v=some r→n≤m→iterN f m v=some r
 |0,_,_,_,h,_=>by cases h
 |n+1,0,_,_,_,h=>by omega
 |n+1,m+1,v,r,h,hm=>by
  simp only [iterN] at h⊢
  split at h
  ·exact iterN_mono h (by omega)
  ·exact h
  ·cases h
theorem iter_some[Tabs]{V R:Type}{f:V→Option (V⊕R)}{v:V}{r:R}:iter f v=some r↔∃n,iterN f n v=some r:=by
 have same:∀ {n m:Nat} {r r':R},iterN f n v=some r→iterN f m v=some r'→r=r':=fun{n m r r'} h h'=>by
  have h1:=iterN_mono h (Nat.le_max_left n m)
  have h2:=iterN_mono h' (Nat.le_max_right n m)
  rw [h1] at h2
  exact xbz h2
 unfold iter
 constructor
 ·intro h
  split at h
  next r' hr=>exact⟨_,by rw [←h];exact hr⟩
  next=>
   split at h
   next hex=>
    have:=hex.choose_spec
    simp only [xc] at h
    rw [h] at this
    exact this
   next=>cases h
 ·rintro⟨n,h⟩
  split
  next r' hr=>rw [same hr h]
  next=>
   have hex:∃r n,iterN f n v=some r:=⟨r,n,h⟩
   rw [dif_pos hex]
   obtain⟨m,hm⟩:=hex.choose_spec
   rw [same hm h]
theorem loop_ok[Tabs]{id:Nat}{b:Code}{d:LD}(hd:d.OK E tt fz orc b)(hb:Sound P X lo N w0 b (acode E tt fz orc b)):Sound P X lo N w0 (.block id (.loop b)) (fun s=>match d.orc id s with|some x=>x|none=>.f):=by
 intro s a w μ out h he
 cases ho:d.orc id s with
 |none=>simp only [ho] at he;cases he
 |some x=>
  simp only [ho] at he
  unfold LD.orc at ho
  obtain⟨t,ht,rfl⟩:=xbb.1 ho
  simp only [Tr.ev_c,Tr.ev_map] at he
  obtain⟨r,hr,he⟩:=bind_some' he
  obtain⟨ex,hex,rfl⟩:=xbb.1 he
  obtain⟨n,hn⟩:=iter_some.1 hr
  obtain⟨μ',h'⟩:=Keep.ok hd.ok ht h
  rw [←hd.eta t] at h'
  refine wp_block (wp_loop_n (fun n a w=>∃v μ,iterN (fun v=>(d.step (d.sk t) v).ev) n v=some r∧Rel P X lo N w0 (mkSt d.head.S (d.join (d.sk t) v)) a w μ) (fun n a w hI=>?_) (n:=n) ⟨_,μ',hn,h'⟩)
  obtain⟨v,μ1,hv,ad⟩:=hI
  cases n with
  |zero=>cases hv
  |succ m=>
   simp only [iterN] at hv
   have aa:=hd.step (d.sk t) v
   rw [Tr.ev_map,Tr.ev_bind] at aa
   cases hx:(d.step (d.sk t) v).ev with
   |none=>rw [hx] at hv;cases hv
   |some x=>
    rw [hx] at hv aa
    simp only [xf] at aa
    cases x with
    |inl v'=>
     simp only at hv
     simp only [LD.next,Tr.ev_l] at aa
     obtain⟨o,h1,h2⟩:=xbb.1 aa
     refine Code.wp_mono (fun e a' w' hp=>?_) (hb _ a w μ1 o ad h1)
     have ab:=keepOut_ok (fun k hk=>by cases hk;exact hd.ok) hd.oke hd.okr h2 hp
     cases e with
     |normal=>
      obtain⟨s',μ2,e1,h3⟩:=ab
      cases e1
      exact⟨m,Nat.lt_succ_self m,v',μ2,hv,h3⟩
     |exit i=>obtain⟨_,_,e1,_⟩:=ab;cases e1
     |ret=>obtain⟨_,_,e1,_⟩:=ab;cases e1
     |_=>exact ab.elim
    |inr r'=>
     simp only [xc] at hv
     subst hv
     simp only [LD.next,Tr.ev_map,hex,xy] at aa
     obtain⟨o,h1,h2⟩:=xbb.1 aa
     refine Code.wp_mono (fun e a' w' hp=>?_) (hb _ a w μ1 o ad h1)
     have ab:=keepOut_ok (fun k hk=>by cases hk;exact hd.ok) hd.oke hd.okr h2 hp
     cases ex with
     |exit i s'=>
      cases e with
      |normal=>obtain⟨_,_,e1,_⟩:=ab;cases e1
      |exit i'=>
       obtain⟨s2,μ2,e1,h3⟩:=ab
       simp only [Ex.out,Out.exit.injEq] at e1
       obtain⟨rfl,rfl⟩:=e1
       simp only [Exit.then,Exit.inBlock,Ex.at]
       by_cases e:i=id
       ·subst e
        rw [beq_self,if_pos rfl]
        exact⟨_,μ2,rfl,h3⟩
       ·rw [beq_ne e,if_neg e]
        exact⟨_,μ2,rfl,h3⟩
      |ret=>obtain⟨_,_,e1,_⟩:=ab;cases e1
      |_=>exact ab.elim
     |ret s'=>
      cases e with
      |normal=>obtain⟨_,_,e1,_⟩:=ab;cases e1
      |exit i'=>obtain⟨_,_,e1,_⟩:=ab;cases e1
      |ret=>
       obtain⟨s2,μ2,e1,h3⟩:=ab
       cases e1
       exact⟨_,μ2,rfl,h3⟩
      |_=>exact ab.elim
def LoopsOK(E:Env)(tt:Nat→TD)(fz:Nat→Nat→List Nat)(l:List (Nat×LD))(c:Code):Prop:=
 ∀p∈loopsOf c,∀q∈l,q.1=p.1→q.2.OK E tt fz (orcOf l) p.2
theorem orcOf_some{id:Nat}{s:St}{x:Tr Out}:∀ {l:List (Nat×LD)},orcOf l id s=some x→∃q∈l,q.1=id∧q.2.orc id s=some x
 | [],h=>by cases h
 |(n,d)::r,h=>by
  unfold orcOf at h
  split at h
  next e=>
   split at h
   next y hy=>
    cases h
    exact⟨(n,d),xx,xe e,hy⟩
   next=>
    obtain⟨q,h1,h2⟩:=orcOf_some h
    exact⟨q,xu _ h1,h2⟩
  next=>
   obtain⟨q,h1,h2⟩:=orcOf_some h
   exact⟨q,xu _ h1,h2⟩
theorem loops_ok[Tabs](hm:P.follows .mixedOrders=true)(hE:EnvOK P E)(hT:TabOK P tt){l:List (Nat×LD)}:∀ (c:Code),LoopsOK E tt fz l c→codeChk fz N.k N.n c=true→
  ∀p∈loopsOf c,Sound P X lo N w0 (.block p.1 (.loop p.2)) (fun s=>match orcOf l p.1 s with|some x=>x|none=>.f)
 | .seq x y,hl,hc=>fun p hp=>by
  simp only [codeChk,xg] at hc
  simp only [LoopsOK,loopsOf,xq] at hl hp
  rcases hp with hp|hp
  ·exact loops_ok hm hE hT x (fun p hp=>hl p (.inl hp)) hc.1 p hp
  ·exact loops_ok hm hE hT y (fun p hp=>hl p (.inr hp)) hc.2 p hp
 | .cond _ x y,hl,hc=>fun p hp=>by
  simp only [codeChk,xg] at hc
  simp only [LoopsOK,loopsOf,xq] at hl hp
  rcases hp with hp|hp
  ·exact loops_ok hm hE hT x (fun p hp=>hl p (.inl hp)) hc.1 p hp
  ·exact loops_ok hm hE hT y (fun p hp=>hl p (.inr hp)) hc.2 p hp
 | .block id (.loop b),hl,hc=>fun p hp=>by
  simp only [codeChk] at hc
  simp only [LoopsOK,loopsOf,xam] at hl hp
  have aa:=loops_ok hm hE hT b (fun p hp=>hl p (.inr hp)) hc
  rcases hp with rfl|hp
  ·intro s a w μ out h he
   dsimp only at he
   cases ho:orcOf l id s with
   |none=>
    rw [ho] at he
    cases he
   |some x=>
    rw [ho] at he
    dsimp only at he
    obtain⟨q,h1,h2,h3⟩:=orcOf_some ho
    exact loop_ok (hl _ (.inl rfl) q h1 h2) (code_ok hm hE hT b aa hc) s a w μ out h (by dsimp only;rw [h3];exact he)
  ·exact aa p hp
 | .block _ .skip,hl,hc=>fun p hp=>by cases hp
 | .block _ (.exit _),hl,hc=>fun p hp=>by cases hp
 | .block _ .ret,hl,hc=>fun p hp=>by cases hp
 | .block _ (.region _ _ _),hl,hc=>fun p hp=>by cases hp
 | .block _ (.seq x y),hl,hc=>loops_ok hm hE hT (.seq x y) hl hc
 | .block _ (.cond c x y),hl,hc=>loops_ok hm hE hT (.cond c x y) hl hc
 | .block _ (.block i c),hl,hc=>loops_ok hm hE hT (.block i c) hl hc
 | .block _ (.rangeFunc _ _ _ _),hl,hc=>fun p hp=>by cases hp
 | .block _ (.scope _),hl,hc=>fun p hp=>by cases hp
 | .block _ (.label _),hl,hc=>fun p hp=>by cases hp
 | .block _ (.goto _),hl,hc=>fun p hp=>by cases hp
 | .block _ (.refuse _),hl,hc=>fun p hp=>by cases hp
 | .skip,hl,hc=>fun p hp=>by cases hp
 | .exit _,hl,hc=>fun p hp=>by cases hp
 | .ret,hl,hc=>fun p hp=>by cases hp
 | .region _ _ _,hl,hc=>fun p hp=>by cases hp
 | .loop _,hl,hc=>fun p hp=>by cases hp
 | .rangeFunc _ _ _ _,hl,hc=>fun p hp=>by cases hp
 | .scope _,hl,hc=>fun p hp=>by cases hp
 | .label _,hl,hc=>fun p hp=>by cases hp
 | .goto _,hl,hc=>fun p hp=>by cases hp
 | .refuse _,hl,hc=>fun p hp=>by cases hp
end
end Go.Proofs.YteiekijgoifhoaaGreatDoor
