/-
 Functions: the evaluator's answer on a function's code is an entry of the table.
-/
import Derived.Test.YteiekijgoifhoaaGreatDoorB25
namespace Go.Proofs.YteiekijgoifhoaaGreatDoor
open Go.RowKit (Below)
section
variable {P:Program} {E:Env} {tt:Nat→TD}
theorem run_enter{f:FuncId}{fn:Func}{c:Code}(hf:P.funcs[f]? =some fn)(aa:(fn.name== "runtime.NumGoroutine")=false)(hb:fn.body=some c)(args:Array Value)(w:World):
  (callFunc f args).run P w=.ok (.enter f args) w:=by
 have h1:fn.name≠ "runtime.NumGoroutine" :=by simpa using aa
 simp [callFunc,hf,h1,hb]
def pinK(l:List (Nat×Nat×Nat)):List Nat:=l.map (·.1)
def pinCells(x:Value):Array Value:=match x with
 | .func _ _ xs=>xs
 |x=>x.cells
def pinV(c:Nat)(x:Value):Value:=match c with
 |0=>x
 |j+1=>(pinCells x).getD j undef
theorem pinK_mem{l:List (Nat×Nat×Nat)}{q:Nat×Nat×Nat}(h:q∈l):q.1∈pinK l:=xae.2 ⟨q,h,rfl⟩
theorem pin_rel{w:World}{lo:Nat→Prop}{μ:Nat→Option MV}{S:Nat→Prop}{v:AV}{c o:Nat}(hp:pinAt v c o=true){x:Value}(h:RelV P w lo μ S v x):∃rs hs,μ o=some ⟨pinV c x,rs,hs⟩:=by
 unfold pinAt at hp
 split at hp
 ·split at hp
  ·have:=xe hp
   subst this
   cases h with
   |box h=>exact⟨_,_,h⟩
  ·have:=xe hp
   subst this
   cases h with
   |arr h=>exact⟨_,_,h⟩
  ·cases hp
 next j=>
  split at hp
  next cs=>
   split at hp
   next p hj=>
    have:=xe hp
    subst this
    cases h with
    |agg hl hv=>
     have:=hv j _ hj
     show∃rs hs,μ p=some ⟨Array.getD (pinCells _) j undef,rs,hs⟩
     simp only [pinCells,Value.cells]
     generalize Array.getD _ j undef=z at this
     cases this with
     |arr h=>exact⟨_,_,h⟩
   next=>cases hp
  next f cs=>
   split at hp
   next p hj=>
    have:=xe hp
    subst this
    cases h with
    |fn hl hv=>
     have:=hv j _ hj
     show∃rs hs,μ p=some ⟨Array.getD (pinCells _) j undef,rs,hs⟩
     simp only [pinCells]
     generalize Array.getD _ j undef=z at this
     cases this with
     |box h=>exact⟨_,_,h⟩
   next=>cases hp
  next=>cases hp
structure FnOK(P:Program)(E:Env)(tt:Nat→TD)(f:Nat)(d:FD)(rt:RetK)(fz:Nat→Nat→List Nat)(l:List (Nat×LD))(fn:Func)(c:Code)(T:d.T→Tr d.R)(rho:d.R→rt.T):Prop where
 at_:P.funcs[f]? =some fn
 name:(fn.name== "runtime.NumGoroutine")=false
 body:fn.body=some c
 res:fn.results=rt.res.toArray
 ok:rt.ok=true
 arity:∀x:d.T,(val d.A x.1).length≤fn.ntmps
 pin:∀x:d.T,(rt.pins.all fun q=>pinAt ((entry d.A d.ins x).slot q.1) q.2.1 q.2.2)=true
 chk:codeChk fz (pinK rt.pins) fn.ntmps c=true
 loops:LoopsOK E tt fz l c
 run:∀x:d.T,((acode E tt fz (orcOf l) c (entry d.A d.ins x)).map (keepRet tt rt)).ev=((T x).map fun r=>some (rho r)).ev
 F:∀x,d.F x=(T x).ev
 emb:∀r,d.emb r=(val rt.sh (rho r).1,mkObs rt.obs (rho r).2++rt.gone.map fun o=>(o,Ob.spent))
 gone:(rt.gone.all fun o=>(Nat.ble 64 o&&(d.ins.map (·.1)).any (Nat.beq o))&& !(rt.obs.map (·.1)).any (Nat.beq o))=true:=by rfl
def goneK(μi μ:Nat→Option MV)(g:List Nat)(o:Nat):Option MV:=if g.any (Nat.beq o)=true then(μi o).map fun mv=>⟨mv.v,[],[]⟩ else μ o
theorem goneK_out{μi μ:Nat→Option MV}{g:List Nat}{o:Nat}(h:¬g.any (Nat.beq o)=true):goneK μi μ g o=μ o:=by unfold goneK;rw [if_neg h]
theorem goneK_inv{μi μ:Nat→Option MV}{g:List Nat}{o:Nat}{mv:MV}(h:goneK μi μ g o=some mv):(g.any (Nat.beq o)=true∧∃mv0,μi o=some mv0∧mv=⟨mv0.v,[],[]⟩)∨(¬g.any (Nat.beq o)=true∧μ o=some mv):=by
 unfold goneK at h
 split at h
 next e=>
  obtain⟨mv0,h1,h2⟩:=xbb.1 h
  exact .inl ⟨e,mv0,h1,h2.symm⟩
 next e=>exact .inr ⟨e,h⟩
theorem any_mem{g:List Nat}{o:Nat}:g.any (Nat.beq o)=true↔o∈g:=by
 rw [xbi]
 exact⟨fun⟨x,hx,e⟩=>by rw [xe e];exact hx,fun h=>⟨o,h,xea o⟩⟩
theorem look_gone{g:List Nat}{o:Nat}(h:o∈g):look (g.map fun o=>(o,Ob.spent)) o=some .spent:=by
 induction g with
 |nil=>cases h
 |cons x g ih=>
  simp only [xbm,look]
  by_cases e:x=o
  ·subst e;rw [xea]
  ·rw [beq_ne e]
   exact ih ((xam.1 h).resolve_left fun e'=>e e'.symm)
theorem ret_ok[Tabs](hT:TabOK P tt){d:FD}{rt:RetK}{fn:Func}{x:d.T}{w:World}{X:Nat→Prop}{μi:Nat→Option MV}{vals:Array Value}(al:∀p∈mkObs d.ins x.2,∃mv,μi p.1=some mv)
  (ao:fn.results=rt.res.toArray) (hk:rt.ok=true) {pk:List Nat} (bc:pk=pinK rt.pins) (au:(rt.pins.all fun q=>pinAt ((entry d.A d.ins x).slot q.1) q.2.1 q.2.2)=true)
  (av:(rt.gone.all fun o=>(Nat.ble 64 o&&(d.ins.map (·.1)).any (Nat.beq o))&& !(rt.obs.map (·.1)).any (Nat.beq o))=true)
  (ah:Rel P X (old w μi) ⟨fn.ntmps,pk,fun i=>vals.getD i undef⟩ w (entry d.A d.ins x) {tmps:=vals++Array.replicate (fn.ntmps-vals.size) undef,defers:=[]} w μi)
  {res:List AV×List (Nat×Ob)} {t:rt.T} (ad:res=(val rt.sh t.1,mkObs rt.obs t.2++rt.gone.map fun o=>(o,Ob.spent)))
  {s:St} {a:Act} {w':World} {μ:Nat→Option MV} (hr:Rel P X (old w μi) ⟨fn.ntmps,pk,fun i=>vals.getD i undef⟩ w s a w' μ) (ht:rt.at tt s=some t):
  a.defers=[]∧∃v,(results fn a.tmps).run P w'=.ok v w'∧∃x,Ending.returned v=.returned x∧ResOK P X (old w μi) w w' μi res x:=by
 subst bc
 obtain⟨μ1,h1⟩:=Rel.acts rt.acts hr
 unfold RetK.at at ht
 split at ht
 case h_2=>cases ht
 rename_i ak
 split at ht
 next vs bd=>
  split at ht
  next x' hx=>
   split at ht
   next y hy=>
    simp only [xc] at ht
    subst ht
    have af:=hk
    simp only [RetK.ok,xg,xp] at af
    obtain⟨ys,aw⟩:∃ys,RL (RelV P w' (old w μi) μ1 (SS X μ1)) vs ys∧(results fn a.tmps).run P w'=.ok (resVal ys) w':=by
     have:∀F:ResultVar→Sem Value,(∀t,F (.tmp t)=pure (a.tmps.getD t undef))→(∀r ty,F (.cell r ty)=(do loadVar ty (←asAddr (a.tmps.getD r undef))))→∃ys,(List.mapM F rt.res).run P w'=.ok ys w'∧RL (RelV P w' (old w μi) μ1 (SS X μ1)) vs ys:=fun F k1 k2=>rs_ok hT h1 F k1 k2 bd
     obtain⟨ys,k1,k2⟩:=this (fun| .tmp t=>pure (a.tmps.getD t undef)| .cell r ty=>do loadVar ty (←asAddr (a.tmps.getD r undef))) (fun _=>rfl) fun _ _=>rfl
     refine⟨ys,k2,run_results ao fun F k3 k4=>?_⟩
     have:F=(fun| .tmp t=>pure (a.tmps.getD t undef)| .cell r ty=>do loadVar ty (←asAddr (a.tmps.getD r undef))):=by
      funext r
      cases r with
      |tmp t=>exact k3 t
      |cell r ty=>exact k4 r ty
     rw [this]
     exact k1
    have ab:∀o∈rt.gone,(64≤o∧∃p∈d.ins,p.1=o)∧o∉rt.obs.map (·.1):=fun o ho=>by
     have:=xp.1 av o ho
     simp only [xg,xat] at this
     obtain⟨⟨g1,g2⟩,g3⟩:=this
     obtain⟨p,hp,e⟩:=xae.1 (any_mem.1 g2)
     exact⟨⟨xcr g1,p,hp,e⟩,fun hm=>by rw [any_mem.2 hm] at g3;cases g3⟩
    have ay:∀o∈rt.obs.map (·.1),¬rt.gone.any (Nat.beq o)=true:=fun o ho hg=>(ab o (any_mem.1 hg)).2 ho
    have hμ:∀o∈rt.obs.map (·.1),∀mv,μ1 o=some mv→goneK μi (only μ1 (rt.obs.map (·.1))) rt.gone o=some mv:=fun o ho mv h=>by rw [goneK_out (ay o ho)];exact only_in ho h
    have az:∀b,SS X μ1 b→SS X (goneK μi (only μ1 (rt.obs.map (·.1))) rt.gone) b:=fun b hs=>⟨hs.1,fun o mv ho hb=>by
     rcases goneK_inv ho with⟨_,mv0,_,rfl⟩|⟨_,ho⟩
     ·cases hb
     ·exact(SS_only (ids:=rt.obs.map (·.1)) hs).2 o mv ho hb⟩
    refine⟨h1.df,_,aw.2,_,rfl,h1.bel,goneK μi (only μ1 (rt.obs.map (·.1))) rt.gone,?_,fun o mv ho=>?_,fun p hp hge=>?_,?_⟩
    ·rw [ad]
     refine⟨h1.mem.hX,h1.mem.hlo,fun o mv ho=>?_,fun o p mv mv' b h2 h3 ba bb=>?_,h1.mem.tab⟩
     ·rcases goneK_inv ho with⟨hg,mv0,av,rfl⟩|⟨_,ho⟩
      ·refine⟨.spent,?_,rfl,fun b hb=>by cases hb⟩
       rw [look_append]
       have hn:=(ab o (any_mem.1 hg)).2
       cases hl:look (mkObs rt.obs y) o with
       |some z=>exact absurd (by rw [←mkObs_ids (y:=y)];exact xae.2 ⟨_,look_mem hl,rfl⟩) hn
       |none=>exact look_gone (any_mem.1 hg)
      ·obtain⟨h2,h3⟩:=only_inv ho
       obtain⟨os,x',z,k1,k2,k3,k4⟩:=obs_look hy o h2
       obtain⟨bk,k5,k6⟩:=h1.mem.ob o mv h3
       rw [k5] at k2
       cases k2
       exact⟨os.mk z,by rw [look_append,k1],ob_weak hμ az (af.1.2 _ k4) k3 k6⟩
     ·rcases goneK_inv h2 with⟨_,mv0,_,rfl⟩|⟨_,h2⟩
      ·cases ba
      ·rcases goneK_inv h3 with⟨_,mv0,_,rfl⟩|⟨_,h3⟩
       ·cases bb
       ·exact h1.mem.dis o p mv mv' b (only_inv h2).2 (only_inv h3).2 ba bb
    ·rw [ad]
     rcases goneK_inv ho with⟨hg,_⟩|⟨_,ho⟩
     ·exact⟨(o,.spent),xal _ (xae.2 ⟨o,any_mem.1 hg,rfl⟩),rfl⟩
     ·obtain⟨h2,_⟩:=only_inv ho
      obtain⟨os,x',z,k1,_⟩:=obs_look hy o h2
      exact⟨_,xag _ (look_mem k1),rfl⟩
    ·rw [ad] at hp
     rcases xq.1 hp with hp|hp
     case inr=>
      obtain⟨o,ho,rfl⟩:=xae.1 hp
      obtain⟨⟨_,q,hq,e⟩,_⟩:=ab o ho
      have be:o∈(mkObs d.ins x.2).map (·.1):=by rw [mkObs_ids,←e];exact xae.2 ⟨q,hq,rfl⟩
      obtain⟨p',bf,e'⟩:=xae.1 be
      obtain⟨mv,hmv⟩:=al p' bf
      rw [e'] at hmv
      refine⟨mv,[],[],hmv,?_⟩
      show goneK μi (only μ1 (rt.obs.map (·.1))) rt.gone o=_
      unfold goneK
      rw [if_pos (any_mem.2 ho),hmv]
      rfl
     have ai:p.1∈rt.obs.map (·.1):=by
      rw [←mkObs_ids (y:=y)]
      exact xae.2 ⟨p,hp,rfl⟩
     obtain⟨po,bg,e⟩:=xae.1 ai
     have ae:=af.2 po bg
     rw [e] at ae
     simp only [xbl,xbi] at ae
     rcases ae with ae|⟨q,hq,bh⟩
     ·have:=xcr ae
      omega
     ·have aj:=xe bh
      obtain⟨rs1,bj,g1⟩:=pin_rel (xp.1 ak q hq) (h1.fr q.1)
      obtain⟨rs0,bl,g0⟩:=pin_rel (xp.1 au q hq) (ah.fr q.1)
      have e1:=h1.sz.v q.1 (pinK_mem hq)
      have e0:=ah.sz.v q.1 (pinK_mem hq)
      rw [e1,aj] at g1
      rw [e0,aj] at g0
      exact⟨_,rs1,bj,g0,hμ _ ai _ g1⟩
    ·rw [ad]
     obtain⟨y1,y2,he,k1,k2⟩:=un_ok (CloAll.none (P:=P) (w:=w') (lo:=old w μi) (μ:=μ1) (S:=SS X μ1)) hx aw.1
     cases y2 with
     |cons _ _=>exact k2.elim
     |nil=>
      rw [xas] at he
      subst he
      have aa:=val_weak (S':=SS X (goneK μi (only μ1 (rt.obs.map (·.1))) rt.gone)) hμ af.1.1 az k1
      show RelR P w' (old w μi) (goneK μi (only μ1 (rt.obs.map (·.1))) rt.gone) (SS X (goneK μi (only μ1 (rt.obs.map (·.1))) rt.gone)) (val rt.sh x') (resVal ys)
      have hlen:=aa.to.1
      match ys,aa,hlen with
      | [],aa,hlen=>
       refine .inr ⟨by rw [hlen];simp,.tup (by rw [hlen];simp) fun j v hj=>?_⟩
       rw [xi hlen] at hj
       simp [nth] at hj
      | [y],aa,hlen=>
       generalize val rt.sh x'=vs at aa hlen
       match vs,aa,hlen with
       | [v],aa,_=>exact .inl ⟨v,rfl,aa.1⟩
      |y::z::ys,aa,hlen=>
       obtain⟨k1,k2⟩:=aa.to
       exact .inr ⟨by rw [hlen];simp,.tup (by rw [hlen];simp) fun j v hj=>by simpa using k2 j v hj⟩
   next=>cases ht
  next=>cases ht
 next=>cases ht
theorem fn_ok[Tabs](hm:P.follows .mixedOrders=true)(hE:EnvOK P E)(hT:TabOK P tt){f:Nat}{d:FD}{rt:RetK}{fz:Nat→Nat→List Nat}{l:List (Nat×LD)}{fn:Func}{c:Code}{T:d.T→Tr d.R}{rho:d.R→rt.T}
  (h:FnOK P E tt f d rt fz l fn c T rho):FDok P (f,d):=by
 intro x r hr w X μi vals hX ah ai aj hv
 refine .inl ⟨run_enter h.at_ h.name h.body vals w,calls_of_wp h.at_ h.body ?_⟩
 rw [h.F] at hr
 have ab:=h.run x
 rw [Tr.ev_map,Tr.ev_map,hr] at ab
 obtain⟨o,h1,h2⟩:=xbb.1 ab
 have al:=h.arity x
 have ak:(val d.A x.1).length=vals.size:=aj
 have hN:(vals++Array.replicate (fn.ntmps-vals.size) undef).size=fn.ntmps:=by
  simp only [xdw,xew]
  omega
 have ad:Rel P X (old w μi) ⟨fn.ntmps,pinK rt.pins,fun i=>vals.getD i undef⟩ w (entry d.A d.ins x) {tmps:=vals++Array.replicate (fn.ntmps-vals.size) undef,defers:=[]} w μi:=by
  refine⟨ah,fun i=>?_,Kept.refl _ _,rfl,hN,fun i _=>?_⟩
  ·refine RL.zip (fun _=>.undef) (g:=fun i=>(vals++Array.replicate (fn.ntmps-vals.size) undef).getD i undef) i (RL.of (by simp) fun j v hj=>?_)
   have af:j<(val d.A x.1).length:=by
    rw [nth_eq] at hj
    exact(xk.1 hj).1
   have:=hv j v hj
   rw [xd,xr,xbs af]
   simp only [xy,xax]
   rw [xl,xbh (by omega),←xl]
   exact this
  ·by_cases af:i<vals.size
   ·simp only
    rw [xl,xbh af,←xl]
   ·simp only
    rw [xl,xch (by omega),xec,xl,xck (by omega)]
    split<;>rfl
 have aa:=loops_ok (X:=X) (lo:=old w μi) (w0:=w) (N:=⟨fn.ntmps,pinK rt.pins,fun i=>vals.getD i undef⟩) hm hE hT c h.loops h.chk
 have ae:∀ {s:St} {a:Act} {w':World} {μ:Nat→Option MV},Rel P X (old w μi) ⟨fn.ntmps,pinK rt.pins,fun i=>vals.getD i undef⟩ w s a w' μ→rt.at tt s=some (rho r)→a.defers=[]∧∃v,(results fn a.tmps).run P w'=.ok v w'∧∃x,Ending.returned v=.returned x∧ResOK P X (old w μi) w w' μi (d.emb r) x:=fun hr ht=>ret_ok hT ai h.res h.ok rfl (h.pin x) h.gone ad (h.emb r) hr ht
 refine Code.wp_mono (fun e a w' hp=>?_) (code_ok hm hE hT c aa h.chk _ _ w _ o ad h1)
 cases e with
 |normal=>
  obtain⟨s,μ,rfl,hr⟩:=hp
  exact ae hr h2
 |ret=>
  obtain⟨s,μ,rfl,hr⟩:=hp
  exact ae hr h2
 |exit i=>
  obtain⟨s,μ,rfl,_⟩:=hp
  cases h2
 |_=>exact hp.elim
structure FnOK2(P:Program)(E:Env)(tt:Nat→TD)(f:Nat)(d:FD)(rt rt2:RetK)(fz:Nat→Nat→List Nat)(l:List (Nat×LD))(fn:Func)(c:Code)(T:d.T→Tr d.R)(rho:d.R→rt.T⊕rt2.T):Prop where
 at_:P.funcs[f]? =some fn
 name:(fn.name== "runtime.NumGoroutine")=false
 body:fn.body=some c
 res:fn.results=rt.res.toArray
 ok:rt.ok=true
 arity:∀x:d.T,(val d.A x.1).length≤fn.ntmps
 pin:∀x:d.T,(rt.pins.all fun q=>pinAt ((entry d.A d.ins x).slot q.1) q.2.1 q.2.2)=true
 chk:codeChk fz (pinK rt.pins) fn.ntmps c=true
 loops:LoopsOK E tt fz l c
 run:∀x:d.T,((acode E tt fz (orcOf l) c (entry d.A d.ins x)).map (keepRet2 tt rt rt2)).ev=((T x).map fun r=>some (rho r)).ev
 F:∀x,d.F x=(T x).ev
 emb:∀r,d.emb r=match rho r with
  | .inl t=>(val rt.sh t.1,mkObs rt.obs t.2++rt.gone.map fun o=>(o,Ob.spent))
  | .inr t=>(val rt2.sh t.1,mkObs rt2.obs t.2++rt2.gone.map fun o=>(o,Ob.spent))
 ok2:rt2.ok=true
 res2:rt2.res=rt.res
 pins2:rt2.pins=rt.pins
 gone2:(rt2.gone.all fun o=>(Nat.ble 64 o&&(d.ins.map (·.1)).any (Nat.beq o))&& !(rt2.obs.map (·.1)).any (Nat.beq o))=true
 gone:(rt.gone.all fun o=>(Nat.ble 64 o&&(d.ins.map (·.1)).any (Nat.beq o))&& !(rt.obs.map (·.1)).any (Nat.beq o))=true:=by rfl
theorem fn_ok2[Tabs](hm:P.follows .mixedOrders=true)(hE:EnvOK P E)(hT:TabOK P tt){f:Nat}{d:FD}{rt rt2:RetK}{fz:Nat→Nat→List Nat}{l:List (Nat×LD)}{fn:Func}{c:Code}{T:d.T→Tr d.R}{rho:d.R→rt.T⊕rt2.T}
  (h:FnOK2 P E tt f d rt rt2 fz l fn c T rho):FDok P (f,d):=by
 intro x r hr w X μi vals hX ai ad aj hv
 refine .inl ⟨run_enter h.at_ h.name h.body vals w,calls_of_wp h.at_ h.body ?_⟩
 rw [h.F] at hr
 have ae:=h.run x
 rw [Tr.ev_map,Tr.ev_map,hr] at ae
 obtain⟨o,h1,h2⟩:=xbb.1 ae
 have al:=h.arity x
 have ak:(val d.A x.1).length=vals.size:=aj
 have hN:(vals++Array.replicate (fn.ntmps-vals.size) undef).size=fn.ntmps:=by
  simp only [xdw,xew]
  omega
 have aa:Rel P X (old w μi) ⟨fn.ntmps,pinK rt.pins,fun i=>vals.getD i undef⟩ w (entry d.A d.ins x) {tmps:=vals++Array.replicate (fn.ntmps-vals.size) undef,defers:=[]} w μi:=by
  refine⟨ai,fun i=>?_,Kept.refl _ _,rfl,hN,fun i _=>?_⟩
  ·refine RL.zip (fun _=>.undef) (g:=fun i=>(vals++Array.replicate (fn.ntmps-vals.size) undef).getD i undef) i (RL.of (by simp) fun j v hj=>?_)
   have ah:j<(val d.A x.1).length:=by
    rw [nth_eq] at hj
    exact(xk.1 hj).1
   have:=hv j v hj
   rw [xd,xr,xbs ah]
   simp only [xy,xax]
   rw [xl,xbh (by omega),←xl]
   exact this
  ·by_cases ah:i<vals.size
   ·simp only
    rw [xl,xbh ah,←xl]
   ·simp only
    rw [xl,xch (by omega),xec,xl,xck (by omega)]
    split<;>rfl
 have ab:=loops_ok (X:=X) (lo:=old w μi) (w0:=w) (N:=⟨fn.ntmps,pinK rt.pins,fun i=>vals.getD i undef⟩) hm hE hT c h.loops h.chk
 have af:∀ {s:St} {a:Act} {w':World} {μ:Nat→Option MV},Rel P X (old w μi) ⟨fn.ntmps,pinK rt.pins,fun i=>vals.getD i undef⟩ w s a w' μ→atB tt rt rt2 s=some (rho r)→a.defers=[]∧∃v,(results fn a.tmps).run P w'=.ok v w'∧∃x,Ending.returned v=.returned x∧ResOK P X (old w μi) w w' μi (d.emb r) x:=by
  intro s a w' μ hr ht
  have he:=h.emb r
  unfold atB at ht
  split at ht
  next y hy=>
   rw [←xbz ht] at he
   exact ret_ok hT ad h.res h.ok rfl (h.pin x) h.gone aa he hr hy
  next=>
   split at ht
   next y hy=>
    rw [←xbz ht] at he
    exact ret_ok hT ad (h.res.trans (by rw [h.res2])) h.ok2 (by rw [h.pins2]) (by rw [h.pins2];exact h.pin x) h.gone2 aa he hr hy
   next=>cases ht
 refine Code.wp_mono (fun e a w' hp=>?_) (code_ok hm hE hT c ab h.chk _ _ w _ o aa h1)
 cases e with
 |normal=>
  obtain⟨s,μ,rfl,hr⟩:=hp
  exact af hr h2
 |ret=>
  obtain⟨s,μ,rfl,hr⟩:=hp
  exact af hr h2
 |exit i=>
  obtain⟨s,μ,rfl,_⟩:=hp
  cases h2
 |_=>exact hp.elim
end
section
variable {P:Program} {tt:Nat→TD}
def noZ:Nat→Nat→List Nat:=fun _ _=>[]
theorem fnMk(d:FD)(E:Env)(rt:RetK)(fz:Nat→Nat→List Nat)(l:List (Nat×LD))(c:Code){f:Nat}{fn:Func}(T:d.T→Tr d.R)(rho:d.R→rt.T)(at_:P.funcs[f]? =some fn)(loops:LoopsOK E tt fz l c)
  (run:∀x:d.T,((acode E tt fz (orcOf l) c (entry d.A d.ins x)).map (keepRet tt rt)).ev=((T x).map fun r=>some (rho r)).ev) (F:∀x,d.F x=(T x).ev:=by exact fun _=>rfl) (emb:∀r,d.emb r=(val rt.sh (rho r).1,mkObs rt.obs (rho r).2++rt.gone.map fun o=>(o,Ob.spent)):=by exact fun _=>rfl)
  (name:(fn.name== "runtime.NumGoroutine")=false:=by kernel_rfl) (body:fn.body=some c:=by kernel_rfl) (res:fn.results=rt.res.toArray:=by kernel_rfl) (ok:rt.ok=true:=by kernel_rfl)
  (arity:∀x:d.T,(val d.A x.1).length≤fn.ntmps:=by exact fun _=>xcr (by kernel_rfl)) (pin:∀x:d.T,(rt.pins.all fun q=>pinAt ((entry d.A d.ins x).slot q.1) q.2.1 q.2.2)=true:=by exact fun _=>by kernel_rfl)
  (chk:codeChk fz (pinK rt.pins) fn.ntmps c=true:=by kernel_rfl) (gone:(rt.gone.all fun o=>(Nat.ble 64 o&&(d.ins.map (·.1)).any (Nat.beq o))&& !(rt.obs.map (·.1)).any (Nat.beq o))=true:=by rfl):FnOK P E tt f d rt fz l fn c T rho:=
 ⟨at_,name,body,res,ok,arity,pin,chk,loops,run,F,emb,gone⟩
theorem fnMk2(d:FD)(E:Env)(rt rt2:RetK)(fz:Nat→Nat→List Nat)(l:List (Nat×LD))(c:Code){f:Nat}{fn:Func}(T:d.T→Tr d.R)(rho:d.R→rt.T⊕rt2.T)(at_:P.funcs[f]? =some fn)(loops:LoopsOK E tt fz l c)
  (run:∀x:d.T,((acode E tt fz (orcOf l) c (entry d.A d.ins x)).map (keepRet2 tt rt rt2)).ev=((T x).map fun r=>some (rho r)).ev)
  (emb:∀r,d.emb r=match rho r with
   | .inl t=>(val rt.sh t.1,mkObs rt.obs t.2++rt.gone.map fun o=>(o,Ob.spent))
   | .inr t=>(val rt2.sh t.1,mkObs rt2.obs t.2++rt2.gone.map fun o=>(o,Ob.spent)))
  (F:∀x,d.F x=(T x).ev:=by exact fun _=>rfl)
  (name:(fn.name== "runtime.NumGoroutine")=false:=by kernel_rfl) (body:fn.body=some c:=by kernel_rfl) (res:fn.results=rt.res.toArray:=by kernel_rfl) (ok:rt.ok=true:=by kernel_rfl)
  (arity:∀x:d.T,(val d.A x.1).length≤fn.ntmps:=by exact fun _=>xcr (by kernel_rfl)) (pin:∀x:d.T,(rt.pins.all fun q=>pinAt ((entry d.A d.ins x).slot q.1) q.2.1 q.2.2)=true:=by exact fun _=>by kernel_rfl)
  (chk:codeChk fz (pinK rt.pins) fn.ntmps c=true:=by kernel_rfl) (gone:(rt.gone.all fun o=>(Nat.ble 64 o&&(d.ins.map (·.1)).any (Nat.beq o))&& !(rt.obs.map (·.1)).any (Nat.beq o))=true:=by rfl)
  (ok2:rt2.ok=true:=by kernel_rfl) (res2:rt2.res=rt.res:=by rfl) (pins2:rt2.pins=rt.pins:=by rfl)
  (gone2:(rt2.gone.all fun o=>(Nat.ble 64 o&&(d.ins.map (·.1)).any (Nat.beq o))&& !(rt2.obs.map (·.1)).any (Nat.beq o))=true:=by rfl):FnOK2 P E tt f d rt rt2 fz l fn c T rho:=
 ⟨at_,name,body,res,ok,arity,pin,chk,loops,run,F,emb,ok2,res2,pins2,gone2,gone⟩
theorem ldMk{E:Env}{fz:Nat→Nat→List Nat}{orc:Orc}{b:Code}{d:LD}(eta:∀t,d.join (d.sk t) (d.sv t)=t)(step:∀k v,((acode E tt fz orc b (mkSt d.head.S (d.join k v))).map (keepOut (some d.head) d.exits d.rets)).ev=((d.step k v).bind (d.next k)).ev)
  (ok:d.head.S.ok=true:=by kernel_rfl) (oke:d.exits.all (fun p=>p.2.S.ok)=true:=by kernel_rfl) (okr:d.rets.S.ok=true:=by kernel_rfl):d.OK E tt fz orc b:=⟨ok,oke,okr,eta,step⟩
def loopAt(c:Code)(n:Nat):Code:=((loopsOf c).find? fun p=>Nat.beq p.1 n).elim .skip (·.2)
def LoopsL(E:Env)(tt:Nat→TD)(fz:Nat→Nat→List Nat)(l:List (Nat×LD))(c:Code)(L:List (Nat×LD)):Prop:=∀q∈L,q.2.OK E tt fz (orcOf l) (loopAt c q.1)
theorem find_fst{α:Type}:∀ {l:List (Nat×α)} {p:Nat×α},(l.map (·.1)).Nodup→p∈l→(l.find? fun q=>Nat.beq q.1 p.1)=some p
 |q::l,p,hn,hp=>by
  rw [xbm,xey] at hn
  rw [xfy]
  rcases xam.1 hp with rfl|hp
  ·rw [xea]
  ·have aa:q.1≠p.1:=fun e=>hn.1 (xae.2 ⟨p,hp,e.symm⟩)
   rw [beq_ne aa]
   exact find_fst hn.2 hp
theorem lpMk{E:Env}{fz:Nat→Nat→List Nat}{l:List (Nat×LD)}{c:Code}(h:decide ((loopsOf c).map (·.1)).Nodup=true)(H:LoopsL E tt fz l c l):LoopsOK E tt fz l c:=fun p hp q hq e=>by
 have h1:=H q hq
 rw [e] at h1
 unfold loopAt at h1
 rw [find_fst (of_decide_eq_true h) hp] at h1
 exact h1
theorem lpN{E:Env}{fz:Nat→Nat→List Nat}{l:List (Nat×LD)}{c:Code}:LoopsL E tt fz l c []:=fun _ h=>absurd h xeu
theorem lpC{E:Env}{fz:Nat→Nat→List Nat}{l:List (Nat×LD)}{c:Code}{n:Nat}{L:List (Nat×LD)}{D:LD}(h:D.OK E tt fz (orcOf l) (loopAt c n))(H:LoopsL E tt fz l c L):LoopsL E tt fz l c ((n,D)::L):=List.forall_mem_cons.2 ⟨h,H⟩
theorem fdN[Tabs]:∀p∈([]:List (Nat×FD)),FDok P p:=fun _ h=>absurd h xeu
theorem fdC[Tabs]{a:Nat×FD}{l:List (Nat×FD)}(h:FDok P a)(H:∀p∈l,FDok P p):∀p∈a::l,FDok P p:=List.forall_mem_cons.2 ⟨h,H⟩
end
theorem iter_eq[Tabs]{V R:Type}(f:V→Option (V⊕R))(v:V):iter f v=match f v with
  |some (.inl v')=>iter f v'
  |some (.inr r)=>some r
  |none=>none:=by
 cases hf:f v with
 |none=>
  cases h:iter f v with
  |none=>rfl
  |some r=>
   obtain⟨n,hn⟩:=iter_some.1 h
   cases n with
   |zero=>cases hn
   |succ n=>simp [iterN,hf] at hn
 |some x=>
  cases x with
  |inr r=>exact iter_some.2 ⟨1,by simp [iterN,hf]⟩
  |inl v'=>
   simp only
   cases h:iter f v' with
   |some r=>
    obtain⟨n,hn⟩:=iter_some.1 h
    exact iter_some.2 ⟨n+1,by simp [iterN,hf,hn]⟩
   |none=>
    cases h':iter f v with
    |none=>rfl
    |some r=>
     obtain⟨n,hn⟩:=iter_some.1 h'
     cases n with
     |zero=>cases hn
     |succ n=>
      simp only [iterN,hf] at hn
      rw [iter_some.2 ⟨n,hn⟩] at h
      cases h
theorem iter_rule[Tabs]{V R:Type}{f:V→Option (V⊕R)}(I:V→Prop)(m:V→Nat)(Q:R→Prop)(h:∀v,I v→match f v with
  |some (.inl v')=>I v'∧m v'<m v
  |some (.inr r)=>Q r
  |none=>False) {v:V} (hv:I v):∃r,iter f v=some r∧Q r:=by
 have key:∀n v,m v=n→I v→∃r,iter f v=some r∧Q r:=by
  intro n
  induction n using Nat.strongRecOn with
  |_ n ih=>
   intro v hn hI
   have:=h v hI
   rw [iter_eq]
   cases e:f v with
   |none=>rw [e] at this;exact this.elim
   |some x=>
    rw [e] at this
    cases x with
    |inl v'=>exact ih _ (hn▸this.2) v' rfl this.1
    |inr r=>exact⟨r,rfl,this⟩
 exact key _ v rfl hv
end Go.Proofs.YteiekijgoifhoaaGreatDoor
