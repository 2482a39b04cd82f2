/-
 Functions: the table of what functions compute.
-/
import Derived.Test.YteiekijgoifhoaaGreatDoorB24
namespace Go.Proofs.YteiekijgoifhoaaGreatDoor
open Go.RowKit (Below)
section
variable {P:Program} {E:Env} {tt:Nat→TD} {w w':World} {lo lo':Nat→Prop} {μ μ':Nat→Option MV}
theorem cl0_raise{S S':Nat→Prop}{v:AV}{x:Value}(hc:cl0 v=true)(h:RelV P w lo μ S v x)(hl:∀b,lo b→lo' b)(hw:∀b,b<w.heap.size→S b→S' b∧w'.heap[b]? =w.heap[b]?)(aa:∀b,lo b→w'.heap[b]? =w.heap[b]?):
  RelV P w' lo' μ' S' v x:=by
 cases h with
 |undef=>exact .undef
 |dat ht h=>exact .dat ht (h.step hw)
 |nilsl=>exact .nilsl
 |clo h=>exact .clo (h.step hl aa)
 | @fn _ f caps xs ab h=>
  cases caps with
  |nil=>exact .fn ab fun j v hv=>by simp [nth] at hv
  |cons c caps=>simp [cl0] at hc
 |_=>simp [cl0] at hc
theorem ptr_raise[Tabs]{S S':Nat→Prop}{cs:List AV}{x:Value}(hc:cs.all cl0=true)(h:RelV P w lo μ S (.ptr cs) x)(hl:∀b,lo b→lo' b)(hw:∀b,b<w.heap.size→S b→S' b∧w'.heap[b]? =w.heap[b]?)(aa:∀b,lo b→w'.heap[b]? =w.heap[b]?):
  RelV P w' lo' μ' S' (.ptr cs) x:=by
 cases h with
 | @ptr _ _ b k xs hb0 hb hx h=>
  have ad:b<w.heap.size:=by
   cases cs with
   |nil=>exact absurd rfl hb0
   |cons c cs=>exact block_lt_of_cell (hx 0 c rfl)
  have ab:w'.heap[b]? =w.heap[b]? :=hb.elim (fun hS=>(hw b ad hS).2) (fun hS=>aa b hS)
  refine .ptr xs hb0 (hb.imp (fun hS=>(hw b ad hS).1) (hl b)) (fun j v hv=>(World.cell?_of_block (w:=w) ab).trans (hx j v hv)) fun j v hv=>cl0_raise ?_ (h j v hv) hl hw aa
  rw [nth_eq] at hv
  exact xp.1 hc v (xn hv)
theorem cl0F_raise[Tabs]{S S':Nat→Prop}{c:AV}{x:Value}(hc:cl0F c=true)(h:RelV P w lo μ S c x)(hl:∀b,lo b→lo' b)(hw:∀b,b<w.heap.size→S b→S' b∧w'.heap[b]? =w.heap[b]?)(aa:∀b,lo b→w'.heap[b]? =w.heap[b]?):
  RelV P w' lo' μ' S' c x:=by
 have h0:=h
 cases h with
 | @fn _ f caps xs ad h=>
  simp only [cl0F,xp] at hc
  refine .fn ad fun j v hv=>?_
  have ae:v∈caps:=by rw [nth_eq] at hv;exact xn hv
  have hp:=hc v ae
  unfold isPtr at hp
  split at hp
  ·exact ptr_raise (S:=fun b=>S b∨lo b) (S':=fun b=>S' b∨lo' b) hp (h j _ hv) hl (fun b ab hs=>hs.elim (fun h=>⟨.inl (hw b ab h).1,(hw b ab h).2⟩) fun h=>⟨.inr (hl b h),aa b h⟩) aa
  ·cases hp
 |_=>exact cl0_raise (by simpa only [cl0F] using hc) h0 hl hw aa
theorem ptr_raise2[Tabs]{S S':Nat→Prop}{cs:List AV}{x:Value}(hc:cs.all cl0F=true)(h:RelV P w lo μ S (.ptr cs) x)(hl:∀b,lo b→lo' b)(hw:∀b,b<w.heap.size→S b→S' b∧w'.heap[b]? =w.heap[b]?)(aa:∀b,lo b→w'.heap[b]? =w.heap[b]?):
  RelV P w' lo' μ' S' (.ptr cs) x:=by
 cases h with
 | @ptr _ _ b k xs hb0 hb hx h=>
  have ad:b<w.heap.size:=by
   cases cs with
   |nil=>exact absurd rfl hb0
   |cons c cs=>exact block_lt_of_cell (hx 0 c rfl)
  have ab:w'.heap[b]? =w.heap[b]? :=hb.elim (fun hS=>(hw b ad hS).2) (fun hS=>aa b hS)
  refine .ptr xs hb0 (hb.imp (fun hS=>(hw b ad hS).1) (hl b)) (fun j v hv=>(World.cell?_of_block (w:=w) ab).trans (hx j v hv)) fun j v hv=>cl0F_raise ?_ (h j v hv) hl hw aa
  rw [nth_eq] at hv
  exact xp.1 hc v (xn hv)
theorem inj_two[Tabs]{t:Ty}(ht:t.size≠1)(x:t.I):inj t x=.agg (flat t x):=by
 unfold inj
 have:=flat_len t x
 split
 next y e=>rw [e] at this;exact absurd this.symm ht
 next=>rfl
theorem hlAV_rel[Tabs]{S:Nat→Prop}(hS:∀b,S b){μ:Nat→Option MV}:∀ {ts:List Ty} {h:HL ts} {vals:List Value},HRel w ts h vals→RL (RelV P w lo μ S) (hlAV ts h) vals
 | [],_,vals,h=>by simp only [HRel] at h;subst h;exact trivial
 |t::ts,(x,h),vals,hr=>by
  obtain⟨v,r,rfl,h1,h2,h3,h4⟩:=hr
  refine⟨?_,hlAV_rel hS h4⟩
  have aa:=h1.step (S':=S) (w':=w) fun b _ _=>⟨hS b,rfl⟩
  by_cases ht:t.size=1
  ·rw [inj_one ht]
   rw [h2 ht] at aa
   exact .dat ht aa
  ·rw [inj_two ht]
   obtain⟨cs,rfl⟩:=h3 ht
   have hr:Rep S w t x cs.toList:=by simpa [Value.cells] using aa
   refine .agg (by rw [flat_len];simpa using hr.len.symm) fun j v hv=>?_
   simpa using flat_rel hr j v hv
theorem pur0_raise{S S':Nat→Prop}{μ':Nat→Option MV}{v:AV}{x:Value}(hc:isPur0 v=true)(h:RelV P w lo μ S v x)(hw:∀b,b<w.heap.size→S b→S' b∧w'.heap[b]? =w.heap[b]?):RelV P w' lo' μ' S' v x:=by
 cases h with
 |undef=>exact .undef
 |dat ht h=>exact .dat ht (h.step hw)
 |nilsl=>exact .nilsl
 |_=>simp [isPur0] at hc
theorem pur_raise{S S':Nat→Prop}{μ':Nat→Option MV}{v:AV}{x:Value}(hc:isPur v=true)(h:RelV P w lo μ S v x)(hw:∀b,b<w.heap.size→S b→S' b∧w'.heap[b]? =w.heap[b]?):RelV P w' lo' μ' S' v x:=by
 have h0:=h
 cases h with
 | @agg _ vs xs hl h=>
  simp only [isPur,xp] at hc
  exact .agg hl fun j u hu=>pur0_raise (hc u (by rw [nth_eq] at hu;exact xn hu)) (h j u hu) hw
 |_=>exact pur0_raise (by simpa only [isPur] using hc) h0 hw
theorem res_rule[Tabs](hE:EnvOK P E){f:Nat}{ae:List AV}{r:Ty}{y:r.I}(hy:asRes r (E.call f ae [])=some y){w1:World}{vals:Array Value}(ht:TabsOK w1 (old w1 fun _=>none))(hl:ae.length=vals.size)
  (hv:∀j v,nth ae j=some v→RelV P w1 (old w1 fun _=>none) (fun _=>none) (SS (fun _=>False) fun _=>none) v (vals.getD j undef)):
  CallR P f vals w1 (fun v ak=>Rep (fun b=>w1.heap.size≤b) ak r y [v]∧Below w1.heap.size w1 ak):=by
 unfold asRes at hy
 split at hy
 next cr ao=>
  obtain⟨y0,h1,h2⟩:=bind_some' hy
  split at h2
  next v objs he=>
   have af:=hE f _ _ cr ao y0 h1 w1 (fun _=>False) (fun _=>none) vals (fun _ h=>h.elim)
    ⟨fun _ h=>h.elim,fun b hb=>hb.1,fun o mv h=>(by cases h),fun o p mv mv' b h=>(by cases h),ht⟩ (fun p hp=>(by cases hp)) hl hv
   refine af.mono fun x w2 al=>?_
   obtain⟨hk,μ2,hm,aw,_,ab⟩:=al
   have ad:∀b,¬old w1 (fun _=>none) b→w1.heap.size≤b:=fun b hb=>Nat.le_of_not_lt fun ah=>hb ⟨ah,fun _ _ h=>by cases h⟩
   rw [he] at ab hm
   refine⟨?_,hk.os,hk.tape,hk.output,hk.size,fun k ah=>hk.block k ⟨ah,fun _ _ h=>by cases h⟩⟩
   rcases ab with⟨v',au,ai⟩|⟨av,_⟩
   case inr=>exact absurd rfl av
   cases au
   split at h2
   next t d=>
    split at h2
    next hd=>
     obtain⟨e,rfl⟩:=Ty.cast_spec h2
     cases e
     cases ai with
     |dat ht hr=>exact hr.plain hd
    next=>cases h2
   next o=>
    split at h2
    next e t l aj=>
     split at h2
     next hd=>
      obtain⟨e,rfl⟩:=Ty.cast_spec h2
      cases e
      cases ai with
      |arr hμ=>
       obtain⟨_,_,_,aa⟩:=hm.asDatF hμ aj hd (S':=fun b=>w1.heap.size≤b) fun b hb=>ad b (hm.lt hμ hb).1
       exact aa
     next=>cases h2
    next e e2 t l aj=>
     split at h2
     next hd=>
      obtain⟨e,rfl⟩:=Ty.cast_spec h2
      cases e
      cases ai with
      |arr hμ=>
       obtain⟨_,_,_,aa⟩:=hm.asRowsF hμ aj hd (S':=fun b=>w1.heap.size≤b) fun b hb=>ad b (hm.lt hμ hb).1
       exact aa
     next=>cases h2
    next=>cases h2
   next=>cases h2
  next=>cases h2
 next=>cases hy
theorem clo_rule[Tabs](hE:EnvOK P E)(ht:TabsOK w lo){S:Nat→Prop}(hS:∀b,b<w.heap.size→S b→lo b):CloAll P w lo μ S E:=by
 refine⟨fun S=>∀b,b<w.heap.size→S b→lo b,hS,fun S h b hb hs=>hs.elim (h b hb) id,fun S hS=>⟨?_,?_⟩⟩
 ·intro f caps ts r x hs ah hx
  cases hx with
  | @fn _ _ _ xs hl hv=>
   refine⟨hs,f,#[],xs,rfl,fun w1 ae ab h vals hh y hy=>?_⟩
   have aa:=(hlAV_rel (P:=P) (lo:=old w1 fun _=>none) (S:=SS (fun _=>False) fun _=>none) (fun _=>⟨fun h=>h,fun _ _ h=>by cases h⟩) (μ:=fun _=>none) hh).to
   rw [Array.empty_append]
   refine res_rule hE hy ((ht.step ab).le fun b hb=>⟨ae b hb,fun _ _ h=>by cases h⟩) (by simp [aa.1,hl]) fun j v hj=>?_
   rw [nth_eq] at hj
   by_cases af:j<(hlAV ts h).length
   ·rw [xab af,←nth_eq] at hj
    have:=aa.2 j v hj
    have ad:j<vals.toArray.size:=by simpa [←aa.1] using af
    rw [xl,xbh ad,←xl]
    simpa using this
   ·rw [xz (by omega),←nth_eq] at hj
    have h3:=hv _ v hj
    have ad:vals.toArray.size≤j:=by simp [←aa.1];omega
    rw [xl,xch ad,←xl,show j-vals.toArray.size=j-(hlAV ts h).length by simp [aa.1]]
    rw [nth_eq] at hj
    obtain⟨cs,rfl,aj⟩:=ah v (xn hj)
    exact ptr_raise2 aj h3 (fun b hb=>⟨ae b hb,fun _ _ h=>by cases h⟩) (fun b hb hs=>⟨⟨fun h=>h,fun _ _ h=>by cases h⟩,ab b (hs.elim (hS b hb) id)⟩) ab
 ·intro f fs ts r x hs ai hx
  cases hx with
  | @bnd _ _ _ xs hl hv=>
   refine⟨hs,f,xs,#[],rfl,fun w1 ae ab h vals hh y hy=>?_⟩
   have aa:=(hlAV_rel (P:=P) (lo:=old w1 fun _=>none) (S:=SS (fun _=>False) fun _=>none) (fun _=>⟨fun h=>h,fun _ _ h=>by cases h⟩) (μ:=fun _=>none) hh).to
   rw [Array.append_empty]
   refine res_rule hE hy ((ht.step ab).le fun b hb=>⟨ae b hb,fun _ _ h=>by cases h⟩) (by simp [aa.1,hl]) fun j v hj=>?_
   rw [nth_eq] at hj
   by_cases af:j<fs.length
   ·rw [xab af] at hj
    have ad:j<xs.size:=by omega
    rw [xl,xbh ad,←xl]
    exact pur_raise (xp.1 ai v (xn hj)) (hv j v (by rw [nth_eq];exact hj)) fun b hb hs=>⟨⟨fun h=>h,fun _ _ h=>by cases h⟩,ab b (hS b hb hs)⟩
   ·rw [xz (by omega),←nth_eq] at hj
    have ad:xs.size≤j:=by omega
    rw [xl,xch ad,←xl,←hl]
    have:=aa.2 _ v hj
    simpa using this
def FDok[Tabs](P:Program)(p:Nat×FD):Prop:=∀ (x:p.2.T) r,p.2.F x=some r→CallOK P p.1 (val p.2.A x.1) (mkObs p.2.ins x.2) (p.2.emb r)
theorem RL.arr{R:AV→Value→Prop}{l:List AV}{vals:Array Value}(h1:l.length=vals.size)(h2:∀j v,nth l j=some v→R v (vals.getD j undef)):RL R l vals.toList:=
 RL.of (by simpa using h1) fun j v hv=>by simpa using h2 j v hv
theorem sameIds_eq{α β:Type}:∀ {l:List (Nat×α)} {m:List (Nat×β)},sameIds l m=true→l.map (·.1)=m.map (·.1)
 | [],[],_=>rfl
 | [],_::_,h=>by simp [sameIds] at h
 |_::_,[],h=>by simp [sameIds] at h
 |(i,_)::r,(j,_)::r',h=>by
  simp only [sameIds,xg] at h
  simp [xe h.1,sameIds_eq h.2]
theorem mkObs_ids:∀ {l:List (Nat×OSh)} {y:OL l},(mkObs l y).map (·.1)=l.map (·.1)
 | [],_=>rfl
 |(i,o)::r,y=>by simp [mkObs,mkObs_ids]
theorem ob_same{S:Nat→Prop}{os:OSh}{x:Ob}{z:os.I}{mv:MV}(hu:os.un x=some z)(h:ObOK P w lo μ S x mv):ObOK P w lo μ S (os.mk z) mv:=by
 cases os with
 |arr e t=>
  cases x with
  |arr e' t' l=>
   simp only [OSh.un] at hu
   split at hu
   next he=>
    have:=xe he
    subst this
    obtain⟨e2,rfl⟩:=Ty.cast_spec hu
    cases e2
    exact h
   next=>cases hu
  |txt e l=>simp [OSh.un] at hu
  |deep=>simp [OSh.un] at hu
  |perm=>simp [OSh.un] at hu
  |spent=>simp [OSh.un] at hu
  |rows e e2 t l hh=>simp [OSh.un] at hu
  |cells cs=>simp [OSh.un] at hu
 |deep e t=>
  cases x with
  |deep e' t' l=>
   simp only [OSh.un] at hu
   split at hu
   next he=>
    have:=xe he
    subst this
    obtain⟨e2,rfl⟩:=Ty.cast_spec hu
    cases e2
    exact h
   next=>cases hu
  |_=>simp [OSh.un] at hu
 |perm e e2 t=>
  cases x with
  |perm k e' ab t' ix l=>
   simp only [OSh.un] at hu
   split at hu
   next he aa=>
    have:=xe he
    subst this
    have:=xe aa
    subst this
    split at hu
    next y hy=>
     obtain⟨e3,rfl⟩:=Ty.cast_spec hy
     cases e3
     cases hu
     exact h
    next=>cases hu
   next=>cases hu
  |_=>simp [OSh.un] at hu
 |spent=>
  cases x with
  |spent=>exact h
  |_=>simp [OSh.un] at hu
 |rows e e2 t=>
  cases x with
  |rows e' ab t' l hh=>
   cases hh with
   |some q=>simp [OSh.un] at hu
   |none=>
    simp only [OSh.un] at hu
    split at hu
    next he aa=>
     have:=xe he
     subst this
     have:=xe aa
     subst this
     obtain⟨e3,rfl⟩:=Ty.cast_spec hu
     cases e3
     exact h
    next=>cases hu
  |arr e' t' l=>simp [OSh.un] at hu
  |txt e l=>simp [OSh.un] at hu
  |deep=>simp [OSh.un] at hu
  |perm=>simp [OSh.un] at hu
  |spent=>simp [OSh.un] at hu
  |cells cs=>simp [OSh.un] at hu
 |cells c=>
  cases x with
  |arr e' t' l=>simp [OSh.un] at hu
  |txt e l=>simp [OSh.un] at hu
  |deep=>simp [OSh.un] at hu
  |perm=>simp [OSh.un] at hu
  |spent=>simp [OSh.un] at hu
  |rows e e2 t l hh=>simp [OSh.un] at hu
  |cells cs=>
   simp only [OSh.un] at hu
   split at hu
   next y hy=>
    cases hu
    obtain⟨b,vs,e,h1,h2,h3,h4,h5⟩:=h
    obtain⟨y1,y2,he,k1,k2⟩:=un_ok (CloAll.none (P:=P) (w:=w) (lo:=lo) (μ:=μ) (S:=S)) hy (RL.of (ys:=vs.toList) (by simpa using h4.symm) fun j v hv=>by simpa using h5 j v hv)
    cases y2 with
    |cons _ _=>exact k2.elim
    |nil=>
     rw [xas] at he
     subst he
     obtain⟨k3,k4⟩:=k1.to
     exact⟨b,vs,e,h1,h2,h3,by simpa using k3.symm,fun j v hv=>by simpa using k4 j v hv⟩
   next=>cases hu
theorem env_ok[Tabs]:∀ {l:List (Nat×FD)},(∀p∈l,FDok P p)→EnvOK P (envOf l)
 | [],_=>fun f args ins cr h=>by simp [envOf,E0] at h
 |(f,d)::l,hl=>by
  have ih:=env_ok (l:=l) fun p hp=>hl p (xu _ hp)
  intro f' args ins cr h r hr
  simp only [envOf] at h
  split at h
  next e=>
   have:=xe e
   subst this
   unfold FD.cr at h
   split at h
   next x hx=>
    split at h
    next ab=>
     split at h
     next y hy=>
      cases h
      intro w X μi vals hX hm ad ae hv
      have aa:=sameIds_eq ab
      obtain⟨y1,y2,he,k1,k2⟩:=un_ok (clo_rule ih (ht:=hm.tab) (w:=w) (lo:=old w μi) (μ:=μi) (S:=SS X μi) fun b hb hs=>⟨hb,hs.2⟩) hx (RL.arr ae hv)
      cases y2 with
      |cons _ _=>exact k2.elim
      |nil=>
       rw [xas] at he
       subst he
       obtain⟨k3,k4⟩:=k1.to
       refine hl (f,d) xx (x,y) r hr w X μi vals hX ⟨hm.hX,hm.hlo,fun o mv ho=>?_,hm.dis,hm.tab⟩ (fun p hp=>?_) (by simpa using k3) fun j v hj=>by simpa using k4 j v hj
       ·obtain⟨z,hz,af⟩:=hm.ob o mv ho
        have ah:o∈d.ins.map (·.1):=by
         rw [←aa]
         exact xae.2 ⟨_,look_mem hz,rfl⟩
        obtain⟨os,x',z',j1,j2,j3,j4⟩:=obs_look hy o ah
        rw [hz] at j2
        cases j2
        exact⟨os.mk z',j1,ob_same j3 af⟩
       ·have ai:p.1∈ins.map (·.1):=by
         rw [aa,←mkObs_ids (y:=y)]
         exact xae.2 ⟨p,hp,rfl⟩
        obtain⟨q,hq,e⟩:=xae.1 ai
        rw [←e]
        exact ad q hq
     next=>cases h
    next=>cases h
   next=>cases h
  next=>exact ih f' args ins cr h r hr
theorem rs_ok[Tabs](hT:TabOK P tt){X:Nat→Prop}{N:Par}{w0:World}{s:St}{a:Act}{μ:Nat→Option MV}(h:Rel P X lo N w0 s a w μ)(F:ResultVar→Sem Value)(hF:∀t,F (.tmp t)=pure (a.tmps.getD t undef))
  (aa:∀r ty,F (.cell r ty)=(do loadVar ty (←asAddr (a.tmps.getD r undef)))):∀ {l:List ResultVar} {vs:List AV},rsVals tt s l=some vs→
  ∃ys,(List.mapM F l).run P w=.ok ys w∧RL (RelV P w lo μ (SS X μ)) vs ys
 | [],vs,hv=>by
  simp only [rsVals,xc] at hv
  subst hv
  exact⟨[],by simp,trivial⟩
 |r::l,vs,hv=>by
  simp only [rsVals] at hv
  split at hv
  next v ab h1 h2=>
   cases hv
   obtain⟨ys,k1,k2⟩:=rs_ok hT h F hF aa h2
   have:∃y,(F r).run P w=.ok y w∧RelV P w lo μ (SS X μ) v y:=by
    cases r with
    |tmp t=>
     simp only [rsVal,xc] at h1
     subst h1
     exact⟨_,by rw [hF];simp,h.fr t⟩
    |cell r ty=>
     simp only [rsVal] at h1
     split at h1
     next o k sz hs hz=>
      split at h1
      next cs hg=>
       have hv:=h.fr r
       rw [hs] at hv
       generalize hy:a.tmps.getD r undef=y at hv
       cases hv with
       | @box _ _ b _ _ _ hb=>
        have hc:=h.mem.cells (k:=k) hb hg
        obtain⟨x,h3,h4⟩:=load_ok hT hz hc (k:=0) (cut_drop (by simpa using h1))
        refine⟨x,?_,h4⟩
        rw [aa,hy]
        simpa [asAddr] using h3
      next=>cases h1
     next=>cases h1
   obtain⟨y,k3,k4⟩:=this
   exact⟨y::ys,by rw [xfe];simp [Sem.run_bind,k3,k1],k4,k2⟩
  next=>cases hv
def resVal:List Value→Value
 | [x]=>x
 |xs=>.tuple xs.toArray
theorem run_results{fn:Func}{l:List ResultVar}(hl:fn.results=l.toArray){a:Act}{ys:List Value}(h:∀F:ResultVar→Sem Value,(∀t,F (.tmp t)=pure (a.tmps.getD t undef))→(∀r ty,F (.cell r ty)=(do loadVar ty (←asAddr (a.tmps.getD r undef))))→(List.mapM F l).run P w=.ok ys w):
  (results fn a.tmps).run P w=.ok (resVal ys) w:=by
 unfold results
 rw [hl,List.mapM_toArray]
 simp only [bind_pure_comp,Functor.map_map,Sem.run_map]
 rw [h _ (fun t=>rfl) fun r ty=>rfl]
 cases ys with
 |nil=>simp [resVal]
 |cons i l=>
  cases l with
  |nil=>simp [resVal]
  |cons j l=>simp [resVal]
end
end Go.Proofs.YteiekijgoifhoaaGreatDoor
