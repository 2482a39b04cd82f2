/-
 Typed states stand for what they were read from.
-/
import Derived.Test.YteiekijgoifhoaaGreatDoorA3
import Derived.Test.YteiekijgoifhoaaGreatDoorB22
namespace Go.Proofs.YteiekijgoifhoaaGreatDoor
open Go.RowKit (Below)
def RL(R:AV→Value→Prop):List AV→List Value→Prop
 | [],[]=>True
 |v::l,x::xs=>R v x∧RL R l xs
 |_,_=>False
theorem RL.of{R:AV→Value→Prop}:∀ {l:List AV} {ys:List Value},l.length=ys.length→(∀j v,nth l j=some v→R v (ys.getD j undef))→RL R l ys
 | [],[],_,_=>trivial
 |_::_,[],h,_=>by simp at h
 | [],_::_,h,_=>by simp at h
 |v::l,y::ys,h,hr=>⟨hr 0 v rfl,RL.of (by simpa using h) fun j v hv=>hr (j+1) v hv⟩
theorem RL.to{R:AV→Value→Prop}:∀ {l:List AV} {ys:List Value},RL R l ys→l.length=ys.length∧∀j v,nth l j=some v→R v (ys.getD j undef)
 | [],[],_=>⟨rfl,fun j v h=>by simp [nth] at h⟩
 |_::_,[],h=>h.elim
 | [],_::_,h=>h.elim
 |v::l,y::ys,h=>by
  obtain⟨h1,h2⟩:=RL.to h.2
  refine⟨by simp [h1],fun j u hu=>?_⟩
  match j,hu with
  |0,hu=>simp [nth] at hu;subst hu;exact h.1
  |j+1,hu=>exact h2 j u hu
theorem RL.append{R:AV→Value→Prop}:∀ {l l':List AV} {ys aa:List Value},RL R l ys→RL R l' aa→RL R (l++l') (ys++aa)
 | [],l',[],aa,_,h=>h
 |_::_,_,[],_,h,_=>h.elim
 | [],_,_::_,_,h,_=>h.elim
 |v::l,l',y::ys,aa,h,h'=>⟨h.1,RL.append h.2 h'⟩
theorem RL.one{R:AV→Value→Prop}{v:AV}{x:Value}(h:R v x):RL R [v] [x]:=⟨h,trivial⟩
theorem RL.mono{R R':AV→Value→Prop}(hR:∀v x,R v x→R' v x):∀ {l:List AV} {ys:List Value},RL R l ys→RL R' l ys
 | [],[],_=>trivial
 |_::_,[],h=>h.elim
 | [],_::_,h=>h.elim
 |v::l,y::ys,h=>⟨hR _ _ h.1,RL.mono hR h.2⟩
theorem RL.split{R:AV→Value→Prop}:∀ {l l':List AV} {ys:List Value},RL R (l++l') ys→∃y1 y2,ys=y1++y2∧RL R l y1∧RL R l' y2
 | [],l',ys,h=>⟨[],ys,rfl,trivial,h⟩
 |v::l,l',[],h=>h.elim
 |v::l,l',y::ys,h=>by
  obtain⟨y1,y2,rfl,h1,h2⟩:=RL.split h.2
  exact⟨y::y1,y2,rfl,⟨h.1,h1⟩,h2⟩
theorem cloCast_spec{ts aa:List Ty}{r r':Ty}{p:HL ts→Option r.I}{q:HL aa→Option r'.I}(h:cloCast ts aa r r' p=some q):∃ (h1:ts=aa) (h2:r=r'),q=h1▸h2▸p:=by
 unfold cloCast at h
 split at h
 next h1 h2 _ _=>cases h;exact⟨h1,h2,rfl⟩
 next=>cases h
section
variable {P:Program} {w:World} {lo:Nat→Prop} {μ:Nat→Option MV} {S:Nat→Prop}
theorem un1_rel{t:Ty}{v:AV}{y:t.I}{x:Value}(h:un1 t v=some y)(hr:RelV P w lo μ S v x):RelV P w lo μ S (.dat t y) x:=by
 unfold un1 at h
 split at h
 ·obtain⟨e,rfl⟩:=Ty.cast_spec h
  subst e
  exact hr
 ·split at h
  ·cases h
   cases hr
   exact .dat rfl Rep.nil
  ·cases h
 ·cases h
theorem ptr_list{cs:List AV}{b k:Nat}{xs:Nat→Value}(h:∀j v,nth cs j=some v→RelV P w lo μ S v (xs j)):RL (RelV P w lo μ S) cs ((List.range cs.length).map xs):=by
 refine RL.of (by simp) fun j v hv=>?_
 have aa:j<cs.length:=by
  rw [nth_eq] at hv
  exact(xk.1 hv).1
 rw [xd,xr,xbs aa]
 exact h j v hv
def CloRule(P:Program)(w:World)(lo:Nat→Prop)(μ:Nat→Option MV)(S:Nat→Prop)(E:Env):Prop:=
 (∀f caps ts r x,r.size=1→(∀v∈caps,∃cs,v=AV.ptr cs∧cs.all cl0F=true)→RelV P w lo μ S (.fn f caps) x→CloOK P w lo ts r (asClo E f caps ts r) x)∧
 ∀f fs ts r x,r.size=1→fs.all isPur=true→RelV P w lo μ S (.bnd f fs) x→CloOK P w lo ts r (asBnd E f fs ts r) x
theorem CloRule.none(P:Program)(w:World)(lo:Nat→Prop)(μ:Nat→Option MV)(S:Nat→Prop):CloRule P w lo μ S E0:=by
 refine⟨fun f caps ts r x h2 _ h=>?_,fun f fs ts r x h2 _ h=>?_⟩
 ·cases h with
  | @fn _ _ _ xs hl hx=>exact⟨h2,f,#[],xs,rfl,fun w' _ _ hh vals _ y hy=>by simp [asClo,asRes,E0] at hy⟩
 ·cases h with
  | @bnd _ _ _ xs hl hx=>exact⟨h2,f,xs,#[],rfl,fun w' _ _ hh vals _ y hy=>by simp [asBnd,asRes,E0] at hy⟩
def CloAll(P:Program)(w:World)(lo:Nat→Prop)(μ:Nat→Option MV)(S:Nat→Prop)(E:Env):Prop:=
 ∃Q:(Nat→Prop)→Prop,Q S∧(∀S,Q S→Q (fun b=>S b∨lo b))∧∀S,Q S→CloRule P w lo μ S E
theorem CloAll.none{P:Program}{w:World}{lo:Nat→Prop}{μ:Nat→Option MV}{S:Nat→Prop}:CloAll P w lo μ S E0:=⟨fun _=>True,trivial,fun _ _=>trivial,fun S _=>CloRule.none P w lo μ S⟩
theorem CloAll.or{E:Env}(h:CloAll P w lo μ S E):CloAll P w lo μ (fun b=>S b∨lo b) E:=by
 obtain⟨Q,h1,h2,h3⟩:=h
 exact⟨Q,h2 S h1,h2,h3⟩
theorem CloAll.rule{E:Env}(h:CloAll P w lo μ S E):CloRule P w lo μ S E:=by
 obtain⟨Q,h1,_,h3⟩:=h
 exact h3 S h1
theorem un_ok{E:Env}:∀ {s:Sh} {S:Nat→Prop} {l:List AV} {x:s.I} {r:List AV} {ys:List Value},CloAll P w lo μ S E→un E s l=some (x,r)→RL (RelV P w lo μ S) l ys→∃y1 y2,ys=y1++y2∧RL (RelV P w lo μ S) (val s x) y1∧RL (RelV P w lo μ S) r y2
 | .nil,S,l,x,r,ys,hE,h,hr=>by
  simp only [un,xc,xdb] at h
  obtain⟨_,rfl⟩:=h
  exact⟨[],ys,rfl,trivial,hr⟩
 | .cons a b,S,l,x,r,ys,hE,h,hr=>by
  simp only [un] at h
  split at h
  next xa ra ha=>
   split at h
   next xb rb hb=>
    cases h
    obtain⟨y1,y2,rfl,h1,h2⟩:=un_ok hE ha hr
    obtain⟨y3,y4,rfl,h3,h4⟩:=un_ok hE hb h2
    exact⟨y1++y3,y4,by simp,h1.append h3,h4⟩
   next=>cases h
  next=>cases h
 | .dat t,S,[],x,r,ys,hE,h,hr=>by simp [un] at h
 | .dat t,S,v::l,x,r,[],hE,h,hr=>hr.elim
 | .dat t,S,v::l,x,r,y::ys,hE,h,hr=>by
  simp only [un] at h
  split at h
  next z hz=>cases h;exact⟨[y],ys,rfl,.one (un1_rel hz hr.1),hr.2⟩
  next=>cases h
 | .arr o,S,l,x,r,ys,hE,h,hr=>by
  simp only [un] at h
  split at h<;>try cases h
  rename_i o' r'
  split at h
  next e=>
   cases h
   have:=xe e
   subst this
   cases ys with
   |nil=>exact hr.elim
   |cons y ys=>exact⟨[y],ys,rfl,.one hr.1,hr.2⟩
  next=>cases h
 | .box o k,S,l,x,r,ys,hE,h,hr=>by
  simp only [un] at h
  split at h<;>try cases h
  split at h
  next e e'=>
   cases h
   have:=xe e
   subst this
   have:=xe e'
   subst this
   cases ys with
   |nil=>exact hr.elim
   |cons y ys=>exact⟨[y],ys,rfl,.one hr.1,hr.2⟩
  next=>cases h
 | .row o,S,l,x,r,ys,hE,h,hr=>by
  simp only [un] at h
  split at h<;>try cases h
  split at h
  next e=>
   cases h
   have:=xe e
   subst this
   cases ys with
   |nil=>exact hr.elim
   |cons y ys=>exact⟨[y],ys,rfl,.one hr.1,hr.2⟩
  next=>cases h
 | .nilsl,S,l,x,r,ys,hE,h,hr=>by
  simp only [un] at h
  split at h<;>try cases h
  cases ys with
  |nil=>exact hr.elim
  |cons y ys=>exact⟨[y],ys,rfl,.one hr.1,hr.2⟩
 | .und,S,l,x,r,ys,hE,h,hr=>by
  simp only [un] at h
  split at h<;>try cases h
  cases ys with
  |nil=>exact hr.elim
  |cons y ys=>exact⟨[y],ys,rfl,.one .undef,hr.2⟩
 | .clo ts rt,S,l,x,r,ys,hE,h,hr=>by
  simp only [un] at h
  split at h<;>try cases h
  ·split at h
   next q hq=>
    cases h
    obtain⟨h1,h2,rfl⟩:=cloCast_spec hq
    subst h1
    subst h2
    cases ys with
    |nil=>exact hr.elim
    |cons y ys=>exact⟨[y],ys,rfl,.one hr.1,hr.2⟩
   next=>cases h
  ·rename_i f caps r'
   split at h
   next h2 h3=>
    cases h
    cases ys with
    |nil=>exact hr.elim
    |cons y ys=>
     refine⟨[y],ys,rfl,.one (.clo (hE.rule.1 f caps ts rt y (xe h2) (fun v hv=>?_) hr.1)),hr.2⟩
     simp only [xg] at h3
     have:=xp.1 h3.1 v hv
     unfold isPtr2 at this
     split at this
     ·exact⟨_,rfl,this⟩
     ·cases this
   next=>cases h
  ·rename_i f fs r'
   split at h
   next h2 h3=>
    cases h
    cases ys with
    |nil=>exact hr.elim
    |cons y ys=>
     simp only [xg] at h3
     exact⟨[y],ys,rfl,.one (.clo (hE.rule.2 f fs ts rt y (xe h2) h3.1 hr.1)),hr.2⟩
   next=>cases h
 | .fn f c,S,l,x,r,ys,hE,h,hr=>by
  simp only [un] at h
  split at h<;>try cases h
  rename_i f' caps r'
  split at h
  next z e hz=>
   cases h
   have:=xe e
   subst this
   cases ys with
   |nil=>exact hr.elim
   |cons y ys=>
    refine⟨[y],ys,rfl,.one ?_,hr.2⟩
    have h0:=hr.1
    cases h0 with
    | @fn _ _ _ xs hl hx=>
     obtain⟨y1,y2,he,h1,h2⟩:=un_ok (S:=fun b=>S b∨lo b) hE.or hz (RL.of (ys:=xs.toList) (by simpa using hl) fun j v hv=>by simpa using hx j v hv)
     cases y2 with
     |cons _ _=>exact h2.elim
     |nil=>
      obtain⟨k1,k2⟩:=h1.to
      rw [xas] at he
      subst he
      exact .fn (by simpa using k1) fun j v hv=>by simpa using k2 j v hv
  next=>cases h
 | .ptr c,S,l,x,r,ys,hE,h,hr=>by
  simp only [un] at h
  split at h<;>try cases h
  rename_i cs r'
  split at h
  next z hz=>
   cases h
   cases ys with
   |nil=>exact hr.elim
   |cons y ys=>
    refine⟨[y],ys,rfl,.one ?_,hr.2⟩
    have h0:=hr.1
    cases h0 with
    | @ptr _ _ b k xs aa hb hx hv=>
     obtain⟨y1,y2,he,h1,h2⟩:=un_ok hE hz (ptr_list (b:=b) (k:=k) hv)
     cases y2 with
     |cons _ _=>exact h2.elim
     |nil=>
      obtain⟨k1,k2⟩:=h1.to
      rw [xas] at he
      subst he
      simp only [xaw,xdi] at k1
      have get:∀j v,nth (val c x) j=some v→((List.range cs.length).map xs).getD j undef=xs j∧∃v,nth cs j=some v:=fun j v hj=>by
       have ad:j<(val c x).length:=by
        rw [nth_eq] at hj
        exact(xk.1 hj).1
       refine⟨?_,cs[j]'(by omega),by rw [nth_eq];exact xh _⟩
       rw [xd,xr,xbs (by omega)]
       rfl
      refine .ptr xs (fun e=>aa ?_) hb (fun j v hj=>?_) fun j v hj=>?_
      ·rw [e] at k1
       exact xi k1.symm
      ·obtain⟨_,v',ab⟩:=get j v hj
       exact hx j v' ab
      ·have:=k2 j v hj
       rw [(get j v hj).1] at this
       exact this
  next=>cases h
 | .agg c,S,l,x,r,ys,hE,h,hr=>by
  simp only [un] at h
  split at h<;>try cases h
  rename_i cs r'
  split at h
  next z hz=>
   cases h
   cases ys with
   |nil=>exact hr.elim
   |cons y ys=>
    refine⟨[y],ys,rfl,.one ?_,hr.2⟩
    have h0:=hr.1
    cases h0 with
    | @agg _ _ xs hl hx=>
     obtain⟨y1,y2,he,h1,h2⟩:=un_ok hE hz (RL.of (ys:=xs.toList) (by simpa using hl) fun j v hv=>by simpa using hx j v hv)
     cases y2 with
     |cons _ _=>exact h2.elim
     |nil=>
      obtain⟨k1,k2⟩:=h1.to
      rw [xas] at he
      subst he
      exact .agg (by simpa using k1) fun j v hv=>by simpa using k2 j v hv
  next=>cases h
 | .tup c,S,l,x,r,ys,hE,h,hr=>by
  simp only [un] at h
  split at h<;>try cases h
  rename_i cs r'
  split at h
  next z hz=>
   cases h
   cases ys with
   |nil=>exact hr.elim
   |cons y ys=>
    refine⟨[y],ys,rfl,.one ?_,hr.2⟩
    have h0:=hr.1
    cases h0 with
    | @tup _ _ xs hl hx=>
     obtain⟨y1,y2,he,h1,h2⟩:=un_ok hE hz (RL.of (ys:=xs.toList) (by simpa using hl) fun j v hv=>by simpa using hx j v hv)
     cases y2 with
     |cons _ _=>exact h2.elim
     |nil=>
      obtain⟨k1,k2⟩:=h1.to
      rw [xas] at he
      subst he
      exact .tup (by simpa using k1) fun j v hv=>by simpa using k2 j v hv
  next=>cases h
theorem val_weak{μ':Nat→Option MV}{ids:List Nat}(hμ:∀o∈ids,∀mv,μ o=some mv→μ' o=some mv):∀ {s:Sh} {S S':Nat→Prop} {x:s.I} {ys:List Value},s.okIds ids=true→(∀b,S b→S' b)→RL (RelV P w lo μ S) (val s x) ys→RL (RelV P w lo μ' S') (val s x) ys
 | .nil,S,S',x,ys,_,hS,hr=>by cases ys with|nil=>exact trivial|cons _ _=>exact hr.elim
 | .cons a b,S,S',x,ys,hk,hS,hr=>by
  simp only [Sh.okIds,xg] at hk
  obtain⟨y1,y2,rfl,h1,h2⟩:=RL.split hr
  exact(val_weak hμ hk.1 hS h1).append (val_weak hμ hk.2 hS h2)
 | .dat t,S,S',x,[],_,hS,hr=>hr.elim
 | .dat t,S,S',x,y::ys,_,hS,hr=>by
  obtain⟨h1,h2⟩:=hr
  cases ys with
  |cons _ _=>exact h2.elim
  |nil=>cases h1 with|dat ht h=>exact .one (.dat ht (h.step fun b _ hb=>⟨hS b hb,rfl⟩))
 | .arr o,S,S',x,[],_,hS,hr=>hr.elim
 | .arr o,S,S',x,y::ys,hk,hS,hr=>by
  obtain⟨h1,h2⟩:=hr
  cases ys with
  |cons _ _=>exact h2.elim
  |nil=>
   simp only [Sh.okIds,xbi] at hk
   obtain⟨o',aa,e⟩:=hk
   have:=xe e
   subst this
   cases h1 with|arr h=>exact .one (.arr (hμ _ aa _ h))
 | .box o k,S,S',x,[],_,hS,hr=>hr.elim
 | .box o k,S,S',x,y::ys,hk,hS,hr=>by
  obtain⟨h1,h2⟩:=hr
  cases ys with
  |cons _ _=>exact h2.elim
  |nil=>
   simp only [Sh.okIds,xbi] at hk
   obtain⟨o',aa,e⟩:=hk
   have:=xe e
   subst this
   cases h1 with|box h=>exact .one (.box (hμ _ aa _ h))
 | .row o,S,S',x,[],_,hS,hr=>hr.elim
 | .row o,S,S',x,y::ys,hk,hS,hr=>by
  obtain⟨h1,h2⟩:=hr
  cases ys with
  |cons _ _=>exact h2.elim
  |nil=>
   simp only [Sh.okIds,xbi] at hk
   obtain⟨o',aa,e⟩:=hk
   have:=xe e
   subst this
   cases h1 with|row h hx=>exact .one (.row (hμ _ aa _ h) hx)
 | .nilsl,S,S',x,[],_,hS,hr=>hr.elim
 | .nilsl,S,S',x,y::ys,hk,hS,hr=>by
  obtain⟨h1,h2⟩:=hr
  cases ys with
  |cons _ _=>exact h2.elim
  |nil=>cases h1;exact .one .nilsl
 | .und,S,S',x,[],_,hS,hr=>hr.elim
 | .und,S,S',x,y::ys,hk,hS,hr=>by
  obtain⟨h1,h2⟩:=hr
  cases ys with
  |cons _ _=>exact h2.elim
  |nil=>exact .one .undef
 | .clo ts r,S,S',x,[],_,hS,hr=>hr.elim
 | .clo ts r,S,S',x,y::ys,hk,hS,hr=>by
  obtain⟨h1,h2⟩:=hr
  cases ys with
  |cons _ _=>exact h2.elim
  |nil=>cases h1 with|clo h=>exact .one (.clo h)
 | .fn f c,S,S',x,[],_,hS,hr=>hr.elim
 | .fn f c,S,S',x,y::ys,hk,hS,hr=>by
  obtain⟨h1,h2⟩:=hr
  cases ys with
  |cons _ _=>exact h2.elim
  |nil=>cases h1 with| @fn _ _ _ xs hl hx=>
   obtain⟨k1,k2⟩:=(val_weak (S:=fun b=>S b∨lo b) (S':=fun b=>S' b∨lo b) (s:=c) hμ (by simpa only [Sh.okIds] using hk) (fun b hb=>hb.imp (hS b) id) (RL.of (ys:=xs.toList) (by simpa using hl) fun j v hv=>by simpa using hx j v hv)).to
   exact .one (.fn (by simpa using k1) fun j v hv=>by simpa using k2 j v hv)
 | .ptr c,S,S',x,[],_,hS,hr=>hr.elim
 | .ptr c,S,S',x,y::ys,hk,hS,hr=>by
  obtain⟨h1,h2⟩:=hr
  cases ys with
  |cons _ _=>exact h2.elim
  |nil=>cases h1 with| @ptr _ _ b k xs ab hb hx hv=>
   obtain⟨k1,k2⟩:=(val_weak (s:=c) hμ (by simpa only [Sh.okIds] using hk) hS (ptr_list (b:=b) (k:=k) hv)).to
   refine .one (.ptr xs ab (hb.imp (hS b) id) hx fun j v hj=>?_)
   have:=k2 j v hj
   have ad:j<(val c x).length:=by
    rw [nth_eq] at hj
    exact(xk.1 hj).1
   rw [xd,xr,xbs ad] at this
   exact this
 | .agg c,S,S',x,[],_,hS,hr=>hr.elim
 | .agg c,S,S',x,y::ys,hk,hS,hr=>by
  obtain⟨h1,h2⟩:=hr
  cases ys with
  |cons _ _=>exact h2.elim
  |nil=>cases h1 with| @agg _ _ xs hl hx=>
   obtain⟨k1,k2⟩:=(val_weak (s:=c) hμ (by simpa only [Sh.okIds] using hk) hS (RL.of (ys:=xs.toList) (by simpa using hl) fun j v hv=>by simpa using hx j v hv)).to
   exact .one (.agg (by simpa using k1) fun j v hv=>by simpa using k2 j v hv)
 | .tup c,S,S',x,[],_,hS,hr=>hr.elim
 | .tup c,S,S',x,y::ys,hk,hS,hr=>by
  obtain⟨h1,h2⟩:=hr
  cases ys with
  |cons _ _=>exact h2.elim
  |nil=>cases h1 with| @tup _ _ xs hl hx=>
   obtain⟨k1,k2⟩:=(val_weak (s:=c) hμ (by simpa only [Sh.okIds] using hk) hS (RL.of (ys:=xs.toList) (by simpa using hl) fun j v hv=>by simpa using hx j v hv)).to
   exact .one (.tup (by simpa using k1) fun j v hv=>by simpa using k2 j v hv)
end
end Go.Proofs.YteiekijgoifhoaaGreatDoor
