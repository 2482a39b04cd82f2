/-
 Regions: the evaluator's answer holds, whether the order is the text's or drawn.
-/
import Derived.Test.YteiekijgoifhoaaGreatDoorB20
namespace Go.Proofs.YteiekijgoifhoaaGreatDoor
open Go.RowKit (Below)
section
variable {P:Program} {E:Env} {tt:Nat→TD} {fz:Nat→List Nat} {ops:Array Oper} {p:Nat} {s0:FS} {us:List (LU×List Nat)} {an:Nat→List Nat}
 {X:Nat→Prop} {lo:Nat→Prop} {N:Par} {w0:World}
def selOf(listed:Array Bool)(m:Nat):Bool:=match listed[m]? with
 |some true=>true
 |_=>false
theorem selOf_iff{listed:Array Bool}{m:Nat}:selOf listed m=true↔listed[m]? =some true:=by
 unfold selOf
 split
 next h=>simp [h]
 next h=>exact⟨fun e=>(by cases e),fun e=>absurd e h⟩
theorem selOf_set[Tabs]{listed:Array Bool}{i:Nat}(hi:i<listed.size):selOf (listed.setIfInBounds i true)=fun m=>selOf listed m||Nat.beq i m:=by
 funext m
 by_cases e:i=m
 ·subst e
  rw [beq_self,Bool.or_true]
  exact selOf_iff.2 (by rw [set_at hi];simp)
 ·rw [beq_ne e,xfq]
  unfold selOf
  rw [set_at hi,if_neg e]
structure Inv[Tabs](P:Program)(X:Nat→Prop)(lo:Nat→Prop)(N:Par)(w0:World)(ops:Array Oper)(p:Nat)(s0:FS)(us:List (LU×List Nat))(listed:Array Bool)(a:Act)(w:World):Prop where
 size:listed.size=ops.size
 low:∀i,p≤i→listed[i]? ≠some true
 closed:∀ (i:Nat) (o:Oper),listed[i]? =some true→ops[i]? =some o→∀e∈edgesOf o,listed[e]? =some true
 rel:∃μ,RelF P X lo N w0 (foldS s0 us (selOf listed) p).1 (foldS s0 us (selOf listed) p).2 a w μ
theorem looks_opd{o:Oper}{t:Nat}(h:Operand.tmp t∈o.op.operands):t∈o.looksAt ops:=by
 unfold Oper.looksAt
 refine xag _ (List.mem_filterMap.2 ⟨.tmp t,by simpa using h,rfl⟩)
theorem looks_guard{o:Oper}{j dj:Nat}{want:Bool}(h:o.guard=some (j,want))(hj:(ops[j]?).bind (·.dst)=some dj):dj∈o.looksAt ops:=by
 unfold Oper.looksAt
 refine xal _ ?_
 simp only [h,hj]
 simp
theorem Plan.anc_in(h:Plan E tt ops p s0 us an){listed:Array Bool}(hc:∀ (i:Nat) (o:Oper),listed[i]? =some true→ops[i]? =some o→∀e∈edgesOf o,listed[e]? =some true)(hz:listed.size=ops.size):
  ∀ {i:Nat},listed[i]? =some true→∀n∈an i,listed[n]? =some true:=by
 intro i
 induction i using Nat.strongRecOn with
 |_ i ih=>
  intro hi n hn
  have aa:i<ops.size:=by
   rw [←hz]
   exact(xau.1 hi).1
  have ho:ops[i]? =some ops[i]:=xaj aa
  rcases h.anc i _ ho n hn with h1|⟨e,he,ab⟩
  ·exact hc i _ hi ho n h1
  ·exact ih e (h.back i _ ho e he) (hc i _ hi ho e he) n ab
structure Agree(ops:Array Oper)(s0:FS)(us:List (LU×List Nat))(an:Nat→List Nat)(p:Nat)(sel:Nat→Bool)(i:Nat)(o:Oper)(x:LU×List Nat):Prop where
 sl:∀t,t∈o.looksAt ops→(foldS s0 us sel p).1 t=(foldS s0 us (fun _=>true) i).1 t
 ob:∀n,n∈nmOf ops us i∨n∈x.1.ids→(foldS s0 us sel p).2 n=(foldS s0 us (fun _=>true) i).2 n
 add:foldS s0 us (fun m=>sel m||Nat.beq i m) p=appF (foldS s0 us sel p) x.1
theorem Plan.agree[Tabs](h:Plan E tt ops p s0 us an){listed:Array Bool}{a:Act}{w:World}(hi:Inv P X lo N w0 ops p s0 us listed a w){i:Nat}(ao:i<p){o:Oper}(ho:ops[i]? =some o)(hn:listed[i]? ≠some true)(he:∀e∈edgesOf o,listed[e]? =some true)
  {x:LU×List Nat} (hx:nth us i=some x):Agree ops s0 us an p (selOf listed) i o x∧(∀n∈an i,listed[n]? =some true)∧∀m,listed[m]? =some true→i∉an m:=by
 have ai:∀n∈an i,listed[n]? =some true:=fun n hn=>by
  rcases h.anc i _ ho n hn with h1|⟨e,au,af⟩
  ·exact he n h1
  ·exact h.anc_in hi.closed hi.size (he e au) n af
 have ad:∀m,listed[m]? =some true→i∉an m:=fun m hm av=>hn (h.anc_in hi.closed hi.size hm i av)
 have aj:selOf listed i=false:=by
  cases hs:selOf listed i with
  |true=>exact absurd (selOf_iff.1 hs) hn
  |false=>rfl
 have ak:∀m y,nth us m=some y→∃om,ops[m]? =some om:=fun m y hy=>by
  have:m<us.length:=by rw [nth_eq] at hy;exact(xk.1 hy).1
  exact⟨_,xaj (xan (by rw [←h.len];exact this) h.le)⟩
 have eT:foldS s0 us (fun _=>true) i=foldS s0 us (fun m=>decide (m<i)) p:=by
  rw [foldS_stay (sel:=fun m=>decide (m<i)) (i:=i) (n:=p) (by omega) fun m x h1 _ _=>by simp;omega]
  exact foldS_congr fun m hm=>by simp [hm]
 have ab:∀m y,m<p→nth us m=some y→selOf listed m≠decide (m<i)→(∀t∈y.1.touch,t∉o.looksAt ops)∧∀n∈y.1.ids,n∉nmOf ops us i∧n∉x.1.ids:=by
  intro m y hm hy aa
  obtain⟨om,ae⟩:=ak m y hy
  rcases Nat.lt_trichotomy m i with al|heq|hgt
  ·have ah:listed[m]? ≠some true:=fun hl=>aa (by rw [selOf_iff.2 hl];simp [al])
   rcases h.pair m i om o y x al ae ho hy hx with h1|⟨h1,_,h3,_⟩
   ·exact absurd (ai m h1) ah
   ·exact⟨fun t ht=>(h1 t ht).1,h3⟩
  ·subst heq
   rw [aj] at aa
   simp at aa
  ·have ah:listed[m]? =some true:=by
    cases hs:selOf listed m with
    |true=>exact selOf_iff.1 hs
    |false=>rw [hs] at aa;simp at aa;omega
   rcases h.pair i m o om x y hgt ho ae hx hy with h1|⟨_,h2,h3,h4⟩
   ·exact absurd h1 (ad m ah)
   ·exact⟨fun t ht=>h2 t ht,fun n hn=>⟨h4 n hn,fun af=>(h3 n af).2 hn⟩⟩
 refine⟨⟨fun t ht=>?_,fun n hn=>?_,foldS_add hx aj ao fun m y h1 h2 hy hs=>?_⟩,ai,ad⟩
 ·rw [eT]
  exact foldS_slot (T:=fun t=>t∈o.looksAt ops) (fun m y hm hy aa t ht h'=>(ab m y hm hy aa).1 t h' ht) t ht
 ·rw [eT]
  exact foldS_obj (T:=fun n=>n∈nmOf ops us i∨n∈x.1.ids) (fun m y hm hy aa n hn h'=>hn.elim ((ab m y hm hy aa).2 n h').1 ((ab m y hm hy aa).2 n h').2) n hn
 ·obtain⟨om,ae⟩:=ak m y hy
  rcases h.pair i m o om x y h1 ho ae hx hy with h3|⟨h3,_,h5,_⟩
  ·exact absurd h3 (ad m (selOf_iff.1 hs))
  ·exact⟨fun t ht=>(h3 t ht).2,fun n hn=>(h5 n hn).2⟩
theorem NxU.none[Tabs]{g:Nat→Option Ob}{μ:Nat→Option MV}{w:World}(hm:Mem P X lo g μ w):NxU P X lo g μ w [] [] w μ:=
 ⟨⟨fun _ mv h=>⟨mv.rs,mv.hs,h,fun _=>Ext.refl _⟩,fun _ _ hk=>(by cases hk)⟩,fun _ mv h=>.inl ⟨mv,h⟩,fun o mv _ h hb=>.inr ⟨o,mv,h,hb⟩,Kept.refl _ _,fun _ _ _=>rfl,fun _ _ h=>hm.other fun o mv ho=>(h o mv ho fun _ hp=>(by cases hp)).trans (by cases g o<;>rfl)⟩
theorem reach_self{g:Nat→Option Ob}{l:List Nat}:∀ {n:Nat},∀x∈l,x∈reach g n l
 |0,_,hx=>hx
 |_+1,_,hx=>xag _ hx
theorem Inv.step[Tabs](hE:EnvOK P E)(hT:TabOK P tt)(hN:∀ (j:Nat) (o:Oper) d,ops[j]? =some o→o.dst=some d→N.has d)(h:Plan E tt ops p s0 us an){listed:Array Bool}{a:Act}{w:World}
  (hi:Inv P X lo N w0 ops p s0 us listed a w) {i:Nat} (bd:i<p) (hr:i∈Region.ready .any ops listed) {K:Act→World→Prop} {Qx:Exit→Act→World→Prop}
  (hK:∀a' w',Inv P X lo N w0 ops p s0 us (listed.setIfInBounds i true) a' w'→K a' w'):wpOp P ops Qx i K a w:=by
 obtain⟨o,ho,hn,he⟩:=(ready_spec hi.size).1 hr
 have be:i<listed.size:=by
  rw [hi.size]
  exact xan bd h.le
 obtain⟨x,hx⟩:∃x,nth us i=some x:=by
  rw [nth_eq]
  exact⟨_,xh (by rw [h.len];exact bd)⟩
 obtain⟨b,bf⟩:=h.step i o x ho hx
 obtain⟨af,bj,ay⟩:=h.agree hi bd ho hn he hx
 obtain⟨μ,aa⟩:=hi.rel
 generalize hS:foldS s0 us (selOf listed) p=S at*
 have put:∀ {v:Value} {w':World} {μ':Nat→Option MV},RelF P X lo N w0 (appF S x.1).1 (appF S x.1).2 (a.put o.dst v) w' μ'→K (a.put o.dst v) w':=by
  intro v w' μ' av
  refine hK _ _ ⟨by simp [hi.size],fun j hj=>?_,fun j oj hj ah e bk=>?_,μ',?_⟩
  ·rw [set_at be,if_neg (by omega)]
   exact hi.low j hj
  ·rw [set_at be] at hj⊢
   split
   ·rfl
   ·split at hj
    next e'=>subst e';rw [ho] at ah;cases ah;exact he e bk
    next=>exact hi.closed j oj hj ah e bk
  ·rw [selOf_set be,af.add,hS]
   exact av
 unfold wpOp
 simp only [ho]
 have az:b=true→o.wp P a w K Qx:=by
  intro hb
  obtain⟨c,ab,bt,ai,bu⟩:=bf.run hb
  have hf:∀z∈o.op.operands,opd S.1 z=opd (foldS s0 us (fun _=>true) i).1 z:=fun z hz=>by
   cases z with
   |tmp t=>exact hS▸af.sl t (looks_opd hz)
   |_=>rfl
  have aj:∀z∈o.op.operands,∀n∈nm1 (opd (foldS s0 us (fun _=>true) i).1 z),n∈x.2:=fun z hz n hn=>by
   rw [bt]
   exact reach_self n (xeb.2 ⟨z,by simpa using hz,hn⟩)
  have ad:(aluD E tt S.2 (opd S.1) o c).ev=some x.1:=by
   cases c with
   |true=>exact aluD_any hf ab
   |false=>
   show(alu E tt S.2 (opd S.1) o).ev=some x.1
   have ab:(alu E tt (foldS s0 us (fun _=>true) i).2 (opd (foldS s0 us (fun _=>true) i).1) o).ev=some x.1:=ab
   rcases nmOf_spec ho hx with bl|hmv|⟨hlo,bm⟩
   ·by_cases bg:isLoad o=true
    ·exact alu_load bg hf (fun z hz n hn=>hS▸af.ob n (.inl (by rw [bl];exact aj z hz n hn))) ab fun q hq=>hS▸af.ob q.1 (.inr (xcm hq))
    have ai:closedOK (foldS s0 us (fun _=>true) i).2 x.2=true:=by
     rw [Bool.not_eq_true] at bg
     rw [bg] at ai
     simpa using ai
    have hD:Dep (fun n=>n∈x.2) (foldS s0 us (fun _=>true) i).2 S.2:=⟨fun n hn=>hS▸af.ob n (.inl (by rw [bl];exact hn)),fun n y hn hy k hk=>by
     unfold closedOK at ai
     have:=xp.1 ai n hn
     rw [hy] at this
     exact has_iff.1 (xp.1 this k hk)⟩
    exact alu_dep hD hf aj ab fun q hq=>hS▸af.ob q.1 (.inr (xcm hq))
   ·exact alu_move hmv hf ab
   ·refine alu_len hlo hf (fun z hz n hn=>?_) ab
    have bw:∀k x,nth us k=some x→∃o,ops[k]? =some o:=fun k x hk=>by
     have:k<us.length:=by rw [nth_eq] at hk;exact(xk.1 hk).1
     exact⟨_,xaj (xan (by rw [←h.len];exact this) h.le)⟩
    have hl:=fun sel m=>foldS_len (s0:=s0) (us:=us) h.step bw (n:=n) (fun k y ok h1 h2 h3=>bm n (aj z hz n hn) k y ok h1 h2 h3) sel m
    exact(hl (fun _=>true) i).symm.trans (hS▸hl (selOf listed) p)
  cases ak:isAppend o with
  |false=>
   obtain⟨k1,k2,k3,k4⟩:=aluD_ok hE hT aa.mem (opd_rel aa.fr) ak ad
   have ba:rowIds S.2 x.1.objs=[]:=by
    rw [←bu]
    unfold rowIds
    congr 1
    refine List.filter_congr fun q hq=>?_
    unfold rowId
    rw [←af.ob q.1 (.inr (xcm hq)),hS]
   rcases k1 with k1|⟨b',d',q1,q2,q3⟩
   ·exact k4 K Qx fun v w' ⟨μ',k5,k6⟩=>put (aa.upd k3 k1 (by rw [ba] at k5;exact k5) k2 (fun d hd=>hN i o d ho hd) k6)
   ·refine k4 K Qx fun v w' ⟨μ',k5,k6⟩=>put (μ':=μ') ?_
    rw [ba] at k5
    rw [q3] at k5 k6⊢
    exact RelF.forget (aa.upd (u:=⟨some (d',opd S.1 (.tmp b')),none,[]⟩) xej rfl k5 (by rw [q2];rfl) (fun d hd=>hN i o d ho hd) k6)
  |true=>
   have ad:(alu E tt S.2 (opd S.1) o).ev=some x.1:=by
    cases c with
    |false=>exact ad
    |true=>
     rcases aluD_true ad with⟨_,_,_,_,bn,_⟩|⟨_,_,bn,_⟩<;>unfold isAppend at ak<;>rw [bn] at ak<;>cases ak
   rcases alu_append_ok hT aa.mem (opd_rel aa.fr) ak ad with⟨d,bb,q,y,k1,k2,k3⟩|⟨k1,k2,k3,k4⟩
   case inr=>exact k4 K Qx fun v w' ⟨μ',k5,k6⟩=>put (aa.upd k3 k1 k5 k2 (fun d hd=>hN i o d ho hd) k6)
   refine k3 K Qx fun v w' ⟨mv',k4,k5⟩=>?_
   obtain⟨c1,c2,c3⟩:=h.app i x bb hx (by rw [k2]) q (by rw [k2];simp [LU.ids])
   have key:=aa.app (b:=bb) (hN i o d ho k1) k4 k5 (fun t ht=>?_) fun r z av hz=>?_
   ·refine put (μ':=again μ q mv') ?_
    rw [k1,k2]
    exact key
   ·have hl:=last_slot (s0:=s0) (us:=us) (sel:=selOf listed) (t:=t) p
    unfold LastS at hl
    rw [hS] at hl
    rcases hl with hl|hl|⟨k,z,z1,z2,z3,z4,z5⟩
    ·rcases c1 t ht with h1|⟨m,zz,m2,m3,m4,m5⟩
     ·rw [hl.1];exact h1
     ·exfalso
      have al:=bj m m2
      have bh:m<p:=by
       rcases xcz m p with h|h
       ·exact h
       ·exact absurd al (hi.low m h)
      refine hl.2 m zz bh m3 (selOf_iff.2 al) ?_
      unfold LU.touch
      cases hd:zz.1.d with
      |none=>exact absurd hd m5
      |some q'=>simp only [m4];simp
    ·rw [hl];rfl
    ·have ao:=selOf_iff.1 z3
     rcases(c3 k z z2 (fun e=>hn (e▸ao)) (ay k ao)).1 _ z4 with h1|h1|⟨m,zz,m1,m2,m3,m4,m5⟩
     ·exact h1
     ·exact absurd h1 ht
     ·exfalso
      have al:=bj m m2
      have bh:m<p:=by
       rcases xcz m p with h|h
       ·exact h
       ·exact absurd al (hi.low m h)
      refine z5 m zz m1 bh m3 (selOf_iff.2 al) ?_
      unfold LU.touch
      cases hd:zz.1.d with
      |none=>exact absurd hd m5
      |some q'=>simp only [m4];simp
   ·have hl:=last_obj (s0:=s0) (us:=us) (sel:=selOf listed) (q:=r) p
    unfold LastO at hl
    rw [hS] at hl
    rcases hl with hl|⟨k,z',y',z1,z2,z3,z4⟩
    ·exact c2 r z av (by rw [←hl];exact hz)
    ·have ao:=selOf_iff.1 z2
     rw [z4] at hz
     cases hz
     rcases(c3 k z' z1 (fun e=>hn (e▸ao)) (ay k ao)).2 _ z3 with h1|h1
     ·exact absurd h1 av
     ·exact h1
 have bo:b=false→K (a.put o.dst undef) w:=fun hb=>by
  have e:=bf.skip hb
  refine put (μ':=μ) ?_
  rw [e]
  refine aa.upd (u:=⟨o.dst.map fun d=>(d,.skip),none,[]⟩) (by simp) rfl (NxU.none aa.mem) (by cases o.dst<;>rfl) (fun d hd=>hN i o d ho hd) fun q hq=>?_
  cases hd:o.dst with
  |none=>rw [hd] at hq;cases hq
  |some d=>rw [hd] at hq;cases hq;exact .skip
 have hw:=bf.want
 unfold Want at hw
 unfold Region.wanted
 cases hg:o.guard with
 |none=>
  rw [hg] at hw
  simp only [if_true]
  exact .inl (az hw)
 |some gd=>
  obtain⟨j,want⟩:=gd
  rw [hg] at hw
  obtain⟨dj,ae,hw⟩:=hw
  replace ae:(ops[j]?).bind (·.dst)=some dj:=ae
  have bp:S.1 dj=(foldS s0 us (fun _=>true) i).1 dj:=hS▸af.sl dj (looks_guard hg ae)
  have au:=aa.fr dj
  rcases hw with⟨v,hv,hb⟩|⟨hv,hb⟩
  case inr=>
   rw [bp,hv] at au
   generalize bz:a.tmps.getD dj undef=y at au
   cases au
   have hy:yielded ops a.tmps j=none:=by
    unfold yielded
    rw [ae]
    cases hgt:a.tmps[dj]? with
    |none=>simp [hgt]
    |some v=>
     have:v=undef:=by rw [←bz,xl,hgt];rfl
     subst this
     simp [hgt]
     rfl
   simp only [hy]
   rw [if_neg (by simp)]
   exact bo hb
  rw [bp,hv] at au
  have br:=au.bool
  have bc:dj<a.tmps.size:=by
   rw [aa.sz.n]
   cases ah:ops[j]? with
   |none=>rw [ah] at ae;cases ae
   |some oj=>rw [ah] at ae;exact(hN j oj dj ah ae).2
  have hy:yielded ops a.tmps j=some v:=by
   have bs:a.tmps[dj]? =some (.bool v):=by
    have e:a.tmps.getD dj undef=a.tmps[dj]:=by simp [bc]
    rw [e] at br
    rw [xaj bc,br]
   simp [yielded,ae,bs]
  simp only [hy]
  cases aw:b with
  |true=>
   rw [aw] at hb
   have:v=want:=by simpa using hb.symm
   rw [if_pos (by rw [this];simp)]
   exact .inl (az aw)
  |false=>
   rw [aw] at hb
   have:v≠want:=by simpa using hb.symm
   rw [if_neg (by simpa using this)]
   exact bo aw
theorem chain_any[Tabs](ae:Plan E tt ops p s0 us an){Qx:Exit→Act→World→Prop}:∀ (fuel m:Nat) {listed:Array Bool} {a:Act} {w:World},p≤m→ops.size-m≤fuel→listed.size=ops.size→(∀i,i<ops.size→listed[i]? =some (decide (i<m)))→
  wpList P ops Qx (ops.toList.drop m) a w→wpAny P .any ops Qx fuel listed a w:=by
 intro fuel
 have nil:∀ {m:Nat} {listed:Array Bool} {a:Act} {w:World},ops.size≤m→listed.size=ops.size→(∀i,i<ops.size→listed[i]? =some (decide (i<m)))→wpList P ops Qx (ops.toList.drop m) a w→Region.ready .any ops listed=[]∧Qx .normal a w:=by
  intro m listed a w hm hs hl h
  refine⟨List.eq_nil_iff_forall_not_mem.2 fun i hi=>?_,?_⟩
  ·obtain⟨o,ho,hn,_⟩:=(ready_spec hs).1 hi
   have ab:i<ops.size:=by
    rcases xcz i ops.size with h|h
    ·exact h
    ·rw [xck h] at ho;cases ho
   exact hn (by rw [hl i ab];simp;omega)
  ·rw [xci (by simpa using hm)] at h
   exact h
 induction fuel with
 |zero=>intro m listed a w _ hf hs hl h;exact nil (by omega) hs hl h
 |succ fuel ih=>
  intro m listed a w hp hf hs hl h
  rcases xcz m ops.size with hm|hm
  ·have aa:∀i,i∈Region.ready .any ops listed→i=m:=fun i hi=>by
    obtain⟨o,ho,hn,he⟩:=(ready_spec hs).1 hi
    have ab:i<ops.size:=by
     rcases xcz i ops.size with h|h
     ·exact h
     ·rw [xck h] at ho;cases ho
    rw [hl i ab] at hn
    have ah:m≤i:=by simpa using hn
    by_cases e:i=m
    ·exact e
    ·have:=he _ (ae.chain i o ho (by omega))
     rw [hl (i-1) (by omega)] at this
     simp at this
     omega
   have ho:ops[m]? =some ops[m]:=xaj hm
   have af:m∈Region.ready .any ops listed:=(ready_spec hs).2 ⟨_,ho,by rw [hl m hm];simp,fun e he=>by
    have:=ae.back m _ ho e he
    rw [hl e (by omega)];simpa using this⟩
   refine⟨fun e=>(by rw [e] at af;cases af),fun i hi=>?_⟩
   rw [aa i hi]
   have hd:ops.toList.drop m=ops[m]::ops.toList.drop (m+1):=by
    rw [←Array.getElem_toList hm]
    exact xcb (by simpa using hm)
   rw [hd] at h
   have ad:∀a w,wpList P ops Qx (ops.toList.drop (m+1)) a w→wpAny P .any ops Qx fuel (listed.setIfInBounds m true) a w:=fun a w h=>ih (m+1) (by omega) (by omega) (by simp [hs]) (fun i hi=>by
    rw [set_at (by omega)]
    split
    next e=>subst e;simp
    next e=>rw [hl i hi];simp;omega) h
   refine wpOp_mono ad ?_
   unfold wpOp
   simp only [ho]
   exact h
  ·obtain⟨h1,h2⟩:=nil hm hs hl h
   exact⟨fun _=>h2,fun i hi=>by rw [h1] at hi;cases hi⟩
theorem filter_lt{α:Type}{f g:α→Bool}:∀ {l:List α} {x:α},(∀y∈l,g y=true→f y=true)→x∈l→f x=true→g x=false→(l.filter g).length<(l.filter f).length
 | [],_,_,h,_,_=>by cases h
 |y::l,x,hs,hx,h1,h2=>by
  have hle:∀ {l:List α},(∀y∈l,g y=true→f y=true)→(l.filter g).length≤(l.filter f).length:=by
   intro l
   induction l with
   |nil=>intro _;exact xm _
   |cons z l ih=>
    intro hs
    have:=ih fun y hy=>hs y (xu _ hy)
    simp only [xcf]
    cases hg:g z with
    |true=>rw [hs z (xx ..) hg];simpa using this
    |false=>
     simp only [xaf,if_false]
     split
     ·simp only [xad];omega
     ·omega
  have aa:∀y∈l,g y=true→f y=true:=fun y hy=>hs y (xu _ hy)
  simp only [xcf]
  rcases xam.1 hx with rfl|hx
  ·rw [h1,h2]
   have:=hle aa
   simp
   omega
  ·have:=filter_lt aa hx h1 h2
   cases hg:g y with
   |true=>rw [hs y (xx ..) hg];simpa using this
   |false=>
    simp only [xaf,if_false]
    split
    ·simp only [xad];omega
    ·omega
def left(p:Nat)(listed:Array Bool):Nat:=((List.range p).filter fun i=>listed[i]? !=some true).length
theorem Inv.any[Tabs](hE:EnvOK P E)(hT:TabOK P tt)(hN:∀ (j:Nat) (o:Oper) d,ops[j]? =some o→o.dst=some d→N.has d)(h:Plan E tt ops p s0 us an){Qx:Exit→Act→World→Prop}
  (ae:∀a w μ,RelF P X lo N w0 (foldS s0 us (fun _=>true) p).1 (foldS s0 us (fun _=>true) p).2 a w μ→wpList P ops Qx (ops.toList.drop p) a w):∀ (fuel:Nat) {listed:Array Bool} {a:Act} {w:World},Inv P X lo N w0 ops p s0 us listed a w→left p listed+(ops.size-p)≤fuel→
  wpAny P .any ops Qx fuel listed a w:=by
 intro fuel
 have full:∀ (fuel:Nat) {listed:Array Bool} {a:Act} {w:World},Inv P X lo N w0 ops p s0 us listed a w→ops.size-p≤fuel→(∀i,i<p→listed[i]? =some true)→wpAny P .any ops Qx fuel listed a w:=by
  intro fuel listed a w hi hf aa
  obtain⟨μ,ab⟩:=hi.rel
  have e:foldS s0 us (selOf listed) p=foldS s0 us (fun _=>true) p:=foldS_congr fun m hm=>selOf_iff.2 (aa m hm)
  rw [e] at ab
  refine chain_any h fuel p (xm _) hf hi.size (fun i af=>?_) (ae a w μ ab)
  by_cases e:i<p
  ·rw [aa i e];simp [e]
  ·have h1:=hi.low i (by omega)
   have h2:i<listed.size:=by rw [hi.size];exact af
   rw [xaj h2] at h1⊢
   simp only [xc,ne_eq,Bool.not_eq_true] at h1
   simp [h1,e]
 have split:∀listed:Array Bool,(∀i,i<p→listed[i]? =some true)∨∃i,i<p∧listed[i]? ≠some true∧∀j,j<i→listed[j]? =some true:=by
  intro listed
  have:∀m,m≤p→(∀i,i<m→listed[i]? =some true)∨∃i,i<p∧listed[i]? ≠some true∧∀j,j<i→listed[j]? =some true:=by
   intro m
   induction m with
   |zero=>exact fun _=>.inl fun i hi=>absurd hi (xee _)
   |succ m ih=>
    intro hm
    rcases ih (by omega) with h1|h1
    ·by_cases e:listed[m]? =some true
     ·refine .inl fun i hi=>?_
      by_cases e':i=m
      ·rw [e'];exact e
      ·exact h1 i (by omega)
     ·exact .inr ⟨m,by omega,e,h1⟩
    ·exact .inr h1
  exact this p (xm _)
 induction fuel with
 |zero=>
  intro listed a w hi hf
  rcases split listed with aa|⟨i,h1,h2,_⟩
  ·exact full 0 hi (by omega) aa
  ·have:i∈(List.range p).filter fun i=>listed[i]? !=some true:=xac.2 ⟨xaq.2 h1,by simpa using h2⟩
   have:=List.length_pos_of_mem this
   unfold left at hf
   omega
 |succ fuel ih=>
  intro listed a w hi hf
  rcases split listed with aa|⟨i,h1,h2,h3⟩
  ·exact full (fuel+1) hi (by omega) aa
  ·have ad:¬Region.ready .any ops listed=[]:=fun e=>by
    have ho:ops[i]? =some (ops[i]'(xan h1 h.le)):=xaj _
    have:i∈Region.ready .any ops listed:=(ready_spec hi.size).2 ⟨_,ho,h2,fun e he=>h3 e (h.back i _ ho e he)⟩
    rw [e] at this;cases this
   refine⟨fun e=>absurd e ad,fun j hj=>?_⟩
   obtain⟨o,ho,hn,he⟩:=(ready_spec hi.size).1 hj
   have ah:j<ops.size:=by
    rcases xcz j ops.size with h|h
    ·exact h
    ·rw [xck h] at ho;cases ho
   have ai:j<p:=by
    rcases xcz j p with h|h
    ·exact h
    ·exfalso
     by_cases e:j=p
     ·subst e
      have key:∀m,m≤j→∀i,j-m≤i→i<j→listed[i]? =some true:=by
       intro m
       induction m with
       |zero=>intro _ i h1 h2;omega
       |succ m aj=>
        intro hm i au ak
        by_cases e:j-m≤i
        ·exact aj (by omega) i e ak
        ·obtain⟨k,ok,k1,k2,k3,k4⟩:= ‹Plan E tt ops j s0 us an›.sink ah i ak
         by_cases ek:k=j
         ·subst ek;rw [ho] at k3;cases k3;exact he i k4
         ·exact hi.closed k ok (aj (by omega) k (by omega) (by omega)) k3 i k4
      exact h2 (key j (xm _) i (by omega) h1)
     ·have:=he _ (‹Plan E tt ops p s0 us an›.chain j o ho (by omega))
      exact hi.low (j-1) (by omega) this
   refine hi.step hE hT hN h ai hj fun a' w' ao=>ih ao ?_
   have af:left p (listed.setIfInBounds j true)<left p listed:=by
    unfold left
    have al:j<listed.size:=by rw [hi.size];exact ah
    refine filter_lt (x:=j) (fun y _ hy=>?_) (xaq.2 ai) (by simpa using hn) (by rw [set_at al];simp)
    rw [set_at al] at hy
    split at hy
    ·simp at hy
    ·exact hy
   omega
theorem region_ok[Tabs](hm:P.follows .mixedOrders=true)(hE:EnvOK P E)(hT:TabOK P tt)(hN:∀ (j:Nat) (o:Oper) d,ops[j]? =some o→o.dst=some d→N.has d){id:Nat}{draw:Bool}
  {s s':St} {a:Act} {w:World} {μ:Nat→Option MV} (h:Rel P X lo N w0 s a w μ) (hq:(match draw with
   |true=>adraw E tt fz (fun j=>ops[j]?) ops.toList s
   |false=>aops E tt fz (fun j=>ops[j]?) ops.toList 0 s).ev=some s') {Qx:Exit→Act→World→Prop} (hQ:∀a' w' μ',Rel P X lo N w0 s' a' w' μ'→Qx .normal a' w'):
  (Code.region id ops draw).wp P Qx a w:=by
 cases draw with
 |false=>exact wp_region_list (aops_ok hE hT hN (fun j=>by simp) h hq hQ)
 |true=>
  obtain⟨μ,h⟩:=Rel.ahead (s0:=s) (fz 0) h
  simp only [adraw,Tr.ev_bind] at hq
  generalize St.ahead s s (fz 0)=s at h hq
  obtain⟨r,h1,h2⟩:=xcy.1 hq
  split at h2
  next hc=>
   obtain⟨ab,ad⟩:=plan_of h1 hc
   obtain⟨ae,_⟩:=drawP_spec ops.toList
   refine wp_region_any hm (Inv.any (X:=X) (lo:=lo) (w0:=w0) hE hT hN ab (fun a w μ hr=>aops_ok (i:=drawP ops.toList) (s:=r.1) hE hT hN (fun j=>by simp) (show Rel P X lo N w0 r.1 a w μ by rw [←ad] at hr;exact hr) h2 hQ) ops.size (listed:=Array.replicate ops.size false) ?_ ?_)
   ·have aa:∀i:Nat,(Array.replicate ops.size false)[i]? ≠some true:=fun i e=>by
     rw [xec] at e
     split at e<;>simp at e
    refine⟨by simp,fun i _=>aa i,fun i o hi=>absurd hi (aa i),μ,?_⟩
    have e:foldS (s.slot,s.g) r.2 (selOf (Array.replicate ops.size false)) (drawP ops.toList)=(s.slot,s.g):=by
     rw [foldS_stay (i:=0) (xcp _) fun m x _ _ _=>?_]
     ·rfl
     ·cases hs:selOf (Array.replicate ops.size false) m with
      |true=>exact absurd (selOf_iff.1 hs) (aa m)
      |false=>rfl
    rw [e]
    refine⟨⟨h.mem.hX,h.mem.hlo,fun o mv ho=>?_,h.mem.dis,h.mem.tab⟩,fun i=>?_,⟨h.bel.os,h.bel.tape,h.bel.output,h.bel.size,h.bel.block⟩,h.df,h.sz⟩
    ·obtain⟨x,hx,af⟩:=h.mem.ob o mv ho
     exact⟨x,hx,af.step h.mem.hlo (fun _ _ h=>h) (fun _ _ h=>⟨h,rfl⟩) (fun _ _=>rfl) fun _ _=>rfl⟩
    ·exact(h.fr i).step (fun _ _ h=>h) h.mem.hlo (fun _ _ h=>⟨h,rfl⟩) fun _ _=>rfl
   ·have:left (drawP ops.toList) (Array.replicate ops.size false)≤drawP ops.toList:=by
     unfold left
     exact Nat.le_trans (xdt _ _) (by simp)
    simp at ae
    omega
  next=>cases h2
end
end Go.Proofs.YteiekijgoifhoaaGreatDoor
