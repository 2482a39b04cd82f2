/-
 One operation; the operations of a region in the order of the text.
-/
import Derived.Test.YteiekijgoifhoaaGreatDoorB36
import Derived.Lib.AppendZeros
namespace Go.Proofs.YteiekijgoifhoaaGreatDoor
open Go.RowKit (Below)
section
variable {P:Program} {tt:Nat→TD} {w:World} {lo:Nat→Prop} {N:Par} {μ:Nat→Option MV} {S:Nat→Prop} {X:Nat→Prop} {g:Nat→Option Ob} {a:Act} {E:Env} {w0:World}
theorem append_arr[Tabs](hT:TabOK P tt)(hm:Mem P X lo g μ w){ty rt e b:Nat}{t:Ty}(he:tt ty=.sl e t b){o:Nat}{l src:List t.I}(hg:g o=some (.arr e t l))(hb0:0<b)(hle:(l.length+src.length)*b≤140737488355328)
  {xv:AV} (al:srcOf g t xv=some src) {va x:Value} (ha:RelV P w lo μ (SS X μ) (.arr o) va) (hx:RelV P w lo μ (SS X μ) xv x):
  ∃v' w' mv',(Builtin.append_ #[ty,ty] rt #[va,x]).run P w=.ok v' w'∧NxA P X lo μ w o (.arr e t (l++src)) w' mv'∧RelV P w' lo (again μ o mv') (SS X (again μ o mv')) (.arr o) v':=by
 have hd:=hT ty
 rw [he] at hd
 obtain⟨hu,⟨i,z,hi,hs,aw,hz,ay⟩,_⟩:=hd
 have az:z.cells.size=t.size:=by simpa using isZ_len ay
 obtain⟨ax,c,news,rfl,ah,ba,ai⟩:=srcOf_ok hm al hx
 have bb:=ah.len
 cases ha with
 | @arr _ _ a0 n0 c0 rs _ hμ=>
  obtain⟨y,hy,bc⟩:=hm.ob _ _ hμ
  rw [hg] at hy
  cases hy
  obtain⟨⟨bd,aj⟩,ao,xs,af,au⟩:=bc
  simp only at aj ao af
  obtain⟨v',w',h1,h2,h3,h4,h5,h6,h7,h8,a',n',c',av⟩:=append_own (rt:=rt) (c:=c) hu hi hs aw hz az af (m:=src.length) (by rw [bb]) ba ai ah.one hle hb0
  have aa:∀k,rootV v'=some k→(∃mv0,μ o=some mv0∧k∈mv0.rs)∨w.heap.size≤k:=fun k hk=>(h8 k hk).imp (fun h=>⟨_,hμ,by rw [aj,h];simp⟩) id
  have ab:∀k,k<w.heap.size→(∀mv0,μ o=some mv0→k∉mv0.rs)→w'.heap[k]? =w.heap[k]? :=fun k hk hn=>h7 k hk fun e=>hn _ hμ (by rw [aj,e];simp)
  have ad:∀k,k<w.heap.size→SS X μ k→SS X (again μ o ⟨v',(rootV v').toList,[]⟩) k∧w'.heap[k]? =w.heap[k]? :=fun k hk hS=>⟨⟨hS.1,fun p mv hp ae=>by
   rcases again_inv hp with⟨rfl,rfl⟩|⟨_,hp⟩
   ·have ae:rootV v'=some k:=by simpa using ae
    rcases aa k ae with⟨mv0,e1,e2⟩|h
    ·exact hS.2 _ mv0 e1 e2
    ·omega
   ·exact hS.2 p mv hp ae⟩,ab k hk fun mv0 h=>hS.2 o mv0 h⟩
  have ak:Kept lo w w':=⟨h3,h4,h5,h6,fun k hk=>ab k (hm.hlo k hk) fun mv0 h ae=>(hm.lt h ae).1 hk⟩
  refine⟨v',w',⟨v',(rootV v').toList,[]⟩,h1,⟨ak,ad,⟨⟨rfl,rfl⟩,fun k hk hl=>?_,xs++news,?_,?_⟩,fun k hk=>aa k (by simpa using hk),ab⟩,?_⟩
  ·rcases aa k hk with⟨mv0,e1,e2⟩|h
   ·exact(hm.lt e1 e2).1 hl
   ·have:=hm.hlo k hl;omega
  ·rw [xj];exact h2
  ·exact(au.step fun k hk hS=>ad k hk hS).append (ah.step fun k hk hS=>ad k hk hS)
  ·rw [av]
   exact .arr (rs:=(rootV v').toList) (by rw [again_self,av])
theorem append_nil[Tabs](hT:TabOK P tt)(hm:Mem P X lo g μ w){ty rt e b d:Nat}{t:Ty}(he:tt ty=.sl e t b){src:List t.I}(ay:g d=none)(hb0:0<b)(hle:src.length*b≤140737488355328)
  {xv:AV} (ao:srcOf g t xv=some src) {va x:Value} (ha:RelV P w lo μ (SS X μ) .nilsl va) (hx:RelV P w lo μ (SS X μ) xv x):
  ∃v' w' μ',(Builtin.append_ #[ty,ty] rt #[va,x]).run P w=.ok v' w'∧NxU P X lo g μ w [(d,.arr e t src)] [] w' μ'∧RelV P w' lo μ' (SS X μ') (.arr d) v':=by
 have hd:=hT ty
 rw [he] at hd
 obtain⟨hu,⟨i,z,hi,hs,az,hz,ba⟩,_⟩:=hd
 have bb:z.cells.size=t.size:=by simpa using isZ_len ba
 obtain⟨ax,c,news,rfl,ak,bc,al⟩:=srcOf_ok hm ao hx
 have bd:=ak.len
 cases ha
 have be:μ d=none:=by
  cases bf:μ d with
  |none=>rfl
  |some mv=>obtain⟨y,hy,_⟩:=hm.ob d mv bf;rw [ay] at hy;cases hy
 obtain⟨v',w',h1,h2,h3,h4,h5,h6,h7,h8,a',n',c',au⟩:=append_own (rt:=rt) (c:=c) hu hi hs az hz bb (World.ownsRow_nil w 0 e t.size) (m:=src.length) (by rw [bd]) bc al ak.one (by simpa using hle) hb0
 have ab:∀k,rootV v'=some k→w.heap.size≤k:=fun k hk=>(h8 k hk).elim (fun h=>by simp [rootV] at h) id
 have aa:∀k,k<w.heap.size→w'.heap[k]? =w.heap[k]? :=fun k hk=>h7 k hk (by simp [rootV])
 have ad:Kept lo w w':=⟨h3,h4,h5,h6,fun k hk=>aa k (hm.hlo k hk)⟩
 have ae:∀k,k<w.heap.size→SS X μ k→SS X (again μ d ⟨v',(rootV v').toList,[]⟩) k∧w'.heap[k]? =w.heap[k]? :=fun k hk hS=>⟨⟨hS.1,fun p mv hp af=>by
  rcases again_inv hp with⟨rfl,rfl⟩|⟨_,hp⟩
  ·have af:rootV v'=some k:=by simpa using af
   have:=ab k af
   omega
  ·exact hS.2 p mv hp af⟩,aa k hk⟩
 have av:∀p mv,μ p=some mv→again μ d ⟨v',(rootV v').toList,[]⟩ p=some mv:=fun p mv hp=>again_ne (fun e=>by rw [e,be] at hp;cases hp) hp
 refine⟨v',w',again μ d ⟨v',(rootV v').toList,[]⟩,h1,⟨⟨fun p mv hp=>⟨mv.rs,mv.hs,av p mv hp,fun _=>Ext.refl _⟩,fun _ _ hk=>(by cases hk)⟩,fun p mv hp=>?_,fun p mv k hp hk=>?_,ad,fun k hk _=>aa k hk,fun g' k1 k2=>⟨hm.hX,fun b hb=>xan (hm.hlo b hb) h6,fun p mv hp=>?_,fun p q bh bj k hp hq ah ai=>?_,hm.tab.step ad.block⟩⟩,?_⟩
 ·rcases again_inv hp with⟨rfl,rfl⟩|⟨_,hp⟩
  ·exact .inr ⟨_,xx,rfl⟩
  ·exact .inl ⟨mv,hp⟩
 ·rcases again_inv hp with⟨rfl,rfl⟩|⟨_,hp⟩
  ·exact .inl (ab k (by simpa using hk))
  ·exact .inr ⟨p,mv,hp,hk⟩
 ·rcases again_inv hp with⟨rfl,rfl⟩|⟨aw,hp⟩
  ·refine⟨_,k1 (p,.arr e t src) (by simp),⟨rfl,rfl⟩,fun k hk hl=>?_,news,?_,ak.step fun k hk hS=>ae k hk hS⟩
   ·have:=ab k hk
    have:=hm.hlo k hl
    omega
   ·simpa using h2
  ·obtain⟨y,hy,bg⟩:=hm.ob p mv hp
   have aj:∀q∈ [(d,Ob.arr e t src)],q.1≠p:=fun q hq e=>by
    simp only [xt] at hq
    subst hq
    exact aw e.symm
   exact⟨y,by rw [k2 p mv hp aj,hy];rfl,bg.step hm.hlo av ae ad.block fun k hk=>aa k (hm.lt hp hk).2⟩
 ·rcases again_inv hp with⟨e1,e2⟩|⟨aw,z1⟩<;>rcases again_inv hq with⟨e3,e4⟩|⟨aj,z2⟩
  ·rw [e1,e3]
  ·rw [e2] at ah
   have:=ab k (by simpa using ah)
   have:=(hm.lt z2 ai).2
   omega
  ·rw [e4] at ai
   have:=ab k (by simpa using ai)
   have:=(hm.lt z1 ah).2
   omega
  ·exact hm.dis _ _ _ _ k z1 z2 ah ai
 ·rw [au]
  exact .arr (rs:=(rootV v').toList) (by rw [again_self,au])
theorem aappend_ok[Tabs](hT:TabOK P tt){s s':St}(h:Rel P X lo N w0 s a w μ){d ty rt:Nat}(ab:N.has d){av xv:AV}(hq:(aappend tt d ty av xv s).ev=some s'){va x:Value}(ha:RelV P w lo μ (SS X μ) av va)(hx:RelV P w lo μ (SS X μ) xv x):
  ∃v' w' μ',(Builtin.append_ #[ty,ty] rt #[va,x]).run P w=.ok v' w'∧Rel P X lo N w0 s' (a.put (some d) v') w' μ':=by
 unfold aappend at hq
 split at hq
 ·rename_i p i
  rw [Tr.ev_bind] at hq
  obtain⟨u,hu,hq⟩:=xcy.1 hq
  simp only [Tr.ev_l,xc] at hq
  subst hq
  obtain⟨k1,k2,k3,_,v',w',μ',k4,k5,k6⟩:=aappendR_ok (rt:=rt) hT h.mem hu ha hx
  exact⟨v',w',μ',k4,h.upd k3 k1 k5 k2 (fun d' ad=>by cases ad;exact ab) k6⟩
 split at hq
 ·rename_i e t b he
  split at hq
  next src aa=>
   split at hq
   ·rename_i o _
    split at hq
    next e' t' l hg=>
     split at hq
     next l' ae=>
      obtain⟨et,af⟩:=Ty.cast_spec ae
      cases et
      have af:l'=l:=af
      subst af
      split at hq
      next ai=>
       obtain⟨rfl,hb0⟩:=ai
       obtain⟨hle,hq⟩:=ev_g hq
       simp only [decide_eq_true_eq] at hle
       simp only [Tr.ev_l,xc] at hq
       subst hq
       obtain⟨v',w',mv',h1,h2,h3⟩:=append_arr (rt:=rt) hT h.mem he hg hb0 hle aa ha hx
       refine⟨v',w',again μ o mv',h1,?_⟩
       have ah:=h.appd h2
       exact ah.put ab h3
      next=>cases hq
     next=>cases hq
    next=>cases hq
   ·split at hq
    next hg=>
     split at hq
     next hb0=>
      obtain⟨hle,hq⟩:=ev_g hq
      simp only [decide_eq_true_eq] at hle
      simp only [Tr.ev_l,xc] at hq
      subst hq
      obtain⟨v',w',μ',h1,h2,h3⟩:=append_nil (rt:=rt) hT h.mem he hg hb0 hle aa ha hx
      exact⟨v',w',μ',h1,h.upd (u:=⟨some (d,.arr d),none,[(d,.arr e t src)]⟩) (by simp) rfl h2 rfl (fun d' ad=>by cases ad;exact ab) fun p hp=>by cases hp;exact h3⟩
     next=>cases hq
    next=>cases hq
   ·cases hq
  next=>cases hq
 ·cases hq
theorem fresh_spec{g:Nat→Option Ob}{l:List (Nat×Ob)}(h:fresh g l=true):(∀p∈l,g p.1=none)∧(l.map (·.1)).Nodup:=by
 simp only [fresh,xg,xp,decide_eq_true_eq] at h
 refine⟨fun p hp=>?_,h.2⟩
 have:=h.1 p hp
 split at this
 ·assumption
 ·cases this
theorem mem_none[Tabs](hm:Mem P X lo g μ w){o:Nat}(h:g o=none):μ o=none:=by
 cases hμ:μ o with
 |none=>rfl
 |some mv=>obtain⟨y,hy,_⟩:=hm.ob _ mv hμ;rw [h] at hy;cases hy
theorem adopt_ids[Tabs]{ρ:List Nat}{d:Nat}{res:List AV×List (Nat×Ob)}(hn:ρ.Nodup)(af:okRes ρ.length res=true)(hf:fresh g (adopt ρ d res).1.2=true)(hρ:∀o∈ρ,∃x,g o=some x):
  (((adopt ρ d res).1.2++(adopt ρ d res).2).map (·.1)).Nodup:=by
 obtain⟨h1,h2⟩:=fresh_spec hf
 simp only [okRes,xg,xp,decide_eq_true_eq] at af
 obtain⟨⟨⟨ah,ai⟩,_⟩,_⟩:=af
 have ad:∀q∈res.2,64≤q.1→∃o,nth ρ (q.1-64)=some o∧rn ρ d q.1=o:=fun q hq hge=>by
  have hl:=(ah q hq).1
  have hx:nth ρ (q.1-64)=some (ρ[q.1-64]'(by omega)):=by rw [nth_eq];simp
  exact⟨_,hx,by unfold rn;rw [if_neg (by omega),hx];rfl⟩
 rw [xez]
 refine List.nodup_append.2 ⟨h2,?_,fun o ho p hp e=>?_⟩
 ·have:∀l:List (Nat×Ob),(∀q∈l,q∈res.2∧64≤q.1)→(l.map (·.1)).Nodup→((l.map fun p=>(rn ρ d p.1,renOb ρ d p.2)).map (·.1)).Nodup:=by
   intro l
   induction l with
   |nil=>intro _ _;exact xej
   |cons q l ih=>
    intro hl ae
    simp only [xbm,xey] at ae⊢
    refine⟨fun ab=>?_,ih (fun q hq=>hl q (xu _ hq)) ae.2⟩
    rw [List.map_map] at ab
    obtain⟨q',aa,e⟩:=xae.1 ab
    obtain⟨o1,k1,k2⟩:=ad q (hl q (xx)).1 (hl q (xx)).2
    obtain⟨o2,k3,k4⟩:=ad q' (hl q' (xu _ aa)).1 (hl q' (xu _ aa)).2
    simp only [Function.comp_apply] at e
    rw [k2,k4] at e
    subst e
    have e1:=ixOf_nth (k:=64) hn k1
    have e2:=ixOf_nth (k:=64) hn k3
    rw [e1] at e2
    have:=(hl q (xx)).2
    have:=(hl q' (xu _ aa)).2
    have e3:q.1=q'.1:=by
     have:64+(q.1-64)=64+(q'.1-64):=xbz e2
     omega
    exact ae.1 (by rw [e3];exact xcm aa)
  simp only [adopt]
  refine this _ (fun q hq=>?_) ?_
  ·obtain⟨k1,k2⟩:=xac.1 hq
   exact⟨k1,by simpa using k2⟩
  ·exact List.Sublist.nodup (List.Sublist.map _ List.filter_sublist) ai
 ·subst e
  obtain⟨q,hq,rfl⟩:=xae.1 ho
  obtain⟨q',aa,e⟩:=xae.1 hp
  obtain⟨q2,aj,rfl⟩:=xae.1 aa
  obtain⟨k1,k2⟩:=xac.1 aj
  obtain⟨o,k3,k4⟩:=ad q2 k1 (by simpa using k2)
  simp only at e
  rw [k4] at e
  rw [nth_eq] at k3
  obtain⟨x,hx⟩:=hρ o (xn k3)
  have:=h1 q hq
  rw [←e,hx] at this
  cases this
theorem acall_ids[Tabs]{d:Nat}{h:AV}{args:List AV}{q:QR×List (Nat×Ob)}(hq:(acall E g d h args).ev=some q)(hf:fresh g q.1.2=true):((q.1.2++q.2).map (·.1)).Nodup:=by
 unfold acall at hq
 split at hq
 ·split at hq
  next ρ hρ=>
   split at hq
   next aa=>
    simp only [xg,decide_eq_true_eq,xp] at aa
    split at hq
    next cr ae=>
     simp only [Tr.ev_c] at hq
     cases ab:cr.x with
     |none=>rw [ab] at hq;cases hq
     |some r=>
      rw [ab] at hq
      simp only [xf] at hq
      rw [Tr.ev_bind,cr.spok r,xf] at hq
      obtain⟨ad,hq⟩:=ev_g hq
      simp only [Tr.ev_l,xc] at hq
      subst hq
      simp only [xg] at ad
      refine adopt_ids aa.1.2 ad.1 hf fun o ho=>?_
      have:=aa.2 o ho
      unfold lentOK at this
      split at this
      ·exact⟨_,by assumption⟩
      ·exact⟨_,by assumption⟩
      ·cases this
      ·exact⟨_,by assumption⟩
      ·exact⟨_,by assumption⟩
      ·cases this
      ·exact⟨_,by assumption⟩
      ·cases this
    next=>cases hq
   next=>cases hq
  next=>cases hq
 ·split at hq
  next=>
   split at hq
   next=>
    simp only [Tr.ev_c] at hq
    obtain⟨y,_,hq⟩:=xcy.1 hq
    simp only [Tr.ev_l,xc] at hq
    subst hq
    exact xej
   next=>cases hq
  next=>cases hq
 ·cases hq
theorem rowIds_fresh{g:Nat→Option Ob}{l:List (Nat×Ob)}(h:∀p∈l,g p.1=none):rowIds g l=[]:=by
 unfold rowIds
 rw [List.map_eq_nil_iff,List.filter_eq_nil_iff]
 intro p hp
 unfold rowId
 rw [h p hp]
 split<;>simp
theorem alu_ok[Tabs](hE:EnvOK P E)(hT:TabOK P tt)(hm:Mem P X lo g μ w){f:Operand→AV}(hf:∀x,RelV P w lo μ (SS X μ) (f x) (a.eval x)){o:Oper}(ab:isAppend o=false){u:LU}(h:(alu E tt g f o).ev=some u):
  u.und=none∧o.dst=u.d.map (·.1)∧(u.objs.map (·.1)).Nodup∧QOK P o a w (fun x w'=>∃μ',NxU P X lo g μ w u.objs (rowIds g u.objs) w' μ'∧∀p,u.d=some p→RelV P w' lo μ' (SS X μ') p.2 x):=by
 unfold alu at h
 split at h
 ·rename_i ty av vv ho hd
  obtain⟨w',h1,h2,ad,h3,h4,h5⟩:=astore_ok hT hm h (hf av) (hf vv)
  refine⟨h4,by rw [hd,h3];rfl,h5,?_⟩
  intro K Q hK
  unfold Oper.wp execOp
  simp only [ho,Sem.run_bind,h1,Result.andThen_ok,Sem.run_pure]
  exact hK _ w' ⟨μ,by rw [ad];exact h2,fun p hp=>by rw [h3] at hp;cases hp⟩
 ·rename_i ho _
  unfold isAppend at ab
  rw [ho] at ab
  cases ab
 ·rename_i H as ts d ho hd
  rw [Tr.ev_bind] at h
  cases hq:(acall E g d (f H) (as.toList.map f)).ev with
  |none=>rw [hq] at h;cases h
  |some q=>
   rw [hq] at h
   simp only [xf] at h
   split at h
   next aa=>
    simp only [Tr.ev_l,xc] at h
    subst h
    obtain⟨h1,h2⟩:=fresh_spec aa
    obtain⟨_,h3⟩:=map_eval a hf as
    refine⟨rfl,by rw [hd];rfl,acall_ids hq aa,?_⟩
    have:=acall_ok hE hm hq (fun p hp=>mem_none hm (h1 p hp)) ho rfl (hf H) (by simp) h3
    exact fun K Q hK=>this K Q fun x w' ⟨μ',k1,k2⟩=>hK x w' ⟨μ',k1,fun p hp=>by cases hp;exact k2⟩
   next=>cases h
 ·rename_i d hd _ _
  rw [Tr.ev_bind] at h
  cases hq:(aq tt g f o).ev with
  |none=>rw [hq] at h;cases h
  |some q=>
   rw [hq] at h
   simp only [xf] at h
   split at h
   next aa=>
    simp only [Tr.ev_l,xc] at h
    subst h
    obtain⟨h1,h2⟩:=fresh_spec aa
    refine⟨rfl,by rw [hd];rfl,h2,?_⟩
    have hμ:∀p∈q.2,μ p.1=none:=fun p hp=>mem_none hm (h1 p hp)
    have:=aq_ok hT hm hf hq hμ
    exact fun K Q hK=>this K Q fun x w' hx=>by
     obtain⟨μ',k1,k2⟩:=NxU.of hm hμ hx
     exact hK x w' ⟨μ',by rw [rowIds_fresh h1];exact k1,fun p hp=>by cases hp;exact k2⟩
   next=>cases h
 ·cases h
theorem aluD_ok[Tabs](hE:EnvOK P E)(hT:TabOK P tt)(hm:Mem P X lo g μ w){f:Operand→AV}(hf:∀x,RelV P w lo μ (SS X μ) (f x) (a.eval x)){o:Oper}(aa:isAppend o=false){c:Bool}{u:LU}(h:(aluD E tt g f o c).ev=some u):
  (u.und=none∨∃b d,o.op=.move (.tmp b)∧o.dst=some d∧u=⟨some (d,f (.tmp b)),some b,[]⟩)∧o.dst=u.d.map (·.1)∧(u.objs.map (·.1)).Nodup∧QOK P o a w (fun x w'=>∃μ',NxU P X lo g μ w u.objs (rowIds g u.objs) w' μ'∧∀p,u.d=some p→RelV P w' lo μ' (SS X μ') p.2 x):=by
 cases c with
 |false=>
  obtain⟨h1,h2,h3,h4⟩:=alu_ok hE hT hm hf aa h
  exact⟨.inl h1,h2,h3,h4⟩
 |true=>
  simp only [aluD] at h
  split at h
  next ty n ps d ho hd=>
   rw [Tr.ev_bind] at h
   cases hq:(abuildD tt ty n (ps.toList.map fun p=>(p.1,f p.2))).ev with
   |none=>rw [hq] at h;cases h
   |some v=>
    rw [hq] at h
    simp only [xf,Tr.ev_l,xc] at h
    subst h
    obtain⟨h1,h2⟩:=map_parts a hf ps
    obtain⟨x,w',h3,h4⟩:=abuildD_ok hT hm hq h1 h2
    refine⟨.inl rfl,by rw [hd];rfl,xej,?_⟩
    have:QOK P o a w (Nx P X lo g μ w (v,[])):=QOK.val (by simp only [execOp,ho,Sem.run_bind,h3,Result.andThen_ok,Sem.run_pure]) h4
    exact fun K Q hK=>this K Q fun x w' hx=>by
     obtain⟨μ',k1,k2⟩:=NxU.of hm (fun p hp=>by cases hp) hx
     exact hK x w' ⟨μ',k1,fun p hp=>by cases hp;exact k2⟩
  next b d ho hd=>
   simp only [Tr.ev_l,xc] at h
   subst h
   refine⟨.inr ⟨b,d,ho,hd,rfl⟩,by rw [hd];rfl,xej,?_⟩
   have:QOK P o a w (Nx P X lo g μ w (f (.tmp b),[])):=QOK.val (x:=a.eval (.tmp b)) (by simp [execOp,ho]) (Nx.pure hm (hf (.tmp b)))
   exact fun K Q hK=>this K Q fun x w' hx=>by
    obtain⟨μ',k1,k2⟩:=NxU.of hm (fun p hp=>by cases hp) hx
    exact hK x w' ⟨μ',k1,fun p hp=>by cases hp;exact k2⟩
  next=>cases h
theorem aappendZ_ok[Tabs](hT:TabOK P tt){s s':St}(h:Rel P X lo N w0 s a w μ){d ty aa rt:Nat}(ae:N.has d){av nv:AV}(hq:(aappendZ tt d ty aa av nv s).ev=some s'){va vn:Value}(ha:RelV P w lo μ (SS X μ) av va)(hn:RelV P w lo μ (SS X μ) nv vn):
  ∃v' w' μ',(Builtin.append_ #[ty,aa] rt #[va,vn]).run P w=.ok v' w'∧Rel P X lo N w0 s' (a.put (some d) v') w' μ':=by
 unfold aappendZ at hq
 split at hq
 ·rename_i k n
  split at hq
  next e t b k' aw af ad=>
   obtain⟨hb,hq⟩:=ev_g hq
   simp only [xg,decide_eq_true_eq] at hb
   split at hq
   next hb0=>
    simp only [Tr.ev_l,xc] at hq
    subst hq
    have e1:=hn.int
    subst e1
    cases ha
    have ah:=hT ty
    have ai:=hT aa
    rw [aw] at ah
    rw [af] at ai
    obtain⟨hu,⟨i,z,h1,h2,h3,h4,h5⟩,_⟩:=ah
    obtain⟨d2,q1,q2,_⟩:=ai
    simp only [scOf,xc] at q1
    subst q1
    exact mk h ad ae hu q2 h1 h2 h3 h4 h5 n hb.1 hb.2 hb0
   next=>cases hq
  next=>cases hq
 ·cases hq
where
 mk {s:St} {ty aa d e b rt:Nat} {t:Ty} {i:TypeInfo} {z:Value} {k k':IntKind} (h:Rel P X lo N w0 s a w μ) (ad:s.g d=none) (ae:N.has d) (hu:P.underlying ty=some (.slice e)) (ay:P.underlying aa=some (.int k')) (h1:P.info? e=some i) (h2:i.size=t.size) (h3:i.bytes=b) (h4:i.zero=some z) (h5:isZ t z.cells.toList=true)
   (n:Int) (hn:0<n) (az:n*(b:Int)≤281474976710656) (hb0:0<b):
   ∃v w' μ',(Builtin.append_ #[ty,aa] rt #[.slice none 0 0,.int k n]).run P w=.ok v w'∧Rel P X lo N w0 {fr:=(d,.arr d)::s.fr,ob:=(d,.arr e t (List.replicate n.toNat t.dflt))::s.ob} (a.put (some d) v) w' μ':=by
  obtain⟨m,rfl⟩:∃m:Nat,n=(m:Int):=⟨n.toNat,by omega⟩
  have aj:m*b≤281474976710656:=Int.ofNat_le.1 (by rw [Int.natCast_mul];exact az)
  have be:m≤m*b:=xft m hb0
  have ak:=Lib.run_append_nil_zeros (P:=P) w ty aa rt e i z k k' hu ay h1 h4 m (by omega) (by rw [h2];exact t.size_pos) (by omega) (by rw [h3];exact aj)
  have ba:μ d=none:=by
   cases hm:μ d with
   |none=>rfl
   |some mv=>obtain⟨y,hy,_⟩:=h.mem.ob d mv hm;rw [ad] at hy;cases hy
  have hge:=grownCap_ge w m 0 e
  have ab:z.cells.size=t.size:=by simpa using isZ_len h5
  have bb:Nx P X lo s.g μ w (.arr d,[(d,.arr e t (List.replicate (Int.toNat (m:Int)) t.dflt))]) (.slice (some ⟨w.heap.size,0,none⟩) m (grownCap w m 0 e)) (w.drew.alloc (.cells (Builtin.zeroCells z.cells m++Builtin.zeroCells z.cells (grownCap w m 0 e-m)) e)):=by
   have hb:Below w.heap.size w (w.drew.alloc (.cells (Builtin.zeroCells z.cells m++Builtin.zeroCells z.cells (grownCap w m 0 e-m)) e)):=⟨rfl,rfl,rfl,by simp,fun k hk=>heap_alloc_old w.drew _ hk⟩
   refine Nx.made h.mem hb (mv:=⟨.slice (some ⟨w.heap.size,0,none⟩) m (grownCap w m 0 e),[w.heap.size],[]⟩) ba rfl (fun μ' hμ hS=>?_) fun μ' h=>.arr h
   have al:=made_rep (S:=SS X μ) (w:=w) h5 m m (xm _)
   have bc:Builtin.zeroCells z.cells m=madeCells z.cells (m*t.size):=by
    unfold Builtin.zeroCells madeCells
    rw [ab]
   rw [←bc,xah (by simp [size_zeroCells,ab])] at al
   refine⟨⟨rfl,rfl⟩,fun b ao hl=>by simp [rootV] at ao;exact xo _ (ao▸h.mem.hlo b hl),(Builtin.zeroCells z.cells m).toList,⟨?_,.inr ⟨w.heap.size,_,_,?_,xcp _,heap_alloc_new w.drew _,by simpa using hge,?_,?_,?_⟩⟩,al.step fun b au bd=>⟨hS b au bd,hb.block b au⟩⟩
   ·simp [size_zeroCells,ab]
   ·simp
   ·exact grownCap_le_maxLen w m 0 e (by unfold maxLen;omega)
   ·simp only [xdw,size_zeroCells,ab,←xaz]
    congr 1
    omega
   ·simp only [xfa,xak,xbx]
    rw [xdq (by simp [size_zeroCells,ab]),xah (by simp [size_zeroCells,ab])]
  obtain⟨μ',k1⟩:=h.newOb ae ad bb
  exact⟨_,_,μ',ak,k1⟩
theorem atrunc_ok[Tabs](hT:TabOK P tt){s s':St}(h:Rel P X lo N w0 s a w μ){ty d:Nat}(av:N.has d){xv hv:AV}{r:Tr St}(hr:atrunc tt ty xv hv d s=some r)(hq:r.ev=some s'){vx vh:Value}(hx:RelV P w lo μ (SS X μ) xv vx)(hh:RelV P w lo μ (SS X μ) hv vh):
  ∃v μ',(Instr.sliceAt ty vx none (some vh) none).run P w=.ok v w∧Rel P X lo N w0 s' (a.put (some d) v) w μ':=by
 unfold atrunc at hr
 split at hr
 ·rename_i o k n
  split at hr
  next e0 t0 b e t l ak hg=>
   simp only [xc] at hr
   subst hr
   split at hq
   next hc=>
    obtain⟨rfl,bc⟩:=hc
    obtain⟨hb,hq⟩:=ev_g hq
    simp only [xg,decide_eq_true_eq] at hb
    obtain⟨ad,ae⟩:=hb
    simp only [Tr.ev_l,xc] at hq
    subst hq
    have e1:=hh.int
    subst e1
    have af:=hT ty
    rw [ak] at af
    obtain⟨hu,⟨i,z,h1,h2,h3,h4,h5⟩,_⟩:=af
    cases hx with
    | @arr _ _ a0 n0 c0 rs hs hμ=>
     obtain⟨y,hy,al⟩:=h.mem.ob _ _ hμ
     rw [hg] at hy
     cases hy
     obtain⟨⟨bd,aw⟩,aj,xs,aa,ay⟩:=al
     simp only at aw bd aj aa
     have aux:∀m:Int,0≤m→m≤(l.length:Int)→m.toNat≤l.length:=fun m _ _=>by omega
     have hlen:Int.toNat n≤l.length:=aux n ad ae
     -- the header that is bb back
     have key:∃c1,n0=l.length∧n0≤c1∧(Instr.sliceAt ty (.slice a0 n0 c0) none (some (.int k n)) none).run P w=.ok (.slice a0 n.toNat c1) w∧w.ownsRow 0 e0 t.size (.slice a0 n.toNat c1) n.toNat (xs.take (n.toNat*t.size)):=by
      have be:=aa.1
      have az:(xs.take (n.toNat*t.size)).length=n.toNat*t.size:=by
       rw [xw,be]
       exact xba (xao _ hlen)
      rcases aa.2 with⟨ev,ao⟩|⟨gb,cap,cur,ev,k1,k2,k3,k4,k5,k6⟩
      ·cases ev
       have hn:n.toNat=0:=by omega
       obtain⟨_,_,z3⟩:=sb_hi (P:=P) (w:=w) (len:=0) (cap:=0) (xm 0) k n ad (by omega) true
       refine⟨0,ao.symm,xm _,?_,az,.inl ⟨by rw [hn],hn⟩⟩
       simp [Instr.sliceAt,Instr.slice,run_underlying hu,z3,sizeOf,typeInfo,h1,h2]
      ·simp only [Value.slice.injEq] at ev
       obtain⟨rfl,rfl,rfl⟩:=ev
       obtain⟨_,_,z3⟩:=sb_hi (P:=P) (w:=w) (len:=l.length) (cap:=c0) k3 k n ad ae true
       refine⟨c0,rfl,k3,?_,az,.inr ⟨gb,c0,cur,rfl,k1,k2,by omega,k4,k5,?_⟩⟩
       ·simp only [Instr.sliceAt,Instr.slice,Sem.run_bind,run_underlying hu,Result.andThen_ok,z3,sizeOf,typeInfo,h1,Sem.run_pure,xde,Nat.sub_zero]
        by_cases e:c0=0
        ·simp [e,h1]
        ·simp [e,h1,Addr.add_lit]
       ·rw [←k6,xdo,xba (xao _ hlen)]
     obtain⟨c1,z1,z2,z3,z4⟩:=key
     have au:NxA P X lo μ w o (.arr e0 t (l.take n.toNat)) w ⟨.slice a0 n.toNat c1,rs,[]⟩:=by
      refine⟨Kept.refl _ _,fun k hk hS=>⟨⟨hS.1,fun p mv hp ab=>?_⟩,rfl⟩,⟨⟨rfl,?_⟩,?_,xs.take (n.toNat*t.size),?_,?_⟩,fun k hk=>.inl ⟨_,hμ,hk⟩,fun _ _ _=>rfl⟩
      ·rcases again_inv hp with⟨rfl,rfl⟩|⟨_,hp⟩
       ·exact hS.2 _ _ hμ ab
       ·exact hS.2 p mv hp ab
      ·rw [aw]
       cases a0<;>rfl
      ·intro b hb
       refine aj b ?_
       cases a0<;>exact hb
      ·rw [xw,xba hlen]
       exact z4
      ·have:∀ (l:List t.I) (cs:List Value) (m:Nat),RepL (SS X μ) w t l cs→RepL (SS X μ) w t (l.take m) (cs.take (m*t.size)):=by
        intro l
        induction l with
        |nil=>intro cs m hh;simp only [RepL] at hh;subst hh;simp [RepL]
        |cons x l ih=>
         intro cs m hh
         obtain⟨c,r,rfl,g1,g2⟩:=hh
         cases m with
         |zero=>simp [RepL]
         |succ m=>
          have hl:=g1.len
          rw [xfb,xaz,xdg,xdz,xah (l:=c) (by omega),show m*t.size+t.size-c.length=m*t.size by omega]
          exact⟨c,_,rfl,g1,ih r m g2⟩
       exact(this l xs n.toNat ay).step fun k hk hS=>⟨⟨hS.1,fun p mv hp ab=>by
        rcases again_inv hp with⟨rfl,rfl⟩|⟨_,hp⟩
        ·exact hS.2 _ _ hμ ab
        ·exact hS.2 p mv hp ab⟩,rfl⟩
     exact⟨_,_,z3,(h.appd au).put av (.arr again_self)⟩
   next=>cases hq
  next e0 t0 b kp e e2 t ix l ak hg=>
   simp only [xc] at hr
   subst hr
   split at hq
   next hc=>
    obtain⟨rfl,bc⟩:=hc
    obtain⟨hb,hq⟩:=ev_g hq
    simp only [xg,decide_eq_true_eq] at hb
    obtain⟨ad,ae⟩:=hb
    simp only [Tr.ev_l,xc] at hq
    subst hq
    have e1:=hh.int
    subst e1
    have af:=hT ty
    rw [ak] at af
    obtain⟨hu,⟨i,z,h1,h2,h3,h4,h5⟩,_⟩:=af
    cases hx with
    | @arr _ _ a0 n0 c0 rs hs hμ=>
     obtain⟨y,hy,al⟩:=h.mem.ob _ _ hμ
     rw [hg] at hy
     cases hy
     have hp:PermOK w lo (SS X μ) e0 e2 t ix l ⟨.slice a0 n0 c0,rs,hs⟩:=al
     have aa:=hp.own
     have aux:∀m:Int,0≤m→m≤(ix.length:Int)→m.toNat≤ix.length:=fun m _ _=>by omega
     have hlen:Int.toNat n≤ix.length:=aux n ad ae
     have key:∃c1,n0=ix.length∧n0≤c1∧(Instr.sliceAt ty (.slice a0 n0 c0) none (some (.int k n)) none).run P w=.ok (.slice a0 n.toNat c1) w∧w.ownsRow 0 e0 1 (.slice a0 n.toNat c1) (ix.take n.toNat).length ((ix.take n.toNat).map fun i=>hs.getD i (.slice none 0 0)):=by
      have bf:(ix.take n.toNat).length=n.toNat:=by rw [xw];exact xba hlen
      rw [bf]
      rcases aa.2 with⟨ev,ao⟩|⟨gb,cap,cur,ev,k1,k2,k3,k4,k5,k6⟩
      ·cases ev
       have hn:n.toNat=0:=by omega
       obtain⟨_,_,z3⟩:=sb_hi (P:=P) (w:=w) (len:=0) (cap:=0) (xm 0) k n ad (by omega) true
       refine⟨0,ao.symm,xm _,?_,by simp [hn],.inl ⟨by rw [hn],hn⟩⟩
       simp [Instr.sliceAt,Instr.slice,run_underlying hu,z3,sizeOf,typeInfo,h1,h2]
      ·simp only [Value.slice.injEq] at ev
       obtain⟨rfl,rfl,rfl⟩:=ev
       obtain⟨_,_,z3⟩:=sb_hi (P:=P) (w:=w) (len:=ix.length) (cap:=c0) k3 k n ad ae true
       refine⟨c0,rfl,k3,?_,by simp [xba hlen],.inr ⟨gb,c0,cur,rfl,k1,k2,by omega,k4,k5,?_⟩⟩
       ·simp only [Instr.sliceAt,Instr.slice,Sem.run_bind,run_underlying hu,Result.andThen_ok,z3,sizeOf,typeInfo,h1,Sem.run_pure,xde,Nat.sub_zero]
        by_cases e:c0=0
        ·simp [e,h1]
        ·simp [e,h1,Addr.add_lit]
       ·simp only [xbw] at k6⊢
        rw [List.map_take,←k6,xdo,xba hlen]
     obtain⟨c1,z1,z2,z3,z4⟩:=key
     have ah:∀b,rootV (.slice a0 n.toNat c1)=some b→rootV (.slice a0 n0 c0)=some b:=fun b hb=>by cases a0<;>exact hb
     have ai:∀b,rootV (.slice a0 n0 c0)≠some b→rootV (.slice a0 n.toNat c1)≠some b:=fun b hb hc=>hb (ah b hc)
     have ba:∀k,SS X μ k→SS X (again μ o ⟨.slice a0 n.toNat c1,rs,hs⟩) k:=fun k hS=>⟨hS.1,fun p mv hp ab=>by
      rcases again_inv hp with⟨rfl,rfl⟩|⟨_,hp⟩
      ·exact hS.2 _ _ hμ ab
      ·exact hS.2 p mv hp ab⟩
     have au:NxA P X lo μ w o (.perm false e0 e2 t (ix.take n.toNat) l) w ⟨.slice a0 n.toNat c1,rs,hs⟩:=by
      refine⟨Kept.refl _ _,fun k hk hS=>⟨ba k hS,rfl⟩,⟨z4,hp.len,fun b hb=>hp.top b (ah b hb),hp.low,hp.slc,fun j x r hx hl=>?_,hp.apart⟩,fun k hk=>.inl ⟨_,hμ,hk⟩,fun _ _ _=>rfl⟩
      obtain⟨m1,xs,m2,m3⟩:=hp.row j x r hx hl
      exact⟨fun b hb=>⟨(m1 b hb).1,ai b (m1 b hb).2⟩,xs,m2,m3.step fun k hk hS=>⟨ba k hS,rfl⟩⟩
     exact⟨_,_,z3,(h.appd au).put av (.arr again_self)⟩
   next=>cases hq
  next=>cases hr
 ·cases hr
theorem acut_ok[Tabs](hT:TabOK P tt){s s':St}(h:Rel P X lo N w0 s a w μ){ty rt d:Nat}(ca:N.has d){xv yv:AV}{r:Tr St}(hr:acut tt ty d xv yv s=some r)(hq:r.ev=some s'){va x:Value}(ha:RelV P w lo μ (SS X μ) xv va)(hx:RelV P w lo μ (SS X μ) yv x):
  ∃v' w' μ',(Builtin.append_ #[ty,ty] rt #[va,x]).run P w=.ok v' w'∧Rel P X lo N w0 s' (a.put (some d) v') w' μ':=by
 unfold acut at hr
 split at hr
 ·rename_i o i p j z
  split at hr
  next e0 t0 b e t l al bn hg=>
   have al:=xe al
   subst al
   simp only [xc] at hr
   subst hr
   split at hq
   next hc=>
    obtain⟨rfl,cb,rfl,hb0⟩:=hc
    obtain⟨hle,hq⟩:=ev_g hq
    simp only [decide_eq_true_eq] at hle
    simp only [Tr.ev_l,xc] at hq
    subst hq
    have bb:=hT ty
    rw [bn] at bb
    obtain⟨hu,⟨ii,zz,hi,hs,bo,hz,bp⟩,_⟩:=bb
    have br:zz.cells.size=t.size:=by rw [←cb];simpa using isZ_len bp
    rw [cb] at hs
    have hm:=h.mem
    cases ha with
    | @pre _ _ _ a0 n0 c0 rs cy hμ cg=>
     cases hx with
     | @suf _ _ _ _ a2 n2 c2 ch cj a' m k bc hj ah=>
      rw [hμ] at bc
      cases bc
      obtain⟨y,hy,bs⟩:=hm.ob _ _ hμ
      rw [hg] at hy
      cases hy
      obtain⟨⟨ck,bt⟩,cc,xs,ab,bd⟩:=bs
      simp only at bt ck cc ab
      have cd:=ab.1
      have ao:n0=l.length:=by
       rcases ab.2 with⟨ev,be⟩|⟨gb,cap,cur,ev,_⟩
       ·cases ev;exact be.symm
       ·simp only [Value.slice.injEq] at ev;exact ev.2.1
      obtain⟨cm,rfl⟩:=hj
      have ba:i≤l.length:=by omega
      have cz:j≤l.length:=by omega
      have cn:(xs.take (i*t.size)).length=i*t.size:=by
       rw [xw,cd]
       exact xba (xao _ ba)
      have au:w.ownsRow 0 e0 t.size (.slice a0 i c0) i (xs.take (i*t.size)):=by
       refine⟨cn,?_⟩
       rcases ab.2 with⟨ev,be⟩|⟨gb,cap,cur,ev,k1,k2,k3,k4,k5,k6⟩
       ·cases ev
        have:i=0:=by omega
        subst this
        exact .inl ⟨rfl,rfl⟩
       ·simp only [Value.slice.injEq] at ev
        obtain⟨rfl,rfl,rfl⟩:=ev
        exact .inr ⟨gb,c0,cur,rfl,k1,k2,by omega,k4,k5,by rw [←k6,xdo,xba (xao _ ba)]⟩
      have cf:(xs.drop (j*t.size)).length=(n0-j)*t.size:=by
       rw [xap,cd,←Nat.sub_mul,ao]
      have bf:∀u∈xs,u.oneCell'=true:=RepL.one bd
      have bg:(i+(n0-j))*b≤140737488355328:=by rw [ao];exact hle
      obtain⟨v',w',h1,h2,h3,h4,h5,h6,h7,h8,a1,n',c',bh⟩:=append_own (rt:=rt) (c:=k) hu hi hs bo hz br au (ax:=a') (m:=n0-j) (news:=xs.drop (j*t.size)) cf
       (fun e=>by
        rcases ah with ah|⟨gb,_,e2⟩
        ·omega
        ·rw [e] at e2;cases e2)
       (fun ad e q u ae=>by
        rcases ah with ah|⟨gb,e1,e2⟩
        ·have:xs.drop (j*t.size)=[]:=xi (by rw [cf];simp [ah])
         rw [this] at ae
         cases ae
        ·rw [e] at e2
         cases e2
         rw [xaa] at ae
         have:=ab.cells (g:=gb) (by rw [e1];rfl) (j*t.size+q) u ae
         simpa [Addr.add_lit] using this)
       (fun u ae=>bf u (xdy ae)) bg hb0
      have aj:rootV (.slice a0 i c0)=rootV (.slice a0 n0 c0):=by cases a0<;>rfl
      rw [aj] at h7 h8
      have av:∀k,rootV v'=some k→(∃mv0,μ p=some mv0∧k∈mv0.rs)∨w.heap.size≤k:=fun k hk=>(h8 k hk).imp (fun h=>⟨_,hμ,by rw [bt,h];simp⟩) id
      have aw:∀k,k<w.heap.size→(∀mv0,μ p=some mv0→k∉mv0.rs)→w'.heap[k]? =w.heap[k]? :=fun k hk hn=>h7 k hk fun e=>hn _ hμ (by rw [bt,e];simp)
      have af:∀k,k<w.heap.size→SS X μ k→SS X (again μ p ⟨v',(rootV v').toList,[]⟩) k∧w'.heap[k]? =w.heap[k]? :=fun k hk hS=>⟨⟨hS.1,fun q mv hp ak=>by
       rcases again_inv hp with⟨rfl,rfl⟩|⟨_,hp⟩
       ·have ak:rootV v'=some k:=by simpa using ak
        rcases av k ak with⟨mv0,e1,e2⟩|h
        ·exact hS.2 _ mv0 e1 e2
        ·omega
       ·exact hS.2 q mv hp ak⟩,aw k hk fun mv0 h=>hS.2 p mv0 h⟩
      have ay:Kept lo w w':=⟨h3,h4,h5,h6,fun k hk=>aw k (hm.hlo k hk) fun mv0 h ak=>(hm.lt h ak).1 hk⟩
      have bm:∀ (l:List t.I) (cs:List Value) (m:Nat),RepL (SS X μ) w t l cs→RepL (SS X μ) w t (l.take m) (cs.take (m*t.size))∧RepL (SS X μ) w t (l.drop m) (cs.drop (m*t.size)):=by
       intro l
       induction l with
       |nil=>intro cs m hh;simp only [RepL] at hh;subst hh;simp [RepL]
       |cons x l ih=>
        intro cs m hh
        obtain⟨c,r,rfl,g1,g2⟩:=hh
        cases m with
        |zero=>
         rw [xde]
         exact⟨rfl,⟨c,r,rfl,g1,g2⟩⟩
        |succ m=>
         have hl:=g1.len
         obtain⟨i1,i2⟩:=ih r m g2
         rw [xfb,List.drop_succ_cons,xaz,xdg,xdz,List.drop_append,xah (l:=c) (by omega),xek (l:=c) (by omega),show m*t.size+t.size-c.length=m*t.size by omega]
         exact⟨⟨c,_,rfl,g1,i1⟩,i2⟩
      have bu:NxA P X lo μ w p (.arr e0 t (l.take i++l.drop j)) w' ⟨v',(rootV v').toList,[]⟩:=by
       refine⟨ay,af,⟨⟨rfl,rfl⟩,fun k hk hl=>?_,xs.take (i*t.size)++xs.drop (j*t.size),?_,?_⟩,fun k hk=>av k (by simpa using hk),aw⟩
       ·rcases av k hk with⟨mv0,e1,e2⟩|h
        ·exact(hm.lt e1 e2).1 hl
        ·have:=hm.hlo k hl;omega
       ·have cp:(l.take i++l.drop j).length=i+(n0-j):=by rw [xj,xw,xap,ao,xba ba]
        rw [cp]
        exact h2
       ·exact((bm l xs i bd).1.step fun k hk hS=>af k hk hS).append ((bm l xs j bd).2.step fun k hk hS=>af k hk hS)
      refine⟨v',w',_,h1,(h.appd bu).put ca ?_⟩
      rw [bh]
      exact .arr (rs:=(rootV v').toList) (by rw [again_self,bh])
   next=>cases hq
  next e0 t0 b e e2 t l al bn hg=>
   have al:=xe al
   subst al
   simp only [xc] at hr
   subst hr
   split at hq
   next hc=>
    obtain⟨rfl,bw,rfl,hb0⟩:=hc
    obtain⟨hle,hq⟩:=ev_g hq
    simp only [xg,decide_eq_true_eq] at hle
    obtain⟨da,hle⟩:=hle
    simp only [Tr.ev_l,xc] at hq
    subst hq
    have bb:=hT ty
    rw [bn] at bb
    obtain⟨hu,⟨ii,zz,hi,hs,bo,hz,bp⟩,_⟩:=bb
    have br:zz.cells.size=t0.size:=by simpa using isZ_len bp
    have hm:=h.mem
    cases ha with
    | @pre _ _ _ a0 n0 c0 rs ai hμ cg=>
     cases hx with
     | @suf _ _ _ _ a2 n2 c2 ch cj a' m k bc hj ah=>
      rw [hμ] at bc
      cases bc
      obtain⟨y,hy,bs⟩:=hm.ob _ _ hμ
      rw [hg] at hy
      cases hy
      obtain⟨aa,_⟩:=bs
      have hlen:=aa.len
      have ab:=aa.own
      simp only at hlen ab
      have ao:n0=l.length:=by
       rcases ab.2 with⟨ev,be⟩|⟨gb,cap,cur,ev,_⟩
       ·cases ev;exact be.symm
       ·simp only [Value.slice.injEq] at ev;exact ev.2.1
      obtain⟨cm,rfl⟩:=hj
      have ba:i≤l.length:=by omega
      have au:w.ownsRow 0 e0 t0.size (.slice a0 i c0) i (ai.take i):=by
       rw [bw]
       refine⟨by rw [xw,hlen,xbw];exact xba ba,?_⟩
       rcases ab.2 with⟨ev,be⟩|⟨gb,cap,cur,ev,k1,k2,k3,k4,k5,k6⟩
       ·cases ev
        have:i=0:=by omega
        subst this
        exact .inl ⟨rfl,rfl⟩
       ·simp only [Value.slice.injEq] at ev
        obtain⟨rfl,rfl,rfl⟩:=ev
        exact .inr ⟨gb,c0,cur,rfl,k1,k2,by omega,k4,k5,by rw [←k6,xdo];congr 1;omega⟩
      have bf:∀u∈ai,u.oneCell'=true:=fun u hu=>by
       obtain⟨a2,n2,c2,rfl⟩:=aa.slc u hu
       rfl
      have bg:(i+(n0-j))*b≤140737488355328:=by rw [ao];exact hle
      obtain⟨v',w',m1,m2,m3,m4,m5,m6,m7,m8,a1,n',c',bh⟩:=append_own (rt:=rt) (c:=k) (t:=t0) hu hi hs bo hz br au (ax:=a') (m:=n0-j) (news:=ai.drop j) (by rw [xap,hlen,bw,ao,xbw])
       (fun e=>by
        rcases ah with ah|⟨gb,_,e2⟩
        ·omega
        ·rw [e] at e2;cases e2)
       (fun ad e q u ae=>by
        rcases ah with ah|⟨gb,e1,e2⟩
        ·have:ai.drop j=[]:=xi (by rw [xap,hlen];omega)
         rw [this] at ae
         cases ae
        ·rw [e] at e2
         cases e2
         rw [xaa] at ae
         have:=ab.cells (g:=gb) (by rw [e1];rfl) (j+q) u ae
         simpa [Addr.add_lit] using this)
       (fun u ae=>bf u (xdy ae)) bg hb0
      rw [bw] at m2
      have aj:rootV (.slice a0 i c0)=rootV (.slice a0 n0 c0):=by cases a0<;>rfl
      rw [aj] at m7 m8
      have az:∀ {α:Type} (l:List α) (n:Nat),i≤l.length→(l.take i++l.drop j)[n]? =l[if n<i then n else j+(n-i)]? :=fun{α} l n hi=>by
       have cq:(l.take i).length=i:=by rw [xw];omega
       by_cases hn:n<i
       ·rw [xab (by omega),List.getElem?_take_of_lt hn,if_pos hn]
       ·rw [xz (by omega),cq,xaa,if_neg hn]
      have bz:∀j,inRow none j:=fun j i k hk=>by cases hk
      have bl:∀k,rootV v'=some k→k∈rs∨w.heap.size≤k:=fun k hk=>(m8 k hk).imp (fun h=>aa.top k h) id
      have bj:∀k,k∈(rootV v').toList++rs→k∈rs∨w.heap.size≤k:=fun k hk=>by
       rcases xq.1 hk with hk|hk
       ·exact bl k (by simpa using hk)
       ·exact .inl hk
      have ay:Kept lo w w':=⟨m3,m4,m5,m6,fun k hk=>m7 k (hm.hlo k hk) fun e=>(aa.low k (aa.top k e)).1 hk⟩
      have af:∀k,k<w.heap.size→SS X μ k→SS X (again μ p ⟨v',(rootV v').toList++rs,ai.take i++ai.drop j⟩) k∧w'.heap[k]? =w.heap[k]? :=fun k hk hS=>⟨⟨hS.1,fun p' mv hp ak=>by
       rcases again_inv hp with⟨rfl,rfl⟩|⟨_,hp⟩
       ·rcases bj k ak with h'|h'
        ·exact hS.2 _ _ hμ h'
        ·omega
       ·exact hS.2 p' mv hp ak⟩,m7 k hk fun e=>hS.2 p _ hμ (aa.top k e)⟩
      have bu:NxA P X lo μ w p (.rows e0 e2 t (l.take i++l.drop j) none) w' ⟨v',(rootV v').toList++rs,ai.take i++ai.drop j⟩:=by
       refine⟨ay,af,⟨⟨?_,fun k hk=>xag _ (by simp [show rootV v'=some k from hk]),fun k hk=>?_,fun y hy=>?_,fun q y r ct hy hq=>?_,fun q q' y z kb ct hk hy hz h3 h4=>?_⟩,fun i' d' cu=>by cases cu⟩,fun k hk=>?_,fun k hk hn=>?_⟩
       ·rw [show(l.take i++l.drop j).length=i+(n0-j) by rw [xj,xw,xap,ao,xba ba]]
        exact m2
       ·rcases bj k hk with h'|h'
        ·exact⟨(aa.low k h').1,xan (aa.low k h').2 m6⟩
        ·refine⟨fun hl=>by have:=hm.hlo k hl;omega,?_⟩
         have bk:rootV v'=some k:=by
          rcases xq.1 hk with hk|hk
          ·simpa using hk
          ·have:=(aa.low k hk).2;omega
         rcases m2.2 with⟨e1,_⟩|⟨gb,cap,cur,e1,_,hh,_⟩
         ·rw [e1] at bk;simp [rootV] at bk
         ·rw [e1] at bk
          simp only [rootV,xc] at bk
          subst bk
          exact(xau.1 hh).1
       ·rcases xq.1 hy with hy|hy
        ·exact aa.slc y (xcg hy)
        ·exact aa.slc y (xdy hy)
       ·simp only at hy
        rw [az _ _ (by omega)] at hy hq
        obtain⟨z1,ys,z2,z3⟩:=aa.row _ y r (bz _) hy hq
        refine⟨fun k hk=>⟨xal _ (z1 k hk).1,fun cw=>?_⟩,ys,ownsRow_same z2 fun k hk=>m7 k (aa.low k (z1 k hk).1).2 (z1 k hk).2,z3.step fun k hk hs=>af k hk hs⟩
        rcases m8 k cw with h'|h'
        ·exact(z1 k hk).2 h'
        ·have:=(aa.low k (z1 k hk).1).2;omega
       ·simp only at hy hz
        rw [az _ _ (by omega)] at hy hz
        have:=aa.apart _ _ y z kb (bz _) (bz _) hy hz h3 h4
        split at this<;>split at this<;>omega
       ·rcases bj k hk with h'|h'
        ·exact .inl ⟨_,hμ,h'⟩
        ·exact .inr h'
       ·exact m7 k hk fun e=>hn _ hμ (aa.top k e)
      refine⟨v',w',_,m1,(h.appd bu).put ca ?_⟩
      rw [bh]
      exact .arr (rs:=(rootV v').toList++rs) (hs:=ai.take i++ai.drop j) (by rw [again_self,bh])
   next=>cases hq
  next=>cases hr
 ·cases hr
theorem asuf_ok[Tabs](hT:TabOK P tt){s s':St}(h:Rel P X lo N w0 s a w μ){ty d:Nat}(ad:N.has d){xv lv:AV}{r:Tr St}(hr:asuf tt ty xv lv d s=some r)(hq:r.ev=some s'){vx vl:Value}(hx:RelV P w lo μ (SS X μ) xv vx)(hl:RelV P w lo μ (SS X μ) lv vl):
  ∃v μ',(Instr.sliceAt ty vx (some vl) none none).run P w=.ok v w∧Rel P X lo N w0 s' (a.put (some d) v) w μ':=by
 unfold asuf at hr
 split at hr
 ·rename_i o k n
  have e1:=hl.int
  subst e1
  split at hr
  next e0 t0 b e t l aa hg=>
   simp only [xc] at hr
   subst hr
   split at hq
   next hc=>
    obtain⟨hb,hq⟩:=ev_g hq
    simp only [xg,decide_eq_true_eq] at hb
    simp only [Tr.ev_l,xc] at hq
    subst hq
    cases hx with
    | @arr _ _ a0 n0 c0 rs hs hμ=>
     obtain⟨y,hy,ab⟩:=h.mem.ob _ _ hμ
     rw [hg] at hy
     cases hy
     obtain⟨_,_,xs,ae,_⟩:=ab
     obtain⟨v,h1,h2⟩:=suf_ok (P:=P) (w:=w) (lo:=lo) (S:=SS X μ) hT aa hc hμ ae rfl hb.1 hb.2
     exact⟨v,μ,h1,h.put ad h2⟩
   next=>cases hq
  next e0 t0 b kp e e2 t ix l aa hg=>
   simp only [xc] at hr
   subst hr
   split at hq
   next hc=>
    obtain⟨hb,hq⟩:=ev_g hq
    simp only [xg,decide_eq_true_eq] at hb
    simp only [Tr.ev_l,xc] at hq
    subst hq
    cases hx with
    | @arr _ _ a0 n0 c0 rs hs hμ=>
     obtain⟨y,hy,ab⟩:=h.mem.ob _ _ hμ
     rw [hg] at hy
     cases hy
     obtain⟨v,h1,h2⟩:=suf_ok (P:=P) (w:=w) (lo:=lo) (S:=SS X μ) hT aa hc hμ (PermOK.own ab) rfl hb.1 hb.2
     exact⟨v,μ,h1,h.put ad h2⟩
   next=>cases hq
  next=>cases hr
 ·cases hr
theorem zero_rep[Tabs]{t:Ty}{z:Array Value}(hz:isZ t z.toList=true)(n:Nat):RepL S w t (List.replicate n t.dflt) (Builtin.zeroCells z n).toList:=by
 have aa:z.size=t.size:=by simpa using isZ_len hz
 have ab:=made_rep (S:=S) (w:=w) hz n n (xm _)
 have ad:Builtin.zeroCells z n=madeCells z (n*t.size):=by
  unfold Builtin.zeroCells madeCells
  rw [aa]
 rw [←ad,xah (by simp [size_zeroCells,aa])] at ab
 exact ab
theorem aclear_ok[Tabs](hT:TabOK P tt){s s':St}(h:Rel P X lo N w0 s a w μ){ty rt:Nat}{xv:AV}{r:Tr St}(hr:aclear tt ty xv s=some r)(hq:r.ev=some s'){vx:Value}(hx:RelV P w lo μ (SS X μ) xv vx):
  ∃w',(Builtin.clear_ #[ty] rt #[vx]).run P w=.ok (.tuple #[]) w'∧∀v,Rel P X lo N w0 s' (a.put none v) w' μ:=by
 unfold aclear at hr
 split at hr
 ·rename_i o i z
  cases hx with
  | @suf _ _ _ _ a0 n c rs hs a' m k hμ hi ha=>
   obtain⟨cb,rfl⟩:=hi
   have ai:∀x,s.g o=some x→Rel P X lo N w0 ⟨s.fr,(o,x)::s.ob⟩ a w μ:=fun x hx=>by
    have e:(⟨s.fr,(o,x)::s.ob⟩:St).g=s.g:=by
     funext p
     simp only [St.g,look]
     by_cases hp:o=p
     ·subst hp;rw [beq_self];exact hx.symm
     ·rw [beq_ne hp]
    show RelF P X lo N w0 (⟨s.fr,(o,x)::s.ob⟩:St).slot (⟨s.fr,(o,x)::s.ob⟩:St).g a w μ
    rw [e]
    exact h
   split at hr
   next e0 t0 b e t l aw hg=>
    simp only [xc] at hr
    subst hr
    split at hq
    next cc=>
     split at hq
     next hc=>
      obtain⟨rfl,rfl⟩:=hc
      simp only [Tr.ev_l,xc] at hq
      subst hq
      obtain⟨⟨br⟩⟩:Nonempty (PLift (t0=t)):=⟨by assumption⟩
      subst br
      have aj:=hT ty
      rw [aw] at aj
      obtain⟨hu,⟨inf,zz,g1,g2,g3,g4,g5⟩,_⟩:=aj
      have ay:zz.cells.size=t0.size:=by simpa using isZ_len g5
      obtain⟨y,hy,az⟩:=h.mem.ob _ _ hμ
      rw [hg] at hy
      cases hy
      obtain⟨⟨bj,ba⟩,bs,xs,aa,bk⟩:=az
      simp only at ba bj aa
      subst bj
      by_cases bb:n-i=0
      ·have ak:i=n:=by omega
       subst ak
       have al:i=l.length:=by
        rcases aa.2 with⟨ev,bt⟩|⟨gb,cap,cur,ev,_⟩
        ·cases ev;omega
        ·cases ev;rfl
       have el:l.take i++List.replicate (l.length-i) t0.dflt=l:=by rw [al];simp
       rw [el]
       refine⟨w,?_,fun v=>ai _ hg⟩
       rw [bb]
       cases a'<;>simp [Builtin.clear_,run_underlying hu]
      ·rcases ha with ha|⟨b0,rfl,rfl⟩
       ·omega
       ·rcases aa.2 with⟨e1,_⟩|⟨b',cap,cur,ev,bc,hh,bd,be,af,ad⟩
        ·cases e1
        ·simp only [Value.slice.injEq,xc,Addr.mk.injEq,and_true] at ev
         obtain⟨rfl,rfl,rfl⟩:=ev
         simp only [rootV,Option.toList] at ba
         subst ba
         have ae:(Builtin.zeroCells zz.cells (l.length-i)).toList.length=(l.length-i)*t0.size:=by simp [size_zeroCells,ay]
         have bl:=zero_rep (S:=SS X μ) (w:=w) g5 (l.length-i)
         have hmul:i*t0.size+(l.length-i)*t0.size=l.length*t0.size:=by rw [←xaz];congr 1;omega
         have ca:l.length*t0.size≤c*t0.size:=xao _ bd
         have ab:=run_storeCells_at P b0 (i*t0.size) e0 (Builtin.zeroCells zz.cells (l.length-i)).toList 0 cur w hh (by rw [ae,af];omega) bl.one
         simp only [xbd] at ab
         have ao:(Builtin.clear_ #[ty] rt #[.slice (some ⟨b0,i*t0.size,none⟩) (l.length-i) k]).run P w=.ok (.tuple #[]) (w.setRow b0 (cur.toList.take (i*t0.size)++(Builtin.zeroCells zz.cells (l.length-i)).toList++cur.toList.drop (i*t0.size+(Builtin.zeroCells zz.cells (l.length-i)).toList.length)).toArray):=by
          have bf:(zeroValue e0).run P w=.ok zz w:=by simp [zeroValue,typeInfo,g1,g4]
          cases bg:l.length-i with
          |zero=>omega
          |succ mm=>
           rw [bg] at ab
           simp [Builtin.clear_,run_underlying hu,bf,ab]
         refine⟨_,ao,fun v=>h.upd (u:=⟨none,none,[(o,.arr e0 t0 (l.take i++List.replicate (l.length-i) t0.dflt))]⟩) (by simp) rfl (NxU.wrote h.mem hμ (by simp) ⟨⟨rfl,rfl⟩,bs,xs.take (i*t0.size)++(Builtin.zeroCells zz.cells (l.length-i)).toList,⟨?_,.inr ⟨b0,c,_,?_,bc,setRow_heap w b0 cur _ e0 _ hh,?_,be,?_,?_⟩⟩,?_⟩) (dst:=none) rfl (fun d hd=>by cases hd) (x:=v) (fun p hp=>by cases hp)⟩
         ·have:=aa.1
          simp only [xj,xw,ae,xak,this]
          rw [xba (by omega),xba (by omega),←xaz]
         ·simp only [xj,xw,xak]
          congr 1
          omega
         ·simp only [xj,xw,xak]
          omega
         ·simp only [xbp,xj,xw,xap,xbf,af,size_zeroCells,ay]
          omega
         ·have e3:(l.take i++List.replicate (l.length-i) t0.dflt).length*t0.size=l.length*t0.size:=by
           simp only [xj,xw,xak]
           congr 1
           omega
          rw [e3]
          have h1:=take_splice cur.toList (Builtin.zeroCells zz.cells (l.length-i)).toList (i*t0.size) ((l.length-i)*t0.size) (l.length*t0.size) ae (by omega) (by simp [af];omega)
          rw [ae]
          rw [h1,ad]
          have hd:xs.drop (i*t0.size+(l.length-i)*t0.size)=[]:=xci (by rw [aa.1];omega)
          rw [hd,xas]
         ·have:∀ (l:List t0.I) (cs:List Value) (m:Nat),RepL (SS X μ) w t0 l cs→RepL (SS X μ) w t0 (l.take m) (cs.take (m*t0.size)):=by
           intro l
           induction l with
           |nil=>intro cs m hh;simp only [RepL] at hh;subst hh;simp [RepL]
           |cons x l ih=>
            intro cs m hh
            obtain⟨c,r,rfl,g1,g2⟩:=hh
            cases m with
            |zero=>simp [RepL]
            |succ m=>
             have hl:=g1.len
             rw [xfb,xaz,xdg,xdz,xah (l:=c) (by omega),show m*t0.size+t0.size-c.length=m*t0.size by omega]
             exact⟨c,_,rfl,g1,ih r m g2⟩
          exact((this l xs i bk).append bl).step fun m cd hS=>⟨hS,setRow_other w b0 m _ fun e=>by subst e;exact hS.2 o _ hμ (by simp)⟩
     next=>cases hq
    next=>cases hq
   next e0 t0 b kp e e2 t ix l aw hg=>
    simp only [xc] at hr
    subst hr
    split at hq
    next tz=>
     split at hq
     next hc=>
      obtain⟨rfl,rfl⟩:=hc
      simp only [Tr.ev_l,xc] at hq
      subst hq
      have aj:=hT ty
      rw [aw] at aj
      obtain⟨hu,⟨inf,zz,g1,g2,g3,g4,g5⟩,_⟩:=aj
      obtain⟨y,hy,az⟩:=h.mem.ob _ _ hμ
      rw [hg] at hy
      cases hy
      have hp:PermOK w lo (SS X μ) e0 e2 t ix l ⟨.slice a0 n c,rs,hs⟩:=az
      have aa:=hp.own
      have cf:hs.length=l.length:=hp.len
      have bm:hs.getD l.length (.slice none 0 0)=.slice none 0 0:=by rw [xd,xbj (by omega)];rfl
      by_cases bb:n-i=0
      ·have ak:i=n:=by omega
       subst ak
       have al:i=ix.length:=by
        rcases aa.2 with⟨ev,bt⟩|⟨gb,cap,cur,ev,_⟩
        ·cases ev;omega
        ·cases ev;rfl
       have el:ix.take i++List.replicate (ix.length-i) l.length=ix:=by rw [al];simp
       rw [el]
       refine⟨w,?_,fun v=>?_⟩
       ·rw [bb]
        cases a'<;>simp [Builtin.clear_,run_underlying hu]
       ·have h2:Rel P X lo N w0 ⟨s.fr,(o,.perm kp e0 e2 t ix l)::s.ob⟩ a w μ:=ai _ hg
        refine⟨⟨h2.mem.hX,h2.mem.hlo,fun p mv hp=>?_,h2.mem.dis,h2.mem.tab⟩,h2.fr,h2.bel,h2.df,h2.sz⟩
        obtain⟨x,k1,k2⟩:=h2.mem.ob p mv hp
        by_cases bn:o=p
        ·subst bn
         simp only [St.g,look,beq_self,xc] at k1
         subst k1
         exact⟨.perm false e0 e2 t ix l,by simp [St.g,look],k2⟩
        ·refine⟨x,?_,k2⟩
         simp only [St.g,look,beq_ne bn] at k1⊢
         exact k1
      ·rcases ha with ha|⟨b0,rfl,rfl⟩
       ·omega
       ·rcases aa.2 with⟨e1,_⟩|⟨b',cap,cur,ev,bc,hh,bd,be,af,ad⟩
        ·cases e1
        ·simp only [Value.slice.injEq,xc,Addr.mk.injEq,and_true] at ev
         obtain⟨rfl,rfl,rfl⟩:=ev
         have bo:b0∈rs:=hp.top b0 rfl
         simp only [xbw] at af ad
         obtain⟨zx,bh⟩:=isZ_one (t:=.slice tz) rfl g5
         rw [bh] at g5
         have bu:=isZ1_slice g5
         subst bu
         have ay:zz.cells.size=1:=by rw [←xbf,bh];rfl
         have ae:(Builtin.zeroCells zz.cells (ix.length-i)).toList=List.replicate (ix.length-i) (.slice none 0 0):=by
          have bw:zz.cells= #[.slice none 0 0]:=by rw [←xav (xs:=zz.cells),bh]
          rw [bw]
          apply xfs
          ·simp [Builtin.zeroCells]
          ·intro j h1 h2
           simp only [Builtin.zeroCells,Array.toList_map,List.getElem_map,List.getElem_replicate,xbp,xad,xai,xbg,Nat.mod_one]
           rfl
         have ab:=run_storeCells_at P b0 (i*1) e0 (Builtin.zeroCells zz.cells (ix.length-i)).toList 0 cur w hh (by rw [ae,af];simp;omega) (fun u hu=>by rw [ae] at hu;rw [(List.mem_replicate.1 hu).2];rfl)
         simp only [xbd] at ab
         have av:∀b',b'≠b0→(w.setRow b0 (cur.toList.take (i*1)++(Builtin.zeroCells zz.cells (ix.length-i)).toList++cur.toList.drop (i*1+(Builtin.zeroCells zz.cells (ix.length-i)).toList.length)).toArray).heap[b']? =w.heap[b']? :=fun b' bz=>setRow_other w b0 b' _ bz
         have ao:(Builtin.clear_ #[ty] rt #[.slice (some ⟨b0,i*1,none⟩) (ix.length-i) k]).run P w=.ok (.tuple #[]) (w.setRow b0 (cur.toList.take (i*1)++(Builtin.zeroCells zz.cells (ix.length-i)).toList++cur.toList.drop (i*1+(Builtin.zeroCells zz.cells (ix.length-i)).toList.length)).toArray):=by
          have bf:(zeroValue e0).run P w=.ok zz w:=by simp [zeroValue,typeInfo,g1,g4]
          cases bg:ix.length-i with
          |zero=>omega
          |succ mm=>
           rw [bg] at ab
           simp only [xbw] at ab⊢
           simp [Builtin.clear_,run_underlying hu,bf,ab]
         refine⟨_,ao,fun v=>h.upd (u:=⟨none,none,[(o,.perm false e0 e2 t (ix.take i++List.replicate (ix.length-i) l.length) l)]⟩) (by simp) rfl (NxU.wrote h.mem hμ bo ⟨?_,hp.len,hp.top,fun b' au=>⟨(hp.low b' au).1,by simpa using(hp.low b' au).2⟩,hp.slc,fun j' x r hx hl=>?_,hp.apart⟩) (dst:=none) rfl (fun d hd=>by cases hd) (x:=v) (fun p hp=>by cases hp)⟩
         ·have ah:(ix.take i++List.replicate (ix.length-i) l.length).length=ix.length:=by
           simp only [xj,xw,xak]
           omega
          refine⟨by simp,.inr ⟨b0,c,_,by rw [ah],bc,setRow_heap w b0 cur _ e0 _ hh,by rw [ah];exact bd,be,?_,?_⟩⟩
          ·rw [ae]
           simp only [xbp,xj,xw,xap,xbf,xak,af]
           omega
          ·rw [ah,ae]
           have h1:=take_splice cur.toList (List.replicate (ix.length-i) (Value.slice none 0 0)) (i*1) (ix.length-i) ix.length (by simp) (by omega) (by simp [af];omega)
           simp only [xak,xbw] at h1⊢
           rw [h1,ad,xez,List.map_replicate]
           have hd:(ix.map fun i=>hs.getD i (.slice none 0 0)).drop (i+(ix.length-i))=[]:=xci (by simp;omega)
           rw [hd,xas,List.map_take]
           rw [bm]
         ·obtain⟨m1,xs,m2,m3⟩:=hp.row j' x r hx hl
          exact⟨m1,xs,ownsRow_same m2 fun b' au=>av b' fun e=>(m1 b' au).2 (by rw [e];rfl),m3.step fun b' _ bp=>⟨bp,av b' fun e=>by subst e;exact bp.2 _ _ hμ bo⟩⟩
     next=>cases hq
    next=>cases hq
   next=>cases hr
 ·cases hr
theorem rowsOp_ok[Tabs](hT:TabOK P tt){m:Bool}{o:Oper}{s s':St}(hN:∀d,o.dst=some d→N.has d)(h:Rel P X lo N w0 s a w μ){r:Tr St}(hr:rowsOp tt m o s=some r)(hq:r.ev=some s')
  {K:Act→World→Prop} {Q:Exit→Act→World→Prop} (hK:∀a' w' μ',Rel P X lo N w0 s' a' w' μ'→K a' w'):o.wp P a w K Q:=by
 unfold rowsOp at hr
 split at hr
 ·rename_i ty av vv ho hd
  have fin:(∃w' μ',(Instr.storeAt ty (a.eval av) (a.eval vv)).run P w=.ok () w'∧∀v,Rel P X lo N w0 s' (a.put none v) w' μ')→o.wp P a w K Q:=fun⟨w',μ',h1,h2⟩=>by
   unfold Oper.wp execOp
   simp only [ho,Sem.run_bind,h1,Result.andThen_ok,Sem.run_pure]
   exact hK _ w' μ' (by rw [hd];exact h2 _)
  split at hr
  next r' aa=>
   cases hr
   exact fin (rowsSet_ok hT h aa hq (opd_rel h.fr av) (opd_rel h.fr vv))
  next=>exact fin (rowsStore_ok hT h hr hq (opd_rel h.fr av) (opd_rel h.fr vv))
 ·rename_i ty n c d ho hd
  split at hr
  ·cases hr
   obtain⟨v,w',μ',h1,h2⟩:=rowsMake_ok hT h hq (hN d hd) (opd_rel h.fr n) (opd_rel h.fr c)
   unfold Oper.wp execOp
   simp only [ho,Sem.run_bind,h1,Result.andThen_ok,Sem.run_pure]
   exact hK _ w' μ' (by rw [hd];exact h2)
  ·cases hr
 ·rename_i ty n ps d ho hd
  split at hr
  ·cases hr
   obtain⟨v,w',μ',h1,h2⟩:=rowsBuild_ok hT h hq (hN d hd) (qs:=ps.map fun p=>(p.1,a.eval p.2)) (by simp) (fun j p hp=>by
    rw [xr] at hp
    cases hj:ps.toList[j]? with
    |none=>rw [hj] at hp;cases hp
    |some z=>
     rw [hj] at hp
     simp only [xy,xc] at hp
     subst hp
     exact⟨(z.1,a.eval z.2),by simp [←Array.getElem?_toList,hj],opd_rel h.fr z.2⟩)
   unfold Oper.wp execOp
   simp only [ho,Sem.run_bind,h1,Result.andThen_ok,Sem.run_pure]
   exact hK _ w' μ' (by rw [hd];exact h2)
  ·cases hr
 ·rename_i as ts d ho hd
  split at hr
  next x y ty af has ab=>
   have ae:ty=af∧∃v' w' μ',(Builtin.append_ #[ty,ty] o.type #[a.eval x,a.eval y]).run P w=.ok v' w'∧Rel P X lo N w0 s' (a.put (some d) v') w' μ':=by
    split at hr
    next ad=>
     have ad:=xe ad
     subst ad
     split at hr
     next r' aa=>
      cases hr
      exact⟨rfl,acut_ok hT h (hN d hd) aa hq (opd_rel h.fr x) (opd_rel h.fr y)⟩
     next=>exact rowsApp_ok (rt:=o.type) hT h (hN d hd) hr hq (opd_rel h.fr x) (opd_rel h.fr y)
    next=>exact rowsApp_ok (rt:=o.type) hT h (hN d hd) hr hq (opd_rel h.fr x) (opd_rel h.fr y)
   obtain⟨rfl,v',w',μ',h2,h3⟩:=ae
   have e1:as= #[x,y]:=by rw [←xav (xs:=as),has]
   have e2:ts= #[ty,ty]:=by rw [←xav (xs:=ts),ab]
   unfold Oper.wp execOp
   simp only [ho,e1,e2,resolve,invoke,builtin,Sem.run_bind,Sem.run_pure,Result.andThen_ok,xdp,xbm,xel,h2]
   exact hK _ w' μ' (by rw [hd];exact h3)
  next=>cases hr
 ·rename_i ty x hh d ho hd
  obtain⟨v',μ',h2,h3⟩:=atrunc_ok hT h (hN d hd) hr hq (opd_rel h.fr x) (opd_rel h.fr hh)
  unfold Oper.wp execOp
  simp only [ho,Sem.run_bind,h2,Result.andThen_ok,Sem.run_pure,xed,xy]
  exact hK _ w μ' (by rw [hd];exact h3)
 ·rename_i ty x ll d ho hd
  obtain⟨v',μ',h2,h3⟩:=asuf_ok hT h (hN d hd) hr hq (opd_rel h.fr x) (opd_rel h.fr ll)
  unfold Oper.wp execOp
  simp only [ho,Sem.run_bind,h2,Result.andThen_ok,Sem.run_pure,xed,xy]
  exact hK _ w μ' (by rw [hd];exact h3)
 ·rename_i as ts ho hd
  split at hr
  next x ty has ab=>
   obtain⟨w',h2,h3⟩:=aclear_ok (rt:=o.type) hT h hr hq (opd_rel h.fr x)
   have e1:as= #[x]:=by rw [←xav (xs:=as),has]
   have e2:ts= #[ty]:=by rw [←xav (xs:=ts),ab]
   unfold Oper.wp execOp
   simp only [ho,e1,e2,resolve,invoke,builtin,Sem.run_bind,Sem.run_pure,Result.andThen_ok,xdp,xbm,xel,h2]
   exact hK _ w' μ (by rw [hd];exact h3 _)
  next=>cases hr
 ·cases hr
theorem aop_ok[Tabs](hE:EnvOK P E)(hT:TabOK P tt){fz:Nat→List Nat}{o:Oper}{i:Nat}{s s':St}(hN:∀d,o.dst=some d→N.has d)(h:Rel P X lo N w0 s a w μ)(hq:(aop E tt fz o i s).ev=some s')
  {K:Act→World→Prop} {Q:Exit→Act→World→Prop} (hK:∀a' w' μ',Rel P X lo N w0 s' a' w' μ'→K a' w'):o.wp P a w K Q:=by
 obtain⟨μ1,h1⟩:=Rel.ahead (s0:=s) (fz i) h
 unfold aop at hq
 simp only at hq
 cases aa:(fz i).any (Nat.beq 140000000) with
 |true=>rw [aa] at hq;cases hq
 |false=>
 rw [aa] at hq
 simp only at hq
 split at hq
 next r hr=>exact rowsOp_ok hT hN h1 hr hq hK
 split at hq
 ·split at hq
  ·rename_i as ts d ho hd
   split at hq
   next x y ty ad has ab=>
    split at hq
    next ae=>
     subst ae
     have e1:as= #[x,y]:=by rw [←xav (xs:=as),has]
     have e2:ts= #[ty,ty]:=by rw [←xav (xs:=ts),ab]
     obtain⟨v',w',μ',h2,h3⟩:=aappend_ok (rt:=o.type) hT h1 (hN d hd) hq (opd_rel h1.fr x) (opd_rel h1.fr y)
     unfold Oper.wp execOp
     simp only [ho,e1,e2,resolve,invoke,builtin,Sem.run_bind,Sem.run_pure,Result.andThen_ok,xdp,xbm,xel,h2]
     exact hK _ w' μ' (by rw [hd];exact h3)
    next=>
     have e1:as= #[x,y]:=by rw [←xav (xs:=as),has]
     have e2:ts= #[ty,ad]:=by rw [←xav (xs:=ts),ab]
     obtain⟨v',w',μ',h2,h3⟩:=aappendZ_ok (rt:=o.type) hT h1 (hN d hd) hq (opd_rel h1.fr x) (opd_rel h1.fr y)
     unfold Oper.wp execOp
     simp only [ho,e1,e2,resolve,invoke,builtin,Sem.run_bind,Sem.run_pure,Result.andThen_ok,xdp,xbm,xel,h2]
     exact hK _ w' μ' (by rw [hd];exact h3)
   next=>cases hq
  ·cases hq
 ·rename_i af
  rw [Tr.ev_bind] at hq
  cases hu:(alu E tt (St.ahead s s (fz i)).g (opd (St.ahead s s (fz i)).slot) o).ev with
  |none=>rw [hu] at hq;cases hq
  |some u=>
   rw [hu] at hq
   simp only [xf,Tr.ev_l,xc] at hq
   subst hq
   obtain⟨k1,k2,k3,k4⟩:=alu_ok hE hT h1.mem (opd_rel h1.fr) af hu
   exact k4 K Q fun x w' ⟨μ',k5,k6⟩=>hK _ w' μ' (h1.updK k3 k1 k5 k2 hN k6)
theorem yielded_ok[Tabs]{s:St}(h:Rel P X lo N w0 s a w μ){ops:Array Oper}{j dj:Nat}(hj:(ops[j]?).bind (·.dst)=some dj)(hN:N.has dj){b:Bool}(hb:s.slot dj=.dat .bool b):yielded ops a.tmps j=some b∧a.tmps.getD dj undef=.bool b:=by
 have hr:=h.fr dj
 rw [hb] at hr
 have:=hr.bool
 have aa:dj<a.tmps.size:=by rw [h.sz.n];exact hN.2
 have ab:a.tmps[dj]? =some (.bool b):=by
  have e:a.tmps.getD dj undef=a.tmps[dj]:=by simp [aa]
  rw [e] at this
  rw [xaj aa,this]
 exact⟨by simp [yielded,hj,ab],this⟩
theorem yielded_skip[Tabs]{s:St}(h:Rel P X lo N w0 s a w μ){ops:Array Oper}{j dj:Nat}(hj:(ops[j]?).bind (·.dst)=some dj)(hb:s.slot dj=.skip):yielded ops a.tmps j=none:=by
 have hr:=h.fr dj
 rw [hb] at hr
 generalize hy:a.tmps.getD dj undef=y at hr
 cases hr
 unfold yielded
 rw [hj]
 cases hg:a.tmps[dj]? with
 |none=>simp [hg]
 |some v=>
  have:v=undef:=by rw [←hy,xl,hg];rfl
  subst this
  simp [hg]
  rfl
theorem aops_ok[Tabs](hE:EnvOK P E)(hT:TabOK P tt){fz:Nat→List Nat}{ops:Array Oper}(hN:∀ (j:Nat) (o:Oper) d,ops[j]? =some o→o.dst=some d→N.has d){Q:Exit→Act→World→Prop}:∀ {l:List Oper} {i:Nat} {s s':St} {a:Act} {w:World} {μ:Nat→Option MV},
  (∀j,l[j]? =ops[i+j]?)→Rel P X lo N w0 s a w μ→(aops E tt fz (fun j=>ops[j]?) l i s).ev=some s'→(∀a' w' μ',Rel P X lo N w0 s' a' w' μ'→Q .normal a' w')→wpList P ops Q l a w
 | [],i,s,s',a,w,μ,_,h,hq,hQ=>by
  simp only [aops,Tr.ev_l,xc] at hq
  subst hq
  exact hQ a w μ h
 |o::l,i,s,s',a,w,μ,hl,h,hq,hQ=>by
  have h0:ops[i]? =some o:=by simpa using(hl 0).symm
  have ae:∀j,l[j]? =ops[i+1+j]? :=fun j=>by have:=hl (j+1);simpa [xda,Nat.add_comm 1 j] using this
  have ah:=fun d hd=>hN i o d h0 hd
  simp only [aops] at hq
  refine wpList_step fun K hK=>?_
  have run:∀ {s1:St} {a:Act} {w:World} {μ:Nat→Option MV},Rel P X lo N w0 s1 a w μ→((aop E tt fz o i s1).bind (aops E tt fz (fun j=>ops[j]?) l (i+1))).ev=some s'→(∀a w,wpList P ops Q l a w→K a w)→o.wp P a w K Q:=by
   intro s1 a w μ h1 aa hK
   rw [Tr.ev_bind] at aa
   cases hs:(aop E tt fz o i s1).ev with
   |none=>rw [hs] at aa;cases aa
   |some s2=>
    rw [hs] at aa
    exact aop_ok hE hT ah h1 hs fun a' w' μ' h2=>hK _ _ (aops_ok hE hT hN ae h2 aa hQ)
  cases hg:o.guard with
  |none=>
   rw [hg] at hq
   simp only at hq
   simp only [Region.wanted,hg,if_true]
   exact run h hq hK
  |some gd=>
   obtain⟨j,want⟩:=gd
   rw [hg] at hq
   simp only at hq
   split at hq
   next dj ad=>
    have skip:∀ {s1:St} {a:Act},Rel P X lo N w0 s1 a w μ→(match o.dst with
      |some d=>aops E tt fz (fun j=>ops[j]?) l (i+1) {s1 with fr:=(d,.skip)::s1.fr}
      |none=>aops E tt fz (fun j=>ops[j]?) l (i+1) s1).ev=some s'→K (a.put o.dst undef) w:=by
     intro s1 a h1 aa
     cases hd:o.dst with
     |none=>rw [hd] at aa;exact hK _ _ (aops_ok hE hT hN ae (by simpa [Act.put] using h1) aa hQ)
     |some d=>rw [hd] at aa;exact hK _ _ (aops_ok hE hT hN ae (h1.put (ah d hd) .skip) aa hQ)
    split at hq
    next b hb=>
     have ai:N.has dj:=by
      cases af:ops[j]? with
      |none=>rw [af] at ad;cases ad
      |some oj=>rw [af] at ad;exact hN j oj dj af ad
     obtain⟨hy,hv⟩:=yielded_ok h ad ai hb
     simp only [Region.wanted,hg,hy]
     have ab:Rel P X lo N w0 {s with fr:=(dj,.dat .bool b)::s.fr} a w μ:=h.know (by rw [hv];exact rel_bool _)
     cases want<;>cases b
     ·simp only [Tr.ev_t,cond_false] at hq
      simp only [beq_self_eq_true,if_true]
      exact run ab hq hK
     ·simp only [Tr.ev_t,cond_true] at hq
      rw [if_neg (by simp)]
      refine skip (s1:= {s with fr:=(dj,.dat .bool true)::s.fr}) ab ?_
      cases hd:o.dst<;>rw [hd] at hq<;>exact hq
     ·simp only [Tr.ev_t,cond_false] at hq
      rw [if_neg (by simp)]
      refine skip (s1:= {s with fr:=(dj,.dat .bool false)::s.fr}) ab ?_
      cases hd:o.dst<;>rw [hd] at hq<;>exact hq
     ·simp only [Tr.ev_t,cond_true] at hq
      simp only [beq_self_eq_true,if_true]
      exact run ab hq hK
    next hb=>
     simp only [Region.wanted,hg,yielded_skip h ad hb]
     rw [if_neg (by simp)]
     refine skip h ?_
     cases hd:o.dst<;>rw [hd] at hq<;>exact hq
    next=>cases hq
   next=>cases hq
end
end Go.Proofs.YteiekijgoifhoaaGreatDoor
