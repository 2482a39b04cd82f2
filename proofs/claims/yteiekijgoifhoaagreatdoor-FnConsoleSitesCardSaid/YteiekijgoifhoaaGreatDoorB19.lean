/-
 Regions whose order is drawn: what is checked of the trace.
-/
import Derived.Test.YteiekijgoifhoaaGreatDoorB18
namespace Go.Proofs.YteiekijgoifhoaaGreatDoor
open Go.RowKit (Below)
theorem ancs_keep:∀ {l:List Oper} {acc:List (List Nat)} {i:Nat} {a:List Nat},nth acc i=some a→nth (ancs l acc) i=some a
 | [],_,_,_,h=>h
 |o::l,acc,i,a,h=>by
  rw [ancs]
  refine ancs_keep ?_
  rw [nth_eq] at h⊢
  have hi:=(xk.1 h).1
  rw [xab hi]
  exact h
theorem dd_mem{n:Nat}:∀ {l:List Nat} {m:Nat},n∈dd l m→n∈l
 | [],_,h=>h
 |x::l,m,h=>by
  unfold dd at h
  split at h
  ·exact xu _ (dd_mem h)
  ·rcases xam.1 h with e|h
   ·rw [e];exact xx
   ·exact xu _ (dd_mem h)
theorem ancs_spec:∀ {l:List Oper} {acc:List (List Nat)} {k:Nat} {o:Oper},nth l k=some o→(∀i o',nth l i=some o'→∀e∈edgesOf o',e<acc.length+i)→
  ∃a,nth (ancs l acc) (acc.length+k)=some a∧∀n∈a,n∈edgesOf o∨∃e∈edgesOf o,∃a',nth (ancs l acc) e=some a'∧n∈a'
 | [],_,_,_,h,_=>by simp [nth] at h
 |o'::l,acc,0,o,h,hb=>by
  simp only [nth,xc] at h
  subst h
  refine⟨dd (edgesOf o'++(edgesOf o').flatMap fun j=>(nth acc j).getD []) 0,?_,fun n hn=>?_⟩
  ·rw [ancs]
   refine ancs_keep ?_
   rw [nth_eq,xz (by omega)]
   simp
  ·rcases xq.1 (dd_mem hn) with h|h
   ·exact .inl h
   ·obtain⟨e,he,hn⟩:=xeb.1 h
    have aa:=hb 0 o' rfl e he
    rw [xbd] at aa
    refine .inr ⟨e,he,acc[e],?_,?_⟩
    ·rw [ancs]
     refine ancs_keep ?_
     rw [nth_eq,xab aa]
     exact xh aa
    ·rw [nth_eq,xh aa] at hn
     exact hn
 |o'::l,acc,k+1,o,h,hb=>by
  simp only [nth] at h
  have:=ancs_spec (l:=l) (acc:=acc++ [dd (edgesOf o'++(edgesOf o').flatMap fun j=>(nth acc j).getD []) 0]) (k:=k) h (fun i ab hi e he=>by
   have:=hb (i+1) ab hi e he
   simp only [xj,xep]
   omega)
  rw [ancs]
  simp only [xj,xep] at this
  rw [show acc.length+(k+1)=acc.length+1+k by omega]
  exact this
theorem looksOf_eq(ops:Array Oper)(o:Oper):looksOf ops.toList o=o.looksAt ops:=by
 unfold looksOf Oper.looksAt
 congr 1
 cases o.guard with
 |none=>rfl
 |some gd=>
  obtain⟨g,b⟩:=gd
  simp only [nth_eq]
  rw [Array.getElem?_toList]
def nmOf(ops:Array Oper)(us:List (LU×List Nat))(i:Nat):List Nat:=match ops[i]?,nth us i with
 |some o,some x=>effN ops.toList us o x
 |_,_=>[]
structure Plan(E:Env)(tt:Nat→TD)(ops:Array Oper)(p:Nat)(s0:FS)(us:List (LU×List Nat))(an:Nat→List Nat):Prop where
 le:p≤ops.size
 len:us.length=p
 step:∀k o x,ops[k]? =some o→nth us k=some x→∃b,Step1 E tt (fun j=>ops[j]?) o (foldS s0 us (fun _=>true) k) x b
 back:∀i o,ops[i]? =some o→∀e∈edgesOf o,e<i
 chain:∀i o,ops[i]? =some o→p<i→i-1∈edgesOf o
 sink:p<ops.size→∀i,i<p→∃j o,i<j∧j≤p∧ops[j]? =some o∧i∈edgesOf o
 anc:∀i o,ops[i]? =some o→∀n∈an i,n∈edgesOf o∨∃e∈edgesOf o,n∈an e
 pair:∀i j oi oj x y,i<j→ops[i]? =some oi→ops[j]? =some oj→nth us i=some x→nth us j=some y→i∈an j∨
  (∀t∈x.1.touch,t∉oj.looksAt ops∧t∉y.1.touch)∧(∀t∈y.1.touch,t∉oi.looksAt ops)∧(∀n∈x.1.ids,n∉nmOf ops us j∧n∉y.1.ids)∧∀n∈y.1.ids,n∉nmOf ops us i
 app:∀k x b,nth us k=some x→x.1.und=some b→∀o∈x.1.ids,(∀t,t≠b→cl2 o (s0.1 t)=true∨∃m z,m∈an k∧nth us m=some z∧z.1.und=some t∧z.1.d≠none)∧(∀q y,q≠o→s0.2 q=some y→clOb o y=true)∧
  ∀n y,nth us n=some y→n≠k→k∉an n→(∀q,y.1.d=some q→cl2 o q.2=true∨q.1=b∨∃m z,n<m∧m∈an k∧nth us m=some z∧z.1.und=some q.1∧z.1.d≠none)∧∀q∈y.1.objs,q.1=o∨clOb o q.2=true
theorem nmOf_spec{ops:Array Oper}{us:List (LU×List Nat)}{i:Nat}{o:Oper}{x:LU×List Nat}(ho:ops[i]? =some o)(hx:nth us i=some x):
  nmOf ops us i=x.2∨isMove o=true∨lenOp o=true∧∀n∈x.2,∀k y ok,nth us k=some y→ops[k]? =some ok→n∈y.1.ids→isStore ok=true:=by
 unfold nmOf
 rw [ho,hx]
 simp only
 unfold effN
 split
 next h=>exact .inr (.inl h)
 split
 next h=>
  simp only [xg,xp,xaq] at h
  refine .inr<|.inr ⟨h.1,fun n hn k y ok hy ab ad=>?_⟩
  have hk:k<us.length:=by rw [nth_eq] at hy;exact(xk.1 hy).1
  have:=h.2 n hn k hk
  have aa:nth ops.toList k=some ok:=by rw [nth_eq];simpa using ab
  rw [hy,aa] at this
  simp only [xbl,xat] at this
  rcases this with h1|h1
  ·rw [has_iff.2 ad] at h1;cases h1
  ·exact h1
 next=>exact .inl rfl
theorem foldS_len{E:Env}{tt:Nat→TD}{ops:Array Oper}{s0:FS}{us:List (LU×List Nat)}(aa:∀k o x,ops[k]? =some o→nth us k=some x→∃b,Step1 E tt (fun j=>ops[j]?) o (foldS s0 us (fun _=>true) k) x b)(ae:∀k x,nth us k=some x→∃o,ops[k]? =some o)
  {n:Nat} (hn:∀k y ok,nth us k=some y→ops[k]? =some ok→n∈y.1.ids→isStore ok=true) (sel:Nat→Bool):∀m,LenEq (s0.2 n) ((foldS s0 us sel m).2 n):=by
 have obj:∀k x,nth us k=some x→LenEq (s0.2 n) ((foldS s0 us (fun _=>true) k).2 n)→∀y,look x.1.objs n=some y→LenEq (s0.2 n) (some y):=fun k x hx hl y hy=>by
  obtain⟨o,ho⟩:=ae k x hx
  obtain⟨b,h⟩:=aa k o x ho hx
  cases b with
  |false=>
   have:=h.skip rfl
   rw [this] at hy
   cases hy
  |true=>
   obtain⟨c,ab,_⟩:=h.run rfl
   have aa:=hn k x o hx ho (look_ids.1 ⟨y,hy⟩)
   cases c with
   |false=>exact hl.trans (alu_store aa ab n y hy)
   |true=>
    rcases aluD_true ab with⟨_,_,_,_,ad,_⟩|⟨_,_,ad,_⟩<;>unfold isStore at aa<;>rw [ad] at aa<;>cases aa
 have step:∀ {g:Nat→Option Ob} {x:LU×List Nat},LenEq (s0.2 n) (g n)→(∀y,look x.1.objs n=some y→LenEq (s0.2 n) (some y))→LenEq (s0.2 n) (gA g x.1 n):=fun{g x} h1 h2=>by
  unfold gA
  cases hl:look x.1.objs n with
  |none=>exact h1
  |some y=>exact h2 y hl
 have full:∀m,LenEq (s0.2 n) ((foldS s0 us (fun _=>true) m).2 n):=by
  intro m
  induction m with
  |zero=>exact .inl rfl
  |succ m ih=>
   simp only [foldS]
   cases hx:nth us m with
   |none=>exact ih
   |some x=>exact step ih (obj m x hx ih)
 intro m
 induction m with
 |zero=>exact .inl rfl
 |succ m ih=>
  simp only [foldS]
  cases hx:nth us m with
  |none=>exact ih
  |some x=>
   simp only
   split
   ·exact step ih (obj m x hx (full m))
   ·exact ih
theorem chainAt_spec{ops:List Oper}{p:Nat}(h:chainAt ops p=true):(∀i o,nth ops i=some o→p<i→i-1∈edgesOf o)∧(p≠ops.length→∀i,i<p→∃j o,i<j∧j≤p∧nth ops j=some o∧i∈edgesOf o):=by
 simp only [chainAt,xg,xp,xaq,xbl] at h
 obtain⟨h1,h2⟩:=h
 constructor
 ·intro i o ho hp
  have hi:i<ops.length:=by
   rw [nth_eq] at ho
   exact(xk.1 ho).1
  have:=h1 i hi
  rw [ho] at this
  simp only [xbl,xat,xbi] at this
  rcases this with h|⟨e,he,aa⟩
  ·have:Nat.blt p i=true:=by simpa [xfx] using hp
   rw [this] at h
   cases h
  ·rw [xe aa];exact he
 ·intro ab i hi
  rcases h2 with h|h
  ·exact absurd (xe h) ab
  ·obtain⟨j,hj,hh⟩:=xbi.1 (h i hi)
   simp only [xg,xfx] at hh
   obtain⟨ad,hh⟩:=hh
   split at hh
   next o ho=>
    obtain⟨e,he,aa⟩:=xbi.1 hh
    exact⟨j,o,ad,by have:=xaq.1 hj;omega,ho,by rw [xe aa];exact he⟩
   next=>cases hh
theorem findP_spec{f:Nat→Bool}:∀ {n i:Nat},i≤findP f n i∧findP f n i≤i+n∧(findP f n i=i+n∨f (findP f n i)=true)
 |0,i=>⟨xm _,xm _,.inl rfl⟩
 |n+1,i=>by
  simp only [findP]
  split
  next h=>exact⟨xm _,by omega,.inr h⟩
  next=>
   obtain⟨h1,h2,h3⟩:=findP_spec (f:=f) (n:=n) (i:=i+1)
   exact⟨by omega,by omega,h3.imp (by omega) id⟩
theorem chainAt_all(ops:List Oper):chainAt ops ops.length=true:=by
 simp only [chainAt,xg,xp,xaq,xbl]
 refine⟨fun i hi=>?_,.inl (xea _)⟩
 split
 ·have:Nat.blt ops.length i=false:=by
   cases hb:Nat.blt ops.length i with
   |true=>rw [xfx] at hb;omega
   |false=>rfl
  rw [this]
  rfl
 ·rfl
theorem drawP_spec(ops:List Oper):drawP ops≤ops.length∧chainAt ops (drawP ops)=true:=by
 obtain⟨h1,h2,h3⟩:=findP_spec (f:=chainAt ops) (n:=ops.length) (i:=0)
 unfold drawP
 refine⟨by omega,h3.elim (fun h=>?_) id⟩
 rw [h,xbg]
 exact chainAt_all ops
theorem plan_of{E:Env}{tt:Nat→TD}{ops:Array Oper}{ds:Nat→Bool}{s s1:St}{us:List (LU×List Nat)}(ht:(atrace E tt (fun j=>ops[j]?) ds (ops.toList.take (drawP ops.toList)) s []).ev=some (s1,us))
  (hc:drawChk ops.toList (drawP ops.toList) s us=true):Plan E tt ops (drawP ops.toList) (s.slot,s.g) us (fun i=>(nth (ancs ops.toList []) i).getD [])∧(s1.slot,s1.g)=foldS (s.slot,s.g) us (fun _=>true) (drawP ops.toList):=by
 obtain⟨bm,h1,h2,h3,h4⟩:=atrace_spec ht
 simp only [xbu] at h1
 subst h1
 obtain⟨ai,az⟩:=drawP_spec ops.toList
 have hlen:us.length=drawP ops.toList:=by rw [h2,xw];omega
 have ba:(ops.toList.take (drawP ops.toList)).length=drawP ops.toList:=by rw [xw];omega
 rw [ba] at h4
 obtain⟨bc,bd⟩:=chainAt_spec az
 have aa:∀i,nth ops.toList i=ops[i]? :=fun i=>by rw [nth_eq];simp
 simp only [drawChk,xg,xp,xaq] at hc
 obtain⟨⟨c1,c3⟩,c4⟩:=hc
 have ad:∀i o,ops[i]? =some o→∀e∈edgesOf o,e<i:=fun i o ho e he=>by
  simp only [backOK,xp,xaq] at c1
  have hi:i<ops.toList.length:=by
   have:=(xau.1 ho).1
   simpa using this
  have:=c1 i hi
  rw [aa,ho] at this
  simp only [xp,xfx] at this
  exact this e he
 have ae:∀ {k x},nth us k=some x→k<drawP ops.toList:=fun{k x} h=>by
  rw [nth_eq] at h
  rw [←hlen]
  exact(xk.1 h).1
 have ab:∀ {l:List Nat} {n:Nat},has l n=true↔n∈l:=has_iff
 have aj:∀ {m z c},nth us m=some z→z.1.und=some c→z.1.d≠none:=fun{m z c} hz hc hd=>by
  have al:=ae hz
  obtain⟨om,be⟩:∃om,ops[m]? =some om:=⟨_,xaj (by simpa using xan al ai)⟩
  obtain⟨bb,ao⟩:=h3 m om z (by rw [nth_eq,xbc,if_pos al];simpa using be) hz
  cases bb with
  |false=>
   have:=ao.skip rfl
   rw [this] at hc
   cases hc
  |true=>
   obtain⟨cc,ah,_⟩:=ao.run rfl
   cases cc with
   |false=>exact alu_und ah hc hd
   |true=>
    rcases aluD_true ah with⟨_,_,_,_,_,_,_,_,e⟩|⟨_,_,_,_,e⟩
    ·rw [e] at hc
     cases hc
    ·rw [e] at hd
     cases hd
 refine⟨⟨by simpa using ai,hlen,fun k o x ho hx=>h3 k o x ?_ hx,ad,fun i o ho hp=>bc i o (by rw [aa];exact ho) hp,fun hp i hi=>?_,fun i o ho n hn=>?_,fun i j oi oj x y bf au av hx hy=>?_,fun k x b hx hu o ho=>?_⟩,h4⟩
 ·have hk:=ae hx
  rw [nth_eq,xbc,if_pos hk]
  simpa using ho
 ·obtain⟨j,o,h5,h6,h7,h8⟩:=bd (by simp;omega) i hi
  exact⟨j,o,h5,h6,by rw [←aa];exact h7,h8⟩
 ·obtain⟨a,k1,k2⟩:=ancs_spec (l:=ops.toList) (acc:=[]) (k:=i) (o:=o) (by rw [aa];exact ho) fun i' o' aw e he=>by
   rw [aa] at aw
   simpa using ad i' o' aw e he
  simp only [xai,xbg] at k1
  rw [k1,xax] at hn
  rcases k2 n hn with h|⟨e,he,a',bg,bh⟩
  ·exact .inl h
  ·exact .inr ⟨e,he,by rw [bg];exact bh⟩
 ·have hj:=ae hy
  have:=c3 j hj i bf
  unfold pairOK at this
  rw [aa,aa,au,av,hx,hy] at this
  have bj:nmOf ops us i=effN ops.toList us oi x:=by unfold nmOf;rw [au,hx]
  have bk:nmOf ops us j=effN ops.toList us oj y:=by unfold nmOf;rw [av,hy]
  rw [bj,bk]
  cases ha:nth (ancs ops.toList []) j with
  |none=>rw [ha] at this;cases this
  |some a=>
   rw [ha] at this
   simp only [xbl,apart,xg,looksOf_eq] at this
   rcases this with h|⟨⟨⟨k1,k2⟩,k3⟩,k4⟩
   ·exact .inl (ab.1 h)
   ·refine .inr ⟨fun t ht=>?_,disj_iff.1 k2,fun n hn=>?_,disj_iff.1 k4⟩
    ·have:=disj_iff.1 k1 t ht
     exact⟨fun h=>this (xag _ h),fun h=>this (xal _ h)⟩
    ·have:=disj_iff.1 k3 n hn
     exact⟨fun h=>this (xag _ h),fun h=>this (xal _ h)⟩
 ·have hk:=ae hx
  have:=c4 k hk
  rw [hx] at this
  simp only [appOK,hu,xp,xg,xbl] at this
  obtain⟨⟨k1,k2⟩,k3⟩:=this o ho
  refine⟨fun t ht=>?_,fun q y hq hy=>?_,fun n y hy bl ay=>?_⟩
  ·simp only [St.slot]
   cases hl:look s.fr t with
   |none=>exact .inl rfl
   |some v=>
    rcases k1 _ (look_mem hl) with(h|h)|h
    ·exact absurd (xe h) ht
    ·exact .inl h
    ·refine .inr ?_
     unfold takenBy at h
     split at h
     next ak af=>
      obtain⟨m,hm,hh⟩:=xbi.1 h
      simp only [xg] at hh
      obtain⟨h8,h9⟩:=hh
      split at h9
      next z hz=>
       split at h9
       next c hc=>exact⟨m,z,by rw [af,xax];exact ab.1 h8,hz,by rw [hc,xe h9],aj hz hc⟩
       next=>cases h9
      next=>cases h9
     next=>cases h
  ·rcases k2 _ (look_mem hy) with h|h
   ·exact absurd (xe h) hq
   ·exact h
  ·have hn:=ae hy
   have:=k3 n (xaq.2 (by rw [hlen];exact hn))
   rw [hy] at this
   cases ha:nth (ancs ops.toList []) n with
   |none=>rw [ha] at this;simp at this
   |some a=>
    cases af:nth (ancs ops.toList []) k with
    |none=>rw [ha,af] at this;simp at this
    |some ak=>
     rw [ha,af] at this
     simp only [xbl,xg,xp] at this
     rw [ha,xax] at ay
     rcases this with(h|h)|⟨h5,h6⟩
     ·exact absurd (xe h) bl
     ·exact absurd (ab.1 h) ay
     ·refine⟨fun q hq=>?_,fun q hq=>(h6 q hq).imp xe id⟩
      rw [hq] at h5
      simp only [xbl] at h5
      rcases h5 with(h|h)|h
      ·exact .inl h
      ·exact .inr (.inl (xe h))
      ·obtain⟨m,hm,hh⟩:=xbi.1 h
       simp only [xg,xfx] at hh
       obtain⟨⟨h7,h8⟩,h9⟩:=hh
       split at h9
       next z hz=>
        split at h9
        next c hc=>
         refine .inr (.inr ⟨m,z,h7,?_,hz,by rw [hc,xe h9],?_⟩)
         ·simp only [af,xax]
          exact ab.1 h8
         ·exact aj hz hc
        next=>cases h9
       next=>cases h9
where
 alu_und {E:Env} {tt:Nat→TD} {g:Nat→Option Ob} {f:Operand→AV} {o:Oper} {u:LU} (h:(alu E tt g f o).ev=some u) {c:Nat} (hc:u.und=some c) (hd:u.d=none):False:=by
  unfold alu at h
  split at h
  ·unfold astore at h
   split at h
   ·split at h
    ·split at h
     ·simp only [Tr.ev_l,xc] at h
      subst h
      cases hc
     ·cases h
    ·cases h
   ·split at h
    ·split at h
     ·split at h
      ·obtain⟨_,h⟩:=ev_g h
       simp only [Tr.ev_l,xc] at h
       subst h
       cases hc
      ·cases h
     ·cases h
    ·split at h
     ·split at h
      ·split at h
       ·obtain⟨_,h⟩:=ev_g h
        simp only [Tr.ev_l,xc] at h
        subst h
        cases hc
       ·cases h
      ·cases h
     ·cases h
    ·split at h
     ·split at h
      ·obtain⟨_,h⟩:=ev_g h
       simp only [Tr.ev_l,xc] at h
       subst h
       cases hc
      ·cases h
     ·cases h
    ·cases h
   ·split at h
    ·split at h
     ·split at h
      ·obtain⟨_,h⟩:=ev_g h
       simp only [Tr.ev_l,xc] at h
       subst h
       cases hc
      ·cases h
     ·cases h
    ·cases h
   ·cases h
  ·split at h
   ·split at h
    ·split at h
     ·unfold aappendR at h
      split at h
      ·split at h
       ·split at h
        ·obtain⟨_,h⟩:=ev_g h
         simp only [Tr.ev_l,xc] at h
         subst h
         cases hd
        ·cases h
       ·cases h
      ·cases h
     unfold aappendL at h
     split at h
     ·split at h
      ·split at h
       ·split at h
        ·split at h
         ·split at h
          ·obtain⟨_,h⟩:=ev_g h
           simp only [Tr.ev_l,xc] at h
           subst h
           cases hd
          ·cases h
         ·cases h
        ·cases h
       ·cases h
      ·cases h
     ·cases h
    ·cases h
   ·cases h
  ·rw [Tr.ev_bind] at h
   obtain⟨q,_,h⟩:=xcy.1 h
   split at h
   ·simp only [Tr.ev_l,xc] at h
    subst h
    cases hd
   ·cases h
  ·rw [Tr.ev_bind] at h
   obtain⟨q,_,h⟩:=xcy.1 h
   split at h
   ·simp only [Tr.ev_l,xc] at h
    subst h
    cases hd
   ·cases h
  ·cases h
end Go.Proofs.YteiekijgoifhoaaGreatDoor
