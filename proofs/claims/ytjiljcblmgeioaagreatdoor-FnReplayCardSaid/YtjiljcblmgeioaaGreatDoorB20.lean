/- A part of the proof that FnReplay hands back true, at every argument of the row. -/
import Derived.Test.YtjiljcblmgeioaaGreatDoorB34
import Derived.Lib.AppendZeros
import Derived.Orders
namespace Go.Proofs.YtjiljcblmgeioaaGreatDoor
set_option linter.all false
section
open Go.RowKit (Below)
section
variable {P:Program}{tt:Nat->TD}{w:World}{lo:Nat->Prop}{N:Par}{μ:Nat->Option MV}{S:Nat->Prop}{X:Nat->Prop}{g:Nat->Option Ob}{a:Act}{E:Env}{w0:World}
theorem Ip[Tabs]{s:St}(h:Rel P X lo N w0 s a w μ){d e e2:Nat}{t:Ty}(hg:s.g d=none):
  Rel P X lo N w0 {fr:=s.fr,ob:=(d,.rows e e2 t [] none)::s.ob} a w (again μ d ⟨.slice none 0 0,[],[]⟩):=by
 have aa:μ d=none:=by
  cases hm:μ d with
  |none=>rfl
  |some mv=>obtain⟨y,hy,_⟩:=h.mem.ob d mv hm;rw[hg]at hy;cases hy
 have hS:∀b,b<w.heap.size->SS X μ b->SS X (again μ d ⟨.slice none 0 0,[],[]⟩) b:=λb _ hs=>⟨hs.1,λq mv hq hb=>by
  rcases aP hq with⟨_,rfl⟩|⟨_,hq⟩
  ·cases hb
  ·exact hs.2 q mv hq hb⟩
 have hμ:∀q mv,μ q=some mv->again μ d ⟨.slice none 0 0,[],[]⟩ q=some mv:=λq mv hq=>iS (λe=>by rw[e,aa]at hq;cases hq) hq;refine⟨⟨h.mem.hX,h.mem.hlo,λq mv hq=>?_,λp q ab ad b h1 h2 h3 h4=>?_,h.mem.tab⟩,λj=>(h.fr j).step hμ h.mem.hlo (λb hb hs=>⟨hS b hb hs,rfl⟩) λ_ _=>rfl,h.bel,h.df,h.sz⟩
 ·rcases aP hq with⟨rfl,rfl⟩|⟨ae,hq⟩
  ·refine⟨.rows e e2 t [] none,by simp[St.g,aM],⟨World.ownsRow_nil _ 0 e 1,λb hb=>(by simp[aD]at hb),λb hb=>(by cases hb),λx hx=>(by cases hx),λj x r _ hx=>(by simp at hx),λj k x y b _ _ hx=>(by simp at hx)⟩,λi d hd=>by cases hd⟩
  ·obtain⟨y,hy,af⟩:=h.mem.ob q mv hq;refine⟨y,?_,af.step h.mem.hlo hμ (λb hb hs=>⟨hS b hb hs,rfl⟩) (λ_ _=>rfl) λ_ _=>rfl⟩;simp only[St.g,aM,aZ (xB ae)];exact hy
 ·rcases aP h1 with⟨_,rfl⟩|⟨_,k1⟩
  ·cases h3
  ·rcases aP h2 with⟨_,rfl⟩|⟨_,k2⟩
   ·cases h4
   ·exact h.mem.dis p q ab ad b k1 k2 h3 h4
theorem Vl[Tabs](hT:aW P tt){s:St}(h:Rel P X lo N w0 s a w μ){d o q p ty rt e e2 eq e3 b:Nat}{te t t':Ty}{l:List (List t.I)}{l':List (List t'.I)}(be:N.has d)(bf:tt ty=.sl e te b)(ar:te.size=1)(hb0:0<b)
  (bg:s.g o=some (.rows e e2 t l none)) (bh:s.g q=some (.rows eq e3 t' l' (some (0,some p)))) (ba:l'.length=1) (bj:o≠q) (bk:o≠p) (bl:p≠q) (hle:(l.length+1)*b<=140737488355328) {va x:Value} (ha:RelV P w lo μ (SS X μ) (.arr o) va) (hx:RelV P w lo μ (SS X μ) (.arr q) x):
  ∃v' w' μ',(Builtin.append_ #[ty,ty] rt #[va,x]).run P w=.ok v' w'/\Rel P X lo N w0 (CM s d o q p e e2 t l) (a.put (some d) v') w' μ':=by
 have hd:=hT ty;rw[bf]at hd;obtain⟨hu,⟨i,z,hi,hs,bm,hz,bn⟩,_⟩:=hd;have bo:z.cells.size=te.size:=by simpa using eU bn
 cases ha with
 | @arr _ _ a0 n0 c0 rs ab hμ=>
 cases hx with
 | @arr _ _ a1 n1 c1 rq bb bp=>
 obtain⟨y,hy,au⟩:=h.mem.ob _ _ hμ;rw[bg]at hy;cases hy;obtain⟨hr,_⟩:=au;obtain⟨y,hy,au⟩:=h.mem.ob _ _ bp;rw[bh]at hy;cases hy;obtain⟨ak,br⟩:=au;obtain⟨x0,rp,bs,k1,k2⟩:=br 0 p rfl;have aw:=ak.len;rw[ba]at aw;simp only at aw k1;have af:bb=[x0]:=by
  match bb,aw with
  | [y],_=>simp at k1;rw[k1]
 have bt:x0.oneCell'=true:=by obtain⟨a2,n2,c2,rfl⟩:=ak.slc x0 (by rw[af];simp);rfl
 have ae:=hr.own;have aa:=ak.own;simp only at ae aa;rw[ba,af]at aa;rcases aa.2 with⟨_,e0⟩|⟨bq,cf,cg,bu,_,ch,_,_,_,_⟩
 ·cases e0
 cases bu;rw[<-ar]at ae;obtain⟨v',w',m1,m2,m3,m4,m5,m6,m7,m8,av,nv,cv,bc⟩:=hC (rt:=rt) (c:=c1) (ax:=some ⟨bq,0,none⟩) (m:=1) hu hi hs bm hz bo ae (news:=[x0]) (by simp[ar]) (λe=>by cases e)
  (λad e j u hu=>by cases e;exact aa.cells (g:=bq) rfl j u hu) (λu hu=>by simp at hu;subst hu;exact bt) hle hb0
 rw[ar]at m2 ae
 -- the rows q cj ay
 have h1:Rel P X lo N w0 (s.swap q .undef []) a w (bJ μ q):=h.swap λmv _=>.undef;have al:bJ μ q o=some ⟨.slice a0 n0 c0,rs,ab⟩:=kP bj hμ;have hlen:=hr.len;simp only at hlen;have ao:∀k,aD v'=some k->k∈rs\/w.heap.size<=k:=λk hk=>(m8 k hk).imp (λh=>hr.top k h) id;have az:Kept lo w w':=⟨m3,m4,m5,m6,λk hk=>m7 k (h.mem.hlo k hk) λe=>(hr.low k (hr.top k e)).1 hk⟩
 have ah:∀k,k∈(aD v').toList++rs->k∈rs\/w.heap.size<=k:=λk hk=>by
  rcases xp.1 hk with hk|hk;·exact ao k (by simpa using hk)
  ·exact .inl hk
 have ai:∀k,k<w.heap.size->SS X (bJ μ q) k->SS X (again (bJ μ q) o ⟨v',(aD v').toList++rs,ab++ [x0]⟩) k/\w'.heap[k]? =w.heap[k]? :=λk hk hS=>⟨⟨hS.1,λp' mv hp bd=>by
  rcases aP hp with⟨rfl,rfl⟩|⟨_,hp⟩
  ·rcases ah k bd with h'|h';·exact hS.2 _ _ al h'
   ·omega
  ·exact hS.2 p' mv hp bd⟩,m7 k hk λe=>hS.2 o _ al (hr.top k e)⟩
 have bw:∀{j:Nat} {y:Value} {r:List t.I},ab[j]? =some y->l[j]? =some r->∀k,aD y=some k->k∈rs/\aD (.slice a0 n0 c0)≠some k:=λ{j y r} hy hq k hk=>(hr.row j y r (λi k hk=>by cases hk) hy hq).1 k hk;have bz:NxA P X lo (bJ μ q) w o (.rows e e2 t (l++ [[]]) (some (l.length,some p))) w' ⟨v',(aD v').toList++rs,ab++ [x0]⟩:=by
  refine⟨az,ai,⟨⟨?_,λk hk=>D1 _ (by simp[show aD v'=some k from hk]),λk hk=>?_,λy hy=>?_,λj y r hj hy hq=>?_,λj k y z kb hj hk hy hz h3 h4=>?_⟩,λi' d' ca=>?_⟩,λk hk=>?_,λk hk hn=>?_⟩;·rw[xj];exact m2
  ·rcases ah k hk with h'|h';·exact⟨(hr.low k h').1,yF (hr.low k h').2 m6⟩
   ·refine⟨λhl=>by have:=h.mem.hlo k hl;omega,?_⟩;have aj:aD v'=some k:=by
     rcases xp.1 hk with hk|hk;·simpa using hk
     ·have:=(hr.low k hk).2;omega
    rcases m2.2 with⟨e1,_⟩|⟨gb,cap,cur,e1,_,hh,_⟩
    ·rw[e1]at aj;simp[aD]at aj
    ·rw[e1]at aj;simp only[aD,xe]at aj;subst aj;exact(xba.1 hh).1
  ·rcases xp.1 hy with hy|hy;·exact hr.slc y hy
   ·simp at hy;subst hy;exact ak.slc y (by rw[af];simp)
  ·have ck:j≠l.length:=hj _ _ rfl;have cm:j<l.length:=by have:=(xq.1 hq).1;simp at this;omega
   rw[y7 (by omega)]at hy hq;obtain⟨z1,ys,z2,z3⟩:=hr.row j y r (λi k hk=>by cases hk) hy hq;refine⟨λk hk=>⟨Bt _ (z1 k hk).1,λcb=>?_⟩,ys,aY z2 λk hk=>m7 k (hr.low k (z1 k hk).1).2 (z1 k hk).2,z3.step λk hk hs=>ai k hk (kU hs)⟩;rcases m8 k cb with h'|h';·exact(z1 k hk).2 h'
   ·have:=(hr.low k (z1 k hk).1).2;omega
  ·have hb:∀{j:Nat} {y:Value},dU (some (l.length,some p)) j->(ab++ [x0])[j]? =some y->j<ab.length:=λ{j y} hj hy=>by have:=(xq.1 hy).1;have:=hj l.length (some p) rfl;simp at*;omega
   have cc:=hb hj hy;have cd:=hb hk hz;simp only at hy hz;rw[y7 cc]at hy;rw[y7 cd]at hz;exact hr.apart j k y z kb (λi k hk=>by cases hk) (λi k hk=>by cases hk) hy hz h3 h4
  ·cases ca;refine⟨x0,rp,bs,?_,iS (xB bk) (kP bl k2)⟩;simp only;rw[<-hlen,C6 (xm _)];simp
  ·rcases ah k hk with h'|h';·exact .inl ⟨_,al,h'⟩
   ·exact .inr h'
  ·exact m7 k hk λe=>hn _ al (hr.top k e)
 have h2:=h1.appd bz;have h3:=h2.put (d:=d) be (v:=.arr o) (x:=v') (by rw[bc];exact .arr (rs:=(aD v').toList++rs) (hs:=ab++ [x0]) (by rw[cD,bc]));obtain⟨μ',h4⟩:=h3.backR ⟨_,cD⟩ p;exact⟨v',w',μ',m1,h4⟩
theorem Rel.give[Tabs]{s:St}(h:Rel P X lo N w0 s a w μ){o q e e2:Nat}{t:Ty}{l:List (List t.I)}(ak:o≠q)(af:s.g o=some (.rows e e2 t l none)):Rel P X lo N w0 (s.swap q .undef []) a w (eV μ o q):=by
 have hS:∀b,b<w.heap.size->SS X μ b->SS X (eV μ o q) b:=λb _ hs=>⟨hs.1,λp mv hp hb=>by obtain⟨p0,mv0,h1,h2,_⟩:=kW hp hb;exact hs.2 p0 mv0 h1 h2⟩
 have hμ:∀p mv,p≠q->μ p=some mv->∃rs hs,eV μ o q p=some ⟨mv.v,rs,hs⟩/\Ext mv.hs hs:=λp mv ab hp=>by
  unfold eV;rw[qh ab];split
  next e=>subst e;rw[hp];exact⟨_,_,rfl,Ext.refl _⟩
  next=>exact⟨mv.rs,mv.hs,hp,Ext.refl _⟩
 refine⟨⟨h.mem.hX,h.mem.hlo,λp mv hp=>?_,λp p' mv mv' b h1 h2 h3 h4=>?_,h.mem.tab⟩,λi=>?_,h.bel,h.df,h.sz⟩
 ·obtain⟨ab,ah⟩:=iB hp;have aa:∀{x:Ob},s.g p=some x->(s.swap q .undef []).g p=some (fW q .undef x):=λ{x} hx=>by simp only[St.g,St.swap,J8,bZ];rw[dC q s.ob p ab];simp only[St.g]at hx;rw[hx];rfl
  rcases ah with⟨rfl,mv0,h0,rfl⟩|⟨al,h0⟩
  ·obtain⟨x,hx,ad⟩:=h.mem.ob p mv0 h0;rw[af]at hx;cases hx;obtain⟨hr,_⟩:=ad;refine⟨.rows e e2 t l none,aa af,⟨hr.own,λb hb=>D1 _ (hr.top b hb),λb hb=>?_,hr.slc,λj y r hj hy hq=>?_,hr.apart⟩,λi d hd=>by cases hd⟩
   ·rcases xp.1 hb with hb|hb;·exact hr.low b hb
    ·cases hq:μ q with
     |none=>rw[hq]at hb;simp at hb
     |some ai=>
      rw[hq]at hb;have hb:b∈ai.rs:=by simpa using hb
      exact h.mem.lt hq hb
   ·obtain⟨z1,ys,z2,z3⟩:=hr.row j y r hj hy hq;exact⟨λb hb=>⟨D1 _ (z1 b hb).1,(z1 b hb).2⟩,ys,z2,z3.step λb hb hs=>⟨hS b hb hs,rfl⟩⟩
  ·obtain⟨x,hx,ad⟩:=h.mem.ob p mv h0;exact⟨fW q .undef x,aa hx,nJ h.mem.hlo hμ (λ_ _=>.undef) hS ad⟩
 ·obtain⟨p0,mv0,a1,a2,a3⟩:=kW h1 h3;obtain⟨p1,aj,b1,b2,b3⟩:=kW h2 h4;have ae:=h.mem.dis p0 p1 mv0 aj b a1 b1 a2 b2;have n1:=(iB h1).1;have n2:=(iB h2).1;rcases a3 with rfl|⟨e1,e2⟩<;>rcases b3 with rfl|⟨f1,f2⟩
  ·exact ae
  ·exact absurd (ae.trans f1) n1
  ·exact absurd (ae.symm.trans e1) n2
  ·rw[e2,f2]
 ·simp only[St.slot,St.swap,bZ];have:=qJ (d:=.undef) h.mem.hlo hμ (λ_ _=>.undef) hS (h.fr i);simp only[St.slot]at this;cases hl:aM s.fr i with|none=>exact .undef|some v=>rw[hl]at this;exact this
theorem Gk[Tabs](hT:aW P tt){s:St}(h:Rel P X lo N w0 s a w μ){d o q ty rt e e2 b:Nat}{te t:Ty}{l l2:List (List t.I)}(bo:N.has d)(bp:tt ty=.sl e te b)(ba:te.size=1)(hb0:0<b)
  (br:s.g o=some (.rows e e2 t l none)) (bg:s.g q=some (.rows e e2 t l2 none)) (bb:o≠q) (hle:(l.length+l2.length)*b<=140737488355328) {va x:Value} (ha:RelV P w lo μ (SS X μ) (.arr o) va) (hx:RelV P w lo μ (SS X μ) (.arr q) x):
  ∃v' w' μ',(Builtin.append_ #[ty,ty] rt #[va,x]).run P w=.ok v' w'/\Rel P X lo N w0 (Ni s d o q e e2 t (l++l2)) (a.put (some d) v') w' μ':=by
 have hd:=hT ty;rw[bp]at hd;obtain⟨hu,⟨i,z,hi,hs,bs,hz,bt⟩,_⟩:=hd;have bu:z.cells.size=te.size:=by simpa using eU bt
 cases ha with
 | @arr _ _ a0 n0 c0 rs ak hμ=>
 cases hx with
 | @arr _ _ a1 n1 c1 rq ae bc=>
 obtain⟨y,hy,bd⟩:=h.mem.ob _ _ hμ;rw[br]at hy;cases hy;obtain⟨hr,_⟩:=bd;obtain⟨y,hy,bd⟩:=h.mem.ob _ _ bc;rw[bg]at hy;cases hy;obtain⟨aa,_⟩:=bd;have bh:=aa.len;have hlen:=hr.len;simp only at bh hlen;have ai:=hr.own;have ab:=aa.own;simp only at ai ab;rw[<-ba]at ai;have bw:n1=l2.length:=by
  rcases ab.2 with⟨e0,e1⟩|⟨bq,ay,az,al,_⟩
  ·cases e0;exact e1.symm
  ·cases al;rfl
 subst bw;have bj:∀u∈ae,u.oneCell'=true:=λu hu=>by obtain⟨a2,n2,c2,rfl⟩:=aa.slc u hu;rfl
 obtain⟨v',w',m1,m2,m3,m4,m5,m6,m7,m8,av,nv,cv,bk⟩:=hC (rt:=rt) (c:=c1) (ax:=a1) (m:=l2.length) hu hi hs bs hz bu ai (news:=ae) (by rw[ba,bh];omega) (λe=>by
   subst e;rcases ab.2 with⟨_,e1⟩|⟨bq,ay,az,al,_⟩
   ·exact e1
   ·cases al)
  (λad e j u hu=>by
   subst e;rcases ab.2 with⟨e0,_⟩|⟨bq,ay,az,al,_⟩
   ·cases e0
   ·cases al;exact ab.cells (g:=bq) rfl j u hu) bj hle hb0
 rw[ba]at m2 ai
 -- the rows q go cc
 have h1:=h.give (xB bb) bg;have au:eV μ q o q=some ⟨.slice a1 l2.length c1,rq++rs,ae⟩:=by unfold eV;rw[qh (xB bb),qi rfl,hμ,bc];rfl
 have aw:∀{k},k∈rs->k∈rq->False:=λ{k} k1 k2=>bb (h.mem.dis o q _ _ k hμ bc k1 k2);have aj:∀k,aD v'=some k->k∈rs\/w.heap.size<=k:=λk hk=>(m8 k hk).imp (λh=>hr.top k h) id;have be:Kept lo w w':=⟨m3,m4,m5,m6,λk hk=>m7 k (h.mem.hlo k hk) λe=>(hr.low k (hr.top k e)).1 hk⟩
 have ao:∀k,k∈(aD v').toList++(rq++rs)->k∈rq++rs\/w.heap.size<=k:=λk hk=>by
  rcases xp.1 hk with hk|hk;·exact(aj k (by simpa using hk)).imp (λh=>Bt _ h) id
  ·exact .inl hk
 have bl:∀k,SS X μ k->SS X (eV μ q o) k:=λk hs=>⟨hs.1,λp mv hp hb=>by obtain⟨p0,mv0,h1,h2,_⟩:=kW hp hb;exact hs.2 p0 mv0 h1 h2⟩
 have ah:∀k,k<w.heap.size->SS X (eV μ q o) k->SS X (again (eV μ q o) q ⟨v',(aD v').toList++(rq++rs),ak++ae⟩) k/\w'.heap[k]? =w.heap[k]? :=λk hk hS=>⟨⟨hS.1,λp' mv hp bm=>by
  rcases aP hp with⟨rfl,rfl⟩|⟨_,hp⟩
  ·rcases ao k bm with h'|h';·exact hS.2 _ _ au h'
   ·omega
  ·exact hS.2 p' mv hp bm⟩,m7 k hk λe=>hS.2 q _ au (Bt _ (hr.top k e))⟩
 have af:∀j,dU none j:=λj i k hk=>by cases hk
 have bz:NxA P X lo (eV μ q o) w q (.rows e e2 t (l++l2) none) w' ⟨v',(aD v').toList++(rq++rs),ak++ae⟩:=by
  refine⟨be,ah,⟨⟨?_,λk hk=>D1 _ (by simp[show aD v'=some k from hk]),λk hk=>?_,λy hy=>?_,λj y r hj hy hq=>?_,λj k y z kb hj hk hy hz h3 h4=>?_⟩,λi' d' ca=>by cases ca⟩,λk hk=>?_,λk hk hn=>?_⟩;·rw[xj];exact m2
  ·rcases ao k hk with h'|h'
   ·rcases xp.1 h' with h'|h';·exact⟨(aa.low k h').1,yF (aa.low k h').2 m6⟩
    ·exact⟨(hr.low k h').1,yF (hr.low k h').2 m6⟩
   ·refine⟨λhl=>by have:=h.mem.hlo k hl;omega,?_⟩;have ar:aD v'=some k:=by
     rcases xp.1 hk with hk|hk;·simpa using hk
     ·rcases xp.1 hk with hk|hk;·have:=(aa.low k hk).2;omega
      ·have:=(hr.low k hk).2;omega
    rcases m2.2 with⟨e1,_⟩|⟨gb,cap,cur,e1,_,hh,_⟩
    ·rw[e1]at ar;simp[aD]at ar
    ·rw[e1]at ar;simp only[aD,xe]at ar;subst ar;exact(xba.1 hh).1
  ·rcases xp.1 hy with hy|hy;·exact hr.slc y hy
   ·exact aa.slc y hy
  ·by_cases bn:j<l.length
   ·simp only at hy;rw[y7 (by omega)]at hy hq;obtain⟨z1,ys,z2,z3⟩:=hr.row j y r (af j) hy hq;refine⟨λk hk=>⟨Bt _ (Bt _ (z1 k hk).1),λbf=>?_⟩,ys,aY z2 λk hk=>m7 k (hr.low k (z1 k hk).1).2 (z1 k hk).2,z3.step λk hk hs=>ah k hk (bl k hs)⟩;rcases m8 k bf with h'|h';·exact(z1 k hk).2 h'
    ·have:=(hr.low k (z1 k hk).1).2;omega
   ·simp only at hy;rw[C6 (by omega)]at hy hq;rw[hlen]at hy;obtain⟨z1,ys,z2,z3⟩:=aa.row (j-l.length) y r (af _) hy hq;have cb:∀k,k∈rq->aD (.slice a0 n0 c0)≠some k:=λk hk e=>aw (hr.top k e) hk;refine⟨λk hk=>⟨Bt _ (D1 _ (z1 k hk).1),λbf=>?_⟩,ys,aY z2 λk hk=>m7 k (aa.low k (z1 k hk).1).2 (cb k (z1 k hk).1),z3.step λk hk hs=>ah k hk (bl k hs)⟩;rcases aj k bf with h'|h';·exact aw h' (z1 k hk).1
    ·have:=(aa.low k (z1 k hk).1).2;omega
  ·simp only at hy hz;have side:∀{j:Nat} {y:Value} {kb:Nat},(ak++ae)[j]? =some y->aD y=some kb->(j<l.length/\ak[j]? =some y/\kb∈rs)\/(l.length<=j/\ae[j-l.length]? =some y/\kb∈rq):=λ{j y kb} hy h3=>by
    by_cases bn:j<l.length;·rw[y7 (by omega)]at hy;obtain⟨z1,_⟩:=hr.row j y (l[j]) (af j) hy (by simp);exact .inl ⟨bn,hy,(z1 kb h3).1⟩
    ·rw[C6 (by omega),hlen]at hy;have cd:j-l.length<l2.length:=by have:=(xq.1 hy).1;omega
     obtain⟨z1,_⟩:=aa.row (j-l.length) y (l2[j-l.length]) (af _) hy (by simp);exact .inr ⟨by omega,hy,(z1 kb h3).1⟩
   rcases side hy h3 with⟨s1,s2,s3⟩|⟨s1,s2,s3⟩<;>rcases side hz h4 with⟨t1,t2,t3⟩|⟨t1,t2,t3⟩
   ·exact hr.apart j k y z kb (af j) (af k) s2 t2 h3 h4
   ·exact(aw s3 t3).elim
   ·exact(aw t3 s3).elim
   ·have:=aa.apart _ _ y z kb (af _) (af _) s2 t2 h3 h4;omega
  ·rcases ao k hk with h'|h';·exact .inl ⟨_,au,h'⟩
   ·exact .inr h'
  ·exact m7 k hk λe=>hn _ au (Bt _ (hr.top k e))
 have h2:=h1.appd bz;have h3:=h2.put (d:=d) bo (v:=.arr q) (x:=v') (by rw[bk];exact .arr (rs:=(aD v').toList++(rq++rs)) (hs:=ak++ae) (by rw[cD,bk]));exact⟨v',w',_,m1,h3⟩
theorem l6[Tabs](hT:aW P tt){s s':St}(h:Rel P X lo N w0 s a w μ){d ty af rt:Nat}(ah:N.has d){xv yv:AV}{r:Tr St}(hr:yS tt ty af d xv yv s=some r)(hq:r.ev=some s'){va x:Value}(ha:RelV P w lo μ (SS X μ) xv va)(hx:RelV P w lo μ (SS X μ) yv x):
  ty=af/\∃v' w' μ',(Builtin.append_ #[ty,ty] rt #[va,x]).run P w=.ok v' w'/\Rel P X lo N w0 s' (a.put (some d) v') w' μ':=by
 unfold yS at hr;split at hr
 ·rename_i q
  split at hr
  next eq e4 t' lq hh ai=>
   split at hr
   next p=>
    split at hr
    next r0=>
     simp only[xe]at hr;subst hr;split at hq
     next e te b o aa=>
       split at hq
       next e1 e2 t l ab=>
         split at hq
         next hc=>
           obtain⟨rfl,rfl,rfl,c4,c5,c6,c7,c8⟩:=hc;obtain⟨hle,hq⟩:=ev_g hq;simp only[qe]at hle;simp only[qq,xe]at hq;subst hq;exact⟨rfl,Vl hT h ah aa c4 c5 ab ai rfl c6 c7 c8 hle ha hx⟩
         next=>cases hq
       next=>cases hq
     next=>cases hq
    next=>cases hr
   next=>
    split at hr
    next e te b o aa=>
      split at hr
      next e1 e2 t l ab=>
        simp only[xe]at hr;subst hr;split at hq
        next l2 ad=>
          obtain⟨et,ae⟩:=Ty.cast_spec ad;cases et;have ae:l2=lq:=ae;subst ae;split at hq
          next hc=>
            obtain⟨rfl,rfl,rfl,rfl,c5,c6,c7⟩:=hc;obtain⟨hle,hq⟩:=ev_g hq;simp only[qe]at hle;simp only[qq,xe]at hq;subst hq;exact⟨rfl,Gk hT h ah aa c5 c6 ab ai c7 hle ha hx⟩
          next=>cases hq
        next=>cases hq
      next=>cases hr
    next=>cases hr
   next=>cases hr
  next=>cases hr
 ·cases hr
end
end
section
open Go.RowKit (Below)
section
variable {P:Program}{tt:Nat->TD}{w:World}{lo:Nat->Prop}{N:Par}{μ:Nat->Option MV}{S:Nat->Prop}{X:Nat->Prop}{g:Nat->Option Ob}{a:Act}{E:Env}{w0:World}
theorem y6[Tabs](hT:aW P tt)(hm:Mem P X lo g μ w){ty rt e b:Nat}{t:Ty}(he:tt ty=.sl e t b){o:Nat}{l src:List t.I}(hg:g o=some (.arr e t l))(hb0:0<b)(hle:(l.length+src.length)*b<=140737488355328)
  {xv:AV} (al:oB g t xv=some src) {va x:Value} (ha:RelV P w lo μ (SS X μ) (.arr o) va) (hx:RelV P w lo μ (SS X μ) xv x):
  ∃v' w' mv',(Builtin.append_ #[ty,ty] rt #[va,x]).run P w=.ok v' w'/\NxA P X lo μ w o (.arr e t (l++src)) w' mv'/\RelV P w' lo (again μ o mv') (SS X (again μ o mv')) (.arr o) v':=by
 have hd:=hT ty;rw[he]at hd;obtain⟨hu,⟨i,z,hi,hs,av,hz,aw⟩,_⟩:=hd;have ay:z.cells.size=t.size:=by simpa using eU aw
 obtain⟨ax,c,news,rfl,ah,az,ai⟩:=uP hm al hx;have ba:=ah.len;cases ha with
 | @arr _ _ a0 n0 c0 rs _ hμ=>
  obtain⟨y,hy,bb⟩:=hm.ob _ _ hμ;rw[hg]at hy;cases hy;obtain⟨⟨bc,aj⟩,ao,xs,af,ar⟩:=bb;simp only at aj ao af;obtain⟨v',w',h1,h2,h3,h4,h5,h6,h7,h8,a',n',c',au⟩:=hC (rt:=rt) (c:=c) hu hi hs av hz ay af (m:=src.length) (by rw[ba]) az ai ah.one hle hb0;have aa:∀k,aD v'=some k->(∃mv0,μ o=some mv0/\k∈mv0.rs)\/w.heap.size<=k:=λk hk=>(h8 k hk).imp (λh=>⟨_,hμ,by rw[aj,h];simp⟩) id;have ab:∀k,k<w.heap.size->(∀mv0,μ o=some mv0->k∉mv0.rs)->w'.heap[k]? =w.heap[k]? :=λk hk hn=>h7 k hk λe=>hn _ hμ (by rw[aj,e];simp);have ad:∀k,k<w.heap.size->SS X μ k->SS X (again μ o ⟨v',(aD v').toList,[]⟩) k/\w'.heap[k]? =w.heap[k]? :=λk hk hS=>⟨⟨hS.1,λp mv hp ae=>by
   rcases aP hp with⟨rfl,rfl⟩|⟨_,hp⟩
   ·have ae:aD v'=some k:=by simpa using ae
    rcases aa k ae with⟨mv0,e1,e2⟩|h;·exact hS.2 _ mv0 e1 e2
    ·omega
   ·exact hS.2 p mv hp ae⟩,ab k hk λmv0 h=>hS.2 o mv0 h⟩
  have ak:Kept lo w w':=⟨h3,h4,h5,h6,λk hk=>ab k (hm.hlo k hk) λmv0 h ae=>(hm.lt h ae).1 hk⟩
  refine⟨v',w',⟨v',(aD v').toList,[]⟩,h1,⟨ak,ad,⟨⟨rfl,rfl⟩,λk hk hl=>?_,xs++news,?_,?_⟩,λk hk=>aa k (by simpa using hk),ab⟩,?_⟩
  ·rcases aa k hk with⟨mv0,e1,e2⟩|h;·exact(hm.lt e1 e2).1 hl
   ·have:=hm.hlo k hl;omega
  ·rw[xj];exact h2
  ·exact(ar.step λk hk hS=>ad k hk hS).append (ah.step λk hk hS=>ad k hk hS)
  ·rw[au];exact .arr (rs:=(aD v').toList) (by rw[cD,au])
theorem append_nil[Tabs](hT:aW P tt)(hm:Mem P X lo g μ w){ty rt e b d:Nat}{t:Ty}(he:tt ty=.sl e t b){src:List t.I}(aw:g d=none)(hb0:0<b)(hle:src.length*b<=140737488355328)
  {xv:AV} (ao:oB g t xv=some src) {va x:Value} (ha:RelV P w lo μ (SS X μ) .nilsl va) (hx:RelV P w lo μ (SS X μ) xv x):
  ∃v' w' μ',(Builtin.append_ #[ty,ty] rt #[va,x]).run P w=.ok v' w'/\NxU P X lo g μ w [(d,.arr e t src)] [] w' μ'/\RelV P w' lo μ' (SS X μ') (.arr d) v':=by
 have hd:=hT ty;rw[he]at hd;obtain⟨hu,⟨i,z,hi,hs,ay,hz,az⟩,_⟩:=hd;have ba:z.cells.size=t.size:=by simpa using eU az
 obtain⟨ax,c,news,rfl,ak,bb,al⟩:=uP hm ao hx;have bc:=ak.len;cases ha;have bd:μ d=none:=by
  cases be:μ d with
  |none=>rfl
  |some mv=>obtain⟨y,hy,_⟩:=hm.ob d mv be;rw[aw]at hy;cases hy
 obtain⟨v',w',h1,h2,h3,h4,h5,h6,h7,h8,a',n',c',ar⟩:=hC (rt:=rt) (c:=c) hu hi hs ay hz ba (World.ownsRow_nil w 0 e t.size) (m:=src.length) (by rw[bc]) bb al ak.one (by simpa using hle) hb0;have ab:∀k,aD v'=some k->w.heap.size<=k:=λk hk=>(h8 k hk).elim (λh=>by simp[aD]at h) id;have aa:∀k,k<w.heap.size->w'.heap[k]? =w.heap[k]? :=λk hk=>h7 k hk (by simp[aD]);have ad:Kept lo w w':=⟨h3,h4,h5,h6,λk hk=>aa k (hm.hlo k hk)⟩
 have ae:∀k,k<w.heap.size->SS X μ k->SS X (again μ d ⟨v',(aD v').toList,[]⟩) k/\w'.heap[k]? =w.heap[k]? :=λk hk hS=>⟨⟨hS.1,λp mv hp af=>by
  rcases aP hp with⟨rfl,rfl⟩|⟨_,hp⟩
  ·have af:aD v'=some k:=by simpa using af
   have:=ab k af;omega
  ·exact hS.2 p mv hp af⟩,aa k hk⟩
 have au:∀p mv,μ p=some mv->again μ d ⟨v',(aD v').toList,[]⟩ p=some mv:=λp mv hp=>iS (λe=>by rw[e,bd]at hp;cases hp) hp;refine⟨v',w',again μ d ⟨v',(aD v').toList,[]⟩,h1,⟨⟨λp mv hp=>⟨mv.rs,mv.hs,au p mv hp,λ_=>Ext.refl _⟩,λ_ _ hk=>(by cases hk)⟩,λp mv hp=>?_,λp mv k hp hk=>?_,ad,λk hk _=>aa k hk,λg' k1 k2=>⟨hm.hX,λb hb=>yF (hm.hlo b hb) h6,λp mv hp=>?_,λp q bg bh k hp hq ah ai=>?_,hm.tab.step ad.block⟩⟩,?_⟩
 ·rcases aP hp with⟨rfl,rfl⟩|⟨_,hp⟩
  ·exact .inr ⟨_,xu,rfl⟩
  ·exact .inl ⟨mv,hp⟩
 ·rcases aP hp with⟨rfl,rfl⟩|⟨_,hp⟩
  ·exact .inl (ab k (by simpa using hk))
  ·exact .inr ⟨p,mv,hp,hk⟩
 ·rcases aP hp with⟨rfl,rfl⟩|⟨av,hp⟩
  ·refine⟨_,k1 (p,.arr e t src) (by simp),⟨rfl,rfl⟩,λk hk hl=>?_,news,?_,ak.step λk hk hS=>ae k hk hS⟩;·have:=ab k hk;have:=hm.hlo k hl;omega
   ·simpa using h2
  ·obtain⟨y,hy,bf⟩:=hm.ob p mv hp;have aj:∀q∈ [(d,Ob.arr e t src)],q.1≠p:=λq hq e=>by simp only[xo]at hq;subst hq;exact av e.symm
   exact⟨y,by rw[k2 p mv hp aj,hy];rfl,bf.step hm.hlo au ae ad.block λk hk=>aa k (hm.lt hp hk).2⟩
 ·rcases aP hp with⟨e1,e2⟩|⟨av,z1⟩<;>rcases aP hq with⟨e3,e4⟩|⟨aj,z2⟩
  ·rw[e1,e3]
  ·rw[e2]at ah;have:=ab k (by simpa using ah);have:=(hm.lt z2 ai).2;omega
  ·rw[e4]at ai;have:=ab k (by simpa using ai);have:=(hm.lt z1 ah).2;omega
  ·exact hm.dis _ _ _ _ k z1 z2 ah ai
 ·rw[ar];exact .arr (rs:=(aD v').toList) (by rw[cD,ar])
theorem Lp[Tabs](hT:aW P tt){s s':St}(h:Rel P X lo N w0 s a w μ){d ty rt:Nat}(ab:N.has d){av xv:AV}(hq:(W7 tt d ty av xv s).ev=some s'){va x:Value}(ha:RelV P w lo μ (SS X μ) av va)(hx:RelV P w lo μ (SS X μ) xv x):
  ∃v' w' μ',(Builtin.append_ #[ty,ty] rt #[va,x]).run P w=.ok v' w'/\Rel P X lo N w0 s' (a.put (some d) v') w' μ':=by
 unfold W7 at hq;split at hq
 ·rename_i p i
  rw[Tr.ev_bind]at hq;obtain⟨u,hu,hq⟩:=xdq.1 hq;simp only[qq,xe]at hq;subst hq;obtain⟨k1,k2,k3,_,v',w',μ',k4,k5,k6⟩:=xG (rt:=rt) hT h.mem hu ha hx;exact⟨v',w',μ',k4,h.upd k3 k1 k5 k2 (λd' ad=>by cases ad;exact ab) k6⟩
 split at hq
 ·rename_i e t b he
  split at hq
  next src aa=>
   split at hq
   ·rename_i o _
    split at hq
    next e' t' l hg=>
     split at hq
     next l' ae=>
      obtain⟨et,af⟩:=Ty.cast_spec ae;cases et;have af:l'=l:=af;subst af;split at hq
      next ai=>
       obtain⟨rfl,hb0⟩:=ai;obtain⟨hle,hq⟩:=ev_g hq;simp only[qe]at hle;simp only[qq,xe]at hq;subst hq;obtain⟨v',w',mv',h1,h2,h3⟩:=y6 (rt:=rt) hT h.mem he hg hb0 hle aa ha hx;refine⟨v',w',again μ o mv',h1,?_⟩;have ah:=h.appd h2;exact ah.put ab h3
      next=>cases hq
     next=>cases hq
    next=>cases hq
   ·split at hq
    next hg=>
     split at hq
     next hb0=>
      obtain⟨hle,hq⟩:=ev_g hq;simp only[qe]at hle;simp only[qq,xe]at hq;subst hq;obtain⟨v',w',μ',h1,h2,h3⟩:=append_nil (rt:=rt) hT h.mem he hg hb0 hle aa ha hx;exact⟨v',w',μ',h1,h.upd (u:=⟨some (d,.arr d),none,[(d,.arr e t src)]⟩) (by simp) rfl h2 rfl (λd' ad=>by cases ad;exact ab) λp hp=>by cases hp;exact h3⟩
     next=>cases hq
    next=>cases hq
   ·cases hq
  next=>cases hq
 ·cases hq
theorem sN{g:Nat->Option Ob}{l:List (Nat×Ob)}(h:jD g l=true):(∀p∈l,g p.1=none)/\(l.map (·.1)).Nodup:=by
 simp only[jD,xf,xt,qe]at h;refine⟨λp hp=>?_,h.2⟩;have:=h.1 p hp;split at this;·assumption
 ·cases this
theorem Dr[Tabs](hm:Mem P X lo g μ w){o:Nat}(h:g o=none):μ o=none:=by
 cases hμ:μ o with
 |none=>rfl
 |some mv=>obtain⟨y,hy,_⟩:=hm.ob _ mv hμ;rw[h]at hy;cases hy
theorem Uo[Tabs]{ρ:List Nat}{d:Nat}{res:List AV×List (Nat×Ob)}(hn:ρ.Nodup)(af:Cs ρ.length res=true)(hf:jD g (eW ρ d res).1.2=true)(hρ:∀o∈ρ,∃x,g o=some x):
  (((eW ρ d res).1.2++(eW ρ d res).2).map (·.1)).Nodup:=by
 obtain⟨h1,h2⟩:=sN hf;simp only[Cs,xf,xt,qe]at af;obtain⟨⟨⟨ah,ai⟩,_⟩,_⟩:=af;have ad:∀q∈res.2,64<=q.1->∃o,aQ ρ (q.1-64)=some o/\rn ρ d q.1=o:=λq hq hge=>by
  have hl:=(ah q hq).1;have hx:aQ ρ (q.1-64)=some (ρ[q.1-64]'(by omega)):=by rw[aA];simp
  exact⟨_,hx,by unfold rn;rw[qh (by omega),hx];rfl⟩
 rw[xdu];refine List.nodup_append.2 ⟨h2,?_,λo ho p hp e=>?_⟩
 ·have:∀l:List (Nat×Ob),(∀q∈l,q∈res.2/\64<=q.1)->(l.map (·.1)).Nodup->((l.map λp=>(rn ρ d p.1,tW ρ d p.2)).map (·.1)).Nodup:=by
   intro l;induction l with
   |nil=>intro _ _;exact xfh
   |cons q l ih=>
    intro hl ae;simp only[M8,xfr]at ae⊢;refine⟨λab=>?_,ih (λq hq=>hl q (xr _ hq)) ae.2⟩;rw[List.map_map]at ab;obtain⟨q',aa,e⟩:=xaf.1 ab;obtain⟨o1,k1,k2⟩:=ad q (hl q (xu)).1 (hl q (xu)).2;obtain⟨o2,k3,k4⟩:=ad q' (hl q' (xr _ aa)).1 (hl q' (xr _ aa)).2;simp only[Function.comp_apply]at e;rw[k2,k4]at e;subst e;have e1:=lC (k:=64) hn k1;have e2:=lC (k:=64) hn k3;rw[e1]at e2;have:=(hl q (xu)).2;have:=(hl q' (xr _ aa)).2;have e3:q.1=q'.1:=by have:64+(q.1-64)=64+(q'.1-64):=zB e2;omega
    exact ae.1 (by rw[e3];exact xde aa)
  simp only[eW];refine this _ (λq hq=>?_) ?_;·obtain⟨k1,k2⟩:=xak.1 hq;exact⟨k1,by simpa using k2⟩
  ·exact List.Sublist.nodup (List.Sublist.map _ List.filter_sublist) ai
 ·subst e;obtain⟨q,hq,rfl⟩:=xaf.1 ho;obtain⟨q',aa,e⟩:=xaf.1 hp;obtain⟨q2,aj,rfl⟩:=xaf.1 aa;obtain⟨k1,k2⟩:=xak.1 aj;obtain⟨o,k3,k4⟩:=ad q2 k1 (by simpa using k2);simp only at e;rw[k4]at e;rw[aA]at k3;obtain⟨x,hx⟩:=hρ o (xz k3);have:=h1 q hq;rw[<-e,hx]at this;cases this
theorem Pr[Tabs]{d:Nat}{h:AV}{args:List AV}{q:QR×List (Nat×Ob)}(hq:(pK E g d h args).ev=some q)(hf:jD g q.1.2=true):((q.1.2++q.2).map (·.1)).Nodup:=by
 unfold pK at hq;split at hq
 ·split at hq
  next ρ hρ=>
   split at hq
   next aa=>
    simp only[xf,qe,xt]at aa;split at hq
    next cr ae=>
     simp only[qn]at hq;cases ab:cr.x with
     |none=>rw[ab]at hq;cases hq
     |some r=>rw[ab]at hq;simp only[xc]at hq;rw[Tr.ev_bind,cr.spok r,xc]at hq;obtain⟨ad,hq⟩:=ev_g hq;simp only[qq,xe]at hq;subst hq;simp only[xf]at ad;refine Uo aa.1.2 ad.1 hf λo ho=>?_;have:=aa.2 o ho;unfold B6 at this;split at this<;>first|exact⟨_,by assumption⟩|cases this
    next=>cases hq
   next=>cases hq
  next=>cases hq
 ·split at hq
  next=>
   split at hq
   next=>
    simp only[qn]at hq;obtain⟨y,_,hq⟩:=xdq.1 hq;simp only[qq,xe]at hq;subst hq;exact xfh
   next=>cases hq
  next=>cases hq
 ·cases hq
theorem R2{g:Nat->Option Ob}{l:List (Nat×Ob)}(h:∀p∈l,g p.1=none):cT g l=[]:=by unfold cT;rw[xfs,List.filter_eq_nil_iff];intro p hp;unfold uY;rw[h p hp];split<;>simp
theorem AM[Tabs](hE:jG P E)(hT:aW P tt)(hm:Mem P X lo g μ w){f:Operand->AV}(hf:∀x,RelV P w lo μ (SS X μ) (f x) (a.eval x)){o:Oper}(ab:fJ o=false){u:LU}(h:(vF E tt g f o).ev=some u):
  u.und=none/\o.dst=u.d.map (·.1)/\(u.objs.map (·.1)).Nodup/\QOK P o a w (λx w'=>∃μ',NxU P X lo g μ w u.objs (cT g u.objs) w' μ'/\∀p,u.d=some p->RelV P w' lo μ' (SS X μ') p.2 x):=by
 unfold vF at h;split at h
 ·rename_i ty av vv ho hd
  obtain⟨w',h1,h2,ad,h3,h4,h5⟩:=Pn hT hm h (hf av) (hf vv);refine⟨h4,by rw[hd,h3];rfl,h5,?_⟩;intro K Q hK;unfold Oper.wp execOp;simp only[ho,Sem.run_bind,h1,Result.andThen_ok,Sem.run_pure];exact hK _ w' ⟨μ,by rw[ad];exact h2,λp hp=>by rw[h3]at hp;cases hp⟩
 ·rename_i ho _
  unfold fJ at ab;rw[ho]at ab;cases ab
 ·rename_i H as ts d ho hd
  rw[Tr.ev_bind]at h;cases hq:(pK E g d (f H) (as.toList.map f)).ev with
  |none=>rw[hq]at h;cases h
  |some q=>
   rw[hq]at h;simp only[xc]at h;split at h
   next aa=>
    simp only[qq,xe]at h;subst h;obtain⟨h1,h2⟩:=sN aa;obtain⟨_,h3⟩:=pZ a hf as;refine⟨rfl,by rw[hd];rfl,Pr hq aa,?_⟩;have:=DN hE hm hq (λp hp=>Dr hm (h1 p hp)) ho rfl (hf H) (by simp) h3;exact λK Q hK=>this K Q λx w' ⟨μ',k1,k2⟩=>hK x w' ⟨μ',k1,λp hp=>by cases hp;exact k2⟩
   next=>cases h
 ·rename_i d hd _ _
  rw[Tr.ev_bind]at h;cases hq:(aq tt g f o).ev with
  |none=>rw[hq]at h;cases h
  |some q=>
   rw[hq]at h;simp only[xc]at h;split at h
   next aa=>
    simp only[qq,xe]at h;subst h;obtain⟨h1,h2⟩:=sN aa;refine⟨rfl,by rw[hd];rfl,h2,?_⟩;have hμ:∀p∈q.2,μ p.1=none:=λp hp=>Dr hm (h1 p hp);have:=aKa hT hm hf hq hμ;exact λK Q hK=>this K Q λx w' hx=>by obtain⟨μ',k1,k2⟩:=NxU.of hm hμ hx;exact hK x w' ⟨μ',by rw[R2 h1];exact k1,λp hp=>by cases hp;exact k2⟩
   next=>cases h
 ·cases h
theorem LQ[Tabs](hE:jG P E)(hT:aW P tt)(hm:Mem P X lo g μ w){f:Operand->AV}(hf:∀x,RelV P w lo μ (SS X μ) (f x) (a.eval x)){o:Oper}(aa:fJ o=false){c:Bool}{u:LU}(h:(wM E tt g f o c).ev=some u):
  (u.und=none\/∃b d,o.op=.move (.tmp b)/\o.dst=some d/\u=⟨some (d,f (.tmp b)),some b,[]⟩)/\o.dst=u.d.map (·.1)/\(u.objs.map (·.1)).Nodup/\QOK P o a w (λx w'=>∃μ',NxU P X lo g μ w u.objs (cT g u.objs) w' μ'/\∀p,u.d=some p->RelV P w' lo μ' (SS X μ') p.2 x):=by
 cases c with
 |false=>obtain⟨h1,h2,h3,h4⟩:=AM hE hT hm hf aa h;exact⟨.inl h1,h2,h3,h4⟩
 |true=>
  simp only[wM]at h;split at h
  next ty n ps d ho hd=>
   rw[Tr.ev_bind]at h;cases hq:(qU tt ty n (ps.toList.map λp=>(p.1,f p.2))).ev with
   |none=>rw[hq]at h;cases h
   |some v=>rw[hq]at h;simp only[xc,qq,xe]at h;subst h;obtain⟨h1,h2⟩:=wA a hf ps;obtain⟨x,w',h3,h4⟩:=Iv hT hm hq h1 h2;refine⟨.inl rfl,by rw[hd];rfl,xfh,?_⟩;have:QOK P o a w (Nx P X lo g μ w (v,[])):=QOK.val (by simp only[execOp,ho,Sem.run_bind,h3,Result.andThen_ok,Sem.run_pure]) h4;exact λK Q hK=>this K Q λx w' hx=>by obtain⟨μ',k1,k2⟩:=NxU.of hm (λp hp=>by cases hp) hx;exact hK x w' ⟨μ',k1,λp hp=>by cases hp;exact k2⟩
  next b d ho hd=>
   simp only[qq,xe]at h;subst h;refine⟨.inr ⟨b,d,ho,hd,rfl⟩,by rw[hd];rfl,xfh,?_⟩;have:QOK P o a w (Nx P X lo g μ w (f (.tmp b),[])):=QOK.val (x:=a.eval (.tmp b)) (by simp[execOp,ho]) (Nx.pure hm (hf (.tmp b)));exact λK Q hK=>this K Q λx w' hx=>by obtain⟨μ',k1,k2⟩:=NxU.of hm (λp hp=>by cases hp) hx;exact hK x w' ⟨μ',k1,λp hp=>by cases hp;exact k2⟩
  next=>cases h
theorem Vp[Tabs](hT:aW P tt){s s':St}(h:Rel P X lo N w0 s a w μ){ty d:Nat}(ak:N.has d){xv hv:AV}{r:Tr St}(hr:Lr tt ty xv hv d s=some r)(hq:r.ev=some s'){vx vh:Value}(hx:RelV P w lo μ (SS X μ) xv vx)(hh:RelV P w lo μ (SS X μ) hv vh):
  ∃v μ',(Instr.sliceAt ty vx none (some vh) none).run P w=.ok v w/\Rel P X lo N w0 s' (a.put (some d) v) w μ':=by
 unfold Lr at hr;split at hr
 ·rename_i o k n
  split at hr
  next e0 t0 b kp e e2 t ix l al hg=>
   simp only[xe]at hr;subst hr;split at hq
   next hc=>
    obtain⟨rfl,aw⟩:=hc;obtain⟨hb,hq⟩:=ev_g hq;simp only[xf,qe]at hb;obtain⟨ad,ae⟩:=hb;simp only[qq,xe]at hq;subst hq;have e1:=hh.int;subst e1;have af:=hT ty;rw[al]at af;obtain⟨hu,⟨i,z,h1,h2,h3,h4,h5⟩,_⟩:=af;cases hx with
    | @arr _ _ a0 n0 c0 rs hs hμ=>
     obtain⟨y,hy,ao⟩:=h.mem.ob _ _ hμ;rw[hg]at hy;cases hy;have hp:PermOK w lo (SS X μ) e0 e2 t ix l ⟨.slice a0 n0 c0,rs,hs⟩:=ao;have ah:=hp.own;have aux:∀m:Int,0<=m->m<=(ix.length:Int)->m.toNat<=ix.length:=λm _ _=>by omega
     have hlen:Int.toNat n<=ix.length:=aux n ad ae;have key:∃c1,n0=ix.length/\n0<=c1/\(Instr.sliceAt ty (.slice a0 n0 c0) none (some (.int k n)) none).run P w=.ok (.slice a0 n.toNat c1) w/\w.ownsRow 0 e0 1 (.slice a0 n.toNat c1) (ix.take n.toNat).length ((ix.take n.toNat).map λi=>hs.getD i (.slice none 0 0)):=by
      have ar:(ix.take n.toNat).length=n.toNat:=by rw[xw];exact Wo hlen
      rw[ar];rcases ah.2 with⟨ev,au⟩|⟨gb,cap,cur,ev,k1,k2,k3,k4,k5,k6⟩
      ·cases ev;have hn:n.toNat=0:=by omega
       obtain⟨_,_,z3⟩:=Bg (P:=P) (w:=w) (len:=0) (cap:=0) (xm 0) k n ad (by omega) true;refine⟨0,au.symm,xm _,?_,by simp[hn],.inl ⟨by rw[hn],hn⟩⟩;simp[Instr.sliceAt,Instr.slice,run_underlying hu,z3,sizeOf,typeInfo,h1,h2]
      ·simp only[Value.slice.injEq]at ev;obtain⟨rfl,rfl,rfl⟩:=ev;obtain⟨_,_,z3⟩:=Bg (P:=P) (w:=w) (len:=ix.length) (cap:=c0) k3 k n ad ae true;refine⟨c0,rfl,k3,?_,by simp[Wo hlen],.inr ⟨gb,c0,cur,rfl,k1,k2,by omega,k4,k5,?_⟩⟩
       ·simp only[Instr.sliceAt,Instr.slice,Sem.run_bind,run_underlying hu,Result.andThen_ok,z3,sizeOf,typeInfo,h1,Sem.run_pure,xfd,Nat.sub_zero];by_cases e:c0=0;·simp[e,h1]
        ·simp[e,h1,Addr.add_lit]
       ·simp only[uE]at k6⊢;rw[List.map_take,<-k6,xfg,Wo hlen]
     obtain⟨c1,z1,z2,z3,z4⟩:=key;have aa:∀b,aD (.slice a0 n.toNat c1)=some b->aD (.slice a0 n0 c0)=some b:=λb hb=>by cases a0<;>exact hb
     have ab:∀b,aD (.slice a0 n0 c0)≠some b->aD (.slice a0 n.toNat c1)≠some b:=λb hb hc=>hb (aa b hc);have ai:∀k,SS X μ k->SS X (again μ o ⟨.slice a0 n.toNat c1,rs,hs⟩) k:=λk hS=>⟨hS.1,λp mv hp aj=>by
      rcases aP hp with⟨rfl,rfl⟩|⟨_,hp⟩
      ·exact hS.2 _ _ hμ aj
      ·exact hS.2 p mv hp aj⟩
     have av:NxA P X lo μ w o (.perm false e0 e2 t (ix.take n.toNat) l) w ⟨.slice a0 n.toNat c1,rs,hs⟩:=by refine⟨Kept.refl _ _,λk hk hS=>⟨ai k hS,rfl⟩,⟨z4,hp.len,λb hb=>hp.top b (aa b hb),hp.low,hp.slc,λj x r hx hl=>?_,hp.apart⟩,λk hk=>.inl ⟨_,hμ,hk⟩,λ_ _ _=>rfl⟩;obtain⟨m1,xs,m2,m3⟩:=hp.row j x r hx hl;exact⟨λb hb=>⟨(m1 b hb).1,ab b (m1 b hb).2⟩,xs,m2,m3.step λk hk hS=>⟨ai k hS,rfl⟩⟩
     exact⟨_,_,z3,(h.appd av).put ak (.arr cD)⟩
   next=>cases hq
  next=>cases hr
 ·cases hr
theorem QJ[Tabs](hT:aW P tt){s s':St}(h:Rel P X lo N w0 s a w μ){ty rt d:Nat}(bk:N.has d){xv yv:AV}{r:Tr St}(hr:aDP tt ty d xv yv s=some r)(hq:r.ev=some s'){va x:Value}(ha:RelV P w lo μ (SS X μ) xv va)(hx:RelV P w lo μ (SS X μ) yv x):
  ∃v' w' μ',(Builtin.append_ #[ty,ty] rt #[va,x]).run P w=.ok v' w'/\Rel P X lo N w0 s' (a.put (some d) v') w' μ':=by
 unfold aDP at hr;split at hr
 ·rename_i o i p j z
  split at hr
  next e0 t0 b e e2 t l au bl hg=>
   have au:=xg au;subst au;simp only[xe]at hr;subst hr;split at hq
   next hc=>
    obtain⟨rfl,av,rfl,hb0⟩:=hc;obtain⟨hle,hq⟩:=ev_g hq;simp only[xf,qe]at hle;obtain⟨bz,hle⟩:=hle;simp only[qq,xe]at hq;subst hq;have bb:=hT ty;rw[bl]at bb;obtain⟨hu,⟨ii,zz,hi,hs,bm,hz,bn⟩,_⟩:=bb;have bo:zz.cells.size=t0.size:=by simpa using eU bn
    have hm:=h.mem;cases ha with
    | @pre _ _ _ a0 n0 c0 rs ab hμ ca=>
     cases hx with
     | @suf _ _ _ _ a2 n2 c2 cb cc a' m k bc hj al=>
      rw[hμ]at bc;cases bc;obtain⟨y,hy,bp⟩:=hm.ob _ _ hμ;rw[hg]at hy;cases hy;obtain⟨aa,_⟩:=bp;have hlen:=aa.len;have ae:=aa.own;simp only at hlen ae;have aw:n0=l.length:=by
       rcases ae.2 with⟨ev,bd⟩|⟨gb,cap,cur,ev,_⟩
       ·cases ev;exact bd.symm
       ·simp only[Value.slice.injEq]at ev;exact ev.2.1
      obtain⟨cd,rfl⟩:=hj;have be:i<=l.length:=by omega
      have ay:w.ownsRow 0 e0 t0.size (.slice a0 i c0) i (ab.take i):=by
       rw[av];refine⟨by rw[xw,hlen,uE];exact Wo be,?_⟩;rcases ae.2 with⟨ev,bd⟩|⟨gb,cap,cur,ev,k1,k2,k3,k4,k5,k6⟩
       ·cases ev;have:i=0:=by omega
        subst this;exact .inl ⟨rfl,rfl⟩
       ·simp only[Value.slice.injEq]at ev;obtain⟨rfl,rfl,rfl⟩:=ev;exact .inr ⟨gb,c0,cur,rfl,k1,k2,by omega,k4,k5,by rw[<-k6,xfg];congr 1;omega⟩
      have bf:∀u∈ab,u.oneCell'=true:=λu hu=>by obtain⟨a2,n2,c2,rfl⟩:=aa.slc u hu;rfl
      have bg:(i+(n0-j))*b<=140737488355328:=by rw[aw];exact hle
      obtain⟨v',w',m1,m2,m3,m4,m5,m6,m7,m8,a1,n',c',bh⟩:=hC (rt:=rt) (c:=k) (t:=t0) hu hi hs bm hz bo ay (ax:=a') (m:=n0-j) (news:=ab.drop j) (by rw[tH,hlen,av,aw,uE])
       (λe=>by
        rcases al with al|⟨gb,_,e2⟩
        ·omega
        ·rw[e]at e2;cases e2)
       (λad e q u ah=>by
        rcases al with al|⟨gb,e1,e2⟩
        ·have:ab.drop j=[]:=C9 (by rw[tH,hlen];omega);rw[this]at ah;cases ah
        ·rw[e]at e2;cases e2;rw[yJ]at ah;have:=ae.cells (g:=gb) (by rw[e1];rfl) (j+q) u ah;simpa[Addr.add_lit]using this)
       (λu ah=>bf u (XT ah)) bg hb0
      rw[av]at m2;have ao:aD (.slice a0 i c0)=aD (.slice a0 n0 c0):=by cases a0<;>rfl
      rw[ao]at m7 m8;have af:∀{α:Type} (l:List α) (n:Nat),i<=l.length->(l.take i++l.drop j)[n]? =l[if n<i then n else j+(n-i)]? :=λ{α} l n hi=>by
       have br:(l.take i).length=i:=by rw[xw];omega
       by_cases hn:n<i;·rw[y7 (by omega),xgl hn,qi hn]
       ·rw[C6 (by omega),br,yJ,qh hn]
      have az:∀j,dU none j:=λj i k hk=>by cases hk
      have ar:∀k,aD v'=some k->k∈rs\/w.heap.size<=k:=λk hk=>(m8 k hk).imp (λh=>aa.top k h) id;have ai:∀k,k∈(aD v').toList++rs->k∈rs\/w.heap.size<=k:=λk hk=>by
       rcases xp.1 hk with hk|hk;·exact ar k (by simpa using hk)
       ·exact .inl hk
      have ba:Kept lo w w':=⟨m3,m4,m5,m6,λk hk=>m7 k (hm.hlo k hk) λe=>(aa.low k (aa.top k e)).1 hk⟩
      have aj:∀k,k<w.heap.size->SS X μ k->SS X (again μ p ⟨v',(aD v').toList++rs,ab.take i++ab.drop j⟩) k/\w'.heap[k]? =w.heap[k]? :=λk hk hS=>⟨⟨hS.1,λp' mv hp bj=>by
       rcases aP hp with⟨rfl,rfl⟩|⟨_,hp⟩
       ·rcases ai k bj with h'|h';·exact hS.2 _ _ hμ h'
        ·omega
       ·exact hS.2 p' mv hp bj⟩,m7 k hk λe=>hS.2 p _ hμ (aa.top k e)⟩
      have bs:NxA P X lo μ w p (.rows e0 e2 t (l.take i++l.drop j) none) w' ⟨v',(aD v').toList++rs,ab.take i++ab.drop j⟩:=by
       refine⟨ba,aj,⟨⟨?_,λk hk=>D1 _ (by simp[show aD v'=some k from hk]),λk hk=>?_,λy hy=>?_,λq y r bt hy hq=>?_,λq q' y z kb bt hk hy hz h3 h4=>?_⟩,λi' d' bu=>by cases bu⟩,λk hk=>?_,λk hk hn=>?_⟩;·rw[show(l.take i++l.drop j).length=i+(n0-j) by rw[xj,xw,tH,aw,Wo be]];exact m2
       ·rcases ai k hk with h'|h';·exact⟨(aa.low k h').1,yF (aa.low k h').2 m6⟩
        ·refine⟨λhl=>by have:=hm.hlo k hl;omega,?_⟩;have ak:aD v'=some k:=by
          rcases xp.1 hk with hk|hk;·simpa using hk
          ·have:=(aa.low k hk).2;omega
         rcases m2.2 with⟨e1,_⟩|⟨gb,cap,cur,e1,_,hh,_⟩
         ·rw[e1]at ak;simp[aD]at ak
         ·rw[e1]at ak;simp only[aD,xe]at ak;subst ak;exact(xba.1 hh).1
       ·rcases xp.1 hy with hy|hy;·exact aa.slc y (Wi hy)
        ·exact aa.slc y (XT hy)
       ·simp only at hy;rw[af _ _ (by omega)]at hy hq;obtain⟨z1,ys,z2,z3⟩:=aa.row _ y r (az _) hy hq;refine⟨λk hk=>⟨Bt _ (z1 k hk).1,λbw=>?_⟩,ys,aY z2 λk hk=>m7 k (aa.low k (z1 k hk).1).2 (z1 k hk).2,z3.step λk hk hs=>aj k hk hs⟩;rcases m8 k bw with h'|h';·exact(z1 k hk).2 h'
        ·have:=(aa.low k (z1 k hk).1).2;omega
       ·simp only at hy hz;rw[af _ _ (by omega)]at hy hz;have:=aa.apart _ _ y z kb (az _) (az _) hy hz h3 h4;split at this<;>split at this<;>omega
       ·rcases ai k hk with h'|h';·exact .inl ⟨_,hμ,h'⟩
        ·exact .inr h'
       ·exact m7 k hk λe=>hn _ hμ (aa.top k e)
      refine⟨v',w',_,m1,(h.appd bs).put bk ?_⟩;rw[bh];exact .arr (rs:=(aD v').toList++rs) (hs:=ab.take i++ab.drop j) (by rw[cD,bh])
   next=>cases hq
  next=>cases hr
 ·cases hr
theorem MB[Tabs](hT:aW P tt){s s':St}(h:Rel P X lo N w0 s a w μ){ty d:Nat}(aa:N.has d){xv lv:AV}{r:Tr St}(hr:aFV tt ty xv lv d s=some r)(hq:r.ev=some s'){vx vl:Value}(hx:RelV P w lo μ (SS X μ) xv vx)(hl:RelV P w lo μ (SS X μ) lv vl):
  ∃v μ',(Instr.sliceAt ty vx (some vl) none none).run P w=.ok v w/\Rel P X lo N w0 s' (a.put (some d) v) w μ':=by
 unfold aFV at hr;split at hr
 ·rename_i o k n
  have e1:=hl.int;subst e1;split at hr
  next e0 t0 b kp e e2 t ix l ab hg=>
   simp only[xe]at hr;subst hr;split at hq
   next hc=>
    obtain⟨hb,hq⟩:=ev_g hq;simp only[xf,qe]at hb;simp only[qq,xe]at hq;subst hq;cases hx with
    | @arr _ _ a0 n0 c0 rs hs hμ=>obtain⟨y,hy,ad⟩:=h.mem.ob _ _ hμ;rw[hg]at hy;cases hy;obtain⟨v,h1,h2⟩:=IS (P:=P) (w:=w) (lo:=lo) (S:=SS X μ) hT ab hc hμ (PermOK.own ad) rfl hb.1 hb.2;exact⟨v,μ,h1,h.put aa h2⟩
   next=>cases hq
  next=>cases hr
 ·cases hr
theorem Pq[Tabs](hT:aW P tt){s s':St}(h:Rel P X lo N w0 s a w μ){ty rt:Nat}{xv:AV}{r:Tr St}(hr:Lf tt ty xv s=some r)(hq:r.ev=some s'){vx:Value}(hx:RelV P w lo μ (SS X μ) xv vx):
  ∃w',(Builtin.clear_ #[ty] rt #[vx]).run P w=.ok (.tuple #[]) w'/\∀v,Rel P X lo N w0 s' (a.put none v) w' μ:=by
 unfold Lf at hr;split at hr
 ·rename_i o i z
  cases hx with
  | @suf _ _ _ _ a0 n c rs hs a' m k hμ hi ha=>
   obtain⟨bn,rfl⟩:=hi;have ak:∀x,s.g o=some x->Rel P X lo N w0 ⟨s.fr,(o,x)::s.ob⟩ a w μ:=λx hx=>by
    have e:(⟨s.fr,(o,x)::s.ob⟩:St).g=s.g:=by
     funext p;simp only[St.g,aM];by_cases hp:o=p;·subst hp;rw[bC];exact hx.symm
     ·rw[aZ hp]
    show RelF P X lo N w0 (⟨s.fr,(o,x)::s.ob⟩:St).slot (⟨s.fr,(o,x)::s.ob⟩:St).g a w μ;rw[e];exact h
   split at hr
   next e0 t0 b kp e e2 t ix l bb hg=>
    simp only[xe]at hr;subst hr;split at hq
    next tz=>
     split at hq
     next hc=>
      obtain⟨rfl,rfl⟩:=hc;simp only[qq,xe]at hq;subst hq;have ao:=hT ty;rw[bb]at ao;obtain⟨hu,⟨inf,zz,g1,g2,g3,g4,g5⟩,_⟩:=ao;obtain⟨y,hy,bc⟩:=h.mem.ob _ _ hμ;rw[hg]at hy;cases hy;have hp:PermOK w lo (SS X μ) e0 e2 t ix l ⟨.slice a0 n c,rs,hs⟩:=bc;have ai:=hp.own;have bo:hs.length=l.length:=hp.len;have ar:hs.getD l.length (.slice none 0 0)=.slice none 0 0:=by rw[xd,KP (by omega)];rfl
      by_cases bd:n-i=0
      ·have au:i=n:=by omega
       subst au;have av:i=ix.length:=by
        rcases ai.2 with⟨ev,bp⟩|⟨gb,cap,cur,ev,_⟩
        ·cases ev;omega
        ·cases ev;rfl
       have el:ix.take i++List.replicate (ix.length-i) l.length=ix:=by rw[av];simp
       rw[el];refine⟨w,?_,λv=>?_⟩;·rw[bd];cases a'<;>simp[Builtin.clear_,run_underlying hu]
       ·have h2:Rel P X lo N w0 ⟨s.fr,(o,.perm kp e0 e2 t ix l)::s.ob⟩ a w μ:=ak _ hg;refine⟨⟨h2.mem.hX,h2.mem.hlo,λp mv hp=>?_,h2.mem.dis,h2.mem.tab⟩,h2.fr,h2.bel,h2.df,h2.sz⟩;obtain⟨x,k1,k2⟩:=h2.mem.ob p mv hp;by_cases aw:o=p;·subst aw;simp only[St.g,aM,bC,xe]at k1;subst k1;exact⟨.perm false e0 e2 t ix l,by simp[St.g,aM],k2⟩
        ·refine⟨x,?_,k2⟩;simp only[St.g,aM,aZ aw]at k1⊢;exact k1
      ·rcases ha with ha|⟨b0,rfl,rfl⟩
       ·omega
       ·rcases ai.2 with⟨e1,_⟩|⟨b',cap,cur,ev,be,hh,bf,bg,ae,ad⟩
        ·cases e1
        ·simp only[Value.slice.injEq,xe,Addr.mk.injEq,ql]at ev;obtain⟨rfl,rfl,rfl⟩:=ev;have ay:b0∈rs:=hp.top b0 rfl;simp only[uE]at ae ad;obtain⟨zx,al⟩:=jQ (t:=.slice tz) rfl g5;rw[al]at g5;have bh:=tG g5;subst bh;have br:zz.cells.size=1:=by rw[<-JP,al];rfl
         have af:(Builtin.zeroCells zz.cells (ix.length-i)).toList=List.replicate (ix.length-i) (.slice none 0 0):=by
          have bj:zz.cells= #[.slice none 0 0]:=by rw[<-Uk (xs:=zz.cells),al]
          rw[bj];apply xgp;·simp[Builtin.zeroCells]
          ·intro j h1 h2;simp only[Builtin.zeroCells,Array.toList_map,List.getElem_map,List.getElem_replicate,RE,xk,xy,P1,Nat.mod_one];rfl
         have ab:=run_storeCells_at P b0 (i*1) e0 (Builtin.zeroCells zz.cells (ix.length-i)).toList 0 cur w hh (by rw[af,ae];simp;omega) (λu hu=>by rw[af]at hu;rw[(List.mem_replicate.1 hu).2];rfl);simp only[zL]at ab;have aj:∀b',b'≠b0->(w.setRow b0 (cur.toList.take (i*1)++(Builtin.zeroCells zz.cells (ix.length-i)).toList++cur.toList.drop (i*1+(Builtin.zeroCells zz.cells (ix.length-i)).toList.length)).toArray).heap[b']? =w.heap[b']? :=λb' bk=>setRow_other w b0 b' _ bk;have az:(Builtin.clear_ #[ty] rt #[.slice (some ⟨b0,i*1,none⟩) (ix.length-i) k]).run P w=.ok (.tuple #[]) (w.setRow b0 (cur.toList.take (i*1)++(Builtin.zeroCells zz.cells (ix.length-i)).toList++cur.toList.drop (i*1+(Builtin.zeroCells zz.cells (ix.length-i)).toList.length)).toArray):=by
          have bl:(zeroValue e0).run P w=.ok zz w:=by simp[zeroValue,typeInfo,g1,g4]
          cases bm:ix.length-i with
          |zero=>omega
          |succ mm=>rw[bm]at ab;simp only[uE]at ab⊢;simp[Builtin.clear_,run_underlying hu,bl,ab]
         refine⟨_,az,λv=>h.upd (u:=⟨none,none,[(o,.perm false e0 e2 t (ix.take i++List.replicate (ix.length-i) l.length) l)]⟩) (by simp) rfl (NxU.wrote h.mem hμ ay ⟨?_,hp.len,hp.top,λb' ah=>⟨(hp.low b' ah).1,by simpa using(hp.low b' ah).2⟩,hp.slc,λj' x r hx hl=>?_,hp.apart⟩) (dst:=none) rfl (λd hd=>by cases hd) (x:=v) (λp hp=>by cases hp)⟩
         ·have aa:(ix.take i++List.replicate (ix.length-i) l.length).length=ix.length:=by simp only[xj,xw,Rn];omega
          refine⟨by simp,.inr ⟨b0,c,_,by rw[aa],be,setRow_heap w b0 cur _ e0 _ hh,by rw[aa];exact bf,bg,?_,?_⟩⟩;·rw[af];simp only[RE,xj,xw,tH,JP,Rn,ae];omega
          ·rw[aa,af];have h1:=iQ cur.toList (List.replicate (ix.length-i) (Value.slice none 0 0)) (i*1) (ix.length-i) ix.length (by simp) (by omega) (by simp[ae];omega);simp only[Rn,uE]at h1⊢;rw[h1,ad,xdu,List.map_replicate];have hd:(ix.map λi=>hs.getD i (.slice none 0 0)).drop (i+(ix.length-i))=[]:=VW (by simp;omega);rw[hd,yT,List.map_take];rw[ar]
         ·obtain⟨m1,xs,m2,m3⟩:=hp.row j' x r hx hl;exact⟨m1,xs,aY m2 λb' ah=>aj b' λe=>(m1 b' ah).2 (by rw[e];rfl),m3.step λb' _ ba=>⟨ba,aj b' λe=>by subst e;exact ba.2 _ _ hμ ay⟩⟩
     next=>cases hq
    next=>cases hq
   next=>cases hr
 ·cases hr
theorem Rk[Tabs](hT:aW P tt){m:Bool}{o:Oper}{s s':St}(hN:∀d,o.dst=some d->N.has d)(h:Rel P X lo N w0 s a w μ){r:Tr St}(hr:Gr tt m o s=some r)(hq:r.ev=some s')
  {K:Act->World->Prop} {Q:Exit->Act->World->Prop} (hK:∀a' w' μ',Rel P X lo N w0 s' a' w' μ'->K a' w'):o.wp P a w K Q:=by
 unfold Gr at hr;split at hr
 ·rename_i ty av vv ho hd
  have fin:(∃w' μ',(Instr.storeAt ty (a.eval av) (a.eval vv)).run P w=.ok () w'/\∀v,Rel P X lo N w0 s' (a.put none v) w' μ')->o.wp P a w K Q:=λ⟨w',μ',h1,h2⟩=>by unfold Oper.wp execOp;simp only[ho,Sem.run_bind,h1,Result.andThen_ok,Sem.run_pure];exact hK _ w' μ' (by rw[hd];exact h2 _)
  split at hr
  next r' aa=>
   cases hr;exact fin (Jf hT h aa hq (bN h.fr av) (bN h.fr vv))
  next=>exact fin (P7 hT h hr hq (bN h.fr av) (bN h.fr vv))
 ·rename_i ty n c d ho hd
  split at hr;·cases hr;obtain⟨v,w',μ',h1,h2⟩:=Ft hT h hq (hN d hd) (bN h.fr n) (bN h.fr c);unfold Oper.wp execOp;simp only[ho,Sem.run_bind,h1,Result.andThen_ok,Sem.run_pure];exact hK _ w' μ' (by rw[hd];exact h2)
  ·cases hr
 ·rename_i ty n ps d ho hd
  split at hr
  ·cases hr;obtain⟨v,w',μ',h1,h2⟩:=S7 hT h hq (hN d hd) (qs:=ps.map λp=>(p.1,a.eval p.2)) (by simp) (λj p hp=>by
    rw[oE]at hp;cases hj:ps.toList[j]? with
    |none=>rw[hj]at hp;cases hp
    |some z=>rw[hj]at hp;simp only[oG,xe]at hp;subst hp;exact⟨(z.1,a.eval z.2),by simp[<-xcu,hj],bN h.fr z.2⟩)
   unfold Oper.wp execOp;simp only[ho,Sem.run_bind,h1,Result.andThen_ok,Sem.run_pure];exact hK _ w' μ' (by rw[hd];exact h2)
  ·cases hr
 ·rename_i as ts d ho hd
  split at hr
  next x y ty af has ab=>
   have ae:ty=af/\∃v' w' μ',(Builtin.append_ #[ty,ty] o.type #[a.eval x,a.eval y]).run P w=.ok v' w'/\Rel P X lo N w0 s' (a.put (some d) v') w' μ':=by
    split at hr
    next ad=>
     have ad:=xg ad;subst ad;split at hr
     next r' aa=>
      cases hr;exact⟨rfl,QJ hT h (hN d hd) aa hq (bN h.fr x) (bN h.fr y)⟩
     next=>exact l6 (rt:=o.type) hT h (hN d hd) hr hq (bN h.fr x) (bN h.fr y)
    next=>exact l6 (rt:=o.type) hT h (hN d hd) hr hq (bN h.fr x) (bN h.fr y)
   obtain⟨rfl,v',w',μ',h2,h3⟩:=ae;have e1:as= #[x,y]:=by rw[<-Uk (xs:=as),has]
   have e2:ts= #[ty,ty]:=by rw[<-Uk (xs:=ts),ab]
   unfold Oper.wp execOp;simp only[ho,e1,e2,resolve,invoke,builtin,Sem.run_bind,Sem.run_pure,Result.andThen_ok,xeq,M8,xer,h2];exact hK _ w' μ' (by rw[hd];exact h3)
  next=>cases hr
 ·rename_i ty x hh d ho hd
  obtain⟨v',μ',h2,h3⟩:=Vp hT h (hN d hd) hr hq (bN h.fr x) (bN h.fr hh);unfold Oper.wp execOp;simp only[ho,Sem.run_bind,h2,Result.andThen_ok,Sem.run_pure,xew,oG];exact hK _ w μ' (by rw[hd];exact h3)
 ·rename_i ty x ll d ho hd
  obtain⟨v',μ',h2,h3⟩:=MB hT h (hN d hd) hr hq (bN h.fr x) (bN h.fr ll);unfold Oper.wp execOp;simp only[ho,Sem.run_bind,h2,Result.andThen_ok,Sem.run_pure,xew,oG];exact hK _ w μ' (by rw[hd];exact h3)
 ·rename_i as ts ho hd
  split at hr
  next x ty has ab=>
   obtain⟨w',h2,h3⟩:=Pq (rt:=o.type) hT h hr hq (bN h.fr x);have e1:as= #[x]:=by rw[<-Uk (xs:=as),has]
   have e2:ts= #[ty]:=by rw[<-Uk (xs:=ts),ab]
   unfold Oper.wp execOp;simp only[ho,e1,e2,resolve,invoke,builtin,Sem.run_bind,Sem.run_pure,Result.andThen_ok,xeq,M8,xer,h2];exact hK _ w' μ (by rw[hd];exact h3 _)
  next=>cases hr
 ·cases hr
theorem aDa[Tabs](hE:jG P E)(hT:aW P tt){fz:Nat->List Nat}{o:Oper}{i:Nat}{s s':St}(hN:∀d,o.dst=some d->N.has d)(h:Rel P X lo N w0 s a w μ)(hq:(aop E tt fz o i s).ev=some s')
  {K:Act->World->Prop} {Q:Exit->Act->World->Prop} (hK:∀a' w' μ',Rel P X lo N w0 s' a' w' μ'->K a' w'):o.wp P a w K Q:=by
 obtain⟨μ1,h1⟩:=Rel.ahead (s0:=s) (fz i) h;unfold aop at hq;simp only at hq;cases aa:(fz i).any (Nat.beq 140000000)with
 |true=>rw[aa]at hq;cases hq
 |false=>
 rw[aa]at hq;simp only at hq;split at hq
 next r hr=>exact Rk hT hN h1 hr hq hK
 split at hq
 ·split at hq
  ·rename_i as ts d ho hd
   split at hq
   next x y ty af has ab=>
    split at hq
    next ad=>
     subst ad;have e1:as= #[x,y]:=by rw[<-Uk (xs:=as),has]
     have e2:ts= #[ty,ty]:=by rw[<-Uk (xs:=ts),ab]
     obtain⟨v',w',μ',h2,h3⟩:=Lp (rt:=o.type) hT h1 (hN d hd) hq (bN h1.fr x) (bN h1.fr y);unfold Oper.wp execOp;simp only[ho,e1,e2,resolve,invoke,builtin,Sem.run_bind,Sem.run_pure,Result.andThen_ok,xeq,M8,xer,h2];exact hK _ w' μ' (by rw[hd];exact h3)
    next=>cases hq
   next=>cases hq
  ·cases hq
 ·rename_i ae
  rw[Tr.ev_bind]at hq;cases hu:(vF E tt (St.ahead s s (fz i)).g (iY (St.ahead s s (fz i)).slot) o).ev with
  |none=>rw[hu]at hq;cases hq
  |some u=>rw[hu]at hq;simp only[xc,qq,xe]at hq;subst hq;obtain⟨k1,k2,k3,k4⟩:=AM hE hT h1.mem (bN h1.fr) ae hu;exact k4 K Q λx w' ⟨μ',k5,k6⟩=>hK _ w' μ' (h1.updK k3 k1 k5 k2 hN k6)
theorem In[Tabs]{s:St}(h:Rel P X lo N w0 s a w μ){ops:Array Oper}{j dj:Nat}(hj:(ops[j]?).bind (·.dst)=some dj)(hN:N.has dj){b:Bool}(hb:s.slot dj=.dat .bool b):yielded ops a.tmps j=some b/\a.tmps.getD dj undef=.bool b:=by
 have hr:=h.fr dj;rw[hb]at hr;have:=hr.bool;have aa:dj<a.tmps.size:=by rw[h.sz.n];exact hN.2
 have ab:a.tmps[dj]? =some (.bool b):=by
  have e:a.tmps.getD dj undef=a.tmps[dj]:=by simp[aa]
  rw[e]at this;rw[F3 aa,this]
 exact⟨by simp[yielded,hj,ab],this⟩
theorem P6[Tabs]{s:St}(h:Rel P X lo N w0 s a w μ){ops:Array Oper}{j dj:Nat}(hj:(ops[j]?).bind (·.dst)=some dj)(hb:s.slot dj=.skip):yielded ops a.tmps j=none:=by
 have hr:=h.fr dj;rw[hb]at hr;generalize hy:a.tmps.getD dj undef=y at hr;cases hr;unfold yielded;rw[hj];cases hg:a.tmps[dj]? with
 |none=>simp[hg]
 |some v=>
  have:v=undef:=by rw[<-hy,xn,hg];rfl
  subst this;simp[hg];rfl
theorem tP[Tabs](hE:jG P E)(hT:aW P tt){fz:Nat->List Nat}{ops:Array Oper}(hN:∀(j:Nat) (o:Oper) d,ops[j]? =some o->o.dst=some d->N.has d){Q:Exit->Act->World->Prop}:∀{l:List Oper} {i:Nat} {s s':St} {a:Act} {w:World} {μ:Nat->Option MV},
  (∀j,l[j]? =ops[i+j]?)->Rel P X lo N w0 s a w μ->(tF E tt fz (λj=>ops[j]?) l i s).ev=some s'->(∀a' w' μ',Rel P X lo N w0 s' a' w' μ'->Q .normal a' w')->wpList P ops Q l a w
 | [],i,s,s',a,w,μ,_,h,hq,hQ=>by simp only[tF,qq,xe]at hq;subst hq;exact hQ a w μ h
 |o::l,i,s,s',a,w,μ,hl,h,hq,hQ=>by
  have h0:ops[i]? =some o:=by simpa using(hl 0).symm
  have ae:∀j,l[j]? =ops[i+1+j]? :=λj=>by have:=hl (j+1);simpa[US,Nat.add_comm 1 j]using this
  have ah:=λd hd=>hN i o d h0 hd;simp only[tF]at hq;refine wpList_step λK hK=>?_;have run:∀{s1:St} {a:Act} {w:World} {μ:Nat->Option MV},Rel P X lo N w0 s1 a w μ->((aop E tt fz o i s1).bind (tF E tt fz (λj=>ops[j]?) l (i+1))).ev=some s'->(∀a w,wpList P ops Q l a w->K a w)->o.wp P a w K Q:=by
   intro s1 a w μ h1 aa hK;rw[Tr.ev_bind]at aa;cases hs:(aop E tt fz o i s1).ev with
   |none=>rw[hs]at aa;cases aa
   |some s2=>rw[hs]at aa;exact aDa hE hT ah h1 hs λa' w' μ' h2=>hK _ _ (tP hE hT hN ae h2 aa hQ)
  cases hg:o.guard with
  |none=>rw[hg]at hq;simp only at hq;simp only[Region.wanted,hg,if_true];exact run h hq hK
  |some gd=>
   obtain⟨j,want⟩:=gd;rw[hg]at hq;simp only at hq;split at hq
   next dj ad=>
    have skip:∀{s1:St} {a:Act},Rel P X lo N w0 s1 a w μ->(match o.dst with
      |some d=>tF E tt fz (λj=>ops[j]?) l (i+1) {s1 with fr:=(d,.skip)::s1.fr}
      |none=>tF E tt fz (λj=>ops[j]?) l (i+1) s1).ev=some s'->K (a.put o.dst undef) w:=by
     intro s1 a h1 aa;cases hd:o.dst with
     |none=>rw[hd]at aa;exact hK _ _ (tP hE hT hN ae (by simpa[Act.put]using h1) aa hQ)
     |some d=>rw[hd]at aa;exact hK _ _ (tP hE hT hN ae (h1.put (ah d hd) .skip) aa hQ)
    split at hq
    next b hb=>
     have ai:N.has dj:=by
      cases af:ops[j]? with
      |none=>rw[af]at ad;cases ad
      |some oj=>rw[af]at ad;exact hN j oj dj af ad
     obtain⟨hy,hv⟩:=In h ad ai hb;simp only[Region.wanted,hg,hy];have ab:Rel P X lo N w0 {s with fr:=(dj,.dat .bool b)::s.fr} a w μ:=h.know (by rw[hv];exact fD _);cases want<;>cases b;·simp only[qo,qb]at hq;simp only[qj,if_true];exact run ab hq hK
     ·simp only[qo,qa]at hq;rw[qh (by simp)];refine skip (s1:= {s with fr:=(dj,.dat .bool true)::s.fr}) ab ?_;cases hd:o.dst<;>rw[hd]at hq<;>exact hq
     ·simp only[qo,qb]at hq;rw[qh (by simp)];refine skip (s1:= {s with fr:=(dj,.dat .bool false)::s.fr}) ab ?_;cases hd:o.dst<;>rw[hd]at hq<;>exact hq
     ·simp only[qo,qa]at hq;simp only[qj,if_true];exact run ab hq hK
    next hb=>
     simp only[Region.wanted,hg,P6 h ad hb];rw[qh (by simp)];refine skip h ?_;cases hd:o.dst<;>rw[hd]at hq<;>exact hq
    next=>cases hq
   next=>cases hq
end
end
section
open Go.RowKit (Below)
structure Dep(D:Nat->Prop)(g g':Nat->Option Ob):Prop where
 ag:∀o,D o->g' o=g o
 cl:∀o x,D o->g o=some x->∀n∈Qo x,D n
section
variable {P:Program}{tt:Nat->TD}{g g':Nat->Option Ob}{E:Env}{o:Oper}{D:Nat->Prop}
theorem iG{f f':Operand->AV}{as:Array Operand}(h:∀x∈as,f x=f' x):as.toList.map f=as.toList.map f':=
 xdf λx hx=>h x (by simpa using hx)
theorem Fx{f f':Operand->AV}(h:∀x∈o.op.operands,f x=f' x):aq tt g f o=aq tt g f' o:=by
 have hp:∀{ps:Array (Nat×Operand)},(∀x∈(ps.toList.map (·.2)).toArray,f x=f' x)->(ps.toList.map λp=>(p.1,f p.2))=(ps.toList.map λp=>(p.1,f' p.2)):=λ{ps} hh=>
  xdf λp hp=>by rw[hh p.2 (by simpa using⟨p.1,by simpa using hp⟩)]
 unfold aq;split
 case h_1 x _ ho _=>rw[ho]at h;simp only[Op.operands]at h;rw[h x (by simp)]
 case h_2 x _ ho _=>rw[ho]at h;simp only[Op.operands]at h;rw[h x (by simp)]
 case h_3 c a b _ ho _=>rw[ho]at h;simp only[Op.operands]at h;rw[h c (by simp),h a (by simp),h b (by simp)]
 case h_4 op ty x y _ _ ho _=>rw[ho]at h;simp only[Op.operands]at h;rw[h x (by simp),h y (by simp)]
 case h_5 op _ x _ ho _=>rw[ho]at h;simp only[Op.operands]at h;rw[h x (by simp)]
 case h_6 s d x _ ho _=>rw[ho]at h;simp only[Op.operands]at h;rw[h x (by simp)]
 case h_7 e x d ho _=>rw[ho]at h;simp only[Op.operands]at h;rw[h x (by simp)]
 case h_8=>rfl
 case h_9 ty x _ ho _=>rw[ho]at h;simp only[Op.operands]at h;rw[h x (by simp)]
 case h_10 x _ ho _=>rw[ho]at h;simp only[Op.operands]at h;rw[h x (by simp)]
 case h_11 ty x i _ ho _=>rw[ho]at h;simp only[Op.operands]at h;rw[h x (by simp)]
 case h_12 ty x i _ ho _=>rw[ho]at h;simp only[Op.operands]at h;rw[h x (by simp),h i (by simp)]
 case h_13 ty x i _ ho _=>rw[ho]at h;simp only[Op.operands]at h;rw[h x (by simp),h i (by simp)]
 case h_14 x i _ ho _=>rw[ho]at h;simp only[Op.operands]at h;rw[h x (by simp)]
 case h_15 ty x l r _ ho _=>
  rw[ho]at h;simp only[Op.operands]at h;have e1:l.map f=l.map f':=by cases l with|none=>rfl|some y=>simp only[oG];rw[h y (by simp)]
  have e2:r.map f=r.map f':=by cases r with|none=>rfl|some y=>simp only[oG];rw[h y (by simp)]
  rw[h x (by simp),e1,e2]
 case h_16 ty ps _ ho _=>rw[ho]at h;simp only[Op.operands]at h;rw[hp h]
 case h_17 ty n ps d ho _=>rw[ho]at h;simp only[Op.operands]at h;rw[hp h]
 case h_18 ty l c d ho _=>rw[ho]at h;simp only[Op.operands]at h;rw[h l (by simp),h c (by simp)]
 case h_19 k first caps _ ho _=>
  rw[ho]at h;simp only[Op.operands]at h;have e2:(first.toList.map λx=>Fd (f x))=first.toList.map λx=>Fd (f' x):=xdf λx hx=>by rw[h x (by simp only[Array.mem_append];exact .inl (by simpa using hx))]
  rw[iG λx hx=>h x (by simp[hx]),e2]
 case h_20 as ts _ ho _=>
  rw[ho]at h;simp only[Op.operands,Call.operands]at h;split
  next x ty has aa=>
   have hx:x∈as:=by
    have:x∈as.toList:=by rw[has];simp
    simpa using this
   rw[h x (by simp[hx])]
  next=>rfl
 case h_21 as ts _ ho _=>rw[ho]at h;simp only[Op.operands,Call.operands]at h;rw[iG λx hx=>h x (by simp[hx])]
 case h_22 as ts _ ho _=>rw[ho]at h;simp only[Op.operands,Call.operands]at h;rw[iG λx hx=>h x (by simp[hx])]
 case h_23=>rfl
theorem CE{v:AV}{n:Nat}(h:n∈fO v):n∈A4 v:=by cases v<;>simp_all[fO,A4,Mw]
theorem b9(hD:Dep D g g'){ρ:List Nat}{v:AV}(h:∀n∈fO v,D n):tY ρ g' v=tY ρ g v:=by
 cases v with
 |arr o=>simp only[tY,hD.ag o (h o (by simp[fO]))]
 |row o i=>simp only[tY,hD.ag o (h o (by simp[fO]))]
 |fn f caps=>cases caps<;>rfl
 |_=>rfl
theorem W3(hD:Dep D g g'){v:AV}(h:∀n∈fO v,D n):JM g' v=JM g v:=by
 cases v with
 |arr o=>simp only[JM,hD.ag o (h o (by simp[fO]))]
 |row o i=>simp only[JM,hD.ag o (h o (by simp[fO]))]
 |_=>rfl
theorem qG{α:Type}{F G:AV->α}{cs:List AV}(h:∀c∈cs,F c=G c):cs.map F=cs.map G:=xdf h
theorem nQ{F G:AV->Bool}{cs:List AV}(h:∀c∈cs,F c=G c):cs.all F=cs.all G:=by
 induction cs with
 |nil=>rfl
 |cons c cs ih=>rw[NU,NU,h c xu,ih λc hc=>h c (xr _ hc)]
theorem PN{F G:AV->Bool}{cs:List AV}(h:∀c∈cs,F c=G c):cs.any F=cs.any G:=by
 induction cs with
 |nil=>rfl
 |cons c cs ih=>rw[xet,xet,h c xu,ih λc hc=>h c (xr _ hc)]
theorem dY{F:AV->List Nat}{cs:List AV}(h:∀n∈cs.flatMap F,D n){c:AV}(hc:c∈cs):∀n∈F c,D n:=λn hn=>h n (xes.2 ⟨c,hc,hn⟩)
theorem jE{v:AV}(h:∀n∈A4 v,D n):∀n∈fO v,D n:=λn hn=>h n (CE hn)
theorem l7(hD:Dep D g g'){ρ:List Nat}{v:AV}(h:∀n∈A4 v,D n):V5 ρ g' v=V5 ρ g v/\JF g' v=JF g v:=by
 cases v with
 |agg cs=>simp only[A4]at h;simp only[V5,JF];exact⟨by rw[qG λc hc=>b9 hD (dY h hc)],nQ λc hc=>W3 hD (dY h hc)⟩
 |_=>simp only[V5,JF];exact⟨b9 hD (jE h),W3 hD (jE h)⟩
theorem pQ(hD:Dep D g g'){ρ:List Nat}{v:AV}(h:∀n∈Mw v,D n):F0 ρ g' v=F0 ρ g v/\rsC g' v=rsC g v/\nM ρ g' v=nM ρ g v:=by
 cases v with
 |box o k=>
  have ho:=h o (by simp[Mw,fO]);simp only[F0,rsC,nM,hD.ag o ho];cases hg:g o with
  |none=>exact⟨by trivial,by trivial,by trivial⟩
  |some x=>
   cases x with
   |arr e t l=>exact⟨by trivial,by trivial,by trivial⟩
   |rows e e2 t l hh=>exact⟨by trivial,by trivial,by trivial⟩
   |perm k e e2 t ix l=>exact⟨by trivial,by trivial,by trivial⟩
   |spent=>exact⟨by trivial,by trivial,by trivial⟩
   |cells cs=>have hc:=hD.cl o _ ho hg;simp only[Qo]at hc;have e1:cs.map (tY ρ g')=cs.map (tY ρ g):=qG λc aa=>b9 hD (jE (dY hc aa));have e2:cs.all (JM g')=cs.all (JM g):=nQ λc aa=>W3 hD (jE (dY hc aa));simp only[e1,e2];exact⟨trivial,trivial,trivial⟩
 |_=>exact⟨rfl,rfl,rfl⟩
theorem f8(hD:Dep D g g'){ρ:List Nat}{v:AV}(h:∀n∈A4 v,D n):S4 ρ g' v=S4 ρ g v/\UO g' v=UO g v:=by
 cases v with
 |fn f caps=>simp only[A4]at h;simp only[S4,UO];exact⟨by rw[qG λc hc=>(pQ hD (dY h hc)).1],nQ λc hc=>(pQ (ρ:=[]) hD (dY h hc)).2.1⟩
 |box o k=>exact⟨rfl,rfl⟩
 |bnd f fs=>exact⟨rfl,rfl⟩
 |_=>simp only[S4,UO];exact l7 hD h
theorem L3(hD:Dep D g g'):∀{r:List Nat} {k:Nat},(∀o∈r,D o)->kC g' r k=kC g r k
 | [],_,_=>rfl
 |o::r,k,h=>by simp only[kC,hD.ag o (h o xu),L3 hD λo hm=>h o (xr _ hm)]
theorem eL(hD:Dep D g g'){fs as:List AV}(ab:∀v∈fs,∀n∈A4 v,D n)(has:∀v∈as,∀n∈Mw v,D n):∀{l:List LP} {acc:List Nat},(∀o∈acc,D o)->bW g' fs as l acc=bW g fs as l acc/\∀ρ,bW g fs as l acc=some ρ->∀o∈ρ,D o
 | [],acc,aa=>⟨rfl,λρ h o ho=>by simp only[bW,xe]at h;subst h;exact aa o ho⟩
 | .arg i::r,acc,aa=>by
  have more:∀p,D p->∀o∈acc++ [p],D o:=λp hp o ho=>by
   rcases xp.1 ho with ho|ho;·exact aa o ho
   ·rw[xo.1 ho];exact hp
  simp only[bW];cases hn:aQ as i with
  |none=>exact⟨rfl,λρ h=>by cases h⟩
  |some v=>
   have hv:v∈as:=by rw[aA]at hn;exact xz hn
   cases v with
   |arr o=>exact eL hD ab has (more o (has _ hv o (by simp[Mw,fO])))
   |box o k=>
    cases k with
    |zero=>exact eL hD ab has (more o (has _ hv o (by simp[Mw,fO])))
    |succ k=>exact⟨rfl,λρ h=>by cases h⟩
   |_=>exact⟨rfl,λρ h=>by cases h⟩
 | .cell j k::r,acc,aa=>by
  have more:∀p,D p->∀o∈acc++ [p],D o:=λp hp o ho=>by
   rcases xp.1 ho with ho|ho;·exact aa o ho
   ·rw[xo.1 ho];exact hp
  simp only[bW];cases hn:aQ acc j with
  |none=>exact⟨rfl,λρ h=>by cases h⟩
  |some p=>
   have hp:D p:=aa p (by rw[aA]at hn;exact xz hn);simp only[hD.ag p hp];cases hg:g p with
   |none=>exact⟨rfl,λρ h=>by cases h⟩
   |some x=>
    cases x with
    |arr e t l=>exact⟨rfl,λρ h=>by cases h⟩
    |rows e e2 t l hh=>exact⟨rfl,λρ h=>by cases h⟩
    |perm k e e2 t ix l=>exact⟨rfl,λρ h=>by cases h⟩
    |spent=>exact⟨rfl,λρ h=>by cases h⟩
    |cells cs=>
     have hc:=hD.cl p _ hp hg;simp only[Qo]at hc;simp only;cases hk:aQ cs k with
     |none=>exact⟨rfl,λρ h=>by cases h⟩
     |some v=>
      have hv:∀n∈fO v,D n:=jE (dY hc (by rw[aA]at hk;exact xz hk));cases v with
      |arr o=>exact eL hD ab has (more o (hv o (by simp[fO])))
      |box o k=>
       cases k with
       |zero=>exact eL hD ab has (more o (hv o (by simp[fO])))
       |succ k=>exact⟨rfl,λρ h=>by cases h⟩
      |_=>exact⟨rfl,λρ h=>by cases h⟩
 | .comp i j::r,acc,aa=>by
  have more:∀p,D p->∀o∈acc++ [p],D o:=λp hp o ho=>by
   rcases xp.1 ho with ho|ho;·exact aa o ho
   ·rw[xo.1 ho];exact hp
  simp only[bW];cases hn:aQ as i with
  |none=>exact⟨rfl,λρ h=>by cases h⟩
  |some v=>
   have hv:v∈as:=by rw[aA]at hn;exact xz hn
   cases v with
   |agg cs=>
    simp only;cases hk:aQ cs j with
    |none=>exact⟨rfl,λρ h=>by cases h⟩
    |some u=>
     have hu:∀n∈fO u,D n:=λn ad=>has _ hv n (by simp only[Mw,xes];exact⟨u,by rw[aA]at hk;exact xz hk,ad⟩);cases u with
     |arr o=>exact eL hD ab has (more o (hu o (by simp[fO])))
     |_=>exact⟨rfl,λρ h=>by cases h⟩
   |_=>exact⟨rfl,λρ h=>by cases h⟩
 | .cap i j::r,acc,aa=>by
  have more:∀p,D p->∀o∈acc++ [p],D o:=λp hp o ho=>by
   rcases xp.1 ho with ho|ho;·exact aa o ho
   ·rw[xo.1 ho];exact hp
  simp only[bW];cases hn:aQ fs i with
  |none=>exact⟨rfl,λρ h=>by cases h⟩
  |some v=>
   have hv:v∈fs:=by rw[aA]at hn;exact xz hn
   cases v with
   |fn f cs=>
    simp only;cases hk:aQ cs j with
    |none=>exact⟨rfl,λρ h=>by cases h⟩
    |some u=>
     have hu:∀n∈Mw u,D n:=λn ad=>ab _ hv n (by simp only[A4,xes];exact⟨u,by rw[aA]at hk;exact xz hk,ad⟩);cases u with
     |box o k=>
      cases k with
      |zero=>exact eL hD ab has (more o (hu o (by simp[Mw,fO])))
      |succ k=>exact⟨rfl,λρ h=>by cases h⟩
     |_=>exact⟨rfl,λρ h=>by cases h⟩
   |_=>exact⟨rfl,λρ h=>by cases h⟩
theorem Uq(hD:Dep D g g'){d:Nat}{H:AV}{as:List AV}(hH:∀n∈A4 H,D n)(has:∀v∈as,∀n∈A4 v,D n):pK E g' d H as=pK E g d H as:=by
 cases H with
 |fn f caps=>
  simp only[A4]at hH;have aa:∀v∈as++caps,∀n∈Mw v,D n:=λv hv n hn=>by
   rcases xp.1 hv with hv|hv
   ·refine has v hv n ?_;cases v with|fn f caps=>simp[Mw,fO]at hn|_=>exact hn
   ·exact dY hH hv n hn
  obtain⟨e0,hρ⟩:=eL hD has aa (l:=E.lend f) (acc:=[]) λo h=>by cases h
  simp only[pK,e0];cases hl:bW g as (as++caps) (E.lend f) []with
  |none=>rfl
  |some ρ=>
   have ab:=hρ ρ hl;have e1:as.map (S4 ρ g')=as.map (S4 ρ g):=qG λv hv=>(f8 hD (has v hv)).1;have e2:caps.map (F0 ρ g')=caps.map (F0 ρ g):=qG λv hv=>(pQ hD (dY hH hv)).1;have e3:as.all (UO g')=as.all (UO g):=nQ λv hv=>(f8 (ρ:=ρ) hD (has v hv)).2;have e4:caps.all (rsC g')=caps.all (rsC g):=nQ λv hv=>(pQ (ρ:=ρ) hD (dY hH hv)).2.1;have e5:caps.any (nM ρ g')=caps.any (nM ρ g):=PN λv hv=>(pQ hD (dY hH hv)).2.2;have e6:kC g' ρ 64=kC g ρ 64:=L3 hD ab;have e7:∀r:List Nat,(∀o∈r,D o)->r.all (B6 g')=r.all (B6 g):=by
    intro r;induction r with
    |nil=>intro _;rfl
    |cons o r ih=>
     intro hr;have ho:=hr o xu;rw[NU,NU,ih λo hm=>hr o (xr _ hm)];congr 1;simp only[B6,hD.ag o ho];cases hg:g o with
     |none=>rfl
     |some x=>
      cases x with
      |arr e t l=>rfl
      |perm k e e2 t ix l=>rfl
      |spent=>rfl
      |rows e e2 t l hh=>rfl
      |cells cs=>have hc:=hD.cl o _ ho hg;simp only[Qo]at hc;exact nQ λv hv=>(f8 (ρ:=ρ) hD (dY hc hv)).2
   simp only[e1,e2,e3,e4,e5,e6,e7 ρ ab]
 |clo ts r p=>simp only[pK];have e1:as.map (V5 [] g')=as.map (V5 [] g):=qG λv hv=>(l7 hD (has v hv)).1;have e2:as.all (JF g')=as.all (JF g):=nQ λv hv=>(l7 (ρ:=[]) hD (has v hv)).2;simp only[e1,e2]
 |_=>rfl
theorem Rh(hD:Dep D g g'){ty:Nat}{v:AV}(h:∀n∈fO v,D n):pE tt g' ty v=pE tt g ty v:=by
 unfold pE;cases aa:kJ tt ty with
 |none=>rfl
 |some sz=>
  cases v with
  |box o k=>simp only[hD.ag o (h o (by simp[fO]))]
  |elt o i s=>simp only[hD.ag o (h o (by simp[fO]))]
  |fld o i s k=>simp only[hD.ag o (h o (by simp[fO]))]
  |relt o i n s=>simp only[hD.ag o (h o (by simp[fO]))]
  |_=>rfl
theorem Zg{ty:Nat}{v:AV}(h:∀n∈fO v,g' n=g n):pE tt g' ty v=pE tt g ty v:=by
 unfold pE;cases aa:kJ tt ty with
 |none=>rfl
 |some sz=>
  cases v with
  |box o k=>simp only[h o (by simp[fO])]
  |elt o i s=>simp only[h o (by simp[fO])]
  |fld o i s k=>simp only[h o (by simp[fO])]
  |relt o i n s=>simp only[h o (by simp[fO])]
  |_=>rfl
theorem Lj(hD:Dep D g g'){ty:Nat}{v i:AV}(h:∀n∈fO v,D n):kS tt g' ty v i=kS tt g ty v i:=by
 unfold kS;cases v with
 |arr o=>
  have e:=hD.ag o (h o (by simp[fO]));cases i with
  |dat t n=>
   cases t with
   |int k=>simp only[e]
   |_=>rfl
  |_=>rfl
 |row o i0=>
  have e:=hD.ag o (h o (by simp[fO]));cases i with
  |dat t n=>
   cases t with
   |int k=>simp only[e]
   |_=>rfl
  |_=>rfl
 |dat t v=>
  cases i with
  |dat t' v'=>cases t<;>cases t'<;>rfl
  |_=>cases t<;>rfl
 |box o k=>
  cases i with
  |dat t' v'=>cases t'<;>rfl
  |_=>rfl
 |ptr cs=>
  cases i with
  |dat t' v'=>cases t'<;>rfl
  |_=>rfl
 |elt o j s=>
  cases i with
  |dat t' v'=>cases t'<;>rfl
  |_=>rfl
 |fld o j s k=>
  cases i with
  |dat t' v'=>cases t'<;>rfl
  |_=>rfl
 |_=>rfl
theorem IQ(hD:Dep D g g'){ty:Nat}{v:AV}(h:∀n∈fO v,D n):n8 tt g' ty v=n8 tt g ty v:=by
 unfold n8;cases v with
 |arr o=>simp only[hD.ag o (h o (by simp[fO]))]
 |row o i=>simp only[hD.ag o (h o (by simp[fO]))]
 |dat t v=>cases t<;>rfl
 |_=>rfl
theorem Iq(hD:Dep D g g'){ty:Nat}{a v:AV}(h:∀n∈fO a,D n):pR tt g' ty a v=pR tt g ty a v:=by
 unfold pR;cases a with
 |box o k=>simp only[hD.ag o (h o (by simp[fO]))]
 |elt o i s=>simp only[hD.ag o (h o (by simp[fO]))]
 |fld o i s k=>simp only[hD.ag o (h o (by simp[fO]))]
 |_=>rfl
theorem vS(hD:Dep D g g'){t:Ty}{v:AV}(h:∀n∈fO v,D n):oB g' t v=oB g t v:=by
 unfold oB;cases v with
 |arr o=>simp only[hD.ag o (h o (by simp[fO]))]
 |row o i=>simp only[hD.ag o (h o (by simp[fO]))]
 |dat t' v=>cases t'<;>rfl
 |_=>rfl
theorem R9(hD:Dep D g g'){d ty b:Nat}{a x:AV}(ha:∀n∈fO a,D n)(hx:∀n∈fO x,D n):mL tt g' d ty b a x=mL tt g d ty b a x:=by
 unfold mL;simp only[vS hD hx];cases a with
 |arr o=>simp only[hD.ag o (ha o (by simp[fO]))]
 |_=>rfl
theorem Q0(hD:Dep D g g'){d ty p i:Nat}{x:AV}(hp:D p)(hx:∀n∈fO x,D n){u:LU}(hu:(gS tt g d ty p i x).ev=some u)(hn:∀q∈u.objs,g' q.1=g q.1):(gS tt g' d ty p i x).ev=some u:=by
 have hd:g' d=g d:=by
  unfold gS at hu;split at hu
  ·split at hu
   ·split at hu;·obtain⟨_,hu⟩:=ev_g hu;simp only[qq,xe]at hu;subst hu;exact hn _ xu
    ·cases hu
   ·cases hu
  ·cases hu
 unfold gS at hu⊢;simp only[hD.ag p hp,hd,vS hD hx];exact hu
theorem Sc(hD:Dep D g g'){s d:Nat}{v:AV}(h:∀n∈fO v,D n):I2 tt g' s d v=I2 tt g s d v:=by
 have e:=vS (t:=.int .u8) hD h;unfold I2;split;·rfl
 ·rw[e]
theorem Fh(hD:Dep D g g'){d ty n:Nat}{ps:List (Nat×AV)}(h:∀p∈ps,∀n∈fO p.2,D n):rA tt g' d ty n ps=rA tt g d ty n ps:=by
 unfold rA;split
 ·rename_i p _
  have e:=hD.ag p (h _ xu p (by simp[fO]));simp only[e]
 ·rfl
theorem Ce(hD:Dep D g g'){ty:Nat}{v:AV}{lo hi:Option AV}(h:∀n∈fO v,D n):qB tt g' ty v lo hi=qB tt g ty v lo hi:=by
 unfold qB;cases v with
 |arr o=>
  have e:=hD.ag o (h o (by simp[fO]));cases lo with
  |none=>
   cases hi with
   |none=>rfl
   |some y=>
    cases y with
    |dat t n=>
     cases t with
     |int k=>simp only[e]
     |_=>rfl
    |_=>rfl
  |some y=>
   cases hi with
   |none=>
    cases y with
    |dat t n=>
     cases t with
     |int k=>simp only[e]
     |_=>rfl
    |_=>rfl
   |some z=>
    cases y with
    |dat t n=>cases t<;>rfl
    |_=>rfl
 |_=>rfl
theorem Uc(hD:Dep D g g'){op:BinOp}{ty:Nat}{x y:AV}(h:∀n∈fO x,D n):I4 tt g' op ty x y=I4 tt g op ty x y:=by
 have e:∀b,r7 b g' x=r7 b g x:=λb=>by
  unfold r7;cases x with
  |arr o=>simp only[hD.ag o (h o (by simp[fO]))]
  |dat t v=>cases t<;>rfl
  |_=>rfl
 unfold I4;split;·exact e false
 ·exact e true
 ·rfl
theorem aAH(hD:Dep D g g'){f:Operand->AV}(h:∀x∈o.op.operands,∀n∈A4 (f x),D n):aq tt g' f o=aq tt g f o:=by
 unfold aq;split<;>try rfl
 case h_4 op ty x y _ _ ho _=>rw[ho]at h;simp only[Op.operands]at h;exact Uc hD (jE (h x (by simp)))
 case h_6 _ _ x _ ho _=>rw[ho]at h;simp only[Op.operands]at h;exact Sc hD (jE (h x (by simp)))
 case h_9 ty x _ ho _=>rw[ho]at h;simp only[Op.operands]at h;exact Rh hD (jE (h x (by simp)))
 case h_12 ty x i _ ho _=>rw[ho]at h;simp only[Op.operands]at h;exact Lj hD (jE (h x (by simp)))
 case h_15 ty x l r _ ho _=>rw[ho]at h;simp only[Op.operands]at h;exact Ce hD (jE (h x (by simp)))
 case h_17 ty n ps d ho _=>
  rw[ho]at h;simp only[Op.operands]at h;refine Fh hD λp hp=>?_;obtain⟨z,hz,rfl⟩:=xaf.1 hp;exact jE (h z.2 (by simpa using⟨z.1,by simpa using hz⟩))
 case h_20 as ts _ ho _=>
  rw[ho]at h;simp only[Op.operands,Call.operands]at h;split
  next x ty has aa=>
   have hx:x∈as:=by
    have:x∈as.toList:=by rw[has];simp
    simpa using this
   exact IQ hD (jE (h x (by simp[hx])))
  next=>rfl
theorem qV{l:List (Nat×Ob)}(h:∀p∈l,g' p.1=g p.1):jD g' l=jD g l:=by
 unfold jD;congr 1;induction l with
 |nil=>rfl
 |cons p l ih=>rw[NU,NU,ih λp hp=>h p (xr _ hp),h p xu]
theorem MY(hD:Dep D g g'){f f':Operand->AV}(hf:∀x∈o.op.operands,f' x=f x)(h:∀x∈o.op.operands,∀n∈A4 (f x),D n){u:LU}(hu:(vF E tt g f o).ev=some u)(hn:∀p∈u.objs,g' p.1=g p.1):(vF E tt g' f' o).ev=some u:=by
 unfold vF at hu⊢;split at hu
 ·rename_i ty a v ho hd
  rw[ho]at h hf;simp only[Op.operands]at h hf;rw[hf a (by simp),hf v (by simp),Iq hD (jE (h a (by simp)))];exact hu
 ·rename_i as ts d ho hd
  rw[ho]at h hf;simp only[Op.operands,Call.operands]at h hf;split at hu
  next b y ty af has ah=>
   have hb:Operand.tmp b∈as:=by
    have:Operand.tmp b∈as.toList:=by rw[has];simp
    simpa using this
   have hy:y∈as:=by
    have:y∈as.toList:=by rw[has];simp
    simpa using this
   rw[hf _ (by simp[hb]),hf y (by simp[hy])];split at hu
   next ae=>
    rw[qi ae];cases aa:f (.tmp b)with
    |row p i=>rw[aa]at hu;have hp:=h _ (show Operand.tmp b∈_ by simp[hb]) p (by rw[aa];simp[A4,Mw,fO]);simp only at hu⊢;exact Q0 hD hp (jE (h y (by simp[hy]))) hu hn
    |_=>rw[aa]at hu;have ad:=h _ (show Operand.tmp b∈_ by simp[hb]);rw[aa]at ad;simp only at hu⊢;rw[R9 hD (jE ad) (jE (h y (by simp[hy])))];exact hu
   next=>cases hu
  next=>cases hu
 ·rename_i H as ts d ho hd
  rw[ho]at h hf;simp only[Op.operands,Call.operands]at h hf;have e:as.toList.map f'=as.toList.map f:=iG λx hx=>hf x (by simp[hx]);rw[hf H (by simp),e,Uq hD (h H (by simp)) λv hv=>by obtain⟨x,hx,rfl⟩:=xaf.1 hv;exact h x (by simp at hx;simp[hx])];rw[Tr.ev_bind]at hu⊢;cases hq:(pK E g d (f H) (as.toList.map f)).ev with
  |none=>rw[hq]at hu;cases hu
  |some q=>
   rw[hq]at hu;simp only[xc]at hu⊢;split at hu
   next ab=>
    simp only[qq,xe]at hu;subst hu;rw[qi (by rw[qV λp hp=>hn p (D1 _ hp)];exact ab)];rfl
   next=>cases hu
 ·rename_i d hd h1 h2
  rw[Fx hf,aAH hD h];rw[Tr.ev_bind]at hu;cases hq:(aq tt g f o).ev with
  |none=>rw[hq]at hu;cases hu
  |some q=>
   rw[hq]at hu;simp only[xc]at hu;split at hu
   next ab=>
    simp only[qq,xe]at hu;subst hu;have e:jD g' q.2=true:=by rw[qV λp hp=>hn p hp];exact ab
    rw[Tr.ev_bind,hq];simp[e]
   next=>cases hu
 ·cases hu
theorem qL{f:Operand->AV}{u:LU}(h:(wM E tt g f o true).ev=some u):(∃ty n ps d,o.op=.buildSlice ty n ps/\o.dst=some d/\∃v,(qU tt ty n (ps.toList.map λp=>(p.1,f p.2))).ev=some v/\u=⟨some (d,v),none,[]⟩)\/
  ∃b d,o.op=.move (.tmp b)/\o.dst=some d/\u=⟨some (d,f (.tmp b)),some b,[]⟩:=by
 simp only[wM]at h;split at h
 next ty n ps d ho hd=>
  rw[Tr.ev_bind]at h;cases hq:(qU tt ty n (ps.toList.map λp=>(p.1,f p.2))).ev with
  |none=>rw[hq]at h;cases h
  |some v=>rw[hq]at h;simp only[xc,qq,xe]at h;exact .inl ⟨ty,n,ps,d,ho,hd,v,hq,h.symm⟩
 next b d ho hd=>
  simp only[qq,xe]at h;exact .inr ⟨b,d,ho,hd,h.symm⟩
 next=>cases h
theorem IB{f f':Operand->AV}(hf:∀x∈o.op.operands,f' x=f x){u:LU}(h:(wM E tt g f o true).ev=some u):(wM E tt g' f' o true).ev=some u:=by
 rcases qL h with⟨ty,n,ps,d,ho,hd,v,hv,rfl⟩|⟨b,d,ho,hd,rfl⟩
 case inr=>
  rw[ho]at hf;simp only[wM,ho,hd,qq];rw[hf (.tmp b) (by simp[Op.operands])]
 rw[ho]at hf;have e:(ps.toList.map λp=>(p.1,f' p.2))=ps.toList.map λp=>(p.1,f p.2):=xdf λp hp=>by rw[hf p.2 (by simp only[Op.operands];simp;exact⟨p.1,by simpa using hp⟩)]
 simp only[wM,ho,hd];rw[e,Tr.ev_bind,hv];rfl
theorem GB(hl:sG o=true){f f':Operand->AV}(hf:∀x∈o.op.operands,f' x=f x)(h:∀x∈o.op.operands,∀n∈A4 (f x),g' n=g n){u:LU}(hu:(vF E tt g f o).ev=some u)(hn:∀p∈u.objs,g' p.1=g p.1):(vF E tt g' f' o).ev=some u:=by
 unfold sG at hl;split at hl
 next ty x ho=>
  unfold vF at hu⊢;rw[ho]at hf h;simp only[Op.operands]at hf h;split at hu
  ·rename_i heq _;rw[ho]at heq;cases heq
  ·rename_i heq _;rw[ho]at heq;cases heq
  ·rename_i heq _;rw[ho]at heq;cases heq
  ·rename_i d hd _ _
   have e1:∀g f,aq tt g f o=pE tt g ty (f x):=λg f=>by unfold aq;rw[ho,hd]
   rw[e1]at hu;rw[e1,hf x (by simp),Zg (nm1_L' (h x (by simp)))];rw[Tr.ev_bind]at hu;cases hq:(pE tt g ty (f x)).ev with
   |none=>rw[hq]at hu;cases hu
   |some q=>
    rw[hq]at hu;simp only[xc]at hu;split at hu
    next aa=>
     simp only[qq,xe]at hu;subst hu;have e:jD g' q.2=true:=by rw[qV λp hp=>hn p hp];exact aa
     rw[Tr.ev_bind,hq];simp[e]
    next=>cases hu
  ·cases hu
 next ty x i ho=>
  unfold vF at hu⊢;rw[ho]at hf h;simp only[Op.operands]at hf h;split at hu
  ·rename_i heq _;rw[ho]at heq;cases heq
  ·rename_i heq _;rw[ho]at heq;cases heq
  ·rename_i heq _;rw[ho]at heq;cases heq
  ·rename_i d hd _ _
   have e1:∀g f,aq tt g f o=yX tt ty i (f x):=λg f=>by unfold aq;rw[ho,hd]
   rw[e1]at hu;rw[e1,hf x (by simp)];rw[Tr.ev_bind]at hu;cases hq:(yX tt ty i (f x)).ev with
   |none=>rw[hq]at hu;cases hu
   |some q=>
    rw[hq]at hu;simp only[xc]at hu;split at hu
    next aa=>
     simp only[qq,xe]at hu;subst hu;have e:jD g' q.2=true:=by rw[qV λp hp=>hn p hp];exact aa
     rw[Tr.ev_bind,hq];simp[e]
    next=>cases hu
  ·cases hu
 next=>cases hl
where
 nm1_L' {v:AV} {g g':Nat->Option Ob} (h:∀n∈A4 v,g' n=g n):∀n∈fO v,g' n=g n:=λn hn=>h n (CE hn)
def LenEq(a b:Option Ob):Prop:=a=b\/(∃e t l l',a=some (.arr e t l)/\b=some (.arr e t l')/\l.length=l'.length)\/(∃cs cs',a=some (.cells cs)/\b=some (.cells cs'))\/∃k k' e e2 t ix ix' l,a=some (.perm k e e2 t ix l)/\b=some (.perm k' e e2 t ix' l)/\ix.length=ix'.length
theorem LenEq.symm{a b:Option Ob}(h:LenEq a b):LenEq b a:=by
 rcases h with h|⟨e,t,l,l',h1,h2,h3⟩|⟨cs,aa,h1,h2⟩|⟨k,k',e,e2,t,ix,ab,l,h1,h2,h3⟩
 ·exact .inl h.symm
 ·exact .inr (.inl ⟨e,t,l',l,h2,h1,h3.symm⟩)
 ·exact .inr (.inr (.inl ⟨aa,cs,h2,h1⟩))
 ·exact .inr (.inr (.inr ⟨k',k,e,e2,t,ab,ix,l,h2,h1,h3.symm⟩))
theorem LenEq.trans{a b c:Option Ob}(h:LenEq a b)(k:LenEq b c):LenEq a c:=by
 rcases h with rfl|⟨e,t,l,l',rfl,rfl,h3⟩|⟨cs,aa,rfl,rfl⟩|⟨q,q',e,e2,t,ix,ab,l,rfl,rfl,h3⟩
 ·exact k
 all_goals
  rcases k with rfl|⟨e',t',m,m',k1,rfl,k3⟩|⟨ds,ad,k1,rfl⟩|⟨p,p',e',ae,t',jx,af,m,k1,rfl,k3⟩
 all_goals try cases k1
 all_goals first|exact .inr (.inl ⟨_,_,_,_,rfl,rfl,h3⟩)|exact .inr (.inl ⟨_,_,_,_,rfl,rfl,h3.trans k3⟩)|exact .inr (.inr (.inl ⟨_,_,rfl,rfl⟩))|exact .inr (.inr (.inr ⟨_,_,_,_,_,_,_,_,rfl,rfl,h3⟩))|exact .inr (.inr (.inr ⟨_,_,_,_,_,_,_,_,rfl,rfl,h3.trans k3⟩))
theorem Hi{ty:Nat}{v i:AV}(h:∀n∈fO v,LenEq (g n) (g' n)):kS tt g' ty v i=kS tt g ty v i:=by
 unfold kS;have key:∀o,v=.arr o\/(∃i,v=.row o i)->LenEq (g o) (g' o):=λo e=>h o (by rcases e with rfl|⟨_,rfl⟩<;>simp[fO]);split<;>try rfl
 all_goals
  rcases key _ (by first|exact .inl rfl|exact .inr ⟨_,rfl⟩)with e|⟨e,t,l,l',h1,h2,h3⟩|⟨cs,aa,h1,h2⟩|⟨q,q',e,e2,t,ix,ab,l,h1,h2,h3⟩
 all_goals first
  |simp only[e]
  |(simp only[h1,h2];cases tt ty<;>first|rfl|simp only[h3])
theorem JC{ty:Nat}{v:AV}(h:∀n∈fO v,LenEq (g n) (g' n)):n8 tt g' ty v=n8 tt g ty v:=by
 unfold n8;cases v with
 |arr o=>
  rcases h o (by simp[fO])with e|⟨e,t,l,l',h1,h2,h3⟩|⟨cs,aa,h1,h2⟩|⟨q,q',e,e2,t,ix,ab,l,h1,h2,h3⟩
  ·simp only[e]
  all_goals
   simp only[h1,h2];cases tt ty<;>first|rfl|simp only[h3]
 |dat t v=>cases t<;>rfl
 |_=>rfl
theorem ZU(hl:lV o=true){f:Operand->AV}(h:∀x∈o.op.operands,∀n∈A4 (f x),LenEq (g n) (g' n)):aq tt g' f o=aq tt g f o:=by
 have hL:∀{v:AV},(∀n∈A4 v,LenEq (g n) (g' n))->∀n∈fO v,LenEq (g n) (g' n):=λh n hn=>h n (CE hn);unfold aq;split<;>try rfl
 case h_4 op ty x y _ _ ho _=>unfold lV at hl;rw[ho]at hl;cases hl
 case h_6 _ _ x _ ho _=>unfold lV at hl;rw[ho]at hl;cases hl
 case h_9 ty x _ ho _=>unfold lV at hl;rw[ho]at hl;cases hl
 case h_15 ty x l r _ ho _=>unfold lV at hl;rw[ho]at hl;cases hl
 case h_17 ty n ps d ho _=>unfold lV at hl;rw[ho]at hl;cases hl
 case h_12 ty x i _ ho _=>rw[ho]at h;simp only[Op.operands]at h;exact Hi (hL (h x (by simp)))
 case h_20 as ts _ ho _=>
  rw[ho]at h;simp only[Op.operands,Call.operands]at h;split
  next x ty has aa=>
   have hx:x∈as:=by
    have:x∈as.toList:=by rw[has];simp
    simpa using this
   exact JC (hL (h x (by simp[hx])))
  next=>rfl
theorem tZ{v:AV}{q:QR}(h:(vq v).ev=some q):q.2=[]:=by simp only[vq,qq,xe]at h;rw[<-h]
theorem CX{b:Bool}{v:AV}{q:QR}(h:(Tr.g b (vq v)).ev=some q):q.2=[]:=by obtain⟨_,h⟩:=ev_g h;simp only[vq,qq,xe]at h;rw[<-h]
theorem Em{ty:Nat}{v i:AV}{q:QR}(h:(kS tt g ty v i).ev=some q):q.2=[]:=by
 unfold kS at h
 repeat' split at h
 all_goals first|exact CX h|cases h
theorem Rc{ty:Nat}{v:AV}{q:QR}(h:(n8 tt g ty v).ev=some q):q.2=[]:=by
 unfold n8 at h
 repeat' split at h
 all_goals first|(simp only[iq,qq,xe]at h;rw[<-h])|cases h
theorem PD(hl:lV o=true){f:Operand->AV}{q:QR}(h:(aq tt g f o).ev=some q):q.2=[]:=by
 unfold lV at hl;split at hl
 next ty x i ho=>
  unfold aq at h;split at h<;>rename_i heq _<;>rw[ho]at heq<;>first|(cases heq;done)|(cases heq;exact Em h)|cases h
 next x ho=>
  unfold aq at h;split at h<;>rename_i heq _<;>rw[ho]at heq<;>first|(cases heq;done)|(cases heq;exact tZ h)|cases h
 next x ho=>
  unfold aq at h;split at h<;>rename_i heq _<;>rw[ho]at heq<;>first|(cases heq;done)|(cases heq;exact tZ h)|cases h
 next x ho=>
  unfold aq at h;split at h<;>rename_i heq _<;>rw[ho]at heq<;>first|(cases heq;done)|(cases heq;split at h<;>first|exact tZ h|cases h)|cases h
 next c ho=>
  unfold aq at h;split at h<;>rename_i heq _<;>rw[ho]at heq<;>first|(cases heq;done)|(cases heq;split at h<;>first|exact Rc h|cases h)|cases h
 next=>cases hl
theorem QG(hl:lV o=true){f f':Operand->AV}(hf:∀x∈o.op.operands,f' x=f x)(h:∀x∈o.op.operands,∀n∈A4 (f x),LenEq (g n) (g' n)){u:LU}(hu:(vF E tt g f o).ev=some u):(vF E tt g' f' o).ev=some u:=by
 have key:∀d,((aq tt g f o).bind λq=>if jD g q.2 then .l (⟨some (d,q.1),none,q.2⟩:LU)else .f).ev=some u->((aq tt g' f' o).bind λq=>if jD g' q.2 then .l (⟨some (d,q.1),none,q.2⟩:LU)else .f).ev=some u:=by
  intro d hu;rw[Fx hf,ZU hl h];rw[Tr.ev_bind]at hu⊢;cases hq:(aq tt g f o).ev with
  |none=>rw[hq]at hu;cases hu
  |some q=>rw[hq]at hu;have e:=PD hl hq;simp only[xc,e]at hu⊢;exact hu
 unfold vF at hu⊢;split at hu
 ·rename_i ho _;unfold lV at hl;rw[ho]at hl;cases hl
 ·rename_i ho _;unfold lV at hl;rw[ho]at hl;cases hl
 ·rename_i ho _;unfold lV at hl;rw[ho]at hl;cases hl
 ·exact key _ hu
 ·cases hu
theorem EJ(hl:S1 o=true){f f':Operand->AV}(hf:∀x∈o.op.operands,f' x=f x){u:LU}(hu:(vF E tt g f o).ev=some u):(vF E tt g' f' o).ev=some u:=by
 have key:∀d,aq tt g f o=aq tt g' f' o->(∀q,(aq tt g f o).ev=some q->q.2=[])->((aq tt g f o).bind λq=>if jD g q.2 then .l (⟨some (d,q.1),none,q.2⟩:LU)else .f).ev=some u->((aq tt g' f' o).bind λq=>if jD g' q.2 then .l (⟨some (d,q.1),none,q.2⟩:LU)else .f).ev=some u:=by
  intro d he hp hu;rw[<-he];rw[Tr.ev_bind]at hu⊢;cases hq:(aq tt g f o).ev with
  |none=>rw[hq]at hu;cases hu
  |some q=>rw[hq]at hu;have e:=hp q hq;simp only[xc,e]at hu⊢;exact hu
 unfold S1 at hl;split at hl
 next x ho=>
  unfold vF at hu⊢;rw[ho]at hf;simp only[Op.operands]at hf;split at hu
  ·rename_i heq _;rw[ho]at heq;cases heq
  ·rename_i heq _;rw[ho]at heq;cases heq
  ·rename_i heq _;rw[ho]at heq;cases heq
  ·rename_i d hd _ _
   have e1:∀g f,aq tt g f o=vq (f x):=λg f=>by unfold aq;rw[ho,hd]
   refine key d ?_ (λq hq=>?_) hu;·rw[e1,e1,hf x (by simp)]
   ·rw[e1]at hq;exact tZ hq
  ·cases hu
 next x ho=>
  unfold vF at hu⊢;rw[ho]at hf;simp only[Op.operands]at hf;split at hu
  ·rename_i heq _;rw[ho]at heq;cases heq
  ·rename_i heq _;rw[ho]at heq;cases heq
  ·rename_i heq _;rw[ho]at heq;cases heq
  ·rename_i d hd _ _
   have e1:∀g f,aq tt g f o=vq (f x):=λg f=>by unfold aq;rw[ho,hd]
   refine key d ?_ (λq hq=>?_) hu;·rw[e1,e1,hf x (by simp)]
   ·rw[e1]at hq;exact tZ hq
  ·cases hu
 next=>cases hl
theorem Qn(hs:qR o=true){f:Operand->AV}{u:LU}(hu:(vF E tt g f o).ev=some u):∀n x,aM u.objs n=some x->LenEq (g n) (some x):=by
 unfold qR at hs;split at hs
 next ty a v ho=>
  unfold vF at hu;split at hu
  ·rename_i heq _
   rw[ho]at heq;cases heq;unfold pR at hu;have fin:∀{m y},LenEq (g m) (some y)->u=⟨none,none,[(m,y)]⟩->∀n x,aM u.objs n=some x->LenEq (g n) (some x):=λe hu=>by
    subst hu;intro n x hx;simp only[aM]at hx;split at hx
    next e'=>cases hx;rw[<-xg e'];exact e
    next=>cases hx
   repeat' split at hu
   all_goals first
    |(cases hu;done)
    |(simp only[qq,xe]at hu;exact fin (.inr (.inr (.inl ⟨_,_,by assumption,rfl⟩))) hu.symm)
    |(obtain⟨_,hu⟩:=ev_g hu;simp only[qq,xe]at hu;exact fin (.inr (.inl ⟨_,_,_,_,by assumption,rfl,by simp⟩)) hu.symm)
    |(obtain⟨_,hu⟩:=ev_g hu;simp only[qq,xe]at hu;exact fin (.inr (.inr (.inr ⟨_,_,_,_,_,_,_,_,by assumption,rfl,by simp⟩))) hu.symm)
  ·rename_i heq _;rw[ho]at heq;cases heq
  ·rename_i heq _;rw[ho]at heq;cases heq
  ·have e:aq tt g f o=.f:=by unfold aq;split<;>first|rfl|(rename_i heq _;rw[ho]at heq;cases heq)
   rw[Tr.ev_bind,e]at hu;cases hu
  ·cases hu
 next=>cases hs
end
end
section
open Go.RowKit (Below)
abbrev FS:=(Nat->AV)×(Nat->Option Ob)
def vD(s:FS)(u:LU):FS:=(zX s.1 u,gA s.2 u)
def G3(ops:Nat->Option Oper)(sl:Nat->AV)(o:Oper)(b:Bool):Prop:=
 match o.guard with
 |none=>b=true
 |some (j,want)=>∃dj,(ops j).bind (·.dst)=some dj/\((∃v,sl dj=.dat .bool v/\b=(v==want))\/(sl dj=.skip/\b=false))
structure Step1(E:Env)(tt:Nat->TD)(ops:Nat->Option Oper)(o:Oper)(s:FS)(x:LU×List Nat)(b:Bool):Prop where
 want:G3 ops s.1 o b
 run:b=true->∃c,(wM E tt s.2 (iY s.1) o c).ev=some x.1/\x.2=rH s.2 s.1 o/\(sG o||oP s.2 x.2)=true/\cT s.2 x.1.objs=[]
 skip:b=false->x=(⟨o.dst.map λd=>(d,.skip),none,[]⟩,[])
def aI(s0:FS)(us:List (LU×List Nat))(sel:Nat->Bool):Nat->FS
 |0=>s0
 |n+1=>match aQ us n with
  |some x=>if sel n then vD (aI s0 us sel n) x.1 else aI s0 us sel n
  |none=>aI s0 us sel n
section
variable {E:Env}{tt:Nat->TD}{ops:Nat->Option Oper}
theorem qW{s:St}{dj:Nat}{b:Bool}(h:s.slot dj=.dat .bool b):St.slot {s with fr:=(dj,.dat .bool b)::s.fr}=s.slot:=by
 funext t;simp only[St.slot,aM];by_cases e:dj=t;·subst e;rw[bC];simp only[St.slot]at h;rw[h];rfl
 ·rw[aZ e]
theorem tC(s0:FS)(x:LU×List Nat)(us:List (LU×List Nat)):∀n,aI s0 (x::us) (λ_=>true) (n+1)=aI (vD s0 x.1) us (λ_=>true) n
 |0=>rfl
 |n+1=>by rw[aI,tC s0 x us n];show _=aI (vD s0 x.1) us (λ_=>true) (n+1);rw[aI];rfl
theorem xO{ds:Nat->Bool}:∀{l:List Oper} {s s':St} {acc aa:List (LU×List Nat)},(mG E tt ops ds l s acc).ev=some (s',aa)->
  ∃us,aa=acc++us/\us.length=l.length/\(∀k o x,aQ l k=some o->aQ us k=some x->∃b,Step1 E tt ops o (aI (s.slot,s.g) us (λ_=>true) k) x b)/\(s'.slot,s'.g)=aI (s.slot,s.g) us (λ_=>true) l.length
 | [],s,s',acc,aa,h=>by simp only[mG,qq,xe,Wb]at h;obtain⟨rfl,rfl⟩:=h;exact⟨[],by simp,rfl,λk o x h=>by simp[aQ]at h,rfl⟩
 |o::l,s,s',acc,aa,h=>by
  have done:∀{s0:St} {x:LU×List Nat} {b:Bool},s0.slot=s.slot->s0.g=s.g->Step1 E tt ops o (s.slot,s.g) x b->(mG E tt ops ds l (s0.app x.1) (acc++ [x])).ev=some (s',aa)->
    ∃us,aa=acc++us/\us.length=(o::l).length/\(∀k o' x,aQ (o::l) k=some o'->aQ us k=some x->∃b,Step1 E tt ops o' (aI (s.slot,s.g) us (λ_=>true) k) x b)/\(s'.slot,s'.g)=aI (s.slot,s.g) us (λ_=>true) (o::l).length:=by
   intro s0 x b e1 e2 ae h;obtain⟨us,h1,h2,h3,h4⟩:=xO h;have e:((s0.app x.1).slot,(s0.app x.1).g)=vD (s.slot,s.g) x.1:=by rw[z8,Ly,e1,e2];rfl
   rw[e]at h3 h4;refine⟨x::us,by simp[h1],by simp[h2],λk o' x' hk hx=>?_,?_⟩
   ·cases k with
    |zero=>simp only[aQ,xe]at hk hx;subst hk;subst hx;exact⟨b,ae⟩
    |succ k=>rw[tC];exact h3 k o' x' hk hx
   ·rw[xk,tC];exact h4
  have run:∀{s0:St},s0.slot=s.slot->s0.ob=s.ob->G3 ops s.slot o true->((wM E tt s0.g (iY s0.slot) o (ds acc.length)).bind λu=>match(sG o||oP s0.g (rH s0.g s0.slot o))&&(cT s0.g u.objs).isEmpty with
     |true=>mG E tt ops ds l (s0.app u) (acc++ [(u,rH s0.g s0.slot o)])
     |false=>.f).ev=some (s',aa)->_:=λ{s0} e1 e2 hw h=>by
   have ad:s0.g=s.g:=by unfold St.g;rw[e2]
   rw[Tr.ev_bind]at h;cases hu:(wM E tt s0.g (iY s0.slot) o (ds acc.length)).ev with
   |none=>rw[hu]at h;cases h
   |some u=>
    rw[hu]at h;simp only[xc]at h;split at h
    next hc=>
     rw[e1,ad]at hc hu h;simp only[xf,List.isEmpty_iff]at hc;exact done (x:=(u,rH s.g s.slot o)) (b:=true) e1 ad ⟨hw,λ_=>⟨_,hu,rfl,hc.1,hc.2⟩,λe=>(by cases e)⟩ h
    next=>cases h
  have skip:∀{s0:St},s0.slot=s.slot->s0.ob=s.ob->G3 ops s.slot o false->(mG E tt ops ds l (s0.app ⟨o.dst.map λd=>(d,.skip),none,[]⟩) (acc++ [(⟨o.dst.map λd=>(d,.skip),none,[]⟩,[])])).ev=some (s',aa)->_:=λ{s0} e1 e2 hw h=>
   done (x:=(⟨o.dst.map λd=>(d,.skip),none,[]⟩,[])) (b:=false) e1 (by unfold St.g;rw[e2]) ⟨hw,λe=>(by cases e),λ_=>rfl⟩ h
  simp only[mG]at h;cases hg:o.guard with
  |none=>rw[hg]at h;exact run rfl rfl (by simp[G3,hg]) h
  |some gd=>
   obtain⟨j,want⟩:=gd;rw[hg]at h;simp only at h;split at h
   next dj ab=>
    split at h
    next v hv=>
     cases want<;>cases v;·simp only[qo,qb]at h;exact run (qW hv) rfl (by simp only[G3,hg];exact⟨dj,ab,.inl ⟨false,hv,rfl⟩⟩) h
     ·simp only[qo,qa]at h;exact skip (qW hv) rfl (by simp only[G3,hg];exact⟨dj,ab,.inl ⟨true,hv,rfl⟩⟩) h
     ·simp only[qo,qb]at h;exact skip (qW hv) rfl (by simp only[G3,hg];exact⟨dj,ab,.inl ⟨false,hv,rfl⟩⟩) h
     ·simp only[qo,qa]at h;exact run (qW hv) rfl (by simp only[G3,hg];exact⟨dj,ab,.inl ⟨true,hv,rfl⟩⟩) h
    next hv=>exact skip rfl rfl (by simp only[G3,hg];exact⟨dj,ab,.inr ⟨hv,trivial⟩⟩) h
    next=>cases h
   next=>cases h
theorem has_iff{l:List Nat}{n:Nat}:has l n=true↔n∈l:=by simp only[has,xbg];exact⟨λ⟨x,hx,e⟩=>by rw[xg e];exact hx,λh=>⟨n,h,xff n⟩⟩
theorem disj_iff{l m:List Nat}:Pk l m=true↔∀x∈l,x∉m:=by
 simp only[Pk,xt,D9];constructor;·intro h x hx hm;have:=h x hx;rw[has_iff.2 hm]at this;cases this
 ·intro h x hx;cases hh:has m x with|true=>exact absurd (has_iff.1 hh) (h x hx)|false=>rfl
theorem nN{sl:Nat->AV}{u:LU}{t:Nat}(h:t∉u.touch):zX sl u t=sl t:=by
 obtain⟨d,und,objs⟩:=u;unfold zX;cases d with
 |none=>rfl
 |some p=>
  simp only[LU.touch,xae,not_or]at h;simp only[qh (xB h.1)];cases und with
  |none=>rfl
  |some b=>have h2:b≠t:=λe=>h.2 (by simp[e]);simp only[qh h2]
theorem Q1{sl aa:Nat->AV}{u:LU}{t:Nat}(h:sl t=aa t):zX sl u t=zX aa u t:=by
 unfold zX;cases u.d with
 |none=>exact h
 |some p=>
  simp only;split;·rfl
  ·cases u.und with
   |none=>exact h
   |some b=>
    simp only;split;·rfl
    ·exact h
theorem look_ids{objs:List (Nat×Ob)}{i:Nat}:(∃x,aM objs i=some x)↔i∈objs.map (·.1):=by
 induction objs with
 |nil=>simp[aM]
 |cons p r ih=>
  obtain⟨k,x⟩:=p;simp only[aM,M8,xae];by_cases e:k=i;·subst e;simp
  ·rw[aZ e];simp only[ih];exact⟨.inr,λh=>h.resolve_left λe'=>e e'.symm⟩
theorem wO{g:Nat->Option Ob}{u:LU}{i:Nat}(h:i∉u.ids):gA g u i=g i:=by
 unfold gA;cases hl:aM u.objs i with
 |none=>rfl
 |some x=>exact absurd (look_ids.1 ⟨x,hl⟩) h
theorem Mf{g g':Nat->Option Ob}{u:LU}{i:Nat}(h:g i=g' i):gA g u i=gA g' u i:=by
 unfold gA;cases aM u.objs i with
 |none=>exact h
 |some x=>rfl
theorem Sb{s:FS}{u v:LU}(h1:∀t∈u.touch,t∉v.touch)(h2:∀i∈u.ids,i∉v.ids):vD (vD s u) v=vD (vD s v) u:=by
 refine Prod.ext ?_ ?_
 ·funext t;show zX (zX s.1 u) v t=zX (zX s.1 v) u t;by_cases hu:t∈u.touch;·have hv:=h1 t hu;rw[nN hv];exact Q1 (nN hv).symm
  ·rw[nN (sl:=zX s.1 v) hu];exact Q1 (nN hu)
 ·funext i;show gA (gA s.2 u) v i=gA (gA s.2 v) u i;by_cases hu:i∈u.ids;·have hv:=h2 i hu;rw[wO hv];exact Mf (wO hv).symm
  ·rw[wO (g:=gA s.2 v) hu];exact Mf (wO hu)
section
variable {s0:FS}{us:List (LU×List Nat)}{sel sel':Nat->Bool}
theorem pH{n:Nat}(h:∀m,m<n->sel m=sel' m):aI s0 us sel n=aI s0 us sel' n:=by
 induction n with
 |zero=>rfl
 |succ n ih=>have:=ih λm hm=>h m (by omega);simp only[aI,this,h n (by omega)]
theorem Li{T:Nat->Prop}{n:Nat}(h:∀m x,m<n->aQ us m=some x->sel m≠sel' m->∀t,T t->t∉x.1.touch):∀t,T t->(aI s0 us sel n).1 t=(aI s0 us sel' n).1 t:=by
 induction n with
 |zero=>intro t _;rfl
 |succ n ih=>
  intro t ht;have hi:=ih (λm x hm=>h m x (by omega)) t ht;simp only[aI];cases hx:aQ us n with
  |none=>exact hi
  |some x=>
   simp only;by_cases e:sel n=sel' n
   ·rw[e];split;·exact Q1 hi
    ·exact hi
   ·have aa:=h n x (by omega) hx e t ht;cases h1:sel n<;>cases h2:sel' n<;>simp only[if_true,if_false,tJ];·exact hi
    ·exact hi.trans (nN aa).symm
    ·exact(nN aa).trans hi
    ·exact Q1 hi
theorem Qb{T:Nat->Prop}{n:Nat}(h:∀m x,m<n->aQ us m=some x->sel m≠sel' m->∀t,T t->t∉x.1.ids):∀t,T t->(aI s0 us sel n).2 t=(aI s0 us sel' n).2 t:=by
 induction n with
 |zero=>intro t _;rfl
 |succ n ih=>
  intro t ht;have hi:=ih (λm x hm=>h m x (by omega)) t ht;simp only[aI];cases hx:aQ us n with
  |none=>exact hi
  |some x=>
   simp only;by_cases e:sel n=sel' n
   ·rw[e];split;·exact Mf hi
    ·exact hi
   ·have aa:=h n x (by omega) hx e t ht;cases h1:sel n<;>cases h2:sel' n<;>simp only[if_true,if_false,tJ];·exact hi
    ·exact hi.trans (wO aa).symm
    ·exact(wO aa).trans hi
    ·exact Mf hi
theorem sV{i:Nat}:∀{n:Nat},i<=n->(∀m x,i<=m->m<n->aQ us m=some x->sel m=false)->aI s0 us sel n=aI s0 us sel i
 |0,hi,_=>by rw[Nat.le_zero.1 hi]
 |n+1,hi,h=>by
  by_cases e:i=n+1;·rw[e]
  ·have:=sV (n:=n) (by omega) λm x h1 h2=>h m x h1 (by omega);simp only[aI];cases hx:aQ us n with|none=>exact this|some x=>simp only[h n x (by omega) (by omega) hx,tJ,if_false];exact this
theorem G9{i:Nat}{x:LU×List Nat}(hx:aQ us i=some x)(hi:sel i=false):∀{n:Nat},i<n->(∀m y,i<m->m<n->aQ us m=some y->sel m=true->(∀t∈x.1.touch,t∉y.1.touch)/\∀k∈x.1.ids,k∉y.1.ids)->
  aI s0 us (λm=>sel m||Nat.beq i m) n=vD (aI s0 us sel n) x.1
 |0,h,_=>absurd h (xex _)
 |n+1,h,hc=>by
  by_cases e:i=n
  ·subst e;have e1:aI s0 us (λm=>sel m||Nat.beq i m) i=aI s0 us sel i:=pH λm hm=>by rw[aZ (show i≠m by omega),xeh]
   simp only[aI,hx,e1,hi,bC,Bool.or_true,if_true,tJ,if_false]
  ·have ih:=G9 hx hi (n:=n) (by omega) λm y h1 h2=>hc m y h1 (by omega);simp only[aI,ih,aZ e,xeh];cases hy:aQ us n with
   |none=>rfl
   |some y=>
    simp only;split
    next hs=>
     obtain⟨h1,h2⟩:=hc n y (by omega) (by omega) hy hs;exact(Sb h1 h2)
    next=>rfl
end
end
end
section
open Go.RowKit (Below)
theorem wW:∀{l:List Oper} {acc:List (List Nat)} {i:Nat} {a:List Nat},aQ acc i=some a->aQ (wQ l acc) i=some a
 | [],_,_,_,h=>h
 |o::l,acc,i,a,h=>by rw[wQ];refine wW ?_;rw[aA]at h⊢;have hi:=(xq.1 h).1;rw[y7 hi];exact h
theorem Im{n:Nat}:∀{l:List Nat} {m:Nat},n∈dd l m->n∈l
 | [],_,h=>h
 |x::l,m,h=>by
  unfold dd at h;split at h;·exact xr _ (Im h)
  ·rcases xae.1 h with e|h;·rw[e];exact xu
   ·exact xr _ (Im h)
theorem O2:∀{l:List Oper} {acc:List (List Nat)} {k:Nat} {o:Oper},aQ l k=some o->(∀i o',aQ l i=some o'->∀e∈bP o',e<acc.length+i)->
  ∃a,aQ (wQ l acc) (acc.length+k)=some a/\∀n∈a,n∈bP o\/∃e∈bP o,∃a',aQ (wQ l acc) e=some a'/\n∈a'
 | [],_,_,_,h,_=>by simp[aQ]at h
 |o'::l,acc,0,o,h,hb=>by
  simp only[aQ,xe]at h;subst h;refine⟨dd (bP o'++(bP o').flatMap λj=>(aQ acc j).getD []) 0,?_,λn hn=>?_⟩;·rw[wQ];refine wW ?_;rw[aA,C6 (by omega)];simp
  ·rcases xp.1 (Im hn)with h|h;·exact .inl h
   ·obtain⟨e,he,hn⟩:=xes.1 h;have aa:=hb 0 o' rfl e he;rw[zL]at aa;refine .inr ⟨e,he,acc[e],?_,?_⟩;·rw[wQ];refine wW ?_;rw[aA,y7 aa];exact xh aa
    ·rw[aA,xh aa]at hn;exact hn
 |o'::l,acc,k+1,o,h,hb=>by simp only[aQ]at h;have:=O2 (l:=l) (acc:=acc++ [dd (bP o'++(bP o').flatMap λj=>(aQ acc j).getD []) 0]) (k:=k) h (λi ab hi e he=>by have:=hb (i+1) ab hi e he;simp only[xj,JH];omega);rw[wQ];simp only[xj,JH]at this;rw[show acc.length+(k+1)=acc.length+1+k by omega];exact this
theorem Gj(ops:Array Oper)(o:Oper):yW ops.toList o=o.looksAt ops:=by
 unfold yW Oper.looksAt;congr 1;cases o.guard with
 |none=>rfl
 |some gd=>obtain⟨g,b⟩:=gd;simp only[aA];rw[xcu]
def A2(ops:Array Oper)(us:List (LU×List Nat))(i:Nat):List Nat:=match ops[i]?,aQ us i with
 |some o,some x=>Vm ops.toList us o x
 |_,_=>[]
structure Plan(E:Env)(tt:Nat->TD)(ops:Array Oper)(p:Nat)(s0:FS)(us:List (LU×List Nat))(an:Nat->List Nat):Prop where
 le:p<=ops.size
 len:us.length=p
 step:∀k o x,ops[k]? =some o->aQ us k=some x->∃b,Step1 E tt (λj=>ops[j]?) o (aI s0 us (λ_=>true) k) x b
 back:∀i o,ops[i]? =some o->∀e∈bP o,e<i
 chain:∀i o,ops[i]? =some o->p<i->i-1∈bP o
 sink:p<ops.size->∀i,i<p->∃j o,i<j/\j<=p/\ops[j]? =some o/\i∈bP o
 anc:∀i o,ops[i]? =some o->∀n∈an i,n∈bP o\/∃e∈bP o,n∈an e
 pair:∀i j oi oj x y,i<j->ops[i]? =some oi->ops[j]? =some oj->aQ us i=some x->aQ us j=some y->i∈an j\/
  (∀t∈x.1.touch,t∉oj.looksAt ops/\t∉y.1.touch)/\(∀t∈y.1.touch,t∉oi.looksAt ops)/\(∀n∈x.1.ids,n∉A2 ops us j/\n∉y.1.ids)/\∀n∈y.1.ids,n∉A2 ops us i
 app:∀k x b,aQ us k=some x->x.1.und=some b->∀o∈x.1.ids,(∀t,t≠b->SD o (s0.1 t)=true\/∃m z,m∈an k/\aQ us m=some z/\z.1.und=some t/\z.1.d≠none)/\(∀q y,q≠o->s0.2 q=some y->Ev o y=true)/\
  ∀n y,aQ us n=some y->n≠k->k∉an n->(∀q,y.1.d=some q->SD o q.2=true\/q.1=b\/∃m z,n<m/\m∈an k/\aQ us m=some z/\z.1.und=some q.1/\z.1.d≠none)/\∀q∈y.1.objs,q.1=o\/Ev o q.2=true
theorem Qv{ops:Array Oper}{us:List (LU×List Nat)}{i:Nat}{o:Oper}{x:LU×List Nat}(ho:ops[i]? =some o)(hx:aQ us i=some x):
  A2 ops us i=x.2\/S1 o=true\/lV o=true/\∀n∈x.2,∀k y ok,aQ us k=some y->ops[k]? =some ok->n∈y.1.ids->qR ok=true:=by
 unfold A2;rw[ho,hx];simp only;unfold Vm;split
 next h=>exact .inr (.inl h)
 split
 next h=>
  simp only[xf,xt,xar]at h;refine .inr<|.inr ⟨h.1,λn hn k y ok hy ab ad=>?_⟩;have hk:k<us.length:=by rw[aA]at hy;exact(xq.1 hy).1
  have:=h.2 n hn k hk;have aa:aQ ops.toList k=some ok:=by rw[aA];simpa using ab
  rw[hy,aa]at this;simp only[Z7,D9]at this;rcases this with h1|h1;·rw[has_iff.2 ad]at h1;cases h1
  ·exact h1
 next=>exact .inl rfl
theorem Sx{E:Env}{tt:Nat->TD}{ops:Array Oper}{s0:FS}{us:List (LU×List Nat)}(aa:∀k o x,ops[k]? =some o->aQ us k=some x->∃b,Step1 E tt (λj=>ops[j]?) o (aI s0 us (λ_=>true) k) x b)(ae:∀k x,aQ us k=some x->∃o,ops[k]? =some o)
  {n:Nat} (hn:∀k y ok,aQ us k=some y->ops[k]? =some ok->n∈y.1.ids->qR ok=true) (sel:Nat->Bool):∀m,LenEq (s0.2 n) ((aI s0 us sel m).2 n):=by
 have obj:∀k x,aQ us k=some x->LenEq (s0.2 n) ((aI s0 us (λ_=>true) k).2 n)->∀y,aM x.1.objs n=some y->LenEq (s0.2 n) (some y):=λk x hx hl y hy=>by
  obtain⟨o,ho⟩:=ae k x hx;obtain⟨b,h⟩:=aa k o x ho hx;cases b with
  |false=>have:=h.skip rfl;rw[this]at hy;cases hy
  |true=>
   obtain⟨c,ab,_⟩:=h.run rfl;have aa:=hn k x o hx ho (look_ids.1 ⟨y,hy⟩);cases c with
   |false=>exact hl.trans (Qn aa ab n y hy)
   |true=>rcases qL ab with⟨_,_,_,_,ad,_⟩|⟨_,_,ad,_⟩<;>unfold qR at aa<;>rw[ad]at aa<;>cases aa
 have step:∀{g:Nat->Option Ob} {x:LU×List Nat},LenEq (s0.2 n) (g n)->(∀y,aM x.1.objs n=some y->LenEq (s0.2 n) (some y))->LenEq (s0.2 n) (gA g x.1 n):=λ{g x} h1 h2=>by
  unfold gA;cases hl:aM x.1.objs n with
  |none=>exact h1
  |some y=>exact h2 y hl
 have full:∀m,LenEq (s0.2 n) ((aI s0 us (λ_=>true) m).2 n):=by
  intro m;induction m with
  |zero=>exact .inl rfl
  |succ m ih=>
   simp only[aI];cases hx:aQ us m with
   |none=>exact ih
   |some x=>exact step ih (obj m x hx ih)
 intro m;induction m with
 |zero=>exact .inl rfl
 |succ m ih=>
  simp only[aI];cases hx:aQ us m with
  |none=>exact ih
  |some x=>
   simp only;split;·exact step ih (obj m x hx (full m))
   ·exact ih
theorem S5{ops:List Oper}{p:Nat}(h:nI ops p=true):(∀i o,aQ ops i=some o->p<i->i-1∈bP o)/\(p≠ops.length->∀i,i<p->∃j o,i<j/\j<=p/\aQ ops j=some o/\i∈bP o):=by
 simp only[nI,xf,xt,xar,Z7]at h;obtain⟨h1,h2⟩:=h;constructor
 ·intro i o ho hp;have hi:i<ops.length:=by rw[aA]at ho;exact(xq.1 ho).1
  have:=h1 i hi;rw[ho]at this;simp only[Z7,D9,xbg]at this;rcases this with h|⟨e,he,aa⟩
  ·have:Nat.blt p i=true:=by simpa[xgv]using hp
   rw[this]at h;cases h
  ·rw[xg aa];exact he
 ·intro ab i hi;rcases h2 with h|h;·exact absurd (xg h) ab
  ·obtain⟨j,hj,hh⟩:=xbg.1 (h i hi);simp only[xf,xgv]at hh;obtain⟨ad,hh⟩:=hh;split at hh
   next o ho=>
    obtain⟨e,he,aa⟩:=xbg.1 hh;exact⟨j,o,ad,by have:=xar.1 hj;omega,ho,by rw[xg aa];exact he⟩
   next=>cases hh
theorem w8{f:Nat->Bool}:∀{n i:Nat},i<=B9 f n i/\B9 f n i<=i+n/\(B9 f n i=i+n\/f (B9 f n i)=true)
 |0,i=>⟨xm _,xm _,.inl rfl⟩
 |n+1,i=>by
  simp only[B9];split
  next h=>exact⟨xm _,by omega,.inr h⟩
  next=>
   obtain⟨h1,h2,h3⟩:=w8 (f:=f) (n:=n) (i:=i+1);exact⟨by omega,by omega,h3.imp (by omega) id⟩
theorem Fm(ops:List Oper):nI ops ops.length=true:=by
 simp only[nI,xf,xt,xar,Z7];refine⟨λi hi=>?_,.inl (xff _)⟩;split
 ·have:Nat.blt ops.length i=false:=by
   cases hb:Nat.blt ops.length i with
   |true=>rw[xgv]at hb;omega
   |false=>rfl
  rw[this];rfl
 ·rfl
theorem d7(ops:List Oper):jJ ops<=ops.length/\nI ops (jJ ops)=true:=by obtain⟨h1,h2,h3⟩:=w8 (f:=nI ops) (n:=ops.length) (i:=0);unfold jJ;refine⟨by omega,h3.elim (λh=>?_) id⟩;rw[h,P1];exact Fm ops
theorem PM{E:Env}{tt:Nat->TD}{ops:Array Oper}{ds:Nat->Bool}{s s1:St}{us:List (LU×List Nat)}(ht:(mG E tt (λj=>ops[j]?) ds (ops.toList.take (jJ ops.toList)) s []).ev=some (s1,us))
  (hc:P3 ops.toList (jJ ops.toList) s us=true):Plan E tt ops (jJ ops.toList) (s.slot,s.g) us (λi=>(aQ (wQ ops.toList []) i).getD [])/\(s1.slot,s1.g)=aI (s.slot,s.g) us (λ_=>true) (jJ ops.toList):=by
 obtain⟨bl,h1,h2,h3,h4⟩:=xO ht;simp only[J8]at h1;subst h1;obtain⟨ai,ay⟩:=d7 ops.toList;have hlen:us.length=jJ ops.toList:=by rw[h2,xw];omega
 have az:(ops.toList.take (jJ ops.toList)).length=jJ ops.toList:=by rw[xw];omega
 rw[az]at h4;obtain⟨ba,bc⟩:=S5 ay;have aa:∀i,aQ ops.toList i=ops[i]? :=λi=>by rw[aA];simp
 simp only[P3,xf,xt,xar]at hc;obtain⟨⟨c1,c3⟩,c4⟩:=hc;have ad:∀i o,ops[i]? =some o->∀e∈bP o,e<i:=λi o ho e he=>by
  simp only[JB,xt,xar]at c1;have hi:i<ops.toList.length:=by have:=(xba.1 ho).1;simpa using this
  have:=c1 i hi;rw[aa,ho]at this;simp only[xt,xgv]at this;exact this e he
 have ae:∀{k x},aQ us k=some x->k<jJ ops.toList:=λ{k x} h=>by rw[aA]at h;rw[<-hlen];exact(xq.1 h).1
 have ab:∀{l:List Nat} {n:Nat},has l n=true↔n∈l:=has_iff;have aj:∀{m z c},aQ us m=some z->z.1.und=some c->z.1.d≠none:=λ{m z c} hz hc hd=>by
  have al:=ae hz;obtain⟨om,bd⟩:∃om,ops[m]? =some om:=⟨_,F3 (by simpa using yF al ai)⟩
  obtain⟨bb,ao⟩:=h3 m om z (by rw[aA,Tq,qi al];simpa using bd) hz;cases bb with
  |false=>have:=ao.skip rfl;rw[this]at hc;cases hc
  |true=>
   obtain⟨cc,ah,_⟩:=ao.run rfl;cases cc with
   |false=>exact alu_und ah hc hd
   |true=>
    rcases qL ah with⟨_,_,_,_,_,_,_,_,e⟩|⟨_,_,_,_,e⟩
    ·rw[e]at hc;cases hc
    ·rw[e]at hd;cases hd
 refine⟨⟨by simpa using ai,hlen,λk o x ho hx=>h3 k o x ?_ hx,ad,λi o ho hp=>ba i o (by rw[aa];exact ho) hp,λhp i hi=>?_,λi o ho n hn=>?_,λi j oi oj x y be ar au hx hy=>?_,λk x b hx hu o ho=>?_⟩,h4⟩;·have hk:=ae hx;rw[aA,Tq,qi hk];simpa using ho
 ·obtain⟨j,o,h5,h6,h7,h8⟩:=bc (by simp;omega) i hi;exact⟨j,o,h5,h6,by rw[<-aa];exact h7,h8⟩
 ·obtain⟨a,k1,k2⟩:=O2 (l:=ops.toList) (acc:=[]) (k:=i) (o:=o) (by rw[aa];exact ho) λi' o' av e he=>by rw[aa]at av;simpa using ad i' o' av e he
  simp only[xy,P1]at k1;rw[k1,xT]at hn;rcases k2 n hn with h|⟨e,he,a',bf,bg⟩
  ·exact .inl h
  ·exact .inr ⟨e,he,by rw[bf];exact bg⟩
 ·have hj:=ae hy;have:=c3 j hj i be;unfold FW at this;rw[aa,aa,ar,au,hx,hy]at this;have bh:A2 ops us i=Vm ops.toList us oi x:=by unfold A2;rw[ar,hx]
  have bj:A2 ops us j=Vm ops.toList us oj y:=by unfold A2;rw[au,hy]
  rw[bh,bj];cases ha:aQ (wQ ops.toList []) j with
  |none=>rw[ha]at this;cases this
  |some a=>
   rw[ha]at this;simp only[Z7,apart,xf,Gj]at this;rcases this with h|⟨⟨⟨k1,k2⟩,k3⟩,k4⟩
   ·exact .inl (ab.1 h)
   ·refine .inr ⟨λt ht=>?_,disj_iff.1 k2,λn hn=>?_,disj_iff.1 k4⟩;·have:=disj_iff.1 k1 t ht;exact⟨λh=>this (D1 _ h),λh=>this (Bt _ h)⟩
    ·have:=disj_iff.1 k3 n hn;exact⟨λh=>this (D1 _ h),λh=>this (Bt _ h)⟩
 ·have hk:=ae hx;have:=c4 k hk;rw[hx]at this;simp only[WO,hu,xt,xf,Z7]at this;obtain⟨⟨k1,k2⟩,k3⟩:=this o ho;refine⟨λt ht=>?_,λq y hq hy=>?_,λn y hy bk aw=>?_⟩
  ·simp only[St.slot];cases hl:aM s.fr t with
   |none=>exact .inl rfl
   |some v=>
    rcases k1 _ (dX hl)with(h|h)|h;·exact absurd (xg h) ht
    ·exact .inl h
    ·refine .inr ?_;unfold Me at h;split at h
     next ak af=>
      obtain⟨m,hm,hh⟩:=xbg.1 h;simp only[xf]at hh;obtain⟨h8,h9⟩:=hh;split at h9
      next z hz=>
       split at h9
       next c hc=>exact⟨m,z,by rw[af,xT];exact ab.1 h8,hz,by rw[hc,xg h9],aj hz hc⟩
       next=>cases h9
      next=>cases h9
     next=>cases h
  ·rcases k2 _ (dX hy)with h|h;·exact absurd (xg h) hq
   ·exact h
  ·have hn:=ae hy;have:=k3 n (xar.2 (by rw[hlen];exact hn));rw[hy]at this;cases ha:aQ (wQ ops.toList []) n with
   |none=>rw[ha]at this;simp at this
   |some a=>
    cases af:aQ (wQ ops.toList []) k with
    |none=>rw[ha,af]at this;simp at this
    |some ak=>
     rw[ha,af]at this;simp only[Z7,xf,xt]at this;rw[ha,xT]at aw;rcases this with(h|h)|⟨h5,h6⟩
     ·exact absurd (xg h) bk
     ·exact absurd (ab.1 h) aw
     ·refine⟨λq hq=>?_,λq hq=>(h6 q hq).imp xg id⟩;rw[hq]at h5;simp only[Z7]at h5;rcases h5 with(h|h)|h;·exact .inl h
      ·exact .inr (.inl (xg h))
      ·obtain⟨m,hm,hh⟩:=xbg.1 h;simp only[xf,xgv]at hh;obtain⟨⟨h7,h8⟩,h9⟩:=hh;split at h9
       next z hz=>
        split at h9
        next c hc=>
         refine .inr (.inr ⟨m,z,h7,?_,hz,by rw[hc,xg h9],?_⟩);·simp only[af,xT];exact ab.1 h8
         ·exact aj hz hc
        next=>cases h9
       next=>cases h9
where
 alu_und {E:Env} {tt:Nat->TD} {g:Nat->Option Ob} {f:Operand->AV} {o:Oper} {u:LU} (h:(vF E tt g f o).ev=some u) {c:Nat} (hc:u.und=some c) (hd:u.d=none):False:=by
  unfold vF at h;split at h
  ·unfold pR at h
   repeat' split at h
   all_goals first
    |(cases h;done)
    |(simp only[qq,xe]at h;subst h;cases hc;done)
    |(obtain⟨_,h⟩:=ev_g h;simp only[qq,xe]at h;subst h;cases hc;done)
  ·repeat' split at h
   all_goals first
    |(cases h;done)
    |unfold gS at h
    |unfold mL at h
   all_goals repeat' split at h
   all_goals first
    |(cases h;done)
    |(obtain⟨_,h⟩:=ev_g h;simp only[qq,xe]at h;subst h;cases hd;done)
  ·rw[Tr.ev_bind]at h;obtain⟨q,_,h⟩:=xdq.1 h;split at h;·simp only[qq,xe]at h;subst h;cases hd
   ·cases h
  ·rw[Tr.ev_bind]at h;obtain⟨q,_,h⟩:=xdq.1 h;split at h;·simp only[qq,xe]at h;subst h;cases hd
   ·cases h
  ·cases h
end
section
open Go.RowKit (Below)
section
variable {P:Program}{E:Env}{tt:Nat->TD}{ops:Array Oper}{p:Nat}{s0:FS}{us:List (LU×List Nat)}{an:Nat->List Nat}
 {X:Nat->Prop} {lo:Nat->Prop} {N:Par} {w0 w:World} {μ:Nat->Option MV} {g:Nat->Option Ob} {a:Act} {o:Oper}
theorem sJ{listed:Array Bool}{i:Nat}(hi:i<listed.size)(j:Nat):(listed.setIfInBounds i true)[j]? =if i=j then some true else listed[j]? :=by
 rw[Array.getElem?_setIfInBounds];split
 next e=>rfl
 next=>rfl
theorem iC{listed:Array Bool}{i:Nat}(hs:listed.size=ops.size):i∈Region.ready .any ops listed↔∃o,ops[i]? =some o/\listed[i]? ≠some true/\∀e∈bP o,listed[e]? =some true:=by
 unfold Region.ready;simp only[xak,xar,xf,D9];constructor
 ·rintro⟨hi,h1,h2⟩;refine⟨ops[i],F3 hi,λe=>by simp[xn,e]at h1,λe he=>?_⟩;rw[F3 hi]at h2;simp only[oG,xT,xgj]at h2;obtain⟨x,hx,rfl⟩:=xaf.1 he;obtain⟨ad,ae⟩:=xak.1 hx;obtain⟨k,hk,aa⟩:=JK ad;have:=h2 k (by simpa using hk);simp only[Array.getElem_toList]at aa;rw[aa]at this;simp only[ae,xl,xei]at this;cases hl:listed[x.on]? with|none=>simp[xn,hl]at this|some b=>simp[xn,hl]at this;rw[this]
 ·rintro⟨o,ho,h1,h2⟩;have hi:i<ops.size:=by
   rcases Ya i ops.size with h|h;·exact h
   ·rw[xcr h]at ho;cases ho
  refine⟨hi,?_,?_⟩
  ·have ab:i<listed.size:=by omega
   rw[F3 ab]at h1;simp[ab];simpa using h1
  ·rw[ho];simp only[oG,xT,xgj,Z7,D9];intro k hk;cases hb:Region.binds .any o.after[k]with|false=>exact .inl rfl|true=>refine .inr ?_;have:=h2 _ (xaf.2 ⟨o.after[k],xak.2 ⟨by simp,hb⟩,rfl⟩);simp[xn,this]
def Or(s0:FS)(us:List (LU×List Nat))(sel:Nat->Bool)(t n:Nat):Prop:=((aI s0 us sel n).1 t=s0.1 t/\∀m z,m<n->aQ us m=some z->sel m=true->t∉z.1.touch)\/(aI s0 us sel n).1 t=.undef\/
  ∃k x,k<n/\aQ us k=some x/\sel k=true/\x.1.d=some (t,(aI s0 us sel n).1 t)/\∀m z,k<m->m<n->aQ us m=some z->sel m=true->t∉z.1.touch
theorem N2{sel:Nat->Bool}{t:Nat}:∀n,Or s0 us sel t n
 |0=>.inl ⟨rfl,λm z h=>absurd h (xex m)⟩
 |n+1=>by
  have ih:=N2 (sel:=sel) (t:=t) n;have keep:(aI s0 us sel (n+1)).1 t=(aI s0 us sel n).1 t->(∀z,aQ us n=some z->sel n=true->t∉z.1.touch)->Or s0 us sel t (n+1):=λe hz=>by
   unfold Or at ih⊢;rw[e];rcases ih with h|h|⟨k,x,h1,h2,h3,h4,h5⟩
   ·refine .inl ⟨h.1,λm z k2 k3 k4=>?_⟩;by_cases e':m=n;·subst e';exact hz z k3 k4
    ·exact h.2 m z (by omega) k3 k4
   ·exact .inr (.inl h)
   ·refine .inr (.inr ⟨k,x,by omega,h2,h3,h4,λm z k1 k2 k3 k4=>?_⟩);by_cases e':m=n;·subst e';exact hz z k3 k4
    ·exact h5 m z k1 (by omega) k3 k4
  cases hx:aQ us n with
  |none=>exact keep (by simp only[aI,hx]) λz hz=>by rw[hx]at hz;cases hz
  |some x=>
   cases hs:sel n with
   |false=>exact keep (by simp only[aI,hx,hs,tJ,if_false]) λz _ h=>by rw[hs]at h;cases h
   |true=>
    have e:(aI s0 us sel (n+1)).1 t=zX (aI s0 us sel n).1 x.1 t:=by simp only[aI,hx,hs,if_true,vD]
    by_cases ht:t∈x.1.touch
    ·obtain⟨⟨d,und,objs⟩,nm⟩:=x;unfold LU.touch at ht;unfold zX at e;cases d with
     |none=>simp at ht
     |some q=>
      simp only at ht e;by_cases hq:q.1=t;·rw[qi hq]at e;refine .inr (.inr ⟨n,_,Nat.lt_succ_self n,hx,hs,?_,λm z k1 k2=>by omega⟩);rw[e,<-hq]
      ·rw[qh hq]at e;cases und with
       |none=>simp only[xo]at ht;exact absurd ht.symm hq
       |some b=>
        simp only[xae,Ze,qm]at ht e;rcases ht with ht|ht;·exact absurd ht.symm hq
        ·rw[qi ht.symm]at e;exact .inr (.inl e)
    ·exact keep (by rw[e,nN ht]) λz hz _=>by rw[hx]at hz;cases hz;exact ht
def Md(s0:FS)(us:List (LU×List Nat))(sel:Nat->Bool)(q n:Nat):Prop:=(aI s0 us sel n).2 q=s0.2 q\/∃k x y,aQ us k=some x/\sel k=true/\(q,y)∈x.1.objs/\(aI s0 us sel n).2 q=some y
theorem Aa[Tabs]{sel:Nat->Bool}{q:Nat}:∀n,Md s0 us sel q n
 |0=>.inl rfl
 |n+1=>by
  have ih:=Aa (sel:=sel) (q:=q) n;have keep:(aI s0 us sel (n+1)).2 q=(aI s0 us sel n).2 q->Md s0 us sel q (n+1):=λe=>by unfold Md at ih⊢;rw[e];exact ih
  cases hx:aQ us n with
  |none=>exact keep (by simp only[aI,hx])
  |some x=>
   cases hs:sel n with
   |false=>exact keep (by simp only[aI,hx,hs,tJ,if_false])
   |true=>
    have e:(aI s0 us sel (n+1)).2 q=gA (aI s0 us sel n).2 x.1 q:=by simp only[aI,hx,hs,if_true,vD]
    unfold gA at e;cases hl:aM x.1.objs q with
    |none=>rw[hl]at e;exact keep e
    |some y=>rw[hl]at e;exact .inr ⟨n,x,y,hx,hs,dX hl,e⟩
theorem KD[Tabs]{w':World}{o:Nat}{mv':MV}{v:AV}{x:Value}(hc:SD o v=true)(hm:Mem P X lo g μ w)(h:RelV P w lo μ (SS X μ) v x)
  (hd:∀b,b<w.heap.size->SS X μ b->SS X (again μ o mv') b/\w'.heap[b]? =w.heap[b]?) (hk:Kept lo w w'):RelV P w' lo (again μ o mv') (SS X (again μ o mv')) v x:=by
 have main:yN o .undef v=v->RelV P w' lo (again μ o mv') (SS X (again μ o mv')) v x:=λe=>by have:=mJ (d:=.undef) (μ':=again μ o mv') hm.hlo (λp mv aa hp=>iS aa hp) (λ_ _=>.undef) (λ_ _ h=>h) h;rw[e]at this;exact this.step (λ_ _ h=>h) hm.hlo hd hk.block
 cases v with
 |skip=>cases h;exact .skip
 |tup vs=>simp only[SD,xt]at hc;exact main (by simp only[yN];rw[mT λc h=>V9 (hc c h)])
 |_=>exact main (by simp only[SD]at hc;simpa only[yN]using V9 hc)
theorem D5[Tabs](hT:aW P tt)(hm:Mem P X lo g μ w){f:Operand->AV}(hf:∀x,RelV P w lo μ (SS X μ) (f x) (a.eval x))(aa:fJ o=true){u:LU}(h:(vF E tt g f o).ev=some u):
  (∃d b i x,o.dst=some d/\u=⟨some (d,.arr i),some b,[(i,x)]⟩/\QOK P o a w (λv w'=>∃mv',NxA P X lo μ w i x w' mv'/\RelV P w' lo (again μ i mv') (SS X (again μ i mv')) (.arr i) v))\/
  (u.und=none/\o.dst=u.d.map (·.1)/\(u.objs.map (·.1)).Nodup/\QOK P o a w (λx w'=>∃μ',NxU P X lo g μ w u.objs [] w' μ'/\∀p,u.d=some p->RelV P w' lo μ' (SS X μ') p.2 x)):=by
 unfold vF at h;split at h
 ·rename_i ho _;unfold fJ at aa;rw[ho]at aa;cases aa
 ·rename_i as ts d ho hd
  split at h
  next b y ty al has ai=>
   split at h
   next aj=>
    subst aj;have e1:as= #[.tmp b,y]:=by rw[<-Uk (xs:=as),has]
    have e2:ts= #[ty,ty]:=by rw[<-Uk (xs:=ts),ai]
    split at h
    next p i ad=>
     have ab:=hf (.tmp b);rw[ad]at ab;obtain⟨k1,k2,k3,_,v',w',μ',k4,k5,k6⟩:=xG (rt:=o.type) hT hm h ab (hf y);refine .inr ⟨k1,by rw[hd];exact k2,k3,λK Q hK=>?_⟩;unfold Oper.wp execOp;simp only[ho,e1,e2,resolve,invoke,builtin,Sem.run_bind,Sem.run_pure,Result.andThen_ok,xeq,M8,xer,k4];exact hK _ w' ⟨μ',k5,k6⟩
    refine .inl ?_;unfold mL at h;split at h
    ·rename_i e t ao he
     split at h
     next src ah=>
      split at h
      ·rename_i i ad
       split at h
       next e' t' l hg=>
        split at h
        next l' ae=>
         obtain⟨et,af⟩:=Ty.cast_spec ae;cases et;have af:l'=l:=af;subst af;split at h
         next ak=>
          obtain⟨rfl,hb0⟩:=ak;obtain⟨hle,h⟩:=ev_g h;simp only[qe]at hle;simp only[qq,xe]at h;subst h;have ab:=hf (.tmp b);rw[ad]at ab;obtain⟨v',w',mv',h1,h2,h3⟩:=y6 (rt:=o.type) hT hm he hg hb0 hle ah ab (hf y);refine⟨d,b,i,_,hd,rfl,λK Q hK=>?_⟩;unfold Oper.wp execOp;simp only[ho,e1,e2,resolve,invoke,builtin,Sem.run_bind,Sem.run_pure,Result.andThen_ok,xeq,M8,xer,h1];exact hK _ w' ⟨mv',h2,h3⟩
         next=>cases h
        next=>cases h
       next=>cases h
      ·cases h
     next=>cases h
    ·cases h
   next=>cases h
  next=>cases h
 ·rename_i ho _;unfold fJ at aa;rw[ho]at aa;cases aa
 ·rename_i d hd _ _
  unfold fJ at aa;split at aa
  ·rename_i ho
   unfold aq at h;rw[ho,hd]at h;simp only[Tr.ev_bind,Tr.ev_f,Option.bind_none]at h;cases h
  ·cases aa
 ·cases h
theorem RelF.forget[Tabs]{sl:Nat->AV}{G:Nat->Option Ob}{p:Nat×AV}{b:Nat}{os:List (Nat×Ob)}(h:RelF P X lo N w0 (zX sl ⟨some p,none,os⟩) G a w μ):RelF P X lo N w0 (zX sl ⟨some p,some b,os⟩) G a w μ:=by
 refine⟨h.mem,λi=>?_,h.bel,h.df,h.sz⟩;have:=h.fr i;simp only[zX]at this⊢;by_cases e:p.1=i;·rw[qi e]at this⊢;exact this
 ·rw[qh e]at this⊢;by_cases e':b=i;·rw[qi e'];exact .undef
  ·rw[qh e'];exact this
theorem RelF.app[Tabs]{sl:Nat->AV}(h:RelF P X lo N w0 sl g a w μ){d b i:Nat}{x:Ob}{w':World}{mv':MV}{v:Value}(ab:N.has d)(hn:NxA P X lo μ w i x w' mv')(hv:RelV P w' lo (again μ i mv') (SS X (again μ i mv')) (.arr i) v)
  (ae:∀t,t≠b->SD i (sl t)=true) (af:∀q y,q≠i->g q=some y->Ev i y=true):RelF P X lo N w0 (zX sl ⟨some (d,.arr i),some b,[(i,x)]⟩) (gA g ⟨some (d,.arr i),some b,[(i,x)]⟩) (a.put (some d) v) w' (again μ i mv'):=by
 have ad:=hn.kept.block;refine⟨⟨h.mem.hX,λb hb=>yF (h.mem.hlo b hb) hn.kept.size,λp mv hp=>?_,hn.dis h.mem,h.mem.tab.step hn.kept.block⟩,λt=>?_,h.bel.trans hn.kept,by simpa[Act.put]using h.df,h.sz.put ab⟩
 ·rcases aP hp with⟨rfl,rfl⟩|⟨aa,hp⟩
  ·exact⟨x,by simp[gA,aM],hn.ob⟩
  ·obtain⟨y,hy,ah⟩:=h.mem.ob p mv hp;refine⟨y,by simp[gA,aM,aZ (xB aa),hy],?_⟩;have:=(jW (d:=.undef) (μ':=again μ i mv') h.mem.hlo (λp mv aa hp=>iS aa hp) (λ_ _=>.undef) (λ_ _ h=>h) ah)
   rw[HF (af p y aa hy)]at this;exact this.step h.mem.hlo (λ_ _ h=>h) hn.data ad (hn.other h.mem hp aa)
 ·rw[zP (by rw[h.sz.n];exact ab.2)];simp only[zX];by_cases e:d=t;·rw[qi e,qi e];exact hv
  ·rw[qh e,qh e];by_cases e':b=t;·rw[qi e'];exact .undef
   ·rw[qh e'];exact KD (ae t (xB e')) h.mem (h.fr t) hn.data hn.kept
end
end
end Go.Proofs.YtjiljcblmgeioaaGreatDoor
