/-
 A row is appended to rows that are owned.
-/
import Derived.Test.YteiekijgoifhoaaGreatDoorB34
namespace Go.Proofs.YteiekijgoifhoaaGreatDoor
open Go.RowKit (Below)
section
variable {P:Program} {tt:Nat→TD} {w:World} {lo:Nat→Prop} {N:Par} {μ:Nat→Option MV} {S:Nat→Prop} {X:Nat→Prop} {g:Nat→Option Ob} {a:Act} {E:Env} {w0:World}
theorem noRows_rel[Tabs]{s:St}(h:Rel P X lo N w0 s a w μ){d e e2:Nat}{t:Ty}(hg:s.g d=none):
  Rel P X lo N w0 {fr:=s.fr,ob:=(d,.rows e e2 t [] none)::s.ob} a w (again μ d ⟨.slice none 0 0,[],[]⟩):=by
 have aa:μ d=none:=by
  cases hm:μ d with
  |none=>rfl
  |some mv=>obtain⟨y,hy,_⟩:=h.mem.ob d mv hm;rw [hg] at hy;cases hy
 have hS:∀b,b<w.heap.size→SS X μ b→SS X (again μ d ⟨.slice none 0 0,[],[]⟩) b:=fun b _ hs=>⟨hs.1,fun q mv hq hb=>by
  rcases again_inv hq with⟨_,rfl⟩|⟨_,hq⟩
  ·cases hb
  ·exact hs.2 q mv hq hb⟩
 have hμ:∀q mv,μ q=some mv→again μ d ⟨.slice none 0 0,[],[]⟩ q=some mv:=fun q mv hq=>again_ne (fun e=>by rw [e,aa] at hq;cases hq) hq
 refine⟨⟨h.mem.hX,h.mem.hlo,fun q mv hq=>?_,fun p q ab ad b h1 h2 h3 h4=>?_,h.mem.tab⟩,fun j=>(h.fr j).step hμ h.mem.hlo (fun b hb hs=>⟨hS b hb hs,rfl⟩) fun _ _=>rfl,h.bel,h.df,h.sz⟩
 ·rcases again_inv hq with⟨rfl,rfl⟩|⟨ae,hq⟩
  ·refine⟨.rows e e2 t [] none,by simp [St.g,look],⟨World.ownsRow_nil _ 0 e 1,fun b hb=>(by simp [rootV] at hb),fun b hb=>(by cases hb),fun x hx=>(by cases hx),fun j x r _ hx=>(by simp at hx),fun j k x y b _ _ hx=>(by simp at hx)⟩,fun i d hd=>by cases hd⟩
  ·obtain⟨y,hy,af⟩:=h.mem.ob q mv hq
   refine⟨y,?_,af.step h.mem.hlo hμ (fun b hb hs=>⟨hS b hb hs,rfl⟩) (fun _ _=>rfl) fun _ _=>rfl⟩
   simp only [St.g,look,beq_ne (xcc ae)]
   exact hy
 ·rcases again_inv h1 with⟨_,rfl⟩|⟨_,k1⟩
  ·cases h3
  ·rcases again_inv h2 with⟨_,rfl⟩|⟨_,k2⟩
   ·cases h4
   ·exact h.mem.dis p q ab ad b k1 k2 h3 h4
theorem appRow_ok[Tabs](hT:TabOK P tt){s:St}(h:Rel P X lo N w0 s a w μ){d o q p ty rt e e2 eq e3 b:Nat}{te t t':Ty}{l:List (List t.I)}{l':List (List t'.I)}(bf:N.has d)(bg:tt ty=.sl e te b)(au:te.size=1)(hb0:0<b)
  (bh:s.g o=some (.rows e e2 t l none)) (bj:s.g q=some (.rows eq e3 t' l' (some (0,some p)))) (bb:l'.length=1) (bk:o≠q) (bl:o≠p) (bm:p≠q) (hle:(l.length+1)*b≤140737488355328) {va x:Value} (ha:RelV P w lo μ (SS X μ) (.arr o) va) (hx:RelV P w lo μ (SS X μ) (.arr q) x):
  ∃v' w' μ',(Builtin.append_ #[ty,ty] rt #[va,x]).run P w=.ok v' w'∧Rel P X lo N w0 (appRow s d o q p e e2 t l) (a.put (some d) v') w' μ':=by
 have hd:=hT ty
 rw [bg] at hd
 obtain⟨hu,⟨i,z,hi,hs,bn,hz,bo⟩,_⟩:=hd
 have bp:z.cells.size=te.size:=by simpa using isZ_len bo
 cases ha with
 | @arr _ _ a0 n0 c0 rs ab hμ=>
 cases hx with
 | @arr _ _ a1 n1 c1 rq bc br=>
 obtain⟨y,hy,aw⟩:=h.mem.ob _ _ hμ
 rw [bh] at hy
 cases hy
 obtain⟨hr,_⟩:=aw
 obtain⟨y,hy,aw⟩:=h.mem.ob _ _ br
 rw [bj] at hy
 cases hy
 obtain⟨ak,bs⟩:=aw
 obtain⟨x0,rp,bt,k1,k2⟩:=bs 0 p rfl
 have ay:=ak.len
 rw [bb] at ay
 simp only at ay k1
 have af:bc=[x0]:=by
  match bc,ay with
  | [y],_=>simp at k1;rw [k1]
 have bu:x0.oneCell'=true:=by
  obtain⟨a2,n2,c2,rfl⟩:=ak.slc x0 (by rw [af];simp)
  rfl
 have ae:=hr.own
 have aa:=ak.own
 simp only at ae aa
 rw [bb,af] at aa
 rcases aa.2 with⟨_,e0⟩|⟨bq,cg,ch,bw,_,cj,_,_,_,_⟩
 ·cases e0
 cases bw
 rw [←au] at ae
 obtain⟨v',w',m1,m2,m3,m4,m5,m6,m7,m8,av,nv,cv,bd⟩:=append_own (rt:=rt) (c:=c1) (ax:=some ⟨bq,0,none⟩) (m:=1) hu hi hs bn hz bp ae (news:=[x0]) (by simp [au]) (fun e=>by cases e)
  (fun ad e j u hu=>by cases e;exact aa.cells (g:=bq) rfl j u hu) (fun u hu=>by simp at hu;subst hu;exact bu) hle hb0
 rw [au] at m2 ae
 -- the rows q ck az
 have h1:Rel P X lo N w0 (s.swap q .undef []) a w (without μ q):=h.swap fun mv _=>.undef
 have al:without μ q o=some ⟨.slice a0 n0 c0,rs,ab⟩:=without_ne bk hμ
 have hlen:=hr.len
 simp only at hlen
 have ao:∀k,rootV v'=some k→k∈rs∨w.heap.size≤k:=fun k hk=>(m8 k hk).imp (fun h=>hr.top k h) id
 have ba:Kept lo w w':=⟨m3,m4,m5,m6,fun k hk=>m7 k (h.mem.hlo k hk) fun e=>(hr.low k (hr.top k e)).1 hk⟩
 have ah:∀k,k∈(rootV v').toList++rs→k∈rs∨w.heap.size≤k:=fun k hk=>by
  rcases xq.1 hk with hk|hk
  ·exact ao k (by simpa using hk)
  ·exact .inl hk
 have ai:∀k,k<w.heap.size→SS X (without μ q) k→SS X (again (without μ q) o ⟨v',(rootV v').toList++rs,ab++ [x0]⟩) k∧w'.heap[k]? =w.heap[k]? :=fun k hk hS=>⟨⟨hS.1,fun p' mv hp be=>by
  rcases again_inv hp with⟨rfl,rfl⟩|⟨_,hp⟩
  ·rcases ah k be with h'|h'
   ·exact hS.2 _ _ al h'
   ·omega
  ·exact hS.2 p' mv hp be⟩,m7 k hk fun e=>hS.2 o _ al (hr.top k e)⟩
 have bz:∀ {j:Nat} {y:Value} {r:List t.I},ab[j]? =some y→l[j]? =some r→∀k,rootV y=some k→k∈rs∧rootV (.slice a0 n0 c0)≠some k:=fun{j y r} hy hq k hk=>(hr.row j y r (fun i k hk=>by cases hk) hy hq).1 k hk
 have ca:NxA P X lo (without μ q) w o (.rows e e2 t (l++ [[]]) (some (l.length,some p))) w' ⟨v',(rootV v').toList++rs,ab++ [x0]⟩:=by
  refine⟨ba,ai,⟨⟨?_,fun k hk=>xag _ (by simp [show rootV v'=some k from hk]),fun k hk=>?_,fun y hy=>?_,fun j y r hj hy hq=>?_,fun j k y z kb hj hk hy hz h3 h4=>?_⟩,fun i' d' cb=>?_⟩,fun k hk=>?_,fun k hk hn=>?_⟩
  ·rw [xj]
   exact m2
  ·rcases ah k hk with h'|h'
   ·exact⟨(hr.low k h').1,xan (hr.low k h').2 m6⟩
   ·refine⟨fun hl=>by have:=h.mem.hlo k hl;omega,?_⟩
    have aj:rootV v'=some k:=by
     rcases xq.1 hk with hk|hk
     ·simpa using hk
     ·have:=(hr.low k hk).2;omega
    rcases m2.2 with⟨e1,_⟩|⟨gb,cap,cur,e1,_,hh,_⟩
    ·rw [e1] at aj;simp [rootV] at aj
    ·rw [e1] at aj
     simp only [rootV,xc] at aj
     subst aj
     exact(xau.1 hh).1
  ·rcases xq.1 hy with hy|hy
   ·exact hr.slc y hy
   ·simp at hy
    subst hy
    exact ak.slc y (by rw [af];simp)
  ·have cm:j≠l.length:=hj _ _ rfl
   have cn:j<l.length:=by
    have:=(xk.1 hq).1
    simp at this
    omega
   rw [xab (by omega)] at hy hq
   obtain⟨z1,ys,z2,z3⟩:=hr.row j y r (fun i k hk=>by cases hk) hy hq
   refine⟨fun k hk=>⟨xal _ (z1 k hk).1,fun cc=>?_⟩,ys,ownsRow_same z2 fun k hk=>m7 k (hr.low k (z1 k hk).1).2 (z1 k hk).2,z3.step fun k hk hs=>ai k hk (SS_without hs)⟩
   rcases m8 k cc with h'|h'
   ·exact(z1 k hk).2 h'
   ·have:=(hr.low k (z1 k hk).1).2;omega
  ·have hb:∀ {j:Nat} {y:Value},inRow (some (l.length,some p)) j→(ab++ [x0])[j]? =some y→j<ab.length:=fun{j y} hj hy=>by
    have:=(xk.1 hy).1
    have:=hj l.length (some p) rfl
    simp at*
    omega
   have cd:=hb hj hy
   have cf:=hb hk hz
   simp only at hy hz
   rw [xab cd] at hy
   rw [xab cf] at hz
   exact hr.apart j k y z kb (fun i k hk=>by cases hk) (fun i k hk=>by cases hk) hy hz h3 h4
  ·cases cb
   refine⟨x0,rp,bt,?_,again_ne (xcc bl) (without_ne bm k2)⟩
   simp only
   rw [←hlen,xz (xm _)]
   simp
  ·rcases ah k hk with h'|h'
   ·exact .inl ⟨_,al,h'⟩
   ·exact .inr h'
  ·exact m7 k hk fun e=>hn _ al (hr.top k e)
 have h2:=h1.appd ca
 have h3:=h2.put (d:=d) bf (v:=.arr o) (x:=v') (by rw [bd];exact .arr (rs:=(rootV v').toList++rs) (hs:=ab++ [x0]) (by rw [again_self,bd]))
 obtain⟨μ',h4⟩:=h3.backR ⟨_,again_self⟩ p
 exact⟨v',w',μ',m1,h4⟩
theorem Rel.give[Tabs]{s:St}(h:Rel P X lo N w0 s a w μ){o q e e2:Nat}{t:Ty}{l:List (List t.I)}(ak:o≠q)(af:s.g o=some (.rows e e2 t l none)):Rel P X lo N w0 (s.swap q .undef []) a w (given μ o q):=by
 have hS:∀b,b<w.heap.size→SS X μ b→SS X (given μ o q) b:=fun b _ hs=>⟨hs.1,fun p mv hp hb=>by
  obtain⟨p0,mv0,h1,h2,_⟩:=given_rs hp hb
  exact hs.2 p0 mv0 h1 h2⟩
 have hμ:∀p mv,p≠q→μ p=some mv→∃rs hs,given μ o q p=some ⟨mv.v,rs,hs⟩∧Ext mv.hs hs:=fun p mv ab hp=>by
  unfold given
  rw [if_neg ab]
  split
  next e=>subst e;rw [hp];exact⟨_,_,rfl,Ext.refl _⟩
  next=>exact⟨mv.rs,mv.hs,hp,Ext.refl _⟩
 refine⟨⟨h.mem.hX,h.mem.hlo,fun p mv hp=>?_,fun p p' mv mv' b h1 h2 h3 h4=>?_,h.mem.tab⟩,fun i=>?_,h.bel,h.df,h.sz⟩
 ·obtain⟨ab,ah⟩:=given_inv hp
  have aa:∀ {x:Ob},s.g p=some x→(s.swap q .undef []).g p=some (frzOb q .undef x):=fun{x} hx=>by
   simp only [St.g,St.swap,xbu,look_map]
   rw [look_filter q s.ob p ab]
   simp only [St.g] at hx
   rw [hx]
   rfl
  rcases ah with⟨rfl,mv0,h0,rfl⟩|⟨al,h0⟩
  ·obtain⟨x,hx,ad⟩:=h.mem.ob p mv0 h0
   rw [af] at hx
   cases hx
   obtain⟨hr,_⟩:=ad
   refine⟨.rows e e2 t l none,aa af,⟨hr.own,fun b hb=>xag _ (hr.top b hb),fun b hb=>?_,hr.slc,fun j y r hj hy hq=>?_,hr.apart⟩,fun i d hd=>by cases hd⟩
   ·rcases xq.1 hb with hb|hb
    ·exact hr.low b hb
    ·cases hq:μ q with
     |none=>rw [hq] at hb;simp at hb
     |some ai=>
      rw [hq] at hb
      have hb:b∈ai.rs:=by simpa using hb
      exact h.mem.lt hq hb
   ·obtain⟨z1,ys,z2,z3⟩:=hr.row j y r hj hy hq
    exact⟨fun b hb=>⟨xag _ (z1 b hb).1,(z1 b hb).2⟩,ys,z2,z3.step fun b hb hs=>⟨hS b hb hs,rfl⟩⟩
  ·obtain⟨x,hx,ad⟩:=h.mem.ob p mv h0
   exact⟨frzOb q .undef x,aa hx,frzOb_relH h.mem.hlo hμ (fun _ _=>.undef) hS ad⟩
 ·obtain⟨p0,mv0,a1,a2,a3⟩:=given_rs h1 h3
  obtain⟨p1,aj,b1,b2,b3⟩:=given_rs h2 h4
  have ae:=h.mem.dis p0 p1 mv0 aj b a1 b1 a2 b2
  have n1:=(given_inv h1).1
  have n2:=(given_inv h2).1
  rcases a3 with rfl|⟨e1,e2⟩<;>rcases b3 with rfl|⟨f1,f2⟩
  ·exact ae
  ·exact absurd (ae.trans f1) n1
  ·exact absurd (ae.symm.trans e1) n2
  ·rw [e2,f2]
 ·simp only [St.slot,St.swap,look_map]
  have:=frz2_relH (d:=.undef) h.mem.hlo hμ (fun _ _=>.undef) hS (h.fr i)
  simp only [St.slot] at this
  cases hl:look s.fr i with
  |none=>exact .undef
  |some v=>rw [hl] at this;exact this
theorem appRows_ok[Tabs](hT:TabOK P tt){s:St}(h:Rel P X lo N w0 s a w μ){d o q ty rt e e2 b:Nat}{te t:Ty}{l l2:List (List t.I)}(bp:N.has d)(br:tt ty=.sl e te b)(bb:te.size=1)(hb0:0<b)
  (bs:s.g o=some (.rows e e2 t l none)) (bh:s.g q=some (.rows e e2 t l2 none)) (bc:o≠q) (hle:(l.length+l2.length)*b≤140737488355328) {va x:Value} (ha:RelV P w lo μ (SS X μ) (.arr o) va) (hx:RelV P w lo μ (SS X μ) (.arr q) x):
  ∃v' w' μ',(Builtin.append_ #[ty,ty] rt #[va,x]).run P w=.ok v' w'∧Rel P X lo N w0 (appRows s d o q e e2 t (l++l2)) (a.put (some d) v') w' μ':=by
 have hd:=hT ty
 rw [br] at hd
 obtain⟨hu,⟨i,z,hi,hs,bt,hz,bu⟩,_⟩:=hd
 have bw:z.cells.size=te.size:=by simpa using isZ_len bu
 cases ha with
 | @arr _ _ a0 n0 c0 rs ak hμ=>
 cases hx with
 | @arr _ _ a1 n1 c1 rq ae bd=>
 obtain⟨y,hy,be⟩:=h.mem.ob _ _ hμ
 rw [bs] at hy
 cases hy
 obtain⟨hr,_⟩:=be
 obtain⟨y,hy,be⟩:=h.mem.ob _ _ bd
 rw [bh] at hy
 cases hy
 obtain⟨aa,_⟩:=be
 have bj:=aa.len
 have hlen:=hr.len
 simp only at bj hlen
 have ai:=hr.own
 have ab:=aa.own
 simp only at ai ab
 rw [←bb] at ai
 have bz:n1=l2.length:=by
  rcases ab.2 with⟨e0,e1⟩|⟨bq,az,ba,al,_⟩
  ·cases e0;exact e1.symm
  ·cases al;rfl
 subst bz
 have bk:∀u∈ae,u.oneCell'=true:=fun u hu=>by
  obtain⟨a2,n2,c2,rfl⟩:=aa.slc u hu
  rfl
 obtain⟨v',w',m1,m2,m3,m4,m5,m6,m7,m8,av,nv,cv,bl⟩:=append_own (rt:=rt) (c:=c1) (ax:=a1) (m:=l2.length) hu hi hs bt hz bw ai (news:=ae) (by rw [bb,bj];omega) (fun e=>by
   subst e
   rcases ab.2 with⟨_,e1⟩|⟨bq,az,ba,al,_⟩
   ·exact e1
   ·cases al)
  (fun ad e j u hu=>by
   subst e
   rcases ab.2 with⟨e0,_⟩|⟨bq,az,ba,al,_⟩
   ·cases e0
   ·cases al
    exact ab.cells (g:=bq) rfl j u hu) bk hle hb0
 rw [bb] at m2 ai
 -- the rows q go cd
 have h1:=h.give (xcc bc) bh
 have aw:given μ q o q=some ⟨.slice a1 l2.length c1,rq++rs,ae⟩:=by
  unfold given
  rw [if_neg (xcc bc),if_pos rfl,hμ,bd]
  rfl
 have ay:∀ {k},k∈rs→k∈rq→False:=fun{k} k1 k2=>bc (h.mem.dis o q _ _ k hμ bd k1 k2)
 have aj:∀k,rootV v'=some k→k∈rs∨w.heap.size≤k:=fun k hk=>(m8 k hk).imp (fun h=>hr.top k h) id
 have bf:Kept lo w w':=⟨m3,m4,m5,m6,fun k hk=>m7 k (h.mem.hlo k hk) fun e=>(hr.low k (hr.top k e)).1 hk⟩
 have ao:∀k,k∈(rootV v').toList++(rq++rs)→k∈rq++rs∨w.heap.size≤k:=fun k hk=>by
  rcases xq.1 hk with hk|hk
  ·exact(aj k (by simpa using hk)).imp (fun h=>xal _ h) id
  ·exact .inl hk
 have bm:∀k,SS X μ k→SS X (given μ q o) k:=fun k hs=>⟨hs.1,fun p mv hp hb=>by
  obtain⟨p0,mv0,h1,h2,_⟩:=given_rs hp hb
  exact hs.2 p0 mv0 h1 h2⟩
 have ah:∀k,k<w.heap.size→SS X (given μ q o) k→SS X (again (given μ q o) q ⟨v',(rootV v').toList++(rq++rs),ak++ae⟩) k∧w'.heap[k]? =w.heap[k]? :=fun k hk hS=>⟨⟨hS.1,fun p' mv hp bn=>by
  rcases again_inv hp with⟨rfl,rfl⟩|⟨_,hp⟩
  ·rcases ao k bn with h'|h'
   ·exact hS.2 _ _ aw h'
   ·omega
  ·exact hS.2 p' mv hp bn⟩,m7 k hk fun e=>hS.2 q _ aw (xal _ (hr.top k e))⟩
 have af:∀j,inRow none j:=fun j i k hk=>by cases hk
 have ca:NxA P X lo (given μ q o) w q (.rows e e2 t (l++l2) none) w' ⟨v',(rootV v').toList++(rq++rs),ak++ae⟩:=by
  refine⟨bf,ah,⟨⟨?_,fun k hk=>xag _ (by simp [show rootV v'=some k from hk]),fun k hk=>?_,fun y hy=>?_,fun j y r hj hy hq=>?_,fun j k y z kb hj hk hy hz h3 h4=>?_⟩,fun i' d' cb=>by cases cb⟩,fun k hk=>?_,fun k hk hn=>?_⟩
  ·rw [xj]
   exact m2
  ·rcases ao k hk with h'|h'
   ·rcases xq.1 h' with h'|h'
    ·exact⟨(aa.low k h').1,xan (aa.low k h').2 m6⟩
    ·exact⟨(hr.low k h').1,xan (hr.low k h').2 m6⟩
   ·refine⟨fun hl=>by have:=h.mem.hlo k hl;omega,?_⟩
    have au:rootV v'=some k:=by
     rcases xq.1 hk with hk|hk
     ·simpa using hk
     ·rcases xq.1 hk with hk|hk
      ·have:=(aa.low k hk).2;omega
      ·have:=(hr.low k hk).2;omega
    rcases m2.2 with⟨e1,_⟩|⟨gb,cap,cur,e1,_,hh,_⟩
    ·rw [e1] at au;simp [rootV] at au
    ·rw [e1] at au
     simp only [rootV,xc] at au
     subst au
     exact(xau.1 hh).1
  ·rcases xq.1 hy with hy|hy
   ·exact hr.slc y hy
   ·exact aa.slc y hy
  ·by_cases bo:j<l.length
   ·simp only at hy
    rw [xab (by omega)] at hy hq
    obtain⟨z1,ys,z2,z3⟩:=hr.row j y r (af j) hy hq
    refine⟨fun k hk=>⟨xal _ (xal _ (z1 k hk).1),fun bg=>?_⟩,ys,ownsRow_same z2 fun k hk=>m7 k (hr.low k (z1 k hk).1).2 (z1 k hk).2,z3.step fun k hk hs=>ah k hk (bm k hs)⟩
    rcases m8 k bg with h'|h'
    ·exact(z1 k hk).2 h'
    ·have:=(hr.low k (z1 k hk).1).2;omega
   ·simp only at hy
    rw [xz (by omega)] at hy hq
    rw [hlen] at hy
    obtain⟨z1,ys,z2,z3⟩:=aa.row (j-l.length) y r (af _) hy hq
    have cc:∀k,k∈rq→rootV (.slice a0 n0 c0)≠some k:=fun k hk e=>ay (hr.top k e) hk
    refine⟨fun k hk=>⟨xal _ (xag _ (z1 k hk).1),fun bg=>?_⟩,ys,ownsRow_same z2 fun k hk=>m7 k (aa.low k (z1 k hk).1).2 (cc k (z1 k hk).1),z3.step fun k hk hs=>ah k hk (bm k hs)⟩
    rcases aj k bg with h'|h'
    ·exact ay h' (z1 k hk).1
    ·have:=(aa.low k (z1 k hk).1).2;omega
  ·simp only at hy hz
   have side:∀ {j:Nat} {y:Value} {kb:Nat},(ak++ae)[j]? =some y→rootV y=some kb→(j<l.length∧ak[j]? =some y∧kb∈rs)∨(l.length≤j∧ae[j-l.length]? =some y∧kb∈rq):=fun{j y kb} hy h3=>by
    by_cases bo:j<l.length
    ·rw [xab (by omega)] at hy
     obtain⟨z1,_⟩:=hr.row j y (l[j]) (af j) hy (by simp)
     exact .inl ⟨bo,hy,(z1 kb h3).1⟩
    ·rw [xz (by omega),hlen] at hy
     have cf:j-l.length<l2.length:=by
      have:=(xk.1 hy).1
      omega
     obtain⟨z1,_⟩:=aa.row (j-l.length) y (l2[j-l.length]) (af _) hy (by simp)
     exact .inr ⟨by omega,hy,(z1 kb h3).1⟩
   rcases side hy h3 with⟨s1,s2,s3⟩|⟨s1,s2,s3⟩<;>rcases side hz h4 with⟨t1,t2,t3⟩|⟨t1,t2,t3⟩
   ·exact hr.apart j k y z kb (af j) (af k) s2 t2 h3 h4
   ·exact(ay s3 t3).elim
   ·exact(ay t3 s3).elim
   ·have:=aa.apart _ _ y z kb (af _) (af _) s2 t2 h3 h4
    omega
  ·rcases ao k hk with h'|h'
   ·exact .inl ⟨_,aw,h'⟩
   ·exact .inr h'
  ·exact m7 k hk fun e=>hn _ aw (xal _ (hr.top k e))
 have h2:=h1.appd ca
 have h3:=h2.put (d:=d) bp (v:=.arr q) (x:=v') (by rw [bl];exact .arr (rs:=(rootV v').toList++(rq++rs)) (hs:=ak++ae) (by rw [again_self,bl]))
 exact⟨v',w',_,m1,h3⟩
theorem rowsApp_ok[Tabs](hT:TabOK P tt){s s':St}(h:Rel P X lo N w0 s a w μ){d ty ai rt:Nat}(ab:N.has d){xv yv:AV}{r:Tr St}(hr:rowsApp tt ty ai d xv yv s=some r)(hq:r.ev=some s'){va x:Value}(ha:RelV P w lo μ (SS X μ) xv va)(hx:RelV P w lo μ (SS X μ) yv x):
  ty=ai∧∃v' w' μ',(Builtin.append_ #[ty,ty] rt #[va,x]).run P w=.ok v' w'∧Rel P X lo N w0 s' (a.put (some d) v') w' μ':=by
 unfold rowsApp at hr
 split at hr
 ·rename_i q
  split at hr
  next eq e4 t' lq hh ad=>
   split at hr
   next p=>
    split at hr
    next r0=>
     simp only [xc] at hr
     subst hr
     split at hq
     next e te b o aa=>
       split at hq
       next e1 e2 t l ae=>
         split at hq
         next hc=>
           obtain⟨rfl,rfl,rfl,c4,c5,c6,c7,c8⟩:=hc
           obtain⟨hle,hq⟩:=ev_g hq
           simp only [decide_eq_true_eq] at hle
           simp only [Tr.ev_l,xc] at hq
           subst hq
           exact⟨rfl,appRow_ok hT h ab aa c4 c5 ae ad rfl c6 c7 c8 hle ha hx⟩
         next=>cases hq
       next=>cases hq
     next e te b aa=>
       split at hq
       next e2 t b2 ao aj=>
         split at hq
         next hc=>
           obtain⟨rfl,rfl,c3,c4,c5,c6,c7⟩:=hc
           obtain⟨hle,hq⟩:=ev_g hq
           simp only [decide_eq_true_eq] at hle
           simp only [Tr.ev_l,xc] at hq
           subst hq
           have h0:=noRows_rel h (d:=d) (e:=eq) (e2:=e2) (t:=t) aj
           cases ha
           have au:μ d=none:=by
             cases hm:μ d with
             |none=>rfl
             |some mv=>obtain⟨y,hy,_⟩:=h.mem.ob d mv hm;rw [aj] at hy;cases hy
           cases hx with
           | @arr _ _ a1 n1 c1 rq av ak=>
             have al:q≠d:=xcc c5
             refine⟨rfl,appRow_ok hT h0 ab aa c3 c4 (by simp [St.g,look]) (by simp only [St.g,look,beq_ne c5];exact ad) rfl c5 c6 c7 hle (.arr (rs:=[]) (hs:=[]) again_self) (.arr (again_ne al ak))⟩
         next=>cases hq
       next=>cases hq
     next=>cases hq
    next=>cases hr
   next=>
    split at hr
    next e te b o aa=>
      split at hr
      next e1 e2 t l ae=>
        simp only [xc] at hr
        subst hr
        split at hq
        next l2 af=>
          obtain⟨et,ah⟩:=Ty.cast_spec af
          cases et
          have ah:l2=lq:=ah
          subst ah
          split at hq
          next hc=>
            obtain⟨rfl,rfl,rfl,rfl,c5,c6,c7⟩:=hc
            obtain⟨hle,hq⟩:=ev_g hq
            simp only [decide_eq_true_eq] at hle
            simp only [Tr.ev_l,xc] at hq
            subst hq
            exact⟨rfl,appRows_ok hT h ab aa c5 c6 ae ad c7 hle ha hx⟩
          next=>cases hq
        next=>cases hq
      next=>cases hr
    next=>cases hr
   next=>cases hr
  next=>cases hr
 ·cases hr
end
end Go.Proofs.YteiekijgoifhoaaGreatDoor
