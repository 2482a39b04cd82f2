/-
 What it means that values in a world read as typed data; that this stays when the world grows.
-/
import Derived.Test.YteiekijgoifhoaaGreatDoorA3
import Derived.Below
namespace Go.Proofs.YteiekijgoifhoaaGreatDoor
open Go.RowKit (Below)
def Rep(S:Nat→Prop)(w:World):(t:Ty)→t.I→List Value→Prop
 | .int k,n,cs=>cs=[.int k n]
 | .bool,b,cs=>cs=[.bool b]
 | .str,s,cs=>cs=[.string ⟨s.toArray⟩]
 | .seq g,l,cs=>∃b a cap,cs=[.func (.func g) #[] #[.pointer (some ⟨b,0,none⟩)]]∧S b∧w.cell? ⟨b,0,none⟩=some (.slice a l.length cap)∧l.length≤cap∧∀ (i:Nat) (x:Int),l[i]? =some x→
   ∃b' off,a=some ⟨b',off,none⟩∧S b'∧w.cell? ⟨b',off+i,none⟩=some (.int .i64 x)
 | .hdr,x,cs=>∃a cap,cs=[.slice a (List.length (α:=Int) x.2) cap]∧x.1.2=.slice a (List.length (α:=Int) x.2) cap∧List.length (α:=Int) x.2≤cap∧∀ (i:Nat) (n:Int),(x.2:List Int)[i]? =some n→∃b off,a=some ⟨b,off,none⟩∧S b∧w.cell? ⟨b,off+i,none⟩=some (.int .i64 n)
 | .slice t,l,cs=>∃a cap,cs=[.slice a l.length cap]∧l.length≤cap∧∀i x,l[i]? =some x→∃b off c,a=some ⟨b,off,none⟩∧S b∧Rep S w t x c∧
   ∀j u,c[j]? =some u→w.cell? ⟨b,off+(i*t.size+j),none⟩=some u
 | .pair a b,v,cs=>∃c1 c2,cs=c1++c2∧Rep S w a v.1 c1∧Rep S w b v.2 c2
def RepL(S:Nat→Prop)(w:World)(t:Ty):List t.I→List Value→Prop
 | [],cs=>cs=[]
 |x::l,cs=>∃c r,cs=c++r∧Rep S w t x c∧RepL S w t l r
theorem Ty.size_pos:∀t:Ty,0<t.size
 | .pair a b=>by have:=a.size_pos;simp only [Ty.size];omega
 | .int _=>by simp [Ty.size]
 | .bool=>by simp [Ty.size]
 | .str=>by simp [Ty.size]
 | .seq _=>by simp [Ty.size]
 | .hdr=>by simp [Ty.size]
 | .slice _=>by simp [Ty.size]
section
variable {S:Nat→Prop} {w:World}
theorem Rep.len:∀ {t:Ty} {v:t.I} {cs:List Value},Rep S w t v cs→cs.length=t.size
 | .int _,_,_,h=>by simp only [Rep] at h;subst h;rfl
 | .bool,_,_,h=>by simp only [Rep] at h;subst h;rfl
 | .str,_,_,h=>by simp only [Rep] at h;subst h;rfl
 | .seq _,_,_,h=>by simp only [Rep] at h;obtain⟨_,_,_,h,_⟩:=h;subst h;rfl
 | .hdr,_,_,h=>by simp only [Rep] at h;obtain⟨_,_,h,_⟩:=h;subst h;rfl
 | .slice _,_,_,h=>by simp only [Rep] at h;obtain⟨a,cap,h,_⟩:=h;subst h;rfl
 | .pair a b,v,_,h=>by
  simp only [Rep] at h
  obtain⟨c1,c2,h,h1,h2⟩:=h
  subst h
  simp [Ty.size,h1.len,h2.len]
theorem Rep.step{S':Nat→Prop}{w':World}(hw:∀b,b<w.heap.size→S b→S' b∧w'.heap[b]? =w.heap[b]?):∀ {t:Ty} {v:t.I} {cs:List Value},Rep S w t v cs→Rep S' w' t v cs
 | .int _,_,_,h=>h
 | .bool,_,_,h=>h
 | .str,_,_,h=>h
 | .hdr,_,_,h=>by
  simp only [Rep] at h⊢
  obtain⟨a,cap,e,e2,hle,hi⟩:=h
  refine⟨a,cap,e,e2,hle,fun i n hn=>?_⟩
  obtain⟨b,off,ea,hS,hc⟩:=hi i n hn
  obtain⟨h1,h2⟩:=hw b (block_lt_of_cell hc) hS
  exact⟨b,off,ea,h1,(World.cell?_of_block (w:=w) h2).trans hc⟩
 | .seq g,l,cs,h=>by
  simp only [Rep] at h⊢
  obtain⟨b,a,cap,e,hS,hc,hle,hi⟩:=h
  obtain⟨h1,h2⟩:=hw b (block_lt_of_cell hc) hS
  refine⟨b,a,cap,e,h1,(World.cell?_of_block (w:=w) h2).trans hc,hle,fun i x hx=>?_⟩
  obtain⟨b',off,ea,ab,aa⟩:=hi i x hx
  obtain⟨h3,h4⟩:=hw b' (block_lt_of_cell aa) ab
  exact⟨b',off,ea,h3,(World.cell?_of_block (w:=w) h4).trans aa⟩
 | .slice t,l,cs,h=>by
  simp only [Rep] at h⊢
  obtain⟨a,cap,e,hle,hi⟩:=h
  refine⟨a,cap,e,hle,fun i x hx=>?_⟩
  obtain⟨b,off,c,ea,hS,hr,hc⟩:=hi i x hx
  have hb:b<w.heap.size:=by
   have hl:=hr.len
   have hp:=t.size_pos
   have:∃u,c[0]? =some u:=⟨c[0]'(by omega),by simp [xh (show 0<c.length by omega)]⟩
   obtain⟨u,hu⟩:=this
   exact block_lt_of_cell (hc 0 u hu)
  obtain⟨h1,h2⟩:=hw b hb hS
  exact⟨b,off,c,ea,h1,hr.step hw,fun j u hu=>(World.cell?_of_block (w:=w) h2).trans (hc j u hu)⟩
 | .pair a b,v,cs,h=>by
  simp only [Rep] at h⊢
  obtain⟨c1,c2,e,h1,h2⟩:=h
  exact⟨c1,c2,e,h1.step hw,h2.step hw⟩
theorem RepL.step{S':Nat→Prop}{w':World}(hw:∀b,b<w.heap.size→S b→S' b∧w'.heap[b]? =w.heap[b]?){t:Ty}:∀ {l:List t.I} {cs:List Value},RepL S w t l cs→RepL S' w' t l cs
 | [],_,h=>h
 |_::_,_,⟨c,r,e,h1,h2⟩=>⟨c,r,e,h1.step hw,h2.step hw⟩
theorem RepL.len{t:Ty}:∀ {l:List t.I} {cs:List Value},RepL S w t l cs→cs.length=l.length*t.size
 | [],_,h=>by simp only [RepL] at h;subst h;simp
 |x::l,_,⟨c,r,e,h1,h2⟩=>by
  subst e
  have a:=h1.len
  have b:=RepL.len h2
  simp [a,b,xaz];omega
theorem RepL.at{t:Ty}:∀ {l:List t.I} {cs:List Value},RepL S w t l cs→∀ {i x},l[i]? =some x→∃c,Rep S w t x c∧∀j u,c[j]? =some u→cs[i*t.size+j]? =some u
 | [],_,_,i,x,hx=>by simp at hx
 |y::l,_,⟨c,r,e,h1,h2⟩,i,x,hx=>by
  subst e
  cases i with
  |zero=>
   simp at hx
   subst hx
   refine⟨c,h1,fun j u hu=>?_⟩
   have hj:j<c.length:=by
    by_cases h:j<c.length
    ·exact h
    ·rw [xbj (by omega)] at hu;cases hu
   simp only [xde,xbg]
   rw [xab hj];exact hu
  |succ i=>
   simp at hx
   obtain⟨c',h3,h4⟩:=RepL.at h2 hx
   refine⟨c',h3,fun j u hu=>?_⟩
   have hl:=h1.len
   rw [xz (by rw [hl,xaz];omega)]
   rw [show(i+1)*t.size+j-c.length=i*t.size+j by rw [hl,xaz];omega]
   exact h4 j u hu
theorem RepL.append{t:Ty}:∀ {l l':List t.I} {cs aa:List Value},RepL S w t l cs→RepL S w t l' aa→RepL S w t (l++l') (cs++aa)
 | [],_,_,_,h,h'=>by simp only [RepL] at h;subst h;exact h'
 |x::l,_,_,_,⟨c,r,e,h1,h2⟩,h'=>by
  subst e
  exact⟨c,r++_,by simp,h1,RepL.append h2 h'⟩
theorem RepL.set{t:Ty}:∀ {l:List t.I} {cs:List Value},RepL S w t l cs→∀ {i:Nat} {x:t.I} {c:List Value},i<l.length→Rep S w t x c→
  RepL S w t (l.set i x) (cs.take (i*t.size)++c++cs.drop (i*t.size+t.size))
 | [],_,_,i,_,_,hi,_=>by simp at hi
 |y::l,_,⟨c0,r,e,h1,h2⟩,i,x,c,hi,hx=>by
  subst e
  have hl:=h1.len
  cases i with
  |zero=>
   refine⟨c,r,?_,hx,h2⟩
   simp [←hl]
  |succ i=>
   have aa:i<l.length:=by simpa using hi
   refine⟨c0,_,?_,h1,RepL.set h2 aa hx⟩
   rw [xdz,List.drop_append,xah (show c0.length≤(i+1)*t.size by rw [hl,xaz];omega),
    xci (show c0.length≤(i+1)*t.size+t.size by rw [hl,xaz];omega)]
   rw [show(i+1)*t.size-c0.length=i*t.size by rw [hl,xaz];omega,show(i+1)*t.size+t.size-c0.length=i*t.size+t.size by rw [hl,xaz];omega]
   simp
theorem RepL.of_slice{t:Ty}{l:List t.I}{b off:Nat}{cap n:Nat}(h:Rep S w (.slice t) l [.slice (some ⟨b,off,none⟩) n cap]):
  ∃cs,RepL S w t l cs∧∀j u,cs[j]? =some u→w.cell? ⟨b,off+j,none⟩=some u:=by
 simp only [Rep] at h
 obtain⟨a,cp,e,_,hi⟩:=h
 have:∀ (m:Nat) (k:List t.I) (i0:Nat),k.length=m→(∀i x,k[i]? =some x→∃c,Rep S w t x c∧∀j u,c[j]? =some u→w.cell? ⟨b,off+((i0+i)*t.size+j),none⟩=some u)→
   ∃cs,RepL S w t k cs∧∀j u,cs[j]? =some u→w.cell? ⟨b,off+(i0*t.size+j),none⟩=some u:=by
  intro m
  induction m with
  |zero=>intro k i0 hk _;have:k=[]:=xi hk;subst this;exact⟨[],rfl,fun j u hu=>by simp at hu⟩
  |succ m ih=>
   intro k i0 hk hh
   cases k with
   |nil=>simp at hk
   |cons x k=>
    obtain⟨c,aa,ae⟩:=hh 0 x (by simp)
    obtain⟨cs,ab,ad⟩:=ih k (i0+1) (by simpa using hk) (fun i y hy=>by
     obtain⟨c',h1,h2⟩:=hh (i+1) y (by simpa using hy)
     exact⟨c',h1,fun j u hu=>by have:=h2 j u hu;rwa [show i0+(i+1)=i0+1+i by omega] at this⟩)
    refine⟨c++cs,⟨c,cs,rfl,aa,ab⟩,fun j u hu=>?_⟩
    have hl:=aa.len
    by_cases hj:j<c.length
    ·rw [xab hj] at hu
     have:=ae j u hu
     rwa [xbd] at this
    ·rw [xz (by omega)] at hu
     have:=ad (j-c.length) u hu
     rwa [show(i0+1)*t.size+(j-c.length)=i0*t.size+j by rw [xaz,hl];omega] at this
 obtain⟨cs,h1,h2⟩:=this l.length l 0 rfl (fun i x hx=>by
  obtain⟨b',af,c,ea,hS,hr,hc⟩:=hi i x hx
  simp only [xbt,Value.slice.injEq,and_true] at e
  obtain⟨e1,_,_⟩:=e
  rw [←e1] at ea
  simp only [xc,Addr.mk.injEq,and_true] at ea
  obtain⟨rfl,rfl⟩:=ea
  exact⟨c,hr,fun j u hu=>by have:=hc j u hu;rwa [xbg]⟩)
 exact⟨cs,h1,fun j u hu=>by have:=h2 j u hu;rwa [xde,xbg] at this⟩
theorem Rep.slice_of{t:Ty}{l:List t.I}{cs:List Value}{b off cap:Nat}(hle:l.length≤cap)(hS:S b)(h:RepL S w t l cs)(hc:∀j u,cs[j]? =some u→w.cell? ⟨b,off+j,none⟩=some u):
  Rep S w (.slice t) l [.slice (some ⟨b,off,none⟩) l.length cap]:=by
 simp only [Rep]
 refine⟨_,_,rfl,hle,fun i x hx=>?_⟩
 obtain⟨c,h1,h2⟩:=h.at hx
 exact⟨b,off,c,rfl,hS,h1,fun j u hu=>hc _ _ (h2 j u hu)⟩
theorem Rep.nil{t:Ty}{a:Option Addr}{cap:Nat}:Rep S w (.slice t) ([]:List t.I) [.slice a 0 cap]:=by
 simp only [Rep]
 exact⟨_,_,rfl,xcp _,fun i x hx=>by simp at hx⟩
end
theorem Ty.cast_spec{a b:Ty}{x:a.I}{y:b.I}(h:Ty.cast a b x=some y):∃e:a=b,y=e▸x:=by
 unfold Ty.cast at h
 split at h
 ·rename_i e _
  simp at h
  exact⟨e,h.symm⟩
 ·cases h
end Go.Proofs.YteiekijgoifhoaaGreatDoor
/-
 How abstract values stand for values in a world, and what is owned.
-/
namespace Go.Proofs.YteiekijgoifhoaaGreatDoor
open Go.RowKit (Below)
theorem nth_eq{α:Type}:∀ (l:List α) (i:Nat),nth l i=l[i]?
 | [],_=>by simp [nth]
 |_::_,0=>by simp [nth]
 |_::r,i+1=>by simp [nth,nth_eq r i]
structure MV where
 v:Value
 rs:List Nat
 hs:List Value
structure Kept(lo:Nat→Prop)(w w':World):Prop where
 os:w'.os=w.os
 tape:w'.tape=w.tape
 output:w'.output=w.output
 size:w.heap.size≤w'.heap.size
 block:∀k,lo k→w'.heap[k]? =w.heap[k]?
theorem Kept.refl(lo:Nat→Prop)(w:World):Kept lo w w:=⟨rfl,rfl,rfl,xm _,fun _ _=>rfl⟩
theorem Kept.trans{lo:Nat→Prop}{a b c:World}(h:Kept lo a b)(k:Kept lo b c):Kept lo a c:=
 ⟨k.os.trans h.os,k.tape.trans h.tape,k.output.trans h.output,Nat.le_trans h.size k.size,fun i hi=>(k.block i hi).trans (h.block i hi)⟩
theorem Kept.of{lo:Nat→Prop}{w w':World}(h:Below w.heap.size w w')(hl:∀b,lo b→b<w.heap.size):Kept lo w w':=⟨h.os,h.tape,h.output,h.size,fun k hk=>h.block k (hl k hk)⟩
theorem Kept.mono{lo lo':Nat→Prop}{w w':World}(h:Kept lo w w')(hl:∀b,lo' b→lo b):Kept lo' w w':=⟨h.os,h.tape,h.output,h.size,fun k hk=>h.block k (hl k hk)⟩
theorem Kept.drew{lo:Nat→Prop}{a w:World}(h:Kept lo a w):Kept lo a w.drew:=⟨h.os,h.tape,h.output,h.size,h.block⟩
def HRel(w:World):(ts:List Ty)→HL ts→List Value→Prop
 | [],_,vs=>vs=[]
 |t::ts,(x,h),vs=>∃v r,vs=v::r∧Rep (fun _=>True) w t x v.cells.toList∧(t.size=1→v.cells= #[v])∧(t.size≠1→∃cs,v=.agg cs)∧HRel w ts h r
def CallR(P:Program)(f:Nat)(vals:Array Value)(w:World)(R:Value→World→Prop):Prop:=
 ((callFunc f vals).run P w=.ok (.enter f vals) w∧Calls P f vals w (fun e w'=>∃x,e=.returned x∧R x w'))∨∃x w',(callFunc f vals).run P w=.ok (.value x) w'∧R x w'
theorem CallR.mono{P:Program}{f:Nat}{vals:Array Value}{w:World}{R R':Value→World→Prop}(h:CallR P f vals w R)(hr:∀x w',R x w'→R' x w'):CallR P f vals w R':=by
 rcases h with⟨h1,h2⟩|⟨x,w',h1,h2⟩
 ·exact .inl ⟨h1,h2.mono fun e w' ⟨x,e1,e2⟩=>⟨x,e1,hr _ _ e2⟩⟩
 ·exact .inr ⟨x,w',h1,hr _ _ h2⟩
def CloOK(P:Program)(w:World)(lo:Nat→Prop)(ts:List Ty)(r:Ty)(p:HL ts→Option r.I)(x:Value):Prop:=
 r.size=1∧∃f fs xs,x=.func (.func f) fs xs∧∀w',(∀b,lo b→b<w'.heap.size)→(∀b,lo b→w'.heap[b]? =w.heap[b]?)→∀h vals,HRel w' ts h vals→∀y,p h=some y→
  CallR P f (fs++vals.toArray++xs) w' (fun v w''=>Rep (fun b=>w'.heap.size≤b) w'' r y [v]∧Below w'.heap.size w' w'')
inductive RelV(P:Program)(w:World)(lo:Nat→Prop)(μ:Nat→Option MV):(Nat→Prop)→AV→Value→Prop
 |undef {S x}:RelV P w lo μ S .undef x
 |skip {S}:RelV P w lo μ S .skip undef
 |dat {S t v x} (ht:t.size=1) (h:Rep S w t v [x]):RelV P w lo μ S (.dat t v) x
 |nilsl {S}:RelV P w lo μ S .nilsl (.slice none 0 0)
 |arr {S o a n c rs hs} (h:μ o=some ⟨.slice a n c,rs,hs⟩):RelV P w lo μ S (.arr o) (.slice a n c)
 |box {S o b k rs hs} (h:μ o=some ⟨.pointer (some ⟨b,0,none⟩),rs,hs⟩):RelV P w lo μ S (.box o k) (.pointer (some ⟨b,k,none⟩))
 |elt {S o i s b n c rs hs} (h:μ o=some ⟨.slice (some ⟨b,0,none⟩) n c,rs,hs⟩):RelV P w lo μ S (.elt o i s) (.pointer (some ⟨b,i*s,none⟩))
 |fld {S o i s k b n c rs hs} (h:μ o=some ⟨.slice (some ⟨b,0,none⟩) n c,rs,hs⟩):RelV P w lo μ S (.fld o i s k) (.pointer (some ⟨b,i*s+k,none⟩))
 |row {S o i v rs hs a m c} (h:μ o=some ⟨v,rs,hs⟩) (hx:hs[i]? =some (.slice a m c)):RelV P w lo μ S (.row o i) (.slice a m c)
 |relt {S o i n s v rs hs b m c} (h:μ o=some ⟨v,rs,hs⟩) (hx:hs[i]? =some (.slice (some ⟨b,0,none⟩) m c)):RelV P w lo μ S (.relt o i n s) (.pointer (some ⟨b,n*s,none⟩))
 |suf {S o i s a0 n c rs hs a' m k} (h:μ o=some ⟨.slice a0 n c,rs,hs⟩) (hi:i≤n∧m=n-i) (ha:i=n∨∃b,a0=some ⟨b,0,none⟩∧a'=some ⟨b,i*s,none⟩):RelV P w lo μ S (.suf o i s) (.slice a' m k)
 |pre {S o i a0 n c rs hs} (h:μ o=some ⟨.slice a0 n c,rs,hs⟩) (hi:i≤n):RelV P w lo μ S (.pre o i) (.slice a0 i c)
 |ptr {S cs b k} (xs:Nat→Value) (hb0:cs≠ []) (hb:S b∨lo b) (hx:∀j v,nth cs j=some v→w.cell? ⟨b,k+j,none⟩=some (xs j)) (h:∀j v,nth cs j=some v→RelV P w lo μ S v (xs j)):
   RelV P w lo μ S (.ptr cs) (.pointer (some ⟨b,k,none⟩))
 |fn {S f caps xs} (hl:caps.length=xs.size) (h:∀j v,nth caps j=some v→RelV P w lo μ (fun b=>S b∨lo b) v (xs.getD j undef)):RelV P w lo μ S (.fn f caps) (.func (.func f) #[] xs)
 |bnd {S f fs xs} (hl:fs.length=xs.size) (h:∀j v,nth fs j=some v→RelV P w lo μ S v (xs.getD j undef)):RelV P w lo μ S (.bnd f fs) (.func (.func f) xs #[])
 |clo {S ts r p x} (h:CloOK P w lo ts r p x):RelV P w lo μ S (.clo ts r p) x
 |tup {S vs xs} (hl:vs.length=xs.size) (h:∀j v,nth vs j=some v→RelV P w lo μ S v (xs.getD j undef)):RelV P w lo μ S (.tup vs) (.tuple xs)
 |agg {S vs xs} (hl:vs.length=xs.size) (h:∀j v,nth vs j=some v→RelV P w lo μ S v (xs.getD j undef)):RelV P w lo μ S (.agg vs) (.agg xs)
theorem CloOK.step{P:Program}{w w':World}{lo lo':Nat→Prop}{ts:List Ty}{r:Ty}{p:HL ts→Option r.I}{x:Value}(h:CloOK P w lo ts r p x)(hl:∀b,lo b→lo' b)
  (hw:∀b,lo b→w'.heap[b]? =w.heap[b]?):CloOK P w' lo' ts r p x:=by
 obtain⟨h2,f,fs,xs,e,hc⟩:=h
 exact⟨h2,f,fs,xs,e,fun ab hs hb=>hc ab (fun b aa=>hs b (hl b aa)) fun b aa=>(hb b (hl b aa)).trans (hw b aa)⟩
def Ext(hs hs':List Value):Prop:=∀ (i:Nat) (x:Value),hs[i]? =some x→hs'[i]? =some x
theorem Ext.refl(hs:List Value):Ext hs hs:=fun _ _ h=>h
theorem Ext.nil(hs:List Value):Ext [] hs:=fun _ _ h=>by simp at h
theorem Ext.trans{a b c:List Value}(h:Ext a b)(k:Ext b c):Ext a c:=fun i x hx=>k i x (h i x hx)
theorem RelV.stepH{P:Program}{w w':World}{lo:Nat→Prop}{μ μ':Nat→Option MV}{S:Nat→Prop}{v:AV}{x:Value}(h:RelV P w lo μ S v x)
  (hμ:∀o mv,μ o=some mv→∃rs hs,μ' o=some ⟨mv.v,rs,hs⟩∧Ext mv.hs hs):∀ {S':Nat→Prop},(∀b,lo b→b<w.heap.size)→(∀b,b<w.heap.size→S b→S' b∧w'.heap[b]? =w.heap[b]?)→(∀b,lo b→w'.heap[b]? =w.heap[b]?)→
  RelV P w' lo μ' S' v x:=by
 induction h with
 |undef=>intro S' _ _ _;exact .undef
 |skip=>intro S' _ _ _;exact .skip
 |dat ht h=>intro S' _ hw _;exact .dat ht (h.step hw)
 |nilsl=>intro S' _ _ _;exact .nilsl
 |arr h=>intro S' _ _ _;obtain⟨rs,hs,h,_⟩:=hμ _ _ h;exact .arr h
 |box h=>intro S' _ _ _;obtain⟨rs,hs,h,_⟩:=hμ _ _ h;exact .box h
 |elt h=>intro S' _ _ _;obtain⟨rs,hs,h,_⟩:=hμ _ _ h;exact .elt h
 |fld h=>intro S' _ _ _;obtain⟨rs,hs,h,_⟩:=hμ _ _ h;exact .fld h
 |row h hx=>intro S' _ _ _;obtain⟨rs,hs,h,he⟩:=hμ _ _ h;exact .row h (he _ _ hx)
 |relt h hx=>intro S' _ _ _;obtain⟨rs,hs,h,he⟩:=hμ _ _ h;exact .relt h (he _ _ hx)
 |suf h hi ha=>intro S' _ _ _;obtain⟨rs,hs,h,_⟩:=hμ _ _ h;exact .suf h hi ha
 |pre h hi=>intro S' _ _ _;obtain⟨rs,hs,h,_⟩:=hμ _ _ h;exact .pre h hi
 | @ptr S cs b k xs hb0 hb hx h ih=>
  intro S' hlo hw hl
  by_cases ab:b<w.heap.size
  ·have ad:w'.heap[b]? =w.heap[b]? :=hb.elim (fun hS=>(hw b ab hS).2) (fun hS=>hl b hS)
   exact .ptr xs hb0 (hb.imp (fun hS=>(hw b ab hS).1) id) (fun j v hv=>(World.cell?_of_block (w:=w) ad).trans (hx j v hv)) fun j v hv=>ih j v hv hlo hw hl
  ·cases cs with
   |nil=>exact absurd rfl hb0
   |cons c cs=>exact absurd (block_lt_of_cell (hx 0 c rfl)) ab
 |fn aa h ih=>intro S' hlo hw hl;exact .fn aa fun j v hv=>ih j v hv hlo (fun b ae hb=>hb.elim (fun h=>⟨.inl (hw b ae h).1,(hw b ae h).2⟩) fun h=>⟨.inr h,hl b h⟩) hl
 |bnd aa h ih=>intro S' hlo hw hl;exact .bnd aa fun j v hv=>ih j v hv hlo hw hl
 |clo h=>intro S' hlo hw hl;exact .clo (h.step (fun _ h=>h) hl)
 |tup aa h ih=>intro S' hlo hw hl;exact .tup aa fun j v hv=>ih j v hv hlo hw hl
 |agg aa h ih=>intro S' hlo hw hl;exact .agg aa fun j v hv=>ih j v hv hlo hw hl
theorem RelV.step{P:Program}{w w':World}{lo:Nat→Prop}{μ μ':Nat→Option MV}{S:Nat→Prop}{v:AV}{x:Value}(h:RelV P w lo μ S v x)
  (hμ:∀o mv,μ o=some mv→μ' o=some mv) {S':Nat→Prop} (hl:∀b,lo b→b<w.heap.size) (hw:∀b,b<w.heap.size→S b→S' b∧w'.heap[b]? =w.heap[b]?) (hb:∀b,lo b→w'.heap[b]? =w.heap[b]?):
  RelV P w' lo μ' S' v x:=h.stepH (fun o mv ho=>⟨mv.rs,mv.hs,hμ o mv ho,Ext.refl _⟩) hl hw hb
end Go.Proofs.YteiekijgoifhoaaGreatDoor
/-
 What an activation owns; the types' table; operations that write nothing: values alone.
-/
namespace Go.Proofs.YteiekijgoifhoaaGreatDoor
open Go.RowKit (Below)
def rootV:Value→Option Nat
 | .slice (some a) _ _=>some a.block
 | .pointer (some a)=>some a.block
 |_=>none
def SS(X:Nat→Prop)(μ:Nat→Option MV)(b:Nat):Prop:=¬X b∧∀o mv,μ o=some mv→b∉mv.rs
structure RowsOK(w:World)(lo:Nat→Prop)(S:Nat→Prop)(e e2:Nat)(t:Ty)(l:List (List t.I))(p:Nat→Prop)(mv:MV)(hs:List Value):Prop where
 own:w.ownsRow 0 e 1 mv.v l.length hs
 top:∀b,rootV mv.v=some b→b∈mv.rs
 low:∀b∈mv.rs,¬lo b∧b<w.heap.size
 slc:∀x∈hs,∃a n c,x=.slice a n c
 row:∀j x r,p j→hs[j]? =some x→l[j]? =some r→(∀b,rootV x=some b→b∈mv.rs∧rootV mv.v≠some b)∧∃xs,w.ownsRow 0 e2 t.size x r.length xs∧RepL S w t r xs
 apart:∀j k x y b,p j→p k→hs[j]? =some x→hs[k]? =some y→rootV x=some b→rootV y=some b→j=k
theorem RowsOK.len{w:World}{lo S:Nat→Prop}{e e2:Nat}{t:Ty}{l:List (List t.I)}{p:Nat→Prop}{mv:MV}{hs:List Value}(h:RowsOK w lo S e e2 t l p mv hs):hs.length=l.length:=by
 have:=h.own.1
 omega
theorem ownsRow_same{w w':World}{e n sz:Nat}{v:Value}{xs:List Value}(h:w.ownsRow 0 e sz v n xs)(hb:∀b,rootV v=some b→w'.heap[b]? =w.heap[b]?):w'.ownsRow 0 e sz v n xs:=by
 refine⟨h.1,?_⟩
 rcases h.2 with h|⟨gb,cap,cur,e1,h1,h2,h3⟩
 ·exact .inl h
 ·exact .inr ⟨gb,cap,cur,e1,h1,by rw [hb gb (by rw [e1];simp [rootV])];exact h2,h3⟩
theorem RowsOK.step{w w':World}{lo lo' S S':Nat→Prop}{e e2:Nat}{t:Ty}{l:List (List t.I)}{p:Nat→Prop}{mv:MV}{hs:List Value}(h:RowsOK w lo S e e2 t l p mv hs)(hw:∀b,b<w.heap.size→S b→S' b∧w'.heap[b]? =w.heap[b]?)
  (hr:∀b,b∈mv.rs→w'.heap[b]? =w.heap[b]?) (hlo:∀b,b∈mv.rs→¬lo' b):RowsOK w' lo' S' e e2 t l p mv hs:=by
 refine⟨ownsRow_same h.own fun b hb=>hr b (h.top b hb),h.top,fun b hb=>⟨hlo b hb,?_⟩,h.slc,fun j x r hp hx hl=>?_,h.apart⟩
 ·have h1:=(h.low b hb).2
  have h2:=hr b hb
  rw [xaj h1] at h2
  exact(xau.1 h2).1
 ·obtain⟨k1,xs,k2,k3⟩:=h.row j x r hp hx hl
  exact⟨k1,xs,ownsRow_same k2 fun b hb=>hr b (k1 b hb).1,k3.step hw⟩
def inRow(h:Option (Nat×Option Nat))(j:Nat):Prop:=∀i k,h=some (i,k)→j≠i
def Free(w:World)(b:Nat):Prop:=∃cur e,w.heap[b]? =some (.cells cur e)
theorem Free.step{w w':World}{b:Nat}(h:Free w b)(hb:w'.heap[b]? =w.heap[b]?):Free w' b:=by
 obtain⟨cur,e,h⟩:=h
 exact⟨cur,e,hb.trans h⟩
structure DeepOK(w:World)(lo:Nat→Prop)(e:Nat)(t:Ty)(l:List t.I)(mv:MV):Prop where
 hs:mv.hs=[]
 top:∀b,rootV mv.v=some b→b∈mv.rs
 low:∀b∈mv.rs,¬lo b∧b<w.heap.size
 rep:∃xs,w.ownsRow 0 e t.size mv.v l.length xs∧RepL (fun b=>(b∈mv.rs∧rootV mv.v≠some b)∧Free w b) w t l xs
structure PermOK(w:World)(lo:Nat→Prop)(S:Nat→Prop)(e e2:Nat)(t:Ty)(ix:List Nat)(l:List (List t.I))(mv:MV):Prop where
 own:w.ownsRow 0 e 1 mv.v ix.length (ix.map fun i=>mv.hs.getD i (.slice none 0 0))
 len:mv.hs.length=l.length
 top:∀b,rootV mv.v=some b→b∈mv.rs
 low:∀b∈mv.rs,¬lo b∧b<w.heap.size
 slc:∀x∈mv.hs,∃a n c,x=.slice a n c
 row:∀ (j:Nat) (x:Value) (r:List t.I),mv.hs[j]? =some x→l[j]? =some r→(∀b,rootV x=some b→b∈mv.rs∧rootV mv.v≠some b)∧∃xs,w.ownsRow 0 e2 t.size x r.length xs∧RepL S w t r xs
 apart:∀ (j k:Nat) (x y:Value) (b:Nat),mv.hs[j]? =some x→mv.hs[k]? =some y→rootV x=some b→rootV y=some b→j=k
structure SpentOK(w:World)(lo:Nat→Prop)(mv:MV):Prop where
 hs:mv.hs=[]
 low:∀b∈mv.rs,¬lo b∧b<w.heap.size
theorem low_step{w w':World}{lo lo':Nat→Prop}{rs:List Nat}(h:∀b∈rs,¬lo b∧b<w.heap.size)(hr:∀b,b∈rs→w'.heap[b]? =w.heap[b]?)(hlo:∀b,b∈rs→¬lo' b):∀b∈rs,¬lo' b∧b<w'.heap.size:=fun b hb=>⟨hlo b hb,by
 have h1:=(h b hb).2
 have h2:=hr b hb
 rw [xaj h1] at h2
 exact(xau.1 h2).1⟩
theorem DeepOK.step{w w':World}{lo lo':Nat→Prop}{e:Nat}{t:Ty}{l:List t.I}{mv:MV}(h:DeepOK w lo e t l mv)(hr:∀b,b∈mv.rs→w'.heap[b]? =w.heap[b]?)(hlo:∀b,b∈mv.rs→¬lo' b):DeepOK w' lo' e t l mv:=by
 obtain⟨xs,h1,h2⟩:=h.rep
 exact⟨h.hs,h.top,low_step h.low hr hlo,xs,ownsRow_same h1 fun b hb=>hr b (h.top b hb),h2.step fun b _ hb=>⟨⟨hb.1,hb.2.step (hr b hb.1.1)⟩,hr b hb.1.1⟩⟩
theorem PermOK.step{w w':World}{lo lo' S S':Nat→Prop}{e e2:Nat}{t:Ty}{ix:List Nat}{l:List (List t.I)}{mv:MV}(h:PermOK w lo S e e2 t ix l mv)(hw:∀b,b<w.heap.size→S b→S' b∧w'.heap[b]? =w.heap[b]?)
  (hr:∀b,b∈mv.rs→w'.heap[b]? =w.heap[b]?) (hlo:∀b,b∈mv.rs→¬lo' b):PermOK w' lo' S' e e2 t ix l mv:=by
 refine⟨ownsRow_same h.own fun b hb=>hr b (h.top b hb),h.len,h.top,low_step h.low hr hlo,h.slc,fun j x r hx hl=>?_,h.apart⟩
 obtain⟨k1,xs,k2,k3⟩:=h.row j x r hx hl
 exact⟨k1,xs,ownsRow_same k2 fun b hb=>hr b (k1 b hb).1,k3.step hw⟩
theorem SpentOK.step{w w':World}{lo lo':Nat→Prop}{mv:MV}(h:SpentOK w lo mv)(hr:∀b,b∈mv.rs→w'.heap[b]? =w.heap[b]?)(hlo:∀b,b∈mv.rs→¬lo' b):SpentOK w' lo' mv:=⟨h.hs,low_step h.low hr hlo⟩
def ObOK(P:Program)(w:World)(lo:Nat→Prop)(μ:Nat→Option MV)(S:Nat→Prop):Ob→MV→Prop
 | .arr e t l,mv=>(mv.hs=[]∧mv.rs=(rootV mv.v).toList)∧(∀b,rootV mv.v=some b→¬lo b)∧∃xs,w.ownsRow 0 e t.size mv.v l.length xs∧RepL S w t l xs
 | .txt e l,mv=>∃b cap cur fr,mv=⟨.slice (some ⟨b,0,none⟩) l.length cap,[b],[]⟩∧¬lo b∧w.heap[b]? =some (.cells cur e fr)∧cap≤fr.1∧l.length≤cap∧cur.size=cap∧cur.toList.take l.length=l.map (Value.int .u8)
 | .rows e e2 t l h,mv=>RowsOK w lo S e e2 t l (inRow h) mv mv.hs∧∀i d,h=some (i,some d)→∃x rs hs,mv.hs[i]? =some x∧μ d=some ⟨x,rs,hs⟩
 | .deep e t l,mv=>DeepOK w lo e t l mv
 | .perm _ e e2 t ix l,mv=>PermOK w lo S e e2 t ix l mv
 | .spent,mv=>SpentOK w lo mv
 | .cells cs,mv=>∃b vs e,mv=⟨.pointer (some ⟨b,0,none⟩),[b],[]⟩∧¬lo b∧w.heap[b]? =some (.cells vs e (0,0))∧vs.size=cs.length∧∀j v,nth cs j=some v→RelV P w lo μ S v (vs.getD j undef)
class Tabs where
 tabs:List (Nat×List Value)
instance noTabs:Tabs:=⟨[]⟩
def TabsOK[Tabs](w:World)(lo:Nat→Prop):Prop:=∀p∈Tabs.tabs,lo p.1∧∃t y,w.heap[p.1]? =some (.cells p.2.toArray t y)
theorem TabsOK.step[Tabs]{w w':World}{lo:Nat→Prop}(h:TabsOK w lo)(hb:∀b,lo b→w'.heap[b]? =w.heap[b]?):TabsOK w' lo:=fun p hp=>by
 obtain⟨h1,t,y,h2⟩:=h p hp
 exact⟨h1,t,y,(hb _ h1).trans h2⟩
theorem TabsOK.le[Tabs]{w:World}{lo lo':Nat→Prop}(h:TabsOK w lo)(hl:∀b,lo b→lo' b):TabsOK w lo':=fun p hp=>⟨hl _ (h p hp).1,(h p hp).2⟩
structure Mem[Tabs](P:Program)(X:Nat→Prop)(lo:Nat→Prop)(g:Nat→Option Ob)(μ:Nat→Option MV)(w:World):Prop where
 hX:∀b,X b→lo b
 hlo:(∀b,lo b→b<w.heap.size)
 ob:∀o mv,μ o=some mv→∃x,g o=some x∧ObOK P w lo μ (SS X μ) x mv
 dis:∀o p mv mv' b,μ o=some mv→μ p=some mv'→b∈mv.rs→b∈mv'.rs→o=p
 tab:TabsOK w lo
def isZ1:Ty→Value→Bool
 | .int k,.int k' n=>decide (k=k')&&n==0
 | .bool,.bool b=> !b
 | .str,.string s=>decide (s.data.toList=[])
 | .slice _,.slice none n c=>n==0&&c==0
 | .hdr,.slice none n c=>n==0&&c==0
 |_,_=>false
def isZ:Ty→List Value→Bool
 | .pair a b,cs=>isZ a (cs.take a.size)&&isZ b (cs.drop a.size)
 |t,cs=>match cs with
  | [v]=>isZ1 t v
  |_=>false
def InfoOK(P:Program)(T:Nat)(t:Ty):Prop:=∃i z,P.info? T=some i∧i.size=t.size∧i.zero=some z∧isZ t z.cells.toList=true
def scOf:Ty→Option TypeDesc
 | .int k=>some (.int k)
 | .bool=>some .bool
 | .str=>some .string
 |_=>none
def plainDesc:TypeDesc→Bool
 | .struct _=>false
 | .array _ _=>false
 |_=>true
def fieldsOK(P:Program):List Go.Field→List (Nat×Ty)→Nat→Prop
 | [],[],_=>True
 |f::fs,(ty,t)::ts,o=>f.type=ty∧f.offset=o∧InfoOK P ty t∧fieldsOK P fs ts (o+t.size)
 |_,_,_=>False
def sumSize:List (Nat×Ty)→Nat
 | []=>0
 |(_,t)::r=>t.size+sumSize r
def EqOK(P:Program)(T:Nat)(fields:Array Go.Field):Prop:=P.eqGuardType P.depth T=false∧P.stoodInHeld T=false∧∀f∈fields.toList,f.name≠ "_"
def TDok(P:Program)(T:Nat):TD→Prop
 | .sc t=>∃d,scOf t=some d∧P.underlying T=some d∧InfoOK P T t
 | .sl e t b=>P.underlying T=some (.slice e)∧(∃i z,P.info? e=some i∧i.size=t.size∧i.bytes=b∧i.zero=some z∧isZ t z.cells.toList=true)∧∃i,P.info? T=some i∧i.size=1∧i.zero=some (.slice none 0 0)
 | .st t fs=>∃fields,P.underlying T=some (.struct fields)∧fieldsOK P fields.toList fs 0∧(sumSize fs=t.size∧(scFs fs=true→EqOK P T fields))∧InfoOK P T t
 | .ar n e te t=>P.underlying T=some (.array n e)∧InfoOK P e te∧(n*te.size=t.size∧(scTy te=true→P.eqGuardType P.depth T=false))∧InfoOK P T t
 | .other=>∃d i z,P.underlying T=some d∧plainDesc d=true∧P.info? T=some i∧i.size=1∧i.zero=some z∧z.cells.size=1
 | .no=>True
def TabOK(P:Program)(tt:Nat→TD):Prop:=∀T,TDok P T (tt T)
theorem isZ_len:∀ {t:Ty} {cs:List Value},isZ t cs=true→cs.length=t.size
 | .pair a b,cs,h=>by
  simp only [isZ,xg] at h
  have h1:=isZ_len h.1
  have h2:=isZ_len h.2
  simp only [xw,xap] at h1 h2
  simp only [Ty.size]
  have:=b.size_pos
  omega
 | .int k,cs,h=>by match cs,h with| [_],_=>rfl
 | .bool,cs,h=>by match cs,h with| [_],_=>rfl
 | .str,cs,h=>by match cs,h with| [_],_=>rfl
 | .seq _,cs,h=>by match cs,h with| [_],_=>rfl
 | .hdr,cs,h=>by match cs,h with| [_],_=>rfl
 | .slice _,cs,h=>by match cs,h with| [_],_=>rfl
theorem string_nil{s:ByteArray}(h:s.data.toList=[]):s=⟨([]:List UInt8).toArray⟩:=by
 cases s with
 |mk d=>
  have:d= #[]:=by
   apply xgf
   simpa using h
  rw [this]
theorem isZ_one{t:Ty}(ht:t.size=1){cs:List Value}(h:isZ t cs=true):∃x,cs=[x]:=by
 have:=isZ_len h
 match cs,this with
 | [x],_=>exact⟨x,rfl⟩
 | [],e=>simp at e;omega
 |_::_::_,e=>simp at e;omega
theorem isZ1_int{k:IntKind}{x:Value}(h:isZ (.int k) [x]=true):x=.int k 0:=by
 cases x<;>simp [isZ,isZ1] at h
 obtain⟨rfl,rfl⟩:=h;rfl
theorem isZ1_bool{x:Value}(h:isZ .bool [x]=true):x=.bool false:=by
 cases x<;>simp [isZ,isZ1] at h
 subst h;rfl
theorem isZ1_str{x:Value}(h:isZ .str [x]=true):x=.string ⟨([]:List UInt8).toArray⟩:=by
 cases x with
 |string s=>simp [isZ,isZ1] at h;rw [string_nil (s:=s) (by simp [h])]
 |_=>simp [isZ,isZ1] at h
theorem isZ1_slice{t:Ty}{x:Value}(h:isZ (.slice t) [x]=true):x=.slice none 0 0:=by
 cases x with
 |slice a n c=>cases a<;>simp [isZ,isZ1] at h;obtain⟨rfl,rfl⟩:=h;rfl
 |_=>simp [isZ,isZ1] at h
theorem isZ1_hdr{x:Value}(h:isZ .hdr [x]=true):x=.slice none 0 0:=by
 cases x with
 |slice a n c=>cases a<;>simp [isZ,isZ1] at h;obtain⟨rfl,rfl⟩:=h;rfl
 |_=>simp [isZ,isZ1] at h
theorem isZ_rep{S:Nat→Prop}{w:World}:∀ {t:Ty} {cs:List Value},isZ t cs=true→Rep S w t t.dflt cs
 | .pair a b,cs,h=>by
  simp only [isZ,xg] at h
  exact⟨_,_,(xds a.size cs).symm,isZ_rep h.1,isZ_rep h.2⟩
 | .int k,cs,h=>by obtain⟨x,rfl⟩:=isZ_one rfl h;rw [isZ1_int h];rfl
 | .bool,cs,h=>by obtain⟨x,rfl⟩:=isZ_one rfl h;rw [isZ1_bool h];rfl
 | .str,cs,h=>by obtain⟨x,rfl⟩:=isZ_one rfl h;rw [isZ1_str h];rfl
 | .seq g,cs,h=>by obtain⟨x,rfl⟩:=isZ_one (t:=.seq g) rfl h;simp [isZ,isZ1] at h
 | .hdr,cs,h=>by obtain⟨x,rfl⟩:=isZ_one rfl h;rw [isZ1_hdr h];exact⟨none,0,rfl,rfl,xm _,fun i n hn=>(by simp [Ty.dflt] at hn)⟩
 | .slice _,cs,h=>by obtain⟨x,rfl⟩:=isZ_one rfl h;rw [isZ1_slice h];exact Rep.nil
theorem isZ_rel{P:Program}{S:Nat→Prop}{w:World}{lo:Nat→Prop}{μ:Nat→Option MV}:∀ {t:Ty} {cs:List Value},isZ t cs=true→(zeroAV t).length=cs.length∧∀j v,nth (zeroAV t) j=some v→RelV P w lo μ S v (cs.getD j undef)
 | .pair a b,cs,h=>by
  simp only [isZ,xg] at h
  obtain⟨h1,h2⟩:=isZ_rel (P:=P) (S:=S) (w:=w) (lo:=lo) (μ:=μ) h.1
  obtain⟨h3,h4⟩:=isZ_rel (P:=P) (S:=S) (w:=w) (lo:=lo) (μ:=μ) h.2
  have hl:=isZ_len h.1
  simp only [xw,xap] at h1 h3 hl
  refine⟨by simp only [zeroAV,xj];omega,fun j v hv=>?_⟩
  simp only [zeroAV,nth_eq] at hv
  by_cases hj:j<(zeroAV a).length
  ·rw [xab hj] at hv
   have:=h2 j v (by rw [nth_eq];exact hv)
   rwa [xd,xbc,if_pos (by omega),←xd] at this
  ·rw [xz (by omega)] at hv
   have:=h4 _ v (by rw [nth_eq];exact hv)
   rwa [xd,xaa,show a.size+(j-(zeroAV a).length)=j by omega,←xd] at this
 | .int k,cs,h=>by
  obtain⟨x,rfl⟩:=isZ_one rfl h
  exact⟨rfl,fun j v hv=>by match j,hv with|0,hv=>simp [zeroAV,nth] at hv;subst hv;exact .dat rfl (isZ_rep h)⟩
 | .bool,cs,h=>by
  obtain⟨x,rfl⟩:=isZ_one rfl h
  exact⟨rfl,fun j v hv=>by match j,hv with|0,hv=>simp [zeroAV,nth] at hv;subst hv;exact .dat rfl (isZ_rep h)⟩
 | .str,cs,h=>by
  obtain⟨x,rfl⟩:=isZ_one rfl h
  exact⟨rfl,fun j v hv=>by match j,hv with|0,hv=>simp [zeroAV,nth] at hv;subst hv;exact .dat rfl (isZ_rep h)⟩
 | .hdr,cs,h=>by
  obtain⟨x,rfl⟩:=isZ_one rfl h
  exact⟨rfl,fun j v hv=>by match j,hv with|0,hv=>simp [zeroAV,nth] at hv;subst hv;exact .dat rfl (isZ_rep h)⟩
 | .seq g,cs,h=>by
  obtain⟨x,rfl⟩:=isZ_one (t:=.seq g) rfl h
  simp [isZ,isZ1] at h
 | .slice _,cs,h=>by
  obtain⟨x,rfl⟩:=isZ_one rfl h
  rw [isZ1_slice h]
  exact⟨rfl,fun j v hv=>by match j,hv with|0,hv=>simp [zeroAV,nth] at hv;subst hv;exact .nilsl⟩
theorem scOf_plain{t:Ty}{d:TypeDesc}(h:scOf t=some d):plainDesc d=true:=by
 cases t<;>simp [scOf] at h<;>subst h<;>rfl
section
variable {P:Program} {tt:Nat→TD} {w:World}
theorem run_agg(hT:TabOK P tt){ty:Nat}{sz:Nat×Bool}(h:tySize tt ty=some sz):(isAgg ty).run P w=.ok sz.2 w∧(sizeOf ty).run P w=.ok sz.1 w:=by
 have hd:=hT ty
 unfold tySize at h
 split at h<;>rename_i hq<;>rw [hq] at hd<;>simp only [TDok] at hd
 ·obtain⟨d,h1,h2,i,z,h3,h4,_⟩:=hd
  cases h
  refine⟨?_,by simp [sizeOf,typeInfo,h3,h4]⟩
  have aa:=scOf_plain h1
  cases d<;>simp [plainDesc] at aa<;>simp [isAgg,run_underlying h2]
 ·obtain⟨h1,_,i,h3,h4,_⟩:=hd
  cases h
  exact⟨by simp [isAgg,run_underlying h1],by simp [sizeOf,typeInfo,h3,h4]⟩
 ·obtain⟨fields,h1,_,_,i,z,h3,h4,_⟩:=hd
  cases h
  exact⟨by simp [isAgg,run_underlying h1],by simp [sizeOf,typeInfo,h3,h4]⟩
 ·obtain⟨h1,_,_,i,z,h3,h4,_⟩:=hd
  cases h
  exact⟨by simp [isAgg,run_underlying h1],by simp [sizeOf,typeInfo,h3,h4]⟩
 ·obtain⟨d,i,_,h1,h2,h3,h4,_⟩:=hd
  cases h
  refine⟨?_,by simp [sizeOf,typeInfo,h3,h4]⟩
  cases d<;>simp [plainDesc] at h2<;>simp [isAgg,run_underlying h1]
 ·cases h
end
end Go.Proofs.YteiekijgoifhoaaGreatDoor
/-
 Operations on plain values: what the model computes is what the evaluator computes.
-/
namespace Go.Proofs.YteiekijgoifhoaaGreatDoor
open Go.RowKit (Below)
section
variable {P:Program} {tt:Nat→TD} {w:World} {lo:Nat→Prop} {μ:Nat→Option MV} {S:Nat→Prop}
theorem RelV.int{k:IntKind}{n:Int}{x:Value}(h:RelV P w lo μ S (.dat (.int k) n) x):x=.int k n:=by
 cases h with
 |dat _ h=>simpa [Rep] using h
theorem RelV.bool{b:Bool}{x:Value}(h:RelV P w lo μ S (.dat .bool b) x):x=.bool b:=by
 cases h with
 |dat _ h=>simpa [Rep] using h
theorem RelV.str{s:List UInt8}{x:Value}(h:RelV P w lo μ S (.dat .str s) x):x=.string ⟨s.toArray⟩:=by
 cases h with
 |dat _ h=>simpa [Rep] using h
theorem RelV.slice{t:Ty}{l:List t.I}{x:Value}(h:RelV P w lo μ S (.dat (.slice t) l) x):∃a cap,x=.slice a l.length cap∧Rep S w (.slice t) l [x]:=by
 cases h with
 |dat _ h=>
  have h0:=h
  simp only [Rep] at h
  obtain⟨a,cap,e,_⟩:=h
  simp only [xbt,and_true] at e
  exact⟨a,cap,e,h0⟩
theorem rel_int(k:IntKind)(n:Int):RelV P w lo μ S (.dat (.int k) n) (.int k n):=.dat rfl rfl
theorem rel_bool(b:Bool):RelV P w lo μ S (.dat .bool b) (.bool b):=.dat rfl rfl
theorem rel_str(s:List UInt8):RelV P w lo μ S (.dat .str s) (.string ⟨s.toArray⟩):=.dat rfl rfl
theorem str_size(s:List UInt8):ByteArray.size ⟨s.toArray⟩=s.length:=by simp [ByteArray.size]
theorem str_append(a b:List UInt8):(⟨a.toArray⟩++⟨b.toArray⟩:ByteArray)=⟨(a++b).toArray⟩:=by
 apply ByteArray.ext
 simp
theorem str_toList(s:List UInt8):ByteArray.toList ⟨s.toArray⟩=s:=by
 rw [ByteArray.toList_eq]
theorem str_extract(s:List UInt8)(i j:Nat)(hj:j≤s.length):ByteArray.extract ⟨s.toArray⟩ i j=⟨((s.take j).drop i).toArray⟩:=by
 apply ByteArray.ext
 simp [ByteArray.data_extract,List.take_drop]
 have:i+(j-i)=max i j:=by omega
 rw [this]
 by_cases h:i≤j
 ·rw [show max i j=j by omega]
 ·rw [xci (by simp;omega),xci (by simp;omega)]
theorem ev_bq{b:Bool}{q:QR}(h:(bq b).ev=some q):q=(.dat .bool b,[]):=by simpa [bq] using h.symm
theorem ev_iq{k:IntKind}{n:Int}{q:QR}(h:(iq k n).ev=some q):q=(.dat (.int k) n,[]):=by simpa [iq] using h.symm
theorem ev_vq{v:AV}{q:QR}(h:(vq v).ev=some q):q=(v,[]):=by simpa [vq] using h.symm
theorem ev_g{L:Type}{b:Bool}{x:Tr L}{q:L}(h:(Tr.g b x).ev=some q):b=true∧x.ev=some q:=by
 cases b
 ·simp at h
 ·simpa using h
theorem bin_xor{t:TypeId}{k:IntKind}{a b:Int}:binOp .xor t (.int k a) (.int k b)=Op.intBits .xor k a b:=by simp [binOp]
theorem bin_str{op:BinOp}{t:TypeId}{a b:ByteArray}:binOp op t (.string a) (.string b)=Op.stringOp op a b:=by cases op<;>rfl
theorem run_equal_bool{ty:Nat}(h:P.underlying ty=some .bool)(a b:Bool):(Op.equal ty (.bool a) (.bool b)).run P w=.ok (a==b) w:=by
 have:∀d,(Op.equalIn (d+1) ty (.bool a) (.bool b)).run P w=.ok (a==b) w:=fun d=>by
  rw [Op.equalIn.eq_def]
  simp [run_underlying h]
 exact this 9999
theorem abin_ok(hT:TabOK P tt){op:BinOp}{ty:Nat}{x y:AV}{q:QR}(h:(abin tt op ty x y).ev=some q){vx vy:Value}(hx:RelV P w lo μ S x vx)(hy:RelV P w lo μ S y vy)(X Y:Operand):
  q.2=[]∧∃v,(do eqGuard op ty X Y vx vy;binOp op ty vx vy:Sem Value).run P w=.ok v w∧RelV P w lo μ S q.1 v:=by
 unfold abin at h
 split at h
 ·have e1:=hx.int
  have e2:=hy.int
  subst e1;subst e2
  rename_i k a k' b
  cases op
  case shl=>
   obtain⟨h0,h⟩:=ev_g h
   have:=ev_iq h;subst this
   refine⟨rfl,_,?_,rel_int _ _⟩
   have aa:¬(b<0):=by simpa using h0
   simp only [eqGuard_at_int,binOp_shl,Op.shift,aa,if_false,Sem.run_bind,Sem.run_pure,Result.andThen_ok]
  case shr=>
   obtain⟨h0,h⟩:=ev_g h
   have:=ev_iq h;subst this
   refine⟨rfl,_,?_,rel_int _ _⟩
   have aa:¬(b<0):=by simpa using h0
   simp only [eqGuard_at_int,binOp_shr,Op.shift,aa,if_false,Sem.run_bind,Sem.run_pure,Result.andThen_ok]
  all_goals
   simp only [] at h
   split at h
   next hk=>
    subst hk
    first
     |(have:=ev_iq h;subst this;exact⟨rfl,_,by simp only [eqGuard_at_int,binOp_add,binOp_sub,binOp_mul,binOp_and,binOp_or,binOp_andNot,bin_xor,Op.intArith,Op.intBits,Sem.run_bind,Sem.run_pure,Result.andThen_ok],rel_int _ _⟩)
     |(have:=ev_bq h;subst this;exact⟨rfl,_,by simp only [eqGuard_at_int,binOp_eql,binOp_neq,binOp_lss,binOp_leq,binOp_gtr,binOp_geq,Sem.run_bind,Sem.run_pure,Result.andThen_ok],rel_bool _⟩)
     |(obtain⟨h0,h⟩:=ev_g h
       have:=ev_iq h;subst this
       have aa:¬(b=0):=by simpa using h0
       exact⟨rfl,_,by simp only [eqGuard_at_int,binOp_quo,binOp_rem,Op.intDiv,aa,if_false,Sem.run_bind,Sem.run_pure,Result.andThen_ok],rel_int _ _⟩)
     |(simp at h)
   next=>simp at h
 ·have e1:=hx.bool
  have e2:=hy.bool
  subst e1;subst e2
  split at h
  next hq=>
   have hd:=hT ty
   rw [hq] at hd
   obtain⟨d,ab,ad,_⟩:=hd
   simp only [scOf,xc] at ab
   subst ab
   cases op
   case eql=>have:=ev_bq h;subst this;exact⟨rfl,_,by simp [eqGuard_at_bool,show∀x y,binOp .eql ty (.bool x) (.bool y)=(do pure (.bool ((←Op.equal ty (.bool x) (.bool y))))) from fun _ _=>rfl,run_equal_bool ad],rel_bool _⟩
   case neq=>have:=ev_bq h;subst this;exact⟨rfl,_,by simp [eqGuard_at_bool,show∀x y,binOp .neq ty (.bool x) (.bool y)=(do pure (.bool (!(←Op.equal ty (.bool x) (.bool y))))) from fun _ _=>rfl,run_equal_bool ad],rel_bool _⟩
   all_goals simp at h
  next=>simp at h
 ·have e1:=hx.str
  have e2:=hy.str
  subst e1;subst e2
  rename_i a b
  cases op
  case add=>
   obtain⟨h0,h⟩:=ev_g h
   have:=ev_vq h;subst this
   refine⟨rfl,_,?_,rel_str _⟩
   have aa:¬((9223372036854775807:Int)<(List.length (α:=UInt8) a:Int)+(List.length (α:=UInt8) b:Int)):=by simp at h0;omega
   simp [eqGuard_at_string,bin_str,Op.stringOp,str_size,str_append,aa]
  all_goals
   first
    |(have:=ev_bq h;subst this;exact⟨rfl,_,by simp only [eqGuard_at_string,bin_str,Op.stringOp,str_toList,sless,Sem.run_bind,Sem.run_pure,Result.andThen_ok],rel_bool _⟩)
    |(simp at h)
 ·simp at h
end
end Go.Proofs.YteiekijgoifhoaaGreatDoor
/-
 Operations that read memory, addresses, lengths.
-/
namespace Go.Proofs.YteiekijgoifhoaaGreatDoor
open Go.RowKit (Below)
section
variable {P:Program} {tt:Nat→TD} {w:World} {lo:Nat→Prop} {μ:Nat→Option MV} {S:Nat→Prop}
theorem flat_len:∀ (t:Ty) (x:t.I),(flat t x).length=t.size
 | .pair a b,(x,y)=>by simp [flat,Ty.size,flat_len a x,flat_len b y]
 | .int _,_=>rfl
 | .bool,_=>rfl
 | .str,_=>rfl
 | .seq _,_=>rfl
 | .hdr,_=>rfl
 | .slice _,_=>rfl
theorem flat_rel[Tabs]:∀ {t:Ty} {x:t.I} {c:List Value},Rep S w t x c→∀j v,nth (flat t x) j=some v→RelV P w lo μ S v (c.getD j undef)
 | .pair a b,(x,y),c,h,j,v,hv=>by
  obtain⟨c1,c2,rfl,h1,h2⟩:=h
  have hl:=h1.len
  have hf:=flat_len a x
  simp only [flat,nth_eq] at hv
  by_cases hj:j<(flat a x).length
  ·rw [xab hj] at hv
   have:=flat_rel h1 j v (by rw [nth_eq];exact hv)
   rwa [xd,xab (by omega),←xd]
  ·rw [xz (by omega)] at hv
   have:=flat_rel h2 _ v (by rw [nth_eq];exact hv)
   rwa [xd,xz (by omega),show j-c1.length=j-(flat a x).length by omega,←xd]
 | .int _,_,c,h,j,v,hv=>by
  have h':=h
  simp only [Rep] at h';subst h'
  match j,hv with
  |0,hv=>simp [flat,nth] at hv;subst hv;exact .dat rfl h
 | .bool,_,c,h,j,v,hv=>by
  have h':=h
  simp only [Rep] at h';subst h'
  match j,hv with
  |0,hv=>simp [flat,nth] at hv;subst hv;exact .dat rfl h
 | .str,_,c,h,j,v,hv=>by
  have h':=h
  simp only [Rep] at h';subst h'
  match j,hv with
  |0,hv=>simp [flat,nth] at hv;subst hv;exact .dat rfl h
 | .hdr,_,c,h,j,v,hv=>by
  have h':=h
  simp only [Rep] at h'
  obtain⟨_,_,rfl,_⟩:=h'
  match j,hv with
  |0,hv=>simp [flat,nth] at hv;subst hv;exact .dat rfl h
 | .seq _,_,c,h,j,v,hv=>by
  have h':=h
  simp only [Rep] at h'
  obtain⟨_,_,_,rfl,_⟩:=h'
  match j,hv with
  |0,hv=>simp [flat,nth] at hv;subst hv;exact .dat rfl h
 | .slice _,_,c,h,j,v,hv=>by
  have h':=h
  simp only [Rep] at h'
  obtain⟨a,cap,rfl,_⟩:=h'
  match j,hv with
  |0,hv=>simp [flat,nth] at hv;subst hv;exact .dat rfl h
def CellsR(P:Program)(w:World)(lo:Nat→Prop)(μ:Nat→Option MV)(S:Nat→Prop)(cs:List AV)(b off:Nat):Prop:=
 ∀j v,nth cs j=some v→∃x,w.cell? ⟨b,off+j,none⟩=some x∧RelV P w lo μ S v x
theorem load_ok(hT:TabOK P tt){ty:Nat}{sz:Nat×Bool}(ae:tySize tt ty=some sz){cs:List AV}{b off k:Nat}(hc:CellsR P w lo μ S cs b off){v:AV}(hv:cut cs k sz=some v):
  ∃x,(loadVar ty ⟨b,off+k,none⟩).run P w=.ok x w∧RelV P w lo μ S v x:=by
 obtain⟨h1,h2⟩:=run_agg (P:=P) (w:=w) hT ae
 unfold cut at hv
 split at hv
 next hb=>
  split at hv
  next hk=>
   simp at hv
   subst hv
   have hex:∃vs:List Value,vs.length=sz.1∧∀j,j<sz.1→∃y,vs[j]? =some y∧w.cell? ⟨b,off+k+j,none⟩=some y∧∀v,nth cs (k+j)=some v→RelV P w lo μ S v y:=by
    have:∀n,n≤sz.1→∃vs:List Value,vs.length=n∧∀j,j<n→∃y,vs[j]? =some y∧w.cell? ⟨b,off+k+j,none⟩=some y∧∀v,nth cs (k+j)=some v→RelV P w lo μ S v y:=by
     intro n
     induction n with
     |zero=>intro _;exact⟨[],rfl,fun j hj=>by omega⟩
     |succ n ih=>
      intro hn
      obtain⟨vs,hl,ab⟩:=ih (by omega)
      obtain⟨v,hv⟩:∃v,nth cs (k+n)=some v:=⟨cs[k+n]'(by omega),by rw [nth_eq];simp⟩
      obtain⟨x,hx,hr⟩:=hc _ _ hv
      refine⟨vs++ [x],by simp [hl],fun j hj=>?_⟩
      by_cases af:j<n
      ·obtain⟨y,a,b',c⟩:=ab j af
       exact⟨y,by rw [xab (by omega)];exact a,b',c⟩
      ·have:j=n:=by omega
       subst this
       refine⟨x,by rw [xz (by omega)];simp [hl],by rw [xda];exact hx,fun v' ad=>?_⟩
       rw [hv] at ad;cases ad;exact hr
    exact this sz.1 (xm _)
   obtain⟨vs,hl,ab⟩:=hex
   have aa:=run_loadCells_list (P:=P) w ⟨b,off+k,none⟩ vs (fun j u hu=>by
    have hj:j<sz.1:=by
     rw [←hl]
     exact(xk.1 hu).1
    obtain⟨y,a,b',_⟩:=ab j hj
    rw [hu] at a
    cases a
    rw [Addr.add_lit]
    exact b')
   rw [hl] at aa
   refine⟨.agg vs.toArray,by simp [loadVar,h1,hb,h2,aa],.agg (by simp [hl];omega) fun j v hv=>?_⟩
   rw [nth_eq,xbc] at hv
   split at hv
   next hj=>
    rw [xaa] at hv
    obtain⟨y,a,_,c⟩:=ab j hj
    have:=c v (by rw [nth_eq];exact hv)
    simpa [a] using this
   next=>cases hv
  next=>cases hv
 next hb=>
  obtain⟨x,hx,hr⟩:=hc _ _ hv
  exact⟨x,by simp [loadVar,h1,hb,run_load,hx],hr⟩
variable {X:Nat→Prop} {g:Nat→Option Ob}
theorem Mem.cells[Tabs](hm:Mem P X lo g μ w){o b k:Nat}{cs:List AV}{rs:List Nat}{aa:List Value}(hr:μ o=some ⟨.pointer (some ⟨b,0,none⟩),rs,aa⟩)(hg:g o=some (.cells cs)):CellsR P w lo μ (SS X μ) (cs.drop k) b k:=by
 obtain⟨x,hx,ab⟩:=hm.ob _ _ hr
 rw [hg] at hx
 cases hx
 obtain⟨b',vs,e,he,_,hh,hs,hv⟩:=ab
 simp only [MV.mk.injEq,Value.pointer.injEq,xc,Addr.mk.injEq,and_true] at he
 obtain⟨he,_⟩:=he
 subst he
 intro j v hj
 rw [nth_eq,xaa] at hj
 have ad:k+j<vs.size:=by rw [hs];exact(xk.1 hj).1
 refine⟨vs.getD (k+j) undef,?_,hv (k+j) v (by rw [nth_eq];exact hj)⟩
 rw [cell_of_row w b (k+j) vs e (0,0) hh]
 simp [ad]
theorem RelV.cells{cs:List AV}{x:Value}(h:RelV P w lo μ S (.ptr cs) x):∃b k,x=.pointer (some ⟨b,k,none⟩)∧(S b∨lo b)∧CellsR P w lo μ S cs b k:=by
 cases h with
 |ptr xs _ hb hx h=>exact⟨_,_,rfl,hb,fun j v hv=>⟨xs j,hx j v hv,h j v hv⟩⟩
theorem cut_drop{cs:List AV}{k j:Nat}{sz:Nat×Bool}{v:AV}(h:cut cs (k+j) sz=some v):cut (cs.drop k) j sz=some v:=by
 unfold cut at*
 split at h
 next hb=>
  split at h
  next hk=>rw [if_pos (by simp;omega)];simpa [xdm] using h
  next=>cases h
 next hb=>rw [nth_eq] at*;rw [xaa];exact h
theorem Mem.elem[Tabs](hm:Mem P X lo g μ w){o b n c:Nat}{e:Nat}{t:Ty}{l:List t.I}{rs:List Nat}{ad:List Value}(hr:μ o=some ⟨.slice (some ⟨b,0,none⟩) n c,rs,ad⟩)(hg:g o=some (.arr e t l)){i:Nat}(hi:i<l.length):
  ∃cs,Rep (SS X μ) w t (l.getD i t.dflt) cs∧∀j u,cs[j]? =some u→w.cell? ⟨b,i*t.size+j,none⟩=some u:=by
 obtain⟨x,hx,ae⟩:=hm.ob _ _ hr
 rw [hg] at hx
 cases hx
 obtain⟨⟨af,ah⟩,ai,xs,aa,ab⟩:=ae
 have hx:l[i]? =some (l.getD i t.dflt):=by simp [xd,hi]
 obtain⟨cs,h1,h2⟩:=ab.at hx
 refine⟨cs,h1,fun j u hu=>?_⟩
 have:=aa.cells (g:=b) rfl _ _ (h2 j u hu)
 rwa [Addr.add_lit,xbg] at this
theorem Mem.rowAt[Tabs](hm:Mem P X lo g μ w){o i:Nat}{v x:Value}{rs:List Nat}{aa:List Value}{e e2:Nat}{t:Ty}{l:List (List t.I)}(hr:μ o=some ⟨v,rs,aa⟩)(hx:aa[i]? =some x)(hg:g o=some (.rows e e2 t l none)):
  i<l.length∧∃xs,w.ownsRow 0 e2 t.size x (l.getD i []).length xs∧RepL (SS X μ) w t (l.getD i []) xs:=by
 obtain⟨y,hy,ad⟩:=hm.ob _ _ hr
 rw [hg] at hy
 cases hy
 obtain⟨ab,_⟩:=ad
 have hlen:=ab.len
 have hi:i<l.length:=by
  have:=(xk.1 hx).1
  simp only at hlen
  omega
 obtain⟨_,xs,k2,k3⟩:=ab.row i x (l.getD i []) (fun j k hk=>by cases hk) hx (by simp [xd,hi])
 exact⟨hi,xs,k2,k3⟩
theorem Mem.rowAtP[Tabs](hm:Mem P X lo g μ w){o i:Nat}{v x:Value}{rs:List Nat}{aa:List Value}{e e2:Nat}{t:Ty}{ix:List Nat}{l:List (List t.I)}(hr:μ o=some ⟨v,rs,aa⟩)(hx:aa[i]? =some x){k:Bool}(hg:g o=some (.perm k e e2 t ix l)):
  i<l.length∧(∀b,rootV x=some b→b∈rs)∧∃xs,w.ownsRow 0 e2 t.size x (l.getD i []).length xs∧RepL (SS X μ) w t (l.getD i []) xs:=by
 obtain⟨y,hy,ab⟩:=hm.ob _ _ hr
 rw [hg] at hy
 cases hy
 have hp:PermOK w lo (SS X μ) e e2 t ix l ⟨v,rs,aa⟩:=ab
 have hlen:=hp.len
 have hi:i<l.length:=by
  have:=(xk.1 hx).1
  simp only at hlen
  omega
 obtain⟨k1,xs,k2,k3⟩:=hp.row i x (l.getD i []) hx (by simp [xd,hi])
 exact⟨hi,fun b hb=>(k1 b hb).1,xs,k2,k3⟩
theorem aload_ok[Tabs](hT:TabOK P tt)(hm:Mem P X lo g μ w){ty:Nat}{a:AV}{q:QR}(h:(aload tt g ty a).ev=some q){va:Value}(ha:RelV P w lo μ (SS X μ) a va):
  q.2=[]∧∃v,(Instr.loadAt ty va).run P w=.ok v w∧RelV P w lo μ (SS X μ) q.1 v:=by
 unfold aload at h
 split at h
 ·rename_i sz o k aa
  split at h
  next cs hg=>
   rw [Tr.ev_bind,Tr.ev_opt] at h
   cases hc:cut cs k sz with
   |none=>rw [hc] at h;cases h
   |some v=>
    rw [hc] at h
    have:=ev_vq h;subst this
    cases ha with
    |box hμ=>
     obtain⟨x,h1,h2⟩:=load_ok hT aa (hm.cells hμ hg) (cut_drop (j:=0) hc)
     exact⟨rfl,x,by simpa [Instr.loadAt,Instr.sureAddr] using h1,h2⟩
  next=>cases h
 ·rename_i sz cs aa
  rw [Tr.ev_bind,Tr.ev_opt] at h
  cases hc:cut cs 0 sz with
  |none=>rw [hc] at h;cases h
  |some v=>
   rw [hc] at h
   have:=ev_vq h;subst this
   obtain⟨b,k,rfl,_,al⟩:=ha.cells
   obtain⟨x,h1,h2⟩:=load_ok hT aa al hc
   exact⟨rfl,x,by simpa [Instr.loadAt,Instr.sureAddr] using h1,h2⟩
 ·rename_i sz o i s aa
  split at h
  next e t l hg=>
   split at h
   next hz=>
    obtain⟨hi,h⟩:=ev_g h
    rw [Tr.ev_bind,Tr.ev_opt] at h
    cases hc:cut (flat t (l.getD i t.dflt)) 0 sz with
    |none=>rw [hc] at h;cases h
    |some v=>
     rw [hc] at h
     have:=ev_vq h;subst this
     cases ha with
     |elt hμ=>
      obtain⟨cs,h1,h2⟩:=hm.elem hμ hg (by simpa using hi)
      have ae:CellsR P w lo μ (SS X μ) (flat t (l.getD i t.dflt)) _ (i*s):=fun j v hv=>by
       have hj:j<cs.length:=by
        rw [h1.len,←flat_len t (l.getD i t.dflt)]
        rw [nth_eq] at hv
        exact(xk.1 hv).1
       refine⟨cs.getD j undef,?_,flat_rel h1 j v hv⟩
       rw [hz.2]
       exact h2 j _ (by simp [xd,hj])
      obtain⟨x,h3,h4⟩:=load_ok hT aa ae hc
      exact⟨rfl,x,by simpa [Instr.loadAt,Instr.sureAddr] using h3,h4⟩
   next=>cases h
  next e l hg=>
   split at h
   next hz=>
    obtain⟨hi,h⟩:=ev_g h
    have:=ev_iq h;subst this
    have af:i<l.length:=by simpa using hi
    cases ha with
    | @elt _ _ _ _ b n c _ _ hμ=>
     obtain⟨x,hx,ah⟩:=hm.ob _ _ hμ
     rw [hg] at hx
     cases hx
     obtain⟨b',cap,cur,fr,he,_,hh,_,av,al,ao⟩:=ah
     simp only [MV.mk.injEq,Value.slice.injEq,xc,Addr.mk.injEq,and_true] at he
     obtain⟨⟨rfl,_⟩,_⟩:=he
     have ab:w.cell? ⟨b,i*s+0,none⟩=some (.int .u8 (l.getD i 0)):=by
      rw [cell_of_row w b (i*s+0) cur e fr hh,hz.2.2]
      have h1:cur.toList[i]? =some (.int .u8 (l.getD i 0)):=by
       have h2:(cur.toList.take l.length)[i]? =cur.toList[i]? :=by rw [xbc,if_pos af]
       rw [←h2,ao,xr]
       simp [xd,af]
      simpa using h1
     obtain⟨aw,ay⟩:=sz
     obtain⟨q1,q2,_⟩:=hz
     simp only at q1 q2
     subst q1;subst q2
     obtain⟨x,h3,h4⟩:=load_ok (P:=P) (lo:=lo) (μ:=μ) (S:=SS X μ) hT aa (cs:=[.dat (.int .u8) (l.getD i 0)]) (b:=b) (off:=i*s) (k:=0) (v:=.dat (.int .u8) (l.getD i 0)) (fun j v hv=>by
      cases j with
      |zero=>
       simp only [nth,xc] at hv
       subst hv
       exact⟨_,ab,rel_int _ _⟩
      |succ j=>simp [nth] at hv) (by simp [cut,nth])
     refine⟨rfl,x,by simpa [Instr.loadAt,Instr.sureAddr] using h3,h4⟩
   next=>cases h
  next e e2 t l hg=>
   split at h
   next hz=>
    obtain⟨hi,h⟩:=ev_g h
    have:=ev_vq h;subst this
    have af:i<l.length:=by simpa using hi
    cases ha with
    | @elt _ _ _ _ b n c _ ad hμ=>
     obtain⟨y,hy,ah⟩:=hm.ob _ _ hμ
     rw [hg] at hy
     cases hy
     obtain⟨ak,_⟩:=ah
     have hlen:=ak.len
     simp only at hlen
     obtain⟨x,hx⟩:∃x,ad[i]? =some x:=⟨ad[i]'(by omega),by simp⟩
     obtain⟨q1,q2,q3⟩:=hz
     obtain⟨k1,_⟩:=run_agg (P:=P) (w:=w) hT aa
     have ab:w.cell? ⟨b,i*s,none⟩=some x:=by
      have:=ak.own.cells (g:=b) rfl i x hx
      rw [Addr.add_lit,xbg] at this
      rw [q3,xbw]
      exact this
     rw [q2] at k1
     obtain⟨a0,m0,c0,rfl⟩:=ak.slc x (xn hx)
     exact⟨rfl,.slice a0 m0 c0,by simp [Instr.loadAt,Instr.sureAddr,loadVar,k1,run_load,ab],.row hμ hx⟩
   next=>cases h
  next kp e e2 t ix l hg=>
   split at h
   next hz=>
    obtain⟨hi,h⟩:=ev_g h
    have:=ev_vq h;subst this
    simp only [xg,decide_eq_true_eq] at hi
    obtain⟨af,az⟩:=hi
    cases ha with
    | @elt _ _ _ _ b n c rs ad hμ=>
     obtain⟨y,hy,ah⟩:=hm.ob _ _ hμ
     rw [hg] at hy
     cases hy
     have hp:PermOK w lo (SS X μ) e e2 t ix l ⟨.slice (some ⟨b,0,none⟩) n c,rs,ad⟩:=ah
     have hlen:=hp.len
     simp only at hlen
     obtain⟨x,hx⟩:∃x,ad[ix.getD i 0]? =some x:=⟨ad[ix.getD i 0]'(by omega),by simp⟩
     obtain⟨q1,q2,q3⟩:=hz
     obtain⟨k1,_⟩:=run_agg (P:=P) (w:=w) hT aa
     have ab:w.cell? ⟨b,i*s,none⟩=some x:=by
      have:=hp.own.cells (g:=b) rfl i x (by
       rw [xr,xh af]
       rw [xd,xh af,xax] at hx
       simp [xd,hx])
      rw [Addr.add_lit,xbg] at this
      rw [q3,xbw]
      exact this
     rw [q2] at k1
     obtain⟨a0,m0,c0,rfl⟩:=hp.slc x (xn hx)
     exact⟨rfl,.slice a0 m0 c0,by simp [Instr.loadAt,Instr.sureAddr,loadVar,k1,run_load,ab],.row hμ hx⟩
   next=>cases h
  next=>cases h
 ·rename_i sz o i s k aa
  split at h
  next e t l hg=>
   split at h
   next hz=>
    obtain⟨hi,h⟩:=ev_g h
    rw [Tr.ev_bind,Tr.ev_opt] at h
    cases hc:cut (flat t (l.getD i t.dflt)) k sz with
    |none=>rw [hc] at h;cases h
    |some v=>
     rw [hc] at h
     have:=ev_vq h;subst this
     cases ha with
     | @fld _ _ _ _ _ b n c _ _ hμ=>
      obtain⟨cs,h1,h2⟩:=hm.elem hμ hg (by simpa using hi)
      have ae:CellsR P w lo μ (SS X μ) ((flat t (l.getD i t.dflt)).drop k) b (i*s+k):=fun j v hv=>by
       rw [nth_eq,xaa] at hv
       have hj:k+j<cs.length:=by
        rw [h1.len,←flat_len t (l.getD i t.dflt)]
        exact(xk.1 hv).1
       refine⟨cs.getD (k+j) undef,?_,flat_rel h1 (k+j) v (by rw [nth_eq];exact hv)⟩
       rw [hz,xda]
       exact h2 (k+j) _ (by simp [xd,hj])
      obtain⟨x,h3,h4⟩:=load_ok hT aa ae (cut_drop (j:=0) hc)
      exact⟨rfl,x,by simpa [Instr.loadAt,Instr.sureAddr] using h3,h4⟩
   next=>cases h
  next=>cases h
 ·rename_i sz o i n s aa
  split at h
  next e e2 t l hg=>
   split at h
   next hz=>
    obtain⟨hi,h⟩:=ev_g h
    rw [Tr.ev_bind,Tr.ev_opt] at h
    cases hc:cut (flat t ((l.getD i []).getD n t.dflt)) 0 sz with
    |none=>rw [hc] at h;cases h
    |some v=>
     rw [hc] at h
     have:=ev_vq h;subst this
     cases ha with
     | @relt _ _ _ _ _ v0 rs ad b m c hμ hx=>
      obtain⟨au,xs,ai,aj⟩:=hm.rowAt hμ hx hg
      have hn:n<(l.getD i []).length:=by simpa using hi
      obtain⟨cs,h1,h2⟩:=aj.at (i:=n) (x:=(l.getD i []).getD n t.dflt) (by rw [xd (l:=l.getD i [])];simp only [xh hn,xax])
      have ae:CellsR P w lo μ (SS X μ) (flat t ((l.getD i []).getD n t.dflt)) b (n*s):=fun j v hv=>by
       have hj:j<cs.length:=by
        rw [h1.len,←flat_len t ((l.getD i []).getD n t.dflt)]
        rw [nth_eq] at hv
        exact(xk.1 hv).1
       refine⟨cs.getD j undef,?_,flat_rel h1 j v hv⟩
       rw [hz.2]
       have:=ai.cells (g:=b) rfl _ _ (h2 j (cs.getD j undef) (by simp [xd,hj]))
       rwa [Addr.add_lit,xbg] at this
      obtain⟨x,h3,h4⟩:=load_ok hT aa ae hc
      exact⟨rfl,x,by simpa [Instr.loadAt,Instr.sureAddr] using h3,h4⟩
   next=>cases h
  next kp e e2 t ix l hg=>
   split at h
   next hz=>
    obtain⟨hi,h⟩:=ev_g h
    rw [Tr.ev_bind,Tr.ev_opt] at h
    cases hc:cut (flat t ((l.getD i []).getD n t.dflt)) 0 sz with
    |none=>rw [hc] at h;cases h
    |some v=>
     rw [hc] at h
     have:=ev_vq h;subst this
     cases ha with
     | @relt _ _ _ _ _ v0 rs ad b m c hμ hx=>
      obtain⟨au,_,xs,ai,aj⟩:=hm.rowAtP hμ hx hg
      have hn:n<(l.getD i []).length:=by simpa using hi
      obtain⟨cs,h1,h2⟩:=aj.at (i:=n) (x:=(l.getD i []).getD n t.dflt) (by rw [xd (l:=l.getD i [])];simp only [xh hn,xax])
      have ae:CellsR P w lo μ (SS X μ) (flat t ((l.getD i []).getD n t.dflt)) b (n*s):=fun j v hv=>by
       have hj:j<cs.length:=by
        rw [h1.len,←flat_len t ((l.getD i []).getD n t.dflt)]
        rw [nth_eq] at hv
        exact(xk.1 hv).1
       refine⟨cs.getD j undef,?_,flat_rel h1 j v hv⟩
       rw [hz.2]
       have:=ai.cells (g:=b) rfl _ _ (h2 j (cs.getD j undef) (by simp [xd,hj]))
       rwa [Addr.add_lit,xbg] at this
      obtain⟨x,h3,h4⟩:=load_ok hT aa ae hc
      exact⟨rfl,x,by simpa [Instr.loadAt,Instr.sureAddr] using h3,h4⟩
   next=>cases h
  next=>cases h
 ·cases h
theorem inR_iff{n:Int}{len:Nat}(h:inR n len=true):0≤n∧n<len∧n.toNat<len:=by
 simp only [inR,xg,decide_eq_true_eq] at h
 omega
theorem run_indexAt[Tabs]{T e sz:Nat}(hu:P.underlying T=some (.slice e)){i:TypeInfo}(he:P.info? e=some i)(hs:i.size=sz){b off len cap:Nat}{k:IntKind}{n:Int}(h:inR n len=true):
  (Instr.indexAt T (.slice (some ⟨b,off,none⟩) len cap) (.int k n)).run P w=.ok (.pointer (some ⟨b,off+n.toNat*sz,none⟩)) w:=by
 obtain⟨h1,h2,_⟩:=inR_iff h
 simp [Instr.indexAt,asIntOf,run_underlying hu,h1,h2,sizeOf,typeInfo,he,hs,Addr.add_lit]
theorem ptr_flat[Tabs]{t:Ty}{x:t.I}{cs:List Value}{b k:Nat}(hr:Rep S w t x cs)(hb:S b)(hc:∀j u,cs[j]? =some u→w.cell? ⟨b,k+j,none⟩=some u):RelV P w lo μ S (.ptr (flat t x)) (.pointer (some ⟨b,k,none⟩)):=by
 refine .ptr (fun j=>cs.getD j undef) ?_ (.inl hb) (fun j v hv=>?_) (flat_rel hr)
 ·intro e
  have:=flat_len t x
  have:=t.size_pos
  rw [e] at*
  simp at*
  omega
 ·rw [nth_eq] at hv
  have hj:=(xk.1 hv).1
  rw [flat_len,←hr.len] at hj
  exact hc j _ (by simp [xd,hj])
theorem aindex_ok[Tabs](hT:TabOK P tt)(hm:Mem P X lo g μ w){ty:Nat}{x i:AV}{q:QR}(h:(aindex tt g ty x i).ev=some q){vx vi:Value}(hx:RelV P w lo μ (SS X μ) x vx)(hi:RelV P w lo μ (SS X μ) i vi):
  q.2=[]∧∃v,(Instr.indexAt ty vx vi).run P w=.ok v w∧RelV P w lo μ (SS X μ) q.1 v:=by
 have hd:=hT ty
 unfold aindex at h
 split at h
 ·rename_i t l k n
  have ei:=hi.int
  subst ei
  split at h
  next e t' ai hq=>
   rw [hq] at hd
   obtain⟨hu,⟨inf,z,he,hs,_⟩,_⟩:=hd
   split at h
   next ab=>
    obtain⟨aa,h⟩:=ev_g h
    have:=ev_vq h;subst this
    obtain⟨h0,h1,h2⟩:=inR_iff aa
    obtain⟨a,cap,rfl,ah⟩:=hx.slice
    simp only [Rep] at ah
    obtain⟨a',ad,ea,_,ao⟩:=ah
    simp only [xbt,Value.slice.injEq,and_true] at ea
    obtain⟨rfl,_,rfl⟩:=ea
    obtain⟨b,off,c,rfl,hS,hr,hc⟩:=ao n.toNat (l.getD n.toNat t.dflt) (by simp [xd,h2])
    refine⟨rfl,_,run_indexAt hu he hs aa,ptr_flat hr hS fun j u hj=>?_⟩
    have:=hc j u hj
    rwa [←xda,ab] at this
   next=>cases h
  next=>cases h
 ·rename_i o k n
  have ei:=hi.int
  subst ei
  split at h
  next e t' ai e' t l hq hg=>
   rw [hq] at hd
   obtain⟨hu,⟨inf,z,he,hs,_⟩,_⟩:=hd
   split at h
   next ab=>
    obtain⟨aa,h⟩:=ev_g h
    have:=ev_vq h;subst this
    obtain⟨h0,h1,h2⟩:=inR_iff aa
    cases hx with
    | @arr _ _ a len cap _ _ hμ=>
     obtain⟨y,hy,af⟩:=hm.ob _ _ hμ
     rw [hg] at hy
     cases hy
     obtain⟨⟨az,ba⟩,bb,xs,ae,ah⟩:=af
     rcases ae.2 with⟨e1,e2⟩|⟨b,ad,cur,ev,_⟩
     ·omega
     ·simp only [Value.slice.injEq] at ev
      obtain⟨rfl,rfl,rfl⟩:=ev
      refine⟨rfl,_,run_indexAt hu he (hs.trans ab.symm) aa,?_⟩
      rw [xbg]
      exact .elt hμ
   next=>cases h
  next e t' ai e' l hq hg=>
   rw [hq] at hd
   obtain⟨hu,⟨inf,z,he,hs,_⟩,_⟩:=hd
   split at h
   next ab=>
    obtain⟨aa,h⟩:=ev_g h
    have:=ev_vq h;subst this
    obtain⟨h0,h1,h2⟩:=inR_iff aa
    cases hx with
    | @arr _ _ a len cap _ _ hμ=>
     obtain⟨y,hy,af⟩:=hm.ob _ _ hμ
     rw [hg] at hy
     cases hy
     obtain⟨b,ad,cur,fr,ev,_⟩:=af
     simp only [MV.mk.injEq,Value.slice.injEq] at ev
     obtain⟨⟨rfl,rfl,rfl⟩,_⟩:=ev
     refine⟨rfl,_,run_indexAt hu he (hs.trans ab) aa,?_⟩
     rw [xbg]
     exact .elt hμ
   next=>cases h
  next e t' ai e' al l hq hg=>
   rw [hq] at hd
   obtain⟨hu,⟨inf,z,he,hs,_⟩,_⟩:=hd
   split at h
   next ab=>
    obtain⟨aa,h⟩:=ev_g h
    have:=ev_vq h;subst this
    obtain⟨h0,h1,h2⟩:=inR_iff aa
    cases hx with
    | @arr _ _ a len cap _ _ hμ=>
     obtain⟨y,hy,af⟩:=hm.ob _ _ hμ
     rw [hg] at hy
     cases hy
     obtain⟨xs,ae,_⟩:=DeepOK.rep af
     rcases ae.2 with⟨e1,e2⟩|⟨b,ad,cur,ev,_⟩
     ·omega
     ·simp only [Value.slice.injEq] at ev
      obtain⟨rfl,rfl,rfl⟩:=ev
      refine⟨rfl,_,run_indexAt hu he (hs.trans ab.symm) aa,?_⟩
      rw [xbg]
      exact .elt hμ
   next=>cases h
  next e t' ai e' ak al l hh hq hg=>
   rw [hq] at hd
   obtain⟨hu,⟨inf,z,he,hs,_⟩,_⟩:=hd
   split at h
   next ab=>
    obtain⟨aa,h⟩:=ev_g h
    have:=ev_vq h;subst this
    obtain⟨h0,h1,h2⟩:=inR_iff aa
    cases hx with
    | @arr _ _ a len cap _ _ hμ=>
     obtain⟨y,hy,af⟩:=hm.ob _ _ hμ
     rw [hg] at hy
     cases hy
     obtain⟨hr,_⟩:=af
     rcases hr.own.2 with⟨e1,e2⟩|⟨b,ad,cur,ev,_⟩
     ·omega
     ·simp only [Value.slice.injEq] at ev
      obtain⟨rfl,rfl,rfl⟩:=ev
      refine⟨rfl,_,run_indexAt hu he (hs.trans ab) aa,?_⟩
      rw [xbg]
      exact .elt hμ
   next=>cases h
  next e t' ai kp e' ak al ix l hq hg=>
   rw [hq] at hd
   obtain⟨hu,⟨inf,z,he,hs,_⟩,_⟩:=hd
   split at h
   next ab=>
    obtain⟨aa,h⟩:=ev_g h
    have:=ev_vq h;subst this
    obtain⟨h0,h1,h2⟩:=inR_iff aa
    cases hx with
    | @arr _ _ a len cap _ _ hμ=>
     obtain⟨y,hy,af⟩:=hm.ob _ _ hμ
     rw [hg] at hy
     cases hy
     rcases(PermOK.own af).2 with⟨e1,e2⟩|⟨b,ad,cur,ev,_⟩
     ·omega
     ·simp only [Value.slice.injEq] at ev
      obtain⟨rfl,rfl,rfl⟩:=ev
      refine⟨rfl,_,run_indexAt hu he (hs.trans ab) aa,?_⟩
      rw [xbg]
      exact .elt hμ
   next=>cases h
  next=>cases h
 ·rename_i o j k n
  have ei:=hi.int
  subst ei
  split at h
  next e t' ai e' ak t l hq hg=>
   rw [hq] at hd
   obtain⟨hu,⟨inf,z,he,hs,_⟩,_⟩:=hd
   split at h
   next ab=>
    obtain⟨aa,h⟩:=ev_g h
    have:=ev_vq h;subst this
    obtain⟨h0,h1,h2⟩:=inR_iff aa
    cases hx with
    | @row _ _ _ v0 rs au a0 m0 c0 hμ aj=>
     obtain⟨av,xs,ae,ah⟩:=hm.rowAt hμ aj hg
     rcases ae.2 with⟨e1,e2⟩|⟨b,ad,cur,ev,_⟩
     ·omega
     ·simp only [Value.slice.injEq] at ev
      obtain⟨rfl,rfl,rfl⟩:=ev
      refine⟨rfl,_,run_indexAt hu he (hs.trans ab.symm) aa,?_⟩
      rw [xbg]
      exact .relt hμ aj
   next=>cases h
  next e t' ai kp e' ak t ix l hq hg=>
   rw [hq] at hd
   obtain⟨hu,⟨inf,z,he,hs,_⟩,_⟩:=hd
   split at h
   next ab=>
    obtain⟨aa,h⟩:=ev_g h
    have:=ev_vq h;subst this
    obtain⟨h0,h1,h2⟩:=inR_iff aa
    cases hx with
    | @row _ _ _ v0 rs au a0 m0 c0 hμ aj=>
     obtain⟨av,_,xs,ae,ah⟩:=hm.rowAtP hμ aj hg
     rcases ae.2 with⟨e1,e2⟩|⟨b,ad,cur,ev,_⟩
     ·omega
     ·simp only [Value.slice.injEq] at ev
      obtain⟨rfl,rfl,rfl⟩:=ev
      refine⟨rfl,_,run_indexAt hu he (hs.trans ab.symm) aa,?_⟩
      rw [xbg]
      exact .relt hμ aj
   next=>cases h
  next=>cases h
 ·rename_i o k kk n
  have ei:=hi.int
  subst ei
  split at h
  next m e te t hq=>
   rw [hq] at hd
   obtain⟨hu,⟨inf,z,he,hs,_⟩,_⟩:=hd
   obtain⟨aa,h⟩:=ev_g h
   have:=ev_vq h;subst this
   obtain⟨h0,h1,h2⟩:=inR_iff aa
   cases hx with
   |box hμ=>
    refine⟨rfl,_,?_,.box hμ⟩
    simp [Instr.indexAt,asIntOf,run_underlying hu,Instr.sureAddr,h0,h1,sizeOf,typeInfo,he,hs,Addr.add_lit]
  next=>cases h
 ·rename_i cs kk n
  have ei:=hi.int
  subst ei
  split at h
  next m e te t hq=>
   rw [hq] at hd
   obtain⟨hu,⟨inf,z,he,hs,_⟩,_⟩:=hd
   split at h
   next bc=>
    obtain⟨aa,h⟩:=ev_g h
    have:=ev_vq h;subst this
    obtain⟨h0,h1,h2⟩:=inR_iff aa
    cases hx with
    | @ptr _ _ b k xs bd hb aw hr=>
     refine⟨rfl,.pointer (some ⟨b,k+n.toNat*te.size,none⟩),?_,.ptr (fun j=>xs (n.toNat*te.size+j)) ?_ hb (fun j v hv=>?_) fun j v hv=>?_⟩
     ·simp [Instr.indexAt,asIntOf,run_underlying hu,Instr.sureAddr,h0,h1,sizeOf,typeInfo,he,hs,Addr.add_lit]
     ·intro e
      have:=congrArg List.length e
      simp at this
      omega
     ·rw [nth_eq,xaa,←nth_eq] at hv
      rw [xda]
      exact aw _ _ hv
     ·rw [nth_eq,xaa,←nth_eq] at hv
      exact hr _ _ hv
   next=>cases h
  next=>cases h
 ·rename_i o i s kk n
  have ei:=hi.int
  subst ei
  split at h
  next m e te t hq=>
   rw [hq] at hd
   obtain⟨hu,⟨inf,z,he,hs,_⟩,_⟩:=hd
   obtain⟨j,rfl,_,ay,h⟩:=cases1_ev h
   have:=ev_vq h;subst this
   have h0:(0:Int)≤((j:Nat):Int):=by omega
   have h1:((j:Nat):Int)<(m:Int):=by omega
   cases hx with
   |elt hμ=>
    refine⟨rfl,_,?_,.fld hμ⟩
    have h3:j<m:=by omega
    simp [Instr.indexAt,asIntOf,run_underlying hu,Instr.sureAddr,h0,h1,h3,sizeOf,typeInfo,he,hs,Addr.add_lit,xda]
  next=>cases h
 ·rename_i o i s k kk n
  have ei:=hi.int
  subst ei
  split at h
  next m e te t hq=>
   rw [hq] at hd
   obtain⟨hu,⟨inf,z,he,hs,_⟩,_⟩:=hd
   obtain⟨j,rfl,_,ay,h⟩:=cases1_ev h
   have:=ev_vq h;subst this
   have h0:(0:Int)≤((j:Nat):Int):=by omega
   have h1:((j:Nat):Int)<(m:Int):=by omega
   cases hx with
   |fld hμ=>
    refine⟨rfl,_,?_,.fld hμ⟩
    have h3:j<m:=by omega
    simp [Instr.indexAt,asIntOf,run_underlying hu,Instr.sureAddr,h0,h1,h3,sizeOf,typeInfo,he,hs,Addr.add_lit,xda]
  next=>cases h
 ·cases h
end
end Go.Proofs.YteiekijgoifhoaaGreatDoor
/-
 Operations on strings, aggregates, slices; what an operation that writes nothing leaves.
-/
namespace Go.Proofs.YteiekijgoifhoaaGreatDoor
open Go.RowKit (Below)
section
variable {P:Program} {tt:Nat→TD} {w:World} {lo:Nat→Prop} {μ:Nat→Option MV} {S:Nat→Prop} {X:Nat→Prop} {g:Nat→Option Ob}
theorem str_at(s:List UInt8)(i:Nat)(h:i<s.length):(⟨s.toArray⟩:ByteArray)[i]? =some (s.getD i 0):=by
 have hs:i<ByteArray.size ⟨s.toArray⟩:=by rw [str_size];exact h
 rw [getElem?_pos _ i hs]
 simp [ByteArray.getElem_eq_getElem_data,xd,h]
theorem agg_cut{cs:List AV}{xs:Array Value}(h:RelV P w lo μ S (.agg cs) (.agg xs))(hT:TabOK P tt){ty k:Nat}{sz:Nat×Bool}(aa:tySize tt ty=some sz){v:AV}(hv:cut cs k sz=some v):
  ∃x,(part ty xs k).run P w=.ok x w∧RelV P w lo μ S v x:=by
 obtain⟨h1,h2⟩:=run_agg (P:=P) (w:=w) hT aa
 cases h with
 |agg hl h=>
  unfold cut at hv
  split at hv
  next hb=>
   split at hv
   next hk=>
    cases hv
    refine⟨.agg (xs.extract k (k+sz.1)),by simp [part,h1,hb,h2],.agg (by simp [hl];omega) fun j v hv=>?_⟩
    rw [nth_eq,xbc] at hv
    split at hv
    next hj=>
     rw [xaa,←nth_eq] at hv
     have ab:k+j<xs.size:=by rw [←hl];omega
     have:=h _ _ hv
     simpa [ab,hj,show j<min (k+sz.1) xs.size-k by omega] using this
    next=>cases hv
   next=>cases hv
  next hb=>
   have hk:k<xs.size:=by
    rw [←hl]
    rw [nth_eq] at hv
    exact(xk.1 hv).1
   refine⟨xs[k],by simp [part,h1,hb,hk],?_⟩
   have:=h _ _ hv
   simpa [hk] using this
theorem aindexV_ok[Tabs](hT:TabOK P tt){ty:Nat}{x i:AV}{q:QR}(h:(aindexV tt ty x i).ev=some q){vx vi:Value}(hx:RelV P w lo μ S x vx)(hi:RelV P w lo μ S i vi):
  q.2=[]∧∃v,(Instr.index ty vx vi).run P w=.ok v w∧RelV P w lo μ S q.1 v:=by
 have hd:=hT ty
 unfold aindexV at h
 split at h
 ·rename_i s k n
  have ei:=hi.int
  have ex:=hx.str
  subst ei;subst ex
  split at h
  next hq=>
   rw [hq] at hd
   obtain⟨d,ab,hu,_⟩:=hd
   simp only [scOf,xc] at ab
   subst ab
   obtain⟨aa,h⟩:=ev_g h
   have:=ev_iq h;subst this
   obtain⟨h0,h1,h2⟩:=inR_iff aa
   refine⟨rfl,_,?_,rel_int _ _⟩
   simp [Instr.index,asIntOf,run_underlying hu,h0,str_at _ _ h2]
  next=>cases h
 ·rename_i cs k n
  have ei:=hi.int
  subst ei
  split at h
  next m e te t hq=>
   rw [hq] at hd
   obtain⟨hu,⟨inf,z,he,hs,_⟩,_⟩:=hd
   split at h
   next sz ad=>
    split at h
    next hz=>
     obtain⟨aa,h⟩:=ev_g h
     obtain⟨h0,h1,h2⟩:=inR_iff aa
     rw [Tr.ev_bind,Tr.ev_opt] at h
     cases hc:cut cs (n.toNat*te.size) sz with
     |none=>rw [hc] at h;cases h
     |some v=>
      rw [hc] at h
      have:=ev_vq h;subst this
      cases hx with
      |agg hl hr=>
       obtain⟨x,h3,h4⟩:=agg_cut (.agg hl hr) hT ad hc
       refine⟨rfl,x,?_,h4⟩
       simp [Instr.index,asIntOf,run_underlying hu,h0,h1,sizeOf,typeInfo,he,hs,h3]
    next=>cases h
   next=>cases h
  next=>cases h
 ·cases h
theorem alen_ok[Tabs](hT:TabOK P tt)(hm:Mem P X lo g μ w){ty rt:Nat}{x:AV}{q:QR}(h:(alen tt g ty x).ev=some q){vx:Value}(hx:RelV P w lo μ (SS X μ) x vx):
  q.2=[]∧∃v,(Builtin.len_ #[ty] rt #[vx]).run P w=.ok v w∧RelV P w lo μ (SS X μ) q.1 v:=by
 have hd:=hT ty
 unfold alen at h
 split at h
 ·split at h
  next hq=>
   rw [hq] at hd
   have:=ev_iq h;subst this
   obtain⟨a,cap,rfl,_⟩:=hx.slice
   exact⟨rfl,_,by simp [Builtin.len_,run_underlying hd.1,goInt],rel_int _ _⟩
  next=>cases h
 ·split at h
  next hq=>
   rw [hq] at hd
   have:=ev_iq h;subst this
   cases hx
   exact⟨rfl,_,by simp [Builtin.len_,run_underlying hd.1,goInt],rel_int _ _⟩
  next=>cases h
 ·split at h
  next e t l hq hg=>
   rw [hq] at hd
   have:=ev_iq h;subst this
   cases hx with
   |arr hμ=>
    obtain⟨y,hy,ad⟩:=hm.ob _ _ hμ
    rw [hg] at hy
    cases hy
    obtain⟨⟨ai,aj⟩,ak,xs,aa,ah⟩:=ad
    refine⟨rfl,_,?_,rel_int _ _⟩
    rcases aa.2 with⟨e1,e2⟩|⟨b,ab,cur,ev,_⟩
    ·cases e1
     simp [Builtin.len_,run_underlying hd.1,goInt,e2]
    ·cases ev
     simp [Builtin.len_,run_underlying hd.1,goInt]
  next e l hq hg=>
   rw [hq] at hd
   have:=ev_iq h;subst this
   cases hx with
   |arr hμ=>
    obtain⟨y,hy,ad⟩:=hm.ob _ _ hμ
    rw [hg] at hy
    cases hy
    obtain⟨b,ab,cur,fr,ev,_⟩:=ad
    cases ev
    exact⟨rfl,_,by simp [Builtin.len_,run_underlying hd.1,goInt],rel_int _ _⟩
  next l hq hg=>
   rw [hq] at hd
   have:=ev_iq h;subst this
   cases hx with
   |arr hμ=>
    obtain⟨y,hy,ad⟩:=hm.ob _ _ hμ
    rw [hg] at hy
    cases hy
    obtain⟨xs,aa,_⟩:=DeepOK.rep ad
    refine⟨rfl,_,?_,rel_int _ _⟩
    rcases aa.2 with⟨e1,e2⟩|⟨b,ab,cur,ev,_⟩
    ·cases e1
     simp [Builtin.len_,run_underlying hd.1,goInt,e2]
    ·cases ev
     simp [Builtin.len_,run_underlying hd.1,goInt]
  next l hh hq hg=>
   rw [hq] at hd
   have:=ev_iq h;subst this
   cases hx with
   |arr hμ=>
    obtain⟨y,hy,ad⟩:=hm.ob _ _ hμ
    rw [hg] at hy
    cases hy
    obtain⟨hr,_⟩:=ad
    have aa:=hr.own
    refine⟨rfl,_,?_,rel_int _ _⟩
    rcases aa.2 with⟨e1,e2⟩|⟨b,ab,cur,ev,_⟩
    ·cases e1
     simp [Builtin.len_,run_underlying hd.1,goInt,e2]
    ·cases ev
     simp [Builtin.len_,run_underlying hd.1,goInt]
  next ix hl hq hg=>
   rw [hq] at hd
   have:=ev_iq h;subst this
   cases hx with
   |arr hμ=>
    obtain⟨y,hy,ad⟩:=hm.ob _ _ hμ
    rw [hg] at hy
    cases hy
    have aa:=PermOK.own ad
    refine⟨rfl,_,?_,rel_int _ _⟩
    rcases aa.2 with⟨e1,e2⟩|⟨b,ab,cur,ev,_⟩
    ·cases e1
     simp [Builtin.len_,run_underlying hd.1,goInt,e2]
    ·cases ev
     simp [Builtin.len_,run_underlying hd.1,goInt]
  next=>cases h
 ·split at h
  next hq hg=>
   rw [hq] at hd
   have:=ev_iq h;subst this
   cases hx with
   |row hμ ae=>
    obtain⟨_,xs,aa,_⟩:=hm.rowAt hμ ae hg
    refine⟨rfl,_,?_,rel_int _ _⟩
    rw [xd] at aa⊢
    rcases aa.2 with⟨e1,e2⟩|⟨b,ab,cur,ev,_⟩
    ·cases e1
     simp [Builtin.len_,run_underlying hd.1,goInt,e2]
    ·cases ev
     simp [Builtin.len_,run_underlying hd.1,goInt]
  next hq hg=>
   rw [hq] at hd
   have:=ev_iq h;subst this
   cases hx with
   |row hμ ae=>
    obtain⟨_,_,xs,aa,_⟩:=hm.rowAtP hμ ae hg
    refine⟨rfl,_,?_,rel_int _ _⟩
    rw [xd] at aa⊢
    rcases aa.2 with⟨e1,e2⟩|⟨b,ab,cur,ev,_⟩
    ·cases e1
     simp [Builtin.len_,run_underlying hd.1,goInt,e2]
    ·cases ev
     simp [Builtin.len_,run_underlying hd.1,goInt]
  next=>cases h
 ·split at h
  next hq=>
   rw [hq] at hd
   obtain⟨d,af,hu,_⟩:=hd
   simp only [scOf,xc] at af
   subst af
   have:=ev_iq h;subst this
   have ex:=hx.str
   subst ex
   exact⟨rfl,_,by simp [Builtin.len_,run_underlying hu,goInt,str_size],rel_int _ _⟩
  next=>cases h
 ·cases h
theorem acap_ok[Tabs](hT:TabOK P tt){ty rt:Nat}{x:AV}{q:QR}(h:(acap tt ty x).ev=some q){vx:Value}(hx:RelV P w lo μ S x vx):
  q.2=[]∧∃v,(Builtin.cap_ #[ty] rt #[vx]).run P w=.ok v w∧RelV P w lo μ S q.1 v:=by
 have hd:=hT ty
 unfold acap at h
 split at h
 ·split at h
  next hq=>
   rw [hq] at hd
   have:=ev_iq h;subst this
   cases hx
   exact⟨rfl,_,by simp [Builtin.cap_,run_underlying hd.1,goInt],rel_int _ _⟩
  next=>cases h
 ·cases h
inductive ORel(P:Program)(w:World)(lo:Nat→Prop)(μ:Nat→Option MV)(S:Nat→Prop):Option AV→Option Value→Prop
 |none:ORel P w lo μ S none none
 |some {x y} (h:RelV P w lo μ S x y):ORel P w lo μ S (some x) (some y)
theorem sb_hi{len cap:Nat}(aa:len≤cap)(k:IntKind)(h:Int)(h1:0≤h)(h2:h≤len)(sl:Bool):
  0≤h.toNat∧h.toNat≤len∧(Instr.sliceBounds sl len cap none (some (.int k h)) none).run P w=.ok (0,h.toNat,cap) w:=by
 refine⟨by omega,by omega,?_⟩
 have h5:h≤(cap:Int):=by omega
 simp [Instr.sliceBounds,Instr.sliceBound,asIntOf,h1,h5]
theorem sb_lo{len cap:Nat}(k:IntKind)(l:Int)(h1:0≤l)(h2:l≤len)(sl:Bool):
  l.toNat≤len∧len≤len∧(Instr.sliceBounds sl len cap (some (.int k l)) none none).run P w=.ok (l.toNat,len,cap) w:=by
 refine⟨by omega,by omega,?_⟩
 simp [Instr.sliceBounds,Instr.sliceBound,asIntOf,h1,h2]
theorem sb_both{len cap:Nat}(aa:len≤cap)(k k':IntKind)(l h:Int)(h1:0≤l)(h2:l≤h)(h3:h≤len)(sl:Bool):
  l.toNat≤h.toNat∧h.toNat≤len∧(Instr.sliceBounds sl len cap (some (.int k l)) (some (.int k' h)) none).run P w=.ok (l.toNat,h.toNat,cap) w:=by
 refine⟨by omega,by omega,?_⟩
 have h4:0≤h:=by omega
 have h5:h≤(cap:Int):=by omega
 have h6:l≤(h.toNat:Int):=by omega
 simp only [Instr.sliceBounds,Instr.sliceBound,asIntOf,Sem.run_bind,Sem.run_pure,Result.andThen_ok,Sem.run_ite,h1,h4,h5,h6,and_self,if_true]
theorem abounds_ok[Tabs]{len cap:Nat}(aa:len≤cap){lo' ab:Option AV}{i j:Nat}(h:abounds len lo' ab=some (true,i,j)){vl vh:Option Value}
  (hl:ORel P w lo μ S lo' vl) (hh:ORel P w lo μ S ab vh) (sl:Bool):
  i≤j∧j≤len∧(Instr.sliceBounds sl len cap vl vh none).run P w=.ok (i,j,cap) w:=by
 unfold abounds at h
 split at h
 ·cases hl;cases hh
  simp only [xc,xdb,true_and] at h
  obtain⟨rfl,rfl⟩:=h
  simp [Instr.sliceBounds]
 ·cases hl;cases hh with|some hh=>
  have:=hh.int
  subst this
  simp only [xc,xdb,xg,decide_eq_true_eq] at h
  obtain⟨⟨h1,h2⟩,rfl,rfl⟩:=h
  exact sb_hi aa _ _ h1 h2 sl
 ·cases hh;cases hl with|some hl=>
  have:=hl.int
  subst this
  simp only [xc,xdb,xg,decide_eq_true_eq] at h
  obtain⟨⟨h1,h2⟩,rfl,rfl⟩:=h
  exact sb_lo _ _ h1 h2 sl
 ·cases hl with|some hl=>
  cases hh with|some hh=>
  have:=hl.int
  subst this
  have:=hh.int
  subst this
  simp only [xc,xdb,xg,decide_eq_true_eq] at h
  obtain⟨⟨⟨h1,h2⟩,h3⟩,rfl,rfl⟩:=h
  exact sb_both aa _ _ _ _ h1 h2 h3 sl
 ·cases h
theorem aslice_ok[Tabs](hT:TabOK P tt){ty:Nat}{x:AV}{lo' ad:Option AV}{q:QR}(h:(aslice tt ty x lo' ad).ev=some q){vx:Value}{vl vh:Option Value}(hx:RelV P w lo μ S x vx)
  (hl:ORel P w lo μ S lo' vl) (hh:ORel P w lo μ S ad vh):
  q.2=[]∧∃v,(Instr.sliceAt ty vx vl vh none).run P w=.ok v w∧RelV P w lo μ S q.1 v:=by
 have hd:=hT ty
 unfold aslice at h
 split at h
 ·rename_i t l e t' ai hq
  rw [hq] at hd
  obtain⟨hu,⟨inf,z,he,hs,_⟩,_⟩:=hd
  split at h
  next aj=>
   split at h
   next b i j hb=>
    obtain⟨aa,h⟩:=ev_g h
    subst aa
    have:=ev_vq h;subst this
    obtain⟨a,cap,rfl,ab⟩:=hx.slice
    have ae:l.length≤cap:=by
     have h0:=ab
     simp only [Rep] at h0
     obtain⟨a',af,ea,hle,_⟩:=h0
     simp only [xbt,Value.slice.injEq,and_true] at ea
     rw [ea.2.2];exact hle
    obtain⟨h1,h2,h3⟩:=abounds_ok ae hb hl hh true
    refine⟨rfl,.slice (if cap=i then a else a.map (·.add (i*t'.size))) (j-i) (cap-i),?_,?_⟩
    ·simp [Instr.sliceAt,Instr.slice,run_underlying hu,h3,sizeOf,typeInfo,he,hs]
    ·refine .dat rfl ?_
     simp only [Rep] at ab⊢
     obtain⟨a',af,ea,_,ak⟩:=ab
     simp only [xbt,Value.slice.injEq,and_true] at ea
     obtain⟨rfl,_,rfl⟩:=ea
     refine⟨(if cap=i then a else a.map (·.add (i*t'.size))),cap-i,by rw [xap,xw,xba h2],by rw [xap,xw,xba h2];omega,fun k y hy=>?_⟩
     rw [xaa,xbc] at hy
     split at hy
     next hk=>
      obtain⟨b,off,c,rfl,hS,hr,hc⟩:=ak (i+k) y hy
      have al:¬(cap=i):=by omega
      refine⟨b,off+i*t'.size,c,by simp [al,Addr.add_lit],hS,hr,fun m u hu=>?_⟩
      have:=hc m u hu
      rwa [show off+((i+k)*t.size+m)=off+i*t'.size+(k*t.size+m) by rw [aj,xaz];omega] at this
     next=>cases hy
   next=>cases h
  next=>cases h
 ·rename_i s hq
  rw [hq] at hd
  obtain⟨d,ah,hu,_⟩:=hd
  simp only [scOf,xc] at ah
  subst ah
  split at h
  next b i j hb=>
   obtain⟨aa,h⟩:=ev_g h
   subst aa
   have:=ev_vq h;subst this
   have ex:=hx.str
   subst ex
   obtain⟨h1,h2,h3⟩:=abounds_ok (xm _) hb hl hh false
   refine⟨rfl,_,?_,rel_str _⟩
   simp [Instr.sliceAt,Instr.slice,run_underlying hu,str_size,h3,str_extract _ _ _ h2]
  next=>cases h
 ·rename_i e t' ai hq
  rw [hq] at hd
  obtain⟨hu,⟨inf,z,he,hs,_⟩,_⟩:=hd
  split at h
  next b i j hb=>
   obtain⟨aa,h⟩:=ev_g h
   subst aa
   have:=ev_vq h;subst this
   cases hx
   obtain⟨h1,h2,h3⟩:=abounds_ok (xm 0) hb hl hh true
   have hj:j=0:=by omega
   have hi:i=0:=by omega
   subst hj;subst hi
   refine⟨rfl,.slice none 0 0,?_,.nilsl⟩
   simp [Instr.sliceAt,Instr.slice,run_underlying hu,h3,sizeOf,typeInfo,he,hs]
  next=>cases h
 ·cases h
end
end Go.Proofs.YteiekijgoifhoaaGreatDoor
/-
 What an operation that writes nothing leaves; making blocks and arrays; aggregates.
-/
namespace Go.Proofs.YteiekijgoifhoaaGreatDoor
open Go.RowKit (Below)
def Nx[Tabs](P:Program)(X:Nat→Prop)(lo:Nat→Prop)(g:Nat→Option Ob)(μ:Nat→Option MV)(w:World)(q:QR)(x:Value)(w':World):Prop:=
 ∃μ',(∀o mv,μ o=some mv→μ' o=some mv)∧(∀o mv,μ' o=some mv→μ o=some mv∨((∃p∈q.2,p.1=o)∧∀b,b∈mv.rs→w.heap.size≤b))∧Below w.heap.size w w'∧
  (∀g',(∀p∈q.2,g' p.1=some p.2)→(∀o mv,μ o=some mv→g' o=g o)→Mem P X lo g' μ' w')∧RelV P w' lo μ' (SS X μ') q.1 x
def QOK(P:Program)(o:Oper)(a:Act)(w:World)(Post:Value→World→Prop):Prop:=
 ∀ (K:Act→World→Prop) (Q:Exit→Act→World→Prop),(∀x w',Post x w'→K (a.put o.dst x) w')→o.wp P a w K Q
section
variable {P:Program} {tt:Nat→TD} {w:World} {lo:Nat→Prop} {μ:Nat→Option MV} {S:Nat→Prop} {X:Nat→Prop} {g:Nat→Option Ob} {o:Oper} {a:Act}
theorem Mem.other[Tabs]{g':Nat→Option Ob}(hm:Mem P X lo g μ w)(h:∀o mv,μ o=some mv→g' o=g o):Mem P X lo g' μ w:=
 ⟨hm.hX,hm.hlo,fun o mv ho=>by obtain⟨x,hx,aa⟩:=hm.ob o mv ho;exact⟨x,by rw [h o mv ho];exact hx,aa⟩,hm.dis,hm.tab⟩
theorem Nx.pure[Tabs](hm:Mem P X lo g μ w){r:AV}{x:Value}(hr:RelV P w lo μ (SS X μ) r x):Nx P X lo g μ w (r,[]) x w:=
 ⟨μ,fun _ _ h=>h,fun _ _ h=>.inl h,Below.refl _ _,fun _ _ h=>hm.other h,hr⟩
theorem QOK.val{Post:Value→World→Prop}{x:Value}{w':World}(h:(execOp a.eval o).run P w=.ok (.value x) w')(hp:Post x w'):QOK P o a w Post:=by
 intro K Q hK
 unfold Oper.wp
 rw [h]
 exact hK x w' hp
theorem Mem.lt[Tabs](hm:Mem P X lo g μ w){o:Nat}{mv:MV}(h:μ o=some mv){b:Nat}(hb:b∈mv.rs):¬lo b∧b<w.heap.size:=by
 obtain⟨x,_,aa⟩:=hm.ob o mv h
 cases x with
 |arr e t l=>
  obtain⟨⟨ai,af⟩,ah,xs,ab,_⟩:=aa
  have ae:rootV mv.v=some b:=by
   rw [af] at hb
   simpa using hb
  refine⟨ah b ae,(ab.lt b ?_).2⟩
  cases hv:mv.v with
  |slice ad n c=>rw [hv] at ae;cases ad<;>simp [rootV] at ae;simp [Value.ownBlock,ae]
  |_=>rw [hv] at ab;rcases ab.2 with⟨e,_⟩|⟨_,_,_,e,_⟩<;>cases e
 |txt e l=>
  obtain⟨b',cap,cur,fr,rfl,hl,hh,_⟩:=aa
  simp at hb
  subst hb
  exact⟨hl,(xau.1 hh).1⟩
 |rows e e2 t l h=>
  exact aa.1.low b hb
 |deep e t l=>exact aa.low b hb
 |perm k e e2 t ix l=>exact aa.low b hb
 |spent=>exact aa.low b hb
 |cells cs=>
  obtain⟨b',vs,e,rfl,hl,hh,_⟩:=aa
  simp at hb
  subst hb
  exact⟨hl,(xau.1 hh).1⟩
theorem ObOK.stepH{w':World}{μ':Nat→Option MV}{S':Nat→Prop}{x:Ob}{mv:MV}(h:ObOK P w lo μ S x mv)(hlo:(∀b,lo b→b<w.heap.size))(hμ:∀o mv,μ o=some mv→∃rs hs,μ' o=some ⟨mv.v,rs,hs⟩∧Ext mv.hs hs)
  (hw:∀b,b<w.heap.size→S b→S' b∧w'.heap[b]? =w.heap[b]?) (hl:∀b,lo b→w'.heap[b]? =w.heap[b]?) (aa:∀b,b∈mv.rs→w'.heap[b]? =w.heap[b]?):ObOK P w' lo μ' S' x mv:=by
 cases x with
 |arr e t l=>
  obtain⟨⟨af,ad⟩,ah,xs,ab,ae⟩:=h
  refine⟨⟨af,ad⟩,ah,xs,⟨ab.1,?_⟩,ae.step hw⟩
  rcases ab.2 with h|⟨gb,cap,cur,e1,h1,h2,h3⟩
  ·exact .inl h
  ·exact .inr ⟨gb,cap,cur,e1,h1,by rw [aa gb (by rw [ad,e1];simp [rootV])];exact h2,h3⟩
 |txt e l=>
  obtain⟨b,cap,cur,fr,rfl,h1,h2,h3⟩:=h
  exact⟨b,cap,cur,fr,rfl,h1,by rw [aa b (by simp)];exact h2,h3⟩
 |rows e e2 t l hh=>
  obtain⟨hr,hk⟩:=h
  refine⟨hr.step hw aa fun b hb=>(hr.low b hb).1,fun i d hd=>?_⟩
  obtain⟨x,rs,hs,k1,k2⟩:=hk i d hd
  obtain⟨ai,aj,k3,_⟩:=hμ d _ k2
  exact⟨x,ai,aj,k1,k3⟩
 |deep e t l=>exact DeepOK.step h aa fun b hb=>(DeepOK.low h b hb).1
 |perm k e e2 t ix l=>exact PermOK.step h hw aa fun b hb=>(PermOK.low h b hb).1
 |spent=>exact SpentOK.step h aa fun b hb=>(SpentOK.low h b hb).1
 |cells cs=>
  obtain⟨b,vs,e,rfl,h1,h2,h3,h4⟩:=h
  exact⟨b,vs,e,rfl,h1,by rw [aa b (by simp)];exact h2,h3,fun j v hv=>(h4 j v hv).stepH hμ hlo hw hl⟩
theorem ObOK.step[Tabs]{w':World}{μ':Nat→Option MV}{S':Nat→Prop}{x:Ob}{mv:MV}(h:ObOK P w lo μ S x mv)(hlo:∀b,lo b→b<w.heap.size)(hμ:∀o mv,μ o=some mv→μ' o=some mv)
  (hw:∀b,b<w.heap.size→S b→S' b∧w'.heap[b]? =w.heap[b]?) (hl:∀b,lo b→w'.heap[b]? =w.heap[b]?) (aa:∀b,b∈mv.rs→w'.heap[b]? =w.heap[b]?):ObOK P w' lo μ' S' x mv:=
 h.stepH hlo (fun o mv ho=>⟨mv.rs,mv.hs,hμ o mv ho,Ext.refl _⟩) hw hl aa
theorem Mem.grow{w':World}(hb:Below w.heap.size w w'){μ':Nat→Option MV}
  (aa:∀o mv,μ' o=some mv→μ o=some mv∨∀b,b∈mv.rs→w.heap.size≤b):∀b,b<w.heap.size→SS X μ b→SS X μ' b∧w'.heap[b]? =w.heap[b]? :=
 fun b ab hS=>⟨⟨hS.1,fun o mv h e=>(aa o mv h).elim (fun h=>hS.2 o mv h e) (fun h=>by have:=h b e;omega)⟩,hb.block b ab⟩
theorem Nx.made[Tabs](hm:Mem P X lo g μ w){w':World}(hb:Below w.heap.size w w'){d:Nat}{ob:Ob}{mv:MV}{x:Value}{r:AV}(hd:μ d=none)(aa:mv.rs=[w.heap.size])
  (af:∀μ',(∀o mv,μ o=some mv→μ' o=some mv)→(∀b,b<w.heap.size→SS X μ b→SS X μ' b)→ObOK P w' lo μ' (SS X μ') ob mv)
  (hr:∀μ',μ' d=some mv→RelV P w' lo μ' (SS X μ') r x):Nx P X lo g μ w (r,[(d,ob)]) x w':=by
 have hμ:∀o mv',μ o=some mv'→(fun o=>if o=d then some mv else μ o) o=some mv':=fun o mv' h=>by
  have:o≠d:=fun e=>by rw [e,hd] at h;cases h
  simp [this,h]
 have ae:∀o mv',(fun o=>if o=d then some mv else μ o) o=some mv'→μ o=some mv'∨∀b,b∈mv'.rs→w.heap.size≤b:=fun o mv' h=>by
  by_cases e:o=d
  ·simp [e] at h
   subst h
   exact .inr fun b ab=>by rw [aa] at ab;simp at ab;omega
  ·simp [e] at h
   exact .inl h
 have hw:=Mem.grow (X:=X) hb ae
 refine⟨fun o=>if o=d then some mv else μ o,hμ,fun o mv' h=>?_,hb,fun g' h1 h2=>⟨hm.hX,fun b ab=>xan (hm.hlo b ab) hb.size,fun o mv' h=>?_,fun o p ah ai b h3 h4 h5 h6=>?_,hm.tab.step fun b ab=>hb.block b (hm.hlo b ab)⟩,hr _ (by simp)⟩
 ·by_cases e:o=d
  ·refine .inr ⟨⟨(d,ob),by simp,e.symm⟩,fun b ab=>?_⟩
   simp [e] at h
   subst h
   rw [aa] at ab;simp at ab;omega
  ·simp [e] at h
   exact .inl h
 ·by_cases e:o=d
  ·simp [e] at h
   subst h
   refine⟨ob,by rw [e];exact h1 (d,ob) (by simp),af _ hμ fun b ad hS=>(hw b ad hS).1⟩
  ·simp [e] at h
   obtain⟨y,hy,aj⟩:=hm.ob o mv' h
   exact⟨y,by rw [h2 o mv' h];exact hy,aj.step hm.hlo hμ hw (fun b ad=>hb.block b (hm.hlo b ad)) fun b ak=>hb.block b (hm.lt h ak).2⟩
 ·by_cases e1:o=d<;>by_cases e2:p=d
  ·rw [e1,e2]
  ·simp [e1] at h3
   simp [e2] at h4
   subst h3
   rw [aa] at h5;simp at h5
   have:=(hm.lt h4 h6).2
   omega
  ·simp [e1] at h3
   simp [e2] at h4
   subst h4
   rw [aa] at h6;simp at h6
   have:=(hm.lt h3 h5).2
   omega
  ·simp [e1] at h3
   simp [e2] at h4
   exact hm.dis o p ah ai b h3 h4 h5 h6
theorem cellsOf_rel{v:AV}{x:Value}(h:RelV P w lo μ S v x){cs:List AV}(hc:cellsOf v=some cs):x.cells.size=cs.length∧∀j v',nth cs j=some v'→RelV P w lo μ S v' (x.cells.getD j undef):=by
 unfold cellsOf at hc
 split at hc
 ·cases hc
  cases h with
  |agg hl h=>exact⟨hl.symm,h⟩
 ·cases hc
 ·cases hc
 ·cases hc
 ·cases hc
  have hx:x.cells= #[x]:=by
   rename_i h1 h2 aa h3
   cases h with
   |undef=>exact absurd rfl h2
   |skip=>exact absurd rfl aa
   |tup=>exact absurd rfl (h3 _)
   |agg=>exact absurd rfl (h1 _)
   |nilsl=>rfl
   |arr=>rfl
   |box=>rfl
   |elt=>rfl
   |fld=>rfl
   |row=>rfl
   |relt=>rfl
   |suf=>rfl
   |pre=>rfl
   |ptr=>rfl
   |fn=>rfl
   |bnd=>rfl
   |clo h=>obtain⟨_,f,fs,xs,rfl,_⟩:=h;rfl
   | @dat _ t v _ ht hr=>
    cases t with
    |int k=>simp [Rep] at hr;subst hr;rfl
    |bool=>simp [Rep] at hr;subst hr;rfl
    |str=>simp [Rep] at hr;subst hr;rfl
    |seq g=>simp only [Rep] at hr;obtain⟨_,_,_,e,_⟩:=hr;simp at e;subst e;rfl
    |hdr=>
     simp only [Rep] at hr
     obtain⟨_,_,e,_⟩:=hr
     simp at e
     rw [e]
     rfl
    |slice t=>simp only [Rep] at hr;obtain⟨a,cap,e,_⟩:=hr;simp at e;subst e;rfl
    |pair a b=>
     have:=a.size_pos
     have:=b.size_pos
     simp only [Ty.size] at ht
     omega
  rw [hx]
  exact⟨rfl,fun j v' hv=>by match j,hv with|0,hv=>simp [nth] at hv;subst hv;exact h⟩
theorem box_ok[Tabs](hm:Mem P X lo g μ w){d e:Nat}(hd:μ d=none){cs:List AV}{vs:Array Value}(hl:vs.size=cs.length)(hv:∀j v,nth cs j=some v→RelV P w lo μ (SS X μ) v (vs.getD j undef)):
  Nx P X lo g μ w (.box d 0,[(d,.cells cs)]) (.pointer (some ⟨w.heap.size,0,none⟩)) (w.alloc (.cells vs e)):=by
 have hb:Below w.heap.size w (w.alloc (.cells vs e)):=(Below.refl _ _).alloc (xm _) _
 refine Nx.made hm hb (mv:=⟨.pointer (some ⟨w.heap.size,0,none⟩),[w.heap.size],[]⟩) hd rfl (fun μ' hμ hS=>?_) fun μ' h=>.box h
 exact⟨w.heap.size,vs,e,rfl,(fun h=>xo _ (hm.hlo _ h)),heap_alloc_new w _,hl,fun j v hj=>(hv j v hj).step hμ hm.hlo (fun b aa ab=>⟨hS b aa ab,hb.block b aa⟩) fun b aa=>hb.block b (hm.hlo b aa)⟩
theorem unflat_rel:∀ {t:Ty} {cs:List AV} {x:t.I},unflat t cs=some x→∀ {vs:List Value},vs.length=cs.length→(∀j v,nth cs j=some v→RelV P w lo μ S v (vs.getD j undef))→Rep S w t x vs
 | .pair a b,cs,x,h,vs,hl,hv=>by
  simp only [unflat] at h
  split at h
  next y z hy hz=>
   cases h
   have h1:∀ {t:Ty} {cs:List AV} {x:t.I},unflat t cs=some x→cs.length=t.size:=by
    intro t
    induction t with
    |pair a b aa ab=>
     intro cs x h
     simp only [unflat] at h
     split at h
     next y z hy hz=>
      have e1:=aa hy
      have e2:=ab hz
      have:=b.size_pos
      simp only [xw,xap] at e1 e2
      simp only [Ty.size]
      omega
     next=>cases h
    |_=>
     intro cs x h
     simp only [unflat] at h
     split at h
     ·rfl
     ·cases h
   have e1:=h1 hy
   simp only [xw] at e1
   refine⟨vs.take a.size,vs.drop a.size,(xds _ _).symm,unflat_rel hy (by simp [hl]) fun j v hj=>?_,unflat_rel hz (by simp [hl]) fun j v hj=>?_⟩
   ·rw [nth_eq,xbc] at hj
    split at hj
    next ad=>
     have:=hv j v (by rw [nth_eq];exact hj)
     rwa [xd,xbc,if_pos ad,←xd]
    next=>cases hj
   ·rw [nth_eq,xaa] at hj
    have:=hv _ v (by rw [nth_eq];exact hj)
    rwa [xd,xaa,←xd]
  next=>cases h
 | .int k,cs,x,h,vs,hl,hv=>by
  simp only [unflat] at h
  split at h
  next v=>
   match vs,hl with
   | [y],_=>exact get1_rel h (hv 0 v rfl)
  next=>cases h
 | .bool,cs,x,h,vs,hl,hv=>by
  simp only [unflat] at h
  split at h
  next v=>
   match vs,hl with
   | [y],_=>exact get1_rel h (hv 0 v rfl)
  next=>cases h
 | .hdr,cs,x,h,vs,hl,hv=>by
  simp only [unflat] at h
  split at h
  next v=>
   match vs,hl with
   | [y],_=>exact get1_rel h (hv 0 v rfl)
  next=>cases h
 | .seq _,cs,x,h,vs,hl,hv=>by
  simp only [unflat] at h
  split at h
  next v=>
   match vs,hl with
   | [y],_=>exact get1_rel h (hv 0 v rfl)
  next=>cases h
 | .str,cs,x,h,vs,hl,hv=>by
  simp only [unflat] at h
  split at h
  next v=>
   match vs,hl with
   | [y],_=>exact get1_rel h (hv 0 v rfl)
  next=>cases h
 | .slice _,cs,x,h,vs,hl,hv=>by
  simp only [unflat] at h
  split at h
  next v=>
   match vs,hl with
   | [y],_=>exact get1_rel h (hv 0 v rfl)
  next=>cases h
where
 get1_rel {t:Ty} {v:AV} {x:t.I} (h:get1 t v=some x) {y:Value} (hr:RelV P w lo μ S v y):Rep S w t x [y]:=by
  unfold get1 at h
  split at h
  ·obtain⟨e,rfl⟩:=Ty.cast_spec h
   subst e
   cases hr with
   |dat _ hr=>exact hr
  ·split at h
   ·cases h
    cases hr
    exact Rep.nil
   ·cases h
  ·cases h
theorem getT_rel[Tabs]{t:Ty}{v:AV}{x:t.I}(h:getT t v=some x){y:Value}(hr:RelV P w lo μ S v y):Rep S w t x y.cells.toList:=by
 unfold getT at h
 cases hc:cellsOf v with
 |none=>rw [hc] at h;cases h
 |some cs=>
  rw [hc] at h
  obtain⟨h1,h2⟩:=cellsOf_rel hr hc
  exact unflat_rel h (by simpa using h1) (by simpa using h2)
end
end Go.Proofs.YteiekijgoifhoaaGreatDoor
/-
 Aggregates and arrays that are built.
-/
namespace Go.Proofs.YteiekijgoifhoaaGreatDoor
open Go.RowKit (Below)
section
variable {P:Program} {tt:Nat→TD} {w:World} {lo:Nat→Prop} {μ:Nat→Option MV} {S:Nat→Prop} {X:Nat→Prop} {g:Nat→Option Ob} {o:Oper} {a:Act}
theorem putAt_eq{α:Type}:∀ (l:List α) (i:Nat) (x:α),putAt l i x=l.set i x
 | [],_,_=>by simp [putAt]
 |_::_,0,_=>by simp [putAt]
 |_::r,i+1,x=>by simp [putAt,putAt_eq r i x]
def AllR(P:Program)(w:World)(lo:Nat→Prop)(μ:Nat→Option MV)(S:Nat→Prop)(cs:List AV)(vs:Array Value):Prop:=
 vs.size=cs.length∧∀j v,nth cs j=some v→RelV P w lo μ S v (vs.getD j undef)
theorem AllR.set[Tabs]{cs:List AV}{vs:Array Value}(h:AllR P w lo μ S cs vs){k:Nat}{v:AV}{x:Value}(hr:RelV P w lo μ S v x):AllR P w lo μ S (putAt cs k v) (vs.setIfInBounds k x):=by
 refine⟨by simp [putAt_eq,h.1],fun j u hj=>?_⟩
 rw [putAt_eq,nth_eq,xcj] at hj
 split at hj
 next e=>
  subst e
  split at hj
  next ab=>
   cases hj
   have aa:k<vs.size:=by rw [h.1];exact ab
   simpa [aa] using hr
  next=>cases hj
 next ad=>
  have:=h.2 j u (by rw [nth_eq];exact hj)
  simpa [xcq ad] using this
theorem AllR.puts[Tabs]:∀ (us:List AV) (k:Nat) (cs:List AV) (vs:Array Value) (xs:List Value),AllR P w lo μ S cs vs→xs.length=us.length→(∀j v,nth us j=some v→RelV P w lo μ S v (xs.getD j undef))→
  ∀m,AllR P w lo μ S (putCells cs (k+m) us) ((xs.zipIdx m).foldl (fun cs (c,j)=>cs.setIfInBounds (k+j) c) vs)
 | [],k,cs,vs,xs,h,hl,_,m=>by
  have:xs=[]:=xi (by simpa using hl)
  subst this
  exact h
 |u::us,k,cs,vs,[],h,hl,_,m=>by simp at hl
 |u::us,k,cs,vs,x::xs,h,hl,hx,m=>by
  simp only [putCells,List.zipIdx_cons,xbk]
  exact AllR.puts us k _ _ xs (h.set (hx 0 u rfl)) (by simpa using hl) (fun j v hv=>hx (j+1) v hv) (m+1)
theorem afill_ok[Tabs]{place:Nat→Option (Nat×Nat)}:∀ {ps:List (Nat×AV)} {cs aa:List AV},afill place ps cs=some aa→∀ {vs:Array Value},AllR P w lo μ S cs vs→∀ {qs:List (Nat×Value)},
  qs.map (·.1)=ps.map (·.1)→(∀ (j:Nat) (p:Nat×AV),ps[j]? =some p→∃q:Nat×Value,qs[j]? =some q∧RelV P w lo μ S p.2 q.2)→∃ab,Instr.fill place vs qs=some ab∧AllR P w lo μ S aa ab
 | [],cs,aa,h,vs,hv,qs,hq,_=>by
  simp [afill] at h
  subst h
  have:qs=[]:=by simpa using hq
  subst this
  exact⟨vs,rfl,hv⟩
 |(i,v)::r,cs,aa,h,vs,hv,[],hq,_=>by simp at hq
 |(i,v)::r,cs,aa,h,vs,hv,(i',x)::qs,hq,hr=>by
  simp only [xbm,xbt] at hq
  obtain⟨e,hq⟩:=hq
  subst e
  simp only [afill] at h
  split at h
  next off n us hp hc=>
   split at h
   next hn=>
    obtain⟨q,ad,ae⟩:=hr 0 (i',v) rfl
    simp at ad
    subst ad
    obtain⟨h1,h2⟩:=cellsOf_rel ae hc
    have h3:=AllR.puts us off cs vs x.cells.toList hv (by simpa using h1) (by simpa using h2) 0
    obtain⟨ab,h4,h5⟩:=afill_ok h h3 hq (fun j p hj=>hr (j+1) p (by simpa using hj))
    refine⟨ab,?_,h5⟩
    have hz:∀ (A:Array Value) (B:Array Value),A.zipIdx.foldl (fun cs (c,j)=>cs.setIfInBounds (off+j) c) B=(A.toList.zipIdx 0).foldl (fun cs (c,j)=>cs.setIfInBounds (off+j) c) B:=by
     intro A B
     rw [←Array.foldl_toList]
     simp
    simp only [Instr.fill,hp]
    rw [if_neg (by simp [h1,hn.1];have:=hv.1;omega),hz]
    exact h4
   next=>cases h
  next=>cases h
theorem run_zero{T:Nat}{t:Ty}(h:InfoOK P T t):∃z,(zeroValue T).run P w=.ok z w∧(sizeOf T).run P w=.ok t.size w∧isZ t z.cells.toList=true:=by
 obtain⟨i,z,h1,h2,h3,h4⟩:=h
 exact⟨z,by simp [zeroValue,typeInfo,h1,h3],by simp [sizeOf,typeInfo,h1,h2],h4⟩
theorem zero_all{t:Ty}{z:Value}(h:isZ t z.cells.toList=true):AllR P w lo μ S (zeroAV t) z.cells:=by
 obtain⟨h1,h2⟩:=isZ_rel (P:=P) (S:=S) (w:=w) (lo:=lo) (μ:=μ) h
 exact⟨by simpa using h1.symm,fun j v hv=>by simpa using h2 j v hv⟩
theorem places_ok[Tabs]:∀ {fields:List Go.Field} {fs:List (Nat×Ty)} {o:Nat},fieldsOK P fields fs o→∃ps:List (Nat×Nat),(fields.mapM (fun f=>Prod.mk f.offset<$>sizeOf f.type)).run P w=.ok ps w∧∀i,ps[i]? =placeF fs o i
 | [],[],o,_=>⟨[],by simp,fun i=>by simp [placeF]⟩
 |f::fields,(ty,t)::fs,o,h=>by
  obtain⟨h1,h2,h3,h4⟩:=h
  obtain⟨ps,h5,h6⟩:=places_ok h4
  obtain⟨z,_,h7,_⟩:=run_zero (w:=w) h3
  refine⟨(o,t.size)::ps,by simp [xfe,h1,h2,h7,h5],fun i=>?_⟩
  cases i with
  |zero=>simp [placeF]
  |succ i=>simp [placeF,h6]
 | [],_::_,o,h=>h.elim
 |_::_,[],o,h=>h.elim
theorem abuild_ok[Tabs](hT:TabOK P tt){ty:Nat}{ps:List (Nat×AV)}{q:QR}(h:(abuild tt ty ps).ev=some q){qs:Array (Nat×Value)}(hq:qs.toList.map (·.1)=ps.map (·.1))
  (hr:∀ (j:Nat) (p:Nat×AV),ps[j]? =some p→∃q:Nat×Value,qs.toList[j]? =some q∧RelV P w lo μ S p.2 q.2):
  q.2=[]∧∃v,(Instr.build ty qs).run P w=.ok v w∧RelV P w lo μ S q.1 v:=by
 have hd:=hT ty
 unfold abuild at h
 split at h
 ·rename_i t fs he
  rw [he] at hd
  obtain⟨fields,hu,hf,hs,hi⟩:=hd
  rw [Tr.ev_bind,Tr.ev_opt] at h
  cases hc:afill (placeF fs 0) ps (zeroAV t) with
  |none=>rw [hc] at h;cases h
  |some cs=>
   rw [hc] at h
   have:=ev_vq h;subst this
   obtain⟨z,aa,ad,ab⟩:=run_zero (w:=w) hi
   obtain⟨pl,af,ah⟩:=places_ok (w:=w) hf
   obtain⟨vs,h1,h2⟩:=afill_ok hc (zero_all ab) hq hr
   refine⟨rfl,.agg vs,?_,.agg h2.1.symm h2.2⟩
   have ae:(fun i=>pl[i]?)=placeF fs 0:=funext fun i=>ah i
   have hm:(fields.mapM (fun f=>Prod.mk f.offset<$>sizeOf f.type)).run P w=.ok pl.toArray w:=by
    rw [Array.mapM_eq_mapM_toList]
    simp [af]
   simp [Instr.build,aa,run_underlying hu,hm,ae,h1]
 ·rename_i n e te t he
  rw [he] at hd
  obtain⟨hu,ai,hs,hi⟩:=hd
  rw [Tr.ev_bind,Tr.ev_opt] at h
  cases hc:afill (fun i=>some (i*te.size,te.size)) ps (zeroAV t) with
  |none=>rw [hc] at h;cases h
  |some cs=>
   rw [hc] at h
   have:=ev_vq h;subst this
   obtain⟨z,aa,_,ab⟩:=run_zero (w:=w) hi
   obtain⟨_,_,ad,_⟩:=run_zero (w:=w) ai
   obtain⟨vs,h1,h2⟩:=afill_ok hc (zero_all ab) hq hr
   exact⟨rfl,.agg vs,by simp [Instr.build,aa,run_underlying hu,ad,h1],.agg h2.1.symm h2.2⟩
 ·cases h
theorem flatL_rel[Tabs]{t:Ty}:∀ {l:List t.I} {cs:List Value},RepL S w t l cs→(List.flatMap (flat t) l).length=cs.length∧∀j v,nth (List.flatMap (flat t) l) j=some v→RelV P w lo μ S v (cs.getD j undef)
 | [],_,h=>by simp only [RepL] at h;subst h;exact⟨rfl,fun j v hv=>by simp [nth] at hv⟩
 |x::l,_,⟨c,r,e,h1,h2⟩=>by
  subst e
  obtain⟨h3,h4⟩:=flatL_rel h2
  have hl:=h1.len
  have hf:=flat_len t x
  refine⟨by simp only [xdu,xj];omega,fun j v hv=>?_⟩
  rw [xdu,nth_eq] at hv
  by_cases hj:j<(flat t x).length
  ·rw [xab hj] at hv
   have:=flat_rel (P:=P) (lo:=lo) (μ:=μ) h1 j v (by rw [nth_eq];exact hv)
   rwa [xd,xab (by omega),←xd]
  ·rw [xz (by omega)] at hv
   have:=h4 _ v (by rw [nth_eq];exact hv)
   rwa [xd,xz (by omega),show j-c.length=j-(flat t x).length by omega,←xd]
theorem chunks_rel[Tabs]{t:Ty}:∀ {n:Nat} {cs:List AV} {l:List t.I},chunks t n cs=some l→∀ {vs:List Value},vs.length=cs.length→(∀j v,nth cs j=some v→RelV P w lo μ S v (vs.getD j undef))→l.length=n∧RepL S w t l vs
 |0,[],l,h,vs,hl,_=>by
  simp [chunks] at h
  subst h
  exact⟨rfl,xi (by simpa using hl)⟩
 |0,_::_,l,h,vs,hl,_=>by simp [chunks] at h
 |n+1,cs,l,h,vs,hl,hv=>by
  simp only [chunks] at h
  split at h
  next x r hx hr=>
   cases h
   obtain⟨h1,h2⟩:=chunks_rel (vs:=vs.drop t.size) hr (by simp [hl]) fun j v hj=>by
    rw [nth_eq,xaa] at hj
    have:=hv _ v (by rw [nth_eq];exact hj)
    rwa [xd,xaa,←xd]
   refine⟨by simp [h1],vs.take t.size,vs.drop t.size,(xds _ _).symm,unflat_rel (P:=P) (lo:=lo) (μ:=μ) hx (by simp [hl]) fun j v hj=>?_,h2⟩
   rw [nth_eq,xbc] at hj
   split at hj
   next aa=>
    have:=hv j v (by rw [nth_eq];exact hj)
    rwa [xd,xbc,if_pos aa,←xd]
   next=>cases hj
  next=>cases h
theorem made_rep{t:Ty}{z:Array Value}(hz:isZ t z.toList=true):∀ (n m:Nat),n≤m→RepL S w t (List.replicate n t.dflt) ((madeCells z (m*t.size)).toList.take (n*t.size)):=by
 have hl:z.size=t.size:=by simpa using isZ_len hz
 have hp:=t.size_pos
 have key:∀ (n i m:Nat),i+n≤m→RepL S w t (List.replicate n t.dflt) (((madeCells z (m*t.size)).toList.drop (i*t.size)).take (n*t.size)):=by
  intro n
  induction n with
  |zero=>intro i m _;simp [RepL]
  |succ n ih=>
   intro i m ad
   have h1:=ih (i+1) m (by omega)
   refine⟨z.toList,_,?_,isZ_rep hz,h1⟩
   have hle:(i+1)*t.size≤m*t.size:=xao _ (by omega)
   apply xdv
   intro j
   rw [xbc]
   by_cases hj:j<t.size
   ·rw [if_pos (by rw [xaz];omega),xaa,xab (by simpa [hl] using hj)]
    have:i*t.size+j<m*t.size:=by rw [xaz] at hle;omega
    have ab:(i*t.size+j) % t.size=j:=by rw [Nat.mul_comm,Nat.mul_add_mod,xfr hj]
    simp [madeCells,this,hl,ab,hj]
   ·rw [xz (by simp [hl];omega)]
    simp only [xbf,hl]
    rw [xbc,xaa,xaa]
    rw [show i*t.size+j=(i+1)*t.size+(j-t.size) by rw [xaz];omega]
    by_cases aa:j<(n+1)*t.size
    ·rw [if_pos aa,if_pos (by rw [xaz] at aa;omega)]
    ·rw [if_neg aa,if_neg (by rw [xaz] at aa;omega)]
 intro n m h
 have:=key n 0 m (by omega)
 simpa using this
theorem arr_made[Tabs](hm:Mem P X lo g μ w){d e:Nat}(hd:μ d=none){t:Ty}{l:List t.I}{cur:Array Value}{cap:Nat}(hs:cur.size=cap*t.size)(hle:l.length≤cap)(aa:cap≤maxLen)
  (hr:RepL (SS X μ) w t l (cur.toList.take (l.length*t.size))):
  Nx P X lo g μ w (.arr d,[(d,.arr e t l)]) (.slice (some ⟨w.heap.size,0,none⟩) l.length cap) (w.alloc (.cells cur e)):=by
 have hb:Below w.heap.size w (w.alloc (.cells cur e)):=(Below.refl _ _).alloc (xm _) _
 refine Nx.made hm hb (mv:=⟨.slice (some ⟨w.heap.size,0,none⟩) l.length cap,[w.heap.size],[]⟩) hd rfl (fun μ' hμ hS=>?_) fun μ' h=>.arr h
 have hlen:(cur.toList.take (l.length*t.size)).length=l.length*t.size:=by
  have h1:=xao t.size hle
  have h2:cur.toList.length=cap*t.size:=by simpa using hs
  rw [xw,h2]
  exact xba h1
 exact⟨⟨rfl,rfl⟩,fun b ab h=>by simp [rootV] at ab;exact xo _ (ab▸hm.hlo b h),_,⟨hlen,.inr ⟨w.heap.size,cap,cur,rfl,xcp _,heap_alloc_new w _,hle,aa,hs,rfl⟩⟩,hr.step fun b ad ae=>⟨hS b ad ae,hb.block b ad⟩⟩
theorem ev_opt_bind{L M:Type}{x:Option L}{k:L→Tr M}{q:M}(h:((Tr.opt x).bind k).ev=some q):∃y,x=some y∧(k y).ev=some q:=by
 rw [Tr.ev_bind,Tr.ev_opt] at h
 cases x with
 |none=>cases h
 |some y=>exact⟨y,rfl,h⟩
theorem abuildSlice_run[Tabs](hT:TabOK P tt){ty n e b:Nat}{t:Ty}(he:tt ty=.sl e t b)(hn:n≤4096∧t.size≤4096){ps:List (Nat×AV)}{cs:List AV}{l:List t.I}(hc:afill (fun i=>some (i*t.size,t.size)) ps (List.flatMap (flat t) (List.replicate n t.dflt))=some cs)(hl:chunks t n cs=some l)
  {qs:Array (Nat×Value)} (hq:qs.toList.map (·.1)=ps.map (·.1)) (hr:∀ (j:Nat) (p:Nat×AV),ps[j]? =some p→∃q:Nat×Value,qs.toList[j]? =some q∧RelV P w lo μ (SS X μ) p.2 q.2):
  ∃vs:Array Value,(Instr.buildSlice ty n qs).run P w=.ok (.slice (some ⟨w.heap.size,0,none⟩) l.length n) (w.alloc (.cells vs e))∧vs.size=n*t.size∧l.length=n∧n≤maxLen∧RepL (SS X μ) w t l (vs.toList.take (l.length*t.size)):=by
 have ad:=hT ty
 rw [he] at ad
 obtain⟨hu,⟨i,z,h1,h2,h3,h4,h5⟩,_⟩:=ad
 have ab:=made_rep (S:=SS X μ) (w:=w) h5 n n (xm _)
 rw [xah (by simp [madeCells])] at ab
 obtain⟨f1,f2⟩:=flatL_rel (P:=P) (lo:=lo) (μ:=μ) ab
 obtain⟨vs,h6,h7⟩:=afill_ok hc (vs:=madeCells z.cells (n*t.size)) ⟨by simpa using f1.symm,fun j v hv=>by simpa using f2 j v hv⟩ hq hr
 obtain⟨h8,h9⟩:=chunks_rel (vs:=vs.toList) hl (by simpa using h7.1) (by simpa using h7.2)
 have ae:vs.size=n*t.size:=by
  have:=h9.len
  rw [h8] at this
  simpa using this
 refine⟨vs,?_,ae,h8,by have:=hn.1;unfold maxLen;omega,by rw [h8,xah (by simp [ae])];exact h9⟩
 have hle:¬(16777216<n*t.size):=by
  have:=xff hn.1 hn.2
  omega
 have aa:Instr.fill (fun i=>some (i*t.size,t.size)) (Array.map (fun x=>z.cells[x % z.cells.size]!) (Array.range (n*t.size))) qs.toList=some vs:=h6
 by_cases h0:n*t.size=0
 ·have af:n=0:=by
   have:=t.size_pos
   rcases Nat.mul_eq_zero.1 h0 with h|h
   ·exact h
   ·omega
  subst af
  simp only [xde] at aa
  have:Array.map (fun x=>z.cells[x % z.cells.size]!) (Array.range 0)=(#[]:Array Value):=by simp [Array.range_zero']
  rw [this] at aa
  simp [Instr.buildSlice,run_underlying hu,sizeOf,typeInfo,h1,h2,aa,newRow,h8,Array.range_zero']
 ·simp [Instr.buildSlice,run_underlying hu,sizeOf,typeInfo,zeroValue,h1,h2,h4,hle,h0,aa,newRow,h8]
theorem abuildSlice_ok[Tabs](hT:TabOK P tt)(hm:Mem P X lo g μ w){d ty n:Nat}(hd:μ d=none){ps:List (Nat×AV)}{q:QR}(h:(abuildSlice tt d ty n ps).ev=some q){qs:Array (Nat×Value)}(hq:qs.toList.map (·.1)=ps.map (·.1))
  (hr:∀ (j:Nat) (p:Nat×AV),ps[j]? =some p→∃q:Nat×Value,qs.toList[j]? =some q∧RelV P w lo μ (SS X μ) p.2 q.2):
  ∃v w',(Instr.buildSlice ty n qs).run P w=.ok v w'∧Nx P X lo g μ w q v w':=by
 unfold abuildSlice at h
 split at h
 ·rename_i e t b he
  split at h
  next hn=>
   obtain⟨cs,hc,h⟩:=ev_opt_bind h
   obtain⟨l,hl,h⟩:=ev_opt_bind h
   simp only [Tr.ev_l,xc] at h
   subst h
   obtain⟨vs,k1,k2,k3,k4,k5⟩:=abuildSlice_run hT he hn hc hl hq hr
   exact⟨_,_,k1,arr_made hm hd (cap:=n) (cur:=vs) (e:=e) k2 (by omega) k4 k5⟩
  next=>cases h
 ·cases h
theorem dat_made[Tabs](hm:Mem P X lo g μ w){e:Nat}{t:Ty}{l:List t.I}{cur:Array Value}{cap:Nat}(hs:cur.size=cap*t.size)(hle:l.length≤cap)(ab:cap≤maxLen)
  (hr:RepL (SS X μ) w t l (cur.toList.take (l.length*t.size))):
  Nx P X lo g μ w (.dat (.slice t) l,[]) (.slice (some ⟨w.heap.size,0,none⟩) l.length cap) (w.alloc (.cells cur e)):=by
 have hb:Below w.heap.size w (w.alloc (.cells cur e)):=(Below.refl _ _).alloc (xm _) _
 have hw:=Mem.grow (X:=X) (μ:=μ) hb (μ':=μ) fun _ _ h=>.inl h
 refine⟨μ,fun _ _ h=>h,fun _ _ h=>.inl h,hb,fun g' _ h2=>?_,?_⟩
 ·exact⟨hm.hX,fun b aa=>xan (hm.hlo b aa) hb.size,fun o mv ho=>by
   obtain⟨z,hz,ae⟩:=hm.ob o mv ho
   exact⟨z,by rw [h2 o mv ho];exact hz,ae.step hm.hlo (fun _ _ h=>h) hw (fun b af=>hb.block b (hm.hlo b af)) fun b ah=>hb.block b (hm.lt ho ah).2⟩,hm.dis,hm.tab.step fun b aa=>hb.block b (hm.hlo b aa)⟩
 ·have hlen:(cur.toList.take (l.length*t.size)).length=l.length*t.size:=by
   have h1:=xao t.size hle
   have h2:cur.toList.length=cap*t.size:=by simpa using hs
   rw [xw,h2]
   exact xba h1
  have ad:(w.alloc (.cells cur e)).ownsRow 0 e t.size (.slice (some ⟨w.heap.size,0,none⟩) l.length cap) l.length (cur.toList.take (l.length*t.size)):=⟨hlen,.inr ⟨w.heap.size,cap,cur,rfl,xcp _,heap_alloc_new w _,hle,ab,hs,rfl⟩⟩
  refine .dat rfl (Rep.slice_of hle ⟨fun hx=>xo _ (hm.hlo _ (hm.hX _ hx)),fun o mv ho ai=>xo _ (hm.lt ho ai).2⟩ (hr.step hw) fun j u hu=>?_)
  have:=ad.cells (g:=w.heap.size) rfl j u hu
  rw [Addr.add_lit] at this
  exact this
theorem abuildD_ok[Tabs](hT:TabOK P tt)(hm:Mem P X lo g μ w){ty n:Nat}{ps:List (Nat×AV)}{v:AV}(h:(abuildD tt ty n ps).ev=some v){qs:Array (Nat×Value)}(hq:qs.toList.map (·.1)=ps.map (·.1))
  (hr:∀ (j:Nat) (p:Nat×AV),ps[j]? =some p→∃q:Nat×Value,qs.toList[j]? =some q∧RelV P w lo μ (SS X μ) p.2 q.2):
  ∃x w',(Instr.buildSlice ty n qs).run P w=.ok x w'∧Nx P X lo g μ w (v,[]) x w':=by
 unfold abuildD at h
 split at h
 ·rename_i e t b he
  split at h
  next hn=>
   obtain⟨cs,hc,h⟩:=ev_opt_bind h
   obtain⟨l,hl,h⟩:=ev_opt_bind h
   simp only [Tr.ev_l,xc] at h
   subst h
   obtain⟨vs,k1,k2,k3,k4,k5⟩:=abuildSlice_run hT he hn hc hl hq hr
   exact⟨_,_,k1,dat_made hm (cap:=n) (cur:=vs) (e:=e) k2 (by omega) k4 k5⟩
  next=>cases h
 ·cases h
theorem amake_ok[Tabs](hT:TabOK P tt)(hm:Mem P X lo g μ w){d ty:Nat}(hd:μ d=none){x y:AV}{q:QR}(h:(amake tt d ty x y).ev=some q){vx vy:Value}(hx:RelV P w lo μ (SS X μ) x vx)(hy:RelV P w lo μ (SS X μ) y vy):
  ∃v w',(Instr.makeSlice ty vx vy).run P w=.ok v w'∧Nx P X lo g μ w q v w':=by
 have ab:=hT ty
 unfold amake at h
 split at h
 ·rename_i k l k' c
  split at h
  next e t b he=>
   rw [he] at ab
   obtain⟨hu,⟨i,z,h1,h2,h3,h4,h5⟩,_⟩:=ab
   obtain⟨hb,h⟩:=ev_g h
   have e1:=hx.int
   have e2:=hy.int
   subst e1;subst e2
   split at h
   next hb0=>
    simp only [Tr.ev_l,xc] at h
    subst h
    simp only [xg,decide_eq_true_eq] at hb
    exact mk hm hd hu h1 h2 h3 h4 h5 l c hb.1.1 hb.1.2 hb.2 hb0
   next=>cases h
  next=>cases h
 ·cases h
where
 mk {d ty e:Nat} {t:Ty} {b:Nat} {i:TypeInfo} {z:Value} {k k':IntKind} (hm:Mem P X lo g μ w) (hd:μ d=none) (hu:P.underlying ty=some (.slice e)) (h1:P.info? e=some i) (h2:i.size=t.size) (h3:i.bytes=b) (h4:i.zero=some z) (h5:isZ t z.cells.toList=true)
   (l c:Int) (hl:0≤l) (ad:l≤c) (ae:(b:Int)*c≤281474976710656) (hb0:0<b):
   ∃v w',(Instr.makeSlice ty (.int k l) (.int k' c)).run P w=.ok v w'∧Nx P X lo g μ w (.arr d,[(d,.arr e t (List.replicate l.toNat t.dflt))]) v w':=by
  have af:c≤281474976710656:=by
   have h0:(1:Int)*c≤(b:Int)*c:=xcs (by omega) (by omega)
   omega
  have aa:=run_make (P:=P) w ty e i z hu h1 h4 k k' l c hl ad (by rw [h3];exact ae) (by omega)
  rw [h2] at aa
  refine⟨_,_,aa,?_⟩
  have:=arr_made hm hd (l:=List.replicate l.toNat t.dflt) (cap:=c.toNat) (cur:=madeCells z.cells (c.toNat*t.size)) (e:=e) (size_madeCells _ _) (by simp;omega) (by unfold maxLen;omega)
   (by simp only [xak];exact made_rep h5 _ _ (by omega))
  simpa using this
end
end Go.Proofs.YteiekijgoifhoaaGreatDoor
