/- A part of the proof that FnReplay hands back true, at every argument of the row. -/
import Derived.Test.YtjiljcblmgeioaaGreatDoorA3
import Derived.Below
namespace Go.Proofs.YtjiljcblmgeioaaGreatDoor
set_option linter.all false
section
open Go.RowKit (Below)
abbrev qn:=@Tr.ev_c
abbrev qo:=@Tr.ev_t
abbrev qp:=@Tr.ev_g
abbrev qq:=@Tr.ev_l
def Rep(S:Nat->Prop)(w:World):(t:Ty)->t.I->List Value->Prop
 | .int k,n,cs=>cs=[.int k n]
 | .bool,b,cs=>cs=[.bool b]
 | .str,s,cs=>cs=[.string ⟨s.toArray⟩]
 | .slice t,l,cs=>∃a cap,cs=[.slice a l.length cap]/\l.length<=cap/\∀i x,l[i]? =some x->∃b off c,a=some ⟨b,off,none⟩/\S b/\Rep S w t x c/\
   ∀j u,c[j]? =some u->w.cell? ⟨b,off+(i*t.size+j),none⟩=some u
 | .pair a b,v,cs=>∃c1 c2,cs=c1++c2/\Rep S w a v.1 c1/\Rep S w b v.2 c2
def RepL(S:Nat->Prop)(w:World)(t:Ty):List t.I->List Value->Prop
 | [],cs=>cs=[]
 |x::l,cs=>∃c r,cs=c++r/\Rep S w t x c/\RepL S w t l r
theorem Ty.size_pos:∀t:Ty,0<t.size
 | .pair a b=>by have:=a.size_pos;simp only[Ty.size];omega
 | .int _=>by simp[Ty.size]
 | .bool=>by simp[Ty.size]
 | .str=>by simp[Ty.size]
 | .slice _=>by simp[Ty.size]
section
variable {S:Nat->Prop}{w:World}
theorem Rep.len:∀{t:Ty} {v:t.I} {cs:List Value},Rep S w t v cs->cs.length=t.size
 | .int _,_,_,h=>by simp only[Rep]at h;subst h;rfl
 | .bool,_,_,h=>by simp only[Rep]at h;subst h;rfl
 | .str,_,_,h=>by simp only[Rep]at h;subst h;rfl
 | .slice _,_,_,h=>by simp only[Rep]at h;obtain⟨a,cap,h,_⟩:=h;subst h;rfl
 | .pair a b,v,_,h=>by simp only[Rep]at h;obtain⟨c1,c2,h,h1,h2⟩:=h;subst h;simp[Ty.size,h1.len,h2.len]
theorem Rep.step{S':Nat->Prop}{w':World}(hw:∀b,b<w.heap.size->S b->S' b/\w'.heap[b]? =w.heap[b]?):∀{t:Ty} {v:t.I} {cs:List Value},Rep S w t v cs->Rep S' w' t v cs
 | .int _,_,_,h=>h
 | .bool,_,_,h=>h
 | .str,_,_,h=>h
 | .slice t,l,cs,h=>by
  simp only[Rep]at h⊢;obtain⟨a,cap,e,hle,hi⟩:=h;refine⟨a,cap,e,hle,λi x hx=>?_⟩;obtain⟨b,off,c,ea,hS,hr,hc⟩:=hi i x hx;have hb:b<w.heap.size:=by
   have hl:=hr.len;have hp:=t.size_pos;have:∃u,c[0]? =some u:=⟨c[0]'(by omega),by simp[xh (show 0<c.length by omega)]⟩
   obtain⟨u,hu⟩:=this;exact block_lt_of_cell (hc 0 u hu)
  obtain⟨h1,h2⟩:=hw b hb hS;exact⟨b,off,c,ea,h1,hr.step hw,λj u hu=>(World.cell?_of_block (w:=w) h2).trans (hc j u hu)⟩
 | .pair a b,v,cs,h=>by simp only[Rep]at h⊢;obtain⟨c1,c2,e,h1,h2⟩:=h;exact⟨c1,c2,e,h1.step hw,h2.step hw⟩
theorem RepL.step{S':Nat->Prop}{w':World}(hw:∀b,b<w.heap.size->S b->S' b/\w'.heap[b]? =w.heap[b]?){t:Ty}:∀{l:List t.I} {cs:List Value},RepL S w t l cs->RepL S' w' t l cs
 | [],_,h=>h
 |_::_,_,⟨c,r,e,h1,h2⟩=>⟨c,r,e,h1.step hw,h2.step hw⟩
theorem RepL.len{t:Ty}:∀{l:List t.I} {cs:List Value},RepL S w t l cs->cs.length=l.length*t.size
 | [],_,h=>by simp only[RepL]at h;subst h;simp
 |x::l,_,⟨c,r,e,h1,h2⟩=>by subst e;have a:=h1.len;have b:=RepL.len h2;simp[a,b,C8];omega
theorem RepL.at{t:Ty}:∀{l:List t.I} {cs:List Value},RepL S w t l cs->∀{i x},l[i]? =some x->∃c,Rep S w t x c/\∀j u,c[j]? =some u->cs[i*t.size+j]? =some u
 | [],_,_,i,x,hx=>by simp at hx
 |y::l,_,⟨c,r,e,h1,h2⟩,i,x,hx=>by
  subst e;cases i with
  |zero=>
   simp at hx;subst hx;refine⟨c,h1,λj u hu=>?_⟩;have hj:j<c.length:=by
    by_cases h:j<c.length;·exact h
    ·rw[KP (by omega)]at hu;cases hu
   simp only[xfd,P1];rw[y7 hj];exact hu
  |succ i=>simp at hx;obtain⟨c',h3,h4⟩:=RepL.at h2 hx;refine⟨c',h3,λj u hu=>?_⟩;have hl:=h1.len;rw[C6 (by rw[hl,C8];omega)];rw[show(i+1)*t.size+j-c.length=i*t.size+j by rw[hl,C8];omega];exact h4 j u hu
theorem RepL.append{t:Ty}:∀{l l':List t.I} {cs aa:List Value},RepL S w t l cs->RepL S w t l' aa->RepL S w t (l++l') (cs++aa)
 | [],_,_,_,h,h'=>by simp only[RepL]at h;subst h;exact h'
 |x::l,_,_,_,⟨c,r,e,h1,h2⟩,h'=>by subst e;exact⟨c,r++_,by simp,h1,RepL.append h2 h'⟩
theorem RepL.set{t:Ty}:∀{l:List t.I} {cs:List Value},RepL S w t l cs->∀{i:Nat} {x:t.I} {c:List Value},i<l.length->Rep S w t x c->
  RepL S w t (l.set i x) (cs.take (i*t.size)++c++cs.drop (i*t.size+t.size))
 | [],_,_,i,_,_,hi,_=>by simp at hi
 |y::l,_,⟨c0,r,e,h1,h2⟩,i,x,c,hi,hx=>by
  subst e;have hl:=h1.len;cases i with
  |zero=>refine⟨c,r,?_,hx,h2⟩;simp[<-hl]
  |succ i=>
   have aa:i<l.length:=by simpa using hi
   refine⟨c0,_,?_,h1,RepL.set h2 aa hx⟩;rw[xgn,List.drop_append,Gg (show c0.length<=(i+1)*t.size by rw[hl,C8];omega),
    VW (show c0.length<=(i+1)*t.size+t.size by rw[hl,C8];omega)]
   rw[show(i+1)*t.size-c0.length=i*t.size by rw[hl,C8];omega,show(i+1)*t.size+t.size-c0.length=i*t.size+t.size by rw[hl,C8];omega];simp
theorem RepL.of_slice{t:Ty}{l:List t.I}{b off:Nat}{cap n:Nat}(h:Rep S w (.slice t) l [.slice (some ⟨b,off,none⟩) n cap]):
  ∃cs,RepL S w t l cs/\∀j u,cs[j]? =some u->w.cell? ⟨b,off+j,none⟩=some u:=by
 simp only[Rep]at h;obtain⟨a,cp,e,_,hi⟩:=h;have:∀(m:Nat) (k:List t.I) (i0:Nat),k.length=m->(∀i x,k[i]? =some x->∃c,Rep S w t x c/\∀j u,c[j]? =some u->w.cell? ⟨b,off+((i0+i)*t.size+j),none⟩=some u)->
   ∃cs,RepL S w t k cs/\∀j u,cs[j]? =some u->w.cell? ⟨b,off+(i0*t.size+j),none⟩=some u:=by
  intro m;induction m with
  |zero=>intro k i0 hk _;have:k=[]:=C9 hk;subst this;exact⟨[],rfl,λj u hu=>by simp at hu⟩
  |succ m ih=>
   intro k i0 hk hh;cases k with
   |nil=>simp at hk
   |cons x k=>
    obtain⟨c,aa,ae⟩:=hh 0 x (by simp);obtain⟨cs,ab,ad⟩:=ih k (i0+1) (by simpa using hk) (λi y hy=>by obtain⟨c',h1,h2⟩:=hh (i+1) y (by simpa using hy);exact⟨c',h1,λj u hu=>by have:=h2 j u hu;rwa [show i0+(i+1)=i0+1+i by omega]at this⟩);refine⟨c++cs,⟨c,cs,rfl,aa,ab⟩,λj u hu=>?_⟩;have hl:=aa.len;by_cases hj:j<c.length;·rw[y7 hj]at hu;have:=ae j u hu;rwa [zL]at this
    ·rw[C6 (by omega)]at hu;have:=ad (j-c.length) u hu;rwa [show(i0+1)*t.size+(j-c.length)=i0*t.size+j by rw[C8,hl];omega]at this
 obtain⟨cs,h1,h2⟩:=this l.length l 0 rfl (λi x hx=>by obtain⟨b',af,c,ea,hS,hr,hc⟩:=hi i x hx;simp only[Np,Value.slice.injEq,ql]at e;obtain⟨e1,_,_⟩:=e;rw[<-e1]at ea;simp only[xe,Addr.mk.injEq,ql]at ea;obtain⟨rfl,rfl⟩:=ea;exact⟨c,hr,λj u hu=>by have:=hc j u hu;rwa [P1]⟩);exact⟨cs,h1,λj u hu=>by have:=h2 j u hu;rwa [xfd,P1]at this⟩
theorem Rep.slice_of{t:Ty}{l:List t.I}{cs:List Value}{b off cap:Nat}(hle:l.length<=cap)(hS:S b)(h:RepL S w t l cs)(hc:∀j u,cs[j]? =some u->w.cell? ⟨b,off+j,none⟩=some u):
  Rep S w (.slice t) l [.slice (some ⟨b,off,none⟩) l.length cap]:=by
 simp only[Rep];refine⟨_,_,rfl,hle,λi x hx=>?_⟩;obtain⟨c,h1,h2⟩:=h.at hx;exact⟨b,off,c,rfl,hS,h1,λj u hu=>hc _ _ (h2 j u hu)⟩
theorem Rep.nil{t:Ty}{a:Option Addr}{cap:Nat}:Rep S w (.slice t) ([]:List t.I) [.slice a 0 cap]:=by simp only[Rep];exact⟨_,_,rfl,V1 _,λi x hx=>by simp at hx⟩
end
theorem Ty.cast_spec{a b:Ty}{x:a.I}{y:b.I}(h:Ty.cast a b x=some y):∃e:a=b,y=e▸x:=by
 unfold Ty.cast at h;split at h
 ·rename_i e _
  simp at h;exact⟨e,h.symm⟩
 ·cases h
end
section
open Go.RowKit (Below)
theorem aA{α:Type}:∀(l:List α) (i:Nat),aQ l i=l[i]?
 | [],_=>by simp[aQ]
 |_::_,0=>by simp[aQ]
 |_::r,i+1=>by simp[aQ,aA r i]
structure MV where
 v:Value
 rs:List Nat
 hs:List Value
structure Kept(lo:Nat->Prop)(w w':World):Prop where
 os:w'.os=w.os
 tape:w'.tape=w.tape
 output:w'.output=w.output
 size:w.heap.size<=w'.heap.size
 block:∀k,lo k->w'.heap[k]? =w.heap[k]?
theorem Kept.refl(lo:Nat->Prop)(w:World):Kept lo w w:=⟨rfl,rfl,rfl,xm _,λ_ _=>rfl⟩
theorem Kept.trans{lo:Nat->Prop}{a b c:World}(h:Kept lo a b)(k:Kept lo b c):Kept lo a c:=
 ⟨k.os.trans h.os,k.tape.trans h.tape,k.output.trans h.output,JZ h.size k.size,λi hi=>(k.block i hi).trans (h.block i hi)⟩
theorem Kept.of{lo:Nat->Prop}{w w':World}(h:Below w.heap.size w w')(hl:∀b,lo b->b<w.heap.size):Kept lo w w':=⟨h.os,h.tape,h.output,h.size,λk hk=>h.block k (hl k hk)⟩
theorem Kept.mono{lo lo':Nat->Prop}{w w':World}(h:Kept lo w w')(hl:∀b,lo' b->lo b):Kept lo' w w':=⟨h.os,h.tape,h.output,h.size,λk hk=>h.block k (hl k hk)⟩
theorem Kept.drew{lo:Nat->Prop}{a w:World}(h:Kept lo a w):Kept lo a w.drew:=⟨h.os,h.tape,h.output,h.size,h.block⟩
def Hs(w:World):(ts:List Ty)->HL ts->List Value->Prop
 | [],_,vs=>vs=[]
 |t::ts,(x,h),vs=>∃v r,vs=v::r/\Rep (λ_=>True) w t x v.cells.toList/\(t.size=1->v.cells= #[v])/\(t.size≠1->∃cs,v=.agg cs)/\Hs w ts h r
def CallR(P:Program)(f:Nat)(vals:Array Value)(w:World)(R:Value->World->Prop):Prop:=
 ((callFunc f vals).run P w=.ok (.enter f vals) w/\Calls P f vals w (λe w'=>∃x,e=.returned x/\R x w'))\/∃x w',(callFunc f vals).run P w=.ok (.value x) w'/\R x w'
theorem CallR.mono{P:Program}{f:Nat}{vals:Array Value}{w:World}{R R':Value->World->Prop}(h:CallR P f vals w R)(hr:∀x w',R x w'->R' x w'):CallR P f vals w R':=by
 rcases h with⟨h1,h2⟩|⟨x,w',h1,h2⟩
 ·exact .inl ⟨h1,h2.mono λe w' ⟨x,e1,e2⟩=>⟨x,e1,hr _ _ e2⟩⟩
 ·exact .inr ⟨x,w',h1,hr _ _ h2⟩
def CloOK(P:Program)(w:World)(lo:Nat->Prop)(ts:List Ty)(r:Ty)(p:HL ts->Option r.I)(x:Value):Prop:=
 r.size=1/\∃f fs xs,x=.func (.func f) fs xs/\∀w',(∀b,lo b->b<w'.heap.size)->(∀b,lo b->w'.heap[b]? =w.heap[b]?)->∀h vals,Hs w' ts h vals->∀y,p h=some y->
  CallR P f (fs++vals.toArray++xs) w' (λv w''=>Rep (λb=>w'.heap.size<=b) w'' r y [v]/\Below w'.heap.size w' w'')
inductive RelV(P:Program)(w:World)(lo:Nat->Prop)(μ:Nat->Option MV):(Nat->Prop)->AV->Value->Prop
 |undef {S x}:RelV P w lo μ S .undef x
 |skip {S}:RelV P w lo μ S .skip undef
 |dat {S t v x} (ht:t.size=1) (h:Rep S w t v [x]):RelV P w lo μ S (.dat t v) x
 |nilsl {S}:RelV P w lo μ S .nilsl (.slice none 0 0)
 |arr {S o a n c rs hs} (h:μ o=some ⟨.slice a n c,rs,hs⟩):RelV P w lo μ S (.arr o) (.slice a n c)
 |box {S o b k rs hs} (h:μ o=some ⟨.pointer (some ⟨b,0,none⟩),rs,hs⟩):RelV P w lo μ S (.box o k) (.pointer (some ⟨b,k,none⟩))
 |elt {S o i s b n c rs hs} (h:μ o=some ⟨.slice (some ⟨b,0,none⟩) n c,rs,hs⟩):RelV P w lo μ S (.elt o i s) (.pointer (some ⟨b,i*s,none⟩))
 |fld {S o i s k b n c rs hs} (h:μ o=some ⟨.slice (some ⟨b,0,none⟩) n c,rs,hs⟩):RelV P w lo μ S (.fld o i s k) (.pointer (some ⟨b,i*s+k,none⟩))
 |row {S o i v rs hs a m c} (h:μ o=some ⟨v,rs,hs⟩) (hx:hs[i]? =some (.slice a m c)):RelV P w lo μ S (.row o i) (.slice a m c)
 |relt {S o i n s v rs hs b m c} (h:μ o=some ⟨v,rs,hs⟩) (hx:hs[i]? =some (.slice (some ⟨b,0,none⟩) m c)):RelV P w lo μ S (.relt o i n s) (.pointer (some ⟨b,n*s,none⟩))
 |suf {S o i s a0 n c rs hs a' m k} (h:μ o=some ⟨.slice a0 n c,rs,hs⟩) (hi:i<=n/\m=n-i) (ha:i=n\/∃b,a0=some ⟨b,0,none⟩/\a'=some ⟨b,i*s,none⟩):RelV P w lo μ S (.suf o i s) (.slice a' m k)
 |pre {S o i a0 n c rs hs} (h:μ o=some ⟨.slice a0 n c,rs,hs⟩) (hi:i<=n):RelV P w lo μ S (.pre o i) (.slice a0 i c)
 |ptr {S cs b k} (xs:Nat->Value) (hb0:cs≠ []) (hb:S b\/lo b) (hx:∀j v,aQ cs j=some v->w.cell? ⟨b,k+j,none⟩=some (xs j)) (h:∀j v,aQ cs j=some v->RelV P w lo μ S v (xs j)):
   RelV P w lo μ S (.ptr cs) (.pointer (some ⟨b,k,none⟩))
 |fn {S f caps xs} (hl:caps.length=xs.size) (h:∀j v,aQ caps j=some v->RelV P w lo μ (λb=>S b\/lo b) v (xs.getD j undef)):RelV P w lo μ S (.fn f caps) (.func (.func f) #[] xs)
 |bnd {S f fs xs} (hl:fs.length=xs.size) (h:∀j v,aQ fs j=some v->RelV P w lo μ S v (xs.getD j undef)):RelV P w lo μ S (.bnd f fs) (.func (.func f) xs #[])
 |clo {S ts r p x} (h:CloOK P w lo ts r p x):RelV P w lo μ S (.clo ts r p) x
 |tup {S vs xs} (hl:vs.length=xs.size) (h:∀j v,aQ vs j=some v->RelV P w lo μ S v (xs.getD j undef)):RelV P w lo μ S (.tup vs) (.tuple xs)
 |agg {S vs xs} (hl:vs.length=xs.size) (h:∀j v,aQ vs j=some v->RelV P w lo μ S v (xs.getD j undef)):RelV P w lo μ S (.agg vs) (.agg xs)
theorem CloOK.step{P:Program}{w w':World}{lo lo':Nat->Prop}{ts:List Ty}{r:Ty}{p:HL ts->Option r.I}{x:Value}(h:CloOK P w lo ts r p x)(hl:∀b,lo b->lo' b)
  (hw:∀b,lo b->w'.heap[b]? =w.heap[b]?):CloOK P w' lo' ts r p x:=by
 obtain⟨h2,f,fs,xs,e,hc⟩:=h;exact⟨h2,f,fs,xs,e,λab hs hb=>hc ab (λb aa=>hs b (hl b aa)) λb aa=>(hb b (hl b aa)).trans (hw b aa)⟩
def Ext(hs hs':List Value):Prop:=∀(i:Nat) (x:Value),hs[i]? =some x->hs'[i]? =some x
theorem Ext.refl(hs:List Value):Ext hs hs:=λ_ _ h=>h
theorem Ext.nil(hs:List Value):Ext [] hs:=λ_ _ h=>by simp at h
theorem Ext.trans{a b c:List Value}(h:Ext a b)(k:Ext b c):Ext a c:=λi x hx=>k i x (h i x hx)
theorem RelV.stepH{P:Program}{w w':World}{lo:Nat->Prop}{μ μ':Nat->Option MV}{S:Nat->Prop}{v:AV}{x:Value}(h:RelV P w lo μ S v x)
  (hμ:∀o mv,μ o=some mv->∃rs hs,μ' o=some ⟨mv.v,rs,hs⟩/\Ext mv.hs hs):∀{S':Nat->Prop},(∀b,lo b->b<w.heap.size)->(∀b,b<w.heap.size->S b->S' b/\w'.heap[b]? =w.heap[b]?)->(∀b,lo b->w'.heap[b]? =w.heap[b]?)->
  RelV P w' lo μ' S' v x:=by
 induction h with
 |undef=>intro S' _ _ _;exact .undef
 |skip=>intro S' _ _ _;exact .skip
 |dat ht h=>intro S' _ hw _;exact .dat ht (h.step hw)
 |nilsl=>intro S' _ _ _;exact .nilsl
 |arr h=>intro S' _ _ _;obtain⟨rs,hs,h,_⟩:=hμ _ _ h;exact .arr h
 |box h=>intro S' _ _ _;obtain⟨rs,hs,h,_⟩:=hμ _ _ h;exact .box h
 |elt h=>intro S' _ _ _;obtain⟨rs,hs,h,_⟩:=hμ _ _ h;exact .elt h
 |fld h=>intro S' _ _ _;obtain⟨rs,hs,h,_⟩:=hμ _ _ h;exact .fld h
 |row h hx=>intro S' _ _ _;obtain⟨rs,hs,h,he⟩:=hμ _ _ h;exact .row h (he _ _ hx)
 |relt h hx=>intro S' _ _ _;obtain⟨rs,hs,h,he⟩:=hμ _ _ h;exact .relt h (he _ _ hx)
 |suf h hi ha=>intro S' _ _ _;obtain⟨rs,hs,h,_⟩:=hμ _ _ h;exact .suf h hi ha
 |pre h hi=>intro S' _ _ _;obtain⟨rs,hs,h,_⟩:=hμ _ _ h;exact .pre h hi
 | @ptr S cs b k xs hb0 hb hx h ih=>
  intro S' hlo hw hl;by_cases ab:b<w.heap.size;·have ad:w'.heap[b]? =w.heap[b]? :=hb.elim (λhS=>(hw b ab hS).2) (λhS=>hl b hS);exact .ptr xs hb0 (hb.imp (λhS=>(hw b ab hS).1) id) (λj v hv=>(World.cell?_of_block (w:=w) ad).trans (hx j v hv)) λj v hv=>ih j v hv hlo hw hl
  ·cases cs with
   |nil=>exact absurd rfl hb0
   |cons c cs=>exact absurd (block_lt_of_cell (hx 0 c rfl)) ab
 |fn aa h ih=>intro S' hlo hw hl;exact .fn aa λj v hv=>ih j v hv hlo (λb ae hb=>hb.elim (λh=>⟨.inl (hw b ae h).1,(hw b ae h).2⟩) λh=>⟨.inr h,hl b h⟩) hl
 |bnd aa h ih=>intro S' hlo hw hl;exact .bnd aa λj v hv=>ih j v hv hlo hw hl
 |clo h=>intro S' hlo hw hl;exact .clo (h.step (λ_ h=>h) hl)
 |tup aa h ih=>intro S' hlo hw hl;exact .tup aa λj v hv=>ih j v hv hlo hw hl
 |agg aa h ih=>intro S' hlo hw hl;exact .agg aa λj v hv=>ih j v hv hlo hw hl
theorem RelV.step{P:Program}{w w':World}{lo:Nat->Prop}{μ μ':Nat->Option MV}{S:Nat->Prop}{v:AV}{x:Value}(h:RelV P w lo μ S v x)
  (hμ:∀o mv,μ o=some mv->μ' o=some mv) {S':Nat->Prop} (hl:∀b,lo b->b<w.heap.size) (hw:∀b,b<w.heap.size->S b->S' b/\w'.heap[b]? =w.heap[b]?) (hb:∀b,lo b->w'.heap[b]? =w.heap[b]?):
  RelV P w' lo μ' S' v x:=h.stepH (λo mv ho=>⟨mv.rs,mv.hs,hμ o mv ho,Ext.refl _⟩) hl hw hb
end
section
open Go.RowKit (Below)
def aD:Value->Option Nat
 | .slice (some a) _ _=>some a.block
 | .pointer (some a)=>some a.block
 |_=>none
def SS(X:Nat->Prop)(μ:Nat->Option MV)(b:Nat):Prop:=¬X b/\∀o mv,μ o=some mv->b∉mv.rs
structure RowsOK(w:World)(lo:Nat->Prop)(S:Nat->Prop)(e e2:Nat)(t:Ty)(l:List (List t.I))(p:Nat->Prop)(mv:MV)(hs:List Value):Prop where
 own:w.ownsRow 0 e 1 mv.v l.length hs
 top:∀b,aD mv.v=some b->b∈mv.rs
 low:∀b∈mv.rs,¬lo b/\b<w.heap.size
 slc:∀x∈hs,∃a n c,x=.slice a n c
 row:∀j x r,p j->hs[j]? =some x->l[j]? =some r->(∀b,aD x=some b->b∈mv.rs/\aD mv.v≠some b)/\∃xs,w.ownsRow 0 e2 t.size x r.length xs/\RepL S w t r xs
 apart:∀j k x y b,p j->p k->hs[j]? =some x->hs[k]? =some y->aD x=some b->aD y=some b->j=k
theorem RowsOK.len{w:World}{lo S:Nat->Prop}{e e2:Nat}{t:Ty}{l:List (List t.I)}{p:Nat->Prop}{mv:MV}{hs:List Value}(h:RowsOK w lo S e e2 t l p mv hs):hs.length=l.length:=by have:=h.own.1;omega
theorem aY{w w':World}{e n sz:Nat}{v:Value}{xs:List Value}(h:w.ownsRow 0 e sz v n xs)(hb:∀b,aD v=some b->w'.heap[b]? =w.heap[b]?):w'.ownsRow 0 e sz v n xs:=by
 refine⟨h.1,?_⟩;rcases h.2 with h|⟨gb,cap,cur,e1,h1,h2,h3⟩
 ·exact .inl h
 ·exact .inr ⟨gb,cap,cur,e1,h1,by rw[hb gb (by rw[e1];simp[aD])];exact h2,h3⟩
theorem RowsOK.step{w w':World}{lo lo' S S':Nat->Prop}{e e2:Nat}{t:Ty}{l:List (List t.I)}{p:Nat->Prop}{mv:MV}{hs:List Value}(h:RowsOK w lo S e e2 t l p mv hs)(hw:∀b,b<w.heap.size->S b->S' b/\w'.heap[b]? =w.heap[b]?)
  (hr:∀b,b∈mv.rs->w'.heap[b]? =w.heap[b]?) (hlo:∀b,b∈mv.rs->¬lo' b):RowsOK w' lo' S' e e2 t l p mv hs:=by
 refine⟨aY h.own λb hb=>hr b (h.top b hb),h.top,λb hb=>⟨hlo b hb,?_⟩,h.slc,λj x r hp hx hl=>?_,h.apart⟩;·have h1:=(h.low b hb).2;have h2:=hr b hb;rw[F3 h1]at h2;exact(xba.1 h2).1
 ·obtain⟨k1,xs,k2,k3⟩:=h.row j x r hp hx hl;exact⟨k1,xs,aY k2 λb hb=>hr b (k1 b hb).1,k3.step hw⟩
def dU(h:Option (Nat×Option Nat))(j:Nat):Prop:=∀i k,h=some (i,k)->j≠i
def Free(w:World)(b:Nat):Prop:=∃cur e,w.heap[b]? =some (.cells cur e)
theorem Free.step{w w':World}{b:Nat}(h:Free w b)(hb:w'.heap[b]? =w.heap[b]?):Free w' b:=by obtain⟨cur,e,h⟩:=h;exact⟨cur,e,hb.trans h⟩
structure PermOK(w:World)(lo:Nat->Prop)(S:Nat->Prop)(e e2:Nat)(t:Ty)(ix:List Nat)(l:List (List t.I))(mv:MV):Prop where
 own:w.ownsRow 0 e 1 mv.v ix.length (ix.map λi=>mv.hs.getD i (.slice none 0 0))
 len:mv.hs.length=l.length
 top:∀b,aD mv.v=some b->b∈mv.rs
 low:∀b∈mv.rs,¬lo b/\b<w.heap.size
 slc:∀x∈mv.hs,∃a n c,x=.slice a n c
 row:∀(j:Nat) (x:Value) (r:List t.I),mv.hs[j]? =some x->l[j]? =some r->(∀b,aD x=some b->b∈mv.rs/\aD mv.v≠some b)/\∃xs,w.ownsRow 0 e2 t.size x r.length xs/\RepL S w t r xs
 apart:∀(j k:Nat) (x y:Value) (b:Nat),mv.hs[j]? =some x->mv.hs[k]? =some y->aD x=some b->aD y=some b->j=k
structure SpentOK(w:World)(lo:Nat->Prop)(mv:MV):Prop where
 hs:mv.hs=[]
 low:∀b∈mv.rs,¬lo b/\b<w.heap.size
theorem Ac{w w':World}{lo lo':Nat->Prop}{rs:List Nat}(h:∀b∈rs,¬lo b/\b<w.heap.size)(hr:∀b,b∈rs->w'.heap[b]? =w.heap[b]?)(hlo:∀b,b∈rs->¬lo' b):∀b∈rs,¬lo' b/\b<w'.heap.size:=λb hb=>⟨hlo b hb,by have h1:=(h b hb).2;have h2:=hr b hb;rw[F3 h1]at h2;exact(xba.1 h2).1⟩
theorem PermOK.step{w w':World}{lo lo' S S':Nat->Prop}{e e2:Nat}{t:Ty}{ix:List Nat}{l:List (List t.I)}{mv:MV}(h:PermOK w lo S e e2 t ix l mv)(hw:∀b,b<w.heap.size->S b->S' b/\w'.heap[b]? =w.heap[b]?)
  (hr:∀b,b∈mv.rs->w'.heap[b]? =w.heap[b]?) (hlo:∀b,b∈mv.rs->¬lo' b):PermOK w' lo' S' e e2 t ix l mv:=by
 refine⟨aY h.own λb hb=>hr b (h.top b hb),h.len,h.top,Ac h.low hr hlo,h.slc,λj x r hx hl=>?_,h.apart⟩;obtain⟨k1,xs,k2,k3⟩:=h.row j x r hx hl;exact⟨k1,xs,aY k2 λb hb=>hr b (k1 b hb).1,k3.step hw⟩
theorem SpentOK.step{w w':World}{lo lo':Nat->Prop}{mv:MV}(h:SpentOK w lo mv)(hr:∀b,b∈mv.rs->w'.heap[b]? =w.heap[b]?)(hlo:∀b,b∈mv.rs->¬lo' b):SpentOK w' lo' mv:=⟨h.hs,Ac h.low hr hlo⟩
def ObOK(P:Program)(w:World)(lo:Nat->Prop)(μ:Nat->Option MV)(S:Nat->Prop):Ob->MV->Prop
 | .arr e t l,mv=>(mv.hs=[]/\mv.rs=(aD mv.v).toList)/\(∀b,aD mv.v=some b->¬lo b)/\∃xs,w.ownsRow 0 e t.size mv.v l.length xs/\RepL S w t l xs
 | .rows e e2 t l h,mv=>RowsOK w lo S e e2 t l (dU h) mv mv.hs/\∀i d,h=some (i,some d)->∃x rs hs,mv.hs[i]? =some x/\μ d=some ⟨x,rs,hs⟩
 | .perm _ e e2 t ix l,mv=>PermOK w lo S e e2 t ix l mv
 | .spent,mv=>SpentOK w lo mv
 | .cells cs,mv=>∃b vs e,mv=⟨.pointer (some ⟨b,0,none⟩),[b],[]⟩/\¬lo b/\w.heap[b]? =some (.cells vs e (0,0))/\vs.size=cs.length/\∀j v,aQ cs j=some v->RelV P w lo μ S v (vs.getD j undef)
class Tabs where
 tabs:List (Nat×List Value)
 errs:List Nat
instance noTabs:Tabs:=⟨[],[]⟩
def TabsOK[Tabs](w:World)(lo:Nat->Prop):Prop:=(∀p∈Tabs.tabs,lo p.1/\∃t y,w.heap[p.1]? =some (.cells p.2.toArray t y))/\∀b∈Tabs.errs,lo b/\∃u v t y,w.heap[b]? =some (.cells #[.iface u v] t y)
theorem TabsOK.step[Tabs]{w w':World}{lo:Nat->Prop}(h:TabsOK w lo)(hb:∀b,lo b->w'.heap[b]? =w.heap[b]?):TabsOK w' lo:=⟨λp hp=>by
 obtain⟨h1,t,y,h2⟩:=h.1 p hp;exact⟨h1,t,y,(hb _ h1).trans h2⟩,λp hp=>by
 obtain⟨h1,u,v,t,y,h2⟩:=h.2 p hp;exact⟨h1,u,v,t,y,(hb _ h1).trans h2⟩⟩
theorem TabsOK.le[Tabs]{w:World}{lo lo':Nat->Prop}(h:TabsOK w lo)(hl:∀b,lo b->lo' b):TabsOK w lo':=⟨λp hp=>⟨hl _ (h.1 p hp).1,(h.1 p hp).2⟩,λp hp=>⟨hl _ (h.2 p hp).1,(h.2 p hp).2⟩⟩
structure Mem[Tabs](P:Program)(X:Nat->Prop)(lo:Nat->Prop)(g:Nat->Option Ob)(μ:Nat->Option MV)(w:World):Prop where
 hX:∀b,X b->lo b
 hlo:(∀b,lo b->b<w.heap.size)
 ob:∀o mv,μ o=some mv->∃x,g o=some x/\ObOK P w lo μ (SS X μ) x mv
 dis:∀o p mv mv' b,μ o=some mv->μ p=some mv'->b∈mv.rs->b∈mv'.rs->o=p
 tab:TabsOK w lo
def Lg:Ty->Value->Bool
 | .int k,.int k' n=>decide (k=k')&&n==0
 | .bool,.bool b=> !b
 | .str,.string s=>decide (s.data.toList=[])
 | .slice _,.slice none n c=>n==0&&c==0
 |_,_=>false
def vV:Ty->List Value->Bool
 | .pair a b,cs=>vV a (cs.take a.size)&&vV b (cs.drop a.size)
 |t,cs=>match cs with
  | [v]=>Lg t v
  |_=>false
def tA(P:Program)(T:Nat)(t:Ty):Prop:=∃i z,P.info? T=some i/\i.size=t.size/\i.zero=some z/\vV t z.cells.toList=true
def F5:Ty->Option TypeDesc
 | .int k=>some (.int k)
 | .bool=>some .bool
 | .str=>some .string
 |_=>none
def H5:TypeDesc->Bool
 | .struct _=>false
 | .array _ _=>false
 |_=>true
def oX(P:Program):List Go.Field->List (Nat×Ty)->Nat->Prop
 | [],[],_=>True
 |f::fs,(ty,t)::ts,o=>f.type=ty/\f.offset=o/\tA P ty t/\oX P fs ts (o+t.size)
 |_,_,_=>False
def X2:List (Nat×Ty)->Nat
 | []=>0
 |(_,t)::r=>t.size+X2 r
def aDc(P:Program)(T:Nat):TD->Prop
 | .sc t=>∃d,F5 t=some d/\P.underlying T=some d/\tA P T t
 | .sl e t b=>P.underlying T=some (.slice e)/\(∃i z,P.info? e=some i/\i.size=t.size/\i.bytes=b/\i.zero=some z/\vV t z.cells.toList=true)/\∃i,P.info? T=some i/\i.size=1/\i.zero=some (.slice none 0 0)
 | .st t fs=>∃fields,P.underlying T=some (.struct fields)/\oX P fields.toList fs 0/\X2 fs=t.size/\tA P T t
 | .no=>True
def aW(P:Program)(tt:Nat->TD):Prop:=∀T,aDc P T (tt T)
theorem eU:∀{t:Ty} {cs:List Value},vV t cs=true->cs.length=t.size
 | .pair a b,cs,h=>by simp only[vV,xf]at h;have h1:=eU h.1;have h2:=eU h.2;simp only[xw,tH]at h1 h2;simp only[Ty.size];have:=b.size_pos;omega
 | .int k,cs,h=>by match cs,h with| [_],_=>rfl
 | .bool,cs,h=>by match cs,h with| [_],_=>rfl
 | .str,cs,h=>by match cs,h with| [_],_=>rfl
 | .slice _,cs,h=>by match cs,h with| [_],_=>rfl
theorem Hj{s:ByteArray}(h:s.data.toList=[]):s=⟨([]:List UInt8).toArray⟩:=by
 cases s with
 |mk d=>
  have:d= #[]:=by apply xhi;simpa using h
  rw[this]
theorem jQ{t:Ty}(ht:t.size=1){cs:List Value}(h:vV t cs=true):∃x,cs=[x]:=by
 have:=eU h
 match cs,this with
 | [x],_=>exact⟨x,rfl⟩
 | [],e=>simp at e;omega
 |_::_::_,e=>simp at e;omega
theorem FU{k:IntKind}{x:Value}(h:vV (.int k) [x]=true):x=.int k 0:=by cases x<;>simp[vV,Lg]at h;obtain⟨rfl,rfl⟩:=h;rfl
theorem Qk{x:Value}(h:vV .bool [x]=true):x=.bool false:=by cases x<;>simp[vV,Lg]at h;subst h;rfl
theorem IW{x:Value}(h:vV .str [x]=true):x=.string ⟨([]:List UInt8).toArray⟩:=by
 cases x with
 |string s=>simp[vV,Lg]at h;rw[Hj (s:=s) (by simp[h])]
 |_=>simp[vV,Lg]at h
theorem tG{t:Ty}{x:Value}(h:vV (.slice t) [x]=true):x=.slice none 0 0:=by
 cases x with
 |slice a n c=>cases a<;>simp[vV,Lg]at h;obtain⟨rfl,rfl⟩:=h;rfl
 |_=>simp[vV,Lg]at h
theorem qX{S:Nat->Prop}{w:World}:∀{t:Ty} {cs:List Value},vV t cs=true->Rep S w t t.dflt cs
 | .pair a b,cs,h=>by simp only[vV,xf]at h;exact⟨_,_,(xej a.size cs).symm,qX h.1,qX h.2⟩
 | .int k,cs,h=>by obtain⟨x,rfl⟩:=jQ rfl h;rw[FU h];rfl
 | .bool,cs,h=>by obtain⟨x,rfl⟩:=jQ rfl h;rw[Qk h];rfl
 | .str,cs,h=>by obtain⟨x,rfl⟩:=jQ rfl h;rw[IW h];rfl
 | .slice _,cs,h=>by obtain⟨x,rfl⟩:=jQ rfl h;rw[tG h];exact Rep.nil
theorem Y8{P:Program}{S:Nat->Prop}{w:World}{lo:Nat->Prop}{μ:Nat->Option MV}:∀{t:Ty} {cs:List Value},vV t cs=true->(eF t).length=cs.length/\∀j v,aQ (eF t) j=some v->RelV P w lo μ S v (cs.getD j undef)
 | .pair a b,cs,h=>by
  simp only[vV,xf]at h;obtain⟨h1,h2⟩:=Y8 (P:=P) (S:=S) (w:=w) (lo:=lo) (μ:=μ) h.1;obtain⟨h3,h4⟩:=Y8 (P:=P) (S:=S) (w:=w) (lo:=lo) (μ:=μ) h.2;have hl:=eU h.1;simp only[xw,tH]at h1 h3 hl;refine⟨by simp only[eF,xj];omega,λj v hv=>?_⟩;simp only[eF,aA]at hv;by_cases hj:j<(eF a).length;·rw[y7 hj]at hv;have:=h2 j v (by rw[aA];exact hv);rwa [xd,Tq,qi (by omega),<-xd]at this
  ·rw[C6 (by omega)]at hv;have:=h4 _ v (by rw[aA];exact hv);rwa [xd,yJ,show a.size+(j-(eF a).length)=j by omega,<-xd]at this
 | .int k,cs,h=>by obtain⟨x,rfl⟩:=jQ rfl h;exact⟨rfl,λj v hv=>by match j,hv with|0,hv=>simp[eF,aQ]at hv;subst hv;exact .dat rfl (qX h)⟩
 | .bool,cs,h=>by obtain⟨x,rfl⟩:=jQ rfl h;exact⟨rfl,λj v hv=>by match j,hv with|0,hv=>simp[eF,aQ]at hv;subst hv;exact .dat rfl (qX h)⟩
 | .str,cs,h=>by obtain⟨x,rfl⟩:=jQ rfl h;exact⟨rfl,λj v hv=>by match j,hv with|0,hv=>simp[eF,aQ]at hv;subst hv;exact .dat rfl (qX h)⟩
 | .slice _,cs,h=>by obtain⟨x,rfl⟩:=jQ rfl h;rw[tG h];exact⟨rfl,λj v hv=>by match j,hv with|0,hv=>simp[eF,aQ]at hv;subst hv;exact .nilsl⟩
theorem Hy{t:Ty}{d:TypeDesc}(h:F5 t=some d):H5 d=true:=by cases t<;>simp[F5]at h<;>subst h<;>rfl
section
variable {P:Program}{tt:Nat->TD}{w:World}
theorem lS(hT:aW P tt){ty:Nat}{sz:Nat×Bool}(h:kJ tt ty=some sz):(isAgg ty).run P w=.ok sz.2 w/\(sizeOf ty).run P w=.ok sz.1 w:=by
 have hd:=hT ty;unfold kJ at h;split at h<;>rename_i hq<;>rw[hq]at hd<;>simp only[aDc]at hd;·obtain⟨d,h1,h2,i,z,h3,h4,_⟩:=hd;cases h;refine⟨?_,by simp[sizeOf,typeInfo,h3,h4]⟩;have aa:=Hy h1;cases d<;>simp[H5]at aa<;>simp[isAgg,run_underlying h2]
 ·obtain⟨h1,_,i,h3,h4,_⟩:=hd;cases h;exact⟨by simp[isAgg,run_underlying h1],by simp[sizeOf,typeInfo,h3,h4]⟩
 ·obtain⟨fields,h1,_,_,i,z,h3,h4,_⟩:=hd;cases h;exact⟨by simp[isAgg,run_underlying h1],by simp[sizeOf,typeInfo,h3,h4]⟩
 ·cases h
end
end
section
open Go.RowKit (Below)
section
variable {P:Program}{tt:Nat->TD}{w:World}{lo:Nat->Prop}{μ:Nat->Option MV}{S:Nat->Prop}
theorem RelV.int{k:IntKind}{n:Int}{x:Value}(h:RelV P w lo μ S (.dat (.int k) n) x):x=.int k n:=by
 cases h with
 |dat _ h=>simpa[Rep]using h
theorem RelV.bool{b:Bool}{x:Value}(h:RelV P w lo μ S (.dat .bool b) x):x=.bool b:=by
 cases h with
 |dat _ h=>simpa[Rep]using h
theorem RelV.str{s:List UInt8}{x:Value}(h:RelV P w lo μ S (.dat .str s) x):x=.string ⟨s.toArray⟩:=by
 cases h with
 |dat _ h=>simpa[Rep]using h
theorem RelV.slice{t:Ty}{l:List t.I}{x:Value}(h:RelV P w lo μ S (.dat (.slice t) l) x):∃a cap,x=.slice a l.length cap/\Rep S w (.slice t) l [x]:=by
 cases h with
 |dat _ h=>have h0:=h;simp only[Rep]at h;obtain⟨a,cap,e,_⟩:=h;simp only[Np,ql]at e;exact⟨a,cap,e,h0⟩
theorem dQ(k:IntKind)(n:Int):RelV P w lo μ S (.dat (.int k) n) (.int k n):=.dat rfl rfl
theorem fD(b:Bool):RelV P w lo μ S (.dat .bool b) (.bool b):=.dat rfl rfl
theorem yY(s:List UInt8):RelV P w lo μ S (.dat .str s) (.string ⟨s.toArray⟩):=.dat rfl rfl
theorem tN(s:List UInt8):ByteArray.size ⟨s.toArray⟩=s.length:=by simp[ByteArray.size]
theorem Ii(a b:List UInt8):(⟨a.toArray⟩++⟨b.toArray⟩:ByteArray)=⟨(a++b).toArray⟩:=by apply ByteArray.ext;simp
theorem Ig(s:List UInt8):ByteArray.toList ⟨s.toArray⟩=s:=by rw[ByteArray.toList_eq]
theorem Dy(s:List UInt8)(i j:Nat)(hj:j<=s.length):ByteArray.extract ⟨s.toArray⟩ i j=⟨((s.take j).drop i).toArray⟩:=by
 apply ByteArray.ext;simp[ByteArray.data_extract,List.take_drop];have:i+(j-i)=max i j:=by omega
 rw[this];by_cases h:i<=j;·rw[show max i j=j by omega]
 ·rw[VW (by simp;omega),VW (by simp;omega)]
theorem xF{b:Bool}{q:QR}(h:(bq b).ev=some q):q=(.dat .bool b,[]):=by simpa[bq]using h.symm
theorem lP{k:IntKind}{n:Int}{q:QR}(h:(iq k n).ev=some q):q=(.dat (.int k) n,[]):=by simpa[iq]using h.symm
theorem cU{v:AV}{q:QR}(h:(vq v).ev=some q):q=(v,[]):=by simpa[vq]using h.symm
theorem ev_g{L:Type}{b:Bool}{x:Tr L}{q:L}(h:(Tr.g b x).ev=some q):b=true/\x.ev=some q:=by
 cases b;·simp at h
 ·simpa using h
theorem KX{t:TypeId}{k:IntKind}{a b:Int}:binOp .xor t (.int k a) (.int k b)=Op.intBits .xor k a b:=by simp[binOp]
theorem Ms{op:BinOp}{t:TypeId}{a b:ByteArray}:binOp op t (.string a) (.string b)=Op.stringOp op a b:=by cases op<;>rfl
theorem pC{ty:Nat}(h:P.underlying ty=some .bool)(a b:Bool):(Op.equal ty (.bool a) (.bool b)).run P w=.ok (a==b) w:=by
 have:∀d,(Op.equalIn (d+1) ty (.bool a) (.bool b)).run P w=.ok (a==b) w:=λd=>by rw[Op.equalIn.eq_def];simp[run_underlying h]
 exact this 9999
theorem OU(hT:aW P tt){op:BinOp}{ty:Nat}{x y:AV}{q:QR}(h:(aGr tt op ty x y).ev=some q){vx vy:Value}(hx:RelV P w lo μ S x vx)(hy:RelV P w lo μ S y vy)(X Y:Operand):
  q.2=[]/\∃v,(do eqGuard op ty X Y vx vy;binOp op ty vx vy:Sem Value).run P w=.ok v w/\RelV P w lo μ S q.1 v:=by
 unfold aGr at h;split at h
 ·have e1:=hx.int;have e2:=hy.int;subst e1;subst e2
  rename_i k a k' b
  cases op
  case shl=>
   obtain⟨h0,h⟩:=ev_g h;have:=lP h;subst this;refine⟨rfl,_,?_,dQ _ _⟩;have aa:¬(b<0):=by simpa using h0
   simp only[eqGuard_at_int,binOp_shl,Op.shift,aa,if_false,Sem.run_bind,Sem.run_pure,Result.andThen_ok]
  case shr=>
   obtain⟨h0,h⟩:=ev_g h;have:=lP h;subst this;refine⟨rfl,_,?_,dQ _ _⟩;have aa:¬(b<0):=by simpa using h0
   simp only[eqGuard_at_int,binOp_shr,Op.shift,aa,if_false,Sem.run_bind,Sem.run_pure,Result.andThen_ok]
  all_goals
   simp only[]at h;split at h
   next hk=>
    subst hk
    first
     |(have:=lP h;subst this;exact⟨rfl,_,by simp only[eqGuard_at_int,binOp_add,binOp_sub,binOp_mul,binOp_and,binOp_or,binOp_andNot,KX,Op.intArith,Op.intBits,Sem.run_bind,Sem.run_pure,Result.andThen_ok],dQ _ _⟩)
     |(have:=xF h;subst this;exact⟨rfl,_,by simp only[eqGuard_at_int,binOp_eql,binOp_neq,binOp_lss,binOp_leq,binOp_gtr,binOp_geq,Sem.run_bind,Sem.run_pure,Result.andThen_ok],fD _⟩)
     |(obtain⟨h0,h⟩:=ev_g h
       have:=lP h;subst this;have aa:¬(b=0):=by simpa using h0
       exact⟨rfl,_,by simp only[eqGuard_at_int,binOp_quo,binOp_rem,Op.intDiv,aa,if_false,Sem.run_bind,Sem.run_pure,Result.andThen_ok],dQ _ _⟩)
     |(simp at h)
   next=>simp at h
 ·have e1:=hx.bool;have e2:=hy.bool;subst e1;subst e2;split at h
  next hq=>
   have hd:=hT ty;rw[hq]at hd;obtain⟨d,ab,ad,_⟩:=hd;simp only[F5,xe]at ab;subst ab;cases op
   case eql=>have:=xF h;subst this;exact⟨rfl,_,by simp[eqGuard_at_bool,show∀x y,binOp .eql ty (.bool x) (.bool y)=(do pure (.bool ((<-Op.equal ty (.bool x) (.bool y)))))from λ_ _=>rfl,pC ad],fD _⟩
   case neq=>have:=xF h;subst this;exact⟨rfl,_,by simp[eqGuard_at_bool,show∀x y,binOp .neq ty (.bool x) (.bool y)=(do pure (.bool (!(<-Op.equal ty (.bool x) (.bool y)))))from λ_ _=>rfl,pC ad],fD _⟩
   all_goals simp at h
  next=>simp at h
 ·have e1:=hx.str;have e2:=hy.str;subst e1;subst e2
  rename_i a b
  cases op
  case add=>
   obtain⟨h0,h⟩:=ev_g h;have:=cU h;subst this;refine⟨rfl,_,?_,yY _⟩;have aa:¬((9223372036854775807:Int)<(List.length (α:=UInt8) a:Int)+(List.length (α:=UInt8) b:Int)):=by simp at h0;omega
   simp[eqGuard_at_string,Ms,Op.stringOp,tN,Ii,aa]
  all_goals
   first
    |(have:=xF h;subst this;exact⟨rfl,_,by simp only[eqGuard_at_string,Ms,Op.stringOp,Ig,Sem.run_bind,Sem.run_pure,Result.andThen_ok],fD _⟩)
    |(simp at h)
 ·simp at h
end
end
section
open Go.RowKit (Below)
section
variable {P:Program}{tt:Nat->TD}{w:World}{lo:Nat->Prop}{μ:Nat->Option MV}{S:Nat->Prop}
theorem eI:∀(t:Ty) (x:t.I),(fI t x).length=t.size
 | .pair a b,(x,y)=>by simp[fI,Ty.size,eI a x,eI b y]
 | .int _,_=>rfl
 | .bool,_=>rfl
 | .str,_=>rfl
 | .slice _,_=>rfl
theorem iO[Tabs]:∀{t:Ty} {x:t.I} {c:List Value},Rep S w t x c->∀j v,aQ (fI t x) j=some v->RelV P w lo μ S v (c.getD j undef)
 | .pair a b,(x,y),c,h,j,v,hv=>by
  obtain⟨c1,c2,rfl,h1,h2⟩:=h;have hl:=h1.len;have hf:=eI a x;simp only[fI,aA]at hv;by_cases hj:j<(fI a x).length;·rw[y7 hj]at hv;have:=iO h1 j v (by rw[aA];exact hv);rwa [xd,y7 (by omega),<-xd]
  ·rw[C6 (by omega)]at hv;have:=iO h2 _ v (by rw[aA];exact hv);rwa [xd,C6 (by omega),show j-c1.length=j-(fI a x).length by omega,<-xd]
 | .int _,_,c,h,j,v,hv=>by
  have h':=h;simp only[Rep]at h';subst h'
  match j,hv with
  |0,hv=>simp[fI,aQ]at hv;subst hv;exact .dat rfl h
 | .bool,_,c,h,j,v,hv=>by
  have h':=h;simp only[Rep]at h';subst h'
  match j,hv with
  |0,hv=>simp[fI,aQ]at hv;subst hv;exact .dat rfl h
 | .str,_,c,h,j,v,hv=>by
  have h':=h;simp only[Rep]at h';subst h'
  match j,hv with
  |0,hv=>simp[fI,aQ]at hv;subst hv;exact .dat rfl h
 | .slice _,_,c,h,j,v,hv=>by
  have h':=h;simp only[Rep]at h';obtain⟨a,cap,rfl,_⟩:=h'
  match j,hv with
  |0,hv=>simp[fI,aQ]at hv;subst hv;exact .dat rfl h
def wC(P:Program)(w:World)(lo:Nat->Prop)(μ:Nat->Option MV)(S:Nat->Prop)(cs:List AV)(b off:Nat):Prop:=
 ∀j v,aQ cs j=some v->∃x,w.cell? ⟨b,off+j,none⟩=some x/\RelV P w lo μ S v x
theorem rD(hT:aW P tt){ty:Nat}{sz:Nat×Bool}(ae:kJ tt ty=some sz){cs:List AV}{b off k:Nat}(hc:wC P w lo μ S cs b off){v:AV}(hv:cut cs k sz=some v):
  ∃x,(loadVar ty ⟨b,off+k,none⟩).run P w=.ok x w/\RelV P w lo μ S v x:=by
 obtain⟨h1,h2⟩:=lS (P:=P) (w:=w) hT ae;unfold cut at hv;split at hv
 next hb=>
  split at hv
  next hk=>
   simp at hv;subst hv;have hex:∃vs:List Value,vs.length=sz.1/\∀j,j<sz.1->∃y,vs[j]? =some y/\w.cell? ⟨b,off+k+j,none⟩=some y/\∀v,aQ cs (k+j)=some v->RelV P w lo μ S v y:=by
    have:∀n,n<=sz.1->∃vs:List Value,vs.length=n/\∀j,j<n->∃y,vs[j]? =some y/\w.cell? ⟨b,off+k+j,none⟩=some y/\∀v,aQ cs (k+j)=some v->RelV P w lo μ S v y:=by
     intro n;induction n with
     |zero=>intro _;exact⟨[],rfl,λj hj=>by omega⟩
     |succ n ih=>
      intro hn;obtain⟨vs,hl,ab⟩:=ih (by omega);obtain⟨v,hv⟩:∃v,aQ cs (k+n)=some v:=⟨cs[k+n]'(by omega),by rw[aA];simp⟩
      obtain⟨x,hx,hr⟩:=hc _ _ hv;refine⟨vs++ [x],by simp[hl],λj hj=>?_⟩;by_cases af:j<n;·obtain⟨y,a,b',c⟩:=ab j af;exact⟨y,by rw[y7 (by omega)];exact a,b',c⟩
      ·have:j=n:=by omega
       subst this;refine⟨x,by rw[C6 (by omega)];simp[hl],by rw[US];exact hx,λv' ad=>?_⟩;rw[hv]at ad;cases ad;exact hr
    exact this sz.1 (xm _)
   obtain⟨vs,hl,ab⟩:=hex;have aa:=run_loadCells_list (P:=P) w ⟨b,off+k,none⟩ vs (λj u hu=>by
    have hj:j<sz.1:=by rw[<-hl];exact(xq.1 hu).1
    obtain⟨y,a,b',_⟩:=ab j hj;rw[hu]at a;cases a;rw[Addr.add_lit];exact b')
   rw[hl]at aa;refine⟨.agg vs.toArray,by simp[loadVar,h1,hb,h2,aa],.agg (by simp[hl];omega) λj v hv=>?_⟩;rw[aA,Tq]at hv;split at hv
   next hj=>
    rw[yJ]at hv;obtain⟨y,a,_,c⟩:=ab j hj;have:=c v (by rw[aA];exact hv);simpa[a]using this
   next=>cases hv
  next=>cases hv
 next hb=>
  obtain⟨x,hx,hr⟩:=hc _ _ hv;exact⟨x,by simp[loadVar,h1,hb,run_load,hx],hr⟩
variable {X:Nat->Prop}{g:Nat->Option Ob}
theorem Mem.cells[Tabs](hm:Mem P X lo g μ w){o b k:Nat}{cs:List AV}{rs:List Nat}{aa:List Value}(hr:μ o=some ⟨.pointer (some ⟨b,0,none⟩),rs,aa⟩)(hg:g o=some (.cells cs)):wC P w lo μ (SS X μ) (cs.drop k) b k:=by
 obtain⟨x,hx,ab⟩:=hm.ob _ _ hr;rw[hg]at hx;cases hx;obtain⟨b',vs,e,he,_,hh,hs,hv⟩:=ab;simp only[MV.mk.injEq,Value.pointer.injEq,xe,Addr.mk.injEq,ql]at he;obtain⟨he,_⟩:=he;subst he;intro j v hj;rw[aA,yJ]at hj;have ad:k+j<vs.size:=by rw[hs];exact(xq.1 hj).1
 refine⟨vs.getD (k+j) undef,?_,hv (k+j) v (by rw[aA];exact hj)⟩;rw[cell_of_row w b (k+j) vs e (0,0) hh];simp[ad]
theorem RelV.cells{cs:List AV}{x:Value}(h:RelV P w lo μ S (.ptr cs) x):∃b k,x=.pointer (some ⟨b,k,none⟩)/\(S b\/lo b)/\wC P w lo μ S cs b k:=by
 cases h with
 |ptr xs _ hb hx h=>exact⟨_,_,rfl,hb,λj v hv=>⟨xs j,hx j v hv,h j v hv⟩⟩
theorem y8{cs:List AV}{k j:Nat}{sz:Nat×Bool}{v:AV}(h:cut cs (k+j) sz=some v):cut (cs.drop k) j sz=some v:=by
 unfold cut at*;split at h
 next hb=>
  split at h
  next hk=>rw[qi (by simp;omega)];simpa[xfw]using h
  next=>cases h
 next hb=>rw[aA]at*;rw[yJ];exact h
theorem Mem.elem[Tabs](hm:Mem P X lo g μ w){o b n c:Nat}{e:Nat}{t:Ty}{l:List t.I}{rs:List Nat}{ad:List Value}(hr:μ o=some ⟨.slice (some ⟨b,0,none⟩) n c,rs,ad⟩)(hg:g o=some (.arr e t l)){i:Nat}(hi:i<l.length):
  ∃cs,Rep (SS X μ) w t (l.getD i t.dflt) cs/\∀j u,cs[j]? =some u->w.cell? ⟨b,i*t.size+j,none⟩=some u:=by
 obtain⟨x,hx,ae⟩:=hm.ob _ _ hr;rw[hg]at hx;cases hx;obtain⟨⟨af,ah⟩,ai,xs,aa,ab⟩:=ae;have hx:l[i]? =some (l.getD i t.dflt):=by simp[xd,hi]
 obtain⟨cs,h1,h2⟩:=ab.at hx;refine⟨cs,h1,λj u hu=>?_⟩;have:=aa.cells (g:=b) rfl _ _ (h2 j u hu);rwa [Addr.add_lit,P1]at this
theorem Mem.rowAt[Tabs](hm:Mem P X lo g μ w){o i:Nat}{v x:Value}{rs:List Nat}{aa:List Value}{e e2:Nat}{t:Ty}{l:List (List t.I)}(hr:μ o=some ⟨v,rs,aa⟩)(hx:aa[i]? =some x)(hg:g o=some (.rows e e2 t l none)):
  i<l.length/\∃xs,w.ownsRow 0 e2 t.size x (l.getD i []).length xs/\RepL (SS X μ) w t (l.getD i []) xs:=by
 obtain⟨y,hy,ad⟩:=hm.ob _ _ hr;rw[hg]at hy;cases hy;obtain⟨ab,_⟩:=ad;have hlen:=ab.len;have hi:i<l.length:=by have:=(xq.1 hx).1;simp only at hlen;omega
 obtain⟨_,xs,k2,k3⟩:=ab.row i x (l.getD i []) (λj k hk=>by cases hk) hx (by simp[xd,hi]);exact⟨hi,xs,k2,k3⟩
theorem Mem.rowAtP[Tabs](hm:Mem P X lo g μ w){o i:Nat}{v x:Value}{rs:List Nat}{aa:List Value}{e e2:Nat}{t:Ty}{ix:List Nat}{l:List (List t.I)}(hr:μ o=some ⟨v,rs,aa⟩)(hx:aa[i]? =some x){k:Bool}(hg:g o=some (.perm k e e2 t ix l)):
  i<l.length/\(∀b,aD x=some b->b∈rs)/\∃xs,w.ownsRow 0 e2 t.size x (l.getD i []).length xs/\RepL (SS X μ) w t (l.getD i []) xs:=by
 obtain⟨y,hy,ab⟩:=hm.ob _ _ hr;rw[hg]at hy;cases hy;have hp:PermOK w lo (SS X μ) e e2 t ix l ⟨v,rs,aa⟩:=ab;have hlen:=hp.len;have hi:i<l.length:=by have:=(xq.1 hx).1;simp only at hlen;omega
 obtain⟨k1,xs,k2,k3⟩:=hp.row i x (l.getD i []) hx (by simp[xd,hi]);exact⟨hi,λb hb=>(k1 b hb).1,xs,k2,k3⟩
theorem BE[Tabs](hT:aW P tt)(hm:Mem P X lo g μ w){ty:Nat}{a:AV}{q:QR}(h:(pE tt g ty a).ev=some q){va:Value}(ha:RelV P w lo μ (SS X μ) a va):
  q.2=[]/\∃v,(Instr.loadAt ty va).run P w=.ok v w/\RelV P w lo μ (SS X μ) q.1 v:=by
 unfold pE at h;split at h
 ·rename_i sz o k aa
  split at h
  next cs hg=>
   rw[Tr.ev_bind,Tr.ev_opt]at h;cases hc:cut cs k sz with
   |none=>rw[hc]at h;cases h
   |some v=>
    rw[hc]at h;have:=cU h;subst this;cases ha with
    |box hμ=>obtain⟨x,h1,h2⟩:=rD hT aa (hm.cells hμ hg) (y8 (j:=0) hc);exact⟨rfl,x,by simpa[Instr.loadAt,Instr.sureAddr]using h1,h2⟩
  next=>cases h
 ·rename_i sz cs aa
  rw[Tr.ev_bind,Tr.ev_opt]at h;cases hc:cut cs 0 sz with
  |none=>rw[hc]at h;cases h
  |some v=>rw[hc]at h;have:=cU h;subst this;obtain⟨b,k,rfl,_,al⟩:=ha.cells;obtain⟨x,h1,h2⟩:=rD hT aa al hc;exact⟨rfl,x,by simpa[Instr.loadAt,Instr.sureAddr]using h1,h2⟩
 ·rename_i sz o i s aa
  split at h
  next e t l hg=>
   split at h
   next hz=>
    obtain⟨hi,h⟩:=ev_g h;rw[Tr.ev_bind,Tr.ev_opt]at h;cases hc:cut (fI t (l.getD i t.dflt)) 0 sz with
    |none=>rw[hc]at h;cases h
    |some v=>
     rw[hc]at h;have:=cU h;subst this;cases ha with
     |elt hμ=>
      obtain⟨cs,h1,h2⟩:=hm.elem hμ hg (by simpa using hi);have ae:wC P w lo μ (SS X μ) (fI t (l.getD i t.dflt)) _ (i*s):=λj v hv=>by
       have hj:j<cs.length:=by rw[h1.len,<-eI t (l.getD i t.dflt)];rw[aA]at hv;exact(xq.1 hv).1
       refine⟨cs.getD j undef,?_,iO h1 j v hv⟩;rw[hz.2];exact h2 j _ (by simp[xd,hj])
      obtain⟨x,h3,h4⟩:=rD hT aa ae hc;exact⟨rfl,x,by simpa[Instr.loadAt,Instr.sureAddr]using h3,h4⟩
   next=>cases h
  next e e2 t l hg=>
   split at h
   next hz=>
    obtain⟨hi,h⟩:=ev_g h;have:=cU h;subst this;have af:i<l.length:=by simpa using hi
    cases ha with
    | @elt _ _ _ _ b n c _ ab hμ=>
     obtain⟨y,hy,ah⟩:=hm.ob _ _ hμ;rw[hg]at hy;cases hy;obtain⟨ai,_⟩:=ah;have hlen:=ai.len;simp only at hlen;obtain⟨x,hx⟩:∃x,ab[i]? =some x:=⟨ab[i]'(by omega),by simp⟩
     obtain⟨q1,q2,q3⟩:=hz;obtain⟨k1,_⟩:=lS (P:=P) (w:=w) hT aa;have ad:w.cell? ⟨b,i*s,none⟩=some x:=by have:=ai.own.cells (g:=b) rfl i x hx;rw[Addr.add_lit,P1]at this;rw[q3,uE];exact this
     rw[q2]at k1;obtain⟨a0,m0,c0,rfl⟩:=ai.slc x (xz hx);exact⟨rfl,.slice a0 m0 c0,by simp[Instr.loadAt,Instr.sureAddr,loadVar,k1,run_load,ad],.row hμ hx⟩
   next=>cases h
  next kp e e2 t ix l hg=>
   split at h
   next hz=>
    obtain⟨hi,h⟩:=ev_g h;have:=cU h;subst this;simp only[xf,qe]at hi;obtain⟨af,ao⟩:=hi;cases ha with
    | @elt _ _ _ _ b n c rs ab hμ=>
     obtain⟨y,hy,ah⟩:=hm.ob _ _ hμ;rw[hg]at hy;cases hy;have hp:PermOK w lo (SS X μ) e e2 t ix l ⟨.slice (some ⟨b,0,none⟩) n c,rs,ab⟩:=ah;have hlen:=hp.len;simp only at hlen;obtain⟨x,hx⟩:∃x,ab[ix.getD i 0]? =some x:=⟨ab[ix.getD i 0]'(by omega),by simp⟩
     obtain⟨q1,q2,q3⟩:=hz;obtain⟨k1,_⟩:=lS (P:=P) (w:=w) hT aa;have ad:w.cell? ⟨b,i*s,none⟩=some x:=by have:=hp.own.cells (g:=b) rfl i x (by rw[oE,xh af];rw[xd,xh af,xT]at hx;simp[xd,hx]);rw[Addr.add_lit,P1]at this;rw[q3,uE];exact this
     rw[q2]at k1;obtain⟨a0,m0,c0,rfl⟩:=hp.slc x (xz hx);exact⟨rfl,.slice a0 m0 c0,by simp[Instr.loadAt,Instr.sureAddr,loadVar,k1,run_load,ad],.row hμ hx⟩
   next=>cases h
  next=>cases h
 ·rename_i sz o i s k aa
  split at h
  next e t l hg=>
   split at h
   next hz=>
    obtain⟨hi,h⟩:=ev_g h;rw[Tr.ev_bind,Tr.ev_opt]at h;cases hc:cut (fI t (l.getD i t.dflt)) k sz with
    |none=>rw[hc]at h;cases h
    |some v=>
     rw[hc]at h;have:=cU h;subst this;cases ha with
     | @fld _ _ _ _ _ b n c _ _ hμ=>
      obtain⟨cs,h1,h2⟩:=hm.elem hμ hg (by simpa using hi);have ae:wC P w lo μ (SS X μ) ((fI t (l.getD i t.dflt)).drop k) b (i*s+k):=λj v hv=>by
       rw[aA,yJ]at hv;have hj:k+j<cs.length:=by rw[h1.len,<-eI t (l.getD i t.dflt)];exact(xq.1 hv).1
       refine⟨cs.getD (k+j) undef,?_,iO h1 (k+j) v (by rw[aA];exact hv)⟩;rw[hz,US];exact h2 (k+j) _ (by simp[xd,hj])
      obtain⟨x,h3,h4⟩:=rD hT aa ae (y8 (j:=0) hc);exact⟨rfl,x,by simpa[Instr.loadAt,Instr.sureAddr]using h3,h4⟩
   next=>cases h
  next=>cases h
 ·rename_i sz o i n s aa
  split at h
  next e e2 t l hg=>
   split at h
   next hz=>
    obtain⟨hi,h⟩:=ev_g h;rw[Tr.ev_bind,Tr.ev_opt]at h;cases hc:cut (fI t ((l.getD i []).getD n t.dflt)) 0 sz with
    |none=>rw[hc]at h;cases h
    |some v=>
     rw[hc]at h;have:=cU h;subst this;cases ha with
     | @relt _ _ _ _ _ v0 rs ab b m c hμ hx=>
      obtain⟨ar,xs,aj,ak⟩:=hm.rowAt hμ hx hg;have hn:n<(l.getD i []).length:=by simpa using hi
      obtain⟨cs,h1,h2⟩:=ak.at (i:=n) (x:=(l.getD i []).getD n t.dflt) (by rw[xd (l:=l.getD i [])];simp only[xh hn,xT]);have ae:wC P w lo μ (SS X μ) (fI t ((l.getD i []).getD n t.dflt)) b (n*s):=λj v hv=>by
       have hj:j<cs.length:=by rw[h1.len,<-eI t ((l.getD i []).getD n t.dflt)];rw[aA]at hv;exact(xq.1 hv).1
       refine⟨cs.getD j undef,?_,iO h1 j v hv⟩;rw[hz.2];have:=aj.cells (g:=b) rfl _ _ (h2 j (cs.getD j undef) (by simp[xd,hj]));rwa [Addr.add_lit,P1]at this
      obtain⟨x,h3,h4⟩:=rD hT aa ae hc;exact⟨rfl,x,by simpa[Instr.loadAt,Instr.sureAddr]using h3,h4⟩
   next=>cases h
  next=>cases h
 ·cases h
theorem nT{n:Int}{len:Nat}(h:aC n len=true):0<=n/\n<len/\n.toNat<len:=by simp only[aC,xf,qe]at h;omega
theorem iR[Tabs]{T e sz:Nat}(hu:P.underlying T=some (.slice e)){i:TypeInfo}(he:P.info? e=some i)(hs:i.size=sz){b off len cap:Nat}{k:IntKind}{n:Int}(h:aC n len=true):
  (Instr.indexAt T (.slice (some ⟨b,off,none⟩) len cap) (.int k n)).run P w=.ok (.pointer (some ⟨b,off+n.toNat*sz,none⟩)) w:=by
 obtain⟨h1,h2,_⟩:=nT h;simp[Instr.indexAt,asIntOf,run_underlying hu,h1,h2,sizeOf,typeInfo,he,hs,Addr.add_lit]
theorem AS[Tabs]{t:Ty}{x:t.I}{cs:List Value}{b k:Nat}(hr:Rep S w t x cs)(hb:S b)(hc:∀j u,cs[j]? =some u->w.cell? ⟨b,k+j,none⟩=some u):RelV P w lo μ S (.ptr (fI t x)) (.pointer (some ⟨b,k,none⟩)):=by
 refine .ptr (λj=>cs.getD j undef) ?_ (.inl hb) (λj v hv=>?_) (iO hr);·intro e;have:=eI t x;have:=t.size_pos;rw[e]at*;simp at*;omega
 ·rw[aA]at hv;have hj:=(xq.1 hv).1;rw[eI,<-hr.len]at hj;exact hc j _ (by simp[xd,hj])
theorem Pe[Tabs](hT:aW P tt)(hm:Mem P X lo g μ w){ty:Nat}{x i:AV}{q:QR}(h:(kS tt g ty x i).ev=some q){vx vi:Value}(hx:RelV P w lo μ (SS X μ) x vx)(hi:RelV P w lo μ (SS X μ) i vi):
  q.2=[]/\∃v,(Instr.indexAt ty vx vi).run P w=.ok v w/\RelV P w lo μ (SS X μ) q.1 v:=by
 have hd:=hT ty;unfold kS at h;split at h
 ·rename_i t l k n
  have ei:=hi.int;subst ei;split at h
  next e t' ai hq=>
   rw[hq]at hd;obtain⟨hu,⟨inf,z,he,hs,_⟩,_⟩:=hd;split at h
   next ab=>
    obtain⟨aa,h⟩:=ev_g h;have:=cU h;subst this;obtain⟨h0,h1,h2⟩:=nT aa;obtain⟨a,cap,rfl,ad⟩:=hx.slice;simp only[Rep]at ad;obtain⟨a',ae,ea,_,al⟩:=ad;simp only[Np,Value.slice.injEq,ql]at ea;obtain⟨rfl,_,rfl⟩:=ea;obtain⟨b,off,c,rfl,hS,hr,hc⟩:=al n.toNat (l.getD n.toNat t.dflt) (by simp[xd,h2]);refine⟨rfl,_,iR hu he hs aa,AS hr hS λj u hj=>?_⟩;have:=hc j u hj;rwa [<-US,ab]at this
   next=>cases h
  next=>cases h
 ·rename_i o k n
  have ei:=hi.int;subst ei;split at h
  next e t' ai e' t l hq hg=>
   rw[hq]at hd;obtain⟨hu,⟨inf,z,he,hs,_⟩,_⟩:=hd;split at h
   next ab=>
    obtain⟨aa,h⟩:=ev_g h;have:=cU h;subst this;obtain⟨h0,h1,h2⟩:=nT aa;cases hx with
    | @arr _ _ a len cap _ _ hμ=>
     obtain⟨y,hy,af⟩:=hm.ob _ _ hμ;rw[hg]at hy;cases hy;obtain⟨⟨ar,au⟩,av,xs,ah,ad⟩:=af;rcases ah.2 with⟨e1,e2⟩|⟨b,ae,cur,ev,_⟩
     ·omega
     ·simp only[Value.slice.injEq]at ev;obtain⟨rfl,rfl,rfl⟩:=ev;refine⟨rfl,_,iR hu he (hs.trans ab.symm) aa,?_⟩;rw[P1];exact .elt hμ
   next=>cases h
  next e t' ai e' aj ao l hh hq hg=>
   rw[hq]at hd;obtain⟨hu,⟨inf,z,he,hs,_⟩,_⟩:=hd;split at h
   next ab=>
    obtain⟨aa,h⟩:=ev_g h;have:=cU h;subst this;obtain⟨h0,h1,h2⟩:=nT aa;cases hx with
    | @arr _ _ a len cap _ _ hμ=>
     obtain⟨y,hy,af⟩:=hm.ob _ _ hμ;rw[hg]at hy;cases hy;obtain⟨hr,_⟩:=af;rcases hr.own.2 with⟨e1,e2⟩|⟨b,ae,cur,ev,_⟩
     ·omega
     ·simp only[Value.slice.injEq]at ev;obtain⟨rfl,rfl,rfl⟩:=ev;refine⟨rfl,_,iR hu he (hs.trans ab) aa,?_⟩;rw[P1];exact .elt hμ
   next=>cases h
  next e t' ai kp e' aj ao ix l hq hg=>
   rw[hq]at hd;obtain⟨hu,⟨inf,z,he,hs,_⟩,_⟩:=hd;split at h
   next ab=>
    obtain⟨aa,h⟩:=ev_g h;have:=cU h;subst this;obtain⟨h0,h1,h2⟩:=nT aa;cases hx with
    | @arr _ _ a len cap _ _ hμ=>
     obtain⟨y,hy,af⟩:=hm.ob _ _ hμ;rw[hg]at hy;cases hy;rcases(PermOK.own af).2 with⟨e1,e2⟩|⟨b,ae,cur,ev,_⟩
     ·omega
     ·simp only[Value.slice.injEq]at ev;obtain⟨rfl,rfl,rfl⟩:=ev;refine⟨rfl,_,iR hu he (hs.trans ab) aa,?_⟩;rw[P1];exact .elt hμ
   next=>cases h
  next=>cases h
 ·rename_i o j k n
  have ei:=hi.int;subst ei;split at h
  next e t' ai e' aj t l hq hg=>
   rw[hq]at hd;obtain⟨hu,⟨inf,z,he,hs,_⟩,_⟩:=hd;split at h
   next ab=>
    obtain⟨aa,h⟩:=ev_g h;have:=cU h;subst this;obtain⟨h0,h1,h2⟩:=nT aa;cases hx with
    | @row _ _ _ v0 rs aw a0 m0 c0 hμ ak=>
     obtain⟨ay,xs,ah,ad⟩:=hm.rowAt hμ ak hg;rcases ah.2 with⟨e1,e2⟩|⟨b,ae,cur,ev,_⟩
     ·omega
     ·simp only[Value.slice.injEq]at ev;obtain⟨rfl,rfl,rfl⟩:=ev;refine⟨rfl,_,iR hu he (hs.trans ab.symm) aa,?_⟩;rw[P1];exact .relt hμ ak
   next=>cases h
  next=>cases h
 ·cases h
end
end
section
open Go.RowKit (Below)
section
variable {P:Program}{tt:Nat->TD}{w:World}{lo:Nat->Prop}{μ:Nat->Option MV}{S:Nat->Prop}{X:Nat->Prop}{g:Nat->Option Ob}
theorem aCq(s:List UInt8)(i:Nat)(h:i<s.length):(⟨s.toArray⟩:ByteArray)[i]? =some (s.getD i 0):=by
 have hs:i<ByteArray.size ⟨s.toArray⟩:=by rw[tN];exact h
 rw[getElem?_pos _ i hs];simp[ByteArray.getElem_eq_getElem_data,xd,h]
theorem Gu[Tabs](hT:aW P tt){ty:Nat}{x i:AV}{q:QR}(h:(X6 tt ty x i).ev=some q){vx vi:Value}(hx:RelV P w lo μ S x vx)(hi:RelV P w lo μ S i vi):
  q.2=[]/\∃v,(Instr.index ty vx vi).run P w=.ok v w/\RelV P w lo μ S q.1 v:=by
 have hd:=hT ty;unfold X6 at h;split at h
 ·rename_i s k n
  have ei:=hi.int;have ex:=hx.str;subst ei;subst ex;split at h
  next hq=>
   rw[hq]at hd;obtain⟨d,aa,hu,_⟩:=hd;simp only[F5,xe]at aa;subst aa;obtain⟨ab,h⟩:=ev_g h;have:=lP h;subst this;obtain⟨h0,h1,h2⟩:=nT ab;refine⟨rfl,_,?_,dQ _ _⟩;simp[Instr.index,asIntOf,run_underlying hu,h0,aCq _ _ h2]
  next=>cases h
 ·cases h
theorem OR[Tabs](hT:aW P tt)(hm:Mem P X lo g μ w){ty rt:Nat}{x:AV}{q:QR}(h:(n8 tt g ty x).ev=some q){vx:Value}(hx:RelV P w lo μ (SS X μ) x vx):
  q.2=[]/\∃v,(Builtin.len_ #[ty] rt #[vx]).run P w=.ok v w/\RelV P w lo μ (SS X μ) q.1 v:=by
 have hd:=hT ty;unfold n8 at h;split at h
 ·split at h
  next hq=>
   rw[hq]at hd;have:=lP h;subst this;obtain⟨a,cap,rfl,_⟩:=hx.slice;exact⟨rfl,_,by simp[Builtin.len_,run_underlying hd.1,goInt],dQ _ _⟩
  next=>cases h
 ·split at h
  next hq=>
   rw[hq]at hd;have:=lP h;subst this;cases hx;exact⟨rfl,_,by simp[Builtin.len_,run_underlying hd.1,goInt],dQ _ _⟩
  next=>cases h
 ·split at h
  next e t l hq hg=>
   rw[hq]at hd;have:=lP h;subst this;cases hx with
   |arr hμ=>
    obtain⟨y,hy,ab⟩:=hm.ob _ _ hμ;rw[hg]at hy;cases hy;obtain⟨⟨ah,ai⟩,aj,xs,aa,af⟩:=ab;refine⟨rfl,_,?_,dQ _ _⟩;rcases aa.2 with⟨e1,e2⟩|⟨b,ad,cur,ev,_⟩
    ·cases e1;simp[Builtin.len_,run_underlying hd.1,goInt,e2]
    ·cases ev;simp[Builtin.len_,run_underlying hd.1,goInt]
  next l hh hq hg=>
   rw[hq]at hd;have:=lP h;subst this;cases hx with
   |arr hμ=>
    obtain⟨y,hy,ab⟩:=hm.ob _ _ hμ;rw[hg]at hy;cases hy;obtain⟨hr,_⟩:=ab;have aa:=hr.own;refine⟨rfl,_,?_,dQ _ _⟩;rcases aa.2 with⟨e1,e2⟩|⟨b,ad,cur,ev,_⟩
    ·cases e1;simp[Builtin.len_,run_underlying hd.1,goInt,e2]
    ·cases ev;simp[Builtin.len_,run_underlying hd.1,goInt]
  next ix hl hq hg=>
   rw[hq]at hd;have:=lP h;subst this;cases hx with
   |arr hμ=>
    obtain⟨y,hy,ab⟩:=hm.ob _ _ hμ;rw[hg]at hy;cases hy;have aa:=PermOK.own ab;refine⟨rfl,_,?_,dQ _ _⟩;rcases aa.2 with⟨e1,e2⟩|⟨b,ad,cur,ev,_⟩
    ·cases e1;simp[Builtin.len_,run_underlying hd.1,goInt,e2]
    ·cases ev;simp[Builtin.len_,run_underlying hd.1,goInt]
  next=>cases h
 ·split at h
  next hq=>
   rw[hq]at hd;obtain⟨d,ae,hu,_⟩:=hd;simp only[F5,xe]at ae;subst ae;have:=lP h;subst this;have ex:=hx.str;subst ex;exact⟨rfl,_,by simp[Builtin.len_,run_underlying hu,goInt,tN],dQ _ _⟩
  next=>cases h
 ·cases h
inductive ORel(P:Program)(w:World)(lo:Nat->Prop)(μ:Nat->Option MV)(S:Nat->Prop):Option AV->Option Value->Prop
 |none:ORel P w lo μ S none none
 |some {x y} (h:RelV P w lo μ S x y):ORel P w lo μ S (some x) (some y)
theorem Bg{len cap:Nat}(aa:len<=cap)(k:IntKind)(h:Int)(h1:0<=h)(h2:h<=len)(sl:Bool):
  0<=h.toNat/\h.toNat<=len/\(Instr.sliceBounds sl len cap none (some (.int k h)) none).run P w=.ok (0,h.toNat,cap) w:=by
 refine⟨by omega,by omega,?_⟩;have h5:h<=(cap:Int):=by omega
 simp[Instr.sliceBounds,Instr.sliceBound,asIntOf,h1,h5]
theorem TM{len cap:Nat}(k:IntKind)(l:Int)(h1:0<=l)(h2:l<=len)(sl:Bool):
  l.toNat<=len/\len<=len/\(Instr.sliceBounds sl len cap (some (.int k l)) none none).run P w=.ok (l.toNat,len,cap) w:=by
 refine⟨by omega,by omega,?_⟩;simp[Instr.sliceBounds,Instr.sliceBound,asIntOf,h1,h2]
theorem QP{len cap:Nat}(aa:len<=cap)(k k':IntKind)(l h:Int)(h1:0<=l)(h2:l<=h)(h3:h<=len)(sl:Bool):
  l.toNat<=h.toNat/\h.toNat<=len/\(Instr.sliceBounds sl len cap (some (.int k l)) (some (.int k' h)) none).run P w=.ok (l.toNat,h.toNat,cap) w:=by
 refine⟨by omega,by omega,?_⟩;have h4:0<=h:=by omega
 have h5:h<=(cap:Int):=by omega
 have h6:l<=(h.toNat:Int):=by omega
 simp only[Instr.sliceBounds,Instr.sliceBound,asIntOf,Sem.run_bind,Sem.run_pure,Result.andThen_ok,Sem.run_ite,h1,h4,h5,h6,and_self,if_true]
theorem d8[Tabs]{len cap:Nat}(aa:len<=cap){lo' ab:Option AV}{i j:Nat}(h:zF len lo' ab=some (true,i,j)){vl vh:Option Value}
  (hl:ORel P w lo μ S lo' vl) (hh:ORel P w lo μ S ab vh) (sl:Bool):
  i<=j/\j<=len/\(Instr.sliceBounds sl len cap vl vh none).run P w=.ok (i,j,cap) w:=by
 unfold zF at h;split at h;·cases hl;cases hh;simp only[xe,Wb,true_and]at h;obtain⟨rfl,rfl⟩:=h;simp[Instr.sliceBounds]
 ·cases hl;cases hh with|some hh=>
  have:=hh.int;subst this;simp only[xe,Wb,xf,qe]at h;obtain⟨⟨h1,h2⟩,rfl,rfl⟩:=h;exact Bg aa _ _ h1 h2 sl
 ·cases hh;cases hl with|some hl=>
  have:=hl.int;subst this;simp only[xe,Wb,xf,qe]at h;obtain⟨⟨h1,h2⟩,rfl,rfl⟩:=h;exact TM _ _ h1 h2 sl
 ·cases hl with|some hl=>
  cases hh with|some hh=>
  have:=hl.int;subst this;have:=hh.int;subst this;simp only[xe,Wb,xf,qe]at h;obtain⟨⟨⟨h1,h2⟩,h3⟩,rfl,rfl⟩:=h;exact QP aa _ _ _ _ h1 h2 h3 sl
 ·cases h
theorem Ud[Tabs](hT:aW P tt){ty:Nat}{x:AV}{lo' ad:Option AV}{q:QR}(h:(Iu tt ty x lo' ad).ev=some q){vx:Value}{vl vh:Option Value}(hx:RelV P w lo μ S x vx)
  (hl:ORel P w lo μ S lo' vl) (hh:ORel P w lo μ S ad vh):
  q.2=[]/\∃v,(Instr.sliceAt ty vx vl vh none).run P w=.ok v w/\RelV P w lo μ S q.1 v:=by
 have hd:=hT ty;unfold Iu at h;split at h
 ·rename_i t l e t' al hq
  rw[hq]at hd;obtain⟨hu,⟨inf,z,he,hs,_⟩,_⟩:=hd;split at h
  next ai=>
   split at h
   next b i j hb=>
    obtain⟨ab,h⟩:=ev_g h;subst ab;have:=cU h;subst this;obtain⟨a,cap,rfl,aa⟩:=hx.slice;have ae:l.length<=cap:=by have h0:=aa;simp only[Rep]at h0;obtain⟨a',af,ea,hle,_⟩:=h0;simp only[Np,Value.slice.injEq,ql]at ea;rw[ea.2.2];exact hle
    obtain⟨h1,h2,h3⟩:=d8 ae hb hl hh true;refine⟨rfl,.slice (if cap=i then a else a.map (·.add (i*t'.size))) (j-i) (cap-i),?_,?_⟩;·simp[Instr.sliceAt,Instr.slice,run_underlying hu,h3,sizeOf,typeInfo,he,hs]
    ·refine .dat rfl ?_;simp only[Rep]at aa⊢;obtain⟨a',af,ea,_,aj⟩:=aa;simp only[Np,Value.slice.injEq,ql]at ea;obtain⟨rfl,_,rfl⟩:=ea;refine⟨(if cap=i then a else a.map (·.add (i*t'.size))),cap-i,by rw[tH,xw,Wo h2],by rw[tH,xw,Wo h2];omega,λk y hy=>?_⟩;rw[yJ,Tq]at hy;split at hy
     next hk=>
      obtain⟨b,off,c,rfl,hS,hr,hc⟩:=aj (i+k) y hy;have ak:¬(cap=i):=by omega
      refine⟨b,off+i*t'.size,c,by simp[ak,Addr.add_lit],hS,hr,λm u hu=>?_⟩;have:=hc m u hu;rwa [show off+((i+k)*t.size+m)=off+i*t'.size+(k*t.size+m) by rw[ai,C8];omega]at this
     next=>cases hy
   next=>cases h
  next=>cases h
 ·rename_i s hq
  rw[hq]at hd;obtain⟨d,ah,hu,_⟩:=hd;simp only[F5,xe]at ah;subst ah;split at h
  next b i j hb=>
   obtain⟨ab,h⟩:=ev_g h;subst ab;have:=cU h;subst this;have ex:=hx.str;subst ex;obtain⟨h1,h2,h3⟩:=d8 (xm _) hb hl hh false;refine⟨rfl,_,?_,yY _⟩;simp[Instr.sliceAt,Instr.slice,run_underlying hu,tN,h3,Dy _ _ _ h2]
  next=>cases h
 ·cases h
end
end
section
open Go.RowKit (Below)
def Nx[Tabs](P:Program)(X:Nat->Prop)(lo:Nat->Prop)(g:Nat->Option Ob)(μ:Nat->Option MV)(w:World)(q:QR)(x:Value)(w':World):Prop:=
 ∃μ',(∀o mv,μ o=some mv->μ' o=some mv)/\(∀o mv,μ' o=some mv->μ o=some mv\/((∃p∈q.2,p.1=o)/\∀b,b∈mv.rs->w.heap.size<=b))/\Below w.heap.size w w'/\
  (∀g',(∀p∈q.2,g' p.1=some p.2)->(∀o mv,μ o=some mv->g' o=g o)->Mem P X lo g' μ' w')/\RelV P w' lo μ' (SS X μ') q.1 x
def QOK(P:Program)(o:Oper)(a:Act)(w:World)(X7:Value->World->Prop):Prop:=
 ∀(K:Act->World->Prop) (Q:Exit->Act->World->Prop),(∀x w',X7 x w'->K (a.put o.dst x) w')->o.wp P a w K Q
section
variable {P:Program}{tt:Nat->TD}{w:World}{lo:Nat->Prop}{μ:Nat->Option MV}{S:Nat->Prop}{X:Nat->Prop}{g:Nat->Option Ob}{o:Oper}{a:Act}
theorem Mem.other[Tabs]{g':Nat->Option Ob}(hm:Mem P X lo g μ w)(h:∀o mv,μ o=some mv->g' o=g o):Mem P X lo g' μ w:=
 ⟨hm.hX,hm.hlo,λo mv ho=>by obtain⟨x,hx,aa⟩:=hm.ob o mv ho;exact⟨x,by rw[h o mv ho];exact hx,aa⟩,hm.dis,hm.tab⟩
theorem Nx.pure[Tabs](hm:Mem P X lo g μ w){r:AV}{x:Value}(hr:RelV P w lo μ (SS X μ) r x):Nx P X lo g μ w (r,[]) x w:=
 ⟨μ,λ_ _ h=>h,λ_ _ h=>.inl h,Below.refl _ _,λ_ _ h=>hm.other h,hr⟩
theorem QOK.val{X7:Value->World->Prop}{x:Value}{w':World}(h:(execOp a.eval o).run P w=.ok (.value x) w')(hp:X7 x w'):QOK P o a w X7:=by intro K Q hK;unfold Oper.wp;rw[h];exact hK x w' hp
theorem Mem.lt[Tabs](hm:Mem P X lo g μ w){o:Nat}{mv:MV}(h:μ o=some mv){b:Nat}(hb:b∈mv.rs):¬lo b/\b<w.heap.size:=by
 obtain⟨x,_,aa⟩:=hm.ob o mv h;cases x with
 |arr e t l=>
  obtain⟨⟨ai,af⟩,ah,xs,ab,_⟩:=aa;have ae:aD mv.v=some b:=by rw[af]at hb;simpa using hb
  refine⟨ah b ae,(ab.lt b ?_).2⟩;cases hv:mv.v with
  |slice ad n c=>rw[hv]at ae;cases ad<;>simp[aD]at ae;simp[Value.ownBlock,ae]
  |_=>rw[hv]at ab;rcases ab.2 with⟨e,_⟩|⟨_,_,_,e,_⟩<;>cases e
 |rows e e2 t l h=>exact aa.1.low b hb
 |perm k e e2 t ix l=>exact aa.low b hb
 |spent=>exact aa.low b hb
 |cells cs=>obtain⟨b',vs,e,rfl,hl,hh,_⟩:=aa;simp at hb;subst hb;exact⟨hl,(xba.1 hh).1⟩
theorem ObOK.stepH{w':World}{μ':Nat->Option MV}{S':Nat->Prop}{x:Ob}{mv:MV}(h:ObOK P w lo μ S x mv)(hlo:(∀b,lo b->b<w.heap.size))(hμ:∀o mv,μ o=some mv->∃rs hs,μ' o=some ⟨mv.v,rs,hs⟩/\Ext mv.hs hs)
  (hw:∀b,b<w.heap.size->S b->S' b/\w'.heap[b]? =w.heap[b]?) (hl:∀b,lo b->w'.heap[b]? =w.heap[b]?) (aa:∀b,b∈mv.rs->w'.heap[b]? =w.heap[b]?):ObOK P w' lo μ' S' x mv:=by
 cases x with
 |arr e t l=>
  obtain⟨⟨af,ad⟩,ah,xs,ab,ae⟩:=h;refine⟨⟨af,ad⟩,ah,xs,⟨ab.1,?_⟩,ae.step hw⟩;rcases ab.2 with h|⟨gb,cap,cur,e1,h1,h2,h3⟩
  ·exact .inl h
  ·exact .inr ⟨gb,cap,cur,e1,h1,by rw[aa gb (by rw[ad,e1];simp[aD])];exact h2,h3⟩
 |rows e e2 t l hh=>obtain⟨hr,hk⟩:=h;refine⟨hr.step hw aa λb hb=>(hr.low b hb).1,λi d hd=>?_⟩;obtain⟨x,rs,hs,k1,k2⟩:=hk i d hd;obtain⟨ai,aj,k3,_⟩:=hμ d _ k2;exact⟨x,ai,aj,k1,k3⟩
 |perm k e e2 t ix l=>exact PermOK.step h hw aa λb hb=>(PermOK.low h b hb).1
 |spent=>exact SpentOK.step h aa λb hb=>(SpentOK.low h b hb).1
 |cells cs=>obtain⟨b,vs,e,rfl,h1,h2,h3,h4⟩:=h;exact⟨b,vs,e,rfl,h1,by rw[aa b (by simp)];exact h2,h3,λj v hv=>(h4 j v hv).stepH hμ hlo hw hl⟩
theorem ObOK.step[Tabs]{w':World}{μ':Nat->Option MV}{S':Nat->Prop}{x:Ob}{mv:MV}(h:ObOK P w lo μ S x mv)(hlo:∀b,lo b->b<w.heap.size)(hμ:∀o mv,μ o=some mv->μ' o=some mv)
  (hw:∀b,b<w.heap.size->S b->S' b/\w'.heap[b]? =w.heap[b]?) (hl:∀b,lo b->w'.heap[b]? =w.heap[b]?) (aa:∀b,b∈mv.rs->w'.heap[b]? =w.heap[b]?):ObOK P w' lo μ' S' x mv:=
 h.stepH hlo (λo mv ho=>⟨mv.rs,mv.hs,hμ o mv ho,Ext.refl _⟩) hw hl aa
theorem Mem.grow{w':World}(hb:Below w.heap.size w w'){μ':Nat->Option MV}
  (aa:∀o mv,μ' o=some mv->μ o=some mv\/∀b,b∈mv.rs->w.heap.size<=b):∀b,b<w.heap.size->SS X μ b->SS X μ' b/\w'.heap[b]? =w.heap[b]? :=
 λb ab hS=>⟨⟨hS.1,λo mv h e=>(aa o mv h).elim (λh=>hS.2 o mv h e) (λh=>by have:=h b e;omega)⟩,hb.block b ab⟩
theorem Nx.made[Tabs](hm:Mem P X lo g μ w){w':World}(hb:Below w.heap.size w w'){d:Nat}{ob:Ob}{mv:MV}{x:Value}{r:AV}(hd:μ d=none)(aa:mv.rs=[w.heap.size])
  (af:∀μ',(∀o mv,μ o=some mv->μ' o=some mv)->(∀b,b<w.heap.size->SS X μ b->SS X μ' b)->ObOK P w' lo μ' (SS X μ') ob mv)
  (hr:∀μ',μ' d=some mv->RelV P w' lo μ' (SS X μ') r x):Nx P X lo g μ w (r,[(d,ob)]) x w':=by
 have hμ:∀o mv',μ o=some mv'->(λo=>if o=d then some mv else μ o) o=some mv':=λo mv' h=>by
  have:o≠d:=λe=>by rw[e,hd]at h;cases h
  simp[this,h]
 have ae:∀o mv',(λo=>if o=d then some mv else μ o) o=some mv'->μ o=some mv'\/∀b,b∈mv'.rs->w.heap.size<=b:=λo mv' h=>by
  by_cases e:o=d;·simp[e]at h;subst h;exact .inr λb ab=>by rw[aa]at ab;simp at ab;omega
  ·simp[e]at h;exact .inl h
 have hw:=Mem.grow (X:=X) hb ae;refine⟨λo=>if o=d then some mv else μ o,hμ,λo mv' h=>?_,hb,λg' h1 h2=>⟨hm.hX,λb ab=>yF (hm.hlo b ab) hb.size,λo mv' h=>?_,λo p ah ai b h3 h4 h5 h6=>?_,hm.tab.step λb ab=>hb.block b (hm.hlo b ab)⟩,hr _ (by simp)⟩
 ·by_cases e:o=d;·refine .inr ⟨⟨(d,ob),by simp,e.symm⟩,λb ab=>?_⟩;simp[e]at h;subst h;rw[aa]at ab;simp at ab;omega
  ·simp[e]at h;exact .inl h
 ·by_cases e:o=d;·simp[e]at h;subst h;refine⟨ob,by rw[e];exact h1 (d,ob) (by simp),af _ hμ λb ad hS=>(hw b ad hS).1⟩
  ·simp[e]at h;obtain⟨y,hy,aj⟩:=hm.ob o mv' h;exact⟨y,by rw[h2 o mv' h];exact hy,aj.step hm.hlo hμ hw (λb ad=>hb.block b (hm.hlo b ad)) λb ak=>hb.block b (hm.lt h ak).2⟩
 ·by_cases e1:o=d<;>by_cases e2:p=d;·rw[e1,e2]
  ·simp[e1]at h3;simp[e2]at h4;subst h3;rw[aa]at h5;simp at h5;have:=(hm.lt h4 h6).2;omega
  ·simp[e1]at h3;simp[e2]at h4;subst h4;rw[aa]at h6;simp at h6;have:=(hm.lt h3 h5).2;omega
  ·simp[e1]at h3;simp[e2]at h4;exact hm.dis o p ah ai b h3 h4 h5 h6
theorem lO{v:AV}{x:Value}(h:RelV P w lo μ S v x){cs:List AV}(hc:cellsOf v=some cs):x.cells.size=cs.length/\∀j v',aQ cs j=some v'->RelV P w lo μ S v' (x.cells.getD j undef):=by
 unfold cellsOf at hc;split at hc
 ·cases hc;cases h with|agg hl h=>exact⟨hl.symm,h⟩
 ·cases hc
 ·cases hc
 ·cases hc
 ·cases hc;have hx:x.cells= #[x]:=by
   rename_i h1 h2 aa h3
   cases h with
   |undef=>exact absurd rfl h2
   |skip=>exact absurd rfl aa
   |tup=>exact absurd rfl (h3 _)
   |agg=>exact absurd rfl (h1 _)
   |nilsl=>rfl
   |arr=>rfl
   |box=>rfl
   |elt=>rfl
   |fld=>rfl
   |row=>rfl
   |relt=>rfl
   |suf=>rfl
   |pre=>rfl
   |ptr=>rfl
   |fn=>rfl
   |bnd=>rfl
   |clo h=>obtain⟨_,f,fs,xs,rfl,_⟩:=h;rfl
   | @dat _ t v _ ht hr=>
    cases t with
    |int k=>simp[Rep]at hr;subst hr;rfl
    |bool=>simp[Rep]at hr;subst hr;rfl
    |str=>simp[Rep]at hr;subst hr;rfl
    |slice t=>simp only[Rep]at hr;obtain⟨a,cap,e,_⟩:=hr;simp at e;subst e;rfl
    |pair a b=>have:=a.size_pos;have:=b.size_pos;simp only[Ty.size]at ht;omega
  rw[hx];exact⟨rfl,λj v' hv=>by match j,hv with|0,hv=>simp[aQ]at hv;subst hv;exact h⟩
theorem Xm[Tabs](hm:Mem P X lo g μ w){d e:Nat}(hd:μ d=none){cs:List AV}{vs:Array Value}(hl:vs.size=cs.length)(hv:∀j v,aQ cs j=some v->RelV P w lo μ (SS X μ) v (vs.getD j undef)):
  Nx P X lo g μ w (.box d 0,[(d,.cells cs)]) (.pointer (some ⟨w.heap.size,0,none⟩)) (w.alloc (.cells vs e)):=by
 have hb:Below w.heap.size w (w.alloc (.cells vs e)):=(Below.refl _ _).alloc (xm _) _;refine Nx.made hm hb (mv:=⟨.pointer (some ⟨w.heap.size,0,none⟩),[w.heap.size],[]⟩) hd rfl (λμ' hμ hS=>?_) λμ' h=>.box h;exact⟨w.heap.size,vs,e,rfl,(λh=>xi _ (hm.hlo _ h)),heap_alloc_new w _,hl,λj v hj=>(hv j v hj).step hμ hm.hlo (λb aa ab=>⟨hS b aa ab,hb.block b aa⟩) λb aa=>hb.block b (hm.hlo b aa)⟩
theorem kM:∀{t:Ty} {cs:List AV} {x:t.I},gH t cs=some x->∀{vs:List Value},vs.length=cs.length->(∀j v,aQ cs j=some v->RelV P w lo μ S v (vs.getD j undef))->Rep S w t x vs
 | .pair a b,cs,x,h,vs,hl,hv=>by
  simp only[gH]at h;split at h
  next y z hy hz=>
   cases h;have h1:∀{t:Ty} {cs:List AV} {x:t.I},gH t cs=some x->cs.length=t.size:=by
    intro t;induction t with
    |pair a b aa ab=>
     intro cs x h;simp only[gH]at h;split at h
     next y z hy hz=>
      have e1:=aa hy;have e2:=ab hz;have:=b.size_pos;simp only[xw,tH]at e1 e2;simp only[Ty.size];omega
     next=>cases h
    |_=>
     intro cs x h;simp only[gH]at h;split at h;·rfl
     ·cases h
   have e1:=h1 hy;simp only[xw]at e1;refine⟨vs.take a.size,vs.drop a.size,(xej _ _).symm,kM hy (by simp[hl]) λj v hj=>?_,kM hz (by simp[hl]) λj v hj=>?_⟩
   ·rw[aA,Tq]at hj;split at hj
    next ad=>
     have:=hv j v (by rw[aA];exact hj);rwa [xd,Tq,qi ad,<-xd]
    next=>cases hj
   ·rw[aA,yJ]at hj;have:=hv _ v (by rw[aA];exact hj);rwa [xd,yJ,<-xd]
  next=>cases h
 | .int k,cs,x,h,vs,hl,hv=>by
  simp only[gH]at h;split at h
  next v=>
   match vs,hl with
   | [y],_=>exact nB h (hv 0 v rfl)
  next=>cases h
 | .bool,cs,x,h,vs,hl,hv=>by
  simp only[gH]at h;split at h
  next v=>
   match vs,hl with
   | [y],_=>exact nB h (hv 0 v rfl)
  next=>cases h
 | .str,cs,x,h,vs,hl,hv=>by
  simp only[gH]at h;split at h
  next v=>
   match vs,hl with
   | [y],_=>exact nB h (hv 0 v rfl)
  next=>cases h
 | .slice _,cs,x,h,vs,hl,hv=>by
  simp only[gH]at h;split at h
  next v=>
   match vs,hl with
   | [y],_=>exact nB h (hv 0 v rfl)
  next=>cases h
where
 nB {t:Ty} {v:AV} {x:t.I} (h:Wd t v=some x) {y:Value} (hr:RelV P w lo μ S v y):Rep S w t x [y]:=by
  unfold Wd at h;split at h
  ·obtain⟨e,rfl⟩:=Ty.cast_spec h;subst e;cases hr with|dat _ hr=>exact hr
  ·split at h;·cases h;cases hr;exact Rep.nil
   ·cases h
  ·cases h
theorem Fo[Tabs]{t:Ty}{v:AV}{x:t.I}(h:NL t v=some x){y:Value}(hr:RelV P w lo μ S v y):Rep S w t x y.cells.toList:=by
 unfold NL at h;cases hc:cellsOf v with
 |none=>rw[hc]at h;cases h
 |some cs=>rw[hc]at h;obtain⟨h1,h2⟩:=lO hr hc;exact kM h (by simpa using h1) (by simpa using h2)
end
end
section
open Go.RowKit (Below)
section
variable {P:Program}{tt:Nat->TD}{w:World}{lo:Nat->Prop}{μ:Nat->Option MV}{S:Nat->Prop}{X:Nat->Prop}{g:Nat->Option Ob}{o:Oper}{a:Act}
theorem u5{α:Type}:∀(l:List α) (i:Nat) (x:α),zY l i x=l.set i x
 | [],_,_=>by simp[zY]
 |_::_,0,_=>by simp[zY]
 |_::r,i+1,x=>by simp[zY,u5 r i x]
def AllR(P:Program)(w:World)(lo:Nat->Prop)(μ:Nat->Option MV)(S:Nat->Prop)(cs:List AV)(vs:Array Value):Prop:=
 vs.size=cs.length/\∀j v,aQ cs j=some v->RelV P w lo μ S v (vs.getD j undef)
theorem AllR.set[Tabs]{cs:List AV}{vs:Array Value}(h:AllR P w lo μ S cs vs){k:Nat}{v:AV}{x:Value}(hr:RelV P w lo μ S v x):AllR P w lo μ S (zY cs k v) (vs.setIfInBounds k x):=by
 refine⟨by simp[u5,h.1],λj u hj=>?_⟩;rw[u5,aA,VA]at hj;split at hj
 next e=>
  subst e;split at hj
  next ab=>
   cases hj;have aa:k<vs.size:=by rw[h.1];exact ab
   simpa[aa]using hr
  next=>cases hj
 next ad=>
  have:=h.2 j u (by rw[aA];exact hj);simpa[xdh ad]using this
theorem AllR.puts[Tabs]:∀(us:List AV) (k:Nat) (cs:List AV) (vs:Array Value) (xs:List Value),AllR P w lo μ S cs vs->xs.length=us.length->(∀j v,aQ us j=some v->RelV P w lo μ S v (xs.getD j undef))->
  ∀m,AllR P w lo μ S (putCells cs (k+m) us) ((xs.zipIdx m).foldl (λcs (c,j)=>cs.setIfInBounds (k+j) c) vs)
 | [],k,cs,vs,xs,h,hl,_,m=>by have:xs=[]:=C9 (by simpa using hl);subst this;exact h
 |u::us,k,cs,vs,[],h,hl,_,m=>by simp at hl
 |u::us,k,cs,vs,x::xs,h,hl,hx,m=>by simp only[putCells,List.zipIdx_cons,Z5];exact AllR.puts us k _ _ xs (h.set (hx 0 u rfl)) (by simpa using hl) (λj v hv=>hx (j+1) v hv) (m+1)
theorem C0[Tabs]{place:Nat->Option (Nat×Nat)}:∀{ps:List (Nat×AV)} {cs aa:List AV},vC place ps cs=some aa->∀{vs:Array Value},AllR P w lo μ S cs vs->∀{qs:List (Nat×Value)},
  qs.map (·.1)=ps.map (·.1)->(∀(j:Nat) (p:Nat×AV),ps[j]? =some p->∃q:Nat×Value,qs[j]? =some q/\RelV P w lo μ S p.2 q.2)->∃ab,Instr.fill place vs qs=some ab/\AllR P w lo μ S aa ab
 | [],cs,aa,h,vs,hv,qs,hq,_=>by
  simp[vC]at h;subst h;have:qs=[]:=by simpa using hq
  subst this;exact⟨vs,rfl,hv⟩
 |(i,v)::r,cs,aa,h,vs,hv,[],hq,_=>by simp at hq
 |(i,v)::r,cs,aa,h,vs,hv,(i',x)::qs,hq,hr=>by
  simp only[M8,Np]at hq;obtain⟨e,hq⟩:=hq;subst e;simp only[vC]at h;split at h
  next off n us hp hc=>
   split at h
   next hn=>
    obtain⟨q,ad,ae⟩:=hr 0 (i',v) rfl;simp at ad;subst ad;obtain⟨h1,h2⟩:=lO ae hc;have h3:=AllR.puts us off cs vs x.cells.toList hv (by simpa using h1) (by simpa using h2) 0;obtain⟨ab,h4,h5⟩:=C0 h h3 hq (λj p hj=>hr (j+1) p (by simpa using hj));refine⟨ab,?_,h5⟩;have hz:∀(A:Array Value) (B:Array Value),A.zipIdx.foldl (λcs (c,j)=>cs.setIfInBounds (off+j) c) B=(A.toList.zipIdx 0).foldl (λcs (c,j)=>cs.setIfInBounds (off+j) c) B:=by intro A B;rw[<-Array.foldl_toList];simp
    simp only[Instr.fill,hp];rw[qh (by simp[h1,hn.1];have:=hv.1;omega),hz];exact h4
   next=>cases h
  next=>cases h
theorem kZ{T:Nat}{t:Ty}(h:tA P T t):∃z,(zeroValue T).run P w=.ok z w/\(sizeOf T).run P w=.ok t.size w/\vV t z.cells.toList=true:=by obtain⟨i,z,h1,h2,h3,h4⟩:=h;exact⟨z,by simp[zeroValue,typeInfo,h1,h3],by simp[sizeOf,typeInfo,h1,h2],h4⟩
theorem f7{t:Ty}{z:Value}(h:vV t z.cells.toList=true):AllR P w lo μ S (eF t) z.cells:=by obtain⟨h1,h2⟩:=Y8 (P:=P) (S:=S) (w:=w) (lo:=lo) (μ:=μ) h;exact⟨by simpa using h1.symm,λj v hv=>by simpa using h2 j v hv⟩
theorem N6[Tabs]:∀{fields:List Go.Field} {fs:List (Nat×Ty)} {o:Nat},oX P fields fs o->∃ps:List (Nat×Nat),(fields.mapM (λf=>Prod.mk f.offset<$>sizeOf f.type)).run P w=.ok ps w/\∀i,ps[i]? =pT fs o i
 | [],[],o,_=>⟨[],by simp,λi=>by simp[pT]⟩
 |f::fields,(ty,t)::fs,o,h=>by
  obtain⟨h1,h2,h3,h4⟩:=h;obtain⟨ps,h5,h6⟩:=N6 h4;obtain⟨z,_,h7,_⟩:=kZ (w:=w) h3;refine⟨(o,t.size)::ps,by simp[xfx,h1,h2,h7,h5],λi=>?_⟩;cases i with
  |zero=>simp[pT]
  |succ i=>simp[pT,h6]
 | [],_::_,o,h=>h.elim
 |_::_,[],o,h=>h.elim
theorem Pw[Tabs](hT:aW P tt){ty:Nat}{ps:List (Nat×AV)}{q:QR}(h:(Kn tt ty ps).ev=some q){qs:Array (Nat×Value)}(hq:qs.toList.map (·.1)=ps.map (·.1))
  (hr:∀(j:Nat) (p:Nat×AV),ps[j]? =some p->∃q:Nat×Value,qs.toList[j]? =some q/\RelV P w lo μ S p.2 q.2):
  q.2=[]/\∃v,(Instr.build ty qs).run P w=.ok v w/\RelV P w lo μ S q.1 v:=by
 have hd:=hT ty;unfold Kn at h;split at h
 ·rename_i t fs he
  rw[he]at hd;obtain⟨fields,hu,hf,hs,hi⟩:=hd;rw[Tr.ev_bind,Tr.ev_opt]at h;cases hc:vC (pT fs 0) ps (eF t)with
  |none=>rw[hc]at h;cases h
  |some cs=>
   rw[hc]at h;have:=cU h;subst this;obtain⟨z,ab,ah,ad⟩:=kZ (w:=w) hi;obtain⟨pl,ae,af⟩:=N6 (w:=w) hf;obtain⟨vs,h1,h2⟩:=C0 hc (f7 ad) hq hr;refine⟨rfl,.agg vs,?_,.agg h2.1.symm h2.2⟩;have aa:(λi=>pl[i]?)=pT fs 0:=funext λi=>af i;have hm:(fields.mapM (λf=>Prod.mk f.offset<$>sizeOf f.type)).run P w=.ok pl.toArray w:=by rw[Array.mapM_eq_mapM_toList];simp[ae]
   simp[Instr.build,ab,run_underlying hu,hm,aa,h1]
 ·cases h
theorem H1[Tabs]{t:Ty}:∀{l:List t.I} {cs:List Value},RepL S w t l cs->(List.flatMap (fI t) l).length=cs.length/\∀j v,aQ (List.flatMap (fI t) l) j=some v->RelV P w lo μ S v (cs.getD j undef)
 | [],_,h=>by simp only[RepL]at h;subst h;exact⟨rfl,λj v hv=>by simp[aQ]at hv⟩
 |x::l,_,⟨c,r,e,h1,h2⟩=>by
  subst e;obtain⟨h3,h4⟩:=H1 h2;have hl:=h1.len;have hf:=eI t x;refine⟨by simp only[xel,xj];omega,λj v hv=>?_⟩;rw[xel,aA]at hv;by_cases hj:j<(fI t x).length;·rw[y7 hj]at hv;have:=iO (P:=P) (lo:=lo) (μ:=μ) h1 j v (by rw[aA];exact hv);rwa [xd,y7 (by omega),<-xd]
  ·rw[C6 (by omega)]at hv;have:=h4 _ v (by rw[aA];exact hv);rwa [xd,C6 (by omega),show j-c.length=j-(fI t x).length by omega,<-xd]
theorem A1[Tabs]{t:Ty}:∀{n:Nat} {cs:List AV} {l:List t.I},oV t n cs=some l->∀{vs:List Value},vs.length=cs.length->(∀j v,aQ cs j=some v->RelV P w lo μ S v (vs.getD j undef))->l.length=n/\RepL S w t l vs
 |0,[],l,h,vs,hl,_=>by simp[oV]at h;subst h;exact⟨rfl,C9 (by simpa using hl)⟩
 |0,_::_,l,h,vs,hl,_=>by simp[oV]at h
 |n+1,cs,l,h,vs,hl,hv=>by
  simp only[oV]at h;split at h
  next x r hx hr=>
   cases h;obtain⟨h1,h2⟩:=A1 (vs:=vs.drop t.size) hr (by simp[hl]) λj v hj=>by rw[aA,yJ]at hj;have:=hv _ v (by rw[aA];exact hj);rwa [xd,yJ,<-xd]
   refine⟨by simp[h1],vs.take t.size,vs.drop t.size,(xej _ _).symm,kM (P:=P) (lo:=lo) (μ:=μ) hx (by simp[hl]) λj v hj=>?_,h2⟩;rw[aA,Tq]at hj;split at hj
   next aa=>
    have:=hv j v (by rw[aA];exact hj);rwa [xd,Tq,qi aa,<-xd]
   next=>cases hj
  next=>cases h
theorem Eb{t:Ty}{z:Array Value}(hz:vV t z.toList=true):∀(n m:Nat),n<=m->RepL S w t (List.replicate n t.dflt) ((madeCells z (m*t.size)).toList.take (n*t.size)):=by
 have hl:z.size=t.size:=by simpa using eU hz
 have hp:=t.size_pos;have key:∀(n i m:Nat),i+n<=m->RepL S w t (List.replicate n t.dflt) (((madeCells z (m*t.size)).toList.drop (i*t.size)).take (n*t.size)):=by
  intro n;induction n with
  |zero=>intro i m _;simp[RepL]
  |succ n ih=>
   intro i m ad;have h1:=ih (i+1) m (by omega);refine⟨z.toList,_,?_,qX hz,h1⟩;have hle:(i+1)*t.size<=m*t.size:=JI _ (by omega);apply xem;intro j;rw[Tq];by_cases hj:j<t.size
   ·rw[qi (by rw[C8];omega),yJ,y7 (by simpa[hl]using hj)];have:i*t.size+j<m*t.size:=by rw[C8]at hle;omega
    have ab:(i*t.size+j) % t.size=j:=by rw[xgu,Nat.mul_add_mod,xgo hj]
    simp[madeCells,this,hl,ab,hj]
   ·rw[C6 (by simp[hl];omega)];simp only[JP,hl];rw[Tq,yJ,yJ];rw[show i*t.size+j=(i+1)*t.size+(j-t.size) by rw[C8];omega];by_cases aa:j<(n+1)*t.size;·rw[qi aa,qi (by rw[C8]at aa;omega)]
    ·rw[qh aa,qh (by rw[C8]at aa;omega)]
 intro n m h;have:=key n 0 m (by omega);simpa using this
theorem Ak[Tabs](hm:Mem P X lo g μ w){d e:Nat}(hd:μ d=none){t:Ty}{l:List t.I}{cur:Array Value}{cap:Nat}(hs:cur.size=cap*t.size)(hle:l.length<=cap)(aa:cap<=maxLen)
  (hr:RepL (SS X μ) w t l (cur.toList.take (l.length*t.size))):
  Nx P X lo g μ w (.arr d,[(d,.arr e t l)]) (.slice (some ⟨w.heap.size,0,none⟩) l.length cap) (w.alloc (.cells cur e)):=by
 have hb:Below w.heap.size w (w.alloc (.cells cur e)):=(Below.refl _ _).alloc (xm _) _;refine Nx.made hm hb (mv:=⟨.slice (some ⟨w.heap.size,0,none⟩) l.length cap,[w.heap.size],[]⟩) hd rfl (λμ' hμ hS=>?_) λμ' h=>.arr h;have hlen:(cur.toList.take (l.length*t.size)).length=l.length*t.size:=by
  have h1:=JI t.size hle;have h2:cur.toList.length=cap*t.size:=by simpa using hs
  rw[xw,h2];exact Wo h1
 exact⟨⟨rfl,rfl⟩,λb ab h=>by simp[aD]at ab;exact xi _ (ab▸hm.hlo b h),_,⟨hlen,.inr ⟨w.heap.size,cap,cur,rfl,V1 _,heap_alloc_new w _,hle,aa,hs,rfl⟩⟩,hr.step λb ad ae=>⟨hS b ad ae,hb.block b ad⟩⟩
theorem dE{L M:Type}{x:Option L}{k:L->Tr M}{q:M}(h:((Tr.opt x).bind k).ev=some q):∃y,x=some y/\(k y).ev=some q:=by
 rw[Tr.ev_bind,Tr.ev_opt]at h;cases x with
 |none=>cases h
 |some y=>exact⟨y,rfl,h⟩
theorem nW[Tabs](hT:aW P tt){ty n e b:Nat}{t:Ty}(he:tt ty=.sl e t b)(hn:n<=4096/\t.size<=4096){ps:List (Nat×AV)}{cs:List AV}{l:List t.I}(hc:vC (λi=>some (i*t.size,t.size)) ps (List.flatMap (fI t) (List.replicate n t.dflt))=some cs)(hl:oV t n cs=some l)
  {qs:Array (Nat×Value)} (hq:qs.toList.map (·.1)=ps.map (·.1)) (hr:∀(j:Nat) (p:Nat×AV),ps[j]? =some p->∃q:Nat×Value,qs.toList[j]? =some q/\RelV P w lo μ (SS X μ) p.2 q.2):
  ∃vs:Array Value,(Instr.buildSlice ty n qs).run P w=.ok (.slice (some ⟨w.heap.size,0,none⟩) l.length n) (w.alloc (.cells vs e))/\vs.size=n*t.size/\l.length=n/\n<=maxLen/\RepL (SS X μ) w t l (vs.toList.take (l.length*t.size)):=by
 have ad:=hT ty;rw[he]at ad;obtain⟨hu,⟨i,z,h1,h2,h3,h4,h5⟩,_⟩:=ad;have ab:=Eb (S:=SS X μ) (w:=w) h5 n n (xm _);rw[Gg (by simp[madeCells])]at ab;obtain⟨f1,f2⟩:=H1 (P:=P) (lo:=lo) (μ:=μ) ab;obtain⟨vs,h6,h7⟩:=C0 hc (vs:=madeCells z.cells (n*t.size)) ⟨by simpa using f1.symm,λj v hv=>by simpa using f2 j v hv⟩ hq hr;obtain⟨h8,h9⟩:=A1 (vs:=vs.toList) hl (by simpa using h7.1) (by simpa using h7.2);have ae:vs.size=n*t.size:=by have:=h9.len;rw[h8]at this;simpa using this
 refine⟨vs,?_,ae,h8,by have:=hn.1;unfold maxLen;omega,by rw[h8,Gg (by simp[ae])];exact h9⟩;have hle:¬(16777216<n*t.size):=by have:=xfe hn.1 hn.2;omega
 have aa:Instr.fill (λi=>some (i*t.size,t.size)) (Array.map (λx=>z.cells[x % z.cells.size]!) (Array.range (n*t.size))) qs.toList=some vs:=h6;by_cases h0:n*t.size=0
 ·have af:n=0:=by
   have:=t.size_pos;rcases Nat.mul_eq_zero.1 h0 with h|h;·exact h
   ·omega
  subst af;simp only[xfd]at aa;have:Array.map (λx=>z.cells[x % z.cells.size]!) (Array.range 0)=(#[]:Array Value):=by simp[Array.range_zero']
  rw[this]at aa;simp[Instr.buildSlice,run_underlying hu,sizeOf,typeInfo,h1,h2,aa,newRow,h8,Array.range_zero']
 ·simp[Instr.buildSlice,run_underlying hu,sizeOf,typeInfo,zeroValue,h1,h2,h4,hle,h0,aa,newRow,h8]
theorem a8[Tabs](hT:aW P tt)(hm:Mem P X lo g μ w){d ty n:Nat}(hd:μ d=none){ps:List (Nat×AV)}{q:QR}(h:(mA tt d ty n ps).ev=some q){qs:Array (Nat×Value)}(hq:qs.toList.map (·.1)=ps.map (·.1))
  (hr:∀(j:Nat) (p:Nat×AV),ps[j]? =some p->∃q:Nat×Value,qs.toList[j]? =some q/\RelV P w lo μ (SS X μ) p.2 q.2):
  ∃v w',(Instr.buildSlice ty n qs).run P w=.ok v w'/\Nx P X lo g μ w q v w':=by
 unfold mA at h;split at h
 ·rename_i e t b he
  split at h
  next hn=>
   obtain⟨cs,hc,h⟩:=dE h;obtain⟨l,hl,h⟩:=dE h;simp only[qq,xe]at h;subst h;obtain⟨vs,k1,k2,k3,k4,k5⟩:=nW hT he hn hc hl hq hr;exact⟨_,_,k1,Ak hm hd (cap:=n) (cur:=vs) (e:=e) k2 (by omega) k4 k5⟩
  next=>cases h
 ·cases h
theorem FO[Tabs](hm:Mem P X lo g μ w){e:Nat}{t:Ty}{l:List t.I}{cur:Array Value}{cap:Nat}(hs:cur.size=cap*t.size)(hle:l.length<=cap)(ab:cap<=maxLen)
  (hr:RepL (SS X μ) w t l (cur.toList.take (l.length*t.size))):
  Nx P X lo g μ w (.dat (.slice t) l,[]) (.slice (some ⟨w.heap.size,0,none⟩) l.length cap) (w.alloc (.cells cur e)):=by
 have hb:Below w.heap.size w (w.alloc (.cells cur e)):=(Below.refl _ _).alloc (xm _) _;have hw:=Mem.grow (X:=X) (μ:=μ) hb (μ':=μ) λ_ _ h=>.inl h;refine⟨μ,λ_ _ h=>h,λ_ _ h=>.inl h,hb,λg' _ h2=>?_,?_⟩;·exact⟨hm.hX,λb aa=>yF (hm.hlo b aa) hb.size,λo mv ho=>by obtain⟨z,hz,ae⟩:=hm.ob o mv ho;exact⟨z,by rw[h2 o mv ho];exact hz,ae.step hm.hlo (λ_ _ h=>h) hw (λb af=>hb.block b (hm.hlo b af)) λb ah=>hb.block b (hm.lt ho ah).2⟩,hm.dis,hm.tab.step λb aa=>hb.block b (hm.hlo b aa)⟩
 ·have hlen:(cur.toList.take (l.length*t.size)).length=l.length*t.size:=by
   have h1:=JI t.size hle;have h2:cur.toList.length=cap*t.size:=by simpa using hs
   rw[xw,h2];exact Wo h1
  have ad:(w.alloc (.cells cur e)).ownsRow 0 e t.size (.slice (some ⟨w.heap.size,0,none⟩) l.length cap) l.length (cur.toList.take (l.length*t.size)):=⟨hlen,.inr ⟨w.heap.size,cap,cur,rfl,V1 _,heap_alloc_new w _,hle,ab,hs,rfl⟩⟩
  refine .dat rfl (Rep.slice_of hle ⟨λhx=>xi _ (hm.hlo _ (hm.hX _ hx)),λo mv ho ai=>xi _ (hm.lt ho ai).2⟩ (hr.step hw) λj u hu=>?_);have:=ad.cells (g:=w.heap.size) rfl j u hu;rw[Addr.add_lit]at this;exact this
theorem Iv[Tabs](hT:aW P tt)(hm:Mem P X lo g μ w){ty n:Nat}{ps:List (Nat×AV)}{v:AV}(h:(qU tt ty n ps).ev=some v){qs:Array (Nat×Value)}(hq:qs.toList.map (·.1)=ps.map (·.1))
  (hr:∀(j:Nat) (p:Nat×AV),ps[j]? =some p->∃q:Nat×Value,qs.toList[j]? =some q/\RelV P w lo μ (SS X μ) p.2 q.2):
  ∃x w',(Instr.buildSlice ty n qs).run P w=.ok x w'/\Nx P X lo g μ w (v,[]) x w':=by
 unfold qU at h;split at h
 ·rename_i e t b he
  split at h
  next hn=>
   obtain⟨cs,hc,h⟩:=dE h;obtain⟨l,hl,h⟩:=dE h;simp only[qq,xe]at h;subst h;obtain⟨vs,k1,k2,k3,k4,k5⟩:=nW hT he hn hc hl hq hr;exact⟨_,_,k1,FO hm (cap:=n) (cur:=vs) (e:=e) k2 (by omega) k4 k5⟩
  next=>cases h
 ·cases h
theorem Zd[Tabs](hT:aW P tt)(hm:Mem P X lo g μ w){d ty:Nat}(hd:μ d=none){x y:AV}{q:QR}(h:(Mv tt d ty x y).ev=some q){vx vy:Value}(hx:RelV P w lo μ (SS X μ) x vx)(hy:RelV P w lo μ (SS X μ) y vy):
  ∃v w',(Instr.makeSlice ty vx vy).run P w=.ok v w'/\Nx P X lo g μ w q v w':=by
 have ab:=hT ty;unfold Mv at h;split at h
 ·rename_i k l k' c
  split at h
  next e t b he=>
   rw[he]at ab;obtain⟨hu,⟨i,z,h1,h2,h3,h4,h5⟩,_⟩:=ab;obtain⟨hb,h⟩:=ev_g h;have e1:=hx.int;have e2:=hy.int;subst e1;subst e2;split at h
   next hb0=>
    simp only[qq,xe]at h;subst h;simp only[xf,qe]at hb;exact mk hm hd hu h1 h2 h3 h4 h5 l c hb.1.1 hb.1.2 hb.2 hb0
   next=>cases h
  next=>cases h
 ·cases h
where
 mk {d ty e:Nat} {t:Ty} {b:Nat} {i:TypeInfo} {z:Value} {k k':IntKind} (hm:Mem P X lo g μ w) (hd:μ d=none) (hu:P.underlying ty=some (.slice e)) (h1:P.info? e=some i) (h2:i.size=t.size) (h3:i.bytes=b) (h4:i.zero=some z) (h5:vV t z.cells.toList=true)
   (l c:Int) (hl:0<=l) (ad:l<=c) (ae:(b:Int)*c<=281474976710656) (hb0:0<b):
   ∃v w',(Instr.makeSlice ty (.int k l) (.int k' c)).run P w=.ok v w'/\Nx P X lo g μ w (.arr d,[(d,.arr e t (List.replicate l.toNat t.dflt))]) v w':=by
  have af:c<=281474976710656:=by have h0:(1:Int)*c<=(b:Int)*c:=xdj (by omega) (by omega);omega
  have aa:=run_make (P:=P) w ty e i z hu h1 h4 k k' l c hl ad (by rw[h3];exact ae) (by omega);rw[h2]at aa;refine⟨_,_,aa,?_⟩;have:=Ak hm hd (l:=List.replicate l.toNat t.dflt) (cap:=c.toNat) (cur:=madeCells z.cells (c.toNat*t.size)) (e:=e) (size_madeCells _ _) (by simp;omega) (by unfold maxLen;omega)
   (by simp only[Rn];exact Eb h5 _ _ (by omega))
  simpa using this
end
end
section
open Go.RowKit (Below)
def aGH(P:Program)(w:World)(lo:Nat->Prop)(μ:Nat->Option MV)(S:Nat->Prop)(vs:List AV)(x:Value):Prop:=
 (∃v,vs=[v]/\RelV P w lo μ S v x)\/(vs.length≠1/\RelV P w lo μ S (.tup vs) x)
def eE(w:World)(μi:Nat->Option MV)(b:Nat):Prop:=b<w.heap.size/\∀o mv,μi o=some mv->b∉mv.rs
def lX[Tabs](P:Program)(X:Nat->Prop)(lo:Nat->Prop)(w w':World)(μi:Nat->Option MV)(res:List AV×List (Nat×Ob))(x:Value):Prop:=
 Kept lo w w'/\∃μ,Mem P X lo (aM res.2) μ w'/\(∀o mv,μ o=some mv->∃p∈res.2,p.1=o)/\(∀p∈res.2,64<=p.1->∃mv rs hs,μi p.1=some mv/\μ p.1=some ⟨mv.v,rs,hs⟩)/\aGH P w' lo μ (SS X μ) res.1 x
def AZ[Tabs](P:Program)(f:Nat)(args:List AV)(ins:List (Nat×Ob))(res:List AV×List (Nat×Ob)):Prop:=
 ∀(w:World) (X:Nat->Prop) (μi:Nat->Option MV) (vals:Array Value),(∀b,X b->eE w μi b)->Mem P X (eE w μi) (aM ins) μi w->(∀p∈ins,∃mv,μi p.1=some mv)->args.length=vals.size->
  (∀j v,aQ args j=some v->RelV P w (eE w μi) μi (SS X μi) v (vals.getD j undef))->CallR P f vals w (λx w'=>lX P X (eE w μi) w w' μi res x)
def jG[Tabs](P:Program)(E:Env):Prop:=∀f args ins cr,E.call f args ins=some cr->∀r,cr.x=some r->AZ P f args ins (cr.emb r)
section
variable {P:Program}{tt:Nat->TD}{w:World}{lo:Nat->Prop}{μ:Nat->Option MV}{S:Nat->Prop}{X:Nat->Prop}{g:Nat->Option Ob}{o:Oper}{a:Act}{E:Env}
theorem Rep.plain{S':Nat->Prop}{w':World}:∀{t:Ty} {v:t.I} {cs:List Value},lU t=false->Rep S w t v cs->Rep S' w' t v cs
 | .int _,_,_,_,h=>h
 | .bool,_,_,_,h=>h
 | .str,_,_,_,h=>h
 | .slice _,_,_,d,_=>by simp[lU]at d
 | .pair a b,v,cs,d,h=>by simp only[lU,xcy]at d;obtain⟨c1,c2,e,h1,h2⟩:=h;exact⟨c1,c2,e,h1.plain d.1,h2.plain d.2⟩
theorem RepL.plain[Tabs]{S':Nat->Prop}{w':World}{t:Ty}(d:lU t=false):∀{l:List t.I} {cs:List Value},RepL S w t l cs->RepL S' w' t l cs
 | [],_,h=>h
 |_::_,_,⟨c,r,e,h1,h2⟩=>⟨c,r,e,h1.plain d,h2.plain d⟩
theorem Mem.asDat[Tabs](hm:Mem P X lo g μ w){o:Nat}{mv:MV}{e:Nat}{t:Ty}{l:List t.I}(h:μ o=some mv)(hg:g o=some (.arr e t l)){S':Nat->Prop}(hS:∀b,b<w.heap.size->SS X μ b->S' b)
  (hR:∀b,b∈mv.rs->S' b):∃a c,mv.v=.slice a l.length c/\Rep S' w (.slice t) l [mv.v]:=by
 obtain⟨y,hy,ae⟩:=hm.ob _ _ h;rw[hg]at hy;cases hy;obtain⟨⟨ai,af⟩,aj,xs,aa,ad⟩:=ae;have ab:=ad.step (S':=S') (w':=w) λb ah hb=>⟨hS b ah hb,rfl⟩
 rcases aa.2 with⟨e1,h0⟩|⟨gb,cap,cur,e1,h1,h2,h3,_⟩
 ·have:l=[]:=C9 h0;subst this;rw[e1];exact⟨_,_,rfl,Rep.nil⟩
 ·rw[e1];refine⟨_,_,rfl,Rep.slice_of h3 (hR gb (by rw[af,e1];simp[aD])) ab λj u hu=>?_⟩;rw[e1]at aa;have:=aa.cells (g:=gb) rfl j u hu;rw[Addr.add_lit]at this;exact this
theorem Mem.asRows[Tabs](hm:Mem P X lo g μ w){o:Nat}{mv:MV}{e e2:Nat}{t:Ty}{l:List (List t.I)}(h:μ o=some mv)(hg:g o=some (.rows e e2 t l none)){S':Nat->Prop}(hS:∀b,b<w.heap.size->SS X μ b->S' b)
  (hR:∀b,b∈mv.rs->S' b):∃a c,mv.v=.slice a l.length c/\Rep S' w (.slice (.slice t)) l [mv.v]:=by
 obtain⟨y,hy,af⟩:=hm.ob _ _ h;rw[hg]at hy;cases hy;obtain⟨hr,_⟩:=af;have ah:∀j,dU none j:=λj i k hk=>by cases hk
 have hlen:=hr.len;generalize mv.hs=hs at hr hlen
 -- the rows, as data
 have ad:RepL S' w (.slice t) l hs:=by
  have key:∀(hs:List Value) (l:List (List t.I)),hs.length=l.length->(∀(j:Nat) (x:Value) (r:List t.I),hs[j]? =some x->l[j]? =some r->Rep S' w (.slice t) r [x])->RepL S' w (.slice t) l hs:=by
   intro hs;induction hs with
   |nil=>intro l hl _;have:l=[]:=C9 (by simpa using hl.symm);subst this;rfl
   |cons x hs ih=>
    intro l hl ab;cases l with
    |nil=>simp at hl
    |cons r l=>exact⟨[x],hs,rfl,ab 0 x r rfl rfl,ih l (by simpa using hl) λj y q hy hq=>ab (j+1) y q (by simpa using hy) (by simpa using hq)⟩
  refine key hs l hlen λj x r hx hl=>?_;obtain⟨k1,xs,aa,ab⟩:=hr.row j x r (ah j) hx hl;have ae:=ab.step (S':=S') (w':=w) λb ai hb=>⟨hS b ai hb,rfl⟩
  rcases aa.2 with⟨e1,h0⟩|⟨gb,cap,cur,e1,h1,h2,h3,_⟩
  ·have:r=[]:=C9 h0;subst this;rw[e1];exact Rep.nil
  ·rw[e1];refine Rep.slice_of h3 (hR gb (k1 gb (by rw[e1];simp[aD])).1) ae λj u hu=>?_;rw[e1]at aa;have:=aa.cells (g:=gb) rfl j u hu;rw[Addr.add_lit]at this;exact this
 have aa:=hr.own;rcases aa.2 with⟨e1,h0⟩|⟨gb,cap,cur,e1,h1,h2,h3,_⟩
 ·have:l=[]:=C9 h0;subst this;rw[e1];exact⟨_,_,rfl,Rep.nil⟩
 ·rw[e1];refine⟨_,_,rfl,Rep.slice_of h3 (hR gb (hr.top gb (by rw[e1];simp[aD]))) ad λj u hu=>?_⟩;rw[e1]at aa;have:=aa.cells (g:=gb) rfl j u hu;rw[Addr.add_lit]at this;exact this
theorem Mem.asPerm[Tabs](hm:Mem P X lo g μ w){o:Nat}{mv:MV}{e e2:Nat}{t:Ty}{ix:List Nat}{l:List (List t.I)}(h:μ o=some mv){k:Bool}(hg:g o=some (.perm k e e2 t ix l)){S':Nat->Prop}(hS:∀b,b<w.heap.size->SS X μ b->S' b)
  (hR:∀b,b∈mv.rs->S' b):∃a c,mv.v=.slice a (bI ix l).length c/\Rep S' w (.slice (.slice t)) (bI ix l) [mv.v]:=by
 obtain⟨y,hy,ai⟩:=hm.ob _ _ h;rw[hg]at hy;cases hy;have hp:PermOK w lo (SS X μ) e e2 t ix l mv:=ai;have hlen:=hp.len;have af:∀i,Rep S' w (.slice t) (l.getD i []) [mv.hs.getD i (.slice none 0 0)]:=λi=>by
  by_cases hi:i<l.length
  ·have hx:mv.hs[i]? =some (mv.hs.getD i (.slice none 0 0)):=by rw[xd,xh (by omega)];rfl
   have hl:l[i]? =some (l.getD i []):=by simp[xd,hi]
   generalize mv.hs.getD i (.slice none 0 0)=x at hx;generalize l.getD i []=r at hl;obtain⟨k1,xs,aa,ah⟩:=hp.row i x r hx hl;have ab:=ah.step (S':=S') (w':=w) λb aj hb=>⟨hS b aj hb,rfl⟩
   rcases aa.2 with⟨e1,h0⟩|⟨gb,cap,cur,e1,h1,h2,h3,_⟩
   ·have:r=[]:=C9 h0;subst this;rw[e1];exact Rep.nil
   ·rw[e1];refine Rep.slice_of h3 (hR gb (k1 gb (by rw[e1];simp[aD])).1) ab λj u hu=>?_;rw[e1]at aa;have:=aa.cells (g:=gb) rfl j u hu;rw[Addr.add_lit]at this;exact this
  ·have e1:l.getD i []=[]:=by rw[xd,KP (by omega)];rfl
   have e2:mv.hs.getD i (.slice none 0 0)=.slice none 0 0:=by rw[xd,KP (by omega)];rfl
   rw[e1,e2];exact Rep.nil
 have ad:∀ix:List Nat,RepL S' w (.slice t) (bI ix l) (ix.map λi=>mv.hs.getD i (.slice none 0 0)):=λix=>by
  induction ix with
  |nil=>rfl
  |cons i ix ih=>exact⟨[_],_,rfl,af i,ih⟩
 have aa:=hp.own;have ae:(bI ix l).length=ix.length:=by simp[bI]
 rcases aa.2 with⟨e1,h0⟩|⟨gb,cap,cur,e1,h1,h2,h3,_⟩
 ·have:ix=[]:=C9 h0;subst this;rw[e1];exact⟨_,_,rfl,Rep.nil⟩
 ·rw[e1];refine⟨_,_,by rw[ae],?_⟩;rw[<-ae];refine Rep.slice_of (by rw[ae];exact h3) (hR gb (hp.top gb (by rw[e1];simp[aD]))) (ad ix) λj u hu=>?_;rw[e1]at aa;have:=aa.cells (g:=gb) rfl j u hu;rw[Addr.add_lit]at this;exact this
structure LendOK(X:Nat->Prop)(lo:Nat->Prop)(μ:Nat->Option MV)(w:World)(ρ:List Nat)(lo':Nat->Prop)(μi:Nat->Option MV):Prop where
 mi:∀o i mv,cW ρ o 64=some i->μ o=some mv->μi i=some mv
 le:∀b,lo b->lo' b
 rest:∀o mv b,μ o=some mv->cW ρ o 64=none->b∈mv.rs->lo' b
 dat:∀b,b<w.heap.size->SS X μ b->lo' b
variable {ρ:List Nat}{lo':Nat->Prop}{μi:Nat->Option MV}
theorem b7[Tabs](hm:Mem P X lo g μ w)(hL:LendOK X lo μ w ρ lo' μi){S' Sv:Nat->Prop}(hS:∀b,b<w.heap.size->SS X μ b->S' b)(ai:∀b,b<w.heap.size->Sv b->S' b){v:AV}{x:Value}
  (hR:nR ρ v=false\/∀o mv b,μ o=some mv->cW ρ o 64=none->b∈mv.rs->S' b) (h:RelV P w lo μ Sv v x):RelV P w lo' μi S' (tY ρ g v) x:=by
 cases h with
 |dat ht h=>exact .dat ht (h.step λb ae hb=>⟨ai b ae hb,rfl⟩)
 |nilsl=>exact .nilsl
 | @arr _ o a n c rs _ h=>
  simp only[tY];split
  next i hi=>exact .arr (hL.mi o i _ hi h)
  next hi=>
   split
   next e t l hg=>
    have ab:=hR.resolve_left (by simp[nR,hi]);obtain⟨a',c',e',hr⟩:=hm.asDat h hg hS (λb hb=>ab o _ b h hi hb);exact .dat rfl hr
   next hg=>
    have ab:=hR.resolve_left (by simp[nR,hi]);obtain⟨a',c',e',hr⟩:=hm.asRows h hg hS (λb hb=>ab o _ b h hi hb);exact .dat rfl hr
   next hg=>
    have ab:=hR.resolve_left (by simp[nR,hi]);obtain⟨a',c',e',hr⟩:=hm.asPerm h hg hS (λb hb=>ab o _ b h hi hb);exact .dat rfl hr
   next=>exact .undef
 | @row _ o i v0 rs al a m c h hx=>
  simp only[tY];split
  next=>exact .undef
  next hi=>
   split
   next e e2 t l hg=>
    have ab:=hR.resolve_left (by simp[nR]);obtain⟨y,hy,aj⟩:=hm.ob _ _ h;rw[hg]at hy;cases hy;obtain⟨ak,_⟩:=aj;obtain⟨ah,xs,aa,af⟩:=hm.rowAt h hx hg;obtain⟨k1,_⟩:=ak.row i _ (l.getD i []) (λj k hk=>by cases hk) hx (by simp[xd,ah]);have ad:=af.step (S':=S') (w':=w) λb ae hb=>⟨hS b ae hb,rfl⟩
    refine .dat rfl ?_;rcases aa.2 with⟨e1,h0⟩|⟨gb,cap,cur,e1,h1,h2,h3,_⟩
    ·have:l.getD i []=[]:=C9 h0;rw[e1,this];exact Rep.nil
    ·rw[e1];refine Rep.slice_of h3 (ab o _ gb h hi (k1 gb (by rw[e1];simp[aD])).1) ad λj u hu=>?_;rw[e1]at aa;have:=aa.cells (g:=gb) rfl j u hu;rw[Addr.add_lit]at this;exact this
   next kp e e2 t ix l hg=>
    have ab:=hR.resolve_left (by simp[nR]);obtain⟨ah,k1,xs,aa,af⟩:=hm.rowAtP h hx hg;have ad:=af.step (S':=S') (w':=w) λb ae hb=>⟨hS b ae hb,rfl⟩
    refine .dat rfl ?_;rcases aa.2 with⟨e1,h0⟩|⟨gb,cap,cur,e1,h1,h2,h3,_⟩
    ·have:l.getD i []=[]:=C9 h0;rw[e1,this];exact Rep.nil
    ·rw[e1];refine Rep.slice_of h3 (ab o _ gb h hi (k1 gb (by rw[e1];simp[aD]))) ad λj u hu=>?_;rw[e1]at aa;have:=aa.cells (g:=gb) rfl j u hu;rw[Addr.add_lit]at this;exact this
   next=>exact .undef
 |clo h=>exact .clo (h.step hL.le λb _=>rfl)
 | @fn _ f caps xs hl h=>
  cases caps with
  |nil=>exact .fn hl λj v hv=>by simp[aQ]at hv
  |cons c caps=>exact .undef
 |_=>exact .undef
theorem Dk[Tabs](hm:Mem P X lo g μ w)(hL:LendOK X lo μ w ρ lo' μi){S':Nat->Prop}(hS:∀b,b<w.heap.size->SS X μ b->S' b){v:AV}{x:Value}(hR:O6 ρ v=false\/∀o mv b,μ o=some mv->cW ρ o 64=none->b∈mv.rs->S' b)
  (h:RelV P w lo μ (SS X μ) v x):RelV P w lo' μi S' (V5 ρ g v) x:=by
 have h0:=h;cases h with
 | @agg _ vs xs hl h=>
  refine .agg (by simpa using hl) λj v hv=>?_;rw[aA,oE]at hv;cases hj:vs[j]? with
  |none=>rw[hj]at hv;cases hv
  |some u=>rw[hj]at hv;simp only[oG,xe]at hv;subst hv;refine b7 hm hL hS hS (hR.imp (λe=>?_) id) (h j u (by rw[aA];exact hj));simp only[O6,Wm]at e;simpa using e u (xz hj)
 |_=>exact b7 hm hL hS hS (by simpa only[O6]using hR) h0
theorem Al[Tabs](hm:Mem P X lo g μ w)(hL:LendOK X lo μ w ρ lo' μi){S' Sv:Nat->Prop}(hS:∀b,b<w.heap.size->SS X μ b->S' b){v:AV}{x:Value}
  (hR:nM ρ g v=false\/∀o mv b,μ o=some mv->cW ρ o 64=none->b∈mv.rs->S' b) (h:RelV P w lo μ Sv v x):RelV P w lo' μi S' (F0 ρ g v) x:=by
 cases h with
 | @box _ o b k rs ad h=>
  simp only[F0];split
  next i hi=>exact .box (hL.mi o i _ hi h)
  next hi=>
  split
  next cs hg=>
   split
   next hk=>
    have hc:=hm.cells (k:=k) h hg;have ae:b∈(⟨.pointer (some ⟨b,0,none⟩),rs,ad⟩:MV).rs:=by obtain⟨y,hy,af⟩:=hm.ob _ _ h;rw[hg]at hy;cases hy;obtain⟨b',vs,e,he,_⟩:=af;cases he;simp
    have hex:∀j,∃x,∀v,aQ (cs.drop k) j=some v->w.cell? ⟨b,k+j,none⟩=some x/\RelV P w lo μ (SS X μ) v x:=λj=>by
     cases hj:aQ (cs.drop k) j with
     |none=>exact⟨undef,λv hv=>by cases hv⟩
     |some v=>obtain⟨x,h1,h2⟩:=hc j v hj;exact⟨x,λv' ah=>by cases ah;exact⟨h1,h2⟩⟩
    have aa:∀j u,aQ ((cs.map (tY ρ g)).drop k) j=some u->∃v,aQ (cs.drop k) j=some v/\u=tY ρ g v:=λj u hu=>by
     rw[aA,yJ,oE]at hu;cases hj:cs[k+j]? with
     |none=>rw[hj]at hu;cases hu
     |some v=>rw[hj]at hu;simp at hu;exact⟨v,by rw[aA,yJ];exact hj,hu.symm⟩
    refine .ptr (λj=>(hex j).choose) ?_ (.inr (hL.rest o _ b h hi ae)) (λj u hu=>?_) λj u hu=>?_;·intro e;have:=congrArg List.length e;simp at this;omega
    ·obtain⟨v,h1,_⟩:=aa j u hu;exact((hex j).choose_spec v h1).1
    ·obtain⟨v,h1,rfl⟩:=aa j u hu;refine b7 hm hL hS hS (hR.imp (λe=>?_) id) ((hex j).choose_spec v h1).2;simp only[nM,hi,hg,Wm]at e;have ab:v∈cs:=by rw[aA,yJ]at h1;exact xz h1
     simpa using e v ab
   next=>exact .undef
  next=>exact .undef
 |_=>exact .undef
theorem FN[Tabs](hm:Mem P X lo g μ w)(hL:LendOK X lo μ w ρ lo' μi){S0:Nat->Prop}{v:AV}{x:Value}(h:RelV P w lo μ (λb=>SS X μ b\/lo b) v x):RelV P w lo' μi (λb=>S0 b\/lo' b) (F0 ρ g v) x:=
 Al hm hL (λb aa hs=>.inr (hL.dat b aa hs)) (.inr λo mv b ho hi hb=>.inr (hL.rest o mv b ho hi hb)) h
theorem Ge{S' Sv:Nat->Prop}{μi:Nat->Option MV}{lo':Nat->Prop}(aa:∀b,b<w.heap.size->Sv b->S' b){v:AV}{x:Value}(h:RelV P w lo μ Sv v x):RelV P w lo' μi S' (aFr v) x:=by
 cases h with
 |dat ht h=>exact .dat ht (h.step λb ab hb=>⟨aa b ab hb,rfl⟩)
 |nilsl=>exact .nilsl
 |_=>exact .undef
theorem j8{S' Sv:Nat->Prop}{μi:Nat->Option MV}{lo':Nat->Prop}(aa:∀b,b<w.heap.size->Sv b->S' b){v:AV}{x:Value}(h:RelV P w lo μ Sv v x):RelV P w lo' μi S' (Fd v) x:=by
 have h0:=h;cases h with
 | @agg _ vs xs hl h=>
  refine .agg (by simpa using hl) λj u hu=>?_;rw[aA,oE]at hu;cases hj:vs[j]? with
  |none=>rw[hj]at hu;cases hu
  |some c=>rw[hj]at hu;simp only[oG,xe]at hu;subst hu;exact Ge aa (h j c (by rw[aA];exact hj))
 |_=>exact Ge aa h0
theorem DQ[Tabs](hm:Mem P X lo g μ w)(hL:LendOK X lo μ w ρ lo' μi){S':Nat->Prop}(hS:∀b,b<w.heap.size->SS X μ b->S' b){v:AV}{x:Value}(hR:O6 ρ v=false\/∀o mv b,μ o=some mv->cW ρ o 64=none->b∈mv.rs->S' b)
  (h:RelV P w lo μ (SS X μ) v x):RelV P w lo' μi S' (S4 ρ g v) x:=by
 have h0:=h;cases h with
 | @fn _ f caps xs hl h=>
  refine .fn (by simpa using hl) λj v hv=>?_;rw[aA,oE]at hv;cases hj:caps[j]? with
  |none=>rw[hj]at hv;cases hv
  |some u=>rw[hj]at hv;simp only[oG,xe]at hv;subst hv;exact FN hm hL (h j u (by rw[aA];exact hj))
 | @bnd _ f fs xs hl h=>
  refine .bnd (by simpa using hl) λj v hv=>?_;rw[aA,oE]at hv;cases hj:fs[j]? with
  |none=>rw[hj]at hv;cases hv
  |some u=>rw[hj]at hv;simp only[oG,xe]at hv;subst hv;exact j8 hS (h j u (by rw[aA];exact hj))
 | @box _ o b k rs _ h=>
  simp only[S4];split
  next i hi=>exact .box (hL.mi o i _ hi h)
  next=>exact .undef
 |_=>exact Dk hm hL hS hR h0
theorem Yh[Tabs](hm:Mem P X lo g μ w)(hL:LendOK X lo μ w ρ lo' μi){S':Nat->Prop}(hS:∀b,b<w.heap.size->SS X μ b->S' b){v:AV}{x:Value}(h:RelV P w lo μ (SS X μ) v x):RelV P w lo' μi S' (aJO v) x:=by
 cases h with
 |dat ht h=>exact .dat ht (h.step λb aa hb=>⟨hS b aa hb,rfl⟩)
 |nilsl=>exact .nilsl
 |clo h=>exact .clo (h.step hL.le λb _=>rfl)
 |_=>exact .undef
end
end
section
open Go.RowKit (Below)
theorem aZ{p o:Nat}(h:p≠o):Nat.beq p o=false:=by
 cases hb:Nat.beq p o with
 |true=>exact absurd (xg hb) h
 |false=>rfl
theorem bC(o:Nat):Nat.beq o o=true:=xff o
section
variable {P:Program}{w:World}{lo:Nat->Prop}{μ:Nat->Option MV}{S:Nat->Prop}{X:Nat->Prop}
theorem wS[Tabs]{μ':Nat->Option MV}{o:Nat}{d:AV}{S S':Nat->Prop}(hμ:∀p mv,p≠o->μ p=some mv->∃rs hs,μ' p=some ⟨mv.v,rs,hs⟩/\Ext mv.hs hs)(hd:∀mv,μ o=some mv->RelV P w lo μ' S' d mv.v)(hS:∀b,b<w.heap.size->S b->S' b){v:AV}{x:Value}
  (h:RelV P w lo μ S v x):RelV P w lo μ' S' (mI o d v) x:=by
 cases h with
 | @arr _ p _ _ _ _ _ h=>
  simp only[mI];by_cases e:p=o;·subst e;rw[bC];exact hd _ h
  ·rw[aZ e];obtain⟨rs,hs,h',_⟩:=hμ _ _ e h;exact .arr h'
 | @box _ p _ _ _ _ h=>
  simp only[mI];by_cases e:p=o;·subst e;rw[bC];exact .undef
  ·rw[aZ e];obtain⟨rs,hs,h',_⟩:=hμ _ _ e h;exact .box h'
 | @elt _ p _ _ _ _ _ _ _ h=>
  simp only[mI];by_cases e:p=o;·subst e;rw[bC];exact .undef
  ·rw[aZ e];obtain⟨rs,hs,h',_⟩:=hμ _ _ e h;exact .elt h'
 | @fld _ p _ _ _ _ _ _ _ _ h=>
  simp only[mI];by_cases e:p=o;·subst e;rw[bC];exact .undef
  ·rw[aZ e];obtain⟨rs,hs,h',_⟩:=hμ _ _ e h;exact .fld h'
 | @row _ p _ _ _ _ _ _ _ h hx=>
  simp only[mI];by_cases e:p=o;·subst e;rw[bC];exact .undef
  ·rw[aZ e];obtain⟨rs,hs,h',he⟩:=hμ _ _ e h;exact .row h' (he _ _ hx)
 | @relt _ p _ _ _ _ _ _ _ _ _ h hx=>
  simp only[mI];by_cases e:p=o;·subst e;rw[bC];exact .undef
  ·rw[aZ e];obtain⟨rs,hs,h',he⟩:=hμ _ _ e h;exact .relt h' (he _ _ hx)
 | @suf _ p _ _ _ _ _ _ _ _ _ _ h hi ha=>
  simp only[mI];by_cases e:p=o;·subst e;rw[bC];exact .undef
  ·rw[aZ e];obtain⟨rs,hs,h',_⟩:=hμ _ _ e h;exact .suf h' hi ha
 | @pre _ p _ _ _ _ _ _ h hi=>
  simp only[mI];by_cases e:p=o;·subst e;rw[bC];exact .undef
  ·rw[aZ e];obtain⟨rs,hs,h',_⟩:=hμ _ _ e h;exact .pre h' hi
 |dat ht h=>exact .dat ht (h.step λb hb hs=>⟨hS b hb hs,rfl⟩)
 |nilsl=>exact .nilsl
 |clo h=>exact .clo h
 | @fn _ f caps xs hl h=>
  cases caps with
  |nil=>exact .fn hl λj v hv=>by simp[aQ]at hv
  |cons c caps=>exact .undef
 |_=>exact .undef
theorem K7[Tabs]{μ':Nat->Option MV}{o:Nat}{d:AV}{S S':Nat->Prop}(hμ:∀p mv,p≠o->μ p=some mv->∃rs hs,μ' p=some ⟨mv.v,rs,hs⟩/\Ext mv.hs hs)(hd:∀mv,μ o=some mv->RelV P w lo μ' S' d mv.v)(hS:∀b,b<w.heap.size->S b->S' b){v:AV}{x:Value}
  (h:RelV P w lo μ S v x):RelV P w lo μ' S' (Tt o d v) x:=by
 have h0:=h;cases h with
 | @ptr _ cs b k xs aa hb hx h=>
  have ab:b<w.heap.size:=by
   cases cs with
   |nil=>exact absurd rfl aa
   |cons c cs=>exact block_lt_of_cell (hx 0 c rfl)
  refine .ptr xs (by simpa using aa) (hb.imp (hS b ab) id) (λj u hu=>?_) λj u hu=>?_
  ·rw[aA,oE]at hu;cases hj:cs[j]? with|none=>rw[hj]at hu;cases hu|some v=>exact hx j v (by rw[aA];exact hj)
  ·rw[aA,oE]at hu;cases hj:cs[j]? with|none=>rw[hj]at hu;cases hu|some v=>rw[hj]at hu;simp at hu;subst hu;exact wS hμ hd hS (h j v (by rw[aA];exact hj))
 |_=>exact wS hμ hd hS h0
theorem vX[Tabs]{μ':Nat->Option MV}{o:Nat}{d:AV}{S S':Nat->Prop}(hlo:(∀b,lo b->b<w.heap.size))(hμ:∀p mv,p≠o->μ p=some mv->∃rs hs,μ' p=some ⟨mv.v,rs,hs⟩/\Ext mv.hs hs)(hd:∀mv,μ o=some mv->RelV P w lo μ' S' d mv.v)(hS:∀b,b<w.heap.size->S b->S' b){v:AV}{x:Value}
  (h:RelV P w lo μ S v x):RelV P w lo μ' S' (Ek o d v) x:=by
 have h0:=h;cases h with
 | @agg _ vs xs hl h=>
  refine .agg (by simpa using hl) λj u hu=>?_;rw[aA,oE]at hu;cases hj:vs[j]? with
  |none=>rw[hj]at hu;cases hu
  |some v=>rw[hj]at hu;simp only[oG,xe]at hu;subst hu;exact wS hμ hd hS (h j v (by rw[aA];exact hj))
 | @fn _ f caps xs hl h=>
  refine .fn (by simpa using hl) λj u hu=>?_;rw[aA,oE]at hu;cases hj:caps[j]? with
  |none=>rw[hj]at hu;cases hu
  |some v=>rw[hj]at hu;simp only[oG,xe]at hu;subst hu;exact K7 hμ (λmv hm=>(hd mv hm).step (λ_ _ h=>h) hlo (λb _ hs=>⟨.inl hs,rfl⟩) λ_ _=>rfl) (λb hb hs=>hs.imp (hS b hb) id) (h j v (by rw[aA];exact hj))
 | @bnd _ f fs xs hl h=>
  refine .bnd (by simpa using hl) λj u hu=>?_;rw[aA,oE]at hu;cases hj:fs[j]? with
  |none=>rw[hj]at hu;cases hu
  |some v=>rw[hj]at hu;simp only[oG,xe]at hu;subst hu;exact j8 (λb hb hs=>hS b hb hs) (h j v (by rw[aA];exact hj))
 |_=>exact K7 hμ hd hS h0
theorem qJ[Tabs]{μ':Nat->Option MV}{o:Nat}{d:AV}{S S':Nat->Prop}(hlo:(∀b,lo b->b<w.heap.size))(hμ:∀p mv,p≠o->μ p=some mv->∃rs hs,μ' p=some ⟨mv.v,rs,hs⟩/\Ext mv.hs hs)(hd:∀mv,μ o=some mv->RelV P w lo μ' S' d mv.v)(hS:∀b,b<w.heap.size->S b->S' b){v:AV}{x:Value}
  (h:RelV P w lo μ S v x):RelV P w lo μ' S' (yN o d v) x:=by
 have h0:=h;cases h with
 | @tup _ vs xs hl h=>
  refine .tup (by simpa using hl) λj u hu=>?_;rw[aA,oE]at hu;cases hj:vs[j]? with
  |none=>rw[hj]at hu;cases hu
  |some v=>rw[hj]at hu;simp only[oG,xe]at hu;subst hu;exact vX hlo hμ hd hS (h j v (by rw[aA];exact hj))
 |_=>exact vX hlo hμ hd hS h0
theorem nJ[Tabs]{μ':Nat->Option MV}{o:Nat}{d:AV}{S S':Nat->Prop}(hlo:(∀b,lo b->b<w.heap.size))(hμ:∀p mv,p≠o->μ p=some mv->∃rs hs,μ' p=some ⟨mv.v,rs,hs⟩/\Ext mv.hs hs)(hd:∀mv,μ o=some mv->RelV P w lo μ' S' d mv.v)(hS:∀b,b<w.heap.size->S b->S' b){x:Ob}{mv:MV}
  (h:ObOK P w lo μ S x mv):ObOK P w lo μ' S' (fW o d x) mv:=by
 cases x with
 |arr e t l=>obtain⟨⟨ae,af⟩,ah,xs,h1,h2⟩:=h;exact⟨⟨ae,af⟩,ah,xs,h1,h2.step λb hb hs=>⟨hS b hb hs,rfl⟩⟩
 |rows e e2 t l hh=>
  obtain⟨hr,hk⟩:=h;have ab:∀j,dU (XY o hh) j->dU hh j:=λj hj i k hk=>by
   subst hk;cases k with
   |none=>exact hj i none rfl
   |some d=>
    simp only[XY,dU]at hj;by_cases e:d=o;·subst e;rw[bC]at hj;exact hj i none rfl
    ·rw[aZ e]at hj;exact hj i (some d) rfl
  have ai:RowsOK w lo S e e2 t l (dU (XY o hh)) mv mv.hs:=⟨hr.own,hr.top,hr.low,hr.slc,λj x r hj hx hl=>hr.row j x r (ab j hj) hx hl,λj k x y b hj hk=>hr.apart j k x y b (ab j hj) (ab k hk)⟩
  refine⟨ai.step (λb hb hs=>⟨hS b hb hs,rfl⟩) (λ_ _=>rfl) λb hb=>(hr.low b hb).1,λi d' aa=>?_⟩;have ad:d'≠o/\hh=some (i,some d'):=by
   cases hh with
   |none=>cases aa
   |some q=>
    obtain⟨i0,k⟩:=q;cases k with
    |none=>simp[XY]at aa
    |some d0=>
     simp only[XY]at aa;by_cases e:d0=o;·subst e;rw[bC]at aa;simp at aa
     ·rw[aZ e]at aa;simp only[xe,Wb]at aa;obtain⟨rfl,rfl⟩:=aa;exact⟨e,rfl⟩
  obtain⟨x,rs,hs,k1,k2⟩:=hk i d' ad.2;obtain⟨aj,ak,k3,_⟩:=hμ d' _ ad.1 k2;exact⟨x,aj,ak,k1,k3⟩
 |perm k e e2 t ix l=>exact PermOK.step h (λb hb hs=>⟨hS b hb hs,rfl⟩) (λ_ _=>rfl) λb hb=>(PermOK.low h b hb).1
 |spent=>exact h
 |cells cs=>
  obtain⟨b,vs,e,h1,h2,h3,h4,h5⟩:=h;refine⟨b,vs,e,h1,h2,h3,by simpa using h4,λj u hu=>?_⟩;rw[aA,oE]at hu;cases hj:cs[j]? with
  |none=>rw[hj]at hu;cases hu
  |some v=>rw[hj]at hu;simp only[oG,xe]at hu;subst hu;exact vX hlo hμ hd hS (h5 j v (by rw[aA];exact hj))
def pA(ks:List Nat)(x:Ob):Ob:=ks.foldl (λx p=>fW p (.arr p) x) x
def Fg(ks:List Nat)(v:AV):AV:=ks.foldl (λv p=>yN p (.arr p) v) v
def Fe(μ μ':Nat->Option MV)(p o:Nat):Option MV:=if o=p then(μ o).map λmv=>⟨mv.v,mv.rs,((μ' o).map (·.hs)).getD []⟩else μ o
theorem On{μ':Nat->Option MV}{p o:Nat}{mv:MV}(h:o≠p)(ho:μ o=some mv):Fe μ μ' p o=some mv:=by simp[Fe,h,ho]
theorem Vw{μ':Nat->Option MV}{p:Nat}{mv:MV}(ho:μ p=some mv):Fe μ μ' p p=some ⟨mv.v,mv.rs,((μ' p).map (·.hs)).getD []⟩:=by simp[Fe,ho]
theorem Ds{μ':Nat->Option MV}{p o:Nat}{mv:MV}(h:Fe μ μ' p o=some mv):∃mv0,μ o=some mv0/\mv.v=mv0.v/\(o≠p->mv=mv0)/\(o=p->mv.hs=((μ' p).map (·.hs)).getD []):=by
 unfold Fe at h;split at h
 next e=>
  cases ho:μ o with
  |none=>rw[ho]at h;cases h
  |some mv0=>rw[ho]at h;simp only[oG,xe]at h;subst h;exact⟨mv0,rfl,rfl,λh=>absurd e h,λe=>by rw[e]⟩
 next e=>exact⟨mv,h,rfl,λ_=>rfl,λh=>absurd h e⟩
structure Turns(μ μ':Nat->Option MV)(ks:List Nat):Prop where
 hs:∀o mv,μ o=some mv->∃rs hs,μ' o=some ⟨mv.v,rs,hs⟩/\(o∉ks->Ext mv.hs hs)
 sl:∀o mv,o∈ks->μ o=some mv->∃a n c,mv.v=.slice a n c
theorem Turns.next{μ':Nat->Option MV}{p:Nat}{ks:List Nat}(h:Turns μ μ' (p::ks)):Turns (Fe μ μ' p) μ' ks:=by
 refine⟨λo mv ho=>?_,λo mv hk ho=>?_⟩
 ·obtain⟨mv0,h1,h2,h3,h4⟩:=Ds ho;obtain⟨rs,hs,k1,k2⟩:=h.hs o mv0 h1;refine⟨rs,hs,by rw[h2];exact k1,λhn=>?_⟩;by_cases e:o=p;·subst e;rw[h4 rfl,k1];exact Ext.refl _
  ·rw[h3 e];exact k2 λhm=>(xae.1 hm).elim e hn
 ·obtain⟨mv0,h1,h2,_⟩:=Ds ho;rw[h2];exact h.sl o mv0 (xr _ hk) h1
theorem Turns.arr[Tabs]{μ':Nat->Option MV}{p:Nat}{ks:List Nat}(h:Turns μ μ' (p::ks)):∀mv,μ p=some mv->RelV P w lo (Fe μ μ' p) S (.arr p) mv.v:=λmv hp=>by obtain⟨a,n,c,e⟩:=h.sl p mv xu hp;rw[e];exact .arr (by rw[Vw hp,e])
theorem RelV.kill[Tabs]{w':World}{μ':Nat->Option MV}{S':Nat->Prop}(hlo:∀b,lo b->b<w.heap.size)(hw:∀b,b<w.heap.size->S b->S' b/\w'.heap[b]? =w.heap[b]?)(hl:∀b,lo b->w'.heap[b]? =w.heap[b]?){x:Value}:
  ∀{ks:List Nat} {μ:Nat->Option MV} {v:AV},Turns μ μ' ks->RelV P w lo μ S v x->RelV P w' lo μ' S' (Fg ks v) x
 | [],μ,v,ht,h=>h.stepH (λo mv ho=>by obtain⟨rs,hs,k1,k2⟩:=ht.hs o mv ho;exact⟨rs,hs,k1,k2 (by simp)⟩) hlo hw hl
 |p::ks,μ,v,ht,h=>RelV.kill hlo hw hl (ks:=ks) ht.next (qJ hlo (λq mv aa hq=>⟨mv.rs,mv.hs,On aa hq,Ext.refl _⟩) ht.arr (λ_ _ h=>h) h)
theorem ObOK.kill[Tabs]{w':World}{μ':Nat->Option MV}{S':Nat->Prop}(hlo:∀b,lo b->b<w.heap.size)(hw:∀b,b<w.heap.size->S b->S' b/\w'.heap[b]? =w.heap[b]?)(hl:∀b,lo b->w'.heap[b]? =w.heap[b]?){mv:MV}(hr:∀b,b∈mv.rs->w'.heap[b]? =w.heap[b]?):
  ∀{ks:List Nat} {μ:Nat->Option MV} {x:Ob},Turns μ μ' ks->ObOK P w lo μ S x mv->ObOK P w' lo μ' S' (pA ks x) mv
 | [],μ,x,ht,h=>h.stepH hlo (λo mv ho=>by obtain⟨rs,hs,k1,k2⟩:=ht.hs o mv ho;exact⟨rs,hs,k1,k2 (by simp)⟩) hw hl hr
 |p::ks,μ,x,ht,h=>ObOK.kill hlo hw hl hr (ks:=ks) ht.next (nJ hlo (λq mv aa hq=>⟨mv.rs,mv.hs,On aa hq,Ext.refl _⟩) ht.arr (λ_ _ h=>h) h)
end
end
section
open Go.RowKit (Below)
theorem dX{α:Type}:∀{l:List (Nat×α)} {k:Nat} {x:α},aM l k=some x->(k,x)∈l
 | [],_,_,h=>by simp[aM]at h
 |(j,y)::r,k,x,h=>by
  simp only[aM]at h;split at h
  next e=>
   have:=xg e;subst this;cases h;exact xu
  next=>exact xr _ (dX h)
theorem tU{α:Type}:∀{l:List (Nat×α)} {k:Nat} {x:α},(l.map (·.1)).Nodup->(k,x)∈l->aM l k=some x
 | [],_,_,_,h=>by cases h
 |(j,y)::r,k,x,hn,h=>by
  simp only[M8,xfr]at hn;simp only[aM];cases h with
  |head=>simp
  |tail _ h=>
   have aa:j≠k:=λe=>hn.1 (by rw[e];exact xde h);have:Nat.beq j k=false:=by
    cases hb:Nat.beq j k with
    |true=>exact absurd (xg hb) aa
    |false=>rfl
   rw[this];exact tU hn.2 h
theorem eR:∀{ρ:List Nat} {o k i:Nat},cW ρ o k=some i->k<=i/\aQ ρ (i-k)=some o
 | [],_,_,_,h=>by simp[cW]at h
 |x::r,o,k,i,h=>by
  simp only[cW]at h;split at h
  next e=>
   cases h;exact⟨xm _,by rw[TA];simp[aQ,xg e]⟩
  next=>
   obtain⟨h1,h2⟩:=eR h;exact⟨by omega,by rw[show i-k=(i-(k+1))+1 by omega];exact h2⟩
theorem AT[Tabs]{ρ:List Nat}{o k i:Nat}(h:cW ρ o k=some i):o∈ρ:=by have:=(eR h).2;rw[aA]at this;exact xz this
theorem lC:∀{ρ:List Nat} {o k j:Nat},ρ.Nodup->aQ ρ j=some o->cW ρ o k=some (k+j)
 | [],_,_,_,_,h=>by simp[aQ]at h
 |x::r,o,k,0,_,h=>by simp only[aQ,xe]at h;simp[cW,h]
 |x::r,o,k,j+1,hn,h=>by
  simp only[xfr]at hn;simp only[aQ]at h;have aa:Nat.beq x o=false:=by
   cases hb:Nat.beq x o with
   |true=>have:=xg hb;subst this;rw[aA]at h;exact absurd (xz h) hn.1
   |false=>rfl
  simp only[cW,aa];rw[lC hn.2 h];congr 1;omega
section
variable {P:Program}{tt:Nat->TD}{w:World}{lo:Nat->Prop}{μ:Nat->Option MV}{S:Nat->Prop}{X:Nat->Prop}{g:Nat->Option Ob}{o:Oper}{a:Act}{E:Env}
structure NxU[Tabs](P:Program)(X:Nat->Prop)(lo:Nat->Prop)(g:Nat->Option Ob)(μ:Nat->Option MV)(w:World)(objs:List (Nat×Ob))(ks:List Nat)(w':World)(μ':Nat->Option MV):Prop where
 hs:Turns μ μ' ks
 dom:∀o mv,μ' o=some mv->(∃mv0,μ o=some mv0)\/∃p∈objs,p.1=o
 root:∀o mv b,μ' o=some mv->b∈mv.rs->w.heap.size<=b\/∃p mv0,μ p=some mv0/\b∈mv0.rs
 kept:Kept lo w w'
 frame:∀b,b<w.heap.size->(∀p∈objs,∀mv,μ p.1=some mv->b∉mv.rs)->w'.heap[b]? =w.heap[b]?
 mem:∀g',(∀p∈objs,g' p.1=some p.2)->(∀o mv,μ o=some mv->(∀p∈objs,p.1≠o)->g' o=(g o).map (pA ks))->Mem P X lo g' μ' w'
theorem NxU.data[Tabs]{objs:List (Nat×Ob)}{ks:List Nat}{w':World}{μ':Nat->Option MV}(h:NxU P X lo g μ w objs ks w' μ'):∀b,b<w.heap.size->SS X μ b->SS X μ' b/\w'.heap[b]? =w.heap[b]? :=λb hb hS=>
 ⟨⟨hS.1,λo mv ho hm=>(h.root o mv b ho hm).elim (λh=>by omega) λ⟨p,mv0,h1,h2⟩=>hS.2 p mv0 h1 h2⟩,h.frame b hb λp _ mv hp=>hS.2 p.1 mv hp⟩
theorem NxU.step[Tabs]{objs:List (Nat×Ob)}{w':World}{μ':Nat->Option MV}(h:NxU P X lo g μ w objs [] w' μ')(hlo:∀b,lo b->b<w.heap.size){v:AV}{x:Value}(hv:RelV P w lo μ (SS X μ) v x):RelV P w' lo μ' (SS X μ') v x:=
 hv.stepH (λo mv ho=>by obtain⟨rs,hs,k1,k2⟩:=h.hs.hs o mv ho;exact⟨rs,hs,k1,k2 (by simp)⟩) hlo h.data h.kept.block
theorem NxU.of[Tabs]{q:QR}{x:Value}{w':World}(hm:Mem P X lo g μ w)(aa:∀p∈q.2,μ p.1=none)(h:Nx P X lo g μ w q x w'):∃μ',NxU P X lo g μ w q.2 [] w' μ'/\RelV P w' lo μ' (SS X μ') q.1 x:=by
 obtain⟨μ',h1,h2,h3,h4,h5⟩:=h;refine⟨μ',⟨⟨λo mv ho=>⟨mv.rs,mv.hs,h1 o mv ho,λ_=>Ext.refl _⟩,λo mv ho=>(by cases ho)⟩,λo mv ho=>(h2 o mv ho).imp (λh=>⟨mv,h⟩) (·.1),λo mv b ho hb=>?_,.of h3 hm.hlo,λb hb _=>h3.block b hb,λg' k1 k2=>?_⟩,h5⟩
 ·rcases h2 o mv ho with h|h;·exact .inr ⟨o,mv,h,hb⟩
  ·exact .inl (h.2 b hb)
 ·refine h4 g' k1 λo mv ho=>(k2 o mv ho λp hp e=>?_).trans (by cases g o<;>rfl);have:=aa p hp;rw[e,ho]at this;cases this
def join(μ μr:Nat->Option MV)(ρ:List Nat)(d:Nat)(o:Nat):Option MV:=
 match cW ρ o 64 with
 |some i=>μr i
 |none=>match μ o with
  |some mv=>some mv
  |none=>if d*64<=o/\o<d*64+64 then μr (o-d*64)else none
variable {ρ:List Nat}{μr:Nat->Option MV}{d:Nat}
theorem JD{o:Nat}{mv:MV}(hi:cW ρ o 64=none)(h:μ o=some mv):join μ μr ρ d o=some mv:=by simp[join,hi,h]
theorem N4{o i:Nat}(hi:cW ρ o 64=some i):join μ μr ρ d o=μr i:=by simp[join,hi]
theorem AJ{k:Nat}(hk:k<64)(hi:cW ρ (d*64+k) 64=none)(hf:μ (d*64+k)=none):join μ μr ρ d (d*64+k)=μr k:=by simp only[join,hi,hf];rw[qi (by omega),show d*64+k-d*64=k by omega]
theorem lA{o:Nat}{mv:MV}(h:join μ μr ρ d o=some mv):(cW ρ o 64=none/\μ o=some mv)\/(∃i,cW ρ o 64=some i/\μr i=some mv)\/(cW ρ o 64=none/\μ o=none/\∃k,k<64/\o=d*64+k/\μr k=some mv):=by
 simp only[join]at h;split at h
 next i hi=>exact .inr (.inl ⟨i,hi,h⟩)
 next hi=>
  split at h
  next mv' e=>cases h;exact .inl ⟨hi,e⟩
  next e=>
   split at h
   next hk=>exact .inr (.inr ⟨hi,e,o-d*64,by omega,by omega,h⟩)
   next=>cases h
theorem MW[Tabs](hn:ρ.Nodup)(aa:∀k mv,μr k=some mv->k<64->cW ρ (d*64+k) 64=none/\μ (d*64+k)=none)(ab:∀k mv,μr k=some mv->k<64+ρ.length){o:Nat}{mv:MV}(h:μr o=some mv):join μ μr ρ d (rn ρ d o)=some mv:=by
 unfold rn;split
 next ad=>
  obtain⟨h1,h2⟩:=aa o mv h ad;rw[AJ ad h1 h2];exact h
 next hge=>
  have hl:=ab o mv h;have hx:aQ ρ (o-64)=some (ρ[o-64]'(by omega)):=by rw[aA];simp
  rw[hx,xT,N4 (lC hn hx),show 64+(o-64)=o by omega];exact h
theorem Be[Tabs]{w':World}{lo':Nat->Prop}{Sr S':Nat->Prop}(hj:∀o mv,μr o=some mv->join μ μr ρ d (rn ρ d o)=some mv){v:AV}{x:Value}(hv:OX v=true)
  (hS:Nn v=false\/∀b,b<w'.heap.size->Sr b->S' b) (h:RelV P w' lo' μr Sr v x):RelV P w' lo (join μ μr ρ d) S' (aFf ρ d v) x:=by
 cases h with
 |dat ht h=>
  rcases hS with hd|hS;·exact .dat ht (h.plain (by simpa[Nn]using hd))
  ·exact .dat ht (h.step λb hb hs=>⟨hS b hb hs,rfl⟩)
 |nilsl=>exact .nilsl
 |arr h=>exact .arr (hj _ _ h)
 |undef=>exact .undef
 |_=>simp[OX]at hv
theorem Zr[Tabs]{w':World}{lo':Nat->Prop}{Sr S':Nat->Prop}(hj:∀o mv,μr o=some mv->join μ μr ρ d (rn ρ d o)=some mv){v:AV}{x:Value}(hv:PX v=true)
  (hS:O7 v=false\/∀b,b<w'.heap.size->Sr b->S' b) (h:RelV P w' lo' μr Sr v x):RelV P w' lo (join μ μr ρ d) S' (FH ρ d v) x:=by
 have h0:=h;cases h with
 | @agg _ vs xs hl h=>
  refine .agg (by simpa using hl) λj v aa=>?_;rw[aA,oE]at aa;cases hu:vs[j]? with
  |none=>rw[hu]at aa;cases aa
  |some u=>
   rw[hu]at aa;simp only[oG,xe]at aa;subst aa;have hm:=xz hu;refine Be hj ?_ (hS.imp (λe=>?_) id) (h j u (by rw[aA];exact hu));·simp only[PX,xt]at hv;exact hv u hm
   ·simp only[O7,Wm]at e;simpa using e u hm
 |_=>exact Be hj (by simpa only[PX]using hv) (by simpa only[O7]using hS) h0
theorem Yx[Tabs]{w':World}{lo':Nat->Prop}{Sr S':Nat->Prop}(hj:∀o mv,μr o=some mv->join μ μr ρ d (rn ρ d o)=some mv){v:AV}{x:Value}
  (hS:CF v=false\/∀b,b<w'.heap.size->Sr b->S' b) (h:RelV P w' lo' μr Sr v x):RelV P w' lo (join μ μr ρ d) S' (aHO ρ d v) x:=by
 cases h with
 |dat ht h=>
  rcases hS with hd|hS;·exact .dat ht (h.plain (by simpa[CF]using hd))
  ·exact .dat ht (h.step λb hb hs=>⟨hS b hb hs,rfl⟩)
 |nilsl=>exact .nilsl
 |arr h=>exact .arr (hj _ _ h)
 |_=>exact .undef
theorem M0[Tabs]{w':World}{lo':Nat->Prop}{Sr S':Nat->Prop}(hj:∀o mv,μr o=some mv->join μ μr ρ d (rn ρ d o)=some mv)(hle:∀b,lo b->lo' b){y:Ob}{mv:MV}
  (hS:oK y=false\/∀b,b<w'.heap.size->Sr b->S' b) (h:ObOK P w' lo' μr Sr y mv):ObOK P w' lo (join μ μr ρ d) S' (tW ρ d y) mv:=by
 cases y with
 |arr e t l=>
  obtain⟨⟨ah,ai⟩,aj,xs,af,ab⟩:=h;refine⟨⟨ah,ai⟩,λb hb hl=>aj b hb (hle b hl),xs,af,?_⟩;rcases hS with hd|hS;·exact ab.plain (by simpa[oK]using hd)
  ·exact ab.step λb hb hs=>⟨hS b hb hs,rfl⟩
 |rows e e2 t l hh=>
  obtain⟨hr,_⟩:=h;have ak:∀i d,hh.map (λp=>(p.1,(none:Option Nat)))=some (i,some d)->False:=λi d hd=>by cases hh<;>simp at hd
  have ae:∀j,dU (hh.map λp=>(p.1,(none:Option Nat))) j->dU hh j:=λj hj i k hk=>by subst hk;exact hj i none rfl
  refine⟨?_,λi d hd=>(ak i d hd).elim⟩;have ad:=hr.low;have aa:RowsOK w' lo Sr e e2 t l (dU (hh.map λp=>(p.1,(none:Option Nat)))) mv mv.hs:=⟨hr.own,hr.top,λb hb=>⟨λh=>(ad b hb).1 (hle b h),(ad b hb).2⟩,hr.slc,λj x r hj hx hl=>hr.row j x r (ae j hj) hx hl,λj k x y b hj hk=>hr.apart j k x y b (ae j hj) (ae k hk)⟩
  rcases hS with hd|hS
  ·have hd:lU t=false:=by simpa[oK]using hd
   refine⟨aa.own,aa.top,aa.low,aa.slc,λj x r hj hx hl=>?_,aa.apart⟩;obtain⟨k1,xs,k2,k3⟩:=aa.row j x r hj hx hl;exact⟨k1,xs,k2,k3.plain hd⟩
  ·exact aa.step (λb hb hs=>⟨hS b hb hs,rfl⟩) (λ_ _=>rfl) λb hb=>(aa.low b hb).1
 |perm k e e2 t ix l=>
  have hp:PermOK w' lo' Sr e e2 t ix l mv:=h;show PermOK w' lo S' e e2 t ix l mv;rcases hS with hd|hS
  ·have hd:lU t=false:=by simpa[oK]using hd
   refine⟨hp.own,hp.len,hp.top,λb hb=>⟨λh=>(hp.low b hb).1 (hle b h),(hp.low b hb).2⟩,hp.slc,λj x r hx hl=>?_,hp.apart⟩;obtain⟨k1,xs,k2,k3⟩:=hp.row j x r hx hl;exact⟨k1,xs,k2,k3.plain hd⟩
  ·exact hp.step (λb hb hs=>⟨hS b hb hs,rfl⟩) (λ_ _=>rfl) λb hb hl=>(hp.low b hb).1 (hle b hl)
 |spent=>exact SpentOK.step h (λ_ _=>rfl) λb hb hl=>(SpentOK.low h b hb).1 (hle b hl)
 |cells cs=>
  obtain⟨b,vs,e,h1,h2,h3,h4,h5⟩:=h;refine⟨b,vs,e,h1,λh=>h2 (hle b h),h3,by simpa using h4,λj u hu=>?_⟩;rw[aA,oE]at hu;cases hc:cs[j]? with
  |none=>rw[hc]at hu;cases hu
  |some c=>rw[hc]at hu;simp only[oG,xe]at hu;subst hu;refine Yx hj (hS.imp (λe=>?_) id) (h5 j c (by rw[aA];exact hc));simp only[oK,Wm]at e;simpa using e c (xz hc)
def eK(μ:Nat->Option MV)(ρ:List Nat)(i:Nat):Option MV:=if 64<=i then(aQ ρ (i-64)).bind μ else none
theorem dR[Tabs](hn:ρ.Nodup){i:Nat}{mv:MV}(h:eK μ ρ i=some mv):∃o,cW ρ o 64=some i/\μ o=some mv:=by
 unfold eK at h;split at h
 next hi=>
  cases hx:aQ ρ (i-64)with
  |none=>rw[hx]at h;cases h
  |some o=>rw[hx]at h;refine⟨o,?_,h⟩;rw[lC hn hx];congr 1;omega
 next=>cases h
theorem A3[Tabs]{o i:Nat}(h:cW ρ o 64=some i):eK μ ρ i=μ o:=by obtain⟨h1,h2⟩:=eR h;unfold eK;rw[qi h1,h2];rfl
theorem Zw[Tabs](hm:Mem P X lo g μ w)(hn:ρ.Nodup){w':World}{Xc:Nat->Prop}{res:List AV×List (Nat×Ob)}{x:Value}(cg:∀b,X b->Xc b)
  (bg:(res.1.any O7||res.2.any λp=>oK p.2)=false\/∀o mv b,μ o=some mv->cW ρ o 64=none->b∈mv.rs->Xc b) (bp:Cs ρ.length res=true)
  (hr:lX P Xc (eE w (eK μ ρ)) w w' (eK μ ρ) res x) (au:∀p∈(eW ρ d res).1.2,μ p.1=none) (hρ:∀o∈ρ,∃mv,μ o=some mv):
  ∃μ',NxU P X lo g μ w ((eW ρ d res).1.2++(eW ρ d res).2) (cT g ((eW ρ d res).1.2++(eW ρ d res).2)) w' μ'/\RelV P w' lo μ' (SS X μ') (eW ρ d res).1.1 x:=by
 obtain⟨hk,μr,ai,av,bh,br⟩:=hr;simp only[Cs,xf,xt,qe]at bp;obtain⟨⟨⟨ak,bs⟩,bt⟩,bu⟩:=bp;have hd:∀k mv,μr k=some mv->k<64+ρ.length:=λk mv h=>by obtain⟨p,hp,rfl⟩:=av k mv h;exact(ak p hp).1
 have bw:∀k mv,μr k=some mv->k<64->cW ρ (d*64+k) 64=none/\μ (d*64+k)=none:=λk mv h aj=>by
  obtain⟨p,hp,rfl⟩:=av k mv h;have h0:μ (d*64+p.1)=none:=au (d*64+p.1,p.2) (xaf.2 ⟨p,xak.2 ⟨hp,by simpa using aj⟩,rfl⟩);refine⟨?_,h0⟩;cases hi:cW ρ (d*64+p.1) 64 with
  |none=>rfl
  |some i=>obtain⟨mv',h'⟩:=hρ _ (AT hi);rw[h0]at h';cases h'
 have hj:∀o mv,μr o=some mv->join μ μr ρ d (rn ρ d o)=some mv:=λo mv h=>MW hn bw hd h;have aw:∀b,lo b->eE w (eK μ ρ) b:=λb hb=>⟨hm.hlo b hb,λo mv h bj=>by obtain⟨o',_,h'⟩:=dR hn h;exact(hm.lt h' bj).1 hb⟩
 have bk:∀o mv b,μ o=some mv->cW ρ o 64=none->b∈mv.rs->eE w (eK μ ρ) b:=λo mv b h hi hb=>⟨(hm.lt h hb).2,λi mv' h' ah=>by obtain⟨o',ae,bl⟩:=dR hn h';have:=hm.dis o o' mv mv' b h bl hb ah;subst this;rw[hi]at ae;cases ae⟩
 have af:∀k mv b,μr k=some mv->b∈mv.rs->w.heap.size<=b\/∃o mv0,(∃i,cW ρ o 64=some i)/\μ o=some mv0/\b∈mv0.rs:=λk mv b h hb=>by
  have:=(ai.lt h hb).1;by_cases aj:b<w.heap.size
  ·by_cases hex:∃i mv0,eK μ ρ i=some mv0/\b∈mv0.rs;·obtain⟨i,mv0,h1,h2⟩:=hex;obtain⟨o,h3,h4⟩:=dR hn h1;exact .inr ⟨o,mv0,⟨i,h3⟩,h4,h2⟩
   ·exact absurd ⟨aj,λi mv0 h1 h2=>hex ⟨i,mv0,h1,h2⟩⟩ this
  ·exact .inl (by omega)
 have ad:∀o i,cW ρ o 64=some i->∃y mv mv',(i,y)∈res.2/\μ o=some mv/\μr i=some mv'/\mv'.v=mv.v:=λo i hi=>by
  obtain⟨h1,h2⟩:=eR hi;have aj:i-64<ρ.length:=by rw[aA]at h2;exact(xq.1 h2).1
  have:=bu (i-64) (xar.2 aj);rw[xce,show 64+(i-64)=i by omega]at this;obtain⟨p,hp,e⟩:=xaf.1 this;obtain⟨mv,rs,cm,k1,k2⟩:=bh p hp (by omega);rw[e,A3 hi]at k1;rw[e]at k2;exact⟨p.2,mv,_,by rw[<-e];exact hp,k1,k2,rfl⟩
 have bm:(∀o mv b,μ o=some mv->cW ρ o 64=none->b∈mv.rs->Xc b)->∀b,b<w'.heap.size->SS Xc μr b->SS X (join μ μr ρ d) b:=λhA b _ hS=>
  ⟨λh=>hS.1 (cg b h),λo mv h e=>by
   rcases lA h with⟨hi,h⟩|⟨i,hi,h⟩|⟨_,_,k,_,_,h⟩
   ·exact hS.1 (hA o mv b h hi e)
   ·exact hS.2 i mv h e
   ·exact hS.2 k mv h e⟩
 have bz:∀o i,cW ρ o 64=some i->((∃e e2 t l hh,g o=some (.rows e e2 t l hh))\/∃k e e2 t ix l,g o=some (.perm k e e2 t ix l))->o∈cT g ((eW ρ d res).1.2++(eW ρ d res).2):=λo i hi ay=>by
  obtain⟨y,_,_,hy,_⟩:=ad o i hi;obtain⟨h1,h2⟩:=eR hi;have bb:rn ρ d i=o:=by unfold rn;rw[qh (by omega),h2];rfl
  unfold cT;refine xaf.2 ⟨(rn ρ d i,tW ρ d y),xak.2 ⟨Bt _ (xaf.2 ⟨(i,y),xak.2 ⟨hy,by simpa using h1⟩,rfl⟩),?_⟩,bb⟩;have hk:=(ak _ hy).2;unfold uY;rw[bb];rcases ay with⟨e,e2,t,l,hh,ay⟩|⟨k,e,e2,t,ix,l,ay⟩
  ·rw[ay];cases y with
   |arr=>rfl
   |spent=>rfl
   |cells=>rfl
   |perm=>rfl
   |rows e e2 t l h'=>
    cases h' with
    |none=>rfl
    |some _=>simp at hk
  ·rw[ay];cases y with
   |arr=>rfl
   |spent=>rfl
   |cells=>rfl
   |perm=>rfl
   |rows e e2 t l h'=>
    cases h' with
    |none=>rfl
    |some _=>simp at hk
 have hs:Turns μ (join μ μr ρ d) (cT g ((eW ρ d res).1.2++(eW ρ d res).2)):=by
  refine⟨λo mv h=>?_,λo mv hk h=>?_⟩
  ·cases hi:cW ρ o 64 with
   |none=>exact⟨mv.rs,mv.hs,JD hi h,λ_=>Ext.refl _⟩
   |some i=>
    obtain⟨y,aa,ab,_,k1,k2,k3⟩:=ad o i hi;rw[h]at k1;cases k1;refine⟨ab.rs,ab.hs,by rw[N4 hi,k2,<-k3],λhn=>?_⟩;obtain⟨z,hz,ao⟩:=hm.ob o mv h;have ca:mv.hs=[]:=by
     cases z with
     |arr e t l=>exact ao.1.1
     |cells cs=>obtain⟨b,vs,e,h1,_⟩:=ao;rw[h1]
     |spent=>exact ao.hs
     |rows e e2 t l hh=>exact absurd (bz o i hi (.inl ⟨_,_,_,_,_,hz⟩)) hn
     |perm k e e2 t ix l=>exact absurd (bz o i hi (.inr ⟨_,_,_,_,_,_,hz⟩)) hn
    rw[ca];exact Ext.nil _
  ·obtain⟨z,hz,ao⟩:=hm.ob o mv h;obtain⟨q,hq,e⟩:=xaf.1 hk;have hk:=(xak.1 hq).2;unfold uY at hk;rw[e,hz]at hk;cases z with
   |rows e e2 t l hh=>
    rcases ao.1.own.2 with⟨e1,_⟩|⟨gb,cap,cur,e1,_⟩
    ·exact⟨_,_,_,e1⟩
    ·exact⟨_,_,_,e1⟩
   |perm k e e2 t ix l=>
    rcases(PermOK.own ao).2 with⟨e1,_⟩|⟨gb,cap,cur,e1,_⟩
    ·exact⟨_,_,_,e1⟩
    ·exact⟨_,_,_,e1⟩
   |_=>split at hk<;>cases hk
 have cb:∀p∈(eW ρ d res).1.2++(eW ρ d res).2,(∃q∈res.2,q.1<64/\p=(d*64+q.1,q.2))\/∃q∈res.2,64<=q.1/\p=(rn ρ d q.1,tW ρ d q.2):=λp hp=>by
  rcases xp.1 hp with hp|hp;·obtain⟨q,hq,rfl⟩:=xaf.1 hp;obtain⟨h1,h2⟩:=xak.1 hq;exact .inl ⟨q,h1,by simpa using h2,rfl⟩
  ·obtain⟨q,hq,rfl⟩:=xaf.1 hp;obtain⟨h1,h2⟩:=xak.1 hq;exact .inr ⟨q,h1,by simpa using h2,rfl⟩
 have ch:∀b,b<w.heap.size->(∀p∈(eW ρ d res).1.2++(eW ρ d res).2,∀mv,μ p.1=some mv->b∉mv.rs)->w'.heap[b]? =w.heap[b]? :=λb hb hp=>by
  refine hk.block b ⟨hb,λi mv h bj=>?_⟩;obtain⟨o,hi,ho⟩:=dR hn h;obtain⟨y,aa,ab,hy,_⟩:=ad o i hi;obtain⟨h1,h2⟩:=eR hi;refine hp (rn ρ d i,tW ρ d y) (Bt _ (xaf.2 ⟨(i,y),xak.2 ⟨hy,by simpa using h1⟩,rfl⟩)) mv ?_ bj;have:rn ρ d i=o:=by unfold rn;rw[qh (by omega),h2];rfl
  rw[this];exact ho
 refine⟨join μ μr ρ d,⟨hs,λo mv h=>?_,λo mv b h hb=>?_,hk.mono aw,ch,λg' h1 h2=>⟨hm.hX,λb hb=>yF (hm.hlo b hb) hk.size,λo mv h=>?_,λo p aa ab b h3 h4 h5 h6=>?_,hm.tab.step (hk.mono aw).block⟩⟩,?_⟩
 ·rcases lA h with⟨hi,h⟩|⟨i,hi,h⟩|⟨_,_,k,bc,rfl,hz⟩
  ·exact .inl ⟨mv,h⟩
  ·obtain⟨y,aa,_,_,k1,_⟩:=ad o i hi;exact .inl ⟨aa,k1⟩
  ·obtain⟨p,hp,rfl⟩:=av k mv hz;exact .inr ⟨(d*64+p.1,p.2),D1 _ (xaf.2 ⟨p,xak.2 ⟨hp,by simpa using bc⟩,rfl⟩),rfl⟩
 ·rcases lA h with⟨hi,h⟩|⟨i,hi,h⟩|⟨_,_,k,bc,rfl,hz⟩
  ·exact .inr ⟨o,mv,h,hb⟩
  ·exact(af i mv b h hb).imp id λ⟨o,mv0,_,h4,h5⟩=>⟨o,mv0,h4,h5⟩
  ·exact(af k mv b hz hb).imp id λ⟨o,mv0,_,h4,h5⟩=>⟨o,mv0,h4,h5⟩
 ·rcases lA h with⟨hi,h⟩|⟨i,hi,h⟩|⟨_,_,k,bc,rfl,hz⟩
  ·obtain⟨y,hy,az⟩:=hm.ob o mv h;refine⟨pA _ y,?_,ObOK.kill hm.hlo (λb hb hS=>⟨?_,?_⟩) (λb hb=>hk.block b (aw b hb)) (λb hb=>hk.block b (bk o mv b h hi hb)) hs az⟩
   ·rw[h2 o mv h];·rw[hy];rfl
    ·intro p hp e;rcases cb p hp with⟨q,hq,aj,rfl⟩|⟨q,hq,hge,rfl⟩
     ·have:=au (d*64+q.1,q.2) (xaf.2 ⟨q,xak.2 ⟨hq,by simpa using aj⟩,rfl⟩);simp only at e this;rw[e,h]at this;cases this
     ·simp only at e;have hl:=(ak q hq).1;have hx:aQ ρ (q.1-64)=some (ρ[q.1-64]'(by omega)):=by rw[aA];simp
      unfold rn at e;rw[qh (by omega),hx,xT]at e;rw[<-e,lC hn hx]at hi;cases hi
   ·exact⟨hS.1,λo' mv' h' ah=>by
     rcases lA h' with⟨_,h'⟩|⟨i,ae,h'⟩|⟨_,_,k,_,_,h'⟩
     ·exact hS.2 o' mv' h' ah
     ·rcases af i mv' b h' ah with h3|⟨o3,bn,_,h4,h5⟩
      ·omega
      ·exact hS.2 o3 bn h4 h5
     ·rcases af k mv' b h' ah with h3|⟨o3,bn,_,h4,h5⟩
      ·omega
      ·exact hS.2 o3 bn h4 h5⟩
   ·exact hk.block b ⟨hb,λi mv' h' ah=>by obtain⟨o',_,cj⟩:=dR hn h';exact hS.2 o' mv' cj ah⟩
  ·obtain⟨y,aa,ab,hy,k1,k2,_⟩:=ad o i hi;obtain⟨y',cc,az⟩:=ai.ob i mv h;have:=tU bs hy;rw[this]at cc;cases cc;obtain⟨h3,h4⟩:=eR hi;have bb:rn ρ d i=o:=by unfold rn;rw[qh (by omega),h4];rfl
   refine⟨tW ρ d y,?_,M0 hj aw (bg.imp (λe=>?_) bm) az⟩;·rw[<-bb];exact h1 (rn ρ d i,tW ρ d y) (Bt _ (xaf.2 ⟨(i,y),xak.2 ⟨hy,by simpa using h3⟩,rfl⟩))
   ·simp only[xcy,Wm]at e;simpa using e.2 _ hy
  ·obtain⟨y,hy,az⟩:=ai.ob k mv hz;have ba:=dX hy;have be:=(ak _ ba).2;refine⟨y,h1 (d*64+k,y) (D1 _ (xaf.2 ⟨(k,y),xak.2 ⟨ba,by simpa using bc⟩,rfl⟩)),?_⟩;have this:∀{M:Nat->Option MV} {S':Nat->Prop},ObOK P w' lo M S' (tW ρ d y) mv->ObOK P w' lo M S' y mv:=λ{M S'} hh=>by
    cases y with
    |arr e t l=>exact hh
    |spent=>exact hh
    |perm k e e2 t ix l=>exact hh
    |rows e e2 t l hk=>
     cases hk with
     |none=>exact hh
     |some p=>simp at be
    |cells cs=>simp at be;omega
   refine this (M0 hj aw (bg.imp (λe=>?_) bm) az);simp only[xcy,Wm]at e;simpa using e.2 _ ba
 ·have bd:∀{o i:Nat} {aa ab:MV} {b:Nat},μ o=some aa->cW ρ o 64=none->μr i=some ab->b∈aa.rs->b∈ab.rs->False:=λ{o i aa ab b} ho hi hr cd ck=>by
   rcases af i ab b hr ck with h|⟨o',mv0,⟨i',ae⟩,bl,ah⟩
   ·have:=(hm.lt ho cd).2;omega
   ·have:=hm.dis o o' aa mv0 b ho bl cd ah;subst this;rw[hi]at ae;cases ae
  have al:∀{o i:Nat},cW ρ o 64=some i->64<=i/\aQ ρ (i-64)=some o:=λh=>eR h;rcases lA h3 with⟨hi,h3⟩|⟨i,hi,h3⟩|⟨_,_,k,cn,rfl,z3⟩<;>rcases lA h4 with⟨ae,h4⟩|⟨i',ae,h4⟩|⟨_,_,k',cp,rfl,z4⟩
  ·exact hm.dis o p aa ab b h3 h4 h5 h6
  ·exact(bd h3 hi h4 h5 h6).elim
  ·exact(bd h3 hi z4 h5 h6).elim
  ·exact(bd h4 ae h3 h6 h5).elim
  ·have:=ai.dis i i' aa ab b h3 h4 h5 h6;subst this;have a1:=(al hi).2;have a2:=(al ae).2;rw[a1]at a2;cases a2;rfl
  ·have:=ai.dis i k' aa ab b h3 z4 h5 h6;have:=(al hi).1;omega
  ·exact(bd h4 ae z3 h6 h5).elim
  ·have:=ai.dis k i' aa ab b z3 h4 h5 h6;have:=(al ae).1;omega
  ·rw[ai.dis k k' aa ab b z3 z4 h5 h6]
 ·have bf:∀v∈res.1,∀y,RelV P w' (eE w (eK μ ρ)) μr (SS Xc μr) v y->RelV P w' lo (join μ μr ρ d) (SS X (join μ μr ρ d)) (FH ρ d v) y:=λv hv y hy=>
   Zr hj (bt v hv) (bg.imp (λe=>by simp only[xcy,Wm]at e;simpa using e.1 v hv) bm) hy
  rcases br with⟨v,hv,hy⟩|⟨cf,hy⟩
  ·simp only[eW,hv];exact bf v (by rw[hv];exact xu) x hy
  ·have bo:(eW ρ d res).1.1=.tup (res.1.map (FH ρ d)):=by
    simp only[eW];split
    next v hv=>rw[hv]at cf;simp at cf
    next=>rfl
   rw[bo];cases hy with
   | @tup _ _ xs hl h=>
    refine .tup (by simpa using hl) λj v ar=>?_;rw[aA,oE]at ar;cases hu:res.1[j]? with
    |none=>rw[hu]at ar;cases ar
    |some u=>rw[hu]at ar;simp only[oG,xe]at ar;subst ar;exact bf u (xz hu) _ (h j u (by rw[aA];exact hu))
end
end
end Go.Proofs.YtjiljcblmgeioaaGreatDoor
