/-
 A types' table is checked.
-/
import Derived.Test.YteiekijgoifhoaaGreatDoorB26
import Derived.ProofKit
namespace Go.Proofs.YteiekijgoifhoaaGreatDoor
def infoChk(P:Program)(T:Nat)(t:Ty):Bool:=
 match P.info? T with
 |some i=>Nat.beq i.size t.size&&match i.zero with
  |some z=>isZ t z.cells.toList
  |none=>false
 |none=>false
def scChk(P:Program)(T:Nat):Ty→Bool
 | .int k=>match P.underlying T with
  |some (.int k')=>decide (k'=k)
  |_=>false
 | .bool=>match P.underlying T with
  |some .bool=>true
  |_=>false
 | .str=>match P.underlying T with
  |some .string=>true
  |_=>false
 |_=>false
def fieldsChk(P:Program):List Go.Field→List (Nat×Ty)→Nat→Bool
 | [],[],_=>true
 |f::fs,(ty,t)::ts,o=>Nat.beq f.type ty&&Nat.beq f.offset o&&infoChk P ty t&&fieldsChk P fs ts (o+t.size)
 |_,_,_=>false
def tdChk(P:Program)(T:Nat):TD→Bool
 | .sc t=>scChk P T t&&infoChk P T t
 | .sl e t b=>(match P.underlying T with
   |some (.slice e')=>Nat.beq e' e
   |_=>false)&&(match P.info? e with
   |some i=>Nat.beq i.size t.size&&Nat.beq i.bytes b&&(match i.zero with
    |some z=>isZ t z.cells.toList
    |none=>false)
   |none=>false)&&(match P.info? T with
   |some i=>Nat.beq i.size 1&&(match i.zero with
    |some (.slice none 0 0)=>true
    |_=>false)
   |none=>false)
 | .st t fs=>(match P.underlying T with
   |some (.struct fields)=>fieldsChk P fields.toList fs 0&&(!scFs fs||(!P.eqGuardType P.depth T&& !P.stoodInHeld T&&fields.toList.all fun f=>f.name != "_"))
   |_=>false)&&Nat.beq (sumSize fs) t.size&&infoChk P T t
 | .ar n e te t=>(match P.underlying T with
   |some (.array n' e')=>Nat.beq n' n&&Nat.beq e' e
   |_=>false)&&infoChk P e te&&(Nat.beq (n*te.size) t.size&&(!scTy te|| !P.eqGuardType P.depth T))&&infoChk P T t
 | .other=>(match P.underlying T with
   |some d=>plainDesc d
   |none=>false)&&(match P.info? T with
   |some i=>Nat.beq i.size 1&&(match i.zero with
    |some z=>Nat.beq z.cells.size 1
    |none=>false)
   |none=>false)
 | .no=>true
theorem infoChk_ok{P:Program}{T:Nat}{t:Ty}(h:infoChk P T t=true):InfoOK P T t:=by
 unfold infoChk at h
 split at h
 next i hi=>
  simp only [xg] at h
  obtain⟨h1,h2⟩:=h
  split at h2
  next z hz=>exact⟨i,z,hi,xe h1,hz,h2⟩
  next=>cases h2
 next=>cases h
theorem scChk_ok{P:Program}{T:Nat}{t:Ty}(h:scChk P T t=true):∃d,scOf t=some d∧P.underlying T=some d:=by
 cases t with
 |int k=>
  simp only [scChk] at h
  split at h
  next k' hk=>
   have:k'=k:=by simpa using h
   subst this
   exact⟨_,rfl,hk⟩
  next=>cases h
 |bool=>
  simp only [scChk] at h
  split at h
  next hk=>exact⟨_,rfl,hk⟩
  next=>cases h
 |str=>
  simp only [scChk] at h
  split at h
  next hk=>exact⟨_,rfl,hk⟩
  next=>cases h
 |slice t=>simp [scChk] at h
 |seq g=>simp [scChk] at h
 |hdr=>simp [scChk] at h
 |pair a b=>simp [scChk] at h
theorem fieldsChk_ok{P:Program}:∀ {fs:List Go.Field} {ts:List (Nat×Ty)} {o:Nat},fieldsChk P fs ts o=true→fieldsOK P fs ts o
 | [],[],_,_=>trivial
 |f::fs,(ty,t)::ts,o,h=>by
  simp only [fieldsChk,xg] at h
  exact⟨xe h.1.1.1,xe h.1.1.2,infoChk_ok h.1.2,fieldsChk_ok h.2⟩
 | [],_::_,_,h=>by simp [fieldsChk] at h
 |_::_,[],_,h=>by simp [fieldsChk] at h
theorem tdChk_ok{P:Program}{T:Nat}{d:TD}(h:tdChk P T d=true):TDok P T d:=by
 cases d with
 |sc t=>
  simp only [tdChk,xg] at h
  obtain⟨d,h1,h2⟩:=scChk_ok h.1
  exact⟨d,h1,h2,infoChk_ok h.2⟩
 |sl e t b=>
  simp only [tdChk,xg] at h
  obtain⟨⟨h1,h2⟩,h3⟩:=h
  split at h1
  next e' he=>
   split at h2
   next i hi=>
    simp only [xg] at h2
    split at h3
    next j hj=>
     simp only [xg] at h3
     obtain⟨h3,h4⟩:=h3
     obtain⟨⟨h5,h6⟩,h7⟩:=h2
     split at h4
     next hz=>
      split at h7
      next z aa=>
       exact⟨by rw [he,xe h1],⟨i,z,hi,xe h5,xe h6,aa,h7⟩,j,hj,xe h3,hz⟩
      next=>cases h7
     next=>cases h4
    next=>cases h3
   next=>cases h2
  next=>cases h1
 |st t fs=>
  simp only [tdChk,xg] at h
  obtain⟨⟨h1,h2⟩,h3⟩:=h
  split at h1
  next fields hf=>
   simp only [xg] at h1
   refine⟨fields,hf,fieldsChk_ok h1.1,⟨xe h2,fun hs=>?_⟩,infoChk_ok h3⟩
   have h4:=h1.2
   rw [hs] at h4
   simp only [xbv,xev,xg,xat,xp,bne_iff_ne,ne_eq] at h4
   exact⟨h4.1.1,h4.1.2,h4.2⟩
  next=>cases h1
 |ar n e te t=>
  simp only [tdChk,xg] at h
  obtain⟨⟨⟨h1,h2⟩,h3⟩,h4⟩:=h
  split at h1
  next n' e' he=>
   simp only [xg] at h1
   refine⟨by rw [he,xe h1.1,xe h1.2],infoChk_ok h2,⟨xe h3.1,fun hs=>?_⟩,infoChk_ok h4⟩
   have h5:=h3.2
   rw [hs] at h5
   simpa using h5
  next=>cases h1
 |other=>
  simp only [tdChk,xg] at h
  obtain⟨h1,h2⟩:=h
  split at h1
  next d hd=>
   split at h2
   next i hi=>
    simp only [xg] at h2
    obtain⟨h3,h4⟩:=h2
    split at h4
    next z hz=>exact⟨d,i,z,hd,h1,hi,xe h3,hz,xe h4⟩
    next=>cases h4
   next=>cases h2
  next=>cases h1
 |no=>trivial
theorem tab_ok{P:Program}{l:List (Nat×TD)}(h:l.all (fun p=>tdChk P p.1 p.2)=true):TabOK P (fun i=>match look l i with|some d=>d|none=>.no):=by
 intro T
 simp only
 split
 next d hd=>exact tdChk_ok (xp.1 h _ (look_mem hd))
 next=>trivial
end Go.Proofs.YteiekijgoifhoaaGreatDoor
/-
 Plain rules for rounds that count.
-/
namespace Go.Proofs.YteiekijgoifhoaaGreatDoor
theorem wrap64{n:Int}(h1: -9223372036854775808≤n)(h2:n<9223372036854775808):IntKind.wrap .i64 n=n:=by
 unfold IntKind.wrap
 simp only [IntKind.bits,IntKind.signed]
 simp
 omega
theorem inR_nat{i n:Nat}(h:i<n):inR (i:Int) n=true:=by
 unfold inR
 simp
 omega
end Go.Proofs.YteiekijgoifhoaaGreatDoor
/-
 Arguments are opened: what is trodden reads as typed data.
-/
namespace Go.Proofs.YteiekijgoifhoaaGreatDoor
open Go.RowKit (Below)
def Fit:(t:Ty)→t.I→Prop
 | .int k,n=>(Lit.int k n).wf=true
 | .bool,_=>True
 | .str,s=>List.length (α:=UInt8) s≤maxLen
 | .seq _,_=>False
 | .hdr,_=>False
 | .slice t,l=>l.length≤maxLen∧∀x∈l,Fit t x
 | .pair a b,v=>Fit a v.1∧Fit b v.2
def fldChk(P:Program)(chk:Nat→Ty→Bool):List Go.Field→Nat→Ty→Bool
 | [],_,_=>false
 | [f],o,t=>Nat.beq f.offset o&&Nat.beq (P.cellsOf f.type) t.size&&chk f.type t
 |f::g::fs,o,.pair a b=>Nat.beq f.offset o&&Nat.beq (P.cellsOf f.type) a.size&&chk f.type a&&fldChk P chk (g::fs) (o+a.size) b
 |_::_::_,_,_=>false
def tyChk(P:Program):Nat→Nat→Ty→Bool
 |0,_,_=>false
 |n+1,T,t=>match P.underlying T with
  |some (.int k)=>match t with
   | .int k'=>decide (k=k')
   |_=>false
  |some .bool=>match t with
   | .bool=>true
   |_=>false
  |some .string=>match t with
   | .str=>true
   |_=>false
  |some (.slice e)=>match t with
   | .slice t=>Nat.beq (P.cellsOf e) t.size&&tyChk P n e t
   |_=>false
  |some (.struct fs)=>Nat.beq (P.cellsOf T) t.size&&fldChk P (tyChk P n) fs.toList 0 t
  |_=>false
section
variable {H:Type} {enc:TypeId×Value→H} {P:Program} {w:World} {base:Nat} {spare:Nat→Bool} {held:Bool}
theorem mapM_get{α β:Type}{f:α→Option β}:∀ {l:List α} {r:List β},l.mapM f=some r→∀ (i:Nat) (a:α),l[i]? =some a→∃b,r[i]? =some b∧f a=some b
 | [],r,h,i,a,ha=>by simp at ha
 |x::l,r,h,i,a,ha=>by
  rw [xfe] at h
  cases hx:f x with
  |none=>rw [hx] at h;cases h
  |some y=>
   rw [hx] at h
   cases hl:l.mapM f with
   |none=>simp [hl] at h
   |some ys=>
    simp [hl] at h
    subst h
    match i,ha with
    |0,ha=>simp at ha;subst ha;exact⟨y,rfl,hx⟩
    |i+1,ha=>exact mapM_get hl i a ha
theorem cells_get{a:Addr}{n:Nat}{cs:List Value}(h:w.cells? base a n=some cs):cs.length=n∧∀j u,cs[j]? =some u→w.cell? (a.add j)=some u:=by
 unfold World.cells? at h
 split at h
 ·have hlen:∀ {l:List Nat} {r:List Value},l.mapM (fun i=>w.cell? (a.add i))=some r→r.length=l.length:=by
   intro l
   induction l with
   |nil=>intro r h;simp at h;subst h;rfl
   |cons x l ih=>
    intro r h
    rw [xfe] at h
    cases hx:w.cell? (a.add x) with
    |none=>rw [hx] at h;cases h
    |some y=>
     rw [hx] at h
     cases hl:l.mapM (fun i=>w.cell? (a.add i)) with
     |none=>simp [hl] at h
     |some ys=>simp [hl] at h;subst h;simp [ih hl]
  have hl:=hlen h
  rw [xdi] at hl
  refine⟨hl,fun j u hu=>?_⟩
  have hj:j<n:=by
   rw [←hl]
   exact(xk.1 hu).1
  obtain⟨b,h1,h2⟩:=mapM_get h j j (xbs hj)
  rw [hu] at h1
  cases h1
  exact h2
 ·cases h
theorem spot_none{a:Addr}{u:Value}(h:w.cell? a=some u):a.spot=none:=by
 unfold World.cell? at h
 split at h
 ·split at h
  ·cases h
  ·rename_i hs
   cases aa:a.spot with
   |none=>rfl
   |some x=>rw [aa] at hs;simp at hs
 ·cases h
theorem fields_rep{chk:Nat→Ty→Bool}{cs:List Value}{G:List Go.Field}
  (hF:∀f∈G,∀t,chk f.type t=true→P.cellsOf f.type=t.size→f.offset+t.size≤cs.length→∃v,Rep (fun _=>True) w t v ((cs.drop f.offset).take t.size)∧Fit t v):
  ∀ {fs:List Go.Field} {o:Nat} {t:Ty},(∀f∈fs,f∈G)→fldChk P chk fs o t=true→o+t.size≤cs.length→∃v,Rep (fun _=>True) w t v ((cs.drop o).take t.size)∧Fit t v
 | [],_,_,_,h,_=>by simp [fldChk] at h
 | [f],o,t,hm,h,hle=>by
  simp only [fldChk,xg] at h
  obtain⟨⟨h1,h2⟩,h3⟩:=h
  have e1:=xe h1
  rw [←e1] at hle⊢
  exact hF f (hm f (by simp)) t h3 (xe h2) hle
 |f::g::fs,o,.pair a b,hm,h,hle=>by
  simp only [fldChk,xg] at h
  obtain⟨⟨⟨h1,h2⟩,h3⟩,h4⟩:=h
  have e1:=xe h1
  simp only [Ty.size] at hle
  obtain⟨v1,r1,k1⟩:=hF f (hm f (by simp)) a h3 (xe h2) (by omega)
  rw [e1] at r1
  obtain⟨v2,r2,k2⟩:=fields_rep hF (fun x hx=>hm x (xu _ hx)) h4 (by omega)
  refine⟨(v1,v2),⟨_,_,?_,r1,r2⟩,k1,k2⟩
  simp only [Ty.size]
  rw [←xdm,List.take_add]
 |_::_::_,_,.int _,_,h,_=>by simp [fldChk] at h
 |_::_::_,_,.bool,_,h,_=>by simp [fldChk] at h
 |_::_::_,_,.str,_,h,_=>by simp [fldChk] at h
 |_::_::_,_,.seq _,_,h,_=>by simp [fldChk] at h
 |_::_::_,_,.hdr,_,h,_=>by simp [fldChk] at h
 |_::_::_,_,.slice _,_,h,_=>by simp [fldChk] at h
theorem open_rep:∀ {n T:Nat} {t:Ty} {fuel:Nat} {cs:List Value} {x:DataW H×List MemPlace},tyChk P n T t=true→DataW.trod enc P w base spare held fuel T cs=some x→∃v,Rep (fun _=>True) w t v cs∧Fit t v
 |0,_,_,_,_,_,h,_=>by simp [tyChk] at h
 |n+1,T,t,fuel,cs,x,hc,h=>by
  simp only [tyChk] at hc
  split at hc
  next k hk=>
   split at hc
   next k'=>
    have e:k=k':=by simpa using hc
    subst e
    obtain⟨m,rfl,_,hw⟩:=DataW.trod_int hk h
    exact⟨m,rfl,hw⟩
   next=>cases hc
  next hk=>
   split at hc
   next=>
    obtain⟨b,rfl,_⟩:=DataW.trod_bool hk h
    exact⟨b,rfl,trivial⟩
   next=>cases hc
  next hk=>
   split at hc
   next=>
    obtain⟨s,rfl,_,hs⟩:=DataW.trod_string hk h
    exact⟨s.data.toList,by simp [Rep],by
     show s.data.toList.length≤maxLen
     rw [xbf]
     exact hs⟩
   next=>cases hc
  next e hk=>
   split at hc
   next t=>
    simp only [xg] at hc
    have aa:=xe hc.1
    rcases DataW.trod_slice hk h with⟨rfl,_⟩|⟨a,len,cap,av,rest,m,_,rfl,_,_,ah,hm,hlen,ad,_⟩
    ·exact⟨[],Rep.nil,xcp _,fun x hx=>by cases hx⟩
    ·have hex:∀i,∃v:t.I,i<len→Fit t v∧∃c,Rep (fun _=>True) w t v c∧∀j u,c[j]? =some u→w.cell? ((a.add (i*t.size)).add j)=some u:=fun i=>by
      by_cases hi:i<len
      ·have hy:=ad i hi
       rw [xh (by omega)] at hy
       obtain⟨c,ai,hy⟩:=bind_some' hy
       obtain⟨v,h1,h2⟩:=open_rep hc.2 hy
       exact⟨v,fun _=>⟨h2,c,h1,by rw [←aa];exact(cells_get ai).2⟩⟩
      ·exact⟨t.dflt,fun h=>absurd h hi⟩
     refine⟨(List.range len).map fun i=>(hex i).choose,⟨some a,cap,by simp,by simpa using ah,fun i x hx=>?_⟩,by simp;omega,fun x hx=>?_⟩
     ·rw [xr] at hx
      have hi:i<len:=by
       rcases xcz i len with h|h
       ·exact h
       ·rw [xbj (by simpa using h)] at hx;cases hx
      rw [xbs hi] at hx
      simp only [xy,xc] at hx
      subst hx
      obtain⟨_,c,h1,h2⟩:=(hex i).choose_spec hi
      have au:=t.size_pos
      have hl:=h1.len
      have ae:a.spot=none:=by
       obtain⟨_,c0,g1,g2⟩:=(hex 0).choose_spec (by omega)
       have aw:=g1.len
       have h0:∃u,c0[0]? =some u:=⟨c0[0]'(by omega),xh _⟩
       obtain⟨u,hu⟩:=h0
       have:=spot_none (g2 0 u hu)
       rw [xde] at this
       have e:(a.add 0).add 0=a:=by simp [Addr.add]
       rw [e] at this
       exact this
      obtain⟨ab,ao,ay⟩:=a
      simp only at ae
      subst ae
      refine⟨ab,ao,c,rfl,trivial,h1,fun j u hu=>?_⟩
      have:=h2 j u hu
      rw [Addr.add_lit,Addr.add_lit,xda] at this
      exact this
     ·obtain⟨i,hi,rfl⟩:=xae.1 hx
      exact((hex i).choose_spec (xaq.1 hi)).1
   next=>cases hc
  next fs hk=>
   simp only [xg] at hc
   have aa:=xe hc.1
   obtain⟨xs,m,_,_,hlen,az,hf⟩:=DataW.trod_struct hk h
   have ba:cs.length=t.size:=by rw [hlen,aa]
   obtain⟨v,h1,h2⟩:=fields_rep (P:=P) (w:=w) (cs:=cs) (G:=fs.toList) (chk:=tyChk P n) (fun f af t' aj ak hle=>by
    obtain⟨i,hi,he⟩:=xbr af
    have al:i<fs.size:=by simpa using hi
    have:=hf i f (by rw [xaj al];simpa using he)
    rw [xh (by omega),ak] at this
    exact open_rep aj this) (fun _ h=>h) hc.2 (by omega)
   rw [xgb,xah (by omega)] at h1
   exact⟨v,h1,h2⟩
  next=>cases hc
end
end Go.Proofs.YteiekijgoifhoaaGreatDoor
/-
 The row of a law: a function that hands back true for all data that fit its parameters' types.
-/
namespace Go.Proofs.YteiekijgoifhoaaGreatDoor
open Go.ChangeShapes Go.WideShapes Go.ChangeAt Go.RowKit
open Go.RowKit (Below)
def FitL:(ts:List Ty)→HL ts→Prop
 | [],_=>True
 |t::ts,x=>Fit t x.1∧FitL ts x.2
def parChk(P:Program)(n T:Nat)(t:Ty):Bool:=
 tyChk P n T t&&P.readableRec T&&decide (T<P.types.size)&&match P.underlying T with
  |some (.struct _)=> !(Nat.beq t.size 1)
  |_=>true
def parsChk(P:Program)(n:Nat):List Nat→List Ty→Bool
 | [],[]=>true
 |T::Ts,t::ts=>parChk P n T t&&parsChk P n Ts ts
 |_,_=>false
section
variable {H:Type} {enc:TypeId×Value→H} {P:Program} {w w':World} {base:Nat}
theorem open_par{n T:Nat}{t:Ty}{v:Value}{d:DataW H}{p:List MemPlace}{spare:Nat→Bool}{held:Bool}{b:Nat}(hc:parChk P n T t=true)(hv:Value.okWide P w .any b T v)(h:DataW.Trod enc P w base spare held T v d p):
  ∃x,Rep (fun _=>True) w t x v.cells.toList∧(t.size=1→v.cells= #[v])∧(t.size≠1→∃cs,v=.agg cs)∧Fit t x:=by
 simp only [parChk,xg] at hc
 obtain⟨⟨⟨h1,_⟩,_⟩,h4⟩:=hc
 obtain⟨fuel,h⟩:=h
 obtain⟨x,k1,k2⟩:=open_rep h1 h
 refine⟨x,k1,?_,?_,k2⟩
 ·intro hs
  cases n with
  |zero=>simp [tyChk] at h1
  |succ n=>
   simp only [tyChk] at h1
   split at h1
   next k hk=>obtain⟨m,rfl⟩:=okWide_int hk hv;rfl
   next hk=>obtain⟨m,rfl⟩:=okWide_bool hk hv;rfl
   next hk=>obtain⟨m,rfl⟩:=okWide_string hk hv;rfl
   next e hk=>obtain⟨a,l,c,rfl⟩:=okWide_slice hk hv;rfl
   next fs hk=>
    rw [hk] at h4
    simp [hs] at h4
   next=>cases h1
 ·intro hs
  cases n with
  |zero=>simp [tyChk] at h1
  |succ n=>
   simp only [tyChk] at h1
   split at h1
   next k hk=>
    cases t<;>simp_all [Ty.size]
   next hk=>cases t<;>simp_all [Ty.size]
   next hk=>cases t<;>simp_all [Ty.size]
   next e hk=>cases t<;>simp_all [Ty.size]
   next fs hk=>
    obtain⟨cs,h,_⟩:=okWide_struct hk hv
    exact⟨cs,h⟩
   next=>cases h1
theorem open_pars[Tabs]{n:Nat}:∀ {Ts:List Nat} {ts:List Ty} {vs:List Value} {ds:List (DataW H)} {p:List MemPlace},parsChk P n Ts ts=true→
  (∀ (j:Nat) t v,Ts[j]? =some t→vs[j]? =some v→Value.okWide P w .any base t v)→DataW.TrodAll enc P w 0 (fun _=>true) true Ts vs ds p→∃h:HL ts,HRel w ts h vs∧FitL ts h
 | [],[],[],_,_,_,_,_=>⟨(),rfl,trivial⟩
 | [],[],_::_,[],_,_,_,h=>by simp [DataW.TrodAll] at h
 | [],[],_::_,_::_,_,_,_,h=>by simp [DataW.TrodAll] at h
 | [],_::_,_,_,_,hc,_,_=>by simp [parsChk] at hc
 |_::_,[],_,_,_,hc,_,_=>by simp [parsChk] at hc
 |T::Ts,t::ts,[],_,_,_,_,h=>by simp [DataW.TrodAll] at h
 |T::Ts,t::ts,v::vs,[],_,_,_,h=>by simp [DataW.TrodAll] at h
 |T::Ts,t::ts,v::vs,d::ds,p,hc,hv,h=>by
  simp only [parsChk,xg] at hc
  obtain⟨p1,p2,h1,h2,rfl⟩:=h
  obtain⟨x,k1,k2,k3,k4⟩:=open_par hc.1 (hv 0 T v rfl rfl) h1
  obtain⟨r,k5,k6⟩:=open_pars hc.2 (fun j t v ht aa=>hv (j+1) t v ht aa) h2
  exact⟨(x,r),⟨v,vs,rfl,k1,k2,k3,k5⟩,k4,k6⟩
theorem trod_stays(hl:laidOutB P=true){sp:Nat→Bool}{n:Nat}(hb:Below w.heap.size w w'):∀ {Ts:List Nat} {ts:List Ty} {vs:List Value} {ds:List (DataW H)} {p:List MemPlace},parsChk P n Ts ts=true→
  (∀x∈p,x.block<w.heap.size∧sp x.block=true)→DataW.TrodAll enc P w 0 (fun _=>true) true Ts vs ds p→DataW.TrodAll enc P w' 0 sp true Ts vs ds p
 | [],[],[],[],_,_,_,h=>h
 | [],_::_,_,_,_,hc,_,_=>by simp [parsChk] at hc
 |_::_,[],_,_,_,hc,_,_=>by simp [parsChk] at hc
 | [],[],[],_::_,_,_,_,h=>by simp [DataW.TrodAll] at h
 | [],[],_::_,[],_,_,_,h=>by simp [DataW.TrodAll] at h
 | [],[],_::_,_::_,_,_,_,h=>by simp [DataW.TrodAll] at h
 |T::Ts,t::ts,[],_,_,_,_,h=>by simp [DataW.TrodAll] at h
 |T::Ts,t::ts,v::vs,[],_,_,_,h=>by simp [DataW.TrodAll] at h
 |T::Ts,t::ts,v::vs,d::ds,p,hc,hp,h=>by
  simp only [parsChk,xg] at hc
  obtain⟨p1,p2,h1,h2,rfl⟩:=h
  have aa:=hc.1
  simp only [parChk,xg,decide_eq_true_eq] at aa
  exact⟨p1,p2,WideElems.Trod_stays hl aa.1.1.2 aa.1.2 h1 (fun x hx=>hb.same (hp x (xag _ hx)).1) (fun x hx=>(hp x (xag _ hx)).2),
   trod_stays hl hb hc.2 (fun x hx=>hp x (xal _ hx)) h2,rfl⟩
theorem trodAll_len{sp:Nat→Bool}{held:Bool}:∀ {Ts:List Nat} {vs:List Value} {ds:List (DataW H)} {p:List MemPlace},DataW.TrodAll enc P w base sp held Ts vs ds p→Ts.length=vs.length∧ds.length=vs.length
 | [],[],[],_,_=>⟨rfl,rfl⟩
 | [],[],_::_,_,h=>by simp [DataW.TrodAll] at h
 | [],_::_,[],_,h=>by simp [DataW.TrodAll] at h
 | [],_::_,_::_,_,h=>by simp [DataW.TrodAll] at h
 |_::_,[],_,_,h=>by simp [DataW.TrodAll] at h
 |_::_,_::_,[],_,h=>by simp [DataW.TrodAll] at h
 |_::_,_::_,_::_,_,⟨_,_,_,h,_⟩=>by
  obtain⟨h1,h2⟩:=trodAll_len h
  simp [h1,h2]
end
theorem row_contract[Tabs]{H:Type}{enc:TypeId×Value→H}{P:Program}{f:Nat}{fn:Func}{s:ChangeSpec}{d:FD}{ts:List Ty}{n tb:Nat}{cv:HL ts→d.T}
  (be:P.funcs[f]? =some fn) (hl:laidOutB P=true) (ad:parsChk P n fn.params.toList ts=true) (ae:s.vars=[]) (av:fn.resultTypes= #[tb]) (hb:P.underlying tb=some .bool)
  (ak:∀ds:List (DataW H),ds.length=fn.params.size→s.fn H (ds++ [])= {results:=[.lit (.bool true)],args:=ds})
  (al:(fn.name== "runtime.NumGoroutine")=false) (ao:fn.body.isSome=true) (aw:∀h,val d.A (cv h).1=hlAV ts h) (bf:∀h,mkObs d.ins (cv h).2=[]) (bg:FDok P (f,d))
  (law:∀h,FitL ts h→∃r,d.F (cv h)=some r∧d.emb r=([.dat .bool true],[]))
  {W:World} {base:Nat} {args:Array Value} {ds gs:List (DataW H)} {before:List MemPlace}
  (ay:∀ (j:Nat) t v,fn.params[j]? =some t→args[j]? =some v→Value.okWide P W .any base t v)
  (hW:DataW.Whole enc P fn.params.toList s.vars false W args.toList ds gs before) (az:TabsOK W (old W fun _=>none)):
  Calls P f args W fun e W'=>∃v,e=.returned v∧s.post enc P fn false true false false W args v W':=by
 have ba:=hW
 obtain⟨p,q,hA,hV,rfl,bm,_⟩:=hW
 rw [ae] at hV
 obtain⟨rfl,rfl⟩:=trodVars_none hV
 obtain⟨h,hh,bb⟩:=open_pars ad (fun j t v ht hv=>ay j t v (by simpa using ht) (by simpa using hv)) hA
 obtain⟨r,hr,he⟩:=law h bb
 have af:=(hlAV_rel (P:=P) (lo:=old W fun _=>none) (S:=SS (fun _=>False) fun _=>none) (fun _=>⟨fun h=>h,fun _ _ h=>by cases h⟩) (μ:=fun _=>none) hh).to
 have ab:=bg (cv h) r hr W (fun _=>False) (fun _=>none) args (fun _ h=>h.elim)
  ⟨fun _ h=>h.elim,fun b hb=>hb.1,fun o mv h=>(by cases h),fun o p mv mv' b h=>(by cases h),az⟩ (fun p hp=>by rw [bf] at hp;cases hp) (by rw [aw,af.1];simp) fun j v hj=>by
  rw [aw] at hj
  have:=af.2 j v hj
  simpa using this
 rcases ab with⟨_,ab⟩|⟨x,w',ah,_⟩
 case inr=>
  obtain⟨c,hc⟩:=xbq.1 ao
  rw [run_enter be al hc] at ah
  cases ah
 refine ab.mono fun e w' ⟨x,hx,aa,μ,_,_,_,bc⟩=>?_
 have ai:Below W.heap.size W w':=⟨aa.os,aa.tape,aa.output,aa.size,fun k bh=>aa.block k ⟨bh,fun _ _ h=>by cases h⟩⟩
 rw [he] at bc
 have bj:x=.bool true:=by
  rcases bc with⟨v,hv,bk⟩|⟨bl,_⟩
  ·cases hv
   cases bk with
   |dat _ aj=>simp [Rep] at aj;exact aj
  ·exact absurd rfl bl
 subst bj
 have hlen:=trodAll_len hA
 have au:=ak ds (by rw [hlen.2,←hlen.1];simp)
 have bd:∀x∈p++ [],x.block<W.heap.size:=fun x hx=>by simpa using ba.lt x hx
 refine⟨_,hx,ds,[],p++ [],[],p,[],ba,?_,?_,?_,ai.frame _,fun hf=>nomatch hf⟩
 ·rw [au,av]
  exact trodAll_mk1 (shut_bool hb true)
 ·rw [au]
  exact trod_stays hl ai ad (fun x hx=>⟨bd x (by simpa using hx),by simpa using bd x (by simpa using hx)⟩) hA
 ·rw [au,ae]
  rfl
end Go.Proofs.YteiekijgoifhoaaGreatDoor
