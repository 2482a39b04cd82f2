/-
 All operations that write nothing.
-/
import Derived.ChangeKeysEq
import Derived.Test.YteiekijgoifhoaaGreatDoorB11
import Derived.Laws.BytesString
import Derived.Lib.ConvBytes
import Derived.Laws.StructEq
import Derived.Laws.OwnMore
namespace Go.Proofs.YteiekijgoifhoaaGreatDoor
open Go.RowKit (Below)
section
variable {P:Program} {tt:Nat→TD} {w:World} {lo:Nat→Prop} {μ:Nat→Option MV} {S:Nat→Prop} {X:Nat→Prop} {g:Nat→Option Ob} {o:Oper} {a:Act} {E:Env}
theorem fieldOf_ok(hT:TabOK P tt){ty i ft off:Nat}(h:fieldOf tt ty i=some (ft,off)):∃fields f,P.underlying ty=some (.struct fields)∧fields[i]? =some f∧f.type=ft∧f.offset=off∧∃t,InfoOK P ft t:=by
 have hd:=hT ty
 unfold fieldOf at h
 split at h
 next t fs he=>
  rw [he] at hd
  obtain⟨fields,hu,hf,_⟩:=hd
  have key:∀ (fl:List Go.Field) (fs:List (Nat×Ty)) (o i:Nat),fieldsOK P fl fs o→flatPrefix fs o i=some (ft,off)→∃f,fl[i]? =some f∧f.type=ft∧f.offset=off∧∃t,InfoOK P ft t:=by
   intro fl
   induction fl with
   |nil=>
    intro fs o i hf h
    cases fs with
    |nil=>simp [flatPrefix] at h
    |cons _ _=>exact hf.elim
   |cons f fl ih=>
    intro fs o i hf h
    cases fs with
    |nil=>exact hf.elim
    |cons p fs=>
     obtain⟨aa,t'⟩:=p
     obtain⟨h1,h2,h3,h4⟩:=hf
     cases i with
     |zero=>simp [flatPrefix] at h;exact⟨f,rfl,by rw [h1,h.1],by rw [h2,h.2],t',by rw [←h.1];exact h3⟩
     |succ i=>simp only [flatPrefix] at h;obtain⟨f',h5,h6⟩:=ih fs _ i h4 h;exact⟨f',by simpa using h5,h6⟩
  obtain⟨f,h1,h2,h3,h4⟩:=key _ _ _ _ hf h
  exact⟨fields,f,hu,by simpa using h1,h2,h3,h4⟩
 next=>cases h
theorem aun_ok{op:UnOp}{x:AV}{q:QR}(h:(aun op x).ev=some q){vx:Value}(hx:RelV P w lo μ S x vx):q.2=[]∧∃v,(Op.unary op vx).run P w=.ok v w∧RelV P w lo μ S q.1 v:=by
 unfold aun at h
 split at h
 ·have:=hx.bool;subst this
  cases op
  case not=>have:=ev_bq h;subst this;exact⟨rfl,_,by simp [Op.unary],rel_bool _⟩
  all_goals cases h
 ·have:=hx.int;subst this
  cases op
  case neg=>have:=ev_iq h;subst this;exact⟨rfl,_,by simp [Op.unary,Op.intArith],rel_int _ _⟩
  all_goals cases h
 ·cases h
theorem repL_of_ints{S:Nat→Prop}{w:World}{k:IntKind}:∀l:List Int,RepL S w (.int k) l (l.map (Value.int k))
 | []=>rfl
 |x::l=>⟨[.int k x],l.map (Value.int k),rfl,rfl,repL_of_ints l⟩
theorem srcOf_ok[Tabs](hm:Mem P X lo g μ w){t:Ty}{x:AV}{src:List t.I}(h:srcOf g t x=some src){vx:Value}(hx:RelV P w lo μ (SS X μ) x vx):
  ∃ax c news,vx=.slice ax src.length c∧RepL (SS X μ) w t src news∧(ax=none→src.length=0)∧∀ad,ax=some ad→∀j u,news[j]? =some u→w.cell? (ad.add j)=some u:=by
 unfold srcOf at h
 split at h
 ·obtain⟨e,he⟩:=Ty.cast_spec h
  cases e
  have he:src=_:=he
  subst he
  obtain⟨ax,c,rfl,hr⟩:=hx.slice
  cases ax with
  |none=>
   have hl:List.length src=0:=by
    cases src with
    |nil=>rfl
    |cons y ys=>
     simp only [Rep] at hr
     obtain⟨a',cp,e,_,hi⟩:=hr
     obtain⟨_,_,_,e2,_⟩:=hi 0 y rfl
     simp only [xbt,Value.slice.injEq,and_true] at e
     rw [e2] at e
     cases e.1
   have:src=[]:=xi hl
   subst this
   exact⟨none,c,[],rfl,rfl,fun _=>rfl,fun _ e=>by cases e⟩
  |some ad=>
   cases src with
   |nil=>exact⟨some ad,c,[],rfl,rfl,fun e=>by(cases e),fun _ _ j u hu=>by simp at hu⟩
   |cons y ys=>
    have af:=hr
    simp only [Rep] at hr
    obtain⟨a',cp,e,_,hi⟩:=hr
    obtain⟨b,off,_,e2,_⟩:=hi 0 y rfl
    simp only [xbt,Value.slice.injEq,and_true] at e
    rw [e2] at e
    obtain⟨e1,_,_⟩:=e
    cases e1
    obtain⟨news,h1,h2⟩:=RepL.of_slice af
    exact⟨_,c,news,rfl,h1,fun e=>by(cases e),fun aj e j u hu=>by cases e;rw [Addr.add_lit];exact h2 j u hu⟩
 ·cases h
  cases hx
  exact⟨none,0,[],rfl,rfl,fun _=>rfl,fun _ e=>by cases e⟩
 ·rename_i o
  split at h
  next e t' l hg=>
   obtain⟨e',he⟩:=Ty.cast_spec h
   cases e'
   have he:src=_:=he
   subst he
   cases hx with
   |arr hμ=>
    obtain⟨y,hy,ae⟩:=hm.ob _ _ hμ
    rw [hg] at hy
    cases hy
    obtain⟨⟨ak,al⟩,ao,xs,aa,ab⟩:=ae
    rcases aa.2 with⟨e1,e2⟩|⟨gb,cap,cur,e1,_⟩
    ·cases e1
     have:src=[]:=xi e2
     subst this
     exact⟨none,0,[],rfl,rfl,fun _=>rfl,fun _ e=>by cases e⟩
    ·cases e1
     exact⟨_,_,xs,rfl,ab,fun e=>by(cases e),fun ad e j u hu=>by cases e;exact aa.cells (g:=gb) rfl j u hu⟩
  next e l hg=>
   obtain⟨e',he⟩:=Ty.cast_spec h
   cases e'
   have he:src=_:=he
   subst he
   cases hx with
   |arr hμ=>
    obtain⟨y,hy,ae⟩:=hm.ob _ _ hμ
    rw [hg] at hy
    cases hy
    obtain⟨b,cap,cur,fr,ev,_,hh,_,_,_,ah⟩:=ae
    cases ev
    refine⟨_,_,List.map (α:=Int) (Value.int .u8) src,rfl,repL_of_ints src,fun e=>by(cases e),fun ad e j u hu=>?_⟩
    cases e
    rw [Addr.add_lit,xbg,cell_of_row w b j cur _ fr hh]
    rw [←ah,xbc] at hu
    split at hu
    ·simpa using hu
    ·cases hu
  next=>cases h
 ·rename_i o i
  split at h
  next e e2 t' l hg=>
   obtain⟨e',he⟩:=Ty.cast_spec h
   cases e'
   have he:src=l.getD i []:=he
   cases hx with
   |row hμ ai=>
    obtain⟨_,xs,aa,ab⟩:=hm.rowAt hμ ai hg
    rw [←he] at aa ab
    rcases aa.2 with⟨e1,e2⟩|⟨gb,cap,cur,e1,_⟩
    ·cases e1
     have:src=[]:=xi e2
     subst this
     exact⟨none,0,[],rfl,rfl,fun _=>rfl,fun _ e=>by cases e⟩
    ·cases e1
     exact⟨_,_,xs,rfl,ab,fun e=>by(cases e),fun ad e j u hu=>by cases e;exact aa.cells (g:=gb) rfl j u hu⟩
  next=>cases h
 ·cases h
theorem push_fold:∀ (ns:List Int) (s:ByteArray),ns.foldl (fun r n=>r.push (UInt8.ofNat n.toNat)) s=⟨s.data++(bytesOf ns).toArray⟩
 | [],s=>by cases s;simp [bytesOf]
 |n::ns,s=>by
  rw [xbk,push_fold ns]
  cases s
  simp [bytesOf,ByteArray.push]
theorem repL_int[Tabs]{k:IntKind}:∀ {l:List Int} {cs:List Value},RepL S w (.int k) l cs→cs=l.map (Value.int k)
 | [],_,h=>by simpa [RepL] using h
 |x::l,_,⟨c,r,e,h1,h2⟩=>by
  subst e
  have:=repL_int h2
  subst this
  simp only [Rep] at h1
  subst h1
  rfl
theorem aconv_ok[Tabs](hT:TabOK P tt)(hm:Mem P X lo g μ w){s d:Nat}{x:AV}{q:QR}(h:(aconv tt g s d x).ev=some q){vx:Value}(hx:RelV P w lo μ (SS X μ) x vx):q.2=[]∧∃v,(convert s d vx).run P w=.ok v w∧RelV P w lo μ (SS X μ) q.1 v:=by
 unfold aconv at h
 split at h
 ·have:=hx.int;subst this
  split at h
  next k1 k2 hs hd=>
   have h1:=hT s
   have h2:=hT d
   rw [hs] at h1
   rw [hd] at h2
   obtain⟨d1,e1,u1,_⟩:=h1
   obtain⟨d2,e2,u2,_⟩:=h2
   simp only [scOf,xc] at e1 e2
   subst e1;subst e2
   have:=ev_iq h;subst this
   exact⟨rfl,_,by simp [convert,run_underlying u1,run_underlying u2,Conv.intToInt],rel_int _ _⟩
  next=>cases h
 ·split at h
  next l e _ _ ae hs hd=>
   split at h
   next he=>
    have:=ev_vq h;subst this
    have h1:=hT s
    have h2:=hT d
    have h3:=hT e
    rw [hs] at h1
    rw [hd] at h2
    rw [he] at h3
    obtain⟨u1,_⟩:=h1
    obtain⟨d2,e2,u2,_⟩:=h2
    obtain⟨d3,e3,u3,_⟩:=h3
    simp only [scOf,xc] at e2 e3
    subst e2;subst e3
    obtain⟨ax,c,news,rfl,hr,hn,hc⟩:=srcOf_ok hm ae hx
    refine⟨rfl,.string ⟨(bytesOf l).toArray⟩,?_,rel_str _⟩
    rw [run_convert_bytes_string w s d e ax _ c u1 u3 u2]
    cases ax with
    |none=>
     have:l=[]:=xi (hn rfl)
     subst this
     rfl
    |some ad=>
     have ab:=repL_int hr
     subst ab
     have aa:=run_loadCells_list (P:=P) w ad (l.map (Value.int .u8)) (hc ad rfl)
     rw [xaw] at aa
     rw [run_bytesToString w ad _ c l aa,push_fold]
     have e0:ByteArray.empty.data= #[]:=rfl
     rw [e0,Array.empty_append]
   next=>cases h
  next=>cases h
theorem eqFields_ok[Tabs](hT:TabOK P tt){d:Nat}{as bs:List AV}{xs ys:Array Value}(ha:RelV P w lo μ S (.agg as) (.agg xs))(hb:RelV P w lo μ S (.agg bs) (.agg ys)):
  ∀ {fl:List Go.Field} {fs:List (Nat×Ty)} {o:Nat} {z:Bool},fieldsOK P fl fs o→(∀f∈fl,f.name≠ "_")→scFs fs=true→aeqs tt fs (as.drop o) (bs.drop o)=some z→(Op.eqFields (d+1) xs ys fl).run P w=.ok z w
 | [],[],o,z,_,_,_,h=>by
  cases ab:as.drop o with
  |nil=>
   cases aa:bs.drop o with
   |nil=>rw [ab,aa] at h;simp only [aeqs,xc] at h;subst h;rfl
   |cons b r=>rw [ab,aa] at h;simp [aeqs] at h
  |cons a r=>rw [ab] at h;cases aa:bs.drop o<;>rw [aa] at h<;>simp [aeqs] at h
 |f::fl,(ty,t)::fs,o,z,hf,hn,hs,h=>by
  obtain⟨h1,h2,h3,h4⟩:=hf
  simp only [scFs,xcu,xg] at hs
  have af:t.size=1:=by cases t<;>simp [scTy] at hs<;>rfl
  rw [af] at h4
  have more:∀ {l:List AV} {v:AV} {r:List AV},l.drop o=v::r→nth l o=some v∧l.drop (o+1)=r:=fun{l v r} e=>by
   refine⟨?_,?_⟩
   ·have:=congrArg (fun l=>l[0]?) e
    simp only [xaa,xbd,List.getElem?_cons_zero] at this
    rw [nth_eq];exact this
   ·rw [←xdm,e];rfl
  have rest:∀ {z'},aeqs tt fs (as.drop (o+1)) (bs.drop (o+1))=some z'→(Op.eqFields (d+1) xs ys fl).run P w=.ok z' w:=fun h'=>eqFields_ok hT ha hb h4 (fun f hf=>hn f (xu _ hf)) hs.2 h'
  have key:∀ {v u:AV} {e z':Bool} {sz:Nat×Bool},tySize tt ty=some sz→cut as o sz=some v→cut bs o sz=some u→(∀x y,RelV P w lo μ S v x→RelV P w lo μ S u y→(Op.equalIn (d+1) ty x y).run P w=.ok e w)→aeqs tt fs (as.drop (o+1)) (bs.drop (o+1))=some z'→
    (Op.eqFields (d+1) xs ys (f::fl)).run P w=.ok (e&&z') w:=by
   intro v u e z' sz k1 k2 k3 k4 k5
   obtain⟨x,x1,x2⟩:=agg_cut ha hT k1 k2
   obtain⟨y,y1,y2⟩:=agg_cut hb hT k1 k3
   have ah:f.name≠ "_" :=hn f xx
   subst h1
   rw [←h2] at x1 y1
   simp only [Op.eqFields,ah,ne_eq,not_false_eq_true,if_true,Sem.run_bind,x1,y1,Result.andThen_ok,k4 x y x2 y2]
   cases e with
   |true=>simpa using rest k5
   |false=>simp
  cases ab:as.drop o with
  |nil=>rw [ab] at h;cases aa:bs.drop o<;>rw [aa] at h<;>simp [aeqs] at h
  |cons v r=>
   cases aa:bs.drop o with
   |nil=>rw [ab,aa] at h;simp [aeqs] at h
   |cons u r'=>
    rw [ab,aa] at h
    obtain⟨a1,a2⟩:=more ab
    obtain⟨b1,b2⟩:=more aa
    rw [←a2,←b2] at h
    have hd:=hT ty
    unfold aeqs at h
    split at h
    case h_1=>cases ‹_::_=[]›
    ·rename_i e1 e2 e3
     cases e1
     cases e2;cases e3
     split at h
     next k2 ad=>
      rw [ad] at hd
      obtain⟨d2,q1,q2,_⟩:=hd
      simp only [scOf,xc] at q1
      subst q1
      split at h
      next hk=>
       subst hk
       split at h
       next z' ae=>
        cases h
        refine key (sz:=(1,false)) (by unfold tySize;rw [ad];rfl) (by simpa [cut] using a1) (by simpa [cut] using b1) (fun x y hx hy=>?_) ae
        have:=hx.int;subst this
        have:=hy.int;subst this
        exact run_equalIn_int w d ty _ _ _ _ q2
       next=>cases h
      next=>cases h
     next=>cases h
    ·rename_i e1 e2 e3
     cases e1
     cases e2;cases e3
     split at h
     next ad=>
      rw [ad] at hd
      obtain⟨d2,q1,q2,_⟩:=hd
      simp only [scOf,xc] at q1
      subst q1
      split at h
      next z' ae=>
       cases h
       refine key (sz:=(1,false)) (by unfold tySize;rw [ad];rfl) (by simpa [cut] using a1) (by simpa [cut] using b1) (fun x y hx hy=>?_) ae
       have:=hx.bool;subst this
       have:=hy.bool;subst this
       exact run_equalIn_bool' w d ty _ _ q2
      next=>cases h
     next=>cases h
    ·rename_i e1 e2 e3
     cases e1
     cases e2;cases e3
     split at h
     next ad=>
      rw [ad] at hd
      obtain⟨d2,q1,q2,_⟩:=hd
      simp only [scOf,xc] at q1
      subst q1
      split at h
      next z' ae=>
       cases h
       refine key (sz:=(1,false)) (by unfold tySize;rw [ad];rfl) (by simpa [cut] using a1) (by simpa [cut] using b1) (fun x y hx hy=>?_) ae
       have:=hx.str;subst this
       have:=hy.str;subst this
       rw [run_equalIn_string w d ty _ _ q2]
       simp [ByteArray.toList_eq]
      next=>cases h
     next=>cases h
    ·cases h
 | [],_::_,_,_,hf,_,_,_=>hf.elim
 |_::_,[],_,_,hf,_,_,_=>hf.elim
theorem aeqs_one{e:Nat}{k:IntKind}(aa:tt e=.sc (.int k)){p:Ty}{fs:List (Nat×Ty)}{as bs:List AV}{z:Bool}(h:aeqs tt ((e,p)::fs) as bs=some z):
  ∃ (k1:IntKind) (a b:Int) (r r':List AV) (z':Bool),as=.dat (.int k1) a::r∧bs=.dat (.int k1) b::r'∧aeqs tt fs r r'=some z'∧z=((a==b)&&z'):=by
 unfold aeqs at h
 split at h
 ·cases ‹_::_=[]›
 ·rename_i e1
  cases e1
  split at h
  ·split at h
   next hk=>
    subst hk
    split at h
    next z' ab=>cases h;exact⟨_,_,_,_,_,_,rfl,rfl,ab,rfl⟩
    next=>cases h
   next=>cases h
  ·cases h
 ·rename_i e1
  cases e1
  rw [aa] at h
  cases h
 ·rename_i e1
  cases e1
  rw [aa] at h
  cases h
 ·cases h
theorem aeqs_nil{as bs:List AV}{z:Bool}(h:aeqs tt [] as bs=some z):as=[]∧bs=[]∧z=true:=by
 cases as with
 |nil=>
  cases bs with
  |nil=>simp only [aeqs,xc] at h;exact⟨rfl,rfl,h.symm⟩
  |cons b r=>simp [aeqs] at h
 |cons a r=>simp [aeqs] at h
theorem equalIn_two[Tabs](hT:TabOK P tt){T e:Nat}{k:IntKind}(hu:P.underlying T=some (.array 2 e))(aa:tt e=.sc (.int k)){as bs:List AV}{xs ys:Array Value}(ha:RelV P w lo μ S (.agg as) (.agg xs))(hb:RelV P w lo μ S (.agg bs) (.agg ys)){p q:Ty}{z:Bool}
  (h:aeqs tt [(e,p),(e,q)] as bs=some z) (d:Nat):(Op.equalIn (d+1+1) T (.agg xs) (.agg ys)).run P w=.ok z w:=by
 obtain⟨k1,a0,b0,r,r',z1,rfl,rfl,h1,rfl⟩:=aeqs_one aa h
 obtain⟨k2,a1,b1,r2,ad,z2,rfl,rfl,h2,rfl⟩:=aeqs_one aa h1
 obtain⟨rfl,rfl,rfl⟩:=aeqs_nil h2
 have hd:=hT e
 rw [aa] at hd
 obtain⟨d0,s1,s2,i,z0,hi,hs,_⟩:=hd
 simp only [scOf,xc] at s1
 subst s1
 have hc:P.cellsOf e=1:=by
  unfold Program.cellsOf
  rw [hi]
  exact hs
 have ab:tySize tt e=some (1,false):=by unfold tySize;rw [aa];rfl
 obtain⟨x0,p0,q0⟩:=agg_cut ha hT ab (k:=0) (v:=.dat (.int k1) a0) rfl
 obtain⟨x1,p1,q1⟩:=agg_cut ha hT ab (k:=1) (v:=.dat (.int k2) a1) rfl
 obtain⟨y0,p2,q2⟩:=agg_cut hb hT ab (k:=0) (v:=.dat (.int k1) b0) rfl
 obtain⟨y1,p3,q3⟩:=agg_cut hb hT ab (k:=1) (v:=.dat (.int k2) b1) rfl
 have:=q0.int;subst this
 have:=q1.int;subst this
 have:=q2.int;subst this
 have:=q3.int;subst this
 have e0:=run_equalIn_int w d e k1 _ a0 b0 s2
 have e1:=run_equalIn_int w d e k2 _ a1 b1 s2
 rw [run_equalIn_array w (d+1) xs ys hu hi,hc]
 have hr:List.range 2=[0,1]:=rfl
 rw [hr]
 simp only [Op.eqItems,Sem.run_bind,xde,xdg,p0,p1,p2,p3,e0,e1,Result.andThen_ok]
 cases a0==b0 with
 |false=>rfl
 |true=>
  simp only [xbv,xaf,if_false,Sem.run_bind,p1,p3,e1,Result.andThen_ok]
  cases a1==b1<;>rfl
theorem abinA_ok[Tabs](hT:TabOK P tt){op:BinOp}{ty:Nat}{x y:AV}{q:QR}(h:(abinA tt op ty x y).ev=some q){vx vy:Value}(hx:RelV P w lo μ S x vx)(hy:RelV P w lo μ S y vy)(X Y:Operand):
  q.2=[]∧∃v,(do eqGuard op ty X Y vx vy;binOp op ty vx vy:Sem Value).run P w=.ok v w∧RelV P w lo μ S q.1 v:=by
 unfold abinA at h
 split at h
 ·rename_i as bs
  split at h
  next t fs ad=>
   split at h
   next ah=>
    split at h
    next z hz=>
     have hd:=hT ty
     rw [ad] at hd
     obtain⟨fields,hu,ai,⟨_,heq⟩,_⟩:=hd
     obtain⟨g1,g2,g3⟩:=heq ah
     have ae:=hx
     have af:=hy
     cases hx with
     | @agg _ _ xs _ _=>
      cases hy with
      | @agg _ _ ys _ _=>
       have ab:P.fieldsOf ty=fields:=by unfold Program.fieldsOf;rw [hu]
       have aa:(Op.equalIn 10000 ty (.agg xs) (.agg ys)).run P w=.ok z w:=by
        rw [show(10000:Nat)=(9998+1)+1 from rfl,run_equalIn_struct w (9998+1) ty xs ys (by rw [ab];exact hu) g2,ab]
        exact eqFields_ok hT ae af ai g3 ah (by simpa using hz)
       cases op
       case eql=>
        have:=ev_bq h;subst this
        exact⟨rfl,.bool z,by rw [Sem.run_bind,run_eqGuard_agg w _ _ _ _ _ _ g1,Result.andThen_ok,run_eql_struct,aa];rfl,rel_bool _⟩
       case neq=>
        have:=ev_bq h;subst this
        exact⟨rfl,.bool (!z),by rw [Sem.run_bind,run_eqGuard_agg w _ _ _ _ _ _ g1,Result.andThen_ok,run_neq_struct,aa];rfl,rel_bool _⟩
       all_goals cases h
    next=>cases h
   next=>cases h
  next e k t ad=>
   split at h
   next k' aj=>
    split at h
    next z hz=>
     have hd:=hT ty
     rw [ad] at hd
     obtain⟨hu,_,⟨_,hg⟩,_⟩:=hd
     have g1:=hg rfl
     have ae:=hx
     have af:=hy
     cases hx with
     | @agg _ _ xs _ _=>
      cases hy with
      | @agg _ _ ys _ _=>
       have aa:(Op.equalIn 10000 ty (.agg xs) (.agg ys)).run P w=.ok z w:=equalIn_two hT hu aj ae af hz 9998
       cases op
       case eql=>
        have:=ev_bq h;subst this
        exact⟨rfl,.bool z,by rw [Sem.run_bind,run_eqGuard_agg w _ _ _ _ _ _ g1,Result.andThen_ok,run_eql_struct,aa];rfl,rel_bool _⟩
       case neq=>
        have:=ev_bq h;subst this
        exact⟨rfl,.bool (!z),by rw [Sem.run_bind,run_eqGuard_agg w _ _ _ _ _ _ g1,Result.andThen_ok,run_neq_struct,aa];rfl,rel_bool _⟩
       all_goals cases h
    next=>cases h
   next=>cases h
  next=>cases h
 ·exact abin_ok hT h hx hy X Y
theorem run_nil_slice{ty e:Nat}(hu:P.underlying ty=some (.slice e))(a:Option Addr)(n c:Nat)(w:World):(Op.equalIn 10000 ty (.slice a n c) (.slice none 0 0)).run P w=.ok a.isNone w:=by
 rw [show(10000:Nat)=9999+1 from rfl,Op.equalIn.eq_def]
 cases a<;>simp [run_underlying hu]
theorem nil_eq{ty e:Nat}(hu:P.underlying ty=some (.slice e))(neq:Bool){b:Bool}{a:Option Addr}{n c:Nat}(hb:(bif neq then !a.isNone else a.isNone)=b)(X Y:Operand):
  (do eqGuard (bif neq then .neq else .eql) ty X Y (.slice a n c) (.slice none 0 0);binOp (bif neq then .neq else .eql) ty (.slice a n c) (.slice none 0 0):Sem Value).run P w=.ok (.bool b) w:=by
 subst hb
 have h1:∀op,(eqGuard op ty X Y (.slice a n c) (.slice none 0 0)).run P w=.ok () w:=fun op=>by
  unfold eqGuard
  cases op<;>rfl
 cases neq with
 |false=>
  rw [cond_false,cond_false,Sem.run_bind,h1,Result.andThen_ok]
  simp only [binOp,Op.equal,Op.maxDepth,Sem.run_bind,run_nil_slice hu,Result.andThen_ok,Sem.run_pure]
 |true=>
  rw [cond_true,cond_true,Sem.run_bind,h1,Result.andThen_ok]
  simp only [binOp,Op.equal,Op.maxDepth,Sem.run_bind,run_nil_slice hu,Result.andThen_ok,Sem.run_pure]
theorem anilV_ok[Tabs](hm:Mem P X lo g μ w){ty e:Nat}(hu:P.underlying ty=some (.slice e))(neq:Bool){x:AV}{q:QR}(h:(anilV neq g x).ev=some q){vx:Value}(hx:RelV P w lo μ (SS X μ) x vx)(X' Y':Operand):
  q.2=[]∧∃v,(do eqGuard (bif neq then .neq else .eql) ty X' Y' vx (.slice none 0 0);binOp (bif neq then .neq else .eql) ty vx (.slice none 0 0):Sem Value).run P w=.ok v w∧RelV P w lo μ (SS X μ) q.1 v:=by
 unfold anilV at h
 split at h
 ·have:=ev_bq h;subst this
  cases hx with
  |nilsl=>exact⟨rfl,_,nil_eq hu neq (by cases neq<;>rfl) X' Y',rel_bool _⟩
 ·rename_i t l
  obtain⟨h0,h⟩:=ev_g h
  have:=ev_bq h;subst this
  obtain⟨a,cap,rfl,aa⟩:=hx.slice
  simp only [Rep] at aa
  obtain⟨a',ab,ea,_,ae⟩:=aa
  simp only [xbt,Value.slice.injEq,and_true] at ea
  obtain⟨rfl,_,rfl⟩:=ea
  have hl:0<l.length:=by simpa using h0
  obtain⟨y,hy⟩:∃y,l[0]? =some y:=⟨_,xh hl⟩
  obtain⟨b,off,c',ha,_⟩:=ae 0 y hy
  subst ha
  exact⟨rfl,_,nil_eq hu neq (by cases neq<;>rfl) X' Y',rel_bool _⟩
 ·split at h
  next o e' t l hg=>
   obtain⟨h0,h⟩:=ev_g h
   have:=ev_bq h;subst this
   have hl:0<l.length:=by simpa using h0
   cases hx with
   |arr hμ=>
    obtain⟨y,hy,af⟩:=hm.ob _ _ hμ
    rw [hg] at hy
    cases hy
    obtain⟨_,_,xs,ad,aa⟩:=af
    rcases ad.2 with⟨e1,e2⟩|⟨b,ab,cur,ev,_⟩
    ·omega
    ·simp only [Value.slice.injEq] at ev
     obtain⟨rfl,rfl,rfl⟩:=ev
     exact⟨rfl,_,nil_eq hu neq (by cases neq<;>rfl) X' Y',rel_bool _⟩
  next=>cases h
 ·cases h
theorem abinN_ok[Tabs](hT:TabOK P tt)(hm:Mem P X lo g μ w){op:BinOp}{ty:Nat}{x y:AV}{q:QR}(h:(abinN tt g op ty x y).ev=some q){vx vy:Value}(hx:RelV P w lo μ (SS X μ) x vx)(hy:RelV P w lo μ (SS X μ) y vy)(X' Y':Operand):
  q.2=[]∧∃v,(do eqGuard op ty X' Y' vx vy;binOp op ty vx vy:Sem Value).run P w=.ok v w∧RelV P w lo μ (SS X μ) q.1 v:=by
 unfold abinN at h
 split at h
 next e t b aa=>
  have hd:=hT ty
  rw [aa] at hd
  cases hy with
  |nilsl=>exact anilV_ok hm hd.1 false h hx X' Y'
 next e t b aa=>
  have hd:=hT ty
  rw [aa] at hd
  cases hy with
  |nilsl=>exact anilV_ok hm hd.1 true h hx X' Y'
 next=>exact abinA_ok hT h hx hy X' Y'
theorem suf_ok[Tabs]{o i s0:Nat}{a0:Option Addr}{c:Nat}{ty e0 b sz:Nat}{t0:Ty}{xs:List Value}{len:Nat}{k:IntKind}{n:Int}{rs:List Nat}{hs:List Value}{e1:Nat}(hT:TabOK P tt)(ad:tt ty=.sl e0 t0 b)(ae:t0.size=sz)(hμ:μ o=some ⟨.slice a0 c s0,rs,hs⟩)(aa:w.ownsRow 0 e1 sz (.slice a0 c s0) len xs)(hi:i=n.toNat)
  (h0:(0:Int)≤n) (h1:n≤(len:Int)):∃v,(Instr.sliceAt ty (.slice a0 c s0) (some (.int k n)) none none).run P w=.ok v w∧RelV P w lo μ S (.suf o i sz) v:=by
 subst hi
 have ab:=hT ty
 rw [ad] at ab
 obtain⟨hu,⟨i,z,g1,g2,g3,g4,g5⟩,_⟩:=ab
 have af:c=len∧len≤s0∧(n.toNat=len∨∃gb,a0=some ⟨gb,0,none⟩):=by
  rcases aa.2 with⟨ev,ah⟩|⟨gb,cap,cur,ev,k1,k2,k3,_⟩
  ·cases ev
   exact⟨ah.symm,by omega,.inl (by omega)⟩
  ·simp only [Value.slice.injEq] at ev
   obtain⟨rfl,rfl,rfl⟩:=ev
   exact⟨rfl,k3,.inr ⟨gb,rfl⟩⟩
 obtain⟨rfl,hle,hb⟩:=af
 obtain⟨_,_,z3⟩:=sb_lo (P:=P) (w:=w) (len:=c) (cap:=s0) k n h0 h1 true
 refine⟨.slice (if s0=n.toNat then a0 else a0.map (·.add (n.toNat*sz))) (c-n.toNat) (s0-n.toNat),?_,.suf hμ ⟨by omega,rfl⟩ ?_⟩
 ·simp [Instr.sliceAt,Instr.slice,run_underlying hu,z3,sizeOf,typeInfo,g1,g2,ae]
 ·by_cases e:n.toNat=c
  ·exact .inl e
  ·rcases hb with hb|⟨gb,rfl⟩
   ·exact absurd hb e
   ·exact .inr ⟨gb,rfl,by rw [if_neg (by omega)];simp [Addr.add_lit]⟩
theorem pre_ok[Tabs]{o s0:Nat}{a0:Option Addr}{c:Nat}{ty e0 b sz:Nat}{t0:Ty}{xs:List Value}{len:Nat}{k:IntKind}{n:Int}{rs:List Nat}{hs:List Value}{e1:Nat}(hT:TabOK P tt)(ad:tt ty=.sl e0 t0 b)(ae:t0.size=sz)(hμ:μ o=some ⟨.slice a0 c s0,rs,hs⟩)(aa:w.ownsRow 0 e1 sz (.slice a0 c s0) len xs)
  (h0:(0:Int)≤n) (h1:n≤(len:Int)):∃v,(Instr.sliceAt ty (.slice a0 c s0) none (some (.int k n)) none).run P w=.ok v w∧RelV P w lo μ S (.pre o n.toNat) v:=by
 have ab:=hT ty
 rw [ad] at ab
 obtain⟨hu,⟨i,z,g1,g2,g3,g4,g5⟩,_⟩:=ab
 rcases aa.2 with⟨ev,af⟩|⟨gb,cap,cur,ev,k1,k2,k3,_⟩
 ·cases ev
  have hn:n.toNat=0:=by omega
  obtain⟨_,_,z3⟩:=sb_hi (P:=P) (w:=w) (len:=0) (cap:=0) (xm 0) k n h0 (by omega) true
  refine⟨.slice none n.toNat 0,?_,.pre hμ (by omega)⟩
  simp [Instr.sliceAt,Instr.slice,run_underlying hu,z3,sizeOf,typeInfo,g1,g2]
 ·simp only [Value.slice.injEq] at ev
  obtain⟨rfl,rfl,rfl⟩:=ev
  obtain⟨_,_,z3⟩:=sb_hi (P:=P) (w:=w) (len:=c) (cap:=s0) k3 k n h0 h1 true
  refine⟨.slice (some ⟨gb,0,none⟩) n.toNat s0,?_,.pre hμ (by omega)⟩
  simp only [Instr.sliceAt,Instr.slice,Sem.run_bind,run_underlying hu,Result.andThen_ok,z3,sizeOf,typeInfo,g1,Sem.run_pure,xde,Nat.sub_zero]
  by_cases e:s0=0
  ·simp [e,g1]
  ·simp [e,g1,Addr.add_lit]
theorem asliceP_ok[Tabs](hT:TabOK P tt)(hm:Mem P X lo g μ w){ty:Nat}{x:AV}{lo' ae:Option AV}{q:QR}(h:(asliceP tt g ty x lo' ae).ev=some q){vx:Value}{vl vh:Option Value}(hx:RelV P w lo μ (SS X μ) x vx)
  (hl:ORel P w lo μ (SS X μ) lo' vl) (hh:ORel P w lo μ (SS X μ) ae vh):
  q.2=[]∧∃v,(Instr.sliceAt ty vx vl vh none).run P w=.ok v w∧RelV P w lo μ (SS X μ) q.1 v:=by
 unfold asliceP at h
 split at h
 ·rename_i o k n
  split at h
  next e0 t0 b e t l aa hg=>
   split at h
   next hc=>
    obtain⟨hb,h⟩:=ev_g h
    simp only [xg,decide_eq_true_eq] at hb
    have:=ev_vq h;subst this
    cases hl
    cases hh with
    |some hh=>
     have e1:=hh.int
     subst e1
     cases hx with
     | @arr _ _ a0 n0 c0 rs hs hμ=>
      obtain⟨y,hy,ab⟩:=hm.ob _ _ hμ
      rw [hg] at hy
      cases hy
      obtain⟨_,_,xs,ad,_⟩:=ab
      obtain⟨v,h1,h2⟩:=pre_ok (P:=P) (w:=w) (lo:=lo) (S:=SS X μ) (k:=k) hT aa hc hμ ad hb.1 hb.2
      exact⟨rfl,v,h1,h2⟩
   next=>cases h
  next e0 t0 b e e2 t l aa hg=>
   split at h
   next hc=>
    obtain⟨hb,h⟩:=ev_g h
    simp only [xg,decide_eq_true_eq] at hb
    have:=ev_vq h;subst this
    cases hl
    cases hh with
    |some hh=>
     have e1:=hh.int
     subst e1
     cases hx with
     | @arr _ _ a0 n0 c0 rs hs hμ=>
      obtain⟨y,hy,ab⟩:=hm.ob _ _ hμ
      rw [hg] at hy
      cases hy
      obtain⟨v,h1,h2⟩:=pre_ok (P:=P) (w:=w) (lo:=lo) (S:=SS X μ) (k:=k) hT aa hc hμ ab.1.own hb.1 hb.2
      exact⟨rfl,v,h1,h2⟩
   next=>cases h
  next=>cases h
 ·rename_i o k n
  split at h
  next e0 t0 b e t l aa hg=>
   split at h
   next hc=>
    obtain⟨hb,h⟩:=ev_g h
    simp only [xg,decide_eq_true_eq] at hb
    have:=ev_vq h;subst this
    cases hh
    cases hl with
    |some hl=>
     have e1:=hl.int
     subst e1
     cases hx with
     | @arr _ _ a0 n0 c0 rs hs hμ=>
      obtain⟨y,hy,ab⟩:=hm.ob _ _ hμ
      rw [hg] at hy
      cases hy
      obtain⟨_,_,xs,ad,_⟩:=ab
      obtain⟨v,h1,h2⟩:=suf_ok (P:=P) (w:=w) (lo:=lo) (S:=SS X μ) (k:=k) hT aa hc hμ ad rfl hb.1 hb.2
      exact⟨rfl,v,h1,h2⟩
   next=>cases h
  next e0 t0 b e e2 t l aa hg=>
   split at h
   next hc=>
    obtain⟨hb,h⟩:=ev_g h
    simp only [xg,decide_eq_true_eq] at hb
    have:=ev_vq h;subst this
    cases hh
    cases hl with
    |some hl=>
     have e1:=hl.int
     subst e1
     cases hx with
     | @arr _ _ a0 n0 c0 rs hs hμ=>
      obtain⟨y,hy,ab⟩:=hm.ob _ _ hμ
      rw [hg] at hy
      cases hy
      obtain⟨v,h1,h2⟩:=suf_ok (P:=P) (w:=w) (lo:=lo) (S:=SS X μ) (k:=k) hT aa hc hμ ab.1.own rfl hb.1 hb.2
      exact⟨rfl,v,h1,h2⟩
   next=>cases h
  next=>cases h
 ·exact aslice_ok hT h hx hl hh
theorem aconvB_ok[Tabs](hT:TabOK P tt)(hm:Mem P X lo g μ w){dst s d:Nat}{x:AV}{q:QR}(h:(aconvB tt g dst s d x).ev=some q){vx:Value}(hx:RelV P w lo μ (SS X μ) x vx)(aa:∀p∈q.2,μ p.1=none):
  ∃v w',(convert s d vx).run P w=.ok v w'∧Nx P X lo g μ w q v w':=by
 unfold aconvB at h
 split at h
 ·rename_i b
  split at h
  next e _ _ hs hd=>
   split at h
   next he=>
    simp only [Tr.ev_l,xc] at h
    subst h
    have h1:=hT s
    have h2:=hT d
    have h3:=hT e
    rw [hs] at h1
    rw [hd] at h2
    rw [he] at h3
    obtain⟨d1,e1,u1,_⟩:=h1
    obtain⟨u2,_⟩:=h2
    obtain⟨d3,e3,u3,_⟩:=h3
    simp only [scOf,xc] at e1 e3
    subst e1;subst e3
    have ai:=hx.str
    subst ai
    have ad:=Lib.run_convert_string_bytes (P:=P) w s d e ⟨List.toArray (α:=UInt8) b⟩ u1 u2 u3
    have ab:(⟨List.toArray (α:=UInt8) b⟩:ByteArray).size=List.length (α:=UInt8) b:=rfl
    refine⟨_,_,ad,?_⟩
    have aj:=grownCap_ge w (⟨List.toArray (α:=UInt8) b⟩:ByteArray).size 0 e
    have ae:=Lib.bytesWorld_at_new w e ⟨List.toArray (α:=UInt8) b⟩
    have af:(Lib.bytesCells w e ⟨List.toArray (α:=UInt8) b⟩).size=grownCap w (⟨List.toArray (α:=UInt8) b⟩:ByteArray).size 0 e:=by
     unfold Lib.bytesCells
     rw [xdw,Array.size_map,xew]
     have:(⟨List.toArray (α:=UInt8) b⟩:ByteArray).data.size=(⟨List.toArray (α:=UInt8) b⟩:ByteArray).size:=rfl
     omega
    have ah:Below w.heap.size w (Lib.bytesWorld w e ⟨List.toArray (α:=UInt8) b⟩):=⟨rfl,rfl,rfl,by rw [Lib.bytesWorld_size];omega,fun k hk=>Lib.bytesWorld_at_old w e _ k hk⟩
    refine Nx.made hm ah (d:=dst) (mv:=⟨.slice (some ⟨w.heap.size,0,none⟩) (⟨List.toArray (α:=UInt8) b⟩:ByteArray).size (grownCap w (⟨List.toArray (α:=UInt8) b⟩:ByteArray).size 0 e),[w.heap.size],[]⟩)
     (aa (dst,.txt e (List.map (α:=UInt8) (fun c=>((c.toNat:Nat):Int)) b)) (by simp)) rfl (fun μ' _ _=>?_) fun μ' ak=>.arr ak
    have hlen:(List.map (α:=UInt8) (fun c=>((c.toNat:Nat):Int)) b).length=(⟨List.toArray (α:=UInt8) b⟩:ByteArray).size:=by rw [xaw,ab]
    refine⟨w.heap.size,grownCap w (⟨List.toArray (α:=UInt8) b⟩:ByteArray).size 0 e,_,_,by rw [hlen],fun hl=>?_,ae,by rw [af];exact xm _,by rw [hlen];exact aj,af,?_⟩
    ·have:=hm.hlo _ hl
     omega
    ·rw [hlen]
     unfold Lib.bytesCells
     rw [xfa,xdq (by simp [ab]),xah (by simp [ab])]
     simp [Function.comp_def]
   next=>cases h
  next=>cases h
 ·obtain⟨h1,v,h2,h3⟩:=aconv_ok hT hm h hx
  obtain⟨r,objs⟩:=q
  simp only at h1
  subst h1
  exact⟨v,w,h2,Nx.pure hm h3⟩
theorem aminmax_ok{mx:Bool}{vs:List AV}{q:QR}(h:(aminmax mx vs).ev=some q){ys:Array Value}(hl:vs.length=ys.size)(hv:∀j v,nth vs j=some v→RelV P w lo μ S v (ys.getD j undef))(ts:Array TypeId)(t:TypeId):
  q.2=[]∧∃v,(if mx then Builtin.max_ ts t ys else Builtin.min_ ts t ys).run P w=.ok v w∧RelV P w lo μ S q.1 v:=by
 unfold aminmax at h
 split at h
 ·rename_i k x k' y
  split at h
  next hk=>
   subst hk
   have:=ev_iq h;subst this
   have h0:=(hv 0 _ rfl).int
   have h1:=(hv 1 _ rfl).int
   obtain⟨ys⟩:=ys
   match ys,hl with
   | [u,v],_=>
    simp at h0 h1
    subst h0;subst h1
    refine⟨rfl,_,?_,rel_int _ _⟩
    cases mx<;>simp [Builtin.max_,Builtin.min_,Builtin.max2,Builtin.min2]
  next=>cases h
 ·cases h
theorem zeroOf_ok[Tabs](hT:TabOK P tt){ty:Nat}{cs:List AV}(h:zeroOf tt ty=some cs):∃z:Value,(zeroValue ty).run P w=.ok z w∧AllR P w lo μ S cs z.cells:=by
 have hd:=hT ty
 unfold zeroOf at h
 split at h<;>rename_i he<;>rw [he] at hd
 ·cases h
  obtain⟨_,_,_,hi⟩:=hd
  obtain⟨z,h1,_,h3⟩:=run_zero (w:=w) hi
  exact⟨z,h1,zero_all h3⟩
 ·cases h
  obtain⟨_,_,i,h1,h2,h3⟩:=hd
  refine⟨.slice none 0 0,by simp [zeroValue,typeInfo,h1,h3],rfl,fun j v hv=>?_⟩
  match j,hv with
  |0,hv=>simp [nth] at hv;subst hv;exact .nilsl
 ·cases h
  obtain⟨_,_,_,_,hi⟩:=hd
  obtain⟨z,h1,_,h3⟩:=run_zero (w:=w) hi
  exact⟨z,h1,zero_all h3⟩
 ·cases h
  obtain⟨_,_,_,hi⟩:=hd
  obtain⟨z,h1,_,h3⟩:=run_zero (w:=w) hi
  exact⟨z,h1,zero_all h3⟩
 ·cases h
  obtain⟨d,i,z,h1,h2,h3,h4,h5,h6⟩:=hd
  refine⟨z,by simp [zeroValue,typeInfo,h3,h5],h6,fun j v hv=>?_⟩
  match j,hv with
  |0,hv=>simp [nth] at hv;subst hv;exact .undef
 ·cases h
theorem opd_rel{fr:Nat→AV}(h:∀i,RelV P w lo μ S (fr i) (a.tmps.getD i undef))(x:Operand):RelV P w lo μ S (opd fr x) (a.eval x):=by
 cases x with
 |tmp t=>exact h t
 |const v=>
  simp only [opd,Act.eval]
  unfold cval
  split
  ·exact rel_bool _
  ·exact rel_int _ _
  ·rename_i s
   have:=rel_str (P:=P) (w:=w) (lo:=lo) (μ:=μ) (S:=S) s.data.toList
   have e:(⟨s.data.toList.toArray⟩:ByteArray)=s:=by cases s;simp
   rwa [e] at this
  ·exact .nilsl
  ·exact .undef
 |global _=>exact .undef
 |func f=>exact .fn rfl fun j v hv=>by simp [nth] at hv
theorem QOK.pure[Tabs](hm:Mem P X lo g μ w){s:Sem Value}(he:(execOp a.eval o).run P w=(do pure (.value (←s)):Sem Next).run P w){q:QR}(h:q.2=[]∧∃v,s.run P w=.ok v w∧RelV P w lo μ (SS X μ) q.1 v):
  QOK P o a w (Nx P X lo g μ w q):=by
 obtain⟨r,objs⟩:=q
 obtain⟨h1,v,h2,h3⟩:=h
 simp only at h1
 subst h1
 exact QOK.val (by rw [he];simp [h2]) (Nx.pure hm h3)
theorem map_eval(a:Act){f:Operand→AV}(hf:∀x,RelV P w lo μ S (f x) (a.eval x))(as:Array Operand):(as.toList.map f).length=(as.map a.eval).size∧∀j v,nth (as.toList.map f) j=some v→RelV P w lo μ S v ((as.map a.eval).getD j undef):=by
 refine⟨by simp,fun j v hv=>?_⟩
 rw [nth_eq,xr] at hv
 cases hj:as.toList[j]? with
 |none=>rw [hj] at hv;cases hv
 |some x=>
  rw [hj] at hv
  simp at hv
  subst hv
  have aa:as[j]? =some x:=by simpa using hj
  simpa [aa] using hf x
theorem map_parts(a:Act){f:Operand→AV}(hf:∀x,RelV P w lo μ S (f x) (a.eval x))(ps:Array (Nat×Operand)):(ps.map fun(i,x)=>(i,a.eval x)).toList.map (·.1)=(ps.toList.map fun p=>(p.1,f p.2)).map (·.1)∧
  ∀ (j:Nat) (p:Nat×AV),(ps.toList.map fun p=>(p.1,f p.2))[j]? =some p→∃q:Nat×Value,(ps.map fun(i,x)=>(i,a.eval x)).toList[j]? =some q∧RelV P w lo μ S p.2 q.2:=by
 refine⟨by simp [Function.comp_def],fun j p hp=>?_⟩
 rw [xr] at hp
 cases hj:ps.toList[j]? with
 |none=>rw [hj] at hp;cases hp
 |some x=>
  rw [hj] at hp
  simp at hp
  subst hp
  have aa:ps[j]? =some x:=by simpa using hj
  exact⟨(x.1,a.eval x.2),by simp [aa],hf x.2⟩
theorem rows_made[Tabs](hm:Mem P X lo g μ w){d e e2:Nat}(hd:μ d=none){t:Ty}{l:List (List t.I)}{h:Option (Nat×Option Nat)}{cur:Array Value}{cap:Nat}(hs:cur.size=cap)(hle:l.length≤cap)(ad:cap≤maxLen)
  (ae:∀x∈cur.toList.take l.length,∃a n c,x=.slice a n c) (aa:∀ (j:Nat) x r,inRow h j→(cur.toList.take l.length)[j]? =some x→l[j]? =some r→x=.slice none 0 0∧r=[])
  (ab:∀i p,h=some (i,some p)→∃x rs hs,(cur.toList.take l.length)[i]? =some x∧μ p=some ⟨x,rs,hs⟩):
  Nx P X lo g μ w (.arr d,[(d,.rows e e2 t l h)]) (.slice (some ⟨w.heap.size,0,none⟩) l.length cap) (w.alloc (.cells cur e)):=by
 have hb:Below w.heap.size w (w.alloc (.cells cur e)):=(Below.refl _ _).alloc (xm _) _
 refine Nx.made hm hb (mv:=⟨.slice (some ⟨w.heap.size,0,none⟩) l.length cap,[w.heap.size],cur.toList.take l.length⟩) hd rfl (fun μ' hμ hS=>?_) fun μ' h=>.arr h
 have hlen:(cur.toList.take l.length).length=l.length:=by rw [xw];simp [hs];omega
 refine⟨⟨⟨by rw [hlen];omega,.inr ⟨w.heap.size,cap,cur,rfl,xcp _,heap_alloc_new w _,hle,ad,by omega,by rw [xbw]⟩⟩,fun b hb=>by simpa [rootV] using hb.symm,fun b af=>?_,ae,fun j x r hj hx hl=>?_,fun j k x y b hj hk hx hy ah aj=>?_⟩,fun i p hi=>?_⟩
 ·simp only [xt] at af
  subst af
  exact⟨fun hl=>xo _ (hm.hlo _ hl),by simp⟩
 ·obtain⟨rfl,rfl⟩:=aa j x r hj hx hl
  exact⟨fun b hb=>by simp [rootV] at hb,[],World.ownsRow_nil _ 0 e2 t.size,rfl⟩
 ·have ai:j<l.length:=by have:=(xk.1 hx).1;simp only at this;omega
  obtain⟨rfl,_⟩:=aa j x _ hj hx (xh ai)
  simp [rootV] at ah
 ·obtain⟨x,rs,hs,h1,h2⟩:=ab i p hi
  exact⟨x,rs,hs,h1,hμ p _ h2⟩
theorem deep_made[Tabs](hm:Mem P X lo g μ w){d e:Nat}(hd:μ d=none){t:Ty}{n:Nat}{cur:Array Value}{cap:Nat}(hs:cur.size=cap*t.size)(hle:n≤cap)(aa:cap≤maxLen)
  (hz:∀ (S:Nat→Prop) (w:World),RepL S w t (List.replicate n t.dflt) (cur.toList.take (n*t.size))):
  Nx P X lo g μ w (.arr d,[(d,.deep e t (List.replicate n t.dflt))]) (.slice (some ⟨w.heap.size,0,none⟩) n cap) (w.alloc (.cells cur e)):=by
 have hb:Below w.heap.size w (w.alloc (.cells cur e)):=(Below.refl _ _).alloc (xm _) _
 refine Nx.made hm hb (mv:=⟨.slice (some ⟨w.heap.size,0,none⟩) n cap,[w.heap.size],[]⟩) hd rfl (fun μ' hμ hS=>?_) fun μ' h=>.arr h
 show DeepOK _ _ _ _ _ _
 refine⟨rfl,fun b hb=>by simpa [rootV] using hb.symm,fun b ab=>?_,cur.toList.take (n*t.size),⟨by rw [(hz (fun _=>True) w).len],.inr ⟨w.heap.size,cap,cur,by simp,xcp _,heap_alloc_new w _,by simpa using hle,aa,hs,by simp⟩⟩,hz _ _⟩
 simp only [xt] at ab
 subst ab
 exact⟨fun hl=>xo _ (hm.hlo _ hl),by simp⟩
theorem buildRow_ok[Tabs](hT:TabOK P tt)(hm:Mem P X lo g μ w){d ty p e:Nat}{te:Ty}{b:Nat}(hd:μ d=none)(aj:tt ty=.sl e te b)(ad:te.size=1){qs:Array (Nat×Value)}(hq:qs.toList.map (·.1)=[0])
  (hr:∃q:Nat×Value,qs.toList[0]? =some q∧RelV P w lo μ (SS X μ) (.arr p) q.2) {e2:Nat} {t:Ty}:
  ∃v w',(Instr.buildSlice ty 1 qs).run P w=.ok v w'∧Nx P X lo g μ w (.arr d,[(d,.rows e e2 t [[]] (some (0,some p)))]) v w':=by
 have ae:=hT ty
 rw [aj] at ae
 obtain⟨hu,⟨i,z,h1,h2,h3,h4,h5⟩,_⟩:=ae
 obtain⟨q,aa,af⟩:=hr
 have ah:qs= #[q]:=by
  apply xgf
  have hl:=congrArg List.length hq
  simp only [xaw,xad,xai] at hl
  match ak:qs.toList,hl with
  | [y],_=>rw [ak] at aa;simp at aa;subst aa;rfl
 have ai:q.1=0:=by
  rw [ah] at hq
  simpa using hq
 subst ah
 obtain⟨q0,x⟩:=q
 simp only at ai af
 subst ai
 cases af with
 | @arr _ _ a0 n0 c0 rp al ao=>
  have hx:=rows_made (e:=e) (e2:=e2) hm (d:=d) (t:=t) (l:=[[]]) (h:=some (0,some p)) (cur:= #[.slice a0 n0 c0]) (cap:=1) hd rfl (xm _) (by unfold maxLen;omega)
   (fun x hx=>by simp at hx;exact⟨_,_,_,hx⟩) (fun j x r hj hx hl=>by
    have au:j≠0:=hj 0 (some p) rfl
    cases j with
    |zero=>exact absurd rfl au
    |succ j=>simp at hl) (fun i p' hi=>by cases hi;exact⟨_,rp,al,rfl,ao⟩)
  refine⟨_,_,?_,hx⟩
  have av:i.size=1:=h2.trans ad
  have aw:z.cells.size=1:=by
   have:=isZ_len h5
   simpa [ad] using this
  have ab:Instr.fill (fun i=>some (i,1)) (Array.map (fun x=>z.cells[x % z.cells.size]!) (Array.range 1)) [(0,Value.slice a0 n0 c0)]=some #[Value.slice a0 n0 c0]:=by
   have key:∀ (A:Array Value) (v:Value),A.size=1→A.setIfInBounds 0 v= #[v]:=fun A v h=>by
    obtain⟨l⟩:=A
    match l,h with
    | [y],_=>rfl
   simp [Instr.fill,Value.cells]
   exact key _ _ (by simp)
  simp [Instr.buildSlice,run_underlying hu,sizeOf,typeInfo,zeroValue,h1,av,h4,ab,newRow]
theorem abuildS_ok[Tabs](hT:TabOK P tt)(hm:Mem P X lo g μ w){d ty n:Nat}{ps:List (Nat×AV)}{q:QR}(h:(abuildS tt g d ty n ps).ev=some q)(aa:∀p∈q.2,μ p.1=none){qs:Array (Nat×Value)}(hq:qs.toList.map (·.1)=ps.map (·.1))
  (hr:∀ (j:Nat) (p:Nat×AV),ps[j]? =some p→∃q:Nat×Value,qs.toList[j]? =some q∧RelV P w lo μ (SS X μ) p.2 q.2):
  ∃v w',(Instr.buildSlice ty n qs).run P w=.ok v w'∧Nx P X lo g μ w q v w':=by
 unfold abuildS at h
 split at h
 ·rename_i e te b p ab
  split at h
  next e2 t b2 e3 t3 lp ae af=>
   split at h
   next hc=>
    simp only [Tr.ev_l,xc] at h
    subst h
    exact buildRow_ok hT hm (aa (d,_) xx) ab hc.1 hq (hr 0 _ rfl)
   next=>cases h
  next=>cases h
 ·have ad:μ d=none:=by
   have h':=h
   unfold abuildSlice at h'
   split at h'
   ·split at h'
    ·obtain⟨_,_,h'⟩:=ev_opt_bind h'
     obtain⟨_,_,h'⟩:=ev_opt_bind h'
     simp only [Tr.ev_l,xc] at h'
     subst h'
     exact aa (d,_) (xx)
    ·cases h'
   ·cases h'
  exact abuildSlice_ok hT hm ad h hq hr
theorem aq_ok[Tabs](hT:TabOK P tt)(hm:Mem P X lo g μ w){f:Operand→AV}(hf:∀x,RelV P w lo μ (SS X μ) (f x) (a.eval x)){q:QR}(h:(aq tt g f o).ev=some q)(aa:∀p∈q.2,μ p.1=none):
  QOK P o a w (Nx P X lo g μ w q):=by
 unfold aq at h
 split at h
 ·rename_i x _ ho _
  have:=ev_vq h;subst this
  exact QOK.val (by simp [execOp,ho]) (Nx.pure hm (hf x))
 ·rename_i x _ ho _
  have:=ev_vq h;subst this
  exact QOK.val (by simp [execOp,ho]) (Nx.pure hm (hf x))
 ·rename_i c x y _ ho _
  unfold apick at h
  split at h
  next b hc=>
   have hb:a.eval c=.bool b:=by have:=hf c;rw [hc] at this;exact this.bool
   cases b
   ·have:=ev_vq (by simpa using h);subst this
    exact QOK.val (x:=a.eval y) (by simp [execOp,ho,hb,asBool]) (Nx.pure hm (hf y))
   ·have:=ev_vq (by simpa using h);subst this
    exact QOK.val (x:=a.eval x) (by simp [execOp,ho,hb,asBool]) (Nx.pure hm (hf x))
  next=>cases h
 ·rename_i op ty x y _ _ ho _
  exact QOK.pure hm (by simp only [execOp,ho]) (abinN_ok hT hm h (hf x) (hf y) x y)
 ·rename_i op _ x _ ho _
  exact QOK.pure hm (by simp only [execOp,ho]) (aun_ok h (hf x))
 ·rename_i s d x dst ho _
  obtain⟨v,w',h1,h2⟩:=aconvB_ok hT hm h (hf x) aa
  exact QOK.val (by simp [execOp,ho,h1]) h2
 ·rename_i e x d ho hd
  obtain⟨cs,hc,h⟩:=ev_opt_bind h
  simp only [Tr.ev_l,xc] at h
  subst h
  obtain⟨h1,h2⟩:=cellsOf_rel (hf x) hc
  exact QOK.val (by simp [execOp,ho,Instr.box,newVar,newRow]) (box_ok (e:=e) hm (aa (d,.cells cs) (by simp)) h1 h2)
 ·rename_i e d ho hd
  obtain⟨cs,hc,h⟩:=ev_opt_bind h
  simp only [Tr.ev_l,xc] at h
  subst h
  obtain⟨z,hz,h1,h2⟩:=zeroOf_ok (P:=P) (w:=w) (lo:=lo) (μ:=μ) (S:=SS X μ) hT hc
  exact QOK.val (by simp [execOp,ho,Instr.alloc,hz,newVar,newRow]) (box_ok (e:=e) hm (aa (d,.cells cs) (by simp)) h1 h2)
 ·rename_i ty x _ ho _
  exact QOK.pure hm (by simp only [execOp,ho]) (aload_ok hT hm h (hf x))
 ·rename_i x _ ho _
  split at h
  next o' k hx=>
   have:=ev_vq h;subst this
   have hr:=hf x
   rw [hx] at hr
   have h0:=hr
   generalize hv:a.eval x=v at hr h0
   cases hr with
   |box hμ=>exact QOK.val (by simp [execOp,ho,hv]) (Nx.pure hm h0)
  next cs hx=>
   have:=ev_vq h;subst this
   have hr:=hf x
   rw [hx] at hr
   have h0:=hr
   generalize hv:a.eval x=v at hr h0
   cases hr with
   |ptr xs h1 h2 h3 h4=>exact QOK.val (by simp [execOp,ho,hv]) (Nx.pure hm h0)
  next=>cases h
 ·rename_i ty x i _ ho _
  unfold afieldA at h
  split at h
  next o' k hx=>
   split at h
   next ft off ad=>
    have:=ev_vq h;subst this
    obtain⟨fields,fl,hu,h1,h2,h3,ti,ae⟩:=fieldOf_ok hT ad
    obtain⟨_,_,ab,_⟩:=run_zero (w:=w) ae
    have ai:=ti.size_pos
    have hr:=hf x
    rw [hx] at hr
    generalize hv:a.eval x=v at hr
    cases hr with
    | @box _ _ b _ _ _ hμ=>
     refine QOK.val (x:=.pointer (some ⟨b,k+off,none⟩)) ?_ (Nx.pure hm (.box hμ))
     simp [execOp,ho,hv,Instr.fieldAt,run_underlying hu,h1,Instr.sureAddr,fieldPlace,h2,h3,ab,show ti.size≠0 by omega,Addr.add_lit]
   next=>cases h
  next cs hx=>
   split at h
   next ft off ad=>
    split at h
    next aj=>
     have:=ev_vq h;subst this
     obtain⟨fields,fl,hu,h1,h2,h3,ti,ae⟩:=fieldOf_ok hT ad
     obtain⟨_,_,ab,_⟩:=run_zero (w:=w) ae
     have ai:=ti.size_pos
     have hr:=hf x
     rw [hx] at hr
     generalize hv:a.eval x=v at hr
     cases hr with
     | @ptr _ _ b k xs ba hb ao af=>
      refine QOK.val (x:=.pointer (some ⟨b,k+off,none⟩)) ?_ (Nx.pure hm (.ptr (fun j=>xs (off+j)) ?_ hb (fun j v hj=>?_) fun j v hj=>?_))
      ·simp [execOp,ho,hv,Instr.fieldAt,run_underlying hu,h1,Instr.sureAddr,fieldPlace,h2,h3,ab,show ti.size≠0 by omega,Addr.add_lit]
      ·intro e
       have:=congrArg List.length e
       simp at this
       omega
      ·rw [nth_eq,xaa,←nth_eq] at hj
       rw [xda]
       exact ao _ _ hj
      ·rw [nth_eq,xaa,←nth_eq] at hj
       exact af _ _ hj
    next=>cases h
   next=>cases h
  next o' j z hx=>
   split at h
   next ft off ad=>
    have:=ev_vq h;subst this
    obtain⟨fields,fl,hu,h1,h2,h3,ti,ae⟩:=fieldOf_ok hT ad
    obtain⟨_,_,ab,_⟩:=run_zero (w:=w) ae
    have ai:=ti.size_pos
    have hr:=hf x
    rw [hx] at hr
    generalize hv:a.eval x=v at hr
    cases hr with
    | @elt _ _ _ _ b _ _ _ _ hμ=>
     refine QOK.val (x:=.pointer (some ⟨b,j*z+off,none⟩)) ?_ (Nx.pure hm (.fld hμ))
     simp [execOp,ho,hv,Instr.fieldAt,run_underlying hu,h1,Instr.sureAddr,fieldPlace,h2,h3,ab,show ti.size≠0 by omega,Addr.add_lit]
   next=>cases h
  next=>cases h
 ·rename_i ty x i _ ho _
  unfold afield at h
  split at h
  next cs hx=>
   split at h
   next ft off ad=>
    split at h
    next sz au=>
     obtain⟨v,hc,h⟩:=ev_opt_bind h
     have:=ev_vq h;subst this
     obtain⟨fields,fl,hu,h1,h2,h3,_⟩:=fieldOf_ok hT ad
     have hr:=hf x
     rw [hx] at hr
     generalize hv:a.eval x=vx at hr
     cases hr with
     |agg hl af=>
      obtain⟨y,av,aw⟩:=agg_cut (.agg hl af) hT au hc
      refine QOK.val (x:=y) ?_ (Nx.pure hm aw)
      simp [execOp,ho,hv,Instr.field,run_underlying hu,h1,h2,h3,asAgg,av]
    next=>cases h
   next=>cases h
  next=>cases h
 ·rename_i ty x i _ ho _
  exact QOK.pure hm (by simp only [execOp,ho]) (aindex_ok hT hm h (hf x) (hf i))
 ·rename_i ty x i _ ho _
  exact QOK.pure hm (by simp only [execOp,ho]) (aindexV_ok hT h (hf x) (hf i))
 ·rename_i x i _ ho _
  split at h
  next vs hx=>
   obtain⟨v,hc,h⟩:=ev_opt_bind h
   have:=ev_vq h;subst this
   have hr:=hf x
   rw [hx] at hr
   generalize hv:a.eval x=vx at hr
   cases hr with
   | @tup _ _ xs hl af=>
    have aj:i<xs.size:=by rw [←hl];rw [nth_eq] at hc;exact(xk.1 hc).1
    have:=af i v hc
    refine QOK.val (x:=xs[i]) (by simp [execOp,ho,hv,Instr.extract,aj]) (Nx.pure hm (by simpa [aj] using this))
  next=>cases h
 ·rename_i ty x l r _ ho _
  have hO:∀y:Option Operand,ORel P w lo μ (SS X μ) (y.map f) (y.map a.eval):=fun y=>by
   cases y with
   |none=>exact .none
   |some y=>exact .some (hf y)
  exact QOK.pure hm (by simp only [execOp,ho,xed]) (asliceP_ok hT hm h (hf x) (hO l) (hO r))
 ·rename_i ty ps _ ho _
  obtain⟨h1,h2⟩:=map_parts a hf ps
  exact QOK.pure hm (by simp only [execOp,ho]) (abuild_ok hT h h1 h2)
 ·rename_i ty n ps d ho hd
  obtain⟨h1,h2⟩:=map_parts a hf ps
  obtain⟨v,w',h3,h4⟩:=abuildS_ok hT hm h aa h1 h2
  exact QOK.val (x:=v) (w':=w') (by simp only [execOp,ho];simp [h3]) h4
 ·rename_i ty l c d ho hd
  have ay:μ d=none:=by
   have h':=h
   unfold amake at h'
   split at h'
   ·split at h'
    ·obtain⟨_,h'⟩:=ev_g h'
     split at h'
     ·simp only [Tr.ev_l,xc] at h'
      subst h'
      exact aa (d,_) (xx)
     ·cases h'
    ·cases h'
   ·cases h'
  obtain⟨v,w',h3,h4⟩:=amake_ok hT hm ay h (hf l) (hf c)
  exact QOK.val (x:=v) (w':=w') (by simp only [execOp,ho];simp [h3]) h4
 ·rename_i k first caps _ ho _
  split at h
  next h0=>
   have:=ev_vq h;subst this
   have ah:first= #[]:=xes h0
   obtain⟨h1,h2⟩:=map_eval a hf caps
   refine QOK.val (x:=.func (.func k) #[] (caps.map a.eval)) (by simp [execOp,ho,Instr.makeFunc,ah]) (Nx.pure hm (.fn h1 fun j v hj=>?_))
   exact(h2 j v hj).step (fun _ _ h=>h) hm.hlo (fun b _ hS=>⟨.inl hS,rfl⟩) fun _ _=>rfl
  next h0=>
   split at h
   next az=>
    have:=ev_vq h;subst this
    have ak:caps= #[]:=xes az
    obtain⟨h1,h2⟩:=map_eval a hf first
    refine QOK.val (x:=.func (.func k) (first.map a.eval) #[]) (by simp [execOp,ho,Instr.makeFunc,ak]) (Nx.pure hm (.bnd (by simp) fun j v hj=>?_))
    have e:(first.toList.map fun x=>pur1 (f x))=(first.toList.map f).map pur1:=by simp
    rw [e,nth_eq,xr] at hj
    cases hu:(first.toList.map f)[j]? with
    |none=>rw [hu] at hj;cases hj
    |some u=>
     rw [hu] at hj
     simp only [xy,xc] at hj
     subst hj
     exact pur1_rel (fun _ _ h=>h) (h2 j u (by rw [nth_eq];exact hu))
   next=>cases h
 ·rename_i as ts _ ho _
  split at h
  next x ty has al=>
   have e1:as= #[x]:=by rw [←xav (xs:=as),has]
   have e2:ts= #[ty]:=by rw [←xav (xs:=ts),al]
   refine QOK.pure hm (s:=Builtin.len_ #[ty] o.type #[a.eval x]) ?_ (alen_ok hT hm h (hf x))
   simp [execOp,ho,e1,e2,resolve,invoke,builtin]
  next=>cases h
 ·rename_i as ts _ ho _
  split at h
  next x ty has al=>
   have e1:as= #[x]:=by rw [←xav (xs:=as),has]
   have e2:ts= #[ty]:=by rw [←xav (xs:=ts),al]
   refine QOK.pure hm (s:=Builtin.cap_ #[ty] o.type #[a.eval x]) ?_ (acap_ok hT h (hf x))
   simp [execOp,ho,e1,e2,resolve,invoke,builtin]
  next=>cases h
 ·rename_i as ts _ ho _
  obtain⟨h1,h2⟩:=map_eval a hf as
  refine QOK.pure hm (s:=Builtin.min_ ts o.type (as.map a.eval)) ?_ (aminmax_ok h h1 h2 ts o.type)
  simp [execOp,ho,resolve,invoke,builtin]
 ·rename_i as ts _ ho _
  obtain⟨h1,h2⟩:=map_eval a hf as
  refine QOK.pure hm (s:=Builtin.max_ ts o.type (as.map a.eval)) ?_ (aminmax_ok h h1 h2 ts o.type)
  simp [execOp,ho,resolve,invoke,builtin]
 ·cases h
end
end Go.Proofs.YteiekijgoifhoaaGreatDoor
