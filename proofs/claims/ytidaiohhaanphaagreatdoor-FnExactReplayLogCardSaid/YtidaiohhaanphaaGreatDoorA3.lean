/- A part of the proof that FnExactReplayLog hands back true, at every argument of the row. -/
import Derived.WalkKit
namespace Go.Proofs.YtidaiohhaanphaaGreatDoor
abbrev qa:=@cond_true
abbrev qb:=@cond_false
abbrev qc:=@decide_eq_true
abbrev qd:=@decide_eq_false
abbrev qe:=@decide_eq_true_eq
abbrev qf:=@beq_eq_false_iff_ne
abbrev qg:=@beq_iff_eq
abbrev qh:=@if_neg
abbrev qi:=@if_pos
abbrev qj:=@beq_self_eq_true
abbrev qk:=@bne_self_eq_false
abbrev ql:=@and_true
abbrev qm:=@or_false
abbrev xc:=@Option.bind_some
abbrev xd:=@List.getD_eq_getElem?_getD
abbrev xe:=@Option.some.injEq
abbrev xf:=@Nat.eq_of_beq_eq_true
abbrev xg:=@List.getElem?_eq_getElem
abbrev xh:=@Bool.and_eq_true
abbrev xi:=@Nat.lt_irrefl
abbrev xj:=@List.length_cons
abbrev xk:=@Bool.not_true
abbrev xl:=@List.length_append
abbrev xm:=@Nat.le_refl
abbrev xn:=@Array.getD_eq_getD_getElem?
abbrev xo:=@List.getElem?_eq_some_iff
abbrev xp:=@List.mem_singleton
abbrev xq:=@List.all_eq_true
abbrev xr:=@List.mem_cons_of_mem
abbrev xt:=@List.mem_append
abbrev xu:=@List.mem_cons_self
abbrev xw:=@List.mem_of_getElem?
abbrev xx:=@List.length_take
abbrev xy:=@Int.toNat_natCast
abbrev xz:=@List.eq_nil_of_length_eq_zero
abbrev xaa:=@List.getElem?_map
abbrev xab:=@List.length_nil
abbrev xac:=@List.getElem?_append_left
abbrev xad:=@List.getElem?_append_right
abbrev xae:=@Bool.not_false
abbrev xaf:=@List.mem_cons
abbrev xag:=@Array.getElem?_eq_getElem
abbrev xah:=@Option.map_some
abbrev xai:=@Bool.false_eq_true
abbrev xaj:=@List.mem_filter
abbrev xak:=@List.mem_map
abbrev xal:=@List.take_length
abbrev xam:=@List.getElem?_drop
abbrev xan:=@List.take_succ_eq_append_getElem
abbrev xao:=@Nat.lt_of_lt_of_le
abbrev xap:=@List.mem_range
abbrev xaq:=@List.mem_append_left
abbrev xar:=@List.length_pos_iff
abbrev xas:=@List.length_drop
abbrev xat:=@Option.getD_some
abbrev xau:=@Option.map_eq_some_iff
abbrev xav:=@List.mem_append_right
abbrev xaw:=@List.take_of_length_le
abbrev xax:=@List.append_nil
abbrev xay:=@Bool.not_eq_true'
abbrev xaz:=@Array.getElem?_eq_some_iff
abbrev xba:=@Option.isSome_iff_exists
abbrev xbb:=@Nat.mul_one
abbrev xbc:=@List.length_set
abbrev xbd:=@Option.some.inj
abbrev xbe:=@List.drop_eq_getElem_cons
abbrev xbf:=@List.any_eq_true
abbrev xbg:=@List.length_replicate
abbrev xbh:=@List.nil_append
abbrev xbi:=@Nat.add_zero
abbrev xbj:=@List.pairwise_cons
abbrev xbk:=@Bool.or_eq_true
abbrev xbl:=@Array.toArray_toList
abbrev xbm:=@List.foldl_cons
abbrev xbn:=@List.map_cons
abbrev xbo:=@Array.getElem?_append_left
abbrev xbp:=@List.mem_of_mem_take
abbrev xbq:=@List.getElem?_take
abbrev xbr:=@Nat.add_mul
abbrev xbs:=@List.mem_iff_getElem
abbrev xbt:=@List.cons_append
abbrev xbu:=@List.length_map
abbrev xbv:=@Int.le_refl
abbrev xbw:=@List.getElem_of_mem
abbrev xbx:=@List.getElem?_range
abbrev xby:=@List.cons.injEq
abbrev xbz:=@Nat.zero_add
abbrev xca:=@Nat.mul_le_mul_right
abbrev xcb:=@List.any_eq_false
abbrev xcc:=@List.getElem?_eq_none
abbrev xcd:=@List.contains_iff_mem
abbrev xce:=@Array.length_toList
abbrev xcf:=@List.append_assoc
abbrev xcg:=@Bool.true_and
abbrev xch:=@Int.mul_le_mul_of_nonneg_left
abbrev xci:=@Nat.min_eq_left
abbrev xcj:=@List.not_mem_nil
abbrev xck:=@List.set_append_right
abbrev xcl:=@List.getElem?_replicate
abbrev xcm:=@Nat.zero_le
abbrev xcn:=@Bool.eq_iff_iff
abbrev xco:=@List.drop_eq_nil_of_le
abbrev xcp:=@Array.getElem?_eq_none
abbrev xcq:=@List.foldl_append
abbrev xcr:=@Array.getElem?_toList
abbrev xcs:=@Ne.symm
abbrev xct:=@Bool.or_eq_false_iff
abbrev xcu:=@Array.getElem?_append_right
abbrev xcv:=@List.findIdx?_eq_some_iff_getElem
abbrev xcw:=@Prod.mk.injEq
abbrev xcx:=@List.size_toArray
abbrev xcy:=@List.mem_map_of_mem
abbrev xcz:=@List.map_congr_left
abbrev xda:=@List.findSome?_cons
abbrev xdb:=@Array.getElem?_setIfInBounds_ne
abbrev xdc:=@List.length_singleton
abbrev xdd:=@Nat.le_of_ble_eq_true
abbrev xde:=@Int.mul_le_mul_of_nonneg_right
abbrev xdf:=@List.filter_cons
abbrev xdg:=@Nat.lt_or_ge
abbrev xdh:=@List.mem_of_mem_drop
abbrev xdi:=@List.pairwise_append
abbrev xdj:=@Nat.pow_le_pow_right
abbrev xdk:=@List.getElem?_set
abbrev xdl:=@Option.bind_eq_some_iff
abbrev xdm:=@List.all_cons
abbrev xdn:=@Int.lt_irrefl
abbrev xdo:=@Bool.and_true
abbrev xdp:=@List.drop_length
abbrev xdq:=@List.length_filter_le
abbrev xdr:=@List.map_append
abbrev xds:=@Nat.le_trans
abbrev xdt:=@Nat.sub_self
abbrev xdu:=@List.getElem?_set_ne
abbrev xdv:=@List.length_range
abbrev xdw:=@Nat.add_assoc
abbrev xdx:=@List.eq_of_mem_replicate
abbrev xdy:=@Int.toNat_of_nonneg
abbrev xdz:=@List.getElem_mem
abbrev xea:=@List.drop_zero
abbrev xeb:=@Int.eq_ofNat_of_zero_le
abbrev xec:=@List.findIdx?_cons
abbrev xed:=@Int.mul_comm
abbrev xee:=@List.range_succ
abbrev xef:=@List.take_append_drop
abbrev xeg:=@List.singleton_append
abbrev xeh:=@List.flatMap_cons
abbrev xei:=@List.ext_getElem?
abbrev xej:=@Bool.eq_false_iff
abbrev xek:=@Int.tdiv_eq_ediv_of_nonneg
abbrev xel:=@List.take_zero
abbrev xem:=@List.map_toArray
abbrev xen:=@List.map_nil
abbrev xeo:=@List.mem_flatMap
abbrev xep:=@List.mem_or_eq_of_mem_set
abbrev xeq:=@List.any_cons
abbrev xer:=@Bool.or_false
abbrev xes:=@Bool.false_or
abbrev xet:=@Array.getElem?_replicate
abbrev xeu:=@Int.dvd_mul_of_dvd_right
abbrev xev:=@Option.map_none
abbrev xew:=@Nat.not_lt_zero
abbrev xex:=@Int.natCast_add
abbrev xey:=@UInt8.toNat_inj
abbrev xez:=@List.filter_append
abbrev xfa:=@List.any_eq_not_all_not
abbrev xfb:=@List.set_eq_take_append_cons_drop
abbrev xfc:=@Nat.zero_mul
abbrev xfd:=@Nat.mul_le_mul
abbrev xfe:=@Nat.beq_refl
abbrev xff:=@List.take_take
abbrev xfg:=@List.length_eq_one_iff
abbrev xfh:=@List.range_succ_eq_map
abbrev xfi:=@List.find?_append
abbrev xfj:=@Bool.and_false
abbrev xfk:=@List.eq_nil_or_concat
abbrev xfl:=@List.filterMap_append
abbrev xfm:=@Array.eq_empty_of_size_eq_zero
abbrev xfn:=@List.ext_getElem
abbrev xfo:=@List.take_append_of_le_length
abbrev xfp:=@List.nodup_cons
abbrev xfq:=@List.map_eq_nil_iff
abbrev xfr:=@List.filter_eq_self
abbrev xfs:=@List.takeWhile_cons
abbrev xft:=@List.length_take_le
abbrev xfu:=@List.drop_drop
abbrev xfv:=@List.mapM_cons
abbrev xfw:=@Nat.add_sub_cancel
abbrev xfx:=@List.set_cons_zero
abbrev xfy:=@List.find?_eq_none
abbrev xfz:=@List.foldl_nil
abbrev xga:=@Bool.false_and
abbrev xgb:=@UInt8.toNat_ofNat'
abbrev xgc:=@Int.tmod_eq_emod_of_nonneg
abbrev xgd:=@List.mem_of_find?_eq_some
abbrev xge:=@List.pairwise_iff_getElem
abbrev xgf:=@List.findIdx?_eq_none_iff
abbrev xgg:=@Nat.one_mul
abbrev xgh:=@Array.size_append
abbrev xgi:=@Array.all_eq_true
abbrev xgj:=@List.map_id
abbrev xgk:=@List.getElem?_take_of_lt
abbrev xgl:=@Int.dvd_trans
abbrev xgm:=@List.take_append
abbrev xgn:=@Nat.mod_eq_of_lt
abbrev xgo:=@List.length_eq_zero_iff
abbrev xgp:=@Int.min_eq_right
abbrev xgq:=@Int.max_eq_right
abbrev xgr:=@Int.dvd_of_emod_eq_zero
abbrev xgs:=@Nat.mul_comm
abbrev xgt:=@Nat.blt_eq
abbrev xgu:=@Int.dvd_zero
abbrev xgv:=@List.drop_of_length_le
abbrev xgw:=@Int.add_zero
abbrev xgx:=@List.find?_cons
abbrev xgy:=@List.any_append
abbrev xgz:=@List.nodup_nil
abbrev xha:=@List.foldl_map
abbrev xhb:=@Int.add_mul
abbrev xhc:=@Array.ext
abbrev xhd:=@Int.mul_assoc
abbrev xhe:=@Array.ext'
inductive Ty where
 |int (k:IntKind)
 |bool
 |str
 |slice (t:Ty)
 |pair (a b:Ty)
@[reducible] def Ty.I:Ty->Type
 | .int _=>Int
 | .bool=>Bool
 | .str=>List UInt8
 | .slice t=>List t.I
 | .pair a b=>a.I×b.I
def Ty.size:Ty->Nat
 | .pair a b=>a.size+b.size
 |_=>1
def Ty.dflt:(t:Ty)->t.I
 | .int _=>(0:Int)
 | .bool=>false
 | .str=>[]
 | .slice _=>[]
 | .pair a b=>(a.dflt,b.dflt)
def Ty.eq? :(a b:Ty)->Option (PLift (a=b))
 | .int j,.int k=>if h:j=k then some ⟨by rw[h]⟩else none
 | .bool,.bool=>some ⟨rfl⟩
 | .str,.str=>some ⟨rfl⟩
 | .slice a,.slice b=>match Ty.eq? a b with
  |some ⟨h⟩=>some ⟨by rw[h]⟩
  |none=>none
 | .pair a b,.pair c d=>match Ty.eq? a c,Ty.eq? b d with
  |some ⟨h⟩,some ⟨k⟩=>some ⟨by rw[h,k]⟩
  |_,_=>none
 |_,_=>none
def Ty.cast(a b:Ty)(x:a.I):Option b.I:=
 match Ty.eq? a b with
 |some ⟨h⟩=>some (h▸x)
 |none=>none
@[reducible] def HL:List Ty->Type
 | []=>Unit
 |t::ts=>t.I×HL ts
inductive AV where
 |undef
 |skip
 |dat (t:Ty) (v:t.I)
 |nilsl
 |arr (o:Nat)
 |box (o k:Nat)
 |elt (o i s:Nat)
 |fld (o i s k:Nat)
 |row (o i:Nat)
 |relt (o i n s:Nat)
 |suf (o i s:Nat)
 |pre (o i:Nat)
 |ptr (cs:List AV)
 |fn (f:Nat) (caps:List AV)
 |bnd (f:Nat) (fs:List AV)
 |clo (ts:List Ty) (r:Ty) (p:HL ts->Option r.I)
 |tup (vs:List AV)
 |agg (cs:List AV)
inductive Ob where
 |arr (e:Nat) (t:Ty) (l:List t.I)
 |rows (e e2:Nat) (t:Ty) (l:List (List t.I)) (h:Option (Nat×Option Nat))
 |perm (k:Bool) (e e2:Nat) (t:Ty) (ix:List Nat) (l:List (List t.I))
 |spent
 |cells (cs:List AV)
inductive Tr(L:Type):Type 1 where
 |f
 |l (x:L)
 |t (b:Bool) (x y:Tr L)
 |c (R:Type) (x:Option R) (k:R->Tr L)
 |s (A B:Type) (x:A⊕B) (k:A->Tr L) (k':B->Tr L)
namespace Tr
def bind{L M:Type}:Tr L->(L->Tr M)->Tr M
 | .f,_=>.f
 | .l x,k=>k x
 | .t b x y,k=>.t b (x.bind k) (y.bind k)
 | .c R x g,k=>.c R x λr=>(g r).bind k
 | .s A B x g g',k=>.s A B x (λa=>(g a).bind k) λb=>(g' b).bind k
def map{L M:Type}(g:L->M):Tr L->Tr M
 | .f=>.f
 | .l x=>.l (g x)
 | .t b x y=>.t b (x.map g) (y.map g)
 | .c R x k=>.c R x λr=>(k r).map g
 | .s A B x k k'=>.s A B x (λa=>(k a).map g) λb=>(k' b).map g
def ev{L:Type}:Tr L->Option L
 | .f=>none
 | .l x=>some x
 | .t b x y=>bif b then x.ev else y.ev
 | .c _ x k=>x.bind λr=>(k r).ev
 | .s _ _ x k k'=>match x with
  | .inl a=>(k a).ev
  | .inr b=>(k' b).ev
def opt{L:Type}:Option L->Tr L
 |some x=>.l x
 |none=>.f
def g{L:Type}(b:Bool)(x:Tr L):Tr L:=.t b x .f
@[simp] theorem ev_f {L:Type}:(Tr.f:Tr L).ev=none:=rfl
@[simp] theorem ev_l {L:Type} (x:L):(Tr.l x).ev=some x:=rfl
@[simp] theorem ev_t {L:Type} (b:Bool) (x y:Tr L):(Tr.t b x y).ev=bif b then x.ev else y.ev:=rfl
@[simp] theorem ev_c {L:Type} (R:Type) (x:Option R) (k:R->Tr L):(Tr.c R x k).ev=x.bind λr=>(k r).ev:=rfl
theorem ev_bind{L M:Type}(k:L->Tr M):∀x:Tr L,(x.bind k).ev=x.ev.bind λl=>(k l).ev
 | .f=>rfl
 | .l _=>rfl
 | .t b x y=>by cases b<;>simp[bind,ev_bind k x,ev_bind k y]
 | .c R x g=>by cases x<;>simp[bind,ev_bind k]
 | .s A B x g g'=>by cases x<;>simp[bind,ev,ev_bind k]
theorem ev_map{L M:Type}(g:L->M):∀x:Tr L,(x.map g).ev=x.ev.map g
 | .f=>rfl
 | .l _=>rfl
 | .t b x y=>by cases b<;>simp[map,ev_map g x,ev_map g y]
 | .c R x k=>by cases x<;>simp[map,ev_map g]
 | .s A B x k k'=>by cases x<;>simp[map,ev,ev_map g]
@[simp] theorem ev_opt {L:Type} (x:Option L):(Tr.opt x).ev=x:=by cases x<;>rfl
@[simp] theorem ev_g {L:Type} (b:Bool) (x:Tr L):(Tr.g b x).ev=bif b then x.ev else none:=rfl
end Tr
structure CR where
 R:Type
 x:Option R
 emb:R->List AV×List (Nat×Ob)
 sp:R->Tr (List AV×List (Nat×Ob))
 spok:∀r,(sp r).ev=some (emb r)
inductive LP where
 |arg (i:Nat)
 |cell (j k:Nat)
 |comp (i j:Nat)
 |cap (i j:Nat)
structure Env where
 call:Nat->List AV->List (Nat×Ob)->Option CR
 lend:Nat->List LP
inductive TD where
 |sc (t:Ty)
 |sl (e:Nat) (t:Ty) (b:Nat)
 |st (t:Ty) (fs:List (Nat×Ty))
 |no
def look{α:Type _}:List (Nat×α)->Nat->Option α
 | [],_=>none
 |(k,x)::r,i=>match Nat.beq k i with
  |true=>some x
  |false=>look r i
def nth{α:Type}:List α->Nat->Option α
 | [],_=>none
 |x::_,0=>some x
 |_::r,i+1=>nth r i
def flat:(t:Ty)->t.I->List AV
 | .pair a b,(x,y)=>flat a x++flat b y
 | .int k,n=>[.dat (.int k) n]
 | .bool,b=>[.dat .bool b]
 | .str,s=>[.dat .str s]
 | .slice t,l=>[.dat (.slice t) l]
def zeroAV:Ty->List AV
 | .pair a b=>zeroAV a++zeroAV b
 | .int k=>[.dat (.int k) (0:Int)]
 | .bool=>[.dat .bool false]
 | .str=>[.dat .str ([]:List UInt8)]
 | .slice _=>[.nilsl]
def get1(t:Ty):AV->Option t.I
 | .dat t' v=>Ty.cast t' t v
 | .nilsl=>match t with
  | .slice _=>some []
  |_=>none
 |_=>none
def unflat:(t:Ty)->List AV->Option t.I
 | .pair a b,cs=>match unflat a (cs.take a.size),unflat b (cs.drop a.size)with
  |some x,some y=>some (x,y)
  |_,_=>none
 |t,cs=>match cs with
  | [v]=>get1 t v
  |_=>none
def cellsOf:AV->Option (List AV)
 | .agg cs=>some cs
 | .undef=>none
 | .skip=>none
 | .tup _=>none
 |v=>some [v]
def inj(t:Ty)(v:t.I):AV:=
 match flat t v with
 | [x]=>x
 |cs=>.agg cs
def getT(t:Ty)(v:AV):Option t.I:=(cellsOf v).bind (unflat t)
def ixOf:List Nat->Nat->Nat->Option Nat
 | [],_,_=>none
 |x::r,o,i=>match Nat.beq x o with
  |true=>some i
  |false=>ixOf r o (i+1)
def permL{α:Type}(ix:List Nat)(l:List (List α)):List (List α):=ix.map λi=>l.getD i []
def ext0(ρ:List Nat)(g:Nat->Option Ob):AV->AV
 | .dat t v=>.dat t v
 | .nilsl=>.nilsl
 | .arr o=>match ixOf ρ o 64 with
  |some i=>.arr i
  |none=>match g o with
   |some (.arr _ t l)=>.dat (.slice t) l
   |some (.rows _ _ t l none)=>.dat (.slice (.slice t)) l
   |some (.perm _ _ _ t ix l)=>.dat (.slice (.slice t)) (permL ix l)
   |_=>.undef
 | .row o i=>match ixOf ρ o 64 with
  |some _=>.undef
  |none=>match g o with
   |some (.rows _ _ t l none)=>.dat (.slice t) (l.getD i [])
   |some (.perm _ _ _ t _ l)=>.dat (.slice t) (l.getD i [])
   |_=>.undef
 | .clo ts r p=>.clo ts r p
 | .fn f []=>.fn f []
 |_=>.undef
def ext1(ρ:List Nat)(g:Nat->Option Ob):AV->AV
 | .agg cs=>.agg (cs.map (ext0 ρ g))
 |v=>ext0 ρ g v
def extC(ρ:List Nat)(g:Nat->Option Ob):AV->AV
 | .box o k=>match ixOf ρ o 64 with
  |some i=>.box i k
  |none=>match g o with
   |some (.cells cs)=>if k<cs.length then .ptr ((cs.map (ext0 ρ g)).drop k)else .undef
   |_=>.undef
 |_=>.undef
def purL:AV->AV
 | .dat t v=>.dat t v
 | .nilsl=>.nilsl
 |_=>.undef
def pur1:AV->AV
 | .agg cs=>.agg (cs.map purL)
 |v=>purL v
def extA(ρ:List Nat)(g:Nat->Option Ob):AV->AV
 | .fn f caps=>.fn f (caps.map (extC ρ g))
 | .bnd f fs=>.bnd f (fs.map pur1)
 | .box o k=>match ixOf ρ o 64 with
  |some i=>.box i k
  |none=>.undef
 |v=>ext1 ρ g v
def extL:AV->AV
 | .dat t v=>.dat t v
 | .nilsl=>.nilsl
 | .clo ts r p=>.clo ts r p
 |_=>.undef
def extOb:Ob->Ob
 | .cells cs=>.cells (cs.map extL)
 | .rows e e2 t l h=>.rows e e2 t l (h.map λp=>(p.1,none))
 |x=>x
def lendIds(g:Nat->Option Ob)(fs as:List AV):List LP->List Nat->Option (List Nat)
 | [],acc=>some acc
 | .arg i::r,acc=>match nth as i with
  |some (.box o 0)=>lendIds g fs as r (acc++ [o])
  |some (.arr o)=>lendIds g fs as r (acc++ [o])
  |_=>none
 | .cell j k::r,acc=>match nth acc j with
  |some p=>match g p with
   |some (.cells cs)=>match nth cs k with
    |some (.box o 0)=>lendIds g fs as r (acc++ [o])
    |some (.arr o)=>lendIds g fs as r (acc++ [o])
    |_=>none
   |_=>none
  |none=>none
 | .comp i j::r,acc=>match nth as i with
  |some (.agg cs)=>match nth cs j with
   |some (.arr o)=>lendIds g fs as r (acc++ [o])
   |_=>none
  |_=>none
 | .cap i j::r,acc=>match nth fs i with
  |some (.fn _ caps)=>match nth caps j with
   |some (.box o 0)=>lendIds g fs as r (acc++ [o])
   |_=>none
  |_=>none
def insOf(g:Nat->Option Ob):List Nat->Nat->List (Nat×Ob)
 | [],_=>[]
 |o::r,i=>match g o with
  |some x=>(i,extOb x)::insOf g r (i+1)
  |none=>insOf g r (i+1)
def isArr0(ρ:List Nat):AV->Bool
 | .arr o=>match ixOf ρ o 64 with
  |some _=>false
  |none=>true
 | .row _ _=>true
 |_=>false
def isArr(ρ:List Nat):AV->Bool
 | .agg cs=>cs.any (isArr0 ρ)
 |v=>isArr0 ρ v
def deepT:Ty->Bool
 | .slice _=>true
 | .pair a b=>deepT a||deepT b
 |_=>false
def deep0:AV->Bool
 | .dat t _=>deepT t
 | .arr _=>false
 | .nilsl=>false
 |_=>true
def deep1:AV->Bool
 | .agg cs=>cs.any deep0
 |v=>deep0 v
def rn(ρ:List Nat)(d o:Nat):Nat:=if o<64 then d*64+o else(nth ρ (o-64)).getD 0
def ren0(ρ:List Nat)(d:Nat):AV->AV
 | .arr o=>.arr (rn ρ d o)
 |v=>v
def ren1(ρ:List Nat)(d:Nat):AV->AV
 | .agg cs=>.agg (cs.map (ren0 ρ d))
 |v=>ren0 ρ d v
def renL(ρ:List Nat)(d:Nat):AV->AV
 | .arr o=>.arr (rn ρ d o)
 | .dat t v=>.dat t v
 | .nilsl=>.nilsl
 |_=>.undef
def renOb(ρ:List Nat)(d:Nat):Ob->Ob
 | .cells cs=>.cells (cs.map (renL ρ d))
 | .rows e e2 t l h=>.rows e e2 t l (h.map λp=>(p.1,none))
 | .perm _ e e2 t ix l=>.perm true e e2 t ix l
 |x=>x
abbrev QR:=AV×List (Nat×Ob)
def inR(n:Int)(len:Nat):Bool:=decide (0<=n)&&decide (n<(len:Int))
def bq(b:Bool):Tr QR:=.l (.dat .bool b,[])
def iq(k:IntKind)(n:Int):Tr QR:=.l (.dat (.int k) n,[])
def vq(v:AV):Tr QR:=.l (v,[])
def abin(tt:Nat->TD)(op:BinOp)(ty:Nat):AV->AV->Tr QR
 | .dat (.int k) a,.dat (.int k') b=>
  match op with
  | .shl=>.g (decide ((0:Int)<=b)) (iq k (k.wrap ((a:Int)*2^(min (b:Int).toNat k.bits))))
  | .shr=>.g (decide ((0:Int)<=b)) (iq k ((a:Int).fdiv (2^(min (b:Int).toNat k.bits))))
  |_=>if k=k' then
    match op with
    | .add=>iq k (k.wrap ((a:Int)+b))
    | .sub=>iq k (k.wrap ((a:Int) -b))
    | .mul=>iq k (k.wrap ((a:Int)*b))
    | .quo=>.g (!decide ((b:Int)=0)) (iq k (k.wrap ((a:Int).tdiv b)))
    | .rem=>.g (!decide ((b:Int)=0)) (iq k ((a:Int).tmod b))
    | .and=>iq k (k.wrap (BitVec.ofInt k.bits a&&&BitVec.ofInt k.bits b).toNat)
    | .or=>iq k (k.wrap (BitVec.ofInt k.bits a|||BitVec.ofInt k.bits b).toNat)
    | .xor=>iq k (k.wrap (BitVec.ofInt k.bits a^^^BitVec.ofInt k.bits b).toNat)
    | .andNot=>iq k (k.wrap (BitVec.ofInt k.bits a&&& ~~~BitVec.ofInt k.bits b).toNat)
    | .eql=>bq ((a:Int)==b)
    | .neq=>bq ((a:Int) !=b)
    | .lss=>bq (decide ((a:Int)<b))
    | .leq=>bq (decide ((a:Int)<=b))
    | .gtr=>bq (decide ((b:Int)<a))
    | .geq=>bq (decide ((b:Int)<=a))
    |_=>.f
   else .f
 | .dat .bool a,.dat .bool b=>
  match tt ty with
  | .sc .bool=>match op with
   | .eql=>bq ((a:Bool)==b)
   | .neq=>bq (!((a:Bool)==b))
   |_=>.f
  |_=>.f
 | .dat .str a,.dat .str b=>
  match op with
  | .add=>.g (decide (List.length (α:=UInt8) a+List.length (α:=UInt8) b<=9223372036854775807)) (vq (.dat .str ((a:List UInt8)++b)))
  | .eql=>bq ((a:List UInt8)==b)
  | .neq=>bq (!((a:List UInt8)==b))
  |_=>.f
 |_,_=>.f
def aun(op:UnOp):AV->Tr QR
 | .dat .bool b=>match op with
  | .not=>bq (!b)
  |_=>.f
 | .dat (.int k) n=>match op with
  | .neg=>iq k (k.wrap (0-(n:Int)))
  |_=>.f
 |_=>.f
def tySize(tt:Nat->TD)(ty:Nat):Option (Nat×Bool):=
 match tt ty with
 | .sc t=>some (t.size,false)
 | .sl _ _ _=>some (1,false)
 | .st t _=>some (t.size,true)
 | .no=>none
def cut(cs:List AV)(k:Nat)(sz:Nat×Bool):Option AV:=
 match sz.2 with
 |true=>if k+sz.1<=cs.length then some (.agg ((cs.drop k).take sz.1))else none
 |false=>nth cs k
def flatPrefix:List (Nat×Ty)->Nat->Nat->Option (Nat×Nat)
 | [],_,_=>none
 |(ty,_)::_,o,0=>some (ty,o)
 |(_,t)::r,o,i+1=>flatPrefix r (o+t.size) i
def fieldOf(tt:Nat->TD)(ty i:Nat):Option (Nat×Nat):=
 match tt ty with
 | .st _ fs=>flatPrefix fs 0 i
 |_=>none
def aload(tt:Nat->TD)(g:Nat->Option Ob)(ty:Nat)(a:AV):Tr QR:=
 match tySize tt ty,a with
 |some sz,.box o k=>match g o with
  |some (.cells cs)=>(Tr.opt (cut cs k sz)).bind vq
  |_=>.f
 |some sz,.ptr cs=>(Tr.opt (cut cs 0 sz)).bind vq
 |some sz,.elt o i s=>match g o with
  |some (.arr _ t l)=>if sz.1=t.size/\s=t.size then .g (decide (i<l.length)) ((Tr.opt (cut (flat t (l.getD i t.dflt)) 0 sz)).bind vq)else .f
  |some (.rows _ _ _ l none)=>if sz.1=1/\sz.2=false/\s=1 then .g (decide (i<l.length)) (vq (.row o i))else .f
  |some (.perm _ _ _ _ ix l)=>if sz.1=1/\sz.2=false/\s=1 then .g (decide (i<ix.length)&&decide (ix.getD i 0<l.length)) (vq (.row o (ix.getD i 0)))else .f
  |_=>.f
 |some sz,.fld o i s k=>match g o with
  |some (.arr _ t l)=>if s=t.size then .g (decide (i<l.length)) ((Tr.opt (cut (flat t (l.getD i t.dflt)) k sz)).bind vq)else .f
  |_=>.f
 |_,_=>.f
def aindex(tt:Nat->TD)(g:Nat->Option Ob)(ty:Nat):AV->AV->Tr QR
 | .dat (.slice t) l,.dat (.int _) n=>match tt ty with
  | .sl _ t' _=>if t.size=t'.size then .g (inR n l.length) (vq (.ptr (flat t (l.getD (n:Int).toNat t.dflt))))else .f
  |_=>.f
 | .arr o,.dat (.int _) n=>match tt ty,g o with
  | .sl _ t' _,some (.arr _ t l)=>if t.size=t'.size then .g (inR n l.length) (vq (.elt o (n:Int).toNat t.size))else .f
  | .sl _ t' _,some (.rows _ _ _ l _)=>if t'.size=1 then .g (inR n l.length) (vq (.elt o (n:Int).toNat 1))else .f
  | .sl _ t' _,some (.perm _ _ _ _ ix _)=>if t'.size=1 then .g (inR n ix.length) (vq (.elt o (n:Int).toNat 1))else .f
  |_,_=>.f
 | .row o i,.dat (.int _) n=>match tt ty,g o with
  | .sl _ t' _,some (.rows _ _ t l none)=>if t.size=t'.size then .g (inR n (l.getD i []).length) (vq (.relt o i (n:Int).toNat t.size))else .f
  |_,_=>.f
 |_,_=>.f
def aindexV(tt:Nat->TD)(ty:Nat):AV->AV->Tr QR
 | .dat .str s,.dat (.int _) n=>match tt ty with
  | .sc .str=>.g (inR n (List.length (α:=UInt8) s)) (iq .u8 ((List.getD (α:=UInt8) s (n:Int).toNat 0).toNat:Int))
  |_=>.f
 |_,_=>.f
def alen(tt:Nat->TD)(g:Nat->Option Ob)(ty:Nat):AV->Tr QR
 | .dat (.slice _) l=>match tt ty with
  | .sl _ _ _=>iq .i64 (l.length:Int)
  |_=>.f
 | .nilsl=>match tt ty with
  | .sl _ _ _=>iq .i64 (0:Int)
  |_=>.f
 | .arr o=>match tt ty,g o with
  | .sl _ _ _,some (.arr _ _ l)=>iq .i64 (l.length:Int)
  | .sl _ _ _,some (.rows _ _ _ l _)=>iq .i64 (l.length:Int)
  | .sl _ _ _,some (.perm _ _ _ _ ix _)=>iq .i64 (ix.length:Int)
  |_,_=>.f
 | .dat .str s=>match tt ty with
  | .sc .str=>iq .i64 (List.length (α:=UInt8) s:Int)
  |_=>.f
 |_=>.f
def getA(t:Ty):AV->Option t.I
 | .agg cs=>if t.size=1 then none else unflat t cs
 |v=>if t.size=1 then get1 t v else none
def hlOf:(ts:List Ty)->List AV->Option (HL ts)
 | [],[]=>some ()
 |t::ts,v::vs=>match getA t v,hlOf ts vs with
  |some x,some h=>some (x,h)
  |_,_=>none
 |_,_=>none
def hlAV:(ts:List Ty)->HL ts->List AV
 | [],_=>[]
 |t::ts,(x,h)=>inj t x::hlAV ts h
def res0:AV->Bool
 | .dat _ _=>true
 | .nilsl=>true
 | .arr _=>true
 | .undef=>true
 |_=>false
def res1:AV->Bool
 | .agg cs=>cs.all res0
 |v=>res0 v
def deepL:AV->Bool
 | .dat t _=>deepT t
 |_=>false
def deepOb:Ob->Bool
 | .arr _ t _=>deepT t
 | .spent=>false
 | .rows _ _ t _ _=>deepT t
 | .perm _ _ _ t _ _=>deepT t
 | .cells cs=>cs.any deepL
def okRes(n:Nat)(r:List AV×List (Nat×Ob)):Bool:=
 r.2.all (λp=>decide (p.1<64+n)&&match p.2 with| .arr _ _ _=>true| .perm _ _ _ _ _ _=>true| .spent=>decide (64<=p.1)| .rows _ _ _ _ h=>h.isNone| .cells _=>decide (64<=p.1))&&decide (r.2.map (·.1)).Nodup&&r.1.all res1&&(List.range n).all (λi=>(r.2.map (·.1)).contains (64+i))
def capArr(ρ:List Nat)(g:Nat->Option Ob):AV->Bool
 | .box o _=>match ixOf ρ o 64 with
  |some _=>false
  |none=>match g o with
   |some (.cells cs)=>cs.any (isArr0 ρ)
   |_=>false
 |_=>false
def adopt(ρ:List Nat)(d:Nat)(res:List AV×List (Nat×Ob)):QR×List (Nat×Ob):=
 ((match res.1 with
  | [v]=>ren1 ρ d v
  |vs=>.tup (vs.map (ren1 ρ d)),(res.2.filter λp=>decide (p.1<64)).map λp=>(d*64+p.1,p.2)),(res.2.filter λp=>decide (64<=p.1)).map λp=>(rn ρ d p.1,renOb ρ d p.2))
def rs0(g:Nat->Option Ob):AV->Bool
 | .arr o=>(g o).isSome
 | .row o _=>(g o).isSome
 |_=>true
def rs1(g:Nat->Option Ob):AV->Bool
 | .agg cs=>cs.all (rs0 g)
 |v=>rs0 g v
def rsC(g:Nat->Option Ob):AV->Bool
 | .box o _=>match g o with
  |some (.cells cs)=>cs.all (rs0 g)
  |_=>false
 |_=>true
def rsA(g:Nat->Option Ob):AV->Bool
 | .fn _ caps=>caps.all (rsC g)
 |v=>rs1 g v
def lentOK(g:Nat->Option Ob)(o:Nat):Bool:=
 match g o with
 |some (.cells cs)=>cs.all (rsA g)
 |some (.arr _ _ _)=>true
 |some (.perm _ _ _ _ _ _)=>true
 |some .spent=>false
 |some (.rows _ _ _ _ h)=>h.isNone
 |none=>false
def acall(E:Env)(g:Nat->Option Ob)(d:Nat)(h:AV)(args:List AV):Tr (QR×List (Nat×Ob)):=
 match h with
 | .fn f caps=>match lendIds g args (args++caps) (E.lend f) []with
  |some ρ=>if args.all (rsA g)&&caps.all (rsC g)&&decide ρ.Nodup&&ρ.all (lentOK g)then
    match E.call f (args.map (extA ρ g)++caps.map (extC ρ g)) (insOf g ρ 64)with
    |some cr=>.c cr.R cr.x λr=>(cr.sp r).bind λe=>
      .g (okRes ρ.length e&&(!(args.any (isArr ρ)||caps.any (capArr ρ g))|| !(e.1.any deep1||e.2.any λp=>deepOb p.2))) (.l (adopt ρ d e))
    |none=>.f
   else .f
  |none=>.f
 | .clo ts r p=>if args.all (rs1 g)then
   match hlOf ts (args.map (ext1 [] g))with
   |some hl=>.c r.I (p hl) λy=>.l ((inj r y,[]),[])
   |none=>.f
  else .f
 |_=>.f
structure St where
 fr:List (Nat×AV)
 ob:List (Nat×Ob)
def St.g(s:St):Nat->Option Ob:=look s.ob
def St.slot(s:St)(i:Nat):AV:=(look s.fr i).getD .undef
def cval:Value->AV
 | .bool b=>.dat .bool b
 | .int k n=>.dat (.int k) n
 | .string s=>.dat .str s.data.toList
 | .slice none 0 0=>.nilsl
 |_=>.undef
def opd(fr:Nat->AV):Operand->AV
 | .tmp t=>fr t
 | .const v=>cval v
 | .func f=>.fn f []
 | .global _=>.undef
def abounds(len:Nat):Option AV->Option AV->Option (Bool×Nat×Nat)
 |none,none=>some (true,0,len)
 |none,some (.dat (.int _) h)=>some (decide ((0:Int)<=h)&&decide ((h:Int)<=(len:Int)),0,(h:Int).toNat)
 |some (.dat (.int _) l),none=>some (decide ((0:Int)<=l)&&decide ((l:Int)<=(len:Int)),(l:Int).toNat,len)
 |some (.dat (.int _) l),some (.dat (.int _) h)=>some (decide ((0:Int)<=l)&&decide ((l:Int)<=(h:Int))&&decide ((h:Int)<=(len:Int)),(l:Int).toNat,(h:Int).toNat)
 |_,_=>none
def aslice(tt:Nat->TD)(ty:Nat)(x:AV)(lo hi:Option AV):Tr QR:=
 match x,tt ty with
 | .dat (.slice t) l,.sl _ t' _=>if t.size=t'.size then match abounds l.length lo hi with
   |some (b,i,j)=>.g b (vq (.dat (.slice t) ((l.take j).drop i)))
   |none=>.f
  else .f
 | .dat .str s,.sc .str=>match abounds (List.length (α:=UInt8) s) lo hi with
  |some (b,i,j)=>.g b (vq (.dat .str ((List.take (α:=UInt8) j s).drop i)))
  |none=>.f
 |_,_=>.f
def asliceP(tt:Nat->TD)(g:Nat->Option Ob)(ty:Nat)(x:AV)(lo hi:Option AV):Tr QR:=
 match x,lo,hi with
 | .arr o,none,some (.dat (.int _) n)=>match tt ty,g o with
  | .sl _ t0 _,some (.rows _ _ _ l none)=>if t0.size=1 then .g (decide ((0:Int)<=n)&&decide ((n:Int)<=(l.length:Int))) (vq (.pre o (n:Int).toNat))else .f
  |_,_=>.f
 | .arr o,some (.dat (.int _) n),none=>match tt ty,g o with
  | .sl _ t0 _,some (.rows _ _ _ l none)=>if t0.size=1 then .g (decide ((0:Int)<=n)&&decide ((n:Int)<=(l.length:Int))) (vq (.suf o (n:Int).toNat 1))else .f
  |_,_=>.f
 |_,_,_=>aslice tt ty x lo hi
def putAt{α:Type}:List α->Nat->α->List α
 | [],_,_=>[]
 |_::r,0,y=>y::r
 |x::r,i+1,y=>x::putAt r i y
def putCells(cs:List AV)(k:Nat):List AV->List AV
 | []=>cs
 |v::r=>putCells (putAt cs k v) (k+1) r
def afill(place:Nat->Option (Nat×Nat)):List (Nat×AV)->List AV->Option (List AV)
 | [],cs=>some cs
 |(i,v)::r,cs=>match place i,cellsOf v with
  |some (off,n),some vs=>if vs.length=n/\off+n<=cs.length then afill place r (putCells cs off vs)else none
  |_,_=>none
def placeF:List (Nat×Ty)->Nat->Nat->Option (Nat×Nat)
 | [],_,_=>none
 |(_,t)::_,o,0=>some (o,t.size)
 |(_,t)::r,o,i+1=>placeF r (o+t.size) i
def abuild(tt:Nat->TD)(ty:Nat)(ps:List (Nat×AV)):Tr QR:=
 match tt ty with
 | .st t fs=>(Tr.opt (afill (placeF fs 0) ps (zeroAV t))).bind λcs=>vq (.agg cs)
 |_=>.f
def chunks(t:Ty):Nat->List AV->Option (List t.I)
 |0,[]=>some []
 |0,_=>none
 |n+1,cs=>match unflat t (cs.take t.size),chunks t n (cs.drop t.size)with
  |some x,some l=>some (x::l)
  |_,_=>none
def abuildSlice(tt:Nat->TD)(d:Nat)(ty n:Nat)(ps:List (Nat×AV)):Tr QR:=
 match tt ty with
 | .sl e t _=>if n<=4096/\t.size<=4096 then
   (Tr.opt (afill (λi=>some (i*t.size,t.size)) ps (List.flatMap (flat t) (List.replicate n t.dflt)))).bind λcs=>(Tr.opt (chunks t n cs)).bind λl=>.l (.arr d,[(d,.arr e t l)])else .f
 |_=>.f
def abuildD(tt:Nat->TD)(ty n:Nat)(ps:List (Nat×AV)):Tr AV:=
 match tt ty with
 | .sl _ t _=>if n<=4096/\t.size<=4096 then
   (Tr.opt (afill (λi=>some (i*t.size,t.size)) ps (List.flatMap (flat t) (List.replicate n t.dflt)))).bind λcs=>(Tr.opt (chunks t n cs)).bind λl=>.l (.dat (.slice t) l)else .f
 |_=>.f
def abuildS(tt:Nat->TD)(g:Nat->Option Ob)(d:Nat)(ty n:Nat)(ps:List (Nat×AV)):Tr QR:=
 match tt ty,n,ps with
 | .sl e te _,1,[(0,.arr p)]=>match tt e,g p with
  | .sl e2 t _,some (.arr e3 t3 _)=>if te.size=1/\e3=e2/\(Ty.eq? t3 t).isSome=true then .l (.arr d,[(d,.rows e e2 t [[]] (some (0,some p)))])else .f
  |_,_=>.f
 |_,_,_=>abuildSlice tt d ty n ps
def amake(tt:Nat->TD)(d:Nat)(ty:Nat):AV->AV->Tr QR
 | .dat (.int _) l,.dat (.int _) c=>match tt ty with
  | .sl e t b=>.g (decide ((0:Int)<=l)&&decide ((l:Int)<=c)&&decide ((b:Int)*c<=281474976710656)) (if 0<b then .l (.arr d,[(d,.arr e t (List.replicate (l:Int).toNat t.dflt))])else .f)
  |_=>.f
 |_,_=>.f
def afieldA(tt:Nat->TD)(ty i:Nat):AV->Tr QR
 | .box o k=>match fieldOf tt ty i with
  |some (_,off)=>vq (.box o (k+off))
  |none=>.f
 | .ptr cs=>match fieldOf tt ty i with
  |some (_,off)=>if off<cs.length then vq (.ptr (cs.drop off))else .f
  |none=>.f
 | .elt o j z=>match fieldOf tt ty i with
  |some (_,off)=>vq (.fld o j z off)
  |none=>.f
 |_=>.f
def srcOf(g:Nat->Option Ob)(t:Ty):AV->Option (List t.I)
 | .dat (.slice t') l=>Ty.cast (.slice t') (.slice t) l
 | .nilsl=>some []
 | .arr o=>match g o with
  |some (.arr _ t' l)=>Ty.cast (.slice t') (.slice t) l
  |_=>none
 |_=>none
def aconv(tt:Nat->TD)(s d:Nat):AV->Tr QR
 | .dat (.int _) n=>match tt s,tt d with
  | .sc (.int _),.sc (.int k)=>iq k (k.wrap n)
  |_,_=>.f
 |_=>.f
def apick:AV->AV->AV->Tr QR
 | .dat .bool b,x,y=>.t b (vq x) (vq y)
 |_,_,_=>.f
def zeroOf(tt:Nat->TD)(ty:Nat):Option (List AV):=
 match tt ty with
 | .sc t=>some (zeroAV t)
 | .sl _ _ _=>some [.nilsl]
 | .st t _=>some (zeroAV t)
 | .no=>none
def aminmax(mx:Bool):List AV->Tr QR
 | [.dat (.int k) a,.dat (.int k') b]=>if k=k' then iq k (if mx then(if(a:Int)<b then b else a)else(if(b:Int)<a then b else a))else .f
 |_=>.f
def anilV(neq:Bool)(g:Nat->Option Ob):AV->Tr QR
 | .nilsl=>bq (!neq)
 | .dat (.slice _) l=>.g (decide (0<l.length)) (bq neq)
 | .arr o=>match g o with
  |some (.arr _ _ l)=>.g (decide (0<l.length)) (bq neq)
  |_=>.f
 |_=>.f
def abinN(tt:Nat->TD)(g:Nat->Option Ob)(op:BinOp)(ty:Nat)(x y:AV):Tr QR:=
 match y,op,tt ty with
 | .nilsl,.eql,.sl _ _ _=>anilV false g x
 | .nilsl,.neq,.sl _ _ _=>anilV true g x
 |y,op,_=>abin tt op ty x y
def aq(tt:Nat->TD)(g:Nat->Option Ob)(f:Operand->AV)(o:Oper):Tr QR:=
 match o.op,o.dst with
 | .move x,some _=>vq (f x)
 | .assign x,some _=>vq (f x)
 | .pick c a b,some _=>apick (f c) (f a) (f b)
 | .binOp op ty x y _,some _=>abinN tt g op ty (f x) (f y)
 | .unOp op _ x,some _=>aun op (f x)
 | .convert s d x,some _=>aconv tt s d (f x)
 | .box _ x,some d=>(Tr.opt (cellsOf (f x))).bind λcs=>.l (.box d 0,[(d,.cells cs)])
 | .alloc e,some d=>(Tr.opt (zeroOf tt e)).bind λcs=>.l (.box d 0,[(d,.cells cs)])
 | .load ty x,some _=>aload tt g ty (f x)
 | .nilCheck x,some _=>match f x with
  | .box o k=>vq (.box o k)
  | .ptr cs=>vq (.ptr cs)
  |_=>.f
 | .fieldAddr ty x i,some _=>afieldA tt ty i (f x)
 | .indexAddr ty x i,some _=>aindex tt g ty (f x) (f i)
 | .index ty x i,some _=>aindexV tt ty (f x) (f i)
 | .extract x i,some _=>match f x with
  | .tup vs=>(Tr.opt (nth vs i)).bind vq
  |_=>.f
 | .slice ty x lo hi none,some _=>asliceP tt g ty (f x) (lo.map f) (hi.map f)
 | .build ty ps,some _=>abuild tt ty (ps.toList.map λp=>(p.1,f p.2))
 | .buildSlice ty n ps,some d=>abuildS tt g d ty n (ps.toList.map λp=>(p.1,f p.2))
 | .makeSlice ty l c,some d=>amake tt d ty (f l) (f c)
 | .makeFunc (.func k) first caps,some _=>if first.size=0 then vq (.fn k (caps.toList.map f))else if caps.size=0 then vq (.bnd k (first.toList.map λx=>pur1 (f x)))else .f
 | .call {callee:=.builtin .len,args:=as,argTypes:=ts},some _=>match as.toList,ts.toList with
  | [x],[ty]=>alen tt g ty (f x)
  |_,_=>.f
 | .call {callee:=.builtin .min,args:=as,..},some _=>aminmax false (as.toList.map f)
 | .call {callee:=.builtin .max,args:=as,..},some _=>aminmax true (as.toList.map f)
 |_,_=>.f
def frzL(o:Nat)(d:AV):AV->AV
 | .arr p=>match Nat.beq p o with
  |true=>d
  |false=>.arr p
 | .row p i=>match Nat.beq p o with
  |true=>.undef
  |false=>.row p i
 | .relt p i n s=>match Nat.beq p o with
  |true=>.undef
  |false=>.relt p i n s
 | .elt p i s=>match Nat.beq p o with
  |true=>.undef
  |false=>.elt p i s
 | .fld p i s k=>match Nat.beq p o with
  |true=>.undef
  |false=>.fld p i s k
 | .suf p i s=>match Nat.beq p o with
  |true=>.undef
  |false=>.suf p i s
 | .pre p i=>match Nat.beq p o with
  |true=>.undef
  |false=>.pre p i
 | .box p k=>match Nat.beq p o with
  |true=>.undef
  |false=>.box p k
 | .dat t v=>.dat t v
 | .nilsl=>.nilsl
 | .clo ts r p=>.clo ts r p
 | .fn f []=>.fn f []
 |_=>.undef
def frzC(o:Nat)(d:AV):AV->AV
 | .ptr cs=>.ptr (cs.map (frzL o d))
 |v=>frzL o d v
def frz1(o:Nat)(d:AV):AV->AV
 | .agg cs=>.agg (cs.map (frzL o d))
 | .fn f caps=>.fn f (caps.map (frzC o d))
 | .bnd f fs=>.bnd f (fs.map pur1)
 |v=>frzC o d v
def frz2(o:Nat)(d:AV):AV->AV
 | .tup vs=>.tup (vs.map (frz1 o d))
 |v=>frz1 o d v
def unl(o:Nat):Option (Nat×Option Nat)->Option (Nat×Option Nat)
 |some (i,some d)=>match Nat.beq d o with
  |true=>some (i,none)
  |false=>some (i,some d)
 |h=>h
def frzOb(o:Nat)(d:AV):Ob->Ob
 | .rows e e2 t l h=>.rows e e2 t l (unl o h)
 | .cells cs=>.cells (cs.map (frz1 o d))
 |x=>x
def St.swap(s:St)(o:Nat)(d:AV)(w:List (Nat×Ob)):St:=
 {fr:=s.fr.map λp=>(p.1,frz2 o d p.2),ob:=w++(s.ob.filter λp=> !(Nat.beq p.1 o)).map λp=>(p.1,frzOb o d p.2)}
def holds(d:Nat):Ob->Bool
 | .rows _ _ _ _ (some (_,some d'))=>Nat.beq d' d
 |_=>false
def St.freeze(s:St)(d:Nat):St:=
 match s.g d with
 |some (.arr e t l)=>match s.ob.find? (λp=>holds d p.2)with
  |some p=>match s.g p.1 with
   |some (.rows e1 e2 t2 l2 (some (i,some d')))=>match Nat.beq d' d,Nat.beq e2 e,Ty.cast (.slice t) (.slice t2) l with
    |true,true,some l'=>s.swap d .undef [(p.1,.rows e1 e2 t2 (l2.set i l') none)]
    |_,_,_=>s
   |_=>s
  |none=>s.swap d (.dat (.slice t) l) []
 |some (.rows _ _ t l none)=>s.swap d (.dat (.slice (.slice t)) l) []
 |some (.perm _ _ _ t ix l)=>s.swap d (.dat (.slice (.slice t)) (permL ix l)) []
 |_=>s
def St.kill(s:St)(p:Nat):St:= {fr:=s.fr.map λq=>(q.1,frz2 p (.arr p) q.2),ob:=s.ob.map λq=>(q.1,frzOb p (.arr p) q.2)}
def St.kills(s:St)(l:List Nat):St:=l.foldl St.kill s
def St.take(s:St)(k d:Nat):St:=
 match s.slot k with
 | .row p i=>match s.g p,s.g d with
  |some (.rows e e2 t l none),none=>if d≠p then{fr:=(k,.arr d)::s.fr,ob:=(d,.arr e2 t (l.getD i []))::(p,.rows e e2 t l (some (i,some d)))::s.ob}else s
  |_,_=>s
 |_=>s
def rowId(g:Nat->Option Ob)(p:Nat×Ob):Bool:=match p.2 with
 | .rows _ _ _ _ (some _)=>false
 | .perm false _ _ _ _ _=>false
 |_=>match g p.1 with
  |some (.rows _ _ _ _ _)=>true
  |some (.perm _ _ _ _ _ _)=>true
  |_=>false
def rowIds(g:Nat->Option Ob)(objs:List (Nat×Ob)):List Nat:=(objs.filter (rowId g)).map (·.1)
def arrsOf:AV->List Nat
 | .arr o=>[o]
 | .agg cs=>cs.flatMap fun| .arr o=>[o]|_=>[]
 |_=>[]
def St.backR(s:St)(o p:Nat):St:=
 match s.g o,s.g p with
 |some (.rows e1 e2 t2 l2 (some (i,some d'))),some (.arr e t l)=>match Nat.beq d' p,Nat.beq e2 e,Ty.cast (.slice t) (.slice t2) l with
  |true,true,some l'=>s.swap p (.row o i) [(o,.rows e1 e2 t2 (l2.set i l') none)]
  |_,_,_=>s.freeze p
 |_,_=>s.freeze p
def St.freezes(s:St)(l:List Nat):St:=l.foldl St.freeze s
def St.drop(s:St)(p:Nat):St:=s.swap p .undef []
def St.perm(s:St)(o:Nat):St:=
 match s.g o with
 |some (.rows e e2 t l none)=>s.swap o (.arr o) [(o,.perm false e e2 t (List.range l.length) l)]
 |_=>s
def St.perms(s:St)(l:List Nat):St:=l.foldl St.perm s
def St.pull(s:St)(k d:Nat):St:=
 match s.slot k with
 | .row p i=>match s.g p,s.g d with
  |some (.perm _ _ e2 t _ l),none=> {fr:=(k,.arr d)::(s.swap p .undef []).fr,ob:=(d,.arr e2 t (l.getD i []))::(s.swap p .undef []).ob}
  |some (.rows _ e2 t l none),none=> {fr:=(k,.arr d)::(s.swap p .undef []).fr,ob:=(d,.arr e2 t (l.getD i []))::(s.swap p .undef []).ob}
  |_,_=>s
 |_=>s
def St.ahead(s0 s:St):List Nat->St
 | []=>s
 |k::r=>St.ahead s0 (match Nat.ble 2000000 k with
  |true=>match Nat.ble 4000000 k with
   |true=>match Nat.ble 80000000 k with
    |true=>s.perms (arrsOf (s0.slot (k-80000000)))
    |false=>s.drop (k-5000000)
   |false=>s.take (k-2000000) (k-1500000)
  |false=>s.freezes (arrsOf (s0.slot k))) r
def one:AV->Bool
 | .undef=>false
 | .skip=>false
 | .agg _=>false
 | .tup _=>false
 |_=>true
structure LU where
 d:Option (Nat×AV)
 und:Option Nat
 objs:List (Nat×Ob)
def St.app(s:St)(u:LU):St:=
 {fr:=match u.d with
   |some p=>p::(match u.und with|some b=>(b,.undef)::s.fr|none=>s.fr)
   |none=>s.fr
  ob:=u.objs++s.ob}
def astore(tt:Nat->TD)(g:Nat->Option Ob)(ty:Nat)(a v:AV):Tr LU:=
 match a with
 | .box o k=>match g o,cellsOf v,tySize tt ty with
  |some (.cells cs),some vs,some sz=>if vs.length=sz.1/\k+vs.length<=cs.length/\vs.all one=true then .l ⟨none,none,[(o,.cells (putCells cs k vs))]⟩else .f
  |_,_,_=>.f
 | .elt o i z=>match g o,tySize tt ty with
  |some (.arr e t l),some sz=>if sz.1=t.size/\z=t.size then match getT t v with
    |some x=>.g (decide (i<l.length)) (.l ⟨none,none,[(o,.arr e t (l.set i x))]⟩)
    |none=>.f
   else .f
  |some (.perm _ e e2 t ix l),some sz=>if sz.1=1/\z=1 then match v with
    | .row p j=>if p=o then .g (decide (i<ix.length)) (.l ⟨none,none,[(o,.perm false e e2 t (ix.set i j) l)]⟩)else .f
    |_=>.f
   else .f
  |_,_=>.f
 |_=>.f
def aappendR(tt:Nat->TD)(g:Nat->Option Ob)(d ty p i:Nat)(x:AV):Tr LU:=
 match tt ty,g p,g d with
 | .sl e t b,some (.rows e1 e2 t2 l none),none=>match srcOf g t x,Ty.cast (.slice t2) (.slice t) (l.getD i [])with
  |some src,some r=>if e2=e/\0<b/\d≠p then .g (decide ((r.length+src.length)*b<=140737488355328)) (.l ⟨some (d,.arr d),none,[(d,.arr e t (r++src)),(p,.rows e1 e2 t2 l (some (i,none)))]⟩)else .f
  |_,_=>.f
 |_,_,_=>.f
def aappend(tt:Nat->TD)(d:Nat)(ty:Nat)(a x:AV)(s:St):Tr St:=
 match a with
 | .row p i=>(aappendR tt s.g d ty p i x).bind λu=>.l (s.app u)
 |a=>match tt ty with
 | .sl e t b=>match srcOf s.g t x with
  |some src=>match a with
   | .arr o=>match s.g o with
    |some (.arr e' t' l)=>match Ty.cast (.slice t') (.slice t) l with
     |some l'=>if e'=e/\0<b then .g (decide ((l'.length+src.length)*b<=140737488355328))
       (.l {fr:=(d,.arr o)::s.fr.map (λp=>(p.1,frz2 o .undef p.2)),ob:=(o,.arr e t (l'++src))::(s.ob.filter λp=> !(Nat.beq p.1 o)).map λp=>(p.1,frzOb o .undef p.2)})else .f
     |none=>.f
    |_=>.f
   |_=>.f
  |none=>.f
 |_=>.f
def aappendL(tt:Nat->TD)(g:Nat->Option Ob)(d ty:Nat)(b:Nat)(a x:AV):Tr LU:=
 match tt ty with
 | .sl e t by'=>match srcOf g t x with
  |some src=>match a with
   | .arr o=>match g o with
    |some (.arr e' t' l)=>match Ty.cast (.slice t') (.slice t) l with
     |some l'=>if e'=e/\0<by' then .g (decide ((l'.length+src.length)*by'<=140737488355328)) (.l ⟨some (d,.arr o),some b,[(o,.arr e t (l'++src))]⟩)else .f
     |none=>.f
    |_=>.f
   |_=>.f
  |none=>.f
 |_=>.f
def fresh(g:Nat->Option Ob)(l:List (Nat×Ob)):Bool:=l.all (λp=>match g p.1 with|none=>true|some _=>false)&&decide (l.map (·.1)).Nodup
def alu(E:Env)(tt:Nat->TD)(g:Nat->Option Ob)(f:Operand->AV)(o:Oper):Tr LU:=
 match o.op,o.dst with
 | .store ty a v,none=>astore tt g ty (f a) (f v)
 | .call {callee:=.builtin .append,args:=as,argTypes:=ts},some d=>match as.toList,ts.toList with
  | [.tmp b,y],[ty,ty']=>if ty=ty' then match f (.tmp b)with
    | .row p i=>aappendR tt g d ty p i (f y)
    |a=>aappendL tt g d ty b a (f y)
   else .f
  |_,_=>.f
 | .call {callee:=.value h,args:=as,..},some d=>(acall E g d (f h) (as.toList.map f)).bind λr=>if fresh g r.1.2 then .l ⟨some (d,r.1.1),none,r.1.2++r.2⟩else .f
 |_,some d=>(aq tt g f o).bind λq=>if fresh g q.2 then .l ⟨some (d,q.1),none,q.2⟩else .f
 |_,none=>.f
def aluD(E:Env)(tt:Nat->TD)(g:Nat->Option Ob)(f:Operand->AV)(o:Oper):Bool->Tr LU
 |false=>alu E tt g f o
 |true=>match o.op,o.dst with
  | .buildSlice ty n ps,some d=>(abuildD tt ty n (ps.toList.map λp=>(p.1,f p.2))).bind λv=>.l ⟨some (d,v),none,[]⟩
  |_,_=>.f
def isAppend(o:Oper):Bool:=
 match o.op with
 | .call {callee:=.builtin .append,..}=>true
 |_=>false
def rowsSet(tt:Nat->TD)(ty:Nat)(av vv:AV)(s:St):Option (Tr St):=
 match av with
 | .relt o i n z=>some (match s.g o,tySize tt ty with
  |some (.rows e e2 t l none),some sz=>if sz.1=t.size/\z=t.size then match getT t vv with
    |some x=>.g (decide (n<(l.getD i []).length)) (.l (s.app ⟨none,none,[(o,.rows e e2 t (l.set i ((l.getD i []).set n x)) none)]⟩))
    |none=>.f
   else .f
  |_,_=>.f)
 |_=>none
def rowsStore(tt:Nat->TD)(ty:Nat)(av vv:AV)(s:St):Option (Tr St):=
 match av,vv with
 | .elt p i z,.arr q=>match s.g p,s.g q with
  |some (.rows e e2 t l h),some (.arr e3 t3 _)=>some (match tySize tt ty with
   |some sz=>if sz.1=1/\z=1/\p≠q/\e3=e2/\(Ty.eq? t3 t).isSome=true then match h with
     |none=>.g (decide (i<l.length)) (.l (((s.kill p).app ⟨none,none,[(p,.rows e e2 t l (some (i,some q)))]⟩).freeze q))
     |some (i',none)=>.g (decide (i<l.length)&&decide (i=i')) (.l (((s.kill p).app ⟨none,none,[(p,.rows e e2 t l (some (i,some q)))]⟩).freeze q))
     |some (_,some _)=>.f
    else .f
   |none=>.f)
  |_,_=>none
 |_,_=>none
def rowsMake(tt:Nat->TD)(ty:Nat)(nv cv:AV)(d:Nat)(s:St):Tr St:=
 match nv,cv,tt ty,s.g d with
 | .dat (.int _) n,.dat (.int _) c,.sl e te b,none=>match tt e with
  | .sl e2 t _=>if te.size=1/\0<b then .g (decide ((0:Int)<=n)&&decide ((n:Int)<=c)&&decide ((b:Int)*c<=281474976710656)) (.l {fr:=(d,.arr d)::s.fr,ob:=(d,.rows e e2 t (List.replicate (n:Int).toNat []) none)::s.ob})else .f
  |_=>.f
 |_,_,_,_=>.f
def rowsBuild(tt:Nat->TD)(ty n:Nat)(ps:List (Nat×AV))(d:Nat)(s:St):Tr St:=
 match tt ty,s.g d,n,ps with
 | .sl e te _,none,0,[]=>match tt e with
  | .sl e2 t _=>if te.size=1 then .l {fr:=(d,.arr d)::s.fr,ob:=(d,.rows e e2 t [] none)::s.ob}else .f
  |_=>.f
 | .sl e te _,none,1,[(0,.arr p)]=>match tt e,s.g p with
  | .sl e2 t _,some (.arr e3 t3 _)=>if te.size=1/\e3=e2/\(Ty.eq? t3 t).isSome=true/\d≠p then .l {fr:=(d,.arr d)::s.fr,ob:=(d,.rows e e2 t [[]] (some (0,some p)))::s.ob}else .f
  |_,_=>.f
 |_,_,_,_=>.f
def appRow(s:St)(d o q p e e2:Nat)(t:Ty)(l:List (List t.I)):St:=
 ({fr:=(d,.arr o)::((s.swap q .undef []).swap o .undef []).fr,ob:=(o,.rows e e2 t (l++ [[]]) (some (l.length,some p)))::((s.swap q .undef []).swap o .undef []).ob}:St).backR o p
def appRows(s:St)(d o q e e2:Nat)(t:Ty)(l:List (List t.I)):St:=
 {fr:=(d,.arr q)::((s.swap o .undef []).swap q .undef []).fr,ob:=(q,.rows e e2 t l none)::((s.swap o .undef []).swap q .undef []).ob}
def rowsApp(tt:Nat->TD)(ty ty' d:Nat)(xv yv:AV)(s:St):Option (Tr St):=
 match yv with
 | .arr q=>match s.g q with
  |some (.rows eq e4 t' lq h)=>match h with
   |some (0,some p)=>match lq with
    | [_]=>some (match tt ty,xv with
     | .sl e te b,.arr o=>match s.g o with
      |some (.rows e1 e2 t l none)=>if ty=ty'/\e1=e/\eq=e/\te.size=1/\0<b/\o≠q/\o≠p/\p≠q then .g (decide ((l.length+1)*b<=140737488355328)) (.l (appRow s d o q p e1 e2 t l))else .f
      |_=>.f
     |_,_=>.f)
    |_=>none
   |none=>match tt ty,xv with
    | .sl e te b,.arr o=>match s.g o with
     |some (.rows e1 e2 t l none)=>some (match Ty.cast (.slice (.slice t')) (.slice (.slice t)) lq with
      |some l2=>if ty=ty'/\e1=e/\eq=e/\e4=e2/\te.size=1/\0<b/\o≠q then .g (decide ((l.length+List.length (α:=List t.I) l2)*b<=140737488355328)) (.l (appRows s d o q e1 e2 t (l++l2)))else .f
      |none=>.f)
     |_=>none
    |_,_=>none
   |_=>none
  |_=>none
 |_=>none
def atrunc(tt:Nat->TD)(ty:Nat)(xv hv:AV)(d:Nat)(s:St):Option (Tr St):=
 match xv,hv with
 | .arr o,.dat (.int _) n=>match tt ty,s.g o with
  | .sl e0 t0 _,some (.perm _ e e2 t ix l)=>some (if e0=e/\t0.size=1 then .g (decide ((0:Int)<=n)&&decide ((n:Int)<=(ix.length:Int))) (.l {fr:=(d,.arr o)::s.fr.map (λp=>(p.1,frz2 o .undef p.2)),ob:=(o,.perm false e e2 t (ix.take (n:Int).toNat) l)::(s.ob.filter λp=> !(Nat.beq p.1 o)).map λp=>(p.1,frzOb o .undef p.2)})else .f)
  |_,_=>none
 |_,_=>none
def asuf(tt:Nat->TD)(ty:Nat)(xv lv:AV)(d:Nat)(s:St):Option (Tr St):=
 match xv,lv with
 | .arr o,.dat (.int _) n=>match tt ty,s.g o with
  | .sl _ t0 _,some (.perm _ _ _ _ ix _)=>some (if t0.size=1 then .g (decide ((0:Int)<=n)&&decide ((n:Int)<=(ix.length:Int))) (.l {fr:=(d,.suf o (n:Int).toNat 1)::s.fr,ob:=s.ob})else .f)
  |_,_=>none
 |_,_=>none
def aclear(tt:Nat->TD)(ty:Nat)(xv:AV)(s:St):Option (Tr St):=
 match xv with
 | .suf o i z=>match tt ty,s.g o with
  | .sl e0 t0 _,some (.perm _ e e2 t ix l)=>some (match t0 with
   | .slice _=>if e0=e/\z=1 then .l {fr:=s.fr,ob:=(o,.perm false e e2 t (ix.take i++List.replicate (ix.length-i) l.length) l)::s.ob}else .f
   |_=>.f)
  |_,_=>none
 |_=>none
def acut(tt:Nat->TD)(ty d:Nat)(xv yv:AV)(s:St):Option (Tr St):=
 match xv,yv with
 | .pre o i,.suf p j z=>match Nat.beq p o,tt ty,s.g o with
  |true,.sl e0 t0 b,some (.rows e e2 t l none)=>some (if e0=e/\t0.size=1/\z=1/\0<b then .g (decide (i<=j)&&decide ((i+(l.length-j))*b<=140737488355328)) (.l {fr:=(d,.arr o)::s.fr.map (λp=>(p.1,frz2 o .undef p.2)),ob:=(o,.rows e e2 t (l.take i++l.drop j) none)::(s.ob.filter λp=> !(Nat.beq p.1 o)).map λp=>(p.1,frzOb o .undef p.2)})else .f)
  |_,_,_=>none
 |_,_=>none
def rowsOp(tt:Nat->TD)(m:Bool)(o:Oper)(s:St):Option (Tr St):=
 match o.op,o.dst with
 | .store ty a v,none=>match rowsSet tt ty (opd s.slot a) (opd s.slot v) s with
  |some r=>some r
  |none=>rowsStore tt ty (opd s.slot a) (opd s.slot v) s
 | .makeSlice ty n c,some d=>match m with
  |true=>some (rowsMake tt ty (opd s.slot n) (opd s.slot c) d s)
  |false=>none
 | .buildSlice ty n ps,some d=>match m with
  |true=>some (rowsBuild tt ty n (ps.toList.map λp=>(p.1,opd s.slot p.2)) d s)
  |false=>none
 | .call {callee:=.builtin .append,args:=as,argTypes:=ts},some d=>match as.toList,ts.toList with
  | [x,y],[ty,ty']=>match Nat.beq ty ty' with
   |true=>match acut tt ty d (opd s.slot x) (opd s.slot y) s with
    |some r=>some r
    |none=>rowsApp tt ty ty' d (opd s.slot x) (opd s.slot y) s
   |false=>rowsApp tt ty ty' d (opd s.slot x) (opd s.slot y) s
  |_,_=>none
 | .slice ty x none (some h) none,some d=>atrunc tt ty (opd s.slot x) (opd s.slot h) d s
 | .slice ty x (some l) none none,some d=>asuf tt ty (opd s.slot x) (opd s.slot l) d s
 | .call {callee:=.builtin .clear,args:=as,argTypes:=ts},none=>match as.toList,ts.toList with
  | [x],[ty]=>aclear tt ty (opd s.slot x) s
  |_,_=>none
 |_,_=>none
def aop(E:Env)(tt:Nat->TD)(fz:Nat->List Nat)(o:Oper)(i:Nat)(s0:St):Tr St:=
 let s:=St.ahead s0 s0 (fz i)
 match(fz i).any (Nat.beq 140000000)with
 |true=>.f
 |false=>
 match rowsOp tt ((fz i).any (Nat.beq 1000000)) o s with
 |some r=>r
 |none=>match isAppend o with
 |true=>match o.op,o.dst with
  | .call {callee:=.builtin .append,args:=as,argTypes:=ts},some d=>match as.toList,ts.toList with
   | [x,y],[ty,ty']=>if ty=ty' then aappend tt d ty (opd s.slot x) (opd s.slot y) s else .f
   |_,_=>.f
  |_,_=>.f
 |false=>(alu E tt s.g (opd s.slot) o).bind λu=>.l ((s.kills (rowIds s.g u.objs)).app u)
def aops(E:Env)(tt:Nat->TD)(fz:Nat->List Nat)(ops:Nat->Option Oper):List Oper->Nat->St->Tr St
 | [],_,s=>.l s
 |o::r,i,s=>
  match o.guard with
  |none=>(aop E tt fz o i s).bind (aops E tt fz ops r (i+1))
  |some (j,want)=>match(ops j).bind (·.dst)with
   |some dj=>match s.slot dj with
    | .dat .bool b=>
     let sk (b':Bool):Tr St:=match o.dst with
      |some d=>aops E tt fz ops r (i+1) {s with fr:=(d,.skip)::(dj,.dat .bool b')::s.fr}
      |none=>aops E tt fz ops r (i+1) {s with fr:=(dj,.dat .bool b')::s.fr}
     let go (b':Bool):Tr St:=(aop E tt fz o i {s with fr:=(dj,.dat .bool b')::s.fr}).bind (aops E tt fz ops r (i+1))
     match want with
     |true=>.t b (go true) (sk false)
     |false=>.t b (sk true) (go false)
    | .skip=>match o.dst with
     |some d=>aops E tt fz ops r (i+1) {s with fr:=(d,.skip)::s.fr}
     |none=>aops E tt fz ops r (i+1) s
    |_=>.f
   |none=>.f
def edgesOf(o:Oper):List Nat:=(o.after.toList.filter (Region.binds .any)).map (·.on)
def chainAt(ops:List Oper)(p:Nat):Bool:=
 (List.range ops.length).all (λi=>match nth ops i with
  |some o=> !Nat.blt p i||(edgesOf o).any (Nat.beq (i-1))
  |none=>true)&&
 (Nat.beq p ops.length||(List.range p).all λi=>(List.range (p+1)).any λj=>Nat.blt i j&&match nth ops j with
  |some o=>(edgesOf o).any (Nat.beq i)
  |none=>false)
def backOK(ops:List Oper):Bool:=
 (List.range ops.length).all (λi=>match nth ops i with
  |some o=>(edgesOf o).all λe=>Nat.blt e i
  |none=>true)
def findP(f:Nat->Bool):Nat->Nat->Nat
 |0,i=>i
 |n+1,i=>match f i with
  |true=>i
  |false=>findP f n (i+1)
def drawP(ops:List Oper):Nat:=findP (chainAt ops) ops.length 0
def dd:List Nat->Nat->List Nat
 | [],_=>[]
 |x::l,m=>match Nat.beq (Nat.land (Nat.shiftRight m x) 1) 1 with
  |true=>dd l m
  |false=>x::dd l (Nat.lor m (Nat.shiftLeft 1 x))
def ancs:List Oper->List (List Nat)->List (List Nat)
 | [],acc=>acc
 |o::r,acc=>ancs r (acc++ [dd (edgesOf o++(edgesOf o).flatMap λj=>(nth acc j).getD []) 0])
def LU.touch(u:LU):List Nat:=match u.d with
 |some p=>p.1::(match u.und with|some b=>[b]|none=>[])
 |none=>[]
def LU.ids(u:LU):List Nat:=u.objs.map (·.1)
def nmL:AV->List Nat
 | .arr o=>[o]
 | .box o _=>[o]
 | .elt o _ _=>[o]
 | .fld o _ _ _=>[o]
 | .row o _=>[o]
 | .relt o _ _ _=>[o]
 | .suf o _ _=>[o]
 | .pre o _=>[o]
 |_=>[]
def nmC:AV->List Nat
 | .ptr cs=>cs.flatMap nmL
 | .agg cs=>cs.flatMap nmL
 |v=>nmL v
def nm1:AV->List Nat
 | .agg cs=>cs.flatMap nmL
 | .fn _ caps=>caps.flatMap nmC
 |v=>nmC v
def nmOb:Ob->List Nat
 | .cells cs=>cs.flatMap nm1
 | .perm _ _ _ _ _ _=>[]
 | .spent=>[]
 | .rows _ _ _ _ h=>match h with
  |some (_,some d)=>[d]
  |_=>[]
 | .arr _ _ _=>[]
def reach(g:Nat->Option Ob):Nat->List Nat->List Nat
 |0,l=>l
 |n+1,l=>l++reach g n (l.flatMap λo=>match g o with|some x=>nmOb x|none=>[])
def has(l:List Nat)(n:Nat):Bool:=l.any (Nat.beq n)
def disj(l m:List Nat):Bool:=l.all λx=> !has m x
def clL(o:Nat):AV->Bool
 | .arr p=> !Nat.beq p o
 | .elt p _ _=> !Nat.beq p o
 | .fld p _ _ _=> !Nat.beq p o
 | .row p _=> !Nat.beq p o
 | .relt p _ _ _=> !Nat.beq p o
 | .suf p _ _=> !Nat.beq p o
 | .pre p _=> !Nat.beq p o
 | .box p _=> !Nat.beq p o
 | .dat _ _=>true
 | .nilsl=>true
 | .undef=>true
 | .clo _ _ _=>true
 | .fn _ []=>true
 |_=>false
def clC(o:Nat):AV->Bool
 | .ptr cs=>cs.all (clL o)
 |v=>clL o v
def cl1(o:Nat):AV->Bool
 | .agg cs=>cs.all (clL o)
 | .fn _ caps=>caps.all (clC o)
 |v=>clC o v
def cl2(o:Nat):AV->Bool
 | .tup vs=>vs.all (cl1 o)
 | .skip=>true
 |v=>cl1 o v
def clOb(o:Nat):Ob->Bool
 | .cells cs=>cs.all (cl1 o)
 | .perm _ _ _ _ _ _=>true
 | .spent=>true
 | .rows _ _ _ _ h=>match h with
  |some (_,some d)=> !Nat.beq d o
  |_=>true
 | .arr _ _ _=>true
def closedOK(g:Nat->Option Ob)(l:List Nat):Bool:=l.all λo=>match g o with|some x=>(nmOb x).all (has l)|none=>true
def isLoad(o:Oper):Bool:=
 match o.op with
 | .load .. =>true
 | .fieldAddr .. =>true
 |_=>false
def namesOf(g:Nat->Option Ob)(sl:Nat->AV)(o:Oper):List Nat:=reach g (match isLoad o with|true=>0|false=>3) (o.op.operands.toList.flatMap λx=>nm1 (opd sl x))
def atrace(E:Env)(tt:Nat->TD)(ops:Nat->Option Oper)(ds:Nat->Bool):List Oper->St->List (LU×List Nat)->Tr (St×List (LU×List Nat))
 | [],s,acc=>.l (s,acc)
 |o::r,s,acc=>
  let run (s:St):Tr (St×List (LU×List Nat)):=(aluD E tt s.g (opd s.slot) o (ds acc.length)).bind λu=>match(isLoad o||closedOK s.g (namesOf s.g s.slot o))&&(rowIds s.g u.objs).isEmpty with
   |true=>atrace E tt ops ds r (s.app u) (acc++ [(u,namesOf s.g s.slot o)])
   |false=>.f
  let skip (s:St):Tr (St×List (LU×List Nat)):=let u:LU:=⟨o.dst.map λd=>(d,.skip),none,[]⟩;atrace E tt ops ds r (s.app u) (acc++ [(u,[])])
  match o.guard with
  |none=>run s
  |some (j,want)=>match(ops j).bind (·.dst)with
   |some dj=>match s.slot dj with
    | .dat .bool b=>match want with
     |true=>.t b (run {s with fr:=(dj,.dat .bool true)::s.fr}) (skip {s with fr:=(dj,.dat .bool false)::s.fr})
     |false=>.t b (skip {s with fr:=(dj,.dat .bool true)::s.fr}) (run {s with fr:=(dj,.dat .bool false)::s.fr})
    | .skip=>skip s
    |_=>.f
   |none=>.f
def looksOf(ops:List Oper)(o:Oper):List Nat:=
 (o.op.operands.toList.filterMap fun| .tmp t=>some t|_=>none)++
 (match o.guard with
  |some (g,_)=>((nth ops g).bind (·.dst)).toList
  |none=>[])
def lenOp(o:Oper):Bool:=
 match o.op with
 | .indexAddr .. =>true
 | .move _=>true
 | .assign _=>true
 | .nilCheck _=>true
 | .call {callee:=.builtin .len,..}=>true
 |_=>false
def isStore(o:Oper):Bool:=
 match o.op with
 | .store .. =>true
 |_=>false
def isMove(o:Oper):Bool:=
 match o.op with
 | .move _=>true
 | .assign _=>true
 |_=>false
def effN(ops:List Oper)(tr:List (LU×List Nat))(o:Oper)(x:LU×List Nat):List Nat:=
 match isMove o with
 |true=>[]
 |false=>
 match lenOp o&&x.2.all (λn=>(List.range tr.length).all λk=>match nth tr k,nth ops k with
  |some y,some ok=> !has y.1.ids n||isStore ok
  |_,_=>true)with
 |true=>[]
 |false=>x.2
def apart(l l':List Nat)(x y:LU×List Nat):Bool:=
 disj x.1.touch (l'++y.1.touch)&&disj y.1.touch l&&disj x.1.ids (y.2++y.1.ids)&&disj y.1.ids x.2
def pairOK(ops:List Oper)(an:List (List Nat))(tr:List (LU×List Nat))(i j:Nat):Bool:=
 match nth ops i,nth ops j,nth tr i,nth tr j,nth an j with
 |some oi,some oj,some x,some y,some a=>has a i||apart (looksOf ops oi) (looksOf ops oj) (x.1,effN ops tr oi x) (y.1,effN ops tr oj y)
 |_,_,_,_,_=>false
def takenBy(an:List (List Nat))(tr:List (LU×List Nat))(k t:Nat):Bool:=
 match nth an k with
 |some ak=>(List.range tr.length).any λm=>has ak m&&match nth tr m with
  |some z=>(match z.1.und with
   |some c=>Nat.beq c t
   |none=>false)
  |none=>false
 |none=>false
def appOK(an:List (List Nat))(s:St)(tr:List (LU×List Nat))(k:Nat)(x:LU×List Nat):Bool:=
 match x.1.und with
 |none=>true
 |some b=>x.1.ids.all λo=>
   s.fr.all (λq=>Nat.beq q.1 b||cl2 o q.2||takenBy an tr k q.1)&&s.ob.all (λq=>Nat.beq q.1 o||clOb o q.2)&&
   (List.range tr.length).all λn=>match nth tr n,nth an n,nth an k with
    |some y,some a,some ak=>Nat.beq n k||has a k||
     ((match y.1.d with
      |some q=>cl2 o q.2||Nat.beq q.1 b||(List.range tr.length).any λm=>Nat.blt n m&&has ak m&&match nth tr m with
       |some z=>match z.1.und with
        |some c=>Nat.beq c q.1
        |none=>false
       |none=>false
      |none=>true)&&y.1.objs.all λq=>Nat.beq q.1 o||clOb o q.2)
    |_,_,_=>false
def drawChk(ops:List Oper)(p:Nat)(s:St)(tr:List (LU×List Nat)):Bool:=
 let an:=ancs ops []
 backOK ops&&(List.range p).all (λj=>(List.range j).all λi=>pairOK ops an tr i j)&&(List.range p).all λk=>match nth tr k with
  |some x=>appOK an s tr k x
  |none=>false
def adraw(E:Env)(tt:Nat->TD)(fz:Nat->List Nat)(ops:Nat->Option Oper)(l:List Oper)(s0:St):Tr St:=
 let p:=drawP l
 let s:=St.ahead s0 s0 (fz 0)
 (atrace E tt ops (λi=>(fz 0).any (Nat.beq (60000000+i))) (l.take p) s []).bind λr=>match drawChk l p s r.2 with
  |true=>aops E tt fz ops (l.drop p) p r.1
  |false=>.f
inductive Out where
 |normal (s:St)
 |exit (id:Nat) (s:St)
 |ret (s:St)
@[reducible] def Orc:=Nat->St->Option (Tr Out)
def acode(E:Env)(tt:Nat->TD)(fz:Nat->Nat->List Nat)(orc:Orc):Code->St->Tr Out
 | .skip,s=>.l (.normal s)
 | .region id ops draw,s=>(match draw with
  |true=>adraw E tt (fz id) (λj=>ops[j]?) ops.toList s
  |false=>aops E tt (fz id) (λj=>ops[j]?) ops.toList 0 s).bind λs'=>.l (.normal s')
 | .seq a b,s=>(acode E tt fz orc a s).bind fun
  | .normal s'=>acode E tt fz orc b s'
  |o=>.l o
 | .cond c a b,s=>match opd s.slot c with
  | .dat .bool v=>.t v (acode E tt fz orc a s) (acode E tt fz orc b s)
  |_=>.f
 | .block id (.loop _),s=>match orc id s with
  |some x=>x
  |none=>.f
 | .block id b,s=>(acode E tt fz orc b s).bind fun
  | .exit i s'=>match Nat.beq i id with
   |true=>.l (.normal s')
   |false=>.l (.exit i s')
  |o=>.l o
 | .exit id,s=>.l (.exit id s)
 | .ret,s=>.l (.ret s)
 |_,_=>.f
inductive Sh where
 |dat (t:Ty)
 |arr (o:Nat)
 |box (o k:Nat)
 |row (o:Nat)
 |nilsl
 |clo (ts:List Ty) (r:Ty)
 |nil
 |cons (a b:Sh)
 |fn (f:Nat) (caps:Sh)
 |ptr (cs:Sh)
 |agg (cs:Sh)
@[reducible] def Sh.I:Sh->Type
 | .dat t=>t.I
 | .row _=>Nat
 | .clo ts r=>HL ts->Option r.I
 | .cons a b=>a.I×b.I
 | .fn _ c=>c.I
 | .ptr c=>c.I
 | .agg c=>c.I
 |_=>Unit
def val:(s:Sh)->s.I->List AV
 | .dat t,x=>[.dat t x]
 | .arr o,_=>[.arr o]
 | .box o k,_=>[.box o k]
 | .row o,i=>[.row o i]
 | .nilsl,_=>[.nilsl]
 | .clo ts r,p=>[.clo ts r p]
 | .nil,_=>[]
 | .cons a b,x=>val a x.1++val b x.2
 | .fn f c,x=>[.fn f (val c x)]
 | .ptr c,x=>[.ptr (val c x)]
 | .agg c,x=>[.agg (val c x)]
def Ty.eqs? :(a b:List Ty)->Option (PLift (a=b))
 | [],[]=>some ⟨rfl⟩
 |a::as,b::bs=>match Ty.eq? a b,Ty.eqs? as bs with
  |some ⟨h⟩,some ⟨k⟩=>some ⟨by rw[h,k]⟩
  |_,_=>none
 |_,_=>none
def cloCast(ts ts':List Ty)(r r':Ty)(p:HL ts->Option r.I):Option (HL ts'->Option r'.I):=
 match Ty.eqs? ts ts',Ty.eq? r r' with
 |some ⟨h⟩,some ⟨k⟩=>some (h▸k▸p)
 |_,_=>none
def asRes(r:Ty)(x:Option CR):Option r.I:=
 match x with
 |some cr=>cr.x.bind λy=>match cr.emb y with
  |([v],_)=>match v with
   | .dat t d=>match deepT t with
    |false=>Ty.cast t r d
    |true=>none
   |_=>none
  |_=>none
 |none=>none
def asClo(E:Env)(f:Nat)(caps:List AV)(ts:List Ty)(r:Ty)(h:HL ts):Option r.I:=asRes r (E.call f (hlAV ts h++caps) [])
def asBnd(E:Env)(f:Nat)(fs:List AV)(ts:List Ty)(r:Ty)(h:HL ts):Option r.I:=asRes r (E.call f (fs++hlAV ts h) [])
def un1(t:Ty):AV->Option t.I
 | .dat t' v=>Ty.cast t' t v
 | .nilsl=>match t with
  | .slice _=>some []
  |_=>none
 |_=>none
def cl0:AV->Bool
 | .dat _ _=>true
 | .nilsl=>true
 | .undef=>true
 | .clo _ _ _=>true
 | .fn _ []=>true
 |_=>false
def isPtr:AV->Bool
 | .ptr cs=>cs.all cl0
 |_=>false
def isPur0:AV->Bool
 | .dat _ _=>true
 | .nilsl=>true
 | .undef=>true
 |_=>false
def isPur:AV->Bool
 | .agg cs=>cs.all isPur0
 |v=>isPur0 v
def un(E:Env):(s:Sh)->List AV->Option (s.I×List AV)
 | .nil,l=>some ((),l)
 | .cons a b,l=>match un E a l with
  |some (x,r)=>match un E b r with
   |some (y,r')=>some ((x,y),r')
   |none=>none
  |none=>none
 | .dat t,l=>match l with
  |v::r=>match un1 t v with
   |some x=>some (x,r)
   |none=>none
  |_=>none
 | .arr o,l=>match l with
  | .arr o'::r=>match Nat.beq o o' with
   |true=>some ((),r)
   |false=>none
  |_=>none
 | .box o k,l=>match l with
  | .box o' k'::r=>match Nat.beq o o',Nat.beq k k' with
   |true,true=>some ((),r)
   |_,_=>none
  |_=>none
 | .row o,l=>match l with
  | .row o' i::r=>match Nat.beq o o' with
   |true=>some (i,r)
   |false=>none
  |_=>none
 | .nilsl,l=>match l with
  | .nilsl::r=>some ((),r)
  |_=>none
 | .clo ts rt,l=>match l with
  | .clo ts' rt' p::r=>match cloCast ts' ts rt' rt p with
   |some q=>some (q,r)
   |none=>none
  | .fn f caps::r=>match Nat.beq rt.size 1,caps.all isPtr&&(E.lend f).isEmpty with
   |true,true=>some (asClo E f caps ts rt,r)
   |_,_=>none
  | .bnd f fs::r=>match Nat.beq rt.size 1,fs.all isPur&&(E.lend f).isEmpty with
   |true,true=>some (asBnd E f fs ts rt,r)
   |_,_=>none
  |_=>none
 | .fn f c,l=>match l with
  | .fn f' caps::r=>match Nat.beq f f',un E c caps with
   |true,some (x,[])=>some (x,r)
   |_,_=>none
  |_=>none
 | .ptr c,l=>match l with
  | .ptr cs::r=>match un E c cs with
   |some (x,[])=>some (x,r)
   |_=>none
  |_=>none
 | .agg c,l=>match l with
  | .agg cs::r=>match un E c cs with
   |some (x,[])=>some (x,r)
   |_=>none
  |_=>none
def E0:Env:=⟨λ_ _ _=>none,λ_=>[]⟩
inductive OSh where
 |arr (e:Nat) (t:Ty)
 |rows (e e2:Nat) (t:Ty)
 |perm (e e2:Nat) (t:Ty)
 |cells (c:Sh)
@[reducible] def OSh.I:OSh->Type
 | .arr _ t=>List t.I
 | .rows _ _ t=>List (List t.I)
 | .perm _ _ t=>List Nat×List (List t.I)
 | .cells c=>c.I
def OSh.mk:(o:OSh)->o.I->Ob
 | .arr e t,l=>.arr e t l
 | .rows e e2 t,l=>.rows e e2 t l none
 | .perm e e2 t,x=>.perm false e e2 t x.1 x.2
 | .cells c,x=>.cells (val c x)
def OSh.un:(o:OSh)->Ob->Option o.I
 | .arr e t,.arr e' t' l=>match Nat.beq e e' with
  |true=>Ty.cast (.slice t') (.slice t) l
  |false=>none
 | .rows e e2 t,.rows e' e2' t' l none=>match Nat.beq e e',Nat.beq e2 e2' with
  |true,true=>Ty.cast (.slice (.slice t')) (.slice (.slice t)) l
  |_,_=>none
 | .perm e e2 t,.perm _ e' e2' t' ix l=>match Nat.beq e e',Nat.beq e2 e2' with
  |true,true=>match Ty.cast (.slice (.slice t')) (.slice (.slice t)) l with
   |some y=>some (ix,y)
   |none=>none
  |_,_=>none
 | .cells c,.cells cs=>match Go.Proofs.YtidaiohhaanphaaGreatDoor.un E0 c cs with
  |some (x,[])=>some x
  |_=>none
 |_,_=>none
@[reducible] def OL:List (Nat×OSh)->Type
 | []=>Unit
 |(_,o)::r=>o.I×OL r
def mkObs:(l:List (Nat×OSh))->OL l->List (Nat×Ob)
 | [],_=>[]
 |(i,o)::r,x=>(i,o.mk x.1)::mkObs r x.2
def unObs(g:Nat->Option Ob):(l:List (Nat×OSh))->Option (OL l)
 | []=>some ()
 |(i,o)::r=>match g i with
  |some x=>match o.un x,unObs g r with
   |some y,some z=>some (y,z)
   |_,_=>none
  |none=>none
structure SSh where
 slots:List Nat
 sh:Sh
 obs:List (Nat×OSh)
@[reducible] def SSh.T (S:SSh):Type:=S.sh.I×OL S.obs
def zipS:List Nat->List AV->List (Nat×AV)
 |i::is,v::vs=>(i,v)::zipS is vs
 |_,_=>[]
def mkSt(S:SSh)(x:S.T):St:= {fr:=zipS S.slots (val S.sh x.1),ob:=mkObs S.obs x.2}
def unSt(S:SSh)(s:St):Option S.T:=
 match un E0 S.sh (S.slots.map s.slot)with
 |some (x,[])=>match unObs s.g S.obs with
  |some y=>some (x,y)
  |none=>none
 |_=>none
def Sh.okIds(ids:List Nat):Sh->Bool
 | .arr o=>ids.any (Nat.beq o)
 | .box o _=>ids.any (Nat.beq o)
 | .row o=>ids.any (Nat.beq o)
 | .cons a b=>a.okIds ids&&b.okIds ids
 | .fn _ c=>c.okIds ids
 | .ptr c=>c.okIds ids
 | .agg c=>c.okIds ids
 |_=>true
def OSh.okIds(ids:List Nat):OSh->Bool
 | .arr _ _=>true
 | .rows _ _ _=>true
 | .perm _ _ _=>true
 | .cells c=>c.okIds ids
def SSh.ok(S:SSh):Bool:=
 S.sh.okIds (S.obs.map (·.1))&&S.obs.all λp=>p.2.okIds (S.obs.map (·.1))
inductive CA where
 |fz (o:Nat)
 |rep (o o':Nat)
 |own (i o e:Nat) (t:Ty)
 |ownB (p j o e:Nat) (t:Ty)
 |drop (o:Nat)
 |perm (o:Nat)
 |pull (k d:Nat)
 |ownRB (p j o e e2:Nat) (t:Ty)
 |ren (o o':Nat)
 |pin (i o':Nat)
 |pinB (p j o':Nat)
 |repB (p j o':Nat)
def St.ren(s:St)(o o':Nat):St:=
 match s.g o,s.g o' with
 |some (.arr e t l),none=>s.swap o (.arr o') [(o',.arr e t l)]
 |some (.rows e e2 t l none),none=>s.swap o (.arr o') [(o',.rows e e2 t l none)]
 |some (.perm k e e2 t ix l),none=>s.swap o (.arr o') [(o',.perm k e e2 t ix l)]
 |_,_=>s
def St.act(s:St):CA->St
 | .fz o=>s.freeze o
 | .rep o o'=>match s.g o,Nat.beq o o' with
  |some (.arr _ _ _),false=>(s.freeze o').ren o o'
  |_,_=>s
 | .own i o e t=>match s.slot i,s.g o with
  | .nilsl,none=> {fr:=(i,.arr o)::s.fr,ob:=(o,.arr e t [])::s.ob}
  |_,_=>s
 | .drop o=>s.drop o
 | .perm o=>s.perm o
 | .pull k d=>s.pull k d
 | .ownB p j o e t=>match s.g p,s.g o with
  |some (.cells cs),none=>match nth cs j with
   |some .nilsl=> {fr:=s.fr,ob:=(p,.cells (cs.set j (.arr o)))::(o,.arr e t [])::s.ob}
   |_=>s
  |_,_=>s
 | .ownRB p j o e e2 t=>match s.g p,s.g o with
  |some (.cells cs),none=>match nth cs j with
   |some .nilsl=> {fr:=s.fr,ob:=(p,.cells (cs.set j (.arr o)))::(o,.rows e e2 t [] none)::s.ob}
   |_=>s
  |_,_=>s
 | .ren o o'=>s.ren o o'
 | .pin i o'=>match s.slot i with
  | .arr o=>s.ren o o'
  |_=>s
 | .pinB p j o'=>match s.g p with
  |some (.cells cs)=>match nth cs j with
   |some (.arr o)=>s.ren o o'
   |_=>s
  |_=>s
 | .repB p j o'=>match s.g p with
  |some (.cells cs)=>match nth cs j with
   |some (.arr o)=>match Nat.beq o o' with
    |false=>(s.drop o').ren o o'
    |true=>s
   |_=>s
  |_=>s
def St.acts(s:St)(l:List CA):St:=l.foldl St.act s
structure Keep where
 acts:List CA
 S:SSh
def Keep.at(k:Keep)(s:St):Option k.S.T:=unSt k.S (s.acts k.acts)
inductive Ex where
 |exit (id:Nat) (s:St)
 |ret (s:St)
def Ex.out:Ex->Out
 | .exit id s=>.exit id s
 | .ret s=>.ret s
def Ex.at(id:Nat):Ex->Out
 | .exit i s=>match Nat.beq i id with
  |true=>.normal s
  |false=>.exit i s
 | .ret s=>.ret s
def iterN{V R:Type}(f:V->Option (V⊕R)):Nat->V->Option R
 |0,_=>none
 |n+1,v=>match f v with
  |some (.inl v')=>iterN f n v'
  |some (.inr r)=>some r
  |none=>none
open Classical in
noncomputable def iter{V R:Type}(f:V->Option (V⊕R))(v:V):Option R:=
 match iterN f 1000000 v with
 |some r=>some r
 |none=>if h:∃r n,iterN f n v=some r then some h.choose else none
structure LD where
 head:Keep
 exits:List (Nat×Keep)
 rets:Keep
 K:Type
 V:Type
 R:Type
 join:K->V->head.S.T
 sk:head.S.T->K
 sv:head.S.T->V
 step:K->V->Tr (V⊕R)
 leaf:K->R->Tr Ex
def keepOut(h:Option Keep)(ex:List (Nat×Keep))(rt:Keep):Out->Option Out
 | .normal s=>match h with
  |some h=>(h.at s).map λt=>.normal (mkSt h.S t)
  |none=>none
 | .exit i s=>match look ex i with
  |some k=>(k.at s).map λt=>.exit i (mkSt k.S t)
  |none=>none
 | .ret s=>(rt.at s).map λt=>.ret (mkSt rt.S t)
noncomputable def LD.orc(d:LD)(id:Nat)(s:St):Option (Tr Out):=
 (d.head.at s).map λt=>.c d.R (iter (λv=>(d.step (d.sk t) v).ev) (d.sv t)) λr=>(d.leaf (d.sk t) r).map (Ex.at id)
def LD.next(d:LD)(k:d.K):d.V⊕d.R->Tr (Option Out)
 | .inl v=>.l (some (.normal (mkSt d.head.S (d.join k v))))
 | .inr r=>(d.leaf k r).map λe=>some e.out
structure LD.OK(E:Env)(tt:Nat->TD)(fz:Nat->Nat->List Nat)(orc:Orc)(b:Code)(d:LD):Prop where
 ok:d.head.S.ok=true
 oke:d.exits.all (λp=>p.2.S.ok)=true
 okr:d.rets.S.ok=true
 eta:∀t,d.join (d.sk t) (d.sv t)=t
 step:∀k v,((acode E tt fz orc b (mkSt d.head.S (d.join k v))).map (keepOut (some d.head) d.exits d.rets)).ev=((d.step k v).bind (d.next k)).ev
noncomputable def orcOf:List (Nat×LD)->Orc
 | [],_,_=>none
 |(n,d)::r,id,s=>match Nat.beq n id with
  |true=>match d.orc id s with
   |some x=>some x
   |none=>orcOf r id s
  |false=>orcOf r id s
structure FD where
 A:Sh
 ins:List (Nat×OSh)
 lend:List LP
 R:Type
 F:A.I×OL ins->Option R
 emb:R->List AV×List (Nat×Ob)
 sp:R->Tr (List AV×List (Nat×Ob)):=λr=>.l (emb r)
 spok:∀r,(sp r).ev=some (emb r):=by exact λ_=>rfl
@[reducible] def FD.T (d:FD):Type:=d.A.I×OL d.ins
def sameIds{α β:Type}:List (Nat×α)->List (Nat×β)->Bool
 | [],[]=>true
 |(i,_)::r,(j,_)::r'=>Nat.beq i j&&sameIds r r'
 |_,_=>false
def FD.cr(E:Env)(d:FD)(args:List AV)(obs:List (Nat×Ob)):Option CR:=
 match un E d.A args with
 |some (x,[])=>match sameIds obs d.ins with
  |true=>match unObs (look obs) d.ins with
   |some y=>some ⟨d.R,d.F (x,y),d.emb,d.sp,d.spok⟩
   |none=>none
  |false=>none
 |_=>none
def envOf:List (Nat×FD)->Env
 | []=>E0
 |(f,d)::r=>⟨λf' args obs=>match Nat.beq f f' with
  |true=>d.cr (envOf r) args obs
  |false=>(envOf r).call f' args obs,λf'=>match Nat.beq f f' with
  |true=>d.lend
  |false=>(envOf r).lend f'⟩
def entry(A:Sh)(ins:List (Nat×OSh))(x:A.I×OL ins):St:= {fr:=zipS (List.range (val A x.1).length) (val A x.1),ob:=mkObs ins x.2}
structure RetK where
 acts:List CA
 res:List ResultVar
 sh:Sh
 obs:List (Nat×OSh)
 pins:List (Nat×Nat×Nat)
 gone:List Nat:=[]
@[reducible] def RetK.T (k:RetK):Type:=k.sh.I×OL k.obs
def rsVal(tt:Nat->TD)(s:St):ResultVar->Option AV
 | .tmp i=>some (s.slot i)
 | .cell a ty=>match s.slot a,tySize tt ty with
  | .box o k,some sz=>match s.g o with
   |some (.cells cs)=>cut cs k sz
   |_=>none
  |_,_=>none
def rsVals(tt:Nat->TD)(s:St):List ResultVar->Option (List AV)
 | []=>some []
 |r::l=>match rsVal tt s r,rsVals tt s l with
  |some v,some vs=>some (v::vs)
  |_,_=>none
def RetK.ok(k:RetK):Bool:=k.sh.okIds (k.obs.map (·.1))&&(k.obs.all λp=>p.2.okIds (k.obs.map (·.1)))&&k.obs.all λp=>Nat.blt p.1 64||(k.pins.any λq=>Nat.beq q.2.2 p.1)
def pinAt(v:AV)(c o:Nat):Bool:=
 match c with
 |0=>match v with
  | .box p 0=>Nat.beq p o
  | .arr p=>Nat.beq p o
  |_=>false
 |j+1=>match v with
  | .agg cs=>match nth cs j with
   |some (.arr p)=>Nat.beq p o
   |_=>false
  | .fn _ cs=>match nth cs j with
   |some (.box p 0)=>Nat.beq p o
   |_=>false
  |_=>false
def RetK.at(tt:Nat->TD)(k:RetK)(s:St):Option k.T:=
 match k.pins.all λq=>pinAt ((s.acts k.acts).slot q.1) q.2.1 q.2.2 with
 |true=>match rsVals tt (s.acts k.acts) k.res with
  |some vs=>match un E0 k.sh vs with
   |some (x,[])=>match unObs (s.acts k.acts).g k.obs with
    |some y=>some (x,y)
    |none=>none
   |_=>none
  |none=>none
 |false=>none
def keepRet(tt:Nat->TD)(rt:RetK):Out->Option rt.T
 | .normal s=>rt.at tt s
 | .ret s=>rt.at tt s
 | .exit _ _=>none
def atB(tt:Nat->TD)(r1 r2:RetK)(s:St):Option (r1.T⊕r2.T):=
 match r1.at tt s with
 |some x=>some (.inl x)
 |none=>match r2.at tt s with
  |some y=>some (.inr y)
  |none=>none
def keepRet2(tt:Nat->TD)(r1 r2:RetK):Out->Option (r1.T⊕r2.T)
 | .normal s=>atB tt r1 r2 s
 | .ret s=>atB tt r1 r2 s
 | .exit _ _=>none
end Go.Proofs.YtidaiohhaanphaaGreatDoor
