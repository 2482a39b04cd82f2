/- A part of the proof that FnReplay hands back true, at every argument of the row. -/
import Derived.WalkKit
namespace Go.Proofs.YtjiljcblmgeioaaGreatDoor
set_option linter.all false

abbrev qa:=@cond_true
abbrev qb:=@cond_false
abbrev qc:=@decide_eq_true
abbrev qd:=@decide_eq_false
abbrev qe:=@decide_eq_true_eq
abbrev qf:=@beq_eq_false_iff_ne
abbrev qg:=@beq_iff_eq
abbrev qh:=@if_neg
abbrev qi:=@if_pos
abbrev qj:=@beq_self_eq_true
abbrev qk:=@bne_self_eq_false
abbrev ql:=@and_true
abbrev qm:=@or_false
abbrev xc:=@Option.bind_some
abbrev xd:=@List.getD_eq_getElem?_getD
abbrev xe:=@Option.some.injEq
abbrev xf:=@Bool.and_eq_true
abbrev xg:=@Nat.eq_of_beq_eq_true
abbrev xh:=@List.getElem?_eq_getElem
abbrev xi:=@Nat.lt_irrefl
abbrev xj:=@List.length_append
abbrev xk:=@List.length_cons
abbrev xl:=@Bool.not_true
abbrev xm:=@Nat.le_refl
abbrev xn:=@Array.getD_eq_getD_getElem?
abbrev xo:=@List.mem_singleton
abbrev xp:=@List.mem_append
abbrev xq:=@List.getElem?_eq_some_iff
abbrev xr:=@List.mem_cons_of_mem
abbrev xt:=@List.all_eq_true
abbrev xu:=@List.mem_cons_self
abbrev xw:=@List.length_take
abbrev xx:=@Int.toNat_natCast
abbrev xy:=@List.length_nil
abbrev xz:=@List.mem_of_getElem?
abbrev C9:=@List.eq_nil_of_length_eq_zero
abbrev oE:=@List.getElem?_map
abbrev y7:=@List.getElem?_append_left
abbrev C6:=@List.getElem?_append_right
abbrev xae:=@List.mem_cons
abbrev xaf:=@List.mem_map
abbrev F3:=@Array.getElem?_eq_getElem
abbrev oG:=@Option.map_some
abbrev tJ:=@Bool.false_eq_true
abbrev nE:=@Bool.not_false
abbrev xak:=@List.mem_filter
abbrev sX:=@List.take_length
abbrev tH:=@List.length_drop
abbrev yJ:=@List.getElem?_drop
abbrev yF:=@Nat.lt_of_lt_of_le
abbrev D1:=@List.mem_append_left
abbrev xaq:=@List.length_pos_iff
abbrev xar:=@List.mem_range
abbrev xT:=@Option.getD_some
abbrev Wk:=@List.take_succ_eq_append_getElem
abbrev xau:=@Option.map_eq_some_iff
abbrev Bt:=@List.mem_append_right
abbrev Gg:=@List.take_of_length_le
abbrev D9:=@Bool.not_eq_true'
abbrev zB:=@Option.some.inj
abbrev yT:=@List.append_nil
abbrev xba:=@Array.getElem?_eq_some_iff
abbrev C7:=@List.length_set
abbrev Wn:=@List.drop_eq_getElem_cons
abbrev xbd:=@Option.isSome_iff_exists
abbrev uE:=@Nat.mul_one
abbrev J8:=@List.nil_append
abbrev xbg:=@List.any_eq_true
abbrev Rn:=@List.length_replicate
abbrev zL:=@Nat.add_zero
abbrev xbj:=@List.pairwise_cons
abbrev Z5:=@List.foldl_cons
abbrev Z7:=@Bool.or_eq_true
abbrev Uk:=@Array.toArray_toList
abbrev M8:=@List.map_cons
abbrev KJ:=@Array.getElem?_append_left
abbrev Wi:=@List.mem_of_mem_take
abbrev zG:=@Int.le_refl
abbrev Tq:=@List.getElem?_take
abbrev Gi:=@List.length_map
abbrev C8:=@Nat.add_mul
abbrev xbu:=@List.mem_iff_getElem
abbrev No:=@List.cons_append
abbrev P1:=@Nat.zero_add
abbrev JH:=@List.length_singleton
abbrev BU:=@List.getElem?_range
abbrev Np:=@List.cons.injEq
abbrev JI:=@Nat.mul_le_mul_right
abbrev Wm:=@List.any_eq_false
abbrev KP:=@List.getElem?_eq_none
abbrev V1:=@Nat.zero_le
abbrev xce:=@List.contains_iff_mem
abbrev JP:=@Array.length_toList
abbrev JK:=@List.getElem_of_mem
abbrev Yi:=@List.append_assoc
abbrev Gq:=@Bool.true_and
abbrev xcj:=@Int.mul_le_mul_of_nonneg_left
abbrev VW:=@List.drop_eq_nil_of_le
abbrev Wo:=@Nat.min_eq_left
abbrev Ri:=@List.drop_zero
abbrev Ze:=@List.not_mem_nil
abbrev xco:=@List.getElem?_replicate
abbrev xcp:=@Int.tmod_eq_emod_of_nonneg
abbrev Wb:=@Prod.mk.injEq
abbrev xcr:=@Array.getElem?_eq_none
abbrev xcs:=@List.mem_or_eq_of_mem_set
abbrev JW:=@List.foldl_append
abbrev xcu:=@Array.getElem?_toList
abbrev xcv:=@List.set_append_right
abbrev xB:=@Ne.symm
abbrev JN:=@Bool.eq_iff_iff
abbrev xcy:=@Bool.or_eq_false_iff
abbrev XT:=@List.mem_of_mem_drop
abbrev xda:=@Array.getElem?_append_right
abbrev xdb:=@List.findIdx?_eq_some_iff_getElem
abbrev VA:=@List.getElem?_set
abbrev RE:=@List.size_toArray
abbrev xde:=@List.mem_map_of_mem
abbrev xdf:=@List.map_congr_left
abbrev xdg:=@List.findSome?_cons
abbrev xdh:=@Array.getElem?_setIfInBounds_ne
abbrev xdi:=@Nat.le_of_ble_eq_true
abbrev xdj:=@Int.mul_le_mul_of_nonneg_right
abbrev UZ:=@List.filter_cons
abbrev Ya:=@Nat.lt_or_ge
abbrev JJ:=@Int.lt_irrefl
abbrev JL:=@Bool.and_true
abbrev xdo:=@List.pairwise_append
abbrev xdp:=@Nat.pow_le_pow_right
abbrev xdq:=@Option.bind_eq_some_iff
abbrev NU:=@List.all_cons
abbrev xds:=@List.drop_length
abbrev xdt:=@List.length_filter_le
abbrev xdu:=@List.map_append
abbrev JZ:=@Nat.le_trans
abbrev xdw:=@List.getElem?_set_ne
abbrev xdx:=@List.length_range
abbrev US:=@Nat.add_assoc
abbrev xdz:=@List.eq_of_mem_replicate
abbrev xea:=@Int.toNat_of_nonneg
abbrev xeb:=@List.getElem_mem
abbrev xec:=@Int.eq_ofNat_of_zero_le
abbrev TA:=@Nat.sub_self
abbrev xee:=@List.findIdx?_cons
abbrev XE:=@Int.mul_comm
abbrev xeg:=@List.range_succ
abbrev xeh:=@Bool.or_false
abbrev xei:=@Bool.false_or
abbrev xej:=@List.take_append_drop
abbrev xek:=@List.singleton_append
abbrev xel:=@List.flatMap_cons
abbrev xem:=@List.ext_getElem?
abbrev xen:=@Bool.eq_false_iff
abbrev xeo:=@Int.tdiv_eq_ediv_of_nonneg
abbrev xep:=@List.take_zero
abbrev xeq:=@List.map_toArray
abbrev xer:=@List.map_nil
abbrev xes:=@List.mem_flatMap
abbrev xet:=@List.any_cons
abbrev xeu:=@Array.getElem?_replicate
abbrev xev:=@Int.dvd_mul_of_dvd_right
abbrev xew:=@Option.map_none
abbrev xex:=@Nat.not_lt_zero
abbrev xey:=@Int.natCast_add
abbrev xez:=@UInt8.toNat_inj
abbrev xfa:=@List.filter_append
abbrev xfb:=@List.any_eq_not_all_not
abbrev xfc:=@List.set_eq_take_append_cons_drop
abbrev xfd:=@Nat.zero_mul
abbrev xfe:=@Nat.mul_le_mul
abbrev xff:=@Nat.beq_refl
abbrev xfg:=@List.take_take
abbrev xfh:=@List.nodup_nil
abbrev xfi:=@List.length_eq_one_iff
abbrev xfj:=@List.range_succ_eq_map
abbrev xfk:=@List.find?_append
abbrev xfl:=@Bool.and_false
abbrev xfm:=@List.eq_nil_or_concat
abbrev xfn:=@List.filterMap_append
abbrev xfo:=@Array.eq_empty_of_size_eq_zero
abbrev xfp:=@List.forall_mem_cons
abbrev xfq:=@List.take_append_of_le_length
abbrev xfr:=@List.nodup_cons
abbrev xfs:=@List.map_eq_nil_iff
abbrev xft:=@List.filter_eq_self
abbrev xfu:=@List.takeWhile_cons
abbrev xfv:=@List.length_take_le
abbrev xfw:=@List.drop_drop
abbrev xfx:=@List.mapM_cons
abbrev xfy:=@Nat.add_sub_cancel
abbrev xfz:=@List.find?_eq_none
abbrev xga:=@List.foldl_nil
abbrev xgb:=@Int.emod_lt_of_pos
abbrev xgc:=@Bool.false_and
abbrev xgd:=@UInt8.toNat_ofNat'
abbrev xge:=@List.mem_of_find?_eq_some
abbrev xgf:=@List.pairwise_iff_getElem
abbrev xgg:=@List.findIdx?_eq_none_iff
abbrev xgh:=@Nat.one_mul
abbrev xgi:=@Array.size_append
abbrev xgj:=@Array.all_eq_true
abbrev xgk:=@List.map_id
abbrev xgl:=@List.getElem?_take_of_lt
abbrev xgm:=@Int.dvd_trans
abbrev xgn:=@List.take_append
abbrev xgo:=@Nat.mod_eq_of_lt
abbrev xgp:=@List.ext_getElem
abbrev xgq:=@List.length_eq_zero_iff
abbrev xgr:=@Int.min_eq_right
abbrev xgs:=@Int.max_eq_right
abbrev xgt:=@Int.dvd_of_emod_eq_zero
abbrev xgu:=@Nat.mul_comm
abbrev xgv:=@Nat.blt_eq
abbrev xgw:=@Int.dvd_zero
abbrev xgx:=@List.drop_of_length_le
abbrev xgy:=@Int.add_zero
abbrev xgz:=@List.find?_cons
abbrev xha:=@Int.emod_nonneg
abbrev xhb:=@List.any_append
abbrev xhc:=@List.drop_left'
abbrev xhd:=@List.foldl_map
abbrev xhe:=@Int.add_mul
abbrev xhf:=@Array.ext
abbrev xhg:=@Int.mul_assoc
abbrev xhh:=@Bool.beq_comm
abbrev xhi:=@Array.ext'
inductive Ty where
 |int (k:IntKind)
 |bool
 |str
 |slice (t:Ty)
 |pair (a b:Ty)
@[reducible] def Ty.I:Ty->Type
 | .int _=>Int
 | .bool=>Bool
 | .str=>List UInt8
 | .slice t=>List t.I
 | .pair a b=>a.I×b.I
def Ty.size:Ty->Nat
 | .pair a b=>a.size+b.size
 |_=>1
def Ty.dflt:(t:Ty)->t.I
 | .int _=>(0:Int)
 | .bool=>false
 | .str=>[]
 | .slice _=>[]
 | .pair a b=>(a.dflt,b.dflt)
def Ty.eq? :(a b:Ty)->Option (PLift (a=b))
 | .int j,.int k=>if h:j=k then some ⟨by rw[h]⟩else none
 | .bool,.bool=>some ⟨rfl⟩
 | .str,.str=>some ⟨rfl⟩
 | .slice a,.slice b=>match Ty.eq? a b with
  |some ⟨h⟩=>some ⟨by rw[h]⟩
  |none=>none
 | .pair a b,.pair c d=>match Ty.eq? a c,Ty.eq? b d with
  |some ⟨h⟩,some ⟨k⟩=>some ⟨by rw[h,k]⟩
  |_,_=>none
 |_,_=>none
def Ty.cast(a b:Ty)(x:a.I):Option b.I:=
 match Ty.eq? a b with
 |some ⟨h⟩=>some (h▸x)
 |none=>none
@[reducible] def HL:List Ty->Type
 | []=>Unit
 |t::ts=>t.I×HL ts
inductive AV where
 |undef
 |skip
 |dat (t:Ty) (v:t.I)
 |nilsl
 |arr (o:Nat)
 |box (o k:Nat)
 |elt (o i s:Nat)
 |fld (o i s k:Nat)
 |row (o i:Nat)
 |relt (o i n s:Nat)
 |suf (o i s:Nat)
 |pre (o i:Nat)
 |ptr (cs:List AV)
 |fn (f:Nat) (caps:List AV)
 |bnd (f:Nat) (fs:List AV)
 |clo (ts:List Ty) (r:Ty) (p:HL ts->Option r.I)
 |tup (vs:List AV)
 |agg (cs:List AV)
inductive Ob where
 |arr (e:Nat) (t:Ty) (l:List t.I)
 |rows (e e2:Nat) (t:Ty) (l:List (List t.I)) (h:Option (Nat×Option Nat))
 |perm (k:Bool) (e e2:Nat) (t:Ty) (ix:List Nat) (l:List (List t.I))
 |spent
 |cells (cs:List AV)
inductive Tr(L:Type):Type 1 where
 |f
 |l (x:L)
 |t (b:Bool) (x y:Tr L)
 |c (R:Type) (x:Option R) (k:R->Tr L)
 |s (A B:Type) (x:A⊕B) (k:A->Tr L) (k':B->Tr L)
namespace Tr
def bind{L M:Type}:Tr L->(L->Tr M)->Tr M
 | .f,_=>.f
 | .l x,k=>k x
 | .t b x y,k=>.t b (x.bind k) (y.bind k)
 | .c R x g,k=>.c R x λr=>(g r).bind k
 | .s A B x g g',k=>.s A B x (λa=>(g a).bind k) λb=>(g' b).bind k
def map{L M:Type}(g:L->M):Tr L->Tr M
 | .f=>.f
 | .l x=>.l (g x)
 | .t b x y=>.t b (x.map g) (y.map g)
 | .c R x k=>.c R x λr=>(k r).map g
 | .s A B x k k'=>.s A B x (λa=>(k a).map g) λb=>(k' b).map g
def ev{L:Type}:Tr L->Option L
 | .f=>none
 | .l x=>some x
 | .t b x y=>bif b then x.ev else y.ev
 | .c _ x k=>x.bind λr=>(k r).ev
 | .s _ _ x k k'=>match x with
  | .inl a=>(k a).ev
  | .inr b=>(k' b).ev
def opt{L:Type}:Option L->Tr L
 |some x=>.l x
 |none=>.f
def g{L:Type}(b:Bool)(x:Tr L):Tr L:=.t b x .f
@[simp] theorem ev_f {L:Type}:(Tr.f:Tr L).ev=none:=rfl
@[simp] theorem ev_l {L:Type} (x:L):(Tr.l x).ev=some x:=rfl
@[simp] theorem ev_t {L:Type} (b:Bool) (x y:Tr L):(Tr.t b x y).ev=bif b then x.ev else y.ev:=rfl
@[simp] theorem ev_c {L:Type} (R:Type) (x:Option R) (k:R->Tr L):(Tr.c R x k).ev=x.bind λr=>(k r).ev:=rfl
theorem ev_bind{L M:Type}(k:L->Tr M):∀x:Tr L,(x.bind k).ev=x.ev.bind λl=>(k l).ev
 | .f=>rfl
 | .l _=>rfl
 | .t b x y=>by cases b<;>simp[bind,ev_bind k x,ev_bind k y]
 | .c R x g=>by cases x<;>simp[bind,ev_bind k]
 | .s A B x g g'=>by cases x<;>simp[bind,ev,ev_bind k]
theorem ev_map{L M:Type}(g:L->M):∀x:Tr L,(x.map g).ev=x.ev.map g
 | .f=>rfl
 | .l _=>rfl
 | .t b x y=>by cases b<;>simp[map,ev_map g x,ev_map g y]
 | .c R x k=>by cases x<;>simp[map,ev_map g]
 | .s A B x k k'=>by cases x<;>simp[map,ev,ev_map g]
@[simp] theorem ev_opt {L:Type} (x:Option L):(Tr.opt x).ev=x:=by cases x<;>rfl
@[simp] theorem ev_g {L:Type} (b:Bool) (x:Tr L):(Tr.g b x).ev=bif b then x.ev else none:=rfl
end Tr
structure CR where
 R:Type
 x:Option R
 emb:R->List AV×List (Nat×Ob)
 sp:R->Tr (List AV×List (Nat×Ob))
 spok:∀r,(sp r).ev=some (emb r)
inductive LP where
 |arg (i:Nat)
 |cell (j k:Nat)
 |comp (i j:Nat)
 |cap (i j:Nat)
structure Env where
 call:Nat->List AV->List (Nat×Ob)->Option CR
 lend:Nat->List LP
inductive TD where
 |sc (t:Ty)
 |sl (e:Nat) (t:Ty) (b:Nat)
 |st (t:Ty) (fs:List (Nat×Ty))
 |no
def aM{α:Type _}:List (Nat×α)->Nat->Option α
 | [],_=>none
 |(k,x)::r,i=>match Nat.beq k i with
  |true=>some x
  |false=>aM r i
def aQ{α:Type}:List α->Nat->Option α
 | [],_=>none
 |x::_,0=>some x
 |_::r,i+1=>aQ r i
def fI:(t:Ty)->t.I->List AV
 | .pair a b,(x,y)=>fI a x++fI b y
 | .int k,n=>[.dat (.int k) n]
 | .bool,b=>[.dat .bool b]
 | .str,s=>[.dat .str s]
 | .slice t,l=>[.dat (.slice t) l]
def eF:Ty->List AV
 | .pair a b=>eF a++eF b
 | .int k=>[.dat (.int k) (0:Int)]
 | .bool=>[.dat .bool false]
 | .str=>[.dat .str ([]:List UInt8)]
 | .slice _=>[.nilsl]
def Wd(t:Ty):AV->Option t.I
 | .dat t' v=>Ty.cast t' t v
 | .nilsl=>match t with
  | .slice _=>some []
  |_=>none
 |_=>none
def gH:(t:Ty)->List AV->Option t.I
 | .pair a b,cs=>match gH a (cs.take a.size),gH b (cs.drop a.size)with
  |some x,some y=>some (x,y)
  |_,_=>none
 |t,cs=>match cs with
  | [v]=>Wd t v
  |_=>none
def cellsOf:AV->Option (List AV)
 | .agg cs=>some cs
 | .undef=>none
 | .skip=>none
 | .tup _=>none
 |v=>some [v]
def inj(t:Ty)(v:t.I):AV:=
 match fI t v with
 | [x]=>x
 |cs=>.agg cs
def NL(t:Ty)(v:AV):Option t.I:=(cellsOf v).bind (gH t)
def cW:List Nat->Nat->Nat->Option Nat
 | [],_,_=>none
 |x::r,o,i=>match Nat.beq x o with
  |true=>some i
  |false=>cW r o (i+1)
def bI{α:Type}(ix:List Nat)(l:List (List α)):List (List α):=ix.map λi=>l.getD i []
def tY(ρ:List Nat)(g:Nat->Option Ob):AV->AV
 | .dat t v=>.dat t v
 | .nilsl=>.nilsl
 | .arr o=>match cW ρ o 64 with
  |some i=>.arr i
  |none=>match g o with
   |some (.arr _ t l)=>.dat (.slice t) l
   |some (.rows _ _ t l none)=>.dat (.slice (.slice t)) l
   |some (.perm _ _ _ t ix l)=>.dat (.slice (.slice t)) (bI ix l)
   |_=>.undef
 | .row o i=>match cW ρ o 64 with
  |some _=>.undef
  |none=>match g o with
   |some (.rows _ _ t l none)=>.dat (.slice t) (l.getD i [])
   |some (.perm _ _ _ t _ l)=>.dat (.slice t) (l.getD i [])
   |_=>.undef
 | .clo ts r p=>.clo ts r p
 | .fn f []=>.fn f []
 |_=>.undef
def V5(ρ:List Nat)(g:Nat->Option Ob):AV->AV
 | .agg cs=>.agg (cs.map (tY ρ g))
 |v=>tY ρ g v
def F0(ρ:List Nat)(g:Nat->Option Ob):AV->AV
 | .box o k=>match cW ρ o 64 with
  |some i=>.box i k
  |none=>match g o with
   |some (.cells cs)=>if k<cs.length then .ptr ((cs.map (tY ρ g)).drop k)else .undef
   |_=>.undef
 |_=>.undef
def aFr:AV->AV
 | .dat t v=>.dat t v
 | .nilsl=>.nilsl
 |_=>.undef
def Fd:AV->AV
 | .agg cs=>.agg (cs.map aFr)
 |v=>aFr v
def S4(ρ:List Nat)(g:Nat->Option Ob):AV->AV
 | .fn f caps=>.fn f (caps.map (F0 ρ g))
 | .bnd f fs=>.bnd f (fs.map Fd)
 | .box o k=>match cW ρ o 64 with
  |some i=>.box i k
  |none=>.undef
 |v=>V5 ρ g v
def aJO:AV->AV
 | .dat t v=>.dat t v
 | .nilsl=>.nilsl
 | .clo ts r p=>.clo ts r p
 |_=>.undef
def Yp:Ob->Ob
 | .cells cs=>.cells (cs.map aJO)
 | .rows e e2 t l h=>.rows e e2 t l (h.map λp=>(p.1,none))
 |x=>x
def bW(g:Nat->Option Ob)(fs as:List AV):List LP->List Nat->Option (List Nat)
 | [],acc=>some acc
 | .arg i::r,acc=>match aQ as i with
  |some (.box o 0)=>bW g fs as r (acc++ [o])
  |some (.arr o)=>bW g fs as r (acc++ [o])
  |_=>none
 | .cell j k::r,acc=>match aQ acc j with
  |some p=>match g p with
   |some (.cells cs)=>match aQ cs k with
    |some (.box o 0)=>bW g fs as r (acc++ [o])
    |some (.arr o)=>bW g fs as r (acc++ [o])
    |_=>none
   |_=>none
  |none=>none
 | .comp i j::r,acc=>match aQ as i with
  |some (.agg cs)=>match aQ cs j with
   |some (.arr o)=>bW g fs as r (acc++ [o])
   |_=>none
  |_=>none
 | .cap i j::r,acc=>match aQ fs i with
  |some (.fn _ caps)=>match aQ caps j with
   |some (.box o 0)=>bW g fs as r (acc++ [o])
   |_=>none
  |_=>none
def kC(g:Nat->Option Ob):List Nat->Nat->List (Nat×Ob)
 | [],_=>[]
 |o::r,i=>match g o with
  |some x=>(i,Yp x)::kC g r (i+1)
  |none=>kC g r (i+1)
def nR(ρ:List Nat):AV->Bool
 | .arr o=>match cW ρ o 64 with
  |some _=>false
  |none=>true
 | .row _ _=>true
 |_=>false
def O6(ρ:List Nat):AV->Bool
 | .agg cs=>cs.any (nR ρ)
 |v=>nR ρ v
def lU:Ty->Bool
 | .slice _=>true
 | .pair a b=>lU a||lU b
 |_=>false
def Nn:AV->Bool
 | .dat t _=>lU t
 | .arr _=>false
 | .nilsl=>false
 |_=>true
def O7:AV->Bool
 | .agg cs=>cs.any Nn
 |v=>Nn v
def rn(ρ:List Nat)(d o:Nat):Nat:=if o<64 then d*64+o else(aQ ρ (o-64)).getD 0
def aFf(ρ:List Nat)(d:Nat):AV->AV
 | .arr o=>.arr (rn ρ d o)
 |v=>v
def FH(ρ:List Nat)(d:Nat):AV->AV
 | .agg cs=>.agg (cs.map (aFf ρ d))
 |v=>aFf ρ d v
def aHO(ρ:List Nat)(d:Nat):AV->AV
 | .arr o=>.arr (rn ρ d o)
 | .dat t v=>.dat t v
 | .nilsl=>.nilsl
 |_=>.undef
def tW(ρ:List Nat)(d:Nat):Ob->Ob
 | .cells cs=>.cells (cs.map (aHO ρ d))
 | .rows e e2 t l h=>.rows e e2 t l (h.map λp=>(p.1,none))
 | .perm _ e e2 t ix l=>.perm true e e2 t ix l
 |x=>x
abbrev QR:=AV×List (Nat×Ob)
def aC(n:Int)(len:Nat):Bool:=decide (0<=n)&&decide (n<(len:Int))
def bq(b:Bool):Tr QR:=.l (.dat .bool b,[])
def iq(k:IntKind)(n:Int):Tr QR:=.l (.dat (.int k) n,[])
def vq(v:AV):Tr QR:=.l (v,[])
def aGr(tt:Nat->TD)(op:BinOp)(ty:Nat):AV->AV->Tr QR
 | .dat (.int k) a,.dat (.int k') b=>
  match op with
  | .shl=>.g (decide ((0:Int)<=b)) (iq k (k.wrap ((a:Int)*2^(min (b:Int).toNat k.bits))))
  | .shr=>.g (decide ((0:Int)<=b)) (iq k ((a:Int).fdiv (2^(min (b:Int).toNat k.bits))))
  |_=>if k=k' then
    match op with
    | .add=>iq k (k.wrap ((a:Int)+b))
    | .sub=>iq k (k.wrap ((a:Int) -b))
    | .mul=>iq k (k.wrap ((a:Int)*b))
    | .quo=>.g (!decide ((b:Int)=0)) (iq k (k.wrap ((a:Int).tdiv b)))
    | .rem=>.g (!decide ((b:Int)=0)) (iq k ((a:Int).tmod b))
    | .and=>iq k (k.wrap (BitVec.ofInt k.bits a&&&BitVec.ofInt k.bits b).toNat)
    | .or=>iq k (k.wrap (BitVec.ofInt k.bits a|||BitVec.ofInt k.bits b).toNat)
    | .xor=>iq k (k.wrap (BitVec.ofInt k.bits a^^^BitVec.ofInt k.bits b).toNat)
    | .andNot=>iq k (k.wrap (BitVec.ofInt k.bits a&&& ~~~BitVec.ofInt k.bits b).toNat)
    | .eql=>bq ((a:Int)==b)
    | .neq=>bq ((a:Int) !=b)
    | .lss=>bq (decide ((a:Int)<b))
    | .leq=>bq (decide ((a:Int)<=b))
    | .gtr=>bq (decide ((b:Int)<a))
    | .geq=>bq (decide ((b:Int)<=a))
    |_=>.f
   else .f
 | .dat .bool a,.dat .bool b=>
  match tt ty with
  | .sc .bool=>match op with
   | .eql=>bq ((a:Bool)==b)
   | .neq=>bq (!((a:Bool)==b))
   |_=>.f
  |_=>.f
 | .dat .str a,.dat .str b=>
  match op with
  | .add=>.g (decide (List.length (α:=UInt8) a+List.length (α:=UInt8) b<=9223372036854775807)) (vq (.dat .str ((a:List UInt8)++b)))
  | .eql=>bq ((a:List UInt8)==b)
  | .neq=>bq (!((a:List UInt8)==b))
  |_=>.f
 |_,_=>.f
def aun(op:UnOp):AV->Tr QR
 | .dat .bool b=>match op with
  | .not=>bq (!b)
  |_=>.f
 | .dat (.int k) n=>match op with
  | .neg=>iq k (k.wrap (0-(n:Int)))
  |_=>.f
 |_=>.f
def kJ(tt:Nat->TD)(ty:Nat):Option (Nat×Bool):=
 match tt ty with
 | .sc t=>some (t.size,false)
 | .sl _ _ _=>some (1,false)
 | .st t _=>some (t.size,true)
 | .no=>none
def cut(cs:List AV)(k:Nat)(sz:Nat×Bool):Option AV:=
 match sz.2 with
 |true=>if k+sz.1<=cs.length then some (.agg ((cs.drop k).take sz.1))else none
 |false=>aQ cs k
def hJ:List (Nat×Ty)->Nat->Nat->Option (Nat×Nat)
 | [],_,_=>none
 |(ty,_)::_,o,0=>some (ty,o)
 |(_,t)::r,o,i+1=>hJ r (o+t.size) i
def vA(tt:Nat->TD)(ty i:Nat):Option (Nat×Nat):=
 match tt ty with
 | .st _ fs=>hJ fs 0 i
 |_=>none
def pE(tt:Nat->TD)(g:Nat->Option Ob)(ty:Nat)(a:AV):Tr QR:=
 match kJ tt ty,a with
 |some sz,.box o k=>match g o with
  |some (.cells cs)=>(Tr.opt (cut cs k sz)).bind vq
  |_=>.f
 |some sz,.ptr cs=>(Tr.opt (cut cs 0 sz)).bind vq
 |some sz,.elt o i s=>match g o with
  |some (.arr _ t l)=>if sz.1=t.size/\s=t.size then .g (decide (i<l.length)) ((Tr.opt (cut (fI t (l.getD i t.dflt)) 0 sz)).bind vq)else .f
  |some (.rows _ _ _ l none)=>if sz.1=1/\sz.2=false/\s=1 then .g (decide (i<l.length)) (vq (.row o i))else .f
  |some (.perm _ _ _ _ ix l)=>if sz.1=1/\sz.2=false/\s=1 then .g (decide (i<ix.length)&&decide (ix.getD i 0<l.length)) (vq (.row o (ix.getD i 0)))else .f
  |_=>.f
 |some sz,.fld o i s k=>match g o with
  |some (.arr _ t l)=>if s=t.size then .g (decide (i<l.length)) ((Tr.opt (cut (fI t (l.getD i t.dflt)) k sz)).bind vq)else .f
  |_=>.f
 |some sz,.relt o i n s=>match g o with
  |some (.rows _ _ t l none)=>if sz.1=t.size/\s=t.size then .g (decide (n<(l.getD i []).length)) ((Tr.opt (cut (fI t ((l.getD i []).getD n t.dflt)) 0 sz)).bind vq)else .f
  |_=>.f
 |_,_=>.f
def kS(tt:Nat->TD)(g:Nat->Option Ob)(ty:Nat):AV->AV->Tr QR
 | .dat (.slice t) l,.dat (.int _) n=>match tt ty with
  | .sl _ t' _=>if t.size=t'.size then .g (aC n l.length) (vq (.ptr (fI t (l.getD (n:Int).toNat t.dflt))))else .f
  |_=>.f
 | .arr o,.dat (.int _) n=>match tt ty,g o with
  | .sl _ t' _,some (.arr _ t l)=>if t.size=t'.size then .g (aC n l.length) (vq (.elt o (n:Int).toNat t.size))else .f
  | .sl _ t' _,some (.rows _ _ _ l _)=>if t'.size=1 then .g (aC n l.length) (vq (.elt o (n:Int).toNat 1))else .f
  | .sl _ t' _,some (.perm _ _ _ _ ix _)=>if t'.size=1 then .g (aC n ix.length) (vq (.elt o (n:Int).toNat 1))else .f
  |_,_=>.f
 | .row o i,.dat (.int _) n=>match tt ty,g o with
  | .sl _ t' _,some (.rows _ _ t l none)=>if t.size=t'.size then .g (aC n (l.getD i []).length) (vq (.relt o i (n:Int).toNat t.size))else .f
  |_,_=>.f
 |_,_=>.f
def X6(tt:Nat->TD)(ty:Nat):AV->AV->Tr QR
 | .dat .str s,.dat (.int _) n=>match tt ty with
  | .sc .str=>.g (aC n (List.length (α:=UInt8) s)) (iq .u8 ((List.getD (α:=UInt8) s (n:Int).toNat 0).toNat:Int))
  |_=>.f
 |_,_=>.f
def n8(tt:Nat->TD)(g:Nat->Option Ob)(ty:Nat):AV->Tr QR
 | .dat (.slice _) l=>match tt ty with
  | .sl _ _ _=>iq .i64 (l.length:Int)
  |_=>.f
 | .nilsl=>match tt ty with
  | .sl _ _ _=>iq .i64 (0:Int)
  |_=>.f
 | .arr o=>match tt ty,g o with
  | .sl _ _ _,some (.arr _ _ l)=>iq .i64 (l.length:Int)
  | .sl _ _ _,some (.rows _ _ _ l _)=>iq .i64 (l.length:Int)
  | .sl _ _ _,some (.perm _ _ _ _ ix _)=>iq .i64 (ix.length:Int)
  |_,_=>.f
 | .dat .str s=>match tt ty with
  | .sc .str=>iq .i64 (List.length (α:=UInt8) s:Int)
  |_=>.f
 |_=>.f
def YT(t:Ty):AV->Option t.I
 | .agg cs=>if t.size=1 then none else gH t cs
 |v=>if t.size=1 then Wd t v else none
def Tk:(ts:List Ty)->List AV->Option (HL ts)
 | [],[]=>some ()
 |t::ts,v::vs=>match YT t v,Tk ts vs with
  |some x,some h=>some (x,h)
  |_,_=>none
 |_,_=>none
def At:(ts:List Ty)->HL ts->List AV
 | [],_=>[]
 |t::ts,(x,h)=>inj t x::At ts h
def OX:AV->Bool
 | .dat _ _=>true
 | .nilsl=>true
 | .arr _=>true
 | .undef=>true
 |_=>false
def PX:AV->Bool
 | .agg cs=>cs.all OX
 |v=>OX v
def CF:AV->Bool
 | .dat t _=>lU t
 |_=>false
def oK:Ob->Bool
 | .arr _ t _=>lU t
 | .spent=>false
 | .rows _ _ t _ _=>lU t
 | .perm _ _ _ t _ _=>lU t
 | .cells cs=>cs.any CF
def Cs(n:Nat)(r:List AV×List (Nat×Ob)):Bool:=
 r.2.all (λp=>decide (p.1<64+n)&&match p.2 with| .arr _ _ _=>true| .perm _ _ _ _ _ _=>true| .spent=>decide (64<=p.1)| .rows _ _ _ _ h=>h.isNone| .cells _=>decide (64<=p.1))&&decide (r.2.map (·.1)).Nodup&&r.1.all PX&&(List.range n).all (λi=>(r.2.map (·.1)).contains (64+i))
def nM(ρ:List Nat)(g:Nat->Option Ob):AV->Bool
 | .box o _=>match cW ρ o 64 with
  |some _=>false
  |none=>match g o with
   |some (.cells cs)=>cs.any (nR ρ)
   |_=>false
 |_=>false
def eW(ρ:List Nat)(d:Nat)(res:List AV×List (Nat×Ob)):QR×List (Nat×Ob):=
 ((match res.1 with
  | [v]=>FH ρ d v
  |vs=>.tup (vs.map (FH ρ d)),(res.2.filter λp=>decide (p.1<64)).map λp=>(d*64+p.1,p.2)),(res.2.filter λp=>decide (64<=p.1)).map λp=>(rn ρ d p.1,tW ρ d p.2))
def JM(g:Nat->Option Ob):AV->Bool
 | .arr o=>(g o).isSome
 | .row o _=>(g o).isSome
 |_=>true
def JF(g:Nat->Option Ob):AV->Bool
 | .agg cs=>cs.all (JM g)
 |v=>JM g v
def rsC(g:Nat->Option Ob):AV->Bool
 | .box o _=>match g o with
  |some (.cells cs)=>cs.all (JM g)
  |_=>false
 |_=>true
def UO(g:Nat->Option Ob):AV->Bool
 | .fn _ caps=>caps.all (rsC g)
 |v=>JF g v
def B6(g:Nat->Option Ob)(o:Nat):Bool:=
 match g o with
 |some (.cells cs)=>cs.all (UO g)
 |some (.arr _ _ _)=>true
 |some (.perm _ _ _ _ _ _)=>true
 |some .spent=>false
 |some (.rows _ _ _ _ h)=>h.isNone
 |none=>false
def pK(E:Env)(g:Nat->Option Ob)(d:Nat)(h:AV)(args:List AV):Tr (QR×List (Nat×Ob)):=
 match h with
 | .fn f caps=>match bW g args (args++caps) (E.lend f) []with
  |some ρ=>if args.all (UO g)&&caps.all (rsC g)&&decide ρ.Nodup&&ρ.all (B6 g)then
    match E.call f (args.map (S4 ρ g)++caps.map (F0 ρ g)) (kC g ρ 64)with
    |some cr=>.c cr.R cr.x λr=>(cr.sp r).bind λe=>
      .g (Cs ρ.length e&&(!(args.any (O6 ρ)||caps.any (nM ρ g))|| !(e.1.any O7||e.2.any λp=>oK p.2))) (.l (eW ρ d e))
    |none=>.f
   else .f
  |none=>.f
 | .clo ts r p=>if args.all (JF g)then
   match Tk ts (args.map (V5 [] g))with
   |some hl=>.c r.I (p hl) λy=>.l ((inj r y,[]),[])
   |none=>.f
  else .f
 |_=>.f
structure St where
 fr:List (Nat×AV)
 ob:List (Nat×Ob)
def St.g(s:St):Nat->Option Ob:=aM s.ob
def St.slot(s:St)(i:Nat):AV:=(aM s.fr i).getD .undef
def aKQ:Value->AV
 | .bool b=>.dat .bool b
 | .int k n=>.dat (.int k) n
 | .string s=>.dat .str s.data.toList
 | .slice none 0 0=>.nilsl
 |_=>.undef
def iY(fr:Nat->AV):Operand->AV
 | .tmp t=>fr t
 | .const v=>aKQ v
 | .func f=>.fn f []
 | .global _=>.undef
def zF(len:Nat):Option AV->Option AV->Option (Bool×Nat×Nat)
 |none,none=>some (true,0,len)
 |none,some (.dat (.int _) h)=>some (decide ((0:Int)<=h)&&decide ((h:Int)<=(len:Int)),0,(h:Int).toNat)
 |some (.dat (.int _) l),none=>some (decide ((0:Int)<=l)&&decide ((l:Int)<=(len:Int)),(l:Int).toNat,len)
 |some (.dat (.int _) l),some (.dat (.int _) h)=>some (decide ((0:Int)<=l)&&decide ((l:Int)<=(h:Int))&&decide ((h:Int)<=(len:Int)),(l:Int).toNat,(h:Int).toNat)
 |_,_=>none
def Iu(tt:Nat->TD)(ty:Nat)(x:AV)(lo hi:Option AV):Tr QR:=
 match x,tt ty with
 | .dat (.slice t) l,.sl _ t' _=>if t.size=t'.size then match zF l.length lo hi with
   |some (b,i,j)=>.g b (vq (.dat (.slice t) ((l.take j).drop i)))
   |none=>.f
  else .f
 | .dat .str s,.sc .str=>match zF (List.length (α:=UInt8) s) lo hi with
  |some (b,i,j)=>.g b (vq (.dat .str ((List.take (α:=UInt8) j s).drop i)))
  |none=>.f
 |_,_=>.f
def qB(tt:Nat->TD)(g:Nat->Option Ob)(ty:Nat)(x:AV)(lo hi:Option AV):Tr QR:=
 match x,lo,hi with
 | .arr o,none,some (.dat (.int _) n)=>match tt ty,g o with
  | .sl _ t0 _,some (.rows _ _ _ l none)=>if t0.size=1 then .g (decide ((0:Int)<=n)&&decide ((n:Int)<=(l.length:Int))) (vq (.pre o (n:Int).toNat))else .f
  |_,_=>.f
 | .arr o,some (.dat (.int _) n),none=>match tt ty,g o with
  | .sl _ t0 _,some (.rows _ _ _ l none)=>if t0.size=1 then .g (decide ((0:Int)<=n)&&decide ((n:Int)<=(l.length:Int))) (vq (.suf o (n:Int).toNat 1))else .f
  |_,_=>.f
 |_,_,_=>Iu tt ty x lo hi
def zY{α:Type}:List α->Nat->α->List α
 | [],_,_=>[]
 |_::r,0,y=>y::r
 |x::r,i+1,y=>x::zY r i y
def putCells(cs:List AV)(k:Nat):List AV->List AV
 | []=>cs
 |v::r=>putCells (zY cs k v) (k+1) r
def vC(place:Nat->Option (Nat×Nat)):List (Nat×AV)->List AV->Option (List AV)
 | [],cs=>some cs
 |(i,v)::r,cs=>match place i,cellsOf v with
  |some (off,n),some vs=>if vs.length=n/\off+n<=cs.length then vC place r (putCells cs off vs)else none
  |_,_=>none
def pT:List (Nat×Ty)->Nat->Nat->Option (Nat×Nat)
 | [],_,_=>none
 |(_,t)::_,o,0=>some (o,t.size)
 |(_,t)::r,o,i+1=>pT r (o+t.size) i
def Kn(tt:Nat->TD)(ty:Nat)(ps:List (Nat×AV)):Tr QR:=
 match tt ty with
 | .st t fs=>(Tr.opt (vC (pT fs 0) ps (eF t))).bind λcs=>vq (.agg cs)
 |_=>.f
def oV(t:Ty):Nat->List AV->Option (List t.I)
 |0,[]=>some []
 |0,_=>none
 |n+1,cs=>match gH t (cs.take t.size),oV t n (cs.drop t.size)with
  |some x,some l=>some (x::l)
  |_,_=>none
def mA(tt:Nat->TD)(d:Nat)(ty n:Nat)(ps:List (Nat×AV)):Tr QR:=
 match tt ty with
 | .sl e t _=>if n<=4096/\t.size<=4096 then
   (Tr.opt (vC (λi=>some (i*t.size,t.size)) ps (List.flatMap (fI t) (List.replicate n t.dflt)))).bind λcs=>(Tr.opt (oV t n cs)).bind λl=>.l (.arr d,[(d,.arr e t l)])else .f
 |_=>.f
def qU(tt:Nat->TD)(ty n:Nat)(ps:List (Nat×AV)):Tr AV:=
 match tt ty with
 | .sl _ t _=>if n<=4096/\t.size<=4096 then
   (Tr.opt (vC (λi=>some (i*t.size,t.size)) ps (List.flatMap (fI t) (List.replicate n t.dflt)))).bind λcs=>(Tr.opt (oV t n cs)).bind λl=>.l (.dat (.slice t) l)else .f
 |_=>.f
def rA(tt:Nat->TD)(g:Nat->Option Ob)(d:Nat)(ty n:Nat)(ps:List (Nat×AV)):Tr QR:=
 match tt ty,n,ps with
 | .sl e te _,1,[(0,.arr p)]=>match tt e,g p with
  | .sl e2 t _,some (.arr e3 t3 _)=>if te.size=1/\e3=e2/\(Ty.eq? t3 t).isSome=true then .l (.arr d,[(d,.rows e e2 t [[]] (some (0,some p)))])else .f
  |_,_=>.f
 |_,_,_=>mA tt d ty n ps
def Mv(tt:Nat->TD)(d:Nat)(ty:Nat):AV->AV->Tr QR
 | .dat (.int _) l,.dat (.int _) c=>match tt ty with
  | .sl e t b=>.g (decide ((0:Int)<=l)&&decide ((l:Int)<=c)&&decide ((b:Int)*c<=281474976710656)) (if 0<b then .l (.arr d,[(d,.arr e t (List.replicate (l:Int).toNat t.dflt))])else .f)
  |_=>.f
 |_,_=>.f
def yX(tt:Nat->TD)(ty i:Nat):AV->Tr QR
 | .box o k=>match vA tt ty i with
  |some (_,off)=>vq (.box o (k+off))
  |none=>.f
 | .ptr cs=>match vA tt ty i with
  |some (_,off)=>if off<cs.length then vq (.ptr (cs.drop off))else .f
  |none=>.f
 | .elt o j z=>match vA tt ty i with
  |some (_,off)=>vq (.fld o j z off)
  |none=>.f
 |_=>.f
def oB(g:Nat->Option Ob)(t:Ty):AV->Option (List t.I)
 | .dat (.slice t') l=>Ty.cast (.slice t') (.slice t) l
 | .nilsl=>some []
 | .arr o=>match g o with
  |some (.arr _ t' l)=>Ty.cast (.slice t') (.slice t) l
  |_=>none
 |_=>none
def lR(l:List Int):List UInt8:=l.map λn=>UInt8.ofNat n.toNat
def I2(tt:Nat->TD)(g:Nat->Option Ob)(s d:Nat):AV->Tr QR
 | .dat (.int _) n=>match tt s,tt d with
  | .sc (.int _),.sc (.int k)=>iq k (k.wrap n)
  |_,_=>.f
 |x=>match oB g (.int .u8) x,tt s,tt d with
  |some l,.sl e _ _,.sc .str=>match tt e with
   | .sc (.int .u8)=>vq (.dat .str (lR l))
   |_=>.f
  |_,_,_=>.f
def TJ:AV->AV->AV->Tr QR
 | .dat .bool b,x,y=>.t b (vq x) (vq y)
 |_,_,_=>.f
def Kp(tt:Nat->TD)(ty:Nat):Option (List AV):=
 match tt ty with
 | .sc t=>some (eF t)
 | .sl _ _ _=>some [.nilsl]
 | .st t _=>some (eF t)
 | .no=>none
def zI(mx:Bool):List AV->Tr QR
 | [.dat (.int k) a,.dat (.int k') b]=>if k=k' then iq k (if mx then(if(a:Int)<b then b else a)else(if(b:Int)<a then b else a))else .f
 |_=>.f
def r7(neq:Bool)(g:Nat->Option Ob):AV->Tr QR
 | .nilsl=>bq (!neq)
 | .dat (.slice _) l=>.g (decide (0<l.length)) (bq neq)
 | .arr o=>match g o with
  |some (.arr _ _ l)=>.g (decide (0<l.length)) (bq neq)
  |_=>.f
 |_=>.f
def I4(tt:Nat->TD)(g:Nat->Option Ob)(op:BinOp)(ty:Nat)(x y:AV):Tr QR:=
 match y,op,tt ty with
 | .nilsl,.eql,.sl _ _ _=>r7 false g x
 | .nilsl,.neq,.sl _ _ _=>r7 true g x
 |y,op,_=>aGr tt op ty x y
def aq(tt:Nat->TD)(g:Nat->Option Ob)(f:Operand->AV)(o:Oper):Tr QR:=
 match o.op,o.dst with
 | .move x,some _=>vq (f x)
 | .assign x,some _=>vq (f x)
 | .pick c a b,some _=>TJ (f c) (f a) (f b)
 | .binOp op ty x y _,some _=>I4 tt g op ty (f x) (f y)
 | .unOp op _ x,some _=>aun op (f x)
 | .convert s d x,some _=>I2 tt g s d (f x)
 | .box _ x,some d=>(Tr.opt (cellsOf (f x))).bind λcs=>.l (.box d 0,[(d,.cells cs)])
 | .alloc e,some d=>(Tr.opt (Kp tt e)).bind λcs=>.l (.box d 0,[(d,.cells cs)])
 | .load ty x,some _=>pE tt g ty (f x)
 | .nilCheck x,some _=>match f x with
  | .box o k=>vq (.box o k)
  | .ptr cs=>vq (.ptr cs)
  |_=>.f
 | .fieldAddr ty x i,some _=>yX tt ty i (f x)
 | .indexAddr ty x i,some _=>kS tt g ty (f x) (f i)
 | .index ty x i,some _=>X6 tt ty (f x) (f i)
 | .extract x i,some _=>match f x with
  | .tup vs=>(Tr.opt (aQ vs i)).bind vq
  |_=>.f
 | .slice ty x lo hi none,some _=>qB tt g ty (f x) (lo.map f) (hi.map f)
 | .build ty ps,some _=>Kn tt ty (ps.toList.map λp=>(p.1,f p.2))
 | .buildSlice ty n ps,some d=>rA tt g d ty n (ps.toList.map λp=>(p.1,f p.2))
 | .makeSlice ty l c,some d=>Mv tt d ty (f l) (f c)
 | .makeFunc (.func k) first caps,some _=>if first.size=0 then vq (.fn k (caps.toList.map f))else if caps.size=0 then vq (.bnd k (first.toList.map λx=>Fd (f x)))else .f
 | .call {callee:=.builtin .len,args:=as,argTypes:=ts},some _=>match as.toList,ts.toList with
  | [x],[ty]=>n8 tt g ty (f x)
  |_,_=>.f
 | .call {callee:=.builtin .min,args:=as,..},some _=>zI false (as.toList.map f)
 | .call {callee:=.builtin .max,args:=as,..},some _=>zI true (as.toList.map f)
 |_,_=>.f
def mI(o:Nat)(d:AV):AV->AV
 | .arr p=>match Nat.beq p o with
  |true=>d
  |false=>.arr p
 | .row p i=>match Nat.beq p o with
  |true=>.undef
  |false=>.row p i
 | .relt p i n s=>match Nat.beq p o with
  |true=>.undef
  |false=>.relt p i n s
 | .elt p i s=>match Nat.beq p o with
  |true=>.undef
  |false=>.elt p i s
 | .fld p i s k=>match Nat.beq p o with
  |true=>.undef
  |false=>.fld p i s k
 | .suf p i s=>match Nat.beq p o with
  |true=>.undef
  |false=>.suf p i s
 | .pre p i=>match Nat.beq p o with
  |true=>.undef
  |false=>.pre p i
 | .box p k=>match Nat.beq p o with
  |true=>.undef
  |false=>.box p k
 | .dat t v=>.dat t v
 | .nilsl=>.nilsl
 | .clo ts r p=>.clo ts r p
 | .fn f []=>.fn f []
 |_=>.undef
def Tt(o:Nat)(d:AV):AV->AV
 | .ptr cs=>.ptr (cs.map (mI o d))
 |v=>mI o d v
def Ek(o:Nat)(d:AV):AV->AV
 | .agg cs=>.agg (cs.map (mI o d))
 | .fn f caps=>.fn f (caps.map (Tt o d))
 | .bnd f fs=>.bnd f (fs.map Fd)
 |v=>Tt o d v
def yN(o:Nat)(d:AV):AV->AV
 | .tup vs=>.tup (vs.map (Ek o d))
 |v=>Ek o d v
def XY(o:Nat):Option (Nat×Option Nat)->Option (Nat×Option Nat)
 |some (i,some d)=>match Nat.beq d o with
  |true=>some (i,none)
  |false=>some (i,some d)
 |h=>h
def fW(o:Nat)(d:AV):Ob->Ob
 | .rows e e2 t l h=>.rows e e2 t l (XY o h)
 | .cells cs=>.cells (cs.map (Ek o d))
 |x=>x
def St.swap(s:St)(o:Nat)(d:AV)(w:List (Nat×Ob)):St:=
 {fr:=s.fr.map λp=>(p.1,yN o d p.2),ob:=w++(s.ob.filter λp=> !(Nat.beq p.1 o)).map λp=>(p.1,fW o d p.2)}
def holds(d:Nat):Ob->Bool
 | .rows _ _ _ _ (some (_,some d'))=>Nat.beq d' d
 |_=>false
def St.freeze(s:St)(d:Nat):St:=
 match s.g d with
 |some (.arr e t l)=>match s.ob.find? (λp=>holds d p.2)with
  |some p=>match s.g p.1 with
   |some (.rows e1 e2 t2 l2 (some (i,some d')))=>match Nat.beq d' d,Nat.beq e2 e,Ty.cast (.slice t) (.slice t2) l with
    |true,true,some l'=>s.swap d .undef [(p.1,.rows e1 e2 t2 (l2.set i l') none)]
    |_,_,_=>s
   |_=>s
  |none=>s.swap d (.dat (.slice t) l) []
 |some (.rows _ _ t l none)=>s.swap d (.dat (.slice (.slice t)) l) []
 |some (.perm _ _ _ t ix l)=>s.swap d (.dat (.slice (.slice t)) (bI ix l)) []
 |_=>s
def St.kill(s:St)(p:Nat):St:= {fr:=s.fr.map λq=>(q.1,yN p (.arr p) q.2),ob:=s.ob.map λq=>(q.1,fW p (.arr p) q.2)}
def St.kills(s:St)(l:List Nat):St:=l.foldl St.kill s
def St.take(s:St)(k d:Nat):St:=
 match s.slot k with
 | .row p i=>match s.g p,s.g d with
  |some (.rows e e2 t l none),none=>if d≠p then{fr:=(k,.arr d)::s.fr,ob:=(d,.arr e2 t (l.getD i []))::(p,.rows e e2 t l (some (i,some d)))::s.ob}else s
  |_,_=>s
 |_=>s
def uY(g:Nat->Option Ob)(p:Nat×Ob):Bool:=match p.2 with
 | .rows _ _ _ _ (some _)=>false
 | .perm false _ _ _ _ _=>false
 |_=>match g p.1 with
  |some (.rows _ _ _ _ _)=>true
  |some (.perm _ _ _ _ _ _)=>true
  |_=>false
def cT(g:Nat->Option Ob)(objs:List (Nat×Ob)):List Nat:=(objs.filter (uY g)).map (·.1)
def W5:AV->List Nat
 | .arr o=>[o]
 | .agg cs=>cs.flatMap fun| .arr o=>[o]|_=>[]
 |_=>[]
def St.backR(s:St)(o p:Nat):St:=
 match s.g o,s.g p with
 |some (.rows e1 e2 t2 l2 (some (i,some d'))),some (.arr e t l)=>match Nat.beq d' p,Nat.beq e2 e,Ty.cast (.slice t) (.slice t2) l with
  |true,true,some l'=>s.swap p (.row o i) [(o,.rows e1 e2 t2 (l2.set i l') none)]
  |_,_,_=>s.freeze p
 |_,_=>s.freeze p
def St.freezes(s:St)(l:List Nat):St:=l.foldl St.freeze s
def St.drop(s:St)(p:Nat):St:=s.swap p .undef []
def St.perm(s:St)(o:Nat):St:=
 match s.g o with
 |some (.rows e e2 t l none)=>s.swap o (.arr o) [(o,.perm false e e2 t (List.range l.length) l)]
 |_=>s
def St.perms(s:St)(l:List Nat):St:=l.foldl St.perm s
def St.pull(s:St)(k d:Nat):St:=
 match s.slot k with
 | .row p i=>match s.g p,s.g d with
  |some (.perm _ _ e2 t _ l),none=> {fr:=(k,.arr d)::(s.swap p .undef []).fr,ob:=(d,.arr e2 t (l.getD i []))::(s.swap p .undef []).ob}
  |some (.rows _ e2 t l none),none=> {fr:=(k,.arr d)::(s.swap p .undef []).fr,ob:=(d,.arr e2 t (l.getD i []))::(s.swap p .undef []).ob}
  |_,_=>s
 |_=>s
def St.ahead(s0 s:St):List Nat->St
 | []=>s
 |k::r=>St.ahead s0 (match Nat.ble 2000000 k with
  |true=>match Nat.ble 4000000 k with
   |true=>match Nat.ble 80000000 k with
    |true=>s.perms (W5 (s0.slot (k-80000000)))
    |false=>s.drop (k-5000000)
   |false=>s.take (k-2000000) (k-1500000)
  |false=>s.freezes (W5 (s0.slot k))) r
def one:AV->Bool
 | .undef=>false
 | .skip=>false
 | .agg _=>false
 | .tup _=>false
 |_=>true
structure LU where
 d:Option (Nat×AV)
 und:Option Nat
 objs:List (Nat×Ob)
def St.app(s:St)(u:LU):St:=
 {fr:=match u.d with
   |some p=>p::(match u.und with|some b=>(b,.undef)::s.fr|none=>s.fr)
   |none=>s.fr
  ob:=u.objs++s.ob}
def pR(tt:Nat->TD)(g:Nat->Option Ob)(ty:Nat)(a v:AV):Tr LU:=
 match a with
 | .box o k=>match g o,cellsOf v,kJ tt ty with
  |some (.cells cs),some vs,some sz=>if vs.length=sz.1/\k+vs.length<=cs.length/\vs.all one=true then .l ⟨none,none,[(o,.cells (putCells cs k vs))]⟩else .f
  |_,_,_=>.f
 | .elt o i z=>match g o,kJ tt ty with
  |some (.arr e t l),some sz=>if sz.1=t.size/\z=t.size then match NL t v with
    |some x=>.g (decide (i<l.length)) (.l ⟨none,none,[(o,.arr e t (l.set i x))]⟩)
    |none=>.f
   else .f
  |some (.perm _ e e2 t ix l),some sz=>if sz.1=1/\z=1 then match v with
    | .row p j=>if p=o then .g (decide (i<ix.length)) (.l ⟨none,none,[(o,.perm false e e2 t (ix.set i j) l)]⟩)else .f
    |_=>.f
   else .f
  |_,_=>.f
 |_=>.f
def gS(tt:Nat->TD)(g:Nat->Option Ob)(d ty p i:Nat)(x:AV):Tr LU:=
 match tt ty,g p,g d with
 | .sl e t b,some (.rows e1 e2 t2 l none),none=>match oB g t x,Ty.cast (.slice t2) (.slice t) (l.getD i [])with
  |some src,some r=>if e2=e/\0<b/\d≠p then .g (decide ((r.length+src.length)*b<=140737488355328)) (.l ⟨some (d,.arr d),none,[(d,.arr e t (r++src)),(p,.rows e1 e2 t2 l (some (i,none)))]⟩)else .f
  |_,_=>.f
 |_,_,_=>.f
def W7(tt:Nat->TD)(d:Nat)(ty:Nat)(a x:AV)(s:St):Tr St:=
 match a with
 | .row p i=>(gS tt s.g d ty p i x).bind λu=>.l (s.app u)
 |a=>match tt ty with
 | .sl e t b=>match oB s.g t x with
  |some src=>match a with
   | .arr o=>match s.g o with
    |some (.arr e' t' l)=>match Ty.cast (.slice t') (.slice t) l with
     |some l'=>if e'=e/\0<b then .g (decide ((l'.length+src.length)*b<=140737488355328))
       (.l {fr:=(d,.arr o)::s.fr.map (λp=>(p.1,yN o .undef p.2)),ob:=(o,.arr e t (l'++src))::(s.ob.filter λp=> !(Nat.beq p.1 o)).map λp=>(p.1,fW o .undef p.2)})else .f
     |none=>.f
    |_=>.f
   | .nilsl=>match s.g d with
    |none=>if 0<b then .g (decide (src.length*b<=140737488355328)) (.l {fr:=(d,.arr d)::s.fr,ob:=(d,.arr e t src)::s.ob})else .f
    |some _=>.f
   |_=>.f
  |none=>.f
 |_=>.f
def mL(tt:Nat->TD)(g:Nat->Option Ob)(d ty:Nat)(b:Nat)(a x:AV):Tr LU:=
 match tt ty with
 | .sl e t by'=>match oB g t x with
  |some src=>match a with
   | .arr o=>match g o with
    |some (.arr e' t' l)=>match Ty.cast (.slice t') (.slice t) l with
     |some l'=>if e'=e/\0<by' then .g (decide ((l'.length+src.length)*by'<=140737488355328)) (.l ⟨some (d,.arr o),some b,[(o,.arr e t (l'++src))]⟩)else .f
     |none=>.f
    |_=>.f
   |_=>.f
  |none=>.f
 |_=>.f
def jD(g:Nat->Option Ob)(l:List (Nat×Ob)):Bool:=l.all (λp=>match g p.1 with|none=>true|some _=>false)&&decide (l.map (·.1)).Nodup
def vF(E:Env)(tt:Nat->TD)(g:Nat->Option Ob)(f:Operand->AV)(o:Oper):Tr LU:=
 match o.op,o.dst with
 | .store ty a v,none=>pR tt g ty (f a) (f v)
 | .call {callee:=.builtin .append,args:=as,argTypes:=ts},some d=>match as.toList,ts.toList with
  | [.tmp b,y],[ty,ty']=>if ty=ty' then match f (.tmp b)with
    | .row p i=>gS tt g d ty p i (f y)
    |a=>mL tt g d ty b a (f y)
   else .f
  |_,_=>.f
 | .call {callee:=.value h,args:=as,..},some d=>(pK E g d (f h) (as.toList.map f)).bind λr=>if jD g r.1.2 then .l ⟨some (d,r.1.1),none,r.1.2++r.2⟩else .f
 |_,some d=>(aq tt g f o).bind λq=>if jD g q.2 then .l ⟨some (d,q.1),none,q.2⟩else .f
 |_,none=>.f
def wM(E:Env)(tt:Nat->TD)(g:Nat->Option Ob)(f:Operand->AV)(o:Oper):Bool->Tr LU
 |false=>vF E tt g f o
 |true=>match o.op,o.dst with
  | .buildSlice ty n ps,some d=>(qU tt ty n (ps.toList.map λp=>(p.1,f p.2))).bind λv=>.l ⟨some (d,v),none,[]⟩
  | .move (.tmp b),some d=>.l ⟨some (d,f (.tmp b)),some b,[]⟩
  |_,_=>.f
def fJ(o:Oper):Bool:=
 match o.op with
 | .call {callee:=.builtin .append,..}=>true
 |_=>false
def V6(tt:Nat->TD)(ty:Nat)(av vv:AV)(s:St):Option (Tr St):=
 match av with
 | .relt o i n z=>some (match s.g o,kJ tt ty with
  |some (.rows e e2 t l none),some sz=>if sz.1=t.size/\z=t.size then match NL t vv with
    |some x=>.g (decide (n<(l.getD i []).length)) (.l (s.app ⟨none,none,[(o,.rows e e2 t (l.set i ((l.getD i []).set n x)) none)]⟩))
    |none=>.f
   else .f
  |_,_=>.f)
 |_=>none
def vP(tt:Nat->TD)(ty:Nat)(av vv:AV)(s:St):Option (Tr St):=
 match av,vv with
 | .elt p i z,.arr q=>match s.g p,s.g q with
  |some (.rows e e2 t l h),some (.arr e3 t3 _)=>some (match kJ tt ty with
   |some sz=>if sz.1=1/\z=1/\p≠q/\e3=e2/\(Ty.eq? t3 t).isSome=true then match h with
     |none=>.g (decide (i<l.length)) (.l (((s.kill p).app ⟨none,none,[(p,.rows e e2 t l (some (i,some q)))]⟩).freeze q))
     |some (i',none)=>.g (decide (i<l.length)&&decide (i=i')) (.l (((s.kill p).app ⟨none,none,[(p,.rows e e2 t l (some (i,some q)))]⟩).freeze q))
     |some (_,some _)=>.f
    else .f
   |none=>.f)
  |_,_=>none
 |_,_=>none
def x9(tt:Nat->TD)(ty:Nat)(nv cv:AV)(d:Nat)(s:St):Tr St:=
 match nv,cv,tt ty,s.g d with
 | .dat (.int _) n,.dat (.int _) c,.sl e te b,none=>match tt e with
  | .sl e2 t _=>if te.size=1/\0<b then .g (decide ((0:Int)<=n)&&decide ((n:Int)<=c)&&decide ((b:Int)*c<=281474976710656)) (.l {fr:=(d,.arr d)::s.fr,ob:=(d,.rows e e2 t (List.replicate (n:Int).toNat []) none)::s.ob})else .f
  |_=>.f
 |_,_,_,_=>.f
def vZ(tt:Nat->TD)(ty n:Nat)(ps:List (Nat×AV))(d:Nat)(s:St):Tr St:=
 match tt ty,s.g d,n,ps with
 | .sl e te _,none,0,[]=>match tt e with
  | .sl e2 t _=>if te.size=1 then .l {fr:=(d,.arr d)::s.fr,ob:=(d,.rows e e2 t [] none)::s.ob}else .f
  |_=>.f
 | .sl e te _,none,1,[(0,.arr p)]=>match tt e,s.g p with
  | .sl e2 t _,some (.arr e3 t3 _)=>if te.size=1/\e3=e2/\(Ty.eq? t3 t).isSome=true/\d≠p then .l {fr:=(d,.arr d)::s.fr,ob:=(d,.rows e e2 t [[]] (some (0,some p)))::s.ob}else .f
  |_,_=>.f
 |_,_,_,_=>.f
def CM(s:St)(d o q p e e2:Nat)(t:Ty)(l:List (List t.I)):St:=
 ({fr:=(d,.arr o)::((s.swap q .undef []).swap o .undef []).fr,ob:=(o,.rows e e2 t (l++ [[]]) (some (l.length,some p)))::((s.swap q .undef []).swap o .undef []).ob}:St).backR o p
def Ni(s:St)(d o q e e2:Nat)(t:Ty)(l:List (List t.I)):St:=
 {fr:=(d,.arr q)::((s.swap o .undef []).swap q .undef []).fr,ob:=(q,.rows e e2 t l none)::((s.swap o .undef []).swap q .undef []).ob}
def yS(tt:Nat->TD)(ty ty' d:Nat)(xv yv:AV)(s:St):Option (Tr St):=
 match yv with
 | .arr q=>match s.g q with
  |some (.rows eq e4 t' lq h)=>match h with
   |some (0,some p)=>match lq with
    | [_]=>some (match tt ty,xv with
     | .sl e te b,.arr o=>match s.g o with
      |some (.rows e1 e2 t l none)=>if ty=ty'/\e1=e/\eq=e/\te.size=1/\0<b/\o≠q/\o≠p/\p≠q then .g (decide ((l.length+1)*b<=140737488355328)) (.l (CM s d o q p e1 e2 t l))else .f
      |_=>.f
     |_,_=>.f)
    |_=>none
   |none=>match tt ty,xv with
    | .sl e te b,.arr o=>match s.g o with
     |some (.rows e1 e2 t l none)=>some (match Ty.cast (.slice (.slice t')) (.slice (.slice t)) lq with
      |some l2=>if ty=ty'/\e1=e/\eq=e/\e4=e2/\te.size=1/\0<b/\o≠q then .g (decide ((l.length+List.length (α:=List t.I) l2)*b<=140737488355328)) (.l (Ni s d o q e1 e2 t (l++l2)))else .f
      |none=>.f)
     |_=>none
    |_,_=>none
   |_=>none
  |_=>none
 |_=>none
def Lr(tt:Nat->TD)(ty:Nat)(xv hv:AV)(d:Nat)(s:St):Option (Tr St):=
 match xv,hv with
 | .arr o,.dat (.int _) n=>match tt ty,s.g o with
  | .sl e0 t0 _,some (.perm _ e e2 t ix l)=>some (if e0=e/\t0.size=1 then .g (decide ((0:Int)<=n)&&decide ((n:Int)<=(ix.length:Int))) (.l {fr:=(d,.arr o)::s.fr.map (λp=>(p.1,yN o .undef p.2)),ob:=(o,.perm false e e2 t (ix.take (n:Int).toNat) l)::(s.ob.filter λp=> !(Nat.beq p.1 o)).map λp=>(p.1,fW o .undef p.2)})else .f)
  |_,_=>none
 |_,_=>none
def aFV(tt:Nat->TD)(ty:Nat)(xv lv:AV)(d:Nat)(s:St):Option (Tr St):=
 match xv,lv with
 | .arr o,.dat (.int _) n=>match tt ty,s.g o with
  | .sl _ t0 _,some (.perm _ _ _ _ ix _)=>some (if t0.size=1 then .g (decide ((0:Int)<=n)&&decide ((n:Int)<=(ix.length:Int))) (.l {fr:=(d,.suf o (n:Int).toNat 1)::s.fr,ob:=s.ob})else .f)
  |_,_=>none
 |_,_=>none
def Lf(tt:Nat->TD)(ty:Nat)(xv:AV)(s:St):Option (Tr St):=
 match xv with
 | .suf o i z=>match tt ty,s.g o with
  | .sl e0 t0 _,some (.perm _ e e2 t ix l)=>some (match t0 with
   | .slice _=>if e0=e/\z=1 then .l {fr:=s.fr,ob:=(o,.perm false e e2 t (ix.take i++List.replicate (ix.length-i) l.length) l)::s.ob}else .f
   |_=>.f)
  |_,_=>none
 |_=>none
def aDP(tt:Nat->TD)(ty d:Nat)(xv yv:AV)(s:St):Option (Tr St):=
 match xv,yv with
 | .pre o i,.suf p j z=>match Nat.beq p o,tt ty,s.g o with
  |true,.sl e0 t0 b,some (.rows e e2 t l none)=>some (if e0=e/\t0.size=1/\z=1/\0<b then .g (decide (i<=j)&&decide ((i+(l.length-j))*b<=140737488355328)) (.l {fr:=(d,.arr o)::s.fr.map (λp=>(p.1,yN o .undef p.2)),ob:=(o,.rows e e2 t (l.take i++l.drop j) none)::(s.ob.filter λp=> !(Nat.beq p.1 o)).map λp=>(p.1,fW o .undef p.2)})else .f)
  |_,_,_=>none
 |_,_=>none
def Gr(tt:Nat->TD)(m:Bool)(o:Oper)(s:St):Option (Tr St):=
 match o.op,o.dst with
 | .store ty a v,none=>match V6 tt ty (iY s.slot a) (iY s.slot v) s with
  |some r=>some r
  |none=>vP tt ty (iY s.slot a) (iY s.slot v) s
 | .makeSlice ty n c,some d=>match m with
  |true=>some (x9 tt ty (iY s.slot n) (iY s.slot c) d s)
  |false=>none
 | .buildSlice ty n ps,some d=>match m with
  |true=>some (vZ tt ty n (ps.toList.map λp=>(p.1,iY s.slot p.2)) d s)
  |false=>none
 | .call {callee:=.builtin .append,args:=as,argTypes:=ts},some d=>match as.toList,ts.toList with
  | [x,y],[ty,ty']=>match Nat.beq ty ty' with
   |true=>match aDP tt ty d (iY s.slot x) (iY s.slot y) s with
    |some r=>some r
    |none=>yS tt ty ty' d (iY s.slot x) (iY s.slot y) s
   |false=>yS tt ty ty' d (iY s.slot x) (iY s.slot y) s
  |_,_=>none
 | .slice ty x none (some h) none,some d=>Lr tt ty (iY s.slot x) (iY s.slot h) d s
 | .slice ty x (some l) none none,some d=>aFV tt ty (iY s.slot x) (iY s.slot l) d s
 | .call {callee:=.builtin .clear,args:=as,argTypes:=ts},none=>match as.toList,ts.toList with
  | [x],[ty]=>Lf tt ty (iY s.slot x) s
  |_,_=>none
 |_,_=>none
def aop(E:Env)(tt:Nat->TD)(fz:Nat->List Nat)(o:Oper)(i:Nat)(s0:St):Tr St:=
 let s:=St.ahead s0 s0 (fz i)
 match(fz i).any (Nat.beq 140000000)with
 |true=>.f
 |false=>
 match Gr tt ((fz i).any (Nat.beq 1000000)) o s with
 |some r=>r
 |none=>match fJ o with
 |true=>match o.op,o.dst with
  | .call {callee:=.builtin .append,args:=as,argTypes:=ts},some d=>match as.toList,ts.toList with
   | [x,y],[ty,ty']=>if ty=ty' then W7 tt d ty (iY s.slot x) (iY s.slot y) s else .f
   |_,_=>.f
  |_,_=>.f
 |false=>(vF E tt s.g (iY s.slot) o).bind λu=>.l ((s.kills (cT s.g u.objs)).app u)
def tF(E:Env)(tt:Nat->TD)(fz:Nat->List Nat)(ops:Nat->Option Oper):List Oper->Nat->St->Tr St
 | [],_,s=>.l s
 |o::r,i,s=>
  match o.guard with
  |none=>(aop E tt fz o i s).bind (tF E tt fz ops r (i+1))
  |some (j,want)=>match(ops j).bind (·.dst)with
   |some dj=>match s.slot dj with
    | .dat .bool b=>
     let sk (b':Bool):Tr St:=match o.dst with
      |some d=>tF E tt fz ops r (i+1) {s with fr:=(d,.skip)::(dj,.dat .bool b')::s.fr}
      |none=>tF E tt fz ops r (i+1) {s with fr:=(dj,.dat .bool b')::s.fr}
     let go (b':Bool):Tr St:=(aop E tt fz o i {s with fr:=(dj,.dat .bool b')::s.fr}).bind (tF E tt fz ops r (i+1))
     match want with
     |true=>.t b (go true) (sk false)
     |false=>.t b (sk true) (go false)
    | .skip=>match o.dst with
     |some d=>tF E tt fz ops r (i+1) {s with fr:=(d,.skip)::s.fr}
     |none=>tF E tt fz ops r (i+1) s
    |_=>.f
   |none=>.f
def bP(o:Oper):List Nat:=(o.after.toList.filter (Region.binds .any)).map (·.on)
def nI(ops:List Oper)(p:Nat):Bool:=
 (List.range ops.length).all (λi=>match aQ ops i with
  |some o=> !Nat.blt p i||(bP o).any (Nat.beq (i-1))
  |none=>true)&&
 (Nat.beq p ops.length||(List.range p).all λi=>(List.range (p+1)).any λj=>Nat.blt i j&&match aQ ops j with
  |some o=>(bP o).any (Nat.beq i)
  |none=>false)
def JB(ops:List Oper):Bool:=
 (List.range ops.length).all (λi=>match aQ ops i with
  |some o=>(bP o).all λe=>Nat.blt e i
  |none=>true)
def B9(f:Nat->Bool):Nat->Nat->Nat
 |0,i=>i
 |n+1,i=>match f i with
  |true=>i
  |false=>B9 f n (i+1)
def jJ(ops:List Oper):Nat:=B9 (nI ops) ops.length 0
def dd:List Nat->Nat->List Nat
 | [],_=>[]
 |x::l,m=>match Nat.beq (Nat.land (Nat.shiftRight m x) 1) 1 with
  |true=>dd l m
  |false=>x::dd l (Nat.lor m (Nat.shiftLeft 1 x))
def wQ:List Oper->List (List Nat)->List (List Nat)
 | [],acc=>acc
 |o::r,acc=>wQ r (acc++ [dd (bP o++(bP o).flatMap λj=>(aQ acc j).getD []) 0])
def LU.touch(u:LU):List Nat:=match u.d with
 |some p=>p.1::(match u.und with|some b=>[b]|none=>[])
 |none=>[]
def LU.ids(u:LU):List Nat:=u.objs.map (·.1)
def fO:AV->List Nat
 | .arr o=>[o]
 | .box o _=>[o]
 | .elt o _ _=>[o]
 | .fld o _ _ _=>[o]
 | .row o _=>[o]
 | .relt o _ _ _=>[o]
 | .suf o _ _=>[o]
 | .pre o _=>[o]
 |_=>[]
def Mw:AV->List Nat
 | .ptr cs=>cs.flatMap fO
 | .agg cs=>cs.flatMap fO
 |v=>fO v
def A4:AV->List Nat
 | .agg cs=>cs.flatMap fO
 | .fn _ caps=>caps.flatMap Mw
 |v=>Mw v
def Qo:Ob->List Nat
 | .cells cs=>cs.flatMap A4
 | .perm _ _ _ _ _ _=>[]
 | .spent=>[]
 | .rows _ _ _ _ h=>match h with
  |some (_,some d)=>[d]
  |_=>[]
 | .arr _ _ _=>[]
def DT(g:Nat->Option Ob):Nat->List Nat->List Nat
 |0,l=>l
 |n+1,l=>l++DT g n (l.flatMap λo=>match g o with|some x=>Qo x|none=>[])
def has(l:List Nat)(n:Nat):Bool:=l.any (Nat.beq n)
def Pk(l m:List Nat):Bool:=l.all λx=> !has m x
def Ih(o:Nat):AV->Bool
 | .arr p=> !Nat.beq p o
 | .elt p _ _=> !Nat.beq p o
 | .fld p _ _ _=> !Nat.beq p o
 | .row p _=> !Nat.beq p o
 | .relt p _ _ _=> !Nat.beq p o
 | .suf p _ _=> !Nat.beq p o
 | .pre p _=> !Nat.beq p o
 | .box p _=> !Nat.beq p o
 | .dat _ _=>true
 | .nilsl=>true
 | .undef=>true
 | .clo _ _ _=>true
 | .fn _ []=>true
 |_=>false
def clC(o:Nat):AV->Bool
 | .ptr cs=>cs.all (Ih o)
 |v=>Ih o v
def UP(o:Nat):AV->Bool
 | .agg cs=>cs.all (Ih o)
 | .fn _ caps=>caps.all (clC o)
 |v=>clC o v
def SD(o:Nat):AV->Bool
 | .tup vs=>vs.all (UP o)
 | .skip=>true
 |v=>UP o v
def Ev(o:Nat):Ob->Bool
 | .cells cs=>cs.all (UP o)
 | .perm _ _ _ _ _ _=>true
 | .spent=>true
 | .rows _ _ _ _ h=>match h with
  |some (_,some d)=> !Nat.beq d o
  |_=>true
 | .arr _ _ _=>true
def oP(g:Nat->Option Ob)(l:List Nat):Bool:=l.all λo=>match g o with|some x=>(Qo x).all (has l)|none=>true
def sG(o:Oper):Bool:=
 match o.op with
 | .load .. =>true
 | .fieldAddr .. =>true
 |_=>false
def rH(g:Nat->Option Ob)(sl:Nat->AV)(o:Oper):List Nat:=DT g (match sG o with|true=>0|false=>3) (o.op.operands.toList.flatMap λx=>A4 (iY sl x))
def mG(E:Env)(tt:Nat->TD)(ops:Nat->Option Oper)(ds:Nat->Bool):List Oper->St->List (LU×List Nat)->Tr (St×List (LU×List Nat))
 | [],s,acc=>.l (s,acc)
 |o::r,s,acc=>
  let run (s:St):Tr (St×List (LU×List Nat)):=(wM E tt s.g (iY s.slot) o (ds acc.length)).bind λu=>match(sG o||oP s.g (rH s.g s.slot o))&&(cT s.g u.objs).isEmpty with
   |true=>mG E tt ops ds r (s.app u) (acc++ [(u,rH s.g s.slot o)])
   |false=>.f
  let skip (s:St):Tr (St×List (LU×List Nat)):=let u:LU:=⟨o.dst.map λd=>(d,.skip),none,[]⟩;mG E tt ops ds r (s.app u) (acc++ [(u,[])])
  match o.guard with
  |none=>run s
  |some (j,want)=>match(ops j).bind (·.dst)with
   |some dj=>match s.slot dj with
    | .dat .bool b=>match want with
     |true=>.t b (run {s with fr:=(dj,.dat .bool true)::s.fr}) (skip {s with fr:=(dj,.dat .bool false)::s.fr})
     |false=>.t b (skip {s with fr:=(dj,.dat .bool true)::s.fr}) (run {s with fr:=(dj,.dat .bool false)::s.fr})
    | .skip=>skip s
    |_=>.f
   |none=>.f
def yW(ops:List Oper)(o:Oper):List Nat:=
 (o.op.operands.toList.filterMap fun| .tmp t=>some t|_=>none)++
 (match o.guard with
  |some (g,_)=>((aQ ops g).bind (·.dst)).toList
  |none=>[])
def lV(o:Oper):Bool:=
 match o.op with
 | .indexAddr .. =>true
 | .move _=>true
 | .assign _=>true
 | .nilCheck _=>true
 | .call {callee:=.builtin .len,..}=>true
 |_=>false
def qR(o:Oper):Bool:=
 match o.op with
 | .store .. =>true
 |_=>false
def S1(o:Oper):Bool:=
 match o.op with
 | .move _=>true
 | .assign _=>true
 |_=>false
def Vm(ops:List Oper)(tr:List (LU×List Nat))(o:Oper)(x:LU×List Nat):List Nat:=
 match S1 o with
 |true=>[]
 |false=>
 match lV o&&x.2.all (λn=>(List.range tr.length).all λk=>match aQ tr k,aQ ops k with
  |some y,some ok=> !has y.1.ids n||qR ok
  |_,_=>true)with
 |true=>[]
 |false=>x.2
def apart(l l':List Nat)(x y:LU×List Nat):Bool:=
 Pk x.1.touch (l'++y.1.touch)&&Pk y.1.touch l&&Pk x.1.ids (y.2++y.1.ids)&&Pk y.1.ids x.2
def FW(ops:List Oper)(an:List (List Nat))(tr:List (LU×List Nat))(i j:Nat):Bool:=
 match aQ ops i,aQ ops j,aQ tr i,aQ tr j,aQ an j with
 |some oi,some oj,some x,some y,some a=>has a i||apart (yW ops oi) (yW ops oj) (x.1,Vm ops tr oi x) (y.1,Vm ops tr oj y)
 |_,_,_,_,_=>false
def Me(an:List (List Nat))(tr:List (LU×List Nat))(k t:Nat):Bool:=
 match aQ an k with
 |some ak=>(List.range tr.length).any λm=>has ak m&&match aQ tr m with
  |some z=>(match z.1.und with
   |some c=>Nat.beq c t
   |none=>false)
  |none=>false
 |none=>false
def WO(an:List (List Nat))(s:St)(tr:List (LU×List Nat))(k:Nat)(x:LU×List Nat):Bool:=
 match x.1.und with
 |none=>true
 |some b=>x.1.ids.all λo=>
   s.fr.all (λq=>Nat.beq q.1 b||SD o q.2||Me an tr k q.1)&&s.ob.all (λq=>Nat.beq q.1 o||Ev o q.2)&&
   (List.range tr.length).all λn=>match aQ tr n,aQ an n,aQ an k with
    |some y,some a,some ak=>Nat.beq n k||has a k||
     ((match y.1.d with
      |some q=>SD o q.2||Nat.beq q.1 b||(List.range tr.length).any λm=>Nat.blt n m&&has ak m&&match aQ tr m with
       |some z=>match z.1.und with
        |some c=>Nat.beq c q.1
        |none=>false
       |none=>false
      |none=>true)&&y.1.objs.all λq=>Nat.beq q.1 o||Ev o q.2)
    |_,_,_=>false
def P3(ops:List Oper)(p:Nat)(s:St)(tr:List (LU×List Nat)):Bool:=
 let an:=wQ ops []
 JB ops&&(List.range p).all (λj=>(List.range j).all λi=>FW ops an tr i j)&&(List.range p).all λk=>match aQ tr k with
  |some x=>WO an s tr k x
  |none=>false
def BI(E:Env)(tt:Nat->TD)(fz:Nat->List Nat)(ops:Nat->Option Oper)(l:List Oper)(s0:St):Tr St:=
 let p:=jJ l
 let s:=St.ahead s0 s0 (fz 0)
 (mG E tt ops (λi=>(fz 0).any (Nat.beq (60000000+i))) (l.take p) s []).bind λr=>match P3 l p s r.2 with
  |true=>tF E tt fz ops (l.drop p) p r.1
  |false=>.f
inductive Out where
 |normal (s:St)
 |exit (id:Nat) (s:St)
 |ret (s:St)
@[reducible] def Orc:=Nat->St->Option (Tr Out)
def cR(E:Env)(tt:Nat->TD)(fz:Nat->Nat->List Nat)(orc:Orc):Code->St->Tr Out
 | .skip,s=>.l (.normal s)
 | .region id ops draw,s=>(match draw with
  |true=>BI E tt (fz id) (λj=>ops[j]?) ops.toList s
  |false=>tF E tt (fz id) (λj=>ops[j]?) ops.toList 0 s).bind λs'=>.l (.normal s')
 | .seq a b,s=>(cR E tt fz orc a s).bind fun
  | .normal s'=>cR E tt fz orc b s'
  |o=>.l o
 | .cond c a b,s=>match iY s.slot c with
  | .dat .bool v=>.t v (cR E tt fz orc a s) (cR E tt fz orc b s)
  |_=>.f
 | .block id (.loop _),s=>match orc id s with
  |some x=>x
  |none=>.f
 | .block id b,s=>(cR E tt fz orc b s).bind fun
  | .exit i s'=>match Nat.beq i id with
   |true=>.l (.normal s')
   |false=>.l (.exit i s')
  |o=>.l o
 | .exit id,s=>.l (.exit id s)
 | .ret,s=>.l (.ret s)
 |_,_=>.f
inductive Sh where
 |dat (t:Ty)
 |arr (o:Nat)
 |box (o k:Nat)
 |row (o:Nat)
 |nilsl
 |clo (ts:List Ty) (r:Ty)
 |nil
 |cons (a b:Sh)
 |fn (f:Nat) (caps:Sh)
 |ptr (cs:Sh)
 |agg (cs:Sh)
@[reducible] def Sh.I:Sh->Type
 | .dat t=>t.I
 | .row _=>Nat
 | .clo ts r=>HL ts->Option r.I
 | .cons a b=>a.I×b.I
 | .fn _ c=>c.I
 | .ptr c=>c.I
 | .agg c=>c.I
 |_=>Unit
def val:(s:Sh)->s.I->List AV
 | .dat t,x=>[.dat t x]
 | .arr o,_=>[.arr o]
 | .box o k,_=>[.box o k]
 | .row o,i=>[.row o i]
 | .nilsl,_=>[.nilsl]
 | .clo ts r,p=>[.clo ts r p]
 | .nil,_=>[]
 | .cons a b,x=>val a x.1++val b x.2
 | .fn f c,x=>[.fn f (val c x)]
 | .ptr c,x=>[.ptr (val c x)]
 | .agg c,x=>[.agg (val c x)]
def Ty.eqs? :(a b:List Ty)->Option (PLift (a=b))
 | [],[]=>some ⟨rfl⟩
 |a::as,b::bs=>match Ty.eq? a b,Ty.eqs? as bs with
  |some ⟨h⟩,some ⟨k⟩=>some ⟨by rw[h,k]⟩
  |_,_=>none
 |_,_=>none
def U3(ts ts':List Ty)(r r':Ty)(p:HL ts->Option r.I):Option (HL ts'->Option r'.I):=
 match Ty.eqs? ts ts',Ty.eq? r r' with
 |some ⟨h⟩,some ⟨k⟩=>some (h▸k▸p)
 |_,_=>none
def K4(r:Ty)(x:Option CR):Option r.I:=
 match x with
 |some cr=>cr.x.bind λy=>match cr.emb y with
  |([v],objs)=>match v with
   | .dat t d=>match lU t with
    |false=>Ty.cast t r d
    |true=>none
   |_=>none
  |_=>none
 |none=>none
def HW(E:Env)(f:Nat)(caps:List AV)(ts:List Ty)(r:Ty)(h:HL ts):Option r.I:=K4 r (E.call f (At ts h++caps) [])
def HH(E:Env)(f:Nat)(fs:List AV)(ts:List Ty)(r:Ty)(h:HL ts):Option r.I:=K4 r (E.call f (fs++At ts h) [])
def un1(t:Ty):AV->Option t.I
 | .dat t' v=>Ty.cast t' t v
 | .nilsl=>match t with
  | .slice _=>some []
  |_=>none
 |_=>none
def cl0:AV->Bool
 | .dat _ _=>true
 | .nilsl=>true
 | .undef=>true
 | .clo _ _ _=>true
 | .fn _ []=>true
 |_=>false
def SF:AV->Bool
 | .ptr cs=>cs.all cl0
 |_=>false
def U7:AV->Bool
 | .dat _ _=>true
 | .nilsl=>true
 | .undef=>true
 |_=>false
def Cy:AV->Bool
 | .agg cs=>cs.all U7
 |v=>U7 v
def un(E:Env):(s:Sh)->List AV->Option (s.I×List AV)
 | .nil,l=>some ((),l)
 | .cons a b,l=>match un E a l with
  |some (x,r)=>match un E b r with
   |some (y,r')=>some ((x,y),r')
   |none=>none
  |none=>none
 | .dat t,l=>match l with
  |v::r=>match un1 t v with
   |some x=>some (x,r)
   |none=>none
  |_=>none
 | .arr o,l=>match l with
  | .arr o'::r=>match Nat.beq o o' with
   |true=>some ((),r)
   |false=>none
  |_=>none
 | .box o k,l=>match l with
  | .box o' k'::r=>match Nat.beq o o',Nat.beq k k' with
   |true,true=>some ((),r)
   |_,_=>none
  |_=>none
 | .row o,l=>match l with
  | .row o' i::r=>match Nat.beq o o' with
   |true=>some (i,r)
   |false=>none
  |_=>none
 | .nilsl,l=>match l with
  | .nilsl::r=>some ((),r)
  |_=>none
 | .clo ts rt,l=>match l with
  | .clo ts' rt' p::r=>match U3 ts' ts rt' rt p with
   |some q=>some (q,r)
   |none=>none
  | .fn f caps::r=>match Nat.beq rt.size 1,caps.all SF&&(E.lend f).isEmpty with
   |true,true=>some (HW E f caps ts rt,r)
   |_,_=>none
  | .bnd f fs::r=>match Nat.beq rt.size 1,fs.all Cy&&(E.lend f).isEmpty with
   |true,true=>some (HH E f fs ts rt,r)
   |_,_=>none
  |_=>none
 | .fn f c,l=>match l with
  | .fn f' caps::r=>match Nat.beq f f',un E c caps with
   |true,some (x,[])=>some (x,r)
   |_,_=>none
  |_=>none
 | .ptr c,l=>match l with
  | .ptr cs::r=>match un E c cs with
   |some (x,[])=>some (x,r)
   |_=>none
  |_=>none
 | .agg c,l=>match l with
  | .agg cs::r=>match un E c cs with
   |some (x,[])=>some (x,r)
   |_=>none
  |_=>none
def E0:Env:=⟨λ_ _ _=>none,λ_=>[]⟩
inductive OSh where
 |arr (e:Nat) (t:Ty)
 |rows (e e2:Nat) (t:Ty)
 |perm (e e2:Nat) (t:Ty)
 |cells (c:Sh)
@[reducible] def OSh.I:OSh->Type
 | .arr _ t=>List t.I
 | .rows _ _ t=>List (List t.I)
 | .perm _ _ t=>List Nat×List (List t.I)
 | .cells c=>c.I
def OSh.mk:(o:OSh)->o.I->Ob
 | .arr e t,l=>.arr e t l
 | .rows e e2 t,l=>.rows e e2 t l none
 | .perm e e2 t,x=>.perm false e e2 t x.1 x.2
 | .cells c,x=>.cells (val c x)
def OSh.un:(o:OSh)->Ob->Option o.I
 | .arr e t,.arr e' t' l=>match Nat.beq e e' with
  |true=>Ty.cast (.slice t') (.slice t) l
  |false=>none
 | .rows e e2 t,.rows e' e2' t' l none=>match Nat.beq e e',Nat.beq e2 e2' with
  |true,true=>Ty.cast (.slice (.slice t')) (.slice (.slice t)) l
  |_,_=>none
 | .perm e e2 t,.perm _ e' e2' t' ix l=>match Nat.beq e e',Nat.beq e2 e2' with
  |true,true=>match Ty.cast (.slice (.slice t')) (.slice (.slice t)) l with
   |some y=>some (ix,y)
   |none=>none
  |_,_=>none
 | .cells c,.cells cs=>match Go.Proofs.YtjiljcblmgeioaaGreatDoor.un E0 c cs with
  |some (x,[])=>some x
  |_=>none
 |_,_=>none
@[reducible] def OL:List (Nat×OSh)->Type
 | []=>Unit
 |(_,o)::r=>o.I×OL r
def eG:(l:List (Nat×OSh))->OL l->List (Nat×Ob)
 | [],_=>[]
 |(i,o)::r,x=>(i,o.mk x.1)::eG r x.2
def K2(g:Nat->Option Ob):(l:List (Nat×OSh))->Option (OL l)
 | []=>some ()
 |(i,o)::r=>match g i with
  |some x=>match o.un x,K2 g r with
   |some y,some z=>some (y,z)
   |_,_=>none
  |none=>none
structure SSh where
 slots:List Nat
 sh:Sh
 obs:List (Nat×OSh)
@[reducible] def SSh.T (S:SSh):Type:=S.sh.I×OL S.obs
def BO:List Nat->List AV->List (Nat×AV)
 |i::is,v::vs=>(i,v)::BO is vs
 |_,_=>[]
def l8(S:SSh)(x:S.T):St:= {fr:=BO S.slots (val S.sh x.1),ob:=eG S.obs x.2}
def YV(S:SSh)(s:St):Option S.T:=
 match un E0 S.sh (S.slots.map s.slot)with
 |some (x,[])=>match K2 s.g S.obs with
  |some y=>some (x,y)
  |none=>none
 |_=>none
def Sh.okIds(ids:List Nat):Sh->Bool
 | .arr o=>ids.any (Nat.beq o)
 | .box o _=>ids.any (Nat.beq o)
 | .row o=>ids.any (Nat.beq o)
 | .cons a b=>a.okIds ids&&b.okIds ids
 | .fn _ c=>c.okIds ids
 | .ptr c=>c.okIds ids
 | .agg c=>c.okIds ids
 |_=>true
def OSh.okIds(ids:List Nat):OSh->Bool
 | .arr _ _=>true
 | .rows _ _ _=>true
 | .perm _ _ _=>true
 | .cells c=>c.okIds ids
def SSh.ok(S:SSh):Bool:=
 S.sh.okIds (S.obs.map (·.1))&&S.obs.all λp=>p.2.okIds (S.obs.map (·.1))
inductive CA where
 |fz (o:Nat)
 |rep (o o':Nat)
 |own (i o e:Nat) (t:Ty)
 |ownB (p j o e:Nat) (t:Ty)
 |drop (o:Nat)
 |perm (o:Nat)
 |pull (k d:Nat)
 |ownRB (p j o e e2:Nat) (t:Ty)
 |ren (o o':Nat)
 |pin (i o':Nat)
 |pinB (p j o':Nat)
 |repB (p j o':Nat)
def St.ren(s:St)(o o':Nat):St:=
 match s.g o,s.g o' with
 |some (.arr e t l),none=>s.swap o (.arr o') [(o',.arr e t l)]
 |some (.rows e e2 t l none),none=>s.swap o (.arr o') [(o',.rows e e2 t l none)]
 |some (.perm k e e2 t ix l),none=>s.swap o (.arr o') [(o',.perm k e e2 t ix l)]
 |_,_=>s
def St.act(s:St):CA->St
 | .fz o=>s.freeze o
 | .rep o o'=>match s.g o,Nat.beq o o' with
  |some (.arr _ _ _),false=>(s.freeze o').ren o o'
  |_,_=>s
 | .own i o e t=>match s.slot i,s.g o with
  | .nilsl,none=> {fr:=(i,.arr o)::s.fr,ob:=(o,.arr e t [])::s.ob}
  |_,_=>s
 | .drop o=>s.drop o
 | .perm o=>s.perm o
 | .pull k d=>s.pull k d
 | .ownB p j o e t=>match s.g p,s.g o with
  |some (.cells cs),none=>match aQ cs j with
   |some .nilsl=> {fr:=s.fr,ob:=(p,.cells (cs.set j (.arr o)))::(o,.arr e t [])::s.ob}
   |_=>s
  |_,_=>s
 | .ownRB p j o e e2 t=>match s.g p,s.g o with
  |some (.cells cs),none=>match aQ cs j with
   |some .nilsl=> {fr:=s.fr,ob:=(p,.cells (cs.set j (.arr o)))::(o,.rows e e2 t [] none)::s.ob}
   |_=>s
  |_,_=>s
 | .ren o o'=>s.ren o o'
 | .pin i o'=>match s.slot i with
  | .arr o=>s.ren o o'
  |_=>s
 | .pinB p j o'=>match s.g p with
  |some (.cells cs)=>match aQ cs j with
   |some (.arr o)=>s.ren o o'
   |_=>s
  |_=>s
 | .repB p j o'=>match s.g p with
  |some (.cells cs)=>match aQ cs j with
   |some (.arr o)=>match Nat.beq o o' with
    |false=>(s.drop o').ren o o'
    |true=>s
   |_=>s
  |_=>s
def St.acts(s:St)(l:List CA):St:=l.foldl St.act s
structure Keep where
 acts:List CA
 S:SSh
def Keep.at(k:Keep)(s:St):Option k.S.T:=YV k.S (s.acts k.acts)
inductive Ex where
 |exit (id:Nat) (s:St)
 |ret (s:St)
def Ex.out:Ex->Out
 | .exit id s=>.exit id s
 | .ret s=>.ret s
def Ex.at(id:Nat):Ex->Out
 | .exit i s=>match Nat.beq i id with
  |true=>.normal s
  |false=>.exit i s
 | .ret s=>.ret s
def gU{V R:Type}(f:V->Option (V⊕R)):Nat->V->Option R
 |0,_=>none
 |n+1,v=>match f v with
  |some (.inl v')=>gU f n v'
  |some (.inr r)=>some r
  |none=>none
open Classical in
noncomputable def aB{V R:Type}(f:V->Option (V⊕R))(v:V):Option R:=
 match gU f 1000000 v with
 |some r=>some r
 |none=>if h:∃r n,gU f n v=some r then some h.choose else none
structure LD where
 head:Keep
 exits:List (Nat×Keep)
 rets:Keep
 K:Type
 V:Type
 R:Type
 join:K->V->head.S.T
 sk:head.S.T->K
 sv:head.S.T->V
 step:K->V->Tr (V⊕R)
 leaf:K->R->Tr Ex
def rB(h:Option Keep)(ex:List (Nat×Keep))(rt:Keep):Out->Option Out
 | .normal s=>match h with
  |some h=>(h.at s).map λt=>.normal (l8 h.S t)
  |none=>none
 | .exit i s=>match aM ex i with
  |some k=>(k.at s).map λt=>.exit i (l8 k.S t)
  |none=>none
 | .ret s=>(rt.at s).map λt=>.ret (l8 rt.S t)
noncomputable def LD.orc(d:LD)(id:Nat)(s:St):Option (Tr Out):=
 (d.head.at s).map λt=>.c d.R (aB (λv=>(d.step (d.sk t) v).ev) (d.sv t)) λr=>(d.leaf (d.sk t) r).map (Ex.at id)
def LD.next(d:LD)(k:d.K):d.V⊕d.R->Tr (Option Out)
 | .inl v=>.l (some (.normal (l8 d.head.S (d.join k v))))
 | .inr r=>(d.leaf k r).map λe=>some e.out
structure LD.OK(E:Env)(tt:Nat->TD)(fz:Nat->Nat->List Nat)(orc:Orc)(b:Code)(d:LD):Prop where
 ok:d.head.S.ok=true
 oke:d.exits.all (λp=>p.2.S.ok)=true
 okr:d.rets.S.ok=true
 eta:∀t,d.join (d.sk t) (d.sv t)=t
 step:∀k v,((cR E tt fz orc b (l8 d.head.S (d.join k v))).map (rB (some d.head) d.exits d.rets)).ev=((d.step k v).bind (d.next k)).ev
noncomputable def fK:List (Nat×LD)->Orc
 | [],_,_=>none
 |(n,d)::r,id,s=>match Nat.beq n id with
  |true=>match d.orc id s with
   |some x=>some x
   |none=>fK r id s
  |false=>fK r id s
structure FD where
 A:Sh
 ins:List (Nat×OSh)
 lend:List LP
 R:Type
 F:A.I×OL ins->Option R
 emb:R->List AV×List (Nat×Ob)
 sp:R->Tr (List AV×List (Nat×Ob)):=λr=>.l (emb r)
 spok:∀r,(sp r).ev=some (emb r):=by exact λ_=>rfl
@[reducible] def FD.T (d:FD):Type:=d.A.I×OL d.ins
def qZ{α β:Type}:List (Nat×α)->List (Nat×β)->Bool
 | [],[]=>true
 |(i,_)::r,(j,_)::r'=>Nat.beq i j&&qZ r r'
 |_,_=>false
def FD.cr(E:Env)(d:FD)(args:List AV)(obs:List (Nat×Ob)):Option CR:=
 match un E d.A args with
 |some (x,[])=>match qZ obs d.ins with
  |true=>match K2 (aM obs) d.ins with
   |some y=>some ⟨d.R,d.F (x,y),d.emb,d.sp,d.spok⟩
   |none=>none
  |false=>none
 |_=>none
def oN:List (Nat×FD)->Env
 | []=>E0
 |(f,d)::r=>⟨λf' args obs=>match Nat.beq f f' with
  |true=>d.cr (oN r) args obs
  |false=>(oN r).call f' args obs,λf'=>match Nat.beq f f' with
  |true=>d.lend
  |false=>(oN r).lend f'⟩
def lY(A:Sh)(ins:List (Nat×OSh))(x:A.I×OL ins):St:= {fr:=BO (List.range (val A x.1).length) (val A x.1),ob:=eG ins x.2}
structure RetK where
 acts:List CA
 res:List ResultVar
 sh:Sh
 obs:List (Nat×OSh)
 pins:List (Nat×Nat×Nat)
 gone:List Nat:=[]
@[reducible] def RetK.T (k:RetK):Type:=k.sh.I×OL k.obs
def IX(tt:Nat->TD)(s:St):ResultVar->Option AV
 | .tmp i=>some (s.slot i)
 | .cell a ty=>match s.slot a,kJ tt ty with
  | .box o k,some sz=>match s.g o with
   |some (.cells cs)=>cut cs k sz
   |_=>none
  |_,_=>none
def zZ(tt:Nat->TD)(s:St):List ResultVar->Option (List AV)
 | []=>some []
 |r::l=>match IX tt s r,zZ tt s l with
  |some v,some vs=>some (v::vs)
  |_,_=>none
def RetK.ok(k:RetK):Bool:=k.sh.okIds (k.obs.map (·.1))&&(k.obs.all λp=>p.2.okIds (k.obs.map (·.1)))&&k.obs.all λp=>Nat.blt p.1 64||(k.pins.any λq=>Nat.beq q.2.2 p.1)
def uI(v:AV)(c o:Nat):Bool:=
 match c with
 |0=>match v with
  | .box p 0=>Nat.beq p o
  | .arr p=>Nat.beq p o
  |_=>false
 |j+1=>match v with
  | .agg cs=>match aQ cs j with
   |some (.arr p)=>Nat.beq p o
   |_=>false
  | .fn _ cs=>match aQ cs j with
   |some (.box p 0)=>Nat.beq p o
   |_=>false
  |_=>false
def RetK.at(tt:Nat->TD)(k:RetK)(s:St):Option k.T:=
 match k.pins.all λq=>uI ((s.acts k.acts).slot q.1) q.2.1 q.2.2 with
 |true=>match zZ tt (s.acts k.acts) k.res with
  |some vs=>match un E0 k.sh vs with
   |some (x,[])=>match K2 (s.acts k.acts).g k.obs with
    |some y=>some (x,y)
    |none=>none
   |_=>none
  |none=>none
 |false=>none
def zA(tt:Nat->TD)(rt:RetK):Out->Option rt.T
 | .normal s=>rt.at tt s
 | .ret s=>rt.at tt s
 | .exit _ _=>none
def atB(tt:Nat->TD)(r1 r2:RetK)(s:St):Option (r1.T⊕r2.T):=
 match r1.at tt s with
 |some x=>some (.inl x)
 |none=>match r2.at tt s with
  |some y=>some (.inr y)
  |none=>none
def Ba(tt:Nat->TD)(r1 r2:RetK):Out->Option (r1.T⊕r2.T)
 | .normal s=>atB tt r1 r2 s
 | .ret s=>atB tt r1 r2 s
 | .exit _ _=>none
end Go.Proofs.YtjiljcblmgeioaaGreatDoor
