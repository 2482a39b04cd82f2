/- A part of the proof that FnConsole hands back true, at every argument of the row. -/
import Derived.WalkKit
namespace Go.Proofs.YtjiljcblmgeioaaGreatDoor
set_option linter.all false

abbrev qa:=@cond_true
abbrev qb:=@cond_false
abbrev qc:=@decide_eq_true
abbrev qd:=@decide_eq_false
abbrev qf:=@decide_eq_true_eq
abbrev qg:=@beq_eq_false_iff_ne
abbrev qh:=@beq_iff_eq
abbrev qi:=@if_neg
abbrev qj:=@if_pos
abbrev qk:=@beq_self_eq_true
abbrev ql:=@bne_self_eq_false
abbrev qm:=@and_true
abbrev qn:=@or_false
abbrev xc:=@Option.bind_some
abbrev xd:=@List.getD_eq_getElem?_getD
abbrev xe:=@Option.some.injEq
abbrev xf:=@List.getElem?_eq_getElem
abbrev xg:=@Bool.and_eq_true
abbrev xh:=@Nat.eq_of_beq_eq_true
abbrev xi:=@Nat.lt_irrefl
abbrev xj:=@List.length_append
abbrev xk:=@List.length_cons
abbrev xl:=@Bool.not_true
abbrev xm:=@Nat.le_refl
abbrev xn:=@Array.getD_eq_getD_getElem?
abbrev xo:=@List.mem_singleton
abbrev xp:=@List.getElem?_eq_some_iff
abbrev xq:=@List.mem_append
abbrev xr:=@List.all_eq_true
abbrev xt:=@List.mem_cons_of_mem
abbrev xu:=@List.mem_cons_self
abbrev xw:=@List.length_take
abbrev xx:=@List.mem_of_getElem?
abbrev xy:=@Int.toNat_natCast
abbrev xz:=@List.length_nil
abbrev D8:=@List.eq_nil_of_length_eq_zero
abbrev oC:=@List.getElem?_map
abbrev D4:=@List.getElem?_append_right
abbrev w7:=@List.getElem?_append_left
abbrev xae:=@List.mem_cons
abbrev xaf:=@List.mem_map
abbrev F2:=@Array.getElem?_eq_getElem
abbrev oN:=@Option.map_some
abbrev tN:=@Bool.false_eq_true
abbrev xaj:=@List.mem_filter
abbrev nL:=@Bool.not_false
abbrev tM:=@List.take_length
abbrev vZ:=@List.getElem?_drop
abbrev tO:=@List.length_drop
abbrev yK:=@Nat.lt_of_lt_of_le
abbrev xap:=@List.mem_range
abbrev F5:=@List.mem_append_left
abbrev xar:=@List.length_pos_iff
abbrev xM:=@Option.getD_some
abbrev Vw:=@List.take_succ_eq_append_getElem
abbrev xau:=@Option.map_eq_some_iff
abbrev E5:=@Bool.not_eq_true'
abbrev yJ:=@Option.some.inj
abbrev Fl:=@List.mem_append_right
abbrev Nj:=@List.drop_eq_getElem_cons
abbrev Gb:=@List.take_of_length_le
abbrev zL:=@List.append_nil
abbrev Fy:=@List.length_singleton
abbrev xbc:=@Array.getElem?_eq_some_iff
abbrev E2:=@List.length_set
abbrev xbe:=@Option.isSome_iff_exists
abbrev uW:=@Nat.mul_one
abbrev K0:=@List.nil_append
abbrev xbh:=@List.any_eq_true
abbrev yP:=@Nat.add_zero
abbrev So:=@List.length_replicate
abbrev xbk:=@List.pairwise_cons
abbrev Z2:=@List.foldl_cons
abbrev Z1:=@Bool.or_eq_true
abbrev Rt:=@Array.toArray_toList
abbrev Nm:=@List.getElem?_take
abbrev P0:=@List.map_cons
abbrev PT:=@Array.getElem?_append_left
abbrev Vs:=@List.mem_of_mem_take
abbrev zM:=@Int.le_refl
abbrev Ge:=@List.length_map
abbrev E1:=@Nat.add_mul
abbrev xbv:=@List.mem_iff_getElem
abbrev Nl:=@List.cons_append
abbrev U2:=@Nat.zero_add
abbrev IS:=@List.getElem?_range
abbrev Mj:=@List.cons.injEq
abbrev JC:=@Nat.mul_le_mul_right
abbrev Vu:=@List.any_eq_false
abbrev Vt:=@List.append_assoc
abbrev MM:=@List.getElem?_eq_none
abbrev V6:=@Nat.zero_le
abbrev xcf:=@List.contains_iff_mem
abbrev JD:=@Array.length_toList
abbrev IX:=@List.getElem_of_mem
abbrev Jl:=@Bool.true_and
abbrev xcj:=@Int.mul_le_mul_of_nonneg_left
abbrev RU:=@List.drop_eq_nil_of_le
abbrev Vr:=@Nat.min_eq_left
abbrev Sy:=@List.drop_zero
abbrev ER:=@List.not_mem_nil
abbrev xco:=@List.getElem?_replicate
abbrev xcp:=@Int.tmod_eq_emod_of_nonneg
abbrev Ut:=@Prod.mk.injEq
abbrev CZ:=@Bool.eq_iff_iff
abbrev xcs:=@Array.getElem?_eq_none
abbrev xct:=@List.mem_or_eq_of_mem_set
abbrev LA:=@List.foldl_append
abbrev ZL:=@Array.getElem?_toList
abbrev xcw:=@List.set_append_right
abbrev xL:=@Ne.symm
abbrev ZY:=@Bool.or_eq_false_iff
abbrev xcz:=@List.mem_of_mem_drop
abbrev xda:=@Array.getElem?_append_right
abbrev xdb:=@List.findIdx?_eq_some_iff_getElem
abbrev DG:=@Int.lt_irrefl
abbrev QQ:=@List.getElem?_set
abbrev ST:=@List.size_toArray
abbrev xdf:=@List.mem_map_of_mem
abbrev xdg:=@List.map_congr_left
abbrev xdh:=@List.findSome?_cons
abbrev xdi:=@Array.getElem?_setIfInBounds_ne
abbrev xdj:=@Nat.le_of_ble_eq_true
abbrev xdk:=@Int.mul_le_mul_of_nonneg_right
abbrev WM:=@List.filter_cons
abbrev JB:=@List.all_cons
abbrev ED:=@Nat.lt_or_ge
abbrev IY:=@Bool.and_true
abbrev xdp:=@List.pairwise_append
abbrev xdq:=@Nat.pow_le_pow_right
abbrev xdr:=@Option.bind_eq_some_iff
abbrev xds:=@List.drop_length
abbrev xdt:=@List.length_filter_le
abbrev xdu:=@List.map_append
abbrev OD:=@Nat.le_trans
abbrev JX:=@Nat.sub_self
abbrev xdx:=@List.getElem?_set_ne
abbrev xdy:=@List.length_range
abbrev TX:=@Nat.add_assoc
abbrev RW:=@Bool.false_or
abbrev xeb:=@List.eq_of_mem_replicate
abbrev xec:=@Int.toNat_of_nonneg
abbrev xed:=@List.getElem_mem
abbrev xee:=@Int.eq_ofNat_of_zero_le
abbrev xef:=@List.findIdx?_cons
abbrev RR:=@Int.mul_comm
abbrev xeh:=@List.range_succ
abbrev xei:=@Bool.or_false
abbrev xej:=@List.take_append_drop
abbrev xek:=@List.singleton_append
abbrev xel:=@List.flatMap_cons
abbrev xem:=@List.ext_getElem?
abbrev xen:=@Bool.eq_false_iff
abbrev xeo:=@Int.tdiv_eq_ediv_of_nonneg
abbrev xep:=@List.take_zero
abbrev xeq:=@List.map_toArray
abbrev xer:=@List.map_nil
abbrev xes:=@List.mem_flatMap
abbrev xet:=@List.any_cons
abbrev xeu:=@Array.getElem?_replicate
abbrev xev:=@Int.dvd_mul_of_dvd_right
abbrev xew:=@Option.map_none
abbrev xex:=@Nat.not_lt_zero
abbrev xey:=@Int.natCast_add
abbrev xez:=@UInt8.toNat_inj
abbrev xfa:=@List.filter_append
abbrev xfb:=@List.any_eq_not_all_not
abbrev xfc:=@List.set_eq_take_append_cons_drop
abbrev xfd:=@Nat.zero_mul
abbrev xfe:=@List.drop_drop
abbrev xff:=@Nat.mul_le_mul
abbrev xfg:=@Nat.beq_refl
abbrev xfh:=@List.take_take
abbrev xfi:=@List.nodup_nil
abbrev xfj:=@List.length_eq_one_iff
abbrev xfk:=@List.range_succ_eq_map
abbrev xfl:=@List.find?_append
abbrev xfm:=@Bool.and_false
abbrev xfn:=@List.drop_of_length_le
abbrev xfo:=@List.eq_nil_or_concat
abbrev xfp:=@List.filterMap_append
abbrev xfq:=@Array.eq_empty_of_size_eq_zero
abbrev xfr:=@List.ext_getElem
abbrev xfs:=@List.forall_mem_cons
abbrev xft:=@List.take_append_of_le_length
abbrev xfu:=@List.nodup_cons
abbrev xfv:=@List.map_eq_nil_iff
abbrev xfw:=@List.filter_eq_self
abbrev xfx:=@List.takeWhile_cons
abbrev xfy:=@List.length_take_le
abbrev xfz:=@List.mapM_cons
abbrev xga:=@Nat.add_sub_cancel
abbrev xgb:=@List.find?_eq_none
abbrev xgc:=@List.foldl_nil
abbrev xgd:=@Int.emod_lt_of_pos
abbrev xge:=@Bool.false_and
abbrev xgf:=@UInt8.toNat_ofNat'
abbrev xgg:=@List.mem_of_find?_eq_some
abbrev xgh:=@List.pairwise_iff_getElem
abbrev xgi:=@List.findIdx?_eq_none_iff
abbrev xgj:=@Nat.one_mul
abbrev xgk:=@Array.size_append
abbrev xgl:=@Array.all_eq_true
abbrev xgm:=@List.map_id
abbrev xgn:=@List.getElem?_take_of_lt
abbrev xgo:=@Int.dvd_trans
abbrev xgp:=@List.take_append
abbrev xgq:=@Nat.mod_eq_of_lt
abbrev xgr:=@List.length_eq_zero_iff
abbrev xgs:=@Int.min_eq_right
abbrev xgt:=@Int.max_eq_right
abbrev xgu:=@Int.dvd_of_emod_eq_zero
abbrev xgv:=@Nat.mul_comm
abbrev xgw:=@Nat.blt_eq
abbrev xgx:=@Int.dvd_zero
abbrev xgy:=@Int.add_zero
abbrev xgz:=@List.find?_cons
abbrev xha:=@Int.emod_nonneg
abbrev xhb:=@List.any_append
abbrev xhc:=@List.drop_left'
abbrev xhd:=@List.foldl_map
abbrev xhe:=@Int.add_mul
abbrev xhf:=@Array.ext
abbrev xhg:=@Int.mul_assoc
abbrev xhh:=@Array.ext'
inductive Ty where
 |int (k:IntKind)
 |bool
 |str
 |slice (t:Ty)
 |pair (a b:Ty)
@[reducible] def Ty.I:Ty->Type
 | .int _=>Int
 | .bool=>Bool
 | .str=>List UInt8
 | .slice t=>List t.I
 | .pair a b=>a.I×b.I
def Ty.size:Ty->Nat
 | .pair a b=>a.size+b.size
 |_=>1
def Ty.dflt:(t:Ty)->t.I
 | .int _=>(0:Int)
 | .bool=>false
 | .str=>[]
 | .slice _=>[]
 | .pair a b=>(a.dflt,b.dflt)
def Ty.eq? :(a b:Ty)->Option (PLift (a=b))
 | .int j,.int k=>if h:j=k then some ⟨by rw[h]⟩else none
 | .bool,.bool=>some ⟨rfl⟩
 | .str,.str=>some ⟨rfl⟩
 | .slice a,.slice b=>match Ty.eq? a b with
  |some ⟨h⟩=>some ⟨by rw[h]⟩
  |none=>none
 | .pair a b,.pair c d=>match Ty.eq? a c,Ty.eq? b d with
  |some ⟨h⟩,some ⟨k⟩=>some ⟨by rw[h,k]⟩
  |_,_=>none
 |_,_=>none
def Ty.cast(a b:Ty)(x:a.I):Option b.I:=
 match Ty.eq? a b with
 |some ⟨h⟩=>some (h▸x)
 |none=>none
@[reducible] def HL:List Ty->Type
 | []=>Unit
 |t::ts=>t.I×HL ts
inductive AV where
 |undef
 |skip
 |dat (t:Ty) (v:t.I)
 |nilsl
 |arr (o:Nat)
 |box (o k:Nat)
 |elt (o i s:Nat)
 |fld (o i s k:Nat)
 |row (o i:Nat)
 |relt (o i n s:Nat)
 |suf (o i s:Nat)
 |pre (o i:Nat)
 |ptr (cs:List AV)
 |fn (f:Nat) (caps:List AV)
 |bnd (f:Nat) (fs:List AV)
 |clo (ts:List Ty) (r:Ty) (p:HL ts->Option r.I)
 |tup (vs:List AV)
 |agg (cs:List AV)
inductive Ob where
 |arr (e:Nat) (t:Ty) (l:List t.I)
 |rows (e e2:Nat) (t:Ty) (l:List (List t.I)) (h:Option (Nat×Option Nat))
 |perm (k:Bool) (e e2:Nat) (t:Ty) (ix:List Nat) (l:List (List t.I))
 |spent
 |cells (cs:List AV)
inductive Tr(L:Type):Type 1 where
 |f
 |l (x:L)
 |t (b:Bool) (x y:Tr L)
 |c (R:Type) (x:Option R) (k:R->Tr L)
 |s (A B:Type) (x:A⊕B) (k:A->Tr L) (k':B->Tr L)
namespace Tr
def bind{L M:Type}:Tr L->(L->Tr M)->Tr M
 | .f,_=>.f
 | .l x,k=>k x
 | .t b x y,k=>.t b (x.bind k) (y.bind k)
 | .c R x g,k=>.c R x λr=>(g r).bind k
 | .s A B x g g',k=>.s A B x (λa=>(g a).bind k) λb=>(g' b).bind k
def map{L M:Type}(g:L->M):Tr L->Tr M
 | .f=>.f
 | .l x=>.l (g x)
 | .t b x y=>.t b (x.map g) (y.map g)
 | .c R x k=>.c R x λr=>(k r).map g
 | .s A B x k k'=>.s A B x (λa=>(k a).map g) λb=>(k' b).map g
def ev{L:Type}:Tr L->Option L
 | .f=>none
 | .l x=>some x
 | .t b x y=>bif b then x.ev else y.ev
 | .c _ x k=>x.bind λr=>(k r).ev
 | .s _ _ x k k'=>match x with
  | .inl a=>(k a).ev
  | .inr b=>(k' b).ev
def opt{L:Type}:Option L->Tr L
 |some x=>.l x
 |none=>.f
def g{L:Type}(b:Bool)(x:Tr L):Tr L:=.t b x .f
@[simp] theorem ev_f {L:Type}:(Tr.f:Tr L).ev=none:=rfl
@[simp] theorem ev_l {L:Type} (x:L):(Tr.l x).ev=some x:=rfl
@[simp] theorem ev_t {L:Type} (b:Bool) (x y:Tr L):(Tr.t b x y).ev=bif b then x.ev else y.ev:=rfl
@[simp] theorem ev_c {L:Type} (R:Type) (x:Option R) (k:R->Tr L):(Tr.c R x k).ev=x.bind λr=>(k r).ev:=rfl
theorem ev_bind{L M:Type}(k:L->Tr M):∀x:Tr L,(x.bind k).ev=x.ev.bind λl=>(k l).ev
 | .f=>rfl
 | .l _=>rfl
 | .t b x y=>by cases b<;>simp[bind,ev_bind k x,ev_bind k y]
 | .c R x g=>by cases x<;>simp[bind,ev_bind k]
 | .s A B x g g'=>by cases x<;>simp[bind,ev,ev_bind k]
theorem ev_map{L M:Type}(g:L->M):∀x:Tr L,(x.map g).ev=x.ev.map g
 | .f=>rfl
 | .l _=>rfl
 | .t b x y=>by cases b<;>simp[map,ev_map g x,ev_map g y]
 | .c R x k=>by cases x<;>simp[map,ev_map g]
 | .s A B x k k'=>by cases x<;>simp[map,ev,ev_map g]
@[simp] theorem ev_opt {L:Type} (x:Option L):(Tr.opt x).ev=x:=by cases x<;>rfl
@[simp] theorem ev_g {L:Type} (b:Bool) (x:Tr L):(Tr.g b x).ev=bif b then x.ev else none:=rfl
end Tr
structure CR where
 R:Type
 x:Option R
 emb:R->List AV×List (Nat×Ob)
 sp:R->Tr (List AV×List (Nat×Ob))
 spok:∀r,(sp r).ev=some (emb r)
inductive LP where
 |arg (i:Nat)
 |cell (j k:Nat)
 |comp (i j:Nat)
 |cap (i j:Nat)
structure Env where
 call:Nat->List AV->List (Nat×Ob)->Option CR
 lend:Nat->List LP
inductive TD where
 |sc (t:Ty)
 |sl (e:Nat) (t:Ty) (b:Nat)
 |st (t:Ty) (fs:List (Nat×Ty))
 |no
def aM{α:Type _}:List (Nat×α)->Nat->Option α
 | [],_=>none
 |(k,x)::r,i=>match Nat.beq k i with
  |true=>some x
  |false=>aM r i
def aP{α:Type}:List α->Nat->Option α
 | [],_=>none
 |x::_,0=>some x
 |_::r,i+1=>aP r i
def fR:(t:Ty)->t.I->List AV
 | .pair a b,(x,y)=>fR a x++fR b y
 | .int k,n=>[.dat (.int k) n]
 | .bool,b=>[.dat .bool b]
 | .str,s=>[.dat .str s]
 | .slice t,l=>[.dat (.slice t) l]
def eS:Ty->List AV
 | .pair a b=>eS a++eS b
 | .int k=>[.dat (.int k) (0:Int)]
 | .bool=>[.dat .bool false]
 | .str=>[.dat .str ([]:List UInt8)]
 | .slice _=>[.nilsl]
def Us(t:Ty):AV->Option t.I
 | .dat t' v=>Ty.cast t' t v
 | .nilsl=>match t with
  | .slice _=>some []
  |_=>none
 |_=>none
def hJ:(t:Ty)->List AV->Option t.I
 | .pair a b,cs=>match hJ a (cs.take a.size),hJ b (cs.drop a.size)with
  |some x,some y=>some (x,y)
  |_,_=>none
 |t,cs=>match cs with
  | [v]=>Us t v
  |_=>none
def cellsOf:AV->Option (List AV)
 | .agg cs=>some cs
 | .undef=>none
 | .skip=>none
 | .tup _=>none
 |v=>some [v]
def inj(t:Ty)(v:t.I):AV:=
 match fR t v with
 | [x]=>x
 |cs=>.agg cs
def NI(t:Ty)(v:AV):Option t.I:=(cellsOf v).bind (hJ t)
def cV:List Nat->Nat->Nat->Option Nat
 | [],_,_=>none
 |x::r,o,i=>match Nat.beq x o with
  |true=>some i
  |false=>cV r o (i+1)
def bH{α:Type}(ix:List Nat)(l:List (List α)):List (List α):=ix.map λi=>l.getD i []
def tT(ρ:List Nat)(g:Nat->Option Ob):AV->AV
 | .dat t v=>.dat t v
 | .nilsl=>.nilsl
 | .arr o=>match cV ρ o 64 with
  |some i=>.arr i
  |none=>match g o with
   |some (.arr _ t l)=>.dat (.slice t) l
   |some (.rows _ _ t l none)=>.dat (.slice (.slice t)) l
   |some (.perm _ _ _ t ix l)=>.dat (.slice (.slice t)) (bH ix l)
   |_=>.undef
 | .row o i=>match cV ρ o 64 with
  |some _=>.undef
  |none=>match g o with
   |some (.rows _ _ t l none)=>.dat (.slice t) (l.getD i [])
   |some (.perm _ _ _ t _ l)=>.dat (.slice t) (l.getD i [])
   |_=>.undef
 | .clo ts r p=>.clo ts r p
 | .fn f []=>.fn f []
 |_=>.undef
def W0(ρ:List Nat)(g:Nat->Option Ob):AV->AV
 | .agg cs=>.agg (cs.map (tT ρ g))
 |v=>tT ρ g v
def G0(ρ:List Nat)(g:Nat->Option Ob):AV->AV
 | .box o k=>match cV ρ o 64 with
  |some i=>.box i k
  |none=>match g o with
   |some (.cells cs)=>if k<cs.length then .ptr ((cs.map (tT ρ g)).drop k)else .undef
   |_=>.undef
 |_=>.undef
def aGt:AV->AV
 | .dat t v=>.dat t v
 | .nilsl=>.nilsl
 |_=>.undef
def Dx:AV->AV
 | .agg cs=>.agg (cs.map aGt)
 |v=>aGt v
def R3(ρ:List Nat)(g:Nat->Option Ob):AV->AV
 | .fn f caps=>.fn f (caps.map (G0 ρ g))
 | .bnd f fs=>.bnd f (fs.map Dx)
 | .box o k=>match cV ρ o 64 with
  |some i=>.box i k
  |none=>.undef
 |v=>W0 ρ g v
def aHz:AV->AV
 | .dat t v=>.dat t v
 | .nilsl=>.nilsl
 | .clo ts r p=>.clo ts r p
 |_=>.undef
def Yl:Ob->Ob
 | .cells cs=>.cells (cs.map aHz)
 | .rows e e2 t l h=>.rows e e2 t l (h.map λp=>(p.1,none))
 |x=>x
def bY(g:Nat->Option Ob)(fs as:List AV):List LP->List Nat->Option (List Nat)
 | [],acc=>some acc
 | .arg i::r,acc=>match aP as i with
  |some (.box o 0)=>bY g fs as r (acc++ [o])
  |some (.arr o)=>bY g fs as r (acc++ [o])
  |_=>none
 | .cell j k::r,acc=>match aP acc j with
  |some p=>match g p with
   |some (.cells cs)=>match aP cs k with
    |some (.box o 0)=>bY g fs as r (acc++ [o])
    |some (.arr o)=>bY g fs as r (acc++ [o])
    |_=>none
   |_=>none
  |none=>none
 | .comp i j::r,acc=>match aP as i with
  |some (.agg cs)=>match aP cs j with
   |some (.arr o)=>bY g fs as r (acc++ [o])
   |_=>none
  |_=>none
 | .cap i j::r,acc=>match aP fs i with
  |some (.fn _ caps)=>match aP caps j with
   |some (.box o 0)=>bY g fs as r (acc++ [o])
   |_=>none
  |_=>none
def kZ(g:Nat->Option Ob):List Nat->Nat->List (Nat×Ob)
 | [],_=>[]
 |o::r,i=>match g o with
  |some x=>(i,Yl x)::kZ g r (i+1)
  |none=>kZ g r (i+1)
def nX(ρ:List Nat):AV->Bool
 | .arr o=>match cV ρ o 64 with
  |some _=>false
  |none=>true
 | .row _ _=>true
 |_=>false
def H7(ρ:List Nat):AV->Bool
 | .agg cs=>cs.any (nX ρ)
 |v=>nX ρ v
def mD:Ty->Bool
 | .slice _=>true
 | .pair a b=>mD a||mD b
 |_=>false
def Ln:AV->Bool
 | .dat t _=>mD t
 | .arr _=>false
 | .nilsl=>false
 |_=>true
def N3:AV->Bool
 | .agg cs=>cs.any Ln
 |v=>Ln v
def rn(ρ:List Nat)(d o:Nat):Nat:=if o<64 then d*64+o else(aP ρ (o-64)).getD 0
def XN(ρ:List Nat)(d:Nat):AV->AV
 | .arr o=>.arr (rn ρ d o)
 |v=>v
def IT(ρ:List Nat)(d:Nat):AV->AV
 | .agg cs=>.agg (cs.map (XN ρ d))
 |v=>XN ρ d v
def aKw(ρ:List Nat)(d:Nat):AV->AV
 | .arr o=>.arr (rn ρ d o)
 | .dat t v=>.dat t v
 | .nilsl=>.nilsl
 |_=>.undef
def uV(ρ:List Nat)(d:Nat):Ob->Ob
 | .cells cs=>.cells (cs.map (aKw ρ d))
 | .rows e e2 t l h=>.rows e e2 t l (h.map λp=>(p.1,none))
 | .perm _ e e2 t ix l=>.perm true e e2 t ix l
 |x=>x
abbrev QR:=AV×List (Nat×Ob)
def aC(n:Int)(len:Nat):Bool:=decide (0<=n)&&decide (n<(len:Int))
def bq(b:Bool):Tr QR:=.l (.dat .bool b,[])
def iq(k:IntKind)(n:Int):Tr QR:=.l (.dat (.int k) n,[])
def vq(v:AV):Tr QR:=.l (v,[])
def YT(tt:Nat->TD)(op:BinOp)(ty:Nat):AV->AV->Tr QR
 | .dat (.int k) a,.dat (.int k') b=>
  match op with
  | .shl=>.g (decide ((0:Int)<=b)) (iq k (k.wrap ((a:Int)*2^(min (b:Int).toNat k.bits))))
  | .shr=>.g (decide ((0:Int)<=b)) (iq k ((a:Int).fdiv (2^(min (b:Int).toNat k.bits))))
  |_=>if k=k' then
    match op with
    | .add=>iq k (k.wrap ((a:Int)+b))
    | .sub=>iq k (k.wrap ((a:Int) -b))
    | .mul=>iq k (k.wrap ((a:Int)*b))
    | .quo=>.g (!decide ((b:Int)=0)) (iq k (k.wrap ((a:Int).tdiv b)))
    | .rem=>.g (!decide ((b:Int)=0)) (iq k ((a:Int).tmod b))
    | .and=>iq k (k.wrap (BitVec.ofInt k.bits a&&&BitVec.ofInt k.bits b).toNat)
    | .or=>iq k (k.wrap (BitVec.ofInt k.bits a|||BitVec.ofInt k.bits b).toNat)
    | .xor=>iq k (k.wrap (BitVec.ofInt k.bits a^^^BitVec.ofInt k.bits b).toNat)
    | .andNot=>iq k (k.wrap (BitVec.ofInt k.bits a&&& ~~~BitVec.ofInt k.bits b).toNat)
    | .eql=>bq ((a:Int)==b)
    | .neq=>bq ((a:Int) !=b)
    | .lss=>bq (decide ((a:Int)<b))
    | .leq=>bq (decide ((a:Int)<=b))
    | .gtr=>bq (decide ((b:Int)<a))
    | .geq=>bq (decide ((b:Int)<=a))
    |_=>.f
   else .f
 | .dat .bool a,.dat .bool b=>
  match tt ty with
  | .sc .bool=>match op with
   | .eql=>bq ((a:Bool)==b)
   | .neq=>bq (!((a:Bool)==b))
   |_=>.f
  |_=>.f
 | .dat .str a,.dat .str b=>
  match op with
  | .add=>.g (decide (List.length (α:=UInt8) a+List.length (α:=UInt8) b<=9223372036854775807)) (vq (.dat .str ((a:List UInt8)++b)))
  | .eql=>bq ((a:List UInt8)==b)
  | .neq=>bq (!((a:List UInt8)==b))
  |_=>.f
 |_,_=>.f
def aun(op:UnOp):AV->Tr QR
 | .dat .bool b=>match op with
  | .not=>bq (!b)
  |_=>.f
 | .dat (.int k) n=>match op with
  | .neg=>iq k (k.wrap (0-(n:Int)))
  |_=>.f
 |_=>.f
def fJ(tt:Nat->TD)(ty:Nat):Option (Nat×Bool):=
 match tt ty with
 | .sc t=>some (t.size,false)
 | .sl _ _ _=>some (1,false)
 | .st t _=>some (t.size,true)
 | .no=>none
def cut(cs:List AV)(k:Nat)(sz:Nat×Bool):Option AV:=
 match sz.2 with
 |true=>if k+sz.1<=cs.length then some (.agg ((cs.drop k).take sz.1))else none
 |false=>aP cs k
def iH:List (Nat×Ty)->Nat->Nat->Option (Nat×Nat)
 | [],_,_=>none
 |(ty,_)::_,o,0=>some (ty,o)
 |(_,t)::r,o,i+1=>iH r (o+t.size) i
def vC(tt:Nat->TD)(ty i:Nat):Option (Nat×Nat):=
 match tt ty with
 | .st _ fs=>iH fs 0 i
 |_=>none
def pW(tt:Nat->TD)(g:Nat->Option Ob)(ty:Nat)(a:AV):Tr QR:=
 match fJ tt ty,a with
 |some sz,.box o k=>match g o with
  |some (.cells cs)=>(Tr.opt (cut cs k sz)).bind vq
  |_=>.f
 |some sz,.ptr cs=>(Tr.opt (cut cs 0 sz)).bind vq
 |some sz,.elt o i s=>match g o with
  |some (.arr _ t l)=>if sz.1=t.size/\s=t.size then .g (decide (i<l.length)) ((Tr.opt (cut (fR t (l.getD i t.dflt)) 0 sz)).bind vq)else .f
  |some (.rows _ _ _ l none)=>if sz.1=1/\sz.2=false/\s=1 then .g (decide (i<l.length)) (vq (.row o i))else .f
  |some (.perm _ _ _ _ ix l)=>if sz.1=1/\sz.2=false/\s=1 then .g (decide (i<ix.length)&&decide (ix.getD i 0<l.length)) (vq (.row o (ix.getD i 0)))else .f
  |_=>.f
 |some sz,.fld o i s k=>match g o with
  |some (.arr _ t l)=>if s=t.size then .g (decide (i<l.length)) ((Tr.opt (cut (fR t (l.getD i t.dflt)) k sz)).bind vq)else .f
  |_=>.f
 |some sz,.relt o i n s=>match g o with
  |some (.rows _ _ t l none)=>if sz.1=t.size/\s=t.size then .g (decide (n<(l.getD i []).length)) ((Tr.opt (cut (fR t ((l.getD i []).getD n t.dflt)) 0 sz)).bind vq)else .f
  |_=>.f
 |_,_=>.f
def lD(tt:Nat->TD)(g:Nat->Option Ob)(ty:Nat):AV->AV->Tr QR
 | .dat (.slice t) l,.dat (.int _) n=>match tt ty with
  | .sl _ t' _=>if t.size=t'.size then .g (aC n l.length) (vq (.ptr (fR t (l.getD (n:Int).toNat t.dflt))))else .f
  |_=>.f
 | .arr o,.dat (.int _) n=>match tt ty,g o with
  | .sl _ t' _,some (.arr _ t l)=>if t.size=t'.size then .g (aC n l.length) (vq (.elt o (n:Int).toNat t.size))else .f
  | .sl _ t' _,some (.rows _ _ _ l _)=>if t'.size=1 then .g (aC n l.length) (vq (.elt o (n:Int).toNat 1))else .f
  | .sl _ t' _,some (.perm _ _ _ _ ix _)=>if t'.size=1 then .g (aC n ix.length) (vq (.elt o (n:Int).toNat 1))else .f
  |_,_=>.f
 | .row o i,.dat (.int _) n=>match tt ty,g o with
  | .sl _ t' _,some (.rows _ _ t l none)=>if t.size=t'.size then .g (aC n (l.getD i []).length) (vq (.relt o i (n:Int).toNat t.size))else .f
  |_,_=>.f
 |_,_=>.f
def X5(tt:Nat->TD)(ty:Nat):AV->AV->Tr QR
 | .dat .str s,.dat (.int _) n=>match tt ty with
  | .sc .str=>.g (aC n (List.length (α:=UInt8) s)) (iq .u8 ((List.getD (α:=UInt8) s (n:Int).toNat 0).toNat:Int))
  |_=>.f
 |_,_=>.f
def j8(tt:Nat->TD)(g:Nat->Option Ob)(ty:Nat):AV->Tr QR
 | .dat (.slice _) l=>match tt ty with
  | .sl _ _ _=>iq .i64 (l.length:Int)
  |_=>.f
 | .nilsl=>match tt ty with
  | .sl _ _ _=>iq .i64 (0:Int)
  |_=>.f
 | .arr o=>match tt ty,g o with
  | .sl _ _ _,some (.arr _ _ l)=>iq .i64 (l.length:Int)
  | .sl _ _ _,some (.rows _ _ _ l _)=>iq .i64 (l.length:Int)
  | .sl _ _ _,some (.perm _ _ _ _ ix _)=>iq .i64 (ix.length:Int)
  |_,_=>.f
 | .dat .str s=>match tt ty with
  | .sc .str=>iq .i64 (List.length (α:=UInt8) s:Int)
  |_=>.f
 |_=>.f
def aDo(t:Ty):AV->Option t.I
 | .agg cs=>if t.size=1 then none else hJ t cs
 |v=>if t.size=1 then Us t v else none
def Qh:(ts:List Ty)->List AV->Option (HL ts)
 | [],[]=>some ()
 |t::ts,v::vs=>match aDo t v,Qh ts vs with
  |some x,some h=>some (x,h)
  |_,_=>none
 |_,_=>none
def Es:(ts:List Ty)->HL ts->List AV
 | [],_=>[]
 |t::ts,(x,h)=>inj t x::Es ts h
def NQ:AV->Bool
 | .dat _ _=>true
 | .nilsl=>true
 | .arr _=>true
 | .undef=>true
 |_=>false
def NA:AV->Bool
 | .agg cs=>cs.all NQ
 |v=>NQ v
def EC:AV->Bool
 | .dat t _=>mD t
 |_=>false
def qA:Ob->Bool
 | .arr _ t _=>mD t
 | .spent=>false
 | .rows _ _ t _ _=>mD t
 | .perm _ _ _ t _ _=>mD t
 | .cells cs=>cs.any EC
def Cw(n:Nat)(r:List AV×List (Nat×Ob)):Bool:=
 r.2.all (λp=>decide (p.1<64+n)&&match p.2 with| .arr _ _ _=>true| .perm _ _ _ _ _ _=>true| .spent=>decide (64<=p.1)| .rows _ _ _ _ h=>h.isNone| .cells _=>decide (64<=p.1))&&decide (r.2.map (·.1)).Nodup&&r.1.all NA&&(List.range n).all (λi=>(r.2.map (·.1)).contains (64+i))
def nV(ρ:List Nat)(g:Nat->Option Ob):AV->Bool
 | .box o _=>match cV ρ o 64 with
  |some _=>false
  |none=>match g o with
   |some (.cells cs)=>cs.any (nX ρ)
   |_=>false
 |_=>false
def fD(ρ:List Nat)(d:Nat)(res:List AV×List (Nat×Ob)):QR×List (Nat×Ob):=
 ((match res.1 with
  | [v]=>IT ρ d v
  |vs=>.tup (vs.map (IT ρ d)),(res.2.filter λp=>decide (p.1<64)).map λp=>(d*64+p.1,p.2)),(res.2.filter λp=>decide (64<=p.1)).map λp=>(rn ρ d p.1,uV ρ d p.2))
def IW(g:Nat->Option Ob):AV->Bool
 | .arr o=>(g o).isSome
 | .row o _=>(g o).isSome
 |_=>true
def JA(g:Nat->Option Ob):AV->Bool
 | .agg cs=>cs.all (IW g)
 |v=>IW g v
def rsC(g:Nat->Option Ob):AV->Bool
 | .box o _=>match g o with
  |some (.cells cs)=>cs.all (IW g)
  |_=>false
 |_=>true
def TA(g:Nat->Option Ob):AV->Bool
 | .fn _ caps=>caps.all (rsC g)
 |v=>JA g v
def s6(g:Nat->Option Ob)(o:Nat):Bool:=
 match g o with
 |some (.cells cs)=>cs.all (TA g)
 |some (.arr _ _ _)=>true
 |some (.perm _ _ _ _ _ _)=>true
 |some .spent=>false
 |some (.rows _ _ _ _ h)=>h.isNone
 |none=>false
def pR(E:Env)(g:Nat->Option Ob)(d:Nat)(h:AV)(args:List AV):Tr (QR×List (Nat×Ob)):=
 match h with
 | .fn f caps=>match bY g args (args++caps) (E.lend f) []with
  |some ρ=>if args.all (TA g)&&caps.all (rsC g)&&decide ρ.Nodup&&ρ.all (s6 g)then
    match E.call f (args.map (R3 ρ g)++caps.map (G0 ρ g)) (kZ g ρ 64)with
    |some cr=>.c cr.R cr.x λr=>(cr.sp r).bind λe=>
      .g (Cw ρ.length e&&(!(args.any (H7 ρ)||caps.any (nV ρ g))|| !(e.1.any N3||e.2.any λp=>qA p.2))) (.l (fD ρ d e))
    |none=>.f
   else .f
  |none=>.f
 | .clo ts r p=>if args.all (JA g)then
   match Qh ts (args.map (W0 [] g))with
   |some hl=>.c r.I (p hl) λy=>.l ((inj r y,[]),[])
   |none=>.f
  else .f
 |_=>.f
structure St where
 fr:List (Nat×AV)
 ob:List (Nat×Ob)
def St.g(s:St):Nat->Option Ob:=aM s.ob
def St.slot(s:St)(i:Nat):AV:=(aM s.fr i).getD .undef
def aLq:Value->AV
 | .bool b=>.dat .bool b
 | .int k n=>.dat (.int k) n
 | .string s=>.dat .str s.data.toList
 | .slice none 0 0=>.nilsl
 |_=>.undef
def jH(fr:Nat->AV):Operand->AV
 | .tmp t=>fr t
 | .const v=>aLq v
 | .func f=>.fn f []
 | .global _=>.undef
def zA(len:Nat):Option AV->Option AV->Option (Bool×Nat×Nat)
 |none,none=>some (true,0,len)
 |none,some (.dat (.int _) h)=>some (decide ((0:Int)<=h)&&decide ((h:Int)<=(len:Int)),0,(h:Int).toNat)
 |some (.dat (.int _) l),none=>some (decide ((0:Int)<=l)&&decide ((l:Int)<=(len:Int)),(l:Int).toNat,len)
 |some (.dat (.int _) l),some (.dat (.int _) h)=>some (decide ((0:Int)<=l)&&decide ((l:Int)<=(h:Int))&&decide ((h:Int)<=(len:Int)),(l:Int).toNat,(h:Int).toNat)
 |_,_=>none
def Hn(tt:Nat->TD)(ty:Nat)(x:AV)(lo hi:Option AV):Tr QR:=
 match x,tt ty with
 | .dat (.slice t) l,.sl _ t' _=>if t.size=t'.size then match zA l.length lo hi with
   |some (b,i,j)=>.g b (vq (.dat (.slice t) ((l.take j).drop i)))
   |none=>.f
  else .f
 | .dat .str s,.sc .str=>match zA (List.length (α:=UInt8) s) lo hi with
  |some (b,i,j)=>.g b (vq (.dat .str ((List.take (α:=UInt8) j s).drop i)))
  |none=>.f
 |_,_=>.f
def qG(tt:Nat->TD)(g:Nat->Option Ob)(ty:Nat)(x:AV)(lo hi:Option AV):Tr QR:=
 match x,lo,hi with
 | .arr o,none,some (.dat (.int _) n)=>match tt ty,g o with
  | .sl _ t0 _,some (.rows _ _ _ l none)=>if t0.size=1 then .g (decide ((0:Int)<=n)&&decide ((n:Int)<=(l.length:Int))) (vq (.pre o (n:Int).toNat))else .f
  |_,_=>.f
 | .arr o,some (.dat (.int _) n),none=>match tt ty,g o with
  | .sl _ t0 _,some (.rows _ _ _ l none)=>if t0.size=1 then .g (decide ((0:Int)<=n)&&decide ((n:Int)<=(l.length:Int))) (vq (.suf o (n:Int).toNat 1))else .f
  |_,_=>.f
 |_,_,_=>Hn tt ty x lo hi
def B2{α:Type}:List α->Nat->α->List α
 | [],_,_=>[]
 |_::r,0,y=>y::r
 |x::r,i+1,y=>x::B2 r i y
def putCells(cs:List AV)(k:Nat):List AV->List AV
 | []=>cs
 |v::r=>putCells (B2 cs k v) (k+1) r
def uJ(place:Nat->Option (Nat×Nat)):List (Nat×AV)->List AV->Option (List AV)
 | [],cs=>some cs
 |(i,v)::r,cs=>match place i,cellsOf v with
  |some (off,n),some vs=>if vs.length=n/\off+n<=cs.length then uJ place r (putCells cs off vs)else none
  |_,_=>none
def qD:List (Nat×Ty)->Nat->Nat->Option (Nat×Nat)
 | [],_,_=>none
 |(_,t)::_,o,0=>some (o,t.size)
 |(_,t)::r,o,i+1=>qD r (o+t.size) i
def Ld(tt:Nat->TD)(ty:Nat)(ps:List (Nat×AV)):Tr QR:=
 match tt ty with
 | .st t fs=>(Tr.opt (uJ (qD fs 0) ps (eS t))).bind λcs=>vq (.agg cs)
 |_=>.f
def pA(t:Ty):Nat->List AV->Option (List t.I)
 |0,[]=>some []
 |0,_=>none
 |n+1,cs=>match hJ t (cs.take t.size),pA t n (cs.drop t.size)with
  |some x,some l=>some (x::l)
  |_,_=>none
def lS(tt:Nat->TD)(d:Nat)(ty n:Nat)(ps:List (Nat×AV)):Tr QR:=
 match tt ty with
 | .sl e t _=>if n<=4096/\t.size<=4096 then
   (Tr.opt (uJ (λi=>some (i*t.size,t.size)) ps (List.flatMap (fR t) (List.replicate n t.dflt)))).bind λcs=>(Tr.opt (pA t n cs)).bind λl=>.l (.arr d,[(d,.arr e t l)])else .f
 |_=>.f
def qW(tt:Nat->TD)(ty n:Nat)(ps:List (Nat×AV)):Tr AV:=
 match tt ty with
 | .sl _ t _=>if n<=4096/\t.size<=4096 then
   (Tr.opt (uJ (λi=>some (i*t.size,t.size)) ps (List.flatMap (fR t) (List.replicate n t.dflt)))).bind λcs=>(Tr.opt (pA t n cs)).bind λl=>.l (.dat (.slice t) l)else .f
 |_=>.f
def qO(tt:Nat->TD)(g:Nat->Option Ob)(d:Nat)(ty n:Nat)(ps:List (Nat×AV)):Tr QR:=
 match tt ty,n,ps with
 | .sl e te _,1,[(0,.arr p)]=>match tt e,g p with
  | .sl e2 t _,some (.arr e3 t3 _)=>if te.size=1/\e3=e2/\(Ty.eq? t3 t).isSome=true then .l (.arr d,[(d,.rows e e2 t [[]] (some (0,some p)))])else .f
  |_,_=>.f
 |_,_,_=>lS tt d ty n ps
def Mg(tt:Nat->TD)(d:Nat)(ty:Nat):AV->AV->Tr QR
 | .dat (.int _) l,.dat (.int _) c=>match tt ty with
  | .sl e t b=>.g (decide ((0:Int)<=l)&&decide ((l:Int)<=c)&&decide ((b:Int)*c<=281474976710656)) (if 0<b then .l (.arr d,[(d,.arr e t (List.replicate (l:Int).toNat t.dflt))])else .f)
  |_=>.f
 |_,_=>.f
def zN(tt:Nat->TD)(ty i:Nat):AV->Tr QR
 | .box o k=>match vC tt ty i with
  |some (_,off)=>vq (.box o (k+off))
  |none=>.f
 | .ptr cs=>match vC tt ty i with
  |some (_,off)=>if off<cs.length then vq (.ptr (cs.drop off))else .f
  |none=>.f
 | .elt o j z=>match vC tt ty i with
  |some (_,off)=>vq (.fld o j z off)
  |none=>.f
 |_=>.f
def oE(g:Nat->Option Ob)(t:Ty):AV->Option (List t.I)
 | .dat (.slice t') l=>Ty.cast (.slice t') (.slice t) l
 | .nilsl=>some []
 | .arr o=>match g o with
  |some (.arr _ t' l)=>Ty.cast (.slice t') (.slice t) l
  |_=>none
 |_=>none
def vB(l:List Int):List UInt8:=l.map λn=>UInt8.ofNat n.toNat
def I1(tt:Nat->TD)(g:Nat->Option Ob)(s d:Nat):AV->Tr QR
 | .dat (.int _) n=>match tt s,tt d with
  | .sc (.int _),.sc (.int k)=>iq k (k.wrap n)
  |_,_=>.f
 |x=>match oE g (.int .u8) x,tt s,tt d with
  |some l,.sl e _ _,.sc .str=>match tt e with
   | .sc (.int .u8)=>vq (.dat .str (vB l))
   |_=>.f
  |_,_,_=>.f
def SZ:AV->AV->AV->Tr QR
 | .dat .bool b,x,y=>.t b (vq x) (vq y)
 |_,_,_=>.f
def Gg(tt:Nat->TD)(ty:Nat):Option (List AV):=
 match tt ty with
 | .sc t=>some (eS t)
 | .sl _ _ _=>some [.nilsl]
 | .st t _=>some (eS t)
 | .no=>none
def zF(mx:Bool):List AV->Tr QR
 | [.dat (.int k) a,.dat (.int k') b]=>if k=k' then iq k (if mx then(if(a:Int)<b then b else a)else(if(b:Int)<a then b else a))else .f
 |_=>.f
def wI(tt:Nat->TD):List (Nat×Ty)->List AV->List AV->Option Bool
 | [],[],[]=>some true
 |(ty,_)::fs,.dat (.int k) a::r,.dat (.int k') b::r'=>match tt ty with
  | .sc (.int _)=>if k=k' then match wI tt fs r r' with
    |some z=>some (((a:Int)==b)&&z)
    |none=>none
   else none
  |_=>none
 |(ty,_)::fs,.dat .bool a::r,.dat .bool b::r'=>match tt ty with
  | .sc .bool=>match wI tt fs r r' with
   |some z=>some (((a:Bool)==b)&&z)
   |none=>none
  |_=>none
 |(ty,_)::fs,.dat .str a::r,.dat .str b::r'=>match tt ty with
  | .sc .str=>match wI tt fs r r' with
   |some z=>some (((a:List UInt8)==b)&&z)
   |none=>none
  |_=>none
 |_,_,_=>none
def aKV:Ty->Bool
 | .int _=>true
 | .bool=>true
 | .str=>true
 |_=>false
def Yx(fs:List (Nat×Ty)):Bool:=fs.all λp=>aKV p.2
def aCX(tt:Nat->TD)(op:BinOp)(ty:Nat)(x y:AV):Tr QR:=
 match x,y with
 | .agg a,.agg b=>match tt ty with
  | .st _ fs=>match Yx fs with
   |true=>match wI tt fs a b with
    |some z=>match op with
     | .eql=>bq z
     | .neq=>bq (!z)
     |_=>.f
    |none=>.f
   |false=>.f
  |_=>.f
 |x,y=>YT tt op ty x y
def w9(neq:Bool)(g:Nat->Option Ob):AV->Tr QR
 | .nilsl=>bq (!neq)
 | .dat (.slice _) l=>.g (decide (0<l.length)) (bq neq)
 | .arr o=>match g o with
  |some (.arr _ _ l)=>.g (decide (0<l.length)) (bq neq)
  |_=>.f
 |_=>.f
def O7(tt:Nat->TD)(g:Nat->Option Ob)(op:BinOp)(ty:Nat)(x y:AV):Tr QR:=
 match y,op,tt ty with
 | .nilsl,.eql,.sl _ _ _=>w9 false g x
 | .nilsl,.neq,.sl _ _ _=>w9 true g x
 |y,op,_=>aCX tt op ty x y
def aq(tt:Nat->TD)(g:Nat->Option Ob)(f:Operand->AV)(o:Oper):Tr QR:=
 match o.op,o.dst with
 | .move x,some _=>vq (f x)
 | .assign x,some _=>vq (f x)
 | .pick c a b,some _=>SZ (f c) (f a) (f b)
 | .binOp op ty x y _,some _=>O7 tt g op ty (f x) (f y)
 | .unOp op _ x,some _=>aun op (f x)
 | .convert s d x,some _=>I1 tt g s d (f x)
 | .box _ x,some d=>(Tr.opt (cellsOf (f x))).bind λcs=>.l (.box d 0,[(d,.cells cs)])
 | .alloc e,some d=>(Tr.opt (Gg tt e)).bind λcs=>.l (.box d 0,[(d,.cells cs)])
 | .load ty x,some _=>pW tt g ty (f x)
 | .nilCheck x,some _=>match f x with
  | .box o k=>vq (.box o k)
  | .ptr cs=>vq (.ptr cs)
  |_=>.f
 | .fieldAddr ty x i,some _=>zN tt ty i (f x)
 | .indexAddr ty x i,some _=>lD tt g ty (f x) (f i)
 | .index ty x i,some _=>X5 tt ty (f x) (f i)
 | .extract x i,some _=>match f x with
  | .tup vs=>(Tr.opt (aP vs i)).bind vq
  |_=>.f
 | .slice ty x lo hi none,some _=>qG tt g ty (f x) (lo.map f) (hi.map f)
 | .build ty ps,some _=>Ld tt ty (ps.toList.map λp=>(p.1,f p.2))
 | .buildSlice ty n ps,some d=>qO tt g d ty n (ps.toList.map λp=>(p.1,f p.2))
 | .makeSlice ty l c,some d=>Mg tt d ty (f l) (f c)
 | .makeFunc (.func k) first caps,some _=>if first.size=0 then vq (.fn k (caps.toList.map f))else if caps.size=0 then vq (.bnd k (first.toList.map λx=>Dx (f x)))else .f
 | .call {callee:=.builtin .len,args:=as,argTypes:=ts},some _=>match as.toList,ts.toList with
  | [x],[ty]=>j8 tt g ty (f x)
  |_,_=>.f
 | .call {callee:=.builtin .min,args:=as,..},some _=>zF false (as.toList.map f)
 | .call {callee:=.builtin .max,args:=as,..},some _=>zF true (as.toList.map f)
 |_,_=>.f
def mK(o:Nat)(d:AV):AV->AV
 | .arr p=>match Nat.beq p o with
  |true=>d
  |false=>.arr p
 | .row p i=>match Nat.beq p o with
  |true=>.undef
  |false=>.row p i
 | .relt p i n s=>match Nat.beq p o with
  |true=>.undef
  |false=>.relt p i n s
 | .elt p i s=>match Nat.beq p o with
  |true=>.undef
  |false=>.elt p i s
 | .fld p i s k=>match Nat.beq p o with
  |true=>.undef
  |false=>.fld p i s k
 | .suf p i s=>match Nat.beq p o with
  |true=>.undef
  |false=>.suf p i s
 | .pre p i=>match Nat.beq p o with
  |true=>.undef
  |false=>.pre p i
 | .box p k=>match Nat.beq p o with
  |true=>.undef
  |false=>.box p k
 | .dat t v=>.dat t v
 | .nilsl=>.nilsl
 | .clo ts r p=>.clo ts r p
 | .fn f []=>.fn f []
 |_=>.undef
def Uy(o:Nat)(d:AV):AV->AV
 | .ptr cs=>.ptr (cs.map (mK o d))
 |v=>mK o d v
def Ej(o:Nat)(d:AV):AV->AV
 | .agg cs=>.agg (cs.map (mK o d))
 | .fn f caps=>.fn f (caps.map (Uy o d))
 | .bnd f fs=>.bnd f (fs.map Dx)
 |v=>Uy o d v
def yL(o:Nat)(d:AV):AV->AV
 | .tup vs=>.tup (vs.map (Ej o d))
 |v=>Ej o d v
def XO(o:Nat):Option (Nat×Option Nat)->Option (Nat×Option Nat)
 |some (i,some d)=>match Nat.beq d o with
  |true=>some (i,none)
  |false=>some (i,some d)
 |h=>h
def gG(o:Nat)(d:AV):Ob->Ob
 | .rows e e2 t l h=>.rows e e2 t l (XO o h)
 | .cells cs=>.cells (cs.map (Ej o d))
 |x=>x
def St.swap(s:St)(o:Nat)(d:AV)(w:List (Nat×Ob)):St:=
 {fr:=s.fr.map λp=>(p.1,yL o d p.2),ob:=w++(s.ob.filter λp=> !(Nat.beq p.1 o)).map λp=>(p.1,gG o d p.2)}
def holds(d:Nat):Ob->Bool
 | .rows _ _ _ _ (some (_,some d'))=>Nat.beq d' d
 |_=>false
def St.freeze(s:St)(d:Nat):St:=
 match s.g d with
 |some (.arr e t l)=>match s.ob.find? (λp=>holds d p.2)with
  |some p=>match s.g p.1 with
   |some (.rows e1 e2 t2 l2 (some (i,some d')))=>match Nat.beq d' d,Nat.beq e2 e,Ty.cast (.slice t) (.slice t2) l with
    |true,true,some l'=>s.swap d .undef [(p.1,.rows e1 e2 t2 (l2.set i l') none)]
    |_,_,_=>s
   |_=>s
  |none=>s.swap d (.dat (.slice t) l) []
 |some (.rows _ _ t l none)=>s.swap d (.dat (.slice (.slice t)) l) []
 |some (.perm _ _ _ t ix l)=>s.swap d (.dat (.slice (.slice t)) (bH ix l)) []
 |_=>s
def St.kill(s:St)(p:Nat):St:= {fr:=s.fr.map λq=>(q.1,yL p (.arr p) q.2),ob:=s.ob.map λq=>(q.1,gG p (.arr p) q.2)}
def St.kills(s:St)(l:List Nat):St:=l.foldl St.kill s
def St.take(s:St)(k d:Nat):St:=
 match s.slot k with
 | .row p i=>match s.g p,s.g d with
  |some (.rows e e2 t l none),none=>if d≠p then{fr:=(k,.arr d)::s.fr,ob:=(d,.arr e2 t (l.getD i []))::(p,.rows e e2 t l (some (i,some d)))::s.ob}else s
  |_,_=>s
 |_=>s
def uQ(g:Nat->Option Ob)(p:Nat×Ob):Bool:=match p.2 with
 | .rows _ _ _ _ (some _)=>false
 | .perm false _ _ _ _ _=>false
 |_=>match g p.1 with
  |some (.rows _ _ _ _ _)=>true
  |some (.perm _ _ _ _ _ _)=>true
  |_=>false
def cT(g:Nat->Option Ob)(objs:List (Nat×Ob)):List Nat:=(objs.filter (uQ g)).map (·.1)
def R0:AV->List Nat
 | .arr o=>[o]
 | .agg cs=>cs.flatMap fun| .arr o=>[o]|_=>[]
 |_=>[]
def St.backR(s:St)(o p:Nat):St:=
 match s.g o,s.g p with
 |some (.rows e1 e2 t2 l2 (some (i,some d'))),some (.arr e t l)=>match Nat.beq d' p,Nat.beq e2 e,Ty.cast (.slice t) (.slice t2) l with
  |true,true,some l'=>s.swap p (.row o i) [(o,.rows e1 e2 t2 (l2.set i l') none)]
  |_,_,_=>s.freeze p
 |_,_=>s.freeze p
def St.freezes(s:St)(l:List Nat):St:=l.foldl St.freeze s
def St.drop(s:St)(p:Nat):St:=s.swap p .undef []
def St.perm(s:St)(o:Nat):St:=
 match s.g o with
 |some (.rows e e2 t l none)=>s.swap o (.arr o) [(o,.perm false e e2 t (List.range l.length) l)]
 |_=>s
def St.perms(s:St)(l:List Nat):St:=l.foldl St.perm s
def St.pull(s:St)(k d:Nat):St:=
 match s.slot k with
 | .row p i=>match s.g p,s.g d with
  |some (.perm _ _ e2 t _ l),none=> {fr:=(k,.arr d)::(s.swap p .undef []).fr,ob:=(d,.arr e2 t (l.getD i []))::(s.swap p .undef []).ob}
  |some (.rows _ e2 t l none),none=> {fr:=(k,.arr d)::(s.swap p .undef []).fr,ob:=(d,.arr e2 t (l.getD i []))::(s.swap p .undef []).ob}
  |_,_=>s
 |_=>s
def St.ahead(s0 s:St):List Nat->St
 | []=>s
 |k::r=>St.ahead s0 (match Nat.ble 2000000 k with
  |true=>match Nat.ble 4000000 k with
   |true=>match Nat.ble 80000000 k with
    |true=>s.perms (R0 (s0.slot (k-80000000)))
    |false=>s.drop (k-5000000)
   |false=>s.take (k-2000000) (k-1500000)
  |false=>s.freezes (R0 (s0.slot k))) r
def one:AV->Bool
 | .undef=>false
 | .skip=>false
 | .agg _=>false
 | .tup _=>false
 |_=>true
structure LU where
 d:Option (Nat×AV)
 und:Option Nat
 objs:List (Nat×Ob)
def St.app(s:St)(u:LU):St:=
 {fr:=match u.d with
   |some p=>p::(match u.und with|some b=>(b,.undef)::s.fr|none=>s.fr)
   |none=>s.fr
  ob:=u.objs++s.ob}
def pB(tt:Nat->TD)(g:Nat->Option Ob)(ty:Nat)(a v:AV):Tr LU:=
 match a with
 | .box o k=>match g o,cellsOf v,fJ tt ty with
  |some (.cells cs),some vs,some sz=>if vs.length=sz.1/\k+vs.length<=cs.length/\vs.all one=true then .l ⟨none,none,[(o,.cells (putCells cs k vs))]⟩else .f
  |_,_,_=>.f
 | .elt o i z=>match g o,fJ tt ty with
  |some (.arr e t l),some sz=>if sz.1=t.size/\z=t.size then match NI t v with
    |some x=>.g (decide (i<l.length)) (.l ⟨none,none,[(o,.arr e t (l.set i x))]⟩)
    |none=>.f
   else .f
  |some (.perm _ e e2 t ix l),some sz=>if sz.1=1/\z=1 then match v with
    | .row p j=>if p=o then .g (decide (i<ix.length)) (.l ⟨none,none,[(o,.perm false e e2 t (ix.set i j) l)]⟩)else .f
    |_=>.f
   else .f
  |_,_=>.f
 |_=>.f
def hY(tt:Nat->TD)(g:Nat->Option Ob)(d ty p i:Nat)(x:AV):Tr LU:=
 match tt ty,g p,g d with
 | .sl e t b,some (.rows e1 e2 t2 l none),none=>match oE g t x,Ty.cast (.slice t2) (.slice t) (l.getD i [])with
  |some src,some r=>if e2=e/\0<b/\d≠p then .g (decide ((r.length+src.length)*b<=140737488355328)) (.l ⟨some (d,.arr d),none,[(d,.arr e t (r++src)),(p,.rows e1 e2 t2 l (some (i,none)))]⟩)else .f
  |_,_=>.f
 |_,_,_=>.f
def P8(tt:Nat->TD)(d:Nat)(ty:Nat)(a x:AV)(s:St):Tr St:=
 match a with
 | .row p i=>(hY tt s.g d ty p i x).bind λu=>.l (s.app u)
 |a=>match tt ty with
 | .sl e t b=>match oE s.g t x with
  |some src=>match a with
   | .arr o=>match s.g o with
    |some (.arr e' t' l)=>match Ty.cast (.slice t') (.slice t) l with
     |some l'=>if e'=e/\0<b then .g (decide ((l'.length+src.length)*b<=140737488355328))
       (.l {fr:=(d,.arr o)::s.fr.map (λp=>(p.1,yL o .undef p.2)),ob:=(o,.arr e t (l'++src))::(s.ob.filter λp=> !(Nat.beq p.1 o)).map λp=>(p.1,gG o .undef p.2)})else .f
     |none=>.f
    |_=>.f
   | .nilsl=>match s.g d with
    |none=>if 0<b then .g (decide (src.length*b<=140737488355328)) (.l {fr:=(d,.arr d)::s.fr,ob:=(d,.arr e t src)::s.ob})else .f
    |some _=>.f
   |_=>.f
  |none=>.f
 |_=>.f
def mU(tt:Nat->TD)(g:Nat->Option Ob)(d ty:Nat)(b:Nat)(a x:AV):Tr LU:=
 match tt ty with
 | .sl e t by'=>match oE g t x with
  |some src=>match a with
   | .arr o=>match g o with
    |some (.arr e' t' l)=>match Ty.cast (.slice t') (.slice t) l with
     |some l'=>if e'=e/\0<by' then .g (decide ((l'.length+src.length)*by'<=140737488355328)) (.l ⟨some (d,.arr o),some b,[(o,.arr e t (l'++src))]⟩)else .f
     |none=>.f
    |_=>.f
   |_=>.f
  |none=>.f
 |_=>.f
def jO(g:Nat->Option Ob)(l:List (Nat×Ob)):Bool:=l.all (λp=>match g p.1 with|none=>true|some _=>false)&&decide (l.map (·.1)).Nodup
def vP(E:Env)(tt:Nat->TD)(g:Nat->Option Ob)(f:Operand->AV)(o:Oper):Tr LU:=
 match o.op,o.dst with
 | .store ty a v,none=>pB tt g ty (f a) (f v)
 | .call {callee:=.builtin .append,args:=as,argTypes:=ts},some d=>match as.toList,ts.toList with
  | [.tmp b,y],[ty,ty']=>if ty=ty' then match f (.tmp b)with
    | .row p i=>hY tt g d ty p i (f y)
    |a=>mU tt g d ty b a (f y)
   else .f
  |_,_=>.f
 | .call {callee:=.value h,args:=as,..},some d=>(pR E g d (f h) (as.toList.map f)).bind λr=>if jO g r.1.2 then .l ⟨some (d,r.1.1),none,r.1.2++r.2⟩else .f
 |_,some d=>(aq tt g f o).bind λq=>if jO g q.2 then .l ⟨some (d,q.1),none,q.2⟩else .f
 |_,none=>.f
def xB(E:Env)(tt:Nat->TD)(g:Nat->Option Ob)(f:Operand->AV)(o:Oper):Bool->Tr LU
 |false=>vP E tt g f o
 |true=>match o.op,o.dst with
  | .buildSlice ty n ps,some d=>(qW tt ty n (ps.toList.map λp=>(p.1,f p.2))).bind λv=>.l ⟨some (d,v),none,[]⟩
  | .move (.tmp b),some d=>.l ⟨some (d,f (.tmp b)),some b,[]⟩
  |_,_=>.f
def fP(o:Oper):Bool:=
 match o.op with
 | .call {callee:=.builtin .append,..}=>true
 |_=>false
def X8(tt:Nat->TD)(ty:Nat)(av vv:AV)(s:St):Option (Tr St):=
 match av with
 | .relt o i n z=>some (match s.g o,fJ tt ty with
  |some (.rows e e2 t l none),some sz=>if sz.1=t.size/\z=t.size then match NI t vv with
    |some x=>.g (decide (n<(l.getD i []).length)) (.l (s.app ⟨none,none,[(o,.rows e e2 t (l.set i ((l.getD i []).set n x)) none)]⟩))
    |none=>.f
   else .f
  |_,_=>.f)
 |_=>none
def xF(tt:Nat->TD)(ty:Nat)(av vv:AV)(s:St):Option (Tr St):=
 match av,vv with
 | .elt p i z,.arr q=>match s.g p,s.g q with
  |some (.rows e e2 t l h),some (.arr e3 t3 _)=>some (match fJ tt ty with
   |some sz=>if sz.1=1/\z=1/\p≠q/\e3=e2/\(Ty.eq? t3 t).isSome=true then match h with
     |none=>.g (decide (i<l.length)) (.l (((s.kill p).app ⟨none,none,[(p,.rows e e2 t l (some (i,some q)))]⟩).freeze q))
     |some (i',none)=>.g (decide (i<l.length)&&decide (i=i')) (.l (((s.kill p).app ⟨none,none,[(p,.rows e e2 t l (some (i,some q)))]⟩).freeze q))
     |some (_,some _)=>.f
    else .f
   |none=>.f)
  |_,_=>none
 |_,_=>none
def D0(tt:Nat->TD)(ty:Nat)(nv cv:AV)(d:Nat)(s:St):Tr St:=
 match nv,cv,tt ty,s.g d with
 | .dat (.int _) n,.dat (.int _) c,.sl e te b,none=>match tt e with
  | .sl e2 t _=>if te.size=1/\0<b then .g (decide ((0:Int)<=n)&&decide ((n:Int)<=c)&&decide ((b:Int)*c<=281474976710656)) (.l {fr:=(d,.arr d)::s.fr,ob:=(d,.rows e e2 t (List.replicate (n:Int).toNat []) none)::s.ob})else .f
  |_=>.f
 |_,_,_,_=>.f
def wM(tt:Nat->TD)(ty n:Nat)(ps:List (Nat×AV))(d:Nat)(s:St):Tr St:=
 match tt ty,s.g d,n,ps with
 | .sl e te _,none,0,[]=>match tt e with
  | .sl e2 t _=>if te.size=1 then .l {fr:=(d,.arr d)::s.fr,ob:=(d,.rows e e2 t [] none)::s.ob}else .f
  |_=>.f
 | .sl e te _,none,1,[(0,.arr p)]=>match tt e,s.g p with
  | .sl e2 t _,some (.arr e3 t3 _)=>if te.size=1/\e3=e2/\(Ty.eq? t3 t).isSome=true/\d≠p then .l {fr:=(d,.arr d)::s.fr,ob:=(d,.rows e e2 t [[]] (some (0,some p)))::s.ob}else .f
  |_,_=>.f
 |_,_,_,_=>.f
def AB(s:St)(d o q p e e2:Nat)(t:Ty)(l:List (List t.I)):St:=
 ({fr:=(d,.arr o)::((s.swap q .undef []).swap o .undef []).fr,ob:=(o,.rows e e2 t (l++ [[]]) (some (l.length,some p)))::((s.swap q .undef []).swap o .undef []).ob}:St).backR o p
def On(s:St)(d o q e e2:Nat)(t:Ty)(l:List (List t.I)):St:=
 {fr:=(d,.arr q)::((s.swap o .undef []).swap q .undef []).fr,ob:=(q,.rows e e2 t l none)::((s.swap o .undef []).swap q .undef []).ob}
def zJ(tt:Nat->TD)(ty ty' d:Nat)(xv yv:AV)(s:St):Option (Tr St):=
 match yv with
 | .arr q=>match s.g q with
  |some (.rows eq e4 t' lq h)=>match h with
   |some (0,some p)=>match lq with
    | [_]=>some (match tt ty,xv with
     | .sl e te b,.arr o=>match s.g o with
      |some (.rows e1 e2 t l none)=>if ty=ty'/\e1=e/\eq=e/\te.size=1/\0<b/\o≠q/\o≠p/\p≠q then .g (decide ((l.length+1)*b<=140737488355328)) (.l (AB s d o q p e1 e2 t l))else .f
      |_=>.f
     |_,_=>.f)
    |_=>none
   |none=>match tt ty,xv with
    | .sl e te b,.arr o=>match s.g o with
     |some (.rows e1 e2 t l none)=>some (match Ty.cast (.slice (.slice t')) (.slice (.slice t)) lq with
      |some l2=>if ty=ty'/\e1=e/\eq=e/\e4=e2/\te.size=1/\0<b/\o≠q then .g (decide ((l.length+List.length (α:=List t.I) l2)*b<=140737488355328)) (.l (On s d o q e1 e2 t (l++l2)))else .f
      |none=>.f)
     |_=>none
    |_,_=>none
   |_=>none
  |_=>none
 |_=>none
def Ky(tt:Nat->TD)(ty:Nat)(xv hv:AV)(d:Nat)(s:St):Option (Tr St):=
 match xv,hv with
 | .arr o,.dat (.int _) n=>match tt ty,s.g o with
  | .sl e0 t0 _,some (.perm _ e e2 t ix l)=>some (if e0=e/\t0.size=1 then .g (decide ((0:Int)<=n)&&decide ((n:Int)<=(ix.length:Int))) (.l {fr:=(d,.arr o)::s.fr.map (λp=>(p.1,yL o .undef p.2)),ob:=(o,.perm false e e2 t (ix.take (n:Int).toNat) l)::(s.ob.filter λp=> !(Nat.beq p.1 o)).map λp=>(p.1,gG o .undef p.2)})else .f)
  |_,_=>none
 |_,_=>none
def ZM(tt:Nat->TD)(ty:Nat)(xv lv:AV)(d:Nat)(s:St):Option (Tr St):=
 match xv,lv with
 | .arr o,.dat (.int _) n=>match tt ty,s.g o with
  | .sl _ t0 _,some (.perm _ _ _ _ ix _)=>some (if t0.size=1 then .g (decide ((0:Int)<=n)&&decide ((n:Int)<=(ix.length:Int))) (.l {fr:=(d,.suf o (n:Int).toNat 1)::s.fr,ob:=s.ob})else .f)
  |_,_=>none
 |_,_=>none
def Kl(tt:Nat->TD)(ty:Nat)(xv:AV)(s:St):Option (Tr St):=
 match xv with
 | .suf o i z=>match tt ty,s.g o with
  | .sl e0 t0 _,some (.perm _ e e2 t ix l)=>some (match t0 with
   | .slice _=>if e0=e/\z=1 then .l {fr:=s.fr,ob:=(o,.perm false e e2 t (ix.take i++List.replicate (ix.length-i) l.length) l)::s.ob}else .f
   |_=>.f)
  |_,_=>none
 |_=>none
def aBI(tt:Nat->TD)(ty d:Nat)(xv yv:AV)(s:St):Option (Tr St):=
 match xv,yv with
 | .pre o i,.suf p j z=>match Nat.beq p o,tt ty,s.g o with
  |true,.sl e0 t0 b,some (.rows e e2 t l none)=>some (if e0=e/\t0.size=1/\z=1/\0<b then .g (decide (i<=j)&&decide ((i+(l.length-j))*b<=140737488355328)) (.l {fr:=(d,.arr o)::s.fr.map (λp=>(p.1,yL o .undef p.2)),ob:=(o,.rows e e2 t (l.take i++l.drop j) none)::(s.ob.filter λp=> !(Nat.beq p.1 o)).map λp=>(p.1,gG o .undef p.2)})else .f)
  |_,_,_=>none
 |_,_=>none
def Hc(tt:Nat->TD)(m:Bool)(o:Oper)(s:St):Option (Tr St):=
 match o.op,o.dst with
 | .store ty a v,none=>match X8 tt ty (jH s.slot a) (jH s.slot v) s with
  |some r=>some r
  |none=>xF tt ty (jH s.slot a) (jH s.slot v) s
 | .makeSlice ty n c,some d=>match m with
  |true=>some (D0 tt ty (jH s.slot n) (jH s.slot c) d s)
  |false=>none
 | .buildSlice ty n ps,some d=>match m with
  |true=>some (wM tt ty n (ps.toList.map λp=>(p.1,jH s.slot p.2)) d s)
  |false=>none
 | .call {callee:=.builtin .append,args:=as,argTypes:=ts},some d=>match as.toList,ts.toList with
  | [x,y],[ty,ty']=>match Nat.beq ty ty' with
   |true=>match aBI tt ty d (jH s.slot x) (jH s.slot y) s with
    |some r=>some r
    |none=>zJ tt ty ty' d (jH s.slot x) (jH s.slot y) s
   |false=>zJ tt ty ty' d (jH s.slot x) (jH s.slot y) s
  |_,_=>none
 | .slice ty x none (some h) none,some d=>Ky tt ty (jH s.slot x) (jH s.slot h) d s
 | .slice ty x (some l) none none,some d=>ZM tt ty (jH s.slot x) (jH s.slot l) d s
 | .call {callee:=.builtin .clear,args:=as,argTypes:=ts},none=>match as.toList,ts.toList with
  | [x],[ty]=>Kl tt ty (jH s.slot x) s
  |_,_=>none
 |_,_=>none
def aop(E:Env)(tt:Nat->TD)(fz:Nat->List Nat)(o:Oper)(i:Nat)(s0:St):Tr St:=
 let s:=St.ahead s0 s0 (fz i)
 match(fz i).any (Nat.beq 140000000)with
 |true=>.f
 |false=>
 match Hc tt ((fz i).any (Nat.beq 1000000)) o s with
 |some r=>r
 |none=>match fP o with
 |true=>match o.op,o.dst with
  | .call {callee:=.builtin .append,args:=as,argTypes:=ts},some d=>match as.toList,ts.toList with
   | [x,y],[ty,ty']=>if ty=ty' then P8 tt d ty (jH s.slot x) (jH s.slot y) s else .f
   |_,_=>.f
  |_,_=>.f
 |false=>(vP E tt s.g (jH s.slot) o).bind λu=>.l ((s.kills (cT s.g u.objs)).app u)
def tA(E:Env)(tt:Nat->TD)(fz:Nat->List Nat)(ops:Nat->Option Oper):List Oper->Nat->St->Tr St
 | [],_,s=>.l s
 |o::r,i,s=>
  match o.guard with
  |none=>(aop E tt fz o i s).bind (tA E tt fz ops r (i+1))
  |some (j,want)=>match(ops j).bind (·.dst)with
   |some dj=>match s.slot dj with
    | .dat .bool b=>
     let sk (b':Bool):Tr St:=match o.dst with
      |some d=>tA E tt fz ops r (i+1) {s with fr:=(d,.skip)::(dj,.dat .bool b')::s.fr}
      |none=>tA E tt fz ops r (i+1) {s with fr:=(dj,.dat .bool b')::s.fr}
     let go (b':Bool):Tr St:=(aop E tt fz o i {s with fr:=(dj,.dat .bool b')::s.fr}).bind (tA E tt fz ops r (i+1))
     match want with
     |true=>.t b (go true) (sk false)
     |false=>.t b (sk true) (go false)
    | .skip=>match o.dst with
     |some d=>tA E tt fz ops r (i+1) {s with fr:=(d,.skip)::s.fr}
     |none=>tA E tt fz ops r (i+1) s
    |_=>.f
   |none=>.f
def bR(o:Oper):List Nat:=(o.after.toList.filter (Region.binds .any)).map (·.on)
def oA(ops:List Oper)(p:Nat):Bool:=
 (List.range ops.length).all (λi=>match aP ops i with
  |some o=> !Nat.blt p i||(bR o).any (Nat.beq (i-1))
  |none=>true)&&
 (Nat.beq p ops.length||(List.range p).all λi=>(List.range (p+1)).any λj=>Nat.blt i j&&match aP ops j with
  |some o=>(bR o).any (Nat.beq i)
  |none=>false)
def CN(ops:List Oper):Bool:=
 (List.range ops.length).all (λi=>match aP ops i with
  |some o=>(bR o).all λe=>Nat.blt e i
  |none=>true)
def C8(f:Nat->Bool):Nat->Nat->Nat
 |0,i=>i
 |n+1,i=>match f i with
  |true=>i
  |false=>C8 f n (i+1)
def jN(ops:List Oper):Nat:=C8 (oA ops) ops.length 0
def dd:List Nat->Nat->List Nat
 | [],_=>[]
 |x::l,m=>match Nat.beq (Nat.land (Nat.shiftRight m x) 1) 1 with
  |true=>dd l m
  |false=>x::dd l (Nat.lor m (Nat.shiftLeft 1 x))
def vU:List Oper->List (List Nat)->List (List Nat)
 | [],acc=>acc
 |o::r,acc=>vU r (acc++ [dd (bR o++(bR o).flatMap λj=>(aP acc j).getD []) 0])
def LU.touch(u:LU):List Nat:=match u.d with
 |some p=>p.1::(match u.und with|some b=>[b]|none=>[])
 |none=>[]
def LU.ids(u:LU):List Nat:=u.objs.map (·.1)
def fU:AV->List Nat
 | .arr o=>[o]
 | .box o _=>[o]
 | .elt o _ _=>[o]
 | .fld o _ _ _=>[o]
 | .row o _=>[o]
 | .relt o _ _ _=>[o]
 | .suf o _ _=>[o]
 | .pre o _=>[o]
 |_=>[]
def Mh:AV->List Nat
 | .ptr cs=>cs.flatMap fU
 | .agg cs=>cs.flatMap fU
 |v=>fU v
def v9:AV->List Nat
 | .agg cs=>cs.flatMap fU
 | .fn _ caps=>caps.flatMap Mh
 |v=>Mh v
def Sj:Ob->List Nat
 | .cells cs=>cs.flatMap v9
 | .perm _ _ _ _ _ _=>[]
 | .spent=>[]
 | .rows _ _ _ _ h=>match h with
  |some (_,some d)=>[d]
  |_=>[]
 | .arr _ _ _=>[]
def Zy(g:Nat->Option Ob):Nat->List Nat->List Nat
 |0,l=>l
 |n+1,l=>l++Zy g n (l.flatMap λo=>match g o with|some x=>Sj x|none=>[])
def has(l:List Nat)(n:Nat):Bool:=l.any (Nat.beq n)
def Qq(l m:List Nat):Bool:=l.all λx=> !has m x
def Gu(o:Nat):AV->Bool
 | .arr p=> !Nat.beq p o
 | .elt p _ _=> !Nat.beq p o
 | .fld p _ _ _=> !Nat.beq p o
 | .row p _=> !Nat.beq p o
 | .relt p _ _ _=> !Nat.beq p o
 | .suf p _ _=> !Nat.beq p o
 | .pre p _=> !Nat.beq p o
 | .box p _=> !Nat.beq p o
 | .dat _ _=>true
 | .nilsl=>true
 | .undef=>true
 | .clo _ _ _=>true
 | .fn _ []=>true
 |_=>false
def clC(o:Nat):AV->Bool
 | .ptr cs=>cs.all (Gu o)
 |v=>Gu o v
def UE(o:Nat):AV->Bool
 | .agg cs=>cs.all (Gu o)
 | .fn _ caps=>caps.all (clC o)
 |v=>clC o v
def QP(o:Nat):AV->Bool
 | .tup vs=>vs.all (UE o)
 | .skip=>true
 |v=>UE o v
def Fw(o:Nat):Ob->Bool
 | .cells cs=>cs.all (UE o)
 | .perm _ _ _ _ _ _=>true
 | .spent=>true
 | .rows _ _ _ _ h=>match h with
  |some (_,some d)=> !Nat.beq d o
  |_=>true
 | .arr _ _ _=>true
def pM(g:Nat->Option Ob)(l:List Nat):Bool:=l.all λo=>match g o with|some x=>(Sj x).all (has l)|none=>true
def sS(o:Oper):Bool:=
 match o.op with
 | .load .. =>true
 | .fieldAddr .. =>true
 |_=>false
def qF(g:Nat->Option Ob)(sl:Nat->AV)(o:Oper):List Nat:=Zy g (match sS o with|true=>0|false=>3) (o.op.operands.toList.flatMap λx=>v9 (jH sl x))
def mL(E:Env)(tt:Nat->TD)(ops:Nat->Option Oper)(ds:Nat->Bool):List Oper->St->List (LU×List Nat)->Tr (St×List (LU×List Nat))
 | [],s,acc=>.l (s,acc)
 |o::r,s,acc=>
  let run (s:St):Tr (St×List (LU×List Nat)):=(xB E tt s.g (jH s.slot) o (ds acc.length)).bind λu=>match(sS o||pM s.g (qF s.g s.slot o))&&(cT s.g u.objs).isEmpty with
   |true=>mL E tt ops ds r (s.app u) (acc++ [(u,qF s.g s.slot o)])
   |false=>.f
  let skip (s:St):Tr (St×List (LU×List Nat)):=let u:LU:=⟨o.dst.map λd=>(d,.skip),none,[]⟩;mL E tt ops ds r (s.app u) (acc++ [(u,[])])
  match o.guard with
  |none=>run s
  |some (j,want)=>match(ops j).bind (·.dst)with
   |some dj=>match s.slot dj with
    | .dat .bool b=>match want with
     |true=>.t b (run {s with fr:=(dj,.dat .bool true)::s.fr}) (skip {s with fr:=(dj,.dat .bool false)::s.fr})
     |false=>.t b (skip {s with fr:=(dj,.dat .bool true)::s.fr}) (run {s with fr:=(dj,.dat .bool false)::s.fr})
    | .skip=>skip s
    |_=>.f
   |none=>.f
def zI(ops:List Oper)(o:Oper):List Nat:=
 (o.op.operands.toList.filterMap fun| .tmp t=>some t|_=>none)++
 (match o.guard with
  |some (g,_)=>((aP ops g).bind (·.dst)).toList
  |none=>[])
def mA(o:Oper):Bool:=
 match o.op with
 | .indexAddr .. =>true
 | .move _=>true
 | .assign _=>true
 | .nilCheck _=>true
 | .call {callee:=.builtin .len,..}=>true
 |_=>false
def qV(o:Oper):Bool:=
 match o.op with
 | .store .. =>true
 |_=>false
def U4(o:Oper):Bool:=
 match o.op with
 | .move _=>true
 | .assign _=>true
 |_=>false
def Pk(ops:List Oper)(tr:List (LU×List Nat))(o:Oper)(x:LU×List Nat):List Nat:=
 match U4 o with
 |true=>[]
 |false=>
 match mA o&&x.2.all (λn=>(List.range tr.length).all λk=>match aP tr k,aP ops k with
  |some y,some ok=> !has y.1.ids n||qV ok
  |_,_=>true)with
 |true=>[]
 |false=>x.2
def apart(l l':List Nat)(x y:LU×List Nat):Bool:=
 Qq x.1.touch (l'++y.1.touch)&&Qq y.1.touch l&&Qq x.1.ids (y.2++y.1.ids)&&Qq y.1.ids x.2
def Yr(ops:List Oper)(an:List (List Nat))(tr:List (LU×List Nat))(i j:Nat):Bool:=
 match aP ops i,aP ops j,aP tr i,aP tr j,aP an j with
 |some oi,some oj,some x,some y,some a=>has a i||apart (zI ops oi) (zI ops oj) (x.1,Pk ops tr oi x) (y.1,Pk ops tr oj y)
 |_,_,_,_,_=>false
def Ma(an:List (List Nat))(tr:List (LU×List Nat))(k t:Nat):Bool:=
 match aP an k with
 |some ak=>(List.range tr.length).any λm=>has ak m&&match aP tr m with
  |some z=>(match z.1.und with
   |some c=>Nat.beq c t
   |none=>false)
  |none=>false
 |none=>false
def RG(an:List (List Nat))(s:St)(tr:List (LU×List Nat))(k:Nat)(x:LU×List Nat):Bool:=
 match x.1.und with
 |none=>true
 |some b=>x.1.ids.all λo=>
   s.fr.all (λq=>Nat.beq q.1 b||QP o q.2||Ma an tr k q.1)&&s.ob.all (λq=>Nat.beq q.1 o||Fw o q.2)&&
   (List.range tr.length).all λn=>match aP tr n,aP an n,aP an k with
    |some y,some a,some ak=>Nat.beq n k||has a k||
     ((match y.1.d with
      |some q=>QP o q.2||Nat.beq q.1 b||(List.range tr.length).any λm=>Nat.blt n m&&has ak m&&match aP tr m with
       |some z=>match z.1.und with
        |some c=>Nat.beq c q.1
        |none=>false
       |none=>false
      |none=>true)&&y.1.objs.all λq=>Nat.beq q.1 o||Fw o q.2)
    |_,_,_=>false
def T3(ops:List Oper)(p:Nat)(s:St)(tr:List (LU×List Nat)):Bool:=
 let an:=vU ops []
 CN ops&&(List.range p).all (λj=>(List.range j).all λi=>Yr ops an tr i j)&&(List.range p).all λk=>match aP tr k with
  |some x=>RG an s tr k x
  |none=>false
def CJ(E:Env)(tt:Nat->TD)(fz:Nat->List Nat)(ops:Nat->Option Oper)(l:List Oper)(s0:St):Tr St:=
 let p:=jN l
 let s:=St.ahead s0 s0 (fz 0)
 (mL E tt ops (λi=>(fz 0).any (Nat.beq (60000000+i))) (l.take p) s []).bind λr=>match T3 l p s r.2 with
  |true=>tA E tt fz ops (l.drop p) p r.1
  |false=>.f
inductive Out where
 |normal (s:St)
 |exit (id:Nat) (s:St)
 |ret (s:St)
@[reducible] def Orc:=Nat->St->Option (Tr Out)
def cR(E:Env)(tt:Nat->TD)(fz:Nat->Nat->List Nat)(orc:Orc):Code->St->Tr Out
 | .skip,s=>.l (.normal s)
 | .region id ops draw,s=>(match draw with
  |true=>CJ E tt (fz id) (λj=>ops[j]?) ops.toList s
  |false=>tA E tt (fz id) (λj=>ops[j]?) ops.toList 0 s).bind λs'=>.l (.normal s')
 | .seq a b,s=>(cR E tt fz orc a s).bind fun
  | .normal s'=>cR E tt fz orc b s'
  |o=>.l o
 | .cond c a b,s=>match jH s.slot c with
  | .dat .bool v=>.t v (cR E tt fz orc a s) (cR E tt fz orc b s)
  |_=>.f
 | .block id (.loop _),s=>match orc id s with
  |some x=>x
  |none=>.f
 | .block id b,s=>(cR E tt fz orc b s).bind fun
  | .exit i s'=>match Nat.beq i id with
   |true=>.l (.normal s')
   |false=>.l (.exit i s')
  |o=>.l o
 | .exit id,s=>.l (.exit id s)
 | .ret,s=>.l (.ret s)
 |_,_=>.f
inductive Sh where
 |dat (t:Ty)
 |arr (o:Nat)
 |box (o k:Nat)
 |row (o:Nat)
 |nilsl
 |clo (ts:List Ty) (r:Ty)
 |nil
 |cons (a b:Sh)
 |fn (f:Nat) (caps:Sh)
 |ptr (cs:Sh)
 |agg (cs:Sh)
@[reducible] def Sh.I:Sh->Type
 | .dat t=>t.I
 | .row _=>Nat
 | .clo ts r=>HL ts->Option r.I
 | .cons a b=>a.I×b.I
 | .fn _ c=>c.I
 | .ptr c=>c.I
 | .agg c=>c.I
 |_=>Unit
def val:(s:Sh)->s.I->List AV
 | .dat t,x=>[.dat t x]
 | .arr o,_=>[.arr o]
 | .box o k,_=>[.box o k]
 | .row o,i=>[.row o i]
 | .nilsl,_=>[.nilsl]
 | .clo ts r,p=>[.clo ts r p]
 | .nil,_=>[]
 | .cons a b,x=>val a x.1++val b x.2
 | .fn f c,x=>[.fn f (val c x)]
 | .ptr c,x=>[.ptr (val c x)]
 | .agg c,x=>[.agg (val c x)]
def Ty.eqs? :(a b:List Ty)->Option (PLift (a=b))
 | [],[]=>some ⟨rfl⟩
 |a::as,b::bs=>match Ty.eq? a b,Ty.eqs? as bs with
  |some ⟨h⟩,some ⟨k⟩=>some ⟨by rw[h,k]⟩
  |_,_=>none
 |_,_=>none
def W3(ts ts':List Ty)(r r':Ty)(p:HL ts->Option r.I):Option (HL ts'->Option r'.I):=
 match Ty.eqs? ts ts',Ty.eq? r r' with
 |some ⟨h⟩,some ⟨k⟩=>some (h▸k▸p)
 |_,_=>none
def P2(r:Ty)(x:Option CR):Option r.I:=
 match x with
 |some cr=>cr.x.bind λy=>match cr.emb y with
  |([v],objs)=>match v with
   | .dat t d=>match mD t with
    |false=>Ty.cast t r d
    |true=>none
   |_=>none
  |_=>none
 |none=>none
def Vz(E:Env)(f:Nat)(caps:List AV)(ts:List Ty)(r:Ty)(h:HL ts):Option r.I:=P2 r (E.call f (Es ts h++caps) [])
def Yf(E:Env)(f:Nat)(fs:List AV)(ts:List Ty)(r:Ty)(h:HL ts):Option r.I:=P2 r (E.call f (fs++Es ts h) [])
def un1(t:Ty):AV->Option t.I
 | .dat t' v=>Ty.cast t' t v
 | .nilsl=>match t with
  | .slice _=>some []
  |_=>none
 |_=>none
def cl0:AV->Bool
 | .dat _ _=>true
 | .nilsl=>true
 | .undef=>true
 | .clo _ _ _=>true
 | .fn _ []=>true
 |_=>false
def WB:AV->Bool
 | .ptr cs=>cs.all cl0
 |_=>false
def U0:AV->Bool
 | .dat _ _=>true
 | .nilsl=>true
 | .undef=>true
 |_=>false
def Bq:AV->Bool
 | .agg cs=>cs.all U0
 |v=>U0 v
def un(E:Env):(s:Sh)->List AV->Option (s.I×List AV)
 | .nil,l=>some ((),l)
 | .cons a b,l=>match un E a l with
  |some (x,r)=>match un E b r with
   |some (y,r')=>some ((x,y),r')
   |none=>none
  |none=>none
 | .dat t,l=>match l with
  |v::r=>match un1 t v with
   |some x=>some (x,r)
   |none=>none
  |_=>none
 | .arr o,l=>match l with
  | .arr o'::r=>match Nat.beq o o' with
   |true=>some ((),r)
   |false=>none
  |_=>none
 | .box o k,l=>match l with
  | .box o' k'::r=>match Nat.beq o o',Nat.beq k k' with
   |true,true=>some ((),r)
   |_,_=>none
  |_=>none
 | .row o,l=>match l with
  | .row o' i::r=>match Nat.beq o o' with
   |true=>some (i,r)
   |false=>none
  |_=>none
 | .nilsl,l=>match l with
  | .nilsl::r=>some ((),r)
  |_=>none
 | .clo ts rt,l=>match l with
  | .clo ts' rt' p::r=>match W3 ts' ts rt' rt p with
   |some q=>some (q,r)
   |none=>none
  | .fn f caps::r=>match Nat.beq rt.size 1,caps.all WB&&(E.lend f).isEmpty with
   |true,true=>some (Vz E f caps ts rt,r)
   |_,_=>none
  | .bnd f fs::r=>match Nat.beq rt.size 1,fs.all Bq&&(E.lend f).isEmpty with
   |true,true=>some (Yf E f fs ts rt,r)
   |_,_=>none
  |_=>none
 | .fn f c,l=>match l with
  | .fn f' caps::r=>match Nat.beq f f',un E c caps with
   |true,some (x,[])=>some (x,r)
   |_,_=>none
  |_=>none
 | .ptr c,l=>match l with
  | .ptr cs::r=>match un E c cs with
   |some (x,[])=>some (x,r)
   |_=>none
  |_=>none
 | .agg c,l=>match l with
  | .agg cs::r=>match un E c cs with
   |some (x,[])=>some (x,r)
   |_=>none
  |_=>none
def E0:Env:=⟨λ_ _ _=>none,λ_=>[]⟩
inductive OSh where
 |arr (e:Nat) (t:Ty)
 |rows (e e2:Nat) (t:Ty)
 |perm (e e2:Nat) (t:Ty)
 |cells (c:Sh)
@[reducible] def OSh.I:OSh->Type
 | .arr _ t=>List t.I
 | .rows _ _ t=>List (List t.I)
 | .perm _ _ t=>List Nat×List (List t.I)
 | .cells c=>c.I
def OSh.mk:(o:OSh)->o.I->Ob
 | .arr e t,l=>.arr e t l
 | .rows e e2 t,l=>.rows e e2 t l none
 | .perm e e2 t,x=>.perm false e e2 t x.1 x.2
 | .cells c,x=>.cells (val c x)
def OSh.un:(o:OSh)->Ob->Option o.I
 | .arr e t,.arr e' t' l=>match Nat.beq e e' with
  |true=>Ty.cast (.slice t') (.slice t) l
  |false=>none
 | .rows e e2 t,.rows e' e2' t' l none=>match Nat.beq e e',Nat.beq e2 e2' with
  |true,true=>Ty.cast (.slice (.slice t')) (.slice (.slice t)) l
  |_,_=>none
 | .perm e e2 t,.perm _ e' e2' t' ix l=>match Nat.beq e e',Nat.beq e2 e2' with
  |true,true=>match Ty.cast (.slice (.slice t')) (.slice (.slice t)) l with
   |some y=>some (ix,y)
   |none=>none
  |_,_=>none
 | .cells c,.cells cs=>match Go.Proofs.YtjiljcblmgeioaaGreatDoor.un E0 c cs with
  |some (x,[])=>some x
  |_=>none
 |_,_=>none
@[reducible] def OL:List (Nat×OSh)->Type
 | []=>Unit
 |(_,o)::r=>o.I×OL r
def eR:(l:List (Nat×OSh))->OL l->List (Nat×Ob)
 | [],_=>[]
 |(i,o)::r,x=>(i,o.mk x.1)::eR r x.2
def K1(g:Nat->Option Ob):(l:List (Nat×OSh))->Option (OL l)
 | []=>some ()
 |(i,o)::r=>match g i with
  |some x=>match o.un x,K1 g r with
   |some y,some z=>some (y,z)
   |_,_=>none
  |none=>none
structure SSh where
 slots:List Nat
 sh:Sh
 obs:List (Nat×OSh)
@[reducible] def SSh.T (S:SSh):Type:=S.sh.I×OL S.obs
def FJ:List Nat->List AV->List (Nat×AV)
 |i::is,v::vs=>(i,v)::FJ is vs
 |_,_=>[]
def y8(S:SSh)(x:S.T):St:= {fr:=FJ S.slots (val S.sh x.1),ob:=eR S.obs x.2}
def aBq(S:SSh)(s:St):Option S.T:=
 match un E0 S.sh (S.slots.map s.slot)with
 |some (x,[])=>match K1 s.g S.obs with
  |some y=>some (x,y)
  |none=>none
 |_=>none
def Sh.okIds(ids:List Nat):Sh->Bool
 | .arr o=>ids.any (Nat.beq o)
 | .box o _=>ids.any (Nat.beq o)
 | .row o=>ids.any (Nat.beq o)
 | .cons a b=>a.okIds ids&&b.okIds ids
 | .fn _ c=>c.okIds ids
 | .ptr c=>c.okIds ids
 | .agg c=>c.okIds ids
 |_=>true
def OSh.okIds(ids:List Nat):OSh->Bool
 | .arr _ _=>true
 | .rows _ _ _=>true
 | .perm _ _ _=>true
 | .cells c=>c.okIds ids
def SSh.ok(S:SSh):Bool:=
 S.sh.okIds (S.obs.map (·.1))&&S.obs.all λp=>p.2.okIds (S.obs.map (·.1))
inductive CA where
 |fz (o:Nat)
 |rep (o o':Nat)
 |own (i o e:Nat) (t:Ty)
 |ownB (p j o e:Nat) (t:Ty)
 |drop (o:Nat)
 |perm (o:Nat)
 |pull (k d:Nat)
 |ownRB (p j o e e2:Nat) (t:Ty)
 |ren (o o':Nat)
 |pin (i o':Nat)
 |pinB (p j o':Nat)
 |repB (p j o':Nat)
def St.ren(s:St)(o o':Nat):St:=
 match s.g o,s.g o' with
 |some (.arr e t l),none=>s.swap o (.arr o') [(o',.arr e t l)]
 |some (.rows e e2 t l none),none=>s.swap o (.arr o') [(o',.rows e e2 t l none)]
 |some (.perm k e e2 t ix l),none=>s.swap o (.arr o') [(o',.perm k e e2 t ix l)]
 |_,_=>s
def St.act(s:St):CA->St
 | .fz o=>s.freeze o
 | .rep o o'=>match s.g o,Nat.beq o o' with
  |some (.arr _ _ _),false=>(s.freeze o').ren o o'
  |_,_=>s
 | .own i o e t=>match s.slot i,s.g o with
  | .nilsl,none=> {fr:=(i,.arr o)::s.fr,ob:=(o,.arr e t [])::s.ob}
  |_,_=>s
 | .drop o=>s.drop o
 | .perm o=>s.perm o
 | .pull k d=>s.pull k d
 | .ownB p j o e t=>match s.g p,s.g o with
  |some (.cells cs),none=>match aP cs j with
   |some .nilsl=> {fr:=s.fr,ob:=(p,.cells (cs.set j (.arr o)))::(o,.arr e t [])::s.ob}
   |_=>s
  |_,_=>s
 | .ownRB p j o e e2 t=>match s.g p,s.g o with
  |some (.cells cs),none=>match aP cs j with
   |some .nilsl=> {fr:=s.fr,ob:=(p,.cells (cs.set j (.arr o)))::(o,.rows e e2 t [] none)::s.ob}
   |_=>s
  |_,_=>s
 | .ren o o'=>s.ren o o'
 | .pin i o'=>match s.slot i with
  | .arr o=>s.ren o o'
  |_=>s
 | .pinB p j o'=>match s.g p with
  |some (.cells cs)=>match aP cs j with
   |some (.arr o)=>s.ren o o'
   |_=>s
  |_=>s
 | .repB p j o'=>match s.g p with
  |some (.cells cs)=>match aP cs j with
   |some (.arr o)=>match Nat.beq o o' with
    |false=>(s.drop o').ren o o'
    |true=>s
   |_=>s
  |_=>s
def St.acts(s:St)(l:List CA):St:=l.foldl St.act s
structure Keep where
 acts:List CA
 S:SSh
def Keep.at(k:Keep)(s:St):Option k.S.T:=aBq k.S (s.acts k.acts)
inductive Ex where
 |exit (id:Nat) (s:St)
 |ret (s:St)
def Ex.out:Ex->Out
 | .exit id s=>.exit id s
 | .ret s=>.ret s
def Ex.at(id:Nat):Ex->Out
 | .exit i s=>match Nat.beq i id with
  |true=>.normal s
  |false=>.exit i s
 | .ret s=>.ret s
def hC{V R:Type}(f:V->Option (V⊕R)):Nat->V->Option R
 |0,_=>none
 |n+1,v=>match f v with
  |some (.inl v')=>hC f n v'
  |some (.inr r)=>some r
  |none=>none
open Classical in
noncomputable def aB{V R:Type}(f:V->Option (V⊕R))(v:V):Option R:=
 match hC f 1000000 v with
 |some r=>some r
 |none=>if h:∃r n,hC f n v=some r then some h.choose else none
structure LD where
 head:Keep
 exits:List (Nat×Keep)
 rets:Keep
 K:Type
 V:Type
 R:Type
 join:K->V->head.S.T
 sk:head.S.T->K
 sv:head.S.T->V
 step:K->V->Tr (V⊕R)
 leaf:K->R->Tr Ex
def qT(h:Option Keep)(ex:List (Nat×Keep))(rt:Keep):Out->Option Out
 | .normal s=>match h with
  |some h=>(h.at s).map λt=>.normal (y8 h.S t)
  |none=>none
 | .exit i s=>match aM ex i with
  |some k=>(k.at s).map λt=>.exit i (y8 k.S t)
  |none=>none
 | .ret s=>(rt.at s).map λt=>.ret (y8 rt.S t)
noncomputable def LD.orc(d:LD)(id:Nat)(s:St):Option (Tr Out):=
 (d.head.at s).map λt=>.c d.R (aB (λv=>(d.step (d.sk t) v).ev) (d.sv t)) λr=>(d.leaf (d.sk t) r).map (Ex.at id)
def LD.next(d:LD)(k:d.K):d.V⊕d.R->Tr (Option Out)
 | .inl v=>.l (some (.normal (y8 d.head.S (d.join k v))))
 | .inr r=>(d.leaf k r).map λe=>some e.out
structure LD.OK(E:Env)(tt:Nat->TD)(fz:Nat->Nat->List Nat)(orc:Orc)(b:Code)(d:LD):Prop where
 ok:d.head.S.ok=true
 oke:d.exits.all (λp=>p.2.S.ok)=true
 okr:d.rets.S.ok=true
 eta:∀t,d.join (d.sk t) (d.sv t)=t
 step:∀k v,((cR E tt fz orc b (y8 d.head.S (d.join k v))).map (qT (some d.head) d.exits d.rets)).ev=((d.step k v).bind (d.next k)).ev
noncomputable def fQ:List (Nat×LD)->Orc
 | [],_,_=>none
 |(n,d)::r,id,s=>match Nat.beq n id with
  |true=>match d.orc id s with
   |some x=>some x
   |none=>fQ r id s
  |false=>fQ r id s
structure FD where
 A:Sh
 ins:List (Nat×OSh)
 lend:List LP
 R:Type
 F:A.I×OL ins->Option R
 emb:R->List AV×List (Nat×Ob)
 sp:R->Tr (List AV×List (Nat×Ob)):=λr=>.l (emb r)
 spok:∀r,(sp r).ev=some (emb r):=by exact λ_=>rfl
@[reducible] def FD.T (d:FD):Type:=d.A.I×OL d.ins
def qL{α β:Type}:List (Nat×α)->List (Nat×β)->Bool
 | [],[]=>true
 |(i,_)::r,(j,_)::r'=>Nat.beq i j&&qL r r'
 |_,_=>false
def FD.cr(E:Env)(d:FD)(args:List AV)(obs:List (Nat×Ob)):Option CR:=
 match un E d.A args with
 |some (x,[])=>match qL obs d.ins with
  |true=>match K1 (aM obs) d.ins with
   |some y=>some ⟨d.R,d.F (x,y),d.emb,d.sp,d.spok⟩
   |none=>none
  |false=>none
 |_=>none
def pP:List (Nat×FD)->Env
 | []=>E0
 |(f,d)::r=>⟨λf' args obs=>match Nat.beq f f' with
  |true=>d.cr (pP r) args obs
  |false=>(pP r).call f' args obs,λf'=>match Nat.beq f f' with
  |true=>d.lend
  |false=>(pP r).lend f'⟩
def mE(A:Sh)(ins:List (Nat×OSh))(x:A.I×OL ins):St:= {fr:=FJ (List.range (val A x.1).length) (val A x.1),ob:=eR ins x.2}
structure RetK where
 acts:List CA
 res:List ResultVar
 sh:Sh
 obs:List (Nat×OSh)
 pins:List (Nat×Nat×Nat)
 gone:List Nat:=[]
@[reducible] def RetK.T (k:RetK):Type:=k.sh.I×OL k.obs
def EG(tt:Nat->TD)(s:St):ResultVar->Option AV
 | .tmp i=>some (s.slot i)
 | .cell a ty=>match s.slot a,fJ tt ty with
  | .box o k,some sz=>match s.g o with
   |some (.cells cs)=>cut cs k sz
   |_=>none
  |_,_=>none
def w6(tt:Nat->TD)(s:St):List ResultVar->Option (List AV)
 | []=>some []
 |r::l=>match EG tt s r,w6 tt s l with
  |some v,some vs=>some (v::vs)
  |_,_=>none
def RetK.ok(k:RetK):Bool:=k.sh.okIds (k.obs.map (·.1))&&(k.obs.all λp=>p.2.okIds (k.obs.map (·.1)))&&k.obs.all λp=>Nat.blt p.1 64||(k.pins.any λq=>Nat.beq q.2.2 p.1)
def tV(v:AV)(c o:Nat):Bool:=
 match c with
 |0=>match v with
  | .box p 0=>Nat.beq p o
  | .arr p=>Nat.beq p o
  |_=>false
 |j+1=>match v with
  | .agg cs=>match aP cs j with
   |some (.arr p)=>Nat.beq p o
   |_=>false
  | .fn _ cs=>match aP cs j with
   |some (.box p 0)=>Nat.beq p o
   |_=>false
  |_=>false
def RetK.at(tt:Nat->TD)(k:RetK)(s:St):Option k.T:=
 match k.pins.all λq=>tV ((s.acts k.acts).slot q.1) q.2.1 q.2.2 with
 |true=>match w6 tt (s.acts k.acts) k.res with
  |some vs=>match un E0 k.sh vs with
   |some (x,[])=>match K1 (s.acts k.acts).g k.obs with
    |some y=>some (x,y)
    |none=>none
   |_=>none
  |none=>none
 |false=>none
def zH(tt:Nat->TD)(rt:RetK):Out->Option rt.T
 | .normal s=>rt.at tt s
 | .ret s=>rt.at tt s
 | .exit _ _=>none
def atB(tt:Nat->TD)(r1 r2:RetK)(s:St):Option (r1.T⊕r2.T):=
 match r1.at tt s with
 |some x=>some (.inl x)
 |none=>match r2.at tt s with
  |some y=>some (.inr y)
  |none=>none
def Z5(tt:Nat->TD)(r1 r2:RetK):Out->Option (r1.T⊕r2.T)
 | .normal s=>atB tt r1 r2 s
 | .ret s=>atB tt r1 r2 s
 | .exit _ _=>none
end Go.Proofs.YtjiljcblmgeioaaGreatDoor
