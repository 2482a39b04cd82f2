/-
 strings.Split at a separator of one byte, strings.Join, and impl.ParseInt, by the shelf's contracts.
-/
import Derived.Test.YteiekijgoifhoaaGreatDoorB37
import Derived.Test.YteiekijgoifhoaaGreatDoorB32
import Derived.Test.YteiekijgoifhoaaGreatDoorShelf
import Derived.WalkKit
import Derived.Lib.SplitLaws
import Derived.Laws.CopyOwn
import Derived.Deep.RegionLaw
import Derived.Deep.LoopGhost
import Derived.OwnWalk
namespace Go.Proofs.YteiekijgoifhoaaGreatDoor
open Go.RowKit (Below)
open Go.Proofs.Tryz
theorem repL_strs{S:Nat→Prop}{w:World}:∀l:List (List UInt8),RepL S w .str l (l.map fun s=>Value.string ⟨s.toArray⟩)
 | []=>rfl
 |x::l=>⟨[.string ⟨x.toArray⟩],l.map fun s=>Value.string ⟨s.toArray⟩,rfl,rfl,repL_strs l⟩
theorem map_bytes(l:List ByteArray):(l.map (·.data.toList)).map (fun s=>Value.string ⟨s.toArray⟩)=l.map Value.string:=by
 rw [List.map_map]
 exact xcn fun x _=>by simp
theorem alloc_new(w:World)(o:Obj):(w.alloc o).heap[w.heap.size]? =some o:=by
 show(w.heap.push o)[w.heap.size]? =some o
 simp
set_option maxHeartbeats 1000000 in
theorem split_byte(c:UInt8)(s:ByteArray)(w:World)(hs:s.size<4294967281):
  Calls prog 55 #[.string s,.string ⟨#[c]⟩] w fun e w'=>
   e=.returned (.slice (some ⟨w.heap.size,0,none⟩) (Lib.countB s ⟨#[c]⟩+1) (Lib.countB s ⟨#[c]⟩+1))∧w'=w.alloc (.cells ((Lib.splitB ⟨#[c]⟩ 0 (Lib.countB s ⟨#[c]⟩) s).map Value.string).toArray 9):=by
 have L:=Tryz.lays146
 have h1:1≤(⟨#[c]⟩:ByteArray).size:=xm _
 have hle:=Lib.countB_le ⟨#[c]⟩ h1 s.size s (xm _)
 have hlen:=Lib.splitB_all ⟨#[c]⟩ h1 0 _ s rfl
 have hcnt:Calls prog (Tryz.lays146_ren.f 138) #[.string s,.string ⟨#[c]⟩] w fun e w'=>e=.returned (.int .i64 (Lib.countB s ⟨#[c]⟩))∧w'=w:=by
  refine(Any.strings_Count_one {L with} s c w).mono fun e w' ⟨he,hw⟩=>⟨?_,hw⟩
  rw [he]
  show _=Ending.returned (Value.int .i64 ((Lib.count s.data.toList [c]:Nat):Int))
  rw [Lib.count_one]
  rfl
 have cc:=Any.strings_genSplit_core {L with} (by kernel_rfl) s ⟨#[c]⟩ 0 (-1) (Lib.countB s ⟨#[c]⟩+1) w hs h1 (xcp _)
  (fun x cs _=>(Any.strings_Index_one {L with} x c _).mono fun e w' ⟨he,hw⟩=>⟨by rw [he,←Lib.index_one],hw⟩) hcnt (by decide) (by decide) (by rw [if_pos (by decide)];omega)
 rw [xfi,hlen] at cc
 have e2:Lib.cellsOf (Lib.splitB ⟨#[c]⟩ 0 (Lib.countB s ⟨#[c]⟩) s) (Lib.countB s ⟨#[c]⟩+1)=((Lib.splitB ⟨#[c]⟩ 0 (Lib.countB s ⟨#[c]⟩) s).map Value.string).toArray:=by rw [←hlen];exact Lib.cellsOf_full _
 rw [e2] at cc
 go_enter func55,(show(f55).ntmps=_ from rfl)
 go_wp2_with (go_at_call 111;refine cc.mono ?_;rintro e w' ⟨rfl,hw⟩;rw [hw])
 go_ret
 exact⟨rfl,rfl⟩
def splitF(s sep:List UInt8):Option (List (List UInt8)):=if s.length<4294967281∧sep.length=1 then some (Lib.split s sep) else none
def fdSplit:FD where
 A:=.cons (.dat .str) (.cons (.dat .str) .nil)
 ins:=[]
 lend:=[]
 R:=List (List UInt8)
 F:=fun x=>splitF x.1.1 x.1.2.1
 emb:=fun r=>([.arr 0],[(0,.arr 9 .str r)])
theorem hand_split:FDok prog (55,fdSplit):=by
 intro x r hr w X μi vals hX hm hins hsz hv
 obtain⟨⟨s,sep,u⟩,v⟩:=x
 have hr':splitF s sep=some r:=hr
 unfold splitF at hr'
 split at hr'
 next hin=>
  have e:=xbz hr'
  subst e
  obtain⟨x,y,rfl,h1,h2⟩:=args2 (v:=.dat .str s) (u:=.dat .str sep) hsz hv
  rw [str_of h1,str_of h2]
  obtain⟨c,hc⟩:∃c,sep=[c]:=xem.1 hin.2
  subst hc
  have hb:f55.body.isSome=true:=by kernel_rfl
  obtain⟨b,hb⟩:=xbq.1 hb
  have hsize:(⟨s.toArray⟩:ByteArray).size=s.length:=by simp [ByteArray.size]
  have hle:=Lib.countB_le ⟨#[c]⟩ (xm _) _ ⟨s.toArray⟩ (xm _)
  have hlen:=Lib.splitB_all ⟨#[c]⟩ (xm _) 0 _ ⟨s.toArray⟩ rfl
  have hd:(Lib.splitB ⟨#[c]⟩ 0 (Lib.countB ⟨s.toArray⟩ ⟨#[c]⟩) ⟨s.toArray⟩).map (·.data.toList)=Lib.split s [c]:=Lib.splitB_data _ _ _ _
  have hln:(Lib.split s [c]).length=Lib.countB ⟨s.toArray⟩ ⟨#[c]⟩+1:=by rw [←hd,xaw,hlen]
  refine .inl ⟨run_enter func55 (by kernel_rfl) hb _ w,(split_byte c ⟨s.toArray⟩ w (by rw [hsize];exact hin.1)).mono fun e w' ⟨he,hw⟩=>⟨_,he,?_⟩⟩
  subst hw
  have hbe:Below w.heap.size w (w.alloc (.cells ((Lib.splitB ⟨#[c]⟩ 0 (Lib.countB ⟨s.toArray⟩ ⟨#[c]⟩) ⟨s.toArray⟩).map Value.string).toArray 9)):=(Below.refl _ _).alloc (xm _) _
  refine res_ownG (t:=.str) (cs:=(Lib.split s [c]).map fun s=>Value.string ⟨s.toArray⟩) (fun S=>repL_strs _) ?_ (Kept.of hbe hm.hlo) hX hm.hlo hm.tab
  rw [←hd,map_bytes,xaw,hlen]
  refine⟨by simp [hlen,Ty.size],.inr ⟨w.heap.size,_,_,rfl,xm _,alloc_new _ _,xm _,?_,?_,?_⟩⟩
  ·unfold maxLen;omega
  ·simp [hlen,Ty.size]
  ·rw [show Ty.size .str=1 from rfl,xbw]
   exact xah (by simp [hlen])
 next=>cases hr'
def joinF(l:List (List UInt8))(sep:List UInt8):Option (List UInt8):=if l.length≤140737488355328∧(Lib.join l sep).length≤140737488355328 then some (Lib.join l sep) else none
def fdJoin:FD where
 A:=.cons (.dat (.slice .str)) (.cons (.dat .str) .nil)
 ins:=[]
 lend:=[]
 R:=List UInt8
 F:=fun x=>joinF x.1.1 x.1.2.1
 emb:=fun r=>([.dat .str r],[])
theorem hand_join:FDok prog (179,fdJoin):=by
 intro x r hr w X μi vals hX hm hins hsz hv
 obtain⟨⟨l,sep,u⟩,v⟩:=x
 have hr':joinF l sep=some r:=hr
 unfold joinF at hr'
 split at hr'
 next hin=>
  have e:=xbz hr'
  subst e
  obtain⟨x,y,rfl,h1,h2⟩:=args2 (v:=.dat (.slice .str) l) (u:=.dat .str sep) hsz hv
  rw [str_of h2]
  have hb:f179.body.isSome=true:=by kernel_rfl
  obtain⟨b,hb⟩:=xbq.1 hb
  have hrep:Rep (SS X μi) w (.slice .str) l [x]:=by
   cases h1 with|dat _ hr=>exact hr
  simp only [Rep] at hrep
  obtain⟨a,cap,e,hcap,hel⟩:=hrep
  simp only [xbt,and_true] at e
  subst e
  refine .inl ⟨run_enter func179 (by kernel_rfl) hb _ w,?_⟩
  have fin:∀ {w':World},Below w.heap.size w w'→ResOK prog X (old w μi) w w' μi (fdJoin.emb (Lib.join l sep)) (.string ⟨(Lib.join l sep).toArray⟩):=fun hb=>res_dat rfl (fun _=>rfl) (Kept.of hb hm.hlo) hX hm.hlo hm.tab
  cases l with
  |nil=>
   refine(Tryz.strings_Join_none a cap ⟨sep.toArray⟩ w).mono fun e w' ⟨he,hw⟩=>⟨_,he,?_⟩
   subst hw
   exact fin (Below.refl _ _)
  |cons y l=>
   obtain⟨b,off,c',ha,_⟩:=hel 0 y rfl
   subst ha
   have hmap:((y::l).map fun s=>(⟨s.toArray⟩:ByteArray)).map (·.data.toList)=y::l:=by
    rw [List.map_map]
    exact(xcn fun x _=>by simp).trans (List.map_id _)
   have hlt:b<w.heap.size:=by
    obtain⟨b',off',c1,h1,_,h3,h4⟩:=hel 0 y rfl
    cases h1
    subst h3
    have:=h4 0 _ rfl
    exact World.block_lt_of_cell? _ _ this
   have hcell:∀ (j:Nat) x,((y::l).map fun s=>(⟨s.toArray⟩:ByteArray))[j]? =some x→w.cell? ⟨b,off+j,none⟩=some (.string x):=fun j x hx=>by
    rw [xr] at hx
    obtain⟨z,hz,rfl⟩:=xbb.1 hx
    obtain⟨b',off',c1,h1,_,h3,h4⟩:=hel j z hz
    cases h1
    subst h3
    have:=h4 0 _ rfl
    simpa only [Ty.size,xbw,xbd] using this
   have c:=Tryz.strings_Join b off cap ((y::l).map fun s=>(⟨s.toArray⟩:ByteArray)) ⟨sep.toArray⟩ w hcell hlt (by rw [xaw];exact hin.1) (by rw [xaw];exact hcap) (by rw [hmap];exact hin.2)
   rw [hmap,xaw] at c
   exact c.mono fun e w' ⟨he,hb⟩=>⟨_,he,fin hb⟩
 next=>cases hr'
theorem below_grow{w w':World}{k:Nat}{os:Array Obj}(h:w'=Sort.grow (w.drewN k) os):Below w.heap.size w w':=by
 subst h
 exact⟨rfl,rfl,rfl,by rw [Sort.size_grow];exact Nat.le_add_right _ _,fun b hb=>by
  show(w.heap++os)[b]? =w.heap[b]?
  exact xbh hb⟩
def parseF(s:List UInt8):Option (Int×Bool):=match Lib.atoiAll s with
 | .ok v=>if s.length≤1048576 then some (if-999999≤v∧v≤999999∧Lib.itoa v=s then(v,true) else(0,false)) else none
 |_=>none
def fdParse:FD where
 A:=.cons (.dat .str) .nil
 ins:=[]
 lend:=[]
 R:=Int×Bool
 F:=fun x=>parseF x.1.1
 emb:=fun r=>([.dat (.int .i64) r.1,.dat .bool r.2],[])
set_option maxHeartbeats 2000000 in
theorem parse_run(s:List UInt8)(hs:s.length≤1048576)(v:Int)(hv:Lib.atoiAll s=.ok v)(r:Int×Bool)(hr:(if-999999≤v∧v≤999999∧Lib.itoa v=s then(v,true) else(0,false))=r)(w:World)(htab:∀w',Below w.heap.size w w'→Lib.TabIs prog w' "internal/strconv.uint64pow10" .u64 Lib.pow10Tab):
  Calls prog 127 #[.string ⟨s.toArray⟩] w fun e w'=>e=.returned (.tuple #[.int .i64 r.1,.bool r.2])∧Below w.heap.size w w':=by
 have hsize:(⟨s.toArray⟩:ByteArray).size=s.length:=by simp [ByteArray.size]
 obtain⟨b0,b1⟩:=Lib.atoiAll_bounds hv
 have cA:=Tryz.strconv_Atoi_ok ⟨s.toArray⟩ (by rw [hsize];omega) v hv w
 have hb1:∀w1,(w1=w∨∃t,w1=Lib.bytesWorld w 5 t)→Below w.heap.size w w1:=fun w1 h=>by
  rcases h with rfl|⟨t,rfl⟩
  ·exact Below.refl _ _
  ·exact Lib.bytesWorld_below _ _ _
 have no:(v< -999999∨999999<v∨¬Lib.itoa v=s)→r=(0,false):=fun h=>by
  rw [←hr,if_neg]
  rintro⟨h1,h2,h3⟩
  rcases h with h|h|h
  ·omega
  ·omega
  ·exact h h3
 have yes:¬v< -999999→¬999999<v→Lib.itoa v=s→r=(v,true):=fun h1 h2 h3=>by
  rw [←hr,if_pos ⟨by omega,by omega,h3⟩]
 clear hr
 go_enter func127,(show(f127).ntmps=28 from by kernel_rfl)
 go_wp2_with (first
  |(go_at_call 191;refine cA.mono ?_;rintro e w1 ⟨rfl,hw1⟩)
  |(go_at_call 176;refine(Tryz.strconv_Itoa v b0 b1 _ (htab _ (hb1 _ (by assumption)))).mono ?_;rintro e w2 ⟨rfl,k,os,hw2⟩;have hb2:=(hb1 _ (by assumption)).trans ((below_grow hw2).mono (hb1 _ (by assumption)).size);subst hw2))
 all_goals go_ret2
 all_goals first
  |exact⟨rfl,by assumption⟩
  |exact⟨rfl,hb1 _ (by assumption)⟩
  |(rename_i h;rw [no (by
    rcases h with(h|h)|h
    ·exact .inl h
    ·exact .inr (.inl h)
    ·exact .inr (.inr (by simpa using h)))];exact⟨rfl,by assumption⟩)
  |(rename_i h;rw [yes (by omega) (by omega) (by simpa using h.2)];exact⟨rfl,by assumption⟩)
theorem hand_parse:FDok prog (127,fdParse):=by
 intro x r hr w X μi vals hX hm hins hsz hv
 obtain⟨⟨s,u⟩,v⟩:=x
 have hr':parseF s=some r:=hr
 unfold parseF at hr'
 split at hr'
 next n hn=>
  split at hr'
  next hs=>
   have e:=xbz hr'
   obtain⟨x,rfl,h1⟩:=args1 (v:=.dat .str s) hsz hv
   rw [str_of h1]
   have hb:f127.body.isSome=true:=by kernel_rfl
   obtain⟨b,hb⟩:=xbq.1 hb
   refine .inl ⟨run_enter func127 (by kernel_rfl) hb _ w,(parse_run s hs n hn r e w (fun w' h=>pow_tab (hm.tab.step fun b hb=>h.block b (hm.hlo b hb)))).mono fun e' w' ⟨he,hbe⟩=>⟨_,he,?_⟩⟩
   have hk:=Kept.of (lo:=old w μi) hbe hm.hlo
   refine⟨hk,fun _=>none,⟨hX,fun b hb=>xan (hm.hlo b hb) hk.size,fun o mv h=>(by cases h),fun o p mv mv' b h=>(by cases h),hm.tab.step hk.block⟩,fun o mv h=>(by cases h),fun p hp=>(by cases hp),.inr ⟨by simp [fdParse],.tup rfl fun j v hj=>?_⟩⟩
   match j,hj with
   |0,hj=>cases hj;exact .dat rfl rfl
   |1,hj=>cases hj;exact .dat rfl rfl
  next=>cases hr'
 next=>cases hr'
end Go.Proofs.YteiekijgoifhoaaGreatDoor
/-
 slices.Repeat at a list of one number: the copies fill an array of the caller's own.
-/
namespace Go.Proofs.YteiekijgoifhoaaGreatDoor
open Go.RowKit Go.Lib
open Go.Proofs.Tryz
theorem row_of{w:World}{b e n:Nat}{xs:List Value}(h:w.ownsRow b e 1 (.slice (some ⟨b,0,none⟩) n n) n xs):w.heap[b]? =some (.cells xs.toArray e (0,0)):=by
 rcases h.2 with⟨h1,_⟩|⟨g,cap,cur,h1,_,h2,_,_,h3,h4⟩
 ·cases h1
 ·simp only [Value.slice.injEq,xc,Addr.mk.injEq,and_true] at h1
  obtain⟨rfl,_,rfl⟩:=h1
  rw [h2,←h4,xah (by rw [xbf,h3];exact xm _)]
theorem made_ints0(n:Nat):(madeCells #[Value.int .i64 0] n).toList=List.replicate n (.int .i64 0):=by
 apply xfs
 ·simp [madeCells]
 ·intro k h1 h2
  simp [madeCells,Nat.mod_one]
theorem made_ints(n:Nat):(madeCells (Value.int .i64 0).cells (n*1)).toList=List.replicate n (.int .i64 0):=by
 rw [xbw]
 exact made_ints0 n
set_option maxHeartbeats 4000000 in
set_option maxRecDepth 100000 in
theorem rep_run(a:Addr)(c:Nat)(x:Int)(n:Nat)(hn:n≤1000)(w:World)(hx:w.cell? a=some (.int .i64 x)):
  Calls prog 167 #[.slice (some a) 1 c,.int .i64 (n:Int)] w fun e w'=>e=.returned (.slice (some ⟨w.heap.size,0,none⟩) n n)∧w'.heap[w.heap.size]? =some (.cells (List.replicate n (.int .i64 x)).toArray 3 (0,0))∧Below w.heap.size w w':=by
 have mixed:prog.follows .mixedOrders=true:=by kernel_rfl
 have hinfo:(prog.info? 3).map (fun i=>(i.zero,i.size,i.bytes))=some (some (.int .i64 0),1,8):=by kernel_rfl
 obtain⟨i,hi,hp⟩:=xbb.1 hinfo
 simp only [xdb] at hp
 obtain⟨hz,hs,hb8⟩:=hp
 have hu:prog.underlying 22=some (.slice 3):=by kernel_rfl
 have hin:(prog.info? 3).map (·.size)=some 1:=by rw [hi,←hs];rfl
 have cM:Calls prog 240 #[.int .u64 1,.int .u64 (n:Int)] w fun e w'=>e=.returned (.tuple #[.int .u64 0,.int .u64 (n:Int)])∧w'=w:=(Tryz.bits_Mul 1 n (by decide) (by omega) w).mono fun e w' ⟨he,hw⟩=>⟨by rw [he,xdg,Nat.div_eq_of_lt (by omega),xfr (by omega)];rfl,hw⟩
 go_enter func167,(show(f167).ntmps=48 from by kernel_rfl)
 obtain⟨m,hm,m1,mn,m0⟩:∃m,m=Nat.min 1 n∧m≤1∧m≤n∧(n=0∨m=1):=⟨_,rfl,Nat.min_le_left _ _,Nat.min_le_right _ _,by
  cases n with
  |zero=>exact .inl rfl
  |succ n=>exact .inr (xba (by omega))⟩
 have hlt:a.block<w.heap.size:=World.block_lt_of_cell? _ _ hx
 go_wp2_with (first
  |(go_at_call 240;refine cM.mono ?_;rintro e w1 ⟨rfl,rfl⟩)
  |(at_make;refine wpList_make_full _ rfl (.tmp 29) (.tmp 29) 22 rfl w1.heap.size 3 i (.int .i64 0) 1 hu hi hz hs .i64 .i64 (n:Int) (n:Int) n rfl rfl rfl rfl (by rw [hb8];omega) (by unfold maxLen;omega) (xm _) ?_;intro w2 hown hgr)
  |(with_reducible show wpList _ _ _ _ _ _
    have hb2:Below w1.heap.size w1 w2:=(Below.refl _ _).grown hgr (xm _) (by simp)
    have hrow:=row_of hown
    refine wpList_copy_splice rfl (.tmp 31) (.tmp 32) 22 22 rfl 3 hu hin (some ⟨w1.heap.size,0,none⟩) (some a) n n 1 c rfl rfl w1.heap.size 0 _ 3 hrow (List.replicate m (.int .i64 x)) (by rw [xak];exact hm) (fun _=>⟨rfl,a,rfl,fun j v hj=>?_⟩) ?_ (fun v hv=>by rw [xdk hv];rfl) w1.heap.size w1 hb2 (xm _) ?_))
 ·have:j=0:=by
   have:=(xk.1 hj).1
   rw [xak] at this
   omega
  subst this
  have hv:v=.int .i64 x:=xdk (xn hj)
  rw [hv,Addr.add_zero']
  exact(hb2.cell hlt).trans hx
 ·rw [made_ints,xak,xak]
  omega
 intro w3 hw3 hb3
 have hw3:w3.heap[w1.heap.size]? =some (.cells (List.replicate m (Value.int .i64 x)++List.replicate (n-m) (Value.int .i64 0)).toArray 3 (0,0)):=by
  rw [hw3.out,made_ints0,←hm]
  unfold splice
  simp
 go_wp2_with fail
 go_loopw [8] (fun q wr=>∃k:Nat,k≤n∧(n=0∨1≤k)∧q=.int .i64 k∧wr.heap[w1.heap.size]? =some (.cells (List.replicate k (Value.int .i64 x)++List.replicate (n-k) (Value.int .i64 0)).toArray 3 (0,0))∧Below w1.heap.size w1 wr)
  (fun q _=>n-(RowKit.intOf q).toNat)
 case atStart=>exact⟨m,mn,by omega,by rw [hm],hw3,hb3⟩
 case round=>
  obtain⟨k,k1,k2,rfl,hr,hb⟩:=hrel
  go_wp2
  ·rename_i hk
   have hne:¬n=k:=by omega
   obtain⟨q,hq,q1,q2,q3⟩:∃q,q=Nat.min k (n-k)∧q≤k∧q≤n-k∧1≤q:=⟨_,rfl,Nat.min_le_left _ _,Nat.min_le_right _ _,Nat.le_min.2 ⟨by omega,by omega⟩⟩
   have hsrc:Hid (∀j v,(List.replicate q (Value.int .i64 x))[j]? =some v→wr.drew.cell? ((⟨w1.heap.size,0,none⟩:Addr).add j)=some v):=fun j v hj=>by
    have hjq:j<q:=by
     have:=(xk.1 hj).1
     rwa [xak] at this
    rw [xdk (xn hj),Addr.add_lit]
    show wr.cell? _=_
    unfold World.cell?
    rw [hr]
    have hjk:j<k:=by omega
    simp [xab,hjk]
   go_region_law_o (refine step_copy_splice rfl (.tmp 41) (.tmp 44) 22 22 rfl 3 hu hin (some ⟨w1.heap.size,k,none⟩) (some ⟨w1.heap.size,0,none⟩) (n-k) (n-k) k n (by simp [Act.eval,Act.put]) (by simp [Act.eval,Act.put]) w1.heap.size k _ 3 hr (List.replicate q (.int .i64 x)) (by rw [xak];exact hq) (fun _=>⟨rfl,_,rfl,hsrc.out⟩) (by simp;omega) (fun v hv=>by rw [xdk hv];rfl) w1.heap.size w1 hb.drew (xm _) ?_;intro w4 hg4 hb4)
   go_wp2
   have hg5:=hg4.out
   rw [show splice (List.replicate k (Value.int .i64 x)++List.replicate (n-k) (Value.int .i64 0)) k (List.replicate q (.int .i64 x))=List.replicate (k+q) (Value.int .i64 x)++List.replicate (n-(k+q)) (Value.int .i64 0) by
    unfold splice
    apply xdv
    intro z
    simp [List.getElem?_append,xeh,xaa,xbc]
    repeat' split
    all_goals first|rfl|(exfalso;omega)] at hg5
   have e8:IntKind.wrap .i64 ((k:Int)+((k.min (n-k):Nat):Int))=(k:Int)+(q:Int):=by rw [←hq,wrap64 (by omega) (by omega)]
   refine⟨?_,?_⟩
   ·repeat apply Exists.intro
    refine⟨⟨k+q,by omega,by omega,?_,hg5,hb4⟩,rfl⟩
    simp [Act.put,Act.eval]
    exact e8
   ·simp [Act.put,Act.eval,RowKit.intOf]
    rw [e8]
    omega
  ·go_ret
   have hkn:k=n:=by omega
   subst hkn
   rw [xdr,List.replicate_zero,xas] at hr
   exact⟨rfl,hr,hb⟩
def repeatF(l:List Int)(n:Int):Option (List Int):=match l with
 | [x]=>if 0≤n∧n≤1000 then some (List.replicate n.toNat x) else none
 |_=>none
theorem repeatF_one{n:Nat}(h:n≤1000)(x:Int):repeatF [x] (n:Int)=some (List.replicate n x):=by
 unfold repeatF
 simp only
 rw [if_pos (by omega)]
 rfl
def fdRepeat:FD where
 A:=.cons (.dat (.slice (.int .i64))) (.cons (.dat (.int .i64)) .nil)
 ins:=[]
 lend:=[]
 R:=List Int
 F:=fun x=>repeatF x.1.1 x.1.2.1
 emb:=fun r=>([.arr 0],[(0,.arr 3 (.int .i64) r)])
theorem hand_repeat:FDok prog (167,fdRepeat):=by
 intro x r hr w X μi vals hX hm hins hsz hv
 obtain⟨⟨l,n,u⟩,v⟩:=x
 have hr':repeatF l n=some r:=hr
 unfold repeatF at hr'
 split at hr'
 next y=>
  split at hr'
  next hin=>
   have e:=xbz hr'
   subst e
   obtain⟨x,z,rfl,h1,h2⟩:=args2 (v:=.dat (.slice (.int .i64)) [y]) (u:=.dat (.int .i64) n) hsz hv
   rw [int_of h2]
   have hb:f167.body.isSome=true:=by kernel_rfl
   obtain⟨b,hb⟩:=xbq.1 hb
   have hrep:Rep (SS X μi) w (.slice (.int .i64)) [y] [x]:=by
    cases h1 with|dat _ hr=>exact hr
   simp only [Rep] at hrep
   obtain⟨a,cap,e,hcap,hel⟩:=hrep
   simp only [xbt,and_true] at e
   subst e
   obtain⟨b',off,c',ha,_,h3,h4⟩:=hel 0 y rfl
   subst ha
   subst h3
   have hcell:w.cell? ⟨b',off,none⟩=some (.int .i64 y):=by simpa using h4 0 _ rfl
   have hrun:=rep_run ⟨b',off,none⟩ cap y n.toNat (by omega) w hcell
   rw [xfc hin.1] at hrun
   refine .inl ⟨run_enter func167 (by kernel_rfl) hb _ w,hrun.mono fun e w' ⟨he,hh,hbe⟩=>⟨_,he,?_⟩⟩
   have ho:w'.ownsRow w.heap.size 3 1 (.slice (some ⟨w.heap.size,0,none⟩) n.toNat n.toNat) n.toNat ((List.replicate n.toNat y).map (Value.int .i64)):=by
    refine⟨by simp,.inr ⟨_,n.toNat,_,rfl,xm _,hh,xm _,by unfold maxLen;omega,by simp,by simp⟩⟩
   have hl:(List.replicate n.toNat y).length=n.toNat:=xak
   refine res_own (e:=3) (l:=List.replicate n.toNat y) (by rw [hl];exact ho) (Kept.of hbe hm.hlo) hX hm.hlo hm.tab
  next=>cases hr'
 next=>cases hr'
end Go.Proofs.YteiekijgoifhoaaGreatDoor
