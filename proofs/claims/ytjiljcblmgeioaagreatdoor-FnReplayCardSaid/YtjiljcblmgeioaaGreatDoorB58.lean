/- A part of the proof that FnReplay hands back true, at every argument of the row. -/
import Derived.Test.YtjiljcblmgeioaaGreatDoorB55
import Derived.Test.YtjiljcblmgeioaaGreatDoorProg
import Derived.Shelf.SlicesG.Clone
import Derived.Shelf.RegionOpenPlain
import Derived.Deep.LoopGhost
import Derived.Deep.RegionLaw
import Derived.Lib.Walk
import Derived.Sort.WalkB12
import Derived.Lib.SliceRun
import Derived.Lib.SlicesDelete
import Derived.Lib.SplitLaws
import Derived.Laws.CopyOwn
import Derived.OwnWalk
import Derived.HandedShaped
import Derived.LoopN
import Derived.Sort.WalkC4
namespace Go.Proofs.YtjiljcblmgeioaaGreatDoor
set_option linter.all false
abbrev FP[Tabs](P:Program):= {p:Nat×FD// dZ P p}
def Kq[Tabs]{P:Program}(l:List (FP P)):Env:=oN (l.map (·.1))
theorem uN[Tabs]{P:Program}(l:List (FP P)):jG P (Kq l):=wV λp hp=>by obtain⟨q,_,rfl⟩:=xaf.1 hp;exact q.2
structure Cx[Tabs](P:Program)(tt:Nat->TD):Prop where
 m:P.follows .mixedOrders=true
 t:aW P tt
def s8(l:List (Nat×List (Nat×List Nat)))(r i:Nat):List Nat:=match aM l r with
 |some l=>(aM l i).getD []
 |none=>[]
noncomputable def aHy(A:Sh)(I:List (Nat×OSh))(L:List LP){R:Type}(T:A.I×OL I->Tr R)(K:RetK)(rho:R->K.T):FD where
 A:=A
 ins:=I
 lend:=L
 R:=R
 F:=λx=>(T x).ev
 emb:=λr=>(val K.sh (rho r).1,eG K.obs (rho r).2++K.gone.map λo=>(o,.spent))
def f6(f:Func):Code:=f.body.getD .skip
noncomputable def aH[Tabs]{P:Program}{tt:Nat->TD}(h:Cx P tt){f:Nat}{fn:Func}(at_:P.funcs[f]? =some fn)(env:List (FP P))(A:Sh)(I:List (Nat×OSh))(L:List LP){R:Type}(T:A.I×OL I->Tr R)(K:RetK)(rho:R->K.T)
  (Z:Nat->Nat->List Nat:=bU) (l:List (Nat×LD):=[])
  (loops:A5 (Kq env) tt Z l (f6 fn) l:=by repeat(first|exact lpN|(refine lpC (Ug (λ_=>rfl) ?_) ?_;· intro _ _;kernel_rfl)))
  (nd:decide ((bV (f6 fn)).map (·.1)).Nodup=true:=by kernel_rfl)
  (run:∀x:A.I×OL I,((cR (Kq env) tt Z (fK l) (f6 fn) (lY A I x)).map (zA tt K)).ev=((T x).map λr=>some (rho r)).ev:=by intro _;kernel_rfl)
  (name:(fn.name== "runtime.NumGoroutine")=false:=by kernel_rfl) (body:fn.body=some (f6 fn):=by kernel_rfl) (res:fn.results=K.res.toArray:=by kernel_rfl) (ok:K.ok=true:=by kernel_rfl)
  (arity:∀x:A.I×OL I,(val A x.1).length<=fn.ntmps:=by exact λ_=>xdi (by kernel_rfl)) (pin:∀x:A.I×OL I,(K.pins.all λq=>uI ((lY A I x).slot q.1) q.2.1 q.2.2)=true:=by exact λ_=>by kernel_rfl)
  (chk:bT Z (uB K.pins) fn.ntmps (f6 fn)=true:=by kernel_rfl) (gone:(K.gone.all λo=>(Nat.ble 64 o&&(I.map (·.1)).any (Nat.beq o))&& !(K.obs.map (·.1)).any (Nat.beq o))=true:=by rfl):FP P:=
 ⟨(f,aHy A I L T K rho),GY (d:=aHy A I L T K rho) h.m (uN env) h.t ⟨at_,name,body,res,ok,arity,pin,chk,Wt nd loops,run,λ_=>rfl,λ_=>rfl,gone⟩⟩
abbrev yh(l:List Nat)(s:Sh):Keep:= {acts:=[],S:= {slots:=l,sh:=s,obs:=[]}}
abbrev yk(a:List CA)(l:List Nat)(s:Sh)(o:List (Nat×OSh)):Keep:= {acts:=a,S:= {slots:=l,sh:=s,obs:=o}}
abbrev yr(r:List ResultVar)(s:Sh):RetK:= {acts:=[],res:=r,sh:=s,obs:=[],pins:=[]}
abbrev yj:List Sh->Sh
 | []=>.nil
 |a::l=>.cons a (yj l)
def yx(i:Nat)(k:Keep)(x:k.S.T):Tr Ex:=.l (.exit i (l8 k.S x))
def yz(k:Keep)(x:k.S.T):Tr Ex:=.l (.ret (l8 k.S x))
noncomputable def yl{K V R:Type}(step:K->V->Tr (V⊕R))(head:Keep)(exits:List (Nat×Keep))(rets:Keep)(join:K->V->head.S.T)(sk:head.S.T->K)(sv:head.S.T->V)(leaf:K->R->Tr Ex):LD:=
 {head:=head,exits:=exits,rets:=rets,K:=K,V:=V,R:=R,join:=join,sk:=sk,sv:=sv,step:=step,leaf:=leaf}
section
open Go.RowKit (Below)
open Go.Proofs.Tryz
def AR:Go.Shelf.Ren:=⟨fun|41=>57|n=>n,fun|22=>24|23=>3|4=>4|n=>n,λn=>n⟩
theorem vO:SlLaysN.n41 prog AR:= {
 mixed:=by kernel_rfl
 f41:=⟨f57.name,by kernel_rfl,func57.trans (congrArg some (by kernel_rfl))⟩
 t4:=underlying4
 a4:=isAgg4
 z4:=sizeOf4
 v4:=zeroValue4
 t22:=underlying24
 a22:=isAgg24
 z22:=sizeOf24
 v22:=zeroValue24
 t23:=underlying3
 a23:=isAgg3
 z23:=sizeOf3
 v23:=zeroValue3
 i23:=by kernel_rfl}
theorem I1{S:Nat->Prop}{w:World}:∀l:List Int,RepL S w (.int .i64) l (l.map (Value.int .i64))
 | []=>rfl
 |x::l=>⟨[.int .i64 x],l.map (Value.int .i64),rfl,rfl,I1 l⟩
theorem Pc[Tabs]{P:Program}{X lo:Nat->Prop}{w w':World}{μi:Nat->Option MV}{e:Nat}{l:List Int}{v:Value}(ho:w'.ownsRow w.heap.size e 1 v l.length (l.map (Value.int .i64)))(hk:Kept lo w w')(hX:∀b,X b->lo b)(hlo:∀b,lo b->b<w.heap.size)
  (aa:TabsOK w lo):lX P X lo w w' μi ([.arr 0],[(0,.arr e (.int .i64) l)]) v:=Fq (λ_=>I1 l) ho hk hX hlo aa
def sC(l:List Int):Option (List Int):=if l.length*8<=140737488355328 then some l else none
def fdClone:FD where
 A:=.cons (.dat (.slice (.int .i64))) .nil
 ins:=[]
 lend:=[]
 R:=List Int
 F:=λx=>sC x.1.1
 emb:=λr=>([.arr 0],[(0,.arr 3 (.int .i64) r)])
theorem Gp[Tabs]:dZ prog (57,fdClone):=by
 intro x r hr w X μi vals hX hm ai af hv;obtain⟨⟨l,u⟩,v⟩:=x;have aa:sC l=some r:=hr;unfold sC at aa;split at aa
 next ah=>
  have e:l=r:=zB aa;subst e;obtain⟨x,rfl,h1⟩:=GK (v:=.dat (.slice (.int .i64)) l) af hv;have hb:f57.body.isSome=true:=by kernel_rfl
  obtain⟨c,hc⟩:=xbd.1 hb;have ab:Rep (SS X μi) w (.slice (.int .i64)) l [x]:=by cases h1 with|dat _ hr=>exact hr
  simp only[Rep]at ab;obtain⟨a,cap,e,aj,ae⟩:=ab;simp only[Np,ql]at e;subst e;refine .inl ⟨cP func57 (by kernel_rfl) hc _ w,?_⟩;have fin:∀{v':Value} {w':World},w'.ownsRow w.heap.size 3 1 v' l.length (l.map (Value.int .i64))->Below w.heap.size w w'->lX prog X (eE w μi) w w' μi (fdClone.emb l) v':=λho hb=>
   Pc ho (Kept.of hb hm.hlo) hX hm.hlo hm.tab
  cases l with
  |nil=>
   cases a with
   |none=>
    refine(AnyG.slices_Clone_int_nil vO _ _ w).mono λe w' ⟨he,hw⟩=>⟨_,he,?_⟩
    subst hw;exact fin (World.ownsRow_nil w' _ _ _) (Below.refl _ _)
   |some a=>
    refine(AnyG.slices_Clone_int_zero vO a _ w).mono λe w' ⟨v',he,ho,_,hb⟩=>⟨_,he,?_⟩
    exact fin ho hb
  |cons y l=>
   obtain⟨b,off,c',ha,_⟩:=ae 0 y rfl;subst ha;have ad:∀j,j<(y::l).length->w.cell? ⟨b,off+j,none⟩=some (.int .i64 ((y::l).getD j 0)):=λj hj=>by obtain⟨b',ak,c1,h1,_,h3,h4⟩:=ae j _ (xh hj);cases h1;subst h3;have:=h4 0 _ rfl;simp only[Ty.size,uE,zL]at this;rw[this,xd,xh hj];rfl
   refine(AnyG.slices_Clone_int vO b off _ _ (y::l) w (xm _) ah ad).mono λe w' ⟨v',he,ho,_,hb⟩=>⟨_,he,?_⟩
   rw[sX]at ho;exact fin ho hb
 next=>cases aa
end
section
open Go.RowKit Go.Lib Go.Sort
open Go.Proofs.Tryz
theorem Mr{P:Program}{t n:Nat}(h:(P.info? t).map (·.size)=some n):∃i,P.info? t=some i/\i.size=n:=by obtain⟨i,h1,h2⟩:=xau.1 h;exact⟨i,h1,h2⟩
set_option maxHeartbeats 4000000 in
set_option maxRecDepth 1000000 in
theorem FQ(blk cap i j:Nat)(d:Array Value)(w:World)(hH:Holds id w blk 0 d)(ho:∀u∈d.toList,u.oneCell'=true)(hcap:d.size<=cap)(hm:cap<=9223372036854775807)(hij:i<j)(hj:j<=d.size):
  Calls prog 159 #[.slice (some ⟨blk,0,none⟩) d.size cap,.int .i64 i,.int .i64 j] w λe w'=>e=.returned (.slice (some ⟨blk,0,none⟩) (d.size-(j-i)) cap)/\∃q,w'=putRow id (Sort.ahead w q) blk 0 (d.toList.take i++d.toList.drop j++List.replicate (j-i) (Value.int .i64 0)).toArray:=by
 have mixed:prog.follows .mixedOrders=true:=by kernel_rfl
 obtain⟨i0,hi0,hz1⟩:=Mr (P:=prog) (t:=3) (n:=1) (by kernel_rfl);obtain⟨news,hnews⟩:∃news,news=d.toList.drop j:=⟨_,rfl⟩
 have hlen:news.length=d.size-j:=by rw[hnews];simp
 have hget:∀t,t<d.size-j->news[t]? =some d[j+t]! :=by intro t ht;rw[hnews,yJ,xcu,getElem!_pos d (j+t) (by omega),F3 (by omega)]
 obtain⟨A,hA,hsrc⟩:∃A:Addr,(if cap=j then some (⟨blk,0,none⟩:Addr)else some ⟨blk,j,none⟩)=some A/\Hid (∀t u,news[t]? =some u->w.drew.cell? (A.add t)=some u):=by
  by_cases h:cap=j
  ·refine⟨⟨blk,0,none⟩,by simp[h],λt u hu=>?_⟩;have h0:news.length=0:=by rw[hlen];omega
   rw[xgq.1 h0]at hu;simp at hu
  ·refine⟨⟨blk,j,none⟩,by simp[h],λt u hu=>?_⟩;have ht:t<d.size-j:=by have:=(xq.1 hu).1;rwa [hlen]at this
   rw[hget t ht]at hu;rw[Addr.add_lit,show j+t=0+(j+t) by omega];exact(hH (j+t) (by omega)).1.trans hu
 have s1:Hid (news.length=(d.size-j)*1):=by rw[uE];exact hlen
 have s2:Hid (∀u∈news,u.oneCell'=true):=λu hu=>ho u (XT (hnews▸hu));have s3:Hid (∀t,t<news.length->(w.drew.cell? ⟨blk,0+i*1+t,none⟩).isSome=true/\w.drew.frozen? ⟨blk,0+i*1+t,none⟩=false):=by intro t ht;rw[hlen]at ht;rw[uE,US];exact⟨by show(w.cell? _).isSome=true;rw[(hH (i+t) (by omega)).1];rfl,(hH (i+t) (by omega)).2⟩
 obtain⟨W1,hW1⟩:∃W1,W1=w.drew.setCells blk (0+i*1) news:=⟨_,rfl⟩
 have hW1':W1=putRow id (Sort.ahead w 1) blk 0 (lay d i (d.toList.drop j)):=by have e:=putRow_setCells id (Sort.ahead w 1) blk 0 (d.toList.drop j) d i (by simp;omega);rw[xgk,putRow_self id (Sort.ahead w 1) blk 0 d (holds_ahead id w 1 blk 0 d hH)]at e;rw[hW1,hnews,uE,<-e];rfl
 have hH1:Holds id W1 blk 0 (lay d i (d.toList.drop j)):=by rw[hW1'];exact holds_putRow id _ blk 0 d _ (holds_ahead id w 1 blk 0 d hH) (lay_size _ _ _)
 have hcl:∀ty,(Builtin.clear_ #[24] ty #[.slice (some ⟨blk,i+(d.size-j),none⟩) (d.size-(i+(d.size-j))) (cap-(i+(d.size-j)))]).run prog W1=.ok (.tuple #[]) (W1.setCells blk (i+(d.size-j)) (List.replicate (d.size-(i+(d.size-j))) (Value.int .i64 0))):=
  λty=>Lib.run_clear_slice W1 _ _ ty _ underlying24 zeroValue3 rfl rfl blk (i+(d.size-j)) _ _ (by omega) (λt ht=>by rw[show i+(d.size-j)+t=0+(i+(d.size-j)+t) by omega,(hH1 _ (by rw[lay_size];omega)).1];rfl) (λt ht=>by rw[show i+(d.size-j)+t=0+(i+(d.size-j)+t) by omega];exact(hH1 _ (by rw[lay_size];omega)).2)
 have X:Aside (W1=putRow id (Sort.ahead w 1) blk 0 (lay d i (d.toList.drop j))):=hW1';have hW:Hid (W1=w.drew.setCells blk (0+i*1) news):=hW1;have hic:i<=cap:=by omega
 have hjc:j<=cap:=by omega
 clear hW1 hW1' hH1 hH hget hnews hlen ho
 go_enter func159,(show(f159).ntmps=33 from by kernel_rfl)
 go_wp2_with fail
 go_region_law_o (refine step_append_room rfl (.tmp 22) (.tmp 25) 24 rfl 3 i0 1 underlying24 hi0 hz1 blk 0 i cap (by simp[Act.eval,Act.put]) A (d.size-j) (cap-j) news (by simp[Act.eval,Act.put]) s1.out hsrc.out s2.out (by omega) s3.out ?_;rw[<-hW.out])
 go_wp2
 go_ret
 refine⟨by rw[show d.size-(j-i)=i+(d.size-j) by omega];rfl,1,?_⟩;have e:=putRow_setCells id (Sort.ahead w 1) blk 0 (List.replicate (d.size-(i+(d.size-j))) (Value.int .i64 0)) (lay d i (d.toList.drop j)) (i+(d.size-j)) (by rw[lay_size];simp;omega);rw[xgk,<-X.out,P1]at e;rw[<-delete_arr d i j (Value.int .i64 0) (by omega) hj,show j-i=d.size-(i+(d.size-j)) by omega];exact e
set_option maxHeartbeats 4000000 in
set_option maxRecDepth 1000000 in
theorem CN(blk cap i j:Nat)(d:Array Value)(w:World)(hH:Holds id w blk 0 d)(ho:∀u∈d.toList,u.oneCell'=true)(hcap:d.size<=cap)(hm:cap<=9223372036854775807)(hij:i<j)(hj:j<=d.size):
  Calls prog 160 #[.slice (some ⟨blk,0,none⟩) d.size cap,.int .i64 i,.int .i64 j] w λe w'=>e=.returned (.slice (some ⟨blk,0,none⟩) (d.size-(j-i)) cap)/\∃q,w'=putRow id (Sort.ahead w q) blk 0 (d.toList.take i++d.toList.drop j++List.replicate (j-i) (Value.slice none 0 0)).toArray:=by
 have mixed:prog.follows .mixedOrders=true:=by kernel_rfl
 obtain⟨i0,hi0,hz1⟩:=Mr (P:=prog) (t:=24) (n:=1) (by kernel_rfl);obtain⟨news,hnews⟩:∃news,news=d.toList.drop j:=⟨_,rfl⟩
 have hlen:news.length=d.size-j:=by rw[hnews];simp
 have hget:∀t,t<d.size-j->news[t]? =some d[j+t]! :=by intro t ht;rw[hnews,yJ,xcu,getElem!_pos d (j+t) (by omega),F3 (by omega)]
 obtain⟨A,hA,hsrc⟩:∃A:Addr,(if cap=j then some (⟨blk,0,none⟩:Addr)else some ⟨blk,j,none⟩)=some A/\Hid (∀t u,news[t]? =some u->w.drew.cell? (A.add t)=some u):=by
  by_cases h:cap=j
  ·refine⟨⟨blk,0,none⟩,by simp[h],λt u hu=>?_⟩;have h0:news.length=0:=by rw[hlen];omega
   rw[xgq.1 h0]at hu;simp at hu
  ·refine⟨⟨blk,j,none⟩,by simp[h],λt u hu=>?_⟩;have ht:t<d.size-j:=by have:=(xq.1 hu).1;rwa [hlen]at this
   rw[hget t ht]at hu;rw[Addr.add_lit,show j+t=0+(j+t) by omega];exact(hH (j+t) (by omega)).1.trans hu
 have s1:Hid (news.length=(d.size-j)*1):=by rw[uE];exact hlen
 have s2:Hid (∀u∈news,u.oneCell'=true):=λu hu=>ho u (XT (hnews▸hu));have s3:Hid (∀t,t<news.length->(w.drew.cell? ⟨blk,0+i*1+t,none⟩).isSome=true/\w.drew.frozen? ⟨blk,0+i*1+t,none⟩=false):=by intro t ht;rw[hlen]at ht;rw[uE,US];exact⟨by show(w.cell? _).isSome=true;rw[(hH (i+t) (by omega)).1];rfl,(hH (i+t) (by omega)).2⟩
 obtain⟨W1,hW1⟩:∃W1,W1=w.drew.setCells blk (0+i*1) news:=⟨_,rfl⟩
 have hW1':W1=putRow id (Sort.ahead w 1) blk 0 (lay d i (d.toList.drop j)):=by have e:=putRow_setCells id (Sort.ahead w 1) blk 0 (d.toList.drop j) d i (by simp;omega);rw[xgk,putRow_self id (Sort.ahead w 1) blk 0 d (holds_ahead id w 1 blk 0 d hH)]at e;rw[hW1,hnews,uE,<-e];rfl
 have hH1:Holds id W1 blk 0 (lay d i (d.toList.drop j)):=by rw[hW1'];exact holds_putRow id _ blk 0 d _ (holds_ahead id w 1 blk 0 d hH) (lay_size _ _ _)
 have hcl:∀ty,(Builtin.clear_ #[25] ty #[.slice (some ⟨blk,i+(d.size-j),none⟩) (d.size-(i+(d.size-j))) (cap-(i+(d.size-j)))]).run prog W1=.ok (.tuple #[]) (W1.setCells blk (i+(d.size-j)) (List.replicate (d.size-(i+(d.size-j))) (Value.slice none 0 0))):=
  λty=>Lib.run_clear_slice W1 _ _ ty _ underlying25 zeroValue24 rfl rfl blk (i+(d.size-j)) _ _ (by omega) (λt ht=>by rw[show i+(d.size-j)+t=0+(i+(d.size-j)+t) by omega,(hH1 _ (by rw[lay_size];omega)).1];rfl) (λt ht=>by rw[show i+(d.size-j)+t=0+(i+(d.size-j)+t) by omega];exact(hH1 _ (by rw[lay_size];omega)).2)
 have X:Aside (W1=putRow id (Sort.ahead w 1) blk 0 (lay d i (d.toList.drop j))):=hW1';have hW:Hid (W1=w.drew.setCells blk (0+i*1) news):=hW1;have hic:i<=cap:=by omega
 have hjc:j<=cap:=by omega
 clear hW1 hW1' hH1 hH hget hnews hlen ho
 go_enter func160,(show(f160).ntmps=33 from by kernel_rfl)
 go_wp2_with fail
 go_region_law_o (refine step_append_room rfl (.tmp 22) (.tmp 25) 25 rfl 24 i0 1 underlying25 hi0 hz1 blk 0 i cap (by simp[Act.eval,Act.put]) A (d.size-j) (cap-j) news (by simp[Act.eval,Act.put]) s1.out hsrc.out s2.out (by omega) s3.out ?_;rw[<-hW.out])
 go_wp2
 go_ret
 refine⟨by rw[show d.size-(j-i)=i+(d.size-j) by omega];rfl,1,?_⟩;have e:=putRow_setCells id (Sort.ahead w 1) blk 0 (List.replicate (d.size-(i+(d.size-j))) (Value.slice none 0 0)) (lay d i (d.toList.drop j)) (i+(d.size-j)) (by rw[lay_size];simp;omega);rw[xgk,<-X.out,P1]at e;rw[<-delete_arr d i j (Value.slice none 0 0) (by omega) hj,show j-i=d.size-(i+(d.size-j)) by omega];exact e
theorem Ed{w:World}{b q:Nat}{cur:Array Value}{e:Nat}{fr:Nat×Nat}(hb:w.heap[b]? =some (.cells cur e fr)){d:Array Value}(hd:d.size<=cur.size):
  (putRow id (Sort.ahead w q) b 0 d).heap[b]? =some (.cells (Sort.putCells id 0 d cur) e fr)/\(∀k,k≠b->(putRow id (Sort.ahead w q) b 0 d).heap[k]? =w.heap[k]?)/\(putRow id (Sort.ahead w q) b 0 d).heap.size=w.heap.size/\
  (Sort.putCells id 0 d cur).size=cur.size/\(Sort.putCells id 0 d cur).toList.take d.size=d.toList:=by
 have hah:(Sort.ahead w q).heap=w.heap:=rfl;refine⟨?_,λk hk=>?_,by rw[size_putRow];rfl,by simp[Sort.putCells],?_⟩;·simp[putRow,mapBlock,Array.getElem?_modify,hah,hb,onCells]
 ·simp only[putRow,mapBlock,Array.getElem?_modify,hah,qh (xB hk)]
 ·apply xem;intro k;rw[Tq];split
  next hk=>
   rw[xcu,xcu,Sort.putCells,Array.getElem?_mapIdx,F3 (show k<cur.size by omega),oG,qi ⟨V1 _,by omega⟩,Nat.sub_zero,getElem!_pos d k hk,F3 hk];rfl
  next hk=>rw[xcu,xcr (by omega)]
theorem UI{R:AV->Value->Prop}{v u t:AV}{vals:Array Value}(h1:List.length [v,u,t]=vals.size)(h2:∀j z,aQ [v,u,t] j=some z->R z (vals.getD j undef)):∃x y z,vals= #[x,y,z]/\R v x/\R u y/\R t z:=by
 have:vals.size=3:=by simpa using h1.symm
 refine⟨vals.getD 0 undef,vals.getD 1 undef,vals.getD 2 undef,?_,h2 0 v rfl,h2 1 u rfl,h2 2 t rfl⟩;apply xhf;·simpa using this
 ·intro i hi hi2;have:i=0\/i=1\/i=2:=by simp at hi2;omega
  rcases this with rfl|rfl|rfl<;>simp[Array.getD,hi]
def KV(μi:Nat->Option MV)(m:MV)(o:Nat):Option MV:=match o with
 |0=>some m
 |o=>if o=64 then(μi 64).map λmv=>⟨mv.v,[],[]⟩else none
theorem pN{μi:Nat->Option MV}{m mv:MV}{o:Nat}(h:KV μi m o=some mv):(o=0/\mv=m)\/(o=64/\∃mv0,μi 64=some mv0/\mv=⟨mv0.v,[],[]⟩):=by
 unfold KV at h;split at h;·exact .inl ⟨rfl,(zB h).symm⟩
 ·split at h
  next e=>
   obtain⟨mv0,h1,h2⟩:=xau.1 h;exact .inr ⟨e,mv0,h1,h2.symm⟩
  next=>cases h
theorem Nk[Tabs]{P:Program}{X:Nat->Prop}{w w':World}{μi:Nat->Option MV}{m m0:MV}{x:Ob}{a:Option Addr}{n c:Nat}(hX:∀b,X b->eE w μi b)(htab:TabsOK w (eE w μi))(hk:Kept (eE w μi) w w')(h64:μi 64=some m0)
  (hv:m.v=.slice a n c) (ho:∀S':Nat->Prop,(∀b,SS X μi b->b<w.heap.size->S' b)->ObOK P w' (eE w μi) (KV μi m) S' x m) (hr:m.rs=m0.rs):lX P X (eE w μi) w w' μi ([.arr 0],[(0,x),(64,.spent)]) (.slice a n c):=by
 refine⟨hk,KV μi m,⟨hX,λb hb=>yF hb.1 hk.size,λo mv h=>?_,λo p mv mv' b h1 h2 k1 k2=>?_,htab.step hk.block⟩,λo mv h=>?_,λp hp hge=>?_,.inl ⟨_,rfl,?_⟩⟩
 ·rcases pN h with⟨rfl,rfl⟩|⟨rfl,mv0,h1,rfl⟩
  ·refine⟨x,rfl,ho _ λb hs _=>⟨hs.1,λo mv h=>?_⟩⟩;rcases pN h with⟨rfl,rfl⟩|⟨rfl,mv0,h1,rfl⟩
   ·rw[hr];exact hs.2 64 _ h64
   ·simp
  ·exact⟨.spent,rfl,rfl,λb hb=>by cases hb⟩
 ·rcases pN h1 with⟨rfl,rfl⟩|⟨rfl,mv0,_,rfl⟩
  ·rcases pN h2 with⟨rfl,rfl⟩|⟨rfl,mv0,_,rfl⟩
   ·rfl
   ·cases k2
  ·cases k1
 ·rcases pN h with⟨rfl,rfl⟩|⟨rfl,_⟩
  ·exact⟨(0,x),by simp,rfl⟩
  ·exact⟨(64,.spent),by simp,rfl⟩
 ·rcases xae.1 hp with rfl|hp;·exact absurd hge (by simp)
  ·rw[xo.1 hp];refine⟨m0,[],[],h64,?_⟩;show(if(64:Nat)=64 then(μi 64).map λmv=>(⟨mv.v,[],[]⟩:MV)else none)=_;rw[qi rfl,h64];rfl
 ·exact .arr (rs:=m.rs) (hs:=m.hs) (by show some m=_;rw[<-hv])
theorem RepL.take[Tabs]{S:Nat->Prop}{w:World}{t:Ty}(ht:t.size=1):∀{l:List t.I} {cs:List Value} (i:Nat),RepL S w t l cs->RepL S w t (l.take i) (cs.take i)
 | [],cs,i,h=>by have:cs=[]:=h;subst this;simp only[List.take_nil];exact(rfl:([]:List Value)=[])
 |x::l,cs,0,h=>(rfl:([]:List Value)=[])
 |x::l,cs,i+1,h=>by obtain⟨c,r,rfl,h1,h2⟩:=h;have hc:=h1.len;rw[ht]at hc;obtain⟨u,rfl⟩:=xfi.1 hc;exact⟨[u],r.take i,rfl,h1,RepL.take ht i h2⟩
theorem RepL.drop[Tabs]{S:Nat->Prop}{w:World}{t:Ty}(ht:t.size=1):∀{l:List t.I} {cs:List Value} (i:Nat),RepL S w t l cs->RepL S w t (l.drop i) (cs.drop i)
 | [],cs,i,h=>by have:cs=[]:=h;subst this;simp only[List.drop_nil];exact(rfl:([]:List Value)=[])
 |x::l,cs,0,h=>h
 |x::l,cs,i+1,h=>by obtain⟨c,r,rfl,h1,h2⟩:=h;have hc:=h1.len;rw[ht]at hc;obtain⟨u,rfl⟩:=xfi.1 hc;exact RepL.drop ht i h2
def E3{α:Type}(i j:Int)(l:List α):Option (List α):=if 0<=i/\i<j/\j<=(l.length:Int)then some (l.take i.toNat++l.drop j.toNat)else none
def fdDelI:FD where
 A:=.cons (.arr 64) (.cons (.dat (.int .i64)) (.cons (.dat (.int .i64)) .nil))
 ins:=[(64,.arr 3 (.int .i64))]
 lend:=[.arg 0]
 R:=List Int
 F:=λx=>E3 x.1.2.1 x.1.2.2.1 x.2.1
 emb:=λr=>([.arr 0],[(0,.arr 3 (.int .i64) r),(64,.spent)])
def fdDelR:FD where
 A:=.cons (.arr 64) (.cons (.dat (.int .i64)) (.cons (.dat (.int .i64)) .nil))
 ins:=[(64,.rows 24 3 (.int .i64))]
 lend:=[.arg 0]
 R:=List (List Int)
 F:=λx=>E3 x.1.2.1 x.1.2.2.1 x.2.1
 emb:=λr=>([.arr 0],[(0,.rows 24 3 (.int .i64) r none),(64,.spent)])
theorem qC{w:World}{b cap n i j q:Nat}{cur:Array Value}{e:Nat}{xs:List Value}(hg:w.heap[b]? =some (.cells cur e (0,0)))(hn:n<=cap)(hcs:cur.size=cap)(hx:cur.toList.take n=xs)(hij:i<j)(hj:j<=n)(z:Value):
  Holds id w b 0 xs.toArray/\xs.length=n/\∀w',w'=putRow id (Sort.ahead w q) b 0 (xs.take i++xs.drop j++List.replicate (j-i) z).toArray->
   (∃cur',w'.heap[b]? =some (.cells cur' e (0,0))/\cur'.size=cap/\cur'.toList.take (n-(j-i))=xs.take i++xs.drop j)/\(∀k,k≠b->w'.heap[k]? =w.heap[k]?)/\w'.heap.size=w.heap.size:=by
 have hl:xs.length=n:=by rw[<-hx];simp;omega
 refine⟨λt ht=>?_,hl,λw' hw=>?_⟩
 ·have ht':t<n:=by simpa[hl]using ht
  have e1:(xs.toArray)[t]! =cur[t]'(by omega):=by rw[getElem!_pos xs.toArray t ht];simp[<-hx]
  refine⟨?_,?_⟩;·rw[e1];simp[World.cell?,hg,F3 (show 0+t<cur.size by omega)]
  ·simp[World.frozen?,hg]
 ·have hsz:(xs.take i++xs.drop j++List.replicate (j-i) z).toArray.size=n:=by simp;omega
  obtain⟨h1,h2,h3,h4,h5⟩:=Ed (q:=q) hg (d:=(xs.take i++xs.drop j++List.replicate (j-i) z).toArray) (by omega);subst hw;refine⟨⟨_,h1,by omega,?_⟩,h2,h3⟩;have h6:=congrArg (List.take (n-(j-i))) h5;rw[hsz,xfg,Wo (by omega)]at h6;rw[h6];simp only[List.toList_toArray];rw[xfq (by simp;omega),Gg (by simp;omega)]
theorem Ou{α:Type}(l:List α){i j:Nat}(n:Nat)(hi:i<=l.length):(l.take i++l.drop j)[n]? =l[if n<i then n else j+(n-i)]? :=by
 have hlt:(l.take i).length=i:=by rw[xw];omega
 by_cases hn:n<i;·rw[y7 (by omega),xgl hn,qi hn]
 ·rw[C6 (by omega),hlt,yJ,qh hn]
theorem Qz[Tabs]:dZ prog (159,fdDelI):=by
 intro x r hr w X μi vals hX hm hins hsz hv;obtain⟨⟨u,i,j,u2⟩,l,u3⟩:=x;have hr':E3 i j l=some r:=hr;unfold E3 at hr';split at hr'
 next hin=>
  cases hr';obtain⟨hi0,hij,hjl⟩:=hin;obtain⟨i,rfl⟩:=xec hi0;obtain⟨j,rfl⟩:=xec (show(0:Int)<=j by omega);obtain⟨x,y,z,rfl,h1,h2,h3⟩:=UI (v:=.arr 64) (u:=.dat (.int .i64) (i:Int)) (t:=.dat (.int .i64) (j:Int)) hsz hv;rw[mC h2,mC h3];cases h1 with
  | @arr _ _ a n c rs hs hμ=>
   obtain⟨ob,hob,hobo⟩:=hm.ob 64 _ hμ;have hob':ob=.arr 3 (.int .i64) l:=by have:aM (eG fdDelI.ins (l,u3)) 64=some (.arr 3 (.int .i64) l):=rfl;exact zB (hob.symm.trans this)
   subst hob';obtain⟨⟨hhs,hrs⟩,hnl,xs,hown,hrep⟩:=hobo;simp only at hhs hrs hnl hown;subst hhs;rcases hown.2 with⟨_,e2⟩|⟨b,cap,cur,ev,_,hg,hnc,hcm,hcs,htk⟩
   ·omega
   ·simp only[Value.slice.injEq]at ev;obtain⟨rfl,rfl,rfl⟩:=ev;have hsz1:Ty.size (.int .i64)=1:=rfl;rw[hsz1,uE]at hcs htk;obtain⟨hH,hxl,_⟩:=qC (q:=0) hg hnc hcs htk (i:=i) (j:=j) (by omega) (by omega) (.int .i64 0);have hb:f159.body.isSome=true:=by kernel_rfl
    obtain⟨cd,hc⟩:=xbd.1 hb;have hone:=hrep.one;have hrun:=FQ b c i j xs.toArray w hH (λu hu=>hone u (by simpa using hu)) (by simpa[hxl]using hnc) (by simpa[maxLen]using hcm) (by omega) (by simp[hxl];omega);rw[show xs.toArray.size=l.length by simpa using hxl]at hrun;refine .inl ⟨cP func159 (by kernel_rfl) hc _ w,?_⟩;refine hrun.mono λe w' ⟨he,q,hq⟩=>⟨_,he,?_⟩
    obtain⟨⟨cur',g1,g2,g3⟩,g4,g5⟩:=(qC (q:=q) hg hnc hcs htk (i:=i) (j:=j) (by omega) (by omega) (.int .i64 0)).2.2 w' (by simpa using hq);have hbr:b∈rs:=by rw[hrs];simp[aD]
    have hos:w'.os=w.os/\w'.tape=w.tape/\w'.output=w.output:=by rw[hq];exact⟨rfl,rfl,rfl⟩
    have hk:Kept (eE w μi) w w':=⟨hos.1,hos.2.1,hos.2.2,Nat.le_of_eq g5.symm,λk hk=>g4 k λe=>hk.2 64 _ hμ (e▸hbr)⟩
    refine Nk (m:=⟨.slice (some ⟨b,0,none⟩) (l.length-(j-i)) c,rs,[]⟩) hX hm.tab hk hμ rfl (λS' hS'=>?_) rfl;refine⟨⟨rfl,hrs⟩,λb' hb'=>hnl b' hb',xs.take i++xs.drop j,⟨?_,.inr ⟨b,c,cur',?_,V1 _,g1,?_,hcm,?_,?_⟩⟩,?_⟩;·simp[hsz1];omega
    ·simp;omega
    ·simp;omega
    ·rw[hsz1,uE];exact g2
    ·rw[hsz1,uE];simp only[xx,xj,xw,tH];rw[<-g3];congr 1;omega
    ·have hst:RepL S' w' (.int .i64) l xs:=hrep.plain (d:=rfl);exact(RepL.take rfl i hst).append (RepL.drop rfl j hst)
 next=>cases hr'
theorem Vk[Tabs]:dZ prog (160,fdDelR):=by
 intro x r hr w X μi vals hX hm hins hsz hv;obtain⟨⟨u,i,j,u2⟩,l,u3⟩:=x;have hr':E3 i j l=some r:=hr;unfold E3 at hr';split at hr'
 next hin=>
  cases hr';obtain⟨hi0,hij,hjl⟩:=hin;obtain⟨i,rfl⟩:=xec hi0;obtain⟨j,rfl⟩:=xec (show(0:Int)<=j by omega);obtain⟨x,y,z,rfl,h1,h2,h3⟩:=UI (v:=.arr 64) (u:=.dat (.int .i64) (i:Int)) (t:=.dat (.int .i64) (j:Int)) hsz hv;rw[mC h2,mC h3];cases h1 with
  | @arr _ _ a n c rs hs hμ=>
   obtain⟨ob,hob,hobo⟩:=hm.ob 64 _ hμ;have hob':ob=.rows 24 3 (.int .i64) l none:=by have:aM (eG fdDelR.ins (l,u3)) 64=some (.rows 24 3 (.int .i64) l none):=rfl;exact zB (hob.symm.trans this)
   subst hob';obtain⟨hro,_⟩:=hobo;have hown:=hro.own;have hlen:=hro.len;simp only at hown hlen;have hno:∀k,dU none k:=λk i d h=>by cases h
   rcases hown.2 with⟨_,e2⟩|⟨b,cap,cur,ev,_,hg,hnc,hcm,hcs,htk⟩
   ·omega
   ·simp only[Value.slice.injEq]at ev;obtain⟨rfl,rfl,rfl⟩:=ev;rw[uE]at hcs htk;obtain⟨hH,hxl,_⟩:=qC (q:=0) hg hnc hcs htk (i:=i) (j:=j) (by omega) (by omega) (.slice none 0 0);have hb:f160.body.isSome=true:=by kernel_rfl
    obtain⟨cd,hc⟩:=xbd.1 hb;have hone:∀u∈hs,u.oneCell'=true:=λu hu=>by obtain⟨a2,n2,c2,rfl⟩:=hro.slc u hu;rfl
    have hrun:=CN b c i j hs.toArray w hH (λu hu=>hone u (by simpa using hu)) (by simpa[hxl]using hnc) (by simpa[maxLen]using hcm) (by omega) (by simp[hxl];omega);rw[show hs.toArray.size=l.length by simpa using hxl]at hrun;refine .inl ⟨cP func160 (by kernel_rfl) hc _ w,?_⟩;refine hrun.mono λe w' ⟨he,q,hq⟩=>⟨_,he,?_⟩
    obtain⟨⟨cur',g1,g2,g3⟩,g4,g5⟩:=(qC (q:=q) hg hnc hcs htk (i:=i) (j:=j) (by omega) (by omega) (.slice none 0 0)).2.2 w' (by simpa using hq);have hbr:b∈rs:=hro.top b (by simp[aD]);have hos:w'.os=w.os/\w'.tape=w.tape/\w'.output=w.output:=by rw[hq];exact⟨rfl,rfl,rfl⟩
    have hk:Kept (eE w μi) w w':=⟨hos.1,hos.2.1,hos.2.2,Nat.le_of_eq g5.symm,λk hk=>g4 k λe=>hk.2 64 _ hμ (e▸hbr)⟩
    refine Nk (m:=⟨.slice (some ⟨b,0,none⟩) (l.length-(j-i)) c,rs,hs.take i++hs.drop j⟩) hX hm.tab hk hμ rfl (λS' hS'=>?_) rfl;refine⟨⟨⟨?_,.inr ⟨b,c,cur',?_,V1 _,g1,?_,hcm,?_,?_⟩⟩,λk hk=>hro.top k hk,λk hk=>⟨(hro.low k hk).1,by rw[g5];exact(hro.low k hk).2⟩,λy hy=>?_,λq y r hj' hy hq=>?_,λq q' y z kb hj' hk' hy hz h3 h4=>?_⟩,λi' d' hd'=>by cases hd'⟩;·simp;omega
    ·simp;omega
    ·simp;omega
    ·rw[uE];exact g2
    ·rw[uE];simp only[xx,xj,xw,tH];rw[<-g3];congr 1;omega
    ·rcases xp.1 hy with hy|hy;·exact hro.slc y (Wi hy)
     ·exact hro.slc y (XT hy)
    ·simp only[xx]at hy hq;rw[Ou _ _ (by omega)]at hy hq;obtain⟨z1,ys,z2,z3⟩:=hro.row _ y r (hno _) hy hq;refine⟨λk hk=>⟨(z1 k hk).1,λhk2=>(z1 k hk).2 hk2⟩,ys,aY z2 λk hk=>g4 k λe=>(z1 k hk).2 (by rw[e];rfl),z3.plain (d:=rfl)⟩
    ·simp only[xx]at hy hz;rw[Ou _ _ (by omega)]at hy hz;have:=hro.apart _ _ y z kb (hno _) (hno _) hy hz h3 h4;split at this<;>split at this<;>omega
 next=>cases hr'
end
section
open Go.RowKit (Below)
open Go.Proofs.Tryz
theorem J3{S:Nat->Prop}{w:World}:∀l:List (List UInt8),RepL S w .str l (l.map λs=>Value.string ⟨s.toArray⟩)
 | []=>rfl
 |x::l=>⟨[.string ⟨x.toArray⟩],l.map λs=>Value.string ⟨s.toArray⟩,rfl,rfl,J3 l⟩
theorem Pm(l:List ByteArray):(l.map (·.data.toList)).map (λs=>Value.string ⟨s.toArray⟩)=l.map Value.string:=by rw[List.map_map];exact xdf λx _=>by simp
theorem Wf(w:World)(o:Obj):(w.alloc o).heap[w.heap.size]? =some o:=by show(w.heap.push o)[w.heap.size]? =some o;simp
set_option maxHeartbeats 1000000 in
theorem Hw(c:UInt8)(s:ByteArray)(w:World)(hs:s.size<4294967281):
  Calls prog 47 #[.string s,.string ⟨#[c]⟩] w λe w'=>
   e=.returned (.slice (some ⟨w.heap.size,0,none⟩) (Lib.countB s ⟨#[c]⟩+1) (Lib.countB s ⟨#[c]⟩+1))/\w'=w.alloc (.cells ((Lib.splitB ⟨#[c]⟩ 0 (Lib.countB s ⟨#[c]⟩) s).map Value.string).toArray 9):=by
 have L:=Tryz.lays146;have h1:1<=(⟨#[c]⟩:ByteArray).size:=xm _;have hle:=Lib.countB_le ⟨#[c]⟩ h1 s.size s (xm _);have hlen:=Lib.splitB_all ⟨#[c]⟩ h1 0 _ s rfl;have hcnt:Calls prog (Tryz.lays146_ren.f 138) #[.string s,.string ⟨#[c]⟩] w λe w'=>e=.returned (.int .i64 (Lib.countB s ⟨#[c]⟩))/\w'=w:=by
  refine(Any.strings_Count_one {L with} s c w).mono λe w' ⟨he,hw⟩=>⟨?_,hw⟩
  rw[he];show _=Ending.returned (Value.int .i64 ((Lib.count s.data.toList [c]:Nat):Int));rw[Lib.count_one];rfl
 have cc:=Any.strings_genSplit_core {L with} (by kernel_rfl) s ⟨#[c]⟩ 0 (-1) (Lib.countB s ⟨#[c]⟩+1) w hs h1 (V1 _)
  (λx cs _=>(Any.strings_Index_one {L with} x c _).mono λe w' ⟨he,hw⟩=>⟨by rw[he,<-Lib.index_one],hw⟩) hcnt (by decide) (by decide) (by rw[qi (by decide)];omega)
 rw[xfy,hlen]at cc;have e2:Lib.cellsOf (Lib.splitB ⟨#[c]⟩ 0 (Lib.countB s ⟨#[c]⟩) s) (Lib.countB s ⟨#[c]⟩+1)=((Lib.splitB ⟨#[c]⟩ 0 (Lib.countB s ⟨#[c]⟩) s).map Value.string).toArray:=by rw[<-hlen];exact Lib.cellsOf_full _
 rw[e2]at cc
 go_enter func47,(show(f47).ntmps=_ from rfl)
 go_wp2_with (go_at_call 86;refine cc.mono ?_;rintro e w' ⟨rfl,hw⟩;rw[hw])
 go_ret
 exact⟨rfl,rfl⟩
def vW(s sep:List UInt8):Option (List (List UInt8)):=if s.length<4294967281/\sep.length=1 then some (Lib.split s sep)else none
def Oq:FD where
 A:=.cons (.dat .str) (.cons (.dat .str) .nil)
 ins:=[]
 lend:=[]
 R:=List (List UInt8)
 F:=λx=>vW x.1.1 x.1.2.1
 emb:=λr=>([.arr 0],[(0,.arr 9 .str r)])
theorem Gt:dZ prog (47,Oq):=by
 intro x r hr w X μi vals hX hm hins hsz hv;obtain⟨⟨s,sep,u⟩,v⟩:=x;have hr':vW s sep=some r:=hr;unfold vW at hr';split at hr'
 next hin=>
  have e:=zB hr';subst e;obtain⟨x,y,rfl,h1,h2⟩:=Nl (v:=.dat .str s) (u:=.dat .str sep) hsz hv;rw[b8 h1,b8 h2];obtain⟨c,hc⟩:∃c,sep=[c]:=xfi.1 hin.2;subst hc;have hb:f47.body.isSome=true:=by kernel_rfl
  obtain⟨b,hb⟩:=xbd.1 hb;have hsize:(⟨s.toArray⟩:ByteArray).size=s.length:=by simp[ByteArray.size]
  have hle:=Lib.countB_le ⟨#[c]⟩ (xm _) _ ⟨s.toArray⟩ (xm _);have hlen:=Lib.splitB_all ⟨#[c]⟩ (xm _) 0 _ ⟨s.toArray⟩ rfl;have hd:(Lib.splitB ⟨#[c]⟩ 0 (Lib.countB ⟨s.toArray⟩ ⟨#[c]⟩) ⟨s.toArray⟩).map (·.data.toList)=Lib.split s [c]:=Lib.splitB_data _ _ _ _;have hln:(Lib.split s [c]).length=Lib.countB ⟨s.toArray⟩ ⟨#[c]⟩+1:=by rw[<-hd,Gi,hlen]
  refine .inl ⟨cP func47 (by kernel_rfl) hb _ w,(Hw c ⟨s.toArray⟩ w (by rw[hsize];exact hin.1)).mono λe w' ⟨he,hw⟩=>⟨_,he,?_⟩⟩;subst hw;have hbe:Below w.heap.size w (w.alloc (.cells ((Lib.splitB ⟨#[c]⟩ 0 (Lib.countB ⟨s.toArray⟩ ⟨#[c]⟩) ⟨s.toArray⟩).map Value.string).toArray 9)):=(Below.refl _ _).alloc (xm _) _;refine Fq (t:=.str) (cs:=(Lib.split s [c]).map λs=>Value.string ⟨s.toArray⟩) (λS=>J3 _) ?_ (Kept.of hbe hm.hlo) hX hm.hlo hm.tab;rw[<-hd,Pm,Gi,hlen];refine⟨by simp[hlen,Ty.size],.inr ⟨w.heap.size,_,_,rfl,xm _,Wf _ _,xm _,?_,?_,?_⟩⟩;·unfold maxLen;omega
  ·simp[hlen,Ty.size]
  ·rw[show Ty.size .str=1 from rfl,uE];exact Gg (by simp[hlen])
 next=>cases hr'
def J7(l:List (List UInt8))(sep:List UInt8):Option (List UInt8):=if l.length<=140737488355328/\(Lib.join l sep).length<=140737488355328 then some (Lib.join l sep)else none
def fdJoin:FD where
 A:=.cons (.dat (.slice .str)) (.cons (.dat .str) .nil)
 ins:=[]
 lend:=[]
 R:=List UInt8
 F:=λx=>J7 x.1.1 x.1.2.1
 emb:=λr=>([.dat .str r],[])
theorem Ui:dZ prog (176,fdJoin):=by
 intro x r hr w X μi vals hX hm hins hsz hv;obtain⟨⟨l,sep,u⟩,v⟩:=x;have hr':J7 l sep=some r:=hr;unfold J7 at hr';split at hr'
 next hin=>
  have e:=zB hr';subst e;obtain⟨x,y,rfl,h1,h2⟩:=Nl (v:=.dat (.slice .str) l) (u:=.dat .str sep) hsz hv;rw[b8 h2];have hb:f176.body.isSome=true:=by kernel_rfl
  obtain⟨b,hb⟩:=xbd.1 hb;have hrep:Rep (SS X μi) w (.slice .str) l [x]:=by cases h1 with|dat _ hr=>exact hr
  simp only[Rep]at hrep;obtain⟨a,cap,e,hcap,hel⟩:=hrep;simp only[Np,ql]at e;subst e;refine .inl ⟨cP func176 (by kernel_rfl) hb _ w,?_⟩;have fin:∀{w':World},Below w.heap.size w w'->lX prog X (eE w μi) w w' μi (fdJoin.emb (Lib.join l sep)) (.string ⟨(Lib.join l sep).toArray⟩):=λhb=>X0 rfl (λ_=>rfl) (Kept.of hb hm.hlo) hX hm.hlo hm.tab;cases l with
  |nil=>
   refine(Tryz.strings_Join_none a cap ⟨sep.toArray⟩ w).mono λe w' ⟨he,hw⟩=>⟨_,he,?_⟩
   subst hw;exact fin (Below.refl _ _)
  |cons y l=>
   obtain⟨b,off,c',ha,_⟩:=hel 0 y rfl;subst ha;have hmap:((y::l).map λs=>(⟨s.toArray⟩:ByteArray)).map (·.data.toList)=y::l:=by rw[List.map_map];exact(xdf λx _=>by simp).trans (xgk _)
   have hlt:b<w.heap.size:=by obtain⟨b',off',c1,h1,_,h3,h4⟩:=hel 0 y rfl;cases h1;subst h3;have:=h4 0 _ rfl;exact World.block_lt_of_cell? _ _ this
   have hcell:∀(j:Nat) x,((y::l).map λs=>(⟨s.toArray⟩:ByteArray))[j]? =some x->w.cell? ⟨b,off+j,none⟩=some (.string x):=λj x hx=>by rw[oE]at hx;obtain⟨z,hz,rfl⟩:=xau.1 hx;obtain⟨b',off',c1,h1,_,h3,h4⟩:=hel j z hz;cases h1;subst h3;have:=h4 0 _ rfl;simpa only[Ty.size,uE,zL]using this
   have c:=Tryz.strings_Join b off cap ((y::l).map λs=>(⟨s.toArray⟩:ByteArray)) ⟨sep.toArray⟩ w hcell hlt (by rw[Gi];exact hin.1) (by rw[Gi];exact hcap) (by rw[hmap];exact hin.2);rw[hmap,Gi]at c;exact c.mono λe w' ⟨he,hb⟩=>⟨_,he,fin hb⟩
 next=>cases hr'
theorem Kz{w w':World}{k:Nat}{os:Array Obj}(h:w'=Sort.grow (w.drewN k) os):Below w.heap.size w w':=by subst h;exact⟨rfl,rfl,rfl,by rw[Sort.size_grow];exact Nat.le_add_right _ _,λb hb=>by show(w.heap++os)[b]? =w.heap[b]?;exact KJ hb⟩
def cS(s:List UInt8):Int×Bool:=match Lib.atoiAll s with
 | .ok v=>if-999999<=v/\v<=999999/\Lib.itoa v=s then(v,true)else(0,false)
 |_=>(0,false)
def z0(s:List UInt8):Option (Int×Bool):=if s.length<=1048576 then some (cS s)else none
def S2:FD where
 A:=.cons (.dat .str) .nil
 ins:=[]
 lend:=[]
 R:=Int×Bool
 F:=λx=>z0 x.1.1
 emb:=λr=>([.dat (.int .i64) r.1,.dat .bool r.2],[])
set_option maxHeartbeats 2000000 in
theorem Pz(s:List UInt8)(hs:s.length<=1048576)(v:Int)(hv:Lib.atoiAll s=.ok v)(r:Int×Bool)(hr:(if-999999<=v/\v<=999999/\Lib.itoa v=s then(v,true)else(0,false))=r)(w:World)(htab:∀w',Below w.heap.size w w'->Lib.TabIs prog w' "internal/strconv.uint64pow10" .u64 Lib.pow10Tab):
  Calls prog 68 #[.string ⟨s.toArray⟩] w λe w'=>e=.returned (.tuple #[.int .i64 r.1,.bool r.2])/\Below w.heap.size w w':=by
 have hsize:(⟨s.toArray⟩:ByteArray).size=s.length:=by simp[ByteArray.size]
 obtain⟨b0,b1⟩:=Lib.atoiAll_bounds hv;have cA:=Tryz.strconv_Atoi_ok ⟨s.toArray⟩ (by rw[hsize];omega) v hv w;have hb1:∀w1,(w1=w\/∃t,w1=Lib.bytesWorld w 5 t)->Below w.heap.size w w1:=λw1 h=>by
  rcases h with rfl|⟨t,rfl⟩
  ·exact Below.refl _ _
  ·exact Lib.bytesWorld_below _ _ _
 have no:(v< -999999\/999999<v\/¬Lib.itoa v=s)->r=(0,false):=λh=>by
  rw[<-hr,qh];rintro⟨h1,h2,h3⟩;rcases h with h|h|h;·omega
  ·omega
  ·exact h h3
 have yes:¬v< -999999->¬999999<v->Lib.itoa v=s->r=(v,true):=λh1 h2 h3=>by rw[<-hr,qi ⟨by omega,by omega,h3⟩]
 clear hr
 go_enter func68,(show(f68).ntmps=28 from by kernel_rfl)
 go_wp2_with (first
  |(go_at_call 99;refine cA.mono ?_;rintro e w1 ⟨rfl,hw1⟩)
  |(go_at_call 100;refine(Tryz.strconv_Itoa v b0 b1 _ (htab _ (hb1 _ (by assumption)))).mono ?_;rintro e w2 ⟨rfl,k,os,hw2⟩;have hb2:=(hb1 _ (by assumption)).trans ((Kz hw2).mono (hb1 _ (by assumption)).size);subst hw2))
 all_goals go_ret2
 all_goals first
  |exact⟨rfl,by assumption⟩
  |exact⟨rfl,hb1 _ (by assumption)⟩
  |(rename_i h;rw[no (by
    rcases h with(h|h)|h;·exact .inl h
    ·exact .inr (.inl h)
    ·exact .inr (.inr (by simpa using h)))];exact⟨rfl,by assumption⟩)
  |(rename_i h;rw[yes (by omega) (by omega) (by simpa using h.2)];exact⟨rfl,by assumption⟩)
set_option maxHeartbeats 2000000 in
theorem M4(s:List UInt8)(r:Int)(te:TypeId)(w:World)
  (cA:Calls prog 99 #[.string ⟨s.toArray⟩] w λe w'=>∃N,e=.returned (.tuple #[.int .i64 r,.iface te (.pointer (some ⟨N,0,none⟩))])/\Below w.heap.size w w'):
  Calls prog 68 #[.string ⟨s.toArray⟩] w λe w'=>e=.returned (.tuple #[.int .i64 0,.bool false])/\Below w.heap.size w w':=by
 go_enter func68,(show(f68).ntmps=28 from by kernel_rfl)
 go_wp2_with (first
  |(go_at_call 99;refine cA.mono ?_;rintro e w1 ⟨N,rfl,hw1⟩))
 all_goals go_ret2
 all_goals exact⟨rfl,by assumption⟩
theorem My{w:World}{b:Nat}{v:Value}{t:TypeId}{y:Nat×Nat}(h:w.heap[b]? =some (.cells #[v] t y)):w.cell? ⟨b,0,none⟩=some v:=by unfold World.cell?;simp[h]
theorem Pg(s:List UInt8)(hs:s.length<=1048576)(w:World)(htab:∀w',Below w.heap.size w w'->Lib.TabIs prog w' "internal/strconv.uint64pow10" .u64 Lib.pow10Tab)
  (he:∀b∈(doorTabs).errs,∃u v t y,w.heap[b]? =some (.cells #[.iface u v] t y)):
  Calls prog 68 #[.string ⟨s.toArray⟩] w λe w'=>e=.returned (.tuple #[.int .i64 (cS s).1,.bool (cS s).2])/\Below w.heap.size w w':=by
 have hsize:(⟨s.toArray⟩:ByteArray).size=s.length:=by simp[ByteArray.size]
 unfold cS;cases h:Lib.atoiAll s with
 |ok v=>exact Pz s hs v h _ rfl w htab
 |range=>obtain⟨u,v,t,y,hc⟩:=he 2 (.tail _ (.head _));exact M4 s _ _ w ((Tryz.strconv_Atoi_range ⟨s.toArray⟩ (by rw[hsize];omega) h _ w (My hc) (.inr ⟨u,v,rfl⟩)).mono λe w' ⟨N,h1,_,_,h2⟩=>⟨N,h1,h2⟩)
 |_=>obtain⟨u,v,t,y,hc⟩:=he 1 (.head _);exact M4 s _ _ w ((Tryz.strconv_Atoi_none ⟨s.toArray⟩ (by rw[hsize];omega) (λv e=>by rw[h]at e;cases e) (λe=>by rw[h]at e;cases e) _ w (My hc) (.inr ⟨u,v,rfl⟩)).mono λe w' ⟨N,h1,_,_,h2⟩=>⟨N,h1,h2⟩)
theorem Kx:dZ prog (68,S2):=by
 intro x r hr w X μi vals hX hm hins hsz hv;obtain⟨⟨s,u⟩,v⟩:=x;have hr':z0 s=some r:=hr;unfold z0 at hr';split at hr'
 next hs=>
  obtain rfl:=zB hr';obtain⟨x,rfl,h1⟩:=GK (v:=.dat .str s) hsz hv;rw[b8 h1];have hb:f68.body.isSome=true:=by kernel_rfl
  obtain⟨b,hb⟩:=xbd.1 hb;refine .inl ⟨cP func68 (by kernel_rfl) hb _ w,(Pg s hs w (λw' h=>Pa (hm.tab.step λb hb=>h.block b (hm.hlo b hb))) (λb hb=>(hm.tab.2 b hb).2)).mono λe' w' ⟨he,hbe⟩=>⟨_,he,?_⟩⟩;have hk:=Kept.of (lo:=eE w μi) hbe hm.hlo;refine⟨hk,λ_=>none,⟨hX,λb hb=>yF (hm.hlo b hb) hk.size,λo mv h=>(by cases h),λo p mv mv' b h=>(by cases h),hm.tab.step hk.block⟩,λo mv h=>(by cases h),λp hp=>(by cases hp),.inr ⟨by simp[S2],.tup rfl λj v hj=>?_⟩⟩
  match j,hj with
  |0,hj=>cases hj;exact .dat rfl rfl
  |1,hj=>cases hj;exact .dat rfl rfl
 next=>cases hr'
end
section
open Go.RowKit Go.Lib
open Go.Proofs.Tryz
theorem aEw{w:World}{b e n:Nat}{xs:List Value}(h:w.ownsRow b e 1 (.slice (some ⟨b,0,none⟩) n n) n xs):w.heap[b]? =some (.cells xs.toArray e (0,0)):=by
 rcases h.2 with⟨h1,_⟩|⟨g,cap,cur,h1,_,h2,_,_,h3,h4⟩
 ·cases h1
 ·simp only[Value.slice.injEq,xe,Addr.mk.injEq,ql]at h1;obtain⟨rfl,_,rfl⟩:=h1;rw[h2,<-h4,Gg (by rw[JP,h3];exact xm _)]
theorem x8(n:Nat):(madeCells #[Value.int .i64 0] n).toList=List.replicate n (.int .i64 0):=by
 apply xgp;·simp[madeCells]
 ·intro k h1 h2;simp[madeCells,Nat.mod_one]
theorem Tg(n:Nat):(madeCells (Value.int .i64 0).cells (n*1)).toList=List.replicate n (.int .i64 0):=by rw[uE];exact x8 n
set_option maxHeartbeats 4000000 in
set_option maxRecDepth 100000 in
theorem KU(a:Addr)(c:Nat)(x:Int)(n:Nat)(hn:n<=1000)(w:World)(hx:w.cell? a=some (.int .i64 x)):
  Calls prog 249 #[.slice (some a) 1 c,.int .i64 (n:Int)] w λe w'=>e=.returned (.slice (some ⟨w.heap.size,0,none⟩) n n)/\w'.heap[w.heap.size]? =some (.cells (List.replicate n (.int .i64 x)).toArray 3 (0,0))/\Below w.heap.size w w':=by
 have mixed:prog.follows .mixedOrders=true:=by kernel_rfl
 have hinfo:(prog.info? 3).map (λi=>(i.zero,i.size,i.bytes))=some (some (.int .i64 0),1,8):=by kernel_rfl
 obtain⟨i,hi,hp⟩:=xau.1 hinfo;simp only[Wb]at hp;obtain⟨hz,hs,hb8⟩:=hp;have hu:prog.underlying 24=some (.slice 3):=by kernel_rfl
 have hin:(prog.info? 3).map (·.size)=some 1:=by rw[hi,<-hs];rfl
 have cM:Calls prog 291 #[.int .u64 1,.int .u64 (n:Int)] w λe w'=>e=.returned (.tuple #[.int .u64 0,.int .u64 (n:Int)])/\w'=w:=(Tryz.bits_Mul 1 n (by decide) (by omega) w).mono λe w' ⟨he,hw⟩=>⟨by rw[he,xgh,Nat.div_eq_of_lt (by omega),xgo (by omega)];rfl,hw⟩
 go_enter func249,(show(f249).ntmps=48 from by kernel_rfl)
 obtain⟨m,hm,m1,mn,m0⟩:∃m,m=Nat.min 1 n/\m<=1/\m<=n/\(n=0\/m=1):=⟨_,rfl,Nat.min_le_left _ _,Nat.min_le_right _ _,by
  cases n with
  |zero=>exact .inl rfl
  |succ n=>exact .inr (Wo (by omega))⟩
 have hlt:a.block<w.heap.size:=World.block_lt_of_cell? _ _ hx
 go_wp2_with (first
  |(go_at_call 291;refine cM.mono ?_;rintro e w1 ⟨rfl,rfl⟩)
  |(at_make;refine wpList_make_full _ rfl (.tmp 29) (.tmp 29) 24 rfl w1.heap.size 3 i (.int .i64 0) 1 hu hi hz hs .i64 .i64 (n:Int) (n:Int) n rfl rfl rfl rfl (by rw[hb8];omega) (by unfold maxLen;omega) (xm _) ?_;intro w2 hown hgr)
  |(with_reducible show wpList _ _ _ _ _ _
    have hb2:Below w1.heap.size w1 w2:=(Below.refl _ _).grown hgr (xm _) (by simp);have hrow:=aEw hown;refine wpList_copy_splice rfl (.tmp 31) (.tmp 32) 24 24 rfl 3 hu hin (some ⟨w1.heap.size,0,none⟩) (some a) n n 1 c rfl rfl w1.heap.size 0 _ 3 hrow (List.replicate m (.int .i64 x)) (by rw[Rn];exact hm) (λ_=>⟨rfl,a,rfl,λj v hj=>?_⟩) ?_ (λv hv=>by rw[xdz hv];rfl) w1.heap.size w1 hb2 (xm _) ?_))
 ·have:j=0:=by have:=(xq.1 hj).1;rw[Rn]at this;omega
  subst this;have hv:v=.int .i64 x:=xdz (xz hj);rw[hv,Addr.add_zero'];exact(hb2.cell hlt).trans hx
 ·rw[Tg,Rn,Rn];omega
 intro w3 hw3 hb3;have hw3:w3.heap[w1.heap.size]? =some (.cells (List.replicate m (Value.int .i64 x)++List.replicate (n-m) (Value.int .i64 0)).toArray 3 (0,0)):=by rw[hw3.out,x8,<-hm];unfold splice;simp
 go_wp2_with fail
 go_loopw [8] (λq wr=>∃k:Nat,k<=n/\(n=0\/1<=k)/\q=.int .i64 k/\wr.heap[w1.heap.size]? =some (.cells (List.replicate k (Value.int .i64 x)++List.replicate (n-k) (Value.int .i64 0)).toArray 3 (0,0))/\Below w1.heap.size w1 wr)
  (λq _=>n-(RowKit.intOf q).toNat)
 case atStart=>exact⟨m,mn,by omega,by rw[hm],hw3,hb3⟩
 case round=>
  obtain⟨k,k1,k2,rfl,hr,hb⟩:=hrel
  go_wp2
  ·rename_i hk
   have hne:¬n=k:=by omega
   obtain⟨q,hq,q1,q2,q3⟩:∃q,q=Nat.min k (n-k)/\q<=k/\q<=n-k/\1<=q:=⟨_,rfl,Nat.min_le_left _ _,Nat.min_le_right _ _,Nat.le_min.2 ⟨by omega,by omega⟩⟩
   have hsrc:Hid (∀j v,(List.replicate q (Value.int .i64 x))[j]? =some v->wr.drew.cell? ((⟨w1.heap.size,0,none⟩:Addr).add j)=some v):=λj v hj=>by
    have hjq:j<q:=by have:=(xq.1 hj).1;rwa [Rn]at this
    rw[xdz (xz hj),Addr.add_lit];show wr.cell? _=_;unfold World.cell?;rw[hr];have hjk:j<k:=by omega
    simp[y7,hjk]
   go_region_law_o (refine step_copy_splice rfl (.tmp 41) (.tmp 44) 24 24 rfl 3 hu hin (some ⟨w1.heap.size,k,none⟩) (some ⟨w1.heap.size,0,none⟩) (n-k) (n-k) k n (by simp[Act.eval,Act.put]) (by simp[Act.eval,Act.put]) w1.heap.size k _ 3 hr (List.replicate q (.int .i64 x)) (by rw[Rn];exact hq) (λ_=>⟨rfl,_,rfl,hsrc.out⟩) (by simp;omega) (λv hv=>by rw[xdz hv];rfl) w1.heap.size w1 hb.drew (xm _) ?_;intro w4 hg4 hb4)
   go_wp2
   have hg5:=hg4.out;rw[show splice (List.replicate k (Value.int .i64 x)++List.replicate (n-k) (Value.int .i64 0)) k (List.replicate q (.int .i64 x))=List.replicate (k+q) (Value.int .i64 x)++List.replicate (n-(k+q)) (Value.int .i64 0) by
    unfold splice;apply xem;intro z;simp[List.getElem?_append,xco,yJ,Tq]
    repeat' split
    all_goals first|rfl|(exfalso;omega)]at hg5
   have e8:IntKind.wrap .i64 ((k:Int)+((k.min (n-k):Nat):Int))=(k:Int)+(q:Int):=by rw[<-hq,aN (by omega) (by omega)]
   refine⟨?_,?_⟩
   ·repeat apply Exists.intro
    refine⟨⟨k+q,by omega,by omega,?_,hg5,hb4⟩,rfl⟩;simp[Act.put,Act.eval];exact e8
   ·simp[Act.put,Act.eval,RowKit.intOf];rw[e8];omega
  ·go_ret
   have hkn:k=n:=by omega
   subst hkn;rw[TA,List.replicate_zero,yT]at hr;exact⟨rfl,hr,hb⟩
def qM(l:List Int)(n:Int):Option (List Int):=match l with
 | [x]=>if 0<=n/\n<=1000 then some (List.replicate n.toNat x)else none
 |_=>none
theorem xH{n:Nat}(h:n<=1000)(x:Int):qM [x] (n:Int)=some (List.replicate n x):=by unfold qM;simp only;rw[qi (by omega)];rfl
def Ap:FD where
 A:=.cons (.dat (.slice (.int .i64))) (.cons (.dat (.int .i64)) .nil)
 ins:=[]
 lend:=[]
 R:=List Int
 F:=λx=>qM x.1.1 x.1.2.1
 emb:=λr=>([.arr 0],[(0,.arr 3 (.int .i64) r)])
theorem Ee:dZ prog (249,Ap):=by
 intro x r hr w X μi vals hX hm hins hsz hv;obtain⟨⟨l,n,u⟩,v⟩:=x;have hr':qM l n=some r:=hr;unfold qM at hr';split at hr'
 next y=>
  split at hr'
  next hin=>
   have e:=zB hr';subst e;obtain⟨x,z,rfl,h1,h2⟩:=Nl (v:=.dat (.slice (.int .i64)) [y]) (u:=.dat (.int .i64) n) hsz hv;rw[mC h2];have hb:f249.body.isSome=true:=by kernel_rfl
   obtain⟨b,hb⟩:=xbd.1 hb;have hrep:Rep (SS X μi) w (.slice (.int .i64)) [y] [x]:=by cases h1 with|dat _ hr=>exact hr
   simp only[Rep]at hrep;obtain⟨a,cap,e,hcap,hel⟩:=hrep;simp only[Np,ql]at e;subst e;obtain⟨b',off,c',ha,_,h3,h4⟩:=hel 0 y rfl;subst ha;subst h3;have hcell:w.cell? ⟨b',off,none⟩=some (.int .i64 y):=by simpa using h4 0 _ rfl
   have hrun:=KU ⟨b',off,none⟩ cap y n.toNat (by omega) w hcell;rw[xea hin.1]at hrun;refine .inl ⟨cP func249 (by kernel_rfl) hb _ w,hrun.mono λe w' ⟨he,hh,hbe⟩=>⟨_,he,?_⟩⟩;have ho:w'.ownsRow w.heap.size 3 1 (.slice (some ⟨w.heap.size,0,none⟩) n.toNat n.toNat) n.toNat ((List.replicate n.toNat y).map (Value.int .i64)):=by refine⟨by simp,.inr ⟨_,n.toNat,_,rfl,xm _,hh,xm _,by unfold maxLen;omega,by simp,by simp⟩⟩
   have hl:(List.replicate n.toNat y).length=n.toNat:=Rn;refine Pc (e:=3) (l:=List.replicate n.toNat y) (by rw[hl];exact ho) (Kept.of hbe hm.hlo) hX hm.hlo hm.tab
  next=>cases hr'
 next=>cases hr'
end
section
open Go.RowKit
open Go.Proofs.Tryz
def cdA:Code->Code
 | .seq a _=>a
 | .block _ c=>c
 | .loop c=>c
 |c=>c
def Zi:Code->Code
 | .seq _ b=>b
 |c=>c
def cdC:Code->Code
 | .cond _ c _=>c
 |c=>c
noncomputable def edB:Code:=cdC (Zi (cdA (Zi (Zi ((f70.body).getD .skip)))))
noncomputable def edT:Code:=Zi (Zi (Zi (Zi (Zi ((f70.body).getD .skip)))))
noncomputable def edG:Code:=Zi (Zi (Zi ((f70.body).getD .skip)))
theorem qT{n:Nat}{w w2:World}{b i:Nat}{cs:Array Value}{t:TypeId}{v:Value}(h:Below n w w2)(hb:b<n)(hw:w.heap[b]? =some (.cells cs t))(hv:cs[i]? =some v):w2.cell? ⟨b,i,none⟩=some v:=by have:=h.block b hb;unfold World.cell?;simp[this,hw,hv]
theorem bG(w:World)(x y:Obj){b:Nat}(hb:b<w.heap.size):((w.alloc x).alloc y).heap[b]? =w.heap[b]? :=by rw[heap_alloc_old _ _ (show b<(w.alloc x).heap.size by simp;omega),heap_alloc_old w _ hb]
theorem nK(w:World)(x y:Obj):((w.alloc x).alloc y).heap[w.heap.size]? =some x/\((w.alloc x).alloc y).heap[w.heap.size+1]? =some y:=by refine⟨by rw[heap_alloc_old _ _ (show w.heap.size<(w.alloc x).heap.size by simp),heap_alloc_new],?_⟩;have:=heap_alloc_new (w.alloc x) y;simpa using this
theorem jU{w w2:World}{n b i:Nat}{W:World}{v:Value}(h:Below n W w2)(hW:W.heap[b]? =w.heap[b]?)(hb:b<n)(hn:n<=w2.heap.size)(hc:w.cell? ⟨b,i,none⟩=some v)(x y:Obj):((w2.alloc x).alloc y).cell? ⟨b,i,none⟩=some v:=by
 have e:((w2.alloc x).alloc y).heap[b]? =w.heap[b]? :=by rw[bG w2 x y (by omega),h.block b hb,hW]
 rw[<-hc];unfold World.cell?;simp only[e]
theorem iV{w w2:World}{v0 v1 v2 v3:Value}{y:Obj}{t:TypeId}(hX:Below ((w.alloc (.cells #[v0,v1,v2,v3] t)).alloc y).heap.size ((w.alloc (.cells #[v0,v1,v2,v3] t)).alloc y) w2):
  w.heap.size+2<=w2.heap.size/\w2.cell? ⟨w.heap.size,0,none⟩=some v0/\w2.cell? ⟨w.heap.size,1,none⟩=some v1/\w2.cell? ⟨w.heap.size,2,none⟩=some v2/\w2.cell? ⟨w.heap.size,3,none⟩=some v3:=by
 have h:=(nK w (.cells #[v0,v1,v2,v3] t) y).1;have hlt:w.heap.size<((w.alloc (.cells #[v0,v1,v2,v3] t)).alloc y).heap.size:=by simp;omega
 exact⟨by have:=hX.size;simpa using this,qT hX hlt h rfl,qT hX hlt h rfl,qT hX hlt h rfl,qT hX hlt h rfl⟩
structure EdAct(act:Act)(kind m:Int)(va:Value)(b:Nat):Prop where
 sz:act.tmps.size=105
 df:act.defers=[]
 t1:act.tmps.getD 1 undef=.int .i64 kind
 t2:act.tmps.getD 2 undef=va
 t3:act.tmps.getD 3 undef=.pointer (some ⟨b,0,none⟩)
 t6:act.tmps.getD 6 undef=.pointer (some ⟨b+1,0,none⟩)
 t7:act.tmps.getD 7 undef=.string ⟨#[]⟩
 t8:act.tmps.getD 8 undef=.bool false
 t9:act.tmps.getD 9 undef=.int .i64 m
abbrev kK:Obj:=.cells #[.slice none 0 0,.slice none 0 0,.slice none 0 0,.int .i64 0] 29
abbrev sM(vo vd vs vn:Value):Obj:=.cells #[vo,vd,vs,vn] 29
abbrev S9(kind a b c:Int):Obj:=.cells #[.int .i64 kind,.int .i64 a,.int .i64 b,.int .i64 c,.slice none 0 0] 109
abbrev Q5(b:Nat):Obj:=.cells #[.pointer (some ⟨b,1,none⟩),.pointer (some ⟨b,2,none⟩),.pointer (some ⟨b,3,none⟩)] 139
set_option maxHeartbeats 3200000 in
set_option maxRecDepth 1000000 in
theorem Jc{kind m:Int}{li ok3:Bool}(w:World){vo vd vs:Value}{n:Int}{aa:Option Addr}{na ca:Nat}{R:Ending->World->Prop}(hm:(na:Int)<m)
  (hN:Hid (∀w1,(∀b,b<w.heap.size->w1.heap[b]? =w.heap[b]?)->w.heap.size<=w1.heap.size->Calls prog 102 #[.int .i64 kind] w1 λe w'=>e=.returned (.tuple #[.int .i64 m,.bool li,.bool ok3])/\Below w1.heap.size w1 w'))
  (hbad:Hid (∀act w2,Below (w.heap.size+2) ((w.alloc (sM vo vd vs (.int .i64 n))).alloc kK) w2->EdAct act kind m (.slice aa na ca) w.heap.size->∀K,edB.wp prog (Exit.then K (bodyPost prog f70 R)) act w2)):
  Calls prog 70 #[.agg #[vo,vd,vs,.int .i64 n],.int .i64 kind,.slice aa na ca] w R:=by
 go_enter func70,(show(f70).ntmps=105 from by kernel_rfl)
 change Code.wp prog (.seq _ (.seq _ (.seq (.seq _ (.cond _ edB _)) edG))) _ _ _;generalize edG=T1 at*;generalize edB=B1 at*
 go_wp2_with (go_at_call 102;refine(hN.out _ (λb hb=>bG w _ _ hb) (by simp;omega)).mono ?_;rintro e w2 ⟨rfl,hX⟩;obtain⟨hsz,q0,q1,q2,q3⟩:=iV hX;have hX:=Hid.mk' hX)
 all_goals first
  |(exfalso;omega)
  |exact hbad.out _ _ (by have h:=hX.out;simpa using h) ⟨rfl,rfl,rfl,rfl,rfl,rfl,rfl,rfl,rfl⟩ _
set_option maxHeartbeats 3200000 in
set_option maxRecDepth 1000000 in
theorem Ij{kind:Int}{li ok3:Bool}(w:World){vo vd vs:Value}{n:Int}{aa:Option Addr}{na ca:Nat}{R:Ending->World->Prop}
  (hN:Hid (∀w1,(∀b,b<w.heap.size->w1.heap[b]? =w.heap[b]?)->w.heap.size<=w1.heap.size->Calls prog 102 #[.int .i64 kind] w1 λe w'=>e=.returned (.tuple #[.int .i64 0,.bool li,.bool ok3])/\Below w1.heap.size w1 w'))
  (hbad:Hid (¬(0<=na/\(li=true\/na<=0))->∀act w2,Below (w.heap.size+2) ((w.alloc (sM vo vd vs (.int .i64 n))).alloc kK) w2->EdAct act kind 0 (.slice aa na ca) w.heap.size->∀K,edB.wp prog (Exit.then K (bodyPost prog f70 R)) act w2))
  (hgood:Hid (0<=na->li=true\/na<=0->∀act w2,Below (w.heap.size+2) ((w.alloc (sM vo vd vs (.int .i64 n))).alloc kK) w2->EdAct act kind 0 (.slice aa na ca) w.heap.size->act.tmps.getD 12 undef=.pointer (some ⟨w2.heap.size,0,none⟩)->edT.wp prog (bodyPost prog f70 R) act ((w2.alloc (S9 kind 0 0 0)).alloc (Q5 w2.heap.size)))):
  Calls prog 70 #[.agg #[vo,vd,vs,.int .i64 n],.int .i64 kind,.slice aa na ca] w R:=by
 go_enter func70,(show(f70).ntmps=105 from by kernel_rfl)
 change Code.wp prog (.seq _ (.seq _ (.seq (.seq _ (.cond _ edB _)) (.seq _ (.seq (.seq _ (.block _ (.loop _))) edT))))) _ _ _;generalize edT=T1 at*;generalize edB=B1 at*
 go_wp2_with (go_at_call 102;refine(hN.out _ (λb hb=>bG w _ _ hb) (by simp;omega)).mono ?_;rintro e w2 ⟨rfl,hX⟩;obtain⟨hsz,q0,q1,q2,q3⟩:=iV hX;have hX:=Hid.mk' hX)
 all_goals first|(refine wp_loop_rounds 1 ?_)|skip
 all_goals first|(rw[rounds_succ])|skip
 all_goals go_wp2_with (go_at_call 102;fail)
 all_goals first
  |exact hgood.out (by omega) (by first|exact .inl (by assumption)|exact .inr (by omega)) _ _ (by have h:=hX.out;simpa using h) ⟨rfl,rfl,rfl,rfl,rfl,rfl,rfl,rfl,rfl⟩ rfl
  |exact hbad.out (λh=>by obtain⟨h1,h2⟩:=h;rcases h2 with h2|h2<;>first|contradiction|omega) _ _ (by have h:=hX.out;simpa using h) ⟨rfl,rfl,rfl,rfl,rfl,rfl,rfl,rfl,rfl⟩ _
set_option maxHeartbeats 3200000 in
set_option maxRecDepth 1000000 in
theorem Ke{kind:Int}{li ok3:Bool}(w:World){vo vd vs:Value}{n:Int}{ba oa na ca:Nat}{R:Ending->World->Prop}{l0:Int}(hc0:w.cell? ⟨ba,oa,none⟩=some (.int .i64 l0))(hb:ba<w.heap.size)
  (hN:Hid (∀w1,(∀b,b<w.heap.size->w1.heap[b]? =w.heap[b]?)->w.heap.size<=w1.heap.size->Calls prog 102 #[.int .i64 kind] w1 λe w'=>e=.returned (.tuple #[.int .i64 1,.bool li,.bool ok3])/\Below w1.heap.size w1 w'))
  (hbad:Hid (¬(1<=na/\(li=true\/na<=1))->∀act w2,Below (w.heap.size+2) ((w.alloc (sM vo vd vs (.int .i64 n))).alloc kK) w2->EdAct act kind 1 (.slice (some ⟨ba,oa,none⟩) na ca) w.heap.size->∀K,edB.wp prog (Exit.then K (bodyPost prog f70 R)) act w2))
  (hgood:Hid (1<=na->li=true\/na<=1->∀act w2,Below (w.heap.size+2) ((w.alloc (sM vo vd vs (.int .i64 n))).alloc kK) w2->EdAct act kind 1 (.slice (some ⟨ba,oa,none⟩) na ca) w.heap.size->act.tmps.getD 12 undef=.pointer (some ⟨w2.heap.size,0,none⟩)->edT.wp prog (bodyPost prog f70 R) act ((w2.alloc (S9 kind l0 0 0)).alloc (Q5 w2.heap.size)))):
  Calls prog 70 #[.agg #[vo,vd,vs,.int .i64 n],.int .i64 kind,.slice (some ⟨ba,oa,none⟩) na ca] w R:=by
 go_enter func70,(show(f70).ntmps=105 from by kernel_rfl)
 change Code.wp prog (.seq _ (.seq _ (.seq (.seq _ (.cond _ edB _)) (.seq _ (.seq (.seq _ (.block _ (.loop _))) edT))))) _ _ _;generalize edT=T1 at*;generalize edB=B1 at*
 go_wp2_with (go_at_call 102;refine(hN.out _ (λb hb=>bG w _ _ hb) (by simp;omega)).mono ?_;rintro e w2 ⟨rfl,hX⟩;obtain⟨hsz,q0,q1,q2,q3⟩:=iV hX;have r0:=jU hX (bG w _ _ hb) (by simp;omega) hX.size hc0;have hX:=Hid.mk' hX)
 all_goals first|(refine wp_loop_rounds 2 ?_)|skip
 all_goals first|(rw[rounds_succ])|skip
 all_goals go_wp2_with (go_at_call 102;fail)
 all_goals first|(rw[rounds_succ])|skip
 all_goals go_wp2_with (go_at_call 102;fail)
 all_goals first
  |exact hgood.out (by omega) (by first|exact .inl (by assumption)|exact .inr (by omega)) _ _ (by have h:=hX.out;simpa using h) ⟨rfl,rfl,rfl,rfl,rfl,rfl,rfl,rfl,rfl⟩ rfl
  |exact hbad.out (λh=>by obtain⟨h1,h2⟩:=h;rcases h2 with h2|h2<;>first|contradiction|omega) _ _ (by have h:=hX.out;simpa using h) ⟨rfl,rfl,rfl,rfl,rfl,rfl,rfl,rfl,rfl⟩ _
set_option maxHeartbeats 3200000 in
set_option maxRecDepth 1000000 in
theorem Id{kind:Int}{li ok3:Bool}(w:World){vo vd vs:Value}{n:Int}{ba oa na ca:Nat}{R:Ending->World->Prop}{l0 l1:Int}(hc0:w.cell? ⟨ba,oa,none⟩=some (.int .i64 l0))(hc1:w.cell? ⟨ba,oa+1,none⟩=some (.int .i64 l1))(hb:ba<w.heap.size)
  (hN:Hid (∀w1,(∀b,b<w.heap.size->w1.heap[b]? =w.heap[b]?)->w.heap.size<=w1.heap.size->Calls prog 102 #[.int .i64 kind] w1 λe w'=>e=.returned (.tuple #[.int .i64 2,.bool li,.bool ok3])/\Below w1.heap.size w1 w'))
  (hbad:Hid (¬(2<=na/\(li=true\/na<=2))->∀act w2,Below (w.heap.size+2) ((w.alloc (sM vo vd vs (.int .i64 n))).alloc kK) w2->EdAct act kind 2 (.slice (some ⟨ba,oa,none⟩) na ca) w.heap.size->∀K,edB.wp prog (Exit.then K (bodyPost prog f70 R)) act w2))
  (hgood:Hid (2<=na->li=true\/na<=2->∀act w2,Below (w.heap.size+2) ((w.alloc (sM vo vd vs (.int .i64 n))).alloc kK) w2->EdAct act kind 2 (.slice (some ⟨ba,oa,none⟩) na ca) w.heap.size->act.tmps.getD 12 undef=.pointer (some ⟨w2.heap.size,0,none⟩)->edT.wp prog (bodyPost prog f70 R) act ((w2.alloc (S9 kind l0 l1 0)).alloc (Q5 w2.heap.size)))):
  Calls prog 70 #[.agg #[vo,vd,vs,.int .i64 n],.int .i64 kind,.slice (some ⟨ba,oa,none⟩) na ca] w R:=by
 go_enter func70,(show(f70).ntmps=105 from by kernel_rfl)
 change Code.wp prog (.seq _ (.seq _ (.seq (.seq _ (.cond _ edB _)) (.seq _ (.seq (.seq _ (.block _ (.loop _))) edT))))) _ _ _;generalize edT=T1 at*;generalize edB=B1 at*
 go_wp2_with (go_at_call 102;refine(hN.out _ (λb hb=>bG w _ _ hb) (by simp;omega)).mono ?_;rintro e w2 ⟨rfl,hX⟩;obtain⟨hsz,q0,q1,q2,q3⟩:=iV hX;have r0:=jU hX (bG w _ _ hb) (by simp;omega) hX.size hc0;have r1:=jU hX (bG w _ _ hb) (by simp;omega) hX.size hc1;have hX:=Hid.mk' hX)
 all_goals first|(refine wp_loop_rounds 3 ?_)|skip
 all_goals first|(rw[rounds_succ])|skip
 all_goals go_wp2_with (go_at_call 102;fail)
 all_goals first|(rw[rounds_succ])|skip
 all_goals go_wp2_with (go_at_call 102;fail)
 all_goals first|(rw[rounds_succ])|skip
 all_goals go_wp2_with (go_at_call 102;fail)
 all_goals first
  |exact hgood.out (by omega) (by first|exact .inl (by assumption)|exact .inr (by omega)) _ _ (by have h:=hX.out;simpa using h) ⟨rfl,rfl,rfl,rfl,rfl,rfl,rfl,rfl,rfl⟩ rfl
  |exact hbad.out (λh=>by obtain⟨h1,h2⟩:=h;rcases h2 with h2|h2<;>first|contradiction|omega) _ _ (by have h:=hX.out;simpa using h) ⟨rfl,rfl,rfl,rfl,rfl,rfl,rfl,rfl,rfl⟩ _
set_option maxHeartbeats 3200000 in
set_option maxRecDepth 1000000 in
theorem Gl{kind:Int}{li ok3:Bool}(w:World){vo vd vs:Value}{n:Int}{ba oa na ca:Nat}{R:Ending->World->Prop}{l0 l1 l2:Int}(hc0:w.cell? ⟨ba,oa,none⟩=some (.int .i64 l0))(hc1:w.cell? ⟨ba,oa+1,none⟩=some (.int .i64 l1))(hc2:w.cell? ⟨ba,oa+2,none⟩=some (.int .i64 l2))(hb:ba<w.heap.size)
  (hN:Hid (∀w1,(∀b,b<w.heap.size->w1.heap[b]? =w.heap[b]?)->w.heap.size<=w1.heap.size->Calls prog 102 #[.int .i64 kind] w1 λe w'=>e=.returned (.tuple #[.int .i64 3,.bool li,.bool ok3])/\Below w1.heap.size w1 w'))
  (hbad:Hid (¬(3<=na/\(li=true\/na<=3))->∀act w2,Below (w.heap.size+2) ((w.alloc (sM vo vd vs (.int .i64 n))).alloc kK) w2->EdAct act kind 3 (.slice (some ⟨ba,oa,none⟩) na ca) w.heap.size->∀K,edB.wp prog (Exit.then K (bodyPost prog f70 R)) act w2))
  (hgood:Hid (3<=na->li=true\/na<=3->∀act w2,Below (w.heap.size+2) ((w.alloc (sM vo vd vs (.int .i64 n))).alloc kK) w2->EdAct act kind 3 (.slice (some ⟨ba,oa,none⟩) na ca) w.heap.size->act.tmps.getD 12 undef=.pointer (some ⟨w2.heap.size,0,none⟩)->edT.wp prog (bodyPost prog f70 R) act ((w2.alloc (S9 kind l0 l1 l2)).alloc (Q5 w2.heap.size)))):
  Calls prog 70 #[.agg #[vo,vd,vs,.int .i64 n],.int .i64 kind,.slice (some ⟨ba,oa,none⟩) na ca] w R:=by
 go_enter func70,(show(f70).ntmps=105 from by kernel_rfl)
 change Code.wp prog (.seq _ (.seq _ (.seq (.seq _ (.cond _ edB _)) (.seq _ (.seq (.seq _ (.block _ (.loop _))) edT))))) _ _ _;generalize edT=T1 at*;generalize edB=B1 at*
 go_wp2_with (go_at_call 102;refine(hN.out _ (λb hb=>bG w _ _ hb) (by simp;omega)).mono ?_;rintro e w2 ⟨rfl,hX⟩;obtain⟨hsz,q0,q1,q2,q3⟩:=iV hX;have r0:=jU hX (bG w _ _ hb) (by simp;omega) hX.size hc0;have r1:=jU hX (bG w _ _ hb) (by simp;omega) hX.size hc1;have r2:=jU hX (bG w _ _ hb) (by simp;omega) hX.size hc2;have hX:=Hid.mk' hX)
 all_goals first|(refine wp_loop_rounds 4 ?_)|skip
 all_goals first|(rw[rounds_succ])|skip
 all_goals go_wp2_with (go_at_call 102;fail)
 all_goals first|(rw[rounds_succ])|skip
 all_goals go_wp2_with (go_at_call 102;fail)
 all_goals first|(rw[rounds_succ])|skip
 all_goals go_wp2_with (go_at_call 102;fail)
 all_goals first|(rw[rounds_succ])|skip
 all_goals go_wp2_with (go_at_call 102;fail)
 all_goals first
  |exact hgood.out (by omega) (by first|exact .inl (by assumption)|exact .inr (by omega)) _ _ (by have h:=hX.out;simpa using h) ⟨rfl,rfl,rfl,rfl,rfl,rfl,rfl,rfl,rfl⟩ rfl
  |exact hbad.out (λh=>by obtain⟨h1,h2⟩:=h;rcases h2 with h2|h2<;>first|contradiction|omega) _ _ (by have h:=hX.out;simpa using h) ⟨rfl,rfl,rfl,rfl,rfl,rfl,rfl,rfl,rfl⟩ _
end
section
open Go.RowKit
open Go.Proofs.Tryz
abbrev jL:Nat->Option MV:=λ_=>none
structure Bx where
 o:Nat
 b:Nat
 cs:List AV
 vs:Array Value
 t:TypeId
def LT:List Bx->Nat->Option MV
 | [],_=>none
 |x::l,o=>if o=x.o then some ⟨.pointer (some ⟨x.b,0,none⟩),[x.b],[]⟩else LT l o
def obB(l:List Bx):List (Nat×Ob):=l.map λx=>(x.o,.cells x.cs)
theorem vE{o:Nat}{mv:MV}:∀{l:List Bx},LT l o=some mv->∃x∈l,x.o=o/\mv=⟨.pointer (some ⟨x.b,0,none⟩),[x.b],[]⟩/\aM (obB l) o=some (.cells x.cs)
 | [],h=>by cases h
 |x::l,h=>by
  unfold LT at h;split at h
  ·next e=>
   subst e;exact⟨x,xu,rfl,(zB h).symm,by simp[obB,aM]⟩
  ·next e=>
   obtain⟨y,h1,h2,h3,h4⟩:=vE h;refine⟨y,xr _ h1,h2,h3,?_⟩;simp only[obB,M8,aM];have hf:Nat.beq x.o o=false:=by
    cases hq:Nat.beq x.o o with
    |false=>rfl
    |true=>exact absurd (xg hq).symm e
   rw[hf];exact h4
theorem K6{X:Nat->Prop}{w w4:World}{l:List Bx}(hX:∀b,X b->eE w jL b)(hsz:w.heap.size<=w4.heap.size)(htab:TabsOK w4 (eE w jL))
  (hb:∀x∈l,∀y∈l,x.b=y.b->x.o=y.o)
  (hl:∀x∈l,w.heap.size<=x.b/\w4.heap[x.b]? =some (.cells x.vs x.t)/\x.vs.size=x.cs.length/\∀j v,aQ x.cs j=some v->RelV prog w4 (eE w jL) (LT l) (SS X (LT l)) v (x.vs.getD j undef)):Mem prog X (eE w jL) (aM (obB l)) (LT l) w4:=by
 refine⟨hX,λb hb=>yF hb.1 hsz,λo mv h=>?_,λo p mv mv' b h1 h2 h3 h4=>?_,htab⟩;·obtain⟨x,h1,h2,rfl,h4⟩:=vE h;obtain⟨g1,g2,g3,g4⟩:=hl x h1;exact⟨_,h4,x.b,x.vs,x.t,rfl,λhlo=>xi _ (yF hlo.1 g1),g2,g3,g4⟩
 ·obtain⟨x,a1,a2,rfl,_⟩:=vE h1;obtain⟨y,b1,b2,rfl,_⟩:=vE h2;have e1:=xo.1 h3;have e2:=xo.1 h4;rw[<-a2,<-b2];exact hb x a1 y b1 (e1.symm.trans e2)
abbrev cX(o:List Int)(ds:List (List Int))(s:List Int)(n:Int):List AV:=[.dat (.slice (.int .i64)) o,.dat (.slice (.slice (.int .i64))) ds,.dat (.slice (.int .i64)) s,.dat (.int .i64) n]
abbrev cZ:List AV:=[.nilsl,.nilsl,.nilsl,.dat (.int .i64) (0:Int)]
abbrev cE(k a b c:Int):List AV:=[.dat (.int .i64) k,.dat (.int .i64) a,.dat (.int .i64) b,.dat (.int .i64) c,.nilsl]
abbrev frB(k m:Int)(l:List Int):List (Nat×AV):=[(1,.dat (.int .i64) k),(2,.dat (.slice (.int .i64)) l),(3,.box 3 0),(6,.box 6 0),(7,.dat .str ([]:List UInt8)),(8,.dat .bool false),(9,.dat (.int .i64) m)]
def stB(o:List Int)(ds:List (List Int))(s:List Int)(n k m:Int)(l:List Int):St:= {fr:=frB k m l,ob:=[(3,.cells (cX o ds s n)),(6,.cells cZ)]}
def stT(o:List Int)(ds:List (List Int))(s:List Int)(n k m a b c:Int)(l:List Int):St:= {fr:=frB k m l++ [(12,.box 12 0)],ob:=[(3,.cells (cX o ds s n)),(6,.cells cZ),(12,.cells (cE k a b c))]}
section
variable {X:Nat->Prop}{w w2:World}{o s l:List Int}{ds:List (List Int)}{n k m a b c:Int}{vo vd vs va:Value}{vf:Nat->Value}{act:Act}
theorem Lw{W:World}{lo S:Nat->Prop}{μ:Nat->Option MV}(ho:Rep S W (.slice (.int .i64)) o [vo])(hd:Rep S W (.slice (.slice (.int .i64))) ds [vd])(hs:Rep S W (.slice (.int .i64)) s [vs]):
  ∀j v,aQ (cX o ds s n) j=some v->RelV prog W lo μ S v ((#[vo,vd,vs,Value.int .i64 n]:Array Value).getD j undef):=λj v hj=>by
 match j,hj with
 |0,hj=>cases hj;exact .dat rfl ho
 |1,hj=>cases hj;exact .dat rfl hd
 |2,hj=>cases hj;exact .dat rfl hs
 |3,hj=>cases hj;exact .dat rfl rfl
theorem Mj{W:World}{lo S:Nat->Prop}{μ:Nat->Option MV}:∀j v,aQ cZ j=some v->RelV prog W lo μ S v ((#[Value.slice none 0 0,.slice none 0 0,.slice none 0 0,.int .i64 0]:Array Value).getD j undef):=λj v hj=>by
 match j,hj with
 |0,hj=>cases hj;exact .nilsl
 |1,hj=>cases hj;exact .nilsl
 |2,hj=>cases hj;exact .nilsl
 |3,hj=>cases hj;exact .dat rfl rfl
theorem MD{W:World}{lo S:Nat->Prop}{μ:Nat->Option MV}:∀j v,aQ (cE k a b c) j=some v->RelV prog W lo μ S v ((#[Value.int .i64 k,.int .i64 a,.int .i64 b,.int .i64 c,.slice none 0 0]:Array Value).getD j undef):=λj v hj=>by
 match j,hj with
 |0,hj=>cases hj;exact .dat rfl rfl
 |1,hj=>cases hj;exact .dat rfl rfl
 |2,hj=>cases hj;exact .dat rfl rfl
 |3,hj=>cases hj;exact .dat rfl rfl
 |4,hj=>cases hj;exact .nilsl
def JO(B:Nat)(o:List Int)(ds:List (List Int))(s:List Int)(n:Int)(vo vd vs:Value):List Bx:=[⟨3,B,cX o ds s n,#[vo,vd,vs,.int .i64 n],29⟩,⟨6,B+1,cZ,#[.slice none 0 0,.slice none 0 0,.slice none 0 0,.int .i64 0],29⟩]
theorem iN{W:World}{L:List Bx}(hold:∀b,b<w.heap.size->W.heap[b]? =w.heap[b]?)(hL:∀x∈L,w.heap.size<=x.b){t:Ty}{x:t.I}{v:Value}(h:Rep (SS X jL) w t x [v]):Rep (SS X (LT L)) W t x [v]:=
 h.step λq hlt hq=>⟨⟨hq.1,λo mv hm hb=>by obtain⟨y,h1,_,rfl,_⟩:=vE hm;have:=hL y h1;rw[xo.1 hb]at hlt;omega⟩,hold q hlt⟩
theorem Oj{W:World}{lo S:Nat->Prop}{μ:Nat->Option MV}{B:Nat}(he:EdAct act k m va B)(h3:∃r h,μ 3=some ⟨.pointer (some ⟨B,0,none⟩),r,h⟩)(h6:∃r h,μ 6=some ⟨.pointer (some ⟨B+1,0,none⟩),r,h⟩)(ha:Rep S W (.slice (.int .i64)) l [va]){ob:List (Nat×Ob)}{r:List (Nat×AV)}(hr:∀i,i<10->aM r i=none):
  ∀i,i<10->RelV prog W lo μ S (St.slot {fr:=frB k m l++r,ob:=ob} i) (act.tmps.getD i undef):=λi hi=>by
 obtain⟨r3,g3,h3⟩:=h3;obtain⟨r6,g6,h6⟩:=h6
 match i,hi with
 |1,_=>rw[he.t1];exact .dat rfl rfl
 |2,_=>rw[he.t2];exact .dat rfl ha
 |3,_=>rw[he.t3];exact .box (o:=3) (k:=0) h3
 |6,_=>rw[he.t6];exact .box (o:=6) (k:=0) h6
 |7,_=>rw[he.t7];exact .dat rfl rfl
 |8,_=>rw[he.t8];exact .dat rfl rfl
 |9,_=>rw[he.t9];exact .dat rfl rfl
 |0,_=>show RelV prog W lo μ S ((aM r 0).getD .undef) _;rw[hr 0 (by omega)];exact .undef
 |4,_=>show RelV prog W lo μ S ((aM r 4).getD .undef) _;rw[hr 4 (by omega)];exact .undef
 |5,_=>show RelV prog W lo μ S ((aM r 5).getD .undef) _;rw[hr 5 (by omega)];exact .undef
theorem U1{W:World}(h:TabsOK w (eE w jL))(hold:∀b,b<w.heap.size->W.heap[b]? =w.heap[b]?):TabsOK W (eE w jL):=h.step λb hb=>hold b hb.1
theorem aGR(hX:∀b,X b->eE w jL b)(htab:TabsOK w (eE w jL))(hB:Below (w.heap.size+2) ((w.alloc (sM vo vd vs (.int .i64 n))).alloc kK) w2)(he:EdAct act k m va w.heap.size)
  (ho:Rep (SS X jL) w (.slice (.int .i64)) o [vo]) (hd:Rep (SS X jL) w (.slice (.slice (.int .i64))) ds [vd]) (hs:Rep (SS X jL) w (.slice (.int .i64)) s [vs]) (ha:Rep (SS X jL) w (.slice (.int .i64)) l [va]):
  Rel prog X (eE w jL) ⟨105,[],vf⟩ w (stB o ds s n k m l) act w2 (LT (JO w.heap.size o ds s n vo vd vs)):=by
 have hold:∀b,b<w.heap.size->w2.heap[b]? =w.heap[b]? :=λb hb=>by rw[hB.block b (by omega),bG w _ _ hb]
 have hL:∀x∈JO w.heap.size o ds s n vo vd vs,w.heap.size<=x.b:=λx hx=>by simp only[JO,xae,Ze,qm]at hx;rcases hx with rfl|rfl<;>simp
 have n2:=nK w (sM vo vd vs (.int .i64 n)) kK;have hsz:w.heap.size+2<=w2.heap.size:=by have:=hB.size;simpa using this
 refine⟨K6 (l:=JO w.heap.size o ds s n vo vd vs) hX (by omega) (U1 htab hold) (λx hx y hy h=>?_) (λx hx=>?_),λi=>?_,⟨hB.os,hB.tape,hB.output,by omega,λb hb=>hold b hb.1⟩,he.df,he.sz,λq hq=>by cases hq⟩;·simp only[JO,xae,Ze,qm]at hx hy;rcases hx with rfl|rfl<;>rcases hy with rfl|rfl<;>simp at h⊢
 ·refine⟨hL x hx,?_⟩;simp only[JO,xae,Ze,qm]at hx;rcases hx with rfl|rfl;·exact⟨by rw[hB.block _ (by show w.heap.size<_;omega)];exact n2.1,rfl,Lw (iN hold hL ho) (iN hold hL hd) (iN hold hL hs)⟩
  ·exact⟨by rw[hB.block _ (by show w.heap.size+1<_;omega)];exact n2.2,rfl,Mj⟩
 ·by_cases hi:i<10;·exact Oj (r:=[]) he ⟨_,_,rfl⟩ ⟨_,_,rfl⟩ (iN hold hL ha) (λ_ _=>rfl) i hi
  ·have:(stB o ds s n k m l).slot i=.undef:=by
    unfold St.slot stB;have hb:∀j,j<10->Nat.beq j i=false:=λj hj=>by
     cases h:Nat.beq j i with
     |false=>rfl
     |true=>exact absurd (xg h) (by omega)
    simp[aM,hb]
   rw[this];exact .undef
def bxT(B C:Nat)(o:List Int)(ds:List (List Int))(s:List Int)(n k a b c:Int)(vo vd vs:Value):List Bx:=JO B o ds s n vo vd vs++ [⟨12,C,cE k a b c,#[.int .i64 k,.int .i64 a,.int .i64 b,.int .i64 c,.slice none 0 0],109⟩]
theorem aHY(hX:∀b,X b->eE w jL b)(htab:TabsOK w (eE w jL))(hB:Below (w.heap.size+2) ((w.alloc (sM vo vd vs (.int .i64 n))).alloc kK) w2)(he:EdAct act k m va w.heap.size)(h12:act.tmps.getD 12 undef=.pointer (some ⟨w2.heap.size,0,none⟩))
  (ho:Rep (SS X jL) w (.slice (.int .i64)) o [vo]) (hd:Rep (SS X jL) w (.slice (.slice (.int .i64))) ds [vd]) (hs:Rep (SS X jL) w (.slice (.int .i64)) s [vs]) (ha:Rep (SS X jL) w (.slice (.int .i64)) l [va]):
  Rel prog X (eE w jL) ⟨105,[],vf⟩ w (stT o ds s n k m a b c l) act ((w2.alloc (S9 k a b c)).alloc (Q5 w2.heap.size)) (LT (bxT w.heap.size w2.heap.size o ds s n k a b c vo vd vs)):=by
 have hsz:w.heap.size+2<=w2.heap.size:=by have:=hB.size;simpa using this
 have hold:∀j,j<w.heap.size->((w2.alloc (S9 k a b c)).alloc (Q5 w2.heap.size)).heap[j]? =w.heap[j]? :=λj hj=>by rw[bG w2 _ _ (by omega),hB.block j (by omega),bG w _ _ hj]
 have hL:∀x∈bxT w.heap.size w2.heap.size o ds s n k a b c vo vd vs,w.heap.size<=x.b:=λx hx=>by
  simp only[bxT,JO,No,J8,xae,Ze,qm]at hx;rcases hx with rfl|rfl|rfl;·simp
  ·simp
  ·show w.heap.size<=w2.heap.size;omega
 have n2:=nK w (sM vo vd vs (.int .i64 n)) kK;have n4:=nK w2 (S9 k a b c) (Q5 w2.heap.size);have hs4:((w2.alloc (S9 k a b c)).alloc (Q5 w2.heap.size)).heap.size=w2.heap.size+2:=by simp
 refine⟨K6 (l:=bxT w.heap.size w2.heap.size o ds s n k a b c vo vd vs) hX (by omega) (U1 htab hold) (λx hx y hy h=>?_) (λx hx=>?_),λi=>?_,⟨hB.os,hB.tape,hB.output,by omega,λj hj=>hold j hj.1⟩,he.df,he.sz,λq hq=>by cases hq⟩;·simp only[bxT,JO,No,J8,xae,Ze,qm]at hx hy;rcases hx with rfl|rfl|rfl<;>rcases hy with rfl|rfl|rfl<;>simp at h⊢ <;>omega
 ·refine⟨hL x hx,?_⟩;simp only[bxT,JO,No,J8,xae,Ze,qm]at hx;rcases hx with rfl|rfl|rfl;·exact⟨by rw[bG w2 _ _ (by show w.heap.size<_;omega),hB.block _ (by show w.heap.size<_;omega)];exact n2.1,rfl,Lw (iN hold hL ho) (iN hold hL hd) (iN hold hL hs)⟩
  ·exact⟨by rw[bG w2 _ _ (by show w.heap.size+1<_;omega),hB.block _ (by show w.heap.size+1<_;omega)];exact n2.2,rfl,Mj⟩
  ·exact⟨n4.1,rfl,MD⟩
 ·by_cases hi:i<10
  ·exact Oj (r:=[(12,.box 12 0)]) he ⟨_,_,rfl⟩ ⟨_,_,rfl⟩ (iN hold hL ha) (λj hj=>by
    have:Nat.beq 12 j=false:=by
     cases h:Nat.beq 12 j with
     |false=>rfl
     |true=>exact absurd (xg h) (by omega)
    simp[aM,this]) i hi
  ·by_cases h':i=12;·subst h';rw[h12];exact .box (o:=12) (k:=0) rfl
   ·have:(stT o ds s n k m a b c l).slot i=.undef:=by
     unfold St.slot stT;have hb:∀j,(j<10\/j=12)->Nat.beq j i=false:=λj hj=>by
      cases h:Nat.beq j i with
      |false=>rfl
      |true=>exact absurd (xg h) (by omega)
     simp[aM,hb]
    rw[this];exact .undef
end
end
section
open Go.RowKit
open Go.Proofs.Tryz
abbrev EdR:=List Int×List (List Int)×List Int×Int×List UInt8×Bool
abbrev ON:=List Int->List (List Int)->List Int->Int->Int->List Int->Int×Int×Int×Int->Tr EdR
abbrev shX:Sh:=.agg (.cons (.dat (.slice (.int .i64))) (.cons (.dat (.slice (.slice (.int .i64)))) (.cons (.dat (.slice (.int .i64))) (.cons (.dat (.int .i64)) .nil))))
def kE(acts:List CA):RetK:=⟨acts,[.cell 6 29,.tmp 7,.tmp 8],.cons shX (.cons (.dat .str) (.cons (.dat .bool) .nil)),[],[],[]⟩
def LJ(acts:List CA)(r:EdR):(kE acts).T:=(((r.1,r.2.1,r.2.2.1,r.2.2.2.1,()),r.2.2.2.2.1,r.2.2.2.2.2,()),())
def aDw(m:Int)(l:List Int):Int×Int×Int×Int:=(m,if 0<m then l.getD 0 0 else 0,if 1<m then l.getD 1 0 else 0,if 2<m then l.getD 2 0 else 0)
def rM(m:Int)(li:Bool)(l:List Int):Bool:=decide (m<=(l.length:Int))&&(li||decide ((l.length:Int)<=m))
def H6(G:Int->Option (Int×Bool×Bool))(T:ON)(o:List Int)(ds:List (List Int))(s:List Int)(n k:Int)(l:List Int):Option EdR:=
 (G k).bind λr=>bif rM r.1 r.2.1 l then(T o ds s n k l (aDw r.1 l)).ev else some (o,ds,s,n,[],false)
def u0(G:Int->Option (Int×Bool×Bool))(T:ON):FD where
 A:=.cons shX (.cons (.dat (.int .i64)) (.cons (.dat (.slice (.int .i64))) .nil))
 ins:=[]
 lend:=[]
 R:=EdR
 F:=λx=>H6 G T x.1.1.1 x.1.1.2.1 x.1.1.2.2.1 x.1.1.2.2.2.1 x.1.2.1 x.1.2.2.1
 emb:=λr=>([.agg [.dat (.slice (.int .i64)) r.1,.dat (.slice (.slice (.int .i64))) r.2.1,.dat (.slice (.int .i64)) r.2.2.1,.dat (.int .i64) r.2.2.2.1],.dat .str r.2.2.2.2.1,.dat .bool r.2.2.2.2.2],[])
def T8(G:Int->Option (Int×Bool×Bool)):FD where
 A:=.cons (.dat (.int .i64)) .nil
 ins:=[]
 lend:=[]
 R:=Int×Bool×Bool
 F:=λx=>G x.1.1
 emb:=λr=>([.dat (.int .i64) r.1,.dat .bool r.2.1,.dat .bool r.2.2],[])
def Kw{L:Type}(p:L->Prop):Tr L->Prop
 | .f=>True
 | .l x=>p x
 | .t _ x y=>Kw p x/\Kw p y
 | .c _ _ k=>∀r,Kw p (k r)
 | .s _ _ _ k k'=>(∀a,Kw p (k a))/\∀b,Kw p (k' b)
theorem vM{L:Type}{p:L->Prop}{r:L}:∀{t:Tr L},Kw p t->t.ev=some r->p r
 | .l _,h,e=>by cases e;exact h
 | .t b _ _,h,e=>by
  cases b with
  |true=>exact vM h.1 e
  |false=>exact vM h.2 e
 | .c _ x _,h,e=>by obtain⟨y,_,e2⟩:=eM e;exact vM (h y) e2
 | .s _ _ x _ _,h,e=>by
  cases x with
  |inl a=>exact vM (h.1 a) e
  |inr b=>exact vM (h.2 b) e
theorem Of{P:Program}{w:World}{lo:Nat->Prop}{μ:Nat->Option MV}{S:Nat->Prop}{n:Bool}{x:Value}(h:RelV P w lo μ S (.dat .bool n) x):x=.bool n:=by
 cases h with
 |dat _ h=>simp only[Rep,Np,ql]at h;exact h
theorem Ha{G:Int->Option (Int×Bool×Bool)}(hs:dZ prog (102,T8 G)){k:Int}{r:Int×Bool×Bool}(hr:G k=some r)(w:World)(htab:TabsOK w (eE w jL)):
  Calls prog 102 #[.int .i64 k] w λe w'=>e=.returned (.tuple #[.int .i64 r.1,.bool r.2.1,.bool r.2.2])/\Below w.heap.size w w':=by
 have h:=hs ⟨(k,()),()⟩ r hr w (λ_=>False) jL #[.int .i64 k] (λb h=>h.elim) ⟨λb hb=>hb.elim,λb hb=>hb.1,λo mv h=>(by cases h),λo p mv mv' b h=>(by cases h),htab⟩ (λp hp=>by cases hp) rfl λj v hj=>by
  match j,hj with
  |0,hj=>cases hj;exact .dat rfl rfl
 have hb:f102.body.isSome=true:=by kernel_rfl
 obtain⟨cd,hc⟩:=xbd.1 hb;rcases h with⟨_,h⟩|⟨x,w',h,_⟩
 ·refine h.mono ?_;rintro e w' ⟨x,rfl,hk,μ,hm,_,_,hR⟩;refine⟨?_,⟨hk.os,hk.tape,hk.output,hk.size,λb hb=>hk.block b ⟨hb,λo mv h=>(by cases h)⟩⟩⟩;rcases hR with⟨v',e,_⟩|⟨_,hR⟩
  ·cases e
  ·cases hR with
   | @tup _ _ xs hl h=>
    have h0:=mC (h 0 _ rfl);have h1:=Of (h 1 _ rfl);have h2:=Of (h 2 _ rfl);have hx:xs= #[.int .i64 r.1,.bool r.2.1,.bool r.2.2]:=by
     have hs3:xs.size=3:=hl.symm;apply xhf;·simpa using hs3
     ·intro i hi hi2;have hg:∀j (hj:j<xs.size),xs[j]=xs.getD j undef:=λj hj=>by rw[xn,F3 hj];rfl
      have:i=0\/i=1\/i=2:=by simp at hi2;omega
      rcases this with rfl|rfl|rfl;·rw[hg _ hi,h0];rfl
      ·rw[hg _ hi,h1];rfl
      ·rw[hg _ hi,h2];rfl
    rw[hx]
 ·have he:=cP (P:=prog) func102 (by kernel_rfl) hc #[.int .i64 k] w;rw[he]at h;cases h
theorem aLD{S:Nat->Prop}{w:World}{l:List Int}{va:Value}(h:Rep S w (.slice (.int .i64)) l [va]):∃aa ca,va=.slice aa l.length ca/\(0<l.length->∃ba oa,aa=some ⟨ba,oa,none⟩/\ba<w.heap.size/\∀i,i<l.length->w.cell? ⟨ba,oa+i,none⟩=some (.int .i64 (l.getD i 0))):=by
 simp only[Rep]at h;obtain⟨a,c,e,_,h⟩:=h;simp only[Np,ql]at e;refine⟨a,c,e,λh0=>?_⟩;obtain⟨b,off,_,e1,_,_,_⟩:=h 0 (l.getD 0 0) (by rw[xd,xh h0];rfl);have hc:∀i,i<l.length->w.cell? ⟨b,off+i,none⟩=some (.int .i64 (l.getD i 0)):=λi hi=>by obtain⟨b',off',c',e2,_,e3,h3⟩:=h i (l.getD i 0) (by rw[xd,xh hi];rfl);rw[e1]at e2;cases e2;subst e3;have:=h3 0 _ rfl;simpa[Ty.size]using this
 refine⟨b,off,e1,?_,hc⟩;have:=hc 0 h0;unfold World.cell? at this;cases hq:w.heap[b]? with
 |none=>simp[hq]at this
 |some x=>exact(xba.1 hq).1
def QN(tt:Nat->TD)(rt:RetK):Out->Option rt.T
 | .ret s=>rt.at tt s
 |_=>none
theorem Rj{tt:Nat->TD}(h:Cx prog tt)(env:List (FP prog)){G:Int->Option (Int×Bool×Bool)}(hn:dZ prog (102,T8 G))(hG:∀k r,G k=some r->r.1=0\/r.1=1\/r.1=2\/r.1=3){T:ON}{acts:List CA}
  (runT:∀o ds s n k m a b c l,((cR (Kq env) tt bU (fK []) edT (stT o ds s n k m a b c l)).map (zA tt (kE acts))).ev=((T o ds s n k l (m,a,b,c)).map λr=>some (LJ acts r)).ev)
  (runB:∀o ds s n k m l,((cR (Kq env) tt bU (fK []) edB (stB o ds s n k m l)).map (QN tt (kE acts))).ev=some (some (LJ acts (o,ds,s,n,[],false))))
  (chkT:bT bU [] 105 edT=true) (Rr:bT bU [] 105 edB=true) (lT:bV edT=[]) (lB:bV edB=[]) (ok:(kE acts).ok=true):dZ prog (70,u0 G T):=by
 intro x z hz w X μi vals hX hmem hins hsz hv;obtain⟨⟨⟨o,ds,s,n,u1⟩,k,l,u2⟩,u3⟩:=x;have hμ:μi=jL:=funext λo=>by
  cases h:μi o with
  |none=>rfl
  |some mv=>obtain⟨_,h,_⟩:=hmem.ob o mv h;cases h
 subst hμ;have hz':H6 G T o ds s n k l=some z:=hz;unfold H6 at hz';obtain⟨r,hr,hz'⟩:=eM hz';have hsz3:vals.size=3:=hsz.symm;obtain⟨vf,vk,va,rfl⟩:∃x y z,vals= #[x,y,z]:=by
  refine⟨vals.getD 0 undef,vals.getD 1 undef,vals.getD 2 undef,?_⟩;apply xhf;·simpa using hsz3
  ·intro i hi hi2;have:i=0\/i=1\/i=2:=by simp at hi2;omega
   rcases this with rfl|rfl|rfl<;>simp[xn,hsz3]
 have h0:RelV prog w (eE w jL) jL (SS X jL) (.agg [.dat (.slice (.int .i64)) o,.dat (.slice (.slice (.int .i64))) ds,.dat (.slice (.int .i64)) s,.dat (.int .i64) n]) vf:=hv 0 _ rfl;have h1:RelV prog w (eE w jL) jL (SS X jL) (.dat (.int .i64) k) vk:=hv 1 _ rfl;have h2:RelV prog w (eE w jL) jL (SS X jL) (.dat (.slice (.int .i64)) l) va:=hv 2 _ rfl;obtain rfl:=mC h1;cases h0 with
 | @agg _ _ xs hxl hx=>
  obtain⟨vo,vd,vs,vn,rfl⟩:∃a b c d,xs= #[a,b,c,d]:=by
   have hs4:xs.size=4:=hxl.symm;refine⟨xs.getD 0 undef,xs.getD 1 undef,xs.getD 2 undef,xs.getD 3 undef,?_⟩;apply xhf;·simpa using hs4
   ·intro i hi hi2;have:i=0\/i=1\/i=2\/i=3:=by simp at hi2;omega
    rcases this with rfl|rfl|rfl|rfl<;>simp[xn,hs4]
  have rp:∀{t:Ty} {x:t.I} {v:Value},RelV prog w (eE w jL) jL (SS X jL) (.dat t x) v->Rep (SS X jL) w t x [v]:=λh=>by
   cases h with
   |dat _ h=>exact h
  have ro:=rp (hx 0 _ rfl);have rd:=rp (hx 1 _ rfl);have rs:=rp (hx 2 _ rfl);have en:vn=.int .i64 n:=mC (hx 3 _ rfl);have ra:=rp h2;have ro:Rep (SS X jL) w (.slice (.int .i64)) o [vo]:=ro;have rd:Rep (SS X jL) w (.slice (.slice (.int .i64))) ds [vd]:=rd;have rs:Rep (SS X jL) w (.slice (.int .i64)) s [vs]:=rs;subst en;have hXo:∀b,X b->eE w jL b:=hmem.hX;have hb:f70.body.isSome=true:=by kernel_rfl
  have hnt:(f70).ntmps=105:=by kernel_rfl
  have hres:(f70).results=(kE acts).res.toArray:=by kernel_rfl
  obtain⟨cd,hcd⟩:=xbd.1 hb;refine .inl ⟨cP func70 (by kernel_rfl) hcd _ w,?_⟩
  -- the end of either way
  have fin:∀{t:EdR} {st:St} {act:Act} {w':World} {μ:Nat->Option MV},Rel prog X (eE w jL) ⟨105,[],λi=>(#[]:Array Value).getD i undef⟩ w st act w' μ->(kE acts).at tt st=some (LJ acts t)->
    act.defers=[]/\∃v,(results f70 act.tmps).run prog w'=.ok v w'/\∃x,Ending.returned v=.returned x/\lX prog X (eE w jL) w w' jL ((u0 G T).emb t) x:=λ{t st act w' μ} hr ht=>by
   have hr':Rel prog X (eE w jL) ⟨(f70).ntmps,uB (kE acts).pins,λi=>(#[]:Array Value).getD i undef⟩ w st act w' μ:=by rw[hnt];exact hr
   let d0:FD:= {A:=.nil,ins:=[],lend:=[],R:=Unit,F:=λ_=>none,emb:=λ_=>([],[])}
   exact S8 h.t (d:=d0) (rt:=kE acts) (x:=((),())) (vals:= #[]) (λp hp=>by cases hp) hres ok (pk:=[]) rfl rfl rfl ⟨hmem,λi=>.undef,Kept.refl _ _,rfl,⟨by simp,λq hq=>by cases hq⟩⟩ (res:=(u0 G T).emb t) (t:=LJ acts t) rfl hr' ht
  have bad:∀m,z=(o,ds,s,n,[],false)->∀act w2,Below (w.heap.size+2) ((w.alloc (sM vo vd vs (.int .i64 n))).alloc kK) w2->EdAct act k m va w.heap.size->∀K,edB.wp prog (Exit.then K (bodyPost prog f70 λe w'=>∃x,e=.returned x/\lX prog X (eE w jL) w w' jL ((u0 G T).emb z) x)) act w2:=λm ez act w2 hB he K=>by
   have hrel:=aGR (vf:=λi=>(#[]:Array Value).getD i undef) (n:=n) hXo hmem.tab hB he ro rd rs ra;have hrun:=runB o ds s n k m l;rw[Tr.ev_map]at hrun;obtain⟨out,k1,k2⟩:=xau.1 hrun;have hl:eO (Kq env) tt bU [] edB:=λp hp=>by rw[lB]at hp;cases hp
   refine Code.wp_mono (λe act' w' hp=>?_) (iJ h.m (uN env) h.t edB (dV h.m (uN env) h.t edB hl Rr) Rr _ _ _ _ out hrel k1);cases e with
   |normal=>obtain⟨s',μ',rfl,_⟩:=hp;cases k2
   |ret=>obtain⟨s',μ',rfl,hr⟩:=hp;rw[ez];exact fin hr k2
   |exit i=>obtain⟨s',μ',rfl,_⟩:=hp;cases k2
   |_=>exact hp.elim
  have good:∀m a b c,(T o ds s n k l (m,a,b,c)).ev=some z->∀act w2,Below (w.heap.size+2) ((w.alloc (sM vo vd vs (.int .i64 n))).alloc kK) w2->EdAct act k m va w.heap.size->act.tmps.getD 12 undef=.pointer (some ⟨w2.heap.size,0,none⟩)->
    edT.wp prog (bodyPost prog f70 λe w'=>∃x,e=.returned x/\lX prog X (eE w jL) w w' jL ((u0 G T).emb z) x) act ((w2.alloc (S9 k a b c)).alloc (Q5 w2.heap.size)):=λm a b c ez act w2 hB he h12=>by
   have hrel:=aHY (vf:=λi=>(#[]:Array Value).getD i undef) (n:=n) (a:=a) (b:=b) (c:=c) hXo hmem.tab hB he h12 ro rd rs ra;have hrun:=runT o ds s n k m a b c l;rw[Tr.ev_map,Tr.ev_map,ez]at hrun;obtain⟨out,k1,k2⟩:=xau.1 hrun;have hl:eO (Kq env) tt bU [] edT:=λp hp=>by rw[lT]at hp;cases hp
   refine Code.wp_mono (λe act' w' hp=>?_) (iJ h.m (uN env) h.t edT (dV h.m (uN env) h.t edT hl chkT) chkT _ _ _ _ out hrel k1);cases e with
   |normal=>obtain⟨s',μ',rfl,hr⟩:=hp;exact fin hr k2
   |ret=>obtain⟨s',μ',rfl,hr⟩:=hp;exact fin hr k2
   |exit i=>obtain⟨s',μ',rfl,_⟩:=hp;cases k2
   |_=>exact hp.elim
  have hN:Hid (∀w1,(∀b,b<w.heap.size->w1.heap[b]? =w.heap[b]?)->w.heap.size<=w1.heap.size->Calls prog 102 #[.int .i64 k] w1 λe w'=>e=.returned (.tuple #[.int .i64 r.1,.bool r.2.1,.bool r.2.2])/\Below w1.heap.size w1 w'):=
   Hid.mk' λw1 ho hs=>Ha hn hr w1 ((U1 hmem.tab ho).le λb hb=>⟨yF hb.1 hs,λo mv h=>(by cases h)⟩)
  obtain⟨aa,ca,rfl,hw⟩:=aLD ra;have hm:=hG k r hr;obtain⟨m,li,ok3⟩:=r;simp only at hm hz' hN;have eB:rM m li l=false->z=(o,ds,s,n,[],false):=λh=>by rw[h]at hz';exact(zB hz').symm
  have eT:rM m li l=true->(T o ds s n k l (aDw m l)).ev=some z:=λh=>by rw[h]at hz';exact hz'
  have fT:m<=(l.length:Int)->(li=true\/(l.length:Int)<=m)->rM m li l=true:=λh1 h2=>by unfold rM;rw[qc h1,Gq,Z7,qe];exact h2
  have fB:¬(m<=(l.length:Int)/\(li=true\/(l.length:Int)<=m))->rM m li l=false:=λh=>by unfold rM;rw[xen];intro h';rw[xf,Z7,qe,qe]at h';exact h h'
  by_cases hfew:(l.length:Int)<m;·exact Jc w hfew hN (Hid.mk' λact w2 hB he K=>bad m (eB (fB λh=>by omega)) act w2 hB he K)
  rcases hm with rfl|rfl|rfl|rfl;·refine Ij w hN (Hid.mk' λhno act w2 hB he K=>bad 0 (eB (fB λh=>hno ⟨by omega,h.2.imp id λh=>by omega⟩)) act w2 hB he K) (Hid.mk' λh1 h2 act w2 hB he h12=>good 0 0 0 0 ?_ act w2 hB he h12);exact eT (fT (by omega) (h2.imp id λh=>by omega))
  ·obtain⟨ba,oa,rfl,hbs,hc⟩:=hw (by omega);refine Ke w (hc 0 (by omega)) hbs hN (Hid.mk' λhno act w2 hB he K=>bad 1 (eB (fB λh=>hno ⟨by omega,h.2.imp id λh=>by omega⟩)) act w2 hB he K) (Hid.mk' λh1 h2 act w2 hB he h12=>good 1 (l.getD 0 0) 0 0 ?_ act w2 hB he h12);exact eT (fT (by omega) (h2.imp id λh=>by omega))
  ·obtain⟨ba,oa,rfl,hbs,hc⟩:=hw (by omega);refine Id w (hc 0 (by omega)) (hc 1 (by omega)) hbs hN (Hid.mk' λhno act w2 hB he K=>bad 2 (eB (fB λh=>hno ⟨by omega,h.2.imp id λh=>by omega⟩)) act w2 hB he K) (Hid.mk' λh1 h2 act w2 hB he h12=>good 2 (l.getD 0 0) (l.getD 1 0) 0 ?_ act w2 hB he h12);exact eT (fT (by omega) (h2.imp id λh=>by omega))
  ·obtain⟨ba,oa,rfl,hbs,hc⟩:=hw (by omega);refine Gl w (hc 0 (by omega)) (hc 1 (by omega)) (hc 2 (by omega)) hbs hN (Hid.mk' λhno act w2 hB he K=>bad 3 (eB (fB λh=>hno ⟨by omega,h.2.imp id λh=>by omega⟩)) act w2 hB he K) (Hid.mk' λh1 h2 act w2 hB he h12=>good 3 (l.getD 0 0) (l.getD 1 0) (l.getD 2 0) ?_ act w2 hB he h12);exact eT (fT (by omega) (h2.imp id λh=>by omega))
end
end Go.Proofs.YtjiljcblmgeioaaGreatDoor
