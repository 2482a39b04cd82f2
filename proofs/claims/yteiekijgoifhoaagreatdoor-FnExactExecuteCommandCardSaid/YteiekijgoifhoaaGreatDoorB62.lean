/- A part of the proof that FnExactExecuteCommand hands back true, at every argument of the row. -/
import Derived.Test.YteiekijgoifhoaaGreatDoorB55
import Derived.Test.YteiekijgoifhoaaGreatDoorProg
import Derived.Shelf.SlicesG.Clone
import Derived.Shelf.RegionOpenPlain
import Derived.Deep.LoopGhost
import Derived.Deep.RegionLaw
import Derived.Lib.Walk
import Derived.Sort.WalkB12
import Derived.Lib.SliceRun
import Derived.Lib.SlicesDelete
import Derived.Lib.SplitLaws
import Derived.Laws.CopyOwn
import Derived.OwnWalk
import Derived.HandedShaped
import Derived.LoopN
import Derived.Sort.WalkC4
namespace Go.Proofs.YteiekijgoifhoaaGreatDoor
set_option linter.all false
abbrev FP[Tabs](P:Program):= {p:Nat×FD// dV P p}
def Bg[Tabs]{P:Program}(l:List (FP P)):Env:=nF (l.map (·.1))
theorem sT[Tabs]{P:Program}(l:List (FP P)):iV P (Bg l):=uT λp hp=>by obtain⟨q,_,rfl⟩:=xak.1 hp;exact q.2
structure Cx[Tabs](P:Program)(tt:Nat->TD):Prop where
 m:P.follows .mixedOrders=true
 t:aT P tt
def Fq(l:List (Nat×List (Nat×List Nat)))(r i:Nat):List Nat:=match aI l r with
 |some l=>(aI l i).getD []
 |none=>[]
noncomputable def aAR(A:Sh)(I:List (Nat×OSh))(L:List LP){R:Type}(T:A.I×OL I->Tr R)(K:RetK)(rho:R->K.T):FD where
 A:=A
 ins:=I
 lend:=L
 R:=R
 F:=λx=>(T x).ev
 emb:=λr=>(val K.sh (rho r).1,dX K.obs (rho r).2++K.gone.map λo=>(o,.spent))
def m9(f:Func):Code:=f.body.getD .skip
noncomputable def aG[Tabs]{P:Program}{tt:Nat->TD}(h:Cx P tt){f:Nat}{fn:Func}(at_:P.funcs[f]? =some fn)(env:List (FP P))(A:Sh)(I:List (Nat×OSh))(L:List LP){R:Type}(T:A.I×OL I->Tr R)(K:RetK)(rho:R->K.T)
  (Z:Nat->Nat->List Nat:=bU) (l:List (Nat×LD):=[])
  (loops:xZ (Bg env) tt Z l (m9 fn) l:=by repeat(first|exact lpN|(refine lpC (Io (λ_=>rfl) ?_) ?_;· intro _ _;kernel_rfl)))
  (nd:decide ((bW (m9 fn)).map (·.1)).Nodup=true:=by kernel_rfl)
  (run:∀x:A.I×OL I,((cR (Bg env) tt Z (fD l) (m9 fn) (kQ A I x)).map (xA tt K)).ev=((T x).map λr=>some (rho r)).ev:=by intro _;kernel_rfl)
  (name:(fn.name== "runtime.NumGoroutine")=false:=by kernel_rfl) (body:fn.body=some (m9 fn):=by kernel_rfl) (res:fn.results=K.res.toArray:=by kernel_rfl) (ok:K.ok=true:=by kernel_rfl)
  (arity:∀x:A.I×OL I,(val A x.1).length<=fn.ntmps:=by exact λ_=>xdl (by kernel_rfl)) (pin:∀x:A.I×OL I,(K.pins.all λq=>rY ((kQ A I x).slot q.1) q.2.1 q.2.2)=true:=by exact λ_=>by kernel_rfl)
  (chk:bT Z (vH K.pins) fn.ntmps (m9 fn)=true:=by kernel_rfl) (gone:(K.gone.all λo=>(Nat.ble 64 o&&(I.map (·.1)).any (Nat.beq o))&& !(K.obs.map (·.1)).any (Nat.beq o))=true:=by rfl):FP P:=
 ⟨(f,aAR A I L T K rho),Va (d:=aAR A I L T K rho) h.m (sT env) h.t ⟨at_,name,body,res,ok,arity,pin,chk,Rz nd loops,run,λ_=>rfl,λ_=>rfl,gone⟩⟩
abbrev yh(l:List Nat)(s:Sh):Keep:= {acts:=[],S:= {slots:=l,sh:=s,obs:=[]}}
abbrev yk(a:List CA)(l:List Nat)(s:Sh)(o:List (Nat×OSh)):Keep:= {acts:=a,S:= {slots:=l,sh:=s,obs:=o}}
abbrev yr(r:List ResultVar)(s:Sh):RetK:= {acts:=[],res:=r,sh:=s,obs:=[],pins:=[]}
abbrev yj:List Sh->Sh
 | []=>.nil
 |a::l=>.cons a (yj l)
def yx(i:Nat)(k:Keep)(x:k.S.T):Tr Ex:=.l (.exit i (yU k.S x))
def yz(k:Keep)(x:k.S.T):Tr Ex:=.l (.ret (yU k.S x))
noncomputable def yl{K V R:Type}(step:K->V->Tr (V⊕R))(head:Keep)(exits:List (Nat×Keep))(rets:Keep)(join:K->V->head.S.T)(sk:head.S.T->K)(sv:head.S.T->V)(leaf:K->R->Tr Ex):LD:=
 {head:=head,exits:=exits,rets:=rets,K:=K,V:=V,R:=R,join:=join,sk:=sk,sv:=sv,step:=step,leaf:=leaf}
section
open Go.RowKit (Below)
open Go.Proofs.Tryz
def Ps:Go.Shelf.Ren:=⟨fun|41=>116|n=>n,fun|22=>22|23=>3|4=>4|n=>n,λn=>n⟩
theorem uI:SlLaysN.n41 prog Ps:= {
 mixed:=by kernel_rfl
 f41:=⟨f116.name,by kernel_rfl,func116.trans (congrArg some (by kernel_rfl))⟩
 t4:=underlying4
 a4:=isAgg4
 z4:=sizeOf4
 v4:=zeroValue4
 t22:=underlying22
 a22:=isAgg22
 z22:=sizeOf22
 v22:=zeroValue22
 t23:=underlying3
 a23:=isAgg3
 z23:=sizeOf3
 v23:=zeroValue3
 i23:=by kernel_rfl}
theorem E7{S:Nat->Prop}{w:World}:∀l:List Int,RepL S w (.int .i64) l (l.map (Value.int .i64))
 | []=>rfl
 |x::l=>⟨[.int .i64 x],l.map (Value.int .i64),rfl,rfl,E7 l⟩
theorem Hm[Tabs]{P:Program}{X lo:Nat->Prop}{w w':World}{μi:Nat->Option MV}{e:Nat}{l:List Int}{v:Value}(ho:w'.ownsRow w.heap.size e 1 v l.length (l.map (Value.int .i64)))(hk:Kept lo w w')(hX:∀b,X b->lo b)(hlo:∀b,lo b->b<w.heap.size)
  (aa:TabsOK w lo):kO P X lo w w' μi ([.arr 0],[(0,.arr e (.int .i64) l)]) v:=P0 (λ_=>E7 l) ho hk hX hlo aa
def qQ(l:List Int):Option (List Int):=if l.length*8<=140737488355328 then some l else none
def fdClone:FD where
 A:=.cons (.dat (.slice (.int .i64))) .nil
 ins:=[]
 lend:=[]
 R:=List Int
 F:=λx=>qQ x.1.1
 emb:=λr=>([.arr 0],[(0,.arr 3 (.int .i64) r)])
theorem Dq[Tabs]:dV prog (116,fdClone):=by
 intro x r hr w X μi vals hX hm ai af hv;obtain⟨⟨l,u⟩,v⟩:=x;have aa:qQ l=some r:=hr;unfold qQ at aa;split at aa
 next ah=>
  have e:l=r:=tM aa;subst e;obtain⟨x,rfl,h1⟩:=Uv (v:=.dat (.slice (.int .i64)) l) af hv;have hb:f116.body.isSome=true:=by kernel_rfl
  obtain⟨c,hc⟩:=xbi.1 hb;have ab:Rep (SS X μi) w (.slice (.int .i64)) l [x]:=by cases h1 with|dat _ hr=>exact hr
  simp only[Rep]at ab;obtain⟨a,cap,e,aj,ae⟩:=ab;simp only[Gq,ql]at e;subst e;refine .inl ⟨cQ func116 (by kernel_rfl) hc _ w,?_⟩;have fin:∀{v':Value} {w':World},w'.ownsRow w.heap.size 3 1 v' l.length (l.map (Value.int .i64))->Below w.heap.size w w'->kO prog X (eI w μi) w w' μi (fdClone.emb l) v':=λho hb=>
   Hm ho (Kept.of hb hm.hlo) hX hm.hlo hm.tab
  cases l with
  |nil=>
   cases a with
   |none=>
    refine(AnyG.slices_Clone_int_nil uI _ _ w).mono λe w' ⟨he,hw⟩=>⟨_,he,?_⟩
    subst hw;exact fin (World.ownsRow_nil w' _ _ _) (Below.refl _ _)
   |some a=>
    refine(AnyG.slices_Clone_int_zero uI a _ w).mono λe w' ⟨v',he,ho,_,hb⟩=>⟨_,he,?_⟩
    exact fin ho hb
  |cons y l=>
   obtain⟨b,off,c',ha,_⟩:=ae 0 y rfl;subst ha;have ad:∀j,j<(y::l).length->w.cell? ⟨b,off+j,none⟩=some (.int .i64 ((y::l).getD j 0)):=λj hj=>by obtain⟨b',ak,c1,h1,_,h3,h4⟩:=ae j _ (xh hj);cases h1;subst h3;have:=h4 0 _ rfl;simp only[Ty.size,sK,wY]at this;rw[this,xe,xh hj];rfl
   refine(AnyG.slices_Clone_int uI b off _ _ (y::l) w (xp _) ah ad).mono λe w' ⟨v',he,ho,_,hb⟩=>⟨_,he,?_⟩
   rw[pM]at ho;exact fin ho hb
 next=>cases aa
end
section
open Go.RowKit Go.Lib Go.Sort
open Go.Proofs.Tryz
theorem Gj{P:Program}{t n:Nat}(h:(P.info? t).map (·.size)=some n):∃i,P.info? t=some i/\i.size=n:=by obtain⟨i,h1,h2⟩:=xba.1 h;exact⟨i,h1,h2⟩
set_option maxHeartbeats 4000000 in
set_option maxRecDepth 1000000 in
theorem Oj(blk cap i j:Nat)(d:Array Value)(w:World)(hH:Holds id w blk 0 d)(ho:∀u∈d.toList,u.oneCell'=true)(hcap:d.size<=cap)(hm:cap<=9223372036854775807)(hij:i<j)(hj:j<=d.size):
  Calls prog 268 #[.slice (some ⟨blk,0,none⟩) d.size cap,.int .i64 i,.int .i64 j] w λe w'=>e=.returned (.slice (some ⟨blk,0,none⟩) (d.size-(j-i)) cap)/\∃q,w'=putRow id (Sort.ahead w q) blk 0 (d.toList.take i++d.toList.drop j++List.replicate (j-i) (Value.int .i64 0)).toArray:=by
 have mixed:prog.follows .mixedOrders=true:=by kernel_rfl
 obtain⟨i0,hi0,hz1⟩:=Gj (P:=prog) (t:=3) (n:=1) (by kernel_rfl);obtain⟨news,hnews⟩:∃news,news=d.toList.drop j:=⟨_,rfl⟩
 have hlen:news.length=d.size-j:=by rw[hnews];simp
 have hget:∀t,t<d.size-j->news[t]? =some d[j+t]! :=by intro t ht;rw[hnews,vN,LY,getElem!_pos d (j+t) (by omega),r7 (by omega)]
 obtain⟨A,hA,hsrc⟩:∃A:Addr,(if cap=j then some (⟨blk,0,none⟩:Addr)else some ⟨blk,j,none⟩)=some A/\Hid (∀t u,news[t]? =some u->w.drew.cell? (A.add t)=some u):=by
  by_cases h:cap=j
  ·refine⟨⟨blk,0,none⟩,by simp[h],λt u hu=>?_⟩;have h0:news.length=0:=by rw[hlen];omega
   rw[xgw.1 h0]at hu;simp at hu
  ·refine⟨⟨blk,j,none⟩,by simp[h],λt u hu=>?_⟩;have ht:t<d.size-j:=by have:=(xu.1 hu).1;rwa [hlen]at this
   rw[hget t ht]at hu;rw[Addr.add_lit,show j+t=0+(j+t) by omega];exact(hH (j+t) (by omega)).1.trans hu
 have s1:Hid (news.length=(d.size-j)*1):=by rw[sK];exact hlen
 have s2:Hid (∀u∈news,u.oneCell'=true):=λu hu=>ho u (xdp (hnews▸hu));have s3:Hid (∀t,t<news.length->(w.drew.cell? ⟨blk,0+i*1+t,none⟩).isSome=true/\w.drew.frozen? ⟨blk,0+i*1+t,none⟩=false):=by intro t ht;rw[hlen]at ht;rw[sK,EB];exact⟨by show(w.cell? _).isSome=true;rw[(hH (i+t) (by omega)).1];rfl,(hH (i+t) (by omega)).2⟩
 obtain⟨W1,hW1⟩:∃W1,W1=w.drew.setCells blk (0+i*1) news:=⟨_,rfl⟩
 have hW1':W1=putRow id (Sort.ahead w 1) blk 0 (lay d i (d.toList.drop j)):=by have e:=putRow_setCells id (Sort.ahead w 1) blk 0 (d.toList.drop j) d i (by simp;omega);rw[xgr,putRow_self id (Sort.ahead w 1) blk 0 d (holds_ahead id w 1 blk 0 d hH)]at e;rw[hW1,hnews,sK,<-e];rfl
 have hH1:Holds id W1 blk 0 (lay d i (d.toList.drop j)):=by rw[hW1'];exact holds_putRow id _ blk 0 d _ (holds_ahead id w 1 blk 0 d hH) (lay_size _ _ _)
 have hcl:∀ty,(Builtin.clear_ #[22] ty #[.slice (some ⟨blk,i+(d.size-j),none⟩) (d.size-(i+(d.size-j))) (cap-(i+(d.size-j)))]).run prog W1=.ok (.tuple #[]) (W1.setCells blk (i+(d.size-j)) (List.replicate (d.size-(i+(d.size-j))) (Value.int .i64 0))):=
  λty=>Lib.run_clear_slice W1 _ _ ty _ underlying22 zeroValue3 rfl rfl blk (i+(d.size-j)) _ _ (by omega) (λt ht=>by rw[show i+(d.size-j)+t=0+(i+(d.size-j)+t) by omega,(hH1 _ (by rw[lay_size];omega)).1];rfl) (λt ht=>by rw[show i+(d.size-j)+t=0+(i+(d.size-j)+t) by omega];exact(hH1 _ (by rw[lay_size];omega)).2)
 have X:Aside (W1=putRow id (Sort.ahead w 1) blk 0 (lay d i (d.toList.drop j))):=hW1';have hW:Hid (W1=w.drew.setCells blk (0+i*1) news):=hW1;have hic:i<=cap:=by omega
 have hjc:j<=cap:=by omega
 clear hW1 hW1' hH1 hH hget hnews hlen ho
 go_enter func268,(show(f268).ntmps=33 from by kernel_rfl)
 go_wp2_with fail
 go_region_law_o (refine step_append_room rfl (.tmp 22) (.tmp 25) 22 rfl 3 i0 1 underlying22 hi0 hz1 blk 0 i cap (by simp[Act.eval,Act.put]) A (d.size-j) (cap-j) news (by simp[Act.eval,Act.put]) s1.out hsrc.out s2.out (by omega) s3.out ?_;rw[<-hW.out])
 go_wp2
 go_ret
 refine⟨by rw[show d.size-(j-i)=i+(d.size-j) by omega];rfl,1,?_⟩;have e:=putRow_setCells id (Sort.ahead w 1) blk 0 (List.replicate (d.size-(i+(d.size-j))) (Value.int .i64 0)) (lay d i (d.toList.drop j)) (i+(d.size-j)) (by rw[lay_size];simp;omega);rw[xgr,<-X.out,K6]at e;rw[<-delete_arr d i j (Value.int .i64 0) (by omega) hj,show j-i=d.size-(i+(d.size-j)) by omega];exact e
set_option maxHeartbeats 4000000 in
set_option maxRecDepth 1000000 in
theorem Ok(blk cap i j:Nat)(d:Array Value)(w:World)(hH:Holds id w blk 0 d)(ho:∀u∈d.toList,u.oneCell'=true)(hcap:d.size<=cap)(hm:cap<=9223372036854775807)(hij:i<j)(hj:j<=d.size):
  Calls prog 269 #[.slice (some ⟨blk,0,none⟩) d.size cap,.int .i64 i,.int .i64 j] w λe w'=>e=.returned (.slice (some ⟨blk,0,none⟩) (d.size-(j-i)) cap)/\∃q,w'=putRow id (Sort.ahead w q) blk 0 (d.toList.take i++d.toList.drop j++List.replicate (j-i) (Value.slice none 0 0)).toArray:=by
 have mixed:prog.follows .mixedOrders=true:=by kernel_rfl
 obtain⟨i0,hi0,hz1⟩:=Gj (P:=prog) (t:=22) (n:=1) (by kernel_rfl);obtain⟨news,hnews⟩:∃news,news=d.toList.drop j:=⟨_,rfl⟩
 have hlen:news.length=d.size-j:=by rw[hnews];simp
 have hget:∀t,t<d.size-j->news[t]? =some d[j+t]! :=by intro t ht;rw[hnews,vN,LY,getElem!_pos d (j+t) (by omega),r7 (by omega)]
 obtain⟨A,hA,hsrc⟩:∃A:Addr,(if cap=j then some (⟨blk,0,none⟩:Addr)else some ⟨blk,j,none⟩)=some A/\Hid (∀t u,news[t]? =some u->w.drew.cell? (A.add t)=some u):=by
  by_cases h:cap=j
  ·refine⟨⟨blk,0,none⟩,by simp[h],λt u hu=>?_⟩;have h0:news.length=0:=by rw[hlen];omega
   rw[xgw.1 h0]at hu;simp at hu
  ·refine⟨⟨blk,j,none⟩,by simp[h],λt u hu=>?_⟩;have ht:t<d.size-j:=by have:=(xu.1 hu).1;rwa [hlen]at this
   rw[hget t ht]at hu;rw[Addr.add_lit,show j+t=0+(j+t) by omega];exact(hH (j+t) (by omega)).1.trans hu
 have s1:Hid (news.length=(d.size-j)*1):=by rw[sK];exact hlen
 have s2:Hid (∀u∈news,u.oneCell'=true):=λu hu=>ho u (xdp (hnews▸hu));have s3:Hid (∀t,t<news.length->(w.drew.cell? ⟨blk,0+i*1+t,none⟩).isSome=true/\w.drew.frozen? ⟨blk,0+i*1+t,none⟩=false):=by intro t ht;rw[hlen]at ht;rw[sK,EB];exact⟨by show(w.cell? _).isSome=true;rw[(hH (i+t) (by omega)).1];rfl,(hH (i+t) (by omega)).2⟩
 obtain⟨W1,hW1⟩:∃W1,W1=w.drew.setCells blk (0+i*1) news:=⟨_,rfl⟩
 have hW1':W1=putRow id (Sort.ahead w 1) blk 0 (lay d i (d.toList.drop j)):=by have e:=putRow_setCells id (Sort.ahead w 1) blk 0 (d.toList.drop j) d i (by simp;omega);rw[xgr,putRow_self id (Sort.ahead w 1) blk 0 d (holds_ahead id w 1 blk 0 d hH)]at e;rw[hW1,hnews,sK,<-e];rfl
 have hH1:Holds id W1 blk 0 (lay d i (d.toList.drop j)):=by rw[hW1'];exact holds_putRow id _ blk 0 d _ (holds_ahead id w 1 blk 0 d hH) (lay_size _ _ _)
 have hcl:∀ty,(Builtin.clear_ #[23] ty #[.slice (some ⟨blk,i+(d.size-j),none⟩) (d.size-(i+(d.size-j))) (cap-(i+(d.size-j)))]).run prog W1=.ok (.tuple #[]) (W1.setCells blk (i+(d.size-j)) (List.replicate (d.size-(i+(d.size-j))) (Value.slice none 0 0))):=
  λty=>Lib.run_clear_slice W1 _ _ ty _ underlying23 zeroValue22 rfl rfl blk (i+(d.size-j)) _ _ (by omega) (λt ht=>by rw[show i+(d.size-j)+t=0+(i+(d.size-j)+t) by omega,(hH1 _ (by rw[lay_size];omega)).1];rfl) (λt ht=>by rw[show i+(d.size-j)+t=0+(i+(d.size-j)+t) by omega];exact(hH1 _ (by rw[lay_size];omega)).2)
 have X:Aside (W1=putRow id (Sort.ahead w 1) blk 0 (lay d i (d.toList.drop j))):=hW1';have hW:Hid (W1=w.drew.setCells blk (0+i*1) news):=hW1;have hic:i<=cap:=by omega
 have hjc:j<=cap:=by omega
 clear hW1 hW1' hH1 hH hget hnews hlen ho
 go_enter func269,(show(f269).ntmps=33 from by kernel_rfl)
 go_wp2_with fail
 go_region_law_o (refine step_append_room rfl (.tmp 22) (.tmp 25) 23 rfl 22 i0 1 underlying23 hi0 hz1 blk 0 i cap (by simp[Act.eval,Act.put]) A (d.size-j) (cap-j) news (by simp[Act.eval,Act.put]) s1.out hsrc.out s2.out (by omega) s3.out ?_;rw[<-hW.out])
 go_wp2
 go_ret
 refine⟨by rw[show d.size-(j-i)=i+(d.size-j) by omega];rfl,1,?_⟩;have e:=putRow_setCells id (Sort.ahead w 1) blk 0 (List.replicate (d.size-(i+(d.size-j))) (Value.slice none 0 0)) (lay d i (d.toList.drop j)) (i+(d.size-j)) (by rw[lay_size];simp;omega);rw[xgr,<-X.out,K6]at e;rw[<-delete_arr d i j (Value.slice none 0 0) (by omega) hj,show j-i=d.size-(i+(d.size-j)) by omega];exact e
theorem V4{w:World}{b q:Nat}{cur:Array Value}{e:Nat}{fr:Nat×Nat}(hb:w.heap[b]? =some (.cells cur e fr)){d:Array Value}(hd:d.size<=cur.size):
  (putRow id (Sort.ahead w q) b 0 d).heap[b]? =some (.cells (Sort.putCells id 0 d cur) e fr)/\(∀k,k≠b->(putRow id (Sort.ahead w q) b 0 d).heap[k]? =w.heap[k]?)/\(putRow id (Sort.ahead w q) b 0 d).heap.size=w.heap.size/\
  (Sort.putCells id 0 d cur).size=cur.size/\(Sort.putCells id 0 d cur).toList.take d.size=d.toList:=by
 have hah:(Sort.ahead w q).heap=w.heap:=rfl;refine⟨?_,λk hk=>?_,by rw[size_putRow];rfl,by simp[Sort.putCells],?_⟩;·simp[putRow,mapBlock,Array.getElem?_modify,hah,hb,onCells]
 ·simp only[putRow,mapBlock,Array.getElem?_modify,hah,qh (wA hk)]
 ·apply xer;intro k;rw[Ip];split
  next hk=>
   rw[LY,LY,Sort.putCells,Array.getElem?_mapIdx,r7 (show k<cur.size by omega),mX,qi ⟨Ao _,by omega⟩,Nat.sub_zero,getElem!_pos d k hk,r7 hk];rfl
  next hk=>rw[LY,JH (by omega)]
theorem EJ{R:AV->Value->Prop}{v u t:AV}{vals:Array Value}(h1:List.length [v,u,t]=vals.size)(h2:∀j z,aO [v,u,t] j=some z->R z (vals.getD j undef)):∃x y z,vals= #[x,y,z]/\R v x/\R u y/\R t z:=by
 have:vals.size=3:=by simpa using h1.symm
 refine⟨vals.getD 0 undef,vals.getD 1 undef,vals.getD 2 undef,?_,h2 0 v rfl,h2 1 u rfl,h2 2 t rfl⟩;apply xhj;·simpa using this
 ·intro i hi hi2;have:i=0\/i=1\/i=2:=by simp at hi2;omega
  rcases this with rfl|rfl|rfl<;>simp[Array.getD,hi]
def CW(μi:Nat->Option MV)(m:MV)(o:Nat):Option MV:=match o with
 |0=>some m
 |o=>if o=64 then(μi 64).map λmv=>⟨mv.v,[],[]⟩else none
theorem nM{μi:Nat->Option MV}{m mv:MV}{o:Nat}(h:CW μi m o=some mv):(o=0/\mv=m)\/(o=64/\∃mv0,μi 64=some mv0/\mv=⟨mv0.v,[],[]⟩):=by
 unfold CW at h;split at h;·exact .inl ⟨rfl,(tM h).symm⟩
 ·split at h
  next e=>
   obtain⟨mv0,h1,h2⟩:=xba.1 h;exact .inr ⟨e,mv0,h1,h2.symm⟩
  next=>cases h
theorem Fn[Tabs]{P:Program}{X:Nat->Prop}{w w':World}{μi:Nat->Option MV}{m m0:MV}{x:Ob}{a:Option Addr}{n c:Nat}(hX:∀b,X b->eI w μi b)(htab:TabsOK w (eI w μi))(hk:Kept (eI w μi) w w')(h64:μi 64=some m0)
  (hv:m.v=.slice a n c) (ho:∀S':Nat->Prop,(∀b,SS X μi b->b<w.heap.size->S' b)->ObOK P w' (eI w μi) (CW μi m) S' x m) (hr:m.rs=m0.rs):kO P X (eI w μi) w w' μi ([.arr 0],[(0,x),(64,.spent)]) (.slice a n c):=by
 refine⟨hk,CW μi m,⟨hX,λb hb=>wN hb.1 hk.size,λo mv h=>?_,λo p mv mv' b h1 h2 k1 k2=>?_,htab.step hk.block⟩,λo mv h=>?_,λp hp hge=>?_,.inl ⟨_,rfl,?_⟩⟩
 ·rcases nM h with⟨rfl,rfl⟩|⟨rfl,mv0,h1,rfl⟩
  ·refine⟨x,rfl,ho _ λb hs _=>⟨hs.1,λo mv h=>?_⟩⟩;rcases nM h with⟨rfl,rfl⟩|⟨rfl,mv0,h1,rfl⟩
   ·rw[hr];exact hs.2 64 _ h64
   ·simp
  ·exact⟨.spent,rfl,rfl,λb hb=>by cases hb⟩
 ·rcases nM h1 with⟨rfl,rfl⟩|⟨rfl,mv0,_,rfl⟩
  ·rcases nM h2 with⟨rfl,rfl⟩|⟨rfl,mv0,_,rfl⟩
   ·rfl
   ·cases k2
  ·cases k1
 ·rcases nM h with⟨rfl,rfl⟩|⟨rfl,_⟩
  ·exact⟨(0,x),by simp,rfl⟩
  ·exact⟨(64,.spent),by simp,rfl⟩
 ·rcases xaj.1 hp with rfl|hp;·exact absurd hge (by simp)
  ·rw[xx.1 hp];refine⟨m0,[],[],h64,?_⟩;show(if(64:Nat)=64 then(μi 64).map λmv=>(⟨mv.v,[],[]⟩:MV)else none)=_;rw[qi rfl,h64];rfl
 ·exact .arr (rs:=m.rs) (hs:=m.hs) (by show some m=_;rw[<-hv])
theorem RepL.take[Tabs]{S:Nat->Prop}{w:World}{t:Ty}(ht:t.size=1):∀{l:List t.I} {cs:List Value} (i:Nat),RepL S w t l cs->RepL S w t (l.take i) (cs.take i)
 | [],cs,i,h=>by have:cs=[]:=h;subst this;simp only[List.take_nil];exact(rfl:([]:List Value)=[])
 |x::l,cs,0,h=>(rfl:([]:List Value)=[])
 |x::l,cs,i+1,h=>by obtain⟨c,r,rfl,h1,h2⟩:=h;have hc:=h1.len;rw[ht]at hc;obtain⟨u,rfl⟩:=xfo.1 hc;exact⟨[u],r.take i,rfl,h1,RepL.take ht i h2⟩
theorem RepL.drop[Tabs]{S:Nat->Prop}{w:World}{t:Ty}(ht:t.size=1):∀{l:List t.I} {cs:List Value} (i:Nat),RepL S w t l cs->RepL S w t (l.drop i) (cs.drop i)
 | [],cs,i,h=>by have:cs=[]:=h;subst this;simp only[List.drop_nil];exact(rfl:([]:List Value)=[])
 |x::l,cs,0,h=>h
 |x::l,cs,i+1,h=>by obtain⟨c,r,rfl,h1,h2⟩:=h;have hc:=h1.len;rw[ht]at hc;obtain⟨u,rfl⟩:=xfo.1 hc;exact RepL.drop ht i h2
def w6{α:Type}(i j:Int)(l:List α):Option (List α):=if 0<=i/\i<j/\j<=(l.length:Int)then some (l.take i.toNat++l.drop j.toNat)else none
def fdDelI:FD where
 A:=.cons (.arr 64) (.cons (.dat (.int .i64)) (.cons (.dat (.int .i64)) .nil))
 ins:=[(64,.arr 3 (.int .i64))]
 lend:=[.arg 0]
 R:=List Int
 F:=λx=>w6 x.1.2.1 x.1.2.2.1 x.2.1
 emb:=λr=>([.arr 0],[(0,.arr 3 (.int .i64) r),(64,.spent)])
def fdDelR:FD where
 A:=.cons (.arr 64) (.cons (.dat (.int .i64)) (.cons (.dat (.int .i64)) .nil))
 ins:=[(64,.rows 22 3 (.int .i64))]
 lend:=[.arg 0]
 R:=List (List Int)
 F:=λx=>w6 x.1.2.1 x.1.2.2.1 x.2.1
 emb:=λr=>([.arr 0],[(0,.rows 22 3 (.int .i64) r none),(64,.spent)])
theorem pB{w:World}{b cap n i j q:Nat}{cur:Array Value}{e:Nat}{xs:List Value}(hg:w.heap[b]? =some (.cells cur e (0,0)))(hn:n<=cap)(hcs:cur.size=cap)(hx:cur.toList.take n=xs)(hij:i<j)(hj:j<=n)(z:Value):
  Holds id w b 0 xs.toArray/\xs.length=n/\∀w',w'=putRow id (Sort.ahead w q) b 0 (xs.take i++xs.drop j++List.replicate (j-i) z).toArray->
   (∃cur',w'.heap[b]? =some (.cells cur' e (0,0))/\cur'.size=cap/\cur'.toList.take (n-(j-i))=xs.take i++xs.drop j)/\(∀k,k≠b->w'.heap[k]? =w.heap[k]?)/\w'.heap.size=w.heap.size:=by
 have hl:xs.length=n:=by rw[<-hx];simp;omega
 refine⟨λt ht=>?_,hl,λw' hw=>?_⟩
 ·have ht':t<n:=by simpa[hl]using ht
  have e1:(xs.toArray)[t]! =cur[t]'(by omega):=by rw[getElem!_pos xs.toArray t ht];simp[<-hx]
  refine⟨?_,?_⟩;·rw[e1];simp[World.cell?,hg,r7 (show 0+t<cur.size by omega)]
  ·simp[World.frozen?,hg]
 ·have hsz:(xs.take i++xs.drop j++List.replicate (j-i) z).toArray.size=n:=by simp;omega
  obtain⟨h1,h2,h3,h4,h5⟩:=V4 (q:=q) hg (d:=(xs.take i++xs.drop j++List.replicate (j-i) z).toArray) (by omega);subst hw;refine⟨⟨_,h1,by omega,?_⟩,h2,h3⟩;have h6:=congrArg (List.take (n-(j-i))) h5;rw[hsz,xfm,Ns (by omega)]at h6;rw[h6];simp only[List.toList_toArray];rw[xfx (by simp;omega),Ak (by simp;omega)]
theorem Hb{α:Type}(l:List α){i j:Nat}(n:Nat)(hi:i<=l.length):(l.take i++l.drop j)[n]? =l[if n<i then n else j+(n-i)]? :=by
 have hlt:(l.take i).length=i:=by rw[kN];omega
 by_cases hn:n<i;·rw[yD (by omega),xgs hn,qi hn]
 ·rw[j8 (by omega),hlt,vN,qh hn]
theorem Nf[Tabs]:dV prog (268,fdDelI):=by
 intro x r hr w X μi vals hX hm hins hsz hv;obtain⟨⟨u,i,j,u2⟩,l,u3⟩:=x;have hr':w6 i j l=some r:=hr;unfold w6 at hr';split at hr'
 next hin=>
  cases hr';obtain⟨hi0,hij,hjl⟩:=hin;obtain⟨i,rfl⟩:=xei hi0;obtain⟨j,rfl⟩:=xei (show(0:Int)<=j by omega);obtain⟨x,y,z,rfl,h1,h2,h3⟩:=EJ (v:=.arr 64) (u:=.dat (.int .i64) (i:Int)) (t:=.dat (.int .i64) (j:Int)) hsz hv;rw[lF h2,lF h3];cases h1 with
  | @arr _ _ a n c rs hs hμ=>
   obtain⟨ob,hob,hobo⟩:=hm.ob 64 _ hμ;have hob':ob=.arr 3 (.int .i64) l:=by have:aI (dX fdDelI.ins (l,u3)) 64=some (.arr 3 (.int .i64) l):=rfl;exact tM (hob.symm.trans this)
   subst hob';obtain⟨⟨hhs,hrs⟩,hnl,xs,hown,hrep⟩:=hobo;simp only at hhs hrs hnl hown;subst hhs;rcases hown.2 with⟨_,e2⟩|⟨b,cap,cur,ev,_,hg,hnc,hcm,hcs,htk⟩
   ·omega
   ·simp only[Value.slice.injEq]at ev;obtain⟨rfl,rfl,rfl⟩:=ev;have hsz1:Ty.size (.int .i64)=1:=rfl;rw[hsz1,sK]at hcs htk;obtain⟨hH,hxl,_⟩:=pB (q:=0) hg hnc hcs htk (i:=i) (j:=j) (by omega) (by omega) (.int .i64 0);have hb:f268.body.isSome=true:=by kernel_rfl
    obtain⟨cd,hc⟩:=xbi.1 hb;have hone:=hrep.one;have hrun:=Oj b c i j xs.toArray w hH (λu hu=>hone u (by simpa using hu)) (by simpa[hxl]using hnc) (by simpa[maxLen]using hcm) (by omega) (by simp[hxl];omega);rw[show xs.toArray.size=l.length by simpa using hxl]at hrun;refine .inl ⟨cQ func268 (by kernel_rfl) hc _ w,?_⟩;refine hrun.mono λe w' ⟨he,q,hq⟩=>⟨_,he,?_⟩
    obtain⟨⟨cur',g1,g2,g3⟩,g4,g5⟩:=(pB (q:=q) hg hnc hcs htk (i:=i) (j:=j) (by omega) (by omega) (.int .i64 0)).2.2 w' (by simpa using hq);have hbr:b∈rs:=by rw[hrs];simp[aD]
    have hos:w'.os=w.os/\w'.tape=w.tape/\w'.output=w.output:=by rw[hq];exact⟨rfl,rfl,rfl⟩
    have hk:Kept (eI w μi) w w':=⟨hos.1,hos.2.1,hos.2.2,Nat.le_of_eq g5.symm,λk hk=>g4 k λe=>hk.2 64 _ hμ (e▸hbr)⟩
    refine Fn (m:=⟨.slice (some ⟨b,0,none⟩) (l.length-(j-i)) c,rs,[]⟩) hX hm.tab hk hμ rfl (λS' hS'=>?_) rfl;refine⟨⟨rfl,hrs⟩,λb' hb'=>hnl b' hb',xs.take i++xs.drop j,⟨?_,.inr ⟨b,c,cur',?_,Ao _,g1,?_,hcm,?_,?_⟩⟩,?_⟩;·simp[hsz1];omega
    ·simp;omega
    ·simp;omega
    ·rw[hsz1,sK];exact g2
    ·rw[hsz1,sK];simp only[mZ,xm,kN,vA];rw[<-g3];congr 1;omega
    ·have hst:RepL S' w' (.int .i64) l xs:=hrep.plain (d:=rfl);exact(RepL.take rfl i hst).append (RepL.drop rfl j hst)
 next=>cases hr'
theorem Ir[Tabs]:dV prog (269,fdDelR):=by
 intro x r hr w X μi vals hX hm hins hsz hv;obtain⟨⟨u,i,j,u2⟩,l,u3⟩:=x;have hr':w6 i j l=some r:=hr;unfold w6 at hr';split at hr'
 next hin=>
  cases hr';obtain⟨hi0,hij,hjl⟩:=hin;obtain⟨i,rfl⟩:=xei hi0;obtain⟨j,rfl⟩:=xei (show(0:Int)<=j by omega);obtain⟨x,y,z,rfl,h1,h2,h3⟩:=EJ (v:=.arr 64) (u:=.dat (.int .i64) (i:Int)) (t:=.dat (.int .i64) (j:Int)) hsz hv;rw[lF h2,lF h3];cases h1 with
  | @arr _ _ a n c rs hs hμ=>
   obtain⟨ob,hob,hobo⟩:=hm.ob 64 _ hμ;have hob':ob=.rows 22 3 (.int .i64) l none:=by have:aI (dX fdDelR.ins (l,u3)) 64=some (.rows 22 3 (.int .i64) l none):=rfl;exact tM (hob.symm.trans this)
   subst hob';obtain⟨hro,_⟩:=hobo;have hown:=hro.own;have hlen:=hro.len;simp only at hown hlen;have hno:∀k,dQ none k:=λk i d h=>by cases h
   rcases hown.2 with⟨_,e2⟩|⟨b,cap,cur,ev,_,hg,hnc,hcm,hcs,htk⟩
   ·omega
   ·simp only[Value.slice.injEq]at ev;obtain⟨rfl,rfl,rfl⟩:=ev;rw[sK]at hcs htk;obtain⟨hH,hxl,_⟩:=pB (q:=0) hg hnc hcs htk (i:=i) (j:=j) (by omega) (by omega) (.slice none 0 0);have hb:f269.body.isSome=true:=by kernel_rfl
    obtain⟨cd,hc⟩:=xbi.1 hb;have hone:∀u∈hs,u.oneCell'=true:=λu hu=>by obtain⟨a2,n2,c2,rfl⟩:=hro.slc u hu;rfl
    have hrun:=Ok b c i j hs.toArray w hH (λu hu=>hone u (by simpa using hu)) (by simpa[hxl]using hnc) (by simpa[maxLen]using hcm) (by omega) (by simp[hxl];omega);rw[show hs.toArray.size=l.length by simpa using hxl]at hrun;refine .inl ⟨cQ func269 (by kernel_rfl) hc _ w,?_⟩;refine hrun.mono λe w' ⟨he,q,hq⟩=>⟨_,he,?_⟩
    obtain⟨⟨cur',g1,g2,g3⟩,g4,g5⟩:=(pB (q:=q) hg hnc hcs htk (i:=i) (j:=j) (by omega) (by omega) (.slice none 0 0)).2.2 w' (by simpa using hq);have hbr:b∈rs:=hro.top b (by simp[aD]);have hos:w'.os=w.os/\w'.tape=w.tape/\w'.output=w.output:=by rw[hq];exact⟨rfl,rfl,rfl⟩
    have hk:Kept (eI w μi) w w':=⟨hos.1,hos.2.1,hos.2.2,Nat.le_of_eq g5.symm,λk hk=>g4 k λe=>hk.2 64 _ hμ (e▸hbr)⟩
    refine Fn (m:=⟨.slice (some ⟨b,0,none⟩) (l.length-(j-i)) c,rs,hs.take i++hs.drop j⟩) hX hm.tab hk hμ rfl (λS' hS'=>?_) rfl;refine⟨⟨⟨?_,.inr ⟨b,c,cur',?_,Ao _,g1,?_,hcm,?_,?_⟩⟩,λk hk=>hro.top k hk,λk hk=>⟨(hro.low k hk).1,by rw[g5];exact(hro.low k hk).2⟩,λy hy=>?_,λq y r hj' hy hq=>?_,λq q' y z kb hj' hk' hy hz h3 h4=>?_⟩,λi' d' hd'=>by cases hd'⟩;·simp;omega
    ·simp;omega
    ·simp;omega
    ·rw[sK];exact g2
    ·rw[sK];simp only[mZ,xm,kN,vA];rw[<-g3];congr 1;omega
    ·rcases xaa.1 hy with hy|hy;·exact hro.slc y (Je hy)
     ·exact hro.slc y (xdp hy)
    ·simp only[mZ]at hy hq;rw[Hb _ _ (by omega)]at hy hq;obtain⟨z1,ys,z2,z3⟩:=hro.row _ y r (hno _) hy hq;refine⟨λk hk=>⟨(z1 k hk).1,λhk2=>(z1 k hk).2 hk2⟩,ys,aW z2 λk hk=>g4 k λe=>(z1 k hk).2 (by rw[e];rfl),z3.plain (d:=rfl)⟩
    ·simp only[mZ]at hy hz;rw[Hb _ _ (by omega)]at hy hz;have:=hro.apart _ _ y z kb (hno _) (hno _) hy hz h3 h4;split at this<;>split at this<;>omega
 next=>cases hr'
end
section
open Go.RowKit (Below)
open Go.Proofs.Tryz
theorem x9{S:Nat->Prop}{w:World}:∀l:List (List UInt8),RepL S w .str l (l.map λs=>Value.string ⟨s.toArray⟩)
 | []=>rfl
 |x::l=>⟨[.string ⟨x.toArray⟩],l.map λs=>Value.string ⟨s.toArray⟩,rfl,rfl,x9 l⟩
theorem Hv(l:List ByteArray):(l.map (·.data.toList)).map (λs=>Value.string ⟨s.toArray⟩)=l.map Value.string:=by rw[List.map_map];exact MM λx _=>by simp
theorem Lj(w:World)(o:Obj):(w.alloc o).heap[w.heap.size]? =some o:=by show(w.heap.push o)[w.heap.size]? =some o;simp
set_option maxHeartbeats 1000000 in
theorem Do(c:UInt8)(s:ByteArray)(w:World)(hs:s.size<4294967281):
  Calls prog 55 #[.string s,.string ⟨#[c]⟩] w λe w'=>
   e=.returned (.slice (some ⟨w.heap.size,0,none⟩) (Lib.countB s ⟨#[c]⟩+1) (Lib.countB s ⟨#[c]⟩+1))/\w'=w.alloc (.cells ((Lib.splitB ⟨#[c]⟩ 0 (Lib.countB s ⟨#[c]⟩) s).map Value.string).toArray 9):=by
 have L:=Tryz.lays146;have h1:1<=(⟨#[c]⟩:ByteArray).size:=xp _;have hle:=Lib.countB_le ⟨#[c]⟩ h1 s.size s (xp _);have hlen:=Lib.splitB_all ⟨#[c]⟩ h1 0 _ s rfl;have hcnt:Calls prog (Tryz.lays146_ren.f 138) #[.string s,.string ⟨#[c]⟩] w λe w'=>e=.returned (.int .i64 (Lib.countB s ⟨#[c]⟩))/\w'=w:=by
  refine(Any.strings_Count_one {L with} s c w).mono λe w' ⟨he,hw⟩=>⟨?_,hw⟩
  rw[he];show _=Ending.returned (Value.int .i64 ((Lib.count s.data.toList [c]:Nat):Int));rw[Lib.count_one];rfl
 have cc:=Any.strings_genSplit_core {L with} (by kernel_rfl) s ⟨#[c]⟩ 0 (-1) (Lib.countB s ⟨#[c]⟩+1) w hs h1 (Ao _)
  (λx cs _=>(Any.strings_Index_one {L with} x c _).mono λe w' ⟨he,hw⟩=>⟨by rw[he,<-Lib.index_one],hw⟩) hcnt (by decide) (by decide) (by rw[qi (by decide)];omega)
 rw[xgf,hlen]at cc;have e2:Lib.cellsOf (Lib.splitB ⟨#[c]⟩ 0 (Lib.countB s ⟨#[c]⟩) s) (Lib.countB s ⟨#[c]⟩+1)=((Lib.splitB ⟨#[c]⟩ 0 (Lib.countB s ⟨#[c]⟩) s).map Value.string).toArray:=by rw[<-hlen];exact Lib.cellsOf_full _
 rw[e2]at cc
 go_enter func55,(show(f55).ntmps=_ from rfl)
 go_wp2_with (go_at_call 111;refine cc.mono ?_;rintro e w' ⟨rfl,hw⟩;rw[hw])
 go_ret
 exact⟨rfl,rfl⟩
def yE(s sep:List UInt8):Option (List (List UInt8)):=if s.length<4294967281/\sep.length=1 then some (Lib.split s sep)else none
def Fk:FD where
 A:=.cons (.dat .str) (.cons (.dat .str) .nil)
 ins:=[]
 lend:=[]
 R:=List (List UInt8)
 F:=λx=>yE x.1.1 x.1.2.1
 emb:=λr=>([.arr 0],[(0,.arr 9 .str r)])
theorem Ap:dV prog (55,Fk):=by
 intro x r hr w X μi vals hX hm hins hsz hv;obtain⟨⟨s,sep,u⟩,v⟩:=x;have hr':yE s sep=some r:=hr;unfold yE at hr';split at hr'
 next hin=>
  have e:=tM hr';subst e;obtain⟨x,y,rfl,h1,h2⟩:=Hs (v:=.dat .str s) (u:=.dat .str sep) hsz hv;rw[zD h1,zD h2];obtain⟨c,hc⟩:∃c,sep=[c]:=xfo.1 hin.2;subst hc;have hb:f55.body.isSome=true:=by kernel_rfl
  obtain⟨b,hb⟩:=xbi.1 hb;have hsize:(⟨s.toArray⟩:ByteArray).size=s.length:=by simp[ByteArray.size]
  have hle:=Lib.countB_le ⟨#[c]⟩ (xp _) _ ⟨s.toArray⟩ (xp _);have hlen:=Lib.splitB_all ⟨#[c]⟩ (xp _) 0 _ ⟨s.toArray⟩ rfl;have hd:(Lib.splitB ⟨#[c]⟩ 0 (Lib.countB ⟨s.toArray⟩ ⟨#[c]⟩) ⟨s.toArray⟩).map (·.data.toList)=Lib.split s [c]:=Lib.splitB_data _ _ _ _;have hln:(Lib.split s [c]).length=Lib.countB ⟨s.toArray⟩ ⟨#[c]⟩+1:=by rw[<-hd,An,hlen]
  refine .inl ⟨cQ func55 (by kernel_rfl) hb _ w,(Do c ⟨s.toArray⟩ w (by rw[hsize];exact hin.1)).mono λe w' ⟨he,hw⟩=>⟨_,he,?_⟩⟩;subst hw;have hbe:Below w.heap.size w (w.alloc (.cells ((Lib.splitB ⟨#[c]⟩ 0 (Lib.countB ⟨s.toArray⟩ ⟨#[c]⟩) ⟨s.toArray⟩).map Value.string).toArray 9)):=(Below.refl _ _).alloc (xp _) _;refine P0 (t:=.str) (cs:=(Lib.split s [c]).map λs=>Value.string ⟨s.toArray⟩) (λS=>x9 _) ?_ (Kept.of hbe hm.hlo) hX hm.hlo hm.tab;rw[<-hd,Hv,An,hlen];refine⟨by simp[hlen,Ty.size],.inr ⟨w.heap.size,_,_,rfl,xp _,Lj _ _,xp _,?_,?_,?_⟩⟩;·unfold maxLen;omega
  ·simp[hlen,Ty.size]
  ·rw[show Ty.size .str=1 from rfl,sK];exact Ak (by simp[hlen])
 next=>cases hr'
def D0(l:List (List UInt8))(sep:List UInt8):Option (List UInt8):=if l.length<=140737488355328/\(Lib.join l sep).length<=140737488355328 then some (Lib.join l sep)else none
def fdJoin:FD where
 A:=.cons (.dat (.slice .str)) (.cons (.dat .str) .nil)
 ins:=[]
 lend:=[]
 R:=List UInt8
 F:=λx=>D0 x.1.1 x.1.2.1
 emb:=λr=>([.dat .str r],[])
theorem Ml:dV prog (179,fdJoin):=by
 intro x r hr w X μi vals hX hm hins hsz hv;obtain⟨⟨l,sep,u⟩,v⟩:=x;have hr':D0 l sep=some r:=hr;unfold D0 at hr';split at hr'
 next hin=>
  have e:=tM hr';subst e;obtain⟨x,y,rfl,h1,h2⟩:=Hs (v:=.dat (.slice .str) l) (u:=.dat .str sep) hsz hv;rw[zD h2];have hb:f179.body.isSome=true:=by kernel_rfl
  obtain⟨b,hb⟩:=xbi.1 hb;have hrep:Rep (SS X μi) w (.slice .str) l [x]:=by cases h1 with|dat _ hr=>exact hr
  simp only[Rep]at hrep;obtain⟨a,cap,e,hcap,hel⟩:=hrep;simp only[Gq,ql]at e;subst e;refine .inl ⟨cQ func179 (by kernel_rfl) hb _ w,?_⟩;have fin:∀{w':World},Below w.heap.size w w'->kO prog X (eI w μi) w w' μi (fdJoin.emb (Lib.join l sep)) (.string ⟨(Lib.join l sep).toArray⟩):=λhb=>G2 rfl (λ_=>rfl) (Kept.of hb hm.hlo) hX hm.hlo hm.tab;cases l with
  |nil=>
   refine(Tryz.strings_Join_none a cap ⟨sep.toArray⟩ w).mono λe w' ⟨he,hw⟩=>⟨_,he,?_⟩
   subst hw;exact fin (Below.refl _ _)
  |cons y l=>
   obtain⟨b,off,c',ha,_⟩:=hel 0 y rfl;subst ha;have hmap:((y::l).map λs=>(⟨s.toArray⟩:ByteArray)).map (·.data.toList)=y::l:=by rw[List.map_map];exact(MM λx _=>by simp).trans (xgr _)
   have hlt:b<w.heap.size:=by obtain⟨b',off',c1,h1,_,h3,h4⟩:=hel 0 y rfl;cases h1;subst h3;have:=h4 0 _ rfl;exact World.block_lt_of_cell? _ _ this
   have hcell:∀(j:Nat) x,((y::l).map λs=>(⟨s.toArray⟩:ByteArray))[j]? =some x->w.cell? ⟨b,off+j,none⟩=some (.string x):=λj x hx=>by rw[mY]at hx;obtain⟨z,hz,rfl⟩:=xba.1 hx;obtain⟨b',off',c1,h1,_,h3,h4⟩:=hel j z hz;cases h1;subst h3;have:=h4 0 _ rfl;simpa only[Ty.size,sK,wY]using this
   have c:=Tryz.strings_Join b off cap ((y::l).map λs=>(⟨s.toArray⟩:ByteArray)) ⟨sep.toArray⟩ w hcell hlt (by rw[An];exact hin.1) (by rw[An];exact hcap) (by rw[hmap];exact hin.2);rw[hmap,An]at c;exact c.mono λe w' ⟨he,hb⟩=>⟨_,he,fin hb⟩
 next=>cases hr'
theorem Ez{w w':World}{k:Nat}{os:Array Obj}(h:w'=Sort.grow (w.drewN k) os):Below w.heap.size w w':=by subst h;exact⟨rfl,rfl,rfl,by rw[Sort.size_grow];exact Nat.le_add_right _ _,λb hb=>by show(w.heap++os)[b]? =w.heap[b]?;exact AR hb⟩
def cX(s:List UInt8):Int×Bool:=match Lib.atoiAll s with
 | .ok v=>if-999999<=v/\v<=999999/\Lib.itoa v=s then(v,true)else(0,false)
 |_=>(0,false)
def xX(s:List UInt8):Option (Int×Bool):=if s.length<=1048576 then some (cX s)else none
def G6:FD where
 A:=.cons (.dat .str) .nil
 ins:=[]
 lend:=[]
 R:=Int×Bool
 F:=λx=>xX x.1.1
 emb:=λr=>([.dat (.int .i64) r.1,.dat .bool r.2],[])
set_option maxHeartbeats 2000000 in
theorem Iv(s:List UInt8)(hs:s.length<=1048576)(v:Int)(hv:Lib.atoiAll s=.ok v)(r:Int×Bool)(hr:(if-999999<=v/\v<=999999/\Lib.itoa v=s then(v,true)else(0,false))=r)(w:World)(htab:∀w',Below w.heap.size w w'->Lib.TabIs prog w' "internal/strconv.uint64pow10" .u64 Lib.pow10Tab):
  Calls prog 127 #[.string ⟨s.toArray⟩] w λe w'=>e=.returned (.tuple #[.int .i64 r.1,.bool r.2])/\Below w.heap.size w w':=by
 have hsize:(⟨s.toArray⟩:ByteArray).size=s.length:=by simp[ByteArray.size]
 obtain⟨b0,b1⟩:=Lib.atoiAll_bounds hv;have cA:=Tryz.strconv_Atoi_ok ⟨s.toArray⟩ (by rw[hsize];omega) v hv w;have hb1:∀w1,(w1=w\/∃t,w1=Lib.bytesWorld w 5 t)->Below w.heap.size w w1:=λw1 h=>by
  rcases h with rfl|⟨t,rfl⟩
  ·exact Below.refl _ _
  ·exact Lib.bytesWorld_below _ _ _
 have no:(v< -999999\/999999<v\/¬Lib.itoa v=s)->r=(0,false):=λh=>by
  rw[<-hr,qh];rintro⟨h1,h2,h3⟩;rcases h with h|h|h;·omega
  ·omega
  ·exact h h3
 have yes:¬v< -999999->¬999999<v->Lib.itoa v=s->r=(v,true):=λh1 h2 h3=>by rw[<-hr,qi ⟨by omega,by omega,h3⟩]
 clear hr
 go_enter func127,(show(f127).ntmps=28 from by kernel_rfl)
 go_wp2_with (first
  |(go_at_call 191;refine cA.mono ?_;rintro e w1 ⟨rfl,hw1⟩)
  |(go_at_call 176;refine(Tryz.strconv_Itoa v b0 b1 _ (htab _ (hb1 _ (by assumption)))).mono ?_;rintro e w2 ⟨rfl,k,os,hw2⟩;have hb2:=(hb1 _ (by assumption)).trans ((Ez hw2).mono (hb1 _ (by assumption)).size);subst hw2))
 all_goals go_ret2
 all_goals first
  |exact⟨rfl,by assumption⟩
  |exact⟨rfl,hb1 _ (by assumption)⟩
  |(rename_i h;rw[no (by
    rcases h with(h|h)|h;·exact .inl h
    ·exact .inr (.inl h)
    ·exact .inr (.inr (by simpa using h)))];exact⟨rfl,by assumption⟩)
  |(rename_i h;rw[yes (by omega) (by omega) (by simpa using h.2)];exact⟨rfl,by assumption⟩)
set_option maxHeartbeats 2000000 in
theorem C7(s:List UInt8)(r:Int)(te:TypeId)(w:World)
  (cA:Calls prog 191 #[.string ⟨s.toArray⟩] w λe w'=>∃N,e=.returned (.tuple #[.int .i64 r,.iface te (.pointer (some ⟨N,0,none⟩))])/\Below w.heap.size w w'):
  Calls prog 127 #[.string ⟨s.toArray⟩] w λe w'=>e=.returned (.tuple #[.int .i64 0,.bool false])/\Below w.heap.size w w':=by
 go_enter func127,(show(f127).ntmps=28 from by kernel_rfl)
 go_wp2_with (first
  |(go_at_call 191;refine cA.mono ?_;rintro e w1 ⟨N,rfl,hw1⟩))
 all_goals go_ret2
 all_goals exact⟨rfl,by assumption⟩
theorem Fl{w:World}{b:Nat}{v:Value}{t:TypeId}{y:Nat×Nat}(h:w.heap[b]? =some (.cells #[v] t y)):w.cell? ⟨b,0,none⟩=some v:=by unfold World.cell?;simp[h]
theorem Mw(s:List UInt8)(hs:s.length<=1048576)(w:World)(htab:∀w',Below w.heap.size w w'->Lib.TabIs prog w' "internal/strconv.uint64pow10" .u64 Lib.pow10Tab)
  (he:∀b∈(doorTabs).errs,∃u v t y,w.heap[b]? =some (.cells #[.iface u v] t y)):
  Calls prog 127 #[.string ⟨s.toArray⟩] w λe w'=>e=.returned (.tuple #[.int .i64 (cX s).1,.bool (cX s).2])/\Below w.heap.size w w':=by
 have hsize:(⟨s.toArray⟩:ByteArray).size=s.length:=by simp[ByteArray.size]
 unfold cX;cases h:Lib.atoiAll s with
 |ok v=>exact Iv s hs v h _ rfl w htab
 |range=>obtain⟨u,v,t,y,hc⟩:=he 4 (.tail _ (.head _));exact C7 s _ _ w ((Tryz.strconv_Atoi_range ⟨s.toArray⟩ (by rw[hsize];omega) h _ w (Fl hc) (.inr ⟨u,v,rfl⟩)).mono λe w' ⟨N,h1,_,_,h2⟩=>⟨N,h1,h2⟩)
 |_=>obtain⟨u,v,t,y,hc⟩:=he 3 (.head _);exact C7 s _ _ w ((Tryz.strconv_Atoi_none ⟨s.toArray⟩ (by rw[hsize];omega) (λv e=>by rw[h]at e;cases e) (λe=>by rw[h]at e;cases e) _ w (Fl hc) (.inr ⟨u,v,rfl⟩)).mono λe w' ⟨N,h1,_,_,h2⟩=>⟨N,h1,h2⟩)
theorem Db:dV prog (127,G6):=by
 intro x r hr w X μi vals hX hm hins hsz hv;obtain⟨⟨s,u⟩,v⟩:=x;have hr':xX s=some r:=hr;unfold xX at hr';split at hr'
 next hs=>
  obtain rfl:=tM hr';obtain⟨x,rfl,h1⟩:=Uv (v:=.dat .str s) hsz hv;rw[zD h1];have hb:f127.body.isSome=true:=by kernel_rfl
  obtain⟨b,hb⟩:=xbi.1 hb;refine .inl ⟨cQ func127 (by kernel_rfl) hb _ w,(Mw s hs w (λw' h=>Hj (hm.tab.step λb hb=>h.block b (hm.hlo b hb))) (λb hb=>(hm.tab.2 b hb).2)).mono λe' w' ⟨he,hbe⟩=>⟨_,he,?_⟩⟩;have hk:=Kept.of (lo:=eI w μi) hbe hm.hlo;refine⟨hk,λ_=>none,⟨hX,λb hb=>wN (hm.hlo b hb) hk.size,λo mv h=>(by cases h),λo p mv mv' b h=>(by cases h),hm.tab.step hk.block⟩,λo mv h=>(by cases h),λp hp=>(by cases hp),.inr ⟨by simp[G6],.tup rfl λj v hj=>?_⟩⟩
  match j,hj with
  |0,hj=>cases hj;exact .dat rfl rfl
  |1,hj=>cases hj;exact .dat rfl rfl
 next=>cases hr'
end
section
open Go.RowKit Go.Lib
open Go.Proofs.Tryz
theorem HO{w:World}{b e n:Nat}{xs:List Value}(h:w.ownsRow b e 1 (.slice (some ⟨b,0,none⟩) n n) n xs):w.heap[b]? =some (.cells xs.toArray e (0,0)):=by
 rcases h.2 with⟨h1,_⟩|⟨g,cap,cur,h1,_,h2,_,_,h3,h4⟩
 ·cases h1
 ·simp only[Value.slice.injEq,xf,Addr.mk.injEq,ql]at h1;obtain⟨rfl,_,rfl⟩:=h1;rw[h2,<-h4,Ak (by rw[Wi,h3];exact xp _)]
theorem o4(n:Nat):(madeCells #[Value.int .i64 0] n).toList=List.replicate n (.int .i64 0):=by
 apply xfw;·simp[madeCells]
 ·intro k h1 h2;simp[madeCells,Nat.mod_one]
theorem Il(n:Nat):(madeCells (Value.int .i64 0).cells (n*1)).toList=List.replicate n (.int .i64 0):=by rw[sK];exact o4 n
set_option maxHeartbeats 4000000 in
set_option maxRecDepth 100000 in
theorem Xa(a:Addr)(c:Nat)(x:Int)(n:Nat)(hn:n<=1000)(w:World)(hx:w.cell? a=some (.int .i64 x)):
  Calls prog 167 #[.slice (some a) 1 c,.int .i64 (n:Int)] w λe w'=>e=.returned (.slice (some ⟨w.heap.size,0,none⟩) n n)/\w'.heap[w.heap.size]? =some (.cells (List.replicate n (.int .i64 x)).toArray 3 (0,0))/\Below w.heap.size w w':=by
 have mixed:prog.follows .mixedOrders=true:=by kernel_rfl
 have hinfo:(prog.info? 3).map (λi=>(i.zero,i.size,i.bytes))=some (some (.int .i64 0),1,8):=by kernel_rfl
 obtain⟨i,hi,hp⟩:=xba.1 hinfo;simp only[Ky]at hp;obtain⟨hz,hs,hb8⟩:=hp;have hu:prog.underlying 22=some (.slice 3):=by kernel_rfl
 have hin:(prog.info? 3).map (·.size)=some 1:=by rw[hi,<-hs];rfl
 have cM:Calls prog 240 #[.int .u64 1,.int .u64 (n:Int)] w λe w'=>e=.returned (.tuple #[.int .u64 0,.int .u64 (n:Int)])/\w'=w:=(Tryz.bits_Mul 1 n (by decide) (by omega) w).mono λe w' ⟨he,hw⟩=>⟨by rw[he,xgo,Nat.div_eq_of_lt (by omega),xgv (by omega)];rfl,hw⟩
 go_enter func167,(show(f167).ntmps=48 from by kernel_rfl)
 obtain⟨m,hm,m1,mn,m0⟩:∃m,m=Nat.min 1 n/\m<=1/\m<=n/\(n=0\/m=1):=⟨_,rfl,Nat.min_le_left _ _,Nat.min_le_right _ _,by
  cases n with
  |zero=>exact .inl rfl
  |succ n=>exact .inr (Ns (by omega))⟩
 have hlt:a.block<w.heap.size:=World.block_lt_of_cell? _ _ hx
 go_wp2_with (first
  |(go_at_call 240;refine cM.mono ?_;rintro e w1 ⟨rfl,rfl⟩)
  |(at_make;refine wpList_make_full _ rfl (.tmp 29) (.tmp 29) 22 rfl w1.heap.size 3 i (.int .i64 0) 1 hu hi hz hs .i64 .i64 (n:Int) (n:Int) n rfl rfl rfl rfl (by rw[hb8];omega) (by unfold maxLen;omega) (xp _) ?_;intro w2 hown hgr)
  |(with_reducible show wpList _ _ _ _ _ _
    have hb2:Below w1.heap.size w1 w2:=(Below.refl _ _).grown hgr (xp _) (by simp);have hrow:=HO hown;refine wpList_copy_splice rfl (.tmp 31) (.tmp 32) 22 22 rfl 3 hu hin (some ⟨w1.heap.size,0,none⟩) (some a) n n 1 c rfl rfl w1.heap.size 0 _ 3 hrow (List.replicate m (.int .i64 x)) (by rw[Jd];exact hm) (λ_=>⟨rfl,a,rfl,λj v hj=>?_⟩) ?_ (λv hv=>by rw[xef hv];rfl) w1.heap.size w1 hb2 (xp _) ?_))
 ·have:j=0:=by have:=(xu.1 hj).1;rw[Jd]at this;omega
  subst this;have hv:v=.int .i64 x:=xef (nX hj);rw[hv,Addr.add_zero'];exact(hb2.cell hlt).trans hx
 ·rw[Il,Jd,Jd];omega
 intro w3 hw3 hb3;have hw3:w3.heap[w1.heap.size]? =some (.cells (List.replicate m (Value.int .i64 x)++List.replicate (n-m) (Value.int .i64 0)).toArray 3 (0,0)):=by rw[hw3.out,o4,<-hm];unfold splice;simp
 go_wp2_with fail
 go_loopw [8] (λq wr=>∃k:Nat,k<=n/\(n=0\/1<=k)/\q=.int .i64 k/\wr.heap[w1.heap.size]? =some (.cells (List.replicate k (Value.int .i64 x)++List.replicate (n-k) (Value.int .i64 0)).toArray 3 (0,0))/\Below w1.heap.size w1 wr)
  (λq _=>n-(RowKit.intOf q).toNat)
 case atStart=>exact⟨m,mn,by omega,by rw[hm],hw3,hb3⟩
 case round=>
  obtain⟨k,k1,k2,rfl,hr,hb⟩:=hrel
  go_wp2
  ·rename_i hk
   have hne:¬n=k:=by omega
   obtain⟨q,hq,q1,q2,q3⟩:∃q,q=Nat.min k (n-k)/\q<=k/\q<=n-k/\1<=q:=⟨_,rfl,Nat.min_le_left _ _,Nat.min_le_right _ _,Nat.le_min.2 ⟨by omega,by omega⟩⟩
   have hsrc:Hid (∀j v,(List.replicate q (Value.int .i64 x))[j]? =some v->wr.drew.cell? ((⟨w1.heap.size,0,none⟩:Addr).add j)=some v):=λj v hj=>by
    have hjq:j<q:=by have:=(xu.1 hj).1;rwa [Jd]at this
    rw[xef (nX hj),Addr.add_lit];show wr.cell? _=_;unfold World.cell?;rw[hr];have hjk:j<k:=by omega
    simp[yD,hjk]
   go_region_law_o (refine step_copy_splice rfl (.tmp 41) (.tmp 44) 22 22 rfl 3 hu hin (some ⟨w1.heap.size,k,none⟩) (some ⟨w1.heap.size,0,none⟩) (n-k) (n-k) k n (by simp[Act.eval,Act.put]) (by simp[Act.eval,Act.put]) w1.heap.size k _ 3 hr (List.replicate q (.int .i64 x)) (by rw[Jd];exact hq) (λ_=>⟨rfl,_,rfl,hsrc.out⟩) (by simp;omega) (λv hv=>by rw[xef hv];rfl) w1.heap.size w1 hb.drew (xp _) ?_;intro w4 hg4 hb4)
   go_wp2
   have hg5:=hg4.out;rw[show splice (List.replicate k (Value.int .i64 x)++List.replicate (n-k) (Value.int .i64 0)) k (List.replicate q (.int .i64 x))=List.replicate (k+q) (Value.int .i64 x)++List.replicate (n-(k+q)) (Value.int .i64 0) by
    unfold splice;apply xer;intro z;simp[List.getElem?_append,PX,vN,Ip]
    repeat' split
    all_goals first|rfl|(exfalso;omega)]at hg5
   have e8:IntKind.wrap .i64 ((k:Int)+((k.min (n-k):Nat):Int))=(k:Int)+(q:Int):=by rw[<-hq,aV (by omega) (by omega)]
   refine⟨?_,?_⟩
   ·repeat apply Exists.intro
    refine⟨⟨k+q,by omega,by omega,?_,hg5,hb4⟩,rfl⟩;simp[Act.put,Act.eval];exact e8
   ·simp[Act.put,Act.eval,RowKit.intOf];rw[e8];omega
  ·go_ret
   have hkn:k=n:=by omega
   subst hkn;rw[Nq,List.replicate_zero,wG]at hr;exact⟨rfl,hr,hb⟩
def pW(l:List Int)(n:Int):Option (List Int):=match l with
 | [x]=>if 0<=n/\n<=1000 then some (List.replicate n.toNat x)else none
 |_=>none
theorem wH{n:Nat}(h:n<=1000)(x:Int):pW [x] (n:Int)=some (List.replicate n x):=by unfold pW;simp only;rw[qi (by omega)];rfl
def T5:FD where
 A:=.cons (.dat (.slice (.int .i64))) (.cons (.dat (.int .i64)) .nil)
 ins:=[]
 lend:=[]
 R:=List Int
 F:=λx=>pW x.1.1 x.1.2.1
 emb:=λr=>([.arr 0],[(0,.arr 3 (.int .i64) r)])
theorem R3:dV prog (167,T5):=by
 intro x r hr w X μi vals hX hm hins hsz hv;obtain⟨⟨l,n,u⟩,v⟩:=x;have hr':pW l n=some r:=hr;unfold pW at hr';split at hr'
 next y=>
  split at hr'
  next hin=>
   have e:=tM hr';subst e;obtain⟨x,z,rfl,h1,h2⟩:=Hs (v:=.dat (.slice (.int .i64)) [y]) (u:=.dat (.int .i64) n) hsz hv;rw[lF h2];have hb:f167.body.isSome=true:=by kernel_rfl
   obtain⟨b,hb⟩:=xbi.1 hb;have hrep:Rep (SS X μi) w (.slice (.int .i64)) [y] [x]:=by cases h1 with|dat _ hr=>exact hr
   simp only[Rep]at hrep;obtain⟨a,cap,e,hcap,hel⟩:=hrep;simp only[Gq,ql]at e;subst e;obtain⟨b',off,c',ha,_,h3,h4⟩:=hel 0 y rfl;subst ha;subst h3;have hcell:w.cell? ⟨b',off,none⟩=some (.int .i64 y):=by simpa using h4 0 _ rfl
   have hrun:=Xa ⟨b',off,none⟩ cap y n.toNat (by omega) w hcell;rw[xeg hin.1]at hrun;refine .inl ⟨cQ func167 (by kernel_rfl) hb _ w,hrun.mono λe w' ⟨he,hh,hbe⟩=>⟨_,he,?_⟩⟩;have ho:w'.ownsRow w.heap.size 3 1 (.slice (some ⟨w.heap.size,0,none⟩) n.toNat n.toNat) n.toNat ((List.replicate n.toNat y).map (Value.int .i64)):=by refine⟨by simp,.inr ⟨_,n.toNat,_,rfl,xp _,hh,xp _,by unfold maxLen;omega,by simp,by simp⟩⟩
   have hl:(List.replicate n.toNat y).length=n.toNat:=Jd;refine Hm (e:=3) (l:=List.replicate n.toNat y) (by rw[hl];exact ho) (Kept.of hbe hm.hlo) hX hm.hlo hm.tab
  next=>cases hr'
 next=>cases hr'
end
section
open Go.RowKit
open Go.Proofs.Tryz
def cdA:Code->Code
 | .seq a _=>a
 | .block _ c=>c
 | .loop c=>c
 |c=>c
def Pb:Code->Code
 | .seq _ b=>b
 |c=>c
def cdC:Code->Code
 | .cond _ c _=>c
 |c=>c
noncomputable def edB:Code:=cdC (Pb (cdA (Pb (Pb ((f129.body).getD .skip)))))
noncomputable def edT:Code:=Pb (Pb (Pb (Pb (Pb ((f129.body).getD .skip)))))
noncomputable def edG:Code:=Pb (Pb (Pb ((f129.body).getD .skip)))
theorem pY{n:Nat}{w w2:World}{b i:Nat}{cs:Array Value}{t:TypeId}{v:Value}(h:Below n w w2)(hb:b<n)(hw:w.heap[b]? =some (.cells cs t))(hv:cs[i]? =some v):w2.cell? ⟨b,i,none⟩=some v:=by have:=h.block b hb;unfold World.cell?;simp[this,hw,hv]
theorem bF(w:World)(x y:Obj){b:Nat}(hb:b<w.heap.size):((w.alloc x).alloc y).heap[b]? =w.heap[b]? :=by rw[heap_alloc_old _ _ (show b<(w.alloc x).heap.size by simp;omega),heap_alloc_old w _ hb]
theorem mI(w:World)(x y:Obj):((w.alloc x).alloc y).heap[w.heap.size]? =some x/\((w.alloc x).alloc y).heap[w.heap.size+1]? =some y:=by refine⟨by rw[heap_alloc_old _ _ (show w.heap.size<(w.alloc x).heap.size by simp),heap_alloc_new],?_⟩;have:=heap_alloc_new (w.alloc x) y;simpa using this
theorem jH{w w2:World}{n b i:Nat}{W:World}{v:Value}(h:Below n W w2)(hW:W.heap[b]? =w.heap[b]?)(hb:b<n)(hn:n<=w2.heap.size)(hc:w.cell? ⟨b,i,none⟩=some v)(x y:Obj):((w2.alloc x).alloc y).cell? ⟨b,i,none⟩=some v:=by
 have e:((w2.alloc x).alloc y).heap[b]? =w.heap[b]? :=by rw[bF w2 x y (by omega),h.block b hb,hW]
 rw[<-hc];unfold World.cell?;simp only[e]
theorem iJ{w w2:World}{v0 v1 v2 v3:Value}{y:Obj}{t:TypeId}(hX:Below ((w.alloc (.cells #[v0,v1,v2,v3] t)).alloc y).heap.size ((w.alloc (.cells #[v0,v1,v2,v3] t)).alloc y) w2):
  w.heap.size+2<=w2.heap.size/\w2.cell? ⟨w.heap.size,0,none⟩=some v0/\w2.cell? ⟨w.heap.size,1,none⟩=some v1/\w2.cell? ⟨w.heap.size,2,none⟩=some v2/\w2.cell? ⟨w.heap.size,3,none⟩=some v3:=by
 have h:=(mI w (.cells #[v0,v1,v2,v3] t) y).1;have hlt:w.heap.size<((w.alloc (.cells #[v0,v1,v2,v3] t)).alloc y).heap.size:=by simp;omega
 exact⟨by have:=hX.size;simpa using this,pY hX hlt h rfl,pY hX hlt h rfl,pY hX hlt h rfl,pY hX hlt h rfl⟩
structure EdAct(act:Act)(kind m:Int)(va:Value)(b:Nat):Prop where
 sz:act.tmps.size=105
 df:act.defers=[]
 t1:act.tmps.getD 1 undef=.int .i64 kind
 t2:act.tmps.getD 2 undef=va
 t3:act.tmps.getD 3 undef=.pointer (some ⟨b,0,none⟩)
 t6:act.tmps.getD 6 undef=.pointer (some ⟨b+1,0,none⟩)
 t7:act.tmps.getD 7 undef=.string ⟨#[]⟩
 t8:act.tmps.getD 8 undef=.bool false
 t9:act.tmps.getD 9 undef=.int .i64 m
abbrev jV:Obj:=.cells #[.slice none 0 0,.slice none 0 0,.slice none 0 0,.int .i64 0] 38
abbrev rK(vo vd vs vn:Value):Obj:=.cells #[vo,vd,vs,vn] 38
abbrev J8(kind a b c:Int):Obj:=.cells #[.int .i64 kind,.int .i64 a,.int .i64 b,.int .i64 c,.slice none 0 0] 156
abbrev L4(b:Nat):Obj:=.cells #[.pointer (some ⟨b,1,none⟩),.pointer (some ⟨b,2,none⟩),.pointer (some ⟨b,3,none⟩)] 198
set_option maxHeartbeats 3200000 in
set_option maxRecDepth 1000000 in
theorem Ba{kind m:Int}{li ok3:Bool}(w:World){vo vd vs:Value}{n:Int}{aa:Option Addr}{na ca:Nat}{R:Ending->World->Prop}(hm:(na:Int)<m)
  (hN:Hid (∀w1,(∀b,b<w.heap.size->w1.heap[b]? =w.heap[b]?)->w.heap.size<=w1.heap.size->Calls prog 193 #[.int .i64 kind] w1 λe w'=>e=.returned (.tuple #[.int .i64 m,.bool li,.bool ok3])/\Below w1.heap.size w1 w'))
  (hbad:Hid (∀act w2,Below (w.heap.size+2) ((w.alloc (rK vo vd vs (.int .i64 n))).alloc jV) w2->EdAct act kind m (.slice aa na ca) w.heap.size->∀K,edB.wp prog (Exit.then K (bodyPost prog f129 R)) act w2)):
  Calls prog 129 #[.agg #[vo,vd,vs,.int .i64 n],.int .i64 kind,.slice aa na ca] w R:=by
 go_enter func129,(show(f129).ntmps=105 from by kernel_rfl)
 change Code.wp prog (.seq _ (.seq _ (.seq (.seq _ (.cond _ edB _)) edG))) _ _ _;generalize edG=T1 at*;generalize edB=B1 at*
 go_wp2_with (go_at_call 193;refine(hN.out _ (λb hb=>bF w _ _ hb) (by simp;omega)).mono ?_;rintro e w2 ⟨rfl,hX⟩;obtain⟨hsz,q0,q1,q2,q3⟩:=iJ hX;have hX:=Hid.mk' hX)
 all_goals first
  |(exfalso;omega)
  |exact hbad.out _ _ (by have h:=hX.out;simpa using h) ⟨rfl,rfl,rfl,rfl,rfl,rfl,rfl,rfl,rfl⟩ _
set_option maxHeartbeats 3200000 in
set_option maxRecDepth 1000000 in
theorem Cw{kind:Int}{li ok3:Bool}(w:World){vo vd vs:Value}{n:Int}{aa:Option Addr}{na ca:Nat}{R:Ending->World->Prop}
  (hN:Hid (∀w1,(∀b,b<w.heap.size->w1.heap[b]? =w.heap[b]?)->w.heap.size<=w1.heap.size->Calls prog 193 #[.int .i64 kind] w1 λe w'=>e=.returned (.tuple #[.int .i64 0,.bool li,.bool ok3])/\Below w1.heap.size w1 w'))
  (hbad:Hid (¬(0<=na/\(li=true\/na<=0))->∀act w2,Below (w.heap.size+2) ((w.alloc (rK vo vd vs (.int .i64 n))).alloc jV) w2->EdAct act kind 0 (.slice aa na ca) w.heap.size->∀K,edB.wp prog (Exit.then K (bodyPost prog f129 R)) act w2))
  (hgood:Hid (0<=na->li=true\/na<=0->∀act w2,Below (w.heap.size+2) ((w.alloc (rK vo vd vs (.int .i64 n))).alloc jV) w2->EdAct act kind 0 (.slice aa na ca) w.heap.size->act.tmps.getD 12 undef=.pointer (some ⟨w2.heap.size,0,none⟩)->edT.wp prog (bodyPost prog f129 R) act ((w2.alloc (J8 kind 0 0 0)).alloc (L4 w2.heap.size)))):
  Calls prog 129 #[.agg #[vo,vd,vs,.int .i64 n],.int .i64 kind,.slice aa na ca] w R:=by
 go_enter func129,(show(f129).ntmps=105 from by kernel_rfl)
 change Code.wp prog (.seq _ (.seq _ (.seq (.seq _ (.cond _ edB _)) (.seq _ (.seq (.seq _ (.block _ (.loop _))) edT))))) _ _ _;generalize edT=T1 at*;generalize edB=B1 at*
 go_wp2_with (go_at_call 193;refine(hN.out _ (λb hb=>bF w _ _ hb) (by simp;omega)).mono ?_;rintro e w2 ⟨rfl,hX⟩;obtain⟨hsz,q0,q1,q2,q3⟩:=iJ hX;have hX:=Hid.mk' hX)
 all_goals first|(refine wp_loop_rounds 1 ?_)|skip
 all_goals first|(rw[rounds_succ])|skip
 all_goals go_wp2_with (go_at_call 193;fail)
 all_goals first
  |exact hgood.out (by omega) (by first|exact .inl (by assumption)|exact .inr (by omega)) _ _ (by have h:=hX.out;simpa using h) ⟨rfl,rfl,rfl,rfl,rfl,rfl,rfl,rfl,rfl⟩ rfl
  |exact hbad.out (λh=>by obtain⟨h1,h2⟩:=h;rcases h2 with h2|h2<;>first|contradiction|omega) _ _ (by have h:=hX.out;simpa using h) ⟨rfl,rfl,rfl,rfl,rfl,rfl,rfl,rfl,rfl⟩ _
set_option maxHeartbeats 3200000 in
set_option maxRecDepth 1000000 in
theorem Cu{kind:Int}{li ok3:Bool}(w:World){vo vd vs:Value}{n:Int}{ba oa na ca:Nat}{R:Ending->World->Prop}{l0:Int}(hc0:w.cell? ⟨ba,oa,none⟩=some (.int .i64 l0))(hb:ba<w.heap.size)
  (hN:Hid (∀w1,(∀b,b<w.heap.size->w1.heap[b]? =w.heap[b]?)->w.heap.size<=w1.heap.size->Calls prog 193 #[.int .i64 kind] w1 λe w'=>e=.returned (.tuple #[.int .i64 1,.bool li,.bool ok3])/\Below w1.heap.size w1 w'))
  (hbad:Hid (¬(1<=na/\(li=true\/na<=1))->∀act w2,Below (w.heap.size+2) ((w.alloc (rK vo vd vs (.int .i64 n))).alloc jV) w2->EdAct act kind 1 (.slice (some ⟨ba,oa,none⟩) na ca) w.heap.size->∀K,edB.wp prog (Exit.then K (bodyPost prog f129 R)) act w2))
  (hgood:Hid (1<=na->li=true\/na<=1->∀act w2,Below (w.heap.size+2) ((w.alloc (rK vo vd vs (.int .i64 n))).alloc jV) w2->EdAct act kind 1 (.slice (some ⟨ba,oa,none⟩) na ca) w.heap.size->act.tmps.getD 12 undef=.pointer (some ⟨w2.heap.size,0,none⟩)->edT.wp prog (bodyPost prog f129 R) act ((w2.alloc (J8 kind l0 0 0)).alloc (L4 w2.heap.size)))):
  Calls prog 129 #[.agg #[vo,vd,vs,.int .i64 n],.int .i64 kind,.slice (some ⟨ba,oa,none⟩) na ca] w R:=by
 go_enter func129,(show(f129).ntmps=105 from by kernel_rfl)
 change Code.wp prog (.seq _ (.seq _ (.seq (.seq _ (.cond _ edB _)) (.seq _ (.seq (.seq _ (.block _ (.loop _))) edT))))) _ _ _;generalize edT=T1 at*;generalize edB=B1 at*
 go_wp2_with (go_at_call 193;refine(hN.out _ (λb hb=>bF w _ _ hb) (by simp;omega)).mono ?_;rintro e w2 ⟨rfl,hX⟩;obtain⟨hsz,q0,q1,q2,q3⟩:=iJ hX;have r0:=jH hX (bF w _ _ hb) (by simp;omega) hX.size hc0;have hX:=Hid.mk' hX)
 all_goals first|(refine wp_loop_rounds 2 ?_)|skip
 all_goals first|(rw[rounds_succ])|skip
 all_goals go_wp2_with (go_at_call 193;fail)
 all_goals first|(rw[rounds_succ])|skip
 all_goals go_wp2_with (go_at_call 193;fail)
 all_goals first
  |exact hgood.out (by omega) (by first|exact .inl (by assumption)|exact .inr (by omega)) _ _ (by have h:=hX.out;simpa using h) ⟨rfl,rfl,rfl,rfl,rfl,rfl,rfl,rfl,rfl⟩ rfl
  |exact hbad.out (λh=>by obtain⟨h1,h2⟩:=h;rcases h2 with h2|h2<;>first|contradiction|omega) _ _ (by have h:=hX.out;simpa using h) ⟨rfl,rfl,rfl,rfl,rfl,rfl,rfl,rfl,rfl⟩ _
set_option maxHeartbeats 3200000 in
set_option maxRecDepth 1000000 in
theorem Dn{kind:Int}{li ok3:Bool}(w:World){vo vd vs:Value}{n:Int}{ba oa na ca:Nat}{R:Ending->World->Prop}{l0 l1:Int}(hc0:w.cell? ⟨ba,oa,none⟩=some (.int .i64 l0))(hc1:w.cell? ⟨ba,oa+1,none⟩=some (.int .i64 l1))(hb:ba<w.heap.size)
  (hN:Hid (∀w1,(∀b,b<w.heap.size->w1.heap[b]? =w.heap[b]?)->w.heap.size<=w1.heap.size->Calls prog 193 #[.int .i64 kind] w1 λe w'=>e=.returned (.tuple #[.int .i64 2,.bool li,.bool ok3])/\Below w1.heap.size w1 w'))
  (hbad:Hid (¬(2<=na/\(li=true\/na<=2))->∀act w2,Below (w.heap.size+2) ((w.alloc (rK vo vd vs (.int .i64 n))).alloc jV) w2->EdAct act kind 2 (.slice (some ⟨ba,oa,none⟩) na ca) w.heap.size->∀K,edB.wp prog (Exit.then K (bodyPost prog f129 R)) act w2))
  (hgood:Hid (2<=na->li=true\/na<=2->∀act w2,Below (w.heap.size+2) ((w.alloc (rK vo vd vs (.int .i64 n))).alloc jV) w2->EdAct act kind 2 (.slice (some ⟨ba,oa,none⟩) na ca) w.heap.size->act.tmps.getD 12 undef=.pointer (some ⟨w2.heap.size,0,none⟩)->edT.wp prog (bodyPost prog f129 R) act ((w2.alloc (J8 kind l0 l1 0)).alloc (L4 w2.heap.size)))):
  Calls prog 129 #[.agg #[vo,vd,vs,.int .i64 n],.int .i64 kind,.slice (some ⟨ba,oa,none⟩) na ca] w R:=by
 go_enter func129,(show(f129).ntmps=105 from by kernel_rfl)
 change Code.wp prog (.seq _ (.seq _ (.seq (.seq _ (.cond _ edB _)) (.seq _ (.seq (.seq _ (.block _ (.loop _))) edT))))) _ _ _;generalize edT=T1 at*;generalize edB=B1 at*
 go_wp2_with (go_at_call 193;refine(hN.out _ (λb hb=>bF w _ _ hb) (by simp;omega)).mono ?_;rintro e w2 ⟨rfl,hX⟩;obtain⟨hsz,q0,q1,q2,q3⟩:=iJ hX;have r0:=jH hX (bF w _ _ hb) (by simp;omega) hX.size hc0;have r1:=jH hX (bF w _ _ hb) (by simp;omega) hX.size hc1;have hX:=Hid.mk' hX)
 all_goals first|(refine wp_loop_rounds 3 ?_)|skip
 all_goals first|(rw[rounds_succ])|skip
 all_goals go_wp2_with (go_at_call 193;fail)
 all_goals first|(rw[rounds_succ])|skip
 all_goals go_wp2_with (go_at_call 193;fail)
 all_goals first|(rw[rounds_succ])|skip
 all_goals go_wp2_with (go_at_call 193;fail)
 all_goals first
  |exact hgood.out (by omega) (by first|exact .inl (by assumption)|exact .inr (by omega)) _ _ (by have h:=hX.out;simpa using h) ⟨rfl,rfl,rfl,rfl,rfl,rfl,rfl,rfl,rfl⟩ rfl
  |exact hbad.out (λh=>by obtain⟨h1,h2⟩:=h;rcases h2 with h2|h2<;>first|contradiction|omega) _ _ (by have h:=hX.out;simpa using h) ⟨rfl,rfl,rfl,rfl,rfl,rfl,rfl,rfl,rfl⟩ _
set_option maxHeartbeats 3200000 in
set_option maxRecDepth 1000000 in
theorem Fe{kind:Int}{li ok3:Bool}(w:World){vo vd vs:Value}{n:Int}{ba oa na ca:Nat}{R:Ending->World->Prop}{l0 l1 l2:Int}(hc0:w.cell? ⟨ba,oa,none⟩=some (.int .i64 l0))(hc1:w.cell? ⟨ba,oa+1,none⟩=some (.int .i64 l1))(hc2:w.cell? ⟨ba,oa+2,none⟩=some (.int .i64 l2))(hb:ba<w.heap.size)
  (hN:Hid (∀w1,(∀b,b<w.heap.size->w1.heap[b]? =w.heap[b]?)->w.heap.size<=w1.heap.size->Calls prog 193 #[.int .i64 kind] w1 λe w'=>e=.returned (.tuple #[.int .i64 3,.bool li,.bool ok3])/\Below w1.heap.size w1 w'))
  (hbad:Hid (¬(3<=na/\(li=true\/na<=3))->∀act w2,Below (w.heap.size+2) ((w.alloc (rK vo vd vs (.int .i64 n))).alloc jV) w2->EdAct act kind 3 (.slice (some ⟨ba,oa,none⟩) na ca) w.heap.size->∀K,edB.wp prog (Exit.then K (bodyPost prog f129 R)) act w2))
  (hgood:Hid (3<=na->li=true\/na<=3->∀act w2,Below (w.heap.size+2) ((w.alloc (rK vo vd vs (.int .i64 n))).alloc jV) w2->EdAct act kind 3 (.slice (some ⟨ba,oa,none⟩) na ca) w.heap.size->act.tmps.getD 12 undef=.pointer (some ⟨w2.heap.size,0,none⟩)->edT.wp prog (bodyPost prog f129 R) act ((w2.alloc (J8 kind l0 l1 l2)).alloc (L4 w2.heap.size)))):
  Calls prog 129 #[.agg #[vo,vd,vs,.int .i64 n],.int .i64 kind,.slice (some ⟨ba,oa,none⟩) na ca] w R:=by
 go_enter func129,(show(f129).ntmps=105 from by kernel_rfl)
 change Code.wp prog (.seq _ (.seq _ (.seq (.seq _ (.cond _ edB _)) (.seq _ (.seq (.seq _ (.block _ (.loop _))) edT))))) _ _ _;generalize edT=T1 at*;generalize edB=B1 at*
 go_wp2_with (go_at_call 193;refine(hN.out _ (λb hb=>bF w _ _ hb) (by simp;omega)).mono ?_;rintro e w2 ⟨rfl,hX⟩;obtain⟨hsz,q0,q1,q2,q3⟩:=iJ hX;have r0:=jH hX (bF w _ _ hb) (by simp;omega) hX.size hc0;have r1:=jH hX (bF w _ _ hb) (by simp;omega) hX.size hc1;have r2:=jH hX (bF w _ _ hb) (by simp;omega) hX.size hc2;have hX:=Hid.mk' hX)
 all_goals first|(refine wp_loop_rounds 4 ?_)|skip
 all_goals first|(rw[rounds_succ])|skip
 all_goals go_wp2_with (go_at_call 193;fail)
 all_goals first|(rw[rounds_succ])|skip
 all_goals go_wp2_with (go_at_call 193;fail)
 all_goals first|(rw[rounds_succ])|skip
 all_goals go_wp2_with (go_at_call 193;fail)
 all_goals first|(rw[rounds_succ])|skip
 all_goals go_wp2_with (go_at_call 193;fail)
 all_goals first
  |exact hgood.out (by omega) (by first|exact .inl (by assumption)|exact .inr (by omega)) _ _ (by have h:=hX.out;simpa using h) ⟨rfl,rfl,rfl,rfl,rfl,rfl,rfl,rfl,rfl⟩ rfl
  |exact hbad.out (λh=>by obtain⟨h1,h2⟩:=h;rcases h2 with h2|h2<;>first|contradiction|omega) _ _ (by have h:=hX.out;simpa using h) ⟨rfl,rfl,rfl,rfl,rfl,rfl,rfl,rfl,rfl⟩ _
end
section
open Go.RowKit
open Go.Proofs.Tryz
abbrev noM:Nat->Option MV:=λ_=>none
structure Bx where
 o:Nat
 b:Nat
 cs:List AV
 vs:Array Value
 t:TypeId
def Bm:List Bx->Nat->Option MV
 | [],_=>none
 |x::l,o=>if o=x.o then some ⟨.pointer (some ⟨x.b,0,none⟩),[x.b],[]⟩else Bm l o
def ZG(l:List Bx):List (Nat×Ob):=l.map λx=>(x.o,.cells x.cs)
theorem pF{o:Nat}{mv:MV}:∀{l:List Bx},Bm l o=some mv->∃x∈l,x.o=o/\mv=⟨.pointer (some ⟨x.b,0,none⟩),[x.b],[]⟩/\aI (ZG l) o=some (.cells x.cs)
 | [],h=>by cases h
 |x::l,h=>by
  unfold Bm at h;split at h
  ·next e=>
   subst e;exact⟨x,xz,rfl,(tM h).symm,by simp[ZG,aI]⟩
  ·next e=>
   obtain⟨y,h1,h2,h3,h4⟩:=pF h;refine⟨y,xw _ h1,h2,h3,?_⟩;simp only[ZG,v9,aI];have hf:Nat.beq x.o o=false:=by
    cases hq:Nat.beq x.o o with
    |false=>rfl
    |true=>exact absurd (xg hq).symm e
   rw[hf];exact h4
abbrev cZ:List AV:=[.nilsl,.nilsl,.nilsl,.dat (.int .i64) (0:Int)]
abbrev cE(k a b c:Int):List AV:=[.dat (.int .i64) k,.dat (.int .i64) a,.dat (.int .i64) b,.dat (.int .i64) c,.nilsl]
abbrev frB(k m:Int)(l:List Int):List (Nat×AV):=[(1,.dat (.int .i64) k),(2,.dat (.slice (.int .i64)) l),(3,.box 3 0),(6,.box 6 0),(7,.dat .str ([]:List UInt8)),(8,.dat .bool false),(9,.dat (.int .i64) m)]
section
variable {X:Nat->Prop}{w w2:World}{o s l:List Int}{ds:List (List Int)}{n k m a b c:Int}{vo vd vs va:Value}{vf:Nat->Value}{act:Act}
theorem Fo{W:World}{lo S:Nat->Prop}{μ:Nat->Option MV}:∀j v,aO cZ j=some v->RelV prog W lo μ S v ((#[Value.slice none 0 0,.slice none 0 0,.slice none 0 0,.int .i64 0]:Array Value).getD j undef):=λj v hj=>by
 match j,hj with
 |0,hj=>cases hj;exact .nilsl
 |1,hj=>cases hj;exact .nilsl
 |2,hj=>cases hj;exact .nilsl
 |3,hj=>cases hj;exact .dat rfl rfl
theorem AF{W:World}{lo S:Nat->Prop}{μ:Nat->Option MV}:∀j v,aO (cE k a b c) j=some v->RelV prog W lo μ S v ((#[Value.int .i64 k,.int .i64 a,.int .i64 b,.int .i64 c,.slice none 0 0]:Array Value).getD j undef):=λj v hj=>by
 match j,hj with
 |0,hj=>cases hj;exact .dat rfl rfl
 |1,hj=>cases hj;exact .dat rfl rfl
 |2,hj=>cases hj;exact .dat rfl rfl
 |3,hj=>cases hj;exact .dat rfl rfl
 |4,hj=>cases hj;exact .nilsl
theorem Gl{W:World}{lo S:Nat->Prop}{μ:Nat->Option MV}{B:Nat}(he:EdAct act k m va B)(h3:∃r h,μ 3=some ⟨.pointer (some ⟨B,0,none⟩),r,h⟩)(h6:∃r h,μ 6=some ⟨.pointer (some ⟨B+1,0,none⟩),r,h⟩)(ha:Rep S W (.slice (.int .i64)) l [va]){ob:List (Nat×Ob)}{r:List (Nat×AV)}(hr:∀i,i<10->aI r i=none):
  ∀i,i<10->RelV prog W lo μ S (St.slot {fr:=frB k m l++r,ob:=ob} i) (act.tmps.getD i undef):=λi hi=>by
 obtain⟨r3,g3,h3⟩:=h3;obtain⟨r6,g6,h6⟩:=h6
 match i,hi with
 |1,_=>rw[he.t1];exact .dat rfl rfl
 |2,_=>rw[he.t2];exact .dat rfl ha
 |3,_=>rw[he.t3];exact .box (o:=3) (k:=0) h3
 |6,_=>rw[he.t6];exact .box (o:=6) (k:=0) h6
 |7,_=>rw[he.t7];exact .dat rfl rfl
 |8,_=>rw[he.t8];exact .dat rfl rfl
 |9,_=>rw[he.t9];exact .dat rfl rfl
 |0,_=>show RelV prog W lo μ S ((aI r 0).getD .undef) _;rw[hr 0 (by omega)];exact .undef
 |4,_=>show RelV prog W lo μ S ((aI r 4).getD .undef) _;rw[hr 4 (by omega)];exact .undef
 |5,_=>show RelV prog W lo μ S ((aI r 5).getD .undef) _;rw[hr 5 (by omega)];exact .undef
end
end
section
open Go.RowKit
open Go.Proofs.Tryz
def KJ(m:Int)(l:List Int):Int×Int×Int×Int:=(m,if 0<m then l.getD 0 0 else 0,if 1<m then l.getD 1 0 else 0,if 2<m then l.getD 2 0 else 0)
def pZ(m:Int)(li:Bool)(l:List Int):Bool:=decide (m<=(l.length:Int))&&(li||decide ((l.length:Int)<=m))
def M4(G:Int->Option (Int×Bool×Bool)):FD where
 A:=.cons (.dat (.int .i64)) .nil
 ins:=[]
 lend:=[]
 R:=Int×Bool×Bool
 F:=λx=>G x.1.1
 emb:=λr=>([.dat (.int .i64) r.1,.dat .bool r.2.1,.dat .bool r.2.2],[])
def Dc{L:Type}(p:L->Prop):Tr L->Prop
 | .f=>True
 | .l x=>p x
 | .t _ x y=>Dc p x/\Dc p y
 | .c _ _ k=>∀r,Dc p (k r)
 | .s _ _ _ k k'=>(∀a,Dc p (k a))/\∀b,Dc p (k' b)
theorem uV{L:Type}{p:L->Prop}{r:L}:∀{t:Tr L},Dc p t->t.ev=some r->p r
 | .l _,h,e=>by cases e;exact h
 | .t b _ _,h,e=>by
  cases b with
  |true=>exact uV h.1 e
  |false=>exact uV h.2 e
 | .c _ x _,h,e=>by obtain⟨y,_,e2⟩:=eF e;exact uV (h y) e2
 | .s _ _ x _ _,h,e=>by
  cases x with
  |inl a=>exact uV (h.1 a) e
  |inr b=>exact uV (h.2 b) e
theorem Gs{P:Program}{w:World}{lo:Nat->Prop}{μ:Nat->Option MV}{S:Nat->Prop}{n:Bool}{x:Value}(h:RelV P w lo μ S (.dat .bool n) x):x=.bool n:=by
 cases h with
 |dat _ h=>simp only[Rep,Gq,ql]at h;exact h
theorem Cv{G:Int->Option (Int×Bool×Bool)}(hs:dV prog (193,M4 G)){k:Int}{r:Int×Bool×Bool}(hr:G k=some r)(w:World)(htab:TabsOK w (eI w noM)):
  Calls prog 193 #[.int .i64 k] w λe w'=>e=.returned (.tuple #[.int .i64 r.1,.bool r.2.1,.bool r.2.2])/\Below w.heap.size w w':=by
 have h:=hs ⟨(k,()),()⟩ r hr w (λ_=>False) noM #[.int .i64 k] (λb h=>h.elim) ⟨λb hb=>hb.elim,λb hb=>hb.1,λo mv h=>(by cases h),λo p mv mv' b h=>(by cases h),htab⟩ (λp hp=>by cases hp) rfl λj v hj=>by
  match j,hj with
  |0,hj=>cases hj;exact .dat rfl rfl
 have hb:f193.body.isSome=true:=by kernel_rfl
 obtain⟨cd,hc⟩:=xbi.1 hb;rcases h with⟨_,h⟩|⟨x,w',h,_⟩
 ·refine h.mono ?_;rintro e w' ⟨x,rfl,hk,μ,hm,_,_,hR⟩;refine⟨?_,⟨hk.os,hk.tape,hk.output,hk.size,λb hb=>hk.block b ⟨hb,λo mv h=>(by cases h)⟩⟩⟩;rcases hR with⟨v',e,_⟩|⟨_,hR⟩
  ·cases e
  ·cases hR with
   | @tup _ _ xs hl h=>
    have h0:=lF (h 0 _ rfl);have h1:=Gs (h 1 _ rfl);have h2:=Gs (h 2 _ rfl);have hx:xs= #[.int .i64 r.1,.bool r.2.1,.bool r.2.2]:=by
     have hs3:xs.size=3:=hl.symm;apply xhj;·simpa using hs3
     ·intro i hi hi2;have hg:∀j (hj:j<xs.size),xs[j]=xs.getD j undef:=λj hj=>by rw[xt,r7 hj];rfl
      have:i=0\/i=1\/i=2:=by simp at hi2;omega
      rcases this with rfl|rfl|rfl;·rw[hg _ hi,h0];rfl
      ·rw[hg _ hi,h1];rfl
      ·rw[hg _ hi,h2];rfl
    rw[hx]
 ·have he:=cQ (P:=prog) func193 (by kernel_rfl) hc #[.int .i64 k] w;rw[he]at h;cases h
theorem aEI{S:Nat->Prop}{w:World}{l:List Int}{va:Value}(h:Rep S w (.slice (.int .i64)) l [va]):∃aa ca,va=.slice aa l.length ca/\(0<l.length->∃ba oa,aa=some ⟨ba,oa,none⟩/\ba<w.heap.size/\∀i,i<l.length->w.cell? ⟨ba,oa+i,none⟩=some (.int .i64 (l.getD i 0))):=by
 simp only[Rep]at h;obtain⟨a,c,e,_,h⟩:=h;simp only[Gq,ql]at e;refine⟨a,c,e,λh0=>?_⟩;obtain⟨b,off,_,e1,_,_,_⟩:=h 0 (l.getD 0 0) (by rw[xe,xh h0];rfl);have hc:∀i,i<l.length->w.cell? ⟨b,off+i,none⟩=some (.int .i64 (l.getD i 0)):=λi hi=>by obtain⟨b',off',c',e2,_,e3,h3⟩:=h i (l.getD i 0) (by rw[xe,xh hi];rfl);rw[e1]at e2;cases e2;subst e3;have:=h3 0 _ rfl;simpa[Ty.size]using this
 refine⟨b,off,e1,?_,hc⟩;have:=hc 0 h0;unfold World.cell? at this;cases hq:w.heap[b]? with
 |none=>simp[hq]at this
 |some x=>exact(xbg.1 hq).1
def CC(tt:Nat->TD)(rt:RetK):Out->Option rt.T
 | .ret s=>rt.at tt s
 |_=>none
end
section
open Go.RowKit
open Go.Proofs.Tryz
def Nk(l:List Bx)(μi:Nat->Option MV)(o:Nat):Option MV:=match Bm l o with
 |some mv=>some mv
 |none=>μi o
theorem aCe{o:Nat}:∀{l:List Bx},Bm l o=none->aI (ZG l) o=none
 | [],_=>rfl
 |x::l,h=>by
  unfold Bm at h;split at h;·cases h
  ·next e=>
   simp only[ZG,v9,aI];have hf:Nat.beq x.o o=false:=by
    cases hq:Nat.beq x.o o with
    |false=>rfl
    |true=>exact absurd (xg hq).symm e
   rw[hf];exact aCe h
section
variable {X:Nat->Prop}{w w2:World}{o s l:List Int}{ds:List (List Int)}{n k m a b c:Int}{vo vd vs va:Value}{vf:Nat->Value}{act:Act}{μi:Nat->Option MV}{ins:List (Nat×Ob)}
theorem DJ{W:World}{L:List Bx}(hL:∀x∈L,w.heap.size<=x.b)(hold:∀b,b<w.heap.size->W.heap[b]? =w.heap[b]?):∀b,b<w.heap.size->SS X μi b->SS X (Nk L μi) b/\W.heap[b]? =w.heap[b]? :=λq aa hq=>
 ⟨⟨hq.1,λo mv hm hb=>by
  unfold Nk at hm;split at hm
  ·next mv' h'=>
   obtain rfl:=tM hm;obtain⟨y,h1,_,rfl,_⟩:=pF h';have:=hL y h1;rw[xx.1 hb]at aa;omega
  ·exact hq.2 o mv hm hb⟩,hold q aa⟩
theorem PH{L:List Bx}(hid:∀o mv,μi o=some mv->Bm L o=none):∀o mv,μi o=some mv->Nk L μi o=some mv:=λo mv h=>by unfold Nk;rw[hid o mv h];exact h
theorem aAu{W:World}{L:List Bx}(hm:Mem prog X (eI w μi) (aI ins) μi w)(hid:∀o mv,μi o=some mv->Bm L o=none)(aa:w.heap.size<=W.heap.size)(hold:∀b,b<w.heap.size->W.heap[b]? =w.heap[b]?)
  (hb:∀x∈L,∀y∈L,x.b=y.b->x.o=y.o)
  (hl:∀x∈L,w.heap.size<=x.b/\W.heap[x.b]? =some (.cells x.vs x.t)/\x.vs.size=x.cs.length/\∀j v,aO x.cs j=some v->RelV prog W (eI w μi) (Nk L μi) (SS X (Nk L μi)) v (x.vs.getD j undef)):Mem prog X (eI w μi) (aI (ZG L++ins)) (Nk L μi) W:=by
 have hL:∀x∈L,w.heap.size<=x.b:=λx hx=>(hl x hx).1;refine⟨hm.hX,λb hb=>wN hb.1 aa,λo mv h=>?_,λo p mv mv' b h1 h2 h3 h4=>?_,hm.tab.step λb hb=>hold b hb.1⟩
 ·rw[iO];have h0:=h;unfold Nk at h;split at h
  ·next mv' h'=>
   obtain rfl:=tM h;obtain⟨x,h1,h2,rfl,h4⟩:=pF h';obtain⟨g1,g2,g3,g4⟩:=hl x h1;rw[h4];exact⟨_,rfl,x.b,x.vs,x.t,rfl,λhlo=>xj _ (wN hlo.1 g1),g2,g3,g4⟩
  ·next h'=>
   rw[aCe h'];obtain⟨x,h1,h2⟩:=hm.ob o mv h;exact⟨x,h1,h2.step (λb hb=>hb.1) (PH hid) (DJ hL hold) (λb hb=>hold b hb.1) λb hb=>hold b (hm.lt h hb).2⟩
 ·unfold Nk at h1 h2;cases e1:Bm L o with
  |some m1=>
   rw[e1]at h1;obtain rfl:=tM h1;obtain⟨x,a1,a2,rfl,_⟩:=pF e1;have e3:=xx.1 h3;cases e2:Bm L p with
   |some m2=>rw[e2]at h2;obtain rfl:=tM h2;obtain⟨y,b1,b2,rfl,_⟩:=pF e2;have e4:=xx.1 h4;rw[<-a2,<-b2];exact hb x a1 y b1 (e3.symm.trans e4)
   |none=>rw[e2]at h2;have:=hL x a1;have:=(hm.lt h2 h4).2;omega
  |none=>
   rw[e1]at h1;cases e2:Bm L p with
   |some m2=>rw[e2]at h2;obtain rfl:=tM h2;obtain⟨y,b1,b2,rfl,_⟩:=pF e2;have e4:=xx.1 h4;have:=hL y b1;have:=(hm.lt h1 h3).2;omega
   |none=>rw[e2]at h2;exact hm.dis o p mv mv' b h1 h2 h3 h4
abbrev cG(n:Int):List AV:=[.arr 64,.arr 65,.arr 66,.dat (.int .i64) n]
abbrev Ht(o:List Int)(ds:List (List Int))(s:List Int):List (Nat×Ob):=[(64,.arr 3 (.int .i64) o),(65,.rows 22 3 (.int .i64) ds none),(66,.arr 3 (.int .i64) s)]
def Yb(o:List Int)(ds:List (List Int))(s:List Int)(n k m:Int)(l:List Int):St:= {fr:=frB k m l,ob:=[(3,.cells (cG n)),(6,.cells cZ)]++Ht o ds s}
def Yy(o:List Int)(ds:List (List Int))(s:List Int)(n k m a b c:Int)(l:List Int):St:= {fr:=frB k m l++ [(12,.box 12 0)],ob:=[(3,.cells (cG n)),(6,.cells cZ),(12,.cells (cE k a b c))]++Ht o ds s}
def vI(B:Nat)(n:Int)(vo vd vs:Value):List Bx:=[⟨3,B,cG n,#[vo,vd,vs,.int .i64 n],38⟩,⟨6,B+1,cZ,#[.slice none 0 0,.slice none 0 0,.slice none 0 0,.int .i64 0],38⟩]
def S9(B C:Nat)(n k a b c:Int)(vo vd vs:Value):List Bx:=vI B n vo vd vs++ [⟨12,C,cE k a b c,#[.int .i64 k,.int .i64 a,.int .i64 b,.int .i64 c,.slice none 0 0],156⟩]
theorem aEb{W:World}{L:List Bx}(hold:∀b,b<w.heap.size->W.heap[b]? =w.heap[b]?)(hL:∀x∈L,w.heap.size<=x.b){t:Ty}{x:t.I}{v:Value}(h:Rep (SS X μi) w t x [v]):Rep (SS X (Nk L μi)) W t x [v]:=
 h.step λq aa hq=>DJ hL hold q aa hq
theorem aFd(hm:Mem prog X (eI w μi) (aI (Ht o ds s)) μi w){p:Nat}{mv:MV}(h:μi p=some mv):64<=p:=by
 obtain⟨x,h1,_⟩:=hm.ob p mv h;by_cases aa:64<=p;·exact aa
 ·exfalso;have hb:∀j,64<=j->Nat.beq j p=false:=λj hj=>by
   cases hq:Nat.beq j p with
   |false=>rfl
   |true=>exact absurd (xg hq) (by omega)
  simp[aI,hb]at h1
theorem aLL(hm:Mem prog X (eI w μi) (aI (Ht o ds s)) μi w)(hB:Below (w.heap.size+2) ((w.alloc (rK vo vd vs (.int .i64 n))).alloc jV) w2)(he:EdAct act k m va w.heap.size)
  (hx:∀j v,aO (cG n) j=some v->RelV prog w (eI w μi) μi (SS X μi) v ((#[vo,vd,vs,Value.int .i64 n]:Array Value).getD j undef)) (ha:Rep (SS X μi) w (.slice (.int .i64)) l [va]):
  Rel prog X (eI w μi) ⟨105,[],vf⟩ w (Yb o ds s n k m l) act w2 (Nk (vI w.heap.size n vo vd vs) μi):=by
 have hold:∀b,b<w.heap.size->w2.heap[b]? =w.heap[b]? :=λb hb=>by rw[hB.block b (by omega),bF w _ _ hb]
 have hL:∀x∈vI w.heap.size n vo vd vs,w.heap.size<=x.b:=λx hx=>by simp only[vI,xaj,Rr,qm]at hx;rcases hx with rfl|rfl<;>simp
 have hid:∀p mv,μi p=some mv->Bm (vI w.heap.size n vo vd vs) p=none:=λp mv h=>by have:=aFd hm h;simp only[vI,Bm];rw[qh (by omega),qh (by omega)]
 have n2:=mI w (rK vo vd vs (.int .i64 n)) jV;have ab:w.heap.size+2<=w2.heap.size:=by have:=hB.size;simpa using this
 refine⟨aAu (L:=vI w.heap.size n vo vd vs) hm hid (by omega) hold (λx hx y hy h=>?_) (λx aa=>?_),λi=>?_,⟨hB.os,hB.tape,hB.output,by omega,λb hb=>hold b hb.1⟩,he.df,he.sz,λq hq=>by cases hq⟩;·simp only[vI,xaj,Rr,qm]at hx hy;rcases hx with rfl|rfl<;>rcases hy with rfl|rfl<;>simp at h⊢
 ·refine⟨hL x aa,?_⟩;simp only[vI,xaj,Rr,qm]at aa;rcases aa with rfl|rfl;·exact⟨by rw[hB.block _ (by show w.heap.size<_;omega)];exact n2.1,rfl,λj v hj=>(hx j v hj).step (PH hid) (λb hb=>hb.1) (DJ hL hold) λb hb=>hold b hb.1⟩
  ·exact⟨by rw[hB.block _ (by show w.heap.size+1<_;omega)];exact n2.2,rfl,Fo⟩
 ·by_cases hi:i<10;·exact Gl (r:=[]) he ⟨_,_,rfl⟩ ⟨_,_,rfl⟩ (aEb hold hL ha) (λ_ _=>rfl) i hi
  ·have:(Yb o ds s n k m l).slot i=.undef:=by
    unfold St.slot Yb;have hb:∀j,j<10->Nat.beq j i=false:=λj hj=>by
     cases h:Nat.beq j i with
     |false=>rfl
     |true=>exact absurd (xg h) (by omega)
    simp[aI,hb]
   rw[this];exact .undef
theorem aQj(hm:Mem prog X (eI w μi) (aI (Ht o ds s)) μi w)(hB:Below (w.heap.size+2) ((w.alloc (rK vo vd vs (.int .i64 n))).alloc jV) w2)(he:EdAct act k m va w.heap.size)(ab:act.tmps.getD 12 undef=.pointer (some ⟨w2.heap.size,0,none⟩))
  (hx:∀j v,aO (cG n) j=some v->RelV prog w (eI w μi) μi (SS X μi) v ((#[vo,vd,vs,Value.int .i64 n]:Array Value).getD j undef)) (ha:Rep (SS X μi) w (.slice (.int .i64)) l [va]):
  Rel prog X (eI w μi) ⟨105,[],vf⟩ w (Yy o ds s n k m a b c l) act ((w2.alloc (J8 k a b c)).alloc (L4 w2.heap.size)) (Nk (S9 w.heap.size w2.heap.size n k a b c vo vd vs) μi):=by
 have ad:w.heap.size+2<=w2.heap.size:=by have:=hB.size;simpa using this
 have hold:∀j,j<w.heap.size->((w2.alloc (J8 k a b c)).alloc (L4 w2.heap.size)).heap[j]? =w.heap[j]? :=λj hj=>by rw[bF w2 _ _ (by omega),hB.block j (by omega),bF w _ _ hj]
 have hL:∀x∈S9 w.heap.size w2.heap.size n k a b c vo vd vs,w.heap.size<=x.b:=λx hx=>by
  simp only[S9,vI,Y7,v5,xaj,Rr,qm]at hx;rcases hx with rfl|rfl|rfl;·simp
  ·simp
  ·show w.heap.size<=w2.heap.size;omega
 have hid:∀p mv,μi p=some mv->Bm (S9 w.heap.size w2.heap.size n k a b c vo vd vs) p=none:=λp mv h=>by have:=aFd hm h;simp only[S9,vI,Y7,v5,Bm];rw[qh (by omega),qh (by omega),qh (by omega)]
 have n2:=mI w (rK vo vd vs (.int .i64 n)) jV;have n4:=mI w2 (J8 k a b c) (L4 w2.heap.size);have ae:((w2.alloc (J8 k a b c)).alloc (L4 w2.heap.size)).heap.size=w2.heap.size+2:=by simp
 refine⟨aAu (L:=S9 w.heap.size w2.heap.size n k a b c vo vd vs) hm hid (by omega) hold (λx hx y hy h=>?_) (λx aa=>?_),λi=>?_,⟨hB.os,hB.tape,hB.output,by omega,λj hj=>hold j hj.1⟩,he.df,he.sz,λq hq=>by cases hq⟩;·simp only[S9,vI,Y7,v5,xaj,Rr,qm]at hx hy;rcases hx with rfl|rfl|rfl<;>rcases hy with rfl|rfl|rfl<;>simp at h⊢ <;>omega
 ·refine⟨hL x aa,?_⟩;simp only[S9,vI,Y7,v5,xaj,Rr,qm]at aa;rcases aa with rfl|rfl|rfl;·exact⟨by rw[bF w2 _ _ (by show w.heap.size<_;omega),hB.block _ (by show w.heap.size<_;omega)];exact n2.1,rfl,λj v hj=>(hx j v hj).step (PH hid) (λb hb=>hb.1) (DJ hL hold) λb hb=>hold b hb.1⟩
  ·exact⟨by rw[bF w2 _ _ (by show w.heap.size+1<_;omega),hB.block _ (by show w.heap.size+1<_;omega)];exact n2.2,rfl,Fo⟩
  ·exact⟨n4.1,rfl,AF⟩
 ·by_cases hi:i<10
  ·exact Gl (r:=[(12,.box 12 0)]) he ⟨_,_,rfl⟩ ⟨_,_,rfl⟩ (aEb hold hL ha) (λj hj=>by
    have:Nat.beq 12 j=false:=by
     cases h:Nat.beq 12 j with
     |false=>rfl
     |true=>exact absurd (xg h) (by omega)
    simp[aI,this]) i hi
  ·by_cases h':i=12;·subst h';rw[ab];exact .box (o:=12) (k:=0) rfl
   ·have:(Yy o ds s n k m a b c l).slot i=.undef:=by
     unfold St.slot Yy;have hb:∀j,(j<10\/j=12)->Nat.beq j i=false:=λj hj=>by
      cases h:Nat.beq j i with
      |false=>rfl
      |true=>exact absurd (xg h) (by omega)
     simp[aI,hb]
    rw[this];exact .undef
end
end
section
open Go.RowKit
open Go.Proofs.Tryz
abbrev Eh:=Int×List UInt8×Bool×List Int×List (List Int)×List Int
abbrev BY:=Int->Int->List Int->List Int->List (List Int)->List Int->Int×Int×Int×Int->Tr Eh
abbrev osG:List (Nat×OSh):=[(64,.arr 3 (.int .i64)),(65,.rows 22 3 (.int .i64)),(66,.arr 3 (.int .i64))]
def Kn(G:Int->Option (Int×Bool×Bool))(T:BY)(n k:Int)(l:List Int)(o:List Int)(ds:List (List Int))(s:List Int):Option Eh:=
 (G k).bind λr=>bif pZ r.1 r.2.1 l then(T n k l o ds s (KJ r.1 l)).ev else some (n,[],false,o,ds,s)
noncomputable def wup(rk:RetK)(rho:Eh->rk.T)(G:Int->Option (Int×Bool×Bool))(T:BY):FD where
 A:=.cons (.agg (.cons (.arr 64) (.cons (.arr 65) (.cons (.arr 66) (.cons (.dat (.int .i64)) .nil))))) (.cons (.dat (.int .i64)) (.cons (.dat (.slice (.int .i64))) .nil))
 ins:=osG
 lend:=[.comp 0 0,.comp 0 1,.comp 0 2]
 R:=Eh
 F:=λx=>Kn G T x.1.1.2.2.2.1 x.1.2.1 x.1.2.2.1 x.2.1 x.2.2.1 x.2.2.2.1
 emb:=λr=>(val rk.sh (rho r).1,dX rk.obs (rho r).2++rk.gone.map λo=>(o,.spent))
theorem aUb{tt:Nat->TD}(h:Cx prog tt)(env:List (FP prog))(rk:RetK)(rho:Eh->rk.T){G:Int->Option (Int×Bool×Bool)}(hn:dV prog (193,M4 G))(hG:∀k r,G k=some r->r.1=0\/r.1=1\/r.1=2\/r.1=3){T:BY}
  (runT:∀o ds s n k m a b c l,((cR (Bg env) tt bU (fD []) edT (Yy o ds s n k m a b c l)).map (xA tt rk)).ev=((T n k l o ds s (m,a,b,c)).map λr=>some (rho r)).ev)
  (aw:∀o ds s n k m l,((cR (Bg env) tt bU (fD []) edB (Yb o ds s n k m l)).map (CC tt rk)).ev=some (some (rho (n,[],false,o,ds,s))))
  (ao:bT bU [] 105 edT=true) (Lr:bT bU [] 105 edB=true) (lT:bW edT=[]) (lB:bW edB=[]) (ok:rk.ok=true) (ay:rk.res=[.cell 6 38,.tmp 7,.tmp 8]) (aj:rk.pins=[])
  (au:(rk.gone.all λo=>(Nat.ble 64 o&&(osG.map (·.1)).any (Nat.beq o))&& !(rk.obs.map (·.1)).any (Nat.beq o))=true):dV prog (129,wup rk rho G T):=by
 intro x z hz w X μi vals hX ab az bf hv;obtain⟨⟨⟨_,_,_,n,_⟩,k,l,_⟩,o,ds,s,_⟩:=x;have ab:Mem prog X (eI w μi) (aI (Ht o ds s)) μi w:=ab;have ae:Kn G T n k l o ds s=some z:=hz;unfold Kn at ae;obtain⟨r,hr,ae⟩:=eF ae;have ar:vals.size=3:=bf.symm;obtain⟨vf,vk,va,rfl⟩:∃x y z,vals= #[x,y,z]:=by
  refine⟨vals.getD 0 undef,vals.getD 1 undef,vals.getD 2 undef,?_⟩;apply xhj;·simpa using ar
  ·intro i hi av;have:i=0\/i=1\/i=2:=by simp at av;omega
   rcases this with rfl|rfl|rfl<;>simp[xt,ar]
 have h0:RelV prog w (eI w μi) μi (SS X μi) (.agg (cG n)) vf:=hv 0 _ rfl;have h1:RelV prog w (eI w μi) μi (SS X μi) (.dat (.int .i64) k) vk:=hv 1 _ rfl;have h2:RelV prog w (eI w μi) μi (SS X μi) (.dat (.slice (.int .i64)) l) va:=hv 2 _ rfl;obtain rfl:=lF h1;cases h0 with
 | @agg _ _ xs bg hx=>
  obtain⟨vo,vd,vs,vn,rfl⟩:∃a b c d,xs= #[a,b,c,d]:=by
   have bb:xs.size=4:=bg.symm;refine⟨xs.getD 0 undef,xs.getD 1 undef,xs.getD 2 undef,xs.getD 3 undef,?_⟩;apply xhj;·simpa using bb
   ·intro i hi av;have:i=0\/i=1\/i=2\/i=3:=by simp at av;omega
    rcases this with rfl|rfl|rfl|rfl<;>simp[xt,bb]
  have en:vn=.int .i64 n:=lF (hx 3 _ rfl);have ra:Rep (SS X μi) w (.slice (.int .i64)) l [va]:=by
   cases h2 with
   |dat _ h=>exact h
  subst en;have hb:f129.body.isSome=true:=by kernel_rfl
  have bh:(f129).ntmps=105:=by kernel_rfl
  have bc:(f129).results=rk.res.toArray:=by rw[ay];kernel_rfl
  obtain⟨cd,bj⟩:=xbi.1 hb;refine .inl ⟨cQ func129 (by kernel_rfl) bj _ w,?_⟩
  -- the end of either bl
  have fin:∀{t:Eh} {st:St} {act:Act} {w':World} {μ:Nat->Option MV},Rel prog X (eI w μi) ⟨105,[],λi=>(#[]:Array Value).getD i undef⟩ w st act w' μ->rk.at tt st=some (rho t)->
    act.defers=[]/\∃v,(results f129 act.tmps).run prog w'=.ok v w'/\∃x,Ending.returned v=.returned x/\kO prog X (eI w μi) w w' μi ((wup rk rho G T).emb t) x:=λ{t st act w' μ} hr ht=>by
   have bk:Rel prog X (eI w μi) ⟨(f129).ntmps,[],λi=>(#[]:Array Value).getD i undef⟩ w st act w' μ:=by rw[bh];exact hr
   let d0:FD:= {A:=.nil,ins:=osG,lend:=[],R:=Unit,F:=λ_=>none,emb:=λ_=>([],[])}
   exact G5 h.t (d:=d0) (rt:=rk) (x:=((),o,ds,s,())) (vals:= #[]) az bc ok (pk:=[]) (by rw[aj];rfl) (by rw[aj];rfl) au ⟨ab,λi=>.undef,Kept.refl _ _,rfl,⟨by simp,λq hq=>by cases hq⟩⟩ (res:=(wup rk rho G T).emb t) (t:=rho t) rfl bk ht
  have bad:∀m,z=(n,[],false,o,ds,s)->∀act w2,Below (w.heap.size+2) ((w.alloc (rK vo vd vs (.int .i64 n))).alloc jV) w2->EdAct act k m va w.heap.size->∀K,edB.wp prog (Exit.then K (bodyPost prog f129 λe w'=>∃x,e=.returned x/\kO prog X (eI w μi) w w' μi ((wup rk rho G T).emb z) x)) act w2:=λm ez act w2 hB he K=>by
   have ak:=aLL (vf:=λi=>(#[]:Array Value).getD i undef) (n:=n) (k:=k) (m:=m) (act:=act) ab hB he hx ra;have af:=aw o ds s n k m l;rw[Tr.ev_map]at af;obtain⟨out,k1,k2⟩:=xba.1 af;have hl:eM (Bg env) tt bU [] edB:=λp hp=>by rw[lB]at hp;cases hp
   refine Code.wp_mono (λe bd w' hp=>?_) (hU h.m (sT env) h.t edB (dS h.m (sT env) h.t edB hl Lr) Lr _ _ _ _ out ak k1);cases e with
   |normal=>obtain⟨s',μ',rfl,_⟩:=hp;cases k2
   |ret=>obtain⟨s',μ',rfl,hr⟩:=hp;rw[ez];exact fin hr k2
   |exit i=>obtain⟨s',μ',rfl,_⟩:=hp;cases k2
   |_=>exact hp.elim
  have ai:∀m a b c,(T n k l o ds s (m,a,b,c)).ev=some z->∀act w2,Below (w.heap.size+2) ((w.alloc (rK vo vd vs (.int .i64 n))).alloc jV) w2->EdAct act k m va w.heap.size->act.tmps.getD 12 undef=.pointer (some ⟨w2.heap.size,0,none⟩)->
    edT.wp prog (bodyPost prog f129 λe w'=>∃x,e=.returned x/\kO prog X (eI w μi) w w' μi ((wup rk rho G T).emb z) x) act ((w2.alloc (J8 k a b c)).alloc (L4 w2.heap.size)):=λm a b c ez act w2 hB he ad=>by
   have ak:=aQj (vf:=λi=>(#[]:Array Value).getD i undef) (n:=n) (k:=k) (m:=m) (act:=act) (a:=a) (b:=b) (c:=c) ab hB he ad hx ra;have af:=runT o ds s n k m a b c l;rw[Tr.ev_map,Tr.ev_map,ez]at af;obtain⟨out,k1,k2⟩:=xba.1 af;have hl:eM (Bg env) tt bU [] edT:=λp hp=>by rw[lT]at hp;cases hp
   refine Code.wp_mono (λe bd w' hp=>?_) (hU h.m (sT env) h.t edT (dS h.m (sT env) h.t edT hl ao) ao _ _ _ _ out ak k1);cases e with
   |normal=>obtain⟨s',μ',rfl,hr⟩:=hp;exact fin hr k2
   |ret=>obtain⟨s',μ',rfl,hr⟩:=hp;exact fin hr k2
   |exit i=>obtain⟨s',μ',rfl,_⟩:=hp;cases k2
   |_=>exact hp.elim
  have hN:Hid (∀w1,(∀b,b<w.heap.size->w1.heap[b]? =w.heap[b]?)->w.heap.size<=w1.heap.size->Calls prog 193 #[.int .i64 k] w1 λe w'=>e=.returned (.tuple #[.int .i64 r.1,.bool r.2.1,.bool r.2.2])/\Below w1.heap.size w1 w'):=
   Hid.mk' λw1 ho hs=>Cv hn hr w1 ((ab.tab.step λb hb=>ho b hb.1).le λb hb=>⟨wN hb.1 hs,λo mv h=>(by cases h)⟩)
  obtain⟨aa,ca,rfl,hw⟩:=aEI ra;have hm:=hG k r hr;obtain⟨m,li,bm⟩:=r;simp only at hm ae hN;have eB:pZ m li l=false->z=(n,[],false,o,ds,s):=λh=>by rw[h]at ae;exact(tM ae).symm
  have eT:pZ m li l=true->(T n k l o ds s (KJ m l)).ev=some z:=λh=>by rw[h]at ae;exact ae
  have fT:m<=(l.length:Int)->(li=true\/(l.length:Int)<=m)->pZ m li l=true:=λh1 h2=>by unfold pZ;rw[qc h1,Dk,M9,qe];exact h2
  have fB:¬(m<=(l.length:Int)/\(li=true\/(l.length:Int)<=m))->pZ m li l=false:=λh=>by unfold pZ;rw[xes];intro h';rw[xi,M9,qe,qe]at h';exact h h'
  by_cases be:(l.length:Int)<m;·exact Ba w be hN (Hid.mk' λact w2 hB he K=>bad m (eB (fB λh=>by omega)) act w2 hB he K)
  rcases hm with rfl|rfl|rfl|rfl;·refine Cw w hN (Hid.mk' λah act w2 hB he K=>bad 0 (eB (fB λh=>ah ⟨by omega,h.2.imp id λh=>by omega⟩)) act w2 hB he K) (Hid.mk' λh1 h2 act w2 hB he ad=>ai 0 0 0 0 ?_ act w2 hB he ad);exact eT (fT (by omega) (h2.imp id λh=>by omega))
  ·obtain⟨ba,oa,rfl,al,hc⟩:=hw (by omega);refine Cu w (hc 0 (by omega)) al hN (Hid.mk' λah act w2 hB he K=>bad 1 (eB (fB λh=>ah ⟨by omega,h.2.imp id λh=>by omega⟩)) act w2 hB he K) (Hid.mk' λh1 h2 act w2 hB he ad=>ai 1 (l.getD 0 0) 0 0 ?_ act w2 hB he ad);exact eT (fT (by omega) (h2.imp id λh=>by omega))
  ·obtain⟨ba,oa,rfl,al,hc⟩:=hw (by omega);refine Dn w (hc 0 (by omega)) (hc 1 (by omega)) al hN (Hid.mk' λah act w2 hB he K=>bad 2 (eB (fB λh=>ah ⟨by omega,h.2.imp id λh=>by omega⟩)) act w2 hB he K) (Hid.mk' λh1 h2 act w2 hB he ad=>ai 2 (l.getD 0 0) (l.getD 1 0) 0 ?_ act w2 hB he ad);exact eT (fT (by omega) (h2.imp id λh=>by omega))
  ·obtain⟨ba,oa,rfl,al,hc⟩:=hw (by omega);refine Fe w (hc 0 (by omega)) (hc 1 (by omega)) (hc 2 (by omega)) al hN (Hid.mk' λah act w2 hB he K=>bad 3 (eB (fB λh=>ah ⟨by omega,h.2.imp id λh=>by omega⟩)) act w2 hB he K) (Hid.mk' λh1 h2 act w2 hB he ad=>ai 3 (l.getD 0 0) (l.getD 1 0) (l.getD 2 0) ?_ act w2 hB he ad);exact eT (fT (by omega) (h2.imp id λh=>by omega))
end
end Go.Proofs.YteiekijgoifhoaaGreatDoor
