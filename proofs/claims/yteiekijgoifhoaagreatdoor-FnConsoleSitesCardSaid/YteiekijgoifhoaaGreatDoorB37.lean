/-
 slices.Clone at []int, by the shelf's contract: the copy is the caller's own.
-/
import Derived.Test.YteiekijgoifhoaaGreatDoorB31
import Derived.Test.YteiekijgoifhoaaGreatDoorProg
import Derived.Shelf.SlicesG.Clone
namespace Go.Proofs.YteiekijgoifhoaaGreatDoor
open Go.RowKit (Below)
open Go.Proofs.Tryz
def cloneRen:Go.Shelf.Ren:=⟨fun|41=>116|n=>n,fun|22=>22|23=>3|4=>4|n=>n,fun n=>n⟩
theorem cloneLays:SlLaysN.n41 prog cloneRen:= {
 mixed:=by kernel_rfl
 f41:=⟨f116.name,by kernel_rfl,func116.trans (congrArg some (by kernel_rfl))⟩
 t4:=underlying4
 a4:=isAgg4
 z4:=sizeOf4
 v4:=zeroValue4
 t22:=underlying22
 a22:=isAgg22
 z22:=sizeOf22
 v22:=zeroValue22
 t23:=underlying3
 a23:=isAgg3
 z23:=sizeOf3
 v23:=zeroValue3
 i23:=by kernel_rfl}
theorem repL_ints{S:Nat→Prop}{w:World}:∀l:List Int,RepL S w (.int .i64) l (l.map (Value.int .i64))
 | []=>rfl
 |x::l=>⟨[.int .i64 x],l.map (Value.int .i64),rfl,rfl,repL_ints l⟩
theorem res_own[Tabs]{P:Program}{X lo:Nat→Prop}{w w':World}{μi:Nat→Option MV}{e:Nat}{l:List Int}{v:Value}(ho:w'.ownsRow w.heap.size e 1 v l.length (l.map (Value.int .i64)))(hk:Kept lo w w')(hX:∀b,X b→lo b)(hlo:∀b,lo b→b<w.heap.size)
  (aa:TabsOK w lo):ResOK P X lo w w' μi ([.arr 0],[(0,.arr e (.int .i64) l)]) v:=res_ownG (fun _=>repL_ints l) ho hk hX hlo aa
def cloneF(l:List Int):Option (List Int):=if l.length*8≤140737488355328 then some l else none
def fdClone:FD where
 A:=.cons (.dat (.slice (.int .i64))) .nil
 ins:=[]
 lend:=[]
 R:=List Int
 F:=fun x=>cloneF x.1.1
 emb:=fun r=>([.arr 0],[(0,.arr 3 (.int .i64) r)])
theorem hand_clone[Tabs]:FDok prog (116,fdClone):=by
 intro x r hr w X μi vals hX hm ai af hv
 obtain⟨⟨l,u⟩,v⟩:=x
 have aa:cloneF l=some r:=hr
 unfold cloneF at aa
 split at aa
 next ah=>
  have e:l=r:=xbz aa
  subst e
  obtain⟨x,rfl,h1⟩:=args1 (v:=.dat (.slice (.int .i64)) l) af hv
  have hb:f116.body.isSome=true:=by kernel_rfl
  obtain⟨c,hc⟩:=xbq.1 hb
  have ab:Rep (SS X μi) w (.slice (.int .i64)) l [x]:=by
   cases h1 with|dat _ hr=>exact hr
  simp only [Rep] at ab
  obtain⟨a,cap,e,aj,ae⟩:=ab
  simp only [xbt,and_true] at e
  subst e
  refine .inl ⟨run_enter func116 (by kernel_rfl) hc _ w,?_⟩
  have fin:∀ {v':Value} {w':World},w'.ownsRow w.heap.size 3 1 v' l.length (l.map (Value.int .i64))→Below w.heap.size w w'→ResOK prog X (old w μi) w w' μi (fdClone.emb l) v':=fun ho hb=>
   res_own ho (Kept.of hb hm.hlo) hX hm.hlo hm.tab
  cases l with
  |nil=>
   cases a with
   |none=>
    refine(AnyG.slices_Clone_int_nil cloneLays _ _ w).mono fun e w' ⟨he,hw⟩=>⟨_,he,?_⟩
    subst hw
    exact fin (World.ownsRow_nil w' _ _ _) (Below.refl _ _)
   |some a=>
    refine(AnyG.slices_Clone_int_zero cloneLays a _ w).mono fun e w' ⟨v',he,ho,_,hb⟩=>⟨_,he,?_⟩
    exact fin ho hb
  |cons y l=>
   obtain⟨b,off,c',ha,_⟩:=ae 0 y rfl
   subst ha
   have ad:∀j,j<(y::l).length→w.cell? ⟨b,off+j,none⟩=some (.int .i64 ((y::l).getD j 0)):=fun j hj=>by
    obtain⟨b',ak,c1,h1,_,h3,h4⟩:=ae j _ (xh hj)
    cases h1
    subst h3
    have:=h4 0 _ rfl
    simp only [Ty.size,xbw,xbd] at this
    rw [this,xd,xh hj]
    rfl
   refine(AnyG.slices_Clone_int cloneLays b off _ _ (y::l) w (xm _) ah ad).mono fun e w' ⟨v',he,ho,_,hb⟩=>⟨_,he,?_⟩
   rw [xct] at ho
   exact fin ho hb
 next=>cases aa
end Go.Proofs.YteiekijgoifhoaaGreatDoor
