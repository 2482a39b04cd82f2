/-
 slices.Delete at []int and at [][]int, walked: what is behind moves ahead, in the caller's own array.
-/
import Derived.Test.YteiekijgoifhoaaGreatDoorB31
import Derived.Test.YteiekijgoifhoaaGreatDoorProg
import Derived.Shelf.RegionOpenPlain
import Derived.WalkKit
import Derived.Deep.LoopGhost
import Derived.Deep.RegionLaw
import Derived.Lib.Walk
import Derived.Sort.WalkB12
import Derived.Lib.SliceRun
import Derived.Lib.SlicesDelete
namespace Go.Proofs.YteiekijgoifhoaaGreatDoor
open Go.RowKit Go.Lib Go.Sort
open Go.Proofs.Tryz
set_option maxHeartbeats 4000000 in
set_option maxRecDepth 1000000 in
set_option maxHeartbeats 4000000 in
set_option maxRecDepth 1000000 in
theorem RepL.take[Tabs]{S:Nat→Prop}{w:World}{t:Ty}(ht:t.size=1):∀ {l:List t.I} {cs:List Value} (i:Nat),RepL S w t l cs→RepL S w t (l.take i) (cs.take i)
 | [],cs,i,h=>by
  have:cs=[]:=h
  subst this
  simp only [List.take_nil]
  exact(rfl:([]:List Value)=[])
 |x::l,cs,0,h=>(rfl:([]:List Value)=[])
 |x::l,cs,i+1,h=>by
  obtain⟨c,r,rfl,h1,h2⟩:=h
  have hc:=h1.len
  rw [ht] at hc
  obtain⟨u,rfl⟩:=xem.1 hc
  exact⟨[u],r.take i,rfl,h1,RepL.take ht i h2⟩
theorem RepL.drop[Tabs]{S:Nat→Prop}{w:World}{t:Ty}(ht:t.size=1):∀ {l:List t.I} {cs:List Value} (i:Nat),RepL S w t l cs→RepL S w t (l.drop i) (cs.drop i)
 | [],cs,i,h=>by
  have:cs=[]:=h
  subst this
  simp only [List.drop_nil]
  exact(rfl:([]:List Value)=[])
 |x::l,cs,0,h=>h
 |x::l,cs,i+1,h=>by
  obtain⟨c,r,rfl,h1,h2⟩:=h
  have hc:=h1.len
  rw [ht] at hc
  obtain⟨u,rfl⟩:=xem.1 hc
  exact RepL.drop ht i h2
end Go.Proofs.YteiekijgoifhoaaGreatDoor
