/-
 The library's decimal numerals, by the shelf's contract: they read a table of the library's.
-/
import Derived.Test.YteiekijgoifhoaaGreatDoorB31
import Derived.Test.YteiekijgoifhoaaGreatDoorShelf
namespace Go.Proofs.YteiekijgoifhoaaGreatDoor
open Go.RowKit (Below)
open Go.Proofs.Tryz
instance doorTabs:Tabs:=⟨[(5,Lib.pow10Tab.map fun z=>Value.int .u64 z)]⟩
theorem pow_global:prog.globalNamed "internal/strconv.uint64pow10" =some (5):=by kernel_rfl
theorem pow_tab{w:World}{lo:Nat→Prop}(h:TabsOK w lo):Lib.TabIs prog w "internal/strconv.uint64pow10" .u64 Lib.pow10Tab:=by
 obtain⟨_,t,y,h2⟩:=h _ (xt.2 rfl)
 unfold Lib.TabIs World.var?
 rw [pow_global]
 simp only [xf] at h2⊢
 rw [h2]
def inI64(n:Int):Bool:=decide (-9223372036854775808≤n)&&decide (n≤9223372036854775807)
def itoaF(n:Int):Option (List UInt8):=if inI64 n then some (Lib.itoa n) else none
def fdItoa:FD where
 A:=.cons (.dat (.int .i64)) .nil
 ins:=[]
 lend:=[]
 R:=List UInt8
 F:=fun x=>itoaF x.1.1
 emb:=fun r=>([.dat .str r],[])
theorem hand_itoa:FDok prog (176,fdItoa):=by
 intro x r hr w X μi vals hX hm af ad hv
 obtain⟨⟨n,u⟩,v⟩:=x
 have aa:itoaF n=some r:=hr
 unfold itoaF at aa
 split at aa
 next ab=>
  cases aa
  unfold inI64 at ab
  simp only [xg,decide_eq_true_eq] at ab
  obtain⟨x,rfl,h1⟩:=args1 (v:=.dat (.int .i64) n) ad hv
  rw [int_of h1]
  have hb:f176.body.isSome=true:=by kernel_rfl
  obtain⟨c,hc⟩:=xbq.1 hb
  refine .inl ⟨run_enter func176 (by kernel_rfl) hc _ w,(Tryz.strconv_Itoa n ab.1 ab.2 w (pow_tab hm.tab)).mono fun e w' ⟨he,k,os,hw⟩=>⟨_,he,?_⟩⟩
  subst hw
  refine res_dat rfl (fun _=>rfl) ⟨rfl,rfl,rfl,by rw [Sort.size_grow];exact Nat.le_add_right _ _,fun b hb=>?_⟩ hX hm.hlo hm.tab
  have ae:=hm.hlo b hb
  show(w.heap++os)[b]? =w.heap[b]?
  exact xbh ae
 next=>cases aa
end Go.Proofs.YteiekijgoifhoaaGreatDoor
