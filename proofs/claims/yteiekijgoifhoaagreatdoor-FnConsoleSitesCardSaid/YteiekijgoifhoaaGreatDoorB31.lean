/-
 Contracts by hand: what a call hands back that owns nothing; functions without a body.
-/
import Derived.Test.YteiekijgoifhoaaGreatDoorB30
import Derived.Lib.Bytealg
namespace Go.Proofs.YteiekijgoifhoaaGreatDoor
open Go.RowKit (Below)
theorem res_dat[Tabs]{P:Program}{X lo:Nat→Prop}{w w':World}{μi:Nat→Option MV}{t:Ty}{v:t.I}{x:Value}(ht:t.size=1)(hr:∀S,Rep S w' t v [x])(hk:Kept lo w w')(hX:∀b,X b→lo b)(hlo:∀b,lo b→b<w.heap.size)
  (aa:TabsOK w lo):ResOK P X lo w w' μi ([.dat t v],[]) x:=
 ⟨hk,fun _=>none,⟨hX,fun b hb=>xan (hlo b hb) hk.size,fun o mv h=>(by cases h),fun o p mv mv' b h=>(by cases h),aa.step hk.block⟩,fun o mv h=>(by cases h),fun p hp=>(by cases hp),.inl ⟨_,rfl,.dat ht (hr _)⟩⟩
theorem res_ownG[Tabs]{P:Program}{X lo:Nat→Prop}{w w':World}{μi:Nat→Option MV}{e:Nat}{t:Ty}{l:List t.I}{cs:List Value}{v:Value}(hr:∀S,RepL S w' t l cs)(ho:w'.ownsRow w.heap.size e t.size v l.length cs)(hk:Kept lo w w')(hX:∀b,X b→lo b)(hlo:∀b,lo b→b<w.heap.size)
  (aa:TabsOK w lo):ResOK P X lo w w' μi ([.arr 0],[(0,.arr e t l)]) v:=by
 obtain⟨a,n,c,rfl⟩:∃a n c,v=.slice a n c:=by
  rcases ho.2 with⟨e,_⟩|⟨_,_,_,e,_⟩
  ·exact⟨_,_,_,e⟩
  ·exact⟨_,_,_,e⟩
 refine⟨hk,again (fun _=>none) 0 ⟨.slice a n c,(rootV (.slice a n c)).toList,[]⟩,⟨hX,fun b hb=>xan (hlo b hb) hk.size,fun o mv h=>?_,fun o p mv mv' b h1 h2 _ _=>?_,aa.step hk.block⟩,fun o mv h=>?_,fun p hp hge=>?_,.inl ⟨_,rfl,.arr (rs:=(rootV (.slice a n c)).toList) (hs:=[]) again_self⟩⟩
 ·rcases again_inv h with⟨rfl,rfl⟩|⟨_,h⟩
  ·refine⟨_,rfl,⟨rfl,rfl⟩,fun b hb hl=>?_,cs,⟨ho.1,?_⟩,hr _⟩
   ·rcases ho.2 with⟨e1,_⟩|⟨gb,cap,cur,e1,h1,_⟩
    ·rw [e1] at hb;simp [rootV] at hb
    ·rw [e1] at hb
     simp only [rootV,xc] at hb
     have:=hlo b hl
     omega
   ·rcases ho.2 with h|⟨gb,cap,cur,e1,h1,h2⟩
    ·exact .inl h
    ·exact .inr ⟨gb,cap,cur,e1,xcp _,h2⟩
  ·cases h
 ·rcases again_inv h1 with⟨rfl,rfl⟩|⟨_,h1⟩
  ·rcases again_inv h2 with⟨rfl,rfl⟩|⟨_,h2⟩
   ·rfl
   ·cases h2
  ·cases h1
 ·rcases again_inv h with⟨rfl,rfl⟩|⟨_,h⟩
  ·exact⟨_,xt.2 rfl,rfl⟩
  ·cases h
 ·rw [xt.1 hp] at hge
  exact absurd hge (by simp)
theorem args1{R:AV→Value→Prop}{v:AV}{vals:Array Value}(h1:List.length [v]=vals.size)(h2:∀j u,nth [v] j=some u→R u (vals.getD j undef)):∃x,vals= #[x]∧R v x:=by
 have:vals.size=1:=by simpa using h1.symm
 obtain⟨x,rfl⟩:=Array.size_eq_one_iff.1 this
 exact⟨x,rfl,h2 0 v rfl⟩
theorem args2{R:AV→Value→Prop}{v u:AV}{vals:Array Value}(h1:List.length [v,u]=vals.size)(h2:∀j z,nth [v,u] j=some z→R z (vals.getD j undef)):∃x y,vals= #[x,y]∧R v x∧R u y:=by
 have:vals.size=2:=by simpa using h1.symm
 refine⟨vals.getD 0 undef,vals.getD 1 undef,?_,h2 0 v rfl,h2 1 u rfl⟩
 apply Array.ext
 ·simpa using this
 ·intro i hi aa
  have:i=0∨i=1:=by simp at aa;omega
  rcases this with rfl|rfl<;>simp [Array.getD,hi]
theorem str_of{P:Program}{w:World}{lo:Nat→Prop}{μ:Nat→Option MV}{S:Nat→Prop}{s:List UInt8}{x:Value}(h:RelV P w lo μ S (.dat .str s) x):x=.string ⟨s.toArray⟩:=by
 cases h with|dat _ hr=>simpa [Rep] using hr
theorem int_of{P:Program}{w:World}{lo:Nat→Prop}{μ:Nat→Option MV}{S:Nat→Prop}{k:IntKind}{n:Int}{x:Value}(h:RelV P w lo μ S (.dat (.int k) n) x):x=.int k n:=by
 cases h with|dat _ hr=>simpa [Rep] using hr
def idxByte(s:List UInt8)(c:Int):Int:=Lib.indexByte s c.toNat.toUInt8
def fdIndexByte:FD where
 A:=.cons (.dat .str) (.cons (.dat (.int .u8)) .nil)
 ins:=[]
 lend:=[]
 R:=Int
 F:=fun x=>some (idxByte x.1.1 x.1.2.1)
 emb:=fun r=>([.dat (.int .i64) r],[])
theorem hand_indexByte[Tabs]{P:Program}{f:Nat}{fn:Func}(hf:P.funcs[f]? =some fn)(aa:(fn.name== "runtime.NumGoroutine")=false)(hb:fn.body.isNone=true)(hn:Extern.findNext fn=none)
  (he:Extern.find fn=some Extern.BytealgIndexByte.indexByte):FDok P (f,fdIndexByte):=by
 intro x r hr w X μi vals hX hm ad ab hv
 cases hr
 obtain⟨⟨s,c,u⟩,v⟩:=x
 obtain⟨x,y,rfl,h1,h2⟩:=args2 (v:=.dat .str s) (u:=.dat (.int .u8) c) ab hv
 rw [str_of h1,int_of h2]
 refine .inr ⟨.int .i64 (idxByte s c),w,?_,res_dat rfl (fun _=>rfl) (Kept.refl _ _) hX hm.hlo hm.tab⟩
 rw [run_callFunc_extern hf aa hb hn he,Lib.run_indexByteString]
 rfl
end Go.Proofs.YteiekijgoifhoaaGreatDoor
