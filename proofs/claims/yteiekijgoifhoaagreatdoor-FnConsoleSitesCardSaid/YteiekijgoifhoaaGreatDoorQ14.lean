/-
 The laws of new atlases and consoles.
-/
import Derived.Test.YteiekijgoifhoaaGreatDoorP8
import Derived.Test.YteiekijgoifhoaaGreatDoorP46
import Derived.Test.YteiekijgoifhoaaGreatDoorPM
namespace Go.Proofs.YteiekijgoifhoaaGreatDoor
theorem clone_eq{l:List Int}(hl:Low1 l):wic l=some l:=by
 unfold Low1 at hl
 unfold wic cloneF
 rw [if_pos (by omega)]
theorem rows_copy{f:Int×List (List Int)→Option ((Int×List (List Int))⊕List (List Int))}{x:List (List Int)}
  (aa:∀i:Nat,i<x.length→f ((i:Int),x.take i)=some (.inl (((i+1:Nat):Int),x.take i++ [x.getD i []]))) (ab:f ((x.length:Int),x)=some (.inr x)):iter f (0,[])=some x:=by
 have:=(iter_fold (f:=f) (n:=x.length) (mk:=fun i (_:Unit)=>((i:Int),x.take i)) (I:=fun _ _=>True) (g:=fun s _=>s) (fin:=fun _=>x) (s0:=()) trivial
  (fun i s hi _=>⟨by rw [aa i hi,take_snoc [] hi],trivial⟩)
  (fun s _=>by rw [xct,ab])).1
 simpa using this
theorem set_last{α:Type}(l:List α)(a b:α):(l++ [a]).set l.length b=l++ [b]:=by simp
theorem copyLists_eq{ds:List (List Int)}(hd:Low2 ds):wum ds=some ds:=by
 unfold wum wul
 have hl:=hd.1
 have h0:=rows_copy (f:=fun v=>(wch (ds,((ds.length:Nat):Int)) v).ev) (x:=ds)
  (fun i hi=>by
   have ht:(ds.take i).length≤i:=List.length_take_le _ _
   have hg:((ds.take i).length+1)*24≤140737488355328:=by omega
   simp (disch:=omega) only [EV,wch,hi,clone_eq (hd.2 _ (getD_mem (d:=[]) hi)),set_last,hg]
   rfl)
  (by simp (disch:=omega) only [EV,wch,xo])
 simp (disch:=omega) only [EV,wie,h0]
theorem copied_eq{o:List Int}{ds:List (List Int)}{s:List Int}(ho:Low1 o)(hd:Low2 ds)(hs:Low1 s)(c:Int):F_zk o ds s c=some (c,o,ds,s):=by
 unfold F_zk T_zk
 simp (disch:=omega) only [EV,clone_eq ho,clone_eq hs,copyLists_eq hd]
def ncon(b:Bool)(o:List Int)(ds:List (List Int))(s:List Int)(c:Int):Int×List UInt8×List UInt8×Int×Bool×List Int×List (List Int)×List Int:=bif b then(c,[],[],0,true,o,ds,s) else(0,[],[],0,false,[],[],[])
theorem im_NewConsole_eq{o:List Int}{ds:List (List Int)}{s:List Int}(ho:Low1 o)(hd:Low2 ds)(hs:Low1 s)(c:Int):wif o ds s c=some (ncon (atlasB o ds s c) o ds s c):=by
 unfold wif wun
 simp (disch:=omega) only [EV,im_IsAtlas_eq ho hd hs,copied_eq ho hd hs]
 cases atlasB o ds s c<;>rfl
end Go.Proofs.YteiekijgoifhoaaGreatDoor
