/-
 A row of the Console's seat under the condition on the library's tables and errors: a world that meets the condition, what the condition gives, and the row's inner form from a function's contract.
-/
import Derived.Test.YteiekijgoifhoaaGreatDoorTie
import Derived.Test.YteiekijgoifhoaaGreatDoorB32
import Derived.Lib.LaidTab
import Derived.LaidSub
import Derived.ChangeSame
import Derived.ChangeVars
import Derived.JoinedOf
import Derived.RowKit
namespace Go.Proofs.YteiekijgoifhoaaGreatDoor
open Go.RowKit (Below)
open Go.Proofs.Tryz
mutual
def litCells:DataW Unit→List Value
 | .lit (.int k z)=>[.int k z]
 | .agg ds=>litCellsAll ds
 |_=>[]
def litCellsAll:List (DataW Unit)→List Value
 | []=>[]
 |d::r=>litCells d++litCellsAll r
end
def setCells(cs:List Value):Obj→Obj
 | .cells _ t y=>.cells cs.toArray t y
 |o=>o
def errText:DataW Unit→ByteArray
 | .iface _ (.ptr (.agg [.lit (.string b)]))=>⟨b.toArray⟩
 |_=>⟨#[]⟩
def errVal(b:Nat):Value:=.iface 322 (.pointer (some ⟨b,0,none⟩))
noncomputable def laidWorld(os:Os):World:=
 {World.holding prog os ⟨#[],#[],[]⟩ with heap:=((((((((World.holding prog os ⟨#[],#[],[]⟩).heap.modify 1 (setCells (litCells Rows.laid_unicode_utf8_first))).modify 2 (setCells (litCells Rows.laid_unicode_utf8_acceptRanges))).modify 3 (setCells [errVal 13])).modify 4 (setCells [errVal 14])).modify 5 (setCells (litCells Rows.laid_internal_strconv_uint64pow10))).modify 6 (setCells (litCells Rows.laid_math_bits_deBruijn32tab))).modify 7 (setCells (litCells Rows.laid_math_bits_deBruijn64tab)))++ #[Obj.cells #[.string (errText Rows.laid_strconv_ErrSyntax)] 324,Obj.cells #[.string (errText Rows.laid_strconv_ErrRange)] 324]}
noncomputable def seatLaid:List (String×DataW Unit):=[("math/bits.deBruijn32tab",Rows.laid_math_bits_deBruijn32tab),("math/bits.deBruijn64tab",Rows.laid_math_bits_deBruijn64tab),("internal/strconv.uint64pow10",Rows.laid_internal_strconv_uint64pow10),("unicode/utf8.acceptRanges",Rows.laid_unicode_utf8_acceptRanges),("strconv.ErrRange",Rows.laid_strconv_ErrRange),("strconv.ErrSyntax",Rows.laid_strconv_ErrSyntax),("unicode/utf8.first",Rows.laid_unicode_utf8_first)]
theorem laid_met(os:Os)(args:Array Value):laidMetH prog seatLaid ((laidWorld os).forCall (fun _ _=>0) ⟨#[],args,[]⟩).memory:=
 laidMet_of_run' 8 (by kernel_rfl) (by kernel_rfl)
theorem pow_type:(prog.globals[5]?).map (·.type)=some (319):=by kernel_rfl
theorem tabs_of_laid{W:World}(h:laidMetH prog seatLaid W):TabsOK W (old W fun _=>none):=by
 have h1:laidMet prog seatLaid W:=h
 have h2:laidMet prog [("internal/strconv.uint64pow10",Lib.tabData .u64 Lib.pow10Tab)] W:=h1.filter fun x=>x.1== "internal/strconv.uint64pow10"
 have h3:Lib.TabIs prog W "internal/strconv.uint64pow10" .u64 Lib.pow10Tab:=Lib.tabIs_of_head pow_global pow_type (by kernel_rfl:prog.underlying (319)=some (.array 20 (93))) (by kernel_rfl) (by kernel_rfl) (by kernel_rfl) h2
 intro p hp
 obtain rfl:=xt.1 hp
 unfold Lib.TabIs World.var? at h3
 rw [pow_global] at h3
 simp only [xf] at h3
 split at h3
 next cs t y hw=>
  obtain rfl:=xbz h3
  obtain⟨ab,_⟩:=xau.1 hw
  exact⟨⟨ab,fun _ _ h=>by cases h⟩,t,y,hw⟩
 next=>cases h3
theorem row_laid[Tabs]{H:Type}{enc:TypeId×Value→H}{C:Checked}{laid:List (String×DataW Unit)}{os:Os}{f:Nat}{fn:Func}{s:ChangeSpec}{d:FD}{conds:List PathCond}{ts:List Ty}{n tb:Nat}{cv:HL ts→d.T}
  (ai:∀W,laidMetH C.prog laid W→TabsOK W (old W fun _=>none))
  (own:ownKnob C.prog.godebug=none) (started:os.Started) (aa:C.prog.inits.idxOf? f=none) (aj:C.prog.funcs[f]? =some fn)
  (witness:∃ (w:World) (tape:Tape) (i:Input),w.os=os∧(w.forCall tape i).Shaped C.prog∧i.vars=[]∧Input.okWide C.prog (w.forCall tape i) .any w.heap.size f i∧
   ((s.pre enc C.prog fn conds false (w.forCall tape i).memory i.args∧laidMetH C.prog laid (w.forCall tape i).memory)∧sizedMet enc C.prog fn (OpenSpec.ofChange s) false (w.forCall tape i).memory i.args)∧({}:Assume).holds C.prog (lone (Frame.enter C.prog f i.args .normal) [] (w.forCall tape i)))
  (hl:laidOutB C.prog=true) (ab:parsChk C.prog n fn.params.toList ts=true) (ad:s.vars=[]) (ak:fn.resultTypes= #[tb]) (hb:C.prog.underlying tb=some .bool)
  (ae:∀ds:List (DataW H),ds.length=fn.params.size→s.fn H (ds++ [])= {results:=[.lit (.bool true)],args:=ds})
  (af:(fn.name== "runtime.NumGoroutine")=false) (ah:fn.body.isSome=true) (ao:∀h,val d.A (cv h).1=hlAV ts h) (au:∀h,mkObs d.ins (cv h).2=[]) (av:FDok C.prog (f,d))
  (law:∀h,FitL ts h→∃r,d.F (cv h)=some r∧d.emb r=([.dat .bool true],[])):
  ReturnsInHanded {} C os f .any (fun w args=>(s.pre enc C.prog fn conds false w args∧laidMetH C.prog laid w)∧sizedMet enc C.prog fn (OpenSpec.ofChange s) false w args) (s.post enc C.prog fn false true false false):=by
 refine returnsInHanded_of_change_and (C:=C) (X:=fun w _=>laidMetH C.prog laid w) (fun _ _ _ hh h=>h.of_heap hh) own started aa aj witness ?_
 intro W base args ds gs before al hW _ _ hL _
 exact row_contract aj hl ab ad ak hb ae af ah ao au av law al hW (ai W hL)
theorem card_side{P:Program}{lk:Bool}{fn:Func}(h1:lk=P.looks [])(h2:(fn.params.toList.all fun t=> !P.wantsStandIn t)=true):lk=P.looks []∧∀ (j:Nat) t,fn.params[j]? =some t→P.wantsStandIn t=false:=by
 refine⟨h1,fun j t ht=>?_⟩
 have:=xp.1 h2 t (by rw [Array.mem_toList_iff];exact Array.mem_of_getElem? ht)
 simpa using this
end Go.Proofs.YteiekijgoifhoaaGreatDoor
