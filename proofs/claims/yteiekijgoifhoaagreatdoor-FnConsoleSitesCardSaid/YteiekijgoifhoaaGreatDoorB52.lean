/-
 Functions told in few words, as the generated texts do.
-/
import Derived.Test.YteiekijgoifhoaaGreatDoorB30
namespace Go.Proofs.YteiekijgoifhoaaGreatDoor
abbrev FP[Tabs](P:Program):= {p:Nat×FD// FDok P p}
def fenv[Tabs]{P:Program}(l:List (FP P)):Env:=envOf (l.map (·.1))
theorem fenv_ok[Tabs]{P:Program}(l:List (FP P)):EnvOK P (fenv l):=env_ok fun p hp=>by
 obtain⟨q,_,rfl⟩:=xae.1 hp
 exact q.2
structure Cx[Tabs](P:Program)(tt:Nat→TD):Prop where
 m:P.follows .mixedOrders=true
 t:TabOK P tt
def zOf(l:List (Nat×List (Nat×List Nat)))(r i:Nat):List Nat:=match look l r with
 |some l=>(look l i).getD []
 |none=>[]
noncomputable def fdOf(A:Sh)(I:List (Nat×OSh))(L:List LP){R:Type}(T:A.I×OL I→Tr R)(K:RetK)(rho:R→K.T):FD where
 A:=A
 ins:=I
 lend:=L
 R:=R
 F:=fun x=>(T x).ev
 emb:=fun r=>(val K.sh (rho r).1,mkObs K.obs (rho r).2++K.gone.map fun o=>(o,.spent))
def codeOf(f:Func):Code:=f.body.getD .skip
noncomputable def fnP[Tabs]{P:Program}{tt:Nat→TD}(h:Cx P tt){f:Nat}{fn:Func}(at_:P.funcs[f]? =some fn)(env:List (FP P))(A:Sh)(I:List (Nat×OSh))(L:List LP){R:Type}(T:A.I×OL I→Tr R)(K:RetK)(rho:R→K.T)
  (Z:Nat→Nat→List Nat:=noZ) (l:List (Nat×LD):=[])
  (loops:LoopsL (fenv env) tt Z l (codeOf fn) l:=by repeat (first|exact lpN|(refine lpC (ldMk (fun _=>rfl) ?_) ?_;· intro _ _;kernel_rfl)))
  (nd:decide ((loopsOf (codeOf fn)).map (·.1)).Nodup=true:=by kernel_rfl)
  (run:∀x:A.I×OL I,((acode (fenv env) tt Z (orcOf l) (codeOf fn) (entry A I x)).map (keepRet tt K)).ev=((T x).map fun r=>some (rho r)).ev:=by intro _;kernel_rfl)
  (name:(fn.name== "runtime.NumGoroutine")=false:=by kernel_rfl) (body:fn.body=some (codeOf fn):=by kernel_rfl) (res:fn.results=K.res.toArray:=by kernel_rfl) (ok:K.ok=true:=by kernel_rfl)
  (arity:∀x:A.I×OL I,(val A x.1).length≤fn.ntmps:=by exact fun _=>xcr (by kernel_rfl)) (pin:∀x:A.I×OL I,(K.pins.all fun q=>pinAt ((entry A I x).slot q.1) q.2.1 q.2.2)=true:=by exact fun _=>by kernel_rfl)
  (chk:codeChk Z (pinK K.pins) fn.ntmps (codeOf fn)=true:=by kernel_rfl) (gone:(K.gone.all fun o=>(Nat.ble 64 o&&(I.map (·.1)).any (Nat.beq o))&& !(K.obs.map (·.1)).any (Nat.beq o))=true:=by rfl):FP P:=
 ⟨(f,fdOf A I L T K rho),fn_ok (d:=fdOf A I L T K rho) h.m (fenv_ok env) h.t ⟨at_,name,body,res,ok,arity,pin,chk,lpMk nd loops,run,fun _=>rfl,fun _=>rfl,gone⟩⟩
abbrev yh(l:List Nat)(s:Sh):Keep:= {acts:=[],S:= {slots:=l,sh:=s,obs:=[]}}
abbrev yk(a:List CA)(l:List Nat)(s:Sh)(o:List (Nat×OSh)):Keep:= {acts:=a,S:= {slots:=l,sh:=s,obs:=o}}
abbrev yr(r:List ResultVar)(s:Sh):RetK:= {acts:=[],res:=r,sh:=s,obs:=[],pins:=[]}
abbrev yj:List Sh→Sh
 | []=>.nil
 |a::l=>.cons a (yj l)
def yx(i:Nat)(k:Keep)(x:k.S.T):Tr Ex:=.l (.exit i (mkSt k.S x))
def yz(k:Keep)(x:k.S.T):Tr Ex:=.l (.ret (mkSt k.S x))
noncomputable def yl{K V R:Type}(step:K→V→Tr (V⊕R))(head:Keep)(exits:List (Nat×Keep))(rets:Keep)(join:K→V→head.S.T)(sk:head.S.T→K)(sv:head.S.T→V)(leaf:K→R→Tr Ex):LD:=
 {head:=head,exits:=exits,rets:=rets,K:=K,V:=V,R:=R,join:=join,sk:=sk,sv:=sv,step:=step,leaf:=leaf}
end Go.Proofs.YteiekijgoifhoaaGreatDoor
