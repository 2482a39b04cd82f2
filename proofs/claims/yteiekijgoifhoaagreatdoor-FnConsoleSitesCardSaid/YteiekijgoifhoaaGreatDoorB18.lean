/-
 Regions whose order is drawn: the trace of the text's order; operations that leave each other alone may change places.
-/
import Derived.Test.YteiekijgoifhoaaGreatDoorB17
import Derived.Orders
namespace Go.Proofs.YteiekijgoifhoaaGreatDoor
open Go.RowKit (Below)
abbrev FS:=(Nat→AV)×(Nat→Option Ob)
def appF(s:FS)(u:LU):FS:=(slA s.1 u,gA s.2 u)
def Want(ops:Nat→Option Oper)(sl:Nat→AV)(o:Oper)(b:Bool):Prop:=
 match o.guard with
 |none=>b=true
 |some (j,want)=>∃dj,(ops j).bind (·.dst)=some dj∧((∃v,sl dj=.dat .bool v∧b=(v==want))∨(sl dj=.skip∧b=false))
structure Step1(E:Env)(tt:Nat→TD)(ops:Nat→Option Oper)(o:Oper)(s:FS)(x:LU×List Nat)(b:Bool):Prop where
 want:Want ops s.1 o b
 run:b=true→∃c,(aluD E tt s.2 (opd s.1) o c).ev=some x.1∧x.2=namesOf s.2 s.1 o∧(isLoad o||closedOK s.2 x.2)=true∧rowIds s.2 x.1.objs=[]
 skip:b=false→x=(⟨o.dst.map fun d=>(d,.skip),none,[]⟩,[])
def foldS(s0:FS)(us:List (LU×List Nat))(sel:Nat→Bool):Nat→FS
 |0=>s0
 |n+1=>match nth us n with
  |some x=>if sel n then appF (foldS s0 us sel n) x.1 else foldS s0 us sel n
  |none=>foldS s0 us sel n
section
variable {E:Env} {tt:Nat→TD} {ops:Nat→Option Oper}
theorem slot_know{s:St}{dj:Nat}{b:Bool}(h:s.slot dj=.dat .bool b):St.slot {s with fr:=(dj,.dat .bool b)::s.fr}=s.slot:=by
 funext t
 simp only [St.slot,look]
 by_cases e:dj=t
 ·subst e;rw [beq_self];simp only [St.slot] at h;rw [h];rfl
 ·rw [beq_ne e]
theorem foldS_cons(s0:FS)(x:LU×List Nat)(us:List (LU×List Nat)):∀n,foldS s0 (x::us) (fun _=>true) (n+1)=foldS (appF s0 x.1) us (fun _=>true) n
 |0=>rfl
 |n+1=>by
  rw [foldS,foldS_cons s0 x us n]
  show _=foldS (appF s0 x.1) us (fun _=>true) (n+1)
  rw [foldS]
  rfl
theorem atrace_spec{ds:Nat→Bool}:∀ {l:List Oper} {s s':St} {acc aa:List (LU×List Nat)},(atrace E tt ops ds l s acc).ev=some (s',aa)→
  ∃us,aa=acc++us∧us.length=l.length∧(∀k o x,nth l k=some o→nth us k=some x→∃b,Step1 E tt ops o (foldS (s.slot,s.g) us (fun _=>true) k) x b)∧(s'.slot,s'.g)=foldS (s.slot,s.g) us (fun _=>true) l.length
 | [],s,s',acc,aa,h=>by
  simp only [atrace,Tr.ev_l,xc,xdb] at h
  obtain⟨rfl,rfl⟩:=h
  exact⟨[],by simp,rfl,fun k o x h=>by simp [nth] at h,rfl⟩
 |o::l,s,s',acc,aa,h=>by
  have done:∀ {s0:St} {x:LU×List Nat} {b:Bool},s0.slot=s.slot→s0.g=s.g→Step1 E tt ops o (s.slot,s.g) x b→(atrace E tt ops ds l (s0.app x.1) (acc++ [x])).ev=some (s',aa)→
    ∃us,aa=acc++us∧us.length=(o::l).length∧(∀k o' x,nth (o::l) k=some o'→nth us k=some x→∃b,Step1 E tt ops o' (foldS (s.slot,s.g) us (fun _=>true) k) x b)∧(s'.slot,s'.g)=foldS (s.slot,s.g) us (fun _=>true) (o::l).length:=by
   intro s0 x b e1 e2 ae h
   obtain⟨us,h1,h2,h3,h4⟩:=atrace_spec h
   have e:((s0.app x.1).slot,(s0.app x.1).g)=appF (s.slot,s.g) x.1:=by rw [slot_app,g_app,e1,e2];rfl
   rw [e] at h3 h4
   refine⟨x::us,by simp [h1],by simp [h2],fun k o' x' hk hx=>?_,?_⟩
   ·cases k with
    |zero=>
     simp only [nth,xc] at hk hx
     subst hk;subst hx
     exact⟨b,ae⟩
    |succ k=>
     rw [foldS_cons]
     exact h3 k o' x' hk hx
   ·rw [xad,foldS_cons]
    exact h4
  have run:∀ {s0:St},s0.slot=s.slot→s0.ob=s.ob→Want ops s.slot o true→((aluD E tt s0.g (opd s0.slot) o (ds acc.length)).bind fun u=>match(isLoad o||closedOK s0.g (namesOf s0.g s0.slot o))&&(rowIds s0.g u.objs).isEmpty with
     |true=>atrace E tt ops ds l (s0.app u) (acc++ [(u,namesOf s0.g s0.slot o)])
     |false=>.f).ev=some (s',aa)→_:=fun{s0} e1 e2 hw h=>by
   have ad:s0.g=s.g:=by unfold St.g;rw [e2]
   rw [Tr.ev_bind] at h
   cases hu:(aluD E tt s0.g (opd s0.slot) o (ds acc.length)).ev with
   |none=>rw [hu] at h;cases h
   |some u=>
    rw [hu] at h
    simp only [xf] at h
    split at h
    next hc=>
     rw [e1,ad] at hc hu h
     simp only [xg,List.isEmpty_iff] at hc
     exact done (x:=(u,namesOf s.g s.slot o)) (b:=true) e1 ad ⟨hw,fun _=>⟨_,hu,rfl,hc.1,hc.2⟩,fun e=>(by cases e)⟩ h
    next=>cases h
  have skip:∀ {s0:St},s0.slot=s.slot→s0.ob=s.ob→Want ops s.slot o false→(atrace E tt ops ds l (s0.app ⟨o.dst.map fun d=>(d,.skip),none,[]⟩) (acc++ [(⟨o.dst.map fun d=>(d,.skip),none,[]⟩,[])])).ev=some (s',aa)→_:=fun{s0} e1 e2 hw h=>
   done (x:=(⟨o.dst.map fun d=>(d,.skip),none,[]⟩,[])) (b:=false) e1 (by unfold St.g;rw [e2]) ⟨hw,fun e=>(by cases e),fun _=>rfl⟩ h
  simp only [atrace] at h
  cases hg:o.guard with
  |none=>rw [hg] at h;exact run rfl rfl (by simp [Want,hg]) h
  |some gd=>
   obtain⟨j,want⟩:=gd
   rw [hg] at h
   simp only at h
   split at h
   next dj ab=>
    split at h
    next v hv=>
     cases want<;>cases v
     ·simp only [Tr.ev_t,cond_false] at h
      exact run (slot_know hv) rfl (by simp only [Want,hg];exact⟨dj,ab,.inl ⟨false,hv,rfl⟩⟩) h
     ·simp only [Tr.ev_t,cond_true] at h
      exact skip (slot_know hv) rfl (by simp only [Want,hg];exact⟨dj,ab,.inl ⟨true,hv,rfl⟩⟩) h
     ·simp only [Tr.ev_t,cond_false] at h
      exact skip (slot_know hv) rfl (by simp only [Want,hg];exact⟨dj,ab,.inl ⟨false,hv,rfl⟩⟩) h
     ·simp only [Tr.ev_t,cond_true] at h
      exact run (slot_know hv) rfl (by simp only [Want,hg];exact⟨dj,ab,.inl ⟨true,hv,rfl⟩⟩) h
    next hv=>exact skip rfl rfl (by simp only [Want,hg];exact⟨dj,ab,.inr ⟨hv,trivial⟩⟩) h
    next=>cases h
   next=>cases h
theorem has_iff{l:List Nat}{n:Nat}:has l n=true↔n∈l:=by
 simp only [has,xbi]
 exact⟨fun⟨x,hx,e⟩=>by rw [xe e];exact hx,fun h=>⟨n,h,xea n⟩⟩
theorem disj_iff{l m:List Nat}:disj l m=true↔∀x∈l,x∉m:=by
 simp only [disj,xp,xat]
 constructor
 ·intro h x hx hm
  have:=h x hx
  rw [has_iff.2 hm] at this
  cases this
 ·intro h x hx
  cases hh:has m x with
  |true=>exact absurd (has_iff.1 hh) (h x hx)
  |false=>rfl
theorem slA_out{sl:Nat→AV}{u:LU}{t:Nat}(h:t∉u.touch):slA sl u t=sl t:=by
 obtain⟨d,und,objs⟩:=u
 unfold slA
 cases d with
 |none=>rfl
 |some p=>
  simp only [LU.touch,xam,not_or] at h
  simp only [if_neg (xcc h.1)]
  cases und with
  |none=>rfl
  |some b=>
   have h2:b≠t:=fun e=>h.2 (by simp [e])
   simp only [if_neg h2]
theorem slA_in{sl aa:Nat→AV}{u:LU}{t:Nat}(h:sl t=aa t):slA sl u t=slA aa u t:=by
 unfold slA
 cases u.d with
 |none=>exact h
 |some p=>
  simp only
  split
  ·rfl
  ·cases u.und with
   |none=>exact h
   |some b=>
    simp only
    split
    ·rfl
    ·exact h
theorem look_ids{objs:List (Nat×Ob)}{i:Nat}:(∃x,look objs i=some x)↔i∈objs.map (·.1):=by
 induction objs with
 |nil=>simp [look]
 |cons p r ih=>
  obtain⟨k,x⟩:=p
  simp only [look,xbm,xam]
  by_cases e:k=i
  ·subst e;simp
  ·rw [beq_ne e]
   simp only [ih]
   exact⟨.inr,fun h=>h.resolve_left fun e'=>e e'.symm⟩
theorem gA_out{g:Nat→Option Ob}{u:LU}{i:Nat}(h:i∉u.ids):gA g u i=g i:=by
 unfold gA
 cases hl:look u.objs i with
 |none=>rfl
 |some x=>exact absurd (look_ids.1 ⟨x,hl⟩) h
theorem gA_in{g g':Nat→Option Ob}{u:LU}{i:Nat}(h:g i=g' i):gA g u i=gA g' u i:=by
 unfold gA
 cases look u.objs i with
 |none=>exact h
 |some x=>rfl
theorem appF_comm{s:FS}{u v:LU}(h1:∀t∈u.touch,t∉v.touch)(h2:∀i∈u.ids,i∉v.ids):appF (appF s u) v=appF (appF s v) u:=by
 refine Prod.ext ?_ ?_
 ·funext t
  show slA (slA s.1 u) v t=slA (slA s.1 v) u t
  by_cases hu:t∈u.touch
  ·have hv:=h1 t hu
   rw [slA_out hv]
   exact slA_in (slA_out hv).symm
  ·rw [slA_out (sl:=slA s.1 v) hu]
   exact slA_in (slA_out hu)
 ·funext i
  show gA (gA s.2 u) v i=gA (gA s.2 v) u i
  by_cases hu:i∈u.ids
  ·have hv:=h2 i hu
   rw [gA_out hv]
   exact gA_in (gA_out hv).symm
  ·rw [gA_out (g:=gA s.2 v) hu]
   exact gA_in (gA_out hu)
section
variable {s0:FS} {us:List (LU×List Nat)} {sel sel':Nat→Bool}
theorem foldS_congr{n:Nat}(h:∀m,m<n→sel m=sel' m):foldS s0 us sel n=foldS s0 us sel' n:=by
 induction n with
 |zero=>rfl
 |succ n ih=>
  have:=ih fun m hm=>h m (by omega)
  simp only [foldS,this,h n (by omega)]
theorem foldS_slot{T:Nat→Prop}{n:Nat}(h:∀m x,m<n→nth us m=some x→sel m≠sel' m→∀t,T t→t∉x.1.touch):∀t,T t→(foldS s0 us sel n).1 t=(foldS s0 us sel' n).1 t:=by
 induction n with
 |zero=>intro t _;rfl
 |succ n ih=>
  intro t ht
  have hi:=ih (fun m x hm=>h m x (by omega)) t ht
  simp only [foldS]
  cases hx:nth us n with
  |none=>exact hi
  |some x=>
   simp only
   by_cases e:sel n=sel' n
   ·rw [e]
    split
    ·exact slA_in hi
    ·exact hi
   ·have aa:=h n x (by omega) hx e t ht
    cases h1:sel n<;>cases h2:sel' n<;>simp only [if_true,if_false,xaf]
    ·exact hi
    ·exact hi.trans (slA_out aa).symm
    ·exact(slA_out aa).trans hi
    ·exact slA_in hi
theorem foldS_obj{T:Nat→Prop}{n:Nat}(h:∀m x,m<n→nth us m=some x→sel m≠sel' m→∀t,T t→t∉x.1.ids):∀t,T t→(foldS s0 us sel n).2 t=(foldS s0 us sel' n).2 t:=by
 induction n with
 |zero=>intro t _;rfl
 |succ n ih=>
  intro t ht
  have hi:=ih (fun m x hm=>h m x (by omega)) t ht
  simp only [foldS]
  cases hx:nth us n with
  |none=>exact hi
  |some x=>
   simp only
   by_cases e:sel n=sel' n
   ·rw [e]
    split
    ·exact gA_in hi
    ·exact hi
   ·have aa:=h n x (by omega) hx e t ht
    cases h1:sel n<;>cases h2:sel' n<;>simp only [if_true,if_false,xaf]
    ·exact hi
    ·exact hi.trans (gA_out aa).symm
    ·exact(gA_out aa).trans hi
    ·exact gA_in hi
theorem foldS_stay{i:Nat}:∀ {n:Nat},i≤n→(∀m x,i≤m→m<n→nth us m=some x→sel m=false)→foldS s0 us sel n=foldS s0 us sel i
 |0,hi,_=>by rw [Nat.le_zero.1 hi]
 |n+1,hi,h=>by
  by_cases e:i=n+1
  ·rw [e]
  ·have:=foldS_stay (n:=n) (by omega) fun m x h1 h2=>h m x h1 (by omega)
   simp only [foldS]
   cases hx:nth us n with
   |none=>exact this
   |some x=>simp only [h n x (by omega) (by omega) hx,xaf,if_false];exact this
theorem foldS_add{i:Nat}{x:LU×List Nat}(hx:nth us i=some x)(hi:sel i=false):∀ {n:Nat},i<n→(∀m y,i<m→m<n→nth us m=some y→sel m=true→(∀t∈x.1.touch,t∉y.1.touch)∧∀k∈x.1.ids,k∉y.1.ids)→
  foldS s0 us (fun m=>sel m||Nat.beq i m) n=appF (foldS s0 us sel n) x.1
 |0,h,_=>absurd h (xee _)
 |n+1,h,hc=>by
  by_cases e:i=n
  ·subst e
   have e1:foldS s0 us (fun m=>sel m||Nat.beq i m) i=foldS s0 us sel i:=foldS_congr fun m hm=>by
    rw [beq_ne (show i≠m by omega),xfq]
   simp only [foldS,hx,e1,hi,beq_self,Bool.or_true,if_true,xaf,if_false]
  ·have ih:=foldS_add hx hi (n:=n) (by omega) fun m y h1 h2=>hc m y h1 (by omega)
   simp only [foldS,ih,beq_ne e,xfq]
   cases hy:nth us n with
   |none=>rfl
   |some y=>
    simp only
    split
    next hs=>
     obtain⟨h1,h2⟩:=hc n y (by omega) (by omega) hy hs
     exact(appF_comm h1 h2)
    next=>rfl
end
end
end Go.Proofs.YteiekijgoifhoaaGreatDoor
