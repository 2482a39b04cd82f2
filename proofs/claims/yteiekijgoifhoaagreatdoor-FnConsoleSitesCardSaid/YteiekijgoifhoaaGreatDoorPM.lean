/-
 Plain rules: evaluation of trees, rounds that count.
-/
import Derived.Test.YteiekijgoifhoaaGreatDoorB30
import Derived.Test.YteiekijgoifhoaaGreatDoorC1
namespace Go.Proofs.YteiekijgoifhoaaGreatDoor
theorem ev_s_inl{A B L:Type}(a:A)(k:A→Tr L)(k':B→Tr L):(Tr.s A B (.inl a) k k').ev=(k a).ev:=rfl
theorem ev_s_inr{A B L:Type}(a:B)(k:A→Tr L)(k':B→Tr L):(Tr.s A B (.inr a) k k').ev=(k' a).ev:=rfl
theorem inR_cast(i n:Nat):inR (i:Int) n=decide (i<n):=by
 unfold inR;simp
theorem inR_int{i:Int}{n:Nat}(h0:0≤i)(h1:i<n):inR i n=true:=by unfold inR;simp;omega
theorem getD_mem{α:Type}{l:List α}{i:Nat}{d:α}(h:i<l.length):l.getD i d∈l:=by
 rw [xd,xh h]
 exact xet h
theorem EV:(∀ {L:Type} (b:Bool) (x y:Tr L),(Tr.t b x y).ev=bif b then x.ev else y.ev)∧
  (∀ {L:Type} (R:Type) (x:Option R) (k:R→Tr L),(Tr.c R x k).ev=x.bind fun r=>(k r).ev)∧
  (∀ {L:Type} (b:Bool) (x:Tr L),(Tr.g b x).ev=bif b then x.ev else none)∧
  (∀ {L:Type} (x:L),(Tr.l x).ev=some x)∧
  (∀ {A B L:Type} (a:A) (k:A→Tr L) (k':B→Tr L),(Tr.s A B (.inl a) k k').ev=(k a).ev)∧
  (∀ {A B L:Type} (a:B) (k:A→Tr L) (k':B→Tr L),(Tr.s A B (.inr a) k k').ev=(k' a).ev)∧
  (∀i n:Nat,inR (i:Int) n=decide (i<n))∧
  (∀ {i:Int} {n:Nat},0≤i→i<n→inR i n=true)∧
  (∀ {n m:Nat},((n:Int)<(m:Int))↔n<m)∧
  (∀h:Decidable True,@decide True h=true)∧
  (∀h:Decidable False,@decide False h=false)∧
  (∀ {α:Type} (a b:α),(bif true then a else b)=a)∧
  (∀ {α:Type} (a b:α),(bif false then a else b)=b)∧
  (∀ {α β:Type} (a:α) (f:α→Option β),(some a).bind f=f a)∧
  (∀n:Nat,((n:Int)).toNat=n)∧
  (∀ {n:Int},-9223372036854775808≤n→n<9223372036854775808→IntKind.wrap .i64 n=n)∧
  ((!true)=false)∧((!false)=true)∧(∀b:Bool,(true&&b)=b)∧(∀b:Bool,(b&&true)=b)∧(∀b:Bool,(false&&b)=false)∧(∀b:Bool,(b&&false)=false)∧
  (∀ {α:Type} (p:Prop) (h:Decidable p) (a b:α),(bif @decide p h then a else b)=if p then a else b)∧
  (∀ {α:Type} (h:Decidable True) (a b:α),(@ite α True h a b)=a)∧
  (∀ {α:Type} (h:Decidable False) (a b:α),(@ite α False h a b)=b):=by
 refine⟨fun b x y=>rfl,fun R x k=>rfl,fun b x=>rfl,fun x=>rfl,fun a k k'=>rfl,fun a k k'=>rfl,inR_cast,inR_int,Int.ofNat_lt,fun h=>by simp,fun h=>by simp,fun a b=>rfl,fun a b=>rfl,fun a f=>rfl,fun n=>rfl,wrap64,
  rfl,rfl,fun b=>by simp,fun b=>by simp,fun b=>by simp,fun b=>by simp,fun p h a b=>?_,fun h a b=>by simp,fun h a b=>by simp⟩
 by_cases hp:p<;>simp [hp]
theorem foldl_range_succ{S:Type}(g:S→Nat→S)(s:S)(n:Nat):(List.range (n+1)).foldl g s=g ((List.range n).foldl g s) n:=by
 rw [xef,xdx];rfl
theorem iter_fold{V S R:Type}{f:V→Option (V⊕R)}{n:Nat}(mk:Nat→S→V)(I:Nat→S→Prop)(g:S→Nat→S)(fin:S→R){s0:S}(h0:I 0 s0)
  (aa:∀i s,i<n→I i s→f (mk i s)=some (.inl (mk (i+1) (g s i)))∧I (i+1) (g s i))
  (ab:∀s,I n s→f (mk n s)=some (.inr (fin s))):
  iter f (mk 0 s0)=some (fin ((List.range n).foldl g s0))∧I n ((List.range n).foldl g s0):=by
 have hI:∀i,i≤n→I i ((List.range i).foldl g s0):=by
  intro i
  induction i with
  |zero=>intro _;exact h0
  |succ i ih=>intro hi;rw [foldl_range_succ];exact(aa i _ (by omega) (ih (by omega))).2
 have key:∀k i,i+k=n→iter f (mk i ((List.range i).foldl g s0))=some (fin ((List.range n).foldl g s0)):=by
  intro k
  induction k with
  |zero=>
   intro i hi
   have:i=n:=by omega
   subst this
   rw [iter_eq,ab _ (hI i (xm _))]
  |succ k ih=>
   intro i hi
   rw [iter_eq,(aa i _ (by omega) (hI i (by omega))).1]
   have:=ih (i+1) (by omega)
   rw [foldl_range_succ] at this
   exact this
 exact⟨key n 0 (by omega),hI n (xm _)⟩
theorem foldl_getD{α S:Type}(l:List α)(d:α)(g:S→α→S)(s:S):(List.range l.length).foldl (fun s i=>g s (l.getD i d)) s=l.foldl g s:=by
 induction l generalizing s with
 |nil=>rfl
 |cons x l ih=>
  rw [xad,xen,xbk,xgc,xbk]
  exact ih _
theorem iter_foldl{V S R α:Type}{f:V→Option (V⊕R)}(l:List α)(d:α)(mk:Nat→S→V)(I:Nat→S→Prop)(g:S→α→S)(fin:S→R){s0:S}(h0:I 0 s0)
  (aa:∀i s,i<l.length→I i s→f (mk i s)=some (.inl (mk (i+1) (g s (l.getD i d))))∧I (i+1) (g s (l.getD i d)))
  (ab:∀s,I l.length s→f (mk l.length s)=some (.inr (fin s))):
  iter f (mk 0 s0)=some (fin (l.foldl g s0))∧I l.length (l.foldl g s0):=by
 have:=iter_fold mk I (fun s i=>g s (l.getD i d)) fin h0 aa ab
 rw [foldl_getD] at this
 exact this
theorem iter_inv{V S R:Type}{f:V→Option (V⊕R)}{n:Nat}(mk:Nat→S→V)(I:Nat→S→Prop)(Q:R→Prop){s0:S}(h0:I 0 s0)
  (aa:∀i s,i<n→I i s→(∃s',f (mk i s)=some (.inl (mk (i+1) s'))∧I (i+1) s')∨∃r,f (mk i s)=some (.inr r)∧Q r)
  (ab:∀s,I n s→∃r,f (mk n s)=some (.inr r)∧Q r):∃r,iter f (mk 0 s0)=some r∧Q r:=by
 have key:∀k i s,i+k=n→I i s→∃r,iter f (mk i s)=some r∧Q r:=by
  intro k
  induction k with
  |zero=>
   intro i s hi hI
   have:i=n:=by omega
   subst this
   obtain⟨r,h1,h2⟩:=ab s hI
   exact⟨r,by rw [iter_eq,h1],h2⟩
  |succ k ih=>
   intro i s hi hI
   rcases aa i s (by omega) hI with⟨s',h1,h2⟩|⟨r,h1,h2⟩
   ·obtain⟨r,h3,h4⟩:=ih (i+1) s' (by omega) h2
    exact⟨r,by rw [iter_eq,h1];exact h3,h4⟩
   ·exact⟨r,by rw [iter_eq,h1],h2⟩
 exact key n 0 s0 (by omega) h0
theorem iter_allR{V R:Type}{f:V→Option (V⊕R)}{n:Nat}(mk:Nat→V)(p:Nat→Bool)(yes:R)(no:R)
  (h:∀i:Nat,i<n→(∀j,j<i→p j=true)→f (mk i)=some (bif p i then .inl (mk (i+1)) else .inr no)) (aa:f (mk n)=some (.inr yes)):
  iter f (mk 0)=some (bif (List.range n).all p then yes else no):=by
 have key:∀ (k i:Nat),i+k=n→(∀j,j<i→p j=true)→iter f (mk i)=some (bif (List.range' i k).all p then yes else no):=by
  intro k
  induction k with
  |zero=>
   intro i hk _
   have:i=n:=by omega
   subst this
   rw [iter_eq,aa]
   rfl
  |succ k ih=>
   intro i hk hj
   rw [iter_eq,h i (by omega) hj,List.range'_succ,xcu]
   cases hs:p i with
   |false=>rfl
   |true=>
    simp only [cond_true,xcv]
    exact ih (i+1) (by omega) fun j ab=>by
     by_cases e:j=i
     ·rw [e];exact hs
     ·exact hj j (by omega)
 have:=key n 0 (by omega) fun j hj=>absurd hj (xee _)
 rw [List.range_eq_range']
 exact this
end Go.Proofs.YteiekijgoifhoaaGreatDoor
/-
 Plain laws: what the laws' own helpers compute: sizes, copies, comparisons.
-/
namespace Go.Proofs.YteiekijgoifhoaaGreatDoor
def Low1(l:List Int):Prop:=(l.length:Int)≤1048576
def Low2(x:List (List Int)):Prop:=(x.length:Int)≤1048576∧∀r∈x,Low1 r
theorem int_ne(a b:Nat):(((a:Nat):Int) != ((b:Nat):Int))= !(decide (a=b)):=by
 by_cases h:a=b
 ·subst h;simp
 ·have:((a:Nat):Int)≠((b:Nat):Int):=by omega
  simp [h,bne,this]
theorem int_eq(a b:Nat):(((a:Nat):Int)==((b:Nat):Int))=decide (a=b):=by
 by_cases h:a=b
 ·subst h;simp
 ·have:((a:Nat):Int)≠((b:Nat):Int):=by omega
  simp [h,this]
end Go.Proofs.YteiekijgoifhoaaGreatDoor
/-
 Plain laws: small functions of both sides; grounds.
-/
namespace Go.Proofs.YteiekijgoifhoaaGreatDoor
theorem all_range{α:Type}(l:List α)(d:α)(p:α→Bool):((List.range l.length).all fun i=>p (l.getD i d))=l.all p:=by
 induction l with
 |nil=>rfl
 |cons x l ih=>
  rw [xad,xen,xcu,List.all_map,xcu]
  exact congrArg (p x&& ·) ih
def isIn(n a b:Int):Bool:=decide (a≤n)&&decide (n≤b)
def allIn(l:List Int)(a b:Int):Bool:=l.all fun x=>isIn x a b
theorem isIn_iff{n a b:Int}:isIn n a b=true↔a≤n∧n≤b:=by simp [isIn]
theorem allIn_iff{l:List Int}{a b:Int}:allIn l a b=true↔∀x∈l,a≤x∧x≤b:=by simp [allIn,isIn]
theorem allIn_getD{l:List Int}{a b:Int}(h:allIn l a b=true){i:Nat}(hi:i<l.length):a≤l.getD i 0∧l.getD i 0≤b:=allIn_iff.1 h _ (getD_mem hi)
theorem l1In_eq(n a b:Int):wbh n a b=some (isIn n a b):=by
 unfold wbh wrh isIn
 simp only [Tr.ev_t,Tr.ev_l]
 cases decide (a≤n)<;>rfl
theorem between_eq(n a b:Int):wdi n a b=some (isIn n a b):=by
 unfold wdi wmy isIn
 simp only [Tr.ev_t,Tr.ev_l]
 cases decide (a≤n)<;>rfl
theorem l1Least_eq(a b:Int):wgn a b=some (min a b):=by
 unfold wgn wrd
 simp (disch:=omega) only [EV]
 by_cases h:a<b
 ·rw [if_pos h,Int.min_eq_left (by omega)]
 ·rw [if_neg h,xfu (by omega)]
theorem l1Most_eq(a b:Int):wge a b=some (max a b):=by
 unfold wge wqq
 simp (disch:=omega) only [EV]
 by_cases h:b<a
 ·rw [if_pos h,Int.max_eq_left (by omega)]
 ·rw [if_neg h,xfv (by omega)]
theorem l2Row_eq{l:List Int}(hl:Low1 l)(n b:Int):wlt l n b=some (allIn l 0 b&&((l.length:Int)==n)):=by
 unfold Low1 at hl
 unfold wlt wri
 have hs:wgt (l,(n,b)) 0=_:=iter_allR (f:=fun v=>(wbt (l,(n,b)) v).ev) (n:=l.length) (mk:=fun i=>(i:Int)) (p:=fun i=>isIn (l.getD i 0) 0 b) (yes:=.inl ()) (no:=.inr ()) (fun i hi _=>by
  simp (disch:=omega) only [EV,wbt,hi,l1In_eq]
  cases isIn (l.getD i 0) 0 b<;>rfl) (by simp (disch:=omega) only [EV,wbt,xo])
 rw [all_range l 0 (fun x=>isIn x 0 b)] at hs
 simp (disch:=omega) only [EV,hs]
 unfold allIn
 cases l.all fun x=>isIn x 0 b<;>rfl
theorem iter_forE{V R α:Type}{f:V→Option (V⊕R)}{l:List α}(d:α)(q:α→Bool)(mk:Nat→V)(yes:Nat→R)(no:R)
  (h:∀i:Nat,i<l.length→f (mk i)=some (bif q (l.getD i d) then .inr (yes i) else .inl (mk (i+1)))) (aa:f (mk l.length)=some (.inr no)):
  iter f (mk 0)=some ((l.findIdx? q).elim no yes):=by
 have key:∀ (k i:Nat),i+k=l.length→iter f (mk i)=some (((l.drop i).findIdx? q).elim no (fun j=>yes (j+i))):=by
  intro k
  induction k with
  |zero=>
   intro i hk
   have:i=l.length:=by omega
   subst this
   rw [iter_eq,aa]
   simp
  |succ k ih=>
   intro i hk
   rw [iter_eq,h i (by omega),xcb (by omega),xfj]
   have e:l.getD i d=l[i]:=by rw [xd,xh (by omega)];rfl
   rw [e]
   cases q l[i] with
   |true=>simp
   |false=>
    simp only [cond_false,xaf,if_false]
    rw [ih (i+1) (by omega)]
    cases (l.drop (i+1)).findIdx? q with
    |none=>rfl
    |some j=>simp [Nat.add_comm,Nat.add_left_comm]
 have:=key l.length 0 (by omega)
 simpa using this
theorem findIdx_any{α:Type}{l:List α}{q:α→Bool}:l.any q=true↔(l.findIdx? q).isSome=true:=by
 simp [List.findIdx?_isSome]
theorem indexFunc_int{l:List (Int)}(hl:(l.length:Int)<9223372036854775807){p:HL [.int .i64]→Option Bool}{q:Int→Bool}(hp:∀n∈l,p (n,())=some (q n)):
  wty l p=some ((l.findIdx? q).elim (-1) (fun i=>(i:Int))):=by
 unfold wty wtx
 have hs:whx (l,(p,((l.length:Nat):Int))) 0=_:=iter_forE (f:=fun v=>(wcf (l,(p,((l.length:Nat):Int))) v).ev) (l:=l) 0 q (mk:=fun i=>(i:Int)) (yes:=fun i=>.inr (i:Int)) (no:=.inl ()) (fun i hi=>by
  simp (disch:=omega) only [EV,wcf,hi,hp _ (getD_mem hi)]
  cases q (l.getD i 0)<;>rfl) (by simp (disch:=omega) only [EV,wcf,xo])
 simp (disch:=omega) only [EV,hs]
 cases l.findIdx? q<;>rfl
theorem containsFunc_int{l:List (Int)}(hl:(l.length:Int)<9223372036854775807){p:HL [.int .i64]→Option Bool}{q:Int→Bool}(hp:∀n∈l,p (n,())=some (q n)):
  wna l p=some (l.any q):=by
 unfold wna wtz
 simp (disch:=omega) only [EV,indexFunc_int hl hp]
 congr 1
 rw [xeg,findIdx_any]
 cases l.findIdx? q<;>simp
theorem indexFunc_Sint{l:List (List Int)}(hl:(l.length:Int)<9223372036854775807){p:HL [.slice (.int .i64)]→Option Bool}{q:List Int→Bool}(hp:∀n∈l,p (n,())=some (q n)):
  wne l p=some ((l.findIdx? q).elim (-1) (fun i=>(i:Int))):=by
 unfold wne wuc
 have hs:whz (l,(p,((l.length:Nat):Int))) 0=_:=iter_forE (f:=fun v=>(wcg (l,(p,((l.length:Nat):Int))) v).ev) (l:=l) [] q (mk:=fun i=>(i:Int)) (yes:=fun i=>.inr (i:Int)) (no:=.inl ()) (fun i hi=>by
  simp (disch:=omega) only [EV,wcg,hi,hp _ (getD_mem hi)]
  cases q (l.getD i [])<;>rfl) (by simp (disch:=omega) only [EV,wcg,xo])
 simp (disch:=omega) only [EV,hs]
 cases l.findIdx? q<;>rfl
theorem containsFunc_Sint{l:List (List Int)}(hl:(l.length:Int)<9223372036854775807){p:HL [.slice (.int .i64)]→Option Bool}{q:List Int→Bool}(hp:∀n∈l,p (n,())=some (q n)):
  wue l p=some (l.any q):=by
 unfold wue wud
 simp (disch:=omega) only [EV,indexFunc_Sint hl hp]
 congr 1
 rw [xeg,findIdx_any]
 cases l.findIdx? q<;>simp
theorem indexFunc_string{l:List (List UInt8)}(hl:(l.length:Int)<9223372036854775807){p:HL [.str]→Option Bool}{q:List UInt8→Bool}(hp:∀n∈l,p (n,())=some (q n)):
  wzg l p=some ((l.findIdx? q).elim (-1) (fun i=>(i:Int))):=by
 unfold wzg wzf
 have hs:wjv (l,(p,((l.length:Nat):Int))) 0=_:=iter_forE (f:=fun v=>(wde (l,(p,((l.length:Nat):Int))) v).ev) (l:=l) [] q (mk:=fun i=>(i:Int)) (yes:=fun i=>.inr (i:Int)) (no:=.inl ()) (fun i hi=>by
  simp (disch:=omega) only [EV,wde,hi,hp _ (getD_mem hi)]
  cases q (l.getD i [])<;>rfl) (by simp (disch:=omega) only [EV,wde,xo])
 simp (disch:=omega) only [EV,hs]
 cases l.findIdx? q<;>rfl
theorem containsFunc_string{l:List (List UInt8)}(hl:(l.length:Int)<9223372036854775807){p:HL [.str]→Option Bool}{q:List UInt8→Bool}(hp:∀n∈l,p (n,())=some (q n)):
  wzi l p=some (l.any q):=by
 unfold wzi wzh
 simp (disch:=omega) only [EV,indexFunc_string hl hp]
 congr 1
 rw [xeg,findIdx_any]
 cases l.findIdx? q<;>simp
theorem areBetween_eq{l:List Int}(hl:Low1 l)(a b:Int):wnc l a b=some (allIn l a b):=by
 unfold Low1 at hl
 unfold wnc wub
 rw [Tr.ev_c,containsFunc_int (by omega) (q:=fun n=> !(isIn n a b)) fun n _=>by
  unfold waae wua
  simp (disch:=omega) only [EV,between_eq]]
 simp (disch:=omega) only [EV]
 unfold allIn
 rw [xfw]
 simp
end Go.Proofs.YteiekijgoifhoaaGreatDoor
/-
 Plain laws: marks that are written into a result, and read again.
-/
namespace Go.Proofs.YteiekijgoifhoaaGreatDoor
theorem take_snoc{α:Type}{l:List α}{i:Nat}(d:α)(h:i<l.length):l.take (i+1)=l.take i++ [l.getD i d]:=by
 rw [xbo h,xd,xh h]
 rfl
end Go.Proofs.YteiekijgoifhoaaGreatDoor
/-
 Plain laws: the first one of the least ones.
-/
namespace Go.Proofs.YteiekijgoifhoaaGreatDoor
def lstMin:List Int→Int
 | []=>0
 |x::l=>l.foldl min x
theorem foldl_min_spec:∀ (l:List Int) (a:Int),(l.foldl min a=a∨l.foldl min a∈l)∧l.foldl min a≤a∧∀x∈l,l.foldl min a≤x
 | [],a=>⟨.inl rfl,xby _,fun x h=>by cases h⟩
 |y::l,a=>by
  obtain⟨h1,h2,h3⟩:=foldl_min_spec l (min a y)
  simp only [xbk]
  refine⟨?_,by omega,fun x hx=>?_⟩
  ·rcases h1 with h1|h1
   ·rw [h1]
    rcases Int.le_total a y with h|h
    ·left;omega
    ·right;rw [xfu h];exact xx
   ·exact .inr (xu _ h1)
  ·rcases xam.1 hx with rfl|hx
   ·omega
   ·exact h3 x hx
theorem lstMin_spec{l:List Int}(h:l≠ []):lstMin l∈l∧∀x∈l,lstMin l≤x:=by
 cases l with
 |nil=>exact absurd rfl h
 |cons a l=>
  obtain⟨h1,h2,h3⟩:=foldl_min_spec l a
  refine⟨?_,fun x hx=>?_⟩
  ·rcases h1 with h1|h1
   ·show l.foldl min a∈a::l
    rw [h1];exact xx
   ·exact xu _ h1
  ·rcases xam.1 hx with rfl|hx
   ·exact h2
   ·exact h3 x hx
def firstMin(g:List Int→Int)(l:List (List Int)):List Int:=(l.find? fun s=>decide (g s=lstMin (l.map g))).getD []
theorem firstMin_spec{g:List Int→Int}{l:List (List Int)}(h:l≠ []):firstMin g l∈l∧g (firstMin g l)=lstMin (l.map g):=by
 obtain⟨h1,_⟩:=lstMin_spec (l:=l.map g) (by simpa using h)
 obtain⟨s,hs,e⟩:=xae.1 h1
 unfold firstMin
 cases hf:l.find? fun s=>decide (g s=lstMin (l.map g)) with
 |none=>
  have:=xfk.1 hf s hs
  simp at this
  exact absurd e this
 |some t=>
  have:=List.find?_some hf
  exact⟨xfn hf,by simpa using this⟩
theorem lstMin_snoc{l:List Int}(h:l≠ [])(x:Int):lstMin (l++ [x])=min (lstMin l) x:=by
 cases l with
 |nil=>exact absurd rfl h
 |cons a l=>simp [lstMin,xdx]
theorem firstMin_snoc{g:List Int→Int}{l:List (List Int)}(h:l≠ [])(s:List Int):firstMin g (l++ [s])=if g s<g (firstMin g l) then s else firstMin g l:=by
 obtain⟨h1,h2⟩:=firstMin_spec (g:=g) h
 have hm:l.map g≠ []:=by simpa using h
 have hle:=(lstMin_spec hm).2
 rw [h2]
 unfold firstMin
 rw [xez,List.map_singleton,lstMin_snoc hm,xeo]
 by_cases hs:g s<lstMin (l.map g)
 ·rw [if_pos hs,xfu (by omega)]
  have:l.find? (fun t=>decide (g t=g s))=none:=xfk.2 fun t ht=>by
   have:=hle (g t) (xcm ht)
   simp only [decide_eq_true_eq]
   omega
  rw [this]
  simp
 ·rw [if_neg hs,Int.min_eq_left (by omega)]
  cases hf:l.find? (fun t=>decide (g t=lstMin (l.map g))) with
  |some t=>rfl
  |none=>
   have:=xfk.1 hf _ h1
   rw [h2] at this
   simp at this
theorem firstMin_one{g:List Int→Int}(s:List Int):firstMin g [s]=s:=by
 unfold firstMin
 simp [lstMin]
end Go.Proofs.YteiekijgoifhoaaGreatDoor
