/-
 What an operation does hangs on what it looks at alone.
-/
import Derived.Test.YteiekijgoifhoaaGreatDoorB16
namespace Go.Proofs.YteiekijgoifhoaaGreatDoor
open Go.RowKit (Below)
structure Dep(D:Nat→Prop)(g g':Nat→Option Ob):Prop where
 ag:∀o,D o→g' o=g o
 cl:∀o x,D o→g o=some x→∀n∈nmOb x,D n
section
variable {P:Program} {tt:Nat→TD} {g g':Nat→Option Ob} {E:Env} {o:Oper} {D:Nat→Prop}
theorem map_congr_ops{f f':Operand→AV}{as:Array Operand}(h:∀x∈as,f x=f' x):as.toList.map f=as.toList.map f':=
 xcn fun x hx=>h x (by simpa using hx)
theorem aq_congr{f f':Operand→AV}(h:∀x∈o.op.operands,f x=f' x):aq tt g f o=aq tt g f' o:=by
 have hp:∀ {ps:Array (Nat×Operand)},(∀x∈(ps.toList.map (·.2)).toArray,f x=f' x)→(ps.toList.map fun p=>(p.1,f p.2))=(ps.toList.map fun p=>(p.1,f' p.2)):=fun{ps} hh=>
  xcn fun p hp=>by rw [hh p.2 (by simpa using⟨p.1,by simpa using hp⟩)]
 unfold aq
 split
 case h_1 x _ ho _=>rw [ho] at h;simp only [Op.operands] at h;rw [h x (by simp)]
 case h_2 x _ ho _=>rw [ho] at h;simp only [Op.operands] at h;rw [h x (by simp)]
 case h_3 c a b _ ho _=>rw [ho] at h;simp only [Op.operands] at h;rw [h c (by simp),h a (by simp),h b (by simp)]
 case h_4 op ty x y _ _ ho _=>rw [ho] at h;simp only [Op.operands] at h;rw [h x (by simp),h y (by simp)]
 case h_5 op _ x _ ho _=>rw [ho] at h;simp only [Op.operands] at h;rw [h x (by simp)]
 case h_6 s d x _ ho _=>rw [ho] at h;simp only [Op.operands] at h;rw [h x (by simp)]
 case h_7 e x d ho _=>rw [ho] at h;simp only [Op.operands] at h;rw [h x (by simp)]
 case h_8=>rfl
 case h_9 ty x _ ho _=>rw [ho] at h;simp only [Op.operands] at h;rw [h x (by simp)]
 case h_10 x _ ho _=>rw [ho] at h;simp only [Op.operands] at h;rw [h x (by simp)]
 case h_11 ty x i _ ho _=>rw [ho] at h;simp only [Op.operands] at h;rw [h x (by simp)]
 case h_12 ty x i _ ho _=>rw [ho] at h;simp only [Op.operands] at h;rw [h x (by simp)]
 case h_13 ty x i _ ho _=>rw [ho] at h;simp only [Op.operands] at h;rw [h x (by simp),h i (by simp)]
 case h_14 ty x i _ ho _=>rw [ho] at h;simp only [Op.operands] at h;rw [h x (by simp),h i (by simp)]
 case h_15 x i _ ho _=>rw [ho] at h;simp only [Op.operands] at h;rw [h x (by simp)]
 case h_16 ty x l r _ ho _=>
  rw [ho] at h;simp only [Op.operands] at h
  have e1:l.map f=l.map f':=by cases l with|none=>rfl|some y=>simp only [xy];rw [h y (by simp)]
  have e2:r.map f=r.map f':=by cases r with|none=>rfl|some y=>simp only [xy];rw [h y (by simp)]
  rw [h x (by simp),e1,e2]
 case h_17 ty ps _ ho _=>rw [ho] at h;simp only [Op.operands] at h;rw [hp h]
 case h_18 ty n ps d ho _=>rw [ho] at h;simp only [Op.operands] at h;rw [hp h]
 case h_19 ty l c d ho _=>rw [ho] at h;simp only [Op.operands] at h;rw [h l (by simp),h c (by simp)]
 case h_20 k first caps _ ho _=>
  rw [ho] at h
  simp only [Op.operands] at h
  have e2:(first.toList.map fun x=>pur1 (f x))=first.toList.map fun x=>pur1 (f' x):=xcn fun x hx=>by rw [h x (by simp only [Array.mem_append];exact .inl (by simpa using hx))]
  rw [map_congr_ops fun x hx=>h x (by simp [hx]),e2]
 case h_21 as ts _ ho _=>
  rw [ho] at h;simp only [Op.operands,Call.operands] at h
  split
  next x ty has aa=>
   have hx:x∈as:=by
    have:x∈as.toList:=by rw [has];simp
    simpa using this
   rw [h x (by simp [hx])]
  next=>rfl
 case h_22 as ts _ ho _=>
  rw [ho] at h;simp only [Op.operands,Call.operands] at h
  split
  next x ty has aa=>
   have hx:x∈as:=by
    have:x∈as.toList:=by rw [has];simp
    simpa using this
   rw [h x (by simp [hx])]
  next=>rfl
 case h_23 as ts _ ho _=>rw [ho] at h;simp only [Op.operands,Call.operands] at h;rw [map_congr_ops fun x hx=>h x (by simp [hx])]
 case h_24 as ts _ ho _=>rw [ho] at h;simp only [Op.operands,Call.operands] at h;rw [map_congr_ops fun x hx=>h x (by simp [hx])]
 case h_25=>rfl
theorem nmL_1{v:AV}{n:Nat}(h:n∈nmL v):n∈nm1 v:=by cases v<;>simp_all [nmL,nm1,nmC]
theorem ext0_dep(hD:Dep D g g'){ρ:List Nat}{v:AV}(h:∀n∈nmL v,D n):ext0 ρ g' v=ext0 ρ g v:=by
 cases v with
 |arr o=>simp only [ext0,hD.ag o (h o (by simp [nmL]))]
 |row o i=>simp only [ext0,hD.ag o (h o (by simp [nmL]))]
 |fn f caps=>cases caps<;>rfl
 |_=>rfl
theorem rs0_dep(hD:Dep D g g'){v:AV}(h:∀n∈nmL v,D n):rs0 g' v=rs0 g v:=by
 cases v with
 |arr o=>simp only [rs0,hD.ag o (h o (by simp [nmL]))]
 |row o i=>simp only [rs0,hD.ag o (h o (by simp [nmL]))]
 |_=>rfl
theorem map_dep{α:Type}{F G:AV→α}{cs:List AV}(h:∀c∈cs,F c=G c):cs.map F=cs.map G:=xcn h
theorem all_dep{F G:AV→Bool}{cs:List AV}(h:∀c∈cs,F c=G c):cs.all F=cs.all G:=by
 induction cs with
 |nil=>rfl
 |cons c cs ih=>
  rw [xcu,xcu,h c xx,ih fun c hc=>h c (xu _ hc)]
theorem any_dep{F G:AV→Bool}{cs:List AV}(h:∀c∈cs,F c=G c):cs.any F=cs.any G:=by
 induction cs with
 |nil=>rfl
 |cons c cs ih=>
  rw [List.any_cons,List.any_cons,h c xx,ih fun c hc=>h c (xu _ hc)]
theorem mem_flat{F:AV→List Nat}{cs:List AV}(h:∀n∈cs.flatMap F,D n){c:AV}(hc:c∈cs):∀n∈F c,D n:=fun n hn=>h n (xeb.2 ⟨c,hc,hn⟩)
theorem nm1_L{v:AV}(h:∀n∈nm1 v,D n):∀n∈nmL v,D n:=fun n hn=>h n (nmL_1 hn)
theorem ext1_dep(hD:Dep D g g'){ρ:List Nat}{v:AV}(h:∀n∈nm1 v,D n):ext1 ρ g' v=ext1 ρ g v∧rs1 g' v=rs1 g v:=by
 cases v with
 |agg cs=>
  simp only [nm1] at h
  simp only [ext1,rs1]
  exact⟨by rw [map_dep fun c hc=>ext0_dep hD (mem_flat h hc)],all_dep fun c hc=>rs0_dep hD (mem_flat h hc)⟩
 |_=>simp only [ext1,rs1];exact⟨ext0_dep hD (nm1_L h),rs0_dep hD (nm1_L h)⟩
theorem extC_dep(hD:Dep D g g'){ρ:List Nat}{p:Bool}{v:AV}(h:∀n∈nmC v,D n):extC ρ g' p v=extC ρ g p v∧rsC g' v=rsC g v∧capArr ρ g' v=capArr ρ g v:=by
 cases v with
 |box o k=>
  have ho:=h o (by simp [nmC,nmL])
  simp only [extC,rsC,capArr,hD.ag o ho]
  cases hg:g o with
  |none=>exact⟨by trivial,by trivial,by trivial⟩
  |some x=>
   cases x with
   |arr e t l=>exact⟨by trivial,by trivial,by trivial⟩
   |txt e l=>exact⟨by trivial,by trivial,by trivial⟩
   |rows e e2 t l hh=>exact⟨by trivial,by trivial,by trivial⟩
   |deep e t l=>exact⟨by trivial,by trivial,by trivial⟩
   |perm k e e2 t ix l=>exact⟨by trivial,by trivial,by trivial⟩
   |spent=>exact⟨by trivial,by trivial,by trivial⟩
   |cells cs=>
    have hc:=hD.cl o _ ho hg
    simp only [nmOb] at hc
    have e1:cs.map (ext0 ρ g')=cs.map (ext0 ρ g):=map_dep fun c aa=>ext0_dep hD (nm1_L (mem_flat hc aa))
    have e2:cs.all (rs0 g')=cs.all (rs0 g):=all_dep fun c aa=>rs0_dep hD (nm1_L (mem_flat hc aa))
    simp only [e1,e2]
    exact⟨trivial,trivial,trivial⟩
 |ptr cs=>
  simp only [nmC] at h
  have e1:cs.map (ext0 ρ g')=cs.map (ext0 ρ g):=map_dep fun c aa=>ext0_dep hD (mem_flat h aa)
  have e2:cs.all (rs0 g')=cs.all (rs0 g):=all_dep fun c aa=>rs0_dep hD (mem_flat h aa)
  simp only [extC,rsC,capArr,e1,e2]
  exact⟨trivial,trivial,trivial⟩
 |_=>exact⟨rfl,rfl,rfl⟩
theorem ext0F_dep(hD:Dep D g g'){ρ:List Nat}{v:AV}(h:∀n∈nm1 v,D n):ext0F ρ g' v=ext0F ρ g v:=by
 cases v with
 |fn f caps=>
  simp only [nm1] at h
  simp only [ext0F]
  rw [map_dep fun c hc=>(extC_dep hD (mem_flat h hc)).1]
 |_=>simp only [ext0F];exact ext0_dep hD (nm1_L h)
theorem extC2_dep(hD:Dep D g g'){ρ:List Nat}{p:Bool}{v:AV}(h:∀n∈nmC v,D n):extC2 ρ g' p v=extC2 ρ g p v:=by
 cases v with
 |box o k=>
  have ho:=h o (by simp [nmC,nmL])
  simp only [extC2,hD.ag o ho]
  cases hg:g o with
  |none=>rfl
  |some x=>
   cases x with
   |cells cs=>
    have hc:=hD.cl o _ ho hg
    simp only [nmOb] at hc
    have e1:cs.map (ext0F ρ g')=cs.map (ext0F ρ g):=map_dep fun c aa=>ext0F_dep hD (mem_flat hc aa)
    simp only [e1]
   |_=>rfl
 |_=>simp only [extC2];exact(extC_dep hD h).1
theorem extA_dep(hD:Dep D g g'){ρ:List Nat}{v:AV}(h:∀n∈nm1 v,D n):extA ρ g' v=extA ρ g v∧rsA g' v=rsA g v:=by
 cases v with
 |fn f caps=>
  simp only [nm1] at h
  simp only [extA,rsA]
  exact⟨by rw [map_dep fun c hc=>extC2_dep hD (mem_flat h hc)],all_dep fun c hc=>(extC_dep (ρ:=[]) (p:=false) hD (mem_flat h hc)).2.1⟩
 |box o k=>exact⟨rfl,rfl⟩
 |bnd f fs=>exact⟨rfl,rfl⟩
 |_=>simp only [extA,rsA];exact ext1_dep hD h
theorem extL_dep(hD:Dep D g g'){ρ:List Nat}{v:AV}(h:∀n∈nm1 v,D n):extL ρ g' v=extL ρ g v:=by
 cases v with
 |fn f caps=>
  simp only [nm1] at h
  simp only [extL]
  rw [map_dep fun c hc=>(extC_dep hD (mem_flat h hc)).1]
 |_=>rfl
theorem extOb_dep(hD:Dep D g g'){ρ:List Nat}{x:Ob}(h:∀n∈nmOb x,D n):extOb ρ g' x=extOb ρ g x:=by
 cases x with
 |arr e t l=>rfl
 |txt e l=>rfl
 |deep e t l=>rfl
 |perm k e e2 t ix l=>rfl
 |spent=>rfl
 |rows e e2 t l hh=>rfl
 |cells cs=>
  simp only [nmOb] at h
  simp only [extOb]
  rw [map_dep fun c hc=>extL_dep hD (mem_flat h hc)]
theorem insOf_dep(hD:Dep D g g'){ρ:List Nat}:∀ {r:List Nat} {k:Nat},(∀o∈r,D o)→insOf ρ g' r k=insOf ρ g r k
 | [],_,_=>rfl
 |o::r,k,h=>by
  have ho:=h o xx
  simp only [insOf,hD.ag o ho,insOf_dep hD fun o hm=>h o (xu _ hm)]
  cases hg:g o with
  |none=>rfl
  |some x=>simp only;rw [extOb_dep hD (hD.cl o x ho hg)]
theorem lendIds_dep(hD:Dep D g g'){fs as:List AV}(ab:∀v∈fs,∀n∈nm1 v,D n)(has:∀v∈as,∀n∈nmC v,D n):∀ {l:List LP} {acc:List Nat},(∀o∈acc,D o)→lendIds g' fs as l acc=lendIds g fs as l acc∧∀ρ,lendIds g fs as l acc=some ρ→∀o∈ρ,D o
 | [],acc,aa=>⟨rfl,fun ρ h o ho=>by simp only [lendIds,xc] at h;subst h;exact aa o ho⟩
 | .arg i::r,acc,aa=>by
  have more:∀p,D p→∀o∈acc++ [p],D o:=fun p hp o ho=>by
   rcases xq.1 ho with ho|ho
   ·exact aa o ho
   ·rw [xt.1 ho];exact hp
  simp only [lendIds]
  cases hn:nth as i with
  |none=>exact⟨rfl,fun ρ h=>by cases h⟩
  |some v=>
   have hv:v∈as:=by rw [nth_eq] at hn;exact xn hn
   cases v with
   |arr o=>exact lendIds_dep hD ab has (more o (has _ hv o (by simp [nmC,nmL])))
   |box o k=>
    cases k with
    |zero=>exact lendIds_dep hD ab has (more o (has _ hv o (by simp [nmC,nmL])))
    |succ k=>exact⟨rfl,fun ρ h=>by cases h⟩
   |_=>exact⟨rfl,fun ρ h=>by cases h⟩
 | .cell j k::r,acc,aa=>by
  have more:∀p,D p→∀o∈acc++ [p],D o:=fun p hp o ho=>by
   rcases xq.1 ho with ho|ho
   ·exact aa o ho
   ·rw [xt.1 ho];exact hp
  simp only [lendIds]
  cases hn:nth acc j with
  |none=>exact⟨rfl,fun ρ h=>by cases h⟩
  |some p=>
   have hp:D p:=aa p (by rw [nth_eq] at hn;exact xn hn)
   simp only [hD.ag p hp]
   cases hg:g p with
   |none=>exact⟨rfl,fun ρ h=>by cases h⟩
   |some x=>
    cases x with
    |arr e t l=>exact⟨rfl,fun ρ h=>by cases h⟩
    |txt e l=>exact⟨rfl,fun ρ h=>by cases h⟩
    |rows e e2 t l hh=>exact⟨rfl,fun ρ h=>by cases h⟩
    |deep e t l=>exact⟨rfl,fun ρ h=>by cases h⟩
    |perm k e e2 t ix l=>exact⟨rfl,fun ρ h=>by cases h⟩
    |spent=>exact⟨rfl,fun ρ h=>by cases h⟩
    |cells cs=>
     have hc:=hD.cl p _ hp hg
     simp only [nmOb] at hc
     simp only
     cases hk:nth cs k with
     |none=>exact⟨rfl,fun ρ h=>by cases h⟩
     |some v=>
      have hv:∀n∈nmL v,D n:=nm1_L (mem_flat hc (by rw [nth_eq] at hk;exact xn hk))
      cases v with
      |arr o=>exact lendIds_dep hD ab has (more o (hv o (by simp [nmL])))
      |box o k=>
       cases k with
       |zero=>exact lendIds_dep hD ab has (more o (hv o (by simp [nmL])))
       |succ k=>exact⟨rfl,fun ρ h=>by cases h⟩
      |_=>exact⟨rfl,fun ρ h=>by cases h⟩
 | .comp i j::r,acc,aa=>by
  have more:∀p,D p→∀o∈acc++ [p],D o:=fun p hp o ho=>by
   rcases xq.1 ho with ho|ho
   ·exact aa o ho
   ·rw [xt.1 ho];exact hp
  simp only [lendIds]
  cases hn:nth as i with
  |none=>exact⟨rfl,fun ρ h=>by cases h⟩
  |some v=>
   have hv:v∈as:=by rw [nth_eq] at hn;exact xn hn
   cases v with
   |agg cs=>
    simp only
    cases hk:nth cs j with
    |none=>exact⟨rfl,fun ρ h=>by cases h⟩
    |some u=>
     have hu:∀n∈nmL u,D n:=fun n ad=>has _ hv n (by
      simp only [nmC,xeb]
      exact⟨u,by rw [nth_eq] at hk;exact xn hk,ad⟩)
     cases u with
     |arr o=>exact lendIds_dep hD ab has (more o (hu o (by simp [nmL])))
     |_=>exact⟨rfl,fun ρ h=>by cases h⟩
   |_=>exact⟨rfl,fun ρ h=>by cases h⟩
 | .cap i j::r,acc,aa=>by
  have more:∀p,D p→∀o∈acc++ [p],D o:=fun p hp o ho=>by
   rcases xq.1 ho with ho|ho
   ·exact aa o ho
   ·rw [xt.1 ho];exact hp
  simp only [lendIds]
  cases hn:nth fs i with
  |none=>exact⟨rfl,fun ρ h=>by cases h⟩
  |some v=>
   have hv:v∈fs:=by rw [nth_eq] at hn;exact xn hn
   cases v with
   |fn f cs=>
    simp only
    cases hk:nth cs j with
    |none=>exact⟨rfl,fun ρ h=>by cases h⟩
    |some u=>
     have hu:∀n∈nmC u,D n:=fun n ad=>ab _ hv n (by
      simp only [nm1,xeb]
      exact⟨u,by rw [nth_eq] at hk;exact xn hk,ad⟩)
     cases u with
     |box o k=>
      cases k with
      |zero=>exact lendIds_dep hD ab has (more o (hu o (by simp [nmC,nmL])))
      |succ k=>exact⟨rfl,fun ρ h=>by cases h⟩
     |_=>exact⟨rfl,fun ρ h=>by cases h⟩
   |_=>exact⟨rfl,fun ρ h=>by cases h⟩
theorem acall_dep(hD:Dep D g g'){d:Nat}{H:AV}{as:List AV}(hH:∀n∈nm1 H,D n)(has:∀v∈as,∀n∈nm1 v,D n):acall E g' d H as=acall E g d H as:=by
 cases H with
 |fn f caps=>
  simp only [nm1] at hH
  have aa:∀v∈as++caps,∀n∈nmC v,D n:=fun v hv n hn=>by
   rcases xq.1 hv with hv|hv
   ·refine has v hv n ?_
    cases v with
    |fn f caps=>simp [nmC,nmL] at hn
    |_=>exact hn
   ·exact mem_flat hH hv n hn
  obtain⟨e0,hρ⟩:=lendIds_dep hD has aa (l:=E.lend f) (acc:=[]) fun o h=>by cases h
  simp only [acall,e0]
  cases hl:lendIds g as (as++caps) (E.lend f) [] with
  |none=>rfl
  |some ρ=>
   have ab:=hρ ρ hl
   have e1:as.map (extA ρ g')=as.map (extA ρ g):=map_dep fun v hv=>(extA_dep hD (has v hv)).1
   have e2:caps.map (extC2 ρ g' false)=caps.map (extC2 ρ g false):=map_dep fun v hv=>extC2_dep hD (mem_flat hH hv)
   have e3:as.all (rsA g')=as.all (rsA g):=all_dep fun v hv=>(extA_dep (ρ:=ρ) hD (has v hv)).2
   have e4:caps.all (rsC g')=caps.all (rsC g):=all_dep fun v hv=>(extC_dep (ρ:=ρ) (p:=false) hD (mem_flat hH hv)).2.1
   have e5:caps.any (capArr ρ g')=caps.any (capArr ρ g):=any_dep fun v hv=>(extC_dep (p:=false) hD (mem_flat hH hv)).2.2
   have e6:insOf ρ g' ρ 64=insOf ρ g ρ 64:=insOf_dep hD ab
   have e7:∀r:List Nat,(∀o∈r,D o)→r.all (lentOK g')=r.all (lentOK g):=by
    intro r
    induction r with
    |nil=>intro _;rfl
    |cons o r ih=>
     intro hr
     have ho:=hr o xx
     rw [xcu,xcu,ih fun o hm=>hr o (xu _ hm)]
     congr 1
     simp only [lentOK,hD.ag o ho]
     cases hg:g o with
     |none=>rfl
     |some x=>
      cases x with
      |arr e t l=>rfl
      |txt e l=>rfl
      |deep e t l=>rfl
      |perm k e e2 t ix l=>rfl
      |spent=>rfl
      |rows e e2 t l hh=>rfl
      |cells cs=>
       have hc:=hD.cl o _ ho hg
       simp only [nmOb] at hc
       exact all_dep fun v hv=>(extA_dep (ρ:=ρ) hD (mem_flat hc hv)).2
   simp only [e1,e2,e3,e4,e5,e6,e7 ρ ab]
 |clo ts r p=>
  simp only [acall]
  have e1:as.map (ext1 [] g')=as.map (ext1 [] g):=map_dep fun v hv=>(ext1_dep hD (has v hv)).1
  have e2:as.all (rs1 g')=as.all (rs1 g):=all_dep fun v hv=>(ext1_dep (ρ:=[]) hD (has v hv)).2
  simp only [e1,e2]
 |_=>rfl
theorem aload_dep(hD:Dep D g g'){ty:Nat}{v:AV}(h:∀n∈nmL v,D n):aload tt g' ty v=aload tt g ty v:=by
 unfold aload
 cases aa:tySize tt ty with
 |none=>rfl
 |some sz=>
  cases v with
  |box o k=>simp only [hD.ag o (h o (by simp [nmL]))]
  |elt o i s=>simp only [hD.ag o (h o (by simp [nmL]))]
  |fld o i s k=>simp only [hD.ag o (h o (by simp [nmL]))]
  |relt o i n s=>simp only [hD.ag o (h o (by simp [nmL]))]
  |_=>rfl
theorem aload_ag{ty:Nat}{v:AV}(h:∀n∈nmL v,g' n=g n):aload tt g' ty v=aload tt g ty v:=by
 unfold aload
 cases aa:tySize tt ty with
 |none=>rfl
 |some sz=>
  cases v with
  |box o k=>simp only [h o (by simp [nmL])]
  |elt o i s=>simp only [h o (by simp [nmL])]
  |fld o i s k=>simp only [h o (by simp [nmL])]
  |relt o i n s=>simp only [h o (by simp [nmL])]
  |_=>rfl
theorem aindex_dep(hD:Dep D g g'){ty:Nat}{v i:AV}(h:∀n∈nmL v,D n):aindex tt g' ty v i=aindex tt g ty v i:=by
 unfold aindex
 cases v with
 |arr o=>
  have e:=hD.ag o (h o (by simp [nmL]))
  cases i with
  |dat t n=>
   cases t with
   |int k=>simp only [e]
   |_=>rfl
  |_=>rfl
 |row o i0=>
  have e:=hD.ag o (h o (by simp [nmL]))
  cases i with
  |dat t n=>
   cases t with
   |int k=>simp only [e]
   |_=>rfl
  |_=>rfl
 |dat t v=>
  cases i with
  |dat t' v'=>cases t<;>cases t'<;>rfl
  |_=>cases t<;>rfl
 |box o k=>
  cases i with
  |dat t' v'=>cases t'<;>rfl
  |_=>rfl
 |ptr cs=>
  cases i with
  |dat t' v'=>cases t'<;>rfl
  |_=>rfl
 |elt o j s=>
  cases i with
  |dat t' v'=>cases t'<;>rfl
  |_=>rfl
 |fld o j s k=>
  cases i with
  |dat t' v'=>cases t'<;>rfl
  |_=>rfl
 |_=>rfl
theorem alen_dep(hD:Dep D g g'){ty:Nat}{v:AV}(h:∀n∈nmL v,D n):alen tt g' ty v=alen tt g ty v:=by
 unfold alen
 cases v with
 |arr o=>simp only [hD.ag o (h o (by simp [nmL]))]
 |row o i=>simp only [hD.ag o (h o (by simp [nmL]))]
 |dat t v=>cases t<;>rfl
 |_=>rfl
theorem astore_dep(hD:Dep D g g'){ty:Nat}{a v:AV}(h:∀n∈nmL a,D n):astore tt g' ty a v=astore tt g ty a v:=by
 unfold astore
 cases a with
 |box o k=>simp only [hD.ag o (h o (by simp [nmL]))]
 |elt o i s=>simp only [hD.ag o (h o (by simp [nmL]))]
 |fld o i s k=>simp only [hD.ag o (h o (by simp [nmL]))]
 |_=>rfl
theorem srcOf_dep(hD:Dep D g g'){t:Ty}{v:AV}(h:∀n∈nmL v,D n):srcOf g' t v=srcOf g t v:=by
 unfold srcOf
 cases v with
 |arr o=>simp only [hD.ag o (h o (by simp [nmL]))]
 |row o i=>simp only [hD.ag o (h o (by simp [nmL]))]
 |dat t' v=>cases t'<;>rfl
 |_=>rfl
theorem aappendL_dep(hD:Dep D g g'){d ty b:Nat}{a x:AV}(ha:∀n∈nmL a,D n)(hx:∀n∈nmL x,D n):aappendL tt g' d ty b a x=aappendL tt g d ty b a x:=by
 unfold aappendL
 simp only [srcOf_dep hD hx]
 cases a with
 |arr o=>simp only [hD.ag o (ha o (by simp [nmL]))]
 |_=>rfl
theorem aappendR_dep(hD:Dep D g g'){d ty p i:Nat}{x:AV}(hp:D p)(hx:∀n∈nmL x,D n){u:LU}(hu:(aappendR tt g d ty p i x).ev=some u)(hn:∀q∈u.objs,g' q.1=g q.1):(aappendR tt g' d ty p i x).ev=some u:=by
 have hd:g' d=g d:=by
  unfold aappendR at hu
  split at hu
  ·split at hu
   ·split at hu
    ·obtain⟨_,hu⟩:=ev_g hu
     simp only [Tr.ev_l,xc] at hu
     subst hu
     exact hn _ xx
    ·cases hu
   ·cases hu
  ·cases hu
 unfold aappendR at hu⊢
 simp only [hD.ag p hp,hd,srcOf_dep hD hx]
 exact hu
theorem aconv_dep(hD:Dep D g g'){s d:Nat}{v:AV}(h:∀n∈nmL v,D n):aconv tt g' s d v=aconv tt g s d v:=by
 have e:=srcOf_dep (t:=.int .u8) hD h
 unfold aconv
 split
 ·rfl
 ·rw [e]
theorem aconvB_dep(hD:Dep D g g'){dst s d:Nat}{v:AV}(h:∀n∈nmL v,D n):aconvB tt g' dst s d v=aconvB tt g dst s d v:=by
 have e:=aconv_dep (tt:=tt) (s:=s) (d:=d) hD h
 unfold aconvB
 split
 ·rfl
 ·exact e
theorem abuildS_dep(hD:Dep D g g'){d ty n:Nat}{ps:List (Nat×AV)}(h:∀p∈ps,∀n∈nmL p.2,D n):abuildS tt g' d ty n ps=abuildS tt g d ty n ps:=by
 unfold abuildS
 split
 ·rename_i p _
  have e:=hD.ag p (h _ xx p (by simp [nmL]))
  simp only [e]
 ·rfl
theorem asliceP_dep(hD:Dep D g g'){ty:Nat}{v:AV}{lo hi:Option AV}(h:∀n∈nmL v,D n):asliceP tt g' ty v lo hi=asliceP tt g ty v lo hi:=by
 unfold asliceP
 cases v with
 |arr o=>
  have e:=hD.ag o (h o (by simp [nmL]))
  cases lo with
  |none=>
   cases hi with
   |none=>rfl
   |some y=>
    cases y with
    |dat t n=>
     cases t with
     |int k=>simp only [e]
     |_=>rfl
    |_=>rfl
  |some y=>
   cases hi with
   |none=>
    cases y with
    |dat t n=>
     cases t with
     |int k=>simp only [e]
     |_=>rfl
    |_=>rfl
   |some z=>
    cases y with
    |dat t n=>cases t<;>rfl
    |_=>rfl
 |_=>rfl
theorem abinN_dep(hD:Dep D g g'){op:BinOp}{ty:Nat}{x y:AV}(h:∀n∈nmL x,D n):abinN tt g' op ty x y=abinN tt g op ty x y:=by
 have e:∀b,anilV b g' x=anilV b g x:=fun b=>by
  unfold anilV
  cases x with
  |arr o=>simp only [hD.ag o (h o (by simp [nmL]))]
  |dat t v=>cases t<;>rfl
  |_=>rfl
 unfold abinN
 split
 ·exact e false
 ·exact e true
 ·rfl
theorem aq_dep(hD:Dep D g g'){f:Operand→AV}(h:∀x∈o.op.operands,∀n∈nm1 (f x),D n):aq tt g' f o=aq tt g f o:=by
 unfold aq
 split<;>try rfl
 case h_4 op ty x y _ _ ho _=>rw [ho] at h;simp only [Op.operands] at h;exact abinN_dep hD (nm1_L (h x (by simp)))
 case h_6 _ _ x _ ho _=>rw [ho] at h;simp only [Op.operands] at h;exact aconvB_dep hD (nm1_L (h x (by simp)))
 case h_9 ty x _ ho _=>rw [ho] at h;simp only [Op.operands] at h;exact aload_dep hD (nm1_L (h x (by simp)))
 case h_13 ty x i _ ho _=>rw [ho] at h;simp only [Op.operands] at h;exact aindex_dep hD (nm1_L (h x (by simp)))
 case h_16 ty x l r _ ho _=>rw [ho] at h;simp only [Op.operands] at h;exact asliceP_dep hD (nm1_L (h x (by simp)))
 case h_18 ty n ps d ho _=>
  rw [ho] at h;simp only [Op.operands] at h
  refine abuildS_dep hD fun p hp=>?_
  obtain⟨z,hz,rfl⟩:=xae.1 hp
  exact nm1_L (h z.2 (by simpa using⟨z.1,by simpa using hz⟩))
 case h_21 as ts _ ho _=>
  rw [ho] at h;simp only [Op.operands,Call.operands] at h
  split
  next x ty has aa=>
   have hx:x∈as:=by
    have:x∈as.toList:=by rw [has];simp
    simpa using this
   exact alen_dep hD (nm1_L (h x (by simp [hx])))
  next=>rfl
theorem fresh_dep{l:List (Nat×Ob)}(h:∀p∈l,g' p.1=g p.1):fresh g' l=fresh g l:=by
 unfold fresh
 congr 1
 induction l with
 |nil=>rfl
 |cons p l ih=>
  rw [xcu,xcu,ih fun p hp=>h p (xu _ hp),h p xx]
theorem alu_dep(hD:Dep D g g'){f f':Operand→AV}(hf:∀x∈o.op.operands,f' x=f x)(h:∀x∈o.op.operands,∀n∈nm1 (f x),D n){u:LU}(hu:(alu E tt g f o).ev=some u)(hn:∀p∈u.objs,g' p.1=g p.1):(alu E tt g' f' o).ev=some u:=by
 unfold alu at hu⊢
 split at hu
 ·rename_i ty a v ho hd
  rw [ho] at h hf
  simp only [Op.operands] at h hf
  rw [hf a (by simp),hf v (by simp),astore_dep hD (nm1_L (h a (by simp)))]
  exact hu
 ·rename_i as ts d ho hd
  rw [ho] at h hf
  simp only [Op.operands,Call.operands] at h hf
  split at hu
  next b y ty af has ah=>
   have hb:Operand.tmp b∈as:=by
    have:Operand.tmp b∈as.toList:=by rw [has];simp
    simpa using this
   have hy:y∈as:=by
    have:y∈as.toList:=by rw [has];simp
    simpa using this
   rw [hf _ (by simp [hb]),hf y (by simp [hy])]
   split at hu
   next ae=>
    rw [if_pos ae]
    cases aa:f (.tmp b) with
    |row p i=>
     rw [aa] at hu
     have hp:=h _ (show Operand.tmp b∈_ by simp [hb]) p (by rw [aa];simp [nm1,nmC,nmL])
     simp only at hu⊢
     exact aappendR_dep hD hp (nm1_L (h y (by simp [hy]))) hu hn
    |_=>
     rw [aa] at hu
     have ad:=h _ (show Operand.tmp b∈_ by simp [hb])
     rw [aa] at ad
     simp only at hu⊢
     rw [aappendL_dep hD (nm1_L ad) (nm1_L (h y (by simp [hy])))]
     exact hu
   next=>cases hu
  next=>cases hu
 ·rename_i H as ts d ho hd
  rw [ho] at h hf
  simp only [Op.operands,Call.operands] at h hf
  have e:as.toList.map f'=as.toList.map f:=map_congr_ops fun x hx=>hf x (by simp [hx])
  rw [hf H (by simp),e,acall_dep hD (h H (by simp)) fun v hv=>by
   obtain⟨x,hx,rfl⟩:=xae.1 hv
   exact h x (by simp at hx;simp [hx])]
  rw [Tr.ev_bind] at hu⊢
  cases hq:(acall E g d (f H) (as.toList.map f)).ev with
  |none=>rw [hq] at hu;cases hu
  |some q=>
   rw [hq] at hu
   simp only [xf] at hu⊢
   split at hu
   next ab=>
    simp only [Tr.ev_l,xc] at hu
    subst hu
    rw [if_pos (by rw [fresh_dep fun p hp=>hn p (xag _ hp)];exact ab)]
    rfl
   next=>cases hu
 ·rename_i d hd h1 h2
  rw [aq_congr hf,aq_dep hD h]
  rw [Tr.ev_bind] at hu
  cases hq:(aq tt g f o).ev with
  |none=>rw [hq] at hu;cases hu
  |some q=>
   rw [hq] at hu
   simp only [xf] at hu
   split at hu
   next ab=>
    simp only [Tr.ev_l,xc] at hu
    subst hu
    have e:fresh g' q.2=true:=by rw [fresh_dep fun p hp=>hn p hp];exact ab
    rw [Tr.ev_bind,hq]
    simp [e]
   next=>cases hu
 ·cases hu
theorem aluD_true{f:Operand→AV}{u:LU}(h:(aluD E tt g f o true).ev=some u):(∃ty n ps d,o.op=.buildSlice ty n ps∧o.dst=some d∧∃v,(abuildD tt ty n (ps.toList.map fun p=>(p.1,f p.2))).ev=some v∧u=⟨some (d,v),none,[]⟩)∨
  ∃b d,o.op=.move (.tmp b)∧o.dst=some d∧u=⟨some (d,f (.tmp b)),some b,[]⟩:=by
 simp only [aluD] at h
 split at h
 next ty n ps d ho hd=>
  rw [Tr.ev_bind] at h
  cases hq:(abuildD tt ty n (ps.toList.map fun p=>(p.1,f p.2))).ev with
  |none=>rw [hq] at h;cases h
  |some v=>
   rw [hq] at h
   simp only [xf,Tr.ev_l,xc] at h
   exact .inl ⟨ty,n,ps,d,ho,hd,v,hq,h.symm⟩
 next b d ho hd=>
  simp only [Tr.ev_l,xc] at h
  exact .inr ⟨b,d,ho,hd,h.symm⟩
 next=>cases h
theorem aluD_any{f f':Operand→AV}(hf:∀x∈o.op.operands,f' x=f x){u:LU}(h:(aluD E tt g f o true).ev=some u):(aluD E tt g' f' o true).ev=some u:=by
 rcases aluD_true h with⟨ty,n,ps,d,ho,hd,v,hv,rfl⟩|⟨b,d,ho,hd,rfl⟩
 case inr=>
  rw [ho] at hf
  simp only [aluD,ho,hd,Tr.ev_l]
  rw [hf (.tmp b) (by simp [Op.operands])]
 rw [ho] at hf
 have e:(ps.toList.map fun p=>(p.1,f' p.2))=ps.toList.map fun p=>(p.1,f p.2):=xcn fun p hp=>by
  rw [hf p.2 (by simp only [Op.operands];simp;exact⟨p.1,by simpa using hp⟩)]
 simp only [aluD,ho,hd]
 rw [e,Tr.ev_bind,hv]
 rfl
theorem alu_load(hl:isLoad o=true){f f':Operand→AV}(hf:∀x∈o.op.operands,f' x=f x)(h:∀x∈o.op.operands,∀n∈nm1 (f x),g' n=g n){u:LU}(hu:(alu E tt g f o).ev=some u)(hn:∀p∈u.objs,g' p.1=g p.1):(alu E tt g' f' o).ev=some u:=by
 unfold isLoad at hl
 split at hl
 next ty x ho=>
  unfold alu at hu⊢
  rw [ho] at hf h
  simp only [Op.operands] at hf h
  split at hu
  ·rename_i heq _;rw [ho] at heq;cases heq
  ·rename_i heq _;rw [ho] at heq;cases heq
  ·rename_i heq _;rw [ho] at heq;cases heq
  ·rename_i d hd _ _
   have e1:∀g f,aq tt g f o=aload tt g ty (f x):=fun g f=>by unfold aq;rw [ho,hd]
   rw [e1] at hu
   rw [e1,hf x (by simp),aload_ag (nm1_L' (h x (by simp)))]
   rw [Tr.ev_bind] at hu
   cases hq:(aload tt g ty (f x)).ev with
   |none=>rw [hq] at hu;cases hu
   |some q=>
    rw [hq] at hu
    simp only [xf] at hu
    split at hu
    next aa=>
     simp only [Tr.ev_l,xc] at hu
     subst hu
     have e:fresh g' q.2=true:=by rw [fresh_dep fun p hp=>hn p hp];exact aa
     rw [Tr.ev_bind,hq]
     simp [e]
    next=>cases hu
  ·cases hu
 next ty x i ho=>
  unfold alu at hu⊢
  rw [ho] at hf h
  simp only [Op.operands] at hf h
  split at hu
  ·rename_i heq _;rw [ho] at heq;cases heq
  ·rename_i heq _;rw [ho] at heq;cases heq
  ·rename_i heq _;rw [ho] at heq;cases heq
  ·rename_i d hd _ _
   have e1:∀g f,aq tt g f o=afieldA tt ty i (f x):=fun g f=>by unfold aq;rw [ho,hd]
   rw [e1] at hu
   rw [e1,hf x (by simp)]
   rw [Tr.ev_bind] at hu
   cases hq:(afieldA tt ty i (f x)).ev with
   |none=>rw [hq] at hu;cases hu
   |some q=>
    rw [hq] at hu
    simp only [xf] at hu
    split at hu
    next aa=>
     simp only [Tr.ev_l,xc] at hu
     subst hu
     have e:fresh g' q.2=true:=by rw [fresh_dep fun p hp=>hn p hp];exact aa
     rw [Tr.ev_bind,hq]
     simp [e]
    next=>cases hu
  ·cases hu
 next=>cases hl
where
 nm1_L' {v:AV} {g g':Nat→Option Ob} (h:∀n∈nm1 v,g' n=g n):∀n∈nmL v,g' n=g n:=fun n hn=>h n (nmL_1 hn)
def LenEq(a b:Option Ob):Prop:=a=b∨(∃e t l l',a=some (.arr e t l)∧b=some (.arr e t l')∧l.length=l'.length)∨(∃cs cs',a=some (.cells cs)∧b=some (.cells cs'))∨(∃e l l',a=some (.txt e l)∧b=some (.txt e l')∧l.length=l'.length)∨∃k k' e e2 t ix ix' l,a=some (.perm k e e2 t ix l)∧b=some (.perm k' e e2 t ix' l)∧ix.length=ix'.length
theorem LenEq.symm{a b:Option Ob}(h:LenEq a b):LenEq b a:=by
 rcases h with h|⟨e,t,l,l',h1,h2,h3⟩|⟨cs,aa,h1,h2⟩|⟨e,l,l',h1,h2,h3⟩|⟨k,k',e,e2,t,ix,ab,l,h1,h2,h3⟩
 ·exact .inl h.symm
 ·exact .inr (.inl ⟨e,t,l',l,h2,h1,h3.symm⟩)
 ·exact .inr (.inr (.inl ⟨aa,cs,h2,h1⟩))
 ·exact .inr (.inr (.inr (.inl ⟨e,l',l,h2,h1,h3.symm⟩)))
 ·exact .inr (.inr (.inr (.inr ⟨k',k,e,e2,t,ab,ix,l,h2,h1,h3.symm⟩)))
theorem LenEq.trans{a b c:Option Ob}(h:LenEq a b)(k:LenEq b c):LenEq a c:=by
 rcases h with h|⟨e,t,l,l',h1,h2,h3⟩|⟨cs,aa,h1,h2⟩|⟨e,l,l',h1,h2,h3⟩|⟨q,q',e,e2,t,ix,ab,l,h1,h2,h3⟩
 ·rw [h];exact k
 all_goals
  rcases k with k|⟨e',t',m,m',k1,k2,k3⟩|⟨ds,ad,k1,k2⟩|⟨e',m,m',k1,k2,k3⟩|⟨p,p',e',af,t',jx,ae,m,k1,k2,k3⟩
 ·rw [←k];exact .inr (.inl ⟨e,t,l,l',h1,h2,h3⟩)
 ·rw [h2] at k1
  cases k1
  exact .inr (.inl ⟨e,t,l,m',h1,k2,h3.trans k3⟩)
 ·rw [h2] at k1;cases k1
 ·rw [h2] at k1;cases k1
 ·rw [h2] at k1;cases k1
 ·rw [←k];exact .inr (.inr (.inl ⟨cs,aa,h1,h2⟩))
 ·rw [h2] at k1;cases k1
 ·exact .inr (.inr (.inl ⟨cs,ad,h1,k2⟩))
 ·rw [h2] at k1;cases k1
 ·rw [h2] at k1;cases k1
 ·rw [←k];exact .inr (.inr (.inr (.inl ⟨e,l,l',h1,h2,h3⟩)))
 ·rw [h2] at k1;cases k1
 ·rw [h2] at k1;cases k1
 ·rw [h2] at k1
  cases k1
  exact .inr (.inr (.inr (.inl ⟨e,l,m',h1,k2,h3.trans k3⟩)))
 ·rw [h2] at k1;cases k1
 ·rw [←k];exact .inr (.inr (.inr (.inr ⟨q,q',e,e2,t,ix,ab,l,h1,h2,h3⟩)))
 ·rw [h2] at k1;cases k1
 ·rw [h2] at k1;cases k1
 ·rw [h2] at k1;cases k1
 ·rw [h2] at k1
  cases k1
  exact .inr (.inr (.inr (.inr ⟨q,p',e,e2,t,ix,ae,l,h1,k2,h3.trans k3⟩)))
theorem aindex_len{ty:Nat}{v i:AV}(h:∀n∈nmL v,LenEq (g n) (g' n)):aindex tt g' ty v i=aindex tt g ty v i:=by
 unfold aindex
 cases v with
 |arr o=>
  have e:=h o (by simp [nmL])
  cases i with
  |dat t n=>
   cases t with
   |int k=>
    rcases e with e|⟨e,t,l,l',h1,h2,h3⟩|⟨cs,aa,h1,h2⟩|⟨e,l,l',h1,h2,h3⟩|⟨q,q',e,e2,t,ix,ab,l,h1,h2,h3⟩
    ·simp only [e]
    ·simp only [h1,h2]
     cases tt ty<;>simp only [h3]
    ·simp only [h1,h2]
     cases tt ty<;>rfl
    ·simp only [h1,h2]
     cases tt ty<;>simp only [h3]
    ·simp only [h1,h2]
     cases tt ty<;>simp only [h3]
   |_=>rfl
  |_=>rfl
 |row o i0=>
  have e:=h o (by simp [nmL])
  cases i with
  |dat t n=>
   cases t with
   |int k=>
    rcases e with e|⟨e,t,l,l',h1,h2,h3⟩|⟨cs,aa,h1,h2⟩|⟨e,l,l',h1,h2,h3⟩|⟨q,q',e,e2,t,ix,ab,l,h1,h2,h3⟩
    ·simp only [e]
    ·simp only [h1,h2]
     cases tt ty<;>rfl
    ·simp only [h1,h2]
     cases tt ty<;>rfl
    ·simp only [h1,h2]
     cases tt ty<;>rfl
    ·simp only [h1,h2]
     cases tt ty<;>rfl
   |_=>rfl
  |_=>rfl
 |dat t v=>
  cases i with
  |dat t' v'=>cases t<;>cases t'<;>rfl
  |_=>cases t<;>rfl
 |box o k=>
  cases i with
  |dat t' v'=>cases t'<;>rfl
  |_=>rfl
 |ptr cs=>
  cases i with
  |dat t' v'=>cases t'<;>rfl
  |_=>rfl
 |elt o j s=>
  cases i with
  |dat t' v'=>cases t'<;>rfl
  |_=>rfl
 |fld o j s k=>
  cases i with
  |dat t' v'=>cases t'<;>rfl
  |_=>rfl
 |_=>rfl
theorem alen_len{ty:Nat}{v:AV}(h:∀n∈nmL v,LenEq (g n) (g' n)):alen tt g' ty v=alen tt g ty v:=by
 unfold alen
 cases v with
 |arr o=>
  rcases h o (by simp [nmL]) with e|⟨e,t,l,l',h1,h2,h3⟩|⟨cs,aa,h1,h2⟩|⟨e,l,l',h1,h2,h3⟩|⟨q,q',e,e2,t,ix,ab,l,h1,h2,h3⟩
  ·simp only [e]
  ·simp only [h1,h2]
   cases tt ty<;>simp only [h3]
  ·simp only [h1,h2]
   cases tt ty<;>rfl
  ·simp only [h1,h2]
   cases tt ty<;>simp only [h3]
  ·simp only [h1,h2]
   cases tt ty<;>simp only [h3]
 |row o i=>
  rcases h o (by simp [nmL]) with e|⟨e,t,l,l',h1,h2,h3⟩|⟨cs,aa,h1,h2⟩|⟨e,l,l',h1,h2,h3⟩|⟨q,q',e,e2,t,ix,ab,l,h1,h2,h3⟩
  ·simp only [e]
  ·simp only [h1,h2]
   cases tt ty<;>rfl
  ·simp only [h1,h2]
   cases tt ty<;>rfl
  ·simp only [h1,h2]
   cases tt ty<;>rfl
  ·simp only [h1,h2]
   cases tt ty<;>rfl
 |dat t v=>cases t<;>rfl
 |_=>rfl
theorem aq_len(hl:lenOp o=true){f:Operand→AV}(h:∀x∈o.op.operands,∀n∈nm1 (f x),LenEq (g n) (g' n)):aq tt g' f o=aq tt g f o:=by
 have hL:∀ {v:AV},(∀n∈nm1 v,LenEq (g n) (g' n))→∀n∈nmL v,LenEq (g n) (g' n):=fun h n hn=>h n (nmL_1 hn)
 unfold aq
 split<;>try rfl
 case h_4 op ty x y _ _ ho _=>unfold lenOp at hl;rw [ho] at hl;cases hl
 case h_6 _ _ x _ ho _=>unfold lenOp at hl;rw [ho] at hl;cases hl
 case h_9 ty x _ ho _=>unfold lenOp at hl;rw [ho] at hl;cases hl
 case h_16 ty x l r _ ho _=>unfold lenOp at hl;rw [ho] at hl;cases hl
 case h_18 ty n ps d ho _=>unfold lenOp at hl;rw [ho] at hl;cases hl
 case h_13 ty x i _ ho _=>rw [ho] at h;simp only [Op.operands] at h;exact aindex_len (hL (h x (by simp)))
 case h_21 as ts _ ho _=>
  rw [ho] at h;simp only [Op.operands,Call.operands] at h
  split
  next x ty has aa=>
   have hx:x∈as:=by
    have:x∈as.toList:=by rw [has];simp
    simpa using this
   exact alen_len (hL (h x (by simp [hx])))
  next=>rfl
theorem vq_pure{v:AV}{q:QR}(h:(vq v).ev=some q):q.2=[]:=by
 simp only [vq,Tr.ev_l,xc] at h
 rw [←h]
theorem gvq_pure{b:Bool}{v:AV}{q:QR}(h:(Tr.g b (vq v)).ev=some q):q.2=[]:=by
 obtain⟨_,h⟩:=ev_g h
 simp only [vq,Tr.ev_l,xc] at h
 rw [←h]
theorem aindex_pure{ty:Nat}{v i:AV}{q:QR}(h:(aindex tt g ty v i).ev=some q):q.2=[]:=by
 unfold aindex at h
 repeat' split at h
 all_goals first|exact gvq_pure h|(obtain⟨_,_,_,_,h⟩:=cases1_ev h;simp only [vq,Tr.ev_l,xc] at h;rw [←h])|cases h
theorem alen_pure{ty:Nat}{v:AV}{q:QR}(h:(alen tt g ty v).ev=some q):q.2=[]:=by
 unfold alen at h
 repeat' split at h
 all_goals first|(simp only [iq,Tr.ev_l,xc] at h;rw [←h])|cases h
theorem aq_pure(hl:lenOp o=true){f:Operand→AV}{q:QR}(h:(aq tt g f o).ev=some q):q.2=[]:=by
 unfold lenOp at hl
 split at hl
 next ty x i ho=>
  unfold aq at h
  split at h<;>rename_i heq _<;>rw [ho] at heq<;>first|(cases heq;done)|(cases heq;exact aindex_pure h)|cases h
 next x ho=>
  unfold aq at h
  split at h<;>rename_i heq _<;>rw [ho] at heq<;>first|(cases heq;done)|(cases heq;exact vq_pure h)|cases h
 next x ho=>
  unfold aq at h
  split at h<;>rename_i heq _<;>rw [ho] at heq<;>first|(cases heq;done)|(cases heq;exact vq_pure h)|cases h
 next x ho=>
  unfold aq at h
  split at h<;>rename_i heq _<;>rw [ho] at heq<;>first|(cases heq;done)|(cases heq;split at h<;>first|exact vq_pure h|cases h)|cases h
 next c ho=>
  unfold aq at h
  split at h<;>rename_i heq _<;>rw [ho] at heq<;>first|(cases heq;done)|(cases heq;split at h<;>first|exact alen_pure h|cases h)|cases h
 next=>cases hl
theorem alu_len(hl:lenOp o=true){f f':Operand→AV}(hf:∀x∈o.op.operands,f' x=f x)(h:∀x∈o.op.operands,∀n∈nm1 (f x),LenEq (g n) (g' n)){u:LU}(hu:(alu E tt g f o).ev=some u):(alu E tt g' f' o).ev=some u:=by
 have key:∀d,((aq tt g f o).bind fun q=>if fresh g q.2 then .l (⟨some (d,q.1),none,q.2⟩:LU) else .f).ev=some u→((aq tt g' f' o).bind fun q=>if fresh g' q.2 then .l (⟨some (d,q.1),none,q.2⟩:LU) else .f).ev=some u:=by
  intro d hu
  rw [aq_congr hf,aq_len hl h]
  rw [Tr.ev_bind] at hu⊢
  cases hq:(aq tt g f o).ev with
  |none=>rw [hq] at hu;cases hu
  |some q=>
   rw [hq] at hu
   have e:=aq_pure hl hq
   simp only [xf,e] at hu⊢
   exact hu
 unfold alu at hu⊢
 split at hu
 ·rename_i ho _;unfold lenOp at hl;rw [ho] at hl;cases hl
 ·rename_i ho _;unfold lenOp at hl;rw [ho] at hl;cases hl
 ·rename_i ho _;unfold lenOp at hl;rw [ho] at hl;cases hl
 ·exact key _ hu
 ·cases hu
theorem alu_move(hl:isMove o=true){f f':Operand→AV}(hf:∀x∈o.op.operands,f' x=f x){u:LU}(hu:(alu E tt g f o).ev=some u):(alu E tt g' f' o).ev=some u:=by
 have key:∀d,aq tt g f o=aq tt g' f' o→(∀q,(aq tt g f o).ev=some q→q.2=[])→((aq tt g f o).bind fun q=>if fresh g q.2 then .l (⟨some (d,q.1),none,q.2⟩:LU) else .f).ev=some u→((aq tt g' f' o).bind fun q=>if fresh g' q.2 then .l (⟨some (d,q.1),none,q.2⟩:LU) else .f).ev=some u:=by
  intro d he hp hu
  rw [←he]
  rw [Tr.ev_bind] at hu⊢
  cases hq:(aq tt g f o).ev with
  |none=>rw [hq] at hu;cases hu
  |some q=>
   rw [hq] at hu
   have e:=hp q hq
   simp only [xf,e] at hu⊢
   exact hu
 unfold isMove at hl
 split at hl
 next x ho=>
  unfold alu at hu⊢
  rw [ho] at hf
  simp only [Op.operands] at hf
  split at hu
  ·rename_i heq _;rw [ho] at heq;cases heq
  ·rename_i heq _;rw [ho] at heq;cases heq
  ·rename_i heq _;rw [ho] at heq;cases heq
  ·rename_i d hd _ _
   have e1:∀g f,aq tt g f o=vq (f x):=fun g f=>by unfold aq;rw [ho,hd]
   refine key d ?_ (fun q hq=>?_) hu
   ·rw [e1,e1,hf x (by simp)]
   ·rw [e1] at hq;exact vq_pure hq
  ·cases hu
 next x ho=>
  unfold alu at hu⊢
  rw [ho] at hf
  simp only [Op.operands] at hf
  split at hu
  ·rename_i heq _;rw [ho] at heq;cases heq
  ·rename_i heq _;rw [ho] at heq;cases heq
  ·rename_i heq _;rw [ho] at heq;cases heq
  ·rename_i d hd _ _
   have e1:∀g f,aq tt g f o=vq (f x):=fun g f=>by unfold aq;rw [ho,hd]
   refine key d ?_ (fun q hq=>?_) hu
   ·rw [e1,e1,hf x (by simp)]
   ·rw [e1] at hq;exact vq_pure hq
  ·cases hu
 next=>cases hl
theorem alu_store(hs:isStore o=true){f:Operand→AV}{u:LU}(hu:(alu E tt g f o).ev=some u):∀n x,look u.objs n=some x→LenEq (g n) (some x):=by
 unfold isStore at hs
 split at hs
 next ty a v ho=>
  unfold alu at hu
  split at hu
  ·rename_i heq _
   rw [ho] at heq
   cases heq
   unfold astore at hu
   split at hu
   ·split at hu
    ·split at hu
     ·simp only [Tr.ev_l,xc] at hu
      subst hu
      intro n x hx
      simp only [look] at hx
      split at hx
      next e=>
       cases hx
       have:=xe e
       subst this
       exact .inr (.inr (.inl ⟨_,_,by assumption,rfl⟩))
      next=>cases hx
     ·cases hu
    ·cases hu
   ·split at hu
    ·split at hu
     ·split at hu
      ·obtain⟨_,hu⟩:=ev_g hu
       simp only [Tr.ev_l,xc] at hu
       subst hu
       intro n x hx
       simp only [look] at hx
       split at hx
       next e=>
        cases hx
        have:=xe e
        subst this
        exact .inr (.inl ⟨_,_,_,_,by assumption,rfl,by simp⟩)
       next=>cases hx
      ·cases hu
     ·cases hu
    ·split at hu
     ·split at hu
      ·split at hu
       ·obtain⟨_,hu⟩:=ev_g hu
        simp only [Tr.ev_l,xc] at hu
        subst hu
        intro n x hx
        simp only [look] at hx
        split at hx
        next e=>
         cases hx
         have:=xe e
         subst this
         exact .inr (.inr (.inr (.inr ⟨_,_,_,_,_,_,_,_,by assumption,rfl,by simp⟩)))
        next=>cases hx
       ·cases hu
      ·cases hu
     ·cases hu
    ·split at hu
     ·split at hu
      ·obtain⟨_,hu⟩:=ev_g hu
       simp only [Tr.ev_l,xc] at hu
       subst hu
       intro n x hx
       simp only [look] at hx
       split at hx
       next e=>
        cases hx
        have:=xe e
        subst this
        exact .inr (.inr (.inr (.inl ⟨_,_,_,by assumption,rfl,by simp⟩)))
       next=>cases hx
      ·cases hu
     ·cases hu
    ·cases hu
   ·split at hu
    ·split at hu
     ·split at hu
      ·obtain⟨_,hu⟩:=ev_g hu
       simp only [Tr.ev_l,xc] at hu
       subst hu
       intro n x hx
       simp only [look] at hx
       split at hx
       next e=>
        cases hx
        have:=xe e
        subst this
        exact .inr (.inl ⟨_,_,_,_,by assumption,rfl,by simp⟩)
       next=>cases hx
      ·cases hu
     ·cases hu
    ·cases hu
   ·cases hu
  ·rename_i heq _;rw [ho] at heq;cases heq
  ·rename_i heq _;rw [ho] at heq;cases heq
  ·have e:aq tt g f o=.f:=by
    unfold aq
    split<;>first|rfl|(rename_i heq _;rw [ho] at heq;cases heq)
   rw [Tr.ev_bind,e] at hu
   cases hu
  ·cases hu
 next=>cases hs
end
end Go.Proofs.YteiekijgoifhoaaGreatDoor
