/-
 Plain laws: moves of sets, local openings, best sets, edits of atlases (the reference's side).
-/
import Derived.Test.YteiekijgoifhoaaGreatDoorP46
import Derived.Test.YteiekijgoifhoaaGreatDoorP33
import Derived.Test.YteiekijgoifhoaaGreatDoorPM
namespace Go.Proofs.YteiekijgoifhoaaGreatDoor
def totF(o:List Int)(ds:List (List Int))(s:List Int):Int:=pay o s+serve ds s
theorem tot_in{o:List Int}{ds:List (List Int)}(hf:Fld o ds){s:List Int}(hs:ris o.length s)(h0:s≠ []):0≤totF o ds s∧totF o ds s≤103809717:=by
 have hp:=hs.places hf.len
 have h1:=pay_in hf hp
 have h2:=serve_in hf hp (xay.2 h0)
 unfold totF
 omega
theorem etotal_eq{o:List Int}{ds:List (List Int)}(hf:Fld o ds){s:List Int}(hs:ris o.length s)(h0:s≠ []):wdw o ds s=some (totF o ds s):=l2Total_eq hf (hs.places hf.len) (xay.2 h0)
def wo(s:List Int)(a:Int):List Int:=s.filter fun x=>x !=a
def swF(n:Nat)(s w:List Int)(acc:List (List Int)):List (List Int):=(List.range n).foldl (fun acc (b:Nat)=>if s.contains (b:Int) then acc else acc++ [ins (b:Int) w]) acc
def mvStep(n:Nat)(s:List Int)(x:List (List Int)×List (List Int)×List (List Int))(a:Nat):List (List Int)×List (List Int)×List (List Int):=
 if s.contains (a:Int) then(x.1,(if 0<(wo s (a:Int)).length then x.2.1++ [wo s (a:Int)] else x.2.1),swF n s (wo s (a:Int)) x.2.2)
 else(x.1++ [ins (a:Int) s],x.2.1,x.2.2)
def mvs(n:Nat)(s:List Int):List (List Int)×List (List Int)×List (List Int):=(List.range n).foldl (mvStep n s) ([],[],[])
def movesOf(n:Nat)(s:List Int):List (List Int):=(mvs n s).1++(mvs n s).2.1++(mvs n s).2.2
theorem not_contains{s:List Int}{a:Int}(h:s.contains a=false):a∉s:=fun hm=>by
 rw [xcd.2 hm] at h
 cases h
theorem swF_inv{n:Nat}{s w:List Int}(Q:List Int→Prop)(h:∀b:Nat,b<n→(b:Int)∉s→Q (ins (b:Int) w)){acc:List (List Int)}(ha:∀m∈acc,Q m):(∀m∈swF n s w acc,Q m)∧(swF n s w acc).length≤acc.length+n:=by
 have key:∀k,k≤n→(∀m∈(List.range k).foldl (fun acc (b:Nat)=>if s.contains (b:Int) then acc else acc++ [ins (b:Int) w]) acc,Q m)∧((List.range k).foldl (fun acc (b:Nat)=>if s.contains (b:Int) then acc else acc++ [ins (b:Int) w]) acc).length≤acc.length+k:=by
  intro k
  induction k with
  |zero=>intro _;exact⟨ha,xm _⟩
  |succ k ih=>
   intro hk
   obtain⟨i1,i2⟩:=ih (by omega)
   rw [foldl_range_succ]
   cases hc:s.contains (k:Int) with
   |true=>simp only [if_true];exact⟨i1,by omega⟩
   |false=>
    simp only [xaf,if_false]
    refine⟨fun m hm=>?_,by rw [xj,xep];omega⟩
    rcases xq.1 hm with hm|hm
    ·exact i1 m hm
    ·rw [xt.1 hm]
     exact h k (by omega) (not_contains hc)
 exact key n (xm _)
theorem mvs_inv{n:Nat}{s:List Int}(Q:List Int→Prop)(h1:∀a:Nat,a<n→(a:Int)∉s→Q (ins (a:Int) s))(h2:∀a:Nat,a<n→(a:Int)∈s→0<(wo s (a:Int)).length→Q (wo s (a:Int)))
  (h3:∀a:Nat,a<n→(a:Int)∈s→∀b:Nat,b<n→(b:Int)∉s→Q (ins (b:Int) (wo s (a:Int)))):∀k,k≤n→(∀m∈((List.range k).foldl (mvStep n s) ([],[],[])).1,Q m)∧(∀m∈((List.range k).foldl (mvStep n s) ([],[],[])).2.1,Q m)∧(∀m∈((List.range k).foldl (mvStep n s) ([],[],[])).2.2,Q m)∧
  ((List.range k).foldl (mvStep n s) ([],[],[])).1.length≤k∧((List.range k).foldl (mvStep n s) ([],[],[])).2.1.length≤k∧((List.range k).foldl (mvStep n s) ([],[],[])).2.2.length≤k*n:=by
 intro k
 induction k with
 |zero=>intro _;exact⟨fun m h=>(by cases h),fun m h=>(by cases h),fun m h=>(by cases h),xm _,xm _,by simp⟩
 |succ k ih=>
  intro hk
  obtain⟨i1,i2,i3,i4,i5,i6⟩:=ih (by omega)
  rw [foldl_range_succ]
  generalize (List.range k).foldl (mvStep n s) ([],[],[])=x at i1 i2 i3 i4 i5 i6⊢
  unfold mvStep
  have hmul:(k+1)*n=k*n+n:=by rw [xaz,xdg]
  cases hc:s.contains (k:Int) with
  |true=>
   have hm:=xcd.1 hc
   obtain⟨j1,j2⟩:=swF_inv (n:=n) (s:=s) (w:=wo s (k:Int)) Q (h3 k (by omega) hm) i3
   simp only [if_true]
   refine⟨i1,?_,j1,by omega,?_,by omega⟩
   ·split
    next hp=>
     intro m aa
     rcases xq.1 aa with aa|aa
     ·exact i2 m aa
     ·rw [xt.1 aa];exact h2 k (by omega) hm hp
    next=>exact i2
   ·split
    ·simp;omega
    ·omega
  |false=>
   simp only [xaf,if_false]
   refine⟨fun m hm=>?_,i2,i3,by simp;omega,by omega,by omega⟩
   rcases xq.1 hm with hm|hm
   ·exact i1 m hm
   ·rw [xt.1 hm]
    exact h1 k (by omega) (not_contains hc)
theorem wo_notin{s:List Int}{a b:Int}(h:b∉s):b∉wo s a:=fun hm=>h (xac.1 hm).1
theorem ris.wo{n:Nat}{s:List Int}(h:ris n s)(a:Int):ris n (wo s a):=h.filter _
theorem movesOf_ris{n:Nat}{s:List Int}(h:ris n s):∀m∈movesOf n s,ris n m∧m≠ []:=by
 have aa:∀x (l:List Int),ins x l≠ []:=fun x l e=>by have:=eins_len x l;rw [e] at this;simp at this
 obtain⟨h1,h2,h3,_⟩:=mvs_inv (n:=n) (s:=s) (fun m=>ris n m∧m≠ []) (fun a ha hn=>⟨h.ins (by omega) (by omega) hn,aa _ _⟩) (fun a ha hm hp=>⟨h.wo _,xay.1 hp⟩)
  (fun a ha hm b hb hn=>⟨(h.wo _).ins (by omega) (by omega) (wo_notin hn),aa _ _⟩) n (xm _)
 intro m hm
 rcases xq.1 hm with hm|hm
 ·rcases xq.1 hm with hm|hm
  ·exact h1 m hm
  ·exact h2 m hm
 ·exact h3 m hm
theorem movesOf_len{n:Nat}(hn:n≤7)(s:List Int):(movesOf n s).length≤100:=by
 obtain⟨_,_,_,h1,h2,h3⟩:=mvs_inv (n:=n) (s:=s) (fun _=>True) (fun _ _ _=>trivial) (fun _ _ _ _=>trivial) (fun _ _ _ _ _ _=>trivial) n (xm _)
 have hmul:n*n≤7*7:=xff hn hn
 have q1:(mvs n s).1.length≤n:=h1
 have q2:(mvs n s).2.1.length≤n:=h2
 have q3:(mvs n s).2.2.length≤n*n:=h3
 unfold movesOf
 rw [xj,xj]
 omega
theorem wo_len(s:List Int)(a:Int):(wo s a).length≤s.length:=xdt _ _
theorem mv2_eq(k:(List (Int))×((Int)×((Nat)×((List (Int))×((List (List (Int)))×((List (List (Int)))×(List (List (Int))))))))){s w:List Int}{n:Nat}(h1:k.1=s)(h2:k.2.2.2.1.length=n)(h3:List.getD k.2.2.2.2.2.2 k.2.2.1 []=w)
  (hn:n≤7) (hs:s.length≤7) (hw:w.length≤7) (aa:∀b,b∉s→b∉w) {acc:List (List Int)} (ha:acc.length≤1000):whh k (0,acc)=some (swF n s w acc):=by
 have h:=(iter_fold (f:=fun v=>(wax k v).ev) (n:=n) (mk:=fun i (acc:List (List Int))=>((i:Int),acc)) (I:=fun i a=>a.length≤1000+i) (g:=fun acc (b:Nat)=>if s.contains (b:Int) then acc else acc++ [ins (b:Int) w]) (fin:=fun s=>s) (s0:=acc) (by omega)
  (fun i x hi hx=>by
   have e1:=ehas_eq (l:=s) (by omega) (i:Int)
   have e2:(i:Int)<((k.2.2.2.1.length:Nat):Int):=by omega
   cases hc:s.contains (i:Int) with
   |true=>
    rw [hc] at e1
    refine⟨?_,by simp only [if_true];omega⟩
    simp (disch:=omega) only [EV,wax,h1,h2,e1,hi]
    rfl
   |false=>
    rw [hc] at e1
    have e3:=eput_eq (l:=w) (x:=(i:Int)) (by omega) (aa _ (not_contains hc))
    have r1:=room24 x (by omega)
    refine⟨?_,by simp;omega⟩
    simp (disch:=omega) only [EV,wax,h1,h2,h3,e1,e3,hi,r1,set_end]
    rfl)
  (fun x _=>by simp (disch:=omega) only [EV,wax,h2,xo])).1
 exact h
theorem mv2b_eq(k:(List (Int))×((Int)×((List (Int))×((List (List (Int)))×((List (List (Int)))×((List (List (Int)))×(List (Int)))))))){s w:List Int}{n:Nat}(h1:k.1=s)(h2:k.2.2.1.length=n)(h3:k.2.2.2.2.2.2=w)
  (hn:n≤7) (hs:s.length≤7) (hw:w.length≤7) (aa:∀b,b∉s→b∉w) {acc:List (List Int)} (ha:acc.length≤1000):wby k (0,acc)=some (swF n s w acc):=by
 have h:=(iter_fold (f:=fun v=>(wz k v).ev) (n:=n) (mk:=fun i (acc:List (List Int))=>((i:Int),acc)) (I:=fun i a=>a.length≤1000+i) (g:=fun acc (b:Nat)=>if s.contains (b:Int) then acc else acc++ [ins (b:Int) w]) (fin:=fun s=>s) (s0:=acc) (by omega)
  (fun i x hi hx=>by
   have e1:=ehas_eq (l:=s) (by omega) (i:Int)
   cases hc:s.contains (i:Int) with
   |true=>
    rw [hc] at e1
    refine⟨?_,by simp only [if_true];omega⟩
    simp (disch:=omega) only [EV,wz,h1,h2,e1,hi]
    rfl
   |false=>
    rw [hc] at e1
    have e3:=eput_eq (l:=w) (x:=(i:Int)) (by omega) (aa _ (not_contains hc))
    have r1:=room24 x (by omega)
    refine⟨?_,by simp;omega⟩
    simp (disch:=omega) only [EV,wz,h1,h2,h3,e1,e3,hi,r1,set_end]
    rfl)
  (fun x _=>by simp (disch:=omega) only [EV,wz,h2,xo])).1
 exact h
theorem emoves_eq{o s:List Int}(ds:List (List Int))(ho:o.length≤7)(hs:s.length≤7):wsl o ds s=some (movesOf o.length s):=by
 have h:=(iter_fold (f:=fun v=>(wac (s,(o,ds)) v).ev) (n:=o.length) (mk:=fun i (x:List (List Int)×List (List Int)×List (List Int))=>((i:Int),x)) (I:=fun i x=>x.1.length≤i∧x.2.1.length≤i∧x.2.2.length≤i*o.length) (g:=mvStep o.length s) (fin:=fun x=>x) (s0:=([],[],[])) ⟨xm _,xm _,by simp⟩
  (fun i x hi hx=>by
   obtain⟨x1,x2,x3⟩:=x
   obtain⟨g1,g2,g3⟩:=hx
   simp only at g1 g2 g3
   have hmul:(i+1)*o.length=i*o.length+o.length:=by rw [xaz,xdg]
   have aa:i*o.length≤7*7:=xff (by omega) ho
   have e1:=ehas_eq (l:=s) (by omega) (i:Int)
   unfold mvStep
   cases hc:s.contains (i:Int) with
   |false=>
    rw [hc] at e1
    have e3:=eput_eq (l:=s) (x:=(i:Int)) (by omega) (not_contains hc)
    have r1:=room24 x1 (by omega)
    simp only [xaf,if_false]
    refine⟨?_,by simp;omega,by omega,by omega⟩
    simp (disch:=omega) only [EV,wac,e1,e3,hi,r1,set_end]
    rfl
   |true=>
    rw [hc] at e1
    have e3:=ewithout_eq (l:=s) (by omega) (i:Int)
    have hw:=wo_len s (i:Int)
    have hj:=(swF_inv (n:=o.length) (s:=s) (w:=wo s (i:Int)) (fun _=>True) (fun _ _ _=>trivial) (acc:=x3) fun _ _=>trivial).2
    simp only [if_true]
    by_cases hp:0<(wo s (i:Int)).length
    ·have r1:=room24 x2 (by omega)
     have ad:0<(List.filter (fun x=>x != (i:Int)) s).length:=hp
     have e4:=mv2_eq (s,((i:Int),(x2.length,(o,(ds,(x1,(List.set (x2++ [[]]) x2.length (wo s (i:Int))))))))) (w:=wo s (i:Int)) rfl rfl (by
      show List.getD (List.set (x2++ [[]]) x2.length (wo s (i:Int))) x2.length []=wo s (i:Int)
      rw [set_end]
      simp) ho hs (by omega) (fun b hb=>wo_notin hb) (acc:=x3) (by omega)
     unfold wo at e4
     rw [set_end] at e4
     rw [if_pos hp]
     refine⟨?_,by omega,by simp;omega,by omega⟩
     have ab:((0:Int)<(((List.filter (fun x=>x != (i:Int)) s).length:Nat):Int)):=by omega
     simp (disch:=omega) only [EV,wac,e1,e3,hi,r1,ab,e4,set_end]
     rfl
    ·have e4:=mv2b_eq (s,((i:Int),(o,(ds,(x1,(x2,wo s (i:Int))))))) (w:=wo s (i:Int)) rfl rfl rfl ho hs (by omega) (fun b hb=>wo_notin hb) (acc:=x3) (by omega)
     rw [if_neg hp]
     unfold wo at e4 hp
     refine⟨?_,by omega,by omega,by omega⟩
     have ab:¬((0:Int)<(((List.filter (fun x=>x != (i:Int)) s).length:Nat):Int)):=by omega
     simp (disch:=omega) only [EV,wac,e1,e3,hi,ab,e4]
     rfl)
  (fun x _=>by simp (disch:=omega) only [EV,wac,xo]))
 obtain⟨h1,g1,g2,g3⟩:=h
 have h0:whj (s,(o,ds)) (0,([],([],[])))=some (mvs o.length s):=h1
 have q1:(mvs o.length s).1.length≤o.length:=g1
 have q2:(mvs o.length s).2.1.length≤o.length:=g2
 have q3:(mvs o.length s).2.2.length≤o.length*o.length:=g3
 have aa:o.length*o.length≤7*7:=xff ho ho
 have r1:((mvs o.length s).1.length+(mvs o.length s).2.1.length)*24≤140737488355328:=by omega
 have r2:(((mvs o.length s).1++(mvs o.length s).2.1).length+(mvs o.length s).2.2.length)*24≤140737488355328:=by
  rw [xj]
  omega
 unfold wsl wsk
 rw [Tr.ev_c,h0,xf,Tr.ev_g,decide_eq_true r1,cond_true,Tr.ev_g,decide_eq_true r2,cond_true,Tr.ev_l]
 rfl
def betterOf(o:List Int)(ds:List (List Int))(s:List Int):Option (List Int):=(movesOf o.length s).find? fun m=>decide (totF o ds m<totF o ds s)
theorem betterOf_some{o:List Int}{ds:List (List Int)}{s m:List Int}(hs:ris o.length s)(h:betterOf o ds s=some m):ris o.length m∧m≠ []∧totF o ds m<totF o ds s:=by
 unfold betterOf at h
 have h1:=List.find?_some h
 obtain⟨a,b⟩:=movesOf_ris hs m (xfn h)
 exact⟨a,b,of_decide_eq_true h1⟩
theorem find_idx{α:Type}(q:α→Bool)(d:α):∀l:List α,l.find? q=(l.findIdx? q).map fun i=>l.getD i d
 | []=>rfl
 |x::l=>by
  rw [xfy,xfj]
  cases hx:q x with
  |true=>simp
  |false=>
   have ih:=find_idx q d l
   simp only [xaf,if_false]
   rw [ih]
   cases l.findIdx? q<;>simp
def locN(o:List Int)(ds:List (List Int)):Nat→List Int→Nat×List Int
 |0,s=>(0,s)
 |m+1,s=>match betterOf o ds s with
  |some t=>((locN o ds m t).1+1,(locN o ds m t).2)
  |none=>(0,s)
def locOf(o:List Int)(ds:List (List Int))(s:List Int):Nat×List Int:=locN o ds 103809717 s
theorem locN_spec{o:List Int}{ds:List (List Int)}(hf:Fld o ds):∀ (m:Nat) {s:List Int},ris o.length s→s≠ []→totF o ds s≤(m:Int)→
  ris o.length (locN o ds m s).2∧(locN o ds m s).2≠ []∧betterOf o ds (locN o ds m s).2=none∧totF o ds (locN o ds m s).2+((locN o ds m s).1:Int)≤totF o ds s∧(locN o ds m s).1≤m
 |0,s,hs,h0,hm=>by
  refine⟨hs,h0,?_,by simp [locN],xm _⟩
  show betterOf o ds s=none
  cases hb:betterOf o ds s with
  |none=>rfl
  |some t=>
   obtain⟨a,b,c⟩:=betterOf_some hs hb
   have:=tot_in hf a b
   omega
 |m+1,s,hs,h0,hm=>by
  unfold locN
  cases hb:betterOf o ds s with
  |none=>exact⟨hs,h0,hb,by simp,by simp⟩
  |some t=>
   obtain⟨a,b,c⟩:=betterOf_some hs hb
   obtain⟨i1,i2,i3,i4,i5⟩:=locN_spec hf m a b (by omega)
   refine⟨i1,i2,i3,?_,by simp only;omega⟩
   simp only
   omega
theorem locOf_spec{o:List Int}{ds:List (List Int)}(hf:Fld o ds){s:List Int}(hs:ris o.length s)(h0:s≠ []):
  ris o.length (locOf o ds s).2∧(locOf o ds s).2≠ []∧betterOf o ds (locOf o ds s).2=none∧totF o ds (locOf o ds s).2+((locOf o ds s).1:Int)≤totF o ds s∧(locOf o ds s).1≤103809717:=
 locN_spec hf 103809717 hs h0 (by have:=(tot_in hf hs h0).2;omega)
def optB(x:Option (List Int)):Bool×List Int:=match x with
 |some m=>(true,m)
 |none=>(false,[])
theorem ebetter_eq{o:List Int}{ds:List (List Int)}(hf:Fld o ds){s:List Int}(hs:ris o.length s)(h0:s≠ []):wmo o ds s=some (optB (betterOf o ds s)):=by
 have hl:=hs.len
 have h7:=hf.len
 have e1:=emoves_eq (o:=o) (s:=s) ds h7 (by omega)
 have e2:=etotal_eq hf hs h0
 have ab:=movesOf_len h7 s
 have h:=iter_forE (f:=fun v=>(wba (s,(o,(ds,movesOf o.length s))) v).ev) (l:=movesOf o.length s) [] (fun m=>decide (totF o ds m<totF o ds s)) (mk:=fun i=>(i:Int)) (yes:=fun i=>.inr i) (no:=.inl ())
  (fun i hi=>by
   obtain⟨a,b⟩:=movesOf_ris hs _ (getD_mem (d:=[]) hi)
   have e3:=etotal_eq hf a b
   by_cases aa:totF o ds ((movesOf o.length s).getD i [])<totF o ds s
   ·simp (disch:=omega) only [EV,wba,hi,e2,e3,aa]
   ·simp (disch:=omega) only [EV,wba,hi,e2,e3,aa]
    rfl)
  (by simp (disch:=omega) only [EV,wba,xo])
 have hb:whm (s,(o,(ds,movesOf o.length s))) 0=_:=h
 unfold wmo wsw
 rw [Tr.ev_c,e1,xf,Tr.ev_c,hb,xf]
 unfold betterOf
 rw [find_idx _ []]
 cases (movesOf o.length s).findIdx? fun m=>decide (totF o ds m<totF o ds s)<;>rfl
theorem eloc_run{o:List Int}{ds:List (List Int)}(hf:Fld o ds):∀ (m:Nat) {s:List Int} (many:Int),0≤many→many+(m:Int)≤1000000000→ris o.length s→s≠ []→totF o ds s≤(m:Int)→
  wcc (o,ds) (many,((optB (betterOf o ds s)).1,(s,(optB (betterOf o ds s)).2)))=some (many+((locN o ds m s).1:Int),(locN o ds m s).2):=by
 have out:∀ {s:List Int} (many:Int),betterOf o ds s=none→wcc (o,ds) (many,((optB (betterOf o ds s)).1,(s,(optB (betterOf o ds s)).2)))=some (many,s):=fun{s} many hb=>by
  rw [hb]
  unfold wcc
  rw [iter_eq]
  simp (disch:=omega) only [EV,wcb,optB]
 intro m
 induction m with
 |zero=>
  intro s many h1 h2 hs h0 ht
  have hb:betterOf o ds s=none:=by
   cases hb:betterOf o ds s with
   |none=>rfl
   |some t=>
    obtain⟨a,b,c⟩:=betterOf_some hs hb
    have:=tot_in hf a b
    omega
  rw [out many hb]
  simp [locN]
 |succ m ih=>
  intro s many h1 h2 hs h0 ht
  cases hb:betterOf o ds s with
  |none=>
   have:=out many hb
   rw [hb] at this
   rw [this]
   simp [locN,hb]
  |some t=>
   obtain⟨a,b,c⟩:=betterOf_some hs hb
   have e1:=ebetter_eq hf a b
   have hw:IntKind.wrap .i64 (many+1)=many+1:=wrap64 (by omega) (by omega)
   have aa:=ih (s:=t) (many+1) (by omega) (by omega) a b (by omega)
   unfold wcc at aa⊢
   rw [iter_eq]
   have ab:(wcb (o,ds) (many,((optB (some t)).1,(s,(optB (some t)).2)))).ev=some (.inl (many+1,((optB (betterOf o ds t)).1,(t,(optB (betterOf o ds t)).2)))):=by
    simp (disch:=omega) only [EV,wcb,optB,e1,hw]
   rw [ab]
   simp only
   rw [aa]
   simp only [locN,hb,xc,xdb,and_true]
   omega
theorem elocal_eq{o:List Int}{ds:List (List Int)}(ho:Low1 o)(hd:Low2 ds){s:List Int}(hs:Low1 s):wsy o ds s=some (bif openB o ds s then(((locOf o ds s).1:Int),(true,(locOf o ds s).2)) else(0,(false,[]))):=by
 have e1:=l2Two_eq ho hd hs
 unfold wsy wsx
 rw [Tr.ev_c,e1,xf,Tr.ev_t]
 cases hb:openB o ds s with
 |false=>rfl
 |true=>
  obtain⟨hf,hp,h0⟩:=openB_iff hs hb
  have hr:ris o.length s:=by
   unfold openB at hb
   simp only [xg] at hb
   exact ris_iff.1 hb.2.1
  have aa:s≠ []:=xay.1 h0
  have hl:=hr.len
  have h7:=hf.len
  have e2:=eown_eq (l:=s) (by omega)
  have e3:=ebetter_eq hf hr aa
  have e4:=eloc_run hf 103809717 (s:=s) 0 (by omega) (by omega) hr aa (tot_in hf hr aa).2
  rw [xbv,cond_false,Tr.ev_c,e2,xf,Tr.ev_c,e3,xf,Tr.ev_c,e4,xf,Tr.ev_l,cond_true,Int.zero_add]
  rfl
def bestOf(o:List Int)(ds:List (List Int)):List Int:=firstMin (totF o ds) (setsOf o.length)
theorem sets_ris{n:Nat}(h1:1≤n)(h7:n≤7){s:List Int}(hs:s∈setsOf n):ris n s∧s≠ []:=by
 obtain⟨a,b,_⟩:=(setsP h1 h7).rising s hs
 exact⟨ris_iff.1 a,xay.1 b⟩
theorem sets_ne{n:Nat}(h1:1≤n)(h7:n≤7):setsOf n≠ []:=fun e=>by
 have:=(setsP h1 h7).len
 rw [e] at this
 have h2:2^1≤2^n:=Nat.pow_le_pow_right (by omega) h1
 simp at this
 omega
theorem bestOf_mem{o:List Int}{ds:List (List Int)}(hf:Fld o ds):bestOf o ds∈setsOf o.length∧∀s∈setsOf o.length,totF o ds (bestOf o ds)≤totF o ds s:=by
 obtain⟨a,b⟩:=firstMin_spec (g:=totF o ds) (sets_ne hf.pos hf.len)
 refine⟨a,fun s hs=>?_⟩
 show totF o ds (firstMin (totF o ds) (setsOf o.length))≤_
 rw [b]
 exact(lstMin_spec (fun e=>sets_ne hf.pos hf.len (List.map_eq_nil_iff.1 e))).2 _ (xcm hs)
theorem ebest_eq{o:List Int}{ds:List (List Int)}(hf:Fld o ds):wto o ds=some (bestOf o ds):=by
 have hS:=setsP hf.pos hf.len
 have ai:=sets_ne hf.pos hf.len
 have hl:=setsP_len hS hf.len
 have e1:=hS.sp
 have hr:∀s∈setsOf o.length,wdw o ds s=some (totF o ds s):=fun s hs=>by
  obtain⟨a,b⟩:=sets_ris hf.pos hf.len hs
  exact etotal_eq hf a b
 unfold bestOf
 generalize setsOf o.length=L at*
 have af:0<L.length:=xay.2 ai
 have h:=iter_cnt (f:=fun v=>(wcd (L,(o,ds)) v).ev) (n:=L.length-1) (fun i v=>v=(firstMin (totF o ds) (L.take (i+1)),((i+1:Nat):Int))) (fun r=>r=firstMin (totF o ds) L)
  (fun i v hi hv=>by
   subst hv
   have ab:i+1<L.length:=by omega
   have aa:L.take (i+1)≠ []:=fun e=>by
    have:=congrArg List.length e
    rw [xw] at this
    simp only [xai] at this
    omega
   have aj:=(firstMin_spec (g:=totF o ds) aa).1
   have e2:=hr _ (xcg aj)
   have e3:=hr _ (getD_mem (d:=[]) ab)
   have ah:=firstMin_snoc (g:=totF o ds) aa (L.getD (i+1) [])
   rw [←take_snoc [] ab] at ah
   refine⟨_,?_,rfl⟩
   have hw:IntKind.wrap .i64 (((i+1:Nat):Int)+1)=((i+1+1:Nat):Int):=by rw [wrap64 (by omega) (by omega)];rfl
   have ad:((i+1:Nat):Int)<((L.length:Nat):Int):=by omega
   have ae:=inR_nat ab
   unfold wcd
   dsimp only
   rw [Tr.ev_t,decide_eq_true ad,cond_true,Tr.ev_g,ae,cond_true,Tr.ev_c,xbx,e3,xf,Tr.ev_c,e2,xf,Tr.ev_t,hw,ah]
   by_cases hc:totF o ds (L.getD (i+1) [])<totF o ds (firstMin (totF o ds) (L.take (i+1)))
   ·rw [decide_eq_true hc,cond_true,if_pos hc,Tr.ev_g,cond_true,Tr.ev_l]
   ·rw [decide_eq_false hc,cond_false,if_neg hc,Tr.ev_l])
  (fun v hv=>by
   subst hv
   have ad:¬((L.length-1+1:Nat):Int)<((L.length:Nat):Int):=by omega
   refine⟨firstMin (totF o ds) (List.take (L.length-1+1) L),?_,by rw [xah (by omega)]⟩
   unfold wcd
   dsimp only
   rw [Tr.ev_t,decide_eq_false ad,cond_false,Tr.ev_l])
  (v:=(L.getD 0 [],1)) (by
   have h1:=take_snoc (l:=L) (i:=0) [] af
   rw [xge,xbu] at h1
   rw [h1,firstMin_one]
   rfl)
 obtain⟨r,h1,rfl⟩:=h
 have hL:whw (L,(o,ds)) (L.getD 0 [],1)=some (firstMin (totF o ds) L):=h1
 unfold wto wtn
 have ae:inR (0:Int) L.length=true:=inR_int (by omega) (by omega)
 rw [Tr.ev_c,e1,xf,Tr.ev_g,ae,cond_true,Tr.ev_c]
 have ht:Int.toNat 0=0:=rfl
 rw [ht,hL,xf,Tr.ev_l]
end Go.Proofs.YteiekijgoifhoaaGreatDoor
