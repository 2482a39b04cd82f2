/-
 Plain laws: edits of atlases as the reference makes them.
-/
import Derived.Test.YteiekijgoifhoaaGreatDoorP47
import Derived.Test.YteiekijgoifhoaaGreatDoorP8
import Derived.Test.YteiekijgoifhoaaGreatDoorP46
namespace Go.Proofs.YteiekijgoifhoaaGreatDoor
structure Atl(o:List Int)(ds:List (List Int))(s:List Int)(n:Int):Prop where
 fld:Fld o ds
 set:ris o.length s
 count:0≤n∧n≤1000
theorem atl_iff{o:List Int}{ds:List (List Int)}{s:List Int}{n:Int}:atlasB o ds s n=true↔Atl o ds s n:=by
 unfold atlasB
 rw [xg,xg,fieldB_iff,ris_iff,isIn_iff]
 exact⟨fun⟨a,b,c⟩=>⟨a,b,c⟩,fun h=>⟨h.fld,h.set,h.count⟩⟩
theorem fld_low{o:List Int}{ds:List (List Int)}(h:Fld o ds):Low1 o∧Low2 ds:=by
 have h1:=h.len
 have h2:=h.clients
 refine⟨by unfold Low1;omega,by omega,fun r hr=>?_⟩
 obtain⟨j,hj,e⟩:=xdj.1 hr
 have h3:=h.rowLen j hj
 rw [xd,xh hj,xax,e] at h3
 unfold Low1
 omega
theorem fld_row{o:List Int}{ds:List (List Int)}(h:Fld o ds):∀r∈ds,r.length=o.length:=fun r hr=>by
 obtain⟨j,hj,e⟩:=xdj.1 hr
 have h3:=h.rowLen j hj
 rwa [xd,xh hj,xax,e] at h3
theorem erows_copy{f:Int×List (List Int)→Option ((Int×List (List Int))⊕List (List Int))}{x:List (List Int)}
  (aa:∀i:Nat,i<x.length→f ((i:Int),x.take i)=some (.inl (((i+1:Nat):Int),x.take i++ [x.getD i []]))) (ab:f ((x.length:Int),x)=some (.inr x)):iter f (0,[])=some x:=by
 have:=(iter_fold (f:=f) (n:=x.length) (mk:=fun i (_:Unit)=>((i:Int),x.take i)) (I:=fun _ _=>True) (g:=fun s _=>s) (fin:=fun _=>x) (s0:=()) trivial
  (fun i s hi _=>⟨by rw [aa i hi,take_snoc [] hi],trivial⟩)
  (fun s _=>by rw [xct,ab])).1
 simpa using this
theorem eown12_loop{ds:List (List Int)}(hd:ds.length≤1000)(hr:∀r∈ds,r.length≤1000)(k:(List (Int))×((List (List (Int)))×((List (Int))×((Int)×((Int)×((List (List (Int)))×(List (Int))))))))(hk:k.2.1=ds):whd k (0,[])=some ds:=by
 have h0:=erows_copy (f:=fun v=>(wbw k v).ev) (x:=ds)
  (fun i hi=>by
   have ht:(ds.take i).length≤i:=List.length_take_le _ _
   have r1:=room24 (ds.take i) (by omega)
   have e1:=eown_eq (l:=ds.getD i []) (by have:=hr _ (getD_mem (d:=[]) hi);omega)
   simp (disch:=omega) only [EV,wbw,hk,hi,e1,set_end,r1]
   rfl)
  (by simp (disch:=omega) only [EV,wbw,hk,xo])
 exact h0
theorem eown12_eq{o s:List Int}{ds:List (List Int)}(ho:o.length≤1000)(hd:ds.length≤1000)(hr:∀r∈ds,r.length≤1000)(hs:s.length≤1000)(c:Int):wmc o ds s c=some (c,(o,(ds,s))):=by
 unfold wmc wsb
 rw [Tr.ev_c,eown_eq (l:=o) (by omega),xf,Tr.ev_c,eown12_loop hd hr _ rfl,xf,Tr.ev_c,eown_eq (l:=s) (by omega),xf,Tr.ev_l]
theorem map_step{α:Type}(f:α→α)(d:α){l:List α}{i:Nat}(hi:i<l.length):((l.take i).map f++l.drop i).getD i d=l.getD i d∧((l.take i).map f++l.drop i).set i (f (l.getD i d))=(l.take (i+1)).map f++l.drop (i+1)∧((l.take i).map f++l.drop i).length=l.length:=by
 have hl:((l.take i).map f).length=i:=by rw [xaw,xw];omega
 have hd:=xcb hi
 have hg:l.getD i d=l[i]:=by rw [xd,xh hi];rfl
 refine⟨?_,?_,?_⟩
 ·rw [xd,xz (by omega),hl,xdr,hd,hg]
  rfl
 ·rw [xce _ _ (by omega),hl,xdr,hd,List.set_cons_zero,take_snoc d hi,xez,xcx]
  rfl
 ·rw [xj,hl,xap]
  omega
theorem iter_map{α:Type}{f:Int×List α→Option ((Int×List α)⊕List α)}(g:α→α)(d:α){l:List α}
  (aa:∀ (i:Nat) (x:List α),i<l.length→x.length=l.length→x.getD i d=l.getD i d→f ((i:Int),x)=some (.inl (((i+1:Nat):Int),x.set i (g (l.getD i d)))))
  (ab:∀x:List α,x.length=l.length→f ((l.length:Int),x)=some (.inr x)):iter f (0,l)=some (l.map g):=by
 have:=(iter_fold (f:=f) (n:=l.length) (mk:=fun i (_:Unit)=>((i:Int),(l.take i).map g++l.drop i)) (I:=fun _ _=>True) (g:=fun s _=>s) (fin:=fun _=>l.map g) (s0:=()) trivial
  (fun i s hi _=>by
   obtain⟨h1,h2,h3⟩:=map_step g d hi
   exact⟨by rw [aa i _ hi h3 h1,h2],trivial⟩)
  (fun s _=>by rw [xct,List.drop_length,xas,ab _ (by simp)])).1
 simpa using this
theorem set_self{α:Type}{l:List α}{i:Nat}(d:α)(hi:i<l.length):l.set i (l.getD i d)=l:=by
 rw [xd,xh hi,xax,List.set_getElem_self]
def decAbove(a x:Int):Int:=if a<x then x-1 else x
theorem edrop_eq{o s:List Int}{ds:List (List Int)}{n:Int}(h:Atl o ds s n){a:Int}(h0:0≤a)(ha:a<(o.length:Int)):wsh o ds s n a=some (n,(cutAt a o,(ds.map (cutAt a),s.map (decAbove a)))):=by
 have h7:=h.fld.len
 have hm:=h.fld.clients
 have ab:=fld_row h.fld
 have ai:=h.set.len
 have e1:=eown12_eq (o:=o) (ds:=ds) (s:=s) (by omega) (by omega) (fun r hr=>by have:=ab r hr;omega) (by omega) n
 have e2:=ecut_eq (l:=o) (by omega) h0 ha
 have l1:=iter_map (f:=fun v=>(wbx (a,(o,(ds,(s,(n,((0:Int),(n,(cutAt a o,s)))))))) v).ev) (cutAt a) [] (l:=ds)
  (fun i x hi hx hg=>by
   have aj:=ab _ (getD_mem (d:=[]) hi)
   have e3:=ecut_eq (l:=ds.getD i []) (by omega) h0 (by omega)
   have aa:i<x.length:=by omega
   simp (disch:=omega) only [EV,wbx,hi,aa,e3]
   rfl)
  (fun x hx=>by simp (disch:=omega) only [EV,wbx,xo])
 have l2:=iter_map (f:=fun v=>(waw (a,((0:Int),(n,(cutAt a o,ds.map (cutAt a))))) v).ev) (decAbove a) 0 (l:=s)
  (fun i x hi hx hg=>by
   have aa:i<x.length:=by omega
   have hv:=h.set.1 _ (getD_mem (d:=0) hi)
   have hw:IntKind.wrap .i64 (s.getD i 0-1)=s.getD i 0-1:=wrap64 (by omega) (by omega)
   unfold decAbove
   by_cases ae:a<s.getD i 0
   ·simp (disch:=omega) only [EV,waw,aa,hg,ae,hw]
    rfl
   ·have ad:x.set i (s.getD i 0)=x:=by rw [←hg];exact set_self 0 aa
    simp (disch:=omega) only [EV,waw,aa,hg,ae,ad]
    rfl)
  (fun x hx=>by
   have hn:¬s.length<x.length:=by omega
   simp (disch:=omega) only [EV,waw,hn])
 have af:whf (a,(o,(ds,(s,(n,((0:Int),(n,(cutAt a o,s)))))))) (0,ds)=some (ds.map (cutAt a)):=l1
 have ah:whg (a,((0:Int),(n,(cutAt a o,ds.map (cutAt a))))) (0,s)=some (s.map (decAbove a)):=l2
 unfold wsh wsg
 rw [Tr.ev_c,e1,xf,Tr.ev_c,e2,xf,Tr.ev_c,af,xf,Tr.ev_c,ah,xf,Tr.ev_l]
def editOf(o:List Int)(ds:List (List Int))(s:List Int)(k a b c:Int)(l:List Int):List Int×List (List Int)×List Int:=
 if k=1 then(o,ds,ins a s)
 else if k=2 then(o,ds,wo s a)
 else if k=3 then(o,ds,ins b (wo s a))
 else if k=4 then(o.set a.toNat b,ds,s)
 else if k=5 then(o,ds.set a.toNat ((ds.getD a.toNat []).set b.toNat c),s)
 else if k=6 then(o++ [a],List.zipWith (fun r x=>r++ [x]) ds l,s)
 else if k=7 then(o,ds++ [l],s)
 else if k=8 then(cutAt a o,ds.map (cutAt a),s.map (decAbove a))
 else if k=9 then(o,cutAt a ds,s)
 else if k=10 then(o,ds,(locOf o ds s).2)
 else if k=11 then(o,ds,bestOf o ds)
 else(o,ds,s)
def Sm(x:List Int×List (List Int)×List Int):Prop:=Low1 x.1∧Low2 x.2.1∧Low1 x.2.2
theorem atl_open{o s:List Int}{ds:List (List Int)}{n:Int}(h:Atl o ds s n)(h0:s≠ []):openB o ds s=true:=by
 unfold openB
 rw [fieldB_iff.2 h.fld,ris_iff.2 h.set,decide_eq_true (xay.2 h0)]
 rfl
theorem zip_step{ds:List (List Int)}{l:List Int}{i:Nat}(hi:i<ds.length)(hl:l.length=ds.length):∀ {x:List (List Int)},x=List.zipWith (fun r y=>r++ [y]) (ds.take i) (l.take i)++ds.drop i→
  x.getD i []=ds.getD i []∧x.length=ds.length∧x.set i (ds.getD i []++ [l.getD i 0])=List.zipWith (fun r y=>r++ [y]) (ds.take (i+1)) (l.take (i+1))++ds.drop (i+1):=by
 intro x hx
 subst hx
 have hz:(List.zipWith (fun r y=>r++ [y]) (ds.take i) (l.take i)).length=i:=by simp;omega
 have hd:=xcb hi
 have hg:ds.getD i []=ds[i]:=by rw [xd,xh hi];rfl
 refine⟨?_,?_,?_⟩
 ·rw [xd,xz (by omega),hz,xdr,hd,hg]
  rfl
 ·rw [xj,hz,xap];omega
 ·rw [xce _ _ (by omega),hz,xdr,hd,List.set_cons_zero,take_snoc [] hi,take_snoc 0 (show i<l.length by omega),List.zipWith_append (by simp;omega),xcx]
  rfl
theorem emake_site{ds:List (List Int)}{l:List Int}(hl:l.length=ds.length)(hd:ds.length≤7)(hr:∀r∈ds,r.length≤7)(k:(Int)×((Int)×((Int)×((Int)×((List (Int))×((Int)×((Int)×((List (Int))×((List (Int))×((List (Int))×(List (Int))))))))))))(hk:k.2.2.2.2.1=l):
  wej k (0,ds)=some (List.zipWith (fun r x=>r++ [x]) ds l):=by
 have h:=(iter_fold (f:=fun v=>(wce k v).ev) (n:=ds.length) (mk:=fun i (x:List (List Int))=>((i:Int),x)) (I:=fun i x=>x=List.zipWith (fun r y=>r++ [y]) (ds.take i) (l.take i)++ds.drop i) (g:=fun x i=>x.set i (ds.getD i []++ [l.getD i 0])) (fin:=fun s=>s) (s0:=ds) (by simp)
  (fun i x hi hx=>by
   obtain⟨z1,z2,z3⟩:=zip_step hi hl hx
   refine⟨?_,z3⟩
   have aa:i<l.length:=by omega
   have ab:i<x.length:=by omega
   have r1:=room8 (ds.getD i []) (l.getD i 0) (by have:=hr _ (getD_mem (d:=[]) hi);omega)
   simp (disch:=omega) only [EV,wce,hk,aa,ab,z1,r1]
   rfl)
  (fun x hx=>by
   have hn:¬ds.length<l.length:=by omega
   simp (disch:=omega) only [EV,wce,hk,hn]))
 obtain⟨h1,h2⟩:=h
 have h3:wej k (0,ds)=_:=h1
 rw [h3,h2,xct,List.drop_length,xas,xah (by omega)]
theorem emake_eq{o s:List Int}{ds:List (List Int)}{n:Int}(h:Atl o ds s n){k a b c:Int}{l:List Int}(hl:Low1 l)(hm:mayB o.length ds.length s k a b l=true):
  wtq o ds s n k a b c l=some (n,editOf o ds s k a b c l)∧Sm (editOf o ds s k a b c l):=by
 have h7:=h.fld.len
 have hp:=h.fld.pos
 have hc:=h.fld.clients
 have af:=fld_row h.fld
 have av:=h.set.len
 obtain⟨lo,ld⟩:=fld_low h.fld
 have ls:Low1 s:=h.set.low h7
 have e1:=eown12_eq (o:=o) (ds:=ds) (s:=s) (by omega) (by omega) (fun r hr=>by have:=af r hr;omega) (by omega) n
 have ab:∀ {m:Nat} {x:Int},siteB m x=true→0≤x∧x<(m:Int):=fun{m x} hx=>by
  have:=isIn_iff.1 hx
  omega
 have ad:∀ {x:Int},closedB o.length s x=true→(0≤x∧x<(o.length:Int))∧x∉s:=fun{x} hx=>by
  unfold closedB at hx
  rw [xg,xat] at hx
  exact⟨ab hx.1,not_contains hx.2⟩
 have aa:∀ {x:List Int},x.length≤1000→Low1 x:=fun{x} hx=>by unfold Low1;omega
 unfold wtq wtp
 rw [Tr.ev_c,e1,xf]
 dsimp only
 by_cases h1:k=1
 ·subst h1
  obtain⟨q1,q2⟩:=ad hm
  have e2:=eput_eq (l:=s) (x:=a) (by omega) q2
  refine⟨?_,lo,ld,aa (by show(ins a s).length≤1000;rw [eins_len];omega)⟩
  rw [Tr.ev_t,show((1:Int)==1)=true from rfl,cond_true,Tr.ev_c,e2]
  rfl
 by_cases h2:k=2
 ·subst h2
  have e2:=ewithout_eq (l:=s) (by omega) a
  refine⟨?_,lo,ld,aa (by have:=wo_len s a;show(wo s a).length≤1000;omega)⟩
  rw [Tr.ev_t,show((2:Int)==1)=false from rfl,cond_false,Tr.ev_t,show((2:Int)==2)=true from rfl,cond_true,Tr.ev_c,e2]
  rfl
 by_cases h3:k=3
 ·subst h3
  have ae:(s.contains a&&closedB o.length s b)=true:=hm
  rw [xg] at ae
  obtain⟨q1,q2⟩:=ad ae.2
  have e2:=ewithout_eq (l:=s) (by omega) a
  have aw:=wo_len s a
  have e3:=eput_eq (l:=wo s a) (x:=b) (by omega) (wo_notin q2)
  unfold wo at e3
  refine⟨?_,lo,ld,aa (by show(ins b (wo s a)).length≤1000;rw [eins_len];omega)⟩
  simp only [Tr.ev_t,show((3:Int)==1)=false from rfl,show((3:Int)==2)=false from rfl,show((3:Int)==3)=true from rfl,cond_true,cond_false,Tr.ev_c,e2,xf,e3]
  rfl
 by_cases h4:k=4
 ·subst h4
  have hs:=ab (show siteB o.length a=true from hm)
  have i1:inR a o.length=true:=inR_int (by omega) (by omega)
  have i2:a.toNat<o.length:=by omega
  refine⟨?_,aa (by show(o.set a.toNat b).length≤1000;rw [xar];omega),ld,ls⟩
  simp only [Tr.ev_t,show((4:Int)==1)=false from rfl,show((4:Int)==2)=false from rfl,show((4:Int)==3)=false from rfl,show((4:Int)==4)=true from rfl,cond_true,cond_false,Tr.ev_g,i1,decide_eq_true i2]
  rfl
 by_cases h5:k=5
 ·subst h5
  have ae:(siteB ds.length a&&siteB o.length b)=true:=hm
  rw [xg] at ae
  have q1:=ab ae.1
  have q2:=ab ae.2
  have i2:a.toNat<ds.length:=by omega
  have ay:=af _ (getD_mem (d:=[]) i2)
  have i1:inR a ds.length=true:=inR_int (by omega) (by omega)
  have i3:inR b (ds.getD a.toNat []).length=true:=inR_int (by omega) (by omega)
  have i4:b.toNat<(ds.getD a.toNat []).length:=by omega
  refine⟨?_,lo,⟨by show((ds.set a.toNat ((ds.getD a.toNat []).set b.toNat c)).length:Int)≤_;rw [xar];omega,fun r hr=>?_⟩,ls⟩
  ·simp only [Tr.ev_t,show((5:Int)==1)=false from rfl,show((5:Int)==2)=false from rfl,show((5:Int)==3)=false from rfl,show((5:Int)==4)=false from rfl,show((5:Int)==5)=true from rfl,cond_true,cond_false,Tr.ev_g,i1,decide_eq_true i2,i3,decide_eq_true i4]
   rfl
  ·rcases xca (show r∈ds.set a.toNat ((ds.getD a.toNat []).set b.toNat c) from hr) with hr|rfl
   ·exact ld.2 r hr
   ·exact aa (by rw [xar];omega)
 by_cases h6:k=6
 ·subst h6
  have ae:((((l.length:Nat):Int))==((ds.length:Nat):Int))=true:=hm
  have ak:l.length=ds.length:=by have:=eq_of_beq ae;omega
  have r1:=room8 o a (by omega)
  have e2:=fun k=>emake_site (l:=l) (ds:=ds) ak hc (fun r hr=>by have:=af r hr;omega) k
  refine⟨?_,aa (by show(o++ [a]).length≤1000;simp;omega),⟨by show((List.zipWith (fun r x=>r++ [x]) ds l).length:Int)≤_;simp;omega,fun r hr=>?_⟩,ls⟩
  ·simp only [Tr.ev_t,show((6:Int)==1)=false from rfl,show((6:Int)==2)=false from rfl,show((6:Int)==3)=false from rfl,show((6:Int)==4)=false from rfl,show((6:Int)==5)=false from rfl,show((6:Int)==6)=true from rfl,cond_true,cond_false,Tr.ev_g,decide_eq_true r1,Tr.ev_c]
   rw [e2 _ rfl]
   rfl
  ·obtain⟨j,hj,e⟩:=xdj.1 (show r∈List.zipWith (fun r x=>r++ [x]) ds l from hr)
   rw [List.getElem_zipWith] at e
   subst e
   rw [List.length_zipWith] at hj
   exact aa (by have:=af _ (xet (show j<ds.length by omega));simp;omega)
 by_cases ah:k=7
 ·subst ah
  have e2:=eown_eq (l:=l) (by unfold Low1 at hl;omega)
  have r1:=room24 ds (by omega)
  refine⟨?_,lo,⟨by show((ds++ [l]).length:Int)≤_;simp;omega,fun r hr=>?_⟩,ls⟩
  ·simp only [Tr.ev_t,show((7:Int)==1)=false from rfl,show((7:Int)==2)=false from rfl,show((7:Int)==3)=false from rfl,show((7:Int)==4)=false from rfl,show((7:Int)==5)=false from rfl,show((7:Int)==6)=false from rfl,show((7:Int)==7)=true from rfl,cond_true,cond_false,Tr.ev_c,e2,xf,Tr.ev_g,decide_eq_true r1,set_end]
   rfl
  ·rcases xq.1 (show r∈ds++ [l] from hr) with hr|hr
   ·exact ld.2 r hr
   ·rw [xt.1 hr];exact hl
 by_cases h8:k=8
 ·subst h8
  obtain⟨q1,q2⟩:=ad (x:=a) hm
  have e2:=edrop_eq h q1.1 q1.2
  have al:=cutAt_len (l:=o) q1.1 q1.2
  refine⟨?_,aa (by show(cutAt a o).length≤1000;omega),⟨by show((ds.map (cutAt a)).length:Int)≤_;simp;omega,fun r hr=>?_⟩,aa (by show(s.map (decAbove a)).length≤1000;simp;omega)⟩
  ·simp only [Tr.ev_t,show((8:Int)==1)=false from rfl,show((8:Int)==2)=false from rfl,show((8:Int)==3)=false from rfl,show((8:Int)==4)=false from rfl,show((8:Int)==5)=false from rfl,show((8:Int)==6)=false from rfl,show((8:Int)==7)=false from rfl,show((8:Int)==8)=true from rfl,cond_true,cond_false,Tr.ev_c,e2]
   rfl
  ·obtain⟨r',ao,rfl⟩:=xae.1 (show r∈ds.map (cutAt a) from hr)
   have:=af r' ao
   have:=cutAt_len (l:=r') q1.1 (by omega)
   exact aa (by omega)
 by_cases h9:k=9
 ·subst h9
  have q1:=ab (show siteB ds.length a=true from hm)
  have hw:IntKind.wrap .i64 (a+1)=a+1:=wrap64 (by omega) (by omega)
  have ht:(a+1).toNat=a.toNat+1:=by omega
  have g1:(decide (0≤a)&&decide (a≤((ds.length:Nat):Int)))=true:=by rw [decide_eq_true (by omega),decide_eq_true (by omega)];rfl
  have g2:(decide (0≤a+1)&&decide (a+1≤((ds.length:Nat):Int)))=true:=by rw [decide_eq_true (by omega),decide_eq_true (by omega)];rfl
  have g3:(decide (a.toNat≤a.toNat+1)&&decide ((a.toNat+(ds.length-(a.toNat+1)))*24≤140737488355328))=true:=by rw [decide_eq_true (by omega),decide_eq_true (by omega)];rfl
  have al:=cutAt_len (l:=ds) q1.1 q1.2
  refine⟨?_,lo,⟨by show((cutAt a ds).length:Int)≤_;omega,fun r hr=>ld.2 r (cutAt_mem hr)⟩,ls⟩
  simp only [Tr.ev_t,show((9:Int)==1)=false from rfl,show((9:Int)==2)=false from rfl,show((9:Int)==3)=false from rfl,show((9:Int)==4)=false from rfl,show((9:Int)==5)=false from rfl,show((9:Int)==6)=false from rfl,show((9:Int)==7)=false from rfl,show((9:Int)==8)=false from rfl,show((9:Int)==9)=true from rfl,cond_true,cond_false,Tr.ev_g,hw,ht,g1,g2,g3]
  rfl
 by_cases ai:k=10
 ·subst ai
  have ae:decide ((0:Int)<((s.length:Nat):Int))=true:=hm
  have h0:s≠ []:=xay.1 (by have:=of_decide_eq_true ae;omega)
  have e2:=elocal_eq lo ld ls
  rw [atl_open h h0,cond_true] at e2
  have au:=(locOf_spec h.fld h.set h0).1
  refine⟨?_,lo,ld,au.low h7⟩
  simp only [Tr.ev_t,show((10:Int)==1)=false from rfl,show((10:Int)==2)=false from rfl,show((10:Int)==3)=false from rfl,show((10:Int)==4)=false from rfl,show((10:Int)==5)=false from rfl,show((10:Int)==6)=false from rfl,show((10:Int)==7)=false from rfl,show((10:Int)==8)=false from rfl,show((10:Int)==9)=false from rfl,show((10:Int)==10)=true from rfl,cond_true,cond_false,Tr.ev_c,e2]
  rfl
 by_cases aj:k=11
 ·subst aj
  have e2:=ebest_eq h.fld
  have hb:=(sets_ris hp h7 (bestOf_mem h.fld).1).1
  have az:=hb.len
  have e3:=eown_eq (l:=bestOf o ds) (by omega)
  refine⟨?_,lo,ld,hb.low h7⟩
  simp only [Tr.ev_t,show((11:Int)==1)=false from rfl,show((11:Int)==2)=false from rfl,show((11:Int)==3)=false from rfl,show((11:Int)==4)=false from rfl,show((11:Int)==5)=false from rfl,show((11:Int)==6)=false from rfl,show((11:Int)==7)=false from rfl,show((11:Int)==8)=false from rfl,show((11:Int)==9)=false from rfl,show((11:Int)==10)=false from rfl,show((11:Int)==11)=true from rfl,cond_true,cond_false,Tr.ev_c,e2,xf,e3]
  rfl
 have he:editOf o ds s k a b c l=(o,ds,s):=by
  unfold editOf
  rw [if_neg h1,if_neg h2,if_neg h3,if_neg h4,if_neg h5,if_neg h6,if_neg ah,if_neg h8,if_neg h9,if_neg ai,if_neg aj]
 rw [he]
 refine⟨?_,lo,ld,ls⟩
 simp only [Tr.ev_t,Tr.ev_l,beq_eq_false_iff_ne.2 h1,beq_eq_false_iff_ne.2 h2,beq_eq_false_iff_ne.2 h3,beq_eq_false_iff_ne.2 h4,beq_eq_false_iff_ne.2 h5,beq_eq_false_iff_ne.2 h6,beq_eq_false_iff_ne.2 ah,beq_eq_false_iff_ne.2 h8,beq_eq_false_iff_ne.2 h9,beq_eq_false_iff_ne.2 ai,beq_eq_false_iff_ne.2 aj,cond_false]
def doOf(o:List Int)(ds:List (List Int))(s:List Int)(n k a b c:Int)(l:List Int):Option (Int×List Int×List (List Int)×List Int):=
 bif plainB k a b c l&&(mayB o.length ds.length s k a b l&&atlasB (editOf o ds s k a b c l).1 (editOf o ds s k a b c l).2.1 (editOf o ds s k a b c l).2.2 (n+1)) then some (n+1,editOf o ds s k a b c l) else none
theorem doOf_atl{o s:List Int}{ds:List (List Int)}{n k a b c:Int}{l:List Int}{y:Int×List Int×List (List Int)×List Int}(h:doOf o ds s n k a b c l=some y):Atl y.2.1 y.2.2.1 y.2.2.2 y.1:=by
 unfold doOf at h
 cases hb:(plainB k a b c l&&(mayB o.length ds.length s k a b l&&atlasB (editOf o ds s k a b c l).1 (editOf o ds s k a b c l).2.1 (editOf o ds s k a b c l).2.2 (n+1))) with
 |false=>rw [hb] at h;cases h
 |true=>
  rw [hb] at h
  cases h
  simp only [xg] at hb
  exact atl_iff.1 hb.2.2
def doT(x:Option (Int×List Int×List (List Int)×List Int)):Int×Bool×List Int×List (List Int)×List Int:=match x with
 |some y=>(y.1,true,y.2)
 |none=>(0,false,[],[],[])
theorem edo_eq{o s:List Int}{ds:List (List Int)}{n:Int}(h:Atl o ds s n)(k a b c:Int){l:List Int}(hl:Low1 l):wts o ds s n k a b c l=some (doT (doOf o ds s n k a b c l)):=by
 have h7:=h.fld.len
 have hc:=h.fld.clients
 have aa:=h.set.len
 have hn:=h.count
 have hw:IntKind.wrap .i64 (n+1)=n+1:=wrap64 (by omega) (by omega)
 unfold wts wtr doOf
 rw [Tr.ev_c,eplain_eq,xf,Tr.ev_t]
 cases plainB k a b c l with
 |false=>rfl
 |true=>
  rw [xbv,cond_false,Tr.ev_c,emay_eq (by omega) (by omega) (by omega),xf,Tr.ev_t]
  cases hm:mayB o.length ds.length s k a b l with
  |false=>rfl
  |true=>
   obtain⟨e1,q1,q2,q3⟩:=emake_eq h (c:=c) hl hm
   rw [xbv,cond_false,Tr.ev_c,e1,xf,Tr.ev_c,hw]
   dsimp only
   rw [l12Good_eq q1 q2 q3,xf,Tr.ev_t]
   cases atlasB (editOf o ds s k a b c l).1 (editOf o ds s k a b c l).2.1 (editOf o ds s k a b c l).2.2 (n+1)<;>rfl
end Go.Proofs.YteiekijgoifhoaaGreatDoor
/-
 Plain laws: the drawing of fields comes to an end.
-/
namespace Go.Proofs.YteiekijgoifhoaaGreatDoor
theorem iter_cntE{V R:Type}{f:V→Option (V⊕R)}{n:Nat}(P:Nat→V→Prop)(Q:R→Prop)(hs:∀k v,k<n→P k v→(∃v',f v=some (.inl v')∧P (k+1) v')∨∃r,f v=some (.inr r)∧Q r)(he:∀v,P n v→∃r,f v=some (.inr r)∧Q r){v:V}(h0:P 0 v):∃r,iter f v=some r∧Q r:=by
 have key:∀m k v,k+m=n→P k v→∃r,iter f v=some r∧Q r:=by
  intro m
  induction m with
  |zero=>
   intro k v hk hp
   have:k=n:=by omega
   subst this
   obtain⟨r,h1,h2⟩:=he v hp
   exact⟨r,by rw [iter_eq,h1],h2⟩
  |succ m ih=>
   intro k v hk hp
   rcases hs k v (by omega) hp with⟨v',h1,h2⟩|⟨r,h1,h2⟩
   ·obtain⟨r,h3,h4⟩:=ih (k+1) v' (by omega) h2
    exact⟨r,by rw [iter_eq,h1];exact h3,h4⟩
   ·exact⟨r,by rw [iter_eq,h1],h2⟩
 exact key n 0 v (by omega) h0
theorem nat_of{x b:Int}{L:List Int}(h:x∈L)(hL:∀y∈L,0≤y∧y≤b):∃n:Nat,x=(n:Int)∧(n:Int)≤b:=by
 have:=hL x h
 exact⟨x.toNat,by omega,by omega⟩
structure Bx(n:Nat)(d:List (List Int)):Prop where
 hn:n≤7
 hm:d.length≤7
 row:∀r∈d,r.length=n∧∀x∈r,0≤x∧x≤99
theorem Bx.len{n:Nat}{d:List (List Int)}(h:Bx n d){i:Nat}(hi:i<d.length):(d.getD i []).length=n:=(h.row _ (getD_mem hi)).1
theorem Bx.at{n:Nat}{d:List (List Int)}(h:Bx n d){i a:Nat}(hi:i<d.length)(ha:a<n):0≤(d.getD i []).getD a 0∧(d.getD i []).getD a 0≤99:=(h.row _ (getD_mem hi)).2 _ (getD_mem (by rw [h.len hi];exact ha))
theorem getD_setL{α:Type}(l:List α){i:Nat}(hi:i<l.length)(j:Nat)(v d:α):(l.set i v).getD j d=if i=j then v else l.getD j d:=by
 simp only [xd,xcj]
 split
 ·simp [hi]
 ·rfl
theorem Bx.set{n:Nat}{d:List (List Int)}(h:Bx n d){i a:Nat}{x:Int}(hi:i<d.length)(hx:0≤x∧x≤99):Bx n (d.set i ((d.getD i []).set a x))∧(d.set i ((d.getD i []).set a x)).length=d.length:=by
 refine⟨⟨h.hn,by simpa using h.hm,fun r hr=>?_⟩,by simp⟩
 rcases xca hr with h1|rfl
 ·exact h.row r h1
 ·refine⟨by rw [xar];exact h.len hi,fun y hy=>?_⟩
  rcases xca hy with h1|rfl
  ·exact(h.row _ (getD_mem hi)).2 y h1
  ·exact hx
theorem raw0_ok{B:Int}{l:List Int}{i:Int}(k:(Int)×((Int)×((Int)×((Int)×(List (Int)))))){M n:Nat}(hM:M≤7)(ad:k.1=(M:Int))(ae:k.2.1=(n:Int))(hb:1≤k.2.2.2.1)(c:Int)(h:CK B l i)(hB:B≤900000):
  ∃i' c' o,wfy k ((0:Int),(l,(i,(c,([]:List Int)))))=some (l,(i',(c',o)))∧o.length=min M n∧CK (B+14) l i':=by
 obtain⟨r,h1,i',c',o,rfl,h2⟩:=iter_cnt (f:=fun v=>(wak k v).ev) (n:=min M n)
  (fun a v=>∃i c o,v=((a:Int),(l,(i,(c,o))))∧o.length=a∧CK (B+2*a) l i)
  (fun r=>∃i c o,r=(l,(i,(c,o)))∧o.length=min M n∧CK (B+14) l i)
  (fun a v ha hv=>by
   obtain⟨i,c,o,rfl,l1,hc⟩:=hv
   obtain⟨x,i1,c1,e1,_,_,h1⟩:=pick_ok k.2.2.2.1 c hc (by omega) hb
   have r1:=room8 o x (by omega)
   have aa:(a:Int)<k.1:=by omega
   have ab:(a:Int)<k.2.1:=by omega
   refine⟨(((a+1:Nat):Int),(l,(i1,(c1,o++ [x])))),?_,i1,c1,_,rfl,by simp [l1],h1.mono (by omega)⟩
   simp (disch:=omega) only [EV,wak,aa,ab,e1,r1]
   rfl)
  (fun v hv=>by
   obtain⟨i,c,o,rfl,l1,hc⟩:=hv
   by_cases af:M≤n
   ·have aa:¬((min M n:Nat):Int)<k.1:=by omega
    refine⟨_,by simp (disch:=omega) only [EV,wak,aa,ite_self],i,c,o,rfl,l1,hc.mono (by omega)⟩
   ·have aa:((min M n:Nat):Int)<k.1:=by omega
    have ab:¬((min M n:Nat):Int)<k.2.1:=by omega
    refine⟨_,by simp (disch:=omega) only [EV,wak,aa,ab],i,c,o,rfl,l1,hc.mono (by omega)⟩)
  (v:=((0:Int),(l,(i,(c,([]:List Int)))))) ⟨i,c,[],rfl,rfl,h.mono (by omega)⟩
 exact⟨i',c',o,h1,h2⟩
theorem raw4_ok{B:Int}{l:List Int}{i:Int}(k:(Int)×((Int)×((Int)×((Int)×((List (Int))×((List (List (Int)))×((List (Int))×(List (List (Int))))))))))(hn:k.2.2.2.2.2.2.1.length≤7)(hb:1≤k.2.2.1∧k.2.2.1≤20)(c:Int)(h:CK B l i)(hB:B≤900000):
  ∃i' c' row,wfz k ((0:Int),(l,(i,(c,([]:List Int)))))=some (l,(i',(c',row)))∧(row.length=k.2.2.2.2.2.2.1.length∧∀x∈row,0≤x∧x≤99)∧CK (B+14) l i':=by
 obtain⟨r,h1,i',c',row,rfl,h2⟩:=iter_cnt (f:=fun v=>(wbj k v).ev) (n:=k.2.2.2.2.2.2.1.length)
  (fun a v=>∃i c row,v=((a:Int),(l,(i,(c,row))))∧(row.length=a∧∀x∈row,0≤x∧x≤99)∧CK (B+2*a) l i)
  (fun r=>∃i c row,r=(l,(i,(c,row)))∧(row.length=k.2.2.2.2.2.2.1.length∧∀x∈row,0≤x∧x≤99)∧CK (B+14) l i)
  (fun a v ha hv=>by
   obtain⟨i,c,row,rfl,⟨l1,l2⟩,hc⟩:=hv
   obtain⟨x,i1,c1,e1,aa,ab,h1⟩:=pick_ok k.2.2.1 c hc (by omega) hb.1
   have r1:=room8 row x (by omega)
   refine⟨(((a+1:Nat):Int),(l,(i1,(c1,row++ [x])))),?_,i1,c1,_,rfl,⟨by simp [l1],fun y hy=>?_⟩,h1.mono (by omega)⟩
   ·simp (disch:=omega) only [EV,wbj,ha,e1,r1]
    rfl
   ·rcases xq.1 hy with h|h
    ·exact l2 y h
    ·rw [xt.1 h];omega)
  (fun v hv=>by
   obtain⟨i,c,row,rfl,l1,hc⟩:=hv
   refine⟨_,by simp (disch:=omega) only [EV,wbj,xo],i,c,row,rfl,l1,hc.mono (by omega)⟩)
  (v:=((0:Int),(l,(i,(c,([]:List Int)))))) ⟨i,c,[],rfl,⟨rfl,fun x hx=>by cases hx⟩,h.mono (by omega)⟩
 exact⟨i',c',row,h1,h2⟩
theorem raw2_ok{B:Int}{l:List Int}{i:Int}(k:(Int)×((Int)×((Int)×((List (Int))×((List (List (Int)))×(List (Int))))))){M m:Nat}(hM:M≤7)(ae:k.1=(M:Int))(af:k.2.1=(m:Int))(hn:k.2.2.2.2.2.length≤7)(hb:1≤k.2.2.1∧k.2.2.1≤20)(c:Int)(h:CK B l i)(hB:B≤800000):
  ∃i' c' ds,wga k ((0:Int),(l,(i,(c,([]:List (List Int))))))=some (l,(i',(c',ds)))∧Bx k.2.2.2.2.2.length ds∧CK (B+98) l i':=by
 obtain⟨r,h1,i',c',ds,rfl,⟨h2,h3⟩,h4⟩:=iter_cnt (f:=fun v=>(wal k v).ev) (n:=min M m)
  (fun a v=>∃i c ds,v=((a:Int),(l,(i,(c,ds))))∧(ds.length=a∧∀r∈ds,r.length=k.2.2.2.2.2.length∧∀x∈r,0≤x∧x≤99)∧CK (B+14*a) l i)
  (fun r=>∃i c ds,r=(l,(i,(c,ds)))∧(ds.length=min M m∧∀r∈ds,r.length=k.2.2.2.2.2.length∧∀x∈r,0≤x∧x≤99)∧CK (B+98) l i)
  (fun a v ha hv=>by
   obtain⟨i,c,ds,rfl,⟨l1,l2⟩,hc⟩:=hv
   obtain⟨i1,c1,row,e1,hr,h1⟩:=raw4_ok (k.1,(k.2.1,(k.2.2.1,((a:Int),(k.2.2.2.1,(k.2.2.2.2.1,(k.2.2.2.2.2,ds))))))) hn hb c hc (by omega)
   have r1:=room24 ds (by omega)
   have aa:(a:Int)<k.1:=by omega
   have ab:(a:Int)<k.2.1:=by omega
   refine⟨(((a+1:Nat):Int),(l,(i1,(c1,ds++ [row])))),?_,i1,c1,_,rfl,⟨by simp [l1],fun r ad=>?_⟩,h1.mono (by omega)⟩
   ·simp (disch:=omega) only [EV,wal,aa,ab,e1,r1,set_end]
    rfl
   ·rcases xq.1 ad with h|h
    ·exact l2 r h
    ·rw [xt.1 h];exact hr)
  (fun v hv=>by
   obtain⟨i,c,ds,rfl,l1,hc⟩:=hv
   by_cases ah:M≤m
   ·have aa:¬((min M m:Nat):Int)<k.1:=by omega
    refine⟨_,by simp (disch:=omega) only [EV,wal,aa,ite_self],i,c,ds,rfl,l1,hc.mono (by omega)⟩
   ·have aa:((min M m:Nat):Int)<k.1:=by omega
    have ab:¬((min M m:Nat):Int)<k.2.1:=by omega
    refine⟨_,by simp (disch:=omega) only [EV,wal,aa,ab],i,c,ds,rfl,l1,hc.mono (by omega)⟩)
  (v:=((0:Int),(l,(i,(c,([]:List (List Int))))))) ⟨i,c,[],rfl,⟨rfl,fun r hr=>by cases hr⟩,h.mono (by omega)⟩
 exact⟨i',c',ds,h1,⟨hn,by omega,h3⟩,h4⟩
theorem rawField_ok{B:Int}{l:List Int}{i:Int}{M:Nat}(hM:1≤M∧M≤7)(c:Int)(h:CK B l i)(hB:B≤700000):
  ∃o ds i' c',wgb (M:Int) l i c=some (o,(ds,(l,(i',c'))))∧(1≤o.length∧Bx o.length ds)∧CK (B+120) l i':=by
 obtain⟨x1,i1,c1,e1,m1,h1⟩:=among_ok ([(3:Int),(4:Int),(2:Int),(5:Int),(1:Int),(6:Int),(7:Int)]:List (Int)) c h (by omega) (by decide)
 have ad:=(show∀y∈([(3:Int),(4:Int),(2:Int),(5:Int),(1:Int),(6:Int),(7:Int)]:List (Int)),1≤y by decide) x1 m1
 obtain⟨n,rfl,hn⟩:=nat_of (b:=7) m1 (by decide)
 obtain⟨x2,i2,c2,e2,m2,h2⟩:=among_ok ([(4:Int),(3:Int),(5:Int),(2:Int),(6:Int),(7:Int),(1:Int),(0:Int)]:List (Int)) c1 h1 (by omega) (by decide)
 obtain⟨m,rfl,hm⟩:=nat_of (b:=7) m2 (by decide)
 obtain⟨ab,i3,c3,e3,m3,h3⟩:=among_ok ([(10:Int),(10:Int),(20:Int),(4:Int)]:List (Int)) c2 h2 (by omega) (by decide)
 have aa:=(show∀y∈([(10:Int),(10:Int),(20:Int),(4:Int)]:List (Int)),1≤y∧y≤20 by decide) ab m3
 obtain⟨i4,c4,o,e4,lo,h4⟩:=raw0_ok ((M:Int),((n:Int),((m:Int),(ab,([]:List (Int)))))) (n:=n) hM.2 rfl rfl aa.1 c3 h3 (by omega)
 obtain⟨i5,c5,ds,e5,hd,h5⟩:=raw2_ok ((M:Int),((m:Int),(ab,(([]:List (Int)),(([]:List (List (Int))),o))))) (m:=m) hM.2 rfl rfl (by show o.length≤7;omega) aa c4 h4 (by omega)
 unfold wgb wqo
 simp (disch:=omega) only [EV,e1,e2,e3,e4,e5]
 exact⟨_,_,_,_,rfl,⟨by omega,hd⟩,h5.mono (by omega)⟩
theorem line0_ok{B:Int}{l:List Int}{i:Int}(k:(List (Int))×(List (List (Int))))(hn:k.1.length≤7)(c:Int)(h:CK B l i)(hB:B≤900000):
  ∃i' c' p,wgf k ((0:Int),(l,(i,(c,([]:List Int)))))=some (l,(i',(c',p)))∧(p.length=k.1.length∧∀x∈p,0≤x∧x≤19)∧CK (B+14) l i':=by
 obtain⟨r,h1,i',c',p,rfl,h2⟩:=iter_cnt (f:=fun v=>(wbl k v).ev) (n:=k.1.length)
  (fun a v=>∃i c p,v=((a:Int),(l,(i,(c,p))))∧(p.length=a∧∀x∈p,0≤x∧x≤19)∧CK (B+2*a) l i)
  (fun r=>∃i c p,r=(l,(i,(c,p)))∧(p.length=k.1.length∧∀x∈p,0≤x∧x≤19)∧CK (B+14) l i)
  (fun a v ha hv=>by
   obtain⟨i,c,p,rfl,⟨l1,l2⟩,hc⟩:=hv
   obtain⟨x,i1,c1,e1,aa,ab,h1⟩:=pick_ok 20 c hc (by omega) (by omega)
   have r1:=room8 p x (by omega)
   refine⟨(((a+1:Nat):Int),(l,(i1,(c1,p++ [x])))),?_,i1,c1,_,rfl,⟨by simp [l1],fun y hy=>?_⟩,h1.mono (by omega)⟩
   ·simp (disch:=omega) only [EV,wbl,ha,e1,r1]
    rfl
   ·rcases xq.1 hy with h|h
    ·exact l2 y h
    ·rw [xt.1 h];omega)
  (fun v hv=>by
   obtain⟨i,c,p,rfl,l1,hc⟩:=hv
   refine⟨_,by simp (disch:=omega) only [EV,wbl,xo],i,c,p,rfl,l1,hc.mono (by omega)⟩)
  (v:=((0:Int),(l,(i,(c,([]:List Int)))))) ⟨i,c,[],rfl,⟨rfl,fun x hx=>by cases hx⟩,h.mono (by omega)⟩
 exact⟨i',c',p,h1,h2⟩
theorem line4_ok{o p:List Int}{d:List (List Int)}(hb:Bx o.length d)(hp:p.length=o.length)(ad:∀x∈p,0≤x∧x≤19){j:Nat}(hj:j<d.length){x:Int}(hx:0≤x∧x≤19)(l:List Int)(i c:Int):
  ∃r,wgg ((j:Int),(x,(l,(i,(c,(p,o)))))) ((0:Int),d)=some r∧Bx o.length r∧r.length=d.length:=by
 exact iter_cnt (f:=fun v=>(wbm ((j:Int),(x,(l,(i,(c,(p,o)))))) v).ev) (n:=o.length)
  (fun a v=>∃e,v=((a:Int),e)∧Bx o.length e∧e.length=d.length)
  (fun r=>Bx o.length r∧r.length=d.length)
  (fun a v ha hv=>by
   obtain⟨e,rfl,h1,h2⟩:=hv
   have aa:j<e.length:=by omega
   have ab:a<p.length:=by omega
   have hq:=ad _ (getD_mem (d:=0) ab)
   have hl:=h1.len aa
   have hn:=hb.hn
   have hm:0≤max (x-p.getD a 0) (p.getD a 0-x)∧max (x-p.getD a 0) (p.getD a 0-x)≤99:=by omega
   obtain⟨h3,h4⟩:=h1.set (a:=a) aa hm
   refine⟨(((a+1:Nat):Int),_),?_,_,rfl,h3,by rw [h4,h2]⟩
   simp (disch:=omega) only [EV,wbm,ha,aa,ab,l1Most_eq,hl]
   rfl)
  (fun v hv=>by
   obtain⟨e,rfl,h1,h2⟩:=hv
   exact⟨_,by simp (disch:=omega) only [EV,wbm,xo],h1,h2⟩)
  (v:=((0:Int),d)) ⟨d,rfl,hb,rfl⟩
theorem line2_ok{B:Int}{l:List Int}{i:Int}{o p:List Int}{d:List (List Int)}(hb:Bx o.length d)(hp:p.length=o.length)(ab:∀x∈p,0≤x∧x≤19)(c:Int)(h:CK B l i)(hB:B≤900000):
  ∃i' c' r,wgh (p,o) ((0:Int),(l,(i,(c,d))))=some (l,(i',(c',r)))∧Bx o.length r∧CK (B+14) l i':=by
 have hm:=hb.hm
 obtain⟨r,h1,i',c',e,rfl,h2⟩:=iter_cnt (f:=fun v=>(wbn (p,o) v).ev) (n:=d.length)
  (fun a v=>∃i c e,v=((a:Int),(l,(i,(c,e))))∧(Bx o.length e∧e.length=d.length)∧CK (B+2*a) l i)
  (fun r=>∃i c e,r=(l,(i,(c,e)))∧Bx o.length e∧CK (B+14) l i)
  (fun a v ha hv=>by
   obtain⟨i,c,e,rfl,⟨h1,h2⟩,hc⟩:=hv
   obtain⟨x,i1,c1,e1,ad,ae,h3⟩:=pick_ok 20 c hc (by omega) (by omega)
   have aa:a<e.length:=by omega
   obtain⟨r,e2,h4,h5⟩:=line4_ok h1 hp ab aa (show 0≤x∧x≤19 by omega) l i1 c1
   refine⟨(((a+1:Nat):Int),(l,(i1,(c1,r)))),?_,i1,c1,_,rfl,⟨h4,by omega⟩,h3.mono (by omega)⟩
   simp (disch:=omega) only [EV,wbn,aa,e1,e2]
   rfl)
  (fun v hv=>by
   obtain⟨i,c,e,rfl,⟨h1,h2⟩,hc⟩:=hv
   have hq:¬d.length<e.length:=by omega
   refine⟨_,by simp (disch:=omega) only [EV,wbn,hq],i,c,e,rfl,h1,hc.mono (by omega)⟩)
  (v:=((0:Int),(l,(i,(c,d))))) ⟨i,c,d,rfl,⟨hb,rfl⟩,h.mono (by omega)⟩
 exact⟨i',c',e,h1,h2⟩
theorem lineField_ok{B:Int}{l:List Int}{i:Int}{M:Nat}(hM:1≤M∧M≤7)(c:Int)(h:CK B l i)(hB:B≤600000):
  ∃o ds i' c',wqs (M:Int) l i c=some (o,(ds,(l,(i',c'))))∧(1≤o.length∧Bx o.length ds)∧CK (B+150) l i':=by
 obtain⟨o,ds,i1,c1,e1,⟨ho,hd⟩,h1⟩:=rawField_ok hM c h (by omega)
 obtain⟨i2,c2,p,e2,⟨hp,aa⟩,h2⟩:=line0_ok (o,ds) hd.hn c1 h1 (by omega)
 obtain⟨i3,c3,r,e3,hr,h3⟩:=line2_ok hd hp aa c2 h2 (by omega)
 unfold wqs wqr
 simp (disch:=omega) only [EV,e1,e2,e3]
 exact⟨_,_,_,_,rfl,⟨ho,hr⟩,h3.mono (by omega)⟩
theorem l1Own_ok{l:List Int}(h:l.length≤1000000):waj l=some l:=by
 have h1:(List.length ([]:List Int)+l.length)*8≤140737488355328:=by simp;omega
 unfold waj wke
 simp (disch:=omega) only [EV,h1,xbu]
theorem l2Own_ok{o:List Int}{d:List (List Int)}(hb:Bx o.length d):wra o d=some (o,d):=by
 have hm:=hb.hm
 have hn:=hb.hn
 obtain⟨r,h1,hr⟩:=iter_cnt (f:=fun v=>(wbo (o,(d,(([]:List (List (Int))),o))) v).ev) (n:=d.length)
  (fun a v=>v=((a:Int),d.take a)) (fun r=>r=d)
  (fun a v ha hv=>by
   subst hv
   have hl:=hb.len ha
   have r1:=room24 (d.take a) (by simp;omega)
   refine⟨_,?_,rfl⟩
   simp (disch:=omega) only [EV,wbo,ha,l1Own_ok (l:=d.getD a []) (by omega),r1,set_end]
   rw [List.take_add_one,xh ha,xd,xh ha]
   rfl)
  (fun v hv=>by
   subst hv
   exact⟨_,by simp (disch:=omega) only [EV,wbo,xo],xct⟩)
  (v:=((0:Int),([]:List (List Int)))) (by simp)
 rw [hr] at h1
 have aa:wgi (o,(d,(([]:List (List (Int))),o))) ((0:Int),([]:List (List Int)))=some d:=h1
 unfold wra wqz
 simp (disch:=omega) only [EV,l1Own_ok (l:=o) (by omega),aa]
def Way(n:Nat)(d:List (List Int)):Prop:=∃i j a b,i<d.length∧j<d.length∧a<n∧b<n∧at2 d i b+at2 d j b+at2 d j a<at2 d i a
theorem metric6_ok{o:List Int}{d:List (List Int)}(hb:Bx o.length d){i j a:Nat}(hi:i<d.length)(hj:j<d.length)(ha:a<o.length):
  ∃r,wgj ((i:Int),((j:Int),((a:Int),(o,d)))) 0=some r∧(r=.inr ()→Way o.length d):=by
 have hn:=hb.hn
 exact iter_cntE (f:=fun v=>(wam ((i:Int),((j:Int),((a:Int),(o,d)))) v).ev) (n:=o.length)
  (fun b v=>v=(b:Int)) (fun r=>r=.inr ()→Way o.length d)
  (fun b v aa hv=>by
   subst hv
   have x1:=hb.at hi ha
   have x2:=hb.at hi aa
   have x3:=hb.at hj aa
   have x4:=hb.at hj ha
   have y1:=hb.len hi
   have y2:=hb.len hj
   by_cases hq:(d.getD i []).getD b 0+(d.getD j []).getD b 0+(d.getD j []).getD a 0<(d.getD i []).getD a 0
   ·exact .inr ⟨.inr (),by simp (disch:=omega) only [EV,wam,aa,hi,hj,ha,y1,y2,hq],fun _=>⟨i,j,a,b,hi,hj,ha,aa,hq⟩⟩
   ·exact .inl ⟨((b+1:Nat):Int),by simp (disch:=omega) only [EV,wam,aa,hi,hj,ha,y1,y2,hq];rfl,rfl⟩)
  (fun v hv=>by
   subst hv
   exact⟨.inl (),by simp (disch:=omega) only [EV,wam,xo],fun h=>nomatch h⟩)
  (v:=(0:Int)) rfl
theorem metric4_ok{o:List Int}{d:List (List Int)}(hb:Bx o.length d){i j:Nat}(hi:i<d.length)(hj:j<d.length):
  ∃r,wgk ((i:Int),((j:Int),(o,d))) 0=some r∧(r=.inr ()→Way o.length d):=by
 have hn:=hb.hn
 exact iter_cntE (f:=fun v=>(wan ((i:Int),((j:Int),(o,d))) v).ev) (n:=o.length)
  (fun a v=>v=(a:Int)) (fun r=>r=.inr ()→Way o.length d)
  (fun a v ha hv=>by
   subst hv
   obtain⟨r,e1,h1⟩:=metric6_ok hb hi hj ha
   cases r with
   |inl u=>exact .inl ⟨((a+1:Nat):Int),by simp (disch:=omega) only [EV,wan,ha,e1];rfl,rfl⟩
   |inr u=>exact .inr ⟨.inr (),by simp (disch:=omega) only [EV,wan,ha,e1],fun _=>h1 rfl⟩)
  (fun v hv=>by
   subst hv
   exact⟨.inl (),by simp (disch:=omega) only [EV,wan,xo],fun h=>nomatch h⟩)
  (v:=(0:Int)) rfl
theorem metric2_ok{o:List Int}{d:List (List Int)}(hb:Bx o.length d){i:Nat}(hi:i<d.length):
  ∃r,wgl ((i:Int),(o,d)) 0=some r∧(r=.inr ()→Way o.length d):=by
 have hm:=hb.hm
 exact iter_cntE (f:=fun v=>(wao ((i:Int),(o,d)) v).ev) (n:=d.length)
  (fun a v=>v=(a:Int)) (fun r=>r=.inr ()→Way o.length d)
  (fun a v ha hv=>by
   subst hv
   obtain⟨r,e1,h1⟩:=metric4_ok hb hi ha
   cases r with
   |inl u=>exact .inl ⟨((a+1:Nat):Int),by simp (disch:=omega) only [EV,wao,ha,e1];rfl,rfl⟩
   |inr u=>exact .inr ⟨.inr (),by simp (disch:=omega) only [EV,wao,ha,e1],fun _=>h1 rfl⟩)
  (fun v hv=>by
   subst hv
   exact⟨.inl (),by simp (disch:=omega) only [EV,wao,xo],fun h=>nomatch h⟩)
  (v:=(0:Int)) rfl
theorem metric_ok{o:List Int}{d:List (List Int)}(hb:Bx o.length d):∃b,wrc o d=some b∧(b=false→Way o.length d):=by
 have hm:=hb.hm
 obtain⟨r,e,h⟩:=iter_cntE (f:=fun v=>(wap (o,d) v).ev) (n:=d.length)
  (fun a v=>v=(a:Int)) (fun r=>r=.inr ()→Way o.length d)
  (fun a v ha hv=>by
   subst hv
   obtain⟨r,e1,h1⟩:=metric2_ok hb ha
   cases r with
   |inl u=>exact .inl ⟨((a+1:Nat):Int),by simp (disch:=omega) only [EV,wap,ha,e1];rfl,rfl⟩
   |inr u=>exact .inr ⟨.inr (),by simp (disch:=omega) only [EV,wap,ha,e1],fun _=>h1 rfl⟩)
  (fun v hv=>by
   subst hv
   exact⟨.inl (),by simp (disch:=omega) only [EV,wap,xo],fun h=>nomatch h⟩)
  (v:=(0:Int)) rfl
 have e':wgm (o,d) 0=some r:=e
 unfold wrc wrb
 simp (disch:=omega) only [EV,e']
 cases r with
 |inl u=>exact⟨true,rfl,fun h=>by cases h⟩
 |inr u=>exact⟨false,rfl,fun _=>h rfl⟩
structure Dn(n:Nat)(D d:List (List Int)):Prop where
 bx:Bx n d
 len:d.length=D.length
 le:∀i a,i<D.length→a<n→at2 d i a≤at2 D i a
theorem Dn.trans{n:Nat}{D d e:List (List Int)}(h:Dn n D d)(h':Dn n d e):Dn n D e:=⟨h'.bx,by rw [h'.len,h.len],fun i a hi ha=>Int.le_trans (h'.le i a (by rw [h.len];exact hi) ha) (h.le i a hi ha)⟩
theorem Dn.refl{n:Nat}{d:List (List Int)}(h:Bx n d):Dn n d d:=⟨h,rfl,fun _ _ _ _=>xby _⟩
theorem at2_set{d:List (List Int)}{n:Nat}(hb:Bx n d){i a:Nat}(hi:i<d.length)(ha:a<n)(x:Int)(i' a':Nat):at2 (d.set i ((d.getD i []).set a x)) i' a'=if i=i'∧a=a' then x else at2 d i' a':=by
 unfold at2
 rw [getD_setL _ hi]
 by_cases e:i=i'
 ·subst e
  rw [if_pos rfl,getD_setL _ (by rw [hb.len hi];exact ha)]
  by_cases e2:a=a'<;>simp [e2]
 ·simp [e]
theorem Dn.set{n:Nat}{d:List (List Int)}(hb:Bx n d){i a:Nat}(hi:i<d.length)(ha:a<n){x:Int}(h0:0≤x)(h1:x≤at2 d i a):Dn n d (d.set i ((d.getD i []).set a x)):=by
 have h2:at2 d i a≤99:=(hb.at hi ha).2
 obtain⟨h3,h4⟩:=hb.set (a:=a) hi (x:=x) ⟨h0,by omega⟩
 refine⟨h3,h4,fun i' a' aa ab=>?_⟩
 rw [at2_set hb hi ha]
 split
 next e=>obtain⟨rfl,rfl⟩:=e;exact h1
 next=>exact xby _
theorem close8_ok{o:List Int}{D d:List (List Int)}(h:Dn o.length D d){i j a:Nat}(hi:i<D.length)(hj:j<D.length)(ha:a<o.length):
  ∃r,wgo ((i:Int),((j:Int),((a:Int),o))) ((0:Int),d)=some r∧Dn o.length d r∧∀b,b<o.length→at2 r i a≤at2 D i b+at2 D j b+at2 D j a:=by
 have hn:=h.bx.hn
 have ad:=h.len
 exact iter_cnt (f:=fun v=>(wdm ((i:Int),((j:Int),((a:Int),o))) v).ev) (n:=o.length)
  (fun b v=>∃e,v=((b:Int),e)∧Dn o.length d e∧∀b',b'<b→at2 e i a≤at2 D i b'+at2 D j b'+at2 D j a)
  (fun r=>Dn o.length d r∧∀b,b<o.length→at2 r i a≤at2 D i b+at2 D j b+at2 D j a)
  (fun b v hb hv=>by
   obtain⟨e,rfl,h1,h2⟩:=hv
   have ae:=h1.len
   have aa:i<e.length:=by omega
   have ab:j<e.length:=by omega
   have y1:=h1.bx.len aa
   have y2:=h1.bx.len ab
   have x1:=h1.bx.at aa ha
   have x2:=h1.bx.at aa hb
   have x3:=h1.bx.at ab hb
   have x4:=h1.bx.at ab ha
   have hT:=h.trans h1
   have z2:(e.getD i []).getD b 0≤at2 D i b:=hT.le i b hi hb
   have z3:(e.getD j []).getD b 0≤at2 D j b:=hT.le j b hj hb
   have z4:(e.getD j []).getD a 0≤at2 D j a:=hT.le j a hj ha
   have hs:=Dn.set h1.bx aa ha (x:=min ((e.getD i []).getD a 0) ((e.getD i []).getD b 0+(e.getD j []).getD b 0+(e.getD j []).getD a 0)) (by omega) (Int.min_le_left _ _)
   have hv:at2 (e.set i ((e.getD i []).set a (min ((e.getD i []).getD a 0) ((e.getD i []).getD b 0+(e.getD j []).getD b 0+(e.getD j []).getD a 0)))) i a=min ((e.getD i []).getD a 0) ((e.getD i []).getD b 0+(e.getD j []).getD b 0+(e.getD j []).getD a 0):=by
    rw [at2_set h1.bx aa ha,if_pos ⟨rfl,rfl⟩]
   refine⟨(((b+1:Nat):Int),_),?_,_,rfl,h1.trans hs,fun b' af=>?_⟩
   ·simp (disch:=omega) only [EV,wdm,hb,aa,ab,ha,y1,y2,l1Least_eq]
    rfl
   ·rw [hv]
    by_cases e2:b'=b
    ·subst e2;omega
    ·have:=h2 b' (by omega)
     have h5:at2 e i a=(e.getD i []).getD a 0:=rfl
     omega)
  (fun v hv=>by
   obtain⟨e,rfl,h1,h2⟩:=hv
   refine⟨e,?_,h1,h2⟩
   have hq:decide (((o.length:Nat):Int)<((o.length:Nat):Int))=false:=by simp
   have key:∀ (x:Tr (((Int)×(List (List Int)))⊕(List (List Int)))),(Tr.t (decide (((o.length:Nat):Int)<((o.length:Nat):Int))) x (.l (.inr e))).ev=some (.inr e):=fun x=>by rw [hq];rfl
   exact key _)
  (v:=((0:Int),d)) ⟨d,rfl,Dn.refl h.bx,fun b hb=>by omega⟩
theorem close6_ok{o:List Int}{D d:List (List Int)}(h:Dn o.length D d){i j:Nat}(hi:i<D.length)(hj:j<D.length):
  ∃r,wgq ((i:Int),((j:Int),o)) ((0:Int),d)=some r∧Dn o.length d r∧∀a,a<o.length→∀b,b<o.length→at2 r i a≤at2 D i b+at2 D j b+at2 D j a:=by
 have hn:=h.bx.hn
 exact iter_cnt (f:=fun v=>(wbq ((i:Int),((j:Int),o)) v).ev) (n:=o.length)
  (fun a v=>∃e,v=((a:Int),e)∧Dn o.length d e∧∀a',a'<a→∀b,b<o.length→at2 e i a'≤at2 D i b+at2 D j b+at2 D j a')
  (fun r=>Dn o.length d r∧∀a,a<o.length→∀b,b<o.length→at2 r i a≤at2 D i b+at2 D j b+at2 D j a)
  (fun a v ha hv=>by
   obtain⟨e,rfl,h1,h2⟩:=hv
   obtain⟨r,e1,h3,h4⟩:=close8_ok (h.trans h1) hi hj ha
   refine⟨(((a+1:Nat):Int),r),?_,_,rfl,h1.trans h3,fun a' aa b hb=>?_⟩
   ·simp (disch:=omega) only [EV,wbq,ha,e1]
    rfl
   ·by_cases e2:a'=a
    ·subst e2;exact h4 b hb
    ·have h5:=h2 a' (by omega) b hb
     have h6:=h3.le i a' (by rw [h1.len,h.len];exact hi) (by omega)
     omega)
  (fun v hv=>by
   obtain⟨e,rfl,h1,h2⟩:=hv
   exact⟨_,by simp (disch:=omega) only [EV,wbq,xo],h1,h2⟩)
  (v:=((0:Int),d)) ⟨d,rfl,Dn.refl h.bx,fun b hb=>by omega⟩
theorem close4_ok{o:List Int}{D d:List (List Int)}(h:Dn o.length D d){i:Nat}(hi:i<D.length):
  ∃r,wgr ((i:Int),o) ((0:Int),d)=some r∧Dn o.length d r∧∀j,j<D.length→∀a,a<o.length→∀b,b<o.length→at2 r i a≤at2 D i b+at2 D j b+at2 D j a:=by
 have hm:=h.bx.hm
 have hl:=h.len
 exact iter_cnt (f:=fun v=>(wbr ((i:Int),o) v).ev) (n:=D.length)
  (fun j v=>∃e,v=((j:Int),e)∧Dn o.length d e∧∀j',j'<j→∀a,a<o.length→∀b,b<o.length→at2 e i a≤at2 D i b+at2 D j' b+at2 D j' a)
  (fun r=>Dn o.length d r∧∀j,j<D.length→∀a,a<o.length→∀b,b<o.length→at2 r i a≤at2 D i b+at2 D j b+at2 D j a)
  (fun j v hj hv=>by
   obtain⟨e,rfl,h1,h2⟩:=hv
   have aa:j<e.length:=by rw [h1.len,h.len];exact hj
   obtain⟨r,e1,h3,h4⟩:=close6_ok (h.trans h1) hi hj
   refine⟨(((j+1:Nat):Int),r),?_,_,rfl,h1.trans h3,fun j' ab a ha b hb=>?_⟩
   ·simp (disch:=omega) only [EV,wbr,aa,e1]
    rfl
   ·by_cases e2:j'=j
    ·subst e2;exact h4 a ha b hb
    ·have h5:=h2 j' (by omega) a ha b hb
     have h6:=h3.le i a (by rw [h1.len,h.len];exact hi) ha
     omega)
  (fun v hv=>by
   obtain⟨e,rfl,h1,h2⟩:=hv
   have hq:¬D.length<e.length:=by rw [h1.len,h.len];omega
   exact⟨_,by simp (disch:=omega) only [EV,wbr,hq],h1,h2⟩)
  (v:=((0:Int),d)) ⟨d,rfl,Dn.refl h.bx,fun b hb=>by omega⟩
theorem close2_ok{o:List Int}{D:List (List Int)}(hb:Bx o.length D):
  ∃r,wgs o ((0:Int),D)=some r∧Dn o.length D r∧∀i,i<D.length→∀j,j<D.length→∀a,a<o.length→∀b,b<o.length→at2 r i a≤at2 D i b+at2 D j b+at2 D j a:=by
 have hm:=hb.hm
 exact iter_cnt (f:=fun v=>(wbs o v).ev) (n:=D.length)
  (fun i v=>∃e,v=((i:Int),e)∧Dn o.length D e∧∀i',i'<i→∀j,j<D.length→∀a,a<o.length→∀b,b<o.length→at2 e i' a≤at2 D i' b+at2 D j b+at2 D j a)
  (fun r=>Dn o.length D r∧∀i,i<D.length→∀j,j<D.length→∀a,a<o.length→∀b,b<o.length→at2 r i a≤at2 D i b+at2 D j b+at2 D j a)
  (fun i v hi hv=>by
   obtain⟨e,rfl,h1,h2⟩:=hv
   have aa:i<e.length:=by rw [h1.len];exact hi
   obtain⟨r,e1,h3,h4⟩:=close4_ok h1 hi
   refine⟨(((i+1:Nat):Int),r),?_,_,rfl,h1.trans h3,fun i' ab j hj a ha b hb=>?_⟩
   ·simp (disch:=omega) only [EV,wbs,aa,e1]
    rfl
   ·by_cases e2:i'=i
    ·subst e2;exact h4 j hj a ha b hb
    ·have h5:=h2 i' (by omega) j hj a ha b hb
     have h6:=h3.le i' a (by rw [h1.len];omega) ha
     omega)
  (fun v hv=>by
   obtain⟨e,rfl,h1,h2⟩:=hv
   have hq:¬D.length<e.length:=by rw [h1.len];omega
   exact⟨_,by simp (disch:=omega) only [EV,wbs,hq],h1,h2⟩)
  (v:=((0:Int),D)) ⟨D,rfl,Dn.refl hb,fun b hb=>by omega⟩
theorem sum_lt:∀ (a b:List Nat),a.length=b.length→(∀i,i<a.length→a.getD i 0≤b.getD i 0)→a.sum≤b.sum∧∀i,i<a.length→a.getD i 0<b.getD i 0→a.sum<b.sum
 | [],[],_,_=>⟨xm _,fun i hi=>absurd hi (xee i)⟩
 | [],y::b,h,_=>by simp at h
 |x::a,[],h,_=>by simp at h
 |x::a,y::b,h,hle=>by
  have hl:a.length=b.length:=by simpa using h
  obtain⟨h1,h2⟩:=sum_lt a b hl fun i hi=>by simpa using hle (i+1) (by simpa using hi)
  have h0:x≤y:=by simpa using hle 0 (by simp)
  simp only [List.sum_cons]
  refine⟨by omega,fun i hi aa=>?_⟩
  cases i with
  |zero=>
   have:x<y:=by simpa using aa
   omega
  |succ i=>
   have:=h2 i (by simpa using hi) (by simpa using aa)
   omega
theorem getD_mapD{α β:Type}(g:α→β)(l:List α)(d:α)(i:Nat):(l.map g).getD i (g d)=g (l.getD i d):=by
 simp only [xd,xr]
 cases l[i]? <;>rfl
def rowTot(r:List Int):Nat:=(r.map Int.toNat).sum
def tot2(d:List (List Int)):Nat:=(d.map rowTot).sum
theorem rowTot_lt{a b:List Int}(hl:a.length=b.length)(h:∀i,i<a.length→a.getD i 0≤b.getD i 0):rowTot a≤rowTot b∧∀i,i<a.length→0≤a.getD i 0→a.getD i 0<b.getD i 0→rowTot a<rowTot b:=by
 have g:∀ (l:List Int) i,(l.map Int.toNat).getD i 0=(l.getD i 0).toNat:=fun l i=>getD_mapD Int.toNat l 0 i
 obtain⟨h1,h2⟩:=sum_lt (a.map Int.toNat) (b.map Int.toNat) (by simpa using hl) fun i hi=>by
  rw [g,g]
  have:=h i (by simpa using hi)
  omega
 refine⟨h1,fun i hi h0 aa=>h2 i (by simpa using hi) ?_⟩
 rw [g,g]
 omega
theorem tot2_lt{n:Nat}{D d:List (List Int)}(hD:Bx n D)(h:Dn n D d){i a:Nat}(hi:i<D.length)(ha:a<n)(ad:at2 d i a<at2 D i a):tot2 d<tot2 D:=by
 have g:∀ (l:List (List Int)) i,(l.map rowTot).getD i 0=rowTot (l.getD i []):=fun l i=>getD_mapD rowTot l [] i
 have hr:∀j,j<d.length→rowTot (d.getD j [])≤rowTot (D.getD j [])∧∀i,i<(d.getD j []).length→0≤(d.getD j []).getD i 0→(d.getD j []).getD i 0<(D.getD j []).getD i 0→rowTot (d.getD j [])<rowTot (D.getD j []):=fun j hj=>by
  have ab:j<D.length:=by rw [←h.len];exact hj
  refine rowTot_lt (by rw [h.bx.len hj,hD.len ab]) fun x hx=>h.le j x ab (by rw [h.bx.len hj] at hx;exact hx)
 obtain⟨_,h2⟩:=sum_lt (d.map rowTot) (D.map rowTot) (by simpa using h.len) fun j hj=>by
  rw [g,g]
  exact(hr j (by simpa using hj)).1
 have aa:i<d.length:=by rw [h.len];exact hi
 refine h2 i (by simpa using aa) ?_
 rw [g,g]
 exact(hr i aa).2 a (by rw [h.bx.len aa];exact ha) (h.bx.at aa ha).1 ad
theorem close0_ok{o:List Int}:∀ (m:Nat) {d:List (List Int)},tot2 d=m→Bx o.length d→∃r,wdq o d=some r∧Bx o.length r∧r.length=d.length:=by
 intro m
 induction m using Nat.strongRecOn with
 |_ m ih=>
  intro d hm hb
  obtain⟨b,e1,h1⟩:=metric_ok hb
  cases b with
  |true=>exact⟨d,by unfold wdq;rw [iter_eq];simp (disch:=omega) only [EV,wdp,e1],hb,rfl⟩
  |false=>
   obtain⟨i,j,a,b,hi,hj,ha,aa,ab⟩:=h1 rfl
   obtain⟨r,e2,h2,h3⟩:=close2_ok hb
   have h4:=h3 i hi j hj a ha b aa
   have h5:=tot2_lt hb h2 hi ha (by omega)
   obtain⟨s,e3,h6,h7⟩:=ih (tot2 r) (by omega) rfl h2.bx
   refine⟨s,?_,h6,by rw [h7,h2.len]⟩
   unfold wdq at e3⊢
   rw [iter_eq]
   simp (disch:=omega) only [EV,wdp,e1,e2]
   exact e3
theorem close_ok{o:List Int}{d:List (List Int)}(hb:Bx o.length d):∃r,wrf o d=some (o,r)∧Bx o.length r:=by
 obtain⟨r,e1,h1,_⟩:=close0_ok (tot2 d) rfl hb
 unfold wrf wre
 simp (disch:=omega) only [EV,l2Own_ok hb,e1]
 exact⟨r,rfl,h1⟩
structure DrF(o:List Int)(d:List (List Int)):Prop where
 lo:o.length≤8
 lm:d.length≤8
 row:∀r∈d,r.length≤8
theorem DrF.o1{o:List Int}{d:List (List Int)}(h:DrF o d):Low1 o:=by have:=h.lo;unfold Low1;omega
theorem DrF.d2{o:List Int}{d:List (List Int)}(h:DrF o d):Low2 d:=⟨by have:=h.lm;omega,fun r hr=>by have:=h.row r hr;unfold Low1;omega⟩
theorem Bx.drf{o:List Int}{d:List (List Int)}(h:Bx o.length d):DrF o d:=⟨by have:=h.hn;omega,by have:=h.hm;omega,fun r hr=>by have:=(h.row r hr).1;have:=h.hn;omega⟩
theorem spoilt1_ok{o:List Int}{d:List (List Int)}(hb:Bx o.length d)(l:List Int)(i c:Int):∃r,wgc (l,(i,(c,(o,([]:List (List (Int))))))) d=some r∧r.length≤8∧∀x∈r,x.length≤8:=by
 have hn:=hb.hn
 have hm:=hb.hm
 exact iter_cnt (f:=fun v=>(wbk (l,(i,(c,(o,([]:List (List (Int))))))) v).ev) (n:=8-d.length)
  (fun a v=>v.length=d.length+a∧∀r∈v,r.length≤8) (fun r=>r.length≤8∧∀x∈r,x.length≤8)
  (fun a v ha hv=>by
   obtain⟨l1,l2⟩:=hv
   have r1:=room24 v (by omega)
   have hp:((v.length:Nat):Int)<8:=by omega
   refine⟨v++ [o],?_,by simp [l1];omega,fun r aa=>?_⟩
   ·simp (disch:=omega) only [EV,wbk,hp,l1Own_ok (l:=o) (by omega),r1,set_end]
   ·rcases xq.1 aa with h|h
    ·exact l2 r h
    ·rw [xt.1 h];omega)
  (fun v hv=>by
   obtain⟨l1,l2⟩:=hv
   have hp:¬((v.length:Nat):Int)<8:=by omega
   exact⟨v,by simp (disch:=omega) only [EV,wbk,hp],by omega,l2⟩)
  ⟨rfl,fun r hr=>by have:=(hb.row r hr).1;omega⟩
theorem spoilt2_ok{B:Int}{l:List Int}{i:Int}{o:List Int}{d:List (List Int)}(ho:1≤o.length)(hb:Bx o.length d)(c:Int)(h:CK B l i)(hB:B≤800000):
  ∃o' d' i' c',wgd l i c o d=some (o',(d',(l,(i',c'))))∧DrF o' d'∧CK (B+10) l i':=by
 have hn:=hb.hn
 have hm:=hb.hm
 have hD:=hb.drf
 have h0:(((o.length:Nat):Int)==(0:Int))=false:=by rw [beq_eq_false_iff_ne];omega
 obtain⟨x1,i1,c1,e1,aa,ab,h1⟩:=pick_ok (o.length:Int) c h (by omega) (by omega)
 obtain⟨a,rfl⟩:∃a:Nat,x1=(a:Int):=⟨x1.toNat,by omega⟩
 have ha:a<o.length:=by omega
 obtain⟨x2,i2,c2,e2,_,_,h2⟩:=pick_ok 60 c1 h1 (by omega) (by omega)
 unfold wgd wqp
 simp (disch:=omega) only [EV,h0,e1,e2]
 cases k0:(x2==(0:Int)) with
 |true=>
  obtain⟨x3,i3,c3,e3,_,h3⟩:=among_ok ([(-1:Int),(99:Int),(100:Int),(4611686018427387904:Int)]:List (Int)) c2 h2 (by omega) (by decide)
  simp (disch:=omega) only [EV,e3,ha]
  exact⟨_,_,_,_,rfl,⟨by simpa using hD.lo,hD.lm,hD.row⟩,h3.mono (by omega)⟩
 |false=>
  cases k1:(x2==(1:Int)) with
  |true=>
   by_cases hd:0<d.length
   ·obtain⟨x3,i3,c3,e3,_,h3⟩:=among_ok ([(-1:Int),(99:Int),(100:Int),(-9223372036854775808:Int)]:List (Int)) c2 h2 (by omega) (by decide)
    have z:Int.toNat 0=0:=rfl
    have hl:=hb.len hd
    simp (disch:=omega) only [EV,e3,show(0:Int)<((d.length:Nat):Int) by omega,show inR (0:Int) d.length=true from inR_int (by omega) (by omega),z,hd,hl,ha]
    refine⟨_,_,_,_,rfl,⟨hD.lo,by simpa using hD.lm,fun r hr=>?_⟩,h3.mono (by omega)⟩
    rcases xca hr with h|rfl
    ·exact hD.row r h
    ·rw [xar,hl];omega
   ·simp (disch:=omega) only [EV,show¬(0:Int)<((d.length:Nat):Int) by omega]
    exact⟨_,_,_,_,rfl,hD,h2.mono (by omega)⟩
  |false=>
   cases k2:(x2==(2:Int)) with
   |true=>
    have r1:=room8 o 1 (by omega)
    simp (disch:=omega) only [EV,r1]
    exact⟨_,_,_,_,rfl,⟨by simp;omega,hD.lm,hD.row⟩,h2.mono (by omega)⟩
   |false=>
    cases k3:(x2==(3:Int)) with
    |true=>
     obtain⟨r,e3,h3,h4⟩:=spoilt1_ok hb l i2 c2
     simp (disch:=omega) only [EV,e3]
     exact⟨_,_,_,_,rfl,⟨hD.lo,h3,h4⟩,h2.mono (by omega)⟩
    |false=>
     cases k4:(x2==(4:Int)) with
     |true=>
      simp (disch:=omega) only [EV]
      exact⟨_,_,_,_,rfl,⟨by simp,by simp,fun r hr=>by cases hr⟩,h2.mono (by omega)⟩
     |false=>
      simp (disch:=omega) only [EV]
      exact⟨_,_,_,_,rfl,hD,h2.mono (by omega)⟩
theorem fieldMost_ok{B:Int}{l:List Int}{i:Int}{M:Nat}(hM:1≤M∧M≤7)(c:Int)(h:CK B l i)(hB:B≤500000):
  ∃o d i' c',wlr (M:Int) l i c=some (o,(d,(l,(i',c'))))∧DrF o d∧CK (B+200) l i':=by
 obtain⟨x,i1,c1,e1,_,_,h1⟩:=pick_ok 3 c h (by omega) (by omega)
 unfold wlr wrg
 simp (disch:=omega) only [EV,e1]
 cases k0:(x==(0:Int)) with
 |true=>
  obtain⟨o,d,i2,c2,e2,⟨ho,hb⟩,h2⟩:=rawField_ok hM c1 h1 (by omega)
  obtain⟨o',d',i3,c3,e3,hD,h3⟩:=spoilt2_ok ho hb c2 h2 (by omega)
  simp (disch:=omega) only [EV,e2,e3]
  exact⟨_,_,_,_,rfl,hD,h3.mono (by omega)⟩
 |false=>
  cases k1:(x==(1:Int)) with
  |true=>
   obtain⟨o,d,i2,c2,e2,⟨ho,hb⟩,h2⟩:=lineField_ok hM c1 h1 (by omega)
   obtain⟨o',d',i3,c3,e3,hD,h3⟩:=spoilt2_ok ho hb c2 h2 (by omega)
   simp (disch:=omega) only [EV,e2,e3]
   exact⟨_,_,_,_,rfl,hD,h3.mono (by omega)⟩
  |false=>
   obtain⟨o,d,i2,c2,e2,⟨ho,hb⟩,h2⟩:=rawField_ok hM c1 h1 (by omega)
   obtain⟨r,e4,aa⟩:=close_ok hb
   obtain⟨o',d',i3,c3,e3,hD,h3⟩:=spoilt2_ok ho aa c2 h2 (by omega)
   simp (disch:=omega) only [EV,e2,e4,e3]
   exact⟨_,_,_,_,rfl,hD,h3.mono (by omega)⟩
end Go.Proofs.YteiekijgoifhoaaGreatDoor
/-
 Draws of edits and of atlases.
-/
namespace Go.Proofs.YteiekijgoifhoaaGreatDoor
def Dw{R:Type}(Q:R→Prop)(t:Tr R):Prop:=∃r,t.ev=some r∧Q r
theorem Dw.l{R:Type}{Q:R→Prop}{r:R}(h:Q r):Dw Q (.l r):=⟨r,rfl,h⟩
theorem Dw.t{R:Type}{Q:R→Prop}{b:Bool}{x y:Tr R}(h1:b=true→Dw Q x)(h2:b=false→Dw Q y):Dw Q (.t b x y):=by
 cases b
 ·exact h2 rfl
 ·exact h1 rfl
theorem Dw.g{R:Type}{Q:R→Prop}{b:Bool}{x:Tr R}(h1:b=true)(h2:Dw Q x):Dw Q (.g b x):=by
 subst h1
 exact h2
theorem Dw.c{R S:Type}{Q:R→Prop}{x:Option S}{k:S→Tr R}{r:S}(h1:x=some r)(h2:Dw Q (k r)):Dw Q (.c S x k):=by
 obtain⟨y,e,h⟩:=h2
 exact⟨y,by rw [Tr.ev_c,h1];exact e,h⟩
theorem Dw.pick{R:Type}{Q:R→Prop}{B n:Int}{l:List Int}{i c:Int}{k:(Int)×((List (Int))×((Int)×(Int)))→Tr R}(hc:CK B l i)(hB:B≤900000)(hn:1≤n)(h:∀x i' c',0≤x→x<n→CK (B+2) l i'→Dw Q (k (x,(l,(i',c'))))):Dw Q (.c _ (ww n l i c) k):=by
 obtain⟨x,i',c',e,x0,x1,h1⟩:=pick_ok n c hc (by omega) hn
 exact Dw.c e (h _ _ _ x0 x1 h1)
theorem Dw.among{R:Type}{Q:R→Prop}{B:Int}{L:List Int}{l:List Int}{i c:Int}{k:(Int)×((List (Int))×((Int)×(Int)))→Tr R}(hc:CK B l i)(hB:B≤900000)(hn:1≤L.length)(h:∀x i' c',CK (B+2) l i'→Dw Q (k (x,(l,(i',c'))))):Dw Q (.c _ (wu L l i c) k):=by
 obtain⟨x,i',c',e,_,h1⟩:=among_ok L c hc (by omega) hn
 exact Dw.c e (h _ _ _ h1)
theorem Dw.one{R:Type}{Q:R→Prop}{B n:Int}{l:List Int}{i c:Int}{k:(Bool)×((List (Int))×((Int)×(Int)))→Tr R}(hc:CK B l i)(hB:B≤900000)(hn:1≤n)(h:∀x i' c',CK (B+2) l i'→Dw Q (k (x,(l,(i',c'))))):Dw Q (.c _ (wgw n l i c) k):=by
 obtain⟨x,i',c',e,h1⟩:=one_ok n c hc (by omega) hn
 exact Dw.c e (h _ _ _ h1)
theorem Dw.bits{R:Type}{Q:R→Prop}{n:Nat}{x:Int}{k:List (Int)→Tr R}(hn:n≤1000)(h:∀s,s.length≤n→Dw Q (k s)):Dw Q (.c _ (wgy (n:Int) x) k):=by
 obtain⟨s,e,hs⟩:=l2Bits_ok hn x
 exact Dw.c e (h s hs)
theorem list120_ok{B:Int}{l:List Int}{i:Int}(n:Nat)(c:Int)(h:CK B l i)(hB:B≤900000):
  ∃i' c' o,whb (n:Int) ((0:Int),(l,(i,(c,([]:List Int)))))=some (l,(i',(c',o)))∧o.length≤7∧CK (B+14) l i':=by
 obtain⟨r,h1,i',c',o,rfl,h2⟩:=iter_cnt (f:=fun v=>(wat (n:Int) v).ev) (n:=min n 7)
  (fun a v=>∃i c o,v=((a:Int),(l,(i,(c,o))))∧o.length=a∧CK (B+2*a) l i)
  (fun r=>∃i c o,r=(l,(i,(c,o)))∧o.length≤7∧CK (B+14) l i)
  (fun a v ha hv=>by
   obtain⟨i,c,o,rfl,l1,hc⟩:=hv
   obtain⟨x,i1,c1,e1,_,_,h1⟩:=pick_ok 20 c hc (by omega) (by omega)
   have r1:=room8 o x (by omega)
   have aa:a<n:=by omega
   have ab:(a:Int)<7:=by omega
   refine⟨(((a+1:Nat):Int),(l,(i1,(c1,o++ [x])))),?_,i1,c1,_,rfl,by simp [l1],h1.mono (by omega)⟩
   simp (disch:=omega) only [EV,wat,aa,ab,e1,r1]
   rfl)
  (fun v hv=>by
   obtain⟨i,c,o,rfl,l1,hc⟩:=hv
   refine⟨(l,(i,(c,o))),?_,i,c,o,rfl,by omega,hc.mono (by omega)⟩
   by_cases hn:7<n
   ·have ab:¬((min n 7:Nat):Int)<7:=by omega
    have aa:min n 7<n:=by omega
    simp (disch:=omega) only [EV,wat,aa,ab]
   ·have aa:¬min n 7<n:=by omega
    simp (disch:=omega) only [EV,wat,aa])
  (v:=((0:Int),(l,(i,(c,([]:List Int)))))) ⟨i,c,[],rfl,rfl,h.mono (by omega)⟩
 exact⟨i',c',o,h1,h2⟩
theorem list12_ok{B:Int}{l:List Int}{i:Int}(n:Nat)(c:Int)(h:CK B l i)(hB:B≤800000):
  ∃L i' c',wdr (n:Int) l i c=some (L,(l,(i',c')))∧L.length≤8∧CK (B+18) l i':=by
 obtain⟨i1,c1,o,e1,ho,h1⟩:=list120_ok n c h (by omega)
 obtain⟨b,i2,c2,e2,h2⟩:=one_ok 12 c1 h1 (by omega) (by omega)
 unfold wdr wrs
 cases b with
 |false=>
  simp (disch:=omega) only [EV,e1,e2]
  exact⟨_,_,_,rfl,by omega,h2.mono (by omega)⟩
 |true=>
  obtain⟨x,i3,c3,e3,_,h3⟩:=among_ok [(0:Int),(-1:Int),(100:Int)] c2 h2 (by omega) (by decide)
  have r1:=room8 o x (by omega)
  simp (disch:=omega) only [EV,e1,e2,e3,r1]
  exact⟨_,_,_,rfl,by simp;omega,h3.mono (by omega)⟩
theorem Dw.list12{R:Type}{Q:R→Prop}{B:Int}{n:Nat}{l:List Int}{i c:Int}{k:(List (Int))×((List (Int))×((Int)×(Int)))→Tr R}(hc:CK B l i)(hB:B≤800000)(h:∀L i' c',L.length≤8→CK (B+18) l i'→Dw Q (k (L,(l,(i',c'))))):Dw Q (.c _ (wdr (n:Int) l i c) k):=by
 obtain⟨L,i',c',e,hL,h1⟩:=list12_ok n c hc hB
 exact Dw.c e (h _ _ _ hL h1)
theorem edit12_ok{B:Int}{l:List Int}{i:Int}(o:List Int)(ds:List (List Int))(c:Int)(aa:CK B l i)(hB:B≤700000):
  Dw (fun r=>r.2.2.2.2.1.length≤9∧r.2.2.2.2.2.1=l∧CK (B+40) l r.2.2.2.2.2.2.1) (wlz o ds l i c):=by
 unfold wlz
 refine Dw.pick aa (by omega) (by omega) fun x i1 c1 x0 x1 h1=>?_
 refine Dw.c (l1Least_eq _ _) (Dw.c (l1Most_eq _ _) (Dw.c (l1Least_eq _ _) (Dw.c (l1Most_eq _ _) ?_)))
 generalize hS:max (1:Int) (min ((o.length:Nat):Int) 7)=S
 generalize hT:max (1:Int) (min ((ds.length:Nat):Int) 7)=T
 have ab:1≤S:=by omega
 have ad:1≤T:=by omega
 dsimp only
 repeat' first
  |refine Dw.l ⟨?_,rfl,?_⟩
  |refine Dw.g (decide_eq_true (by simp only [xad,xai];omega)) ?_
  |refine Dw.t (fun _=>?_) (fun _=>?_)
  |(apply Dw.pick<;>first|assumption|omega|(intros;try dsimp only))
  |(apply Dw.among<;>first|assumption|omega|decide|(intros;try dsimp only))
  |(apply Dw.list12<;>first|assumption|omega|(intros;try dsimp only))
  |(show CK _ _ _;refine CK.mono (by assumption) (by omega))
  |(simp only [xj,xad,xai];omega)
  |omega
structure DrA(o:List Int)(ds:List (List Int))(s:List Int):Prop where
 fld:DrF o ds
 set:s.length≤9
theorem DrA.low{o s:List Int}{ds:List (List Int)}(h:DrA o ds s):Low1 o∧Low2 ds∧Low1 s:=⟨h.fld.o1,h.fld.d2,by have:=h.set;unfold Low1;omega⟩
theorem Atl.drA{o s:List Int}{ds:List (List Int)}{n:Int}(h:Atl o ds s n):DrA o ds s:=by
 have h1:=h.fld.len
 have h2:=h.fld.clients
 have h3:=fld_row h.fld
 have h4:=h.set.len
 exact⟨⟨by omega,by omega,fun r hr=>by have:=h3 r hr;omega⟩,by omega⟩
theorem atl0_ok{l:List Int}:∀ (m:Nat) {B i c n:Int} {o s:List Int} {ds:List (List Int)},CK B l i→B+50*m≤600000→DrA o ds s→
  ∃i' c' o' aa n' s',waa 0 ((m:Int),(l,(i,(c,(o,(ds,(n,s)))))))=some (l,(i',(c',(o',(aa,(n',s'))))))∧DrA o' aa s'∧CK (B+50*m) l i':=by
 intro m
 induction m with
 |zero=>
  intro B i c n o s ds hc hB hA
  refine⟨i,c,o,ds,n,s,?_,hA,hc.mono (by omega)⟩
  unfold waa
  rw [iter_eq]
  rfl
 |succ m ih=>
  intro B i c n o s ds hc hB hA
  obtain⟨q1,q2,q3⟩:=hA.low
  have e1:=l12Good_eq q1 q2 q3 n
  have ab:(0:Int)<((m+1:Nat):Int):=by omega
  have aj:=hc.2.2
  have hw:IntKind.wrap .i64 (((m+1:Nat):Int) -1)=(m:Int):=by rw [wrap64 (by omega) (by omega)];omega
  cases hb:atlasB o ds s n with
  |false=>
   refine⟨i,c,o,ds,n,s,?_,hA,hc.mono (by omega)⟩
   unfold waa
   rw [iter_eq]
   unfold wae
   dsimp only
   rw [Tr.ev_t,decide_eq_true ab,cond_true,Tr.ev_c,e1,hb,xf,Tr.ev_t,cond_false,Tr.ev_l]
  |true=>
   have ai:=atl_iff.1 hb
   obtain⟨⟨kd,a,b,d,L,l',i1,c1⟩,e2,h1,h2,h3⟩:=edit12_ok o ds c hc (by omega)
   simp only at h1 h2 h3
   subst h2
   have af:wzu o ds l' i c=some (kd,a,b,d,L,l',i1,c1):=e2
   have e3:=edo_eq ai kd a b d (l:=L) (by unfold Low1;omega)
   cases ad:doOf o ds s n kd a b d L with
   |none=>
    rw [ad] at e3
    obtain⟨i',c',o',aa,n',s',e4,h4,h5⟩:=ih (c:=c1) (n:=n) h3 (by omega) hA
    refine⟨i',c',o',aa,n',s',?_,h4,h5.mono (by omega)⟩
    unfold waa at e4⊢
    rw [iter_eq]
    have ae:(wae 0 (((m+1:Nat):Int),(l',(i,(c,(o,(ds,(n,s)))))))).ev=some (.inl ((m:Int),(l',(i1,(c1,(o,(ds,(n,s)))))))):=by
     unfold wae
     dsimp only
     rw [Tr.ev_t,decide_eq_true ab,cond_true,Tr.ev_c,e1,hb,xf,Tr.ev_t,cond_true,Tr.ev_c,af,xf,Tr.ev_c]
     dsimp only
     rw [e3,xf,Tr.ev_t,hw]
     rfl
    rw [ae]
    exact e4
   |some y=>
    rw [ad] at e3
    have ah:=doOf_atl ad
    obtain⟨i',c',o',aa,n',s',e4,h4,h5⟩:=ih (c:=c1) (n:=y.1) h3 (by omega) ah.drA
    refine⟨i',c',o',aa,n',s',?_,h4,h5.mono (by omega)⟩
    unfold waa at e4⊢
    rw [iter_eq]
    have ae:(wae 0 (((m+1:Nat):Int),(l',(i,(c,(o,(ds,(n,s)))))))).ev=some (.inl ((m:Int),(l',(i1,(c1,(y.2.1,(y.2.2.1,(y.1,y.2.2.2)))))))):=by
     unfold wae
     dsimp only
     rw [Tr.ev_t,decide_eq_true ab,cond_true,Tr.ev_c,e1,hb,xf,Tr.ev_t,cond_true,Tr.ev_c,af,xf,Tr.ev_c]
     dsimp only
     rw [e3,xf,Tr.ev_t,hw]
     rfl
    rw [ae]
    exact e4
theorem Dw.atl0{R:Type}{Q:R→Prop}{B x i c n:Int}{l o s:List Int}{ds:List (List Int)}{k:(List (Int))×((Int)×((Int)×((List (Int))×((List (List (Int)))×((Int)×(List (Int)))))))→Tr R}(hc:CK B l i)(hB:B≤500000)(ab:0≤x)(ad:x<4)(hA:DrA o ds s)
  (h:∀i' c' o' aa n' s',DrA o' aa s'→CK (B+200) l i'→Dw Q (k (l,(i',(c',(o',(aa,(n',s')))))))):Dw Q (.c _ (waa 0 (x,(l,(i,(c,(o,(ds,(n,s)))))))) k):=by
 obtain⟨m,rfl⟩:∃m:Nat,x=(m:Int):=⟨x.toNat,by omega⟩
 obtain⟨i',c',o',aa,n',s',e,h1,h2⟩:=atl0_ok m (c:=c) (n:=n) hc (by omega) hA
 exact Dw.c e (h _ _ _ _ _ _ h1 (h2.mono (by omega)))
structure DrA'(o:List Int)(ds:List (List Int))(s:List Int):Prop where
 fld:DrF o ds
 set:s.length≤10
theorem DrA'.low{o s:List Int}{ds:List (List Int)}(h:DrA' o ds s):Low1 o∧Low2 ds∧Low1 s:=⟨h.fld.o1,h.fld.d2,by have:=h.set;unfold Low1;omega⟩
theorem atlas_ok{B:Int}{l:List Int}{i:Int}(c:Int)(aa:CK B l i)(hB:B≤100000):
  Dw (fun r=>DrA' r.1 r.2.1 r.2.2.2.1∧r.2.2.2.2.1=l∧CK (B+600) l r.2.2.2.2.2.1) (wmx l i c):=by
 obtain⟨o,ds,i1,c1,e1,hD,h1⟩:=fieldMost_ok (M:=6) (by omega) c aa (by omega)
 have ab:wlr (6:Int) l i c=some (o,(ds,(l,(i1,c1)))):=e1
 have e2:=l2Good_eq hD.o1 hD.d2
 have ho:=hD.lo
 unfold wmx
 refine Dw.c ab (Dw.c e2 ?_)
 have ad:DrA o ds []:=⟨hD,by simp⟩
 have hp:1≤IntKind.wrap .i64 ((1:Int)*2^(min (Int.toNat ((o.length:Nat):Int)) (IntKind.bits .i64))):=by
  have:∀k:Nat,k≤8→1≤IntKind.wrap .i64 ((1:Int)*2^(min (Int.toNat ((k:Nat):Int)) (IntKind.bits .i64))):=by decide
  exact this _ ho
 dsimp only
 repeat' first
  |refine Dw.l ⟨⟨?_,?_⟩,rfl,?_⟩
  |(refine Dw.g (decide_eq_true ?_) ?_)
  |refine Dw.t (fun _=>?_) (fun _=>?_)
  |(apply Dw.pick<;>first|assumption|omega|(intros;try dsimp only))
  |(apply Dw.one<;>first|assumption|omega|(intros;try dsimp only))
  |(apply Dw.among<;>first|assumption|omega|decide|(intros;try dsimp only))
  |(apply Dw.atl0<;>first|assumption|omega|(intros;try dsimp only))
  |(apply Dw.bits<;>first|omega|(intros;try dsimp only))
  |exact DrA.mk (by assumption) (by omega)
  |(show CK _ _ _;refine CK.mono (by assumption) (by omega))
  |(exact DrA.fld (by assumption))
  |(simp only [xj,xad,xai];have:=DrA.set (by assumption);omega)
  |omega
end Go.Proofs.YteiekijgoifhoaaGreatDoor
