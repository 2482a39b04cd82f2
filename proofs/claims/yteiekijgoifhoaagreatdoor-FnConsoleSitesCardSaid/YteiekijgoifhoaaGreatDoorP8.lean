/-
 Plain laws: grounds, metric grounds.
-/
import Derived.Test.YteiekijgoifhoaaGreatDoorPM
namespace Go.Proofs.YteiekijgoifhoaaGreatDoor
def at2(x:List (List Int))(i j:Nat):Int:=(x.getD i []).getD j 0
def rowOK(x:List (List Int))(n i:Nat):Bool:=allIn (x.getD i []) 0 99&&(((x.getD i []).length:Int)==(n:Int))
structure Ground(x:List (List Int)):Prop where
 row:∀i,i<x.length→rowOK x x.length i=true
 diag:∀i,i<x.length→at2 x i i=0
 sym:∀i j,i<x.length→j<x.length→at2 x i j=at2 x j i
 len:x.length≤7
theorem rowOK_len{x:List (List Int)}{n i:Nat}(h:rowOK x n i=true):(x.getD i []).length=n:=by
 simp only [rowOK,xg,beq_iff_eq] at h
 omega
theorem rowOK_in{x:List (List Int)}{n i j:Nat}(h:rowOK x n i=true)(hj:j<n):0≤at2 x i j∧at2 x i j≤99:=by
 have hl:=rowOK_len h
 simp only [rowOK,xg] at h
 exact allIn_getD h.1 (by omega)
theorem Ground.in{x:List (List Int)}(h:Ground x){i j:Nat}(hi:i<x.length)(hj:j<x.length):0≤at2 x i j∧at2 x i j≤99:=rowOK_in (h.row i hi) hj
theorem Ground.rowLen{x:List (List Int)}(h:Ground x){i:Nat}(hi:i<x.length):(x.getD i []).length=x.length:=rowOK_len (h.row i hi)
end Go.Proofs.YteiekijgoifhoaaGreatDoor
/-
 Plain laws: rising lists, dispersion, allocations, the cost of hubs.
-/
namespace Go.Proofs.YteiekijgoifhoaaGreatDoor
def risingB(l:List Int)(lo hi:Int):Bool:=(List.range l.length).all fun i=>isIn (l.getD i 0) lo hi&&(i==0||decide (l.getD (i-1) 0<l.getD i 0))
theorem risingB_iff{l:List Int}{lo hi:Int}:risingB l lo hi=true↔(∀x∈l,lo≤x∧x≤hi)∧l.Pairwise (· < ·):=by
 unfold risingB
 simp only [xp,xaq,xg,xbl,beq_iff_eq,decide_eq_true_eq,isIn_iff]
 constructor
 ·intro h
  refine⟨fun x hx=>?_,?_⟩
  ·obtain⟨i,hi,e⟩:=xbr hx
   have:=(h i hi).1
   rw [xd,xh hi] at this
   rw [←e];exact this
  ·rw [xfo]
   have key:∀d i,i+d+1<l.length→l.getD i 0<l.getD (i+d+1) 0:=by
    intro d
    induction d with
    |zero=>
     intro i hi
     have:=(h (i+1) hi).2
     rcases this with h0|h0
     ·omega
     ·simpa using h0
    |succ d ih=>
     intro i hi
     have h1:=ih i (by omega)
     have:=(h (i+(d+1)+1) hi).2
     rcases this with h0|h0
     ·omega
     ·have e:i+(d+1)+1-1=i+d+1:=by omega
      rw [e] at h0
      omega
   intro i j hi hj aa
   have:=key (j-i-1) i (by omega)
   rw [show i+(j-i-1)+1=j by omega,xd,xd,xh hi,xh hj] at this
   exact this
 ·rintro⟨h1,h2⟩ i hi
  refine⟨h1 _ (getD_mem hi),?_⟩
  by_cases e:i=0
  ·exact .inl e
  ·right
   have:=xfo.1 h2 (i-1) i (by omega) hi (by omega)
   rw [xd,xd,xh hi,xh (by omega)]
   exact this
theorem risingB_in{l:List Int}{lo hi:Int}(h:risingB l lo hi=true){i:Nat}(aa:i<l.length):lo≤l.getD i 0∧l.getD i 0≤hi:=(risingB_iff.1 h).1 _ (getD_mem aa)
theorem l1Rising_eq{l:List Int}(hl:Low1 l)(lo hi:Int):wro l lo hi=some (risingB l lo hi):=by
 unfold Low1 at hl
 have h0:wgz (l,(lo,hi)) 0=_:=iter_allR (f:=fun v=>(war (l,(lo,hi)) v).ev) (n:=l.length) (mk:=fun i=>(i:Int)) (p:=fun i=>isIn (l.getD i 0) lo hi&&(i==0||decide (l.getD (i-1) 0<l.getD i 0))) (yes:=.inl ()) (no:=.inr ()) (fun i aa _=>by
   cases i with
   |zero=>
    simp (disch:=omega) only [EV,war,aa,l1In_eq]
    cases isIn (l.getD 0 0) lo hi<;>rfl
   |succ i=>
    have h1:i<l.length:=by omega
    have e0:(0:Int)<((i+1:Nat):Int):=by omega
    have e1:((i+1:Nat):Int) -1=(i:Int):=by omega
    have e2:(i+1==0)=false:=rfl
    simp (disch:=omega) only [EV,war,aa,l1In_eq,e0,e1,h1,e2,xev,xfi]
    cases isIn (l.getD (i+1) 0) lo hi with
    |false=>rfl
    |true=>
     by_cases h:l.getD (i+1) 0≤l.getD i 0
     ·simp only [xbv,cond_false,if_pos h,xcv,show¬l.getD i 0<l.getD (i+1) 0 by omega,decide_false]
     ·simp only [xbv,cond_false,if_neg h,xcv,show l.getD i 0<l.getD (i+1) 0 by omega,decide_true]
      rfl) (by simp (disch:=omega) only [EV,war,xo])
 unfold wro wrn
 simp (disch:=omega) only [EV,h0]
 unfold risingB
 cases (List.range l.length).all fun i=>isIn (l.getD i 0) lo hi&&(i==0||decide (l.getD (i-1) 0<l.getD i 0))<;>rfl
theorem isRising_eq{l:List Int}(hl:Low1 l){n:Int}(h0:0≤n)(h1:n≤1048576):wnh l n=some (risingB l 0 (n-1)):=by
 unfold Low1 at hl
 have h0:wia (l,(n,(l,((l.length:Nat):Int)))) 0=_:=iter_allR (f:=fun v=>(wbb (l,(n,(l,((l.length:Nat):Int)))) v).ev) (n:=l.length) (mk:=fun i=>(i:Int)) (p:=fun i=>isIn (l.getD i 0) 0 (n-1)&&(i==0||decide (l.getD (i-1) 0<l.getD i 0))) (yes:=.inl ()) (no:=.inr ()) (fun i aa _=>by
   cases i with
   |zero=>
    simp (disch:=omega) only [EV,wbb,aa,between_eq]
    cases isIn (l.getD 0 0) 0 (n-1)<;>rfl
   |succ i=>
    have h1:i<l.length:=by omega
    have e0:(0:Int)<((i+1:Nat):Int):=by omega
    have e1:((i+1:Nat):Int) -1=(i:Int):=by omega
    have e2:(i+1==0)=false:=rfl
    simp (disch:=omega) only [EV,wbb,aa,between_eq,e0,e1,h1,e2,xev,xfi]
    cases isIn (l.getD (i+1) 0) 0 (n-1) with
    |false=>rfl
    |true=>
     by_cases h:l.getD (i+1) 0≤l.getD i 0
     ·simp only [xbv,cond_false,if_pos h,xcv,show¬l.getD i 0<l.getD (i+1) 0 by omega,decide_false]
     ·simp only [xbv,cond_false,if_neg h,xcv,show l.getD i 0<l.getD (i+1) 0 by omega,decide_true]
      rfl) (by simp (disch:=omega) only [EV,wbb,xo])
 unfold wnh wui
 simp (disch:=omega) only [EV,h0]
 unfold risingB
 cases (List.range l.length).all fun i=>isIn (l.getD i 0) 0 (n-1)&&(i==0||decide (l.getD (i-1) 0<l.getD i 0))<;>rfl
def pl(s:List Int)(i:Nat):Nat:=(s.getD i 0).toNat
structure Places(s:List Int)(n:Nat):Prop where
 low:(s.length:Int)≤1048576
 mem:∀i,i<s.length→0≤s.getD i 0∧s.getD i 0<n
theorem Places.pl{s:List Int}{n:Nat}(h:Places s n){i:Nat}(hi:i<s.length):s.getD i 0=(pl s i:Int)∧Go.Proofs.YteiekijgoifhoaaGreatDoor.pl s i<n:=by
 have:=h.mem i hi
 unfold Go.Proofs.YteiekijgoifhoaaGreatDoor.pl
 omega
theorem Places.of{s:List Int}{n:Nat}(hs:Low1 s)(h:risingB s 0 ((n:Int) -1)=true):Places s n:=⟨hs,fun i hi=>by have:=risingB_in h hi;omega⟩
end Go.Proofs.YteiekijgoifhoaaGreatDoor
/-
 Plain laws: fields, atlases.
-/
namespace Go.Proofs.YteiekijgoifhoaaGreatDoor
def fieldB(o:List Int)(ds:List (List Int)):Bool:=isIn (o.length:Int) 1 7&&(allIn o 0 99&&(decide ((ds.length:Int)≤7)&&ds.all fun r=>decide (r.length=o.length)&&allIn r 0 99))
structure Fld(o:List Int)(ds:List (List Int)):Prop where
 pos:1≤o.length
 len:o.length≤7
 cost:∀i,i<o.length→0≤o.getD i 0∧o.getD i 0≤99
 clients:ds.length≤7
 rowLen:∀j,j<ds.length→(ds.getD j []).length=o.length
 dist:∀j i,j<ds.length→i<o.length→0≤(ds.getD j []).getD i 0∧(ds.getD j []).getD i 0≤99
theorem fieldB_iff{o:List Int}{ds:List (List Int)}:fieldB o ds=true↔Fld o ds:=by
 unfold fieldB
 simp only [xg,decide_eq_true_eq,xp,isIn_iff]
 constructor
 ·rintro⟨⟨h1,h2⟩,h3,h4,h5⟩
  have h6:∀j,j<ds.length→(ds.getD j []).length=o.length∧allIn (ds.getD j []) 0 99=true:=fun j hj=>h5 _ (getD_mem (d:=[]) hj)
  exact⟨by omega,by omega,fun i hi=>allIn_getD h3 hi,by omega,fun j hj=>(h6 j hj).1,fun j i hj hi=>allIn_getD (h6 j hj).2 (by rw [(h6 j hj).1];exact hi)⟩
 ·rintro⟨h1,h2,h3,h4,h5,h6⟩
  refine⟨by omega,allIn_iff.2 fun a ha=>?_,by omega,fun r hr=>?_⟩
  ·obtain⟨i,hi,e⟩:=xbr ha
   have:=h3 i hi
   rw [xd,xh hi,xax,e] at this
   exact this
  ·obtain⟨j,hj,e⟩:=xbr hr
   have e2:ds.getD j []=r:=by rw [xd,xh hj,xax,e]
   have h7:=h5 j hj
   rw [e2] at h7
   refine⟨h7,allIn_iff.2 fun a ha=>?_⟩
   obtain⟨i,hi,e3⟩:=xbr ha
   have:=h6 j i hj (by omega)
   rw [e2,xd,xh hi,xax,e3] at this
   exact this
theorem l2Good_eq{o:List Int}{ds:List (List Int)}(ho:Low1 o)(hd:Low2 ds):wgv o ds=some (fieldB o ds):=by
 have hl:=hd.1
 have h0:wgu ((o.length:Int),(o,ds)) 0=_:=iter_allR (f:=fun v=>(wbu ((o.length:Int),(o,ds)) v).ev) (n:=ds.length) (mk:=fun i=>(i:Int)) (p:=fun i=>decide ((ds.getD i []).length=o.length)&&allIn (ds.getD i []) 0 99) (yes:=.inl ()) (no:=.inr ()) (fun i hi _=>by
   simp (disch:=omega) only [EV,wbu,hi,l2Row_eq (hd.2 _ (getD_mem (d:=[]) hi)),int_eq]
   cases allIn (ds.getD i []) 0 99<;>cases decide ((ds.getD i []).length=o.length)<;>rfl) (by simp (disch:=omega) only [EV,wbu,xo])
 rw [all_range ds [] (fun r=>decide (r.length=o.length)&&allIn r 0 99)] at h0
 unfold wgv wrj fieldB
 simp (disch:=omega) only [EV,h0,l1In_eq,l2Row_eq ho,int_eq]
 cases ds.all (fun r=>decide (r.length=o.length)&&allIn r 0 99)<;>cases isIn (o.length:Int) 1 7<;>cases allIn o 0 99<;>cases decide ((ds.length:Int)≤7)<;>rfl
theorem IsField_eq{o:List Int}{ds:List (List Int)}(ho:Low1 o)(hd:Low2 ds):wdt o ds=some (fieldB o ds):=by
 have hl:=hd.1
 have hc:=containsFunc_Sint (l:=ds) (show(ds.length:Int)<9223372036854775807 by omega) (p:=fun a=>Option.bind (wug a.1 o ds) fun y=>some y) (q:=fun r=> !(decide (r.length=o.length)&&allIn r 0 99)) fun r hr=>by
  unfold wug wuf
  simp (disch:=omega) only [EV,areBetween_eq (hd.2 r hr),int_ne]
  cases decide (r.length=o.length)<;>cases allIn r 0 99<;>rfl
 unfold wdt wuh fieldB
 simp (disch:=omega) only [EV,between_eq,areBetween_eq ho,hc]
 rw [xfw]
 simp only [Bool.not_not]
 cases isIn (o.length:Int) 1 7<;>cases allIn o 0 99<;>by_cases h:(ds.length:Int)≤7<;>simp only [h,decide_true,decide_false,if_true,if_false]<;>rfl
def atlasB(o:List Int)(ds:List (List Int))(s:List Int)(c:Int):Bool:=fieldB o ds&&(risingB s 0 ((o.length:Int) -1)&&isIn c 0 1000)
theorem l2Set_eq{o:List Int}(ds:List (List Int)){s:List Int}(ho:Low1 o)(hs:Low1 s):wlx o ds s=some (risingB s 0 ((o.length:Int) -1)):=by
 unfold Low1 at ho
 unfold wlx wrp
 simp (disch:=omega) only [EV,l1Rising_eq hs]
theorem l12Good_eq{o:List Int}{ds:List (List Int)}{s:List Int}(ho:Low1 o)(hd:Low2 ds)(hs:Low1 s)(c:Int):wha o ds s c=some (atlasB o ds s c):=by
 unfold wha wrq atlasB
 simp (disch:=omega) only [EV,l2Good_eq ho hd,l2Set_eq ds ho hs,l1In_eq]
 cases fieldB o ds<;>cases risingB s 0 ((o.length:Int) -1)<;>rfl
theorem sp_IsAtlas_eq{o:List Int}{ds:List (List Int)}{s:List Int}(ho:Low1 o)(hd:Low2 ds)(hs:Low1 s)(c:Int):wup o ds s c=some (atlasB o ds s c):=by
 unfold wup wuo
 simp (disch:=omega) only [EV,l12Good_eq ho hd hs]
theorem im_IsAtlas_eq{o:List Int}{ds:List (List Int)}{s:List Int}(ho:Low1 o)(hd:Low2 ds)(hs:Low1 s)(c:Int):wib o ds s c=some (atlasB o ds s c):=by
 have h:=ho
 unfold Low1 at h
 unfold wib wuj atlasB
 simp (disch:=omega) only [EV,IsField_eq ho hd,isRising_eq hs (show(0:Int)≤(o.length:Int) by omega) h,between_eq]
 cases fieldB o ds<;>cases risingB s 0 ((o.length:Int) -1)<;>rfl
end Go.Proofs.YteiekijgoifhoaaGreatDoor
/-
 Plain laws: what a set of sites serves: lengths, service, payment, total, reach; values of objectives.
-/
namespace Go.Proofs.YteiekijgoifhoaaGreatDoor
theorem Fld.at2{o:List Int}{ds:List (List Int)}(h:Fld o ds){j i:Nat}(hj:j<ds.length)(hi:i<o.length):0≤at2 ds j i∧at2 ds j i≤99:=h.dist j i hj hi
def srvStep(ds:List (List Int))(j:Nat)(s:List Int)(b k:Nat):Nat:=if at2 ds j (pl s k)<at2 ds j b then pl s k else b
def srv(ds:List (List Int))(j:Nat)(s:List Int):Nat:=(List.range s.length).foldl (srvStep ds j s) (pl s 0)
def near(ds:List (List Int))(s:List Int)(j:Nat):Int:=at2 ds j (srv ds j s)
def pay(o s:List Int):Int:=(List.range s.length).foldl (fun a k=>a+o.getD (pl s k) 0) 0
def serve(ds:List (List Int))(s:List Int):Int:=(List.range ds.length).foldl (fun a j=>a+near ds s j) 0
def far(ds:List (List Int))(s:List Int):Int:=(List.range ds.length).foldl (fun a j=>max a (near ds s j)) 0
def lensOf(ds:List (List Int))(s:List Int):List Int:=(List.range ds.length).map (near ds s)
theorem foldl_inv{α S:Type}{g:S→α→S}(Q:S→Prop){l:List α}(h:∀s a,a∈l→Q s→Q (g s a)){s:S}(hs:Q s):Q (l.foldl g s):=by
 induction l generalizing s with
 |nil=>exact hs
 |cons a l ih=>exact ih (fun s b hb=>h s b (xu _ hb)) (h s a xx hs)
theorem srvStep_lt{ds:List (List Int)}{j:Nat}{s:List Int}{n b k:Nat}(hs:Places s n)(hk:k<s.length)(hb:b<n):srvStep ds j s b k<n:=by
 unfold srvStep
 split
 ·exact(hs.pl hk).2
 ·exact hb
theorem srv_lt{ds:List (List Int)}{j:Nat}{s:List Int}{n:Nat}(hs:Places s n)(h0:0<s.length):srv ds j s<n:=
 foldl_inv (fun b=>b<n) (fun _ _ hk hb=>srvStep_lt hs (xaq.1 hk) hb) (hs.pl h0).2
theorem near_in{o:List Int}{ds:List (List Int)}(hf:Fld o ds){s:List Int}(hs:Places s o.length)(h0:0<s.length){j:Nat}(hj:j<ds.length):0≤near ds s j∧near ds s j≤99:=hf.at2 hj (srv_lt hs h0)
theorem sum_bound{α:Type}{l:List α}{f:α→Int}{B:Int}(h:∀a∈l,0≤f a∧f a≤B)(a0:Int):a0≤l.foldl (fun a x=>a+f x) a0∧l.foldl (fun a x=>a+f x) a0≤a0+(l.length:Int)*B:=by
 induction l generalizing a0 with
 |nil=>simp
 |cons x l ih=>
  have h1:=ih (fun a ha=>h a (xu _ ha)) (a0+f x)
  have h2:=h x xx
  simp only [xbk,xad]
  have e:((l.length+1:Nat):Int)*B=(l.length:Int)*B+B:=by
   rw [xfz,Int.add_mul];simp
  rw [e]
  omega
theorem serve_in{o:List Int}{ds:List (List Int)}(hf:Fld o ds){s:List Int}(hs:Places s o.length)(h0:0<s.length):0≤serve ds s∧serve ds s≤693:=by
 have:=sum_bound (l:=List.range ds.length) (f:=near ds s) (B:=99) (fun j hj=>near_in hf hs h0 (xaq.1 hj)) 0
 have hc:=hf.clients
 unfold serve
 simp only [xdi] at this
 omega
theorem pay_in{o:List Int}{ds:List (List Int)}(hf:Fld o ds){s:List Int}(hs:Places s o.length):0≤pay o s∧pay o s≤103809024:=by
 have:=sum_bound (l:=List.range s.length) (f:=fun k=>o.getD (pl s k) 0) (B:=99) (fun k hk=>hf.cost _ (hs.pl (xaq.1 hk)).2) 0
 have hc:=hs.low
 unfold pay
 simp only [xdi] at this
 omega
theorem l2Site_eq{o:List Int}{ds:List (List Int)}(hf:Fld o ds){s:List Int}(hs:Places s o.length)(h0:0<s.length){j:Nat}(hj:j<ds.length):wsn o ds (j:Int) s=some (srv ds j s:Int):=by
 have ab:=hs.low
 have hr:=hf.rowLen j hj
 have hlen:=hf.len
 have key:wds ((j:Int),(s,(o,ds))) ((pl s 0:Int),0)=some (srv ds j s:Int):=
  (iter_fold (f:=fun v=>(waz ((j:Int),(s,(o,ds))) v).ev) (n:=s.length) (mk:=fun k (b:Nat)=>((b:Int),(k:Int))) (I:=fun _ b=>b<o.length) (g:=srvStep ds j s) (fin:=fun b=>(b:Int)) (s0:=pl s 0) (hs.pl h0).2
   (fun k b hk hb=>by
    obtain⟨e1,h1⟩:=hs.pl hk
    have e3:(ds.getD j []).getD (pl s k) 0=at2 ds j (pl s k):=rfl
    have e4:(ds.getD j []).getD b 0=at2 ds j b:=rfl
    refine⟨?_,srvStep_lt hs hk hb⟩
    simp (disch:=omega) only [EV,waz,hj,hk,e1,hr,h1,hb,e3,e4]
    unfold srvStep
    split<;>rfl)
   (fun b _=>by simp (disch:=omega) only [EV,waz,xo])).1
 have aa:wds ((j:Int),(s,(o,ds))) ((pl s 0:Int),1)=some (srv ds j s:Int):=by
  rw [←key]
  unfold wds
  conv=>rhs;rw [iter_eq]
  obtain⟨e1,h1⟩:=hs.pl h0
  have e3:(ds.getD j []).getD (pl s 0) 0=at2 ds j (pl s 0):=rfl
  have z:Int.toNat 0=0:=rfl
  simp (disch:=omega) only [EV,waz,hj,h0,z,e1,hr,h1,e3,xdl,show(0:Int)<(s.length:Int) by omega]
  rfl
 unfold wsn wsm
 have z:Int.toNat 0=0:=rfl
 simp (disch:=omega) only [EV,z,(hs.pl h0).1,aa]
theorem l2Nearest_eq{o:List Int}{ds:List (List Int)}(hf:Fld o ds){s:List Int}(hs:Places s o.length)(h0:0<s.length){j:Nat}(hj:j<ds.length):wsp o ds (j:Int) s=some (near ds s j):=by
 have hr:=hf.rowLen j hj
 have hb:srv ds j s<o.length:=srv_lt hs h0
 unfold wsp wso
 have e3:(ds.getD j []).getD (srv ds j s) 0=near ds s j:=rfl
 simp (disch:=omega) only [EV,hj,l2Site_eq hf hs h0 hj,hr,hb,e3]
theorem server_eq{o:List Int}{ds:List (List Int)}(hf:Fld o ds){s:List Int}(hs:Places s o.length)(h0:0<s.length){j:Nat}(hj:j<ds.length):wwr o ds (j:Int) s=some (srv ds j s:Int):=by
 have aa:=hs.low
 have hr:=hf.rowLen j hj
 have hlen:=hf.len
 have key:wjd ((j:Int),(s,((s.length:Int),(o,ds)))) ((pl s 0:Int),0)=some (srv ds j s:Int):=
  (iter_fold (f:=fun v=>(wck ((j:Int),(s,((s.length:Int),(o,ds)))) v).ev) (n:=s.length) (mk:=fun k (b:Nat)=>((b:Int),(k:Int))) (I:=fun _ b=>b<o.length) (g:=srvStep ds j s) (fin:=fun b=>(b:Int)) (s0:=pl s 0) (hs.pl h0).2
   (fun k b hk hb=>by
    obtain⟨e1,h1⟩:=hs.pl hk
    have e3:(ds.getD j []).getD (pl s k) 0=at2 ds j (pl s k):=rfl
    have e4:(ds.getD j []).getD b 0=at2 ds j b:=rfl
    refine⟨?_,srvStep_lt hs hk hb⟩
    simp (disch:=omega) only [EV,wck,hj,hk,e1,hr,h1,hb,e3,e4]
    unfold srvStep
    split<;>rfl)
   (fun b _=>by simp (disch:=omega) only [EV,wck,xo])).1
 unfold wwr wwq
 have z:Int.toNat 0=0:=rfl
 simp (disch:=omega) only [EV,z,(hs.pl h0).1,key]
theorem iter_app{V R α:Type}{f:V→Option (V⊕R)}{n:Nat}(mk:Nat→List α→V)(g:Nat→α)(fin:List α→R)
  (aa:∀i l,i<n→l.length=i→f (mk i l)=some (.inl (mk (i+1) (l++ [g i])))) (ab:∀l,l.length=n→f (mk n l)=some (.inr (fin l))):iter f (mk 0 [])=some (fin ((List.range n).map g)):=by
 have:=(iter_fold (f:=f) (n:=n) mk (fun i l=>l.length=i) (fun l i=>l++ [g i]) fin (s0:=[]) rfl (fun i l hi hl=>⟨aa i l hi hl,by simp [hl]⟩) ab).1
 rw [this]
 congr 2
 have:∀ (l:List Nat) (acc:List α),l.foldl (fun l i=>l++ [g i]) acc=acc++l.map g:=by
  intro l
  induction l with
  |nil=>simp
  |cons x l ih=>intro acc;simp [ih]
 rw [this];simp
theorem served_eq{o:List Int}{ds:List (List Int)}(hf:Fld o ds){s:List Int}(hs:Places s o.length)(h0:0<s.length):wwt o ds s=some ((List.range ds.length).map fun j=>(srv ds j s:Int)):=by
 have hc:=hf.clients
 have key:wje (s,((ds.length:Int),(o,ds))) (0,[])=some ((List.range ds.length).map fun j=>(srv ds j s:Int)):=
  iter_app (f:=fun v=>(wcl (s,((ds.length:Int),(o,ds))) v).ev) (n:=ds.length) (mk:=fun k (l:List Int)=>((k:Int),l)) (fun j=>(srv ds j s:Int)) (fun l=>l)
   (fun j l hj hl=>by
    have e:(l.length+List.length [(srv ds j s:Int)])*8≤140737488355328:=by simp;omega
    simp (disch:=omega) only [EV,wcl,hj,server_eq hf hs h0 hj,e]
    rfl) (fun l _=>by simp (disch:=omega) only [EV,wcl,xo])
 unfold wwt wws
 simp (disch:=omega) only [EV,key]
theorem lengths_eq{o:List Int}{ds:List (List Int)}(hf:Fld o ds){s:List Int}(hs:Places s o.length)(h0:0<s.length):F_zy o ds s=some (lensOf ds s):=by
 have hc:=hf.clients
 unfold F_zy T_zy
 simp (disch:=omega) only [EV,served_eq hf hs h0]
 generalize hr:((List.range ds.length).map fun j=>(srv ds j s:Int))=r
 have aa:r.length=ds.length:=by rw [←hr];simp
 have ab:∀j,j<ds.length→r.getD j 0=(srv ds j s:Int):=fun j hj=>by rw [←hr,xd,xr,xbs hj];rfl
 have key:wqc ((r.length:Int),(o,(ds,r))) (0,[])=some (lensOf ds s):=
  iter_app (f:=fun v=>(wdz ((r.length:Int),(o,(ds,r))) v).ev) (n:=ds.length) (mk:=fun k (l:List Int)=>((k:Int),l)) (near ds s) (fun l=>l)
   (fun j l hj hl=>by
    have hb:srv ds j s<o.length:=srv_lt hs h0
    have e3:(ds.getD j []).getD (srv ds j s) 0=near ds s j:=rfl
    have e:∀x:Int,(l.length+List.length [x])*8≤140737488355328:=fun x=>by simp;omega
    simp (disch:=omega) only [EV,wdz,hj,aa,ab j hj,hf.rowLen j hj,hb,e3,e]
    rfl) (fun l _=>by simp (disch:=omega) only [EV,wdz,aa,xo])
 simp (disch:=omega) only [EV,key]
theorem im_sum_eq{l:List Int}{B:Int}(hl:(l.length:Int)*B<9223372036854775808)(hn:(l.length:Int)<9223372036854775807)(h:∀a∈l,0≤a∧a≤B):www l=some (l.foldl (fun a x=>a+x) 0):=by
 have key:=iter_foldl (f:=fun v=>(wcm (l,(l.length:Int)) v).ev) l 0 (mk:=fun k a=>(a,(k:Int))) (I:=fun k a=>0≤a∧a≤(k:Int)*B) (g:=fun a x=>a+x) (fin:=fun a=>a) (s0:=0) (by simp)
  (fun k a hk ha=>by
   have h1:=h _ (getD_mem (d:=0) hk)
   have h2:((k+1:Nat):Int)*B=(k:Int)*B+B:=by rw [xfz,Int.add_mul];simp
   have hB:0≤B:=by omega
   have h3:((k+1:Nat):Int)*B≤(l.length:Int)*B:=xcs (by omega) hB
   refine⟨?_,by omega,by omega⟩
   simp (disch:=omega) only [EV,wcm,hk]
   rfl)
  (fun a _=>by simp (disch:=omega) only [EV,wcm,xo])
 unfold www wwv
 have k1:wjf (l,(l.length:Int)) (0,0)=_:=key.1
 simp (disch:=omega) only [EV,k1]
theorem service_eq{o:List Int}{ds:List (List Int)}(hf:Fld o ds){s:List Int}(hs:Places s o.length)(h0:0<s.length):wfm o ds s=some (serve ds s):=by
 have hc:=hf.clients
 unfold wfm wwx
 have hl:(lensOf ds s).length=ds.length:=by simp [lensOf]
 simp (disch:=omega) only [EV,lengths_eq hf hs h0,im_sum_eq (l:=lensOf ds s) (B:=99) (by omega) (by omega) (fun a ha=>by
  obtain⟨j,hj,rfl⟩:=xae.1 ha
  exact near_in hf hs h0 (xaq.1 hj))]
 unfold lensOf serve
 rw [xgc]
theorem l2Serve_eq{o:List Int}{ds:List (List Int)}(hf:Fld o ds){s:List Int}(hs:Places s o.length)(h0:0<s.length):wsr o ds s=some (serve ds s):=by
 have hc:=hf.clients
 have key:whk (s,(o,ds)) (0,0)=some (serve ds s):=
  (iter_fold (f:=fun v=>(wbz (s,(o,ds)) v).ev) (n:=ds.length) (mk:=fun k a=>(a,(k:Int))) (I:=fun k a=>0≤a∧a≤(k:Int)*99) (g:=fun a j=>a+near ds s j) (fin:=fun a=>a) (s0:=0) (by simp)
   (fun j a hj ha=>by
    have h1:=near_in hf hs h0 hj
    refine⟨?_,by omega,by omega⟩
    simp (disch:=omega) only [EV,wbz,hj,l2Nearest_eq hf hs h0 hj]
    rfl)
   (fun a _=>by simp (disch:=omega) only [EV,wbz,xo])).1
 unfold wsr wsq
 simp (disch:=omega) only [EV,key]
theorem l2Pay_eq{o:List Int}{ds:List (List Int)}(hf:Fld o ds){s:List Int}(hs:Places s o.length):wsu o ds s=some (pay o s):=by
 have aa:=hs.low
 have key:whl (s,(o,ds)) (0,0)=some (pay o s):=
  (iter_fold (f:=fun v=>(wca (s,(o,ds)) v).ev) (n:=s.length) (mk:=fun k a=>(a,(k:Int))) (I:=fun k a=>0≤a∧a≤(k:Int)*99) (g:=fun a k=>a+o.getD (pl s k) 0) (fin:=fun a=>a) (s0:=0) (by simp)
   (fun k a hk ha=>by
    obtain⟨e1,h1⟩:=hs.pl hk
    have h2:=hf.cost _ h1
    refine⟨?_,by omega,by omega⟩
    simp (disch:=omega) only [EV,wca,hk,e1,h1]
    rfl)
   (fun a _=>by simp (disch:=omega) only [EV,wca,xo])).1
 unfold wsu wss
 simp (disch:=omega) only [EV,key]
theorem payment_eq{o:List Int}{ds:List (List Int)}(hf:Fld o ds){s:List Int}(hs:Places s o.length):wxq o ds s=some (pay o s):=by
 have aa:=hs.low
 have key:wji (s,((s.length:Int),(o,ds))) (0,0)=some (pay o s):=
  (iter_fold (f:=fun v=>(wco (s,((s.length:Int),(o,ds))) v).ev) (n:=s.length) (mk:=fun k a=>(a,(k:Int))) (I:=fun k a=>0≤a∧a≤(k:Int)*99) (g:=fun a k=>a+o.getD (pl s k) 0) (fin:=fun a=>a) (s0:=0) (by simp)
   (fun k a hk ha=>by
    obtain⟨e1,h1⟩:=hs.pl hk
    have h2:=hf.cost _ h1
    refine⟨?_,by omega,by omega⟩
    simp (disch:=omega) only [EV,wco,hk,e1,h1]
    rfl)
   (fun a _=>by simp (disch:=omega) only [EV,wco,xo])).1
 unfold wxq wxp
 simp (disch:=omega) only [EV,key]
theorem l2Total_eq{o:List Int}{ds:List (List Int)}(hf:Fld o ds){s:List Int}(hs:Places s o.length)(h0:0<s.length):wdw o ds s=some (pay o s+serve ds s):=by
 have h1:=serve_in hf hs h0
 have h2:=pay_in hf hs
 unfold wdw wsv
 simp (disch:=omega) only [EV,l2Serve_eq hf hs h0,l2Pay_eq hf hs]
 rw [Int.add_comm]
theorem total_eq{o:List Int}{ds:List (List Int)}(hf:Fld o ds){s:List Int}(hs:Places s o.length)(h0:0<s.length):wep o ds s=some (pay o s+serve ds s):=by
 have h1:=serve_in hf hs h0
 have h2:=pay_in hf hs
 unfold wep wxr
 simp (disch:=omega) only [EV,service_eq hf hs h0,payment_eq hf hs]
theorem slicesMax_eq{l:List Int}(h0:0<l.length)(hn:(l.length:Int)<9223372036854775807):wxg l=some (l.foldl (fun a x=>max a x) (l.getD 0 0)):=by
 have mx:∀a x:Int,(if a<x then x else a)=max a x:=fun a x=>by
  by_cases h:a<x
  ·rw [if_pos h,xfv (by omega)]
  ·rw [if_neg h,Int.max_eq_left (by omega)]
 have key:=(iter_foldl (f:=fun v=>(wbe l v).ev) l 0 (mk:=fun k a=>(a,(k:Int))) (I:=fun _ _=>True) (g:=fun a x=>max a x) (fin:=fun a=>a) (s0:=l.getD 0 0) trivial
  (fun k a hk _=>by
   refine⟨?_,trivial⟩
   simp (disch:=omega) only [EV,wbe,hk,mx]
   rfl)
  (fun a _=>by simp (disch:=omega) only [EV,wbe,xo])).1
 have aa:weo l (l.getD 0 0,1)=some (l.foldl (fun a x=>max a x) (l.getD 0 0)):=by
  rw [←key]
  unfold weo
  conv=>rhs;rw [iter_eq]
  have z:Int.toNat 0=0:=rfl
  have z1:((0:Nat):Int)=0:=rfl
  have ab:(0:Int)<(l.length:Int):=by omega
  simp (disch:=omega) only [EV,wbe,h0,ab,z,z1,mx,Int.max_self]
  rfl
 unfold wxg wxf
 have z:Int.toNat 0=0:=rfl
 have h1:¬(l.length:Int)<1:=by omega
 simp (disch:=omega) only [EV,h1,z,aa]
theorem max_zero{l:List Int}(h:∀x∈l,0≤x):(l++ [0]).foldl (fun a x=>max a x) ((l++ [0]).getD 0 0)=l.foldl (fun a x=>max a x) 0:=by
 cases l with
 |nil=>rfl
 |cons y l=>
  have h1:=h y xx
  have hge:∀ (l:List Int) (a:Int),a≤l.foldl (fun a x=>max a x) a:=by
   intro l
   induction l with
   |nil=>intro a;exact xby _
   |cons x l ih=>intro a;exact Int.le_trans (Int.le_max_left a x) (ih _)
  rw [xdx]
  have e:((y::l)++ [0]).getD 0 0=y:=rfl
  have:=hge l y
  simp only [e,xbk,xgd,Int.max_self,xfv h1]
  omega
theorem reach_eq{o:List Int}{ds:List (List Int)}(hf:Fld o ds){s:List Int}(hs:Places s o.length)(h0:0<s.length):wfr o ds s=some (far ds s):=by
 have hc:=hf.clients
 have hl:(lensOf ds s).length=ds.length:=by simp [lensOf]
 unfold wfr wxm
 have e:((lensOf ds s).length+List.length [(0:Int)])*8≤140737488355328:=by simp;omega
 simp (disch:=omega) only [EV,lengths_eq hf hs h0,e,slicesMax_eq (l:=lensOf ds s++ [0]) (by simp) (by simp;omega)]
 rw [max_zero fun x hx=>by
  obtain⟨j,hj,rfl⟩:=xae.1 hx
  exact(near_in hf hs h0 (xaq.1 hj)).1]
 unfold lensOf far
 rw [xgc]
def openB(o:List Int)(ds:List (List Int))(s:List Int):Bool:=fieldB o ds&&(risingB s 0 ((o.length:Int) -1)&&decide (0<s.length))
theorem l2Two_eq{o:List Int}{ds:List (List Int)}{s:List Int}(ho:Low1 o)(hd:Low2 ds)(hs:Low1 s):wsj o ds s=some (openB o ds s):=by
 unfold wsj wsi openB
 simp (disch:=omega) only [EV,l2Good_eq ho hd,l2Set_eq ds ho hs]
 have e:decide ((0:Int)<(s.length:Int))=decide (0<s.length):=by simp
 rw [e]
 cases fieldB o ds<;>cases risingB s 0 ((o.length:Int) -1)<;>rfl
theorem isOpened_eq{o:List Int}{ds:List (List Int)}{s:List Int}(ho:Low1 o)(hd:Low2 ds)(hs:Low1 s):wjh o ds s=some (openB o ds s):=by
 have h:=ho
 unfold Low1 at h
 unfold wjh wxn F_zx T_zx openB
 simp (disch:=omega) only [EV,IsField_eq ho hd,isRising_eq hs (show(0:Int)≤(o.length:Int) by omega) h]
 have e:((0:Int)<(s.length:Int))=(0<s.length):=by simp
 by_cases h0:0<s.length
 ·have h1:(0:Int)<(s.length:Int):=by omega
  simp only [h0,h1,decide_true,if_true,Bool.and_true]
  cases fieldB o ds<;>cases risingB s 0 ((o.length:Int) -1)<;>rfl
 ·have h1:¬(0:Int)<(s.length:Int):=by omega
  simp only [h0,h1,decide_false,if_false,Bool.and_false]
  cases fieldB o ds<;>rfl
theorem openB_iff{o:List Int}{ds:List (List Int)}{s:List Int}(hs:Low1 s)(h:openB o ds s=true):Fld o ds∧Places s o.length∧0<s.length:=by
 unfold openB at h
 simp only [xg,decide_eq_true_eq] at h
 exact⟨fieldB_iff.1 h.1,Places.of hs h.2.1,h.2.2⟩
def totalOf(o:List Int)(ds:List (List Int))(s:List Int)(c:Int):Int×Bool:=bif atlasB o ds s c&&decide (0<s.length) then(pay o s+serve ds s,true) else(0,false)
theorem atlasB_fld{o:List Int}{ds:List (List Int)}{s:List Int}{c:Int}(hs:Low1 s)(h:atlasB o ds s c=true):Fld o ds∧Places s o.length:=by
 unfold atlasB at h
 simp only [xg] at h
 exact⟨fieldB_iff.1 h.1,Places.of hs h.2.1⟩
theorem im_AtlasTotal_eq{o:List Int}{ds:List (List Int)}{s:List Int}(ho:Low1 o)(hd:Low2 ds)(hs:Low1 s)(c:Int):F_zg o ds s c=some (totalOf o ds s c):=by
 unfold F_zg T_zg wadr wxs totalOf
 simp (disch:=omega) only [EV,im_IsAtlas_eq ho hd hs,isOpened_eq ho hd hs]
 cases h:atlasB o ds s c with
 |false=>rfl
 |true=>
  obtain⟨h1,h2⟩:=atlasB_fld hs h
  have hb:openB o ds s=decide (0<s.length):=by
   unfold atlasB at h
   simp only [xg] at h
   unfold openB
   rw [h.1,h.2.1,xcv,xcv]
  rw [hb]
  by_cases h0:0<s.length
  ·simp (disch:=omega) only [EV,h0,total_eq h1 h2 h0]
  ·simp (disch:=omega) only [EV,h0]
end Go.Proofs.YteiekijgoifhoaaGreatDoor
