/-
 Plain laws: lists of numbers as texts, and what the Console tells.
-/
import Derived.Test.YteiekijgoifhoaaGreatDoorP82
import Derived.Test.YteiekijgoifhoaaGreatDoorP12
import Derived.Test.YteiekijgoifhoaaGreatDoorQ14
namespace Go.Proofs.YteiekijgoifhoaaGreatDoor
def dg(x:Int):List UInt8:=Lib.decDigits x.toNat
def txtOf(l:List Int):List UInt8:=Lib.join (l.map dg) [32]
def tellL(l:List Int):List UInt8:=if l=[] then [110,111,110,101] else txtOf l
def Few(l:List Int):Prop:=l.length≤7∧∀x∈l,0≤x∧x<1000000
theorem join_len:∀l:List (List UInt8),(∀x∈l,x.length≤7)→(Lib.join l [32]).length≤8*l.length
 | [],_=>by simp [Lib.join_nil]
 | [x],h=>by
  rw [Lib.join_one]
  have:=h x (xt.2 rfl)
  simp only [xad,xai]
  omega
 |x::y::r,h=>by
  have ih:=join_len (y::r) fun z hz=>h z (xu _ hz)
  have hx:=h x xx
  rw [Lib.join_cons] at ih⊢
  unfold Lib.joinTail at ih⊢
  simp only [xbm,List.flatten_cons,xj,xad,xai] at ih⊢
  omega
theorem few_dg{l:List Int}(h:Few l):∀x∈l.map dg,x.length≤7∧hasB x 32=false:=fun x hx=>by
 obtain⟨y,hy,rfl⟩:=xae.1 hx
 have:=h.2 y hy
 exact⟨dig_len (by omega),dig_has (by omega)⟩
theorem few_len{l:List Int}(h:Few l):(txtOf l).length≤56:=by
 have:=join_len (l.map dg) fun x hx=>((few_dg h) x hx).1
 rw [xaw] at this
 have:=h.1
 unfold txtOf
 omega
theorem tellL_len{l:List Int}(h:Few l):(tellL l).length≤56:=by
 unfold tellL
 split
 ·decide
 ·exact(few_len h)
theorem map_range{l:List Int}:(List.range l.length).map (fun i=>dg (l.getD i 0))=l.map dg:=by
 apply xdv
 intro i
 rw [xr,xr]
 by_cases hi:i<l.length
 ·rw [xbs hi,xh hi,xy,xy,xd,xh hi]
  rfl
 ·rw [xbj (by simp;omega),xbj (by omega)]
  rfl
theorem few_join{l:List Int}(h:Few l):woq (l.map dg) [32]=some (txtOf l):=by
 have h1:=h.1
 have h2:=(few_len h)
 unfold txtOf at h2
 unfold woq joinF
 rw [if_pos ⟨by rw [xaw];omega,by omega⟩]
 rfl
theorem numbersText_eq{l:List Int}(h:Few l):wxa l=some (txtOf l):=by
 have h1:=h.1
 have aa:∀x:List UInt8,List.length [x]=1:=fun _=>rfl
 have key:=iter_app (f:=fun v=>(wcn (l,(l.length:Int)) v).ev) (n:=l.length) (fun i (acc:List (List UInt8))=>((i:Int),acc)) (fun i=>dg (l.getD i 0)) (fun acc=>acc)
  (fun i acc hi ha=>by
   have hx:=h.2 _ (getD_mem (d:=0) hi)
   have hb:(acc.length+1)*16≤140737488355328:=by omega
   simp (disch:=omega) only [EV,wcn,hi,Itoa_eq hx.1 (show l.getD i 0<10000000 by omega),aa,hb]
   rfl)
  (fun acc _=>by simp (disch:=omega) only [EV,wcn,xo])
 rw [map_range] at key
 have k1:wjg (l,(l.length:Int)) ((0:Int),([]:List (List UInt8)))=some (l.map dg):=key
 unfold wxa wwz
 simp (disch:=omega) only [EV,k1,(few_join h)]
theorem listText_eq{l:List Int}(h:Few l):wxc l=some (tellL l):=by
 unfold wxc wxb tellL
 cases l with
 |nil=>rfl
 |cons x r=>
  have hz:(((((x::r).length:Nat):Int))==0)=false:=beq_eq_false_iff_ne.2 (by simp;omega)
  simp (disch:=omega) only [EV,hz,numbersText_eq h]
  rw [if_neg (by simp)]
theorem vWord_eq{x:Int}(h:0≤x∧x<1000000):wez x true=some (dg x):=by
 have h1:¬x< -999999:=by omega
 have h2:¬999999<x:=by omega
 unfold wez wpu waei wze
 simp (disch:=omega) only [EV,h1,h2,Itoa_eq h.1 (show x<10000000 by omega)]
 rfl
theorem vWords_eq{l:List Int}(h:Few l):wee l true=some (tellL l):=by
 have h1:=h.1
 have aa:∀x:List UInt8,List.length [x]=1:=fun _=>rfl
 have key:=iter_app (f:=fun v=>(wdg l v).ev) (n:=l.length) (fun i (acc:List (List UInt8))=>((i:Int),acc)) (fun i=>dg (l.getD i 0)) (fun acc=>acc)
  (fun i acc hi ha=>by
   have hx:=h.2 _ (getD_mem (d:=0) hi)
   have hb:(acc.length+1)*16≤140737488355328:=by omega
   simp (disch:=omega) only [EV,wdg,hi,vWord_eq hx,aa,hb]
   rfl)
  (fun acc _=>by simp (disch:=omega) only [EV,wdg,xo])
 rw [map_range] at key
 have k1:wjx l ((0:Int),([]:List (List UInt8)))=some (l.map dg):=key
 unfold wee wzl tellL
 cases l with
 |nil=>
  simp (disch:=omega) only [EV,k1]
  rfl
 |cons x r=>
  generalize hL:x::r=L at*
  have ab:L≠ []:=by rw [←hL];simp
  have hlen:1≤L.length:=xay.2 ab
  have hd:=(few_dg h)
  have hz:((((L.map dg).length:Nat):Int)==0)=false:=beq_eq_false_iff_ne.2 (by rw [xaw];omega)
  have e1:=containsFunc_string (l:=L.map dg) (by rw [xaw];omega) (p:=fun ad=>Option.bind (wpw ad.1 [32]) fun ae=>some ae) (q:=fun _=>false) (fun x hx=>by
   show Option.bind (wpw x [32]) _=_
   have:=contains1_eq x 32
   rw [show((32:UInt8).toNat)=32 from rfl,(hd x hx).2] at this
   unfold wpw wzj
   simp (disch:=omega) only [EV,this])
  have af:((L.map dg).any fun _=>false)=false:=by simp
  rw [af] at e1
  obtain⟨y,k2,t,hy,ht⟩:=iter_inv (f:=fun v=>(wdf (L.map dg,(L.map dg,(((L.map dg).length:Int),[32]))) v).ev) (n:=(L.map dg).length) (fun i (a:Int)=>(a,(i:Int))) (fun i a=>0≤a∧a≤6+7*(i:Int)) (fun y=>∃t:Int,y=.inl t∧0≤t∧t≤4000) (s0:=((L.map dg).length:Int) -1)
   (by rw [xaw];omega)
   (fun i a hi ⟨a0,a1⟩=>by
    left
    have hm:=(hd _ (getD_mem (d:=[]) hi)).1
    have ak:i<7:=by rw [xaw] at hi;omega
    have hc:¬(4000:Int)<a+((((L.map dg).getD i []).length:Nat):Int):=by omega
    refine⟨a+((((L.map dg).getD i []).length:Nat):Int),?_,by omega,by omega⟩
    simp (disch:=omega) only [EV,wdf,hi,hc]
    rfl)
   (fun a ⟨a0,a1⟩=>⟨.inl a,by simp (disch:=omega) only [EV,wdf,xo],a,rfl,a0,by rw [xaw] at a1;omega⟩)
  subst hy
  have ah:wjw (L.map dg,(L.map dg,(((L.map dg).length:Int),[32]))) (((L.map dg).length:Int) -1,(0:Int))=some (.inl t):=k2
  have hw:IntKind.wrap .i64 (((L.map dg).length:Int) -1)=((L.map dg).length:Int) -1:=wrap64 (by rw [xaw];omega) (by rw [xaw];omega)
  have ai:¬(4000:Int)<t:=by omega
  have aj:(((([32]:List UInt8).length:Nat):Int) !=1)=false:=rfl
  rw [if_neg ab]
  simp (disch:=omega) only [EV,k1,hz]
  unfold wael wzk
  simp (disch:=omega) only [EV,hz,aj,e1,hw,ah,ai,(few_join h)]
def upTo(n:Nat)(k:Int):List (List Int):=(setsOf n).filter fun s=>decide ((s.length:Int)≤k)
theorem upTo_mem{n:Nat}{k:Int}{s:List Int}:s∈upTo n k↔s∈setsOf n∧(s.length:Int)≤k:=by
 unfold upTo
 rw [xac,decide_eq_true_eq]
theorem upTo_ne{n:Nat}(h7:n≤7){k:Int}(h1:1≤k∧k≤(n:Int)):upTo n k≠ []:=fun e=>by
 have h:=ofSz_ne h7 (k:=k) h1.1 h1.2
 obtain⟨s,hs⟩:=List.exists_mem_of_ne_nil _ h
 obtain⟨a,b⟩:=ofSz_mem.1 hs
 have:s∈upTo n k:=upTo_mem.2 ⟨a,by omega⟩
 rw [e] at this
 cases this
def cenSet(ds:List (List Int))(n:Nat)(k:Int):List Int:=firstMin (far ds) (upTo n k)
theorem centres_eq{o:List Int}{ds:List (List Int)}{k:Int}(hf:Fld o ds)(hm:wem o ds k=some true)(hk:1≤k∧k≤(o.length:Int)):F_zm o ds k=some (true,cenSet ds o.length k):=by
 have h7:=hf.len
 have h1:=hf.pos
 have hS:=setsP h1 h7
 obtain⟨x,e1,e2,e3⟩:=hS.im
 have ab:=setsP_len hS h7
 have ak:x.1.length=(setsOf o.length).length:=by rw [←e3,permL_len]
 obtain⟨y,k1,k2,k3⟩:=deleteFunc_eq (x:=x) e2 (by omega) (p:=fun ad=>Option.bind (wos ad.1 k) fun ae=>some ae) (q:=fun s=> !decide ((s.length:Int)≤k)) fun s hs=>by
  rw [e3] at hs
  obtain⟨p1,p2,p3⟩:=setP_places h7 hS hs
  unfold Low1 at p3
  show Option.bind (wos s k) _=_
  unfold wos wxd
  simp (disch:=omega) only [EV]
  by_cases h:(s.length:Int)≤k
  ·rw [decide_eq_true h,decide_eq_false (by omega)];rfl
  ·rw [decide_eq_false h,decide_eq_true (by omega)];rfl
 have aa:permL y.1 y.2=upTo o.length k:=by
  rw [k3,e3]
  unfold upTo
  congr 1
  funext s
  simp
 have al:y.1.length=(upTo o.length k).length:=by rw [←aa,permL_len]
 have ai:=xay.2 (upTo_ne h7 (k:=k) hk)
 have aj:(upTo o.length k).length≤(setsOf o.length).length:=xdt _ _
 have hle:=leastP_eq (x:=y) k2 (by omega) (by omega) (p:=fun af=>Option.bind (wfr o ds af.1) fun ah=>some ah) (g:=far ds) fun s hs=>by
  rw [aa] at hs
  obtain⟨p1,p2,_⟩:=setP_places h7 hS (upTo_mem.1 hs).1
  show Option.bind (wfr o ds s) _=_
  rw [reach_eq hf p1 p2]
  rfl
 rw [aa] at hle
 unfold F_zm T_zm wadp wxe cenSet
 simp (disch:=omega) only [EV,hm,e1,k1,hle]
end Go.Proofs.YteiekijgoifhoaaGreatDoor
