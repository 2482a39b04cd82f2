/-
 Plain laws: all sets of n sites, as both sides list them: computed by the kernel for each n.
-/
import Derived.Test.YteiekijgoifhoaaGreatDoorC1
import Derived.Test.YteiekijgoifhoaaGreatDoorP8
import Derived.Test.YteiekijgoifhoaaGreatDoorPM
namespace Go.Proofs.YteiekijgoifhoaaGreatDoor
def HG(x:List Nat×List (List Int)):Prop:=∀i∈x.1,i<x.2.length
def setsOf:Nat→List (List Int)
 |1=>[[0]]
 |2=>[[0],[1],[0,1]]
 |3=>[[0],[1],[2],[0,1],[0,2],[1,2],[0,1,2]]
 |4=>[[0],[1],[2],[3],[0,1],[0,2],[0,3],[1,2],[1,3],[2,3],[0,1,2],[0,1,3],[0,2,3],[1,2,3],[0,1,2,3]]
 |5=>[[0],[1],[2],[3],[4],[0,1],[0,2],[0,3],[0,4],[1,2],[1,3],[1,4],[2,3],[2,4],[3,4],[0,1,2],[0,1,3],[0,1,4],[0,2,3],[0,2,4],[0,3,4],[1,2,3],[1,2,4],[1,3,4],[2,3,4],[0,1,2,3],[0,1,2,4],[0,1,3,4],[0,2,3,4],[1,2,3,4],[0,1,2,3,4]]
 |6=>[[0],[1],[2],[3],[4],[5],[0,1],[0,2],[0,3],[0,4],[0,5],[1,2],[1,3],[1,4],[1,5],[2,3],[2,4],[2,5],[3,4],[3,5],[4,5],[0,1,2],[0,1,3],[0,1,4],[0,1,5],[0,2,3],[0,2,4],[0,2,5],[0,3,4],[0,3,5],[0,4,5],[1,2,3],[1,2,4],[1,2,5],[1,3,4],[1,3,5],[1,4,5],[2,3,4],[2,3,5],[2,4,5],[3,4,5],[0,1,2,3],[0,1,2,4],[0,1,2,5],[0,1,3,4],[0,1,3,5],[0,1,4,5],[0,2,3,4],[0,2,3,5],[0,2,4,5],[0,3,4,5],[1,2,3,4],[1,2,3,5],[1,2,4,5],[1,3,4,5],[2,3,4,5],[0,1,2,3,4],[0,1,2,3,5],[0,1,2,4,5],[0,1,3,4,5],[0,2,3,4,5],[1,2,3,4,5],[0,1,2,3,4,5]]
 |7=>[[0],[1],[2],[3],[4],[5],[6],[0,1],[0,2],[0,3],[0,4],[0,5],[0,6],[1,2],[1,3],[1,4],[1,5],[1,6],[2,3],[2,4],[2,5],[2,6],[3,4],[3,5],[3,6],[4,5],[4,6],[5,6],[0,1,2],[0,1,3],[0,1,4],[0,1,5],[0,1,6],[0,2,3],[0,2,4],[0,2,5],[0,2,6],[0,3,4],[0,3,5],[0,3,6],[0,4,5],[0,4,6],[0,5,6],[1,2,3],[1,2,4],[1,2,5],[1,2,6],[1,3,4],[1,3,5],[1,3,6],[1,4,5],[1,4,6],[1,5,6],[2,3,4],[2,3,5],[2,3,6],[2,4,5],[2,4,6],[2,5,6],[3,4,5],[3,4,6],[3,5,6],[4,5,6],[0,1,2,3],[0,1,2,4],[0,1,2,5],[0,1,2,6],[0,1,3,4],[0,1,3,5],[0,1,3,6],[0,1,4,5],[0,1,4,6],[0,1,5,6],[0,2,3,4],[0,2,3,5],[0,2,3,6],[0,2,4,5],[0,2,4,6],[0,2,5,6],[0,3,4,5],[0,3,4,6],[0,3,5,6],[0,4,5,6],[1,2,3,4],[1,2,3,5],[1,2,3,6],[1,2,4,5],[1,2,4,6],[1,2,5,6],[1,3,4,5],[1,3,4,6],[1,3,5,6],[1,4,5,6],[2,3,4,5],[2,3,4,6],[2,3,5,6],[2,4,5,6],[3,4,5,6],[0,1,2,3,4],[0,1,2,3,5],[0,1,2,3,6],[0,1,2,4,5],[0,1,2,4,6],[0,1,2,5,6],[0,1,3,4,5],[0,1,3,4,6],[0,1,3,5,6],[0,1,4,5,6],[0,2,3,4,5],[0,2,3,4,6],[0,2,3,5,6],[0,2,4,5,6],[0,3,4,5,6],[1,2,3,4,5],[1,2,3,4,6],[1,2,3,5,6],[1,2,4,5,6],[1,3,4,5,6],[2,3,4,5,6],[0,1,2,3,4,5],[0,1,2,3,4,6],[0,1,2,3,5,6],[0,1,2,4,5,6],[0,1,3,4,5,6],[0,2,3,4,5,6],[1,2,3,4,5,6],[0,1,2,3,4,5,6]]
 |_=>[]
noncomputable def chkI(n:Nat):Bool:=match wja (n:Int) with
 |some x=>x.1.all (fun i=>Nat.blt i x.2.length)&&(permL x.1 x.2==setsOf n)
 |none=>false
noncomputable def chkS(n:Nat):Bool:=wtm (n:Int)==some (setsOf n)
def chkR(n:Nat):Bool:=(setsOf n).all (fun s=>risingB s 0 ((n:Int) -1)&&Nat.blt 0 s.length&&Nat.ble s.length 7)&&Nat.beq ((setsOf n).length+1) (2^n)
theorem chkR_1:chkR 1=true:=by kernel_rfl
theorem chkR_2:chkR 2=true:=by kernel_rfl
theorem chkR_3:chkR 3=true:=by kernel_rfl
theorem chkR_4:chkR 4=true:=by kernel_rfl
theorem chkR_5:chkR 5=true:=by kernel_rfl
theorem chkR_6:chkR 6=true:=by kernel_rfl
theorem chkR_7:chkR 7=true:=by kernel_rfl
theorem chk_all:∀n:Nat,1≤n→n≤7→chkR n=true
 |1,_,_=>chkR_1
 |2,_,_=>chkR_2
 |3,_,_=>chkR_3
 |4,_,_=>chkR_4
 |5,_,_=>chkR_5
 |6,_,_=>chkR_6
 |7,_,_=>chkR_7
 |0,h,_=>by omega
 |n+8,_,h=>by omega
theorem chkS_1:chkS 1=true:=by kernel_rfl
theorem chkS_2:chkS 2=true:=by kernel_rfl
theorem chkS_3:chkS 3=true:=by kernel_rfl
theorem chkS_4:chkS 4=true:=by kernel_rfl
theorem chkS_5:chkS 5=true:=by kernel_rfl
theorem chkS_6:chkS 6=true:=by kernel_rfl
theorem chkS_7:chkS 7=true:=by kernel_rfl
theorem chk_sp:∀n:Nat,1≤n→n≤7→chkS n=true
 |1,_,_=>chkS_1
 |2,_,_=>chkS_2
 |3,_,_=>chkS_3
 |4,_,_=>chkS_4
 |5,_,_=>chkS_5
 |6,_,_=>chkS_6
 |7,_,_=>chkS_7
 |0,h,_=>by omega
 |n+8,_,h=>by omega
theorem chkI_1:chkI 1=true:=by kernel_rfl
theorem chkI_2:chkI 2=true:=by kernel_rfl
theorem chkI_3:chkI 3=true:=by kernel_rfl
theorem chkI_4:chkI 4=true:=by kernel_rfl
theorem chkI_5:chkI 5=true:=by kernel_rfl
theorem chkI_6:chkI 6=true:=by kernel_rfl
theorem chkI_7:chkI 7=true:=by kernel_rfl
theorem chk_im:∀n:Nat,1≤n→n≤7→chkI n=true
 |1,_,_=>chkI_1
 |2,_,_=>chkI_2
 |3,_,_=>chkI_3
 |4,_,_=>chkI_4
 |5,_,_=>chkI_5
 |6,_,_=>chkI_6
 |7,_,_=>chkI_7
 |0,h,_=>by omega
 |n+8,_,h=>by omega
structure SetsP(n:Nat):Prop where
 im:∃x,wja (n:Int)=some x∧HG x∧permL x.1 x.2=setsOf n
 sp:wtm (n:Int)=some (setsOf n)
 len:(setsOf n).length+1=2^n
 rising:∀s∈setsOf n,risingB s 0 ((n:Int) -1)=true∧0<s.length∧s.length≤7
theorem setsP{n:Nat}(h1:1≤n)(h2:n≤7):SetsP n:=by
 have c3:=chk_all n h1 h2
 simp only [chkR,xg,xp] at c3
 have hr:∀s∈setsOf n,risingB s 0 ((n:Int) -1)=true∧0<s.length∧s.length≤7:=fun s hs=>⟨(c3.1 s hs).1.1,by simpa using(c3.1 s hs).1.2,by simpa using(c3.1 s hs).2⟩
 have c2:=chk_sp n h1 h2
 simp only [chkS,beq_iff_eq] at c2
 have aa:=c2
 have c1:=chk_im n h1 h2
 have hi:∃x,wja (n:Int)=some x∧HG x∧permL x.1 x.2=setsOf n:=by
  unfold chkI at c1
  split at c1
  next x hx=>
   simp only [xg,xp,beq_iff_eq] at c1
   exact⟨x,hx,fun i hi=>by simpa using c1.1 i hi,c1.2⟩
  next=>cases c1
 exact⟨hi,aa,xe c3.2,hr⟩
theorem pow2_le{n:Nat}(h:n≤7):2^n≤2^7:=Nat.pow_le_pow_right (by omega) h
theorem setsP_len{n:Nat}(hS:SetsP n)(h:n≤7):(setsOf n).length≤128:=by
 have h1:=hS.len
 have h2:=pow2_le h
 have h3:2^7≤128:=by decide
 omega
end Go.Proofs.YteiekijgoifhoaaGreatDoor
/-
 Plain laws: sets that are left out, and the first best one, where headers are kept apart from rows.
-/
namespace Go.Proofs.YteiekijgoifhoaaGreatDoor
theorem permL_len{α:Type}(ix:List Nat)(l:List (List α)):(permL ix l).length=ix.length:=by simp [permL]
theorem permL_getD{α:Type}{ix:List Nat}(l:List (List α)){i:Nat}(h:i<ix.length):(permL ix l).getD i []=l.getD (ix.getD i 0) []:=by
 unfold permL
 rw [xd,xr,xd (l:=ix),xh h]
 rfl
theorem permL_snoc{α:Type}(ix:List Nat)(i:Nat)(l:List (List α)):permL (ix++ [i]) l=permL ix l++ [l.getD i []]:=by simp [permL]
theorem permL_take{α:Type}(ix:List Nat)(l:List (List α))(n:Nat):permL (ix.take n) l=(permL ix l).take n:=by simp [permL]
theorem HG.at{x:List Nat×List (List Int)}(h:HG x){i:Nat}(hi:i<x.1.length):x.1.getD i 0<x.2.length:=h _ (getD_mem hi)
theorem take_snocD{α:Type}{l:List α}{i:Nat}(d:α)(h:i<l.length):l.take (i+1)=l.take i++ [l.getD i d]:=by
 rw [xbo h,xd,xh h]
 rfl
theorem leastP_eq{x:List Nat×List (List Int)}(hx:HG x)(h0:0<x.1.length)(hl:(x.1.length:Int)≤1048576){p:HL [.slice (.int .i64)]→Option Int}{g:List Int→Int}(hp:∀s∈permL x.1 x.2,p (s,())=some (g s)):
  wol p x=some (firstMin g (permL x.1 x.2)):=by
 obtain⟨ix,l⟩:=x
 simp only at h0 hl hp⊢
 have hn:=permL_len ix l
 have ab:∀i,i<ix.length→l.getD (ix.getD i 0) []∈permL ix l:=fun i hi=>by
  rw [←permL_getD l hi]
  exact getD_mem (by omega)
 have ai:∀m,0<m→(permL ix l).take m≠ []:=fun m hm e=>by
  have:=congrArg List.length e
  simp only [xw,hn,xai] at this
  omega
 have hz:Int.toNat 0=0:=rfl
 have hb:∀i,i<ix.length→ix.getD i 0<l.length:=fun i hi=>HG.at hx hi
 have h:=iter_fold (f:=fun v=>(wbd (p,((ix.length:Int),(ix,l))) v).ev) (n:=ix.length) (mk:=fun i (b:Nat)=>(b,(i:Int)))
  (I:=fun i b=>b<l.length∧l.getD b []∈permL ix l∧l.getD b []=firstMin g ((permL ix l).take (i+if i=0 then 1 else 0))) (g:=fun b i=>if g (l.getD (ix.getD i 0) [])<g (l.getD b []) then ix.getD i 0 else b) (fin:=fun b=>b) (s0:=ix.getD 0 0)
  ⟨hb 0 h0,ab 0 h0,by
   rw [if_pos rfl,take_snocD [] (by omega),permL_getD l h0,xge,xbu,firstMin_one]⟩
  (fun i b hi hI=>by
   obtain⟨aj,ae,ad⟩:=hI
   have af:=hp _ (ab i hi)
   have ah:=hp _ ae
   have aa:firstMin g ((permL ix l).take (i+1))=if g (l.getD (ix.getD i 0) [])<g (l.getD b []) then l.getD (ix.getD i 0) [] else l.getD b []:=by
    by_cases e:i=0
    ·subst e
     rw [if_pos rfl] at ad
     rw [if_neg,ad]
     rw [ad,xbg,take_snocD [] (by omega),permL_getD l h0,xge,xbu,firstMin_one]
     exact xdl _
    ·rw [if_neg e,xbd] at ad
     rw [take_snocD [] (by omega),permL_getD l hi,firstMin_snoc (ai i (by omega)),←ad]
   by_cases hq:g (l.getD (ix.getD i 0) [])<g (l.getD b [])
   ·refine⟨?_,?_⟩
    ·simp (disch:=omega) only [EV,wbd,hi,hb i hi,af,ah,hq]
     rfl
    ·rw [if_pos hq] at aa⊢
     exact⟨hb i hi,ab i hi,by rw [if_neg (by omega),xbd,aa]⟩
   ·refine⟨?_,?_⟩
    ·simp (disch:=omega) only [EV,wbd,hi,hb i hi,af,ah,hq]
     rfl
    ·rw [if_neg hq] at aa⊢
     exact⟨aj,ae,by rw [if_neg (by omega),xbd,aa]⟩)
  (fun b _=>by simp (disch:=omega) only [EV,wbd,xo])
 have h1:wjc (p,((ix.length:Int),(ix,l))) (ix.getD 0 0,(0:Int))=_:=h.1
 obtain⟨_,_,e⟩:=h.2
 rw [if_neg (by omega),xbd,xah (by omega)] at e
 unfold wol wwp
 simp (disch:=omega) only [EV,show inR (0:Int) ix.length=true from inR_int (by omega) (by omega),hz,h0,hb 0 h0,h1]
 rw [←e]
theorem deleteFunc_eq{x:List Nat×List (List Int)}(hx:HG x)(hl:(x.1.length:Int)≤1048576){p:HL [.slice (.int .i64)]→Option Bool}{q:List Int→Bool}(hp:∀s∈permL x.1 x.2,p (s,())=some (q s)):
  ∃y,woh p x=some y∧HG y∧permL y.1 y.2=(permL x.1 x.2).filter fun s=> !q s:=by
 obtain⟨ix,l⟩:=x
 simp only at hl hp⊢
 have hn:=permL_len ix l
 have aa:=indexFunc_Sint (l:=permL ix l) (by omega) hp
 unfold woh wwn
 cases hf:(permL ix l).findIdx? q with
 |none=>
  rw [hf] at aa
  have e:(Option.elim (none:Option Nat) (-1) fun i=>((i:Nat):Int))= -1:=rfl
  rw [e] at aa
  simp (disch:=omega) only [EV,aa,show((-1:Int)== -1)=true from rfl]
  refine⟨_,rfl,hx,?_⟩
  have aw:=List.findIdx?_eq_none_iff.1 hf
  exact(xfd.2 fun s hs=>by rw [aw s hs];rfl).symm
 |some i0=>
  rw [hf] at aa
  have e:(Option.elim (some i0:Option Nat) (-1) fun i=>((i:Nat):Int))=(i0:Int):=rfl
  rw [e] at aa
  obtain⟨ay,az,af⟩:=xdd.1 hf
  have bb:i0<ix.length:=by omega
  have ah:∀i,i<ix.length→l.getD (ix.getD i 0) []∈permL ix l:=fun i hi=>by
   rw [←permL_getD l hi]
   exact getD_mem (by omega)
  have hb:∀i,i<ix.length→ix.getD i 0<l.length:=fun i hi=>HG.at hx hi
  have ai:((permL ix l).take (i0+1)).filter (fun s=> !q s)=(permL ix l).take i0:=by
   rw [xbo ay,xfm]
   have e1:((permL ix l).take i0).filter (fun s=> !q s)=(permL ix l).take i0:=xfd.2 fun s hs=>by
    obtain⟨j,hj,rfl⟩:=xbr hs
    have ba:j<i0:=by simp at hj;omega
    have:=af j ba
    simpa using this
   rw [e1]
   simp [az]
  have h:=iter_fold (f:=fun v=>(wbc p v).ev) (n:=ix.length-(i0+1)) (mk:=fun k (st:Nat×List Nat)=>((st.1:Int),(((i0+1+k:Nat):Int),(st.2,l))))
   (I:=fun k st=>st.2.length=ix.length∧st.1≤i0+k∧permL (st.2.take st.1) l=((permL ix l).take (i0+1+k)).filter (fun s=> !q s)∧st.2.drop (i0+1+k)=ix.drop (i0+1+k)∧∀m∈st.2,m<l.length)
   (g:=fun st k=>if q (l.getD (ix.getD (i0+1+k) 0) [])=true then st else(st.1+1,st.2.set st.1 (ix.getD (i0+1+k) 0))) (fin:=fun st=>((st.1:Int),(st.2,l))) (s0:=(i0,ix))
   ⟨rfl,xm _,by rw [permL_take,xbd,ai],rfl,hx⟩
   (fun k st hk hI=>by
    obtain⟨i,jx⟩:=st
    obtain⟨a1,a2,a3,a4,a5⟩:=hI
    simp only at a1 a2 a3 a4 a5⊢
    have hj:i0+1+k<ix.length:=by omega
    have aj:i0+1+k<jx.length:=by omega
    have ak:jx.getD (i0+1+k) 0=ix.getD (i0+1+k) 0:=by
     have:=congrArg (fun l:List Nat=>l[0]?) a4
     simp only [xaa,xbd] at this
     rw [xd,xd,this]
    have ae:=hb _ hj
    have al:=hp _ (ah _ hj)
    have ao:(permL ix l).take (i0+1+(k+1))=(permL ix l).take (i0+1+k)++ [l.getD (ix.getD (i0+1+k) 0) []]:=by
     rw [show i0+1+(k+1)=(i0+1+k)+1 by omega,take_snocD [] (by omega),permL_getD l hj]
    have au:jx.drop (i0+1+(k+1))=ix.drop (i0+1+(k+1)):=by
     have:=congrArg (List.drop 1) a4
     rw [xdm,xdm] at this
     exact this
    have ab:((i0+1+k:Nat):Int)+1=((i0+1+(k+1):Nat):Int):=by omega
    cases hq:q (l.getD (ix.getD (i0+1+k) 0) []) with
    |true=>
     rw [if_pos rfl]
     refine⟨?_,a1,by omega,?_,au,a5⟩
     ·simp (disch:=omega) only [EV,wbc,aj,ak,ae,al,hq,ab]
     ·rw [a3,ao,xfm,List.filter_cons_of_neg (by rw [hq];exact Bool.noConfusion),List.filter_nil,xas]
    |false=>
     rw [if_neg (by simp)]
     have ad:i<jx.length:=by omega
     refine⟨?_,by simpa using a1,by omega,?_,?_,fun m hm=>?_⟩
     ·simp (disch:=omega) only [EV,wbc,aj,ak,ae,al,hq,ab,ad]
      rfl
     ·rw [take_snocD 0 (by simpa using ad),List.take_set_of_le (xm _),permL_snoc,a3,ao,xfm]
      have e2:(jx.set i (ix.getD (i0+1+k) 0)).getD i 0=ix.getD (i0+1+k) 0:=by
       rw [xd,List.getElem?_set_self ad]
       rfl
      rw [e2,List.filter_cons_of_pos (by rw [hq];rfl),List.filter_nil]
     ·rw [List.drop_set_of_lt (by omega)]
      exact au
     ·rcases xca hm with h|rfl
      ·exact a5 m h
      ·exact ae)
   (fun st hI=>by
    have e3:i0+1+(ix.length-(i0+1))=st.2.length:=by rw [hI.1];omega
    simp (disch:=omega) only [EV,wbc,e3,xo])
  obtain⟨h1,b1,b2,b3,_,b5⟩:=h
  generalize (List.range (ix.length-(i0+1))).foldl _ (i0,ix)=st at h1 b1 b2 b3 b5
  obtain⟨i,jx⟩:=st
  simp only at h1 b1 b2 b3 b5
  have h2:wjb p ((i0:Int),((i0:Int)+1,(ix,l)))=some ((i:Int),(jx,l)):=h1
  have av:((i0:Int)== -1)=false:=beq_eq_false_iff_ne.2 (by omega)
  have ad:i≤jx.length:=by omega
  have e4:(jx.take i++List.replicate (jx.length-i) l.length).length=jx.length:=by
   simp only [xj,xw,xak]
   omega
  have e5:(jx.take i++List.replicate (jx.length-i) l.length).take i=jx.take i:=by
   rw [xdq (by rw [xw];omega),xdo,Nat.min_self]
  have g1:(0:Int)≤(i:Int):=by omega
  have g2:(i:Int)≤((jx.length:Nat):Int):=by omega
  simp (disch:=omega) only [EV,aa,av,h2,e4,e5,g1,g2]
  refine⟨_,rfl,fun m hm=>b5 m (xcg hm),?_⟩
  simp only
  rw [b3,xah (by omega)]
end Go.Proofs.YteiekijgoifhoaaGreatDoor
/-
 Plain laws: the sets of a size.
-/
namespace Go.Proofs.YteiekijgoifhoaaGreatDoor
theorem setP_places{n:Nat}(h7:n≤7)(hS:SetsP n){s:List Int}(hs:s∈setsOf n):Places s n∧0<s.length∧Low1 s:=by
 obtain⟨h1,h2,h3⟩:=hS.rising s hs
 have hl:Low1 s:=by unfold Low1;omega
 exact⟨Places.of hl h1,h2,hl⟩
def ofSz(n:Nat)(k:Int):List (List Int):=(setsOf n).filter fun s=>decide ((s.length:Int)=k)
def chkNE(n:Nat):Bool:=(List.range n).all fun k=>(setsOf n).any fun s=>Nat.beq s.length (k+1)
theorem chkNE_all:∀n:Nat,n≤7→chkNE n=true
 |0,_=>by kernel_rfl
 |1,_=>by kernel_rfl
 |2,_=>by kernel_rfl
 |3,_=>by kernel_rfl
 |4,_=>by kernel_rfl
 |5,_=>by kernel_rfl
 |6,_=>by kernel_rfl
 |7,_=>by kernel_rfl
 |n+8,h=>by omega
theorem ofSz_ne{n:Nat}(h7:n≤7){k:Int}(h1:1≤k)(hk:k≤(n:Int)):ofSz n k≠ []:=by
 have h:=chkNE_all n h7
 unfold chkNE at h
 have h2:=xp.1 h (k.toNat-1) (xaq.2 (by omega))
 obtain⟨s,hs,e⟩:=xbi.1 h2
 have e2:=xe e
 intro h3
 have h4:s∈ofSz n k:=xac.2 ⟨hs,by simp;omega⟩
 rw [h3] at h4
 cases h4
theorem ofSz_mem{n:Nat}{k:Int}{s:List Int}:s∈ofSz n k↔s∈setsOf n∧(s.length:Int)=k:=by
 unfold ofSz
 rw [xac,decide_eq_true_eq]
end Go.Proofs.YteiekijgoifhoaaGreatDoor
