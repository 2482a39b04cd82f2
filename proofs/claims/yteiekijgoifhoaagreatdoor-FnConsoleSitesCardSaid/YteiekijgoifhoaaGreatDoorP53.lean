/-
 Plain laws: numbers sorted by a key, stably; clients by their lengths to a site; numbers deleted from a list.
-/
import Derived.Test.YteiekijgoifhoaaGreatDoorP47
namespace Go.Proofs.YteiekijgoifhoaaGreatDoor
section
variable {K:Int→Int}
def insK(K:Int→Int)(x:Int):List Int→List Int
 | []=>[x]
 |a::l=>if K a≤K x then a::insK K x l else x::a::l
def sortK(K:Int→Int)(l:List Int):List Int:=l.foldl (fun acc x=>insK K x acc) []
theorem insK_snoc{x y:Int}(h:K x<K y):∀q:List Int,insK K x (q++ [y])=insK K x q++ [y]
 | []=>by simp [insK];omega
 |a::q=>by
  simp only [xdn,insK]
  split
  ·rw [insK_snoc h q];rfl
  ·rfl
theorem insK_last{x:Int}:∀ {l:List Int},(∀y∈l,K y≤K x)→insK K x l=l++ [x]
 | [],_=>rfl
 |a::l,h=>by
  simp only [insK,if_pos (h a xx),xdn]
  rw [insK_last fun y hy=>h y (xu _ hy)]
theorem insK_perm(x:Int):∀l:List Int,(insK K x l).Perm (x::l)
 | []=>.refl _
 |a::l=>by
  simp only [insK]
  split
  ·exact((insK_perm x l).cons a).trans (.swap x a l)
  ·exact .refl _
theorem insK_sorted{x:Int}:∀ {l:List Int},l.Pairwise (fun a b=>K a≤K b)→(insK K x l).Pairwise fun a b=>K a≤K b
 | [],_=>by simp [insK]
 |a::l,h=>by
  rw [xbe] at h
  simp only [insK]
  split
  next hx=>
   rw [xbe]
   refine⟨fun y hy=>?_,insK_sorted h.2⟩
   rcases xam.1 ((insK_perm x l).mem_iff.1 hy) with e|hy
   ·rw [e];exact hx
   ·exact h.1 y hy
  next hx=>
   rw [xbe,xbe]
   refine⟨fun y hy=>?_,h⟩
   rcases xam.1 hy with rfl|hy
   ·omega
   ·have:=h.1 y hy;omega
theorem sortK_snoc(l:List Int)(x:Int):sortK K (l++ [x])=insK K x (sortK K l):=by simp [sortK]
theorem sortK_inv:∀l:List Int,(sortK K l).Pairwise (fun a b=>K a≤K b)∧(sortK K l).Perm l:=by
 intro l
 have key:∀ (l acc:List Int),acc.Pairwise (fun a b=>K a≤K b)→(l.foldl (fun acc x=>insK K x acc) acc).Pairwise (fun a b=>K a≤K b)∧(l.foldl (fun acc x=>insK K x acc) acc).Perm (acc++l):=by
  intro l
  induction l with
  |nil=>intro acc h;exact⟨h,by simp⟩
  |cons x l ih=>
   intro acc h
   obtain⟨h1,h2⟩:=ih (insK K x acc) (insK_sorted h)
   refine⟨h1,h2.trans (((insK_perm x acc).append_right l).trans ?_)⟩
   rw [xdn]
   exact List.perm_middle.symm
 have h:=key l [] List.Pairwise.nil
 rw [xbu] at h
 exact h
theorem getD_midK{p r:List Int}{x:Int}:(p++x::r).getD p.length 0=x:=by
 rw [xd,xz (xm _),xdr];rfl
theorem sortK_fin(l:List Int):(List.range (l.length-1)).foldl (fun _ k=>sortK K (l.take (k+2))++l.drop (k+2)) l=sortK K l:=by
 cases hn:l.length-1 with
 |zero=>
  rcases l with _|⟨a,_|⟨b,l⟩⟩
  ·rfl
  ·rfl
  ·simp at hn
 |succ n=>
  rw [xef,xdx]
  simp only [xbk,xgd]
  rw [xah (by omega),xek (by omega),xas]
def CmpK(K:Int→Int)(M:Int→Prop)(p:HL [.int .i64,.int .i64]→Option Int):Prop:=∀x y,M x→M y→∃c,p (x,(y,()))=some c∧(c<0↔K x<K y)
theorem insertionK_in{M:Int→Prop}{f:HL [.int .i64,.int .i64]→Option Int}(hf:CmpK K M f)(n i:Int):∀ (m:Nat) (p:List Int) (x:Int) (r:List Int),p.length=m→(∀y∈p,M y)→M x→(p.length:Int)<9223372036854775807→p.Pairwise (fun a b=>K a≤K b)→
  wcs (0,(n,(f,i))) ((p.length:Int),p++x::r)=some (insK K x p++r):=by
 intro m
 induction m with
 |zero=>
  intro p x r hm _ _ _ _
  have:=xi hm
  subst this
  unfold wcs
  rw [iter_eq]
  simp (disch:=omega) only [EV,wah,xo,xai,xdl,show((0:Nat):Int)=0 from rfl]
  rfl
 |succ m ih=>
  intro p x r hm hM hx ah hp
  obtain⟨q,y,rfl⟩:∃q y,p=q++ [y]:=by
   have:=xeq p
   rcases this with h|⟨q,y,h⟩
   ·rw [h] at hm;cases hm
   ·exact⟨q,y,by simpa using h⟩
  have aa:q.length=m:=by simpa using hm
  have e0:((q++ [y]).length:Int)=((m+1:Nat):Int):=by simp [aa]
  rw [e0] at ah⊢
  have e2:((m+1:Nat):Int) -1=(m:Int):=by omega
  have g1:((q++ [y])++x::r).getD (m+1) 0=x:=by
   have:=getD_midK (p:=q++ [y]) (x:=x) (r:=r)
   rwa [show(q++ [y]).length=m+1 by simp [aa]] at this
  have g2:((q++ [y])++x::r).getD m 0=y:=by
   have:=getD_midK (p:=q) (x:=y) (r:=x::r)
   rw [aa] at this
   simpa using this
  have hl:((q++ [y])++x::r).length=m+2+r.length:=by simp [aa];omega
  have s1:(((q++ [y])++x::r).set (m+1) y).set m x=q++x::(y::r):=by
   have t1:((q++ [y])++x::r).set (m+1) y=(q++ [y])++y::r:=by
    rw [xce _ _ (by simp [aa]),show m+1-(q++ [y]).length=0 by simp [aa]];rfl
   rw [t1,xcx,xce _ _ (by omega),show m-q.length=0 by omega]
   rfl
  have ad:¬K x<K y→((q++ [y])++x::r)=insK K x (q++ [y])++r:=fun ab=>by
   rw [insK_last]
   ·simp
   ·intro z hz
    rcases xq.1 hz with hz|hz
    ·have:=(xcw.1 hp).2.2 z hz y (by simp)
     omega
    ·have:=xt.1 hz
     rw [this]
     omega
  have h0:(0:Int)<((m+1:Nat):Int):=by omega
  have h1:m+1<m+2+r.length:=by omega
  have h2:m<m+2+r.length:=by omega
  obtain⟨c,hc,af⟩:=hf x y hx (hM y (by simp))
  generalize ((q++ [y])++x::r)=L at g1 g2 hl s1 ad
  unfold wcs
  rw [iter_eq]
  by_cases ab:K x<K y
  ·have ae:=af.2 ab
   have e:(wah (0,(n,(f,i))) (((m+1:Nat):Int),L)).ev=some (.inl ((m:Int),q++x::(y::r))):=by
    simp (disch:=omega) only [EV,wah,h0,hl,h1,e2,h2,g1,g2,hc,ae,xar,s1]
   rw [e]
   have:=ih q x (y::r) aa (fun z hz=>hM z (by simp [hz])) hx (by omega) (xcw.1 hp).1
   rw [aa] at this
   unfold wcs at this
   simp only
   rw [this,insK_snoc ab]
   simp
  ·have ae:¬c<0:=fun h=>ab (af.1 h)
   have e:(wah (0,(n,(f,i))) (((m+1:Nat):Int),L)).ev=some (.inr L):=by
    simp (disch:=omega) only [EV,wah,h0,hl,h1,e2,h2,g1,g2,hc,ae]
   rw [e]
   simp only
   rw [ad ab]
theorem insertionK_eq{M:Int→Prop}{f:HL [.int .i64,.int .i64]→Option Int}(hf:CmpK K M f){l:List Int}(hM:∀x∈l,M x)(hl:(l.length:Int)<9223372036854775806):wpf 0 (l.length:Int) f l=some (sortK K l):=by
 have key:=(iter_fold (f:=fun v=>(wct (0,((l.length:Int),f)) v).ev) (n:=l.length-1) (mk:=fun k (s:List Int)=>(((k+1:Nat):Int),s)) (I:=fun k s=>s=sortK K (l.take (k+1))++l.drop (k+1)) (g:=fun _ k=>sortK K (l.take (k+2))++l.drop (k+2)) (fin:=fun s=>s) (s0:=l) (by
   cases l with
   |nil=>rfl
   |cons a l=>simp [sortK,insK])
  (fun k s hk hs=>by
   subst hs
   have aa:k+1<l.length:=by omega
   obtain⟨h1,h2⟩:=sortK_inv (K:=K) (l.take (k+1))
   have h3:(sortK K (l.take (k+1))).length=k+1:=by rw [h2.length_eq];simp;omega
   have h4:l.drop (k+1)=l[k+1]::l.drop (k+2):=xcb aa
   have h5:sortK K (l.take (k+2))=insK K l[k+1] (sortK K (l.take (k+1))):=by
    rw [←sortK_snoc,xbo aa]
   have h6:=insertionK_in hf (l.length:Int) ((k+1:Nat):Int) (k+1) (sortK K (l.take (k+1))) l[k+1] (l.drop (k+2)) h3 (fun y hy=>hM y (xcg (h2.mem_iff.1 hy))) (hM _ (xet aa)) (by rw [h3];omega) h1
   rw [h3,←h4] at h6
   refine⟨?_,rfl⟩
   simp (disch:=omega) only [EV,wct,aa,h6]
   rw [h5]
   rfl)
  (fun s _=>by
   simp (disch:=omega) only [EV,wct,show¬(l.length-1+1<l.length) by omega])).1
 rw [sortK_fin] at key
 have e:wjn (0,((l.length:Int),f)) (1,l)=some (sortK K l):=key
 unfold wpf wyd
 simp (disch:=omega) only [EV,show IntKind.wrap .i64 ((0:Int)+1)=1 from rfl,e]
theorem sortStableK_eq{M:Int→Prop}{f:HL [.int .i64,.int .i64]→Option Int}(hf:CmpK K M f){l:List Int}(hM:∀x∈l,M x)(hl:l.length≤19):wyi f l=some (sortK K l):=by
 have e1:wes ((l.length:Int),(f,20)) (0,(20,l))=some (0,l):=by
  unfold wes
  rw [iter_eq]
  have hn:¬(20:Int)≤(l.length:Int):=by omega
  simp (disch:=omega) only [EV,wer,hn]
 have e2:∀s:List Int,weu ((l.length:Int),(f,s)) 20=some ():=fun s=>by
  unfold weu
  rw [iter_eq]
  have hn:¬(20:Int)<(l.length:Int):=by omega
  simp (disch:=omega) only [EV,wet,hn]
 have e3:=insertionK_eq hf hM (by omega)
 unfold wyi wyh wadw wyg
 rw [Tr.ev_c,Tr.ev_c,e1,xf,Tr.ev_c]
 dsimp only
 rw [e3,xf,Tr.ev_c,e2]
 rfl
end
def kd(ds:List (List Int))(a x:Int):Int:=(ds.getD x.toNat []).getD a.toNat 0
theorem compare_eq(a b:Int):∃c,F_za a b=some c∧(c<0↔a<b):=by
 unfold F_za T_za
 have e:∀x,wwj x=some false:=fun x=>by
  unfold wwj T_zd
  simp only [Tr.ev_l,bne_self_eq_false]
 rw [Tr.ev_c,e,xf,Tr.ev_c,e,xf]
 simp only [Tr.ev_t,cond_false,Tr.ev_l]
 by_cases h1:a<b
 ·rw [decide_eq_true h1]
  exact⟨_,rfl,by omega⟩
 ·rw [decide_eq_false h1]
  by_cases h2:b<a
  ·rw [decide_eq_true h2]
   exact⟨_,rfl,by omega⟩
  ·rw [decide_eq_false h2]
   exact⟨_,rfl,by omega⟩
end Go.Proofs.YteiekijgoifhoaaGreatDoor
