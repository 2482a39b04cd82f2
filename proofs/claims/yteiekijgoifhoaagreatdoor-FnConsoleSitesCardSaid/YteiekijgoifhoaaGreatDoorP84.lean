/-
 Plain laws: the log is read alike by both readers.
-/
import Derived.Test.YteiekijgoifhoaaGreatDoorP12
import Derived.Test.YteiekijgoifhoaaGreatDoorP83
import Derived.Test.YteiekijgoifhoaaGreatDoorP59
import Derived.Test.YteiekijgoifhoaaGreatDoorP49
namespace Go.Proofs.YteiekijgoifhoaaGreatDoor
open Go
end Go.Proofs.YteiekijgoifhoaaGreatDoor
/-
 Plain laws: logs.
-/
namespace Go.Proofs.YteiekijgoifhoaaGreatDoor
open Go
end Go.Proofs.YteiekijgoifhoaaGreatDoor
/-
 Plain laws: what a Console answers to a question.
-/
namespace Go.Proofs.YteiekijgoifhoaaGreatDoor
section
variable {o:List Int} {ds:List (List Int)} {s:List Int} {n:Int}
theorem low_s{c:List UInt8}(h:c.length≤1000):SLow c:=by unfold SLow;omega
theorem app_total{c r:List UInt8}(hc:c.length≤160)(hr:r.length≤200):∃v,F_zf [] [] 0 c r=some v:=by
 have v2:wnp [] [] 0=some true:=by kernel_rfl
 have s1:=low_s (c:=c) (by omega)
 have s2:=low_s (c:=r) (by omega)
 unfold F_zf T_zf
 simp (disch:=omega) only [EV,v2,im_IsValidRecord_eq s1 s2,im_EncodeRecord_eq (k:=0) s1 s2]
 cases aa:recordB c r with
 |false=>exact⟨_,rfl⟩
 |true=>
  have hk:isIn 0 0 59=true:=rfl
  have he:encF 0 c r=(line 0 c r,true):=by unfold encF encB;rw [hk,aa];rfl
  have ab:=text_len (c:=c) (r:=r) hk
  have ad:=sealT_len (text 0 c r)
  have ae:(line 0 c r).length≤1000:=by unfold line;rw [xj,xad,xai];omega
  have e0:([]:List UInt8).length+(line 0 c r).length≤9223372036854775807:=by rw [xai];omega
  rw [he]
  simp (disch:=omega) only [EV,e0]
  exact⟨_,rfl⟩
theorem exec_eq(hA:atlasB o ds s n=true)(lo:Low1 o)(ld:Low2 ds)(ls:Low1 s){c rep:List UInt8}{ok:Bool}(hc:recordB c []=true)(ab:c.length≤160)(aa:F_zl o ds s n c=some (o,(ds,(s,(n,(rep,ok))))))(hl:rep.length≤200):
  ∃v,F_zo o ds s n [] [] 0 c=some v∧v.2.2.2.2.2.2.2=if ok then rep else [63]:=by
 have v1:wvb o ds s n [] [] 0=some true:=by
  have v2:wnp [] [] 0=some true:=by kernel_rfl
  unfold wvb wva
  simp (disch:=omega) only [EV,im_IsAtlas_eq lo ld ls,hA,v2]
 have v3:wfk c []=some true:=by rw [im_IsValidRecord_eq (low_s (by omega)) (low_s (by simp)),hc]
 have ad:¬(200:Int)<((rep.length:Nat):Int):=by omega
 have h0:((0:Int)==60)=false:=rfl
 obtain⟨x,ex⟩:=app_total ab hl
 obtain⟨y,ey⟩:=app_total ab (r:=[63]) (by simp)
 unfold F_zo T_zo
 cases ok with
 |false=>
  simp (disch:=omega) only [EV,copied_eq lo ld ls,v1,v3,h0,aa,ey]
  exact⟨_,rfl,rfl⟩
 |true=>
  simp (disch:=omega) only [EV,copied_eq lo ld ls,v1,v3,h0,aa,ad,ex]
  exact⟨_,rfl,rfl⟩
theorem parse_one:wnq [49]=some (1,true):=by
 have h1:Lib.atoiAll [49]=.ok 1:=by kernel_rfl
 have h2:Lib.itoa 1=[49]:=by
  rw [show(1:Int)=((1:Nat):Int) from rfl,Lib.itoa_nonneg,Lib.decDigits_one (by omega)]
  rfl
 unfold wnq parseF
 rw [h1]
 dsimp only
 rw [if_pos (by decide),if_pos ⟨by omega,by omega,h2⟩]
theorem ev_sl{A B L:Type}(a:A)(k:A→Tr L)(k':B→Tr L):(Tr.s A B (.inl a) k k').ev=(k a).ev:=rfl
theorem run0_eq{w:List UInt8}{k:Int}(h1:wvc w [32]=some [w])(h2:wvg w=some k)(hk:¬0<k){r:List UInt8×Bool}(h3:F_zh o ds s n w []=some r):F_zl o ds s n w=some (o,(ds,(s,(n,(r.1,r.2))))):=by
 have l0:wed ([w],([],((0:Int),(o,(ds,(s,(n,(0:Int)))))))) ((0:Int),([]:List Int))=some (.inl []):=by
  have st:(wbg ([w],([],((0:Int),(o,(ds,(s,(n,(0:Int)))))))) ((0:Int),([]:List Int))).ev=some (.inr (.inl [])):=by
   simp (disch:=omega) only [EV,wbg,xdl]
  refine iter_some.2 ⟨1,?_⟩
  simp only [iterN,st]
 have aa:wed ([w],(List.drop (Int.toNat (1:Int)) (List.take (List.length [w]) [w]),(((List.length (List.drop (Int.toNat (1:Int)) (List.take (List.length [w]) [w])):Nat):Int),(o,(ds,(s,(n,(0:Int)))))))) ((0:Int),([]:List Int))=some (.inl []):=l0
 unfold F_zl T_zl
 rw [Tr.ev_c,h1,xf,Tr.ev_g,show(decide ((0:Int)≤1)&&decide ((1:Int)≤((List.length [w]:Nat):Int)))=true from rfl,cond_true,Tr.ev_c,aa,xf]
 rw [ev_sl,Tr.ev_g,show inR 0 (List.length [w])=true from rfl,cond_true,show List.getD [w] (Int.toNat 0) ([]:List UInt8)=w from rfl,Tr.ev_c,h2,xf,Tr.ev_t,decide_eq_false hk,cond_false,Tr.ev_g,cond_true,Tr.ev_c,h3,xf,Tr.ev_l]
theorem run1_eq{c w x:List UInt8}{k a:Int}(h1:wvc c [32]=some [w,x])(hx:wnq x=some (a,true))(h2:wvg w=some k)(hk:¬0<k){r:List UInt8×Bool}(h3:F_zh o ds s n w [a]=some r):F_zl o ds s n c=some (o,(ds,(s,(n,(r.1,r.2))))):=by
 have l0:wed ([w,x],([x],((1:Int),(o,(ds,(s,(n,(0:Int)))))))) ((0:Int),([]:List Int))=some (.inl [a]):=by
  have aa:(wbg ([w,x],([x],((1:Int),(o,(ds,(s,(n,(0:Int)))))))) ((0:Int),([]:List Int))).ev=some (.inl ((1:Int),[a])):=by
   unfold wbg
   dsimp only
   rw [Tr.ev_t,show decide ((0:Int)<1)=true from rfl,cond_true,Tr.ev_g,show inR 0 (List.length [x])=true from rfl,cond_true,show List.getD [x] (Int.toNat 0) ([]:List UInt8)=x from rfl,Tr.ev_c,hx,xf,Tr.ev_t]
   rfl
  have ab:(wbg ([w,x],([x],((1:Int),(o,(ds,(s,(n,(0:Int)))))))) ((1:Int),[a])).ev=some (.inr (.inl [a])):=by
   simp (disch:=omega) only [EV,wbg,xdl]
  refine iter_some.2 ⟨2,?_⟩
  simp only [iterN,aa,ab]
 have ad:wed ([w,x],(List.drop (Int.toNat (1:Int)) (List.take (List.length [w,x]) [w,x]),(((List.length (List.drop (Int.toNat (1:Int)) (List.take (List.length [w,x]) [w,x])):Nat):Int),(o,(ds,(s,(n,(0:Int)))))))) ((0:Int),([]:List Int))=some (.inl [a]):=l0
 unfold F_zl T_zl
 rw [Tr.ev_c,h1,xf,Tr.ev_g,show(decide ((0:Int)≤1)&&decide ((1:Int)≤((List.length [w,x]:Nat):Int)))=true from rfl,cond_true,Tr.ev_c,ad,xf]
 rw [ev_sl,Tr.ev_g,show inR 0 (List.length [w,x])=true from rfl,cond_true,show List.getD [w,x] (Int.toNat 0) ([]:List UInt8)=w from rfl,Tr.ev_c,h2,xf,Tr.ev_t,decide_eq_false hk,cond_false,Tr.ev_g,cond_true,Tr.ev_c,h3,xf,Tr.ev_l]
theorem pay_small(hf:Fld o ds)(hs:ris o.length s):0≤pay o s∧pay o s≤693:=by
 have hp:Places s o.length:=Places.of (hs.low hf.len) (ris_iff.2 hs)
 have:=sum_bound (l:=List.range s.length) (f:=fun k=>o.getD (pl s k) 0) (B:=99) (fun k hk=>hf.cost _ (hp.pl (xaq.1 hk)).2) 0
 have h1:=hs.len
 have h2:=hf.len
 unfold pay
 simp only [xdi] at this
 omega
theorem far_small(hf:Fld o ds){s:List Int}(hs:Places s o.length)(h0:0<s.length):0≤far ds s∧far ds s≤99:=by
 unfold far
 exact foldl_inv (fun a=>0≤a∧a≤99) (fun a j hj h=>by
  have:=near_in hf hs h0 (xaq.1 hj)
  show 0≤max a (near ds s j)∧max a (near ds s j)≤99
  omega) ⟨xby _,by omega⟩
theorem creach_eq{s:List Int}(ho:Low1 o)(hd:Low2 ds)(hs:Low1 s):web o ds s=some (if openB o ds s then(far ds s,true) else(0,false)):=by
 unfold web wxt
 simp (disch:=omega) only [EV,isOpened_eq ho hd hs]
 cases h:openB o ds s with
 |false=>rfl
 |true=>
  obtain⟨h1,h2,h3⟩:=openB_iff hs h
  simp (disch:=omega) only [EV,reach_eq h1 h2 h3]
theorem ask_num{x:Int}{b:Bool}(h:0≤x∧x<1000000):F_zi x b=some (dg x,b):=by
 unfold F_zi T_zi
 simp (disch:=omega) only [EV,Itoa_eq h.1 (show x<10000000 by omega)]
 rfl
theorem ask_list{l:List Int}{b:Bool}(h:Few l):F_zj l b=some (tellL l,b):=by
 unfold F_zj T_zj
 simp (disch:=omega) only [EV,listText_eq h]
theorem ask_total{r:Int×Bool}(h:F_zg o ds s n=some r)(hr:0≤r.1∧r.1<1000000):F_zh o ds s n [116,111,116,97,108] []=some (dg r.1,r.2):=by
 have e:F_zh o ds s n [116,111,116,97,108] []=Option.bind (F_zg o ds s n) fun r=>Option.bind (F_zi r.1 r.2) fun q=>some (q.1,q.2):=by kernel_rfl
 rw [e,h,xf,ask_num hr,xf]
theorem ask_reach{r:Int×Bool}(h:web o ds s=some r)(hr:0≤r.1∧r.1<1000000):F_zh o ds s n [114,101,97,99,104] []=some (dg r.1,r.2):=by
 have e:F_zh o ds s n [114,101,97,99,104] []=Option.bind (web o ds s) fun r=>Option.bind (F_zi r.1 r.2) fun q=>some (q.1,q.2):=by kernel_rfl
 rw [e,h,xf,ask_num hr,xf]
theorem ask_growth{r:Bool×List Int}(h:wdu o ds=some r)(hr:Few r.2):F_zh o ds s n [103,114,111,119,116,104] []=some (tellL r.2,r.1):=by
 have e:F_zh o ds s n [103,114,111,119,116,104] []=Option.bind (wdu o ds) fun r=>Option.bind (F_zj r.2 r.1) fun q=>some (q.1,q.2):=by kernel_rfl
 rw [e,h,xf,ask_list hr,xf]
theorem ask_local{r:Bool×Bool}(h:wey o ds s=some r):F_zh o ds s n [108,111,99,97,108] []=some (if r.1 then [121,101,115] else [110,111],r.2):=by
 have e:F_zh o ds s n [108,111,99,97,108] []=Option.bind (wey o ds s) fun r=>Option.bind (wzc r.1 r.2) fun q=>some (q.1,q.2):=by kernel_rfl
 obtain⟨a,b⟩:=r
 rw [e,h,xf]
 cases a<;>rfl
theorem ask_median{r:Bool×List Int}(h:wfn o ds 1=some r)(hr:Few r.2):F_zh o ds s n [109,101,100,105,97,110] [1]=some (tellL r.2,r.1):=by
 have e:F_zh o ds s n [109,101,100,105,97,110] [1]=Option.bind (wfn o ds 1) fun r=>Option.bind (F_zj r.2 r.1) fun q=>some (q.1,q.2):=by kernel_rfl
 rw [e,h,xf,ask_list hr,xf]
theorem ask_centres{r:Bool×List Int}(h:F_zm o ds 1=some r)(hr:Few r.2):F_zh o ds s n [99,101,110,116,114,101,115] [1]=some (tellL r.2,r.1):=by
 have e:F_zh o ds s n [99,101,110,116,114,101,115] [1]=Option.bind (F_zm o ds 1) fun r=>Option.bind (F_zj r.2 r.1) fun q=>some (q.1,q.2):=by kernel_rfl
 rw [e,h,xf,ask_list hr,xf]
end
end Go.Proofs.YteiekijgoifhoaaGreatDoor
