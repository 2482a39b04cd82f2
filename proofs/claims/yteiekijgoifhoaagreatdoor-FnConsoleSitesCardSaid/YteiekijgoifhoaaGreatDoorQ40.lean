/-
 The law of what a Console answers about its sites.
-/
import Derived.Test.YteiekijgoifhoaaGreatDoorP84
import Derived.Test.YteiekijgoifhoaaGreatDoorC2
namespace Go.Proofs.YteiekijgoifhoaaGreatDoor
theorem drawTotal_ok{l:List Int}(h:CK 0 l 0):∃o ds n s,wtw l=some (o,(ds,(n,s)))∧DrA' o ds s:=by
 obtain⟨⟨o,ds,n,s,l1,i,c⟩,e,h1,h2,h3⟩:=atlas_ok 0 h (by omega)
 have e':waac l 0 0=some (o,ds,n,s,l1,i,c):=e
 unfold wtw wtv waad wtu
 rw [Tr.ev_c,Tr.ev_c,e',xf,Tr.ev_l,xf,Tr.ev_l]
 exact⟨_,_,_,_,rfl,h1⟩
theorem vWord_any{x:Int}{b:Bool}(h:0≤x∧x<1000000):wez x b=some (if b then dg x else [63]):=by
 cases b with
 |true=>rw [vWord_eq h];rfl
 |false=>unfold wez wpu;rfl
theorem few_set{n:Nat}(h7:n≤7){s:List Int}(h:Places s n)(hl:s.length≤7):Few s:=⟨hl,fun x hx=>by
 obtain⟨i,hi,e⟩:=xdj.1 hx
 have:=h.mem i hi
 rw [xd,xh hi,xax,e] at this
 omega⟩
theorem dg_len{x:Int}(h:0≤x∧x<1000000):(dg x).length≤7:=dig_len (by omega)
section
variable {o:List Int} {ds:List (List Int)}
theorem growth_all(hf:Fld o ds)(hv:wdt o ds=some true):∃l,wdu o ds=some (true,l)∧Few l:=by
 have h7:=hf.len
 by_cases h0:0<ds.length
 ·obtain⟨g,g1,_,g3⟩:=im_GrowthSet_eq hf h0 hv
  obtain⟨i1,i2⟩:=growSet_in hf g1
  exact⟨_,g3,i2,fun x hx=>by have:=i1 x hx;omega⟩
 ·have hd:((((ds.length:Nat):Int))==0)=true:=beq_iff_eq.2 (by omega)
  have hc:=icheap_eq hf
  have hp:=(cheapN_spec hf.pos).1
  refine⟨[(cheapN o:Int)],?_,by simp,fun x hx=>by rw [xt.1 hx];omega⟩
  unfold wdu wpq
  simp (disch:=omega) only [EV,hv,hd,hc]
theorem median_all(hf:Fld o ds)(hm:wem o ds 1=some true):∃l,wfn o ds 1=some (true,l)∧Few l:=by
 have h7:=hf.len
 have h1:=hf.pos
 have hk:(1:Int)≤1∧(1:Int)≤(o.length:Int):=by omega
 obtain⟨m1,m2⟩:=ofSz_mem.1 (medSet_mem h7 (ds:=ds) hk)
 obtain⟨p1,_,_⟩:=setP_places h7 (setsP h1 h7) m1
 refine⟨_,?_,few_set h7 p1 (by omega)⟩
 unfold wfn wwy
 simp (disch:=omega) only [EV,hm,median_eq hf hk]
theorem centres_all(hf:Fld o ds)(hm:wem o ds 1=some true):∃l,F_zm o ds 1=some (true,l)∧Few l:=by
 have h7:=hf.len
 have h1:=hf.pos
 have hk:(1:Int)≤1∧(1:Int)≤(o.length:Int):=by omega
 have aa:cenSet ds o.length 1∈upTo o.length 1:=(firstMin_spec (upTo_ne h7 hk)).1
 obtain⟨m1,m2⟩:=upTo_mem.1 aa
 obtain⟨p1,_,_⟩:=setP_places h7 (setsP h1 h7) m1
 exact⟨_,centres_eq hf hm hk,few_set h7 p1 (by omega)⟩
theorem loc_ne(b:Bool):((if b then [121,101,115] else [110,111]:List UInt8)==[121,101,115])=b∧((if b then [121,101,115] else [110,111]:List UInt8)==[63])=false:=by
 cases b<;>exact⟨rfl,rfl⟩
end
theorem law_FnConsoleSites(code:List Int)(ae:Fit (.slice (.int .u8)) code):waem code=some true:=by
 unfold waem wzm wzn wqk
 by_cases aa:(65536:Int)<((code.length:Nat):Int)
 ·simp (disch:=omega) only [EV,aa]
 ·have ah:CK 0 code 0:=⟨fun x hx=>fitB (ae.2 x hx),by omega,by omega,by omega⟩
  obtain⟨o,ds,n,s,e1,hD⟩:=drawTotal_ok ah
  obtain⟨lo,ld,ls⟩:=hD.low
  have e2:=im_NewConsole_eq lo ld ls n
  have e3:=sp_IsAtlas_eq lo ld ls n
  cases hA:atlasB o ds s n with
  |false=>
   rw [hA] at e2 e3
   have ab:wif o ds s n=some (0,([],([],(0,(false,([],([],[]))))))):=e2
   simp (disch:=omega) only [EV,aa,e1,ab,e3]
  |true=>
   rw [hA] at e2
   have ab:wif o ds s n=some (n,([],([],(0,(true,(o,(ds,s))))))):=e2
   have hx:=atl_iff.1 hA
   have h7:=hx.fld.len
   have hv:wdt o ds=some true:=by rw [IsField_eq lo ld,fieldB_iff.2 hx.fld]
   have hm:wem o ds 1=some true:=by
    have hp:=hx.fld.pos
    have hb:wdi 1 1 ((o.length:Nat):Int)=some true:=by
     unfold wdi wmy
     simp (disch:=omega) only [EV,xby,show(1:Int)≤((o.length:Nat):Int) by omega]
    unfold wem wvh
    simp (disch:=omega) only [EV,hv,hb]
   have a1:=im_AtlasTotal_eq lo ld ls n
   have hT:0≤(totalOf o ds s n).1∧(totalOf o ds s n).1<1000000:=by
    unfold totalOf
    by_cases h0:0<s.length
    ·rw [hA,decide_eq_true h0,xcv,cond_true]
     have h1:=pay_small hx.fld hx.set
     have h2:=serve_in hx.fld (Places.of ls (ris_iff.2 hx.set)) h0
     simp only
     omega
    ·rw [decide_eq_false h0,Bool.and_false,cond_false]
     simp
   generalize totalOf o ds s n=tt at a1 hT
   obtain⟨t,tb⟩:=tt
   simp only at hT
   have a2:∃r:Int×Bool,web o ds s=some r∧0≤r.1∧r.1<1000000:=by
    refine⟨_,creach_eq lo ld ls,?_⟩
    by_cases ad:openB o ds s=true
    ·obtain⟨p1,p2,p3⟩:=openB_iff ls ad
     have:=far_small p1 p2 p3
     rw [if_pos ad]
     simp only
     omega
    ·rw [if_neg ad]
     simp
   obtain⟨⟨rr,rb⟩,a2,hR⟩:=a2
   simp only at hR
   have a3:=iisLocal_eq lo ld ls
   have hL:∃la lb,locB o ds s=(la,lb)∧(lb=false→la=false):=by
    unfold locB
    cases openB o ds s with
    |false=>exact⟨_,_,rfl,fun _=>rfl⟩
    |true=>exact⟨_,_,rfl,fun h=>by cases h⟩
   obtain⟨la,lb,ai,af⟩:=hL
   rw [ai] at a3
   obtain⟨m,a4,hM⟩:=median_all hx.fld hm
   obtain⟨c,a5,hC⟩:=centres_all hx.fld hm
   obtain⟨g,a6,hG⟩:=growth_all hx.fld hv
   obtain⟨v1,x1,y1⟩:=exec_eq hA lo ld ls (c:=[116,111,116,97,108]) (by decide) (by decide) (run0_eq (k:= -1) (by kernel_rfl) (by kernel_rfl) (by decide) (ask_total a1 hT)) (by have:=dg_len hT;simp only;omega)
   obtain⟨v2,x2,y2⟩:=exec_eq hA lo ld ls (c:=[114,101,97,99,104]) (by decide) (by decide) (run0_eq (k:= -1) (by kernel_rfl) (by kernel_rfl) (by decide) (ask_reach a2 hR)) (by have:=dg_len hR;simp only;omega)
   obtain⟨v3,x3,y3⟩:=exec_eq hA lo ld ls (c:=[108,111,99,97,108]) (by decide) (by decide) (run0_eq (k:= -1) (by kernel_rfl) (by kernel_rfl) (by decide) (ask_local a3)) (by simp only;split<;>decide)
   obtain⟨v4,x4,y4⟩:=exec_eq hA lo ld ls (c:=[109,101,100,105,97,110,32,49]) (by decide) (by decide) (run1_eq (k:= -1) (a:=1) (w:=[109,101,100,105,97,110]) (x:=[49]) (by kernel_rfl) parse_one (by kernel_rfl) (by decide) (ask_median a4 hM)) (by have:=tellL_len hM;simp only;omega)
   obtain⟨v5,x5,y5⟩:=exec_eq hA lo ld ls (c:=[99,101,110,116,114,101,115,32,49]) (by decide) (by decide) (run1_eq (k:= -1) (a:=1) (w:=[99,101,110,116,114,101,115]) (x:=[49]) (by kernel_rfl) parse_one (by kernel_rfl) (by decide) (ask_centres a5 hC)) (by have:=tellL_len hC;simp only;omega)
   obtain⟨v6,x6,y6⟩:=exec_eq hA lo ld ls (c:=[103,114,111,119,116,104]) (by decide) (by decide) (run0_eq (k:= -1) (by kernel_rfl) (by kernel_rfl) (by decide) (ask_growth a6 hG)) (by have:=tellL_len hG;simp only;omega)
   simp only [if_true] at y4 y5 y6
   simp only at y1 y2 y3
   have w1:=vWord_any (b:=tb) hT
   have w2:=vWord_any (b:=rb) hR
   have w4:=vWords_eq hM
   have w5:=vWords_eq hC
   have w6:=vWords_eq hG
   have k3:(v3.2.2.2.2.2.2.2==[121,101,115])=la∧(v3.2.2.2.2.2.2.2==[63])= !lb:=by
    rw [y3]
    cases lb with
    |false=>rw [af rfl];exact⟨rfl,rfl⟩
    |true=>rw [if_pos rfl];exact loc_ne la
   obtain⟨k3,k4⟩:=k3
   cases lb with
   |false=>
    have aj:=af rfl
    subst aj
    simp (disch:=omega) only [EV,aa,e1,ab,x1,x2,x3,x4,x5,x6,a1,a2,a3,a4,a5,a6,w1,w2,w4,w5,w6,y1,y2,y4,y5,y6,k3,k4,beq_self_eq_true,bne_self_eq_false]
    rfl
   |true=>
    cases la<;>simp (disch:=omega) only [EV,aa,e1,ab,x1,x2,x3,x4,x5,x6,a1,a2,a3,a4,a5,a6,w1,w2,w4,w5,w6,y1,y2,y4,y5,y6,k3,k4,beq_self_eq_true,bne_self_eq_false]<;>rfl
end Go.Proofs.YteiekijgoifhoaaGreatDoor
