/-
 Medians of fields; orders of sites; sites put into a set one by one.
-/
import Derived.Test.YteiekijgoifhoaaGreatDoorP8
import Derived.Test.YteiekijgoifhoaaGreatDoorP46
import Derived.Test.YteiekijgoifhoaaGreatDoorP33
import Derived.Test.YteiekijgoifhoaaGreatDoorPM
import Derived.Lib.ItoaNum
namespace Go.Proofs.YteiekijgoifhoaaGreatDoor
def medSet(ds:List (List Int))(n:Nat)(k:Int):List Int:=firstMin (serve ds) (ofSz n k)
theorem nsize_places{n:Nat}(h1:1≤n)(h7:n≤7){k:Int}{s:List Int}(hs:s∈ofSz n k):Places s n∧(s.length:Int)=k∧0<s.length∧Low1 s:=by
 obtain⟨a,b⟩:=ofSz_mem.1 hs
 obtain⟨c,d,e⟩:=setP_places h7 (setsP h1 h7) a
 exact⟨c,b,d,e⟩
theorem medSet_mem{ds:List (List Int)}{n:Nat}(h7:n≤7){k:Int}(hk:1≤k∧k≤(n:Int)):medSet ds n k∈ofSz n k:=
 (firstMin_spec (ofSz_ne h7 hk.1 hk.2)).1
theorem median_eq{o:List Int}{ds:List (List Int)}(hf:Fld o ds){k:Int}(hk:1≤k∧k≤(o.length:Int)):F_zz o ds k=some (medSet ds o.length k):=by
 have h7:=hf.len
 have h1:=hf.pos
 have hS:=setsP h1 h7
 obtain⟨x,e1,e2,e3⟩:=hS.im
 have ab:=setsP_len hS h7
 have ak:x.1.length=(setsOf o.length).length:=by rw [←e3,permL_len]
 obtain⟨y,k1,k2,k3⟩:=deleteFunc_eq (x:=x) e2 (by omega) (p:=fun ad=>Option.bind (woj ad.1 k) fun ae=>some ae) (q:=fun s=> !decide ((s.length:Int)=k)) fun s hs=>by
  rw [e3] at hs
  obtain⟨p1,p2,p3⟩:=setP_places h7 hS hs
  unfold Low1 at p3
  show Option.bind (woj s k) _=_
  unfold woj wwo
  simp (disch:=omega) only [EV]
  by_cases h:(s.length:Int)=k<;>simp [h]
 have aa:permL y.1 y.2=ofSz o.length k:=by
  rw [k3,e3]
  unfold ofSz
  congr 1
  funext s
  simp
 have al:y.1.length=(ofSz o.length k).length:=by rw [←aa,permL_len]
 have ai:=xay.2 (ofSz_ne h7 (k:=k) hk.1 hk.2)
 have aj:(ofSz o.length k).length≤(setsOf o.length).length:=xdt _ _
 have hle:=leastP_eq (x:=y) k2 (by omega) (by omega) (p:=fun af=>Option.bind (wfm o ds af.1) fun ah=>some ah) (g:=serve ds) fun s hs=>by
  rw [aa] at hs
  obtain⟨p1,_,p2,_⟩:=nsize_places h1 h7 hs
  show Option.bind (wfm o ds s) _=_
  rw [service_eq hf p1 p2]
  rfl
 rw [aa] at hle
 unfold F_zz T_zz medSet
 simp (disch:=omega) only [EV,e1,k1,hle]
end Go.Proofs.YteiekijgoifhoaaGreatDoor
/-
 Plain laws: bytes of texts; records.
-/
namespace Go.Proofs.YteiekijgoifhoaaGreatDoor
def SLow(s:List UInt8):Prop:=(s.length:Int)≤1048576
def byOK(c:UInt8):Bool:=decide (32≤c.toNat)&&(decide (c.toNat≤126)&& !(c.toNat==35))
def bytesB(s:List UInt8)(most:Int):Bool:=s.all byOK&&decide ((s.length:Int)≤most)
def hasB(s:List UInt8)(b:Nat):Bool:=s.any fun c=>c.toNat==b
def recordB(c r:List UInt8):Bool:= !(c==[])&&(bytesB c 160&&(!hasB c 64&&bytesB r 200))
theorem castB(a b:Nat):(((a:Nat):Int)==((b:Nat):Int))=(a==b):=by
 rw [xeg,beq_iff_eq,beq_iff_eq];omega
theorem byte_lt(c:UInt8):c.toNat<256:=c.toNat_lt
theorem all_bytes(s:List UInt8)(p:UInt8→Bool):((List.range s.length).all fun i=>p (s.getD i 0))=s.all p:=all_range s 0 p
theorem isPlain_eq{s:List UInt8}(hs:SLow s)(m:Int):wnl s m=some (bytesB s m):=by
 unfold SLow at hs
 have h0:wii (s,(m,(s.length:Int))) 0=_:=iter_allR (f:=fun v=>(wcj (s,(m,(s.length:Int))) v).ev) (n:=s.length) (mk:=fun i=>(i:Int)) (p:=fun i=>byOK (s.getD i 0)) (yes:=.inl ()) (no:=.inr ()) (fun i hi _=>by
  have ad:(((s.getD i 0).toNat:Int)==35)=((s.getD i 0).toNat==35):=castB _ 35
  simp (disch:=omega) only [EV,wcj,hi,ad]
  unfold byOK
  by_cases h1:32≤(s.getD i 0).toNat
  ·have aa:¬((s.getD i 0).toNat:Int)<32:=by omega
   by_cases h2:(s.getD i 0).toNat≤126
   ·have ab:¬(126:Int)<((s.getD i 0).toNat:Int):=by omega
    simp only [h1,h2,aa,ab,decide_true,if_false,xcv]
    cases ((s.getD i 0).toNat==35)<;>rfl
   ·have ab:(126:Int)<((s.getD i 0).toNat:Int):=by omega
    simp only [h1,h2,aa,ab,decide_true,decide_false,if_false,if_true,xcv,Bool.false_and,cond_false]
  ·have aa:((s.getD i 0).toNat:Int)<32:=by omega
   simp only [h1,aa,decide_false,if_true,Bool.false_and,cond_false]) (by simp (disch:=omega) only [EV,wcj,xo])
 rw [all_bytes s byOK] at h0
 unfold wnl wuw bytesB
 simp (disch:=omega) only [EV,h0]
 cases s.all byOK<;>rfl
theorem indexByte_spec(c:UInt8):∀s:List UInt8,-1≤Lib.indexByte s c∧(Lib.indexByte s c= -1↔∀x∈s,x≠c)
 | []=>by simp [Lib.indexByte]
 |b::l=>by
  obtain⟨h1,h2⟩:=indexByte_spec c l
  unfold Lib.indexByte
  by_cases hb:b=c
  ·subst hb
   simp
  ·have e:(b==c)=false:=by simpa using hb
   rw [e]
   by_cases h:Lib.indexByte l c= -1
   ·have e2:(Lib.indexByte l c== -1)=true:=by simp [h]
    rw [e2]
    simp only [xaf,if_false,if_true]
    refine⟨by omega,⟨fun _ x hx=>?_,fun _=>trivial⟩⟩
    rcases xam.1 hx with rfl|hx
    ·exact hb
    ·exact h2.1 h x hx
   ·have e2:(Lib.indexByte l c== -1)=false:=by simpa using h
    rw [e2]
    simp only [xaf,if_false]
    refine⟨by omega,⟨fun h3=>by omega,fun h3=>absurd (h2.2 fun x hx=>h3 x (xu _ hx)) h⟩⟩
theorem toU8(b:UInt8):((b.toNat:Int)).toNat.toUInt8=b:=by
 rw [xbx]
 exact UInt8.ofNat_toNat
theorem idxByte_pos(s:List UInt8)(b:UInt8):decide (0≤idxByte s (b.toNat:Int))=hasB s b.toNat:=by
 unfold idxByte hasB
 rw [toU8]
 obtain⟨h1,h2⟩:=indexByte_spec b s
 rw [xeg,decide_eq_true_eq,xbi]
 constructor
 ·intro h
  have h3:¬ ∀x∈s,x≠b:=fun h4=>by have:=h2.2 h4;omega
  simp only [Classical.not_forall] at h3
  obtain⟨x,hx,hn⟩:=h3
  exact⟨x,hx,by rw [beq_iff_eq];exact congrArg UInt8.toNat (Classical.not_not.1 hn)⟩
 ·rintro⟨x,hx,he⟩
  have aa:Lib.indexByte s b≠ -1:=fun h=>h2.1 h x hx (UInt8.toNat_inj.1 (beq_iff_eq.1 he))
  omega
theorem index1_eq(s:List UInt8)(b:UInt8):F_internal_stringslite_Index s [b]=some (if [b]==s then 0 else idxByte s (b.toNat:Int)):=by
 unfold F_internal_stringslite_Index T_internal_stringslite_Index F_internal_stringslite_IndexByte T_internal_stringslite_IndexByte F_internal_bytealg_IndexByteString
 have e0:(((List.length [b]:Nat):Int)==0)=false:=rfl
 have e1:(((List.length [b]:Nat):Int)==1)=true:=rfl
 have e2:inR (0:Int) (List.length [b])=true:=rfl
 have e3:List.getD [b] (Int.toNat 0) 0=b:=rfl
 simp (disch:=omega) only [EV,e0,e1,e2,e3]
 cases ([b]==s)<;>rfl
theorem idx1_pos(s:List UInt8)(b:UInt8):decide ((0:Int)≤if [b]==s then 0 else idxByte s (b.toNat:Int))=hasB s b.toNat:=by
 cases h:([b]==s) with
 |false=>simpa using idxByte_pos s b
 |true=>
  have:=beq_iff_eq.1 h
  subst this
  simp [hasB]
theorem contains1_eq(s:List UInt8)(b:UInt8):wek s [b]=some (hasB s b.toNat):=by
 unfold wek wus waao wur
 simp (disch:=omega) only [EV,index1_eq]
 rw [idx1_pos]
theorem im_IsValidRecord_eq{c r:List UInt8}(hc:SLow c)(hr:SLow r):wfk c r=some (recordB c r):=by
 unfold wfk wux recordB
 have aa:wek c [64]=some (hasB c 64):=contains1_eq c 64
 simp (disch:=omega) only [EV,isPlain_eq hc,isPlain_eq hr,aa]
 cases (c==[])<;>cases bytesB c 160<;>cases hasB c 64<;>cases bytesB r 200<;>rfl
end Go.Proofs.YteiekijgoifhoaaGreatDoor
/-
 Plain laws: numerals, checksums, and the line of a record.
-/
namespace Go.Proofs.YteiekijgoifhoaaGreatDoor
open Go
theorem nDig_le:∀ (k u:Nat),u<10^(k+1)→Lib.nDigits u≤k+1
 |0,u,h=>by rw [Lib.nDigits_small (by simpa using h)];omega
 |k+1,u,h=>by
  by_cases aa:u<10
  ·rw [Lib.nDigits_small aa];omega
  ·rw [Lib.nDigits_big aa]
   have:=nDig_le k (u/ 10) (by rw [Nat.pow_succ] at h;omega)
   omega
theorem nDig7{u:Nat}(h:u<10000000):Lib.nDigits u≤7:=nDig_le 6 u (by simpa using h)
theorem dig_mem{u:Nat}{b:UInt8}(h:b∈Lib.decDigits u):48≤b.toNat∧b.toNat≤57:=by
 induction u using Nat.strongRecOn with
 |_ u ih=>
  have one:∀i,i<10→∀b∈ [UInt8.ofNat (48+i)],48≤b.toNat∧b.toNat≤57:=by
   intro i hi b hb
   obtain rfl:=xt.1 hb
   rw [UInt8.toNat_ofNat']
   omega
  rw [Lib.decDigits] at h
  split at h
  next aa=>exact one u aa b h
  next aa=>
   rcases xq.1 h with h|h
   ·exact ih (u/ 10) (by omega) h
   ·exact one (u % 10) (by omega) b h
theorem Itoa_eq{k:Int}(h0:0≤k)(h1:k<10000000):wel k=some (Lib.decDigits k.toNat):=by
 unfold wel itoaF inI64 Lib.itoa
 have e:(decide (-9223372036854775808≤k)&&decide (k≤9223372036854775807))=true:=by simp only [xg,decide_eq_true_eq];omega
 rw [if_pos e,if_neg (by omega)]
def chkStep(h:Int)(c:UInt8):Int:=Int.tmod (41*h+(c.toNat:Int)+1) 999979
def chk(s:List UInt8):Int:=s.foldl chkStep 7
theorem chkStep_in{h:Int}(h0:0≤h)(c:UInt8):0≤chkStep h c∧chkStep h c<999979:=by
 unfold chkStep
 rw [xcl (by omega)]
 omega
theorem chk_in(s:List UInt8):0≤chk s∧chk s<999979:=by
 have:∀ (s:List UInt8) (h:Int),0≤h→h<999979→0≤s.foldl chkStep h∧s.foldl chkStep h<999979:=by
  intro s
  induction s with
  |nil=>intro h a b;exact⟨a,b⟩
  |cons c s ih=>
   intro h a b
   obtain⟨x,y⟩:=chkStep_in a c
   exact ih _ x y
 exact this s 7 (by omega) (by omega)
theorem checksum_eq{s:List UInt8}(hs:SLow s):wuv s=some (chk s):=by
 unfold SLow at hs
 have h0:wig (s,(s.length:Int)) ((7:Int),(0:Int))=_:=(iter_foldl (f:=fun v=>(wci (s,(s.length:Int)) v).ev) s (0:UInt8) (fun i (h:Int)=>(h,(i:Int))) (fun _ h=>0≤h∧h<999979) chkStep (fun h=>h) (s0:=7) ⟨by omega,by omega⟩ (fun i h hi ⟨a,b⟩=>by
  have hb:=byte_lt (s.getD i 0)
  refine⟨?_,chkStep_in a _⟩
  simp (disch:=omega) only [EV,wci,hi]
  unfold chkStep
  rfl) (fun h _=>by simp (disch:=omega) only [EV,wci,xo])).1
 unfold wuv wuu chk
 simp (disch:=omega) only [EV,h0]
end Go.Proofs.YteiekijgoifhoaaGreatDoor
/-
 Plain laws: the line of a record, how it is written and how it is read.
-/
namespace Go.Proofs.YteiekijgoifhoaaGreatDoor
open Go
theorem hasB_app(a c:List UInt8)(b:Nat):hasB (a++c) b=(hasB a b||hasB c b):=List.any_append
def text(k:Int)(c r:List UInt8):List UInt8:=(((Lib.decDigits k.toNat++ [32])++c)++ [64])++r
def sealT(s:List UInt8):List UInt8:=(s++ [35])++Lib.decDigits (chk s).toNat
def line(k:Int)(c r:List UInt8):List UInt8:=sealT (text k c r)++ [10]
def encB(k:Int)(c r:List UInt8):Bool:=isIn k 0 59&&recordB c r
def encF(k:Int)(c r:List UInt8):List UInt8×Bool:=if encB k c r then(line k c r,true) else([],false)
theorem dig_len{u:Nat}(h:u<10000000):(Lib.decDigits u).length≤7:=by rw [Lib.decDigits_length];exact nDig7 h
theorem chk_nat(s:List UInt8):(chk s).toNat<10000000:=by have:=chk_in s;omega
theorem sealT_len(s:List UInt8):(sealT s).length≤s.length+8:=by
 have:=dig_len (chk_nat s)
 unfold sealT
 simp only [xj,xad,xai]
 omega
theorem dig_has{u b:Nat}(h:b<48∨57<b):hasB (Lib.decDigits u) b=false:=by
 unfold hasB
 rw [xbn]
 intro x hx
 have:=dig_mem hx
 simp only [beq_iff_eq]
 omega
theorem rec_parts{c r:List UInt8}(h:recordB c r=true):hasB c 35=false∧hasB r 35=false∧hasB c 64=false∧hasB c 10=false∧hasB r 10=false∧c.length≤160∧r.length≤200:=by
 unfold recordB bytesB at h
 simp only [xg,xat,decide_eq_true_eq,xp] at h
 obtain⟨_,⟨h1,h2⟩,h3,h4,h5⟩:=h
 have key:∀s:List UInt8,(∀x∈s,byOK x=true)→hasB s 35=false∧hasB s 10=false:=by
  intro s hs
  unfold hasB
  rw [xbn,xbn]
  constructor<;>intro x hx<;>have:=hs x hx<;>unfold byOK at this<;>simp only [xg,decide_eq_true_eq,xat,beq_eq_false_iff_ne] at this<;>simp only [beq_iff_eq]
  ·exact this.2.2
  ·omega
 exact⟨(key c h1).1,(key r h4).1,h3,(key c h1).2,(key r h4).2,by omega,by omega⟩
theorem text_len{k:Int}{c r:List UInt8}(hk:isIn k 0 59=true):(text k c r).length≤9+c.length+r.length:=by
 unfold isIn at hk
 simp only [xg,decide_eq_true_eq] at hk
 have:=dig_len (u:=k.toNat) (by omega)
 unfold text
 simp only [xj,xad,xai]
 omega
theorem text_has35{k:Int}{c r:List UInt8}(h:recordB c r=true):hasB (text k c r) 35=false:=by
 obtain⟨h1,h2,_⟩:=rec_parts h
 unfold text
 simp only [hasB_app,h1,h2,dig_has (u:=k.toNat) (b:=35) (by omega),xfq,xev]
 rfl
theorem AppendChecksum_eq{s:List UInt8}(hs:s.length≤3000)(aa:hasB s 35=false):F_ze s=some (sealT s,true):=by
 have h:=chk_in s
 have hd:=dig_len (chk_nat s)
 have e0:List.length s+List.length ([35]:List UInt8)≤9223372036854775807:=by simp;omega
 have e1:List.length (s++([35]:List UInt8))+(Lib.decDigits (chk s).toNat).length≤9223372036854775807:=by simp;omega
 have e2:¬(4000:Int)<(s.length:Int):=by omega
 have e3:¬(4000:Int)<((List.length ((s++([35]:List UInt8))++Lib.decDigits (chk s).toNat):Nat):Int):=by simp only [xj,xad,xai];omega
 have e4:wek s ([35]:List UInt8)=some (hasB s 35):=contains1_eq s 35
 unfold F_ze T_ze sealT
 simp (disch:=omega) only [EV,checksum_eq (by unfold SLow;omega:SLow s),Itoa_eq h.1 (by omega),e0,e1,e2,e3,e4,aa]
theorem im_EncodeRecord_eq{k:Int}{c r:List UInt8}(hc:SLow c)(hr:SLow r):F_zn k c r=some (encF k c r):=by
 unfold F_zn T_zn encF encB
 simp (disch:=omega) only [EV,between_eq,im_IsValidRecord_eq hc hr]
 cases h1:isIn k 0 59 with
 |false=>rfl
 |true=>
  cases h2:recordB c r with
  |false=>rfl
  |true=>
   obtain⟨_,_,_,_,_,a,b⟩:=rec_parts h2
   have hl:=text_len (c:=c) (r:=r) h1
   have hs:=sealT_len (text k c r)
   have hk:=h1
   unfold isIn at hk
   simp only [xg,decide_eq_true_eq] at hk
   have hd:=dig_len (u:=k.toNat) (by omega)
   have e1:List.length (Lib.decDigits k.toNat)+List.length ([32]:List UInt8)≤9223372036854775807:=by simp;omega
   have e2:List.length (Lib.decDigits k.toNat++([32]:List UInt8))+List.length c≤9223372036854775807:=by simp;omega
   have e3:List.length ((Lib.decDigits k.toNat++([32]:List UInt8))++c)+List.length ([64]:List UInt8)≤9223372036854775807:=by simp only [xj,xad,xai];omega
   have e4:List.length (((Lib.decDigits k.toNat++([32]:List UInt8))++c)++([64]:List UInt8))+List.length r≤9223372036854775807:=by simp only [xj,xad,xai];omega
   have e5:F_ze ((((Lib.decDigits k.toNat++([32]:List UInt8))++c)++([64]:List UInt8))++r)=some (sealT (text k c r),true):=AppendChecksum_eq (s:=text k c r) (by omega) (text_has35 h2)
   have e6:List.length (sealT (text k c r))+List.length ([10]:List UInt8)≤9223372036854775807:=by simp;omega
   simp (disch:=omega) only [EV,Itoa_eq hk.1 (by omega),e1,e2,e3,e4,e5,e6]
   rfl
end Go.Proofs.YteiekijgoifhoaaGreatDoor
