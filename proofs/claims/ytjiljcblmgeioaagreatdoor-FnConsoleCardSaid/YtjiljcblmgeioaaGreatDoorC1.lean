/- A part of the proof that FnConsole hands back true, at every argument of the row. -/
import Derived.Test.YtjiljcblmgeioaaGreatDoorC5
namespace Go.Proofs.YtjiljcblmgeioaaGreatDoor
set_option linter.all false
noncomputable section
open Go.Proofs.Tryz
open List (length getD set)
open Int (toNat)
open IntKind (wrap)
def aFw(e:Y1)(a:List Y1)(i:Y1)(h:Int):Tr (Int×Bool):=.c _ (OW e a i h) λb=>.t (!b.2) (.l (0,false)) (.c _ (MU e a) λf=>.c _ (Sq f.2) λg=>.l ((wrap .i64 (b.1-g)),true))
def aFL e c b a:=(aFw e c b a).ev
def aQL:FP prog:=aH cx func111 [aLu,aLt,aJf] (yj [.agg oL]) [] [] (rX aFw) Az dO
def aFe(e:Y1)(a:List Y1)(b:Y1):Tr (Int×Bool):=.c _ (Ff e a b) λg=>.t (!g) (.l (0,false)) (.c _ (Gi e a b) λf=>.l (f,true))
def XE c b a:=(aFe c b a).ev
def aOU:FP prog:=aH cx func112 [Qw,aGw] (yj [.agg Zv,.dat y1]) [] [] (bF aFe) Bj dO
def aBV(e:Y1)(a:List Y1)(b:Y1):Tr (Int×Bool):=.c _ (Ff e a b) λg=>.t (!g) (.l (0,false)) (.c _ (Rp e a b) λf=>.l (f,true))
def aAg c b a:=(aBV c b a).ev
def aRC:FP prog:=aH cx func113 [Qw,aIi] (yj [.agg Zv,.dat y1]) [] [] (bF aBV) Bj dO
def aGm(e:Y1)(a:List Y1)(b:Y1):Tr D9:=.c _ (Ff e a b) λg=>.t (!g) (.l (false,[])) (.c _ (JO e a b) λf=>.l (true,f))
def aDR c b a:=(aGm c b a).ev
def aOS:FP prog:=aH cx func114 [Qw,aJq] (yj [.agg Zv,.dat y1]) [] [] (bF aGm) VN gN
def Xb(k:Y1×Y1×Int×Y2×Int×Int×Y2×Int×Int×Int×Int×E3)(v:Int):Tr (Int⊕(Unit⊕Unit)):=.t (v<k.2.2.2.2.2.2.2.2.2.2.2.1) (.g (aC k.2.2.1 (length k.1))<|.g (aC v (length k.1))<|.g (aC v (length k.2.1))<|.g (aC k.2.2.1 (length k.2.1))<|.t ((wrap .i64 ((wrap .i64 ((getD k.1 (toNat v) 0)+(getD k.2.1 (toNat v) 0)))+(getD k.2.1 (toNat k.2.2.1) 0)))<(getD k.1 (toNat k.2.2.1) 0)) (.l (.inr (.inr ()))) (.l (.inl (wrap .i64 (v+1))))) (.l (.inr (.inl ())))
def aHB k v:=aB (λv=>(Xb k v).ev) v
abbrev BJ:Keep:=yk [] [1,5,7,14,15,16,21,22,23,29,30] (yj [.box 1 0,.dat y1,.dat y1,.dat y2,.dat yi,.dat yi,.dat y2,.dat yi,.dat yi,.dat yi,.dat yi]) [jY]
abbrev yC:Keep:=yh [2,3] (yj [.dat .bool,.dat .bool])
def aOh:LD:=yl (Xb) (yk [] [1,5,7,8,14,15,16,21,22,23,29,30,35,36] (yj [.box 1 0,.dat y1,.dat y1,.dat yi,.dat y2,.dat yi,.dat yi,.dat y2,.dat yi,.dat yi,.dat yi,.dat yi,.dat yi,.dat yi]) [jY]) [(6,BJ)] yC (λk v=>(((),k.1,k.2.1,k.2.2.1,k.2.2.2.1,k.2.2.2.2.1,k.2.2.2.2.2.1,k.2.2.2.2.2.2.1,k.2.2.2.2.2.2.2.1,k.2.2.2.2.2.2.2.2.1,k.2.2.2.2.2.2.2.2.2.1,k.2.2.2.2.2.2.2.2.2.2.1,k.2.2.2.2.2.2.2.2.2.2.2.1,v,()),(k.2.2.2.2.2.2.2.2.2.2.2.2.1,k.2.2.2.2.2.2.2.2.2.2.2.2.2,()),())) (λt=>(t.1.2.1,t.1.2.2.1,t.1.2.2.2.1,t.1.2.2.2.2.1,t.1.2.2.2.2.2.1,t.1.2.2.2.2.2.2.1,t.1.2.2.2.2.2.2.2.1,t.1.2.2.2.2.2.2.2.2.1,t.1.2.2.2.2.2.2.2.2.2.1,t.1.2.2.2.2.2.2.2.2.2.2.1,t.1.2.2.2.2.2.2.2.2.2.2.2.1,t.1.2.2.2.2.2.2.2.2.2.2.2.2.1,t.2.1.1,t.2.1.2.1)) (λt=>t.1.2.2.2.2.2.2.2.2.2.2.2.2.2.1) (λk r=>.s _ _ r (λ_=>yx 6 BJ (((),k.1,k.2.1,k.2.2.2.1,k.2.2.2.2.1,k.2.2.2.2.2.1,k.2.2.2.2.2.2.1,k.2.2.2.2.2.2.2.1,k.2.2.2.2.2.2.2.2.1,k.2.2.2.2.2.2.2.2.2.1,k.2.2.2.2.2.2.2.2.2.2.1,()),(k.2.2.2.2.2.2.2.2.2.2.2.2.1,k.2.2.2.2.2.2.2.2.2.2.2.2.2,()),())) (λ_=>yz yC ((false,true,()),())))
def EP(k:Y1×Y1×Y2×Int×Int×Y2×Int×Int×E3)(v:Int):Tr (Int⊕(Unit⊕Unit)):=.t (v<k.2.2.2.2.2.2.2.2.1) (.c _ (aHB (k.1,k.2.1,v,k.2.2.1,k.2.2.2.1,k.2.2.2.2.1,k.2.2.2.2.2.1,k.2.2.2.2.2.2.1,k.2.2.2.2.2.2.2.1,k.2.2.2.2.2.2.2.2.1,v,(length k.2.2.2.2.2.2.2.2.2.1:Int),k.2.2.2.2.2.2.2.2.2.1,k.2.2.2.2.2.2.2.2.2.2) 0) λa=>.s _ _ a (λ_=>.l (.inl (wrap .i64 (v+1)))) (λ_=>.l (.inr (.inr ())))) (.l (.inr (.inl ())))
def aJF k v:=aB (λv=>(EP k v).ev) v
abbrev HD:Keep:=yk [] [1,5,14,15,16,21,22,23] (yj [.box 1 0,.dat y1,.dat y2,.dat yi,.dat yi,.dat y2,.dat yi,.dat yi]) [jY]
def aOg:LD:=yl (EP) BJ [(4,HD)] yC (λk v=>(((),k.1,k.2.1,k.2.2.1,k.2.2.2.1,k.2.2.2.2.1,k.2.2.2.2.2.1,k.2.2.2.2.2.2.1,k.2.2.2.2.2.2.2.1,k.2.2.2.2.2.2.2.2.1,v,()),(k.2.2.2.2.2.2.2.2.2.1,k.2.2.2.2.2.2.2.2.2.2,()),())) (λt=>(t.1.2.1,t.1.2.2.1,t.1.2.2.2.1,t.1.2.2.2.2.1,t.1.2.2.2.2.2.1,t.1.2.2.2.2.2.2.1,t.1.2.2.2.2.2.2.2.1,t.1.2.2.2.2.2.2.2.2.1,t.1.2.2.2.2.2.2.2.2.2.1,t.2.1.1,t.2.1.2.1)) (λt=>t.1.2.2.2.2.2.2.2.2.2.2.1) (λk r=>.s _ _ r (λ_=>yx 4 HD (((),k.1,k.2.2.1,k.2.2.2.1,k.2.2.2.2.1,k.2.2.2.2.2.1,k.2.2.2.2.2.2.1,k.2.2.2.2.2.2.2.1,()),(k.2.2.2.2.2.2.2.2.2.1,k.2.2.2.2.2.2.2.2.2.2,()),())) (λ_=>yz yC ((false,true,()),())))
def CQ(k:Y1×Y2×Int×Int×Y2×E3)(v:Int):Tr (Int⊕(Unit⊕Unit)):=.t (v<k.2.2.2.2.2.1) (.g (aC v (length k.2.2.2.2.1))<|.c _ (aJF (k.1,(getD k.2.2.2.2.1 (toNat v) []),k.2.1,k.2.2.1,k.2.2.2.1,k.2.2.2.2.1,k.2.2.2.2.2.1,v,(length k.2.2.2.2.2.2.1:Int),k.2.2.2.2.2.2.1,k.2.2.2.2.2.2.2) 0) λa=>.s _ _ a (λ_=>.l (.inl (wrap .i64 (v+1)))) (λ_=>.l (.inr (.inr ())))) (.l (.inr (.inl ())))
def aIj k v:=aB (λv=>(CQ k v).ev) v
abbrev FN:Keep:=yk [] [1,14,15,16] (yj [.box 1 0,.dat y2,.dat yi,.dat yi]) [jY]
def aTv:LD:=yl (CQ) HD [(2,FN)] yC (λk v=>(((),k.1,k.2.1,k.2.2.1,k.2.2.2.1,k.2.2.2.2.1,k.2.2.2.2.2.1,v,()),(k.2.2.2.2.2.2.1,k.2.2.2.2.2.2.2,()),())) (λt=>(t.1.2.1,t.1.2.2.1,t.1.2.2.2.1,t.1.2.2.2.2.1,t.1.2.2.2.2.2.1,t.1.2.2.2.2.2.2.1,t.2.1.1,t.2.1.2.1)) (λt=>t.1.2.2.2.2.2.2.2.1) (λk r=>.s _ _ r (λ_=>yx 2 FN (((),k.2.1,k.2.2.1,k.2.2.2.1,()),(k.2.2.2.2.2.2.1,k.2.2.2.2.2.2.2,()),())) (λ_=>yz yC ((false,true,()),())))
def DY(k:Y2×E3)(v:Int):Tr (Int⊕(Unit⊕Unit)):=.t (v<k.2.1) (.g (aC v (length k.1))<|.c _ (aIj ((getD k.1 (toNat v) []),k.1,k.2.1,v,k.2.2.2,(length k.2.2.2:Int),k.2.2.1,k.2.2.2) 0) λa=>.s _ _ a (λ_=>.l (.inl (wrap .i64 (v+1)))) (λ_=>.l (.inr (.inr ())))) (.l (.inr (.inl ())))
def aJb k v:=aB (λv=>(DY k v).ev) v
def aQw:LD:=yl (DY) FN [(0,aE)] yC aLU aIK rQ (λ_ r=>.s _ _ r (λ_=>yx 0 aE ((),())) (λ_=>yz yC ((false,true,()),())))
def aGr(b:Y1)(a:List Y1):Tr (Bool×Bool):=.c _ (uR b a) λe=>.t (!e) (.l (false,false)) (.c _ (aJb (a,(length a:Int),b,a) 0) λf=>.s _ _ f (λ_=>.l (true,true)) (λ_=>.l (false,true)))
def PV b a:=(aGr b a).ev
def aOF:FP prog:=aH cx func116 [H6] (yj [.agg Zv]) [] [] (jZ aGr) SQ dO bU [(6,aOh),(4,aOg),(2,aTv),(0,aQw)]
def aKk(b a:Bool):Tr Lp:=.t b (.l (([121,101,115]:List UInt8),a)) (.l (([110,111]:List UInt8),a))
def aDi b a:=(aKk b a).ev
def aTp:FP prog:=aH cx func115 [] (yj [.dat .bool,.dat .bool]) [] [] (dG aKk) Mv dO
def HT(k:Y2×Int)(v:Int×(List (List UInt8))):Tr ((Int×(List (List UInt8)))⊕(List (List UInt8))):=.t (v.1<k.2) (.g (aC v.1 (length k.1))<|.c _ (AI (getD k.1 (toNat v.1) [])) λa=>.g ((length v.2+length ([a]:List (List UInt8)))*16<=140737488355328)<|.l (.inl ((wrap .i64 (v.1+1)),(v.2++([a]:List (List UInt8)))))) (.l (.inr v.2))
def aKv k v:=aB (λv=>(HT k v).ev) v
abbrev TW:Keep:=yk [] [4] (yj [.arr 13]) [(13,.arr 9 .str)]
def aOK:LD:=yl (HT) (yk [] [4,15,16,17] (yj [.arr 13,.dat y2,.dat yi,.dat yi]) [(13,.arr 9 .str)]) [(0,TW)] aE Nn iV u7 (λ_ r=>yx 0 TW (((),()),r,()))
def aFQ(b:Y1)(a:List Y1):Tr Lp:=.c _ (uR b a) λg=>.t (!g) (.l ([],false)) (.c _ (AI b) λe=>.c _ (aKv (a,(length a:Int)) (0,([e]:List (List UInt8)))) λf=>.c _ (Rb f ([32,47,32]:List UInt8)) λh=>.l (h,true))
def PW b a:=(aFQ b a).ev
def aRv:FP prog:=aH cx func117 [H6,aGS,aJe] (yj [.agg Zv]) [] [] (jZ aFQ) HS dO bU [(0,aOK)]
def BI(k:Y1×jI)(v:Int):Tr (Int⊕(Unit⊕Int)):=.t (v<k.2.2) (.g (aC v (length k.1))<|.t (k.2.1==(getD k.1 (toNat v) 0)) (.l (.inr (.inr v))) (.l (.inl (wrap .i64 (v+1))))) (.l (.inr (.inl ())))
def aIt k v:=aB (λv=>(BI k v).ev) v
def aNa:LD:=yl (BI) (yh [0,1,7,8] (yj [.dat y1,.dat yi,.dat yi,.dat yi])) [(0,aE)] rV xY xR rQ (λ_ r=>.s _ _ r (λ_=>yx 0 aE ((),())) (λb=>yz rV ((b,()),())))
def aDN(a:Y1)(e:Int):Tr Int:=.c _ (aIt (a,e,(length a:Int)) 0) λf=>.s _ _ f (λ_=>.l (-1)) (λb=>.l b)
def aLK b a:=(aDN b a).ev
def aPL:FP prog:=aH cx func248 [] (yj [.dat y1,.dat yi]) [] [] (dG aDN) lJ bN bU [(0,aNa)]
def aCB(a:Y1)(_f:List Y1):Tr Int:=.c _ (Sp a) λe=>.c _ (aLK a e) λb=>.l b
def aFf b a:=(aCB b a).ev
def aTd:FP prog:=aH cx func179 [aJl,aPL] (yj [.agg Zv]) [] [] (jZ aCB) oB bN
def Vg(b:Y1)(a:Int):Option (List Int):=qZ b a
def aQn:FD:=Aa
theorem aSV:eF prog (249,aQn):=Ci
def aQr:FP prog:=⟨_,aSV⟩
def aAK(b c:Int)(_e:Y1)(a:List Y1):Tr Int:=.g (aC b (length a))<|.g (aC c (length (getD a (toNat b) [])))<|.l (wrap .i64 ((getD (getD a (toNat b) []) (toNat c) 0)*(2520:Int)))
def AJ e c b a:=(aAK e c b a).ev
abbrev SJ:RetK:=yr [.tmp 5] fK
def aSE:FP prog:=aH cx func250 [] (yj [.dat yi,.dat yi,.ptr Zv]) [] [] ((λf x=>f x.1.1 x.1.2.1 x.1.2.2.1.1 x.1.2.2.1.2.1) aAK) SJ bN
def aEc(b c a:Int):Tr Int:=.t (c<b) (.t (a<0) (.l b) (.t (b<a) (.l b) (.l a))) (.l a)
def LJ c b a:=(aEc c b a).ev
def aQR:FP prog:=aH cx func251 [] (yj [.dat yi,.ptr fK,.box 64 0]) [(64,.cells fK)] [.arg 2] ((λf x=>f x.1.1 x.1.2.1.1 x.2.1.1) aEc) ⟨[],[],.nil,[(64,.cells fK)],[(2,0,64)],[]⟩ (λr=>((),(r,()),()))
def Zn(k:Int×Int×Y1×Y2×Int×Y1×Y1)(v:Int×Y1):Tr (gR⊕Y1):=.t (v.1<k.2.1) (.g (aC v.1 (length k.2.2.2.2.2.2))<|.g ((toNat v.1)<length k.2.2.2.2.2.2)<|.t ((getD k.2.2.2.2.2.2 (toNat v.1) 0)<(0:Int)) (.g (aC v.1 (length v.2))<|.g ((toNat v.1)<length v.2)<|.l (.inl ((wrap .i64 (v.1+1)),(set v.2 (toNat v.1) k.2.2.2.2.1)))) (.l (.inl ((wrap .i64 (v.1+1)),v.2)))) (.l (.inr v.2))
def aIo k v:=aB (λv=>(Zn k v).ev) v
abbrev Be:Keep:=yk [] [1,2,3,4,5,6] (yj [.box 1 0,.box 2 0,.dat yi,.box 4 0,.fn 250 (yj [.box 1 0]),.box 6 0]) [jY,HM,BV,(6,.cells fK),(25,.arr 3 yi),(1920,.arr 3 yi),Nt]
def aLZ:LD:=yl (Zn) (yk [] [1,2,3,4,5,6,36,37] (yj [.box 1 0,.box 2 0,.dat yi,.box 4 0,.fn 250 (yj [.box 1 0]),.box 6 0,.dat yi,.dat yi]) [jY,HM,BV,(6,.cells fK),(25,.arr 3 yi),(1920,.arr 3 yi),Nt]) [(2,Be)] aE (λk v=>(((),(),k.1,(),((),()),(),k.2.1,v.1,()),(k.2.2.1,k.2.2.2.1,()),((),(),(),()),((),(),(),()),(k.2.2.2.2.1,()),v.2,k.2.2.2.2.2.1,k.2.2.2.2.2.2,())) (λt=>(t.1.2.2.1,t.1.2.2.2.2.2.2.1,t.2.1.1,t.2.1.2.1,t.2.2.2.2.1.1,t.2.2.2.2.2.2.1,t.2.2.2.2.2.2.2.1)) (λt=>(t.1.2.2.2.2.2.2.2.1,t.2.2.2.2.2.1)) (λk r=>yx 2 Be (((),(),k.1,(),((),()),(),()),(k.2.2.1,k.2.2.2.1,()),((),(),(),()),((),(),(),()),(k.2.2.2.2.1,()),r,k.2.2.2.2.2.1,k.2.2.2.2.2.2,()))
def Qf(k:Int×Int×Y1×Y2×Int×Ll)(v:Int×Y1):Tr (gR⊕Y1):=.t (v.1<k.2.1) (.g (aC v.1 (length k.2.2.2.2.2.1))<|.g ((toNat v.1)<length k.2.2.2.2.2.1)<|.g (aC v.1 (length v.2))<|.g ((toNat v.1)<length v.2)<|.t ((getD v.2 (toNat v.1) 0)<(0:Int)) (.g (aC v.1 (length k.2.2.1))<|.t ((wrap .i64 ((getD k.2.2.1 (toNat v.1) 0)*(2520:Int)))<=(getD k.2.2.2.2.2.1 (toNat v.1) 0)) (.g (aC v.1 (length v.2))<|.g ((toNat v.1)<length v.2)<|.l (.inl ((wrap .i64 (v.1+1)),(set v.2 (toNat v.1) k.2.2.2.2.1)))) (.l (.inl ((wrap .i64 (v.1+1)),v.2)))) (.l (.inl ((wrap .i64 (v.1+1)),v.2)))) (.l (.inr v.2))
def aHI k v:=aB (λv=>(Qf k v).ev) v
def aPm:LD:=yl (Qf) (yk [] [1,2,3,4,5,6,55,56,57] (yj [.box 1 0,.box 2 0,.dat yi,.box 4 0,.fn 250 (yj [.box 1 0]),.box 6 0,.arr 3520,.dat yi,.dat yi]) [jY,HM,BV,(6,.cells fK),(3520,.arr 3 yi),(25,.arr 3 yi),(1920,.arr 3 yi),Nt]) [(4,Be)] aE (λk v=>(((),(),k.1,(),((),()),(),(),k.2.1,v.1,()),(k.2.2.1,k.2.2.2.1,()),((),(),(),()),((),(),(),()),(k.2.2.2.2.1,()),k.2.2.2.2.2.1,k.2.2.2.2.2.2.1,v.2,k.2.2.2.2.2.2.2,())) (λt=>(t.1.2.2.1,t.1.2.2.2.2.2.2.2.1,t.2.1.1,t.2.1.2.1,t.2.2.2.2.1.1,t.2.2.2.2.2.1,t.2.2.2.2.2.2.1,t.2.2.2.2.2.2.2.2.1)) (λt=>(t.1.2.2.2.2.2.2.2.2.1,t.2.2.2.2.2.2.2.1)) (λk r=>yx 4 Be (((),(),k.1,(),((),()),(),()),(k.2.2.1,k.2.2.2.1,()),((),(),(),()),((),(),(),()),(k.2.2.2.2.1,()),k.2.2.2.2.2.2.1,r,k.2.2.2.2.2.2.2,()))
def G3(k:Int×Bool×Int×Int×Int×Int×Y1×Y2×Int×Y1×Y1)(v:Int×Y1):Tr (gR⊕Y1):=.t (v.1<k.2.2.2.2.2.1) (.g (aC v.1 (length k.2.2.2.2.2.2.2.2.2.1))<|.g ((toNat v.1)<length k.2.2.2.2.2.2.2.2.2.1)<|.g (aC k.2.2.1 (length v.2))<|.g ((toNat k.2.2.1)<length v.2)<|.g (aC k.2.2.1 (length k.2.2.2.2.2.2.2.2.2.2))<|.g ((toNat k.2.2.1)<length k.2.2.2.2.2.2.2.2.2.2)<|.t ((getD k.2.2.2.2.2.2.2.2.2.2 (toNat k.2.2.1) 0)==k.2.2.2.2.2.2.2.2.1) (.t ((0:Int)<=(getD k.2.2.2.2.2.2.2.2.2.1 (toNat v.1) 0)) (.c _ (AJ k.2.2.1 v.1 k.2.2.2.2.2.2.1 k.2.2.2.2.2.2.2.1) λa=>.t (a<=k.2.2.2.2.2.2.2.2.1) (.t ((getD v.2 (toNat k.2.2.1) 0)<(0:Int)) (.g (aC k.2.2.1 (length v.2))<|.g ((toNat k.2.2.1)<length v.2)<|.l (.inl ((wrap .i64 (v.1+1)),(set v.2 (toNat k.2.2.1) v.1)))) (.g (aC (getD v.2 (toNat k.2.2.1) 0) (length k.2.2.2.2.2.2.2.2.2.1))<|.g ((toNat (getD v.2 (toNat k.2.2.1) 0))<length k.2.2.2.2.2.2.2.2.2.1)<|.t ((getD k.2.2.2.2.2.2.2.2.2.1 (toNat v.1) 0)<(getD k.2.2.2.2.2.2.2.2.2.1 (toNat (getD v.2 (toNat k.2.2.1) 0)) 0)) (.g (aC k.2.2.1 (length v.2))<|.g ((toNat k.2.2.1)<length v.2)<|.l (.inl ((wrap .i64 (v.1+1)),(set v.2 (toNat k.2.2.1) v.1)))) (.l (.inl ((wrap .i64 (v.1+1)),v.2))))) (.l (.inl ((wrap .i64 (v.1+1)),v.2)))) (.l (.inl ((wrap .i64 (v.1+1)),v.2)))) (.l (.inl ((wrap .i64 (v.1+1)),v.2)))) (.l (.inr v.2))
def aJd k v:=aB (λv=>(G3 k v).ev) v
abbrev QT:Keep:=yk [] [1,2,3,4,5,6,10,11,84,85] (yj [.box 1 0,.box 2 0,.dat yi,.box 4 0,.fn 250 (yj [.box 1 0]),.box 6 0,.dat .bool,.dat yi,.dat yi,.dat yi]) [jY,HM,BV,(6,.cells fK),(25,.arr 3 yi),(1920,.arr 3 yi),Nt]
def aRI:LD:=yl (G3) (yk [] [1,2,3,4,5,6,10,11,84,85,89,90,91] (yj [.box 1 0,.box 2 0,.dat yi,.box 4 0,.fn 250 (yj [.box 1 0]),.box 6 0,.dat .bool,.dat yi,.dat yi,.dat yi,.arr 1920,.dat yi,.dat yi]) [jY,HM,BV,(6,.cells fK),(1920,.arr 3 yi),(25,.arr 3 yi),Nt]) [(8,QT)] aE (λk v=>(((),(),k.1,(),((),()),(),k.2.1,k.2.2.1,k.2.2.2.1,k.2.2.2.2.1,(),k.2.2.2.2.2.1,v.1,()),(k.2.2.2.2.2.2.1,k.2.2.2.2.2.2.2.1,()),((),(),(),()),((),(),(),()),(k.2.2.2.2.2.2.2.2.1,()),k.2.2.2.2.2.2.2.2.2.1,k.2.2.2.2.2.2.2.2.2.2,v.2,())) (λt=>(t.1.2.2.1,t.1.2.2.2.2.2.2.1,t.1.2.2.2.2.2.2.2.1,t.1.2.2.2.2.2.2.2.2.1,t.1.2.2.2.2.2.2.2.2.2.1,t.1.2.2.2.2.2.2.2.2.2.2.2.1,t.2.1.1,t.2.1.2.1,t.2.2.2.2.1.1,t.2.2.2.2.2.1,t.2.2.2.2.2.2.1)) (λt=>(t.1.2.2.2.2.2.2.2.2.2.2.2.2.1,t.2.2.2.2.2.2.2.1)) (λk r=>yx 8 QT (((),(),k.1,(),((),()),(),k.2.1,k.2.2.1,k.2.2.2.1,k.2.2.2.2.1,()),(k.2.2.2.2.2.2.1,k.2.2.2.2.2.2.2.1,()),((),(),(),()),((),(),(),()),(k.2.2.2.2.2.2.2.2.1,()),k.2.2.2.2.2.2.2.2.2.2,k.2.2.2.2.2.2.2.2.2.1,r,()))
def Va(k:Int×Int×Y1×Y2×Int×Y1×Y1)(v:Bool×gR):Tr ((Bool×gR)⊕D9):=.t (v.2.1<k.2.1) (.c _ (aJd (k.1,v.1,v.2.1,k.2.1,v.2.1,(length k.2.2.2.2.2.2:Int),k.2.2.1,k.2.2.2.1,k.2.2.2.2.1,k.2.2.2.2.2.2,k.2.2.2.2.2.1) (0,v.2.2)) λa=>.t v.1 (.l (.inl (true,(wrap .i64 (v.2.1+1)),a))) (.g (aC v.2.1 (length a))<|.g ((toNat v.2.1)<length a)<|.l (.inl (((getD a (toNat v.2.1) 0)<(0:Int)),(wrap .i64 (v.2.1+1)),a)))) (.l (.inr (v.1,v.2.2)))
def aKS k v:=aB (λv=>(Va k v).ev) v
abbrev WG:Keep:=yk [] [1,2,3,4,5,6,10] (yj [.box 1 0,.box 2 0,.dat yi,.box 4 0,.fn 250 (yj [.box 1 0]),.box 6 0,.dat .bool]) [jY,HM,BV,(6,.cells fK),(25,.arr 3 yi),(1920,.arr 3 yi),Nt]
def aTM:LD:=yl (Va) (yk [] [1,2,3,4,5,6,10,84,85] (yj [.box 1 0,.box 2 0,.dat yi,.box 4 0,.fn 250 (yj [.box 1 0]),.box 6 0,.dat .bool,.dat yi,.dat yi]) [jY,HM,BV,(6,.cells fK),(25,.arr 3 yi),(1920,.arr 3 yi),Nt]) [(6,WG)] aE (λk v=>(((),(),k.1,(),((),()),(),v.1,k.2.1,v.2.1,()),(k.2.2.1,k.2.2.2.1,()),((),(),(),()),((),(),(),()),(k.2.2.2.2.1,()),k.2.2.2.2.2.1,k.2.2.2.2.2.2,v.2.2,())) (λt=>(t.1.2.2.1,t.1.2.2.2.2.2.2.2.1,t.2.1.1,t.2.1.2.1,t.2.2.2.2.1.1,t.2.2.2.2.2.1,t.2.2.2.2.2.2.1)) (λt=>(t.1.2.2.2.2.2.2.1,t.1.2.2.2.2.2.2.2.2.1,t.2.2.2.2.2.2.2.1)) (λk r=>yx 6 WG (((),(),k.1,(),((),()),(),r.1,()),(k.2.2.1,k.2.2.2.1,()),((),(),(),()),((),(),(),()),(k.2.2.2.2.1,()),k.2.2.2.2.2.1,k.2.2.2.2.2.2,r.2,()))
def Jc(k:Int×Int×Int×Int×Int×Y1×Y2×Int×Y1×Ll)(v:Int×jI):Tr ((Int×jI)⊕jI):=.t (v.2.1<k.2.2.2.2.1) (.g (aC v.2.1 (length k.2.2.2.2.2.2.2.2.2.2.2))<|.g ((toNat v.2.1)<length k.2.2.2.2.2.2.2.2.2.2.2)<|.t ((0:Int)<=(getD k.2.2.2.2.2.2.2.2.2.2.2 (toNat v.2.1) 0)) (.l (.inl (v.1,(wrap .i64 (v.2.1+1)),v.2.2))) (.c _ (AJ v.2.1 k.2.1 k.2.2.2.2.2.1 k.2.2.2.2.2.2.1) λe=>.c _ (LJ e k.2.2.2.2.2.2.2.1 v.2.2) λa=>.c _ (AJ v.2.1 k.2.1 k.2.2.2.2.2.1 k.2.2.2.2.2.2.1) λb=>.t (b<=k.2.2.2.2.2.2.2.1) (.l (.inl ((wrap .i64 (v.1+1)),(wrap .i64 (v.2.1+1)),a))) (.l (.inl (v.1,(wrap .i64 (v.2.1+1)),a))))) (.l (.inr (v.1,v.2.2)))
def aHX k v:=aB (λv=>(Jc k v).ev) v
abbrev QU:Keep:=yk [] [1,2,3,4,5,6,15,16,17,18,19,159,160] (yj [.box 1 0,.box 2 0,.dat yi,.box 4 0,.fn 250 (yj [.box 1 0]),.box 6 0,.box 15 0,.fn 251 (yj [.box 6 0,.box 15 0]),.arr 9984,.dat yi,.dat yi,.dat yi,.dat yi]) [jY,HM,BV,(6,.cells fK),(15,.cells fK),(9984,.arr 3 yi),(25,.arr 3 yi),(1920,.arr 3 yi),Nt]
def aPg:LD:=yl (Jc) (yk [] [1,2,3,4,5,6,15,16,17,18,19,159,160,163,164] (yj [.box 1 0,.box 2 0,.dat yi,.box 4 0,.fn 250 (yj [.box 1 0]),.box 6 0,.box 15 0,.fn 251 (yj [.box 6 0,.box 15 0]),.arr 9984,.dat yi,.dat yi,.dat yi,.dat yi,.dat yi,.dat yi]) [jY,HM,BV,(6,.cells fK),(15,.cells fK),(9984,.arr 3 yi),(25,.arr 3 yi),(1920,.arr 3 yi),Nt]) [(12,QU)] aE (λk v=>(((),(),k.1,(),((),()),(),(),((),(),()),(),k.2.1,v.1,k.2.2.1,k.2.2.2.1,k.2.2.2.2.1,v.2.1,()),(k.2.2.2.2.2.1,k.2.2.2.2.2.2.1,()),((),(),(),()),((),(),(),()),(k.2.2.2.2.2.2.2.1,()),(v.2.2,()),k.2.2.2.2.2.2.2.2.1,k.2.2.2.2.2.2.2.2.2.1,k.2.2.2.2.2.2.2.2.2.2.1,k.2.2.2.2.2.2.2.2.2.2.2,())) (λt=>(t.1.2.2.1,t.1.2.2.2.2.2.2.2.2.2.1,t.1.2.2.2.2.2.2.2.2.2.2.2.1,t.1.2.2.2.2.2.2.2.2.2.2.2.2.1,t.1.2.2.2.2.2.2.2.2.2.2.2.2.2.1,t.2.1.1,t.2.1.2.1,t.2.2.2.2.1.1,t.2.2.2.2.2.2.1,t.2.2.2.2.2.2.2.1,t.2.2.2.2.2.2.2.2.1,t.2.2.2.2.2.2.2.2.2.1)) (λt=>(t.1.2.2.2.2.2.2.2.2.2.2.1,t.1.2.2.2.2.2.2.2.2.2.2.2.2.2.2.1,t.2.2.2.2.2.1.1)) (λk r=>yx 12 QU (((),(),k.1,(),((),()),(),(),((),(),()),(),k.2.1,r.1,k.2.2.1,k.2.2.2.1,()),(k.2.2.2.2.2.1,k.2.2.2.2.2.2.1,()),((),(),(),()),((),(),(),()),(k.2.2.2.2.2.2.2.1,()),(r.2,()),k.2.2.2.2.2.2.2.2.1,k.2.2.2.2.2.2.2.2.2.1,k.2.2.2.2.2.2.2.2.2.2.1,k.2.2.2.2.2.2.2.2.2.2.2,()))
def Is(k:Int×Int×Y1×Y2×Int×Y1×Ll)(v:Int×Int):Tr (jI⊕Int):=.t (v.1<k.2.1) (.c _ (aHX (k.1,v.1,k.2.1,v.1,k.1,k.2.2.1,k.2.2.2.1,k.2.2.2.2.1,k.2.2.2.2.2.1,k.2.2.2.2.2.2.1,k.2.2.2.2.2.2.2.1,k.2.2.2.2.2.2.2.2) (0,0,v.2)) λa=>.t (0<a.1) (.g (aC v.1 (length k.2.2.2.2.2.2.2.1))<|.g ((toNat v.1)<length k.2.2.2.2.2.2.2.1)<|.t ((getD k.2.2.2.2.2.2.2.1 (toNat v.1) 0)<(0:Int)) (.g (aC v.1 (length k.2.2.1))<|.g (aC v.1 (length k.2.2.2.2.2.1))<|.g ((toNat v.1)<length k.2.2.2.2.2.1)<|.g (!decide (a.1=0))<|.c _ (LJ (wrap .i64 (k.2.2.2.2.1+(wrap .i64 (Int.tdiv (wrap .i64 ((wrap .i64 ((wrap .i64 ((wrap .i64 ((getD k.2.2.1 (toNat v.1) 0)*(2520:Int))) -(getD k.2.2.2.2.2.1 (toNat v.1) 0)))+a.1)) -1)) a.1)))) k.2.2.2.2.1 a.2) λb=>.l (.inl ((wrap .i64 (v.1+1)),b))) (.l (.inl ((wrap .i64 (v.1+1)),a.2)))) (.l (.inl ((wrap .i64 (v.1+1)),a.2)))) (.l (.inr v.2))
def aGC k v:=aB (λv=>(Is k v).ev) v
abbrev RT:Keep:=yk [] [1,2,3,4,5,6,15] (yj [.box 1 0,.box 2 0,.dat yi,.box 4 0,.fn 250 (yj [.box 1 0]),.box 6 0,.box 15 0]) [jY,HM,BV,(6,.cells fK),(15,.cells fK),(25,.arr 3 yi),(1920,.arr 3 yi),Nt]
def aMM:LD:=yl (Is) (yk [] [1,2,3,4,5,6,15,16,17,159,160] (yj [.box 1 0,.box 2 0,.dat yi,.box 4 0,.fn 250 (yj [.box 1 0]),.box 6 0,.box 15 0,.fn 251 (yj [.box 6 0,.box 15 0]),.arr 9984,.dat yi,.dat yi]) [jY,HM,BV,(6,.cells fK),(15,.cells fK),(9984,.arr 3 yi),(25,.arr 3 yi),(1920,.arr 3 yi),Nt]) [(10,RT)] aE (λk v=>(((),(),k.1,(),((),()),(),(),((),(),()),(),k.2.1,v.1,()),(k.2.2.1,k.2.2.2.1,()),((),(),(),()),((),(),(),()),(k.2.2.2.2.1,()),(v.2,()),k.2.2.2.2.2.1,k.2.2.2.2.2.2.1,k.2.2.2.2.2.2.2.1,k.2.2.2.2.2.2.2.2,())) (λt=>(t.1.2.2.1,t.1.2.2.2.2.2.2.2.2.2.1,t.2.1.1,t.2.1.2.1,t.2.2.2.2.1.1,t.2.2.2.2.2.2.1,t.2.2.2.2.2.2.2.1,t.2.2.2.2.2.2.2.2.1,t.2.2.2.2.2.2.2.2.2.1)) (λt=>(t.1.2.2.2.2.2.2.2.2.2.2.1,t.2.2.2.2.2.1.1)) (λk r=>yx 10 RT (((),(),k.1,(),((),()),(),(),()),(k.2.2.1,k.2.2.2.1,()),((),(),(),()),((),(),(),()),(k.2.2.2.2.1,()),(r,()),k.2.2.2.2.2.2.1,k.2.2.2.2.2.2.2.1,k.2.2.2.2.2.2.2.2,()))
def Bi(k:Int×Y1×Y2)(v:Int×Ll):Tr ((Int×Ll)⊕Ll):=.c _ (aIo (k.1,k.1,k.2.1,k.2.2,v.1,v.2.2.1,v.2.2.2) (0,v.2.1)) λa=>.c _ (Jt k.2.1 k.2.2 a 2520) λf=>.c _ (aHI (k.1,(length f:Int),k.2.1,k.2.2,v.1,f,a,v.2.2.2) (0,v.2.2.1)) λb=>.c _ (aKS (k.1,k.1,k.2.1,k.2.2,v.1,a,b) (false,0,v.2.2.2)) λe=>.t (!e.1) (.l (.inr (a,b,e.2))) (.c _ (Jt k.2.1 k.2.2 a 2520) λh=>.c _ (aGC (k.1,(length k.2.1:Int),k.2.1,k.2.2,v.1,h,a,b,e.2) (0,(-1))) λg=>.l (.inl (g,a,b,e.2)))
def HJ k v:=aB (λv=>(Bi k v).ev) v
abbrev RD:Keep:=yk [] [2] (yj [.box 2 0]) [(2,.cells (yj [.arr 25,.arr 1920,.arr 2112])),(25,.arr 3 yi),(1920,.arr 3 yi),Nt]
abbrev WH{a b c d e g h i:Type}(t:(a×b×c×d)×(e×g×h)×i):=(t.1.2.2.1,t.2.1.1,t.2.1.2.1)
def aMw:LD:=yl (Bi) Be [] RD (λk v=>(((),(),k.1,(),((),()),(),()),(k.2.1,k.2.2,()),((),(),(),()),((),(),(),()),(v.1,()),v.2.1,v.2.2.1,v.2.2.2,())) WH (λt=>(t.2.2.2.2.1.1,t.2.2.2.2.2.1,t.2.2.2.2.2.2.1,t.2.2.2.2.2.2.2.1)) (λ_ r=>yz RD (((),()),((),(),(),()),r.1,r.2.1,r.2.2,()))
def NC(e:Y1)(a:List Y1):Tr Ll:=.g (((0:Int)<=(length a:Int))&&((length a:Int)<=(length a:Int))&&(((8:Nat):Int)*(length a:Int)<=281474976710656))<|.c _ (Vg ([(-1)]:Y1) (length e:Int)) λh=>.c _ (Vg ([(-1)]:Y1) (length a:Int)) λf=>.c _ (HJ ((length a:Int),e,a) (0,(List.replicate (toNat (length a:Int)) 0),h,f)) λb=>.l (b.1,b.2.1,b.2.2)
def Cd b a:=(NC b a).ev
def aSZ:FP prog:=aH cx func180 [aQr,aII,aSE,aQR] (yj [.agg Zv]) [] [] (jZ NC) ⟨[.ren 25 1,.ren 1920 3,.ren 2112 4],[.cell 2 182],(yj [.agg (yj [.arr 1,.arr 3,.arr 4])]),[(1,.arr 3 yi),(3,.arr 3 yi),(4,.arr 3 yi)],[],[]⟩ (λr=>((((),(),(),()),()),r.1,r.2.1,r.2.2,())) (E6 [(52,[(0,[5000006])])]) [(2,aLZ),(4,aPm),(8,aRI),(6,aTM),(12,aPg),(10,aMM),(0,aMw)]
def Ix(k:Int×Int×SY×Int)(v:Int×Y1):Tr (gR⊕Y1):=.t (k.1<v.1) (.g (aC v.1 (length v.2))<|.g ((toNat v.1)<length v.2)<|.g (aC (wrap .i64 (v.1-1)) (length v.2))<|.g ((toNat (wrap .i64 (v.1-1)))<length v.2)<|.c _ (k.2.2.1 ((getD v.2 (toNat v.1) 0),(getD v.2 (toNat (wrap .i64 (v.1-1))) 0),())) λa=>.t (a<0) (.g (aC (wrap .i64 (v.1-1)) (length v.2))<|.g ((toNat (wrap .i64 (v.1-1)))<length v.2)<|.g (aC v.1 (length v.2))<|.g ((toNat v.1)<length v.2)<|.g (aC v.1 (length v.2))<|.g ((toNat v.1)<length v.2)<|.g (aC (wrap .i64 (v.1-1)) (length (set v.2 (toNat v.1) (getD v.2 (toNat (wrap .i64 (v.1-1))) 0))))<|.g ((toNat (wrap .i64 (v.1-1)))<length (set v.2 (toNat v.1) (getD v.2 (toNat (wrap .i64 (v.1-1))) 0)))<|.l (.inl ((wrap .i64 (v.1-1)),(set (set v.2 (toNat v.1) (getD v.2 (toNat (wrap .i64 (v.1-1))) 0)) (toNat (wrap .i64 (v.1-1))) (getD v.2 (toNat v.1) 0))))) (.l (.inr v.2))) (.l (.inr v.2))
def CM k v:=aB (λv=>(Ix k v).ev) v
abbrev FR:Keep:=yk [] [0,1,2,3,8] (yj [.arr 64,.dat yi,.dat yi,.clo [yi,yi] yi,.dat yi]) [xS]
def aRi:LD:=yl (Ix) (yk [] [0,1,2,3,8,9] (yj [.arr 64,.dat yi,.dat yi,.clo [yi,yi] yi,.dat yi,.dat yi]) [xS]) [(2,FR)] aE VM RK FV (λk r=>yx 2 FR (((),k.1,k.2.1,k.2.2.1,k.2.2.2,()),r,()))
def BA(k:Int×Int×SY)(v:Int×Y1):Tr (gR⊕Y1):=.t (v.1<k.2.1) (.c _ (CM (k.1,k.2.1,k.2.2,v.1) (v.1,v.2)) λa=>.l (.inl ((wrap .i64 (v.1+1)),a))) (.l (.inr v.2))
def aHs k v:=aB (λv=>(BA k v).ev) v
abbrev yH:Keep:=yk [] [0] (yj [.arr 64]) [xS]
def aPW:LD:=yl (BA) FR [(0,yH)] aE Xu Of CB (λ_ r=>yx 0 yH (((),()),r,()))
def XB(a f:Int)(b:SY)(g:Y1):Tr Y1:=.c _ (aHs (a,f,b) ((wrap .i64 (a+1)),g)) λe=>.l e
def OM c b a e:=(XB c b a e).ev
abbrev J1:RetK:=⟨[],[],.nil,[xS],[(0,0,64)],[]⟩
def aPJ:FP prog:=aH cx func292 [] (yj [.arr 64,.dat yi,.dat yi,.clo [yi,yi] yi]) [xS] [.arg 0] (Nd XB) J1 tS bU [(2,aRi),(0,aPW)]
def aBf(k:Int×SY×Int)(v:Int×gR):Tr ((Int×gR)⊕gR):=.t (v.2.1<=k.1) (.c _ (OM v.1 v.2.1 k.2.1 v.2.2) λa=>.l (.inl (v.2.1,(wrap .i64 (v.2.1+k.2.2)),a))) (.l (.inr (v.1,v.2.2)))
def aCH k v:=aB (λv=>(aBf k v).ev) v
abbrev RV:Keep:=yk [] [0,1,2,6,7,8] (yj [.arr 64,.dat yi,.clo [yi,yi] yi,.dat yi,.dat yi,.dat yi]) [xS]
abbrev My:Keep:=yk [] [0,1,2,6,7] (yj [.arr 64,.dat yi,.clo [yi,yi] yi,.dat yi,.dat yi]) [xS]
def aNN:LD:=yl (aBf) RV [(0,My)] aE (λk v=>(((),k.1,k.2.1,k.2.2,v.1,v.2.1,()),v.2.2,())) Of (λt=>(t.1.2.2.2.2.1,t.1.2.2.2.2.2.1,t.2.1)) (λk r=>yx 0 My (((),k.1,k.2.1,k.2.2,r.1,()),r.2,()))
def aJj(k:Int×SY×Int×Int×gR)(_v:Unit):Tr (Unit⊕Unit):=.t (k.2.2.2.2.1<=k.1) (.f) (.l (.inr ()))
def aNr k v:=aB (λv=>(aJj k v).ev) v
abbrev WA{a b c d e g h:Type}(k:a×b×c×d×e×g)(_v:h):=(((),k.1,k.2.1,k.2.2.1,k.2.2.2.1,k.2.2.2.2.1,()),k.2.2.2.2.2,())
abbrev SA{a b c d e g h i j:Type}(t:(a×b×c×d×e×g×h)×i×j):=(t.1.2.1,t.1.2.2.1,t.1.2.2.2.1,t.1.2.2.2.2.1,t.1.2.2.2.2.2.1,t.2.1)
abbrev RA{a:Type}(_t:a):=()
def aSO:LD:=yl (aJj) RV [(4,My)] aE WA SA RA (λk _=>yx 4 My (((),k.1,k.2.1,k.2.2.1,k.2.2.2.1,()),k.2.2.2.2.2,()))
def WT(k:Int×SY×Y1)(v:Int):Tr (Int⊕Unit):=.t (v<k.1) (.c _ (aNr (k.1,k.2.1,v,0,(wrap .i64 ((2:Int)*v)),k.2.2) ()) λ_=>.t ((wrap .i64 ((0:Int)+v))<k.1) (.f) (.l (.inl (wrap .i64 (v*(2:Int)))))) (.l (.inr ()))
def YE k v:=aB (λv=>(WT k v).ev) v
def aTo:LD:=yl (WT) (yk [] [0,1,2,6] (yj [.arr 64,.dat yi,.clo [yi,yi] yi,.dat yi]) [xS]) [(2,yH)] aE (λk v=>(((),k.1,k.2.1,v,()),k.2.2,())) (λt=>(t.1.2.1,t.1.2.2.1,t.2.1)) rQ (λk _=>yx 2 yH (((),()),k.2.2,()))
def aDf(a:Int)(b:SY)(g:Y1):Tr Y1:=.c _ (aCH (a,b,20) (0,20,g)) λe=>.c _ (OM e.1 a b e.2) λf=>.c _ (YE (a,b,f) 20) λ_=>.l f
def aJR b a c:=(aDf b a c).ev
abbrev TL{a b c d e g:Type}{z:Type _}(f:b->c->e->z)(x:(a×b×c×d)×e×g):z:=f x.1.2.1 x.1.2.2.1 x.2.1
def aMN:FP prog:=aH cx func252 [aPJ] (yj [.arr 64,.dat yi,.clo [yi,yi] yi]) [xS] [.arg 0] (TL aDf) J1 tS bU [(0,aNN),(4,aSO),(2,aTo)]
def aAk(b:SY)(a:Y1):Tr Y1:=.c _ (aJR (length a:Int) b a) λe=>.l e
def ZE a b:=(aAk a b).ev
def aIW:FP prog:=aH cx func181 [aMN] (yj [.arr 64,.clo [yi,yi] yi]) [xS] [.arg 0] (Mi aAk) J1 tS
def aFd(e b:Int)(_i a _h:Y1):Tr Int:=.g (aC e (length a))<|.g (aC b (length a))<|.c _ (Ih (getD a (toNat e) 0) (getD a (toNat b) 0)) λf=>.l f
def LE f b e a c:=(aFd f b e a c).ev
def aSH:FP prog:=aH cx func182 [aAG] (yj [.dat yi,.dat yi,.ptr (yj [.dat y1,.dat y1,.dat y1])]) [] [] ((λf x=>f x.1.1 x.1.2.1 x.1.2.2.1.1 x.1.2.2.1.2.1 x.1.2.2.1.2.2.1) aFd) SJ bN
def Kz(k:Int×Int×Y2×Int×Ll)(v:Int):Tr (Int⊕(Unit⊕Unit)):=.t (v<k.2.2.2.1) (.g (aC v (length k.2.2.1))<|.g (aC v (length k.2.2.2.2.1))<|.g (aC k.1 (length (getD k.2.2.1 (toNat v) [])))<|.t ((wrap .i64 ((getD (getD k.2.2.1 (toNat v) []) (toNat k.1) 0)*(2520:Int)))<(getD k.2.2.2.2.1 (toNat v) 0)) (.g (aC v (length k.2.2.2.2.1))<|.g (aC k.2.1 (length (getD k.2.2.1 (toNat v) [])))<|.t ((wrap .i64 ((getD (getD k.2.2.1 (toNat v) []) (toNat k.2.1) 0)*(2520:Int)))<(getD k.2.2.2.2.1 (toNat v) 0)) (.l (.inr (.inr ()))) (.l (.inl (wrap .i64 (v+1))))) (.l (.inl (wrap .i64 (v+1))))) (.l (.inr (.inl ())))
def aLE k v:=aB (λv=>(Kz k v).ev) v
def aRZ:LD:=yl (Kz) (yk [] [2,3,5,12,13,14] (yj [.dat yi,.dat yi,.box 5 0,.dat y2,.dat yi,.dat yi]) [(5,.cells (yj [.dat y1,.dat y1,.dat y1]))]) [(0,aE)] O6 (λk v=>((k.1,k.2.1,(),k.2.2.1,k.2.2.2.1,v,()),(k.2.2.2.2.1,k.2.2.2.2.2.1,k.2.2.2.2.2.2,()),())) (λt=>(t.1.1,t.1.2.1,t.1.2.2.2.1,t.1.2.2.2.2.1,t.2.1.1,t.2.1.2.1,t.2.1.2.2.1)) (λt=>t.1.2.2.2.2.2.1) (λ_ r=>.s _ _ r (λ_=>yx 0 aE ((),())) (λ_=>yz O6 ((true,()),())))
def aDl(_j:Y1)(a:List Y1)(h e f:Y1)(g b:Int):Tr Bool:=.c _ (aLE (g,b,a,(length a:Int),h,e,f) 0) λi=>.s _ _ i (λ_=>.l false) (λ_=>.l true)
def aAl h c g b e f a:=(aDl h c g b e f a).ev
def aNp:FP prog:=aH cx func185 [] (yj [.agg Zv,.agg (yj [.dat y1,.dat y1,.dat y1]),.dat yi,.dat yi]) [] [] ((λf x=>f x.1.1.1 x.1.1.2.1 x.1.2.1.1 x.1.2.1.2.1 x.1.2.1.2.2.1 x.1.2.2.1 x.1.2.2.2.1) aDl) Wd bN bU [(0,aRZ)]
def aEf(j:Int)(b:Y1)(h:List Y1)(e f g:Y1)(a:Int):Tr Bool:=.c _ (aAl b h e f g a j) λi=>.l i
def MK h c g b e f a:=(aEf h c g b e f a).ev
def aTV:FP prog:=aH cx func184 [aNp] (yj [.dat yi,.ptr Zv,.ptr (yj [.dat y1,.dat y1,.dat y1]),.ptr fK]) [] [] ((λf x=>f x.1.1 x.1.2.1.1 x.1.2.1.2.1 x.1.2.2.1.1 x.1.2.2.1.2.1 x.1.2.2.1.2.2.1 x.1.2.2.2.1.1) aEf) (yr [.tmp 5] Pz) bN
def ZO(b a:Int):Tr Bool:=.c _ (T9 b) λf=>.t f (.c _ (T9 a) λe=>.t (!e) (.l true) (.l (b<a))) (.l (b<a))
def aCn b a:=(ZO b a).ev
def aPY:FP prog:=aH cx func300 [aLR] (yj [.dat yi,.dat yi]) [] [] (dG ZO) dC bN
def Hm(k:Int×jI)(v:Int×Y1):Tr (gR⊕Y1):=.t (k.1<v.1) (.g (aC v.1 (length v.2))<|.g ((toNat v.1)<length v.2)<|.g (aC (wrap .i64 (v.1-1)) (length v.2))<|.g ((toNat (wrap .i64 (v.1-1)))<length v.2)<|.c _ (aCn (getD v.2 (toNat v.1) 0) (getD v.2 (toNat (wrap .i64 (v.1-1))) 0)) λa=>.t a (.g (aC (wrap .i64 (v.1-1)) (length v.2))<|.g ((toNat (wrap .i64 (v.1-1)))<length v.2)<|.g (aC v.1 (length v.2))<|.g ((toNat v.1)<length v.2)<|.g (aC v.1 (length v.2))<|.g ((toNat v.1)<length v.2)<|.g (aC (wrap .i64 (v.1-1)) (length (set v.2 (toNat v.1) (getD v.2 (toNat (wrap .i64 (v.1-1))) 0))))<|.g ((toNat (wrap .i64 (v.1-1)))<length (set v.2 (toNat v.1) (getD v.2 (toNat (wrap .i64 (v.1-1))) 0)))<|.l (.inl ((wrap .i64 (v.1-1)),(set (set v.2 (toNat v.1) (getD v.2 (toNat (wrap .i64 (v.1-1))) 0)) (toNat (wrap .i64 (v.1-1))) (getD v.2 (toNat v.1) 0))))) (.l (.inr v.2))) (.l (.inr v.2))
def HY k v:=aB (λv=>(Hm k v).ev) v
abbrev EF:Keep:=yk [] [0,1,2,6] (yj [.arr 64,.dat yi,.dat yi,.dat yi]) [xS]
def aQp:LD:=yl (Hm) (yk [] [0,1,2,6,7] (yj [.arr 64,.dat yi,.dat yi,.dat yi,.dat yi]) [xS]) [(2,EF)] aE Xu Of CB (λk r=>yx 2 EF (((),k.1,k.2.1,k.2.2,()),r,()))
def BQ(k:Int×Int)(v:Int×Y1):Tr (gR⊕Y1):=.t (v.1<k.2) (.c _ (HY (k.1,k.2,v.1) (v.1,v.2)) λa=>.l (.inl ((wrap .i64 (v.1+1)),a))) (.l (.inr v.2))
def aKf k v:=aB (λv=>(BQ k v).ev) v
def aRl:LD:=yl (BQ) EF [(0,yH)] aE Nn iV u7 (λ_ r=>yx 0 yH (((),()),r,()))
def aDc(a b:Int)(f:Y1):Tr Y1:=.c _ (aKf (a,b) ((wrap .i64 (a+1)),f)) λe=>.l e
def aAO b a c:=(aDc b a c).ev
def aPs:FP prog:=aH cx func294 [aPY] (yj [.arr 64,.dat yi,.dat yi]) [xS] [.arg 0] (TL aDc) J1 tS bU [(2,aQp),(0,aRl)]
def aFv(k:Int×Int×Int×Bool×D9)(_v:Unit):Tr (Unit⊕Y1):=.t ((wrap .i64 (k.2.1-k.1))<=(12:Int)) (.c _ (aAO k.1 k.2.1 k.2.2.2.2.2) λa=>.l (.inr a)) (.t (k.2.2.1==0) (.f) (.g (!k.2.2.2.1)<|.f))
def aGh k v:=aB (λv=>(aFv k v).ev) v
def aTf:LD:=yl (aFv) (yk [] [0,1,2,3,8,9] (yj [.arr 64,.dat yi,.dat yi,.dat yi,.dat .bool,.dat .bool]) [xS]) [] yH WA SA RA (λ_ r=>yz yH (((),()),r,()))
def YF(e f b:Int)(g:Y1):Tr Y1:=.c _ (aGh (e,f,b,true,true,g) ()) λa=>.l a
def aIw c b a e:=(YF c b a e).ev
def aSn:FP prog:=aH cx func254 [aPs] (yj [.arr 64,.dat yi,.dat yi,.dat yi]) [xS] [.arg 0] (Nd YF) J1 tS bU [(0,aTf)]
def aAt(a:Y1):Tr Y1:=.c _ (PL (wrap .u64 (length a:Int))) λe=>.c _ (aIw 0 (length a:Int) e a) λb=>.l b
def XA a:=(aAt a).ev
def aMY:FP prog:=aH cx func186 [aCm,aSn] (yj [.arr 64]) [xS] [.arg 0] ((λf x=>f x.2.1) aAt) J1 tS
def Re(k:Int×Y1×Y2×Ll)(v:Int×Y1):Tr (gR⊕Y1):=.t (v.1<k.1) (.g (aC v.1 (length k.2.2.2.1))<|.g ((toNat v.1)<length k.2.2.2.1)<|.t ((0:Int)<=(getD k.2.2.2.1 (toNat v.1) 0)) (.g ((length v.2+length ([v.1]:Y1))*8<=140737488355328)<|.l (.inl ((wrap .i64 (v.1+1)),(v.2++([v.1]:Y1))))) (.l (.inl ((wrap .i64 (v.1+1)),v.2)))) (.l (.inr v.2))
def aCl k v:=aB (λv=>(Re k v).ev) v
abbrev RB:Keep:=yk [] [1,4,5] (yj [.box 1 0,.box 4 0,.arr 23]) [jY,(4,.cells (yj [.arr 1409,.arr 1411,.arr 1412])),(23,.arr 3 yi),(1409,.arr 3 yi),(1411,.arr 3 yi),(1412,.arr 3 yi)]
abbrev TO{a b c d e g h i j l m:Type}(t:(a×b×c×d×e×g×h)×i×j×l×m):=(t.1.2.2.2.2.2.1,t.2.2.2.1)
def aNm:LD:=yl (Re) (yk [] [1,4,5,25,26,27] (yj [.box 1 0,.box 4 0,.arr 23,.arr 1411,.dat yi,.dat yi]) [jY,(4,.cells (yj [.arr 1409,.arr 1411,.arr 1412])),(23,.arr 3 yi),(1411,.arr 3 yi),(1409,.arr 3 yi),(1412,.arr 3 yi)]) [(0,RB)] aE (λk v=>(((),(),(),(),k.1,v.1,()),(k.2.1,k.2.2.1,()),((),(),(),()),v.2,k.2.2.2.1,k.2.2.2.2.1,k.2.2.2.2.2,())) (λt=>(t.1.2.2.2.2.1,t.2.1.1,t.2.1.2.1,t.2.2.2.2.1,t.2.2.2.2.2.1,t.2.2.2.2.2.2.1)) TO (λk r=>yx 0 RB (((),(),(),()),(k.2.1,k.2.2.1,()),((),(),(),()),r,k.2.2.2.2.1,k.2.2.2.1,k.2.2.2.2.2,()))
def Sn(k:Int×Y1×Y2×Y1×Ll)(v:Int×Y1):Tr (gR⊕Y1):=.t (v.1<k.1) (.g (aC v.1 (length k.2.2.2.1))<|.g ((toNat v.1)<length k.2.2.2.1)<|.c _ (JM v.2 (λa=>Option.bind (MK a.1 k.2.1 k.2.2.1 k.2.2.2.2.1 k.2.2.2.2.2.1 k.2.2.2.2.2.2 (getD k.2.2.2.1 (toNat v.1) 0)) λb=>some b)) λe=>.t (!e) (.g ((length v.2+length ([(getD k.2.2.2.1 (toNat v.1) 0)]:Y1))*8<=140737488355328)<|.l (.inl ((wrap .i64 (v.1+1)),(v.2++([(getD k.2.2.2.1 (toNat v.1) 0)]:Y1))))) (.l (.inl ((wrap .i64 (v.1+1)),v.2)))) (.l (.inr v.2))
def aGO k v:=aB (λv=>(Sn k v).ev) v
abbrev SC:Keep:=yk [] [8] (yj [.arr 42]) [(42,.arr 3 yi)]
def aRG:LD:=yl (Sn) (yk [] [1,4,8,43,44,45] (yj [.box 1 0,.box 4 0,.arr 42,.arr 23,.dat yi,.dat yi]) [jY,(4,.cells (yj [.arr 1409,.arr 1411,.arr 1412])),(42,.arr 3 yi),(23,.arr 3 yi),(1409,.arr 3 yi),(1411,.arr 3 yi),(1412,.arr 3 yi)]) [(2,SC)] aE (λk v=>(((),(),(),(),k.1,v.1,()),(k.2.1,k.2.2.1,()),((),(),(),()),v.2,k.2.2.2.1,k.2.2.2.2.1,k.2.2.2.2.2.1,k.2.2.2.2.2.2,())) (λt=>(t.1.2.2.2.2.1,t.2.1.1,t.2.1.2.1,t.2.2.2.2.1,t.2.2.2.2.2.1,t.2.2.2.2.2.2.1,t.2.2.2.2.2.2.2.1)) TO (λ_ r=>yx 2 SC (((),()),r,()))
def OA(e:Y1)(b:List Y1):Tr D9:=.c _ (uR e b) λn=>.t (!n) (.l (false,[])) (.t ((length b:Int)==(0:Int)) (.c _ (aFf e b) λh=>.l (true,([h]:Y1))) (.c _ (Cd e b) λa=>.c _ (aCl ((length a.2.1:Int),e,b,a.2.1,a.1,a.2.2) (0,[])) λi=>.c _ (ZE (λf=>Option.bind (LE f.1 f.2.1 a.1 a.2.1 a.2.2) λo=>some o) i) λg=>.c _ (aGO ((length g:Int),e,b,g,a.1,a.2.1,a.2.2) (0,[])) λj=>.c _ (XA j) λm=>.l (true,m)))
def Sw b a:=(OA b a).ev
def aRs:FP prog:=aH cx func119 [H6,aTd,aSZ,aIW,NE,aMY,NE,aTV,aIW,aSH] (yj [.agg Zv]) [] [] (jZ OA) ⟨[.own 2 0 3 yi,.ren 20 0,.ren 42 0],[.tmp 2,.tmp 3],Dq,[tP],[],[]⟩ gN bU [(0,aNm),(2,aRG)]
def aAX(e:Y1)(a:List Y1)(b:Y1):Tr (Bool×Bool):=.c _ (Ff e a b) λg=>.t (!g) (.l (false,false)) (.c _ (MP e a b) λf=>.l ((!f.1),true))
def aEa c b a:=(aAX c b a).ev
def aPf:FP prog:=aH cx func120 [Qw,aLd] (yj [.agg Zv,.dat y1]) [] [] (bF aAX) QH dO
def BY(k:Int×Int×Y2×Int)(v:Int×Int):Tr (jI⊕Int):=.t (v.2<k.2.2.2) (.g (aC v.2 (length k.2.2.1))<|.g (aC k.1 (length (getD k.2.2.1 (toNat v.2) [])))<|.g (aC k.2.1 (length (getD k.2.2.1 (toNat v.2) [])))<|.t ((getD (getD k.2.2.1 (toNat v.2) []) (toNat k.1) 0)<(getD (getD k.2.2.1 (toNat v.2) []) (toNat k.2.1) 0)) (.l (.inl ((wrap .i64 (v.1+1)),(wrap .i64 (v.2+1))))) (.l (.inl (v.1,(wrap .i64 (v.2+1)))))) (.l (.inr v.1))
def aJv k v:=aB (λv=>(BY k v).ev) v
def aRj:LD:=yl (BY) (yh [1,2,7,11,12,13] (yj [.dat yi,.dat yi,.dat yi,.dat y2,.dat yi,.dat yi])) [(0,rY)] aE (λk v=>((k.1,k.2.1,v.1,k.2.2.1,k.2.2.2,v.2,()),())) UJ DW (λ_ r=>yx 0 rY ((r,()),()))
def aAs(_g:Y1)(a:List Y1)(f e:Int):Tr Int:=.c _ (aJv (f,e,a,(length a:Int)) (0,0)) λb=>.l b
def NF e c b a:=(aAs e c b a).ev
def aTy:FP prog:=aH cx func188 [] (yj [.agg Zv,.dat yi,.dat yi]) [] [] (vO aAs) j9 bN bU [(0,aRj)]
def Wq(k:Int×Int×Int×Int×Oc)(v:Bool×Int):Tr ((Bool×Int)⊕Bool):=.t (v.2<k.2.2.2.1) (.t v.1 (.l (.inl (true,(wrap .i64 (v.2+1))))) (.c _ (NF k.2.2.2.2.1 k.2.2.2.2.2.1 v.2 k.1) λa=>.c _ (NF k.2.2.2.2.1 k.2.2.2.2.2.1 k.1 v.2) λb=>.l (.inl ((b<a),(wrap .i64 (v.2+1)))))) (.l (.inr v.1))
def aIT k v:=aB (λv=>(Wq k v).ev) v
abbrev UF:Keep:=yk [] [1,4,5,6,14,15] (yj [.box 1 0,.arr 11,.dat yi,.dat .bool,.dat yi,.dat yi]) [jY,(11,.arr 3 yi)]
def aNx:LD:=yl (Wq) (yk [] [1,4,5,6,14,15,20,21] (yj [.box 1 0,.arr 11,.dat yi,.dat .bool,.dat yi,.dat yi,.dat yi,.dat yi]) [jY,(11,.arr 3 yi)]) [(2,UF)] aE (λk v=>(((),(),k.1,v.1,k.2.1,k.2.2.1,k.2.2.2.1,v.2,()),(k.2.2.2.2.1,k.2.2.2.2.2.1,()),k.2.2.2.2.2.2,())) (λt=>(t.1.2.2.1,t.1.2.2.2.2.1,t.1.2.2.2.2.2.1,t.1.2.2.2.2.2.2.1,t.2.1.1,t.2.1.2.1,t.2.2.1)) (λt=>(t.1.2.2.2.1,t.1.2.2.2.2.2.2.2.1)) (λk r=>yx 2 UF (((),(),k.1,r,k.2.1,k.2.2.1,()),(k.2.2.2.2.1,k.2.2.2.2.2.1,()),k.2.2.2.2.2.2,()))
def BG(k:Int×Y1×Y2)(v:Int×Y1):Tr (gR⊕Y1):=.t (v.1<k.1) (.c _ (aIT (v.1,k.1,v.1,(length k.2.1:Int),k.2.1,k.2.2,v.2) (false,0)) λa=>.t (!a) (.g ((length v.2+length ([v.1]:Y1))*8<=140737488355328)<|.l (.inl ((wrap .i64 (v.1+1)),(v.2++([v.1]:Y1))))) (.l (.inl ((wrap .i64 (v.1+1)),v.2)))) (.l (.inr v.2))
def aLv k v:=aB (λv=>(BG k v).ev) v
abbrev VZ:Keep:=yk [] [4] (yj [.arr 11]) [(11,.arr 3 yi)]
def aPA:LD:=yl (BG) (yk [] [1,4,14,15] (yj [.box 1 0,.arr 11,.dat yi,.dat yi]) [jY,(11,.arr 3 yi)]) [(0,VZ)] aE (λk v=>(((),(),k.1,v.1,()),(k.2.1,k.2.2,()),v.2,())) WH UU (λ_ r=>yx 0 VZ (((),()),r,()))
def YB(a:Y1)(b:List Y1):Tr D9:=.c _ (uR a b) λf=>.t (!f) (.l (false,[])) (.c _ (aLv ((length a:Int),a,b) (0,[])) λe=>.l (true,e))
def aBi b a:=(YB b a).ev
def aNU:FP prog:=aH cx func121 [H6,aTy] (yj [.agg Zv]) [] [] (jZ YB) ⟨[.own 2 0 3 yi,.ren 11 0],[.tmp 2,.tmp 3],Dq,[tP],[],[]⟩ gN bU [(2,aNx),(0,aPA)]
noncomputable abbrev tB(p1:Y1)(p2:Bool):=(.c _ (CT p1 p2) λa=>.l (a.1,a.2):Tr Lp)
noncomputable abbrev Yi(p1:Y1)(p2:List UInt8)(p3:Y1)(p4:List Y1)(p5:Y1)(p6:Int):=(.t ((0:Int)<(length p1:Int)) (.l ([],false)) (.t (p2==([116,111,116,97,108]:List UInt8)) (.c _ (OW p3 p4 p5 p6) λa=>.c _ (Jz a.1 a.2) λf=>.l (f.1,f.2)) (.t (p2==([103,97,112]:List UInt8)) (.c _ (aFL p3 p4 p5 p6) λg=>.c _ (Jz g.1 g.2) λw=>.l (w.1,w.2)) (.t (p2==([115,101,114,118,105,99,101]:List UInt8)) (.c _ (XE p3 p4 p5) λs=>.c _ (Jz s.1 s.2) λb=>.l (b.1,b.2)) (.t (p2==([114,101,97,99,104]:List UInt8)) (.c _ (aAg p3 p4 p5) λo=>.c _ (Jz o.1 o.2) λq=>.l (q.1,q.2)) (.t (p2==([115,101,114,118,101,100]:List UInt8)) (.c _ (aDR p3 p4 p5) λh=>tB h.2 h.1) (.t (p2==([109,101,116,114,105,99]:List UInt8)) (.c _ (PV p3 p4) λn=>.c _ (aDi n.1 n.2) λm=>.l (m.1,m.2)) (.t (p2==([102,105,101,108,100]:List UInt8)) (.c _ (PW p3 p4) λi=>.l (i.1,i.2)) (.t (p2==([112,114,105,99,101,115]:List UInt8)) (.c _ (MU p3 p4) λp=>tB p.2 p.1) (.t (p2==([103,114,111,119,116,104]:List UInt8)) (.c _ (Sw p3 p4) λr=>tB r.2 r.1) (.t (p2==([108,111,99,97,108]:List UInt8)) (.c _ (aEa p3 p4 p5) λe=>.c _ (aDi e.1 e.2) λu=>.l (u.1,u.2)) (.t (p2==([117,110,98,101,97,116,101,110]:List UInt8)) (.c _ (aBi p3 p4) λj=>tB j.2 j.1) (.l ([],false))))))))))))):Tr Lp)
def Xp(f:Y1)(b:List Y1)(l:Y1)(i:Int)(e:List UInt8)(a:Y1):Tr Lp:=.t ((length a:Int)==(1:Int)) (.t (e==([109,101,100,105,97,110]:List UInt8)) (.g (aC 0 (length a))<|.c _ (OO f b (getD a (toNat 0) 0)) λm=>tB m.2 m.1) (.t (e==([99,101,110,116,114,101,115]:List UInt8)) (.g (aC 0 (length a))<|.c _ (GC f b (getD a (toNat 0) 0)) λh=>tB h.2 h.1) (.t (e==([102,97,114]:List UInt8)) (.g (aC 0 (length a))<|.c _ (aGj f b (getD a (toNat 0) 0)) λj=>tB j.1 j.2) (Yi a e f b l i)))) (Yi a e f b l i)
def Bf g b f a c e:=(Xp g b f a c e).ev
def aQP:FP prog:=aH cx func71 [aMl,aTj,aMF,aQs,aLu,aPc,aQL,aOU,aRC,aOS,aOF,aTp,aRv,aLt,aRs,aPf,aNU] (yj [.agg oL,.dat .str,.dat y1]) [] [] (DB Xp) (yr [.tmp 6,.tmp 7] (yj [.dat .str,.dat .bool])) dO
def Pj(k:(List (List UInt8))×(List (List UInt8))×Int×Y1×Y2×b9)(v:Int×Y1):Tr (gR⊕(Y1⊕Unit)):=.t (v.1<k.2.2.1) (.g (aC v.1 (length k.2.1))<|.c _ (aDJ (getD k.2.1 (toNat v.1) [])) λa=>.t (!a.2) (.l (.inr (.inr ()))) (.g ((length v.2+length ([a.1]:Y1))*8<=140737488355328)<|.l (.inl ((wrap .i64 (v.1+1)),(v.2++([a.1]:Y1)))))) (.l (.inr (.inl v.2)))
def aLA k v:=aB (λv=>(Pj k v).ev) v
abbrev QM:Keep:=yk [] [2,4,7,8] (yj [.box 2 0,.box 4 0,.dat (.slice .str),.arr 18]) [(2,.cells oL),IZ,(18,.arr 3 yi)]
abbrev RO:Keep:=yk [] [4,5,6] (yj [.box 4 0,.dat .str,.dat .bool]) [(4,.cells oL)]
def aPC:LD:=yl (Pj) (yk [] [2,4,7,8,20,21,22] (yj [.box 2 0,.box 4 0,.dat (.slice .str),.arr 18,.dat (.slice .str),.dat yi,.dat yi]) [(2,.cells oL),IZ,(18,.arr 3 yi)]) [(0,QM)] RO (λk v=>(((),(),k.1,(),k.2.1,k.2.2.1,v.1,()),(k.2.2.2.1,k.2.2.2.2.1,k.2.2.2.2.2.1,k.2.2.2.2.2.2.1,()),((),(),(),k.2.2.2.2.2.2.2,()),v.2,())) (λt=>(t.1.2.2.1,t.1.2.2.2.2.1,t.1.2.2.2.2.2.1,t.2.1.1,t.2.1.2.1,t.2.1.2.2.1,t.2.1.2.2.2.1,t.2.2.1.2.2.2.1)) AH (λk r=>.s Y1 Unit r (λa=>yx 0 QM (((),(),k.1,(),()),(k.2.2.2.1,k.2.2.2.2.1,k.2.2.2.2.2.1,k.2.2.2.2.2.2.1,()),((),(),(),k.2.2.2.2.2.2.2,()),a,())) (λ_=>yz RO (((),[],false,()),(k.2.2.2.1,k.2.2.2.2.1,k.2.2.2.2.2.1,k.2.2.2.2.2.2.1,()),())))
def aCY(i:Y1)(e:List Y1)(h:Y1)(f:Int)(p:List UInt8):Tr (Y1×Y2×Y1×Int×Lp):=.c _ (P3 p ([32]:List UInt8)) λa=>.g (((0:Int)<=(1:Int))&&((1:Int)<=(length a:Int)))<|.c _ (aLA (a,(List.drop (toNat 1) (List.take (length a) a)),(length (List.drop (toNat 1) (List.take (length a) a)):Int),i,e,h,f,0) (0,[])) λo=>.s Y1 Unit o (λm=>.g (aC 0 (length a))<|.c _ (yW (getD a (toNat 0) [])) λn=>.t (0<n) (.c _ (Fq i e h f n m) λb=>.l (b.1,b.2.1,b.2.2.1,b.2.2.2.1,b.2.2.2.2.1,b.2.2.2.2.2)) (.g (aC 0 (length a))<|.c _ (Bf i e h f (getD a (toNat 0) []) m) λj=>.l (i,e,h,f,j.1,j.2))) (λ_=>.l (i,e,h,f,[],false))
def LF f b e a c:=(aCY f b e a c).ev
def aOL:FP prog:=aH cx func35 [aEz,aNg,aRT,aMB,aQP] (yj [.agg oL,.dat .str]) [] [] (O2 aCY) (yr [.cell 4 29,.tmp 5,.tmp 6] (yj [.agg oL,.dat .str,.dat .bool])) aKa (E6 [(3,[(1,[19])]),(13,[(3,[47])])]) [(0,aPC)]
def aEn(e b:List UInt8)(a:Int)(h i:List UInt8):Tr ((List UInt8)×(List UInt8)×jI):=.c _ (AF e b a) λm=>.t (!m) (.l (e,b,a,1)) (.c _ (BB h i) λj=>.t (!j) (.l (e,b,a,1)) (.t (a==60) (.l (e,b,a,2)) (.c _ (PY a h i) λf=>.g (length b+length f.1<=9223372036854775807)<|.l (e,(b++f.1),(wrap .i64 (a+1)),0))))
def Qy f b e a c:=(aEn f b e a c).ev
def aQJ:FP prog:=aH cx func36 [aCO,ZK,aHk] (yj [.agg Zcz,.agg Ue]) [] [] (VL aEn) VA UW
def Kr(q:Y1)(n:List Y1)(p:Y1)(o:Int)(f g:List UInt8)(e:Int)(h:List UInt8):Tr Ydi:=.c _ (Hh q n p o) λb=>.c _ (pS q n p o f g e) λr=>.t (!r) (.l (b.2.1,b.2.2.1,b.2.2.2,b.1,f,g,e,([110,111]:List UInt8))) (.c _ (BB h []) λs=>.t (!s) (.l (b.2.1,b.2.2.1,b.2.2.2,b.1,f,g,e,([98,97,100]:List UInt8))) (.t (e==60) (.l (b.2.1,b.2.2.1,b.2.2.2,b.1,f,g,e,([102,117,108,108]:List UInt8))) (.c _ (LF b.2.1 b.2.2.1 b.2.2.2 b.1 h) λa=>.t (!a.2.2.2.2.2) (.c _ (Qy f g e h ([63]:List UInt8)) λm=>.l (a.1,a.2.1,a.2.2.1,a.2.2.2.1,m.1,m.2.1,m.2.2.1,([63]:List UInt8))) (.t ((200:Int)<(length a.2.2.2.2.1:Int)) (.c _ (Qy f g e h ([108,111,110,103]:List UInt8)) λj=>.l (a.1,a.2.1,a.2.2.1,a.2.2.2.1,j.1,j.2.1,j.2.2.1,([108,111,110,103]:List UInt8))) (.c _ (Qy f g e h a.2.2.2.2.1) λi=>.l (a.1,a.2.1,a.2.2.1,a.2.2.2.1,i.1,i.2.1,i.2.2.1,a.2.2.2.2.1))))))
def yN i c h b e g a f:=(Kr i c h b e g a f).ev
def aKr:FP prog:=aH cx func12 [aAz,aFi,ZK,aOL,aQJ] (yj [.agg V2,.dat .str]) [] [] (Lm Kr) ⟨[.fz 771,.fz 772,.fz 773],[.cell 4 34,.tmp 5],(yj [.agg V2,.dat .str]),[],[],[]⟩ DZ (E6 [(8,[(3,[35])])])
def EJ(k:Y1×Y1)(v:Int):Tr (Int⊕(Unit⊕Unit)):=.t (v<(length k.1:Int)) (.g (aC v (length k.1))<|.g (aC v (length k.2))<|.t ((getD k.1 (toNat v) 0) != (getD k.2 (toNat v) 0)) (.l (.inr (.inr ()))) (.l (.inl (wrap .i64 (v+1))))) (.l (.inr (.inl ())))
def aKp k v:=aB (λv=>(EJ k v).ev) v
def aTk:LD:=yl (EJ) FG [(0,aE)] gI uK mZ D1 (λ_ r=>.s _ _ r (λ_=>yx 0 aE ((),())) (λ_=>yz gI ((false,()),())))
def aEJ(b a:Y1):Tr Bool:=.t ((length b:Int) != (length a:Int)) (.l false) (.c _ (aKp (b,a) 0) λe=>.s _ _ e (λ_=>.l true) (λ_=>.l false))
def HE b a:=(aEJ b a).ev
def aFT:FP prog:=aH cx func44 [] (yj [.dat y1,.dat y1]) [] [] (dG aEJ) dC bN bU [(0,aTk)]
def Zm(k:Y2×Y2)(v:Int):Tr (Int⊕(Unit⊕Unit)):=.t (v<(length k.1:Int)) (.g (aC v (length k.1))<|.g (aC v (length k.2))<|.c _ (HE (getD k.1 (toNat v) []) (getD k.2 (toNat v) [])) λa=>.t (!a) (.l (.inr (.inr ()))) (.l (.inl (wrap .i64 (v+1))))) (.l (.inr (.inl ())))
def aJO k v:=aB (λv=>(Zm k v).ev) v
def aRS:LD:=yl (Zm) (yh [0,1,5] (yj [.dat y2,.dat y2,.dat yi])) [(0,aE)] gI uK mZ D1 (λ_ r=>.s _ _ r (λ_=>yx 0 aE ((),())) (λ_=>yz gI ((false,()),())))
def aBj(b a:List Y1):Tr Bool:=.t ((length b:Int) != (length a:Int)) (.l false) (.c _ (aJO (b,a) 0) λe=>.s _ _ e (λ_=>.l true) (λ_=>.l false))
def aBg b a:=(aBj b a).ev
def aQV:FP prog:=aH cx func84 [aFT] (yj [.dat y2,.dat y2]) [] [] (dG aBj) dC bN bU [(0,aRS)]
def aCA(h:Y1)(b:List Y1)(f:Y1)(e:List Y1):Tr Bool:=.c _ (HE h f) λg=>.t g (.c _ (aBg b e) λa=>.l a) (.l false)
def aDh e c b a:=(aCA e c b a).ev
def aOv:FP prog:=aH cx func43 [aFT,aQV] (yj [.agg Zv,.agg Zv]) [] [] ((λf x=>f x.1.1.1 x.1.1.2.1 x.1.2.1.1 x.1.2.1.2.1) aCA) dC bN
def aDT(n:Y1)(e:List Y1)(j:Y1)(f:Int)(g:Y1)(i:List Y1)(b:Y1)(h:Int):Tr Bool:=.c _ (aDh n e g i) λm=>.t m (.c _ (HE j b) λa=>.t a (.l (f==h)) (.l false)) (.l false)
def MS i c h b e g a f:=(aDT i c h b e g a f).ev
def aJZ:FP prog:=aH cx func18 [aOv,aFT] (yj [.agg oL,.agg oL]) [] [] ((λf x=>f x.1.1.1 x.1.1.2.1 x.1.1.2.2.1 x.1.1.2.2.2.1 x.1.2.1.1 x.1.2.1.2.1 x.1.2.1.2.2.1 x.1.2.1.2.2.2.1) aDT) dC bN
def aCV(s:Y1)(e:List Y1)(q:Y1)(g:Int)(i m:List UInt8)(a:Int)(j:Y1)(f:List Y1)(b:Y1)(h:Int)(o p:List UInt8)(n:Int):Tr Bool:=.c _ (MS s e q g j f b h) λr=>.t r (.l ((i==o)&&((m==p)&&((a==n)&&true)))) (.l false)
def MG p c o f h j a i e b g m n l:=(aCV p c o f h j a i e b g m n l).ev
def aSM:FP prog:=aH cx func14 [aJZ] (yj [.agg V2,.agg V2]) [] [] ((λf x=>f x.1.1.1 x.1.1.2.1 x.1.1.2.2.1 x.1.1.2.2.2.1 x.1.1.2.2.2.2.1 x.1.1.2.2.2.2.2.1 x.1.1.2.2.2.2.2.2.1 x.1.2.1.1 x.1.2.1.2.1 x.1.2.1.2.2.1 x.1.2.1.2.2.2.1 x.1.2.1.2.2.2.2.1 x.1.2.1.2.2.2.2.2.1 x.1.2.1.2.2.2.2.2.2.1) aCV) dC bN
def aFH(b a:List UInt8)(f:Int):Tr (Bool×(List Gc)):=.c _ (AF b a f) λh=>.t (!h) (.l (false,([]:List Gc))) (.g (length b+length a<=9223372036854775807)<|.c _ (Yh (b++a)) λe=>.l (true,e.2))
def XV c b a:=(aFH c b a).ev
def aQe:FP prog:=aH cx func17 [aCO,aHe] (yj [.agg Zcz]) [] [] (BS aFH) ⟨[.own 2 0 48 (.pair .str .str),.ren 960 0],[.tmp 2,.tmp 3],Dq,[(0,.arr 48 (.pair .str .str))],[],[]⟩ gN
def KV(_k:Int×(List UInt8)×(List UInt8)×Int×Y1×Y2×Y1×Wo)(v:(List UInt8)×Int×b9):Tr (((List UInt8)×Int×b9)⊕(List UInt8)):=.t (0<v.2.1) (.g (length v.1+length ([10]:List UInt8)<=9223372036854775807)<|.c _ (El v.2.2.1 v.2.2.2.1 v.2.2.2.2) λa=>.g (length (v.1++([10]:List UInt8))+length a.1<=9223372036854775807)<|.l (.inl (((v.1++([10]:List UInt8))++a.1),(wrap .i64 (v.2.1-1)),a.2.1,a.2.2.1,a.2.2.2))) (.l (.inr v.1))
def QF k v:=aB (λv=>(KV k v).ev) v
abbrev SK:Keep:=yk [] [2,5,6] (yj [.box 2 0,.box 5 0,.dat .str]) [Zct,(5,.cells V2)]
def aQo:LD:=yl (KV) (yk [] [2,4,5,6,7] (yj [.box 2 0,.box 10 0,.box 5 0,.dat .str,.dat yi]) [Zct,(10,.cells (yj [.dat (.slice (.int .u8)),.dat yi,.dat (.int .u64)])),(5,.cells V2)]) [(0,SK)] aE (λk v=>(((),(),(),v.1,v.2.1,()),((),(),(),k.1,k.2.1,k.2.2.1,k.2.2.2.1,()),(v.2.2.1,v.2.2.2.1,v.2.2.2.2,()),(k.2.2.2.2.1,k.2.2.2.2.2.1,k.2.2.2.2.2.2.1,k.2.2.2.2.2.2.2.1,k.2.2.2.2.2.2.2.2.1,k.2.2.2.2.2.2.2.2.2.1,k.2.2.2.2.2.2.2.2.2.2,()),())) (λt=>(t.2.1.2.2.2.1,t.2.1.2.2.2.2.1,t.2.1.2.2.2.2.2.1,t.2.1.2.2.2.2.2.2.1,t.2.2.2.1.1,t.2.2.2.1.2.1,t.2.2.2.1.2.2.1,t.2.2.2.1.2.2.2.1,t.2.2.2.1.2.2.2.2.1,t.2.2.2.1.2.2.2.2.2.1,t.2.2.2.1.2.2.2.2.2.2.1)) (λt=>(t.1.2.2.2.1,t.1.2.2.2.2.1,t.2.2.1.1,t.2.2.1.2.1,t.2.2.1.2.2.1)) (λk r=>yx 0 SK (((),(),r,()),((),(),(),k.1,k.2.1,k.2.2.1,k.2.2.2.1,()),(k.2.2.2.2.1,k.2.2.2.2.2.1,k.2.2.2.2.2.2.1,k.2.2.2.2.2.2.2.1,k.2.2.2.2.2.2.2.2.1,k.2.2.2.2.2.2.2.2.2.1,k.2.2.2.2.2.2.2.2.2.2,()),()))
def NX(i:Y1):Tr Ydi:=.c _ (EH i 0 0) λa=>.c _ (El a.2.2.2.2.2.2.2.1 a.2.2.2.2.2.2.2.2.1 a.2.2.2.2.2.2.2.2.2) λe=>.c _ (eG 24 e.2.1 e.2.2.1 e.2.2.2) λb=>.g (!decide ((23:Int)=0))<|.g (((0:Int)<=(wrap .i64 ((8:Int)+(wrap .i64 (Int.tdiv b.1 23)))))&&((wrap .i64 ((8:Int)+(wrap .i64 (Int.tdiv b.1 23))))<=(length ([0,1,2,3,4,5,6,7,30]:Y1):Int)))<|.c _ (mH (List.drop 0 (List.take (toNat (wrap .i64 ((8:Int)+(wrap .i64 (Int.tdiv b.1 23))))) ([0,1,2,3,4,5,6,7,30]:Y1))) b.2.1 b.2.2.1 b.2.2.2) λf=>.c _ (QF (0,[],[],0,a.1,a.2.1,a.2.2.1,a.2.2.2.1,a.2.2.2.2.1,a.2.2.2.2.2.1,a.2.2.2.2.2.2.1) (e.1,f.1,f.2.1,f.2.2.1,f.2.2.2)) λh=>.l (a.1,a.2.1,a.2.2.1,a.2.2.2.1,a.2.2.2.2.1,a.2.2.2.2.2.1,a.2.2.2.2.2.2.1,h)
def aHd a:=(NX a).ev
def aSy:FP prog:=aH cx func19 [XZ,XC,uE,Gv] Zdj [] [] (oM NX) WE DZ (E6 [(4,[(6,[16])])]) [(0,aQo)]
def Rv(k:Int×(List (List UInt8)))(v:Int×Ycp):Tr ((Int×Ycp)⊕(List (List UInt8))):=.t (v.1<k.1) (.g (aC v.1 (length k.2))<|.g ((toNat v.1)<length k.2)<|.c _ (yN v.2.1 v.2.2.1 v.2.2.2.1 v.2.2.2.2.1 v.2.2.2.2.2.1 v.2.2.2.2.2.2.1 v.2.2.2.2.2.2.2.1 (getD k.2 (toNat v.1) [])) λa=>.g ((length v.2.2.2.2.2.2.2.2+length ([a.2.2.2.2.2.2.2]:List (List UInt8)))*16<=140737488355328)<|.l (.inl ((wrap .i64 (v.1+1)),a.1,a.2.1,a.2.2.1,a.2.2.2.1,a.2.2.2.2.1,a.2.2.2.2.2.1,a.2.2.2.2.2.2.1,(v.2.2.2.2.2.2.2.2++([a.2.2.2.2.2.2.2]:List (List UInt8)))))) (.l (.inr v.2.2.2.2.2.2.2.2))
def Xa k v:=aB (λv=>(Rv k v).ev) v
abbrev UV:Keep:=yk [] [7] (yj [.arr 26]) [(26,.arr 9 .str)]
def aTU:LD:=yl (Rv) (yk [] [2,7,27,28,29] (yj [.box 2 0,.arr 26,.arr 768,.dat yi,.dat yi]) [(2,.cells V2),(26,.arr 9 .str),(768,.arr 9 .str)]) [(0,UV)] aE (λk v=>(((),(),(),k.1,v.1,()),(v.2.1,v.2.2.1,v.2.2.2.1,v.2.2.2.2.1,v.2.2.2.2.2.1,v.2.2.2.2.2.2.1,v.2.2.2.2.2.2.2.1,()),v.2.2.2.2.2.2.2.2,k.2,())) (λt=>(t.1.2.2.2.1,t.2.2.2.1)) (λt=>(t.1.2.2.2.2.1,t.2.1.1,t.2.1.2.1,t.2.1.2.2.1,t.2.1.2.2.2.1,t.2.1.2.2.2.2.1,t.2.1.2.2.2.2.2.1,t.2.1.2.2.2.2.2.2.1,t.2.2.1)) (λ_ r=>yx 0 UV (((),()),r,()))
def aFE(m:Y1)(e:List Y1)(j:Y1)(f:Int)(g i:List UInt8)(b:Int)(h:List UInt8):Tr (Bool×(List (List UInt8))):=.c _ (P3 h ([10]:List UInt8)) λa=>.c _ (pS m e j f g i b) λn=>.t (!n) (.l (false,[])) (.t ((4000:Int)<(length h:Int)) (.l (false,[])) (.t ((30:Int)<(length a:Int)) (.l (false,[])) (.c _ (Xa ((length a:Int),a) (0,m,e,j,f,g,i,b,[])) λo=>.l (true,o))))
def aBd i c h b e g a f:=(aFE i c h b e g a f).ev
def aQx:FP prog:=aH cx func20 [aEz,aFi,aKr] (yj [.agg V2,.dat .str]) [] [] (Lm aFE) ⟨[.own 4 0 9 .str,.ren 26 0],[.tmp 4,.tmp 5],Dq,[(0,.arr 9 .str)],[],[]⟩ gN bU [(0,aTU)]
def Sg(k:List (List UInt8))(v:Int×Ycp):Tr ((Int×Ycp)⊕(List (List UInt8))):=.t (v.1<(length k:Int)) (.g (aC v.1 (length k))<|.g ((toNat v.1)<length k)<|.c _ (q8 v.2.1 v.2.2.1 v.2.2.2.1 v.2.2.2.2.1 v.2.2.2.2.2.1 v.2.2.2.2.2.2.1 v.2.2.2.2.2.2.2.1 (getD k (toNat v.1) [])) λa=>.g ((length v.2.2.2.2.2.2.2.2+length ([a.2.2.2.2.1]:List (List UInt8)))*16<=140737488355328)<|.l (.inl ((wrap .i64 (v.1+1)),a.2.2.2.2.2.1,a.2.2.2.2.2.2.1,a.2.2.2.2.2.2.2,a.1,a.2.1,a.2.2.1,a.2.2.2.1,(v.2.2.2.2.2.2.2.2++([a.2.2.2.2.1]:List (List UInt8)))))) (.l (.inr v.2.2.2.2.2.2.2.2))
def GW k v:=aB (λv=>(Sg k v).ev) v
abbrev TJ:Keep:=yk [] [6] (yj [.arr 11]) [(11,.arr 9 .str)]
def aOs:LD:=yl (Sg) (yk [.fz 2499,.fz 2501,.fz 2504] [2,6,7,8] (yj [.box 2 0,.arr 11,.arr 1408,.dat yi]) [(2,.cells V2),(11,.arr 9 .str),(1408,.arr 9 .str)]) [(0,TJ)] aE (λk v=>(((),(),(),v.1,()),(v.2.1,v.2.2.1,v.2.2.2.1,v.2.2.2.2.1,v.2.2.2.2.2.1,v.2.2.2.2.2.2.1,v.2.2.2.2.2.2.2.1,()),v.2.2.2.2.2.2.2.2,k,())) XF (λt=>(t.1.2.2.2.1,t.2.1.1,t.2.1.2.1,t.2.1.2.2.1,t.2.1.2.2.2.1,t.2.1.2.2.2.2.1,t.2.1.2.2.2.2.2.1,t.2.1.2.2.2.2.2.2.1,t.2.2.1)) (λ_ r=>yx 0 TJ (((),()),r,()))
def aCh(m:Y1)(e:List Y1)(j:Y1)(f:Int)(g i:List UInt8)(b:Int)(h:List UInt8):Tr (Bool×(List (List UInt8))):=.c _ (Q2 m e j f g i b) λo=>.t (!o) (.l (false,[])) (.t ((4000:Int)<(length h:Int)) (.l (false,[])) (.c _ (yM h 10) λa=>.t ((30:Int)<(length a:Int)) (.l (false,[])) (.c _ (GW a (0,m,e,j,f,g,i,b,[])) λn=>.l (true,n))))
def aGs i c h b e g a f:=(aCh i c h b e g a f).ev
def aNX:FP prog:=aH cx func21 [aCy,LG,ZP] (yj [.agg V2,.dat .str]) [] [] (Lm aCh) ⟨[.ren 11 0],[.tmp 4,.tmp 5],Dq,[(0,.arr 9 .str)],[],[]⟩ gN bU [(0,aOs)]
def ES(k:(List (List UInt8))×(List (List UInt8)))(v:Int):Tr (Int⊕(Unit⊕Unit)):=.t (v<(length k.1:Int)) (.g (aC v (length k.1))<|.g (aC v (length k.2))<|.t (!((getD k.1 (toNat v) [])==(getD k.2 (toNat v) []))) (.l (.inr (.inr ()))) (.l (.inl (wrap .i64 (v+1))))) (.l (.inr (.inl ())))
def aKN k v:=aB (λv=>(ES k v).ev) v
def aNI:LD:=yl (ES) (yh [0,1,5] (yj [.dat (.slice .str),.dat (.slice .str),.dat yi])) [(0,aE)] gI uK mZ D1 (λ_ r=>.s _ _ r (λ_=>yx 0 aE ((),())) (λ_=>yz gI ((false,()),())))
def aEZ(b a:List (List UInt8)):Tr Bool:=.t ((length b:Int) != (length a:Int)) (.l false) (.c _ (aKN (b,a) 0) λe=>.s _ _ e (λ_=>.l true) (λ_=>.l false))
def aGv b a:=(aEZ b a).ev
def aOo:FP prog:=aH cx func22 [] (yj [.dat (.slice .str),.dat (.slice .str)]) [] [] (dG aEZ) dC bN bU [(0,aNI)]
def aGi(b a:List UInt8):Tr (Bool×(List (List UInt8))):=.t ((4000:Int)<(length b:Int)) (.l (false,[])) (.t ((length a:Int) != (1:Int)) (.l (false,[])) (.c _ (P3 b a) λe=>.l (true,e)))
def aCo b a:=(aGi b a).ev
def aPU:FP prog:=aH cx func23 [aEz] Ue [] [] (dG aGi) ⟨[.own 4 0 9 .str,.ren 1024 0],[.tmp 4,.tmp 5],Dq,[(0,.arr 9 .str)],[],[]⟩ gN
def Yt(k:(List (List UInt8))×(List (List UInt8)))(v:Int×Y1×Y2×Y1×Wo):Tr ((Int×Y1×Y2×Y1×Wo)⊕(Unit⊕Unit)):=.t (v.1<(length k.2:Int)) (.g (aC v.1 (length k.2))<|.g ((toNat v.1)<length k.2)<|.c _ (yN v.2.1 v.2.2.1 v.2.2.2.1 v.2.2.2.2.1 v.2.2.2.2.2.1 v.2.2.2.2.2.2.1 v.2.2.2.2.2.2.2 (getD k.2 (toNat v.1) [])) λa=>.g (aC v.1 (length k.1))<|.g ((toNat v.1)<length k.1)<|.t (!(a.2.2.2.2.2.2.2==(getD k.1 (toNat v.1) []))) (.l (.inr (.inr ()))) (.l (.inl ((wrap .i64 (v.1+1)),a.1,a.2.1,a.2.2.1,a.2.2.2.1,a.2.2.2.2.1,a.2.2.2.2.2.1,a.2.2.2.2.2.2.1)))) (.l (.inr (.inl ())))
def BT k v:=aB (λv=>(Yt k v).ev) v
abbrev QK:Keep:=yk [] [19,23] (yj [.arr 9216,.arr 10624]) [(9216,.arr 9 .str),(10624,.arr 9 .str)]
def aQc:LD:=yl (Yt) (yk [] [17,19,23,25] (yj [.box 17 0,.arr 9216,.arr 10624,.dat yi]) [(17,.cells V2),(9216,.arr 9 .str),(10624,.arr 9 .str)]) [(0,QK)] uG (λk v=>(((),(),(),v.1,()),(v.2.1,v.2.2.1,v.2.2.2.1,v.2.2.2.2.1,v.2.2.2.2.2.1,v.2.2.2.2.2.2.1,v.2.2.2.2.2.2.2,()),k.1,k.2,())) (λt=>(t.2.2.1,t.2.2.2.1)) (λt=>(t.1.2.2.2.1,t.2.1.1,t.2.1.2.1,t.2.1.2.2.1,t.2.1.2.2.2.1,t.2.1.2.2.2.2.1,t.2.1.2.2.2.2.2.1,t.2.1.2.2.2.2.2.2.1)) (λk r=>.s _ _ r (λ_=>yx 0 QK (((),(),()),k.1,k.2,())) (λ_=>yz uG ((false,()),())))
noncomputable abbrev T8(p1:Y1):=(.c _ (BN p1 3) λh=>.c _ (aHd h) λa=>.c _ (aBd a.1 a.2.1 a.2.2.1 a.2.2.2.1 a.2.2.2.2.1 a.2.2.2.2.2.1 a.2.2.2.2.2.2.1 a.2.2.2.2.2.2.2) λb=>.c _ (aGs a.1 a.2.1 a.2.2.1 a.2.2.2.1 a.2.2.2.2.1 a.2.2.2.2.2.1 a.2.2.2.2.2.2.1 a.2.2.2.2.2.2.2) λf=>.t (!(b.1==f.1)) (.l false) (.c _ (aGv b.2 f.2) λg=>.t (!g) (.l false) (.t (!b.1) (.l true) (.c _ (aCo a.2.2.2.2.2.2.2 ([10]:List UInt8)) λe=>.c _ (BT (b.2,e.2) (0,a.1,a.2.1,a.2.2.1,a.2.2.2.1,a.2.2.2.2.1,a.2.2.2.2.2.1,a.2.2.2.2.2.2.1)) λi=>.s _ _ i (λ_=>.l ((length e.2:Int)==(length b.2:Int))) (λ_=>.l false)))):Tr Bool)
def HI(m:Y1):Tr Bool:=.c _ (LC m) λaa=>.t aa (.l true) (.c _ (aCs m) λf=>.c _ (aGg f.1 f.2.1 f.2.2.2 f.2.2.1) λh=>.c _ (GZ f.1 f.2.1 f.2.2.2 f.2.2.1) λi=>.c _ (BN m 1) λr=>.c _ (aEM r) λe=>.c _ (BN m 2) λo=>.c _ (ZQ o) λa=>.c _ (yN a.1 a.2.1 a.2.2.1 a.2.2.2.1 a.2.2.2.2.1 a.2.2.2.2.2.1 a.2.2.2.2.2.2.1 a.2.2.2.2.2.2.2) λb=>.c _ (q8 a.1 a.2.1 a.2.2.1 a.2.2.2.1 a.2.2.2.2.1 a.2.2.2.2.2.1 a.2.2.2.2.2.2.1 a.2.2.2.2.2.2.2) λn=>.t (!(h.2.2.2.2.1==i.2.2.2.2.1)) (.l false) (.c _ (MG h.2.2.2.2.2.1 h.2.2.2.2.2.2.1 h.2.2.2.2.2.2.2 h.1 h.2.1 h.2.2.1 h.2.2.2.1 i.2.2.2.2.2.1 i.2.2.2.2.2.2.1 i.2.2.2.2.2.2.2 i.1 i.2.1 i.2.2.1 i.2.2.2.1) λw=>.t (!w) (.l false) (.c _ (pS e.1 e.2.1 e.2.2.1 e.2.2.2.1 e.2.2.2.2.1 e.2.2.2.2.2.1 e.2.2.2.2.2.2) λp=>.c _ (Q2 e.1 e.2.1 e.2.2.1 e.2.2.2.1 e.2.2.2.2.1 e.2.2.2.2.2.1 e.2.2.2.2.2.2) λy=>.t (!(p==y)) (.l false) (.t (!(b.2.2.2.2.2.2.2==n.2.2.2.2.1)) (.l false) (.c _ (MG b.1 b.2.1 b.2.2.1 b.2.2.2.1 b.2.2.2.2.1 b.2.2.2.2.2.1 b.2.2.2.2.2.2.1 n.2.2.2.2.2.1 n.2.2.2.2.2.2.1 n.2.2.2.2.2.2.2 n.1 n.2.1 n.2.2.1 n.2.2.2.1) λu=>.t (!u) (.l false) (.c _ (pS a.1 a.2.1 a.2.2.1 a.2.2.2.1 a.2.2.2.2.1 a.2.2.2.2.2.1 a.2.2.2.2.2.2.1) λz=>.t z (.t (b.2.2.2.2.2.2.1==(wrap .i64 (a.2.2.2.2.2.2.1+1))) (.c _ (XV b.2.2.2.2.1 b.2.2.2.2.2.1 b.2.2.2.2.2.2.1) λj=>.c _ (pS b.1 b.2.1 b.2.2.1 b.2.2.2.1 b.2.2.2.2.1 b.2.2.2.2.2.1 b.2.2.2.2.2.2.1) λq=>.t (!q) (.l false) (.g (aC (wrap .i64 ((length j.2:Int) -1)) (length j.2))<|.g ((toNat (wrap .i64 ((length j.2:Int) -1)))<length j.2)<|.t (!(((getD j.2 (toNat (wrap .i64 ((length j.2:Int) -1))) ([],[])).1==a.2.2.2.2.2.2.2)&&(((getD j.2 (toNat (wrap .i64 ((length j.2:Int) -1))) ([],[])).2==b.2.2.2.2.2.2.2)&&true))) (.l false) (.t (b.2.2.2.2.2.2.2==([63]:List UInt8)) (.c _ (MS b.1 b.2.1 b.2.2.1 b.2.2.2.1 a.1 a.2.1 a.2.2.1 a.2.2.2.1) λs=>.t (!s) (.l false) (T8 m)) (T8 m)))) (T8 m)) (T8 m)))))))
def aLH a:=(HI a).ev
def wemw:FP prog:=aH cx func3 [aTr,aSB,aPX,aLe,aOB,aTt,aRz,aKr,ZP,aSM,aFi,aCy,aQe,aJZ,aSy,aQx,aNX,aOo,aPU] Zdj [] [] (oM HI) Dt bN (E6 [(6,[(2,[43])]),(7,[(2,[47])]),(16,[(2,[137])])]) [(0,aQc)]
end
end Go.Proofs.YtjiljcblmgeioaaGreatDoor
