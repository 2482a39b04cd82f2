/- A part of the proof that FnReplay hands back true, at every argument of the row. -/
import Derived.Test.YtjiljcblmgeioaaGreatDoorC4
namespace Go.Proofs.YtjiljcblmgeioaaGreatDoor
set_option linter.all false
noncomputable section
open Go.Proofs.Tryz
open List (length getD set)
open Int (toNat)
open IntKind (wrap)
def Tz(a b:List UInt8):Option (List (List UInt8)):=vW a b
def aRS:FD:=Oq
theorem aMq:dZ prog (47,aRS):=Gt
def aHK:FP prog:=⟨_,aMq⟩
def aDe(a:List UInt8):Option Hn:=z0 a
def aRD:FD:=S2
theorem aMb:dZ prog (68,aRD):=Kx
def aRO:FP prog:=⟨_,aMb⟩
def Ux(k:(List (List UInt8))×(List UInt8)×Int)(v:Int):Tr (Int⊕(Unit⊕Int)):=.t (v<k.2.2) (.g (aC v (length k.1))<|.t (k.2.1==(getD k.1 (toNat v) [])) (.l (.inr (.inr v))) (.l (.inl (wrap .i64 (v+1))))) (.l (.inr (.inl ())))
def YC k v:=aB (λv=>(Ux k v).ev) v
def aQs:LD:=yl (Ux) (yh [0,1,7,8] (yj [.dat (.slice .str),.dat .str,.dat yi,.dat yi])) [(0,aF)] rQ xI wZ rJ (λ_ r=>.s _ _ r (λ_=>yx 0 aF ((),())) (λb=>yz rQ ((b,()),())))
def aHR(a:List (List UInt8))(e:List UInt8):Tr Int:=.c _ (YC (a,e,(length a:Int)) 0) λb=>.s _ _ b (λ_=>.l (-1)) (λf=>.l f)
def aNG a b:=(aHR a b).ev
def aQY:FP prog:=aH cx func101 [] (yj [.dat (.slice .str),.dat .str]) [] [] (dO aHR) kA bR bU [(0,aQs)]
def aGZ(b:List UInt8):Tr Int:=.c _ (aNG ([[],([111,112,101,110]:List UInt8),([99,108,111,115,101]:List UInt8),([115,119,97,112]:List UInt8),([99,111,115,116]:List UInt8),([108,101,110,103,116,104]:List UInt8),([115,105,116,101]:List UInt8),([99,108,105,101,110,116]:List UInt8),([100,114,111,112,115,105,116,101]:List UInt8),([100,114,111,112,99,108,105,101,110,116]:List UInt8),([105,109,112,114,111,118,101]:List UInt8),([98,101,115,116]:List UInt8)]:List (List UInt8)) b) λa=>.l a
def yI a:=(aGZ a).ev
def aMW:FP prog:=aH cx func69 [aQY] Gf [] [] (qH aGZ) oD bR
noncomputable abbrev EL(p1 p2:Int):=(.t (p1==p2) (.l (2,false,true)) (.t (p1==5) (.l (3,false,true)) (.t (p1==6) (.l (1,true,true)) (.t (p1==7) (.l (0,true,true)) (.t (p1==10) (.t (p1==10) (.l (0,false,true)) (.l (0,false,false))) (.t (p1==11) (.l (0,false,true)) (.l (0,false,false))))))):Tr (Int×Bool×Bool))
noncomputable abbrev V0(p1 p2:Int):=(.t (p1==p2) (.l (1,false,true)) (.t (p1==3) (EL p1 3) (EL p1 4)):Tr (Int×Bool×Bool))
def NT(a:Int):Tr (Int×Bool×Bool):=.t (a==1) (V0 a 1) (.t (a==2) (V0 a 2) (.t (a==8) (V0 a 8) (V0 a 9)))
def yM a:=(NT a).ev
def wcjl:FP prog:=aH cx func102 [] Zy [] [] (qH NT) (yr [.tmp 2,.tmp 3,.tmp 4] (yj [.dat yi,.dat .bool,.dat .bool])) GA
def aAo(h g f e:Int)(b:Y1):Tr Bool:=.c _ (yM h) λa=>.t a.2.2 (.t (0<a.1) (.t (1<a.1) (.t (2<a.1) (.t a.2.1 (.l true) (.l ((length b:Int)==(0:Int)))) (.t (e==0) (.t a.2.1 (.l true) (.l ((length b:Int)==(0:Int)))) (.l false))) (.t (f==0) (.t (2<a.1) (.t a.2.1 (.l true) (.l ((length b:Int)==(0:Int)))) (.t (e==0) (.t a.2.1 (.l true) (.l ((length b:Int)==(0:Int)))) (.l false))) (.l false))) (.t (g==0) (.t (1<a.1) (.t (2<a.1) (.t a.2.1 (.l true) (.l ((length b:Int)==(0:Int)))) (.t (e==0) (.t a.2.1 (.l true) (.l ((length b:Int)==(0:Int)))) (.l false))) (.t (f==0) (.t (2<a.1) (.t a.2.1 (.l true) (.l ((length b:Int)==(0:Int)))) (.t (e==0) (.t a.2.1 (.l true) (.l ((length b:Int)==(0:Int)))) (.l false))) (.l false))) (.l false))) (.l false)
def aFO f c b e a:=(aAo f c b e a).ev
def aOc:FP prog:=aH cx func153 [wcjl] (yj [.agg UC]) [] [] (Do aAo) Dj bR
def BL(k:Y1×Int)(v:Int×Int):Tr (jA⊕Int):=.t (v.2<k.2) (.g (aC v.2 (length k.1))<|.g ((0:Int)<=(getD k.1 (toNat v.2) 0))<|.l (.inl ((wrap .u64 (BitVec.toNat ((BitVec.ofInt Zk v.1)||| (BitVec.ofInt Zk (wrap .u64 ((1:Int)*2^(min (toNat (getD k.1 (toNat v.2) 0)) Zk))))))),(wrap .i64 (v.2+1))))) (.l (.inr v.1))
def aIo k v:=aB (λv=>(BL k v).ev) v
abbrev VI:Keep:=yh [3] (yj [.dat (.int .u64)])
abbrev RZ{a b c d:Type}(k:a×b)(v:c×d):=((v.1,k.1,k.2,v.2,()),())
abbrev UU{a b c d e g:Type}(t:(a×b×c×d×e)×g):=(t.1.1,t.1.2.2.2.1)
def aPe:LD:=yl (BL) (yh [3,6,7,8] (yj [.dat (.int .u64),.dat y1,.dat yi,.dat yi])) [(0,VI)] aF RZ iM UU (λ_ r=>yx 0 VI ((r,()),()))
def ZV(a:Y1):Tr Int:=.c _ (aIo (a,(length a:Int)) (0,0)) λb=>.l b
def IJ a:=(ZV a).ev
abbrev VF:RetK:=yr [.tmp 2] (yj [.dat (.int .u64)])
def wbrv:FP prog:=aH cx func154 [] Bc [] [] (qH ZV) VF bR bU [(0,aPe)]
def YN(e:Int)(a:Y1)(_f:List Y1)(_g:Y1)(_h:Int):Tr Bool:=.c _ (m9 e 0 (wrap .i64 ((length a:Int) -1))) λb=>.l b
def R6 f c b e a:=(YN f c b e a).ev
def aOY:FP prog:=aH cx func155 [Cd] (yj [.dat yi,.ptr Zl]) [] [] ((λf x=>f x.1.1 x.1.2.1.1 x.1.2.1.2.1 x.1.2.1.2.2.1 x.1.2.1.2.2.2.1) YN) Ov bR
def aIY(b a:Int):Tr Bool:=.g (0<=a)<|.l ((wrap .u64 (BitVec.toNat ((BitVec.ofInt Zk (Int.fdiv b (2^(min (toNat a) Zk))))&&& (BitVec.ofInt Zk 1))))==(1:Int))
def r9 a b:=(aIY a b).ev
def wbrw:FP prog:=aH cx func156 [] (yj [.dat (.int .u64),.dat yi]) [] [] (dO aIY) eC bR
def aJE(k:Int)(v:Int×Y1):Tr (gD⊕Y1):=.g (0<=v.1)<|.t ((0:Int)<(Int.fdiv k (2^(min (toNat v.1) Zk)))) (.c _ (r9 k v.1) λa=>.t a (.g ((length v.2+length ([v.1]:Y1))*8<=140737488355328)<|.l (.inl ((wrap .i64 (v.1+1)),(v.2++([v.1]:Y1))))) (.l (.inl ((wrap .i64 (v.1+1)),v.2)))) (.l (.inr v.2))
def aOf k v:=aB (λv=>(aJE k v).ev) v
abbrev WB:Keep:=yk [] [3] (yj [.arr 5]) [(5,.arr 3 yi)]
def aQa:LD:=yl (aJE) (yk [] [0,3,4] (yj [.dat (.int .u64),.arr 5,.dat yi]) [(5,.arr 3 yi)]) [(0,WB)] aF Fw oF Fv (λ_ r=>yx 0 WB (((),()),r,()))
def aGW(a:Int):Tr Y1:=.c _ (aOf a (0,[])) λb=>.l b
def t5 a:=(aGW a).ev
def wbfk:FP prog:=aH cx func157 [wbrw] (yj [.dat (.int .u64)]) [] [] (qH aGW) ⟨[.ren 5 0],[.tmp 2],q8,[tK],[],[]⟩ kG bU [(0,aQa)]
def aCe(h:Y1)(b a:Int):Tr Y1:=.c _ (IJ h) λf=>.g (0<=b)<|.g (0<=a)<|.c _ (t5 (wrap .u64 (BitVec.toNat ((BitVec.ofInt Zk (wrap .u64 (BitVec.toNat ((BitVec.ofInt Zk f)&&& ~~~(BitVec.ofInt Zk (wrap .u64 ((1:Int)*2^(min (toNat b) Zk))))))))||| (BitVec.ofInt Zk (wrap .u64 ((1:Int)*2^(min (toNat a) Zk)))))))) λe=>.l e
def LW c b a:=(aCe c b a).ev
def wcdk:FP prog:=aH cx func158 [wbrv,wbfk] (yj [.dat y1,.dat yi,.dat yi]) [] [] (Te aCe) ⟨[.ren 960 0],[.tmp 6],q8,[tK],[],[]⟩ kG
def NK(b a:Int)(c:Y1):Option (List Int):=E3 b a c
def aNt:FD:=fdDelI
theorem aMP:dZ prog (159,aNt):=Qz
def aQo:FP prog:=⟨_,aMP⟩
def aJS(b a:Int)(c:List Y1):Option (List (List Int)):=E3 b a c
def aPn:FD:=fdDelR
theorem aME:dZ prog (160,aPn):=Vk
def aOG:FP prog:=⟨_,aME⟩
def aFe(e:Y1)(_f:List Y1)(a:Y1):Tr Bool:=.t ((0:Int)<(length a:Int)) (.c _ (OM a (length e:Int)) λb=>.l b) (.l false)
def aIn c b a:=(aFe c b a).ev
def aSZ:FP prog:=aH cx func242 [aIH] (yj [.agg Zh,.dat y1]) [] [] (bH aFe) eC bR
def aDS(b:Y1)(a:List Y1)(f:Y1):Tr Bool:=.c _ (tQ b a) λg=>.t g (.c _ (aIn b a f) λe=>.l e) (.l false)
def Fr c b a:=(aDS c b a).ev
def Uw:FP prog:=aH cx func173 [E6,aSZ] (yj [.agg Zh,.dat y1]) [] [] (bH aDS) eC bR
def CS(k:Y1×C4)(v:Int×Int):Tr (jA⊕Int):=.t (v.2<k.2.1) (.g (aC v.2 (length k.1))<|.g (aC (getD k.1 (toNat v.2) 0) (length k.2.2.1))<|.l (.inl ((wrap .i64 (v.1+(getD k.2.2.1 (toNat (getD k.1 (toNat v.2) 0)) 0))),(wrap .i64 (v.2+1))))) (.l (.inr v.1))
def aLg k v:=aB (λv=>(CS k v).ev) v
abbrev SU{a b c d e g h i j:Type}(t:(a×b×c×d×e)×(g×h×i)×j):=(t.1.2.2.1,t.1.2.2.2.1,t.2.1.1,t.2.1.2.1)
def aOQ:LD:=yl (CS) (yk [] [2,5,8,9,10] (yj [.box 2 0,.dat yi,.dat y1,.dat yi,.dat yi]) [yV]) [(0,oC)] aF (λk v=>(((),v.1,k.1,k.2.1,v.2,()),(k.2.2.1,k.2.2.2,()),())) SU (λt=>(t.1.2.1,t.1.2.2.2.2.1)) (λ_ r=>yx 0 oC ((r,()),()))
def aBI(f:Y1)(e:List Y1)(a:Y1):Tr Int:=.c _ (aLg (a,(length a:Int),f,e) (0,0)) λb=>.l b
def ZC c b a:=(aBI c b a).ev
def aNm:FP prog:=aH cx func288 [] (yj [.agg Zh,.dat y1]) [] [] (bH aBI) kA bR bU [(0,aOQ)]
def Xn(k:Int×Y1×C4)(v:Int×Int):Tr (jA⊕Int):=.t (v.2<k.2.2.1) (.g (aC v.2 (length k.2.1))<|.g (aC k.1 (length k.2.2.2.2))<|.g (aC (getD k.2.1 (toNat v.2) 0) (length (getD k.2.2.2.2 (toNat k.1) [])))<|.g (aC k.1 (length k.2.2.2.2))<|.g (aC v.1 (length (getD k.2.2.2.2 (toNat k.1) [])))<|.t ((getD (getD k.2.2.2.2 (toNat k.1) []) (toNat (getD k.2.1 (toNat v.2) 0)) 0)<(getD (getD k.2.2.2.2 (toNat k.1) []) (toNat v.1) 0)) (.l (.inl ((getD k.2.1 (toNat v.2) 0),(wrap .i64 (v.2+1))))) (.l (.inl (v.1,(wrap .i64 (v.2+1)))))) (.l (.inr v.1))
def aIN k v:=aB (λv=>(Xn k v).ev) v
abbrev HE{a b c d e g h i:Type}(t:(a×b×c×d×e×g×h)×i):=(t.1.2.2.1,t.1.2.2.2.2.2.1)
def aTt:LD:=yl (Xn) (yk [] [1,3,7,13,14,15] (yj [.dat yi,.box 3 0,.dat yi,.dat y1,.dat yi,.dat yi]) [(3,.cells Zh)]) [(0,rV)] aF (λk v=>((k.1,(),v.1,k.2.1,k.2.2.1,v.2,()),(k.2.2.2.1,k.2.2.2.2,()),())) (λt=>(t.1.1,t.1.2.2.2.1,t.1.2.2.2.2.1,t.2.1.1,t.2.1.2.1)) HE (λ_ r=>yx 0 rV ((r,()),()))
def aBJ(h:Y1)(f:List Y1)(e:Int)(a:Y1):Tr Int:=.g (aC 0 (length a))<|.c _ (aIN (e,a,(length a:Int),h,f) ((getD a (toNat 0) 0),0)) λb=>.l b
def aET e b a c:=(aBJ e b a c).ev
def aSq:FP prog:=aH cx func243 [] (yj [.agg Zh,.dat yi,.dat y1]) [] [] (uM aBJ) w6 bR bU [(0,aTt)]
def AL(k:Y1×C4)(v:Int×Y1):Tr (gD⊕Y1):=.t (v.1<k.2.1) (.c _ (aET k.2.2.1 k.2.2.2 v.1 k.1) λa=>.g ((length v.2+length ([a]:Y1))*8<=140737488355328)<|.l (.inl ((wrap .i64 (v.1+1)),(v.2++([a]:Y1))))) (.l (.inr v.2))
def aLs k v:=aB (λv=>(AL k v).ev) v
abbrev Nt{a b c d e g h i j:Type}(t:(a×b×c×d×e×g)×h×i×j):=(t.1.2.2.2.2.1,t.2.2.1)
def aQF:LD:=yl (AL) (yk [] [1,2,5,10,11] (yj [.dat y1,.box 2 0,.arr 7,.dat yi,.dat yi]) [yV,(7,.arr 3 yi)]) [(0,O8)] aF (λk v=>((k.1,(),(),k.2.1,v.1,()),(k.2.2.1,k.2.2.2,()),v.2,())) (λt=>(t.1.1,t.1.2.2.2.1,t.2.1.1,t.2.1.2.1)) Nt (λ_ r=>yx 0 O8 (((),()),r,()))
def aDy(f:Y1)(a:List Y1)(b:Y1):Tr Y1:=.c _ (aLs (b,(length a:Int),f,a) (0,[])) λe=>.l e
def KM c b a:=(aDy c b a).ev
def aLf:FP prog:=aH cx func175 [aSq] (yj [.agg Zh,.dat y1]) [] [] (bH aDy) Xe kG bU [(0,aQF)]
def BQ(k:Int×Oi)(v:Int×Y1):Tr (gD⊕Y1):=.t (v.1<k.1) (.g (aC v.1 (length k.2.2.2))<|.g ((toNat v.1)<length k.2.2.2)<|.g (aC v.1 (length k.2.2.1))<|.g (aC (getD k.2.2.2 (toNat v.1) 0) (length (getD k.2.2.1 (toNat v.1) [])))<|.g ((length v.2+length ([(getD (getD k.2.2.1 (toNat v.1) []) (toNat (getD k.2.2.2 (toNat v.1) 0)) 0)]:Y1))*8<=140737488355328)<|.l (.inl ((wrap .i64 (v.1+1)),(v.2++([(getD (getD k.2.2.1 (toNat v.1) []) (toNat (getD k.2.2.2 (toNat v.1) 0)) 0)]:Y1))))) (.l (.inr v.2))
def aKw k v:=aB (λv=>(BQ k v).ev) v
abbrev VD:Keep:=yk [] [5] (yj [.arr 8]) [(8,.arr 3 yi)]
def aQh:LD:=yl (BQ) (yk [] [2,5,11,12,13] (yj [.box 2 0,.arr 8,.arr 704,.dat yi,.dat yi]) [yV,(8,.arr 3 yi),(704,.arr 3 yi)]) [(0,VD)] aF (λk v=>(((),(),(),k.1,v.1,()),(k.2.1,k.2.2.1,()),v.2,k.2.2.2,())) (λt=>(t.1.2.2.2.1,t.2.1.1,t.2.1.2.1,t.2.2.2.1)) Nt (λ_ r=>yx 0 VD (((),()),r,()))
def aGb(e:Y1)(a:List Y1)(g:Y1):Tr Y1:=.c _ (KM e a g) λb=>.c _ (aKw ((length b:Int),e,a,b) (0,[])) λf=>.l f
def LA c b a:=(aGb c b a).ev
def aJi:FP prog:=aH cx func239 [aLf] (yj [.agg Zh,.dat y1]) [] [] (bH aGb) ⟨[.ren 8 0],[.tmp 4],q8,[tK],[],[]⟩ kG bU [(0,aQh)]
def Dx(k:Y1×Int)(v:Int×Int):Tr (jA⊕Int):=.t (v.2<k.2) (.g (aC v.2 (length k.1))<|.l (.inl ((wrap .i64 (v.1+(getD k.1 (toNat v.2) 0))),(wrap .i64 (v.2+1))))) (.l (.inr v.1))
def aDZ k v:=aB (λv=>(Dx k v).ev) v
abbrev SO:Keep:=yh [3,6,7,8] (yj [.dat yi,.dat y1,.dat yi,.dat yi])
def aRp:LD:=yl (Dx) SO [(0,jI)] aF RZ iM UU (λ_ r=>yx 0 jI ((r,()),()))
def OP(a:Y1):Tr Int:=.c _ (aDZ (a,(length a:Int)) (0,0)) λb=>.l b
def Sf a:=(OP a).ev
def aKM:FP prog:=aH cx func172 [] Bc [] [] (qH OP) oD bR bU [(0,aRp)]
def aFa(g:Y1)(e:List Y1)(b:Y1):Tr Int:=.c _ (LA g e b) λf=>.c _ (Sf f) λa=>.l a
def Jp c b a:=(aFa c b a).ev
def aGn:FP prog:=aH cx func174 [aJi,aKM] (yj [.agg Zh,.dat y1]) [] [] (bH aFa) kA bR
def aBl(e:Y1)(b:List Y1)(a:Y1):Tr Int:=.c _ (ZC e b a) λg=>.c _ (Jp e b a) λf=>.l (wrap .i64 (g+f))
def u6 c b a:=(aBl c b a).ev
def wbjz:FP prog:=aH cx func234 [aNm,aGn] (yj [.agg Zh,.dat y1]) [] [] (bH aBl) kA bR
def XZ(a e:Y1)(b:List Y1)(f:Int):Tr ((Y1×Z8)⊕(Y1×Z8)):=.c _ (u6 e b a) λh=>.t (h<f) (.g (0<length a)<|.l (.inr (a,e,b,f))) (.l (.inl (a,e,b,f)))
def Tx e b a c:=(XZ e b a c).ev
def aRq:RetK:= {acts:=[],res:=[.tmp 5],sh:=Rv,obs:=[xQ,(65,.cells Zh),(66,.cells Zy),(67,.cells (yj [.nilsl]))],pins:=[(0,0,64),(1,0,65),(2,0,66),(3,0,67)]}
def aSG:RetK:= {acts:=[],res:=[.tmp 5],sh:=Rv,obs:=[xQ,(65,.cells Zh),(66,.cells Zy),(67,.cells (yj [.arr 64]))],pins:=[(0,0,64),(1,0,65),(2,0,66),(3,0,67)]}
def aIG:FD:= {(yd (yj [.arr 64,.box 65 0,.box 66 0,.box 67 0]) [xQ,(65,.cells Zh),(66,.cells Zy),(67,.cells (yj [.nilsl]))] [.arg 0,.arg 1,.arg 2,.arg 3] ((Y1×Z8)⊕(Y1×Z8)) (λx=>Tx x.2.1 x.2.2.1.1 x.2.2.1.2.1 x.2.2.2.1.1) (λr=>match r with| .inl a=>([.dat .bool true],[(64,.arr 3 yi a.1),(65,.cells [.dat y1 a.2.1,.dat y2 a.2.2.1]),(66,.cells [.dat yi a.2.2.2]),(67,.cells [.nilsl])])| .inr b=>([.dat .bool false],[(64,.arr 3 yi b.1),(65,.cells [.dat y1 b.2.1,.dat y2 b.2.2.1]),(66,.cells [.dat yi b.2.2.2]),(67,.cells [.arr 64])])))with sp:=λr=>.s _ _ r (λa=>.l ([.dat .bool true],[(64,.arr 3 yi a.1),(65,.cells [.dat y1 a.2.1,.dat y2 a.2.2.1]),(66,.cells [.dat yi a.2.2.2]),(67,.cells [.nilsl])])) (λb=>.l ([.dat .bool false],[(64,.arr 3 yi b.1),(65,.cells [.dat y1 b.2.1,.dat y2 b.2.2.1]),(66,.cells [.dat yi b.2.2.2]),(67,.cells [.arr 64])])),spok:=λr=>by cases r<;>rfl}
theorem aNo:dZ prog (257,aIG):=Yg mixed (wV (Wj wbjz.2 fdN)) Dl (WU aIG (oN [wbjz.1]) aRq aSG bU [] ((f257.body).getD .skip) (λx=>XZ x.2.1 x.2.2.1.1 x.2.2.1.2.1 x.2.2.2.1.1) (λr=>match r with| .inl a=>.inl ((true,()),a.1,(a.2.1,a.2.2.1,()),(a.2.2.2,()),((),()),())| .inr b=>.inr ((false,()),b.1,(b.2.1,b.2.2.1,()),(b.2.2.2,()),((),()),())) func257 (Wt (by kernel_rfl) lpN) (λ_=>by kernel_rfl) λr=>by cases r<;>rfl)
def G_zz:FP prog:=⟨_,aNo⟩
def Yl(k:Y1×Int×jA)(v:Int×Z8):Tr ((Int×Z8)⊕(Z8⊕(Y1×Y2×gD))):=.t (v.1<k.2.2.2) (.c _ (r9 k.2.1 v.1) λe=>.t (!e) (.g (0<=v.1)<|.c _ (t5 (wrap .u64 (BitVec.toNat ((BitVec.ofInt Zk k.2.1)||| (BitVec.ofInt Zk (wrap .u64 ((1:Int)*2^(min (toNat v.1) Zk)))))))) λf=>.c _ (Tx f v.2.1 v.2.2.1 v.2.2.2) λh=>.s _ _ h (λb=>.l (.inl ((wrap .i64 (v.1+1)),b.2.1,b.2.2.1,b.2.2.2))) (λa=>.l (.inr (.inr (a.2.1,a.2.2.1,a.2.2.2,a.1))))) (.l (.inl ((wrap .i64 (v.1+1)),v.2.1,v.2.2.1,v.2.2.2)))) (.l (.inr (.inl (v.2.1,v.2.2.1,v.2.2.2))))
def aKe k v:=aB (λv=>(Yl k v).ev) v
abbrev Lx:Keep:=yk [] [1,2,6,7] (yj [.dat y1,.fn 257 JG,.dat (.int .u64),.dat yi]) [(64,.cells Zh),(65,.cells Zy),(66,.cells (yj [.nilsl]))]
abbrev TP:Keep:=yk [] [2] (yj [.fn 257 JG]) [(64,.cells Zh),(65,.cells Zy),(66,.cells (yj [.arr 2112])),Mn]
def aHw:LD:=yl (Yl) (yk [] [1,2,6,7,19,20] (yj [.dat y1,.fn 257 JG,.dat (.int .u64),.dat yi,.dat yi,.dat yi]) [(64,.cells Zh),(65,.cells Zy),(66,.cells (yj [.nilsl]))]) [(0,Lx)] TP (λk v=>((k.1,((),(),(),()),k.2.1,k.2.2.1,k.2.2.2,v.1,()),(v.2.1,v.2.2.1,()),(v.2.2.2,()),((),()),())) (λt=>(t.1.1,t.1.2.2.1,t.1.2.2.2.1,t.1.2.2.2.2.1)) (λt=>(t.1.2.2.2.2.2.1,t.2.1.1,t.2.1.2.1,t.2.2.1.1)) (λk r=>.s _ _ r (λa=>yx 0 Lx ((k.1,((),(),(),()),k.2.1,k.2.2.1,()),(a.1,a.2.1,()),(a.2.2,()),((),()),())) (λb=>yz TP ((((),(),(),()),()),(b.1,b.2.1,()),(b.2.2.1,()),((),()),b.2.2.2,())))
def IH(k:Y1×Int×Int×Y1×Int)(v:Int×Z8):Tr ((Int×Z8)⊕(Z8⊕(Y1×Y2×gD))):=.t (v.1<k.2.2.2.2) (.g (aC v.1 (length k.2.2.2.1))<|.t ((1:Int)<(length k.1:Int)) (.g ((0:Int)<=(getD k.2.2.2.1 (toNat v.1) 0))<|.c _ (t5 (wrap .u64 (BitVec.toNat ((BitVec.ofInt Zk k.2.1)&&& ~~~(BitVec.ofInt Zk (wrap .u64 ((1:Int)*2^(min (toNat (getD k.2.2.2.1 (toNat v.1) 0)) Zk)))))))) λe=>.c _ (Tx e v.2.1 v.2.2.1 v.2.2.2) λf=>.s _ _ f (λb=>.l (.inl ((wrap .i64 (v.1+1)),b.2.1,b.2.2.1,b.2.2.2))) (λa=>.l (.inr (.inr (a.2.1,a.2.2.1,a.2.2.2,a.1))))) (.l (.inl ((wrap .i64 (v.1+1)),v.2.1,v.2.2.1,v.2.2.2)))) (.l (.inr (.inl (v.2.1,v.2.2.1,v.2.2.2))))
def aIz k v:=aB (λv=>(IH k v).ev) v
abbrev WA:Keep:=yk [] [2] (yj [.fn 257 JG]) [(64,.cells Zh),(65,.cells Zy),(66,.cells (yj [.arr 3392])),(3392,.arr 3 yi)]
abbrev TS{a b c d e g h i j:Type}(k:a×b×c×d×e)(v:g×h×i×j):=((k.1,((),(),(),()),k.2.1,k.2.2.1,k.2.2.2.1,k.2.2.2.2,v.1,()),(v.2.1,v.2.2.1,()),(v.2.2.2,()),((),()),())
abbrev VR{a b c d e g h i:Type}(t:(a×b×c×d×e×g×h)×i):=(t.1.1,t.1.2.2.1,t.1.2.2.2.1,t.1.2.2.2.2.1,t.1.2.2.2.2.2.1)
abbrev VK{a b c d e g h i j l m n o p:Type}(t:(a×b×c×d×e×g×h×i)×(j×l×m)×(n×o)×p):=(t.1.2.2.2.2.2.2.1,t.2.1.1,t.2.1.2.1,t.2.2.1.1)
def aJp:LD:=yl (IH) (yk [] [1,2,6,7,38,39,40] (yj [.dat y1,.fn 257 JG,.dat (.int .u64),.dat yi,.dat y1,.dat yi,.dat yi]) [(64,.cells Zh),(65,.cells Zy),(66,.cells (yj [.nilsl]))]) [(2,Lx)] WA TS VR VK (λk r=>.s _ _ r (λa=>yx 2 Lx ((k.1,((),(),(),()),k.2.1,k.2.2.1,()),(a.1,a.2.1,()),(a.2.2,()),((),()),())) (λb=>yz WA ((((),(),(),()),()),(b.1,b.2.1,()),(b.2.2.1,()),((),()),b.2.2.2,())))
def DM(k:Y1×Int×Int×Int×Y1×Int×jA)(v:Int×Z8):Tr ((Int×Z8)⊕(Z8⊕(Y1×Y2×gD))):=.t (v.1<k.2.2.2.2.2.2.2) (.c _ (r9 k.2.1 v.1) λg=>.t (!g) (.c _ (LW k.1 k.2.2.2.1 v.1) λe=>.c _ (Tx e v.2.1 v.2.2.1 v.2.2.2) λf=>.s _ _ f (λb=>.l (.inl ((wrap .i64 (v.1+1)),b.2.1,b.2.2.1,b.2.2.2))) (λa=>.l (.inr (.inr (a.2.1,a.2.2.1,a.2.2.2,a.1))))) (.l (.inl ((wrap .i64 (v.1+1)),v.2.1,v.2.2.1,v.2.2.2)))) (.l (.inr (.inl (v.2.1,v.2.2.1,v.2.2.2))))
def aLL k v:=aB (λv=>(DM k v).ev) v
abbrev EF:Keep:=yk [] [1,2,6,7,58,59,60] (yj [.dat y1,.fn 257 JG,.dat (.int .u64),.dat yi,.dat y1,.dat yi,.dat yi]) [(64,.cells Zh),(65,.cells Zy),(66,.cells (yj [.nilsl]))]
abbrev Mo:Keep:=yk [] [2] (yj [.fn 257 JG]) [(64,.cells Zh),(65,.cells Zy),(66,.cells (yj [.arr 4928])),(4928,.arr 3 yi)]
def aHe:LD:=yl (DM) (yk [] [1,2,6,7,12,58,59,60,64,65] (yj [.dat y1,.fn 257 JG,.dat (.int .u64),.dat yi,.dat yi,.dat y1,.dat yi,.dat yi,.dat yi,.dat yi]) [(64,.cells Zh),(65,.cells Zy),(66,.cells (yj [.nilsl]))]) [(6,EF)] Mo (λk v=>((k.1,((),(),(),()),k.2.1,k.2.2.1,k.2.2.2.1,k.2.2.2.2.1,k.2.2.2.2.2.1,k.2.2.2.2.2.2.1,k.2.2.2.2.2.2.2,v.1,()),(v.2.1,v.2.2.1,()),(v.2.2.2,()),((),()),())) (λt=>(t.1.1,t.1.2.2.1,t.1.2.2.2.1,t.1.2.2.2.2.1,t.1.2.2.2.2.2.1,t.1.2.2.2.2.2.2.1,t.1.2.2.2.2.2.2.2.1,t.1.2.2.2.2.2.2.2.2.1)) (λt=>(t.1.2.2.2.2.2.2.2.2.2.1,t.2.1.1,t.2.1.2.1,t.2.2.1.1)) (λk r=>.s _ _ r (λa=>yx 6 EF ((k.1,((),(),(),()),k.2.1,k.2.2.1,k.2.2.2.2.1,k.2.2.2.2.2.1,k.2.2.2.2.2.2.1,()),(a.1,a.2.1,()),(a.2.2,()),((),()),())) (λb=>yz Mo ((((),(),(),()),()),(b.1,b.2.1,()),(b.2.2.1,()),((),()),b.2.2.2,())))
def HC(k:Y1×Int×Int×Y1×Int)(v:Int×Z8):Tr ((Int×Z8)⊕(Z8⊕(Y1×Y2×gD))):=.t (v.1<k.2.2.2.2) (.g (aC v.1 (length k.2.2.2.1))<|.c _ (aLL (k.1,k.2.1,k.2.2.1,(getD k.2.2.2.1 (toNat v.1) 0),k.2.2.2.1,k.2.2.2.2,v.1,k.2.2.1) (0,v.2.1,v.2.2.1,v.2.2.2)) λe=>.s _ _ e (λb=>.l (.inl ((wrap .i64 (v.1+1)),b.1,b.2.1,b.2.2))) (λa=>.l (.inr (.inr (a.1,a.2.1,a.2.2.1,a.2.2.2))))) (.l (.inr (.inl (v.2.1,v.2.2.1,v.2.2.2))))
def aLb k v:=aB (λv=>(HC k v).ev) v
abbrev TG:Keep:=yk [] [2] (yj [.fn 257 JG]) [(64,.cells Zh),(65,.cells Zy),(66,.cells (yj [.nilsl]))]
def aJC:LD:=yl (HC) EF [(4,TG)] Mo TS VR VK (λ_ r=>.s _ _ r (λa=>yx 4 TG ((((),(),(),()),()),(a.1,a.2.1,()),(a.2.2,()),((),()),())) (λb=>yz Mo ((((),(),(),()),()),(b.1,b.2.1,()),(b.2.2.1,()),((),()),b.2.2.2,())))
def YI(g:Y1)(_w:List Y1)(a q:Y1)(p:List Y1)(o:Int):Tr (Z8⊕(Y1×Y2×gD)):=.c _ (IJ a) λm=>.c _ (aKe (a,m,(length g:Int),(length g:Int)) (0,q,p,o)) λr=>.s _ _ r (λh=>.c _ (aIz (a,m,(length g:Int),a,(length a:Int)) (0,h.1,h.2.1,h.2.2)) λn=>.s _ _ n (λj=>.c _ (aLb (a,m,(length g:Int),a,(length a:Int)) (0,j.1,j.2.1,j.2.2)) λu=>.s _ _ u (λi=>.l (.inl (i.1,i.2.1,i.2.2))) (λf=>.l (.inr (f.1,f.2.1,f.2.2.1,f.2.2.2)))) (λe=>.l (.inr (e.1,e.2.1,e.2.2.1,e.2.2.2)))) (λb=>.l (.inr (b.1,b.2.1,b.2.2.1,b.2.2.2)))
def MX g e c f b a:=(YI g e c f b a).ev
def aTg:RetK:= {acts:=[],res:=[],sh:=.nil,obs:=[(64,.cells Zh),(65,.cells Zy),(66,.cells (yj [.nilsl]))],pins:=[(2,1,64),(2,2,65),(2,3,66)]}
def aMM:RetK:= {acts:=[.ren 4928 0,.ren 3392 0,.ren 2112 0],res:=[],sh:=.nil,obs:=[(64,.cells Zh),(65,.cells Zy),(66,.cells q8),tK],pins:=[(2,1,64),(2,2,65),(2,3,66)]}
def aLr:FD:= {(yd (yj [.agg Zh,.dat y1,.fn 257 JG]) [(64,.cells Zh),(65,.cells Zy),(66,.cells (yj [.nilsl]))] [.cap 2 0,.cap 2 1,.cap 2 2] (Z8⊕(Y1×Y2×gD)) (λx=>MX x.1.1.1 x.1.1.2.1 x.1.2.1 x.2.1.1 x.2.1.2.1 x.2.2.1.1) (λr=>match r with| .inl a=>([],[(64,.cells [.dat y1 a.1,.dat y2 a.2.1]),(65,.cells [.dat yi a.2.2]),(66,.cells [.nilsl])])| .inr b=>([],[(64,.cells [.dat y1 b.1,.dat y2 b.2.1]),(65,.cells [.dat yi b.2.2.1]),(66,.cells [.arr 0]),(0,.arr 3 yi b.2.2.2)])))with sp:=λr=>.s _ _ r (λa=>.l ([],[(64,.cells [.dat y1 a.1,.dat y2 a.2.1]),(65,.cells [.dat yi a.2.2]),(66,.cells [.nilsl])])) (λb=>.l ([],[(64,.cells [.dat y1 b.1,.dat y2 b.2.1]),(65,.cells [.dat yi b.2.2.1]),(66,.cells [.arr 0]),(0,.arr 3 yi b.2.2.2)])),spok:=λr=>by cases r<;>rfl}
def Rq:Env:=oN [wbrv.1,wbrw.1,wbfk.1,G_zz.1,wcdk.1]
def Qs:List (Nat×LD):=[(0,aHw),(2,aJp),(6,aHe),(4,aJC)]
def Uh:Code:=(f256.body).getD .skip
theorem aMx:(aHw).OK Rq tt bU (fK Qs) (pV Uh 0):=Ug (λ_=>rfl) λ_ _=>by kernel_rfl
theorem aQr:(aJp).OK Rq tt bU (fK Qs) (pV Uh 2):=Ug (λ_=>rfl) λ_ _=>by kernel_rfl
theorem aTd:(aHe).OK Rq tt bU (fK Qs) (pV Uh 6):=Ug (λ_=>rfl) λ_ _=>by kernel_rfl
theorem aSM:(aJC).OK Rq tt bU (fK Qs) (pV Uh 4):=Ug (λ_=>rfl) λ_ _=>by kernel_rfl
theorem aNU:eO Rq tt bU Qs Uh:=Wt (by kernel_rfl) (lpC aMx (lpC aQr (lpC aTd (lpC aSM lpN))))
theorem aQC:dZ prog (256,aLr):=Yg mixed (wV (Wj wbrv.2 (Wj wbrw.2 (Wj wbfk.2 (Wj G_zz.2 (Wj wcdk.2 fdN)))))) Dl (WU aLr Rq aTg aMM bU Qs Uh (λx=>YI x.1.1.1 x.1.1.2.1 x.1.2.1 x.2.1.1 x.2.1.2.1 x.2.2.1.1) (λr=>match r with| .inl a=>.inl ((),(a.1,a.2.1,()),(a.2.2,()),((),()),())| .inr b=>.inr ((),(b.1,b.2.1,()),(b.2.2.1,()),((),()),b.2.2.2,())) func256 aNU (λ_=>by kernel_rfl) λr=>by cases r<;>rfl)
def aLZ:FP prog:=⟨_,aQC⟩
def YG(b:Y1)(a:List Y1)(e:Y1):Tr C5:=.c _ (u6 b a e) λi=>.c _ (MX b a e b a i) λh=>.s _ _ h (λ_=>.l (false,[])) (λf=>.g (0<length f.2.2.2)<|.l (true,f.2.2.2))
def LC c b a:=(YG c b a).ev
def aHV:FP prog:=aH cx func187 [wbjz,aLZ] (yj [.agg Zh,.dat y1]) [] [] (bH YG) ⟨[.own 4 0 3 yi,.ren 896 0],[.tmp 4,.tmp 5],Ho,[tK],[],[]⟩ gX
def EW(k:Y1×Y2)(v:Int×Y1):Tr (gD⊕gD):=.c _ (LC k.1 k.2 v.2) λa=>.t (!a.1) (.l (.inr (v.1,v.2))) (.l (.inl ((wrap .i64 (v.1+1)),a.2)))
def BX k v:=aB (λv=>(EW k v).ev) v
abbrev RV:Keep:=yk [] [4,5,6] (yj [.arr 1024,.dat yi,.dat .bool]) [(1024,.arr 3 yi)]
def aSb:LD:=yl (EW) (yk [.rep 1408 1024] [2,7,8] (yj [.box 2 0,.arr 1024,.dat yi]) [yV,(1024,.arr 3 yi)]) [] RV Bl E8 O5 (λ_ r=>yz RV (((),r.1,true,()),r.2,()))
def aGx(f:Y1)(e:List Y1)(a:Y1):Tr (Int×C5):=.c _ (Fr f e a) λh=>.t (!h) (.l (0,false,[])) (.c _ (A6 a) λg=>.c _ (BX (f,e) (0,g)) λb=>.l (b.1,true,b.2))
def aCX c b a:=(aGx c b a).ev
def aSo:FP prog:=aH cx func161 [Uw,NV,aHV] (yj [.agg Zh,.dat y1]) [] [] (bH aGx) ⟨[.own 4 0 3 yi,.ren 1024 0],[.tmp 4,.tmp 5,.tmp 6],(yj [.arr 0,.dat yi,.dat .bool]),[tK],[],[]⟩ TK bU [(0,aSb)]
noncomputable abbrev IR(p1 p2:Int):=(.g (aC (wrap .u8 (Int.fdiv (Int.fdiv p1 (2^(min (toNat 32) Zk))) (2^(min (toNat p2) Zk)))) (length Zf))<|.l (wrap .i64 ((wrap .i64 ((32:Int)+p2))+(wrap .i64 ((UInt8.toNat (getD Zf (toNat (wrap .u8 (Int.fdiv (Int.fdiv p1 (2^(min (toNat 32) Zk))) (2^(min (toNat p2) Zk))))) 0):Nat):Int)))):Tr Int)
noncomputable abbrev IM(p1 p2:Int):=(.g (aC (wrap .u8 (Int.fdiv p1 (2^(min (toNat p2) Zk)))) (length Zf))<|.l (wrap .i64 ((wrap .i64 ((0:Int)+p2))+(wrap .i64 ((UInt8.toNat (getD Zf (toNat (wrap .u8 (Int.fdiv p1 (2^(min (toNat p2) Zk))))) 0):Nat):Int)))):Tr Int)
def aJw(a:Int):Tr Int:=.t (4294967296<=a) (.g ((0:Int)<=(32:Int))<|.t ((65536:Int)<=(Int.fdiv a (2^(min (toNat 32) Zk)))) (.g ((0:Int)<=(16:Int))<|.t ((256:Int)<=(Int.fdiv (Int.fdiv a (2^(min (toNat 32) Zk))) (2^(min (toNat 16) Zk)))) (.g ((0:Int)<=(8:Int))<|.g (aC (wrap .u8 (Int.fdiv (Int.fdiv (Int.fdiv a (2^(min (toNat 32) Zk))) (2^(min (toNat 16) Zk))) (2^(min (toNat 8) Zk)))) (length Zf))<|.l (wrap .i64 ((wrap .i64 ((wrap .i64 ((32:Int)+16))+8))+(wrap .i64 ((UInt8.toNat (getD Zf (toNat (wrap .u8 (Int.fdiv (Int.fdiv (Int.fdiv a (2^(min (toNat 32) Zk))) (2^(min (toNat 16) Zk))) (2^(min (toNat 8) Zk))))) 0):Nat):Int))))) (IR a 16)) (.t ((256:Int)<=(Int.fdiv a (2^(min (toNat 32) Zk)))) (.g ((0:Int)<=(8:Int))<|IR a 8) (.g (aC (wrap .u8 (Int.fdiv a (2^(min (toNat 32) Zk)))) (length Zf))<|.l (wrap .i64 ((32:Int)+(wrap .i64 ((UInt8.toNat (getD Zf (toNat (wrap .u8 (Int.fdiv a (2^(min (toNat 32) Zk))))) 0):Nat):Int))))))) (.t (65536<=a) (.g ((0:Int)<=(16:Int))<|.t ((256:Int)<=(Int.fdiv a (2^(min (toNat 16) Zk)))) (.g ((0:Int)<=(8:Int))<|.g (aC (wrap .u8 (Int.fdiv (Int.fdiv a (2^(min (toNat 16) Zk))) (2^(min (toNat 8) Zk)))) (length Zf))<|.l (wrap .i64 ((wrap .i64 ((wrap .i64 ((0:Int)+16))+8))+(wrap .i64 ((UInt8.toNat (getD Zf (toNat (wrap .u8 (Int.fdiv (Int.fdiv a (2^(min (toNat 16) Zk))) (2^(min (toNat 8) Zk))))) 0):Nat):Int))))) (IM a 16)) (.t (256<=a) (.g ((0:Int)<=(8:Int))<|IM a 8) (.g (aC (wrap .u8 a) (length Zf))<|.l (wrap .i64 ((0:Int)+(wrap .i64 ((UInt8.toNat (getD Zf (toNat (wrap .u8 a)) 0):Nat):Int)))))))
def aOV a:=(aJw a).ev
def aTc:FP prog:=aH cx func304 [] (yj [.dat (.int .u64)]) [] [] (qH aJw) oD bR
def aKv(b:Int):Tr Int:=.c _ (aOV b) λa=>.l a
def KO a:=(aKv a).ev
def ZI:FP prog:=aH cx func255 [aTc] (yj [.dat (.int .u64)]) [] [] (qH aKv) oD bR
def aKs(k:Int×Int×Yv×Int)(v:Int×Yt):Tr ((Int×Yt)⊕Yt):=.t (k.1<v.1) (.g (aC v.1 (length v.2.1))<|.g (((toNat v.1)<length v.2.1)&&((getD v.2.1 (toNat v.1) 0)<length v.2.2))<|.g (aC (wrap .i64 (v.1-1)) (length v.2.1))<|.g (((toNat (wrap .i64 (v.1-1)))<length v.2.1)&&((getD v.2.1 (toNat (wrap .i64 (v.1-1))) 0)<length v.2.2))<|.c _ (k.2.2.1 ((getD v.2.2 (getD v.2.1 (toNat v.1) 0) []),(getD v.2.2 (getD v.2.1 (toNat (wrap .i64 (v.1-1))) 0) []),())) λa=>.t (a<0) (.g (aC (wrap .i64 (v.1-1)) (length v.2.1))<|.g (((toNat (wrap .i64 (v.1-1)))<length v.2.1)&&((getD v.2.1 (toNat (wrap .i64 (v.1-1))) 0)<length v.2.2))<|.g (aC v.1 (length v.2.1))<|.g (((toNat v.1)<length v.2.1)&&((getD v.2.1 (toNat v.1) 0)<length v.2.2))<|.g (aC v.1 (length v.2.1))<|.g ((toNat v.1)<length v.2.1)<|.g (aC (wrap .i64 (v.1-1)) (length (set v.2.1 (toNat v.1) (getD v.2.1 (toNat (wrap .i64 (v.1-1))) 0))))<|.g ((toNat (wrap .i64 (v.1-1)))<length (set v.2.1 (toNat v.1) (getD v.2.1 (toNat (wrap .i64 (v.1-1))) 0)))<|.l (.inl ((wrap .i64 (v.1-1)),(set (set v.2.1 (toNat v.1) (getD v.2.1 (toNat (wrap .i64 (v.1-1))) 0)) (toNat (wrap .i64 (v.1-1))) (getD v.2.1 (toNat v.1) 0)),v.2.2))) (.l (.inr v.2))) (.l (.inr v.2))
def aRM k v:=aB (λv=>(aKs k v).ev) v
abbrev DI:Keep:=yk [] [0,1,2,3,8] (yj [.arr 64,.dat yi,.dat yi,.clo [y1,y1] yi,.dat yi]) [D7]
abbrev XJ{a b c d e g:Type}(k:a×b×c×d)(v:e×g):=(((),k.1,k.2.1,k.2.2.1,k.2.2.2,v.1,()),v.2,())
abbrev WD{a b c d e g h:Type}(t:(a×b×c×d×e×g)×h):=(t.1.2.1,t.1.2.2.1,t.1.2.2.2.1,t.1.2.2.2.2.1)
abbrev FR{a b c d e g h i j:Type}(t:(a×b×c×d×e×g×h)×i×j):=(t.1.2.2.2.2.2.1,t.2.1)
def aNg:LD:=yl (aKs) (yk [] [0,1,2,3,8,9] (yj [.arr 64,.dat yi,.dat yi,.clo [y1,y1] yi,.dat yi,.dat yi]) [D7]) [(2,DI)] aF XJ WD FR (λk r=>yx 2 DI (((),k.1,k.2.1,k.2.2.1,k.2.2.2,()),r,()))
def aKO(k:Int×Int×Yv)(v:Int×Yt):Tr ((Int×Yt)⊕Yt):=.t (v.1<k.2.1) (.c _ (aRM (k.1,k.2.1,k.2.2,v.1) (v.1,v.2)) λa=>.l (.inl ((wrap .i64 (v.1+1)),a))) (.l (.inr v.2))
def aMp k v:=aB (λv=>(aKO k v).ev) v
abbrev L6:Keep:=yk [] [0] (yj [.arr 64]) [D7]
abbrev JA{a b c d e:Type}(k:a×b×c)(v:d×e):=(((),k.1,k.2.1,k.2.2,v.1,()),v.2,())
abbrev Nv{a b c d e g:Type}(t:(a×b×c×d×e)×g):=(t.1.2.1,t.1.2.2.1,t.1.2.2.2.1)
abbrev Yw{a b c d e g h i:Type}(t:(a×b×c×d×e×g)×h×i):=(t.1.2.2.2.2.1,t.2.1)
def aNI:LD:=yl (aKO) DI [(0,L6)] aF JA Nv Yw (λ_ r=>yx 0 L6 (((),()),r,()))
def aIp(a e:Int)(f:Yv)(g:(List Nat)×Y2):Tr Yt:=.c _ (aMp (a,e,f) ((wrap .i64 (a+1)),g)) λb=>.l b
def aOr b a c e:=(aIp b a c e).ev
abbrev Ow{a b c d e g h:Type}{z:Type _}(f:b->c->d->g->z)(x:(a×b×c×d×e)×g×h):z:=f x.1.2.1 x.1.2.2.1 x.1.2.2.2.1 x.2.1
abbrev HJ:RetK:=⟨[],[],.nil,[D7],[(0,0,64)],[]⟩
abbrev uS{a:Type}(r:a):=((),r,())
def wckb:FP prog:=aH cx func339 [] (yj [.arr 64,.dat yi,.dat yi,.clo [y1,y1] yi]) [D7] [.arg 0] (Ow aIp) HJ uS bU [(2,aNg),(0,aNI)]
def aLR(b:Int):Tr Int:=.c _ (KO (wrap .u64 b)) λa=>.g (0<=a)<|.l (wrap .u64 ((1:Int)*2^(min (toNat a) Zk)))
def aPN a:=(aLR a).ev
def aSV:FP prog:=aH cx func329 [ZI] Zy [] [] (qH aLR) VF bR
def aGJ(a:Int):Tr jA:=.g ((0:Int)<=(13:Int))<|.g ((0:Int)<=(7:Int))<|.g ((0:Int)<=(17:Int))<|.l ((wrap .u64 (BitVec.toNat ((BitVec.ofInt Zk (wrap .u64 (BitVec.toNat ((BitVec.ofInt Zk (wrap .u64 (BitVec.toNat ((BitVec.ofInt Zk a)^^^ (BitVec.ofInt Zk (wrap .u64 (a*2^(min (toNat 13) Zk))))))))^^^ (BitVec.ofInt Zk (Int.fdiv (wrap .u64 (BitVec.toNat ((BitVec.ofInt Zk a)^^^ (BitVec.ofInt Zk (wrap .u64 (a*2^(min (toNat 13) Zk))))))) (2^(min (toNat 7) Zk))))))))^^^ (BitVec.ofInt Zk (wrap .u64 ((wrap .u64 (BitVec.toNat ((BitVec.ofInt Zk (wrap .u64 (BitVec.toNat ((BitVec.ofInt Zk a)^^^ (BitVec.ofInt Zk (wrap .u64 (a*2^(min (toNat 13) Zk))))))))^^^ (BitVec.ofInt Zk (Int.fdiv (wrap .u64 (BitVec.toNat ((BitVec.ofInt Zk a)^^^ (BitVec.ofInt Zk (wrap .u64 (a*2^(min (toNat 13) Zk))))))) (2^(min (toNat 7) Zk)))))))*2^(min (toNat 17) Zk))))))),(wrap .u64 (BitVec.toNat ((BitVec.ofInt Zk (wrap .u64 (BitVec.toNat ((BitVec.ofInt Zk (wrap .u64 (BitVec.toNat ((BitVec.ofInt Zk a)^^^ (BitVec.ofInt Zk (wrap .u64 (a*2^(min (toNat 13) Zk))))))))^^^ (BitVec.ofInt Zk (Int.fdiv (wrap .u64 (BitVec.toNat ((BitVec.ofInt Zk a)^^^ (BitVec.ofInt Zk (wrap .u64 (a*2^(min (toNat 13) Zk))))))) (2^(min (toNat 7) Zk))))))))^^^ (BitVec.ofInt Zk (wrap .u64 ((wrap .u64 (BitVec.toNat ((BitVec.ofInt Zk (wrap .u64 (BitVec.toNat ((BitVec.ofInt Zk a)^^^ (BitVec.ofInt Zk (wrap .u64 (a*2^(min (toNat 13) Zk))))))))^^^ (BitVec.ofInt Zk (Int.fdiv (wrap .u64 (BitVec.toNat ((BitVec.ofInt Zk a)^^^ (BitVec.ofInt Zk (wrap .u64 (a*2^(min (toNat 13) Zk))))))) (2^(min (toNat 7) Zk)))))))*2^(min (toNat 17) Zk))))))))
def aSW a:=(aGJ a).ev
abbrev Xk{a b:Type}(r:a×b):=((r.1,()),(r.2,()),())
def aOL:FP prog:=aH cx func330 [] (yj [.box 64 0]) [(64,.cells (yj [.dat (.int .u64)]))] [.arg 0] ((λf x=>f x.2.1.1) aGJ) ⟨[],[.tmp 2],(yj [.dat (.int .u64)]),[(64,.cells (yj [.dat (.int .u64)]))],[(0,0,64)],[]⟩ Xk
def aLC(k:Int×jA)(v:Int×Yt×Int):Tr ((Int×Yt×Int)⊕Yt):=.g (!decide ((4:Int)=0))<|.t (v.1<=(wrap .i64 ((wrap .i64 (k.1+(wrap .i64 ((wrap .i64 (Int.tdiv k.2.1 4))*(2:Int)))))+1))) (.c _ (aSW v.2.2) λa=>.t (k.2.1<=(wrap .i64 (wrap .u64 (BitVec.toNat ((BitVec.ofInt Zk a.1)&&& (BitVec.ofInt Zk (wrap .u64 (k.2.2-1)))))))) (.g (aC (wrap .i64 (k.1+(wrap .i64 ((wrap .i64 (wrap .u64 (BitVec.toNat ((BitVec.ofInt Zk a.1)&&& (BitVec.ofInt Zk (wrap .u64 (k.2.2-1))))))) -k.2.1)))) (length v.2.1.1))<|.g (((toNat (wrap .i64 (k.1+(wrap .i64 ((wrap .i64 (wrap .u64 (BitVec.toNat ((BitVec.ofInt Zk a.1)&&& (BitVec.ofInt Zk (wrap .u64 (k.2.2-1))))))) -k.2.1)))))<length v.2.1.1)&&((getD v.2.1.1 (toNat (wrap .i64 (k.1+(wrap .i64 ((wrap .i64 (wrap .u64 (BitVec.toNat ((BitVec.ofInt Zk a.1)&&& (BitVec.ofInt Zk (wrap .u64 (k.2.2-1))))))) -k.2.1))))) 0)<length v.2.1.2))<|.g (aC v.1 (length v.2.1.1))<|.g (((toNat v.1)<length v.2.1.1)&&((getD v.2.1.1 (toNat v.1) 0)<length v.2.1.2))<|.g (aC v.1 (length v.2.1.1))<|.g ((toNat v.1)<length v.2.1.1)<|.g (aC (wrap .i64 (k.1+(wrap .i64 ((wrap .i64 (wrap .u64 (BitVec.toNat ((BitVec.ofInt Zk a.1)&&& (BitVec.ofInt Zk (wrap .u64 (k.2.2-1))))))) -k.2.1)))) (length (set v.2.1.1 (toNat v.1) (getD v.2.1.1 (toNat (wrap .i64 (k.1+(wrap .i64 ((wrap .i64 (wrap .u64 (BitVec.toNat ((BitVec.ofInt Zk a.1)&&& (BitVec.ofInt Zk (wrap .u64 (k.2.2-1))))))) -k.2.1))))) 0))))<|.g ((toNat (wrap .i64 (k.1+(wrap .i64 ((wrap .i64 (wrap .u64 (BitVec.toNat ((BitVec.ofInt Zk a.1)&&& (BitVec.ofInt Zk (wrap .u64 (k.2.2-1))))))) -k.2.1)))))<length (set v.2.1.1 (toNat v.1) (getD v.2.1.1 (toNat (wrap .i64 (k.1+(wrap .i64 ((wrap .i64 (wrap .u64 (BitVec.toNat ((BitVec.ofInt Zk a.1)&&& (BitVec.ofInt Zk (wrap .u64 (k.2.2-1))))))) -k.2.1))))) 0)))<|.l (.inl ((wrap .i64 (v.1+1)),((set (set v.2.1.1 (toNat v.1) (getD v.2.1.1 (toNat (wrap .i64 (k.1+(wrap .i64 ((wrap .i64 (wrap .u64 (BitVec.toNat ((BitVec.ofInt Zk a.1)&&& (BitVec.ofInt Zk (wrap .u64 (k.2.2-1))))))) -k.2.1))))) 0)) (toNat (wrap .i64 (k.1+(wrap .i64 ((wrap .i64 (wrap .u64 (BitVec.toNat ((BitVec.ofInt Zk a.1)&&& (BitVec.ofInt Zk (wrap .u64 (k.2.2-1))))))) -k.2.1))))) (getD v.2.1.1 (toNat v.1) 0)),v.2.1.2),a.2))) (.g (aC (wrap .i64 (k.1+(wrap .i64 (wrap .u64 (BitVec.toNat ((BitVec.ofInt Zk a.1)&&& (BitVec.ofInt Zk (wrap .u64 (k.2.2-1))))))))) (length v.2.1.1))<|.g (((toNat (wrap .i64 (k.1+(wrap .i64 (wrap .u64 (BitVec.toNat ((BitVec.ofInt Zk a.1)&&& (BitVec.ofInt Zk (wrap .u64 (k.2.2-1))))))))))<length v.2.1.1)&&((getD v.2.1.1 (toNat (wrap .i64 (k.1+(wrap .i64 (wrap .u64 (BitVec.toNat ((BitVec.ofInt Zk a.1)&&& (BitVec.ofInt Zk (wrap .u64 (k.2.2-1)))))))))) 0)<length v.2.1.2))<|.g (aC v.1 (length v.2.1.1))<|.g (((toNat v.1)<length v.2.1.1)&&((getD v.2.1.1 (toNat v.1) 0)<length v.2.1.2))<|.g (aC v.1 (length v.2.1.1))<|.g ((toNat v.1)<length v.2.1.1)<|.g (aC (wrap .i64 (k.1+(wrap .i64 (wrap .u64 (BitVec.toNat ((BitVec.ofInt Zk a.1)&&& (BitVec.ofInt Zk (wrap .u64 (k.2.2-1))))))))) (length (set v.2.1.1 (toNat v.1) (getD v.2.1.1 (toNat (wrap .i64 (k.1+(wrap .i64 (wrap .u64 (BitVec.toNat ((BitVec.ofInt Zk a.1)&&& (BitVec.ofInt Zk (wrap .u64 (k.2.2-1)))))))))) 0))))<|.g ((toNat (wrap .i64 (k.1+(wrap .i64 (wrap .u64 (BitVec.toNat ((BitVec.ofInt Zk a.1)&&& (BitVec.ofInt Zk (wrap .u64 (k.2.2-1))))))))))<length (set v.2.1.1 (toNat v.1) (getD v.2.1.1 (toNat (wrap .i64 (k.1+(wrap .i64 (wrap .u64 (BitVec.toNat ((BitVec.ofInt Zk a.1)&&& (BitVec.ofInt Zk (wrap .u64 (k.2.2-1)))))))))) 0)))<|.l (.inl ((wrap .i64 (v.1+1)),((set (set v.2.1.1 (toNat v.1) (getD v.2.1.1 (toNat (wrap .i64 (k.1+(wrap .i64 (wrap .u64 (BitVec.toNat ((BitVec.ofInt Zk a.1)&&& (BitVec.ofInt Zk (wrap .u64 (k.2.2-1)))))))))) 0)) (toNat (wrap .i64 (k.1+(wrap .i64 (wrap .u64 (BitVec.toNat ((BitVec.ofInt Zk a.1)&&& (BitVec.ofInt Zk (wrap .u64 (k.2.2-1)))))))))) (getD v.2.1.1 (toNat v.1) 0)),v.2.1.2),a.2)))) (.l (.inr v.2.1))
def aPW k v:=aB (λv=>(aLC k v).ev) v
def aMg:LD:=yl (aLC) (yk [] [0,1,8,9,10,11] (yj [.arr 64,.dat yi,.dat yi,.box 9 0,.dat (.int .u64),.dat yi]) [D7,(9,.cells (yj [.dat (.int .u64)]))]) [(0,L6)] aF (λk v=>(((),k.1,k.2.1,(),k.2.2,v.1,()),v.2.1,(v.2.2,()),())) (λt=>(t.1.2.1,t.1.2.2.1,t.1.2.2.2.2.1)) (λt=>(t.1.2.2.2.2.2.1,t.2.1,t.2.2.1.1)) (λ_ r=>yx 0 L6 (((),()),r,()))
def aKX(a b:Int)(_i:Yv)(e:(List Nat)×Y2):Tr Yt:=.t ((8:Int)<=(wrap .i64 (b-a))) (.c _ (aPN (wrap .i64 (b-a))) λh=>.g (!decide ((4:Int)=0))<|.c _ (aPW (a,(wrap .i64 (b-a)),h) ((wrap .i64 ((wrap .i64 (a+(wrap .i64 ((wrap .i64 (Int.tdiv (wrap .i64 (b-a)) 4))*(2:Int))))) -1)),e,(wrap .u64 (wrap .i64 (b-a))))) λf=>.l f) (.l e)
def aRC b a c e:=(aKX b a c e).ev
def wckf:FP prog:=aH cx func341 [aSV,aOL] (yj [.arr 64,.dat yi,.dat yi,.clo [y1,y1] yi]) [D7] [.arg 0] (Ow aKX) HJ uS bU [(0,aMg)]
def aJH(e:List Y1)(b a:Int)(h:Yv)(f:Int):Tr (Int×jA):=.g (aC a (length e))<|.g (aC b (length e))<|.c _ (h ((getD e (toNat a) []),(getD e (toNat b) []),())) λi=>.t (i<0) (.l (a,b,(wrap .i64 (f+1)))) (.l (b,a,f))
def aAt f c b a e:=(aJH f c b a e).ev
def aOi:FP prog:=aH cx func352 [] (yj [.dat y2,.dat yi,.dat yi,.box 64 0,.clo [y1,y1] yi]) [(64,.cells Zy)] [.arg 3] ((λf x=>f x.1.1 x.1.2.1 x.1.2.2.1 x.1.2.2.2.2.1 x.2.1.1) aJH) ⟨[],[.tmp 10,.tmp 11],(yj [.dat yi,.dat yi]),[(64,.cells Zy)],[(3,0,64)],[]⟩ (λr=>((r.1,r.2.1,()),(r.2.2,()),()))
def aGO(e:List Y1)(j i m:Int)(a:Yv)(h:Int):Tr jA:=.c _ (aAt e j i a h) λb=>.c _ (aAt e b.2.1 m a b.2.2) λf=>.c _ (aAt e b.1 f.1 a f.2.2) λg=>.l (g.2.1,g.2.2)
def aBH g e c f a b:=(aGO g e c f a b).ev
def aJd:FP prog:=aH cx func351 [aOi] (yj [.dat y2,.dat yi,.dat yi,.dat yi,.box 64 0,.clo [y1,y1] yi]) [(64,.cells Zy)] [.arg 4] ((λf x=>f x.1.1 x.1.2.1 x.1.2.2.1 x.1.2.2.2.1 x.1.2.2.2.2.2.1 x.2.1.1) aGO) ⟨[],[.tmp 12],Zy,[(64,.cells Zy)],[(4,0,64)],[]⟩ Xk
def aHL(g:List Y1)(a:Int)(f:Yv)(e:Int):Tr jA:=.c _ (aBH g (wrap .i64 (a-1)) a (wrap .i64 (a+1)) f e) λb=>.l (b.1,b.2)
def aBL e b c a:=(aHL e b c a).ev
def aOP:FP prog:=aH cx func350 [aJd] (yj [.dat y2,.dat yi,.box 64 0,.clo [y1,y1] yi]) [(64,.cells Zy)] [.arg 2] ((λf x=>f x.1.1 x.1.2.1 x.1.2.2.2.1 x.2.1.1) aHL) ⟨[],[.tmp 8],Zy,[(64,.cells Zy)],[(2,0,64)],[]⟩ Xk
noncomputable abbrev Il(p1 p2 p3:Int):=(.l ((wrap .i64 (p1+(wrap .i64 ((wrap .i64 (Int.tdiv (wrap .i64 (p2-p1)) 4))*(2:Int))))),p3):Tr jA)
def aIt(i:List Y1)(a b:Int)(f:Yv):Tr jA:=.g (!decide ((4:Int)=0))<|.g (!decide ((4:Int)=0))<|.g (!decide ((4:Int)=0))<|.t ((8:Int)<=(wrap .i64 (b-a))) (.t ((50:Int)<=(wrap .i64 (b-a))) (.c _ (aBL i (wrap .i64 (a+(wrap .i64 ((wrap .i64 (Int.tdiv (wrap .i64 (b-a)) 4))*(1:Int))))) f 0) λm=>.c _ (aBL i (wrap .i64 (a+(wrap .i64 ((wrap .i64 (Int.tdiv (wrap .i64 (b-a)) 4))*(2:Int))))) f m.2) λj=>.c _ (aBL i (wrap .i64 (a+(wrap .i64 ((wrap .i64 (Int.tdiv (wrap .i64 (b-a)) 4))*(3:Int))))) f j.2) λn=>.c _ (aBH i m.1 j.1 n.1 f n.2) λh=>.t (h.2==0) (.l (h.1,1)) (.t (h.2==12) (.l (h.1,2)) (.l (h.1,0)))) (.c _ (aBH i (wrap .i64 (a+(wrap .i64 ((wrap .i64 (Int.tdiv (wrap .i64 (b-a)) 4))*(1:Int))))) (wrap .i64 (a+(wrap .i64 ((wrap .i64 (Int.tdiv (wrap .i64 (b-a)) 4))*(2:Int))))) (wrap .i64 (a+(wrap .i64 ((wrap .i64 (Int.tdiv (wrap .i64 (b-a)) 4))*(3:Int))))) f 0) λe=>.t (e.2==0) (.l (e.1,1)) (.t (e.2==12) (.l (e.1,2)) (.l (e.1,0))))) (.t ((0:Int)==(0:Int)) (Il a b 1) (.t ((0:Int)==(12:Int)) (Il a b 2) (Il a b 0)))
def aKW e b a c:=(aIt e b a c).ev
def wckm:FP prog:=aH cx func342 [aOP,aJd] (yj [.dat y2,.dat yi,.dat yi,.clo [y1,y1] yi]) [] [] ((λf x=>f x.1.1 x.1.2.1 x.1.2.2.1 x.1.2.2.2.1) aIt) (yr [.tmp 8,.tmp 9] (yj [.dat yi,.dat yi])) dD
def aJN(k:Int×Yv×Int×Yt)(v:Int):Tr (Int⊕Int):=.t (v<=k.2.2.1) (.g (aC v (length k.2.2.2.1))<|.g (((toNat v)<length k.2.2.2.1)&&((getD k.2.2.2.1 (toNat v) 0)<length k.2.2.2.2))<|.g (aC k.1 (length k.2.2.2.1))<|.g (((toNat k.1)<length k.2.2.2.1)&&((getD k.2.2.2.1 (toNat k.1) 0)<length k.2.2.2.2))<|.c _ (k.2.1 ((getD k.2.2.2.2 (getD k.2.2.2.1 (toNat v) 0) []),(getD k.2.2.2.2 (getD k.2.2.2.1 (toNat k.1) 0) []),())) λa=>.t (a<0) (.l (.inl (wrap .i64 (v+1)))) (.l (.inr v))) (.l (.inr v))
def aPV k v:=aB (λv=>(aJN k v).ev) v
abbrev mN:Keep:=yk [] [0,1,4,12,13] (yj [.arr 64,.dat yi,.clo [y1,y1] yi,.dat yi,.dat yi]) [D7]
abbrev SM{a b c d e:Type}(k:a×b×c×d)(v:e):=(((),k.1,k.2.1,v,k.2.2.1,()),k.2.2.2,())
abbrev WQ{a b c d e g h i:Type}(t:(a×b×c×d×e×g)×h×i):=(t.1.2.1,t.1.2.2.1,t.1.2.2.2.2.1,t.2.1)
def aSv:LD:=yl (aJN) mN [(0,mN)] aF SM WQ rJ (λk r=>yx 0 mN (((),k.1,k.2.1,r,k.2.2.1,()),k.2.2.2,()))
def aKH(k:Int×Yv×Int×Yt)(v:Int):Tr (Int⊕Int):=.t (k.2.2.1<=v) (.g (aC v (length k.2.2.2.1))<|.g (((toNat v)<length k.2.2.2.1)&&((getD k.2.2.2.1 (toNat v) 0)<length k.2.2.2.2))<|.g (aC k.1 (length k.2.2.2.1))<|.g (((toNat k.1)<length k.2.2.2.1)&&((getD k.2.2.2.1 (toNat k.1) 0)<length k.2.2.2.2))<|.c _ (k.2.1 ((getD k.2.2.2.2 (getD k.2.2.2.1 (toNat v) 0) []),(getD k.2.2.2.2 (getD k.2.2.2.1 (toNat k.1) 0) []),())) λa=>.t (!(a<0)) (.l (.inl (wrap .i64 (v-1)))) (.l (.inr v))) (.l (.inr v))
def aRc k v:=aB (λv=>(aKH k v).ev) v
abbrev RN{a b c d e:Type}(k:a×b×c×d)(v:e):=(((),k.1,k.2.1,k.2.2.1,v,()),k.2.2.2,())
abbrev WR{a b c d e g h:Type}(t:(a×b×c×d×e)×g×h):=(t.1.2.1,t.1.2.2.1,t.1.2.2.2.1,t.2.1)
def aMw:LD:=yl (aKH) mN [(2,mN)] aF RN WR l4 (λk r=>yx 2 mN (((),k.1,k.2.1,k.2.2.1,r,()),k.2.2.2,()))
def aGV(k:Int×Yv×Int×Yt)(v:Int):Tr (Int⊕Int):=.t (v<=k.2.2.1) (.g (aC v (length k.2.2.2.1))<|.g (((toNat v)<length k.2.2.2.1)&&((getD k.2.2.2.1 (toNat v) 0)<length k.2.2.2.2))<|.g (aC k.1 (length k.2.2.2.1))<|.g (((toNat k.1)<length k.2.2.2.1)&&((getD k.2.2.2.1 (toNat k.1) 0)<length k.2.2.2.2))<|.c _ (k.2.1 ((getD k.2.2.2.2 (getD k.2.2.2.1 (toNat v) 0) []),(getD k.2.2.2.2 (getD k.2.2.2.1 (toNat k.1) 0) []),())) λa=>.t (a<0) (.l (.inl (wrap .i64 (v+1)))) (.l (.inr v))) (.l (.inr v))
def aMN k v:=aB (λv=>(aGV k v).ev) v
def aNO:LD:=yl (aGV) mN [(6,mN)] aF SM WQ rJ (λk r=>yx 6 mN (((),k.1,k.2.1,r,k.2.2.1,()),k.2.2.2,()))
def aKz(k:Int×Yv×Int×Yt)(v:Int):Tr (Int⊕Int):=.t (k.2.2.1<=v) (.g (aC v (length k.2.2.2.1))<|.g (((toNat v)<length k.2.2.2.1)&&((getD k.2.2.2.1 (toNat v) 0)<length k.2.2.2.2))<|.g (aC k.1 (length k.2.2.2.1))<|.g (((toNat k.1)<length k.2.2.2.1)&&((getD k.2.2.2.1 (toNat k.1) 0)<length k.2.2.2.2))<|.c _ (k.2.1 ((getD k.2.2.2.2 (getD k.2.2.2.1 (toNat v) 0) []),(getD k.2.2.2.2 (getD k.2.2.2.1 (toNat k.1) 0) []),())) λa=>.t (!(a<0)) (.l (.inl (wrap .i64 (v-1)))) (.l (.inr v))) (.l (.inr v))
def aOs k v:=aB (λv=>(aKz k v).ev) v
def aQp:LD:=yl (aKz) mN [(8,mN)] aF RN WR l4 (λk r=>yx 8 mN (((),k.1,k.2.1,k.2.2.1,r,()),k.2.2.2,()))
def aIO(k:Int×Yv)(v:Int×Int×Yt):Tr ((Int×Int×Yt)⊕(Int×Yt)):=.c _ (aMN (k.1,k.2,v.2.1,v.2.2) v.1) λa=>.c _ (aOs (k.1,k.2,a,v.2.2) v.2.1) λb=>.t (b<a) (.l (.inr (b,v.2.2))) (.g (aC b (length v.2.2.1))<|.g (((toNat b)<length v.2.2.1)&&((getD v.2.2.1 (toNat b) 0)<length v.2.2.2))<|.g (aC a (length v.2.2.1))<|.g (((toNat a)<length v.2.2.1)&&((getD v.2.2.1 (toNat a) 0)<length v.2.2.2))<|.g (aC a (length v.2.2.1))<|.g ((toNat a)<length v.2.2.1)<|.g (aC b (length (set v.2.2.1 (toNat a) (getD v.2.2.1 (toNat b) 0))))<|.g ((toNat b)<length (set v.2.2.1 (toNat a) (getD v.2.2.1 (toNat b) 0)))<|.l (.inl ((wrap .i64 (a+1)),(wrap .i64 (b-1)),(set (set v.2.2.1 (toNat a) (getD v.2.2.1 (toNat b) 0)) (toNat b) (getD v.2.2.1 (toNat a) 0)),v.2.2.2)))
def aSS k v:=aB (λv=>(aIO k v).ev) v
abbrev XD:Keep:=yk [] [0,1,13] (yj [.arr 64,.dat yi,.dat yi]) [D7]
def aQz:LD:=yl (aIO) mN [(4,XD)] aF (λk v=>(((),k.1,k.2,v.1,v.2.1,()),v.2.2,())) iM RX (λk r=>yx 4 XD (((),k.1,r.1,()),r.2,()))
def aHU(b m e:Int)(j:Yv)(a:(List Nat)×Y2):Tr (Int×Bool×Yt):=.g (aC e (length a.1))<|.g (((toNat e)<length a.1)&&((getD a.1 (toNat e) 0)<length a.2))<|.g (aC b (length a.1))<|.g (((toNat b)<length a.1)&&((getD a.1 (toNat b) 0)<length a.2))<|.g (aC b (length a.1))<|.g ((toNat b)<length a.1)<|.g (aC e (length (set a.1 (toNat b) (getD a.1 (toNat e) 0))))<|.g ((toNat e)<length (set a.1 (toNat b) (getD a.1 (toNat e) 0)))<|.c _ (aPV (b,j,(wrap .i64 (m-1)),(set (set a.1 (toNat b) (getD a.1 (toNat e) 0)) (toNat e) (getD a.1 (toNat b) 0)),a.2) (wrap .i64 (b+1))) λi=>.c _ (aRc (b,j,i,(set (set a.1 (toNat b) (getD a.1 (toNat e) 0)) (toNat e) (getD a.1 (toNat b) 0)),a.2) (wrap .i64 (m-1))) λh=>.t (h<i) (.g (aC b (length (set (set a.1 (toNat b) (getD a.1 (toNat e) 0)) (toNat e) (getD a.1 (toNat b) 0))))<|.g (((toNat b)<length (set (set a.1 (toNat b) (getD a.1 (toNat e) 0)) (toNat e) (getD a.1 (toNat b) 0)))&&((getD (set (set a.1 (toNat b) (getD a.1 (toNat e) 0)) (toNat e) (getD a.1 (toNat b) 0)) (toNat b) 0)<length a.2))<|.g (aC h (length (set (set a.1 (toNat b) (getD a.1 (toNat e) 0)) (toNat e) (getD a.1 (toNat b) 0))))<|.g (((toNat h)<length (set (set a.1 (toNat b) (getD a.1 (toNat e) 0)) (toNat e) (getD a.1 (toNat b) 0)))&&((getD (set (set a.1 (toNat b) (getD a.1 (toNat e) 0)) (toNat e) (getD a.1 (toNat b) 0)) (toNat h) 0)<length a.2))<|.g (aC h (length (set (set a.1 (toNat b) (getD a.1 (toNat e) 0)) (toNat e) (getD a.1 (toNat b) 0))))<|.g ((toNat h)<length (set (set a.1 (toNat b) (getD a.1 (toNat e) 0)) (toNat e) (getD a.1 (toNat b) 0)))<|.g (aC b (length (set (set (set a.1 (toNat b) (getD a.1 (toNat e) 0)) (toNat e) (getD a.1 (toNat b) 0)) (toNat h) (getD (set (set a.1 (toNat b) (getD a.1 (toNat e) 0)) (toNat e) (getD a.1 (toNat b) 0)) (toNat b) 0))))<|.g ((toNat b)<length (set (set (set a.1 (toNat b) (getD a.1 (toNat e) 0)) (toNat e) (getD a.1 (toNat b) 0)) (toNat h) (getD (set (set a.1 (toNat b) (getD a.1 (toNat e) 0)) (toNat e) (getD a.1 (toNat b) 0)) (toNat b) 0)))<|.l (h,true,(set (set (set (set a.1 (toNat b) (getD a.1 (toNat e) 0)) (toNat e) (getD a.1 (toNat b) 0)) (toNat h) (getD (set (set a.1 (toNat b) (getD a.1 (toNat e) 0)) (toNat e) (getD a.1 (toNat b) 0)) (toNat b) 0)) (toNat b) (getD (set (set a.1 (toNat b) (getD a.1 (toNat e) 0)) (toNat e) (getD a.1 (toNat b) 0)) (toNat h) 0)),a.2)) (.g (aC h (length (set (set a.1 (toNat b) (getD a.1 (toNat e) 0)) (toNat e) (getD a.1 (toNat b) 0))))<|.g (((toNat h)<length (set (set a.1 (toNat b) (getD a.1 (toNat e) 0)) (toNat e) (getD a.1 (toNat b) 0)))&&((getD (set (set a.1 (toNat b) (getD a.1 (toNat e) 0)) (toNat e) (getD a.1 (toNat b) 0)) (toNat h) 0)<length a.2))<|.g (aC i (length (set (set a.1 (toNat b) (getD a.1 (toNat e) 0)) (toNat e) (getD a.1 (toNat b) 0))))<|.g (((toNat i)<length (set (set a.1 (toNat b) (getD a.1 (toNat e) 0)) (toNat e) (getD a.1 (toNat b) 0)))&&((getD (set (set a.1 (toNat b) (getD a.1 (toNat e) 0)) (toNat e) (getD a.1 (toNat b) 0)) (toNat i) 0)<length a.2))<|.g (aC i (length (set (set a.1 (toNat b) (getD a.1 (toNat e) 0)) (toNat e) (getD a.1 (toNat b) 0))))<|.g ((toNat i)<length (set (set a.1 (toNat b) (getD a.1 (toNat e) 0)) (toNat e) (getD a.1 (toNat b) 0)))<|.g (aC h (length (set (set (set a.1 (toNat b) (getD a.1 (toNat e) 0)) (toNat e) (getD a.1 (toNat b) 0)) (toNat i) (getD (set (set a.1 (toNat b) (getD a.1 (toNat e) 0)) (toNat e) (getD a.1 (toNat b) 0)) (toNat h) 0))))<|.g ((toNat h)<length (set (set (set a.1 (toNat b) (getD a.1 (toNat e) 0)) (toNat e) (getD a.1 (toNat b) 0)) (toNat i) (getD (set (set a.1 (toNat b) (getD a.1 (toNat e) 0)) (toNat e) (getD a.1 (toNat b) 0)) (toNat h) 0)))<|.c _ (aSS (b,j) ((wrap .i64 (i+1)),(wrap .i64 (h-1)),(set (set (set (set a.1 (toNat b) (getD a.1 (toNat e) 0)) (toNat e) (getD a.1 (toNat b) 0)) (toNat i) (getD (set (set a.1 (toNat b) (getD a.1 (toNat e) 0)) (toNat e) (getD a.1 (toNat b) 0)) (toNat h) 0)) (toNat h) (getD (set (set a.1 (toNat b) (getD a.1 (toNat e) 0)) (toNat e) (getD a.1 (toNat b) 0)) (toNat i) 0)),a.2)) λf=>.g (aC b (length f.2.1))<|.g (((toNat b)<length f.2.1)&&((getD f.2.1 (toNat b) 0)<length f.2.2))<|.g (aC f.1 (length f.2.1))<|.g (((toNat f.1)<length f.2.1)&&((getD f.2.1 (toNat f.1) 0)<length f.2.2))<|.g (aC f.1 (length f.2.1))<|.g ((toNat f.1)<length f.2.1)<|.g (aC b (length (set f.2.1 (toNat f.1) (getD f.2.1 (toNat b) 0))))<|.g ((toNat b)<length (set f.2.1 (toNat f.1) (getD f.2.1 (toNat b) 0)))<|.l (f.1,false,(set (set f.2.1 (toNat f.1) (getD f.2.1 (toNat b) 0)) (toNat b) (getD f.2.1 (toNat f.1) 0)),f.2.2))
def aIC c b e a f:=(aHU c b e a f).ev
def wckp:FP prog:=aH cx func346 [] (yj [.arr 64,.dat yi,.dat yi,.dat yi,.clo [y1,y1] yi]) [D7] [.arg 0] ((λf x=>f x.1.2.1 x.1.2.2.1 x.1.2.2.2.1 x.1.2.2.2.2.1 x.2.1) aHU) ⟨[],[.tmp 10,.tmp 11],(yj [.dat yi,.dat .bool]),[D7],[(0,0,64)],[]⟩ (λr=>((r.1,r.2.1,()),r.2.2,())) bU [(0,aSv),(2,aMw),(6,aNO),(8,aQp),(4,aQz)]
noncomputable abbrev HZ(p1 p2 p3:Int)(p4:HL [y1,y1]->Option Int)(p5:(List Nat)×Y2)(p6:(Int)->(Int)->(Int)->(Yv)->Yt->Option Yt)(p7:Int):=(.c _ (aIC p1 p2 p3 p4 p5) λa=>.g (!decide ((8:Int)=0))<|.t ((wrap .i64 (a.1-p1))<(wrap .i64 (p2-a.1))) (.c _ (p6 p1 a.1 (wrap .i64 (p7-1)) p4 a.2.2) λe=>.l (.inl ((wrap .i64 (a.1+1)),p2,(wrap .i64 (p7-1)),((wrap .i64 (Int.tdiv (wrap .i64 (p2-p1)) 8))<=(wrap .i64 (a.1-p1))),a.2.1,e))) (.c _ (p6 (wrap .i64 (a.1+1)) p2 (wrap .i64 (p7-1)) p4 a.2.2) λb=>.l (.inl (p1,a.1,(wrap .i64 (p7-1)),((wrap .i64 (Int.tdiv (wrap .i64 (p2-p1)) 8))<=(wrap .i64 (p2-a.1))),a.2.1,b))):Tr ((Int×Ybx)⊕Yt))
noncomputable abbrev Iy(p1:Int)(p2:List Nat)(p3:List Y1)(p4:Int)(p5:HL [y1,y1]->Option Int)(p6:Int)(p7:(List Nat)×Y2)(p8:(Int)->(Int)->(Int)->(Yv)->Yt->Option Yt)(p9:Int):=(.t (0<p1) (.g (aC (wrap .i64 (p1-1)) (length p2))<|.g (((toNat (wrap .i64 (p1-1)))<length p2)&&((getD p2 (toNat (wrap .i64 (p1-1))) 0)<length p3))<|.g (aC p4 (length p2))<|.g (((toNat p4)<length p2)&&((getD p2 (toNat p4) 0)<length p3))<|.c _ (p5 ((getD p3 (getD p2 (toNat (wrap .i64 (p1-1))) 0) []),(getD p3 (getD p2 (toNat p4) 0) []),())) λa=>.t (!(a<0)) (.f) (HZ p1 p6 p4 p5 p7 p8 p9)) (HZ p1 p6 p4 p5 p7 p8 p9):Tr ((Int×Ybx)⊕Yt))
noncomputable abbrev ET(p1 p2 p3:Int)(p4:HL [y1,y1]->Option Int)(p5:(List Nat)×Y2)(p6:(Int)->(Int)->(Int)->(Yv)->Yt->Option Yt)(p7:Int):=(.c _ (aIC p1 p2 p3 p4 p5) λa=>.g (!decide ((8:Int)=0))<|.t ((wrap .i64 (a.1-p1))<(wrap .i64 (p2-a.1))) (.c _ (p6 p1 a.1 p7 p4 a.2.2) λb=>.l (.inl ((wrap .i64 (a.1+1)),p2,p7,((wrap .i64 (Int.tdiv (wrap .i64 (p2-p1)) 8))<=(wrap .i64 (a.1-p1))),a.2.1,b))) (.c _ (p6 (wrap .i64 (a.1+1)) p2 p7 p4 a.2.2) λe=>.l (.inl (p1,a.1,p7,((wrap .i64 (Int.tdiv (wrap .i64 (p2-p1)) 8))<=(wrap .i64 (p2-a.1))),a.2.1,e))):Tr ((Int×Ybx)⊕Yt))
noncomputable abbrev Ls(p1:Int)(p2:List Nat)(p3:List Y1)(p4:Int)(p5:HL [y1,y1]->Option Int)(p6:Int)(p7:(List Nat)×Y2)(p8:(Int)->(Int)->(Int)->(Yv)->Yt->Option Yt)(p9:Int):=(.t (0<p1) (.g (aC (wrap .i64 (p1-1)) (length p2))<|.g (((toNat (wrap .i64 (p1-1)))<length p2)&&((getD p2 (toNat (wrap .i64 (p1-1))) 0)<length p3))<|.g (aC p4 (length p2))<|.g (((toNat p4)<length p2)&&((getD p2 (toNat p4) 0)<length p3))<|.c _ (p5 ((getD p3 (getD p2 (toNat (wrap .i64 (p1-1))) 0) []),(getD p3 (getD p2 (toNat p4) 0) []),())) λa=>.t (!(a<0)) (.f) (ET p1 p6 p4 p5 p7 p8 p9)) (ET p1 p6 p4 p5 p7 p8 p9):Tr ((Int×Ybx)⊕Yt))
def aIg(b:(Int)->(Int)->(Int)->(Yv)->Yt->Option Yt)(k:Yv)(v:Int×Ybx):Tr ((Int×Ybx)⊕Yt):=.t ((wrap .i64 (v.2.1-v.1))<=(12:Int)) (.c _ (aOr v.1 v.2.1 k v.2.2.2.2.2) λh=>.l (.inr h)) (.t (v.2.2.1==0) (.f) (.t (!v.2.2.2.1) (.c _ (aRC v.1 v.2.1 k v.2.2.2.2.2) λa=>.c _ (aKW (bI a.1 a.2) v.1 v.2.1 k) λe=>.t (e.2==2) (.f) (.t v.2.2.2.1 (.t v.2.2.2.2.1 (.t (e.2==1) (.f) (Iy v.1 a.1 a.2 e.1 k v.2.1 a b v.2.2.1)) (Iy v.1 a.1 a.2 e.1 k v.2.1 a b v.2.2.1)) (Iy v.1 a.1 a.2 e.1 k v.2.1 a b v.2.2.1))) (.c _ (aKW (bI v.2.2.2.2.2.1 v.2.2.2.2.2.2) v.1 v.2.1 k) λg=>.t (g.2==2) (.f) (.t v.2.2.2.1 (.t v.2.2.2.2.1 (.t (g.2==1) (.f) (Ls v.1 v.2.2.2.2.2.1 v.2.2.2.2.2.2 g.1 k v.2.1 v.2.2.2.2.2 b v.2.2.1)) (Ls v.1 v.2.2.2.2.2.1 v.2.2.2.2.2.2 g.1 k v.2.1 v.2.2.2.2.2 b v.2.2.1)) (Ls v.1 v.2.2.2.2.2.1 v.2.2.2.2.2.2 g.1 k v.2.1 v.2.2.2.2.2 b v.2.2.1)))))
def aSI(a:(Int)->(Int)->(Int)->(Yv)->Yt->Option Yt) k v:=aB (λv=>(aIg a k v).ev) v
def aKA(a:(Int)->(Int)->(Int)->(Yv)->Yt->Option Yt):LD:=yl (aIg a) (yk [] [0,1,2,3,4,10,11] (yj [.arr 64,.dat yi,.dat yi,.dat yi,.clo [y1,y1] yi,.dat .bool,.dat .bool]) [D7]) [] L6 (λk v=>(((),v.1,v.2.1,v.2.2.1,k,v.2.2.2.1,v.2.2.2.2.1,()),v.2.2.2.2.2,())) l4 (λt=>(t.1.2.1,t.1.2.2.1,t.1.2.2.2.1,t.1.2.2.2.2.2.1,t.1.2.2.2.2.2.2.1,t.2.1)) (λ_ r=>yz L6 (((),()),r,()))
def aIB(i:(Int)->(Int)->(Int)->(Yv)->Yt->Option Yt)(f e g:Int)(b:Yv)(h:(List Nat)×Y2):Tr Yt:=.c _ (aSI i b (f,e,g,true,true,h)) λa=>.l a
noncomputable def Hg:Nat->(Int)->(Int)->(Int)->(Yv)->Yt->Option Yt |0=>λ_ _ _ _ _=>none |n+1=>λc b e a f=>(aIB (Hg n) c b e a f).ev
def aRQ:RetK:= {acts:=[],res:=[],sh:=.nil,obs:=[D7],pins:=[(0,0,64)]}
def aGI(a:(Int)->(Int)->(Int)->(Yv)->Yt->Option Yt):FD:={A:=(yj [.arr 64,.dat yi,.dat yi,.dat yi,.clo [y1,y1] yi]),ins:=[D7],lend:=[.arg 0],R:=(List Nat)×Y2,F:=λx=>a x.1.2.1 x.1.2.2.1 x.1.2.2.2.1 x.1.2.2.2.2.1 x.2.1,emb:=λr=>([],[(64,.perm false 24 3 yi r.1 r.2)])}
def aHC(n:Nat):FD:=aGI (Hg n)
def ZY(a:(Int)->(Int)->(Int)->(Yv)->Yt->Option Yt):Env:=oN [wckb.1,wckf.1,wckm.1,wckp.1,(321,aGI a)]
def aBS(a:(Int)->(Int)->(Int)->(Yv)->Yt->Option Yt):List (Nat×LD):=[(0,aKA a)]
def aFk:Code:=(f321.body).getD .skip
theorem aPD(a:(Int)->(Int)->(Int)->(Yv)->Yt->Option Yt):(aKA a).OK (ZY a) tt bU (fK (aBS a)) (pV aFk 0):=Ug (λ_=>rfl) λ_ _=>by kernel_rfl
theorem aNL(a:(Int)->(Int)->(Int)->(Yv)->Yt->Option Yt):eO (ZY a) tt bU (aBS a) aFk:=Wt (by kernel_rfl) (lpC (aPD a) lpN)
theorem aHk:∀n:Nat,dZ prog (321,aHC n) |0=>λ_ _ h=>nomatch h |n+1=>GY mixed (wV (Wj wckb.2 (Wj wckf.2 (Wj wckm.2 (Wj wckp.2 (Wj (aHk n) fdN)))))) Dl (aLH (aHC (n+1)) (ZY (Hg n)) aRQ bU (aBS (Hg n)) aFk (λx=>aIB (Hg n) x.1.2.1 x.1.2.2.1 x.1.2.2.2.1 x.1.2.2.2.2.1 x.2.1) (λr=>((),r,())) func321 (aNL (Hg n)) λ_=>by kernel_rfl)
def aRg:FP prog:=⟨_,aHk 1000000⟩
def aJK(e:Yv)(a:(List Nat)×Y2):Tr Yt:=.c _ (KO (wrap .u64 (length a.1:Int))) λb=>.c _ (Hg 1000000 0 (length a.1:Int) b e a) λf=>.l f
def aMR b a:=(aJK b a).ev
abbrev Nf{a b c d e:Type}{z:Type _}(f:b->d->z)(x:(a×b×c)×d×e):z:=f x.1.2.1 x.2.1
def aIk:FP prog:=aH cx func286 [ZI,aRg] (yj [.arr 64,.clo [y1,y1] yi]) [D7] [.arg 0] (Nf aJK) HJ uS
def BF(a:Int):Tr Bool:=.l (a !=a)
def P8 a:=(BF a).ev
def aKp:FP prog:=aH cx func253 [] Zy [] [] (qH BF) Dj bR
def NM(a b:Int):Tr Int:=.c _ (P8 a) λf=>.c _ (P8 b) λe=>.t f (.t e (.l 0) (.l (-1))) (.t e (.l 1) (.t (a<b) (.l (-1)) (.t (b<a) (.l 1) (.l 0))))
def Kl a b:=(NM a b).ev
def ZE:FP prog:=aH cx func183 [aKp] (yj [.dat yi,.dat yi]) [] [] (dO NM) kA bR
def Tl(k:Y1×Y1×Y1×Int)(v:Int):Tr (Int⊕(Unit⊕Int)):=.t (v<k.2.2.2) (.g (aC v (length k.2.2.1))<|.t ((length k.2.1:Int)<=v) (.l (.inr (.inr 1))) (.g (aC v (length k.2.1))<|.c _ (Kl (getD k.2.2.1 (toNat v) 0) (getD k.2.1 (toNat v) 0)) λa=>.t (a != (0:Int)) (.l (.inr (.inr a))) (.l (.inl (wrap .i64 (v+1)))))) (.l (.inr (.inl ())))
def aGN k v:=aB (λv=>(Tl k v).ev) v
abbrev WP:Keep:=yh [0,1] (yj [.dat y1,.dat y1])
def aMi:LD:=yl (Tl) (yh [0,1,9,10,11] (yj [.dat y1,.dat y1,.dat y1,.dat yi,.dat yi])) [(0,WP)] rQ WC QX l4 (λk r=>.s _ _ r (λ_=>yx 0 WP ((k.1,k.2.1,()),())) (λb=>yz rQ ((b,()),())))
def aCL(a b:Y1):Tr Int:=.c _ (aGN (a,b,a,(length a:Int)) 0) λf=>.s _ _ f (λ_=>.t ((length a:Int)<(length b:Int)) (.l (-1)) (.l 0)) (λe=>.l e)
def NS a b:=(aCL a b).ev
def aLj:FP prog:=aH cx func240 [ZE] (yj [.dat y1,.dat y1]) [] [] (dO aCL) kA bR bU [(0,aMi)]
def aIT(k:Int×Y1×Int)(v:Int):Tr (Int⊕(Unit⊕Int)):=.t (v<k.2.2) (.g (aC v (length k.2.1))<|.t ((getD k.2.1 (toNat v) 0) !=k.1) (.l (.inr (.inr (getD k.2.1 (toNat v) 0)))) (.l (.inl (wrap .i64 (v+1))))) (.l (.inr (.inl ())))
def aRX k v:=aB (λv=>(aIT k v).ev) v
abbrev UH:Keep:=yh [2] Zy
def aMX:LD:=yl (aIT) SO [(0,jI)] UH xI wZ rJ (λk r=>.s _ _ r (λ_=>yx 0 jI ((k.1,()),())) (λb=>yz UH ((b,()),())))
def aKu(a:Y1):Tr Int:=.c _ (aRX (0,a,(length a:Int)) 0) λb=>.s _ _ b (λ_=>.l 0) (λe=>.l e)
def aOT a:=(aKu a).ev
def aSK:FP prog:=aH cx func322 [] Bc [] [] (qH aKu) oD bR bU [(0,aMX)]
def aJa(b a:Y1):Tr Int:=.c _ (Kl (length b:Int) (length a:Int)) λf=>.c _ (NS b a) λe=>.c _ (aOT ([f,e]:Y1)) λg=>.l g
def aOS a b:=(aJa a b).ev
def aMK:FP prog:=aH cx func287 [ZE,aLj,aSK] (yj [.dat y1,.dat y1]) [] [] (dO aJa) kA bR
def aJB(k:Int)(v:Int×Y2):Tr (D0⊕Y2):=.g (0<=k)<|.t (v.1<(wrap .u64 ((1:Int)*2^(min (toNat k) Zk)))) (.c _ (t5 v.1) λa=>.g ((length v.2+1)*24<=140737488355328)<|.l (.inl ((wrap .u64 (v.1+1)),(set (v.2++ [[]]) (length v.2) a)))) (.l (.inr v.2))
def aQW k v:=aB (λv=>(aJB k v).ev) v
abbrev UA:Keep:=yk [] [3] (yj [.arr 5]) [(5,.rows 24 3 yi)]
def aPL:LD:=yl (aJB) (yk [] [0,3,4] (yj [.dat yi,.arr 5,.dat (.int .u64)]) [(5,.rows 24 3 yi)]) [(0,UA)] aF Fw oF Fv (λ_ r=>yx 0 UA (((),()),r,()))
def aJs(g:Int):Tr Yt:=.c _ (aQW g (1,[])) λb=>.c _ (aMR (λa=>Option.bind (aOS a.1 a.2.1) λf=>some f) ((List.range (length b)),b)) λe=>.l e
def Ur a:=(aJs a).ev
def aFy:FP prog:=aH cx func233 [wbfk,aIk,aIk,aMK] Zy [] [] (qH aJs) ⟨[.ren 5 0],[.tmp 2],q8,[(0,.perm 24 3 yi)],[],[]⟩ kG (s8 [(1,[(0,[1000000])]),(6,[(1,[80000017])])]) [(0,aPL)]
def Qr(k:((HL [y1]->Option Int))×Int×Yt)(v:(Nat)×Int):Tr ((Nat×Int)⊕Nat):=.t (v.2<k.2.1) (.g (aC v.2 (length k.2.2.1))<|.g (((toNat v.2)<length k.2.2.1)&&((getD k.2.2.1 (toNat v.2) 0)<length k.2.2.2))<|.c _ (k.1 ((getD k.2.2.2 (getD k.2.2.1 (toNat v.2) 0) []),())) λa=>.c _ (k.1 ((getD k.2.2.2 v.1 []),())) λb=>.t (a<b) (.l (.inl ((getD k.2.2.1 (toNat v.2) 0),(wrap .i64 (v.2+1))))) (.l (.inl (v.1,(wrap .i64 (v.2+1)))))) (.l (.inr v.1))
def aGX k v:=aB (λv=>(Qr k v).ev) v
abbrev UX:Keep:=yk [] [0,5] (yj [.arr 64,.row 64]) [D7]
def aNw:LD:=yl (Qr) (yk [] [0,1,5,11,12,13] (yj [.arr 64,.clo [y1] yi,.row 64,.arr 64,.dat yi,.dat yi]) [D7]) [(0,UX)] aF (λk v=>(((),k.1,v.1,(),k.2.1,v.2,()),k.2.2,())) (λt=>(t.1.2.1,t.1.2.2.2.2.1,t.2.1)) HE (λk r=>yx 0 UX (((),r,()),k.2.2,()))
def aFA(e:(HL [y1]->Option Int))(a:(List Nat)×Y2):Tr Y1:=.g (aC 0 (length a.1))<|.g (((toNat 0)<length a.1)&&((getD a.1 (toNat 0) 0)<length a.2))<|.c _ (aGX (e,(length a.1:Int),a) ((getD a.1 (toNat 0) 0),0)) λb=>.l (getD a.2 b [])
def BD b a:=(aFA b a).ev
def Vn:FP prog:=aH cx func166 [] (yj [.arr 64,.clo [y1] yi]) [D7] [.arg 0] (Nf aFA) ⟨[.pull 4 800000,.ren 800000 0],[.tmp 4],q8,[tK],[],[64]⟩ kG bU [(0,aNw)]
def aEK(a:Y1)(b:List Y1):Tr C5:=.c _ (tQ a b) λh=>.t (!h) (.l (false,[])) (.c _ (Ur (length a:Int)) λf=>.c _ (BD (λg=>Option.bind (u6 a b g.1) λi=>some i) f) λe=>.l (true,e))
def aEl a b:=(aEK a b).ev
def aQL:FP prog:=aH cx func162 [E6,aFy,Vn,Vn,wbjz] (yj [.agg Zh]) [] [] (jO aEK) ⟨[.own 2 0 3 yi,.ren 832 0],[.tmp 2,.tmp 3],Ho,[tK],[],[]⟩ gX
def HT(k:Bool×Y1×Int×Int×Int×Y1×Nd)(v:Int×Y2):Tr (D0⊕Y2):=.t (v.1<k.2.2.1) (.g (aC v.1 (length k.2.1))<|.g (aC v.1 (length v.2))<|.g ((toNat v.1)<length v.2)<|.g ((length (getD v.2 (toNat v.1) [])+length ([(getD k.2.1 (toNat v.1) 0)]:Y1))*8<=140737488355328)<|.g (aC v.1 (length v.2))<|.g (((toNat v.1)<length v.2)&&((toNat v.1)=(toNat v.1)))<|.l (.inl ((wrap .i64 (v.1+1)),(set v.2 (toNat v.1) ((getD v.2 (toNat v.1) [])++([(getD k.2.1 (toNat v.1) 0)]:Y1)))))) (.l (.inr v.2))
def aCm k v:=aB (λv=>(HT k v).ev) v
abbrev SA:Keep:=yk [] [4,6,9] (yj [.box 4 0,.box 6 0,.dat .bool]) [Zcb,(6,.cells (yj [.arr 1859,.arr 1860,.arr 1861,.dat yi])),(901340,.arr 3 yi),(901342,.arr 3 yi),(1859,.arr 3 yi),(1860,.rows 24 3 yi),(1861,.arr 3 yi)]
def aPC:LD:=yl HT (yk [.ownB 4 0 901340 3 yi,.ownB 4 2 901342 3 yi] [4,6,9,165,166,167] (yj [.box 4 0,.box 6 0,.dat .bool,.dat y1,.dat yi,.dat yi]) [Zcb,(6,.cells (yj [.arr 1859,.arr 1860,.arr 1861,.dat yi])),(901340,.arr 3 yi),(901342,.arr 3 yi),(1859,.arr 3 yi),(1860,.rows 24 3 yi),(1861,.arr 3 yi)]) [(1,SA)] aF (λk v=>(((),(),k.1,k.2.1,k.2.2.1,v.1,()),((),(),(),k.2.2.2.1,()),((),(),(),k.2.2.2.2.1,()),k.2.2.2.2.2.1,k.2.2.2.2.2.2.1,k.2.2.2.2.2.2.2.1,v.2,k.2.2.2.2.2.2.2.2,())) (λt=>(t.1.2.2.1,t.1.2.2.2.1,t.1.2.2.2.2.1,t.2.1.2.2.2.1,t.2.2.1.2.2.2.1,t.2.2.2.1,t.2.2.2.2.1,t.2.2.2.2.2.1,t.2.2.2.2.2.2.2.1)) (λt=>(t.1.2.2.2.2.2.1,t.2.2.2.2.2.2.1)) (λk r=>yx 1 SA (((),(),k.1,()),((),(),(),k.2.2.2.1,()),((),(),(),k.2.2.2.2.1,()),k.2.2.2.2.2.1,k.2.2.2.2.2.2.1,k.2.2.2.2.2.2.2.1,r,k.2.2.2.2.2.2.2.2,()))
def FZ(k:Int×Bool×Int×Int×Int×Y1×Y1)(v:Int×Y2):Tr (D0⊕Y2):=.t (v.1<k.2.2.1) (.g (aC v.1 (length v.2))<|.g ((toNat v.1)<length v.2)<|.c _ (NK k.1 (wrap .i64 (k.1+1)) (getD v.2 (toNat v.1) [])) λa=>.g (aC v.1 (length v.2))<|.g (((toNat v.1)<length v.2)&&((toNat v.1)=(toNat v.1)))<|.l (.inl ((wrap .i64 (v.1+1)),(set v.2 (toNat v.1) a)))) (.l (.inr v.2))
def aJb k v:=aB (λv=>(FZ k v).ev) v
abbrev SN:Keep:=yk [] [4,6,7,9] (yj [.box 4 0,.box 6 0,.dat yi,.dat .bool]) [(4,.cells Na),Zcc,(13888,.arr 3 yi),(1860,.rows 24 3 yi),(1861,.arr 3 yi)]
abbrev VY{a b c d e g h i j:Type}(k:a×b×c×d×e×g×h)(v:i×j):=(((),(),k.1,k.2.1,(),k.2.2.1,v.1,()),((),(),(),k.2.2.2.1,()),((),(),(),k.2.2.2.2.1,()),v.2,k.2.2.2.2.2.1,k.2.2.2.2.2.2,())
abbrev TE{a b c d e g h i j l m n o p q s t u w a19 a20:Type}(t:(a×b×c×d×e×g×h)×(i×j×l×m×n)×(o×p×q×s×t)×u×w×a19×a20):=(t.1.2.2.1,t.1.2.2.2.1,t.1.2.2.2.2.2.1,t.2.1.2.2.2.1,t.2.2.1.2.2.2.1,t.2.2.2.2.1,t.2.2.2.2.2.1)
abbrev FJ{a b c d e g h i j l m n:Type}(t:(a×b×c×d×e×g×h×i)×j×l×m×n):=(t.1.2.2.2.2.2.2.1,t.2.2.2.1)
def aSn:LD:=yl (FZ) (yk [] [4,6,7,9,222,223,224] (yj [.box 4 0,.box 6 0,.dat yi,.dat .bool,.arr 1860,.dat yi,.dat yi]) [(4,.cells Na),Zcc,(1860,.rows 24 3 yi),(13888,.arr 3 yi),(1861,.arr 3 yi)]) [(3,SN)] aF VY TE FJ (λk r=>yx 3 SN (((),(),k.1,k.2.1,()),((),(),(),k.2.2.2.1,()),((),(),(),k.2.2.2.2.1,()),k.2.2.2.2.2.1,r,k.2.2.2.2.2.2,()))
def Tf(k:Int×Bool×Int×Int×C4)(v:Int×Y1):Tr (gD⊕Y1):=.t (v.1<k.2.2.1) (.g (aC v.1 (length v.2))<|.g ((toNat v.1)<length v.2)<|.t (k.1<(getD v.2 (toNat v.1) 0)) (.g (aC v.1 (length v.2))<|.g ((toNat v.1)<length v.2)<|.g (aC v.1 (length v.2))<|.g ((toNat v.1)<length v.2)<|.l (.inl ((wrap .i64 (v.1+1)),(set v.2 (toNat v.1) (wrap .i64 ((getD v.2 (toNat v.1) 0) -1)))))) (.l (.inl ((wrap .i64 (v.1+1)),v.2)))) (.l (.inr v.2))
def aHX k v:=aB (λv=>(Tf k v).ev) v
abbrev UY:Keep:=yk [] [4,6,9] (yj [.box 4 0,.box 6 0,.dat .bool]) [(4,.cells Na),Zcc,(13888,.arr 3 yi),(1860,.rows 24 3 yi),(1861,.arr 3 yi)]
def aMI:LD:=yl (Tf) (yk [] [4,6,7,9,241,242,243] (yj [.box 4 0,.box 6 0,.dat yi,.dat .bool,.arr 1861,.dat yi,.dat yi]) [(4,.cells Na),Zcc,(1861,.arr 3 yi),(13888,.arr 3 yi),(1860,.rows 24 3 yi)]) [(5,UY)] aF VY TE FJ (λk r=>yx 5 UY (((),(),k.2.1,()),((),(),(),k.2.2.2.1,()),((),(),(),k.2.2.2.2.1,()),k.2.2.2.2.2.1,k.2.2.2.2.2.2,r,()))
def aEQ(j:Y1)(e:List Y1)(f:Y1)(m h b i s:Int)(n:Y1):Tr (Int×Bool×Oi):=.c _ (vH j e f m) λbi=>.t (!bi) (.l (0,false,[],[],[])) (.c _ (aFO h b i s n) λan=>.t (!an) (.l (0,false,[],[],[])) (.c _ (Ky j e f m) λa=>.c _ (IJ f) λo=>.c _ (m9 b 0 (wrap .i64 ((length e:Int) -1))) λr=>.t (h==1) (.c _ (R6 b j e f m) λaw=>.t aw (.c _ (r9 o b) λw=>.t (!w) (.g (0<=b)<|.c _ (t5 (wrap .u64 (BitVec.toNat ((BitVec.ofInt Zk o)||| (BitVec.ofInt Zk (wrap .u64 ((1:Int)*2^(min (toNat b) Zk)))))))) λaf=>.t (!(!w)) (.l (0,false,[],[],[])) (.c _ (vH a.2.1 a.2.2.1 af (wrap .i64 (a.1+1))) λaq=>.t (!aq) (.l (0,false,[],[],[])) (.l ((wrap .i64 (a.1+1)),true,a.2.1,a.2.2.1,af)))) (.t (!(!w)) (.l (0,false,[],[],[])) (.c _ (vH a.2.1 a.2.2.1 a.2.2.2 (wrap .i64 (a.1+1))) λal=>.t (!al) (.l (0,false,[],[],[])) (.l ((wrap .i64 (a.1+1)),true,a.2.1,a.2.2.1,a.2.2.2))))) (.l (0,false,[],[],[]))) (.t (h==2) (.c _ (R6 b j e f m) λbe=>.t be (.c _ (r9 o b) λy=>.t y (.g (0<=b)<|.c _ (t5 (wrap .u64 (BitVec.toNat ((BitVec.ofInt Zk o)&&& ~~~(BitVec.ofInt Zk (wrap .u64 ((1:Int)*2^(min (toNat b) Zk)))))))) λag=>.t (!y) (.l (0,false,[],[],[])) (.c _ (vH a.2.1 a.2.2.1 ag (wrap .i64 (a.1+1))) λav=>.t (!av) (.l (0,false,[],[],[])) (.l ((wrap .i64 (a.1+1)),true,a.2.1,a.2.2.1,ag)))) (.t (!y) (.l (0,false,[],[],[])) (.c _ (vH a.2.1 a.2.2.1 a.2.2.2 (wrap .i64 (a.1+1))) λbl=>.t (!bl) (.l (0,false,[],[],[])) (.l ((wrap .i64 (a.1+1)),true,a.2.1,a.2.2.1,a.2.2.2))))) (.l (0,false,[],[],[]))) (.t (h==3) (.c _ (R6 b j e f m) λba=>.t ba (.c _ (R6 i j e f m) λar=>.t ar (.c _ (r9 o b) λbm=>.t bm (.c _ (r9 o i) λab=>.t (!ab) (.c _ (LW f b i) λaj=>.t (!(!ab)) (.l (0,false,[],[],[])) (.c _ (vH a.2.1 a.2.2.1 aj (wrap .i64 (a.1+1))) λbg=>.t (!bg) (.l (0,false,[],[],[])) (.l ((wrap .i64 (a.1+1)),true,a.2.1,a.2.2.1,aj)))) (.t (!(!ab)) (.l (0,false,[],[],[])) (.c _ (vH a.2.1 a.2.2.1 a.2.2.2 (wrap .i64 (a.1+1))) λbf=>.t (!bf) (.l (0,false,[],[],[])) (.l ((wrap .i64 (a.1+1)),true,a.2.1,a.2.2.1,a.2.2.2))))) (.l (0,false,[],[],[]))) (.l (0,false,[],[],[]))) (.l (0,false,[],[],[]))) (.t (h==4) (.c _ (R6 b j e f m) λac=>.t ac (.g (aC b (length a.2.1))<|.g ((toNat b)<length a.2.1)<|.t (!ac) (.l (0,false,[],[],[])) (.c _ (vH (set a.2.1 (toNat b) i) a.2.2.1 a.2.2.2 (wrap .i64 (a.1+1))) λax=>.t (!ax) (.l (0,false,[],[],[])) (.l ((wrap .i64 (a.1+1)),true,(set a.2.1 (toNat b) i),a.2.2.1,a.2.2.2)))) (.t (!ac) (.l (0,false,[],[],[])) (.c _ (vH a.2.1 a.2.2.1 a.2.2.2 (wrap .i64 (a.1+1))) λbh=>.t (!bh) (.l (0,false,[],[],[])) (.l ((wrap .i64 (a.1+1)),true,a.2.1,a.2.2.1,a.2.2.2))))) (.t (h==5) (.t r (.c _ (R6 i j e f m) λad=>.t ad (.g (aC b (length a.2.2.1))<|.g ((toNat b)<length a.2.2.1)<|.g (aC i (length (getD a.2.2.1 (toNat b) [])))<|.g ((toNat i)<length (getD a.2.2.1 (toNat b) []))<|.t (!ad) (.l (0,false,[],[],[])) (.c _ (vH a.2.1 (set a.2.2.1 (toNat b) (set (getD a.2.2.1 (toNat b) []) (toNat i) s)) a.2.2.2 (wrap .i64 (a.1+1))) λau=>.t (!au) (.l (0,false,[],[],[])) (.l ((wrap .i64 (a.1+1)),true,a.2.1,(set a.2.2.1 (toNat b) (set (getD a.2.2.1 (toNat b) []) (toNat i) s)),a.2.2.2)))) (.t (!ad) (.l (0,false,[],[],[])) (.c _ (vH a.2.1 a.2.2.1 a.2.2.2 (wrap .i64 (a.1+1))) λbk=>.t (!bk) (.l (0,false,[],[],[])) (.l ((wrap .i64 (a.1+1)),true,a.2.1,a.2.2.1,a.2.2.2))))) (.l (0,false,[],[],[]))) (.t (h==6) (.t ((length n:Int)==(length e:Int)) (.g ((length a.2.1+length ([b]:Y1))*8<=140737488355328)<|.c _ (aCm (((length n:Int)==(length e:Int)),n,(length n:Int),0,(wrap .i64 (a.1+1)),[],[],(a.2.1++([b]:Y1)),a.2.2.2) (0,a.2.2.1)) λak=>.t (!((length n:Int)==(length e:Int))) (.l (0,false,[],[],[])) (.c _ (vH (a.2.1++([b]:Y1)) ak a.2.2.2 (wrap .i64 (a.1+1))) λbd=>.t (!bd) (.l (0,false,[],[],[])) (.l ((wrap .i64 (a.1+1)),true,(a.2.1++([b]:Y1)),ak,a.2.2.2)))) (.t (!((length n:Int)==(length e:Int))) (.l (0,false,[],[],[])) (.c _ (vH a.2.1 a.2.2.1 a.2.2.2 (wrap .i64 (a.1+1))) λaz=>.t (!az) (.l (0,false,[],[],[])) (.l ((wrap .i64 (a.1+1)),true,a.2.1,a.2.2.1,a.2.2.2))))) (.t (h==7) (.c _ (A6 n) λah=>.g ((length a.2.2.1+1)*24<=140737488355328)<|.c _ (vH a.2.1 (set (a.2.2.1++ [[]]) (length a.2.2.1) ah) a.2.2.2 (wrap .i64 (a.1+1))) λap=>.t (!ap) (.l (0,false,[],[],[])) (.l ((wrap .i64 (a.1+1)),true,a.2.1,(set (a.2.2.1++ [[]]) (length a.2.2.1) ah),a.2.2.2))) (.t (h==8) (.c _ (R6 b j e f m) λbc=>.t bc (.c _ (r9 o b) λp=>.t (!p) (.c _ (NK b (wrap .i64 (b+1)) a.2.1) λq=>.c _ (aJb (b,(!p),(length a.2.2.1:Int),0,(wrap .i64 (a.1+1)),q,a.2.2.2) (0,a.2.2.1)) λz=>.c _ (aHX (b,(!p),(length a.2.2.2:Int),0,(wrap .i64 (a.1+1)),q,z) (0,a.2.2.2)) λai=>.t (!(!p)) (.l (0,false,[],[],[])) (.c _ (vH q z ai (wrap .i64 (a.1+1))) λbb=>.t (!bb) (.l (0,false,[],[],[])) (.l ((wrap .i64 (a.1+1)),true,q,z,ai)))) (.t (!(!p)) (.l (0,false,[],[],[])) (.c _ (vH a.2.1 a.2.2.1 a.2.2.2 (wrap .i64 (a.1+1))) λao=>.t (!ao) (.l (0,false,[],[],[])) (.l ((wrap .i64 (a.1+1)),true,a.2.1,a.2.2.1,a.2.2.2))))) (.l (0,false,[],[],[]))) (.t (h==9) (.t r (.c _ (aJS b (wrap .i64 (b+1)) a.2.2.1) λae=>.t (!r) (.l (0,false,[],[],[])) (.c _ (vH a.2.1 ae a.2.2.2 (wrap .i64 (a.1+1))) λbn=>.t (!bn) (.l (0,false,[],[],[])) (.l ((wrap .i64 (a.1+1)),true,a.2.1,ae,a.2.2.2)))) (.t (!r) (.l (0,false,[],[],[])) (.c _ (vH a.2.1 a.2.2.1 a.2.2.2 (wrap .i64 (a.1+1))) λay=>.t (!ay) (.l (0,false,[],[],[])) (.l ((wrap .i64 (a.1+1)),true,a.2.1,a.2.2.1,a.2.2.2))))) (.t (h==10) (.c _ (aCX j e f) λaa=>.t (!aa.2.1) (.l (0,false,[],[],[])) (.c _ (vH a.2.1 a.2.2.1 aa.2.2 (wrap .i64 (a.1+1))) λbj=>.t (!bj) (.l (0,false,[],[],[])) (.l ((wrap .i64 (a.1+1)),true,a.2.1,a.2.2.1,aa.2.2)))) (.t (h==11) (.c _ (aEl j e) λu=>.t (!u.1) (.l (0,false,[],[],[])) (.c _ (vH a.2.1 a.2.2.1 u.2 (wrap .i64 (a.1+1))) λam=>.t (!am) (.l (0,false,[],[],[])) (.l ((wrap .i64 (a.1+1)),true,a.2.1,a.2.2.1,u.2)))) (.l (0,false,[],[],[]))))))))))))))
def aAJ j h f i e a c b g:=(aEQ j h f i e a c b g).ev
def aQf:FP prog:=aH cx func103 [QI,aOc,aBK,wbrv,Cd,aOY,wbrw,wbfk,wcdk,NV,aQo,aOG,aSo,aQL] (yj [.agg Zl,.agg UC]) [] [] (Bv aEQ) ⟨[.ownB 4 0 5 3 yi,.ownRB 4 1 7 24 3 yi,.ownB 4 2 8 3 yi,.ren 1859 5,.ren 13888 5,.pinB 4 1 7,.pinB 4 2 8],[.cell 4 29,.tmp 5],(yj [.agg (yj [.arr 5,.arr 7,.arr 8,.dat yi]),.dat .bool]),[(5,.arr 3 yi),(7,.rows 24 3 yi),(8,.arr 3 yi)],[],[]⟩ TZ (s8 [(48,[(0,[2000016]),(10,[5500016])])]) [(1,aPC),(3,aSn),(5,aMI)]
def Rd(a:List (List UInt8))(b:List UInt8):Option (List UInt8):=J7 a b
def aQu:FD:=fdJoin
theorem aOm:dZ prog (176,aQu):=Ui
def aKG:FP prog:=⟨_,aOm⟩
def BR(k:Y1×Int)(v:Int×(List (List UInt8))):Tr ((Int×(List (List UInt8)))⊕(List (List UInt8))):=.t (v.1<k.2) (.g (aC v.1 (length k.1))<|.c _ (pL (getD k.1 (toNat v.1) 0)) λa=>.g ((length v.2+length ([a]:List (List UInt8)))*16<=140737488355328)<|.l (.inl ((wrap .i64 (v.1+1)),(v.2++([a]:List (List UInt8)))))) (.l (.inr v.2))
def aHJ k v:=aB (λv=>(BR k v).ev) v
abbrev QV:Keep:=yk [] [3] (yj [.arr 6]) [(6,.arr 9 .str)]
def aOA:LD:=yl (BR) (yk [] [3,7,8,9] (yj [.arr 6,.dat y1,.dat yi,.dat yi]) [(6,.arr 9 .str)]) [(0,QV)] aF Oy iM A9 (λ_ r=>yx 0 QV (((),()),r,()))
def aFj(a:Y1):Tr (List UInt8):=.c _ (aHJ (a,(length a:Int)) (0,[])) λb=>.c _ (Rd b ([32]:List UInt8)) λe=>.l e
def GO a:=(aFj a).ev
def aLA:FP prog:=aH cx func163 [Zv,aKG] Bc [] [] (qH aFj) O0 bR bU [(0,aOA)]
def aGc(a:Y1):Tr (List UInt8):=.t ((length a:Int)==(0:Int)) (.l ([110,111,110,101]:List UInt8)) (.c _ (GO a) λb=>.l b)
def Xy a:=(aGc a).ev
def aJq:FP prog:=aH cx func104 [aLA] Bc [] [] (qH aGc) O0 bR
def zN:ON:=λn j i m b h e=>.g ((0<=e.1)&&(e.1<=(length h:Int)))<|.c _ (aAJ n j i m b e.2.1 e.2.2.1 e.2.2.2 (List.drop (toNat e.1) (List.take (length h) h))) λa=>.t (!a.2.1) (.l (n,j,i,m,[],false)) (.c _ (Xy a.2.2.2.2) λf=>.t (b==4) (.c _ (pL e.2.2.1) λw=>.l (a.2.2.1,a.2.2.2.1,a.2.2.2.2,a.1,w,true)) (.t (b==5) (.c _ (pL e.2.2.2) λr=>.l (a.2.2.1,a.2.2.2.1,a.2.2.2.2,a.1,r,true)) (.t (b==6) (.t (b==6) (.c _ (pL (length a.2.2.1:Int)) λs=>.l (a.2.2.1,a.2.2.2.1,a.2.2.2.2,a.1,s,true)) (.t (b==7) (.t (b==7) (.c _ (pL (length a.2.2.2.1:Int)) λp=>.l (a.2.2.1,a.2.2.2.1,a.2.2.2.2,a.1,p,true)) (.l (a.2.2.1,a.2.2.2.1,a.2.2.2.2,a.1,f,true))) (.t (b==9) (.c _ (pL (length a.2.2.2.1:Int)) λy=>.l (a.2.2.1,a.2.2.2.1,a.2.2.2.2,a.1,y,true)) (.l (a.2.2.1,a.2.2.2.1,a.2.2.2.2,a.1,f,true))))) (.t (b==8) (.c _ (pL (length a.2.2.1:Int)) λq=>.l (a.2.2.1,a.2.2.2.1,a.2.2.2.2,a.1,q,true)) (.t (b==7) (.t (b==7) (.c _ (pL (length a.2.2.2.1:Int)) λo=>.l (a.2.2.1,a.2.2.2.1,a.2.2.2.2,a.1,o,true)) (.l (a.2.2.1,a.2.2.2.1,a.2.2.2.2,a.1,f,true))) (.t (b==9) (.c _ (pL (length a.2.2.2.1:Int)) λu=>.l (a.2.2.1,a.2.2.2.1,a.2.2.2.2,a.1,u,true)) (.l (a.2.2.1,a.2.2.2.1,a.2.2.2.2,a.1,f,true))))))))
def Bs(g:List Int)(e:List (List Int))(c:List Int)(f b:Int)(a:List Int):Option EdR:=H6 yM zN g e c f b a
abbrev aIy{a b c d e g:Type}(r:a×b×c×d×e×g):=(((r.1,r.2.1,r.2.2.1,r.2.2.2.1,()),r.2.2.2.2.1,r.2.2.2.2.2,()),())
theorem Cn(k:Int)(r:Int×Bool×Bool)(h:yM k=some r):r.1=0\/r.1=1\/r.1=2\/r.1=3:=by refine vM (p:=λr=>r.1=0\/r.1=1\/r.1=2\/r.1=3) ?_ h;unfold NT;simp[Kw]
def aMH:FP prog:=⟨_,Rj cx [aQf,aJq,Zv] (show dZ prog (102,T8 yM)from wcjl.2) Cn (T:=zN) (acts:=[.fz 4293,.fz 4295,.fz 4296]) (λ_ _ _ _ _ _ _ _ _ _=>by kernel_rfl) (λ_ _ _ _ _ _ _=>by kernel_rfl) (by kernel_rfl) (by kernel_rfl) (by kernel_rfl) (by kernel_rfl) (by kernel_rfl)⟩
def KR(a:Y1)(f:List Y1)(e:Int):Tr Bool:=.c _ (tQ a f) λg=>.t g (.c _ (m9 e 1 (length a:Int)) λb=>.l b) (.l false)
def Kk c b a:=(KR c b a).ev
def aIL:FP prog:=aH cx func164 [E6,Cd] (yj [.agg Zh,.dat yi]) [] [] (bH KR) eC bR
def Vu(k:(HL [y1]->Option Bool))(v:Int×Int×Yt):Tr ((Int×Int×Yt)⊕(Int×Yt)):=.t (v.2.1<(length v.2.2.1:Int)) (.g (aC v.2.1 (length v.2.2.1))<|.g (((toNat v.2.1)<length v.2.2.1)&&((getD v.2.2.1 (toNat v.2.1) 0)<length v.2.2.2))<|.c _ (k ((getD v.2.2.2 (getD v.2.2.1 (toNat v.2.1) 0) []),())) λa=>.t (!a) (.g (aC v.1 (length v.2.2.1))<|.g ((toNat v.1)<length v.2.2.1)<|.l (.inl ((wrap .i64 (v.1+1)),(wrap .i64 (v.2.1+1)),(set v.2.2.1 (toNat v.1) (getD v.2.2.1 (toNat v.2.1) 0)),v.2.2.2))) (.l (.inl (v.1,(wrap .i64 (v.2.1+1)),v.2.2)))) (.l (.inr (v.1,v.2.2)))
def aJX k v:=aB (λv=>(Vu k v).ev) v
abbrev SY:Keep:=yk [] [0,5] (yj [.arr 64,.dat yi]) [D7]
def aOh:LD:=yl (Vu) (yk [] [0,1,5,6] (yj [.arr 64,.clo [y1] .bool,.dat yi,.dat yi]) [D7]) [(0,SY)] aF (λk v=>(((),k,v.1,v.2.1,()),v.2.2,())) PS (λt=>(t.1.2.2.1,t.1.2.2.2.1,t.2.1)) (λ_ r=>yx 0 SY (((),r.1,()),r.2,()))
def aEg(f:(HL [y1]->Option Bool))(b:(List Nat)×Y2):Tr Yt:=.c _ (PW (bI b.1 b.2) f) λe=>.t (e==(-1:Int)) (.l b) (.c _ (aJX f (e,(wrap .i64 (e+1)),b)) λa=>.g ((0<=a.1)&&(a.1<=(length a.2.1:Int)))<|.g ((0<=a.1)&&(a.1<=(length (List.take (toNat a.1) a.2.1++List.replicate (length a.2.1-(toNat a.1)) (length a.2.2)):Int)))<|.l ((List.take (toNat a.1) (List.take (toNat a.1) a.2.1++List.replicate (length a.2.1-(toNat a.1)) (length a.2.2))),a.2.2))
def PK b a:=(aEg b a).ev
def OF:FP prog:=aH cx func235 [aGE] (yj [.arr 64,.clo [y1] .bool]) [D7] [.arg 0] (Nf aEg) ⟨[.ren 64 0],[.tmp 4],q8,[(0,.perm 24 3 yi)],[],[64]⟩ kG bU [(0,aOh)]
def aGa(a:Y1)(b:Int):Tr Bool:=.l ((length a:Int) !=b)
def MA a b:=(aGa a b).ev
abbrev UM{a b c d e:Type}{z:Type _}(f:a->b->z)(x:(a×(b×c)×d)×e):z:=f x.1.1 x.1.2.1.1
def aOp:FP prog:=aH cx func236 [] (yj [.dat y1,.ptr Zy]) [] [] (UM aGa) Ov bR
def aFo(a:Y1)(h:List Y1)(g:Int):Tr Y1:=.c _ (Ur (length a:Int)) λf=>.c _ (PK (λi=>Option.bind (MA i.1 g) λm=>some m) f) λj=>.c _ (BD (λn=>Option.bind (Jp a h n.1) λb=>some b) j) λe=>.l e
def aDI c b a:=(aFo c b a).ev
def aPt:FP prog:=aH cx func165 [aFy,OF,Vn,Vn,aGn,OF,aOp] (yj [.agg Zh,.dat yi]) [] [] (bH aFo) ⟨[.ren 960 0],[.tmp 4],q8,[tK],[],[]⟩ kG
def ML(e:Y1)(b:List Y1)(a:Int):Tr C5:=.c _ (Kk e b a) λg=>.t (!g) (.l (false,[])) (.c _ (aDI e b a) λf=>.l (true,f))
def MZ c b a:=(ML c b a).ev
abbrev UR:RetK:=⟨[.own 4 0 3 yi,.ren 768 0],[.tmp 4,.tmp 5],Ho,[tK],[],[]⟩
def aTa:FP prog:=aH cx func107 [aIL,aPt] (yj [.agg Zh,.dat yi]) [] [] (bH ML) UR gX
def aBe(a:Y1)(e:Bool):Tr Om:=.c _ (Xy a) λb=>.l (b,e)
def ES a b:=(aBe a b).ev
def aPR:FP prog:=aH cx func106 [aJq] (yj [.dat y1,.dat .bool]) [] [] (dO aBe) Mk dD
def aDh(a:Y1)(b:Int):Tr Bool:=.l (b<(length a:Int))
def MS a b:=(aDh a b).ev
def aPl:FP prog:=aH cx func237 [] (yj [.dat y1,.ptr Zy]) [] [] (UM aDh) Ov bR
def aCB(g:Y1)(_i:List Y1)(b:Int):Tr Yt:=.c _ (Ur (length g:Int)) λa=>.c _ (PK (λe=>Option.bind (MS e.1 b) λh=>some h) a) λf=>.l f
def aGU c b a:=(aCB c b a).ev
def aMj:FP prog:=aH cx func167 [aFy,OF,OF,aPl] (yj [.agg Zh,.dat yi]) [] [] (bH aCB) ⟨[.ren 640 0],[.tmp 4],q8,[(0,.perm 24 3 yi)],[],[]⟩ kG
def Tw(k:Y1)(v:Int×Int):Tr (jA⊕Int):=.t (v.2<(length k:Int)) (.g (aC v.2 (length k))<|.l (.inl ((if v.1<(getD k (toNat v.2) 0)then(getD k (toNat v.2) 0)else v.1),(wrap .i64 (v.2+1))))) (.l (.inr v.1))
def aBc k v:=aB (λv=>(Tw k v).ev) v
def aPj:LD:=yl (Tw) EU [(0,jI)] aF zU oF iM (λ_ r=>yx 0 jI ((r,()),()))
def aFh(a:Y1):Tr Int:=.t ((length a:Int)<(1:Int)) (.f) (.g (aC 0 (length a))<|.c _ (aBc a ((getD a (toNat 0) 0),1)) λb=>.l b)
def aAk a:=(aFh a).ev
def aOu:FP prog:=aH cx func238 [] Bc [] [] (qH aFh) oD bR bU [(0,aPj)]
def aBD(h:Y1)(f:List Y1)(e:Y1):Tr Int:=.c _ (LA h f e) λa=>.g ((length a+length ([0]:Y1))*8<=140737488355328)<|.c _ (aAk (a++([0]:Y1))) λb=>.l b
def Pi c b a:=(aBD c b a).ev
def aIb:FP prog:=aH cx func168 [aJi,aOu] (yj [.agg Zh,.dat y1]) [] [] (bH aBD) kA bR
def MP(b:Y1)(a:List Y1)(e:Int):Tr C5:=.c _ (Kk b a e) λi=>.t (!i) (.l (false,[])) (.c _ (aGU b a e) λg=>.c _ (BD (λh=>Option.bind (Pi b a h.1) λj=>some j) g) λf=>.l (true,f))
def Zu c b a:=(MP c b a).ev
def aOZ:FP prog:=aH cx func108 [aIL,aMj,Vn,Vn,aIb] (yj [.agg Zh,.dat yi]) [] [] (bH MP) ⟨[.own 4 0 3 yi,.ren 960 0],[.tmp 4,.tmp 5],Ho,[tK],[],[]⟩ gX
def XO(f:Y1)(e:List Y1)(a:Int):Tr Bool:=.c _ (tQ f e) λb=>.t b (.l (0<=a)) (.l false)
def aKE c b a:=(XO c b a).ev
def aPk:FP prog:=aH cx func169 [E6] (yj [.agg Zh,.dat yi]) [] [] (bH XO) eC bR
def Ry(k:Y1×Int×Int×Int×Int×Y1×C4)(v:Int×Int):Tr (jA⊕Int):=.t (v.2<k.2.2.2.2.2.2.1) (.g (aC v.2 (length k.2.2.2.2.2.1))<|.g (aC (getD k.2.2.2.2.2.1 (toNat v.2) 0) (length k.2.2.2.2.2.2.2.2))<|.g (aC k.2.2.1 (length (getD k.2.2.2.2.2.2.2.2 (toNat (getD k.2.2.2.2.2.1 (toNat v.2) 0)) [])))<|.t ((getD (getD k.2.2.2.2.2.2.2.2 (toNat (getD k.2.2.2.2.2.1 (toNat v.2) 0)) []) (toNat k.2.2.1) 0)<=k.2.1) (.l (.inl ((wrap .i64 (v.1+1)),(wrap .i64 (v.2+1))))) (.l (.inl (v.1,(wrap .i64 (v.2+1)))))) (.l (.inr v.1))
def aKK k v:=aB (λv=>(Ry k v).ev) v
abbrev RR:Keep:=yk [] [1,2,3,8,13,14] (yj [.dat y1,.dat yi,.box 3 0,.dat yi,.dat yi,.dat yi]) [(3,.cells Zh)]
def aRm:LD:=yl (Ry) (yk [] [1,2,3,7,8,13,14,17,18,19] (yj [.dat y1,.dat yi,.box 3 0,.dat yi,.dat yi,.dat yi,.dat yi,.dat y1,.dat yi,.dat yi]) [(3,.cells Zh)]) [(2,RR)] aF (λk v=>((k.1,k.2.1,(),k.2.2.1,v.1,k.2.2.2.1,k.2.2.2.2.1,k.2.2.2.2.2.1,k.2.2.2.2.2.2.1,v.2,()),(k.2.2.2.2.2.2.2.1,k.2.2.2.2.2.2.2.2,()),())) (λt=>(t.1.1,t.1.2.1,t.1.2.2.2.1,t.1.2.2.2.2.2.1,t.1.2.2.2.2.2.2.1,t.1.2.2.2.2.2.2.2.1,t.1.2.2.2.2.2.2.2.2.1,t.2.1.1,t.2.1.2.1)) (λt=>(t.1.2.2.2.2.1,t.1.2.2.2.2.2.2.2.2.2.1)) (λk r=>yx 2 RR ((k.1,k.2.1,(),r,k.2.2.2.1,k.2.2.2.2.1,()),(k.2.2.2.2.2.2.2.1,k.2.2.2.2.2.2.2.2,()),()))
def Wh(k:Y1×Int×C4)(v:Int):Tr (Int⊕(Unit⊕Unit)):=.t (v<k.2.2.1) (.c _ (aKK (k.1,k.2.1,v,k.2.2.1,v,k.1,(length k.1:Int),k.2.2.2.1,k.2.2.2.2) (0,0)) λa=>.t (1<a) (.l (.inr (.inr ()))) (.l (.inl (wrap .i64 (v+1))))) (.l (.inr (.inl ())))
def aLp k v:=aB (λv=>(Wh k v).ev) v
def aRF:LD:=yl (Wh) (yk [] [1,2,3,13,14] (yj [.dat y1,.dat yi,.box 3 0,.dat yi,.dat yi]) [(3,.cells Zh)]) [(0,aF)] rU XB BZ l4 (λ_ r=>.s _ _ r (λ_=>yx 0 aF ((),())) (λ_=>yz rU ((false,()),())))
def aEb(a:Y1)(f:List Y1)(e:Y1)(g:Int):Tr Bool:=.c _ (aLp (e,g,(length a:Int),a,f) 0) λb=>.s _ _ b (λ_=>.l true) (λ_=>.l false)
def LR e b a c:=(aEb e b a c).ev
def aQO:FP prog:=aH cx func241 [] (yj [.agg Zh,.dat y1,.dat yi]) [] [] (uM aEb) Dd bR bU [(2,aRm),(0,aRF)]
def Qq(k:Int×Y1×Y2)(v:Y1×Int):Tr ((Y1×Int)⊕Y1):=.g ((0:Int)<=(length k.2.2:Int))<|.t (v.2<(wrap .u64 ((1:Int)*2^(min (toNat (length k.2.2:Int)) Zk)))) (.c _ (t5 v.2) λa=>.t ((length v.1:Int)<(length a:Int)) (.c _ (LR k.2.1 k.2.2 a k.1) λb=>.t b (.l (.inl (a,(wrap .u64 (v.2+1))))) (.l (.inl (v.1,(wrap .u64 (v.2+1)))))) (.t ((length a:Int)==(length v.1:Int)) (.c _ (NS a v.1) λe=>.t (e<0) (.c _ (LR k.2.1 k.2.2 a k.1) λf=>.t f (.l (.inl (a,(wrap .u64 (v.2+1))))) (.l (.inl (v.1,(wrap .u64 (v.2+1)))))) (.l (.inl (v.1,(wrap .u64 (v.2+1)))))) (.l (.inl (v.1,(wrap .u64 (v.2+1))))))) (.l (.inr v.1))
def MT k v:=aB (λv=>(Qq k v).ev) v
def aQB:LD:=yl (Qq) (yk [.fz 8,.fz 1152] [1,2,5,6] (yj [.dat yi,.box 2 0,.dat y1,.dat (.int .u64)]) [yV]) [(0,Nc)] aF Ef C1 uX (λ_ r=>yx 0 Nc ((r,()),()))
def aDv(f:Y1)(e:List Y1)(b:Int):Tr Y1:=.c _ (MT (b,f,e) ([],1)) λa=>.l a
def aCr c b a:=(aDv c b a).ev
def aRb:FP prog:=aH cx func170 [wbfk,aQO,aLj] (yj [.agg Zh,.dat yi]) [] [] (bH aDv) Mq bR bU [(0,aQB)]
def aFc(e:Y1)(b:List Y1)(a:Int):Tr (Y1×Bool):=.c _ (aKE e b a) λg=>.t (!g) (.l ([],false)) (.c _ (aCr e b a) λf=>.l (f,true))
def aEv c b a:=(aFc c b a).ev
def aSs:FP prog:=aH cx func109 [aPk,aRb] (yj [.agg Zh,.dat yi]) [] [] (bH aFc) (yr [.tmp 4,.tmp 5] (yj [.dat y1,.dat .bool])) dD
def aEM(e:Y1)(b:List Y1)(a:Y1):Tr Hn:=.c _ (Fr e b a) λg=>.t (!g) (.l (0,false)) (.c _ (u6 e b a) λf=>.l (f,true))
def aHv c b a:=(aEM c b a).ev
def aRt:FP prog:=aH cx func171 [Uw,wbjz] (yj [.agg Zh,.dat y1]) [] [] (bH aEM) j5 dD
def aGd(f:Y1)(e:List Y1)(b:Y1)(g:Int):Tr Hn:=.c _ (vH f e b g) λh=>.t (!h) (.l (0,false)) (.c _ (aHv f e b) λa=>.l (a.1,a.2))
def OO e b a c:=(aGd e b a c).ev
def aJl:FP prog:=aH cx func110 [QI,aRt] (yj [.agg Zl]) [] [] (rW aGd) Bi dD
def aAF(a:Int)(e:Bool):Tr Om:=.c _ (pL a) λb=>.l (b,e)
def Jb a b:=(aAF a b).ev
def aRK:FP prog:=aH cx func105 [Zv] (yj [.dat yi,.dat .bool]) [] [] (dO aAF) Mk dD
def Y4(k:Y1)(v:Int×Int):Tr (jA⊕Int):=.t (v.2<(length k:Int)) (.g (aC v.2 (length k))<|.l (.inl ((if(getD k (toNat v.2) 0)<v.1 then(getD k (toNat v.2) 0)else v.1),(wrap .i64 (v.2+1))))) (.l (.inr v.1))
def aBs k v:=aB (λv=>(Y4 k v).ev) v
def aQD:LD:=yl (Y4) EU [(0,jI)] aF zU oF iM (λ_ r=>yx 0 jI ((r,()),()))
def LN(a:Y1):Tr Int:=.t ((length a:Int)<(1:Int)) (.f) (.g (aC 0 (length a))<|.c _ (aBs a ((getD a (toNat 0) 0),1)) λb=>.l b)
def Qi a:=(LN a).ev
def aLF:FP prog:=aH cx func177 [] Bc [] [] (qH LN) oD bR bU [(0,aQD)]
def Kv(k:Y1×Int×Int×Y2×Int×Int×Y1×Int)(v:Int×Y1):Tr (gD⊕Y1):=.t (v.1<k.2.2.2.2.2.2.2) (.g (aC v.1 (length k.2.2.2.2.2.2.1))<|.g (aC v.1 (length v.2))<|.g ((toNat v.1)<length v.2)<|.g (aC k.2.2.1 (length k.1))<|.g (aC v.1 (length v.2))<|.g ((toNat v.1)<length v.2)<|.l (.inl ((wrap .i64 (v.1+1)),(set v.2 (toNat v.1) (wrap .i64 ((getD v.2 (toNat v.1) 0)+(if(0:Int)<(wrap .i64 ((getD k.1 (toNat k.2.2.1) 0) -(wrap .i64 ((getD k.2.2.2.2.2.2.1 (toNat v.1) 0)*k.2.1))))then(wrap .i64 ((getD k.1 (toNat k.2.2.1) 0) -(wrap .i64 ((getD k.2.2.2.2.2.2.1 (toNat v.1) 0)*k.2.1))))else 0))))))) (.l (.inr v.2))
def aDm k v:=aB (λv=>(Kv k v).ev) v
abbrev AG:Keep:=yk [] [1,2,7,17,18,19] (yj [.dat y1,.dat yi,.arr 15,.dat y2,.dat yi,.dat yi]) [(15,.arr 3 yi)]
def aRi:LD:=yl (Kv) (yk [] [1,2,7,8,17,18,19,24,25,26] (yj [.dat y1,.dat yi,.arr 15,.dat yi,.dat y2,.dat yi,.dat yi,.dat y1,.dat yi,.dat yi]) [(15,.arr 3 yi)]) [(2,AG)] aF (λk v=>((k.1,k.2.1,(),k.2.2.1,k.2.2.2.1,k.2.2.2.2.1,k.2.2.2.2.2.1,k.2.2.2.2.2.2.1,k.2.2.2.2.2.2.2,v.1,()),v.2,())) (λt=>(t.1.1,t.1.2.1,t.1.2.2.2.1,t.1.2.2.2.2.1,t.1.2.2.2.2.2.1,t.1.2.2.2.2.2.2.1,t.1.2.2.2.2.2.2.2.1,t.1.2.2.2.2.2.2.2.2.1)) (λt=>(t.1.2.2.2.2.2.2.2.2.2.1,t.2.1)) (λk r=>yx 2 AG ((k.1,k.2.1,(),k.2.2.2.1,k.2.2.2.2.1,k.2.2.2.2.2.1,()),r,()))
def Cm(k:Y1×Int×Y2×Int)(v:Int×Y1):Tr (gD⊕Y1):=.t (v.1<k.2.2.2) (.g (aC v.1 (length k.2.2.1))<|.c _ (aDm (k.1,k.2.1,v.1,k.2.2.1,k.2.2.2,v.1,(getD k.2.2.1 (toNat v.1) []),(length (getD k.2.2.1 (toNat v.1) []):Int)) (0,v.2)) λa=>.l (.inl ((wrap .i64 (v.1+1)),a))) (.l (.inr v.2))
def aAA k v:=aB (λv=>(Cm k v).ev) v
abbrev TU:Keep:=yk [] [7] (yj [.arr 15]) [(15,.arr 3 yi)]
abbrev TW{a b c d e g h:Type}(t:(a×b×c×d×e×g)×h):=(t.1.1,t.1.2.1,t.1.2.2.2.1,t.1.2.2.2.2.1)
def aRu:LD:=yl (Cm) AG [(0,TU)] aF (λk v=>((k.1,k.2.1,(),k.2.2.1,k.2.2.2,v.1,()),v.2,())) TW FR (λ_ r=>yx 0 TU (((),()),r,()))
def MG(a:Y1)(b:List Y1)(e:Y1)(f:Int):Tr Y1:=.g (((0:Int)<=(length a:Int))&&((length a:Int)<=(length a:Int))&&(((8:Nat):Int)*(length a:Int)<=281474976710656))<|.c _ (aAA (e,f,b,(length b:Int)) (0,(List.replicate (toNat (length a:Int)) 0))) λh=>.l h
def Ln e b a c:=(MG e b a c).ev
def aKZ:FP prog:=aH cx func247 [] (yj [.agg Zh,.dat y1,.dat yi]) [] [] (uM MG) ⟨[.ren 15 0],[.tmp 6],q8,[tK],[],[]⟩ kG bU [(2,aRi),(0,aRu)]
def Yy(k:Int×Y1×Y2)(v:Int×Y1):Tr (gD⊕Y1):=.t (v.1<k.1) (.g (aC v.1 (length v.2))<|.g ((toNat v.1)<length v.2)<|.g (aC v.1 (length k.2.1))<|.g (aC v.1 (length v.2))<|.g ((toNat v.1)<length v.2)<|.l (.inl ((wrap .i64 (v.1+1)),(set v.2 (toNat v.1) (wrap .i64 ((getD k.2.1 (toNat v.1) 0) -(getD v.2 (toNat v.1) 0))))))) (.l (.inr v.2))
def aKL k v:=aB (λv=>(Yy k v).ev) v
abbrev SC:Keep:=yk [] [5] (yj [.arr 640]) [(640,.arr 3 yi)]
def aPs:LD:=yl (Yy) (yk [] [2,5,11,12,13] (yj [.box 2 0,.arr 640,.arr 640,.dat yi,.dat yi]) [yV,(640,.arr 3 yi)]) [(0,SC)] aF (λk v=>(((),(),(),k.1,v.1,()),(k.2.1,k.2.2,()),v.2,())) (λt=>(t.1.2.2.2.1,t.2.1.1,t.2.1.2.1)) Nt (λ_ r=>yx 0 SC (((),()),r,()))
def aAh(e:Y1)(a:List Y1)(g:Y1):Tr Y1:=.c _ (Ln e a g 1) λb=>.c _ (aKL ((length b:Int),e,a) (0,b)) λf=>.l f
def aFt c b a:=(aAh c b a).ev
def aQQ:FP prog:=aH cx func178 [aKZ] (yj [.agg Zh,.dat y1]) [] [] (bH aAh) ⟨[.ren 640 0],[.tmp 4],q8,[tK],[],[]⟩ kG bU [(0,aPs)]
def Zc(k:Y2×C4)(v:Int×Y1):Tr (gD⊕Y1):=.t (v.1<k.2.1) (.g (aC v.1 (length k.1))<|.c _ (Qi (getD k.1 (toNat v.1) [])) λa=>.g ((length v.2+length ([a]:Y1))*8<=140737488355328)<|.l (.inl ((wrap .i64 (v.1+1)),(v.2++([a]:Y1))))) (.l (.inr v.2))
def aBC k v:=aB (λv=>(Zc k v).ev) v
abbrev VN:Keep:=yk [] [1,4] (yj [.box 1 0,.arr 19]) [jT,(19,.arr 3 yi)]
def aND:LD:=yl (Zc) (yk [] [1,4,21,22,23] (yj [.box 1 0,.arr 19,.dat y2,.dat yi,.dat yi]) [jT,(19,.arr 3 yi)]) [(0,VN)] aF (λk v=>(((),(),k.1,k.2.1,v.1,()),(k.2.2.1,k.2.2.2,()),v.2,())) SU Nt (λk r=>yx 0 VN (((),(),()),(k.2.2.1,k.2.2.2,()),r,()))
noncomputable abbrev EO(p1:Int)(p2 p3:Y1)(p4 p5:Int)(p6:Y1)(p7:Int):=(.g (aC p1 (length p2))<|.g ((toNat p1)<length p2)<|.t ((getD p3 (toNat p4) 0)<=(getD p2 (toNat p1) 0)) (.t (p5<0) (.g (aC p4 (length p6))<|.g ((toNat p4)<length p6)<|.l (.inl (p7,(getD p6 (toNat p4) 0),(wrap .i64 (p4+1))))) (.g (aC p4 (length p6))<|.g ((toNat p4)<length p6)<|.t ((getD p6 (toNat p4) 0)<p5) (.g (aC p4 (length p6))<|.g ((toNat p4)<length p6)<|.l (.inl (p7,(getD p6 (toNat p4) 0),(wrap .i64 (p4+1))))) (.l (.inl (p7,p5,(wrap .i64 (p4+1))))))) (.l (.inl (p7,p5,(wrap .i64 (p4+1))))):Tr ((Int×jA)⊕jA))
def D3(k:Bool×Int×Y2×Int×Int×Y1×Int×Y1×Y2×Y1×Y1)(v:Int×jA):Tr ((Int×jA)⊕jA):=.t (v.2.2<k.2.2.2.2.2.2.1) (.g (aC v.2.2 (length k.2.2.2.2.2.1))<|.g (aC k.2.1 (length k.2.2.2.2.2.2.2.2.2.1))<|.g ((toNat k.2.1)<length k.2.2.2.2.2.2.2.2.2.1)<|.t ((getD k.2.2.2.2.2.2.2.2.2.1 (toNat k.2.1) 0)<(getD k.2.2.2.2.2.1 (toNat v.2.2) 0)) (.t (v.1<0) (.l (.inl ((getD k.2.2.2.2.2.1 (toNat v.2.2) 0),v.2.1,(wrap .i64 (v.2.2+1))))) (.t ((getD k.2.2.2.2.2.1 (toNat v.2.2) 0)<v.1) (.l (.inl ((getD k.2.2.2.2.2.1 (toNat v.2.2) 0),v.2.1,(wrap .i64 (v.2.2+1))))) (EO k.2.1 k.2.2.2.2.2.2.2.2.2.1 k.2.2.2.2.2.1 v.2.2 v.2.1 k.2.2.2.2.2.2.2.2.2.2 v.1))) (EO k.2.1 k.2.2.2.2.2.2.2.2.2.1 k.2.2.2.2.2.1 v.2.2 v.2.1 k.2.2.2.2.2.2.2.2.2.2 v.1)) (.l (.inr (v.1,v.2.1)))
def aKU k v:=aB (λv=>(D3 k v).ev) v
abbrev RU:Keep:=yk [] [1,4,7,8,11,12,35,36,37] (yj [.box 1 0,.arr 19,.dat .bool,.dat yi,.dat yi,.dat yi,.dat y2,.dat yi,.dat yi]) [jT,(19,.arr 3 yi)]
def aNF:LD:=yl (D3) (yk [] [1,4,7,8,10,11,12,35,36,37,45,46,47] (yj [.box 1 0,.arr 19,.dat .bool,.dat yi,.arr 2816,.dat yi,.dat yi,.dat y2,.dat yi,.dat yi,.dat y1,.dat yi,.dat yi]) [jT,(19,.arr 3 yi),(2816,.arr 3 yi)]) [(6,RU)] aF (λk v=>(((),(),k.1,k.2.1,(),v.1,v.2.1,k.2.2.1,k.2.2.2.1,k.2.2.2.2.1,k.2.2.2.2.2.1,k.2.2.2.2.2.2.1,v.2.2,()),(k.2.2.2.2.2.2.2.1,k.2.2.2.2.2.2.2.2.1,()),k.2.2.2.2.2.2.2.2.2.1,k.2.2.2.2.2.2.2.2.2.2,())) (λt=>(t.1.2.2.1,t.1.2.2.2.1,t.1.2.2.2.2.2.2.2.1,t.1.2.2.2.2.2.2.2.2.1,t.1.2.2.2.2.2.2.2.2.2.1,t.1.2.2.2.2.2.2.2.2.2.2.1,t.1.2.2.2.2.2.2.2.2.2.2.2.1,t.2.1.1,t.2.1.2.1,t.2.2.1,t.2.2.2.1)) (λt=>(t.1.2.2.2.2.2.1,t.1.2.2.2.2.2.2.1,t.1.2.2.2.2.2.2.2.2.2.2.2.2.1)) (λk r=>yx 6 RU (((),(),k.1,k.2.1,r.1,r.2,k.2.2.1,k.2.2.2.1,k.2.2.2.2.1,()),(k.2.2.2.2.2.2.2.1,k.2.2.2.2.2.2.2.2.1,()),k.2.2.2.2.2.2.2.2.2.1,()))
def X3(k:Y2×C4)(v:Bool×gD):Tr ((Bool×gD)⊕C5):=.t (v.2.1<k.2.1) (.g (aC v.2.1 (length k.1))<|.c _ (aFt k.2.2.1 k.2.2.2 v.2.2) λb=>.c _ (aKU (v.1,v.2.1,k.1,k.2.1,v.2.1,(getD k.1 (toNat v.2.1) []),(length (getD k.1 (toNat v.2.1) []):Int),k.2.2.1,k.2.2.2,v.2.2,b) ((-1),(-1),0)) λa=>.g (aC v.2.1 (length v.2.2))<|.g ((toNat v.2.1)<length v.2.2)<|.t (0<=a.1) (.t v.1 (.g (aC v.2.1 (length v.2.2))<|.g ((toNat v.2.1)<length v.2.2)<|.l (.inl (true,(wrap .i64 (v.2.1+1)),(set v.2.2 (toNat v.2.1) (if a.1<(wrap .i64 ((getD v.2.2 (toNat v.2.1) 0)+a.2))then a.1 else(wrap .i64 ((getD v.2.2 (toNat v.2.1) 0)+a.2))))))) (.g (aC v.2.1 (length v.2.2))<|.g ((toNat v.2.1)<length v.2.2)<|.g (aC v.2.1 (length v.2.2))<|.g ((toNat v.2.1)<length v.2.2)<|.l (.inl (((getD v.2.2 (toNat v.2.1) 0)<(if a.1<(wrap .i64 ((getD v.2.2 (toNat v.2.1) 0)+a.2))then a.1 else(wrap .i64 ((getD v.2.2 (toNat v.2.1) 0)+a.2)))),(wrap .i64 (v.2.1+1)),(set v.2.2 (toNat v.2.1) (if a.1<(wrap .i64 ((getD v.2.2 (toNat v.2.1) 0)+a.2))then a.1 else(wrap .i64 ((getD v.2.2 (toNat v.2.1) 0)+a.2)))))))) (.t v.1 (.g (aC v.2.1 (length v.2.2))<|.g ((toNat v.2.1)<length v.2.2)<|.l (.inl (true,(wrap .i64 (v.2.1+1)),(set v.2.2 (toNat v.2.1) (wrap .i64 ((getD v.2.2 (toNat v.2.1) 0)+a.2)))))) (.g (aC v.2.1 (length v.2.2))<|.g ((toNat v.2.1)<length v.2.2)<|.g (aC v.2.1 (length v.2.2))<|.g ((toNat v.2.1)<length v.2.2)<|.l (.inl (((getD v.2.2 (toNat v.2.1) 0)<(wrap .i64 ((getD v.2.2 (toNat v.2.1) 0)+a.2))),(wrap .i64 (v.2.1+1)),(set v.2.2 (toNat v.2.1) (wrap .i64 ((getD v.2.2 (toNat v.2.1) 0)+a.2)))))))) (.l (.inr (v.1,v.2.2)))
def aJF k v:=aB (λv=>(X3 k v).ev) v
abbrev HV:Keep:=yk [] [1,4,7] (yj [.box 1 0,.arr 19,.dat .bool]) [jT,(19,.arr 3 yi)]
def aPq:LD:=yl (X3) (yk [] [1,4,7,35,36,37] (yj [.box 1 0,.arr 19,.dat .bool,.dat y2,.dat yi,.dat yi]) [jT,(19,.arr 3 yi)]) [(4,HV)] aF (λk v=>(((),(),v.1,k.1,k.2.1,v.2.1,()),(k.2.2.1,k.2.2.2,()),v.2.2,())) (λt=>(t.1.2.2.2.1,t.1.2.2.2.2.1,t.2.1.1,t.2.1.2.1)) (λt=>(t.1.2.2.1,t.1.2.2.2.2.2.1,t.2.2.1)) (λk r=>yx 4 HV (((),(),r.1,()),(k.2.2.1,k.2.2.2,()),r.2,()))
def Gw(k:Y1×Y2)(v:Bool×Y1):Tr (C5⊕Y1):=.t v.1 (.c _ (aJF (k.2,(length k.2:Int),k.1,k.2) (false,0,v.2)) λa=>.l (.inl (a.1,a.2))) (.l (.inr v.2))
def aLi k v:=aB (λv=>(Gw k v).ev) v
abbrev XA:Keep:=yk [] [4] (yj [.arr 19]) [(19,.arr 3 yi)]
def aQl:LD:=yl (Gw) HV [(2,XA)] aF Bl E8 O5 (λ_ r=>yx 2 XA (((),()),r,()))
def aER(b:Y1)(a:List Y1):Tr C5:=.c _ (tQ b a) λg=>.t (!g) (.l (false,[])) (.c _ (aBC (a,(length a:Int),b,a) (0,[])) λf=>.c _ (aLi (b,a) (true,f)) λe=>.l (true,e))
def KC a b:=(aER a b).ev
def aHt:FP prog:=aH cx func118 [E6,aLF,aQQ] (yj [.agg Zh]) [] [] (jO aER) ⟨[.own 2 0 3 yi,.ren 19 0],[.tmp 2,.tmp 3],Ho,[tK],[],[]⟩ gX bU [(0,aND),(6,aNF),(4,aPq),(2,aQl)]
end
end Go.Proofs.YtjiljcblmgeioaaGreatDoor
