/- A part of the proof that FnConsole hands back true, at every argument of the row. -/
import Derived.Test.YtjiljcblmgeioaaGreatDoorC4
namespace Go.Proofs.YtjiljcblmgeioaaGreatDoor
set_option linter.all false
noncomputable section
open Go.Proofs.Tryz
open List (length getD set)
open Int (toNat)
open IntKind (wrap)
def aGJ(b:List UInt8):Tr Int:=.c _ (aSJ ([[],([111,112,101,110]:List UInt8),([99,108,111,115,101]:List UInt8),([115,119,97,112]:List UInt8),([99,111,115,116]:List UInt8),([108,101,110,103,116,104]:List UInt8),([115,105,116,101]:List UInt8),([99,108,105,101,110,116]:List UInt8),([100,114,111,112,115,105,116,101]:List UInt8),([100,114,111,112,99,108,105,101,110,116]:List UInt8),([105,109,112,114,111,118,101]:List UInt8),([98,101,115,116]:List UInt8)]:List (List UInt8)) b) λa=>.l a
def yW a:=(aGJ a).ev
def aRT:FP prog:=aH cx func69 [aQY] Fz [] [] (oM aGJ) oB bN
noncomputable abbrev FQ(p1 p2:Int):=(.t (p1==p2) (.l (2,false,true)) (.t (p1==5) (.l (3,false,true)) (.t (p1==6) (.l (1,true,true)) (.t (p1==7) (.l (0,true,true)) (.t (p1==10) (.t (p1==10) (.l (0,false,true)) (.l (0,false,false))) (.t (p1==11) (.l (0,false,true)) (.l (0,false,false))))))):Tr (Int×Bool×Bool))
noncomputable abbrev X7(p1 p2:Int):=(.t (p1==p2) (.l (1,false,true)) (.t (p1==3) (FQ p1 3) (FQ p1 4)):Tr (Int×Bool×Bool))
def MD(a:Int):Tr (Int×Bool×Bool):=.t (a==1) (X7 a 1) (.t (a==2) (X7 a 2) (.t (a==8) (X7 a 8) (X7 a 9)))
def jK a:=(MD a).ev
def wekk:FP prog:=aH cx func102 [] fK [] [] (oM MD) (yr [.tmp 2,.tmp 3,.tmp 4] (yj [.dat yi,.dat .bool,.dat .bool])) GY
def aCu(h g f e:Int)(b:Y1):Tr Bool:=.c _ (jK h) λa=>.t a.2.2 (.t (0<a.1) (.t (1<a.1) (.t (2<a.1) (.t a.2.1 (.l true) (.l ((length b:Int)==(0:Int)))) (.t (e==0) (.t a.2.1 (.l true) (.l ((length b:Int)==(0:Int)))) (.l false))) (.t (f==0) (.t (2<a.1) (.t a.2.1 (.l true) (.l ((length b:Int)==(0:Int)))) (.t (e==0) (.t a.2.1 (.l true) (.l ((length b:Int)==(0:Int)))) (.l false))) (.l false))) (.t (g==0) (.t (1<a.1) (.t (2<a.1) (.t a.2.1 (.l true) (.l ((length b:Int)==(0:Int)))) (.t (e==0) (.t a.2.1 (.l true) (.l ((length b:Int)==(0:Int)))) (.l false))) (.t (f==0) (.t (2<a.1) (.t a.2.1 (.l true) (.l ((length b:Int)==(0:Int)))) (.t (e==0) (.t a.2.1 (.l true) (.l ((length b:Int)==(0:Int)))) (.l false))) (.l false))) (.l false))) (.l false)
def aAA f b e a c:=(aCu f b e a c).ev
def aMs:FP prog:=aH cx func153 [wekk] (yj [.agg UK]) [] [] (An aCu) Dt bN
def GV(k:Y1×Int)(v:Int×Int):Tr (jI⊕Int):=.t (v.2<k.2) (.g (aC v.2 (length k.1))<|.g ((0:Int)<=(getD k.1 (toNat v.2) 0))<|.l (.inl ((wrap .u64 (BitVec.toNat ((BitVec.ofInt bI v.1)||| (BitVec.ofInt bI (wrap .u64 ((1:Int)*2^(min (toNat (getD k.1 (toNat v.2) 0)) bI))))))),(wrap .i64 (v.2+1))))) (.l (.inr v.1))
def aJm k v:=aB (λv=>(GV k v).ev) v
abbrev VO:Keep:=yh [3] (yj [.dat (.int .u64)])
abbrev UC{a b c d:Type}(k:a×b)(v:c×d):=((v.1,k.1,k.2,v.2,()),())
abbrev VH{a b c d e g:Type}(t:(a×b×c×d×e)×g):=(t.1.1,t.1.2.2.2.1)
def aQU:LD:=yl (GV) (yh [3,6,7,8] (yj [.dat (.int .u64),.dat y1,.dat yi,.dat yi])) [(0,VO)] aE UC iV VH (λ_ r=>yx 0 VO ((r,()),()))
def aCW(a:Y1):Tr Int:=.c _ (aJm (a,(length a:Int)) (0,0)) λb=>.l b
def Ya a:=(aCW a).ev
abbrev RF:RetK:=yr [.tmp 2] (yj [.dat (.int .u64)])
def wdsb:FP prog:=aH cx func154 [] Di [] [] (oM aCW) RF bN bU [(0,aQU)]
def aAh(e:Int)(a:Y1)(_h:List Y1)(_f:Y1)(_g:Int):Tr Bool:=.c _ (B9 e 0 (wrap .i64 ((length a:Int) -1))) λb=>.l b
def Y5 f b e a c:=(aAh f b e a c).ev
def aOj:FP prog:=aH cx func155 [Ca] (yj [.dat yi,.ptr oL]) [] [] ((λf x=>f x.1.1 x.1.2.1.1 x.1.2.1.2.1 x.1.2.1.2.2.1 x.1.2.1.2.2.2.1) aAh) Mp bN
def aHo(b a:Int):Tr Bool:=.g (0<=a)<|.l ((wrap .u64 (BitVec.toNat ((BitVec.ofInt bI (Int.fdiv b (2^(min (toNat a) bI))))&&& (BitVec.ofInt bI 1))))==(1:Int))
def zY b a:=(aHo b a).ev
def wdsc:FP prog:=aH cx func156 [] (yj [.dat (.int .u64),.dat yi]) [] [] (dG aHo) dC bN
def aGM(k:Int)(v:Int×Y1):Tr (gR⊕Y1):=.g (0<=v.1)<|.t ((0:Int)<(Int.fdiv k (2^(min (toNat v.1) bI)))) (.c _ (zY k v.1) λa=>.t a (.g ((length v.2+length ([v.1]:Y1))*8<=140737488355328)<|.l (.inl ((wrap .i64 (v.1+1)),(v.2++([v.1]:Y1))))) (.l (.inl ((wrap .i64 (v.1+1)),v.2)))) (.l (.inr v.2))
def aMx k v:=aB (λv=>(aGM k v).ev) v
abbrev SB:Keep:=yk [] [3] (yj [.arr 5]) [(5,.arr 3 yi)]
def aTg:LD:=yl (aGM) (yk [] [0,3,4] (yj [.dat (.int .u64),.arr 5,.dat yi]) [(5,.arr 3 yi)]) [(0,SB)] aE Eu oG Ch (λ_ r=>yx 0 SB (((),()),r,()))
def aJc(a:Int):Tr Y1:=.c _ (aMx a (0,[])) λb=>.l b
def zW a:=(aJc a).ev
def wdfl:FP prog:=aH cx func157 [wdsc] (yj [.dat (.int .u64)]) [] [] (oM aJc) ⟨[.ren 5 0],[.tmp 2],C7,[tP],[],[]⟩ kQ bU [(0,aTg)]
def WV(h:Y1)(a b:Int):Tr Y1:=.c _ (Ya h) λf=>.g (0<=a)<|.g (0<=b)<|.c _ (zW (wrap .u64 (BitVec.toNat ((BitVec.ofInt bI (wrap .u64 (BitVec.toNat ((BitVec.ofInt bI f)&&& ~~~(BitVec.ofInt bI (wrap .u64 ((1:Int)*2^(min (toNat a) bI))))))))||| (BitVec.ofInt bI (wrap .u64 ((1:Int)*2^(min (toNat b) bI)))))))) λe=>.l e
def PD c b a:=(WV c b a).ev
def wedz:FP prog:=aH cx func158 [wdsb,wdfl] (yj [.dat y1,.dat yi,.dat yi]) [] [] (Rr WV) ⟨[.ren 960 0],[.tmp 6],C7,[tP],[],[]⟩ kQ
def NS(b a:Int)(c:Y1):Option (List Int):=G4 b a c
def aRD:FD:=fdDelI
theorem aRr:eF prog (159,aRD):=Ua
def aOr:FP prog:=⟨_,aRr⟩
def aLN(b a:Int)(c:List Y1):Option (List (List Int)):=G4 b a c
def aLW:FD:=fdDelR
theorem aSL:eF prog (160,aLW):=Rm
def aRb:FP prog:=⟨_,aSL⟩
def aDv(e:Y1)(_f:List Y1)(a:Y1):Tr Bool:=.t ((0:Int)<(length a:Int)) (.c _ (LR a (length e:Int)) λb=>.l b) (.l false)
def aHm c b a:=(aDv c b a).ev
def aMh:FP prog:=aH cx func242 [aLB] (yj [.agg Zv,.dat y1]) [] [] (bF aDv) dC bN
def aDK(b:Y1)(a:List Y1)(f:Y1):Tr Bool:=.c _ (uR b a) λg=>.t g (.c _ (aHm b a f) λe=>.l e) (.l false)
def Ff c b a:=(aDK c b a).ev
def Qw:FP prog:=aH cx func173 [H6,aMh] (yj [.agg Zv,.dat y1]) [] [] (bF aDK) dC bN
def HK(k:Y1×E3)(v:Int×Int):Tr (jI⊕Int):=.t (v.2<k.2.1) (.g (aC v.2 (length k.1))<|.g (aC (getD k.1 (toNat v.2) 0) (length k.2.2.1))<|.l (.inl ((wrap .i64 (v.1+(getD k.2.2.1 (toNat (getD k.1 (toNat v.2) 0)) 0))),(wrap .i64 (v.2+1))))) (.l (.inr v.1))
def aIR k v:=aB (λv=>(HK k v).ev) v
abbrev UX{a b c d e g h i j:Type}(t:(a×b×c×d×e)×(g×h×i)×j):=(t.1.2.2.1,t.1.2.2.2.1,t.2.1.1,t.2.1.2.1)
def aOA:LD:=yl (HK) (yk [] [2,5,8,9,10] (yj [.box 2 0,.dat yi,.dat y1,.dat yi,.dat yi]) [zO]) [(0,oK)] aE (λk v=>(((),v.1,k.1,k.2.1,v.2,()),(k.2.2.1,k.2.2.2,()),())) UX (λt=>(t.1.2.1,t.1.2.2.2.2.1)) (λ_ r=>yx 0 oK ((r,()),()))
def aAS(f:Y1)(e:List Y1)(a:Y1):Tr Int:=.c _ (aIR (a,(length a:Int),f,e) (0,0)) λb=>.l b
def aEQ c b a:=(aAS c b a).ev
def aMr:FP prog:=aH cx func288 [] (yj [.agg Zv,.dat y1]) [] [] (bF aAS) lJ bN bU [(0,aOA)]
def GN(k:Int×Y1×E3)(v:Int×Int):Tr (jI⊕Int):=.t (v.2<k.2.2.1) (.g (aC v.2 (length k.2.1))<|.g (aC k.1 (length k.2.2.2.2))<|.g (aC (getD k.2.1 (toNat v.2) 0) (length (getD k.2.2.2.2 (toNat k.1) [])))<|.g (aC k.1 (length k.2.2.2.2))<|.g (aC v.1 (length (getD k.2.2.2.2 (toNat k.1) [])))<|.t ((getD (getD k.2.2.2.2 (toNat k.1) []) (toNat (getD k.2.1 (toNat v.2) 0)) 0)<(getD (getD k.2.2.2.2 (toNat k.1) []) (toNat v.1) 0)) (.l (.inl ((getD k.2.1 (toNat v.2) 0),(wrap .i64 (v.2+1))))) (.l (.inl (v.1,(wrap .i64 (v.2+1)))))) (.l (.inr v.1))
def aHx k v:=aB (λv=>(GN k v).ev) v
abbrev DW{a b c d e g h i:Type}(t:(a×b×c×d×e×g×h)×i):=(t.1.2.2.1,t.1.2.2.2.2.2.1)
def aQD:LD:=yl (GN) (yk [] [1,3,7,13,14,15] (yj [.dat yi,.box 3 0,.dat yi,.dat y1,.dat yi,.dat yi]) [(3,.cells Zv)]) [(0,rY)] aE (λk v=>((k.1,(),v.1,k.2.1,k.2.2.1,v.2,()),(k.2.2.2.1,k.2.2.2.2,()),())) (λt=>(t.1.1,t.1.2.2.2.1,t.1.2.2.2.2.1,t.2.1.1,t.2.1.2.1)) DW (λ_ r=>yx 0 rY ((r,()),()))
def aBU(h:Y1)(e:List Y1)(f:Int)(a:Y1):Tr Int:=.g (aC 0 (length a))<|.c _ (aHx (f,a,(length a:Int),h,e) ((getD a (toNat 0) 0),0)) λb=>.l b
def aGp e c b a:=(aBU e c b a).ev
def aQj:FP prog:=aH cx func243 [] (yj [.agg Zv,.dat yi,.dat y1]) [] [] (vO aBU) j9 bN bU [(0,aQD)]
def DE(k:Y1×E3)(v:Int×Y1):Tr (gR⊕Y1):=.t (v.1<k.2.1) (.c _ (aGp k.2.2.1 k.2.2.2 v.1 k.1) λa=>.g ((length v.2+length ([a]:Y1))*8<=140737488355328)<|.l (.inl ((wrap .i64 (v.1+1)),(v.2++([a]:Y1))))) (.l (.inr v.2))
def aKA k v:=aB (λv=>(DE k v).ev) v
abbrev Mw{a b c d e g h i j:Type}(t:(a×b×c×d×e×g)×h×i×j):=(t.1.2.2.2.2.1,t.2.2.1)
def aOp:LD:=yl (DE) (yk [] [1,2,5,10,11] (yj [.dat y1,.box 2 0,.arr 7,.dat yi,.dat yi]) [zO,(7,.arr 3 yi)]) [(0,J7)] aE (λk v=>((k.1,(),(),k.2.1,v.1,()),(k.2.2.1,k.2.2.2,()),v.2,())) (λt=>(t.1.1,t.1.2.2.2.1,t.2.1.1,t.2.1.2.1)) Mw (λ_ r=>yx 0 J7 (((),()),r,()))
def aCG(e:Y1)(a:List Y1)(b:Y1):Tr Y1:=.c _ (aKA (b,(length a:Int),e,a) (0,[])) λf=>.l f
def JO c b a:=(aCG c b a).ev
def aJq:FP prog:=aH cx func175 [aQj] (yj [.agg Zv,.dat y1]) [] [] (bF aCG) IA kQ bU [(0,aOp)]
def EB(k:Int×Oc)(v:Int×Y1):Tr (gR⊕Y1):=.t (v.1<k.1) (.g (aC v.1 (length k.2.2.2))<|.g ((toNat v.1)<length k.2.2.2)<|.g (aC v.1 (length k.2.2.1))<|.g (aC (getD k.2.2.2 (toNat v.1) 0) (length (getD k.2.2.1 (toNat v.1) [])))<|.g ((length v.2+length ([(getD (getD k.2.2.1 (toNat v.1) []) (toNat (getD k.2.2.2 (toNat v.1) 0)) 0)]:Y1))*8<=140737488355328)<|.l (.inl ((wrap .i64 (v.1+1)),(v.2++([(getD (getD k.2.2.1 (toNat v.1) []) (toNat (getD k.2.2.2 (toNat v.1) 0)) 0)]:Y1))))) (.l (.inr v.2))
def aHc k v:=aB (λv=>(EB k v).ev) v
abbrev VS:Keep:=yk [] [5] (yj [.arr 8]) [(8,.arr 3 yi)]
def aSA:LD:=yl (EB) (yk [] [2,5,11,12,13] (yj [.box 2 0,.arr 8,.arr 704,.dat yi,.dat yi]) [zO,(8,.arr 3 yi),(704,.arr 3 yi)]) [(0,VS)] aE (λk v=>(((),(),(),k.1,v.1,()),(k.2.1,k.2.2.1,()),v.2,k.2.2.2,())) (λt=>(t.1.2.2.2.1,t.2.1.1,t.2.1.2.1,t.2.2.2.1)) Mw (λ_ r=>yx 0 VS (((),()),r,()))
def YD(e:Y1)(a:List Y1)(g:Y1):Tr Y1:=.c _ (JO e a g) λb=>.c _ (aHc ((length b:Int),e,a,b) (0,[])) λf=>.l f
def NN c b a:=(YD c b a).ev
def aKE:FP prog:=aH cx func239 [aJq] (yj [.agg Zv,.dat y1]) [] [] (bF YD) ⟨[.ren 8 0],[.tmp 4],C7,[tP],[],[]⟩ kQ bU [(0,aSA)]
def Cj(k:Y1×Int)(v:Int×Int):Tr (jI⊕Int):=.t (v.2<k.2) (.g (aC v.2 (length k.1))<|.l (.inl ((wrap .i64 (v.1+(getD k.1 (toNat v.2) 0))),(wrap .i64 (v.2+1))))) (.l (.inr v.1))
def aFB k v:=aB (λv=>(Cj k v).ev) v
abbrev TC:Keep:=yh [3,6,7,8] (yj [.dat yi,.dat y1,.dat yi,.dat yi])
def aTu:LD:=yl (Cj) TC [(0,jM)] aE UC iV VH (λ_ r=>yx 0 jM ((r,()),()))
def KJ(a:Y1):Tr Int:=.c _ (aFB (a,(length a:Int)) (0,0)) λb=>.l b
def Sq a:=(KJ a).ev
def aJf:FP prog:=aH cx func172 [] Di [] [] (oM KJ) oB bN bU [(0,aTu)]
def aFl(g:Y1)(b:List Y1)(e:Y1):Tr Int:=.c _ (NN g b e) λf=>.c _ (Sq f) λa=>.l a
def Gi c b a:=(aFl c b a).ev
def aGw:FP prog:=aH cx func174 [aKE,aJf] (yj [.agg Zv,.dat y1]) [] [] (bF aFl) lJ bN
def aCZ(e:Y1)(a:List Y1)(b:Y1):Tr Int:=.c _ (aEQ e a b) λg=>.c _ (Gi e a b) λf=>.l (wrap .i64 (g+f))
def a6 c b a:=(aCZ c b a).ev
def wdkc:FP prog:=aH cx func234 [aMr,aGw] (yj [.agg Zv,.dat y1]) [] [] (bF aCZ) lJ bN
def aCr(a e:Y1)(f:List Y1)(b:Int):Tr ((Y1×Z3)⊕(Y1×Z3)):=.c _ (a6 e f a) λh=>.t (h<b) (.g (0<length a)<|.l (.inr (a,e,f,b))) (.l (.inl (a,e,f,b)))
def Tb e c b a:=(aCr e c b a).ev
def aNT:RetK:= {acts:=[],res:=[.tmp 5],sh:=Pz,obs:=[xS,(65,.cells Zv),(66,.cells fK),(67,.cells (yj [.nilsl]))],pins:=[(0,0,64),(1,0,65),(2,0,66),(3,0,67)]}
def aPw:RetK:= {acts:=[],res:=[.tmp 5],sh:=Pz,obs:=[xS,(65,.cells Zv),(66,.cells fK),(67,.cells (yj [.arr 64]))],pins:=[(0,0,64),(1,0,65),(2,0,66),(3,0,67)]}
def aJY:FD:= {(yd (yj [.arr 64,.box 65 0,.box 66 0,.box 67 0]) [xS,(65,.cells Zv),(66,.cells fK),(67,.cells (yj [.nilsl]))] [.arg 0,.arg 1,.arg 2,.arg 3] ((Y1×Z3)⊕(Y1×Z3)) (λx=>Tb x.2.1 x.2.2.1.1 x.2.2.1.2.1 x.2.2.2.1.1) (λr=>match r with| .inl a=>([.dat .bool true],[(64,.arr 3 yi a.1),(65,.cells [.dat y1 a.2.1,.dat y2 a.2.2.1]),(66,.cells [.dat yi a.2.2.2]),(67,.cells [.nilsl])])| .inr b=>([.dat .bool false],[(64,.arr 3 yi b.1),(65,.cells [.dat y1 b.2.1,.dat y2 b.2.2.1]),(66,.cells [.dat yi b.2.2.2]),(67,.cells [.arr 64])])))with sp:=λr=>.s _ _ r (λa=>.l ([.dat .bool true],[(64,.arr 3 yi a.1),(65,.cells [.dat y1 a.2.1,.dat y2 a.2.2.1]),(66,.cells [.dat yi a.2.2.2]),(67,.cells [.nilsl])])) (λb=>.l ([.dat .bool false],[(64,.arr 3 yi b.1),(65,.cells [.dat y1 b.2.1,.dat y2 b.2.2.1]),(66,.cells [.dat yi b.2.2.2]),(67,.cells [.arr 64])])),spok:=λr=>by cases r<;>rfl}
theorem aRU:eF prog (257,aJY):=BE mixed (xC (Vx wdkc.2 fdN)) Dr (VY aJY (pP [wdkc.1]) aNT aPw bU [] ((f257.body).getD .skip) (λx=>aCr x.2.1 x.2.2.1.1 x.2.2.1.2.1 x.2.2.2.1.1) (λr=>match r with| .inl a=>.inl ((true,()),a.1,(a.2.1,a.2.2.1,()),(a.2.2.2,()),((),()),())| .inr b=>.inr ((false,()),b.1,(b.2.1,b.2.2.1,()),(b.2.2.2,()),((),()),())) func257 (AS (by kernel_rfl) lpN) (λ_=>by kernel_rfl) λr=>by cases r<;>rfl)
def G_zz:FP prog:=⟨_,aRU⟩
def Xq(k:Y1×Int×jI)(v:Int×Z3):Tr ((Int×Z3)⊕(Z3⊕(Y1×Y2×gR))):=.t (v.1<k.2.2.2) (.c _ (zY k.2.1 v.1) λh=>.t (!h) (.g (0<=v.1)<|.c _ (zW (wrap .u64 (BitVec.toNat ((BitVec.ofInt bI k.2.1)||| (BitVec.ofInt bI (wrap .u64 ((1:Int)*2^(min (toNat v.1) bI)))))))) λf=>.c _ (Tb f v.2.1 v.2.2.1 v.2.2.2) λe=>.s _ _ e (λb=>.l (.inl ((wrap .i64 (v.1+1)),b.2.1,b.2.2.1,b.2.2.2))) (λa=>.l (.inr (.inr (a.2.1,a.2.2.1,a.2.2.2,a.1))))) (.l (.inl ((wrap .i64 (v.1+1)),v.2.1,v.2.2.1,v.2.2.2)))) (.l (.inr (.inl (v.2.1,v.2.2.1,v.2.2.2))))
def aLS k v:=aB (λv=>(Xq k v).ev) v
abbrev Nz:Keep:=yk [] [1,2,6,7] (yj [.dat y1,.fn 257 IV,.dat (.int .u64),.dat yi]) [(64,.cells Zv),(65,.cells fK),(66,.cells (yj [.nilsl]))]
abbrev QO:Keep:=yk [] [2] (yj [.fn 257 IV]) [(64,.cells Zv),(65,.cells fK),(66,.cells (yj [.arr 2112])),Nt]
def aHW:LD:=yl (Xq) (yk [] [1,2,6,7,19,20] (yj [.dat y1,.fn 257 IV,.dat (.int .u64),.dat yi,.dat yi,.dat yi]) [(64,.cells Zv),(65,.cells fK),(66,.cells (yj [.nilsl]))]) [(0,Nz)] QO (λk v=>((k.1,((),(),(),()),k.2.1,k.2.2.1,k.2.2.2,v.1,()),(v.2.1,v.2.2.1,()),(v.2.2.2,()),((),()),())) (λt=>(t.1.1,t.1.2.2.1,t.1.2.2.2.1,t.1.2.2.2.2.1)) (λt=>(t.1.2.2.2.2.2.1,t.2.1.1,t.2.1.2.1,t.2.2.1.1)) (λk r=>.s _ _ r (λa=>yx 0 Nz ((k.1,((),(),(),()),k.2.1,k.2.2.1,()),(a.1,a.2.1,()),(a.2.2,()),((),()),())) (λb=>yz QO ((((),(),(),()),()),(b.1,b.2.1,()),(b.2.2.1,()),((),()),b.2.2.2,())))
def AA(k:Y1×Int×Int×Y1×Int)(v:Int×Z3):Tr ((Int×Z3)⊕(Z3⊕(Y1×Y2×gR))):=.t (v.1<k.2.2.2.2) (.g (aC v.1 (length k.2.2.2.1))<|.t ((1:Int)<(length k.1:Int)) (.g ((0:Int)<=(getD k.2.2.2.1 (toNat v.1) 0))<|.c _ (zW (wrap .u64 (BitVec.toNat ((BitVec.ofInt bI k.2.1)&&& ~~~(BitVec.ofInt bI (wrap .u64 ((1:Int)*2^(min (toNat (getD k.2.2.2.1 (toNat v.1) 0)) bI)))))))) λf=>.c _ (Tb f v.2.1 v.2.2.1 v.2.2.2) λe=>.s _ _ e (λb=>.l (.inl ((wrap .i64 (v.1+1)),b.2.1,b.2.2.1,b.2.2.2))) (λa=>.l (.inr (.inr (a.2.1,a.2.2.1,a.2.2.2,a.1))))) (.l (.inl ((wrap .i64 (v.1+1)),v.2.1,v.2.2.1,v.2.2.2)))) (.l (.inr (.inl (v.2.1,v.2.2.1,v.2.2.2))))
def aJp k v:=aB (λv=>(AA k v).ev) v
abbrev UG:Keep:=yk [] [2] (yj [.fn 257 IV]) [(64,.cells Zv),(65,.cells fK),(66,.cells (yj [.arr 3392])),(3392,.arr 3 yi)]
abbrev TV{a b c d e g h i j:Type}(k:a×b×c×d×e)(v:g×h×i×j):=((k.1,((),(),(),()),k.2.1,k.2.2.1,k.2.2.2.1,k.2.2.2.2,v.1,()),(v.2.1,v.2.2.1,()),(v.2.2.2,()),((),()),())
abbrev QY{a b c d e g h i:Type}(t:(a×b×c×d×e×g×h)×i):=(t.1.1,t.1.2.2.1,t.1.2.2.2.1,t.1.2.2.2.2.1,t.1.2.2.2.2.2.1)
abbrev WK{a b c d e g h i j l m n o p:Type}(t:(a×b×c×d×e×g×h×i)×(j×l×m)×(n×o)×p):=(t.1.2.2.2.2.2.2.1,t.2.1.1,t.2.1.2.1,t.2.2.1.1)
def aKH:LD:=yl (AA) (yk [] [1,2,6,7,38,39,40] (yj [.dat y1,.fn 257 IV,.dat (.int .u64),.dat yi,.dat y1,.dat yi,.dat yi]) [(64,.cells Zv),(65,.cells fK),(66,.cells (yj [.nilsl]))]) [(2,Nz)] UG TV QY WK (λk r=>.s _ _ r (λa=>yx 2 Nz ((k.1,((),(),(),()),k.2.1,k.2.2.1,()),(a.1,a.2.1,()),(a.2.2,()),((),()),())) (λb=>yz UG ((((),(),(),()),()),(b.1,b.2.1,()),(b.2.2.1,()),((),()),b.2.2.2,())))
def Wp(k:Y1×Int×Int×Int×Y1×Int×jI)(v:Int×Z3):Tr ((Int×Z3)⊕(Z3⊕(Y1×Y2×gR))):=.t (v.1<k.2.2.2.2.2.2.2) (.c _ (zY k.2.1 v.1) λe=>.t (!e) (.c _ (PD k.1 k.2.2.2.1 v.1) λg=>.c _ (Tb g v.2.1 v.2.2.1 v.2.2.2) λf=>.s _ _ f (λb=>.l (.inl ((wrap .i64 (v.1+1)),b.2.1,b.2.2.1,b.2.2.2))) (λa=>.l (.inr (.inr (a.2.1,a.2.2.1,a.2.2.2,a.1))))) (.l (.inl ((wrap .i64 (v.1+1)),v.2.1,v.2.2.1,v.2.2.2)))) (.l (.inr (.inl (v.2.1,v.2.2.1,v.2.2.2))))
def aIs k v:=aB (λv=>(Wp k v).ev) v
abbrev Wh:Keep:=yk [] [1,2,6,7,58,59,60] (yj [.dat y1,.fn 257 IV,.dat (.int .u64),.dat yi,.dat y1,.dat yi,.dat yi]) [(64,.cells Zv),(65,.cells fK),(66,.cells (yj [.nilsl]))]
abbrev Mm:Keep:=yk [] [2] (yj [.fn 257 IV]) [(64,.cells Zv),(65,.cells fK),(66,.cells (yj [.arr 4928])),(4928,.arr 3 yi)]
def aIb:LD:=yl (Wp) (yk [] [1,2,6,7,12,58,59,60,64,65] (yj [.dat y1,.fn 257 IV,.dat (.int .u64),.dat yi,.dat yi,.dat y1,.dat yi,.dat yi,.dat yi,.dat yi]) [(64,.cells Zv),(65,.cells fK),(66,.cells (yj [.nilsl]))]) [(6,Wh)] Mm (λk v=>((k.1,((),(),(),()),k.2.1,k.2.2.1,k.2.2.2.1,k.2.2.2.2.1,k.2.2.2.2.2.1,k.2.2.2.2.2.2.1,k.2.2.2.2.2.2.2,v.1,()),(v.2.1,v.2.2.1,()),(v.2.2.2,()),((),()),())) (λt=>(t.1.1,t.1.2.2.1,t.1.2.2.2.1,t.1.2.2.2.2.1,t.1.2.2.2.2.2.1,t.1.2.2.2.2.2.2.1,t.1.2.2.2.2.2.2.2.1,t.1.2.2.2.2.2.2.2.2.1)) (λt=>(t.1.2.2.2.2.2.2.2.2.2.1,t.2.1.1,t.2.1.2.1,t.2.2.1.1)) (λk r=>.s _ _ r (λa=>yx 6 Wh ((k.1,((),(),(),()),k.2.1,k.2.2.1,k.2.2.2.2.1,k.2.2.2.2.2.1,k.2.2.2.2.2.2.1,()),(a.1,a.2.1,()),(a.2.2,()),((),()),())) (λb=>yz Mm ((((),(),(),()),()),(b.1,b.2.1,()),(b.2.2.1,()),((),()),b.2.2.2,())))
def GL(k:Y1×Int×Int×Y1×Int)(v:Int×Z3):Tr ((Int×Z3)⊕(Z3⊕(Y1×Y2×gR))):=.t (v.1<k.2.2.2.2) (.g (aC v.1 (length k.2.2.2.1))<|.c _ (aIs (k.1,k.2.1,k.2.2.1,(getD k.2.2.2.1 (toNat v.1) 0),k.2.2.2.1,k.2.2.2.2,v.1,k.2.2.1) (0,v.2.1,v.2.2.1,v.2.2.2)) λe=>.s _ _ e (λb=>.l (.inl ((wrap .i64 (v.1+1)),b.1,b.2.1,b.2.2))) (λa=>.l (.inr (.inr (a.1,a.2.1,a.2.2.1,a.2.2.2))))) (.l (.inr (.inl (v.2.1,v.2.2.1,v.2.2.2))))
def aIF k v:=aB (λv=>(GL k v).ev) v
abbrev QZ:Keep:=yk [] [2] (yj [.fn 257 IV]) [(64,.cells Zv),(65,.cells fK),(66,.cells (yj [.nilsl]))]
def aJB:LD:=yl (GL) Wh [(4,QZ)] Mm TV QY WK (λ_ r=>.s _ _ r (λa=>yx 4 QZ ((((),(),(),()),()),(a.1,a.2.1,()),(a.2.2,()),((),()),())) (λb=>yz Mm ((((),(),(),()),()),(b.1,b.2.1,()),(b.2.2.1,()),((),()),b.2.2.2,())))
def aCU(g:Y1)(_w:List Y1)(a n:Y1)(o:List Y1)(q:Int):Tr (Z3⊕(Y1×Y2×gR)):=.c _ (Ya a) λj=>.c _ (aLS (a,j,(length g:Int),(length g:Int)) (0,n,o,q)) λr=>.s _ _ r (λi=>.c _ (aJp (a,j,(length g:Int),a,(length a:Int)) (0,i.1,i.2.1,i.2.2)) λp=>.s _ _ p (λm=>.c _ (aIF (a,j,(length g:Int),a,(length a:Int)) (0,m.1,m.2.1,m.2.2)) λu=>.s _ _ u (λh=>.l (.inl (h.1,h.2.1,h.2.2))) (λe=>.l (.inr (e.1,e.2.1,e.2.2.1,e.2.2.2)))) (λb=>.l (.inr (b.1,b.2.1,b.2.2.1,b.2.2.2)))) (λf=>.l (.inr (f.1,f.2.1,f.2.2.1,f.2.2.2)))
def KY g b f a c e:=(aCU g b f a c e).ev
def aNE:RetK:= {acts:=[],res:=[],sh:=.nil,obs:=[(64,.cells Zv),(65,.cells fK),(66,.cells (yj [.nilsl]))],pins:=[(2,1,64),(2,2,65),(2,3,66)]}
def aSt:RetK:= {acts:=[.ren 4928 0,.ren 3392 0,.ren 2112 0],res:=[],sh:=.nil,obs:=[(64,.cells Zv),(65,.cells fK),(66,.cells C7),tP],pins:=[(2,1,64),(2,2,65),(2,3,66)]}
def aKt:FD:= {(yd (yj [.agg Zv,.dat y1,.fn 257 IV]) [(64,.cells Zv),(65,.cells fK),(66,.cells (yj [.nilsl]))] [.cap 2 0,.cap 2 1,.cap 2 2] (Z3⊕(Y1×Y2×gR)) (λx=>KY x.1.1.1 x.1.1.2.1 x.1.2.1 x.2.1.1 x.2.1.2.1 x.2.2.1.1) (λr=>match r with| .inl a=>([],[(64,.cells [.dat y1 a.1,.dat y2 a.2.1]),(65,.cells [.dat yi a.2.2]),(66,.cells [.nilsl])])| .inr b=>([],[(64,.cells [.dat y1 b.1,.dat y2 b.2.1]),(65,.cells [.dat yi b.2.2.1]),(66,.cells [.arr 0]),(0,.arr 3 yi b.2.2.2)])))with sp:=λr=>.s _ _ r (λa=>.l ([],[(64,.cells [.dat y1 a.1,.dat y2 a.2.1]),(65,.cells [.dat yi a.2.2]),(66,.cells [.nilsl])])) (λb=>.l ([],[(64,.cells [.dat y1 b.1,.dat y2 b.2.1]),(65,.cells [.dat yi b.2.2.1]),(66,.cells [.arr 0]),(0,.arr 3 yi b.2.2.2)])),spok:=λr=>by cases r<;>rfl}
def Tz:Env:=pP [wdsb.1,wdsc.1,wdfl.1,G_zz.1,wedz.1]
def Pp:List (Nat×LD):=[(0,aHW),(2,aKH),(6,aIb),(4,aJB)]
def Vm:Code:=(f256.body).getD .skip
theorem aSr:(aHW).OK Tz tt bU (fQ Pp) (oZ Vm 0):=Ve (λ_=>rfl) λ_ _=>by kernel_rfl
theorem aPS:(aKH).OK Tz tt bU (fQ Pp) (oZ Vm 2):=Ve (λ_=>rfl) λ_ _=>by kernel_rfl
theorem aNc:(aIb).OK Tz tt bU (fQ Pp) (oZ Vm 6):=Ve (λ_=>rfl) λ_ _=>by kernel_rfl
theorem aRQ:(aJB).OK Tz tt bU (fQ Pp) (oZ Vm 4):=Ve (λ_=>rfl) λ_ _=>by kernel_rfl
theorem aSa:eY Tz tt bU Pp Vm:=AS (by kernel_rfl) (lpC aSr (lpC aPS (lpC aNc (lpC aRQ lpN))))
theorem aOT:eF prog (256,aKt):=BE mixed (xC (Vx wdsb.2 (Vx wdsc.2 (Vx wdfl.2 (Vx G_zz.2 (Vx wedz.2 fdN)))))) Dr (VY aKt Tz aNE aSt bU Pp Vm (λx=>aCU x.1.1.1 x.1.1.2.1 x.1.2.1 x.2.1.1 x.2.1.2.1 x.2.2.1.1) (λr=>match r with| .inl a=>.inl ((),(a.1,a.2.1,()),(a.2.2,()),((),()),())| .inr b=>.inr ((),(b.1,b.2.1,()),(b.2.2.1,()),((),()),b.2.2.2,())) func256 aSa (λ_=>by kernel_rfl) λr=>by cases r<;>rfl)
def aSc:FP prog:=⟨_,aOT⟩
def aAW(b:Y1)(a:List Y1)(f:Y1):Tr D9:=.c _ (a6 b a f) λi=>.c _ (KY b a f b a i) λh=>.s _ _ h (λ_=>.l (false,[])) (λe=>.g (0<length e.2.2.2)<|.l (true,e.2.2.2))
def MP c b a:=(aAW c b a).ev
def aLd:FP prog:=aH cx func187 [wdkc,aSc] (yj [.agg Zv,.dat y1]) [] [] (bF aAW) ⟨[.own 4 0 3 yi,.ren 896 0],[.tmp 4,.tmp 5],Dq,[tP],[],[]⟩ gN
def BK(k:Y1×Y2)(v:Int×Y1):Tr (gR⊕gR):=.c _ (MP k.1 k.2 v.2) λa=>.t (!a.1) (.l (.inr (v.1,v.2))) (.l (.inl ((wrap .i64 (v.1+1)),a.2)))
def FK k v:=aB (λv=>(BK k v).ev) v
abbrev QN:Keep:=yk [] [4,5,6] (yj [.arr 1024,.dat yi,.dat .bool]) [(1024,.arr 3 yi)]
def aRE:LD:=yl (BK) (yk [.rep 1408 1024] [2,7,8] (yj [.box 2 0,.arr 1024,.dat yi]) [zO,(1024,.arr 3 yi)]) [] QN As E8 L4 (λ_ r=>yz QN (((),r.1,true,()),r.2,()))
def aCw(f:Y1)(a:List Y1)(e:Y1):Tr (Int×D9):=.c _ (Ff f a e) λh=>.t (!h) (.l (0,false,[])) (.c _ (D5 e) λg=>.c _ (FK (f,a) (0,g)) λb=>.l (b.1,true,b.2))
def WU c b a:=(aCw c b a).ev
def aPv:FP prog:=aH cx func161 [Qw,JL,aLd] (yj [.agg Zv,.dat y1]) [] [] (bF aCw) ⟨[.own 4 0 3 yi,.ren 1024 0],[.tmp 4,.tmp 5,.tmp 6],(yj [.arr 0,.dat yi,.dat .bool]),[tP],[],[]⟩ UQ bU [(0,aRE)]
noncomputable abbrev GA(p1 p2:Int):=(.g (aC (wrap .u8 (Int.fdiv (Int.fdiv p1 (2^(min (toNat 32) bI))) (2^(min (toNat p2) bI)))) (length Zq))<|.l (wrap .i64 ((wrap .i64 ((32:Int)+p2))+(wrap .i64 ((UInt8.toNat (getD Zq (toNat (wrap .u8 (Int.fdiv (Int.fdiv p1 (2^(min (toNat 32) bI))) (2^(min (toNat p2) bI))))) 0):Nat):Int)))):Tr Int)
noncomputable abbrev Yz(p1 p2:Int):=(.g (aC (wrap .u8 (Int.fdiv p1 (2^(min (toNat p2) bI)))) (length Zq))<|.l (wrap .i64 ((wrap .i64 ((0:Int)+p2))+(wrap .i64 ((UInt8.toNat (getD Zq (toNat (wrap .u8 (Int.fdiv p1 (2^(min (toNat p2) bI))))) 0):Nat):Int)))):Tr Int)
def aHY(a:Int):Tr Int:=.t (4294967296<=a) (.g ((0:Int)<=(32:Int))<|.t ((65536:Int)<=(Int.fdiv a (2^(min (toNat 32) bI)))) (.g ((0:Int)<=(16:Int))<|.t ((256:Int)<=(Int.fdiv (Int.fdiv a (2^(min (toNat 32) bI))) (2^(min (toNat 16) bI)))) (.g ((0:Int)<=(8:Int))<|.g (aC (wrap .u8 (Int.fdiv (Int.fdiv (Int.fdiv a (2^(min (toNat 32) bI))) (2^(min (toNat 16) bI))) (2^(min (toNat 8) bI)))) (length Zq))<|.l (wrap .i64 ((wrap .i64 ((wrap .i64 ((32:Int)+16))+8))+(wrap .i64 ((UInt8.toNat (getD Zq (toNat (wrap .u8 (Int.fdiv (Int.fdiv (Int.fdiv a (2^(min (toNat 32) bI))) (2^(min (toNat 16) bI))) (2^(min (toNat 8) bI))))) 0):Nat):Int))))) (GA a 16)) (.t ((256:Int)<=(Int.fdiv a (2^(min (toNat 32) bI)))) (.g ((0:Int)<=(8:Int))<|GA a 8) (.g (aC (wrap .u8 (Int.fdiv a (2^(min (toNat 32) bI)))) (length Zq))<|.l (wrap .i64 ((32:Int)+(wrap .i64 ((UInt8.toNat (getD Zq (toNat (wrap .u8 (Int.fdiv a (2^(min (toNat 32) bI))))) 0):Nat):Int))))))) (.t (65536<=a) (.g ((0:Int)<=(16:Int))<|.t ((256:Int)<=(Int.fdiv a (2^(min (toNat 16) bI)))) (.g ((0:Int)<=(8:Int))<|.g (aC (wrap .u8 (Int.fdiv (Int.fdiv a (2^(min (toNat 16) bI))) (2^(min (toNat 8) bI)))) (length Zq))<|.l (wrap .i64 ((wrap .i64 ((wrap .i64 ((0:Int)+16))+8))+(wrap .i64 ((UInt8.toNat (getD Zq (toNat (wrap .u8 (Int.fdiv (Int.fdiv a (2^(min (toNat 16) bI))) (2^(min (toNat 8) bI))))) 0):Nat):Int))))) (Yz a 16)) (.t (256<=a) (.g ((0:Int)<=(8:Int))<|Yz a 8) (.g (aC (wrap .u8 a) (length Zq))<|.l (wrap .i64 ((0:Int)+(wrap .i64 ((UInt8.toNat (getD Zq (toNat (wrap .u8 a)) 0):Nat):Int)))))))
def aPE a:=(aHY a).ev
def aMq:FP prog:=aH cx func304 [] (yj [.dat (.int .u64)]) [] [] (oM aHY) oB bN
def aKb(b:Int):Tr Int:=.c _ (aPE b) λa=>.l a
def PL a:=(aKb a).ev
def aCm:FP prog:=aH cx func255 [aMq] (yj [.dat (.int .u64)]) [] [] (oM aKb) oB bN
def aKI(k:Int×Int×sY×Int)(v:Int×gH):Tr ((Int×gH)⊕gH):=.t (k.1<v.1) (.g (aC v.1 (length v.2.1))<|.g (((toNat v.1)<length v.2.1)&&((getD v.2.1 (toNat v.1) 0)<length v.2.2))<|.g (aC (wrap .i64 (v.1-1)) (length v.2.1))<|.g (((toNat (wrap .i64 (v.1-1)))<length v.2.1)&&((getD v.2.1 (toNat (wrap .i64 (v.1-1))) 0)<length v.2.2))<|.c _ (k.2.2.1 ((getD v.2.2 (getD v.2.1 (toNat v.1) 0) []),(getD v.2.2 (getD v.2.1 (toNat (wrap .i64 (v.1-1))) 0) []),())) λa=>.t (a<0) (.g (aC (wrap .i64 (v.1-1)) (length v.2.1))<|.g (((toNat (wrap .i64 (v.1-1)))<length v.2.1)&&((getD v.2.1 (toNat (wrap .i64 (v.1-1))) 0)<length v.2.2))<|.g (aC v.1 (length v.2.1))<|.g (((toNat v.1)<length v.2.1)&&((getD v.2.1 (toNat v.1) 0)<length v.2.2))<|.g (aC v.1 (length v.2.1))<|.g ((toNat v.1)<length v.2.1)<|.g (aC (wrap .i64 (v.1-1)) (length (set v.2.1 (toNat v.1) (getD v.2.1 (toNat (wrap .i64 (v.1-1))) 0))))<|.g ((toNat (wrap .i64 (v.1-1)))<length (set v.2.1 (toNat v.1) (getD v.2.1 (toNat (wrap .i64 (v.1-1))) 0)))<|.l (.inl ((wrap .i64 (v.1-1)),(set (set v.2.1 (toNat v.1) (getD v.2.1 (toNat (wrap .i64 (v.1-1))) 0)) (toNat (wrap .i64 (v.1-1))) (getD v.2.1 (toNat v.1) 0)),v.2.2))) (.l (.inr v.2))) (.l (.inr v.2))
def aRP k v:=aB (λv=>(aKI k v).ev) v
abbrev IN:Keep:=yk [] [0,1,2,3,8] (yj [.arr 64,.dat yi,.dat yi,.clo [y1,y1] yi,.dat yi]) [F3]
abbrev VM{a b c d e g:Type}(k:a×b×c×d)(v:e×g):=(((),k.1,k.2.1,k.2.2.1,k.2.2.2,v.1,()),v.2,())
abbrev RK{a b c d e g h:Type}(t:(a×b×c×d×e×g)×h):=(t.1.2.1,t.1.2.2.1,t.1.2.2.2.1,t.1.2.2.2.2.1)
abbrev FV{a b c d e g h i j:Type}(t:(a×b×c×d×e×g×h)×i×j):=(t.1.2.2.2.2.2.1,t.2.1)
def aSb:LD:=yl (aKI) (yk [] [0,1,2,3,8,9] (yj [.arr 64,.dat yi,.dat yi,.clo [y1,y1] yi,.dat yi,.dat yi]) [F3]) [(2,IN)] aE VM RK FV (λk r=>yx 2 IN (((),k.1,k.2.1,k.2.2.1,k.2.2.2,()),r,()))
def aJM(k:Int×Int×sY)(v:Int×gH):Tr ((Int×gH)⊕gH):=.t (v.1<k.2.1) (.c _ (aRP (k.1,k.2.1,k.2.2,v.1) (v.1,v.2)) λa=>.l (.inl ((wrap .i64 (v.1+1)),a))) (.l (.inr v.2))
def aNh k v:=aB (λv=>(aJM k v).ev) v
abbrev H9:Keep:=yk [] [0] (yj [.arr 64]) [F3]
abbrev Xu{a b c d e:Type}(k:a×b×c)(v:d×e):=(((),k.1,k.2.1,k.2.2,v.1,()),v.2,())
abbrev Of{a b c d e g:Type}(t:(a×b×c×d×e)×g):=(t.1.2.1,t.1.2.2.1,t.1.2.2.2.1)
abbrev CB{a b c d e g h i:Type}(t:(a×b×c×d×e×g)×h×i):=(t.1.2.2.2.2.1,t.2.1)
def aNF:LD:=yl (aJM) IN [(0,H9)] aE Xu Of CB (λ_ r=>yx 0 H9 (((),()),r,()))
def aIf(a f:Int)(b:sY)(g:(List Nat)×Y2):Tr gH:=.c _ (aNh (a,f,b) ((wrap .i64 (a+1)),g)) λe=>.l e
def aQa c b a e:=(aIf c b a e).ev
abbrev Nd{a b c d e g h:Type}{z:Type _}(f:b->c->d->g->z)(x:(a×b×c×d×e)×g×h):z:=f x.1.2.1 x.1.2.2.1 x.1.2.2.2.1 x.2.1
abbrev Yj:RetK:=⟨[],[],.nil,[F3],[(0,0,64)],[]⟩
abbrev tS{a:Type}(r:a):=((),r,())
def wela:FP prog:=aH cx func339 [] (yj [.arr 64,.dat yi,.dat yi,.clo [y1,y1] yi]) [F3] [.arg 0] (Nd aIf) Yj tS bU [(2,aSb),(0,aNF)]
def aIz(b:Int):Tr Int:=.c _ (PL (wrap .u64 b)) λa=>.g (0<=a)<|.l (wrap .u64 ((1:Int)*2^(min (toNat a) bI)))
def aOJ a:=(aIz a).ev
def aTc:FP prog:=aH cx func329 [aCm] fK [] [] (oM aIz) RF bN
def aHv(a:Int):Tr jI:=.g ((0:Int)<=(13:Int))<|.g ((0:Int)<=(7:Int))<|.g ((0:Int)<=(17:Int))<|.l ((wrap .u64 (BitVec.toNat ((BitVec.ofInt bI (wrap .u64 (BitVec.toNat ((BitVec.ofInt bI (wrap .u64 (BitVec.toNat ((BitVec.ofInt bI a)^^^ (BitVec.ofInt bI (wrap .u64 (a*2^(min (toNat 13) bI))))))))^^^ (BitVec.ofInt bI (Int.fdiv (wrap .u64 (BitVec.toNat ((BitVec.ofInt bI a)^^^ (BitVec.ofInt bI (wrap .u64 (a*2^(min (toNat 13) bI))))))) (2^(min (toNat 7) bI))))))))^^^ (BitVec.ofInt bI (wrap .u64 ((wrap .u64 (BitVec.toNat ((BitVec.ofInt bI (wrap .u64 (BitVec.toNat ((BitVec.ofInt bI a)^^^ (BitVec.ofInt bI (wrap .u64 (a*2^(min (toNat 13) bI))))))))^^^ (BitVec.ofInt bI (Int.fdiv (wrap .u64 (BitVec.toNat ((BitVec.ofInt bI a)^^^ (BitVec.ofInt bI (wrap .u64 (a*2^(min (toNat 13) bI))))))) (2^(min (toNat 7) bI)))))))*2^(min (toNat 17) bI))))))),(wrap .u64 (BitVec.toNat ((BitVec.ofInt bI (wrap .u64 (BitVec.toNat ((BitVec.ofInt bI (wrap .u64 (BitVec.toNat ((BitVec.ofInt bI a)^^^ (BitVec.ofInt bI (wrap .u64 (a*2^(min (toNat 13) bI))))))))^^^ (BitVec.ofInt bI (Int.fdiv (wrap .u64 (BitVec.toNat ((BitVec.ofInt bI a)^^^ (BitVec.ofInt bI (wrap .u64 (a*2^(min (toNat 13) bI))))))) (2^(min (toNat 7) bI))))))))^^^ (BitVec.ofInt bI (wrap .u64 ((wrap .u64 (BitVec.toNat ((BitVec.ofInt bI (wrap .u64 (BitVec.toNat ((BitVec.ofInt bI a)^^^ (BitVec.ofInt bI (wrap .u64 (a*2^(min (toNat 13) bI))))))))^^^ (BitVec.ofInt bI (Int.fdiv (wrap .u64 (BitVec.toNat ((BitVec.ofInt bI a)^^^ (BitVec.ofInt bI (wrap .u64 (a*2^(min (toNat 13) bI))))))) (2^(min (toNat 7) bI)))))))*2^(min (toNat 17) bI))))))))
def aSg a:=(aHv a).ev
abbrev CY{a b:Type}(r:a×b):=((r.1,()),(r.2,()),())
def aMo:FP prog:=aH cx func330 [] (yj [.box 64 0]) [(64,.cells (yj [.dat (.int .u64)]))] [.arg 0] ((λf x=>f x.2.1.1) aHv) ⟨[],[.tmp 2],(yj [.dat (.int .u64)]),[(64,.cells (yj [.dat (.int .u64)]))],[(0,0,64)],[]⟩ CY
def aIr(k:Int×jI)(v:Int×gH×Int):Tr ((Int×gH×Int)⊕gH):=.g (!decide ((4:Int)=0))<|.t (v.1<=(wrap .i64 ((wrap .i64 (k.1+(wrap .i64 ((wrap .i64 (Int.tdiv k.2.1 4))*(2:Int)))))+1))) (.c _ (aSg v.2.2) λa=>.t (k.2.1<=(wrap .i64 (wrap .u64 (BitVec.toNat ((BitVec.ofInt bI a.1)&&& (BitVec.ofInt bI (wrap .u64 (k.2.2-1)))))))) (.g (aC (wrap .i64 (k.1+(wrap .i64 ((wrap .i64 (wrap .u64 (BitVec.toNat ((BitVec.ofInt bI a.1)&&& (BitVec.ofInt bI (wrap .u64 (k.2.2-1))))))) -k.2.1)))) (length v.2.1.1))<|.g (((toNat (wrap .i64 (k.1+(wrap .i64 ((wrap .i64 (wrap .u64 (BitVec.toNat ((BitVec.ofInt bI a.1)&&& (BitVec.ofInt bI (wrap .u64 (k.2.2-1))))))) -k.2.1)))))<length v.2.1.1)&&((getD v.2.1.1 (toNat (wrap .i64 (k.1+(wrap .i64 ((wrap .i64 (wrap .u64 (BitVec.toNat ((BitVec.ofInt bI a.1)&&& (BitVec.ofInt bI (wrap .u64 (k.2.2-1))))))) -k.2.1))))) 0)<length v.2.1.2))<|.g (aC v.1 (length v.2.1.1))<|.g (((toNat v.1)<length v.2.1.1)&&((getD v.2.1.1 (toNat v.1) 0)<length v.2.1.2))<|.g (aC v.1 (length v.2.1.1))<|.g ((toNat v.1)<length v.2.1.1)<|.g (aC (wrap .i64 (k.1+(wrap .i64 ((wrap .i64 (wrap .u64 (BitVec.toNat ((BitVec.ofInt bI a.1)&&& (BitVec.ofInt bI (wrap .u64 (k.2.2-1))))))) -k.2.1)))) (length (set v.2.1.1 (toNat v.1) (getD v.2.1.1 (toNat (wrap .i64 (k.1+(wrap .i64 ((wrap .i64 (wrap .u64 (BitVec.toNat ((BitVec.ofInt bI a.1)&&& (BitVec.ofInt bI (wrap .u64 (k.2.2-1))))))) -k.2.1))))) 0))))<|.g ((toNat (wrap .i64 (k.1+(wrap .i64 ((wrap .i64 (wrap .u64 (BitVec.toNat ((BitVec.ofInt bI a.1)&&& (BitVec.ofInt bI (wrap .u64 (k.2.2-1))))))) -k.2.1)))))<length (set v.2.1.1 (toNat v.1) (getD v.2.1.1 (toNat (wrap .i64 (k.1+(wrap .i64 ((wrap .i64 (wrap .u64 (BitVec.toNat ((BitVec.ofInt bI a.1)&&& (BitVec.ofInt bI (wrap .u64 (k.2.2-1))))))) -k.2.1))))) 0)))<|.l (.inl ((wrap .i64 (v.1+1)),((set (set v.2.1.1 (toNat v.1) (getD v.2.1.1 (toNat (wrap .i64 (k.1+(wrap .i64 ((wrap .i64 (wrap .u64 (BitVec.toNat ((BitVec.ofInt bI a.1)&&& (BitVec.ofInt bI (wrap .u64 (k.2.2-1))))))) -k.2.1))))) 0)) (toNat (wrap .i64 (k.1+(wrap .i64 ((wrap .i64 (wrap .u64 (BitVec.toNat ((BitVec.ofInt bI a.1)&&& (BitVec.ofInt bI (wrap .u64 (k.2.2-1))))))) -k.2.1))))) (getD v.2.1.1 (toNat v.1) 0)),v.2.1.2),a.2))) (.g (aC (wrap .i64 (k.1+(wrap .i64 (wrap .u64 (BitVec.toNat ((BitVec.ofInt bI a.1)&&& (BitVec.ofInt bI (wrap .u64 (k.2.2-1))))))))) (length v.2.1.1))<|.g (((toNat (wrap .i64 (k.1+(wrap .i64 (wrap .u64 (BitVec.toNat ((BitVec.ofInt bI a.1)&&& (BitVec.ofInt bI (wrap .u64 (k.2.2-1))))))))))<length v.2.1.1)&&((getD v.2.1.1 (toNat (wrap .i64 (k.1+(wrap .i64 (wrap .u64 (BitVec.toNat ((BitVec.ofInt bI a.1)&&& (BitVec.ofInt bI (wrap .u64 (k.2.2-1)))))))))) 0)<length v.2.1.2))<|.g (aC v.1 (length v.2.1.1))<|.g (((toNat v.1)<length v.2.1.1)&&((getD v.2.1.1 (toNat v.1) 0)<length v.2.1.2))<|.g (aC v.1 (length v.2.1.1))<|.g ((toNat v.1)<length v.2.1.1)<|.g (aC (wrap .i64 (k.1+(wrap .i64 (wrap .u64 (BitVec.toNat ((BitVec.ofInt bI a.1)&&& (BitVec.ofInt bI (wrap .u64 (k.2.2-1))))))))) (length (set v.2.1.1 (toNat v.1) (getD v.2.1.1 (toNat (wrap .i64 (k.1+(wrap .i64 (wrap .u64 (BitVec.toNat ((BitVec.ofInt bI a.1)&&& (BitVec.ofInt bI (wrap .u64 (k.2.2-1)))))))))) 0))))<|.g ((toNat (wrap .i64 (k.1+(wrap .i64 (wrap .u64 (BitVec.toNat ((BitVec.ofInt bI a.1)&&& (BitVec.ofInt bI (wrap .u64 (k.2.2-1))))))))))<length (set v.2.1.1 (toNat v.1) (getD v.2.1.1 (toNat (wrap .i64 (k.1+(wrap .i64 (wrap .u64 (BitVec.toNat ((BitVec.ofInt bI a.1)&&& (BitVec.ofInt bI (wrap .u64 (k.2.2-1)))))))))) 0)))<|.l (.inl ((wrap .i64 (v.1+1)),((set (set v.2.1.1 (toNat v.1) (getD v.2.1.1 (toNat (wrap .i64 (k.1+(wrap .i64 (wrap .u64 (BitVec.toNat ((BitVec.ofInt bI a.1)&&& (BitVec.ofInt bI (wrap .u64 (k.2.2-1)))))))))) 0)) (toNat (wrap .i64 (k.1+(wrap .i64 (wrap .u64 (BitVec.toNat ((BitVec.ofInt bI a.1)&&& (BitVec.ofInt bI (wrap .u64 (k.2.2-1)))))))))) (getD v.2.1.1 (toNat v.1) 0)),v.2.1.2),a.2)))) (.l (.inr v.2.1))
def aPF k v:=aB (λv=>(aIr k v).ev) v
def aMT:LD:=yl (aIr) (yk [] [0,1,8,9,10,11] (yj [.arr 64,.dat yi,.dat yi,.box 9 0,.dat (.int .u64),.dat yi]) [F3,(9,.cells (yj [.dat (.int .u64)]))]) [(0,H9)] aE (λk v=>(((),k.1,k.2.1,(),k.2.2,v.1,()),v.2.1,(v.2.2,()),())) (λt=>(t.1.2.1,t.1.2.2.1,t.1.2.2.2.2.1)) (λt=>(t.1.2.2.2.2.2.1,t.2.1,t.2.2.1.1)) (λ_ r=>yx 0 H9 (((),()),r,()))
def aIh(a b:Int)(_i:sY)(e:(List Nat)×Y2):Tr gH:=.t ((8:Int)<=(wrap .i64 (b-a))) (.c _ (aOJ (wrap .i64 (b-a))) λh=>.g (!decide ((4:Int)=0))<|.c _ (aPF (a,(wrap .i64 (b-a)),h) ((wrap .i64 ((wrap .i64 (a+(wrap .i64 ((wrap .i64 (Int.tdiv (wrap .i64 (b-a)) 4))*(2:Int))))) -1)),e,(wrap .u64 (wrap .i64 (b-a))))) λf=>.l f) (.l e)
def aOc c b a e:=(aIh c b a e).ev
def wele:FP prog:=aH cx func341 [aTc,aMo] (yj [.arr 64,.dat yi,.dat yi,.clo [y1,y1] yi]) [F3] [.arg 0] (Nd aIh) Yj tS bU [(0,aMT)]
def aJt(e:List Y1)(a b:Int)(h:sY)(f:Int):Tr (Int×jI):=.g (aC b (length e))<|.g (aC a (length e))<|.c _ (h ((getD e (toNat b) []),(getD e (toNat a) []),())) λi=>.t (i<0) (.l (b,a,(wrap .i64 (f+1)))) (.l (a,b,f))
def aEU f b e c a:=(aJt f b e c a).ev
def aMy:FP prog:=aH cx func352 [] (yj [.dat y2,.dat yi,.dat yi,.box 64 0,.clo [y1,y1] yi]) [(64,.cells fK)] [.arg 3] ((λf x=>f x.1.1 x.1.2.1 x.1.2.2.1 x.1.2.2.2.2.1 x.2.1.1) aJt) ⟨[],[.tmp 10,.tmp 11],(yj [.dat yi,.dat yi]),[(64,.cells fK)],[(3,0,64)],[]⟩ (λr=>((r.1,r.2.1,()),(r.2.2,()),()))
def aJy(e:List Y1)(h m i:Int)(a:sY)(j:Int):Tr jI:=.c _ (aEU e h m a j) λb=>.c _ (aEU e b.2.1 i a b.2.2) λf=>.c _ (aEU e b.1 f.1 a f.2.2) λg=>.l (g.2.1,g.2.2)
def aCE g b f a e c:=(aJy g b f a e c).ev
def aGF:FP prog:=aH cx func351 [aMy] (yj [.dat y2,.dat yi,.dat yi,.dat yi,.box 64 0,.clo [y1,y1] yi]) [(64,.cells fK)] [.arg 4] ((λf x=>f x.1.1 x.1.2.1 x.1.2.2.1 x.1.2.2.2.1 x.1.2.2.2.2.2.1 x.2.1.1) aJy) ⟨[],[.tmp 12],fK,[(64,.cells fK)],[(4,0,64)],[]⟩ CY
def aIC(g:List Y1)(a:Int)(e:sY)(f:Int):Tr jI:=.c _ (aCE g (wrap .i64 (a-1)) a (wrap .i64 (a+1)) e f) λb=>.l (b.1,b.2)
def XW e c a b:=(aIC e c a b).ev
def aNw:FP prog:=aH cx func350 [aGF] (yj [.dat y2,.dat yi,.box 64 0,.clo [y1,y1] yi]) [(64,.cells fK)] [.arg 2] ((λf x=>f x.1.1 x.1.2.1 x.1.2.2.2.1 x.2.1.1) aIC) ⟨[],[.tmp 8],fK,[(64,.cells fK)],[(2,0,64)],[]⟩ CY
noncomputable abbrev Iz(p1 p2 p3:Int):=(.l ((wrap .i64 (p1+(wrap .i64 ((wrap .i64 (Int.tdiv (wrap .i64 (p2-p1)) 4))*(2:Int))))),p3):Tr jI)
def aJA(i:List Y1)(a b:Int)(e:sY):Tr jI:=.g (!decide ((4:Int)=0))<|.g (!decide ((4:Int)=0))<|.g (!decide ((4:Int)=0))<|.t ((8:Int)<=(wrap .i64 (b-a))) (.t ((50:Int)<=(wrap .i64 (b-a))) (.c _ (XW i (wrap .i64 (a+(wrap .i64 ((wrap .i64 (Int.tdiv (wrap .i64 (b-a)) 4))*(1:Int))))) e 0) λn=>.c _ (XW i (wrap .i64 (a+(wrap .i64 ((wrap .i64 (Int.tdiv (wrap .i64 (b-a)) 4))*(2:Int))))) e n.2) λj=>.c _ (XW i (wrap .i64 (a+(wrap .i64 ((wrap .i64 (Int.tdiv (wrap .i64 (b-a)) 4))*(3:Int))))) e j.2) λm=>.c _ (aCE i n.1 j.1 m.1 e m.2) λf=>.t (f.2==0) (.l (f.1,1)) (.t (f.2==12) (.l (f.1,2)) (.l (f.1,0)))) (.c _ (aCE i (wrap .i64 (a+(wrap .i64 ((wrap .i64 (Int.tdiv (wrap .i64 (b-a)) 4))*(1:Int))))) (wrap .i64 (a+(wrap .i64 ((wrap .i64 (Int.tdiv (wrap .i64 (b-a)) 4))*(2:Int))))) (wrap .i64 (a+(wrap .i64 ((wrap .i64 (Int.tdiv (wrap .i64 (b-a)) 4))*(3:Int))))) e 0) λh=>.t (h.2==0) (.l (h.1,1)) (.t (h.2==12) (.l (h.1,2)) (.l (h.1,0))))) (.t ((0:Int)==(0:Int)) (Iz a b 1) (.t ((0:Int)==(12:Int)) (Iz a b 2) (Iz a b 0)))
def aIV e c b a:=(aJA e c b a).ev
def welm:FP prog:=aH cx func342 [aNw,aGF] (yj [.dat y2,.dat yi,.dat yi,.clo [y1,y1] yi]) [] [] ((λf x=>f x.1.1 x.1.2.1 x.1.2.2.1 x.1.2.2.2.1) aJA) (yr [.tmp 8,.tmp 9] (yj [.dat yi,.dat yi])) dO
def aKK(k:Int×sY×Int×gH)(v:Int):Tr (Int⊕Int):=.t (v<=k.2.2.1) (.g (aC v (length k.2.2.2.1))<|.g (((toNat v)<length k.2.2.2.1)&&((getD k.2.2.2.1 (toNat v) 0)<length k.2.2.2.2))<|.g (aC k.1 (length k.2.2.2.1))<|.g (((toNat k.1)<length k.2.2.2.1)&&((getD k.2.2.2.1 (toNat k.1) 0)<length k.2.2.2.2))<|.c _ (k.2.1 ((getD k.2.2.2.2 (getD k.2.2.2.1 (toNat v) 0) []),(getD k.2.2.2.2 (getD k.2.2.2.1 (toNat k.1) 0) []),())) λa=>.t (a<0) (.l (.inl (wrap .i64 (v+1)))) (.l (.inr v))) (.l (.inr v))
def aTB k v:=aB (λv=>(aKK k v).ev) v
abbrev mW:Keep:=yk [] [0,1,4,12,13] (yj [.arr 64,.dat yi,.clo [y1,y1] yi,.dat yi,.dat yi]) [F3]
abbrev SF{a b c d e:Type}(k:a×b×c×d)(v:e):=(((),k.1,k.2.1,v,k.2.2.1,()),k.2.2.2,())
abbrev TY{a b c d e g h i:Type}(t:(a×b×c×d×e×g)×h×i):=(t.1.2.1,t.1.2.2.1,t.1.2.2.2.2.1,t.2.1)
def aNC:LD:=yl (aKK) mW [(0,mW)] aE SF TY rQ (λk r=>yx 0 mW (((),k.1,k.2.1,r,k.2.2.1,()),k.2.2.2,()))
def aKB(k:Int×sY×Int×gH)(v:Int):Tr (Int⊕Int):=.t (k.2.2.1<=v) (.g (aC v (length k.2.2.2.1))<|.g (((toNat v)<length k.2.2.2.1)&&((getD k.2.2.2.1 (toNat v) 0)<length k.2.2.2.2))<|.g (aC k.1 (length k.2.2.2.1))<|.g (((toNat k.1)<length k.2.2.2.1)&&((getD k.2.2.2.1 (toNat k.1) 0)<length k.2.2.2.2))<|.c _ (k.2.1 ((getD k.2.2.2.2 (getD k.2.2.2.1 (toNat v) 0) []),(getD k.2.2.2.2 (getD k.2.2.2.1 (toNat k.1) 0) []),())) λa=>.t (!(a<0)) (.l (.inl (wrap .i64 (v-1)))) (.l (.inr v))) (.l (.inr v))
def aRX k v:=aB (λv=>(aKB k v).ev) v
abbrev UR{a b c d e:Type}(k:a×b×c×d)(v:e):=(((),k.1,k.2.1,k.2.2.1,v,()),k.2.2.2,())
abbrev SR{a b c d e g h:Type}(t:(a×b×c×d×e)×g×h):=(t.1.2.1,t.1.2.2.1,t.1.2.2.2.1,t.2.1)
def aSX:LD:=yl (aKB) mW [(2,mW)] aE UR SR b8 (λk r=>yx 2 mW (((),k.1,k.2.1,k.2.2.1,r,()),k.2.2.2,()))
def aHn(k:Int×sY×Int×gH)(v:Int):Tr (Int⊕Int):=.t (v<=k.2.2.1) (.g (aC v (length k.2.2.2.1))<|.g (((toNat v)<length k.2.2.2.1)&&((getD k.2.2.2.1 (toNat v) 0)<length k.2.2.2.2))<|.g (aC k.1 (length k.2.2.2.1))<|.g (((toNat k.1)<length k.2.2.2.1)&&((getD k.2.2.2.1 (toNat k.1) 0)<length k.2.2.2.2))<|.c _ (k.2.1 ((getD k.2.2.2.2 (getD k.2.2.2.1 (toNat v) 0) []),(getD k.2.2.2.2 (getD k.2.2.2.1 (toNat k.1) 0) []),())) λa=>.t (a<0) (.l (.inl (wrap .i64 (v+1)))) (.l (.inr v))) (.l (.inr v))
def aMb k v:=aB (λv=>(aHn k v).ev) v
def aLY:LD:=yl (aHn) mW [(6,mW)] aE SF TY rQ (λk r=>yx 6 mW (((),k.1,k.2.1,r,k.2.2.1,()),k.2.2.2,()))
def aHK(k:Int×sY×Int×gH)(v:Int):Tr (Int⊕Int):=.t (k.2.2.1<=v) (.g (aC v (length k.2.2.2.1))<|.g (((toNat v)<length k.2.2.2.1)&&((getD k.2.2.2.1 (toNat v) 0)<length k.2.2.2.2))<|.g (aC k.1 (length k.2.2.2.1))<|.g (((toNat k.1)<length k.2.2.2.1)&&((getD k.2.2.2.1 (toNat k.1) 0)<length k.2.2.2.2))<|.c _ (k.2.1 ((getD k.2.2.2.2 (getD k.2.2.2.1 (toNat v) 0) []),(getD k.2.2.2.2 (getD k.2.2.2.1 (toNat k.1) 0) []),())) λa=>.t (!(a<0)) (.l (.inl (wrap .i64 (v-1)))) (.l (.inr v))) (.l (.inr v))
def aTz k v:=aB (λv=>(aHK k v).ev) v
def aOz:LD:=yl (aHK) mW [(8,mW)] aE UR SR b8 (λk r=>yx 8 mW (((),k.1,k.2.1,k.2.2.1,r,()),k.2.2.2,()))
def aLD(k:Int×sY)(v:Int×Int×gH):Tr ((Int×Int×gH)⊕(Int×gH)):=.c _ (aMb (k.1,k.2,v.2.1,v.2.2) v.1) λa=>.c _ (aTz (k.1,k.2,a,v.2.2) v.2.1) λb=>.t (b<a) (.l (.inr (b,v.2.2))) (.g (aC b (length v.2.2.1))<|.g (((toNat b)<length v.2.2.1)&&((getD v.2.2.1 (toNat b) 0)<length v.2.2.2))<|.g (aC a (length v.2.2.1))<|.g (((toNat a)<length v.2.2.1)&&((getD v.2.2.1 (toNat a) 0)<length v.2.2.2))<|.g (aC a (length v.2.2.1))<|.g ((toNat a)<length v.2.2.1)<|.g (aC b (length (set v.2.2.1 (toNat a) (getD v.2.2.1 (toNat b) 0))))<|.g ((toNat b)<length (set v.2.2.1 (toNat a) (getD v.2.2.1 (toNat b) 0)))<|.l (.inl ((wrap .i64 (a+1)),(wrap .i64 (b-1)),(set (set v.2.2.1 (toNat a) (getD v.2.2.1 (toNat b) 0)) (toNat b) (getD v.2.2.1 (toNat a) 0)),v.2.2.2)))
def aMj k v:=aB (λv=>(aLD k v).ev) v
abbrev TI:Keep:=yk [] [0,1,13] (yj [.arr 64,.dat yi,.dat yi]) [F3]
def aRK:LD:=yl (aLD) mW [(4,TI)] aE (λk v=>(((),k.1,k.2,v.1,v.2.1,()),v.2.2,())) iV QX (λk r=>yx 4 TI (((),k.1,r.1,()),r.2,()))
def aHA(b m e:Int)(j:sY)(a:(List Nat)×Y2):Tr (Int×Bool×gH):=.g (aC e (length a.1))<|.g (((toNat e)<length a.1)&&((getD a.1 (toNat e) 0)<length a.2))<|.g (aC b (length a.1))<|.g (((toNat b)<length a.1)&&((getD a.1 (toNat b) 0)<length a.2))<|.g (aC b (length a.1))<|.g ((toNat b)<length a.1)<|.g (aC e (length (set a.1 (toNat b) (getD a.1 (toNat e) 0))))<|.g ((toNat e)<length (set a.1 (toNat b) (getD a.1 (toNat e) 0)))<|.c _ (aTB (b,j,(wrap .i64 (m-1)),(set (set a.1 (toNat b) (getD a.1 (toNat e) 0)) (toNat e) (getD a.1 (toNat b) 0)),a.2) (wrap .i64 (b+1))) λi=>.c _ (aRX (b,j,i,(set (set a.1 (toNat b) (getD a.1 (toNat e) 0)) (toNat e) (getD a.1 (toNat b) 0)),a.2) (wrap .i64 (m-1))) λh=>.t (h<i) (.g (aC b (length (set (set a.1 (toNat b) (getD a.1 (toNat e) 0)) (toNat e) (getD a.1 (toNat b) 0))))<|.g (((toNat b)<length (set (set a.1 (toNat b) (getD a.1 (toNat e) 0)) (toNat e) (getD a.1 (toNat b) 0)))&&((getD (set (set a.1 (toNat b) (getD a.1 (toNat e) 0)) (toNat e) (getD a.1 (toNat b) 0)) (toNat b) 0)<length a.2))<|.g (aC h (length (set (set a.1 (toNat b) (getD a.1 (toNat e) 0)) (toNat e) (getD a.1 (toNat b) 0))))<|.g (((toNat h)<length (set (set a.1 (toNat b) (getD a.1 (toNat e) 0)) (toNat e) (getD a.1 (toNat b) 0)))&&((getD (set (set a.1 (toNat b) (getD a.1 (toNat e) 0)) (toNat e) (getD a.1 (toNat b) 0)) (toNat h) 0)<length a.2))<|.g (aC h (length (set (set a.1 (toNat b) (getD a.1 (toNat e) 0)) (toNat e) (getD a.1 (toNat b) 0))))<|.g ((toNat h)<length (set (set a.1 (toNat b) (getD a.1 (toNat e) 0)) (toNat e) (getD a.1 (toNat b) 0)))<|.g (aC b (length (set (set (set a.1 (toNat b) (getD a.1 (toNat e) 0)) (toNat e) (getD a.1 (toNat b) 0)) (toNat h) (getD (set (set a.1 (toNat b) (getD a.1 (toNat e) 0)) (toNat e) (getD a.1 (toNat b) 0)) (toNat b) 0))))<|.g ((toNat b)<length (set (set (set a.1 (toNat b) (getD a.1 (toNat e) 0)) (toNat e) (getD a.1 (toNat b) 0)) (toNat h) (getD (set (set a.1 (toNat b) (getD a.1 (toNat e) 0)) (toNat e) (getD a.1 (toNat b) 0)) (toNat b) 0)))<|.l (h,true,(set (set (set (set a.1 (toNat b) (getD a.1 (toNat e) 0)) (toNat e) (getD a.1 (toNat b) 0)) (toNat h) (getD (set (set a.1 (toNat b) (getD a.1 (toNat e) 0)) (toNat e) (getD a.1 (toNat b) 0)) (toNat b) 0)) (toNat b) (getD (set (set a.1 (toNat b) (getD a.1 (toNat e) 0)) (toNat e) (getD a.1 (toNat b) 0)) (toNat h) 0)),a.2)) (.g (aC h (length (set (set a.1 (toNat b) (getD a.1 (toNat e) 0)) (toNat e) (getD a.1 (toNat b) 0))))<|.g (((toNat h)<length (set (set a.1 (toNat b) (getD a.1 (toNat e) 0)) (toNat e) (getD a.1 (toNat b) 0)))&&((getD (set (set a.1 (toNat b) (getD a.1 (toNat e) 0)) (toNat e) (getD a.1 (toNat b) 0)) (toNat h) 0)<length a.2))<|.g (aC i (length (set (set a.1 (toNat b) (getD a.1 (toNat e) 0)) (toNat e) (getD a.1 (toNat b) 0))))<|.g (((toNat i)<length (set (set a.1 (toNat b) (getD a.1 (toNat e) 0)) (toNat e) (getD a.1 (toNat b) 0)))&&((getD (set (set a.1 (toNat b) (getD a.1 (toNat e) 0)) (toNat e) (getD a.1 (toNat b) 0)) (toNat i) 0)<length a.2))<|.g (aC i (length (set (set a.1 (toNat b) (getD a.1 (toNat e) 0)) (toNat e) (getD a.1 (toNat b) 0))))<|.g ((toNat i)<length (set (set a.1 (toNat b) (getD a.1 (toNat e) 0)) (toNat e) (getD a.1 (toNat b) 0)))<|.g (aC h (length (set (set (set a.1 (toNat b) (getD a.1 (toNat e) 0)) (toNat e) (getD a.1 (toNat b) 0)) (toNat i) (getD (set (set a.1 (toNat b) (getD a.1 (toNat e) 0)) (toNat e) (getD a.1 (toNat b) 0)) (toNat h) 0))))<|.g ((toNat h)<length (set (set (set a.1 (toNat b) (getD a.1 (toNat e) 0)) (toNat e) (getD a.1 (toNat b) 0)) (toNat i) (getD (set (set a.1 (toNat b) (getD a.1 (toNat e) 0)) (toNat e) (getD a.1 (toNat b) 0)) (toNat h) 0)))<|.c _ (aMj (b,j) ((wrap .i64 (i+1)),(wrap .i64 (h-1)),(set (set (set (set a.1 (toNat b) (getD a.1 (toNat e) 0)) (toNat e) (getD a.1 (toNat b) 0)) (toNat i) (getD (set (set a.1 (toNat b) (getD a.1 (toNat e) 0)) (toNat e) (getD a.1 (toNat b) 0)) (toNat h) 0)) (toNat h) (getD (set (set a.1 (toNat b) (getD a.1 (toNat e) 0)) (toNat e) (getD a.1 (toNat b) 0)) (toNat i) 0)),a.2)) λf=>.g (aC b (length f.2.1))<|.g (((toNat b)<length f.2.1)&&((getD f.2.1 (toNat b) 0)<length f.2.2))<|.g (aC f.1 (length f.2.1))<|.g (((toNat f.1)<length f.2.1)&&((getD f.2.1 (toNat f.1) 0)<length f.2.2))<|.g (aC f.1 (length f.2.1))<|.g ((toNat f.1)<length f.2.1)<|.g (aC b (length (set f.2.1 (toNat f.1) (getD f.2.1 (toNat b) 0))))<|.g ((toNat b)<length (set f.2.1 (toNat f.1) (getD f.2.1 (toNat b) 0)))<|.l (f.1,false,(set (set f.2.1 (toNat f.1) (getD f.2.1 (toNat b) 0)) (toNat b) (getD f.2.1 (toNat f.1) 0)),f.2.2))
def aIl b e a c f:=(aHA b e a c f).ev
def welp:FP prog:=aH cx func346 [] (yj [.arr 64,.dat yi,.dat yi,.dat yi,.clo [y1,y1] yi]) [F3] [.arg 0] ((λf x=>f x.1.2.1 x.1.2.2.1 x.1.2.2.2.1 x.1.2.2.2.2.1 x.2.1) aHA) ⟨[],[.tmp 10,.tmp 11],(yj [.dat yi,.dat .bool]),[F3],[(0,0,64)],[]⟩ (λr=>((r.1,r.2.1,()),r.2.2,())) bU [(0,aNC),(2,aSX),(6,aLY),(8,aOz),(4,aRK)]
noncomputable abbrev FZ(p1 p2 p3:Int)(p4:HL [y1,y1]->Option Int)(p5:(List Nat)×Y2)(p6:(Int)->(Int)->(Int)->(sY)->gH->Option gH)(p7:Int):=(.c _ (aIl p1 p2 p3 p4 p5) λa=>.g (!decide ((8:Int)=0))<|.t ((wrap .i64 (a.1-p1))<(wrap .i64 (p2-a.1))) (.c _ (p6 p1 a.1 (wrap .i64 (p7-1)) p4 a.2.2) λe=>.l (.inl ((wrap .i64 (a.1+1)),p2,(wrap .i64 (p7-1)),((wrap .i64 (Int.tdiv (wrap .i64 (p2-p1)) 8))<=(wrap .i64 (a.1-p1))),a.2.1,e))) (.c _ (p6 (wrap .i64 (a.1+1)) p2 (wrap .i64 (p7-1)) p4 a.2.2) λb=>.l (.inl (p1,a.1,(wrap .i64 (p7-1)),((wrap .i64 (Int.tdiv (wrap .i64 (p2-p1)) 8))<=(wrap .i64 (p2-a.1))),a.2.1,b))):Tr ((Int×Yde)⊕gH))
noncomputable abbrev Lg(p1:Int)(p2:List Nat)(p3:List Y1)(p4:Int)(p5:HL [y1,y1]->Option Int)(p6:Int)(p7:(List Nat)×Y2)(p8:(Int)->(Int)->(Int)->(sY)->gH->Option gH)(p9:Int):=(.t (0<p1) (.g (aC (wrap .i64 (p1-1)) (length p2))<|.g (((toNat (wrap .i64 (p1-1)))<length p2)&&((getD p2 (toNat (wrap .i64 (p1-1))) 0)<length p3))<|.g (aC p4 (length p2))<|.g (((toNat p4)<length p2)&&((getD p2 (toNat p4) 0)<length p3))<|.c _ (p5 ((getD p3 (getD p2 (toNat (wrap .i64 (p1-1))) 0) []),(getD p3 (getD p2 (toNat p4) 0) []),())) λa=>.t (!(a<0)) (.f) (FZ p1 p6 p4 p5 p7 p8 p9)) (FZ p1 p6 p4 p5 p7 p8 p9):Tr ((Int×Yde)⊕gH))
noncomputable abbrev Yg(p1 p2 p3:Int)(p4:HL [y1,y1]->Option Int)(p5:(List Nat)×Y2)(p6:(Int)->(Int)->(Int)->(sY)->gH->Option gH)(p7:Int):=(.c _ (aIl p1 p2 p3 p4 p5) λa=>.g (!decide ((8:Int)=0))<|.t ((wrap .i64 (a.1-p1))<(wrap .i64 (p2-a.1))) (.c _ (p6 p1 a.1 p7 p4 a.2.2) λe=>.l (.inl ((wrap .i64 (a.1+1)),p2,p7,((wrap .i64 (Int.tdiv (wrap .i64 (p2-p1)) 8))<=(wrap .i64 (a.1-p1))),a.2.1,e))) (.c _ (p6 (wrap .i64 (a.1+1)) p2 p7 p4 a.2.2) λb=>.l (.inl (p1,a.1,p7,((wrap .i64 (Int.tdiv (wrap .i64 (p2-p1)) 8))<=(wrap .i64 (p2-a.1))),a.2.1,b))):Tr ((Int×Yde)⊕gH))
noncomputable abbrev Hj(p1:Int)(p2:List Nat)(p3:List Y1)(p4:Int)(p5:HL [y1,y1]->Option Int)(p6:Int)(p7:(List Nat)×Y2)(p8:(Int)->(Int)->(Int)->(sY)->gH->Option gH)(p9:Int):=(.t (0<p1) (.g (aC (wrap .i64 (p1-1)) (length p2))<|.g (((toNat (wrap .i64 (p1-1)))<length p2)&&((getD p2 (toNat (wrap .i64 (p1-1))) 0)<length p3))<|.g (aC p4 (length p2))<|.g (((toNat p4)<length p2)&&((getD p2 (toNat p4) 0)<length p3))<|.c _ (p5 ((getD p3 (getD p2 (toNat (wrap .i64 (p1-1))) 0) []),(getD p3 (getD p2 (toNat p4) 0) []),())) λa=>.t (!(a<0)) (.f) (Yg p1 p6 p4 p5 p7 p8 p9)) (Yg p1 p6 p4 p5 p7 p8 p9):Tr ((Int×Yde)⊕gH))
def aJJ(b:(Int)->(Int)->(Int)->(sY)->gH->Option gH)(k:sY)(v:Int×Yde):Tr ((Int×Yde)⊕gH):=.t ((wrap .i64 (v.2.1-v.1))<=(12:Int)) (.c _ (aQa v.1 v.2.1 k v.2.2.2.2.2) λh=>.l (.inr h)) (.t (v.2.2.1==0) (.f) (.t (!v.2.2.2.1) (.c _ (aOc v.1 v.2.1 k v.2.2.2.2.2) λa=>.c _ (aIV (bH a.1 a.2) v.1 v.2.1 k) λg=>.t (g.2==2) (.f) (.t v.2.2.2.1 (.t v.2.2.2.2.1 (.t (g.2==1) (.f) (Lg v.1 a.1 a.2 g.1 k v.2.1 a b v.2.2.1)) (Lg v.1 a.1 a.2 g.1 k v.2.1 a b v.2.2.1)) (Lg v.1 a.1 a.2 g.1 k v.2.1 a b v.2.2.1))) (.c _ (aIV (bH v.2.2.2.2.2.1 v.2.2.2.2.2.2) v.1 v.2.1 k) λe=>.t (e.2==2) (.f) (.t v.2.2.2.1 (.t v.2.2.2.2.1 (.t (e.2==1) (.f) (Hj v.1 v.2.2.2.2.2.1 v.2.2.2.2.2.2 e.1 k v.2.1 v.2.2.2.2.2 b v.2.2.1)) (Hj v.1 v.2.2.2.2.2.1 v.2.2.2.2.2.2 e.1 k v.2.1 v.2.2.2.2.2 b v.2.2.1)) (Hj v.1 v.2.2.2.2.2.1 v.2.2.2.2.2.2 e.1 k v.2.1 v.2.2.2.2.2 b v.2.2.1)))))
def aNJ(a:(Int)->(Int)->(Int)->(sY)->gH->Option gH) k v:=aB (λv=>(aJJ a k v).ev) v
def aJI(a:(Int)->(Int)->(Int)->(sY)->gH->Option gH):LD:=yl (aJJ a) (yk [] [0,1,2,3,4,10,11] (yj [.arr 64,.dat yi,.dat yi,.dat yi,.clo [y1,y1] yi,.dat .bool,.dat .bool]) [F3]) [] H9 (λk v=>(((),v.1,v.2.1,v.2.2.1,k,v.2.2.2.1,v.2.2.2.2.1,()),v.2.2.2.2.2,())) b8 (λt=>(t.1.2.1,t.1.2.2.1,t.1.2.2.2.1,t.1.2.2.2.2.2.1,t.1.2.2.2.2.2.2.1,t.2.1)) (λ_ r=>yz H9 (((),()),r,()))
def aLP(h:(Int)->(Int)->(Int)->(sY)->gH->Option gH)(b g e:Int)(f:sY)(i:(List Nat)×Y2):Tr gH:=.c _ (aNJ h f (b,g,e,true,true,i)) λa=>.l a
noncomputable def Ir:Nat->(Int)->(Int)->(Int)->(sY)->gH->Option gH |0=>λ_ _ _ _ _=>none |n+1=>λb e a c f=>(aLP (Ir n) b e a c f).ev
def aQk:RetK:= {acts:=[],res:=[],sh:=.nil,obs:=[F3],pins:=[(0,0,64)]}
def aLC(a:(Int)->(Int)->(Int)->(sY)->gH->Option gH):FD:={A:=(yj [.arr 64,.dat yi,.dat yi,.dat yi,.clo [y1,y1] yi]),ins:=[F3],lend:=[.arg 0],R:=(List Nat)×Y2,F:=λx=>a x.1.2.1 x.1.2.2.1 x.1.2.2.2.1 x.1.2.2.2.2.1 x.2.1,emb:=λr=>([],[(64,.perm false 24 3 yi r.1 r.2)])}
def aIn(n:Nat):FD:=aLC (Ir n)
def aAL(a:(Int)->(Int)->(Int)->(sY)->gH->Option gH):Env:=pP [wela.1,wele.1,welm.1,welp.1,(321,aLC a)]
def aEh(a:(Int)->(Int)->(Int)->(sY)->gH->Option gH):List (Nat×LD):=[(0,aJI a)]
def aAD:Code:=(f321.body).getD .skip
theorem aMH(a:(Int)->(Int)->(Int)->(sY)->gH->Option gH):(aJI a).OK (aAL a) tt bU (fQ (aEh a)) (oZ aAD 0):=Ve (λ_=>rfl) λ_ _=>by kernel_rfl
theorem aNG(a:(Int)->(Int)->(Int)->(sY)->gH->Option gH):eY (aAL a) tt bU (aEh a) aAD:=AS (by kernel_rfl) (lpC (aMH a) lpN)
theorem aLf:∀n:Nat,eF prog (321,aIn n) |0=>λ_ _ h=>nomatch h |n+1=>BW mixed (xC (Vx wela.2 (Vx wele.2 (Vx welm.2 (Vx welp.2 (Vx (aLf n) fdN)))))) Dr (aIL (aIn (n+1)) (aAL (Ir n)) aQk bU (aEh (Ir n)) aAD (λx=>aLP (Ir n) x.1.2.1 x.1.2.2.1 x.1.2.2.2.1 x.1.2.2.2.2.1 x.2.1) (λr=>((),r,())) func321 (aNG (Ir n)) λ_=>by kernel_rfl)
def aOm:FP prog:=⟨_,aLf 1000000⟩
def aJi(e:sY)(a:(List Nat)×Y2):Tr gH:=.c _ (PL (wrap .u64 (length a.1:Int))) λf=>.c _ (Ir 1000000 0 (length a.1:Int) f e a) λb=>.l b
def aNY a b:=(aJi a b).ev
abbrev Mi{a b c d e:Type}{z:Type _}(f:b->d->z)(x:(a×b×c)×d×e):z:=f x.1.2.1 x.2.1
def aIX:FP prog:=aH cx func286 [aCm,aOm] (yj [.arr 64,.clo [y1,y1] yi]) [F3] [.arg 0] (Mi aJi) Yj tS
def IJ(a:Int):Tr Bool:=.l (a !=a)
def T9 a:=(IJ a).ev
def aLR:FP prog:=aH cx func253 [] fK [] [] (oM IJ) Dt bN
def KN(b a:Int):Tr Int:=.c _ (T9 b) λf=>.c _ (T9 a) λe=>.t f (.t e (.l 0) (.l (-1))) (.t e (.l 1) (.t (b<a) (.l (-1)) (.t (a<b) (.l 1) (.l 0))))
def Ih b a:=(KN b a).ev
def aAG:FP prog:=aH cx func183 [aLR] (yj [.dat yi,.dat yi]) [] [] (dG KN) lJ bN
def Oq(k:Y1×Y1×Y1×Int)(v:Int):Tr (Int⊕(Unit⊕Int)):=.t (v<k.2.2.2) (.g (aC v (length k.2.2.1))<|.t ((length k.2.1:Int)<=v) (.l (.inr (.inr 1))) (.g (aC v (length k.2.1))<|.c _ (Ih (getD k.2.2.1 (toNat v) 0) (getD k.2.1 (toNat v) 0)) λa=>.t (a != (0:Int)) (.l (.inr (.inr a))) (.l (.inl (wrap .i64 (v+1)))))) (.l (.inr (.inl ())))
def aHT k v:=aB (λv=>(Oq k v).ev) v
abbrev TF:Keep:=yh [0,1] (yj [.dat y1,.dat y1])
def aMt:LD:=yl (Oq) (yh [0,1,9,10,11] (yj [.dat y1,.dat y1,.dat y1,.dat yi,.dat yi])) [(0,TF)] rV SX SM b8 (λk r=>.s _ _ r (λ_=>yx 0 TF ((k.1,k.2.1,()),())) (λb=>yz rV ((b,()),())))
def aBb(a b:Y1):Tr Int:=.c _ (aHT (a,b,a,(length a:Int)) 0) λf=>.s _ _ f (λ_=>.t ((length a:Int)<(length b:Int)) (.l (-1)) (.l 0)) (λe=>.l e)
def PM b a:=(aBb b a).ev
def aJX:FP prog:=aH cx func240 [aAG] (yj [.dat y1,.dat y1]) [] [] (dG aBb) lJ bN bU [(0,aMt)]
def aKy(k:Int×Y1×Int)(v:Int):Tr (Int⊕(Unit⊕Int)):=.t (v<k.2.2) (.g (aC v (length k.2.1))<|.t ((getD k.2.1 (toNat v) 0) !=k.1) (.l (.inr (.inr (getD k.2.1 (toNat v) 0)))) (.l (.inl (wrap .i64 (v+1))))) (.l (.inr (.inl ())))
def aMV k v:=aB (λv=>(aKy k v).ev) v
abbrev SI:Keep:=yh [2] fK
def aRh:LD:=yl (aKy) TC [(0,jM)] SI xY xR rQ (λk r=>.s _ _ r (λ_=>yx 0 jM ((k.1,()),())) (λb=>yz SI ((b,()),())))
def aLr(a:Y1):Tr Int:=.c _ (aMV (0,a,(length a:Int)) 0) λb=>.s _ _ b (λ_=>.l 0) (λe=>.l e)
def aQl a:=(aLr a).ev
def aNL:FP prog:=aH cx func322 [] Di [] [] (oM aLr) oB bN bU [(0,aRh)]
def aJo(b a:Y1):Tr Int:=.c _ (Ih (length b:Int) (length a:Int)) λg=>.c _ (PM b a) λe=>.c _ (aQl ([g,e]:Y1)) λf=>.l f
def aTC b a:=(aJo b a).ev
def aRF:FP prog:=aH cx func287 [aAG,aJX,aNL] (yj [.dat y1,.dat y1]) [] [] (dG aJo) lJ bN
def aIA(k:Int)(v:Int×Y2):Tr (E4⊕Y2):=.g (0<=k)<|.t (v.1<(wrap .u64 ((1:Int)*2^(min (toNat k) bI)))) (.c _ (zW v.1) λa=>.g ((length v.2+1)*24<=140737488355328)<|.l (.inl ((wrap .u64 (v.1+1)),(set (v.2++ [[]]) (length v.2) a)))) (.l (.inr v.2))
def aTW k v:=aB (λv=>(aIA k v).ev) v
abbrev WO:Keep:=yk [] [3] (yj [.arr 5]) [(5,.rows 24 3 yi)]
def aQI:LD:=yl (aIA) (yk [] [0,3,4] (yj [.dat yi,.arr 5,.dat (.int .u64)]) [(5,.rows 24 3 yi)]) [(0,WO)] aE Eu oG Ch (λ_ r=>yx 0 WO (((),()),r,()))
def aGQ(g:Int):Tr gH:=.c _ (aTW g (1,[])) λb=>.c _ (aNY (λa=>Option.bind (aTC a.1 a.2.1) λf=>some f) ((List.range (length b)),b)) λe=>.l e
def Rq a:=(aGQ a).ev
def aFn:FP prog:=aH cx func233 [wdfl,aIX,aIX,aRF] fK [] [] (oM aGQ) ⟨[.ren 5 0],[.tmp 2],C7,[(0,.perm 24 3 yi)],[],[]⟩ kQ (E6 [(1,[(0,[1000000])]),(6,[(1,[80000017])])]) [(0,aQI)]
def Tw(k:((HL [y1]->Option Int))×Int×gH)(v:(Nat)×Int):Tr ((Nat×Int)⊕Nat):=.t (v.2<k.2.1) (.g (aC v.2 (length k.2.2.1))<|.g (((toNat v.2)<length k.2.2.1)&&((getD k.2.2.1 (toNat v.2) 0)<length k.2.2.2))<|.c _ (k.1 ((getD k.2.2.2 (getD k.2.2.1 (toNat v.2) 0) []),())) λb=>.c _ (k.1 ((getD k.2.2.2 v.1 []),())) λa=>.t (b<a) (.l (.inl ((getD k.2.2.1 (toNat v.2) 0),(wrap .i64 (v.2+1))))) (.l (.inl (v.1,(wrap .i64 (v.2+1)))))) (.l (.inr v.1))
def aIM k v:=aB (λv=>(Tw k v).ev) v
abbrev TM:Keep:=yk [] [0,5] (yj [.arr 64,.row 64]) [F3]
def aNR:LD:=yl (Tw) (yk [] [0,1,5,11,12,13] (yj [.arr 64,.clo [y1] yi,.row 64,.arr 64,.dat yi,.dat yi]) [F3]) [(0,TM)] aE (λk v=>(((),k.1,v.1,(),k.2.1,v.2,()),k.2.2,())) (λt=>(t.1.2.1,t.1.2.2.2.2.1,t.2.1)) DW (λk r=>yx 0 TM (((),r,()),k.2.2,()))
def ZJ(b:(HL [y1]->Option Int))(a:(List Nat)×Y2):Tr Y1:=.g (aC 0 (length a.1))<|.g (((toNat 0)<length a.1)&&((getD a.1 (toNat 0) 0)<length a.2))<|.c _ (aIM (b,(length a.1:Int),a) ((getD a.1 (toNat 0) 0),0)) λe=>.l (getD a.2 e [])
def HR a b:=(ZJ a b).ev
def Se:FP prog:=aH cx func166 [] (yj [.arr 64,.clo [y1] yi]) [F3] [.arg 0] (Mi ZJ) ⟨[.pull 4 800000,.ren 800000 0],[.tmp 4],C7,[tP],[],[64]⟩ kQ bU [(0,aNR)]
def ZS(a:Y1)(b:List Y1):Tr D9:=.c _ (uR a b) λh=>.t (!h) (.l (false,[])) (.c _ (Rq (length a:Int)) λe=>.c _ (HR (λf=>Option.bind (a6 a b f.1) λi=>some i) e) λg=>.l (true,g))
def aCg b a:=(ZS b a).ev
def aTP:FP prog:=aH cx func162 [H6,aFn,Se,Se,wdkc] (yj [.agg Zv]) [] [] (jZ ZS) ⟨[.own 2 0 3 yi,.ren 832 0],[.tmp 2,.tmp 3],Dq,[tP],[],[]⟩ gN
def CE(k:Bool×Y1×Int×Int×Int×Y1×Ll)(v:Int×Y2):Tr (E4⊕Y2):=.t (v.1<k.2.2.1) (.g (aC v.1 (length k.2.1))<|.g (aC v.1 (length v.2))<|.g ((toNat v.1)<length v.2)<|.g ((length (getD v.2 (toNat v.1) [])+length ([(getD k.2.1 (toNat v.1) 0)]:Y1))*8<=140737488355328)<|.g (aC v.1 (length v.2))<|.g (((toNat v.1)<length v.2)&&((toNat v.1)=(toNat v.1)))<|.l (.inl ((wrap .i64 (v.1+1)),(set v.2 (toNat v.1) ((getD v.2 (toNat v.1) [])++([(getD k.2.1 (toNat v.1) 0)]:Y1)))))) (.l (.inr v.2))
def aDL k v:=aB (λv=>(CE k v).ev) v
abbrev UH:Keep:=yk [] [4,6,9] (yj [.box 4 0,.box 6 0,.dat .bool]) [Zdk,(6,.cells (yj [.arr 1859,.arr 1860,.arr 1861,.dat yi])),(901340,.arr 3 yi),(901342,.arr 3 yi),(1859,.arr 3 yi),(1860,.rows 24 3 yi),(1861,.arr 3 yi)]
def aQO:LD:=yl CE (yk [.ownB 4 0 901340 3 yi,.ownB 4 2 901342 3 yi] [4,6,9,165,166,167] (yj [.box 4 0,.box 6 0,.dat .bool,.dat y1,.dat yi,.dat yi]) [Zdk,(6,.cells (yj [.arr 1859,.arr 1860,.arr 1861,.dat yi])),(901340,.arr 3 yi),(901342,.arr 3 yi),(1859,.arr 3 yi),(1860,.rows 24 3 yi),(1861,.arr 3 yi)]) [(1,UH)] aE (λk v=>(((),(),k.1,k.2.1,k.2.2.1,v.1,()),((),(),(),k.2.2.2.1,()),((),(),(),k.2.2.2.2.1,()),k.2.2.2.2.2.1,k.2.2.2.2.2.2.1,k.2.2.2.2.2.2.2.1,v.2,k.2.2.2.2.2.2.2.2,())) (λt=>(t.1.2.2.1,t.1.2.2.2.1,t.1.2.2.2.2.1,t.2.1.2.2.2.1,t.2.2.1.2.2.2.1,t.2.2.2.1,t.2.2.2.2.1,t.2.2.2.2.2.1,t.2.2.2.2.2.2.2.1)) (λt=>(t.1.2.2.2.2.2.1,t.2.2.2.2.2.2.1)) (λk r=>yx 1 UH (((),(),k.1,()),((),(),(),k.2.2.2.1,()),((),(),(),k.2.2.2.2.1,()),k.2.2.2.2.2.1,k.2.2.2.2.2.2.1,k.2.2.2.2.2.2.2.1,r,k.2.2.2.2.2.2.2.2,()))
def GP(k:Int×Bool×Int×Int×Int×Y1×Y1)(v:Int×Y2):Tr (E4⊕Y2):=.t (v.1<k.2.2.1) (.g (aC v.1 (length v.2))<|.g ((toNat v.1)<length v.2)<|.c _ (NS k.1 (wrap .i64 (k.1+1)) (getD v.2 (toNat v.1) [])) λa=>.g (aC v.1 (length v.2))<|.g (((toNat v.1)<length v.2)&&((toNat v.1)=(toNat v.1)))<|.l (.inl ((wrap .i64 (v.1+1)),(set v.2 (toNat v.1) a)))) (.l (.inr v.2))
def aHS k v:=aB (λv=>(GP k v).ev) v
abbrev VG:Keep:=yk [] [4,6,7,9] (yj [.box 4 0,.box 6 0,.dat yi,.dat .bool]) [IZ,Zdl,(13888,.arr 3 yi),(1860,.rows 24 3 yi),(1861,.arr 3 yi)]
abbrev RQ{a b c d e g h i j:Type}(k:a×b×c×d×e×g×h)(v:i×j):=(((),(),k.1,k.2.1,(),k.2.2.1,v.1,()),((),(),(),k.2.2.2.1,()),((),(),(),k.2.2.2.2.1,()),v.2,k.2.2.2.2.2.1,k.2.2.2.2.2.2,())
abbrev SN{a b c d e g h i j l m n o p q s t u w a19 a20:Type}(t:(a×b×c×d×e×g×h)×(i×j×l×m×n)×(o×p×q×s×t)×u×w×a19×a20):=(t.1.2.2.1,t.1.2.2.2.1,t.1.2.2.2.2.2.1,t.2.1.2.2.2.1,t.2.2.1.2.2.2.1,t.2.2.2.2.1,t.2.2.2.2.2.1)
abbrev AH{a b c d e g h i j l m n:Type}(t:(a×b×c×d×e×g×h×i)×j×l×m×n):=(t.1.2.2.2.2.2.2.1,t.2.2.2.1)
def aOq:LD:=yl (GP) (yk [] [4,6,7,9,222,223,224] (yj [.box 4 0,.box 6 0,.dat yi,.dat .bool,.arr 1860,.dat yi,.dat yi]) [IZ,Zdl,(1860,.rows 24 3 yi),(13888,.arr 3 yi),(1861,.arr 3 yi)]) [(3,VG)] aE RQ SN AH (λk r=>yx 3 VG (((),(),k.1,k.2.1,()),((),(),(),k.2.2.2.1,()),((),(),(),k.2.2.2.2.1,()),k.2.2.2.2.2.1,r,k.2.2.2.2.2.2,()))
def Pb(k:Int×Bool×Int×Int×E3)(v:Int×Y1):Tr (gR⊕Y1):=.t (v.1<k.2.2.1) (.g (aC v.1 (length v.2))<|.g ((toNat v.1)<length v.2)<|.t (k.1<(getD v.2 (toNat v.1) 0)) (.g (aC v.1 (length v.2))<|.g ((toNat v.1)<length v.2)<|.g (aC v.1 (length v.2))<|.g ((toNat v.1)<length v.2)<|.l (.inl ((wrap .i64 (v.1+1)),(set v.2 (toNat v.1) (wrap .i64 ((getD v.2 (toNat v.1) 0) -1)))))) (.l (.inl ((wrap .i64 (v.1+1)),v.2)))) (.l (.inr v.2))
def aLc k v:=aB (λv=>(Pb k v).ev) v
abbrev UB:Keep:=yk [] [4,6,9] (yj [.box 4 0,.box 6 0,.dat .bool]) [IZ,Zdl,(13888,.arr 3 yi),(1860,.rows 24 3 yi),(1861,.arr 3 yi)]
def aPt:LD:=yl (Pb) (yk [] [4,6,7,9,241,242,243] (yj [.box 4 0,.box 6 0,.dat yi,.dat .bool,.arr 1861,.dat yi,.dat yi]) [IZ,Zdl,(1861,.arr 3 yi),(13888,.arr 3 yi),(1860,.rows 24 3 yi)]) [(5,UB)] aE RQ SN AH (λk r=>yx 5 UB (((),(),k.2.1,()),((),(),(),k.2.2.2.1,()),((),(),(),k.2.2.2.2.1,()),k.2.2.2.2.2.1,k.2.2.2.2.2.2,r,()))
def aDy(j:Y1)(e:List Y1)(h:Y1)(m f b i aa:Int)(n:Y1):Tr (Int×Bool×Oc):=.c _ (iK j e h m) λbn=>.t (!bn) (.l (0,false,[],[],[])) (.c _ (aAA f b i aa n) λal=>.t (!al) (.l (0,false,[],[],[])) (.c _ (Hh j e h m) λa=>.c _ (Ya h) λo=>.c _ (B9 b 0 (wrap .i64 ((length e:Int) -1))) λq=>.t (f==1) (.c _ (Y5 b j e h m) λay=>.t ay (.c _ (zY o b) λs=>.t (!s) (.g (0<=b)<|.c _ (zW (wrap .u64 (BitVec.toNat ((BitVec.ofInt bI o)||| (BitVec.ofInt bI (wrap .u64 ((1:Int)*2^(min (toNat b) bI)))))))) λak=>.t (!(!s)) (.l (0,false,[],[],[])) (.c _ (iK a.2.1 a.2.2.1 ak (wrap .i64 (a.1+1))) λbf=>.t (!bf) (.l (0,false,[],[],[])) (.l ((wrap .i64 (a.1+1)),true,a.2.1,a.2.2.1,ak)))) (.t (!(!s)) (.l (0,false,[],[],[])) (.c _ (iK a.2.1 a.2.2.1 a.2.2.2 (wrap .i64 (a.1+1))) λbi=>.t (!bi) (.l (0,false,[],[],[])) (.l ((wrap .i64 (a.1+1)),true,a.2.1,a.2.2.1,a.2.2.2))))) (.l (0,false,[],[],[]))) (.t (f==2) (.c _ (Y5 b j e h m) λba=>.t ba (.c _ (zY o b) λu=>.t u (.g (0<=b)<|.c _ (zW (wrap .u64 (BitVec.toNat ((BitVec.ofInt bI o)&&& ~~~(BitVec.ofInt bI (wrap .u64 ((1:Int)*2^(min (toNat b) bI)))))))) λai=>.t (!u) (.l (0,false,[],[],[])) (.c _ (iK a.2.1 a.2.2.1 ai (wrap .i64 (a.1+1))) λax=>.t (!ax) (.l (0,false,[],[],[])) (.l ((wrap .i64 (a.1+1)),true,a.2.1,a.2.2.1,ai)))) (.t (!u) (.l (0,false,[],[],[])) (.c _ (iK a.2.1 a.2.2.1 a.2.2.2 (wrap .i64 (a.1+1))) λbh=>.t (!bh) (.l (0,false,[],[],[])) (.l ((wrap .i64 (a.1+1)),true,a.2.1,a.2.2.1,a.2.2.2))))) (.l (0,false,[],[],[]))) (.t (f==3) (.c _ (Y5 b j e h m) λap=>.t ap (.c _ (Y5 i j e h m) λao=>.t ao (.c _ (zY o b) λav=>.t av (.c _ (zY o i) λad=>.t (!ad) (.c _ (PD h b i) λaf=>.t (!(!ad)) (.l (0,false,[],[],[])) (.c _ (iK a.2.1 a.2.2.1 af (wrap .i64 (a.1+1))) λan=>.t (!an) (.l (0,false,[],[],[])) (.l ((wrap .i64 (a.1+1)),true,a.2.1,a.2.2.1,af)))) (.t (!(!ad)) (.l (0,false,[],[],[])) (.c _ (iK a.2.1 a.2.2.1 a.2.2.2 (wrap .i64 (a.1+1))) λbg=>.t (!bg) (.l (0,false,[],[],[])) (.l ((wrap .i64 (a.1+1)),true,a.2.1,a.2.2.1,a.2.2.2))))) (.l (0,false,[],[],[]))) (.l (0,false,[],[],[]))) (.l (0,false,[],[],[]))) (.t (f==4) (.c _ (Y5 b j e h m) λac=>.t ac (.g (aC b (length a.2.1))<|.g ((toNat b)<length a.2.1)<|.t (!ac) (.l (0,false,[],[],[])) (.c _ (iK (set a.2.1 (toNat b) i) a.2.2.1 a.2.2.2 (wrap .i64 (a.1+1))) λar=>.t (!ar) (.l (0,false,[],[],[])) (.l ((wrap .i64 (a.1+1)),true,(set a.2.1 (toNat b) i),a.2.2.1,a.2.2.2)))) (.t (!ac) (.l (0,false,[],[],[])) (.c _ (iK a.2.1 a.2.2.1 a.2.2.2 (wrap .i64 (a.1+1))) λbb=>.t (!bb) (.l (0,false,[],[],[])) (.l ((wrap .i64 (a.1+1)),true,a.2.1,a.2.2.1,a.2.2.2))))) (.t (f==5) (.t q (.c _ (Y5 i j e h m) λw=>.t w (.g (aC b (length a.2.2.1))<|.g ((toNat b)<length a.2.2.1)<|.g (aC i (length (getD a.2.2.1 (toNat b) [])))<|.g ((toNat i)<length (getD a.2.2.1 (toNat b) []))<|.t (!w) (.l (0,false,[],[],[])) (.c _ (iK a.2.1 (set a.2.2.1 (toNat b) (set (getD a.2.2.1 (toNat b) []) (toNat i) aa)) a.2.2.2 (wrap .i64 (a.1+1))) λbl=>.t (!bl) (.l (0,false,[],[],[])) (.l ((wrap .i64 (a.1+1)),true,a.2.1,(set a.2.2.1 (toNat b) (set (getD a.2.2.1 (toNat b) []) (toNat i) aa)),a.2.2.2)))) (.t (!w) (.l (0,false,[],[],[])) (.c _ (iK a.2.1 a.2.2.1 a.2.2.2 (wrap .i64 (a.1+1))) λaw=>.t (!aw) (.l (0,false,[],[],[])) (.l ((wrap .i64 (a.1+1)),true,a.2.1,a.2.2.1,a.2.2.2))))) (.l (0,false,[],[],[]))) (.t (f==6) (.t ((length n:Int)==(length e:Int)) (.g ((length a.2.1+length ([b]:Y1))*8<=140737488355328)<|.c _ (aDL (((length n:Int)==(length e:Int)),n,(length n:Int),0,(wrap .i64 (a.1+1)),[],[],(a.2.1++([b]:Y1)),a.2.2.2) (0,a.2.2.1)) λah=>.t (!((length n:Int)==(length e:Int))) (.l (0,false,[],[],[])) (.c _ (iK (a.2.1++([b]:Y1)) ah a.2.2.2 (wrap .i64 (a.1+1))) λbm=>.t (!bm) (.l (0,false,[],[],[])) (.l ((wrap .i64 (a.1+1)),true,(a.2.1++([b]:Y1)),ah,a.2.2.2)))) (.t (!((length n:Int)==(length e:Int))) (.l (0,false,[],[],[])) (.c _ (iK a.2.1 a.2.2.1 a.2.2.2 (wrap .i64 (a.1+1))) λbd=>.t (!bd) (.l (0,false,[],[],[])) (.l ((wrap .i64 (a.1+1)),true,a.2.1,a.2.2.1,a.2.2.2))))) (.t (f==7) (.c _ (D5 n) λae=>.g ((length a.2.2.1+1)*24<=140737488355328)<|.c _ (iK a.2.1 (set (a.2.2.1++ [[]]) (length a.2.2.1) ae) a.2.2.2 (wrap .i64 (a.1+1))) λbc=>.t (!bc) (.l (0,false,[],[],[])) (.l ((wrap .i64 (a.1+1)),true,a.2.1,(set (a.2.2.1++ [[]]) (length a.2.2.1) ae),a.2.2.2))) (.t (f==8) (.c _ (Y5 b j e h m) λam=>.t am (.c _ (zY o b) λp=>.t (!p) (.c _ (NS b (wrap .i64 (b+1)) a.2.1) λr=>.c _ (aHS (b,(!p),(length a.2.2.1:Int),0,(wrap .i64 (a.1+1)),r,a.2.2.2) (0,a.2.2.1)) λz=>.c _ (aLc (b,(!p),(length a.2.2.2:Int),0,(wrap .i64 (a.1+1)),r,z) (0,a.2.2.2)) λaj=>.t (!(!p)) (.l (0,false,[],[],[])) (.c _ (iK r z aj (wrap .i64 (a.1+1))) λaq=>.t (!aq) (.l (0,false,[],[],[])) (.l ((wrap .i64 (a.1+1)),true,r,z,aj)))) (.t (!(!p)) (.l (0,false,[],[],[])) (.c _ (iK a.2.1 a.2.2.1 a.2.2.2 (wrap .i64 (a.1+1))) λbj=>.t (!bj) (.l (0,false,[],[],[])) (.l ((wrap .i64 (a.1+1)),true,a.2.1,a.2.2.1,a.2.2.2))))) (.l (0,false,[],[],[]))) (.t (f==9) (.t q (.c _ (aLN b (wrap .i64 (b+1)) a.2.2.1) λag=>.t (!q) (.l (0,false,[],[],[])) (.c _ (iK a.2.1 ag a.2.2.2 (wrap .i64 (a.1+1))) λbe=>.t (!be) (.l (0,false,[],[],[])) (.l ((wrap .i64 (a.1+1)),true,a.2.1,ag,a.2.2.2)))) (.t (!q) (.l (0,false,[],[],[])) (.c _ (iK a.2.1 a.2.2.1 a.2.2.2 (wrap .i64 (a.1+1))) λbk=>.t (!bk) (.l (0,false,[],[],[])) (.l ((wrap .i64 (a.1+1)),true,a.2.1,a.2.2.1,a.2.2.2))))) (.t (f==10) (.c _ (WU j e h) λab=>.t (!ab.2.1) (.l (0,false,[],[],[])) (.c _ (iK a.2.1 a.2.2.1 ab.2.2 (wrap .i64 (a.1+1))) λaz=>.t (!az) (.l (0,false,[],[],[])) (.l ((wrap .i64 (a.1+1)),true,a.2.1,a.2.2.1,ab.2.2)))) (.t (f==11) (.c _ (aCg j e) λy=>.t (!y.1) (.l (0,false,[],[],[])) (.c _ (iK a.2.1 a.2.2.1 y.2 (wrap .i64 (a.1+1))) λau=>.t (!au) (.l (0,false,[],[],[])) (.l ((wrap .i64 (a.1+1)),true,a.2.1,a.2.2.1,y.2)))) (.l (0,false,[],[],[]))))))))))))))
def aDU j e i b f h a g c:=(aDy j e i b f h a g c).ev
def aNq:FP prog:=aH cx func103 [MI,aMs,aAz,wdsb,Ca,aOj,wdsc,wdfl,wedz,JL,aOr,aRb,aPv,aTP] (yj [.agg oL,.agg UK]) [] [] (Fk aDy) ⟨[.ownB 4 0 5 3 yi,.ownRB 4 1 7 24 3 yi,.ownB 4 2 8 3 yi,.ren 1859 5,.ren 13888 5,.pinB 4 1 7,.pinB 4 2 8],[.cell 4 29,.tmp 5],(yj [.agg (yj [.arr 5,.arr 7,.arr 8,.dat yi]),.dat .bool]),[(5,.arr 3 yi),(7,.rows 24 3 yi),(8,.arr 3 yi)],[],[]⟩ WL (E6 [(48,[(0,[2000016]),(10,[5500016])])]) [(1,aQO),(3,aOq),(5,aPt)]
def Rb(b:List (List UInt8))(a:List UInt8):Option (List UInt8):=M7 b a
def aTS:FD:=fdJoin
theorem aTq:eF prog (176,aTS):=Oo
def aJe:FP prog:=⟨_,aTq⟩
def Xl(k:Y1×Int)(v:Int×(List (List UInt8))):Tr ((Int×(List (List UInt8)))⊕(List (List UInt8))):=.t (v.1<k.2) (.g (aC v.1 (length k.1))<|.c _ (pI (getD k.1 (toNat v.1) 0)) λa=>.g ((length v.2+length ([a]:List (List UInt8)))*16<=140737488355328)<|.l (.inl ((wrap .i64 (v.1+1)),(v.2++([a]:List (List UInt8)))))) (.l (.inr v.2))
def aIG k v:=aB (λv=>(Xl k v).ev) v
abbrev RP:Keep:=yk [] [3] (yj [.arr 6]) [(6,.arr 9 .str)]
def aSk:LD:=yl (Xl) (yk [] [3,7,8,9] (yj [.arr 6,.dat y1,.dat yi,.dat yi]) [(6,.arr 9 .str)]) [(0,RP)] aE Nn iV u7 (λ_ r=>yx 0 RP (((),()),r,()))
def aBH(a:Y1):Tr (List UInt8):=.c _ (aIG (a,(length a:Int)) (0,[])) λb=>.c _ (Rb b ([32]:List UInt8)) λe=>.l e
def AI a:=(aBH a).ev
def aGS:FP prog:=aH cx func163 [IM,aJe] Di [] [] (oM aBH) O4 bN bU [(0,aSk)]
def YP(a:Y1):Tr (List UInt8):=.t ((length a:Int)==(0:Int)) (.l ([110,111,110,101]:List UInt8)) (.c _ (AI a) λb=>.l b)
def BM a:=(YP a).ev
def aKe:FP prog:=aH cx func104 [aGS] Di [] [] (oM YP) O4 bN
def zS:OB:=λn i m j b h e=>.g ((0<=e.1)&&(e.1<=(length h:Int)))<|.c _ (aDU n i m j b e.2.1 e.2.2.1 e.2.2.2 (List.drop (toNat e.1) (List.take (length h) h))) λa=>.t (!a.2.1) (.l (n,i,m,j,[],false)) (.c _ (BM a.2.2.2.2) λf=>.t (b==4) (.c _ (pI e.2.2.1) λs=>.l (a.2.2.1,a.2.2.2.1,a.2.2.2.2,a.1,s,true)) (.t (b==5) (.c _ (pI e.2.2.2) λu=>.l (a.2.2.1,a.2.2.2.1,a.2.2.2.2,a.1,u,true)) (.t (b==6) (.t (b==6) (.c _ (pI (length a.2.2.1:Int)) λr=>.l (a.2.2.1,a.2.2.2.1,a.2.2.2.2,a.1,r,true)) (.t (b==7) (.t (b==7) (.c _ (pI (length a.2.2.2.1:Int)) λo=>.l (a.2.2.1,a.2.2.2.1,a.2.2.2.2,a.1,o,true)) (.l (a.2.2.1,a.2.2.2.1,a.2.2.2.2,a.1,f,true))) (.t (b==9) (.c _ (pI (length a.2.2.2.1:Int)) λp=>.l (a.2.2.1,a.2.2.2.1,a.2.2.2.2,a.1,p,true)) (.l (a.2.2.1,a.2.2.2.1,a.2.2.2.2,a.1,f,true))))) (.t (b==8) (.c _ (pI (length a.2.2.1:Int)) λq=>.l (a.2.2.1,a.2.2.2.1,a.2.2.2.2,a.1,q,true)) (.t (b==7) (.t (b==7) (.c _ (pI (length a.2.2.2.1:Int)) λw=>.l (a.2.2.1,a.2.2.2.1,a.2.2.2.2,a.1,w,true)) (.l (a.2.2.1,a.2.2.2.1,a.2.2.2.2,a.1,f,true))) (.t (b==9) (.c _ (pI (length a.2.2.2.1:Int)) λy=>.l (a.2.2.1,a.2.2.2.1,a.2.2.2.2,a.1,y,true)) (.l (a.2.2.1,a.2.2.2.1,a.2.2.2.2,a.1,f,true))))))))
def Fq(g:List Int)(b:List (List Int))(f:List Int)(a c:Int)(e:List Int):Option EdR:=L0 jK zS g b f a c e
abbrev aKa{a b c d e g:Type}(r:a×b×c×d×e×g):=(((r.1,r.2.1,r.2.2.1,r.2.2.2.1,()),r.2.2.2.2.1,r.2.2.2.2.2,()),())
theorem Ee(k:Int)(r:Int×Bool×Bool)(h:jK k=some r):r.1=0\/r.1=1\/r.1=2\/r.1=3:=by refine wC (p:=λr=>r.1=0\/r.1=1\/r.1=2\/r.1=3) ?_ h;unfold MD;simp[Kw]
def aMB:FP prog:=⟨_,Un cx [aNq,aKe,IM] (show eF prog (102,V4 jK)from wekk.2) Ee (T:=zS) (acts:=[.fz 4293,.fz 4295,.fz 4296]) (λ_ _ _ _ _ _ _ _ _ _=>by kernel_rfl) (λ_ _ _ _ _ _ _=>by kernel_rfl) (by kernel_rfl) (by kernel_rfl) (by kernel_rfl) (by kernel_rfl) (by kernel_rfl)⟩
def KT(a:Y1)(e:List Y1)(f:Int):Tr Bool:=.c _ (uR a e) λg=>.t g (.c _ (B9 f 1 (length a:Int)) λb=>.l b) (.l false)
def Jo c b a:=(KT c b a).ev
def aHh:FP prog:=aH cx func164 [H6,Ca] (yj [.agg Zv,.dat yi]) [] [] (bF KT) dC bN
def Qu(k:(HL [y1]->Option Bool))(v:Int×Int×gH):Tr ((Int×Int×gH)⊕(Int×gH)):=.t (v.2.1<(length v.2.2.1:Int)) (.g (aC v.2.1 (length v.2.2.1))<|.g (((toNat v.2.1)<length v.2.2.1)&&((getD v.2.2.1 (toNat v.2.1) 0)<length v.2.2.2))<|.c _ (k ((getD v.2.2.2 (getD v.2.2.1 (toNat v.2.1) 0) []),())) λa=>.t (!a) (.g (aC v.1 (length v.2.2.1))<|.g ((toNat v.1)<length v.2.2.1)<|.l (.inl ((wrap .i64 (v.1+1)),(wrap .i64 (v.2.1+1)),(set v.2.2.1 (toNat v.1) (getD v.2.2.1 (toNat v.2.1) 0)),v.2.2.2))) (.l (.inl (v.1,(wrap .i64 (v.2.1+1)),v.2.2)))) (.l (.inr (v.1,v.2.2)))
def aJV k v:=aB (λv=>(Qu k v).ev) v
abbrev VB:Keep:=yk [] [0,5] (yj [.arr 64,.dat yi]) [F3]
def aQS:LD:=yl (Qu) (yk [] [0,1,5,6] (yj [.arr 64,.clo [y1] .bool,.dat yi,.dat yi]) [F3]) [(0,VB)] aE (λk v=>(((),k,v.1,v.2.1,()),v.2.2,())) NV (λt=>(t.1.2.2.1,t.1.2.2.2.1,t.2.1)) (λ_ r=>yx 0 VB (((),r.1,()),r.2,()))
def aDM(f:(HL [y1]->Option Bool))(b:(List Nat)×Y2):Tr gH:=.c _ (OE (bH b.1 b.2) f) λe=>.t (e==(-1:Int)) (.l b) (.c _ (aJV f (e,(wrap .i64 (e+1)),b)) λa=>.g ((0<=a.1)&&(a.1<=(length a.2.1:Int)))<|.g ((0<=a.1)&&(a.1<=(length (List.take (toNat a.1) a.2.1++List.replicate (length a.2.1-(toNat a.1)) (length a.2.2)):Int)))<|.l ((List.take (toNat a.1) (List.take (toNat a.1) a.2.1++List.replicate (length a.2.1-(toNat a.1)) (length a.2.2))),a.2.2))
def KO a b:=(aDM a b).ev
def OV:FP prog:=aH cx func235 [aLL] (yj [.arr 64,.clo [y1] .bool]) [F3] [.arg 0] (Mi aDM) ⟨[.ren 64 0],[.tmp 4],C7,[(0,.perm 24 3 yi)],[],[64]⟩ kQ bU [(0,aQS)]
def ZU(b:Y1)(a:Int):Tr Bool:=.l ((length b:Int) !=a)
def KZ b a:=(ZU b a).ev
abbrev RZ{a b c d e:Type}{z:Type _}(f:a->b->z)(x:(a×(b×c)×d)×e):z:=f x.1.1 x.1.2.1.1
def aRM:FP prog:=aH cx func236 [] (yj [.dat y1,.ptr fK]) [] [] (RZ ZU) Mp bN
def aAw(a:Y1)(g:List Y1)(j:Int):Tr Y1:=.c _ (Rq (length a:Int)) λf=>.c _ (KO (λb=>Option.bind (KZ b.1 j) λn=>some n) f) λh=>.c _ (HR (λi=>Option.bind (Gi a g i.1) λm=>some m) h) λe=>.l e
def ZG c b a:=(aAw c b a).ev
def aSs:FP prog:=aH cx func165 [aFn,OV,Se,Se,aGw,OV,aRM] (yj [.agg Zv,.dat yi]) [] [] (bF aAw) ⟨[.ren 960 0],[.tmp 4],C7,[tP],[],[]⟩ kQ
def JW(e:Y1)(a:List Y1)(b:Int):Tr D9:=.c _ (Jo e a b) λg=>.t (!g) (.l (false,[])) (.c _ (ZG e a b) λf=>.l (true,f))
def OO c b a:=(JW c b a).ev
abbrev VN:RetK:=⟨[.own 4 0 3 yi,.ren 768 0],[.tmp 4,.tmp 5],Dq,[tP],[],[]⟩
def aMl:FP prog:=aH cx func107 [aHh,aSs] (yj [.agg Zv,.dat yi]) [] [] (bF JW) VN gN
def aEu(e:Y1)(b:Bool):Tr Lp:=.c _ (BM e) λa=>.l (a,b)
def CT b a:=(aEu b a).ev
def aTj:FP prog:=aH cx func106 [aKe] (yj [.dat y1,.dat .bool]) [] [] (dG aEu) Mv dO
def aCj(b:Y1)(a:Int):Tr Bool:=.l (a<(length b:Int))
def LX b a:=(aCj b a).ev
def aPK:FP prog:=aH cx func237 [] (yj [.dat y1,.ptr fK]) [] [] (RZ aCj) Mp bN
def aBu(h:Y1)(_i:List Y1)(f:Int):Tr gH:=.c _ (Rq (length h:Int)) λg=>.c _ (KO (λa=>Option.bind (LX a.1 f) λe=>some e) g) λb=>.l b
def aKY c b a:=(aBu c b a).ev
def aMP:FP prog:=aH cx func167 [aFn,OV,OV,aPK] (yj [.agg Zv,.dat yi]) [] [] (bF aBu) ⟨[.ren 640 0],[.tmp 4],C7,[(0,.perm 24 3 yi)],[],[]⟩ kQ
def Ow(k:Y1)(v:Int×Int):Tr (jI⊕Int):=.t (v.2<(length k:Int)) (.g (aC v.2 (length k))<|.l (.inl ((if v.1<(getD k (toNat v.2) 0)then(getD k (toNat v.2) 0)else v.1),(wrap .i64 (v.2+1))))) (.l (.inr v.1))
def aCv k v:=aB (λv=>(Ow k v).ev) v
def aRa:LD:=yl (Ow) Yy [(0,jM)] aE r9 oG iV (λ_ r=>yx 0 jM ((r,()),()))
def aCN(a:Y1):Tr Int:=.t ((length a:Int)<(1:Int)) (.f) (.g (aC 0 (length a))<|.c _ (aCv a ((getD a (toNat 0) 0),1)) λb=>.l b)
def aAJ a:=(aCN a).ev
def aSq:FP prog:=aH cx func238 [] Di [] [] (oM aCN) oB bN bU [(0,aRa)]
def aCC(h:Y1)(e:List Y1)(f:Y1):Tr Int:=.c _ (NN h e f) λa=>.g ((length a+length ([0]:Y1))*8<=140737488355328)<|.c _ (aAJ (a++([0]:Y1))) λb=>.l b
def Rp c b a:=(aCC c b a).ev
def aIi:FP prog:=aH cx func168 [aKE,aSq] (yj [.agg Zv,.dat y1]) [] [] (bF aCC) lJ bN
def LM(b:Y1)(a:List Y1)(e:Int):Tr D9:=.c _ (Jo b a e) λi=>.t (!i) (.l (false,[])) (.c _ (aKY b a e) λf=>.c _ (HR (λg=>Option.bind (Rp b a g.1) λj=>some j) f) λh=>.l (true,h))
def GC c b a:=(LM c b a).ev
def aMF:FP prog:=aH cx func108 [aHh,aMP,Se,Se,aIi] (yj [.agg Zv,.dat yi]) [] [] (bF LM) ⟨[.own 4 0 3 yi,.ren 960 0],[.tmp 4,.tmp 5],Dq,[tP],[],[]⟩ gN
def aAi(f:Y1)(b:List Y1)(a:Int):Tr Bool:=.c _ (uR f b) λe=>.t e (.l (0<=a)) (.l false)
def aIB c b a:=(aAi c b a).ev
def aSz:FP prog:=aH cx func169 [H6] (yj [.agg Zv,.dat yi]) [] [] (bF aAi) dC bN
def Uk(k:Y1×Int×Int×Int×Int×Y1×E3)(v:Int×Int):Tr (jI⊕Int):=.t (v.2<k.2.2.2.2.2.2.1) (.g (aC v.2 (length k.2.2.2.2.2.1))<|.g (aC (getD k.2.2.2.2.2.1 (toNat v.2) 0) (length k.2.2.2.2.2.2.2.2))<|.g (aC k.2.2.1 (length (getD k.2.2.2.2.2.2.2.2 (toNat (getD k.2.2.2.2.2.1 (toNat v.2) 0)) [])))<|.t ((getD (getD k.2.2.2.2.2.2.2.2 (toNat (getD k.2.2.2.2.2.1 (toNat v.2) 0)) []) (toNat k.2.2.1) 0)<=k.2.1) (.l (.inl ((wrap .i64 (v.1+1)),(wrap .i64 (v.2+1))))) (.l (.inl (v.1,(wrap .i64 (v.2+1)))))) (.l (.inr v.1))
def aIH k v:=aB (λv=>(Uk k v).ev) v
abbrev UM:Keep:=yk [] [1,2,3,8,13,14] (yj [.dat y1,.dat yi,.box 3 0,.dat yi,.dat yi,.dat yi]) [(3,.cells Zv)]
def aTw:LD:=yl (Uk) (yk [] [1,2,3,7,8,13,14,17,18,19] (yj [.dat y1,.dat yi,.box 3 0,.dat yi,.dat yi,.dat yi,.dat yi,.dat y1,.dat yi,.dat yi]) [(3,.cells Zv)]) [(2,UM)] aE (λk v=>((k.1,k.2.1,(),k.2.2.1,v.1,k.2.2.2.1,k.2.2.2.2.1,k.2.2.2.2.2.1,k.2.2.2.2.2.2.1,v.2,()),(k.2.2.2.2.2.2.2.1,k.2.2.2.2.2.2.2.2,()),())) (λt=>(t.1.1,t.1.2.1,t.1.2.2.2.1,t.1.2.2.2.2.2.1,t.1.2.2.2.2.2.2.1,t.1.2.2.2.2.2.2.2.1,t.1.2.2.2.2.2.2.2.2.1,t.2.1.1,t.2.1.2.1)) (λt=>(t.1.2.2.2.2.1,t.1.2.2.2.2.2.2.2.2.2.1)) (λk r=>yx 2 UM ((k.1,k.2.1,(),r,k.2.2.2.1,k.2.2.2.2.1,()),(k.2.2.2.2.2.2.2.1,k.2.2.2.2.2.2.2.2,()),()))
def Si(k:Y1×Int×E3)(v:Int):Tr (Int⊕(Unit⊕Unit)):=.t (v<k.2.2.1) (.c _ (aIH (k.1,k.2.1,v,k.2.2.1,v,k.1,(length k.1:Int),k.2.2.2.1,k.2.2.2.2) (0,0)) λa=>.t (1<a) (.l (.inr (.inr ()))) (.l (.inl (wrap .i64 (v+1))))) (.l (.inr (.inl ())))
def aJC k v:=aB (λv=>(Si k v).ev) v
def aSm:LD:=yl (Si) (yk [] [1,2,3,13,14] (yj [.dat y1,.dat yi,.box 3 0,.dat yi,.dat yi]) [(3,.cells Zv)]) [(0,aE)] sB TH FB b8 (λ_ r=>.s _ _ r (λ_=>yx 0 aE ((),())) (λ_=>yz sB ((false,()),())))
def aER(a:Y1)(e:List Y1)(g:Y1)(b:Int):Tr Bool:=.c _ (aJC (g,b,(length a:Int),a,e) 0) λf=>.s _ _ f (λ_=>.l true) (λ_=>.l false)
def NY e c b a:=(aER e c b a).ev
def aMv:FP prog:=aH cx func241 [] (yj [.agg Zv,.dat y1,.dat yi]) [] [] (vO aER) Ck bN bU [(2,aTw),(0,aSm)]
def Vd(k:Int×Y1×Y2)(v:Y1×Int):Tr ((Y1×Int)⊕Y1):=.g ((0:Int)<=(length k.2.2:Int))<|.t (v.2<(wrap .u64 ((1:Int)*2^(min (toNat (length k.2.2:Int)) bI)))) (.c _ (zW v.2) λa=>.t ((length v.1:Int)<(length a:Int)) (.c _ (NY k.2.1 k.2.2 a k.1) λb=>.t b (.l (.inl (a,(wrap .u64 (v.2+1))))) (.l (.inl (v.1,(wrap .u64 (v.2+1)))))) (.t ((length a:Int)==(length v.1:Int)) (.c _ (PM a v.1) λf=>.t (f<0) (.c _ (NY k.2.1 k.2.2 a k.1) λe=>.t e (.l (.inl (a,(wrap .u64 (v.2+1))))) (.l (.inl (v.1,(wrap .u64 (v.2+1)))))) (.l (.inl (v.1,(wrap .u64 (v.2+1)))))) (.l (.inl (v.1,(wrap .u64 (v.2+1))))))) (.l (.inr v.1))
def LH k v:=aB (λv=>(Vd k v).ev) v
def aPu:LD:=yl (Vd) (yk [.fz 8,.fz 1152] [1,2,5,6] (yj [.dat yi,.box 2 0,.dat y1,.dat (.int .u64)]) [zO]) [(0,Mt)] aE Fu l7 uT (λ_ r=>yx 0 Mt ((r,()),()))
def aEr(e:Y1)(b:List Y1)(a:Int):Tr Y1:=.c _ (LH (a,e,b) ([],1)) λf=>.l f
def aBP c b a:=(aEr c b a).ev
def aSl:FP prog:=aH cx func170 [wdfl,aMv,aJX] (yj [.agg Zv,.dat yi]) [] [] (bF aEr) Lt bN bU [(0,aPu)]
def aFs(e:Y1)(a:List Y1)(b:Int):Tr (Y1×Bool):=.c _ (aIB e a b) λg=>.t (!g) (.l ([],false)) (.c _ (aBP e a b) λf=>.l (f,true))
def aGj c b a:=(aFs c b a).ev
def aQs:FP prog:=aH cx func109 [aSz,aSl] (yj [.agg Zv,.dat yi]) [] [] (bF aFs) (yr [.tmp 4,.tmp 5] (yj [.dat y1,.dat .bool])) dO
def aEH(e:Y1)(a:List Y1)(b:Y1):Tr (Int×Bool):=.c _ (Ff e a b) λg=>.t (!g) (.l (0,false)) (.c _ (a6 e a b) λf=>.l (f,true))
def aGL c b a:=(aEH c b a).ev
def aOM:FP prog:=aH cx func171 [Qw,wdkc] (yj [.agg Zv,.dat y1]) [] [] (bF aEH) Bj dO
def YY(f:Y1)(b:List Y1)(e:Y1)(g:Int):Tr (Int×Bool):=.c _ (iK f b e g) λh=>.t (!h) (.l (0,false)) (.c _ (aGL f b e) λa=>.l (a.1,a.2))
def OW e c b a:=(YY e c b a).ev
def aLu:FP prog:=aH cx func110 [MI,aOM] (yj [.agg oL]) [] [] (rX YY) Az dO
def aBN(e:Int)(b:Bool):Tr Lp:=.c _ (pI e) λa=>.l (a,b)
def Jz b a:=(aBN b a).ev
def aPc:FP prog:=aH cx func105 [IM] (yj [.dat yi,.dat .bool]) [] [] (dG aBN) Mv dO
def P4(k:Y1)(v:Int×Int):Tr (jI⊕Int):=.t (v.2<(length k:Int)) (.g (aC v.2 (length k))<|.l (.inl ((if(getD k (toNat v.2) 0)<v.1 then(getD k (toNat v.2) 0)else v.1),(wrap .i64 (v.2+1))))) (.l (.inr v.1))
def aES k v:=aB (λv=>(P4 k v).ev) v
def aOk:LD:=yl (P4) Yy [(0,jM)] aE r9 oG iV (λ_ r=>yx 0 jM ((r,()),()))
def KF(a:Y1):Tr Int:=.t ((length a:Int)<(1:Int)) (.f) (.g (aC 0 (length a))<|.c _ (aES a ((getD a (toNat 0) 0),1)) λb=>.l b)
def Sp a:=(KF a).ev
def aJl:FP prog:=aH cx func177 [] Di [] [] (oM KF) oB bN bU [(0,aOk)]
def Ij(k:Y1×Int×Int×Y2×Int×Int×Y1×Int)(v:Int×Y1):Tr (gR⊕Y1):=.t (v.1<k.2.2.2.2.2.2.2) (.g (aC v.1 (length k.2.2.2.2.2.2.1))<|.g (aC v.1 (length v.2))<|.g ((toNat v.1)<length v.2)<|.g (aC k.2.2.1 (length k.1))<|.g (aC v.1 (length v.2))<|.g ((toNat v.1)<length v.2)<|.l (.inl ((wrap .i64 (v.1+1)),(set v.2 (toNat v.1) (wrap .i64 ((getD v.2 (toNat v.1) 0)+(if(0:Int)<(wrap .i64 ((getD k.1 (toNat k.2.2.1) 0) -(wrap .i64 ((getD k.2.2.2.2.2.2.1 (toNat v.1) 0)*k.2.1))))then(wrap .i64 ((getD k.1 (toNat k.2.2.1) 0) -(wrap .i64 ((getD k.2.2.2.2.2.2.1 (toNat v.1) 0)*k.2.1))))else 0))))))) (.l (.inr v.2))
def aBt k v:=aB (λv=>(Ij k v).ev) v
abbrev CC:Keep:=yk [] [1,2,7,17,18,19] (yj [.dat y1,.dat yi,.arr 15,.dat y2,.dat yi,.dat yi]) [(15,.arr 3 yi)]
def aSN:LD:=yl (Ij) (yk [] [1,2,7,8,17,18,19,24,25,26] (yj [.dat y1,.dat yi,.arr 15,.dat yi,.dat y2,.dat yi,.dat yi,.dat y1,.dat yi,.dat yi]) [(15,.arr 3 yi)]) [(2,CC)] aE (λk v=>((k.1,k.2.1,(),k.2.2.1,k.2.2.2.1,k.2.2.2.2.1,k.2.2.2.2.2.1,k.2.2.2.2.2.2.1,k.2.2.2.2.2.2.2,v.1,()),v.2,())) (λt=>(t.1.1,t.1.2.1,t.1.2.2.2.1,t.1.2.2.2.2.1,t.1.2.2.2.2.2.1,t.1.2.2.2.2.2.2.1,t.1.2.2.2.2.2.2.2.1,t.1.2.2.2.2.2.2.2.2.1)) (λt=>(t.1.2.2.2.2.2.2.2.2.2.1,t.2.1)) (λk r=>yx 2 CC ((k.1,k.2.1,(),k.2.2.2.1,k.2.2.2.2.1,k.2.2.2.2.2.1,()),r,()))
def Fm(k:Y1×Int×Y2×Int)(v:Int×Y1):Tr (gR⊕Y1):=.t (v.1<k.2.2.2) (.g (aC v.1 (length k.2.2.1))<|.c _ (aBt (k.1,k.2.1,v.1,k.2.2.1,k.2.2.2,v.1,(getD k.2.2.1 (toNat v.1) []),(length (getD k.2.2.1 (toNat v.1) []):Int)) (0,v.2)) λa=>.l (.inl ((wrap .i64 (v.1+1)),a))) (.l (.inr v.2))
def YN k v:=aB (λv=>(Fm k v).ev) v
abbrev SW:Keep:=yk [] [7] (yj [.arr 15]) [(15,.arr 3 yi)]
abbrev UJ{a b c d e g h:Type}(t:(a×b×c×d×e×g)×h):=(t.1.1,t.1.2.1,t.1.2.2.2.1,t.1.2.2.2.2.1)
def aNZ:LD:=yl (Fm) CC [(0,SW)] aE (λk v=>((k.1,k.2.1,(),k.2.2.1,k.2.2.2,v.1,()),v.2,())) UJ FV (λ_ r=>yx 0 SW (((),()),r,()))
def KB(a:Y1)(b:List Y1)(f:Y1)(e:Int):Tr Y1:=.g (((0:Int)<=(length a:Int))&&((length a:Int)<=(length a:Int))&&(((8:Nat):Int)*(length a:Int)<=281474976710656))<|.c _ (YN (f,e,b,(length b:Int)) (0,(List.replicate (toNat (length a:Int)) 0))) λh=>.l h
def Jt e c b a:=(KB e c b a).ev
def aII:FP prog:=aH cx func247 [] (yj [.agg Zv,.dat y1,.dat yi]) [] [] (vO KB) ⟨[.ren 15 0],[.tmp 6],C7,[tP],[],[]⟩ kQ bU [(2,aSN),(0,aNZ)]
def AO(k:Int×Y1×Y2)(v:Int×Y1):Tr (gR⊕Y1):=.t (v.1<k.1) (.g (aC v.1 (length v.2))<|.g ((toNat v.1)<length v.2)<|.g (aC v.1 (length k.2.1))<|.g (aC v.1 (length v.2))<|.g ((toNat v.1)<length v.2)<|.l (.inl ((wrap .i64 (v.1+1)),(set v.2 (toNat v.1) (wrap .i64 ((getD k.2.1 (toNat v.1) 0) -(getD v.2 (toNat v.1) 0))))))) (.l (.inr v.2))
def aGY k v:=aB (λv=>(AO k v).ev) v
abbrev QW:Keep:=yk [] [5] (yj [.arr 640]) [(640,.arr 3 yi)]
def aND:LD:=yl (AO) (yk [] [2,5,11,12,13] (yj [.box 2 0,.arr 640,.arr 640,.dat yi,.dat yi]) [zO,(640,.arr 3 yi)]) [(0,QW)] aE (λk v=>(((),(),(),k.1,v.1,()),(k.2.1,k.2.2,()),v.2,())) (λt=>(t.1.2.2.2.1,t.2.1.1,t.2.1.2.1)) Mw (λ_ r=>yx 0 QW (((),()),r,()))
def aBw(e:Y1)(a:List Y1)(g:Y1):Tr Y1:=.c _ (Jt e a g 1) λb=>.c _ (aGY ((length b:Int),e,a) (0,b)) λf=>.l f
def aBW c b a:=(aBw c b a).ev
def aNs:FP prog:=aH cx func178 [aII] (yj [.agg Zv,.dat y1]) [] [] (bF aBw) ⟨[.ren 640 0],[.tmp 4],C7,[tP],[],[]⟩ kQ bU [(0,aND)]
def AE(k:Y2×E3)(v:Int×Y1):Tr (gR⊕Y1):=.t (v.1<k.2.1) (.g (aC v.1 (length k.1))<|.c _ (Sp (getD k.1 (toNat v.1) [])) λa=>.g ((length v.2+length ([a]:Y1))*8<=140737488355328)<|.l (.inl ((wrap .i64 (v.1+1)),(v.2++([a]:Y1))))) (.l (.inr v.2))
def aGf k v:=aB (λv=>(AE k v).ev) v
abbrev QS:Keep:=yk [] [1,4] (yj [.box 1 0,.arr 19]) [jY,(19,.arr 3 yi)]
def aOI:LD:=yl (AE) (yk [] [1,4,21,22,23] (yj [.box 1 0,.arr 19,.dat y2,.dat yi,.dat yi]) [jY,(19,.arr 3 yi)]) [(0,QS)] aE (λk v=>(((),(),k.1,k.2.1,v.1,()),(k.2.2.1,k.2.2.2,()),v.2,())) UX Mw (λk r=>yx 0 QS (((),(),()),(k.2.2.1,k.2.2.2,()),r,()))
noncomputable abbrev aKC(p1:Int)(p2 p3:Y1)(p4 p5:Int)(p6:Y1)(p7:Int):=(.g (aC p1 (length p2))<|.g ((toNat p1)<length p2)<|.t ((getD p3 (toNat p4) 0)<=(getD p2 (toNat p1) 0)) (.t (p5<0) (.g (aC p4 (length p6))<|.g ((toNat p4)<length p6)<|.l (.inl (p7,(getD p6 (toNat p4) 0),(wrap .i64 (p4+1))))) (.g (aC p4 (length p6))<|.g ((toNat p4)<length p6)<|.t ((getD p6 (toNat p4) 0)<p5) (.g (aC p4 (length p6))<|.g ((toNat p4)<length p6)<|.l (.inl (p7,(getD p6 (toNat p4) 0),(wrap .i64 (p4+1))))) (.l (.inl (p7,p5,(wrap .i64 (p4+1))))))) (.l (.inl (p7,p5,(wrap .i64 (p4+1))))):Tr ((Int×jI)⊕jI))
def H4(k:Bool×Int×Y2×Int×Int×Y1×Int×Y1×Y2×Y1×Y1)(v:Int×jI):Tr ((Int×jI)⊕jI):=.t (v.2.2<k.2.2.2.2.2.2.1) (.g (aC v.2.2 (length k.2.2.2.2.2.1))<|.g (aC k.2.1 (length k.2.2.2.2.2.2.2.2.2.1))<|.g ((toNat k.2.1)<length k.2.2.2.2.2.2.2.2.2.1)<|.t ((getD k.2.2.2.2.2.2.2.2.2.1 (toNat k.2.1) 0)<(getD k.2.2.2.2.2.1 (toNat v.2.2) 0)) (.t (v.1<0) (.l (.inl ((getD k.2.2.2.2.2.1 (toNat v.2.2) 0),v.2.1,(wrap .i64 (v.2.2+1))))) (.t ((getD k.2.2.2.2.2.1 (toNat v.2.2) 0)<v.1) (.l (.inl ((getD k.2.2.2.2.2.1 (toNat v.2.2) 0),v.2.1,(wrap .i64 (v.2.2+1))))) (aKC k.2.1 k.2.2.2.2.2.2.2.2.2.1 k.2.2.2.2.2.1 v.2.2 v.2.1 k.2.2.2.2.2.2.2.2.2.2 v.1))) (aKC k.2.1 k.2.2.2.2.2.2.2.2.2.1 k.2.2.2.2.2.1 v.2.2 v.2.1 k.2.2.2.2.2.2.2.2.2.2 v.1)) (.l (.inr (v.1,v.2.1)))
def aGP k v:=aB (λv=>(H4 k v).ev) v
abbrev SL:Keep:=yk [] [1,4,7,8,11,12,35,36,37] (yj [.box 1 0,.arr 19,.dat .bool,.dat yi,.dat yi,.dat yi,.dat y2,.dat yi,.dat yi]) [jY,(19,.arr 3 yi)]
def aMe:LD:=yl (H4) (yk [] [1,4,7,8,10,11,12,35,36,37,45,46,47] (yj [.box 1 0,.arr 19,.dat .bool,.dat yi,.arr 2816,.dat yi,.dat yi,.dat y2,.dat yi,.dat yi,.dat y1,.dat yi,.dat yi]) [jY,(19,.arr 3 yi),(2816,.arr 3 yi)]) [(6,SL)] aE (λk v=>(((),(),k.1,k.2.1,(),v.1,v.2.1,k.2.2.1,k.2.2.2.1,k.2.2.2.2.1,k.2.2.2.2.2.1,k.2.2.2.2.2.2.1,v.2.2,()),(k.2.2.2.2.2.2.2.1,k.2.2.2.2.2.2.2.2.1,()),k.2.2.2.2.2.2.2.2.2.1,k.2.2.2.2.2.2.2.2.2.2,())) (λt=>(t.1.2.2.1,t.1.2.2.2.1,t.1.2.2.2.2.2.2.2.1,t.1.2.2.2.2.2.2.2.2.1,t.1.2.2.2.2.2.2.2.2.2.1,t.1.2.2.2.2.2.2.2.2.2.2.1,t.1.2.2.2.2.2.2.2.2.2.2.2.1,t.2.1.1,t.2.1.2.1,t.2.2.1,t.2.2.2.1)) (λt=>(t.1.2.2.2.2.2.1,t.1.2.2.2.2.2.2.1,t.1.2.2.2.2.2.2.2.2.2.2.2.2.1)) (λk r=>yx 6 SL (((),(),k.1,k.2.1,r.1,r.2,k.2.2.1,k.2.2.2.1,k.2.2.2.2.1,()),(k.2.2.2.2.2.2.2.1,k.2.2.2.2.2.2.2.2.1,()),k.2.2.2.2.2.2.2.2.2.1,()))
def R1(k:Y2×E3)(v:Bool×gR):Tr ((Bool×gR)⊕D9):=.t (v.2.1<k.2.1) (.g (aC v.2.1 (length k.1))<|.c _ (aBW k.2.2.1 k.2.2.2 v.2.2) λb=>.c _ (aGP (v.1,v.2.1,k.1,k.2.1,v.2.1,(getD k.1 (toNat v.2.1) []),(length (getD k.1 (toNat v.2.1) []):Int),k.2.2.1,k.2.2.2,v.2.2,b) ((-1),(-1),0)) λa=>.g (aC v.2.1 (length v.2.2))<|.g ((toNat v.2.1)<length v.2.2)<|.t (0<=a.1) (.t v.1 (.g (aC v.2.1 (length v.2.2))<|.g ((toNat v.2.1)<length v.2.2)<|.l (.inl (true,(wrap .i64 (v.2.1+1)),(set v.2.2 (toNat v.2.1) (if a.1<(wrap .i64 ((getD v.2.2 (toNat v.2.1) 0)+a.2))then a.1 else(wrap .i64 ((getD v.2.2 (toNat v.2.1) 0)+a.2))))))) (.g (aC v.2.1 (length v.2.2))<|.g ((toNat v.2.1)<length v.2.2)<|.g (aC v.2.1 (length v.2.2))<|.g ((toNat v.2.1)<length v.2.2)<|.l (.inl (((getD v.2.2 (toNat v.2.1) 0)<(if a.1<(wrap .i64 ((getD v.2.2 (toNat v.2.1) 0)+a.2))then a.1 else(wrap .i64 ((getD v.2.2 (toNat v.2.1) 0)+a.2)))),(wrap .i64 (v.2.1+1)),(set v.2.2 (toNat v.2.1) (if a.1<(wrap .i64 ((getD v.2.2 (toNat v.2.1) 0)+a.2))then a.1 else(wrap .i64 ((getD v.2.2 (toNat v.2.1) 0)+a.2)))))))) (.t v.1 (.g (aC v.2.1 (length v.2.2))<|.g ((toNat v.2.1)<length v.2.2)<|.l (.inl (true,(wrap .i64 (v.2.1+1)),(set v.2.2 (toNat v.2.1) (wrap .i64 ((getD v.2.2 (toNat v.2.1) 0)+a.2)))))) (.g (aC v.2.1 (length v.2.2))<|.g ((toNat v.2.1)<length v.2.2)<|.g (aC v.2.1 (length v.2.2))<|.g ((toNat v.2.1)<length v.2.2)<|.l (.inl (((getD v.2.2 (toNat v.2.1) 0)<(wrap .i64 ((getD v.2.2 (toNat v.2.1) 0)+a.2))),(wrap .i64 (v.2.1+1)),(set v.2.2 (toNat v.2.1) (wrap .i64 ((getD v.2.2 (toNat v.2.1) 0)+a.2)))))))) (.l (.inr (v.1,v.2.2)))
def aIP k v:=aB (λv=>(R1 k v).ev) v
abbrev Yo:Keep:=yk [] [1,4,7] (yj [.box 1 0,.arr 19,.dat .bool]) [jY,(19,.arr 3 yi)]
def aRy:LD:=yl (R1) (yk [] [1,4,7,35,36,37] (yj [.box 1 0,.arr 19,.dat .bool,.dat y2,.dat yi,.dat yi]) [jY,(19,.arr 3 yi)]) [(4,Yo)] aE (λk v=>(((),(),v.1,k.1,k.2.1,v.2.1,()),(k.2.2.1,k.2.2.2,()),v.2.2,())) (λt=>(t.1.2.2.2.1,t.1.2.2.2.2.1,t.2.1.1,t.2.1.2.1)) (λt=>(t.1.2.2.1,t.1.2.2.2.2.2.1,t.2.2.1)) (λk r=>yx 4 Yo (((),(),r.1,()),(k.2.2.1,k.2.2.2,()),r.2,()))
def Jp(k:Y1×Y2)(v:Bool×Y1):Tr (D9⊕Y1):=.t v.1 (.c _ (aIP (k.2,(length k.2:Int),k.1,k.2) (false,0,v.2)) λa=>.l (.inl (a.1,a.2))) (.l (.inr v.2))
def aJG k v:=aB (λv=>(Jp k v).ev) v
abbrev UD:Keep:=yk [] [4] (yj [.arr 19]) [(19,.arr 3 yi)]
def aNe:LD:=yl (Jp) Yo [(2,UD)] aE As E8 L4 (λ_ r=>yx 2 UD (((),()),r,()))
def aCR(b:Y1)(a:List Y1):Tr D9:=.c _ (uR b a) λg=>.t (!g) (.l (false,[])) (.c _ (aGf (a,(length a:Int),b,a) (0,[])) λe=>.c _ (aJG (b,a) (true,e)) λf=>.l (true,f))
def MU b a:=(aCR b a).ev
def aLt:FP prog:=aH cx func118 [H6,aJl,aNs] (yj [.agg Zv]) [] [] (jZ aCR) ⟨[.own 2 0 3 yi,.ren 19 0],[.tmp 2,.tmp 3],Dq,[tP],[],[]⟩ gN bU [(0,aOI),(6,aMe),(4,aRy),(2,aNe)]
end
end Go.Proofs.YtjiljcblmgeioaaGreatDoor
