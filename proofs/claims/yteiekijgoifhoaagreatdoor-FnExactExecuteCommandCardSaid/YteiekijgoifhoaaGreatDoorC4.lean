/- A part of the proof that FnExactExecuteCommand hands back true, at every argument of the row. -/
import Derived.Test.YteiekijgoifhoaaGreatDoorC3
namespace Go.Proofs.YteiekijgoifhoaaGreatDoor
set_option linter.all false
noncomputable section
open Go.Proofs.Tryz
open List (length getD set)
open Int (toNat)
open IntKind (wrap)
def SZ(b:Y1)(a:List Y1)(e:Y1):Tr (Bool×Bool):=.c _ (Fa b a e) λg=>.t (!g) (.l (false,false)) (.c _ (Px b a e) λf=>.l ((!f.1),true))
def NO b a c:=(SZ b a c).ev
abbrev aCL:RetK:=yr [.tmp 4,.tmp 5] (yj [.dat .bool,.dat .bool])
def aIl:FP prog:=aG cx func289 [Uh,aBQ] (yj [.agg bR,.dat y1]) [] [] (jB SZ) aCL uE
def wws(k:Int×o7)(v:Int×Int):Tr (iC⊕Int):=.t (v.2<(length k.2.2.2:Int)) (.g (aB v.2 (length k.2.2.2))<|.g (aB k.1 (length (getD k.2.2.2 (toNat v.2) [])))<|.g (aB v.2 (length k.2.2.2))<|.g (aB k.2.1 (length (getD k.2.2.2 (toNat v.2) [])))<|.t ((getD (getD k.2.2.2 (toNat v.2) []) (toNat k.1) 0)<(getD (getD k.2.2.2 (toNat v.2) []) (toNat k.2.1) 0)) (.l (.inl ((wrap .i64 (v.1+1)),(wrap .i64 (v.2+1))))) (.l (.inl (v.1,(wrap .i64 (v.2+1)))))) (.l (.inr v.1))
def aHz k v:=aC (λv=>(wws k v).ev) v
abbrev aKJ:Keep:=yk [] [1,2,3,7,8] (yj [.dat yi,.dat yi,.box 3 0,.dat yi,.dat yi]) [(3,.cells bR)]
def aQs:LD:=yl (wws) aKJ [(0,u6)] bC aBj IH Ed (λ_ r=>yx 0 u6 ((r,()),()))
def FT(e:Y1)(b:List Y1)(f a:Int):Tr Int:=.c _ (aHz (f,a,e,b) (0,0)) λg=>.l g
def Wt b a e c:=(FT b a e c).ev
def aQS:FP prog:=aG cx func346 [] (yj [.agg bR,.dat yi,.dat yi]) [] [] (H2 FT) Bt bH bU [(0,aQs)]
def wwu(k:Int×N2)(v:Bool×Int):Tr ((Bool×Int)⊕Bool):=.t (v.2<(length k.2.1:Int)) (.t v.1 (.l (.inl (true,(wrap .i64 (v.2+1))))) (.c _ (Wt k.2.1 k.2.2.1 v.2 k.1) λb=>.c _ (Wt k.2.1 k.2.2.1 k.1 v.2) λa=>.l (.inl ((a<b),(wrap .i64 (v.2+1)))))) (.l (.inr v.1))
def aBk k v:=aC (λv=>(wwu k v).ev) v
abbrev aNM:Keep:=yk [] [1,4,5,6,7] (yj [.box 1 0,.arr 8,.dat yi,.dat .bool,.dat yi]) [jK,(8,.arr 3 yi)]
abbrev aHh:Keep:=yk [] [1,4,5,6] (yj [.box 1 0,.arr 8,.dat yi,.dat .bool]) [jK,(8,.arr 3 yi)]
def aRI:LD:=yl (wwu) aNM [(2,aHh)] bC aDm aHr Ed (λk r=>yx 2 aHh (((),(),k.1,r,()),(k.2.1,k.2.2.1,()),k.2.2.2,()))
def www(k:Y1×Y2)(v:Int×Y1):Tr (gI⊕Y1):=.t (v.1<(length k.1:Int)) (.c _ (aBk (v.1,k.1,k.2,v.2) (false,0)) λa=>.t (!a) (.g ((length v.2+length ([v.1]:Y1))*8<=140737488355328)<|.l (.inl ((wrap .i64 (v.1+1)),(v.2++([v.1]:Y1))))) (.l (.inl ((wrap .i64 (v.1+1)),v.2)))) (.l (.inr v.2))
def aBV k v:=aC (λv=>(www k v).ev) v
abbrev aJj:Keep:=yk [] [1,4,5] (yj [.box 1 0,.arr 8,.dat yi]) [jK,(8,.arr 3 yi)]
abbrev Zk:Keep:=yk [] [4] (yj [.arr 8]) [(8,.arr 3 yi)]
def aVh:LD:=yl (www) aJj [(0,Zk)] bC Th s7 Md (λ_ r=>yx 0 Zk (((),()),r,()))
def PO(b:Y1)(a:List Y1):Tr o5:=.c _ (Mt b a) λe=>.t (!e) (.l (false,[])) (.c _ (aBV (b,a) (0,[])) λf=>.l (true,f))
def QZ b a:=(PO b a).ev
abbrev aUl:RetK:=⟨[.ren 8 0],[.tmp 2,.tmp 3],Kr,[rS],[],[]⟩
def aTA:FP prog:=aG cx func290 [K1,aQS] (yj [.agg bR]) [] [] (g7 PO) aUl qD bU [(2,aRI),(0,aVh)]
def FN(a:Y1)(e:List Y1)(f:Y1)(m:Int)(b:List UInt8):Tr (List UInt8):=.t (b==([116,111,116,97,108]:List UInt8)) (.c _ (CB a e f m) λs=>.c _ (Dx s.1 s.2) λu=>.l u) (.t (b==([103,97,112]:List UInt8)) (.c _ (KS a e f m) λh=>.c _ (Dx h.1 h.2) λw=>.l w) (.t (b==([115,101,114,118,105,99,101]:List UInt8)) (.c _ (VV a e f) λp=>.c _ (Dx p.1 p.2) λz=>.l z) (.t (b==([114,101,97,99,104]:List UInt8)) (.c _ (MU a e f) λn=>.c _ (Dx n.1 n.2) λaf=>.l af) (.t (b==([115,101,114,118,101,100]:List UInt8)) (.c _ (HB a e f) λr=>.c _ (Tz r.2 r.1) λaa=>.l aa) (.t (b==([109,101,116,114,105,99]:List UInt8)) (.c _ (II a e) λj=>.c _ (YH j.1 j.2) λab=>.l ab) (.t (b==([102,105,101,108,100]:List UInt8)) (.c _ (Zv a e) λag=>.l ag) (.t (b==([112,114,105,99,101,115]:List UInt8)) (.c _ (OG a e) λq=>.c _ (Tz q.2 q.1) λac=>.l ac) (.t (b==([103,114,111,119,116,104]:List UInt8)) (.c _ (Js a e) λo=>.c _ (Tz o.1 o.2) λad=>.l ad) (.t (b==([108,111,99,97,108]:List UInt8)) (.c _ (NO a e f) λg=>.c _ (YH g.1 g.2) λy=>.l y) (.t (b==([117,110,98,101,97,116,101,110]:List UInt8)) (.c _ (QZ a e) λi=>.c _ (Tz i.2 i.1) λae=>.l ae) (.l ([63]:List UInt8))))))))))))
def Zl e c f a b:=(FN e c f a b).ev
def aUC:FP prog:=aG cx func208 [aGn,aSm,aUN,aPG,aNs,aIM,aDQ,aQP,aOK,aKc,aMN,aOv,aIl,aTA] (yj [.agg qC,.dat .str]) [] [] (Fd FN) Sq bH
noncomputable abbrev LS(p1:Y1)(p2:List Y1)(p3:Y1)(p4 p5:Int):=(.c _ (zS p1 p2 p3 p4 p5 0 0 0 []) λa=>.l (a.1,a.2.1,a.2.2.1,a.2.2.2.1,a.2.2.2.2):Tr DS)
def VQ(e:Y1)(b:List Y1)(f:Y1)(a:Int)(g:List UInt8):Tr DS:=.t (g==([105,109,112,114,111,118,101]:List UInt8)) (LS e b f a 10) (.t (g==([98,101,115,116]:List UInt8)) (LS e b f a 11) (.t (g==([99,108,105,101,110,116]:List UInt8)) (LS e b f a 7) (.c _ (Zl e b f a g) λh=>.l (e,b,f,a,h))))
def Ax e c f a b:=(VQ e c f a b).ev
abbrev aDu:RetK:=yr [.cell 4 38,.tmp 5] (yj [.agg qC,.dat .str])
def aOD:FP prog:=aG cx func134 [Yi,aUC] (yj [.agg qC,.dat .str]) [] [] (Fd VQ) aDu Rf
def NT(k:(List UInt8)×(List UInt8))(v:Int×Int):Tr (iC⊕(Int⊕Unit)):=.t (v.2<(length k.2:Int)) (.g (aB v.2 (length k.2))<|.t (((UInt8.toNat (getD k.2 (toNat v.2) 0):Nat):Int)<(48:Int)) (.l (.inr (.inr ()))) (.g (aB v.2 (length k.2))<|.t ((57:Int)<((UInt8.toNat (getD k.2 (toNat v.2) 0):Nat):Int)) (.l (.inr (.inr ()))) (.g (aB v.2 (length k.2))<|.l (.inl ((wrap .i64 ((wrap .i64 ((10:Int)*v.1))+(wrap .i64 (wrap .u8 (((UInt8.toNat (getD k.2 (toNat v.2) 0):Nat):Int) -48))))),(wrap .i64 (v.2+1))))))) (.l (.inr (.inl v.1)))
def wxb k v:=aC (λv=>(NT k v).ev) v
abbrev aMQ:Keep:=yh [0,4,5,6] (yj [.dat .str,.dat .str,.dat yi,.dat yi])
abbrev aGg:Keep:=yh [0,4,5] Sn
abbrev aBA:Keep:=yh [2,3] (yj [.dat yi,.dat .bool])
abbrev aWf{a b c d:Type}(k:a×b)(v:c×d):=((k.1,k.2,v.1,v.2,()),())
def aIE:LD:=yl (NT) aMQ [(0,aGg)] aBA aWf wM F1 (λk r=>.s _ _ r (λa=>yx 0 aGg ((k.1,k.2,a,()),())) (λ_=>yz aBA ((0,false,()),())))
noncomputable abbrev aFj(p1:List UInt8):=(.c _ (Al (length p1:Int) 1 6) λb=>.t (!b) (.l (0,false)) (.c _ (wxb (p1,p1) (0,0)) λe=>.s _ _ e (λa=>.t ((length p1:Int)<(length p1:Int)) (.c _ (rT 1000000 (wrap .i64 (0-a))) λf=>.t (!(f==p1)) (.l (0,false)) (.l ((wrap .i64 (0-a)),true))) (.c _ (rT 1000000 a) λg=>.t (!(g==p1)) (.l (0,false)) (.l (a,true)))) (λ_=>.l (0,false))):Tr (Int×Bool))
def OW(a:List UInt8):Tr (Int×Bool):=.t ((1:Int)<(length a:Int)) (.g (aB 0 (length a))<|.t (((UInt8.toNat (getD a (toNat 0) 0):Nat):Int)==(45:Int)) (.g (((0:Int)<=(1:Int))&&((1:Int)<=(length a:Int)))<|.c _ (Al (length (List.drop (toNat 1) (List.take (length a) a)):Int) 1 6) λh=>.t (!h) (.l (0,false)) (.c _ (wxb (a,(List.drop (toNat 1) (List.take (length a) a))) (0,0)) λe=>.s _ _ e (λb=>.t ((length (List.drop (toNat 1) (List.take (length a) a)):Int)<(length a:Int)) (.c _ (rT 1000000 (wrap .i64 (0-b))) λi=>.t (!(i==a)) (.l (0,false)) (.l ((wrap .i64 (0-b)),true))) (.c _ (rT 1000000 b) λf=>.t (!(f==a)) (.l (0,false)) (.l (b,true)))) (λ_=>.l (0,false)))) (aFj a)) (aFj a)
def IQ a:=(OW a).ev
def aNY:FP prog:=aG cx func209 [u9,U8] (yj [.dat .str]) [] [] (qH OW) Ry uE bU [(0,aIE)]
def wtd(k:List (List UInt8))(v:Int×Y1):Tr (gI⊕(Y1⊕Unit)):=.t (v.1<(length k:Int)) (.g (aB v.1 (length k))<|.c _ (IQ (getD k (toNat v.1) [])) λa=>.t (!a.2) (.l (.inr (.inr ()))) (.g ((length v.2+length ([a.1]:Y1))*8<=140737488355328)<|.l (.inl ((wrap .i64 (v.1+1)),(v.2++([a.1]:Y1)))))) (.l (.inr (.inl v.2)))
def aDU k v:=aC (λv=>(wtd k v).ev) v
abbrev aRB:Keep:=yk [] [0,4,5] (yj [.dat (.slice .str),.arr 8,.dat yi]) [(8,.arr 3 yi)]
abbrev aFy:Keep:=yk [] [2,3] (yj [.arr 25,.dat .bool]) [(25,.arr 3 yi)]
def aVu:LD:=yl (wtd) aRB [(0,Zk)] aFy Ec R2 Eo (λ_ r=>.s Y1 Unit r (λa=>yx 0 Zk (((),()),a,())) (λ_=>yz aFy (((),false,()),[],())))
def JB(b:List (List UInt8)):Tr o5:=.c _ (aDU b (1,[])) λe=>.s Y1 Unit e (λa=>.l (true,a)) (λ_=>.l (false,[]))
def Xq a:=(JB a).ev
abbrev aRp:RetK:=⟨[.ren 8 0,.ren 25 0],[.tmp 2,.tmp 3],Kr,[rS],[],[]⟩
def aNB:FP prog:=aG cx func135 [aNY] (yj [.dat (.slice .str)]) [] [] (qH JB) aRp qD bU [(0,aVu)]
def TW(a:Y1)(e:List Y1)(g:Int):Tr Bool:=.c _ (Mt a e) λf=>.t f (.c _ (Al g 1 (length a:Int)) λb=>.l b) (.l false)
def XQ b a c:=(TW b a c).ev
def aNz:FP prog:=aG cx func291 [K1,u9] (yj [.agg bR,.dat yi]) [] [] (jB TW) rR bH
def DM(k:Int×Y2×Y1×Y2)(v:Y1×Int):Tr ((Y1×Int)⊕Y1):=.t (v.2<(length k.2.1:Int)) (.g (aB v.2 (length k.2.1))<|.t ((length (getD k.2.1 (toNat v.2) []):Int)==k.1) (.t ((length v.1:Int)==(0:Int)) (.g (aB v.2 (length k.2.1))<|.l (.inl ((getD k.2.1 (toNat v.2) []),(wrap .i64 (v.2+1))))) (.g (aB v.2 (length k.2.1))<|.c _ (Kj k.2.2.1 k.2.2.2 (getD k.2.1 (toNat v.2) [])) λb=>.c _ (Kj k.2.2.1 k.2.2.2 v.1) λa=>.t (b<a) (.g (aB v.2 (length k.2.1))<|.l (.inl ((getD k.2.1 (toNat v.2) []),(wrap .i64 (v.2+1))))) (.l (.inl (v.1,(wrap .i64 (v.2+1))))))) (.l (.inl (v.1,(wrap .i64 (v.2+1)))))) (.l (.inr v.1))
def aHM k v:=aC (λv=>(DM k v).ev) v
abbrev aLs:Keep:=yk [.fz 12] [1,2,5,6,7] (yj [.dat yi,.box 2 0,.dat y2,.dat y1,.dat yi]) [xF]
abbrev aKk{a b c d e g:Type}(k:a×b×c×d)(v:e×g):=((k.1,(),k.2.1,v.1,v.2,()),(k.2.2.1,k.2.2.2,()),())
abbrev aNK{a b c d e g h i:Type}(t:(a×b×c×d)×(e×g×h)×i):=(t.1.1,t.1.2.2.1,t.2.1.1,t.2.1.2.1)
def aII:LD:=yl (DM) aLs [(0,Ma)] bC aKk aNK Ed (λ_ r=>yx 0 Ma ((r,()),()))
def JS(a:Y1)(b:List Y1)(f:Int):Tr Y1:=.c _ (Ug (length a:Int)) λe=>.c _ (aHM (f,e,a,b) ([],0)) λg=>.l g
def SD b a c:=(JS b a c).ev
abbrev Xv:RetK:=yr [.tmp 4] N1
def aUX:FP prog:=aG cx func292 [GS,FK] (yj [.agg bR,.dat yi]) [] [] (jB JS) Xv bH bU [(0,aII)]
def BL(b:Y1)(a:List Y1)(e:Int):Tr (Y1×Bool):=.c _ (XQ b a e) λg=>.t (!g) (.l ([],false)) (.c _ (SD b a e) λf=>.l (f,true))
def Ww b a c:=(BL b a c).ev
abbrev aNW:RetK:=⟨[.fz 10],[.tmp 4,.tmp 5],(yj [.dat y1,.dat .bool]),[],[],[]⟩
def aVV:FP prog:=aG cx func212 [aNz,aUX] (yj [.agg bR,.dat yi]) [] [] (jB BL) aNW uE
def TK(a:Y1)(e:List Y1)(g:Int):Tr Bool:=.c _ (Mt a e) λf=>.t f (.c _ (Al g 1 (length a:Int)) λb=>.l b) (.l false)
def OZ b a c:=(TK b a c).ev
def aQJ:FP prog:=aG cx func293 [K1,u9] (yj [.agg bR,.dat yi]) [] [] (jB TK) rR bH
def YX(k v:Int×Y2):Tr ((Int×Y2)⊕Y2):=.t (v.1<(length k.2:Int)) (.g (aB v.1 (length k.2))<|.t ((length (getD k.2 (toNat v.1) []):Int)<=k.1) (.g (aB v.1 (length k.2))<|.g ((length v.2+length ([(getD k.2 (toNat v.1) [])]:List Y1))*24<=140737488355328)<|.l (.inl ((wrap .i64 (v.1+1)),(v.2++([(getD k.2 (toNat v.1) [])]:List Y1))))) (.l (.inl ((wrap .i64 (v.1+1)),v.2)))) (.l (.inr v.2))
def aFX k v:=aC (λv=>(YX k v).ev) v
abbrev aSx:Keep:=yk [] [1,5,6,7] (yj [.dat yi,.arr 8,.dat y2,.dat yi]) [(8,.arr 22 y1)]
abbrev aGX:Keep:=yk [] [5] (yj [.arr 8]) [(8,.arr 22 y1)]
abbrev aMV{a b c d:Type}(k:a×b)(v:c×d):=((k.1,(),k.2,v.1,()),v.2,())
abbrev aEy{a b c d e:Type}(t:(a×b×c×d)×e):=(t.1.1,t.1.2.2.1)
def aUj:LD:=yl (YX) aSx [(0,aGX)] bC aMV aEy Fj (λ_ r=>yx 0 aGX (((),()),r,()))
def OS(b:Y1)(_g:List Y1)(f:Int):Tr Y2:=.c _ (Ug (length b:Int)) λe=>.c _ (aFX (f,e) (0,[])) λa=>.l a
def JW b a c:=(OS b a c).ev
abbrev aRE:RetK:=⟨[.ren 8 0],[.tmp 4],zY,[(0,.arr 22 y1)],[],[]⟩
def aIw:FP prog:=aG cx func348 [GS] (yj [.agg bR,.dat yi]) [] [] (jB OS) aRE xJ bU [(0,aUj)]
def wxc(k:Y1×Y2×Y2)(v:Y1×Int):Tr ((Y1×Int)⊕Y1):=.t (v.2<(length k.2.2:Int)) (.g (aB v.2 (length k.2.2))<|.g ((toNat v.2)<length k.2.2)<|.c _ (Rb k.1 k.2.1 (getD k.2.2 (toNat v.2) [])) λa=>.c _ (Rb k.1 k.2.1 v.1) λb=>.t (a<b) (.g (aB v.2 (length k.2.2))<|.g ((toNat v.2)<length k.2.2)<|.l (.inl ((getD k.2.2 (toNat v.2) []),(wrap .i64 (v.2+1))))) (.l (.inl (v.1,(wrap .i64 (v.2+1)))))) (.l (.inr v.1))
def aDN k v:=aC (λv=>(wxc k v).ev) v
abbrev aLn:Keep:=yk [] [2,5,6,7] (yj [.box 2 0,.arr 640,.dat y1,.dat yi]) [xF,(640,.arr 22 y1)]
abbrev aPP{a b c d e:Type}(k:a×b×c)(v:d×e):=(((),(),v.1,v.2,()),(k.1,k.2.1,()),k.2.2,())
abbrev aUU{a b c d e g:Type}(t:a×(b×c×d)×e×g):=(t.2.1.1,t.2.1.2.1,t.2.2.1)
def aWk:LD:=yl (wxc) aLn [(0,Ma)] bC aPP aUU F1 (λ_ r=>yx 0 Ma ((r,()),()))
def QQ(e:Y1)(b:List Y1)(f:Int):Tr Y1:=.c _ (JW e b f) λa=>.g (aB 0 (length a))<|.g ((toNat 0)<length a)<|.c _ (aDN (e,b,a) ((getD a (toNat 0) []),1)) λh=>.l h
def MD b a c:=(QQ b a c).ev
def aJv:FP prog:=aG cx func294 [aIw,aAK] (yj [.agg bR,.dat yi]) [] [] (jB QQ) Xv bH bU [(0,aWk)]
def CM(b:Y1)(a:List Y1)(e:Int):Tr o5:=.c _ (OZ b a e) λg=>.t (!g) (.l (false,[])) (.c _ (MD b a e) λf=>.c _ (Nh f) λh=>.l (true,h))
def Yr b a c:=(CM b a c).ev
abbrev aUo:RetK:=⟨[.ren 10 0,.ren 896 0],[.tmp 4,.tmp 5],Kr,[rS],[],[]⟩
def aMe:FP prog:=aG cx func213 [aQJ,aJv,Ka] (yj [.agg bR,.dat yi]) [] [] (jB CM) aUo qD
def HU(k:Int×Int×o7)(v:Int):Tr (Int⊕(Unit⊕Unit)):=.t (v<(length k.2.2.2.1:Int)) (.g (aB k.1 (length k.2.2.2.2))<|.g (aB v (length (getD k.2.2.2.2 (toNat k.1) [])))<|.t ((getD (getD k.2.2.2.2 (toNat k.1) []) (toNat v) 0)<=k.2.2.1) (.g (aB k.2.1 (length k.2.2.2.2))<|.g (aB v (length (getD k.2.2.2.2 (toNat k.2.1) [])))<|.t ((getD (getD k.2.2.2.2 (toNat k.2.1) []) (toNat v) 0)<=k.2.2.1) (.l (.inr (.inr ()))) (.l (.inl (wrap .i64 (v+1))))) (.l (.inl (wrap .i64 (v+1))))) (.l (.inr (.inl ())))
def aAM k v:=aC (λv=>(HU k v).ev) v
abbrev aVU:Keep:=yk [] [1,2,3,4,9] (yj [.dat yi,.dat yi,.dat yi,.box 4 0,.dat yi]) [(4,.cells bR)]
abbrev aRz{a b c d e g:Type}(k:a×b×c×d×e)(v:g):=((k.1,k.2.1,k.2.2.1,(),v,()),(k.2.2.2.1,k.2.2.2.2,()),())
def aOg:LD:=yl (HU) aVU [(0,bC)] Mk aRz aFA Ph (λ_ r=>.s _ _ r (λ_=>yx 0 bC ((),())) (λ_=>yz Mk ((false,()),())))
def OJ(f:Y1)(e:List Y1)(g a b:Int):Tr Bool:=.c _ (aAM (g,a,b,f,e) 0) λh=>.s _ _ h (λ_=>.l true) (λ_=>.l false)
def LJ e c f a b:=(OJ e c f a b).ev
def aUr:FP prog:=aG cx func381 [] (yj [.agg bR,.dat yi,.dat yi,.dat yi]) [] [] (aEq OJ) TE bH bU [(0,aOg)]
def wtg(k:Y1×Int×o7)(v:Int):Tr (Int⊕(Unit⊕Unit)):=.t (v<k.2.2.1) (.g (aB k.2.2.1 (length k.1))<|.g (aB v (length k.1))<|.c _ (LJ k.2.2.2.1 k.2.2.2.2 (getD k.1 (toNat k.2.2.1) 0) (getD k.1 (toNat v) 0) k.2.1) λa=>.t (!a) (.l (.inr (.inr ()))) (.l (.inl (wrap .i64 (v+1))))) (.l (.inr (.inl ())))
def aAw k v:=aC (λv=>(wtg k v).ev) v
abbrev aVc:Keep:=yk [] [1,2,3,7,8] (yj [.dat y1,.dat yi,.box 3 0,.dat yi,.dat yi]) [(3,.cells bR)]
abbrev MQ:Keep:=yk [] [1,2,3,7] (yj [.dat y1,.dat yi,.box 3 0,.dat yi]) [(3,.cells bR)]
abbrev aCm{a b c d e g:Type}(k:a×b×c×d×e)(v:g):=((k.1,k.2.1,(),k.2.2.1,v,()),(k.2.2.2.1,k.2.2.2.2,()),())
def aUW:LD:=yl (wtg) aVc [(2,MQ)] s5 aCm KX Ph (λk r=>.s _ _ r (λ_=>yx 2 MQ ((k.1,k.2.1,(),k.2.2.1,()),(k.2.2.2.1,k.2.2.2.2,()),())) (λ_=>yz s5 ((false,()),())))
def ZQ(k:Y1×o7)(v:Int):Tr (Int⊕(Unit⊕Unit)):=.t (v<(length k.1:Int)) (.c _ (aAw (k.1,k.2.1,v,k.2.2.1,k.2.2.2) 0) λa=>.s _ _ a (λ_=>.l (.inl (wrap .i64 (v+1)))) (λ_=>.l (.inr (.inr ())))) (.l (.inr (.inl ())))
def aCh k v:=aC (λv=>(ZQ k v).ev) v
abbrev aMB{a b c d e:Type}(k:a×b×c×d)(v:e):=((k.1,k.2.1,(),v,()),(k.2.2.1,k.2.2.2,()),())
def aRv:LD:=yl (ZQ) MQ [(0,bC)] s5 aMB IH qE (λ_ r=>.s _ _ r (λ_=>yx 0 bC ((),())) (λ_=>yz s5 ((false,()),())))
def VO(f:Y1)(b:List Y1)(g:Y1)(a:Int):Tr Bool:=.c _ (aCh (g,a,f,b) 0) λe=>.s _ _ e (λ_=>.l true) (λ_=>.l false)
def DB b a e c:=(VO b a e c).ev
def aVH:FP prog:=aG cx func350 [aUr] (yj [.agg bR,.dat y1,.dat yi]) [] [] (H2 VO) W3 bH bU [(2,aUW),(0,aRv)]
def ZL(k:Y1×Y1)(v:Int):Tr (Int⊕(Unit⊕Bool)):=.t (v<(length k.1:Int)) (.g (aB v (length k.1))<|.g (aB v (length k.2))<|.t ((getD k.1 (toNat v) 0) != (getD k.2 (toNat v) 0)) (.g (aB v (length k.1))<|.g (aB v (length k.2))<|.l (.inr (.inr ((getD k.1 (toNat v) 0)<(getD k.2 (toNat v) 0))))) (.l (.inl (wrap .i64 (v+1))))) (.l (.inr (.inl ())))
def aDE k v:=aC (λv=>(ZL k v).ev) v
def aMv:LD:=yl (ZL) GL [(0,bC)] nB X1 wM q9 (λ_ r=>.s _ _ r (λ_=>yx 0 bC ((),())) (λb=>yz nB ((b,()),())))
def OF(f e:Y1):Tr Bool:=.c _ (aDE (f,e) 0) λb=>.s _ _ b (λ_=>.l false) (λa=>.l a)
def EZ b a:=(OF b a).ev
def aQd:FP prog:=aG cx func349 [] (yj [.dat y1,.dat y1]) [] [] (kJ OF) rR bH bU [(0,aMv)]
def wxd(k:Int×Y1×Y2)(v:Y1×Int):Tr ((Y1×Int)⊕Y1):=.g ((0:Int)<=(length k.2.2:Int))<|.t (v.2<(wrap .i64 ((1:Int)*2^(min (toNat (length k.2.2:Int)) (IntKind.bits .i64))))) (.c _ (Zb (length k.2.2:Int) v.2) λa=>.t ((length v.1:Int)<(length a:Int)) (.c _ (DB k.2.1 k.2.2 a k.1) λf=>.t f (.l (.inl (a,(wrap .i64 (v.2+1))))) (.l (.inl (v.1,(wrap .i64 (v.2+1)))))) (.t ((length a:Int)==(length v.1:Int)) (.c _ (EZ a v.1) λb=>.t b (.c _ (DB k.2.1 k.2.2 a k.1) λe=>.t e (.l (.inl (a,(wrap .i64 (v.2+1))))) (.l (.inl (v.1,(wrap .i64 (v.2+1)))))) (.l (.inl (v.1,(wrap .i64 (v.2+1)))))) (.l (.inl (v.1,(wrap .i64 (v.2+1))))))) (.l (.inr v.1))
def aBK k v:=aC (λv=>(wxd k v).ev) v
abbrev aJp:Keep:=yk [.fz 8,.fz 1344] [1,2,5,6] (yj [.dat yi,.box 2 0,.dat y1,.dat yi]) [xF]
abbrev Yw:Keep:=yh [5] N1
def aUd:LD:=yl (wxd) aJp [(0,Yw)] bC Qk Ay F1 (λ_ r=>yx 0 Yw ((r,()),()))
def QE(b:Y1)(a:List Y1)(f:Int):Tr Y1:=.c _ (aBK (f,b,a) ([],0)) λe=>.l e
def NN b a c:=(QE b a c).ev
def aPN:FP prog:=aG cx func295 [aAS,aVH,aQd] (yj [.agg bR,.dat yi]) [] [] (jB QE) Xv bH bU [(0,aUd)]
def PR(b:Y1)(a:List Y1)(e:Int):Tr (Y1×Bool):=.c _ (Mt b a) λg=>.t (!g) (.l ([],false)) (.t (e<0) (.l ([],false)) (.c _ (NN b a e) λf=>.l (f,true)))
def FO b a c:=(PR b a c).ev
abbrev aUz:RetK:=⟨[.fz 13],[.tmp 4,.tmp 5],(yj [.dat y1,.dat .bool]),[],[],[]⟩
def aRe:FP prog:=aG cx func214 [K1,aPN] (yj [.agg bR,.dat yi]) [] [] (jB PR) aUz uE
noncomputable abbrev AY(p1:Y1)(p2:List Y1)(p3:Y1)(p4 p5 p6:Int):=(.c _ (zS p1 p2 p3 p4 p5 p6 0 0 []) λa=>.l (a.1,a.2.1,a.2.2.1,a.2.2.2.1,a.2.2.2.2):Tr DS)
def GK(b:Y1)(a:List Y1)(f:Y1)(e:Int)(h:List UInt8)(g:Int):Tr DS:=.t (h==([111,112,101,110]:List UInt8)) (AY b a f e 1 g) (.t (h==([99,108,111,115,101]:List UInt8)) (AY b a f e 2 g) (.t (h==([100,114,111,112,115,105,116,101]:List UInt8)) (AY b a f e 8 g) (.t (h==([100,114,111,112,99,108,105,101,110,116]:List UInt8)) (AY b a f e 9 g) (.t (h==([109,101,100,105,97,110]:List UInt8)) (.c _ (Ww b a g) λm=>.c _ (Tz m.1 m.2) λn=>.l (b,a,f,e,n)) (.t (h==([99,101,110,116,114,101,115]:List UInt8)) (.c _ (Yr b a g) λj=>.c _ (Tz j.2 j.1) λo=>.l (b,a,f,e,o)) (.t (h==([102,97,114]:List UInt8)) (.c _ (FO b a g) λi=>.c _ (Tz i.1 i.2) λp=>.l (b,a,f,e,p)) (.l (b,a,f,e,([63]:List UInt8)))))))))
def Y8 f e g b c a:=(GK f e g b c a).ev
abbrev JK{a b c d e g h i j:Type}{z:Type _}(f:a->b->c->d->g->h->z)(x:((a×b×c×d×e)×g×h×i)×j):z:=f x.1.1.1 x.1.1.2.1 x.1.1.2.2.1 x.1.1.2.2.2.1 x.1.2.1 x.1.2.2.1
abbrev aAm:RetK:=yr [.cell 6 38,.tmp 7] (yj [.agg qC,.dat .str])
def aQe:FP prog:=aG cx func137 [Yi,aVV,aDQ,aMe,aRe] (yj [.agg qC,.dat .str,.dat yi]) [] [] (JK GK) aAm Rf
def To(f:Y1)(e:List Y1)(h:Y1)(b:Int)(i:List UInt8)(a:Y1):Tr DS:=.t ((length a:Int)==(3:Int)) (.t (i==([108,101,110,103,116,104]:List UInt8)) (.g (aB 0 (length a))<|.g (aB 1 (length a))<|.g (aB 2 (length a))<|.c _ (zS f e h b 5 (getD a (toNat 0) 0) (getD a (toNat 1) 0) (getD a (toNat 2) 0) []) λq=>.l (q.1,q.2.1,q.2.2.1,q.2.2.2.1,q.2.2.2.2)) (.t ((length a:Int)==(2:Int)) (.t (i==([115,119,97,112]:List UInt8)) (.g (aB 0 (length a))<|.g (aB 1 (length a))<|.c _ (zS f e h b 3 (getD a (toNat 0) 0) (getD a (toNat 1) 0) 0 []) λm=>.l (m.1,m.2.1,m.2.2.1,m.2.2.2.1,m.2.2.2.2)) (.t ((length a:Int)==(2:Int)) (.t (i==([99,111,115,116]:List UInt8)) (.g (aB 0 (length a))<|.g (aB 1 (length a))<|.c _ (zS f e h b 4 (getD a (toNat 0) 0) (getD a (toNat 1) 0) 0 []) λr=>.l (r.1,r.2.1,r.2.2.1,r.2.2.2.1,r.2.2.2.2)) (.l (f,e,h,b,([63]:List UInt8)))) (.l (f,e,h,b,([63]:List UInt8))))) (.t ((length a:Int)==(2:Int)) (.t (i==([99,111,115,116]:List UInt8)) (.g (aB 0 (length a))<|.g (aB 1 (length a))<|.c _ (zS f e h b 4 (getD a (toNat 0) 0) (getD a (toNat 1) 0) 0 []) λn=>.l (n.1,n.2.1,n.2.2.1,n.2.2.2.1,n.2.2.2.2)) (.l (f,e,h,b,([63]:List UInt8)))) (.l (f,e,h,b,([63]:List UInt8)))))) (.t ((length a:Int)==(2:Int)) (.t (i==([115,119,97,112]:List UInt8)) (.g (aB 0 (length a))<|.g (aB 1 (length a))<|.c _ (zS f e h b 3 (getD a (toNat 0) 0) (getD a (toNat 1) 0) 0 []) λp=>.l (p.1,p.2.1,p.2.2.1,p.2.2.2.1,p.2.2.2.2)) (.t ((length a:Int)==(2:Int)) (.t (i==([99,111,115,116]:List UInt8)) (.g (aB 0 (length a))<|.g (aB 1 (length a))<|.c _ (zS f e h b 4 (getD a (toNat 0) 0) (getD a (toNat 1) 0) 0 []) λj=>.l (j.1,j.2.1,j.2.2.1,j.2.2.2.1,j.2.2.2.2)) (.l (f,e,h,b,([63]:List UInt8)))) (.l (f,e,h,b,([63]:List UInt8))))) (.t ((length a:Int)==(2:Int)) (.t (i==([99,111,115,116]:List UInt8)) (.g (aB 0 (length a))<|.g (aB 1 (length a))<|.c _ (zS f e h b 4 (getD a (toNat 0) 0) (getD a (toNat 1) 0) 0 []) λo=>.l (o.1,o.2.1,o.2.2.1,o.2.2.2.1,o.2.2.2.2)) (.l (f,e,h,b,([63]:List UInt8)))) (.l (f,e,h,b,([63]:List UInt8)))))
def Nr f e g b c a:=(To f e g b c a).ev
def aOM:FP prog:=aG cx func138 [Yi] (yj [.agg qC,.dat .str,.dat y1]) [] [] (JK To) aAm Rf
def Rj(h:Y1)(f:List Y1)(i:Y1)(e:Int)(q:List UInt8):Tr DS:=.c _ (Ow q 32) λa=>.t ((length a:Int)==(1:Int)) (.c _ (Ax h f i e q) λm=>.l (m.1,m.2.1,m.2.2.1,m.2.2.2.1,m.2.2.2.2)) (.c _ (Xq a) λb=>.t (!b.1) (.l (h,f,i,e,([63]:List UInt8))) (.g (aB 0 (length a))<|.g ((toNat 0)<length a)<|.t ((getD a (toNat 0) [])==([115,105,116,101]:List UInt8)) (.g (aB 0 (length b.2))<|.g (((0:Int)<=(1:Int))&&((1:Int)<=(length b.2:Int)))<|.c _ (zS h f i e 6 (getD b.2 (toNat 0) 0) 0 0 (List.drop (toNat 1) (List.take (length b.2) b.2))) λn=>.l (n.1,n.2.1,n.2.2.1,n.2.2.2.1,n.2.2.2.2)) (.t ((getD a (toNat 0) [])==([99,108,105,101,110,116]:List UInt8)) (.c _ (zS h f i e 7 0 0 0 b.2) λp=>.l (p.1,p.2.1,p.2.2.1,p.2.2.2.1,p.2.2.2.2)) (.t ((length b.2:Int)==(1:Int)) (.g (aB 0 (length a))<|.g ((toNat 0)<length a)<|.g (aB 0 (length b.2))<|.g ((toNat 0)<length b.2)<|.c _ (Y8 h f i e (getD a (toNat 0) []) (getD b.2 (toNat 0) 0)) λj=>.l (j.1,j.2.1,j.2.2.1,j.2.2.2.1,j.2.2.2.2)) (.g (aB 0 (length a))<|.g ((toNat 0)<length a)<|.c _ (Nr h f i e (getD a (toNat 0) []) b.2) λo=>.l (o.1,o.2.1,o.2.2.1,o.2.2.2.1,o.2.2.2.2))))))
def P1 e c f a b:=(Rj e c f a b).ev
def aSt:FP prog:=aG cx func70 [XL,aOD,aNB,Yi,aQe,aOM] (yj [.agg qC,.dat .str]) [] [] (Fd Rj) aDu Rf (Fq [(9,[(0,[7])]),(11,[(3,[46])]),(14,[(0,[7])])])
def TH(e b:List UInt8)(a:Int)(f h:List UInt8):Tr ((List UInt8)×(List UInt8)×iC):=.c _ (Zz e b a) λm=>.t (!m) (.l (e,b,a,1)) (.c _ (Uf f h) λj=>.t (!j) (.l (e,b,a,1)) (.t (a==60) (.l (e,b,a,2)) (.c _ (Xx a f h) λi=>.g (length b+length i<=9223372036854775807)<|.l (e,(b++i),(wrap .i64 (a+1)),0))))
def Ct e c f a b:=(TH e c f a b).ev
abbrev aAi{a b c d e g h i j:Type}{z:Type _}(f:a->b->c->e->g->z)(x:((a×b×c×d)×(e×g×h)×i)×j):z:=f x.1.1.1 x.1.1.2.1 x.1.1.2.2.1 x.1.2.1.1 x.1.2.1.2.1
abbrev aCz:RetK:=yr [.cell 4 39,.tmp 5] (yj [.agg Sn,.dat yi])
abbrev aEC{a b c d:Type}(r:a×b×c×d):=(((r.1,r.2.1,r.2.2.1,()),r.2.2.2,()),())
def aQE:FP prog:=aG cx func71 [aEX,VC,aCw] (yj [.agg Sn,.agg Nj]) [] [] (aAi TH) aCz aEC
def Bu(q:Y1)(n:List Y1)(r:Y1)(m:Int)(g f:List UInt8)(e:Int)(i:List UInt8):Tr (Int×(List UInt8)×(List UInt8)×Int×(List UInt8)×N2):=.c _ (H3 q n r m) λa=>.c _ (Oo q n r m g f e) λs=>.t (!s) (.l (a.1,g,f,e,([110,111]:List UInt8),a.2.1,a.2.2.1,a.2.2.2)) (.c _ (Uf i []) λu=>.t (!u) (.l (a.1,g,f,e,([98,97,100]:List UInt8),a.2.1,a.2.2.1,a.2.2.2)) (.t (e==60) (.l (a.1,g,f,e,([102,117,108,108]:List UInt8),a.2.1,a.2.2.1,a.2.2.2)) (.c _ (P1 q n r m i) λb=>.t ((200:Int)<(length b.2.2.2.2:Int)) (.c _ (Ct g f e i ([108,111,110,103]:List UInt8)) λp=>.c _ (H3 b.1 b.2.1 b.2.2.1 b.2.2.2.1) λh=>.l (h.1,p.1,p.2.1,p.2.2.1,([108,111,110,103]:List UInt8),h.2.1,h.2.2.1,h.2.2.2)) (.c _ (Ct g f e i b.2.2.2.2) λo=>.c _ (H3 b.1 b.2.1 b.2.2.1 b.2.2.2.1) λj=>.l (j.1,o.1,o.2.1,o.2.2.1,b.2.2.2.2,j.2.1,j.2.2.1,j.2.2.2)))))
def I9 g f i c e b h a:=(Bu g f i c e b h a).ev
abbrev aGl:RetK:=⟨[.pinB 4 0 3,.pinB 4 1 5,.pinB 4 2 8],[.cell 4 41,.tmp 5],(yj [.agg (yj [.arr 3,.arr 5,.arr 8,.dat yi,.dat .str,.dat .str,.dat yi]),.dat .str]),[(3,.arr 3 yi),(5,.rows 22 3 yi),(8,.arr 3 yi)],[],[]⟩
abbrev aEz{a b c d e g h i:Type}(r:a×b×c×d×e×g×h×i):=((((),(),(),r.1,r.2.1,r.2.2.1,r.2.2.2.1,()),r.2.2.2.2.1,()),r.2.2.2.2.2.1,r.2.2.2.2.2.2.1,r.2.2.2.2.2.2.2,())
def aLa:FP prog:=aG cx func26 [LN,aOW,VC,aSt,aQE] (yj [.agg Wj,.dat .str]) [] [] (Qw Bu) aGl aEz
def Tc(a:Y1):Option (List Int):=qQ a
def aTM:FD:=fdClone
theorem aQl:dV prog (116,aTM):=Dq
def CF:FP prog:=⟨_,aQl⟩
def DN(k:Y2×Int)(v:Int×Y2):Tr ((Int×Y2)⊕Y2):=.t (v.1<k.2) (.g (aB v.1 (length k.1))<|.c _ (Tc (getD k.1 (toNat v.1) [])) λa=>.g ((length v.2+1)*24<=140737488355328)<|.l (.inl ((wrap .i64 (v.1+1)),(set (v.2++ [[]]) (length v.2) a)))) (.l (.inr v.2))
def UA k v:=aC (λv=>(DN k v).ev) v
abbrev aLj:Keep:=yk [] [3,7,8,9] (yj [.arr 6,.dat y2,.dat yi,.dat yi]) [(6,.rows 22 3 yi)]
abbrev aGE:Keep:=yk [] [3] (yj [.arr 6]) [(6,.rows 22 3 yi)]
abbrev CE{a b c d:Type}(k:a×b)(v:c×d):=(((),k.1,k.2,v.1,()),v.2,())
def aKs:LD:=yl (DN) aLj [(0,aGE)] bC CE C6 Fj (λ_ r=>yx 0 aGE (((),()),r,()))
def BX(a:List Y1):Tr Y2:=.c _ (UA (a,(length a:Int)) (0,[])) λb=>.l b
def Vq a:=(BX a).ev
abbrev aJY:RetK:=⟨[.ren 6 0],[.tmp 2],zY,[(0,.rows 22 3 yi)],[],[]⟩
def aJd:FP prog:=aG cx func117 [CF] (yj [.dat y2]) [] [] (qH BX) aJY xJ (Fq [(1,[(0,[1000000])])]) [(0,aKs)]
def Yp(f:Y1)(e:List Y1)(i:Y1)(a:Int):Tr (Int×N2):=.c _ (Tc f) λg=>.c _ (Vq e) λb=>.c _ (Tc i) λh=>.l (a,g,b,h)
def Kb b a e c:=(Yp b a e c).ev
abbrev aJu:RetK:=⟨[.ren 384 3,.ren 640 4,.ren 896 5],[.cell 2 38],(yj [.agg (yj [.arr 3,.arr 4,.arr 5,.dat yi])]),[(3,.arr 3 yi),(4,.rows 22 3 yi),(5,.arr 3 yi)],[],[]⟩
def aBG:FP prog:=aG cx func61 [CF,aJd] (yj [.agg qC]) [] [] (G4 Yp) aJu Rm
def XO(a b c:Int):Tr Bool:=.t (b<=a) (.l (a<=c)) (.l false)
def Vu b a c:=(XO b a c).ev
def O8:FP prog:=aG cx func115 [] (yj [.dat yi,.dat yi,.dat yi]) [] [] (Nc XO) W3 bH
def wxi(k:Y1×((HL [yi]->Option Bool))×Int)(v:Int):Tr (Int⊕(Unit⊕Int)):=.t (v<k.2.2) (.g (aB v (length k.1))<|.c _ (k.2.1 ((getD k.1 (toNat v) 0),())) λa=>.t a (.l (.inr (.inr v))) (.l (.inl (wrap .i64 (v+1))))) (.l (.inr (.inl ())))
def aFc k v:=aC (λv=>(wxi k v).ev) v
abbrev aTF:Keep:=yh [0,1,7,8] (yj [.dat y1,.clo [yi] .bool,.dat yi,.dat yi])
def aTt:LD:=yl (wxi) aTF [(0,bC)] Aj W4 U3 qE (λ_ r=>.s _ _ r (λ_=>yx 0 bC ((),())) (λb=>yz Aj ((b,()),())))
def KZ(a:Y1)(e:(HL [yi]->Option Bool)):Tr Int:=.c _ (aFc (a,e,(length a:Int)) 0) λb=>.s _ _ b (λ_=>.l (-1)) (λf=>.l f)
def MR b a:=(KZ b a).ev
def aMR:FP prog:=aG cx func173 [] (yj [.dat y1,.clo [yi] .bool]) [] [] (kJ KZ) pG bH bU [(0,aTt)]
def FZ(b:Y1)(a:(HL [yi]->Option Bool)):Tr Bool:=.c _ (MR b a) λe=>.l (0<=e)
def DA b a:=(FZ b a).ev
def CP:FP prog:=aG cx func98 [aMR] (yj [.dat y1,.clo [yi] .bool]) [] [] (kJ FZ) rR bH
def OD(e b f:Int):Tr Bool:=.c _ (Vu e b f) λa=>.l (!a)
def aHK b a c:=(OD b a c).ev
abbrev aVZ{a b c d e g h:Type}{z:Type _}(f:a->b->d->z)(x:(a×(b×c)×(d×e)×g)×h):z:=f x.1.1 x.1.2.1.1 x.1.2.2.1.1
def aJF:FP prog:=aG cx func239 [O8] (yj [.dat yi,.ptr eN,.ptr eN]) [] [] (aVZ OD) rR bH
def XI(e:Y1)(b g:Int):Tr Bool:=.c _ (DA e (λa=>Option.bind (aHK a.1 b g) λh=>some h)) λf=>.l (!f)
def AQ b a c:=(XI b a c).ev
def aDP:FP prog:=aG cx func162 [CP,CP,aJF] (yj [.dat y1,.dat yi,.dat yi]) [] [] (Nc XI) W3 bH
def wxm(k:Y2×((HL [y1]->Option Bool))×Int)(v:Int):Tr (Int⊕(Unit⊕Int)):=.t (v<k.2.2) (.g (aB v (length k.1))<|.c _ (k.2.1 ((getD k.1 (toNat v) []),())) λa=>.t a (.l (.inr (.inr v))) (.l (.inl (wrap .i64 (v+1))))) (.l (.inr (.inl ())))
def aFG k v:=aC (λv=>(wxm k v).ev) v
abbrev aNT:Keep:=yh [0,1,7,8] (yj [.dat y2,.clo [y1] .bool,.dat yi,.dat yi])
def aNc:LD:=yl (wxm) aNT [(0,bC)] Aj W4 U3 qE (λ_ r=>.s _ _ r (λ_=>yx 0 bC ((),())) (λb=>yz Aj ((b,()),())))
def ME(a:List Y1)(e:(HL [y1]->Option Bool)):Tr Int:=.c _ (aFG (a,e,(length a:Int)) 0) λb=>.s _ _ b (λ_=>.l (-1)) (λf=>.l f)
def DH b a:=(ME b a).ev
def aGN:FP prog:=aG cx func235 [] (yj [.dat y2,.clo [y1] .bool]) [] [] (kJ ME) pG bH bU [(0,aNc)]
def EQ(b:List Y1)(a:(HL [y1]->Option Bool)):Tr Bool:=.c _ (DH b a) λe=>.l (0<=e)
def UY b a:=(EQ b a).ev
def aDX:FP prog:=aG cx func163 [aGN] (yj [.dat y2,.clo [y1] .bool]) [] [] (kJ EQ) rR bH
def TY(a b:Y1)(_f:List Y1):Tr Bool:=.t ((length a:Int) != (length b:Int)) (.l true) (.c _ (AQ a 0 99) λe=>.l (!e))
def GJ b a c:=(TY b a c).ev
abbrev CU:RetK:=yr [.tmp 3] (yj [.dat .bool])
def aOr:FP prog:=aG cx func164 [aDP] (yj [.dat y1,.ptr bR]) [] [] (QC TY) CU bH
def MO(b:Y1)(a:List Y1):Tr Bool:=.c _ (Vu (length b:Int) 1 7) λh=>.t h (.c _ (AQ b 0 99) λe=>.t e (.t ((length a:Int)<=(7:Int)) (.c _ (UY a (λf=>Option.bind (GJ f.1 b a) λi=>some i)) λg=>.l (!g)) (.l false)) (.l false)) (.l false)
def Ge b a:=(MO b a).ev
def s9:FP prog:=aG cx func92 [O8,aDP,aDX,aDX,aOr] (yj [.agg bR]) [] [] (g7 MO) qY bH
def wtk(k:Y1×Int×Y1×Int)(v:Int):Tr (Int⊕(Unit⊕Unit)):=.t (v<k.2.2.2) (.g (aB v (length k.2.2.1))<|.c _ (Vu (getD k.2.2.1 (toNat v) 0) 0 (wrap .i64 (k.2.1-1))) λa=>.t (!a) (.l (.inr (.inr ()))) (.t (0<v) (.g (aB (wrap .i64 (v-1)) (length k.1))<|.t ((getD k.2.2.1 (toNat v) 0)<=(getD k.1 (toNat (wrap .i64 (v-1))) 0)) (.l (.inr (.inr ()))) (.l (.inl (wrap .i64 (v+1))))) (.l (.inl (wrap .i64 (v+1)))))) (.l (.inr (.inl ())))
def aBM k v:=aC (λv=>(wtk k v).ev) v
abbrev aJc:Keep:=yh [0,1,7,8,9] (yj [.dat y1,.dat yi,.dat y1,.dat yi,.dat yi])
abbrev aEh{a b c d e:Type}(k:a×b×c×d)(v:e):=((k.1,k.2.1,k.2.2.1,k.2.2.2,v,()),())
abbrev aFa{a b c d e g:Type}(t:(a×b×c×d×e)×g):=(t.1.1,t.1.2.1,t.1.2.2.1,t.1.2.2.2.1)
def aRQ:LD:=yl (wtk) aJc [(0,bC)] nB aEh aFa Ph (λ_ r=>.s _ _ r (λ_=>yx 0 bC ((),())) (λ_=>yz nB ((false,()),())))
def VP(a:Y1)(b:Int):Tr Bool:=.c _ (aBM (a,b,a,(length a:Int)) 0) λe=>.s _ _ e (λ_=>.l true) (λ_=>.l false)
def Ym b a:=(VP b a).ev
def aAP:FP prog:=aG cx func114 [O8] (yj [.dat y1,.dat yi]) [] [] (kJ VP) rR bH bU [(0,aRQ)]
def KL(a:Y1)(f:List Y1)(i:Y1)(b:Int):Tr Bool:=.c _ (Ge a f) λg=>.t g (.c _ (Ym i (length a:Int)) λe=>.t e (.c _ (Vu b 0 1000) λh=>.l h) (.l false)) (.l false)
def vP b a e c:=(KL b a e c).ev
def NZ:FP prog:=aG cx func60 [s9,aAP,O8] (yj [.agg qC]) [] [] (G4 KL) qY bH
def bN(b:List UInt8)(a:Int):Option Int:=some (jD b a)
def whg:FD:=wF
theorem wgx:dV prog (297,whg):=yQ func297 (by kernel_rfl) (by kernel_rfl) (by kernel_rfl) (by kernel_rfl)
def whm:FP prog:=⟨_,wgx⟩
def bD(b:List UInt8)(a:Int):Tr Int:=.c _ (bN b a) λe=>.l e
def bE b a:=(bD b a).ev
def wgq:FP prog:=aG cx func216 [whm] (yj [.dat .str,.dat (.int .u8)]) [] [] (kJ bD) pG bH
def IV(b:List UInt8)(a:Int):Tr Int:=.c _ (bE b a) λe=>.l e
def BG b a:=(IV b a).ev
def aVi:FP prog:=aG cx func140 [wgq] (yj [.dat .str,.dat (.int .u8)]) [] [] (kJ IV) pG bH
def cI(b a:List UInt8):Tr Int:=.t ((length a:Int)==(0:Int)) (.l 0) (.t (a==b) (.l 0) (.t ((length a:Int)==(1:Int)) (.g (aB 0 (length a))<|.c _ (bE b ((UInt8.toNat (getD a (toNat 0) 0):Nat):Int)) λe=>.l e) (.g ((length b:Int)<=(length a:Int))<|.l (-1))))
def bA b a:=(cI b a).ev
def wgs:FP prog:=aG cx func263 [wgq] Nj [] [] (kJ cI) pG bH
def cS(a e:List UInt8):Tr ((List UInt8)×Lx):=.c _ (bA a e) λb=>.t (0<=b) (.g ((0<=b)&&(b<=(length a:Int)))<|.g (((0:Int)<=(wrap .i64 (b+(length e:Int))))&&((wrap .i64 (b+(length e:Int)))<=(length a:Int)))<|.l ((List.drop 0 (List.take (toNat b) a)),(List.drop (toNat (wrap .i64 (b+(length e:Int)))) (List.take (length a) a)),true)) (.l (a,[],false))
def dZ b a:=(cS b a).ev
abbrev aGf:RetK:=yr [.tmp 4,.tmp 5,.tmp 6] (yj [.dat .str,.dat .str,.dat .bool])
abbrev KV{a b c:Type}(r:a×b×c):=((r.1,r.2.1,r.2.2,()),())
def wjx:FP prog:=aG cx func217 [wgs] Nj [] [] (kJ cS) aGf KV
def NF(e b:List UInt8):Tr ((List UInt8)×Lx):=.c _ (dZ e b) λa=>.l (a.1,a.2.1,a.2.2)
def J5 b a:=(NF b a).ev
def aAq:FP prog:=aG cx func142 [wjx] Nj [] [] (kJ NF) aGf KV
def NQ(b a:List UInt8):Tr Int:=.c _ (bA b a) λe=>.l e
def aGb b a:=(NQ b a).ev
def aKF:FP prog:=aG cx func187 [wgs] Nj [] [] (kJ NQ) pG bH
def QH(b a:List UInt8):Tr Bool:=.c _ (aGb b a) λe=>.l (0<=e)
def V0 b a:=(QH b a).ev
def aGh:FP prog:=aG cx func126 [aKF] Nj [] [] (kJ QH) rR bH
def wxn(k:(List UInt8)×Int)(v:Int×Int):Tr (iC⊕Int):=.t (v.2<k.2) (.g (aB v.2 (length k.1))<|.g (!decide ((999979:Int)=0))<|.l (.inl ((Int.tmod (wrap .i64 ((wrap .i64 ((wrap .i64 ((41:Int)*v.1))+(wrap .i64 ((UInt8.toNat (getD k.1 (toNat v.2) 0):Nat):Int))))+1)) 999979),(wrap .i64 (v.2+1))))) (.l (.inr v.1))
def aDc k v:=aC (λv=>(wxn k v).ev) v
abbrev aVR:Keep:=yh [0,3,6,7] (yj [.dat .str,.dat yi,.dat yi,.dat yi])
abbrev aWb{a b c d:Type}(k:a×b)(v:c×d):=((k.1,v.1,k.2,v.2,()),())
abbrev aNi{a b c d e g:Type}(t:(a×b×c×d×e)×g):=(t.1.2.1,t.1.2.2.2.1)
def aNS:LD:=yl (wxn) aVR [(0,qB)] bC aWb aEy aNi (λ_ r=>yx 0 qB ((r,()),()))
def PB(a:List UInt8):Tr Int:=.c _ (aDc (a,(length a:Int)) (7,0)) λb=>.l b
def VJ a:=(PB a).ev
def aTf:FP prog:=aG cx func277 [] (yj [.dat .str]) [] [] (qH PB) wR bH bU [(0,aNS)]
def Y0(a:Int):Option (List UInt8):=A8 a
def aME:FD:=Oh
theorem aSz:dV prog (176,aME):=Kg
def Vt:FP prog:=⟨_,aSz⟩
def Hy(a:List UInt8):Tr Lx:=.t ((4000:Int)<(length a:Int)) (.l ([],false)) (.c _ (V0 a ([35]:List UInt8)) λf=>.t f (.l ([],false)) (.g (length a+length ([35]:List UInt8)<=9223372036854775807)<|.c _ (VJ a) λe=>.c _ (Y0 e) λb=>.g (length (a++([35]:List UInt8))+length b<=9223372036854775807)<|.t ((4000:Int)<(length ((a++([35]:List UInt8))++b):Int)) (.l ([],false)) (.l (((a++([35]:List UInt8))++b),true))))
def L0 a:=(Hy a).ev
abbrev IR:RetK:=yr [.tmp 2,.tmp 3] (yj [.dat .str,.dat .bool])
def aBy:FP prog:=aG cx func207 [aGh,aTf,Vt] (yj [.dat .str]) [] [] (qH Hy) IR uE
def HZ(b:List UInt8):Tr Lx:=.c _ (J5 b ([35]:List UInt8)) λe=>.c _ (L0 e.1) λa=>.t (!a.2) (.l ([],false)) (.t (!(a.1==b)) (.l ([],false)) (.l (e.1,true)))
def KH a:=(HZ a).ev
def aPv:FP prog:=aG cx func141 [aAq,aBy] (yj [.dat .str]) [] [] (qH HZ) IR uE
def wxo(k:(List UInt8)×iC)(v:Int):Tr (Int⊕(Unit⊕Unit)):=.t (v<k.2.2) (.g (aB v (length k.1))<|.t (((UInt8.toNat (getD k.1 (toNat v) 0):Nat):Int)<(32:Int)) (.l (.inr (.inr ()))) (.g (aB v (length k.1))<|.t ((126:Int)<((UInt8.toNat (getD k.1 (toNat v) 0):Nat):Int)) (.l (.inr (.inr ()))) (.g (aB v (length k.1))<|.t (((UInt8.toNat (getD k.1 (toNat v) 0):Nat):Int)==(35:Int)) (.l (.inr (.inr ()))) (.l (.inl (wrap .i64 (v+1))))))) (.l (.inr (.inl ())))
def aCx k v:=aC (λv=>(wxo k v).ev) v
abbrev aVC:Keep:=yh [0,1,7,8] (yj [.dat .str,.dat yi,.dat yi,.dat yi])
def aLQ:LD:=yl (wxo) aVC [(0,Xz)] nB W4 U3 qE (λk r=>.s _ _ r (λ_=>yx 0 Xz ((k.1,k.2.1,()),())) (λ_=>yz nB ((false,()),())))
def OA(a:List UInt8)(b:Int):Tr Bool:=.c _ (aCx (a,b,(length a:Int)) 0) λe=>.s _ _ e (λ_=>.l ((length a:Int)<=b)) (λ_=>.l false)
def Wv b a:=(OA b a).ev
def aKu:FP prog:=aG cx func125 [] (yj [.dat .str,.dat yi]) [] [] (kJ OA) rR bH bU [(0,aLQ)]
def IM(a e:List UInt8):Tr Bool:=.t (!(a==([]:List UInt8))) (.c _ (Wv a 160) λf=>.t f (.c _ (Wv e 200) λb=>.t b (.c _ (V0 a ([64]:List UInt8)) λg=>.l (!g)) (.l false)) (.l false)) (.l false)
def Um b a:=(IM b a).ev
def SA:FP prog:=aG cx func66 [aKu,aGh] (yj [.agg Nj]) [] [] (g7 IM) qY bH
def XF(h:Int)(a f:List UInt8):Tr Lx:=.c _ (Vu h 0 59) λj=>.t (!j) (.l ([],false)) (.c _ (Um a f) λi=>.t (!i) (.l ([],false)) (.c _ (Y0 h) λb=>.g (length b+length ([32]:List UInt8)<=9223372036854775807)<|.g (length (b++([32]:List UInt8))+length a<=9223372036854775807)<|.g (length ((b++([32]:List UInt8))++a)+length ([64]:List UInt8)<=9223372036854775807)<|.g (length (((b++([32]:List UInt8))++a)++([64]:List UInt8))+length f<=9223372036854775807)<|.c _ (L0 ((((b++([32]:List UInt8))++a)++([64]:List UInt8))++f)) λe=>.g (length e.1+length ([10]:List UInt8)<=9223372036854775807)<|.l ((e.1++([10]:List UInt8)),e.2)))
def Xs b a c:=(XF b a c).ev
abbrev BQ:RetK:=yr [.tmp 4,.tmp 5] (yj [.dat .str,.dat .bool])
def aCE:FP prog:=aG cx func131 [O8,SA,Vt,aBy] (yj [.dat yi,.agg Nj]) [] [] (QC XF) BQ uE
def HF(k:List UInt8)(v:Int×(List Hg)):Tr ((Int×(List Hg))⊕(Int×(List Hg))):=.g ((0<=v.1)&&(v.1<=(length k:Int)))<|.c _ (BG (List.drop (toNat v.1) (List.take (length k) k)) 10) λa=>.t (a<0) (.l (.inr (v.1,v.2))) (.g ((0<=v.1)&&(v.1<=(wrap .i64 ((wrap .i64 (v.1+a))+1)))&&((wrap .i64 ((wrap .i64 (v.1+a))+1))<=(length k:Int)))<|.g ((0<=a)&&(a<=(length (List.drop (toNat v.1) (List.take (toNat (wrap .i64 ((wrap .i64 (v.1+a))+1))) k)):Int)))<|.c _ (KH (List.drop 0 (List.take (toNat a) (List.drop (toNat v.1) (List.take (toNat (wrap .i64 ((wrap .i64 (v.1+a))+1))) k))))) λh=>.c _ (J5 h.1 ([32]:List UInt8)) λf=>.c _ (J5 f.2.1 ([64]:List UInt8)) λb=>.c _ (Xs (length v.2:Int) b.1 b.2.1) λe=>.t (!e.2) (.l (.inr (v.1,v.2))) (.t (!(e.1==(List.drop (toNat v.1) (List.take (toNat (wrap .i64 ((wrap .i64 (v.1+a))+1))) k)))) (.l (.inr (v.1,v.2))) (.g ((length v.2+length ([(b.1,b.2.1)]:List Hg))*32<=140737488355328)<|.l (.inl ((wrap .i64 ((wrap .i64 (v.1+a))+1)),(v.2++([(b.1,b.2.1)]:List Hg)))))))
def aCD k v:=aC (λv=>(HF k v).ev) v
abbrev aJH:Keep:=yk [] [0,4,5] (yj [.dat .str,.arr 19,.dat yi]) [(19,.arr 63 (.pair .str .str))]
abbrev aHq:Keep:=yk [] [2,3] (yj [.arr 19,.dat yi]) [(19,.arr 63 (.pair .str .str))]
def aOf:LD:=yl (HF) aJH [] aHq Ec R2 Eo (λ_ r=>yz aHq (((),r.1,()),r.2,()))
def IF(b:List UInt8):Tr (Int×(List Hg)):=.c _ (aCD b (0,([]:List Hg))) λa=>.l (a.1,a.2)
def Xn a:=(IF a).ev
abbrev aSk:RetK:=⟨[.ren 19 0],[.tmp 2,.tmp 3],(yj [.arr 0,.dat yi]),[(0,.arr 63 (.pair .str .str))],[],[]⟩
def aPw:FP prog:=aG cx func74 [aVi,aPv,aAq,aCE] (yj [.dat .str]) [] [] (qH IF) aSk qD bU [(0,aOf)]
def QI(a b:List UInt8)(h:Int):Tr Bool:=.g (length a+length b<=9223372036854775807)<|.t ((30000:Int)<(length (a++b):Int)) (.l false) (.c _ (Xn (a++b)) λe=>.c _ (Xn a) λf=>.t (e.1==(length (a++b):Int)) (.t (f.1==(length a:Int)) (.l (h==(length e.2:Int))) (.l false)) (.l false))
def DF b a c:=(QI b a c).ev
def aDt:FP prog:=aG cx func72 [aPw] (yj [.agg Sn]) [] [] (YP QI) qY bH
def Zi(h:Y1)(g:List Y1)(m:Y1)(b:Int)(f a:List UInt8)(i:Int):Tr Bool:=.c _ (vP h g m b) λj=>.t j (.c _ (DF f a i) λe=>.l e) (.l false)
def Tt f e h b c a g:=(Zi f e h b c a g).ev
def aRb:FP prog:=aG cx func28 [NZ,aDt] (yj [.agg Wj]) [] [] (QD Zi) qY bH
def VS(b a:List UInt8):Option (List (List UInt8)):=yE b a
def aOt:FD:=Fk
theorem aLC:dV prog (55,aOt):=Ap
def aLR:FP prog:=⟨_,aLC⟩
def MY(a:List UInt8):Option (Int×Bool):=xX a
def aLw:FD:=G6
theorem aJO:dV prog (127,aLw):=Db
def aWw:FP prog:=⟨_,aJO⟩
def YU(k:(List (List UInt8))×(List UInt8)×Int)(v:Int):Tr (Int⊕(Unit⊕Int)):=.t (v<k.2.2) (.g (aB v (length k.1))<|.t (k.2.1==(getD k.1 (toNat v) [])) (.l (.inr (.inr v))) (.l (.inl (wrap .i64 (v+1))))) (.l (.inr (.inl ())))
def MS k v:=aC (λv=>(YU k v).ev) v
abbrev aMF:Keep:=yh [0,1,7,8] (yj [.dat (.slice .str),.dat .str,.dat yi,.dat yi])
def aTQ:LD:=yl (YU) aMF [(0,bC)] Aj W4 U3 qE (λ_ r=>.s _ _ r (λ_=>yx 0 bC ((),())) (λb=>yz Aj ((b,()),())))
def aAt(a:List (List UInt8))(e:List UInt8):Tr Int:=.c _ (MS (a,e,(length a:Int)) 0) λb=>.s _ _ b (λ_=>.l (-1)) (λf=>.l f)
def aRM b a:=(aAt b a).ev
def aQU:FP prog:=aG cx func192 [] (yj [.dat (.slice .str),.dat .str]) [] [] (kJ aAt) pG bH bU [(0,aTQ)]
def aEj(a:List UInt8):Tr Int:=.c _ (aRM ([[],([111,112,101,110]:List UInt8),([99,108,111,115,101]:List UInt8),([115,119,97,112]:List UInt8),([99,111,115,116]:List UInt8),([108,101,110,103,116,104]:List UInt8),([115,105,116,101]:List UInt8),([99,108,105,101,110,116]:List UInt8),([100,114,111,112,115,105,116,101]:List UInt8),([100,114,111,112,99,108,105,101,110,116]:List UInt8),([105,109,112,114,111,118,101]:List UInt8),([98,101,115,116]:List UInt8)]:List (List UInt8)) a) λb=>.l b
def Ni a:=(aEj a).ev
def aVK:FP prog:=aG cx func128 [aQU] (yj [.dat .str]) [] [] (qH aEj) wR bH
noncomputable abbrev aBz(p1 p2:Int):=(.t (p1==p2) (.l (2,false,true)) (.t (p1==5) (.l (3,false,true)) (.t (p1==6) (.l (1,true,true)) (.t (p1==7) (.l (0,true,true)) (.t (p1==10) (.t (p1==10) (.l (0,false,true)) (.l (0,false,false))) (.t (p1==11) (.l (0,false,true)) (.l (0,false,false))))))):Tr (Int×Bool×Bool))
noncomputable abbrev AS(p1 p2:Int):=(.t (p1==p2) (.l (1,false,true)) (.t (p1==3) (aBz p1 3) (aBz p1 4)):Tr (Int×Bool×Bool))
def CD(a:Int):Tr (Int×Bool×Bool):=.t (a==1) (AS a 1) (.t (a==2) (AS a 2) (.t (a==8) (AS a 8) (AS a 9)))
def wP a:=(CD a).ev
abbrev aSo:RetK:=yr [.tmp 2,.tmp 3,.tmp 4] (yj [.dat yi,.dat .bool,.dat .bool])
def wcwx:FP prog:=aG cx func193 [] eN [] [] (qH CD) aSo KV
def IX(h g f e:Int)(b:Y1):Tr Bool:=.c _ (wP h) λa=>.t a.2.2 (.t (0<a.1) (.t (1<a.1) (.t (2<a.1) (.t a.2.1 (.l true) (.l ((length b:Int)==(0:Int)))) (.t (e==0) (.t a.2.1 (.l true) (.l ((length b:Int)==(0:Int)))) (.l false))) (.t (f==0) (.t (2<a.1) (.t a.2.1 (.l true) (.l ((length b:Int)==(0:Int)))) (.t (e==0) (.t a.2.1 (.l true) (.l ((length b:Int)==(0:Int)))) (.l false))) (.l false))) (.t (g==0) (.t (1<a.1) (.t (2<a.1) (.t a.2.1 (.l true) (.l ((length b:Int)==(0:Int)))) (.t (e==0) (.t a.2.1 (.l true) (.l ((length b:Int)==(0:Int)))) (.l false))) (.t (f==0) (.t (2<a.1) (.t a.2.1 (.l true) (.l ((length b:Int)==(0:Int)))) (.t (e==0) (.t a.2.1 (.l true) (.l ((length b:Int)==(0:Int)))) (.l false))) (.l false))) (.l false))) (.l false)
def TR e c f a b:=(IX e c f a b).ev
def aIQ:FP prog:=aG cx func266 [wcwx] (yj [.agg EC]) [] [] (Qt IX) qY bH
def wxp(k:Y1×Int)(v:Int×Int):Tr (iC⊕Int):=.t (v.2<k.2) (.g (aB v.2 (length k.1))<|.g ((0:Int)<=(getD k.1 (toNat v.2) 0))<|.l (.inl ((wrap .u64 (BitVec.toNat ((BitVec.ofInt bK v.1)||| (BitVec.ofInt bK (wrap .u64 ((1:Int)*2^(min (toNat (getD k.1 (toNat v.2) 0)) bK))))))),(wrap .i64 (v.2+1))))) (.l (.inr v.1))
def aFI k v:=aC (λv=>(wxp k v).ev) v
abbrev aNP:Keep:=yh [3,6,7,8] (yj [.dat (.int .u64),.dat y1,.dat yi,.dat yi])
abbrev aCj:Keep:=yh [3] (yj [.dat (.int .u64)])
abbrev aEu{a b c d:Type}(k:a×b)(v:c×d):=((v.1,k.1,k.2,v.2,()),())
abbrev aGz{a b c d e g:Type}(t:(a×b×c×d×e)×g):=(t.1.1,t.1.2.2.2.1)
def aOC:LD:=yl (wxp) aNP [(0,aCj)] bC aEu C6 aGz (λ_ r=>yx 0 aCj ((r,()),()))
def FF(a:Y1):Tr Int:=.c _ (aFI (a,(length a:Int)) (0,0)) λb=>.l b
def Se a:=(FF a).ev
abbrev aEW:RetK:=yr [.tmp 2] (yj [.dat (.int .u64)])
def wbpp:FP prog:=aG cx func231 [] N1 [] [] (qH FF) aEW bH bU [(0,aOC)]
def HS(b:Int)(a:Y1)(_f:List Y1)(_g:Y1)(_h:Int):Tr Bool:=.c _ (Vu b 0 (wrap .i64 ((length a:Int) -1))) λe=>.l e
def I4 e c f a b:=(HS e c f a b).ev
abbrev aRo{a b c d e g h i:Type}{z:Type _}(f:a->b->c->d->e->z)(x:(a×(b×c×d×e×g)×h)×i):z:=f x.1.1 x.1.2.1.1 x.1.2.1.2.1 x.1.2.1.2.2.1 x.1.2.1.2.2.2.1
def aWz:FP prog:=aG cx func267 [O8] (yj [.dat yi,.ptr qC]) [] [] (aRo HS) CU bH
def aEv(b a:Int):Tr Bool:=.g (0<=a)<|.l ((wrap .u64 (BitVec.toNat ((BitVec.ofInt bK (Int.fdiv b (2^(min (toNat a) bK))))&&& (BitVec.ofInt bK 1))))==(1:Int))
def Ou b a:=(aEv b a).ev
def wbpq:FP prog:=aG cx func232 [] (yj [.dat (.int .u64),.dat yi]) [] [] (kJ aEv) rR bH
def aEB(k:Int)(v:Int×Y1):Tr (gI⊕Y1):=.g (0<=v.1)<|.t ((0:Int)<(Int.fdiv k (2^(min (toNat v.1) bK)))) (.c _ (Ou k v.1) λa=>.t a (.g ((length v.2+length ([v.1]:Y1))*8<=140737488355328)<|.l (.inl ((wrap .i64 (v.1+1)),(v.2++([v.1]:Y1))))) (.l (.inl ((wrap .i64 (v.1+1)),v.2)))) (.l (.inr v.2))
def aMu k v:=aC (λv=>(aEB k v).ev) v
abbrev aUq:Keep:=yk [] [0,3,4] (yj [.dat (.int .u64),.arr 5,.dat yi]) [(5,.arr 3 yi)]
abbrev aFN:Keep:=yk [] [3] (yj [.arr 5]) [(5,.arr 3 yi)]
def aRy:LD:=yl (aEB) aUq [(0,aFN)] bC Ec R2 Eo (λ_ r=>yx 0 aFN (((),()),r,()))
def aBE(b:Int):Tr Y1:=.c _ (aMu b (0,[])) λa=>.l a
def Rp a:=(aBE a).ev
abbrev aNR:RetK:=⟨[.ren 5 0],[.tmp 2],zY,[rS],[],[]⟩
def wapv:FP prog:=aG cx func233 [wbpq] (yj [.dat (.int .u64)]) [] [] (qH aBE) aNR xJ bU [(0,aRy)]
def PF(f:Y1)(a b:Int):Tr Y1:=.c _ (Se f) λh=>.g (0<=a)<|.g (0<=b)<|.c _ (Rp (wrap .u64 (BitVec.toNat ((BitVec.ofInt bK (wrap .u64 (BitVec.toNat ((BitVec.ofInt bK h)&&& ~~~(BitVec.ofInt bK (wrap .u64 ((1:Int)*2^(min (toNat a) bK))))))))||| (BitVec.ofInt bK (wrap .u64 ((1:Int)*2^(min (toNat b) bK)))))))) λe=>.l e
def BM b a c:=(PF b a c).ev
abbrev aPt:RetK:=⟨[.ren 960 0],[.tmp 6],zY,[rS],[],[]⟩
def wcmu:FP prog:=aG cx func234 [wbpp,wapv] (yj [.dat y1,.dat yi,.dat yi]) [] [] (Nc PF) aPt xJ
def BT(b c:Int)(a:Y1):Option (List Int):=w6 b c a
def aNe:FD:=fdDelI
theorem aON:dV prog (268,aNe):=Nf
def aRP:FP prog:=⟨_,aON⟩
def aER(b c:Int)(a:List Y1):Option (List (List Int)):=w6 b c a
def aMH:FD:=fdDelR
theorem aIS:dV prog (269,aMH):=Ir
def aQV:FP prog:=⟨_,aIS⟩
def KR(e:Y1)(_f:List Y1)(a:Y1):Tr Bool:=.t ((0:Int)<(length a:Int)) (.c _ (Ym a (length e:Int)) λb=>.l b) (.l false)
def aBe b a c:=(KR b a c).ev
def aSj:FP prog:=aG cx func152 [aAP] (yj [.agg bR,.dat y1]) [] [] (jB KR) rR bH
def WT(b:Y1)(a:List Y1)(g:Y1):Tr Bool:=.c _ (Ge b a) λf=>.t f (.c _ (aBe b a g) λe=>.l e) (.l false)
def W6 b a c:=(WT b a c).ev
def Kc:FP prog:=aG cx func85 [s9,aSj] (yj [.agg bR,.dat y1]) [] [] (jB WT) rR bH
def wxt(k:Y1×o7)(v:Int×Int):Tr (iC⊕Int):=.t (v.2<k.2.1) (.g (aB v.2 (length k.1))<|.g (aB (getD k.1 (toNat v.2) 0) (length k.2.2.1))<|.l (.inl ((wrap .i64 (v.1+(getD k.2.2.1 (toNat (getD k.1 (toNat v.2) 0)) 0))),(wrap .i64 (v.2+1))))) (.l (.inr v.1))
def aGA k v:=aC (λv=>(wxt k v).ev) v
abbrev aMo:Keep:=yk [] [2,5,8,9,10] (yj [.box 2 0,.dat yi,.dat y1,.dat yi,.dat yi]) [xF]
abbrev aNC{a b c d e g:Type}(k:a×b×c×d)(v:e×g):=(((),v.1,k.1,k.2.1,v.2,()),(k.2.2.1,k.2.2.2,()),())
abbrev aHj{a b c d e g h i j:Type}(t:(a×b×c×d×e)×(g×h×i)×j):=(t.1.2.2.1,t.1.2.2.2.1,t.2.1.1,t.2.1.2.1)
abbrev aVS{a b c d e g h:Type}(t:(a×b×c×d×e×g)×h):=(t.1.2.1,t.1.2.2.2.2.1)
def aWc:LD:=yl (wxt) aMo [(0,Nn)] bC aNC aHj aVS (λ_ r=>yx 0 Nn ((r,()),()))
def VY(f:Y1)(e:List Y1)(a:Y1):Tr Int:=.c _ (aGA (a,(length a:Int),f,e) (0,0)) λb=>.l b
def LB b a c:=(VY b a c).ev
def aSF:FP prog:=aG cx func229 [] (yj [.agg bR,.dat y1]) [] [] (jB VY) pG bH bU [(0,aWc)]
def wxu(k:Int×Y1×o7)(v:Int×Int):Tr (iC⊕Int):=.t (v.2<k.2.2.1) (.g (aB v.2 (length k.2.1))<|.g (aB k.1 (length k.2.2.2.2))<|.g (aB (getD k.2.1 (toNat v.2) 0) (length (getD k.2.2.2.2 (toNat k.1) [])))<|.g (aB k.1 (length k.2.2.2.2))<|.g (aB v.1 (length (getD k.2.2.2.2 (toNat k.1) [])))<|.t ((getD (getD k.2.2.2.2 (toNat k.1) []) (toNat (getD k.2.1 (toNat v.2) 0)) 0)<(getD (getD k.2.2.2.2 (toNat k.1) []) (toNat v.1) 0)) (.l (.inl ((getD k.2.1 (toNat v.2) 0),(wrap .i64 (v.2+1))))) (.l (.inl (v.1,(wrap .i64 (v.2+1)))))) (.l (.inr v.1))
def aHa k v:=aC (λv=>(wxu k v).ev) v
abbrev aIh:Keep:=yk [] [1,3,7,13,14,15] (yj [.dat yi,.box 3 0,.dat yi,.dat y1,.dat yi,.dat yi]) [(3,.cells bR)]
abbrev aIv{a b c d e g h:Type}(k:a×b×c×d×e)(v:g×h):=((k.1,(),v.1,k.2.1,k.2.2.1,v.2,()),(k.2.2.2.1,k.2.2.2.2,()),())
abbrev aQQ{a b c d e g h i j l:Type}(t:(a×b×c×d×e×g)×(h×i×j)×l):=(t.1.1,t.1.2.2.2.1,t.1.2.2.2.2.1,t.2.1.1,t.2.1.2.1)
abbrev SX{a b c d e g h i:Type}(t:(a×b×c×d×e×g×h)×i):=(t.1.2.2.1,t.1.2.2.2.2.2.1)
def aVg:LD:=yl (wxu) aIh [(0,u6)] bC aIv aQQ SX (λ_ r=>yx 0 u6 ((r,()),()))
def WL(f:Y1)(e:List Y1)(h:Int)(a:Y1):Tr Int:=.g (aB 0 (length a))<|.c _ (aHa (h,a,(length a:Int),f,e) ((getD a (toNat 0) 0),0)) λb=>.l b
def IP b a e c:=(WL b a e c).ev
def aQc:FP prog:=aG cx func308 [] (yj [.agg bR,.dat yi,.dat y1]) [] [] (H2 WL) Bt bH bU [(0,aVg)]
def wxv(k:Y1×o7)(v:Int×Y1):Tr (gI⊕Y1):=.t (v.1<k.2.1) (.c _ (IP k.2.2.1 k.2.2.2 v.1 k.1) λa=>.g ((length v.2+length ([a]:Y1))*8<=140737488355328)<|.l (.inl ((wrap .i64 (v.1+1)),(v.2++([a]:Y1))))) (.l (.inr v.2))
def aAr k v:=aC (λv=>(wxv k v).ev) v
abbrev aMU:Keep:=yk [] [1,2,5,10,11] (yj [.dat y1,.box 2 0,.arr 7,.dat yi,.dat yi]) [xF,(7,.arr 3 yi)]
abbrev aUK{a b c d e g:Type}(k:a×b×c×d)(v:e×g):=((k.1,(),(),k.2.1,v.1,()),(k.2.2.1,k.2.2.2,()),v.2,())
abbrev aSl{a b c d e g h i j:Type}(t:(a×b×c×d×e)×(g×h×i)×j):=(t.1.1,t.1.2.2.2.1,t.2.1.1,t.2.1.2.1)
abbrev Xy{a b c d e g h i j:Type}(t:(a×b×c×d×e×g)×h×i×j):=(t.1.2.2.2.2.1,t.2.2.1)
def aUE:LD:=yl (wxv) aMU [(0,Lh)] bC aUK aSl Xy (λ_ r=>yx 0 Lh (((),()),r,()))
def UK(e:Y1)(a:List Y1)(f:Y1):Tr Y1:=.c _ (aAr (f,(length a:Int),e,a) (0,[])) λb=>.l b
def AC b a c:=(UK b a c).ev
def aGS:FP prog:=aG cx func230 [aQc] (yj [.agg bR,.dat y1]) [] [] (jB UK) QO xJ bU [(0,aUE)]
def wxx(k:Int×N2)(v:Int×Y1):Tr (gI⊕Y1):=.t (v.1<k.1) (.g (aB v.1 (length k.2.2.2))<|.g ((toNat v.1)<length k.2.2.2)<|.g (aB v.1 (length k.2.2.1))<|.g (aB (getD k.2.2.2 (toNat v.1) 0) (length (getD k.2.2.1 (toNat v.1) [])))<|.g ((length v.2+length ([(getD (getD k.2.2.1 (toNat v.1) []) (toNat (getD k.2.2.2 (toNat v.1) 0)) 0)]:Y1))*8<=140737488355328)<|.l (.inl ((wrap .i64 (v.1+1)),(v.2++([(getD (getD k.2.2.1 (toNat v.1) []) (toNat (getD k.2.2.2 (toNat v.1) 0)) 0)]:Y1))))) (.l (.inr v.2))
def aCu k v:=aC (λv=>(wxx k v).ev) v
abbrev aWj:Keep:=yk [] [2,5,11,12,13] (yj [.box 2 0,.arr 8,.arr 704,.dat yi,.dat yi]) [xF,(8,.arr 3 yi),(704,.arr 3 yi)]
abbrev aDl:Keep:=yk [] [5] (yj [.arr 8]) [(8,.arr 3 yi)]
abbrev aNv{a b c d e g:Type}(k:a×b×c×d)(v:e×g):=(((),(),(),k.1,v.1,()),(k.2.1,k.2.2.1,()),v.2,k.2.2.2,())
abbrev aLo{a b c d e g h i j l m:Type}(t:(a×b×c×d×e)×(g×h×i)×j×l×m):=(t.1.2.2.2.1,t.2.1.1,t.2.1.2.1,t.2.2.2.1)
def aRt:LD:=yl (wxx) aWj [(0,aDl)] bC aNv aLo Xy (λ_ r=>yx 0 aDl (((),()),r,()))
def XD(b:Y1)(a:List Y1)(g:Y1):Tr Y1:=.c _ (AC b a g) λe=>.c _ (aCu ((length e:Int),b,a,e) (0,[])) λf=>.l f
def Yd b a c:=(XD b a c).ev
abbrev aNZ:RetK:=⟨[.ren 8 0],[.tmp 4],zY,[rS],[],[]⟩
def aFs:FP prog:=aG cx func154 [aGS] (yj [.agg bR,.dat y1]) [] [] (jB XD) aNZ xJ bU [(0,aRt)]
def DP(k:Y1×Int)(v:Int×Int):Tr (iC⊕Int):=.t (v.2<k.2) (.g (aB v.2 (length k.1))<|.l (.inl ((wrap .i64 (v.1+(getD k.1 (toNat v.2) 0))),(wrap .i64 (v.2+1))))) (.l (.inr v.1))
def RF k v:=aC (λv=>(DP k v).ev) v
abbrev aGU:Keep:=yh [3,6,7,8] (yj [.dat yi,.dat y1,.dat yi,.dat yi])
def aTH:LD:=yl (DP) aGU [(0,qB)] bC aEu C6 aGz (λ_ r=>yx 0 qB ((r,()),()))
def AZ(a:Y1):Tr Int:=.c _ (RF (a,(length a:Int)) (0,0)) λb=>.l b
def Le a:=(AZ a).ev
def aCF:FP prog:=aG cx func238 [] N1 [] [] (qH AZ) wR bH bU [(0,aTH)]
def SB(e:Y1)(b:List Y1)(g:Y1):Tr Int:=.c _ (Yd e b g) λf=>.c _ (Le f) λa=>.l a
def Cz b a c:=(SB b a c).ev
def LA:FP prog:=aG cx func160 [aFs,aCF] (yj [.agg bR,.dat y1]) [] [] (jB SB) pG bH
def JR(b:Y1)(a:List Y1)(e:Y1):Tr Int:=.c _ (LB b a e) λg=>.c _ (Cz b a e) λf=>.l (wrap .i64 (g+f))
def Nz b a c:=(JR b a c).ev
def wavt:FP prog:=aG cx func151 [aSF,LA] (yj [.agg bR,.dat y1]) [] [] (jB JR) pG bH
def LW(a e:Y1)(f:List Y1)(b:Int):Tr ((Y1×N0)⊕(Y1×N0)):=.c _ (Nz e f a) λh=>.t (h<b) (.g (0<length a)<|.l (.inr (a,e,f,b))) (.l (.inl (a,e,f,b)))
def Lz b a e c:=(LW b a e c).ev
def aKS:RetK:= {acts:=[],res:=[.tmp 5],sh:=(yj [.dat .bool]),obs:=[mS,(65,.cells bR),(66,.cells eN),(67,.cells (yj [.nilsl]))],pins:=[(0,0,64),(1,0,65),(2,0,66),(3,0,67)]}
def aLb:RetK:= {acts:=[],res:=[.tmp 5],sh:=(yj [.dat .bool]),obs:=[mS,(65,.cells bR),(66,.cells eN),(67,.cells (yj [.arr 64]))],pins:=[(0,0,64),(1,0,65),(2,0,66),(3,0,67)]}
def aCy:FD:= {(yd (yj [.arr 64,.box 65 0,.box 66 0,.box 67 0]) [mS,(65,.cells bR),(66,.cells eN),(67,.cells (yj [.nilsl]))] [.arg 0,.arg 1,.arg 2,.arg 3] ((Y1×N0)⊕(Y1×N0)) (λx=>Lz x.2.1 x.2.2.1.1 x.2.2.1.2.1 x.2.2.2.1.1) (λr=>match r with| .inl a=>([.dat .bool true],[(64,.arr 3 yi a.1),(65,.cells [.dat y1 a.2.1,.dat y2 a.2.2.1]),(66,.cells [.dat yi a.2.2.2]),(67,.cells [.nilsl])])| .inr b=>([.dat .bool false],[(64,.arr 3 yi b.1),(65,.cells [.dat y1 b.2.1,.dat y2 b.2.2.1]),(66,.cells [.dat yi b.2.2.2]),(67,.cells [.arr 64])])))with sp:=λr=>.s _ _ r (λa=>.l ([.dat .bool true],[(64,.arr 3 yi a.1),(65,.cells [.dat y1 a.2.1,.dat y2 a.2.2.1]),(66,.cells [.dat yi a.2.2.2]),(67,.cells [.nilsl])])) (λb=>.l ([.dat .bool false],[(64,.arr 3 yi b.1),(65,.cells [.dat y1 b.2.1,.dat y2 b.2.2.1]),(66,.cells [.dat yi b.2.2.2]),(67,.cells [.arr 64])])),spok:=λr=>by cases r<;>rfl}
theorem aKq:dV prog (156,aCy):=Pc mixed (uT (Ng wavt.2 fdN)) Vh (DR aCy (nF [wavt.1]) aKS aLb bU [] ((f156.body).getD .skip) (λx=>LW x.2.1 x.2.2.1.1 x.2.2.1.2.1 x.2.2.2.1.1) (λr=>match r with| .inl a=>.inl ((true,()),a.1,(a.2.1,a.2.2.1,()),(a.2.2.2,()),((),()),())| .inr b=>.inr ((false,()),b.1,(b.2.1,b.2.2.1,()),(b.2.2.2,()),((),()),())) func156 (Rz (by kernel_rfl) lpN) (λ_=>by kernel_rfl) λr=>by cases r<;>rfl)
def G_zz:FP prog:=⟨_,aKq⟩
def wya(k:Y1×Int×iC)(v:Int×N0):Tr ((Int×N0)⊕(N0⊕(Y1×Y2×gI))):=.t (v.1<k.2.2.2) (.c _ (Ou k.2.1 v.1) λh=>.t (!h) (.g (0<=v.1)<|.c _ (Rp (wrap .u64 (BitVec.toNat ((BitVec.ofInt bK k.2.1)||| (BitVec.ofInt bK (wrap .u64 ((1:Int)*2^(min (toNat v.1) bK)))))))) λe=>.c _ (Lz e v.2.1 v.2.2.1 v.2.2.2) λf=>.s _ _ f (λb=>.l (.inl ((wrap .i64 (v.1+1)),b.2.1,b.2.2.1,b.2.2.2))) (λa=>.l (.inr (.inr (a.2.1,a.2.2.1,a.2.2.2,a.1))))) (.l (.inl ((wrap .i64 (v.1+1)),v.2.1,v.2.2.1,v.2.2.2)))) (.l (.inr (.inl (v.2.1,v.2.2.1,v.2.2.2))))
def aDV k v:=aC (λv=>(wya k v).ev) v
abbrev aQC:Keep:=yk [] [1,2,6,7,19,20] (yj [.dat y1,.fn 156 Wg,.dat (.int .u64),.dat yi,.dat yi,.dat yi]) [(64,.cells bR),(65,.cells eN),(66,.cells (yj [.nilsl]))]
abbrev Zm:Keep:=yk [] [1,2,6,7] (yj [.dat y1,.fn 156 Wg,.dat (.int .u64),.dat yi]) [(64,.cells bR),(65,.cells eN),(66,.cells (yj [.nilsl]))]
abbrev aGu:Keep:=yk [] [2] (yj [.fn 156 Wg]) [(64,.cells bR),(65,.cells eN),(66,.cells (yj [.arr 2112])),Fr]
abbrev aLl{a b c d e g h i:Type}(k:a×b×c×d)(v:e×g×h×i):=((k.1,((),(),(),()),k.2.1,k.2.2.1,k.2.2.2,v.1,()),(v.2.1,v.2.2.1,()),(v.2.2.2,()),((),()),())
abbrev aLy{a b c d e g h:Type}(t:(a×b×c×d×e×g)×h):=(t.1.1,t.1.2.2.1,t.1.2.2.2.1,t.1.2.2.2.2.1)
abbrev aIz{a b c d e g h i j l m n o:Type}(t:(a×b×c×d×e×g×h)×(i×j×l)×(m×n)×o):=(t.1.2.2.2.2.2.1,t.2.1.1,t.2.1.2.1,t.2.2.1.1)
def aBd:LD:=yl (wya) aQC [(0,Zm)] aGu aLl aLy aIz (λk r=>.s _ _ r (λa=>yx 0 Zm ((k.1,((),(),(),()),k.2.1,k.2.2.1,()),(a.1,a.2.1,()),(a.2.2,()),((),()),())) (λb=>yz aGu ((((),(),(),()),()),(b.1,b.2.1,()),(b.2.2.1,()),((),()),b.2.2.2,())))
def wyb(k:Y1×Int×Int×Y1×Int)(v:Int×N0):Tr ((Int×N0)⊕(N0⊕(Y1×Y2×gI))):=.t (v.1<k.2.2.2.2) (.g (aB v.1 (length k.2.2.2.1))<|.t ((1:Int)<(length k.1:Int)) (.g ((0:Int)<=(getD k.2.2.2.1 (toNat v.1) 0))<|.c _ (Rp (wrap .u64 (BitVec.toNat ((BitVec.ofInt bK k.2.1)&&& ~~~(BitVec.ofInt bK (wrap .u64 ((1:Int)*2^(min (toNat (getD k.2.2.2.1 (toNat v.1) 0)) bK)))))))) λf=>.c _ (Lz f v.2.1 v.2.2.1 v.2.2.2) λe=>.s _ _ e (λb=>.l (.inl ((wrap .i64 (v.1+1)),b.2.1,b.2.2.1,b.2.2.2))) (λa=>.l (.inr (.inr (a.2.1,a.2.2.1,a.2.2.2,a.1))))) (.l (.inl ((wrap .i64 (v.1+1)),v.2.1,v.2.2.1,v.2.2.2)))) (.l (.inr (.inl (v.2.1,v.2.2.1,v.2.2.2))))
def aBh k v:=aC (λv=>(wyb k v).ev) v
abbrev aKe:Keep:=yk [] [1,2,6,7,38,39,40] (yj [.dat y1,.fn 156 Wg,.dat (.int .u64),.dat yi,.dat y1,.dat yi,.dat yi]) [(64,.cells bR),(65,.cells eN),(66,.cells (yj [.nilsl]))]
abbrev aDH:Keep:=yk [] [2] (yj [.fn 156 Wg]) [(64,.cells bR),(65,.cells eN),(66,.cells (yj [.arr 3392])),(3392,.arr 3 yi)]
abbrev aEH{a b c d e g h i j:Type}(k:a×b×c×d×e)(v:g×h×i×j):=((k.1,((),(),(),()),k.2.1,k.2.2.1,k.2.2.2.1,k.2.2.2.2,v.1,()),(v.2.1,v.2.2.1,()),(v.2.2.2,()),((),()),())
abbrev aEU{a b c d e g h i:Type}(t:(a×b×c×d×e×g×h)×i):=(t.1.1,t.1.2.2.1,t.1.2.2.2.1,t.1.2.2.2.2.1,t.1.2.2.2.2.2.1)
abbrev aEt{a b c d e g h i j l m n o p:Type}(t:(a×b×c×d×e×g×h×i)×(j×l×m)×(n×o)×p):=(t.1.2.2.2.2.2.2.1,t.2.1.1,t.2.1.2.1,t.2.2.1.1)
def aGx:LD:=yl (wyb) aKe [(2,Zm)] aDH aEH aEU aEt (λk r=>.s _ _ r (λa=>yx 2 Zm ((k.1,((),(),(),()),k.2.1,k.2.2.1,()),(a.1,a.2.1,()),(a.2.2,()),((),()),())) (λb=>yz aDH ((((),(),(),()),()),(b.1,b.2.1,()),(b.2.2.1,()),((),()),b.2.2.2,())))
def wyc(k:Y1×Int×Int×Int×Y1×Int×iC)(v:Int×N0):Tr ((Int×N0)⊕(N0⊕(Y1×Y2×gI))):=.t (v.1<k.2.2.2.2.2.2.2) (.c _ (Ou k.2.1 v.1) λf=>.t (!f) (.c _ (BM k.1 k.2.2.2.1 v.1) λe=>.c _ (Lz e v.2.1 v.2.2.1 v.2.2.2) λg=>.s _ _ g (λb=>.l (.inl ((wrap .i64 (v.1+1)),b.2.1,b.2.2.1,b.2.2.2))) (λa=>.l (.inr (.inr (a.2.1,a.2.2.1,a.2.2.2,a.1))))) (.l (.inl ((wrap .i64 (v.1+1)),v.2.1,v.2.2.1,v.2.2.2)))) (.l (.inr (.inl (v.2.1,v.2.2.1,v.2.2.2))))
def aGy k v:=aC (λv=>(wyc k v).ev) v
abbrev aPa:Keep:=yk [] [1,2,6,7,12,58,59,60,64,65] (yj [.dat y1,.fn 156 Wg,.dat (.int .u64),.dat yi,.dat yi,.dat y1,.dat yi,.dat yi,.dat yi,.dat yi]) [(64,.cells bR),(65,.cells eN),(66,.cells (yj [.nilsl]))]
abbrev YD:Keep:=yk [] [1,2,6,7,58,59,60] (yj [.dat y1,.fn 156 Wg,.dat (.int .u64),.dat yi,.dat y1,.dat yi,.dat yi]) [(64,.cells bR),(65,.cells eN),(66,.cells (yj [.nilsl]))]
abbrev Xi:Keep:=yk [] [2] (yj [.fn 156 Wg]) [(64,.cells bR),(65,.cells eN),(66,.cells (yj [.arr 4928])),(4928,.arr 3 yi)]
abbrev aMi{a b c d e g h i j l m n:Type}(k:a×b×c×d×e×g×h×i)(v:j×l×m×n):=((k.1,((),(),(),()),k.2.1,k.2.2.1,k.2.2.2.1,k.2.2.2.2.1,k.2.2.2.2.2.1,k.2.2.2.2.2.2.1,k.2.2.2.2.2.2.2,v.1,()),(v.2.1,v.2.2.1,()),(v.2.2.2,()),((),()),())
abbrev aJn{a b c d e g h i j l m:Type}(t:(a×b×c×d×e×g×h×i×j×l)×m):=(t.1.1,t.1.2.2.1,t.1.2.2.2.1,t.1.2.2.2.2.1,t.1.2.2.2.2.2.1,t.1.2.2.2.2.2.2.1,t.1.2.2.2.2.2.2.2.1,t.1.2.2.2.2.2.2.2.2.1)
abbrev aSs{a b c d e g h i j l m n o p q s t:Type}(t:(a×b×c×d×e×g×h×i×j×l×m)×(n×o×p)×(q×s)×t):=(t.1.2.2.2.2.2.2.2.2.2.1,t.2.1.1,t.2.1.2.1,t.2.2.1.1)
def aHA:LD:=yl (wyc) aPa [(6,YD)] Xi aMi aJn aSs (λk r=>.s _ _ r (λa=>yx 6 YD ((k.1,((),(),(),()),k.2.1,k.2.2.1,k.2.2.2.2.1,k.2.2.2.2.2.1,k.2.2.2.2.2.2.1,()),(a.1,a.2.1,()),(a.2.2,()),((),()),())) (λb=>yz Xi ((((),(),(),()),()),(b.1,b.2.1,()),(b.2.2.1,()),((),()),b.2.2.2,())))
def wye(k:Y1×Int×Int×Y1×Int)(v:Int×N0):Tr ((Int×N0)⊕(N0⊕(Y1×Y2×gI))):=.t (v.1<k.2.2.2.2) (.g (aB v.1 (length k.2.2.2.1))<|.c _ (aGy (k.1,k.2.1,k.2.2.1,(getD k.2.2.2.1 (toNat v.1) 0),k.2.2.2.1,k.2.2.2.2,v.1,k.2.2.1) (0,v.2.1,v.2.2.1,v.2.2.2)) λe=>.s _ _ e (λb=>.l (.inl ((wrap .i64 (v.1+1)),b.1,b.2.1,b.2.2))) (λa=>.l (.inr (.inr (a.1,a.2.1,a.2.2.1,a.2.2.2))))) (.l (.inr (.inl (v.2.1,v.2.2.1,v.2.2.2))))
def aHc k v:=aC (λv=>(wye k v).ev) v
abbrev aHp:Keep:=yk [] [2] (yj [.fn 156 Wg]) [(64,.cells bR),(65,.cells eN),(66,.cells (yj [.nilsl]))]
def aGi:LD:=yl (wye) YD [(4,aHp)] Xi aEH aEU aEt (λ_ r=>.s _ _ r (λa=>yx 4 aHp ((((),(),(),()),()),(a.1,a.2.1,()),(a.2.2,()),((),()),())) (λb=>yz Xi ((((),(),(),()),()),(b.1,b.2.1,()),(b.2.2.1,()),((),()),b.2.2.2,())))
def PY(g:Y1)(_w:List Y1)(a n:Y1)(p:List Y1)(o:Int):Tr (N0⊕(Y1×Y2×gI)):=.c _ (Se a) λi=>.c _ (aDV (a,i,(length g:Int),(length g:Int)) (0,n,p,o)) λu=>.s _ _ u (λj=>.c _ (aBh (a,i,(length g:Int),a,(length a:Int)) (0,j.1,j.2.1,j.2.2)) λq=>.s _ _ q (λm=>.c _ (aHc (a,i,(length g:Int),a,(length a:Int)) (0,m.1,m.2.1,m.2.2)) λr=>.s _ _ r (λh=>.l (.inl (h.1,h.2.1,h.2.2))) (λb=>.l (.inr (b.1,b.2.1,b.2.2.1,b.2.2.2)))) (λe=>.l (.inr (e.1,e.2.1,e.2.2.1,e.2.2.2)))) (λf=>.l (.inr (f.1,f.2.1,f.2.2.1,f.2.2.2)))
def Wo f e g b c a:=(PY f e g b c a).ev
def aJf:RetK:= {acts:=[],res:=[],sh:=.nil,obs:=[(64,.cells bR),(65,.cells eN),(66,.cells (yj [.nilsl]))],pins:=[(2,1,64),(2,2,65),(2,3,66)]}
def aNG:RetK:= {acts:=[.ren 4928 0,.ren 3392 0,.ren 2112 0],res:=[],sh:=.nil,obs:=[(64,.cells bR),(65,.cells eN),(66,.cells zY),rS],pins:=[(2,1,64),(2,2,65),(2,3,66)]}
def aCX:FD:= {(yd (yj [.agg bR,.dat y1,.fn 156 Wg]) [(64,.cells bR),(65,.cells eN),(66,.cells (yj [.nilsl]))] [.cap 2 0,.cap 2 1,.cap 2 2] (N0⊕(Y1×Y2×gI)) (λx=>Wo x.1.1.1 x.1.1.2.1 x.1.2.1 x.2.1.1 x.2.1.2.1 x.2.2.1.1) (λr=>match r with| .inl a=>([],[(64,.cells [.dat y1 a.1,.dat y2 a.2.1]),(65,.cells [.dat yi a.2.2]),(66,.cells [.nilsl])])| .inr b=>([],[(64,.cells [.dat y1 b.1,.dat y2 b.2.1]),(65,.cells [.dat yi b.2.2.1]),(66,.cells [.arr 0]),(0,.arr 3 yi b.2.2.2)])))with sp:=λr=>.s _ _ r (λa=>.l ([],[(64,.cells [.dat y1 a.1,.dat y2 a.2.1]),(65,.cells [.dat yi a.2.2]),(66,.cells [.nilsl])])) (λb=>.l ([],[(64,.cells [.dat y1 b.1,.dat y2 b.2.1]),(65,.cells [.dat yi b.2.2.1]),(66,.cells [.arr 0]),(0,.arr 3 yi b.2.2.2)])),spok:=λr=>by cases r<;>rfl}
def Kh:Env:=nF [wbpp.1,wbpq.1,wapv.1,G_zz.1,wcmu.1]
def Ks:List (Nat×LD):=[(0,aBd),(2,aGx),(6,aHA),(4,aGi)]
def Mu:Code:=(f155.body).getD .skip
theorem aRq:(aBd).OK Kh tt bU (fD Ks) (oL Mu 0):=Io (λ_=>rfl) λ_ _=>by kernel_rfl
theorem aTo:(aGx).OK Kh tt bU (fD Ks) (oL Mu 2):=Io (λ_=>rfl) λ_ _=>by kernel_rfl
theorem aTe:(aHA).OK Kh tt bU (fD Ks) (oL Mu 6):=Io (λ_=>rfl) λ_ _=>by kernel_rfl
theorem aHZ:(aGi).OK Kh tt bU (fD Ks) (oL Mu 4):=Io (λ_=>rfl) λ_ _=>by kernel_rfl
theorem aSI:eM Kh tt bU Ks Mu:=Rz (by kernel_rfl) (lpC aRq (lpC aTo (lpC aTe (lpC aHZ lpN))))
theorem aKH:dV prog (155,aCX):=Pc mixed (uT (Ng wbpp.2 (Ng wbpq.2 (Ng wapv.2 (Ng G_zz.2 (Ng wcmu.2 fdN)))))) Vh (DR aCX Kh aJf aNG bU Ks Mu (λx=>PY x.1.1.1 x.1.1.2.1 x.1.2.1 x.2.1.1 x.2.1.2.1 x.2.2.1.1) (λr=>match r with| .inl a=>.inl ((),(a.1,a.2.1,()),(a.2.2,()),((),()),())| .inr b=>.inr ((),(b.1,b.2.1,()),(b.2.2.1,()),((),()),b.2.2.2,())) func155 aSI (λ_=>by kernel_rfl) λr=>by cases r<;>rfl)
def aIo:FP prog:=⟨_,aKH⟩
def VH(b:Y1)(a:List Y1)(f:Y1):Tr o5:=.c _ (Nz b a f) λi=>.c _ (Wo b a f b a i) λh=>.s _ _ h (λ_=>.l (false,[])) (λe=>.g (0<length e.2.2.2)<|.l (true,e.2.2.2))
def CS b a c:=(VH b a c).ev
abbrev aMM:RetK:=⟨[.own 4 0 3 yi,.ren 896 0],[.tmp 4,.tmp 5],Kr,[rS],[],[]⟩
def aFk:FP prog:=aG cx func87 [wavt,aIo] (yj [.agg bR,.dat y1]) [] [] (jB VH) aMM qD
def wyg(k:Y1×Y2)(v:Int×Y1):Tr (gI⊕gI):=.c _ (CS k.1 k.2 v.2) λa=>.t (!a.1) (.l (.inr (v.1,v.2))) (.l (.inl ((wrap .i64 (v.1+1)),a.2)))
def wyh k v:=aC (λv=>(wyg k v).ev) v
abbrev aOH:Keep:=yk [.rep 1408 1024] [2,7,8] (yj [.box 2 0,.arr 1024,.dat yi]) [xF,(1024,.arr 3 yi)]
abbrev aDR:Keep:=yk [] [4,5,6] (yj [.arr 1024,.dat yi,.dat .bool]) [(1024,.arr 3 yi)]
def aUA:LD:=yl (wyg) aOH [] aDR Th s7 Md (λ_ r=>yz aDR (((),r.1,true,()),r.2,()))
def NX(e:Y1)(b:List Y1)(f:Y1):Tr (Int×o5):=.c _ (W6 e b f) λh=>.t (!h) (.l (0,false,[])) (.c _ (Tc f) λg=>.c _ (wyh (e,b) (0,g)) λa=>.l (a.1,true,a.2))
def TC b a c:=(NX b a c).ev
abbrev aKI:RetK:=⟨[.own 4 0 3 yi,.ren 1024 0],[.tmp 4,.tmp 5,.tmp 6],(yj [.arr 0,.dat yi,.dat .bool]),[rS],[],[]⟩
def aOo:FP prog:=aG cx func270 [Kc,CF,aFk] (yj [.agg bR,.dat y1]) [] [] (jB NX) aKI aHu bU [(0,aUA)]
noncomputable abbrev aHD(p1 p2:Int):=(.g (aB (wrap .u8 (Int.fdiv (Int.fdiv p1 (2^(min (toNat 32) bK))) (2^(min (toNat p2) bK)))) (length Np))<|.l (wrap .i64 ((wrap .i64 ((32:Int)+p2))+(wrap .i64 ((UInt8.toNat (getD Np (toNat (wrap .u8 (Int.fdiv (Int.fdiv p1 (2^(min (toNat 32) bK))) (2^(min (toNat p2) bK))))) 0):Nat):Int)))):Tr Int)
noncomputable abbrev aGR(p1 p2:Int):=(.g (aB (wrap .u8 (Int.fdiv p1 (2^(min (toNat p2) bK)))) (length Np))<|.l (wrap .i64 ((wrap .i64 ((0:Int)+p2))+(wrap .i64 ((UInt8.toNat (getD Np (toNat (wrap .u8 (Int.fdiv p1 (2^(min (toNat p2) bK))))) 0):Nat):Int)))):Tr Int)
def aCS(a:Int):Tr Int:=.t (4294967296<=a) (.g ((0:Int)<=(32:Int))<|.t ((65536:Int)<=(Int.fdiv a (2^(min (toNat 32) bK)))) (.g ((0:Int)<=(16:Int))<|.t ((256:Int)<=(Int.fdiv (Int.fdiv a (2^(min (toNat 32) bK))) (2^(min (toNat 16) bK)))) (.g ((0:Int)<=(8:Int))<|.g (aB (wrap .u8 (Int.fdiv (Int.fdiv (Int.fdiv a (2^(min (toNat 32) bK))) (2^(min (toNat 16) bK))) (2^(min (toNat 8) bK)))) (length Np))<|.l (wrap .i64 ((wrap .i64 ((wrap .i64 ((32:Int)+16))+8))+(wrap .i64 ((UInt8.toNat (getD Np (toNat (wrap .u8 (Int.fdiv (Int.fdiv (Int.fdiv a (2^(min (toNat 32) bK))) (2^(min (toNat 16) bK))) (2^(min (toNat 8) bK))))) 0):Nat):Int))))) (aHD a 16)) (.t ((256:Int)<=(Int.fdiv a (2^(min (toNat 32) bK)))) (.g ((0:Int)<=(8:Int))<|aHD a 8) (.g (aB (wrap .u8 (Int.fdiv a (2^(min (toNat 32) bK)))) (length Np))<|.l (wrap .i64 ((32:Int)+(wrap .i64 ((UInt8.toNat (getD Np (toNat (wrap .u8 (Int.fdiv a (2^(min (toNat 32) bK))))) 0):Nat):Int))))))) (.t (65536<=a) (.g ((0:Int)<=(16:Int))<|.t ((256:Int)<=(Int.fdiv a (2^(min (toNat 16) bK)))) (.g ((0:Int)<=(8:Int))<|.g (aB (wrap .u8 (Int.fdiv (Int.fdiv a (2^(min (toNat 16) bK))) (2^(min (toNat 8) bK)))) (length Np))<|.l (wrap .i64 ((wrap .i64 ((wrap .i64 ((0:Int)+16))+8))+(wrap .i64 ((UInt8.toNat (getD Np (toNat (wrap .u8 (Int.fdiv (Int.fdiv a (2^(min (toNat 16) bK))) (2^(min (toNat 8) bK))))) 0):Nat):Int))))) (aGR a 16)) (.t (256<=a) (.g ((0:Int)<=(8:Int))<|aGR a 8) (.g (aB (wrap .u8 a) (length Np))<|.l (wrap .i64 ((0:Int)+(wrap .i64 ((UInt8.toNat (getD Np (toNat (wrap .u8 a)) 0):Nat):Int)))))))
def aLe a:=(aCS a).ev
def aKj:FP prog:=aG cx func253 [] (yj [.dat (.int .u64)]) [] [] (qH aCS) wR bH
def aEJ(a:Int):Tr Int:=.c _ (aLe a) λb=>.l b
def Wq a:=(aEJ a).ev
def KE:FP prog:=aG cx func175 [aKj] (yj [.dat (.int .u64)]) [] [] (qH aEJ) wR bH
def aGk(k:Int×Int×qW×Int)(v:Int×fO):Tr ((Int×fO)⊕fO):=.t (k.1<v.1) (.g (aB v.1 (length v.2.1))<|.g (((toNat v.1)<length v.2.1)&&((getD v.2.1 (toNat v.1) 0)<length v.2.2))<|.g (aB (wrap .i64 (v.1-1)) (length v.2.1))<|.g (((toNat (wrap .i64 (v.1-1)))<length v.2.1)&&((getD v.2.1 (toNat (wrap .i64 (v.1-1))) 0)<length v.2.2))<|.c _ (k.2.2.1 ((getD v.2.2 (getD v.2.1 (toNat v.1) 0) []),(getD v.2.2 (getD v.2.1 (toNat (wrap .i64 (v.1-1))) 0) []),())) λa=>.t (a<0) (.g (aB (wrap .i64 (v.1-1)) (length v.2.1))<|.g (((toNat (wrap .i64 (v.1-1)))<length v.2.1)&&((getD v.2.1 (toNat (wrap .i64 (v.1-1))) 0)<length v.2.2))<|.g (aB v.1 (length v.2.1))<|.g (((toNat v.1)<length v.2.1)&&((getD v.2.1 (toNat v.1) 0)<length v.2.2))<|.g (aB v.1 (length v.2.1))<|.g ((toNat v.1)<length v.2.1)<|.g (aB (wrap .i64 (v.1-1)) (length (set v.2.1 (toNat v.1) (getD v.2.1 (toNat (wrap .i64 (v.1-1))) 0))))<|.g ((toNat (wrap .i64 (v.1-1)))<length (set v.2.1 (toNat v.1) (getD v.2.1 (toNat (wrap .i64 (v.1-1))) 0)))<|.l (.inl ((wrap .i64 (v.1-1)),(set (set v.2.1 (toNat v.1) (getD v.2.1 (toNat (wrap .i64 (v.1-1))) 0)) (toNat (wrap .i64 (v.1-1))) (getD v.2.1 (toNat v.1) 0)),v.2.2))) (.l (.inr v.2))) (.l (.inr v.2))
def aWs k v:=aC (λv=>(aGk k v).ev) v
abbrev aRx:Keep:=yk [] [0,1,2,3,8,9] (yj [.arr 64,.dat yi,.dat yi,.clo [y1,y1] yi,.dat yi,.dat yi]) [w8]
abbrev JA:Keep:=yk [] [0,1,2,3,8] (yj [.arr 64,.dat yi,.dat yi,.clo [y1,y1] yi,.dat yi]) [w8]
abbrev aHg{a b c d e g:Type}(k:a×b×c×d)(v:e×g):=(((),k.1,k.2.1,k.2.2.1,k.2.2.2,v.1,()),v.2,())
abbrev aAL{a b c d e g h:Type}(t:(a×b×c×d×e×g)×h):=(t.1.2.1,t.1.2.2.1,t.1.2.2.2.1,t.1.2.2.2.2.1)
abbrev RO{a b c d e g h i j:Type}(t:(a×b×c×d×e×g×h)×i×j):=(t.1.2.2.2.2.2.1,t.2.1)
def aQx:LD:=yl (aGk) aRx [(2,JA)] bC aHg aAL RO (λk r=>yx 2 JA (((),k.1,k.2.1,k.2.2.1,k.2.2.2,()),r,()))
def aAd(k:Int×Int×qW)(v:Int×fO):Tr ((Int×fO)⊕fO):=.t (v.1<k.2.1) (.c _ (aWs (k.1,k.2.1,k.2.2,v.1) (v.1,v.2)) λa=>.l (.inl ((wrap .i64 (v.1+1)),a))) (.l (.inr v.2))
def aOG k v:=aC (λv=>(aAd k v).ev) v
abbrev Ke:Keep:=yk [] [0] (yj [.arr 64]) [w8]
abbrev IG{a b c d e:Type}(k:a×b×c)(v:d×e):=(((),k.1,k.2.1,k.2.2,v.1,()),v.2,())
abbrev Yt{a b c d e g:Type}(t:(a×b×c×d×e)×g):=(t.1.2.1,t.1.2.2.1,t.1.2.2.2.1)
abbrev XY{a b c d e g h i:Type}(t:(a×b×c×d×e×g)×h×i):=(t.1.2.2.2.2.1,t.2.1)
def aVL:LD:=yl (aAd) JA [(0,Ke)] bC IG Yt XY (λ_ r=>yx 0 Ke (((),()),r,()))
def aDO(a f:Int)(b:qW)(e:(List Nat)×Y2):Tr fO:=.c _ (aOG (a,f,b) ((wrap .i64 (a+1)),e)) λg=>.l g
def aRY b c e a:=(aDO b c e a).ev
abbrev AE{a b c d e g h:Type}{z:Type _}(f:b->c->d->g->z)(x:(a×b×c×d×e)×g×h):z:=f x.1.2.1 x.1.2.2.1 x.1.2.2.2.1 x.2.1
abbrev FC:RetK:=⟨[],[],.nil,[w8],[(0,0,64)],[]⟩
abbrev H1{a:Type}(r:a):=((),r,())
def wcyj:FP prog:=aG cx func352 [] (yj [.arr 64,.dat yi,.dat yi,.clo [y1,y1] yi]) [w8] [.arg 0] (AE aDO) FC H1 bU [(2,aQx),(0,aVL)]
def aDf(b:Int):Tr Int:=.c _ (Wq (wrap .u64 b)) λa=>.g (0<=a)<|.l (wrap .u64 ((1:Int)*2^(min (toNat a) bK)))
def aMt a:=(aDf a).ev
def aUH:FP prog:=aG cx func316 [KE] eN [] [] (qH aDf) aEW bH
def aCA(a:Int):Tr iC:=.g ((0:Int)<=(13:Int))<|.g ((0:Int)<=(7:Int))<|.g ((0:Int)<=(17:Int))<|.l ((wrap .u64 (BitVec.toNat ((BitVec.ofInt bK (wrap .u64 (BitVec.toNat ((BitVec.ofInt bK (wrap .u64 (BitVec.toNat ((BitVec.ofInt bK a)^^^ (BitVec.ofInt bK (wrap .u64 (a*2^(min (toNat 13) bK))))))))^^^ (BitVec.ofInt bK (Int.fdiv (wrap .u64 (BitVec.toNat ((BitVec.ofInt bK a)^^^ (BitVec.ofInt bK (wrap .u64 (a*2^(min (toNat 13) bK))))))) (2^(min (toNat 7) bK))))))))^^^ (BitVec.ofInt bK (wrap .u64 ((wrap .u64 (BitVec.toNat ((BitVec.ofInt bK (wrap .u64 (BitVec.toNat ((BitVec.ofInt bK a)^^^ (BitVec.ofInt bK (wrap .u64 (a*2^(min (toNat 13) bK))))))))^^^ (BitVec.ofInt bK (Int.fdiv (wrap .u64 (BitVec.toNat ((BitVec.ofInt bK a)^^^ (BitVec.ofInt bK (wrap .u64 (a*2^(min (toNat 13) bK))))))) (2^(min (toNat 7) bK)))))))*2^(min (toNat 17) bK))))))),(wrap .u64 (BitVec.toNat ((BitVec.ofInt bK (wrap .u64 (BitVec.toNat ((BitVec.ofInt bK (wrap .u64 (BitVec.toNat ((BitVec.ofInt bK a)^^^ (BitVec.ofInt bK (wrap .u64 (a*2^(min (toNat 13) bK))))))))^^^ (BitVec.ofInt bK (Int.fdiv (wrap .u64 (BitVec.toNat ((BitVec.ofInt bK a)^^^ (BitVec.ofInt bK (wrap .u64 (a*2^(min (toNat 13) bK))))))) (2^(min (toNat 7) bK))))))))^^^ (BitVec.ofInt bK (wrap .u64 ((wrap .u64 (BitVec.toNat ((BitVec.ofInt bK (wrap .u64 (BitVec.toNat ((BitVec.ofInt bK a)^^^ (BitVec.ofInt bK (wrap .u64 (a*2^(min (toNat 13) bK))))))))^^^ (BitVec.ofInt bK (Int.fdiv (wrap .u64 (BitVec.toNat ((BitVec.ofInt bK a)^^^ (BitVec.ofInt bK (wrap .u64 (a*2^(min (toNat 13) bK))))))) (2^(min (toNat 7) bK)))))))*2^(min (toNat 17) bK))))))))
def aRs a:=(aCA a).ev
abbrev aIt{a b c d:Type}{z:Type _}(f:b->z)(x:a×(b×c)×d):z:=f x.2.1.1
abbrev aOI:RetK:=⟨[],[.tmp 2],(yj [.dat (.int .u64)]),[(64,.cells (yj [.dat (.int .u64)]))],[(0,0,64)],[]⟩
abbrev HD{a b:Type}(r:a×b):=((r.1,()),(r.2,()),())
def aPO:FP prog:=aG cx func317 [] (yj [.box 64 0]) [(64,.cells (yj [.dat (.int .u64)]))] [.arg 0] (aIt aCA) aOI HD
def aAG(k:Int×iC)(v:Int×fO×Int):Tr ((Int×fO×Int)⊕fO):=.g (!decide ((4:Int)=0))<|.t (v.1<=(wrap .i64 ((wrap .i64 (k.1+(wrap .i64 ((wrap .i64 (Int.tdiv k.2.1 4))*(2:Int)))))+1))) (.c _ (aRs v.2.2) λa=>.t (k.2.1<=(wrap .i64 (wrap .u64 (BitVec.toNat ((BitVec.ofInt bK a.1)&&& (BitVec.ofInt bK (wrap .u64 (k.2.2-1)))))))) (.g (aB (wrap .i64 (k.1+(wrap .i64 ((wrap .i64 (wrap .u64 (BitVec.toNat ((BitVec.ofInt bK a.1)&&& (BitVec.ofInt bK (wrap .u64 (k.2.2-1))))))) -k.2.1)))) (length v.2.1.1))<|.g (((toNat (wrap .i64 (k.1+(wrap .i64 ((wrap .i64 (wrap .u64 (BitVec.toNat ((BitVec.ofInt bK a.1)&&& (BitVec.ofInt bK (wrap .u64 (k.2.2-1))))))) -k.2.1)))))<length v.2.1.1)&&((getD v.2.1.1 (toNat (wrap .i64 (k.1+(wrap .i64 ((wrap .i64 (wrap .u64 (BitVec.toNat ((BitVec.ofInt bK a.1)&&& (BitVec.ofInt bK (wrap .u64 (k.2.2-1))))))) -k.2.1))))) 0)<length v.2.1.2))<|.g (aB v.1 (length v.2.1.1))<|.g (((toNat v.1)<length v.2.1.1)&&((getD v.2.1.1 (toNat v.1) 0)<length v.2.1.2))<|.g (aB v.1 (length v.2.1.1))<|.g ((toNat v.1)<length v.2.1.1)<|.g (aB (wrap .i64 (k.1+(wrap .i64 ((wrap .i64 (wrap .u64 (BitVec.toNat ((BitVec.ofInt bK a.1)&&& (BitVec.ofInt bK (wrap .u64 (k.2.2-1))))))) -k.2.1)))) (length (set v.2.1.1 (toNat v.1) (getD v.2.1.1 (toNat (wrap .i64 (k.1+(wrap .i64 ((wrap .i64 (wrap .u64 (BitVec.toNat ((BitVec.ofInt bK a.1)&&& (BitVec.ofInt bK (wrap .u64 (k.2.2-1))))))) -k.2.1))))) 0))))<|.g ((toNat (wrap .i64 (k.1+(wrap .i64 ((wrap .i64 (wrap .u64 (BitVec.toNat ((BitVec.ofInt bK a.1)&&& (BitVec.ofInt bK (wrap .u64 (k.2.2-1))))))) -k.2.1)))))<length (set v.2.1.1 (toNat v.1) (getD v.2.1.1 (toNat (wrap .i64 (k.1+(wrap .i64 ((wrap .i64 (wrap .u64 (BitVec.toNat ((BitVec.ofInt bK a.1)&&& (BitVec.ofInt bK (wrap .u64 (k.2.2-1))))))) -k.2.1))))) 0)))<|.l (.inl ((wrap .i64 (v.1+1)),((set (set v.2.1.1 (toNat v.1) (getD v.2.1.1 (toNat (wrap .i64 (k.1+(wrap .i64 ((wrap .i64 (wrap .u64 (BitVec.toNat ((BitVec.ofInt bK a.1)&&& (BitVec.ofInt bK (wrap .u64 (k.2.2-1))))))) -k.2.1))))) 0)) (toNat (wrap .i64 (k.1+(wrap .i64 ((wrap .i64 (wrap .u64 (BitVec.toNat ((BitVec.ofInt bK a.1)&&& (BitVec.ofInt bK (wrap .u64 (k.2.2-1))))))) -k.2.1))))) (getD v.2.1.1 (toNat v.1) 0)),v.2.1.2),a.2))) (.g (aB (wrap .i64 (k.1+(wrap .i64 (wrap .u64 (BitVec.toNat ((BitVec.ofInt bK a.1)&&& (BitVec.ofInt bK (wrap .u64 (k.2.2-1))))))))) (length v.2.1.1))<|.g (((toNat (wrap .i64 (k.1+(wrap .i64 (wrap .u64 (BitVec.toNat ((BitVec.ofInt bK a.1)&&& (BitVec.ofInt bK (wrap .u64 (k.2.2-1))))))))))<length v.2.1.1)&&((getD v.2.1.1 (toNat (wrap .i64 (k.1+(wrap .i64 (wrap .u64 (BitVec.toNat ((BitVec.ofInt bK a.1)&&& (BitVec.ofInt bK (wrap .u64 (k.2.2-1)))))))))) 0)<length v.2.1.2))<|.g (aB v.1 (length v.2.1.1))<|.g (((toNat v.1)<length v.2.1.1)&&((getD v.2.1.1 (toNat v.1) 0)<length v.2.1.2))<|.g (aB v.1 (length v.2.1.1))<|.g ((toNat v.1)<length v.2.1.1)<|.g (aB (wrap .i64 (k.1+(wrap .i64 (wrap .u64 (BitVec.toNat ((BitVec.ofInt bK a.1)&&& (BitVec.ofInt bK (wrap .u64 (k.2.2-1))))))))) (length (set v.2.1.1 (toNat v.1) (getD v.2.1.1 (toNat (wrap .i64 (k.1+(wrap .i64 (wrap .u64 (BitVec.toNat ((BitVec.ofInt bK a.1)&&& (BitVec.ofInt bK (wrap .u64 (k.2.2-1)))))))))) 0))))<|.g ((toNat (wrap .i64 (k.1+(wrap .i64 (wrap .u64 (BitVec.toNat ((BitVec.ofInt bK a.1)&&& (BitVec.ofInt bK (wrap .u64 (k.2.2-1))))))))))<length (set v.2.1.1 (toNat v.1) (getD v.2.1.1 (toNat (wrap .i64 (k.1+(wrap .i64 (wrap .u64 (BitVec.toNat ((BitVec.ofInt bK a.1)&&& (BitVec.ofInt bK (wrap .u64 (k.2.2-1)))))))))) 0)))<|.l (.inl ((wrap .i64 (v.1+1)),((set (set v.2.1.1 (toNat v.1) (getD v.2.1.1 (toNat (wrap .i64 (k.1+(wrap .i64 (wrap .u64 (BitVec.toNat ((BitVec.ofInt bK a.1)&&& (BitVec.ofInt bK (wrap .u64 (k.2.2-1)))))))))) 0)) (toNat (wrap .i64 (k.1+(wrap .i64 (wrap .u64 (BitVec.toNat ((BitVec.ofInt bK a.1)&&& (BitVec.ofInt bK (wrap .u64 (k.2.2-1)))))))))) (getD v.2.1.1 (toNat v.1) 0)),v.2.1.2),a.2)))) (.l (.inr v.2.1))
def aIG k v:=aC (λv=>(aAG k v).ev) v
abbrev aNw:Keep:=yk [] [0,1,8,9,10,11] (yj [.arr 64,.dat yi,.dat yi,.box 9 0,.dat (.int .u64),.dat yi]) [w8,(9,.cells (yj [.dat (.int .u64)]))]
abbrev aTS{a b c d e g:Type}(k:a×b×c)(v:d×e×g):=(((),k.1,k.2.1,(),k.2.2,v.1,()),v.2.1,(v.2.2,()),())
abbrev aNQ{a b c d e g h:Type}(t:(a×b×c×d×e×g)×h):=(t.1.2.1,t.1.2.2.1,t.1.2.2.2.2.1)
abbrev aIx{a b c d e g h i j l m:Type}(t:(a×b×c×d×e×g×h)×i×(j×l)×m):=(t.1.2.2.2.2.2.1,t.2.1,t.2.2.1.1)
def aIV:LD:=yl (aAG) aNw [(0,Ke)] bC aTS aNQ aIx (λ_ r=>yx 0 Ke (((),()),r,()))
def aBp(a b:Int)(_i:qW)(e:(List Nat)×Y2):Tr fO:=.t ((8:Int)<=(wrap .i64 (b-a))) (.c _ (aMt (wrap .i64 (b-a))) λf=>.g (!decide ((4:Int)=0))<|.c _ (aIG (a,(wrap .i64 (b-a)),f) ((wrap .i64 ((wrap .i64 (a+(wrap .i64 ((wrap .i64 (Int.tdiv (wrap .i64 (b-a)) 4))*(2:Int))))) -1)),e,(wrap .u64 (wrap .i64 (b-a))))) λh=>.l h) (.l e)
def aLV b c e a:=(aBp b c e a).ev
def wcyn:FP prog:=aG cx func354 [aUH,aPO] (yj [.arr 64,.dat yi,.dat yi,.clo [y1,y1] yi]) [w8] [.arg 0] (AE aBp) FC H1 bU [(0,aIV)]
def aAW(b:List Y1)(a e:Int)(h:qW)(f:Int):Tr (Int×iC):=.g (aB e (length b))<|.g (aB a (length b))<|.c _ (h ((getD b (toNat e) []),(getD b (toNat a) []),())) λi=>.t (i<0) (.l (e,a,(wrap .i64 (f+1)))) (.l (a,e,f))
def KB e c f b a:=(aAW e c f b a).ev
abbrev aMY{a b c d e g h i j:Type}{z:Type _}(f:a->b->c->e->h->z)(x:(a×b×c×d×e×g)×(h×i)×j):z:=f x.1.1 x.1.2.1 x.1.2.2.1 x.1.2.2.2.2.1 x.2.1.1
abbrev aSn:RetK:=⟨[],[.tmp 10,.tmp 11],(yj [.dat yi,.dat yi]),[(64,.cells eN)],[(3,0,64)],[]⟩
abbrev aRV{a b c:Type}(r:a×b×c):=((r.1,r.2.1,()),(r.2.2,()),())
def aOa:FP prog:=aG cx func395 [] (yj [.dat y2,.dat yi,.dat yi,.box 64 0,.clo [y1,y1] yi]) [(64,.cells eN)] [.arg 3] (aMY aAW) aSn aRV
def aDB(b:List Y1)(j m h:Int)(a:qW)(i:Int):Tr iC:=.c _ (KB b j m a i) λe=>.c _ (KB b e.2.1 h a e.2.2) λf=>.c _ (KB b e.1 f.1 a f.2.2) λg=>.l (g.2.1,g.2.2)
def OE f e g b a c:=(aDB f e g b a c).ev
abbrev aVk{a b c d e g h i j l:Type}{z:Type _}(f:a->b->c->d->g->i->z)(x:(a×b×c×d×e×g×h)×(i×j)×l):z:=f x.1.1 x.1.2.1 x.1.2.2.1 x.1.2.2.2.1 x.1.2.2.2.2.2.1 x.2.1.1
abbrev aNg:RetK:=⟨[],[.tmp 12],eN,[(64,.cells eN)],[(4,0,64)],[]⟩
def aBD:FP prog:=aG cx func384 [aOa] (yj [.dat y2,.dat yi,.dat yi,.dat yi,.box 64 0,.clo [y1,y1] yi]) [(64,.cells eN)] [.arg 4] (aVk aDB) aNg HD
def aFB(f:List Y1)(a:Int)(e:qW)(g:Int):Tr iC:=.c _ (OE f (wrap .i64 (a-1)) a (wrap .i64 (a+1)) e g) λb=>.l (b.1,b.2)
def FQ b a c e:=(aFB b a c e).ev
abbrev aSK{a b c d e g h i:Type}{z:Type _}(f:a->b->d->g->z)(x:(a×b×c×d×e)×(g×h)×i):z:=f x.1.1 x.1.2.1 x.1.2.2.2.1 x.2.1.1
abbrev aPe:RetK:=⟨[],[.tmp 8],eN,[(64,.cells eN)],[(2,0,64)],[]⟩
def aRj:FP prog:=aG cx func383 [aBD] (yj [.dat y2,.dat yi,.box 64 0,.clo [y1,y1] yi]) [(64,.cells eN)] [.arg 2] (aSK aFB) aPe HD
noncomputable abbrev ND(p1 p2 p3:Int):=(.l ((wrap .i64 (p1+(wrap .i64 ((wrap .i64 (Int.tdiv (wrap .i64 (p2-p1)) 4))*(2:Int))))),p3):Tr iC)
def aEG(i:List Y1)(a b:Int)(e:qW):Tr iC:=.g (!decide ((4:Int)=0))<|.g (!decide ((4:Int)=0))<|.g (!decide ((4:Int)=0))<|.t ((8:Int)<=(wrap .i64 (b-a))) (.t ((50:Int)<=(wrap .i64 (b-a))) (.c _ (FQ i (wrap .i64 (a+(wrap .i64 ((wrap .i64 (Int.tdiv (wrap .i64 (b-a)) 4))*(1:Int))))) e 0) λm=>.c _ (FQ i (wrap .i64 (a+(wrap .i64 ((wrap .i64 (Int.tdiv (wrap .i64 (b-a)) 4))*(2:Int))))) e m.2) λj=>.c _ (FQ i (wrap .i64 (a+(wrap .i64 ((wrap .i64 (Int.tdiv (wrap .i64 (b-a)) 4))*(3:Int))))) e j.2) λn=>.c _ (OE i m.1 j.1 n.1 e n.2) λf=>.t (f.2==0) (.l (f.1,1)) (.t (f.2==12) (.l (f.1,2)) (.l (f.1,0)))) (.c _ (OE i (wrap .i64 (a+(wrap .i64 ((wrap .i64 (Int.tdiv (wrap .i64 (b-a)) 4))*(1:Int))))) (wrap .i64 (a+(wrap .i64 ((wrap .i64 (Int.tdiv (wrap .i64 (b-a)) 4))*(2:Int))))) (wrap .i64 (a+(wrap .i64 ((wrap .i64 (Int.tdiv (wrap .i64 (b-a)) 4))*(3:Int))))) e 0) λh=>.t (h.2==0) (.l (h.1,1)) (.t (h.2==12) (.l (h.1,2)) (.l (h.1,0))))) (.t ((0:Int)==(0:Int)) (ND a b 1) (.t ((0:Int)==(12:Int)) (ND a b 2) (ND a b 0)))
def aHo b a e c:=(aEG b a e c).ev
abbrev aMx{a b c d e g:Type}{z:Type _}(f:a->b->c->d->z)(x:(a×b×c×d×e)×g):z:=f x.1.1 x.1.2.1 x.1.2.2.1 x.1.2.2.2.1
abbrev aRC:RetK:=yr [.tmp 8,.tmp 9] (yj [.dat yi,.dat yi])
def wcyu:FP prog:=aG cx func355 [aRj,aBD] (yj [.dat y2,.dat yi,.dat yi,.clo [y1,y1] yi]) [] [] (aMx aEG) aRC uE
def aEM(k:Int×qW×Int×fO)(v:Int):Tr (Int⊕Int):=.t (v<=k.2.2.1) (.g (aB v (length k.2.2.2.1))<|.g (((toNat v)<length k.2.2.2.1)&&((getD k.2.2.2.1 (toNat v) 0)<length k.2.2.2.2))<|.g (aB k.1 (length k.2.2.2.1))<|.g (((toNat k.1)<length k.2.2.2.1)&&((getD k.2.2.2.1 (toNat k.1) 0)<length k.2.2.2.2))<|.c _ (k.2.1 ((getD k.2.2.2.2 (getD k.2.2.2.1 (toNat v) 0) []),(getD k.2.2.2.2 (getD k.2.2.2.1 (toNat k.1) 0) []),())) λa=>.t (a<0) (.l (.inl (wrap .i64 (v+1)))) (.l (.inr v))) (.l (.inr v))
def aNI k v:=aC (λv=>(aEM k v).ev) v
abbrev Mp:Keep:=yk [] [0,1,4,12,13] (yj [.arr 64,.dat yi,.clo [y1,y1] yi,.dat yi,.dat yi]) [w8]
abbrev aDJ{a b c d e:Type}(k:a×b×c×d)(v:e):=(((),k.1,k.2.1,v,k.2.2.1,()),k.2.2.2,())
abbrev aHO{a b c d e g h i:Type}(t:(a×b×c×d×e×g)×h×i):=(t.1.2.1,t.1.2.2.1,t.1.2.2.2.2.1,t.2.1)
def aTE:LD:=yl (aEM) Mp [(0,Mp)] bC aDJ aHO qE (λk r=>yx 0 Mp (((),k.1,k.2.1,r,k.2.2.1,()),k.2.2.2,()))
def aFO(k:Int×qW×Int×fO)(v:Int):Tr (Int⊕Int):=.t (k.2.2.1<=v) (.g (aB v (length k.2.2.2.1))<|.g (((toNat v)<length k.2.2.2.1)&&((getD k.2.2.2.1 (toNat v) 0)<length k.2.2.2.2))<|.g (aB k.1 (length k.2.2.2.1))<|.g (((toNat k.1)<length k.2.2.2.1)&&((getD k.2.2.2.1 (toNat k.1) 0)<length k.2.2.2.2))<|.c _ (k.2.1 ((getD k.2.2.2.2 (getD k.2.2.2.1 (toNat v) 0) []),(getD k.2.2.2.2 (getD k.2.2.2.1 (toNat k.1) 0) []),())) λa=>.t (!(a<0)) (.l (.inl (wrap .i64 (v-1)))) (.l (.inr v))) (.l (.inr v))
def aKa k v:=aC (λv=>(aFO k v).ev) v
abbrev aHP{a b c d e:Type}(k:a×b×c×d)(v:e):=(((),k.1,k.2.1,k.2.2.1,v,()),k.2.2.2,())
abbrev aDh{a b c d e g h:Type}(t:(a×b×c×d×e)×g×h):=(t.1.2.1,t.1.2.2.1,t.1.2.2.2.1,t.2.1)
def aSB:LD:=yl (aFO) Mp [(2,Mp)] bC aHP aDh Ph (λk r=>yx 2 Mp (((),k.1,k.2.1,k.2.2.1,r,()),k.2.2.2,()))
def aBT(k:Int×qW×Int×fO)(v:Int):Tr (Int⊕Int):=.t (v<=k.2.2.1) (.g (aB v (length k.2.2.2.1))<|.g (((toNat v)<length k.2.2.2.1)&&((getD k.2.2.2.1 (toNat v) 0)<length k.2.2.2.2))<|.g (aB k.1 (length k.2.2.2.1))<|.g (((toNat k.1)<length k.2.2.2.1)&&((getD k.2.2.2.1 (toNat k.1) 0)<length k.2.2.2.2))<|.c _ (k.2.1 ((getD k.2.2.2.2 (getD k.2.2.2.1 (toNat v) 0) []),(getD k.2.2.2.2 (getD k.2.2.2.1 (toNat k.1) 0) []),())) λa=>.t (a<0) (.l (.inl (wrap .i64 (v+1)))) (.l (.inr v))) (.l (.inr v))
def aMr k v:=aC (λv=>(aBT k v).ev) v
def aIn:LD:=yl (aBT) Mp [(6,Mp)] bC aDJ aHO qE (λk r=>yx 6 Mp (((),k.1,k.2.1,r,k.2.2.1,()),k.2.2.2,()))
def aAE(k:Int×qW×Int×fO)(v:Int):Tr (Int⊕Int):=.t (k.2.2.1<=v) (.g (aB v (length k.2.2.2.1))<|.g (((toNat v)<length k.2.2.2.1)&&((getD k.2.2.2.1 (toNat v) 0)<length k.2.2.2.2))<|.g (aB k.1 (length k.2.2.2.1))<|.g (((toNat k.1)<length k.2.2.2.1)&&((getD k.2.2.2.1 (toNat k.1) 0)<length k.2.2.2.2))<|.c _ (k.2.1 ((getD k.2.2.2.2 (getD k.2.2.2.1 (toNat v) 0) []),(getD k.2.2.2.2 (getD k.2.2.2.1 (toNat k.1) 0) []),())) λa=>.t (!(a<0)) (.l (.inl (wrap .i64 (v-1)))) (.l (.inr v))) (.l (.inr v))
def aQK k v:=aC (λv=>(aAE k v).ev) v
def aUg:LD:=yl (aAE) Mp [(8,Mp)] bC aHP aDh Ph (λk r=>yx 8 Mp (((),k.1,k.2.1,k.2.2.1,r,()),k.2.2.2,()))
def aAb(k:Int×qW)(v:Int×Int×fO):Tr ((Int×Int×fO)⊕(Int×fO)):=.c _ (aMr (k.1,k.2,v.2.1,v.2.2) v.1) λb=>.c _ (aQK (k.1,k.2,b,v.2.2) v.2.1) λa=>.t (a<b) (.l (.inr (a,v.2.2))) (.g (aB a (length v.2.2.1))<|.g (((toNat a)<length v.2.2.1)&&((getD v.2.2.1 (toNat a) 0)<length v.2.2.2))<|.g (aB b (length v.2.2.1))<|.g (((toNat b)<length v.2.2.1)&&((getD v.2.2.1 (toNat b) 0)<length v.2.2.2))<|.g (aB b (length v.2.2.1))<|.g ((toNat b)<length v.2.2.1)<|.g (aB a (length (set v.2.2.1 (toNat b) (getD v.2.2.1 (toNat a) 0))))<|.g ((toNat a)<length (set v.2.2.1 (toNat b) (getD v.2.2.1 (toNat a) 0)))<|.l (.inl ((wrap .i64 (b+1)),(wrap .i64 (a-1)),(set (set v.2.2.1 (toNat b) (getD v.2.2.1 (toNat a) 0)) (toNat a) (getD v.2.2.1 (toNat b) 0)),v.2.2.2)))
def aTW k v:=aC (λv=>(aAb k v).ev) v
abbrev aAQ:Keep:=yk [] [0,1,13] (yj [.arr 64,.dat yi,.dat yi]) [w8]
abbrev aUI{a b c d e:Type}(k:a×b)(v:c×d×e):=(((),k.1,k.2,v.1,v.2.1,()),v.2.2,())
def aUx:LD:=yl (aAb) Mp [(4,aAQ)] bC aUI C6 aDW (λk r=>yx 4 aAQ (((),k.1,r.1,()),r.2,()))
def aHB(b m e:Int)(j:qW)(a:(List Nat)×Y2):Tr (Int×Bool×fO):=.g (aB e (length a.1))<|.g (((toNat e)<length a.1)&&((getD a.1 (toNat e) 0)<length a.2))<|.g (aB b (length a.1))<|.g (((toNat b)<length a.1)&&((getD a.1 (toNat b) 0)<length a.2))<|.g (aB b (length a.1))<|.g ((toNat b)<length a.1)<|.g (aB e (length (set a.1 (toNat b) (getD a.1 (toNat e) 0))))<|.g ((toNat e)<length (set a.1 (toNat b) (getD a.1 (toNat e) 0)))<|.c _ (aNI (b,j,(wrap .i64 (m-1)),(set (set a.1 (toNat b) (getD a.1 (toNat e) 0)) (toNat e) (getD a.1 (toNat b) 0)),a.2) (wrap .i64 (b+1))) λi=>.c _ (aKa (b,j,i,(set (set a.1 (toNat b) (getD a.1 (toNat e) 0)) (toNat e) (getD a.1 (toNat b) 0)),a.2) (wrap .i64 (m-1))) λh=>.t (h<i) (.g (aB b (length (set (set a.1 (toNat b) (getD a.1 (toNat e) 0)) (toNat e) (getD a.1 (toNat b) 0))))<|.g (((toNat b)<length (set (set a.1 (toNat b) (getD a.1 (toNat e) 0)) (toNat e) (getD a.1 (toNat b) 0)))&&((getD (set (set a.1 (toNat b) (getD a.1 (toNat e) 0)) (toNat e) (getD a.1 (toNat b) 0)) (toNat b) 0)<length a.2))<|.g (aB h (length (set (set a.1 (toNat b) (getD a.1 (toNat e) 0)) (toNat e) (getD a.1 (toNat b) 0))))<|.g (((toNat h)<length (set (set a.1 (toNat b) (getD a.1 (toNat e) 0)) (toNat e) (getD a.1 (toNat b) 0)))&&((getD (set (set a.1 (toNat b) (getD a.1 (toNat e) 0)) (toNat e) (getD a.1 (toNat b) 0)) (toNat h) 0)<length a.2))<|.g (aB h (length (set (set a.1 (toNat b) (getD a.1 (toNat e) 0)) (toNat e) (getD a.1 (toNat b) 0))))<|.g ((toNat h)<length (set (set a.1 (toNat b) (getD a.1 (toNat e) 0)) (toNat e) (getD a.1 (toNat b) 0)))<|.g (aB b (length (set (set (set a.1 (toNat b) (getD a.1 (toNat e) 0)) (toNat e) (getD a.1 (toNat b) 0)) (toNat h) (getD (set (set a.1 (toNat b) (getD a.1 (toNat e) 0)) (toNat e) (getD a.1 (toNat b) 0)) (toNat b) 0))))<|.g ((toNat b)<length (set (set (set a.1 (toNat b) (getD a.1 (toNat e) 0)) (toNat e) (getD a.1 (toNat b) 0)) (toNat h) (getD (set (set a.1 (toNat b) (getD a.1 (toNat e) 0)) (toNat e) (getD a.1 (toNat b) 0)) (toNat b) 0)))<|.l (h,true,(set (set (set (set a.1 (toNat b) (getD a.1 (toNat e) 0)) (toNat e) (getD a.1 (toNat b) 0)) (toNat h) (getD (set (set a.1 (toNat b) (getD a.1 (toNat e) 0)) (toNat e) (getD a.1 (toNat b) 0)) (toNat b) 0)) (toNat b) (getD (set (set a.1 (toNat b) (getD a.1 (toNat e) 0)) (toNat e) (getD a.1 (toNat b) 0)) (toNat h) 0)),a.2)) (.g (aB h (length (set (set a.1 (toNat b) (getD a.1 (toNat e) 0)) (toNat e) (getD a.1 (toNat b) 0))))<|.g (((toNat h)<length (set (set a.1 (toNat b) (getD a.1 (toNat e) 0)) (toNat e) (getD a.1 (toNat b) 0)))&&((getD (set (set a.1 (toNat b) (getD a.1 (toNat e) 0)) (toNat e) (getD a.1 (toNat b) 0)) (toNat h) 0)<length a.2))<|.g (aB i (length (set (set a.1 (toNat b) (getD a.1 (toNat e) 0)) (toNat e) (getD a.1 (toNat b) 0))))<|.g (((toNat i)<length (set (set a.1 (toNat b) (getD a.1 (toNat e) 0)) (toNat e) (getD a.1 (toNat b) 0)))&&((getD (set (set a.1 (toNat b) (getD a.1 (toNat e) 0)) (toNat e) (getD a.1 (toNat b) 0)) (toNat i) 0)<length a.2))<|.g (aB i (length (set (set a.1 (toNat b) (getD a.1 (toNat e) 0)) (toNat e) (getD a.1 (toNat b) 0))))<|.g ((toNat i)<length (set (set a.1 (toNat b) (getD a.1 (toNat e) 0)) (toNat e) (getD a.1 (toNat b) 0)))<|.g (aB h (length (set (set (set a.1 (toNat b) (getD a.1 (toNat e) 0)) (toNat e) (getD a.1 (toNat b) 0)) (toNat i) (getD (set (set a.1 (toNat b) (getD a.1 (toNat e) 0)) (toNat e) (getD a.1 (toNat b) 0)) (toNat h) 0))))<|.g ((toNat h)<length (set (set (set a.1 (toNat b) (getD a.1 (toNat e) 0)) (toNat e) (getD a.1 (toNat b) 0)) (toNat i) (getD (set (set a.1 (toNat b) (getD a.1 (toNat e) 0)) (toNat e) (getD a.1 (toNat b) 0)) (toNat h) 0)))<|.c _ (aTW (b,j) ((wrap .i64 (i+1)),(wrap .i64 (h-1)),(set (set (set (set a.1 (toNat b) (getD a.1 (toNat e) 0)) (toNat e) (getD a.1 (toNat b) 0)) (toNat i) (getD (set (set a.1 (toNat b) (getD a.1 (toNat e) 0)) (toNat e) (getD a.1 (toNat b) 0)) (toNat h) 0)) (toNat h) (getD (set (set a.1 (toNat b) (getD a.1 (toNat e) 0)) (toNat e) (getD a.1 (toNat b) 0)) (toNat i) 0)),a.2)) λf=>.g (aB b (length f.2.1))<|.g (((toNat b)<length f.2.1)&&((getD f.2.1 (toNat b) 0)<length f.2.2))<|.g (aB f.1 (length f.2.1))<|.g (((toNat f.1)<length f.2.1)&&((getD f.2.1 (toNat f.1) 0)<length f.2.2))<|.g (aB f.1 (length f.2.1))<|.g ((toNat f.1)<length f.2.1)<|.g (aB b (length (set f.2.1 (toNat f.1) (getD f.2.1 (toNat b) 0))))<|.g ((toNat b)<length (set f.2.1 (toNat f.1) (getD f.2.1 (toNat b) 0)))<|.l (f.1,false,(set (set f.2.1 (toNat f.1) (getD f.2.1 (toNat b) 0)) (toNat b) (getD f.2.1 (toNat f.1) 0)),f.2.2))
def aHG c f a b e:=(aHB c f a b e).ev
abbrev aRk{a b c d e g h i:Type}{z:Type _}(f:b->c->d->e->h->z)(x:(a×b×c×d×e×g)×h×i):z:=f x.1.2.1 x.1.2.2.1 x.1.2.2.2.1 x.1.2.2.2.2.1 x.2.1
abbrev aPj:RetK:=⟨[],[.tmp 10,.tmp 11],(yj [.dat yi,.dat .bool]),[w8],[(0,0,64)],[]⟩
abbrev aKy{a b c:Type}(r:a×b×c):=((r.1,r.2.1,()),r.2.2,())
def wczc:FP prog:=aG cx func359 [] (yj [.arr 64,.dat yi,.dat yi,.dat yi,.clo [y1,y1] yi]) [w8] [.arg 0] (aRk aHB) aPj aKy bU [(0,aTE),(2,aSB),(6,aIn),(8,aUg),(4,aUx)]
noncomputable abbrev aBx(p1 p2 p3:Int)(p4:HL [y1,y1]->Option Int)(p5:(List Nat)×Y2)(p6:(Int)->(Int)->(Int)->(qW)->fO->Option fO)(p7:Int):=(.c _ (aHG p1 p2 p3 p4 p5) λa=>.g (!decide ((8:Int)=0))<|.t ((wrap .i64 (a.1-p1))<(wrap .i64 (p2-a.1))) (.c _ (p6 p1 a.1 (wrap .i64 (p7-1)) p4 a.2.2) λe=>.l (.inl ((wrap .i64 (a.1+1)),p2,(wrap .i64 (p7-1)),((wrap .i64 (Int.tdiv (wrap .i64 (p2-p1)) 8))<=(wrap .i64 (a.1-p1))),a.2.1,e))) (.c _ (p6 (wrap .i64 (a.1+1)) p2 (wrap .i64 (p7-1)) p4 a.2.2) λb=>.l (.inl (p1,a.1,(wrap .i64 (p7-1)),((wrap .i64 (Int.tdiv (wrap .i64 (p2-p1)) 8))<=(wrap .i64 (p2-a.1))),a.2.1,b))):Tr ((Int×Ybo)⊕fO))
noncomputable abbrev TF(p1:Int)(p2:List Nat)(p3:List Y1)(p4:Int)(p5:HL [y1,y1]->Option Int)(p6:Int)(p7:(List Nat)×Y2)(p8:(Int)->(Int)->(Int)->(qW)->fO->Option fO)(p9:Int):=(.t (0<p1) (.g (aB (wrap .i64 (p1-1)) (length p2))<|.g (((toNat (wrap .i64 (p1-1)))<length p2)&&((getD p2 (toNat (wrap .i64 (p1-1))) 0)<length p3))<|.g (aB p4 (length p2))<|.g (((toNat p4)<length p2)&&((getD p2 (toNat p4) 0)<length p3))<|.c _ (p5 ((getD p3 (getD p2 (toNat (wrap .i64 (p1-1))) 0) []),(getD p3 (getD p2 (toNat p4) 0) []),())) λa=>.t (!(a<0)) (.f) (aBx p1 p6 p4 p5 p7 p8 p9)) (aBx p1 p6 p4 p5 p7 p8 p9):Tr ((Int×Ybo)⊕fO))
noncomputable abbrev aFb(p1 p2 p3:Int)(p4:HL [y1,y1]->Option Int)(p5:(List Nat)×Y2)(p6:(Int)->(Int)->(Int)->(qW)->fO->Option fO)(p7:Int):=(.c _ (aHG p1 p2 p3 p4 p5) λa=>.g (!decide ((8:Int)=0))<|.t ((wrap .i64 (a.1-p1))<(wrap .i64 (p2-a.1))) (.c _ (p6 p1 a.1 p7 p4 a.2.2) λe=>.l (.inl ((wrap .i64 (a.1+1)),p2,p7,((wrap .i64 (Int.tdiv (wrap .i64 (p2-p1)) 8))<=(wrap .i64 (a.1-p1))),a.2.1,e))) (.c _ (p6 (wrap .i64 (a.1+1)) p2 p7 p4 a.2.2) λb=>.l (.inl (p1,a.1,p7,((wrap .i64 (Int.tdiv (wrap .i64 (p2-p1)) 8))<=(wrap .i64 (p2-a.1))),a.2.1,b))):Tr ((Int×Ybo)⊕fO))
noncomputable abbrev HA(p1:Int)(p2:List Nat)(p3:List Y1)(p4:Int)(p5:HL [y1,y1]->Option Int)(p6:Int)(p7:(List Nat)×Y2)(p8:(Int)->(Int)->(Int)->(qW)->fO->Option fO)(p9:Int):=(.t (0<p1) (.g (aB (wrap .i64 (p1-1)) (length p2))<|.g (((toNat (wrap .i64 (p1-1)))<length p2)&&((getD p2 (toNat (wrap .i64 (p1-1))) 0)<length p3))<|.g (aB p4 (length p2))<|.g (((toNat p4)<length p2)&&((getD p2 (toNat p4) 0)<length p3))<|.c _ (p5 ((getD p3 (getD p2 (toNat (wrap .i64 (p1-1))) 0) []),(getD p3 (getD p2 (toNat p4) 0) []),())) λa=>.t (!(a<0)) (.f) (aFb p1 p6 p4 p5 p7 p8 p9)) (aFb p1 p6 p4 p5 p7 p8 p9):Tr ((Int×Ybo)⊕fO))
def aCP(b:(Int)->(Int)->(Int)->(qW)->fO->Option fO)(k:qW)(v:Int×Ybo):Tr ((Int×Ybo)⊕fO):=.t ((wrap .i64 (v.2.1-v.1))<=(12:Int)) (.c _ (aRY v.1 v.2.1 k v.2.2.2.2.2) λh=>.l (.inr h)) (.t (v.2.2.1==0) (.f) (.t (!v.2.2.2.1) (.c _ (aLV v.1 v.2.1 k v.2.2.2.2.2) λa=>.c _ (aHo (bG a.1 a.2) v.1 v.2.1 k) λg=>.t (g.2==2) (.f) (.t v.2.2.2.1 (.t v.2.2.2.2.1 (.t (g.2==1) (.f) (TF v.1 a.1 a.2 g.1 k v.2.1 a b v.2.2.1)) (TF v.1 a.1 a.2 g.1 k v.2.1 a b v.2.2.1)) (TF v.1 a.1 a.2 g.1 k v.2.1 a b v.2.2.1))) (.c _ (aHo (bG v.2.2.2.2.2.1 v.2.2.2.2.2.2) v.1 v.2.1 k) λe=>.t (e.2==2) (.f) (.t v.2.2.2.1 (.t v.2.2.2.2.1 (.t (e.2==1) (.f) (HA v.1 v.2.2.2.2.2.1 v.2.2.2.2.2.2 e.1 k v.2.1 v.2.2.2.2.2 b v.2.2.1)) (HA v.1 v.2.2.2.2.2.1 v.2.2.2.2.2.2 e.1 k v.2.1 v.2.2.2.2.2 b v.2.2.1)) (HA v.1 v.2.2.2.2.2.1 v.2.2.2.2.2.2 e.1 k v.2.1 v.2.2.2.2.2 b v.2.2.1)))))
def aNE(a:(Int)->(Int)->(Int)->(qW)->fO->Option fO) k v:=aC (λv=>(aCP a k v).ev) v
abbrev aNt:Keep:=yk [] [0,1,2,3,4,10,11] (yj [.arr 64,.dat yi,.dat yi,.dat yi,.clo [y1,y1] yi,.dat .bool,.dat .bool]) [w8]
abbrev aTO{a b c d e g h:Type}(k:a)(v:b×c×d×e×g×h):=(((),v.1,v.2.1,v.2.2.1,k,v.2.2.2.1,v.2.2.2.2.1,()),v.2.2.2.2.2,())
abbrev aHW{a b c d e g h i j l:Type}(t:(a×b×c×d×e×g×h×i)×j×l):=(t.1.2.1,t.1.2.2.1,t.1.2.2.2.1,t.1.2.2.2.2.2.1,t.1.2.2.2.2.2.2.1,t.2.1)
def aCG(a:(Int)->(Int)->(Int)->(qW)->fO->Option fO):LD:=yl (aCP a) aNt [] Ke aTO Ph aHW (λ_ r=>yz Ke (((),()),r,()))
def aCl(h:(Int)->(Int)->(Int)->(qW)->fO->Option fO)(e i a:Int)(b:qW)(g:(List Nat)×Y2):Tr fO:=.c _ (aNE h b (e,i,a,true,true,g)) λf=>.l f
noncomputable def En:Nat->(Int)->(Int)->(Int)->(qW)->fO->Option fO |0=>λ_ _ _ _ _=>none |n+1=>λc f a b e=>(aCl (En n) c f a b e).ev
def aJG:RetK:= {acts:=[],res:=[],sh:=.nil,obs:=[w8],pins:=[(0,0,64)]}
def aBq(a:(Int)->(Int)->(Int)->(qW)->fO->Option fO):FD:={A:=(yj [.arr 64,.dat yi,.dat yi,.dat yi,.clo [y1,y1] yi]),ins:=[w8],lend:=[.arg 0],R:=(List Nat)×Y2,F:=λx=>a x.1.2.1 x.1.2.2.1 x.1.2.2.2.1 x.1.2.2.2.2.1 x.2.1,emb:=λr=>([],[(64,.perm false 22 3 yi r.1 r.2)])}
def aAX(n:Nat):FD:=aBq (En n)
def LK(a:(Int)->(Int)->(Int)->(qW)->fO->Option fO):Env:=nF [wcyj.1,wcyn.1,wcyu.1,wczc.1,(309,aBq a)]
def HT(a:(Int)->(Int)->(Int)->(qW)->fO->Option fO):List (Nat×LD):=[(0,aCG a)]
def IJ:Code:=(f309.body).getD .skip
theorem aTr(a:(Int)->(Int)->(Int)->(qW)->fO->Option fO):(aCG a).OK (LK a) tt bU (fD (HT a)) (oL IJ 0):=Io (λ_=>rfl) λ_ _=>by kernel_rfl
theorem aRZ(a:(Int)->(Int)->(Int)->(qW)->fO->Option fO):eM (LK a) tt bU (HT a) IJ:=Rz (by kernel_rfl) (lpC (aTr a) lpN)
theorem aGI:∀n:Nat,dV prog (309,aAX n) |0=>λ_ _ h=>nomatch h |n+1=>Va mixed (uT (Ng wcyj.2 (Ng wcyn.2 (Ng wcyu.2 (Ng wczc.2 (Ng (aGI n) fdN)))))) Vh (aGd (aAX (n+1)) (LK (En n)) aJG bU (HT (En n)) IJ (λx=>aCl (En n) x.1.2.1 x.1.2.2.1 x.1.2.2.2.1 x.1.2.2.2.2.1 x.2.1) (λr=>((),r,())) func309 (aRZ (En n)) λ_=>by kernel_rfl)
def aSN:FP prog:=⟨_,aGI 1000000⟩
end
end Go.Proofs.YteiekijgoifhoaaGreatDoor
