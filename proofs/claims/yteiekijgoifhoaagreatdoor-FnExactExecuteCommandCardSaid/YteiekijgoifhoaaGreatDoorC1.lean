/- A part of the proof that FnExactExecuteCommand hands back true, at every argument of the row. -/
import Derived.Test.YteiekijgoifhoaaGreatDoorC4
namespace Go.Proofs.YteiekijgoifhoaaGreatDoor
set_option linter.all false
noncomputable section
open Go.Proofs.Tryz
open List (length getD set)
open Int (toNat)
open IntKind (wrap)
def aDZ(e:qW)(a:(List Nat)×Y2):Tr fO:=.c _ (Wq (wrap .u64 (length a.1:Int))) λf=>.c _ (En 1000000 0 (length a.1:Int) f e a) λb=>.l b
def aKZ a b:=(aDZ a b).ev
abbrev Ij{a b c d e:Type}{z:Type _}(f:b->d->z)(x:(a×b×c)×d×e):z:=f x.1.2.1 x.2.1
def aAC:FP prog:=aG cx func236 [KE,aSN] (yj [.arr 64,.clo [y1,y1] yi]) [w8] [.arg 0] (Ij aDZ) FC H1
def Oe(a:Int):Tr Bool:=.l (a !=a)
def L7 a:=(Oe a).ev
def aCs:FP prog:=aG cx func172 [] eN [] [] (qH Oe) qY bH
def AD(b a:Int):Tr Int:=.c _ (L7 b) λf=>.c _ (L7 a) λe=>.t f (.t e (.l 0) (.l (-1))) (.t e (.l 1) (.t (b<a) (.l (-1)) (.t (a<b) (.l 1) (.l 0))))
def Be b a:=(AD b a).ev
def YL:FP prog:=aG cx func97 [aCs] (yj [.dat yi,.dat yi]) [] [] (kJ AD) pG bH
def wtn(k:Y1×Y1×Y1×Int)(v:Int):Tr (Int⊕(Unit⊕Int)):=.t (v<k.2.2.2) (.g (aB v (length k.2.2.1))<|.t ((length k.2.1:Int)<=v) (.l (.inr (.inr 1))) (.g (aB v (length k.2.1))<|.c _ (Be (getD k.2.2.1 (toNat v) 0) (getD k.2.1 (toNat v) 0)) λa=>.t (a != (0:Int)) (.l (.inr (.inr a))) (.l (.inl (wrap .i64 (v+1)))))) (.l (.inr (.inl ())))
def aHQ k v:=aC (λv=>(wtn k v).ev) v
abbrev aUO:Keep:=yh [0,1,9,10,11] (yj [.dat y1,.dat y1,.dat y1,.dat yi,.dat yi])
abbrev aBu:Keep:=yh [0,1] (yj [.dat y1,.dat y1])
def aOP:LD:=yl (wtn) aUO [(0,aBu)] Aj aEh aFa Ph (λk r=>.s _ _ r (λ_=>yx 0 aBu ((k.1,k.2.1,()),())) (λb=>yz Aj ((b,()),())))
def QW(a b:Y1):Tr Int:=.c _ (aHQ (a,b,a,(length a:Int)) 0) λf=>.s _ _ f (λ_=>.t ((length a:Int)<(length b:Int)) (.l (-1)) (.l 0)) (λe=>.l e)
def DK b a:=(QW b a).ev
def aFU:FP prog:=aG cx func311 [YL] (yj [.dat y1,.dat y1]) [] [] (kJ QW) pG bH bU [(0,aOP)]
def aAT(k:Int×Y1×Int)(v:Int):Tr (Int⊕(Unit⊕Int)):=.t (v<k.2.2) (.g (aB v (length k.2.1))<|.t ((getD k.2.1 (toNat v) 0) !=k.1) (.l (.inr (.inr (getD k.2.1 (toNat v) 0)))) (.l (.inl (wrap .i64 (v+1))))) (.l (.inr (.inl ())))
def aUu k v:=aC (λv=>(aAT k v).ev) v
abbrev aCr:Keep:=yh [2] eN
def aLO:LD:=yl (aAT) aGU [(0,qB)] aCr W4 U3 qE (λk r=>.s _ _ r (λ_=>yx 0 qB ((k.1,()),())) (λb=>yz aCr ((b,()),())))
def aFK(a:Y1):Tr Int:=.c _ (aUu (0,a,(length a:Int)) 0) λe=>.s _ _ e (λ_=>.l 0) (λb=>.l b)
def aLU a:=(aFK a).ev
def aQO:FP prog:=aG cx func310 [] N1 [] [] (qH aFK) wR bH bU [(0,aLO)]
def aEP(b a:Y1):Tr Int:=.c _ (Be (length b:Int) (length a:Int)) λf=>.c _ (DK b a) λe=>.c _ (aLU ([f,e]:Y1)) λg=>.l g
def aSM b a:=(aEP b a).ev
def aJx:FP prog:=aG cx func237 [YL,aFU,aQO] (yj [.dat y1,.dat y1]) [] [] (kJ aEP) pG bH
def aDy(k:Int)(v:Int×Y2):Tr ((Int×Y2)⊕Y2):=.g (0<=k)<|.t (v.1<(wrap .u64 ((1:Int)*2^(min (toNat k) bK)))) (.c _ (Rp v.1) λa=>.g ((length v.2+1)*24<=140737488355328)<|.l (.inl ((wrap .u64 (v.1+1)),(set (v.2++ [[]]) (length v.2) a)))) (.l (.inr v.2))
def aIg k v:=aC (λv=>(aDy k v).ev) v
abbrev aKv:Keep:=yk [] [0,3,4] (yj [.dat yi,.arr 5,.dat (.int .u64)]) [(5,.rows 22 3 yi)]
abbrev aDe:Keep:=yk [] [3] (yj [.arr 5]) [(5,.rows 22 3 yi)]
def aUF:LD:=yl (aDy) aKv [(0,aDe)] bC Ec R2 Eo (λ_ r=>yx 0 aDe (((),()),r,()))
def aBS(g:Int):Tr fO:=.c _ (aIg g (1,[])) λa=>.c _ (aKZ (λb=>Option.bind (aSM b.1 b.2.1) λe=>some e) ((List.range (length a)),a)) λf=>.l f
def Ly a:=(aBS a).ev
abbrev aVo:RetK:=⟨[.ren 5 0],[.tmp 2],zY,[(0,.perm 22 3 yi)],[],[]⟩
def XM:FP prog:=aG cx func158 [wapv,aAC,aAC,aJx] eN [] [] (qH aBS) aVo xJ (Fq [(1,[(0,[1000000])]),(6,[(1,[80000017])])]) [(0,aUF)]
def wto(k:((HL [y1]->Option Int))×Int×fO)(v:(Nat)×Int):Tr ((Nat×Int)⊕Nat):=.t (v.2<k.2.1) (.g (aB v.2 (length k.2.2.1))<|.g (((toNat v.2)<length k.2.2.1)&&((getD k.2.2.1 (toNat v.2) 0)<length k.2.2.2))<|.c _ (k.1 ((getD k.2.2.2 (getD k.2.2.1 (toNat v.2) 0) []),())) λa=>.c _ (k.1 ((getD k.2.2.2 v.1 []),())) λb=>.t (a<b) (.l (.inl ((getD k.2.2.1 (toNat v.2) 0),(wrap .i64 (v.2+1))))) (.l (.inl (v.1,(wrap .i64 (v.2+1)))))) (.l (.inr v.1))
def aHN k v:=aC (λv=>(wto k v).ev) v
abbrev aQz:Keep:=yk [] [0,1,5,11,12,13] (yj [.arr 64,.clo [y1] yi,.row 64,.arr 64,.dat yi,.dat yi]) [w8]
abbrev aHF:Keep:=yk [] [0,5] (yj [.arr 64,.row 64]) [w8]
abbrev aVN{a b c d e:Type}(k:a×b×c)(v:d×e):=(((),k.1,v.1,(),k.2.1,v.2,()),k.2.2,())
abbrev aKh{a b c d e g h i:Type}(t:(a×b×c×d×e×g)×h×i):=(t.1.2.1,t.1.2.2.2.2.1,t.2.1)
def aJw:LD:=yl (wto) aQz [(0,aHF)] bC aVN aKh SX (λk r=>yx 0 aHF (((),r,()),k.2.2,()))
def TG(b:(HL [y1]->Option Int))(a:(List Nat)×Y2):Tr Y1:=.g (aB 0 (length a.1))<|.g (((toNat 0)<length a.1)&&((getD a.1 (toNat 0) 0)<length a.2))<|.c _ (aHN (b,(length a.1:Int),a) ((getD a.1 (toNat 0) 0),0)) λe=>.l (getD a.2 e [])
def Nv a b:=(TG a b).ev
abbrev aQA:RetK:=⟨[.pull 4 800000,.ren 800000 0],[.tmp 4],zY,[rS],[],[64]⟩
def Id:FP prog:=aG cx func90 [] (yj [.arr 64,.clo [y1] yi]) [w8] [.arg 0] (Ij TG) aQA xJ bU [(0,aJw)]
def IU(a:Y1)(b:List Y1):Tr o5:=.c _ (Ge a b) λh=>.t (!h) (.l (false,[])) (.c _ (Ly (length a:Int)) λe=>.c _ (Nv (λf=>Option.bind (Nz a b f.1) λi=>some i) e) λg=>.l (true,g))
def XK b a:=(IU b a).ev
abbrev aJW:RetK:=⟨[.own 2 0 3 yi,.ren 832 0],[.tmp 2,.tmp 3],Kr,[rS],[],[]⟩
def aMW:FP prog:=aG cx func271 [s9,XM,Id,Id,wavt] (yj [.agg bR]) [] [] (g7 IU) aJW qD
def Ui(k:Bool×Y1×Int×Int×Int×Y1×Fv)(v:Int×Y2):Tr ((Int×Y2)⊕Y2):=.t (v.1<k.2.2.1) (.g (aB v.1 (length k.2.1))<|.g (aB v.1 (length v.2))<|.g ((toNat v.1)<length v.2)<|.g ((length (getD v.2 (toNat v.1) [])+length ([(getD k.2.1 (toNat v.1) 0)]:Y1))*8<=140737488355328)<|.g (aB v.1 (length v.2))<|.g (((toNat v.1)<length v.2)&&((toNat v.1)=(toNat v.1)))<|.l (.inl ((wrap .i64 (v.1+1)),(set v.2 (toNat v.1) ((getD v.2 (toNat v.1) [])++([(getD k.2.1 (toNat v.1) 0)]:Y1)))))) (.l (.inr v.2))
def FV k v:=aC (λv=>(Ui k v).ev) v
abbrev aKi:Keep:=yk [.ownB 4 0 901340 3 yi,.ownB 4 2 901342 3 yi] [4,6,9,165,166,167] (yj [.box 4 0,.box 6 0,.dat .bool,.dat y1,.dat yi,.dat yi]) [Zbp,(6,.cells (yj [.arr 1859,.arr 1860,.arr 1861,.dat yi])),(901340,.arr 3 yi),(901342,.arr 3 yi),(1859,.arr 3 yi),(1860,.rows 22 3 yi),(1861,.arr 3 yi)]
abbrev aGv:Keep:=yk [] [4,6,9] (yj [.box 4 0,.box 6 0,.dat .bool]) [Zbp,(6,.cells (yj [.arr 1859,.arr 1860,.arr 1861,.dat yi])),(901340,.arr 3 yi),(901342,.arr 3 yi),(1859,.arr 3 yi),(1860,.rows 22 3 yi),(1861,.arr 3 yi)]
abbrev aRw{a b c d e g h i j l m:Type}(k:a×b×c×d×e×g×h×i×j)(v:l×m):=(((),(),k.1,k.2.1,k.2.2.1,v.1,()),((),(),(),k.2.2.2.1,()),((),(),(),k.2.2.2.2.1,()),k.2.2.2.2.2.1,k.2.2.2.2.2.2.1,k.2.2.2.2.2.2.2.1,v.2,k.2.2.2.2.2.2.2.2,())
abbrev aPX{a b c d e g h i j l m n o p q s t u w a19 a20 a21:Type}(t:(a×b×c×d×e×g)×(h×i×j×l×m)×(n×o×p×q×s)×t×u×w×a19×a20×a21):=(t.1.2.2.1,t.1.2.2.2.1,t.1.2.2.2.2.1,t.2.1.2.2.2.1,t.2.2.1.2.2.2.1,t.2.2.2.1,t.2.2.2.2.1,t.2.2.2.2.2.1,t.2.2.2.2.2.2.2.1)
abbrev aLm{a b c d e g h i j l m n o p:Type}(t:(a×b×c×d×e×g×h)×i×j×l×m×n×o×p):=(t.1.2.2.2.2.2.1,t.2.2.2.2.2.2.1)
def aKn:LD:=yl Ui aKi [(1,aGv)] bC aRw aPX aLm (λk r=>yx 1 aGv (((),(),k.1,()),((),(),(),k.2.2.2.1,()),((),(),(),k.2.2.2.2.1,()),k.2.2.2.2.2.1,k.2.2.2.2.2.2.1,k.2.2.2.2.2.2.2.1,r,k.2.2.2.2.2.2.2.2,()))
def Ua(k:Int×Bool×Int×Int×Int×Y1×Y1)(v:Int×Y2):Tr ((Int×Y2)⊕Y2):=.t (v.1<k.2.2.1) (.g (aB v.1 (length v.2))<|.g ((toNat v.1)<length v.2)<|.c _ (BT k.1 (wrap .i64 (k.1+1)) (getD v.2 (toNat v.1) [])) λa=>.g (aB v.1 (length v.2))<|.g (((toNat v.1)<length v.2)&&((toNat v.1)=(toNat v.1)))<|.l (.inl ((wrap .i64 (v.1+1)),(set v.2 (toNat v.1) a)))) (.l (.inr v.2))
def aGP k v:=aC (λv=>(Ua k v).ev) v
abbrev aRu:Keep:=yk [] [4,6,7,9,222,223,224] (yj [.box 4 0,.box 6 0,.dat yi,.dat .bool,.arr 1860,.dat yi,.dat yi]) [Wc,Zbq,(1860,.rows 22 3 yi),(13888,.arr 3 yi),(1861,.arr 3 yi)]
abbrev aEi:Keep:=yk [] [4,6,7,9] (yj [.box 4 0,.box 6 0,.dat yi,.dat .bool]) [Wc,Zbq,(13888,.arr 3 yi),(1860,.rows 22 3 yi),(1861,.arr 3 yi)]
abbrev aCZ{a b c d e g h i j:Type}(k:a×b×c×d×e×g×h)(v:i×j):=(((),(),k.1,k.2.1,(),k.2.2.1,v.1,()),((),(),(),k.2.2.2.1,()),((),(),(),k.2.2.2.2.1,()),v.2,k.2.2.2.2.2.1,k.2.2.2.2.2.2,())
abbrev aBN{a b c d e g h i j l m n o p q s t u w a19 a20:Type}(t:(a×b×c×d×e×g×h)×(i×j×l×m×n)×(o×p×q×s×t)×u×w×a19×a20):=(t.1.2.2.1,t.1.2.2.2.1,t.1.2.2.2.2.2.1,t.2.1.2.2.2.1,t.2.2.1.2.2.2.1,t.2.2.2.2.1,t.2.2.2.2.2.1)
abbrev WM{a b c d e g h i j l m n:Type}(t:(a×b×c×d×e×g×h×i)×j×l×m×n):=(t.1.2.2.2.2.2.2.1,t.2.2.2.1)
def aIm:LD:=yl (Ua) aRu [(3,aEi)] bC aCZ aBN WM (λk r=>yx 3 aEi (((),(),k.1,k.2.1,()),((),(),(),k.2.2.2.1,()),((),(),(),k.2.2.2.2.1,()),k.2.2.2.2.2.1,r,k.2.2.2.2.2.2,()))
def Mz(k:Int×Bool×Int×Int×o7)(v:Int×Y1):Tr (gI⊕Y1):=.t (v.1<k.2.2.1) (.g (aB v.1 (length v.2))<|.g ((toNat v.1)<length v.2)<|.t (k.1<(getD v.2 (toNat v.1) 0)) (.g (aB v.1 (length v.2))<|.g ((toNat v.1)<length v.2)<|.g (aB v.1 (length v.2))<|.g ((toNat v.1)<length v.2)<|.l (.inl ((wrap .i64 (v.1+1)),(set v.2 (toNat v.1) (wrap .i64 ((getD v.2 (toNat v.1) 0) -1)))))) (.l (.inl ((wrap .i64 (v.1+1)),v.2)))) (.l (.inr v.2))
def aHb k v:=aC (λv=>(Mz k v).ev) v
abbrev aSX:Keep:=yk [] [4,6,7,9,241,242,243] (yj [.box 4 0,.box 6 0,.dat yi,.dat .bool,.arr 1861,.dat yi,.dat yi]) [Wc,Zbq,(1861,.arr 3 yi),(13888,.arr 3 yi),(1860,.rows 22 3 yi)]
abbrev aGo:Keep:=yk [] [4,6,9] (yj [.box 4 0,.box 6 0,.dat .bool]) [Wc,Zbq,(13888,.arr 3 yi),(1860,.rows 22 3 yi),(1861,.arr 3 yi)]
def aVa:LD:=yl (Mz) aSX [(5,aGo)] bC aCZ aBN WM (λk r=>yx 5 aGo (((),(),k.2.1,()),((),(),(),k.2.2.2.1,()),((),(),(),k.2.2.2.2.1,()),k.2.2.2.2.2.1,k.2.2.2.2.2.2,r,()))
def UZ(i:Y1)(e:List Y1)(h:Y1)(m f b j ab:Int)(n:Y1):Tr (Int×Bool×N2):=.c _ (vP i e h m) λbm=>.t (!bm) (.l (0,false,[],[],[])) (.c _ (TR f b j ab n) λam=>.t (!am) (.l (0,false,[],[],[])) (.c _ (Kb i e h m) λa=>.c _ (Se h) λo=>.c _ (Vu b 0 (wrap .i64 ((length e:Int) -1))) λr=>.t (f==1) (.c _ (I4 b i e h m) λaq=>.t aq (.c _ (Ou o b) λz=>.t (!z) (.g (0<=b)<|.c _ (Rp (wrap .u64 (BitVec.toNat ((BitVec.ofInt bK o)||| (BitVec.ofInt bK (wrap .u64 ((1:Int)*2^(min (toNat b) bK)))))))) λag=>.t (!(!z)) (.l (0,false,[],[],[])) (.c _ (vP a.2.1 a.2.2.1 ag (wrap .i64 (a.1+1))) λbj=>.t (!bj) (.l (0,false,[],[],[])) (.l ((wrap .i64 (a.1+1)),true,a.2.1,a.2.2.1,ag)))) (.t (!(!z)) (.l (0,false,[],[],[])) (.c _ (vP a.2.1 a.2.2.1 a.2.2.2 (wrap .i64 (a.1+1))) λap=>.t (!ap) (.l (0,false,[],[],[])) (.l ((wrap .i64 (a.1+1)),true,a.2.1,a.2.2.1,a.2.2.2))))) (.l (0,false,[],[],[]))) (.t (f==2) (.c _ (I4 b i e h m) λar=>.t ar (.c _ (Ou o b) λy=>.t y (.g (0<=b)<|.c _ (Rp (wrap .u64 (BitVec.toNat ((BitVec.ofInt bK o)&&& ~~~(BitVec.ofInt bK (wrap .u64 ((1:Int)*2^(min (toNat b) bK)))))))) λaj=>.t (!y) (.l (0,false,[],[],[])) (.c _ (vP a.2.1 a.2.2.1 aj (wrap .i64 (a.1+1))) λbf=>.t (!bf) (.l (0,false,[],[],[])) (.l ((wrap .i64 (a.1+1)),true,a.2.1,a.2.2.1,aj)))) (.t (!y) (.l (0,false,[],[],[])) (.c _ (vP a.2.1 a.2.2.1 a.2.2.2 (wrap .i64 (a.1+1))) λav=>.t (!av) (.l (0,false,[],[],[])) (.l ((wrap .i64 (a.1+1)),true,a.2.1,a.2.2.1,a.2.2.2))))) (.l (0,false,[],[],[]))) (.t (f==3) (.c _ (I4 b i e h m) λay=>.t ay (.c _ (I4 j i e h m) λaz=>.t az (.c _ (Ou o b) λal=>.t al (.c _ (Ou o j) λw=>.t (!w) (.c _ (BM h b j) λaf=>.t (!(!w)) (.l (0,false,[],[],[])) (.c _ (vP a.2.1 a.2.2.1 af (wrap .i64 (a.1+1))) λba=>.t (!ba) (.l (0,false,[],[],[])) (.l ((wrap .i64 (a.1+1)),true,a.2.1,a.2.2.1,af)))) (.t (!(!w)) (.l (0,false,[],[],[])) (.c _ (vP a.2.1 a.2.2.1 a.2.2.2 (wrap .i64 (a.1+1))) λbn=>.t (!bn) (.l (0,false,[],[],[])) (.l ((wrap .i64 (a.1+1)),true,a.2.1,a.2.2.1,a.2.2.2))))) (.l (0,false,[],[],[]))) (.l (0,false,[],[],[]))) (.l (0,false,[],[],[]))) (.t (f==4) (.c _ (I4 b i e h m) λaa=>.t aa (.g (aB b (length a.2.1))<|.g ((toNat b)<length a.2.1)<|.t (!aa) (.l (0,false,[],[],[])) (.c _ (vP (set a.2.1 (toNat b) j) a.2.2.1 a.2.2.2 (wrap .i64 (a.1+1))) λbg=>.t (!bg) (.l (0,false,[],[],[])) (.l ((wrap .i64 (a.1+1)),true,(set a.2.1 (toNat b) j),a.2.2.1,a.2.2.2)))) (.t (!aa) (.l (0,false,[],[],[])) (.c _ (vP a.2.1 a.2.2.1 a.2.2.2 (wrap .i64 (a.1+1))) λbb=>.t (!bb) (.l (0,false,[],[],[])) (.l ((wrap .i64 (a.1+1)),true,a.2.1,a.2.2.1,a.2.2.2))))) (.t (f==5) (.t r (.c _ (I4 j i e h m) λs=>.t s (.g (aB b (length a.2.2.1))<|.g ((toNat b)<length a.2.2.1)<|.g (aB j (length (getD a.2.2.1 (toNat b) [])))<|.g ((toNat j)<length (getD a.2.2.1 (toNat b) []))<|.t (!s) (.l (0,false,[],[],[])) (.c _ (vP a.2.1 (set a.2.2.1 (toNat b) (set (getD a.2.2.1 (toNat b) []) (toNat j) ab)) a.2.2.2 (wrap .i64 (a.1+1))) λaw=>.t (!aw) (.l (0,false,[],[],[])) (.l ((wrap .i64 (a.1+1)),true,a.2.1,(set a.2.2.1 (toNat b) (set (getD a.2.2.1 (toNat b) []) (toNat j) ab)),a.2.2.2)))) (.t (!s) (.l (0,false,[],[],[])) (.c _ (vP a.2.1 a.2.2.1 a.2.2.2 (wrap .i64 (a.1+1))) λau=>.t (!au) (.l (0,false,[],[],[])) (.l ((wrap .i64 (a.1+1)),true,a.2.1,a.2.2.1,a.2.2.2))))) (.l (0,false,[],[],[]))) (.t (f==6) (.t ((length n:Int)==(length e:Int)) (.g ((length a.2.1+length ([b]:Y1))*8<=140737488355328)<|.c _ (FV (((length n:Int)==(length e:Int)),n,(length n:Int),0,(wrap .i64 (a.1+1)),[],[],(a.2.1++([b]:Y1)),a.2.2.2) (0,a.2.2.1)) λai=>.t (!((length n:Int)==(length e:Int))) (.l (0,false,[],[],[])) (.c _ (vP (a.2.1++([b]:Y1)) ai a.2.2.2 (wrap .i64 (a.1+1))) λbl=>.t (!bl) (.l (0,false,[],[],[])) (.l ((wrap .i64 (a.1+1)),true,(a.2.1++([b]:Y1)),ai,a.2.2.2)))) (.t (!((length n:Int)==(length e:Int))) (.l (0,false,[],[],[])) (.c _ (vP a.2.1 a.2.2.1 a.2.2.2 (wrap .i64 (a.1+1))) λbi=>.t (!bi) (.l (0,false,[],[],[])) (.l ((wrap .i64 (a.1+1)),true,a.2.1,a.2.2.1,a.2.2.2))))) (.t (f==7) (.c _ (Tc n) λah=>.g ((length a.2.2.1+1)*24<=140737488355328)<|.c _ (vP a.2.1 (set (a.2.2.1++ [[]]) (length a.2.2.1) ah) a.2.2.2 (wrap .i64 (a.1+1))) λao=>.t (!ao) (.l (0,false,[],[],[])) (.l ((wrap .i64 (a.1+1)),true,a.2.1,(set (a.2.2.1++ [[]]) (length a.2.2.1) ah),a.2.2.2))) (.t (f==8) (.c _ (I4 b i e h m) λbd=>.t bd (.c _ (Ou o b) λp=>.t (!p) (.c _ (BT b (wrap .i64 (b+1)) a.2.1) λq=>.c _ (aGP (b,(!p),(length a.2.2.1:Int),0,(wrap .i64 (a.1+1)),q,a.2.2.2) (0,a.2.2.1)) λac=>.c _ (aHb (b,(!p),(length a.2.2.2:Int),0,(wrap .i64 (a.1+1)),q,ac) (0,a.2.2.2)) λae=>.t (!(!p)) (.l (0,false,[],[],[])) (.c _ (vP q ac ae (wrap .i64 (a.1+1))) λbh=>.t (!bh) (.l (0,false,[],[],[])) (.l ((wrap .i64 (a.1+1)),true,q,ac,ae)))) (.t (!(!p)) (.l (0,false,[],[],[])) (.c _ (vP a.2.1 a.2.2.1 a.2.2.2 (wrap .i64 (a.1+1))) λan=>.t (!an) (.l (0,false,[],[],[])) (.l ((wrap .i64 (a.1+1)),true,a.2.1,a.2.2.1,a.2.2.2))))) (.l (0,false,[],[],[]))) (.t (f==9) (.t r (.c _ (aER b (wrap .i64 (b+1)) a.2.2.1) λak=>.t (!r) (.l (0,false,[],[],[])) (.c _ (vP a.2.1 ak a.2.2.2 (wrap .i64 (a.1+1))) λax=>.t (!ax) (.l (0,false,[],[],[])) (.l ((wrap .i64 (a.1+1)),true,a.2.1,ak,a.2.2.2)))) (.t (!r) (.l (0,false,[],[],[])) (.c _ (vP a.2.1 a.2.2.1 a.2.2.2 (wrap .i64 (a.1+1))) λbk=>.t (!bk) (.l (0,false,[],[],[])) (.l ((wrap .i64 (a.1+1)),true,a.2.1,a.2.2.1,a.2.2.2))))) (.t (f==10) (.c _ (TC i e h) λad=>.t (!ad.2.1) (.l (0,false,[],[],[])) (.c _ (vP a.2.1 a.2.2.1 ad.2.2 (wrap .i64 (a.1+1))) λbc=>.t (!bc) (.l (0,false,[],[],[])) (.l ((wrap .i64 (a.1+1)),true,a.2.1,a.2.2.1,ad.2.2)))) (.t (f==11) (.c _ (XK i e) λu=>.t (!u.1) (.l (0,false,[],[],[])) (.c _ (vP a.2.1 a.2.2.1 u.2 (wrap .i64 (a.1+1))) λbe=>.t (!be) (.l (0,false,[],[],[])) (.l ((wrap .i64 (a.1+1)),true,a.2.1,a.2.2.1,u.2)))) (.l (0,false,[],[],[]))))))))))))))
def TN h f j c e b i a g:=(UZ h f j c e b i a g).ev
abbrev aLr:RetK:=⟨[.ownB 4 0 5 3 yi,.ownRB 4 1 7 22 3 yi,.ownB 4 2 8 3 yi,.ren 1859 5,.ren 13888 5,.pinB 4 1 7,.pinB 4 2 8],[.cell 4 38,.tmp 5],(yj [.agg (yj [.arr 5,.arr 7,.arr 8,.dat yi]),.dat .bool]),[(5,.arr 3 yi),(7,.rows 22 3 yi),(8,.arr 3 yi)],[],[]⟩
def aMs:FP prog:=aG cx func194 [NZ,aIQ,aBG,wbpp,O8,aWz,wbpq,wapv,wcmu,CF,aRP,aQV,aOo,aMW] (yj [.agg qC,.agg EC]) [] [] (Ql UZ) aLr aFH (Fq [(48,[(0,[2000016]),(10,[5500016])])]) [(1,aKn),(3,aIm),(5,aVa)]
def Jy(b:List (List UInt8))(a:List UInt8):Option (List UInt8):=D0 b a
def aKG:FD:=fdJoin
theorem aWo:dV prog (179,aKG):=Ml
def aDI:FP prog:=⟨_,aWo⟩
def wyi(k:Y1×Int)(v:Int×(List (List UInt8))):Tr ((Int×(List (List UInt8)))⊕(List (List UInt8))):=.t (v.1<k.2) (.g (aB v.1 (length k.1))<|.c _ (Y0 (getD k.1 (toNat v.1) 0)) λa=>.g ((length v.2+length ([a]:List (List UInt8)))*16<=140737488355328)<|.l (.inl ((wrap .i64 (v.1+1)),(v.2++([a]:List (List UInt8)))))) (.l (.inr v.2))
def aGM k v:=aC (λv=>(wyi k v).ev) v
abbrev aPK:Keep:=yk [] [3,7,8,9] (yj [.arr 6,.dat y1,.dat yi,.dat yi]) [(6,.arr 9 .str)]
abbrev aGc:Keep:=yk [] [3] (yj [.arr 6]) [(6,.arr 9 .str)]
def aLP:LD:=yl (wyi) aPK [(0,aGc)] bC CE C6 Fj (λ_ r=>yx 0 aGc (((),()),r,()))
def WB(a:Y1):Tr (List UInt8):=.c _ (aGM (a,(length a:Int)) (0,[])) λb=>.c _ (Jy b ([32]:List UInt8)) λe=>.l e
def Vr a:=(WB a).ev
def aCQ:FP prog:=aG cx func272 [Vt,aDI] N1 [] [] (qH WB) Lw bH bU [(0,aLP)]
def MB(a:Y1):Tr (List UInt8):=.t ((length a:Int)==(0:Int)) (.l ([110,111,110,101]:List UInt8)) (.c _ (Vr a) λb=>.l b)
def Uk a:=(MB a).ev
def aGj:FP prog:=aG cx func195 [aCQ] N1 [] [] (qH MB) Lw bH
def xT:BY:=λi b h m j n e=>.g ((0<=e.1)&&(e.1<=(length h:Int)))<|.c _ (TN m j n i b e.2.1 e.2.2.1 e.2.2.2 (List.drop (toNat e.1) (List.take (length h) h))) λa=>.t (!a.2.1) (.l (i,[],false,m,j,n)) (.c _ (Uk a.2.2.2.2) λf=>.t (b==4) (.c _ (Y0 e.2.2.1) λr=>.l (a.1,r,true,a.2.2.1,a.2.2.2.1,a.2.2.2.2)) (.t (b==5) (.c _ (Y0 e.2.2.2) λw=>.l (a.1,w,true,a.2.2.1,a.2.2.2.1,a.2.2.2.2)) (.t (b==6) (.t (b==6) (.c _ (Y0 (length a.2.2.1:Int)) λo=>.l (a.1,o,true,a.2.2.1,a.2.2.2.1,a.2.2.2.2)) (.t (b==7) (.t (b==7) (.c _ (Y0 (length a.2.2.2.1:Int)) λs=>.l (a.1,s,true,a.2.2.1,a.2.2.2.1,a.2.2.2.2)) (.l (a.1,f,true,a.2.2.1,a.2.2.2.1,a.2.2.2.2))) (.t (b==9) (.c _ (Y0 (length a.2.2.2.1:Int)) λu=>.l (a.1,u,true,a.2.2.1,a.2.2.2.1,a.2.2.2.2)) (.l (a.1,f,true,a.2.2.1,a.2.2.2.1,a.2.2.2.2))))) (.t (b==8) (.c _ (Y0 (length a.2.2.1:Int)) λq=>.l (a.1,q,true,a.2.2.1,a.2.2.2.1,a.2.2.2.2)) (.t (b==7) (.t (b==7) (.c _ (Y0 (length a.2.2.2.1:Int)) λy=>.l (a.1,y,true,a.2.2.1,a.2.2.2.1,a.2.2.2.2)) (.l (a.1,f,true,a.2.2.1,a.2.2.2.1,a.2.2.2.2))) (.t (b==9) (.c _ (Y0 (length a.2.2.2.1:Int)) λp=>.l (a.1,p,true,a.2.2.1,a.2.2.2.1,a.2.2.2.2)) (.l (a.1,f,true,a.2.2.1,a.2.2.2.1,a.2.2.2.2))))))))
def Sy(b c:Int)(a f:List Int)(e:List (List Int))(g:List Int):Option Eh:=Kn wP xT b c a f e g
abbrev aTz:RetK:=⟨[.pinB 6 0 4,.pinB 6 1 5,.pinB 6 2 7],[.cell 6 38,.tmp 7,.tmp 8],(yj [.agg (yj [.arr 4,.arr 5,.arr 7,.dat yi]),.dat .str,.dat .bool]),[(4,.arr 3 yi),(5,.rows 22 3 yi),(7,.arr 3 yi)],[],[64,65,66]⟩
abbrev aDs{a b c d e g:Type}(r:a×b×c×d×e×g):=((((),(),(),r.1,()),r.2.1,r.2.2.1,()),r.2.2.2.1,r.2.2.2.2.1,r.2.2.2.2.2,())
theorem Q2(k:Int)(r:Int×Bool×Bool)(h:wP k=some r):r.1=0\/r.1=1\/r.1=2\/r.1=3:=by refine uV (p:=λr=>r.1=0\/r.1=1\/r.1=2\/r.1=3) ?_ h;unfold CD;simp[Dc]
def aVm:FP prog:=⟨_,aUb cx [aMs,aGj,Vt] aTz (λr=>aDs r) (show dV prog (193,M4 wP)from wcwx.2) Q2 (T:=xT) (λ_ _ _ _ _ _ _ _ _ _=>by kernel_rfl) (λ_ _ _ _ _ _ _=>by kernel_rfl) (by kernel_rfl) (by kernel_rfl) (by kernel_rfl) (by kernel_rfl) (by kernel_rfl) (by kernel_rfl) (by kernel_rfl) (by kernel_rfl)⟩
def Yl(a:Y1)(e:List Y1)(g:Int):Tr Bool:=.c _ (Ge a e) λf=>.t f (.c _ (Vu g 1 (length a:Int)) λb=>.l b) (.l false)
def Cn b a c:=(Yl b a c).ev
def aGm:FP prog:=aG cx func88 [s9,O8] (yj [.agg bR,.dat yi]) [] [] (jB Yl) rR bH
def YW(k:(HL [y1]->Option Bool))(v:Int×Int×fO):Tr ((Int×Int×fO)⊕(Int×fO)):=.t (v.2.1<(length v.2.2.1:Int)) (.g (aB v.2.1 (length v.2.2.1))<|.g (((toNat v.2.1)<length v.2.2.1)&&((getD v.2.2.1 (toNat v.2.1) 0)<length v.2.2.2))<|.c _ (k ((getD v.2.2.2 (getD v.2.2.1 (toNat v.2.1) 0) []),())) λa=>.t (!a) (.g (aB v.1 (length v.2.2.1))<|.g ((toNat v.1)<length v.2.2.1)<|.l (.inl ((wrap .i64 (v.1+1)),(wrap .i64 (v.2.1+1)),(set v.2.2.1 (toNat v.1) (getD v.2.2.1 (toNat v.2.1) 0)),v.2.2.2))) (.l (.inl (v.1,(wrap .i64 (v.2.1+1)),v.2.2)))) (.l (.inr (v.1,v.2.2)))
def aGW k v:=aC (λv=>(YW k v).ev) v
abbrev aRd:Keep:=yk [] [0,1,5,6] (yj [.arr 64,.clo [y1] .bool,.dat yi,.dat yi]) [w8]
abbrev aFS:Keep:=yk [] [0,5] (yj [.arr 64,.dat yi]) [w8]
abbrev aPT{a b c d:Type}(k:a)(v:b×c×d):=(((),k,v.1,v.2.1,()),v.2.2,())
abbrev aQN{a b c d e g h:Type}(t:(a×b×c×d×e)×g×h):=(t.1.2.2.1,t.1.2.2.2.1,t.2.1)
def aVB:LD:=yl (YW) aRd [(0,aFS)] bC aPT SU aQN (λ_ r=>yx 0 aFS (((),r.1,()),r.2,()))
def HV(f:(HL [y1]->Option Bool))(b:(List Nat)×Y2):Tr fO:=.c _ (DH (bG b.1 b.2) f) λe=>.t (e==(-1:Int)) (.l b) (.c _ (aGW f (e,(wrap .i64 (e+1)),b)) λa=>.g ((0<=a.1)&&(a.1<=(length a.2.1:Int)))<|.g ((0<=a.1)&&(a.1<=(length (List.take (toNat a.1) a.2.1++List.replicate (length a.2.1-(toNat a.1)) (length a.2.2)):Int)))<|.l ((List.take (toNat a.1) (List.take (toNat a.1) a.2.1++List.replicate (length a.2.1-(toNat a.1)) (length a.2.2))),a.2.2))
def Zf a b:=(HV a b).ev
abbrev aJI:RetK:=⟨[.ren 64 0],[.tmp 4],zY,[(0,.perm 22 3 yi)],[],[64]⟩
def Xm:FP prog:=aG cx func157 [aGN] (yj [.arr 64,.clo [y1] .bool]) [w8] [.arg 0] (Ij HV) aJI xJ bU [(0,aVB)]
def WV(b:Y1)(a:Int):Tr Bool:=.l ((length b:Int) !=a)
def BW b a:=(WV b a).ev
abbrev aDi{a b c d e:Type}{z:Type _}(f:a->b->z)(x:(a×(b×c)×d)×e):z:=f x.1.1 x.1.2.1.1
def aWi:FP prog:=aG cx func159 [] (yj [.dat y1,.ptr eN]) [] [] (aDi WV) CU bH
def PD(a:Y1)(f:List Y1)(j:Int):Tr Y1:=.c _ (Ly (length a:Int)) λh=>.c _ (Zf (λm=>Option.bind (BW m.1 j) λb=>some b) h) λe=>.c _ (Nv (λn=>Option.bind (Cz a f n.1) λi=>some i) e) λg=>.l g
def SN b a c:=(PD b a c).ev
abbrev aVQ:RetK:=⟨[.ren 960 0],[.tmp 4],zY,[rS],[],[]⟩
def aVb:FP prog:=aG cx func89 [XM,Xm,Id,Id,LA,Xm,aWi] (yj [.agg bR,.dat yi]) [] [] (jB PD) aVQ xJ
def Zs(b:Y1)(a:List Y1)(e:Int):Tr o5:=.c _ (Cn b a e) λg=>.t (!g) (.l (false,[])) (.c _ (SN b a e) λf=>.l (true,f))
def Yq b a c:=(Zs b a c).ev
abbrev aDj:RetK:=⟨[.own 4 0 3 yi,.ren 768 0],[.tmp 4,.tmp 5],Kr,[rS],[],[]⟩
def aRW:FP prog:=aG cx func43 [aGm,aVb] (yj [.agg bR,.dat yi]) [] [] (jB Zs) aDj qD
def TT(b:Y1)(a:Bool):Tr Lx:=.c _ (Uk b) λe=>.l (e,a)
def Tk b a:=(TT b a).ev
def aIX:FP prog:=aG cx func197 [aGj] (yj [.dat y1,.dat .bool]) [] [] (kJ TT) BQ uE
def PW(b:Y1)(a:Int):Tr Bool:=.l (a<(length b:Int))
def Ws b a:=(PW b a).ev
def aVv:FP prog:=aG cx func161 [] (yj [.dat y1,.ptr eN]) [] [] (aDi PW) CU bH
def XZ(e:Y1)(_i:List Y1)(g:Int):Tr fO:=.c _ (Ly (length e:Int)) λf=>.c _ (Zf (λh=>Option.bind (Ws h.1 g) λa=>some a) f) λb=>.l b
def aFe b a c:=(XZ b a c).ev
abbrev aJJ:RetK:=⟨[.ren 640 0],[.tmp 4],zY,[(0,.perm 22 3 yi)],[],[]⟩
def aPr:FP prog:=aG cx func91 [XM,Xm,Xm,aVv] (yj [.agg bR,.dat yi]) [] [] (jB XZ) aJJ xJ
def ZH(k:Y1)(v:Int×Int):Tr (iC⊕Int):=.t (v.2<(length k:Int)) (.g (aB v.2 (length k))<|.l (.inl ((if v.1<(getD k (toNat v.2) 0)then(getD k (toNat v.2) 0)else v.1),(wrap .i64 (v.2+1))))) (.l (.inr v.1))
def LC k v:=aC (λv=>(ZH k v).ev) v
def aUi:LD:=yl (ZH) WZ [(0,qB)] bC Wn R2 C6 (λ_ r=>yx 0 qB ((r,()),()))
def WI(a:Y1):Tr Int:=.t ((length a:Int)<(1:Int)) (.f) (.g (aB 0 (length a))<|.c _ (LC a ((getD a (toNat 0) 0),1)) λb=>.l b)
def XA a:=(WI a).ev
def aVe:FP prog:=aG cx func153 [] N1 [] [] (qH WI) wR bH bU [(0,aUi)]
def GF(f:Y1)(e:List Y1)(h:Y1):Tr Int:=.c _ (Yd f e h) λa=>.g ((length a+length ([0]:Y1))*8<=140737488355328)<|.c _ (XA (a++([0]:Y1))) λb=>.l b
def Ls b a c:=(GF b a c).ev
def aHn:FP prog:=aG cx func86 [aFs,aVe] (yj [.agg bR,.dat y1]) [] [] (jB GF) pG bH
def Xp(b:Y1)(a:List Y1)(e:Int):Tr o5:=.c _ (Cn b a e) λi=>.t (!i) (.l (false,[])) (.c _ (aFe b a e) λf=>.c _ (Nv (λg=>Option.bind (Ls b a g.1) λj=>some j) f) λh=>.l (true,h))
def Pl b a c:=(Xp b a c).ev
abbrev aPZ:RetK:=⟨[.own 4 0 3 yi,.ren 960 0],[.tmp 4,.tmp 5],Kr,[rS],[],[]⟩
def aSe:FP prog:=aG cx func44 [aGm,aPr,Id,Id,aHn] (yj [.agg bR,.dat yi]) [] [] (jB Xp) aPZ qD
def GP(b:Y1)(a:List Y1)(e:Int):Tr Bool:=.c _ (Ge b a) λf=>.t f (.l (0<=e)) (.l false)
def aHm b a c:=(GP b a c).ev
def aIO:FP prog:=aG cx func273 [s9] (yj [.agg bR,.dat yi]) [] [] (jB GP) rR bH
def Jx(k:Y1×Int×Int×Int×Int×Y1×o7)(v:Int×Int):Tr (iC⊕Int):=.t (v.2<k.2.2.2.2.2.2.1) (.g (aB v.2 (length k.2.2.2.2.2.1))<|.g (aB (getD k.2.2.2.2.2.1 (toNat v.2) 0) (length k.2.2.2.2.2.2.2.2))<|.g (aB k.2.2.1 (length (getD k.2.2.2.2.2.2.2.2 (toNat (getD k.2.2.2.2.2.1 (toNat v.2) 0)) [])))<|.t ((getD (getD k.2.2.2.2.2.2.2.2 (toNat (getD k.2.2.2.2.2.1 (toNat v.2) 0)) []) (toNat k.2.2.1) 0)<=k.2.1) (.l (.inl ((wrap .i64 (v.1+1)),(wrap .i64 (v.2+1))))) (.l (.inl (v.1,(wrap .i64 (v.2+1)))))) (.l (.inr v.1))
def aBU k v:=aC (λv=>(Jx k v).ev) v
abbrev aJe:Keep:=yk [] [1,2,3,7,8,13,14,17,18,19] (yj [.dat y1,.dat yi,.box 3 0,.dat yi,.dat yi,.dat yi,.dat yi,.dat y1,.dat yi,.dat yi]) [(3,.cells bR)]
abbrev aDD:Keep:=yk [] [1,2,3,8,13,14] (yj [.dat y1,.dat yi,.box 3 0,.dat yi,.dat yi,.dat yi]) [(3,.cells bR)]
abbrev aOj{a b c d e g h i j l m:Type}(k:a×b×c×d×e×g×h×i×j)(v:l×m):=((k.1,k.2.1,(),k.2.2.1,v.1,k.2.2.2.1,k.2.2.2.2.1,k.2.2.2.2.2.1,k.2.2.2.2.2.2.1,v.2,()),(k.2.2.2.2.2.2.2.1,k.2.2.2.2.2.2.2.2,()),())
abbrev aMC{a b c d e g h i j l m n o p:Type}(t:(a×b×c×d×e×g×h×i×j×l)×(m×n×o)×p):=(t.1.1,t.1.2.1,t.1.2.2.2.1,t.1.2.2.2.2.2.1,t.1.2.2.2.2.2.2.1,t.1.2.2.2.2.2.2.2.1,t.1.2.2.2.2.2.2.2.2.1,t.2.1.1,t.2.1.2.1)
abbrev aOU{a b c d e g h i j l m n:Type}(t:(a×b×c×d×e×g×h×i×j×l×m)×n):=(t.1.2.2.2.2.1,t.1.2.2.2.2.2.2.2.2.2.1)
def aMG:LD:=yl (Jx) aJe [(2,aDD)] bC aOj aMC aOU (λk r=>yx 2 aDD ((k.1,k.2.1,(),r,k.2.2.2.1,k.2.2.2.2.1,()),(k.2.2.2.2.2.2.2.1,k.2.2.2.2.2.2.2.2,()),()))
def Lm(k:Y1×Int×o7)(v:Int):Tr (Int⊕(Unit⊕Unit)):=.t (v<k.2.2.1) (.c _ (aBU (k.1,k.2.1,v,k.2.2.1,v,k.1,(length k.1:Int),k.2.2.2.1,k.2.2.2.2) (0,0)) λa=>.t (1<a) (.l (.inr (.inr ()))) (.l (.inl (wrap .i64 (v+1))))) (.l (.inr (.inl ())))
def aFP k v:=aC (λv=>(Lm k v).ev) v
abbrev aQg:Keep:=yk [] [1,2,3,13,14] (yj [.dat y1,.dat yi,.box 3 0,.dat yi,.dat yi]) [(3,.cells bR)]
def aLM:LD:=yl (Lm) aQg [(0,bC)] s5 aCm KX Ph (λ_ r=>.s _ _ r (λ_=>yx 0 bC ((),())) (λ_=>yz s5 ((false,()),())))
def GN(a:Y1)(e:List Y1)(g:Y1)(b:Int):Tr Bool:=.c _ (aFP (g,b,(length a:Int),a,e) 0) λf=>.s _ _ f (λ_=>.l true) (λ_=>.l false)
def AJ b a e c:=(GN b a e c).ev
def aWl:FP prog:=aG cx func332 [] (yj [.agg bR,.dat y1,.dat yi]) [] [] (H2 GN) W3 bH bU [(2,aMG),(0,aLM)]
def YR(k:Int×Y1×Y2)(v:Y1×Int):Tr ((Y1×Int)⊕Y1):=.g ((0:Int)<=(length k.2.2:Int))<|.t (v.2<(wrap .u64 ((1:Int)*2^(min (toNat (length k.2.2:Int)) bK)))) (.c _ (Rp v.2) λa=>.t ((length v.1:Int)<(length a:Int)) (.c _ (AJ k.2.1 k.2.2 a k.1) λf=>.t f (.l (.inl (a,(wrap .u64 (v.2+1))))) (.l (.inl (v.1,(wrap .u64 (v.2+1)))))) (.t ((length a:Int)==(length v.1:Int)) (.c _ (DK a v.1) λb=>.t (b<0) (.c _ (AJ k.2.1 k.2.2 a k.1) λe=>.t e (.l (.inl (a,(wrap .u64 (v.2+1))))) (.l (.inl (v.1,(wrap .u64 (v.2+1)))))) (.l (.inl (v.1,(wrap .u64 (v.2+1)))))) (.l (.inl (v.1,(wrap .u64 (v.2+1))))))) (.l (.inr v.1))
def DG k v:=aC (λv=>(YR k v).ev) v
abbrev aJU:Keep:=yk [.fz 8,.fz 1152] [1,2,5,6] (yj [.dat yi,.box 2 0,.dat y1,.dat (.int .u64)]) [xF]
def aOs:LD:=yl (YR) aJU [(0,Yw)] bC Qk Ay F1 (λ_ r=>yx 0 Yw ((r,()),()))
def SR(b:Y1)(a:List Y1)(f:Int):Tr Y1:=.c _ (DG (f,b,a) ([],1)) λe=>.l e
def SQ b a c:=(SR b a c).ev
def aVz:FP prog:=aG cx func274 [wapv,aWl,aFU] (yj [.agg bR,.dat yi]) [] [] (jB SR) Xv bH bU [(0,aOs)]
def QV(b:Y1)(a:List Y1)(e:Int):Tr (Y1×Bool):=.c _ (aHm b a e) λg=>.t (!g) (.l ([],false)) (.c _ (SQ b a e) λf=>.l (f,true))
def FA b a c:=(QV b a c).ev
abbrev aIf:RetK:=yr [.tmp 4,.tmp 5] (yj [.dat y1,.dat .bool])
def aPY:FP prog:=aG cx func198 [aIO,aVz] (yj [.agg bR,.dat yi]) [] [] (jB QV) aIf uE
def JC(b:Y1)(a:List Y1)(e:Y1):Tr (Int×Bool):=.c _ (W6 b a e) λg=>.t (!g) (.l (0,false)) (.c _ (Nz b a e) λf=>.l (f,true))
def aDp b a c:=(JC b a c).ev
def aVX:FP prog:=aG cx func84 [Kc,wavt] (yj [.agg bR,.dat y1]) [] [] (jB JC) Qa uE
def LQ(e:Y1)(b:List Y1)(f:Y1)(g:Int):Tr (Int×Bool):=.c _ (vP e b f g) λh=>.t (!h) (.l (0,false)) (.c _ (aDp e b f) λa=>.l (a.1,a.2))
def BK b a e c:=(LQ b a e c).ev
def aGa:FP prog:=aG cx func40 [NZ,aVX] (yj [.agg qC]) [] [] (G4 LQ) Ry uE
def HI(b:Int)(a:Bool):Tr Lx:=.c _ (Y0 b) λe=>.l (e,a)
def Fg b a:=(HI b a).ev
def aMl:FP prog:=aG cx func196 [Vt] (yj [.dat yi,.dat .bool]) [] [] (kJ HI) BQ uE
def Zg(k:Y1)(v:Int×Int):Tr (iC⊕Int):=.t (v.2<(length k:Int)) (.g (aB v.2 (length k))<|.l (.inl ((if(getD k (toNat v.2) 0)<v.1 then(getD k (toNat v.2) 0)else v.1),(wrap .i64 (v.2+1))))) (.l (.inr v.1))
def KI k v:=aC (λv=>(Zg k v).ev) v
def aLh:LD:=yl (Zg) WZ [(0,qB)] bC Wn R2 C6 (λ_ r=>yx 0 qB ((r,()),()))
def Xl(a:Y1):Tr Int:=.t ((length a:Int)<(1:Int)) (.f) (.g (aB 0 (length a))<|.c _ (KI a ((getD a (toNat 0) 0),1)) λb=>.l b)
def Ju a:=(Xl a).ev
def aCv:FP prog:=aG cx func166 [] N1 [] [] (qH Xl) wR bH bU [(0,aLh)]
def LM(k:Y1×Int×Int×Y2×Int×Int×Y1×Int)(v:Int×Y1):Tr (gI⊕Y1):=.t (v.1<k.2.2.2.2.2.2.2) (.g (aB v.1 (length k.2.2.2.2.2.2.1))<|.g (aB v.1 (length v.2))<|.g ((toNat v.1)<length v.2)<|.g (aB k.2.2.1 (length k.1))<|.g (aB v.1 (length v.2))<|.g ((toNat v.1)<length v.2)<|.l (.inl ((wrap .i64 (v.1+1)),(set v.2 (toNat v.1) (wrap .i64 ((getD v.2 (toNat v.1) 0)+(if(0:Int)<(wrap .i64 ((getD k.1 (toNat k.2.2.1) 0) -(wrap .i64 ((getD k.2.2.2.2.2.2.1 (toNat v.1) 0)*k.2.1))))then(wrap .i64 ((getD k.1 (toNat k.2.2.1) 0) -(wrap .i64 ((getD k.2.2.2.2.2.2.1 (toNat v.1) 0)*k.2.1))))else 0))))))) (.l (.inr v.2))
def HQ k v:=aC (λv=>(LM k v).ev) v
abbrev aTn:Keep:=yk [] [1,2,7,8,17,18,19,24,25,26] (yj [.dat y1,.dat yi,.arr 15,.dat yi,.dat y2,.dat yi,.dat yi,.dat y1,.dat yi,.dat yi]) [(15,.arr 3 yi)]
abbrev JJ:Keep:=yk [] [1,2,7,17,18,19] (yj [.dat y1,.dat yi,.arr 15,.dat y2,.dat yi,.dat yi]) [(15,.arr 3 yi)]
abbrev aPM{a b c d e g h i j l:Type}(k:a×b×c×d×e×g×h×i)(v:j×l):=((k.1,k.2.1,(),k.2.2.1,k.2.2.2.1,k.2.2.2.2.1,k.2.2.2.2.2.1,k.2.2.2.2.2.2.1,k.2.2.2.2.2.2.2,v.1,()),v.2,())
abbrev aND{a b c d e g h i j l m:Type}(t:(a×b×c×d×e×g×h×i×j×l)×m):=(t.1.1,t.1.2.1,t.1.2.2.2.1,t.1.2.2.2.2.1,t.1.2.2.2.2.2.1,t.1.2.2.2.2.2.2.1,t.1.2.2.2.2.2.2.2.1,t.1.2.2.2.2.2.2.2.2.1)
abbrev aOe{a b c d e g h i j l m n o:Type}(t:(a×b×c×d×e×g×h×i×j×l×m)×n×o):=(t.1.2.2.2.2.2.2.2.2.2.1,t.2.1)
def aST:LD:=yl (LM) aTn [(2,JJ)] bC aPM aND aOe (λk r=>yx 2 JJ ((k.1,k.2.1,(),k.2.2.2.1,k.2.2.2.2.1,k.2.2.2.2.2.1,()),r,()))
def DO(k:Y1×Int×Y2×Int)(v:Int×Y1):Tr (gI⊕Y1):=.t (v.1<k.2.2.2) (.g (aB v.1 (length k.2.2.1))<|.c _ (HQ (k.1,k.2.1,v.1,k.2.2.1,k.2.2.2,v.1,(getD k.2.2.1 (toNat v.1) []),(length (getD k.2.2.1 (toNat v.1) []):Int)) (0,v.2)) λa=>.l (.inl ((wrap .i64 (v.1+1)),a))) (.l (.inr v.2))
def OP k v:=aC (λv=>(DO k v).ev) v
abbrev aBL:Keep:=yk [] [7] (yj [.arr 15]) [(15,.arr 3 yi)]
abbrev aQn{a b c d e g:Type}(k:a×b×c×d)(v:e×g):=((k.1,k.2.1,(),k.2.2.1,k.2.2.2,v.1,()),v.2,())
abbrev aBl{a b c d e g h:Type}(t:(a×b×c×d×e×g)×h):=(t.1.1,t.1.2.1,t.1.2.2.2.1,t.1.2.2.2.2.1)
def aNx:LD:=yl (DO) JJ [(0,aBL)] bC aQn aBl RO (λ_ r=>yx 0 aBL (((),()),r,()))
def AG(a:Y1)(b:List Y1)(h:Y1)(e:Int):Tr Y1:=.g (((0:Int)<=(length a:Int))&&((length a:Int)<=(length a:Int))&&(((8:Nat):Int)*(length a:Int)<=281474976710656))<|.c _ (OP (h,e,b,(length b:Int)) (0,(List.replicate (toNat (length a:Int)) 0))) λf=>.l f
def Bl b a e c:=(AG b a e c).ev
abbrev aNO:RetK:=⟨[.ren 15 0],[.tmp 6],zY,[rS],[],[]⟩
def aAF:FP prog:=aG cx func169 [] (yj [.agg bR,.dat y1,.dat yi]) [] [] (H2 AG) aNO xJ bU [(2,aST),(0,aNx)]
def wyj(k:Int×Y1×Y2)(v:Int×Y1):Tr (gI⊕Y1):=.t (v.1<k.1) (.g (aB v.1 (length v.2))<|.g ((toNat v.1)<length v.2)<|.g (aB v.1 (length k.2.1))<|.g (aB v.1 (length v.2))<|.g ((toNat v.1)<length v.2)<|.l (.inl ((wrap .i64 (v.1+1)),(set v.2 (toNat v.1) (wrap .i64 ((getD k.2.1 (toNat v.1) 0) -(getD v.2 (toNat v.1) 0))))))) (.l (.inr v.2))
def aBP k v:=aC (λv=>(wyj k v).ev) v
abbrev aIL:Keep:=yk [] [2,5,11,12,13] (yj [.box 2 0,.arr 640,.arr 640,.dat yi,.dat yi]) [xF,(640,.arr 3 yi)]
abbrev aHU:Keep:=yk [] [5] (yj [.arr 640]) [(640,.arr 3 yi)]
abbrev aLI{a b c d e:Type}(k:a×b×c)(v:d×e):=(((),(),(),k.1,v.1,()),(k.2.1,k.2.2,()),v.2,())
abbrev aIF{a b c d e g h i j:Type}(t:(a×b×c×d×e)×(g×h×i)×j):=(t.1.2.2.2.1,t.2.1.1,t.2.1.2.1)
def aPS:LD:=yl (wyj) aIL [(0,aHU)] bC aLI aIF Xy (λ_ r=>yx 0 aHU (((),()),r,()))
def JG(b:Y1)(a:List Y1)(f:Y1):Tr Y1:=.c _ (Bl b a f 1) λe=>.c _ (aBP ((length e:Int),b,a) (0,e)) λg=>.l g
def VW b a c:=(JG b a c).ev
abbrev aKC:RetK:=⟨[.ren 640 0],[.tmp 4],zY,[rS],[],[]⟩
def aJT:FP prog:=aG cx func275 [aAF] (yj [.agg bR,.dat y1]) [] [] (jB JG) aKC xJ bU [(0,aPS)]
def Te(k:Y2×o7)(v:Int×Y1):Tr (gI⊕Y1):=.t (v.1<k.2.1) (.g (aB v.1 (length k.1))<|.c _ (Ju (getD k.1 (toNat v.1) [])) λa=>.g ((length v.2+length ([a]:Y1))*8<=140737488355328)<|.l (.inl ((wrap .i64 (v.1+1)),(v.2++([a]:Y1))))) (.l (.inr v.2))
def WW k v:=aC (λv=>(Te k v).ev) v
abbrev aQW:Keep:=yk [] [1,4,21,22,23] (yj [.box 1 0,.arr 19,.dat y2,.dat yi,.dat yi]) [jK,(19,.arr 3 yi)]
abbrev aBH:Keep:=yk [] [1,4] (yj [.box 1 0,.arr 19]) [jK,(19,.arr 3 yi)]
abbrev aRH{a b c d e g:Type}(k:a×b×c×d)(v:e×g):=(((),(),k.1,k.2.1,v.1,()),(k.2.2.1,k.2.2.2,()),v.2,())
def aSh:LD:=yl (Te) aQW [(0,aBH)] bC aRH aHj Xy (λk r=>yx 0 aBH (((),(),()),(k.2.2.1,k.2.2.2,()),r,()))
noncomputable abbrev aAY(p1:Int)(p2 p3:Y1)(p4 p5:Int)(p6:Y1)(p7:Int):=(.g (aB p1 (length p2))<|.g ((toNat p1)<length p2)<|.t ((getD p3 (toNat p4) 0)<=(getD p2 (toNat p1) 0)) (.t (p5<0) (.g (aB p4 (length p6))<|.g ((toNat p4)<length p6)<|.l (.inl (p7,(getD p6 (toNat p4) 0),(wrap .i64 (p4+1))))) (.g (aB p4 (length p6))<|.g ((toNat p4)<length p6)<|.t ((getD p6 (toNat p4) 0)<p5) (.g (aB p4 (length p6))<|.g ((toNat p4)<length p6)<|.l (.inl (p7,(getD p6 (toNat p4) 0),(wrap .i64 (p4+1))))) (.l (.inl (p7,p5,(wrap .i64 (p4+1))))))) (.l (.inl (p7,p5,(wrap .i64 (p4+1))))):Tr ((Int×iC)⊕iC))
def Wm(k:Bool×Int×Y2×Int×Int×Y1×Int×Y1×Y2×Y1×Y1)(v:Int×iC):Tr ((Int×iC)⊕iC):=.t (v.2.2<k.2.2.2.2.2.2.1) (.g (aB v.2.2 (length k.2.2.2.2.2.1))<|.g (aB k.2.1 (length k.2.2.2.2.2.2.2.2.2.1))<|.g ((toNat k.2.1)<length k.2.2.2.2.2.2.2.2.2.1)<|.t ((getD k.2.2.2.2.2.2.2.2.2.1 (toNat k.2.1) 0)<(getD k.2.2.2.2.2.1 (toNat v.2.2) 0)) (.t (v.1<0) (.l (.inl ((getD k.2.2.2.2.2.1 (toNat v.2.2) 0),v.2.1,(wrap .i64 (v.2.2+1))))) (.t ((getD k.2.2.2.2.2.1 (toNat v.2.2) 0)<v.1) (.l (.inl ((getD k.2.2.2.2.2.1 (toNat v.2.2) 0),v.2.1,(wrap .i64 (v.2.2+1))))) (aAY k.2.1 k.2.2.2.2.2.2.2.2.2.1 k.2.2.2.2.2.1 v.2.2 v.2.1 k.2.2.2.2.2.2.2.2.2.2 v.1))) (aAY k.2.1 k.2.2.2.2.2.2.2.2.2.1 k.2.2.2.2.2.1 v.2.2 v.2.1 k.2.2.2.2.2.2.2.2.2.2 v.1)) (.l (.inr (v.1,v.2.1)))
def aBF k v:=aC (λv=>(Wm k v).ev) v
abbrev aUJ:Keep:=yk [] [1,4,7,8,10,11,12,35,36,37,45,46,47] (yj [.box 1 0,.arr 19,.dat .bool,.dat yi,.arr 2816,.dat yi,.dat yi,.dat y2,.dat yi,.dat yi,.dat y1,.dat yi,.dat yi]) [jK,(19,.arr 3 yi),(2816,.arr 3 yi)]
abbrev aAe:Keep:=yk [] [1,4,7,8,11,12,35,36,37] (yj [.box 1 0,.arr 19,.dat .bool,.dat yi,.dat yi,.dat yi,.dat y2,.dat yi,.dat yi]) [jK,(19,.arr 3 yi)]
abbrev aLd{a b c d e g h i j l m n o p:Type}(k:a×b×c×d×e×g×h×i×j×l×m)(v:n×o×p):=(((),(),k.1,k.2.1,(),v.1,v.2.1,k.2.2.1,k.2.2.2.1,k.2.2.2.2.1,k.2.2.2.2.2.1,k.2.2.2.2.2.2.1,v.2.2,()),(k.2.2.2.2.2.2.2.1,k.2.2.2.2.2.2.2.2.1,()),k.2.2.2.2.2.2.2.2.2.1,k.2.2.2.2.2.2.2.2.2.2,())
abbrev aRR{a b c d e g h i j l m n o p q s t u w:Type}(t:(a×b×c×d×e×g×h×i×j×l×m×n×o)×(p×q×s)×t×u×w):=(t.1.2.2.1,t.1.2.2.2.1,t.1.2.2.2.2.2.2.2.1,t.1.2.2.2.2.2.2.2.2.1,t.1.2.2.2.2.2.2.2.2.2.1,t.1.2.2.2.2.2.2.2.2.2.2.1,t.1.2.2.2.2.2.2.2.2.2.2.2.1,t.2.1.1,t.2.1.2.1,t.2.2.1,t.2.2.2.1)
abbrev aSv{a b c d e g h i j l m n o p q:Type}(t:(a×b×c×d×e×g×h×i×j×l×m×n×o×p)×q):=(t.1.2.2.2.2.2.1,t.1.2.2.2.2.2.2.1,t.1.2.2.2.2.2.2.2.2.2.2.2.2.1)
def aVP:LD:=yl (Wm) aUJ [(6,aAe)] bC aLd aRR aSv (λk r=>yx 6 aAe (((),(),k.1,k.2.1,r.1,r.2,k.2.2.1,k.2.2.2.1,k.2.2.2.2.1,()),(k.2.2.2.2.2.2.2.1,k.2.2.2.2.2.2.2.2.1,()),k.2.2.2.2.2.2.2.2.2.1,()))
def BJ(k:Y2×o7)(v:Bool×gI):Tr ((Bool×gI)⊕o5):=.t (v.2.1<k.2.1) (.g (aB v.2.1 (length k.1))<|.c _ (VW k.2.2.1 k.2.2.2 v.2.2) λb=>.c _ (aBF (v.1,v.2.1,k.1,k.2.1,v.2.1,(getD k.1 (toNat v.2.1) []),(length (getD k.1 (toNat v.2.1) []):Int),k.2.2.1,k.2.2.2,v.2.2,b) ((-1),(-1),0)) λa=>.g (aB v.2.1 (length v.2.2))<|.g ((toNat v.2.1)<length v.2.2)<|.t (0<=a.1) (.t v.1 (.g (aB v.2.1 (length v.2.2))<|.g ((toNat v.2.1)<length v.2.2)<|.l (.inl (true,(wrap .i64 (v.2.1+1)),(set v.2.2 (toNat v.2.1) (if a.1<(wrap .i64 ((getD v.2.2 (toNat v.2.1) 0)+a.2))then a.1 else(wrap .i64 ((getD v.2.2 (toNat v.2.1) 0)+a.2))))))) (.g (aB v.2.1 (length v.2.2))<|.g ((toNat v.2.1)<length v.2.2)<|.g (aB v.2.1 (length v.2.2))<|.g ((toNat v.2.1)<length v.2.2)<|.l (.inl (((getD v.2.2 (toNat v.2.1) 0)<(if a.1<(wrap .i64 ((getD v.2.2 (toNat v.2.1) 0)+a.2))then a.1 else(wrap .i64 ((getD v.2.2 (toNat v.2.1) 0)+a.2)))),(wrap .i64 (v.2.1+1)),(set v.2.2 (toNat v.2.1) (if a.1<(wrap .i64 ((getD v.2.2 (toNat v.2.1) 0)+a.2))then a.1 else(wrap .i64 ((getD v.2.2 (toNat v.2.1) 0)+a.2)))))))) (.t v.1 (.g (aB v.2.1 (length v.2.2))<|.g ((toNat v.2.1)<length v.2.2)<|.l (.inl (true,(wrap .i64 (v.2.1+1)),(set v.2.2 (toNat v.2.1) (wrap .i64 ((getD v.2.2 (toNat v.2.1) 0)+a.2)))))) (.g (aB v.2.1 (length v.2.2))<|.g ((toNat v.2.1)<length v.2.2)<|.g (aB v.2.1 (length v.2.2))<|.g ((toNat v.2.1)<length v.2.2)<|.l (.inl (((getD v.2.2 (toNat v.2.1) 0)<(wrap .i64 ((getD v.2.2 (toNat v.2.1) 0)+a.2))),(wrap .i64 (v.2.1+1)),(set v.2.2 (toNat v.2.1) (wrap .i64 ((getD v.2.2 (toNat v.2.1) 0)+a.2)))))))) (.l (.inr (v.1,v.2.2)))
def aAs k v:=aC (λv=>(BJ k v).ev) v
abbrev aKf:Keep:=yk [] [1,4,7,35,36,37] (yj [.box 1 0,.arr 19,.dat .bool,.dat y2,.dat yi,.dat yi]) [jK,(19,.arr 3 yi)]
abbrev JO:Keep:=yk [] [1,4,7] (yj [.box 1 0,.arr 19,.dat .bool]) [jK,(19,.arr 3 yi)]
abbrev aJQ{a b c d e g h:Type}(k:a×b×c×d)(v:e×g×h):=(((),(),v.1,k.1,k.2.1,v.2.1,()),(k.2.2.1,k.2.2.2,()),v.2.2,())
abbrev aQu{a b c d e g h i j l:Type}(t:(a×b×c×d×e×g)×(h×i×j)×l):=(t.1.2.2.2.1,t.1.2.2.2.2.1,t.2.1.1,t.2.1.2.1)
abbrev aLv{a b c d e g h i j l:Type}(t:(a×b×c×d×e×g×h)×i×j×l):=(t.1.2.2.1,t.1.2.2.2.2.2.1,t.2.2.1)
def aNU:LD:=yl (BJ) aKf [(4,JO)] bC aJQ aQu aLv (λk r=>yx 4 JO (((),(),r.1,()),(k.2.2.1,k.2.2.2,()),r.2,()))
def UP(k:Y1×Y2)(v:Bool×Y1):Tr (o5⊕Y1):=.t v.1 (.c _ (aAs (k.2,(length k.2:Int),k.1,k.2) (false,0,v.2)) λa=>.l (.inl (a.1,a.2))) (.l (.inr v.2))
def aCI k v:=aC (λv=>(UP k v).ev) v
abbrev aFQ:Keep:=yk [] [4] (yj [.arr 19]) [(19,.arr 3 yi)]
def aQp:LD:=yl (UP) JO [(2,aFQ)] bC Th s7 Md (λ_ r=>yx 2 aFQ (((),()),r,()))
def UX(b:Y1)(a:List Y1):Tr o5:=.c _ (Ge b a) λg=>.t (!g) (.l (false,[])) (.c _ (WW (a,(length a:Int),b,a) (0,[])) λf=>.c _ (aCI (b,a) (true,f)) λe=>.l (true,e))
def Ya b a:=(UX b a).ev
abbrev aLx:RetK:=⟨[.own 2 0 3 yi,.ren 19 0],[.tmp 2,.tmp 3],Kr,[rS],[],[]⟩
def aFZ:FP prog:=aG cx func205 [s9,aCv,aJT] (yj [.agg bR]) [] [] (g7 UX) aLx qD bU [(0,aSh),(6,aVP),(4,aNU),(2,aQp)]
def ES(b:Y1)(a:List Y1)(i:Y1)(f:Int):Tr (Int×Bool):=.c _ (BK b a i f) λe=>.t (!e.2) (.l (0,false)) (.c _ (Ya b a) λg=>.c _ (Le g.2) λh=>.l ((wrap .i64 (e.1-h)),true))
def QG b a e c:=(ES b a e c).ev
def aPy:FP prog:=aG cx func199 [aGa,aFZ,aCF] (yj [.agg qC]) [] [] (G4 ES) Ry uE
def VA(b:Y1)(a:List Y1)(e:Y1):Tr (Int×Bool):=.c _ (W6 b a e) λg=>.t (!g) (.l (0,false)) (.c _ (Cz b a e) λf=>.l (f,true))
def OH b a c:=(VA b a c).ev
def aTU:FP prog:=aG cx func200 [Kc,LA] (yj [.agg bR,.dat y1]) [] [] (jB VA) Qa uE
def VT(b:Y1)(a:List Y1)(e:Y1):Tr (Int×Bool):=.c _ (W6 b a e) λg=>.t (!g) (.l (0,false)) (.c _ (Ls b a e) λf=>.l (f,true))
def WA b a c:=(VT b a c).ev
def aRi:FP prog:=aG cx func41 [Kc,aHn] (yj [.agg bR,.dat y1]) [] [] (jB VT) Qa uE
def HR(b:Y1)(a:List Y1)(e:Y1):Tr o5:=.c _ (W6 b a e) λg=>.t (!g) (.l (false,[])) (.c _ (AC b a e) λf=>.l (true,f))
def UU b a c:=(HR b a c).ev
def aUk:FP prog:=aG cx func201 [Kc,aGS] (yj [.agg bR,.dat y1]) [] [] (jB HR) aDj qD
def wyo(k:Y1×Y1×Int×Y2×Int×Int×Y2×Int×Int×Int×Int×o7)(v:Int):Tr (Int⊕(Unit⊕Unit)):=.t (v<k.2.2.2.2.2.2.2.2.2.2.2.1) (.g (aB k.2.2.1 (length k.1))<|.g (aB v (length k.1))<|.g (aB v (length k.2.1))<|.g (aB k.2.2.1 (length k.2.1))<|.t ((wrap .i64 ((wrap .i64 ((getD k.1 (toNat v) 0)+(getD k.2.1 (toNat v) 0)))+(getD k.2.1 (toNat k.2.2.1) 0)))<(getD k.1 (toNat k.2.2.1) 0)) (.l (.inr (.inr ()))) (.l (.inl (wrap .i64 (v+1))))) (.l (.inr (.inl ())))
def aAf k v:=aC (λv=>(wyo k v).ev) v
abbrev aOA:Keep:=yk [] [1,5,7,8,14,15,16,21,22,23,29,30,35,36] (yj [.box 1 0,.dat y1,.dat y1,.dat yi,.dat y2,.dat yi,.dat yi,.dat y2,.dat yi,.dat yi,.dat yi,.dat yi,.dat yi,.dat yi]) [jK]
abbrev XV:Keep:=yk [] [1,5,7,14,15,16,21,22,23,29,30] (yj [.box 1 0,.dat y1,.dat y1,.dat y2,.dat yi,.dat yi,.dat y2,.dat yi,.dat yi,.dat yi,.dat yi]) [jK]
abbrev P3:Keep:=yh [2,3] (yj [.dat .bool,.dat .bool])
abbrev aMz{a b c d e g h i j l m n o p q:Type}(k:a×b×c×d×e×g×h×i×j×l×m×n×o×p)(v:q):=(((),k.1,k.2.1,k.2.2.1,k.2.2.2.1,k.2.2.2.2.1,k.2.2.2.2.2.1,k.2.2.2.2.2.2.1,k.2.2.2.2.2.2.2.1,k.2.2.2.2.2.2.2.2.1,k.2.2.2.2.2.2.2.2.2.1,k.2.2.2.2.2.2.2.2.2.2.1,k.2.2.2.2.2.2.2.2.2.2.2.1,v,()),(k.2.2.2.2.2.2.2.2.2.2.2.2.1,k.2.2.2.2.2.2.2.2.2.2.2.2.2,()),())
abbrev aMm{a b c d e g h i j l m n o p q s t u:Type}(t:(a×b×c×d×e×g×h×i×j×l×m×n×o×p)×(q×s×t)×u):=(t.1.2.1,t.1.2.2.1,t.1.2.2.2.1,t.1.2.2.2.2.1,t.1.2.2.2.2.2.1,t.1.2.2.2.2.2.2.1,t.1.2.2.2.2.2.2.2.1,t.1.2.2.2.2.2.2.2.2.1,t.1.2.2.2.2.2.2.2.2.2.1,t.1.2.2.2.2.2.2.2.2.2.2.1,t.1.2.2.2.2.2.2.2.2.2.2.2.1,t.1.2.2.2.2.2.2.2.2.2.2.2.2.1,t.2.1.1,t.2.1.2.1)
abbrev aMJ{a b c d e g h i j l m n o p q s:Type}(t:(a×b×c×d×e×g×h×i×j×l×m×n×o×p×q)×s):=t.1.2.2.2.2.2.2.2.2.2.2.2.2.2.1
def aLY:LD:=yl (wyo) aOA [(6,XV)] P3 aMz aMm aMJ (λk r=>.s _ _ r (λ_=>yx 6 XV (((),k.1,k.2.1,k.2.2.2.1,k.2.2.2.2.1,k.2.2.2.2.2.1,k.2.2.2.2.2.2.1,k.2.2.2.2.2.2.2.1,k.2.2.2.2.2.2.2.2.1,k.2.2.2.2.2.2.2.2.2.1,k.2.2.2.2.2.2.2.2.2.2.1,()),(k.2.2.2.2.2.2.2.2.2.2.2.2.1,k.2.2.2.2.2.2.2.2.2.2.2.2.2,()),())) (λ_=>yz P3 ((false,true,()),())))
def wyp(k:Y1×Y1×Y2×Int×Int×Y2×Int×Int×o7)(v:Int):Tr (Int⊕(Unit⊕Unit)):=.t (v<k.2.2.2.2.2.2.2.2.1) (.c _ (aAf (k.1,k.2.1,v,k.2.2.1,k.2.2.2.1,k.2.2.2.2.1,k.2.2.2.2.2.1,k.2.2.2.2.2.2.1,k.2.2.2.2.2.2.2.1,k.2.2.2.2.2.2.2.2.1,v,(length k.2.2.2.2.2.2.2.2.2.1:Int),k.2.2.2.2.2.2.2.2.2.1,k.2.2.2.2.2.2.2.2.2.2) 0) λa=>.s _ _ a (λ_=>.l (.inl (wrap .i64 (v+1)))) (λ_=>.l (.inr (.inr ())))) (.l (.inr (.inl ())))
def aFi k v:=aC (λv=>(wyp k v).ev) v
abbrev RQ:Keep:=yk [] [1,5,14,15,16,21,22,23] (yj [.box 1 0,.dat y1,.dat y2,.dat yi,.dat yi,.dat y2,.dat yi,.dat yi]) [jK]
abbrev aPb{a b c d e g h i j l m n:Type}(k:a×b×c×d×e×g×h×i×j×l×m)(v:n):=(((),k.1,k.2.1,k.2.2.1,k.2.2.2.1,k.2.2.2.2.1,k.2.2.2.2.2.1,k.2.2.2.2.2.2.1,k.2.2.2.2.2.2.2.1,k.2.2.2.2.2.2.2.2.1,v,()),(k.2.2.2.2.2.2.2.2.2.1,k.2.2.2.2.2.2.2.2.2.2,()),())
abbrev aSd{a b c d e g h i j l m n o p q:Type}(t:(a×b×c×d×e×g×h×i×j×l×m)×(n×o×p)×q):=(t.1.2.1,t.1.2.2.1,t.1.2.2.2.1,t.1.2.2.2.2.1,t.1.2.2.2.2.2.1,t.1.2.2.2.2.2.2.1,t.1.2.2.2.2.2.2.2.1,t.1.2.2.2.2.2.2.2.2.1,t.1.2.2.2.2.2.2.2.2.2.1,t.2.1.1,t.2.1.2.1)
abbrev aRc{a b c d e g h i j l m n o:Type}(t:(a×b×c×d×e×g×h×i×j×l×m×n)×o):=t.1.2.2.2.2.2.2.2.2.2.2.1
def aOY:LD:=yl (wyp) XV [(4,RQ)] P3 aPb aSd aRc (λk r=>.s _ _ r (λ_=>yx 4 RQ (((),k.1,k.2.2.1,k.2.2.2.1,k.2.2.2.2.1,k.2.2.2.2.2.1,k.2.2.2.2.2.2.1,k.2.2.2.2.2.2.2.1,()),(k.2.2.2.2.2.2.2.2.2.1,k.2.2.2.2.2.2.2.2.2.2,()),())) (λ_=>yz P3 ((false,true,()),())))
def wyr(k:Y1×Y2×Int×Int×Y2×o7)(v:Int):Tr (Int⊕(Unit⊕Unit)):=.t (v<k.2.2.2.2.2.1) (.g (aB v (length k.2.2.2.2.1))<|.c _ (aFi (k.1,(getD k.2.2.2.2.1 (toNat v) []),k.2.1,k.2.2.1,k.2.2.2.1,k.2.2.2.2.1,k.2.2.2.2.2.1,v,(length k.2.2.2.2.2.2.1:Int),k.2.2.2.2.2.2.1,k.2.2.2.2.2.2.2) 0) λa=>.s _ _ a (λ_=>.l (.inl (wrap .i64 (v+1)))) (λ_=>.l (.inr (.inr ())))) (.l (.inr (.inl ())))
def aAU k v:=aC (λv=>(wyr k v).ev) v
abbrev SF:Keep:=yk [] [1,14,15,16] (yj [.box 1 0,.dat y2,.dat yi,.dat yi]) [jK]
abbrev aKM{a b c d e g h i j:Type}(k:a×b×c×d×e×g×h×i)(v:j):=(((),k.1,k.2.1,k.2.2.1,k.2.2.2.1,k.2.2.2.2.1,k.2.2.2.2.2.1,v,()),(k.2.2.2.2.2.2.1,k.2.2.2.2.2.2.2,()),())
abbrev aSR{a b c d e g h i j l m n:Type}(t:(a×b×c×d×e×g×h×i)×(j×l×m)×n):=(t.1.2.1,t.1.2.2.1,t.1.2.2.2.1,t.1.2.2.2.2.1,t.1.2.2.2.2.2.1,t.1.2.2.2.2.2.2.1,t.2.1.1,t.2.1.2.1)
abbrev aQh{a b c d e g h i j l:Type}(t:(a×b×c×d×e×g×h×i×j)×l):=t.1.2.2.2.2.2.2.2.1
def aUD:LD:=yl (wyr) RQ [(2,SF)] P3 aKM aSR aQh (λk r=>.s _ _ r (λ_=>yx 2 SF (((),k.2.1,k.2.2.1,k.2.2.2.1,()),(k.2.2.2.2.2.2.1,k.2.2.2.2.2.2.2,()),())) (λ_=>yz P3 ((false,true,()),())))
def wyt(k:Y2×o7)(v:Int):Tr (Int⊕(Unit⊕Unit)):=.t (v<k.2.1) (.g (aB v (length k.1))<|.c _ (aAU ((getD k.1 (toNat v) []),k.1,k.2.1,v,k.2.2.2,(length k.2.2.2:Int),k.2.2.1,k.2.2.2) 0) λa=>.s _ _ a (λ_=>.l (.inl (wrap .i64 (v+1)))) (λ_=>.l (.inr (.inr ())))) (.l (.inr (.inl ())))
def aDS k v:=aC (λv=>(wyt k v).ev) v
def aTP:LD:=yl (wyt) SF [(0,bC)] P3 aAZ aFw qE (λ_ r=>.s _ _ r (λ_=>yx 0 bC ((),())) (λ_=>yz P3 ((false,true,()),())))
def UJ(b:Y1)(a:List Y1):Tr (Bool×Bool):=.c _ (Ge b a) λe=>.t (!e) (.l (false,false)) (.c _ (aDS (a,(length a:Int),b,a) 0) λf=>.s _ _ f (λ_=>.l (true,true)) (λ_=>.l (false,true)))
def AX b a:=(UJ b a).ev
def aIJ:FP prog:=aG cx func203 [s9] (yj [.agg bR]) [] [] (g7 UJ) aEc uE bU [(6,aLY),(4,aOY),(2,aUD),(0,aTP)]
def aAa(b a:Bool):Tr Lx:=.t b (.l (([121,101,115]:List UInt8),a)) (.l (([110,111]:List UInt8),a))
def HX b a:=(aAa b a).ev
def aJN:FP prog:=aG cx func202 [] (yj [.dat .bool,.dat .bool]) [] [] (kJ aAa) BQ uE
def Vs(k:Y2×Int)(v:Int×(List (List UInt8))):Tr ((Int×(List (List UInt8)))⊕(List (List UInt8))):=.t (v.1<k.2) (.g (aB v.1 (length k.1))<|.c _ (Vr (getD k.1 (toNat v.1) [])) λa=>.g ((length v.2+length ([a]:List (List UInt8)))*16<=140737488355328)<|.l (.inl ((wrap .i64 (v.1+1)),(v.2++([a]:List (List UInt8)))))) (.l (.inr v.2))
def aES k v:=aC (λv=>(Vs k v).ev) v
abbrev aNN:Keep:=yk [] [4,15,16,17] (yj [.arr 13,.dat y2,.dat yi,.dat yi]) [(13,.arr 9 .str)]
abbrev aFY:Keep:=yk [] [4] (yj [.arr 13]) [(13,.arr 9 .str)]
def aJs:LD:=yl (Vs) aNN [(0,aFY)] bC CE C6 Fj (λ_ r=>yx 0 aFY (((),()),r,()))
def RR(b:Y1)(a:List Y1):Tr Lx:=.c _ (Ge b a) λg=>.t (!g) (.l ([],false)) (.c _ (Vr b) λf=>.c _ (aES (a,(length a:Int)) (0,([f]:List (List UInt8)))) λe=>.c _ (Jy e ([32,47,32]:List UInt8)) λh=>.l (h,true))
def Yz b a:=(RR b a).ev
def aSY:FP prog:=aG cx func204 [s9,aCQ,aDI] (yj [.agg bR]) [] [] (g7 RR) IR uE bU [(0,aJs)]
def wyu(k:Y1×iC)(v:Int):Tr (Int⊕(Unit⊕Int)):=.t (v<k.2.2) (.g (aB v (length k.1))<|.t (k.2.1==(getD k.1 (toNat v) 0)) (.l (.inr (.inr v))) (.l (.inl (wrap .i64 (v+1))))) (.l (.inr (.inl ())))
def aGL k v:=aC (λv=>(wyu k v).ev) v
abbrev aSU:Keep:=yh [0,1,7,8] (yj [.dat y1,.dat yi,.dat yi,.dat yi])
def aKw:LD:=yl (wyu) aSU [(0,bC)] Aj W4 U3 qE (λ_ r=>.s _ _ r (λ_=>yx 0 bC ((),())) (λb=>yz Aj ((b,()),())))
def VB(a:Y1)(e:Int):Tr Int:=.c _ (aGL (a,e,(length a:Int)) 0) λb=>.s _ _ b (λ_=>.l (-1)) (λf=>.l f)
def aAc b a:=(VB b a).ev
def aTx:FP prog:=aG cx func165 [] (yj [.dat y1,.dat yi]) [] [] (kJ VB) pG bH bU [(0,aKw)]
def RK(a:Y1)(_f:List Y1):Tr Int:=.c _ (Ju a) λe=>.c _ (aAc a e) λb=>.l b
def PU b a:=(RK b a).ev
def aQH:FP prog:=aG cx func93 [aCv,aTx] (yj [.agg bR]) [] [] (g7 RK) wR bH
def In(b:Y1)(a:Int):Option (List Int):=pW b a
def aIR:FD:=T5
theorem aJl:dV prog (167,aIR):=R3
def aPD:FP prog:=⟨_,aJl⟩
def UH(a c:Int)(_e:Y1)(b:List Y1):Tr Int:=.g (aB a (length b))<|.g (aB c (length (getD b (toNat a) [])))<|.l (wrap .i64 ((getD (getD b (toNat a) []) (toNat c) 0)*(2520:Int)))
def Qc b a e c:=(UH b a e c).ev
abbrev aNy{a b c d e g h:Type}{z:Type _}(f:a->b->c->d->z)(x:(a×b×(c×d×e)×g)×h):z:=f x.1.1 x.1.2.1 x.1.2.2.1.1 x.1.2.2.1.2.1
abbrev aEF:RetK:=yr [.tmp 5] eN
def aKN:FP prog:=aG cx func168 [] (yj [.dat yi,.dat yi,.ptr bR]) [] [] (aNy UH) aEF bH
def HY(a c b:Int):Tr Int:=.t (c<a) (.t (b<0) (.l a) (.t (a<b) (.l a) (.l b))) (.l b)
def AI b a c:=(HY b a c).ev
abbrev aRl{a b c d e g h:Type}{z:Type _}(f:a->b->e->z)(x:(a×(b×c)×d)×(e×g)×h):z:=f x.1.1 x.1.2.1.1 x.2.1.1
abbrev aOi:RetK:=⟨[],[],.nil,[(64,.cells eN)],[(2,0,64)],[]⟩
abbrev aVE{a:Type}(r:a):=((),(r,()),())
def aTb:FP prog:=aG cx func170 [] (yj [.dat yi,.ptr eN,.box 64 0]) [(64,.cells eN)] [.arg 2] (aRl HY) aOi aVE
def Ut(k:Int×Int×Y1×Y2×Int×Y1×Y1)(v:Int×Y1):Tr (gI⊕Y1):=.t (v.1<k.2.1) (.g (aB v.1 (length k.2.2.2.2.2.2))<|.g ((toNat v.1)<length k.2.2.2.2.2.2)<|.t ((getD k.2.2.2.2.2.2 (toNat v.1) 0)<(0:Int)) (.g (aB v.1 (length v.2))<|.g ((toNat v.1)<length v.2)<|.l (.inl ((wrap .i64 (v.1+1)),(set v.2 (toNat v.1) k.2.2.2.2.1)))) (.l (.inl ((wrap .i64 (v.1+1)),v.2)))) (.l (.inr v.2))
def aAp k v:=aC (λv=>(Ut k v).ev) v
abbrev aPF:Keep:=yk [] [1,2,3,4,5,6,36,37] (yj [.box 1 0,.box 2 0,.dat yi,.box 4 0,.fn 168 (yj [.box 1 0]),.box 6 0,.dat yi,.dat yi]) [jK,Tq,Ss,(6,.cells eN),(25,.arr 3 yi),(1920,.arr 3 yi),Fr]
abbrev Sa:Keep:=yk [] [1,2,3,4,5,6] (yj [.box 1 0,.box 2 0,.dat yi,.box 4 0,.fn 168 (yj [.box 1 0]),.box 6 0]) [jK,Tq,Ss,(6,.cells eN),(25,.arr 3 yi),(1920,.arr 3 yi),Fr]
abbrev aTw{a b c d e g h i j:Type}(k:a×b×c×d×e×g×h)(v:i×j):=(((),(),k.1,(),((),()),(),k.2.1,v.1,()),(k.2.2.1,k.2.2.2.1,()),((),(),(),()),((),(),(),()),(k.2.2.2.2.1,()),v.2,k.2.2.2.2.2.1,k.2.2.2.2.2.2,())
abbrev aIy{a b c d e g h i j l m n o p q s t u w:Type}(t:(a×b×c×d×e×g×h×i)×(j×l×m)×n×o×(p×q)×s×t×u×w):=(t.1.2.2.1,t.1.2.2.2.2.2.2.1,t.2.1.1,t.2.1.2.1,t.2.2.2.2.1.1,t.2.2.2.2.2.2.1,t.2.2.2.2.2.2.2.1)
abbrev aJt{a b c d e g h i j l m n o p q:Type}(t:(a×b×c×d×e×g×h×i×j)×l×m×n×o×p×q):=(t.1.2.2.2.2.2.2.2.1,t.2.2.2.2.2.1)
def aJm:LD:=yl (Ut) aPF [(2,Sa)] bC aTw aIy aJt (λk r=>yx 2 Sa (((),(),k.1,(),((),()),(),()),(k.2.2.1,k.2.2.2.1,()),((),(),(),()),((),(),(),()),(k.2.2.2.2.1,()),r,k.2.2.2.2.2.1,k.2.2.2.2.2.2,()))
def YT(k:Int×Int×Y1×Y2×Int×Fv)(v:Int×Y1):Tr (gI⊕Y1):=.t (v.1<k.2.1) (.g (aB v.1 (length k.2.2.2.2.2.1))<|.g ((toNat v.1)<length k.2.2.2.2.2.1)<|.g (aB v.1 (length v.2))<|.g ((toNat v.1)<length v.2)<|.t ((getD v.2 (toNat v.1) 0)<(0:Int)) (.g (aB v.1 (length k.2.2.1))<|.t ((wrap .i64 ((getD k.2.2.1 (toNat v.1) 0)*(2520:Int)))<=(getD k.2.2.2.2.2.1 (toNat v.1) 0)) (.g (aB v.1 (length v.2))<|.g ((toNat v.1)<length v.2)<|.l (.inl ((wrap .i64 (v.1+1)),(set v.2 (toNat v.1) k.2.2.2.2.1)))) (.l (.inl ((wrap .i64 (v.1+1)),v.2)))) (.l (.inl ((wrap .i64 (v.1+1)),v.2)))) (.l (.inr v.2))
def aHx k v:=aC (λv=>(YT k v).ev) v
abbrev aPf:Keep:=yk [] [1,2,3,4,5,6,55,56,57] (yj [.box 1 0,.box 2 0,.dat yi,.box 4 0,.fn 168 (yj [.box 1 0]),.box 6 0,.arr 3520,.dat yi,.dat yi]) [jK,Tq,Ss,(6,.cells eN),(3520,.arr 3 yi),(25,.arr 3 yi),(1920,.arr 3 yi),Fr]
abbrev aUc{a b c d e g h i j l:Type}(k:a×b×c×d×e×g×h×i)(v:j×l):=(((),(),k.1,(),((),()),(),(),k.2.1,v.1,()),(k.2.2.1,k.2.2.2.1,()),((),(),(),()),((),(),(),()),(k.2.2.2.2.1,()),k.2.2.2.2.2.1,k.2.2.2.2.2.2.1,v.2,k.2.2.2.2.2.2.2,())
abbrev aJa{a b c d e g h i j l m n o p q s t u w a19 a20:Type}(t:(a×b×c×d×e×g×h×i×j)×(l×m×n)×o×p×(q×s)×t×u×w×a19×a20):=(t.1.2.2.1,t.1.2.2.2.2.2.2.2.1,t.2.1.1,t.2.1.2.1,t.2.2.2.2.1.1,t.2.2.2.2.2.1,t.2.2.2.2.2.2.1,t.2.2.2.2.2.2.2.2.1)
abbrev aNp{a b c d e g h i j l m n o p q s t u:Type}(t:(a×b×c×d×e×g×h×i×j×l)×m×n×o×p×q×s×t×u):=(t.1.2.2.2.2.2.2.2.2.1,t.2.2.2.2.2.2.2.1)
def aRa:LD:=yl (YT) aPf [(4,Sa)] bC aUc aJa aNp (λk r=>yx 4 Sa (((),(),k.1,(),((),()),(),()),(k.2.2.1,k.2.2.2.1,()),((),(),(),()),((),(),(),()),(k.2.2.2.2.1,()),k.2.2.2.2.2.2.1,r,k.2.2.2.2.2.2.2,()))
def Wh(k:Int×Bool×Int×Int×Int×Int×Y1×Y2×Int×Y1×Y1)(v:Int×Y1):Tr (gI⊕Y1):=.t (v.1<k.2.2.2.2.2.1) (.g (aB v.1 (length k.2.2.2.2.2.2.2.2.2.1))<|.g ((toNat v.1)<length k.2.2.2.2.2.2.2.2.2.1)<|.g (aB k.2.2.1 (length v.2))<|.g ((toNat k.2.2.1)<length v.2)<|.g (aB k.2.2.1 (length k.2.2.2.2.2.2.2.2.2.2))<|.g ((toNat k.2.2.1)<length k.2.2.2.2.2.2.2.2.2.2)<|.t ((getD k.2.2.2.2.2.2.2.2.2.2 (toNat k.2.2.1) 0)==k.2.2.2.2.2.2.2.2.1) (.t ((0:Int)<=(getD k.2.2.2.2.2.2.2.2.2.1 (toNat v.1) 0)) (.c _ (Qc k.2.2.1 v.1 k.2.2.2.2.2.2.1 k.2.2.2.2.2.2.2.1) λa=>.t (a<=k.2.2.2.2.2.2.2.2.1) (.t ((getD v.2 (toNat k.2.2.1) 0)<(0:Int)) (.g (aB k.2.2.1 (length v.2))<|.g ((toNat k.2.2.1)<length v.2)<|.l (.inl ((wrap .i64 (v.1+1)),(set v.2 (toNat k.2.2.1) v.1)))) (.g (aB (getD v.2 (toNat k.2.2.1) 0) (length k.2.2.2.2.2.2.2.2.2.1))<|.g ((toNat (getD v.2 (toNat k.2.2.1) 0))<length k.2.2.2.2.2.2.2.2.2.1)<|.t ((getD k.2.2.2.2.2.2.2.2.2.1 (toNat v.1) 0)<(getD k.2.2.2.2.2.2.2.2.2.1 (toNat (getD v.2 (toNat k.2.2.1) 0)) 0)) (.g (aB k.2.2.1 (length v.2))<|.g ((toNat k.2.2.1)<length v.2)<|.l (.inl ((wrap .i64 (v.1+1)),(set v.2 (toNat k.2.2.1) v.1)))) (.l (.inl ((wrap .i64 (v.1+1)),v.2))))) (.l (.inl ((wrap .i64 (v.1+1)),v.2)))) (.l (.inl ((wrap .i64 (v.1+1)),v.2)))) (.l (.inl ((wrap .i64 (v.1+1)),v.2)))) (.l (.inr v.2))
def aDL k v:=aC (λv=>(Wh k v).ev) v
abbrev aPz:Keep:=yk [] [1,2,3,4,5,6,10,11,84,85,89,90,91] (yj [.box 1 0,.box 2 0,.dat yi,.box 4 0,.fn 168 (yj [.box 1 0]),.box 6 0,.dat .bool,.dat yi,.dat yi,.dat yi,.arr 1920,.dat yi,.dat yi]) [jK,Tq,Ss,(6,.cells eN),(1920,.arr 3 yi),(25,.arr 3 yi),Fr]
abbrev aBZ:Keep:=yk [] [1,2,3,4,5,6,10,11,84,85] (yj [.box 1 0,.box 2 0,.dat yi,.box 4 0,.fn 168 (yj [.box 1 0]),.box 6 0,.dat .bool,.dat yi,.dat yi,.dat yi]) [jK,Tq,Ss,(6,.cells eN),(25,.arr 3 yi),(1920,.arr 3 yi),Fr]
abbrev aQa{a b c d e g h i j l m n o:Type}(k:a×b×c×d×e×g×h×i×j×l×m)(v:n×o):=(((),(),k.1,(),((),()),(),k.2.1,k.2.2.1,k.2.2.2.1,k.2.2.2.2.1,(),k.2.2.2.2.2.1,v.1,()),(k.2.2.2.2.2.2.1,k.2.2.2.2.2.2.2.1,()),((),(),(),()),((),(),(),()),(k.2.2.2.2.2.2.2.2.1,()),k.2.2.2.2.2.2.2.2.2.1,k.2.2.2.2.2.2.2.2.2.2,v.2,())
abbrev aQr{a b c d e g h i j l m n o p q s t u w a19 a20 a21 a22:Type}(t:(a×b×c×d×e×g×h×i×j×l×m×n×o)×(p×q×s)×t×u×(w×a19)×a20×a21×a22):=(t.1.2.2.1,t.1.2.2.2.2.2.2.1,t.1.2.2.2.2.2.2.2.1,t.1.2.2.2.2.2.2.2.2.1,t.1.2.2.2.2.2.2.2.2.2.1,t.1.2.2.2.2.2.2.2.2.2.2.2.1,t.2.1.1,t.2.1.2.1,t.2.2.2.2.1.1,t.2.2.2.2.2.1,t.2.2.2.2.2.2.1)
abbrev aKX{a b c d e g h i j l m n o p q s t u w a19 a20 a21:Type}(t:(a×b×c×d×e×g×h×i×j×l×m×n×o×p)×q×s×t×u×w×a19×a20×a21):=(t.1.2.2.2.2.2.2.2.2.2.2.2.2.1,t.2.2.2.2.2.2.2.1)
def aOq:LD:=yl (Wh) aPz [(8,aBZ)] bC aQa aQr aKX (λk r=>yx 8 aBZ (((),(),k.1,(),((),()),(),k.2.1,k.2.2.1,k.2.2.2.1,k.2.2.2.2.1,()),(k.2.2.2.2.2.2.1,k.2.2.2.2.2.2.2.1,()),((),(),(),()),((),(),(),()),(k.2.2.2.2.2.2.2.2.1,()),k.2.2.2.2.2.2.2.2.2.2,k.2.2.2.2.2.2.2.2.2.1,r,()))
def ZP(k:Int×Int×Y1×Y2×Int×Y1×Y1)(v:Bool×gI):Tr ((Bool×gI)⊕o5):=.t (v.2.1<k.2.1) (.c _ (aDL (k.1,v.1,v.2.1,k.2.1,v.2.1,(length k.2.2.2.2.2.2:Int),k.2.2.1,k.2.2.2.1,k.2.2.2.2.1,k.2.2.2.2.2.2,k.2.2.2.2.2.1) (0,v.2.2)) λa=>.t v.1 (.l (.inl (true,(wrap .i64 (v.2.1+1)),a))) (.g (aB v.2.1 (length a))<|.g ((toNat v.2.1)<length a)<|.l (.inl (((getD a (toNat v.2.1) 0)<(0:Int)),(wrap .i64 (v.2.1+1)),a)))) (.l (.inr (v.1,v.2.2)))
def aBt k v:=aC (λv=>(ZP k v).ev) v
abbrev aUR:Keep:=yk [] [1,2,3,4,5,6,10,84,85] (yj [.box 1 0,.box 2 0,.dat yi,.box 4 0,.fn 168 (yj [.box 1 0]),.box 6 0,.dat .bool,.dat yi,.dat yi]) [jK,Tq,Ss,(6,.cells eN),(25,.arr 3 yi),(1920,.arr 3 yi),Fr]
abbrev aGr:Keep:=yk [] [1,2,3,4,5,6,10] (yj [.box 1 0,.box 2 0,.dat yi,.box 4 0,.fn 168 (yj [.box 1 0]),.box 6 0,.dat .bool]) [jK,Tq,Ss,(6,.cells eN),(25,.arr 3 yi),(1920,.arr 3 yi),Fr]
abbrev aOV{a b c d e g h i j l:Type}(k:a×b×c×d×e×g×h)(v:i×j×l):=(((),(),k.1,(),((),()),(),v.1,k.2.1,v.2.1,()),(k.2.2.1,k.2.2.2.1,()),((),(),(),()),((),(),(),()),(k.2.2.2.2.1,()),k.2.2.2.2.2.1,k.2.2.2.2.2.2,v.2.2,())
abbrev aWy{a b c d e g h i j l m n o p q s t u w:Type}(t:(a×b×c×d×e×g×h×i×j)×(l×m×n)×o×p×(q×s)×t×u×w):=(t.1.2.2.1,t.1.2.2.2.2.2.2.2.1,t.2.1.1,t.2.1.2.1,t.2.2.2.2.1.1,t.2.2.2.2.2.1,t.2.2.2.2.2.2.1)
abbrev aHX{a b c d e g h i j l m n o p q s t u:Type}(t:(a×b×c×d×e×g×h×i×j×l)×m×n×o×p×q×s×t×u):=(t.1.2.2.2.2.2.2.1,t.1.2.2.2.2.2.2.2.2.1,t.2.2.2.2.2.2.2.1)
def aOp:LD:=yl (ZP) aUR [(6,aGr)] bC aOV aWy aHX (λk r=>yx 6 aGr (((),(),k.1,(),((),()),(),r.1,()),(k.2.2.1,k.2.2.2.1,()),((),(),(),()),((),(),(),()),(k.2.2.2.2.1,()),k.2.2.2.2.2.1,k.2.2.2.2.2.2,r.2,()))
def XR(k:Int×Int×Int×Int×Int×Y1×Y2×Int×Y1×Fv)(v:Int×iC):Tr ((Int×iC)⊕iC):=.t (v.2.1<k.2.2.2.2.1) (.g (aB v.2.1 (length k.2.2.2.2.2.2.2.2.2.2.2))<|.g ((toNat v.2.1)<length k.2.2.2.2.2.2.2.2.2.2.2)<|.t ((0:Int)<=(getD k.2.2.2.2.2.2.2.2.2.2.2 (toNat v.2.1) 0)) (.l (.inl (v.1,(wrap .i64 (v.2.1+1)),v.2.2))) (.c _ (Qc v.2.1 k.2.1 k.2.2.2.2.2.1 k.2.2.2.2.2.2.1) λb=>.c _ (AI b k.2.2.2.2.2.2.2.1 v.2.2) λa=>.c _ (Qc v.2.1 k.2.1 k.2.2.2.2.2.1 k.2.2.2.2.2.2.1) λe=>.t (e<=k.2.2.2.2.2.2.2.1) (.l (.inl ((wrap .i64 (v.1+1)),(wrap .i64 (v.2.1+1)),a))) (.l (.inl (v.1,(wrap .i64 (v.2.1+1)),a))))) (.l (.inr (v.1,v.2.2)))
def aFR k v:=aC (λv=>(XR k v).ev) v
abbrev aSb:Keep:=yk [] [1,2,3,4,5,6,15,16,17,18,19,159,160,163,164] (yj [.box 1 0,.box 2 0,.dat yi,.box 4 0,.fn 168 (yj [.box 1 0]),.box 6 0,.box 15 0,.fn 170 (yj [.box 6 0,.box 15 0]),.arr 9984,.dat yi,.dat yi,.dat yi,.dat yi,.dat yi,.dat yi]) [jK,Tq,Ss,(6,.cells eN),(15,.cells eN),(9984,.arr 3 yi),(25,.arr 3 yi),(1920,.arr 3 yi),Fr]
abbrev aAN:Keep:=yk [] [1,2,3,4,5,6,15,16,17,18,19,159,160] (yj [.box 1 0,.box 2 0,.dat yi,.box 4 0,.fn 168 (yj [.box 1 0]),.box 6 0,.box 15 0,.fn 170 (yj [.box 6 0,.box 15 0]),.arr 9984,.dat yi,.dat yi,.dat yi,.dat yi]) [jK,Tq,Ss,(6,.cells eN),(15,.cells eN),(9984,.arr 3 yi),(25,.arr 3 yi),(1920,.arr 3 yi),Fr]
abbrev aWh{a b c d e g h i j l m n o p q:Type}(k:a×b×c×d×e×g×h×i×j×l×m×n)(v:o×p×q):=(((),(),k.1,(),((),()),(),(),((),(),()),(),k.2.1,v.1,k.2.2.1,k.2.2.2.1,k.2.2.2.2.1,v.2.1,()),(k.2.2.2.2.2.1,k.2.2.2.2.2.2.1,()),((),(),(),()),((),(),(),()),(k.2.2.2.2.2.2.2.1,()),(v.2.2,()),k.2.2.2.2.2.2.2.2.1,k.2.2.2.2.2.2.2.2.2.1,k.2.2.2.2.2.2.2.2.2.2.1,k.2.2.2.2.2.2.2.2.2.2.2,())
abbrev aSH{a b c d e g h i j l m n o p q s t u w a19 a20 a21 a22 a23 a24 a25 a26 a27:Type}(t:(a×b×c×d×e×g×h×i×j×l×m×n×o×p×q)×(s×t×u)×w×a19×(a20×a21)×a22×a23×a24×a25×a26×a27):=(t.1.2.2.1,t.1.2.2.2.2.2.2.2.2.2.1,t.1.2.2.2.2.2.2.2.2.2.2.2.1,t.1.2.2.2.2.2.2.2.2.2.2.2.2.1,t.1.2.2.2.2.2.2.2.2.2.2.2.2.2.1,t.2.1.1,t.2.1.2.1,t.2.2.2.2.1.1,t.2.2.2.2.2.2.1,t.2.2.2.2.2.2.2.1,t.2.2.2.2.2.2.2.2.1,t.2.2.2.2.2.2.2.2.2.1)
abbrev aPH{a b c d e g h i j l m n o p q s t u w a19 a20 a21 a22:Type}(t:(a×b×c×d×e×g×h×i×j×l×m×n×o×p×q×s)×t×u×w×a19×(a20×a21)×a22):=(t.1.2.2.2.2.2.2.2.2.2.2.1,t.1.2.2.2.2.2.2.2.2.2.2.2.2.2.2.1,t.2.2.2.2.2.1.1)
def aQX:LD:=yl (XR) aSb [(12,aAN)] bC aWh aSH aPH (λk r=>yx 12 aAN (((),(),k.1,(),((),()),(),(),((),(),()),(),k.2.1,r.1,k.2.2.1,k.2.2.2.1,()),(k.2.2.2.2.2.1,k.2.2.2.2.2.2.1,()),((),(),(),()),((),(),(),()),(k.2.2.2.2.2.2.2.1,()),(r.2,()),k.2.2.2.2.2.2.2.2.1,k.2.2.2.2.2.2.2.2.2.1,k.2.2.2.2.2.2.2.2.2.2.1,k.2.2.2.2.2.2.2.2.2.2.2,()))
def PK(k:Int×Int×Y1×Y2×Int×Y1×Fv)(v:Int×Int):Tr (iC⊕Int):=.t (v.1<k.2.1) (.c _ (aFR (k.1,v.1,k.2.1,v.1,k.1,k.2.2.1,k.2.2.2.1,k.2.2.2.2.1,k.2.2.2.2.2.1,k.2.2.2.2.2.2.1,k.2.2.2.2.2.2.2.1,k.2.2.2.2.2.2.2.2) (0,0,v.2)) λa=>.t (0<a.1) (.g (aB v.1 (length k.2.2.2.2.2.2.2.1))<|.g ((toNat v.1)<length k.2.2.2.2.2.2.2.1)<|.t ((getD k.2.2.2.2.2.2.2.1 (toNat v.1) 0)<(0:Int)) (.g (aB v.1 (length k.2.2.1))<|.g (aB v.1 (length k.2.2.2.2.2.1))<|.g ((toNat v.1)<length k.2.2.2.2.2.1)<|.g (!decide (a.1=0))<|.c _ (AI (wrap .i64 (k.2.2.2.2.1+(wrap .i64 (Int.tdiv (wrap .i64 ((wrap .i64 ((wrap .i64 ((wrap .i64 ((getD k.2.2.1 (toNat v.1) 0)*(2520:Int))) -(getD k.2.2.2.2.2.1 (toNat v.1) 0)))+a.1)) -1)) a.1)))) k.2.2.2.2.1 a.2) λb=>.l (.inl ((wrap .i64 (v.1+1)),b))) (.l (.inl ((wrap .i64 (v.1+1)),a.2)))) (.l (.inl ((wrap .i64 (v.1+1)),a.2)))) (.l (.inr v.2))
def aGF k v:=aC (λv=>(PK k v).ev) v
abbrev aQo:Keep:=yk [] [1,2,3,4,5,6,15,16,17,159,160] (yj [.box 1 0,.box 2 0,.dat yi,.box 4 0,.fn 168 (yj [.box 1 0]),.box 6 0,.box 15 0,.fn 170 (yj [.box 6 0,.box 15 0]),.arr 9984,.dat yi,.dat yi]) [jK,Tq,Ss,(6,.cells eN),(15,.cells eN),(9984,.arr 3 yi),(25,.arr 3 yi),(1920,.arr 3 yi),Fr]
abbrev aGC:Keep:=yk [] [1,2,3,4,5,6,15] (yj [.box 1 0,.box 2 0,.dat yi,.box 4 0,.fn 168 (yj [.box 1 0]),.box 6 0,.box 15 0]) [jK,Tq,Ss,(6,.cells eN),(15,.cells eN),(25,.arr 3 yi),(1920,.arr 3 yi),Fr]
abbrev aVW{a b c d e g h i j l m:Type}(k:a×b×c×d×e×g×h×i×j)(v:l×m):=(((),(),k.1,(),((),()),(),(),((),(),()),(),k.2.1,v.1,()),(k.2.2.1,k.2.2.2.1,()),((),(),(),()),((),(),(),()),(k.2.2.2.2.1,()),(v.2,()),k.2.2.2.2.2.1,k.2.2.2.2.2.2.1,k.2.2.2.2.2.2.2.1,k.2.2.2.2.2.2.2.2,())
abbrev aOw{a b c d e g h i j l m n o p q s t u w a19 a20 a21 a22 a23:Type}(t:(a×b×c×d×e×g×h×i×j×l×m)×(n×o×p)×q×s×(t×u)×w×a19×a20×a21×a22×a23):=(t.1.2.2.1,t.1.2.2.2.2.2.2.2.2.2.1,t.2.1.1,t.2.1.2.1,t.2.2.2.2.1.1,t.2.2.2.2.2.2.1,t.2.2.2.2.2.2.2.1,t.2.2.2.2.2.2.2.2.1,t.2.2.2.2.2.2.2.2.2.1)
abbrev aRF{a b c d e g h i j l m n o p q s t u w:Type}(t:(a×b×c×d×e×g×h×i×j×l×m×n)×o×p×q×s×(t×u)×w):=(t.1.2.2.2.2.2.2.2.2.2.2.1,t.2.2.2.2.2.1.1)
def aNV:LD:=yl (PK) aQo [(10,aGC)] bC aVW aOw aRF (λk r=>yx 10 aGC (((),(),k.1,(),((),()),(),(),()),(k.2.2.1,k.2.2.2.1,()),((),(),(),()),((),(),(),()),(k.2.2.2.2.1,()),(r,()),k.2.2.2.2.2.2.1,k.2.2.2.2.2.2.2.1,k.2.2.2.2.2.2.2.2,()))
def DT(k:Int×Y1×Y2)(v:Int×Fv):Tr ((Int×Fv)⊕Fv):=.c _ (aAp (k.1,k.1,k.2.1,k.2.2,v.1,v.2.2.1,v.2.2.2) (0,v.2.1)) λa=>.c _ (Bl k.2.1 k.2.2 a 2520) λf=>.c _ (aHx (k.1,(length f:Int),k.2.1,k.2.2,v.1,f,a,v.2.2.2) (0,v.2.2.1)) λb=>.c _ (aBt (k.1,k.1,k.2.1,k.2.2,v.1,a,b) (false,0,v.2.2.2)) λe=>.t (!e.1) (.l (.inr (a,b,e.2))) (.c _ (Bl k.2.1 k.2.2 a 2520) λh=>.c _ (aGF (k.1,(length k.2.1:Int),k.2.1,k.2.2,v.1,h,a,b,e.2) (0,(-1))) λg=>.l (.inl (g,a,b,e.2)))
def wyv k v:=aC (λv=>(DT k v).ev) v
abbrev aGG:Keep:=yk [] [2] (yj [.box 2 0]) [(2,.cells (yj [.arr 25,.arr 1920,.arr 2112])),(25,.arr 3 yi),(1920,.arr 3 yi),Fr]
abbrev aTI{a b c d e g h:Type}(k:a×b×c)(v:d×e×g×h):=(((),(),k.1,(),((),()),(),()),(k.2.1,k.2.2,()),((),(),(),()),((),(),(),()),(v.1,()),v.2.1,v.2.2.1,v.2.2.2,())
abbrev aDM{a b c d e g h i:Type}(t:(a×b×c×d)×(e×g×h)×i):=(t.1.2.2.1,t.2.1.1,t.2.1.2.1)
abbrev aPQ{a b c d e g h i j l:Type}(t:a×b×c×d×(e×g)×h×i×j×l):=(t.2.2.2.2.1.1,t.2.2.2.2.2.1,t.2.2.2.2.2.2.1,t.2.2.2.2.2.2.2.1)
def aMO:LD:=yl (DT) Sa [] aGG aTI aDM aPQ (λ_ r=>yz aGG (((),()),((),(),(),()),r.1,r.2.1,r.2.2,()))
def CN(e:Y1)(a:List Y1):Tr Fv:=.g (((0:Int)<=(length a:Int))&&((length a:Int)<=(length a:Int))&&(((8:Nat):Int)*(length a:Int)<=281474976710656))<|.c _ (In ([(-1)]:Y1) (length e:Int)) λh=>.c _ (In ([(-1)]:Y1) (length a:Int)) λf=>.c _ (wyv ((length a:Int),e,a) (0,(List.replicate (toNat (length a:Int)) 0),h,f)) λb=>.l (b.1,b.2.1,b.2.2)
def V7 b a:=(CN b a).ev
abbrev aTi:RetK:=⟨[.ren 25 1,.ren 1920 3,.ren 2112 4],[.cell 2 124],(yj [.agg (yj [.arr 1,.arr 3,.arr 4])]),[(1,.arr 3 yi),(3,.arr 3 yi),(4,.arr 3 yi)],[],[]⟩
abbrev aVT{a b c:Type}(r:a×b×c):=((((),(),(),()),()),r.1,r.2.1,r.2.2,())
def aMp:FP prog:=aG cx func94 [aPD,aAF,aKN,aTb] (yj [.agg bR]) [] [] (g7 CN) aTi aVT (Fq [(52,[(0,[5000006])])]) [(2,aJm),(4,aRa),(8,aOq),(6,aOp),(12,aQX),(10,aNV),(0,aMO)]
def TL(k:Int×Int×DV×Int)(v:Int×Y1):Tr (gI⊕Y1):=.t (k.1<v.1) (.g (aB v.1 (length v.2))<|.g ((toNat v.1)<length v.2)<|.g (aB (wrap .i64 (v.1-1)) (length v.2))<|.g ((toNat (wrap .i64 (v.1-1)))<length v.2)<|.c _ (k.2.2.1 ((getD v.2 (toNat v.1) 0),(getD v.2 (toNat (wrap .i64 (v.1-1))) 0),())) λa=>.t (a<0) (.g (aB (wrap .i64 (v.1-1)) (length v.2))<|.g ((toNat (wrap .i64 (v.1-1)))<length v.2)<|.g (aB v.1 (length v.2))<|.g ((toNat v.1)<length v.2)<|.g (aB v.1 (length v.2))<|.g ((toNat v.1)<length v.2)<|.g (aB (wrap .i64 (v.1-1)) (length (set v.2 (toNat v.1) (getD v.2 (toNat (wrap .i64 (v.1-1))) 0))))<|.g ((toNat (wrap .i64 (v.1-1)))<length (set v.2 (toNat v.1) (getD v.2 (toNat (wrap .i64 (v.1-1))) 0)))<|.l (.inl ((wrap .i64 (v.1-1)),(set (set v.2 (toNat v.1) (getD v.2 (toNat (wrap .i64 (v.1-1))) 0)) (toNat (wrap .i64 (v.1-1))) (getD v.2 (toNat v.1) 0))))) (.l (.inr v.2))) (.l (.inr v.2))
def wyw k v:=aC (λv=>(TL k v).ev) v
abbrev aMX:Keep:=yk [] [0,1,2,3,8,9] (yj [.arr 64,.dat yi,.dat yi,.clo [yi,yi] yi,.dat yi,.dat yi]) [mS]
abbrev NP:Keep:=yk [] [0,1,2,3,8] (yj [.arr 64,.dat yi,.dat yi,.clo [yi,yi] yi,.dat yi]) [mS]
def aPk:LD:=yl (TL) aMX [(2,NP)] bC aHg aAL RO (λk r=>yx 2 NP (((),k.1,k.2.1,k.2.2.1,k.2.2.2,()),r,()))
def wyx(k:Int×Int×DV)(v:Int×Y1):Tr (gI⊕Y1):=.t (v.1<k.2.1) (.c _ (wyw (k.1,k.2.1,k.2.2,v.1) (v.1,v.2)) λa=>.l (.inl ((wrap .i64 (v.1+1)),a))) (.l (.inr v.2))
def aEA k v:=aC (λv=>(wyx k v).ev) v
abbrev X3:Keep:=yk [] [0] (yj [.arr 64]) [mS]
def aUS:LD:=yl (wyx) NP [(0,X3)] bC IG Yt XY (λ_ r=>yx 0 X3 (((),()),r,()))
def MA(a f:Int)(b:DV)(e:Y1):Tr Y1:=.c _ (aEA (a,f,b) ((wrap .i64 (a+1)),e)) λg=>.l g
def Zd b c e a:=(MA b c e a).ev
abbrev Ln:RetK:=⟨[],[],.nil,[mS],[(0,0,64)],[]⟩
def aIa:FP prog:=aG cx func241 [] (yj [.arr 64,.dat yi,.dat yi,.clo [yi,yi] yi]) [mS] [.arg 0] (AE MA) Ln H1 bU [(2,aPk),(0,aUS)]
def SE(k:Int×DV×Int)(v:Int×gI):Tr ((Int×gI)⊕gI):=.t (v.2.1<=k.1) (.c _ (Zd v.1 v.2.1 k.2.1 v.2.2) λa=>.l (.inl (v.2.1,(wrap .i64 (v.2.1+k.2.2)),a))) (.l (.inr (v.1,v.2.2)))
def IB k v:=aC (λv=>(SE k v).ev) v
abbrev aEm:Keep:=yk [] [0,1,2,6,7,8] (yj [.arr 64,.dat yi,.clo [yi,yi] yi,.dat yi,.dat yi,.dat yi]) [mS]
abbrev Yj:Keep:=yk [] [0,1,2,6,7] (yj [.arr 64,.dat yi,.clo [yi,yi] yi,.dat yi,.dat yi]) [mS]
abbrev aKm{a b c d e g:Type}(k:a×b×c)(v:d×e×g):=(((),k.1,k.2.1,k.2.2,v.1,v.2.1,()),v.2.2,())
abbrev aNb{a b c d e g h i j:Type}(t:(a×b×c×d×e×g×h)×i×j):=(t.1.2.2.2.2.1,t.1.2.2.2.2.2.1,t.2.1)
def aTg:LD:=yl (SE) aEm [(0,Yj)] bC aKm Yt aNb (λk r=>yx 0 Yj (((),k.1,k.2.1,k.2.2,r.1,()),r.2,()))
def aFg(k:Int×DV×Int×Int×gI)(_v:Unit):Tr (Unit⊕Unit):=.t (k.2.2.2.2.1<=k.1) (.f) (.l (.inr ()))
def aPp k v:=aC (λv=>(aFg k v).ev) v
abbrev aAv{a b c d e g h:Type}(k:a×b×c×d×e×g)(_v:h):=(((),k.1,k.2.1,k.2.2.1,k.2.2.2.1,k.2.2.2.2.1,()),k.2.2.2.2.2,())
abbrev aBJ{a b c d e g h i j:Type}(t:(a×b×c×d×e×g×h)×i×j):=(t.1.2.1,t.1.2.2.1,t.1.2.2.2.1,t.1.2.2.2.2.1,t.1.2.2.2.2.2.1,t.2.1)
abbrev CG{a:Type}(_t:a):=()
def aQb:LD:=yl (aFg) aEm [(4,Yj)] bC aAv aBJ CG (λk _=>yx 4 Yj (((),k.1,k.2.1,k.2.2.1,k.2.2.2.1,()),k.2.2.2.2.2,()))
def NM(k:Int×DV×Y1)(v:Int):Tr (Int⊕Unit):=.t (v<k.1) (.c _ (aPp (k.1,k.2.1,v,0,(wrap .i64 ((2:Int)*v)),k.2.2) ()) λ_=>.t ((wrap .i64 ((0:Int)+v))<k.1) (.f) (.l (.inl (wrap .i64 (v*(2:Int)))))) (.l (.inr ()))
def PZ k v:=aC (λv=>(NM k v).ev) v
abbrev aUP:Keep:=yk [] [0,1,2,6] (yj [.arr 64,.dat yi,.clo [yi,yi] yi,.dat yi]) [mS]
abbrev aKA{a b c d:Type}(k:a×b×c)(v:d):=(((),k.1,k.2.1,v,()),k.2.2,())
abbrev WE{a b c d e g:Type}(t:(a×b×c×d)×e×g):=(t.1.2.1,t.1.2.2.1,t.2.1)
def aIT:LD:=yl (NM) aUP [(2,X3)] bC aKA WE qE (λk _=>yx 2 X3 (((),()),k.2.2,()))
def WD(a:Int)(b:DV)(g:Y1):Tr Y1:=.c _ (IB (a,b,20) (0,20,g)) λe=>.c _ (Zd e.1 a b e.2) λf=>.c _ (PZ (a,b,f) 20) λ_=>.l f
def aDw b c a:=(WD b c a).ev
abbrev aDG{a b c d e g:Type}{z:Type _}(f:b->c->e->z)(x:(a×b×c×d)×e×g):z:=f x.1.2.1 x.1.2.2.1 x.2.1
def aVr:FP prog:=aG cx func171 [aIa] (yj [.arr 64,.dat yi,.clo [yi,yi] yi]) [mS] [.arg 0] (aDG WD) Ln H1 bU [(0,aTg),(4,aQb),(2,aIT)]
def QU(b:DV)(a:Y1):Tr Y1:=.c _ (aDw (length a:Int) b a) λe=>.l e
def XN a b:=(QU a b).ev
def aAk:FP prog:=aG cx func95 [aVr] (yj [.arr 64,.clo [yi,yi] yi]) [mS] [.arg 0] (Ij QU) Ln H1
def XP(e b:Int)(_h a _i:Y1):Tr Int:=.g (aB e (length a))<|.g (aB b (length a))<|.c _ (Be (getD a (toNat e) 0) (getD a (toNat b) 0)) λf=>.l f
def AM e c f a b:=(XP e c f a b).ev
abbrev aVp{a b c d e g h i:Type}{z:Type _}(f:a->b->c->d->e->z)(x:(a×b×(c×d×e×g)×h)×i):z:=f x.1.1 x.1.2.1 x.1.2.2.1.1 x.1.2.2.1.2.1 x.1.2.2.1.2.2.1
def aWd:FP prog:=aG cx func96 [YL] (yj [.dat yi,.dat yi,.ptr (yj [.dat y1,.dat y1,.dat y1])]) [] [] (aVp XP) aEF bH
def PG(k:Int×Int×Y2×Int×Fv)(v:Int):Tr (Int⊕(Unit⊕Unit)):=.t (v<k.2.2.2.1) (.g (aB v (length k.2.2.1))<|.g (aB v (length k.2.2.2.2.1))<|.g (aB k.1 (length (getD k.2.2.1 (toNat v) [])))<|.t ((wrap .i64 ((getD (getD k.2.2.1 (toNat v) []) (toNat k.1) 0)*(2520:Int)))<(getD k.2.2.2.2.1 (toNat v) 0)) (.g (aB v (length k.2.2.2.2.1))<|.g (aB k.2.1 (length (getD k.2.2.1 (toNat v) [])))<|.t ((wrap .i64 ((getD (getD k.2.2.1 (toNat v) []) (toNat k.2.1) 0)*(2520:Int)))<(getD k.2.2.2.2.1 (toNat v) 0)) (.l (.inr (.inr ()))) (.l (.inl (wrap .i64 (v+1))))) (.l (.inl (wrap .i64 (v+1))))) (.l (.inr (.inl ())))
def aHJ k v:=aC (λv=>(PG k v).ev) v
abbrev aIA:Keep:=yk [] [2,3,5,12,13,14] (yj [.dat yi,.dat yi,.box 5 0,.dat y2,.dat yi,.dat yi]) [(5,.cells (yj [.dat y1,.dat y1,.dat y1]))]
abbrev aNX{a b c d e g h i:Type}(k:a×b×c×d×e×g×h)(v:i):=((k.1,k.2.1,(),k.2.2.1,k.2.2.2.1,v,()),(k.2.2.2.2.1,k.2.2.2.2.2.1,k.2.2.2.2.2.2,()),())
abbrev aUY{a b c d e g h i j l m:Type}(t:(a×b×c×d×e×g)×(h×i×j×l)×m):=(t.1.1,t.1.2.1,t.1.2.2.2.1,t.1.2.2.2.2.1,t.2.1.1,t.2.1.2.1,t.2.1.2.2.1)
abbrev aLS{a b c d e g h i:Type}(t:(a×b×c×d×e×g×h)×i):=t.1.2.2.2.2.2.1
def aJo:LD:=yl (PG) aIA [(0,bC)] Mk aNX aUY aLS (λ_ r=>.s _ _ r (λ_=>yx 0 bC ((),())) (λ_=>yz Mk ((true,()),())))
def MI(_j:Y1)(a:List Y1)(h e f:Y1)(b g:Int):Tr Bool:=.c _ (aHJ (b,g,a,(length a:Int),h,e,f) 0) λi=>.s _ _ i (λ_=>.l false) (λ_=>.l true)
def HW f e h b c a g:=(MI f e h b c a g).ev
abbrev aKo{a b c d e g h i j l m:Type}{z:Type _}(f:a->b->d->e->g->i->j->z)(x:((a×b×c)×(d×e×g×h)×i×j×l)×m):z:=f x.1.1.1 x.1.1.2.1 x.1.2.1.1 x.1.2.1.2.1 x.1.2.1.2.2.1 x.1.2.2.1 x.1.2.2.2.1
def aPR:FP prog:=aG cx func100 [] (yj [.agg bR,.agg (yj [.dat y1,.dat y1,.dat y1]),.dat yi,.dat yi]) [] [] (aKo MI) TE bH bU [(0,aJo)]
def XW(g:Int)(f:Y1)(j:List Y1)(b e a:Y1)(h:Int):Tr Bool:=.c _ (HW f j b e a h g) λi=>.l i
def BZ f e h b c a g:=(XW f e h b c a g).ev
abbrev aPC{a b c d e g h i j l m n:Type}{z:Type _}(f:a->b->c->e->g->h->j->z)(x:(a×(b×c×d)×(e×g×h×i)×(j×l)×m)×n):z:=f x.1.1 x.1.2.1.1 x.1.2.1.2.1 x.1.2.2.1.1 x.1.2.2.1.2.1 x.1.2.2.1.2.2.1 x.1.2.2.2.1.1
abbrev aLN:RetK:=yr [.tmp 5] (yj [.dat .bool])
def aMj:FP prog:=aG cx func99 [aPR] (yj [.dat yi,.ptr bR,.ptr (yj [.dat y1,.dat y1,.dat y1]),.ptr eN]) [] [] (aPC XW) aLN bH
def ON(b a:Int):Tr Bool:=.c _ (L7 b) λf=>.t f (.c _ (L7 a) λe=>.t (!e) (.l true) (.l (b<a))) (.l (b<a))
def FW b a:=(ON b a).ev
def aJP:FP prog:=aG cx func249 [aCs] (yj [.dat yi,.dat yi]) [] [] (kJ ON) rR bH
def OT(k:Int×iC)(v:Int×Y1):Tr (gI⊕Y1):=.t (k.1<v.1) (.g (aB v.1 (length v.2))<|.g ((toNat v.1)<length v.2)<|.g (aB (wrap .i64 (v.1-1)) (length v.2))<|.g ((toNat (wrap .i64 (v.1-1)))<length v.2)<|.c _ (FW (getD v.2 (toNat v.1) 0) (getD v.2 (toNat (wrap .i64 (v.1-1))) 0)) λa=>.t a (.g (aB (wrap .i64 (v.1-1)) (length v.2))<|.g ((toNat (wrap .i64 (v.1-1)))<length v.2)<|.g (aB v.1 (length v.2))<|.g ((toNat v.1)<length v.2)<|.g (aB v.1 (length v.2))<|.g ((toNat v.1)<length v.2)<|.g (aB (wrap .i64 (v.1-1)) (length (set v.2 (toNat v.1) (getD v.2 (toNat (wrap .i64 (v.1-1))) 0))))<|.g ((toNat (wrap .i64 (v.1-1)))<length (set v.2 (toNat v.1) (getD v.2 (toNat (wrap .i64 (v.1-1))) 0)))<|.l (.inl ((wrap .i64 (v.1-1)),(set (set v.2 (toNat v.1) (getD v.2 (toNat (wrap .i64 (v.1-1))) 0)) (toNat (wrap .i64 (v.1-1))) (getD v.2 (toNat v.1) 0))))) (.l (.inr v.2))) (.l (.inr v.2))
def wyy k v:=aC (λv=>(OT k v).ev) v
abbrev aWa:Keep:=yk [] [0,1,2,6,7] (yj [.arr 64,.dat yi,.dat yi,.dat yi,.dat yi]) [mS]
abbrev LG:Keep:=yk [] [0,1,2,6] (yj [.arr 64,.dat yi,.dat yi,.dat yi]) [mS]
def aIB:LD:=yl (OT) aWa [(2,LG)] bC IG Yt XY (λk r=>yx 2 LG (((),k.1,k.2.1,k.2.2,()),r,()))
def wyz(k:Int×Int)(v:Int×Y1):Tr (gI⊕Y1):=.t (v.1<k.2) (.c _ (wyy (k.1,k.2,v.1) (v.1,v.2)) λa=>.l (.inl ((wrap .i64 (v.1+1)),a))) (.l (.inr v.2))
def aEO k v:=aC (λv=>(wyz k v).ev) v
def aLk:LD:=yl (wyz) LG [(0,X3)] bC CE C6 Fj (λ_ r=>yx 0 X3 (((),()),r,()))
def MP(a f:Int)(e:Y1):Tr Y1:=.c _ (aEO (a,f) ((wrap .i64 (a+1)),e)) λb=>.l b
def SH b c a:=(MP b c a).ev
def aNF:FP prog:=aG cx func243 [aJP] (yj [.arr 64,.dat yi,.dat yi]) [mS] [.arg 0] (aDG MP) Ln H1 bU [(2,aIB),(0,aLk)]
def GW(k:Int×Int×Int×Bool×o5)(_v:Unit):Tr (Unit⊕Y1):=.t ((wrap .i64 (k.2.1-k.1))<=(12:Int)) (.c _ (SH k.1 k.2.1 k.2.2.2.2.2) λa=>.l (.inr a)) (.t (k.2.2.1==0) (.f) (.g (!k.2.2.2.1)<|.f))
def WR k v:=aC (λv=>(GW k v).ev) v
abbrev aQL:Keep:=yk [] [0,1,2,3,8,9] (yj [.arr 64,.dat yi,.dat yi,.dat yi,.dat .bool,.dat .bool]) [mS]
def aTm:LD:=yl (GW) aQL [] X3 aAv aBJ CG (λ_ r=>yz X3 (((),()),r,()))
def KU(e g a:Int)(f:Y1):Tr Y1:=.c _ (WR (e,g,a,true,true,f) ()) λb=>.l b
def aBn b c e a:=(KU b c e a).ev
def aNj:FP prog:=aG cx func174 [aNF] (yj [.arr 64,.dat yi,.dat yi,.dat yi]) [mS] [.arg 0] (AE KU) Ln H1 bU [(0,aTm)]
def OR(a:Y1):Tr Y1:=.c _ (Wq (wrap .u64 (length a:Int))) λe=>.c _ (aBn 0 (length a:Int) e a) λb=>.l b
def UO a:=(OR a).ev
abbrev aMa{a b c:Type}{z:Type _}(f:b->z)(x:a×b×c):z:=f x.2.1
def aIr:FP prog:=aG cx func101 [KE,aNj] (yj [.arr 64]) [mS] [.arg 0] (aMa OR) Ln H1
def ZY(k:Int×Y1×Y2×Fv)(v:Int×Y1):Tr (gI⊕Y1):=.t (v.1<k.1) (.g (aB v.1 (length k.2.2.2.1))<|.g ((toNat v.1)<length k.2.2.2.1)<|.t ((0:Int)<=(getD k.2.2.2.1 (toNat v.1) 0)) (.g ((length v.2+length ([v.1]:Y1))*8<=140737488355328)<|.l (.inl ((wrap .i64 (v.1+1)),(v.2++([v.1]:Y1))))) (.l (.inl ((wrap .i64 (v.1+1)),v.2)))) (.l (.inr v.2))
def SJ k v:=aC (λv=>(ZY k v).ev) v
abbrev aVq:Keep:=yk [] [1,4,5,25,26,27] (yj [.box 1 0,.box 4 0,.arr 23,.arr 1411,.dat yi,.dat yi]) [jK,(4,.cells (yj [.arr 1409,.arr 1411,.arr 1412])),(23,.arr 3 yi),(1411,.arr 3 yi),(1409,.arr 3 yi),(1412,.arr 3 yi)]
abbrev aGe:Keep:=yk [] [1,4,5] (yj [.box 1 0,.box 4 0,.arr 23]) [jK,(4,.cells (yj [.arr 1409,.arr 1411,.arr 1412])),(23,.arr 3 yi),(1409,.arr 3 yi),(1411,.arr 3 yi),(1412,.arr 3 yi)]
abbrev aTJ{a b c d e g h i:Type}(k:a×b×c×d×e×g)(v:h×i):=(((),(),(),(),k.1,v.1,()),(k.2.1,k.2.2.1,()),((),(),(),()),v.2,k.2.2.2.1,k.2.2.2.2.1,k.2.2.2.2.2,())
abbrev aIj{a b c d e g h i j l m n o p q:Type}(t:(a×b×c×d×e×g)×(h×i×j)×l×m×n×o×p×q):=(t.1.2.2.2.2.1,t.2.1.1,t.2.1.2.1,t.2.2.2.2.1,t.2.2.2.2.2.1,t.2.2.2.2.2.2.1)
abbrev aFt{a b c d e g h i j l m:Type}(t:(a×b×c×d×e×g×h)×i×j×l×m):=(t.1.2.2.2.2.2.1,t.2.2.2.1)
def aLD:LD:=yl (ZY) aVq [(0,aGe)] bC aTJ aIj aFt (λk r=>yx 0 aGe (((),(),(),()),(k.2.1,k.2.2.1,()),((),(),(),()),r,k.2.2.2.2.1,k.2.2.2.1,k.2.2.2.2.2,()))
def Jc(k:Int×Y1×Y2×Y1×Fv)(v:Int×Y1):Tr (gI⊕Y1):=.t (v.1<k.1) (.g (aB v.1 (length k.2.2.2.1))<|.g ((toNat v.1)<length k.2.2.2.1)<|.c _ (DA v.2 (λe=>Option.bind (BZ e.1 k.2.1 k.2.2.1 k.2.2.2.2.1 k.2.2.2.2.2.1 k.2.2.2.2.2.2 (getD k.2.2.2.1 (toNat v.1) 0)) λa=>some a)) λb=>.t (!b) (.g ((length v.2+length ([(getD k.2.2.2.1 (toNat v.1) 0)]:Y1))*8<=140737488355328)<|.l (.inl ((wrap .i64 (v.1+1)),(v.2++([(getD k.2.2.2.1 (toNat v.1) 0)]:Y1))))) (.l (.inl ((wrap .i64 (v.1+1)),v.2)))) (.l (.inr v.2))
def aBc k v:=aC (λv=>(Jc k v).ev) v
abbrev aJb:Keep:=yk [] [1,4,8,43,44,45] (yj [.box 1 0,.box 4 0,.arr 42,.arr 23,.dat yi,.dat yi]) [jK,(4,.cells (yj [.arr 1409,.arr 1411,.arr 1412])),(42,.arr 3 yi),(23,.arr 3 yi),(1409,.arr 3 yi),(1411,.arr 3 yi),(1412,.arr 3 yi)]
abbrev aEQ:Keep:=yk [] [8] (yj [.arr 42]) [(42,.arr 3 yi)]
abbrev aIk{a b c d e g h i j:Type}(k:a×b×c×d×e×g×h)(v:i×j):=(((),(),(),(),k.1,v.1,()),(k.2.1,k.2.2.1,()),((),(),(),()),v.2,k.2.2.2.1,k.2.2.2.2.1,k.2.2.2.2.2.1,k.2.2.2.2.2.2,())
abbrev aVG{a b c d e g h i j l m n o p q s:Type}(t:(a×b×c×d×e×g)×(h×i×j)×l×m×n×o×p×q×s):=(t.1.2.2.2.2.1,t.2.1.1,t.2.1.2.1,t.2.2.2.2.1,t.2.2.2.2.2.1,t.2.2.2.2.2.2.1,t.2.2.2.2.2.2.2.1)
def aIY:LD:=yl (Jc) aJb [(2,aEQ)] bC aIk aVG aFt (λ_ r=>yx 2 aEQ (((),()),r,()))
def CL(e:Y1)(b:List Y1):Tr o5:=.c _ (Ge e b) λm=>.t (!m) (.l (false,[])) (.t ((length b:Int)==(0:Int)) (.c _ (PU e b) λj=>.l (true,([j]:Y1))) (.c _ (V7 e b) λa=>.c _ (SJ ((length a.2.1:Int),e,b,a.2.1,a.1,a.2.2) (0,[])) λh=>.c _ (XN (λf=>Option.bind (AM f.1 f.2.1 a.1 a.2.1 a.2.2) λo=>some o) h) λg=>.c _ (aBc ((length g:Int),e,b,g,a.1,a.2.1,a.2.2) (0,[])) λn=>.c _ (UO n) λi=>.l (true,i)))
def Lb b a:=(CL b a).ev
abbrev aOu:RetK:=⟨[.own 2 0 3 yi,.ren 20 0,.ren 42 0],[.tmp 2,.tmp 3],Kr,[rS],[],[]⟩
def aPm:FP prog:=aG cx func45 [s9,aQH,aMp,aAk,CP,aIr,CP,aMj,aAk,aWd] (yj [.agg bR]) [] [] (g7 CL) aOu qD bU [(0,aLD),(2,aIY)]
def KP(b:Y1)(a:List Y1)(e:Y1):Tr (Bool×Bool):=.c _ (W6 b a e) λg=>.t (!g) (.l (false,false)) (.c _ (CS b a e) λf=>.l ((!f.1),true))
def NG b a c:=(KP b a c).ev
def aOm:FP prog:=aG cx func42 [Kc,aFk] (yj [.agg bR,.dat y1]) [] [] (jB KP) aCL uE
def wza(k:Int×Int×Y2×Int)(v:Int×Int):Tr (iC⊕Int):=.t (v.2<k.2.2.2) (.g (aB v.2 (length k.2.2.1))<|.g (aB k.1 (length (getD k.2.2.1 (toNat v.2) [])))<|.g (aB k.2.1 (length (getD k.2.2.1 (toNat v.2) [])))<|.t ((getD (getD k.2.2.1 (toNat v.2) []) (toNat k.1) 0)<(getD (getD k.2.2.1 (toNat v.2) []) (toNat k.2.1) 0)) (.l (.inl ((wrap .i64 (v.1+1)),(wrap .i64 (v.2+1))))) (.l (.inl (v.1,(wrap .i64 (v.2+1)))))) (.l (.inr v.1))
def aGD k v:=aC (λv=>(wza k v).ev) v
abbrev aLE:Keep:=yh [1,2,7,11,12,13] (yj [.dat yi,.dat yi,.dat yi,.dat y2,.dat yi,.dat yi])
abbrev aRr{a b c d e g:Type}(k:a×b×c×d)(v:e×g):=((k.1,k.2.1,v.1,k.2.2.1,k.2.2.2,v.2,()),())
def aSi:LD:=yl (wza) aLE [(0,u6)] bC aRr aBl SX (λ_ r=>yx 0 u6 ((r,()),()))
def TZ(_g:Y1)(a:List Y1)(e b:Int):Tr Int:=.c _ (aGD (e,b,a,(length a:Int)) (0,0)) λf=>.l f
def BV b a e c:=(TZ b a e c).ev
def aUT:FP prog:=aG cx func276 [] (yj [.agg bR,.dat yi,.dat yi]) [] [] (H2 TZ) Bt bH bU [(0,aSi)]
def wzc(k:Int×Int×Int×Int×N2)(v:Bool×Int):Tr ((Bool×Int)⊕Bool):=.t (v.2<k.2.2.2.1) (.t v.1 (.l (.inl (true,(wrap .i64 (v.2+1))))) (.c _ (BV k.2.2.2.2.1 k.2.2.2.2.2.1 v.2 k.1) λb=>.c _ (BV k.2.2.2.2.1 k.2.2.2.2.2.1 k.1 v.2) λa=>.l (.inl ((a<b),(wrap .i64 (v.2+1)))))) (.l (.inr v.1))
def aHl k v:=aC (λv=>(wzc k v).ev) v
abbrev aNq:Keep:=yk [] [1,4,5,6,14,15,20,21] (yj [.box 1 0,.arr 11,.dat yi,.dat .bool,.dat yi,.dat yi,.dat yi,.dat yi]) [jK,(11,.arr 3 yi)]
abbrev aFx:Keep:=yk [] [1,4,5,6,14,15] (yj [.box 1 0,.arr 11,.dat yi,.dat .bool,.dat yi,.dat yi]) [jK,(11,.arr 3 yi)]
abbrev aPg{a b c d e g h i j:Type}(k:a×b×c×d×e×g×h)(v:i×j):=(((),(),k.1,v.1,k.2.1,k.2.2.1,k.2.2.2.1,v.2,()),(k.2.2.2.2.1,k.2.2.2.2.2.1,()),k.2.2.2.2.2.2,())
abbrev aJV{a b c d e g h i j l m n o:Type}(t:(a×b×c×d×e×g×h×i)×(j×l×m)×n×o):=(t.1.2.2.1,t.1.2.2.2.2.1,t.1.2.2.2.2.2.1,t.1.2.2.2.2.2.2.1,t.2.1.1,t.2.1.2.1,t.2.2.1)
abbrev aRK{a b c d e g h i j l:Type}(t:(a×b×c×d×e×g×h×i×j)×l):=(t.1.2.2.2.1,t.1.2.2.2.2.2.2.2.1)
def aKg:LD:=yl (wzc) aNq [(2,aFx)] bC aPg aJV aRK (λk r=>yx 2 aFx (((),(),k.1,r,k.2.1,k.2.2.1,()),(k.2.2.2.2.1,k.2.2.2.2.2.1,()),k.2.2.2.2.2.2,()))
def wzd(k:Int×Y1×Y2)(v:Int×Y1):Tr (gI⊕Y1):=.t (v.1<k.1) (.c _ (aHl (v.1,k.1,v.1,(length k.2.1:Int),k.2.1,k.2.2,v.2) (false,0)) λa=>.t (!a) (.g ((length v.2+length ([v.1]:Y1))*8<=140737488355328)<|.l (.inl ((wrap .i64 (v.1+1)),(v.2++([v.1]:Y1))))) (.l (.inl ((wrap .i64 (v.1+1)),v.2)))) (.l (.inr v.2))
def aAD k v:=aC (λv=>(wzd k v).ev) v
abbrev aPx:Keep:=yk [] [1,4,14,15] (yj [.box 1 0,.arr 11,.dat yi,.dat yi]) [jK,(11,.arr 3 yi)]
abbrev aBg:Keep:=yk [] [4] (yj [.arr 11]) [(11,.arr 3 yi)]
abbrev aMd{a b c d e:Type}(k:a×b×c)(v:d×e):=(((),(),k.1,v.1,()),(k.2.1,k.2.2,()),v.2,())
def aKQ:LD:=yl (wzd) aPx [(0,aBg)] bC aMd aDM aEd (λ_ r=>yx 0 aBg (((),()),r,()))
def MX(a:Y1)(b:List Y1):Tr o5:=.c _ (Ge a b) λf=>.t (!f) (.l (false,[])) (.c _ (aAD ((length a:Int),a,b) (0,[])) λe=>.l (true,e))
def JP b a:=(MX b a).ev
abbrev aMK:RetK:=⟨[.own 2 0 3 yi,.ren 11 0],[.tmp 2,.tmp 3],Kr,[rS],[],[]⟩
def aVw:FP prog:=aG cx func206 [s9,aUT] (yj [.agg bR]) [] [] (g7 MX) aMK qD bU [(2,aKg),(0,aKQ)]
noncomputable abbrev OM(p1:Y1)(p2:Bool):=(.c _ (Tk p1 p2) λa=>.l (a.1,a.2):Tr Lx)
noncomputable abbrev aBO(p1:Y1)(p2:List UInt8)(p3:Y1)(p4:List Y1)(p5:Y1)(p6:Int):=(.t ((0:Int)<(length p1:Int)) (.l ([],false)) (.t (p2==([116,111,116,97,108]:List UInt8)) (.c _ (BK p3 p4 p5 p6) λj=>.c _ (Fg j.1 j.2) λm=>.l (m.1,m.2)) (.t (p2==([103,97,112]:List UInt8)) (.c _ (QG p3 p4 p5 p6) λe=>.c _ (Fg e.1 e.2) λh=>.l (h.1,h.2)) (.t (p2==([115,101,114,118,105,99,101]:List UInt8)) (.c _ (OH p3 p4 p5) λa=>.c _ (Fg a.1 a.2) λg=>.l (g.1,g.2)) (.t (p2==([114,101,97,99,104]:List UInt8)) (.c _ (WA p3 p4 p5) λn=>.c _ (Fg n.1 n.2) λo=>.l (o.1,o.2)) (.t (p2==([115,101,114,118,101,100]:List UInt8)) (.c _ (UU p3 p4 p5) λi=>OM i.2 i.1) (.t (p2==([109,101,116,114,105,99]:List UInt8)) (.c _ (AX p3 p4) λf=>.c _ (HX f.1 f.2) λb=>.l (b.1,b.2)) (.t (p2==([102,105,101,108,100]:List UInt8)) (.c _ (Yz p3 p4) λw=>.l (w.1,w.2)) (.t (p2==([112,114,105,99,101,115]:List UInt8)) (.c _ (Ya p3 p4) λs=>OM s.2 s.1) (.t (p2==([103,114,111,119,116,104]:List UInt8)) (.c _ (Lb p3 p4) λu=>OM u.2 u.1) (.t (p2==([108,111,99,97,108]:List UInt8)) (.c _ (NG p3 p4 p5) λr=>.c _ (HX r.1 r.2) λq=>.l (q.1,q.2)) (.t (p2==([117,110,98,101,97,116,101,110]:List UInt8)) (.c _ (JP p3 p4) λp=>OM p.2 p.1) (.l ([],false))))))))))))):Tr Lx)
def Vc(f:Y1)(e:List Y1)(m:Y1)(h:Int)(b:List UInt8)(a:Y1):Tr Lx:=.t ((length a:Int)==(1:Int)) (.t (b==([109,101,100,105,97,110]:List UInt8)) (.g (aB 0 (length a))<|.c _ (Yq f e (getD a (toNat 0) 0)) λj=>OM j.2 j.1) (.t (b==([99,101,110,116,114,101,115]:List UInt8)) (.g (aB 0 (length a))<|.c _ (Pl f e (getD a (toNat 0) 0)) λl=>OM l.2 l.1) (.t (b==([102,97,114]:List UInt8)) (.g (aB 0 (length a))<|.c _ (FA f e (getD a (toNat 0) 0)) λi=>OM i.1 i.2) (aBO a b f e m h)))) (aBO a b f e m h)
def X0 f e g b c a:=(Vc f e g b c a).ev
abbrev aVI:RetK:=yr [.tmp 6,.tmp 7] (yj [.dat .str,.dat .bool])
def aOd:FP prog:=aG cx func130 [aRW,aIX,aSe,aPY,aGa,aMl,aPy,aTU,aRi,aUk,aIJ,aJN,aSY,aFZ,aPm,aOm,aVw] (yj [.agg qC,.dat .str,.dat y1]) [] [] (JK Vc) aVI uE
def Mh(k:(List (List UInt8))×(List (List UInt8))×Int×Int×Int×N2)(v:Int×Y1):Tr (gI⊕(Y1⊕Unit)):=.t (v.1<k.2.2.1) (.g (aB v.1 (length k.2.1))<|.c _ (MY (getD k.2.1 (toNat v.1) [])) λa=>.t (!a.2) (.l (.inr (.inr ()))) (.g ((length v.2+length ([a.1]:Y1))*8<=140737488355328)<|.l (.inl ((wrap .i64 (v.1+1)),(v.2++([a.1]:Y1)))))) (.l (.inr (.inl v.2)))
def aDY k v:=aC (λv=>(Mh k v).ev) v
abbrev aVM:Keep:=yk [] [2,4,7,8,20,21,22] (yj [.box 2 0,.box 4 0,.dat (.slice .str),.arr 18,.dat (.slice .str),.dat yi,.dat yi]) [(2,.cells (yj [.arr 64,.arr 65,.arr 66,.dat yi])),Wc,(18,.arr 3 yi),mS,(65,.rows 22 3 yi),(66,.arr 3 yi)]
abbrev aGK:Keep:=yk [] [2,4,7,8] (yj [.box 2 0,.box 4 0,.dat (.slice .str),.arr 18]) [(2,.cells (yj [.arr 64,.arr 65,.arr 66,.dat yi])),Wc,(18,.arr 3 yi),mS,(65,.rows 22 3 yi),(66,.arr 3 yi)]
abbrev aBb:Keep:=yk [] [4,5,6] (yj [.box 4 0,.dat .str,.dat .bool]) [(4,.cells (yj [.arr 64,.arr 65,.arr 66,.dat yi])),mS,(65,.rows 22 3 yi),(66,.arr 3 yi)]
abbrev aSD{a b c d e g h i j l:Type}(k:a×b×c×d×e×g×h×i)(v:j×l):=(((),(),k.1,(),k.2.1,k.2.2.1,v.1,()),((),(),(),k.2.2.2.1,()),((),(),(),k.2.2.2.2.1,()),v.2,k.2.2.2.2.2.1,k.2.2.2.2.2.2.1,k.2.2.2.2.2.2.2,())
abbrev aRN{a b c d e g h i j l m n o p q s t u w a19 a20 a21:Type}(t:(a×b×c×d×e×g×h)×(i×j×l×m×n)×(o×p×q×s×t)×u×w×a19×a20×a21):=(t.1.2.2.1,t.1.2.2.2.2.1,t.1.2.2.2.2.2.1,t.2.1.2.2.2.1,t.2.2.1.2.2.2.1,t.2.2.2.2.1,t.2.2.2.2.2.1,t.2.2.2.2.2.2.1)
def aVx:LD:=yl (Mh) aVM [(0,aGK)] aBb aSD aRN WM (λk r=>.s Y1 Unit r (λa=>yx 0 aGK (((),(),k.1,(),()),((),(),(),k.2.2.2.1,()),((),(),(),k.2.2.2.2.1,()),a,k.2.2.2.2.2.1,k.2.2.2.2.2.2.1,k.2.2.2.2.2.2.2,())) (λ_=>yz aBb (((),[],false,()),((),(),(),k.2.2.2.1,()),k.2.2.2.2.2.1,k.2.2.2.2.2.2.1,k.2.2.2.2.2.2.2,())))
def KA(e:Int)(o:List UInt8)(h:Y1)(f:List Y1)(i:Y1):Tr (Int×(List UInt8)×Bool×N2):=.c _ (VS o ([32]:List UInt8)) λa=>.g (((0:Int)<=(1:Int))&&((1:Int)<=(length a:Int)))<|.c _ (aDY (a,(List.drop (toNat 1) (List.take (length a) a)),(length (List.drop (toNat 1) (List.take (length a) a)):Int),e,0,h,f,i) (0,[])) λp=>.s Y1 Unit p (λn=>.g (aB 0 (length a))<|.c _ (Ni (getD a (toNat 0) [])) λm=>.t (0<m) (.c _ (Sy e m n h f i) λb=>.l (b.1,b.2.1,b.2.2.1,b.2.2.2.1,b.2.2.2.2.1,b.2.2.2.2.2)) (.g (aB 0 (length a))<|.c _ (X0 h f i e (getD a (toNat 0) []) n) λj=>.l (e,j.1,j.2,h,f,i))) (λ_=>.l (e,[],false,h,f,i))
def Wu a b e c f:=(KA a b e c f).ev
abbrev aDq{a b c d e g h i j l m:Type}{z:Type _}(f:d->g->i->j->l->z)(x:((a×b×c×d×e)×g×h)×i×j×l×m):z:=f x.1.1.2.2.2.1 x.1.2.1 x.2.1 x.2.2.1 x.2.2.2.1
abbrev aSE:RetK:=⟨[.pinB 4 0 3,.pinB 4 1 5,.pinB 4 2 6],[.cell 4 38,.tmp 5,.tmp 6],(yj [.agg (yj [.arr 3,.arr 5,.arr 6,.dat yi]),.dat .str,.dat .bool]),[(3,.arr 3 yi),(5,.rows 22 3 yi),(6,.arr 3 yi)],[],[64,65,66]⟩
def aJR:FP prog:=aG cx func67 [aLR,aWw,aVK,aVm,aOd] (yj [.agg (yj [.arr 64,.arr 65,.arr 66,.dat yi]),.dat .str]) [mS,(65,.rows 22 3 yi),(66,.arr 3 yi)] [.comp 0 0,.comp 0 1,.comp 0 2] (aDq KA) aSE aDs (Fq [(3,[(1,[19])])]) [(0,aVx)]
def MC(e b:List UInt8)(a:Int)(f h:List UInt8):Tr ((List UInt8)×(List UInt8)×iC):=.c _ (DF e b a) λm=>.t (!m) (.l (e,b,a,1)) (.c _ (Um f h) λj=>.t (!j) (.l (e,b,a,1)) (.t (a==60) (.l (e,b,a,2)) (.c _ (Xs a f h) λi=>.g (length b+length i.1<=9223372036854775807)<|.l (e,(b++i.1),(wrap .i64 (a+1)),0))))
def Kf e c f a b:=(MC e c f a b).ev
def aVA:FP prog:=aG cx func68 [aDt,SA,aCE] (yj [.agg Sn,.agg Nj]) [] [] (aAi MC) aCz aEC
def Cr(p:Y1)(o:List Y1)(q:Y1)(n:Int)(g f:List UInt8)(e:Int)(h:List UInt8):Tr (Int×(List UInt8)×(List UInt8)×Int×(List UInt8)×N2):=.c _ (Kb p o q n) λb=>.c _ (Tt p o q n g f e) λr=>.t (!r) (.l (b.1,g,f,e,([110,111]:List UInt8),b.2.1,b.2.2.1,b.2.2.2)) (.c _ (Um h []) λs=>.t (!s) (.l (b.1,g,f,e,([98,97,100]:List UInt8),b.2.1,b.2.2.1,b.2.2.2)) (.t (e==60) (.l (b.1,g,f,e,([102,117,108,108]:List UInt8),b.2.1,b.2.2.1,b.2.2.2)) (.c _ (Wu b.1 h b.2.1 b.2.2.1 b.2.2.2) λa=>.t (!a.2.2.1) (.c _ (Kf g f e h ([63]:List UInt8)) λm=>.l (a.1,m.1,m.2.1,m.2.2.1,([63]:List UInt8),a.2.2.2.1,a.2.2.2.2.1,a.2.2.2.2.2)) (.t ((200:Int)<(length a.2.1:Int)) (.c _ (Kf g f e h ([108,111,110,103]:List UInt8)) λi=>.l (a.1,i.1,i.2.1,i.2.2.1,([108,111,110,103]:List UInt8),a.2.2.2.1,a.2.2.2.2.1,a.2.2.2.2.2)) (.c _ (Kf g f e h a.2.1) λj=>.l (a.1,j.1,j.2.1,j.2.2.1,a.2.1,a.2.2.2.1,a.2.2.2.2.1,a.2.2.2.2.2))))))
def u7 g f i c e b h a:=(Cr g f i c e b h a).ev
def aIC:FP prog:=aG cx func25 [aBG,aRb,SA,aJR,aVA] (yj [.agg Wj,.dat .str]) [] [] (Qw Cr) aGl aEz
def wzf(k:Y1×Y1)(v:Int):Tr (Int⊕(Unit⊕Unit)):=.t (v<(length k.1:Int)) (.g (aB v (length k.1))<|.g (aB v (length k.2))<|.t ((getD k.1 (toNat v) 0) != (getD k.2 (toNat v) 0)) (.l (.inr (.inr ()))) (.l (.inl (wrap .i64 (v+1))))) (.l (.inr (.inl ())))
def aCc k v:=aC (λv=>(wzf k v).ev) v
def aSQ:LD:=yl (wzf) GL [(0,bC)] nB X1 wM q9 (λ_ r=>.s _ _ r (λ_=>yx 0 bC ((),())) (λ_=>yz nB ((false,()),())))
def MJ(b a:Y1):Tr Bool:=.t ((length b:Int) != (length a:Int)) (.l false) (.c _ (aCc (b,a) 0) λe=>.s _ _ e (λ_=>.l true) (λ_=>.l false))
def Od b a:=(MJ b a).ev
def TV:FP prog:=aG cx func109 [] (yj [.dat y1,.dat y1]) [] [] (kJ MJ) rR bH bU [(0,aSQ)]
def wzg(k:Y2×Y2)(v:Int):Tr (Int⊕(Unit⊕Unit)):=.t (v<(length k.1:Int)) (.g (aB v (length k.1))<|.g (aB v (length k.2))<|.c _ (Od (getD k.1 (toNat v) []) (getD k.2 (toNat v) [])) λa=>.t (!a) (.l (.inr (.inr ()))) (.l (.inl (wrap .i64 (v+1))))) (.l (.inr (.inl ())))
def aDF k v:=aC (λv=>(wzg k v).ev) v
abbrev aMZ:Keep:=yh [0,1,5] (yj [.dat y2,.dat y2,.dat yi])
def aPs:LD:=yl (wzg) aMZ [(0,bC)] nB X1 wM q9 (λ_ r=>.s _ _ r (λ_=>yx 0 bC ((),())) (λ_=>yz nB ((false,()),())))
def YI(b a:List Y1):Tr Bool:=.t ((length b:Int) != (length a:Int)) (.l false) (.c _ (aDF (b,a) 0) λe=>.s _ _ e (λ_=>.l true) (λ_=>.l false))
def NI b a:=(YI b a).ev
def aNk:FP prog:=aG cx func182 [TV] (yj [.dat y2,.dat y2]) [] [] (kJ YI) rR bH bU [(0,aPs)]
def NE(f:Y1)(e:List Y1)(h:Y1)(a:List Y1):Tr Bool:=.c _ (Od f h) λg=>.t (!g) (.l false) (.c _ (NI e a) λb=>.t (!b) (.l false) (.l true))
def VR b a e c:=(NE b a e c).ev
abbrev aVD{a b c d e g h i:Type}{z:Type _}(f:a->b->d->e->z)(x:((a×b×c)×(d×e×g)×h)×i):z:=f x.1.1.1 x.1.1.2.1 x.1.2.1.1 x.1.2.1.2.1
def aJA:FP prog:=aG cx func108 [TV,aNk] (yj [.agg bR,.agg bR]) [] [] (aVD NE) rR bH
def OB(i:Y1)(h:List Y1)(n:Y1)(b:Int)(g:Y1)(a:List Y1)(j:Y1)(e:Int):Tr Bool:=.c _ (VR i h g a) λm=>.t (!m) (.l false) (.c _ (Od n j) λf=>.t (!f) (.l false) (.t (b !=e) (.l false) (.l true)))
def XH g f i c e b h a:=(OB g f i c e b h a).ev
abbrev aLT{a b c d e g h i j l m n:Type}{z:Type _}(f:a->b->c->d->g->h->i->j->z)(x:((a×b×c×d×e)×(g×h×i×j×l)×m)×n):z:=f x.1.1.1 x.1.1.2.1 x.1.1.2.2.1 x.1.1.2.2.2.1 x.1.2.1.1 x.1.2.1.2.1 x.1.2.1.2.2.1 x.1.2.1.2.2.2.1
def aSZ:FP prog:=aG cx func52 [aJA,TV] (yj [.agg qC,.agg qC]) [] [] (aLT OB) rR bH
def VX(f e:List UInt8)(g:Int)(b c:List UInt8)(a:Int):Tr Bool:=.t (!(f==b)) (.l false) (.t (!(e==c)) (.l false) (.t (g !=a) (.l false) (.l true)))
def aCH f e g b c a:=(VX f e g b c a).ev
abbrev aTc{a b c d e g h i j l:Type}{z:Type _}(f:a->b->c->e->g->h->z)(x:((a×b×c×d)×(e×g×h×i)×j)×l):z:=f x.1.1.1 x.1.1.2.1 x.1.1.2.2.1 x.1.2.1.1 x.1.2.1.2.1 x.1.2.1.2.2.1
def aVf:FP prog:=aG cx func56 [] (yj [.agg Sn,.agg Sn]) [] [] (aTc VX) rR bH
def YC(q:Y1)(j:List Y1)(u:Y1)(e:Int)(i g:List UInt8)(r:Int)(m:Y1)(o:List Y1)(a:Y1)(f:Int)(n b:List UInt8)(p:Int):Tr Bool:=.c _ (XH q j u e m o a f) λs=>.t (!s) (.l false) (.c _ (aCH i g r n b p) λh=>.t (!h) (.l false) (.l true))
def Jn n i p e g c o h l a f j b m:=(YC n i p e g c o h l a f j b m).ev
abbrev aWg{a b c d e g h i j l m n o p q s t u:Type}{z:Type _}(f:a->b->c->d->e->g->h->j->l->m->n->o->p->q->z)(x:((a×b×c×d×e×g×h×i)×(j×l×m×n×o×p×q×s)×t)×u):z:=f x.1.1.1 x.1.1.2.1 x.1.1.2.2.1 x.1.1.2.2.2.1 x.1.1.2.2.2.2.1 x.1.1.2.2.2.2.2.1 x.1.1.2.2.2.2.2.2.1 x.1.2.1.1 x.1.2.1.2.1 x.1.2.1.2.2.1 x.1.2.1.2.2.2.1 x.1.2.1.2.2.2.2.1 x.1.2.1.2.2.2.2.2.1 x.1.2.1.2.2.2.2.2.2.1
def aOQ:FP prog:=aG cx func14 [aSZ,aVf] (yj [.agg Wj,.agg Wj]) [] [] (aWg YC) rR bH
def wzr(_k:Unit)(v:Int×gI):Tr ((Int×gI)⊕gI):=.t (v.2.1<(length v.2.2:Int)) (.g (aB v.2.1 (length v.2.2))<|.g ((toNat v.2.1)<length v.2.2)<|.l (.inl ((wrap .i64 (v.1+1)),(wrap .i64 (v.2.1+1)),(set v.2.2 (toNat v.2.1) v.1)))) (.l (.inr (v.1,v.2.2)))
def aAJ k v:=aC (λv=>(wzr k v).ev) v
abbrev aTj:Keep:=yk [] [0,1,5] (yj [.arr 64,.dat yi,.dat yi]) [mS]
abbrev aGT:Keep:=yk [] [0,1] (yj [.arr 64,.dat yi]) [mS]
abbrev aFl{a b c d:Type}(_k:a)(v:b×c×d):=(((),v.1,v.2.1,()),v.2.2,())
def aKT:LD:=yl (wzr) aTj [(0,aGT)] bC aFl CG WE (λ_ r=>yx 0 aGT (((),r.1,()),r.2,()))
def YK(b:Int)(e:Y1):Tr gI:=.c _ (aAJ () (b,0,e)) λa=>.l (a.1,a.2)
def Uo a b:=(YK a b).ev
abbrev aOO:RetK:=⟨[],[.tmp 4],eN,[mS],[(0,0,64)],[]⟩
abbrev aHd{a b:Type}(r:a×b):=((r.1,()),r.2,())
def JZ:FP prog:=aG cx func113 [] (yj [.arr 64,.dat yi]) [mS] [.arg 0] (Ij YK) aOO aHd bU [(0,aKT)]
def Tn(_k:Unit)(v:Int×Int×Y2):Tr ((Int×Int×Y2)⊕(Int×Y2)):=.t (v.2.1<(length v.2.2:Int)) (.g (aB v.2.1 (length v.2.2))<|.g ((toNat v.2.1)<length v.2.2)<|.c _ (Uo v.1 (getD v.2.2 (toNat v.2.1) [])) λa=>.l (.inl (a.1,(wrap .i64 (v.2.1+1)),(set v.2.2 (toNat v.2.1) a.2)))) (.l (.inr (v.1,v.2.2)))
def aCJ k v:=aC (λv=>(Tn k v).ev) v
abbrev aSu:Keep:=yk [.fz 500015] [0,1,5] (yj [.arr 64,.dat yi,.dat yi]) [(64,.rows 22 3 yi)]
abbrev aHT:Keep:=yk [] [0,1] (yj [.arr 64,.dat yi]) [(64,.rows 22 3 yi)]
def aUL:LD:=yl (Tn) aSu [(0,aHT)] bC aFl CG WE (λ_ r=>yx 0 aHT (((),r.1,()),r.2,()))
def OV(b:Int)(e:List Y1):Tr (Int×Y2):=.c _ (aCJ () (b,0,e)) λa=>.l (a.1,a.2)
def NB a b:=(OV a b).ev
abbrev aSf:RetK:=⟨[],[.tmp 4],eN,[(64,.rows 22 3 yi)],[(0,0,64)],[]⟩
def aNJ:FP prog:=aG cx func188 [JZ] (yj [.arr 64,.dat yi]) [(64,.rows 22 3 yi)] [.arg 0] (Ij OV) aSf aHd (Fq [(4,[(5,[2000015])])]) [(0,aUL)]
def OU(g:Int)(f:Y1)(e:List Y1):Tr o7:=.c _ (Uo g f) λb=>.c _ (NB b.1 e) λa=>.l (a.1,b.2,a.2)
def YB c b a:=(OU c b a).ev
abbrev aQm{a b c d e g:Type}{z:Type _}(f:b->d->e->z)(x:(a×b×c)×d×e×g):z:=f x.1.2.1 x.2.1 x.2.2.1
abbrev aUV:RetK:=⟨[],[.tmp 4],eN,[mS,(65,.rows 22 3 yi)],[(0,1,64),(0,2,65)],[]⟩
abbrev aTV{a b c:Type}(r:a×b×c):=((r.1,()),r.2.1,r.2.2,())
def aKl:FP prog:=aG cx func112 [JZ,aNJ] (yj [.agg (yj [.arr 64,.arr 65]),.dat yi]) [mS,(65,.rows 22 3 yi)] [.comp 0 0,.comp 0 1] (aQm OU) aUV aTV
def QM(_i e:Int)(g:Y1)(f:List Y1)(h:Y1):Tr (Int×N2):=.c _ (YB e g f) λa=>.c _ (Uo a.1 h) λb=>.l (b.1,a.2.1,a.2.2,b.2)
def US a b e c f:=(QM a b e c f).ev
abbrev aCi:RetK:=⟨[],[.tmp 4],eN,[mS,(65,.rows 22 3 yi),(66,.arr 3 yi)],[(0,1,64),(0,2,65),(0,3,66)],[]⟩
abbrev aCY{a b c d:Type}(r:a×b×c×d):=((r.1,()),r.2.1,r.2.2.1,r.2.2.2,())
def aQy:FP prog:=aG cx func57 [aKl,JZ] (yj [.agg (yj [.arr 64,.arr 65,.arr 66,.dat yi]),.dat yi]) [mS,(65,.rows 22 3 yi),(66,.arr 3 yi)] [.comp 0 0,.comp 0 1,.comp 0 2] (aDq QM) aCi aCY
def NY(b:Int)(_i _m:List UInt8)(_j e:Int)(g:Y1)(f:List Y1)(h:Y1):Tr (Int×N2):=.c _ (US b e g f h) λa=>.l (a.1,a.2.1,a.2.2.1,a.2.2.2)
def GV c e b g a h f i:=(NY c e b g a h f i).ev
abbrev aMf{a b c d e g h i j l m n o p:Type}{z:Type _}(f:d->e->g->h->j->m->n->o->z)(x:((a×b×c×d×e×g×h×i)×j×l)×m×n×o×p):z:=f x.1.1.2.2.2.1 x.1.1.2.2.2.2.1 x.1.1.2.2.2.2.2.1 x.1.1.2.2.2.2.2.2.1 x.1.2.1 x.2.1 x.2.2.1 x.2.2.2.1
def aSr:FP prog:=aG cx func15 [aQy] (yj [.agg (yj [.arr 64,.arr 65,.arr 66,.dat yi,.dat .str,.dat .str,.dat yi]),.dat yi]) [mS,(65,.rows 22 3 yi),(66,.arr 3 yi)] [.comp 0 0,.comp 0 1,.comp 0 2] (aMf NY) aCi aCY
def Qo(k:Y1)(v:Int×Int):Tr (iC⊕(Int⊕Unit)):=.t (v.2<(length k:Int)) (.g (aB v.2 (length k))<|.t ((getD k (toNat v.2) 0) !=v.1) (.l (.inr (.inr ()))) (.l (.inl ((wrap .i64 (v.1+1)),(wrap .i64 (v.2+1)))))) (.l (.inr (.inl v.1)))
def aFE k v:=aC (λv=>(Qo k v).ev) v
def aWv:LD:=yl (Qo) Om [(0,yq4)] Aj Wn R2 C6 (λ_ r=>.s _ _ r (λa=>yx 0 yq4 ((a,()),())) (λ_=>yz Aj (((-1),()),())))
def VL(e:Y1)(b:Int):Tr Int:=.c _ (aFE e (b,0)) λa=>.s _ _ a (λf=>.l f) (λ_=>.l (-1))
def Ro b a:=(VL b a).ev
def GH:FP prog:=aG cx func184 [] (yj [.dat y1,.dat yi]) [] [] (kJ VL) pG bH bU [(0,aWv)]
def Og(k:List Y1)(v:Int×Int):Tr (iC⊕(Int⊕Unit)):=.t (v.2<(length k:Int)) (.g (aB v.2 (length k))<|.c _ (Ro (getD k (toNat v.2) []) v.1) λa=>.t (a<0) (.l (.inr (.inr ()))) (.l (.inl (a,(wrap .i64 (v.2+1)))))) (.l (.inr (.inl v.1)))
def aBB k v:=aC (λv=>(Og k v).ev) v
def aSC:LD:=yl (Og) yq3 [(0,yq4)] Aj Wn R2 C6 (λ_ r=>.s _ _ r (λa=>yx 0 yq4 ((a,()),())) (λ_=>yz Aj (((-1),()),())))
def NL(e:List Y1)(b:Int):Tr Int:=.c _ (aBB e (b,0)) λa=>.s _ _ a (λf=>.l f) (λ_=>.l (-1))
def WX b a:=(NL b a).ev
def aSJ:FP prog:=aG cx func259 [GH] (yj [.dat y2,.dat yi]) [] [] (kJ NL) pG bH bU [(0,aSC)]
def RP(f:Y1)(e:List Y1)(g:Int):Tr Int:=.c _ (Ro f g) λb=>.t (b<0) (.l (-1)) (.c _ (WX e b) λa=>.t (a<0) (.l (-1)) (.l a))
def QL b a c:=(RP b a c).ev
def aJE:FP prog:=aG cx func183 [GH,aSJ] (yj [.agg bR,.dat yi]) [] [] (jB RP) pG bH
def KN(g:Y1)(f:List Y1)(h:Y1)(_i e:Int):Tr Int:=.c _ (QL g f e) λb=>.t (b<0) (.l (-1)) (.c _ (Ro h b) λa=>.t (a<0) (.l (-1)) (.l a))
def UQ e c f a b:=(KN e c f a b).ev
def aJz:FP prog:=aG cx func110 [aJE,GH] (yj [.agg qC,.dat yi]) [] [] (Fd KN) pG bH
def IL(g:Y1)(f:List Y1)(h:Y1)(b:Int)(_i _m:List UInt8)(_j e:Int):Tr Int:=.c _ (UQ g f h b e) λa=>.t (a<0) (.l (-1)) (.l a)
def TP g f i c e b h a:=(IL g f i c e b h a).ev
def aKW:FP prog:=aG cx func53 [aJz] (yj [.agg Wj,.dat yi]) [] [] (Qw IL) pG bH
def ID(m:Y1)(q:List Y1)(r:Y1)(n:Int)(p o:List UInt8)(s:Int)(u:List UInt8):Tr Bool:=.t ((1048576:Int)<(length u:Int)) (.l true) (.c _ (aFp m q r n p o s 1048576) λae=>.t (ae<0) (.l true) (.c _ (Ta m q r n p o s) λh=>.c _ (I9 h.2.2.2.2.1 h.2.2.2.2.2.1 h.2.2.2.2.2.2 h.1 h.2.1 h.2.2.1 h.2.2.2.1 u) λb=>.c _ (Ta m q r n p o s) λe=>.c _ (u7 e.2.2.2.2.1 e.2.2.2.2.2.1 e.2.2.2.2.2.2 e.1 e.2.1 e.2.2.1 e.2.2.2.1 u) λa=>.c _ (Jn a.2.2.2.2.2.1 a.2.2.2.2.2.2.1 a.2.2.2.2.2.2.2 a.1 a.2.1 a.2.2.1 a.2.2.2.1 b.2.2.2.2.2.1 b.2.2.2.2.2.2.1 b.2.2.2.2.2.2.2 b.1 b.2.1 b.2.2.1 b.2.2.2.1) λaa=>.t (!aa) (.l false) (.t (!(a.2.2.2.2.1==b.2.2.2.2.1)) (.l false) (.c _ (Ta m q r n p o s) λi=>.c _ (Jn e.2.2.2.2.1 e.2.2.2.2.2.1 e.2.2.2.2.2.2 e.1 e.2.1 e.2.2.1 e.2.2.2.1 i.2.2.2.2.1 i.2.2.2.2.2.1 i.2.2.2.2.2.2 i.1 i.2.1 i.2.2.1 i.2.2.2.1) λac=>.t (!ac) (.l false) (.c _ (GV e.1 e.2.1 e.2.2.1 e.2.2.2.1 1 e.2.2.2.2.1 e.2.2.2.2.2.1 e.2.2.2.2.2.2) λad=>.t (ad.1<0) (.l false) (.c _ (Jn a.2.2.2.2.2.1 a.2.2.2.2.2.2.1 a.2.2.2.2.2.2.2 a.1 a.2.1 a.2.2.1 a.2.2.2.1 b.2.2.2.2.2.1 b.2.2.2.2.2.2.1 b.2.2.2.2.2.2.2 b.1 b.2.1 b.2.2.1 b.2.2.2.1) λz=>.t (!z) (.l false) (.t (!(a.2.2.2.2.1==b.2.2.2.2.1)) (.l false) (.c _ (GV a.1 a.2.1 a.2.2.1 a.2.2.2.1 1 a.2.2.2.2.2.1 a.2.2.2.2.2.2.1 a.2.2.2.2.2.2.2) λf=>.c _ (TP f.2.1 f.2.2.1 f.2.2.2 a.1 a.2.1 a.2.2.1 a.2.2.2.1 1) λw=>.t (w<0) (.l false) (.t (w !=f.1) (.l false) (.c _ (Ta m q r n p o s) λj=>.c _ (u7 j.2.2.2.2.1 j.2.2.2.2.2.1 j.2.2.2.2.2.2 j.1 j.2.1 j.2.2.1 j.2.2.2.1 u) λg=>.c _ (Jn g.2.2.2.2.2.1 g.2.2.2.2.2.2.1 g.2.2.2.2.2.2.2 g.1 g.2.1 g.2.2.1 g.2.2.2.1 b.2.2.2.2.2.1 b.2.2.2.2.2.2.1 b.2.2.2.2.2.2.2 b.1 b.2.1 b.2.2.1 b.2.2.2.1) λab=>.t (!ab) (.l false) (.t (!(g.2.2.2.2.1==b.2.2.2.2.1)) (.l false) (.c _ (TP f.2.1 f.2.2.1 f.2.2.2 a.1 a.2.1 a.2.2.1 a.2.2.2.1 1) λy=>.t (y<0) (.l false) (.t (y !=f.1) (.l false) (.l true))))))))))))))
def aBX g f i c e b h a:=(ID g f i c e b h a).ev
def wdcd:FP prog:=aG cx func8 [aIZ,aSO,aLa,aIC,aOQ,aSr,aKW] (yj [.agg Wj,.dat .str]) [] [] (Qw ID) rR bH
end
end Go.Proofs.YteiekijgoifhoaaGreatDoor
