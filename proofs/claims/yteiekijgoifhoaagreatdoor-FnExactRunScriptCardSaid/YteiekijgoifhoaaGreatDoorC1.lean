/- A part of the proof that FnExactRunScript hands back true, at every argument of the row. -/
import Derived.Test.YteiekijgoifhoaaGreatDoorC4
namespace Go.Proofs.YteiekijgoifhoaaGreatDoor
noncomputable section
open Go.Proofs.Tryz
open List (length getD set)
open Int (toNat)
open IntKind (wrap)
def waqg(f:Yk)(a:(List Nat)×Y2):Tr Yj:=.c _ (wwf (wrap .u64 (length a.1:Int))) λb=>.c _ (wiq 1000000 0 (length a.1:Int) b f a) λe=>.l e
def wbpq b a:=(waqg b a).ev
abbrev yq489{a b c d e:Type}{z:Type _}(f:b->d->z)(x:(a×b×c)×d×e):z:=f x.1.2.1 x.2.1
def waqh:FP prog:=fnP cx func236 [waig,wbpi] (yj [.arr 64,.clo [y1,y1] yi]) [Zad] [.arg 0] (yq489 waqg) yq457 yq459
def T_zd(a:Int):Tr Bool:=.l (a !=a)
def F_zd a:=(T_zd a).ev
def G_zd:FP prog:=fnP cx func172 [] Zi [] [] (yq19 T_zd) yq50 yq2
def T_za(b a:Int):Tr Int:=.c _ (F_zd b) λf=>.c _ (F_zd a) λe=>.t f (.t e (.l 0) (.l (-1))) (.t e (.l 1) (.t (b<a) (.l (-1)) (.t (a<b) (.l 1) (.l 0))))
def F_za a b:=(T_za a b).ev
def G_za:FP prog:=fnP cx func97 [G_zd] (yj [.dat yi,.dat yi]) [] [] (yq1 T_za) yq0 yq2
def wcs(k:Y1×Y1×Y1×Int)(v:Int):Tr (Int⊕(Unit⊕Int)):=.t (v<k.2.2.2) (.g (inR v (length k.2.2.1))<|.t ((length k.2.1:Int)<=v) (.l (.inr (.inr 1))) (.g (inR v (length k.2.1))<|.c _ (F_za (getD k.2.2.1 (toNat v) 0) (getD k.2.1 (toNat v) 0)) λa=>.t (a != (0:Int)) (.l (.inr (.inr a))) (.l (.inl (wrap .i64 (v+1)))))) (.l (.inr (.inl ())))
def wox k v:=iter (λv=>(wcs k v).ev) v
abbrev yq491:Keep:=yh [0,1] (yj [.dat y1,.dat y1])
def wwo:LD:=yl (wcs) (yh [0,1,9,10,11] (yj [.dat y1,.dat y1,.dat y1,.dat yi,.dat yi])) [(0,yq491)] yq5 yq359 yq360 yq149 (λk r=>.s _ _ r (λ_=>yx 0 yq491 ((k.1,k.2.1,()),())) (λb=>yz yq5 ((b,()),())))
def waiy(a b:Y1):Tr Int:=.c _ (wox (a,b,a,(length a:Int)) 0) λe=>.s _ _ e (λ_=>.t ((length a:Int)<(length b:Int)) (.l (-1)) (.l 0)) (λf=>.l f)
def wwp a b:=(waiy a b).ev
def waqi:FP prog:=fnP cx func311 [G_za] (yj [.dat y1,.dat y1]) [] [] (yq1 waiy) yq0 yq2 noZ [(0,wwo)]
def wzg(k:Int×Y1×Int)(v:Int):Tr (Int⊕(Unit⊕Int)):=.t (v<k.2.2) (.g (inR v (length k.2.1))<|.t ((getD k.2.1 (toNat v) 0) !=k.1) (.l (.inr (.inr (getD k.2.1 (toNat v) 0)))) (.l (.inl (wrap .i64 (v+1))))) (.l (.inr (.inl ())))
def waqj k v:=iter (λv=>(wzg k v).ev) v
abbrev yq492:Keep:=yh [2] Zi
def waiz:LD:=yl (wzg) yq423 [(0,yq64)] yq492 yq41 yq42 yq43 (λk r=>.s _ _ r (λ_=>yx 0 yq64 ((k.1,()),())) (λb=>yz yq492 ((b,()),())))
def T_zc(a:Y1):Tr Int:=.c _ (waqj (0,a,(length a:Int)) 0) λb=>.s _ _ b (λ_=>.l 0) (λe=>.l e)
def F_zc a:=(T_zc a).ev
def G_zc:FP prog:=fnP cx func310 [] Zbd [] [] (yq19 T_zc) yq65 yq2 noZ [(0,waiz)]
def waqk(b a:Y1):Tr Int:=.c _ (F_za (length b:Int) (length a:Int)) λg=>.c _ (wwp b a) λf=>.c _ (F_zc ([g,f]:Y1)) λe=>.l e
def wbqo a b:=(waqk a b).ev
def wbtc:FP prog:=fnP cx func237 [G_za,waqi,G_zc] (yj [.dat y1,.dat y1]) [] [] (yq1 waqk) yq0 yq2
def woy(k:Int)(v:Int×Y2):Tr ((Int×Y2)⊕Y2):=.g (0<=k)<|.t (v.1<(wrap .u64 ((1:Int)*2^(min (toNat k) Zc)))) (.c _ (wfe v.1) λa=>.g ((length v.2+1)*24<=140737488355328)<|.l (.inl ((wrap .u64 (v.1+1)),(set (v.2++ [[]]) (length v.2) a)))) (.l (.inr v.2))
def waja k v:=iter (λv=>(woy k v).ev) v
abbrev yq447:Keep:=yk [] [3] (yj [.arr 5]) [(5,.rows 22 3 yi)]
def wwq:LD:=yl (woy) (yk [] [0,3,4] (yj [.dat yi,.arr 5,.dat (.int .u64)]) [(5,.rows 22 3 yi)]) [(0,yq447)] yq15 yq16 yq7 yq17 (λ_ r=>yx 0 yq447 (((),()),r,()))
def waql(g:Int):Tr Yj:=.c _ (waja g (1,[])) λa=>.c _ (wbpq (λb=>Option.bind (wbqo b.1 b.2.1) λe=>some e) ((List.range (length a)),a)) λf=>.l f
def wkf a:=(waql a).ev
def wajb:FP prog:=fnP cx func158 [wjx,waqh,waqh,wbtc] Zi [] [] (yq19 waql) ⟨[.ren 5 0],[.tmp 2],Zan,[(0,.perm 22 3 yi)],[],[]⟩ yq20 (zOf [(1,[(0,[1000000])]),(6,[(1,[80000017])])]) [(0,wwq)]
def wct(k:((HL [y1]->Option Int))×Int×Yj)(v:(Nat)×Int):Tr ((Nat×Int)⊕Nat):=.t (v.2<k.2.1) (.g (inR v.2 (length k.2.2.1))<|.g (((toNat v.2)<length k.2.2.1)&&((getD k.2.2.1 (toNat v.2) 0)<length k.2.2.2))<|.c _ (k.1 ((getD k.2.2.2 (getD k.2.2.1 (toNat v.2) 0) []),())) λa=>.c _ (k.1 ((getD k.2.2.2 v.1 []),())) λb=>.t (a<b) (.l (.inl ((getD k.2.2.1 (toNat v.2) 0),(wrap .i64 (v.2+1))))) (.l (.inl (v.1,(wrap .i64 (v.2+1)))))) (.l (.inr v.1))
def woz k v:=iter (λv=>(wct k v).ev) v
abbrev yq495:Keep:=yk [] [0,5] (yj [.arr 64,.row 64]) [Zad]
def wwr:LD:=yl (wct) (yk [] [0,1,5,11,12,13] (yj [.arr 64,.clo [y1] yi,.row 64,.arr 64,.dat yi,.dat yi]) [Zad]) [(0,yq495)] yq15 (λk v=>(((),k.1,v.1,(),k.2.1,v.2,()),k.2.2,())) (λt=>(t.1.2.1,t.1.2.2.2.2.1,t.2.1)) yq413 (λk r=>yx 0 yq495 (((),r,()),k.2.2,()))
def wajc(e:(HL [y1]->Option Int))(a:(List Nat)×Y2):Tr Y1:=.g (inR 0 (length a.1))<|.g (((toNat 0)<length a.1)&&((getD a.1 (toNat 0) 0)<length a.2))<|.c _ (woz (e,(length a.1:Int),a) ((getD a.1 (toNat 0) 0),0)) λb=>.l (getD a.2 b [])
def wpa b a:=(wajc b a).ev
def wkg:FP prog:=fnP cx func90 [] (yj [.arr 64,.clo [y1] yi]) [Zad] [.arg 0] (yq489 wajc) ⟨[.pull 4 800000,.ren 800000 0],[.tmp 4],Zan,[Zaa],[],[64]⟩ yq20 noZ [(0,wwr)]
def T_zq(a:Y1)(b:List Y1):Tr Yay:=.c _ (wbm a b) λg=>.t (!g) (.l (false,[])) (.c _ (wkf (length a:Int)) λf=>.c _ (wpa (λh=>Option.bind (wfj a b h.1) λe=>some e) f) λi=>.l (true,i))
def F_zq a b:=(T_zq a b).ev
def G_zq:FP prog:=fnP cx func271 [wgs,wajb,wkg,wkg,woj] (yj [.agg Zb]) [] [] (yq25 T_zq) ⟨[.own 2 0 3 yi,.ren 832 0],[.tmp 2,.tmp 3],Zah,[Zaa],[],[]⟩ yq74
def S_zs(k:Bool×Y1×Int×Int×Int×Y1×Yba)(v:Int×Y2):Tr ((Int×Y2)⊕Y2):=.t (v.1<k.2.2.1) (.g (inR v.1 (length k.2.1))<|.g (inR v.1 (length v.2))<|.g ((toNat v.1)<length v.2)<|.g ((length (getD v.2 (toNat v.1) [])+length ([(getD k.2.1 (toNat v.1) 0)]:Y1))*8<=140737488355328)<|.g (inR v.1 (length v.2))<|.g (((toNat v.1)<length v.2)&&((toNat v.1)=(toNat v.1)))<|.l (.inl ((wrap .i64 (v.1+1)),(set v.2 (toNat v.1) ((getD v.2 (toNat v.1) [])++([(getD k.2.1 (toNat v.1) 0)]:Y1)))))) (.l (.inr v.2))
def L_zs k v:=iter (λv=>(S_zs k v).ev) v
abbrev yq396:Keep:=yk [] [4,6,9] (yj [.box 4 0,.box 6 0,.dat .bool]) [Zbk,(6,.cells (yj [.arr 1859,.arr 1860,.arr 1861,.dat yi])),(901340,.arr 3 yi),(901342,.arr 3 yi),(1859,.arr 3 yi),(1860,.rows 22 3 yi),(1861,.arr 3 yi)]
def wbtj:LD:=yl S_zs (yk [.ownB 4 0 901340 3 yi,.ownB 4 2 901342 3 yi] [4,6,9,165,166,167] (yj [.box 4 0,.box 6 0,.dat .bool,.dat y1,.dat yi,.dat yi]) [Zbk,(6,.cells (yj [.arr 1859,.arr 1860,.arr 1861,.dat yi])),(901340,.arr 3 yi),(901342,.arr 3 yi),(1859,.arr 3 yi),(1860,.rows 22 3 yi),(1861,.arr 3 yi)]) [(1,yq396)] yq15 (λk v=>(((),(),k.1,k.2.1,k.2.2.1,v.1,()),((),(),(),k.2.2.2.1,()),((),(),(),k.2.2.2.2.1,()),k.2.2.2.2.2.1,k.2.2.2.2.2.2.1,k.2.2.2.2.2.2.2.1,v.2,k.2.2.2.2.2.2.2.2,())) (λt=>(t.1.2.2.1,t.1.2.2.2.1,t.1.2.2.2.2.1,t.2.1.2.2.2.1,t.2.2.1.2.2.2.1,t.2.2.2.1,t.2.2.2.2.1,t.2.2.2.2.2.1,t.2.2.2.2.2.2.2.1)) (λt=>(t.1.2.2.2.2.2.1,t.2.2.2.2.2.2.1)) (λk r=>yx 1 yq396 (((),(),k.1,()),((),(),(),k.2.2.2.1,()),((),(),(),k.2.2.2.2.1,()),k.2.2.2.2.2.1,k.2.2.2.2.2.2.1,k.2.2.2.2.2.2.2.1,r,k.2.2.2.2.2.2.2.2,()))
def whq(k:Int×Bool×Int×Int×Int×Y1×Y1)(v:Int×Y2):Tr ((Int×Y2)⊕Y2):=.t (v.1<k.2.2.1) (.g (inR v.1 (length v.2))<|.g ((toNat v.1)<length v.2)<|.c _ (wvt k.1 (wrap .i64 (k.1+1)) (getD v.2 (toNat v.1) [])) λa=>.g (inR v.1 (length v.2))<|.g (((toNat v.1)<length v.2)&&((toNat v.1)=(toNat v.1)))<|.l (.inl ((wrap .i64 (v.1+1)),(set v.2 (toNat v.1) a)))) (.l (.inr v.2))
def wzh k v:=iter (λv=>(whq k v).ev) v
abbrev yq401:Keep:=yk [] [4,6,7,9] (yj [.box 4 0,.box 6 0,.dat yi,.dat .bool]) [Zw,Zbl,(13888,.arr 3 yi),(1860,.rows 22 3 yi),(1861,.arr 3 yi)]
abbrev yq402{a b c d e g h i j:Type}(k:a×b×c×d×e×g×h)(v:i×j):=(((),(),k.1,k.2.1,(),k.2.2.1,v.1,()),((),(),(),k.2.2.2.1,()),((),(),(),k.2.2.2.2.1,()),v.2,k.2.2.2.2.2.1,k.2.2.2.2.2.2,())
abbrev yq403{a b c d e g h i j l m n o p q s t u w a19 a20:Type}(t:(a×b×c×d×e×g×h)×(i×j×l×m×n)×(o×p×q×s×t)×u×w×a19×a20):=(t.1.2.2.1,t.1.2.2.2.1,t.1.2.2.2.2.2.1,t.2.1.2.2.2.1,t.2.2.1.2.2.2.1,t.2.2.2.2.1,t.2.2.2.2.2.1)
abbrev yq382{a b c d e g h i j l m n:Type}(t:(a×b×c×d×e×g×h×i)×j×l×m×n):=(t.1.2.2.2.2.2.2.1,t.2.2.2.1)
def wajd:LD:=yl (whq) (yk [] [4,6,7,9,222,223,224] (yj [.box 4 0,.box 6 0,.dat yi,.dat .bool,.arr 1860,.dat yi,.dat yi]) [Zw,Zbl,(1860,.rows 22 3 yi),(13888,.arr 3 yi),(1861,.arr 3 yi)]) [(3,yq401)] yq15 yq402 yq403 yq382 (λk r=>yx 3 yq401 (((),(),k.1,k.2.1,()),((),(),(),k.2.2.2.1,()),((),(),(),k.2.2.2.2.1,()),k.2.2.2.2.2.1,r,k.2.2.2.2.2.2,()))
def wgt(k:Int×Bool×Int×Int×Yz)(v:Int×Y1):Tr (Yp⊕Y1):=.t (v.1<k.2.2.1) (.g (inR v.1 (length v.2))<|.g ((toNat v.1)<length v.2)<|.t (k.1<(getD v.2 (toNat v.1) 0)) (.g (inR v.1 (length v.2))<|.g ((toNat v.1)<length v.2)<|.g (inR v.1 (length v.2))<|.g ((toNat v.1)<length v.2)<|.l (.inl ((wrap .i64 (v.1+1)),(set v.2 (toNat v.1) (wrap .i64 ((getD v.2 (toNat v.1) 0) -1)))))) (.l (.inl ((wrap .i64 (v.1+1)),v.2)))) (.l (.inr v.2))
def wzi k v:=iter (λv=>(wgt k v).ev) v
abbrev yq405:Keep:=yk [] [4,6,9] (yj [.box 4 0,.box 6 0,.dat .bool]) [Zw,Zbl,(13888,.arr 3 yi),(1860,.rows 22 3 yi),(1861,.arr 3 yi)]
def waje:LD:=yl (wgt) (yk [] [4,6,7,9,241,242,243] (yj [.box 4 0,.box 6 0,.dat yi,.dat .bool,.arr 1861,.dat yi,.dat yi]) [Zw,Zbl,(1861,.arr 3 yi),(13888,.arr 3 yi),(1860,.rows 22 3 yi)]) [(5,yq405)] yq15 yq402 yq403 yq382 (λk r=>yx 5 yq405 (((),(),k.2.1,()),((),(),(),k.2.2.2.1,()),((),(),(),k.2.2.2.2.1,()),k.2.2.2.2.2.1,k.2.2.2.2.2.2,r,()))
def T_zr(j:Y1)(e:List Y1)(f:Y1)(m h b i aa:Int)(n:Y1):Tr (Int×Bool×Yar):=.c _ (waa j e f m) λaq=>.t (!aq) (.l (0,false,[],[],[])) (.c _ (F_zt h b i aa n) λao=>.t (!ao) (.l (0,false,[],[],[])) (.c _ (F_zm j e f m) λa=>.c _ (wod f) λo=>.c _ (wew b 0 (wrap .i64 ((length e:Int) -1))) λr=>.t (h==1) (.c _ (F_zs b j e f m) λbl=>.t bl (.c _ (wfd o b) λs=>.t (!s) (.g (0<=b)<|.c _ (wfe (wrap .u64 (BitVec.toNat ((BitVec.ofInt Zc o)||| (BitVec.ofInt Zc (wrap .u64 ((1:Int)*2^(min (toNat b) Zc)))))))) λak=>.t (!(!s)) (.l (0,false,[],[],[])) (.c _ (waa a.2.1 a.2.2.1 ak (wrap .i64 (a.1+1))) λbb=>.t (!bb) (.l (0,false,[],[],[])) (.l ((wrap .i64 (a.1+1)),true,a.2.1,a.2.2.1,ak)))) (.t (!(!s)) (.l (0,false,[],[],[])) (.c _ (waa a.2.1 a.2.2.1 a.2.2.2 (wrap .i64 (a.1+1))) λaz=>.t (!az) (.l (0,false,[],[],[])) (.l ((wrap .i64 (a.1+1)),true,a.2.1,a.2.2.1,a.2.2.2))))) (.l (0,false,[],[],[]))) (.t (h==2) (.c _ (F_zs b j e f m) λau=>.t au (.c _ (wfd o b) λad=>.t ad (.g (0<=b)<|.c _ (wfe (wrap .u64 (BitVec.toNat ((BitVec.ofInt Zc o)&&& ~~~(BitVec.ofInt Zc (wrap .u64 ((1:Int)*2^(min (toNat b) Zc)))))))) λaf=>.t (!ad) (.l (0,false,[],[],[])) (.c _ (waa a.2.1 a.2.2.1 af (wrap .i64 (a.1+1))) λam=>.t (!am) (.l (0,false,[],[],[])) (.l ((wrap .i64 (a.1+1)),true,a.2.1,a.2.2.1,af)))) (.t (!ad) (.l (0,false,[],[],[])) (.c _ (waa a.2.1 a.2.2.1 a.2.2.2 (wrap .i64 (a.1+1))) λav=>.t (!av) (.l (0,false,[],[],[])) (.l ((wrap .i64 (a.1+1)),true,a.2.1,a.2.2.1,a.2.2.2))))) (.l (0,false,[],[],[]))) (.t (h==3) (.c _ (F_zs b j e f m) λay=>.t ay (.c _ (F_zs i j e f m) λbg=>.t bg (.c _ (wfd o b) λbm=>.t bm (.c _ (wfd o i) λw=>.t (!w) (.c _ (wvs f b i) λag=>.t (!(!w)) (.l (0,false,[],[],[])) (.c _ (waa a.2.1 a.2.2.1 ag (wrap .i64 (a.1+1))) λba=>.t (!ba) (.l (0,false,[],[],[])) (.l ((wrap .i64 (a.1+1)),true,a.2.1,a.2.2.1,ag)))) (.t (!(!w)) (.l (0,false,[],[],[])) (.c _ (waa a.2.1 a.2.2.1 a.2.2.2 (wrap .i64 (a.1+1))) λar=>.t (!ar) (.l (0,false,[],[],[])) (.l ((wrap .i64 (a.1+1)),true,a.2.1,a.2.2.1,a.2.2.2))))) (.l (0,false,[],[],[]))) (.l (0,false,[],[],[]))) (.l (0,false,[],[],[]))) (.t (h==4) (.c _ (F_zs b j e f m) λy=>.t y (.g (inR b (length a.2.1))<|.g ((toNat b)<length a.2.1)<|.t (!y) (.l (0,false,[],[],[])) (.c _ (waa (set a.2.1 (toNat b) i) a.2.2.1 a.2.2.2 (wrap .i64 (a.1+1))) λbc=>.t (!bc) (.l (0,false,[],[],[])) (.l ((wrap .i64 (a.1+1)),true,(set a.2.1 (toNat b) i),a.2.2.1,a.2.2.2)))) (.t (!y) (.l (0,false,[],[],[])) (.c _ (waa a.2.1 a.2.2.1 a.2.2.2 (wrap .i64 (a.1+1))) λan=>.t (!an) (.l (0,false,[],[],[])) (.l ((wrap .i64 (a.1+1)),true,a.2.1,a.2.2.1,a.2.2.2))))) (.t (h==5) (.t r (.c _ (F_zs i j e f m) λz=>.t z (.g (inR b (length a.2.2.1))<|.g ((toNat b)<length a.2.2.1)<|.g (inR i (length (getD a.2.2.1 (toNat b) [])))<|.g ((toNat i)<length (getD a.2.2.1 (toNat b) []))<|.t (!z) (.l (0,false,[],[],[])) (.c _ (waa a.2.1 (set a.2.2.1 (toNat b) (set (getD a.2.2.1 (toNat b) []) (toNat i) aa)) a.2.2.2 (wrap .i64 (a.1+1))) λbn=>.t (!bn) (.l (0,false,[],[],[])) (.l ((wrap .i64 (a.1+1)),true,a.2.1,(set a.2.2.1 (toNat b) (set (getD a.2.2.1 (toNat b) []) (toNat i) aa)),a.2.2.2)))) (.t (!z) (.l (0,false,[],[],[])) (.c _ (waa a.2.1 a.2.2.1 a.2.2.2 (wrap .i64 (a.1+1))) λbj=>.t (!bj) (.l (0,false,[],[],[])) (.l ((wrap .i64 (a.1+1)),true,a.2.1,a.2.2.1,a.2.2.2))))) (.l (0,false,[],[],[]))) (.t (h==6) (.t ((length n:Int)==(length e:Int)) (.g ((length a.2.1+length ([b]:Y1))*8<=140737488355328)<|.c _ (L_zs (((length n:Int)==(length e:Int)),n,(length n:Int),0,(wrap .i64 (a.1+1)),[],[],(a.2.1++([b]:Y1)),a.2.2.2) (0,a.2.2.1)) λaj=>.t (!((length n:Int)==(length e:Int))) (.l (0,false,[],[],[])) (.c _ (waa (a.2.1++([b]:Y1)) aj a.2.2.2 (wrap .i64 (a.1+1))) λbk=>.t (!bk) (.l (0,false,[],[],[])) (.l ((wrap .i64 (a.1+1)),true,(a.2.1++([b]:Y1)),aj,a.2.2.2)))) (.t (!((length n:Int)==(length e:Int))) (.l (0,false,[],[],[])) (.c _ (waa a.2.1 a.2.2.1 a.2.2.2 (wrap .i64 (a.1+1))) λaw=>.t (!aw) (.l (0,false,[],[],[])) (.l ((wrap .i64 (a.1+1)),true,a.2.1,a.2.2.1,a.2.2.2))))) (.t (h==7) (.c _ (wfb n) λae=>.g ((length a.2.2.1+1)*24<=140737488355328)<|.c _ (waa a.2.1 (set (a.2.2.1++ [[]]) (length a.2.2.1) ae) a.2.2.2 (wrap .i64 (a.1+1))) λbd=>.t (!bd) (.l (0,false,[],[],[])) (.l ((wrap .i64 (a.1+1)),true,a.2.1,(set (a.2.2.1++ [[]]) (length a.2.2.1) ae),a.2.2.2))) (.t (h==8) (.c _ (F_zs b j e f m) λbi=>.t bi (.c _ (wfd o b) λp=>.t (!p) (.c _ (wvt b (wrap .i64 (b+1)) a.2.1) λq=>.c _ (wzh (b,(!p),(length a.2.2.1:Int),0,(wrap .i64 (a.1+1)),q,a.2.2.2) (0,a.2.2.1)) λab=>.c _ (wzi (b,(!p),(length a.2.2.2:Int),0,(wrap .i64 (a.1+1)),q,ab) (0,a.2.2.2)) λai=>.t (!(!p)) (.l (0,false,[],[],[])) (.c _ (waa q ab ai (wrap .i64 (a.1+1))) λbf=>.t (!bf) (.l (0,false,[],[],[])) (.l ((wrap .i64 (a.1+1)),true,q,ab,ai)))) (.t (!(!p)) (.l (0,false,[],[],[])) (.c _ (waa a.2.1 a.2.2.1 a.2.2.2 (wrap .i64 (a.1+1))) λbh=>.t (!bh) (.l (0,false,[],[],[])) (.l ((wrap .i64 (a.1+1)),true,a.2.1,a.2.2.1,a.2.2.2))))) (.l (0,false,[],[],[]))) (.t (h==9) (.t r (.c _ (waop b (wrap .i64 (b+1)) a.2.2.1) λah=>.t (!r) (.l (0,false,[],[],[])) (.c _ (waa a.2.1 ah a.2.2.2 (wrap .i64 (a.1+1))) λap=>.t (!ap) (.l (0,false,[],[],[])) (.l ((wrap .i64 (a.1+1)),true,a.2.1,ah,a.2.2.2)))) (.t (!r) (.l (0,false,[],[],[])) (.c _ (waa a.2.1 a.2.2.1 a.2.2.2 (wrap .i64 (a.1+1))) λbe=>.t (!be) (.l (0,false,[],[],[])) (.l ((wrap .i64 (a.1+1)),true,a.2.1,a.2.2.1,a.2.2.2))))) (.t (h==10) (.c _ (waif j e f) λac=>.t (!ac.2.1) (.l (0,false,[],[],[])) (.c _ (waa a.2.1 a.2.2.1 ac.2.2 (wrap .i64 (a.1+1))) λal=>.t (!al) (.l (0,false,[],[],[])) (.l ((wrap .i64 (a.1+1)),true,a.2.1,a.2.2.1,ac.2.2)))) (.t (h==11) (.c _ (F_zq j e) λu=>.t (!u.1) (.l (0,false,[],[],[])) (.c _ (waa a.2.1 a.2.2.1 u.2 (wrap .i64 (a.1+1))) λax=>.t (!ax) (.l (0,false,[],[],[])) (.l ((wrap .i64 (a.1+1)),true,a.2.1,a.2.2.1,u.2)))) (.l (0,false,[],[],[]))))))))))))))
def F_zr i c f a j b e g h:=(T_zr i c f a j b e g h).ev
def G_zr:FP prog:=fnP cx func194 [wagt,G_zt,G_zm,wvp,whm,G_zs,wvq,wjx,wahl,wvj,wawe,wawg,wawq,G_zq] (yj [.agg Zd,.agg Zae]) [] [] (yq84 T_zr) ⟨[.ownB 4 0 5 3 yi,.ownRB 4 1 7 22 3 yi,.ownB 4 2 8 3 yi,.ren 1859 5,.ren 13888 5,.pinB 4 1 7,.pinB 4 2 8],[.cell 4 38,.tmp 5],(yj [.agg (yj [.arr 5,.arr 7,.arr 8,.dat yi]),.dat .bool]),[(5,.arr 3 yi),(7,.rows 22 3 yi),(8,.arr 3 yi)],[],[]⟩ yq167 (zOf [(48,[(0,[2000016]),(10,[5500016])])]) [(1,wbtj),(3,wajd),(5,waje)]
def wkh(a:List (List UInt8))(b:List UInt8):Option (List UInt8):=joinF a b
def wbtl:FD:=fdJoin
theorem waqm:FDok prog (179,wbtl):=hand_join
def waqn:FP prog:=⟨_,waqm⟩
def wfq(k:Y1×Int)(v:Int×(List (List UInt8))):Tr (Yai⊕(List (List UInt8))):=.t (v.1<k.2) (.g (inR v.1 (length k.1))<|.c _ (war (getD k.1 (toNat v.1) 0)) λa=>.g ((length v.2+length ([a]:List (List UInt8)))*16<=140737488355328)<|.l (.inl ((wrap .i64 (v.1+1)),(v.2++([a]:List (List UInt8)))))) (.l (.inr v.2))
def wpb k v:=iter (λv=>(wfq k v).ev) v
abbrev yq502:Keep:=yk [] [3] (yj [.arr 6]) [(6,.arr 9 .str)]
def wws:LD:=yl (wfq) (yk [] [3,7,8,9] (yj [.arr 6,.dat y1,.dat yi,.dat yi]) [(6,.arr 9 .str)]) [(0,yq502)] yq15 yq374 yq8 yq89 (λ_ r=>yx 0 yq502 (((),()),r,()))
def wajf(a:Y1):Tr (List UInt8):=.c _ (wpb (a,(length a:Int)) (0,[])) λe=>.c _ (wkh e ([32]:List UInt8)) λb=>.l b
def wpc a:=(wajf a).ev
def waqo:FP prog:=fnP cx func272 [wnw,waqn] Zbd [] [] (yq19 wajf) yq66 yq2 noZ [(0,wws)]
def wajg(a:Y1):Tr (List UInt8):=.t ((length a:Int)==(0:Int)) (.l ([110,111,110,101]:List UInt8)) (.c _ (wpc a) λb=>.l b)
def wpd a:=(wajg a).ev
def waqp:FP prog:=fnP cx func195 [waqo] Zbd [] [] (yq19 wajg) yq66 yq2
def TR_edit:EdTr:=λm j n i b h e=>.g ((0<=e.1)&&(e.1<=(length h:Int)))<|.c _ (F_zr m j n i b e.2.1 e.2.2.1 e.2.2.2 (List.drop (toNat e.1) (List.take (length h) h))) λa=>.t (!a.2.1) (.l (m,j,n,i,[],false)) (.c _ (wpd a.2.2.2.2) λf=>.t (b==4) (.c _ (war e.2.2.1) λs=>.l (a.2.2.1,a.2.2.2.1,a.2.2.2.2,a.1,s,true)) (.t (b==5) (.c _ (war e.2.2.2) λy=>.l (a.2.2.1,a.2.2.2.1,a.2.2.2.2,a.1,y,true)) (.t (b==6) (.t (b==6) (.c _ (war (length a.2.2.1:Int)) λo=>.l (a.2.2.1,a.2.2.2.1,a.2.2.2.2,a.1,o,true)) (.t (b==7) (.t (b==7) (.c _ (war (length a.2.2.2.1:Int)) λp=>.l (a.2.2.1,a.2.2.2.1,a.2.2.2.2,a.1,p,true)) (.l (a.2.2.1,a.2.2.2.1,a.2.2.2.2,a.1,f,true))) (.t (b==9) (.c _ (war (length a.2.2.2.1:Int)) λu=>.l (a.2.2.1,a.2.2.2.1,a.2.2.2.2,a.1,u,true)) (.l (a.2.2.1,a.2.2.2.1,a.2.2.2.2,a.1,f,true))))) (.t (b==8) (.c _ (war (length a.2.2.1:Int)) λr=>.l (a.2.2.1,a.2.2.2.1,a.2.2.2.2,a.1,r,true)) (.t (b==7) (.t (b==7) (.c _ (war (length a.2.2.2.1:Int)) λq=>.l (a.2.2.1,a.2.2.2.1,a.2.2.2.2,a.1,q,true)) (.l (a.2.2.1,a.2.2.2.1,a.2.2.2.2,a.1,f,true))) (.t (b==9) (.c _ (war (length a.2.2.2.1:Int)) λw=>.l (a.2.2.1,a.2.2.2.1,a.2.2.2.2,a.1,w,true)) (.l (a.2.2.1,a.2.2.2.1,a.2.2.2.2,a.1,f,true))))))))
def F_zn(f:List Int)(c:List (List Int))(e:List Int)(a g:Int)(b:List Int):Option EdR:=editF wab TR_edit f c e a g b
theorem names_in(k:Int)(r:Int×Bool×Bool)(h:wab k=some r):r.1=0\/r.1=1\/r.1=2\/r.1=3:=by refine ev_all (p:=λr=>r.1=0\/r.1=1\/r.1=2\/r.1=3) ?_ h;unfold wvn;simp[allT]
def G_zn:FP prog:=⟨_,hand_edit cx [G_zr,waqp,wnw] (show FDok prog (193,fdNames wab)from waoj.2) names_in (T:=TR_edit) (acts:=[.fz 4293,.fz 4295,.fz 4296]) (λ_ _ _ _ _ _ _ _ _ _=>by kernel_rfl) (λ_ _ _ _ _ _ _=>by kernel_rfl) (by kernel_rfl) (by kernel_rfl) (by kernel_rfl) (by kernel_rfl) (by kernel_rfl)⟩
def wwt(a:Y1)(e:List Y1)(g:Int):Tr Bool:=.c _ (wbm a e) λf=>.t f (.c _ (wew g 1 (length a:Int)) λb=>.l b) (.l false)
def wir a b c:=(wwt a b c).ev
def waqq:FP prog:=fnP cx func88 [wgs,whm] (yj [.agg Zb,.dat yi]) [] [] (yq9 wwt) yq51 yq2
def wcu(k:(HL [y1]->Option Bool))(v:Int×Int×Yj):Tr ((Int×Int×Yj)⊕(Int×Yj)):=.t (v.2.1<(length v.2.2.1:Int)) (.g (inR v.2.1 (length v.2.2.1))<|.g (((toNat v.2.1)<length v.2.2.1)&&((getD v.2.2.1 (toNat v.2.1) 0)<length v.2.2.2))<|.c _ (k ((getD v.2.2.2 (getD v.2.2.1 (toNat v.2.1) 0) []),())) λa=>.t (!a) (.g (inR v.1 (length v.2.2.1))<|.g ((toNat v.1)<length v.2.2.1)<|.l (.inl ((wrap .i64 (v.1+1)),(wrap .i64 (v.2.1+1)),(set v.2.2.1 (toNat v.1) (getD v.2.2.1 (toNat v.2.1) 0)),v.2.2.2))) (.l (.inl (v.1,(wrap .i64 (v.2.1+1)),v.2.2)))) (.l (.inr (v.1,v.2.2)))
def wpe k v:=iter (λv=>(wcu k v).ev) v
abbrev yq506:Keep:=yk [] [0,5] (yj [.arr 64,.dat yi]) [Zad]
def wwu:LD:=yl (wcu) (yk [] [0,1,5,6] (yj [.arr 64,.clo [y1] .bool,.dat yi,.dat yi]) [Zad]) [(0,yq506)] yq15 (λk v=>(((),k,v.1,v.2.1,()),v.2.2,())) yq213 (λt=>(t.1.2.2.1,t.1.2.2.2.1,t.2.1)) (λ_ r=>yx 0 yq506 (((),r.1,()),r.2,()))
def wajh(f:(HL [y1]->Option Bool))(b:(List Nat)×Y2):Tr Yj:=.c _ (wuz (permL b.1 b.2) f) λe=>.t (e==(-1:Int)) (.l b) (.c _ (wpe f (e,(wrap .i64 (e+1)),b)) λa=>.g ((0<=a.1)&&(a.1<=(length a.2.1:Int)))<|.g ((0<=a.1)&&(a.1<=(length (List.take (toNat a.1) a.2.1++List.replicate (length a.2.1-(toNat a.1)) (length a.2.2)):Int)))<|.l ((List.take (toNat a.1) (List.take (toNat a.1) a.2.1++List.replicate (length a.2.1-(toNat a.1)) (length a.2.2))),a.2.2))
def wwv b a:=(wajh b a).ev
def www:FP prog:=fnP cx func157 [wanu] (yj [.arr 64,.clo [y1] .bool]) [Zad] [.arg 0] (yq489 wajh) ⟨[.ren 64 0],[.tmp 4],Zan,[(0,.perm 22 3 yi)],[],[64]⟩ yq20 noZ [(0,wwu)]
def waji(a:Y1)(b:Int):Tr Bool:=.l ((length a:Int) !=b)
def wwx a b:=(waji a b).ev
abbrev yq510{a b c d e:Type}{z:Type _}(f:a->b->z)(x:(a×(b×c)×d)×e):z:=f x.1.1 x.1.2.1.1
def wcpv:FP prog:=fnP cx func159 [] (yj [.dat y1,.ptr Zi]) [] [] (yq510 waji) yq357 yq2
def wajj(a:Y1)(e:List Y1)(n:Int):Tr Y1:=.c _ (wkf (length a:Int)) λg=>.c _ (wwv (λj=>Option.bind (wwx j.1 n) λi=>some i) g) λf=>.c _ (wpa (λm=>Option.bind (wip a e m.1) λh=>some h) f) λb=>.l b
def wajk a b c:=(wajj a b c).ev
def wcpw:FP prog:=fnP cx func89 [wajb,www,wkg,wkg,wahv,www,wcpv] (yj [.agg Zb,.dat yi]) [] [] (yq9 wajj) ⟨[.ren 960 0],[.tmp 4],Zan,[Zaa],[],[]⟩ yq20
def wwy(b:Y1)(a:List Y1)(e:Int):Tr Yay:=.c _ (wir b a e) λg=>.t (!g) (.l (false,[])) (.c _ (wajk b a e) λf=>.l (true,f))
def wwz a b c:=(wwy a b c).ev
abbrev yq512:RetK:=⟨[.own 4 0 3 yi,.ren 768 0],[.tmp 4,.tmp 5],Zah,[Zaa],[],[]⟩
def wcpx:FP prog:=fnP cx func43 [waqq,wcpw] (yj [.agg Zb,.dat yi]) [] [] (yq9 wwy) yq512 yq74
def T_zl(e:Y1)(b:Bool):Tr Yaq:=.c _ (wpd e) λa=>.l (a,b)
def F_zl a b:=(T_zl a b).ev
def G_zl:FP prog:=fnP cx func197 [waqp] (yj [.dat y1,.dat .bool]) [] [] (yq1 T_zl) yq368 yq173
def wajl(a:Y1)(b:Int):Tr Bool:=.l (b<(length a:Int))
def wxa a b:=(wajl a b).ev
def wcpy:FP prog:=fnP cx func161 [] (yj [.dat y1,.ptr Zi]) [] [] (yq510 wajl) yq357 yq2
def wajm(f:Y1)(_i:List Y1)(h:Int):Tr Yj:=.c _ (wkf (length f:Int)) λb=>.c _ (wwv (λg=>Option.bind (wxa g.1 h) λe=>some e) b) λa=>.l a
def waqr a b c:=(wajm a b c).ev
def wcpz:FP prog:=fnP cx func91 [wajb,www,www,wcpy] (yj [.agg Zb,.dat yi]) [] [] (yq9 wajm) ⟨[.ren 640 0],[.tmp 4],Zan,[(0,.perm 22 3 yi)],[],[]⟩ yq20
def wcv(k:Y1)(v:Int×Int):Tr (Yq⊕Int):=.t (v.2<(length k:Int)) (.g (inR v.2 (length k))<|.l (.inl ((if v.1<(getD k (toNat v.2) 0)then(getD k (toNat v.2) 0)else v.1),(wrap .i64 (v.2+1))))) (.l (.inr v.1))
def wis k v:=iter (λv=>(wcv k v).ev) v
def wxb:LD:=yl (wcv) yq199 [(0,yq64)] yq15 yq6 yq7 yq8 (λ_ r=>yx 0 yq64 ((r,()),()))
def wajn(a:Y1):Tr Int:=.t ((length a:Int)<(1:Int)) (.f) (.g (inR 0 (length a))<|.c _ (wis a ((getD a (toNat 0) 0),1)) λb=>.l b)
def wajo a:=(wajn a).ev
def wcqa:FP prog:=fnP cx func153 [] Zbd [] [] (yq19 wajn) yq65 yq2 noZ [(0,wxb)]
def wajp(f:Y1)(e:List Y1)(h:Y1):Tr Int:=.c _ (wvz f e h) λa=>.g ((length a+length ([0]:Y1))*8<=140737488355328)<|.c _ (wajo (a++([0]:Y1))) λb=>.l b
def wki a b c:=(wajp a b c).ev
def waqs:FP prog:=fnP cx func86 [waov,wcqa] (yj [.agg Zb,.dat y1]) [] [] (yq9 wajp) yq0 yq2
def T_zp(b:Y1)(a:List Y1)(e:Int):Tr Yay:=.c _ (wir b a e) λh=>.t (!h) (.l (false,[])) (.c _ (waqr b a e) λg=>.c _ (wpa (λi=>Option.bind (wki b a i.1) λf=>some f) g) λj=>.l (true,j))
def F_zp a b c:=(T_zp a b c).ev
def G_zp:FP prog:=fnP cx func44 [waqq,wcpz,wkg,wkg,waqs] (yj [.agg Zb,.dat yi]) [] [] (yq9 T_zp) ⟨[.own 4 0 3 yi,.ren 960 0],[.tmp 4,.tmp 5],Zah,[Zaa],[],[]⟩ yq74
def wajq(f:Y1)(e:List Y1)(b:Int):Tr Bool:=.c _ (wbm f e) λa=>.t a (.l (0<=b)) (.l false)
def waqt a b c:=(wajq a b c).ev
def wcqb:FP prog:=fnP cx func273 [wgs] (yj [.agg Zb,.dat yi]) [] [] (yq9 wajq) yq51 yq2
def wgu(k:Y1×Int×Int×Int×Int×Y1×Yz)(v:Int×Int):Tr (Yq⊕Int):=.t (v.2<k.2.2.2.2.2.2.1) (.g (inR v.2 (length k.2.2.2.2.2.1))<|.g (inR (getD k.2.2.2.2.2.1 (toNat v.2) 0) (length k.2.2.2.2.2.2.2.2))<|.g (inR k.2.2.1 (length (getD k.2.2.2.2.2.2.2.2 (toNat (getD k.2.2.2.2.2.1 (toNat v.2) 0)) [])))<|.t ((getD (getD k.2.2.2.2.2.2.2.2 (toNat (getD k.2.2.2.2.2.1 (toNat v.2) 0)) []) (toNat k.2.2.1) 0)<=k.2.1) (.l (.inl ((wrap .i64 (v.1+1)),(wrap .i64 (v.2+1))))) (.l (.inl (v.1,(wrap .i64 (v.2+1)))))) (.l (.inr v.1))
def wzj k v:=iter (λv=>(wgu k v).ev) v
abbrev yq516:Keep:=yk [] [1,2,3,8,13,14] (yj [.dat y1,.dat yi,.box 3 0,.dat yi,.dat yi,.dat yi]) [(3,.cells Zb)]
def wajr:LD:=yl (wgu) (yk [] [1,2,3,7,8,13,14,17,18,19] (yj [.dat y1,.dat yi,.box 3 0,.dat yi,.dat yi,.dat yi,.dat yi,.dat y1,.dat yi,.dat yi]) [(3,.cells Zb)]) [(2,yq516)] yq15 (λk v=>((k.1,k.2.1,(),k.2.2.1,v.1,k.2.2.2.1,k.2.2.2.2.1,k.2.2.2.2.2.1,k.2.2.2.2.2.2.1,v.2,()),(k.2.2.2.2.2.2.2.1,k.2.2.2.2.2.2.2.2,()),())) (λt=>(t.1.1,t.1.2.1,t.1.2.2.2.1,t.1.2.2.2.2.2.1,t.1.2.2.2.2.2.2.1,t.1.2.2.2.2.2.2.2.1,t.1.2.2.2.2.2.2.2.2.1,t.2.1.1,t.2.1.2.1)) (λt=>(t.1.2.2.2.2.1,t.1.2.2.2.2.2.2.2.2.2.1)) (λk r=>yx 2 yq516 ((k.1,k.2.1,(),r,k.2.2.2.1,k.2.2.2.2.1,()),(k.2.2.2.2.2.2.2.1,k.2.2.2.2.2.2.2.2,()),()))
def wgv(k:Y1×Int×Yz)(v:Int):Tr (Int⊕(Unit⊕Unit)):=.t (v<k.2.2.1) (.c _ (wzj (k.1,k.2.1,v,k.2.2.1,v,k.1,(length k.1:Int),k.2.2.2.1,k.2.2.2.2) (0,0)) λa=>.t (1<a) (.l (.inr (.inr ()))) (.l (.inl (wrap .i64 (v+1))))) (.l (.inr (.inl ())))
def wzk k v:=iter (λv=>(wgv k v).ev) v
def wajs:LD:=yl (wgv) (yk [] [1,2,3,13,14] (yj [.dat y1,.dat yi,.box 3 0,.dat yi,.dat yi]) [(3,.cells Zb)]) [(0,yq15)] yq40 yq336 yq192 yq149 (λ_ r=>.s _ _ r (λ_=>yx 0 yq15 ((),())) (λ_=>yz yq40 ((false,()),())))
def T_zx(a:Y1)(e:List Y1)(g:Y1)(b:Int):Tr Bool:=.c _ (wzk (g,b,(length a:Int),a,e) 0) λf=>.s _ _ f (λ_=>.l true) (λ_=>.l false)
def F_zx a c e b:=(T_zx a c e b).ev
def G_zx:FP prog:=fnP cx func332 [] (yj [.agg Zb,.dat y1,.dat yi]) [] [] (yq127 T_zx) yq36 yq2 noZ [(2,wajr),(0,wajs)]
def wcw(k:Int×Y1×Y2)(v:Y1×Int):Tr ((Y1×Int)⊕Y1):=.g ((0:Int)<=(length k.2.2:Int))<|.t (v.2<(wrap .u64 ((1:Int)*2^(min (toNat (length k.2.2:Int)) Zc)))) (.c _ (wfe v.2) λa=>.t ((length v.1:Int)<(length a:Int)) (.c _ (F_zx k.2.1 k.2.2 a k.1) λe=>.t e (.l (.inl (a,(wrap .u64 (v.2+1))))) (.l (.inl (v.1,(wrap .u64 (v.2+1)))))) (.t ((length a:Int)==(length v.1:Int)) (.c _ (wwp a v.1) λf=>.t (f<0) (.c _ (F_zx k.2.1 k.2.2 a k.1) λb=>.t b (.l (.inl (a,(wrap .u64 (v.2+1))))) (.l (.inl (v.1,(wrap .u64 (v.2+1)))))) (.l (.inl (v.1,(wrap .u64 (v.2+1)))))) (.l (.inl (v.1,(wrap .u64 (v.2+1))))))) (.l (.inr v.1))
def whc k v:=iter (λv=>(wcw k v).ev) v
def wxc:LD:=yl (wcw) (yk [.fz 8,.fz 1152] [1,2,5,6] (yj [.dat yi,.box 2 0,.dat y1,.dat (.int .u64)]) [Zal]) [(0,yq339)] yq15 yq130 yq118 yq131 (λ_ r=>yx 0 yq339 ((r,()),()))
def wajt(a:Y1)(e:List Y1)(b:Int):Tr Y1:=.c _ (whc (b,a,e) ([],1)) λf=>.l f
def waju a b c:=(wajt a b c).ev
def wcqc:FP prog:=fnP cx func274 [wjx,G_zx,waqi] (yj [.agg Zb,.dat yi]) [] [] (yq9 wajt) yq317 yq2 noZ [(0,wxc)]
def wajv(b:Y1)(a:List Y1)(e:Int):Tr (Y1×Bool):=.c _ (waqt b a e) λg=>.t (!g) (.l ([],false)) (.c _ (waju b a e) λf=>.l (f,true))
def wajw a b c:=(wajv a b c).ev
def wcqd:FP prog:=fnP cx func198 [wcqb,wcqc] (yj [.agg Zb,.dat yi]) [] [] (yq9 wajv) (yr [.tmp 4,.tmp 5] (yj [.dat y1,.dat .bool])) yq173
def wajx(b:Y1)(a:List Y1)(e:Y1):Tr (Int×Bool):=.c _ (whp b a e) λg=>.t (!g) (.l (0,false)) (.c _ (wfj b a e) λf=>.l (f,true))
def waqu a b c:=(wajx a b c).ev
def wcqe:FP prog:=fnP cx func84 [wjy,woj] (yj [.agg Zb,.dat y1]) [] [] (yq9 wajx) yq200 yq173
def T_zi(e:Y1)(b:List Y1)(f:Y1)(g:Int):Tr (Int×Bool):=.c _ (waa e b f g) λh=>.t (!h) (.l (0,false)) (.c _ (waqu e b f) λa=>.l (a.1,a.2))
def F_zi a c e b:=(T_zi a c e b).ev
def G_zi:FP prog:=fnP cx func40 [wagt,wcqe] (yj [.agg Zd]) [] [] (yq28 T_zi) yq172 yq173
def T_zk(e:Int)(b:Bool):Tr Yaq:=.c _ (war e) λa=>.l (a,b)
def F_zk a b:=(T_zk a b).ev
def G_zk:FP prog:=fnP cx func196 [wnw] (yj [.dat yi,.dat .bool]) [] [] (yq1 T_zk) yq368 yq173
def wal(k:Y1)(v:Int×Int):Tr (Yq⊕Int):=.t (v.2<(length k:Int)) (.g (inR v.2 (length k))<|.l (.inl ((if(getD k (toNat v.2) 0)<v.1 then(getD k (toNat v.2) 0)else v.1),(wrap .i64 (v.2+1))))) (.l (.inr v.1))
def wiu k v:=iter (λv=>(wal k v).ev) v
def wxd:LD:=yl (wal) yq199 [(0,yq64)] yq15 yq6 yq7 yq8 (λ_ r=>yx 0 yq64 ((r,()),()))
def wxe(a:Y1):Tr Int:=.t ((length a:Int)<(1:Int)) (.f) (.g (inR 0 (length a))<|.c _ (wiu a ((getD a (toNat 0) 0),1)) λb=>.l b)
def wkj a:=(wxe a).ev
def waqv:FP prog:=fnP cx func166 [] Zbd [] [] (yq19 wxe) yq65 yq2 noZ [(0,wxd)]
def wbi(k:Y1×Int×Int×Y2×Int×Int×Y1×Int)(v:Int×Y1):Tr (Yp⊕Y1):=.t (v.1<k.2.2.2.2.2.2.2) (.g (inR v.1 (length k.2.2.2.2.2.2.1))<|.g (inR v.1 (length v.2))<|.g ((toNat v.1)<length v.2)<|.g (inR k.2.2.1 (length k.1))<|.g (inR v.1 (length v.2))<|.g ((toNat v.1)<length v.2)<|.l (.inl ((wrap .i64 (v.1+1)),(set v.2 (toNat v.1) (wrap .i64 ((getD v.2 (toNat v.1) 0)+(if(0:Int)<(wrap .i64 ((getD k.1 (toNat k.2.2.1) 0) -(wrap .i64 ((getD k.2.2.2.2.2.2.1 (toNat v.1) 0)*k.2.1))))then(wrap .i64 ((getD k.1 (toNat k.2.2.1) 0) -(wrap .i64 ((getD k.2.2.2.2.2.2.1 (toNat v.1) 0)*k.2.1))))else 0))))))) (.l (.inr v.2))
def wiv k v:=iter (λv=>(wbi k v).ev) v
abbrev yq527:Keep:=yk [] [1,2,7,17,18,19] (yj [.dat y1,.dat yi,.arr 15,.dat y2,.dat yi,.dat yi]) [(15,.arr 3 yi)]
def wxf:LD:=yl (wbi) (yk [] [1,2,7,8,17,18,19,24,25,26] (yj [.dat y1,.dat yi,.arr 15,.dat yi,.dat y2,.dat yi,.dat yi,.dat y1,.dat yi,.dat yi]) [(15,.arr 3 yi)]) [(2,yq527)] yq15 (λk v=>((k.1,k.2.1,(),k.2.2.1,k.2.2.2.1,k.2.2.2.2.1,k.2.2.2.2.2.1,k.2.2.2.2.2.2.1,k.2.2.2.2.2.2.2,v.1,()),v.2,())) (λt=>(t.1.1,t.1.2.1,t.1.2.2.2.1,t.1.2.2.2.2.1,t.1.2.2.2.2.2.1,t.1.2.2.2.2.2.2.1,t.1.2.2.2.2.2.2.2.1,t.1.2.2.2.2.2.2.2.2.1)) (λt=>(t.1.2.2.2.2.2.2.2.2.2.1,t.2.1)) (λk r=>yx 2 yq527 ((k.1,k.2.1,(),k.2.2.2.1,k.2.2.2.2.1,k.2.2.2.2.2.1,()),r,()))
def wav(k:Y1×Int×Y2×Int)(v:Int×Y1):Tr (Yp⊕Y1):=.t (v.1<k.2.2.2) (.g (inR v.1 (length k.2.2.1))<|.c _ (wiv (k.1,k.2.1,v.1,k.2.2.1,k.2.2.2,v.1,(getD k.2.2.1 (toNat v.1) []),(length (getD k.2.2.1 (toNat v.1) []):Int)) (0,v.2)) λa=>.l (.inl ((wrap .i64 (v.1+1)),a))) (.l (.inr v.2))
def wiw k v:=iter (λv=>(wav k v).ev) v
abbrev yq531:Keep:=yk [] [7] (yj [.arr 15]) [(15,.arr 3 yi)]
abbrev yq533{a b c d e g h:Type}(t:(a×b×c×d×e×g)×h):=(t.1.1,t.1.2.1,t.1.2.2.2.1,t.1.2.2.2.2.1)
def wxg:LD:=yl (wav) yq527 [(0,yq531)] yq15 (λk v=>((k.1,k.2.1,(),k.2.2.1,k.2.2.2,v.1,()),v.2,())) yq533 yq452 (λ_ r=>yx 0 yq531 (((),()),r,()))
def wxh(a:Y1)(b:List Y1)(h:Y1)(e:Int):Tr Y1:=.g (((0:Int)<=(length a:Int))&&((length a:Int)<=(length a:Int))&&(((8:Nat):Int)*(length a:Int)<=281474976710656))<|.c _ (wiw (h,e,b,(length b:Int)) (0,(List.replicate (toNat (length a:Int)) 0))) λf=>.l f
def wix a c e b:=(wxh a c e b).ev
def waqw:FP prog:=fnP cx func169 [] (yj [.agg Zb,.dat y1,.dat yi]) [] [] (yq127 wxh) ⟨[.ren 15 0],[.tmp 6],Zan,[Zaa],[],[]⟩ yq20 noZ [(2,wxf),(0,wxg)]
def wfr(k:Int×Y1×Y2)(v:Int×Y1):Tr (Yp⊕Y1):=.t (v.1<k.1) (.g (inR v.1 (length v.2))<|.g ((toNat v.1)<length v.2)<|.g (inR v.1 (length k.2.1))<|.g (inR v.1 (length v.2))<|.g ((toNat v.1)<length v.2)<|.l (.inl ((wrap .i64 (v.1+1)),(set v.2 (toNat v.1) (wrap .i64 ((getD k.2.1 (toNat v.1) 0) -(getD v.2 (toNat v.1) 0))))))) (.l (.inr v.2))
def wpf k v:=iter (λv=>(wfr k v).ev) v
abbrev yq536:Keep:=yk [] [5] (yj [.arr 640]) [(640,.arr 3 yi)]
def wxi:LD:=yl (wfr) (yk [] [2,5,11,12,13] (yj [.box 2 0,.arr 640,.arr 640,.dat yi,.dat yi]) [Zal,(640,.arr 3 yi)]) [(0,yq536)] yq15 (λk v=>(((),(),(),k.1,v.1,()),(k.2.1,k.2.2,()),v.2,())) (λt=>(t.1.2.2.2.1,t.2.1.1,t.2.1.2.1)) yq417 (λ_ r=>yx 0 yq536 (((),()),r,()))
def wajy(e:Y1)(a:List Y1)(g:Y1):Tr Y1:=.c _ (wix e a g 1) λb=>.c _ (wpf ((length b:Int),e,a) (0,b)) λf=>.l f
def wajz a b c:=(wajy a b c).ev
def wcqf:FP prog:=fnP cx func275 [waqw] (yj [.agg Zb,.dat y1]) [] [] (yq9 wajy) ⟨[.ren 640 0],[.tmp 4],Zan,[Zaa],[],[]⟩ yq20 noZ [(0,wxi)]
def whr(k:Y2×Yz)(v:Int×Y1):Tr (Yp⊕Y1):=.t (v.1<k.2.1) (.g (inR v.1 (length k.1))<|.c _ (wkj (getD k.1 (toNat v.1) [])) λa=>.g ((length v.2+length ([a]:Y1))*8<=140737488355328)<|.l (.inl ((wrap .i64 (v.1+1)),(v.2++([a]:Y1))))) (.l (.inr v.2))
def wpg k v:=iter (λv=>(whr k v).ev) v
abbrev yq524:Keep:=yk [] [1,4] (yj [.box 1 0,.arr 19]) [Zo,(19,.arr 3 yi)]
def waka:LD:=yl (whr) (yk [] [1,4,21,22,23] (yj [.box 1 0,.arr 19,.dat y2,.dat yi,.dat yi]) [Zo,(19,.arr 3 yi)]) [(0,yq524)] yq15 (λk v=>(((),(),k.1,k.2.1,v.1,()),(k.2.2.1,k.2.2.2,()),v.2,())) yq408 yq417 (λk r=>yx 0 yq524 (((),(),()),(k.2.2.1,k.2.2.2,()),r,()))
def wba(k:Bool×Int×Y2×Int×Int×Y1×Int×Y1×Y2×Y1×Y1)(v:Int×Yq):Tr ((Int×Yq)⊕Yq):=.t (v.2.2<k.2.2.2.2.2.2.1) (.g (inR v.2.2 (length k.2.2.2.2.2.1))<|.g (inR k.2.1 (length k.2.2.2.2.2.2.2.2.2.1))<|.g ((toNat k.2.1)<length k.2.2.2.2.2.2.2.2.2.1)<|.t ((getD k.2.2.2.2.2.2.2.2.2.1 (toNat k.2.1) 0)<(getD k.2.2.2.2.2.1 (toNat v.2.2) 0)) (.t (v.1<0) (.l (.inl ((getD k.2.2.2.2.2.1 (toNat v.2.2) 0),v.2.1,(wrap .i64 (v.2.2+1))))) (.t ((getD k.2.2.2.2.2.1 (toNat v.2.2) 0)<v.1) (.l (.inl ((getD k.2.2.2.2.2.1 (toNat v.2.2) 0),v.2.1,(wrap .i64 (v.2.2+1))))) (.g (inR k.2.1 (length k.2.2.2.2.2.2.2.2.2.1))<|.g ((toNat k.2.1)<length k.2.2.2.2.2.2.2.2.2.1)<|.t ((getD k.2.2.2.2.2.1 (toNat v.2.2) 0)<=(getD k.2.2.2.2.2.2.2.2.2.1 (toNat k.2.1) 0)) (.t (v.2.1<0) (.g (inR v.2.2 (length k.2.2.2.2.2.2.2.2.2.2))<|.g ((toNat v.2.2)<length k.2.2.2.2.2.2.2.2.2.2)<|.l (.inl (v.1,(getD k.2.2.2.2.2.2.2.2.2.2 (toNat v.2.2) 0),(wrap .i64 (v.2.2+1))))) (.g (inR v.2.2 (length k.2.2.2.2.2.2.2.2.2.2))<|.g ((toNat v.2.2)<length k.2.2.2.2.2.2.2.2.2.2)<|.t ((getD k.2.2.2.2.2.2.2.2.2.2 (toNat v.2.2) 0)<v.2.1) (.g (inR v.2.2 (length k.2.2.2.2.2.2.2.2.2.2))<|.g ((toNat v.2.2)<length k.2.2.2.2.2.2.2.2.2.2)<|.l (.inl (v.1,(getD k.2.2.2.2.2.2.2.2.2.2 (toNat v.2.2) 0),(wrap .i64 (v.2.2+1))))) (.l (.inl (v.1,v.2.1,(wrap .i64 (v.2.2+1))))))) (.l (.inl (v.1,v.2.1,(wrap .i64 (v.2.2+1)))))))) (.g (inR k.2.1 (length k.2.2.2.2.2.2.2.2.2.1))<|.g ((toNat k.2.1)<length k.2.2.2.2.2.2.2.2.2.1)<|.t ((getD k.2.2.2.2.2.1 (toNat v.2.2) 0)<=(getD k.2.2.2.2.2.2.2.2.2.1 (toNat k.2.1) 0)) (.t (v.2.1<0) (.g (inR v.2.2 (length k.2.2.2.2.2.2.2.2.2.2))<|.g ((toNat v.2.2)<length k.2.2.2.2.2.2.2.2.2.2)<|.l (.inl (v.1,(getD k.2.2.2.2.2.2.2.2.2.2 (toNat v.2.2) 0),(wrap .i64 (v.2.2+1))))) (.g (inR v.2.2 (length k.2.2.2.2.2.2.2.2.2.2))<|.g ((toNat v.2.2)<length k.2.2.2.2.2.2.2.2.2.2)<|.t ((getD k.2.2.2.2.2.2.2.2.2.2 (toNat v.2.2) 0)<v.2.1) (.g (inR v.2.2 (length k.2.2.2.2.2.2.2.2.2.2))<|.g ((toNat v.2.2)<length k.2.2.2.2.2.2.2.2.2.2)<|.l (.inl (v.1,(getD k.2.2.2.2.2.2.2.2.2.2 (toNat v.2.2) 0),(wrap .i64 (v.2.2+1))))) (.l (.inl (v.1,v.2.1,(wrap .i64 (v.2.2+1))))))) (.l (.inl (v.1,v.2.1,(wrap .i64 (v.2.2+1))))))) (.l (.inr (v.1,v.2.1)))
def wzl k v:=iter (λv=>(wba k v).ev) v
abbrev yq541:Keep:=yk [] [1,4,7,8,11,12,35,36,37] (yj [.box 1 0,.arr 19,.dat .bool,.dat yi,.dat yi,.dat yi,.dat y2,.dat yi,.dat yi]) [Zo,(19,.arr 3 yi)]
def wakb:LD:=yl (wba) (yk [] [1,4,7,8,10,11,12,35,36,37,45,46,47] (yj [.box 1 0,.arr 19,.dat .bool,.dat yi,.arr 2816,.dat yi,.dat yi,.dat y2,.dat yi,.dat yi,.dat y1,.dat yi,.dat yi]) [Zo,(19,.arr 3 yi),(2816,.arr 3 yi)]) [(6,yq541)] yq15 (λk v=>(((),(),k.1,k.2.1,(),v.1,v.2.1,k.2.2.1,k.2.2.2.1,k.2.2.2.2.1,k.2.2.2.2.2.1,k.2.2.2.2.2.2.1,v.2.2,()),(k.2.2.2.2.2.2.2.1,k.2.2.2.2.2.2.2.2.1,()),k.2.2.2.2.2.2.2.2.2.1,k.2.2.2.2.2.2.2.2.2.2,())) (λt=>(t.1.2.2.1,t.1.2.2.2.1,t.1.2.2.2.2.2.2.2.1,t.1.2.2.2.2.2.2.2.2.1,t.1.2.2.2.2.2.2.2.2.2.1,t.1.2.2.2.2.2.2.2.2.2.2.1,t.1.2.2.2.2.2.2.2.2.2.2.2.1,t.2.1.1,t.2.1.2.1,t.2.2.1,t.2.2.2.1)) (λt=>(t.1.2.2.2.2.2.1,t.1.2.2.2.2.2.2.1,t.1.2.2.2.2.2.2.2.2.2.2.2.2.1)) (λk r=>yx 6 yq541 (((),(),k.1,k.2.1,r.1,r.2,k.2.2.1,k.2.2.2.1,k.2.2.2.2.1,()),(k.2.2.2.2.2.2.2.1,k.2.2.2.2.2.2.2.2.1,()),k.2.2.2.2.2.2.2.2.2.1,()))
def wbn(k:Y2×Yz)(v:Bool×Yp):Tr ((Bool×Yp)⊕Yay):=.t (v.2.1<k.2.1) (.g (inR v.2.1 (length k.1))<|.c _ (wajz k.2.2.1 k.2.2.2 v.2.2) λb=>.c _ (wzl (v.1,v.2.1,k.1,k.2.1,v.2.1,(getD k.1 (toNat v.2.1) []),(length (getD k.1 (toNat v.2.1) []):Int),k.2.2.1,k.2.2.2,v.2.2,b) ((-1),(-1),0)) λa=>.g (inR v.2.1 (length v.2.2))<|.g ((toNat v.2.1)<length v.2.2)<|.t (0<=a.1) (.t v.1 (.g (inR v.2.1 (length v.2.2))<|.g ((toNat v.2.1)<length v.2.2)<|.l (.inl (true,(wrap .i64 (v.2.1+1)),(set v.2.2 (toNat v.2.1) (if a.1<(wrap .i64 ((getD v.2.2 (toNat v.2.1) 0)+a.2))then a.1 else(wrap .i64 ((getD v.2.2 (toNat v.2.1) 0)+a.2))))))) (.g (inR v.2.1 (length v.2.2))<|.g ((toNat v.2.1)<length v.2.2)<|.g (inR v.2.1 (length v.2.2))<|.g ((toNat v.2.1)<length v.2.2)<|.l (.inl (((getD v.2.2 (toNat v.2.1) 0)<(if a.1<(wrap .i64 ((getD v.2.2 (toNat v.2.1) 0)+a.2))then a.1 else(wrap .i64 ((getD v.2.2 (toNat v.2.1) 0)+a.2)))),(wrap .i64 (v.2.1+1)),(set v.2.2 (toNat v.2.1) (if a.1<(wrap .i64 ((getD v.2.2 (toNat v.2.1) 0)+a.2))then a.1 else(wrap .i64 ((getD v.2.2 (toNat v.2.1) 0)+a.2)))))))) (.t v.1 (.g (inR v.2.1 (length v.2.2))<|.g ((toNat v.2.1)<length v.2.2)<|.l (.inl (true,(wrap .i64 (v.2.1+1)),(set v.2.2 (toNat v.2.1) (wrap .i64 ((getD v.2.2 (toNat v.2.1) 0)+a.2)))))) (.g (inR v.2.1 (length v.2.2))<|.g ((toNat v.2.1)<length v.2.2)<|.g (inR v.2.1 (length v.2.2))<|.g ((toNat v.2.1)<length v.2.2)<|.l (.inl (((getD v.2.2 (toNat v.2.1) 0)<(wrap .i64 ((getD v.2.2 (toNat v.2.1) 0)+a.2))),(wrap .i64 (v.2.1+1)),(set v.2.2 (toNat v.2.1) (wrap .i64 ((getD v.2.2 (toNat v.2.1) 0)+a.2)))))))) (.l (.inr (v.1,v.2.2)))
def wzm k v:=iter (λv=>(wbn k v).ev) v
abbrev yq546:Keep:=yk [] [1,4,7] (yj [.box 1 0,.arr 19,.dat .bool]) [Zo,(19,.arr 3 yi)]
def wakc:LD:=yl (wbn) (yk [] [1,4,7,35,36,37] (yj [.box 1 0,.arr 19,.dat .bool,.dat y2,.dat yi,.dat yi]) [Zo,(19,.arr 3 yi)]) [(4,yq546)] yq15 (λk v=>(((),(),v.1,k.1,k.2.1,v.2.1,()),(k.2.2.1,k.2.2.2,()),v.2.2,())) (λt=>(t.1.2.2.2.1,t.1.2.2.2.2.1,t.2.1.1,t.2.1.2.1)) (λt=>(t.1.2.2.1,t.1.2.2.2.2.2.1,t.2.2.1)) (λk r=>yx 4 yq546 (((),(),r.1,()),(k.2.2.1,k.2.2.2,()),r.2,()))
def wft(k:Y1×Y2)(v:Bool×Y1):Tr (Yay⊕Y1):=.t v.1 (.c _ (wzm (k.2,(length k.2:Int),k.1,k.2) (false,0,v.2)) λa=>.l (.inl (a.1,a.2))) (.l (.inr v.2))
def wzn k v:=iter (λv=>(wft k v).ev) v
abbrev yq550:Keep:=yk [] [4] (yj [.arr 19]) [(19,.arr 3 yi)]
def wakd:LD:=yl (wft) yq546 [(2,yq550)] yq15 yq180 yq140 yq181 (λ_ r=>yx 2 yq550 (((),()),r,()))
def T_zg(b:Y1)(a:List Y1):Tr Yay:=.c _ (wbm b a) λf=>.t (!f) (.l (false,[])) (.c _ (wpg (a,(length a:Int),b,a) (0,[])) λe=>.c _ (wzn (b,a) (true,e)) λg=>.l (true,g))
def F_zg a b:=(T_zg a b).ev
def G_zg:FP prog:=fnP cx func205 [wgs,waqv,wcqf] (yj [.agg Zb]) [] [] (yq25 T_zg) ⟨[.own 2 0 3 yi,.ren 19 0],[.tmp 2,.tmp 3],Zah,[Zaa],[],[]⟩ yq74 noZ [(0,waka),(6,wakb),(4,wakc),(2,wakd)]
def T_zh(e:Y1)(a:List Y1)(i:Y1)(g:Int):Tr (Int×Bool):=.c _ (F_zi e a i g) λb=>.t (!b.2) (.l (0,false)) (.c _ (F_zg e a) λh=>.c _ (wjz h.2) λf=>.l ((wrap .i64 (b.1-f)),true))
def F_zh a c e b:=(T_zh a c e b).ev
def G_zh:FP prog:=fnP cx func199 [G_zi,G_zg,waow] (yj [.agg Zd]) [] [] (yq28 T_zh) yq172 yq173
def wakf(b:Y1)(a:List Y1)(e:Y1):Tr (Int×Bool):=.c _ (whp b a e) λg=>.t (!g) (.l (0,false)) (.c _ (wip b a e) λf=>.l (f,true))
def wxj a b c:=(wakf a b c).ev
def wcqg:FP prog:=fnP cx func200 [wjy,wahv] (yj [.agg Zb,.dat y1]) [] [] (yq9 wakf) yq200 yq173
def wakg(b:Y1)(a:List Y1)(e:Y1):Tr (Int×Bool):=.c _ (whp b a e) λg=>.t (!g) (.l (0,false)) (.c _ (wki b a e) λf=>.l (f,true))
def wxk a b c:=(wakg a b c).ev
def wcqh:FP prog:=fnP cx func41 [wjy,waqs] (yj [.agg Zb,.dat y1]) [] [] (yq9 wakg) yq200 yq173
def wakh(b:Y1)(a:List Y1)(e:Y1):Tr Yay:=.c _ (whp b a e) λg=>.t (!g) (.l (false,[])) (.c _ (wvx b a e) λf=>.l (true,f))
def wxl a b c:=(wakh a b c).ev
def wcqi:FP prog:=fnP cx func201 [wjy,waou] (yj [.agg Zb,.dat y1]) [] [] (yq9 wakh) yq512 yq74
def wfu(k:Y1×Y1×Int×Y2×Int×Int×Y2×Int×Int×Int×Int×Yz)(v:Int):Tr (Int⊕(Unit⊕Unit)):=.t (v<k.2.2.2.2.2.2.2.2.2.2.2.1) (.g (inR k.2.2.1 (length k.1))<|.g (inR v (length k.1))<|.g (inR v (length k.2.1))<|.g (inR k.2.2.1 (length k.2.1))<|.t ((wrap .i64 ((wrap .i64 ((getD k.1 (toNat v) 0)+(getD k.2.1 (toNat v) 0)))+(getD k.2.1 (toNat k.2.2.1) 0)))<(getD k.1 (toNat k.2.2.1) 0)) (.l (.inr (.inr ()))) (.l (.inl (wrap .i64 (v+1))))) (.l (.inr (.inl ())))
def wph k v:=iter (λv=>(wfu k v).ev) v
abbrev yq553:Keep:=yk [] [1,5,7,14,15,16,21,22,23,29,30] (yj [.box 1 0,.dat y1,.dat y1,.dat y2,.dat yi,.dat yi,.dat y2,.dat yi,.dat yi,.dat yi,.dat yi]) [Zo]
abbrev yq554:Keep:=yh [2,3] (yj [.dat .bool,.dat .bool])
def wxm:LD:=yl (wfu) (yk [] [1,5,7,8,14,15,16,21,22,23,29,30,35,36] (yj [.box 1 0,.dat y1,.dat y1,.dat yi,.dat y2,.dat yi,.dat yi,.dat y2,.dat yi,.dat yi,.dat yi,.dat yi,.dat yi,.dat yi]) [Zo]) [(6,yq553)] yq554 (λk v=>(((),k.1,k.2.1,k.2.2.1,k.2.2.2.1,k.2.2.2.2.1,k.2.2.2.2.2.1,k.2.2.2.2.2.2.1,k.2.2.2.2.2.2.2.1,k.2.2.2.2.2.2.2.2.1,k.2.2.2.2.2.2.2.2.2.1,k.2.2.2.2.2.2.2.2.2.2.1,k.2.2.2.2.2.2.2.2.2.2.2.1,v,()),(k.2.2.2.2.2.2.2.2.2.2.2.2.1,k.2.2.2.2.2.2.2.2.2.2.2.2.2,()),())) (λt=>(t.1.2.1,t.1.2.2.1,t.1.2.2.2.1,t.1.2.2.2.2.1,t.1.2.2.2.2.2.1,t.1.2.2.2.2.2.2.1,t.1.2.2.2.2.2.2.2.1,t.1.2.2.2.2.2.2.2.2.1,t.1.2.2.2.2.2.2.2.2.2.1,t.1.2.2.2.2.2.2.2.2.2.2.1,t.1.2.2.2.2.2.2.2.2.2.2.2.1,t.1.2.2.2.2.2.2.2.2.2.2.2.2.1,t.2.1.1,t.2.1.2.1)) (λt=>t.1.2.2.2.2.2.2.2.2.2.2.2.2.2.1) (λk r=>.s _ _ r (λ_=>yx 6 yq553 (((),k.1,k.2.1,k.2.2.2.1,k.2.2.2.2.1,k.2.2.2.2.2.1,k.2.2.2.2.2.2.1,k.2.2.2.2.2.2.2.1,k.2.2.2.2.2.2.2.2.1,k.2.2.2.2.2.2.2.2.2.1,k.2.2.2.2.2.2.2.2.2.2.1,()),(k.2.2.2.2.2.2.2.2.2.2.2.2.1,k.2.2.2.2.2.2.2.2.2.2.2.2.2,()),())) (λ_=>yz yq554 ((false,true,()),())))
def wfv(k:Y1×Y1×Y2×Int×Int×Y2×Int×Int×Yz)(v:Int):Tr (Int⊕(Unit⊕Unit)):=.t (v<k.2.2.2.2.2.2.2.2.1) (.c _ (wph (k.1,k.2.1,v,k.2.2.1,k.2.2.2.1,k.2.2.2.2.1,k.2.2.2.2.2.1,k.2.2.2.2.2.2.1,k.2.2.2.2.2.2.2.1,k.2.2.2.2.2.2.2.2.1,v,(length k.2.2.2.2.2.2.2.2.2.1:Int),k.2.2.2.2.2.2.2.2.2.1,k.2.2.2.2.2.2.2.2.2.2) 0) λa=>.s _ _ a (λ_=>.l (.inl (wrap .i64 (v+1)))) (λ_=>.l (.inr (.inr ())))) (.l (.inr (.inl ())))
def wpi k v:=iter (λv=>(wfv k v).ev) v
abbrev yq558:Keep:=yk [] [1,5,14,15,16,21,22,23] (yj [.box 1 0,.dat y1,.dat y2,.dat yi,.dat yi,.dat y2,.dat yi,.dat yi]) [Zo]
def wxn:LD:=yl (wfv) yq553 [(4,yq558)] yq554 (λk v=>(((),k.1,k.2.1,k.2.2.1,k.2.2.2.1,k.2.2.2.2.1,k.2.2.2.2.2.1,k.2.2.2.2.2.2.1,k.2.2.2.2.2.2.2.1,k.2.2.2.2.2.2.2.2.1,v,()),(k.2.2.2.2.2.2.2.2.2.1,k.2.2.2.2.2.2.2.2.2.2,()),())) (λt=>(t.1.2.1,t.1.2.2.1,t.1.2.2.2.1,t.1.2.2.2.2.1,t.1.2.2.2.2.2.1,t.1.2.2.2.2.2.2.1,t.1.2.2.2.2.2.2.2.1,t.1.2.2.2.2.2.2.2.2.1,t.1.2.2.2.2.2.2.2.2.2.1,t.2.1.1,t.2.1.2.1)) (λt=>t.1.2.2.2.2.2.2.2.2.2.2.1) (λk r=>.s _ _ r (λ_=>yx 4 yq558 (((),k.1,k.2.2.1,k.2.2.2.1,k.2.2.2.2.1,k.2.2.2.2.2.1,k.2.2.2.2.2.2.1,k.2.2.2.2.2.2.2.1,()),(k.2.2.2.2.2.2.2.2.2.1,k.2.2.2.2.2.2.2.2.2.2,()),())) (λ_=>yz yq554 ((false,true,()),())))
def wfw(k:Y1×Y2×Int×Int×Y2×Yz)(v:Int):Tr (Int⊕(Unit⊕Unit)):=.t (v<k.2.2.2.2.2.1) (.g (inR v (length k.2.2.2.2.1))<|.c _ (wpi (k.1,(getD k.2.2.2.2.1 (toNat v) []),k.2.1,k.2.2.1,k.2.2.2.1,k.2.2.2.2.1,k.2.2.2.2.2.1,v,(length k.2.2.2.2.2.2.1:Int),k.2.2.2.2.2.2.1,k.2.2.2.2.2.2.2) 0) λa=>.s _ _ a (λ_=>.l (.inl (wrap .i64 (v+1)))) (λ_=>.l (.inr (.inr ())))) (.l (.inr (.inl ())))
def wpj k v:=iter (λv=>(wfw k v).ev) v
abbrev yq562:Keep:=yk [] [1,14,15,16] (yj [.box 1 0,.dat y2,.dat yi,.dat yi]) [Zo]
def wxo:LD:=yl (wfw) yq558 [(2,yq562)] yq554 (λk v=>(((),k.1,k.2.1,k.2.2.1,k.2.2.2.1,k.2.2.2.2.1,k.2.2.2.2.2.1,v,()),(k.2.2.2.2.2.2.1,k.2.2.2.2.2.2.2,()),())) (λt=>(t.1.2.1,t.1.2.2.1,t.1.2.2.2.1,t.1.2.2.2.2.1,t.1.2.2.2.2.2.1,t.1.2.2.2.2.2.2.1,t.2.1.1,t.2.1.2.1)) (λt=>t.1.2.2.2.2.2.2.2.1) (λk r=>.s _ _ r (λ_=>yx 2 yq562 (((),k.2.1,k.2.2.1,k.2.2.2.1,()),(k.2.2.2.2.2.2.1,k.2.2.2.2.2.2.2,()),())) (λ_=>yz yq554 ((false,true,()),())))
def wfx(k:Y2×Yz)(v:Int):Tr (Int⊕(Unit⊕Unit)):=.t (v<k.2.1) (.g (inR v (length k.1))<|.c _ (wpj ((getD k.1 (toNat v) []),k.1,k.2.1,v,k.2.2.2,(length k.2.2.2:Int),k.2.2.1,k.2.2.2) 0) λa=>.s _ _ a (λ_=>.l (.inl (wrap .i64 (v+1)))) (λ_=>.l (.inr (.inr ())))) (.l (.inr (.inl ())))
def wpk k v:=iter (λv=>(wfx k v).ev) v
def wxp:LD:=yl (wfx) yq562 [(0,yq15)] yq554 yq210 yq211 yq43 (λ_ r=>.s _ _ r (λ_=>yx 0 yq15 ((),())) (λ_=>yz yq554 ((false,true,()),())))
def waki(b:Y1)(a:List Y1):Tr (Bool×Bool):=.c _ (wbm b a) λe=>.t (!e) (.l (false,false)) (.c _ (wpk (a,(length a:Int),b,a) 0) λf=>.s _ _ f (λ_=>.l (true,true)) (λ_=>.l (false,true)))
def wpm a b:=(waki a b).ev
def wcqj:FP prog:=fnP cx func203 [wgs] (yj [.agg Zb]) [] [] (yq25 waki) yq214 yq173 noZ [(6,wxm),(4,wxn),(2,wxo),(0,wxp)]
def waqx(b a:Bool):Tr Yaq:=.t b (.l (([121,101,115]:List UInt8),a)) (.l (([110,111]:List UInt8),a))
def wpn a b:=(waqx a b).ev
def wcqk:FP prog:=fnP cx func202 [] (yj [.dat .bool,.dat .bool]) [] [] (yq1 waqx) yq368 yq173
def whs(k:Y2×Int)(v:Int×(List (List UInt8))):Tr (Yai⊕(List (List UInt8))):=.t (v.1<k.2) (.g (inR v.1 (length k.1))<|.c _ (wpc (getD k.1 (toNat v.1) [])) λa=>.g ((length v.2+length ([a]:List (List UInt8)))*16<=140737488355328)<|.l (.inl ((wrap .i64 (v.1+1)),(v.2++([a]:List (List UInt8)))))) (.l (.inr v.2))
def wzo k v:=iter (λv=>(whs k v).ev) v
abbrev yq567:Keep:=yk [] [4] (yj [.arr 13]) [(13,.arr 9 .str)]
def wakj:LD:=yl (whs) (yk [] [4,15,16,17] (yj [.arr 13,.dat y2,.dat yi,.dat yi]) [(13,.arr 9 .str)]) [(0,yq567)] yq15 yq374 yq8 yq89 (λ_ r=>yx 0 yq567 (((),()),r,()))
def T_zw(b:Y1)(a:List Y1):Tr Yaq:=.c _ (wbm b a) λh=>.t (!h) (.l ([],false)) (.c _ (wpc b) λf=>.c _ (wzo (a,(length a:Int)) (0,([f]:List (List UInt8)))) λg=>.c _ (wkh g ([32,47,32]:List UInt8)) λe=>.l (e,true))
def F_zw a b:=(T_zw a b).ev
def G_zw:FP prog:=fnP cx func204 [wgs,waqo,waqn] (yj [.agg Zb]) [] [] (yq25 T_zw) yq366 yq173 noZ [(0,wakj)]
def wfy(k:Y1×Yq)(v:Int):Tr (Int⊕(Unit⊕Int)):=.t (v<k.2.2) (.g (inR v (length k.1))<|.t (k.2.1==(getD k.1 (toNat v) 0)) (.l (.inr (.inr v))) (.l (.inl (wrap .i64 (v+1))))) (.l (.inr (.inl ())))
def wpo k v:=iter (λv=>(wfy k v).ev) v
def wxq:LD:=yl (wfy) (yh [0,1,7,8] (yj [.dat y1,.dat yi,.dat yi,.dat yi])) [(0,yq15)] yq5 yq41 yq42 yq43 (λ_ r=>.s _ _ r (λ_=>yx 0 yq15 ((),())) (λb=>yz yq5 ((b,()),())))
def wakk(a:Y1)(f:Int):Tr Int:=.c _ (wpo (a,f,(length a:Int)) 0) λb=>.s _ _ b (λ_=>.l (-1)) (λe=>.l e)
def waqy a b:=(wakk a b).ev
def wcql:FP prog:=fnP cx func165 [] (yj [.dat y1,.dat yi]) [] [] (yq1 wakk) yq0 yq2 noZ [(0,wxq)]
def wakl(a:Y1)(_f:List Y1):Tr Int:=.c _ (wkj a) λb=>.c _ (waqy a b) λe=>.l e
def wakm a b:=(wakl a b).ev
def wcqm:FP prog:=fnP cx func93 [waqv,wcql] (yj [.agg Zb]) [] [] (yq25 wakl) yq65 yq2
def wkk(a:Y1)(b:Int):Option (List Int):=repeatF a b
def wcqn:FD:=fdRepeat
theorem waqz:FDok prog (167,wcqn):=hand_repeat
def wcqo:FP prog:=⟨_,waqz⟩
def wakq(a c:Int)(_e:Y1)(b:List Y1):Tr Int:=.g (inR a (length b))<|.g (inR c (length (getD b (toNat a) [])))<|.l (wrap .i64 ((getD (getD b (toNat a) []) (toNat c) 0)*(2520:Int)))
def wpp a c e b:=(wakq a c e b).ev
abbrev yq578:RetK:=yr [.tmp 5] Zi
def wcqp:FP prog:=fnP cx func168 [] (yj [.dat yi,.dat yi,.ptr Zb]) [] [] ((λf x=>f x.1.1 x.1.2.1 x.1.2.2.1.1 x.1.2.2.1.2.1) wakq) yq578 yq2
def wakr(a c b:Int):Tr Int:=.t (c<a) (.t (b<0) (.l a) (.t (a<b) (.l a) (.l b))) (.l b)
def wxr a b c:=(wakr a b c).ev
def wcqq:FP prog:=fnP cx func170 [] (yj [.dat yi,.ptr Zi,.box 64 0]) [(64,.cells Zi)] [.arg 2] ((λf x=>f x.1.1 x.1.2.1.1 x.2.1.1) wakr) ⟨[],[],.nil,[(64,.cells Zi)],[(2,0,64)],[]⟩ (λr=>((),(r,()),()))
def wpq(k:Int×Int×Y1×Y2×Int×Y1×Y1)(v:Int×Y1):Tr (Yp⊕Y1):=.t (v.1<k.2.1) (.g (inR v.1 (length k.2.2.2.2.2.2))<|.g ((toNat v.1)<length k.2.2.2.2.2.2)<|.t ((getD k.2.2.2.2.2.2 (toNat v.1) 0)<(0:Int)) (.g (inR v.1 (length v.2))<|.g ((toNat v.1)<length v.2)<|.l (.inl ((wrap .i64 (v.1+1)),(set v.2 (toNat v.1) k.2.2.2.2.1)))) (.l (.inl ((wrap .i64 (v.1+1)),v.2)))) (.l (.inr v.2))
def wara k v:=iter (λv=>(wpq k v).ev) v
abbrev yq570:Keep:=yk [] [1,2,3,4,5,6] (yj [.box 1 0,.box 2 0,.dat yi,.box 4 0,.fn 168 (yj [.box 1 0]),.box 6 0]) [Zo,Zx,Zt,(6,.cells Zi),(25,.arr 3 yi),(1920,.arr 3 yi),Zbi]
def warb:LD:=yl (wpq) (yk [] [1,2,3,4,5,6,36,37] (yj [.box 1 0,.box 2 0,.dat yi,.box 4 0,.fn 168 (yj [.box 1 0]),.box 6 0,.dat yi,.dat yi]) [Zo,Zx,Zt,(6,.cells Zi),(25,.arr 3 yi),(1920,.arr 3 yi),Zbi]) [(2,yq570)] yq15 (λk v=>(((),(),k.1,(),((),()),(),k.2.1,v.1,()),(k.2.2.1,k.2.2.2.1,()),((),(),(),()),((),(),(),()),(k.2.2.2.2.1,()),v.2,k.2.2.2.2.2.1,k.2.2.2.2.2.2,())) (λt=>(t.1.2.2.1,t.1.2.2.2.2.2.2.1,t.2.1.1,t.2.1.2.1,t.2.2.2.2.1.1,t.2.2.2.2.2.2.1,t.2.2.2.2.2.2.2.1)) (λt=>(t.1.2.2.2.2.2.2.2.1,t.2.2.2.2.2.1)) (λk r=>yx 2 yq570 (((),(),k.1,(),((),()),(),()),(k.2.2.1,k.2.2.2.1,()),((),(),(),()),((),(),(),()),(k.2.2.2.2.1,()),r,k.2.2.2.2.2.1,k.2.2.2.2.2.2,()))
def wcx(k:Int×Int×Y1×Y2×Int×Yba)(v:Int×Y1):Tr (Yp⊕Y1):=.t (v.1<k.2.1) (.g (inR v.1 (length k.2.2.2.2.2.1))<|.g ((toNat v.1)<length k.2.2.2.2.2.1)<|.g (inR v.1 (length v.2))<|.g ((toNat v.1)<length v.2)<|.t ((getD v.2 (toNat v.1) 0)<(0:Int)) (.g (inR v.1 (length k.2.2.1))<|.t ((wrap .i64 ((getD k.2.2.1 (toNat v.1) 0)*(2520:Int)))<=(getD k.2.2.2.2.2.1 (toNat v.1) 0)) (.g (inR v.1 (length v.2))<|.g ((toNat v.1)<length v.2)<|.l (.inl ((wrap .i64 (v.1+1)),(set v.2 (toNat v.1) k.2.2.2.2.1)))) (.l (.inl ((wrap .i64 (v.1+1)),v.2)))) (.l (.inl ((wrap .i64 (v.1+1)),v.2)))) (.l (.inr v.2))
def wpr k v:=iter (λv=>(wcx k v).ev) v
def wxs:LD:=yl (wcx) (yk [] [1,2,3,4,5,6,55,56,57] (yj [.box 1 0,.box 2 0,.dat yi,.box 4 0,.fn 168 (yj [.box 1 0]),.box 6 0,.arr 3520,.dat yi,.dat yi]) [Zo,Zx,Zt,(6,.cells Zi),(3520,.arr 3 yi),(25,.arr 3 yi),(1920,.arr 3 yi),Zbi]) [(4,yq570)] yq15 (λk v=>(((),(),k.1,(),((),()),(),(),k.2.1,v.1,()),(k.2.2.1,k.2.2.2.1,()),((),(),(),()),((),(),(),()),(k.2.2.2.2.1,()),k.2.2.2.2.2.1,k.2.2.2.2.2.2.1,v.2,k.2.2.2.2.2.2.2,())) (λt=>(t.1.2.2.1,t.1.2.2.2.2.2.2.2.1,t.2.1.1,t.2.1.2.1,t.2.2.2.2.1.1,t.2.2.2.2.2.1,t.2.2.2.2.2.2.1,t.2.2.2.2.2.2.2.2.1)) (λt=>(t.1.2.2.2.2.2.2.2.2.1,t.2.2.2.2.2.2.2.1)) (λk r=>yx 4 yq570 (((),(),k.1,(),((),()),(),()),(k.2.2.1,k.2.2.2.1,()),((),(),(),()),((),(),(),()),(k.2.2.2.2.1,()),k.2.2.2.2.2.2.1,r,k.2.2.2.2.2.2.2,()))
def waf(k:Int×Bool×Int×Int×Int×Int×Y1×Y2×Int×Y1×Y1)(v:Int×Y1):Tr (Yp⊕Y1):=.t (v.1<k.2.2.2.2.2.1) (.g (inR v.1 (length k.2.2.2.2.2.2.2.2.2.1))<|.g ((toNat v.1)<length k.2.2.2.2.2.2.2.2.2.1)<|.g (inR k.2.2.1 (length v.2))<|.g ((toNat k.2.2.1)<length v.2)<|.g (inR k.2.2.1 (length k.2.2.2.2.2.2.2.2.2.2))<|.g ((toNat k.2.2.1)<length k.2.2.2.2.2.2.2.2.2.2)<|.t ((getD k.2.2.2.2.2.2.2.2.2.2 (toNat k.2.2.1) 0)==k.2.2.2.2.2.2.2.2.1) (.t ((0:Int)<=(getD k.2.2.2.2.2.2.2.2.2.1 (toNat v.1) 0)) (.c _ (wpp k.2.2.1 v.1 k.2.2.2.2.2.2.1 k.2.2.2.2.2.2.2.1) λa=>.t (a<=k.2.2.2.2.2.2.2.2.1) (.t ((getD v.2 (toNat k.2.2.1) 0)<(0:Int)) (.g (inR k.2.2.1 (length v.2))<|.g ((toNat k.2.2.1)<length v.2)<|.l (.inl ((wrap .i64 (v.1+1)),(set v.2 (toNat k.2.2.1) v.1)))) (.g (inR (getD v.2 (toNat k.2.2.1) 0) (length k.2.2.2.2.2.2.2.2.2.1))<|.g ((toNat (getD v.2 (toNat k.2.2.1) 0))<length k.2.2.2.2.2.2.2.2.2.1)<|.t ((getD k.2.2.2.2.2.2.2.2.2.1 (toNat v.1) 0)<(getD k.2.2.2.2.2.2.2.2.2.1 (toNat (getD v.2 (toNat k.2.2.1) 0)) 0)) (.g (inR k.2.2.1 (length v.2))<|.g ((toNat k.2.2.1)<length v.2)<|.l (.inl ((wrap .i64 (v.1+1)),(set v.2 (toNat k.2.2.1) v.1)))) (.l (.inl ((wrap .i64 (v.1+1)),v.2))))) (.l (.inl ((wrap .i64 (v.1+1)),v.2)))) (.l (.inl ((wrap .i64 (v.1+1)),v.2)))) (.l (.inl ((wrap .i64 (v.1+1)),v.2)))) (.l (.inr v.2))
def wps k v:=iter (λv=>(waf k v).ev) v
abbrev yq581:Keep:=yk [] [1,2,3,4,5,6,10,11,84,85] (yj [.box 1 0,.box 2 0,.dat yi,.box 4 0,.fn 168 (yj [.box 1 0]),.box 6 0,.dat .bool,.dat yi,.dat yi,.dat yi]) [Zo,Zx,Zt,(6,.cells Zi),(25,.arr 3 yi),(1920,.arr 3 yi),Zbi]
def wxt:LD:=yl (waf) (yk [] [1,2,3,4,5,6,10,11,84,85,89,90,91] (yj [.box 1 0,.box 2 0,.dat yi,.box 4 0,.fn 168 (yj [.box 1 0]),.box 6 0,.dat .bool,.dat yi,.dat yi,.dat yi,.arr 1920,.dat yi,.dat yi]) [Zo,Zx,Zt,(6,.cells Zi),(1920,.arr 3 yi),(25,.arr 3 yi),Zbi]) [(8,yq581)] yq15 (λk v=>(((),(),k.1,(),((),()),(),k.2.1,k.2.2.1,k.2.2.2.1,k.2.2.2.2.1,(),k.2.2.2.2.2.1,v.1,()),(k.2.2.2.2.2.2.1,k.2.2.2.2.2.2.2.1,()),((),(),(),()),((),(),(),()),(k.2.2.2.2.2.2.2.2.1,()),k.2.2.2.2.2.2.2.2.2.1,k.2.2.2.2.2.2.2.2.2.2,v.2,())) (λt=>(t.1.2.2.1,t.1.2.2.2.2.2.2.1,t.1.2.2.2.2.2.2.2.1,t.1.2.2.2.2.2.2.2.2.1,t.1.2.2.2.2.2.2.2.2.2.1,t.1.2.2.2.2.2.2.2.2.2.2.2.1,t.2.1.1,t.2.1.2.1,t.2.2.2.2.1.1,t.2.2.2.2.2.1,t.2.2.2.2.2.2.1)) (λt=>(t.1.2.2.2.2.2.2.2.2.2.2.2.2.1,t.2.2.2.2.2.2.2.1)) (λk r=>yx 8 yq581 (((),(),k.1,(),((),()),(),k.2.1,k.2.2.1,k.2.2.2.1,k.2.2.2.2.1,()),(k.2.2.2.2.2.2.1,k.2.2.2.2.2.2.2.1,()),((),(),(),()),((),(),(),()),(k.2.2.2.2.2.2.2.2.1,()),k.2.2.2.2.2.2.2.2.2.2,k.2.2.2.2.2.2.2.2.2.1,r,()))
def wcz(k:Int×Int×Y1×Y2×Int×Y1×Y1)(v:Bool×Yp):Tr ((Bool×Yp)⊕Yay):=.t (v.2.1<k.2.1) (.c _ (wps (k.1,v.1,v.2.1,k.2.1,v.2.1,(length k.2.2.2.2.2.2:Int),k.2.2.1,k.2.2.2.1,k.2.2.2.2.1,k.2.2.2.2.2.2,k.2.2.2.2.2.1) (0,v.2.2)) λa=>.t v.1 (.l (.inl (true,(wrap .i64 (v.2.1+1)),a))) (.g (inR v.2.1 (length a))<|.g ((toNat v.2.1)<length a)<|.l (.inl (((getD a (toNat v.2.1) 0)<(0:Int)),(wrap .i64 (v.2.1+1)),a)))) (.l (.inr (v.1,v.2.2)))
def wpt k v:=iter (λv=>(wcz k v).ev) v
abbrev yq586:Keep:=yk [] [1,2,3,4,5,6,10] (yj [.box 1 0,.box 2 0,.dat yi,.box 4 0,.fn 168 (yj [.box 1 0]),.box 6 0,.dat .bool]) [Zo,Zx,Zt,(6,.cells Zi),(25,.arr 3 yi),(1920,.arr 3 yi),Zbi]
def wxu:LD:=yl (wcz) (yk [] [1,2,3,4,5,6,10,84,85] (yj [.box 1 0,.box 2 0,.dat yi,.box 4 0,.fn 168 (yj [.box 1 0]),.box 6 0,.dat .bool,.dat yi,.dat yi]) [Zo,Zx,Zt,(6,.cells Zi),(25,.arr 3 yi),(1920,.arr 3 yi),Zbi]) [(6,yq586)] yq15 (λk v=>(((),(),k.1,(),((),()),(),v.1,k.2.1,v.2.1,()),(k.2.2.1,k.2.2.2.1,()),((),(),(),()),((),(),(),()),(k.2.2.2.2.1,()),k.2.2.2.2.2.1,k.2.2.2.2.2.2,v.2.2,())) (λt=>(t.1.2.2.1,t.1.2.2.2.2.2.2.2.1,t.2.1.1,t.2.1.2.1,t.2.2.2.2.1.1,t.2.2.2.2.2.1,t.2.2.2.2.2.2.1)) (λt=>(t.1.2.2.2.2.2.2.1,t.1.2.2.2.2.2.2.2.2.1,t.2.2.2.2.2.2.2.1)) (λk r=>yx 6 yq586 (((),(),k.1,(),((),()),(),r.1,()),(k.2.2.1,k.2.2.2.1,()),((),(),(),()),((),(),(),()),(k.2.2.2.2.1,()),k.2.2.2.2.2.1,k.2.2.2.2.2.2,r.2,()))
def wam(k:Int×Int×Int×Int×Int×Y1×Y2×Int×Y1×Yba)(v:Int×Yq):Tr ((Int×Yq)⊕Yq):=.t (v.2.1<k.2.2.2.2.1) (.g (inR v.2.1 (length k.2.2.2.2.2.2.2.2.2.2.2))<|.g ((toNat v.2.1)<length k.2.2.2.2.2.2.2.2.2.2.2)<|.t ((0:Int)<=(getD k.2.2.2.2.2.2.2.2.2.2.2 (toNat v.2.1) 0)) (.l (.inl (v.1,(wrap .i64 (v.2.1+1)),v.2.2))) (.c _ (wpp v.2.1 k.2.1 k.2.2.2.2.2.1 k.2.2.2.2.2.2.1) λe=>.c _ (wxr e k.2.2.2.2.2.2.2.1 v.2.2) λa=>.c _ (wpp v.2.1 k.2.1 k.2.2.2.2.2.1 k.2.2.2.2.2.2.1) λb=>.t (b<=k.2.2.2.2.2.2.2.1) (.l (.inl ((wrap .i64 (v.1+1)),(wrap .i64 (v.2.1+1)),a))) (.l (.inl (v.1,(wrap .i64 (v.2.1+1)),a))))) (.l (.inr (v.1,v.2.2)))
def wjl k v:=iter (λv=>(wam k v).ev) v
abbrev yq594:Keep:=yk [] [1,2,3,4,5,6,15,16,17,18,19,159,160] (yj [.box 1 0,.box 2 0,.dat yi,.box 4 0,.fn 168 (yj [.box 1 0]),.box 6 0,.box 15 0,.fn 170 (yj [.box 6 0,.box 15 0]),.arr 9984,.dat yi,.dat yi,.dat yi,.dat yi]) [Zo,Zx,Zt,(6,.cells Zi),(15,.cells Zi),(9984,.arr 3 yi),(25,.arr 3 yi),(1920,.arr 3 yi),Zbi]
def wpu:LD:=yl (wam) (yk [] [1,2,3,4,5,6,15,16,17,18,19,159,160,163,164] (yj [.box 1 0,.box 2 0,.dat yi,.box 4 0,.fn 168 (yj [.box 1 0]),.box 6 0,.box 15 0,.fn 170 (yj [.box 6 0,.box 15 0]),.arr 9984,.dat yi,.dat yi,.dat yi,.dat yi,.dat yi,.dat yi]) [Zo,Zx,Zt,(6,.cells Zi),(15,.cells Zi),(9984,.arr 3 yi),(25,.arr 3 yi),(1920,.arr 3 yi),Zbi]) [(12,yq594)] yq15 (λk v=>(((),(),k.1,(),((),()),(),(),((),(),()),(),k.2.1,v.1,k.2.2.1,k.2.2.2.1,k.2.2.2.2.1,v.2.1,()),(k.2.2.2.2.2.1,k.2.2.2.2.2.2.1,()),((),(),(),()),((),(),(),()),(k.2.2.2.2.2.2.2.1,()),(v.2.2,()),k.2.2.2.2.2.2.2.2.1,k.2.2.2.2.2.2.2.2.2.1,k.2.2.2.2.2.2.2.2.2.2.1,k.2.2.2.2.2.2.2.2.2.2.2,())) (λt=>(t.1.2.2.1,t.1.2.2.2.2.2.2.2.2.2.1,t.1.2.2.2.2.2.2.2.2.2.2.2.1,t.1.2.2.2.2.2.2.2.2.2.2.2.2.1,t.1.2.2.2.2.2.2.2.2.2.2.2.2.2.1,t.2.1.1,t.2.1.2.1,t.2.2.2.2.1.1,t.2.2.2.2.2.2.1,t.2.2.2.2.2.2.2.1,t.2.2.2.2.2.2.2.2.1,t.2.2.2.2.2.2.2.2.2.1)) (λt=>(t.1.2.2.2.2.2.2.2.2.2.2.1,t.1.2.2.2.2.2.2.2.2.2.2.2.2.2.2.1,t.2.2.2.2.2.1.1)) (λk r=>yx 12 yq594 (((),(),k.1,(),((),()),(),(),((),(),()),(),k.2.1,r.1,k.2.2.1,k.2.2.2.1,()),(k.2.2.2.2.2.1,k.2.2.2.2.2.2.1,()),((),(),(),()),((),(),(),()),(k.2.2.2.2.2.2.2.1,()),(r.2,()),k.2.2.2.2.2.2.2.2.1,k.2.2.2.2.2.2.2.2.2.1,k.2.2.2.2.2.2.2.2.2.2.1,k.2.2.2.2.2.2.2.2.2.2.2,()))
def wan(k:Int×Int×Y1×Y2×Int×Y1×Yba)(v:Int×Int):Tr (Yq⊕Int):=.t (v.1<k.2.1) (.c _ (wjl (k.1,v.1,k.2.1,v.1,k.1,k.2.2.1,k.2.2.2.1,k.2.2.2.2.1,k.2.2.2.2.2.1,k.2.2.2.2.2.2.1,k.2.2.2.2.2.2.2.1,k.2.2.2.2.2.2.2.2) (0,0,v.2)) λa=>.t (0<a.1) (.g (inR v.1 (length k.2.2.2.2.2.2.2.1))<|.g ((toNat v.1)<length k.2.2.2.2.2.2.2.1)<|.t ((getD k.2.2.2.2.2.2.2.1 (toNat v.1) 0)<(0:Int)) (.g (inR v.1 (length k.2.2.1))<|.g (inR v.1 (length k.2.2.2.2.2.1))<|.g ((toNat v.1)<length k.2.2.2.2.2.1)<|.g (!decide (a.1=0))<|.c _ (wxr (wrap .i64 (k.2.2.2.2.1+(wrap .i64 (Int.tdiv (wrap .i64 ((wrap .i64 ((wrap .i64 ((wrap .i64 ((getD k.2.2.1 (toNat v.1) 0)*(2520:Int))) -(getD k.2.2.2.2.2.1 (toNat v.1) 0)))+a.1)) -1)) a.1)))) k.2.2.2.2.1 a.2) λb=>.l (.inl ((wrap .i64 (v.1+1)),b))) (.l (.inl ((wrap .i64 (v.1+1)),a.2)))) (.l (.inl ((wrap .i64 (v.1+1)),a.2)))) (.l (.inr v.2))
def wjm k v:=iter (λv=>(wan k v).ev) v
abbrev yq599:Keep:=yk [] [1,2,3,4,5,6,15] (yj [.box 1 0,.box 2 0,.dat yi,.box 4 0,.fn 168 (yj [.box 1 0]),.box 6 0,.box 15 0]) [Zo,Zx,Zt,(6,.cells Zi),(15,.cells Zi),(25,.arr 3 yi),(1920,.arr 3 yi),Zbi]
def wpv:LD:=yl (wan) (yk [] [1,2,3,4,5,6,15,16,17,159,160] (yj [.box 1 0,.box 2 0,.dat yi,.box 4 0,.fn 168 (yj [.box 1 0]),.box 6 0,.box 15 0,.fn 170 (yj [.box 6 0,.box 15 0]),.arr 9984,.dat yi,.dat yi]) [Zo,Zx,Zt,(6,.cells Zi),(15,.cells Zi),(9984,.arr 3 yi),(25,.arr 3 yi),(1920,.arr 3 yi),Zbi]) [(10,yq599)] yq15 (λk v=>(((),(),k.1,(),((),()),(),(),((),(),()),(),k.2.1,v.1,()),(k.2.2.1,k.2.2.2.1,()),((),(),(),()),((),(),(),()),(k.2.2.2.2.1,()),(v.2,()),k.2.2.2.2.2.1,k.2.2.2.2.2.2.1,k.2.2.2.2.2.2.2.1,k.2.2.2.2.2.2.2.2,())) (λt=>(t.1.2.2.1,t.1.2.2.2.2.2.2.2.2.2.1,t.2.1.1,t.2.1.2.1,t.2.2.2.2.1.1,t.2.2.2.2.2.2.1,t.2.2.2.2.2.2.2.1,t.2.2.2.2.2.2.2.2.1,t.2.2.2.2.2.2.2.2.2.1)) (λt=>(t.1.2.2.2.2.2.2.2.2.2.2.1,t.2.2.2.2.2.1.1)) (λk r=>yx 10 yq599 (((),(),k.1,(),((),()),(),(),()),(k.2.2.1,k.2.2.2.1,()),((),(),(),()),((),(),(),()),(k.2.2.2.2.1,()),(r,()),k.2.2.2.2.2.2.1,k.2.2.2.2.2.2.2.1,k.2.2.2.2.2.2.2.2,()))
def waw(k:Int×Y1×Y2)(v:Int×Yba):Tr ((Int×Yba)⊕Yba):=.c _ (wara (k.1,k.1,k.2.1,k.2.2,v.1,v.2.2.1,v.2.2.2) (0,v.2.1)) λa=>.c _ (wix k.2.1 k.2.2 a 2520) λf=>.c _ (wpr (k.1,(length f:Int),k.2.1,k.2.2,v.1,f,a,v.2.2.2) (0,v.2.2.1)) λe=>.c _ (wpt (k.1,k.1,k.2.1,k.2.2,v.1,a,e) (false,0,v.2.2.2)) λb=>.t (!b.1) (.l (.inr (a,e,b.2))) (.c _ (wix k.2.1 k.2.2 a 2520) λh=>.c _ (wjm (k.1,(length k.2.1:Int),k.2.1,k.2.2,v.1,h,a,e,b.2) (0,(-1))) λg=>.l (.inl (g,a,e,b.2)))
def wfz k v:=iter (λv=>(waw k v).ev) v
abbrev yq603:Keep:=yk [] [2] (yj [.box 2 0]) [(2,.cells (yj [.arr 25,.arr 1920,.arr 2112])),(25,.arr 3 yi),(1920,.arr 3 yi),Zbi]
abbrev yq605{a b c d e g h i:Type}(t:(a×b×c×d)×(e×g×h)×i):=(t.1.2.2.1,t.2.1.1,t.2.1.2.1)
def wxv:LD:=yl (waw) yq570 [] yq603 (λk v=>(((),(),k.1,(),((),()),(),()),(k.2.1,k.2.2,()),((),(),(),()),((),(),(),()),(v.1,()),v.2.1,v.2.2.1,v.2.2.2,())) yq605 (λt=>(t.2.2.2.2.1.1,t.2.2.2.2.2.1,t.2.2.2.2.2.2.1,t.2.2.2.2.2.2.2.1)) (λ_ r=>yz yq603 (((),()),((),(),(),()),r.1,r.2.1,r.2.2,()))
def wxw(e:Y1)(a:List Y1):Tr Yba:=.g (((0:Int)<=(length a:Int))&&((length a:Int)<=(length a:Int))&&(((8:Nat):Int)*(length a:Int)<=281474976710656))<|.c _ (wkk ([(-1)]:Y1) (length e:Int)) λh=>.c _ (wkk ([(-1)]:Y1) (length a:Int)) λf=>.c _ (wfz ((length a:Int),e,a) (0,(List.replicate (toNat (length a:Int)) 0),h,f)) λb=>.l (b.1,b.2.1,b.2.2)
def wht a b:=(wxw a b).ev
def wcqr:FP prog:=fnP cx func94 [wcqo,waqw,wcqp,wcqq] (yj [.agg Zb]) [] [] (yq25 wxw) ⟨[.ren 25 1,.ren 1920 3,.ren 2112 4],[.cell 2 124],(yj [.agg (yj [.arr 1,.arr 3,.arr 4])]),[(1,.arr 3 yi),(3,.arr 3 yi),(4,.arr 3 yi)],[],[]⟩ (λr=>((((),(),(),()),()),r.1,r.2.1,r.2.2,())) (zOf [(52,[(0,[5000006])])]) [(2,warb),(4,wxs),(8,wxt),(6,wxu),(12,wpu),(10,wpv),(0,wxv)]
def wbj(k:Int×Int×Ybe×Int)(v:Int×Y1):Tr (Yp⊕Y1):=.t (k.1<v.1) (.g (inR v.1 (length v.2))<|.g ((toNat v.1)<length v.2)<|.g (inR (wrap .i64 (v.1-1)) (length v.2))<|.g ((toNat (wrap .i64 (v.1-1)))<length v.2)<|.c _ (k.2.2.1 ((getD v.2 (toNat v.1) 0),(getD v.2 (toNat (wrap .i64 (v.1-1))) 0),())) λa=>.t (a<0) (.g (inR (wrap .i64 (v.1-1)) (length v.2))<|.g ((toNat (wrap .i64 (v.1-1)))<length v.2)<|.g (inR v.1 (length v.2))<|.g ((toNat v.1)<length v.2)<|.g (inR v.1 (length v.2))<|.g ((toNat v.1)<length v.2)<|.g (inR (wrap .i64 (v.1-1)) (length (set v.2 (toNat v.1) (getD v.2 (toNat (wrap .i64 (v.1-1))) 0))))<|.g ((toNat (wrap .i64 (v.1-1)))<length (set v.2 (toNat v.1) (getD v.2 (toNat (wrap .i64 (v.1-1))) 0)))<|.l (.inl ((wrap .i64 (v.1-1)),(set (set v.2 (toNat v.1) (getD v.2 (toNat (wrap .i64 (v.1-1))) 0)) (toNat (wrap .i64 (v.1-1))) (getD v.2 (toNat v.1) 0))))) (.l (.inr v.2))) (.l (.inr v.2))
def wga k v:=iter (λv=>(wbj k v).ev) v
abbrev yq615:Keep:=yk [] [0,1,2,3,8] (yj [.arr 64,.dat yi,.dat yi,.clo [yi,yi] yi,.dat yi]) [Zu]
def wxx:LD:=yl (wbj) (yk [] [0,1,2,3,8,9] (yj [.arr 64,.dat yi,.dat yi,.clo [yi,yi] yi,.dat yi,.dat yi]) [Zu]) [(2,yq615)] yq15 yq450 yq451 yq452 (λk r=>yx 2 yq615 (((),k.1,k.2.1,k.2.2.1,k.2.2.2,()),r,()))
def wgb(k:Int×Int×Ybe)(v:Int×Y1):Tr (Yp⊕Y1):=.t (v.1<k.2.1) (.c _ (wga (k.1,k.2.1,k.2.2,v.1) (v.1,v.2)) λa=>.l (.inl ((wrap .i64 (v.1+1)),a))) (.l (.inr v.2))
def wpw k v:=iter (λv=>(wgb k v).ev) v
abbrev yq616:Keep:=yk [] [0] (yj [.arr 64]) [Zu]
def wxy:LD:=yl (wgb) yq615 [(0,yq616)] yq15 yq454 yq455 yq456 (λ_ r=>yx 0 yq616 (((),()),r,()))
def waks(a g:Int)(b:Ybe)(f:Y1):Tr Y1:=.c _ (wpw (a,g,b) ((wrap .i64 (a+1)),f)) λe=>.l e
def wxz c e b a:=(waks c e b a).ev
abbrev yq617:RetK:=⟨[],[],.nil,[Zu],[(0,0,64)],[]⟩
def wcqs:FP prog:=fnP cx func241 [] (yj [.arr 64,.dat yi,.dat yi,.clo [yi,yi] yi]) [Zu] [.arg 0] (yq458 waks) yq617 yq459 noZ [(2,wxx),(0,wxy)]
def wiy(k:Int×Ybe×Int)(v:Int×Yp):Tr ((Int×Yp)⊕Yp):=.t (v.2.1<=k.1) (.c _ (wxz v.1 v.2.1 k.2.1 v.2.2) λa=>.l (.inl (v.2.1,(wrap .i64 (v.2.1+k.2.2)),a))) (.l (.inr (v.1,v.2.2)))
def wiz k v:=iter (λv=>(wiy k v).ev) v
abbrev yq618:Keep:=yk [] [0,1,2,6,7,8] (yj [.arr 64,.dat yi,.clo [yi,yi] yi,.dat yi,.dat yi,.dat yi]) [Zu]
abbrev yq619:Keep:=yk [] [0,1,2,6,7] (yj [.arr 64,.dat yi,.clo [yi,yi] yi,.dat yi,.dat yi]) [Zu]
def wya:LD:=yl (wiy) yq618 [(0,yq619)] yq15 (λk v=>(((),k.1,k.2.1,k.2.2,v.1,v.2.1,()),v.2.2,())) yq455 (λt=>(t.1.2.2.2.2.1,t.1.2.2.2.2.2.1,t.2.1)) (λk r=>yx 0 yq619 (((),k.1,k.2.1,k.2.2,r.1,()),r.2,()))
def wpx(k:Int×Ybe×Int×Int×Yp)(_v:Unit):Tr (Unit⊕Unit):=.t (k.2.2.2.2.1<=k.1) (.f) (.l (.inr ()))
def wakt k v:=iter (λv=>(wpx k v).ev) v
abbrev yq622{a b c d e g h:Type}(k:a×b×c×d×e×g)(_v:h):=(((),k.1,k.2.1,k.2.2.1,k.2.2.2.1,k.2.2.2.2.1,()),k.2.2.2.2.2,())
abbrev yq623{a b c d e g h i j:Type}(t:(a×b×c×d×e×g×h)×i×j):=(t.1.2.1,t.1.2.2.1,t.1.2.2.2.1,t.1.2.2.2.2.1,t.1.2.2.2.2.2.1,t.2.1)
abbrev yq153{a:Type}(_t:a):=()
def wyb:LD:=yl (wpx) yq618 [(4,yq619)] yq15 yq622 yq623 yq153 (λk _=>yx 4 yq619 (((),k.1,k.2.1,k.2.2.1,k.2.2.2.1,()),k.2.2.2.2.2,()))
def wja(k:Int×Ybe×Y1)(v:Int):Tr (Int⊕Unit):=.t (v<k.1) (.c _ (wakt (k.1,k.2.1,v,0,(wrap .i64 ((2:Int)*v)),k.2.2) ()) λ_=>.t ((wrap .i64 ((0:Int)+v))<k.1) (.f) (.l (.inl (wrap .i64 (v*(2:Int)))))) (.l (.inr ()))
def wjb k v:=iter (λv=>(wja k v).ev) v
abbrev yq626{a b c d e g:Type}(t:(a×b×c×d)×e×g):=(t.1.2.1,t.1.2.2.1,t.2.1)
def wyc:LD:=yl (wja) (yk [] [0,1,2,6] (yj [.arr 64,.dat yi,.clo [yi,yi] yi,.dat yi]) [Zu]) [(2,yq616)] yq15 (λk v=>(((),k.1,k.2.1,v,()),k.2.2,())) yq626 yq43 (λk _=>yx 2 yq616 (((),()),k.2.2,()))
def waku(a:Int)(b:Ybe)(g:Y1):Tr Y1:=.c _ (wiz (a,b,20) (0,20,g)) λf=>.c _ (wxz f.1 a b f.2) λe=>.c _ (wjb (a,b,e) 20) λ_=>.l e
def warc b c a:=(waku b c a).ev
abbrev yq627{a b c d e g:Type}{z:Type _}(f:b->c->e->z)(x:(a×b×c×d)×e×g):z:=f x.1.2.1 x.1.2.2.1 x.2.1
def wcqt:FP prog:=fnP cx func171 [wcqs] (yj [.arr 64,.dat yi,.clo [yi,yi] yi]) [Zu] [.arg 0] (yq627 waku) yq617 yq459 noZ [(0,wya),(4,wyb),(2,wyc)]
def wakv(e:Ybe)(a:Y1):Tr Y1:=.c _ (warc (length a:Int) e a) λb=>.l b
def wakw b a:=(wakv b a).ev
def ward:FP prog:=fnP cx func95 [wcqt] (yj [.arr 64,.clo [yi,yi] yi]) [Zu] [.arg 0] (yq489 wakv) yq617 yq459
def wakx(e b:Int)(_i a _h:Y1):Tr Int:=.g (inR e (length a))<|.g (inR b (length a))<|.c _ (F_za (getD a (toNat e) 0) (getD a (toNat b) 0)) λf=>.l f
def wyd e b f a c:=(wakx e b f a c).ev
def wcqu:FP prog:=fnP cx func96 [G_za] (yj [.dat yi,.dat yi,.ptr (yj [.dat y1,.dat y1,.dat y1])]) [] [] ((λf x=>f x.1.1 x.1.2.1 x.1.2.2.1.1 x.1.2.2.1.2.1 x.1.2.2.1.2.2.1) wakx) yq578 yq2
def wbk(k:Int×Int×Y2×Int×Yba)(v:Int):Tr (Int⊕(Unit⊕Unit)):=.t (v<k.2.2.2.1) (.g (inR v (length k.2.2.1))<|.g (inR v (length k.2.2.2.2.1))<|.g (inR k.1 (length (getD k.2.2.1 (toNat v) [])))<|.t ((wrap .i64 ((getD (getD k.2.2.1 (toNat v) []) (toNat k.1) 0)*(2520:Int)))<(getD k.2.2.2.2.1 (toNat v) 0)) (.g (inR v (length k.2.2.2.2.1))<|.g (inR k.2.1 (length (getD k.2.2.1 (toNat v) [])))<|.t ((wrap .i64 ((getD (getD k.2.2.1 (toNat v) []) (toNat k.2.1) 0)*(2520:Int)))<(getD k.2.2.2.2.1 (toNat v) 0)) (.l (.inr (.inr ()))) (.l (.inl (wrap .i64 (v+1))))) (.l (.inl (wrap .i64 (v+1))))) (.l (.inr (.inl ())))
def wpy k v:=iter (λv=>(wbk k v).ev) v
def wye:LD:=yl (wbk) (yk [] [2,3,5,12,13,14] (yj [.dat yi,.dat yi,.box 5 0,.dat y2,.dat yi,.dat yi]) [(5,.cells (yj [.dat y1,.dat y1,.dat y1]))]) [(0,yq15)] yq280 (λk v=>((k.1,k.2.1,(),k.2.2.1,k.2.2.2.1,v,()),(k.2.2.2.2.1,k.2.2.2.2.2.1,k.2.2.2.2.2.2,()),())) (λt=>(t.1.1,t.1.2.1,t.1.2.2.2.1,t.1.2.2.2.2.1,t.2.1.1,t.2.1.2.1,t.2.1.2.2.1)) (λt=>t.1.2.2.2.2.2.1) (λ_ r=>.s _ _ r (λ_=>yx 0 yq15 ((),())) (λ_=>yz yq280 ((true,()),())))
def walc(_j:Y1)(a:List Y1)(i b h:Y1)(e g:Int):Tr Bool:=.c _ (wpy (e,g,a,(length a:Int),i,b,h) 0) λf=>.s _ _ f (λ_=>.l false) (λ_=>.l true)
def wald g c f a h b e:=(walc g c f a h b e).ev
def wcqv:FP prog:=fnP cx func100 [] (yj [.agg Zb,.agg (yj [.dat y1,.dat y1,.dat y1]),.dat yi,.dat yi]) [] [] ((λf x=>f x.1.1.1 x.1.1.2.1 x.1.2.1.1 x.1.2.1.2.1 x.1.2.1.2.2.1 x.1.2.2.1 x.1.2.2.2.1) walc) yq283 yq2 noZ [(0,wye)]
def wale(i:Int)(e:Y1)(j:List Y1)(a g b:Y1)(f:Int):Tr Bool:=.c _ (wald e j a g b f i) λh=>.l h
def wyf g c f a h b e:=(wale g c f a h b e).ev
def wcqw:FP prog:=fnP cx func99 [wcqv] (yj [.dat yi,.ptr Zb,.ptr (yj [.dat y1,.dat y1,.dat y1]),.ptr Zi]) [] [] ((λf x=>f x.1.1 x.1.2.1.1 x.1.2.1.2.1 x.1.2.2.1.1 x.1.2.2.1.2.1 x.1.2.2.1.2.2.1 x.1.2.2.2.1.1) wale) (yr [.tmp 5] (yj [.dat .bool])) yq2
def T_zb(b a:Int):Tr Bool:=.c _ (F_zd b) λe=>.t e (.c _ (F_zd a) λf=>.t (!f) (.l true) (.l (b<a))) (.l (b<a))
def F_zb a b:=(T_zb a b).ev
def G_zb:FP prog:=fnP cx func249 [G_zd] (yj [.dat yi,.dat yi]) [] [] (yq1 T_zb) yq51 yq2
def wbl(k:Int×Yq)(v:Int×Y1):Tr (Yp⊕Y1):=.t (k.1<v.1) (.g (inR v.1 (length v.2))<|.g ((toNat v.1)<length v.2)<|.g (inR (wrap .i64 (v.1-1)) (length v.2))<|.g ((toNat (wrap .i64 (v.1-1)))<length v.2)<|.c _ (F_zb (getD v.2 (toNat v.1) 0) (getD v.2 (toNat (wrap .i64 (v.1-1))) 0)) λa=>.t a (.g (inR (wrap .i64 (v.1-1)) (length v.2))<|.g ((toNat (wrap .i64 (v.1-1)))<length v.2)<|.g (inR v.1 (length v.2))<|.g ((toNat v.1)<length v.2)<|.g (inR v.1 (length v.2))<|.g ((toNat v.1)<length v.2)<|.g (inR (wrap .i64 (v.1-1)) (length (set v.2 (toNat v.1) (getD v.2 (toNat (wrap .i64 (v.1-1))) 0))))<|.g ((toNat (wrap .i64 (v.1-1)))<length (set v.2 (toNat v.1) (getD v.2 (toNat (wrap .i64 (v.1-1))) 0)))<|.l (.inl ((wrap .i64 (v.1-1)),(set (set v.2 (toNat v.1) (getD v.2 (toNat (wrap .i64 (v.1-1))) 0)) (toNat (wrap .i64 (v.1-1))) (getD v.2 (toNat v.1) 0))))) (.l (.inr v.2))) (.l (.inr v.2))
def wgc k v:=iter (λv=>(wbl k v).ev) v
abbrev yq641:Keep:=yk [] [0,1,2,6] (yj [.arr 64,.dat yi,.dat yi,.dat yi]) [Zu]
def wyg:LD:=yl (wbl) (yk [] [0,1,2,6,7] (yj [.arr 64,.dat yi,.dat yi,.dat yi,.dat yi]) [Zu]) [(2,yq641)] yq15 yq454 yq455 yq456 (λk r=>yx 2 yq641 (((),k.1,k.2.1,k.2.2,()),r,()))
def wgd(k:Int×Int)(v:Int×Y1):Tr (Yp⊕Y1):=.t (v.1<k.2) (.c _ (wgc (k.1,k.2,v.1) (v.1,v.2)) λa=>.l (.inl ((wrap .i64 (v.1+1)),a))) (.l (.inr v.2))
def wpz k v:=iter (λv=>(wgd k v).ev) v
def wyh:LD:=yl (wgd) yq641 [(0,yq616)] yq15 yq374 yq8 yq89 (λ_ r=>yx 0 yq616 (((),()),r,()))
def walf(a f:Int)(b:Y1):Tr Y1:=.c _ (wpz (a,f) ((wrap .i64 (a+1)),b)) λe=>.l e
def walg b c a:=(walf b c a).ev
def wcqx:FP prog:=fnP cx func243 [G_zb] (yj [.arr 64,.dat yi,.dat yi]) [Zu] [.arg 0] (yq627 walf) yq617 yq459 noZ [(2,wyg),(0,wyh)]
def wjc(k:Int×Int×Int×Bool×Yay)(_v:Unit):Tr (Unit⊕Y1):=.t ((wrap .i64 (k.2.1-k.1))<=(12:Int)) (.c _ (walg k.1 k.2.1 k.2.2.2.2.2) λa=>.l (.inr a)) (.t (k.2.2.1==0) (.f) (.g (!k.2.2.2.1)<|.f))
def wjd k v:=iter (λv=>(wjc k v).ev) v
def wyi:LD:=yl (wjc) (yk [] [0,1,2,3,8,9] (yj [.arr 64,.dat yi,.dat yi,.dat yi,.dat .bool,.dat .bool]) [Zu]) [] yq616 yq622 yq623 yq153 (λ_ r=>yz yq616 (((),()),r,()))
def walh(b g a:Int)(f:Y1):Tr Y1:=.c _ (wjd (b,g,a,true,true,f) ()) λe=>.l e
def ware c e b a:=(walh c e b a).ev
def wcqy:FP prog:=fnP cx func174 [wcqx] (yj [.arr 64,.dat yi,.dat yi,.dat yi]) [Zu] [.arg 0] (yq458 walh) yq617 yq459 noZ [(0,wyi)]
def wali(a:Y1):Tr Y1:=.c _ (wwf (wrap .u64 (length a:Int))) λb=>.c _ (ware 0 (length a:Int) b a) λe=>.l e
def walj a:=(wali a).ev
def wcqz:FP prog:=fnP cx func101 [waig,wcqy] (yj [.arr 64]) [Zu] [.arg 0] ((λf x=>f x.2.1) wali) yq617 yq459
def wda(k:Int×Y1×Y2×Yba)(v:Int×Y1):Tr (Yp⊕Y1):=.t (v.1<k.1) (.g (inR v.1 (length k.2.2.2.1))<|.g ((toNat v.1)<length k.2.2.2.1)<|.t ((0:Int)<=(getD k.2.2.2.1 (toNat v.1) 0)) (.g ((length v.2+length ([v.1]:Y1))*8<=140737488355328)<|.l (.inl ((wrap .i64 (v.1+1)),(v.2++([v.1]:Y1))))) (.l (.inl ((wrap .i64 (v.1+1)),v.2)))) (.l (.inr v.2))
def wje k v:=iter (λv=>(wda k v).ev) v
abbrev yq610:Keep:=yk [] [1,4,5] (yj [.box 1 0,.box 4 0,.arr 23]) [Zo,(4,.cells (yj [.arr 1409,.arr 1411,.arr 1412])),(23,.arr 3 yi),(1409,.arr 3 yi),(1411,.arr 3 yi),(1412,.arr 3 yi)]
abbrev yq613{a b c d e g h i j l m:Type}(t:(a×b×c×d×e×g×h)×i×j×l×m):=(t.1.2.2.2.2.2.1,t.2.2.2.1)
def wyj:LD:=yl (wda) (yk [] [1,4,5,25,26,27] (yj [.box 1 0,.box 4 0,.arr 23,.arr 1411,.dat yi,.dat yi]) [Zo,(4,.cells (yj [.arr 1409,.arr 1411,.arr 1412])),(23,.arr 3 yi),(1411,.arr 3 yi),(1409,.arr 3 yi),(1412,.arr 3 yi)]) [(0,yq610)] yq15 (λk v=>(((),(),(),(),k.1,v.1,()),(k.2.1,k.2.2.1,()),((),(),(),()),v.2,k.2.2.2.1,k.2.2.2.2.1,k.2.2.2.2.2,())) (λt=>(t.1.2.2.2.2.1,t.2.1.1,t.2.1.2.1,t.2.2.2.2.1,t.2.2.2.2.2.1,t.2.2.2.2.2.2.1)) yq613 (λk r=>yx 0 yq610 (((),(),(),()),(k.2.1,k.2.2.1,()),((),(),(),()),r,k.2.2.2.2.1,k.2.2.2.1,k.2.2.2.2.2,()))
def wkl(k:Int×Y1×Y2×Y1×Yba)(v:Int×Y1):Tr (Yp⊕Y1):=.t (v.1<k.1) (.g (inR v.1 (length k.2.2.2.1))<|.g ((toNat v.1)<length k.2.2.2.1)<|.c _ (wuv v.2 (λe=>Option.bind (wyf e.1 k.2.1 k.2.2.1 k.2.2.2.2.1 k.2.2.2.2.2.1 k.2.2.2.2.2.2 (getD k.2.2.2.1 (toNat v.1) 0)) λa=>some a)) λb=>.t (!b) (.g ((length v.2+length ([(getD k.2.2.2.1 (toNat v.1) 0)]:Y1))*8<=140737488355328)<|.l (.inl ((wrap .i64 (v.1+1)),(v.2++([(getD k.2.2.2.1 (toNat v.1) 0)]:Y1))))) (.l (.inl ((wrap .i64 (v.1+1)),v.2)))) (.l (.inr v.2))
def warf k v:=iter (λv=>(wkl k v).ev) v
abbrev yq637:Keep:=yk [] [8] (yj [.arr 42]) [(42,.arr 3 yi)]
def warg:LD:=yl (wkl) (yk [] [1,4,8,43,44,45] (yj [.box 1 0,.box 4 0,.arr 42,.arr 23,.dat yi,.dat yi]) [Zo,(4,.cells (yj [.arr 1409,.arr 1411,.arr 1412])),(42,.arr 3 yi),(23,.arr 3 yi),(1409,.arr 3 yi),(1411,.arr 3 yi),(1412,.arr 3 yi)]) [(2,yq637)] yq15 (λk v=>(((),(),(),(),k.1,v.1,()),(k.2.1,k.2.2.1,()),((),(),(),()),v.2,k.2.2.2.1,k.2.2.2.2.1,k.2.2.2.2.2.1,k.2.2.2.2.2.2,())) (λt=>(t.1.2.2.2.2.1,t.2.1.1,t.2.1.2.1,t.2.2.2.2.1,t.2.2.2.2.2.1,t.2.2.2.2.2.2.1,t.2.2.2.2.2.2.2.1)) yq613 (λ_ r=>yx 2 yq637 (((),()),r,()))
def wyk(e:Y1)(b:List Y1):Tr Yay:=.c _ (wbm e b) λn=>.t (!n) (.l (false,[])) (.t ((length b:Int)==(0:Int)) (.c _ (wakm e b) λm=>.l (true,([m]:Y1))) (.c _ (wht e b) λa=>.c _ (wje ((length a.2.1:Int),e,b,a.2.1,a.1,a.2.2) (0,[])) λj=>.c _ (wakw (λg=>Option.bind (wyd g.1 g.2.1 a.1 a.2.1 a.2.2) λi=>some i) j) λf=>.c _ (warf ((length f:Int),e,b,f,a.1,a.2.1,a.2.2) (0,[])) λh=>.c _ (walj h) λo=>.l (true,o)))
def wjf a b:=(wyk a b).ev
def wcra:FP prog:=fnP cx func45 [wgs,wcqm,wcqr,ward,wuw,wcqz,wuw,wcqw,ward,wcqu] (yj [.agg Zb]) [] [] (yq25 wyk) ⟨[.own 2 0 3 yi,.ren 20 0,.ren 42 0],[.tmp 2,.tmp 3],Zah,[Zaa],[],[]⟩ yq74 noZ [(0,wyj),(2,warg)]
def walm(b:Y1)(a:List Y1)(e:Y1):Tr (Bool×Bool):=.c _ (whp b a e) λg=>.t (!g) (.l (false,false)) (.c _ (F_zy b a e) λf=>.l ((!f.1),true))
def wyl a b c:=(walm a b c).ev
def wcrb:FP prog:=fnP cx func42 [wjy,G_zy] (yj [.agg Zb,.dat y1]) [] [] (yq9 walm) yq299 yq173
def wge(k:Int×Int×Y2×Int)(v:Int×Int):Tr (Yq⊕Int):=.t (v.2<k.2.2.2) (.g (inR v.2 (length k.2.2.1))<|.g (inR k.1 (length (getD k.2.2.1 (toNat v.2) [])))<|.g (inR k.2.1 (length (getD k.2.2.1 (toNat v.2) [])))<|.t ((getD (getD k.2.2.1 (toNat v.2) []) (toNat k.1) 0)<(getD (getD k.2.2.1 (toNat v.2) []) (toNat k.2.1) 0)) (.l (.inl ((wrap .i64 (v.1+1)),(wrap .i64 (v.2+1))))) (.l (.inl (v.1,(wrap .i64 (v.2+1)))))) (.l (.inr v.1))
def wqa k v:=iter (λv=>(wge k v).ev) v
def wym:LD:=yl (wge) (yh [1,2,7,11,12,13] (yj [.dat yi,.dat yi,.dat yi,.dat y2,.dat yi,.dat yi])) [(0,yq122)] yq15 (λk v=>((k.1,k.2.1,v.1,k.2.2.1,k.2.2.2,v.2,()),())) yq533 yq413 (λ_ r=>yx 0 yq122 ((r,()),()))
def waln(_g:Y1)(a:List Y1)(f b:Int):Tr Int:=.c _ (wqa (f,b,a,(length a:Int)) (0,0)) λe=>.l e
def wyn a c e b:=(waln a c e b).ev
def wcrc:FP prog:=fnP cx func276 [] (yj [.agg Zb,.dat yi,.dat yi]) [] [] (yq127 waln) yq126 yq2 noZ [(0,wym)]
def wgf(k:Int×Int×Int×Int×Yar)(v:Bool×Int):Tr ((Bool×Int)⊕Bool):=.t (v.2<k.2.2.2.1) (.t v.1 (.l (.inl (true,(wrap .i64 (v.2+1))))) (.c _ (wyn k.2.2.2.2.1 k.2.2.2.2.2.1 v.2 k.1) λa=>.c _ (wyn k.2.2.2.2.1 k.2.2.2.2.2.1 k.1 v.2) λb=>.l (.inl ((b<a),(wrap .i64 (v.2+1)))))) (.l (.inr v.1))
def wqb k v:=iter (λv=>(wgf k v).ev) v
abbrev yq648:Keep:=yk [] [1,4,5,6,14,15] (yj [.box 1 0,.arr 11,.dat yi,.dat .bool,.dat yi,.dat yi]) [Zo,(11,.arr 3 yi)]
def wyo:LD:=yl (wgf) (yk [] [1,4,5,6,14,15,20,21] (yj [.box 1 0,.arr 11,.dat yi,.dat .bool,.dat yi,.dat yi,.dat yi,.dat yi]) [Zo,(11,.arr 3 yi)]) [(2,yq648)] yq15 (λk v=>(((),(),k.1,v.1,k.2.1,k.2.2.1,k.2.2.2.1,v.2,()),(k.2.2.2.2.1,k.2.2.2.2.2.1,()),k.2.2.2.2.2.2,())) (λt=>(t.1.2.2.1,t.1.2.2.2.2.1,t.1.2.2.2.2.2.1,t.1.2.2.2.2.2.2.1,t.2.1.1,t.2.1.2.1,t.2.2.1)) (λt=>(t.1.2.2.2.1,t.1.2.2.2.2.2.2.2.1)) (λk r=>yx 2 yq648 (((),(),k.1,r,k.2.1,k.2.2.1,()),(k.2.2.2.2.1,k.2.2.2.2.2.1,()),k.2.2.2.2.2.2,()))
def wgg(k:Int×Y1×Y2)(v:Int×Y1):Tr (Yp⊕Y1):=.t (v.1<k.1) (.c _ (wqb (v.1,k.1,v.1,(length k.2.1:Int),k.2.1,k.2.2,v.2) (false,0)) λa=>.t (!a) (.g ((length v.2+length ([v.1]:Y1))*8<=140737488355328)<|.l (.inl ((wrap .i64 (v.1+1)),(v.2++([v.1]:Y1))))) (.l (.inl ((wrap .i64 (v.1+1)),v.2)))) (.l (.inr v.2))
def wqc k v:=iter (λv=>(wgg k v).ev) v
abbrev yq653:Keep:=yk [] [4] (yj [.arr 11]) [(11,.arr 3 yi)]
def wyp:LD:=yl (wgg) (yk [] [1,4,14,15] (yj [.box 1 0,.arr 11,.dat yi,.dat yi]) [Zo,(11,.arr 3 yi)]) [(0,yq653)] yq15 (λk v=>(((),(),k.1,v.1,()),(k.2.1,k.2.2,()),v.2,())) yq605 yq204 (λ_ r=>yx 0 yq653 (((),()),r,()))
def walo(a:Y1)(b:List Y1):Tr Yay:=.c _ (wbm a b) λe=>.t (!e) (.l (false,[])) (.c _ (wqc ((length a:Int),a,b) (0,[])) λf=>.l (true,f))
def wyq a b:=(walo a b).ev
def wcrd:FP prog:=fnP cx func206 [wgs,wcrc] (yj [.agg Zb]) [] [] (yq25 walo) ⟨[.own 2 0 3 yi,.ren 11 0],[.tmp 2,.tmp 3],Zah,[Zaa],[],[]⟩ yq74 noZ [(2,wyo),(0,wyp)]
def T_zj(b:Y1)(a:List Y1)(f:Y1)(i:Int)(e:List UInt8)(h:Y1):Tr Yaq:=.t ((length h:Int)==(1:Int)) (.t (e==([109,101,100,105,97,110]:List UInt8)) (.g (inR 0 (length h))<|.c _ (wwz b a (getD h (toNat 0) 0)) λq=>.c _ (F_zl q.2 q.1) λp=>.l (p.1,p.2)) (.t (e==([99,101,110,116,114,101,115]:List UInt8)) (.g (inR 0 (length h))<|.c _ (F_zp b a (getD h (toNat 0) 0)) λam=>.c _ (F_zl am.2 am.1) λaf=>.l (af.1,af.2)) (.t (e==([102,97,114]:List UInt8)) (.g (inR 0 (length h))<|.c _ (wajw b a (getD h (toNat 0) 0)) λbk=>.c _ (F_zl bk.1 bk.2) λbb=>.l (bb.1,bb.2)) (.t ((0:Int)<(length h:Int)) (.l ([],false)) (.t (e==([116,111,116,97,108]:List UInt8)) (.c _ (F_zi b a f i) λm=>.c _ (F_zk m.1 m.2) λbj=>.l (bj.1,bj.2)) (.t (e==([103,97,112]:List UInt8)) (.c _ (F_zh b a f i) λad=>.c _ (F_zk ad.1 ad.2) λaa=>.l (aa.1,aa.2)) (.t (e==([115,101,114,118,105,99,101]:List UInt8)) (.c _ (wxj b a f) λw=>.c _ (F_zk w.1 w.2) λbc=>.l (bc.1,bc.2)) (.t (e==([114,101,97,99,104]:List UInt8)) (.c _ (wxk b a f) λr=>.c _ (F_zk r.1 r.2) λn=>.l (n.1,n.2)) (.t (e==([115,101,114,118,101,100]:List UInt8)) (.c _ (wxl b a f) λy=>.c _ (F_zl y.2 y.1) λz=>.l (z.1,z.2)) (.t (e==([109,101,116,114,105,99]:List UInt8)) (.c _ (wpm b a) λap=>.c _ (wpn ap.1 ap.2) λbd=>.l (bd.1,bd.2)) (.t (e==([102,105,101,108,100]:List UInt8)) (.c _ (F_zw b a) λae=>.l (ae.1,ae.2)) (.t (e==([112,114,105,99,101,115]:List UInt8)) (.c _ (F_zg b a) λau=>.c _ (F_zl au.2 au.1) λac=>.l (ac.1,ac.2)) (.t (e==([103,114,111,119,116,104]:List UInt8)) (.c _ (wjf b a) λu=>.c _ (F_zl u.2 u.1) λaj=>.l (aj.1,aj.2)) (.t (e==([108,111,99,97,108]:List UInt8)) (.c _ (wyl b a f) λah=>.c _ (wpn ah.1 ah.2) λo=>.l (o.1,o.2)) (.t (e==([117,110,98,101,97,116,101,110]:List UInt8)) (.c _ (wyq b a) λan=>.c _ (F_zl an.2 an.1) λbf=>.l (bf.1,bf.2)) (.l ([],false))))))))))))))))) (.t ((0:Int)<(length h:Int)) (.l ([],false)) (.t (e==([116,111,116,97,108]:List UInt8)) (.c _ (F_zi b a f i) λaw=>.c _ (F_zk aw.1 aw.2) λak=>.l (ak.1,ak.2)) (.t (e==([103,97,112]:List UInt8)) (.c _ (F_zh b a f i) λay=>.c _ (F_zk ay.1 ay.2) λs=>.l (s.1,s.2)) (.t (e==([115,101,114,118,105,99,101]:List UInt8)) (.c _ (wxj b a f) λao=>.c _ (F_zk ao.1 ao.2) λaz=>.l (az.1,az.2)) (.t (e==([114,101,97,99,104]:List UInt8)) (.c _ (wxk b a f) λai=>.c _ (F_zk ai.1 ai.2) λj=>.l (j.1,j.2)) (.t (e==([115,101,114,118,101,100]:List UInt8)) (.c _ (wxl b a f) λav=>.c _ (F_zl av.2 av.1) λbe=>.l (be.1,be.2)) (.t (e==([109,101,116,114,105,99]:List UInt8)) (.c _ (wpm b a) λbi=>.c _ (wpn bi.1 bi.2) λag=>.l (ag.1,ag.2)) (.t (e==([102,105,101,108,100]:List UInt8)) (.c _ (F_zw b a) λaq=>.l (aq.1,aq.2)) (.t (e==([112,114,105,99,101,115]:List UInt8)) (.c _ (F_zg b a) λax=>.c _ (F_zl ax.2 ax.1) λbl=>.l (bl.1,bl.2)) (.t (e==([103,114,111,119,116,104]:List UInt8)) (.c _ (wjf b a) λar=>.c _ (F_zl ar.2 ar.1) λbg=>.l (bg.1,bg.2)) (.t (e==([108,111,99,97,108]:List UInt8)) (.c _ (wyl b a f) λal=>.c _ (wpn al.1 al.2) λba=>.l (ba.1,ba.2)) (.t (e==([117,110,98,101,97,116,101,110]:List UInt8)) (.c _ (wyq b a) λab=>.c _ (F_zl ab.2 ab.1) λbh=>.l (bh.1,bh.2)) (.l ([],false))))))))))))))
def F_zj f c e a g b:=(T_zj f c e a g b).ev
def G_zj:FP prog:=fnP cx func130 [wcpx,G_zl,G_zp,wcqd,G_zi,G_zk,G_zh,wcqg,wcqh,wcqi,wcqj,wcqk,G_zw,G_zg,wcra,wcrb,wcrd] (yj [.agg Zd,.dat .str,.dat y1]) [] [] (yq342 T_zj) (yr [.tmp 6,.tmp 7] (yj [.dat .str,.dat .bool])) yq173
def wgw(k:(List (List UInt8))×(List (List UInt8))×Int×Y1×Y2×Y1×Yq)(v:Int×Y1):Tr (Yp⊕(Y1⊕Unit)):=.t (v.1<k.2.2.1) (.g (inR v.1 (length k.2.1))<|.c _ (wahh (getD k.2.1 (toNat v.1) [])) λa=>.t (!a.2) (.l (.inr (.inr ()))) (.g ((length v.2+length ([a.1]:Y1))*8<=140737488355328)<|.l (.inl ((wrap .i64 (v.1+1)),(v.2++([a.1]:Y1)))))) (.l (.inr (.inl v.2)))
def wzp k v:=iter (λv=>(wgw k v).ev) v
abbrev yq378:Keep:=yk [] [2,4,7,8] (yj [.box 2 0,.box 4 0,.dat (.slice .str),.arr 18]) [(2,.cells Zd),Zw,(18,.arr 3 yi)]
abbrev yq379:Keep:=yk [] [4,5,6] (yj [.box 4 0,.dat .str,.dat .bool]) [(4,.cells Zd)]
def walp:LD:=yl (wgw) (yk [] [2,4,7,8,20,21,22] (yj [.box 2 0,.box 4 0,.dat (.slice .str),.arr 18,.dat (.slice .str),.dat yi,.dat yi]) [(2,.cells Zd),Zw,(18,.arr 3 yi)]) [(0,yq378)] yq379 (λk v=>(((),(),k.1,(),k.2.1,k.2.2.1,v.1,()),(k.2.2.2.1,k.2.2.2.2.1,k.2.2.2.2.2.1,k.2.2.2.2.2.2.1,()),((),(),(),k.2.2.2.2.2.2.2,()),v.2,())) (λt=>(t.1.2.2.1,t.1.2.2.2.2.1,t.1.2.2.2.2.2.1,t.2.1.1,t.2.1.2.1,t.2.1.2.2.1,t.2.1.2.2.2.1,t.2.2.1.2.2.2.1)) yq382 (λk r=>.s Y1 Unit r (λa=>yx 0 yq378 (((),(),k.1,(),()),(k.2.2.2.1,k.2.2.2.2.1,k.2.2.2.2.2.1,k.2.2.2.2.2.2.1,()),((),(),(),k.2.2.2.2.2.2.2,()),a,())) (λ_=>yz yq379 (((),[],false,()),(k.2.2.2.1,k.2.2.2.2.1,k.2.2.2.2.2.1,k.2.2.2.2.2.2.1,()),())))
def T_zo(h:Y1)(f:List Y1)(i:Y1)(e:Int)(p:List UInt8):Tr (Y1×Y2×Y1×Int×Yaq):=.c _ (wjv p ([32]:List UInt8)) λa=>.g (((0:Int)<=(1:Int))&&((1:Int)<=(length a:Int)))<|.c _ (wzp (a,(List.drop (toNat 1) (List.take (length a) a)),(length (List.drop (toNat 1) (List.take (length a) a)):Int),h,f,i,e,0) (0,[])) λo=>.s Y1 Unit o (λj=>.g (inR 0 (length a))<|.c _ (wdi (getD a (toNat 0) [])) λn=>.t (0<n) (.c _ (F_zn h f i e n j) λb=>.l (b.1,b.2.1,b.2.2.1,b.2.2.2.1,b.2.2.2.2.1,b.2.2.2.2.2)) (.g (inR 0 (length a))<|.c _ (F_zj h f i e (getD a (toNat 0) []) j) λm=>.l (h,f,i,e,m.1,m.2))) (λ_=>.l (h,f,i,e,[],false))
def F_zo e b f a c:=(T_zo e b f a c).ev
def G_zo:FP prog:=fnP cx func67 [wanq,wavy,wawc,G_zn,G_zj] (yj [.agg Zd,.dat .str]) [] [] (yq10 T_zo) (yr [.cell 4 38,.tmp 5,.tmp 6] (yj [.agg Zd,.dat .str,.dat .bool])) (λr=>(((r.1,r.2.1,r.2.2.1,r.2.2.2.1,()),r.2.2.2.2.1,r.2.2.2.2.2,()),())) (zOf [(3,[(1,[19])]),(13,[(3,[47])])]) [(0,walp)]
def T_zf(e b:List UInt8)(a:Int)(h i:List UInt8):Tr ((List UInt8)×(List UInt8)×Yq):=.c _ (wvh e b a) λm=>.t (!m) (.l (e,b,a,1)) (.c _ (wny h i) λj=>.t (!j) (.l (e,b,a,1)) (.t (a==60) (.l (e,b,a,2)) (.c _ (F_zu a h i) λf=>.g (length b+length f.1<=9223372036854775807)<|.l (e,(b++f.1),(wrap .i64 (a+1)),0))))
def F_zf e b f a c:=(T_zf e b f a c).ev
def G_zf:FP prog:=fnP cx func68 [waoc,wahe,G_zu] (yj [.agg Zac,.agg Zam]) [] [] (yq344 T_zf) yq343 yq345
def T_zv(p:Y1)(o:List Y1)(q:Y1)(n:Int)(g f:List UInt8)(e:Int)(h:List UInt8):Tr (Y1×Y2×Y1×Int×(List UInt8)×(List UInt8)×Int×(List UInt8)):=.c _ (F_zm p o q n) λb=>.c _ (wjw p o q n g f e) λs=>.t (!s) (.l (b.2.1,b.2.2.1,b.2.2.2,b.1,g,f,e,([110,111]:List UInt8))) (.c _ (wny h []) λr=>.t (!r) (.l (b.2.1,b.2.2.1,b.2.2.2,b.1,g,f,e,([98,97,100]:List UInt8))) (.t (e==60) (.l (b.2.1,b.2.2.1,b.2.2.2,b.1,g,f,e,([102,117,108,108]:List UInt8))) (.c _ (F_zo b.2.1 b.2.2.1 b.2.2.2 b.1 h) λa=>.t (!a.2.2.2.2.2) (.c _ (F_zf g f e h ([63]:List UInt8)) λm=>.l (a.1,a.2.1,a.2.2.1,a.2.2.2.1,m.1,m.2.1,m.2.2.1,([63]:List UInt8))) (.t ((200:Int)<(length a.2.2.2.2.1:Int)) (.c _ (F_zf g f e h ([108,111,110,103]:List UInt8)) λi=>.l (a.1,a.2.1,a.2.2.1,a.2.2.2.1,i.1,i.2.1,i.2.2.1,([108,111,110,103]:List UInt8))) (.c _ (F_zf g f e h a.2.2.2.2.1) λj=>.l (a.1,a.2.1,a.2.2.1,a.2.2.2.1,j.1,j.2.1,j.2.2.1,a.2.2.2.2.1))))))
def F_zv h c f a i b e g:=(T_zv h c f a i b e g).ev
def G_zv:FP prog:=fnP cx func25 [G_zm,waoe,wahe,G_zo,G_zf] (yj [.agg Zg,.dat .str]) [] [] (yq12 T_zv) ⟨[.fz 771,.fz 772,.fz 773],[.cell 4 41,.tmp 5],(yj [.agg Zg,.dat .str]),[],[],[]⟩ (λr=>(((r.1,r.2.1,r.2.2.1,r.2.2.2.1,r.2.2.2.2.1,r.2.2.2.2.2.1,r.2.2.2.2.2.2.1,()),r.2.2.2.2.2.2.2,()),())) (zOf [(8,[(3,[35])])])
def wdb(k:Int×(List (List UInt8)))(v:Int×Yaz):Tr ((Int×Yaz)⊕(List (List UInt8))):=.t (v.1<k.1) (.g (inR v.1 (length k.2))<|.g ((toNat v.1)<length k.2)<|.c _ (F_zv v.2.1 v.2.2.1 v.2.2.2.1 v.2.2.2.2.1 v.2.2.2.2.2.1 v.2.2.2.2.2.2.1 v.2.2.2.2.2.2.2.1 (getD k.2 (toNat v.1) [])) λa=>.g ((length v.2.2.2.2.2.2.2.2+length ([a.2.2.2.2.2.2.2]:List (List UInt8)))*16<=140737488355328)<|.l (.inl ((wrap .i64 (v.1+1)),a.1,a.2.1,a.2.2.1,a.2.2.2.1,a.2.2.2.2.1,a.2.2.2.2.2.1,a.2.2.2.2.2.2.1,(v.2.2.2.2.2.2.2.2++([a.2.2.2.2.2.2.2]:List (List UInt8)))))) (.l (.inr v.2.2.2.2.2.2.2.2))
def wgh k v:=iter (λv=>(wdb k v).ev) v
abbrev yq661:Keep:=yk [] [7] (yj [.arr 26]) [(26,.arr 9 .str)]
def wyr:LD:=yl (wdb) (yk [] [2,7,27,28,29] (yj [.box 2 0,.arr 26,.arr 768,.dat yi,.dat yi]) [(2,.cells Zg),(26,.arr 9 .str),(768,.arr 9 .str)]) [(0,yq661)] yq15 (λk v=>(((),(),(),k.1,v.1,()),(v.2.1,v.2.2.1,v.2.2.2.1,v.2.2.2.2.1,v.2.2.2.2.2.1,v.2.2.2.2.2.2.1,v.2.2.2.2.2.2.2.1,()),v.2.2.2.2.2.2.2.2,k.2,())) (λt=>(t.1.2.2.2.1,t.2.2.2.1)) (λt=>(t.1.2.2.2.2.1,t.2.1.1,t.2.1.2.1,t.2.1.2.2.1,t.2.1.2.2.2.1,t.2.1.2.2.2.2.1,t.2.1.2.2.2.2.2.1,t.2.1.2.2.2.2.2.2.1,t.2.2.1)) (λ_ r=>yx 0 yq661 (((),()),r,()))
def walq(j:Y1)(f:List Y1)(m:Y1)(b:Int)(h e:List UInt8)(g:Int)(i:List UInt8):Tr (Bool×(List (List UInt8))):=.c _ (wjv i ([10]:List UInt8)) λa=>.c _ (wjw j f m b h e g) λo=>.t (!o) (.l (false,[])) (.t ((4000:Int)<(length i:Int)) (.l (false,[])) (.t ((30:Int)<(length a:Int)) (.l (false,[])) (.c _ (wgh ((length a:Int),a) (0,j,f,m,b,h,e,g,[])) λn=>.l (true,n))))
def wys h c f a i b e g:=(walq h c f a i b e g).ev
def wcre:FP prog:=fnP cx func12 [wanq,waoe,G_zv] (yj [.agg Zg,.dat .str]) [] [] (yq12 walq) ⟨[.own 4 0 9 .str,.ren 26 0],[.tmp 4,.tmp 5],Zah,[(0,.arr 9 .str)],[],[]⟩ yq74 noZ [(0,wyr)]
def wdc(k:(List (List UInt8))×(List (List UInt8)))(v:Int):Tr (Int⊕(Unit⊕Unit)):=.t (v<(length k.1:Int)) (.g (inR v (length k.1))<|.g (inR v (length k.2))<|.t (!((getD k.1 (toNat v) [])==(getD k.2 (toNat v) []))) (.l (.inr (.inr ()))) (.l (.inl (wrap .i64 (v+1))))) (.l (.inr (.inl ())))
def wgi k v:=iter (λv=>(wdc k v).ev) v
def wyt:LD:=yl (wdc) (yh [0,1,5] (yj [.dat (.slice .str),.dat (.slice .str),.dat yi])) [(0,yq15)] yq60 yq61 yq55 yq49 (λ_ r=>.s _ _ r (λ_=>yx 0 yq15 ((),())) (λ_=>yz yq60 ((false,()),())))
def walr(a b:List (List UInt8)):Tr Bool:=.t ((length a:Int) != (length b:Int)) (.l false) (.c _ (wgi (a,b) 0) λe=>.s _ _ e (λ_=>.l true) (λ_=>.l false))
def wqd a b:=(walr a b).ev
def wcrf:FP prog:=fnP cx func13 [] (yj [.dat (.slice .str),.dat (.slice .str)]) [] [] (yq1 walr) yq51 yq2 noZ [(0,wyt)]
def wgj(k:Y1×Y1)(v:Int):Tr (Int⊕(Unit⊕Unit)):=.t (v<(length k.1:Int)) (.g (inR v (length k.1))<|.g (inR v (length k.2))<|.t ((getD k.1 (toNat v) 0) != (getD k.2 (toNat v) 0)) (.l (.inr (.inr ()))) (.l (.inl (wrap .i64 (v+1))))) (.l (.inr (.inl ())))
def wqf k v:=iter (λv=>(wgj k v).ev) v
def wyu:LD:=yl (wgj) yq145 [(0,yq15)] yq60 yq61 yq55 yq49 (λ_ r=>.s _ _ r (λ_=>yx 0 yq15 ((),())) (λ_=>yz yq60 ((false,()),())))
def wals(a b:Y1):Tr Bool:=.t ((length a:Int) != (length b:Int)) (.l false) (.c _ (wqf (a,b) 0) λe=>.s _ _ e (λ_=>.l true) (λ_=>.l false))
def wqg a b:=(wals a b).ev
def walt:FP prog:=fnP cx func109 [] (yj [.dat y1,.dat y1]) [] [] (yq1 wals) yq51 yq2 noZ [(0,wyu)]
def wgk(k:Y2×Y2)(v:Int):Tr (Int⊕(Unit⊕Unit)):=.t (v<(length k.1:Int)) (.g (inR v (length k.1))<|.g (inR v (length k.2))<|.c _ (wqg (getD k.1 (toNat v) []) (getD k.2 (toNat v) [])) λa=>.t (!a) (.l (.inr (.inr ()))) (.l (.inl (wrap .i64 (v+1))))) (.l (.inr (.inl ())))
def wqh k v:=iter (λv=>(wgk k v).ev) v
def wyv:LD:=yl (wgk) (yh [0,1,5] (yj [.dat y2,.dat y2,.dat yi])) [(0,yq15)] yq60 yq61 yq55 yq49 (λ_ r=>.s _ _ r (λ_=>yx 0 yq15 ((),())) (λ_=>yz yq60 ((false,()),())))
def walu(a b:List Y1):Tr Bool:=.t ((length a:Int) != (length b:Int)) (.l false) (.c _ (wqh (a,b) 0) λe=>.s _ _ e (λ_=>.l true) (λ_=>.l false))
def walv a b:=(walu a b).ev
def wcrg:FP prog:=fnP cx func182 [walt] (yj [.dat y2,.dat y2]) [] [] (yq1 walu) yq51 yq2 noZ [(0,wyv)]
def walw(g:Y1)(e:List Y1)(h:Y1)(a:List Y1):Tr Bool:=.c _ (wqg g h) λf=>.t (!f) (.l false) (.c _ (walv e a) λb=>.t (!b) (.l false) (.l true))
def walx a c e b:=(walw a c e b).ev
def wcrh:FP prog:=fnP cx func108 [walt,wcrg] (yj [.agg Zb,.agg Zb]) [] [] ((λf x=>f x.1.1.1 x.1.1.2.1 x.1.2.1.1 x.1.2.1.2.1) walw) yq51 yq2
def waly(m:Y1)(f:List Y1)(n:Y1)(a:Int)(h:Y1)(b:List Y1)(g:Y1)(j:Int):Tr Bool:=.c _ (walx m f h b) λi=>.t (!i) (.l false) (.c _ (wqg n g) λe=>.t (!e) (.l false) (.t (a !=j) (.l false) (.l true)))
def walz h c f a i b e g:=(waly h c f a i b e g).ev
def wcri:FP prog:=fnP cx func52 [wcrh,walt] (yj [.agg Zd,.agg Zd]) [] [] ((λf x=>f x.1.1.1 x.1.1.2.1 x.1.1.2.2.1 x.1.1.2.2.2.1 x.1.2.1.1 x.1.2.1.2.1 x.1.2.1.2.2.1 x.1.2.1.2.2.2.1) waly) yq51 yq2
def wama(f c:List UInt8)(e:Int)(a g:List UInt8)(b:Int):Tr Bool:=.t (!(f==a)) (.l false) (.t (!(c==g)) (.l false) (.t (e !=b) (.l false) (.l true)))
def warh f c e a g b:=(wama f c e a g b).ev
def wcrj:FP prog:=fnP cx func56 [] (yj [.agg Zac,.agg Zac]) [] [] ((λf x=>f x.1.1.1 x.1.1.2.1 x.1.1.2.2.1 x.1.2.1.1 x.1.2.1.2.1 x.1.2.1.2.2.1) wama) yq51 yq2
def wamb(s:Y1)(i:List Y1)(u:Y1)(b:Int)(n f:List UInt8)(m:Int)(q:Y1)(r:List Y1)(j:Y1)(e:Int)(p a:List UInt8)(g:Int):Tr Bool:=.c _ (walz s i u b q r j e) λo=>.t (!o) (.l false) (.c _ (warh n f m p a g) λh=>.t (!h) (.l false) (.l true))
def wamc o g p b j e i m n h c l a f:=(wamb o g p b j e i m n h c l a f).ev
def wcrk:FP prog:=fnP cx func14 [wcri,wcrj] (yj [.agg Zg,.agg Zg]) [] [] ((λf x=>f x.1.1.1 x.1.1.2.1 x.1.1.2.2.1 x.1.1.2.2.2.1 x.1.1.2.2.2.2.1 x.1.1.2.2.2.2.2.1 x.1.1.2.2.2.2.2.2.1 x.1.2.1.1 x.1.2.1.2.1 x.1.2.1.2.2.1 x.1.2.1.2.2.2.1 x.1.2.1.2.2.2.2.1 x.1.2.1.2.2.2.2.2.1 x.1.2.1.2.2.2.2.2.2.1) wamb) yq51 yq2
def wgl(_k:Unit)(v:Int×Yp):Tr ((Int×Yp)⊕Yp):=.t (v.2.1<(length v.2.2:Int)) (.g (inR v.2.1 (length v.2.2))<|.g ((toNat v.2.1)<length v.2.2)<|.l (.inl ((wrap .i64 (v.1+1)),(wrap .i64 (v.2.1+1)),(set v.2.2 (toNat v.2.1) v.1)))) (.l (.inr (v.1,v.2.2)))
def wqi k v:=iter (λv=>(wgl k v).ev) v
abbrev yq673:Keep:=yk [] [0,1] (yj [.arr 64,.dat yi]) [Zu]
abbrev yq674{a b c d:Type}(_k:a)(v:b×c×d):=(((),v.1,v.2.1,()),v.2.2,())
def wyw:LD:=yl (wgl) (yk [] [0,1,5] (yj [.arr 64,.dat yi,.dat yi]) [Zu]) [(0,yq673)] yq15 yq674 yq153 yq626 (λ_ r=>yx 0 yq673 (((),r.1,()),r.2,()))
def wamd(e:Int)(b:Y1):Tr Yp:=.c _ (wqi () (e,0,b)) λa=>.l (a.1,a.2)
def wqj b a:=(wamd b a).ev
abbrev yq676{a b:Type}(r:a×b):=((r.1,()),r.2,())
def wame:FP prog:=fnP cx func113 [] (yj [.arr 64,.dat yi]) [Zu] [.arg 0] (yq489 wamd) ⟨[],[.tmp 4],Zi,[Zu],[(0,0,64)],[]⟩ yq676 noZ [(0,wyw)]
def wgm(_k:Unit)(v:Int×Int×Y2):Tr ((Int×Int×Y2)⊕(Int×Y2)):=.t (v.2.1<(length v.2.2:Int)) (.g (inR v.2.1 (length v.2.2))<|.g ((toNat v.2.1)<length v.2.2)<|.c _ (wqj v.1 (getD v.2.2 (toNat v.2.1) [])) λa=>.l (.inl (a.1,(wrap .i64 (v.2.1+1)),(set v.2.2 (toNat v.2.1) a.2)))) (.l (.inr (v.1,v.2.2)))
def wqk k v:=iter (λv=>(wgm k v).ev) v
abbrev yq678:Keep:=yk [] [0,1] (yj [.arr 64,.dat yi]) [(64,.rows 22 3 yi)]
def wyx:LD:=yl (wgm) (yk [.fz 500015] [0,1,5] (yj [.arr 64,.dat yi,.dat yi]) [(64,.rows 22 3 yi)]) [(0,yq678)] yq15 yq674 yq153 yq626 (λ_ r=>yx 0 yq678 (((),r.1,()),r.2,()))
def wamf(e:Int)(b:List Y1):Tr (Int×Y2):=.c _ (wqk () (e,0,b)) λa=>.l (a.1,a.2)
def wamg b a:=(wamf b a).ev
def wcrl:FP prog:=fnP cx func188 [wame] (yj [.arr 64,.dat yi]) [(64,.rows 22 3 yi)] [.arg 0] (yq489 wamf) ⟨[],[.tmp 4],Zi,[(64,.rows 22 3 yi)],[(0,0,64)],[]⟩ yq676 (zOf [(4,[(5,[2000015])])]) [(0,wyx)]
def wamh(g:Int)(f:Y1)(e:List Y1):Tr Yz:=.c _ (wqj g f) λb=>.c _ (wamg b.1 e) λa=>.l (a.1,b.2,a.2)
def wami c a b:=(wamh c a b).ev
def wcrm:FP prog:=fnP cx func112 [wame,wcrl] (yj [.agg (yj [.arr 64,.arr 65]),.dat yi]) [Zu,(65,.rows 22 3 yi)] [.comp 0 0,.comp 0 1] ((λf x=>f x.1.2.1 x.2.1 x.2.2.1) wamh) ⟨[],[.tmp 4],Zi,[Zu,(65,.rows 22 3 yi)],[(0,1,64),(0,2,65)],[]⟩ (λr=>((r.1,()),r.2.1,r.2.2,()))
def wamj(_i h:Int)(g:Y1)(e:List Y1)(f:Y1):Tr (Int×Yar):=.c _ (wami h g e) λa=>.c _ (wqj a.1 f) λb=>.l (b.1,a.2.1,a.2.2,b.2)
def wamk a c e b f:=(wamj a c e b f).ev
abbrev yq683:RetK:=⟨[],[.tmp 4],Zi,[Zu,(65,.rows 22 3 yi),(66,.arr 3 yi)],[(0,1,64),(0,2,65),(0,3,66)],[]⟩
abbrev yq685{a b c d:Type}(r:a×b×c×d):=((r.1,()),r.2.1,r.2.2.1,r.2.2.2,())
def wcrn:FP prog:=fnP cx func57 [wcrm,wame] (yj [.agg (yj [.arr 64,.arr 65,.arr 66,.dat yi]),.dat yi]) [Zu,(65,.rows 22 3 yi),(66,.arr 3 yi)] [.comp 0 0,.comp 0 1,.comp 0 2] ((λf x=>f x.1.1.2.2.2.1 x.1.2.1 x.2.1 x.2.2.1 x.2.2.2.1) wamj) yq683 yq685
def waml(b:Int)(_i _m:List UInt8)(_j f:Int)(g:Y1)(e:List Y1)(h:Y1):Tr (Int×Yar):=.c _ (wamk b f g e h) λa=>.l (a.1,a.2.1,a.2.2.1,a.2.2.2)
def wari a f b e g h c i:=(waml a f b e g h c i).ev
def wcro:FP prog:=fnP cx func15 [wcrn] (yj [.agg (yj [.arr 64,.arr 65,.arr 66,.dat yi,.dat .str,.dat .str,.dat yi]),.dat yi]) [Zu,(65,.rows 22 3 yi),(66,.arr 3 yi)] [.comp 0 0,.comp 0 1,.comp 0 2] ((λf x=>f x.1.1.2.2.2.1 x.1.1.2.2.2.2.1 x.1.1.2.2.2.2.2.1 x.1.1.2.2.2.2.2.2.1 x.1.2.1 x.2.1 x.2.2.1 x.2.2.2.1) waml) yq683 yq685
def waz(_k:Unit)(v:Int×(List UInt8)):Tr ((Int×(List UInt8))⊕(List UInt8)):=.t (0<v.1) (.g (!decide ((10:Int)=0))<|.g (length (bytesOf ([(wrap .u8 (wrap .i64 ((48:Int)+(Int.tmod v.1 10))))]:Y1))+length v.2<=9223372036854775807)<|.g (!decide ((10:Int)=0))<|.l (.inl ((wrap .i64 (Int.tdiv v.1 10)),((bytesOf ([(wrap .u8 (wrap .i64 ((48:Int)+(Int.tmod v.1 10))))]:Y1))++v.2)))) (.l (.inr v.2))
def wgn k v:=iter (λv=>(waz k v).ev) v
def wyy:LD:=yl (waz) (yh [0,3] (yj [.dat yi,.dat .str])) [(0,yq169)] yq15 (λ_k v=>((v.1,v.2,()),())) yq153 yq55 (λ_ r=>yx 0 yq169 ((r,()),()))
def wamm(a:Int):Tr (List UInt8):=.t (a<=0) (.l ([109,48]:List UInt8)) (.c _ (wgn () (a,[])) λb=>.g (length ([109]:List UInt8)+length b<=9223372036854775807)<|.l (([109]:List UInt8)++b))
def wkm a:=(wamm a).ev
def warj:FP prog:=fnP cx func58 [] Zi [] [] (yq19 wamm) yq66 yq2 noZ [(0,wyy)]
def wdd(_k:Unit)(v:Int×Yai):Tr ((Int×Yai)⊕Yai):=.t (v.2.1<(length v.2.2:Int)) (.c _ (wkm v.1) λa=>.g (inR v.2.1 (length v.2.2))<|.g ((toNat v.2.1)<length v.2.2)<|.l (.inl ((wrap .i64 (v.1+1)),(wrap .i64 (v.2.1+1)),(set v.2.2 (toNat v.2.1) a)))) (.l (.inr (v.1,v.2.2)))
def wgo k v:=iter (λv=>(wdd k v).ev) v
abbrev yq690:Keep:=yk [] [0,1] (yj [.arr 64,.dat yi]) [(64,.arr 9 .str)]
def wyz:LD:=yl (wdd) (yk [] [0,1,5] (yj [.arr 64,.dat yi,.dat yi]) [(64,.arr 9 .str)]) [(0,yq690)] yq15 yq674 yq153 yq626 (λ_ r=>yx 0 yq690 (((),r.1,()),r.2,()))
def wamn(e:Int)(b:List (List UInt8)):Tr Yai:=.c _ (wgo () (e,0,b)) λa=>.l (a.1,a.2)
def wamo b a:=(wamn b a).ev
def wcrp:FP prog:=fnP cx func16 [warj] (yj [.arr 64,.dat yi]) [(64,.arr 9 .str)] [.arg 0] (yq489 wamn) ⟨[],[.tmp 4],Zi,[(64,.arr 9 .str)],[(0,0,64)],[]⟩ yq676 noZ [(0,wyz)]
def wde(k:List (List UInt8))(v:Int×Int):Tr (Yq⊕(Int⊕Unit)):=.t (v.2<(length k:Int)) (.g (inR v.2 (length k))<|.c _ (wkm v.1) λa=>.t (!((getD k (toNat v.2) [])==a)) (.l (.inr (.inr ()))) (.l (.inl ((wrap .i64 (v.1+1)),(wrap .i64 (v.2+1)))))) (.l (.inr (.inl v.1)))
def wgp k v:=iter (λv=>(wde k v).ev) v
def wza:LD:=yl (wde) (yh [0,1,5] (yj [.dat (.slice .str),.dat yi,.dat yi])) [(0,yq4)] yq5 yq6 yq7 yq8 (λ_ r=>.s _ _ r (λa=>yx 0 yq4 ((a,()),())) (λ_=>yz yq5 (((-1),()),())))
def wamp(a:List (List UInt8))(e:Int):Tr Int:=.c _ (wgp a (e,0)) λf=>.s _ _ f (λb=>.l b) (λ_=>.l (-1))
def wzb a b:=(wamp a b).ev
def wcrq:FP prog:=fnP cx func17 [warj] (yj [.dat (.slice .str),.dat yi]) [] [] (yq1 wamp) yq0 yq2 noZ [(0,wza)]
def wamq(m:Y1)(h:List Y1)(q:Y1)(n:Int)(j o:List UInt8)(i:Int)(s:List UInt8):Tr Bool:=.t ((1048576:Int)<(length s:Int)) (.l true) (.c _ (wamr m h q n j o i 1048576) λz=>.t (z<0) (.l true) (.c _ (wkr m h q n j o i) λe=>.c _ (wage e.2.2.2.2.1 e.2.2.2.2.2.1 e.2.2.2.2.2.2 e.1 e.2.1 e.2.2.1 e.2.2.2.1 s) λg=>.c _ (wkr m h q n j o i) λa=>.c _ (wys a.2.2.2.2.1 a.2.2.2.2.2.1 a.2.2.2.2.2.2 a.1 a.2.1 a.2.2.1 a.2.2.2.1 s) λp=>.c _ (wqd p.2 g.2) λad=>.t (!ad) (.l false) (.t (!(p.1==g.1)) (.l false) (.c _ (wkr m h q n j o i) λb=>.c _ (wamc a.2.2.2.2.1 a.2.2.2.2.2.1 a.2.2.2.2.2.2 a.1 a.2.1 a.2.2.1 a.2.2.2.1 b.2.2.2.2.1 b.2.2.2.2.2.1 b.2.2.2.2.2.2 b.1 b.2.1 b.2.2.1 b.2.2.2.1) λae=>.t (!ae) (.l false) (.c _ (wari a.1 a.2.1 a.2.2.1 a.2.2.2.1 1 a.2.2.2.2.1 a.2.2.2.2.2.1 a.2.2.2.2.2.2) λac=>.t (ac.1<0) (.l false) (.c _ (wqd p.2 g.2) λab=>.t (!ab) (.l false) (.t (!(p.1==g.1)) (.l false) (.c _ (wamo 1 p.2) λr=>.c _ (wzb r.2 1) λy=>.t (y<0) (.l false) (.t (y !=r.1) (.l false) (.c _ (wkr m h q n j o i) λf=>.c _ (wys f.2.2.2.2.1 f.2.2.2.2.2.1 f.2.2.2.2.2.2 f.1 f.2.1 f.2.2.1 f.2.2.2.1 s) λu=>.c _ (wqd u.2 g.2) λaa=>.t (!aa) (.l false) (.t (!(u.1==g.1)) (.l false) (.c _ (wzb r.2 1) λw=>.t (w<0) (.l false) (.t (w !=r.1) (.l false) (.l true))))))))))))))
def wark h c f a i b e g:=(wamq h c f a i b e g).ev
def warl:FP prog:=fnP cx func3 [wars,warx,wavb,wcre,wcrf,wcrk,wcro,wcrp,wcrq] (yj [.agg Zg,.dat .str]) [] [] (yq12 wamq) yq51 yq2
end
end Go.Proofs.YteiekijgoifhoaaGreatDoor
