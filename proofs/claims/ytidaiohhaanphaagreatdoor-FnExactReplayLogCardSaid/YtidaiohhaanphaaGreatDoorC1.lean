/- A part of the proof that FnExactReplayLog hands back true, at every argument of the row. -/
import Derived.Test.YtidaiohhaanphaaGreatDoorC4
namespace Go.Proofs.YtidaiohhaanphaaGreatDoor
noncomputable section
open Go.Proofs.Tryz
open List (length getD set)
open Int (toNat)
open IntKind (wrap)
def wcic(b:Yw)(a:(List Nat)×Y2):Tr Yo:=.c _ (wbqf (wrap .u64 (length a.1:Int))) λe=>.c _ (wbdg 1000000 0 (length a.1:Int) e b a) λf=>.l f
def wcod b a:=(wcic b a).ev
abbrev yq491{a b c d e:Type}{z:Type _}(f:b->d->z)(x:(a×b×c)×d×e):z:=f x.1.2.1 x.2.1
def wcid:FP prog:=fnP cx func271 [wccb,wcoc] (yj [.arr 64,.clo [y1,y1] yi]) [Zay] [.arg 0] (yq491 wcic) yq459 yq461
def T_zd(a:Int):Tr Bool:=.l (a !=a)
def F_zd a:=(T_zd a).ev
def G_zd:FP prog:=fnP cx func244 [] Zv [] [] (yq18 T_zd) yq46 yq2
def T_za(a b:Int):Tr Int:=.c _ (F_zd a) λf=>.c _ (F_zd b) λe=>.t f (.t e (.l 0) (.l (-1))) (.t e (.l 1) (.t (a<b) (.l (-1)) (.t (b<a) (.l 1) (.l 0))))
def F_za a b:=(T_za a b).ev
def G_za:FP prog:=fnP cx func177 [G_zd] (yj [.dat yi,.dat yi]) [] [] (yq1 T_za) yq0 yq2
def waya(k:Y1×Y1×Y1×Int)(v:Int):Tr (Int⊕(Unit⊕Int)):=.t (v<k.2.2.2) (.g (inR v (length k.2.2.1))<|.t ((length k.2.1:Int)<=v) (.l (.inr (.inr 1))) (.g (inR v (length k.2.1))<|.c _ (F_za (getD k.2.2.1 (toNat v) 0) (getD k.2.1 (toNat v) 0)) λa=>.t (a != (0:Int)) (.l (.inr (.inr a))) (.l (.inl (wrap .i64 (v+1)))))) (.l (.inr (.inl ())))
def wbje k v:=iter (λv=>(waya k v).ev) v
abbrev yq493:Keep:=yh [0,1] (yj [.dat y1,.dat y1])
def wbqp:LD:=yl (waya) (yh [0,1,9,10,11] (yj [.dat y1,.dat y1,.dat y1,.dat yi,.dat yi])) [(0,yq493)] yq5 yq359 yq360 yq148 (λk r=>.s _ _ r (λ_=>yx 0 yq493 ((k.1,k.2.1,()),())) (λb=>yz yq5 ((b,()),())))
def wccs(a b:Y1):Tr Int:=.c _ (wbje (a,b,a,(length a:Int)) 0) λf=>.s _ _ f (λ_=>.t ((length a:Int)<(length b:Int)) (.l (-1)) (.l 0)) (λe=>.l e)
def wbqq a b:=(wccs a b).ev
def wcie:FP prog:=fnP cx func231 [G_za] (yj [.dat y1,.dat y1]) [] [] (yq1 wccs) yq0 yq2 noZ [(0,wbqp)]
def wbsz(k:Int×Y1×Int)(v:Int):Tr (Int⊕(Unit⊕Int)):=.t (v<k.2.2) (.g (inR v (length k.2.1))<|.t ((getD k.2.1 (toNat v) 0) !=k.1) (.l (.inr (.inr (getD k.2.1 (toNat v) 0)))) (.l (.inl (wrap .i64 (v+1))))) (.l (.inr (.inl ())))
def wcif k v:=iter (λv=>(wbsz k v).ev) v
abbrev yq494:Keep:=yh [2] Zv
def wcct:LD:=yl (wbsz) yq425 [(0,yq69)] yq494 yq37 yq38 yq39 (λk r=>.s _ _ r (λ_=>yx 0 yq69 ((k.1,()),())) (λb=>yz yq494 ((b,()),())))
def T_zc(a:Y1):Tr Int:=.c _ (wcif (0,a,(length a:Int)) 0) λe=>.s _ _ e (λ_=>.l 0) (λb=>.l b)
def F_zc a:=(T_zc a).ev
def G_zc:FP prog:=fnP cx func301 [] Zbo [] [] (yq18 T_zc) yq70 yq2 noZ [(0,wcct)]
def wcig(a b:Y1):Tr Int:=.c _ (F_za (length a:Int) (length b:Int)) λe=>.c _ (wbqq a b) λf=>.c _ (F_zc ([e,f]:Y1)) λg=>.l g
def wcoe a b:=(wcig a b).ev
def wcof:FP prog:=fnP cx func272 [G_za,wcie,G_zc] (yj [.dat y1,.dat y1]) [] [] (yq1 wcig) yq0 yq2
def wbjf(k:Int)(v:Int×Y2):Tr ((Int×Y2)⊕Y2):=.g (0<=k)<|.t (v.1<(wrap .u64 ((1:Int)*2^(min (toNat k) Zk)))) (.c _ (wbah v.1) λa=>.g ((length v.2+1)*24<=140737488355328)<|.l (.inl ((wrap .u64 (v.1+1)),(set (v.2++ [[]]) (length v.2) a)))) (.l (.inr v.2))
def wccu k v:=iter (λv=>(wbjf k v).ev) v
abbrev yq449:Keep:=yk [] [3] (yj [.arr 5]) [(5,.rows 22 3 yi)]
def wbqr:LD:=yl (wbjf) (yk [] [0,3,4] (yj [.dat yi,.arr 5,.dat (.int .u64)]) [(5,.rows 22 3 yi)]) [(0,yq449)] yq14 yq15 yq7 yq16 (λ_ r=>yx 0 yq449 (((),()),r,()))
def wcih(e:Int):Tr Yo:=.c _ (wccu e (1,[])) λb=>.c _ (wcod (λa=>Option.bind (wcoe a.1 a.2.1) λg=>some g) ((List.range (length b)),b)) λf=>.l f
def wbet a:=(wcih a).ev
def wccv:FP prog:=fnP cx func224 [wben,wcid,wcid,wcof] Zv [] [] (yq18 wcih) ⟨[.ren 5 0],[.tmp 2],Zbh,[(0,.perm 22 3 yi)],[],[]⟩ yq19 (zOf [(1,[(0,[1000000])]),(6,[(1,[80000017])])]) [(0,wbqr)]
def wayb(k:((HL [y1]->Option Int))×Int×Yo)(v:(Nat)×Int):Tr ((Nat×Int)⊕Nat):=.t (v.2<k.2.1) (.g (inR v.2 (length k.2.2.1))<|.g (((toNat v.2)<length k.2.2.1)&&((getD k.2.2.1 (toNat v.2) 0)<length k.2.2.2))<|.c _ (k.1 ((getD k.2.2.2 (getD k.2.2.1 (toNat v.2) 0) []),())) λb=>.c _ (k.1 ((getD k.2.2.2 v.1 []),())) λa=>.t (b<a) (.l (.inl ((getD k.2.2.1 (toNat v.2) 0),(wrap .i64 (v.2+1))))) (.l (.inl (v.1,(wrap .i64 (v.2+1)))))) (.l (.inr v.1))
def wbjg k v:=iter (λv=>(wayb k v).ev) v
abbrev yq497:Keep:=yk [] [0,5] (yj [.arr 64,.row 64]) [Zay]
def wbqs:LD:=yl (wayb) (yk [] [0,1,5,11,12,13] (yj [.arr 64,.clo [y1] yi,.row 64,.arr 64,.dat yi,.dat yi]) [Zay]) [(0,yq497)] yq14 (λk v=>(((),k.1,v.1,(),k.2.1,v.2,()),k.2.2,())) (λt=>(t.1.2.1,t.1.2.2.2.2.1,t.2.1)) yq415 (λk r=>yx 0 yq497 (((),r,()),k.2.2,()))
def wccw(b:(HL [y1]->Option Int))(a:(List Nat)×Y2):Tr Y1:=.g (inR 0 (length a.1))<|.g (((toNat 0)<length a.1)&&((getD a.1 (toNat 0) 0)<length a.2))<|.c _ (wbjg (b,(length a.1:Int),a) ((getD a.1 (toNat 0) 0),0)) λe=>.l (getD a.2 e [])
def wbjh b a:=(wccw b a).ev
def wbeu:FP prog:=fnP cx func160 [] (yj [.arr 64,.clo [y1] yi]) [Zay] [.arg 0] (yq491 wccw) ⟨[.pull 4 800000,.ren 800000 0],[.tmp 4],Zbh,[Zaw],[],[64]⟩ yq19 noZ [(0,wbqs)]
def T_zq(a:Y1)(b:List Y1):Tr Ybk:=.c _ (wavs a b) λe=>.t (!e) (.l (false,[])) (.c _ (wbet (length a:Int)) λg=>.c _ (wbjh (λf=>Option.bind (wbam a b f.1) λh=>some h) g) λi=>.l (true,i))
def F_zq a b:=(T_zq a b).ev
def G_zq:FP prog:=fnP cx func156 [wbbn,wccv,wbeu,wbeu,wbiq] (yj [.agg Zh]) [] [] (yq24 T_zq) ⟨[.own 2 0 3 yi,.ren 832 0],[.tmp 2,.tmp 3],Zbc,[Zaw],[],[]⟩ yq79
def S_zs(k:Bool×Y1×Int×Int×Int×Y1×Ybn)(v:Int×Y2):Tr ((Int×Y2)⊕Y2):=.t (v.1<k.2.2.1) (.g (inR v.1 (length k.2.1))<|.g (inR v.1 (length v.2))<|.g ((toNat v.1)<length v.2)<|.g ((length (getD v.2 (toNat v.1) [])+length ([(getD k.2.1 (toNat v.1) 0)]:Y1))*8<=140737488355328)<|.g (inR v.1 (length v.2))<|.g (((toNat v.1)<length v.2)&&((toNat v.1)=(toNat v.1)))<|.l (.inl ((wrap .i64 (v.1+1)),(set v.2 (toNat v.1) ((getD v.2 (toNat v.1) [])++([(getD k.2.1 (toNat v.1) 0)]:Y1)))))) (.l (.inr v.2))
def L_zs k v:=iter (λv=>(S_zs k v).ev) v
abbrev yq398:Keep:=yk [] [4,6,9] (yj [.box 4 0,.box 6 0,.dat .bool]) [Zbr,(6,.cells (yj [.arr 1859,.arr 1860,.arr 1861,.dat yi])),(901340,.arr 3 yi),(901342,.arr 3 yi),(1859,.arr 3 yi),(1860,.rows 22 3 yi),(1861,.arr 3 yi)]
def wcog:LD:=yl S_zs (yk [.ownB 4 0 901340 3 yi,.ownB 4 2 901342 3 yi] [4,6,9,165,166,167] (yj [.box 4 0,.box 6 0,.dat .bool,.dat y1,.dat yi,.dat yi]) [Zbr,(6,.cells (yj [.arr 1859,.arr 1860,.arr 1861,.dat yi])),(901340,.arr 3 yi),(901342,.arr 3 yi),(1859,.arr 3 yi),(1860,.rows 22 3 yi),(1861,.arr 3 yi)]) [(1,yq398)] yq14 (λk v=>(((),(),k.1,k.2.1,k.2.2.1,v.1,()),((),(),(),k.2.2.2.1,()),((),(),(),k.2.2.2.2.1,()),k.2.2.2.2.2.1,k.2.2.2.2.2.2.1,k.2.2.2.2.2.2.2.1,v.2,k.2.2.2.2.2.2.2.2,())) (λt=>(t.1.2.2.1,t.1.2.2.2.1,t.1.2.2.2.2.1,t.2.1.2.2.2.1,t.2.2.1.2.2.2.1,t.2.2.2.1,t.2.2.2.2.1,t.2.2.2.2.2.1,t.2.2.2.2.2.2.2.1)) (λt=>(t.1.2.2.2.2.2.1,t.2.2.2.2.2.2.1)) (λk r=>yx 1 yq398 (((),(),k.1,()),((),(),(),k.2.2.2.1,()),((),(),(),k.2.2.2.2.1,()),k.2.2.2.2.2.1,k.2.2.2.2.2.2.1,k.2.2.2.2.2.2.2.1,r,k.2.2.2.2.2.2.2.2,()))
def wbcj(k:Int×Bool×Int×Int×Int×Y1×Y1)(v:Int×Y2):Tr ((Int×Y2)⊕Y2):=.t (v.1<k.2.2.1) (.g (inR v.1 (length v.2))<|.g ((toNat v.1)<length v.2)<|.c _ (wbpu k.1 (wrap .i64 (k.1+1)) (getD v.2 (toNat v.1) [])) λa=>.g (inR v.1 (length v.2))<|.g (((toNat v.1)<length v.2)&&((toNat v.1)=(toNat v.1)))<|.l (.inl ((wrap .i64 (v.1+1)),(set v.2 (toNat v.1) a)))) (.l (.inr v.2))
def wbta k v:=iter (λv=>(wbcj k v).ev) v
abbrev yq403:Keep:=yk [] [4,6,7,9] (yj [.box 4 0,.box 6 0,.dat yi,.dat .bool]) [Zas,Zbs,(13888,.arr 3 yi),(1860,.rows 22 3 yi),(1861,.arr 3 yi)]
abbrev yq404{a b c d e g h i j:Type}(k:a×b×c×d×e×g×h)(v:i×j):=(((),(),k.1,k.2.1,(),k.2.2.1,v.1,()),((),(),(),k.2.2.2.1,()),((),(),(),k.2.2.2.2.1,()),v.2,k.2.2.2.2.2.1,k.2.2.2.2.2.2,())
abbrev yq405{a b c d e g h i j l m n o p q s t u w a19 a20:Type}(t:(a×b×c×d×e×g×h)×(i×j×l×m×n)×(o×p×q×s×t)×u×w×a19×a20):=(t.1.2.2.1,t.1.2.2.2.1,t.1.2.2.2.2.2.1,t.2.1.2.2.2.1,t.2.2.1.2.2.2.1,t.2.2.2.2.1,t.2.2.2.2.2.1)
abbrev yq384{a b c d e g h i j l m n:Type}(t:(a×b×c×d×e×g×h×i)×j×l×m×n):=(t.1.2.2.2.2.2.2.1,t.2.2.2.1)
def wccx:LD:=yl (wbcj) (yk [] [4,6,7,9,222,223,224] (yj [.box 4 0,.box 6 0,.dat yi,.dat .bool,.arr 1860,.dat yi,.dat yi]) [Zas,Zbs,(1860,.rows 22 3 yi),(13888,.arr 3 yi),(1861,.arr 3 yi)]) [(3,yq403)] yq14 yq404 yq405 yq384 (λk r=>yx 3 yq403 (((),(),k.1,k.2.1,()),((),(),(),k.2.2.2.1,()),((),(),(),k.2.2.2.2.1,()),k.2.2.2.2.2.1,r,k.2.2.2.2.2.2,()))
def wbbo(k:Int×Bool×Int×Int×Yax)(v:Int×Y1):Tr (Yap⊕Y1):=.t (v.1<k.2.2.1) (.g (inR v.1 (length v.2))<|.g ((toNat v.1)<length v.2)<|.t (k.1<(getD v.2 (toNat v.1) 0)) (.g (inR v.1 (length v.2))<|.g ((toNat v.1)<length v.2)<|.g (inR v.1 (length v.2))<|.g ((toNat v.1)<length v.2)<|.l (.inl ((wrap .i64 (v.1+1)),(set v.2 (toNat v.1) (wrap .i64 ((getD v.2 (toNat v.1) 0) -1)))))) (.l (.inl ((wrap .i64 (v.1+1)),v.2)))) (.l (.inr v.2))
def wbtb k v:=iter (λv=>(wbbo k v).ev) v
abbrev yq407:Keep:=yk [] [4,6,9] (yj [.box 4 0,.box 6 0,.dat .bool]) [Zas,Zbs,(13888,.arr 3 yi),(1860,.rows 22 3 yi),(1861,.arr 3 yi)]
def wccy:LD:=yl (wbbo) (yk [] [4,6,7,9,241,242,243] (yj [.box 4 0,.box 6 0,.dat yi,.dat .bool,.arr 1861,.dat yi,.dat yi]) [Zas,Zbs,(1861,.arr 3 yi),(13888,.arr 3 yi),(1860,.rows 22 3 yi)]) [(5,yq407)] yq14 yq404 yq405 yq384 (λk r=>yx 5 yq407 (((),(),k.2.1,()),((),(),(),k.2.2.2.1,()),((),(),(),k.2.2.2.2.1,()),k.2.2.2.2.2.1,k.2.2.2.2.2.2,r,()))
def T_zr(i:Y1)(e:List Y1)(f:Y1)(m h b j u:Int)(n:Y1):Tr (Int×Bool×Ybm):=.c _ (wakz i e f m) λan=>.t (!an) (.l (0,false,[],[],[])) (.c _ (F_zt h b j u n) λbf=>.t (!bf) (.l (0,false,[],[],[])) (.c _ (F_zm i e f m) λa=>.c _ (wbik f) λo=>.c _ (wazz b 0 (wrap .i64 ((length e:Int) -1))) λq=>.t (h==1) (.c _ (F_zs b i e f m) λbi=>.t bi (.c _ (wbag o b) λz=>.t (!z) (.g (0<=b)<|.c _ (wbah (wrap .u64 (BitVec.toNat ((BitVec.ofInt Zk o)||| (BitVec.ofInt Zk (wrap .u64 ((1:Int)*2^(min (toNat b) Zk)))))))) λae=>.t (!(!z)) (.l (0,false,[],[],[])) (.c _ (wakz a.2.1 a.2.2.1 ae (wrap .i64 (a.1+1))) λbe=>.t (!be) (.l (0,false,[],[],[])) (.l ((wrap .i64 (a.1+1)),true,a.2.1,a.2.2.1,ae)))) (.t (!(!z)) (.l (0,false,[],[],[])) (.c _ (wakz a.2.1 a.2.2.1 a.2.2.2 (wrap .i64 (a.1+1))) λaw=>.t (!aw) (.l (0,false,[],[],[])) (.l ((wrap .i64 (a.1+1)),true,a.2.1,a.2.2.1,a.2.2.2))))) (.l (0,false,[],[],[]))) (.t (h==2) (.c _ (F_zs b i e f m) λax=>.t ax (.c _ (wbag o b) λab=>.t ab (.g (0<=b)<|.c _ (wbah (wrap .u64 (BitVec.toNat ((BitVec.ofInt Zk o)&&& ~~~(BitVec.ofInt Zk (wrap .u64 ((1:Int)*2^(min (toNat b) Zk)))))))) λai=>.t (!ab) (.l (0,false,[],[],[])) (.c _ (wakz a.2.1 a.2.2.1 ai (wrap .i64 (a.1+1))) λbl=>.t (!bl) (.l (0,false,[],[],[])) (.l ((wrap .i64 (a.1+1)),true,a.2.1,a.2.2.1,ai)))) (.t (!ab) (.l (0,false,[],[],[])) (.c _ (wakz a.2.1 a.2.2.1 a.2.2.2 (wrap .i64 (a.1+1))) λbd=>.t (!bd) (.l (0,false,[],[],[])) (.l ((wrap .i64 (a.1+1)),true,a.2.1,a.2.2.1,a.2.2.2))))) (.l (0,false,[],[],[]))) (.t (h==3) (.c _ (F_zs b i e f m) λbj=>.t bj (.c _ (F_zs j i e f m) λay=>.t ay (.c _ (wbag o b) λam=>.t am (.c _ (wbag o j) λad=>.t (!ad) (.c _ (wbpt f b j) λaj=>.t (!(!ad)) (.l (0,false,[],[],[])) (.c _ (wakz a.2.1 a.2.2.1 aj (wrap .i64 (a.1+1))) λbh=>.t (!bh) (.l (0,false,[],[],[])) (.l ((wrap .i64 (a.1+1)),true,a.2.1,a.2.2.1,aj)))) (.t (!(!ad)) (.l (0,false,[],[],[])) (.c _ (wakz a.2.1 a.2.2.1 a.2.2.2 (wrap .i64 (a.1+1))) λbn=>.t (!bn) (.l (0,false,[],[],[])) (.l ((wrap .i64 (a.1+1)),true,a.2.1,a.2.2.1,a.2.2.2))))) (.l (0,false,[],[],[]))) (.l (0,false,[],[],[]))) (.l (0,false,[],[],[]))) (.t (h==4) (.c _ (F_zs b i e f m) λy=>.t y (.g (inR b (length a.2.1))<|.g ((toNat b)<length a.2.1)<|.t (!y) (.l (0,false,[],[],[])) (.c _ (wakz (set a.2.1 (toNat b) j) a.2.2.1 a.2.2.2 (wrap .i64 (a.1+1))) λao=>.t (!ao) (.l (0,false,[],[],[])) (.l ((wrap .i64 (a.1+1)),true,(set a.2.1 (toNat b) j),a.2.2.1,a.2.2.2)))) (.t (!y) (.l (0,false,[],[],[])) (.c _ (wakz a.2.1 a.2.2.1 a.2.2.2 (wrap .i64 (a.1+1))) λaz=>.t (!az) (.l (0,false,[],[],[])) (.l ((wrap .i64 (a.1+1)),true,a.2.1,a.2.2.1,a.2.2.2))))) (.t (h==5) (.t q (.c _ (F_zs j i e f m) λs=>.t s (.g (inR b (length a.2.2.1))<|.g ((toNat b)<length a.2.2.1)<|.g (inR j (length (getD a.2.2.1 (toNat b) [])))<|.g ((toNat j)<length (getD a.2.2.1 (toNat b) []))<|.t (!s) (.l (0,false,[],[],[])) (.c _ (wakz a.2.1 (set a.2.2.1 (toNat b) (set (getD a.2.2.1 (toNat b) []) (toNat j) u)) a.2.2.2 (wrap .i64 (a.1+1))) λav=>.t (!av) (.l (0,false,[],[],[])) (.l ((wrap .i64 (a.1+1)),true,a.2.1,(set a.2.2.1 (toNat b) (set (getD a.2.2.1 (toNat b) []) (toNat j) u)),a.2.2.2)))) (.t (!s) (.l (0,false,[],[],[])) (.c _ (wakz a.2.1 a.2.2.1 a.2.2.2 (wrap .i64 (a.1+1))) λbm=>.t (!bm) (.l (0,false,[],[],[])) (.l ((wrap .i64 (a.1+1)),true,a.2.1,a.2.2.1,a.2.2.2))))) (.l (0,false,[],[],[]))) (.t (h==6) (.t ((length n:Int)==(length e:Int)) (.g ((length a.2.1+length ([b]:Y1))*8<=140737488355328)<|.c _ (L_zs (((length n:Int)==(length e:Int)),n,(length n:Int),0,(wrap .i64 (a.1+1)),[],[],(a.2.1++([b]:Y1)),a.2.2.2) (0,a.2.2.1)) λaf=>.t (!((length n:Int)==(length e:Int))) (.l (0,false,[],[],[])) (.c _ (wakz (a.2.1++([b]:Y1)) af a.2.2.2 (wrap .i64 (a.1+1))) λba=>.t (!ba) (.l (0,false,[],[],[])) (.l ((wrap .i64 (a.1+1)),true,(a.2.1++([b]:Y1)),af,a.2.2.2)))) (.t (!((length n:Int)==(length e:Int))) (.l (0,false,[],[],[])) (.c _ (wakz a.2.1 a.2.2.1 a.2.2.2 (wrap .i64 (a.1+1))) λbb=>.t (!bb) (.l (0,false,[],[],[])) (.l ((wrap .i64 (a.1+1)),true,a.2.1,a.2.2.1,a.2.2.2))))) (.t (h==7) (.c _ (wbac n) λak=>.g ((length a.2.2.1+1)*24<=140737488355328)<|.c _ (wakz a.2.1 (set (a.2.2.1++ [[]]) (length a.2.2.1) ak) a.2.2.2 (wrap .i64 (a.1+1))) λal=>.t (!al) (.l (0,false,[],[],[])) (.l ((wrap .i64 (a.1+1)),true,a.2.1,(set (a.2.2.1++ [[]]) (length a.2.2.1) ak),a.2.2.2))) (.t (h==8) (.c _ (F_zs b i e f m) λaq=>.t aq (.c _ (wbag o b) λp=>.t (!p) (.c _ (wbpu b (wrap .i64 (b+1)) a.2.1) λr=>.c _ (wbta (b,(!p),(length a.2.2.1:Int),0,(wrap .i64 (a.1+1)),r,a.2.2.2) (0,a.2.2.1)) λaa=>.c _ (wbtb (b,(!p),(length a.2.2.2:Int),0,(wrap .i64 (a.1+1)),r,aa) (0,a.2.2.2)) λah=>.t (!(!p)) (.l (0,false,[],[],[])) (.c _ (wakz r aa ah (wrap .i64 (a.1+1))) λar=>.t (!ar) (.l (0,false,[],[],[])) (.l ((wrap .i64 (a.1+1)),true,r,aa,ah)))) (.t (!(!p)) (.l (0,false,[],[],[])) (.c _ (wakz a.2.1 a.2.2.1 a.2.2.2 (wrap .i64 (a.1+1))) λau=>.t (!au) (.l (0,false,[],[],[])) (.l ((wrap .i64 (a.1+1)),true,a.2.1,a.2.2.1,a.2.2.2))))) (.l (0,false,[],[],[]))) (.t (h==9) (.t q (.c _ (wcha b (wrap .i64 (b+1)) a.2.2.1) λag=>.t (!q) (.l (0,false,[],[],[])) (.c _ (wakz a.2.1 ag a.2.2.2 (wrap .i64 (a.1+1))) λbk=>.t (!bk) (.l (0,false,[],[],[])) (.l ((wrap .i64 (a.1+1)),true,a.2.1,ag,a.2.2.2)))) (.t (!q) (.l (0,false,[],[],[])) (.c _ (wakz a.2.1 a.2.2.1 a.2.2.2 (wrap .i64 (a.1+1))) λbg=>.t (!bg) (.l (0,false,[],[],[])) (.l ((wrap .i64 (a.1+1)),true,a.2.1,a.2.2.1,a.2.2.2))))) (.t (h==10) (.c _ (wcca i e f) λw=>.t (!w.2.1) (.l (0,false,[],[],[])) (.c _ (wakz a.2.1 a.2.2.1 w.2.2 (wrap .i64 (a.1+1))) λap=>.t (!ap) (.l (0,false,[],[],[])) (.l ((wrap .i64 (a.1+1)),true,a.2.1,a.2.2.1,w.2.2)))) (.t (h==11) (.c _ (F_zq i e) λac=>.t (!ac.1) (.l (0,false,[],[],[])) (.c _ (wakz a.2.1 a.2.2.1 ac.2 (wrap .i64 (a.1+1))) λbc=>.t (!bc) (.l (0,false,[],[],[])) (.l ((wrap .i64 (a.1+1)),true,a.2.1,a.2.2.1,ac.2)))) (.l (0,false,[],[],[]))))))))))))))
def F_zr a j c g f e h i b:=(T_zr a j c g f e h i b).ev
def G_zr:FP prog:=fnP cx func95 [wbpb,G_zt,G_zm,wbpp,wbcg,G_zs,wbpr,wben,wcbh,wbpc,wcnf,wcnh,wcnp,G_zq] (yj [.agg Zl,.agg Zaz]) [] [] (yq83 T_zr) ⟨[.ownB 4 0 5 3 yi,.ownRB 4 1 7 22 3 yi,.ownB 4 2 8 3 yi,.ren 1859 5,.ren 13888 5,.pinB 4 1 7,.pinB 4 2 8],[.cell 4 36,.tmp 5],(yj [.agg (yj [.arr 5,.arr 7,.arr 8,.dat yi]),.dat .bool]),[(5,.arr 3 yi),(7,.rows 22 3 yi),(8,.arr 3 yi)],[],[]⟩ yq166 (zOf [(48,[(0,[2000016]),(10,[5500016])])]) [(1,wcog),(3,wccx),(5,wccy)]
def wbev(a:List (List UInt8))(b:List UInt8):Option (List UInt8):=joinF a b
def wcoh:FD:=fdJoin
theorem wcii:FDok prog (170,wcoh):=hand_join
def wcij:FP prog:=⟨_,wcii⟩
def wbat(k:Y1×Int)(v:Int×(List (List UInt8))):Tr ((Int×(List (List UInt8)))⊕(List (List UInt8))):=.t (v.1<k.2) (.g (inR v.1 (length k.1))<|.c _ (wapq (getD k.1 (toNat v.1) 0)) λa=>.g ((length v.2+length ([a]:List (List UInt8)))*16<=140737488355328)<|.l (.inl ((wrap .i64 (v.1+1)),(v.2++([a]:List (List UInt8)))))) (.l (.inr v.2))
def wbji k v:=iter (λv=>(wbat k v).ev) v
abbrev yq504:Keep:=yk [] [3] (yj [.arr 6]) [(6,.arr 9 .str)]
def wbqt:LD:=yl (wbat) (yk [] [3,7,8,9] (yj [.arr 6,.dat y1,.dat yi,.dat yi]) [(6,.arr 9 .str)]) [(0,yq504)] yq14 yq363 yq8 yq88 (λ_ r=>yx 0 yq504 (((),()),r,()))
def wccz(a:Y1):Tr (List UInt8):=.c _ (wbji (a,(length a:Int)) (0,[])) λb=>.c _ (wbev b ([32]:List UInt8)) λe=>.l e
def wbjj a:=(wccz a).ev
def wcik:FP prog:=fnP cx func157 [wbid,wcij] Zbo [] [] (yq18 wccz) yq71 yq2 noZ [(0,wbqt)]
def wcda(a:Y1):Tr (List UInt8):=.t ((length a:Int)==(0:Int)) (.l ([110,111,110,101]:List UInt8)) (.c _ (wbjj a) λb=>.l b)
def wbjk a:=(wcda a).ev
def wcil:FP prog:=fnP cx func96 [wcik] Zbo [] [] (yq18 wcda) yq71 yq2
def TR_edit:EdTr:=λi n j m b h e=>.g ((0<=e.1)&&(e.1<=(length h:Int)))<|.c _ (F_zr i n j m b e.2.1 e.2.2.1 e.2.2.2 (List.drop (toNat e.1) (List.take (length h) h))) λa=>.t (!a.2.1) (.l (i,n,j,m,[],false)) (.c _ (wbjk a.2.2.2.2) λf=>.t (b==4) (.c _ (wapq e.2.2.1) λw=>.l (a.2.2.1,a.2.2.2.1,a.2.2.2.2,a.1,w,true)) (.t (b==5) (.c _ (wapq e.2.2.2) λu=>.l (a.2.2.1,a.2.2.2.1,a.2.2.2.2,a.1,u,true)) (.t (b==6) (.t (b==6) (.c _ (wapq (length a.2.2.1:Int)) λy=>.l (a.2.2.1,a.2.2.2.1,a.2.2.2.2,a.1,y,true)) (.t (b==7) (.t (b==7) (.c _ (wapq (length a.2.2.2.1:Int)) λq=>.l (a.2.2.1,a.2.2.2.1,a.2.2.2.2,a.1,q,true)) (.l (a.2.2.1,a.2.2.2.1,a.2.2.2.2,a.1,f,true))) (.t (b==9) (.c _ (wapq (length a.2.2.2.1:Int)) λo=>.l (a.2.2.1,a.2.2.2.1,a.2.2.2.2,a.1,o,true)) (.l (a.2.2.1,a.2.2.2.1,a.2.2.2.2,a.1,f,true))))) (.t (b==8) (.c _ (wapq (length a.2.2.1:Int)) λp=>.l (a.2.2.1,a.2.2.2.1,a.2.2.2.2,a.1,p,true)) (.t (b==7) (.t (b==7) (.c _ (wapq (length a.2.2.2.1:Int)) λs=>.l (a.2.2.1,a.2.2.2.1,a.2.2.2.2,a.1,s,true)) (.l (a.2.2.1,a.2.2.2.1,a.2.2.2.2,a.1,f,true))) (.t (b==9) (.c _ (wapq (length a.2.2.2.1:Int)) λr=>.l (a.2.2.1,a.2.2.2.1,a.2.2.2.2,a.1,r,true)) (.l (a.2.2.1,a.2.2.2.1,a.2.2.2.2,a.1,f,true))))))))
def F_zn(a:List Int)(g:List (List Int))(b:List Int)(f e:Int)(c:List Int):Option EdR:=editF wala TR_edit a g b f e c
theorem names_in(k:Int)(r:Int×Bool×Bool)(h:wala k=some r):r.1=0\/r.1=1\/r.1=2\/r.1=3:=by refine ev_all (p:=λr=>r.1=0\/r.1=1\/r.1=2\/r.1=3) ?_ h;unfold wbpn;simp[allT]
def G_zn:FP prog:=⟨_,hand_edit cx [G_zr,wcil,wbid] (show FDok prog (94,fdNames wala)from wcgw.2) names_in (T:=TR_edit) (acts:=[.fz 4293,.fz 4295,.fz 4296]) (λ_ _ _ _ _ _ _ _ _ _=>by kernel_rfl) (λ_ _ _ _ _ _ _=>by kernel_rfl) (by kernel_rfl) (by kernel_rfl) (by kernel_rfl) (by kernel_rfl) (by kernel_rfl)⟩
def wbqu(a:Y1)(g:List Y1)(e:Int):Tr Bool:=.c _ (wavs a g) λb=>.t b (.c _ (wazz e 1 (length a:Int)) λf=>.l f) (.l false)
def wbdh a b c:=(wbqu a b c).ev
def wcim:FP prog:=fnP cx func158 [wbbn,wbcg] (yj [.agg Zh,.dat yi]) [] [] (yq9 wbqu) yq47 yq2
def wayc(k:(HL [y1]->Option Bool))(v:Int×Int×Yo):Tr ((Int×Int×Yo)⊕(Int×Yo)):=.t (v.2.1<(length v.2.2.1:Int)) (.g (inR v.2.1 (length v.2.2.1))<|.g (((toNat v.2.1)<length v.2.2.1)&&((getD v.2.2.1 (toNat v.2.1) 0)<length v.2.2.2))<|.c _ (k ((getD v.2.2.2 (getD v.2.2.1 (toNat v.2.1) 0) []),())) λa=>.t (!a) (.g (inR v.1 (length v.2.2.1))<|.g ((toNat v.1)<length v.2.2.1)<|.l (.inl ((wrap .i64 (v.1+1)),(wrap .i64 (v.2.1+1)),(set v.2.2.1 (toNat v.1) (getD v.2.2.1 (toNat v.2.1) 0)),v.2.2.2))) (.l (.inl (v.1,(wrap .i64 (v.2.1+1)),v.2.2)))) (.l (.inr (v.1,v.2.2)))
def wbjl k v:=iter (λv=>(wayc k v).ev) v
abbrev yq508:Keep:=yk [] [0,5] (yj [.arr 64,.dat yi]) [Zay]
def wbqv:LD:=yl (wayc) (yk [] [0,1,5,6] (yj [.arr 64,.clo [y1] .bool,.dat yi,.dat yi]) [Zay]) [(0,yq508)] yq14 (λk v=>(((),k,v.1,v.2.1,()),v.2.2,())) yq212 (λt=>(t.1.2.2.1,t.1.2.2.2.1,t.2.1)) (λ_ r=>yx 0 yq508 (((),r.1,()),r.2,()))
def wcdb(f:(HL [y1]->Option Bool))(b:(List Nat)×Y2):Tr Yo:=.c _ (wboy (permL b.1 b.2) f) λe=>.t (e==(-1:Int)) (.l b) (.c _ (wbjl f (e,(wrap .i64 (e+1)),b)) λa=>.g ((0<=a.1)&&(a.1<=(length a.2.1:Int)))<|.g ((0<=a.1)&&(a.1<=(length (List.take (toNat a.1) a.2.1++List.replicate (length a.2.1-(toNat a.1)) (length a.2.2)):Int)))<|.l ((List.take (toNat a.1) (List.take (toNat a.1) a.2.1++List.replicate (length a.2.1-(toNat a.1)) (length a.2.2))),a.2.2))
def wbqw b a:=(wcdb b a).ev
def wbqx:FP prog:=fnP cx func226 [wcgj] (yj [.arr 64,.clo [y1] .bool]) [Zay] [.arg 0] (yq491 wcdb) ⟨[.ren 64 0],[.tmp 4],Zbh,[(0,.perm 22 3 yi)],[],[64]⟩ yq19 noZ [(0,wbqv)]
def wcdc(a:Y1)(b:Int):Tr Bool:=.l ((length a:Int) !=b)
def wbqy a b:=(wcdc a b).ev
abbrev yq512{a b c d e:Type}{z:Type _}(f:a->b->z)(x:(a×(b×c)×d)×e):z:=f x.1.1 x.1.2.1.1
def wcoi:FP prog:=fnP cx func227 [] (yj [.dat y1,.ptr Zv]) [] [] (yq512 wcdc) yq357 yq2
def wcdd(a:Y1)(m:List Y1)(g:Int):Tr Y1:=.c _ (wbet (length a:Int)) λf=>.c _ (wbqw (λe=>Option.bind (wbqy e.1 g) λj=>some j) f) λn=>.c _ (wbjh (λh=>Option.bind (wbdf a m h.1) λb=>some b) n) λi=>.l i
def wcde a b c:=(wcdd a b c).ev
def wcoj:FP prog:=fnP cx func159 [wccv,wbqx,wbeu,wbeu,wcbr,wbqx,wcoi] (yj [.agg Zh,.dat yi]) [] [] (yq9 wcdd) ⟨[.ren 960 0],[.tmp 4],Zbh,[Zaw],[],[]⟩ yq19
def wbqz(a:Y1)(e:List Y1)(b:Int):Tr Ybk:=.c _ (wbdh a e b) λf=>.t (!f) (.l (false,[])) (.c _ (wcde a e b) λg=>.l (true,g))
def wbra a b c:=(wbqz a b c).ev
abbrev yq514:RetK:=⟨[.own 4 0 3 yi,.ren 768 0],[.tmp 4,.tmp 5],Zbc,[Zaw],[],[]⟩
def wcok:FP prog:=fnP cx func99 [wcim,wcoj] (yj [.agg Zh,.dat yi]) [] [] (yq9 wbqz) yq514 yq79
def T_zl(a:Y1)(e:Bool):Tr Ybi:=.c _ (wbjk a) λb=>.l (b,e)
def F_zl a b:=(T_zl a b).ev
def G_zl:FP prog:=fnP cx func98 [wcil] (yj [.dat y1,.dat .bool]) [] [] (yq1 T_zl) yq374 yq172
def wcdf(a:Y1)(b:Int):Tr Bool:=.l (b<(length a:Int))
def wbrb a b:=(wcdf a b).ev
def wcol:FP prog:=fnP cx func228 [] (yj [.dat y1,.ptr Zv]) [] [] (yq512 wcdf) yq357 yq2
def wcdg(a:Y1)(_i:List Y1)(f:Int):Tr Yo:=.c _ (wbet (length a:Int)) λe=>.c _ (wbqw (λb=>Option.bind (wbrb b.1 f) λg=>some g) e) λh=>.l h
def wcin a b c:=(wcdg a b c).ev
def wcom:FP prog:=fnP cx func161 [wccv,wbqx,wbqx,wcol] (yj [.agg Zh,.dat yi]) [] [] (yq9 wcdg) ⟨[.ren 640 0],[.tmp 4],Zbh,[(0,.perm 22 3 yi)],[],[]⟩ yq19
def wayd(k:Y1)(v:Int×Int):Tr (Yah⊕Int):=.t (v.2<(length k:Int)) (.g (inR v.2 (length k))<|.l (.inl ((if v.1<(getD k (toNat v.2) 0)then(getD k (toNat v.2) 0)else v.1),(wrap .i64 (v.2+1))))) (.l (.inr v.1))
def wbdj k v:=iter (λv=>(wayd k v).ev) v
def wbrc:LD:=yl (wayd) yq198 [(0,yq69)] yq14 yq6 yq7 yq8 (λ_ r=>yx 0 yq69 ((r,()),()))
def wcdh(a:Y1):Tr Int:=.t ((length a:Int)<(1:Int)) (.f) (.g (inR 0 (length a))<|.c _ (wbdj a ((getD a (toNat 0) 0),1)) λb=>.l b)
def wcdi a:=(wcdh a).ev
def wcon:FP prog:=fnP cx func229 [] Zbo [] [] (yq18 wcdh) yq70 yq2 noZ [(0,wbrc)]
def wcdj(b:Y1)(h:List Y1)(e:Y1):Tr Int:=.c _ (wbqa b h e) λa=>.g ((length a+length ([0]:Y1))*8<=140737488355328)<|.c _ (wcdi (a++([0]:Y1))) λf=>.l f
def wbew a b c:=(wcdj a b c).ev
def wcio:FP prog:=fnP cx func162 [wche,wcon] (yj [.agg Zh,.dat y1]) [] [] (yq9 wcdj) yq0 yq2
def T_zp(a:Y1)(b:List Y1)(e:Int):Tr Ybk:=.c _ (wbdh a b e) λf=>.t (!f) (.l (false,[])) (.c _ (wcin a b e) λh=>.c _ (wbjh (λg=>Option.bind (wbew a b g.1) λi=>some i) h) λj=>.l (true,j))
def F_zp a b c:=(T_zp a b c).ev
def G_zp:FP prog:=fnP cx func100 [wcim,wcom,wbeu,wbeu,wcio] (yj [.agg Zh,.dat yi]) [] [] (yq9 T_zp) ⟨[.own 4 0 3 yi,.ren 960 0],[.tmp 4,.tmp 5],Zbc,[Zaw],[],[]⟩ yq79
def wcdk(a:Y1)(b:List Y1)(f:Int):Tr Bool:=.c _ (wavs a b) λe=>.t e (.l (0<=f)) (.l false)
def wcip a b c:=(wcdk a b c).ev
def wcoo:FP prog:=fnP cx func163 [wbbn] (yj [.agg Zh,.dat yi]) [] [] (yq9 wcdk) yq47 yq2
def wbbp(k:Y1×Int×Int×Int×Int×Y1×Yax)(v:Int×Int):Tr (Yah⊕Int):=.t (v.2<k.2.2.2.2.2.2.1) (.g (inR v.2 (length k.2.2.2.2.2.1))<|.g (inR (getD k.2.2.2.2.2.1 (toNat v.2) 0) (length k.2.2.2.2.2.2.2.2))<|.g (inR k.2.2.1 (length (getD k.2.2.2.2.2.2.2.2 (toNat (getD k.2.2.2.2.2.1 (toNat v.2) 0)) [])))<|.t ((getD (getD k.2.2.2.2.2.2.2.2 (toNat (getD k.2.2.2.2.2.1 (toNat v.2) 0)) []) (toNat k.2.2.1) 0)<=k.2.1) (.l (.inl ((wrap .i64 (v.1+1)),(wrap .i64 (v.2+1))))) (.l (.inl (v.1,(wrap .i64 (v.2+1)))))) (.l (.inr v.1))
def wbtd k v:=iter (λv=>(wbbp k v).ev) v
abbrev yq518:Keep:=yk [] [1,2,3,8,13,14] (yj [.dat y1,.dat yi,.box 3 0,.dat yi,.dat yi,.dat yi]) [(3,.cells Zh)]
def wcdl:LD:=yl (wbbp) (yk [] [1,2,3,7,8,13,14,17,18,19] (yj [.dat y1,.dat yi,.box 3 0,.dat yi,.dat yi,.dat yi,.dat yi,.dat y1,.dat yi,.dat yi]) [(3,.cells Zh)]) [(2,yq518)] yq14 (λk v=>((k.1,k.2.1,(),k.2.2.1,v.1,k.2.2.2.1,k.2.2.2.2.1,k.2.2.2.2.2.1,k.2.2.2.2.2.2.1,v.2,()),(k.2.2.2.2.2.2.2.1,k.2.2.2.2.2.2.2.2,()),())) (λt=>(t.1.1,t.1.2.1,t.1.2.2.2.1,t.1.2.2.2.2.2.1,t.1.2.2.2.2.2.2.1,t.1.2.2.2.2.2.2.2.1,t.1.2.2.2.2.2.2.2.2.1,t.2.1.1,t.2.1.2.1)) (λt=>(t.1.2.2.2.2.1,t.1.2.2.2.2.2.2.2.2.2.1)) (λk r=>yx 2 yq518 ((k.1,k.2.1,(),r,k.2.2.2.1,k.2.2.2.2.1,()),(k.2.2.2.2.2.2.2.1,k.2.2.2.2.2.2.2.2,()),()))
def wbbq(k:Y1×Int×Yax)(v:Int):Tr (Int⊕(Unit⊕Unit)):=.t (v<k.2.2.1) (.c _ (wbtd (k.1,k.2.1,v,k.2.2.1,v,k.1,(length k.1:Int),k.2.2.2.1,k.2.2.2.2) (0,0)) λa=>.t (1<a) (.l (.inr (.inr ()))) (.l (.inl (wrap .i64 (v+1))))) (.l (.inr (.inl ())))
def wbte k v:=iter (λv=>(wbbq k v).ev) v
def wcdm:LD:=yl (wbbq) (yk [] [1,2,3,13,14] (yj [.dat y1,.dat yi,.box 3 0,.dat yi,.dat yi]) [(3,.cells Zh)]) [(0,yq14)] yq36 yq335 yq191 yq148 (λ_ r=>.s _ _ r (λ_=>yx 0 yq14 ((),())) (λ_=>yz yq36 ((false,()),())))
def T_zx(a:Y1)(g:List Y1)(b:Y1)(e:Int):Tr Bool:=.c _ (wbte (b,e,(length a:Int),a,g) 0) λf=>.s _ _ f (λ_=>.l true) (λ_=>.l false)
def F_zx a c e b:=(T_zx a c e b).ev
def G_zx:FP prog:=fnP cx func232 [] (yj [.agg Zh,.dat y1,.dat yi]) [] [] (yq126 T_zx) yq32 yq2 noZ [(2,wcdl),(0,wcdm)]
def waye(k:Int×Y1×Y2)(v:Y1×Int):Tr ((Y1×Int)⊕Y1):=.g ((0:Int)<=(length k.2.2:Int))<|.t (v.2<(wrap .u64 ((1:Int)*2^(min (toNat (length k.2.2:Int)) Zk)))) (.c _ (wbah v.2) λa=>.t ((length v.1:Int)<(length a:Int)) (.c _ (F_zx k.2.1 k.2.2 a k.1) λf=>.t f (.l (.inl (a,(wrap .u64 (v.2+1))))) (.l (.inl (v.1,(wrap .u64 (v.2+1)))))) (.t ((length a:Int)==(length v.1:Int)) (.c _ (wbqq a v.1) λb=>.t (b<0) (.c _ (F_zx k.2.1 k.2.2 a k.1) λe=>.t e (.l (.inl (a,(wrap .u64 (v.2+1))))) (.l (.inl (v.1,(wrap .u64 (v.2+1)))))) (.l (.inl (v.1,(wrap .u64 (v.2+1)))))) (.l (.inl (v.1,(wrap .u64 (v.2+1))))))) (.l (.inr v.1))
def wbby k v:=iter (λv=>(waye k v).ev) v
def wbrd:LD:=yl (waye) (yk [.fz 8,.fz 1152] [1,2,5,6] (yj [.dat yi,.box 2 0,.dat y1,.dat (.int .u64)]) [Zbf]) [(0,yq338)] yq14 yq129 yq117 yq130 (λ_ r=>yx 0 yq338 ((r,()),()))
def wcdn(a:Y1)(b:List Y1)(e:Int):Tr Y1:=.c _ (wbby (e,a,b) ([],1)) λf=>.l f
def wcdo a b c:=(wcdn a b c).ev
def wcop:FP prog:=fnP cx func164 [wben,G_zx,wcie] (yj [.agg Zh,.dat yi]) [] [] (yq9 wcdn) yq316 yq2 noZ [(0,wbrd)]
def wcdp(a:Y1)(e:List Y1)(b:Int):Tr (Y1×Bool):=.c _ (wcip a e b) λf=>.t (!f) (.l ([],false)) (.c _ (wcdo a e b) λg=>.l (g,true))
def wcdq a b c:=(wcdp a b c).ev
def wcoq:FP prog:=fnP cx func101 [wcoo,wcop] (yj [.agg Zh,.dat yi]) [] [] (yq9 wcdp) (yr [.tmp 4,.tmp 5] (yj [.dat y1,.dat .bool])) yq172
def wcdr(a:Y1)(e:List Y1)(b:Y1):Tr (Int×Bool):=.c _ (wbci a e b) λf=>.t (!f) (.l (0,false)) (.c _ (wbam a e b) λg=>.l (g,true))
def wciq a b c:=(wcdr a b c).ev
def wcor:FP prog:=fnP cx func165 [wbeo,wbiq] (yj [.agg Zh,.dat y1]) [] [] (yq9 wcdr) yq199 yq172
def T_zi(a:Y1)(f:List Y1)(b:Y1)(h:Int):Tr (Int×Bool):=.c _ (wakz a f b h) λg=>.t (!g) (.l (0,false)) (.c _ (wciq a f b) λe=>.l (e.1,e.2))
def F_zi a c e b:=(T_zi a c e b).ev
def G_zi:FP prog:=fnP cx func102 [wbpb,wcor] (yj [.agg Zl]) [] [] (yq27 T_zi) yq171 yq172
def T_zk(a:Int)(e:Bool):Tr Ybi:=.c _ (wapq a) λb=>.l (b,e)
def F_zk a b:=(T_zk a b).ev
def G_zk:FP prog:=fnP cx func97 [wbid] (yj [.dat yi,.dat .bool]) [] [] (yq1 T_zk) yq374 yq172
def wapj(k:Y1)(v:Int×Int):Tr (Yah⊕Int):=.t (v.2<(length k:Int)) (.g (inR v.2 (length k))<|.l (.inl ((if(getD k (toNat v.2) 0)<v.1 then(getD k (toNat v.2) 0)else v.1),(wrap .i64 (v.2+1))))) (.l (.inr v.1))
def wbdk k v:=iter (λv=>(wapj k v).ev) v
def wbre:LD:=yl (wapj) yq198 [(0,yq69)] yq14 yq6 yq7 yq8 (λ_ r=>yx 0 yq69 ((r,()),()))
def wbrf(a:Y1):Tr Int:=.t ((length a:Int)<(1:Int)) (.f) (.g (inR 0 (length a))<|.c _ (wbdk a ((getD a (toNat 0) 0),1)) λb=>.l b)
def wbex a:=(wbrf a).ev
def wcir:FP prog:=fnP cx func171 [] Zbo [] [] (yq18 wbrf) yq70 yq2 noZ [(0,wbre)]
def wavd(k:Y1×Int×Int×Y2×Int×Int×Y1×Int)(v:Int×Y1):Tr (Yap⊕Y1):=.t (v.1<k.2.2.2.2.2.2.2) (.g (inR v.1 (length k.2.2.2.2.2.2.1))<|.g (inR v.1 (length v.2))<|.g ((toNat v.1)<length v.2)<|.g (inR k.2.2.1 (length k.1))<|.g (inR v.1 (length v.2))<|.g ((toNat v.1)<length v.2)<|.l (.inl ((wrap .i64 (v.1+1)),(set v.2 (toNat v.1) (wrap .i64 ((getD v.2 (toNat v.1) 0)+(if(0:Int)<(wrap .i64 ((getD k.1 (toNat k.2.2.1) 0) -(wrap .i64 ((getD k.2.2.2.2.2.2.1 (toNat v.1) 0)*k.2.1))))then(wrap .i64 ((getD k.1 (toNat k.2.2.1) 0) -(wrap .i64 ((getD k.2.2.2.2.2.2.1 (toNat v.1) 0)*k.2.1))))else 0))))))) (.l (.inr v.2))
def wbdl k v:=iter (λv=>(wavd k v).ev) v
abbrev yq529:Keep:=yk [] [1,2,7,17,18,19] (yj [.dat y1,.dat yi,.arr 15,.dat y2,.dat yi,.dat yi]) [(15,.arr 3 yi)]
def wbrg:LD:=yl (wavd) (yk [] [1,2,7,8,17,18,19,24,25,26] (yj [.dat y1,.dat yi,.arr 15,.dat yi,.dat y2,.dat yi,.dat yi,.dat y1,.dat yi,.dat yi]) [(15,.arr 3 yi)]) [(2,yq529)] yq14 (λk v=>((k.1,k.2.1,(),k.2.2.1,k.2.2.2.1,k.2.2.2.2.1,k.2.2.2.2.2.1,k.2.2.2.2.2.2.1,k.2.2.2.2.2.2.2,v.1,()),v.2,())) (λt=>(t.1.1,t.1.2.1,t.1.2.2.2.1,t.1.2.2.2.2.1,t.1.2.2.2.2.2.1,t.1.2.2.2.2.2.2.1,t.1.2.2.2.2.2.2.2.1,t.1.2.2.2.2.2.2.2.2.1)) (λt=>(t.1.2.2.2.2.2.2.2.2.2.1,t.2.1)) (λk r=>yx 2 yq529 ((k.1,k.2.1,(),k.2.2.2.1,k.2.2.2.2.1,k.2.2.2.2.2.1,()),r,()))
def watg(k:Y1×Int×Y2×Int)(v:Int×Y1):Tr (Yap⊕Y1):=.t (v.1<k.2.2.2) (.g (inR v.1 (length k.2.2.1))<|.c _ (wbdl (k.1,k.2.1,v.1,k.2.2.1,k.2.2.2,v.1,(getD k.2.2.1 (toNat v.1) []),(length (getD k.2.2.1 (toNat v.1) []):Int)) (0,v.2)) λa=>.l (.inl ((wrap .i64 (v.1+1)),a))) (.l (.inr v.2))
def wbdm k v:=iter (λv=>(watg k v).ev) v
abbrev yq533:Keep:=yk [] [7] (yj [.arr 15]) [(15,.arr 3 yi)]
abbrev yq535{a b c d e g h:Type}(t:(a×b×c×d×e×g)×h):=(t.1.1,t.1.2.1,t.1.2.2.2.1,t.1.2.2.2.2.1)
def wbrh:LD:=yl (watg) yq529 [(0,yq533)] yq14 (λk v=>((k.1,k.2.1,(),k.2.2.1,k.2.2.2,v.1,()),v.2,())) yq535 yq454 (λ_ r=>yx 0 yq533 (((),()),r,()))
def wbri(a:Y1)(b:List Y1)(e:Y1)(f:Int):Tr Y1:=.g (((0:Int)<=(length a:Int))&&((length a:Int)<=(length a:Int))&&(((8:Nat):Int)*(length a:Int)<=281474976710656))<|.c _ (wbdm (e,f,b,(length b:Int)) (0,(List.replicate (toNat (length a:Int)) 0))) λh=>.l h
def wbdn a c e b:=(wbri a c e b).ev
def wcis:FP prog:=fnP cx func238 [] (yj [.agg Zh,.dat y1,.dat yi]) [] [] (yq126 wbri) ⟨[.ren 15 0],[.tmp 6],Zbh,[Zaw],[],[]⟩ yq19 noZ [(2,wbrg),(0,wbrh)]
def wbau(k:Int×Y1×Y2)(v:Int×Y1):Tr (Yap⊕Y1):=.t (v.1<k.1) (.g (inR v.1 (length v.2))<|.g ((toNat v.1)<length v.2)<|.g (inR v.1 (length k.2.1))<|.g (inR v.1 (length v.2))<|.g ((toNat v.1)<length v.2)<|.l (.inl ((wrap .i64 (v.1+1)),(set v.2 (toNat v.1) (wrap .i64 ((getD k.2.1 (toNat v.1) 0) -(getD v.2 (toNat v.1) 0))))))) (.l (.inr v.2))
def wbjn k v:=iter (λv=>(wbau k v).ev) v
abbrev yq538:Keep:=yk [] [5] (yj [.arr 640]) [(640,.arr 3 yi)]
def wbrj:LD:=yl (wbau) (yk [] [2,5,11,12,13] (yj [.box 2 0,.arr 640,.arr 640,.dat yi,.dat yi]) [Zbf,(640,.arr 3 yi)]) [(0,yq538)] yq14 (λk v=>(((),(),(),k.1,v.1,()),(k.2.1,k.2.2,()),v.2,())) (λt=>(t.1.2.2.2.1,t.2.1.1,t.2.1.2.1)) yq419 (λ_ r=>yx 0 yq538 (((),()),r,()))
def wcds(a:Y1)(e:List Y1)(g:Y1):Tr Y1:=.c _ (wbdn a e g 1) λb=>.c _ (wbjn ((length b:Int),a,e) (0,b)) λf=>.l f
def wcdt a b c:=(wcds a b c).ev
def wcos:FP prog:=fnP cx func172 [wcis] (yj [.agg Zh,.dat y1]) [] [] (yq9 wcds) ⟨[.ren 640 0],[.tmp 4],Zbh,[Zaw],[],[]⟩ yq19 noZ [(0,wbrj)]
def wbck(k:Y2×Yax)(v:Int×Y1):Tr (Yap⊕Y1):=.t (v.1<k.2.1) (.g (inR v.1 (length k.1))<|.c _ (wbex (getD k.1 (toNat v.1) [])) λa=>.g ((length v.2+length ([a]:Y1))*8<=140737488355328)<|.l (.inl ((wrap .i64 (v.1+1)),(v.2++([a]:Y1))))) (.l (.inr v.2))
def wbjo k v:=iter (λv=>(wbck k v).ev) v
abbrev yq526:Keep:=yk [] [1,4] (yj [.box 1 0,.arr 19]) [Zag,(19,.arr 3 yi)]
def wcdu:LD:=yl (wbck) (yk [] [1,4,21,22,23] (yj [.box 1 0,.arr 19,.dat y2,.dat yi,.dat yi]) [Zag,(19,.arr 3 yi)]) [(0,yq526)] yq14 (λk v=>(((),(),k.1,k.2.1,v.1,()),(k.2.2.1,k.2.2.2,()),v.2,())) yq410 yq419 (λk r=>yx 0 yq526 (((),(),()),(k.2.2.1,k.2.2.2,()),r,()))
def wats(k:Bool×Int×Y2×Int×Int×Y1×Int×Y1×Y2×Y1×Y1)(v:Int×Yah):Tr ((Int×Yah)⊕Yah):=.t (v.2.2<k.2.2.2.2.2.2.1) (.g (inR v.2.2 (length k.2.2.2.2.2.1))<|.g (inR k.2.1 (length k.2.2.2.2.2.2.2.2.2.1))<|.g ((toNat k.2.1)<length k.2.2.2.2.2.2.2.2.2.1)<|.t ((getD k.2.2.2.2.2.2.2.2.2.1 (toNat k.2.1) 0)<(getD k.2.2.2.2.2.1 (toNat v.2.2) 0)) (.t (v.1<0) (.l (.inl ((getD k.2.2.2.2.2.1 (toNat v.2.2) 0),v.2.1,(wrap .i64 (v.2.2+1))))) (.t ((getD k.2.2.2.2.2.1 (toNat v.2.2) 0)<v.1) (.l (.inl ((getD k.2.2.2.2.2.1 (toNat v.2.2) 0),v.2.1,(wrap .i64 (v.2.2+1))))) (.g (inR k.2.1 (length k.2.2.2.2.2.2.2.2.2.1))<|.g ((toNat k.2.1)<length k.2.2.2.2.2.2.2.2.2.1)<|.t ((getD k.2.2.2.2.2.1 (toNat v.2.2) 0)<=(getD k.2.2.2.2.2.2.2.2.2.1 (toNat k.2.1) 0)) (.t (v.2.1<0) (.g (inR v.2.2 (length k.2.2.2.2.2.2.2.2.2.2))<|.g ((toNat v.2.2)<length k.2.2.2.2.2.2.2.2.2.2)<|.l (.inl (v.1,(getD k.2.2.2.2.2.2.2.2.2.2 (toNat v.2.2) 0),(wrap .i64 (v.2.2+1))))) (.g (inR v.2.2 (length k.2.2.2.2.2.2.2.2.2.2))<|.g ((toNat v.2.2)<length k.2.2.2.2.2.2.2.2.2.2)<|.t ((getD k.2.2.2.2.2.2.2.2.2.2 (toNat v.2.2) 0)<v.2.1) (.g (inR v.2.2 (length k.2.2.2.2.2.2.2.2.2.2))<|.g ((toNat v.2.2)<length k.2.2.2.2.2.2.2.2.2.2)<|.l (.inl (v.1,(getD k.2.2.2.2.2.2.2.2.2.2 (toNat v.2.2) 0),(wrap .i64 (v.2.2+1))))) (.l (.inl (v.1,v.2.1,(wrap .i64 (v.2.2+1))))))) (.l (.inl (v.1,v.2.1,(wrap .i64 (v.2.2+1)))))))) (.g (inR k.2.1 (length k.2.2.2.2.2.2.2.2.2.1))<|.g ((toNat k.2.1)<length k.2.2.2.2.2.2.2.2.2.1)<|.t ((getD k.2.2.2.2.2.1 (toNat v.2.2) 0)<=(getD k.2.2.2.2.2.2.2.2.2.1 (toNat k.2.1) 0)) (.t (v.2.1<0) (.g (inR v.2.2 (length k.2.2.2.2.2.2.2.2.2.2))<|.g ((toNat v.2.2)<length k.2.2.2.2.2.2.2.2.2.2)<|.l (.inl (v.1,(getD k.2.2.2.2.2.2.2.2.2.2 (toNat v.2.2) 0),(wrap .i64 (v.2.2+1))))) (.g (inR v.2.2 (length k.2.2.2.2.2.2.2.2.2.2))<|.g ((toNat v.2.2)<length k.2.2.2.2.2.2.2.2.2.2)<|.t ((getD k.2.2.2.2.2.2.2.2.2.2 (toNat v.2.2) 0)<v.2.1) (.g (inR v.2.2 (length k.2.2.2.2.2.2.2.2.2.2))<|.g ((toNat v.2.2)<length k.2.2.2.2.2.2.2.2.2.2)<|.l (.inl (v.1,(getD k.2.2.2.2.2.2.2.2.2.2 (toNat v.2.2) 0),(wrap .i64 (v.2.2+1))))) (.l (.inl (v.1,v.2.1,(wrap .i64 (v.2.2+1))))))) (.l (.inl (v.1,v.2.1,(wrap .i64 (v.2.2+1))))))) (.l (.inr (v.1,v.2.1)))
def wbtf k v:=iter (λv=>(wats k v).ev) v
abbrev yq543:Keep:=yk [] [1,4,7,8,11,12,35,36,37] (yj [.box 1 0,.arr 19,.dat .bool,.dat yi,.dat yi,.dat yi,.dat y2,.dat yi,.dat yi]) [Zag,(19,.arr 3 yi)]
def wcdv:LD:=yl (wats) (yk [] [1,4,7,8,10,11,12,35,36,37,45,46,47] (yj [.box 1 0,.arr 19,.dat .bool,.dat yi,.arr 2816,.dat yi,.dat yi,.dat y2,.dat yi,.dat yi,.dat y1,.dat yi,.dat yi]) [Zag,(19,.arr 3 yi),(2816,.arr 3 yi)]) [(6,yq543)] yq14 (λk v=>(((),(),k.1,k.2.1,(),v.1,v.2.1,k.2.2.1,k.2.2.2.1,k.2.2.2.2.1,k.2.2.2.2.2.1,k.2.2.2.2.2.2.1,v.2.2,()),(k.2.2.2.2.2.2.2.1,k.2.2.2.2.2.2.2.2.1,()),k.2.2.2.2.2.2.2.2.2.1,k.2.2.2.2.2.2.2.2.2.2,())) (λt=>(t.1.2.2.1,t.1.2.2.2.1,t.1.2.2.2.2.2.2.2.1,t.1.2.2.2.2.2.2.2.2.1,t.1.2.2.2.2.2.2.2.2.2.1,t.1.2.2.2.2.2.2.2.2.2.2.1,t.1.2.2.2.2.2.2.2.2.2.2.2.1,t.2.1.1,t.2.1.2.1,t.2.2.1,t.2.2.2.1)) (λt=>(t.1.2.2.2.2.2.1,t.1.2.2.2.2.2.2.1,t.1.2.2.2.2.2.2.2.2.2.2.2.2.1)) (λk r=>yx 6 yq543 (((),(),k.1,k.2.1,r.1,r.2,k.2.2.1,k.2.2.2.1,k.2.2.2.2.1,()),(k.2.2.2.2.2.2.2.1,k.2.2.2.2.2.2.2.2.1,()),k.2.2.2.2.2.2.2.2.2.1,()))
def wavu(k:Y2×Yax)(v:Bool×Yap):Tr ((Bool×Yap)⊕Ybk):=.t (v.2.1<k.2.1) (.g (inR v.2.1 (length k.1))<|.c _ (wcdt k.2.2.1 k.2.2.2 v.2.2) λb=>.c _ (wbtf (v.1,v.2.1,k.1,k.2.1,v.2.1,(getD k.1 (toNat v.2.1) []),(length (getD k.1 (toNat v.2.1) []):Int),k.2.2.1,k.2.2.2,v.2.2,b) ((-1),(-1),0)) λa=>.g (inR v.2.1 (length v.2.2))<|.g ((toNat v.2.1)<length v.2.2)<|.t (0<=a.1) (.t v.1 (.g (inR v.2.1 (length v.2.2))<|.g ((toNat v.2.1)<length v.2.2)<|.l (.inl (true,(wrap .i64 (v.2.1+1)),(set v.2.2 (toNat v.2.1) (if a.1<(wrap .i64 ((getD v.2.2 (toNat v.2.1) 0)+a.2))then a.1 else(wrap .i64 ((getD v.2.2 (toNat v.2.1) 0)+a.2))))))) (.g (inR v.2.1 (length v.2.2))<|.g ((toNat v.2.1)<length v.2.2)<|.g (inR v.2.1 (length v.2.2))<|.g ((toNat v.2.1)<length v.2.2)<|.l (.inl (((getD v.2.2 (toNat v.2.1) 0)<(if a.1<(wrap .i64 ((getD v.2.2 (toNat v.2.1) 0)+a.2))then a.1 else(wrap .i64 ((getD v.2.2 (toNat v.2.1) 0)+a.2)))),(wrap .i64 (v.2.1+1)),(set v.2.2 (toNat v.2.1) (if a.1<(wrap .i64 ((getD v.2.2 (toNat v.2.1) 0)+a.2))then a.1 else(wrap .i64 ((getD v.2.2 (toNat v.2.1) 0)+a.2)))))))) (.t v.1 (.g (inR v.2.1 (length v.2.2))<|.g ((toNat v.2.1)<length v.2.2)<|.l (.inl (true,(wrap .i64 (v.2.1+1)),(set v.2.2 (toNat v.2.1) (wrap .i64 ((getD v.2.2 (toNat v.2.1) 0)+a.2)))))) (.g (inR v.2.1 (length v.2.2))<|.g ((toNat v.2.1)<length v.2.2)<|.g (inR v.2.1 (length v.2.2))<|.g ((toNat v.2.1)<length v.2.2)<|.l (.inl (((getD v.2.2 (toNat v.2.1) 0)<(wrap .i64 ((getD v.2.2 (toNat v.2.1) 0)+a.2))),(wrap .i64 (v.2.1+1)),(set v.2.2 (toNat v.2.1) (wrap .i64 ((getD v.2.2 (toNat v.2.1) 0)+a.2)))))))) (.l (.inr (v.1,v.2.2)))
def wbtg k v:=iter (λv=>(wavu k v).ev) v
abbrev yq548:Keep:=yk [] [1,4,7] (yj [.box 1 0,.arr 19,.dat .bool]) [Zag,(19,.arr 3 yi)]
def wcdw:LD:=yl (wavu) (yk [] [1,4,7,35,36,37] (yj [.box 1 0,.arr 19,.dat .bool,.dat y2,.dat yi,.dat yi]) [Zag,(19,.arr 3 yi)]) [(4,yq548)] yq14 (λk v=>(((),(),v.1,k.1,k.2.1,v.2.1,()),(k.2.2.1,k.2.2.2,()),v.2.2,())) (λt=>(t.1.2.2.2.1,t.1.2.2.2.2.1,t.2.1.1,t.2.1.2.1)) (λt=>(t.1.2.2.1,t.1.2.2.2.2.2.1,t.2.2.1)) (λk r=>yx 4 yq548 (((),(),r.1,()),(k.2.2.1,k.2.2.2,()),r.2,()))
def wbav(k:Y1×Y2)(v:Bool×Y1):Tr (Ybk⊕Y1):=.t v.1 (.c _ (wbtg (k.2,(length k.2:Int),k.1,k.2) (false,0,v.2)) λa=>.l (.inl (a.1,a.2))) (.l (.inr v.2))
def wbth k v:=iter (λv=>(wbav k v).ev) v
abbrev yq552:Keep:=yk [] [4] (yj [.arr 19]) [(19,.arr 3 yi)]
def wcdx:LD:=yl (wbav) yq548 [(2,yq552)] yq14 yq179 yq139 yq180 (λ_ r=>yx 2 yq552 (((),()),r,()))
def T_zg(b:Y1)(a:List Y1):Tr Ybk:=.c _ (wavs b a) λe=>.t (!e) (.l (false,[])) (.c _ (wbjo (a,(length a:Int),b,a) (0,[])) λf=>.c _ (wbth (b,a) (true,f)) λg=>.l (true,g))
def F_zg a b:=(T_zg a b).ev
def G_zg:FP prog:=fnP cx func110 [wbbn,wcir,wcos] (yj [.agg Zh]) [] [] (yq24 T_zg) ⟨[.own 2 0 3 yi,.ren 19 0],[.tmp 2,.tmp 3],Zbc,[Zaw],[],[]⟩ yq79 noZ [(0,wcdu),(6,wcdv),(4,wcdw),(2,wcdx)]
def T_zh(a:Y1)(e:List Y1)(f:Y1)(h:Int):Tr (Int×Bool):=.c _ (F_zi a e f h) λb=>.t (!b.2) (.l (0,false)) (.c _ (F_zg a e) λg=>.c _ (wbep g.2) λi=>.l ((wrap .i64 (b.1-i)),true))
def F_zh a c e b:=(T_zh a c e b).ev
def G_zh:FP prog:=fnP cx func103 [G_zi,G_zg,wchf] (yj [.agg Zl]) [] [] (yq27 T_zh) yq171 yq172
def wcdy(a:Y1)(e:List Y1)(b:Y1):Tr (Int×Bool):=.c _ (wbci a e b) λf=>.t (!f) (.l (0,false)) (.c _ (wbdf a e b) λg=>.l (g,true))
def wbrk a b c:=(wcdy a b c).ev
def wcot:FP prog:=fnP cx func104 [wbeo,wcbr] (yj [.agg Zh,.dat y1]) [] [] (yq9 wcdy) yq199 yq172
def wcdz(a:Y1)(e:List Y1)(b:Y1):Tr (Int×Bool):=.c _ (wbci a e b) λf=>.t (!f) (.l (0,false)) (.c _ (wbew a e b) λg=>.l (g,true))
def wbrl a b c:=(wcdz a b c).ev
def wcou:FP prog:=fnP cx func105 [wbeo,wcio] (yj [.agg Zh,.dat y1]) [] [] (yq9 wcdz) yq199 yq172
def wcea(a:Y1)(e:List Y1)(b:Y1):Tr Ybk:=.c _ (wbci a e b) λf=>.t (!f) (.l (false,[])) (.c _ (wbpy a e b) λg=>.l (true,g))
def wbrm a b c:=(wcea a b c).ev
def wcov:FP prog:=fnP cx func106 [wbeo,wchd] (yj [.agg Zh,.dat y1]) [] [] (yq9 wcea) yq514 yq79
def wbaw(k:Y1×Y1×Int×Y2×Int×Int×Y2×Int×Int×Int×Int×Yax)(v:Int):Tr (Int⊕(Unit⊕Unit)):=.t (v<k.2.2.2.2.2.2.2.2.2.2.2.1) (.g (inR k.2.2.1 (length k.1))<|.g (inR v (length k.1))<|.g (inR v (length k.2.1))<|.g (inR k.2.2.1 (length k.2.1))<|.t ((wrap .i64 ((wrap .i64 ((getD k.1 (toNat v) 0)+(getD k.2.1 (toNat v) 0)))+(getD k.2.1 (toNat k.2.2.1) 0)))<(getD k.1 (toNat k.2.2.1) 0)) (.l (.inr (.inr ()))) (.l (.inl (wrap .i64 (v+1))))) (.l (.inr (.inl ())))
def wbjp k v:=iter (λv=>(wbaw k v).ev) v
abbrev yq555:Keep:=yk [] [1,5,7,14,15,16,21,22,23,29,30] (yj [.box 1 0,.dat y1,.dat y1,.dat y2,.dat yi,.dat yi,.dat y2,.dat yi,.dat yi,.dat yi,.dat yi]) [Zag]
abbrev yq556:Keep:=yh [2,3] (yj [.dat .bool,.dat .bool])
def wbrn:LD:=yl (wbaw) (yk [] [1,5,7,8,14,15,16,21,22,23,29,30,35,36] (yj [.box 1 0,.dat y1,.dat y1,.dat yi,.dat y2,.dat yi,.dat yi,.dat y2,.dat yi,.dat yi,.dat yi,.dat yi,.dat yi,.dat yi]) [Zag]) [(6,yq555)] yq556 (λk v=>(((),k.1,k.2.1,k.2.2.1,k.2.2.2.1,k.2.2.2.2.1,k.2.2.2.2.2.1,k.2.2.2.2.2.2.1,k.2.2.2.2.2.2.2.1,k.2.2.2.2.2.2.2.2.1,k.2.2.2.2.2.2.2.2.2.1,k.2.2.2.2.2.2.2.2.2.2.1,k.2.2.2.2.2.2.2.2.2.2.2.1,v,()),(k.2.2.2.2.2.2.2.2.2.2.2.2.1,k.2.2.2.2.2.2.2.2.2.2.2.2.2,()),())) (λt=>(t.1.2.1,t.1.2.2.1,t.1.2.2.2.1,t.1.2.2.2.2.1,t.1.2.2.2.2.2.1,t.1.2.2.2.2.2.2.1,t.1.2.2.2.2.2.2.2.1,t.1.2.2.2.2.2.2.2.2.1,t.1.2.2.2.2.2.2.2.2.2.1,t.1.2.2.2.2.2.2.2.2.2.2.1,t.1.2.2.2.2.2.2.2.2.2.2.2.1,t.1.2.2.2.2.2.2.2.2.2.2.2.2.1,t.2.1.1,t.2.1.2.1)) (λt=>t.1.2.2.2.2.2.2.2.2.2.2.2.2.2.1) (λk r=>.s _ _ r (λ_=>yx 6 yq555 (((),k.1,k.2.1,k.2.2.2.1,k.2.2.2.2.1,k.2.2.2.2.2.1,k.2.2.2.2.2.2.1,k.2.2.2.2.2.2.2.1,k.2.2.2.2.2.2.2.2.1,k.2.2.2.2.2.2.2.2.2.1,k.2.2.2.2.2.2.2.2.2.2.1,()),(k.2.2.2.2.2.2.2.2.2.2.2.2.1,k.2.2.2.2.2.2.2.2.2.2.2.2.2,()),())) (λ_=>yz yq556 ((false,true,()),())))
def wbax(k:Y1×Y1×Y2×Int×Int×Y2×Int×Int×Yax)(v:Int):Tr (Int⊕(Unit⊕Unit)):=.t (v<k.2.2.2.2.2.2.2.2.1) (.c _ (wbjp (k.1,k.2.1,v,k.2.2.1,k.2.2.2.1,k.2.2.2.2.1,k.2.2.2.2.2.1,k.2.2.2.2.2.2.1,k.2.2.2.2.2.2.2.1,k.2.2.2.2.2.2.2.2.1,v,(length k.2.2.2.2.2.2.2.2.2.1:Int),k.2.2.2.2.2.2.2.2.2.1,k.2.2.2.2.2.2.2.2.2.2) 0) λa=>.s _ _ a (λ_=>.l (.inl (wrap .i64 (v+1)))) (λ_=>.l (.inr (.inr ())))) (.l (.inr (.inl ())))
def wbjq k v:=iter (λv=>(wbax k v).ev) v
abbrev yq560:Keep:=yk [] [1,5,14,15,16,21,22,23] (yj [.box 1 0,.dat y1,.dat y2,.dat yi,.dat yi,.dat y2,.dat yi,.dat yi]) [Zag]
def wbro:LD:=yl (wbax) yq555 [(4,yq560)] yq556 (λk v=>(((),k.1,k.2.1,k.2.2.1,k.2.2.2.1,k.2.2.2.2.1,k.2.2.2.2.2.1,k.2.2.2.2.2.2.1,k.2.2.2.2.2.2.2.1,k.2.2.2.2.2.2.2.2.1,v,()),(k.2.2.2.2.2.2.2.2.2.1,k.2.2.2.2.2.2.2.2.2.2,()),())) (λt=>(t.1.2.1,t.1.2.2.1,t.1.2.2.2.1,t.1.2.2.2.2.1,t.1.2.2.2.2.2.1,t.1.2.2.2.2.2.2.1,t.1.2.2.2.2.2.2.2.1,t.1.2.2.2.2.2.2.2.2.1,t.1.2.2.2.2.2.2.2.2.2.1,t.2.1.1,t.2.1.2.1)) (λt=>t.1.2.2.2.2.2.2.2.2.2.2.1) (λk r=>.s _ _ r (λ_=>yx 4 yq560 (((),k.1,k.2.2.1,k.2.2.2.1,k.2.2.2.2.1,k.2.2.2.2.2.1,k.2.2.2.2.2.2.1,k.2.2.2.2.2.2.2.1,()),(k.2.2.2.2.2.2.2.2.2.1,k.2.2.2.2.2.2.2.2.2.2,()),())) (λ_=>yz yq556 ((false,true,()),())))
def wbay(k:Y1×Y2×Int×Int×Y2×Yax)(v:Int):Tr (Int⊕(Unit⊕Unit)):=.t (v<k.2.2.2.2.2.1) (.g (inR v (length k.2.2.2.2.1))<|.c _ (wbjq (k.1,(getD k.2.2.2.2.1 (toNat v) []),k.2.1,k.2.2.1,k.2.2.2.1,k.2.2.2.2.1,k.2.2.2.2.2.1,v,(length k.2.2.2.2.2.2.1:Int),k.2.2.2.2.2.2.1,k.2.2.2.2.2.2.2) 0) λa=>.s _ _ a (λ_=>.l (.inl (wrap .i64 (v+1)))) (λ_=>.l (.inr (.inr ())))) (.l (.inr (.inl ())))
def wbjr k v:=iter (λv=>(wbay k v).ev) v
abbrev yq564:Keep:=yk [] [1,14,15,16] (yj [.box 1 0,.dat y2,.dat yi,.dat yi]) [Zag]
def wbrp:LD:=yl (wbay) yq560 [(2,yq564)] yq556 (λk v=>(((),k.1,k.2.1,k.2.2.1,k.2.2.2.1,k.2.2.2.2.1,k.2.2.2.2.2.1,v,()),(k.2.2.2.2.2.2.1,k.2.2.2.2.2.2.2,()),())) (λt=>(t.1.2.1,t.1.2.2.1,t.1.2.2.2.1,t.1.2.2.2.2.1,t.1.2.2.2.2.2.1,t.1.2.2.2.2.2.2.1,t.2.1.1,t.2.1.2.1)) (λt=>t.1.2.2.2.2.2.2.2.1) (λk r=>.s _ _ r (λ_=>yx 2 yq564 (((),k.2.1,k.2.2.1,k.2.2.2.1,()),(k.2.2.2.2.2.2.1,k.2.2.2.2.2.2.2,()),())) (λ_=>yz yq556 ((false,true,()),())))
def wbaz(k:Y2×Yax)(v:Int):Tr (Int⊕(Unit⊕Unit)):=.t (v<k.2.1) (.g (inR v (length k.1))<|.c _ (wbjr ((getD k.1 (toNat v) []),k.1,k.2.1,v,k.2.2.2,(length k.2.2.2:Int),k.2.2.1,k.2.2.2) 0) λa=>.s _ _ a (λ_=>.l (.inl (wrap .i64 (v+1)))) (λ_=>.l (.inr (.inr ())))) (.l (.inr (.inl ())))
def wbjs k v:=iter (λv=>(wbaz k v).ev) v
def wbrq:LD:=yl (wbaz) yq564 [(0,yq14)] yq556 yq209 yq210 yq39 (λ_ r=>.s _ _ r (λ_=>yx 0 yq14 ((),())) (λ_=>yz yq556 ((false,true,()),())))
def wceb(b:Y1)(a:List Y1):Tr (Bool×Bool):=.c _ (wavs b a) λf=>.t (!f) (.l (false,false)) (.c _ (wbjs (a,(length a:Int),b,a) 0) λe=>.s _ _ e (λ_=>.l (true,true)) (λ_=>.l (false,true)))
def wbjt a b:=(wceb a b).ev
def wcow:FP prog:=fnP cx func108 [wbbn] (yj [.agg Zh]) [] [] (yq24 wceb) yq213 yq172 noZ [(6,wbrn),(4,wbro),(2,wbrp),(0,wbrq)]
def wcit(b a:Bool):Tr Ybi:=.t b (.l (([121,101,115]:List UInt8),a)) (.l (([110,111]:List UInt8),a))
def wbju a b:=(wcit a b).ev
def wcox:FP prog:=fnP cx func107 [] (yj [.dat .bool,.dat .bool]) [] [] (yq1 wcit) yq374 yq172
def wbcl(k:Y2×Int)(v:Int×(List (List UInt8))):Tr ((Int×(List (List UInt8)))⊕(List (List UInt8))):=.t (v.1<k.2) (.g (inR v.1 (length k.1))<|.c _ (wbjj (getD k.1 (toNat v.1) [])) λa=>.g ((length v.2+length ([a]:List (List UInt8)))*16<=140737488355328)<|.l (.inl ((wrap .i64 (v.1+1)),(v.2++([a]:List (List UInt8)))))) (.l (.inr v.2))
def wbti k v:=iter (λv=>(wbcl k v).ev) v
abbrev yq569:Keep:=yk [] [4] (yj [.arr 13]) [(13,.arr 9 .str)]
def wcec:LD:=yl (wbcl) (yk [] [4,15,16,17] (yj [.arr 13,.dat y2,.dat yi,.dat yi]) [(13,.arr 9 .str)]) [(0,yq569)] yq14 yq363 yq8 yq88 (λ_ r=>yx 0 yq569 (((),()),r,()))
def T_zw(b:Y1)(a:List Y1):Tr Ybi:=.c _ (wavs b a) λe=>.t (!e) (.l ([],false)) (.c _ (wbjj b) λg=>.c _ (wbti (a,(length a:Int)) (0,([g]:List (List UInt8)))) λf=>.c _ (wbev f ([32,47,32]:List UInt8)) λh=>.l (h,true))
def F_zw a b:=(T_zw a b).ev
def G_zw:FP prog:=fnP cx func109 [wbbn,wcik,wcij] (yj [.agg Zh]) [] [] (yq24 T_zw) yq372 yq172 noZ [(0,wcec)]
def wbba(k:Y1×Yah)(v:Int):Tr (Int⊕(Unit⊕Int)):=.t (v<k.2.2) (.g (inR v (length k.1))<|.t (k.2.1==(getD k.1 (toNat v) 0)) (.l (.inr (.inr v))) (.l (.inl (wrap .i64 (v+1))))) (.l (.inr (.inl ())))
def wbjv k v:=iter (λv=>(wbba k v).ev) v
def wbrr:LD:=yl (wbba) (yh [0,1,7,8] (yj [.dat y1,.dat yi,.dat yi,.dat yi])) [(0,yq14)] yq5 yq37 yq38 yq39 (λ_ r=>.s _ _ r (λ_=>yx 0 yq14 ((),())) (λb=>yz yq5 ((b,()),())))
def wced(a:Y1)(b:Int):Tr Int:=.c _ (wbjv (a,b,(length a:Int)) 0) λf=>.s _ _ f (λ_=>.l (-1)) (λe=>.l e)
def wciu a b:=(wced a b).ev
def wcoy:FP prog:=fnP cx func239 [] (yj [.dat y1,.dat yi]) [] [] (yq1 wced) yq0 yq2 noZ [(0,wbrr)]
def wcee(a:Y1)(_f:List Y1):Tr Int:=.c _ (wbex a) λe=>.c _ (wciu a e) λb=>.l b
def wcef a b:=(wcee a b).ev
def wcoz:FP prog:=fnP cx func173 [wcir,wcoy] (yj [.agg Zh]) [] [] (yq24 wcee) yq70 yq2
def wbey(a:Y1)(b:Int):Option (List Int):=repeatF a b
def wcpa:FD:=fdRepeat
theorem wciv:FDok prog (240,wcpa):=hand_repeat
def wcpb:FP prog:=⟨_,wciv⟩
def wceg(a c:Int)(_e:Y1)(b:List Y1):Tr Int:=.g (inR a (length b))<|.g (inR c (length (getD b (toNat a) [])))<|.l (wrap .i64 ((getD (getD b (toNat a) []) (toNat c) 0)*(2520:Int)))
def wbjw a c e b:=(wceg a c e b).ev
abbrev yq580:RetK:=yr [.tmp 5] Zv
def wcpc:FP prog:=fnP cx func241 [] (yj [.dat yi,.dat yi,.ptr Zh]) [] [] ((λf x=>f x.1.1 x.1.2.1 x.1.2.2.1.1 x.1.2.2.1.2.1) wceg) yq580 yq2
def wceh(a c b:Int):Tr Int:=.t (c<a) (.t (b<0) (.l a) (.t (a<b) (.l a) (.l b))) (.l b)
def wbrs a b c:=(wceh a b c).ev
def wcpd:FP prog:=fnP cx func242 [] (yj [.dat yi,.ptr Zv,.box 64 0]) [(64,.cells Zv)] [.arg 2] ((λf x=>f x.1.1 x.1.2.1.1 x.2.1.1) wceh) ⟨[],[],.nil,[(64,.cells Zv)],[(2,0,64)],[]⟩ (λr=>((),(r,()),()))
def wbjx(k:Int×Int×Y1×Y2×Int×Y1×Y1)(v:Int×Y1):Tr (Yap⊕Y1):=.t (v.1<k.2.1) (.g (inR v.1 (length k.2.2.2.2.2.2))<|.g ((toNat v.1)<length k.2.2.2.2.2.2)<|.t ((getD k.2.2.2.2.2.2 (toNat v.1) 0)<(0:Int)) (.g (inR v.1 (length v.2))<|.g ((toNat v.1)<length v.2)<|.l (.inl ((wrap .i64 (v.1+1)),(set v.2 (toNat v.1) k.2.2.2.2.1)))) (.l (.inl ((wrap .i64 (v.1+1)),v.2)))) (.l (.inr v.2))
def wciw k v:=iter (λv=>(wbjx k v).ev) v
abbrev yq572:Keep:=yk [] [1,2,3,4,5,6] (yj [.box 1 0,.box 2 0,.dat yi,.box 4 0,.fn 241 (yj [.box 1 0]),.box 6 0]) [Zag,Zav,Zar,(6,.cells Zv),(25,.arr 3 yi),(1920,.arr 3 yi),Zbq]
def wcix:LD:=yl (wbjx) (yk [] [1,2,3,4,5,6,36,37] (yj [.box 1 0,.box 2 0,.dat yi,.box 4 0,.fn 241 (yj [.box 1 0]),.box 6 0,.dat yi,.dat yi]) [Zag,Zav,Zar,(6,.cells Zv),(25,.arr 3 yi),(1920,.arr 3 yi),Zbq]) [(2,yq572)] yq14 (λk v=>(((),(),k.1,(),((),()),(),k.2.1,v.1,()),(k.2.2.1,k.2.2.2.1,()),((),(),(),()),((),(),(),()),(k.2.2.2.2.1,()),v.2,k.2.2.2.2.2.1,k.2.2.2.2.2.2,())) (λt=>(t.1.2.2.1,t.1.2.2.2.2.2.2.1,t.2.1.1,t.2.1.2.1,t.2.2.2.2.1.1,t.2.2.2.2.2.2.1,t.2.2.2.2.2.2.2.1)) (λt=>(t.1.2.2.2.2.2.2.2.1,t.2.2.2.2.2.1)) (λk r=>yx 2 yq572 (((),(),k.1,(),((),()),(),()),(k.2.2.1,k.2.2.2.1,()),((),(),(),()),((),(),(),()),(k.2.2.2.2.1,()),r,k.2.2.2.2.2.1,k.2.2.2.2.2.2,()))
def wayf(k:Int×Int×Y1×Y2×Int×Ybn)(v:Int×Y1):Tr (Yap⊕Y1):=.t (v.1<k.2.1) (.g (inR v.1 (length k.2.2.2.2.2.1))<|.g ((toNat v.1)<length k.2.2.2.2.2.1)<|.g (inR v.1 (length v.2))<|.g ((toNat v.1)<length v.2)<|.t ((getD v.2 (toNat v.1) 0)<(0:Int)) (.g (inR v.1 (length k.2.2.1))<|.t ((wrap .i64 ((getD k.2.2.1 (toNat v.1) 0)*(2520:Int)))<=(getD k.2.2.2.2.2.1 (toNat v.1) 0)) (.g (inR v.1 (length v.2))<|.g ((toNat v.1)<length v.2)<|.l (.inl ((wrap .i64 (v.1+1)),(set v.2 (toNat v.1) k.2.2.2.2.1)))) (.l (.inl ((wrap .i64 (v.1+1)),v.2)))) (.l (.inl ((wrap .i64 (v.1+1)),v.2)))) (.l (.inr v.2))
def wbjy k v:=iter (λv=>(wayf k v).ev) v
def wbrt:LD:=yl (wayf) (yk [] [1,2,3,4,5,6,55,56,57] (yj [.box 1 0,.box 2 0,.dat yi,.box 4 0,.fn 241 (yj [.box 1 0]),.box 6 0,.arr 3520,.dat yi,.dat yi]) [Zag,Zav,Zar,(6,.cells Zv),(3520,.arr 3 yi),(25,.arr 3 yi),(1920,.arr 3 yi),Zbq]) [(4,yq572)] yq14 (λk v=>(((),(),k.1,(),((),()),(),(),k.2.1,v.1,()),(k.2.2.1,k.2.2.2.1,()),((),(),(),()),((),(),(),()),(k.2.2.2.2.1,()),k.2.2.2.2.2.1,k.2.2.2.2.2.2.1,v.2,k.2.2.2.2.2.2.2,())) (λt=>(t.1.2.2.1,t.1.2.2.2.2.2.2.2.1,t.2.1.1,t.2.1.2.1,t.2.2.2.2.1.1,t.2.2.2.2.2.1,t.2.2.2.2.2.2.1,t.2.2.2.2.2.2.2.2.1)) (λt=>(t.1.2.2.2.2.2.2.2.2.1,t.2.2.2.2.2.2.2.1)) (λk r=>yx 4 yq572 (((),(),k.1,(),((),()),(),()),(k.2.2.1,k.2.2.2.1,()),((),(),(),()),((),(),(),()),(k.2.2.2.2.1,()),k.2.2.2.2.2.2.1,r,k.2.2.2.2.2.2.2,()))
def waol(k:Int×Bool×Int×Int×Int×Int×Y1×Y2×Int×Y1×Y1)(v:Int×Y1):Tr (Yap⊕Y1):=.t (v.1<k.2.2.2.2.2.1) (.g (inR v.1 (length k.2.2.2.2.2.2.2.2.2.1))<|.g ((toNat v.1)<length k.2.2.2.2.2.2.2.2.2.1)<|.g (inR k.2.2.1 (length v.2))<|.g ((toNat k.2.2.1)<length v.2)<|.g (inR k.2.2.1 (length k.2.2.2.2.2.2.2.2.2.2))<|.g ((toNat k.2.2.1)<length k.2.2.2.2.2.2.2.2.2.2)<|.t ((getD k.2.2.2.2.2.2.2.2.2.2 (toNat k.2.2.1) 0)==k.2.2.2.2.2.2.2.2.1) (.t ((0:Int)<=(getD k.2.2.2.2.2.2.2.2.2.1 (toNat v.1) 0)) (.c _ (wbjw k.2.2.1 v.1 k.2.2.2.2.2.2.1 k.2.2.2.2.2.2.2.1) λa=>.t (a<=k.2.2.2.2.2.2.2.2.1) (.t ((getD v.2 (toNat k.2.2.1) 0)<(0:Int)) (.g (inR k.2.2.1 (length v.2))<|.g ((toNat k.2.2.1)<length v.2)<|.l (.inl ((wrap .i64 (v.1+1)),(set v.2 (toNat k.2.2.1) v.1)))) (.g (inR (getD v.2 (toNat k.2.2.1) 0) (length k.2.2.2.2.2.2.2.2.2.1))<|.g ((toNat (getD v.2 (toNat k.2.2.1) 0))<length k.2.2.2.2.2.2.2.2.2.1)<|.t ((getD k.2.2.2.2.2.2.2.2.2.1 (toNat v.1) 0)<(getD k.2.2.2.2.2.2.2.2.2.1 (toNat (getD v.2 (toNat k.2.2.1) 0)) 0)) (.g (inR k.2.2.1 (length v.2))<|.g ((toNat k.2.2.1)<length v.2)<|.l (.inl ((wrap .i64 (v.1+1)),(set v.2 (toNat k.2.2.1) v.1)))) (.l (.inl ((wrap .i64 (v.1+1)),v.2))))) (.l (.inl ((wrap .i64 (v.1+1)),v.2)))) (.l (.inl ((wrap .i64 (v.1+1)),v.2)))) (.l (.inl ((wrap .i64 (v.1+1)),v.2)))) (.l (.inr v.2))
def wbjz k v:=iter (λv=>(waol k v).ev) v
abbrev yq583:Keep:=yk [] [1,2,3,4,5,6,10,11,84,85] (yj [.box 1 0,.box 2 0,.dat yi,.box 4 0,.fn 241 (yj [.box 1 0]),.box 6 0,.dat .bool,.dat yi,.dat yi,.dat yi]) [Zag,Zav,Zar,(6,.cells Zv),(25,.arr 3 yi),(1920,.arr 3 yi),Zbq]
def wbru:LD:=yl (waol) (yk [] [1,2,3,4,5,6,10,11,84,85,89,90,91] (yj [.box 1 0,.box 2 0,.dat yi,.box 4 0,.fn 241 (yj [.box 1 0]),.box 6 0,.dat .bool,.dat yi,.dat yi,.dat yi,.arr 1920,.dat yi,.dat yi]) [Zag,Zav,Zar,(6,.cells Zv),(1920,.arr 3 yi),(25,.arr 3 yi),Zbq]) [(8,yq583)] yq14 (λk v=>(((),(),k.1,(),((),()),(),k.2.1,k.2.2.1,k.2.2.2.1,k.2.2.2.2.1,(),k.2.2.2.2.2.1,v.1,()),(k.2.2.2.2.2.2.1,k.2.2.2.2.2.2.2.1,()),((),(),(),()),((),(),(),()),(k.2.2.2.2.2.2.2.2.1,()),k.2.2.2.2.2.2.2.2.2.1,k.2.2.2.2.2.2.2.2.2.2,v.2,())) (λt=>(t.1.2.2.1,t.1.2.2.2.2.2.2.1,t.1.2.2.2.2.2.2.2.1,t.1.2.2.2.2.2.2.2.2.1,t.1.2.2.2.2.2.2.2.2.2.1,t.1.2.2.2.2.2.2.2.2.2.2.2.1,t.2.1.1,t.2.1.2.1,t.2.2.2.2.1.1,t.2.2.2.2.2.1,t.2.2.2.2.2.2.1)) (λt=>(t.1.2.2.2.2.2.2.2.2.2.2.2.2.1,t.2.2.2.2.2.2.2.1)) (λk r=>yx 8 yq583 (((),(),k.1,(),((),()),(),k.2.1,k.2.2.1,k.2.2.2.1,k.2.2.2.2.1,()),(k.2.2.2.2.2.2.1,k.2.2.2.2.2.2.2.1,()),((),(),(),()),((),(),(),()),(k.2.2.2.2.2.2.2.2.1,()),k.2.2.2.2.2.2.2.2.2.2,k.2.2.2.2.2.2.2.2.2.1,r,()))
def wayg(k:Int×Int×Y1×Y2×Int×Y1×Y1)(v:Bool×Yap):Tr ((Bool×Yap)⊕Ybk):=.t (v.2.1<k.2.1) (.c _ (wbjz (k.1,v.1,v.2.1,k.2.1,v.2.1,(length k.2.2.2.2.2.2:Int),k.2.2.1,k.2.2.2.1,k.2.2.2.2.1,k.2.2.2.2.2.2,k.2.2.2.2.2.1) (0,v.2.2)) λa=>.t v.1 (.l (.inl (true,(wrap .i64 (v.2.1+1)),a))) (.g (inR v.2.1 (length a))<|.g ((toNat v.2.1)<length a)<|.l (.inl (((getD a (toNat v.2.1) 0)<(0:Int)),(wrap .i64 (v.2.1+1)),a)))) (.l (.inr (v.1,v.2.2)))
def wbka k v:=iter (λv=>(wayg k v).ev) v
abbrev yq588:Keep:=yk [] [1,2,3,4,5,6,10] (yj [.box 1 0,.box 2 0,.dat yi,.box 4 0,.fn 241 (yj [.box 1 0]),.box 6 0,.dat .bool]) [Zag,Zav,Zar,(6,.cells Zv),(25,.arr 3 yi),(1920,.arr 3 yi),Zbq]
def wbrv:LD:=yl (wayg) (yk [] [1,2,3,4,5,6,10,84,85] (yj [.box 1 0,.box 2 0,.dat yi,.box 4 0,.fn 241 (yj [.box 1 0]),.box 6 0,.dat .bool,.dat yi,.dat yi]) [Zag,Zav,Zar,(6,.cells Zv),(25,.arr 3 yi),(1920,.arr 3 yi),Zbq]) [(6,yq588)] yq14 (λk v=>(((),(),k.1,(),((),()),(),v.1,k.2.1,v.2.1,()),(k.2.2.1,k.2.2.2.1,()),((),(),(),()),((),(),(),()),(k.2.2.2.2.1,()),k.2.2.2.2.2.1,k.2.2.2.2.2.2,v.2.2,())) (λt=>(t.1.2.2.1,t.1.2.2.2.2.2.2.2.1,t.2.1.1,t.2.1.2.1,t.2.2.2.2.1.1,t.2.2.2.2.2.1,t.2.2.2.2.2.2.1)) (λt=>(t.1.2.2.2.2.2.2.1,t.1.2.2.2.2.2.2.2.2.1,t.2.2.2.2.2.2.2.1)) (λk r=>yx 6 yq588 (((),(),k.1,(),((),()),(),r.1,()),(k.2.2.1,k.2.2.2.1,()),((),(),(),()),((),(),(),()),(k.2.2.2.2.1,()),k.2.2.2.2.2.1,k.2.2.2.2.2.2,r.2,()))
def wapk(k:Int×Int×Int×Int×Int×Y1×Y2×Int×Y1×Ybn)(v:Int×Yah):Tr ((Int×Yah)⊕Yah):=.t (v.2.1<k.2.2.2.2.1) (.g (inR v.2.1 (length k.2.2.2.2.2.2.2.2.2.2.2))<|.g ((toNat v.2.1)<length k.2.2.2.2.2.2.2.2.2.2.2)<|.t ((0:Int)<=(getD k.2.2.2.2.2.2.2.2.2.2.2 (toNat v.2.1) 0)) (.l (.inl (v.1,(wrap .i64 (v.2.1+1)),v.2.2))) (.c _ (wbjw v.2.1 k.2.1 k.2.2.2.2.2.1 k.2.2.2.2.2.2.1) λb=>.c _ (wbrs b k.2.2.2.2.2.2.2.1 v.2.2) λa=>.c _ (wbjw v.2.1 k.2.1 k.2.2.2.2.2.1 k.2.2.2.2.2.2.1) λe=>.t (e<=k.2.2.2.2.2.2.2.1) (.l (.inl ((wrap .i64 (v.1+1)),(wrap .i64 (v.2.1+1)),a))) (.l (.inl (v.1,(wrap .i64 (v.2.1+1)),a))))) (.l (.inr (v.1,v.2.2)))
def wbeb k v:=iter (λv=>(wapk k v).ev) v
abbrev yq596:Keep:=yk [] [1,2,3,4,5,6,15,16,17,18,19,159,160] (yj [.box 1 0,.box 2 0,.dat yi,.box 4 0,.fn 241 (yj [.box 1 0]),.box 6 0,.box 15 0,.fn 242 (yj [.box 6 0,.box 15 0]),.arr 9984,.dat yi,.dat yi,.dat yi,.dat yi]) [Zag,Zav,Zar,(6,.cells Zv),(15,.cells Zv),(9984,.arr 3 yi),(25,.arr 3 yi),(1920,.arr 3 yi),Zbq]
def wbkb:LD:=yl (wapk) (yk [] [1,2,3,4,5,6,15,16,17,18,19,159,160,163,164] (yj [.box 1 0,.box 2 0,.dat yi,.box 4 0,.fn 241 (yj [.box 1 0]),.box 6 0,.box 15 0,.fn 242 (yj [.box 6 0,.box 15 0]),.arr 9984,.dat yi,.dat yi,.dat yi,.dat yi,.dat yi,.dat yi]) [Zag,Zav,Zar,(6,.cells Zv),(15,.cells Zv),(9984,.arr 3 yi),(25,.arr 3 yi),(1920,.arr 3 yi),Zbq]) [(12,yq596)] yq14 (λk v=>(((),(),k.1,(),((),()),(),(),((),(),()),(),k.2.1,v.1,k.2.2.1,k.2.2.2.1,k.2.2.2.2.1,v.2.1,()),(k.2.2.2.2.2.1,k.2.2.2.2.2.2.1,()),((),(),(),()),((),(),(),()),(k.2.2.2.2.2.2.2.1,()),(v.2.2,()),k.2.2.2.2.2.2.2.2.1,k.2.2.2.2.2.2.2.2.2.1,k.2.2.2.2.2.2.2.2.2.2.1,k.2.2.2.2.2.2.2.2.2.2.2,())) (λt=>(t.1.2.2.1,t.1.2.2.2.2.2.2.2.2.2.1,t.1.2.2.2.2.2.2.2.2.2.2.2.1,t.1.2.2.2.2.2.2.2.2.2.2.2.2.1,t.1.2.2.2.2.2.2.2.2.2.2.2.2.2.1,t.2.1.1,t.2.1.2.1,t.2.2.2.2.1.1,t.2.2.2.2.2.2.1,t.2.2.2.2.2.2.2.1,t.2.2.2.2.2.2.2.2.1,t.2.2.2.2.2.2.2.2.2.1)) (λt=>(t.1.2.2.2.2.2.2.2.2.2.2.1,t.1.2.2.2.2.2.2.2.2.2.2.2.2.2.2.1,t.2.2.2.2.2.1.1)) (λk r=>yx 12 yq596 (((),(),k.1,(),((),()),(),(),((),(),()),(),k.2.1,r.1,k.2.2.1,k.2.2.2.1,()),(k.2.2.2.2.2.1,k.2.2.2.2.2.2.1,()),((),(),(),()),((),(),(),()),(k.2.2.2.2.2.2.2.1,()),(r.2,()),k.2.2.2.2.2.2.2.2.1,k.2.2.2.2.2.2.2.2.2.1,k.2.2.2.2.2.2.2.2.2.2.1,k.2.2.2.2.2.2.2.2.2.2.2,()))
def wapl(k:Int×Int×Y1×Y2×Int×Y1×Ybn)(v:Int×Int):Tr (Yah⊕Int):=.t (v.1<k.2.1) (.c _ (wbeb (k.1,v.1,k.2.1,v.1,k.1,k.2.2.1,k.2.2.2.1,k.2.2.2.2.1,k.2.2.2.2.2.1,k.2.2.2.2.2.2.1,k.2.2.2.2.2.2.2.1,k.2.2.2.2.2.2.2.2) (0,0,v.2)) λa=>.t (0<a.1) (.g (inR v.1 (length k.2.2.2.2.2.2.2.1))<|.g ((toNat v.1)<length k.2.2.2.2.2.2.2.1)<|.t ((getD k.2.2.2.2.2.2.2.1 (toNat v.1) 0)<(0:Int)) (.g (inR v.1 (length k.2.2.1))<|.g (inR v.1 (length k.2.2.2.2.2.1))<|.g ((toNat v.1)<length k.2.2.2.2.2.1)<|.g (!decide (a.1=0))<|.c _ (wbrs (wrap .i64 (k.2.2.2.2.1+(wrap .i64 (Int.tdiv (wrap .i64 ((wrap .i64 ((wrap .i64 ((wrap .i64 ((getD k.2.2.1 (toNat v.1) 0)*(2520:Int))) -(getD k.2.2.2.2.2.1 (toNat v.1) 0)))+a.1)) -1)) a.1)))) k.2.2.2.2.1 a.2) λb=>.l (.inl ((wrap .i64 (v.1+1)),b))) (.l (.inl ((wrap .i64 (v.1+1)),a.2)))) (.l (.inl ((wrap .i64 (v.1+1)),a.2)))) (.l (.inr v.2))
def wbec k v:=iter (λv=>(wapl k v).ev) v
abbrev yq601:Keep:=yk [] [1,2,3,4,5,6,15] (yj [.box 1 0,.box 2 0,.dat yi,.box 4 0,.fn 241 (yj [.box 1 0]),.box 6 0,.box 15 0]) [Zag,Zav,Zar,(6,.cells Zv),(15,.cells Zv),(25,.arr 3 yi),(1920,.arr 3 yi),Zbq]
def wbkc:LD:=yl (wapl) (yk [] [1,2,3,4,5,6,15,16,17,159,160] (yj [.box 1 0,.box 2 0,.dat yi,.box 4 0,.fn 241 (yj [.box 1 0]),.box 6 0,.box 15 0,.fn 242 (yj [.box 6 0,.box 15 0]),.arr 9984,.dat yi,.dat yi]) [Zag,Zav,Zar,(6,.cells Zv),(15,.cells Zv),(9984,.arr 3 yi),(25,.arr 3 yi),(1920,.arr 3 yi),Zbq]) [(10,yq601)] yq14 (λk v=>(((),(),k.1,(),((),()),(),(),((),(),()),(),k.2.1,v.1,()),(k.2.2.1,k.2.2.2.1,()),((),(),(),()),((),(),(),()),(k.2.2.2.2.1,()),(v.2,()),k.2.2.2.2.2.1,k.2.2.2.2.2.2.1,k.2.2.2.2.2.2.2.1,k.2.2.2.2.2.2.2.2,())) (λt=>(t.1.2.2.1,t.1.2.2.2.2.2.2.2.2.2.1,t.2.1.1,t.2.1.2.1,t.2.2.2.2.1.1,t.2.2.2.2.2.2.1,t.2.2.2.2.2.2.2.1,t.2.2.2.2.2.2.2.2.1,t.2.2.2.2.2.2.2.2.2.1)) (λt=>(t.1.2.2.2.2.2.2.2.2.2.2.1,t.2.2.2.2.2.1.1)) (λk r=>yx 10 yq601 (((),(),k.1,(),((),()),(),(),()),(k.2.2.1,k.2.2.2.1,()),((),(),(),()),((),(),(),()),(k.2.2.2.2.1,()),(r,()),k.2.2.2.2.2.2.1,k.2.2.2.2.2.2.2.1,k.2.2.2.2.2.2.2.2,()))
def watq(k:Int×Y1×Y2)(v:Int×Ybn):Tr ((Int×Ybn)⊕Ybn):=.c _ (wciw (k.1,k.1,k.2.1,k.2.2,v.1,v.2.2.1,v.2.2.2) (0,v.2.1)) λa=>.c _ (wbdn k.2.1 k.2.2 a 2520) λf=>.c _ (wbjy (k.1,(length f:Int),k.2.1,k.2.2,v.1,f,a,v.2.2.2) (0,v.2.2.1)) λe=>.c _ (wbka (k.1,k.1,k.2.1,k.2.2,v.1,a,e) (false,0,v.2.2.2)) λb=>.t (!b.1) (.l (.inr (a,e,b.2))) (.c _ (wbdn k.2.1 k.2.2 a 2520) λg=>.c _ (wbec (k.1,(length k.2.1:Int),k.2.1,k.2.2,v.1,g,a,e,b.2) (0,(-1))) λh=>.l (.inl (h,a,e,b.2)))
def wbbb k v:=iter (λv=>(watq k v).ev) v
abbrev yq605:Keep:=yk [] [2] (yj [.box 2 0]) [(2,.cells (yj [.arr 25,.arr 1920,.arr 2112])),(25,.arr 3 yi),(1920,.arr 3 yi),Zbq]
abbrev yq607{a b c d e g h i:Type}(t:(a×b×c×d)×(e×g×h)×i):=(t.1.2.2.1,t.2.1.1,t.2.1.2.1)
def wbrw:LD:=yl (watq) yq572 [] yq605 (λk v=>(((),(),k.1,(),((),()),(),()),(k.2.1,k.2.2,()),((),(),(),()),((),(),(),()),(v.1,()),v.2.1,v.2.2.1,v.2.2.2,())) yq607 (λt=>(t.2.2.2.2.1.1,t.2.2.2.2.2.1,t.2.2.2.2.2.2.1,t.2.2.2.2.2.2.2.1)) (λ_ r=>yz yq605 (((),()),((),(),(),()),r.1,r.2.1,r.2.2,()))
def wbrx(e:Y1)(a:List Y1):Tr Ybn:=.g (((0:Int)<=(length a:Int))&&((length a:Int)<=(length a:Int))&&(((8:Nat):Int)*(length a:Int)<=281474976710656))<|.c _ (wbey ([(-1)]:Y1) (length e:Int)) λf=>.c _ (wbey ([(-1)]:Y1) (length a:Int)) λh=>.c _ (wbbb ((length a:Int),e,a) (0,(List.replicate (toNat (length a:Int)) 0),f,h)) λb=>.l (b.1,b.2.1,b.2.2)
def wbcm a b:=(wbrx a b).ev
def wcpe:FP prog:=fnP cx func174 [wcpb,wcis,wcpc,wcpd] (yj [.agg Zh]) [] [] (yq24 wbrx) ⟨[.ren 25 1,.ren 1920 3,.ren 2112 4],[.cell 2 168],(yj [.agg (yj [.arr 1,.arr 3,.arr 4])]),[(1,.arr 3 yi),(3,.arr 3 yi),(4,.arr 3 yi)],[],[]⟩ (λr=>((((),(),(),()),()),r.1,r.2.1,r.2.2,())) (zOf [(52,[(0,[5000006])])]) [(2,wcix),(4,wbrt),(8,wbru),(6,wbrv),(12,wbkb),(10,wbkc),(0,wbrw)]
def wavi(k:Int×Int×Ybp×Int)(v:Int×Y1):Tr (Yap⊕Y1):=.t (k.1<v.1) (.g (inR v.1 (length v.2))<|.g ((toNat v.1)<length v.2)<|.g (inR (wrap .i64 (v.1-1)) (length v.2))<|.g ((toNat (wrap .i64 (v.1-1)))<length v.2)<|.c _ (k.2.2.1 ((getD v.2 (toNat v.1) 0),(getD v.2 (toNat (wrap .i64 (v.1-1))) 0),())) λa=>.t (a<0) (.g (inR (wrap .i64 (v.1-1)) (length v.2))<|.g ((toNat (wrap .i64 (v.1-1)))<length v.2)<|.g (inR v.1 (length v.2))<|.g ((toNat v.1)<length v.2)<|.g (inR v.1 (length v.2))<|.g ((toNat v.1)<length v.2)<|.g (inR (wrap .i64 (v.1-1)) (length (set v.2 (toNat v.1) (getD v.2 (toNat (wrap .i64 (v.1-1))) 0))))<|.g ((toNat (wrap .i64 (v.1-1)))<length (set v.2 (toNat v.1) (getD v.2 (toNat (wrap .i64 (v.1-1))) 0)))<|.l (.inl ((wrap .i64 (v.1-1)),(set (set v.2 (toNat v.1) (getD v.2 (toNat (wrap .i64 (v.1-1))) 0)) (toNat (wrap .i64 (v.1-1))) (getD v.2 (toNat v.1) 0))))) (.l (.inr v.2))) (.l (.inr v.2))
def wbbc k v:=iter (λv=>(wavi k v).ev) v
abbrev yq617:Keep:=yk [] [0,1,2,3,8] (yj [.arr 64,.dat yi,.dat yi,.clo [yi,yi] yi,.dat yi]) [Zba]
def wbry:LD:=yl (wavi) (yk [] [0,1,2,3,8,9] (yj [.arr 64,.dat yi,.dat yi,.clo [yi,yi] yi,.dat yi,.dat yi]) [Zba]) [(2,yq617)] yq14 yq452 yq453 yq454 (λk r=>yx 2 yq617 (((),k.1,k.2.1,k.2.2.1,k.2.2.2,()),r,()))
def wbbd(k:Int×Int×Ybp)(v:Int×Y1):Tr (Yap⊕Y1):=.t (v.1<k.2.1) (.c _ (wbbc (k.1,k.2.1,k.2.2,v.1) (v.1,v.2)) λa=>.l (.inl ((wrap .i64 (v.1+1)),a))) (.l (.inr v.2))
def wbkd k v:=iter (λv=>(wbbd k v).ev) v
abbrev yq618:Keep:=yk [] [0] (yj [.arr 64]) [Zba]
def wbrz:LD:=yl (wbbd) yq617 [(0,yq618)] yq14 yq456 yq457 yq458 (λ_ r=>yx 0 yq618 (((),()),r,()))
def wcei(a e:Int)(f:Ybp)(b:Y1):Tr Y1:=.c _ (wbkd (a,e,f) ((wrap .i64 (a+1)),b)) λg=>.l g
def wbsa c e b a:=(wcei c e b a).ev
abbrev yq619:RetK:=⟨[],[],.nil,[Zba],[(0,0,64)],[]⟩
def wcpf:FP prog:=fnP cx func277 [] (yj [.arr 64,.dat yi,.dat yi,.clo [yi,yi] yi]) [Zba] [.arg 0] (yq460 wcei) yq619 yq461 noZ [(2,wbry),(0,wbrz)]
def wbdo(k:Int×Ybp×Int)(v:Int×Yap):Tr ((Int×Yap)⊕Yap):=.t (v.2.1<=k.1) (.c _ (wbsa v.1 v.2.1 k.2.1 v.2.2) λa=>.l (.inl (v.2.1,(wrap .i64 (v.2.1+k.2.2)),a))) (.l (.inr (v.1,v.2.2)))
def wbdp k v:=iter (λv=>(wbdo k v).ev) v
abbrev yq620:Keep:=yk [] [0,1,2,6,7,8] (yj [.arr 64,.dat yi,.clo [yi,yi] yi,.dat yi,.dat yi,.dat yi]) [Zba]
abbrev yq621:Keep:=yk [] [0,1,2,6,7] (yj [.arr 64,.dat yi,.clo [yi,yi] yi,.dat yi,.dat yi]) [Zba]
def wbsb:LD:=yl (wbdo) yq620 [(0,yq621)] yq14 (λk v=>(((),k.1,k.2.1,k.2.2,v.1,v.2.1,()),v.2.2,())) yq457 (λt=>(t.1.2.2.2.2.1,t.1.2.2.2.2.2.1,t.2.1)) (λk r=>yx 0 yq621 (((),k.1,k.2.1,k.2.2,r.1,()),r.2,()))
def wbke(k:Int×Ybp×Int×Int×Yap)(_v:Unit):Tr (Unit⊕Unit):=.t (k.2.2.2.2.1<=k.1) (.f) (.l (.inr ()))
def wcej k v:=iter (λv=>(wbke k v).ev) v
abbrev yq624{a b c d e g h:Type}(k:a×b×c×d×e×g)(_v:h):=(((),k.1,k.2.1,k.2.2.1,k.2.2.2.1,k.2.2.2.2.1,()),k.2.2.2.2.2,())
abbrev yq625{a b c d e g h i j:Type}(t:(a×b×c×d×e×g×h)×i×j):=(t.1.2.1,t.1.2.2.1,t.1.2.2.2.1,t.1.2.2.2.2.1,t.1.2.2.2.2.2.1,t.2.1)
abbrev yq152{a:Type}(_t:a):=()
def wbsc:LD:=yl (wbke) yq620 [(4,yq621)] yq14 yq624 yq625 yq152 (λk _=>yx 4 yq621 (((),k.1,k.2.1,k.2.2.1,k.2.2.2.1,()),k.2.2.2.2.2,()))
def wbdq(k:Int×Ybp×Y1)(v:Int):Tr (Int⊕Unit):=.t (v<k.1) (.c _ (wcej (k.1,k.2.1,v,0,(wrap .i64 ((2:Int)*v)),k.2.2) ()) λ_=>.t ((wrap .i64 ((0:Int)+v))<k.1) (.f) (.l (.inl (wrap .i64 (v*(2:Int)))))) (.l (.inr ()))
def wbdr k v:=iter (λv=>(wbdq k v).ev) v
def wbsd:LD:=yl (wbdq) (yk [] [0,1,2,6] (yj [.arr 64,.dat yi,.clo [yi,yi] yi,.dat yi]) [Zba]) [(2,yq618)] yq14 (λk v=>(((),k.1,k.2.1,v,()),k.2.2,())) (λt=>(t.1.2.1,t.1.2.2.1,t.2.1)) yq39 (λk _=>yx 2 yq618 (((),()),k.2.2,()))
def wcek(b:Int)(a:Ybp)(g:Y1):Tr Y1:=.c _ (wbdp (b,a,20) (0,20,g)) λf=>.c _ (wbsa f.1 b a f.2) λe=>.c _ (wbdr (b,a,e) 20) λ_=>.l e
def wciy b c a:=(wcek b c a).ev
abbrev yq629{a b c d e g:Type}{z:Type _}(f:b->c->e->z)(x:(a×b×c×d)×e×g):z:=f x.1.2.1 x.1.2.2.1 x.2.1
def wcpg:FP prog:=fnP cx func243 [wcpf] (yj [.arr 64,.dat yi,.clo [yi,yi] yi]) [Zba] [.arg 0] (yq629 wcek) yq619 yq461 noZ [(0,wbsb),(4,wbsc),(2,wbsd)]
def wcel(b:Ybp)(a:Y1):Tr Y1:=.c _ (wciy (length a:Int) b a) λe=>.l e
def wcem b a:=(wcel b a).ev
def wciz:FP prog:=fnP cx func175 [wcpg] (yj [.arr 64,.clo [yi,yi] yi]) [Zba] [.arg 0] (yq491 wcel) yq619 yq461
def wcen(b e:Int)(_h a _i:Y1):Tr Int:=.g (inR b (length a))<|.g (inR e (length a))<|.c _ (F_za (getD a (toNat b) 0) (getD a (toNat e) 0)) λf=>.l f
def wbse a f b e c:=(wcen a f b e c).ev
def wcph:FP prog:=fnP cx func176 [G_za] (yj [.dat yi,.dat yi,.ptr (yj [.dat y1,.dat y1,.dat y1])]) [] [] ((λf x=>f x.1.1 x.1.2.1 x.1.2.2.1.1 x.1.2.2.1.2.1 x.1.2.2.1.2.2.1) wcen) yq580 yq2
def wavn(k:Int×Int×Y2×Int×Ybn)(v:Int):Tr (Int⊕(Unit⊕Unit)):=.t (v<k.2.2.2.1) (.g (inR v (length k.2.2.1))<|.g (inR v (length k.2.2.2.2.1))<|.g (inR k.1 (length (getD k.2.2.1 (toNat v) [])))<|.t ((wrap .i64 ((getD (getD k.2.2.1 (toNat v) []) (toNat k.1) 0)*(2520:Int)))<(getD k.2.2.2.2.1 (toNat v) 0)) (.g (inR v (length k.2.2.2.2.1))<|.g (inR k.2.1 (length (getD k.2.2.1 (toNat v) [])))<|.t ((wrap .i64 ((getD (getD k.2.2.1 (toNat v) []) (toNat k.2.1) 0)*(2520:Int)))<(getD k.2.2.2.2.1 (toNat v) 0)) (.l (.inr (.inr ()))) (.l (.inl (wrap .i64 (v+1))))) (.l (.inl (wrap .i64 (v+1))))) (.l (.inr (.inl ())))
def wbkf k v:=iter (λv=>(wavn k v).ev) v
def wbsf:LD:=yl (wavn) (yk [] [2,3,5,12,13,14] (yj [.dat yi,.dat yi,.box 5 0,.dat y2,.dat yi,.dat yi]) [(5,.cells (yj [.dat y1,.dat y1,.dat y1]))]) [(0,yq14)] yq279 (λk v=>((k.1,k.2.1,(),k.2.2.1,k.2.2.2.1,v,()),(k.2.2.2.2.1,k.2.2.2.2.2.1,k.2.2.2.2.2.2,()),())) (λt=>(t.1.1,t.1.2.1,t.1.2.2.2.1,t.1.2.2.2.2.1,t.2.1.1,t.2.1.2.1,t.2.1.2.2.1)) (λt=>t.1.2.2.2.2.2.1) (λ_ r=>.s _ _ r (λ_=>yx 0 yq14 ((),())) (λ_=>yz yq279 ((true,()),())))
def wceo(_j:Y1)(a:List Y1)(b g f:Y1)(e h:Int):Tr Bool:=.c _ (wbkf (e,h,a,(length a:Int),b,g,f) 0) λi=>.s _ _ i (λ_=>.l false) (λ_=>.l true)
def wcep a h b f e c g:=(wceo a h b f e c g).ev
def wcpi:FP prog:=fnP cx func179 [] (yj [.agg Zh,.agg (yj [.dat y1,.dat y1,.dat y1]),.dat yi,.dat yi]) [] [] ((λf x=>f x.1.1.1 x.1.1.2.1 x.1.2.1.1 x.1.2.1.2.1 x.1.2.1.2.2.1 x.1.2.2.1 x.1.2.2.2.1) wceo) yq282 yq2 noZ [(0,wbsf)]
def wceq(a:Int)(j:Y1)(e:List Y1)(h g f:Y1)(i:Int):Tr Bool:=.c _ (wcep j e h g f i a) λb=>.l b
def wbsg a h b f e c g:=(wceq a h b f e c g).ev
def wcpj:FP prog:=fnP cx func178 [wcpi] (yj [.dat yi,.ptr Zh,.ptr (yj [.dat y1,.dat y1,.dat y1]),.ptr Zv]) [] [] ((λf x=>f x.1.1 x.1.2.1.1 x.1.2.1.2.1 x.1.2.2.1.1 x.1.2.2.1.2.1 x.1.2.2.1.2.2.1 x.1.2.2.2.1.1) wceq) (yr [.tmp 5] (yj [.dat .bool])) yq2
def T_zb(a b:Int):Tr Bool:=.c _ (F_zd a) λf=>.t f (.c _ (F_zd b) λe=>.t (!e) (.l true) (.l (a<b))) (.l (a<b))
def F_zb a b:=(T_zb a b).ev
def G_zb:FP prog:=fnP cx func285 [G_zd] (yj [.dat yi,.dat yi]) [] [] (yq1 T_zb) yq47 yq2
def wavr(k:Int×Yah)(v:Int×Y1):Tr (Yap⊕Y1):=.t (k.1<v.1) (.g (inR v.1 (length v.2))<|.g ((toNat v.1)<length v.2)<|.g (inR (wrap .i64 (v.1-1)) (length v.2))<|.g ((toNat (wrap .i64 (v.1-1)))<length v.2)<|.c _ (F_zb (getD v.2 (toNat v.1) 0) (getD v.2 (toNat (wrap .i64 (v.1-1))) 0)) λa=>.t a (.g (inR (wrap .i64 (v.1-1)) (length v.2))<|.g ((toNat (wrap .i64 (v.1-1)))<length v.2)<|.g (inR v.1 (length v.2))<|.g ((toNat v.1)<length v.2)<|.g (inR v.1 (length v.2))<|.g ((toNat v.1)<length v.2)<|.g (inR (wrap .i64 (v.1-1)) (length (set v.2 (toNat v.1) (getD v.2 (toNat (wrap .i64 (v.1-1))) 0))))<|.g ((toNat (wrap .i64 (v.1-1)))<length (set v.2 (toNat v.1) (getD v.2 (toNat (wrap .i64 (v.1-1))) 0)))<|.l (.inl ((wrap .i64 (v.1-1)),(set (set v.2 (toNat v.1) (getD v.2 (toNat (wrap .i64 (v.1-1))) 0)) (toNat (wrap .i64 (v.1-1))) (getD v.2 (toNat v.1) 0))))) (.l (.inr v.2))) (.l (.inr v.2))
def wbbe k v:=iter (λv=>(wavr k v).ev) v
abbrev yq643:Keep:=yk [] [0,1,2,6] (yj [.arr 64,.dat yi,.dat yi,.dat yi]) [Zba]
def wbsh:LD:=yl (wavr) (yk [] [0,1,2,6,7] (yj [.arr 64,.dat yi,.dat yi,.dat yi,.dat yi]) [Zba]) [(2,yq643)] yq14 yq456 yq457 yq458 (λk r=>yx 2 yq643 (((),k.1,k.2.1,k.2.2,()),r,()))
def wbbf(k:Int×Int)(v:Int×Y1):Tr (Yap⊕Y1):=.t (v.1<k.2) (.c _ (wbbe (k.1,k.2,v.1) (v.1,v.2)) λa=>.l (.inl ((wrap .i64 (v.1+1)),a))) (.l (.inr v.2))
def wbkg k v:=iter (λv=>(wbbf k v).ev) v
def wbsi:LD:=yl (wbbf) yq643 [(0,yq618)] yq14 yq363 yq8 yq88 (λ_ r=>yx 0 yq618 (((),()),r,()))
def wcer(a f:Int)(b:Y1):Tr Y1:=.c _ (wbkg (a,f) ((wrap .i64 (a+1)),b)) λe=>.l e
def wces b c a:=(wcer b c a).ev
def wcpk:FP prog:=fnP cx func279 [G_zb] (yj [.arr 64,.dat yi,.dat yi]) [Zba] [.arg 0] (yq629 wcer) yq619 yq461 noZ [(2,wbsh),(0,wbsi)]
def wbds(k:Int×Int×Int×Bool×Ybk)(_v:Unit):Tr (Unit⊕Y1):=.t ((wrap .i64 (k.2.1-k.1))<=(12:Int)) (.c _ (wces k.1 k.2.1 k.2.2.2.2.2) λa=>.l (.inr a)) (.t (k.2.2.1==0) (.f) (.g (!k.2.2.2.1)<|.f))
def wbdt k v:=iter (λv=>(wbds k v).ev) v
def wbsj:LD:=yl (wbds) (yk [] [0,1,2,3,8,9] (yj [.arr 64,.dat yi,.dat yi,.dat yi,.dat .bool,.dat .bool]) [Zba]) [] yq618 yq624 yq625 yq152 (λ_ r=>yz yq618 (((),()),r,()))
def wcet(g b f:Int)(a:Y1):Tr Y1:=.c _ (wbdt (g,b,f,true,true,a) ()) λe=>.l e
def wcja c e b a:=(wcet c e b a).ev
def wcpl:FP prog:=fnP cx func245 [wcpk] (yj [.arr 64,.dat yi,.dat yi,.dat yi]) [Zba] [.arg 0] (yq460 wcet) yq619 yq461 noZ [(0,wbsj)]
def wceu(a:Y1):Tr Y1:=.c _ (wbqf (wrap .u64 (length a:Int))) λe=>.c _ (wcja 0 (length a:Int) e a) λb=>.l b
def wcev a:=(wceu a).ev
def wcpm:FP prog:=fnP cx func180 [wccb,wcpl] (yj [.arr 64]) [Zba] [.arg 0] ((λf x=>f x.2.1) wceu) yq619 yq461
def wayh(k:Int×Y1×Y2×Ybn)(v:Int×Y1):Tr (Yap⊕Y1):=.t (v.1<k.1) (.g (inR v.1 (length k.2.2.2.1))<|.g ((toNat v.1)<length k.2.2.2.1)<|.t ((0:Int)<=(getD k.2.2.2.1 (toNat v.1) 0)) (.g ((length v.2+length ([v.1]:Y1))*8<=140737488355328)<|.l (.inl ((wrap .i64 (v.1+1)),(v.2++([v.1]:Y1))))) (.l (.inl ((wrap .i64 (v.1+1)),v.2)))) (.l (.inr v.2))
def wbdu k v:=iter (λv=>(wayh k v).ev) v
abbrev yq612:Keep:=yk [] [1,4,5] (yj [.box 1 0,.box 4 0,.arr 23]) [Zag,(4,.cells (yj [.arr 1409,.arr 1411,.arr 1412])),(23,.arr 3 yi),(1409,.arr 3 yi),(1411,.arr 3 yi),(1412,.arr 3 yi)]
abbrev yq615{a b c d e g h i j l m:Type}(t:(a×b×c×d×e×g×h)×i×j×l×m):=(t.1.2.2.2.2.2.1,t.2.2.2.1)
def wbsk:LD:=yl (wayh) (yk [] [1,4,5,25,26,27] (yj [.box 1 0,.box 4 0,.arr 23,.arr 1411,.dat yi,.dat yi]) [Zag,(4,.cells (yj [.arr 1409,.arr 1411,.arr 1412])),(23,.arr 3 yi),(1411,.arr 3 yi),(1409,.arr 3 yi),(1412,.arr 3 yi)]) [(0,yq612)] yq14 (λk v=>(((),(),(),(),k.1,v.1,()),(k.2.1,k.2.2.1,()),((),(),(),()),v.2,k.2.2.2.1,k.2.2.2.2.1,k.2.2.2.2.2,())) (λt=>(t.1.2.2.2.2.1,t.2.1.1,t.2.1.2.1,t.2.2.2.2.1,t.2.2.2.2.2.1,t.2.2.2.2.2.2.1)) yq615 (λk r=>yx 0 yq612 (((),(),(),()),(k.2.1,k.2.2.1,()),((),(),(),()),r,k.2.2.2.2.1,k.2.2.2.1,k.2.2.2.2.2,()))
def wbez(k:Int×Y1×Y2×Y1×Ybn)(v:Int×Y1):Tr (Yap⊕Y1):=.t (v.1<k.1) (.g (inR v.1 (length k.2.2.2.1))<|.g ((toNat v.1)<length k.2.2.2.1)<|.c _ (wbou v.2 (λb=>Option.bind (wbsg b.1 k.2.1 k.2.2.1 k.2.2.2.2.1 k.2.2.2.2.2.1 k.2.2.2.2.2.2 (getD k.2.2.2.1 (toNat v.1) 0)) λa=>some a)) λe=>.t (!e) (.g ((length v.2+length ([(getD k.2.2.2.1 (toNat v.1) 0)]:Y1))*8<=140737488355328)<|.l (.inl ((wrap .i64 (v.1+1)),(v.2++([(getD k.2.2.2.1 (toNat v.1) 0)]:Y1))))) (.l (.inl ((wrap .i64 (v.1+1)),v.2)))) (.l (.inr v.2))
def wcjb k v:=iter (λv=>(wbez k v).ev) v
abbrev yq639:Keep:=yk [] [8] (yj [.arr 42]) [(42,.arr 3 yi)]
def wcjc:LD:=yl (wbez) (yk [] [1,4,8,43,44,45] (yj [.box 1 0,.box 4 0,.arr 42,.arr 23,.dat yi,.dat yi]) [Zag,(4,.cells (yj [.arr 1409,.arr 1411,.arr 1412])),(42,.arr 3 yi),(23,.arr 3 yi),(1409,.arr 3 yi),(1411,.arr 3 yi),(1412,.arr 3 yi)]) [(2,yq639)] yq14 (λk v=>(((),(),(),(),k.1,v.1,()),(k.2.1,k.2.2.1,()),((),(),(),()),v.2,k.2.2.2.1,k.2.2.2.2.1,k.2.2.2.2.2.1,k.2.2.2.2.2.2,())) (λt=>(t.1.2.2.2.2.1,t.2.1.1,t.2.1.2.1,t.2.2.2.2.1,t.2.2.2.2.2.1,t.2.2.2.2.2.2.1,t.2.2.2.2.2.2.2.1)) yq615 (λ_ r=>yx 2 yq639 (((),()),r,()))
def wbsl(e:Y1)(b:List Y1):Tr Ybk:=.c _ (wavs e b) λi=>.t (!i) (.l (false,[])) (.t ((length b:Int)==(0:Int)) (.c _ (wcef e b) λm=>.l (true,([m]:Y1))) (.c _ (wbcm e b) λa=>.c _ (wbdu ((length a.2.1:Int),e,b,a.2.1,a.1,a.2.2) (0,[])) λj=>.c _ (wcem (λf=>Option.bind (wbse f.1 f.2.1 a.1 a.2.1 a.2.2) λn=>some n) j) λg=>.c _ (wcjb ((length g:Int),e,b,g,a.1,a.2.1,a.2.2) (0,[])) λh=>.c _ (wcev h) λo=>.l (true,o)))
def wbdv a b:=(wbsl a b).ev
def wcpn:FP prog:=fnP cx func111 [wbbn,wcoz,wcpe,wciz,wbov,wcpm,wbov,wcpj,wciz,wcph] (yj [.agg Zh]) [] [] (yq24 wbsl) ⟨[.own 2 0 3 yi,.ren 20 0,.ren 42 0],[.tmp 2,.tmp 3],Zbc,[Zaw],[],[]⟩ yq79 noZ [(0,wbsk),(2,wcjc)]
def wcew(a:Y1)(e:List Y1)(b:Y1):Tr (Bool×Bool):=.c _ (wbci a e b) λf=>.t (!f) (.l (false,false)) (.c _ (F_zy a e b) λg=>.l ((!g.1),true))
def wbsm a b c:=(wcew a b c).ev
def wcpo:FP prog:=fnP cx func112 [wbeo,G_zy] (yj [.agg Zh,.dat y1]) [] [] (yq9 wcew) yq298 yq172
def wbbg(k:Int×Int×Y2×Int)(v:Int×Int):Tr (Yah⊕Int):=.t (v.2<k.2.2.2) (.g (inR v.2 (length k.2.2.1))<|.g (inR k.1 (length (getD k.2.2.1 (toNat v.2) [])))<|.g (inR k.2.1 (length (getD k.2.2.1 (toNat v.2) [])))<|.t ((getD (getD k.2.2.1 (toNat v.2) []) (toNat k.1) 0)<(getD (getD k.2.2.1 (toNat v.2) []) (toNat k.2.1) 0)) (.l (.inl ((wrap .i64 (v.1+1)),(wrap .i64 (v.2+1))))) (.l (.inl (v.1,(wrap .i64 (v.2+1)))))) (.l (.inr v.1))
def wbkh k v:=iter (λv=>(wbbg k v).ev) v
def wbsn:LD:=yl (wbbg) (yh [1,2,7,11,12,13] (yj [.dat yi,.dat yi,.dat yi,.dat y2,.dat yi,.dat yi])) [(0,yq121)] yq14 (λk v=>((k.1,k.2.1,v.1,k.2.2.1,k.2.2.2,v.2,()),())) yq535 yq415 (λ_ r=>yx 0 yq121 ((r,()),()))
def wcex(_g:Y1)(a:List Y1)(e f:Int):Tr Int:=.c _ (wbkh (e,f,a,(length a:Int)) (0,0)) λb=>.l b
def wbso a c e b:=(wcex a c e b).ev
def wcpp:FP prog:=fnP cx func182 [] (yj [.agg Zh,.dat yi,.dat yi]) [] [] (yq126 wcex) yq125 yq2 noZ [(0,wbsn)]
def wbbh(k:Int×Int×Int×Int×Ybm)(v:Bool×Int):Tr ((Bool×Int)⊕Bool):=.t (v.2<k.2.2.2.1) (.t v.1 (.l (.inl (true,(wrap .i64 (v.2+1))))) (.c _ (wbso k.2.2.2.2.1 k.2.2.2.2.2.1 v.2 k.1) λb=>.c _ (wbso k.2.2.2.2.1 k.2.2.2.2.2.1 k.1 v.2) λa=>.l (.inl ((a<b),(wrap .i64 (v.2+1)))))) (.l (.inr v.1))
def wbki k v:=iter (λv=>(wbbh k v).ev) v
abbrev yq650:Keep:=yk [] [1,4,5,6,14,15] (yj [.box 1 0,.arr 11,.dat yi,.dat .bool,.dat yi,.dat yi]) [Zag,(11,.arr 3 yi)]
def wbsp:LD:=yl (wbbh) (yk [] [1,4,5,6,14,15,20,21] (yj [.box 1 0,.arr 11,.dat yi,.dat .bool,.dat yi,.dat yi,.dat yi,.dat yi]) [Zag,(11,.arr 3 yi)]) [(2,yq650)] yq14 (λk v=>(((),(),k.1,v.1,k.2.1,k.2.2.1,k.2.2.2.1,v.2,()),(k.2.2.2.2.1,k.2.2.2.2.2.1,()),k.2.2.2.2.2.2,())) (λt=>(t.1.2.2.1,t.1.2.2.2.2.1,t.1.2.2.2.2.2.1,t.1.2.2.2.2.2.2.1,t.2.1.1,t.2.1.2.1,t.2.2.1)) (λt=>(t.1.2.2.2.1,t.1.2.2.2.2.2.2.2.1)) (λk r=>yx 2 yq650 (((),(),k.1,r,k.2.1,k.2.2.1,()),(k.2.2.2.2.1,k.2.2.2.2.2.1,()),k.2.2.2.2.2.2,()))
def wbbi(k:Int×Y1×Y2)(v:Int×Y1):Tr (Yap⊕Y1):=.t (v.1<k.1) (.c _ (wbki (v.1,k.1,v.1,(length k.2.1:Int),k.2.1,k.2.2,v.2) (false,0)) λa=>.t (!a) (.g ((length v.2+length ([v.1]:Y1))*8<=140737488355328)<|.l (.inl ((wrap .i64 (v.1+1)),(v.2++([v.1]:Y1))))) (.l (.inl ((wrap .i64 (v.1+1)),v.2)))) (.l (.inr v.2))
def wbkj k v:=iter (λv=>(wbbi k v).ev) v
abbrev yq655:Keep:=yk [] [4] (yj [.arr 11]) [(11,.arr 3 yi)]
def wbsq:LD:=yl (wbbi) (yk [] [1,4,14,15] (yj [.box 1 0,.arr 11,.dat yi,.dat yi]) [Zag,(11,.arr 3 yi)]) [(0,yq655)] yq14 (λk v=>(((),(),k.1,v.1,()),(k.2.1,k.2.2,()),v.2,())) yq607 yq203 (λ_ r=>yx 0 yq655 (((),()),r,()))
def wcey(a:Y1)(b:List Y1):Tr Ybk:=.c _ (wavs a b) λf=>.t (!f) (.l (false,[])) (.c _ (wbkj ((length a:Int),a,b) (0,[])) λe=>.l (true,e))
def wbsr a b:=(wcey a b).ev
def wcpq:FP prog:=fnP cx func113 [wbbn,wcpp] (yj [.agg Zh]) [] [] (yq24 wcey) ⟨[.own 2 0 3 yi,.ren 11 0],[.tmp 2,.tmp 3],Zbc,[Zaw],[],[]⟩ yq79 noZ [(2,wbsp),(0,wbsq)]
def T_zj(b:Y1)(a:List Y1)(f:Y1)(i:Int)(e:List UInt8)(h:Y1):Tr Ybi:=.t ((length h:Int)==(1:Int)) (.t (e==([109,101,100,105,97,110]:List UInt8)) (.g (inR 0 (length h))<|.c _ (wbra b a (getD h (toNat 0) 0)) λq=>.c _ (F_zl q.2 q.1) λau=>.l (au.1,au.2)) (.t (e==([99,101,110,116,114,101,115]:List UInt8)) (.g (inR 0 (length h))<|.c _ (F_zp b a (getD h (toNat 0) 0)) λbg=>.c _ (F_zl bg.2 bg.1) λan=>.l (an.1,an.2)) (.t (e==([102,97,114]:List UInt8)) (.g (inR 0 (length h))<|.c _ (wcdq b a (getD h (toNat 0) 0)) λam=>.c _ (F_zl am.1 am.2) λbb=>.l (bb.1,bb.2)) (.t ((0:Int)<(length h:Int)) (.l ([],false)) (.t (e==([116,111,116,97,108]:List UInt8)) (.c _ (F_zi b a f i) λak=>.c _ (F_zk ak.1 ak.2) λm=>.l (m.1,m.2)) (.t (e==([103,97,112]:List UInt8)) (.c _ (F_zh b a f i) λar=>.c _ (F_zk ar.1 ar.2) λaa=>.l (aa.1,aa.2)) (.t (e==([115,101,114,118,105,99,101]:List UInt8)) (.c _ (wbrk b a f) λz=>.c _ (F_zk z.1 z.2) λap=>.l (ap.1,ap.2)) (.t (e==([114,101,97,99,104]:List UInt8)) (.c _ (wbrl b a f) λbh=>.c _ (F_zk bh.1 bh.2) λbe=>.l (be.1,be.2)) (.t (e==([115,101,114,118,101,100]:List UInt8)) (.c _ (wbrm b a f) λaq=>.c _ (F_zl aq.2 aq.1) λbc=>.l (bc.1,bc.2)) (.t (e==([109,101,116,114,105,99]:List UInt8)) (.c _ (wbjt b a) λad=>.c _ (wbju ad.1 ad.2) λo=>.l (o.1,o.2)) (.t (e==([102,105,101,108,100]:List UInt8)) (.c _ (F_zw b a) λbl=>.l (bl.1,bl.2)) (.t (e==([112,114,105,99,101,115]:List UInt8)) (.c _ (F_zg b a) λbi=>.c _ (F_zl bi.2 bi.1) λba=>.l (ba.1,ba.2)) (.t (e==([103,114,111,119,116,104]:List UInt8)) (.c _ (wbdv b a) λbj=>.c _ (F_zl bj.2 bj.1) λah=>.l (ah.1,ah.2)) (.t (e==([108,111,99,97,108]:List UInt8)) (.c _ (wbsm b a f) λr=>.c _ (wbju r.1 r.2) λaf=>.l (af.1,af.2)) (.t (e==([117,110,98,101,97,116,101,110]:List UInt8)) (.c _ (wbsr b a) λn=>.c _ (F_zl n.2 n.1) λy=>.l (y.1,y.2)) (.l ([],false))))))))))))))))) (.t ((0:Int)<(length h:Int)) (.l ([],false)) (.t (e==([116,111,116,97,108]:List UInt8)) (.c _ (F_zi b a f i) λbf=>.c _ (F_zk bf.1 bf.2) λao=>.l (ao.1,ao.2)) (.t (e==([103,97,112]:List UInt8)) (.c _ (F_zh b a f i) λab=>.c _ (F_zk ab.1 ab.2) λai=>.l (ai.1,ai.2)) (.t (e==([115,101,114,118,105,99,101]:List UInt8)) (.c _ (wbrk b a f) λu=>.c _ (F_zk u.1 u.2) λaz=>.l (az.1,az.2)) (.t (e==([114,101,97,99,104]:List UInt8)) (.c _ (wbrl b a f) λay=>.c _ (F_zk ay.1 ay.2) λj=>.l (j.1,j.2)) (.t (e==([115,101,114,118,101,100]:List UInt8)) (.c _ (wbrm b a f) λae=>.c _ (F_zl ae.2 ae.1) λw=>.l (w.1,w.2)) (.t (e==([109,101,116,114,105,99]:List UInt8)) (.c _ (wbjt b a) λac=>.c _ (wbju ac.1 ac.2) λp=>.l (p.1,p.2)) (.t (e==([102,105,101,108,100]:List UInt8)) (.c _ (F_zw b a) λbk=>.l (bk.1,bk.2)) (.t (e==([112,114,105,99,101,115]:List UInt8)) (.c _ (F_zg b a) λav=>.c _ (F_zl av.2 av.1) λaj=>.l (aj.1,aj.2)) (.t (e==([103,114,111,119,116,104]:List UInt8)) (.c _ (wbdv b a) λaw=>.c _ (F_zl aw.2 aw.1) λbd=>.l (bd.1,bd.2)) (.t (e==([108,111,99,97,108]:List UInt8)) (.c _ (wbsm b a f) λal=>.c _ (wbju al.1 al.2) λs=>.l (s.1,s.2)) (.t (e==([117,110,98,101,97,116,101,110]:List UInt8)) (.c _ (wbsr b a) λax=>.c _ (F_zl ax.2 ax.1) λag=>.l (ag.1,ag.2)) (.l ([],false))))))))))))))
def F_zj a g b f e c:=(T_zj a g b f e c).ev
def G_zj:FP prog:=fnP cx func71 [wcok,G_zl,G_zp,wcoq,G_zi,G_zk,G_zh,wcot,wcou,wcov,wcow,wcox,G_zw,G_zg,wcpn,wcpo,wcpq] (yj [.agg Zl,.dat .str,.dat y1]) [] [] (yq341 T_zj) (yr [.tmp 6,.tmp 7] (yj [.dat .str,.dat .bool])) yq172
def wbbr(k:(List (List UInt8))×(List (List UInt8))×Int×Y1×Y2×Y1×Yah)(v:Int×Y1):Tr (Yap⊕(Y1⊕Unit)):=.t (v.1<k.2.2.1) (.g (inR v.1 (length k.2.1))<|.c _ (wcbd (getD k.2.1 (toNat v.1) [])) λa=>.t (!a.2) (.l (.inr (.inr ()))) (.g ((length v.2+length ([a.1]:Y1))*8<=140737488355328)<|.l (.inl ((wrap .i64 (v.1+1)),(v.2++([a.1]:Y1)))))) (.l (.inr (.inl v.2)))
def wbtk k v:=iter (λv=>(wbbr k v).ev) v
abbrev yq380:Keep:=yk [] [2,4,7,8] (yj [.box 2 0,.box 4 0,.dat (.slice .str),.arr 18]) [(2,.cells Zl),Zas,(18,.arr 3 yi)]
abbrev yq381:Keep:=yk [] [4,5,6] (yj [.box 4 0,.dat .str,.dat .bool]) [(4,.cells Zl)]
def wcez:LD:=yl (wbbr) (yk [] [2,4,7,8,20,21,22] (yj [.box 2 0,.box 4 0,.dat (.slice .str),.arr 18,.dat (.slice .str),.dat yi,.dat yi]) [(2,.cells Zl),Zas,(18,.arr 3 yi)]) [(0,yq380)] yq381 (λk v=>(((),(),k.1,(),k.2.1,k.2.2.1,v.1,()),(k.2.2.2.1,k.2.2.2.2.1,k.2.2.2.2.2.1,k.2.2.2.2.2.2.1,()),((),(),(),k.2.2.2.2.2.2.2,()),v.2,())) (λt=>(t.1.2.2.1,t.1.2.2.2.2.1,t.1.2.2.2.2.2.1,t.2.1.1,t.2.1.2.1,t.2.1.2.2.1,t.2.1.2.2.2.1,t.2.2.1.2.2.2.1)) yq384 (λk r=>.s Y1 Unit r (λa=>yx 0 yq380 (((),(),k.1,(),()),(k.2.2.2.1,k.2.2.2.2.1,k.2.2.2.2.2.1,k.2.2.2.2.2.2.1,()),((),(),(),k.2.2.2.2.2.2.2,()),a,())) (λ_=>yz yq381 (((),[],false,()),(k.2.2.2.1,k.2.2.2.2.1,k.2.2.2.2.2.1,k.2.2.2.2.2.2.1,()),())))
def T_zo(e:Y1)(i:List Y1)(f:Y1)(h:Int)(p:List UInt8):Tr (Y1×Y2×Y1×Int×Ybi):=.c _ (wcbc p ([32]:List UInt8)) λa=>.g (((0:Int)<=(1:Int))&&((1:Int)<=(length a:Int)))<|.c _ (wbtk (a,(List.drop (toNat 1) (List.take (length a) a)),(length (List.drop (toNat 1) (List.take (length a) a)):Int),e,i,f,h,0) (0,[])) λo=>.s Y1 Unit o (λm=>.g (inR 0 (length a))<|.c _ (wayl (getD a (toNat 0) [])) λn=>.t (0<n) (.c _ (F_zn e i f h n m) λb=>.l (b.1,b.2.1,b.2.2.1,b.2.2.2.1,b.2.2.2.2.1,b.2.2.2.2.2)) (.g (inR 0 (length a))<|.c _ (F_zj e i f h (getD a (toNat 0) []) m) λj=>.l (e,i,f,h,j.1,j.2))) (λ_=>.l (e,i,f,h,[],false))
def F_zo a f b e c:=(T_zo a f b e c).ev
def G_zo:FP prog:=fnP cx func40 [wcmy,wcna,wcnd,G_zn,G_zj] (yj [.agg Zl,.dat .str]) [] [] (yq10 T_zo) (yr [.cell 4 36,.tmp 5,.tmp 6] (yj [.agg Zl,.dat .str,.dat .bool])) (λr=>(((r.1,r.2.1,r.2.2.1,r.2.2.2.1,()),r.2.2.2.2.1,r.2.2.2.2.2,()),())) (zOf [(3,[(1,[19])]),(13,[(3,[47])])]) [(0,wcez)]
def T_zf(e b:List UInt8)(a:Int)(h f:List UInt8):Tr ((List UInt8)×(List UInt8)×Yah):=.c _ (wbih e b a) λj=>.t (!j) (.l (e,b,a,1)) (.c _ (wbif h f) λm=>.t (!m) (.l (e,b,a,1)) (.t (a==60) (.l (e,b,a,2)) (.c _ (F_zu a h f) λi=>.g (length b+length i.1<=9223372036854775807)<|.l (e,(b++i.1),(wrap .i64 (a+1)),0))))
def F_zf a f b e c:=(T_zf a f b e c).ev
def G_zf:FP prog:=fnP cx func41 [wcaz,wcaw,G_zu] (yj [.agg Zau,.agg Zbg]) [] [] (yq343 T_zf) yq342 yq344
def T_zv(n:Y1)(q:List Y1)(o:Y1)(p:Int)(g f:List UInt8)(e:Int)(h:List UInt8):Tr (Y1×Y2×Y1×Int×(List UInt8)×(List UInt8)×Int×(List UInt8)):=.c _ (F_zm n q o p) λa=>.c _ (wcbb n q o p g f e) λr=>.t (!r) (.l (a.2.1,a.2.2.1,a.2.2.2,a.1,g,f,e,([110,111]:List UInt8))) (.c _ (wbif h []) λs=>.t (!s) (.l (a.2.1,a.2.2.1,a.2.2.2,a.1,g,f,e,([98,97,100]:List UInt8))) (.t (e==60) (.l (a.2.1,a.2.2.1,a.2.2.2,a.1,g,f,e,([102,117,108,108]:List UInt8))) (.c _ (F_zo a.2.1 a.2.2.1 a.2.2.2 a.1 h) λb=>.t (!b.2.2.2.2.2) (.c _ (F_zf g f e h ([63]:List UInt8)) λj=>.l (b.1,b.2.1,b.2.2.1,b.2.2.2.1,j.1,j.2.1,j.2.2.1,([63]:List UInt8))) (.t ((200:Int)<(length b.2.2.2.2.1:Int)) (.c _ (F_zf g f e h ([108,111,110,103]:List UInt8)) λm=>.l (b.1,b.2.1,b.2.2.1,b.2.2.2.1,m.1,m.2.1,m.2.2.1,([108,111,110,103]:List UInt8))) (.c _ (F_zf g f e h b.2.2.2.2.1) λi=>.l (b.1,b.2.1,b.2.2.1,b.2.2.2.1,i.1,i.2.1,i.2.2.1,b.2.2.2.2.1))))))
def F_zv a i b f e c g h:=(T_zv a i b f e c g h).ev
def G_zv:FP prog:=fnP cx func21 [G_zm,wcmw,wcaw,G_zo,G_zf] (yj [.agg Zat,.dat .str]) [] [] (yq346 T_zv) ⟨[.fz 771,.fz 772,.fz 773],[.cell 4 45,.tmp 5],(yj [.agg Zat,.dat .str]),[],[],[]⟩ (λr=>(((r.1,r.2.1,r.2.2.1,r.2.2.2.1,r.2.2.2.2.1,r.2.2.2.2.2.1,r.2.2.2.2.2.2.1,()),r.2.2.2.2.2.2.2,()),())) (zOf [(8,[(3,[35])])])
def watr(k:Int×(List Yao))(v:Int×Ybl):Tr ((Int×Ybl)⊕(Unit⊕Int)):=.t (v.1<k.1) (.g (inR v.1 (length k.2))<|.g ((toNat v.1)<length k.2)<|.c _ (F_zv v.2.1 v.2.2.1 v.2.2.2.1 v.2.2.2.2.1 v.2.2.2.2.2.1 v.2.2.2.2.2.2.1 v.2.2.2.2.2.2.2 ((getD k.2 (toNat v.1) ([],[])).1)) λa=>.t (!(a.2.2.2.2.2.2.2==(getD k.2 (toNat v.1) ([],[])).2)) (.l (.inr (.inr v.1))) (.l (.inl ((wrap .i64 (v.1+1)),a.1,a.2.1,a.2.2.1,a.2.2.2.1,a.2.2.2.2.1,a.2.2.2.2.2.1,a.2.2.2.2.2.2.1)))) (.l (.inr (.inl ())))
def wayi k v:=iter (λv=>(watr k v).ev) v
abbrev yq663:Keep:=yk [] [8] (yj [.arr 1280]) [(1280,.arr 55 (.pair .str .str))]
def wbss:LD:=yl (watr) (yk [.fz 963,.fz 964,.fz 965] [6,8,29,30,31] (yj [.box 6 0,.arr 1280,.arr 1280,.dat yi,.dat yi]) [(6,.cells Zat),(1280,.arr 55 (.pair .str .str))]) [(0,yq663)] yq349 (λk v=>(((),(),(),k.1,v.1,()),(v.2.1,v.2.2.1,v.2.2.2.1,v.2.2.2.2.1,v.2.2.2.2.2.1,v.2.2.2.2.2.2.1,v.2.2.2.2.2.2.2,()),k.2,())) yq203 (λt=>(t.1.2.2.2.2.1,t.2.1.1,t.2.1.2.1,t.2.1.2.2.1,t.2.1.2.2.2.1,t.2.1.2.2.2.2.1,t.2.1.2.2.2.2.2.1,t.2.1.2.2.2.2.2.2.1)) (λk r=>.s _ _ r (λ_=>yx 0 yq663 (((),()),k.2,())) (λb=>yz yq349 ((b,true,()),())))
def wcfa(f:Y1)(o:List Y1)(h:Y1)(m:Int)(j i:List UInt8)(n:Int):Tr (Int×Bool):=.c _ (wbpf f o h m) λa=>.c _ (wbdc j i n) λb=>.t (!a.2.2.2.2.1) (.l (0,false)) (.t (!b.1) (.l (0,false)) (.c _ (wayi ((length b.2:Int),b.2) (0,a.2.2.2.2.2.1,a.2.2.2.2.2.2.1,a.2.2.2.2.2.2.2,a.1,a.2.1,a.2.2.1,a.2.2.2.1)) λg=>.s _ _ g (λ_=>.l ((length b.2:Int),true)) (λe=>.l (e,true))))
def wcfb a h b f e c g:=(wcfa a h b f e c g).ev
def wcpr:FP prog:=fnP cx func9 [wcmo,wcmv,G_zv] (yj [.agg Zl,.agg Zau]) [] [] (yq353 wcfa) yq199 yq172 (zOf [(9,[(3,[37])])]) [(0,wbss)]
def wbbj(k:Y1×Y1)(v:Int):Tr (Int⊕(Unit⊕Unit)):=.t (v<(length k.1:Int)) (.g (inR v (length k.1))<|.g (inR v (length k.2))<|.t ((getD k.1 (toNat v) 0) != (getD k.2 (toNat v) 0)) (.l (.inr (.inr ()))) (.l (.inl (wrap .i64 (v+1))))) (.l (.inr (.inl ())))
def wbkk k v:=iter (λv=>(wbbj k v).ev) v
def wbst:LD:=yl (wbbj) yq144 [(0,yq14)] yq65 yq66 yq60 yq45 (λ_ r=>.s _ _ r (λ_=>yx 0 yq14 ((),())) (λ_=>yz yq65 ((false,()),())))
def wcfc(b a:Y1):Tr Bool:=.t ((length b:Int) != (length a:Int)) (.l false) (.c _ (wbkk (b,a) 0) λe=>.s _ _ e (λ_=>.l true) (λ_=>.l false))
def wbkl a b:=(wcfc a b).ev
def wcfd:FP prog:=fnP cx func23 [] (yj [.dat y1,.dat y1]) [] [] (yq1 wcfc) yq47 yq2 noZ [(0,wbst)]
def wbbk(k:Y2×Y2)(v:Int):Tr (Int⊕(Unit⊕Unit)):=.t (v<(length k.1:Int)) (.g (inR v (length k.1))<|.g (inR v (length k.2))<|.c _ (wbkl (getD k.1 (toNat v) []) (getD k.2 (toNat v) [])) λa=>.t (!a) (.l (.inr (.inr ()))) (.l (.inl (wrap .i64 (v+1))))) (.l (.inr (.inl ())))
def wbkm k v:=iter (λv=>(wbbk k v).ev) v
def wbsu:LD:=yl (wbbk) (yh [0,1,5] (yj [.dat y2,.dat y2,.dat yi])) [(0,yq14)] yq65 yq66 yq60 yq45 (λ_ r=>.s _ _ r (λ_=>yx 0 yq14 ((),())) (λ_=>yz yq65 ((false,()),())))
def wcfe(a b:List Y1):Tr Bool:=.t ((length a:Int) != (length b:Int)) (.l false) (.c _ (wbkm (a,b) 0) λe=>.s _ _ e (λ_=>.l true) (λ_=>.l false))
def wcff a b:=(wcfe a b).ev
def wcps:FP prog:=fnP cx func42 [wcfd] (yj [.dat y2,.dat y2]) [] [] (yq1 wcfe) yq47 yq2 noZ [(0,wbsu)]
def wcfg(a:Y1)(h:List Y1)(e:Y1)(g:List Y1):Tr Bool:=.c _ (wbkl a e) λb=>.t (!b) (.l false) (.c _ (wcff h g) λf=>.t (!f) (.l false) (.l true))
def wcfh a c e b:=(wcfg a c e b).ev
def wcpt:FP prog:=fnP cx func22 [wcfd,wcps] (yj [.agg Zh,.agg Zh]) [] [] ((λf x=>f x.1.1.1 x.1.1.2.1 x.1.2.1.1 x.1.2.1.2.1) wcfg) yq47 yq2
def wcfi(a:Y1)(n:List Y1)(e:Y1)(i:Int)(g:Y1)(f:List Y1)(j:Y1)(m:Int):Tr Bool:=.c _ (wcfh a n g f) λb=>.t (!b) (.l false) (.c _ (wbkl e j) λh=>.t (!h) (.l false) (.t (i !=m) (.l false) (.l true)))
def wcfj a i b f e c g h:=(wcfi a i b f e c g h).ev
def wcpu:FP prog:=fnP cx func10 [wcpt,wcfd] (yj [.agg Zl,.agg Zl]) [] [] ((λf x=>f x.1.1.1 x.1.1.2.1 x.1.1.2.2.1 x.1.1.2.2.2.1 x.1.2.1.1 x.1.2.1.2.1 x.1.2.1.2.2.1 x.1.2.1.2.2.2.1) wcfi) yq47 yq2
def wcfk(b:Y1)(i:List Y1)(e:Y1)(g:Int)(m j:List UInt8)(o:Int):Tr Bool:=.c _ (wbtt b i e g 1048576) λr=>.t (r<0) (.l true) (.c _ (wbtv m j o r) λu=>.t (u<0) (.l true) (.c _ (wbfd b i e g) λh=>.c _ (wbkq m j o) λp=>.c _ (wbzw h.2.1 h.2.2.1 h.2.2.2 h.1 p.1 p.2.1 p.2.2) λs=>.c _ (wbfd b i e g) λa=>.c _ (wbkq m j o) λn=>.c _ (wcfb a.2.1 a.2.2.1 a.2.2.2 a.1 n.1 n.2.1 n.2.2) λq=>.t (q.1 !=s.1) (.l false) (.t (!(q.2==s.2)) (.l false) (.c _ (wbfd b i e g) λf=>.c _ (wcfj a.2.1 a.2.2.1 a.2.2.2 a.1 f.2.1 f.2.2.1 f.2.2.2 f.1) λw=>.t (!w) (.l false) (.l true)))))
def wcjd a h b f e c g:=(wcfk a h b f e c g).ev
def wcje:FP prog:=fnP cx func3 [wcjj,wcjk,wcjn,wcjo,wcmi,wcpr,wcpu] (yj [.agg Zl,.agg Zau]) [] [] (yq353 wcfk) yq47 yq2
end
end Go.Proofs.YtidaiohhaanphaaGreatDoor
