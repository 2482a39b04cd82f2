/- A part of the proof that FnReplay hands back true, at every argument of the row. -/
import Derived.Test.YtjiljcblmgeioaaGreatDoorC3
namespace Go.Proofs.YtjiljcblmgeioaaGreatDoor
set_option linter.all false
noncomputable section
open Go.Proofs.Tryz
open List (length getD set)
open Int (toNat)
open IntKind (wrap)
def KY(q:Y1)(p o:Int):Tr ((List UInt8)×yA):=.c _ (mW 4 q p o) λm=>.c _ (qQ 1000000 m.1) λa=>.c _ (mW 4 m.2.1 m.2.2.1 m.2.2.2) λn=>.c _ (qQ 1000000 n.1) λe=>.c _ (mF ([0,3,9,20,99,100]:Y1) n.2.1 n.2.2.1 n.2.2.2) λj=>.c _ (qQ 1000000 j.1) λb=>.g (length ([111,112,101,110,32]:List UInt8)+length a<=9223372036854775807)<|.g (length ([111,112,101,110,32]:List UInt8)+length e<=9223372036854775807)<|.g (length ([99,108,111,115,101,32]:List UInt8)+length a<=9223372036854775807)<|.g (length ([115,119,97,112,32]:List UInt8)+length a<=9223372036854775807)<|.g (length (([115,119,97,112,32]:List UInt8)++a)+length ([32]:List UInt8)<=9223372036854775807)<|.g (length ((([115,119,97,112,32]:List UInt8)++a)++([32]:List UInt8))+length e<=9223372036854775807)<|.g (length ([99,111,115,116,32]:List UInt8)+length a<=9223372036854775807)<|.g (length (([99,111,115,116,32]:List UInt8)++a)+length ([32]:List UInt8)<=9223372036854775807)<|.g (length ((([99,111,115,116,32]:List UInt8)++a)++([32]:List UInt8))+length b<=9223372036854775807)<|.g (length ([108,101,110,103,116,104,32]:List UInt8)+length a<=9223372036854775807)<|.g (length (([108,101,110,103,116,104,32]:List UInt8)++a)+length ([32]:List UInt8)<=9223372036854775807)<|.g (length ((([108,101,110,103,116,104,32]:List UInt8)++a)++([32]:List UInt8))+length e<=9223372036854775807)<|.g (length (((([108,101,110,103,116,104,32]:List UInt8)++a)++([32]:List UInt8))++e)+length ([32]:List UInt8)<=9223372036854775807)<|.g (length ((((([108,101,110,103,116,104,32]:List UInt8)++a)++([32]:List UInt8))++e)++([32]:List UInt8))+length b<=9223372036854775807)<|.g (length ([115,105,116,101,32]:List UInt8)+length b<=9223372036854775807)<|.g (length (([115,105,116,101,32]:List UInt8)++b)+length ([32,51,32,52,32,53]:List UInt8)<=9223372036854775807)<|.g (length ([99,108,105,101,110,116,32]:List UInt8)+length b<=9223372036854775807)<|.g (length ([100,114,111,112,115,105,116,101,32]:List UInt8)+length a<=9223372036854775807)<|.g (length ([100,114,111,112,99,108,105,101,110,116,32]:List UInt8)+length a<=9223372036854775807)<|.g (length ([109,101,100,105,97,110,32]:List UInt8)+length a<=9223372036854775807)<|.g (length ([99,101,110,116,114,101,115,32]:List UInt8)+length a<=9223372036854775807)<|.g (length ([102,97,114,32]:List UInt8)+length b<=9223372036854775807)<|.c _ (Cj ([(([111,112,101,110,32]:List UInt8)++a),(([111,112,101,110,32]:List UInt8)++e),(([99,108,111,115,101,32]:List UInt8)++a),(((([115,119,97,112,32]:List UInt8)++a)++([32]:List UInt8))++e),(((([99,111,115,116,32]:List UInt8)++a)++([32]:List UInt8))++b),(((((([108,101,110,103,116,104,32]:List UInt8)++a)++([32]:List UInt8))++e)++([32]:List UInt8))++b),([115,105,116,101,32,53]:List UInt8),([115,105,116,101,32,53,32,49,32,50]:List UInt8),((([115,105,116,101,32]:List UInt8)++b)++([32,51,32,52,32,53]:List UInt8)),([99,108,105,101,110,116,32,49,32,50]:List UInt8),([99,108,105,101,110,116,32,52,32,53,32,54]:List UInt8),(([99,108,105,101,110,116,32]:List UInt8)++b),(([100,114,111,112,115,105,116,101,32]:List UInt8)++a),(([100,114,111,112,99,108,105,101,110,116,32]:List UInt8)++a),([105,109,112,114,111,118,101]:List UInt8),([98,101,115,116]:List UInt8),([116,111,116,97,108]:List UInt8),([103,97,112]:List UInt8),([115,101,114,118,105,99,101]:List UInt8),([114,101,97,99,104]:List UInt8),([115,101,114,118,101,100]:List UInt8),([109,101,116,114,105,99]:List UInt8),([102,105,101,108,100]:List UInt8),([112,114,105,99,101,115]:List UInt8),([103,114,111,119,116,104]:List UInt8),([108,111,99,97,108]:List UInt8),(([109,101,100,105,97,110,32]:List UInt8)++a),(([99,101,110,116,114,101,115,32]:List UInt8)++a),(([102,97,114,32]:List UInt8)++b),([117,110,98,101,97,116,101,110]:List UInt8),([99,108,105,101,110,116]:List UInt8),([111,112,101,110]:List UInt8),([99,111,115,116,32,49]:List UInt8),([116,111,116,97,108,32,49]:List UInt8),([119,104,97,116]:List UInt8),[],([97,35]:List UInt8),([115,119,97,112,32,120,32,49]:List UInt8)]:List (List UInt8)) j.2.1 j.2.2.1 j.2.2.2) λh=>.c _ (F2 24 h.2.1 h.2.2.1 h.2.2.2) λf=>.t f.1 (.c _ (CB h.1 ([32,48,49,97]:List UInt8) f.2.1 f.2.2.1 f.2.2.2) λi=>.l (i.1,i.2.1,i.2.2.1,i.2.2.2)) (.l (h.1,f.2.1,f.2.2.1,f.2.2.2))
def Jh c b a:=(KY c b a).ev
def aBU:FP prog:=aH cx func33 [oH,T3,Hm,aLk,BT,aJh] (yj [.box 64 0]) [Zj] [.arg 0] (yq4 KY) ⟨[],[.tmp 2],Gf,[Zj],[(0,0,64)],[]⟩ yq5 (s8 [(1,[(8,[15])]),(3,[(2,[59])])])
def G8(k:(List UInt8)×Int)(v:Int×Int×(List (List UInt8))):Tr ((Int×Int×(List (List UInt8)))⊕(Int×(List (List UInt8)))):=.t (v.2.1<(length k.1:Int)) (.g (aC v.2.1 (length k.1))<|.t (((UInt8.toNat (getD k.1 (toNat v.2.1) 0):Nat):Int)==k.2) (.g ((0<=v.1)&&(v.1<=v.2.1)&&(v.2.1<=(length k.1:Int)))<|.g ((length v.2.2+length ([(List.drop (toNat v.1) (List.take (toNat v.2.1) k.1))]:List (List UInt8)))*16<=140737488355328)<|.l (.inl ((wrap .i64 (v.2.1+1)),(wrap .i64 (v.2.1+1)),(v.2.2++([(List.drop (toNat v.1) (List.take (toNat v.2.1) k.1))]:List (List UInt8)))))) (.l (.inl (v.1,(wrap .i64 (v.2.1+1)),v.2.2)))) (.l (.inr (v.1,v.2.2)))
def aFL k v:=aB (λv=>(G8 k v).ev) v
abbrev QZ:Keep:=yk [] [0,5,6] (yj [.dat .str,.arr 8,.dat yi]) [(8,.arr 9 .str)]
abbrev RX{a b c d e g h i:Type}(t:(a×b×c×d×e×g)×h×i):=(t.1.2.2.2.1,t.1.2.2.2.2.1,t.2.1)
def aPE:LD:=yl (G8) (yk [] [0,1,5,6,7] (yj [.dat .str,.dat (.int .u8),.arr 8,.dat yi,.dat yi]) [(8,.arr 9 .str)]) [(0,QZ)] aF (λk v=>((k.1,k.2,(),v.1,v.2.1,()),v.2.2,())) rX RX (λk r=>yx 0 QZ ((k.1,(),r.1,()),r.2,()))
def LS(a:List UInt8)(e:Int):Tr (List (List UInt8)):=.c _ (aFL (a,e) (0,0,[])) λb=>.g ((0<=b.1)&&(b.1<=(length a:Int)))<|.g ((length b.2+length ([(List.drop (toNat b.1) (List.take (length a) a))]:List (List UInt8)))*16<=140737488355328)<|.l (b.2++([(List.drop (toNat b.1) (List.take (length a) a))]:List (List UInt8)))
def l9 a b:=(LS a b).ev
def aCW:FP prog:=aH cx func48 [] (yj [.dat .str,.dat (.int .u8)]) [] [] (dO LS) ⟨[.ren 8 0],[.tmp 4],q8,[(0,.arr 9 .str)],[],[]⟩ kG bU [(0,aPE)]
def Za(k:(List UInt8)×Int)(v:Int):Tr (Int⊕(Unit⊕Unit)):=.t (v<(length k.1:Int)) (.g (aC v (length k.1))<|.c _ (rK (wrap .i64 ((UInt8.toNat (getD k.1 (toNat v) 0):Nat):Int)) 32 126) λa=>.t (!a) (.l (.inr (.inr ()))) (.g (aC v (length k.1))<|.t (((UInt8.toNat (getD k.1 (toNat v) 0):Nat):Int)==(35:Int)) (.l (.inr (.inr ()))) (.l (.inl (wrap .i64 (v+1)))))) (.l (.inr (.inl ())))
def aHs k v:=aB (λv=>(Za k v).ev) v
abbrev Oo:Keep:=yh [0,1] (yj [.dat .str,.dat yi])
def aOK:LD:=yl (Za) (yh [0,1,5] (yj [.dat .str,.dat yi,.dat yi])) [(0,Oo)] lM N0 rX Du (λk r=>.s _ _ r (λ_=>yx 0 Oo ((k.1,k.2,()),())) (λ_=>yz lM ((false,()),())))
def aDr(a:List UInt8)(b:Int):Tr Bool:=.c _ (aHs (a,b) 0) λe=>.s _ _ e (λ_=>.l ((length a:Int)<=b)) (λ_=>.l false)
def QL a b:=(aDr a b).ev
def aRG:FP prog:=aH cx func73 [D4] (yj [.dat .str,.dat yi]) [] [] (dO aDr) eC bR bU [(0,aOK)]
def Ww(k:(List UInt8)×Int)(v:Int):Tr (Int⊕(Unit⊕Unit)):=.t (v<(length k.1:Int)) (.g (aC v (length k.1))<|.t (((UInt8.toNat (getD k.1 (toNat v) 0):Nat):Int)==k.2) (.l (.inr (.inr ()))) (.l (.inl (wrap .i64 (v+1))))) (.l (.inr (.inl ())))
def aJf k v:=aB (λv=>(Ww k v).ev) v
def aRA:LD:=yl (Ww) (yh [0,1,5] (yj [.dat .str,.dat (.int .u8),.dat yi])) [(0,aF)] lM N0 rX Du (λ_ r=>.s _ _ r (λ_=>yx 0 aF ((),())) (λ_=>yz lM ((true,()),())))
def ZQ(e:List UInt8)(b:Int):Tr Bool:=.c _ (aJf (e,b) 0) λa=>.s _ _ a (λ_=>.l false) (λ_=>.l true)
def MN a b:=(ZQ a b).ev
def aPb:FP prog:=aH cx func74 [] (yj [.dat .str,.dat (.int .u8)]) [] [] (dO ZQ) eC bR bU [(0,aRA)]
def YX(a e:List UInt8):Tr Bool:=.t (!(a==([]:List UInt8))) (.c _ (QL a 160) λf=>.t f (.c _ (MN a 64) λb=>.t (!b) (.c _ (QL e 200) λg=>.l g) (.l false)) (.l false)) (.l false)
def EE a b:=(YX a b).ev
def aEu:FP prog:=aH cx func37 [aRG,aPb] (yj [.agg Nu]) [] [] (jO YX) Dj bR
def Yd(k:List UInt8)(v:Int×Int):Tr (jA⊕Int):=.t (v.2<(length k:Int)) (.g (aC v.2 (length k))<|.g (!decide ((999979:Int)=0))<|.l (.inl ((Int.tmod (wrap .i64 ((wrap .i64 ((wrap .i64 ((41:Int)*v.1))+(wrap .i64 ((UInt8.toNat (getD k (toNat v.2) 0):Nat):Int))))+1)) 999979),(wrap .i64 (v.2+1))))) (.l (.inr v.1))
def aLv k v:=aB (λv=>(Yd k v).ev) v
abbrev jI:Keep:=yh [3] Zy
def aMU:LD:=yl (Yd) (yh [0,3,4] (yj [.dat .str,.dat yi,.dat yi])) [(0,jI)] aF zU oF iM (λ_ r=>yx 0 jI ((r,()),()))
def aBG(b:List UInt8):Tr Int:=.c _ (aLv b (7,0)) λa=>.l a
def aFX a:=(aBG a).ev
abbrev oD:RetK:=yr [.tmp 2] Zy
def aRW:FP prog:=aH cx func208 [] Gf [] [] (qH aBG) oD bR bU [(0,aMU)]
def aFF(a:List UInt8):Tr (List UInt8):=.g (length a+length ([35]:List UInt8)<=9223372036854775807)<|.c _ (aFX a) λe=>.c _ (qQ 1000000 e) λb=>.g (length (a++([35]:List UInt8))+length b<=9223372036854775807)<|.l ((a++([35]:List UInt8))++b)
def KA a:=(aFF a).ev
abbrev O0:RetK:=yr [.tmp 2] Gf
def aNc:FP prog:=aH cx func130 [aRW,T3] Gf [] [] (qH aFF) O0 bR
def aCT(h:Int)(b f:List UInt8):Tr (List UInt8):=.c _ (qQ 1000000 h) λa=>.g (length a+length ([32]:List UInt8)<=9223372036854775807)<|.g (length (a++([32]:List UInt8))+length b<=9223372036854775807)<|.g (length ((a++([32]:List UInt8))++b)+length ([64]:List UInt8)<=9223372036854775807)<|.g (length (((a++([32]:List UInt8))++b)++([64]:List UInt8))+length f<=9223372036854775807)<|.c _ (KA ((((a++([32]:List UInt8))++b)++([64]:List UInt8))++f)) λe=>.g (length e+length ([10]:List UInt8)<=9223372036854775807)<|.l (e++([10]:List UInt8))
def OY c b a:=(aCT c b a).ev
abbrev GV{a b c d e g:Type}{z:Type _}(f:a->b->c->z)(x:(a×(b×c×d)×e)×g):z:=f x.1.1 x.1.2.1.1 x.1.2.1.2.1
abbrev Cb:RetK:=yr [.tmp 4] Gf
def aIe:FP prog:=aH cx func80 [T3,aNc] (yj [.dat yi,.agg Nu]) [] [] (GV aCT) Cb bR
def aEz(f:List UInt8)(h:Int):Tr ((List UInt8)×Om):=.c _ (qQ 1000000 h) λb=>.g (length b+length ([32]:List UInt8)<=9223372036854775807)<|.c _ (l9 f 35) λa=>.g (aC 0 (length a))<|.g ((toNat 0)<length a)<|.t ((length (getD a (toNat 0) []):Int)<(length (b++([32]:List UInt8)):Int)) (.l ([],[],false)) (.g (((0:Int)<=(length (b++([32]:List UInt8)):Int))&&((length (b++([32]:List UInt8)):Int)<=(length (getD a (toNat 0) []):Int)))<|.t (!((List.drop 0 (List.take (toNat (length (b++([32]:List UInt8)):Int)) (getD a (toNat 0) [])))==(b++([32]:List UInt8)))) (.l ([],[],false)) (.g (((0:Int)<=(length (b++([32]:List UInt8)):Int))&&((length (b++([32]:List UInt8)):Int)<=(length (getD a (toNat 0) []):Int)))<|.c _ (l9 (List.drop (toNat (length (b++([32]:List UInt8)):Int)) (List.take (length (getD a (toNat 0) [])) (getD a (toNat 0) []))) 64) λe=>.g (aC 0 (length e))<|.g ((toNat 0)<length e)<|.t ((length (getD e (toNat 0) []):Int)==(length (List.drop (toNat (length (b++([32]:List UInt8)):Int)) (List.take (length (getD a (toNat 0) [])) (getD a (toNat 0) []))):Int)) (.l ([],[],false)) (.g (((0:Int)<=(wrap .i64 ((length (getD e (toNat 0) []):Int)+1)))&&((wrap .i64 ((length (getD e (toNat 0) []):Int)+1))<=(length (List.drop (toNat (length (b++([32]:List UInt8)):Int)) (List.take (length (getD a (toNat 0) [])) (getD a (toNat 0) []))):Int)))<|.c _ (EE (getD e (toNat 0) []) (List.drop (toNat (wrap .i64 ((length (getD e (toNat 0) []):Int)+1))) (List.take (length (List.drop (toNat (length (b++([32]:List UInt8)):Int)) (List.take (length (getD a (toNat 0) [])) (getD a (toNat 0) [])))) (List.drop (toNat (length (b++([32]:List UInt8)):Int)) (List.take (length (getD a (toNat 0) [])) (getD a (toNat 0) [])))))) λj=>.t j (.c _ (OY h (getD e (toNat 0) []) (List.drop (toNat (wrap .i64 ((length (getD e (toNat 0) []):Int)+1))) (List.take (length (List.drop (toNat (length (b++([32]:List UInt8)):Int)) (List.take (length (getD a (toNat 0) [])) (getD a (toNat 0) [])))) (List.drop (toNat (length (b++([32]:List UInt8)):Int)) (List.take (length (getD a (toNat 0) [])) (getD a (toNat 0) [])))))) λi=>.g (length f+length ([10]:List UInt8)<=9223372036854775807)<|.l ((getD e (toNat 0) []),(List.drop (toNat (wrap .i64 ((length (getD e (toNat 0) []):Int)+1))) (List.take (length (List.drop (toNat (length (b++([32]:List UInt8)):Int)) (List.take (length (getD a (toNat 0) [])) (getD a (toNat 0) [])))) (List.drop (toNat (length (b++([32]:List UInt8)):Int)) (List.take (length (getD a (toNat 0) [])) (getD a (toNat 0) []))))),(i==(f++([10]:List UInt8))))) (.l ((getD e (toNat 0) []),(List.drop (toNat (wrap .i64 ((length (getD e (toNat 0) []):Int)+1))) (List.take (length (List.drop (toNat (length (b++([32]:List UInt8)):Int)) (List.take (length (getD a (toNat 0) [])) (getD a (toNat 0) [])))) (List.drop (toNat (length (b++([32]:List UInt8)):Int)) (List.take (length (getD a (toNat 0) [])) (getD a (toNat 0) []))))),false)))))
def aGw a b:=(aEz a b).ev
def aRI:FP prog:=aH cx func92 [T3,aCW,aEu,aIe] (yj [.dat .str,.dat yi]) [] [] (dO aEz) (yr [.cell 4 48,.tmp 5] (yj [.agg Nu,.dat .bool])) (λr=>(((r.1,r.2.1,()),r.2.2,()),()))
def Rz(k:List UInt8)(v:Int×(List Z6)):Tr ((Int×(List Z6))⊕(Int×(List Z6))):=.t (v.1<(length k:Int)) (.t ((length v.2:Int)<(60:Int)) (.g ((0<=v.1)&&(v.1<=(length k:Int)))<|.c _ (l9 (List.drop (toNat v.1) (List.take (length k) k)) 10) λa=>.g (aC 0 (length a))<|.g ((toNat 0)<length a)<|.c _ (aGw (getD a (toNat 0) []) (length v.2:Int)) λb=>.t ((length a:Int)<(2:Int)) (.l (.inr (v.1,v.2))) (.t (!b.2.2) (.l (.inr (v.1,v.2))) (.g ((length v.2+length ([(b.1,b.2.1)]:List Z6))*32<=140737488355328)<|.g (aC 0 (length a))<|.g ((toNat 0)<length a)<|.l (.inl ((wrap .i64 ((wrap .i64 (v.1+(length (getD a (toNat 0) []):Int)))+1)),(v.2++([(b.1,b.2.1)]:List Z6))))))) (.l (.inr (v.1,v.2)))) (.l (.inr (v.1,v.2)))
def ZT k v:=aB (λv=>(Rz k v).ev) v
abbrev RF:Keep:=yk [] [4,5] (yj [.arr 9,.dat yi]) [(9,.arr 48 (.pair .str .str))]
abbrev Fw{a b c:Type}(k:a)(v:b×c):=((k,(),v.1,()),v.2,())
abbrev Fv{a b c d e g:Type}(t:(a×b×c×d)×e×g):=(t.1.2.2.1,t.2.1)
def aMT:LD:=yl (Rz) (yk [] [0,4,5] (yj [.dat .str,.arr 9,.dat yi]) [(9,.arr 48 (.pair .str .str))]) [(0,RF)] aF Fw oF Fv (λ_ r=>yx 0 RF (((),r.1,()),r.2,()))
def JV(b:List UInt8):Tr (Int×(List Z6)):=.c _ (ZT b (0,([]:List Z6))) λa=>.l (a.1,a.2)
def Cc a:=(JV a).ev
def aGM:FP prog:=aH cx func53 [aCW,aRI] Gf [] [] (qH JV) ⟨[.ren 9 0],[.tmp 2,.tmp 3],(yj [.arr 0,.dat yi]),[(0,.arr 48 (.pair .str .str))],[],[]⟩ gX bU [(0,aMT)]
def JR(a b:List UInt8)(h:Int):Tr Bool:=.t ((30000:Int)<(wrap .i64 ((length a:Int)+(length b:Int)))) (.l false) (.g (length a+length b<=9223372036854775807)<|.c _ (Cc (a++b)) λe=>.c _ (Cc a) λf=>.t (e.1==(wrap .i64 ((length a:Int)+(length b:Int)))) (.t (f.1==(length a:Int)) (.l ((length e.2:Int)==h)) (.l false)) (.l false))
def Ci c b a:=(JR c b a).ev
abbrev Ng{a b c d e g:Type}{z:Type _}(f:a->b->c->z)(x:((a×b×c×d)×e)×g):z:=f x.1.1.1 x.1.1.2.1 x.1.1.2.2.1
def OV:FP prog:=aH cx func41 [aGM] (yj [.agg Q8]) [] [] (Ng JR) Dj bR
def aCC(m:Y1)(h:List Y1)(g:Y1)(i:Int)(e a:List UInt8)(b:Int):Tr Bool:=.c _ (Jn m h g i) λj=>.t j (.c _ (Ci e a b) λf=>.l f) (.l false)
def aAz h f e g c a b:=(aCC h f e g c a b).ev
abbrev WF{a b c d e g h i j l:Type}{z:Type _}(f:a->b->c->d->e->g->h->z)(x:((a×b×c×d×e×g×h×i)×j)×l):z:=f x.1.1.1 x.1.1.2.1 x.1.1.2.2.1 x.1.1.2.2.2.1 x.1.1.2.2.2.2.1 x.1.1.2.2.2.2.2.1 x.1.1.2.2.2.2.2.2.1
def aMy:FP prog:=aH cx func16 [DL,OV] (yj [.agg Zm]) [] [] (WF aCC) Dj bR
def CG(k:Y1)(v:(List UInt8)×Int):Tr (((List UInt8)×Int)⊕(List UInt8)):=.t (v.2<(length k:Int)) (.t (0<v.2) (.g (length v.1+length ([32]:List UInt8)<=9223372036854775807)<|.g (aC v.2 (length k))<|.c _ (qQ 1000000 (getD k (toNat v.2) 0)) λb=>.g (length (v.1++([32]:List UInt8))+length b<=9223372036854775807)<|.l (.inl (((v.1++([32]:List UInt8))++b),(wrap .i64 (v.2+1))))) (.g (aC v.2 (length k))<|.c _ (qQ 1000000 (getD k (toNat v.2) 0)) λa=>.g (length v.1+length a<=9223372036854775807)<|.l (.inl ((v.1++a),(wrap .i64 (v.2+1)))))) (.l (.inr v.1))
def aKV k v:=aB (λv=>(CG k v).ev) v
abbrev UV:Keep:=yh [0,3,4] (yj [.dat y1,.dat .str,.dat yi])
abbrev N9:Keep:=yh [3] Gf
def aRr:LD:=yl (CG) UV [(0,N9)] aF zU oF iM (λ_ r=>yx 0 N9 ((r,()),()))
def aBw(b:Y1):Tr (List UInt8):=.c _ (aKV b ([],0)) λa=>.t (a==([]:List UInt8)) (.l ([110,111,110,101]:List UInt8)) (.l a)
def Ss a:=(aBw a).ev
def aGS:FP prog:=aH cx func125 [T3] Bc [] [] (qH aBw) O0 bR bU [(0,aRr)]
noncomputable abbrev AP(p1 p2:Int)(p3:Y1)(p4:List Y1)(p5:Y1)(p6:Int):=(.t (p1==p2) (.c _ (qQ 1000000 (length p3:Int)) λf=>.l (p3,p4,p5,p6,f)) (.t (p1==7) (.t (p1==7) (.c _ (qQ 1000000 (length p4:Int)) λb=>.l (p3,p4,p5,p6,b)) (.c _ (Ss p5) λe=>.l (p3,p4,p5,p6,e))) (.t (p1==9) (.c _ (qQ 1000000 (length p4:Int)) λa=>.l (p3,p4,p5,p6,a)) (.c _ (Ss p5) λg=>.l (p3,p4,p5,p6,g)))):Tr WZ)
def aAS(j:Y1)(h:List Y1)(g:Y1)(i b m f e:Int)(o:Y1):Tr WZ:=.c _ (KE j h g i b m f e o) λa=>.t (!a.2.1) (.l (j,h,g,i,([63]:List UInt8))) (.t (b==4) (.c _ (qQ 1000000 f) λn=>.l (a.2.2.1,a.2.2.2.1,a.2.2.2.2,a.1,n)) (.t (b==5) (.c _ (qQ 1000000 e) λp=>.l (a.2.2.1,a.2.2.2.1,a.2.2.2.2,a.1,p)) (.t (b==6) (AP b 6 a.2.2.1 a.2.2.2.1 a.2.2.2.2 a.1) (AP b 8 a.2.2.1 a.2.2.2.1 a.2.2.2.2 a.1))))
def i9 j h f i e a c b g:=(aAS j h f i e a c b g).ev
abbrev Ag{a b c d e:Type}(r:a×b×c×d×e):=(((r.1,r.2.1,r.2.2.1,r.2.2.2.1,()),r.2.2.2.2,()),())
def NP:FP prog:=aH cx func77 [aLK,T3,aGS] (yj [.agg Zl,.agg UC]) [] [] (Bv aAS) ⟨[.fz 709,.fz 711,.fz 712],[.cell 4 29,.tmp 5],(yj [.agg Zl,.dat .str]),[],[],[]⟩ Ag
def aEs(e:Y1)(b:List Y1)(a:Y1)(g:Int):Tr Hn:=.c _ (Jn e b a g) λh=>.t (!h) (.l (0,false)) (.t ((length a:Int)==(0:Int)) (.l (0,false)) (.c _ (V4 e b a) λf=>.l (f,true)))
def OA e b a c:=(aEs e b a c).ev
abbrev Bi:RetK:=yr [.tmp 2,.tmp 3] (yj [.dat yi,.dat .bool])
abbrev dD{a b:Type}(r:a×b):=((r.1,r.2,()),())
def aIu:FP prog:=aH cx func191 [DL,aAd] (yj [.agg Zl]) [] [] (rW aEs) Bi dD
def aAT(a:Int)(e:Bool):Tr (List UInt8):=.t (!e) (.l ([63]:List UInt8)) (.c _ (qQ 1000000 a) λb=>.l b)
def Gx a b:=(aAT a b).ev
def aNk:FP prog:=aH cx func190 [T3] (yj [.dat yi,.dat .bool]) [] [] (dO aAT) Cb bR
def Bp(k:Y1×Int×C4)(v:Int×Int):Tr (jA⊕Int):=.t (v.2<(length k.1:Int)) (.g (aC v.2 (length k.1))<|.g (aC v.2 (length k.2.2.2.2))<|.g (aC k.2.1 (length (getD k.2.2.2.2 (toNat v.2) [])))<|.c _ (Km 0 (wrap .i64 ((getD k.1 (toNat v.2) 0) -(wrap .i64 (k.2.2.1*(getD (getD k.2.2.2.2 (toNat v.2) []) (toNat k.2.1) 0)))))) λa=>.l (.inl ((wrap .i64 (v.1+a)),(wrap .i64 (v.2+1))))) (.l (.inr v.1))
def aDu k v:=aB (λv=>(Bp k v).ev) v
abbrev UF:Keep:=yh [9] Zy
abbrev VE{a b c d e g h i:Type}(t:(a×b×c×d)×(e×g×h)×i):=(t.1.1,t.1.2.1,t.1.2.2.1,t.2.1.1,t.2.1.2.1)
abbrev VV{a b c d e g h i:Type}(t:(a×b×c×d×e×g×h)×i):=(t.1.2.2.2.2.1,t.1.2.2.2.2.2.1)
def aQK:LD:=yl (Bp) (yk [] [1,2,3,4,9,10] (yj [.dat y1,.dat yi,.dat yi,.box 4 0,.dat yi,.dat yi]) [(4,.cells Zh)]) [(0,UF)] aF (λk v=>((k.1,k.2.1,k.2.2.1,(),v.1,v.2,()),(k.2.2.2.1,k.2.2.2.2,()),())) VE VV (λ_ r=>yx 0 UF ((r,()),()))
def LY(h:Y1)(f:List Y1)(e:Y1)(g b:Int):Tr Int:=.c _ (aDu (e,g,b,h,f) (0,0)) λa=>.l a
def Hb f c b e a:=(LY f c b e a).ev
abbrev SH{a b c d e g h i:Type}{z:Type _}(f:a->b->d->e->g->z)(x:((a×b×c)×d×e×g×h)×i):z:=f x.1.1.1 x.1.1.2.1 x.1.2.1 x.1.2.2.1 x.1.2.2.2.1
def aGC:FP prog:=aH cx func333 [QE] (yj [.agg Zh,.dat y1,.dat yi,.dat yi]) [] [] (SH LY) (yr [.tmp 8] Zy) bR bU [(0,aQK)]
def E5(k:Y1×Int×C4)(v:Int×Int):Tr (jA⊕Int):=.t (v.2<(length k.2.2.2.1:Int)) (.g (aC k.2.1 (length k.2.2.2.2))<|.g (aC v.2 (length (getD k.2.2.2.2 (toNat k.2.1) [])))<|.t ((getD (getD k.2.2.2.2 (toNat k.2.1) []) (toNat v.2) 0)<=k.2.2.1) (.g (aC v.2 (length k.2.2.2.1))<|.c _ (Hb k.2.2.2.1 k.2.2.2.2 k.1 v.2 1) λa=>.t (v.1<0) (.l (.inl ((wrap .i64 ((getD k.2.2.2.1 (toNat v.2) 0) -a)),(wrap .i64 (v.2+1))))) (.t ((wrap .i64 ((getD k.2.2.2.1 (toNat v.2) 0) -a))<v.1) (.l (.inl ((wrap .i64 ((getD k.2.2.2.1 (toNat v.2) 0) -a)),(wrap .i64 (v.2+1))))) (.l (.inl (v.1,(wrap .i64 (v.2+1))))))) (.t (v.1<0) (.l (.inl ((wrap .i64 ((getD (getD k.2.2.2.2 (toNat k.2.1) []) (toNat v.2) 0) -k.2.2.1)),(wrap .i64 (v.2+1))))) (.t ((wrap .i64 ((getD (getD k.2.2.2.2 (toNat k.2.1) []) (toNat v.2) 0) -k.2.2.1))<v.1) (.l (.inl ((wrap .i64 ((getD (getD k.2.2.2.2 (toNat k.2.1) []) (toNat v.2) 0) -k.2.2.1)),(wrap .i64 (v.2+1))))) (.l (.inl (v.1,(wrap .i64 (v.2+1)))))))) (.l (.inr v.1))
def aJQ k v:=aB (λv=>(E5 k v).ev) v
abbrev TI:Keep:=yh [8] Zy
abbrev BZ{a b c d e g h i j:Type}(t:(a×b×c×d×e)×(g×h×i)×j):=(t.1.1,t.1.2.1,t.1.2.2.2.1,t.2.1.1,t.2.1.2.1)
def aQV:LD:=yl (E5) (yk [] [1,2,3,7,8,9] (yj [.dat y1,.dat yi,.box 3 0,.dat yi,.dat yi,.dat yi]) [(3,.cells Zh)]) [(0,TI)] aF (λk v=>((k.1,k.2.1,(),k.2.2.1,v.1,v.2,()),(k.2.2.2.1,k.2.2.2.2,()),())) BZ VV (λ_ r=>yx 0 TI ((r,()),()))
def ZG(h:Y1)(f:List Y1)(a:Y1)(b:Int):Tr Int:=.g (aC b (length a))<|.c _ (aJQ (a,b,(getD a (toNat b) 0),h,f) ((-1),0)) λe=>.l e
def aDC e b a c:=(ZG e b a c).ev
def aMt:FP prog:=aH cx func306 [aGC] (yj [.agg Zh,.dat y1,.dat yi]) [] [] (uM ZG) w6 bR bU [(0,aQV)]
def HB(k:Int×Oi)(v:Int×Int):Tr (jA⊕Int):=.t (v.2<(length k.2.1:Int)) (.g (aC k.1 (length k.2.2.1))<|.g (aC v.2 (length (getD k.2.2.1 (toNat k.1) [])))<|.c _ (Qc v.1 (getD (getD k.2.2.1 (toNat k.1) []) (toNat v.2) 0)) λa=>.l (.inl (a,(wrap .i64 (v.2+1))))) (.l (.inr v.1))
def aIf k v:=aB (λv=>(HB k v).ev) v
abbrev VL:Keep:=yk [] [1,3,4,5] (yj [.box 1 0,.arr 10,.dat yi,.dat yi]) [jT,(10,.arr 3 yi)]
abbrev SI{a b c d e g:Type}(k:a×b×c×d)(v:e×g):=(((),(),k.1,v.1,v.2,()),(k.2.1,k.2.2.1,()),k.2.2.2,())
abbrev QU{a b c d e g h i j:Type}(t:(a×b×c×d)×(e×g×h)×i×j):=(t.1.2.2.1,t.2.1.1,t.2.1.2.1,t.2.2.1)
def aSc:LD:=yl (HB) (yk [] [1,3,4,5,6] (yj [.box 1 0,.arr 10,.dat yi,.dat yi,.dat yi]) [jT,(10,.arr 3 yi)]) [(2,VL)] aF SI QU z6 (λk r=>yx 2 VL (((),(),k.1,r,()),(k.2.1,k.2.2.1,()),k.2.2.2,()))
def GP(k:Y1×Y2)(v:Int×Y1):Tr (gD⊕Y1):=.t (v.1<(length k.2:Int)) (.g (aC v.1 (length k.2))<|.g (aC 0 (length (getD k.2 (toNat v.1) [])))<|.c _ (aIf (v.1,k.1,k.2,v.2) ((getD (getD k.2 (toNat v.1) []) (toNat 0) 0),0)) λa=>.g ((length v.2+length ([a]:Y1))*8<=140737488355328)<|.l (.inl ((wrap .i64 (v.1+1)),(v.2++([a]:Y1))))) (.l (.inr v.2))
def YU k v:=aB (λv=>(GP k v).ev) v
abbrev ST:Keep:=yk [] [1,3] (yj [.box 1 0,.arr 10]) [jT,(10,.arr 3 yi)]
abbrev Bl{a b c d:Type}(k:a×b)(v:c×d):=(((),(),v.1,()),(k.1,k.2,()),v.2,())
abbrev O5{a b c d e g h:Type}(t:(a×b×c×d)×e×g×h):=(t.1.2.2.1,t.2.2.1)
def aQU:LD:=yl (GP) (yk [] [1,3,4] (yj [.box 1 0,.arr 10,.dat yi]) [jT,(10,.arr 3 yi)]) [(0,ST)] aF Bl E8 O5 (λk r=>yx 0 ST (((),(),()),(k.1,k.2,()),r,()))
def Jm(k:Y1×Y2)(v:Bool×gD):Tr ((Bool×gD)⊕C5):=.t (v.2.1<(length v.2.2:Int)) (.c _ (aDC k.1 k.2 v.2.2 v.2.1) λa=>.t (0<a) (.g (aC v.2.1 (length v.2.2))<|.g ((toNat v.2.1)<length v.2.2)<|.g (aC v.2.1 (length v.2.2))<|.g ((toNat v.2.1)<length v.2.2)<|.l (.inl (true,(wrap .i64 (v.2.1+1)),(set v.2.2 (toNat v.2.1) (wrap .i64 ((getD v.2.2 (toNat v.2.1) 0)+a)))))) (.l (.inl (v.1,(wrap .i64 (v.2.1+1)),v.2.2)))) (.l (.inr (v.1,v.2.2)))
def aKq k v:=aB (λv=>(Jm k v).ev) v
abbrev Xp:Keep:=yk [] [1,3,7] (yj [.box 1 0,.arr 10,.dat .bool]) [jT,(10,.arr 3 yi)]
def aQg:LD:=yl (Jm) (yk [] [1,3,7,8] (yj [.box 1 0,.arr 10,.dat .bool,.dat yi]) [jT,(10,.arr 3 yi)]) [(6,Xp)] aF (λk v=>(((),(),v.1,v.2.1,()),(k.1,k.2,()),v.2.2,())) E8 (λt=>(t.1.2.2.1,t.1.2.2.2.1,t.2.2.1)) (λk r=>yx 6 Xp (((),(),r.1,()),(k.1,k.2,()),r.2,()))
def Z0(k:Y1×Y2)(v:Bool×Y1):Tr (C5⊕Y1):=.t v.1 (.c _ (aKq (k.1,k.2) (false,0,v.2)) λa=>.l (.inl (a.1,a.2))) (.l (.inr v.2))
def aIr k v:=aB (λv=>(Z0 k v).ev) v
abbrev SZ:Keep:=yk [] [3] (yj [.arr 10]) [(10,.arr 3 yi)]
def aRo:LD:=yl (Z0) Xp [(4,SZ)] aF Bl E8 O5 (λ_ r=>yx 4 SZ (((),()),r,()))
def aDX(a:Y1)(b:List Y1):Tr Y1:=.c _ (YU (a,b) (0,[])) λf=>.c _ (aIr (a,b) (true,f)) λe=>.l e
def PC a b:=(aDX a b).ev
def aIv:FP prog:=aH cx func260 [aAc,aMt] (yj [.agg Zh]) [] [] (jO aDX) ⟨[.ren 10 0],[.tmp 2],q8,[tK],[],[]⟩ kG bU [(2,aSc),(0,aQU),(6,aQg),(4,aRo)]
def GZ(k:Y1)(v:Int×Int):Tr (jA⊕Int):=.t (v.2<(length k:Int)) (.g (aC v.2 (length k))<|.l (.inl ((wrap .i64 (v.1+(getD k (toNat v.2) 0))),(wrap .i64 (v.2+1))))) (.l (.inr v.1))
def aJV k v:=aB (λv=>(GZ k v).ev) v
abbrev EU:Keep:=yh [0,3,4] (yj [.dat y1,.dat yi,.dat yi])
def aMs:LD:=yl (GZ) EU [(0,jI)] aF zU oF iM (λ_ r=>yx 0 jI ((r,()),()))
def ZF(b:Y1):Tr Int:=.c _ (aJV b (0,0)) λa=>.l a
def aEF a:=(ZF a).ev
def aPh:FP prog:=aH cx func259 [] Bc [] [] (qH ZF) oD bR bU [(0,aMs)]
def YA(e:Y1)(a:List Y1)(g:Y1)(h:Int):Tr Hn:=.c _ (OA e a g h) λb=>.t (!b.2) (.l (0,false)) (.c _ (PC e a) λf=>.c _ (aEF f) λi=>.l ((wrap .i64 (b.1-i)),true))
def aAB e b a c:=(YA e b a c).ev
def aRE:FP prog:=aH cx func192 [aIu,aIv,aPh] (yj [.agg Zl]) [] [] (rW YA) Bi dD
def aFI(e:Y1)(b:List Y1)(a:Y1):Tr Hn:=.c _ (Gs e b a) λg=>.t (!g) (.l (0,false)) (.c _ (Su e b a) λf=>.l (f,true))
def aBa c b a:=(aFI c b a).ev
abbrev j5:RetK:=yr [.tmp 4,.tmp 5] (yj [.dat yi,.dat .bool])
def aSX:FP prog:=aH cx func193 [II,aDU] (yj [.agg Zh,.dat y1]) [] [] (bH aFI) j5 dD
def GJ(k:Y1×Y1×Y2)(v:Int×Int):Tr (jA⊕Int):=.t (v.2<(length k.2.2:Int)) (.c _ (OH k.2.1 k.2.2 v.2 k.1) λa=>.c _ (Km v.1 a) λb=>.l (.inl (b,(wrap .i64 (v.2+1))))) (.l (.inr v.1))
def aLw k v:=aB (λv=>(GJ k v).ev) v
def aNr:LD:=yl (GJ) DJ [(0,oC)] aF Ef C1 uX (λ_ r=>yx 0 oC ((r,()),()))
def aCg(f:Y1)(e:List Y1)(a:Y1):Tr Int:=.c _ (aLw (a,f,e) (0,0)) λb=>.l b
def Yk c b a:=(aCg c b a).ev
def aKc:FP prog:=aH cx func263 [aJz,QE] (yj [.agg Zh,.dat y1]) [] [] (bH aCg) kA bR bU [(0,aNr)]
def aCJ(e:Y1)(b:List Y1)(a:Y1):Tr Hn:=.c _ (Gs e b a) λg=>.t (!g) (.l (0,false)) (.c _ (Yk e b a) λf=>.l (f,true))
def aCl c b a:=(aCJ c b a).ev
def aRd:FP prog:=aH cx func194 [II,aKc] (yj [.agg Zh,.dat y1]) [] [] (bH aCJ) j5 dD
def IK(k:Y1×Y1×Y2)(v:Int×Y1):Tr (gD⊕Y1):=.t (v.1<(length k.2.2:Int)) (.c _ (MM k.2.1 k.2.2 v.1 k.1) λa=>.g ((length v.2+length ([a]:Y1))*8<=140737488355328)<|.l (.inl ((wrap .i64 (v.1+1)),(v.2++([a]:Y1))))) (.l (.inr v.2))
def aIK k v:=aB (λv=>(IK k v).ev) v
abbrev SV:Keep:=yk [] [6] (yj [.arr 8]) [(8,.arr 3 yi)]
abbrev Xu{a b c d e g h i:Type}(t:(a×b×c×d×e)×g×h×i):=(t.1.2.2.2.1,t.2.2.1)
def aMc:LD:=yl (IK) (yk [] [1,2,6,7] (yj [.dat y1,.box 2 0,.arr 8,.dat yi]) [yV,(8,.arr 3 yi)]) [(0,SV)] aF (λk v=>((k.1,(),(),v.1,()),(k.2.1,k.2.2,()),v.2,())) C1 Xu (λ_ r=>yx 0 SV (((),()),r,()))
def ZW(e:Y1)(b:List Y1)(a:Y1):Tr C5:=.c _ (Gs e b a) λg=>.t (!g) (.l (false,[])) (.c _ (aIK (a,e,b) (0,[])) λf=>.l (true,f))
def aDB c b a:=(ZW c b a).ev
def aPd:FP prog:=aH cx func195 [II,aHn] (yj [.agg Zh,.dat y1]) [] [] (bH ZW) ⟨[.ren 8 0],[.tmp 4,.tmp 5],Ho,[tK],[],[]⟩ gX bU [(0,aMc)]
def aAG(a:Y1)(e:Bool):Tr (List UInt8):=.t (!e) (.l ([63]:List UInt8)) (.c _ (Ss a) λb=>.l b)
def a9 a b:=(aAG a b).ev
def aLo:FP prog:=aH cx func126 [aGS] (yj [.dat y1,.dat .bool]) [] [] (dO aAG) Cb bR
def aCx(a:Y1)(b:List Y1):Tr (Bool×Bool):=.c _ (uO a b) λe=>.t (!e) (.l (false,false)) (.c _ (So a b) λf=>.l (f,true))
def aEZ a b:=(aCx a b).ev
abbrev WT:RetK:=yr [.tmp 2,.tmp 3] (yj [.dat .bool,.dat .bool])
def aSp:FP prog:=aH cx func197 [E4,aIM] (yj [.agg Zh]) [] [] (jO aCx) WT dD
def aJe(a b:Bool):Tr (List UInt8):=.t (!b) (.l ([63]:List UInt8)) (.t a (.l ([121,101,115]:List UInt8)) (.l ([110,111]:List UInt8)))
def YZ a b:=(aJe a b).ev
def aOt:FP prog:=aH cx func196 [] (yj [.dat .bool,.dat .bool]) [] [] (dO aJe) Cb bR
def Zs(k:Y1)(v:(List UInt8)×Int):Tr (((List UInt8)×Int)⊕(List UInt8)):=.t (v.2<(length k:Int)) (.t (0<v.2) (.g (length v.1+length ([32]:List UInt8)<=9223372036854775807)<|.g (aC v.2 (length k))<|.c _ (qQ 1000000 (getD k (toNat v.2) 0)) λb=>.g (length (v.1++([32]:List UInt8))+length b<=9223372036854775807)<|.l (.inl (((v.1++([32]:List UInt8))++b),(wrap .i64 (v.2+1))))) (.g (aC v.2 (length k))<|.c _ (qQ 1000000 (getD k (toNat v.2) 0)) λa=>.g (length v.1+length a<=9223372036854775807)<|.l (.inl ((v.1++a),(wrap .i64 (v.2+1)))))) (.l (.inr v.1))
def aIi k v:=aB (λv=>(Zs k v).ev) v
def aSF:LD:=yl (Zs) UV [(0,N9)] aF zU oF iM (λ_ r=>yx 0 N9 ((r,()),()))
def aBE(a:Y1):Tr (List UInt8):=.c _ (aIi a ([],0)) λb=>.l b
def JU a:=(aBE a).ev
def aLY:FP prog:=aH cx func265 [T3] Bc [] [] (qH aBE) O0 bR bU [(0,aSF)]
def BA(k:Y1×Y2)(v:(List UInt8)×Int):Tr (((List UInt8)×Int)⊕(List UInt8)):=.t (v.2<(length k.2:Int)) (.g (length v.1+length ([32,47,32]:List UInt8)<=9223372036854775807)<|.g (aC v.2 (length k.2))<|.c _ (JU (getD k.2 (toNat v.2) [])) λa=>.g (length (v.1++([32,47,32]:List UInt8))+length a<=9223372036854775807)<|.l (.inl (((v.1++([32,47,32]:List UInt8))++a),(wrap .i64 (v.2+1))))) (.l (.inr v.1))
def aHM k v:=aB (λv=>(BA k v).ev) v
abbrev WX{a b c d:Type}(k:a×b)(v:c×d):=(((),v.1,v.2,()),(k.1,k.2,()),())
def aRx:LD:=yl (BA) (yk [] [1,3,4] (yj [.box 1 0,.dat .str,.dat yi]) [jT]) [(0,N9)] aF WX E8 iM (λ_ r=>yx 0 N9 ((r,()),()))
def aFm(a:Y1)(f:List Y1):Tr (List UInt8):=.c _ (JU a) λb=>.c _ (aHM (a,f) (b,0)) λe=>.l e
def JQ a b:=(aFm a b).ev
def aQd:FP prog:=aH cx func198 [aLY] (yj [.agg Zh]) [] [] (jO aFm) O0 bR bU [(0,aRx)]
def aGt(a:Y1)(b:List Y1):Tr C5:=.c _ (uO a b) λe=>.t (!e) (.l (false,[])) (.c _ (PC a b) λf=>.l (true,f))
def aFw a b:=(aGt a b).ev
def aSR:FP prog:=aH cx func199 [E4,aIv] (yj [.agg Zh]) [] [] (jO aGt) ⟨[.ren 7 0,.ren 576 0],[.tmp 2,.tmp 3],Ho,[tK],[],[]⟩ gX
def Xs(k:Y1×Y2)(v:Int×Int):Tr (jA⊕Int):=.t (v.2<(length k.1:Int)) (.g (aC v.2 (length k.1))<|.g (aC v.1 (length k.1))<|.t ((getD k.1 (toNat v.2) 0)<(getD k.1 (toNat v.1) 0)) (.l (.inl (v.2,(wrap .i64 (v.2+1))))) (.l (.inl (v.1,(wrap .i64 (v.2+1)))))) (.l (.inr v.1))
def aIj k v:=aB (λv=>(Xs k v).ev) v
def aML:LD:=yl (Xs) DY [(0,jI)] aF WX E8 iM (λ_ r=>yx 0 jI ((r,()),()))
def aDO(a:Y1)(e:List Y1):Tr Int:=.c _ (aIj (a,e) (0,1)) λb=>.l b
def aDq a b:=(aDO a b).ev
def aPK:FP prog:=aH cx func266 [] (yj [.agg Zh]) [] [] (jO aDO) oD bR bU [(0,aML)]
def Tm(k:Int×Lv)(v:Int×Y1):Tr (gD⊕Y1):=.t (v.1<(length k.2.1:Int)) (.g (aC v.1 (length k.2.2.1))<|.t (getD k.2.2.1 (toNat v.1) false) (.g (aC v.1 (length k.2.1))<|.g ((length v.2+length ([(getD k.2.1 (toNat v.1) 0)]:Y1))*8<=140737488355328)<|.l (.inl ((wrap .i64 (v.1+1)),(v.2++([(getD k.2.1 (toNat v.1) 0)]:Y1))))) (.g ((length v.2+length ([k.1]:Y1))*8<=140737488355328)<|.l (.inl ((wrap .i64 (v.1+1)),(v.2++([k.1]:Y1)))))) (.l (.inr v.2))
def aLd k v:=aB (λv=>(Tm k v).ev) v
abbrev VH:Keep:=yk [] [3] (yj [.arr 6]) [(6,.arr 3 yi)]
abbrev Zz{a b c d e g h i:Type}(t:a×(b×c×d×e×g×h)×i):=(t.2.1.1,t.2.1.2.1,t.2.1.2.2.1,t.2.1.2.2.2.1,t.2.1.2.2.2.2.1)
def aRw:LD:=yl (Tm) (yk [] [1,3,4] (yj [.box 1 0,.arr 6,.dat yi]) [(1,.cells Zp),(6,.arr 3 yi)]) [(0,VH)] aF (λk v=>(((),(),v.1,()),(k.1,k.2.1,k.2.2.1,k.2.2.2.1,k.2.2.2.2,()),v.2,())) Zz O5 (λ_ r=>yx 0 VH (((),()),r,()))
def aEi(h:Int)(f:Y1)(e:List Bool)(g b:Y1):Tr Y1:=.c _ (aLd (h,f,e,g,b) (0,[])) λa=>.l a
def CU f c b e a:=(aEi f c b e a).ev
def aGG:FP prog:=aH cx func334 [] (yj [.agg Zp]) [] [] (Do aEi) ⟨[.ren 6 0],[.tmp 2],q8,[tK],[],[]⟩ kG bU [(0,aRw)]
def aDp(_h:Int)(_i:Y1)(_e:List Bool)(_f a:Y1)(b c:Int):Tr Bool:=.g (aC b (length a))<|.g (aC c (length a))<|.t ((getD a (toNat b) 0)<(getD a (toNat c) 0)) (.l true) (.g (aC b (length a))<|.g (aC c (length a))<|.t ((getD a (toNat b) 0)==(getD a (toNat c) 0)) (.l (b<c)) (.l false))
def LM h f e g c a b:=(aDp h f e g c a b).ev
def aHj:FP prog:=aH cx func311 [] (yj [.agg Zp,.dat yi,.dat yi]) [] [] ((λf x=>f x.1.1.1 x.1.1.2.1 x.1.1.2.2.1 x.1.1.2.2.2.1 x.1.1.2.2.2.2.1 x.1.2.1 x.1.2.2.1) aDp) Dd bR
def Gz(k:Int×Y1×(List Bool)×Y1×Y1×Y2×Int×gD)(v:Int×Y1):Tr (gD⊕Y1):=.t (v.1<(length k.2.2.2.2.1:Int)) (.g (aC v.1 (length v.2))<|.g ((toNat v.1)<length v.2)<|.t ((getD v.2 (toNat v.1) 0)<(0:Int)) (.c _ (Hb k.2.2.2.2.1 k.2.2.2.2.2.1 k.2.2.2.2.2.2.2.2 v.1 2520) λa=>.g (aC v.1 (length k.2.2.2.2.1))<|.t (a==(wrap .i64 ((2520:Int)*(getD k.2.2.2.2.1 (toNat v.1) 0)))) (.g (aC v.1 (length v.2))<|.g ((toNat v.1)<length v.2)<|.l (.inl ((wrap .i64 (v.1+1)),(set v.2 (toNat v.1) k.2.2.2.2.2.2.1)))) (.l (.inl ((wrap .i64 (v.1+1)),v.2)))) (.l (.inl ((wrap .i64 (v.1+1)),v.2)))) (.l (.inr v.2))
def aIZ k v:=aB (λv=>(Gz k v).ev) v
abbrev XC:Keep:=yk [] [1,2,3,4,5] (yj [.agg Vt,.box 2 0,.box 3 0,.box 4 0,.arr 704]) [xQ,(65,.arr 4 .bool),(66,.arr 3 yi),(67,.arr 3 yi),yV,(3,.cells Vt),Zbg,(704,.arr 3 yi)]
def aNy:LD:=yl (Gz) (yk [] [1,2,3,4,5,6] (yj [.agg Vt,.box 2 0,.box 3 0,.box 4 0,.arr 704,.dat yi]) [xQ,(65,.arr 4 .bool),(66,.arr 3 yi),(67,.arr 3 yi),yV,(3,.cells Vt),Zbg,(704,.arr 3 yi)]) [(0,XC)] aF (λk v=>(((k.1,(),(),(),(),()),(),(),(),(),v.1,()),k.2.1,k.2.2.1,k.2.2.2.1,v.2,(k.2.2.2.2.1,k.2.2.2.2.2.1,()),(k.2.2.2.2.2.2.1,(),(),(),(),()),(k.2.2.2.2.2.2.2.1,(),(),(),(),()),k.2.2.2.2.2.2.2.2,())) (λt=>(t.1.1.1,t.2.1,t.2.2.1,t.2.2.2.1,t.2.2.2.2.2.1.1,t.2.2.2.2.2.1.2.1,t.2.2.2.2.2.2.1.1,t.2.2.2.2.2.2.2.1.1,t.2.2.2.2.2.2.2.2.1)) aJt (λk r=>yx 0 XC (((k.1,(),(),(),(),()),(),(),(),(),()),k.2.1,k.2.2.1,k.2.2.2.1,r,(k.2.2.2.2.1,k.2.2.2.2.2.1,()),(k.2.2.2.2.2.2.1,(),(),(),(),()),(k.2.2.2.2.2.2.2.1,(),(),(),(),()),k.2.2.2.2.2.2.2.2,()))
def CL(k:Int×Int×Y1×(List Bool)×Y1×Y1×Y1×Y2×Int×gD)(v:Int×Int):Tr (jA⊕Int):=.t (v.2<(length k.2.2.2.2.2.2.1:Int)) (.g (aC k.2.1 (length k.2.2.2.1))<|.g ((toNat k.2.1)<length k.2.2.2.1)<|.t (!(getD k.2.2.2.1 (toNat k.2.1) false)) (.g (aC v.2 (length k.2.2.2.2.2.1))<|.g ((toNat v.2)<length k.2.2.2.2.2.1)<|.t ((0:Int)<=(getD k.2.2.2.2.2.1 (toNat v.2) 0)) (.g (aC k.2.1 (length k.2.2.2.2.2.2.2.1))<|.g (aC v.2 (length (getD k.2.2.2.2.2.2.2.1 (toNat k.2.1) [])))<|.t ((wrap .i64 ((2520:Int)*(getD (getD k.2.2.2.2.2.2.2.1 (toNat k.2.1) []) (toNat v.2) 0)))<=k.2.2.2.2.2.2.2.2.1) (.t (v.1<0) (.l (.inl (v.2,(wrap .i64 (v.2+1))))) (.c _ (LM k.2.2.2.2.2.2.2.2.1 k.2.2.1 k.2.2.2.1 k.2.2.2.2.1 k.2.2.2.2.2.1 v.2 v.1) λa=>.t a (.l (.inl (v.2,(wrap .i64 (v.2+1))))) (.l (.inl (v.1,(wrap .i64 (v.2+1))))))) (.l (.inl (v.1,(wrap .i64 (v.2+1)))))) (.l (.inl (v.1,(wrap .i64 (v.2+1)))))) (.l (.inr v.1))) (.l (.inr v.1))
def aJG k v:=aB (λv=>(CL k v).ev) v
abbrev XK:Keep:=yk [] [1,2,3,4,5,7,8] (yj [.agg Vt,.box 2 0,.box 3 0,.box 4 0,.arr 704,.dat yi,.dat yi]) [xQ,(65,.arr 4 .bool),(66,.arr 3 yi),(67,.arr 3 yi),yV,(3,.cells Vt),Zbg,(704,.arr 3 yi)]
def aTm:LD:=yl (CL) (yk [] [1,2,3,4,5,7,8,9] (yj [.agg Vt,.box 2 0,.box 3 0,.box 4 0,.arr 704,.dat yi,.dat yi,.dat yi]) [xQ,(65,.arr 4 .bool),(66,.arr 3 yi),(67,.arr 3 yi),yV,(3,.cells Vt),Zbg,(704,.arr 3 yi)]) [(4,XK)] aF (λk v=>(((k.1,(),(),(),(),()),(),(),(),(),k.2.1,v.1,v.2,()),k.2.2.1,k.2.2.2.1,k.2.2.2.2.1,k.2.2.2.2.2.1,(k.2.2.2.2.2.2.1,k.2.2.2.2.2.2.2.1,()),(k.2.2.2.2.2.2.2.2.1,(),(),(),(),()),(k.2.2.2.2.2.2.2.2.2.1,(),(),(),(),()),k.2.2.2.2.2.2.2.2.2.2,())) (λt=>(t.1.1.1,t.1.2.2.2.2.2.1,t.2.1,t.2.2.1,t.2.2.2.1,t.2.2.2.2.1,t.2.2.2.2.2.1.1,t.2.2.2.2.2.1.2.1,t.2.2.2.2.2.2.1.1,t.2.2.2.2.2.2.2.1.1,t.2.2.2.2.2.2.2.2.1)) (λt=>(t.1.2.2.2.2.2.2.1,t.1.2.2.2.2.2.2.2.1)) (λk r=>yx 4 XK (((k.1,(),(),(),(),()),(),(),(),(),k.2.1,r,()),k.2.2.1,k.2.2.2.1,k.2.2.2.2.1,k.2.2.2.2.2.1,(k.2.2.2.2.2.2.1,k.2.2.2.2.2.2.2.1,()),(k.2.2.2.2.2.2.2.2.1,(),(),(),(),()),(k.2.2.2.2.2.2.2.2.2.1,(),(),(),(),()),k.2.2.2.2.2.2.2.2.2.2,()))
def S6(k:Int×Y1×Y1×Y2×Int×gD)(v:Int×Y1×(List Bool)×Y1):Tr ((Int×Y1×(List Bool)×Y1)⊕(Y1×(List Bool)×Y1)):=.t (v.1<(length k.2.2.2.2.2.2:Int)) (.c _ (aJG (k.1,v.1,v.2.1,v.2.2.1,v.2.2.2,k.2.1,k.2.2.1,k.2.2.2.1,k.2.2.2.2.1,k.2.2.2.2.2.1,k.2.2.2.2.2.2) ((-1),0)) λa=>.t (0<=a) (.g (aC v.1 (length v.2.1))<|.g ((toNat v.1)<length v.2.1)<|.g (aC v.1 (length v.2.2.1))<|.g ((toNat v.1)<length v.2.2.1)<|.g (aC v.1 (length v.2.2.2))<|.g ((toNat v.1)<length v.2.2.2)<|.l (.inl ((wrap .i64 (v.1+1)),(set v.2.1 (toNat v.1) k.2.2.2.2.1),(set v.2.2.1 (toNat v.1) true),(set v.2.2.2 (toNat v.1) a)))) (.l (.inl ((wrap .i64 (v.1+1)),v.2.1,v.2.2.1,v.2.2.2)))) (.l (.inr (v.2.1,v.2.2.1,v.2.2.2)))
def aLt k v:=aB (λv=>(S6 k v).ev) v
abbrev VB:Keep:=yk [] [1,3,4] (yj [.agg Vt,.box 3 0,.box 4 0]) [xQ,(65,.arr 4 .bool),(66,.arr 3 yi),(67,.arr 3 yi),(3,.cells Vt),Zbg]
def aRl:LD:=yl (S6) (yk [] [1,2,3,4,5,7] (yj [.agg Vt,.box 2 0,.box 3 0,.box 4 0,.arr 704,.dat yi]) [xQ,(65,.arr 4 .bool),(66,.arr 3 yi),(67,.arr 3 yi),yV,(3,.cells Vt),Zbg,(704,.arr 3 yi)]) [(2,VB)] aF (λk v=>(((k.1,(),(),(),(),()),(),(),(),(),v.1,()),v.2.1,v.2.2.1,v.2.2.2,k.2.1,(k.2.2.1,k.2.2.2.1,()),(k.2.2.2.2.1,(),(),(),(),()),(k.2.2.2.2.2.1,(),(),(),(),()),k.2.2.2.2.2.2,())) (λt=>(t.1.1.1,t.2.2.2.2.1,t.2.2.2.2.2.1.1,t.2.2.2.2.2.1.2.1,t.2.2.2.2.2.2.1.1,t.2.2.2.2.2.2.2.1.1,t.2.2.2.2.2.2.2.2.1)) (λt=>(t.1.2.2.2.2.2.1,t.2.1,t.2.2.1,t.2.2.2.1)) (λk r=>yx 2 VB (((k.1,(),(),(),(),()),(),(),()),r.1,r.2.1,r.2.2,k.2.1,(k.2.2.2.2.1,(),(),(),(),()),(k.2.2.2.2.2.1,(),(),(),(),()),()))
def aDW(n:Y1)(j:List Y1)(a:Int)(g:Y1)(e:List Bool)(b h:Y1):Tr (Int×Lv):=.c _ (CU a g e b h) λm=>.c _ (aIZ (a,g,e,b,n,j,a,0,m) (0,h)) λi=>.c _ (aLt (a,i,n,j,a,0,m) (0,g,e,b)) λf=>.l (a,f.1,f.2.1,f.2.2,i)
def KF h f e g c a b:=(aDW h f e g c a b).ev
abbrev WL{a b c d e:Type}(r:a×b×c×d×e):=(((r.1,(),(),(),(),()),()),r.2.1,r.2.2.1,r.2.2.2.1,r.2.2.2.2,())
def aPr:FP prog:=aH cx func308 [aGG,aGC,aHj] (yj [.agg Zh,.agg Vt]) [xQ,(65,.arr 4 .bool),(66,.arr 3 yi),(67,.arr 3 yi)] [.comp 1 1,.comp 1 2,.comp 1 3,.comp 1 4] ((λf x=>f x.1.1.1 x.1.1.2.1 x.1.2.1.1 x.2.1 x.2.2.1 x.2.2.2.1 x.2.2.2.2.1) aDW) ⟨[.ren 64 1,.ren 65 2,.ren 66 5,.ren 67 6],[.cell 4 223],(yj [.agg (yj [.dat yi,.arr 1,.arr 2,.arr 5,.arr 6])]),[(1,.arr 3 yi),(2,.arr 4 .bool),(5,.arr 3 yi),(6,.arr 3 yi)],[],[64,65,66,67]⟩ WL bU [(0,aNy),(4,aTm),(2,aRl)]
def Pj(k:Int×Lv)(v:Int):Tr (Int⊕(Unit⊕Unit)):=.t (v<(length k.2.2.1:Int)) (.g (aC v (length k.2.2.1))<|.t (!(getD k.2.2.1 (toNat v) false)) (.l (.inr (.inr ()))) (.l (.inl (wrap .i64 (v+1))))) (.l (.inr (.inl ())))
def aIV k v:=aB (λv=>(Pj k v).ev) v
def aTe:LD:=yl (Pj) (yk [] [1,3] (yj [.box 1 0,.dat yi]) [(1,.cells Zp)]) [(0,aF)] yL (λk v=>(((),v,()),(k.1,k.2.1,k.2.2.1,k.2.2.2.1,k.2.2.2.2,()),())) Zz PS (λ_ r=>.s _ _ r (λ_=>yx 0 aF ((),())) (λ_=>yz yL ((true,()),())))
def ZB(g:Int)(e:Y1)(b:List Bool)(f a:Y1):Tr Bool:=.c _ (aIV (g,e,b,f,a) 0) λh=>.s _ _ h (λ_=>.l false) (λ_=>.l true)
def aFH f c b e a:=(ZB f c b e a).ev
def aNS:FP prog:=aH cx func309 [] (yj [.agg Zp]) [] [] (Do ZB) Dj bR bU [(0,aTe)]
def V8(k:Int×Y1×Y2×Int×Lv)(v:Int×Int):Tr (jA⊕Int):=.t (v.2<(length k.2.1:Int)) (.g (aC k.1 (length k.2.2.1))<|.g (aC v.2 (length (getD k.2.2.1 (toNat k.1) [])))<|.g (aC k.1 (length k.2.2.2.2.2.1))<|.t (!(getD k.2.2.2.2.2.1 (toNat k.1) false)) (.t (k.2.2.2.1<(wrap .i64 ((2520:Int)*(getD (getD k.2.2.1 (toNat k.1) []) (toNat v.2) 0)))) (.t (v.1<0) (.l (.inl ((wrap .i64 ((2520:Int)*(getD (getD k.2.2.1 (toNat k.1) []) (toNat v.2) 0))),(wrap .i64 (v.2+1))))) (.t ((wrap .i64 ((2520:Int)*(getD (getD k.2.2.1 (toNat k.1) []) (toNat v.2) 0)))<v.1) (.l (.inl ((wrap .i64 ((2520:Int)*(getD (getD k.2.2.1 (toNat k.1) []) (toNat v.2) 0))),(wrap .i64 (v.2+1))))) (.l (.inl (v.1,(wrap .i64 (v.2+1))))))) (.l (.inl (v.1,(wrap .i64 (v.2+1)))))) (.l (.inl (v.1,(wrap .i64 (v.2+1)))))) (.l (.inr v.1))
def aLh k v:=aB (λv=>(V8 k v).ev) v
abbrev BW:Keep:=yk [] [2,3,5,6] (yj [.box 2 0,.box 3 0,.dat yi,.dat yi]) [yV,(3,.cells Zp)]
abbrev VZ{a b c d e g h:Type}(t:(a×b×c×d×e×g)×h):=(t.1.2.2.1,t.1.2.2.2.2.1)
def aMa:LD:=yl (V8) (yk [] [2,3,5,6,7] (yj [.box 2 0,.box 3 0,.dat yi,.dat yi,.dat yi]) [yV,(3,.cells Zp)]) [(2,BW)] aF (λk v=>(((),(),v.1,k.1,v.2,()),(k.2.1,k.2.2.1,()),(k.2.2.2.1,k.2.2.2.2.1,k.2.2.2.2.2.1,k.2.2.2.2.2.2.1,k.2.2.2.2.2.2.2,()),())) (λt=>(t.1.2.2.2.1,t.2.1.1,t.2.1.2.1,t.2.2.1.1,t.2.2.1.2.1,t.2.2.1.2.2.1,t.2.2.1.2.2.2.1,t.2.2.1.2.2.2.2.1)) VZ (λk r=>yx 2 BW (((),(),r,k.1,()),(k.2.1,k.2.2.1,()),(k.2.2.2.1,k.2.2.2.2.1,k.2.2.2.2.2.1,k.2.2.2.2.2.2.1,k.2.2.2.2.2.2.2,()),()))
def Ys(k:Y1×Y2×Int×Lv)(v:Int×Int):Tr (jA⊕Int):=.t (v.2<(length k.2.1:Int)) (.c _ (aLh (v.2,k.1,k.2.1,k.2.2.1,k.2.2.2.1,k.2.2.2.2.1,k.2.2.2.2.2.1,k.2.2.2.2.2.2) (v.1,0)) λa=>.l (.inl (a,(wrap .i64 (v.2+1))))) (.l (.inr v.1))
def aKj k v:=aB (λv=>(Ys k v).ev) v
def aPy:LD:=yl (Ys) BW [(0,oC)] aF (λk v=>(((),(),v.1,v.2,()),(k.1,k.2.1,()),(k.2.2.1,k.2.2.2.1,k.2.2.2.2.1,k.2.2.2.2.2.1,k.2.2.2.2.2.2,()),())) (λt=>(t.2.1.1,t.2.1.2.1,t.2.2.1.1,t.2.2.1.2.1,t.2.2.1.2.2.1,t.2.2.1.2.2.2.1,t.2.2.1.2.2.2.2.1)) uX (λ_ r=>yx 0 oC ((r,()),()))
def aFz(j:Y1)(h:List Y1)(f:Int)(i:Y1)(e:List Bool)(a b:Y1):Tr Int:=.c _ (aKj (j,h,f,i,e,a,b) ((-1),0)) λg=>.l g
def aEk h f e g c a b:=(aFz h f e g c a b).ev
abbrev UT{a b c d e g h i j l m:Type}{z:Type _}(f:a->b->d->e->g->h->i->z)(x:((a×b×c)×(d×e×g×h×i×j)×l)×m):z:=f x.1.1.1 x.1.1.2.1 x.1.2.1.1 x.1.2.1.2.1 x.1.2.1.2.2.1 x.1.2.1.2.2.2.1 x.1.2.1.2.2.2.2.1
def aST:FP prog:=aH cx func335 [] (yj [.agg Zh,.agg Zp]) [] [] (UT aFz) kA bR bU [(2,aMa),(0,aPy)]
def Ir(k:Int×Y1×Y2×Int×Lv)(v:Int×Int):Tr (jA⊕Int):=.t (v.2<(length k.2.2.1:Int)) (.g (aC v.2 (length k.2.2.2.2.2.1))<|.t (!(getD k.2.2.2.2.2.1 (toNat v.2) false)) (.g (aC v.2 (length k.2.2.1))<|.g (aC k.1 (length (getD k.2.2.1 (toNat v.2) [])))<|.t ((wrap .i64 ((2520:Int)*(getD (getD k.2.2.1 (toNat v.2) []) (toNat k.1) 0)))<=k.2.2.2.1) (.l (.inl ((wrap .i64 (v.1+1)),(wrap .i64 (v.2+1))))) (.l (.inl (v.1,(wrap .i64 (v.2+1)))))) (.l (.inl (v.1,(wrap .i64 (v.2+1)))))) (.l (.inr v.1))
def aJu k v:=aB (λv=>(Ir k v).ev) v
def aOC:LD:=yl (Ir) (yk [] [2,3,4,7,8] (yj [.dat yi,.box 3 0,.box 4 0,.dat yi,.dat yi]) [(3,.cells Zh),(4,.cells Zp)]) [(0,rV)] aF (λk v=>((k.1,(),(),v.1,v.2,()),(k.2.1,k.2.2.1,()),(k.2.2.2.1,k.2.2.2.2.1,k.2.2.2.2.2.1,k.2.2.2.2.2.2.1,k.2.2.2.2.2.2.2,()),())) (λt=>(t.1.1,t.2.1.1,t.2.1.2.1,t.2.2.1.1,t.2.2.1.2.1,t.2.2.1.2.2.1,t.2.2.1.2.2.2.1,t.2.2.1.2.2.2.2.1)) z6 (λ_ r=>yx 0 rV ((r,()),()))
def aGl(m:Y1)(h:List Y1)(g:Int)(i:Y1)(f:List Bool)(a e:Y1)(b:Int):Tr Int:=.c _ (aJu (b,m,h,g,i,f,a,e) (0,0)) λj=>.l j
def XP i g f h e a c b:=(aGl i g f h e a c b).ev
def aPT:FP prog:=aH cx func336 [] (yj [.agg Zh,.agg Zp,.dat yi]) [] [] ((λf x=>f x.1.1.1 x.1.1.2.1 x.1.2.1.1 x.1.2.1.2.1 x.1.2.1.2.2.1 x.1.2.1.2.2.2.1 x.1.2.1.2.2.2.2.1 x.1.2.2.1) aGl) w6 bR bU [(0,aOC)]
def U8(k:Y1×Y2×Int×Y1×(List Bool)×Nd)(v:Int×Int):Tr (jA⊕Int):=.t (v.2<(length k.1:Int)) (.c _ (XP k.1 k.2.1 k.2.2.1 k.2.2.2.1 k.2.2.2.2.1 k.2.2.2.2.2.1 k.2.2.2.2.2.2.1 v.2) λa=>.g (aC v.2 (length k.1))<|.c _ (Hb k.1 k.2.1 k.2.2.2.2.2.2.2 v.2 2520) λb=>.g (aC v.2 (length k.2.2.2.2.2.2.1))<|.t ((getD k.2.2.2.2.2.2.1 (toNat v.2) 0)<(0:Int)) (.t (0<a) (.t (v.1<0) (.g (!decide (a=0))<|.l (.inl ((wrap .i64 (k.2.2.1+(wrap .i64 (Int.tdiv (wrap .i64 ((wrap .i64 ((2520:Int)*(getD k.1 (toNat v.2) 0))) -b)) a)))),(wrap .i64 (v.2+1))))) (.t ((wrap .i64 ((wrap .i64 ((2520:Int)*(getD k.1 (toNat v.2) 0))) -b))<(wrap .i64 (a*(wrap .i64 (v.1-k.2.2.1))))) (.g (!decide (a=0))<|.l (.inl ((wrap .i64 (k.2.2.1+(wrap .i64 (Int.tdiv (wrap .i64 ((wrap .i64 ((2520:Int)*(getD k.1 (toNat v.2) 0))) -b)) a)))),(wrap .i64 (v.2+1))))) (.l (.inl (v.1,(wrap .i64 (v.2+1))))))) (.l (.inl (v.1,(wrap .i64 (v.2+1)))))) (.l (.inl (v.1,(wrap .i64 (v.2+1)))))) (.l (.inr v.1))
def aHq k v:=aB (λv=>(U8 k v).ev) v
def aRy:LD:=yl (U8) (yk [] [2,3,5,6,7] (yj [.box 2 0,.box 3 0,.dat yi,.arr 896,.dat yi]) [yV,(3,.cells Zp),(896,.arr 3 yi)]) [(0,oC)] aF (λk v=>(((),(),v.1,(),v.2,()),(k.1,k.2.1,()),(k.2.2.1,k.2.2.2.1,k.2.2.2.2.1,k.2.2.2.2.2.1,k.2.2.2.2.2.2.1,()),k.2.2.2.2.2.2.2,())) (λt=>(t.2.1.1,t.2.1.2.1,t.2.2.1.1,t.2.2.1.2.1,t.2.2.1.2.2.1,t.2.2.1.2.2.2.1,t.2.2.1.2.2.2.2.1,t.2.2.2.1)) VZ (λ_ r=>yx 0 oC ((r,()),()))
def aEY(i:Y1)(h:List Y1)(f:Int)(g:Y1)(e:List Bool)(a b:Y1):Tr Int:=.c _ (aEk i h f g e a b) λn=>.c _ (CU f g e a b) λm=>.c _ (aHq (i,h,f,g,e,a,b,m) (n,0)) λj=>.l j
def aCy h f e g c a b:=(aEY h f e g c a b).ev
def aSD:FP prog:=aH cx func310 [aST,aGG,aPT,aGC] (yj [.agg Zh,.agg Zp]) [] [] (UT aEY) kA bR bU [(0,aRy)]
def IE(k:Y1×Y2×Int×Int×Y1×Y1×Y1×Y1×(List Bool)×Y1)(v:Int×Y1):Tr (gD⊕Y1):=.t (v.1<(length k.1:Int)) (.g ((length v.2+length ([(-1)]:Y1))*8<=140737488355328)<|.l (.inl ((wrap .i64 (v.1+1)),(v.2++([(-1)]:Y1))))) (.l (.inr v.2))
def aLE k v:=aB (λv=>(IE k v).ev) v
abbrev RJ:Keep:=yk [] [1,2,3] (yj [.box 1 0,.box 2 0,.box 3 0]) [jT,Zbo,(3,.cells (yj [.dat yi,.arr 8,.arr 12,.arr 16,.arr 900334])),(900321,.arr 3 yi),(900323,.arr 3 yi),(900324,.arr 3 yi),(8,.arr 3 yi),(12,.arr 4 .bool),(16,.arr 3 yi),(900334,.arr 3 yi)]
def aPP:LD:=yl (IE) (yk [.ownB 2 1 900321 3 yi,.ownB 2 3 900323 3 yi,.ownB 2 4 900324 3 yi,.ownB 3 4 900334 3 yi] [1,2,3,4] (yj [.box 1 0,.box 2 0,.box 3 0,.dat yi]) [jT,Zbo,(3,.cells (yj [.dat yi,.arr 8,.arr 12,.arr 16,.arr 900334])),(900321,.arr 3 yi),(900323,.arr 3 yi),(900324,.arr 3 yi),(8,.arr 3 yi),(12,.arr 4 .bool),(16,.arr 3 yi),(900334,.arr 3 yi)]) [(0,RJ)] aF (λk v=>(((),(),(),v.1,()),(k.1,k.2.1,()),(k.2.2.1,(),(),(),(),()),(k.2.2.2.1,(),(),(),(),()),k.2.2.2.2.1,k.2.2.2.2.2.1,k.2.2.2.2.2.2.1,k.2.2.2.2.2.2.2.1,k.2.2.2.2.2.2.2.2.1,k.2.2.2.2.2.2.2.2.2,v.2,())) (λt=>(t.2.1.1,t.2.1.2.1,t.2.2.1.1,t.2.2.2.1.1,t.2.2.2.2.1,t.2.2.2.2.2.1,t.2.2.2.2.2.2.1,t.2.2.2.2.2.2.2.1,t.2.2.2.2.2.2.2.2.1,t.2.2.2.2.2.2.2.2.2.1)) (λt=>(t.1.2.2.2.1,t.2.2.2.2.2.2.2.2.2.2.1)) (λk r=>yx 0 RJ (((),(),(),()),(k.1,k.2.1,()),(k.2.2.1,(),(),(),(),()),(k.2.2.2.1,(),(),(),(),()),k.2.2.2.2.1,k.2.2.2.2.2.1,k.2.2.2.2.2.2.1,k.2.2.2.2.2.2.2.1,k.2.2.2.2.2.2.2.2.1,k.2.2.2.2.2.2.2.2.2,r,()))
def Ue(k:Y1×Y2×Int×Nd)(v:Int×Lv):Tr ((Int×Lv)⊕(Int×Lv)):=.c _ (aFH v.1 v.2.1 v.2.2.1 v.2.2.2.1 v.2.2.2.2) λb=>.t b (.c _ (aCy k.1 k.2.1 v.1 v.2.1 v.2.2.1 v.2.2.2.1 v.2.2.2.2) λe=>.c _ (KF k.1 k.2.1 e v.2.1 v.2.2.1 v.2.2.2.1 v.2.2.2.2) λa=>.l (.inl (a.1,a.2.1,a.2.2.1,a.2.2.2.1,a.2.2.2.2))) (.l (.inr (v.1,v.2.1,v.2.2.1,v.2.2.2.1,v.2.2.2.2)))
def MQ k v:=aB (λv=>(Ue k v).ev) v
abbrev XI:Keep:=yk [] [2,3] (yj [.box 2 0,.box 3 0]) [Zbo,(3,.cells (yj [.dat yi,.arr 902631,.arr 902632,.arr 902633,.arr 902634])),(900321,.arr 3 yi),(900323,.arr 3 yi),(900324,.arr 3 yi),(902631,.arr 3 yi),(902632,.arr 4 .bool),(902633,.arr 3 yi),(902634,.arr 3 yi)]
def aMD:LD:=yl (Ue) (yk [.repB 3 1 902631,.repB 3 2 902632,.repB 3 3 902633,.repB 3 4 902634] [1,2,3] (yj [.box 1 0,.box 2 0,.box 3 0]) [jT,Zbo,(3,.cells (yj [.dat yi,.arr 902631,.arr 902632,.arr 902633,.arr 902634])),(900321,.arr 3 yi),(900323,.arr 3 yi),(900324,.arr 3 yi),(902631,.arr 3 yi),(902632,.arr 4 .bool),(902633,.arr 3 yi),(902634,.arr 3 yi)]) [(2,XI)] aF (λk v=>(((),(),(),()),(k.1,k.2.1,()),(k.2.2.1,(),(),(),(),()),(v.1,(),(),(),(),()),k.2.2.2.1,k.2.2.2.2.1,k.2.2.2.2.2,v.2.1,v.2.2.1,v.2.2.2.1,v.2.2.2.2,())) (λt=>(t.2.1.1,t.2.1.2.1,t.2.2.1.1,t.2.2.2.2.1,t.2.2.2.2.2.1,t.2.2.2.2.2.2.1)) (λt=>(t.2.2.2.1.1,t.2.2.2.2.2.2.2.1,t.2.2.2.2.2.2.2.2.1,t.2.2.2.2.2.2.2.2.2.1,t.2.2.2.2.2.2.2.2.2.2.1)) (λk r=>yx 2 XI (((),(),()),(k.2.2.1,(),(),(),(),()),(r.1,(),(),(),(),()),k.2.2.2.1,k.2.2.2.2.1,k.2.2.2.2.2,r.2.1,r.2.2.1,r.2.2.2.1,r.2.2.2.2,()))
def aEB(f:Y1)(a:List Y1):Tr (Int×Lv):=.g (((0:Int)<=(length a:Int))&&((length a:Int)<=(length a:Int))&&(((8:Nat):Int)*(length a:Int)<=281474976710656))<|.g (((0:Int)<=(length a:Int))&&((length a:Int)<=(length a:Int))&&(((1:Nat):Int)*(length a:Int)<=281474976710656))<|.g (((0:Int)<=(length a:Int))&&((length a:Int)<=(length a:Int))&&(((8:Nat):Int)*(length a:Int)<=281474976710656))<|.c _ (aLE (f,a,0,0,[],[],[],(List.replicate (toNat (length a:Int)) 0),(List.replicate (toNat (length a:Int)) false),(List.replicate (toNat (length a:Int)) 0)) (0,[])) λh=>.c _ (KF f a 0 (List.replicate (toNat (length a:Int)) 0) (List.replicate (toNat (length a:Int)) false) (List.replicate (toNat (length a:Int)) 0) h) λb=>.c _ (MQ (f,a,0,[],[],[]) (b.1,b.2.1,b.2.2.1,b.2.2.2.1,b.2.2.2.2)) λe=>.l (e.1,e.2.1,e.2.2.1,e.2.2.2.1,e.2.2.2.2)
def aAN a b:=(aEB a b).ev
def aMv:FP prog:=aH cx func267 [aPr,aNS,aSD] (yj [.agg Zh]) [] [] (jO aEB) ⟨[.ren 902631 1,.ren 902632 4,.ren 902633 5,.ren 902634 6],[.cell 2 223],(yj [.agg (yj [.dat yi,.arr 1,.arr 4,.arr 5,.arr 6])]),[(1,.arr 3 yi),(4,.arr 4 .bool),(5,.arr 3 yi),(6,.arr 3 yi)],[],[]⟩ WL bU [(0,aPP),(2,aMD)]
def Sw(k:Y1×Int×Int×Lv)(v:Int):Tr (Int⊕Int):=.t (v<(length k.1:Int)) (.g (aC v (length k.1))<|.c _ (LM k.2.2.1 k.2.2.2.1 k.2.2.2.2.1 k.2.2.2.2.2.1 k.2.2.2.2.2.2 k.2.1 (getD k.1 (toNat v) 0)) λa=>.t (!a) (.l (.inl (wrap .i64 (v+1)))) (.l (.inr v))) (.l (.inr v))
def aCs k v:=aB (λv=>(Sw k v).ev) v
abbrev HS:Keep:=yk [] [1,3,4,5] (yj [.box 1 0,.dat y1,.dat yi,.dat yi]) [(1,.cells Zp)]
def aRf:LD:=yl (Sw) HS [(2,HS)] aF (λk v=>(((),k.1,k.2.1,v,()),(k.2.2.1,k.2.2.2.1,k.2.2.2.2.1,k.2.2.2.2.2.1,k.2.2.2.2.2.2,()),())) (λt=>(t.1.2.1,t.1.2.2.1,t.2.1.1,t.2.1.2.1,t.2.1.2.2.1,t.2.1.2.2.2.1,t.2.1.2.2.2.2.1)) rJ (λk r=>yx 2 HS (((),k.1,k.2.1,r,()),(k.2.2.1,k.2.2.2.1,k.2.2.2.2.1,k.2.2.2.2.2.1,k.2.2.2.2.2.2,()),()))
def Sl(k:Int×Lv)(v:Y1×Int):Tr ((Y1×Int)⊕Y1):=.t (v.2<(length k.2.2.2.2:Int)) (.g (aC v.2 (length k.2.2.2.2))<|.t ((getD k.2.2.2.2 (toNat v.2) 0)<(0:Int)) (.l (.inl (v.1,(wrap .i64 (v.2+1))))) (.c _ (aCs (v.1,v.2,k.1,k.2.1,k.2.2.1,k.2.2.2.1,k.2.2.2.2) 0) λa=>.g ((0<=a)&&(a<=(length v.1:Int)))<|.c _ (pY (List.drop 0 (List.take (toNat a) v.1))) λb=>.g ((length b+length ([v.2]:Y1))*8<=140737488355328)<|.g ((0<=a)&&(a<=(length v.1:Int)))<|.g ((length (b++([v.2]:Y1))+length (List.drop (toNat a) (List.take (length v.1) v.1)))*8<=140737488355328)<|.l (.inl (((b++([v.2]:Y1))++(List.drop (toNat a) (List.take (length v.1) v.1))),(wrap .i64 (v.2+1)))))) (.l (.inr v.1))
def aJn k v:=aB (λv=>(Sl k v).ev) v
abbrev TO:Keep:=yh [3] Bc
def aQi:LD:=yl (Sl) (yk [.fz 6,.fz 2496] [1,3,4] (yj [.box 1 0,.dat y1,.dat yi]) [(1,.cells Zp)]) [(0,TO)] aF (λk v=>(((),v.1,v.2,()),(k.1,k.2.1,k.2.2.1,k.2.2.2.1,k.2.2.2.2,()),())) Zz iM (λ_ r=>yx 0 TO ((r,()),()))
def aAL(h:Int)(f:Y1)(e:List Bool)(g b:Y1):Tr Y1:=.c _ (aJn (h,f,e,g,b) ([],0)) λa=>.l a
def aFq f c b e a:=(aAL f c b e a).ev
def aSh:FP prog:=aH cx func268 [aHj,Da] (yj [.agg Zp]) [] [] (Do aAL) UW bR (s8 [(9,[(0,[3])])]) [(2,aRf),(0,aQi)]
def Gm(k:Int×Int×Y1×Y2×Int×Lv)(v:Int):Tr (Int⊕(Unit⊕Bool)):=.t (v<(length k.2.2.2.1:Int)) (.g (aC v (length k.2.2.2.2.2.1))<|.g (aC v (length k.2.2.2.1))<|.g (aC k.1 (length (getD k.2.2.2.1 (toNat v) [])))<|.t ((wrap .i64 ((2520:Int)*(getD (getD k.2.2.2.1 (toNat v) []) (toNat k.1) 0)))<(getD k.2.2.2.2.2.1 (toNat v) 0)) (.g (aC v (length k.2.2.2.2.2.1))<|.g (aC v (length k.2.2.2.1))<|.g (aC k.2.1 (length (getD k.2.2.2.1 (toNat v) [])))<|.t ((wrap .i64 ((2520:Int)*(getD (getD k.2.2.2.1 (toNat v) []) (toNat k.2.1) 0)))<(getD k.2.2.2.2.2.1 (toNat v) 0)) (.g (aC k.1 (length k.2.2.2.2.2.2.2.2))<|.t ((0:Int)<=(getD k.2.2.2.2.2.2.2.2 (toNat k.1) 0)) (.g (aC k.2.1 (length k.2.2.2.2.2.2.2.2))<|.l (.inr (.inr ((0:Int)<=(getD k.2.2.2.2.2.2.2.2 (toNat k.2.1) 0))))) (.l (.inr (.inr false)))) (.l (.inl (wrap .i64 (v+1))))) (.l (.inl (wrap .i64 (v+1))))) (.l (.inr (.inl ())))
def aIw k v:=aB (λv=>(Gm k v).ev) v
abbrev J9:Keep:=yh [8] Rv
def aSi:LD:=yl (Gm) (yk [] [2,3,4,5,9] (yj [.dat yi,.dat yi,.box 4 0,.box 5 0,.dat yi]) [(4,.cells Zh),(5,.cells Zp)]) [(0,aF)] J9 (λk v=>((k.1,k.2.1,(),(),v,()),(k.2.2.1,k.2.2.2.1,()),(k.2.2.2.2.1,k.2.2.2.2.2.1,k.2.2.2.2.2.2.1,k.2.2.2.2.2.2.2.1,k.2.2.2.2.2.2.2.2,()),())) (λt=>(t.1.1,t.1.2.1,t.2.1.1,t.2.1.2.1,t.2.2.1.1,t.2.2.1.2.1,t.2.2.1.2.2.1,t.2.2.1.2.2.2.1,t.2.2.1.2.2.2.2.1)) l4 (λ_ r=>.s _ _ r (λ_=>yx 0 aF ((),())) (λb=>yz J9 ((b,()),())))
def aAV(o:Y1)(j:List Y1)(h:Int)(m:Y1)(g:List Bool)(a e:Y1)(b i:Int):Tr Bool:=.c _ (aIw (b,i,o,j,h,m,g,a,e) 0) λn=>.s _ _ n (λ_=>.l false) (λf=>.l f)
def aGs j h f i e a c b g:=(aAV j h f i e a c b g).ev
abbrev FG:RetK:=yr [.tmp 8] Rv
def aPo:FP prog:=aH cx func269 [] (yj [.agg Zh,.agg Zp,.dat yi,.dat yi]) [] [] ((λf x=>f x.1.1.1 x.1.1.2.1 x.1.2.1.1 x.1.2.1.2.1 x.1.2.1.2.2.1 x.1.2.1.2.2.2.1 x.1.2.1.2.2.2.2.1 x.1.2.2.1 x.1.2.2.2.1) aAV) FG bR bU [(0,aSi)]
def Pf(k:Y1×Y1×Int×Y1×Y2×Int×Lv)(v:Bool×Int):Tr ((Bool×Int)⊕Bool):=.t (v.2<(length k.2.1:Int)) (.t v.1 (.g (aC k.2.2.1 (length k.1))<|.g (aC v.2 (length k.2.1))<|.c _ (aGs k.2.2.2.1 k.2.2.2.2.1 k.2.2.2.2.2.1 k.2.2.2.2.2.2.1 k.2.2.2.2.2.2.2.1 k.2.2.2.2.2.2.2.2.1 k.2.2.2.2.2.2.2.2.2 (getD k.1 (toNat k.2.2.1) 0) (getD k.2.1 (toNat v.2) 0)) λa=>.l (.inl ((!a),(wrap .i64 (v.2+1))))) (.l (.inl (false,(wrap .i64 (v.2+1)))))) (.l (.inr v.1))
def aKY k v:=aB (λv=>(Pf k v).ev) v
abbrev UL:Keep:=yk [] [1,4,5,6,7,8] (yj [.box 1 0,.box 4 0,.dat y1,.dat y1,.dat yi,.dat .bool]) [jT,(4,.cells Zp)]
def aQv:LD:=yl (Pf) (yk [] [1,4,5,6,7,8,9] (yj [.box 1 0,.box 4 0,.dat y1,.dat y1,.dat yi,.dat .bool,.dat yi]) [jT,(4,.cells Zp)]) [(2,UL)] aF (λk v=>(((),(),k.1,k.2.1,k.2.2.1,v.1,v.2,()),(k.2.2.2.1,k.2.2.2.2.1,()),(k.2.2.2.2.2.1,k.2.2.2.2.2.2.1,k.2.2.2.2.2.2.2.1,k.2.2.2.2.2.2.2.2.1,k.2.2.2.2.2.2.2.2.2,()),())) (λt=>(t.1.2.2.1,t.1.2.2.2.1,t.1.2.2.2.2.1,t.2.1.1,t.2.1.2.1,t.2.2.1.1,t.2.2.1.2.1,t.2.2.1.2.2.1,t.2.2.1.2.2.2.1,t.2.2.1.2.2.2.2.1)) (λt=>(t.1.2.2.2.2.2.1,t.1.2.2.2.2.2.2.1)) (λk r=>yx 2 UL (((),(),k.1,k.2.1,k.2.2.1,r,()),(k.2.2.2.1,k.2.2.2.2.1,()),(k.2.2.2.2.2.1,k.2.2.2.2.2.2.1,k.2.2.2.2.2.2.2.1,k.2.2.2.2.2.2.2.2.1,k.2.2.2.2.2.2.2.2.2,()),()))
def Vr(k:Y1×Y1×Y2×Int×Lv)(v:Y1×Int):Tr ((Y1×Int)⊕Y1):=.t (v.2<(length k.1:Int)) (.c _ (aKY (k.1,v.1,v.2,k.2.1,k.2.2.1,k.2.2.2.1,k.2.2.2.2.1,k.2.2.2.2.2.1,k.2.2.2.2.2.2.1,k.2.2.2.2.2.2.2) (true,0)) λa=>.t a (.g (aC v.2 (length k.1))<|.c _ (Df v.1 (getD k.1 (toNat v.2) 0)) λb=>.l (.inl (b,(wrap .i64 (v.2+1))))) (.l (.inl (v.1,(wrap .i64 (v.2+1)))))) (.l (.inr v.1))
def aHW k v:=aB (λv=>(Vr k v).ev) v
abbrev I8:Keep:=yh [6] Bc
def aRZ:LD:=yl (Vr) (yk [.fz 25,.fz 3776] [1,4,5,6,7] (yj [.box 1 0,.box 4 0,.dat y1,.dat y1,.dat yi]) [jT,(4,.cells Zp)]) [(0,I8)] aF (λk v=>(((),(),k.1,v.1,v.2,()),(k.2.1,k.2.2.1,()),(k.2.2.2.1,k.2.2.2.2.1,k.2.2.2.2.2.1,k.2.2.2.2.2.2.1,k.2.2.2.2.2.2.2,()),())) (λt=>(t.1.2.2.1,t.2.1.1,t.2.1.2.1,t.2.2.1.1,t.2.2.1.2.1,t.2.2.1.2.2.1,t.2.2.1.2.2.2.1,t.2.2.1.2.2.2.2.1)) z6 (λ_ r=>yx 0 I8 ((r,()),()))
def PJ(e:Y1)(b:List Y1):Tr (Y1×Bool):=.c _ (uO e b) λh=>.t (!h) (.l ([],false)) (.t ((length b:Int)==(0:Int)) (.c _ (aDq e b) λg=>.l (([g]:Y1),true)) (.c _ (aAN e b) λa=>.c _ (aFq a.1 a.2.1 a.2.2.1 a.2.2.2.1 a.2.2.2.2) λi=>.c _ (aHW (i,e,b,a.1,a.2.1,a.2.2.1,a.2.2.2.1,a.2.2.2.2) ([],0)) λf=>.l (f,true)))
def We a b:=(PJ a b).ev
def aOB:FP prog:=aH cx func200 [E4,aPK,aMv,aSh,aPo,aBq] (yj [.agg Zh]) [] [] (jO PJ) ⟨[.fz 13,.fz 20],[.tmp 2,.tmp 3],(yj [.dat y1,.dat .bool]),[],[],[]⟩ dD (s8 [(6,[(1,[23])])]) [(2,aQv),(0,aRZ)]
def aBd(e:Y1)(b:List Y1)(a:Y1):Tr (Bool×Bool):=.c _ (Gs e b a) λg=>.t (!g) (.l (false,false)) (.c _ (CV e b a) λf=>.l ((!f.1),true))
def aAy c b a:=(aBd c b a).ev
abbrev TB:RetK:=yr [.tmp 4,.tmp 5] (yj [.dat .bool,.dat .bool])
def aQJ:FP prog:=aH cx func201 [II,aHz] (yj [.agg Zh,.dat y1]) [] [] (bH aBd) TB dD
def DZ(k:Int×C4)(v:Int×Int):Tr (jA⊕Int):=.t (v.2<(length k.2.2.2:Int)) (.g (aC v.2 (length k.2.2.2))<|.g (aC k.1 (length (getD k.2.2.2 (toNat v.2) [])))<|.g (aC v.2 (length k.2.2.2))<|.g (aC k.2.1 (length (getD k.2.2.2 (toNat v.2) [])))<|.t ((getD (getD k.2.2.2 (toNat v.2) []) (toNat k.1) 0)<(getD (getD k.2.2.2 (toNat v.2) []) (toNat k.2.1) 0)) (.l (.inl ((wrap .i64 (v.1+1)),(wrap .i64 (v.2+1))))) (.l (.inl (v.1,(wrap .i64 (v.2+1)))))) (.l (.inr v.1))
def aJx k v:=aB (λv=>(DZ k v).ev) v
def aTp:LD:=yl (DZ) (yk [] [1,2,3,7,8] (yj [.dat yi,.dat yi,.box 3 0,.dat yi,.dat yi]) [(3,.cells Zh)]) [(0,rV)] aF VJ DP z6 (λ_ r=>yx 0 rV ((r,()),()))
def aCw(f:Y1)(b:List Y1)(a e:Int):Tr Int:=.c _ (aJx (a,e,f,b) (0,0)) λg=>.l g
def QK e b a c:=(aCw e b a c).ev
def aMG:FP prog:=aH cx func271 [] (yj [.agg Zh,.dat yi,.dat yi]) [] [] (uM aCw) w6 bR bU [(0,aTp)]
def BG(k:Int×Oi)(v:Bool×Int):Tr ((Bool×Int)⊕Bool):=.t (v.2<(length k.2.1:Int)) (.t v.1 (.l (.inl (true,(wrap .i64 (v.2+1))))) (.c _ (QK k.2.1 k.2.2.1 v.2 k.1) λa=>.c _ (QK k.2.1 k.2.2.1 k.1 v.2) λb=>.l (.inl ((b<a),(wrap .i64 (v.2+1)))))) (.l (.inr v.1))
def aJr k v:=aB (λv=>(BG k v).ev) v
abbrev VP:Keep:=yk [] [1,4,5,6] (yj [.box 1 0,.arr 8,.dat yi,.dat .bool]) [jT,(8,.arr 3 yi)]
def aRR:LD:=yl (BG) (yk [] [1,4,5,6,7] (yj [.box 1 0,.arr 8,.dat yi,.dat .bool,.dat yi]) [jT,(8,.arr 3 yi)]) [(2,VP)] aF SI QU z6 (λk r=>yx 2 VP (((),(),k.1,r,()),(k.2.1,k.2.2.1,()),k.2.2.2,()))
def DK(k:Y1×Y2)(v:Int×Y1):Tr (gD⊕Y1):=.t (v.1<(length k.1:Int)) (.c _ (aJr (v.1,k.1,k.2,v.2) (false,0)) λa=>.t (!a) (.g ((length v.2+length ([v.1]:Y1))*8<=140737488355328)<|.l (.inl ((wrap .i64 (v.1+1)),(v.2++([v.1]:Y1))))) (.l (.inl ((wrap .i64 (v.1+1)),v.2)))) (.l (.inr v.2))
def aHZ k v:=aB (λv=>(DK k v).ev) v
abbrev Nm:Keep:=yk [] [4] (yj [.arr 8]) [(8,.arr 3 yi)]
def aQT:LD:=yl (DK) (yk [] [1,4,5] (yj [.box 1 0,.arr 8,.dat yi]) [jT,(8,.arr 3 yi)]) [(0,Nm)] aF Bl E8 O5 (λ_ r=>yx 0 Nm (((),()),r,()))
def ZN(a:Y1)(b:List Y1):Tr C5:=.c _ (uO a b) λe=>.t (!e) (.l (false,[])) (.c _ (aHZ (a,b) (0,[])) λf=>.l (true,f))
def aFg a b:=(ZN a b).ev
def aNp:FP prog:=aH cx func202 [E4,aMG] (yj [.agg Zh]) [] [] (jO ZN) ⟨[.ren 8 0],[.tmp 2,.tmp 3],Ho,[tK],[],[]⟩ gX bU [(2,aRR),(0,aQT)]
def aBb(e:Y1)(a:List Y1)(f:Y1)(o:Int)(b:List UInt8):Tr (List UInt8):=.t (b==([116,111,116,97,108]:List UInt8)) (.c _ (OA e a f o) λp=>.c _ (Gx p.1 p.2) λw=>.l w) (.t (b==([103,97,112]:List UInt8)) (.c _ (aAB e a f o) λg=>.c _ (Gx g.1 g.2) λy=>.l y) (.t (b==([115,101,114,118,105,99,101]:List UInt8)) (.c _ (aBa e a f) λr=>.c _ (Gx r.1 r.2) λaa=>.l aa) (.t (b==([114,101,97,99,104]:List UInt8)) (.c _ (aCl e a f) λh=>.c _ (Gx h.1 h.2) λac=>.l ac) (.t (b==([115,101,114,118,101,100]:List UInt8)) (.c _ (aDB e a f) λi=>.c _ (a9 i.2 i.1) λu=>.l u) (.t (b==([109,101,116,114,105,99]:List UInt8)) (.c _ (aEZ e a) λn=>.c _ (YZ n.1 n.2) λab=>.l ab) (.t (b==([102,105,101,108,100]:List UInt8)) (.c _ (JQ e a) λae=>.l ae) (.t (b==([112,114,105,99,101,115]:List UInt8)) (.c _ (aFw e a) λj=>.c _ (a9 j.2 j.1) λag=>.l ag) (.t (b==([103,114,111,119,116,104]:List UInt8)) (.c _ (We e a) λm=>.c _ (a9 m.1 m.2) λz=>.l z) (.t (b==([108,111,99,97,108]:List UInt8)) (.c _ (aAy e a f) λs=>.c _ (YZ s.1 s.2) λad=>.l ad) (.t (b==([117,110,98,101,97,116,101,110]:List UInt8)) (.c _ (aFg e a) λq=>.c _ (a9 q.2 q.1) λaf=>.l af) (.l ([63]:List UInt8))))))))))))
def ND f c b e a:=(aBb f c b e a).ev
def aNu:FP prog:=aH cx func123 [aIu,aNk,aRE,aSX,aRd,aPd,aLo,aSp,aOt,aQd,aSR,aOB,aQJ,aNp] (yj [.agg Zl,.dat .str]) [] [] (J6 aBb) Cb bR
noncomputable abbrev Ji(p1:Y1)(p2:List Y1)(p3:Y1)(p4 p5:Int):=(.c _ (i9 p1 p2 p3 p4 p5 0 0 0 []) λa=>.l (a.1,a.2.1,a.2.2.1,a.2.2.2.1,a.2.2.2.2):Tr WZ)
def aBt(f:Y1)(b:List Y1)(a:Y1)(e:Int)(g:List UInt8):Tr WZ:=.t (g==([105,109,112,114,111,118,101]:List UInt8)) (Ji f b a e 10) (.t (g==([98,101,115,116]:List UInt8)) (Ji f b a e 11) (.t (g==([99,108,105,101,110,116]:List UInt8)) (Ji f b a e 7) (.c _ (ND f b a e g) λh=>.l (f,b,a,e,h))))
def Hu f c b e a:=(aBt f c b e a).ev
abbrev SX:RetK:=yr [.cell 4 29,.tmp 5] (yj [.agg Zl,.dat .str])
def aNM:FP prog:=aH cx func75 [NP,aNu] (yj [.agg Zl,.dat .str]) [] [] (J6 aBt) SX Ag
def Lt(k:(List UInt8)×(List UInt8))(v:Int×Int):Tr (jA⊕(Int⊕Unit)):=.t (v.2<(length k.2:Int)) (.g (aC v.2 (length k.2))<|.t (((UInt8.toNat (getD k.2 (toNat v.2) 0):Nat):Int)<(48:Int)) (.l (.inr (.inr ()))) (.g (aC v.2 (length k.2))<|.t ((57:Int)<((UInt8.toNat (getD k.2 (toNat v.2) 0):Nat):Int)) (.l (.inr (.inr ()))) (.g (aC v.2 (length k.2))<|.l (.inl ((wrap .i64 ((wrap .i64 ((10:Int)*v.1))+(wrap .i64 (wrap .u8 (((UInt8.toNat (getD k.2 (toNat v.2) 0):Nat):Int) -48))))),(wrap .i64 (v.2+1))))))) (.l (.inr (.inl v.1)))
def IG k v:=aB (λv=>(Lt k v).ev) v
abbrev WM:Keep:=yh [0,4,5] Q8
abbrev SL:Keep:=yh [2,3] (yj [.dat yi,.dat .bool])
def aNq:LD:=yl (Lt) (yh [0,4,5,6] (yj [.dat .str,.dat .str,.dat yi,.dat yi])) [(0,WM)] SL (λk v=>((k.1,k.2,v.1,v.2,()),())) rX uX (λk r=>.s _ _ r (λa=>yx 0 WM ((k.1,k.2,a,()),())) (λ_=>yz SL ((0,false,()),())))
noncomputable abbrev Xt(p1:List UInt8):=(.c _ (rK (length p1:Int) 1 6) λf=>.t (!f) (.l (0,false)) (.c _ (IG (p1,p1) (0,0)) λb=>.s _ _ b (λa=>.t ((length p1:Int)<(length p1:Int)) (.c _ (qQ 1000000 (wrap .i64 (0-a))) λe=>.t (!(e==p1)) (.l (0,false)) (.l ((wrap .i64 (0-a)),true))) (.c _ (qQ 1000000 a) λg=>.t (!(g==p1)) (.l (0,false)) (.l (a,true)))) (λ_=>.l (0,false))):Tr Hn)
def aFZ(a:List UInt8):Tr Hn:=.t ((1:Int)<(length a:Int)) (.g (aC 0 (length a))<|.t (((UInt8.toNat (getD a (toNat 0) 0):Nat):Int)==(45:Int)) (.g (((0:Int)<=(1:Int))&&((1:Int)<=(length a:Int)))<|.c _ (rK (length (List.drop (toNat 1) (List.take (length a) a)):Int) 1 6) λi=>.t (!i) (.l (0,false)) (.c _ (IG (a,(List.drop (toNat 1) (List.take (length a) a))) (0,0)) λh=>.s _ _ h (λb=>.t ((length (List.drop (toNat 1) (List.take (length a) a)):Int)<(length a:Int)) (.c _ (qQ 1000000 (wrap .i64 (0-b))) λf=>.t (!(f==a)) (.l (0,false)) (.l ((wrap .i64 (0-b)),true))) (.c _ (qQ 1000000 b) λe=>.t (!(e==a)) (.l (0,false)) (.l (b,true)))) (λ_=>.l (0,false)))) (Xt a)) (Xt a)
def aCR a:=(aFZ a).ev
def aPU:FP prog:=aH cx func124 [D4,T3] Gf [] [] (qH aFZ) Bi dD bU [(0,aNq)]
def Ti(k:List (List UInt8))(v:Int×Y1):Tr (gD⊕(Y1⊕Unit)):=.t (v.1<(length k:Int)) (.g (aC v.1 (length k))<|.c _ (aCR (getD k (toNat v.1) [])) λa=>.t (!a.2) (.l (.inr (.inr ()))) (.g ((length v.2+length ([a.1]:Y1))*8<=140737488355328)<|.l (.inl ((wrap .i64 (v.1+1)),(v.2++([a.1]:Y1)))))) (.l (.inr (.inl v.2)))
def aKN k v:=aB (λv=>(Ti k v).ev) v
abbrev SK:Keep:=yk [] [2,3] (yj [.arr 25,.dat .bool]) [(25,.arr 3 yi)]
def aQx:LD:=yl (Ti) (yk [] [0,4,5] (yj [.dat (.slice .str),.arr 8,.dat yi]) [(8,.arr 3 yi)]) [(0,Nm)] SK Fw oF Fv (λ_ r=>.s Y1 Unit r (λa=>yx 0 Nm (((),()),a,())) (λ_=>yz SK (((),false,()),[],())))
def aEV(a:List (List UInt8)):Tr C5:=.c _ (aKN a (1,[])) λe=>.s Y1 Unit e (λb=>.l (true,b)) (λ_=>.l (false,[]))
def QH a:=(aEV a).ev
def aQy:FP prog:=aH cx func76 [aPU] (yj [.dat (.slice .str)]) [] [] (qH aEV) ⟨[.ren 8 0,.ren 25 0],[.tmp 2,.tmp 3],Ho,[tK],[],[]⟩ gX bU [(0,aQx)]
def aBQ(a:Y1)(f:List Y1)(e:Int):Tr Bool:=.c _ (uO a f) λg=>.t g (.c _ (rK e 1 (length a:Int)) λb=>.l b) (.l false)
def aFE c b a:=(aBQ c b a).ev
def aRa:FP prog:=aH cx func203 [E4,D4] (yj [.agg Zh,.dat yi]) [] [] (bH aBQ) eC bR
def Cw(k:Int×Y2×Y1×Y2)(v:Y1×Int):Tr ((Y1×Int)⊕Y1):=.t (v.2<(length k.2.1:Int)) (.g (aC v.2 (length k.2.1))<|.t ((length (getD k.2.1 (toNat v.2) []):Int)==k.1) (.t ((length v.1:Int)==(0:Int)) (.g (aC v.2 (length k.2.1))<|.l (.inl ((getD k.2.1 (toNat v.2) []),(wrap .i64 (v.2+1))))) (.g (aC v.2 (length k.2.1))<|.c _ (Su k.2.2.1 k.2.2.2 (getD k.2.1 (toNat v.2) [])) λa=>.c _ (Su k.2.2.1 k.2.2.2 v.1) λb=>.t (a<b) (.g (aC v.2 (length k.2.1))<|.l (.inl ((getD k.2.1 (toNat v.2) []),(wrap .i64 (v.2+1))))) (.l (.inl (v.1,(wrap .i64 (v.2+1))))))) (.l (.inl (v.1,(wrap .i64 (v.2+1)))))) (.l (.inr v.1))
def aHG k v:=aB (λv=>(Cw k v).ev) v
def aQm:LD:=yl (Cw) (yk [.fz 12] [1,2,5,6,7] (yj [.dat yi,.box 2 0,.dat y2,.dat y1,.dat yi]) [yV]) [(0,I8)] aF (λk v=>((k.1,(),k.2.1,v.1,v.2,()),(k.2.2.1,k.2.2.2,()),())) (λt=>(t.1.1,t.1.2.2.1,t.2.1.1,t.2.1.2.1)) z6 (λ_ r=>yx 0 I8 ((r,()),()))
def aFd(a:Y1)(f:List Y1)(e:Int):Tr Y1:=.c _ (BY (length a:Int)) λg=>.c _ (aHG (e,g,a,f) ([],0)) λb=>.l b
def aBp c b a:=(aFd c b a).ev
abbrev Mq:RetK:=yr [.tmp 4] Bc
def aOq:FP prog:=aH cx func204 [aDF,aDU] (yj [.agg Zh,.dat yi]) [] [] (bH aFd) Mq bR bU [(0,aQm)]
def PL(e:Y1)(b:List Y1)(a:Int):Tr (Y1×Bool):=.c _ (aFE e b a) λg=>.t (!g) (.l ([],false)) (.c _ (aBp e b a) λf=>.l (f,true))
def QD c b a:=(PL c b a).ev
def aRs:FP prog:=aH cx func127 [aRa,aOq] (yj [.agg Zh,.dat yi]) [] [] (bH PL) ⟨[.fz 10],[.tmp 4,.tmp 5],(yj [.dat y1,.dat .bool]),[],[],[]⟩ dD
def YQ(a:Y1)(f:List Y1)(e:Int):Tr Bool:=.c _ (uO a f) λg=>.t g (.c _ (rK e 1 (length a:Int)) λb=>.l b) (.l false)
def aEr c b a:=(YQ c b a).ev
def aSB:FP prog:=aH cx func205 [E4,D4] (yj [.agg Zh,.dat yi]) [] [] (bH YQ) eC bR
def Po(k v:Int×Y2):Tr (D0⊕Y2):=.t (v.1<(length k.2:Int)) (.g (aC v.1 (length k.2))<|.t ((length (getD k.2 (toNat v.1) []):Int)<=k.1) (.g (aC v.1 (length k.2))<|.g ((length v.2+length ([(getD k.2 (toNat v.1) [])]:List Y1))*24<=140737488355328)<|.l (.inl ((wrap .i64 (v.1+1)),(v.2++([(getD k.2 (toNat v.1) [])]:List Y1))))) (.l (.inl ((wrap .i64 (v.1+1)),v.2)))) (.l (.inr v.2))
def aJj k v:=aB (λv=>(Po k v).ev) v
abbrev TN:Keep:=yk [] [5] (yj [.arr 8]) [(8,.arr 24 y1)]
abbrev VT{a b c d e:Type}(t:(a×b×c×d)×e):=(t.1.1,t.1.2.2.1)
def aNn:LD:=yl (Po) (yk [] [1,5,6,7] (yj [.dat yi,.arr 8,.dat y2,.dat yi]) [(8,.arr 24 y1)]) [(0,TN)] aF (λk v=>((k.1,(),k.2,v.1,()),v.2,())) VT A9 (λ_ r=>yx 0 TN (((),()),r,()))
def aBi(f:Y1)(_g:List Y1)(b:Int):Tr Y2:=.c _ (BY (length f:Int)) λe=>.c _ (aJj (b,e) (0,[])) λa=>.l a
def aCd c b a:=(aBi c b a).ev
def aSk:FP prog:=aH cx func273 [aDF] (yj [.agg Zh,.dat yi]) [] [] (bH aBi) ⟨[.ren 8 0],[.tmp 4],q8,[(0,.arr 24 y1)],[],[]⟩ kG bU [(0,aNn)]
def Yo(k:Y1×Y2×Y2)(v:Y1×Int):Tr ((Y1×Int)⊕Y1):=.t (v.2<(length k.2.2:Int)) (.g (aC v.2 (length k.2.2))<|.g ((toNat v.2)<length k.2.2)<|.c _ (Yk k.1 k.2.1 (getD k.2.2 (toNat v.2) [])) λa=>.c _ (Yk k.1 k.2.1 v.1) λb=>.t (a<b) (.g (aC v.2 (length k.2.2))<|.g ((toNat v.2)<length k.2.2)<|.l (.inl ((getD k.2.2 (toNat v.2) []),(wrap .i64 (v.2+1))))) (.l (.inl (v.1,(wrap .i64 (v.2+1)))))) (.l (.inr v.1))
def aIx k v:=aB (λv=>(Yo k v).ev) v
def aRN:LD:=yl (Yo) (yk [] [2,5,6,7] (yj [.box 2 0,.arr 640,.dat y1,.dat yi]) [yV,(640,.arr 24 y1)]) [(0,I8)] aF (λk v=>(((),(),v.1,v.2,()),(k.1,k.2.1,()),k.2.2,())) (λt=>(t.2.1.1,t.2.1.2.1,t.2.2.1)) uX (λ_ r=>yx 0 I8 ((r,()),()))
def aCQ(e:Y1)(b:List Y1)(h:Int):Tr Y1:=.c _ (aCd e b h) λa=>.g (aC 0 (length a))<|.g ((toNat 0)<length a)<|.c _ (aIx (e,b,a) ((getD a (toNat 0) []),1)) λf=>.l f
def aAb c b a:=(aCQ c b a).ev
def aSx:FP prog:=aH cx func206 [aSk,aKc] (yj [.agg Zh,.dat yi]) [] [] (bH aCQ) Mq bR bU [(0,aRN)]
def LG(e:Y1)(b:List Y1)(a:Int):Tr C5:=.c _ (aEr e b a) λg=>.t (!g) (.l (false,[])) (.c _ (aAb e b a) λf=>.c _ (pY f) λh=>.l (true,h))
def OW c b a:=(LG c b a).ev
def aSU:FP prog:=aH cx func128 [aSB,aSx,Da] (yj [.agg Zh,.dat yi]) [] [] (bH LG) ⟨[.ren 10 0,.ren 896 0],[.tmp 4,.tmp 5],Ho,[tK],[],[]⟩ gX
def Lk(k:Int×Int×C4)(v:Int):Tr (Int⊕(Unit⊕Unit)):=.t (v<(length k.2.2.2.1:Int)) (.g (aC k.1 (length k.2.2.2.2))<|.g (aC v (length (getD k.2.2.2.2 (toNat k.1) [])))<|.t ((getD (getD k.2.2.2.2 (toNat k.1) []) (toNat v) 0)<=k.2.2.1) (.g (aC k.2.1 (length k.2.2.2.2))<|.g (aC v (length (getD k.2.2.2.2 (toNat k.2.1) [])))<|.t ((getD (getD k.2.2.2.2 (toNat k.2.1) []) (toNat v) 0)<=k.2.2.1) (.l (.inr (.inr ()))) (.l (.inl (wrap .i64 (v+1))))) (.l (.inl (wrap .i64 (v+1))))) (.l (.inr (.inl ())))
def aLu k v:=aB (λv=>(Lk k v).ev) v
def aQE:LD:=yl (Lk) (yk [] [1,2,3,4,9] (yj [.dat yi,.dat yi,.dat yi,.box 4 0,.dat yi]) [(4,.cells Zh)]) [(0,aF)] J9 (λk v=>((k.1,k.2.1,k.2.2.1,(),v,()),(k.2.2.2.1,k.2.2.2.2,()),())) VE l4 (λ_ r=>.s _ _ r (λ_=>yx 0 aF ((),())) (λ_=>yz J9 ((false,()),())))
def YE(g:Y1)(e:List Y1)(b f a:Int):Tr Bool:=.c _ (aLu (b,f,a,g,e) 0) λh=>.s _ _ h (λ_=>.l true) (λ_=>.l false)
def aCh f c b e a:=(YE f c b e a).ev
def aRP:FP prog:=aH cx func314 [] (yj [.agg Zh,.dat yi,.dat yi,.dat yi]) [] [] (SH YE) FG bR bU [(0,aQE)]
def Ta(k:Y1×Int×C4)(v:Int):Tr (Int⊕(Unit⊕Unit)):=.t (v<k.2.2.1) (.g (aC k.2.2.1 (length k.1))<|.g (aC v (length k.1))<|.c _ (aCh k.2.2.2.1 k.2.2.2.2 (getD k.1 (toNat k.2.2.1) 0) (getD k.1 (toNat v) 0) k.2.1) λa=>.t (!a) (.l (.inr (.inr ()))) (.l (.inl (wrap .i64 (v+1))))) (.l (.inr (.inl ())))
def aKb k v:=aB (λv=>(Ta k v).ev) v
abbrev AX:Keep:=yk [] [1,2,3,7] (yj [.dat y1,.dat yi,.box 3 0,.dat yi]) [(3,.cells Zh)]
abbrev XB{a b c d e g:Type}(k:a×b×c×d×e)(v:g):=((k.1,k.2.1,(),k.2.2.1,v,()),(k.2.2.2.1,k.2.2.2.2,()),())
def aMz:LD:=yl (Ta) (yk [] [1,2,3,7,8] (yj [.dat y1,.dat yi,.box 3 0,.dat yi,.dat yi]) [(3,.cells Zh)]) [(2,AX)] rU XB BZ l4 (λk r=>.s _ _ r (λ_=>yx 2 AX ((k.1,k.2.1,(),k.2.2.1,()),(k.2.2.2.1,k.2.2.2.2,()),())) (λ_=>yz rU ((false,()),())))
def Qa(k:Y1×C4)(v:Int):Tr (Int⊕(Unit⊕Unit)):=.t (v<(length k.1:Int)) (.c _ (aKb (k.1,k.2.1,v,k.2.2.1,k.2.2.2) 0) λa=>.s _ _ a (λ_=>.l (.inl (wrap .i64 (v+1)))) (λ_=>.l (.inr (.inr ())))) (.l (.inr (.inl ())))
def aJI k v:=aB (λv=>(Qa k v).ev) v
def aTs:LD:=yl (Qa) AX [(0,aF)] rU (λk v=>((k.1,k.2.1,(),v,()),(k.2.2.1,k.2.2.2,()),())) DP rJ (λ_ r=>.s _ _ r (λ_=>yx 0 aF ((),())) (λ_=>yz rU ((false,()),())))
def aCS(g:Y1)(b:List Y1)(a:Y1)(e:Int):Tr Bool:=.c _ (aJI (a,e,g,b) 0) λf=>.s _ _ f (λ_=>.l true) (λ_=>.l false)
def PV e b a c:=(aCS e b a c).ev
def aOO:FP prog:=aH cx func275 [aRP] (yj [.agg Zh,.dat y1,.dat yi]) [] [] (uM aCS) Dd bR bU [(2,aMz),(0,aTs)]
def Wc(k:Y1×Y1)(v:Int):Tr (Int⊕(Unit⊕Bool)):=.t (v<(length k.1:Int)) (.g (aC v (length k.1))<|.g (aC v (length k.2))<|.t ((getD k.1 (toNat v) 0) != (getD k.2 (toNat v) 0)) (.g (aC v (length k.1))<|.g (aC v (length k.2))<|.l (.inr (.inr ((getD k.1 (toNat v) 0)<(getD k.2 (toNat v) 0))))) (.l (.inl (wrap .i64 (v+1))))) (.l (.inr (.inl ())))
def aKD k v:=aB (λv=>(Wc k v).ev) v
def aNC:LD:=yl (Wc) TX [(0,aF)] lM N0 rX Du (λ_ r=>.s _ _ r (λ_=>yx 0 aF ((),())) (λb=>yz lM ((b,()),())))
def YY(f e:Y1):Tr Bool:=.c _ (aKD (f,e) 0) λa=>.s _ _ a (λ_=>.l false) (λb=>.l b)
def aAM a b:=(YY a b).ev
def aTf:FP prog:=aH cx func274 [] (yj [.dat y1,.dat y1]) [] [] (dO YY) eC bR bU [(0,aNC)]
def Yz(k:Int×Y1×Y2)(v:Y1×Int):Tr ((Y1×Int)⊕Y1):=.g ((0:Int)<=(length k.2.2:Int))<|.t (v.2<(wrap .i64 ((1:Int)*2^(min (toNat (length k.2.2:Int)) (IntKind.bits .i64))))) (.c _ (Ff (length k.2.2:Int) v.2) λa=>.t ((length v.1:Int)<(length a:Int)) (.c _ (PV k.2.1 k.2.2 a k.1) λb=>.t b (.l (.inl (a,(wrap .i64 (v.2+1))))) (.l (.inl (v.1,(wrap .i64 (v.2+1)))))) (.t ((length a:Int)==(length v.1:Int)) (.c _ (aAM a v.1) λe=>.t e (.c _ (PV k.2.1 k.2.2 a k.1) λf=>.t f (.l (.inl (a,(wrap .i64 (v.2+1))))) (.l (.inl (v.1,(wrap .i64 (v.2+1)))))) (.l (.inl (v.1,(wrap .i64 (v.2+1)))))) (.l (.inl (v.1,(wrap .i64 (v.2+1))))))) (.l (.inr v.1))
def aJm k v:=aB (λv=>(Yz k v).ev) v
abbrev Nc:Keep:=yh [5] Bc
def aOd:LD:=yl (Yz) (yk [.fz 8,.fz 1344] [1,2,5,6] (yj [.dat yi,.box 2 0,.dat y1,.dat yi]) [yV]) [(0,Nc)] aF Ef C1 uX (λ_ r=>yx 0 Nc ((r,()),()))
def aAY(f:Y1)(e:List Y1)(b:Int):Tr Y1:=.c _ (aJm (b,f,e) ([],0)) λa=>.l a
def ZA c b a:=(aAY c b a).ev
def aRV:FP prog:=aH cx func207 [aDk,aOO,aTf] (yj [.agg Zh,.dat yi]) [] [] (bH aAY) Mq bR bU [(0,aOd)]
def XV(e:Y1)(b:List Y1)(a:Int):Tr (Y1×Bool):=.c _ (uO e b) λg=>.t (!g) (.l ([],false)) (.t (a<0) (.l ([],false)) (.c _ (ZA e b a) λf=>.l (f,true)))
def aES c b a:=(XV c b a).ev
def aQb:FP prog:=aH cx func129 [E4,aRV] (yj [.agg Zh,.dat yi]) [] [] (bH XV) ⟨[.fz 13],[.tmp 4,.tmp 5],(yj [.dat y1,.dat .bool]),[],[],[]⟩ dD
noncomputable abbrev Q4(p1:Y1)(p2:List Y1)(p3:Y1)(p4 p5 p6:Int):=(.c _ (i9 p1 p2 p3 p4 p5 p6 0 0 []) λa=>.l (a.1,a.2.1,a.2.2.1,a.2.2.2.1,a.2.2.2.2):Tr WZ)
def aBP(b:Y1)(a:List Y1)(e:Y1)(f:Int)(h:List UInt8)(g:Int):Tr WZ:=.t (h==([111,112,101,110]:List UInt8)) (Q4 b a e f 1 g) (.t (h==([99,108,111,115,101]:List UInt8)) (Q4 b a e f 2 g) (.t (h==([100,114,111,112,115,105,116,101]:List UInt8)) (Q4 b a e f 8 g) (.t (h==([100,114,111,112,99,108,105,101,110,116]:List UInt8)) (Q4 b a e f 9 g) (.t (h==([109,101,100,105,97,110]:List UInt8)) (.c _ (QD b a g) λm=>.c _ (a9 m.1 m.2) λo=>.l (b,a,e,f,o)) (.t (h==([99,101,110,116,114,101,115]:List UInt8)) (.c _ (OW b a g) λi=>.c _ (a9 i.2 i.1) λp=>.l (b,a,e,f,p)) (.t (h==([102,97,114]:List UInt8)) (.c _ (aES b a g) λj=>.c _ (a9 j.1 j.2) λn=>.l (b,a,e,f,n)) (.l (b,a,e,f,([63]:List UInt8)))))))))
def Co g e c f b a:=(aBP g e c f b a).ev
abbrev HX{a b c d e g h i j:Type}{z:Type _}(f:a->b->c->d->g->h->z)(x:((a×b×c×d×e)×g×h×i)×j):z:=f x.1.1.1 x.1.1.2.1 x.1.1.2.2.1 x.1.1.2.2.2.1 x.1.2.1 x.1.2.2.1
abbrev UG:RetK:=yr [.cell 6 29,.tmp 7] (yj [.agg Zl,.dat .str])
def aOw:FP prog:=aH cx func78 [NP,aRs,aLo,aSU,aQb] (yj [.agg Zl,.dat .str,.dat yi]) [] [] (HX aBP) UG Ag
def Xf(h:Y1)(e:List Y1)(b:Y1)(f:Int)(i:List UInt8)(a:Y1):Tr WZ:=.t ((length a:Int)==(3:Int)) (.t (i==([108,101,110,103,116,104]:List UInt8)) (.g (aC 0 (length a))<|.g (aC 1 (length a))<|.g (aC 2 (length a))<|.c _ (i9 h e b f 5 (getD a (toNat 0) 0) (getD a (toNat 1) 0) (getD a (toNat 2) 0) []) λp=>.l (p.1,p.2.1,p.2.2.1,p.2.2.2.1,p.2.2.2.2)) (.t ((length a:Int)==(2:Int)) (.t (i==([115,119,97,112]:List UInt8)) (.g (aC 0 (length a))<|.g (aC 1 (length a))<|.c _ (i9 h e b f 3 (getD a (toNat 0) 0) (getD a (toNat 1) 0) 0 []) λo=>.l (o.1,o.2.1,o.2.2.1,o.2.2.2.1,o.2.2.2.2)) (.t ((length a:Int)==(2:Int)) (.t (i==([99,111,115,116]:List UInt8)) (.g (aC 0 (length a))<|.g (aC 1 (length a))<|.c _ (i9 h e b f 4 (getD a (toNat 0) 0) (getD a (toNat 1) 0) 0 []) λr=>.l (r.1,r.2.1,r.2.2.1,r.2.2.2.1,r.2.2.2.2)) (.l (h,e,b,f,([63]:List UInt8)))) (.l (h,e,b,f,([63]:List UInt8))))) (.t ((length a:Int)==(2:Int)) (.t (i==([99,111,115,116]:List UInt8)) (.g (aC 0 (length a))<|.g (aC 1 (length a))<|.c _ (i9 h e b f 4 (getD a (toNat 0) 0) (getD a (toNat 1) 0) 0 []) λq=>.l (q.1,q.2.1,q.2.2.1,q.2.2.2.1,q.2.2.2.2)) (.l (h,e,b,f,([63]:List UInt8)))) (.l (h,e,b,f,([63]:List UInt8)))))) (.t ((length a:Int)==(2:Int)) (.t (i==([115,119,97,112]:List UInt8)) (.g (aC 0 (length a))<|.g (aC 1 (length a))<|.c _ (i9 h e b f 3 (getD a (toNat 0) 0) (getD a (toNat 1) 0) 0 []) λm=>.l (m.1,m.2.1,m.2.2.1,m.2.2.2.1,m.2.2.2.2)) (.t ((length a:Int)==(2:Int)) (.t (i==([99,111,115,116]:List UInt8)) (.g (aC 0 (length a))<|.g (aC 1 (length a))<|.c _ (i9 h e b f 4 (getD a (toNat 0) 0) (getD a (toNat 1) 0) 0 []) λn=>.l (n.1,n.2.1,n.2.2.1,n.2.2.2.1,n.2.2.2.2)) (.l (h,e,b,f,([63]:List UInt8)))) (.l (h,e,b,f,([63]:List UInt8))))) (.t ((length a:Int)==(2:Int)) (.t (i==([99,111,115,116]:List UInt8)) (.g (aC 0 (length a))<|.g (aC 1 (length a))<|.c _ (i9 h e b f 4 (getD a (toNat 0) 0) (getD a (toNat 1) 0) 0 []) λj=>.l (j.1,j.2.1,j.2.2.1,j.2.2.2.1,j.2.2.2.2)) (.l (h,e,b,f,([63]:List UInt8)))) (.l (h,e,b,f,([63]:List UInt8)))))
def yH g e c f b a:=(Xf g e c f b a).ev
def aLV:FP prog:=aH cx func79 [NP] (yj [.agg Zl,.dat .str,.dat y1]) [] [] (HX Xf) UG Ag
def JE(i:Y1)(f:List Y1)(e:Y1)(h:Int)(q:List UInt8):Tr WZ:=.c _ (l9 q 32) λa=>.t ((length a:Int)==(1:Int)) (.c _ (Hu i f e h q) λo=>.l (o.1,o.2.1,o.2.2.1,o.2.2.2.1,o.2.2.2.2)) (.c _ (QH a) λb=>.t (!b.1) (.l (i,f,e,h,([63]:List UInt8))) (.g (aC 0 (length a))<|.g ((toNat 0)<length a)<|.t ((getD a (toNat 0) [])==([115,105,116,101]:List UInt8)) (.g (aC 0 (length b.2))<|.g (((0:Int)<=(1:Int))&&((1:Int)<=(length b.2:Int)))<|.c _ (i9 i f e h 6 (getD b.2 (toNat 0) 0) 0 0 (List.drop (toNat 1) (List.take (length b.2) b.2))) λp=>.l (p.1,p.2.1,p.2.2.1,p.2.2.2.1,p.2.2.2.2)) (.t ((getD a (toNat 0) [])==([99,108,105,101,110,116]:List UInt8)) (.c _ (i9 i f e h 7 0 0 0 b.2) λm=>.l (m.1,m.2.1,m.2.2.1,m.2.2.2.1,m.2.2.2.2)) (.t ((length b.2:Int)==(1:Int)) (.g (aC 0 (length a))<|.g ((toNat 0)<length a)<|.g (aC 0 (length b.2))<|.g ((toNat 0)<length b.2)<|.c _ (Co i f e h (getD a (toNat 0) []) (getD b.2 (toNat 0) 0)) λn=>.l (n.1,n.2.1,n.2.2.1,n.2.2.2.1,n.2.2.2.2)) (.g (aC 0 (length a))<|.g ((toNat 0)<length a)<|.c _ (yH i f e h (getD a (toNat 0) []) b.2) λj=>.l (j.1,j.2.1,j.2.2.1,j.2.2.2.1,j.2.2.2.2))))))
def Er f c b e a:=(JE f c b e a).ev
def aPp:FP prog:=aH cx func38 [aCW,aNM,aQy,NP,aOw,aLV] (yj [.agg Zl,.dat .str]) [] [] (J6 JE) SX Ag (s8 [(9,[(0,[7])]),(11,[(3,[46])]),(14,[(0,[7])])])
def NW(e b:List UInt8)(a:Int)(h f:List UInt8):Tr ((List UInt8)×(List UInt8)×jA):=.c _ (Ci e b a) λm=>.t (!m) (.l (e,b,a,1)) (.c _ (EE h f) λj=>.t (!j) (.l (e,b,a,1)) (.t (a==60) (.l (e,b,a,2)) (.c _ (OY a h f) λi=>.g (length b+length i<=9223372036854775807)<|.l (e,(b++i),(wrap .i64 (a+1)),0))))
def yO f c b e a:=(NW f c b e a).ev
abbrev VC{a b c d e g h i j:Type}{z:Type _}(f:a->b->c->e->g->z)(x:((a×b×c×d)×(e×g×h)×i)×j):z:=f x.1.1.1 x.1.1.2.1 x.1.1.2.2.1 x.1.2.1.1 x.1.2.1.2.1
abbrev UN:RetK:=yr [.cell 4 32,.tmp 5] (yj [.agg Q8,.dat yi])
abbrev Zt{a b c d:Type}(r:a×b×c×d):=(((r.1,r.2.1,r.2.2.1,()),r.2.2.2,()),())
def OG:FP prog:=aH cx func39 [OV,aEu,aIe] (yj [.agg Q8,.agg Nu]) [] [] (VC NW) UN Zt
def Rs(r:Y1)(p:List Y1)(o:Y1)(q:Int)(g f:List UInt8)(e:Int)(h:List UInt8):Tr (Int×(List UInt8)×(List UInt8)×Int×(List UInt8)×Oi):=.c _ (Z3 r p o q) λa=>.c _ (aAz r p o q g f e) λs=>.t (!s) (.l (a.1,g,f,e,([110,111]:List UInt8),a.2.1,a.2.2.1,a.2.2.2)) (.c _ (EE h []) λu=>.t (!u) (.l (a.1,g,f,e,([98,97,100]:List UInt8),a.2.1,a.2.2.1,a.2.2.2)) (.t (e==60) (.l (a.1,g,f,e,([102,117,108,108]:List UInt8),a.2.1,a.2.2.1,a.2.2.2)) (.c _ (Er r p o q h) λb=>.t ((200:Int)<(length b.2.2.2.2:Int)) (.c _ (yO g f e h ([108,111,110,103]:List UInt8)) λn=>.c _ (Z3 b.1 b.2.1 b.2.2.1 b.2.2.2.1) λi=>.l (i.1,n.1,n.2.1,n.2.2.1,([108,111,110,103]:List UInt8),i.2.1,i.2.2.1,i.2.2.2)) (.c _ (yO g f e h b.2.2.2.2) λm=>.c _ (Z3 b.1 b.2.1 b.2.2.1 b.2.2.2.1) λj=>.l (j.1,m.1,m.2.1,m.2.2.1,b.2.2.2.2,j.2.1,j.2.2.1,j.2.2.2)))))
def Q9 i g f h e a c b:=(Rs i g f h e a c b).ev
abbrev RD{a b c d e g h i j l m:Type}{z:Type _}(f:a->b->c->d->e->g->h->j->z)(x:((a×b×c×d×e×g×h×i)×j×l)×m):z:=f x.1.1.1 x.1.1.2.1 x.1.1.2.2.1 x.1.1.2.2.2.1 x.1.1.2.2.2.2.1 x.1.1.2.2.2.2.2.1 x.1.1.2.2.2.2.2.2.1 x.1.2.1
def aCj:FP prog:=aH cx func13 [JY,aMy,aEu,aPp,OG] (yj [.agg Zm,.dat .str]) [] [] (RD Rs) ⟨[.pinB 4 0 3,.pinB 4 1 5,.pinB 4 2 8],[.cell 4 34,.tmp 5],(yj [.agg (yj [.arr 3,.arr 5,.arr 8,.dat yi,.dat .str,.dat .str,.dat yi]),.dat .str]),[(3,.arr 3 yi),(5,.rows 24 3 yi),(8,.arr 3 yi)],[],[]⟩ AO
def aEU(m:Y1)(j i:Int):Tr ((List UInt8)×(List UInt8)×yA):=.c _ (Cj ([([102,105,101,108,100]:List UInt8),([111,112,101,110,32,48]:List UInt8),([120]:List UInt8),([99,111,115,116,32,49,32,50]:List UInt8),([48,32,49]:List UInt8)]:List (List UInt8)) m j i) λe=>.c _ (Cj ([[],([51]:List UInt8),([63]:List UInt8),([97,64,98]:List UInt8),([51,32,49,32,50]:List UInt8)]:List (List UInt8)) e.2.1 e.2.2.1 e.2.2.2) λb=>.c _ (mW 24 b.2.1 b.2.2.1 b.2.2.2) λa=>.t (a.1==0) (.g (((0:Int)<=(3:Int))&&((3:Int)<=(3:Int))&&(((1:Nat):Int)*(3:Int)<=281474976710656))<|.c _ (Cj ([[],([97,64,98]:List UInt8),([97,35]:List UInt8),([10]:List UInt8),(lR (List.replicate (toNat 3) 0))]:List (List UInt8)) a.2.1 a.2.2.1 a.2.2.2) λh=>.l (h.1,b.1,h.2.1,h.2.2.1,h.2.2.2)) (.t (a.1==1) (.c _ (Cj ([([35]:List UInt8),([10]:List UInt8),([127]:List UInt8)]:List (List UInt8)) a.2.1 a.2.2.1 a.2.2.2) λf=>.l (e.1,f.1,f.2.1,f.2.2.1,f.2.2.2)) (.l (e.1,b.1,a.2.1,a.2.2.1,a.2.2.2)))
def NF c b a:=(aEU c b a).ev
def aLJ:FP prog:=aH cx func51 [aLk,oH] (yj [.box 64 0]) [Zj] [.arg 0] (yq4 aEU) ⟨[],[.cell 2 48],(yj [.agg Nu]),[Zj],[(0,0,64)],[]⟩ (λr=>(((r.1,r.2.1,()),()),(r.2.2.1,r.2.2.2.1,r.2.2.2.2,()),())) (s8 [(1,[(2,[5]),(5,[8])]),(4,[(4,[18])]),(6,[(2,[24])])])
def aFT(b a:List UInt8)(e:Int):Tr ((List UInt8)×(List UInt8)×Hn):=.c _ (Ci b a e) λf=>.t (!f) (.l ([],[],0,false)) (.g (length b+length a<=9223372036854775807)<|.l ((b++a),[],e,true))
def ZL c b a:=(aFT c b a).ev
def aNV:FP prog:=aH cx func145 [OV] (yj [.agg Q8]) [] [] (Ng aFT) (yr [.cell 2 32,.tmp 3] (yj [.agg Q8,.dat .bool])) Zt
def T6(_k:(List UInt8)×(List UInt8)×Int)(v:Int×Y1×Int×Yu):Tr ((Int×Y1×Int×Yu)⊕(Y1×Int×Yu)):=.t (0<v.1) (.c _ (NF v.2.1 v.2.2.1 v.2.2.2.1) λe=>.c _ (yO v.2.2.2.2.1 v.2.2.2.2.2.1 v.2.2.2.2.2.2 e.1 e.2.1) λb=>.c _ (F2 4 e.2.2.1 e.2.2.2.1 e.2.2.2.2) λa=>.t a.1 (.c _ (ZL b.1 b.2.1 b.2.2.1) λf=>.l (.inl ((wrap .i64 (v.1-1)),a.2.1,a.2.2.1,a.2.2.2,f.1,f.2.1,f.2.2.1))) (.l (.inl ((wrap .i64 (v.1-1)),a.2.1,a.2.2.1,a.2.2.2,b.1,b.2.1,b.2.2.1)))) (.l (.inr (v.2.1,v.2.2.1,v.2.2.2.1,v.2.2.2.2.1,v.2.2.2.2.2.1,v.2.2.2.2.2.2)))
def aJY k v:=aB (λv=>(T6 k v).ev) v
abbrev RW:Keep:=yk [] [0,2,3] (yj [.box 64 0,.box 2 0,.box 3 0]) [Zj,(2,.cells Q8),(3,.cells Q8)]
def aTq:LD:=yl (T6) (yk [] [0,2,3,4] (yj [.box 64 0,.box 2 0,.box 3 0,.dat yi]) [Zj,(2,.cells Q8),(3,.cells Q8)]) [(0,RW)] aF (λk v=>(((),(),(),v.1,()),(v.2.1,v.2.2.1,v.2.2.2.1,()),(k.1,k.2.1,k.2.2,()),(v.2.2.2.2.1,v.2.2.2.2.2.1,v.2.2.2.2.2.2,()),())) (λt=>(t.2.2.1.1,t.2.2.1.2.1,t.2.2.1.2.2.1)) (λt=>(t.1.2.2.2.1,t.2.1.1,t.2.1.2.1,t.2.1.2.2.1,t.2.2.2.1.1,t.2.2.2.1.2.1,t.2.2.2.1.2.2.1)) (λk r=>yx 0 RW (((),(),(),()),(r.1,r.2.1,r.2.2.1,()),(k.1,k.2.1,k.2.2,()),(r.2.2.2.1,r.2.2.2.2.1,r.2.2.2.2.2,()),()))
def aCA(g:Y1)(f e:Int):Tr ((List UInt8)×(List UInt8)×Int×yA):=.c _ (mW 7 g f e) λb=>.c _ (aJY ([],[],0) (b.1,b.2.1,b.2.2.1,b.2.2.2,[],[],0)) λa=>.l (a.2.2.2.1,a.2.2.2.2.1,a.2.2.2.2.2,a.1,a.2.1,a.2.2.1)
def ZH c b a:=(aCA c b a).ev
abbrev VX:RetK:=⟨[],[.cell 2 32],(yj [.agg Q8]),[Zj],[(0,0,64)],[]⟩
abbrev RB{a b c d e g:Type}(r:a×b×c×d×e×g):=(((r.1,r.2.1,r.2.2.1,()),()),(r.2.2.2.1,r.2.2.2.2.1,r.2.2.2.2.2,()),())
def aOM:FP prog:=aH cx func91 [oH,aLJ,OG,BT,aNV] (yj [.box 64 0]) [Zj] [.arg 0] (yq4 aCA) VX RB bU [(0,aTq)]
def aAX(i:Y1)(h f:Int):Tr ((List UInt8)×(List UInt8)×Int×yA):=.c _ (ZH i h f) λa=>.c _ (mW 24 a.2.2.2.1 a.2.2.2.2.1 a.2.2.2.2.2) λb=>.t (b.1==0) (.l (a.1,a.2.1,(wrap .i64 (a.2.2.1+1)),b.2.1,b.2.2.1,b.2.2.2)) (.t (b.1==1) (.c _ (CB a.2.1 ([35,64,10,48,49]:List UInt8) b.2.1 b.2.2.1 b.2.2.2) λe=>.l (a.1,e.1,a.2.2.1,e.2.1,e.2.2.1,e.2.2.2)) (.t (b.1==2) (.g (length a.1+length a.2.1<=9223372036854775807)<|.l ((a.1++a.2.1),a.2.1,a.2.2.1,b.2.1,b.2.2.1,b.2.2.2)) (.l (a.1,a.2.1,a.2.2.1,b.2.1,b.2.2.1,b.2.2.2))))
def PY c b a:=(aAX c b a).ev
def aNE:FP prog:=aH cx func52 [aOM,oH,aJh] (yj [.box 64 0]) [Zj] [.arg 0] (yq4 aAX) VX RB
def aID(k:Bool×Int×(List UInt8)×(List UInt8)×Int×Y1×Y2×gD)(v:Int×Y1×Int×Int×Ot):Tr ((Int×Y1×Int×Int×Ot)⊕(Y1×Int×Int×Ot)):=.t (0<v.1) (.t k.1 (.c _ (Jh v.2.1 v.2.2.1 v.2.2.2.1) λb=>.c _ (Q9 v.2.2.2.2.1 v.2.2.2.2.2.1 v.2.2.2.2.2.2.1 v.2.2.2.2.2.2.2.1 v.2.2.2.2.2.2.2.2.1 v.2.2.2.2.2.2.2.2.2.1 v.2.2.2.2.2.2.2.2.2.2 b.1) λa=>.l (.inl ((wrap .i64 (v.1-1)),b.2.1,b.2.2.1,b.2.2.2,a.2.2.2.2.2.1,a.2.2.2.2.2.2.1,a.2.2.2.2.2.2.2,a.1,a.2.1,a.2.2.1,a.2.2.2.1))) (.l (.inr (v.2.1,v.2.2.1,v.2.2.2.1,v.2.2.2.2.1,v.2.2.2.2.2.1,v.2.2.2.2.2.2.1,v.2.2.2.2.2.2.2.1,v.2.2.2.2.2.2.2.2.1,v.2.2.2.2.2.2.2.2.2.1,v.2.2.2.2.2.2.2.2.2.2)))) (.l (.inr (v.2.1,v.2.2.1,v.2.2.2.1,v.2.2.2.2.1,v.2.2.2.2.2.1,v.2.2.2.2.2.2.1,v.2.2.2.2.2.2.2.1,v.2.2.2.2.2.2.2.2.1,v.2.2.2.2.2.2.2.2.2.1,v.2.2.2.2.2.2.2.2.2.2)))
def aKP k v:=aB (λv=>(aID k v).ev) v
abbrev UQ:Keep:=yk [] [2,3,4,5,6] (yj [.box 2 0,.box 3 0,.box 15 0,.box 5 0,.box 6 0]) [(2,.cells Na),(3,.cells Q8),(15,.cells (yj [.dat (.slice (.int .u8)),.dat yi,.dat (.int .u64)])),(5,.cells (yj [.dat y1,.dat y2,.arr 1089,.dat yi])),(6,.cells Zm),(1089,.arr 3 yi)]
def aRk:LD:=yl (aID) (yk [.fz 1283,.fz 1284,.fz 1285,.fz 2307,.fz 2309,.fz 2312] [2,3,4,5,6,7,8] (yj [.box 2 0,.box 3 0,.box 15 0,.box 5 0,.box 6 0,.dat .bool,.dat yi]) [(2,.cells Na),(3,.cells Q8),(15,.cells (yj [.dat (.slice (.int .u8)),.dat yi,.dat (.int .u64)])),(5,.cells (yj [.dat y1,.dat y2,.arr 1089,.dat yi])),(6,.cells Zm),(1089,.arr 3 yi)]) [(0,UQ)] aF (λk v=>(((),(),(),(),(),k.1,v.1,()),((),(),(),k.2.1,()),(k.2.2.1,k.2.2.2.1,k.2.2.2.2.1,()),(v.2.1,v.2.2.1,v.2.2.2.1,()),(k.2.2.2.2.2.1,k.2.2.2.2.2.2.1,(),k.2.2.2.2.2.2.2.1,()),(v.2.2.2.2.1,v.2.2.2.2.2.1,v.2.2.2.2.2.2.1,v.2.2.2.2.2.2.2.1,v.2.2.2.2.2.2.2.2.1,v.2.2.2.2.2.2.2.2.2.1,v.2.2.2.2.2.2.2.2.2.2,()),k.2.2.2.2.2.2.2.2,())) (λt=>(t.1.2.2.2.2.2.1,t.2.1.2.2.2.1,t.2.2.1.1,t.2.2.1.2.1,t.2.2.1.2.2.1,t.2.2.2.2.1.1,t.2.2.2.2.1.2.1,t.2.2.2.2.1.2.2.2.1,t.2.2.2.2.2.2.1)) (λt=>(t.1.2.2.2.2.2.2.1,t.2.2.2.1.1,t.2.2.2.1.2.1,t.2.2.2.1.2.2.1,t.2.2.2.2.2.1.1,t.2.2.2.2.2.1.2.1,t.2.2.2.2.2.1.2.2.1,t.2.2.2.2.2.1.2.2.2.1,t.2.2.2.2.2.1.2.2.2.2.1,t.2.2.2.2.2.1.2.2.2.2.2.1,t.2.2.2.2.2.1.2.2.2.2.2.2.1)) (λk r=>yx 0 UQ (((),(),(),(),(),()),((),(),(),k.2.1,()),(k.2.2.1,k.2.2.2.1,k.2.2.2.2.1,()),(r.1,r.2.1,r.2.2.1,()),(k.2.2.2.2.2.1,k.2.2.2.2.2.2.1,(),k.2.2.2.2.2.2.2.1,()),(r.2.2.2.1,r.2.2.2.2.1,r.2.2.2.2.2.1,r.2.2.2.2.2.2.1,r.2.2.2.2.2.2.2.1,r.2.2.2.2.2.2.2.2.1,r.2.2.2.2.2.2.2.2.2,()),k.2.2.2.2.2.2.2.2,()))
def OJ(p:Y1):Tr (Y1×Y2×Int×(List UInt8)×(List UInt8)×gD):=.c _ (aJo p 0 0) λa=>.c _ (Hd a.1 a.2.1 a.2.2.2.1 a.2.2.1) λe=>.c _ (mW 7 a.2.2.2.2.1 a.2.2.2.2.2.1 a.2.2.2.2.2.2) λj=>.c _ (aKP (e.2.2.2.2.1,0,[],[],0,a.1,a.2.1,a.2.2.1,a.2.2.2.1) (j.1,j.2.1,j.2.2.1,j.2.2.2,e.2.2.2.2.2.1,e.2.2.2.2.2.2.1,e.2.2.2.2.2.2.2,e.1,e.2.1,e.2.2.1,e.2.2.2.1)) λb=>.c _ (F2 4 b.1 b.2.1 b.2.2.1) λf=>.t f.1 (.c _ (NF f.2.1 f.2.2.1 f.2.2.2) λg=>.c _ (yO b.2.2.2.2.2.2.2.1 b.2.2.2.2.2.2.2.2.1 b.2.2.2.2.2.2.2.2.2 g.1 g.2.1) λn=>.c _ (F2 8 g.2.2.1 g.2.2.2.1 g.2.2.2.2) λh=>.t h.1 (.c _ (PY h.2.1 h.2.2.1 h.2.2.2) λo=>.l (a.1,a.2.1,a.2.2.1,o.1,o.2.1,o.2.2.1,a.2.2.2.1)) (.l (a.1,a.2.1,a.2.2.1,n.1,n.2.1,n.2.2.1,a.2.2.2.1))) (.c _ (F2 8 f.2.1 f.2.2.1 f.2.2.2) λi=>.t i.1 (.c _ (PY i.2.1 i.2.2.1 i.2.2.2) λm=>.l (a.1,a.2.1,a.2.2.1,m.1,m.2.1,m.2.2.1,a.2.2.2.1)) (.l (a.1,a.2.1,a.2.2.1,b.2.2.2.2.2.2.2.1,b.2.2.2.2.2.2.2.2.1,b.2.2.2.2.2.2.2.2.2,a.2.2.2.1)))
def aIl a:=(OJ a).ev
def aRL:FP prog:=aH cx func24 [aJR,XQ,oH,aBU,aCj,BT,aLJ,OG,aNE] (yj [.dat (.slice (.int .u8))]) [] [] (qH OJ) ⟨[.ren 1089 4],[.cell 2 29,.cell 3 32],(yj [.agg (yj [.dat y1,.dat y2,.arr 4,.dat yi]),.agg Q8]),[(4,.arr 3 yi)],[],[]⟩ (λr=>(((r.1,r.2.1,(),r.2.2.1,()),(r.2.2.2.1,r.2.2.2.2.1,r.2.2.2.2.2.1,()),()),r.2.2.2.2.2.2,())) bU [(0,aRk)]
def aFv(a c b:Int):Tr Bool:=.t (c<=a) (.l (a<=b)) (.l false)
def m9 c b a:=(aFv c b a).ev
def Cd:FP prog:=aH cx func56 [] (yj [.dat yi,.dat yi,.dat yi]) [] [] (Te aFv) Dd bR
def CW(k:Y1×((HL [yi]->Option Bool))×Int)(v:Int):Tr (Int⊕(Unit⊕Int)):=.t (v<k.2.2) (.g (aC v (length k.1))<|.c _ (k.2.1 ((getD k.1 (toNat v) 0),())) λa=>.t a (.l (.inr (.inr v))) (.l (.inl (wrap .i64 (v+1))))) (.l (.inr (.inl ())))
def aKm k v:=aB (λv=>(CW k v).ev) v
abbrev rQ:Keep:=yh [4] Zy
def aOv:LD:=yl (CW) (yh [0,1,7,8] (yj [.dat y1,.clo [yi] .bool,.dat yi,.dat yi])) [(0,aF)] rQ xI wZ rJ (λ_ r=>.s _ _ r (λ_=>yx 0 aF ((),())) (λb=>yz rQ ((b,()),())))
def aFP(a:Y1)(e:(HL [yi]->Option Bool)):Tr Int:=.c _ (aKm (a,e,(length a:Int)) 0) λb=>.s _ _ b (λ_=>.l (-1)) (λf=>.l f)
def XU a b:=(aFP a b).ev
def aPg:FP prog:=aH cx func223 [] (yj [.dat y1,.clo [yi] .bool]) [] [] (dO aFP) kA bR bU [(0,aOv)]
def aBf(a:Y1)(e:(HL [yi]->Option Bool)):Tr Bool:=.c _ (XU a e) λb=>.l (0<=b)
def QM a b:=(aBf a b).ev
def PA:FP prog:=aH cx func146 [aPg] (yj [.dat y1,.clo [yi] .bool]) [] [] (dO aBf) eC bR
def aAp(f e a:Int):Tr Bool:=.c _ (m9 f e a) λb=>.l (!b)
def aHN c b a:=(aAp c b a).ev
def aQA:FP prog:=aH cx func147 [Cd] (yj [.dat yi,.ptr Zy,.ptr Zy]) [] [] ((λf x=>f x.1.1 x.1.2.1.1 x.1.2.2.1.1) aAp) eC bR
def aEX(g:Y1)(e b:Int):Tr Bool:=.c _ (QM g (λa=>Option.bind (aHN a.1 e b) λf=>some f)) λh=>.l (!h)
def NY c b a:=(aEX c b a).ev
def aKS:FP prog:=aH cx func93 [PA,PA,aQA] (yj [.dat y1,.dat yi,.dat yi]) [] [] (Te aEX) Dd bR
def Xb(k:Y2×((HL [y1]->Option Bool))×Int)(v:Int):Tr (Int⊕(Unit⊕Int)):=.t (v<k.2.2) (.g (aC v (length k.1))<|.c _ (k.2.1 ((getD k.1 (toNat v) []),())) λa=>.t a (.l (.inr (.inr v))) (.l (.inl (wrap .i64 (v+1))))) (.l (.inr (.inl ())))
def aLe k v:=aB (λv=>(Xb k v).ev) v
def aNb:LD:=yl (Xb) (yh [0,1,7,8] (yj [.dat y2,.clo [y1] .bool,.dat yi,.dat yi])) [(0,aF)] rQ xI wZ rJ (λ_ r=>.s _ _ r (λ_=>yx 0 aF ((),())) (λb=>yz rQ ((b,()),())))
def aFQ(a:List Y1)(e:(HL [y1]->Option Bool)):Tr Int:=.c _ (aLe (a,e,(length a:Int)) 0) λb=>.s _ _ b (λ_=>.l (-1)) (λf=>.l f)
def PW a b:=(aFQ a b).ev
def aGE:FP prog:=aH cx func148 [] (yj [.dat y2,.clo [y1] .bool]) [] [] (dO aFQ) kA bR bU [(0,aNb)]
def aBA(a:List Y1)(e:(HL [y1]->Option Bool)):Tr Bool:=.c _ (PW a e) λb=>.l (0<=b)
def aEP a b:=(aBA a b).ev
def aKt:FP prog:=aH cx func94 [aGE] (yj [.dat y2,.clo [y1] .bool]) [] [] (dO aBA) eC bR
def aAx(a e:Y1)(_f:List Y1):Tr Bool:=.t ((length a:Int) != (length e:Int)) (.l true) (.c _ (NY a 0 99) λb=>.l (!b))
def aAI c b a:=(aAx c b a).ev
abbrev Ov:RetK:=yr [.tmp 3] Rv
def aOF:FP prog:=aH cx func95 [aKS] (yj [.dat y1,.ptr Zh]) [] [] (GV aAx) Ov bR
def aDt(b:Y1)(a:List Y1):Tr Bool:=.c _ (m9 (length b:Int) 1 7) λh=>.t h (.c _ (NY b 0 99) λf=>.t f (.t ((length a:Int)<=(7:Int)) (.c _ (aEP a (λg=>Option.bind (aAI g.1 b a) λi=>some i)) λe=>.l (!e)) (.l false)) (.l false)) (.l false)
def tQ a b:=(aDt a b).ev
def E6:FP prog:=aH cx func54 [Cd,aKS,aKt,aKt,aOF] (yj [.agg Zh]) [] [] (jO aDt) Dj bR
def Vd(k:Y1×Int×Y1×Int)(v:Int):Tr (Int⊕(Unit⊕Unit)):=.t (v<k.2.2.2) (.g (aC v (length k.2.2.1))<|.c _ (m9 (getD k.2.2.1 (toNat v) 0) 0 (wrap .i64 (k.2.1-1))) λa=>.t (!a) (.l (.inr (.inr ()))) (.t (0<v) (.g (aC (wrap .i64 (v-1)) (length k.1))<|.t ((getD k.2.2.1 (toNat v) 0)<=(getD k.1 (toNat (wrap .i64 (v-1))) 0)) (.l (.inr (.inr ()))) (.l (.inl (wrap .i64 (v+1))))) (.l (.inl (wrap .i64 (v+1)))))) (.l (.inr (.inl ())))
def aLy k v:=aB (λv=>(Vd k v).ev) v
abbrev WC{a b c d e:Type}(k:a×b×c×d)(v:e):=((k.1,k.2.1,k.2.2.1,k.2.2.2,v,()),())
abbrev QX{a b c d e g:Type}(t:(a×b×c×d×e)×g):=(t.1.1,t.1.2.1,t.1.2.2.1,t.1.2.2.2.1)
def aSd:LD:=yl (Vd) (yh [0,1,7,8,9] (yj [.dat y1,.dat yi,.dat y1,.dat yi,.dat yi])) [(0,aF)] lM WC QX l4 (λ_ r=>.s _ _ r (λ_=>yx 0 aF ((),())) (λ_=>yz lM ((false,()),())))
def YP(a:Y1)(b:Int):Tr Bool:=.c _ (aLy (a,b,a,(length a:Int)) 0) λe=>.s _ _ e (λ_=>.l true) (λ_=>.l false)
def OM a b:=(YP a b).ev
def aIH:FP prog:=aH cx func55 [Cd] (yj [.dat y1,.dat yi]) [] [] (dO YP) eC bR bU [(0,aSd)]
def aAl(a:Y1)(f:List Y1)(e:Y1)(g:Int):Tr Bool:=.c _ (tQ a f) λh=>.t h (.c _ (OM e (length a:Int)) λb=>.t b (.c _ (m9 g 0 1000) λi=>.l i) (.l false)) (.l false)
def vH e b a c:=(aAl e b a c).ev
def QI:FP prog:=aH cx func28 [E6,aIH,Cd] (yj [.agg Zl]) [] [] (rW aAl) Dj bR
def A6(a:Y1):Option (List Int):=sC a
def aQH:FD:=fdClone
theorem aNX:dZ prog (57,aQH):=Gp
def NV:FP prog:=⟨_,aNX⟩
def Cv(k:Y2×Int)(v:Int×Y2):Tr (D0⊕Y2):=.t (v.1<k.2) (.g (aC v.1 (length k.1))<|.c _ (A6 (getD k.1 (toNat v.1) [])) λa=>.g ((length v.2+1)*24<=140737488355328)<|.l (.inl ((wrap .i64 (v.1+1)),(set (v.2++ [[]]) (length v.2) a)))) (.l (.inr v.2))
def aEW k v:=aB (λv=>(Cv k v).ev) v
abbrev RG:Keep:=yk [] [3] (yj [.arr 6]) [(6,.rows 24 3 yi)]
abbrev Oy{a b c d:Type}(k:a×b)(v:c×d):=(((),k.1,k.2,v.1,()),v.2,())
def aRB:LD:=yl (Cv) (yk [] [3,7,8,9] (yj [.arr 6,.dat y2,.dat yi,.dat yi]) [(6,.rows 24 3 yi)]) [(0,RG)] aF Oy iM A9 (λ_ r=>yx 0 RG (((),()),r,()))
def MK(a:List Y1):Tr Y2:=.c _ (aEW (a,(length a:Int)) (0,[])) λb=>.l b
def EP a:=(MK a).ev
def aQn:FP prog:=aH cx func58 [NV] (yj [.dat y2]) [] [] (qH MK) ⟨[.ren 6 0],[.tmp 2],q8,[(0,.rows 24 3 yi)],[],[]⟩ kG (s8 [(1,[(0,[1000000])])]) [(0,aRB)]
def KB(h:Y1)(e:List Y1)(b:Y1)(f:Int):Tr (Int×Oi):=.c _ (A6 h) λg=>.c _ (EP e) λa=>.c _ (A6 b) λi=>.l (f,g,a,i)
def Ky e b a c:=(KB e b a c).ev
def aBK:FP prog:=aH cx func29 [NV,aQn] (yj [.agg Zl]) [] [] (rW KB) ⟨[.ren 384 3,.ren 640 4,.ren 896 5],[.cell 2 29],(yj [.agg (yj [.arr 3,.arr 4,.arr 5,.dat yi])]),[(3,.arr 3 yi),(4,.rows 24 3 yi),(5,.arr 3 yi)],[],[]⟩ Mz
def aEN(g:Y1)(e:List Y1)(b:Y1)(f:Int):Tr (Int×(List UInt8)×(List UInt8)×Int×Bool×Oi):=.c _ (vH g e b f) λh=>.t (!h) (.l (0,[],[],0,false,[],[],[])) (.c _ (Ky g e b f) λa=>.l (a.1,[],[],0,true,a.2.1,a.2.2.1,a.2.2.2))
def Wg e b a c:=(aEN e b a c).ev
def aHx:FP prog:=aH cx func7 [QI,aBK] (yj [.agg Zl]) [] [] (rW aEN) ⟨[.ownB 2 0 3 3 yi,.ownRB 2 1 4 24 3 yi,.ownB 2 2 5 3 yi,.ren 579 3,.ren 580 4,.ren 581 5],[.cell 2 34,.tmp 3],(yj [.agg (yj [.arr 3,.arr 4,.arr 5,.dat yi,.dat .str,.dat .str,.dat yi]),.dat .bool]),[(3,.arr 3 yi),(4,.rows 24 3 yi),(5,.arr 3 yi)],[],[]⟩ AO
def bM(a:List UInt8)(b:Int):Option Int:=some (jM a b)
def fU:FD:=wY
theorem fF:dZ prog (209,fU):=w9 func209 (by kernel_rfl) (by kernel_rfl) (by kernel_rfl) (by kernel_rfl)
def fS:FP prog:=⟨_,fF⟩
def bF(a:List UInt8)(e:Int):Tr Int:=.c _ (bM a e) λb=>.l b
def bE a b:=(bF a b).ev
def dF:FP prog:=aH cx func131 [fS] (yj [.dat .str,.dat (.int .u8)]) [] [] (dO bF) kA bR
def aBN(a:List UInt8)(e:Int):Tr Int:=.c _ (bE a e) λb=>.l b
def OD a b:=(aBN a b).ev
def aNh:FP prog:=aH cx func81 [dF] (yj [.dat .str,.dat (.int .u8)]) [] [] (dO aBN) kA bR
def cF(b a:List UInt8):Tr Int:=.t ((length a:Int)==(0:Int)) (.l 0) (.t (a==b) (.l 0) (.t ((length a:Int)==(1:Int)) (.g (aC 0 (length a))<|.c _ (bE b ((UInt8.toNat (getD a (toNat 0) 0):Nat):Int)) λe=>.l e) (.g ((length b:Int)<=(length a:Int))<|.l (-1))))
def bD a b:=(cF a b).ev
def dW:FP prog:=aH cx func149 [dF] Nu [] [] (dO cF) kA bR
def cV(a e:List UInt8):Tr ((List UInt8)×Om):=.c _ (bD a e) λb=>.t (0<=b) (.g ((0<=b)&&(b<=(length a:Int)))<|.g (((0:Int)<=(wrap .i64 (b+(length e:Int))))&&((wrap .i64 (b+(length e:Int)))<=(length a:Int)))<|.l ((List.drop 0 (List.take (toNat b) a)),(List.drop (toNat (wrap .i64 (b+(length e:Int)))) (List.take (length a) a)),true)) (.l (a,[],false))
def eN a b:=(cV a b).ev
abbrev WS:RetK:=yr [.tmp 4,.tmp 5,.tmp 6] (yj [.dat .str,.dat .str,.dat .bool])
abbrev GA{a b c:Type}(r:a×b×c):=((r.1,r.2.1,r.2.2,()),())
def kV:FP prog:=aH cx func132 [dW] Nu [] [] (dO cV) WS GA
def aFi(b e:List UInt8):Tr ((List UInt8)×Om):=.c _ (eN b e) λa=>.l (a.1,a.2.1,a.2.2)
def R8 a b:=(aFi a b).ev
def aKn:FP prog:=aH cx func83 [kV] Nu [] [] (dO aFi) WS GA
def aBO(a e:List UInt8):Tr Int:=.c _ (bD a e) λb=>.l b
def aHr a b:=(aBO a b).ev
def aMu:FP prog:=aH cx func98 [dW] Nu [] [] (dO aBO) kA bR
def YK(a e:List UInt8):Tr Bool:=.c _ (aHr a e) λb=>.l (0<=b)
def Ej a b:=(YK a b).ev
def aKl:FP prog:=aH cx func67 [aMu] Nu [] [] (dO YK) eC bR
def DG(k:(List UInt8)×Int)(v:Int×Int):Tr (jA⊕Int):=.t (v.2<k.2) (.g (aC v.2 (length k.1))<|.g (!decide ((999979:Int)=0))<|.l (.inl ((Int.tmod (wrap .i64 ((wrap .i64 ((wrap .i64 ((41:Int)*v.1))+(wrap .i64 ((UInt8.toNat (getD k.1 (toNat v.2) 0):Nat):Int))))+1)) 999979),(wrap .i64 (v.2+1))))) (.l (.inr v.1))
def aHl k v:=aB (λv=>(DG k v).ev) v
def aPA:LD:=yl (DG) (yh [0,3,6,7] (yj [.dat .str,.dat yi,.dat yi,.dat yi])) [(0,jI)] aF (λk v=>((k.1,v.1,k.2,v.2,()),())) VT (λt=>(t.1.2.1,t.1.2.2.2.1)) (λ_ r=>yx 0 jI ((r,()),()))
def aBh(a:List UInt8):Tr Int:=.c _ (aHl (a,(length a:Int)) (7,0)) λb=>.l b
def aFb a:=(aBh a).ev
def aPm:FP prog:=aH cx func189 [] Gf [] [] (qH aBh) oD bR bU [(0,aPA)]
def pL(a:Int):Option (List UInt8):=L5 a
def aOa:FD:=AU
theorem aQc:dZ prog (100,aOa):=Qu
def Zv:FP prog:=⟨_,aQc⟩
def Qt(a:List UInt8):Tr Om:=.t ((4000:Int)<(length a:Int)) (.l ([],false)) (.c _ (Ej a ([35]:List UInt8)) λe=>.t e (.l ([],false)) (.g (length a+length ([35]:List UInt8)<=9223372036854775807)<|.c _ (aFb a) λf=>.c _ (pL f) λb=>.g (length (a++([35]:List UInt8))+length b<=9223372036854775807)<|.t ((4000:Int)<(length ((a++([35]:List UInt8))++b):Int)) (.l ([],false)) (.l (((a++([35]:List UInt8))++b),true))))
def W6 a:=(Qt a).ev
abbrev EK:RetK:=yr [.tmp 2,.tmp 3] (yj [.dat .str,.dat .bool])
def aLz:FP prog:=aH cx func122 [aKl,aPm,Zv] Gf [] [] (qH Qt) EK dD
def aFn(b:List UInt8):Tr Om:=.c _ (R8 b ([35]:List UInt8)) λa=>.c _ (W6 a.1) λe=>.t (!e.2) (.l ([],false)) (.t (!(e.1==b)) (.l ([],false)) (.l (a.1,true)))
def YD a:=(aFn a).ev
def aPv:FP prog:=aH cx func82 [aKn,aLz] Gf [] [] (qH aFn) EK dD
def Yf(k:(List UInt8)×jA)(v:Int):Tr (Int⊕(Unit⊕Unit)):=.t (v<k.2.2) (.g (aC v (length k.1))<|.t (((UInt8.toNat (getD k.1 (toNat v) 0):Nat):Int)<(32:Int)) (.l (.inr (.inr ()))) (.g (aC v (length k.1))<|.t ((126:Int)<((UInt8.toNat (getD k.1 (toNat v) 0):Nat):Int)) (.l (.inr (.inr ()))) (.g (aC v (length k.1))<|.t (((UInt8.toNat (getD k.1 (toNat v) 0):Nat):Int)==(35:Int)) (.l (.inr (.inr ()))) (.l (.inl (wrap .i64 (v+1))))))) (.l (.inr (.inl ())))
def aIP k v:=aB (λv=>(Yf k v).ev) v
def aNW:LD:=yl (Yf) (yh [0,1,7,8] (yj [.dat .str,.dat yi,.dat yi,.dat yi])) [(0,Oo)] lM xI wZ rJ (λk r=>.s _ _ r (λ_=>yx 0 Oo ((k.1,k.2.1,()),())) (λ_=>yz lM ((false,()),())))
def aAg(a:List UInt8)(b:Int):Tr Bool:=.c _ (aIP (a,b,(length a:Int)) 0) λe=>.s _ _ e (λ_=>.l ((length a:Int)<=b)) (λ_=>.l false)
def LK a b:=(aAg a b).ev
def aOl:FP prog:=aH cx func66 [] (yj [.dat .str,.dat yi]) [] [] (dO aAg) eC bR bU [(0,aNW)]
def aDs(a e:List UInt8):Tr Bool:=.t (!(a==([]:List UInt8))) (.c _ (LK a 160) λf=>.t f (.c _ (LK e 200) λb=>.t b (.c _ (Ej a ([64]:List UInt8)) λg=>.l (!g)) (.l false)) (.l false)) (.l false)
def Yj a b:=(aDs a b).ev
def XW:FP prog:=aH cx func34 [aOl,aKl] (yj [.agg Nu]) [] [] (jO aDs) Dj bR
def aBX(h:Int)(a e:List UInt8):Tr Om:=.c _ (m9 h 0 59) λj=>.t (!j) (.l ([],false)) (.c _ (Yj a e) λi=>.t (!i) (.l ([],false)) (.c _ (pL h) λb=>.g (length b+length ([32]:List UInt8)<=9223372036854775807)<|.g (length (b++([32]:List UInt8))+length a<=9223372036854775807)<|.g (length ((b++([32]:List UInt8))++a)+length ([64]:List UInt8)<=9223372036854775807)<|.g (length (((b++([32]:List UInt8))++a)++([64]:List UInt8))+length e<=9223372036854775807)<|.c _ (W6 ((((b++([32]:List UInt8))++a)++([64]:List UInt8))++e)) λf=>.g (length f.1+length ([10]:List UInt8)<=9223372036854775807)<|.l ((f.1++([10]:List UInt8)),f.2)))
def LZ c b a:=(aBX c b a).ev
abbrev Mk:RetK:=yr [.tmp 4,.tmp 5] (yj [.dat .str,.dat .bool])
def aKi:FP prog:=aH cx func72 [Cd,XW,Zv,aLz] (yj [.dat yi,.agg Nu]) [] [] (GV aBX) Mk dD
def X9(k:List UInt8)(v:Int×(List Z6)):Tr ((Int×(List Z6))⊕(Int×(List Z6))):=.g ((0<=v.1)&&(v.1<=(length k:Int)))<|.c _ (OD (List.drop (toNat v.1) (List.take (length k) k)) 10) λa=>.t (a<0) (.l (.inr (v.1,v.2))) (.g ((0<=v.1)&&(v.1<=(wrap .i64 ((wrap .i64 (v.1+a))+1)))&&((wrap .i64 ((wrap .i64 (v.1+a))+1))<=(length k:Int)))<|.g ((0<=a)&&(a<=(length (List.drop (toNat v.1) (List.take (toNat (wrap .i64 ((wrap .i64 (v.1+a))+1))) k)):Int)))<|.c _ (YD (List.drop 0 (List.take (toNat a) (List.drop (toNat v.1) (List.take (toNat (wrap .i64 ((wrap .i64 (v.1+a))+1))) k))))) λf=>.c _ (R8 f.1 ([32]:List UInt8)) λh=>.c _ (R8 h.2.1 ([64]:List UInt8)) λb=>.c _ (LZ (length v.2:Int) b.1 b.2.1) λe=>.t (!e.2) (.l (.inr (v.1,v.2))) (.t (!(e.1==(List.drop (toNat v.1) (List.take (toNat (wrap .i64 ((wrap .i64 (v.1+a))+1))) k)))) (.l (.inr (v.1,v.2))) (.g ((length v.2+length ([(b.1,b.2.1)]:List Z6))*32<=140737488355328)<|.l (.inl ((wrap .i64 ((wrap .i64 (v.1+a))+1)),(v.2++([(b.1,b.2.1)]:List Z6)))))))
def aGe k v:=aB (λv=>(X9 k v).ev) v
abbrev TC:Keep:=yk [] [2,3] (yj [.arr 19,.dat yi]) [(19,.arr 48 (.pair .str .str))]
def aSA:LD:=yl (X9) (yk [] [0,4,5] (yj [.dat .str,.arr 19,.dat yi]) [(19,.arr 48 (.pair .str .str))]) [] TC Fw oF Fv (λ_ r=>yz TC (((),r.1,()),r.2,()))
def MJ(b:List UInt8):Tr (Int×(List Z6)):=.c _ (aGe b (0,([]:List Z6))) λa=>.l (a.1,a.2)
def Ec a:=(MJ a).ev
def aLm:FP prog:=aH cx func42 [aNh,aPv,aKn,aKi] Gf [] [] (qH MJ) ⟨[.ren 19 0],[.tmp 2,.tmp 3],(yj [.arr 0,.dat yi]),[(0,.arr 48 (.pair .str .str))],[],[]⟩ gX bU [(0,aSA)]
def NX(a b:List UInt8)(h:Int):Tr Bool:=.g (length a+length b<=9223372036854775807)<|.t ((30000:Int)<(length (a++b):Int)) (.l false) (.c _ (Ec (a++b)) λe=>.c _ (Ec a) λf=>.t (e.1==(length (a++b):Int)) (.t (f.1==(length a:Int)) (.l (h==(length e.2:Int))) (.l false)) (.l false))
def Jt c b a:=(NX c b a).ev
def aCD:FP prog:=aH cx func40 [aLm] (yj [.agg Q8]) [] [] (Ng NX) Dj bR
def Us(b a:List UInt8)(f:Int):Tr (Bool×(List Z6)):=.c _ (Jt b a f) λh=>.t (!h) (.l (false,([]:List Z6))) (.g (length b+length a<=9223372036854775807)<|.c _ (Ec (b++a)) λe=>.l (true,e.2))
def Q3 c b a:=(Us c b a).ev
def aSf:FP prog:=aH cx func17 [aCD,aLm] (yj [.agg Q8]) [] [] (Ng Us) ⟨[.own 2 0 48 (.pair .str .str),.ren 960 0],[.tmp 2,.tmp 3],Ho,[(0,.arr 48 (.pair .str .str))],[],[]⟩ gX
def aCH(m:Y1)(h:List Y1)(g:Y1)(i:Int)(e a:List UInt8)(b:Int):Tr Bool:=.c _ (vH m h g i) λj=>.t j (.c _ (Jt e a b) λf=>.l f) (.l false)
def aCa h f e g c a b:=(aCH h f e g c a b).ev
def aNl:FP prog:=aH cx func15 [QI,aCD] (yj [.agg Zm]) [] [] (WF aCH) Dj bR
end
end Go.Proofs.YtjiljcblmgeioaaGreatDoor
