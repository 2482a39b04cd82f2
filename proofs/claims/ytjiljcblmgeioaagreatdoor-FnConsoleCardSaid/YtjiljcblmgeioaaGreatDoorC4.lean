/- A part of the proof that FnConsole hands back true, at every argument of the row. -/
import Derived.Test.YtjiljcblmgeioaaGreatDoorC3
namespace Go.Proofs.YtjiljcblmgeioaaGreatDoor
set_option linter.all false
noncomputable section
open Go.Proofs.Tryz
open List (length getD set)
open Int (toNat)
open IntKind (wrap)
def Qz(k:Y1×Int×Y1×Int)(v:Int):Tr (Int⊕(Unit⊕Unit)):=.t (v<k.2.2.2) (.g (aC v (length k.2.2.1))<|.c _ (B9 (getD k.2.2.1 (toNat v) 0) 0 (wrap .i64 (k.2.1-1))) λa=>.t (!a) (.l (.inr (.inr ()))) (.t (0<v) (.g (aC (wrap .i64 (v-1)) (length k.1))<|.t ((getD k.2.2.1 (toNat v) 0)<=(getD k.1 (toNat (wrap .i64 (v-1))) 0)) (.l (.inr (.inr ()))) (.l (.inl (wrap .i64 (v+1))))) (.l (.inl (wrap .i64 (v+1)))))) (.l (.inr (.inl ())))
def aHq k v:=aB (λv=>(Qz k v).ev) v
abbrev SX{a b c d e:Type}(k:a×b×c×d)(v:e):=((k.1,k.2.1,k.2.2.1,k.2.2.2,v,()),())
abbrev SM{a b c d e g:Type}(t:(a×b×c×d×e)×g):=(t.1.1,t.1.2.1,t.1.2.2.1,t.1.2.2.2.1)
def aRL:LD:=yl (Qz) (yh [0,1,7,8,9] (yj [.dat y1,.dat yi,.dat y1,.dat yi,.dat yi])) [(0,aE)] gI SX SM b8 (λ_ r=>.s _ _ r (λ_=>yx 0 aE ((),())) (λ_=>yz gI ((false,()),())))
def aDm(a:Y1)(e:Int):Tr Bool:=.c _ (aHq (a,e,a,(length a:Int)) 0) λb=>.s _ _ b (λ_=>.l true) (λ_=>.l false)
def LR b a:=(aDm b a).ev
def aLB:FP prog:=aH cx func55 [Ca] (yj [.dat y1,.dat yi]) [] [] (dG aDm) dC bN bU [(0,aRL)]
def ZV(a:Y1)(f:List Y1)(h:Y1)(g:Int):Tr Bool:=.c _ (uR a f) λi=>.t i (.c _ (LR h (length a:Int)) λb=>.t b (.c _ (B9 g 0 1000) λe=>.l e) (.l false)) (.l false)
def iK e c b a:=(ZV e c b a).ev
def MI:FP prog:=aH cx func28 [H6,aLB,Ca] (yj [.agg oL]) [] [] (rX ZV) Dt bN
def D5(a:Y1):Option (List Int):=sQ a
def aMR:FD:=fdClone
theorem aRu:eF prog (57,aMR):=Je
def JL:FP prog:=⟨_,aRu⟩
def Er(k:Y2×Int)(v:Int×Y2):Tr (E4⊕Y2):=.t (v.1<k.2) (.g (aC v.1 (length k.1))<|.c _ (D5 (getD k.1 (toNat v.1) [])) λa=>.g ((length v.2+1)*24<=140737488355328)<|.l (.inl ((wrap .i64 (v.1+1)),(set (v.2++ [[]]) (length v.2) a)))) (.l (.inr v.2))
def aCc k v:=aB (λv=>(Er k v).ev) v
abbrev WJ:Keep:=yk [] [3] (yj [.arr 6]) [(6,.rows 24 3 yi)]
abbrev Nn{a b c d:Type}(k:a×b)(v:c×d):=(((),k.1,k.2,v.1,()),v.2,())
def aON:LD:=yl (Er) (yk [] [3,7,8,9] (yj [.arr 6,.dat y2,.dat yi,.dat yi]) [(6,.rows 24 3 yi)]) [(0,WJ)] aE Nn iV u7 (λ_ r=>yx 0 WJ (((),()),r,()))
def LT(a:List Y1):Tr Y2:=.c _ (aCc (a,(length a:Int)) (0,[])) λb=>.l b
def DC a:=(LT a).ev
def aOx:FP prog:=aH cx func58 [JL] (yj [.dat y2]) [] [] (oM LT) ⟨[.ren 6 0],[.tmp 2],C7,[(0,.rows 24 3 yi)],[],[]⟩ kQ (E6 [(1,[(0,[1000000])])]) [(0,aON)]
def PZ(i:Y1)(e:List Y1)(g:Y1)(f:Int):Tr (Int×Oc):=.c _ (D5 i) λh=>.c _ (DC e) λa=>.c _ (D5 g) λb=>.l (f,h,a,b)
def Hh e c b a:=(PZ e c b a).ev
def aAz:FP prog:=aH cx func29 [JL,aOx] (yj [.agg oL]) [] [] (rX PZ) ⟨[.ren 384 3,.ren 640 4,.ren 896 5],[.cell 2 29],(yj [.agg (yj [.arr 3,.arr 4,.arr 5,.dat yi])]),[(3,.arr 3 yi),(4,.rows 24 3 yi),(5,.arr 3 yi)],[],[]⟩ Mr
def aBc(g:Y1)(b:List Y1)(f:Y1)(e:Int):Tr (Int×(List UInt8)×(List UInt8)×Int×Bool×Oc):=.c _ (iK g b f e) λh=>.t (!h) (.l (0,[],[],0,false,[],[],[])) (.c _ (Hh g b f e) λa=>.l (a.1,[],[],0,true,a.2.1,a.2.2.1,a.2.2.2))
def aGg e c b a:=(aBc e c b a).ev
abbrev Wi{a b c d e g h i:Type}(r:a×b×c×d×e×g×h×i):=((((),(),(),r.1,r.2.1,r.2.2.1,r.2.2.2.1,()),r.2.2.2.2.1,()),r.2.2.2.2.2.1,r.2.2.2.2.2.2.1,r.2.2.2.2.2.2.2,())
def aPX:FP prog:=aH cx func7 [MI,aAz] (yj [.agg oL]) [] [] (rX aBc) ⟨[.ownB 2 0 3 3 yi,.ownRB 2 1 4 24 3 yi,.ownB 2 2 5 3 yi,.ren 579 3,.ren 580 4,.ren 581 5],[.cell 2 34,.tmp 3],(yj [.agg (yj [.arr 3,.arr 4,.arr 5,.dat yi,.dat .str,.dat .str,.dat yi]),.dat .bool]),[(3,.arr 3 yi),(4,.rows 24 3 yi),(5,.arr 3 yi)],[],[]⟩ Wi
def YU(g:Y1)(b:List Y1)(f:Y1)(e:Int):Tr (Int×(List UInt8)×(List UInt8)×Int×Bool×Oc):=.c _ (Ke g b f e) λh=>.t (!h) (.l (0,[],[],0,false,[],[],[])) (.c _ (G9 g b f e) λa=>.l (a.1,[],[],0,true,a.2.1,a.2.2.1,a.2.2.2))
def GZ e c b a:=(YU e c b a).ev
def aLe:FP prog:=aH cx func8 [Ws,NH] (yj [.agg oL]) [] [] (rX YU) ⟨[.ownB 2 0 3 3 yi,.ownRB 2 1 4 24 3 yi,.ownB 2 2 5 3 yi,.ren 580 3,.ren 581 4,.ren 582 5],[.cell 2 34,.tmp 3],(yj [.agg (yj [.arr 3,.arr 4,.arr 5,.dat yi,.dat .str,.dat .str,.dat yi]),.dat .bool]),[(3,.arr 3 yi),(4,.rows 24 3 yi),(5,.arr 3 yi)],[],[]⟩ Wi
def aEI(a:Y1)(b:Int):Tr Y1:=.t ((length a:Int)<b) (.g (((0:Int)<=(length a:Int))&&((length a:Int)<=(length a:Int)))<|.g ((length ([]:Y1)+length (List.drop (toNat (length a:Int)) (List.take (length a) a)))*1<=140737488355328)<|.g ((length (([]:Y1)++(List.drop (toNat (length a:Int)) (List.take (length a) a)))+length ([(wrap .u8 (length a:Int))]:Y1))*1<=140737488355328)<|.l ((([]:Y1)++(List.drop (toNat (length a:Int)) (List.take (length a) a)))++([(wrap .u8 (length a:Int))]:Y1))) (.g ((0<=b)&&(b<=(length a:Int)))<|.g ((length ([]:Y1)+length (List.drop (toNat b) (List.take (length a) a)))*1<=140737488355328)<|.g ((length (([]:Y1)++(List.drop (toNat b) (List.take (length a) a)))+length ([(wrap .u8 b)]:Y1))*1<=140737488355328)<|.l ((([]:Y1)++(List.drop (toNat b) (List.take (length a) a)))++([(wrap .u8 b)]:Y1)))
def BN b a:=(aEI b a).ev
def aOB:FP prog:=aH cx func10 [] (yj [.dat (.slice (.int .u8)),.dat yi]) [] [] (dG aEI) ⟨[.ren 11 0],[.tmp 4],C7,[(0,.arr 5 (.int .u8))],[],[]⟩ kQ
def Tf(e:(Int)->Option (List UInt8))(a:Int):Tr (List UInt8):=.t (a<0) (.c _ (e (wrap .i64 (0-a))) λf=>.g (length ([45]:List UInt8)+length f<=9223372036854775807)<|.l (([45]:List UInt8)++f)) (.t (a<10) (.g ((0<=a)&&(a<=(wrap .i64 (a+1)))&&((wrap .i64 (a+1))<=(length ([48,49,50,51,52,53,54,55,56,57]:List UInt8):Int)))<|.l (List.drop (toNat a) (List.take (toNat (wrap .i64 (a+1))) ([48,49,50,51,52,53,54,55,56,57]:List UInt8)))) (.g (!decide ((10:Int)=0))<|.c _ (e (wrap .i64 (Int.tdiv a 10))) λb=>.g (!decide ((10:Int)=0))<|.g (!decide ((10:Int)=0))<|.g (((0:Int)<=(Int.tmod a 10))&&((Int.tmod a 10)<=(wrap .i64 ((Int.tmod a 10)+1)))&&((wrap .i64 ((Int.tmod a 10)+1))<=(length ([48,49,50,51,52,53,54,55,56,57]:List UInt8):Int)))<|.g (length b+length (List.drop (toNat (Int.tmod a 10)) (List.take (toNat (wrap .i64 ((Int.tmod a 10)+1))) ([48,49,50,51,52,53,54,55,56,57]:List UInt8)))<=9223372036854775807)<|.l (b++(List.drop (toNat (Int.tmod a 10)) (List.take (toNat (wrap .i64 ((Int.tmod a 10)+1))) ([48,49,50,51,52,53,54,55,56,57]:List UInt8))))))
noncomputable def eU:Nat->(Int)->Option (List UInt8) |0=>λ_=>none |n+1=>λa=>(Tf (eU n) a).ev
def aNy:RetK:=yr [.tmp 2] Fz
def aKu(a:(Int)->Option (List UInt8)):FD:={A:=fK,ins:=[],lend:=[],R:=List UInt8,F:=λx=>a x.1.1,emb:=λr=>([.dat .str r],[])}
def aLQ(n:Nat):FD:=aKu (eU n)
theorem aJS:∀n:Nat,eF prog (63,aLQ n) |0=>λ_ _ h=>nomatch h |n+1=>BW mixed (xC (Vx (aJS n) fdN)) Dr (aIL (aLQ (n+1)) (pP [(63,aKu (eU n))]) aNy bU [] ((f63.body).getD .skip) (λx=>Tf (eU n) x.1.1) (λr=>((r,()),())) func63 (AS (by kernel_rfl) lpN) λ_=>by kernel_rfl)
def T2:FP prog:=⟨_,aJS 1000000⟩
def aCb(b:List (List UInt8))(h:Y1)(e f:Int):Tr ((List UInt8)×b9):=.c _ (eG (length b:Int) h e f) λa=>.g (aC a.1 (length b))<|.l ((getD b (toNat a.1) []),a.2.1,a.2.2.1,a.2.2.2)
def JP c e b a:=(aCb c e b a).ev
def aRY:FP prog:=aH cx func64 [uE] (yj [.box 64 0,.dat (.slice .str)]) [Zz] [.arg 0] (UO aCb) ⟨[],[.tmp 4],Fz,[Zz],[(0,0,64)],[]⟩ yq5
def aDA(b e:List UInt8)(m:Y1)(i j:Int):Tr ((List UInt8)×b9):=.t (b==([]:List UInt8)) (.g (((0:Int)<=(1:Int))&&((1:Int)<=(length e:Int)))<|.l ((List.drop 0 (List.take (toNat 1) e)),m,i,j)) (.c _ (eG (length b:Int) m i j) λa=>.c _ (eG (length e:Int) a.2.1 a.2.2.1 a.2.2.2) λf=>.g ((0<=f.1)&&(f.1<=(length e:Int)))<|.g (((0:Int)<=(1:Int))&&((1:Int)<=(length (List.drop (toNat f.1) (List.take (length e) e)):Int)))<|.c _ (eG 3 f.2.1 f.2.2.1 f.2.2.2) λh=>.t (h.1==0) (.g ((0<=a.1)&&(a.1<=(length b:Int)))<|.g (length (List.drop 0 (List.take (toNat a.1) b))+length (List.drop 0 (List.take (toNat 1) (List.drop (toNat f.1) (List.take (length e) e))))<=9223372036854775807)<|.g ((0<=a.1)&&(a.1<=(length b:Int)))<|.g (length ((List.drop 0 (List.take (toNat a.1) b))++(List.drop 0 (List.take (toNat 1) (List.drop (toNat f.1) (List.take (length e) e)))))+length (List.drop (toNat a.1) (List.take (length b) b))<=9223372036854775807)<|.l ((((List.drop 0 (List.take (toNat a.1) b))++(List.drop 0 (List.take (toNat 1) (List.drop (toNat f.1) (List.take (length e) e)))))++(List.drop (toNat a.1) (List.take (length b) b))),h.2.1,h.2.2.1,h.2.2.2)) (.t (h.1==1) (.g ((0<=a.1)&&(a.1<=(length b:Int)))<|.g (length (List.drop 0 (List.take (toNat a.1) b))+length (List.drop 0 (List.take (toNat 1) (List.drop (toNat f.1) (List.take (length e) e))))<=9223372036854775807)<|.g (((0:Int)<=(wrap .i64 (a.1+1)))&&((wrap .i64 (a.1+1))<=(length b:Int)))<|.g (length ((List.drop 0 (List.take (toNat a.1) b))++(List.drop 0 (List.take (toNat 1) (List.drop (toNat f.1) (List.take (length e) e)))))+length (List.drop (toNat (wrap .i64 (a.1+1))) (List.take (length b) b))<=9223372036854775807)<|.l ((((List.drop 0 (List.take (toNat a.1) b))++(List.drop 0 (List.take (toNat 1) (List.drop (toNat f.1) (List.take (length e) e)))))++(List.drop (toNat (wrap .i64 (a.1+1))) (List.take (length b) b))),h.2.1,h.2.2.1,h.2.2.2)) (.g ((0<=a.1)&&(a.1<=(length b:Int)))<|.g (((0:Int)<=(wrap .i64 (a.1+1)))&&((wrap .i64 (a.1+1))<=(length b:Int)))<|.g (length (List.drop 0 (List.take (toNat a.1) b))+length (List.drop (toNat (wrap .i64 (a.1+1))) (List.take (length b) b))<=9223372036854775807)<|.l (((List.drop 0 (List.take (toNat a.1) b))++(List.drop (toNat (wrap .i64 (a.1+1))) (List.take (length b) b))),h.2.1,h.2.2.1,h.2.2.2))))
def MR b c f a e:=(aDA b c f a e).ev
def aNl:FP prog:=aH cx func65 [uE] (yj [.box 64 0,.dat .str,.dat .str]) [Zz] [.arg 0] ((λf x=>f x.1.2.1 x.1.2.2.1 x.2.1.1 x.2.1.2.1 x.2.1.2.2.1) aDA) ⟨[],[.tmp 6],Fz,[Zz],[(0,0,64)],[]⟩ yq5
def JT(q:Y1)(o p:Int):Tr ((List UInt8)×b9):=.c _ (eG 4 q o p) λn=>.c _ (eU 1000000 n.1) λa=>.c _ (eG 4 n.2.1 n.2.2.1 n.2.2.2) λi=>.c _ (eU 1000000 i.1) λe=>.c _ (mH ([0,3,9,20,99,100]:Y1) i.2.1 i.2.2.1 i.2.2.2) λm=>.c _ (eU 1000000 m.1) λb=>.g (length ([111,112,101,110,32]:List UInt8)+length a<=9223372036854775807)<|.g (length ([111,112,101,110,32]:List UInt8)+length e<=9223372036854775807)<|.g (length ([99,108,111,115,101,32]:List UInt8)+length a<=9223372036854775807)<|.g (length ([115,119,97,112,32]:List UInt8)+length a<=9223372036854775807)<|.g (length (([115,119,97,112,32]:List UInt8)++a)+length ([32]:List UInt8)<=9223372036854775807)<|.g (length ((([115,119,97,112,32]:List UInt8)++a)++([32]:List UInt8))+length e<=9223372036854775807)<|.g (length ([99,111,115,116,32]:List UInt8)+length a<=9223372036854775807)<|.g (length (([99,111,115,116,32]:List UInt8)++a)+length ([32]:List UInt8)<=9223372036854775807)<|.g (length ((([99,111,115,116,32]:List UInt8)++a)++([32]:List UInt8))+length b<=9223372036854775807)<|.g (length ([108,101,110,103,116,104,32]:List UInt8)+length a<=9223372036854775807)<|.g (length (([108,101,110,103,116,104,32]:List UInt8)++a)+length ([32]:List UInt8)<=9223372036854775807)<|.g (length ((([108,101,110,103,116,104,32]:List UInt8)++a)++([32]:List UInt8))+length e<=9223372036854775807)<|.g (length (((([108,101,110,103,116,104,32]:List UInt8)++a)++([32]:List UInt8))++e)+length ([32]:List UInt8)<=9223372036854775807)<|.g (length ((((([108,101,110,103,116,104,32]:List UInt8)++a)++([32]:List UInt8))++e)++([32]:List UInt8))+length b<=9223372036854775807)<|.g (length ([115,105,116,101,32]:List UInt8)+length b<=9223372036854775807)<|.g (length (([115,105,116,101,32]:List UInt8)++b)+length ([32,51,32,52,32,53]:List UInt8)<=9223372036854775807)<|.g (length ([99,108,105,101,110,116,32]:List UInt8)+length b<=9223372036854775807)<|.g (length ([100,114,111,112,115,105,116,101,32]:List UInt8)+length a<=9223372036854775807)<|.g (length ([100,114,111,112,99,108,105,101,110,116,32]:List UInt8)+length a<=9223372036854775807)<|.g (length ([109,101,100,105,97,110,32]:List UInt8)+length a<=9223372036854775807)<|.g (length ([99,101,110,116,114,101,115,32]:List UInt8)+length a<=9223372036854775807)<|.g (length ([102,97,114,32]:List UInt8)+length b<=9223372036854775807)<|.c _ (JP ([(([111,112,101,110,32]:List UInt8)++a),(([111,112,101,110,32]:List UInt8)++e),(([99,108,111,115,101,32]:List UInt8)++a),(((([115,119,97,112,32]:List UInt8)++a)++([32]:List UInt8))++e),(((([99,111,115,116,32]:List UInt8)++a)++([32]:List UInt8))++b),(((((([108,101,110,103,116,104,32]:List UInt8)++a)++([32]:List UInt8))++e)++([32]:List UInt8))++b),([115,105,116,101,32,53]:List UInt8),([115,105,116,101,32,53,32,49,32,50]:List UInt8),((([115,105,116,101,32]:List UInt8)++b)++([32,51,32,52,32,53]:List UInt8)),([99,108,105,101,110,116,32,49,32,50]:List UInt8),([99,108,105,101,110,116,32,52,32,53,32,54]:List UInt8),(([99,108,105,101,110,116,32]:List UInt8)++b),(([100,114,111,112,115,105,116,101,32]:List UInt8)++a),(([100,114,111,112,99,108,105,101,110,116,32]:List UInt8)++a),([105,109,112,114,111,118,101]:List UInt8),([98,101,115,116]:List UInt8),([116,111,116,97,108]:List UInt8),([103,97,112]:List UInt8),([115,101,114,118,105,99,101]:List UInt8),([114,101,97,99,104]:List UInt8),([115,101,114,118,101,100]:List UInt8),([109,101,116,114,105,99]:List UInt8),([102,105,101,108,100]:List UInt8),([112,114,105,99,101,115]:List UInt8),([103,114,111,119,116,104]:List UInt8),([108,111,99,97,108]:List UInt8),(([109,101,100,105,97,110,32]:List UInt8)++a),(([99,101,110,116,114,101,115,32]:List UInt8)++a),(([102,97,114,32]:List UInt8)++b),([117,110,98,101,97,116,101,110]:List UInt8),([99,108,105,101,110,116]:List UInt8),([111,112,101,110]:List UInt8),([99,111,115,116,32,49]:List UInt8),([116,111,116,97,108,32,49]:List UInt8),([119,104,97,116]:List UInt8),[],([97,35]:List UInt8),([115,119,97,112,32,120,32,49]:List UInt8)]:List (List UInt8)) m.2.1 m.2.2.1 m.2.2.2) λh=>.c _ (Pu 24 h.2.1 h.2.2.1 h.2.2.2) λf=>.t f.1 (.c _ (MR h.1 ([32,48,49,97]:List UInt8) f.2.1 f.2.2.1 f.2.2.2) λj=>.l (j.1,j.2.1,j.2.2.1,j.2.2.2)) (.l (h.1,f.2.1,f.2.2.1,f.2.2.2))
def El c b a:=(JT c b a).ev
def XC:FP prog:=aH cx func33 [uE,T2,Gv,aRY,ZT,aNl] (yj [.box 64 0]) [Zz] [.arg 0] (yq4 JT) ⟨[],[.tmp 2],Fz,[Zz],[(0,0,64)],[]⟩ yq5 (E6 [(1,[(8,[15])]),(3,[(2,[59])])])
def F7(k:(List UInt8)×Int)(v:Int×Int×(List (List UInt8))):Tr ((Int×Int×(List (List UInt8)))⊕(Int×(List (List UInt8)))):=.t (v.2.1<(length k.1:Int)) (.g (aC v.2.1 (length k.1))<|.t (((UInt8.toNat (getD k.1 (toNat v.2.1) 0):Nat):Int)==k.2) (.g ((0<=v.1)&&(v.1<=v.2.1)&&(v.2.1<=(length k.1:Int)))<|.g ((length v.2.2+length ([(List.drop (toNat v.1) (List.take (toNat v.2.1) k.1))]:List (List UInt8)))*16<=140737488355328)<|.l (.inl ((wrap .i64 (v.2.1+1)),(wrap .i64 (v.2.1+1)),(v.2.2++([(List.drop (toNat v.1) (List.take (toNat v.2.1) k.1))]:List (List UInt8)))))) (.l (.inl (v.1,(wrap .i64 (v.2.1+1)),v.2.2)))) (.l (.inr (v.1,v.2.2)))
def aDw k v:=aB (λv=>(F7 k v).ev) v
abbrev WQ:Keep:=yk [] [0,5,6] (yj [.dat .str,.arr 8,.dat yi]) [(8,.arr 9 .str)]
abbrev QX{a b c d e g h i:Type}(t:(a×b×c×d×e×g)×h×i):=(t.1.2.2.2.1,t.1.2.2.2.2.1,t.2.1)
def aMD:LD:=yl (F7) (yk [] [0,1,5,6,7] (yj [.dat .str,.dat (.int .u8),.arr 8,.dat yi,.dat yi]) [(8,.arr 9 .str)]) [(0,WQ)] aE (λk v=>((k.1,k.2,(),v.1,v.2.1,()),v.2.2,())) mZ QX (λk r=>yx 0 WQ ((k.1,(),r.1,()),r.2,()))
def LL(a:List UInt8)(e:Int):Tr (List (List UInt8)):=.c _ (aDw (a,e) (0,0,[])) λb=>.g ((0<=b.1)&&(b.1<=(length a:Int)))<|.g ((length b.2+length ([(List.drop (toNat b.1) (List.take (length a) a))]:List (List UInt8)))*16<=140737488355328)<|.l (b.2++([(List.drop (toNat b.1) (List.take (length a) a))]:List (List UInt8)))
def yM b a:=(LL b a).ev
def LG:FP prog:=aH cx func48 [] (yj [.dat .str,.dat (.int .u8)]) [] [] (dG LL) ⟨[.ren 8 0],[.tmp 4],C7,[(0,.arr 9 .str)],[],[]⟩ kQ bU [(0,aMD)]
def GX(k:(List UInt8)×Int)(v:Int):Tr (Int⊕(Unit⊕Unit)):=.t (v<(length k.1:Int)) (.g (aC v (length k.1))<|.c _ (rO (wrap .i64 ((UInt8.toNat (getD k.1 (toNat v) 0):Nat):Int)) 32 126) λa=>.t (!a) (.l (.inr (.inr ()))) (.g (aC v (length k.1))<|.t (((UInt8.toNat (getD k.1 (toNat v) 0):Nat):Int)==(35:Int)) (.l (.inr (.inr ()))) (.l (.inl (wrap .i64 (v+1)))))) (.l (.inr (.inl ())))
def aHH k v:=aB (λv=>(GX k v).ev) v
abbrev Lv:Keep:=yh [0,1] (yj [.dat .str,.dat yi])
def aSx:LD:=yl (GX) (yh [0,1,5] (yj [.dat .str,.dat yi,.dat yi])) [(0,Lv)] gI uK mZ D1 (λk r=>.s _ _ r (λ_=>yx 0 Lv ((k.1,k.2,()),())) (λ_=>yz gI ((false,()),())))
def aFx(b:List UInt8)(a:Int):Tr Bool:=.c _ (aHH (b,a) 0) λe=>.s _ _ e (λ_=>.l ((length b:Int)<=a)) (λ_=>.l false)
def KH b a:=(aFx b a).ev
def aNb:FP prog:=aH cx func73 [F0] (yj [.dat .str,.dat yi]) [] [] (dG aFx) dC bN bU [(0,aSx)]
def GM(k:(List UInt8)×Int)(v:Int):Tr (Int⊕(Unit⊕Unit)):=.t (v<(length k.1:Int)) (.g (aC v (length k.1))<|.t (((UInt8.toNat (getD k.1 (toNat v) 0):Nat):Int)==k.2) (.l (.inr (.inr ()))) (.l (.inl (wrap .i64 (v+1))))) (.l (.inr (.inl ())))
def aHU k v:=aB (λv=>(GM k v).ev) v
def aQW:LD:=yl (GM) (yh [0,1,5] (yj [.dat .str,.dat (.int .u8),.dat yi])) [(0,aE)] gI uK mZ D1 (λ_ r=>.s _ _ r (λ_=>yx 0 aE ((),())) (λ_=>yz gI ((true,()),())))
def aEb(e:List UInt8)(b:Int):Tr Bool:=.c _ (aHU (e,b) 0) λa=>.s _ _ a (λ_=>.l false) (λ_=>.l true)
def JN b a:=(aEb b a).ev
def aMK:FP prog:=aH cx func74 [] (yj [.dat .str,.dat (.int .u8)]) [] [] (dG aEb) dC bN bU [(0,aQW)]
def aEP(a f:List UInt8):Tr Bool:=.t (!(a==([]:List UInt8))) (.c _ (KH a 160) λg=>.t g (.c _ (JN a 64) λb=>.t (!b) (.c _ (KH f 200) λe=>.l e) (.l false)) (.l false)) (.l false)
def Wm b a:=(aEP b a).ev
def aAd:FP prog:=aH cx func37 [aNb,aMK] (yj [.agg Ue]) [] [] (jZ aEP) Dt bN
def CS(k:List UInt8)(v:Int×Int):Tr (jI⊕Int):=.t (v.2<(length k:Int)) (.g (aC v.2 (length k))<|.g (!decide ((999979:Int)=0))<|.l (.inl ((Int.tmod (wrap .i64 ((wrap .i64 ((wrap .i64 ((41:Int)*v.1))+(wrap .i64 ((UInt8.toNat (getD k (toNat v.2) 0):Nat):Int))))+1)) 999979),(wrap .i64 (v.2+1))))) (.l (.inr v.1))
def aLI k v:=aB (λv=>(CS k v).ev) v
abbrev jM:Keep:=yh [3] fK
def aSj:LD:=yl (CS) (yh [0,3,4] (yj [.dat .str,.dat yi,.dat yi])) [(0,jM)] aE r9 oG iV (λ_ r=>yx 0 jM ((r,()),()))
def aBl(b:List UInt8):Tr Int:=.c _ (aLI b (7,0)) λa=>.l a
def aAM a:=(aBl a).ev
abbrev oB:RetK:=yr [.tmp 2] fK
def aTn:FP prog:=aH cx func208 [] Fz [] [] (oM aBl) oB bN bU [(0,aSj)]
def aBz(a:List UInt8):Tr (List UInt8):=.g (length a+length ([35]:List UInt8)<=9223372036854775807)<|.c _ (aAM a) λe=>.c _ (eU 1000000 e) λb=>.g (length (a++([35]:List UInt8))+length b<=9223372036854775807)<|.l ((a++([35]:List UInt8))++b)
def OP a:=(aBz a).ev
abbrev O4:RetK:=yr [.tmp 2] Fz
def aPx:FP prog:=aH cx func130 [aTn,T2] Fz [] [] (oM aBz) O4 bN
def aFN(h:Int)(b f:List UInt8):Tr (List UInt8):=.c _ (eU 1000000 h) λa=>.g (length a+length ([32]:List UInt8)<=9223372036854775807)<|.g (length (a++([32]:List UInt8))+length b<=9223372036854775807)<|.g (length ((a++([32]:List UInt8))++b)+length ([64]:List UInt8)<=9223372036854775807)<|.g (length (((a++([32]:List UInt8))++b)++([64]:List UInt8))+length f<=9223372036854775807)<|.c _ (OP ((((a++([32]:List UInt8))++b)++([64]:List UInt8))++f)) λe=>.g (length e+length ([10]:List UInt8)<=9223372036854775807)<|.l (e++([10]:List UInt8))
def ML c b a:=(aFN c b a).ev
abbrev Cs:RetK:=yr [.tmp 4] Fz
def aHp:FP prog:=aH cx func80 [T2,aPx] (yj [.dat yi,.agg Ue]) [] [] (CH aFN) Cs bN
def aEy(f:List UInt8)(h:Int):Tr ((List UInt8)×Lp):=.c _ (eU 1000000 h) λb=>.g (length b+length ([32]:List UInt8)<=9223372036854775807)<|.c _ (yM f 35) λa=>.g (aC 0 (length a))<|.g ((toNat 0)<length a)<|.t ((length (getD a (toNat 0) []):Int)<(length (b++([32]:List UInt8)):Int)) (.l ([],[],false)) (.g (((0:Int)<=(length (b++([32]:List UInt8)):Int))&&((length (b++([32]:List UInt8)):Int)<=(length (getD a (toNat 0) []):Int)))<|.t (!((List.drop 0 (List.take (toNat (length (b++([32]:List UInt8)):Int)) (getD a (toNat 0) [])))==(b++([32]:List UInt8)))) (.l ([],[],false)) (.g (((0:Int)<=(length (b++([32]:List UInt8)):Int))&&((length (b++([32]:List UInt8)):Int)<=(length (getD a (toNat 0) []):Int)))<|.c _ (yM (List.drop (toNat (length (b++([32]:List UInt8)):Int)) (List.take (length (getD a (toNat 0) [])) (getD a (toNat 0) []))) 64) λe=>.g (aC 0 (length e))<|.g ((toNat 0)<length e)<|.t ((length (getD e (toNat 0) []):Int)==(length (List.drop (toNat (length (b++([32]:List UInt8)):Int)) (List.take (length (getD a (toNat 0) [])) (getD a (toNat 0) []))):Int)) (.l ([],[],false)) (.g (((0:Int)<=(wrap .i64 ((length (getD e (toNat 0) []):Int)+1)))&&((wrap .i64 ((length (getD e (toNat 0) []):Int)+1))<=(length (List.drop (toNat (length (b++([32]:List UInt8)):Int)) (List.take (length (getD a (toNat 0) [])) (getD a (toNat 0) []))):Int)))<|.c _ (Wm (getD e (toNat 0) []) (List.drop (toNat (wrap .i64 ((length (getD e (toNat 0) []):Int)+1))) (List.take (length (List.drop (toNat (length (b++([32]:List UInt8)):Int)) (List.take (length (getD a (toNat 0) [])) (getD a (toNat 0) [])))) (List.drop (toNat (length (b++([32]:List UInt8)):Int)) (List.take (length (getD a (toNat 0) [])) (getD a (toNat 0) [])))))) λi=>.t i (.c _ (ML h (getD e (toNat 0) []) (List.drop (toNat (wrap .i64 ((length (getD e (toNat 0) []):Int)+1))) (List.take (length (List.drop (toNat (length (b++([32]:List UInt8)):Int)) (List.take (length (getD a (toNat 0) [])) (getD a (toNat 0) [])))) (List.drop (toNat (length (b++([32]:List UInt8)):Int)) (List.take (length (getD a (toNat 0) [])) (getD a (toNat 0) [])))))) λj=>.g (length f+length ([10]:List UInt8)<=9223372036854775807)<|.l ((getD e (toNat 0) []),(List.drop (toNat (wrap .i64 ((length (getD e (toNat 0) []):Int)+1))) (List.take (length (List.drop (toNat (length (b++([32]:List UInt8)):Int)) (List.take (length (getD a (toNat 0) [])) (getD a (toNat 0) [])))) (List.drop (toNat (length (b++([32]:List UInt8)):Int)) (List.take (length (getD a (toNat 0) [])) (getD a (toNat 0) []))))),(j==(f++([10]:List UInt8))))) (.l ((getD e (toNat 0) []),(List.drop (toNat (wrap .i64 ((length (getD e (toNat 0) []):Int)+1))) (List.take (length (List.drop (toNat (length (b++([32]:List UInt8)):Int)) (List.take (length (getD a (toNat 0) [])) (getD a (toNat 0) [])))) (List.drop (toNat (length (b++([32]:List UInt8)):Int)) (List.take (length (getD a (toNat 0) [])) (getD a (toNat 0) []))))),false)))))
def aDZ b a:=(aEy b a).ev
def aQf:FP prog:=aH cx func92 [T2,LG,aAd,aHp] (yj [.dat .str,.dat yi]) [] [] (dG aEy) (yr [.cell 4 48,.tmp 5] (yj [.agg Ue,.dat .bool])) (λr=>(((r.1,r.2.1,()),r.2.2,()),()))
def CX(k:List UInt8)(v:Int×(List Gc)):Tr ((Int×(List Gc))⊕(Int×(List Gc))):=.t (v.1<(length k:Int)) (.t ((length v.2:Int)<(60:Int)) (.g ((0<=v.1)&&(v.1<=(length k:Int)))<|.c _ (yM (List.drop (toNat v.1) (List.take (length k) k)) 10) λa=>.g (aC 0 (length a))<|.g ((toNat 0)<length a)<|.c _ (aDZ (getD a (toNat 0) []) (length v.2:Int)) λb=>.t ((length a:Int)<(2:Int)) (.l (.inr (v.1,v.2))) (.t (!b.2.2) (.l (.inr (v.1,v.2))) (.g ((length v.2+length ([(b.1,b.2.1)]:List Gc))*32<=140737488355328)<|.g (aC 0 (length a))<|.g ((toNat 0)<length a)<|.l (.inl ((wrap .i64 ((wrap .i64 (v.1+(length (getD a (toNat 0) []):Int)))+1)),(v.2++([(b.1,b.2.1)]:List Gc))))))) (.l (.inr (v.1,v.2)))) (.l (.inr (v.1,v.2)))
def aJH k v:=aB (λv=>(CX k v).ev) v
abbrev VD:Keep:=yk [] [4,5] (yj [.arr 9,.dat yi]) [(9,.arr 48 (.pair .str .str))]
abbrev Eu{a b c:Type}(k:a)(v:b×c):=((k,(),v.1,()),v.2,())
abbrev Ch{a b c d e g:Type}(t:(a×b×c×d)×e×g):=(t.1.2.2.1,t.2.1)
def aPN:LD:=yl (CX) (yk [] [0,4,5] (yj [.dat .str,.arr 9,.dat yi]) [(9,.arr 48 (.pair .str .str))]) [(0,VD)] aE Eu oG Ch (λ_ r=>yx 0 VD (((),r.1,()),r.2,()))
def aEV(b:List UInt8):Tr (Int×(List Gc)):=.c _ (aJH b (0,([]:List Gc))) λa=>.l (a.1,a.2)
def PJ a:=(aEV a).ev
def aQX:FP prog:=aH cx func53 [LG,aQf] Fz [] [] (oM aEV) ⟨[.ren 9 0],[.tmp 2,.tmp 3],(yj [.arr 0,.dat yi]),[(0,.arr 48 (.pair .str .str))],[],[]⟩ gN bU [(0,aPN)]
def aCp(a b:List UInt8)(h:Int):Tr Bool:=.t ((30000:Int)<(wrap .i64 ((length a:Int)+(length b:Int)))) (.l false) (.g (length a+length b<=9223372036854775807)<|.c _ (PJ (a++b)) λe=>.c _ (PJ a) λf=>.t (e.1==(wrap .i64 ((length a:Int)+(length b:Int)))) (.t (f.1==(length a:Int)) (.l ((length e.2:Int)==h)) (.l false)) (.l false))
def PB c b a:=(aCp c b a).ev
abbrev BS{a b c d e g:Type}{z:Type _}(f:a->b->c->z)(x:((a×b×c×d)×e)×g):z:=f x.1.1.1 x.1.1.2.1 x.1.1.2.2.1
def aIv:FP prog:=aH cx func41 [aQX] (yj [.agg Zcz]) [] [] (BS aCp) Dt bN
def AZ(m:Y1)(e:List Y1)(i:Y1)(f:Int)(g h:List UInt8)(b:Int):Tr Bool:=.c _ (Ke m e i f) λj=>.t j (.c _ (PB g h b) λa=>.l a) (.l false)
def Q2 h c g b e f a:=(AZ h c g b e f a).ev
abbrev UN{a b c d e g h i j l:Type}{z:Type _}(f:a->b->c->d->e->g->h->z)(x:((a×b×c×d×e×g×h×i)×j)×l):z:=f x.1.1.1 x.1.1.2.1 x.1.1.2.2.1 x.1.1.2.2.2.1 x.1.1.2.2.2.2.1 x.1.1.2.2.2.2.2.1 x.1.1.2.2.2.2.2.2.1
def aCy:FP prog:=aH cx func16 [Ws,aIv] (yj [.agg V2]) [] [] (UN AZ) Dt bN
def FH(k:Y1)(v:(List UInt8)×Int):Tr (((List UInt8)×Int)⊕(List UInt8)):=.t (v.2<(length k:Int)) (.t (0<v.2) (.g (length v.1+length ([32]:List UInt8)<=9223372036854775807)<|.g (aC v.2 (length k))<|.c _ (eU 1000000 (getD k (toNat v.2) 0)) λa=>.g (length (v.1++([32]:List UInt8))+length a<=9223372036854775807)<|.l (.inl (((v.1++([32]:List UInt8))++a),(wrap .i64 (v.2+1))))) (.g (aC v.2 (length k))<|.c _ (eU 1000000 (getD k (toNat v.2) 0)) λb=>.g (length v.1+length b<=9223372036854775807)<|.l (.inl ((v.1++b),(wrap .i64 (v.2+1)))))) (.l (.inr v.1))
def aKW k v:=aB (λv=>(FH k v).ev) v
abbrev UI:Keep:=yh [0,3,4] (yj [.dat y1,.dat .str,.dat yi])
abbrev M1:Keep:=yh [3] Fz
def aQq:LD:=yl (FH) UI [(0,M1)] aE r9 oG iV (λ_ r=>yx 0 M1 ((r,()),()))
def aBE(b:Y1):Tr (List UInt8):=.c _ (aKW b ([],0)) λa=>.t (a==([]:List UInt8)) (.l ([110,111,110,101]:List UInt8)) (.l a)
def Ui a:=(aBE a).ev
def aJK:FP prog:=aH cx func125 [T2] Di [] [] (oM aBE) O4 bN bU [(0,aQq)]
noncomputable abbrev DF(p1 p2:Int)(p3:Y1)(p4:List Y1)(p5:Y1)(p6:Int):=(.t (p1==p2) (.c _ (eU 1000000 (length p3:Int)) λf=>.l (p3,p4,p5,p6,f)) (.t (p1==7) (.t (p1==7) (.c _ (eU 1000000 (length p4:Int)) λg=>.l (p3,p4,p5,p6,g)) (.c _ (Ui p5) λe=>.l (p3,p4,p5,p6,e))) (.t (p1==9) (.c _ (eU 1000000 (length p4:Int)) λa=>.l (p3,p4,p5,p6,a)) (.c _ (Ui p5) λb=>.l (p3,p4,p5,p6,b)))):Tr TZ)
def aGy(j:Y1)(f:List Y1)(i:Y1)(g b p e h:Int)(o:Y1):Tr TZ:=.c _ (MB j f i g b p e h o) λa=>.t (!a.2.1) (.l (j,f,i,g,([63]:List UInt8))) (.t (b==4) (.c _ (eU 1000000 e) λm=>.l (a.2.2.1,a.2.2.2.1,a.2.2.2.2,a.1,m)) (.t (b==5) (.c _ (eU 1000000 h) λn=>.l (a.2.2.1,a.2.2.2.1,a.2.2.2.2,a.1,n)) (.t (b==6) (DF b 6 a.2.2.1 a.2.2.2.1 a.2.2.2.2 a.1) (DF b 8 a.2.2.1 a.2.2.2.1 a.2.2.2.2 a.1))))
def kP j c i b f h a g e:=(aGy j c i b f h a g e).ev
abbrev Br{a b c d e:Type}(r:a×b×c×d×e):=(((r.1,r.2.1,r.2.2.1,r.2.2.2.1,()),r.2.2.2.2,()),())
def OC:FP prog:=aH cx func77 [aLw,T2,aJK] (yj [.agg oL,.agg UK]) [] [] (Fk aGy) ⟨[.fz 709,.fz 711,.fz 712],[.cell 4 29,.tmp 5],(yj [.agg oL,.dat .str]),[],[],[]⟩ Br
def aGl(e:Y1)(b:List Y1)(a:Y1)(g:Int):Tr (Int×Bool):=.c _ (Ke e b a g) λh=>.t (!h) (.l (0,false)) (.t ((length a:Int)==(0:Int)) (.l (0,false)) (.c _ (Q8 e b a) λf=>.l (f,true)))
def KA e c b a:=(aGl e c b a).ev
abbrev Az:RetK:=yr [.tmp 2,.tmp 3] (yj [.dat yi,.dat .bool])
abbrev dO{a b:Type}(r:a×b):=((r.1,r.2,()),())
def aJx:FP prog:=aH cx func191 [Ws,aDD] (yj [.agg oL]) [] [] (rX aGl) Az dO
def XX(e:Int)(b:Bool):Tr (List UInt8):=.t (!b) (.l ([63]:List UInt8)) (.c _ (eU 1000000 e) λa=>.l a)
def Jx b a:=(XX b a).ev
def aSw:FP prog:=aH cx func190 [T2] (yj [.dat yi,.dat .bool]) [] [] (dG XX) Cs bN
def Ew(k:Y1×Int×E3)(v:Int×Int):Tr (jI⊕Int):=.t (v.2<(length k.1:Int)) (.g (aC v.2 (length k.1))<|.g (aC v.2 (length k.2.2.2.2))<|.g (aC k.2.1 (length (getD k.2.2.2.2 (toNat v.2) [])))<|.c _ (Kh 0 (wrap .i64 ((getD k.1 (toNat v.2) 0) -(wrap .i64 (k.2.2.1*(getD (getD k.2.2.2.2 (toNat v.2) []) (toNat k.2.1) 0)))))) λa=>.l (.inl ((wrap .i64 (v.1+a)),(wrap .i64 (v.2+1))))) (.l (.inr v.1))
def aDe k v:=aB (λv=>(Ew k v).ev) v
abbrev WP:Keep:=yh [9] fK
abbrev TK{a b c d e g h i:Type}(t:(a×b×c×d)×(e×g×h)×i):=(t.1.1,t.1.2.1,t.1.2.2.1,t.2.1.1,t.2.1.2.1)
abbrev QJ{a b c d e g h i:Type}(t:(a×b×c×d×e×g×h)×i):=(t.1.2.2.2.2.1,t.1.2.2.2.2.2.1)
def aTF:LD:=yl (Ew) (yk [] [1,2,3,4,9,10] (yj [.dat y1,.dat yi,.dat yi,.box 4 0,.dat yi,.dat yi]) [(4,.cells Zv)]) [(0,WP)] aE (λk v=>((k.1,k.2.1,k.2.2.1,(),v.1,v.2,()),(k.2.2.2.1,k.2.2.2.2,()),())) TK QJ (λ_ r=>yx 0 WP ((r,()),()))
def PK(h:Y1)(b:List Y1)(f:Y1)(a e:Int):Tr Int:=.c _ (aDe (f,a,e,h,b) (0,0)) λg=>.l g
def Li f b e a c:=(PK f b e a c).ev
abbrev VI{a b c d e g h i:Type}{z:Type _}(f:a->b->d->e->g->z)(x:((a×b×c)×d×e×g×h)×i):z:=f x.1.1.1 x.1.1.2.1 x.1.2.1 x.1.2.2.1 x.1.2.2.2.1
def aGd:FP prog:=aH cx func333 [MZ] (yj [.agg Zv,.dat y1,.dat yi,.dat yi]) [] [] (VI PK) (yr [.tmp 8] fK) bN bU [(0,aTF)]
def G1(k:Y1×Int×E3)(v:Int×Int):Tr (jI⊕Int):=.t (v.2<(length k.2.2.2.1:Int)) (.g (aC k.2.1 (length k.2.2.2.2))<|.g (aC v.2 (length (getD k.2.2.2.2 (toNat k.2.1) [])))<|.t ((getD (getD k.2.2.2.2 (toNat k.2.1) []) (toNat v.2) 0)<=k.2.2.1) (.g (aC v.2 (length k.2.2.2.1))<|.c _ (Li k.2.2.2.1 k.2.2.2.2 k.1 v.2 1) λa=>.t (v.1<0) (.l (.inl ((wrap .i64 ((getD k.2.2.2.1 (toNat v.2) 0) -a)),(wrap .i64 (v.2+1))))) (.t ((wrap .i64 ((getD k.2.2.2.1 (toNat v.2) 0) -a))<v.1) (.l (.inl ((wrap .i64 ((getD k.2.2.2.1 (toNat v.2) 0) -a)),(wrap .i64 (v.2+1))))) (.l (.inl (v.1,(wrap .i64 (v.2+1))))))) (.t (v.1<0) (.l (.inl ((wrap .i64 ((getD (getD k.2.2.2.2 (toNat k.2.1) []) (toNat v.2) 0) -k.2.2.1)),(wrap .i64 (v.2+1))))) (.t ((wrap .i64 ((getD (getD k.2.2.2.2 (toNat k.2.1) []) (toNat v.2) 0) -k.2.2.1))<v.1) (.l (.inl ((wrap .i64 ((getD (getD k.2.2.2.2 (toNat k.2.1) []) (toNat v.2) 0) -k.2.2.1)),(wrap .i64 (v.2+1))))) (.l (.inl (v.1,(wrap .i64 (v.2+1)))))))) (.l (.inr v.1))
def aHC k v:=aB (λv=>(G1 k v).ev) v
abbrev VC:Keep:=yh [8] fK
abbrev FB{a b c d e g h i j:Type}(t:(a×b×c×d×e)×(g×h×i)×j):=(t.1.1,t.1.2.1,t.1.2.2.2.1,t.2.1.1,t.2.1.2.1)
def aMn:LD:=yl (G1) (yk [] [1,2,3,7,8,9] (yj [.dat y1,.dat yi,.box 3 0,.dat yi,.dat yi,.dat yi]) [(3,.cells Zv)]) [(0,VC)] aE (λk v=>((k.1,k.2.1,(),k.2.2.1,v.1,v.2,()),(k.2.2.2.1,k.2.2.2.2,()),())) FB QJ (λ_ r=>yx 0 VC ((r,()),()))
def aEv(h:Y1)(e:List Y1)(b:Y1)(a:Int):Tr Int:=.g (aC a (length b))<|.c _ (aHC (b,a,(getD b (toNat a) 0),h,e) ((-1),0)) λf=>.l f
def YA e c b a:=(aEv e c b a).ev
def aPd:FP prog:=aH cx func306 [aGd] (yj [.agg Zv,.dat y1,.dat yi]) [] [] (vO aEv) j9 bN bU [(0,aMn)]
def We(k:Int×Oc)(v:Int×Int):Tr (jI⊕Int):=.t (v.2<(length k.2.1:Int)) (.g (aC k.1 (length k.2.2.1))<|.g (aC v.2 (length (getD k.2.2.1 (toNat k.1) [])))<|.c _ (Td v.1 (getD (getD k.2.2.1 (toNat k.1) []) (toNat v.2) 0)) λa=>.l (.inl (a,(wrap .i64 (v.2+1))))) (.l (.inr v.1))
def aKR k v:=aB (λv=>(We k v).ev) v
abbrev RJ:Keep:=yk [] [1,3,4,5] (yj [.box 1 0,.arr 10,.dat yi,.dat yi]) [jY,(10,.arr 3 yi)]
abbrev QI{a b c d e g:Type}(k:a×b×c×d)(v:e×g):=(((),(),k.1,v.1,v.2,()),(k.2.1,k.2.2.1,()),k.2.2.2,())
abbrev VE{a b c d e g h i j:Type}(t:(a×b×c×d)×(e×g×h)×i×j):=(t.1.2.2.1,t.2.1.1,t.2.1.2.1,t.2.2.1)
def aSW:LD:=yl (We) (yk [] [1,3,4,5,6] (yj [.box 1 0,.arr 10,.dat yi,.dat yi,.dat yi]) [jY,(10,.arr 3 yi)]) [(2,RJ)] aE QI VE A1 (λk r=>yx 2 RJ (((),(),k.1,r,()),(k.2.1,k.2.2.1,()),k.2.2.2,()))
def DA(k:Y1×Y2)(v:Int×Y1):Tr (gR⊕Y1):=.t (v.1<(length k.2:Int)) (.g (aC v.1 (length k.2))<|.g (aC 0 (length (getD k.2 (toNat v.1) [])))<|.c _ (aKR (v.1,k.1,k.2,v.2) ((getD (getD k.2 (toNat v.1) []) (toNat 0) 0),0)) λa=>.g ((length v.2+length ([a]:Y1))*8<=140737488355328)<|.l (.inl ((wrap .i64 (v.1+1)),(v.2++([a]:Y1))))) (.l (.inr v.2))
def aDF k v:=aB (λv=>(DA k v).ev) v
abbrev TT:Keep:=yk [] [1,3] (yj [.box 1 0,.arr 10]) [jY,(10,.arr 3 yi)]
abbrev As{a b c d:Type}(k:a×b)(v:c×d):=(((),(),v.1,()),(k.1,k.2,()),v.2,())
abbrev L4{a b c d e g h:Type}(t:(a×b×c×d)×e×g×h):=(t.1.2.2.1,t.2.2.1)
def aQv:LD:=yl (DA) (yk [] [1,3,4] (yj [.box 1 0,.arr 10,.dat yi]) [jY,(10,.arr 3 yi)]) [(0,TT)] aE As E8 L4 (λk r=>yx 0 TT (((),(),()),(k.1,k.2,()),r,()))
def Lc(k:Y1×Y2)(v:Bool×gR):Tr ((Bool×gR)⊕D9):=.t (v.2.1<(length v.2.2:Int)) (.c _ (YA k.1 k.2 v.2.2 v.2.1) λa=>.t (0<a) (.g (aC v.2.1 (length v.2.2))<|.g ((toNat v.2.1)<length v.2.2)<|.g (aC v.2.1 (length v.2.2))<|.g ((toNat v.2.1)<length v.2.2)<|.l (.inl (true,(wrap .i64 (v.2.1+1)),(set v.2.2 (toNat v.2.1) (wrap .i64 ((getD v.2.2 (toNat v.2.1) 0)+a)))))) (.l (.inl (v.1,(wrap .i64 (v.2.1+1)),v.2.2)))) (.l (.inr (v.1,v.2.2)))
def aIS k v:=aB (λv=>(Lc k v).ev) v
abbrev FY:Keep:=yk [] [1,3,7] (yj [.box 1 0,.arr 10,.dat .bool]) [jY,(10,.arr 3 yi)]
def aQh:LD:=yl (Lc) (yk [] [1,3,7,8] (yj [.box 1 0,.arr 10,.dat .bool,.dat yi]) [jY,(10,.arr 3 yi)]) [(6,FY)] aE (λk v=>(((),(),v.1,v.2.1,()),(k.1,k.2,()),v.2.2,())) E8 (λt=>(t.1.2.2.1,t.1.2.2.2.1,t.2.2.1)) (λk r=>yx 6 FY (((),(),r.1,()),(k.1,k.2,()),r.2,()))
def S2(k:Y1×Y2)(v:Bool×Y1):Tr (D9⊕Y1):=.t v.1 (.c _ (aIS (k.1,k.2) (false,0,v.2)) λa=>.l (.inl (a.1,a.2))) (.l (.inr v.2))
def aLh k v:=aB (λv=>(S2 k v).ev) v
abbrev VU:Keep:=yk [] [3] (yj [.arr 10]) [(10,.arr 3 yi)]
def aOQ:LD:=yl (S2) FY [(4,VU)] aE As E8 L4 (λ_ r=>yx 4 VU (((),()),r,()))
def XJ(b:Y1)(a:List Y1):Tr Y1:=.c _ (aDF (b,a) (0,[])) λe=>.c _ (aLh (b,a) (true,e)) λf=>.l f
def NM b a:=(XJ b a).ev
def aLM:FP prog:=aH cx func260 [aBD,aPd] (yj [.agg Zv]) [] [] (jZ XJ) ⟨[.ren 10 0],[.tmp 2],C7,[tP],[],[]⟩ kQ bU [(2,aSW),(0,aQv),(6,aQh),(4,aOQ)]
def Wl(k:Y1)(v:Int×Int):Tr (jI⊕Int):=.t (v.2<(length k:Int)) (.g (aC v.2 (length k))<|.l (.inl ((wrap .i64 (v.1+(getD k (toNat v.2) 0))),(wrap .i64 (v.2+1))))) (.l (.inr v.1))
def aKU k v:=aB (λv=>(Wl k v).ev) v
abbrev Yy:Keep:=yh [0,3,4] (yj [.dat y1,.dat yi,.dat yi])
def aNv:LD:=yl (Wl) Yy [(0,jM)] aE r9 oG iV (λ_ r=>yx 0 jM ((r,()),()))
def aEG(b:Y1):Tr Int:=.c _ (aKU b (0,0)) λa=>.l a
def XQ a:=(aEG a).ev
def aOb:FP prog:=aH cx func259 [] Di [] [] (oM aEG) oB bN bU [(0,aNv)]
def XI(e:Y1)(a:List Y1)(i:Y1)(h:Int):Tr (Int×Bool):=.c _ (KA e a i h) λb=>.t (!b.2) (.l (0,false)) (.c _ (NM e a) λf=>.c _ (XQ f) λg=>.l ((wrap .i64 (b.1-g)),true))
def aCq e c b a:=(XI e c b a).ev
def aMC:FP prog:=aH cx func192 [aJx,aLM,aOb] (yj [.agg oL]) [] [] (rX XI) Az dO
def aCL(e:Y1)(a:List Y1)(b:Y1):Tr (Int×Bool):=.c _ (Ks e a b) λg=>.t (!g) (.l (0,false)) (.c _ (Uq e a b) λf=>.l (f,true))
def ZF c b a:=(aCL c b a).ev
abbrev Bj:RetK:=yr [.tmp 4,.tmp 5] (yj [.dat yi,.dat .bool])
def aML:FP prog:=aH cx func193 [IC,aCx] (yj [.agg Zv,.dat y1]) [] [] (bF aCL) Bj dO
def Zw(k:Y1×Y1×Y2)(v:Int×Int):Tr (jI⊕Int):=.t (v.2<(length k.2.2:Int)) (.c _ (JY k.2.1 k.2.2 v.2 k.1) λb=>.c _ (Kh v.1 b) λa=>.l (.inl (a,(wrap .i64 (v.2+1))))) (.l (.inr v.1))
def aKc k v:=aB (λv=>(Zw k v).ev) v
def aNP:LD:=yl (Zw) Wa [(0,oK)] aE Fu l7 uT (λ_ r=>yx 0 oK ((r,()),()))
def aBX(e:Y1)(b:List Y1)(a:Y1):Tr Int:=.c _ (aKc (a,e,b) (0,0)) λf=>.l f
def Zi c b a:=(aBX c b a).ev
def aLb:FP prog:=aH cx func263 [aHb,MZ] (yj [.agg Zv,.dat y1]) [] [] (bF aBX) lJ bN bU [(0,aNP)]
def XL(e:Y1)(a:List Y1)(b:Y1):Tr (Int×Bool):=.c _ (Ks e a b) λg=>.t (!g) (.l (0,false)) (.c _ (Zi e a b) λf=>.l (f,true))
def aDn c b a:=(XL c b a).ev
def aPe:FP prog:=aH cx func194 [IC,aLb] (yj [.agg Zv,.dat y1]) [] [] (bF XL) Bj dO
def Wc(k:Y1×Y1×Y2)(v:Int×Y1):Tr (gR⊕Y1):=.t (v.1<(length k.2.2:Int)) (.c _ (JV k.2.1 k.2.2 v.1 k.1) λa=>.g ((length v.2+length ([a]:Y1))*8<=140737488355328)<|.l (.inl ((wrap .i64 (v.1+1)),(v.2++([a]:Y1))))) (.l (.inr v.2))
def aKd k v:=aB (λv=>(Wc k v).ev) v
abbrev SU:Keep:=yk [] [6] (yj [.arr 8]) [(8,.arr 3 yi)]
abbrev UU{a b c d e g h i:Type}(t:(a×b×c×d×e)×g×h×i):=(t.1.2.2.2.1,t.2.2.1)
def aSh:LD:=yl (Wc) (yk [] [1,2,6,7] (yj [.dat y1,.box 2 0,.arr 8,.dat yi]) [zO,(8,.arr 3 yi)]) [(0,SU)] aE (λk v=>((k.1,(),(),v.1,()),(k.2.1,k.2.2,()),v.2,())) l7 UU (λ_ r=>yx 0 SU (((),()),r,()))
def aFW(e:Y1)(a:List Y1)(b:Y1):Tr D9:=.c _ (Ks e a b) λg=>.t (!g) (.l (false,[])) (.c _ (aKd (b,e,a) (0,[])) λf=>.l (true,f))
def aDY c b a:=(aFW c b a).ev
def aNf:FP prog:=aH cx func195 [IC,aLm] (yj [.agg Zv,.dat y1]) [] [] (bF aFW) ⟨[.ren 8 0],[.tmp 4,.tmp 5],Dq,[tP],[],[]⟩ gN bU [(0,aSh)]
def aBM(e:Y1)(b:Bool):Tr (List UInt8):=.t (!b) (.l ([63]:List UInt8)) (.c _ (Ui e) λa=>.l a)
def v6 b a:=(aBM b a).ev
def aHt:FP prog:=aH cx func126 [aJK] (yj [.dat y1,.dat .bool]) [] [] (dG aBM) Cs bN
def aBC(b:Y1)(a:List Y1):Tr (Bool×Bool):=.c _ (vM b a) λf=>.t (!f) (.l (false,false)) (.c _ (Qe b a) λe=>.l (e,true))
def aCP b a:=(aBC b a).ev
abbrev SQ:RetK:=yr [.tmp 2,.tmp 3] (yj [.dat .bool,.dat .bool])
def aTT:FP prog:=aH cx func197 [G2,aLl] (yj [.agg Zv]) [] [] (jZ aBC) SQ dO
def aLj(b a:Bool):Tr (List UInt8):=.t (!a) (.l ([63]:List UInt8)) (.t b (.l ([121,101,115]:List UInt8)) (.l ([110,111]:List UInt8)))
def aCT b a:=(aLj b a).ev
def aSd:FP prog:=aH cx func196 [] (yj [.dat .bool,.dat .bool]) [] [] (dG aLj) Cs bN
def GG(k:Y1)(v:(List UInt8)×Int):Tr (((List UInt8)×Int)⊕(List UInt8)):=.t (v.2<(length k:Int)) (.t (0<v.2) (.g (length v.1+length ([32]:List UInt8)<=9223372036854775807)<|.g (aC v.2 (length k))<|.c _ (eU 1000000 (getD k (toNat v.2) 0)) λa=>.g (length (v.1++([32]:List UInt8))+length a<=9223372036854775807)<|.l (.inl (((v.1++([32]:List UInt8))++a),(wrap .i64 (v.2+1))))) (.g (aC v.2 (length k))<|.c _ (eU 1000000 (getD k (toNat v.2) 0)) λb=>.g (length v.1+length b<=9223372036854775807)<|.l (.inl ((v.1++b),(wrap .i64 (v.2+1)))))) (.l (.inr v.1))
def aJE k v:=aB (λv=>(GG k v).ev) v
def aSo:LD:=yl (GG) UI [(0,M1)] aE r9 oG iV (λ_ r=>yx 0 M1 ((r,()),()))
def aBB(b:Y1):Tr (List UInt8):=.c _ (aJE b ([],0)) λa=>.l a
def PA a:=(aBB a).ev
def aQQ:FP prog:=aH cx func265 [T2] Di [] [] (oM aBB) O4 bN bU [(0,aSo)]
def Ys(k:Y1×Y2)(v:(List UInt8)×Int):Tr (((List UInt8)×Int)⊕(List UInt8)):=.t (v.2<(length k.2:Int)) (.g (length v.1+length ([32,47,32]:List UInt8)<=9223372036854775807)<|.g (aC v.2 (length k.2))<|.c _ (PA (getD k.2 (toNat v.2) [])) λa=>.g (length (v.1++([32,47,32]:List UInt8))+length a<=9223372036854775807)<|.l (.inl (((v.1++([32,47,32]:List UInt8))++a),(wrap .i64 (v.2+1))))) (.l (.inr v.1))
def aIy k v:=aB (λv=>(Ys k v).ev) v
abbrev US{a b c d:Type}(k:a×b)(v:c×d):=(((),v.1,v.2,()),(k.1,k.2,()),())
def aTa:LD:=yl (Ys) (yk [] [1,3,4] (yj [.box 1 0,.dat .str,.dat yi]) [jY]) [(0,M1)] aE US E8 iV (λ_ r=>yx 0 M1 ((r,()),()))
def aEk(a:Y1)(f:List Y1):Tr (List UInt8):=.c _ (PA a) λe=>.c _ (aIy (a,f) (e,0)) λb=>.l b
def JU b a:=(aEk b a).ev
def aNH:FP prog:=aH cx func198 [aQQ] (yj [.agg Zv]) [] [] (jZ aEk) O4 bN bU [(0,aTa)]
def aGz(b:Y1)(a:List Y1):Tr D9:=.c _ (vM b a) λf=>.t (!f) (.l (false,[])) (.c _ (NM b a) λe=>.l (true,e))
def aEt b a:=(aGz b a).ev
def aSI:FP prog:=aH cx func199 [G2,aLM] (yj [.agg Zv]) [] [] (jZ aGz) ⟨[.ren 7 0,.ren 576 0],[.tmp 2,.tmp 3],Dq,[tP],[],[]⟩ gN
def Zh(k:Y1×Y2)(v:Int×Int):Tr (jI⊕Int):=.t (v.2<(length k.1:Int)) (.g (aC v.2 (length k.1))<|.g (aC v.1 (length k.1))<|.t ((getD k.1 (toNat v.2) 0)<(getD k.1 (toNat v.1) 0)) (.l (.inl (v.2,(wrap .i64 (v.2+1))))) (.l (.inl (v.1,(wrap .i64 (v.2+1)))))) (.l (.inr v.1))
def aJN k v:=aB (λv=>(Zh k v).ev) v
def aTG:LD:=yl (Zh) Xm [(0,jM)] aE US E8 iV (λ_ r=>yx 0 jM ((r,()),()))
def aFR(e:Y1)(a:List Y1):Tr Int:=.c _ (aJN (e,a) (0,1)) λb=>.l b
def aAj b a:=(aFR b a).ev
def aSu:FP prog:=aH cx func266 [] (yj [.agg Zv]) [] [] (jZ aFR) oB bN bU [(0,aTG)]
def Vn(k:Int×Kt)(v:Int×Y1):Tr (gR⊕Y1):=.t (v.1<(length k.2.1:Int)) (.g (aC v.1 (length k.2.2.1))<|.t (getD k.2.2.1 (toNat v.1) false) (.g (aC v.1 (length k.2.1))<|.g ((length v.2+length ([(getD k.2.1 (toNat v.1) 0)]:Y1))*8<=140737488355328)<|.l (.inl ((wrap .i64 (v.1+1)),(v.2++([(getD k.2.1 (toNat v.1) 0)]:Y1))))) (.g ((length v.2+length ([k.1]:Y1))*8<=140737488355328)<|.l (.inl ((wrap .i64 (v.1+1)),(v.2++([k.1]:Y1)))))) (.l (.inr v.2))
def aLk k v:=aB (λv=>(Vn k v).ev) v
abbrev UP:Keep:=yk [] [3] (yj [.arr 6]) [(6,.arr 3 yi)]
abbrev Wb{a b c d e g h i:Type}(t:a×(b×c×d×e×g×h)×i):=(t.2.1.1,t.2.1.2.1,t.2.1.2.2.1,t.2.1.2.2.2.1,t.2.1.2.2.2.2.1)
def aOE:LD:=yl (Vn) (yk [] [1,3,4] (yj [.box 1 0,.arr 6,.dat yi]) [(1,.cells K7),(6,.arr 3 yi)]) [(0,UP)] aE (λk v=>(((),(),v.1,()),(k.1,k.2.1,k.2.2.1,k.2.2.2.1,k.2.2.2.2,()),v.2,())) Wb L4 (λ_ r=>yx 0 UP (((),()),r,()))
def YM(h:Int)(e:Y1)(g:List Bool)(b f:Y1):Tr Y1:=.c _ (aLk (h,e,g,b,f) (0,[])) λa=>.l a
def EI f b e a c:=(YM f b e a c).ev
def aIe:FP prog:=aH cx func334 [] (yj [.agg K7]) [] [] (An YM) ⟨[.ren 6 0],[.tmp 2],C7,[tP],[],[]⟩ kQ bU [(0,aOE)]
def aFp(_h:Int)(_e:Y1)(_i:List Bool)(_f a:Y1)(c b:Int):Tr Bool:=.g (aC c (length a))<|.g (aC b (length a))<|.t ((getD a (toNat c) 0)<(getD a (toNat b) 0)) (.l true) (.g (aC c (length a))<|.g (aC b (length a))<|.t ((getD a (toNat c) 0)==(getD a (toNat b) 0)) (.l (c<b)) (.l false))
def PO h c g b e f a:=(aFp h c g b e f a).ev
def aIu:FP prog:=aH cx func311 [] (yj [.agg K7,.dat yi,.dat yi]) [] [] ((λf x=>f x.1.1.1 x.1.1.2.1 x.1.1.2.2.1 x.1.1.2.2.2.1 x.1.1.2.2.2.2.1 x.1.2.1 x.1.2.2.1) aFp) Ck bN
def Ku(k:Int×Y1×(List Bool)×Y1×Y1×Y2×Int×gR)(v:Int×Y1):Tr (gR⊕Y1):=.t (v.1<(length k.2.2.2.2.1:Int)) (.g (aC v.1 (length v.2))<|.g ((toNat v.1)<length v.2)<|.t ((getD v.2 (toNat v.1) 0)<(0:Int)) (.c _ (Li k.2.2.2.2.1 k.2.2.2.2.2.1 k.2.2.2.2.2.2.2.2 v.1 2520) λa=>.g (aC v.1 (length k.2.2.2.2.1))<|.t (a==(wrap .i64 ((2520:Int)*(getD k.2.2.2.2.1 (toNat v.1) 0)))) (.g (aC v.1 (length v.2))<|.g ((toNat v.1)<length v.2)<|.l (.inl ((wrap .i64 (v.1+1)),(set v.2 (toNat v.1) k.2.2.2.2.2.2.1)))) (.l (.inl ((wrap .i64 (v.1+1)),v.2)))) (.l (.inl ((wrap .i64 (v.1+1)),v.2)))) (.l (.inr v.2))
def aJn k v:=aB (λv=>(Ku k v).ev) v
abbrev QL:Keep:=yk [] [1,2,3,4,5] (yj [.agg Rg,.box 2 0,.box 3 0,.box 4 0,.arr 704]) [xS,(65,.arr 4 .bool),(66,.arr 3 yi),(67,.arr 3 yi),zO,(3,.cells Rg),Zcq,(704,.arr 3 yi)]
def aOw:LD:=yl (Ku) (yk [] [1,2,3,4,5,6] (yj [.agg Rg,.box 2 0,.box 3 0,.box 4 0,.arr 704,.dat yi]) [xS,(65,.arr 4 .bool),(66,.arr 3 yi),(67,.arr 3 yi),zO,(3,.cells Rg),Zcq,(704,.arr 3 yi)]) [(0,QL)] aE (λk v=>(((k.1,(),(),(),(),()),(),(),(),(),v.1,()),k.2.1,k.2.2.1,k.2.2.2.1,v.2,(k.2.2.2.2.1,k.2.2.2.2.2.1,()),(k.2.2.2.2.2.2.1,(),(),(),(),()),(k.2.2.2.2.2.2.2.1,(),(),(),(),()),k.2.2.2.2.2.2.2.2,())) (λt=>(t.1.1.1,t.2.1,t.2.2.1,t.2.2.2.1,t.2.2.2.2.2.1.1,t.2.2.2.2.2.1.2.1,t.2.2.2.2.2.2.1.1,t.2.2.2.2.2.2.2.1.1,t.2.2.2.2.2.2.2.2.1)) aIg (λk r=>yx 0 QL (((k.1,(),(),(),(),()),(),(),(),(),()),k.2.1,k.2.2.1,k.2.2.2.1,r,(k.2.2.2.2.1,k.2.2.2.2.2.1,()),(k.2.2.2.2.2.2.1,(),(),(),(),()),(k.2.2.2.2.2.2.2.1,(),(),(),(),()),k.2.2.2.2.2.2.2.2,()))
def z8(k:Int×Int×Y1×(List Bool)×Y1×Y1×Y1×Y2×Int×gR)(v:Int×Int):Tr (jI⊕Int):=.t (v.2<(length k.2.2.2.2.2.2.1:Int)) (.g (aC k.2.1 (length k.2.2.2.1))<|.g ((toNat k.2.1)<length k.2.2.2.1)<|.t (!(getD k.2.2.2.1 (toNat k.2.1) false)) (.g (aC v.2 (length k.2.2.2.2.2.1))<|.g ((toNat v.2)<length k.2.2.2.2.2.1)<|.t ((0:Int)<=(getD k.2.2.2.2.2.1 (toNat v.2) 0)) (.g (aC k.2.1 (length k.2.2.2.2.2.2.2.1))<|.g (aC v.2 (length (getD k.2.2.2.2.2.2.2.1 (toNat k.2.1) [])))<|.t ((wrap .i64 ((2520:Int)*(getD (getD k.2.2.2.2.2.2.2.1 (toNat k.2.1) []) (toNat v.2) 0)))<=k.2.2.2.2.2.2.2.2.1) (.t (v.1<0) (.l (.inl (v.2,(wrap .i64 (v.2+1))))) (.c _ (PO k.2.2.2.2.2.2.2.2.1 k.2.2.1 k.2.2.2.1 k.2.2.2.2.1 k.2.2.2.2.2.1 v.2 v.1) λa=>.t a (.l (.inl (v.2,(wrap .i64 (v.2+1))))) (.l (.inl (v.1,(wrap .i64 (v.2+1))))))) (.l (.inl (v.1,(wrap .i64 (v.2+1)))))) (.l (.inl (v.1,(wrap .i64 (v.2+1)))))) (.l (.inr v.1))) (.l (.inr v.1))
def aHR k v:=aB (λv=>(z8 k v).ev) v
abbrev WR:Keep:=yk [] [1,2,3,4,5,7,8] (yj [.agg Rg,.box 2 0,.box 3 0,.box 4 0,.arr 704,.dat yi,.dat yi]) [xS,(65,.arr 4 .bool),(66,.arr 3 yi),(67,.arr 3 yi),zO,(3,.cells Rg),Zcq,(704,.arr 3 yi)]
def aQb:LD:=yl (z8) (yk [] [1,2,3,4,5,7,8,9] (yj [.agg Rg,.box 2 0,.box 3 0,.box 4 0,.arr 704,.dat yi,.dat yi,.dat yi]) [xS,(65,.arr 4 .bool),(66,.arr 3 yi),(67,.arr 3 yi),zO,(3,.cells Rg),Zcq,(704,.arr 3 yi)]) [(4,WR)] aE (λk v=>(((k.1,(),(),(),(),()),(),(),(),(),k.2.1,v.1,v.2,()),k.2.2.1,k.2.2.2.1,k.2.2.2.2.1,k.2.2.2.2.2.1,(k.2.2.2.2.2.2.1,k.2.2.2.2.2.2.2.1,()),(k.2.2.2.2.2.2.2.2.1,(),(),(),(),()),(k.2.2.2.2.2.2.2.2.2.1,(),(),(),(),()),k.2.2.2.2.2.2.2.2.2.2,())) (λt=>(t.1.1.1,t.1.2.2.2.2.2.1,t.2.1,t.2.2.1,t.2.2.2.1,t.2.2.2.2.1,t.2.2.2.2.2.1.1,t.2.2.2.2.2.1.2.1,t.2.2.2.2.2.2.1.1,t.2.2.2.2.2.2.2.1.1,t.2.2.2.2.2.2.2.2.1)) (λt=>(t.1.2.2.2.2.2.2.1,t.1.2.2.2.2.2.2.2.1)) (λk r=>yx 4 WR (((k.1,(),(),(),(),()),(),(),(),(),k.2.1,r,()),k.2.2.1,k.2.2.2.1,k.2.2.2.2.1,k.2.2.2.2.2.1,(k.2.2.2.2.2.2.1,k.2.2.2.2.2.2.2.1,()),(k.2.2.2.2.2.2.2.2.1,(),(),(),(),()),(k.2.2.2.2.2.2.2.2.2.1,(),(),(),(),()),k.2.2.2.2.2.2.2.2.2.2,()))
def Q1(k:Int×Y1×Y1×Y2×Int×gR)(v:Int×Y1×(List Bool)×Y1):Tr ((Int×Y1×(List Bool)×Y1)⊕(Y1×(List Bool)×Y1)):=.t (v.1<(length k.2.2.2.2.2.2:Int)) (.c _ (aHR (k.1,v.1,v.2.1,v.2.2.1,v.2.2.2,k.2.1,k.2.2.1,k.2.2.2.1,k.2.2.2.2.1,k.2.2.2.2.2.1,k.2.2.2.2.2.2) ((-1),0)) λa=>.t (0<=a) (.g (aC v.1 (length v.2.1))<|.g ((toNat v.1)<length v.2.1)<|.g (aC v.1 (length v.2.2.1))<|.g ((toNat v.1)<length v.2.2.1)<|.g (aC v.1 (length v.2.2.2))<|.g ((toNat v.1)<length v.2.2.2)<|.l (.inl ((wrap .i64 (v.1+1)),(set v.2.1 (toNat v.1) k.2.2.2.2.1),(set v.2.2.1 (toNat v.1) true),(set v.2.2.2 (toNat v.1) a)))) (.l (.inl ((wrap .i64 (v.1+1)),v.2.1,v.2.2.1,v.2.2.2)))) (.l (.inr (v.2.1,v.2.2.1,v.2.2.2)))
def aLa k v:=aB (λv=>(Q1 k v).ev) v
abbrev SV:Keep:=yk [] [1,3,4] (yj [.agg Rg,.box 3 0,.box 4 0]) [xS,(65,.arr 4 .bool),(66,.arr 3 yi),(67,.arr 3 yi),(3,.cells Rg),Zcq]
def aST:LD:=yl (Q1) (yk [] [1,2,3,4,5,7] (yj [.agg Rg,.box 2 0,.box 3 0,.box 4 0,.arr 704,.dat yi]) [xS,(65,.arr 4 .bool),(66,.arr 3 yi),(67,.arr 3 yi),zO,(3,.cells Rg),Zcq,(704,.arr 3 yi)]) [(2,SV)] aE (λk v=>(((k.1,(),(),(),(),()),(),(),(),(),v.1,()),v.2.1,v.2.2.1,v.2.2.2,k.2.1,(k.2.2.1,k.2.2.2.1,()),(k.2.2.2.2.1,(),(),(),(),()),(k.2.2.2.2.2.1,(),(),(),(),()),k.2.2.2.2.2.2,())) (λt=>(t.1.1.1,t.2.2.2.2.1,t.2.2.2.2.2.1.1,t.2.2.2.2.2.1.2.1,t.2.2.2.2.2.2.1.1,t.2.2.2.2.2.2.2.1.1,t.2.2.2.2.2.2.2.2.1)) (λt=>(t.1.2.2.2.2.2.1,t.2.1,t.2.2.1,t.2.2.2.1)) (λk r=>yx 2 SV (((k.1,(),(),(),(),()),(),(),()),r.1,r.2.1,r.2.2,k.2.1,(k.2.2.2.2.1,(),(),(),(),()),(k.2.2.2.2.2.1,(),(),(),(),()),()))
def aED(n:Y1)(j:List Y1)(a:Int)(b:Y1)(e:List Bool)(g i:Y1):Tr (Int×Kt):=.c _ (EI a b e g i) λm=>.c _ (aJn (a,b,e,g,n,j,a,0,m) (0,i)) λh=>.c _ (aLa (a,h,n,j,a,0,m) (0,b,e,g)) λf=>.l (a,f.1,f.2.1,f.2.2,h)
def OJ h c g b e f a:=(aED h c g b e f a).ev
abbrev WC{a b c d e:Type}(r:a×b×c×d×e):=(((r.1,(),(),(),(),()),()),r.2.1,r.2.2.1,r.2.2.2.1,r.2.2.2.2,())
def aMJ:FP prog:=aH cx func308 [aIe,aGd,aIu] (yj [.agg Zv,.agg Rg]) [xS,(65,.arr 4 .bool),(66,.arr 3 yi),(67,.arr 3 yi)] [.comp 1 1,.comp 1 2,.comp 1 3,.comp 1 4] ((λf x=>f x.1.1.1 x.1.1.2.1 x.1.2.1.1 x.2.1 x.2.2.1 x.2.2.2.1 x.2.2.2.2.1) aED) ⟨[.ren 64 1,.ren 65 2,.ren 66 5,.ren 67 6],[.cell 4 223],(yj [.agg (yj [.dat yi,.arr 1,.arr 2,.arr 5,.arr 6])]),[(1,.arr 3 yi),(2,.arr 4 .bool),(5,.arr 3 yi),(6,.arr 3 yi)],[],[64,65,66,67]⟩ WC bU [(0,aOw),(4,aQb),(2,aST)]
def Sa(k:Int×Kt)(v:Int):Tr (Int⊕(Unit⊕Unit)):=.t (v<(length k.2.2.1:Int)) (.g (aC v (length k.2.2.1))<|.t (!(getD k.2.2.1 (toNat v) false)) (.l (.inr (.inr ()))) (.l (.inl (wrap .i64 (v+1))))) (.l (.inr (.inl ())))
def aIN k v:=aB (λv=>(Sa k v).ev) v
def aSC:LD:=yl (Sa) (yk [] [1,3] (yj [.box 1 0,.dat yi]) [(1,.cells K7)]) [(0,aE)] uG (λk v=>(((),v,()),(k.1,k.2.1,k.2.2.1,k.2.2.2.1,k.2.2.2.2,()),())) Wb NV (λ_ r=>.s _ _ r (λ_=>yx 0 aE ((),())) (λ_=>yz uG ((true,()),())))
def ZZ(h:Int)(e:Y1)(g:List Bool)(b f:Y1):Tr Bool:=.c _ (aIN (h,e,g,b,f) 0) λa=>.s _ _ a (λ_=>.l false) (λ_=>.l true)
def aEB f b e a c:=(ZZ f b e a c).ev
def aPo:FP prog:=aH cx func309 [] (yj [.agg K7]) [] [] (An ZZ) Dt bN bU [(0,aSC)]
def W2(k:Int×Y1×Y2×Int×Kt)(v:Int×Int):Tr (jI⊕Int):=.t (v.2<(length k.2.1:Int)) (.g (aC k.1 (length k.2.2.1))<|.g (aC v.2 (length (getD k.2.2.1 (toNat k.1) [])))<|.g (aC k.1 (length k.2.2.2.2.2.1))<|.t (!(getD k.2.2.2.2.2.1 (toNat k.1) false)) (.t (k.2.2.2.1<(wrap .i64 ((2520:Int)*(getD (getD k.2.2.1 (toNat k.1) []) (toNat v.2) 0)))) (.t (v.1<0) (.l (.inl ((wrap .i64 ((2520:Int)*(getD (getD k.2.2.1 (toNat k.1) []) (toNat v.2) 0))),(wrap .i64 (v.2+1))))) (.t ((wrap .i64 ((2520:Int)*(getD (getD k.2.2.1 (toNat k.1) []) (toNat v.2) 0)))<v.1) (.l (.inl ((wrap .i64 ((2520:Int)*(getD (getD k.2.2.1 (toNat k.1) []) (toNat v.2) 0))),(wrap .i64 (v.2+1))))) (.l (.inl (v.1,(wrap .i64 (v.2+1))))))) (.l (.inl (v.1,(wrap .i64 (v.2+1)))))) (.l (.inl (v.1,(wrap .i64 (v.2+1)))))) (.l (.inr v.1))
def aHF k v:=aB (λv=>(W2 k v).ev) v
abbrev Xo:Keep:=yk [] [2,3,5,6] (yj [.box 2 0,.box 3 0,.dat yi,.dat yi]) [zO,(3,.cells K7)]
abbrev aOu{a b c d e g h i j l m n o p q:Type}(t:(a×b×c×d×e)×(g×h×i)×(j×l×m×n×o×p)×q):=(t.1.2.2.2.1,t.2.1.1,t.2.1.2.1,t.2.2.1.1,t.2.2.1.2.1,t.2.2.1.2.2.1,t.2.2.1.2.2.2.1,t.2.2.1.2.2.2.2.1)
abbrev aGB{a b c d e g h:Type}(t:(a×b×c×d×e×g)×h):=(t.1.2.2.1,t.1.2.2.2.2.1)
def aQd:LD:=yl (W2) (yk [] [2,3,5,6,7] (yj [.box 2 0,.box 3 0,.dat yi,.dat yi,.dat yi]) [zO,(3,.cells K7)]) [(2,Xo)] aE (λk v=>(((),(),v.1,k.1,v.2,()),(k.2.1,k.2.2.1,()),(k.2.2.2.1,k.2.2.2.2.1,k.2.2.2.2.2.1,k.2.2.2.2.2.2.1,k.2.2.2.2.2.2.2,()),())) aOu aGB (λk r=>yx 2 Xo (((),(),r,k.1,()),(k.2.1,k.2.2.1,()),(k.2.2.2.1,k.2.2.2.2.1,k.2.2.2.2.2.1,k.2.2.2.2.2.2.1,k.2.2.2.2.2.2.2,()),()))
def FX(k:Y1×Y2×Int×Kt)(v:Int×Int):Tr (jI⊕Int):=.t (v.2<(length k.2.1:Int)) (.c _ (aHF (v.2,k.1,k.2.1,k.2.2.1,k.2.2.2.1,k.2.2.2.2.1,k.2.2.2.2.2.1,k.2.2.2.2.2.2) (v.1,0)) λa=>.l (.inl (a,(wrap .i64 (v.2+1))))) (.l (.inr v.1))
def aLp k v:=aB (λv=>(FX k v).ev) v
def aPH:LD:=yl (FX) Xo [(0,oK)] aE (λk v=>(((),(),v.1,v.2,()),(k.1,k.2.1,()),(k.2.2.1,k.2.2.2.1,k.2.2.2.2.1,k.2.2.2.2.2.1,k.2.2.2.2.2.2,()),())) (λt=>(t.2.1.1,t.2.1.2.1,t.2.2.1.1,t.2.2.1.2.1,t.2.2.1.2.2.1,t.2.2.1.2.2.2.1,t.2.2.1.2.2.2.2.1)) uT (λ_ r=>yx 0 oK ((r,()),()))
def aFJ(j:Y1)(e:List Y1)(i:Int)(f:Y1)(g:List Bool)(h b:Y1):Tr Int:=.c _ (aLp (j,e,i,f,g,h,b) ((-1),0)) λa=>.l a
def aEm h c g b e f a:=(aFJ h c g b e f a).ev
abbrev WD{a b c d e g h i j l m:Type}{z:Type _}(f:a->b->d->e->g->h->i->z)(x:((a×b×c)×(d×e×g×h×i×j)×l)×m):z:=f x.1.1.1 x.1.1.2.1 x.1.2.1.1 x.1.2.1.2.1 x.1.2.1.2.2.1 x.1.2.1.2.2.2.1 x.1.2.1.2.2.2.2.1
def aRf:FP prog:=aH cx func335 [] (yj [.agg Zv,.agg K7]) [] [] (WD aFJ) lJ bN bU [(2,aQd),(0,aPH)]
def Hu(k:Int×Y1×Y2×Int×Kt)(v:Int×Int):Tr (jI⊕Int):=.t (v.2<(length k.2.2.1:Int)) (.g (aC v.2 (length k.2.2.2.2.2.1))<|.t (!(getD k.2.2.2.2.2.1 (toNat v.2) false)) (.g (aC v.2 (length k.2.2.1))<|.g (aC k.1 (length (getD k.2.2.1 (toNat v.2) [])))<|.t ((wrap .i64 ((2520:Int)*(getD (getD k.2.2.1 (toNat v.2) []) (toNat k.1) 0)))<=k.2.2.2.1) (.l (.inl ((wrap .i64 (v.1+1)),(wrap .i64 (v.2+1))))) (.l (.inl (v.1,(wrap .i64 (v.2+1)))))) (.l (.inl (v.1,(wrap .i64 (v.2+1)))))) (.l (.inr v.1))
def aKz k v:=aB (λv=>(Hu k v).ev) v
def aMG:LD:=yl (Hu) (yk [] [2,3,4,7,8] (yj [.dat yi,.box 3 0,.box 4 0,.dat yi,.dat yi]) [(3,.cells Zv),(4,.cells K7)]) [(0,rY)] aE (λk v=>((k.1,(),(),v.1,v.2,()),(k.2.1,k.2.2.1,()),(k.2.2.2.1,k.2.2.2.2.1,k.2.2.2.2.2.1,k.2.2.2.2.2.2.1,k.2.2.2.2.2.2.2,()),())) (λt=>(t.1.1,t.2.1.1,t.2.1.2.1,t.2.2.1.1,t.2.2.1.2.1,t.2.2.1.2.2.1,t.2.2.1.2.2.2.1,t.2.2.1.2.2.2.2.1)) A1 (λ_ r=>yx 0 rY ((r,()),()))
def aCt(m:Y1)(e:List Y1)(j:Int)(f:Y1)(g:List Bool)(i b:Y1)(h:Int):Tr Int:=.c _ (aKz (h,m,e,j,f,g,i,b) (0,0)) λa=>.l a
def aEw i c h b e g a f:=(aCt i c h b e g a f).ev
def aRg:FP prog:=aH cx func336 [] (yj [.agg Zv,.agg K7,.dat yi]) [] [] ((λf x=>f x.1.1.1 x.1.1.2.1 x.1.2.1.1 x.1.2.1.2.1 x.1.2.1.2.2.1 x.1.2.1.2.2.2.1 x.1.2.1.2.2.2.2.1 x.1.2.2.1) aCt) j9 bN bU [(0,aMG)]
def T4(k:Y1×Y2×Int×Y1×(List Bool)×Ll)(v:Int×Int):Tr (jI⊕Int):=.t (v.2<(length k.1:Int)) (.c _ (aEw k.1 k.2.1 k.2.2.1 k.2.2.2.1 k.2.2.2.2.1 k.2.2.2.2.2.1 k.2.2.2.2.2.2.1 v.2) λa=>.g (aC v.2 (length k.1))<|.c _ (Li k.1 k.2.1 k.2.2.2.2.2.2.2 v.2 2520) λb=>.g (aC v.2 (length k.2.2.2.2.2.2.1))<|.t ((getD k.2.2.2.2.2.2.1 (toNat v.2) 0)<(0:Int)) (.t (0<a) (.t (v.1<0) (.g (!decide (a=0))<|.l (.inl ((wrap .i64 (k.2.2.1+(wrap .i64 (Int.tdiv (wrap .i64 ((wrap .i64 ((2520:Int)*(getD k.1 (toNat v.2) 0))) -b)) a)))),(wrap .i64 (v.2+1))))) (.t ((wrap .i64 ((wrap .i64 ((2520:Int)*(getD k.1 (toNat v.2) 0))) -b))<(wrap .i64 (a*(wrap .i64 (v.1-k.2.2.1))))) (.g (!decide (a=0))<|.l (.inl ((wrap .i64 (k.2.2.1+(wrap .i64 (Int.tdiv (wrap .i64 ((wrap .i64 ((2520:Int)*(getD k.1 (toNat v.2) 0))) -b)) a)))),(wrap .i64 (v.2+1))))) (.l (.inl (v.1,(wrap .i64 (v.2+1))))))) (.l (.inl (v.1,(wrap .i64 (v.2+1)))))) (.l (.inl (v.1,(wrap .i64 (v.2+1)))))) (.l (.inr v.1))
def aJh k v:=aB (λv=>(T4 k v).ev) v
def aOy:LD:=yl (T4) (yk [] [2,3,5,6,7] (yj [.box 2 0,.box 3 0,.dat yi,.arr 896,.dat yi]) [zO,(3,.cells K7),(896,.arr 3 yi)]) [(0,oK)] aE (λk v=>(((),(),v.1,(),v.2,()),(k.1,k.2.1,()),(k.2.2.1,k.2.2.2.1,k.2.2.2.2.1,k.2.2.2.2.2.1,k.2.2.2.2.2.2.1,()),k.2.2.2.2.2.2.2,())) (λt=>(t.2.1.1,t.2.1.2.1,t.2.2.1.1,t.2.2.1.2.1,t.2.2.1.2.2.1,t.2.2.1.2.2.2.1,t.2.2.1.2.2.2.2.1,t.2.2.2.1)) aGB (λ_ r=>yx 0 oK ((r,()),()))
def aFV(i:Y1)(h:List Y1)(g:Int)(b:Y1)(e:List Bool)(f a:Y1):Tr Int:=.c _ (aEm i h g b e f a) λn=>.c _ (EI g b e f a) λj=>.c _ (aJh (i,h,g,b,e,f,a,j) (n,0)) λm=>.l m
def aDC h c g b e f a:=(aFV h c g b e f a).ev
def aOG:FP prog:=aH cx func310 [aRf,aIe,aRg,aGd] (yj [.agg Zv,.agg K7]) [] [] (WD aFV) lJ bN bU [(0,aOy)]
def EZ(k:Y1×Y2×Int×Int×Y1×Y1×Y1×Y1×(List Bool)×Y1)(v:Int×Y1):Tr (gR⊕Y1):=.t (v.1<(length k.1:Int)) (.g ((length v.2+length ([(-1)]:Y1))*8<=140737488355328)<|.l (.inl ((wrap .i64 (v.1+1)),(v.2++([(-1)]:Y1))))) (.l (.inr v.2))
def aIc k v:=aB (λv=>(EZ k v).ev) v
abbrev WF:Keep:=yk [] [1,2,3] (yj [.box 1 0,.box 2 0,.box 3 0]) [jY,Zcu,(3,.cells (yj [.dat yi,.arr 8,.arr 12,.arr 16,.arr 900334])),(900321,.arr 3 yi),(900323,.arr 3 yi),(900324,.arr 3 yi),(8,.arr 3 yi),(12,.arr 4 .bool),(16,.arr 3 yi),(900334,.arr 3 yi)]
def aMk:LD:=yl (EZ) (yk [.ownB 2 1 900321 3 yi,.ownB 2 3 900323 3 yi,.ownB 2 4 900324 3 yi,.ownB 3 4 900334 3 yi] [1,2,3,4] (yj [.box 1 0,.box 2 0,.box 3 0,.dat yi]) [jY,Zcu,(3,.cells (yj [.dat yi,.arr 8,.arr 12,.arr 16,.arr 900334])),(900321,.arr 3 yi),(900323,.arr 3 yi),(900324,.arr 3 yi),(8,.arr 3 yi),(12,.arr 4 .bool),(16,.arr 3 yi),(900334,.arr 3 yi)]) [(0,WF)] aE (λk v=>(((),(),(),v.1,()),(k.1,k.2.1,()),(k.2.2.1,(),(),(),(),()),(k.2.2.2.1,(),(),(),(),()),k.2.2.2.2.1,k.2.2.2.2.2.1,k.2.2.2.2.2.2.1,k.2.2.2.2.2.2.2.1,k.2.2.2.2.2.2.2.2.1,k.2.2.2.2.2.2.2.2.2,v.2,())) (λt=>(t.2.1.1,t.2.1.2.1,t.2.2.1.1,t.2.2.2.1.1,t.2.2.2.2.1,t.2.2.2.2.2.1,t.2.2.2.2.2.2.1,t.2.2.2.2.2.2.2.1,t.2.2.2.2.2.2.2.2.1,t.2.2.2.2.2.2.2.2.2.1)) (λt=>(t.1.2.2.2.1,t.2.2.2.2.2.2.2.2.2.2.1)) (λk r=>yx 0 WF (((),(),(),()),(k.1,k.2.1,()),(k.2.2.1,(),(),(),(),()),(k.2.2.2.1,(),(),(),(),()),k.2.2.2.2.1,k.2.2.2.2.2.1,k.2.2.2.2.2.2.1,k.2.2.2.2.2.2.2.1,k.2.2.2.2.2.2.2.2.1,k.2.2.2.2.2.2.2.2.2,r,()))
def Rj(k:Y1×Y2×Int×Ll)(v:Int×Kt):Tr ((Int×Kt)⊕(Int×Kt)):=.c _ (aEB v.1 v.2.1 v.2.2.1 v.2.2.2.1 v.2.2.2.2) λe=>.t e (.c _ (aDC k.1 k.2.1 v.1 v.2.1 v.2.2.1 v.2.2.2.1 v.2.2.2.2) λb=>.c _ (OJ k.1 k.2.1 b v.2.1 v.2.2.1 v.2.2.2.1 v.2.2.2.2) λa=>.l (.inl (a.1,a.2.1,a.2.2.1,a.2.2.2.1,a.2.2.2.2))) (.l (.inr (v.1,v.2.1,v.2.2.1,v.2.2.2.1,v.2.2.2.2)))
def LB k v:=aB (λv=>(Rj k v).ev) v
abbrev RX:Keep:=yk [] [2,3] (yj [.box 2 0,.box 3 0]) [Zcu,(3,.cells (yj [.dat yi,.arr 902631,.arr 902632,.arr 902633,.arr 902634])),(900321,.arr 3 yi),(900323,.arr 3 yi),(900324,.arr 3 yi),(902631,.arr 3 yi),(902632,.arr 4 .bool),(902633,.arr 3 yi),(902634,.arr 3 yi)]
abbrev aOO{a b c d e g h i j l m n o:Type}(t:a×b×c×(d×e)×g×h×i×j×l×m×n×o):=(t.2.2.2.1.1,t.2.2.2.2.2.2.2.1,t.2.2.2.2.2.2.2.2.1,t.2.2.2.2.2.2.2.2.2.1,t.2.2.2.2.2.2.2.2.2.2.1)
def aRA:LD:=yl (Rj) (yk [.repB 3 1 902631,.repB 3 2 902632,.repB 3 3 902633,.repB 3 4 902634] [1,2,3] (yj [.box 1 0,.box 2 0,.box 3 0]) [jY,Zcu,(3,.cells (yj [.dat yi,.arr 902631,.arr 902632,.arr 902633,.arr 902634])),(900321,.arr 3 yi),(900323,.arr 3 yi),(900324,.arr 3 yi),(902631,.arr 3 yi),(902632,.arr 4 .bool),(902633,.arr 3 yi),(902634,.arr 3 yi)]) [(2,RX)] aE (λk v=>(((),(),(),()),(k.1,k.2.1,()),(k.2.2.1,(),(),(),(),()),(v.1,(),(),(),(),()),k.2.2.2.1,k.2.2.2.2.1,k.2.2.2.2.2,v.2.1,v.2.2.1,v.2.2.2.1,v.2.2.2.2,())) (λt=>(t.2.1.1,t.2.1.2.1,t.2.2.1.1,t.2.2.2.2.1,t.2.2.2.2.2.1,t.2.2.2.2.2.2.1)) aOO (λk r=>yx 2 RX (((),(),()),(k.2.2.1,(),(),(),(),()),(r.1,(),(),(),(),()),k.2.2.2.1,k.2.2.2.2.1,k.2.2.2.2.2,r.2.1,r.2.2.1,r.2.2.2.1,r.2.2.2.2,()))
def ZD(f:Y1)(a:List Y1):Tr (Int×Kt):=.g (((0:Int)<=(length a:Int))&&((length a:Int)<=(length a:Int))&&(((8:Nat):Int)*(length a:Int)<=281474976710656))<|.g (((0:Int)<=(length a:Int))&&((length a:Int)<=(length a:Int))&&(((1:Nat):Int)*(length a:Int)<=281474976710656))<|.g (((0:Int)<=(length a:Int))&&((length a:Int)<=(length a:Int))&&(((8:Nat):Int)*(length a:Int)<=281474976710656))<|.c _ (aIc (f,a,0,0,[],[],[],(List.replicate (toNat (length a:Int)) 0),(List.replicate (toNat (length a:Int)) false),(List.replicate (toNat (length a:Int)) 0)) (0,[])) λh=>.c _ (OJ f a 0 (List.replicate (toNat (length a:Int)) 0) (List.replicate (toNat (length a:Int)) false) (List.replicate (toNat (length a:Int)) 0) h) λb=>.c _ (LB (f,a,0,[],[],[]) (b.1,b.2.1,b.2.2.1,b.2.2.2.1,b.2.2.2.2)) λe=>.l (e.1,e.2.1,e.2.2.1,e.2.2.2.1,e.2.2.2.2)
def aDa b a:=(ZD b a).ev
abbrev aRJ:RetK:=⟨[.ren 902631 1,.ren 902632 4,.ren 902633 5,.ren 902634 6],[.cell 2 223],(yj [.agg (yj [.dat yi,.arr 1,.arr 4,.arr 5,.arr 6])]),[(1,.arr 3 yi),(4,.arr 4 .bool),(5,.arr 3 yi),(6,.arr 3 yi)],[],[]⟩
def aSK:FP prog:=aH cx func267 [aMJ,aPo,aOG] (yj [.agg Zv]) [] [] (jZ ZD) aRJ WC bU [(0,aMk),(2,aRA)]
def Qm(k:Y1×Int×Int×Kt)(v:Int):Tr (Int⊕Int):=.t (v<(length k.1:Int)) (.g (aC v (length k.1))<|.c _ (PO k.2.2.1 k.2.2.2.1 k.2.2.2.2.1 k.2.2.2.2.2.1 k.2.2.2.2.2.2 k.2.1 (getD k.1 (toNat v) 0)) λa=>.t (!a) (.l (.inl (wrap .i64 (v+1)))) (.l (.inr v))) (.l (.inr v))
def YO k v:=aB (λv=>(Qm k v).ev) v
abbrev Xj:Keep:=yk [] [1,3,4,5] (yj [.box 1 0,.dat y1,.dat yi,.dat yi]) [(1,.cells K7)]
def aOa:LD:=yl (Qm) Xj [(2,Xj)] aE (λk v=>(((),k.1,k.2.1,v,()),(k.2.2.1,k.2.2.2.1,k.2.2.2.2.1,k.2.2.2.2.2.1,k.2.2.2.2.2.2,()),())) (λt=>(t.1.2.1,t.1.2.2.1,t.2.1.1,t.2.1.2.1,t.2.1.2.2.1,t.2.1.2.2.2.1,t.2.1.2.2.2.2.1)) rQ (λk r=>yx 2 Xj (((),k.1,k.2.1,r,()),(k.2.2.1,k.2.2.2.1,k.2.2.2.2.1,k.2.2.2.2.2.1,k.2.2.2.2.2.2,()),()))
def Tk(k:Int×Kt)(v:Y1×Int):Tr ((Y1×Int)⊕Y1):=.t (v.2<(length k.2.2.2.2:Int)) (.g (aC v.2 (length k.2.2.2.2))<|.t ((getD k.2.2.2.2 (toNat v.2) 0)<(0:Int)) (.l (.inl (v.1,(wrap .i64 (v.2+1))))) (.c _ (YO (v.1,v.2,k.1,k.2.1,k.2.2.1,k.2.2.2.1,k.2.2.2.2) 0) λa=>.g ((0<=a)&&(a<=(length v.1:Int)))<|.c _ (pO (List.drop 0 (List.take (toNat a) v.1))) λb=>.g ((length b+length ([v.2]:Y1))*8<=140737488355328)<|.g ((0<=a)&&(a<=(length v.1:Int)))<|.g ((length (b++([v.2]:Y1))+length (List.drop (toNat a) (List.take (length v.1) v.1)))*8<=140737488355328)<|.l (.inl (((b++([v.2]:Y1))++(List.drop (toNat a) (List.take (length v.1) v.1))),(wrap .i64 (v.2+1)))))) (.l (.inr v.1))
def aGW k v:=aB (λv=>(Tk k v).ev) v
abbrev VV:Keep:=yh [3] Di
def aOe:LD:=yl (Tk) (yk [.fz 6,.fz 2496] [1,3,4] (yj [.box 1 0,.dat y1,.dat yi]) [(1,.cells K7)]) [(0,VV)] aE (λk v=>(((),v.1,v.2,()),(k.1,k.2.1,k.2.2.1,k.2.2.2.1,k.2.2.2.2,()),())) Wb iV (λ_ r=>yx 0 VV ((r,()),()))
def aFZ(h:Int)(b:Y1)(g:List Bool)(e f:Y1):Tr Y1:=.c _ (aGW (h,b,g,e,f) ([],0)) λa=>.l a
def aEx f b e a c:=(aFZ f b e a c).ev
def aMd:FP prog:=aH cx func268 [aIu,Ar] (yj [.agg K7]) [] [] (An aFZ) TQ bN (E6 [(9,[(0,[3])])]) [(2,aOa),(0,aOe)]
def Gx(k:Int×Int×Y1×Y2×Int×Kt)(v:Int):Tr (Int⊕(Unit⊕Bool)):=.t (v<(length k.2.2.2.1:Int)) (.g (aC v (length k.2.2.2.2.2.1))<|.g (aC v (length k.2.2.2.1))<|.g (aC k.1 (length (getD k.2.2.2.1 (toNat v) [])))<|.t ((wrap .i64 ((2520:Int)*(getD (getD k.2.2.2.1 (toNat v) []) (toNat k.1) 0)))<(getD k.2.2.2.2.2.1 (toNat v) 0)) (.g (aC v (length k.2.2.2.2.2.1))<|.g (aC v (length k.2.2.2.1))<|.g (aC k.2.1 (length (getD k.2.2.2.1 (toNat v) [])))<|.t ((wrap .i64 ((2520:Int)*(getD (getD k.2.2.2.1 (toNat v) []) (toNat k.2.1) 0)))<(getD k.2.2.2.2.2.1 (toNat v) 0)) (.g (aC k.1 (length k.2.2.2.2.2.2.2.2))<|.t ((0:Int)<=(getD k.2.2.2.2.2.2.2.2 (toNat k.1) 0)) (.g (aC k.2.1 (length k.2.2.2.2.2.2.2.2))<|.l (.inr (.inr ((0:Int)<=(getD k.2.2.2.2.2.2.2.2 (toNat k.2.1) 0))))) (.l (.inr (.inr false)))) (.l (.inl (wrap .i64 (v+1))))) (.l (.inl (wrap .i64 (v+1))))) (.l (.inr (.inl ())))
def aJU k v:=aB (λv=>(Gx k v).ev) v
abbrev O6:Keep:=yh [8] Pz
def aOZ:LD:=yl (Gx) (yk [] [2,3,4,5,9] (yj [.dat yi,.dat yi,.box 4 0,.box 5 0,.dat yi]) [(4,.cells Zv),(5,.cells K7)]) [(0,aE)] O6 (λk v=>((k.1,k.2.1,(),(),v,()),(k.2.2.1,k.2.2.2.1,()),(k.2.2.2.2.1,k.2.2.2.2.2.1,k.2.2.2.2.2.2.1,k.2.2.2.2.2.2.2.1,k.2.2.2.2.2.2.2.2,()),())) (λt=>(t.1.1,t.1.2.1,t.2.1.1,t.2.1.2.1,t.2.2.1.1,t.2.2.1.2.1,t.2.2.1.2.2.1,t.2.2.1.2.2.2.1,t.2.2.1.2.2.2.2.1)) b8 (λ_ r=>.s _ _ r (λ_=>yx 0 aE ((),())) (λb=>yz O6 ((b,()),())))
def aFo(o:Y1)(f:List Y1)(n:Int)(g:Y1)(i:List Bool)(m b:Y1)(j e:Int):Tr Bool:=.c _ (aJU (j,e,o,f,n,g,i,m,b) 0) λa=>.s _ _ a (λ_=>.l false) (λh=>.l h)
def aAo j c i b f h a g e:=(aFo j c i b f h a g e).ev
abbrev Wd:RetK:=yr [.tmp 8] Pz
def aPl:FP prog:=aH cx func269 [] (yj [.agg Zv,.agg K7,.dat yi,.dat yi]) [] [] ((λf x=>f x.1.1.1 x.1.1.2.1 x.1.2.1.1 x.1.2.1.2.1 x.1.2.1.2.2.1 x.1.2.1.2.2.2.1 x.1.2.1.2.2.2.2.1 x.1.2.2.1 x.1.2.2.2.1) aFo) Wd bN bU [(0,aOZ)]
def Pc(k:Y1×Y1×Int×Y1×Y2×Int×Kt)(v:Bool×Int):Tr ((Bool×Int)⊕Bool):=.t (v.2<(length k.2.1:Int)) (.t v.1 (.g (aC k.2.2.1 (length k.1))<|.g (aC v.2 (length k.2.1))<|.c _ (aAo k.2.2.2.1 k.2.2.2.2.1 k.2.2.2.2.2.1 k.2.2.2.2.2.2.1 k.2.2.2.2.2.2.2.1 k.2.2.2.2.2.2.2.2.1 k.2.2.2.2.2.2.2.2.2 (getD k.1 (toNat k.2.2.1) 0) (getD k.2.1 (toNat v.2) 0)) λa=>.l (.inl ((!a),(wrap .i64 (v.2+1))))) (.l (.inl (false,(wrap .i64 (v.2+1)))))) (.l (.inr v.1))
def aKm k v:=aB (λv=>(Pc k v).ev) v
abbrev VR:Keep:=yk [] [1,4,5,6,7,8] (yj [.box 1 0,.box 4 0,.dat y1,.dat y1,.dat yi,.dat .bool]) [jY,(4,.cells K7)]
def aMX:LD:=yl (Pc) (yk [] [1,4,5,6,7,8,9] (yj [.box 1 0,.box 4 0,.dat y1,.dat y1,.dat yi,.dat .bool,.dat yi]) [jY,(4,.cells K7)]) [(2,VR)] aE (λk v=>(((),(),k.1,k.2.1,k.2.2.1,v.1,v.2,()),(k.2.2.2.1,k.2.2.2.2.1,()),(k.2.2.2.2.2.1,k.2.2.2.2.2.2.1,k.2.2.2.2.2.2.2.1,k.2.2.2.2.2.2.2.2.1,k.2.2.2.2.2.2.2.2.2,()),())) (λt=>(t.1.2.2.1,t.1.2.2.2.1,t.1.2.2.2.2.1,t.2.1.1,t.2.1.2.1,t.2.2.1.1,t.2.2.1.2.1,t.2.2.1.2.2.1,t.2.2.1.2.2.2.1,t.2.2.1.2.2.2.2.1)) (λt=>(t.1.2.2.2.2.2.1,t.1.2.2.2.2.2.2.1)) (λk r=>yx 2 VR (((),(),k.1,k.2.1,k.2.2.1,r,()),(k.2.2.2.1,k.2.2.2.2.1,()),(k.2.2.2.2.2.1,k.2.2.2.2.2.2.1,k.2.2.2.2.2.2.2.1,k.2.2.2.2.2.2.2.2.1,k.2.2.2.2.2.2.2.2.2,()),()))
def Rw(k:Y1×Y1×Y2×Int×Kt)(v:Y1×Int):Tr ((Y1×Int)⊕Y1):=.t (v.2<(length k.1:Int)) (.c _ (aKm (k.1,v.1,v.2,k.2.1,k.2.2.1,k.2.2.2.1,k.2.2.2.2.1,k.2.2.2.2.2.1,k.2.2.2.2.2.2.1,k.2.2.2.2.2.2.2) (true,0)) λa=>.t a (.g (aC v.2 (length k.1))<|.c _ (Ae v.1 (getD k.1 (toNat v.2) 0)) λb=>.l (.inl (b,(wrap .i64 (v.2+1))))) (.l (.inl (v.1,(wrap .i64 (v.2+1)))))) (.l (.inr v.1))
def aJz k v:=aB (λv=>(Rw k v).ev) v
abbrev O9:Keep:=yh [6] Di
def aMi:LD:=yl (Rw) (yk [.fz 25,.fz 3776] [1,4,5,6,7] (yj [.box 1 0,.box 4 0,.dat y1,.dat y1,.dat yi]) [jY,(4,.cells K7)]) [(0,O9)] aE (λk v=>(((),(),k.1,v.1,v.2,()),(k.2.1,k.2.2.1,()),(k.2.2.2.1,k.2.2.2.2.1,k.2.2.2.2.2.1,k.2.2.2.2.2.2.1,k.2.2.2.2.2.2.2,()),())) (λt=>(t.1.2.2.1,t.2.1.1,t.2.1.2.1,t.2.2.1.1,t.2.2.1.2.1,t.2.2.1.2.2.1,t.2.2.1.2.2.2.1,t.2.2.1.2.2.2.2.1)) A1 (λ_ r=>yx 0 O9 ((r,()),()))
def QA(e:Y1)(b:List Y1):Tr (Y1×Bool):=.c _ (vM e b) λi=>.t (!i) (.l ([],false)) (.t ((length b:Int)==(0:Int)) (.c _ (aAj e b) λf=>.l (([f]:Y1),true)) (.c _ (aDa e b) λa=>.c _ (aEx a.1 a.2.1 a.2.2.1 a.2.2.2.1 a.2.2.2.2) λh=>.c _ (aJz (h,e,b,a.1,a.2.1,a.2.2.1,a.2.2.2.1,a.2.2.2.2) ([],0)) λg=>.l (g,true)))
def Vb b a:=(QA b a).ev
def aMZ:FP prog:=aH cx func200 [G2,aSu,aSK,aMd,aPl,WW] (yj [.agg Zv]) [] [] (jZ QA) ⟨[.fz 13,.fz 20],[.tmp 2,.tmp 3],(yj [.dat y1,.dat .bool]),[],[],[]⟩ dO (E6 [(6,[(1,[23])])]) [(2,aMX),(0,aMi)]
def aCk(e:Y1)(a:List Y1)(b:Y1):Tr (Bool×Bool):=.c _ (Ks e a b) λg=>.t (!g) (.l (false,false)) (.c _ (IL e a b) λf=>.l ((!f.1),true))
def aGe c b a:=(aCk c b a).ev
abbrev QH:RetK:=yr [.tmp 4,.tmp 5] (yj [.dat .bool,.dat .bool])
def aQy:FP prog:=aH cx func201 [IC,aKo] (yj [.agg Zv,.dat y1]) [] [] (bF aCk) QH dO
def IF(k:Int×E3)(v:Int×Int):Tr (jI⊕Int):=.t (v.2<(length k.2.2.2:Int)) (.g (aC v.2 (length k.2.2.2))<|.g (aC k.1 (length (getD k.2.2.2 (toNat v.2) [])))<|.g (aC v.2 (length k.2.2.2))<|.g (aC k.2.1 (length (getD k.2.2.2 (toNat v.2) [])))<|.t ((getD (getD k.2.2.2 (toNat v.2) []) (toNat k.1) 0)<(getD (getD k.2.2.2 (toNat v.2) []) (toNat k.2.1) 0)) (.l (.inl ((wrap .i64 (v.1+1)),(wrap .i64 (v.2+1))))) (.l (.inl (v.1,(wrap .i64 (v.2+1)))))) (.l (.inr v.1))
def aKT k v:=aB (λv=>(IF k v).ev) v
def aPq:LD:=yl (IF) (yk [] [1,2,3,7,8] (yj [.dat yi,.dat yi,.box 3 0,.dat yi,.dat yi]) [(3,.cells Zv)]) [(0,rY)] aE RN AN A1 (λ_ r=>yx 0 rY ((r,()),()))
def aCF(g:Y1)(e:List Y1)(f b:Int):Tr Int:=.c _ (aKT (f,b,g,e) (0,0)) λa=>.l a
def OF e c b a:=(aCF e c b a).ev
def aPa:FP prog:=aH cx func271 [] (yj [.agg Zv,.dat yi,.dat yi]) [] [] (vO aCF) j9 bN bU [(0,aPq)]
def HF(k:Int×Oc)(v:Bool×Int):Tr ((Bool×Int)⊕Bool):=.t (v.2<(length k.2.1:Int)) (.t v.1 (.l (.inl (true,(wrap .i64 (v.2+1))))) (.c _ (OF k.2.1 k.2.2.1 v.2 k.1) λa=>.c _ (OF k.2.1 k.2.2.1 k.1 v.2) λb=>.l (.inl ((b<a),(wrap .i64 (v.2+1)))))) (.l (.inr v.1))
def aKJ k v:=aB (λv=>(HF k v).ev) v
abbrev aHG:Keep:=yk [] [1,4,5,6] (yj [.box 1 0,.arr 8,.dat yi,.dat .bool]) [jY,(8,.arr 3 yi)]
def aOC:LD:=yl (HF) (yk [] [1,4,5,6,7] (yj [.box 1 0,.arr 8,.dat yi,.dat .bool,.dat yi]) [jY,(8,.arr 3 yi)]) [(2,aHG)] aE QI VE A1 (λk r=>yx 2 aHG (((),(),k.1,r,()),(k.2.1,k.2.2.1,()),k.2.2.2,()))
def FE(k:Y1×Y2)(v:Int×Y1):Tr (gR⊕Y1):=.t (v.1<(length k.1:Int)) (.c _ (aKJ (v.1,k.1,k.2,v.2) (false,0)) λa=>.t (!a) (.g ((length v.2+length ([v.1]:Y1))*8<=140737488355328)<|.l (.inl ((wrap .i64 (v.1+1)),(v.2++([v.1]:Y1))))) (.l (.inl ((wrap .i64 (v.1+1)),v.2)))) (.l (.inr v.2))
def aIE k v:=aB (λv=>(FE k v).ev) v
abbrev aPT:Keep:=yk [] [1,4,5] (yj [.box 1 0,.arr 8,.dat yi]) [jY,(8,.arr 3 yi)]
abbrev MX:Keep:=yk [] [4] (yj [.arr 8]) [(8,.arr 3 yi)]
def aME:LD:=yl (FE) aPT [(0,MX)] aE As E8 L4 (λ_ r=>yx 0 MX (((),()),r,()))
def aAC(b:Y1)(a:List Y1):Tr D9:=.c _ (vM b a) λf=>.t (!f) (.l (false,[])) (.c _ (aIE (b,a) (0,[])) λe=>.l (true,e))
def aDj b a:=(aAC b a).ev
def aPB:FP prog:=aH cx func202 [G2,aPa] (yj [.agg Zv]) [] [] (jZ aAC) ⟨[.ren 8 0],[.tmp 2,.tmp 3],Dq,[tP],[],[]⟩ gN bU [(2,aOC),(0,aME)]
def XS(a:Y1)(b:List Y1)(f:Y1)(r:Int)(e:List UInt8):Tr (List UInt8):=.t (e==([116,111,116,97,108]:List UInt8)) (.c _ (KA a b f r) λs=>.c _ (Jx s.1 s.2) λu=>.l u) (.t (e==([103,97,112]:List UInt8)) (.c _ (aCq a b f r) λh=>.c _ (Jx h.1 h.2) λaa=>.l aa) (.t (e==([115,101,114,118,105,99,101]:List UInt8)) (.c _ (ZF a b f) λi=>.c _ (Jx i.1 i.2) λab=>.l ab) (.t (e==([114,101,97,99,104]:List UInt8)) (.c _ (aDn a b f) λg=>.c _ (Jx g.1 g.2) λaf=>.l af) (.t (e==([115,101,114,118,101,100]:List UInt8)) (.c _ (aDY a b f) λq=>.c _ (v6 q.2 q.1) λae=>.l ae) (.t (e==([109,101,116,114,105,99]:List UInt8)) (.c _ (aCP a b) λp=>.c _ (aCT p.1 p.2) λw=>.l w) (.t (e==([102,105,101,108,100]:List UInt8)) (.c _ (JU a b) λac=>.l ac) (.t (e==([112,114,105,99,101,115]:List UInt8)) (.c _ (aEt a b) λo=>.c _ (v6 o.2 o.1) λad=>.l ad) (.t (e==([103,114,111,119,116,104]:List UInt8)) (.c _ (Vb a b) λj=>.c _ (v6 j.1 j.2) λz=>.l z) (.t (e==([108,111,99,97,108]:List UInt8)) (.c _ (aGe a b f) λm=>.c _ (aCT m.1 m.2) λag=>.l ag) (.t (e==([117,110,98,101,97,116,101,110]:List UInt8)) (.c _ (aDj a b) λn=>.c _ (v6 n.2 n.1) λy=>.l y) (.l ([63]:List UInt8))))))))))))
def NU f b e a c:=(XS f b e a c).ev
def aMm:FP prog:=aH cx func123 [aJx,aSw,aMC,aML,aPe,aNf,aHt,aTT,aSd,aNH,aSI,aMZ,aQy,aPB] (yj [.agg oL,.dat .str]) [] [] (O2 XS) Cs bN
noncomputable abbrev Id(p1:Y1)(p2:List Y1)(p3:Y1)(p4 p5:Int):=(.c _ (kP p1 p2 p3 p4 p5 0 0 0 []) λa=>.l (a.1,a.2.1,a.2.2.1,a.2.2.2.1,a.2.2.2.2):Tr TZ)
def XU(f:Y1)(a:List Y1)(e:Y1)(b:Int)(g:List UInt8):Tr TZ:=.t (g==([105,109,112,114,111,118,101]:List UInt8)) (Id f a e b 10) (.t (g==([98,101,115,116]:List UInt8)) (Id f a e b 11) (.t (g==([99,108,105,101,110,116]:List UInt8)) (Id f a e b 7) (.c _ (NU f a e b g) λh=>.l (f,a,e,b,h))))
def Ii f b e a c:=(XU f b e a c).ev
abbrev TB:RetK:=yr [.cell 4 29,.tmp 5] (yj [.agg oL,.dat .str])
def aOY:FP prog:=aH cx func75 [OC,aMm] (yj [.agg oL,.dat .str]) [] [] (O2 XU) TB Br
def Gk(k:(List UInt8)×(List UInt8))(v:Int×Int):Tr (jI⊕(Int⊕Unit)):=.t (v.2<(length k.2:Int)) (.g (aC v.2 (length k.2))<|.t (((UInt8.toNat (getD k.2 (toNat v.2) 0):Nat):Int)<(48:Int)) (.l (.inr (.inr ()))) (.g (aC v.2 (length k.2))<|.t ((57:Int)<((UInt8.toNat (getD k.2 (toNat v.2) 0):Nat):Int)) (.l (.inr (.inr ()))) (.g (aC v.2 (length k.2))<|.l (.inl ((wrap .i64 ((wrap .i64 ((10:Int)*v.1))+(wrap .i64 (wrap .u8 (((UInt8.toNat (getD k.2 (toNat v.2) 0):Nat):Int) -48))))),(wrap .i64 (v.2+1))))))) (.l (.inr (.inl v.1)))
def EN k v:=aB (λv=>(Gk k v).ev) v
abbrev VW:Keep:=yh [0,4,5] Zcz
abbrev TS:Keep:=yh [2,3] (yj [.dat yi,.dat .bool])
def aPi:LD:=yl (Gk) (yh [0,4,5,6] (yj [.dat .str,.dat .str,.dat yi,.dat yi])) [(0,VW)] TS (λk v=>((k.1,k.2,v.1,v.2,()),())) mZ uT (λk r=>.s _ _ r (λa=>yx 0 VW ((k.1,k.2,a,()),())) (λ_=>yz TS ((0,false,()),())))
noncomputable abbrev DI(p1:List UInt8):=(.c _ (rO (length p1:Int) 1 6) λg=>.t (!g) (.l (0,false)) (.c _ (EN (p1,p1) (0,0)) λe=>.s _ _ e (λa=>.t ((length p1:Int)<(length p1:Int)) (.c _ (eU 1000000 (wrap .i64 (0-a))) λf=>.t (!(f==p1)) (.l (0,false)) (.l ((wrap .i64 (0-a)),true))) (.c _ (eU 1000000 a) λb=>.t (!(b==p1)) (.l (0,false)) (.l (a,true)))) (λ_=>.l (0,false))):Tr (Int×Bool))
def aAH(a:List UInt8):Tr (Int×Bool):=.t ((1:Int)<(length a:Int)) (.g (aC 0 (length a))<|.t (((UInt8.toNat (getD a (toNat 0) 0):Nat):Int)==(45:Int)) (.g (((0:Int)<=(1:Int))&&((1:Int)<=(length a:Int)))<|.c _ (rO (length (List.drop (toNat 1) (List.take (length a) a)):Int) 1 6) λi=>.t (!i) (.l (0,false)) (.c _ (EN (a,(List.drop (toNat 1) (List.take (length a) a))) (0,0)) λf=>.s _ _ f (λb=>.t ((length (List.drop (toNat 1) (List.take (length a) a)):Int)<(length a:Int)) (.c _ (eU 1000000 (wrap .i64 (0-b))) λe=>.t (!(e==a)) (.l (0,false)) (.l ((wrap .i64 (0-b)),true))) (.c _ (eU 1000000 b) λh=>.t (!(h==a)) (.l (0,false)) (.l (b,true)))) (λ_=>.l (0,false)))) (DI a)) (DI a)
def aDH a:=(aAH a).ev
def aNz:FP prog:=aH cx func124 [F0,T2] Fz [] [] (oM aAH) Az dO bU [(0,aPi)]
def Tm(k:List (List UInt8))(v:Int×Y1):Tr (gR⊕(Y1⊕Unit)):=.t (v.1<(length k:Int)) (.g (aC v.1 (length k))<|.c _ (aDH (getD k (toNat v.1) [])) λa=>.t (!a.2) (.l (.inr (.inr ()))) (.g ((length v.2+length ([a.1]:Y1))*8<=140737488355328)<|.l (.inl ((wrap .i64 (v.1+1)),(v.2++([a.1]:Y1)))))) (.l (.inr (.inl v.2)))
def aLx k v:=aB (λv=>(Tm k v).ev) v
abbrev UZ:Keep:=yk [] [2,3] (yj [.arr 25,.dat .bool]) [(25,.arr 3 yi)]
def aPZ:LD:=yl (Tm) (yk [] [0,4,5] (yj [.dat (.slice .str),.arr 8,.dat yi]) [(8,.arr 3 yi)]) [(0,MX)] UZ Eu oG Ch (λ_ r=>.s Y1 Unit r (λa=>yx 0 MX (((),()),a,())) (λ_=>yz UZ (((),false,()),[],())))
def aAN(b:List (List UInt8)):Tr D9:=.c _ (aLx b (1,[])) λa=>.s Y1 Unit a (λe=>.l (true,e)) (λ_=>.l (false,[]))
def JG a:=(aAN a).ev
def aQT:FP prog:=aH cx func76 [aNz] (yj [.dat (.slice .str)]) [] [] (oM aAN) ⟨[.ren 8 0,.ren 25 0],[.tmp 2,.tmp 3],Dq,[tP],[],[]⟩ gN bU [(0,aPZ)]
def ZC(a:Y1)(e:List Y1)(f:Int):Tr Bool:=.c _ (vM a e) λg=>.t g (.c _ (rO f 1 (length a:Int)) λb=>.l b) (.l false)
def aFM c b a:=(ZC c b a).ev
def aTR:FP prog:=aH cx func203 [G2,F0] (yj [.agg Zv,.dat yi]) [] [] (bF ZC) dC bN
def Db(k:Int×Y2×Y1×Y2)(v:Y1×Int):Tr ((Y1×Int)⊕Y1):=.t (v.2<(length k.2.1:Int)) (.g (aC v.2 (length k.2.1))<|.t ((length (getD k.2.1 (toNat v.2) []):Int)==k.1) (.t ((length v.1:Int)==(0:Int)) (.g (aC v.2 (length k.2.1))<|.l (.inl ((getD k.2.1 (toNat v.2) []),(wrap .i64 (v.2+1))))) (.g (aC v.2 (length k.2.1))<|.c _ (Uq k.2.2.1 k.2.2.2 (getD k.2.1 (toNat v.2) [])) λa=>.c _ (Uq k.2.2.1 k.2.2.2 v.1) λb=>.t (a<b) (.g (aC v.2 (length k.2.1))<|.l (.inl ((getD k.2.1 (toNat v.2) []),(wrap .i64 (v.2+1))))) (.l (.inl (v.1,(wrap .i64 (v.2+1))))))) (.l (.inl (v.1,(wrap .i64 (v.2+1)))))) (.l (.inr v.1))
def aHM k v:=aB (λv=>(Db k v).ev) v
def aSf:LD:=yl (Db) (yk [.fz 12] [1,2,5,6,7] (yj [.dat yi,.box 2 0,.dat y2,.dat y1,.dat yi]) [zO]) [(0,O9)] aE (λk v=>((k.1,(),k.2.1,v.1,v.2,()),(k.2.2.1,k.2.2.2,()),())) (λt=>(t.1.1,t.1.2.2.1,t.2.1.1,t.2.1.2.1)) A1 (λ_ r=>yx 0 O9 ((r,()),()))
def aBQ(a:Y1)(e:List Y1)(f:Int):Tr Y1:=.c _ (Zg (length a:Int)) λg=>.c _ (aHM (f,g,a,e) ([],0)) λb=>.l b
def aAR c b a:=(aBQ c b a).ev
abbrev Lt:RetK:=yr [.tmp 4] Di
def aTA:FP prog:=aH cx func204 [XR,aCx] (yj [.agg Zv,.dat yi]) [] [] (bF aBQ) Lt bN bU [(0,aSf)]
def NG(e:Y1)(a:List Y1)(b:Int):Tr (Y1×Bool):=.c _ (aFM e a b) λg=>.t (!g) (.l ([],false)) (.c _ (aAR e a b) λf=>.l (f,true))
def KE c b a:=(NG c b a).ev
def aSS:FP prog:=aH cx func127 [aTR,aTA] (yj [.agg Zv,.dat yi]) [] [] (bF NG) ⟨[.fz 10],[.tmp 4,.tmp 5],(yj [.dat y1,.dat .bool]),[],[],[]⟩ dO
def aAP(a:Y1)(e:List Y1)(f:Int):Tr Bool:=.c _ (vM a e) λg=>.t g (.c _ (rO f 1 (length a:Int)) λb=>.l b) (.l false)
def aFg c b a:=(aAP c b a).ev
def aRN:FP prog:=aH cx func205 [G2,F0] (yj [.agg Zv,.dat yi]) [] [] (bF aAP) dC bN
def Ps(k v:Int×Y2):Tr (E4⊕Y2):=.t (v.1<(length k.2:Int)) (.g (aC v.1 (length k.2))<|.t ((length (getD k.2 (toNat v.1) []):Int)<=k.1) (.g (aC v.1 (length k.2))<|.g ((length v.2+length ([(getD k.2 (toNat v.1) [])]:List Y1))*24<=140737488355328)<|.l (.inl ((wrap .i64 (v.1+1)),(v.2++([(getD k.2 (toNat v.1) [])]:List Y1))))) (.l (.inl ((wrap .i64 (v.1+1)),v.2)))) (.l (.inr v.2))
def aJT k v:=aB (λv=>(Ps k v).ev) v
abbrev SO:Keep:=yk [] [5] (yj [.arr 8]) [(8,.arr 24 y1)]
abbrev VT{a b c d e:Type}(t:(a×b×c×d)×e):=(t.1.1,t.1.2.2.1)
def aMS:LD:=yl (Ps) (yk [] [1,5,6,7] (yj [.dat yi,.arr 8,.dat y2,.dat yi]) [(8,.arr 24 y1)]) [(0,SO)] aE (λk v=>((k.1,(),k.2,v.1,()),v.2,())) VT u7 (λ_ r=>yx 0 SO (((),()),r,()))
def aBG(f:Y1)(_g:List Y1)(b:Int):Tr Y2:=.c _ (Zg (length f:Int)) λe=>.c _ (aJT (b,e) (0,[])) λa=>.l a
def WX c b a:=(aBG c b a).ev
def aPI:FP prog:=aH cx func273 [XR] (yj [.agg Zv,.dat yi]) [] [] (bF aBG) ⟨[.ren 8 0],[.tmp 4],C7,[(0,.arr 24 y1)],[],[]⟩ kQ bU [(0,aMS)]
def AR(k:Y1×Y2×Y2)(v:Y1×Int):Tr ((Y1×Int)⊕Y1):=.t (v.2<(length k.2.2:Int)) (.g (aC v.2 (length k.2.2))<|.g ((toNat v.2)<length k.2.2)<|.c _ (Zi k.1 k.2.1 (getD k.2.2 (toNat v.2) [])) λa=>.c _ (Zi k.1 k.2.1 v.1) λb=>.t (a<b) (.g (aC v.2 (length k.2.2))<|.g ((toNat v.2)<length k.2.2)<|.l (.inl ((getD k.2.2 (toNat v.2) []),(wrap .i64 (v.2+1))))) (.l (.inl (v.1,(wrap .i64 (v.2+1)))))) (.l (.inr v.1))
def aKh k v:=aB (λv=>(AR k v).ev) v
def aQZ:LD:=yl (AR) (yk [] [2,5,6,7] (yj [.box 2 0,.arr 640,.dat y1,.dat yi]) [zO,(640,.arr 24 y1)]) [(0,O9)] aE (λk v=>(((),(),v.1,v.2,()),(k.1,k.2.1,()),k.2.2,())) (λt=>(t.2.1.1,t.2.1.2.1,t.2.2.1)) uT (λ_ r=>yx 0 O9 ((r,()),()))
def aAf(e:Y1)(b:List Y1)(h:Int):Tr Y1:=.c _ (WX e b h) λa=>.g (aC 0 (length a))<|.g ((toNat 0)<length a)<|.c _ (aKh (e,b,a) ((getD a (toNat 0) []),1)) λf=>.l f
def aEl c b a:=(aAf c b a).ev
def aNk:FP prog:=aH cx func206 [aPI,aLb] (yj [.agg Zv,.dat yi]) [] [] (bF aAf) Lt bN bU [(0,aQZ)]
def LV(e:Y1)(a:List Y1)(b:Int):Tr D9:=.c _ (aFg e a b) λh=>.t (!h) (.l (false,[])) (.c _ (aEl e a b) λf=>.c _ (pO f) λg=>.l (true,g))
def MW c b a:=(LV c b a).ev
def aNn:FP prog:=aH cx func128 [aRN,aNk,Ar] (yj [.agg Zv,.dat yi]) [] [] (bF LV) ⟨[.ren 10 0,.ren 896 0],[.tmp 4,.tmp 5],Dq,[tP],[],[]⟩ gN
def Ib(k:Int×Int×E3)(v:Int):Tr (Int⊕(Unit⊕Unit)):=.t (v<(length k.2.2.2.1:Int)) (.g (aC k.1 (length k.2.2.2.2))<|.g (aC v (length (getD k.2.2.2.2 (toNat k.1) [])))<|.t ((getD (getD k.2.2.2.2 (toNat k.1) []) (toNat v) 0)<=k.2.2.1) (.g (aC k.2.1 (length k.2.2.2.2))<|.g (aC v (length (getD k.2.2.2.2 (toNat k.2.1) [])))<|.t ((getD (getD k.2.2.2.2 (toNat k.2.1) []) (toNat v) 0)<=k.2.2.1) (.l (.inr (.inr ()))) (.l (.inl (wrap .i64 (v+1))))) (.l (.inl (wrap .i64 (v+1))))) (.l (.inr (.inl ())))
def aHZ k v:=aB (λv=>(Ib k v).ev) v
def aMp:LD:=yl (Ib) (yk [] [1,2,3,4,9] (yj [.dat yi,.dat yi,.dat yi,.box 4 0,.dat yi]) [(4,.cells Zv)]) [(0,aE)] O6 (λk v=>((k.1,k.2.1,k.2.2.1,(),v,()),(k.2.2.2.1,k.2.2.2.2,()),())) TK b8 (λ_ r=>.s _ _ r (λ_=>yx 0 aE ((),())) (λ_=>yz O6 ((false,()),())))
def aAe(h:Y1)(e:List Y1)(g b f:Int):Tr Bool:=.c _ (aHZ (g,b,f,h,e) 0) λa=>.s _ _ a (λ_=>.l true) (λ_=>.l false)
def YI f b e a c:=(aAe f b e a c).ev
def aOi:FP prog:=aH cx func314 [] (yj [.agg Zv,.dat yi,.dat yi,.dat yi]) [] [] (VI aAe) Wd bN bU [(0,aMp)]
def Oz(k:Y1×Int×E3)(v:Int):Tr (Int⊕(Unit⊕Unit)):=.t (v<k.2.2.1) (.g (aC k.2.2.1 (length k.1))<|.g (aC v (length k.1))<|.c _ (YI k.2.2.2.1 k.2.2.2.2 (getD k.1 (toNat k.2.2.1) 0) (getD k.1 (toNat v) 0) k.2.1) λa=>.t (!a) (.l (.inr (.inr ()))) (.l (.inl (wrap .i64 (v+1))))) (.l (.inr (.inl ())))
def aHQ k v:=aB (λv=>(Oz k v).ev) v
abbrev Wy:Keep:=yk [] [1,2,3,7] (yj [.dat y1,.dat yi,.box 3 0,.dat yi]) [(3,.cells Zv)]
abbrev TH{a b c d e g:Type}(k:a×b×c×d×e)(v:g):=((k.1,k.2.1,(),k.2.2.1,v,()),(k.2.2.2.1,k.2.2.2.2,()),())
def aTe:LD:=yl (Oz) (yk [] [1,2,3,7,8] (yj [.dat y1,.dat yi,.box 3 0,.dat yi,.dat yi]) [(3,.cells Zv)]) [(2,Wy)] sB TH FB b8 (λk r=>.s _ _ r (λ_=>yx 2 Wy ((k.1,k.2.1,(),k.2.2.1,()),(k.2.2.2.1,k.2.2.2.2,()),())) (λ_=>yz sB ((false,()),())))
def Ov(k:Y1×E3)(v:Int):Tr (Int⊕(Unit⊕Unit)):=.t (v<(length k.1:Int)) (.c _ (aHQ (k.1,k.2.1,v,k.2.2.1,k.2.2.2) 0) λa=>.s _ _ a (λ_=>.l (.inl (wrap .i64 (v+1)))) (λ_=>.l (.inr (.inr ())))) (.l (.inr (.inl ())))
def aLJ k v:=aB (λv=>(Ov k v).ev) v
def aTl:LD:=yl (Ov) Wy [(0,aE)] sB (λk v=>((k.1,k.2.1,(),v,()),(k.2.2.1,k.2.2.2,()),())) AN rQ (λ_ r=>.s _ _ r (λ_=>yx 0 aE ((),())) (λ_=>yz sB ((false,()),())))
def aAV(g:Y1)(b:List Y1)(f:Y1)(e:Int):Tr Bool:=.c _ (aLJ (f,e,g,b) 0) λa=>.s _ _ a (λ_=>.l true) (λ_=>.l false)
def ON e c b a:=(aAV e c b a).ev
def aLX:FP prog:=aH cx func275 [aOi] (yj [.agg Zv,.dat y1,.dat yi]) [] [] (vO aAV) Ck bN bU [(2,aTe),(0,aTl)]
def Uc(k:Y1×Y1)(v:Int):Tr (Int⊕(Unit⊕Bool)):=.t (v<(length k.1:Int)) (.g (aC v (length k.1))<|.g (aC v (length k.2))<|.t ((getD k.1 (toNat v) 0) != (getD k.2 (toNat v) 0)) (.g (aC v (length k.1))<|.g (aC v (length k.2))<|.l (.inr (.inr ((getD k.1 (toNat v) 0)<(getD k.2 (toNat v) 0))))) (.l (.inl (wrap .i64 (v+1))))) (.l (.inr (.inl ())))
def aKl k v:=aB (λv=>(Uc k v).ev) v
def aSQ:LD:=yl (Uc) FG [(0,aE)] gI uK mZ D1 (λ_ r=>.s _ _ r (λ_=>yx 0 aE ((),())) (λb=>yz gI ((b,()),())))
def aCJ(f e:Y1):Tr Bool:=.c _ (aKl (f,e) 0) λb=>.s _ _ b (λ_=>.l false) (λa=>.l a)
def aBh b a:=(aCJ b a).ev
def aQM:FP prog:=aH cx func274 [] (yj [.dat y1,.dat y1]) [] [] (dG aCJ) dC bN bU [(0,aSQ)]
def Xy(k:Int×Y1×Y2)(v:Y1×Int):Tr ((Y1×Int)⊕Y1):=.g ((0:Int)<=(length k.2.2:Int))<|.t (v.2<(wrap .i64 ((1:Int)*2^(min (toNat (length k.2.2:Int)) (IntKind.bits .i64))))) (.c _ (Z7 (length k.2.2:Int) v.2) λa=>.t ((length v.1:Int)<(length a:Int)) (.c _ (ON k.2.1 k.2.2 a k.1) λb=>.t b (.l (.inl (a,(wrap .i64 (v.2+1))))) (.l (.inl (v.1,(wrap .i64 (v.2+1)))))) (.t ((length a:Int)==(length v.1:Int)) (.c _ (aBh a v.1) λf=>.t f (.c _ (ON k.2.1 k.2.2 a k.1) λe=>.t e (.l (.inl (a,(wrap .i64 (v.2+1))))) (.l (.inl (v.1,(wrap .i64 (v.2+1)))))) (.l (.inl (v.1,(wrap .i64 (v.2+1)))))) (.l (.inl (v.1,(wrap .i64 (v.2+1))))))) (.l (.inr v.1))
def aLV k v:=aB (λv=>(Xy k v).ev) v
abbrev Mt:Keep:=yh [5] Di
def aOR:LD:=yl (Xy) (yk [.fz 8,.fz 1344] [1,2,5,6] (yj [.dat yi,.box 2 0,.dat y1,.dat yi]) [zO]) [(0,Mt)] aE Fu l7 uT (λ_ r=>yx 0 Mt ((r,()),()))
def aAT(e:Y1)(b:List Y1)(a:Int):Tr Y1:=.c _ (aLV (a,e,b) ([],0)) λf=>.l f
def aEo c b a:=(aAT c b a).ev
def aOP:FP prog:=aH cx func207 [YZ,aLX,aQM] (yj [.agg Zv,.dat yi]) [] [] (bF aAT) Lt bN bU [(0,aOR)]
def aAa(e:Y1)(a:List Y1)(b:Int):Tr (Y1×Bool):=.c _ (vM e a) λg=>.t (!g) (.l ([],false)) (.t (b<0) (.l ([],false)) (.c _ (aEo e a b) λf=>.l (f,true)))
def ZX c b a:=(aAa c b a).ev
def aSR:FP prog:=aH cx func129 [G2,aOP] (yj [.agg Zv,.dat yi]) [] [] (bF aAa) ⟨[.fz 13],[.tmp 4,.tmp 5],(yj [.dat y1,.dat .bool]),[],[],[]⟩ dO
noncomputable abbrev W5(p1:Y1)(p2:List Y1)(p3:Y1)(p4 p5 p6:Int):=(.c _ (kP p1 p2 p3 p4 p5 p6 0 0 []) λa=>.l (a.1,a.2.1,a.2.2.1,a.2.2.2.1,a.2.2.2.2):Tr TZ)
def aFI(b:Y1)(a:List Y1)(f:Y1)(e:Int)(g:List UInt8)(h:Int):Tr TZ:=.t (g==([111,112,101,110]:List UInt8)) (W5 b a f e 1 h) (.t (g==([99,108,111,115,101]:List UInt8)) (W5 b a f e 2 h) (.t (g==([100,114,111,112,115,105,116,101]:List UInt8)) (W5 b a f e 8 h) (.t (g==([100,114,111,112,99,108,105,101,110,116]:List UInt8)) (W5 b a f e 9 h) (.t (g==([109,101,100,105,97,110]:List UInt8)) (.c _ (KE b a h) λm=>.c _ (v6 m.1 m.2) λo=>.l (b,a,f,e,o)) (.t (g==([99,101,110,116,114,101,115]:List UInt8)) (.c _ (MW b a h) λi=>.c _ (v6 i.2 i.1) λn=>.l (b,a,f,e,n)) (.t (g==([102,97,114]:List UInt8)) (.c _ (ZX b a h) λj=>.c _ (v6 j.1 j.2) λp=>.l (b,a,f,e,p)) (.l (b,a,f,e,([63]:List UInt8)))))))))
def Fa g b f a c e:=(aFI g b f a c e).ev
abbrev DB{a b c d e g h i j:Type}{z:Type _}(f:a->b->c->d->g->h->z)(x:((a×b×c×d×e)×g×h×i)×j):z:=f x.1.1.1 x.1.1.2.1 x.1.1.2.2.1 x.1.1.2.2.2.1 x.1.2.1 x.1.2.2.1
abbrev TE:RetK:=yr [.cell 6 29,.tmp 7] (yj [.agg oL,.dat .str])
def aRt:FP prog:=aH cx func78 [OC,aSS,aHt,aNn,aSR] (yj [.agg oL,.dat .str,.dat yi]) [] [] (DB aFI) TE Br
def EK(h:Y1)(b:List Y1)(f:Y1)(e:Int)(i:List UInt8)(a:Y1):Tr TZ:=.t ((length a:Int)==(3:Int)) (.t (i==([108,101,110,103,116,104]:List UInt8)) (.g (aC 0 (length a))<|.g (aC 1 (length a))<|.g (aC 2 (length a))<|.c _ (kP h b f e 5 (getD a (toNat 0) 0) (getD a (toNat 1) 0) (getD a (toNat 2) 0) []) λr=>.l (r.1,r.2.1,r.2.2.1,r.2.2.2.1,r.2.2.2.2)) (.t ((length a:Int)==(2:Int)) (.t (i==([115,119,97,112]:List UInt8)) (.g (aC 0 (length a))<|.g (aC 1 (length a))<|.c _ (kP h b f e 3 (getD a (toNat 0) 0) (getD a (toNat 1) 0) 0 []) λj=>.l (j.1,j.2.1,j.2.2.1,j.2.2.2.1,j.2.2.2.2)) (.t ((length a:Int)==(2:Int)) (.t (i==([99,111,115,116]:List UInt8)) (.g (aC 0 (length a))<|.g (aC 1 (length a))<|.c _ (kP h b f e 4 (getD a (toNat 0) 0) (getD a (toNat 1) 0) 0 []) λn=>.l (n.1,n.2.1,n.2.2.1,n.2.2.2.1,n.2.2.2.2)) (.l (h,b,f,e,([63]:List UInt8)))) (.l (h,b,f,e,([63]:List UInt8))))) (.t ((length a:Int)==(2:Int)) (.t (i==([99,111,115,116]:List UInt8)) (.g (aC 0 (length a))<|.g (aC 1 (length a))<|.c _ (kP h b f e 4 (getD a (toNat 0) 0) (getD a (toNat 1) 0) 0 []) λp=>.l (p.1,p.2.1,p.2.2.1,p.2.2.2.1,p.2.2.2.2)) (.l (h,b,f,e,([63]:List UInt8)))) (.l (h,b,f,e,([63]:List UInt8)))))) (.t ((length a:Int)==(2:Int)) (.t (i==([115,119,97,112]:List UInt8)) (.g (aC 0 (length a))<|.g (aC 1 (length a))<|.c _ (kP h b f e 3 (getD a (toNat 0) 0) (getD a (toNat 1) 0) 0 []) λq=>.l (q.1,q.2.1,q.2.2.1,q.2.2.2.1,q.2.2.2.2)) (.t ((length a:Int)==(2:Int)) (.t (i==([99,111,115,116]:List UInt8)) (.g (aC 0 (length a))<|.g (aC 1 (length a))<|.c _ (kP h b f e 4 (getD a (toNat 0) 0) (getD a (toNat 1) 0) 0 []) λo=>.l (o.1,o.2.1,o.2.2.1,o.2.2.2.1,o.2.2.2.2)) (.l (h,b,f,e,([63]:List UInt8)))) (.l (h,b,f,e,([63]:List UInt8))))) (.t ((length a:Int)==(2:Int)) (.t (i==([99,111,115,116]:List UInt8)) (.g (aC 0 (length a))<|.g (aC 1 (length a))<|.c _ (kP h b f e 4 (getD a (toNat 0) 0) (getD a (toNat 1) 0) 0 []) λm=>.l (m.1,m.2.1,m.2.2.1,m.2.2.2.1,m.2.2.2.2)) (.l (h,b,f,e,([63]:List UInt8)))) (.l (h,b,f,e,([63]:List UInt8)))))
def yU g b f a c e:=(EK g b f a c e).ev
def aQi:FP prog:=aH cx func79 [OC] (yj [.agg oL,.dat .str,.dat y1]) [] [] (DB EK) TE Br
def Ym(i:Y1)(e:List Y1)(h:Y1)(f:Int)(q:List UInt8):Tr TZ:=.c _ (yM q 32) λb=>.t ((length b:Int)==(1:Int)) (.c _ (Ii i e h f q) λj=>.l (j.1,j.2.1,j.2.2.1,j.2.2.2.1,j.2.2.2.2)) (.c _ (JG b) λa=>.t (!a.1) (.l (i,e,h,f,([63]:List UInt8))) (.g (aC 0 (length b))<|.g ((toNat 0)<length b)<|.t ((getD b (toNat 0) [])==([115,105,116,101]:List UInt8)) (.g (aC 0 (length a.2))<|.g (((0:Int)<=(1:Int))&&((1:Int)<=(length a.2:Int)))<|.c _ (kP i e h f 6 (getD a.2 (toNat 0) 0) 0 0 (List.drop (toNat 1) (List.take (length a.2) a.2))) λo=>.l (o.1,o.2.1,o.2.2.1,o.2.2.2.1,o.2.2.2.2)) (.t ((getD b (toNat 0) [])==([99,108,105,101,110,116]:List UInt8)) (.c _ (kP i e h f 7 0 0 0 a.2) λp=>.l (p.1,p.2.1,p.2.2.1,p.2.2.2.1,p.2.2.2.2)) (.t ((length a.2:Int)==(1:Int)) (.g (aC 0 (length b))<|.g ((toNat 0)<length b)<|.g (aC 0 (length a.2))<|.g ((toNat 0)<length a.2)<|.c _ (Fa i e h f (getD b (toNat 0) []) (getD a.2 (toNat 0) 0)) λn=>.l (n.1,n.2.1,n.2.2.1,n.2.2.2.1,n.2.2.2.2)) (.g (aC 0 (length b))<|.g ((toNat 0)<length b)<|.c _ (yU i e h f (getD b (toNat 0) []) a.2) λm=>.l (m.1,m.2.1,m.2.2.1,m.2.2.2.1,m.2.2.2.2))))))
def Eb f b e a c:=(Ym f b e a c).ev
def aOW:FP prog:=aH cx func38 [LG,aOY,aQT,OC,aRt,aQi] (yj [.agg oL,.dat .str]) [] [] (O2 Ym) TB Br (E6 [(9,[(0,[7])]),(11,[(3,[46])]),(14,[(0,[7])])])
def aDI(e b:List UInt8)(a:Int)(h i:List UInt8):Tr ((List UInt8)×(List UInt8)×jI):=.c _ (PB e b a) λm=>.t (!m) (.l (e,b,a,1)) (.c _ (Wm h i) λj=>.t (!j) (.l (e,b,a,1)) (.t (a==60) (.l (e,b,a,2)) (.c _ (ML a h i) λf=>.g (length b+length f<=9223372036854775807)<|.l (e,(b++f),(wrap .i64 (a+1)),0))))
def Cc f b e a c:=(aDI f b e a c).ev
abbrev VL{a b c d e g h i j:Type}{z:Type _}(f:a->b->c->e->g->z)(x:((a×b×c×d)×(e×g×h)×i)×j):z:=f x.1.1.1 x.1.1.2.1 x.1.1.2.2.1 x.1.2.1.1 x.1.2.1.2.1
abbrev VA:RetK:=yr [.cell 4 32,.tmp 5] (yj [.agg Zcz,.dat yi])
abbrev UW{a b c d:Type}(r:a×b×c×d):=(((r.1,r.2.1,r.2.2.1,()),r.2.2.2,()),())
def aKO:FP prog:=aH cx func39 [aIv,aAd,aHp] (yj [.agg Zcz,.agg Ue]) [] [] (VL aDI) VA UW
def Kv(r:Y1)(n:List Y1)(q:Y1)(o:Int)(f g:List UInt8)(e:Int)(j:List UInt8):Tr (Int×(List UInt8)×(List UInt8)×Int×(List UInt8)×Oc):=.c _ (G9 r n q o) λa=>.c _ (Q2 r n q o f g e) λs=>.t (!s) (.l (a.1,f,g,e,([110,111]:List UInt8),a.2.1,a.2.2.1,a.2.2.2)) (.c _ (Wm j []) λu=>.t (!u) (.l (a.1,f,g,e,([98,97,100]:List UInt8),a.2.1,a.2.2.1,a.2.2.2)) (.t (e==60) (.l (a.1,f,g,e,([102,117,108,108]:List UInt8),a.2.1,a.2.2.1,a.2.2.2)) (.c _ (Eb r n q o j) λb=>.t ((200:Int)<(length b.2.2.2.2:Int)) (.c _ (Cc f g e j ([108,111,110,103]:List UInt8)) λp=>.c _ (G9 b.1 b.2.1 b.2.2.1 b.2.2.2.1) λi=>.l (i.1,p.1,p.2.1,p.2.2.1,([108,111,110,103]:List UInt8),i.2.1,i.2.2.1,i.2.2.2)) (.c _ (Cc f g e j b.2.2.2.2) λm=>.c _ (G9 b.1 b.2.1 b.2.2.1 b.2.2.2.1) λh=>.l (h.1,m.1,m.2.1,m.2.2.1,b.2.2.2.2,h.2.1,h.2.2.1,h.2.2.2)))))
def q8 i c h b e g a f:=(Kv i c h b e g a f).ev
abbrev Lm{a b c d e g h i j l m:Type}{z:Type _}(f:a->b->c->d->e->g->h->j->z)(x:((a×b×c×d×e×g×h×i)×j×l)×m):z:=f x.1.1.1 x.1.1.2.1 x.1.1.2.2.1 x.1.1.2.2.2.1 x.1.1.2.2.2.2.1 x.1.1.2.2.2.2.2.1 x.1.1.2.2.2.2.2.2.1 x.1.2.1
def ZP:FP prog:=aH cx func13 [NH,aCy,aAd,aOW,aKO] (yj [.agg V2,.dat .str]) [] [] (Lm Kv) ⟨[.pinB 4 0 3,.pinB 4 1 5,.pinB 4 2 8],[.cell 4 34,.tmp 5],(yj [.agg (yj [.arr 3,.arr 5,.arr 8,.dat yi,.dat .str,.dat .str,.dat yi]),.dat .str]),[(3,.arr 3 yi),(5,.rows 24 3 yi),(8,.arr 3 yi)],[],[]⟩ Wi
def CW(k:Bool×Wo)(v:Int×Y1×Int×Int×Y1×Y2×Y1×Wo):Tr ((Int×Y1×Int×Int×Y1×Y2×Y1×Wo)⊕(Y1×Int×Int×Y1×Y2×Y1×Wo)):=.t (0<v.1) (.t k.1 (.c _ (El v.2.1 v.2.2.1 v.2.2.2.1) λb=>.c _ (q8 v.2.2.2.2.1 v.2.2.2.2.2.1 v.2.2.2.2.2.2.1 v.2.2.2.2.2.2.2.1 v.2.2.2.2.2.2.2.2.1 v.2.2.2.2.2.2.2.2.2.1 v.2.2.2.2.2.2.2.2.2.2 b.1) λa=>.l (.inl ((wrap .i64 (v.1-1)),b.2.1,b.2.2.1,b.2.2.2,a.2.2.2.2.2.1,a.2.2.2.2.2.2.1,a.2.2.2.2.2.2.2,a.1,a.2.1,a.2.2.1,a.2.2.2.1))) (.l (.inr (v.2.1,v.2.2.1,v.2.2.2.1,v.2.2.2.2.1,v.2.2.2.2.2.1,v.2.2.2.2.2.2.1,v.2.2.2.2.2.2.2.1,v.2.2.2.2.2.2.2.2.1,v.2.2.2.2.2.2.2.2.2.1,v.2.2.2.2.2.2.2.2.2.2)))) (.l (.inr (v.2.1,v.2.2.1,v.2.2.2.1,v.2.2.2.2.1,v.2.2.2.2.2.1,v.2.2.2.2.2.2.1,v.2.2.2.2.2.2.2.1,v.2.2.2.2.2.2.2.2.1,v.2.2.2.2.2.2.2.2.2.1,v.2.2.2.2.2.2.2.2.2.2)))
def AY k v:=aB (λv=>(CW k v).ev) v
abbrev Fi:Keep:=yk [] [0,2,3] (yj [.box 64 0,.box 2 0,.box 3 0]) [Zz,Zct,(3,.cells V2)]
def aTh:LD:=yl (CW) (yk [.fz 835,.fz 836,.fz 837,.fz 1859,.fz 1861,.fz 1864] [0,2,3,4,5] (yj [.box 64 0,.box 2 0,.box 3 0,.dat .bool,.dat yi]) [Zz,Zct,(3,.cells V2)]) [(0,Fi)] aE (λk v=>(((),(),(),k.1,v.1,()),(v.2.1,v.2.2.1,v.2.2.2.1,()),((),(),(),k.2.1,k.2.2.1,k.2.2.2.1,k.2.2.2.2,()),(v.2.2.2.2.1,v.2.2.2.2.2.1,v.2.2.2.2.2.2.1,v.2.2.2.2.2.2.2.1,v.2.2.2.2.2.2.2.2.1,v.2.2.2.2.2.2.2.2.2.1,v.2.2.2.2.2.2.2.2.2.2,()),())) (λt=>(t.1.2.2.2.1,t.2.2.1.2.2.2.1,t.2.2.1.2.2.2.2.1,t.2.2.1.2.2.2.2.2.1,t.2.2.1.2.2.2.2.2.2.1)) (λt=>(t.1.2.2.2.2.1,t.2.1.1,t.2.1.2.1,t.2.1.2.2.1,t.2.2.2.1.1,t.2.2.2.1.2.1,t.2.2.2.1.2.2.1,t.2.2.2.1.2.2.2.1,t.2.2.2.1.2.2.2.2.1,t.2.2.2.1.2.2.2.2.2.1,t.2.2.2.1.2.2.2.2.2.2.1)) (λk r=>yx 0 Fi (((),(),(),()),(r.1,r.2.1,r.2.2.1,()),((),(),(),k.2.1,k.2.2.1,k.2.2.2.1,k.2.2.2.2,()),(r.2.2.2.1,r.2.2.2.2.1,r.2.2.2.2.2.1,r.2.2.2.2.2.2.1,r.2.2.2.2.2.2.2.1,r.2.2.2.2.2.2.2.2.1,r.2.2.2.2.2.2.2.2.2,()),()))
def Pn(_k:Int×(List UInt8)×(List UInt8)×Int×Y1×Y2×Y1×Int)(v:Y1×Int×Wo):Tr ((Y1×Int×Wo)⊕(Y1×Int×Wo)):=.c _ (eG 2 v.1 v.2.1 v.2.2.1) λa=>.t (v.2.2.2.2.2<(wrap .i64 ((59:Int)+a.1))) (.c _ (Cc v.2.2.2.1 v.2.2.2.2.1 v.2.2.2.2.2 ([116,111,116,97,108]:List UInt8) ([63]:List UInt8)) λb=>.t (b.2.2.2 != (0:Int)) (.l (.inr (a.2.1,a.2.2.1,a.2.2.2,v.2.2.2.1,v.2.2.2.2.1,v.2.2.2.2.2))) (.l (.inl (a.2.1,a.2.2.1,a.2.2.2,b.1,b.2.1,b.2.2.1)))) (.l (.inr (a.2.1,a.2.2.1,a.2.2.2,v.2.2.2.1,v.2.2.2.2.1,v.2.2.2.2.2)))
def aDz k v:=aB (λv=>(Pn k v).ev) v
def aQt:LD:=yl (Pn) Fi [(3,Fi)] aE (λk v=>(((),(),(),()),(v.1,v.2.1,v.2.2.1,()),((),(),(),k.1,k.2.1,k.2.2.1,k.2.2.2.1,()),(k.2.2.2.2.1,k.2.2.2.2.2.1,k.2.2.2.2.2.2.1,k.2.2.2.2.2.2.2,v.2.2.2.1,v.2.2.2.2.1,v.2.2.2.2.2,()),())) (λt=>(t.2.2.1.2.2.2.1,t.2.2.1.2.2.2.2.1,t.2.2.1.2.2.2.2.2.1,t.2.2.1.2.2.2.2.2.2.1,t.2.2.2.1.1,t.2.2.2.1.2.1,t.2.2.2.1.2.2.1,t.2.2.2.1.2.2.2.1)) (λt=>(t.2.1.1,t.2.1.2.1,t.2.1.2.2.1,t.2.2.2.1.2.2.2.2.1,t.2.2.2.1.2.2.2.2.2.1,t.2.2.2.1.2.2.2.2.2.2.1)) (λk r=>yx 3 Fi (((),(),(),()),(r.1,r.2.1,r.2.2.1,()),((),(),(),k.1,k.2.1,k.2.2.1,k.2.2.2.1,()),(k.2.2.2.2.1,k.2.2.2.2.2.1,k.2.2.2.2.2.2.1,k.2.2.2.2.2.2.2,r.2.2.2.1,r.2.2.2.2.1,r.2.2.2.2.2,()),()))
def NB(m:Y1)(i j:Int):Tr (Y1×Y2×Y1×Int×(List UInt8)×(List UInt8)×Int×b9):=.c _ (aDV m i j) λf=>.c _ (GZ f.1 f.2.1 f.2.2.2.1 f.2.2.1) λe=>.c _ (eG 6 f.2.2.2.2.1 f.2.2.2.2.2.1 f.2.2.2.2.2.2) λh=>.c _ (AY (e.2.2.2.2.1,0,[],[],0) (h.1,h.2.1,h.2.2.1,h.2.2.2,e.2.2.2.2.2.1,e.2.2.2.2.2.2.1,e.2.2.2.2.2.2.2,e.1,e.2.1,e.2.2.1,e.2.2.2.1)) λa=>.c _ (eG 40 a.1 a.2.1 a.2.2.1) λb=>.t (b.1==0) (.l (a.2.2.2.1,a.2.2.2.2.1,a.2.2.2.2.2.1,(-1),a.2.2.2.2.2.2.2.1,a.2.2.2.2.2.2.2.2.1,a.2.2.2.2.2.2.2.2.2,b.2.1,b.2.2.1,b.2.2.2)) (.t (b.1==1) (.l (a.2.2.2.1,a.2.2.2.2.1,a.2.2.2.2.2.1,a.2.2.2.2.2.2.1,a.2.2.2.2.2.2.2.1,a.2.2.2.2.2.2.2.2.1,(wrap .i64 (a.2.2.2.2.2.2.2.2.2+1)),b.2.1,b.2.2.1,b.2.2.2)) (.t (b.1==2) (.l (a.2.2.2.1,a.2.2.2.2.1,a.2.2.2.2.2.1,a.2.2.2.2.2.2.1,[],[],0,b.2.1,b.2.2.1,b.2.2.2)) (.t (b.1==3) (.c _ (aDz (0,[],[],0,a.2.2.2.1,a.2.2.2.2.1,a.2.2.2.2.2.1,a.2.2.2.2.2.2.1) (b.2.1,b.2.2.1,b.2.2.2,a.2.2.2.2.2.2.2.1,a.2.2.2.2.2.2.2.2.1,a.2.2.2.2.2.2.2.2.2)) λg=>.l (a.2.2.2.1,a.2.2.2.2.1,a.2.2.2.2.2.1,a.2.2.2.2.2.2.1,g.2.2.2.1,g.2.2.2.2.1,g.2.2.2.2.2,g.1,g.2.1,g.2.2.1)) (.l (a.2.2.2.1,a.2.2.2.2.1,a.2.2.2.2.2.1,a.2.2.2.2.2.2.1,a.2.2.2.2.2.2.2.1,a.2.2.2.2.2.2.2.2.1,a.2.2.2.2.2.2.2.2.2,b.2.1,b.2.2.1,b.2.2.2)))))
def EH c b a:=(NB c b a).ev
def XZ:FP prog:=aH cx func32 [aIm,aLe,uE,XC,ZP,aKO] (yj [.box 64 0]) [Zz] [.arg 0] (yq4 NB) ⟨[],[.cell 2 34],(yj [.agg V2]),[Zz],[(0,0,64)],[]⟩ (λr=>(((r.1,r.2.1,r.2.2.1,r.2.2.2.1,r.2.2.2.2.1,r.2.2.2.2.2.1,r.2.2.2.2.2.2.1,()),()),(r.2.2.2.2.2.2.2.1,r.2.2.2.2.2.2.2.2.1,r.2.2.2.2.2.2.2.2.2,()),())) bU [(0,aTh),(3,aQt)]
def aDq(b:Y1):Tr (Y1×Y2×Y1×Wo):=.c _ (EH b 0 0) λa=>.l (a.1,a.2.1,a.2.2.1,a.2.2.2.1,a.2.2.2.2.1,a.2.2.2.2.2.1,a.2.2.2.2.2.2.1)
def aEM a:=(aDq a).ev
def aTt:FP prog:=aH cx func9 [XZ] Zdj [] [] (oM aDq) (yr [.cell 2 34] (yj [.agg V2])) (λr=>(((r.1,r.2.1,r.2.2.1,r.2.2.2.1,r.2.2.2.2.1,r.2.2.2.2.2.1,r.2.2.2.2.2.2,()),()),()))
def aAq(e:Y1):Tr Ydi:=.c _ (EH e 0 0) λa=>.c _ (El a.2.2.2.2.2.2.2.1 a.2.2.2.2.2.2.2.2.1 a.2.2.2.2.2.2.2.2.2) λb=>.l (a.1,a.2.1,a.2.2.1,a.2.2.2.1,a.2.2.2.2.1,a.2.2.2.2.2.1,a.2.2.2.2.2.2.1,b.1)
def ZQ a:=(aAq a).ev
abbrev WE:RetK:=yr [.cell 2 34,.tmp 3] (yj [.agg V2,.dat .str])
abbrev DZ{a b c d e g h i:Type}(r:a×b×c×d×e×g×h×i):=(((r.1,r.2.1,r.2.2.1,r.2.2.2.1,r.2.2.2.2.1,r.2.2.2.2.2.1,r.2.2.2.2.2.2.1,()),r.2.2.2.2.2.2.2,()),())
def aRz:FP prog:=aH cx func11 [XZ,XC] Zdj [] [] (oM aAq) WE DZ
def bO(b:List UInt8)(a:Int):Option Int:=some (jU b a)
def gF:FD:=xW
theorem fN:eF prog (209,gF):=B8 func209 (by kernel_rfl) (by kernel_rfl) (by kernel_rfl) (by kernel_rfl)
def gD:FP prog:=⟨_,fN⟩
def bD(e:List UInt8)(b:Int):Tr Int:=.c _ (bO e b) λa=>.l a
def bE b a:=(bD b a).ev
def dE:FP prog:=aH cx func131 [gD] (yj [.dat .str,.dat (.int .u8)]) [] [] (dG bD) lJ bN
def aDk(e:List UInt8)(b:Int):Tr Int:=.c _ (bE e b) λa=>.l a
def JR b a:=(aDk b a).ev
def aPP:FP prog:=aH cx func81 [dE] (yj [.dat .str,.dat (.int .u8)]) [] [] (dG aDk) lJ bN
def cG(b a:List UInt8):Tr Int:=.t ((length a:Int)==(0:Int)) (.l 0) (.t (a==b) (.l 0) (.t ((length a:Int)==(1:Int)) (.g (aC 0 (length a))<|.c _ (bE b ((UInt8.toNat (getD a (toNat 0) 0):Nat):Int)) λe=>.l e) (.g ((length b:Int)<=(length a:Int))<|.l (-1))))
def bB b a:=(cG b a).ev
def eD:FP prog:=aH cx func149 [dE] Ue [] [] (dG cG) lJ bN
def cW(b e:List UInt8):Tr ((List UInt8)×Lp):=.c _ (bB b e) λa=>.t (0<=a) (.g ((0<=a)&&(a<=(length b:Int)))<|.g (((0:Int)<=(wrap .i64 (a+(length e:Int))))&&((wrap .i64 (a+(length e:Int)))<=(length b:Int)))<|.l ((List.drop 0 (List.take (toNat a) b)),(List.drop (toNat (wrap .i64 (a+(length e:Int)))) (List.take (length b) b)),true)) (.l (b,[],false))
def eK b a:=(cW b a).ev
abbrev TP:RetK:=yr [.tmp 4,.tmp 5,.tmp 6] (yj [.dat .str,.dat .str,.dat .bool])
abbrev GY{a b c:Type}(r:a×b×c):=((r.1,r.2.1,r.2.2,()),())
def lK:FP prog:=aH cx func132 [eD] Ue [] [] (dG cW) TP GY
def YH(e b:List UInt8):Tr ((List UInt8)×Lp):=.c _ (eK e b) λa=>.l (a.1,a.2.1,a.2.2)
def T5 b a:=(YH b a).ev
def aGR:FP prog:=aH cx func83 [lK] Ue [] [] (dG YH) TP GY
def aEj(e b:List UInt8):Tr Int:=.c _ (bB e b) λa=>.l a
def aKg b a:=(aEj b a).ev
def aQH:FP prog:=aH cx func98 [eD] Ue [] [] (dG aEj) lJ bN
def aCa(e b:List UInt8):Tr Bool:=.c _ (aKg e b) λa=>.l (0<=a)
def Dk b a:=(aCa b a).ev
def aLn:FP prog:=aH cx func67 [aQH] Ue [] [] (dG aCa) dC bN
def EE(k:(List UInt8)×Int)(v:Int×Int):Tr (jI⊕Int):=.t (v.2<k.2) (.g (aC v.2 (length k.1))<|.g (!decide ((999979:Int)=0))<|.l (.inl ((Int.tmod (wrap .i64 ((wrap .i64 ((wrap .i64 ((41:Int)*v.1))+(wrap .i64 ((UInt8.toNat (getD k.1 (toNat v.2) 0):Nat):Int))))+1)) 999979),(wrap .i64 (v.2+1))))) (.l (.inr v.1))
def aKD k v:=aB (λv=>(EE k v).ev) v
def aPM:LD:=yl (EE) (yh [0,3,6,7] (yj [.dat .str,.dat yi,.dat yi,.dat yi])) [(0,jM)] aE (λk v=>((k.1,v.1,k.2,v.2,()),())) VT (λt=>(t.1.2.1,t.1.2.2.2.1)) (λ_ r=>yx 0 jM ((r,()),()))
def aEL(a:List UInt8):Tr Int:=.c _ (aKD (a,(length a:Int)) (7,0)) λb=>.l b
def aEq a:=(aEL a).ev
def aPV:FP prog:=aH cx func189 [] Fz [] [] (oM aEL) oB bN bU [(0,aPM)]
def pI(a:Int):Option (List UInt8):=L3 a
def aRp:FD:=ET
theorem aTm:eF prog (100,aRp):=Tl
def IM:FP prog:=⟨_,aTm⟩
def Qv(a:List UInt8):Tr Lp:=.t ((4000:Int)<(length a:Int)) (.l ([],false)) (.c _ (Dk a ([35]:List UInt8)) λf=>.t f (.l ([],false)) (.g (length a+length ([35]:List UInt8)<=9223372036854775807)<|.c _ (aEq a) λe=>.c _ (pI e) λb=>.g (length (a++([35]:List UInt8))+length b<=9223372036854775807)<|.t ((4000:Int)<(length ((a++([35]:List UInt8))++b):Int)) (.l ([],false)) (.l (((a++([35]:List UInt8))++b),true))))
def R7 a:=(Qv a).ev
abbrev HS:RetK:=yr [.tmp 2,.tmp 3] (yj [.dat .str,.dat .bool])
def aLy:FP prog:=aH cx func122 [aLn,aPV,IM] Fz [] [] (oM Qv) HS dO
def aDG(e:List UInt8):Tr Lp:=.c _ (T5 e ([35]:List UInt8)) λb=>.c _ (R7 b.1) λa=>.t (!a.2) (.l ([],false)) (.t (!(a.1==e)) (.l ([],false)) (.l (b.1,true)))
def aGb a:=(aDG a).ev
def aPO:FP prog:=aH cx func82 [aGR,aLy] Fz [] [] (oM aDG) HS dO
def Ww(k:(List UInt8)×jI)(v:Int):Tr (Int⊕(Unit⊕Unit)):=.t (v<k.2.2) (.g (aC v (length k.1))<|.t (((UInt8.toNat (getD k.1 (toNat v) 0):Nat):Int)<(32:Int)) (.l (.inr (.inr ()))) (.g (aC v (length k.1))<|.t ((126:Int)<((UInt8.toNat (getD k.1 (toNat v) 0):Nat):Int)) (.l (.inr (.inr ()))) (.g (aC v (length k.1))<|.t (((UInt8.toNat (getD k.1 (toNat v) 0):Nat):Int)==(35:Int)) (.l (.inr (.inr ()))) (.l (.inl (wrap .i64 (v+1))))))) (.l (.inr (.inl ())))
def aHl k v:=aB (λv=>(Ww k v).ev) v
def aQg:LD:=yl (Ww) (yh [0,1,7,8] (yj [.dat .str,.dat yi,.dat yi,.dat yi])) [(0,Lv)] gI xY xR rQ (λk r=>.s _ _ r (λ_=>yx 0 Lv ((k.1,k.2.1,()),())) (λ_=>yz gI ((false,()),())))
def aBm(a:List UInt8)(b:Int):Tr Bool:=.c _ (aHl (a,b,(length a:Int)) 0) λe=>.s _ _ e (λ_=>.l ((length a:Int)<=b)) (λ_=>.l false)
def MC b a:=(aBm b a).ev
def aMc:FP prog:=aH cx func66 [] (yj [.dat .str,.dat yi]) [] [] (dG aBm) dC bN bU [(0,aQg)]
def ZN(a f:List UInt8):Tr Bool:=.t (!(a==([]:List UInt8))) (.c _ (MC a 160) λg=>.t g (.c _ (MC f 200) λb=>.t b (.c _ (Dk a ([64]:List UInt8)) λe=>.l (!e)) (.l false)) (.l false)) (.l false)
def BB b a:=(ZN b a).ev
def ZK:FP prog:=aH cx func34 [aMc,aLn] (yj [.agg Ue]) [] [] (jZ ZN) Dt bN
def aBe(h:Int)(b f:List UInt8):Tr Lp:=.c _ (B9 h 0 59) λj=>.t (!j) (.l ([],false)) (.c _ (BB b f) λi=>.t (!i) (.l ([],false)) (.c _ (pI h) λa=>.g (length a+length ([32]:List UInt8)<=9223372036854775807)<|.g (length (a++([32]:List UInt8))+length b<=9223372036854775807)<|.g (length ((a++([32]:List UInt8))++b)+length ([64]:List UInt8)<=9223372036854775807)<|.g (length (((a++([32]:List UInt8))++b)++([64]:List UInt8))+length f<=9223372036854775807)<|.c _ (R7 ((((a++([32]:List UInt8))++b)++([64]:List UInt8))++f)) λe=>.g (length e.1+length ([10]:List UInt8)<=9223372036854775807)<|.l ((e.1++([10]:List UInt8)),e.2)))
def PY c b a:=(aBe c b a).ev
abbrev Mv:RetK:=yr [.tmp 4,.tmp 5] (yj [.dat .str,.dat .bool])
def aHk:FP prog:=aH cx func72 [Ca,ZK,IM,aLy] (yj [.dat yi,.agg Ue]) [] [] (CH aBe) Mv dO
def Kb(k:List UInt8)(v:Int×(List Gc)):Tr ((Int×(List Gc))⊕(Int×(List Gc))):=.g ((0<=v.1)&&(v.1<=(length k:Int)))<|.c _ (JR (List.drop (toNat v.1) (List.take (length k) k)) 10) λa=>.t (a<0) (.l (.inr (v.1,v.2))) (.g ((0<=v.1)&&(v.1<=(wrap .i64 ((wrap .i64 (v.1+a))+1)))&&((wrap .i64 ((wrap .i64 (v.1+a))+1))<=(length k:Int)))<|.g ((0<=a)&&(a<=(length (List.drop (toNat v.1) (List.take (toNat (wrap .i64 ((wrap .i64 (v.1+a))+1))) k)):Int)))<|.c _ (aGb (List.drop 0 (List.take (toNat a) (List.drop (toNat v.1) (List.take (toNat (wrap .i64 ((wrap .i64 (v.1+a))+1))) k))))) λh=>.c _ (T5 h.1 ([32]:List UInt8)) λf=>.c _ (T5 f.2.1 ([64]:List UInt8)) λb=>.c _ (PY (length v.2:Int) b.1 b.2.1) λe=>.t (!e.2) (.l (.inr (v.1,v.2))) (.t (!(e.1==(List.drop (toNat v.1) (List.take (toNat (wrap .i64 ((wrap .i64 (v.1+a))+1))) k)))) (.l (.inr (v.1,v.2))) (.g ((length v.2+length ([(b.1,b.2.1)]:List Gc))*32<=140737488355328)<|.l (.inl ((wrap .i64 ((wrap .i64 (v.1+a))+1)),(v.2++([(b.1,b.2.1)]:List Gc)))))))
def aJk k v:=aB (λv=>(Kb k v).ev) v
abbrev WI:Keep:=yk [] [2,3] (yj [.arr 19,.dat yi]) [(19,.arr 48 (.pair .str .str))]
def aTI:LD:=yl (Kb) (yk [] [0,4,5] (yj [.dat .str,.arr 19,.dat yi]) [(19,.arr 48 (.pair .str .str))]) [] WI Eu oG Ch (λ_ r=>yz WI (((),r.1,()),r.2,()))
def aBT(b:List UInt8):Tr (Int×(List Gc)):=.c _ (aJk b (0,([]:List Gc))) λa=>.l (a.1,a.2)
def Yh a:=(aBT a).ev
def aHe:FP prog:=aH cx func42 [aPP,aPO,aGR,aHk] Fz [] [] (oM aBT) ⟨[.ren 19 0],[.tmp 2,.tmp 3],(yj [.arr 0,.dat yi]),[(0,.arr 48 (.pair .str .str))],[],[]⟩ gN bU [(0,aTI)]
def YW(a b:List UInt8)(h:Int):Tr Bool:=.g (length a+length b<=9223372036854775807)<|.t ((30000:Int)<(length (a++b):Int)) (.l false) (.c _ (Yh (a++b)) λe=>.c _ (Yh a) λf=>.t (e.1==(length (a++b):Int)) (.t (f.1==(length a:Int)) (.l (h==(length e.2:Int))) (.l false)) (.l false))
def AF c b a:=(YW c b a).ev
def aCO:FP prog:=aH cx func40 [aHe] (yj [.agg Zcz]) [] [] (BS YW) Dt bN
def Bz(m:Y1)(e:List Y1)(i:Y1)(f:Int)(g h:List UInt8)(b:Int):Tr Bool:=.c _ (iK m e i f) λj=>.t j (.c _ (AF g h b) λa=>.l a) (.l false)
def pS h c g b e f a:=(Bz h c g b e f a).ev
def aFi:FP prog:=aH cx func15 [MI,aCO] (yj [.agg V2]) [] [] (UN Bz) Dt bN
def P3(b a:List UInt8):Option (List (List UInt8)):=sN b a
def aMa:FD:=Lq
theorem aPR:eF prog (47,aMa):=Ka
def aEz:FP prog:=⟨_,aPR⟩
def aDJ(a:List UInt8):Option (Int×Bool):=A7 a
def aNQ:FD:=X6
theorem aRc:eF prog (68,aNQ):=Hw
def aNg:FP prog:=⟨_,aRc⟩
def Uj(k:(List (List UInt8))×(List UInt8)×Int)(v:Int):Tr (Int⊕(Unit⊕Int)):=.t (v<k.2.2) (.g (aC v (length k.1))<|.t (k.2.1==(getD k.1 (toNat v) [])) (.l (.inr (.inr v))) (.l (.inl (wrap .i64 (v+1))))) (.l (.inr (.inl ())))
def aDQ k v:=aB (λv=>(Uj k v).ev) v
def aPz:LD:=yl (Uj) (yh [0,1,7,8] (yj [.dat (.slice .str),.dat .str,.dat yi,.dat yi])) [(0,aE)] rV xY xR rQ (λ_ r=>.s _ _ r (λ_=>yx 0 aE ((),())) (λb=>yz rV ((b,()),())))
def aGV(a:List (List UInt8))(e:List UInt8):Tr Int:=.c _ (aDQ (a,e,(length a:Int)) 0) λf=>.s _ _ f (λ_=>.l (-1)) (λb=>.l b)
def aSJ b a:=(aGV b a).ev
def aQY:FP prog:=aH cx func101 [] (yj [.dat (.slice .str),.dat .str]) [] [] (dG aGV) lJ bN bU [(0,aPz)]
end
end Go.Proofs.YtjiljcblmgeioaaGreatDoor
