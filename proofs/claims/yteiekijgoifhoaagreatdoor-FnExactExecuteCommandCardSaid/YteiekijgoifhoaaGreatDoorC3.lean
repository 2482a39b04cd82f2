/- A part of the proof that FnExactExecuteCommand hands back true, at every argument of the row. -/
import Derived.Test.YteiekijgoifhoaaGreatDoorB62
namespace Go.Proofs.YteiekijgoifhoaaGreatDoor
set_option linter.all false
noncomputable section
open Go.Proofs.Tryz
open List (length getD set)
open Int (toNat)
open IntKind (wrap)
abbrev yi:Ty:=.int .i64
abbrev y1:Ty:=.slice yi
abbrev y2:Ty:=.slice y1
abbrev y3:Ty:=.slice y2
abbrev Y1:Type:=List Int
abbrev Y2:Type:=List Y1
abbrev Y3:Type:=List Y2
abbrev ys(l:List Nat)(s:Sh):SSh:= {slots:=l,sh:=s,obs:=[]}
abbrev yd(A:Sh)(I:List (Nat×OSh))(L:List LP)(R:Type)(F:A.I×OL I->Option R)(e:R->List AV×List (Nat×Ob)):FD:= {A:=A,ins:=I,lend:=L,R:=R,F:=F,emb:=e}
abbrev Np:List UInt8:=([0,1,2,2,3,3,3,3,4,4,4,4,4,4,4,4,5,5,5,5,5,5,5,5,5,5,5,5,5,5,5,5,6,6,6,6,6,6,6,6,6,6,6,6,6,6,6,6,6,6,6,6,6,6,6,6,6,6,6,6,6,6,6,6,7,7,7,7,7,7,7,7,7,7,7,7,7,7,7,7,7,7,7,7,7,7,7,7,7,7,7,7,7,7,7,7,7,7,7,7,7,7,7,7,7,7,7,7,7,7,7,7,7,7,7,7,7,7,7,7,7,7,7,7,7,7,7,7,8,8,8,8,8,8,8,8,8,8,8,8,8,8,8,8,8,8,8,8,8,8,8,8,8,8,8,8,8,8,8,8,8,8,8,8,8,8,8,8,8,8,8,8,8,8,8,8,8,8,8,8,8,8,8,8,8,8,8,8,8,8,8,8,8,8,8,8,8,8,8,8,8,8,8,8,8,8,8,8,8,8,8,8,8,8,8,8,8,8,8,8,8,8,8,8,8,8,8,8,8,8,8,8,8,8,8,8,8,8,8,8,8,8,8,8,8,8,8,8,8,8,8,8,8,8,8,8]:List UInt8)
abbrev bR:Sh:=yj [.dat y1,.dat y2]
abbrev bK:Nat:=IntKind.bits .u64
abbrev qC:Sh:=yj [.dat y1,.dat y2,.dat y1,.dat yi]
abbrev A7:Sh:=yj [.dat yi,.dat y1,.dat (.slice .bool),.dat y1,.dat y1]
abbrev fO:Type:=(List Nat)×Y2
abbrev qW:Type:=HL [y1,y1]->Option Int
abbrev eN:Sh:=yj [.dat yi]
abbrev Wj:Sh:=yj [.dat y1,.dat y2,.dat y1,.dat yi,.dat .str,.dat .str,.dat yi]
abbrev jK:Nat×OSh:=(1,.cells bR)
abbrev Me:Sh:=yj [.dat yi,.arr 64,.arr 65,.arr 66,.arr 67]
abbrev iC:Type:=Int×Int
abbrev gI:Type:=Int×Y1
abbrev mS:Nat×OSh:=(64,.arr 3 yi)
abbrev Du:Type:=Y1×(List Bool)×Y1×Y1
abbrev Ss:Nat×OSh:=(4,.cells (yj [.arr 25,.arr 1920,.arr 2112]))
abbrev Wc:Nat×OSh:=(4,.cells (yj [.nilsl,.nilsl,.nilsl,.dat yi]))
abbrev Tq:Nat×OSh:=(2,.cells (yj [.nilsl,.nilsl,.nilsl]))
abbrev Hg:Type:=(List UInt8)×(List UInt8)
abbrev o7:Type:=Int×Y1×Y2
abbrev rS:Nat×OSh:=(0,.arr 3 yi)
abbrev Sn:Sh:=yj [.dat .str,.dat .str,.dat yi]
abbrev w8:Nat×OSh:=(64,.perm 22 3 yi)
abbrev EC:Sh:=yj [.dat yi,.dat yi,.dat yi,.dat yi,.dat y1]
abbrev Wg:Sh:=yj [.box 64 0,.box 65 0,.box 66 0]
abbrev DS:Type:=Y1×Y2×Y1×Int×(List UInt8)
abbrev xF:Nat×OSh:=(2,.cells bR)
abbrev N0:Type:=Y1×Y2×Int
abbrev ZD:Nat×OSh:=(4,.cells (yj [.dat yi,.nilsl,.nilsl,.nilsl,.nilsl]))
abbrev Kr:Sh:=yj [.arr 0,.dat .bool]
abbrev Nj:Sh:=yj [.dat .str,.dat .str]
abbrev N2:Type:=Y1×Y2×Y1
abbrev Lx:Type:=(List UInt8)×Bool
abbrev zY:Sh:=yj [.arr 0]
abbrev Zbi:Nat×OSh:=(2,.cells (yj [.dat yi,.arr 900321,.nilsl,.arr 900323,.arr 900324]))
abbrev o5:Type:=Bool×Y1
abbrev Fv:Type:=Y1×Y1×Y1
abbrev N1:Sh:=yj [.dat y1]
abbrev DV:Type:=HL [yi,yi]->Option Int
abbrev Fr:Nat×OSh:=(2112,.arr 3 yi)
abbrev Ybo:Type:=Int×Int×Bool×Bool×fO
abbrev Zbp:Nat×OSh:=(4,.cells (yj [.arr 901340,.nilsl,.arr 901342,.dat yi]))
abbrev Zbq:Nat×OSh:=(6,.cells (yj [.arr 13888,.arr 1860,.arr 1861,.dat yi]))
def aKD:List (Nat×TD):=[(3,.sc yi),(4,.sc .bool),(5,.sc (.int .u8)),(9,.sc .str),(22,.sl 3 yi 8),(23,.sl 22 y1 24),(25,.st (.pair y1 y2) [(22,y1),(23,y2)]),(27,.st (.pair (.pair y1 y2) (.pair y1 yi)) [(25,(.pair y1 y2)),(22,y1),(3,yi)]),(29,.st (.pair .str (.pair .str yi)) [(9,.str),(9,.str),(3,yi)]),(31,.st (.pair (.pair (.pair y1 y2) (.pair y1 yi)) (.pair .str (.pair .str yi))) [(27,(.pair (.pair y1 y2) (.pair y1 yi))),(29,(.pair .str (.pair .str yi)))]),(33,.sl 9 .str 16),(36,.st (.pair y1 y2) [(22,y1),(23,y2)]),(38,.st (.pair (.pair y1 y2) (.pair y1 yi)) [(36,(.pair y1 y2)),(22,y1),(3,yi)]),(39,.st (.pair .str (.pair .str yi)) [(9,.str),(9,.str),(3,yi)]),(41,.st (.pair (.pair (.pair y1 y2) (.pair y1 yi)) (.pair .str (.pair .str yi))) [(38,(.pair (.pair y1 y2) (.pair y1 yi))),(39,(.pair .str (.pair .str yi)))]),(59,.sl 63 (.pair .str .str) 32),(63,.st (.pair .str .str) [(9,.str),(9,.str)]),(93,.sc (.int .u64)),(124,.st (.pair y1 (.pair y1 y1)) [(22,y1),(22,y1),(22,y1)]),(156,.st (.pair yi (.pair yi (.pair yi (.pair yi y1)))) [(3,yi),(3,yi),(3,yi),(3,yi),(22,y1)]),(183,.sc (.int .u64)),(259,.sc (.int .u64)),(275,.sl 4 .bool 1),(277,.st (.pair yi (.pair y1 (.pair (.slice .bool) (.pair y1 y1)))) [(3,yi),(22,y1),(275,(.slice .bool)),(22,y1),(22,y1)])]
def tt:Nat->TD:=λi=>match aI aKD i with |some d=>d |none=>.no
theorem mixed:prog.follows .mixedOrders=true:=by kernel_rfl
theorem Vh:aT prog tt:=RG (by kernel_rfl)
theorem cx:Cx prog tt:=⟨mixed,Vh⟩
def TI(b:Y1)(a:Int):Tr Int:=.t ((wrap .i64 (a-(length b:Int)))<(0:Int)) (.l (-1)) (.l (wrap .i64 (a-(length b:Int))))
def Kd b a:=(TI b a).ev
abbrev kJ{a b c d:Type}{z:Type _}(f:a->b->z)(x:(a×b×c)×d):z:=f x.1.1 x.1.2.1
abbrev pG:RetK:=yr [.tmp 4] eN
abbrev bH{a:Type}(r:a):=((r,()),())
def FI:FP prog:=aG cx func105 [] (yj [.dat y1,.dat yi]) [] [] (kJ TI) pG bH
def wur(k:List Y1)(v:Int×Int):Tr (iC⊕(Int⊕Unit)):=.t (v.2<(length k:Int)) (.g (aB v.2 (length k))<|.c _ (Kd (getD k (toNat v.2) []) v.1) λa=>.t (a<0) (.l (.inr (.inr ()))) (.l (.inl (a,(wrap .i64 (v.2+1)))))) (.l (.inr (.inl v.1)))
def PN k v:=aC (λv=>(wur k v).ev) v
abbrev yq3:Keep:=yh [0,1,5] (yj [.dat y2,.dat yi,.dat yi])
abbrev yq4:Keep:=yh [1] eN
abbrev Aj:Keep:=yh [4] eN
abbrev Wn{a b c:Type}(k:a)(v:b×c):=((k,v.1,v.2,()),())
abbrev R2{a b c:Type}(t:(a×b)×c):=t.1.1
abbrev C6{a b c d e:Type}(t:(a×b×c×d)×e):=(t.1.2.1,t.1.2.2.1)
def aUv:LD:=yl (wur) yq3 [(0,yq4)] Aj Wn R2 C6 (λ_ r=>.s _ _ r (λa=>yx 0 yq4 ((a,()),())) (λ_=>yz Aj (((-1),()),())))
def QJ(a:List Y1)(b:Int):Tr Int:=.t ((wrap .i64 (b-(length a:Int)))<(0:Int)) (.l (-1)) (.c _ (PN a ((wrap .i64 (b-(length a:Int))),0)) λe=>.s _ _ e (λf=>.l f) (λ_=>.l (-1)))
def TQ b a:=(QJ b a).ev
def aMP:FP prog:=aG cx func180 [FI] (yj [.dat y2,.dat yi]) [] [] (kJ QJ) pG bH bU [(0,aUv)]
def WS(f:Y1)(e:List Y1)(g:Int):Tr Int:=.c _ (Kd f g) λb=>.t (b<0) (.l (-1)) (.c _ (TQ e b) λa=>.t (a<0) (.l (-1)) (.l a))
def VI b a c:=(WS b a c).ev
abbrev jB{a b c d e g:Type}{z:Type _}(f:a->b->d->z)(x:((a×b×c)×d×e)×g):z:=f x.1.1.1 x.1.1.2.1 x.1.2.1
def aId:FP prog:=aG cx func104 [FI,aMP] (yj [.agg bR,.dat yi]) [] [] (jB WS) pG bH
def XE(g:Y1)(f:List Y1)(h:Y1)(_i e:Int):Tr Int:=.c _ (VI g f e) λb=>.t (b<0) (.l (-1)) (.c _ (Kd h b) λa=>.t (a<0) (.l (-1)) (.l a))
def TS e c f a b:=(XE e c f a b).ev
abbrev Fd{a b c d e g h i:Type}{z:Type _}(f:a->b->c->d->g->z)(x:((a×b×c×d×e)×g×h)×i):z:=f x.1.1.1 x.1.1.2.1 x.1.1.2.2.1 x.1.1.2.2.2.1 x.1.2.1
def aQM:FP prog:=aG cx func48 [aId,FI] (yj [.agg qC,.dat yi]) [] [] (Fd XE) pG bH
def YF(a c:List UInt8)(_e b:Int):Tr Int:=.t ((wrap .i64 (b-(length a:Int)))<(0:Int)) (.l (-1)) (.t ((wrap .i64 ((wrap .i64 (b-(length a:Int))) -(length c:Int)))<(0:Int)) (.l (-1)) (.l (wrap .i64 ((wrap .i64 (b-(length a:Int))) -(length c:Int)))))
def SL b a e c:=(YF b a e c).ev
def aOh:FP prog:=aG cx func49 [] (yj [.agg Sn,.dat yi]) [] [] ((λf x=>f x.1.1.1 x.1.1.2.1 x.1.1.2.2.1 x.1.2.1) YF) pG bH
def EU(j:Y1)(i:List Y1)(n:Y1)(f:Int)(h e:List UInt8)(m g:Int):Tr Int:=.c _ (TS j i n f g) λb=>.t (b<0) (.l (-1)) (.c _ (SL h e m b) λa=>.t (a<0) (.l (-1)) (.l a))
def aFp g f i c e b h a:=(EU g f i c e b h a).ev
abbrev Qw{a b c d e g h i j l m:Type}{z:Type _}(f:a->b->c->d->e->g->h->j->z)(x:((a×b×c×d×e×g×h×i)×j×l)×m):z:=f x.1.1.1 x.1.1.2.1 x.1.1.2.2.1 x.1.1.2.2.2.1 x.1.1.2.2.2.2.1 x.1.1.2.2.2.2.2.1 x.1.1.2.2.2.2.2.2.1 x.1.2.1
def aIZ:FP prog:=aG cx func9 [aQM,aOh] (yj [.agg Wj,.dat yi]) [] [] (Qw EU) pG bH
def wus(k:Y1)(v:Int×Y1):Tr (gI⊕Y1):=.t (v.1<(length k:Int)) (.g (aB v.1 (length k))<|.g (aB v.1 (length v.2))<|.g ((toNat v.1)<length v.2)<|.l (.inl ((wrap .i64 (v.1+1)),(set v.2 (toNat v.1) (getD k (toNat v.1) 0))))) (.l (.inr v.2))
def aGB k v:=aC (λv=>(wus k v).ev) v
abbrev aGJ:Keep:=yk [] [3] (yj [.arr 7]) [(7,.arr 3 yi)]
abbrev bC:Keep:=yh [] .nil
abbrev Ec{a b c:Type}(k:a)(v:b×c):=((k,(),v.1,()),v.2,())
abbrev Eo{a b c d e g:Type}(t:(a×b×c×d)×e×g):=(t.1.2.2.1,t.2.1)
def aTR:LD:=yl (wus) (yk [] [0,3,4] (yj [.dat y1,.arr 7,.dat yi]) [(7,.arr 3 yi)]) [(0,aGJ)] bC Ec R2 Eo (λ_ r=>yx 0 aGJ (((),()),r,()))
def JL(a:Y1):Tr Y1:=.g (((0:Int)<=(length a:Int))&&((length a:Int)<=(length a:Int))&&(((8:Nat):Int)*(length a:Int)<=281474976710656))<|.c _ (aGB a (0,(List.replicate (toNat (length a:Int)) 0))) λb=>.l b
def Ur a:=(JL a).ev
abbrev qH{a b c:Type}{z:Type _}(f:a->z)(x:(a×b)×c):z:=f x.1.1
abbrev xJ{a:Type}(r:a):=(((),()),r,())
def WF:FP prog:=aG cx func107 [] N1 [] [] (qH JL) ⟨[.ren 7 0],[.tmp 2],zY,[rS],[],[]⟩ xJ bU [(0,aTR)]
def wut(k:List Y1)(v:Int×Y2):Tr ((Int×Y2)⊕Y2):=.t (v.1<(length k:Int)) (.g (aB v.1 (length k))<|.c _ (Ur (getD k (toNat v.1) [])) λa=>.g (aB v.1 (length v.2))<|.g ((toNat v.1)<length v.2)<|.l (.inl ((wrap .i64 (v.1+1)),(set v.2 (toNat v.1) a)))) (.l (.inr v.2))
def aCp k v:=aC (λv=>(wut k v).ev) v
abbrev aEx:Keep:=yk [] [3] (yj [.arr 7]) [(7,.rows 22 3 yi)]
def aRD:LD:=yl (wut) (yk [] [0,3,4] (yj [.dat y2,.arr 7,.dat yi]) [(7,.rows 22 3 yi)]) [(0,aEx)] bC Ec R2 Eo (λ_ r=>yx 0 aEx (((),()),r,()))
def VU(a:List Y1):Tr Y2:=.g (((0:Int)<=(length a:Int))&&((length a:Int)<=(length a:Int))&&(((24:Nat):Int)*(length a:Int)<=281474976710656))<|.c _ (aCp a (0,(List.replicate (toNat (length a:Int)) []))) λb=>.l b
def FJ a:=(VU a).ev
def aTv:FP prog:=aG cx func181 [WF] (yj [.dat y2]) [] [] (qH VU) ⟨[.ren 7 0],[.tmp 2],zY,[(0,.rows 22 3 yi)],[],[]⟩ xJ (Fq [(1,[(2,[1000000])])]) [(0,aRD)]
def YN(e:Y1)(b:List Y1):Tr (Y1×Y2):=.c _ (Ur e) λf=>.c _ (FJ b) λa=>.l (f,a)
def PV b a:=(YN b a).ev
abbrev g7{a b c d e:Type}{z:Type _}(f:a->b->z)(x:((a×b×c)×d)×e):z:=f x.1.1.1 x.1.1.2.1
def aTG:FP prog:=aG cx func106 [WF,aTv] (yj [.agg bR]) [] [] (g7 YN) ⟨[.ren 384 4,.ren 640 5],[.cell 2 36],(yj [.agg (yj [.arr 4,.arr 5])]),[(4,.arr 3 yi),(5,.rows 22 3 yi)],[],[]⟩ (λr=>((((),(),()),()),r.1,r.2,()))
def QK(g:Y1)(f:List Y1)(h:Y1)(b:Int):Tr (Int×N2):=.c _ (PV g f) λa=>.c _ (Ur h) λe=>.l (b,a.1,a.2,e)
def QS b a e c:=(QK b a e c).ev
abbrev G4{a b c d e g h:Type}{z:Type _}(f:a->b->c->d->z)(x:((a×b×c×d×e)×g)×h):z:=f x.1.1.1 x.1.1.2.1 x.1.1.2.2.1 x.1.1.2.2.2.1
abbrev Rm{a b c d:Type}(r:a×b×c×d):=((((),(),(),r.1,()),()),r.2.1,r.2.2.1,r.2.2.2,())
def aRG:FP prog:=aG cx func50 [aTG,WF] (yj [.agg qC]) [] [] (G4 QK) ⟨[.ren 388 4,.ren 389 5,.ren 640 6],[.cell 2 38],(yj [.agg (yj [.arr 4,.arr 5,.arr 6,.dat yi])]),[(4,.arr 3 yi),(5,.rows 22 3 yi),(6,.arr 3 yi)],[],[]⟩ Rm
def GA(b a:List UInt8)(c:Int):Tr ((List UInt8)×(List UInt8)×Int):=.l (b,a,c)
def IS b a c:=(GA b a c).ev
abbrev YP{a b c d e g:Type}{z:Type _}(f:a->b->c->z)(x:((a×b×c×d)×e)×g):z:=f x.1.1.1 x.1.1.2.1 x.1.1.2.2.1
def aPB:FP prog:=aG cx func51 [] (yj [.agg Sn]) [] [] (YP GA) (yr [.cell 2 39] (yj [.agg Sn])) (λr=>(((r.1,r.2.1,r.2.2,()),()),()))
def VG(i:Y1)(h:List Y1)(m:Y1)(f:Int)(g e:List UInt8)(j:Int):Tr (Int×(List UInt8)×(List UInt8)×Int×N2):=.c _ (QS i h m f) λa=>.c _ (IS g e j) λb=>.l (a.1,b.1,b.2.1,b.2.2,a.2.1,a.2.2.1,a.2.2.2)
def Ta f e h b c a g:=(VG f e h b c a g).ev
abbrev QD{a b c d e g h i j l:Type}{z:Type _}(f:a->b->c->d->e->g->h->z)(x:((a×b×c×d×e×g×h×i)×j)×l):z:=f x.1.1.1 x.1.1.2.1 x.1.1.2.2.1 x.1.1.2.2.2.1 x.1.1.2.2.2.2.1 x.1.1.2.2.2.2.2.1 x.1.1.2.2.2.2.2.2.1
def aSO:FP prog:=aG cx func11 [aRG,aPB] (yj [.agg Wj]) [] [] (QD VG) ⟨[.ren 388 4,.ren 389 5,.ren 390 6],[.cell 2 41],(yj [.agg (yj [.arr 4,.arr 5,.arr 6,.dat yi,.dat .str,.dat .str,.dat yi])]),[(4,.arr 3 yi),(5,.rows 22 3 yi),(6,.arr 3 yi)],[],[]⟩ (λr=>((((),(),(),r.1,r.2.1,r.2.2.1,r.2.2.2.1,()),()),r.2.2.2.2.1,r.2.2.2.2.2.1,r.2.2.2.2.2.2,()))
def JY(a:Y1):Tr Y1:=.g ((length ([]:Y1)+length a)*8<=140737488355328)<|.l (([]:Y1)++a)
def Nh a:=(JY a).ev
def Ka:FP prog:=aG cx func121 [] N1 [] [] (qH JY) ⟨[.ren 3 0],[.tmp 2],zY,[rS],[],[]⟩ xJ
def wuw(k:Y1×Y2×Y1×Int×Int×Y2×Y1)(v:Int×Y2):Tr ((Int×Y2)⊕Y2):=.t (v.1<(length k.2.1:Int)) (.g (aB v.1 (length k.2.1))<|.c _ (Nh (getD k.2.1 (toNat v.1) [])) λa=>.g ((length v.2+1)*24<=140737488355328)<|.l (.inl ((wrap .i64 (v.1+1)),(set (v.2++ [[]]) (length v.2) a)))) (.l (.inr v.2))
def aEL k v:=aC (λv=>(wuw k v).ev) v
abbrev aCR:Keep:=yk [] [1,2,3] (yj [.box 1 0,.box 2 0,.box 3 0]) [(1,.cells qC),(2,.cells (yj [.nilsl,.arr 900321,.nilsl,.dat yi])),(3,.cells (yj [.arr 512,.arr 9])),(900321,.rows 22 3 yi),(512,.arr 3 yi),(9,.rows 22 3 yi)]
def aNA:LD:=yl (wuw) (yk [.ownRB 2 1 900321 22 3 yi] [1,2,3,4] (yj [.box 1 0,.box 2 0,.box 3 0,.dat yi]) [(1,.cells qC),(2,.cells (yj [.nilsl,.arr 900321,.nilsl,.dat yi])),(3,.cells (yj [.arr 512,.arr 9])),(900321,.rows 22 3 yi),(512,.arr 3 yi),(9,.rows 22 3 yi)]) [(0,aCR)] bC (λk v=>(((),(),(),v.1,()),(k.1,k.2.1,k.2.2.1,k.2.2.2.1,()),((),(),(),k.2.2.2.2.1,()),((),(),()),k.2.2.2.2.2.1,k.2.2.2.2.2.2,v.2,())) (λt=>(t.2.1.1,t.2.1.2.1,t.2.1.2.2.1,t.2.1.2.2.2.1,t.2.2.1.2.2.2.1,t.2.2.2.2.1,t.2.2.2.2.2.1)) (λt=>(t.1.2.2.2.1,t.2.2.2.2.2.2.1)) (λk r=>yx 0 aCR (((),(),(),()),(k.1,k.2.1,k.2.2.1,k.2.2.2.1,()),((),(),(),k.2.2.2.2.1,()),((),(),()),k.2.2.2.2.2.1,k.2.2.2.2.2.2,r,()))
def KO(b:Y1)(g:List Y1)(f:Y1)(a:Int):Tr (Int×N2):=.c _ (Nh b) λe=>.c _ (aEL (b,g,f,a,0,[],e) (0,[])) λi=>.c _ (Nh f) λh=>.l (a,e,i,h)
def H3 b a e c:=(KO b a e c).ev
def LN:FP prog:=aG cx func63 [Ka] (yj [.agg qC]) [] [] (G4 KO) ⟨[.ren 512 4,.ren 9 5,.ren 2176 6],[.cell 2 38],(yj [.agg (yj [.arr 4,.arr 5,.arr 6,.dat yi])]),[(4,.arr 3 yi),(5,.rows 22 3 yi),(6,.arr 3 yi)],[],[]⟩ Rm (Fq [(1,[(4,[1000000])])]) [(0,aNA)]
def NS(a b c:Int):Tr Bool:=.t (b<=a) (.l (a<=c)) (.l false)
def Al b a c:=(NS b a c).ev
abbrev Nc{a b c d e:Type}{z:Type _}(f:a->b->c->z)(x:(a×b×c×d)×e):z:=f x.1.1 x.1.2.1 x.1.2.2.1
abbrev W3:RetK:=yr [.tmp 6] (yj [.dat .bool])
def u9:FP prog:=aG cx func120 [] (yj [.dat yi,.dat yi,.dat yi]) [] [] (Nc NS) W3 bH
def wuy(k:Y1×iC)(v:Int):Tr (Int⊕(Unit⊕Unit)):=.t (v<(length k.1:Int)) (.g (aB v (length k.1))<|.c _ (Al (getD k.1 (toNat v) 0) 0 k.2.2) λa=>.t (!a) (.l (.inr (.inr ()))) (.l (.inl (wrap .i64 (v+1))))) (.l (.inr (.inl ())))
def aDT k v:=aC (λv=>(wuy k v).ev) v
abbrev aGt:Keep:=yh [0,1,2,7] (yj [.dat y1,.dat yi,.dat yi,.dat yi])
abbrev aHi:Keep:=yh [0,1] (yj [.dat y1,.dat yi])
abbrev s5:Keep:=yh [6] (yj [.dat .bool])
abbrev W4{a b c d:Type}(k:a×b×c)(v:d):=((k.1,k.2.1,k.2.2,v,()),())
abbrev U3{a b c d e:Type}(t:(a×b×c×d)×e):=(t.1.1,t.1.2.1,t.1.2.2.1)
abbrev qE{a b c d e g:Type}(t:(a×b×c×d×e)×g):=t.1.2.2.2.1
def aOZ:LD:=yl (wuy) aGt [(0,aHi)] s5 W4 U3 qE (λk r=>.s _ _ r (λ_=>yx 0 aHi ((k.1,k.2.1,()),())) (λ_=>yz s5 ((false,()),())))
def UB(b:Y1)(a f:Int):Tr Bool:=.c _ (aDT (b,a,f) 0) λe=>.s _ _ e (λ_=>.l ((length b:Int)==a)) (λ_=>.l false)
def Zo b a c:=(UB b a c).ev
def aUe:FP prog:=aG cx func189 [u9] (yj [.dat y1,.dat yi,.dat yi]) [] [] (Nc UB) W3 bH bU [(0,aOZ)]
def wva(k:Int×Y1×Y2)(v:Int):Tr (Int⊕(Unit⊕Unit)):=.t (v<(length k.2.2:Int)) (.g (aB v (length k.2.2))<|.c _ (Zo (getD k.2.2 (toNat v) []) k.1 99) λa=>.t (!a) (.l (.inr (.inr ()))) (.l (.inl (wrap .i64 (v+1))))) (.l (.inr (.inl ())))
def aDx k v:=aC (λv=>(wva k v).ev) v
abbrev Rn:Keep:=yk [] [1,3,4] (yj [.box 1 0,.dat yi,.dat yi]) [jK]
abbrev Ve:Keep:=yk [] [1,3] (yj [.box 1 0,.dat yi]) [jK]
abbrev wV:Keep:=yh [2] (yj [.dat .bool])
abbrev aHf{a b c d:Type}(k:a×b×c)(v:d):=(((),k.1,v,()),(k.2.1,k.2.2,()),())
abbrev FH{a b c d e g h:Type}(t:(a×b×c)×(d×e×g)×h):=(t.1.2.1,t.2.1.1,t.2.1.2.1)
abbrev q9{a b c d e:Type}(t:(a×b×c×d)×e):=t.1.2.2.1
def aVd:LD:=yl (wva) Rn [(0,Ve)] wV aHf FH q9 (λk r=>.s _ _ r (λ_=>yx 0 Ve (((),k.1,()),(k.2.1,k.2.2,()),())) (λ_=>yz wV ((false,()),())))
def TX(a:Y1)(b:List Y1):Tr Bool:=.c _ (aDx ((length a:Int),a,b) 0) λg=>.s _ _ g (λ_=>.c _ (Al (length a:Int) 1 7) λe=>.t e (.c _ (Zo a (length a:Int) 99) λf=>.t f (.l ((length b:Int)<=(7:Int))) (.l false)) (.l false)) (λ_=>.l false)
def Mt b a:=(TX b a).ev
abbrev qY:RetK:=yr [.tmp 2] (yj [.dat .bool])
def K1:FP prog:=aG cx func118 [aUe,u9] (yj [.agg bR]) [] [] (g7 TX) qY bH bU [(0,aVd)]
def ZV(k:Y1×iC)(v:Int):Tr (Int⊕(Unit⊕Unit)):=.t (v<(length k.1:Int)) (.g (aB v (length k.1))<|.c _ (Al (getD k.1 (toNat v) 0) k.2.1 k.2.2) λa=>.t (!a) (.l (.inr (.inr ()))) (.t (0<v) (.g (aB (wrap .i64 (v-1)) (length k.1))<|.g (aB v (length k.1))<|.t ((getD k.1 (toNat v) 0)<=(getD k.1 (toNat (wrap .i64 (v-1))) 0)) (.l (.inr (.inr ()))) (.l (.inl (wrap .i64 (v+1))))) (.l (.inl (wrap .i64 (v+1)))))) (.l (.inr (.inl ())))
def aCd k v:=aC (λv=>(ZV k v).ev) v
def aMw:LD:=yl (ZV) aGt [(0,bC)] s5 W4 U3 qE (λ_ r=>.s _ _ r (λ_=>yx 0 bC ((),())) (λ_=>yz s5 ((false,()),())))
def VZ(e:Y1)(b f:Int):Tr Bool:=.c _ (aCd (e,b,f) 0) λa=>.s _ _ a (λ_=>.l true) (λ_=>.l false)
def HH b a c:=(VZ b a c).ev
def aIs:FP prog:=aG cx func190 [u9] (yj [.dat y1,.dat yi,.dat yi]) [] [] (Nc VZ) W3 bH bU [(0,aMw)]
def GT(b:Y1)(_f:List Y1)(e:Y1):Tr Bool:=.c _ (HH e 0 (wrap .i64 ((length b:Int) -1))) λa=>.l a
def BS b a c:=(GT b a c).ev
abbrev rR:RetK:=yr [.tmp 4] (yj [.dat .bool])
def aDd:FP prog:=aG cx func119 [aIs] (yj [.agg bR,.dat y1]) [] [] (jB GT) rR bH
def HE(b:Y1)(a:List Y1)(i:Y1)(e:Int):Tr Bool:=.c _ (Mt b a) λg=>.t g (.c _ (BS b a i) λf=>.t f (.c _ (Al e 0 1000) λh=>.l h) (.l false)) (.l false)
def Qj b a e c:=(HE b a e c).ev
def SK:FP prog:=aG cx func62 [K1,aDd,u9] (yj [.agg qC]) [] [] (G4 HE) qY bH
def Wk(k:(List UInt8)×Int)(v:Int×Int×(List (List UInt8))):Tr ((Int×Int×(List (List UInt8)))⊕(Int×(List (List UInt8)))):=.t (v.2.1<(length k.1:Int)) (.g (aB v.2.1 (length k.1))<|.t (((UInt8.toNat (getD k.1 (toNat v.2.1) 0):Nat):Int)==k.2) (.g ((0<=v.1)&&(v.1<=v.2.1)&&(v.2.1<=(length k.1:Int)))<|.g ((length v.2.2+length ([(List.drop (toNat v.1) (List.take (toNat v.2.1) k.1))]:List (List UInt8)))*16<=140737488355328)<|.l (.inl ((wrap .i64 (v.2.1+1)),(wrap .i64 (v.2.1+1)),(v.2.2++([(List.drop (toNat v.1) (List.take (toNat v.2.1) k.1))]:List (List UInt8)))))) (.l (.inl (v.1,(wrap .i64 (v.2.1+1)),v.2.2)))) (.l (.inr (v.1,v.2.2)))
def QT k v:=aC (λv=>(Wk k v).ev) v
abbrev aHv:Keep:=yk [] [0,5,6] (yj [.dat .str,.arr 8,.dat yi]) [(8,.arr 9 .str)]
abbrev wM{a b c d:Type}(t:(a×b×c)×d):=(t.1.1,t.1.2.1)
abbrev aDW{a b c d e g h i:Type}(t:(a×b×c×d×e×g)×h×i):=(t.1.2.2.2.1,t.1.2.2.2.2.1,t.2.1)
def aQR:LD:=yl (Wk) (yk [] [0,1,5,6,7] (yj [.dat .str,.dat (.int .u8),.arr 8,.dat yi,.dat yi]) [(8,.arr 9 .str)]) [(0,aHv)] bC (λk v=>((k.1,k.2,(),v.1,v.2.1,()),v.2.2,())) wM aDW (λk r=>yx 0 aHv ((k.1,(),r.1,()),r.2,()))
def Ye(b:List UInt8)(e:Int):Tr (List (List UInt8)):=.c _ (QT (b,e) (0,0,[])) λa=>.g ((0<=a.1)&&(a.1<=(length b:Int)))<|.g ((length a.2+length ([(List.drop (toNat a.1) (List.take (length b) b))]:List (List UInt8)))*16<=140737488355328)<|.l (a.2++([(List.drop (toNat a.1) (List.take (length b) b))]:List (List UInt8)))
def Ow b a:=(Ye b a).ev
def XL:FP prog:=aG cx func54 [] (yj [.dat .str,.dat (.int .u8)]) [] [] (kJ Ye) ⟨[.ren 8 0],[.tmp 4],zY,[(0,.arr 9 .str)],[],[]⟩ xJ bU [(0,aQR)]
def Na(e:(Int)->Option (List UInt8))(a:Int):Tr (List UInt8):=.t (a<0) (.c _ (e (wrap .i64 (0-a))) λf=>.g (length ([45]:List UInt8)+length f<=9223372036854775807)<|.l (([45]:List UInt8)++f)) (.t (a<10) (.g ((0<=a)&&(a<=(wrap .i64 (a+1)))&&((wrap .i64 (a+1))<=(length ([48,49,50,51,52,53,54,55,56,57]:List UInt8):Int)))<|.l (List.drop (toNat a) (List.take (toNat (wrap .i64 (a+1))) ([48,49,50,51,52,53,54,55,56,57]:List UInt8)))) (.g (!decide ((10:Int)=0))<|.c _ (e (wrap .i64 (Int.tdiv a 10))) λb=>.g (!decide ((10:Int)=0))<|.g (!decide ((10:Int)=0))<|.g (((0:Int)<=(Int.tmod a 10))&&((Int.tmod a 10)<=(wrap .i64 ((Int.tmod a 10)+1)))&&((wrap .i64 ((Int.tmod a 10)+1))<=(length ([48,49,50,51,52,53,54,55,56,57]:List UInt8):Int)))<|.g (length b+length (List.drop (toNat (Int.tmod a 10)) (List.take (toNat (wrap .i64 ((Int.tmod a 10)+1))) ([48,49,50,51,52,53,54,55,56,57]:List UInt8)))<=9223372036854775807)<|.l (b++(List.drop (toNat (Int.tmod a 10)) (List.take (toNat (wrap .i64 ((Int.tmod a 10)+1))) ([48,49,50,51,52,53,54,55,56,57]:List UInt8))))))
noncomputable def rT:Nat->(Int)->Option (List UInt8) |0=>λ_=>none |n+1=>λa=>(Na (rT n) a).ev
def aWr:RetK:=yr [.tmp 2] (yj [.dat .str])
def aDA(a:(Int)->Option (List UInt8)):FD:={A:=eN,ins:=[],lend:=[],R:=List UInt8,F:=λx=>a x.1.1,emb:=λr=>([.dat .str r],[])}
def aEN(n:Nat):FD:=aDA (rT n)
theorem aAA:∀n:Nat,dV prog (122,aEN n) |0=>λ_ _ h=>nomatch h |n+1=>Va mixed (uT (Ng (aAA n) fdN)) Vh (aGd (aEN (n+1)) (nF [(122,aDA (rT n))]) aWr bU [] ((f122.body).getD .skip) (λx=>Na (rT n) x.1.1) (λr=>((r,()),())) func122 (Rz (by kernel_rfl) lpN) λ_=>by kernel_rfl)
def U8:FP prog:=⟨_,aAA 1000000⟩
def wve(k:(List UInt8)×Int)(v:Int):Tr (Int⊕(Unit⊕Unit)):=.t (v<(length k.1:Int)) (.g (aB v (length k.1))<|.c _ (Al (wrap .i64 ((UInt8.toNat (getD k.1 (toNat v) 0):Nat):Int)) 32 126) λa=>.t (!a) (.l (.inr (.inr ()))) (.g (aB v (length k.1))<|.t (((UInt8.toNat (getD k.1 (toNat v) 0):Nat):Int)==(35:Int)) (.l (.inr (.inr ()))) (.l (.inl (wrap .i64 (v+1)))))) (.l (.inr (.inl ())))
def aFv k v:=aC (λv=>(wve k v).ev) v
abbrev Xz:Keep:=yh [0,1] (yj [.dat .str,.dat yi])
abbrev nB:Keep:=yh [4] (yj [.dat .bool])
abbrev X1{a b c:Type}(k:a×b)(v:c):=((k.1,k.2,v,()),())
def aPd:LD:=yl (wve) (yh [0,1,5] (yj [.dat .str,.dat yi,.dat yi])) [(0,Xz)] nB X1 wM q9 (λk r=>.s _ _ r (λ_=>yx 0 Xz ((k.1,k.2,()),())) (λ_=>yz nB ((false,()),())))
def SW(b:List UInt8)(a:Int):Tr Bool:=.c _ (aFv (b,a) 0) λe=>.s _ _ e (λ_=>.l ((length b:Int)<=a)) (λ_=>.l false)
def Xe b a:=(SW b a).ev
def aUt:FP prog:=aG cx func132 [u9] (yj [.dat .str,.dat yi]) [] [] (kJ SW) rR bH bU [(0,aPd)]
def wvg(k:(List UInt8)×Int)(v:Int):Tr (Int⊕(Unit⊕Unit)):=.t (v<(length k.1:Int)) (.g (aB v (length k.1))<|.t (((UInt8.toNat (getD k.1 (toNat v) 0):Nat):Int)==k.2) (.l (.inr (.inr ()))) (.l (.inl (wrap .i64 (v+1))))) (.l (.inr (.inl ())))
def aDn k v:=aC (λv=>(wvg k v).ev) v
def aHY:LD:=yl (wvg) (yh [0,1,5] (yj [.dat .str,.dat (.int .u8),.dat yi])) [(0,bC)] nB X1 wM q9 (λ_ r=>.s _ _ r (λ_=>yx 0 bC ((),())) (λ_=>yz nB ((true,()),())))
def XJ(e:List UInt8)(a:Int):Tr Bool:=.c _ (aDn (e,a) 0) λb=>.s _ _ b (λ_=>.l false) (λ_=>.l true)
def BI b a:=(XJ b a).ev
def aMc:FP prog:=aG cx func133 [] (yj [.dat .str,.dat (.int .u8)]) [] [] (kJ XJ) rR bH bU [(0,aHY)]
def RV(a e:List UInt8):Tr Bool:=.t (!(a==([]:List UInt8))) (.c _ (Xe a 160) λf=>.t f (.c _ (BI a 64) λb=>.t (!b) (.c _ (Xe e 200) λg=>.l g) (.l false)) (.l false)) (.l false)
def Uf b a:=(RV b a).ev
def VC:FP prog:=aG cx func69 [aUt,aMc] (yj [.agg Nj]) [] [] (g7 RV) qY bH
def wvj(k:List UInt8)(v:Int×Int):Tr (iC⊕Int):=.t (v.2<(length k:Int)) (.g (aB v.2 (length k))<|.g (!decide ((999979:Int)=0))<|.l (.inl ((Int.tmod (wrap .i64 ((wrap .i64 ((wrap .i64 ((41:Int)*v.1))+(wrap .i64 ((UInt8.toNat (getD k (toNat v.2) 0):Nat):Int))))+1)) 999979),(wrap .i64 (v.2+1))))) (.l (.inr v.1))
def aCo k v:=aC (λv=>(wvj k v).ev) v
abbrev qB:Keep:=yh [3] eN
def aJg:LD:=yl (wvj) (yh [0,3,4] (yj [.dat .str,.dat yi,.dat yi])) [(0,qB)] bC Wn R2 C6 (λ_ r=>yx 0 qB ((r,()),()))
def UC(b:List UInt8):Tr Int:=.c _ (aCo b (7,0)) λa=>.l a
def ER a:=(UC a).ev
abbrev wR:RetK:=yr [.tmp 2] eN
def aPI:FP prog:=aG cx func296 [] (yj [.dat .str]) [] [] (qH UC) wR bH bU [(0,aJg)]
def KD(a:List UInt8):Tr (List UInt8):=.g (length a+length ([35]:List UInt8)<=9223372036854775807)<|.c _ (ER a) λe=>.c _ (rT 1000000 e) λb=>.g (length (a++([35]:List UInt8))+length b<=9223372036854775807)<|.l ((a++([35]:List UInt8))++b)
def Zr a:=(KD a).ev
abbrev Lw:RetK:=yr [.tmp 2] (yj [.dat .str])
def aLi:FP prog:=aG cx func215 [aPI,U8] (yj [.dat .str]) [] [] (qH KD) Lw bH
def KW(h:Int)(b f:List UInt8):Tr (List UInt8):=.c _ (rT 1000000 h) λa=>.g (length a+length ([32]:List UInt8)<=9223372036854775807)<|.g (length (a++([32]:List UInt8))+length b<=9223372036854775807)<|.g (length ((a++([32]:List UInt8))++b)+length ([64]:List UInt8)<=9223372036854775807)<|.g (length (((a++([32]:List UInt8))++b)++([64]:List UInt8))+length f<=9223372036854775807)<|.c _ (Zr ((((a++([32]:List UInt8))++b)++([64]:List UInt8))++f)) λe=>.g (length e+length ([10]:List UInt8)<=9223372036854775807)<|.l (e++([10]:List UInt8))
def Xx b a c:=(KW b a c).ev
abbrev QC{a b c d e g:Type}{z:Type _}(f:a->b->c->z)(x:(a×(b×c×d)×e)×g):z:=f x.1.1 x.1.2.1.1 x.1.2.1.2.1
abbrev Sq:RetK:=yr [.tmp 4] (yj [.dat .str])
def aCw:FP prog:=aG cx func139 [U8,aLi] (yj [.dat yi,.agg Nj]) [] [] (QC KW) Sq bH
def MG(f:List UInt8)(h:Int):Tr ((List UInt8)×Lx):=.c _ (rT 1000000 h) λb=>.g (length b+length ([32]:List UInt8)<=9223372036854775807)<|.c _ (Ow f 35) λa=>.g (aB 0 (length a))<|.g ((toNat 0)<length a)<|.t ((length (getD a (toNat 0) []):Int)<(length (b++([32]:List UInt8)):Int)) (.l ([],[],false)) (.g (((0:Int)<=(length (b++([32]:List UInt8)):Int))&&((length (b++([32]:List UInt8)):Int)<=(length (getD a (toNat 0) []):Int)))<|.t (!((List.drop 0 (List.take (toNat (length (b++([32]:List UInt8)):Int)) (getD a (toNat 0) [])))==(b++([32]:List UInt8)))) (.l ([],[],false)) (.g (((0:Int)<=(length (b++([32]:List UInt8)):Int))&&((length (b++([32]:List UInt8)):Int)<=(length (getD a (toNat 0) []):Int)))<|.c _ (Ow (List.drop (toNat (length (b++([32]:List UInt8)):Int)) (List.take (length (getD a (toNat 0) [])) (getD a (toNat 0) []))) 64) λe=>.g (aB 0 (length e))<|.g ((toNat 0)<length e)<|.t ((length (getD e (toNat 0) []):Int)==(length (List.drop (toNat (length (b++([32]:List UInt8)):Int)) (List.take (length (getD a (toNat 0) [])) (getD a (toNat 0) []))):Int)) (.l ([],[],false)) (.g (((0:Int)<=(wrap .i64 ((length (getD e (toNat 0) []):Int)+1)))&&((wrap .i64 ((length (getD e (toNat 0) []):Int)+1))<=(length (List.drop (toNat (length (b++([32]:List UInt8)):Int)) (List.take (length (getD a (toNat 0) [])) (getD a (toNat 0) []))):Int)))<|.c _ (Uf (getD e (toNat 0) []) (List.drop (toNat (wrap .i64 ((length (getD e (toNat 0) []):Int)+1))) (List.take (length (List.drop (toNat (length (b++([32]:List UInt8)):Int)) (List.take (length (getD a (toNat 0) [])) (getD a (toNat 0) [])))) (List.drop (toNat (length (b++([32]:List UInt8)):Int)) (List.take (length (getD a (toNat 0) [])) (getD a (toNat 0) [])))))) λi=>.t i (.c _ (Xx h (getD e (toNat 0) []) (List.drop (toNat (wrap .i64 ((length (getD e (toNat 0) []):Int)+1))) (List.take (length (List.drop (toNat (length (b++([32]:List UInt8)):Int)) (List.take (length (getD a (toNat 0) [])) (getD a (toNat 0) [])))) (List.drop (toNat (length (b++([32]:List UInt8)):Int)) (List.take (length (getD a (toNat 0) [])) (getD a (toNat 0) [])))))) λj=>.g (length f+length ([10]:List UInt8)<=9223372036854775807)<|.l ((getD e (toNat 0) []),(List.drop (toNat (wrap .i64 ((length (getD e (toNat 0) []):Int)+1))) (List.take (length (List.drop (toNat (length (b++([32]:List UInt8)):Int)) (List.take (length (getD a (toNat 0) [])) (getD a (toNat 0) [])))) (List.drop (toNat (length (b++([32]:List UInt8)):Int)) (List.take (length (getD a (toNat 0) [])) (getD a (toNat 0) []))))),(j==(f++([10]:List UInt8))))) (.l ((getD e (toNat 0) []),(List.drop (toNat (wrap .i64 ((length (getD e (toNat 0) []):Int)+1))) (List.take (length (List.drop (toNat (length (b++([32]:List UInt8)):Int)) (List.take (length (getD a (toNat 0) [])) (getD a (toNat 0) [])))) (List.drop (toNat (length (b++([32]:List UInt8)):Int)) (List.take (length (getD a (toNat 0) [])) (getD a (toNat 0) []))))),false)))))
def KC b a:=(MG b a).ev
def aQY:FP prog:=aG cx func150 [U8,XL,VC,aCw] (yj [.dat .str,.dat yi]) [] [] (kJ MG) (yr [.cell 4 63,.tmp 5] (yj [.agg Nj,.dat .bool])) (λr=>(((r.1,r.2.1,()),r.2.2,()),()))
def wvk(k:List UInt8)(v:Int×(List Hg)):Tr ((Int×(List Hg))⊕(Int×(List Hg))):=.t (v.1<(length k:Int)) (.t ((length v.2:Int)<(60:Int)) (.g ((0<=v.1)&&(v.1<=(length k:Int)))<|.c _ (Ow (List.drop (toNat v.1) (List.take (length k) k)) 10) λa=>.g (aB 0 (length a))<|.g ((toNat 0)<length a)<|.c _ (KC (getD a (toNat 0) []) (length v.2:Int)) λb=>.t ((length a:Int)<(2:Int)) (.l (.inr (v.1,v.2))) (.t (!b.2.2) (.l (.inr (v.1,v.2))) (.g ((length v.2+length ([(b.1,b.2.1)]:List Hg))*32<=140737488355328)<|.g (aB 0 (length a))<|.g ((toNat 0)<length a)<|.l (.inl ((wrap .i64 ((wrap .i64 (v.1+(length (getD a (toNat 0) []):Int)))+1)),(v.2++([(b.1,b.2.1)]:List Hg))))))) (.l (.inr (v.1,v.2)))) (.l (.inr (v.1,v.2)))
def aGO k v:=aC (λv=>(wvk k v).ev) v
abbrev aEf:Keep:=yk [] [4,5] (yj [.arr 9,.dat yi]) [(9,.arr 63 (.pair .str .str))]
def aPh:LD:=yl (wvk) (yk [] [0,4,5] (yj [.dat .str,.arr 9,.dat yi]) [(9,.arr 63 (.pair .str .str))]) [(0,aEf)] bC Ec R2 Eo (λ_ r=>yx 0 aEf (((),r.1,()),r.2,()))
def LX(b:List UInt8):Tr (Int×(List Hg)):=.c _ (aGO b (0,([]:List Hg))) λa=>.l (a.1,a.2)
def BR a:=(LX a).ev
abbrev qD{a b:Type}(r:a×b):=(((),r.1,()),r.2,())
def aOx:FP prog:=aG cx func83 [XL,aQY] (yj [.dat .str]) [] [] (qH LX) ⟨[.ren 9 0],[.tmp 2,.tmp 3],(yj [.arr 0,.dat yi]),[(0,.arr 63 (.pair .str .str))],[],[]⟩ qD bU [(0,aPh)]
def QP(a b:List UInt8)(h:Int):Tr Bool:=.t ((30000:Int)<(wrap .i64 ((length a:Int)+(length b:Int)))) (.l false) (.g (length a+length b<=9223372036854775807)<|.c _ (BR (a++b)) λe=>.c _ (BR a) λf=>.t (e.1==(wrap .i64 ((length a:Int)+(length b:Int)))) (.t (f.1==(length a:Int)) (.l ((length e.2:Int)==h)) (.l false)) (.l false))
def Zz b a c:=(QP b a c).ev
def aEX:FP prog:=aG cx func73 [aOx] (yj [.agg Sn]) [] [] (YP QP) qY bH
def Yv(h:Y1)(g:List Y1)(m:Y1)(b:Int)(f a:List UInt8)(i:Int):Tr Bool:=.c _ (Qj h g m b) λj=>.t j (.c _ (Zz f a i) λe=>.l e) (.l false)
def Oo f e h b c a g:=(Yv f e h b c a g).ev
def aOW:FP prog:=aG cx func29 [SK,aEX] (yj [.agg Wj]) [] [] (QD Yv) qY bH
noncomputable abbrev aDK(p1 p2 p3:Int)(p4:Y1)(p5 p6:Int):=(.t (p1==p2) (.t (p3==0) (.l ((length p4:Int)==(0:Int))) (.l false)) (.t (p1==5) (.l ((length p4:Int)==(0:Int))) (.t (p1==6) (.t (p5==0) (.l (p3==0)) (.l false)) (.t (p1==7) (.t (p6==0) (.t (p5==0) (.l (p3==0)) (.l false)) (.l false)) (.t (p1==10) (.t (p6==0) (.t (p5==0) (.t (p3==0) (.l ((length p4:Int)==(0:Int))) (.l false)) (.l false)) (.l false)) (.t (p1==11) (.t (p6==0) (.t (p5==0) (.t (p3==0) (.l ((length p4:Int)==(0:Int))) (.l false)) (.l false)) (.l false)) (.l false)))))):Tr Bool)
noncomputable abbrev CY(p1 p2 p3 p4:Int)(p5:Y1)(p6:Int):=(.t (p1==p2) (.t (p3==0) (.t (p4==0) (.l ((length p5:Int)==(0:Int))) (.l false)) (.l false)) (.t (p1==3) (aDK p1 3 p4 p5 p3 p6) (aDK p1 4 p4 p5 p3 p6)):Tr Bool)
def OY(a e f b:Int)(c:Y1):Tr Bool:=.t (a==1) (CY a 1 f b c e) (.t (a==2) (CY a 2 f b c e) (.t (a==8) (CY a 8 f b c e) (CY a 9 f b c e)))
def NR e c f a b:=(OY e c f a b).ev
abbrev Qt{a b c d e g h i:Type}{z:Type _}(f:a->b->c->d->e->z)(x:((a×b×c×d×e×g)×h)×i):z:=f x.1.1.1 x.1.1.2.1 x.1.1.2.2.1 x.1.1.2.2.2.1 x.1.1.2.2.2.2.1
def aMS:FP prog:=aG cx func222 [] (yj [.agg EC]) [] [] (Qt OY) qY bH
def FL(b:Y1)(_f:List Y1)(e:Int):Tr Bool:=.c _ (Al e 0 (wrap .i64 ((length b:Int) -1))) λa=>.l a
def Tw b a c:=(FL b a c).ev
def aHI:FP prog:=aG cx func302 [u9] (yj [.agg bR,.dat yi]) [] [] (jB FL) rR bH
def wvm(k:Y1×Int)(v:Int):Tr (Int⊕(Unit⊕Unit)):=.t (v<(length k.1:Int)) (.g (aB v (length k.1))<|.t ((getD k.1 (toNat v) 0)==k.2) (.l (.inr (.inr ()))) (.l (.inl (wrap .i64 (v+1))))) (.l (.inr (.inl ())))
def aAy k v:=aC (λv=>(wvm k v).ev) v
abbrev Om:Keep:=yh [0,1,5] (yj [.dat y1,.dat yi,.dat yi])
def aSq:LD:=yl (wvm) Om [(0,bC)] nB X1 wM q9 (λ_ r=>.s _ _ r (λ_=>yx 0 bC ((),())) (λ_=>yz nB ((true,()),())))
def QX(e:Y1)(b:Int):Tr Bool:=.c _ (aAy (e,b) 0) λa=>.s _ _ a (λ_=>.l false) (λ_=>.l true)
def N7 b a:=(QX b a).ev
def FM:FP prog:=aG cx func301 [] (yj [.dat y1,.dat yi]) [] [] (kJ QX) rR bH bU [(0,aSq)]
def JF(f:Y1)(e:List Y1)(h:Y1)(_i a:Int):Tr Bool:=.c _ (Tw f e a) λg=>.t g (.c _ (N7 h a) λb=>.l (!b)) (.l false)
def BC e c f a b:=(JF e c f a b).ev
def aPi:FP prog:=aG cx func300 [aHI,FM] (yj [.agg qC,.dat yi]) [] [] (Fd JF) rR bH
noncomputable abbrev aAO(p1 p2:Int)(p3:Y1)(p4:List Y1)(p5:Y1)(p6 p7 p8:Int)(p9:Y1):=(.t (p1==p2) (.c _ (BC p3 p4 p5 p6 p7) λh=>.l h) (.t (p1==2) (.c _ (N7 p5 p7) λb=>.l b) (.t (p1==3) (.c _ (N7 p5 p7) λi=>.t i (.c _ (BC p3 p4 p5 p6 p8) λe=>.l e) (.l false)) (.t (p1==4) (.c _ (Tw p3 p4 p7) λg=>.l g) (.t (p1==5) (.c _ (Al p7 0 (wrap .i64 ((length p4:Int) -1))) λa=>.t a (.c _ (Tw p3 p4 p8) λf=>.l f) (.l false)) (.t (p1==6) (.l ((length p9:Int)==(length p4:Int))) (.t (p1==9) (.c _ (Al p7 0 (wrap .i64 ((length p4:Int) -1))) λj=>.l j) (.t (p1==10) (.l ((0:Int)<(length p5:Int))) (.l true)))))))):Tr Bool)
def PS(g:Y1)(e:List Y1)(i:Y1)(c a b h _j:Int)(f:Y1):Tr Bool:=.t (a==1) (aAO a 1 g e i c b h f) (aAO a 8 g e i c b h f)
def QA h f j c e b i a g:=(PS h f j c e b i a g).ev
abbrev Ql{a b c d e g h i j l m n o:Type}{z:Type _}(f:a->b->c->d->g->h->i->j->l->z)(x:((a×b×c×d×e)×(g×h×i×j×l×m)×n)×o):z:=f x.1.1.1 x.1.1.2.1 x.1.1.2.2.1 x.1.1.2.2.2.1 x.1.2.1.1 x.1.2.1.2.1 x.1.2.1.2.2.1 x.1.2.1.2.2.2.1 x.1.2.1.2.2.2.2.1
def aTy:FP prog:=aG cx func223 [aPi,FM,aHI,u9] (yj [.agg qC,.agg EC]) [] [] (Ql PS) rR bH
def ZZ(k:Y1×Int)(v:Int):Tr (Int⊕Int):=.t (v<(length k.1:Int)) (.g (aB v (length k.1))<|.t ((getD k.1 (toNat v) 0)<k.2) (.l (.inl (wrap .i64 (v+1)))) (.l (.inr v))) (.l (.inr v))
def IE k v:=aC (λv=>(ZZ k v).ev) v
def aMI:LD:=yl (ZZ) Om [(0,Om)] bC X1 wM q9 (λk r=>yx 0 Om ((k.1,k.2,r,()),()))
noncomputable abbrev aHL(p1:Int)(p2:Y1)(p3:Int):=(.g ((0<=p1)&&(p1<=(length p2:Int)))<|.g ((length ([]:Y1)+length (List.drop 0 (List.take (toNat p1) p2)))*8<=140737488355328)<|.g ((length (([]:Y1)++(List.drop 0 (List.take (toNat p1) p2)))+length ([p3]:Y1))*8<=140737488355328)<|.g ((0<=p1)&&(p1<=(length p2:Int)))<|.g ((length ((([]:Y1)++(List.drop 0 (List.take (toNat p1) p2)))++([p3]:Y1))+length (List.drop (toNat p1) (List.take (length p2) p2)))*8<=140737488355328)<|.l (((([]:Y1)++(List.drop 0 (List.take (toNat p1) p2)))++([p3]:Y1))++(List.drop (toNat p1) (List.take (length p2) p2))):Tr Y1)
def FX(a:Y1)(e:Int):Tr Y1:=.c _ (IE (a,e) 0) λb=>.t (b<(length a:Int)) (.g (aB b (length a))<|.t ((getD a (toNat b) 0)==e) (.f) (aHL b a e)) (aHL b a e)
def P4 b a:=(FX b a).ev
def KM:FP prog:=aG cx func303 [] (yj [.dat y1,.dat yi]) [] [] (kJ FX) ⟨[.ren 33 0],[.tmp 4],zY,[rS],[],[]⟩ xJ (Fq [(5,[(1,[140000000])])]) [(0,aMI)]
def ZO(k:Y1×Int)(v:Int×Y1):Tr (gI⊕Y1):=.t (v.1<(length k.1:Int)) (.g (aB v.1 (length k.1))<|.t ((getD k.1 (toNat v.1) 0) !=k.2) (.g (aB v.1 (length k.1))<|.g ((length v.2+length ([(getD k.1 (toNat v.1) 0)]:Y1))*8<=140737488355328)<|.l (.inl ((wrap .i64 (v.1+1)),(v.2++([(getD k.1 (toNat v.1) 0)]:Y1))))) (.l (.inl ((wrap .i64 (v.1+1)),v.2)))) (.l (.inr v.2))
def JV k v:=aC (λv=>(ZO k v).ev) v
abbrev Lh:Keep:=yk [] [5] (yj [.arr 7]) [(7,.arr 3 yi)]
abbrev aHH{a b c d:Type}(k:a×b)(v:c×d):=((k.1,k.2,(),v.1,()),v.2,())
abbrev Fj{a b c d e g h:Type}(t:(a×b×c×d×e)×g×h):=(t.1.2.2.2.1,t.2.1)
def aJM:LD:=yl (ZO) (yk [] [0,1,5,6] (yj [.dat y1,.dat yi,.arr 7,.dat yi]) [(7,.arr 3 yi)]) [(0,Lh)] bC aHH wM Fj (λ_ r=>yx 0 Lh (((),()),r,()))
def OO(e:Y1)(b:Int):Tr Y1:=.c _ (JV (e,b) (0,[])) λa=>.l a
def Vl b a:=(OO b a).ev
abbrev QO:RetK:=⟨[.ren 7 0],[.tmp 4],zY,[rS],[],[]⟩
def aAg:FP prog:=aG cx func304 [] (yj [.dat y1,.dat yi]) [] [] (kJ OO) QO xJ bU [(0,aJM)]
def RT(b:Y1)(a:Int):Tr Y1:=.g ((0<=a)&&(a<=(length b:Int)))<|.c _ (Nh (List.drop 0 (List.take (toNat a) b))) λe=>.g (((0:Int)<=(wrap .i64 (a+1)))&&((wrap .i64 (a+1))<=(length b:Int)))<|.g ((length e+length (List.drop (toNat (wrap .i64 (a+1))) (List.take (length b) b)))*8<=140737488355328)<|.l (e++(List.drop (toNat (wrap .i64 (a+1))) (List.take (length b) b)))
def AO b a:=(RT b a).ev
def aOb:FP prog:=aG cx func351 [Ka] (yj [.dat y1,.dat yi]) [] [] (kJ RT) ⟨[.ren 512 0],[.tmp 4],zY,[rS],[],[]⟩ xJ
def wvo(k:Int×Y1×Y2×Y1×Int×Int×Int×Y1×Y1)(v:Int×Y2):Tr ((Int×Y2)⊕Y2):=.t (v.1<(length k.2.2.1:Int)) (.g (aB v.1 (length k.2.2.1))<|.c _ (AO (getD k.2.2.1 (toNat v.1) []) k.1) λa=>.g (aB v.1 (length v.2))<|.g ((toNat v.1)<length v.2)<|.l (.inl ((wrap .i64 (v.1+1)),(set v.2 (toNat v.1) a)))) (.l (.inr v.2))
def aFW k v:=aC (λv=>(wvo k v).ev) v
abbrev aCT:Keep:=yk [] [1,4,5] (yj [.dat yi,.box 4 0,.box 5 0]) [Wc,(5,.cells (yj [.arr 896,.arr 581,.arr 582,.dat yi])),(896,.arr 3 yi),(581,.rows 22 3 yi),(582,.arr 3 yi)]
abbrev aTT{a b c d e g h i j l m n o p q s t u w a19 a20:Type}(t:(a×b)×(c×d×e×g×h)×(i×j×l×m×n)×(o×p×q×s×t)×u×w×a19×a20):=(t.1.1,t.2.1.1,t.2.1.2.1,t.2.1.2.2.1,t.2.1.2.2.2.1,t.2.2.1.2.2.2.1,t.2.2.2.1.2.2.2.1,t.2.2.2.2.1,t.2.2.2.2.2.2.1)
abbrev aMD{a b c d e g h i j l m n:Type}(t:(a×b×c×d×e×g)×h×i×j×l×m×n):=(t.1.2.2.2.2.1,t.2.2.2.2.2.1)
def aLF:LD:=yl (wvo) (yk [] [1,2,4,5,6] (yj [.dat yi,.box 2 0,.box 4 0,.box 5 0,.dat yi]) [(2,.cells qC),Wc,(5,.cells (yj [.arr 896,.arr 581,.arr 582,.dat yi])),(896,.arr 3 yi),(581,.rows 22 3 yi),(582,.arr 3 yi)]) [(0,aCT)] bC (λk v=>((k.1,(),(),(),v.1,()),(k.2.1,k.2.2.1,k.2.2.2.1,k.2.2.2.2.1,()),((),(),(),k.2.2.2.2.2.1,()),((),(),(),k.2.2.2.2.2.2.1,()),k.2.2.2.2.2.2.2.1,v.2,k.2.2.2.2.2.2.2.2,())) aTT aMD (λk r=>yx 0 aCT ((k.1,(),(),()),((),(),(),k.2.2.2.2.2.1,()),((),(),(),k.2.2.2.2.2.2.1,()),k.2.2.2.2.2.2.2.1,r,k.2.2.2.2.2.2.2.2,()))
def wsk(k:Int×Int×o7)(v:Int×Y1):Tr (gI⊕Y1):=.t (v.1<(length v.2:Int)) (.g (aB v.1 (length v.2))<|.g ((toNat v.1)<length v.2)<|.t (k.1<(getD v.2 (toNat v.1) 0)) (.g (aB v.1 (length v.2))<|.g ((toNat v.1)<length v.2)<|.g (aB v.1 (length v.2))<|.g ((toNat v.1)<length v.2)<|.l (.inl ((wrap .i64 (v.1+1)),(set v.2 (toNat v.1) (wrap .i64 ((getD v.2 (toNat v.1) 0) -1)))))) (.l (.inl ((wrap .i64 (v.1+1)),v.2)))) (.l (.inr v.2))
def aCN k v:=aC (λv=>(wsk k v).ev) v
abbrev aPn:Keep:=yk [] [1,4,5,7] (yj [.dat yi,.box 4 0,.box 5 0,.dat yi]) [Wc,(5,.cells (yj [.arr 896,.arr 581,.arr 582,.dat yi])),(896,.arr 3 yi),(581,.rows 22 3 yi),(582,.arr 3 yi)]
abbrev aCa:Keep:=yk [] [4,5] (yj [.box 4 0,.box 5 0]) [Wc,(5,.cells (yj [.arr 896,.arr 581,.arr 582,.dat yi])),(896,.arr 3 yi),(581,.rows 22 3 yi),(582,.arr 3 yi)]
abbrev aUM{a b c d e g h:Type}(k:a×b×c×d×e)(v:g×h):=((k.1,(),(),v.1,()),((),(),(),k.2.1,()),((),(),(),k.2.2.1,()),k.2.2.2.1,k.2.2.2.2,v.2,())
abbrev aRA{a b c d e g h i j l m n o p q:Type}(t:(a×b)×(c×d×e×g×h)×(i×j×l×m×n)×o×p×q):=(t.1.1,t.2.1.2.2.2.1,t.2.2.1.2.2.2.1,t.2.2.2.1,t.2.2.2.2.1)
abbrev aPA{a b c d e g h i j l m:Type}(t:(a×b×c×d×e)×g×h×i×j×l×m):=(t.1.2.2.2.1,t.2.2.2.2.2.1)
def aVY:LD:=yl (wsk) aPn [(2,aCa)] bC aUM aRA aPA (λk r=>yx 2 aCa (((),(),()),((),(),(),k.2.1,()),((),(),(),k.2.2.1,()),k.2.2.2.1,k.2.2.2.2,r,()))
def RX(f:Y1)(h:List Y1)(j:Y1)(g e:Int):Tr (Int×N2):=.c _ (H3 f h j g) λa=>.c _ (AO f e) λb=>.c _ (aFW (e,f,h,j,g,0,a.1,b,a.2.2.2) (0,a.2.2.1)) λi=>.c _ (aCN (e,0,a.1,b,i) (0,a.2.2.2)) λm=>.l (a.1,b,i,m)
def XU e c f a b:=(RX e c f a b).ev
abbrev aLG:RetK:=⟨[.ren 896 1,.ren 581 2,.ren 582 3],[.cell 4 38],(yj [.agg (yj [.arr 1,.arr 2,.arr 3,.dat yi])]),[(1,.arr 3 yi),(2,.rows 22 3 yi),(3,.arr 3 yi)],[],[]⟩
def aRf:FP prog:=aG cx func305 [LN,aOb] (yj [.agg qC,.dat yi]) [] [] (Fd RX) aLG Rm bU [(0,aLF),(2,aVY)]
def OQ(b:Y1)(a:List Y1)(e:Y1):Tr Bool:=.c _ (Mt b a) λg=>.t g (.c _ (BS b a e) λf=>.t f (.l ((0:Int)<(length e:Int))) (.l false)) (.l false)
def Fa b a c:=(OQ b a c).ev
def Uh:FP prog:=aG cx func336 [K1,aDd] (yj [.agg bR,.dat y1]) [] [] (jB OQ) rR bH
def wsl(k:Y1×Int×Nat×Y1×Y2×Y2×Y2)(v:Int×Y2):Tr ((Int×Y2)⊕Y2):=.t (v.1<(length k.2.2.2.1:Int)) (.c _ (N7 k.1 v.1) λb=>.t (!b) (.c _ (P4 (getD k.2.2.2.2.2.2 k.2.2.1 []) v.1) λa=>.g ((length v.2+1)*24<=140737488355328)<|.l (.inl ((wrap .i64 (v.1+1)),(set (v.2++ [[]]) (length v.2) a)))) (.l (.inl ((wrap .i64 (v.1+1)),v.2)))) (.l (.inr v.2))
def aAj k v:=aC (λv=>(wsl k v).ev) v
abbrev aLB:Keep:=yk [] [1,2,5,6,7,8,9,10] (yj [.dat y1,.box 2 0,.arr 11,.arr 12,.arr 13,.dat yi,.row 12,.dat yi]) [xF,(11,.rows 22 3 yi),(12,.rows 22 3 yi),(13,.rows 22 3 yi)]
abbrev Ue:Keep:=yk [] [1,2,5,6,7,8] (yj [.dat y1,.box 2 0,.arr 11,.arr 12,.arr 13,.dat yi]) [xF,(11,.rows 22 3 yi),(12,.rows 22 3 yi),(13,.rows 22 3 yi)]
abbrev aKL{a b c d e g h i j:Type}(k:a×b×c×d×e×g×h)(v:i×j):=((k.1,(),(),(),(),k.2.1,k.2.2.1,v.1,()),(k.2.2.2.1,k.2.2.2.2.1,()),k.2.2.2.2.2.1,k.2.2.2.2.2.2,v.2,())
abbrev aJh{a b c d e g h i j l m n o p:Type}(t:(a×b×c×d×e×g×h×i)×(j×l×m)×n×o×p):=(t.1.1,t.1.2.2.2.2.2.1,t.1.2.2.2.2.2.2.1,t.2.1.1,t.2.1.2.1,t.2.2.1,t.2.2.2.1)
abbrev aBI{a b c d e g h i j l m n o p:Type}(t:(a×b×c×d×e×g×h×i×j)×l×m×n×o×p):=(t.1.2.2.2.2.2.2.2.1,t.2.2.2.2.1)
def aSg:LD:=yl (wsl) aLB [(2,Ue)] bC aKL aJh aBI (λk r=>yx 2 Ue ((k.1,(),(),(),(),k.2.1,()),(k.2.2.2.1,k.2.2.2.2.1,()),k.2.2.2.2.2.1,k.2.2.2.2.2.2,r,()))
def ZR(k:Y1×Int×Y1×Y2×Y2×Y2×Y1)(v:Int×Y2):Tr ((Int×Y2)⊕Y2):=.t (v.1<(length k.2.2.1:Int)) (.c _ (N7 k.1 v.1) λb=>.t (!b) (.c _ (P4 k.2.2.2.2.2.2 v.1) λa=>.g ((length v.2+1)*24<=140737488355328)<|.l (.inl ((wrap .i64 (v.1+1)),(set (v.2++ [[]]) (length v.2) a)))) (.l (.inl ((wrap .i64 (v.1+1)),v.2)))) (.l (.inr v.2))
def wvp k v:=aC (λv=>(ZR k v).ev) v
abbrev aTN:Keep:=yk [] [1,2,5,6,7,8,9,10] (yj [.dat y1,.box 2 0,.arr 11,.arr 12,.arr 13,.dat yi,.arr 2112,.dat yi]) [xF,(11,.rows 22 3 yi),(12,.rows 22 3 yi),(13,.rows 22 3 yi),Fr]
abbrev aNm{a b c d e g h i j:Type}(k:a×b×c×d×e×g×h)(v:i×j):=((k.1,(),(),(),(),k.2.1,(),v.1,()),(k.2.2.1,k.2.2.2.1,()),k.2.2.2.2.1,k.2.2.2.2.2.1,v.2,k.2.2.2.2.2.2,())
abbrev aLp{a b c d e g h i j l m n o p q:Type}(t:(a×b×c×d×e×g×h)×(i×j×l)×m×n×o×p×q):=(t.1.1,t.1.2.2.2.2.2.1,t.2.1.1,t.2.1.2.1,t.2.2.1,t.2.2.2.1,t.2.2.2.2.2.1)
def aQT:LD:=yl (ZR) aTN [(2,Ue)] bC aNm aLp aBI (λk r=>yx 2 Ue ((k.1,(),(),(),(),k.2.1,()),(k.2.2.1,k.2.2.2.1,()),k.2.2.2.2.1,k.2.2.2.2.2.1,r,()))
def SM(k:Y1×Y1×Y2)(v:Int×Y2×Y2×Y2):Tr ((Int×Y2×Y2×Y2)⊕(Y2×Y2×Y2)):=.t (v.1<(length k.2.1:Int)) (.c _ (N7 k.1 v.1) λh=>.t (!h) (.c _ (P4 k.1 v.1) λe=>.g ((length v.2.1+1)*24<=140737488355328)<|.l (.inl ((wrap .i64 (v.1+1)),(set (v.2.1++ [[]]) (length v.2.1) e),v.2.2.1,v.2.2.2))) (.c _ (Vl k.1 v.1) λa=>.t ((0:Int)<(length a:Int)) (.g ((length v.2.2.1+1)*24<=140737488355328)<|.c _ (aAj (k.1,v.1,(length v.2.2.1),k.2.1,k.2.2,v.2.1,(set (v.2.2.1++ [[]]) (length v.2.2.1) a)) (0,v.2.2.2)) λb=>.l (.inl ((wrap .i64 (v.1+1)),v.2.1,(set (v.2.2.1++ [[]]) (length v.2.2.1) a),b))) (.c _ (wvp (k.1,v.1,k.2.1,k.2.2,v.2.1,v.2.2.1,a) (0,v.2.2.2)) λf=>.l (.inl ((wrap .i64 (v.1+1)),v.2.1,v.2.2.1,f))))) (.l (.inr (v.2.1,v.2.2.1,v.2.2.2)))
def aCb k v:=aC (λv=>(SM k v).ev) v
abbrev aCK:Keep:=yk [] [5,6,7] (yj [.arr 11,.arr 12,.arr 13]) [(11,.rows 22 3 yi),(12,.rows 22 3 yi),(13,.rows 22 3 yi)]
abbrev aSW{a b c d e g h:Type}(k:a×b×c)(v:d×e×g×h):=((k.1,(),(),(),(),v.1,()),(k.2.1,k.2.2,()),v.2.1,v.2.2.1,v.2.2.2,())
abbrev Ay{a b c d e g:Type}(t:(a×b)×(c×d×e)×g):=(t.1.1,t.2.1.1,t.2.1.2.1)
abbrev aWn{a b c d e g h i j l m n:Type}(t:(a×b×c×d×e×g×h)×i×j×l×m×n):=(t.1.2.2.2.2.2.1,t.2.2.1,t.2.2.2.1,t.2.2.2.2.1)
def aTk:LD:=yl (SM) Ue [(0,aCK)] bC aSW Ay aWn (λ_ r=>yx 0 aCK (((),(),(),()),r.1,r.2.1,r.2.2,()))
def WQ(e:Y1)(b:List Y1)(f:Y1):Tr Y2:=.c _ (aCb (f,e,b) (0,[],[],[])) λa=>.g ((length a.1+length a.2.1)*24<=140737488355328)<|.g ((length (a.1++a.2.1)+length a.2.2)*24<=140737488355328)<|.l ((a.1++a.2.1)++a.2.2)
def ML b a c:=(WQ b a c).ev
abbrev aTl:RetK:=⟨[.ren 13 0],[.tmp 4],zY,[(0,.rows 22 3 yi)],[],[]⟩
def aRT:FP prog:=aG cx func379 [FM,KM,aAg] (yj [.agg bR,.dat y1]) [] [] (jB WQ) aTl xJ (Fq [(1,[(0,[1000000]),(1,[1000000]),(2,[1000000])])]) [(2,aSg),(2,aQT),(0,aTk)]
def ZS(k:Int×Y1×Y1×Y2)(v:Int×Int):Tr (iC⊕Int):=.t (v.2<(length k.2.1:Int)) (.g (aB k.1 (length k.2.2.2))<|.g (aB v.2 (length k.2.1))<|.g (aB (getD k.2.1 (toNat v.2) 0) (length (getD k.2.2.2 (toNat k.1) [])))<|.g (aB k.1 (length k.2.2.2))<|.g (aB v.1 (length (getD k.2.2.2 (toNat k.1) [])))<|.t ((getD (getD k.2.2.2 (toNat k.1) []) (toNat (getD k.2.1 (toNat v.2) 0)) 0)<(getD (getD k.2.2.2 (toNat k.1) []) (toNat v.1) 0)) (.g (aB v.2 (length k.2.1))<|.l (.inl ((getD k.2.1 (toNat v.2) 0),(wrap .i64 (v.2+1))))) (.l (.inl (v.1,(wrap .i64 (v.2+1)))))) (.l (.inr v.1))
def DD k v:=aC (λv=>(ZS k v).ev) v
abbrev aNa:Keep:=yk [] [1,2,3,7,8] (yj [.dat yi,.dat y1,.box 3 0,.dat yi,.dat yi]) [(3,.cells bR)]
abbrev u6:Keep:=yh [7] eN
abbrev aBj{a b c d e g:Type}(k:a×b×c×d)(v:e×g):=((k.1,k.2.1,(),v.1,v.2,()),(k.2.2.1,k.2.2.2,()),())
abbrev IH{a b c d e g h:Type}(t:(a×b×c)×(d×e×g)×h):=(t.1.1,t.1.2.1,t.2.1.1,t.2.1.2.1)
abbrev Ed{a b c d e g h:Type}(t:(a×b×c×d×e×g)×h):=(t.1.2.2.2.1,t.1.2.2.2.2.1)
def aSV:LD:=yl (ZS) aNa [(0,u6)] bC aBj IH Ed (λ_ r=>yx 0 u6 ((r,()),()))
def ET(e:Y1)(b:List Y1)(f:Int)(a:Y1):Tr Int:=.g (aB 0 (length a))<|.c _ (DD (f,a,e,b) ((getD a (toNat 0) 0),1)) λh=>.l h
def BP b a e c:=(ET b a e c).ev
abbrev H2{a b c d e g h:Type}{z:Type _}(f:a->b->d->e->z)(x:((a×b×c)×d×e×g)×h):z:=f x.1.1.1 x.1.1.2.1 x.1.2.1 x.1.2.2.1
abbrev Bt:RetK:=yr [.tmp 6] eN
def aET:FP prog:=aG cx func339 [] (yj [.agg bR,.dat yi,.dat y1]) [] [] (H2 ET) Bt bH bU [(0,aSV)]
def JN(h:Y1)(a:List Y1)(b:Int)(f:Y1):Tr Int:=.g (aB b (length a))<|.c _ (BP h a b f) λe=>.g (aB e (length (getD a (toNat b) [])))<|.l (getD (getD a (toNat b) []) (toNat e) 0)
def Yo b a e c:=(JN b a e c).ev
def aFL:FP prog:=aG cx func374 [aET] (yj [.agg bR,.dat yi,.dat y1]) [] [] (H2 JN) Bt bH
def wvq(k:Y1×Y1×Y2)(v:Int×Int):Tr (iC⊕Int):=.t (v.2<(length k.2.2:Int)) (.c _ (Yo k.2.1 k.2.2 v.2 k.1) λa=>.l (.inl ((wrap .i64 (v.1+a)),(wrap .i64 (v.2+1))))) (.l (.inr v.1))
def aEr k v:=aC (λv=>(wvq k v).ev) v
abbrev RE:Keep:=yk [] [1,2,5,6] (yj [.dat y1,.box 2 0,.dat yi,.dat yi]) [xF]
abbrev Nn:Keep:=yh [5] eN
abbrev Qk{a b c d e:Type}(k:a×b×c)(v:d×e):=((k.1,(),v.1,v.2,()),(k.2.1,k.2.2,()),())
abbrev F1{a b c d e g:Type}(t:(a×b×c×d×e)×g):=(t.1.2.2.1,t.1.2.2.2.1)
def aPL:LD:=yl (wvq) RE [(0,Nn)] bC Qk Ay F1 (λ_ r=>yx 0 Nn ((r,()),()))
def LZ(e:Y1)(b:List Y1)(f:Y1):Tr Int:=.c _ (aEr (f,e,b) (0,0)) λa=>.l a
def Kj b a c:=(LZ b a c).ev
def FK:FP prog:=aG cx func337 [aFL] (yj [.agg bR,.dat y1]) [] [] (jB LZ) pG bH bU [(0,aPL)]
def wvr(k:Y1×Y1×Y2)(v:Int×Int):Tr (iC⊕Int):=.t (v.2<(length k.1:Int)) (.g (aB v.2 (length k.1))<|.g (aB (getD k.1 (toNat v.2) 0) (length k.2.1))<|.l (.inl ((wrap .i64 (v.1+(getD k.2.1 (toNat (getD k.1 (toNat v.2) 0)) 0))),(wrap .i64 (v.2+1))))) (.l (.inr v.1))
def aBY k v:=aC (λv=>(wvr k v).ev) v
def aJB:LD:=yl (wvr) RE [(0,Nn)] bC Qk Ay F1 (λ_ r=>yx 0 Nn ((r,()),()))
def GX(e:Y1)(b:List Y1)(f:Y1):Tr Int:=.c _ (aBY (f,e,b) (0,0)) λa=>.l a
def UT b a c:=(GX b a c).ev
def aKt:FP prog:=aG cx func372 [] (yj [.agg bR,.dat y1]) [] [] (jB GX) pG bH bU [(0,aJB)]
def TO(b:Y1)(a:List Y1)(e:Y1):Tr Int:=.c _ (Kj b a e) λg=>.c _ (UT b a e) λf=>.l (wrap .i64 (g+f))
def I6 b a c:=(TO b a c).ev
def KG:FP prog:=aG cx func333 [FK,aKt] (yj [.agg bR,.dat y1]) [] [] (jB TO) pG bH
def YY(k:Y1×Y1×Y2×Y2)(v:Int):Tr (Int⊕(Unit⊕Nat)):=.t (v<(length k.2.2.2:Int)) (.g (aB v (length k.2.2.2))<|.g ((toNat v)<length k.2.2.2)<|.c _ (I6 k.2.1 k.2.2.1 (getD k.2.2.2 (toNat v) [])) λa=>.c _ (I6 k.2.1 k.2.2.1 k.1) λb=>.t (a<b) (.g (aB v (length k.2.2.2))<|.g ((toNat v)<length k.2.2.2)<|.l (.inr (.inr (toNat v)))) (.l (.inl (wrap .i64 (v+1))))) (.l (.inr (.inl ())))
def aBR k v:=aC (λv=>(YY k v).ev) v
abbrev aTd:Keep:=yk [] [1,2,6,7] (yj [.dat y1,.box 2 0,.arr 640,.dat yi]) [xF,(640,.rows 22 3 yi)]
abbrev aEn:Keep:=yk [] [4,5] (yj [.row 640,.dat .bool]) [(640,.rows 22 3 yi)]
abbrev aLX{a b c d e:Type}(k:a×b×c×d)(v:e):=((k.1,(),(),v,()),(k.2.1,k.2.2.1,()),k.2.2.2,())
abbrev aTp{a b c d e g h:Type}(t:(a×b)×(c×d×e)×g×h):=(t.1.1,t.2.1.1,t.2.1.2.1,t.2.2.1)
def aPc:LD:=yl (YY) aTd [(0,bC)] aEn aLX aTp qE (λk r=>.s _ _ r (λ_=>yx 0 bC ((),())) (λb=>yz aEn ((b,true,()),k.2.2.2,())))
def JT(b:Y1)(a:List Y1)(f:Y1):Tr o5:=.c _ (ML b a f) λe=>.c _ (aBR (f,b,a,e) 0) λg=>.s _ _ g (λ_=>.l (false,[])) (λh=>.l (true,(getD e h [])))
def Px b a c:=(JT b a c).ev
abbrev aJK:RetK:=⟨[.pull 4 800000,.ren 31 0,.ren 800000 0],[.tmp 4,.tmp 5],Kr,[rS],[],[]⟩
def aBQ:FP prog:=aG cx func345 [aRT,KG] (yj [.agg bR,.dat y1]) [] [] (jB JT) aJK qD bU [(0,aPc)]
def wvu(k:Y1×Y2)(v:Int×Bool×Y1×Y1):Tr ((Int×Bool×Y1×Y1)⊕gI):=.t v.2.1 (.c _ (Px k.1 k.2 v.2.2.2) λa=>.l (.inl ((wrap .i64 (v.1+1)),a.1,v.2.2.2,a.2))) (.l (.inr (v.1,v.2.2.1)))
def wvv k v:=aC (λv=>(wvu k v).ev) v
abbrev aQB:Keep:=yk [.drop 900707,.pin 7 900707,.pin 9 900709] [2,7,8,9,10] (yj [.box 2 0,.arr 900707,.dat yi,.arr 900709,.dat .bool]) [xF,(900707,.arr 3 yi),(900709,.arr 3 yi)]
abbrev aBf:Keep:=yk [] [7,8] (yj [.arr 900707,.dat yi]) [(900707,.arr 3 yi)]
abbrev aQZ{a b c d e g:Type}(k:a×b)(v:c×d×e×g):=(((),(),v.1,(),v.2.1,()),(k.1,k.2,()),v.2.2.1,v.2.2.2,())
abbrev s7{a b c d e:Type}(t:a×(b×c×d)×e):=(t.2.1.1,t.2.1.2.1)
abbrev aNL{a b c d e g h i j l:Type}(t:(a×b×c×d×e×g)×h×i×j×l):=(t.1.2.2.1,t.1.2.2.2.2.1,t.2.2.1,t.2.2.2.1)
def aIe:LD:=yl (wvu) aQB [(0,aBf)] bC aQZ s7 aNL (λ_ r=>yx 0 aBf (((),r.1,()),r.2,()))
def JQ(b:Y1)(a:List Y1)(h:Y1):Tr (Int×o5):=.c _ (Fa b a h) λi=>.t (!i) (.l (0,false,[])) (.c _ (Nh h) λe=>.c _ (Px b a e) λg=>.c _ (wvv (b,a) (0,g.1,e,g.2)) λf=>.l (f.1,true,f.2))
def RC b a c:=(JQ b a c).ev
abbrev aSS:RetK:=⟨[.ren 15 0,.ren 900707 0],[.tmp 4,.tmp 5,.tmp 6],(yj [.arr 0,.dat yi,.dat .bool]),[rS],[],[]⟩
abbrev aHu{a b c:Type}(r:a×b×c):=(((),r.1,r.2.1,()),r.2.2,())
def aMn:FP prog:=aG cx func306 [Uh,Ka,aBQ] (yj [.agg bR,.dat y1]) [] [] (jB JQ) aSS aHu bU [(0,aIe)]
def aCM(k:Int×Int)(v:Int×Y1):Tr (gI⊕Y1):=.t (v.1<k.1) (.g (0<=v.1)<|.t ((wrap .i64 (BitVec.toNat ((BitVec.ofInt (IntKind.bits .i64) (Int.fdiv k.2 (2^(min (toNat v.1) (IntKind.bits .i64)))))&&& (BitVec.ofInt (IntKind.bits .i64) 1))))==(1:Int)) (.g ((length v.2+length ([v.1]:Y1))*8<=140737488355328)<|.l (.inl ((wrap .i64 (v.1+1)),(v.2++([v.1]:Y1))))) (.l (.inl ((wrap .i64 (v.1+1)),v.2)))) (.l (.inr v.2))
def aLz k v:=aC (λv=>(aCM k v).ev) v
abbrev aLu:Keep:=yk [] [0,1,5,6] (yj [.dat yi,.dat yi,.arr 7,.dat yi]) [(7,.arr 3 yi)]
def aNH:LD:=yl (aCM) aLu [(0,Lh)] bC aHH wM Fj (λ_ r=>yx 0 Lh (((),()),r,()))
def aBo(e b:Int):Tr Y1:=.c _ (aLz (e,b) (0,[])) λa=>.l a
def Zb b a:=(aBo b a).ev
def aAS:FP prog:=aG cx func146 [] (yj [.dat yi,.dat yi]) [] [] (kJ aBo) QO xJ bU [(0,aNH)]
def aCk(k:Y1×Y1)(v:Int):Tr (Int⊕(Unit⊕Bool)):=.t (v<(length k.1:Int)) (.g (aB v (length k.1))<|.g (aB v (length k.2))<|.t ((getD k.1 (toNat v) 0) != (getD k.2 (toNat v) 0)) (.g (aB v (length k.1))<|.g (aB v (length k.2))<|.l (.inr (.inr ((getD k.1 (toNat v) 0)<(getD k.2 (toNat v) 0))))) (.l (.inl (wrap .i64 (v+1))))) (.l (.inr (.inl ())))
def aMA k v:=aC (λv=>(aCk k v).ev) v
abbrev GL:Keep:=yh [0,1,5] (yj [.dat y1,.dat y1,.dat yi])
def aUB:LD:=yl (aCk) GL [(0,bC)] nB X1 wM q9 (λ_ r=>.s _ _ r (λ_=>yx 0 bC ((),())) (λb=>yz nB ((b,()),())))
def aAh(b a:Y1):Tr Bool:=.t ((length b:Int) != (length a:Int)) (.l ((length b:Int)<(length a:Int))) (.c _ (aMA (b,a) 0) λf=>.s _ _ f (λ_=>.l false) (λe=>.l e))
def aSw b a:=(aAh b a).ev
def aRX:FP prog:=aG cx func380 [] (yj [.dat y1,.dat y1]) [] [] (kJ aAh) rR bH bU [(0,aUB)]
def aGV(k:Int×Y2×gI)(v:Int):Tr (Int⊕Int):=.t (0<v) (.g (aB (wrap .i64 (v-1)) (length k.2.1))<|.c _ (aSw k.2.2.2 (getD k.2.1 (toNat (wrap .i64 (v-1))) [])) λa=>.t a (.l (.inl (wrap .i64 (v-1)))) (.l (.inr v))) (.l (.inr v))
def aRS k v:=aC (λv=>(aGV k v).ev) v
abbrev MW:Keep:=yk [] [0,3,4,5,6] (yj [.dat yi,.dat y2,.dat yi,.arr 1024,.dat yi]) [(1024,.arr 3 yi)]
abbrev aLZ{a b c d e:Type}(k:a×b×c×d)(v:e):=((k.1,k.2.1,k.2.2.1,(),v,()),k.2.2.2,())
abbrev aOB{a b c d e g:Type}(t:(a×b×c×d)×e×g):=(t.1.1,t.1.2.1,t.1.2.2.1,t.2.1)
abbrev Ph{a b c d e g h:Type}(t:(a×b×c×d×e×g)×h):=t.1.2.2.2.2.1
def aTh:LD:=yl (aGV) MW [(2,MW)] bC aLZ aOB Ph (λk r=>yx 2 MW ((k.1,k.2.1,k.2.2.1,(),r,()),k.2.2.2,()))
def aGH(k:Int)(v:Y2×Int):Tr ((Y2×Int)⊕Y2):=.g (0<=k)<|.t (v.2<(wrap .i64 ((1:Int)*2^(min (toNat k) (IntKind.bits .i64))))) (.c _ (Zb k v.2) λb=>.c _ (aRS (k,v.1,v.2,b) (length v.1:Int)) λa=>.g ((0<=a)&&(a<=(length v.1:Int)))<|.g ((length ([]:List Y1)+length (List.drop 0 (List.take (toNat a) v.1)))*24<=140737488355328)<|.g ((length (([]:List Y1)++(List.drop 0 (List.take (toNat a) v.1)))+length ([b]:List Y1))*24<=140737488355328)<|.g ((0<=a)&&(a<=(length v.1:Int)))<|.g ((length ((([]:List Y1)++(List.drop 0 (List.take (toNat a) v.1)))++([b]:List Y1))+length (List.drop (toNat a) (List.take (length v.1) v.1)))*24<=140737488355328)<|.l (.inl ((((([]:List Y1)++(List.drop 0 (List.take (toNat a) v.1)))++([b]:List Y1))++(List.drop (toNat a) (List.take (length v.1) v.1))),(wrap .i64 (v.2+1))))) (.l (.inr v.1))
def aTX k v:=aC (λv=>(aGH k v).ev) v
abbrev aQf:Keep:=yk [.fz 7,.fz 32] [0,3,4] (yj [.dat yi,.dat y2,.dat yi]) []
abbrev aHs:Keep:=yh [3] (yj [.dat y2])
def aSy:LD:=yl (aGH) aQf [(0,aHs)] bC Wn R2 C6 (λ_ r=>yx 0 aHs ((r,()),()))
def aCV(b:Int):Tr Y2:=.c _ (aTX b ([],1)) λa=>.l a
def Ug a:=(aCV a).ev
abbrev aJL:RetK:=yr [.tmp 2] (yj [.dat y2])
def GS:FP prog:=aG cx func347 [aAS,aRX] eN [] [] (qH aCV) aJL bH (Fq [(8,[(0,[3,5])])]) [(2,aTh),(0,aSy)]
def wvy(k:Y2×Y1×Y2)(v:Y1×Int):Tr ((Y1×Int)⊕Y1):=.t (v.2<(length k.1:Int)) (.g (aB v.2 (length k.1))<|.c _ (I6 k.2.1 k.2.2 (getD k.1 (toNat v.2) [])) λa=>.c _ (I6 k.2.1 k.2.2 v.1) λb=>.t (a<b) (.g (aB v.2 (length k.1))<|.l (.inl ((getD k.1 (toNat v.2) []),(wrap .i64 (v.2+1))))) (.l (.inl (v.1,(wrap .i64 (v.2+1)))))) (.l (.inr v.1))
def aHw k v:=aC (λv=>(wvy k v).ev) v
abbrev aUm:Keep:=yk [] [1,3,4,5] (yj [.box 1 0,.dat y2,.dat y1,.dat yi]) [jK]
abbrev aEa:Keep:=yh [4] N1
abbrev aJy{a b c d e:Type}(k:a×b×c)(v:d×e):=(((),k.1,v.1,v.2,()),(k.2.1,k.2.2,()),())
def aOl:LD:=yl (wvy) aUm [(0,aEa)] bC aJy FH F1 (λ_ r=>yx 0 aEa ((r,()),()))
def QN(b:Y1)(e:List Y1):Tr Y1:=.c _ (Ug (length b:Int)) λa=>.g (aB 0 (length a))<|.c _ (aHw (a,b,e) ((getD a (toNat 0) []),1)) λf=>.l f
def PP b a:=(QN b a).ev
abbrev aCt:RetK:=yr [.tmp 2] N1
def aLJ:FP prog:=aG cx func307 [GS,KG] (yj [.agg bR]) [] [] (g7 QN) aCt bH bU [(0,aOl)]
def wwa(k:Int×Int×Int×Int×Y1×Int×Int×Y1×Fv)(v:Int×Y2):Tr ((Int×Y2)⊕Y2):=.t (v.1<(length k.2.2.2.2.1:Int)) (.g (aB v.1 (length v.2))<|.g ((toNat v.1)<length v.2)<|.g (aB v.1 (length k.2.2.2.2.1))<|.g ((length (getD v.2 (toNat v.1) [])+length ([(getD k.2.2.2.2.1 (toNat v.1) 0)]:Y1))*8<=140737488355328)<|.g (aB v.1 (length v.2))<|.g (((toNat v.1)<length v.2)&&((toNat v.1)=(toNat v.1)))<|.l (.inl ((wrap .i64 (v.1+1)),(set v.2 (toNat v.1) ((getD v.2 (toNat v.1) [])++([(getD k.2.2.2.2.1 (toNat v.1) 0)]:Y1)))))) (.l (.inr v.2))
def LE k v:=aC (λv=>(wwa k v).ev) v
abbrev aEe:Keep:=yk [] [4,5] (yj [.box 4 0,.box 5 0]) [Zbp,(5,.cells (yj [.arr 708,.arr 709,.arr 710,.dat yi])),(901340,.arr 3 yi),(901342,.arr 3 yi),(708,.arr 3 yi),(709,.rows 22 3 yi),(710,.arr 3 yi)]
def aQF:LD:=yl (wwa) (yk [.ownB 4 0 901340 3 yi,.ownB 4 2 901342 3 yi] [3,4,5,6] (yj [.box 3 0,.box 4 0,.box 5 0,.dat yi]) [(3,.cells EC),Zbp,(5,.cells (yj [.arr 708,.arr 709,.arr 710,.dat yi])),(901340,.arr 3 yi),(901342,.arr 3 yi),(708,.arr 3 yi),(709,.rows 22 3 yi),(710,.arr 3 yi)]) [(1,aEe)] bC (λk v=>(((),(),(),v.1,()),(k.1,k.2.1,k.2.2.1,k.2.2.2.1,k.2.2.2.2.1,()),((),(),(),k.2.2.2.2.2.1,()),((),(),(),k.2.2.2.2.2.2.1,()),k.2.2.2.2.2.2.2.1,k.2.2.2.2.2.2.2.2.1,k.2.2.2.2.2.2.2.2.2.1,v.2,k.2.2.2.2.2.2.2.2.2.2,())) (λt=>(t.2.1.1,t.2.1.2.1,t.2.1.2.2.1,t.2.1.2.2.2.1,t.2.1.2.2.2.2.1,t.2.2.1.2.2.2.1,t.2.2.2.1.2.2.2.1,t.2.2.2.2.1,t.2.2.2.2.2.1,t.2.2.2.2.2.2.1,t.2.2.2.2.2.2.2.2.1)) (λt=>(t.1.2.2.2.1,t.2.2.2.2.2.2.2.1)) (λk r=>yx 1 aEe (((),(),()),((),(),(),k.2.2.2.2.2.1,()),((),(),(),k.2.2.2.2.2.2.1,()),k.2.2.2.2.2.2.2.1,k.2.2.2.2.2.2.2.2.1,k.2.2.2.2.2.2.2.2.2.1,r,k.2.2.2.2.2.2.2.2.2.2,()))
def RZ(h:Y1)(j:List Y1)(m:Y1)(n e b f p:Int)(o:Y1):Tr (Int×N2):=.c _ (H3 h j m n) λa=>.t (e==1) (.c _ (P4 a.2.2.2 b) λq=>.l (a.1,a.2.1,a.2.2.1,q)) (.t (e==2) (.c _ (Vl a.2.2.2 b) λs=>.l (a.1,a.2.1,a.2.2.1,s)) (.t (e==3) (.c _ (Vl a.2.2.2 b) λr=>.c _ (P4 r f) λab=>.l (a.1,a.2.1,a.2.2.1,ab)) (.t (e==4) (.g (aB b (length a.2.1))<|.g ((toNat b)<length a.2.1)<|.l (a.1,(set a.2.1 (toNat b) f),a.2.2.1,a.2.2.2)) (.t (e==5) (.g (aB b (length a.2.2.1))<|.g ((toNat b)<length a.2.2.1)<|.g (aB f (length (getD a.2.2.1 (toNat b) [])))<|.g ((toNat f)<length (getD a.2.2.1 (toNat b) []))<|.l (a.1,a.2.1,(set a.2.2.1 (toNat b) (set (getD a.2.2.1 (toNat b) []) (toNat f) p)),a.2.2.2)) (.t (e==6) (.g ((length a.2.1+length ([b]:Y1))*8<=140737488355328)<|.c _ (LE (e,b,f,p,o,0,a.1,[],[],(a.2.1++([b]:Y1)),a.2.2.2) (0,a.2.2.1)) λu=>.l (a.1,(a.2.1++([b]:Y1)),u,a.2.2.2)) (.t (e==7) (.c _ (Nh o) λy=>.g ((length a.2.2.1+1)*24<=140737488355328)<|.l (a.1,a.2.1,(set (a.2.2.1++ [[]]) (length a.2.2.1) y),a.2.2.2)) (.t (e==8) (.c _ (XU h j m n b) λi=>.l (i.1,i.2.1,i.2.2.1,i.2.2.2)) (.t (e==9) (.g ((0<=b)&&(b<=(length a.2.2.1:Int)))<|.g (((0:Int)<=(wrap .i64 (b+1)))&&((wrap .i64 (b+1))<=(length a.2.2.1:Int)))<|.g (((toNat b)<=(toNat (wrap .i64 (b+1))))&&(((toNat b)+(length a.2.2.1-(toNat (wrap .i64 (b+1)))))*24<=140737488355328))<|.l (a.1,a.2.1,(List.take (toNat b) a.2.2.1++List.drop (toNat (wrap .i64 (b+1))) a.2.2.1),a.2.2.2)) (.t (e==10) (.c _ (RC h j m) λaa=>.l (a.1,a.2.1,a.2.2.1,aa.2.2)) (.t (e==11) (.c _ (PP h j) λz=>.c _ (Nh z) λw=>.l (a.1,a.2.1,a.2.2.1,w)) (.l (a.1,a.2.1,a.2.2.1,a.2.2.2))))))))))))
def LH h f j c e b i a g:=(RZ h f j c e b i a g).ev
abbrev aJZ:RetK:=⟨[.pinB 4 0 1,.pinB 4 1 6,.pinB 4 2 7],[.cell 4 38],(yj [.agg (yj [.arr 1,.arr 6,.arr 7,.dat yi])]),[(1,.arr 3 yi),(6,.rows 22 3 yi),(7,.arr 3 yi)],[],[]⟩
def aVl:FP prog:=aG cx func224 [LN,KM,aAg,Ka,aRf,aMn,aLJ] (yj [.agg qC,.agg EC]) [] [] (Ql RZ) aJZ Rm bU [(1,aQF)]
def HP(m:Y1)(j:List Y1)(n:Y1)(b g e i f:Int)(h:Y1):Tr (Int×Bool×N2):=.c _ (NR g e i f h) λq=>.t (!q) (.l (0,false,[],[],[])) (.c _ (QA m j n b g e i f h) λo=>.t (!o) (.l (0,false,[],[],[])) (.c _ (LH m j n b g e i f h) λa=>.c _ (Qj a.2.1 a.2.2.1 a.2.2.2 (wrap .i64 (b+1))) λp=>.t (!p) (.l (0,false,[],[],[])) (.l ((wrap .i64 (b+1)),true,a.2.1,a.2.2.1,a.2.2.2))))
def RB h f j c e b i a g:=(HP h f j c e b i a g).ev
abbrev aKx:RetK:=⟨[.ownB 4 0 5 3 yi,.ownRB 4 1 7 22 3 yi,.ownB 4 2 8 3 yi,.ren 1217 5,.ren 1222 7,.ren 1223 8],[.cell 4 38,.tmp 5],(yj [.agg (yj [.arr 5,.arr 7,.arr 8,.dat yi]),.dat .bool]),[(5,.arr 3 yi),(7,.rows 22 3 yi),(8,.arr 3 yi)],[],[]⟩
abbrev aFH{a b c d e:Type}(r:a×b×c×d×e):=((((),(),(),r.1,()),r.2.1,()),r.2.2.1,r.2.2.2.1,r.2.2.2.2,())
def aVt:FP prog:=aG cx func147 [aMS,aTy,aVl,SK] (yj [.agg qC,.agg EC]) [] [] (Ql HP) aKx aFH
def wwe(k:Y1)(v:(List UInt8)×Int):Tr (((List UInt8)×Int)⊕(List UInt8)):=.t (v.2<(length k:Int)) (.t (0<v.2) (.g (length v.1+length ([32]:List UInt8)<=9223372036854775807)<|.g (aB v.2 (length k))<|.c _ (rT 1000000 (getD k (toNat v.2) 0)) λa=>.g (length (v.1++([32]:List UInt8))+length a<=9223372036854775807)<|.l (.inl (((v.1++([32]:List UInt8))++a),(wrap .i64 (v.2+1))))) (.g (aB v.2 (length k))<|.c _ (rT 1000000 (getD k (toNat v.2) 0)) λb=>.g (length v.1+length b<=9223372036854775807)<|.l (.inl ((v.1++b),(wrap .i64 (v.2+1)))))) (.l (.inr v.1))
def aCC k v:=aC (λv=>(wwe k v).ev) v
abbrev aEp:Keep:=yh [0,3,4] (yj [.dat y1,.dat .str,.dat yi])
abbrev Mv:Keep:=yh [3] (yj [.dat .str])
def aOT:LD:=yl (wwe) aEp [(0,Mv)] bC Wn R2 C6 (λ_ r=>yx 0 Mv ((r,()),()))
def FE(b:Y1):Tr (List UInt8):=.c _ (aCC b ([],0)) λa=>.t (a==([]:List UInt8)) (.l ([110,111,110,101]:List UInt8)) (.l a)
def Lk a:=(FE a).ev
def aFq:FP prog:=aG cx func210 [U8] N1 [] [] (qH FE) Lw bH bU [(0,aOT)]
noncomputable abbrev aCq(p1 p2:Int)(p3:Y1)(p4:List Y1)(p5:Y1)(p6:Int):=(.t (p1==p2) (.c _ (rT 1000000 (length p3:Int)) λb=>.l (p3,p4,p5,p6,b)) (.t (p1==7) (.t (p1==7) (.c _ (rT 1000000 (length p4:Int)) λf=>.l (p3,p4,p5,p6,f)) (.c _ (Lk p5) λa=>.l (p3,p4,p5,p6,a))) (.t (p1==9) (.c _ (rT 1000000 (length p4:Int)) λe=>.l (p3,p4,p5,p6,e)) (.c _ (Lk p5) λg=>.l (p3,p4,p5,p6,g)))):Tr DS)
def NC(h:Y1)(g:List Y1)(j:Y1)(e b m i f:Int)(o:Y1):Tr DS:=.c _ (RB h g j e b m i f o) λa=>.t (!a.2.1) (.l (h,g,j,e,([63]:List UInt8))) (.t (b==4) (.c _ (rT 1000000 i) λn=>.l (a.2.2.1,a.2.2.2.1,a.2.2.2.2,a.1,n)) (.t (b==5) (.c _ (rT 1000000 f) λp=>.l (a.2.2.1,a.2.2.2.1,a.2.2.2.2,a.1,p)) (.t (b==6) (aCq b 6 a.2.2.1 a.2.2.2.1 a.2.2.2.2 a.1) (aCq b 8 a.2.2.1 a.2.2.2.1 a.2.2.2.2 a.1))))
def zS h f j c e b i a g:=(NC h f j c e b i a g).ev
abbrev aMq:RetK:=⟨[.fz 709,.fz 711,.fz 712],[.cell 4 38,.tmp 5],(yj [.agg qC,.dat .str]),[],[],[]⟩
abbrev Rf{a b c d e:Type}(r:a×b×c×d×e):=(((r.1,r.2.1,r.2.2.1,r.2.2.2.1,()),r.2.2.2.2,()),())
def Yi:FP prog:=aG cx func136 [aVt,U8,aFq] (yj [.agg qC,.agg EC]) [] [] (Ql NC) aMq Rf
def VE(e:Y1)(b:List Y1)(a:Y1)(f:Int):Tr (Int×Bool):=.c _ (Qj e b a f) λh=>.t (!h) (.l (0,false)) (.t ((length a:Int)==(0:Int)) (.l (0,false)) (.c _ (I6 e b a) λg=>.l (g,true)))
def CB b a e c:=(VE b a e c).ev
abbrev Ry:RetK:=yr [.tmp 2,.tmp 3] (yj [.dat yi,.dat .bool])
abbrev uE{a b:Type}(r:a×b):=((r.1,r.2,()),())
def aGn:FP prog:=aG cx func279 [SK,KG] (yj [.agg qC]) [] [] (G4 VE) Ry uE
def UE(b:Int)(a:Bool):Tr (List UInt8):=.t (!a) (.l ([63]:List UInt8)) (.c _ (rT 1000000 b) λe=>.l e)
def Dx b a:=(UE b a).ev
def aSm:FP prog:=aG cx func278 [U8] (yj [.dat yi,.dat .bool]) [] [] (kJ UE) Sq bH
def YG(b a:Int):Tr Int:=.t (b<a) (.l b) (.l a)
def XB b a:=(YG b a).ev
def aKO:FP prog:=aG cx func226 [] (yj [.dat yi,.dat yi]) [] [] (kJ YG) pG bH
def LT(b a:Int):Tr Int:=.t (a<b) (.l b) (.l a)
def Wy b a:=(LT b a).ev
def aDo:FP prog:=aG cx func225 [] (yj [.dat yi,.dat yi]) [] [] (kJ LT) pG bH
def EF(k:Y1×Int×o7)(v:Int×Int):Tr (iC⊕Int):=.t (v.2<(length k.1:Int)) (.g (aB v.2 (length k.1))<|.g (aB v.2 (length k.2.2.2.2))<|.g (aB k.2.1 (length (getD k.2.2.2.2 (toNat v.2) [])))<|.c _ (Wy 0 (wrap .i64 ((getD k.1 (toNat v.2) 0) -(wrap .i64 (k.2.2.1*(getD (getD k.2.2.2.2 (toNat v.2) []) (toNat k.2.1) 0)))))) λa=>.l (.inl ((wrap .i64 (v.1+a)),(wrap .i64 (v.2+1))))) (.l (.inr v.1))
def IA k v:=aC (λv=>(EF k v).ev) v
abbrev aKE:Keep:=yk [] [1,2,3,4,9,10] (yj [.dat y1,.dat yi,.dat yi,.box 4 0,.dat yi,.dat yi]) [(4,.cells bR)]
abbrev aEk:Keep:=yh [9] eN
abbrev aVy{a b c d e g h:Type}(k:a×b×c×d×e)(v:g×h):=((k.1,k.2.1,k.2.2.1,(),v.1,v.2,()),(k.2.2.2.1,k.2.2.2.2,()),())
abbrev aFA{a b c d e g h i:Type}(t:(a×b×c×d)×(e×g×h)×i):=(t.1.1,t.1.2.1,t.1.2.2.1,t.2.1.1,t.2.1.2.1)
abbrev aEo{a b c d e g h i:Type}(t:(a×b×c×d×e×g×h)×i):=(t.1.2.2.2.2.1,t.1.2.2.2.2.2.1)
def aPU:LD:=yl (EF) aKE [(0,aEk)] bC aVy aFA aEo (λ_ r=>yx 0 aEk ((r,()),()))
def Xd(f:Y1)(e:List Y1)(g:Y1)(a b:Int):Tr Int:=.c _ (IA (g,a,b,f,e) (0,0)) λh=>.l h
def Ev e c f a b:=(Xd e c f a b).ev
abbrev aEq{a b c d e g h i:Type}{z:Type _}(f:a->b->d->e->g->z)(x:((a×b×c)×d×e×g×h)×i):z:=f x.1.1.1 x.1.1.2.1 x.1.2.1 x.1.2.2.1 x.1.2.2.2.1
abbrev aPE:RetK:=yr [.tmp 8] eN
def SP:FP prog:=aG cx func391 [aDo] (yj [.agg bR,.dat y1,.dat yi,.dat yi]) [] [] (aEq Xd) aPE bH bU [(0,aPU)]
def Wb(k:Y1×Int×o7)(v:Int×Int):Tr (iC⊕Int):=.t (v.2<(length k.2.2.2.1:Int)) (.g (aB k.2.1 (length k.2.2.2.2))<|.g (aB v.2 (length (getD k.2.2.2.2 (toNat k.2.1) [])))<|.t ((getD (getD k.2.2.2.2 (toNat k.2.1) []) (toNat v.2) 0)<=k.2.2.1) (.g (aB v.2 (length k.2.2.2.1))<|.c _ (Ev k.2.2.2.1 k.2.2.2.2 k.1 v.2 1) λa=>.t (v.1<0) (.l (.inl ((wrap .i64 ((getD k.2.2.2.1 (toNat v.2) 0) -a)),(wrap .i64 (v.2+1))))) (.t ((wrap .i64 ((getD k.2.2.2.1 (toNat v.2) 0) -a))<v.1) (.l (.inl ((wrap .i64 ((getD k.2.2.2.1 (toNat v.2) 0) -a)),(wrap .i64 (v.2+1))))) (.l (.inl (v.1,(wrap .i64 (v.2+1))))))) (.t (v.1<0) (.l (.inl ((wrap .i64 ((getD (getD k.2.2.2.2 (toNat k.2.1) []) (toNat v.2) 0) -k.2.2.1)),(wrap .i64 (v.2+1))))) (.t ((wrap .i64 ((getD (getD k.2.2.2.2 (toNat k.2.1) []) (toNat v.2) 0) -k.2.2.1))<v.1) (.l (.inl ((wrap .i64 ((getD (getD k.2.2.2.2 (toNat k.2.1) []) (toNat v.2) 0) -k.2.2.1)),(wrap .i64 (v.2+1))))) (.l (.inl (v.1,(wrap .i64 (v.2+1)))))))) (.l (.inr v.1))
def aEs k v:=aC (λv=>(Wb k v).ev) v
abbrev aWu:Keep:=yk [] [1,2,3,7,8,9] (yj [.dat y1,.dat yi,.box 3 0,.dat yi,.dat yi,.dat yi]) [(3,.cells bR)]
abbrev aFo:Keep:=yh [8] eN
abbrev aKU{a b c d e g h:Type}(k:a×b×c×d×e)(v:g×h):=((k.1,k.2.1,(),k.2.2.1,v.1,v.2,()),(k.2.2.2.1,k.2.2.2.2,()),())
abbrev KX{a b c d e g h i j:Type}(t:(a×b×c×d×e)×(g×h×i)×j):=(t.1.1,t.1.2.1,t.1.2.2.2.1,t.2.1.1,t.2.1.2.1)
def aKP:LD:=yl (Wb) aWu [(0,aFo)] bC aKU KX aEo (λ_ r=>yx 0 aFo ((r,()),()))
def XC(f:Y1)(e:List Y1)(b:Y1)(a:Int):Tr Int:=.g (aB a (length b))<|.c _ (aEs (b,a,(getD b (toNat a) 0),f,e) ((-1),0)) λh=>.l h
def HM b a e c:=(XC b a e c).ev
def aUf:FP prog:=aG cx func373 [SP] (yj [.agg bR,.dat y1,.dat yi]) [] [] (H2 XC) Bt bH bU [(0,aKP)]
def wwg(k:Int×N2)(v:Int×Int):Tr (iC⊕Int):=.t (v.2<(length k.2.1:Int)) (.g (aB k.1 (length k.2.2.1))<|.g (aB v.2 (length (getD k.2.2.1 (toNat k.1) [])))<|.c _ (XB v.1 (getD (getD k.2.2.1 (toNat k.1) []) (toNat v.2) 0)) λa=>.l (.inl (a,(wrap .i64 (v.2+1))))) (.l (.inr v.1))
def aBr k v:=aC (λv=>(wwg k v).ev) v
abbrev aNd:Keep:=yk [] [1,3,4,5,6] (yj [.box 1 0,.arr 10,.dat yi,.dat yi,.dat yi]) [jK,(10,.arr 3 yi)]
abbrev aFu:Keep:=yk [] [1,3,4,5] (yj [.box 1 0,.arr 10,.dat yi,.dat yi]) [jK,(10,.arr 3 yi)]
abbrev aDm{a b c d e g:Type}(k:a×b×c×d)(v:e×g):=(((),(),k.1,v.1,v.2,()),(k.2.1,k.2.2.1,()),k.2.2.2,())
abbrev aHr{a b c d e g h i j:Type}(t:(a×b×c×d)×(e×g×h)×i×j):=(t.1.2.2.1,t.2.1.1,t.2.1.2.1,t.2.2.1)
def aTs:LD:=yl (wwg) aNd [(2,aFu)] bC aDm aHr Ed (λk r=>yx 2 aFu (((),(),k.1,r,()),(k.2.1,k.2.2.1,()),k.2.2.2,()))
def wwh(k:Y1×Y2)(v:Int×Y1):Tr (gI⊕Y1):=.t (v.1<(length k.2:Int)) (.g (aB v.1 (length k.2))<|.g (aB 0 (length (getD k.2 (toNat v.1) [])))<|.c _ (aBr (v.1,k.1,k.2,v.2) ((getD (getD k.2 (toNat v.1) []) (toNat 0) 0),0)) λa=>.g ((length v.2+length ([a]:Y1))*8<=140737488355328)<|.l (.inl ((wrap .i64 (v.1+1)),(v.2++([a]:Y1))))) (.l (.inr v.2))
def PC k v:=aC (λv=>(wwh k v).ev) v
abbrev aQi:Keep:=yk [] [1,3,4] (yj [.box 1 0,.arr 10,.dat yi]) [jK,(10,.arr 3 yi)]
abbrev aDr:Keep:=yk [] [1,3] (yj [.box 1 0,.arr 10]) [jK,(10,.arr 3 yi)]
abbrev Th{a b c d:Type}(k:a×b)(v:c×d):=(((),(),v.1,()),(k.1,k.2,()),v.2,())
abbrev Md{a b c d e g h:Type}(t:(a×b×c×d)×e×g×h):=(t.1.2.2.1,t.2.2.1)
def aSc:LD:=yl (wwh) aQi [(0,aDr)] bC Th s7 Md (λk r=>yx 0 aDr (((),(),()),(k.1,k.2,()),r,()))
def HC(k:Y1×Y2)(v:Bool×gI):Tr ((Bool×gI)⊕o5):=.t (v.2.1<(length v.2.2:Int)) (.c _ (HM k.1 k.2 v.2.2 v.2.1) λa=>.t (0<a) (.g (aB v.2.1 (length v.2.2))<|.g ((toNat v.2.1)<length v.2.2)<|.g (aB v.2.1 (length v.2.2))<|.g ((toNat v.2.1)<length v.2.2)<|.l (.inl (true,(wrap .i64 (v.2.1+1)),(set v.2.2 (toNat v.2.1) (wrap .i64 ((getD v.2.2 (toNat v.2.1) 0)+a)))))) (.l (.inl (v.1,(wrap .i64 (v.2.1+1)),v.2.2)))) (.l (.inr (v.1,v.2.2)))
def aCO k v:=aC (λv=>(HC k v).ev) v
abbrev aRJ:Keep:=yk [] [1,3,7,8] (yj [.box 1 0,.arr 10,.dat .bool,.dat yi]) [jK,(10,.arr 3 yi)]
abbrev YO:Keep:=yk [] [1,3,7] (yj [.box 1 0,.arr 10,.dat .bool]) [jK,(10,.arr 3 yi)]
abbrev aNu{a b c d e:Type}(k:a×b)(v:c×d×e):=(((),(),v.1,v.2.1,()),(k.1,k.2,()),v.2.2,())
abbrev aPV{a b c d e g h i:Type}(t:(a×b×c×d×e)×g×h×i):=(t.1.2.2.1,t.1.2.2.2.1,t.2.2.1)
def aLf:LD:=yl (HC) aRJ [(6,YO)] bC aNu s7 aPV (λk r=>yx 6 YO (((),(),r.1,()),(k.1,k.2,()),r.2,()))
def Xj(k:Y1×Y2)(v:Bool×Y1):Tr (o5⊕Y1):=.t v.1 (.c _ (aCO (k.1,k.2) (false,0,v.2)) λa=>.l (.inl (a.1,a.2))) (.l (.inr v.2))
def aEZ k v:=aC (λv=>(Xj k v).ev) v
abbrev aCg:Keep:=yk [] [3] (yj [.arr 10]) [(10,.arr 3 yi)]
def aKV:LD:=yl (Xj) YO [(4,aCg)] bC Th s7 Md (λ_ r=>yx 4 aCg (((),()),r,()))
def SI(b:Y1)(a:List Y1):Tr Y1:=.c _ (PC (b,a) (0,[])) λf=>.c _ (aEZ (b,a) (true,f)) λe=>.l e
def AB b a:=(SI b a).ev
abbrev aSa:RetK:=⟨[.ren 10 0],[.tmp 2],zY,[rS],[],[]⟩
def aAV:FP prog:=aG cx func335 [aKO,aUf] (yj [.agg bR]) [] [] (g7 SI) aSa xJ bU [(2,aTs),(0,aSc),(6,aLf),(4,aKV)]
def wwi(k:Y1)(v:Int×Int):Tr (iC⊕Int):=.t (v.2<(length k:Int)) (.g (aB v.2 (length k))<|.l (.inl ((wrap .i64 (v.1+(getD k (toNat v.2) 0))),(wrap .i64 (v.2+1))))) (.l (.inr v.1))
def aDz k v:=aC (λv=>(wwi k v).ev) v
abbrev WZ:Keep:=yh [0,3,4] (yj [.dat y1,.dat yi,.dat yi])
def aUp:LD:=yl (wwi) WZ [(0,qB)] bC Wn R2 C6 (λ_ r=>yx 0 qB ((r,()),()))
def VN(b:Y1):Tr Int:=.c _ (aDz b (0,0)) λa=>.l a
def XX a:=(VN a).ev
def aQG:FP prog:=aG cx func334 [] N1 [] [] (qH VN) wR bH bU [(0,aUp)]
def PM(b:Y1)(a:List Y1)(i:Y1)(f:Int):Tr (Int×Bool):=.c _ (CB b a i f) λe=>.t (!e.2) (.l (0,false)) (.c _ (AB b a) λg=>.c _ (XX g) λh=>.l ((wrap .i64 (e.1-h)),true))
def KS b a e c:=(PM b a e c).ev
def aUN:FP prog:=aG cx func280 [aGn,aAV,aQG] (yj [.agg qC]) [] [] (G4 PM) Ry uE
def LO(b:Y1)(a:List Y1)(e:Y1):Tr (Int×Bool):=.c _ (Fa b a e) λg=>.t (!g) (.l (0,false)) (.c _ (Kj b a e) λf=>.l (f,true))
def VV b a c:=(LO b a c).ev
abbrev Qa:RetK:=yr [.tmp 4,.tmp 5] (yj [.dat yi,.dat .bool])
def aPG:FP prog:=aG cx func281 [Uh,FK] (yj [.agg bR,.dat y1]) [] [] (jB LO) Qa uE
def wwj(k:Y1×Y1×Y2)(v:Int×Int):Tr (iC⊕Int):=.t (v.2<(length k.2.2:Int)) (.c _ (Yo k.2.1 k.2.2 v.2 k.1) λa=>.c _ (Wy v.1 a) λb=>.l (.inl (b,(wrap .i64 (v.2+1))))) (.l (.inr v.1))
def aBm k v:=aC (λv=>(wwj k v).ev) v
def aTY:LD:=yl (wwj) RE [(0,Nn)] bC Qk Ay F1 (λ_ r=>yx 0 Nn ((r,()),()))
def YE(e:Y1)(b:List Y1)(f:Y1):Tr Int:=.c _ (aBm (f,e,b) (0,0)) λa=>.l a
def Rb b a c:=(YE b a c).ev
def aAK:FP prog:=aG cx func338 [aFL,aDo] (yj [.agg bR,.dat y1]) [] [] (jB YE) pG bH bU [(0,aTY)]
def YM(b:Y1)(a:List Y1)(e:Y1):Tr (Int×Bool):=.c _ (Fa b a e) λg=>.t (!g) (.l (0,false)) (.c _ (Rb b a e) λf=>.l (f,true))
def MU b a c:=(YM b a c).ev
def aNs:FP prog:=aG cx func282 [Uh,aAK] (yj [.agg bR,.dat y1]) [] [] (jB YM) Qa uE
def wwk(k:Y1×Y1×Y2)(v:Int×Y1):Tr (gI⊕Y1):=.t (v.1<(length k.2.2:Int)) (.c _ (BP k.2.1 k.2.2 v.1 k.1) λa=>.g ((length v.2+length ([a]:Y1))*8<=140737488355328)<|.l (.inl ((wrap .i64 (v.1+1)),(v.2++([a]:Y1))))) (.l (.inr v.2))
def aFJ k v:=aC (λv=>(wwk k v).ev) v
abbrev aMh:Keep:=yk [] [1,2,6,7] (yj [.dat y1,.box 2 0,.arr 8,.dat yi]) [xF,(8,.arr 3 yi)]
abbrev aBs:Keep:=yk [] [6] (yj [.arr 8]) [(8,.arr 3 yi)]
abbrev aMy{a b c d e:Type}(k:a×b×c)(v:d×e):=((k.1,(),(),v.1,()),(k.2.1,k.2.2,()),v.2,())
abbrev aEd{a b c d e g h i:Type}(t:(a×b×c×d×e)×g×h×i):=(t.1.2.2.2.1,t.2.2.1)
def aTK:LD:=yl (wwk) aMh [(0,aBs)] bC aMy Ay aEd (λ_ r=>yx 0 aBs (((),()),r,()))
def FB(b:Y1)(a:List Y1)(e:Y1):Tr o5:=.c _ (Fa b a e) λg=>.t (!g) (.l (false,[])) (.c _ (aFJ (e,b,a) (0,[])) λf=>.l (true,f))
def HB b a c:=(FB b a c).ev
abbrev aNh:RetK:=⟨[.ren 8 0],[.tmp 4,.tmp 5],Kr,[rS],[],[]⟩
def aIM:FP prog:=aG cx func283 [Uh,aET] (yj [.agg bR,.dat y1]) [] [] (jB FB) aNh qD bU [(0,aTK)]
def VF(b:Y1)(a:Bool):Tr (List UInt8):=.t (!a) (.l ([63]:List UInt8)) (.c _ (Lk b) λe=>.l e)
def Tz b a:=(VF b a).ev
def aDQ:FP prog:=aG cx func211 [aFq] (yj [.dat y1,.dat .bool]) [] [] (kJ VF) Sq bH
def wso(k:Int×Int×o7)(v:Int):Tr (Int⊕(Unit⊕Unit)):=.t (v<(length k.2.2.2.1:Int)) (.g (aB k.1 (length k.2.2.2.2))<|.g (aB k.2.2.1 (length (getD k.2.2.2.2 (toNat k.1) [])))<|.g (aB k.1 (length k.2.2.2.2))<|.g (aB v (length (getD k.2.2.2.2 (toNat k.1) [])))<|.g (aB k.2.1 (length k.2.2.2.2))<|.g (aB v (length (getD k.2.2.2.2 (toNat k.2.1) [])))<|.g (aB k.2.1 (length k.2.2.2.2))<|.g (aB k.2.2.1 (length (getD k.2.2.2.2 (toNat k.2.1) [])))<|.t ((wrap .i64 ((wrap .i64 ((getD (getD k.2.2.2.2 (toNat k.1) []) (toNat v) 0)+(getD (getD k.2.2.2.2 (toNat k.2.1) []) (toNat v) 0)))+(getD (getD k.2.2.2.2 (toNat k.2.1) []) (toNat k.2.2.1) 0)))<(getD (getD k.2.2.2.2 (toNat k.1) []) (toNat k.2.2.1) 0)) (.l (.inr (.inr ()))) (.l (.inl (wrap .i64 (v+1))))) (.l (.inr (.inl ())))
def aEl k v:=aC (λv=>(wso k v).ev) v
abbrev aWq:Keep:=yk [] [1,3,4,5,6] (yj [.box 1 0,.dat yi,.dat yi,.dat yi,.dat yi]) [jK]
abbrev OI:Keep:=yk [] [1,3,4,5] (yj [.box 1 0,.dat yi,.dat yi,.dat yi]) [jK]
abbrev aSP{a b c d e g:Type}(k:a×b×c×d×e)(v:g):=(((),k.1,k.2.1,k.2.2.1,v,()),(k.2.2.2.1,k.2.2.2.2,()),())
abbrev aLH{a b c d e g h i j:Type}(t:(a×b×c×d×e)×(g×h×i)×j):=(t.1.2.1,t.1.2.2.1,t.1.2.2.2.1,t.2.1.1,t.2.1.2.1)
def aPJ:LD:=yl (wso) aWq [(6,OI)] wV aSP aLH Ph (λk r=>.s _ _ r (λ_=>yx 6 OI (((),k.1,k.2.1,k.2.2.1,()),(k.2.2.2.1,k.2.2.2.2,()),())) (λ_=>yz wV ((false,()),())))
def ZE(k:Int×o7)(v:Int):Tr (Int⊕(Unit⊕Unit)):=.t (v<(length k.2.2.1:Int)) (.c _ (aEl (k.1,k.2.1,v,k.2.2.1,k.2.2.2) 0) λa=>.s _ _ a (λ_=>.l (.inl (wrap .i64 (v+1)))) (λ_=>.l (.inr (.inr ())))) (.l (.inr (.inl ())))
def aAo k v:=aC (λv=>(ZE k v).ev) v
abbrev aAZ{a b c d e:Type}(k:a×b×c×d)(v:e):=(((),k.1,k.2.1,v,()),(k.2.2.1,k.2.2.2,()),())
abbrev aFw{a b c d e g h i:Type}(t:(a×b×c×d)×(e×g×h)×i):=(t.1.2.1,t.1.2.2.1,t.2.1.1,t.2.1.2.1)
def aJC:LD:=yl (ZE) OI [(4,Rn)] wV aAZ aFw qE (λk r=>.s _ _ r (λ_=>yx 4 Rn (((),k.1,k.2.1,()),(k.2.2.1,k.2.2.2,()),())) (λ_=>yz wV ((false,()),())))
def YV(k:Int×Y1×Y2)(v:Int):Tr (Int⊕(Unit⊕Unit)):=.t (v<(length k.2.2:Int)) (.c _ (aAo (k.1,v,k.2.1,k.2.2) 0) λa=>.s _ _ a (λ_=>.l (.inl (wrap .i64 (v+1)))) (λ_=>.l (.inr (.inr ())))) (.l (.inr (.inl ())))
def aBW k v:=aC (λv=>(YV k v).ev) v
def aTa:LD:=yl (YV) Rn [(2,Ve)] wV aHf FH q9 (λk r=>.s _ _ r (λ_=>yx 2 Ve (((),k.1,()),(k.2.1,k.2.2,()),())) (λ_=>yz wV ((false,()),())))
def ZM(k:Y1×Y2)(v:Int):Tr (Int⊕(Unit⊕Unit)):=.t (v<(length k.2:Int)) (.c _ (aBW (v,k.1,k.2) 0) λa=>.s _ _ a (λ_=>.l (.inl (wrap .i64 (v+1)))) (λ_=>.l (.inr (.inr ())))) (.l (.inr (.inl ())))
def aDv k v:=aC (λv=>(ZM k v).ev) v
abbrev aTC{a b c:Type}(k:a×b)(v:c):=(((),v,()),(k.1,k.2,()),())
abbrev SU{a b c d:Type}(t:(a×b×c)×d):=t.1.2.1
def aHV:LD:=yl (ZM) Ve [(0,bC)] wV aTC s7 SU (λ_ r=>.s _ _ r (λ_=>yx 0 bC ((),())) (λ_=>yz wV ((false,()),())))
def JU(b:Y1)(a:List Y1):Tr Bool:=.c _ (aDv (b,a) 0) λe=>.s _ _ e (λ_=>.l true) (λ_=>.l false)
def PA b a:=(JU b a).ev
def aKK:FP prog:=aG cx func299 [] (yj [.agg bR]) [] [] (g7 JU) qY bH bU [(6,aPJ),(4,aJC),(2,aTa),(0,aHV)]
def NA(a:Y1)(b:List Y1):Tr (Bool×Bool):=.c _ (Mt a b) λf=>.t (!f) (.l (false,false)) (.c _ (PA a b) λe=>.l (e,true))
def II b a:=(NA b a).ev
abbrev aEc:RetK:=yr [.tmp 2,.tmp 3] (yj [.dat .bool,.dat .bool])
def aQP:FP prog:=aG cx func285 [K1,aKK] (yj [.agg bR]) [] [] (g7 NA) aEc uE
def aFf(b a:Bool):Tr (List UInt8):=.t (!a) (.l ([63]:List UInt8)) (.t b (.l ([121,101,115]:List UInt8)) (.l ([110,111]:List UInt8)))
def YH b a:=(aFf b a).ev
def aOK:FP prog:=aG cx func284 [] (yj [.dat .bool,.dat .bool]) [] [] (kJ aFf) Sq bH
def wwm(k:Y1)(v:(List UInt8)×Int):Tr (((List UInt8)×Int)⊕(List UInt8)):=.t (v.2<(length k:Int)) (.t (0<v.2) (.g (length v.1+length ([32]:List UInt8)<=9223372036854775807)<|.g (aB v.2 (length k))<|.c _ (rT 1000000 (getD k (toNat v.2) 0)) λa=>.g (length (v.1++([32]:List UInt8))+length a<=9223372036854775807)<|.l (.inl (((v.1++([32]:List UInt8))++a),(wrap .i64 (v.2+1))))) (.g (aB v.2 (length k))<|.c _ (rT 1000000 (getD k (toNat v.2) 0)) λb=>.g (length v.1+length b<=9223372036854775807)<|.l (.inl ((v.1++b),(wrap .i64 (v.2+1)))))) (.l (.inr v.1))
def aAB k v:=aC (λv=>(wwm k v).ev) v
def aQD:LD:=yl (wwm) aEp [(0,Mv)] bC Wn R2 C6 (λ_ r=>yx 0 Mv ((r,()),()))
def HN(b:Y1):Tr (List UInt8):=.c _ (aAB b ([],0)) λa=>.l a
def Yg a:=(HN a).ev
def aRn:FP prog:=aG cx func340 [U8] N1 [] [] (qH HN) Lw bH bU [(0,aQD)]
def wwn(k:Y1×Y2)(v:(List UInt8)×Int):Tr (((List UInt8)×Int)⊕(List UInt8)):=.t (v.2<(length k.2:Int)) (.g (length v.1+length ([32,47,32]:List UInt8)<=9223372036854775807)<|.g (aB v.2 (length k.2))<|.c _ (Yg (getD k.2 (toNat v.2) [])) λa=>.g (length (v.1++([32,47,32]:List UInt8))+length a<=9223372036854775807)<|.l (.inl (((v.1++([32,47,32]:List UInt8))++a),(wrap .i64 (v.2+1))))) (.l (.inr v.1))
def aCn k v:=aC (λv=>(wwn k v).ev) v
abbrev aWm:Keep:=yk [] [1,3,4] (yj [.box 1 0,.dat .str,.dat yi]) [jK]
abbrev aGq{a b c d:Type}(k:a×b)(v:c×d):=(((),v.1,v.2,()),(k.1,k.2,()),())
def aSp:LD:=yl (wwn) aWm [(0,Mv)] bC aGq s7 C6 (λ_ r=>yx 0 Mv ((r,()),()))
def QY(a:Y1)(e:List Y1):Tr (List UInt8):=.c _ (Yg a) λf=>.c _ (aCn (a,e) (f,0)) λb=>.l b
def Zv b a:=(QY b a).ev
def aKc:FP prog:=aG cx func286 [aRn] (yj [.agg bR]) [] [] (g7 QY) Lw bH bU [(0,aSp)]
def UD(a:Y1)(b:List Y1):Tr o5:=.c _ (Mt a b) λf=>.t (!f) (.l (false,[])) (.c _ (AB a b) λe=>.l (true,e))
def OG b a:=(UD b a).ev
abbrev aPu:RetK:=⟨[.ren 7 0,.ren 576 0],[.tmp 2,.tmp 3],Kr,[rS],[],[]⟩
def aMN:FP prog:=aG cx func287 [K1,aAV] (yj [.agg bR]) [] [] (g7 UD) aPu qD
def wwo(k:Y1×Y2)(v:Int×Int):Tr (iC⊕Int):=.t (v.2<(length k.1:Int)) (.g (aB v.2 (length k.1))<|.g (aB v.1 (length k.1))<|.t ((getD k.1 (toNat v.2) 0)<(getD k.1 (toNat v.1) 0)) (.l (.inl (v.2,(wrap .i64 (v.2+1))))) (.l (.inl (v.1,(wrap .i64 (v.2+1)))))) (.l (.inr v.1))
def aHk k v:=aC (λv=>(wwo k v).ev) v
def aTq:LD:=yl (wwo) Rn [(0,qB)] bC aGq s7 C6 (λ_ r=>yx 0 qB ((r,()),()))
def WC(e:Y1)(b:List Y1):Tr Int:=.c _ (aHk (e,b) (0,1)) λa=>.l a
def QF b a:=(WC b a).ev
def aWe:FP prog:=aG cx func341 [] (yj [.agg bR]) [] [] (g7 WC) wR bH bU [(0,aTq)]
def ZI(k:Int×Du)(v:Int×Y1):Tr (gI⊕Y1):=.t (v.1<(length k.2.1:Int)) (.g (aB v.1 (length k.2.2.1))<|.t (getD k.2.2.1 (toNat v.1) false) (.g (aB v.1 (length k.2.1))<|.g ((length v.2+length ([(getD k.2.1 (toNat v.1) 0)]:Y1))*8<=140737488355328)<|.l (.inl ((wrap .i64 (v.1+1)),(v.2++([(getD k.2.1 (toNat v.1) 0)]:Y1))))) (.g ((length v.2+length ([k.1]:Y1))*8<=140737488355328)<|.l (.inl ((wrap .i64 (v.1+1)),(v.2++([k.1]:Y1)))))) (.l (.inr v.2))
def aHR k v:=aC (λv=>(ZI k v).ev) v
abbrev aMb:Keep:=yk [] [1,3,4] (yj [.box 1 0,.arr 6,.dat yi]) [(1,.cells A7),(6,.arr 3 yi)]
abbrev aFn:Keep:=yk [] [3] (yj [.arr 6]) [(6,.arr 3 yi)]
abbrev aOz{a b c d e g h:Type}(k:a×b×c×d×e)(v:g×h):=(((),(),v.1,()),(k.1,k.2.1,k.2.2.1,k.2.2.2.1,k.2.2.2.2,()),v.2,())
abbrev WO{a b c d e g h i:Type}(t:a×(b×c×d×e×g×h)×i):=(t.2.1.1,t.2.1.2.1,t.2.1.2.2.1,t.2.1.2.2.2.1,t.2.1.2.2.2.2.1)
def aQq:LD:=yl (ZI) aMb [(0,aFn)] bC aOz WO Md (λ_ r=>yx 0 aFn (((),()),r,()))
def VD(g:Int)(f:Y1)(h:List Bool)(a e:Y1):Tr Y1:=.c _ (aHR (g,f,h,a,e) (0,[])) λb=>.l b
def Ox e c f a b:=(VD e c f a b).ev
abbrev aIN:RetK:=⟨[.ren 6 0],[.tmp 2],zY,[rS],[],[]⟩
def aEw:FP prog:=aG cx func392 [] (yj [.agg A7]) [] [] (Qt VD) aIN xJ bU [(0,aQq)]
def VK(_f:Int)(_i:Y1)(_e:List Bool)(_h a:Y1)(b c:Int):Tr Bool:=.g (aB b (length a))<|.g (aB c (length a))<|.t ((getD a (toNat b) 0)<(getD a (toNat c) 0)) (.l true) (.g (aB b (length a))<|.g (aB c (length a))<|.t ((getD a (toNat b) 0)==(getD a (toNat c) 0)) (.l (b<c)) (.l false))
def Xr f e h b c a g:=(VK f e h b c a g).ev
abbrev aLW{a b c d e g h i j l:Type}{z:Type _}(f:a->b->c->d->e->h->i->z)(x:((a×b×c×d×e×g)×h×i×j)×l):z:=f x.1.1.1 x.1.1.2.1 x.1.1.2.2.1 x.1.1.2.2.2.1 x.1.1.2.2.2.2.1 x.1.2.1 x.1.2.2.1
def aAI:FP prog:=aG cx func378 [] (yj [.agg A7,.dat yi,.dat yi]) [] [] (aLW VK) W3 bH
def JD(k:Int×Y1×(List Bool)×Y1×Y1×Y2×Int×gI)(v:Int×Y1):Tr (gI⊕Y1):=.t (v.1<(length k.2.2.2.2.1:Int)) (.g (aB v.1 (length v.2))<|.g ((toNat v.1)<length v.2)<|.t ((getD v.2 (toNat v.1) 0)<(0:Int)) (.c _ (Ev k.2.2.2.2.1 k.2.2.2.2.2.1 k.2.2.2.2.2.2.2.2 v.1 2520) λa=>.g (aB v.1 (length k.2.2.2.2.1))<|.t (a==(wrap .i64 ((2520:Int)*(getD k.2.2.2.2.1 (toNat v.1) 0)))) (.g (aB v.1 (length v.2))<|.g ((toNat v.1)<length v.2)<|.l (.inl ((wrap .i64 (v.1+1)),(set v.2 (toNat v.1) k.2.2.2.2.2.2.1)))) (.l (.inl ((wrap .i64 (v.1+1)),v.2)))) (.l (.inl ((wrap .i64 (v.1+1)),v.2)))) (.l (.inr v.2))
def aED k v:=aC (λv=>(JD k v).ev) v
abbrev aQw:Keep:=yk [] [1,2,3,4,5,6] (yj [.agg Me,.box 2 0,.box 3 0,.box 4 0,.arr 704,.dat yi]) [mS,(65,.arr 4 .bool),(66,.arr 3 yi),(67,.arr 3 yi),xF,(3,.cells Me),ZD,(704,.arr 3 yi)]
abbrev aGp:Keep:=yk [] [1,2,3,4,5] (yj [.agg Me,.box 2 0,.box 3 0,.box 4 0,.arr 704]) [mS,(65,.arr 4 .bool),(66,.arr 3 yi),(67,.arr 3 yi),xF,(3,.cells Me),ZD,(704,.arr 3 yi)]
abbrev aNr{a b c d e g h i j l m:Type}(k:a×b×c×d×e×g×h×i×j)(v:l×m):=(((k.1,(),(),(),(),()),(),(),(),(),v.1,()),k.2.1,k.2.2.1,k.2.2.2.1,v.2,(k.2.2.2.2.1,k.2.2.2.2.2.1,()),(k.2.2.2.2.2.2.1,(),(),(),(),()),(k.2.2.2.2.2.2.2.1,(),(),(),(),()),k.2.2.2.2.2.2.2.2,())
abbrev aLt{a b c d e g h i j l m n o p q s:Type}(t:((a×b)×c)×d×e×g×h×(i×j×l)×(m×n)×(o×p)×q×s):=(t.1.1.1,t.2.1,t.2.2.1,t.2.2.2.1,t.2.2.2.2.2.1.1,t.2.2.2.2.2.1.2.1,t.2.2.2.2.2.2.1.1,t.2.2.2.2.2.2.2.1.1,t.2.2.2.2.2.2.2.2.1)
abbrev aOL{a b c d e g h i j l m n:Type}(t:(a×b×c×d×e×g×h)×i×j×l×m×n):=(t.1.2.2.2.2.2.1,t.2.2.2.2.1)
def aWx:LD:=yl (JD) aQw [(0,aGp)] bC aNr aLt aOL (λk r=>yx 0 aGp (((k.1,(),(),(),(),()),(),(),(),(),()),k.2.1,k.2.2.1,k.2.2.2.1,r,(k.2.2.2.2.1,k.2.2.2.2.2.1,()),(k.2.2.2.2.2.2.1,(),(),(),(),()),(k.2.2.2.2.2.2.2.1,(),(),(),(),()),k.2.2.2.2.2.2.2.2,()))
def Po(k:Int×Int×Y1×(List Bool)×Y1×Y1×Y1×Y2×Int×gI)(v:Int×Int):Tr (iC⊕Int):=.t (v.2<(length k.2.2.2.2.2.2.1:Int)) (.g (aB k.2.1 (length k.2.2.2.1))<|.g ((toNat k.2.1)<length k.2.2.2.1)<|.t (!(getD k.2.2.2.1 (toNat k.2.1) false)) (.g (aB v.2 (length k.2.2.2.2.2.1))<|.g ((toNat v.2)<length k.2.2.2.2.2.1)<|.t ((0:Int)<=(getD k.2.2.2.2.2.1 (toNat v.2) 0)) (.g (aB k.2.1 (length k.2.2.2.2.2.2.2.1))<|.g (aB v.2 (length (getD k.2.2.2.2.2.2.2.1 (toNat k.2.1) [])))<|.t ((wrap .i64 ((2520:Int)*(getD (getD k.2.2.2.2.2.2.2.1 (toNat k.2.1) []) (toNat v.2) 0)))<=k.2.2.2.2.2.2.2.2.1) (.t (v.1<0) (.l (.inl (v.2,(wrap .i64 (v.2+1))))) (.c _ (Xr k.2.2.2.2.2.2.2.2.1 k.2.2.1 k.2.2.2.1 k.2.2.2.2.1 k.2.2.2.2.2.1 v.2 v.1) λa=>.t a (.l (.inl (v.2,(wrap .i64 (v.2+1))))) (.l (.inl (v.1,(wrap .i64 (v.2+1))))))) (.l (.inl (v.1,(wrap .i64 (v.2+1)))))) (.l (.inl (v.1,(wrap .i64 (v.2+1)))))) (.l (.inr v.1))) (.l (.inr v.1))
def aGs k v:=aC (λv=>(Po k v).ev) v
abbrev aQk:Keep:=yk [] [1,2,3,4,5,7,8,9] (yj [.agg Me,.box 2 0,.box 3 0,.box 4 0,.arr 704,.dat yi,.dat yi,.dat yi]) [mS,(65,.arr 4 .bool),(66,.arr 3 yi),(67,.arr 3 yi),xF,(3,.cells Me),ZD,(704,.arr 3 yi)]
abbrev aDC:Keep:=yk [] [1,2,3,4,5,7,8] (yj [.agg Me,.box 2 0,.box 3 0,.box 4 0,.arr 704,.dat yi,.dat yi]) [mS,(65,.arr 4 .bool),(66,.arr 3 yi),(67,.arr 3 yi),xF,(3,.cells Me),ZD,(704,.arr 3 yi)]
abbrev aKz{a b c d e g h i j l m n o:Type}(k:a×b×c×d×e×g×h×i×j×l×m)(v:n×o):=(((k.1,(),(),(),(),()),(),(),(),(),k.2.1,v.1,v.2,()),k.2.2.1,k.2.2.2.1,k.2.2.2.2.1,k.2.2.2.2.2.1,(k.2.2.2.2.2.2.1,k.2.2.2.2.2.2.2.1,()),(k.2.2.2.2.2.2.2.2.1,(),(),(),(),()),(k.2.2.2.2.2.2.2.2.2.1,(),(),(),(),()),k.2.2.2.2.2.2.2.2.2.2,())
abbrev aVO{a b c d e g h i j l m n o p q s t u w a19 a20:Type}(t:((a×b)×c×d×e×g×h×i)×j×l×m×n×(o×p×q)×(s×t)×(u×w)×a19×a20):=(t.1.1.1,t.1.2.2.2.2.2.1,t.2.1,t.2.2.1,t.2.2.2.1,t.2.2.2.2.1,t.2.2.2.2.2.1.1,t.2.2.2.2.2.1.2.1,t.2.2.2.2.2.2.1.1,t.2.2.2.2.2.2.2.1.1,t.2.2.2.2.2.2.2.2.1)
abbrev aIp{a b c d e g h i j l:Type}(t:(a×b×c×d×e×g×h×i×j)×l):=(t.1.2.2.2.2.2.2.1,t.1.2.2.2.2.2.2.2.1)
def aIu:LD:=yl (Po) aQk [(4,aDC)] bC aKz aVO aIp (λk r=>yx 4 aDC (((k.1,(),(),(),(),()),(),(),(),(),k.2.1,r,()),k.2.2.1,k.2.2.2.1,k.2.2.2.2.1,k.2.2.2.2.2.1,(k.2.2.2.2.2.2.1,k.2.2.2.2.2.2.2.1,()),(k.2.2.2.2.2.2.2.2.1,(),(),(),(),()),(k.2.2.2.2.2.2.2.2.2.1,(),(),(),(),()),k.2.2.2.2.2.2.2.2.2.2,()))
def Xh(k:Int×Y1×Y1×Y2×Int×gI)(v:Int×Y1×(List Bool)×Y1):Tr ((Int×Y1×(List Bool)×Y1)⊕(Y1×(List Bool)×Y1)):=.t (v.1<(length k.2.2.2.2.2.2:Int)) (.c _ (aGs (k.1,v.1,v.2.1,v.2.2.1,v.2.2.2,k.2.1,k.2.2.1,k.2.2.2.1,k.2.2.2.2.1,k.2.2.2.2.2.1,k.2.2.2.2.2.2) ((-1),0)) λa=>.t (0<=a) (.g (aB v.1 (length v.2.1))<|.g ((toNat v.1)<length v.2.1)<|.g (aB v.1 (length v.2.2.1))<|.g ((toNat v.1)<length v.2.2.1)<|.g (aB v.1 (length v.2.2.2))<|.g ((toNat v.1)<length v.2.2.2)<|.l (.inl ((wrap .i64 (v.1+1)),(set v.2.1 (toNat v.1) k.2.2.2.2.1),(set v.2.2.1 (toNat v.1) true),(set v.2.2.2 (toNat v.1) a)))) (.l (.inl ((wrap .i64 (v.1+1)),v.2.1,v.2.2.1,v.2.2.2)))) (.l (.inr (v.2.1,v.2.2.1,v.2.2.2)))
def aAx k v:=aC (λv=>(Xh k v).ev) v
abbrev aOR:Keep:=yk [] [1,2,3,4,5,7] (yj [.agg Me,.box 2 0,.box 3 0,.box 4 0,.arr 704,.dat yi]) [mS,(65,.arr 4 .bool),(66,.arr 3 yi),(67,.arr 3 yi),xF,(3,.cells Me),ZD,(704,.arr 3 yi)]
abbrev aBw:Keep:=yk [] [1,3,4] (yj [.agg Me,.box 3 0,.box 4 0]) [mS,(65,.arr 4 .bool),(66,.arr 3 yi),(67,.arr 3 yi),(3,.cells Me),ZD]
abbrev aOc{a b c d e g h i j l m:Type}(k:a×b×c×d×e×g×h)(v:i×j×l×m):=(((k.1,(),(),(),(),()),(),(),(),(),v.1,()),v.2.1,v.2.2.1,v.2.2.2,k.2.1,(k.2.2.1,k.2.2.2.1,()),(k.2.2.2.2.1,(),(),(),(),()),(k.2.2.2.2.2.1,(),(),(),(),()),k.2.2.2.2.2.2,())
abbrev aLc{a b c d e g h i j l m n o p q s:Type}(t:((a×b)×c)×d×e×g×h×(i×j×l)×(m×n)×(o×p)×q×s):=(t.1.1.1,t.2.2.2.2.1,t.2.2.2.2.2.1.1,t.2.2.2.2.2.1.2.1,t.2.2.2.2.2.2.1.1,t.2.2.2.2.2.2.2.1.1,t.2.2.2.2.2.2.2.2.1)
abbrev aKb{a b c d e g h i j l m:Type}(t:(a×b×c×d×e×g×h)×i×j×l×m):=(t.1.2.2.2.2.2.1,t.2.1,t.2.2.1,t.2.2.2.1)
def aKr:LD:=yl (Xh) aOR [(2,aBw)] bC aOc aLc aKb (λk r=>yx 2 aBw (((k.1,(),(),(),(),()),(),(),()),r.1,r.2.1,r.2.2,k.2.1,(k.2.2.2.2.1,(),(),(),(),()),(k.2.2.2.2.2.1,(),(),(),(),()),()))
def RA(i:Y1)(h:List Y1)(a:Int)(e:Y1)(f:List Bool)(b j:Y1):Tr (Int×Du):=.c _ (Ox a e f b j) λm=>.c _ (aED (a,e,f,b,i,h,a,0,m) (0,j)) λn=>.c _ (aAx (a,n,i,h,a,0,m) (0,e,f,b)) λg=>.l (a,g.1,g.2.1,g.2.2,n)
def Yh f e h b c a g:=(RA f e h b c a g).ev
abbrev aJr{a b c d e g h i j l m:Type}{z:Type _}(f:a->b->d->h->i->j->l->z)(x:((a×b×c)×(d×e)×g)×h×i×j×l×m):z:=f x.1.1.1 x.1.1.2.1 x.1.2.1.1 x.2.1 x.2.2.1 x.2.2.2.1 x.2.2.2.2.1
abbrev aIq:RetK:=⟨[.ren 64 1,.ren 65 2,.ren 66 5,.ren 67 6],[.cell 4 277],(yj [.agg (yj [.dat yi,.arr 1,.arr 2,.arr 5,.arr 6])]),[(1,.arr 3 yi),(2,.arr 4 .bool),(5,.arr 3 yi),(6,.arr 3 yi)],[],[64,65,66,67]⟩
abbrev aFh{a b c d e:Type}(r:a×b×c×d×e):=(((r.1,(),(),(),(),()),()),r.2.1,r.2.2.1,r.2.2.2.1,r.2.2.2.2,())
def aIW:FP prog:=aG cx func375 [aEw,SP,aAI] (yj [.agg bR,.agg Me]) [mS,(65,.arr 4 .bool),(66,.arr 3 yi),(67,.arr 3 yi)] [.comp 1 1,.comp 1 2,.comp 1 3,.comp 1 4] (aJr RA) aIq aFh bU [(0,aWx),(4,aIu),(2,aKr)]
def wsv(k:Int×Du)(v:Int):Tr (Int⊕(Unit⊕Unit)):=.t (v<(length k.2.2.1:Int)) (.g (aB v (length k.2.2.1))<|.t (!(getD k.2.2.1 (toNat v) false)) (.l (.inr (.inr ()))) (.l (.inl (wrap .i64 (v+1))))) (.l (.inr (.inl ())))
def aEV k v:=aC (λv=>(wsv k v).ev) v
abbrev aUG:Keep:=yk [] [1,3] (yj [.box 1 0,.dat yi]) [(1,.cells A7)]
abbrev aJk{a b c d e g:Type}(k:a×b×c×d×e)(v:g):=(((),v,()),(k.1,k.2.1,k.2.2.1,k.2.2.2.1,k.2.2.2.2,()),())
def aOk:LD:=yl (wsv) aUG [(0,bC)] wV aJk WO SU (λ_ r=>.s _ _ r (λ_=>yx 0 bC ((),())) (λ_=>yz wV ((true,()),())))
def OX(f:Int)(e:Y1)(g:List Bool)(a b:Y1):Tr Bool:=.c _ (aEV (f,e,g,a,b) 0) λh=>.s _ _ h (λ_=>.l false) (λ_=>.l true)
def NK e c f a b:=(OX e c f a b).ev
def aIc:FP prog:=aG cx func376 [] (yj [.agg A7]) [] [] (Qt OX) qY bH bU [(0,aOk)]
def AA(k:Int×Y1×Y2×Int×Du)(v:Int×Int):Tr (iC⊕Int):=.t (v.2<(length k.2.1:Int)) (.g (aB k.1 (length k.2.2.1))<|.g (aB v.2 (length (getD k.2.2.1 (toNat k.1) [])))<|.g (aB k.1 (length k.2.2.2.2.2.1))<|.t (!(getD k.2.2.2.2.2.1 (toNat k.1) false)) (.t (k.2.2.2.1<(wrap .i64 ((2520:Int)*(getD (getD k.2.2.1 (toNat k.1) []) (toNat v.2) 0)))) (.t (v.1<0) (.l (.inl ((wrap .i64 ((2520:Int)*(getD (getD k.2.2.1 (toNat k.1) []) (toNat v.2) 0))),(wrap .i64 (v.2+1))))) (.t ((wrap .i64 ((2520:Int)*(getD (getD k.2.2.1 (toNat k.1) []) (toNat v.2) 0)))<v.1) (.l (.inl ((wrap .i64 ((2520:Int)*(getD (getD k.2.2.1 (toNat k.1) []) (toNat v.2) 0))),(wrap .i64 (v.2+1))))) (.l (.inl (v.1,(wrap .i64 (v.2+1))))))) (.l (.inl (v.1,(wrap .i64 (v.2+1)))))) (.l (.inl (v.1,(wrap .i64 (v.2+1)))))) (.l (.inr v.1))
def aGZ k v:=aC (λv=>(AA k v).ev) v
abbrev aOS:Keep:=yk [] [2,3,5,6,7] (yj [.box 2 0,.box 3 0,.dat yi,.dat yi,.dat yi]) [xF,(3,.cells A7)]
abbrev YJ:Keep:=yk [] [2,3,5,6] (yj [.box 2 0,.box 3 0,.dat yi,.dat yi]) [xF,(3,.cells A7)]
abbrev aNl{a b c d e g h i j l:Type}(k:a×b×c×d×e×g×h×i)(v:j×l):=(((),(),v.1,k.1,v.2,()),(k.2.1,k.2.2.1,()),(k.2.2.2.1,k.2.2.2.2.1,k.2.2.2.2.2.1,k.2.2.2.2.2.2.1,k.2.2.2.2.2.2.2,()),())
abbrev aRg{a b c d e g h i j l m n o p q:Type}(t:(a×b×c×d×e)×(g×h×i)×(j×l×m×n×o×p)×q):=(t.1.2.2.2.1,t.2.1.1,t.2.1.2.1,t.2.2.1.1,t.2.2.1.2.1,t.2.2.1.2.2.1,t.2.2.1.2.2.2.1,t.2.2.1.2.2.2.2.1)
abbrev aCW{a b c d e g h:Type}(t:(a×b×c×d×e×g)×h):=(t.1.2.2.1,t.1.2.2.2.2.1)
def aPW:LD:=yl (AA) aOS [(2,YJ)] bC aNl aRg aCW (λk r=>yx 2 YJ (((),(),r,k.1,()),(k.2.1,k.2.2.1,()),(k.2.2.2.1,k.2.2.2.2.1,k.2.2.2.2.2.1,k.2.2.2.2.2.2.1,k.2.2.2.2.2.2.2,()),()))
def wwq(k:Y1×Y2×Int×Du)(v:Int×Int):Tr (iC⊕Int):=.t (v.2<(length k.2.1:Int)) (.c _ (aGZ (v.2,k.1,k.2.1,k.2.2.1,k.2.2.2.1,k.2.2.2.2.1,k.2.2.2.2.2.1,k.2.2.2.2.2.2) (v.1,0)) λa=>.l (.inl (a,(wrap .i64 (v.2+1))))) (.l (.inr v.1))
def aEg k v:=aC (λv=>(wwq k v).ev) v
abbrev aOn{a b c d e g h i j:Type}(k:a×b×c×d×e×g×h)(v:i×j):=(((),(),v.1,v.2,()),(k.1,k.2.1,()),(k.2.2.1,k.2.2.2.1,k.2.2.2.2.1,k.2.2.2.2.2.1,k.2.2.2.2.2.2,()),())
abbrev aJS{a b c d e g h i j l m:Type}(t:a×(b×c×d)×(e×g×h×i×j×l)×m):=(t.2.1.1,t.2.1.2.1,t.2.2.1.1,t.2.2.1.2.1,t.2.2.1.2.2.1,t.2.2.1.2.2.2.1,t.2.2.1.2.2.2.2.1)
def aOX:LD:=yl (wwq) YJ [(0,Nn)] bC aOn aJS F1 (λ_ r=>yx 0 Nn ((r,()),()))
def GZ(h:Y1)(g:List Y1)(j:Int)(e:Y1)(f:List Bool)(b i:Y1):Tr Int:=.c _ (aEg (h,g,j,e,f,b,i) ((-1),0)) λa=>.l a
def WU f e h b c a g:=(GZ f e h b c a g).ev
abbrev aHe{a b c d e g h i j l m:Type}{z:Type _}(f:a->b->d->e->g->h->i->z)(x:((a×b×c)×(d×e×g×h×i×j)×l)×m):z:=f x.1.1.1 x.1.1.2.1 x.1.2.1.1 x.1.2.1.2.1 x.1.2.1.2.2.1 x.1.2.1.2.2.2.1 x.1.2.1.2.2.2.2.1
def aUQ:FP prog:=aG cx func393 [] (yj [.agg bR,.agg A7]) [] [] (aHe GZ) pG bH bU [(2,aPW),(0,aOX)]
def WY(k:Int×Y1×Y2×Int×Du)(v:Int×Int):Tr (iC⊕Int):=.t (v.2<(length k.2.2.1:Int)) (.g (aB v.2 (length k.2.2.2.2.2.1))<|.t (!(getD k.2.2.2.2.2.1 (toNat v.2) false)) (.g (aB v.2 (length k.2.2.1))<|.g (aB k.1 (length (getD k.2.2.1 (toNat v.2) [])))<|.t ((wrap .i64 ((2520:Int)*(getD (getD k.2.2.1 (toNat v.2) []) (toNat k.1) 0)))<=k.2.2.2.1) (.l (.inl ((wrap .i64 (v.1+1)),(wrap .i64 (v.2+1))))) (.l (.inl (v.1,(wrap .i64 (v.2+1)))))) (.l (.inl (v.1,(wrap .i64 (v.2+1)))))) (.l (.inr v.1))
def aFm k v:=aC (λv=>(WY k v).ev) v
abbrev aVF:Keep:=yk [] [2,3,4,7,8] (yj [.dat yi,.box 3 0,.box 4 0,.dat yi,.dat yi]) [(3,.cells bR),(4,.cells A7)]
abbrev aNn{a b c d e g h i j l:Type}(k:a×b×c×d×e×g×h×i)(v:j×l):=((k.1,(),(),v.1,v.2,()),(k.2.1,k.2.2.1,()),(k.2.2.2.1,k.2.2.2.2.1,k.2.2.2.2.2.1,k.2.2.2.2.2.2.1,k.2.2.2.2.2.2.2,()),())
abbrev aVJ{a b c d e g h i j l m n:Type}(t:(a×b)×(c×d×e)×(g×h×i×j×l×m)×n):=(t.1.1,t.2.1.1,t.2.1.2.1,t.2.2.1.1,t.2.2.1.2.1,t.2.2.1.2.2.1,t.2.2.1.2.2.2.1,t.2.2.1.2.2.2.2.1)
def aJi:LD:=yl (WY) aVF [(0,u6)] bC aNn aVJ Ed (λ_ r=>yx 0 u6 ((r,()),()))
def PT(i:Y1)(g:List Y1)(m:Int)(b:Y1)(f:List Bool)(a j:Y1)(e:Int):Tr Int:=.c _ (aFm (e,i,g,m,b,f,a,j) (0,0)) λh=>.l h
def RY g f i c e b h a:=(PT g f i c e b h a).ev
abbrev aUw{a b c d e g h i j l m n:Type}{z:Type _}(f:a->b->d->e->g->h->i->l->z)(x:((a×b×c)×(d×e×g×h×i×j)×l×m)×n):z:=f x.1.1.1 x.1.1.2.1 x.1.2.1.1 x.1.2.1.2.1 x.1.2.1.2.2.1 x.1.2.1.2.2.2.1 x.1.2.1.2.2.2.2.1 x.1.2.2.1
def aVj:FP prog:=aG cx func394 [] (yj [.agg bR,.agg A7,.dat yi]) [] [] (aUw PT) Bt bH bU [(0,aJi)]
def Xo(k:Y1×Y2×Int×Y1×(List Bool)×Fv)(v:Int×Int):Tr (iC⊕Int):=.t (v.2<(length k.1:Int)) (.c _ (RY k.1 k.2.1 k.2.2.1 k.2.2.2.1 k.2.2.2.2.1 k.2.2.2.2.2.1 k.2.2.2.2.2.2.1 v.2) λa=>.g (aB v.2 (length k.1))<|.c _ (Ev k.1 k.2.1 k.2.2.2.2.2.2.2 v.2 2520) λb=>.g (aB v.2 (length k.2.2.2.2.2.2.1))<|.t ((getD k.2.2.2.2.2.2.1 (toNat v.2) 0)<(0:Int)) (.t (0<a) (.t (v.1<0) (.g (!decide (a=0))<|.l (.inl ((wrap .i64 (k.2.2.1+(wrap .i64 (Int.tdiv (wrap .i64 ((wrap .i64 ((2520:Int)*(getD k.1 (toNat v.2) 0))) -b)) a)))),(wrap .i64 (v.2+1))))) (.t ((wrap .i64 ((wrap .i64 ((2520:Int)*(getD k.1 (toNat v.2) 0))) -b))<(wrap .i64 (a*(wrap .i64 (v.1-k.2.2.1))))) (.g (!decide (a=0))<|.l (.inl ((wrap .i64 (k.2.2.1+(wrap .i64 (Int.tdiv (wrap .i64 ((wrap .i64 ((2520:Int)*(getD k.1 (toNat v.2) 0))) -b)) a)))),(wrap .i64 (v.2+1))))) (.l (.inl (v.1,(wrap .i64 (v.2+1))))))) (.l (.inl (v.1,(wrap .i64 (v.2+1)))))) (.l (.inl (v.1,(wrap .i64 (v.2+1)))))) (.l (.inr v.1))
def aHS k v:=aC (λv=>(Xo k v).ev) v
abbrev aIH:Keep:=yk [] [2,3,5,6,7] (yj [.box 2 0,.box 3 0,.dat yi,.arr 896,.dat yi]) [xF,(3,.cells A7),(896,.arr 3 yi)]
abbrev aTB{a b c d e g h i j l:Type}(k:a×b×c×d×e×g×h×i)(v:j×l):=(((),(),v.1,(),v.2,()),(k.1,k.2.1,()),(k.2.2.1,k.2.2.2.1,k.2.2.2.2.1,k.2.2.2.2.2.1,k.2.2.2.2.2.2.1,()),k.2.2.2.2.2.2.2,())
abbrev aUs{a b c d e g h i j l m n:Type}(t:a×(b×c×d)×(e×g×h×i×j×l)×m×n):=(t.2.1.1,t.2.1.2.1,t.2.2.1.1,t.2.2.1.2.1,t.2.2.1.2.2.1,t.2.2.1.2.2.2.1,t.2.2.1.2.2.2.2.1,t.2.2.2.1)
def aVs:LD:=yl (Xo) aIH [(0,Nn)] bC aTB aUs aCW (λ_ r=>yx 0 Nn ((r,()),()))
def IZ(i:Y1)(h:List Y1)(g:Int)(b:Y1)(e:List Bool)(a f:Y1):Tr Int:=.c _ (WU i h g b e a f) λn=>.c _ (Ox g b e a f) λj=>.c _ (aHS (i,h,g,b,e,a,f,j) (n,0)) λm=>.l m
def WG f e h b c a g:=(IZ f e h b c a g).ev
def aOJ:FP prog:=aG cx func377 [aUQ,aEw,aVj,SP] (yj [.agg bR,.agg A7]) [] [] (aHe IZ) pG bH bU [(0,aVs)]
def wwr(k:Y1×Y2×Int×Int×Y1×Y1×Y1×Y1×(List Bool)×Y1)(v:Int×Y1):Tr (gI⊕Y1):=.t (v.1<(length k.1:Int)) (.g ((length v.2+length ([(-1)]:Y1))*8<=140737488355328)<|.l (.inl ((wrap .i64 (v.1+1)),(v.2++([(-1)]:Y1))))) (.l (.inr v.2))
def aAl k v:=aC (λv=>(wwr k v).ev) v
abbrev aID:Keep:=yk [.ownB 2 1 900321 3 yi,.ownB 2 3 900323 3 yi,.ownB 2 4 900324 3 yi,.ownB 3 4 900334 3 yi] [1,2,3,4] (yj [.box 1 0,.box 2 0,.box 3 0,.dat yi]) [jK,Zbi,(3,.cells (yj [.dat yi,.arr 8,.arr 12,.arr 16,.arr 900334])),(900321,.arr 3 yi),(900323,.arr 3 yi),(900324,.arr 3 yi),(8,.arr 3 yi),(12,.arr 4 .bool),(16,.arr 3 yi),(900334,.arr 3 yi)]
abbrev aDa:Keep:=yk [] [1,2,3] (yj [.box 1 0,.box 2 0,.box 3 0]) [jK,Zbi,(3,.cells (yj [.dat yi,.arr 8,.arr 12,.arr 16,.arr 900334])),(900321,.arr 3 yi),(900323,.arr 3 yi),(900324,.arr 3 yi),(8,.arr 3 yi),(12,.arr 4 .bool),(16,.arr 3 yi),(900334,.arr 3 yi)]
abbrev aJq{a b c d e g h i j l m n:Type}(k:a×b×c×d×e×g×h×i×j×l)(v:m×n):=(((),(),(),v.1,()),(k.1,k.2.1,()),(k.2.2.1,(),(),(),(),()),(k.2.2.2.1,(),(),(),(),()),k.2.2.2.2.1,k.2.2.2.2.2.1,k.2.2.2.2.2.2.1,k.2.2.2.2.2.2.2.1,k.2.2.2.2.2.2.2.2.1,k.2.2.2.2.2.2.2.2.2,v.2,())
abbrev aOy{a b c d e g h i j l m n o p q:Type}(t:a×(b×c×d)×(e×g)×(h×i)×j×l×m×n×o×p×q):=(t.2.1.1,t.2.1.2.1,t.2.2.1.1,t.2.2.2.1.1,t.2.2.2.2.1,t.2.2.2.2.2.1,t.2.2.2.2.2.2.1,t.2.2.2.2.2.2.2.1,t.2.2.2.2.2.2.2.2.1,t.2.2.2.2.2.2.2.2.2.1)
abbrev aQv{a b c d e g h i j l m n o p q s:Type}(t:(a×b×c×d×e)×g×h×i×j×l×m×n×o×p×q×s):=(t.1.2.2.2.1,t.2.2.2.2.2.2.2.2.2.2.1)
def aRO:LD:=yl (wwr) aID [(0,aDa)] bC aJq aOy aQv (λk r=>yx 0 aDa (((),(),(),()),(k.1,k.2.1,()),(k.2.2.1,(),(),(),(),()),(k.2.2.2.1,(),(),(),(),()),k.2.2.2.2.1,k.2.2.2.2.2.1,k.2.2.2.2.2.2.1,k.2.2.2.2.2.2.2.1,k.2.2.2.2.2.2.2.2.1,k.2.2.2.2.2.2.2.2.2,r,()))
def wsw(k:Y1×Y2×Int×Fv)(v:Int×Du):Tr ((Int×Du)⊕(Int×Du)):=.c _ (NK v.1 v.2.1 v.2.2.1 v.2.2.2.1 v.2.2.2.2) λe=>.t e (.c _ (WG k.1 k.2.1 v.1 v.2.1 v.2.2.1 v.2.2.2.1 v.2.2.2.2) λb=>.c _ (Yh k.1 k.2.1 b v.2.1 v.2.2.1 v.2.2.2.1 v.2.2.2.2) λa=>.l (.inl (a.1,a.2.1,a.2.2.1,a.2.2.2.1,a.2.2.2.2))) (.l (.inr (v.1,v.2.1,v.2.2.1,v.2.2.2.1,v.2.2.2.2)))
def Zy k v:=aC (λv=>(wsw k v).ev) v
abbrev aPq:Keep:=yk [.repB 3 1 902631,.repB 3 2 902632,.repB 3 3 902633,.repB 3 4 902634] [1,2,3] (yj [.box 1 0,.box 2 0,.box 3 0]) [jK,Zbi,(3,.cells (yj [.dat yi,.arr 902631,.arr 902632,.arr 902633,.arr 902634])),(900321,.arr 3 yi),(900323,.arr 3 yi),(900324,.arr 3 yi),(902631,.arr 3 yi),(902632,.arr 4 .bool),(902633,.arr 3 yi),(902634,.arr 3 yi)]
abbrev aCU:Keep:=yk [] [2,3] (yj [.box 2 0,.box 3 0]) [Zbi,(3,.cells (yj [.dat yi,.arr 902631,.arr 902632,.arr 902633,.arr 902634])),(900321,.arr 3 yi),(900323,.arr 3 yi),(900324,.arr 3 yi),(902631,.arr 3 yi),(902632,.arr 4 .bool),(902633,.arr 3 yi),(902634,.arr 3 yi)]
abbrev aKd{a b c d e g h i j l m:Type}(k:a×b×c×d×e×g)(v:h×i×j×l×m):=(((),(),(),()),(k.1,k.2.1,()),(k.2.2.1,(),(),(),(),()),(v.1,(),(),(),(),()),k.2.2.2.1,k.2.2.2.2.1,k.2.2.2.2.2,v.2.1,v.2.2.1,v.2.2.2.1,v.2.2.2.2,())
abbrev aOF{a b c d e g h i j l m:Type}(t:a×(b×c×d)×(e×g)×h×i×j×l×m):=(t.2.1.1,t.2.1.2.1,t.2.2.1.1,t.2.2.2.2.1,t.2.2.2.2.2.1,t.2.2.2.2.2.2.1)
abbrev aLq{a b c d e g h i j l m n o:Type}(t:a×b×c×(d×e)×g×h×i×j×l×m×n×o):=(t.2.2.2.1.1,t.2.2.2.2.2.2.2.1,t.2.2.2.2.2.2.2.2.1,t.2.2.2.2.2.2.2.2.2.1,t.2.2.2.2.2.2.2.2.2.2.1)
def aMk:LD:=yl (wsw) aPq [(2,aCU)] bC aKd aOF aLq (λk r=>yx 2 aCU (((),(),()),(k.2.2.1,(),(),(),(),()),(r.1,(),(),(),(),()),k.2.2.2.1,k.2.2.2.2.1,k.2.2.2.2.2,r.2.1,r.2.2.1,r.2.2.2.1,r.2.2.2.2,()))
def TU(f:Y1)(a:List Y1):Tr (Int×Du):=.g (((0:Int)<=(length a:Int))&&((length a:Int)<=(length a:Int))&&(((8:Nat):Int)*(length a:Int)<=281474976710656))<|.g (((0:Int)<=(length a:Int))&&((length a:Int)<=(length a:Int))&&(((1:Nat):Int)*(length a:Int)<=281474976710656))<|.g (((0:Int)<=(length a:Int))&&((length a:Int)<=(length a:Int))&&(((8:Nat):Int)*(length a:Int)<=281474976710656))<|.c _ (aAl (f,a,0,0,[],[],[],(List.replicate (toNat (length a:Int)) 0),(List.replicate (toNat (length a:Int)) false),(List.replicate (toNat (length a:Int)) 0)) (0,[])) λh=>.c _ (Yh f a 0 (List.replicate (toNat (length a:Int)) 0) (List.replicate (toNat (length a:Int)) false) (List.replicate (toNat (length a:Int)) 0) h) λe=>.c _ (Zy (f,a,0,[],[],[]) (e.1,e.2.1,e.2.2.1,e.2.2.2.1,e.2.2.2.2)) λb=>.l (b.1,b.2.1,b.2.2.1,b.2.2.2.1,b.2.2.2.2)
def GG b a:=(TU b a).ev
abbrev aKR:RetK:=⟨[.ren 902631 1,.ren 902632 4,.ren 902633 5,.ren 902634 6],[.cell 2 277],(yj [.agg (yj [.dat yi,.arr 1,.arr 4,.arr 5,.arr 6])]),[(1,.arr 3 yi),(4,.arr 4 .bool),(5,.arr 3 yi),(6,.arr 3 yi)],[],[]⟩
def aSL:FP prog:=aG cx func342 [aIW,aIc,aOJ] (yj [.agg bR]) [] [] (g7 TU) aKR aFh bU [(0,aRO),(2,aMk)]
def ZK(k:Y1×Int×Int×Du)(v:Int):Tr (Int⊕Int):=.t (v<(length k.1:Int)) (.g (aB v (length k.1))<|.c _ (Xr k.2.2.1 k.2.2.2.1 k.2.2.2.2.1 k.2.2.2.2.2.1 k.2.2.2.2.2.2 k.2.1 (getD k.1 (toNat v) 0)) λa=>.t (!a) (.l (.inl (wrap .i64 (v+1)))) (.l (.inr v))) (.l (.inr v))
def FR k v:=aC (λv=>(ZK k v).ev) v
abbrev WH:Keep:=yk [] [1,3,4,5] (yj [.box 1 0,.dat y1,.dat yi,.dat yi]) [(1,.cells A7)]
abbrev aWp{a b c d e g h i:Type}(k:a×b×c×d×e×g×h)(v:i):=(((),k.1,k.2.1,v,()),(k.2.2.1,k.2.2.2.1,k.2.2.2.2.1,k.2.2.2.2.2.1,k.2.2.2.2.2.2,()),())
abbrev aTu{a b c d e g h i j l m:Type}(t:(a×b×c×d)×(e×g×h×i×j×l)×m):=(t.1.2.1,t.1.2.2.1,t.2.1.1,t.2.1.2.1,t.2.1.2.2.1,t.2.1.2.2.2.1,t.2.1.2.2.2.2.1)
def aML:LD:=yl (ZK) WH [(2,WH)] bC aWp aTu qE (λk r=>yx 2 WH (((),k.1,k.2.1,r,()),(k.2.2.1,k.2.2.2.1,k.2.2.2.2.1,k.2.2.2.2.2.1,k.2.2.2.2.2.2,()),()))
def ZU(k:Int×Du)(v:Y1×Int):Tr ((Y1×Int)⊕Y1):=.t (v.2<(length k.2.2.2.2:Int)) (.g (aB v.2 (length k.2.2.2.2))<|.t ((getD k.2.2.2.2 (toNat v.2) 0)<(0:Int)) (.l (.inl (v.1,(wrap .i64 (v.2+1))))) (.c _ (FR (v.1,v.2,k.1,k.2.1,k.2.2.1,k.2.2.2.1,k.2.2.2.2) 0) λa=>.g ((0<=a)&&(a<=(length v.1:Int)))<|.c _ (Nh (List.drop 0 (List.take (toNat a) v.1))) λb=>.g ((length b+length ([v.2]:Y1))*8<=140737488355328)<|.g ((0<=a)&&(a<=(length v.1:Int)))<|.g ((length (b++([v.2]:Y1))+length (List.drop (toNat a) (List.take (length v.1) v.1)))*8<=140737488355328)<|.l (.inl (((b++([v.2]:Y1))++(List.drop (toNat a) (List.take (length v.1) v.1))),(wrap .i64 (v.2+1)))))) (.l (.inr v.1))
def aEY k v:=aC (λv=>(ZU k v).ev) v
abbrev aTL:Keep:=yk [.fz 6,.fz 2496] [1,3,4] (yj [.box 1 0,.dat y1,.dat yi]) [(1,.cells A7)]
abbrev aGY:Keep:=yh [3] N1
abbrev aIU{a b c d e g h:Type}(k:a×b×c×d×e)(v:g×h):=(((),v.1,v.2,()),(k.1,k.2.1,k.2.2.1,k.2.2.2.1,k.2.2.2.2,()),())
def aSG:LD:=yl (ZU) aTL [(0,aGY)] bC aIU WO C6 (λ_ r=>yx 0 aGY ((r,()),()))
def WJ(g:Int)(e:Y1)(h:List Bool)(a b:Y1):Tr Y1:=.c _ (aEY (g,e,h,a,b) ([],0)) λf=>.l f
def TB e c f a b:=(WJ e c f a b).ev
def aIi:FP prog:=aG cx func343 [aAI,Ka] (yj [.agg A7]) [] [] (Qt WJ) aCt bH (Fq [(9,[(0,[3])])]) [(2,aML),(0,aSG)]
def LF(k:Int×Int×Y1×Y2×Int×Du)(v:Int):Tr (Int⊕(Unit⊕Bool)):=.t (v<(length k.2.2.2.1:Int)) (.g (aB v (length k.2.2.2.2.2.1))<|.g (aB v (length k.2.2.2.1))<|.g (aB k.1 (length (getD k.2.2.2.1 (toNat v) [])))<|.t ((wrap .i64 ((2520:Int)*(getD (getD k.2.2.2.1 (toNat v) []) (toNat k.1) 0)))<(getD k.2.2.2.2.2.1 (toNat v) 0)) (.g (aB v (length k.2.2.2.2.2.1))<|.g (aB v (length k.2.2.2.1))<|.g (aB k.2.1 (length (getD k.2.2.2.1 (toNat v) [])))<|.t ((wrap .i64 ((2520:Int)*(getD (getD k.2.2.2.1 (toNat v) []) (toNat k.2.1) 0)))<(getD k.2.2.2.2.2.1 (toNat v) 0)) (.g (aB k.1 (length k.2.2.2.2.2.2.2.2))<|.t ((0:Int)<=(getD k.2.2.2.2.2.2.2.2 (toNat k.1) 0)) (.g (aB k.2.1 (length k.2.2.2.2.2.2.2.2))<|.l (.inr (.inr ((0:Int)<=(getD k.2.2.2.2.2.2.2.2 (toNat k.2.1) 0))))) (.l (.inr (.inr false)))) (.l (.inl (wrap .i64 (v+1))))) (.l (.inl (wrap .i64 (v+1))))) (.l (.inr (.inl ())))
def aCB k v:=aC (λv=>(LF k v).ev) v
abbrev aUy:Keep:=yk [] [2,3,4,5,9] (yj [.dat yi,.dat yi,.box 4 0,.box 5 0,.dat yi]) [(4,.cells bR),(5,.cells A7)]
abbrev Mk:Keep:=yh [8] (yj [.dat .bool])
abbrev aNf{a b c d e g h i j l:Type}(k:a×b×c×d×e×g×h×i×j)(v:l):=((k.1,k.2.1,(),(),v,()),(k.2.2.1,k.2.2.2.1,()),(k.2.2.2.2.1,k.2.2.2.2.2.1,k.2.2.2.2.2.2.1,k.2.2.2.2.2.2.2.1,k.2.2.2.2.2.2.2.2,()),())
abbrev aQt{a b c d e g h i j l m n o:Type}(t:(a×b×c)×(d×e×g)×(h×i×j×l×m×n)×o):=(t.1.1,t.1.2.1,t.2.1.1,t.2.1.2.1,t.2.2.1.1,t.2.2.1.2.1,t.2.2.1.2.2.1,t.2.2.1.2.2.2.1,t.2.2.1.2.2.2.2.1)
def aTD:LD:=yl (LF) aUy [(0,bC)] Mk aNf aQt Ph (λ_ r=>.s _ _ r (λ_=>yx 0 bC ((),())) (λb=>yz Mk ((b,()),())))
def GD(j:Y1)(g:List Y1)(o:Int)(b:Y1)(f:List Bool)(a m:Y1)(e i:Int):Tr Bool:=.c _ (aCB (e,i,j,g,o,b,f,a,m) 0) λh=>.s _ _ h (λ_=>.l false) (λn=>.l n)
def HJ h f j c e b i a g:=(GD h f j c e b i a g).ev
abbrev aLK{a b c d e g h i j l m n o:Type}{z:Type _}(f:a->b->d->e->g->h->i->l->m->z)(x:((a×b×c)×(d×e×g×h×i×j)×l×m×n)×o):z:=f x.1.1.1 x.1.1.2.1 x.1.2.1.1 x.1.2.1.2.1 x.1.2.1.2.2.1 x.1.2.1.2.2.2.1 x.1.2.1.2.2.2.2.1 x.1.2.2.1 x.1.2.2.2.1
abbrev TE:RetK:=yr [.tmp 8] (yj [.dat .bool])
def aTZ:FP prog:=aG cx func344 [] (yj [.agg bR,.agg A7,.dat yi,.dat yi]) [] [] (aLK GD) TE bH bU [(0,aTD)]
def ZJ(k:Y1×Y1×Int×Y1×Y2×Int×Du)(v:Bool×Int):Tr ((Bool×Int)⊕Bool):=.t (v.2<(length k.2.1:Int)) (.t v.1 (.g (aB k.2.2.1 (length k.1))<|.g (aB v.2 (length k.2.1))<|.c _ (HJ k.2.2.2.1 k.2.2.2.2.1 k.2.2.2.2.2.1 k.2.2.2.2.2.2.1 k.2.2.2.2.2.2.2.1 k.2.2.2.2.2.2.2.2.1 k.2.2.2.2.2.2.2.2.2 (getD k.1 (toNat k.2.2.1) 0) (getD k.2.1 (toNat v.2) 0)) λa=>.l (.inl ((!a),(wrap .i64 (v.2+1))))) (.l (.inl (false,(wrap .i64 (v.2+1)))))) (.l (.inr v.1))
def aHy k v:=aC (λv=>(ZJ k v).ev) v
abbrev aLg:Keep:=yk [] [1,4,5,6,7,8,9] (yj [.box 1 0,.box 4 0,.dat y1,.dat y1,.dat yi,.dat .bool,.dat yi]) [jK,(4,.cells A7)]
abbrev aAH:Keep:=yk [] [1,4,5,6,7,8] (yj [.box 1 0,.box 4 0,.dat y1,.dat y1,.dat yi,.dat .bool]) [jK,(4,.cells A7)]
abbrev aUZ{a b c d e g h i j l m n:Type}(k:a×b×c×d×e×g×h×i×j×l)(v:m×n):=(((),(),k.1,k.2.1,k.2.2.1,v.1,v.2,()),(k.2.2.2.1,k.2.2.2.2.1,()),(k.2.2.2.2.2.1,k.2.2.2.2.2.2.1,k.2.2.2.2.2.2.2.1,k.2.2.2.2.2.2.2.2.1,k.2.2.2.2.2.2.2.2.2,()),())
abbrev aVn{a b c d e g h i j l m n o p q s:Type}(t:(a×b×c×d×e×g)×(h×i×j)×(l×m×n×o×p×q)×s):=(t.1.2.2.1,t.1.2.2.2.1,t.1.2.2.2.2.1,t.2.1.1,t.2.1.2.1,t.2.2.1.1,t.2.2.1.2.1,t.2.2.1.2.2.1,t.2.2.1.2.2.2.1,t.2.2.1.2.2.2.2.1)
abbrev aPo{a b c d e g h i j:Type}(t:(a×b×c×d×e×g×h×i)×j):=(t.1.2.2.2.2.2.1,t.1.2.2.2.2.2.2.1)
def aSA:LD:=yl (ZJ) aLg [(2,aAH)] bC aUZ aVn aPo (λk r=>yx 2 aAH (((),(),k.1,k.2.1,k.2.2.1,r,()),(k.2.2.2.1,k.2.2.2.2.1,()),(k.2.2.2.2.2.1,k.2.2.2.2.2.2.1,k.2.2.2.2.2.2.2.1,k.2.2.2.2.2.2.2.2.1,k.2.2.2.2.2.2.2.2.2,()),()))
def ZF(k:Y1×Y1×Y2×Int×Du)(v:Y1×Int):Tr ((Y1×Int)⊕Y1):=.t (v.2<(length k.1:Int)) (.c _ (aHy (k.1,v.1,v.2,k.2.1,k.2.2.1,k.2.2.2.1,k.2.2.2.2.1,k.2.2.2.2.2.1,k.2.2.2.2.2.2.1,k.2.2.2.2.2.2.2) (true,0)) λa=>.t a (.g (aB v.2 (length k.1))<|.c _ (P4 v.1 (getD k.1 (toNat v.2) 0)) λb=>.l (.inl (b,(wrap .i64 (v.2+1))))) (.l (.inl (v.1,(wrap .i64 (v.2+1)))))) (.l (.inr v.1))
def aFC k v:=aC (λv=>(ZF k v).ev) v
abbrev aRL:Keep:=yk [.fz 25,.fz 3776] [1,4,5,6,7] (yj [.box 1 0,.box 4 0,.dat y1,.dat y1,.dat yi]) [jK,(4,.cells A7)]
abbrev Ma:Keep:=yh [6] N1
abbrev aIK{a b c d e g h i j l:Type}(k:a×b×c×d×e×g×h×i)(v:j×l):=(((),(),k.1,v.1,v.2,()),(k.2.1,k.2.2.1,()),(k.2.2.2.1,k.2.2.2.2.1,k.2.2.2.2.2.1,k.2.2.2.2.2.2.1,k.2.2.2.2.2.2.2,()),())
abbrev aJX{a b c d e g h i j l m n o p:Type}(t:(a×b×c×d)×(e×g×h)×(i×j×l×m×n×o)×p):=(t.1.2.2.1,t.2.1.1,t.2.1.2.1,t.2.2.1.1,t.2.2.1.2.1,t.2.2.1.2.2.1,t.2.2.1.2.2.2.1,t.2.2.1.2.2.2.2.1)
def aPl:LD:=yl (ZF) aRL [(0,Ma)] bC aIK aJX Ed (λ_ r=>yx 0 Ma ((r,()),()))
def Yx(e:Y1)(b:List Y1):Tr (Y1×Bool):=.c _ (Mt e b) λi=>.t (!i) (.l ([],false)) (.t ((length b:Int)==(0:Int)) (.c _ (QF e b) λf=>.l (([f]:Y1),true)) (.c _ (GG e b) λa=>.c _ (TB a.1 a.2.1 a.2.2.1 a.2.2.2.1 a.2.2.2.2) λg=>.c _ (aFC (g,e,b,a.1,a.2.1,a.2.2.1,a.2.2.2.1,a.2.2.2.2) ([],0)) λh=>.l (h,true)))
def Js b a:=(Yx b a).ev
abbrev aJD:RetK:=⟨[.fz 13,.fz 20],[.tmp 2,.tmp 3],(yj [.dat y1,.dat .bool]),[],[],[]⟩
def aOv:FP prog:=aG cx func288 [K1,aWe,aSL,aIi,aTZ,KM] (yj [.agg bR]) [] [] (g7 Yx) aJD uE (Fq [(6,[(1,[23])])]) [(2,aSA),(0,aPl)]
end
end Go.Proofs.YteiekijgoifhoaaGreatDoor
