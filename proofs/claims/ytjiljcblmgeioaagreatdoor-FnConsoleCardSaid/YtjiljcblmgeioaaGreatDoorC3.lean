/- A part of the proof that FnConsole hands back true, at every argument of the row. -/
import Derived.Test.YtjiljcblmgeioaaGreatDoorB58
namespace Go.Proofs.YtjiljcblmgeioaaGreatDoor
set_option linter.all false
noncomputable section
open Go.Proofs.Tryz
open List (length getD set)
open Int (toNat)
open IntKind (wrap)
abbrev yi:Ty:=.int .i64
abbrev y1:Ty:=.slice yi
abbrev y2:Ty:=.slice y1
abbrev y3:Ty:=.slice y2
abbrev Y1:Type:=List Int
abbrev Y2:Type:=List Y1
abbrev Y3:Type:=List Y2
abbrev ys(l:List Nat)(s:Sh):SSh:= {slots:=l,sh:=s,obs:=[]}
abbrev yd(A:Sh)(I:List (Nat×OSh))(L:List LP)(R:Type)(F:A.I×OL I->Option R)(e:R->List AV×List (Nat×Ob)):FD:= {A:=A,ins:=I,lend:=L,R:=R,F:=F,emb:=e}
abbrev Zq:List UInt8:=([0,1,2,2,3,3,3,3,4,4,4,4,4,4,4,4,5,5,5,5,5,5,5,5,5,5,5,5,5,5,5,5,6,6,6,6,6,6,6,6,6,6,6,6,6,6,6,6,6,6,6,6,6,6,6,6,6,6,6,6,6,6,6,6,7,7,7,7,7,7,7,7,7,7,7,7,7,7,7,7,7,7,7,7,7,7,7,7,7,7,7,7,7,7,7,7,7,7,7,7,7,7,7,7,7,7,7,7,7,7,7,7,7,7,7,7,7,7,7,7,7,7,7,7,7,7,7,7,8,8,8,8,8,8,8,8,8,8,8,8,8,8,8,8,8,8,8,8,8,8,8,8,8,8,8,8,8,8,8,8,8,8,8,8,8,8,8,8,8,8,8,8,8,8,8,8,8,8,8,8,8,8,8,8,8,8,8,8,8,8,8,8,8,8,8,8,8,8,8,8,8,8,8,8,8,8,8,8,8,8,8,8,8,8,8,8,8,8,8,8,8,8,8,8,8,8,8,8,8,8,8,8,8,8,8,8,8,8,8,8,8,8,8,8,8,8,8,8,8,8,8,8,8,8,8,8]:List UInt8)
abbrev Zv:Sh:=yj [.dat y1,.dat y2]
abbrev Zz:Nat×OSh:=(64,.cells (yj [.dat (.slice (.int .u8)),.dat yi,.dat (.int .u64)]))
abbrev bI:Nat:=IntKind.bits .u64
abbrev oL:Sh:=yj [.dat y1,.dat y2,.dat y1,.dat yi]
abbrev V2:Sh:=yj [.dat y1,.dat y2,.dat y1,.dat yi,.dat .str,.dat .str,.dat yi]
abbrev K7:Sh:=yj [.dat yi,.dat y1,.dat (.slice .bool),.dat y1,.dat y1]
abbrev gH:Type:=(List Nat)×Y2
abbrev sY:Type:=HL [y1,y1]->Option Int
abbrev fK:Sh:=yj [.dat yi]
abbrev jI:Type:=Int×Int
abbrev gR:Type:=Int×Y1
abbrev jY:Nat×OSh:=(1,.cells Zv)
abbrev Rg:Sh:=yj [.dat yi,.arr 64,.arr 65,.arr 66,.arr 67]
abbrev Kt:Type:=Y1×(List Bool)×Y1×Y1
abbrev Wo:Type:=Int×(List UInt8)×(List UInt8)×Int
abbrev BV:Nat×OSh:=(4,.cells (yj [.arr 25,.arr 1920,.arr 2112]))
abbrev IZ:Nat×OSh:=(4,.cells (yj [.nilsl,.nilsl,.nilsl,.dat yi]))
abbrev Gc:Type:=(List UInt8)×(List UInt8)
abbrev HM:Nat×OSh:=(2,.cells (yj [.nilsl,.nilsl,.nilsl]))
abbrev Dq:Sh:=yj [.arr 0,.dat .bool]
abbrev E3:Type:=Int×Y1×Y2
abbrev tP:Nat×OSh:=(0,.arr 3 yi)
abbrev F3:Nat×OSh:=(64,.perm 24 3 yi)
abbrev UK:Sh:=yj [.dat yi,.dat yi,.dat yi,.dat yi,.dat y1]
abbrev xS:Nat×OSh:=(64,.arr 3 yi)
abbrev IV:Sh:=yj [.box 64 0,.box 65 0,.box 66 0]
abbrev TZ:Type:=Y1×Y2×Y1×Int×(List UInt8)
abbrev Ue:Sh:=yj [.dat .str,.dat .str]
abbrev Z3:Type:=Y1×Y2×Int
abbrev Lp:Type:=(List UInt8)×Bool
abbrev Ycp:Type:=Y1×Y2×Y1×Int×(List UInt8)×(List UInt8)×Int×(List (List UInt8))
abbrev Zcq:Nat×OSh:=(4,.cells (yj [.dat yi,.nilsl,.nilsl,.nilsl,.nilsl]))
abbrev zO:Nat×OSh:=(2,.cells Zv)
abbrev C7:Sh:=yj [.arr 0]
abbrev Zct:Nat×OSh:=(2,.cells (yj [.nilsl,.nilsl,.nilsl,.dat yi,.dat .str,.dat .str,.dat yi]))
abbrev Zcu:Nat×OSh:=(2,.cells (yj [.dat yi,.arr 900321,.nilsl,.arr 900323,.arr 900324]))
abbrev D9:Type:=Bool×Y1
abbrev Fz:Sh:=yj [.dat .str]
abbrev Oc:Type:=Y1×Y2×Y1
abbrev Ll:Type:=Y1×Y1×Y1
abbrev Zcz:Sh:=yj [.dat .str,.dat .str,.dat yi]
abbrev b9:Type:=Y1×jI
abbrev Vv:Type:=Y1×Int×gR
abbrev SY:Type:=HL [yi,yi]->Option Int
abbrev Nt:Nat×OSh:=(2112,.arr 3 yi)
abbrev Yde:Type:=Int×Int×Bool×Bool×gH
abbrev Di:Sh:=yj [.dat y1]
abbrev E4:Type:=Int×Y2
abbrev Pz:Sh:=yj [.dat .bool]
abbrev Ydi:Type:=Y1×Y2×Y1×Int×(List UInt8)×(List UInt8)×Int×(List UInt8)
abbrev Zdj:Sh:=yj [.dat (.slice (.int .u8))]
abbrev Zdk:Nat×OSh:=(4,.cells (yj [.arr 901340,.nilsl,.arr 901342,.dat yi]))
abbrev Zdl:Nat×OSh:=(6,.cells (yj [.arr 13888,.arr 1860,.arr 1861,.dat yi]))
def aSG:List (Nat×TD):=[(3,.sc yi),(4,.sc .bool),(5,.sc (.int .u8)),(9,.sc .str),(22,.sl 5 (.int .u8) 1),(24,.sl 3 yi 8),(25,.sl 24 y1 24),(27,.st (.pair y1 y2) [(24,y1),(25,y2)]),(29,.st (.pair (.pair y1 y2) (.pair y1 yi)) [(27,(.pair y1 y2)),(24,y1),(3,yi)]),(32,.st (.pair .str (.pair .str yi)) [(9,.str),(9,.str),(3,yi)]),(34,.st (.pair (.pair (.pair y1 y2) (.pair y1 yi)) (.pair .str (.pair .str yi))) [(29,(.pair (.pair y1 y2) (.pair y1 yi))),(32,(.pair .str (.pair .str yi)))]),(44,.sl 48 (.pair .str .str) 32),(48,.st (.pair .str .str) [(9,.str),(9,.str)]),(50,.sl 9 .str 16),(63,.sc (.int .u64)),(65,.st (.pair (.slice (.int .u8)) (.pair yi (.int .u64))) [(22,(.slice (.int .u8))),(3,yi),(63,(.int .u64))]),(109,.st (.pair yi (.pair yi (.pair yi (.pair yi y1)))) [(3,yi),(3,yi),(3,yi),(3,yi),(24,y1)]),(156,.sc (.int .u64)),(182,.st (.pair y1 (.pair y1 y1)) [(24,y1),(24,y1),(24,y1)]),(221,.sl 4 .bool 1),(223,.st (.pair yi (.pair y1 (.pair (.slice .bool) (.pair y1 y1)))) [(3,yi),(24,y1),(221,(.slice .bool)),(24,y1),(24,y1)]),(284,.sc (.int .u64))]
def tt:Nat->TD:=λi=>match aM aSG i with |some d=>d |none=>.no
theorem mixed:prog.follows .mixedOrders=true:=by kernel_rfl
theorem Dr:aS prog tt:=aBy (by kernel_rfl)
theorem cx:Cx prog tt:=⟨mixed,Dr⟩
def KI(a:Y1):Tr Bool:=.l ((65536:Int)<(length a:Int))
def LC a:=(KI a).ev
abbrev oM{a b c:Type}{z:Type _}(f:a->z)(x:(a×b)×c):z:=f x.1.1
abbrev Dt:RetK:=yr [.tmp 2] Pz
abbrev bN{a:Type}(r:a):=((r,()),())
def aTr:FP prog:=aH cx func5 [] Zdj [] [] (oM KI) Dt bN
def aAB(b:Y1)(a c:Int):Tr (Int×b9):=.t (a<(length b:Int)) (.g (aC a (length b))<|.t ((wrap .i64 (a+1))<=(length b:Int)) (.l ((wrap .i64 (getD b (toNat a) 0)),b,(wrap .i64 (a+1)),(wrap .u64 ((wrap .u64 ((wrap .u64 (c*(6364136223846793005:Int)))+(wrap .u64 (wrap .i64 (getD b (toNat a) 0)))))+462197)))) (.g ((0:Int)<=(40:Int))<|.l ((wrap .i64 (wrap .u64 (BitVec.toNat ((BitVec.ofInt bI (Int.fdiv (wrap .u64 ((wrap .u64 ((wrap .u64 (c*(6364136223846793005:Int)))+(wrap .u64 (wrap .i64 (getD b (toNat a) 0)))))+462197)) (2^(min (toNat 40) bI))))&&& (BitVec.ofInt bI 255))))),b,(wrap .i64 (a+1)),(wrap .u64 ((wrap .u64 ((wrap .u64 (c*(6364136223846793005:Int)))+(wrap .u64 (wrap .i64 (getD b (toNat a) 0)))))+462197))))) (.t ((wrap .i64 (a+1))<=(length b:Int)) (.l (0,b,(wrap .i64 (a+1)),(wrap .u64 ((wrap .u64 ((wrap .u64 (c*(6364136223846793005:Int)))+(wrap .u64 0)))+462197)))) (.g ((0:Int)<=(40:Int))<|.l ((wrap .i64 (wrap .u64 (BitVec.toNat ((BitVec.ofInt bI (Int.fdiv (wrap .u64 ((wrap .u64 ((wrap .u64 (c*(6364136223846793005:Int)))+(wrap .u64 0)))+462197)) (2^(min (toNat 40) bI))))&&& (BitVec.ofInt bI 255))))),b,(wrap .i64 (a+1)),(wrap .u64 ((wrap .u64 ((wrap .u64 (c*(6364136223846793005:Int)))+(wrap .u64 0)))+462197)))))
def KQ c b a:=(aAB c b a).ev
abbrev yq4{a b c d e g:Type}{z:Type _}(f:b->c->d->z)(x:a×(b×c×d×e)×g):z:=f x.2.1.1 x.2.1.2.1 x.2.1.2.2.1
abbrev yq5{a b c d:Type}(r:a×b×c×d):=((r.1,()),(r.2.1,r.2.2.1,r.2.2.2,()),())
def aQA:FP prog:=aH cx func85 [] (yj [.box 64 0]) [Zz] [.arg 0] (yq4 aAB) ⟨[],[.tmp 2],fK,[Zz],[(0,0,64)],[]⟩ yq5
def aEK(b:Int)(i:Y1)(f h:Int):Tr (Int×b9):=.t (b<=1) (.l (0,i,f,h)) (.c _ (KQ i f h) λa=>.t (200<b) (.c _ (KQ a.2.1 a.2.2.1 a.2.2.2) λe=>.g (!decide (b=0))<|.l ((Int.tmod (wrap .i64 ((wrap .i64 (a.1*(256:Int)))+e.1)) b),e.2.1,e.2.2.1,e.2.2.2)) (.g (!decide (b=0))<|.l ((Int.tmod a.1 b),a.2.1,a.2.2.1,a.2.2.2)))
def eG c e b a:=(aEK c e b a).ev
abbrev UO{a b c d e g h i:Type}{z:Type _}(f:b->d->e->g->z)(x:(a×b×c)×(d×e×g×h)×i):z:=f x.1.2.1 x.2.1.1 x.2.1.2.1 x.2.1.2.2.1
abbrev yq6:RetK:=⟨[],[.tmp 4],fK,[Zz],[(0,0,64)],[]⟩
def uE:FP prog:=aH cx func46 [aQA] (yj [.box 64 0,.dat yi]) [Zz] [.arg 0] (UO aEK) yq6 yq5
def aAF(b h:Y1)(e f:Int):Tr (Int×b9):=.c _ (eG (length b:Int) h e f) λa=>.g (aC a.1 (length b))<|.l ((getD b (toNat a.1) 0),a.2.1,a.2.2.1,a.2.2.2)
def mH c e b a:=(aAF c e b a).ev
def Gv:FP prog:=aH cx func45 [uE] (yj [.box 64 0,.dat y1]) [Zz] [.arg 0] (UO aAF) yq6 yq5
def Th(k:Int×Int×Int×gR)(v:Int×Vv):Tr ((Int×Vv)⊕Vv):=.t (v.1<k.2.1) (.t (v.1<k.1) (.c _ (eG k.2.2.2.1 v.2.1 v.2.2.1 v.2.2.2.1) λa=>.g ((length v.2.2.2.2+length ([a.1]:Y1))*8<=140737488355328)<|.l (.inl ((wrap .i64 (v.1+1)),a.2.1,a.2.2.1,a.2.2.2,(v.2.2.2.2++([a.1]:Y1))))) (.l (.inr (v.2.1,v.2.2.1,v.2.2.2.1,v.2.2.2.2)))) (.l (.inr (v.2.1,v.2.2.1,v.2.2.2.1,v.2.2.2.2)))
def aJw k v:=aB (λv=>(Th k v).ev) v
abbrev yq9:Keep:=yk [] [0,1,4,6,7,8] (yj [.box 64 0,.dat yi,.box 4 0,.dat yi,.box 7 0,.dat yi]) [Zz,(4,.cells (yj [.arr 900340,.nilsl])),(7,.cells (yj [.arr 900370,.nilsl])),(900340,.arr 3 yi),(900370,.arr 3 yi)]
abbrev aE:Keep:=yh [] .nil
def aNi:LD:=yl (Th) (yk [.ownB 4 0 900340 3 yi,.ownB 7 0 900370 3 yi] [0,1,4,5,6,7,8,9] (yj [.box 64 0,.dat yi,.box 4 0,.dat yi,.dat yi,.box 7 0,.dat yi,.dat yi]) [Zz,(4,.cells (yj [.arr 900340,.nilsl])),(7,.cells (yj [.arr 900370,.nilsl])),(900340,.arr 3 yi),(900370,.arr 3 yi)]) [(0,yq9)] aE (λk v=>(((),k.1,(),k.2.1,k.2.2.1,(),k.2.2.2.1,v.1,()),(v.2.1,v.2.2.1,v.2.2.2.1,()),((),(),()),((),(),()),k.2.2.2.2,v.2.2.2.2,())) (λt=>(t.1.2.1,t.1.2.2.2.1,t.1.2.2.2.2.1,t.1.2.2.2.2.2.2.1,t.2.2.2.2.1)) (λt=>(t.1.2.2.2.2.2.2.2.1,t.2.1.1,t.2.1.2.1,t.2.1.2.2.1,t.2.2.2.2.2.1)) (λk r=>yx 0 yq9 (((),k.1,(),k.2.2.1,(),k.2.2.2.1,()),(r.1,r.2.1,r.2.2.1,()),((),(),()),((),(),()),k.2.2.2.2,r.2.2.2,()))
def IP(k:Int×Int×Int×Int×Y1×Y2×Y1×Y2)(v:Int×Vv):Tr ((Int×Vv)⊕Vv):=.t (v.1<(length k.2.2.2.2.2.2.1:Int)) (.c _ (eG k.2.2.1 v.2.1 v.2.2.1 v.2.2.2.1) λa=>.g ((length v.2.2.2.2+length ([a.1]:Y1))*8<=140737488355328)<|.l (.inl ((wrap .i64 (v.1+1)),a.2.1,a.2.2.1,a.2.2.2,(v.2.2.2.2++([a.1]:Y1))))) (.l (.inr (v.2.1,v.2.2.1,v.2.2.2.1,v.2.2.2.2)))
def aHf k v:=aB (λv=>(IP k v).ev) v
abbrev aJL:Keep:=yk [] [0,1,4,6,7,8,10,11] (yj [.box 64 0,.dat yi,.box 4 0,.dat yi,.box 7 0,.dat yi,.dat yi,.arr 51]) [Zz,(4,.cells (yj [.arr 900340,.arr 902341])),(7,.cells (yj [.arr 900370,.arr 902371])),(51,.arr 3 yi),(900340,.arr 3 yi),(902341,.rows 24 3 yi),(900370,.arr 3 yi),(902371,.rows 24 3 yi)]
def aMA:LD:=yl (IP) (yk [] [0,1,4,6,7,8,10,11,12] (yj [.box 64 0,.dat yi,.box 4 0,.dat yi,.box 7 0,.dat yi,.dat yi,.arr 51,.dat yi]) [Zz,(4,.cells (yj [.arr 900340,.arr 902341])),(7,.cells (yj [.arr 900370,.arr 902371])),(51,.arr 3 yi),(900340,.arr 3 yi),(902341,.rows 24 3 yi),(900370,.arr 3 yi),(902371,.rows 24 3 yi)]) [(4,aJL)] aE (λk v=>(((),k.1,(),k.2.1,(),k.2.2.1,k.2.2.2.1,(),v.1,()),(v.2.1,v.2.2.1,v.2.2.2.1,()),((),(),()),((),(),()),v.2.2.2.2,k.2.2.2.2.1,k.2.2.2.2.2.1,k.2.2.2.2.2.2.1,k.2.2.2.2.2.2.2,())) (λt=>(t.1.2.1,t.1.2.2.2.1,t.1.2.2.2.2.2.1,t.1.2.2.2.2.2.2.1,t.2.2.2.2.2.1,t.2.2.2.2.2.2.1,t.2.2.2.2.2.2.2.1,t.2.2.2.2.2.2.2.2.1)) (λt=>(t.1.2.2.2.2.2.2.2.2.1,t.2.1.1,t.2.1.2.1,t.2.1.2.2.1,t.2.2.2.2.1)) (λk r=>yx 4 aJL (((),k.1,(),k.2.1,(),k.2.2.1,k.2.2.2.1,(),()),(r.1,r.2.1,r.2.2.1,()),((),(),()),((),(),()),r.2.2.2,k.2.2.2.2.1,k.2.2.2.2.2.1,k.2.2.2.2.2.2.1,k.2.2.2.2.2.2.2,()))
def Tu(k:Int×Int×Int×Oc)(v:Int×Y1×Int×E4):Tr ((Int×Y1×Int×E4)⊕(Y1×Int×E4)):=.t (v.1<k.2.1) (.t (v.1<k.1) (.c _ (aHf (k.1,k.2.1,k.2.2.1,v.1,k.2.2.2.1,k.2.2.2.2.1,k.2.2.2.2.2,v.2.2.2.2) (0,v.2.1,v.2.2.1,v.2.2.2.1,[])) λa=>.g ((length v.2.2.2.2+1)*24<=140737488355328)<|.l (.inl ((wrap .i64 (v.1+1)),a.1,a.2.1,a.2.2.1,(set (v.2.2.2.2++ [[]]) (length v.2.2.2.2) a.2.2.2)))) (.l (.inr (v.2.1,v.2.2.1,v.2.2.2.1,v.2.2.2.2)))) (.l (.inr (v.2.1,v.2.2.1,v.2.2.2.1,v.2.2.2.2)))
def aHO k v:=aB (λv=>(Tu k v).ev) v
abbrev aGN:Keep:=yk [] [0,4,7] (yj [.box 64 0,.box 4 0,.box 7 0]) [Zz,(4,.cells (yj [.arr 900340,.arr 902341])),(7,.cells (yj [.arr 900370,.arr 902371])),(900340,.arr 3 yi),(902341,.rows 24 3 yi),(900370,.arr 3 yi),(902371,.rows 24 3 yi)]
def aOX:LD:=yl (Tu) (yk [.ownRB 4 1 902341 24 3 yi,.ownRB 7 1 902371 24 3 yi] [0,1,4,6,7,8,10] (yj [.box 64 0,.dat yi,.box 4 0,.dat yi,.box 7 0,.dat yi,.dat yi]) [Zz,(4,.cells (yj [.arr 900340,.arr 902341])),(7,.cells (yj [.arr 900370,.arr 902371])),(900340,.arr 3 yi),(902341,.rows 24 3 yi),(900370,.arr 3 yi),(902371,.rows 24 3 yi)]) [(2,aGN)] aE (λk v=>(((),k.1,(),k.2.1,(),k.2.2.1,v.1,()),(v.2.1,v.2.2.1,v.2.2.2.1,()),((),(),()),((),(),()),k.2.2.2.1,k.2.2.2.2.1,k.2.2.2.2.2,v.2.2.2.2,())) (λt=>(t.1.2.1,t.1.2.2.2.1,t.1.2.2.2.2.2.1,t.2.2.2.2.1,t.2.2.2.2.2.1,t.2.2.2.2.2.2.1)) (λt=>(t.1.2.2.2.2.2.2.1,t.2.1.1,t.2.1.2.1,t.2.1.2.2.1,t.2.2.2.2.2.2.2.1)) (λk r=>yx 2 aGN (((),(),(),()),(r.1,r.2.1,r.2.2.1,()),((),(),()),((),(),()),k.2.2.2.1,k.2.2.2.2.1,k.2.2.2.2.2,r.2.2.2,()))
def aEN(h:Int)(m:Y1)(i j:Int):Tr (Y1×Y2×b9):=.c _ (mH ([3,4,2,5,1,6,7]:Y1) m i j) λg=>.c _ (mH ([4,3,5,2,6,7,1,0]:Y1) g.2.1 g.2.2.1 g.2.2.2) λa=>.c _ (mH ([10,10,20,4]:Y1) a.2.1 a.2.2.1 a.2.2.2) λe=>.c _ (aJw (h,g.1,a.1,e.1,[]) (0,e.2.1,e.2.2.1,e.2.2.2,[])) λb=>.c _ (aHO (h,a.1,e.1,[],[],b.2.2.2) (0,b.1,b.2.1,b.2.2.1,[])) λf=>.l (b.2.2.2,f.2.2.2,f.1,f.2.1,f.2.2.1)
def Xs c e b a:=(aEN c e b a).ev
abbrev ME{a b c d e:Type}(r:a×b×c×d×e):=((((),(),()),()),r.1,r.2.1,(r.2.2.1,r.2.2.2.1,r.2.2.2.2,()),())
def aIY:FP prog:=aH cx func136 [Gv,uE] (yj [.box 64 0,.dat yi]) [Zz] [.arg 0] (UO aEN) ⟨[.ren 900370 1,.ren 902371 2],[.cell 4 27],(yj [.agg (yj [.arr 1,.arr 2])]),[(1,.arr 3 yi),(2,.rows 24 3 yi),Zz],[(0,0,64)],[]⟩ ME (E6 [(1,[(2,[14]),(5,[17])]),(2,[(3,[21])])]) [(0,aNi),(4,aMA),(2,aOX)]
def NO(a:Y1):Tr Y1:=.g ((length ([]:Y1)+length a)*8<=140737488355328)<|.l (([]:Y1)++a)
def pO a:=(NO a).ev
abbrev kQ{a:Type}(r:a):=(((),()),r,())
def Ar:FP prog:=aH cx func62 [] Di [] [] (oM NO) ⟨[.ren 3 0],[.tmp 2],C7,[tP],[],[]⟩ kQ
def Wv(k:Y1×Int×E3)(v:List Y1):Tr (Y2⊕Y2):=.t ((length v:Int)<(8:Int)) (.c _ (pO k.2.2.2.1) λa=>.g ((length v+1)*24<=140737488355328)<|.l (.inl (set (v++ [[]]) (length v) a))) (.l (.inr v))
def aJQ k v:=aB (λv=>(Wv k v).ev) v
abbrev aLG:Keep:=yk [] [0,3,4] (yj [.box 64 0,.box 3 0,.box 4 0]) [Zz,(3,.cells (yj [.arr 65,.arr 66])),(4,.cells (yj [.nilsl,.arr 901341])),(65,.arr 3 yi),(66,.rows 24 3 yi),(901341,.rows 24 3 yi)]
def aPh:LD:=yl (Wv) (yk [.ownRB 4 1 901341 24 3 yi] [0,3,4] (yj [.box 64 0,.box 3 0,.box 4 0]) [Zz,(3,.cells (yj [.arr 65,.arr 66])),(4,.cells (yj [.nilsl,.arr 901341])),(65,.arr 3 yi),(66,.rows 24 3 yi),(901341,.rows 24 3 yi)]) [(1,aLG)] aE (λk v=>(((),(),(),()),(k.1,k.2.1,k.2.2.1,()),((),(),()),((),(),()),k.2.2.2.1,v,k.2.2.2.2,())) (λt=>(t.2.1.1,t.2.1.2.1,t.2.1.2.2.1,t.2.2.2.2.1,t.2.2.2.2.2.2.1)) (λt=>t.2.2.2.2.2.1) (λk r=>yx 1 aLG (((),(),(),()),(k.1,k.2.1,k.2.2.1,()),((),(),()),((),(),()),k.2.2.2.1,r,k.2.2.2.2,()))
def aFX(n:Y1)(j m:Int)(b:Y1)(e:List Y1):Tr (Y1×Y2×b9):=.t ((length b:Int)==(0:Int)) (.l (b,e,n,j,m)) (.c _ (eG (length b:Int) n j m) λf=>.c _ (eG 60 f.2.1 f.2.2.1 f.2.2.2) λa=>.t (a.1==0) (.c _ (mH ([(-1),99,100,4611686018427387904]:Y1) a.2.1 a.2.2.1 a.2.2.2) λh=>.g (aC f.1 (length b))<|.g ((toNat f.1)<length b)<|.l ((set b (toNat f.1) h.1),e,h.2.1,h.2.2.1,h.2.2.2)) (.t (a.1==1) (.t ((0:Int)<(length e:Int)) (.g (aC 0 (length e))<|.g ((toNat 0)<length e)<|.c _ (mH ([(-1),99,100,(-9223372036854775808)]:Y1) a.2.1 a.2.2.1 a.2.2.2) λi=>.g (aC f.1 (length (getD e (toNat 0) [])))<|.g ((toNat f.1)<length (getD e (toNat 0) []))<|.l (b,(set e (toNat 0) (set (getD e (toNat 0) []) (toNat f.1) i.1)),i.2.1,i.2.2.1,i.2.2.2)) (.l (b,e,a.2.1,a.2.2.1,a.2.2.2))) (.t (a.1==2) (.g ((length b+length ([1]:Y1))*8<=140737488355328)<|.l ((b++([1]:Y1)),e,a.2.1,a.2.2.1,a.2.2.2)) (.t (a.1==3) (.c _ (aJQ (a.2.1,a.2.2.1,a.2.2.2,b,[]) e) λo=>.l (b,o,a.2.1,a.2.2.1,a.2.2.2)) (.t (a.1==4) (.l ([],[],a.2.1,a.2.2.1,a.2.2.2)) (.l (b,e,a.2.1,a.2.2.1,a.2.2.2)))))))
def aFt f b e a c:=(aFX f b e a c).ev
def aRn:FP prog:=aH cx func135 [uE,Gv,Ar] (yj [.box 64 0,.agg (yj [.arr 65,.arr 66])]) [Zz,(65,.arr 3 yi),(66,.rows 24 3 yi)] [.arg 0,.comp 1 0,.comp 1 1] ((λf x=>f x.2.1.1 x.2.1.2.1 x.2.1.2.2.1 x.2.2.1 x.2.2.2.1) aFX) ⟨[.ownB 4 0 1 3 yi,.ownRB 4 1 2 24 3 yi,.ren 65 1,.ren 66 2],[.cell 4 27],(yj [.agg (yj [.arr 1,.arr 2])]),[(1,.arr 3 yi),(2,.rows 24 3 yi),Zz],[(0,0,64)],[65,66]⟩ ME (E6 [(6,[(0,[60000004])]),(9,[(0,[60000006])])]) [(1,aPh)]
def aAU(b a:Int):Tr Int:=.t (a<b) (.l b) (.l a)
def Kh b a:=(aAU b a).ev
abbrev dG{a b c d:Type}{z:Type _}(f:a->b->z)(x:(a×b×c)×d):z:=f x.1.1 x.1.2.1
abbrev lJ:RetK:=yr [.tmp 4] fK
def MZ:FP prog:=aH cx func142 [] (yj [.dat yi,.dat yi]) [] [] (dG aAU) lJ bN
def Yv(k:Y1×Y2)(v:Int×Vv):Tr ((Int×Vv)⊕Vv):=.t (v.1<(length k.1:Int)) (.c _ (eG 20 v.2.1 v.2.2.1 v.2.2.2.1) λa=>.g ((length v.2.2.2.2+length ([a.1]:Y1))*8<=140737488355328)<|.l (.inl ((wrap .i64 (v.1+1)),a.2.1,a.2.2.1,a.2.2.2,(v.2.2.2.2++([a.1]:Y1))))) (.l (.inr (v.2.1,v.2.2.1,v.2.2.2.1,v.2.2.2.2)))
def aKP k v:=aB (λv=>(Yv k v).ev) v
abbrev aJW:Keep:=yk [] [0,4,5,6] (yj [.box 64 0,.box 4 0,.box 5 0,.arr 14]) [Zz,(4,.cells (yj [.nilsl,.nilsl])),(5,.cells (yj [.arr 833,.arr 834])),(14,.arr 3 yi),(833,.arr 3 yi),(834,.rows 24 3 yi)]
def aPy:LD:=yl (Yv) (yk [] [0,4,5,6,7] (yj [.box 64 0,.box 4 0,.box 5 0,.arr 14,.dat yi]) [Zz,(4,.cells (yj [.nilsl,.nilsl])),(5,.cells (yj [.arr 833,.arr 834])),(14,.arr 3 yi),(833,.arr 3 yi),(834,.rows 24 3 yi)]) [(0,aJW)] aE (λk v=>(((),(),(),(),v.1,()),(v.2.1,v.2.2.1,v.2.2.2.1,()),((),(),()),((),(),()),v.2.2.2.2,k.1,k.2,())) (λt=>(t.2.2.2.2.2.1,t.2.2.2.2.2.2.1)) (λt=>(t.1.2.2.2.2.1,t.2.1.1,t.2.1.2.1,t.2.1.2.2.1,t.2.2.2.2.1)) (λk r=>yx 0 aJW (((),(),(),(),()),(r.1,r.2.1,r.2.2.1,()),((),(),()),((),(),()),r.2.2.2,k.1,k.2,()))
def CO(k:Int×Int×Y1×Int×Int×Y1×Y1)(v:Int×Y2):Tr (E4⊕Y2):=.t (v.1<(length k.2.2.2.2.2.2:Int)) (.g (aC k.1 (length v.2))<|.g ((toNat k.1)<length v.2)<|.g (aC v.1 (length k.2.2.2.2.2.1))<|.g ((toNat v.1)<length k.2.2.2.2.2.1)<|.g (aC v.1 (length k.2.2.2.2.2.1))<|.g ((toNat v.1)<length k.2.2.2.2.2.1)<|.c _ (Kh (wrap .i64 (k.2.1-(getD k.2.2.2.2.2.1 (toNat v.1) 0))) (wrap .i64 ((getD k.2.2.2.2.2.1 (toNat v.1) 0) -k.2.1))) λa=>.g (aC v.1 (length (getD v.2 (toNat k.1) [])))<|.g ((toNat v.1)<length (getD v.2 (toNat k.1) []))<|.l (.inl ((wrap .i64 (v.1+1)),(set v.2 (toNat k.1) (set (getD v.2 (toNat k.1) []) (toNat v.1) a))))) (.l (.inr v.2))
def aKX k v:=aB (λv=>(CO k v).ev) v
abbrev aDE:Keep:=yk [] [0,4,5,6,8] (yj [.box 64 0,.box 4 0,.box 5 0,.arr 14,.dat yi]) [Zz,(4,.cells (yj [.nilsl,.nilsl])),(5,.cells (yj [.arr 833,.arr 834])),(14,.arr 3 yi),(833,.arr 3 yi),(834,.rows 24 3 yi)]
def aOf:LD:=yl (CO) (yk [] [0,4,5,6,8,9,10] (yj [.box 64 0,.box 4 0,.box 5 0,.arr 14,.dat yi,.dat yi,.dat yi]) [Zz,(4,.cells (yj [.nilsl,.nilsl])),(5,.cells (yj [.arr 833,.arr 834])),(14,.arr 3 yi),(833,.arr 3 yi),(834,.rows 24 3 yi)]) [(4,aDE)] aE (λk v=>(((),(),(),(),k.1,k.2.1,v.1,()),(k.2.2.1,k.2.2.2.1,k.2.2.2.2.1,()),((),(),()),((),(),()),k.2.2.2.2.2.1,k.2.2.2.2.2.2,v.2,())) (λt=>(t.1.2.2.2.2.1,t.1.2.2.2.2.2.1,t.2.1.1,t.2.1.2.1,t.2.1.2.2.1,t.2.2.2.2.1,t.2.2.2.2.2.1)) (λt=>(t.1.2.2.2.2.2.2.1,t.2.2.2.2.2.2.1)) (λk r=>yx 4 aDE (((),(),(),(),k.1,()),(k.2.2.1,k.2.2.2.1,k.2.2.2.2.1,()),((),(),()),((),(),()),k.2.2.2.2.2.1,k.2.2.2.2.2.2,r,()))
def Wj(k:Y1×Y1)(v:Int×Y1×Int×E4):Tr ((Int×Y1×Int×E4)⊕(Y1×Int×E4)):=.t (v.1<(length v.2.2.2.2:Int)) (.c _ (eG 20 v.2.1 v.2.2.1 v.2.2.2.1) λa=>.c _ (aKX (v.1,a.1,a.2.1,a.2.2.1,a.2.2.2,k.1,k.2) (0,v.2.2.2.2)) λb=>.l (.inl ((wrap .i64 (v.1+1)),a.2.1,a.2.2.1,a.2.2.2,b))) (.l (.inr (v.2.1,v.2.2.1,v.2.2.2.1,v.2.2.2.2)))
def aGG k v:=aB (λv=>(Wj k v).ev) v
abbrev aLo:Keep:=yk [] [0,4,5] (yj [.box 64 0,.box 4 0,.box 5 0]) [Zz,(4,.cells (yj [.nilsl,.nilsl])),(5,.cells (yj [.arr 833,.arr 834])),(833,.arr 3 yi),(834,.rows 24 3 yi)]
def aPG:LD:=yl (Wj) aDE [(2,aLo)] aE (λk v=>(((),(),(),(),v.1,()),(v.2.1,v.2.2.1,v.2.2.2.1,()),((),(),()),((),(),()),k.1,k.2,v.2.2.2.2,())) (λt=>(t.2.2.2.2.1,t.2.2.2.2.2.1)) (λt=>(t.1.2.2.2.2.1,t.2.1.1,t.2.1.2.1,t.2.1.2.2.1,t.2.2.2.2.2.2.1)) (λk r=>yx 2 aLo (((),(),(),()),(r.1,r.2.1,r.2.2.1,()),((),(),()),((),(),()),k.2,r.2.2.2,()))
def aFP(g:Int)(i:Y1)(f h:Int):Tr (Y1×Y2×b9):=.c _ (Xs g i f h) λa=>.c _ (aKP (a.1,a.2.1) (0,a.2.2.1,a.2.2.2.1,a.2.2.2.2,[])) λe=>.c _ (aGG (e.2.2.2,a.1) (0,e.1,e.2.1,e.2.2.1,a.2.1)) λb=>.l (a.1,b.2.2.2,b.1,b.2.1,b.2.2.1)
def aBF c e b a:=(aFP c e b a).ev
def aSU:FP prog:=aH cx func137 [aIY,uE,MZ] (yj [.box 64 0,.dat yi]) [Zz] [.arg 0] (UO aFP) ⟨[.ren 833 1,.ren 834 2],[.cell 4 27],(yj [.agg (yj [.arr 1,.arr 2])]),[(1,.arr 3 yi),(2,.rows 24 3 yi),Zz],[(0,0,64)],[]⟩ ME bU [(0,aPy),(4,aOf),(2,aPG)]
def EA(k:Y1×Y2×Y2×Y1)(v:Int×Y2):Tr (E4⊕Y2):=.t (v.1<(length k.2.1:Int)) (.g (aC v.1 (length k.2.1))<|.c _ (pO (getD k.2.1 (toNat v.1) [])) λa=>.g ((length v.2+1)*24<=140737488355328)<|.l (.inl ((wrap .i64 (v.1+1)),(set (v.2++ [[]]) (length v.2) a)))) (.l (.inr v.2))
def aKF k v:=aB (λv=>(EA k v).ev) v
abbrev aKZ:Keep:=yk [] [2,3] (yj [.box 2 0,.box 3 0]) [(2,.cells (yj [.nilsl,.arr 900321])),(3,.cells (yj [.arr 448,.arr 900331])),(900321,.rows 24 3 yi),(448,.arr 3 yi),(900331,.rows 24 3 yi)]
abbrev aHJ{a b c d e g h i j l m n:Type}(t:(a×b×c×d×e)×g×h×i×j×l×m×n):=(t.1.2.2.2.1,t.2.2.2.2.2.2.1)
def aSD:LD:=yl (EA) (yk [.ownRB 2 1 900321 24 3 yi,.ownRB 3 1 900331 24 3 yi] [1,2,3,4] (yj [.box 1 0,.box 2 0,.box 3 0,.dat yi]) [jY,(2,.cells (yj [.nilsl,.arr 900321])),(3,.cells (yj [.arr 448,.arr 900331])),(900321,.rows 24 3 yi),(448,.arr 3 yi),(900331,.rows 24 3 yi)]) [(0,aKZ)] aE (λk v=>(((),(),(),v.1,()),(k.1,k.2.1,()),((),(),()),((),(),()),k.2.2.1,k.2.2.2,v.2,())) (λt=>(t.2.1.1,t.2.1.2.1,t.2.2.2.2.1,t.2.2.2.2.2.1)) aHJ (λk r=>yx 0 aKZ (((),(),()),((),(),()),((),(),()),k.2.2.1,k.2.2.2,r,()))
def ZI(b:Y1)(f:List Y1):Tr (Y1×Y2):=.c _ (pO b) λa=>.c _ (aKF (b,f,[],a) (0,[])) λe=>.l (a,e)
def aEd b a:=(ZI b a).ev
abbrev jZ{a b c d e:Type}{z:Type _}(f:a->b->z)(x:((a×b×c)×d)×e):z:=f x.1.1.1 x.1.1.2.1
abbrev aHN{a b:Type}(r:a×b):=((((),(),()),()),r.1,r.2,())
def aPr:FP prog:=aH cx func213 [Ar] (yj [.agg Zv]) [] [] (jZ ZI) ⟨[.ren 448 1,.ren 900331 4],[.cell 2 27],(yj [.agg (yj [.arr 1,.arr 4])]),[(1,.arr 3 yi),(4,.rows 24 3 yi)],[],[]⟩ aHN bU [(0,aSD)]
def G6(k:Int×Int×E3)(v:Int):Tr (Int⊕(Unit⊕Unit)):=.t (v<(length k.2.2.2.1:Int)) (.g (aC k.1 (length k.2.2.2.2))<|.g (aC k.2.2.1 (length (getD k.2.2.2.2 (toNat k.1) [])))<|.g (aC k.1 (length k.2.2.2.2))<|.g (aC v (length (getD k.2.2.2.2 (toNat k.1) [])))<|.g (aC k.2.1 (length k.2.2.2.2))<|.g (aC v (length (getD k.2.2.2.2 (toNat k.2.1) [])))<|.g (aC k.2.1 (length k.2.2.2.2))<|.g (aC k.2.2.1 (length (getD k.2.2.2.2 (toNat k.2.1) [])))<|.t ((wrap .i64 ((wrap .i64 ((getD (getD k.2.2.2.2 (toNat k.1) []) (toNat v) 0)+(getD (getD k.2.2.2.2 (toNat k.2.1) []) (toNat v) 0)))+(getD (getD k.2.2.2.2 (toNat k.2.1) []) (toNat k.2.2.1) 0)))<(getD (getD k.2.2.2.2 (toNat k.1) []) (toNat k.2.2.1) 0)) (.l (.inr (.inr ()))) (.l (.inl (wrap .i64 (v+1))))) (.l (.inr (.inl ())))
def aFy k v:=aB (λv=>(G6 k v).ev) v
abbrev aAm:Keep:=yk [] [1,3,4,5] (yj [.box 1 0,.dat yi,.dat yi,.dat yi]) [jY]
abbrev uG:Keep:=yh [2] Pz
abbrev b8{a b c d e g h:Type}(t:(a×b×c×d×e×g)×h):=t.1.2.2.2.2.1
def aSY:LD:=yl (G6) (yk [] [1,3,4,5,6] (yj [.box 1 0,.dat yi,.dat yi,.dat yi,.dat yi]) [jY]) [(6,aAm)] uG (λk v=>(((),k.1,k.2.1,k.2.2.1,v,()),(k.2.2.2.1,k.2.2.2.2,()),())) (λt=>(t.1.2.1,t.1.2.2.1,t.1.2.2.2.1,t.2.1.1,t.2.1.2.1)) b8 (λk r=>.s _ _ r (λ_=>yx 6 aAm (((),k.1,k.2.1,k.2.2.1,()),(k.2.2.2.1,k.2.2.2.2,()),())) (λ_=>yz uG ((false,()),())))
def E7(k:Int×E3)(v:Int):Tr (Int⊕(Unit⊕Unit)):=.t (v<(length k.2.2.1:Int)) (.c _ (aFy (k.1,k.2.1,v,k.2.2.1,k.2.2.2) 0) λa=>.s _ _ a (λ_=>.l (.inl (wrap .i64 (v+1)))) (λ_=>.l (.inr (.inr ())))) (.l (.inr (.inl ())))
def aGa k v:=aB (λv=>(E7 k v).ev) v
abbrev Xm:Keep:=yk [] [1,3,4] (yj [.box 1 0,.dat yi,.dat yi]) [jY]
abbrev aLU{a b c d e:Type}(k:a×b×c×d)(v:e):=(((),k.1,k.2.1,v,()),(k.2.2.1,k.2.2.2,()),())
abbrev aIK{a b c d e g h i:Type}(t:(a×b×c×d)×(e×g×h)×i):=(t.1.2.1,t.1.2.2.1,t.2.1.1,t.2.1.2.1)
abbrev rQ{a b c d e g:Type}(t:(a×b×c×d×e)×g):=t.1.2.2.2.1
def aTi:LD:=yl (E7) aAm [(4,Xm)] uG aLU aIK rQ (λk r=>.s _ _ r (λ_=>yx 4 Xm (((),k.1,k.2.1,()),(k.2.2.1,k.2.2.2,()),())) (λ_=>yz uG ((false,()),())))
def F6(k:Int×Y1×Y2)(v:Int):Tr (Int⊕(Unit⊕Unit)):=.t (v<(length k.2.2:Int)) (.c _ (aGa (k.1,v,k.2.1,k.2.2) 0) λa=>.s _ _ a (λ_=>.l (.inl (wrap .i64 (v+1)))) (λ_=>.l (.inr (.inr ())))) (.l (.inr (.inl ())))
def aEX k v:=aB (λv=>(F6 k v).ev) v
abbrev Yc:Keep:=yk [] [1,3] (yj [.box 1 0,.dat yi]) [jY]
abbrev aIq{a b c d:Type}(k:a×b×c)(v:d):=(((),k.1,v,()),(k.2.1,k.2.2,()),())
abbrev aAI{a b c d e g h:Type}(t:(a×b×c)×(d×e×g)×h):=(t.1.2.1,t.2.1.1,t.2.1.2.1)
abbrev D1{a b c d e:Type}(t:(a×b×c×d)×e):=t.1.2.2.1
def aNj:LD:=yl (F6) Xm [(2,Yc)] uG aIq aAI D1 (λk r=>.s _ _ r (λ_=>yx 2 Yc (((),k.1,()),(k.2.1,k.2.2,()),())) (λ_=>yz uG ((false,()),())))
def G8(k:Y1×Y2)(v:Int):Tr (Int⊕(Unit⊕Unit)):=.t (v<(length k.2:Int)) (.c _ (aEX (v,k.1,k.2) 0) λa=>.s _ _ a (λ_=>.l (.inl (wrap .i64 (v+1)))) (λ_=>.l (.inr (.inr ())))) (.l (.inr (.inl ())))
def ZA k v:=aB (λv=>(G8 k v).ev) v
abbrev E8{a b c d e:Type}(t:a×(b×c×d)×e):=(t.2.1.1,t.2.1.2.1)
abbrev NV{a b c d:Type}(t:(a×b×c)×d):=t.1.2.1
def aSF:LD:=yl (G8) Yc [(0,aE)] uG (λk v=>(((),v,()),(k.1,k.2,()),())) E8 NV (λ_ r=>.s _ _ r (λ_=>yx 0 aE ((),())) (λ_=>yz uG ((false,()),())))
def PX(e:Y1)(b:List Y1):Tr Bool:=.c _ (ZA (e,b) 0) λa=>.s _ _ a (λ_=>.l true) (λ_=>.l false)
def Qe b a:=(PX b a).ev
def aLl:FP prog:=aH cx func214 [] (yj [.agg Zv]) [] [] (jZ PX) Dt bN bU [(6,aSY),(4,aTi),(2,aNj),(0,aSF)]
def aCI(b a:Int):Tr Int:=.t (b<a) (.l b) (.l a)
def Td b a:=(aCI b a).ev
def aBD:FP prog:=aH cx func143 [] (yj [.dat yi,.dat yi]) [] [] (dG aCI) lJ bN
def NZ(k:Int×Int×gR)(v:Int×Y2):Tr (E4⊕Y2):=.t (v.1<(length k.2.2.2:Int)) (.g (aC k.1 (length v.2))<|.g ((toNat k.1)<length v.2)<|.g (aC k.1 (length v.2))<|.g ((toNat k.1)<length v.2)<|.g (aC k.2.2.1 (length (getD v.2 (toNat k.1) [])))<|.g ((toNat k.2.2.1)<length (getD v.2 (toNat k.1) []))<|.g (aC k.1 (length v.2))<|.g ((toNat k.1)<length v.2)<|.g (aC v.1 (length (getD v.2 (toNat k.1) [])))<|.g ((toNat v.1)<length (getD v.2 (toNat k.1) []))<|.g (aC k.2.1 (length v.2))<|.g ((toNat k.2.1)<length v.2)<|.g (aC v.1 (length (getD v.2 (toNat k.2.1) [])))<|.g ((toNat v.1)<length (getD v.2 (toNat k.2.1) []))<|.g (aC k.2.1 (length v.2))<|.g ((toNat k.2.1)<length v.2)<|.g (aC k.2.2.1 (length (getD v.2 (toNat k.2.1) [])))<|.g ((toNat k.2.2.1)<length (getD v.2 (toNat k.2.1) []))<|.c _ (Td (getD (getD v.2 (toNat k.1) []) (toNat k.2.2.1) 0) (wrap .i64 ((wrap .i64 ((getD (getD v.2 (toNat k.1) []) (toNat v.1) 0)+(getD (getD v.2 (toNat k.2.1) []) (toNat v.1) 0)))+(getD (getD v.2 (toNat k.2.1) []) (toNat k.2.2.1) 0)))) λa=>.g (aC k.2.2.1 (length (getD v.2 (toNat k.1) [])))<|.g ((toNat k.2.2.1)<length (getD v.2 (toNat k.1) []))<|.l (.inl ((wrap .i64 (v.1+1)),(set v.2 (toNat k.1) (set (getD v.2 (toNat k.1) []) (toNat k.2.2.1) a))))) (.l (.inr v.2))
def aHj k v:=aB (λv=>(NZ k v).ev) v
abbrev aAy:Keep:=yk [] [2,3,4,5,6] (yj [.box 2 0,.box 3 0,.dat yi,.dat yi,.dat yi]) [(2,.cells (yj [.nilsl,.nilsl])),(3,.cells (yj [.arr 577,.arr 580])),(577,.arr 3 yi),(580,.rows 24 3 yi)]
abbrev aIg{a b c d e g h i j l m n:Type}(t:(a×b×c×d×e×g×h)×i×j×l×m×n):=(t.1.2.2.2.2.2.1,t.2.2.2.2.1)
def aQE:LD:=yl (NZ) (yk [] [2,3,4,5,6,7] (yj [.box 2 0,.box 3 0,.dat yi,.dat yi,.dat yi,.dat yi]) [(2,.cells (yj [.nilsl,.nilsl])),(3,.cells (yj [.arr 577,.arr 580])),(577,.arr 3 yi),(580,.rows 24 3 yi)]) [(8,aAy)] aE (λk v=>(((),(),k.1,k.2.1,k.2.2.1,v.1,()),((),(),()),((),(),()),k.2.2.2,v.2,())) (λt=>(t.1.2.2.1,t.1.2.2.2.1,t.1.2.2.2.2.1,t.2.2.2.1)) aIg (λk r=>yx 8 aAy (((),(),k.1,k.2.1,k.2.2.1,()),((),(),()),((),(),()),k.2.2.2,r,()))
def DU(k:Int×gR)(v:Int×Y2):Tr (E4⊕Y2):=.t (v.1<(length k.2.2:Int)) (.c _ (aHj (k.1,k.2.1,v.1,k.2.2) (0,v.2)) λa=>.l (.inl ((wrap .i64 (v.1+1)),a))) (.l (.inr v.2))
def aKM k v:=aB (λv=>(DU k v).ev) v
abbrev aFh:Keep:=yk [] [2,3,4,5] (yj [.box 2 0,.box 3 0,.dat yi,.dat yi]) [(2,.cells (yj [.nilsl,.nilsl])),(3,.cells (yj [.arr 577,.arr 580])),(577,.arr 3 yi),(580,.rows 24 3 yi)]
def aQB:LD:=yl (DU) aAy [(6,aFh)] aE (λk v=>(((),(),k.1,k.2.1,v.1,()),((),(),()),((),(),()),k.2.2,v.2,())) (λt=>(t.1.2.2.1,t.1.2.2.2.1,t.2.2.2.1)) (λt=>(t.1.2.2.2.2.1,t.2.2.2.2.1)) (λk r=>yx 6 aFh (((),(),k.1,k.2.1,()),((),(),()),((),(),()),k.2.2,r,()))
def BX(k:Int×Y1)(v:Int×Y2):Tr (E4⊕Y2):=.t (v.1<(length v.2:Int)) (.c _ (aKM (k.1,v.1,k.2) (0,v.2)) λa=>.l (.inl ((wrap .i64 (v.1+1)),a))) (.l (.inr v.2))
def aGU k v:=aB (λv=>(BX k v).ev) v
abbrev aFA:Keep:=yk [] [2,3,4] (yj [.box 2 0,.box 3 0,.dat yi]) [(2,.cells (yj [.nilsl,.nilsl])),(3,.cells (yj [.arr 577,.arr 580])),(577,.arr 3 yi),(580,.rows 24 3 yi)]
def aTJ:LD:=yl (BX) aFh [(4,aFA)] aE (λk v=>(((),(),k.1,v.1,()),((),(),()),((),(),()),k.2,v.2,())) (λt=>(t.1.2.2.1,t.2.2.2.1)) (λt=>(t.1.2.2.2.1,t.2.2.2.2.1)) (λk r=>yx 4 aFA (((),(),k.1,()),((),(),()),((),(),()),k.2,r,()))
def AL(k:Y1)(v:Int×Y2):Tr (E4⊕Y2):=.t (v.1<(length v.2:Int)) (.c _ (aGU (v.1,k) (0,v.2)) λa=>.l (.inl ((wrap .i64 (v.1+1)),a))) (.l (.inr v.2))
def aLT k v:=aB (λv=>(AL k v).ev) v
abbrev HN:Keep:=yk [] [2,3] (yj [.box 2 0,.box 3 0]) [(2,.cells (yj [.nilsl,.nilsl])),(3,.cells (yj [.arr 577,.arr 580])),(577,.arr 3 yi),(580,.rows 24 3 yi)]
abbrev XF{a b c d e:Type}(t:a×b×c×d×e):=t.2.2.2.1
def aNW:LD:=yl (AL) aFA [(2,HN)] aE (λk v=>(((),(),v.1,()),((),(),()),((),(),()),k,v.2,())) XF (λt=>(t.1.2.2.1,t.2.2.2.2.1)) (λk r=>yx 2 HN (((),(),()),((),(),()),((),(),()),k,r,()))
def OG(k:Y1)(v:List Y1):Tr (Y2⊕Y2):=.c _ (Qe k v) λa=>.t (!a) (.c _ (aLT k (0,v)) λb=>.l (.inl b)) (.l (.inr v))
def OS k v:=aB (λv=>(OG k v).ev) v
def aTL:LD:=yl (OG) HN [(0,HN)] aE (λk v=>(((),(),()),((),(),()),((),(),()),k,v,())) XF (λt=>t.2.2.2.2.1) (λk r=>yx 0 HN (((),(),()),((),(),()),((),(),()),k,r,()))
def WY(f:Y1)(e:List Y1):Tr (Y1×Y2):=.c _ (aEd f e) λa=>.c _ (OS a.1 a.2) λb=>.l (a.1,b)
def aEF b a:=(WY b a).ev
def aRW:FP prog:=aH cx func138 [aPr,aLl,aBD] (yj [.agg Zv]) [] [] (jZ WY) ⟨[.ren 577 1,.ren 580 4],[.cell 2 27],(yj [.agg (yj [.arr 1,.arr 4])]),[(1,.arr 3 yi),(4,.rows 24 3 yi)],[],[]⟩ aHN bU [(8,aQE),(6,aQB),(4,aTJ),(2,aNW),(0,aTL)]
noncomputable abbrev Ja(p1:Y1)(p2 p3:Int)(p4:Y1)(p5:List Y1):=(.c _ (aFt p1 p2 p3 p4 p5) λa=>.l (a.1,a.2.1,a.2.2.1,a.2.2.2.1,a.2.2.2.2):Tr (Y1×Y2×b9))
def aFc(g:Int)(l:Y1)(i j:Int):Tr (Y1×Y2×b9):=.c _ (eG 3 l i j) λa=>.t (a.1==0) (.c _ (Xs g a.2.1 a.2.2.1 a.2.2.2) λb=>Ja b.2.2.1 b.2.2.2.1 b.2.2.2.2 b.1 b.2.1) (.t (a.1==1) (.c _ (aBF g a.2.1 a.2.2.1 a.2.2.2) λf=>Ja f.2.2.1 f.2.2.2.1 f.2.2.2.2 f.1 f.2.1) (.c _ (Xs g a.2.1 a.2.2.1 a.2.2.2) λe=>.c _ (aEF e.1 e.2.1) λh=>Ja e.2.2.1 e.2.2.2.1 e.2.2.2.2 h.1 h.2))
def MJ c e b a:=(aFc c e b a).ev
def aMU:FP prog:=aH cx func87 [uE,aIY,aRn,aSU,aRW] (yj [.box 64 0,.dat yi]) [Zz] [.arg 0] (UO aFc) ⟨[.ren 833 1,.ren 1281 1,.ren 1665 1,.ren 834 2,.ren 1282 2,.ren 1666 2],[.cell 4 27],(yj [.agg (yj [.arr 1,.arr 2])]),[(1,.arr 3 yi),(2,.rows 24 3 yi),Zz],[(0,0,64)],[]⟩ ME
def aBL(a c b:Int):Tr Bool:=.t (c<=a) (.l (a<=b)) (.l false)
def rO c b a:=(aBL c b a).ev
abbrev Rr{a b c d e:Type}{z:Type _}(f:a->b->c->z)(x:(a×b×c×d)×e):z:=f x.1.1 x.1.2.1 x.1.2.2.1
abbrev Ck:RetK:=yr [.tmp 6] Pz
def F0:FP prog:=aH cx func61 [] (yj [.dat yi,.dat yi,.dat yi]) [] [] (Rr aBL) Ck bN
def Xx(k:Y1×jI)(v:Int):Tr (Int⊕(Unit⊕Unit)):=.t (v<(length k.1:Int)) (.g (aC v (length k.1))<|.c _ (rO (getD k.1 (toNat v) 0) 0 k.2.2) λa=>.t (!a) (.l (.inr (.inr ()))) (.l (.inl (wrap .i64 (v+1))))) (.l (.inr (.inl ())))
def aLF k v:=aB (λv=>(Xx k v).ev) v
abbrev VP:Keep:=yh [0,1,2,7] (yj [.dat y1,.dat yi,.dat yi,.dat yi])
abbrev RE:Keep:=yh [0,1] (yj [.dat y1,.dat yi])
abbrev sB:Keep:=yh [6] Pz
abbrev xY{a b c d:Type}(k:a×b×c)(v:d):=((k.1,k.2.1,k.2.2,v,()),())
abbrev xR{a b c d e:Type}(t:(a×b×c×d)×e):=(t.1.1,t.1.2.1,t.1.2.2.1)
def aQC:LD:=yl (Xx) VP [(0,RE)] sB xY xR rQ (λk r=>.s _ _ r (λ_=>yx 0 RE ((k.1,k.2.1,()),())) (λ_=>yz sB ((false,()),())))
def aGA(b:Y1)(a e:Int):Tr Bool:=.c _ (aLF (b,a,e) 0) λf=>.s _ _ f (λ_=>.l ((length b:Int)==a)) (λ_=>.l false)
def LY c b a:=(aGA c b a).ev
def aNO:FP prog:=aH cx func96 [F0] (yj [.dat y1,.dat yi,.dat yi]) [] [] (Rr aGA) Ck bN bU [(0,aQC)]
def Xg(k:Int×Y1×Y2)(v:Int):Tr (Int⊕(Unit⊕Unit)):=.t (v<(length k.2.2:Int)) (.g (aC v (length k.2.2))<|.c _ (LY (getD k.2.2 (toNat v) []) k.1 99) λa=>.t (!a) (.l (.inr (.inr ()))) (.l (.inl (wrap .i64 (v+1))))) (.l (.inr (.inl ())))
def aID k v:=aB (λv=>(Xg k v).ev) v
def aRV:LD:=yl (Xg) Xm [(0,Yc)] uG aIq aAI D1 (λk r=>.s _ _ r (λ_=>yx 0 Yc (((),k.1,()),(k.2.1,k.2.2,()),())) (λ_=>yz uG ((false,()),())))
def aDb(a:Y1)(b:List Y1):Tr Bool:=.c _ (aID ((length a:Int),a,b) 0) λg=>.s _ _ g (λ_=>.c _ (rO (length a:Int) 1 7) λe=>.t e (.c _ (LY a (length a:Int) 99) λf=>.t f (.l ((length b:Int)<=(7:Int))) (.l false)) (.l false)) (λ_=>.l false)
def vM b a:=(aDb b a).ev
def G2:FP prog:=aH cx func59 [aNO,F0] (yj [.agg Zv]) [] [] (jZ aDb) Dt bN bU [(0,aRV)]
def YG(e:Int)(g:Y1)(b f:Int):Tr (Bool×b9):=.c _ (eG e g b f) λa=>.l ((a.1==0),a.2.1,a.2.2.1,a.2.2.2)
def Pu c e b a:=(YG c e b a).ev
def ZT:FP prog:=aH cx func50 [uE] (yj [.box 64 0,.dat yi]) [Zz] [.arg 0] (UO YG) ⟨[],[.tmp 4],Pz,[Zz],[(0,0,64)],[]⟩ yq5
def Rd(k:Int×Int)(v:Int×Y1):Tr (gR⊕Y1):=.t (v.1<k.1) (.g (0<=v.1)<|.t ((wrap .i64 (BitVec.toNat ((BitVec.ofInt (IntKind.bits .i64) (Int.fdiv k.2 (2^(min (toNat v.1) (IntKind.bits .i64)))))&&& (BitVec.ofInt (IntKind.bits .i64) 1))))==(1:Int)) (.g ((length v.2+length ([v.1]:Y1))*8<=140737488355328)<|.l (.inl ((wrap .i64 (v.1+1)),(v.2++([v.1]:Y1))))) (.l (.inl ((wrap .i64 (v.1+1)),v.2)))) (.l (.inr v.2))
def aHr k v:=aB (λv=>(Rd k v).ev) v
abbrev J7:Keep:=yk [] [5] (yj [.arr 7]) [(7,.arr 3 yi)]
abbrev SP{a b c d:Type}(k:a×b)(v:c×d):=((k.1,k.2,(),v.1,()),v.2,())
abbrev mZ{a b c d:Type}(t:(a×b×c)×d):=(t.1.1,t.1.2.1)
abbrev u7{a b c d e g h:Type}(t:(a×b×c×d×e)×g×h):=(t.1.2.2.2.1,t.2.1)
def aRR:LD:=yl (Rd) (yk [] [0,1,5,6] (yj [.dat yi,.dat yi,.arr 7,.dat yi]) [(7,.arr 3 yi)]) [(0,J7)] aE SP mZ u7 (λ_ r=>yx 0 J7 (((),()),r,()))
def aCe(e a:Int):Tr Y1:=.c _ (aHr (e,a) (0,[])) λb=>.l b
def Z7 b a:=(aCe b a).ev
abbrev IA:RetK:=⟨[.ren 7 0],[.tmp 4],C7,[tP],[],[]⟩
def YZ:FP prog:=aH cx func88 [] (yj [.dat yi,.dat yi]) [] [] (dG aCe) IA kQ bU [(0,aRR)]
def Rx(k:Y1×jI)(v:Int):Tr (Int⊕(Unit⊕Unit)):=.t (v<(length k.1:Int)) (.g (aC v (length k.1))<|.c _ (rO (getD k.1 (toNat v) 0) k.2.1 k.2.2) λa=>.t (!a) (.l (.inr (.inr ()))) (.t (0<v) (.g (aC (wrap .i64 (v-1)) (length k.1))<|.g (aC v (length k.1))<|.t ((getD k.1 (toNat v) 0)<=(getD k.1 (toNat (wrap .i64 (v-1))) 0)) (.l (.inr (.inr ()))) (.l (.inl (wrap .i64 (v+1))))) (.l (.inl (wrap .i64 (v+1)))))) (.l (.inr (.inl ())))
def aHE k v:=aB (λv=>(Rx k v).ev) v
def aPj:LD:=yl (Rx) VP [(0,aE)] sB xY xR rQ (λ_ r=>.s _ _ r (λ_=>yx 0 aE ((),())) (λ_=>yz sB ((false,()),())))
def aCf(f:Y1)(e a:Int):Tr Bool:=.c _ (aHE (f,e,a) 0) λb=>.s _ _ b (λ_=>.l true) (λ_=>.l false)
def aBk c b a:=(aCf c b a).ev
def aSp:FP prog:=aH cx func97 [F0] (yj [.dat y1,.dat yi,.dat yi]) [] [] (Rr aCf) Ck bN bU [(0,aPj)]
def aFG(e:Y1)(_f:List Y1)(a:Y1):Tr Bool:=.c _ (aBk a 0 (wrap .i64 ((length e:Int) -1))) λb=>.l b
def MH c b a:=(aFG c b a).ev
abbrev bF{a b c d e g:Type}{z:Type _}(f:a->b->d->z)(x:((a×b×c)×d×e)×g):z:=f x.1.1.1 x.1.1.2.1 x.1.2.1
abbrev dC:RetK:=yr [.tmp 4] Pz
def aHg:FP prog:=aH cx func60 [aSp] (yj [.agg Zv,.dat y1]) [] [] (bF aFG) dC bN
def aFO(b:Y1)(a:List Y1)(h:Y1)(g:Int):Tr Bool:=.c _ (vM b a) λi=>.t i (.c _ (MH b a h) λe=>.t e (.c _ (rO g 0 1000) λf=>.l f) (.l false)) (.l false)
def Ke e c b a:=(aFO e c b a).ev
abbrev rX{a b c d e g h:Type}{z:Type _}(f:a->b->c->d->z)(x:((a×b×c×d×e)×g)×h):z:=f x.1.1.1 x.1.1.2.1 x.1.1.2.2.1 x.1.1.2.2.2.1
def Ws:FP prog:=aH cx func30 [G2,aHg,F0] (yj [.agg oL]) [] [] (rX aFO) Dt bN
def Vo(k:Int)(v:Int×Vv):Tr ((Int×Vv)⊕Vv):=.t (v.1<k) (.t (v.1<7) (.c _ (eG 20 v.2.1 v.2.2.1 v.2.2.2.1) λa=>.g ((length v.2.2.2.2+length ([a.1]:Y1))*8<=140737488355328)<|.l (.inl ((wrap .i64 (v.1+1)),a.2.1,a.2.2.1,a.2.2.2,(v.2.2.2.2++([a.1]:Y1))))) (.l (.inr (v.2.1,v.2.2.1,v.2.2.2.1,v.2.2.2.2)))) (.l (.inr (v.2.1,v.2.2.1,v.2.2.2.1,v.2.2.2.2)))
def aHV k v:=aB (λv=>(Vo k v).ev) v
abbrev VX:Keep:=yk [] [0,5] (yj [.box 64 0,.arr 7]) [Zz,(7,.arr 3 yi)]
def aSP:LD:=yl (Vo) (yk [] [0,1,5,6] (yj [.box 64 0,.dat yi,.arr 7,.dat yi]) [Zz,(7,.arr 3 yi)]) [(0,VX)] aE (λk v=>(((),k,(),v.1,()),(v.2.1,v.2.2.1,v.2.2.2.1,()),v.2.2.2.2,())) NV (λt=>(t.1.2.2.2.1,t.2.1.1,t.2.1.2.1,t.2.1.2.2.1,t.2.2.1)) (λ_ r=>yx 0 VX (((),(),()),(r.1,r.2.1,r.2.2.1,()),r.2.2.2,()))
def aFD(h:Int)(j:Y1)(f i:Int):Tr (Y1×b9):=.c _ (aHV h (0,j,f,i,[])) λb=>.c _ (Pu 12 b.1 b.2.1 b.2.2.1) λa=>.t a.1 (.c _ (mH ([0,(-1),100]:Y1) a.2.1 a.2.2.1 a.2.2.2) λe=>.g ((length b.2.2.2+length ([e.1]:Y1))*8<=140737488355328)<|.l ((b.2.2.2++([e.1]:Y1)),e.2.1,e.2.2.1,e.2.2.2)) (.l (b.2.2.2,a.2.1,a.2.2.1,a.2.2.2))
def BL c e b a:=(aFD c e b a).ev
def aQN:FP prog:=aH cx func144 [uE,ZT,Gv] (yj [.box 64 0,.dat yi]) [Zz] [.arg 0] (UO aFD) ⟨[.ren 7 0],[.tmp 4],C7,[tP,Zz],[(0,0,64)],[]⟩ (λr=>(((),()),r.1,(r.2.1,r.2.2.1,r.2.2.2,()),())) (E6 [(7,[(3,[26])])]) [(0,aSP)]
noncomputable abbrev wL(p1:Y1)(p2 p3 p4 p5 p6 p7:Int):=(.c _ (eG 32 p1 p2 p3) λa=>.t (a.1==0) (.c _ (mH ([(-1),7,4611686018427387904]:Y1) a.2.1 a.2.2.1 a.2.2.2) λe=>.l ((wrap .i64 ((1:Int)+p4)),e.1,p5,p6,[],e.2.1,e.2.2.1,e.2.2.2)) (.t (a.1==1) (.c _ (mH ([(-1),1]:Y1) a.2.1 a.2.2.1 a.2.2.2) λf=>.l ((wrap .i64 ((1:Int)+p4)),p7,p5,f.1,[],f.2.1,f.2.2.1,f.2.2.2)) (.t (a.1==2) (.c _ (mH ([0,12,(-1)]:Y1) a.2.1 a.2.2.1 a.2.2.2) λb=>.l (b.1,p7,p5,p6,[],b.2.1,b.2.2.1,b.2.2.2)) (.t (a.1==3) (.g (length ([1]:Y1)*8<=140737488355328)<|.l ((wrap .i64 ((1:Int)+p4)),p7,p5,p6,([1]:Y1),a.2.1,a.2.2.1,a.2.2.2)) (.l ((wrap .i64 ((1:Int)+p4)),p7,p5,p6,[],a.2.1,a.2.2.1,a.2.2.2))))):Tr (Int×Int×Int×Int×Y1×b9))
noncomputable abbrev GB(p1:Y1)(p2 p3 p4:Int)(p5:Y1)(p6:Int):=(.c _ (eG 32 p1 p2 p3) λa=>.t (a.1==0) (.c _ (mH ([(-1),7,4611686018427387904]:Y1) a.2.1 a.2.2.1 a.2.2.2) λe=>.l ((wrap .i64 ((1:Int)+p4)),e.1,0,0,p5,e.2.1,e.2.2.1,e.2.2.2)) (.t (a.1==1) (.c _ (mH ([(-1),1]:Y1) a.2.1 a.2.2.1 a.2.2.2) λb=>.l ((wrap .i64 ((1:Int)+p4)),p6,0,b.1,p5,b.2.1,b.2.2.1,b.2.2.2)) (.t (a.1==2) (.c _ (mH ([0,12,(-1)]:Y1) a.2.1 a.2.2.1 a.2.2.2) λf=>.l (f.1,p6,0,0,p5,f.2.1,f.2.2.1,f.2.2.2)) (.t (a.1==3) (.g ((length p5+length ([1]:Y1))*8<=140737488355328)<|.l ((wrap .i64 ((1:Int)+p4)),p6,0,0,(p5++([1]:Y1)),a.2.1,a.2.2.1,a.2.2.2)) (.l ((wrap .i64 ((1:Int)+p4)),p6,0,0,p5,a.2.1,a.2.2.1,a.2.2.2))))):Tr (Int×Int×Int×Int×Y1×b9))
noncomputable abbrev Lf(p1 p2 p3:Int)(p4:Y1)(p5 p6 p7:Int)(p8:List Y1)(p9:Y1):=(.t ((wrap .i64 ((1:Int)+p1))==p2) (.c _ (eG p3 p4 p5 p6) λj=>wL j.2.1 j.2.2.1 j.2.2.2 p1 0 0 j.1) (.t ((wrap .i64 ((1:Int)+p1))==(3:Int)) (.c _ (eG p3 p4 p5 p6) λm=>.c _ (eG p3 m.2.1 m.2.2.1 m.2.2.2) λb=>wL b.2.1 b.2.2.1 b.2.2.2 p1 b.1 0 m.1) (.t ((wrap .i64 ((1:Int)+p1))==(4:Int)) (.c _ (eG p3 p4 p5 p6) λi=>.c _ (mH ([0,3,10,99,100]:Y1) i.2.1 i.2.2.1 i.2.2.2) λh=>wL h.2.1 h.2.2.1 h.2.2.2 p1 h.1 0 i.1) (.t ((wrap .i64 ((1:Int)+p1))==(5:Int)) (.c _ (eG p7 p4 p5 p6) λf=>.c _ (eG p3 f.2.1 f.2.2.1 f.2.2.2) λe=>.c _ (mH ([0,3,10,99,100]:Y1) e.2.1 e.2.2.1 e.2.2.2) λo=>wL o.2.1 o.2.2.1 o.2.2.2 p1 e.1 o.1 f.1) (.t ((wrap .i64 ((1:Int)+p1))==(6:Int)) (.c _ (eG 20 p4 p5 p6) λl=>.c _ (BL (length p8:Int) l.2.1 l.2.2.1 l.2.2.2) λa=>GB a.2.1 a.2.2.1 a.2.2.2 p1 a.1 l.1) (.t ((wrap .i64 ((1:Int)+p1))==(7:Int)) (.c _ (BL (length p9:Int) p4 p5 p6) λn=>GB n.2.1 n.2.2.1 n.2.2.2 p1 n.1 0) (.t ((wrap .i64 ((1:Int)+p1))==(9:Int)) (.c _ (eG p7 p4 p5 p6) λg=>wL g.2.1 g.2.2.1 g.2.2.2 p1 0 0 g.1) (wL p4 p5 p6 p1 0 0 0))))))):Tr (Int×Int×Int×Int×Y1×b9))
def LW(b:Y1)(e:List Y1)(m:Y1)(i l:Int):Tr (Int×Int×Int×Int×Y1×b9):=.c _ (eG 11 m i l) λa=>.c _ (Td (length b:Int) 7) λh=>.c _ (Kh 1 h) λf=>.c _ (Td (length e:Int) 7) λj=>.c _ (Kh 1 j) λg=>.t ((wrap .i64 ((1:Int)+a.1))==(1:Int)) (Lf a.1 1 f a.2.1 a.2.2.1 a.2.2.2 g e b) (.t ((wrap .i64 ((1:Int)+a.1))==(2:Int)) (Lf a.1 2 f a.2.1 a.2.2.1 a.2.2.2 g e b) (Lf a.1 8 f a.2.1 a.2.2.1 a.2.2.2 g e b))
def aGZ b c f a e:=(LW b c f a e).ev
def aRq:FP prog:=aH cx func90 [uE,aBD,MZ,Gv,aQN] (yj [.box 64 0,.agg Zv]) [Zz] [.arg 0] ((λf x=>f x.1.2.1.1 x.1.2.1.2.1 x.2.1.1 x.2.1.2.1 x.2.1.2.2.1) LW) ⟨[.ownB 4 4 1 3 yi,.ren 116 1,.ren 4800 1,.ren 5312 1],[.cell 4 109],(yj [.agg (yj [.dat yi,.dat yi,.dat yi,.dat yi,.arr 1])]),[(1,.arr 3 yi),Zz],[(0,0,64)],[]⟩ (λr=>(((r.1,r.2.1,r.2.2.1,r.2.2.2.1,(),()),()),r.2.2.2.2.1,(r.2.2.2.2.2.1,r.2.2.2.2.2.2.1,r.2.2.2.2.2.2.2,()),())) (E6 [(27,[(2,[96])]),(29,[(2,[102])]),(31,[(2,[108])]),(13,[(2,[49])]),(17,[(2,[63])])])
noncomputable abbrev AG(p1 p2 p3:Int)(p4:Y1)(p5 p6:Int):=(.t (p1==p2) (.t (p3==0) (.l ((length p4:Int)==(0:Int))) (.l false)) (.t (p1==5) (.l ((length p4:Int)==(0:Int))) (.t (p1==6) (.t (p5==0) (.l (p3==0)) (.l false)) (.t (p1==7) (.t (p6==0) (.t (p5==0) (.l (p3==0)) (.l false)) (.l false)) (.t (p1==10) (.t (p6==0) (.t (p5==0) (.t (p3==0) (.l ((length p4:Int)==(0:Int))) (.l false)) (.l false)) (.l false)) (.t (p1==11) (.t (p6==0) (.t (p5==0) (.t (p3==0) (.l ((length p4:Int)==(0:Int))) (.l false)) (.l false)) (.l false)) (.l false)))))):Tr Bool)
noncomputable abbrev S8(p1 p2 p3 p4:Int)(p5:Y1)(p6:Int):=(.t (p1==p2) (.t (p3==0) (.t (p4==0) (.l ((length p5:Int)==(0:Int))) (.l false)) (.l false)) (.t (p1==3) (AG p1 3 p4 p5 p3 p6) (AG p1 4 p4 p5 p3 p6)):Tr Bool)
def XT(a c f b:Int)(e:Y1):Tr Bool:=.t (a==1) (S8 a 1 f b e c) (.t (a==2) (S8 a 2 f b e c) (.t (a==8) (S8 a 8 f b e c) (S8 a 9 f b e c)))
def aAu f b e a c:=(XT f b e a c).ev
abbrev An{a b c d e g h i:Type}{z:Type _}(f:a->b->c->d->e->z)(x:((a×b×c×d×e×g)×h)×i):z:=f x.1.1.1 x.1.1.2.1 x.1.1.2.2.1 x.1.1.2.2.2.1 x.1.1.2.2.2.2.1
def aSe:FP prog:=aH cx func139 [] (yj [.agg UK]) [] [] (An XT) Dt bN
def aDp(e:Y1)(_f:List Y1)(a:Int):Tr Bool:=.c _ (rO a 0 (wrap .i64 ((length e:Int) -1))) λb=>.l b
def HU c b a:=(aDp c b a).ev
def aJu:FP prog:=aH cx func217 [F0] (yj [.agg Zv,.dat yi]) [] [] (bF aDp) dC bN
def IB(k:Y1×Int)(v:Int):Tr (Int⊕(Unit⊕Unit)):=.t (v<(length k.1:Int)) (.g (aC v (length k.1))<|.t ((getD k.1 (toNat v) 0)==k.2) (.l (.inr (.inr ()))) (.l (.inl (wrap .i64 (v+1))))) (.l (.inr (.inl ())))
def aIO k v:=aB (λv=>(IB k v).ev) v
abbrev Lr:Keep:=yh [0,1,5] (yj [.dat y1,.dat yi,.dat yi])
abbrev gI:Keep:=yh [4] Pz
abbrev uK{a b c:Type}(k:a×b)(v:c):=((k.1,k.2,v,()),())
def aMf:LD:=yl (IB) Lr [(0,aE)] gI uK mZ D1 (λ_ r=>.s _ _ r (λ_=>yx 0 aE ((),())) (λ_=>yz gI ((true,()),())))
def aFS(e:Y1)(b:Int):Tr Bool:=.c _ (aIO (e,b) 0) λa=>.s _ _ a (λ_=>.l false) (λ_=>.l true)
def Av b a:=(aFS b a).ev
def aDt:FP prog:=aH cx func216 [] (yj [.dat y1,.dat yi]) [] [] (dG aFS) dC bN bU [(0,aMf)]
def aBn(h:Y1)(e:List Y1)(f:Y1)(_i a:Int):Tr Bool:=.c _ (HU h e a) λg=>.t g (.c _ (Av f a) λb=>.l (!b)) (.l false)
def PC f b e a c:=(aBn f b e a c).ev
abbrev O2{a b c d e g h i:Type}{z:Type _}(f:a->b->c->d->g->z)(x:((a×b×c×d×e)×g×h)×i):z:=f x.1.1.1 x.1.1.2.1 x.1.1.2.2.1 x.1.1.2.2.2.1 x.1.2.1
def aOn:FP prog:=aH cx func215 [aJu,aDt] (yj [.agg oL,.dat yi]) [] [] (O2 aBn) dC bN
noncomputable abbrev HX(p1 p2:Int)(p3:Y1)(p4:List Y1)(p5:Y1)(p6 p7 p8:Int)(p9:Y1):=(.t (p1==p2) (.c _ (PC p3 p4 p5 p6 p7) λj=>.l j) (.t (p1==2) (.c _ (Av p5 p7) λa=>.l a) (.t (p1==3) (.c _ (Av p5 p7) λf=>.t f (.c _ (PC p3 p4 p5 p6 p8) λh=>.l h) (.l false)) (.t (p1==4) (.c _ (HU p3 p4 p7) λi=>.l i) (.t (p1==5) (.c _ (rO p7 0 (wrap .i64 ((length p4:Int) -1))) λg=>.t g (.c _ (HU p3 p4 p8) λb=>.l b) (.l false)) (.t (p1==6) (.l ((length p9:Int)==(length p4:Int))) (.t (p1==9) (.c _ (rO p7 0 (wrap .i64 ((length p4:Int) -1))) λe=>.l e) (.t (p1==10) (.l ((0:Int)<(length p5:Int))) (.l true)))))))):Tr Bool)
def aFU(i:Y1)(c:List Y1)(h:Y1)(f a g b _j:Int)(e:Y1):Tr Bool:=.t (a==1) (HX a 1 i c h f g b e) (HX a 8 i c h f g b e)
def XD j c i b f h a g e:=(aFU j c i b f h a g e).ev
abbrev Fk{a b c d e g h i j l m n o:Type}{z:Type _}(f:a->b->c->d->g->h->i->j->l->z)(x:((a×b×c×d×e)×(g×h×i×j×l×m)×n)×o):z:=f x.1.1.1 x.1.1.2.1 x.1.1.2.2.1 x.1.1.2.2.2.1 x.1.2.1.1 x.1.2.1.2.1 x.1.2.1.2.2.1 x.1.2.1.2.2.2.1 x.1.2.1.2.2.2.2.1
def aNu:FP prog:=aH cx func140 [aOn,aDt,aJu,F0] (yj [.agg oL,.agg UK]) [] [] (Fk aFU) dC bN
def FW(k:Y1×Y2×Y1×Int×Int×Y2×Y1)(v:Int×Y2):Tr (E4⊕Y2):=.t (v.1<(length k.2.1:Int)) (.g (aC v.1 (length k.2.1))<|.c _ (pO (getD k.2.1 (toNat v.1) [])) λa=>.g ((length v.2+1)*24<=140737488355328)<|.l (.inl ((wrap .i64 (v.1+1)),(set (v.2++ [[]]) (length v.2) a)))) (.l (.inr v.2))
def aLO k v:=aB (λv=>(FW k v).ev) v
abbrev TN:Keep:=yk [] [1,2,3] (yj [.box 1 0,.box 2 0,.box 3 0]) [(1,.cells oL),(2,.cells (yj [.nilsl,.arr 900321,.nilsl,.dat yi])),(3,.cells (yj [.arr 512,.arr 9])),(900321,.rows 24 3 yi),(512,.arr 3 yi),(9,.rows 24 3 yi)]
def aPp:LD:=yl (FW) (yk [.ownRB 2 1 900321 24 3 yi] [1,2,3,4] (yj [.box 1 0,.box 2 0,.box 3 0,.dat yi]) [(1,.cells oL),(2,.cells (yj [.nilsl,.arr 900321,.nilsl,.dat yi])),(3,.cells (yj [.arr 512,.arr 9])),(900321,.rows 24 3 yi),(512,.arr 3 yi),(9,.rows 24 3 yi)]) [(0,TN)] aE (λk v=>(((),(),(),v.1,()),(k.1,k.2.1,k.2.2.1,k.2.2.2.1,()),((),(),(),k.2.2.2.2.1,()),((),(),()),k.2.2.2.2.2.1,k.2.2.2.2.2.2,v.2,())) (λt=>(t.2.1.1,t.2.1.2.1,t.2.1.2.2.1,t.2.1.2.2.2.1,t.2.2.1.2.2.2.1,t.2.2.2.2.1,t.2.2.2.2.2.1)) aHJ (λk r=>yx 0 TN (((),(),(),()),(k.1,k.2.1,k.2.2.1,k.2.2.2.1,()),((),(),(),k.2.2.2.2.1,()),((),(),()),k.2.2.2.2.2.1,k.2.2.2.2.2.2,r,()))
def aBY(f:Y1)(h:List Y1)(b:Y1)(a:Int):Tr (Int×Oc):=.c _ (pO f) λe=>.c _ (aLO (f,h,b,a,0,[],e) (0,[])) λi=>.c _ (pO b) λg=>.l (a,e,i,g)
def G9 e c b a:=(aBY e c b a).ev
abbrev Mr{a b c d:Type}(r:a×b×c×d):=((((),(),(),r.1,()),()),r.2.1,r.2.2.1,r.2.2.2,())
def NH:FP prog:=aH cx func31 [Ar] (yj [.agg oL]) [] [] (rX aBY) ⟨[.ren 512 4,.ren 9 5,.ren 2176 6],[.cell 2 29],(yj [.agg (yj [.arr 4,.arr 5,.arr 6,.dat yi])]),[(4,.arr 3 yi),(5,.rows 24 3 yi),(6,.arr 3 yi)],[],[]⟩ Mr (E6 [(1,[(4,[1000000])])]) [(0,aPp)]
def Ro(k:Y1×Int)(v:Int):Tr (Int⊕Int):=.t (v<(length k.1:Int)) (.g (aC v (length k.1))<|.t ((getD k.1 (toNat v) 0)<k.2) (.l (.inl (wrap .i64 (v+1)))) (.l (.inr v))) (.l (.inr v))
def aBx k v:=aB (λv=>(Ro k v).ev) v
def aTQ:LD:=yl (Ro) Lr [(0,Lr)] aE uK mZ D1 (λk r=>yx 0 Lr ((k.1,k.2,r,()),()))
noncomputable abbrev AC(p1:Int)(p2:Y1)(p3:Int):=(.g ((0<=p1)&&(p1<=(length p2:Int)))<|.g ((length ([]:Y1)+length (List.drop 0 (List.take (toNat p1) p2)))*8<=140737488355328)<|.g ((length (([]:Y1)++(List.drop 0 (List.take (toNat p1) p2)))+length ([p3]:Y1))*8<=140737488355328)<|.g ((0<=p1)&&(p1<=(length p2:Int)))<|.g ((length ((([]:Y1)++(List.drop 0 (List.take (toNat p1) p2)))++([p3]:Y1))+length (List.drop (toNat p1) (List.take (length p2) p2)))*8<=140737488355328)<|.l (((([]:Y1)++(List.drop 0 (List.take (toNat p1) p2)))++([p3]:Y1))++(List.drop (toNat p1) (List.take (length p2) p2))):Tr Y1)
def aGx(a:Y1)(e:Int):Tr Y1:=.c _ (aBx (a,e) 0) λb=>.t (b<(length a:Int)) (.g (aC b (length a))<|.t ((getD a (toNat b) 0)==e) (.f) (AC b a e)) (AC b a e)
def Ae b a:=(aGx b a).ev
def WW:FP prog:=aH cx func218 [] (yj [.dat y1,.dat yi]) [] [] (dG aGx) ⟨[.ren 33 0],[.tmp 4],C7,[tP],[],[]⟩ kQ (E6 [(5,[(1,[140000000])])]) [(0,aTQ)]
def Vi(k:Y1×Int)(v:Int×Y1):Tr (gR⊕Y1):=.t (v.1<(length k.1:Int)) (.g (aC v.1 (length k.1))<|.t ((getD k.1 (toNat v.1) 0) !=k.2) (.g (aC v.1 (length k.1))<|.g ((length v.2+length ([(getD k.1 (toNat v.1) 0)]:Y1))*8<=140737488355328)<|.l (.inl ((wrap .i64 (v.1+1)),(v.2++([(getD k.1 (toNat v.1) 0)]:Y1))))) (.l (.inl ((wrap .i64 (v.1+1)),v.2)))) (.l (.inr v.2))
def ZH k v:=aB (λv=>(Vi k v).ev) v
def aQF:LD:=yl (Vi) (yk [] [0,1,5,6] (yj [.dat y1,.dat yi,.arr 7,.dat yi]) [(7,.arr 3 yi)]) [(0,J7)] aE SP mZ u7 (λ_ r=>yx 0 J7 (((),()),r,()))
def YJ(e:Y1)(a:Int):Tr Y1:=.c _ (ZH (e,a) (0,[])) λb=>.l b
def Zf b a:=(YJ b a).ev
def aHP:FP prog:=aH cx func219 [] (yj [.dat y1,.dat yi]) [] [] (dG YJ) IA kQ bU [(0,aQF)]
def aFK(b:Y1)(a:Int):Tr Y1:=.g ((0<=a)&&(a<=(length b:Int)))<|.c _ (pO (List.drop 0 (List.take (toNat a) b))) λe=>.g (((0:Int)<=(wrap .i64 (a+1)))&&((wrap .i64 (a+1))<=(length b:Int)))<|.g ((length e+length (List.drop (toNat (wrap .i64 (a+1))) (List.take (length b) b)))*8<=140737488355328)<|.l (e++(List.drop (toNat (wrap .i64 (a+1))) (List.take (length b) b)))
def MQ b a:=(aFK b a).ev
def aNV:FP prog:=aH cx func277 [Ar] (yj [.dat y1,.dat yi]) [] [] (dG aFK) ⟨[.ren 512 0],[.tmp 4],C7,[tP],[],[]⟩ kQ
def HA(k:Int×Y1×Y2×Y1×Int×Int×Int×Y1×Y1)(v:Int×Y2):Tr (E4⊕Y2):=.t (v.1<(length k.2.2.1:Int)) (.g (aC v.1 (length k.2.2.1))<|.c _ (MQ (getD k.2.2.1 (toNat v.1) []) k.1) λa=>.g (aC v.1 (length v.2))<|.g ((toNat v.1)<length v.2)<|.l (.inl ((wrap .i64 (v.1+1)),(set v.2 (toNat v.1) a)))) (.l (.inr v.2))
def aKQ k v:=aB (λv=>(HA k v).ev) v
abbrev TR:Keep:=yk [] [1,4,5] (yj [.dat yi,.box 4 0,.box 5 0]) [IZ,(5,.cells (yj [.arr 896,.arr 581,.arr 582,.dat yi])),(896,.arr 3 yi),(581,.rows 24 3 yi),(582,.arr 3 yi)]
def aRx:LD:=yl (HA) (yk [] [1,2,4,5,6] (yj [.dat yi,.box 2 0,.box 4 0,.box 5 0,.dat yi]) [(2,.cells oL),IZ,(5,.cells (yj [.arr 896,.arr 581,.arr 582,.dat yi])),(896,.arr 3 yi),(581,.rows 24 3 yi),(582,.arr 3 yi)]) [(0,TR)] aE (λk v=>((k.1,(),(),(),v.1,()),(k.2.1,k.2.2.1,k.2.2.2.1,k.2.2.2.2.1,()),((),(),(),k.2.2.2.2.2.1,()),((),(),(),k.2.2.2.2.2.2.1,()),k.2.2.2.2.2.2.2.1,v.2,k.2.2.2.2.2.2.2.2,())) (λt=>(t.1.1,t.2.1.1,t.2.1.2.1,t.2.1.2.2.1,t.2.1.2.2.2.1,t.2.2.1.2.2.2.1,t.2.2.2.1.2.2.2.1,t.2.2.2.2.1,t.2.2.2.2.2.2.1)) (λt=>(t.1.2.2.2.2.1,t.2.2.2.2.2.1)) (λk r=>yx 0 TR ((k.1,(),(),()),((),(),(),k.2.2.2.2.2.1,()),((),(),(),k.2.2.2.2.2.2.1,()),k.2.2.2.2.2.2.2.1,r,k.2.2.2.2.2.2.2.2,()))
def Qj(k:Int×Int×E3)(v:Int×Y1):Tr (gR⊕Y1):=.t (v.1<(length v.2:Int)) (.g (aC v.1 (length v.2))<|.g ((toNat v.1)<length v.2)<|.t (k.1<(getD v.2 (toNat v.1) 0)) (.g (aC v.1 (length v.2))<|.g ((toNat v.1)<length v.2)<|.g (aC v.1 (length v.2))<|.g ((toNat v.1)<length v.2)<|.l (.inl ((wrap .i64 (v.1+1)),(set v.2 (toNat v.1) (wrap .i64 ((getD v.2 (toNat v.1) 0) -1)))))) (.l (.inl ((wrap .i64 (v.1+1)),v.2)))) (.l (.inr v.2))
def aKs k v:=aB (λv=>(Qj k v).ev) v
abbrev SH:Keep:=yk [] [4,5] (yj [.box 4 0,.box 5 0]) [IZ,(5,.cells (yj [.arr 896,.arr 581,.arr 582,.dat yi])),(896,.arr 3 yi),(581,.rows 24 3 yi),(582,.arr 3 yi)]
def aPn:LD:=yl (Qj) (yk [] [1,4,5,7] (yj [.dat yi,.box 4 0,.box 5 0,.dat yi]) [IZ,(5,.cells (yj [.arr 896,.arr 581,.arr 582,.dat yi])),(896,.arr 3 yi),(581,.rows 24 3 yi),(582,.arr 3 yi)]) [(2,SH)] aE (λk v=>((k.1,(),(),v.1,()),((),(),(),k.2.1,()),((),(),(),k.2.2.1,()),k.2.2.2.1,k.2.2.2.2,v.2,())) (λt=>(t.1.1,t.2.1.2.2.2.1,t.2.2.1.2.2.2.1,t.2.2.2.1,t.2.2.2.2.1)) (λt=>(t.1.2.2.2.1,t.2.2.2.2.2.1)) (λk r=>yx 2 SH (((),(),()),((),(),(),k.2.1,()),((),(),(),k.2.2.1,()),k.2.2.2.1,k.2.2.2.2,r,()))
def aGk(f:Y1)(h:List Y1)(j:Y1)(i e:Int):Tr (Int×Oc):=.c _ (G9 f h j i) λa=>.c _ (MQ f e) λb=>.c _ (aKQ (e,f,h,j,i,0,a.1,b,a.2.2.2) (0,a.2.2.1)) λg=>.c _ (aKs (e,0,a.1,b,g) (0,a.2.2.2)) λm=>.l (a.1,b,g,m)
def XM f b e a c:=(aGk f b e a c).ev
def aQK:FP prog:=aH cx func220 [NH,aNV] (yj [.agg oL,.dat yi]) [] [] (O2 aGk) ⟨[.ren 896 1,.ren 581 2,.ren 582 3],[.cell 4 29],(yj [.agg (yj [.arr 1,.arr 2,.arr 3,.dat yi])]),[(1,.arr 3 yi),(2,.rows 24 3 yi),(3,.arr 3 yi)],[],[]⟩ Mr bU [(0,aRx),(2,aPn)]
def XK(e:Y1)(a:List Y1)(b:Y1):Tr Bool:=.c _ (vM e a) λg=>.t g (.c _ (MH e a b) λf=>.t f (.l ((0:Int)<(length b:Int))) (.l false)) (.l false)
def Ks c b a:=(XK c b a).ev
def IC:FP prog:=aH cx func261 [G2,aHg] (yj [.agg Zv,.dat y1]) [] [] (bF XK) dC bN
def Ot(k:Y1×Int×Nat×Y1×Y2×Y2×Y2)(v:Int×Y2):Tr (E4⊕Y2):=.t (v.1<(length k.2.2.2.1:Int)) (.c _ (Av k.1 v.1) λb=>.t (!b) (.c _ (Ae (getD k.2.2.2.2.2.2 k.2.2.1 []) v.1) λa=>.g ((length v.2+1)*24<=140737488355328)<|.l (.inl ((wrap .i64 (v.1+1)),(set (v.2++ [[]]) (length v.2) a)))) (.l (.inl ((wrap .i64 (v.1+1)),v.2)))) (.l (.inr v.2))
def aLz k v:=aB (λv=>(Ot k v).ev) v
abbrev Fc:Keep:=yk [] [1,2,5,6,7,8] (yj [.dat y1,.box 2 0,.arr 11,.arr 12,.arr 13,.dat yi]) [zO,(11,.rows 24 3 yi),(12,.rows 24 3 yi),(13,.rows 24 3 yi)]
abbrev UY{a b c d e g h i j l m n o p:Type}(t:(a×b×c×d×e×g×h×i×j)×l×m×n×o×p):=(t.1.2.2.2.2.2.2.2.1,t.2.2.2.2.1)
def aMO:LD:=yl (Ot) (yk [] [1,2,5,6,7,8,9,10] (yj [.dat y1,.box 2 0,.arr 11,.arr 12,.arr 13,.dat yi,.row 12,.dat yi]) [zO,(11,.rows 24 3 yi),(12,.rows 24 3 yi),(13,.rows 24 3 yi)]) [(2,Fc)] aE (λk v=>((k.1,(),(),(),(),k.2.1,k.2.2.1,v.1,()),(k.2.2.2.1,k.2.2.2.2.1,()),k.2.2.2.2.2.1,k.2.2.2.2.2.2,v.2,())) (λt=>(t.1.1,t.1.2.2.2.2.2.1,t.1.2.2.2.2.2.2.1,t.2.1.1,t.2.1.2.1,t.2.2.1,t.2.2.2.1)) UY (λk r=>yx 2 Fc ((k.1,(),(),(),(),k.2.1,()),(k.2.2.2.1,k.2.2.2.2.1,()),k.2.2.2.2.2.1,k.2.2.2.2.2.2,r,()))
def Rf(k:Y1×Int×Y1×Y2×Y2×Y2×Y1)(v:Int×Y2):Tr (E4⊕Y2):=.t (v.1<(length k.2.2.1:Int)) (.c _ (Av k.1 v.1) λb=>.t (!b) (.c _ (Ae k.2.2.2.2.2.2 v.1) λa=>.g ((length v.2+1)*24<=140737488355328)<|.l (.inl ((wrap .i64 (v.1+1)),(set (v.2++ [[]]) (length v.2) a)))) (.l (.inl ((wrap .i64 (v.1+1)),v.2)))) (.l (.inr v.2))
def aIJ k v:=aB (λv=>(Rf k v).ev) v
def aRw:LD:=yl (Rf) (yk [] [1,2,5,6,7,8,9,10] (yj [.dat y1,.box 2 0,.arr 11,.arr 12,.arr 13,.dat yi,.arr 2112,.dat yi]) [zO,(11,.rows 24 3 yi),(12,.rows 24 3 yi),(13,.rows 24 3 yi),Nt]) [(2,Fc)] aE (λk v=>((k.1,(),(),(),(),k.2.1,(),v.1,()),(k.2.2.1,k.2.2.2.1,()),k.2.2.2.2.1,k.2.2.2.2.2.1,v.2,k.2.2.2.2.2.2,())) (λt=>(t.1.1,t.1.2.2.2.2.2.1,t.2.1.1,t.2.1.2.1,t.2.2.1,t.2.2.2.1,t.2.2.2.2.2.1)) UY (λk r=>yx 2 Fc ((k.1,(),(),(),(),k.2.1,()),(k.2.2.1,k.2.2.2.1,()),k.2.2.2.2.1,k.2.2.2.2.2.1,r,()))
def Kd(k:Y1×Y1×Y2)(v:Int×Y2×Y2×Y2):Tr ((Int×Y2×Y2×Y2)⊕(Y2×Y2×Y2)):=.t (v.1<(length k.2.1:Int)) (.c _ (Av k.1 v.1) λb=>.t (!b) (.c _ (Ae k.1 v.1) λe=>.g ((length v.2.1+1)*24<=140737488355328)<|.l (.inl ((wrap .i64 (v.1+1)),(set (v.2.1++ [[]]) (length v.2.1) e),v.2.2.1,v.2.2.2))) (.c _ (Zf k.1 v.1) λa=>.t ((0:Int)<(length a:Int)) (.g ((length v.2.2.1+1)*24<=140737488355328)<|.c _ (aLz (k.1,v.1,(length v.2.2.1),k.2.1,k.2.2,v.2.1,(set (v.2.2.1++ [[]]) (length v.2.2.1) a)) (0,v.2.2.2)) λh=>.l (.inl ((wrap .i64 (v.1+1)),v.2.1,(set (v.2.2.1++ [[]]) (length v.2.2.1) a),h))) (.c _ (aIJ (k.1,v.1,k.2.1,k.2.2,v.2.1,v.2.2.1,a) (0,v.2.2.2)) λf=>.l (.inl ((wrap .i64 (v.1+1)),v.2.1,v.2.2.1,f))))) (.l (.inr (v.2.1,v.2.2.1,v.2.2.2)))
def aKx k v:=aB (λv=>(Kd k v).ev) v
abbrev WN:Keep:=yk [] [5,6,7] (yj [.arr 11,.arr 12,.arr 13]) [(11,.rows 24 3 yi),(12,.rows 24 3 yi),(13,.rows 24 3 yi)]
abbrev l7{a b c d e g:Type}(t:(a×b)×(c×d×e)×g):=(t.1.1,t.2.1.1,t.2.1.2.1)
def aOd:LD:=yl (Kd) Fc [(0,WN)] aE (λk v=>((k.1,(),(),(),(),v.1,()),(k.2.1,k.2.2,()),v.2.1,v.2.2.1,v.2.2.2,())) l7 (λt=>(t.1.2.2.2.2.2.1,t.2.2.1,t.2.2.2.1,t.2.2.2.2.1)) (λ_ r=>yx 0 WN (((),(),(),()),r.1,r.2.1,r.2.2,()))
def YV(f:Y1)(e:List Y1)(b:Y1):Tr Y2:=.c _ (aKx (b,f,e) (0,[],[],[])) λa=>.g ((length a.1+length a.2.1)*24<=140737488355328)<|.g ((length (a.1++a.2.1)+length a.2.2)*24<=140737488355328)<|.l ((a.1++a.2.1)++a.2.2)
def aEg c b a:=(YV c b a).ev
def aQu:FP prog:=aH cx func312 [aDt,WW,aHP] (yj [.agg Zv,.dat y1]) [] [] (bF YV) ⟨[.ren 13 0],[.tmp 4],C7,[(0,.rows 24 3 yi)],[],[]⟩ kQ (E6 [(1,[(0,[1000000]),(1,[1000000]),(2,[1000000])])]) [(2,aMO),(2,aRw),(0,aOd)]
def Ph(k:Int×Y1×Y1×Y2)(v:Int×Int):Tr (jI⊕Int):=.t (v.2<(length k.2.1:Int)) (.g (aC k.1 (length k.2.2.2))<|.g (aC v.2 (length k.2.1))<|.g (aC (getD k.2.1 (toNat v.2) 0) (length (getD k.2.2.2 (toNat k.1) [])))<|.g (aC k.1 (length k.2.2.2))<|.g (aC v.1 (length (getD k.2.2.2 (toNat k.1) [])))<|.t ((getD (getD k.2.2.2 (toNat k.1) []) (toNat (getD k.2.1 (toNat v.2) 0)) 0)<(getD (getD k.2.2.2 (toNat k.1) []) (toNat v.1) 0)) (.g (aC v.2 (length k.2.1))<|.l (.inl ((getD k.2.1 (toNat v.2) 0),(wrap .i64 (v.2+1))))) (.l (.inl (v.1,(wrap .i64 (v.2+1)))))) (.l (.inr v.1))
def LI k v:=aB (λv=>(Ph k v).ev) v
abbrev rY:Keep:=yh [7] fK
abbrev RN{a b c d e g:Type}(k:a×b×c×d)(v:e×g):=((k.1,k.2.1,(),v.1,v.2,()),(k.2.2.1,k.2.2.2,()),())
abbrev AN{a b c d e g h:Type}(t:(a×b×c)×(d×e×g)×h):=(t.1.1,t.1.2.1,t.2.1.1,t.2.1.2.1)
abbrev A1{a b c d e g h:Type}(t:(a×b×c×d×e×g)×h):=(t.1.2.2.2.1,t.1.2.2.2.2.1)
def aSv:LD:=yl (Ph) (yk [] [1,2,3,7,8] (yj [.dat yi,.dat y1,.box 3 0,.dat yi,.dat yi]) [(3,.cells Zv)]) [(0,rY)] aE RN AN A1 (λ_ r=>yx 0 rY ((r,()),()))
def YQ(h:Y1)(e:List Y1)(f:Int)(a:Y1):Tr Int:=.g (aC 0 (length a))<|.c _ (LI (f,a,h,e) ((getD a (toNat 0) 0),1)) λb=>.l b
def JV e c b a:=(YQ e c b a).ev
abbrev vO{a b c d e g h:Type}{z:Type _}(f:a->b->d->e->z)(x:((a×b×c)×d×e×g)×h):z:=f x.1.1.1 x.1.1.2.1 x.1.2.1 x.1.2.2.1
abbrev j9:RetK:=yr [.tmp 6] fK
def aLm:FP prog:=aH cx func264 [] (yj [.agg Zv,.dat yi,.dat y1]) [] [] (vO YQ) j9 bN bU [(0,aSv)]
def ZB(h:Y1)(a:List Y1)(b:Int)(f:Y1):Tr Int:=.g (aC b (length a))<|.c _ (JV h a b f) λe=>.g (aC e (length (getD a (toNat b) [])))<|.l (getD (getD a (toNat b) []) (toNat e) 0)
def JY e c b a:=(ZB e c b a).ev
def aHb:FP prog:=aH cx func307 [aLm] (yj [.agg Zv,.dat yi,.dat y1]) [] [] (vO ZB) j9 bN
def EO(k:Y1×Y1×Y2)(v:Int×Int):Tr (jI⊕Int):=.t (v.2<(length k.2.2:Int)) (.c _ (JY k.2.1 k.2.2 v.2 k.1) λa=>.l (.inl ((wrap .i64 (v.1+a)),(wrap .i64 (v.2+1))))) (.l (.inr v.1))
def aKL k v:=aB (λv=>(EO k v).ev) v
abbrev Wa:Keep:=yk [] [1,2,5,6] (yj [.dat y1,.box 2 0,.dat yi,.dat yi]) [zO]
abbrev oK:Keep:=yh [5] fK
abbrev Fu{a b c d e:Type}(k:a×b×c)(v:d×e):=((k.1,(),v.1,v.2,()),(k.2.1,k.2.2,()),())
abbrev uT{a b c d e g:Type}(t:(a×b×c×d×e)×g):=(t.1.2.2.1,t.1.2.2.2.1)
def aPb:LD:=yl (EO) Wa [(0,oK)] aE Fu l7 uT (λ_ r=>yx 0 oK ((r,()),()))
def aAc(f:Y1)(e:List Y1)(a:Y1):Tr Int:=.c _ (aKL (a,f,e) (0,0)) λb=>.l b
def Uq c b a:=(aAc c b a).ev
def aCx:FP prog:=aH cx func262 [aHb] (yj [.agg Zv,.dat y1]) [] [] (bF aAc) lJ bN bU [(0,aPb)]
def Wr(k:Y1×Y1×Y2)(v:Int×Int):Tr (jI⊕Int):=.t (v.2<(length k.1:Int)) (.g (aC v.2 (length k.1))<|.g (aC (getD k.1 (toNat v.2) 0) (length k.2.1))<|.l (.inl ((wrap .i64 (v.1+(getD k.2.1 (toNat (getD k.1 (toNat v.2) 0)) 0))),(wrap .i64 (v.2+1))))) (.l (.inr v.1))
def aGE k v:=aB (λv=>(Wr k v).ev) v
def aOl:LD:=yl (Wr) Wa [(0,oK)] aE Fu l7 uT (λ_ r=>yx 0 oK ((r,()),()))
def aCS(f:Y1)(e:List Y1)(a:Y1):Tr Int:=.c _ (aGE (a,f,e) (0,0)) λb=>.l b
def aDP c b a:=(aCS c b a).ev
def aOt:FP prog:=aH cx func305 [] (yj [.agg Zv,.dat y1]) [] [] (bF aCS) lJ bN bU [(0,aOl)]
def aFz(e:Y1)(a:List Y1)(b:Y1):Tr Int:=.c _ (Uq e a b) λg=>.c _ (aDP e a b) λf=>.l (wrap .i64 (g+f))
def Q8 c b a:=(aFz c b a).ev
def aDD:FP prog:=aH cx func258 [aCx,aOt] (yj [.agg Zv,.dat y1]) [] [] (bF aFz) lJ bN
def Ra(k:Y1×Y1×Y2×Y2)(v:Int):Tr (Int⊕(Unit⊕Nat)):=.t (v<(length k.2.2.2:Int)) (.g (aC v (length k.2.2.2))<|.g ((toNat v)<length k.2.2.2)<|.c _ (Q8 k.2.1 k.2.2.1 (getD k.2.2.2 (toNat v) [])) λa=>.c _ (Q8 k.2.1 k.2.2.1 k.1) λb=>.t (a<b) (.g (aC v (length k.2.2.2))<|.g ((toNat v)<length k.2.2.2)<|.l (.inr (.inr (toNat v)))) (.l (.inl (wrap .i64 (v+1))))) (.l (.inr (.inl ())))
def aGD k v:=aB (λv=>(Ra k v).ev) v
abbrev RC:Keep:=yk [] [4,5] (yj [.row 640,.dat .bool]) [(640,.rows 24 3 yi)]
def aOD:LD:=yl (Ra) (yk [] [1,2,6,7] (yj [.dat y1,.box 2 0,.arr 640,.dat yi]) [zO,(640,.rows 24 3 yi)]) [(0,aE)] RC (λk v=>((k.1,(),(),v,()),(k.2.1,k.2.2.1,()),k.2.2.2,())) (λt=>(t.1.1,t.2.1.1,t.2.1.2.1,t.2.2.1)) rQ (λk r=>.s _ _ r (λ_=>yx 0 aE ((),())) (λb=>yz RC ((b,true,()),k.2.2.2,())))
def aDX(f:Y1)(a:List Y1)(b:Y1):Tr D9:=.c _ (aEg f a b) λe=>.c _ (aGD (b,f,a,e) 0) λg=>.s _ _ g (λ_=>.l (false,[])) (λh=>.l (true,(getD e h [])))
def IL c b a:=(aDX c b a).ev
abbrev gN{a b:Type}(r:a×b):=(((),r.1,()),r.2,())
def aKo:FP prog:=aH cx func270 [aQu,aDD] (yj [.agg Zv,.dat y1]) [] [] (bF aDX) ⟨[.pull 4 800000,.ren 31 0,.ren 800000 0],[.tmp 4,.tmp 5],Dq,[tP],[],[]⟩ gN bU [(0,aOD)]
def Xi(k:Y1×Y2)(v:Int×Bool×Y1×Y1):Tr ((Int×Bool×Y1×Y1)⊕gR):=.t v.2.1 (.c _ (IL k.1 k.2 v.2.2.2) λa=>.l (.inl ((wrap .i64 (v.1+1)),a.1,v.2.2.2,a.2))) (.l (.inr (v.1,v.2.2.1)))
def HW k v:=aB (λv=>(Xi k v).ev) v
abbrev UT:Keep:=yk [] [7,8] (yj [.arr 900707,.dat yi]) [(900707,.arr 3 yi)]
def aNS:LD:=yl (Xi) (yk [.drop 900707,.pin 7 900707,.pin 9 900709] [2,7,8,9,10] (yj [.box 2 0,.arr 900707,.dat yi,.arr 900709,.dat .bool]) [zO,(900707,.arr 3 yi),(900709,.arr 3 yi)]) [(0,UT)] aE (λk v=>(((),(),v.1,(),v.2.1,()),(k.1,k.2,()),v.2.2.1,v.2.2.2,())) E8 (λt=>(t.1.2.2.1,t.1.2.2.2.2.1,t.2.2.1,t.2.2.2.1)) (λ_ r=>yx 0 UT (((),r.1,()),r.2,()))
def aAr(b:Y1)(a:List Y1)(h:Y1):Tr (Int×D9):=.c _ (Ks b a h) λi=>.t (!i) (.l (0,false,[])) (.c _ (pO h) λe=>.c _ (IL b a e) λf=>.c _ (HW (b,a) (0,f.1,e,f.2)) λg=>.l (g.1,true,g.2))
def aBr c b a:=(aAr c b a).ev
abbrev UQ{a b c:Type}(r:a×b×c):=(((),r.1,r.2.1,()),r.2.2,())
def aOV:FP prog:=aH cx func221 [IC,Ar,aKo] (yj [.agg Zv,.dat y1]) [] [] (bF aAr) ⟨[.ren 15 0,.ren 900707 0],[.tmp 4,.tmp 5,.tmp 6],(yj [.arr 0,.dat yi,.dat .bool]),[tP],[],[]⟩ UQ bU [(0,aNS)]
def aLg(k:Y1×Y1)(v:Int):Tr (Int⊕(Unit⊕Bool)):=.t (v<(length k.1:Int)) (.g (aC v (length k.1))<|.g (aC v (length k.2))<|.t ((getD k.1 (toNat v) 0) != (getD k.2 (toNat v) 0)) (.g (aC v (length k.1))<|.g (aC v (length k.2))<|.l (.inr (.inr ((getD k.1 (toNat v) 0)<(getD k.2 (toNat v) 0))))) (.l (.inl (wrap .i64 (v+1))))) (.l (.inr (.inl ())))
def aQG k v:=aB (λv=>(aLg k v).ev) v
abbrev FG:Keep:=yh [0,1,5] (yj [.dat y1,.dat y1,.dat yi])
def aRk:LD:=yl (aLg) FG [(0,aE)] gI uK mZ D1 (λ_ r=>.s _ _ r (λ_=>yx 0 aE ((),())) (λb=>yz gI ((b,()),())))
def aHw(a b:Y1):Tr Bool:=.t ((length a:Int) != (length b:Int)) (.l ((length a:Int)<(length b:Int))) (.c _ (aQG (a,b) 0) λf=>.s _ _ f (λ_=>.l false) (λe=>.l e))
def aMz b a:=(aHw b a).ev
def aQz:FP prog:=aH cx func313 [] (yj [.dat y1,.dat y1]) [] [] (dG aHw) dC bN bU [(0,aRk)]
def aHu(k:Int×Y2×gR)(v:Int):Tr (Int⊕Int):=.t (0<v) (.g (aC (wrap .i64 (v-1)) (length k.2.1))<|.c _ (aMz k.2.2.2 (getD k.2.1 (toNat (wrap .i64 (v-1))) [])) λa=>.t a (.l (.inl (wrap .i64 (v-1)))) (.l (.inr v))) (.l (.inr v))
def aTK k v:=aB (λv=>(aHu k v).ev) v
abbrev Xf:Keep:=yk [] [0,3,4,5,6] (yj [.dat yi,.dat y2,.dat yi,.arr 1024,.dat yi]) [(1024,.arr 3 yi)]
def aSi:LD:=yl (aHu) Xf [(2,Xf)] aE (λk v=>((k.1,k.2.1,k.2.2.1,(),v,()),k.2.2.2,())) (λt=>(t.1.1,t.1.2.1,t.1.2.2.1,t.2.1)) b8 (λk r=>yx 2 Xf ((k.1,k.2.1,k.2.2.1,(),r,()),k.2.2.2,()))
def aKj(k:Int)(v:Y2×Int):Tr ((Y2×Int)⊕Y2):=.g (0<=k)<|.t (v.2<(wrap .i64 ((1:Int)*2^(min (toNat k) (IntKind.bits .i64))))) (.c _ (Z7 k v.2) λb=>.c _ (aTK (k,v.1,v.2,b) (length v.1:Int)) λa=>.g ((0<=a)&&(a<=(length v.1:Int)))<|.g ((length ([]:List Y1)+length (List.drop 0 (List.take (toNat a) v.1)))*24<=140737488355328)<|.g ((length (([]:List Y1)++(List.drop 0 (List.take (toNat a) v.1)))+length ([b]:List Y1))*24<=140737488355328)<|.g ((0<=a)&&(a<=(length v.1:Int)))<|.g ((length ((([]:List Y1)++(List.drop 0 (List.take (toNat a) v.1)))++([b]:List Y1))+length (List.drop (toNat a) (List.take (length v.1) v.1)))*24<=140737488355328)<|.l (.inl ((((([]:List Y1)++(List.drop 0 (List.take (toNat a) v.1)))++([b]:List Y1))++(List.drop (toNat a) (List.take (length v.1) v.1))),(wrap .i64 (v.2+1))))) (.l (.inr v.1))
def aMI k v:=aB (λv=>(aKj k v).ev) v
abbrev UL:Keep:=yh [3] (yj [.dat y2])
abbrev r9{a b c:Type}(k:a)(v:b×c):=((k,v.1,v.2,()),())
abbrev oG{a b c:Type}(t:(a×b)×c):=t.1.1
abbrev iV{a b c d e:Type}(t:(a×b×c×d)×e):=(t.1.2.1,t.1.2.2.1)
def aTb:LD:=yl (aKj) (yk [.fz 7,.fz 32] [0,3,4] (yj [.dat yi,.dat y2,.dat yi]) []) [(0,UL)] aE r9 oG iV (λ_ r=>yx 0 UL ((r,()),()))
def aJg(b:Int):Tr Y2:=.c _ (aMI b ([],1)) λa=>.l a
def Zg a:=(aJg a).ev
def XR:FP prog:=aH cx func272 [YZ,aQz] fK [] [] (oM aJg) (yr [.tmp 2] (yj [.dat y2])) bN (E6 [(8,[(0,[3,5])])]) [(2,aSi),(0,aTb)]
def DH(k:Y2×Y1×Y2)(v:Y1×Int):Tr ((Y1×Int)⊕Y1):=.t (v.2<(length k.1:Int)) (.g (aC v.2 (length k.1))<|.c _ (Q8 k.2.1 k.2.2 (getD k.1 (toNat v.2) [])) λa=>.c _ (Q8 k.2.1 k.2.2 v.1) λb=>.t (a<b) (.g (aC v.2 (length k.1))<|.l (.inl ((getD k.1 (toNat v.2) []),(wrap .i64 (v.2+1))))) (.l (.inl (v.1,(wrap .i64 (v.2+1)))))) (.l (.inr v.1))
def aIU k v:=aB (λv=>(DH k v).ev) v
abbrev RY:Keep:=yh [4] Di
def aRB:LD:=yl (DH) (yk [] [1,3,4,5] (yj [.box 1 0,.dat y2,.dat y1,.dat yi]) [jY]) [(0,RY)] aE (λk v=>(((),k.1,v.1,v.2,()),(k.2.1,k.2.2,()),())) aAI uT (λ_ r=>yx 0 RY ((r,()),()))
def aBO(b:Y1)(e:List Y1):Tr Y1:=.c _ (Zg (length b:Int)) λa=>.g (aC 0 (length a))<|.c _ (aIU (a,b,e) ((getD a (toNat 0) []),1)) λf=>.l f
def ZR b a:=(aBO b a).ev
abbrev TQ:RetK:=yr [.tmp 2] Di
def aNB:FP prog:=aH cx func222 [XR,aDD] (yj [.agg Zv]) [] [] (jZ aBO) TQ bN bU [(0,aRB)]
def BR(k:Int×Int×Int×Int×Y1×Int×Int×Y1×Ll)(v:Int×Y2):Tr (E4⊕Y2):=.t (v.1<(length k.2.2.2.2.1:Int)) (.g (aC v.1 (length v.2))<|.g ((toNat v.1)<length v.2)<|.g (aC v.1 (length k.2.2.2.2.1))<|.g ((length (getD v.2 (toNat v.1) [])+length ([(getD k.2.2.2.2.1 (toNat v.1) 0)]:Y1))*8<=140737488355328)<|.g (aC v.1 (length v.2))<|.g (((toNat v.1)<length v.2)&&((toNat v.1)=(toNat v.1)))<|.l (.inl ((wrap .i64 (v.1+1)),(set v.2 (toNat v.1) ((getD v.2 (toNat v.1) [])++([(getD k.2.2.2.2.1 (toNat v.1) 0)]:Y1)))))) (.l (.inr v.2))
def aFq k v:=aB (λv=>(BR k v).ev) v
abbrev VJ:Keep:=yk [] [4,5] (yj [.box 4 0,.box 5 0]) [Zdk,(5,.cells (yj [.arr 708,.arr 709,.arr 710,.dat yi])),(901340,.arr 3 yi),(901342,.arr 3 yi),(708,.arr 3 yi),(709,.rows 24 3 yi),(710,.arr 3 yi)]
def aRo:LD:=yl (BR) (yk [.ownB 4 0 901340 3 yi,.ownB 4 2 901342 3 yi] [3,4,5,6] (yj [.box 3 0,.box 4 0,.box 5 0,.dat yi]) [(3,.cells UK),Zdk,(5,.cells (yj [.arr 708,.arr 709,.arr 710,.dat yi])),(901340,.arr 3 yi),(901342,.arr 3 yi),(708,.arr 3 yi),(709,.rows 24 3 yi),(710,.arr 3 yi)]) [(1,VJ)] aE (λk v=>(((),(),(),v.1,()),(k.1,k.2.1,k.2.2.1,k.2.2.2.1,k.2.2.2.2.1,()),((),(),(),k.2.2.2.2.2.1,()),((),(),(),k.2.2.2.2.2.2.1,()),k.2.2.2.2.2.2.2.1,k.2.2.2.2.2.2.2.2.1,k.2.2.2.2.2.2.2.2.2.1,v.2,k.2.2.2.2.2.2.2.2.2.2,())) (λt=>(t.2.1.1,t.2.1.2.1,t.2.1.2.2.1,t.2.1.2.2.2.1,t.2.1.2.2.2.2.1,t.2.2.1.2.2.2.1,t.2.2.2.1.2.2.2.1,t.2.2.2.2.1,t.2.2.2.2.2.1,t.2.2.2.2.2.2.1,t.2.2.2.2.2.2.2.2.1)) (λt=>(t.1.2.2.2.1,t.2.2.2.2.2.2.2.1)) (λk r=>yx 1 VJ (((),(),()),((),(),(),k.2.2.2.2.2.1,()),((),(),(),k.2.2.2.2.2.2.1,()),k.2.2.2.2.2.2.2.1,k.2.2.2.2.2.2.2.2.1,k.2.2.2.2.2.2.2.2.2.1,r,k.2.2.2.2.2.2.2.2.2.2,()))
def aDB(h:Y1)(i:List Y1)(m:Y1)(p e b f o:Int)(n:Y1):Tr (Int×Oc):=.c _ (G9 h i m p) λa=>.t (e==1) (.c _ (Ae a.2.2.2 b) λq=>.l (a.1,a.2.1,a.2.2.1,q)) (.t (e==2) (.c _ (Zf a.2.2.2 b) λs=>.l (a.1,a.2.1,a.2.2.1,s)) (.t (e==3) (.c _ (Zf a.2.2.2 b) λw=>.c _ (Ae w f) λy=>.l (a.1,a.2.1,a.2.2.1,y)) (.t (e==4) (.g (aC b (length a.2.1))<|.g ((toNat b)<length a.2.1)<|.l (a.1,(set a.2.1 (toNat b) f),a.2.2.1,a.2.2.2)) (.t (e==5) (.g (aC b (length a.2.2.1))<|.g ((toNat b)<length a.2.2.1)<|.g (aC f (length (getD a.2.2.1 (toNat b) [])))<|.g ((toNat f)<length (getD a.2.2.1 (toNat b) []))<|.l (a.1,a.2.1,(set a.2.2.1 (toNat b) (set (getD a.2.2.1 (toNat b) []) (toNat f) o)),a.2.2.2)) (.t (e==6) (.g ((length a.2.1+length ([b]:Y1))*8<=140737488355328)<|.c _ (aFq (e,b,f,o,n,0,a.1,[],[],(a.2.1++([b]:Y1)),a.2.2.2) (0,a.2.2.1)) λu=>.l (a.1,(a.2.1++([b]:Y1)),u,a.2.2.2)) (.t (e==7) (.c _ (pO n) λab=>.g ((length a.2.2.1+1)*24<=140737488355328)<|.l (a.1,a.2.1,(set (a.2.2.1++ [[]]) (length a.2.2.1) ab),a.2.2.2)) (.t (e==8) (.c _ (XM h i m p b) λj=>.l (j.1,j.2.1,j.2.2.1,j.2.2.2)) (.t (e==9) (.g ((0<=b)&&(b<=(length a.2.2.1:Int)))<|.g (((0:Int)<=(wrap .i64 (b+1)))&&((wrap .i64 (b+1))<=(length a.2.2.1:Int)))<|.g (((toNat b)<=(toNat (wrap .i64 (b+1))))&&(((toNat b)+(length a.2.2.1-(toNat (wrap .i64 (b+1)))))*24<=140737488355328))<|.l (a.1,a.2.1,(List.take (toNat b) a.2.2.1++List.drop (toNat (wrap .i64 (b+1))) a.2.2.1),a.2.2.2)) (.t (e==10) (.c _ (aBr h i m) λaa=>.l (a.1,a.2.1,a.2.2.1,aa.2.2)) (.t (e==11) (.c _ (ZR h i) λz=>.c _ (pO z) λr=>.l (a.1,a.2.1,a.2.2.1,r)) (.l (a.1,a.2.1,a.2.2.1,a.2.2.2))))))))))))
def aBA j c i b f h a g e:=(aDB j c i b f h a g e).ev
def aMQ:FP prog:=aH cx func141 [NH,WW,aHP,Ar,aQK,aOV,aNB] (yj [.agg oL,.agg UK]) [] [] (Fk aDB) ⟨[.pinB 4 0 1,.pinB 4 1 6,.pinB 4 2 7],[.cell 4 29],(yj [.agg (yj [.arr 1,.arr 6,.arr 7,.dat yi])]),[(1,.arr 3 yi),(6,.rows 24 3 yi),(7,.arr 3 yi)],[],[]⟩ Mr bU [(1,aRo)]
def aAx(n:Y1)(j:List Y1)(m:Y1)(b g i e h:Int)(f:Y1):Tr (Int×Bool×Oc):=.c _ (aAu g i e h f) λq=>.t (!q) (.l (0,false,[],[],[])) (.c _ (XD n j m b g i e h f) λo=>.t (!o) (.l (0,false,[],[],[])) (.c _ (aBA n j m b g i e h f) λa=>.c _ (Ke a.2.1 a.2.2.1 a.2.2.2 (wrap .i64 (b+1))) λp=>.t (!p) (.l (0,false,[],[],[])) (.l ((wrap .i64 (b+1)),true,a.2.1,a.2.2.1,a.2.2.2))))
def MB j c i b f h a g e:=(aAx j c i b f h a g e).ev
abbrev WL{a b c d e:Type}(r:a×b×c×d×e):=((((),(),(),r.1,()),r.2.1,()),r.2.2.1,r.2.2.2.1,r.2.2.2.2,())
def aLw:FP prog:=aH cx func89 [aSe,aNu,aMQ,Ws] (yj [.agg oL,.agg UK]) [] [] (Fk aAx) ⟨[.ownB 4 0 5 3 yi,.ownRB 4 1 7 24 3 yi,.ownB 4 2 8 3 yi,.ren 1217 5,.ren 1222 7,.ren 1223 8],[.cell 4 29,.tmp 5],(yj [.agg (yj [.arr 5,.arr 7,.arr 8,.dat yi]),.dat .bool]),[(5,.arr 3 yi),(7,.rows 24 3 yi),(8,.arr 3 yi)],[],[]⟩ WL
def Hr(_k:Int)(v:Int×Y1×Int×Int×Y1×Y2×gR):Tr ((Int×Y1×Int×Int×Y1×Y2×gR)⊕(Y1×Int×Int×Y1×Y2×gR)):=.t (0<v.1) (.c _ (Ke v.2.2.2.2.1 v.2.2.2.2.2.1 v.2.2.2.2.2.2.2 v.2.2.2.2.2.2.1) λe=>.t e (.c _ (aGZ v.2.2.2.2.1 v.2.2.2.2.2.1 v.2.1 v.2.2.1 v.2.2.2.1) λa=>.c _ (MB v.2.2.2.2.1 v.2.2.2.2.2.1 v.2.2.2.2.2.2.2 v.2.2.2.2.2.2.1 a.1 a.2.1 a.2.2.1 a.2.2.2.1 a.2.2.2.2.1) λb=>.t b.2.1 (.l (.inl ((wrap .i64 (v.1-1)),a.2.2.2.2.2.1,a.2.2.2.2.2.2.1,a.2.2.2.2.2.2.2,b.2.2.1,b.2.2.2.1,b.1,b.2.2.2.2))) (.l (.inl ((wrap .i64 (v.1-1)),a.2.2.2.2.2.1,a.2.2.2.2.2.2.1,a.2.2.2.2.2.2.2,v.2.2.2.2.1,v.2.2.2.2.2.1,v.2.2.2.2.2.2.1,v.2.2.2.2.2.2.2)))) (.l (.inr (v.2.1,v.2.2.1,v.2.2.2.1,v.2.2.2.2.1,v.2.2.2.2.2.1,v.2.2.2.2.2.2.1,v.2.2.2.2.2.2.2)))) (.l (.inr (v.2.1,v.2.2.1,v.2.2.2.1,v.2.2.2.2.1,v.2.2.2.2.2.1,v.2.2.2.2.2.2.1,v.2.2.2.2.2.2.2)))
def Hb k v:=aB (λv=>(Hr k v).ev) v
abbrev VK:Keep:=yk [] [0,2,4] (yj [.box 64 0,.box 2 0,.box 4 0]) [Zz,(2,.cells (yj [.nilsl,.nilsl,.nilsl,.dat yi])),(4,.cells (yj [.dat y1,.dat y2,.arr 900642,.dat yi])),(900642,.arr 3 yi)]
def aTH:LD:=yl (Hr) (yk [.fz 577,.fz 578,.fz 3013,.fz 3015,.repB 4 2 900642] [0,2,4,5] (yj [.box 64 0,.box 2 0,.box 4 0,.dat yi]) [Zz,(2,.cells (yj [.nilsl,.nilsl,.nilsl,.dat yi])),(4,.cells (yj [.dat y1,.dat y2,.arr 900642,.dat yi])),(900642,.arr 3 yi)]) [(0,VK)] aE (λk v=>(((),(),(),v.1,()),(v.2.1,v.2.2.1,v.2.2.2.1,()),((),(),(),k,()),(v.2.2.2.2.1,v.2.2.2.2.2.1,(),v.2.2.2.2.2.2.1,()),v.2.2.2.2.2.2.2,())) (λt=>t.2.2.1.2.2.2.1) (λt=>(t.1.2.2.2.1,t.2.1.1,t.2.1.2.1,t.2.1.2.2.1,t.2.2.2.1.1,t.2.2.2.1.2.1,t.2.2.2.1.2.2.2.1,t.2.2.2.2.1)) (λk r=>yx 0 VK (((),(),(),()),(r.1,r.2.1,r.2.2.1,()),((),(),(),k,()),(r.2.2.2.1,r.2.2.2.2.1,(),r.2.2.2.2.2.1,()),r.2.2.2.2.2.2,()))
noncomputable abbrev Hv(p1:Y1)(p2 p3:Int)(p4:Y1)(p5:List Y1)(p6:Y1):=(.c _ (eG 4 p1 p2 p3) λf=>.c _ (Hb 0 (f.1,f.2.1,f.2.2.1,f.2.2.2,p4,p5,0,p6)) λa=>.c _ (eG 48 a.1 a.2.1 a.2.2.1) λb=>.t (b.1==0) (.c _ (mH ([(-1),1000,1001]:Y1) b.2.1 b.2.2.1 b.2.2.2) λh=>.l (a.2.2.2.1,a.2.2.2.2.1,h.1,a.2.2.2.2.2.2,h.2.1,h.2.2.1,h.2.2.2)) (.t (b.1==1) (.c _ (mH ([0,(-1),7]:Y1) b.2.1 b.2.2.1 b.2.2.2) λe=>.g ((length a.2.2.2.2.2.2+length ([e.1]:Y1))*8<=140737488355328)<|.l (a.2.2.2.1,a.2.2.2.2.1,a.2.2.2.2.2.1,(a.2.2.2.2.2.2++([e.1]:Y1)),e.2.1,e.2.2.1,e.2.2.2)) (.l (a.2.2.2.1,a.2.2.2.2.1,a.2.2.2.2.2.1,a.2.2.2.2.2.2,b.2.1,b.2.2.1,b.2.2.2))):Tr (Y1×Y2×Int×Y1×b9))
def MF(l:Y1)(h j:Int):Tr (Y1×Y2×Int×Y1×b9):=.c _ (MJ 6 l h j) λa=>.c _ (vM a.1 a.2.1) λf=>.t f (.c _ (Pu 4 a.2.2.1 a.2.2.2.1 a.2.2.2.2) λb=>.t (!b.1) (.g ((0:Int)<=(length a.1:Int))<|.c _ (eG (wrap .i64 ((1:Int)*2^(min (toNat (length a.1:Int)) (IntKind.bits .i64)))) b.2.1 b.2.2.1 b.2.2.2) λe=>.c _ (Z7 (length a.1:Int) e.1) λi=>Hv e.2.1 e.2.2.1 e.2.2.2 a.1 a.2.1 i) (Hv b.2.1 b.2.2.1 b.2.2.2 a.1 a.2.1 [])) (Hv a.2.2.1 a.2.2.2.1 a.2.2.2.2 a.1 a.2.1 [])
def aDV c b a:=(MF c b a).ev
def aIm:FP prog:=aH cx func49 [aMU,G2,ZT,uE,YZ,Ws,aRq,aLw,Gv] (yj [.box 64 0]) [Zz] [.arg 0] (yq4 MF) ⟨[.ren 900642 1],[.cell 2 29],(yj [.agg (yj [.dat y1,.dat y2,.arr 1,.dat yi])]),[(1,.arr 3 yi),Zz],[(0,0,64)],[]⟩ (λr=>(((r.1,r.2.1,(),r.2.2.1,()),()),r.2.2.2.1,(r.2.2.2.2.1,r.2.2.2.2.2.1,r.2.2.2.2.2.2,()),())) (E6 [(8,[(0,[70000577,70000578])]),(13,[(2,[57])]),(15,[(0,[60000003])])]) [(0,aTH)]
def aFY(b:Y1):Tr (Y1×Y2×gR):=.c _ (aDV b 0 0) λa=>.l (a.1,a.2.1,a.2.2.1,a.2.2.2.1)
def aLs a:=(aFY a).ev
abbrev VF{a b c d:Type}(r:a×b×c×d):=(((r.1,r.2.1,(),r.2.2.1,()),()),r.2.2.2,())
def aTE:FP prog:=aH cx func27 [aIm] Zdj [] [] (oM aFY) ⟨[.ren 513 1],[.cell 2 29],(yj [.agg (yj [.dat y1,.dat y2,.arr 1,.dat yi])]),[(1,.arr 3 yi)],[],[]⟩ VF
def aFF(b:Y1):Tr (Y1×Y2×gR):=.c _ (aLs b) λa=>.l (a.1,a.2.1,a.2.2.1,a.2.2.2)
def aCs a:=(aFF a).ev
def aSB:FP prog:=aH cx func6 [aTE] Zdj [] [] (oM aFF) ⟨[.ren 257 1],[.cell 2 29],(yj [.agg (yj [.dat y1,.dat y2,.arr 1,.dat yi])]),[(1,.arr 3 yi)],[],[]⟩ VF
def aDS(a c b:Int):Tr Bool:=.t (c<=a) (.l (a<=b)) (.l false)
def B9 c b a:=(aDS c b a).ev
def Ca:FP prog:=aH cx func56 [] (yj [.dat yi,.dat yi,.dat yi]) [] [] (Rr aDS) Ck bN
def Zk(k:Y1×((HL [yi]->Option Bool))×Int)(v:Int):Tr (Int⊕(Unit⊕Int)):=.t (v<k.2.2) (.g (aC v (length k.1))<|.c _ (k.2.1 ((getD k.1 (toNat v) 0),())) λa=>.t a (.l (.inr (.inr v))) (.l (.inl (wrap .i64 (v+1))))) (.l (.inr (.inl ())))
def aGT k v:=aB (λv=>(Zk k v).ev) v
abbrev rV:Keep:=yh [4] fK
def aPD:LD:=yl (Zk) (yh [0,1,7,8] (yj [.dat y1,.clo [yi] .bool,.dat yi,.dat yi])) [(0,aE)] rV xY xR rQ (λ_ r=>.s _ _ r (λ_=>yx 0 aE ((),())) (λb=>yz rV ((b,()),())))
def YC(a:Y1)(e:(HL [yi]->Option Bool)):Tr Int:=.c _ (aGT (a,e,(length a:Int)) 0) λb=>.s _ _ b (λ_=>.l (-1)) (λf=>.l f)
def aEO b a:=(YC b a).ev
def aTD:FP prog:=aH cx func223 [] (yj [.dat y1,.clo [yi] .bool]) [] [] (dG YC) lJ bN bU [(0,aPD)]
def aBp(e:Y1)(b:(HL [yi]->Option Bool)):Tr Bool:=.c _ (aEO e b) λa=>.l (0<=a)
def JM b a:=(aBp b a).ev
def NE:FP prog:=aH cx func146 [aTD] (yj [.dat y1,.clo [yi] .bool]) [] [] (dG aBp) dC bN
def aDW(f e a:Int):Tr Bool:=.c _ (B9 f e a) λb=>.l (!b)
def aKn c b a:=(aDW c b a).ev
def aRd:FP prog:=aH cx func147 [Ca] (yj [.dat yi,.ptr fK,.ptr fK]) [] [] ((λf x=>f x.1.1 x.1.2.1.1 x.1.2.2.1.1) aDW) dC bN
def XP(h:Y1)(e f:Int):Tr Bool:=.c _ (JM h (λa=>Option.bind (aKn a.1 e f) λg=>some g)) λb=>.l (!b)
def JF c b a:=(XP c b a).ev
def aHi:FP prog:=aH cx func93 [NE,NE,aRd] (yj [.dat y1,.dat yi,.dat yi]) [] [] (Rr XP) Ck bN
def Xz(k:Y2×((HL [y1]->Option Bool))×Int)(v:Int):Tr (Int⊕(Unit⊕Int)):=.t (v<k.2.2) (.g (aC v (length k.1))<|.c _ (k.2.1 ((getD k.1 (toNat v) []),())) λa=>.t a (.l (.inr (.inr v))) (.l (.inl (wrap .i64 (v+1))))) (.l (.inr (.inl ())))
def aHL k v:=aB (λv=>(Xz k v).ev) v
def aPk:LD:=yl (Xz) (yh [0,1,7,8] (yj [.dat y2,.clo [y1] .bool,.dat yi,.dat yi])) [(0,aE)] rV xY xR rQ (λ_ r=>.s _ _ r (λ_=>yx 0 aE ((),())) (λb=>yz rV ((b,()),())))
def aET(a:List Y1)(e:(HL [y1]->Option Bool)):Tr Int:=.c _ (aHL (a,e,(length a:Int)) 0) λb=>.s _ _ b (λ_=>.l (-1)) (λf=>.l f)
def OE b a:=(aET b a).ev
def aLL:FP prog:=aH cx func148 [] (yj [.dat y2,.clo [y1] .bool]) [] [] (dG aET) lJ bN bU [(0,aPk)]
def aDr(e:List Y1)(b:(HL [y1]->Option Bool)):Tr Bool:=.c _ (OE e b) λa=>.l (0<=a)
def aFm b a:=(aDr b a).ev
def aJD:FP prog:=aH cx func94 [aLL] (yj [.dat y2,.clo [y1] .bool]) [] [] (dG aDr) dC bN
def aEs(a b:Y1)(_f:List Y1):Tr Bool:=.t ((length a:Int) != (length b:Int)) (.l true) (.c _ (JF a 0 99) λe=>.l (!e))
def aBs c b a:=(aEs c b a).ev
abbrev CH{a b c d e g:Type}{z:Type _}(f:a->b->c->z)(x:(a×(b×c×d)×e)×g):z:=f x.1.1 x.1.2.1.1 x.1.2.1.2.1
abbrev Mp:RetK:=yr [.tmp 3] Pz
def aQm:FP prog:=aH cx func95 [aHi] (yj [.dat y1,.ptr Zv]) [] [] (CH aEs) Mp bN
def YS(b:Y1)(a:List Y1):Tr Bool:=.c _ (B9 (length b:Int) 1 7) λh=>.t h (.c _ (JF b 0 99) λe=>.t e (.t ((length a:Int)<=(7:Int)) (.c _ (aFm a (λf=>Option.bind (aBs f.1 b a) λi=>some i)) λg=>.l (!g)) (.l false)) (.l false)) (.l false)
def uR b a:=(YS b a).ev
def H6:FP prog:=aH cx func54 [Ca,aHi,aJD,aJD,aQm] (yj [.agg Zv]) [] [] (jZ YS) Dt bN
end
end Go.Proofs.YtjiljcblmgeioaaGreatDoor
