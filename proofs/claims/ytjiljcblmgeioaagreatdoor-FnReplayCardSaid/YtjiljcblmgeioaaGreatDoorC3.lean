/- A part of the proof that FnReplay hands back true, at every argument of the row. -/
import Derived.Test.YtjiljcblmgeioaaGreatDoorB58
namespace Go.Proofs.YtjiljcblmgeioaaGreatDoor
set_option linter.all false
noncomputable section
open Go.Proofs.Tryz
open List (length getD set)
open Int (toNat)
open IntKind (wrap)
abbrev yi:Ty:=.int .i64
abbrev y1:Ty:=.slice yi
abbrev y2:Ty:=.slice y1
abbrev y3:Ty:=.slice y2
abbrev Y1:Type:=List Int
abbrev Y2:Type:=List Y1
abbrev Y3:Type:=List Y2
abbrev ys(l:List Nat)(s:Sh):SSh:= {slots:=l,sh:=s,obs:=[]}
abbrev yd(A:Sh)(I:List (Nat×OSh))(L:List LP)(R:Type)(F:A.I×OL I->Option R)(e:R->List AV×List (Nat×Ob)):FD:= {A:=A,ins:=I,lend:=L,R:=R,F:=F,emb:=e}
abbrev Zf:List UInt8:=([0,1,2,2,3,3,3,3,4,4,4,4,4,4,4,4,5,5,5,5,5,5,5,5,5,5,5,5,5,5,5,5,6,6,6,6,6,6,6,6,6,6,6,6,6,6,6,6,6,6,6,6,6,6,6,6,6,6,6,6,6,6,6,6,7,7,7,7,7,7,7,7,7,7,7,7,7,7,7,7,7,7,7,7,7,7,7,7,7,7,7,7,7,7,7,7,7,7,7,7,7,7,7,7,7,7,7,7,7,7,7,7,7,7,7,7,7,7,7,7,7,7,7,7,7,7,7,7,8,8,8,8,8,8,8,8,8,8,8,8,8,8,8,8,8,8,8,8,8,8,8,8,8,8,8,8,8,8,8,8,8,8,8,8,8,8,8,8,8,8,8,8,8,8,8,8,8,8,8,8,8,8,8,8,8,8,8,8,8,8,8,8,8,8,8,8,8,8,8,8,8,8,8,8,8,8,8,8,8,8,8,8,8,8,8,8,8,8,8,8,8,8,8,8,8,8,8,8,8,8,8,8,8,8,8,8,8,8,8,8,8,8,8,8,8,8,8,8,8,8,8,8,8,8,8,8]:List UInt8)
abbrev Zh:Sh:=yj [.dat y1,.dat y2]
abbrev Zj:Nat×OSh:=(64,.cells (yj [.dat (.slice (.int .u8)),.dat yi,.dat (.int .u64)]))
abbrev Zk:Nat:=IntKind.bits .u64
abbrev Zl:Sh:=yj [.dat y1,.dat y2,.dat y1,.dat yi]
abbrev Zm:Sh:=yj [.dat y1,.dat y2,.dat y1,.dat yi,.dat .str,.dat .str,.dat yi]
abbrev Zp:Sh:=yj [.dat yi,.dat y1,.dat (.slice .bool),.dat y1,.dat y1]
abbrev Yt:Type:=(List Nat)×Y2
abbrev Yu:Type:=Int×(List UInt8)×(List UInt8)×Int
abbrev Yv:Type:=HL [y1,y1]->Option Int
abbrev Zy:Sh:=yj [.dat yi]
abbrev jA:Type:=Int×Int
abbrev gD:Type:=Int×Y1
abbrev Q8:Sh:=yj [.dat .str,.dat .str,.dat yi]
abbrev jT:Nat×OSh:=(1,.cells Zh)
abbrev Vt:Sh:=yj [.dat yi,.arr 64,.arr 65,.arr 66,.arr 67]
abbrev Lv:Type:=Y1×(List Bool)×Y1×Y1
abbrev Z6:Type:=(List UInt8)×(List UInt8)
abbrev Na:Sh:=yj [.nilsl,.nilsl,.nilsl,.dat yi]
abbrev Yq:Nat×OSh:=(4,.cells (yj [.arr 25,.arr 1920,.arr 2112]))
abbrev HR:Nat×OSh:=(2,.cells (yj [.nilsl,.nilsl,.nilsl]))
abbrev C4:Type:=Int×Y1×Y2
abbrev tK:Nat×OSh:=(0,.arr 3 yi)
abbrev D7:Nat×OSh:=(64,.perm 24 3 yi)
abbrev UC:Sh:=yj [.dat yi,.dat yi,.dat yi,.dat yi,.dat y1]
abbrev Nu:Sh:=yj [.dat .str,.dat .str]
abbrev xQ:Nat×OSh:=(64,.arr 3 yi)
abbrev JG:Sh:=yj [.box 64 0,.box 65 0,.box 66 0]
abbrev Ho:Sh:=yj [.arr 0,.dat .bool]
abbrev Ot:Type:=Y1×Y2×Y1×Yu
abbrev WZ:Type:=Y1×Y2×Y1×Int×(List UInt8)
abbrev Z8:Type:=Y1×Y2×Int
abbrev Om:Type:=(List UInt8)×Bool
abbrev Zbg:Nat×OSh:=(4,.cells (yj [.dat yi,.nilsl,.nilsl,.nilsl,.nilsl]))
abbrev yV:Nat×OSh:=(2,.cells Zh)
abbrev q8:Sh:=yj [.arr 0]
abbrev Zbm:Nat×OSh:=(2,.cells (yj [.nilsl,.nilsl,.nilsl,.dat yi,.dat .str,.dat .str,.dat yi]))
abbrev yA:Type:=Y1×jA
abbrev Zbo:Nat×OSh:=(2,.cells (yj [.dat yi,.arr 900321,.nilsl,.arr 900323,.arr 900324]))
abbrev C5:Type:=Bool×Y1
abbrev Gf:Sh:=yj [.dat .str]
abbrev Oi:Type:=Y1×Y2×Y1
abbrev Nd:Type:=Y1×Y1×Y1
abbrev Wq:Type:=Y1×Int×gD
abbrev WK:Type:=HL [yi,yi]->Option Int
abbrev Mn:Nat×OSh:=(2112,.arr 3 yi)
abbrev Bc:Sh:=yj [.dat y1]
abbrev Ybx:Type:=Int×Int×Bool×Bool×Yt
abbrev D0:Type:=Int×Y2
abbrev Hn:Type:=Int×Bool
abbrev Rv:Sh:=yj [.dat .bool]
abbrev Zcb:Nat×OSh:=(4,.cells (yj [.arr 901340,.nilsl,.arr 901342,.dat yi]))
abbrev Zcc:Nat×OSh:=(6,.cells (yj [.arr 13888,.arr 1860,.arr 1861,.dat yi]))
def aOe:List (Nat×TD):=[(3,.sc yi),(4,.sc .bool),(5,.sc (.int .u8)),(9,.sc .str),(22,.sl 5 (.int .u8) 1),(24,.sl 3 yi 8),(25,.sl 24 y1 24),(27,.st (.pair y1 y2) [(24,y1),(25,y2)]),(29,.st (.pair (.pair y1 y2) (.pair y1 yi)) [(27,(.pair y1 y2)),(24,y1),(3,yi)]),(32,.st (.pair .str (.pair .str yi)) [(9,.str),(9,.str),(3,yi)]),(34,.st (.pair (.pair (.pair y1 y2) (.pair y1 yi)) (.pair .str (.pair .str yi))) [(29,(.pair (.pair y1 y2) (.pair y1 yi))),(32,(.pair .str (.pair .str yi)))]),(44,.sl 48 (.pair .str .str) 32),(48,.st (.pair .str .str) [(9,.str),(9,.str)]),(50,.sl 9 .str 16),(63,.sc (.int .u64)),(65,.st (.pair (.slice (.int .u8)) (.pair yi (.int .u64))) [(22,(.slice (.int .u8))),(3,yi),(63,(.int .u64))]),(109,.st (.pair yi (.pair yi (.pair yi (.pair yi y1)))) [(3,yi),(3,yi),(3,yi),(3,yi),(24,y1)]),(156,.sc (.int .u64)),(182,.st (.pair y1 (.pair y1 y1)) [(24,y1),(24,y1),(24,y1)]),(221,.sl 4 .bool 1),(223,.st (.pair yi (.pair y1 (.pair (.slice .bool) (.pair y1 y1)))) [(3,yi),(24,y1),(221,(.slice .bool)),(24,y1),(24,y1)]),(284,.sc (.int .u64))]
def tt:Nat->TD:=λi=>match aM aOe i with |some d=>d |none=>.no
theorem mixed:prog.follows .mixedOrders=true:=by kernel_rfl
theorem Dl:aW prog tt:=aFs (by kernel_rfl)
theorem cx:Cx prog tt:=⟨mixed,Dl⟩
def aFx(a:Y1):Tr Bool:=.l ((65536:Int)<(length a:Int))
def aJP a:=(aFx a).ev
abbrev qH{a b c:Type}{z:Type _}(f:a->z)(x:(a×b)×c):z:=f x.1.1
abbrev Dj:RetK:=yr [.tmp 2] Rv
abbrev bR{a:Type}(r:a):=((r,()),())
def aPw:FP prog:=aH cx func5 [] (yj [.dat (.slice (.int .u8))]) [] [] (qH aFx) Dj bR
def aCc(b:Y1)(a c:Int):Tr (Int×yA):=.t (a<(length b:Int)) (.g (aC a (length b))<|.t ((wrap .i64 (a+1))<=(length b:Int)) (.l ((wrap .i64 (getD b (toNat a) 0)),b,(wrap .i64 (a+1)),(wrap .u64 ((wrap .u64 ((wrap .u64 (c*(6364136223846793005:Int)))+(wrap .u64 (wrap .i64 (getD b (toNat a) 0)))))+462197)))) (.g ((0:Int)<=(40:Int))<|.l ((wrap .i64 (wrap .u64 (BitVec.toNat ((BitVec.ofInt Zk (Int.fdiv (wrap .u64 ((wrap .u64 ((wrap .u64 (c*(6364136223846793005:Int)))+(wrap .u64 (wrap .i64 (getD b (toNat a) 0)))))+462197)) (2^(min (toNat 40) Zk))))&&& (BitVec.ofInt Zk 255))))),b,(wrap .i64 (a+1)),(wrap .u64 ((wrap .u64 ((wrap .u64 (c*(6364136223846793005:Int)))+(wrap .u64 (wrap .i64 (getD b (toNat a) 0)))))+462197))))) (.t ((wrap .i64 (a+1))<=(length b:Int)) (.l (0,b,(wrap .i64 (a+1)),(wrap .u64 ((wrap .u64 ((wrap .u64 (c*(6364136223846793005:Int)))+(wrap .u64 0)))+462197)))) (.g ((0:Int)<=(40:Int))<|.l ((wrap .i64 (wrap .u64 (BitVec.toNat ((BitVec.ofInt Zk (Int.fdiv (wrap .u64 ((wrap .u64 ((wrap .u64 (c*(6364136223846793005:Int)))+(wrap .u64 0)))+462197)) (2^(min (toNat 40) Zk))))&&& (BitVec.ofInt Zk 255))))),b,(wrap .i64 (a+1)),(wrap .u64 ((wrap .u64 ((wrap .u64 (c*(6364136223846793005:Int)))+(wrap .u64 0)))+462197)))))
def QC c b a:=(aCc c b a).ev
abbrev yq4{a b c d e g:Type}{z:Type _}(f:b->c->d->z)(x:a×(b×c×d×e)×g):z:=f x.2.1.1 x.2.1.2.1 x.2.1.2.2.1
abbrev yq5{a b c d:Type}(r:a×b×c×d):=((r.1,()),(r.2.1,r.2.2.1,r.2.2.2,()),())
def aSY:FP prog:=aH cx func85 [] (yj [.box 64 0]) [Zj] [.arg 0] (yq4 aCc) ⟨[],[.tmp 2],Zy,[Zj],[(0,0,64)],[]⟩ yq5
def ZD(b:Int)(i:Y1)(h f:Int):Tr (Int×yA):=.t (b<=1) (.l (0,i,h,f)) (.c _ (QC i h f) λa=>.t (200<b) (.c _ (QC a.2.1 a.2.2.1 a.2.2.2) λe=>.g (!decide (b=0))<|.l ((Int.tmod (wrap .i64 ((wrap .i64 (a.1*(256:Int)))+e.1)) b),e.2.1,e.2.2.1,e.2.2.2)) (.g (!decide (b=0))<|.l ((Int.tmod a.1 b),a.2.1,a.2.2.1,a.2.2.2)))
def mW c e b a:=(ZD c e b a).ev
abbrev SB{a b c d e g h i:Type}{z:Type _}(f:b->d->e->g->z)(x:(a×b×c)×(d×e×g×h)×i):z:=f x.1.2.1 x.2.1.1 x.2.1.2.1 x.2.1.2.2.1
abbrev yq6:RetK:=⟨[],[.tmp 4],Zy,[Zj],[(0,0,64)],[]⟩
def oH:FP prog:=aH cx func46 [aSY] (yj [.box 64 0,.dat yi]) [Zj] [.arg 0] (SB ZD) yq6 yq5
def aBv(b h:Y1)(f e:Int):Tr (Int×yA):=.c _ (mW (length b:Int) h f e) λa=>.g (aC a.1 (length b))<|.l ((getD b (toNat a.1) 0),a.2.1,a.2.2.1,a.2.2.2)
def mF c e b a:=(aBv c e b a).ev
def Hm:FP prog:=aH cx func45 [oH] (yj [.box 64 0,.dat y1]) [Zj] [.arg 0] (SB aBv) yq6 yq5
def Se(k:Int×Int×Int×gD)(v:Int×Wq):Tr ((Int×Wq)⊕Wq):=.t (v.1<k.2.1) (.t (v.1<k.1) (.c _ (mW k.2.2.2.1 v.2.1 v.2.2.1 v.2.2.2.1) λa=>.g ((length v.2.2.2.2+length ([a.1]:Y1))*8<=140737488355328)<|.l (.inl ((wrap .i64 (v.1+1)),a.2.1,a.2.2.1,a.2.2.2,(v.2.2.2.2++([a.1]:Y1))))) (.l (.inr (v.2.1,v.2.2.1,v.2.2.2.1,v.2.2.2.2)))) (.l (.inr (v.2.1,v.2.2.1,v.2.2.2.1,v.2.2.2.2)))
def aKk k v:=aB (λv=>(Se k v).ev) v
abbrev yq9:Keep:=yk [] [0,1,4,6,7,8] (yj [.box 64 0,.dat yi,.box 4 0,.dat yi,.box 7 0,.dat yi]) [Zj,(4,.cells (yj [.arr 900340,.nilsl])),(7,.cells (yj [.arr 900370,.nilsl])),(900340,.arr 3 yi),(900370,.arr 3 yi)]
abbrev aF:Keep:=yh [] .nil
def aQG:LD:=yl (Se) (yk [.ownB 4 0 900340 3 yi,.ownB 7 0 900370 3 yi] [0,1,4,5,6,7,8,9] (yj [.box 64 0,.dat yi,.box 4 0,.dat yi,.dat yi,.box 7 0,.dat yi,.dat yi]) [Zj,(4,.cells (yj [.arr 900340,.nilsl])),(7,.cells (yj [.arr 900370,.nilsl])),(900340,.arr 3 yi),(900370,.arr 3 yi)]) [(0,yq9)] aF (λk v=>(((),k.1,(),k.2.1,k.2.2.1,(),k.2.2.2.1,v.1,()),(v.2.1,v.2.2.1,v.2.2.2.1,()),((),(),()),((),(),()),k.2.2.2.2,v.2.2.2.2,())) (λt=>(t.1.2.1,t.1.2.2.2.1,t.1.2.2.2.2.1,t.1.2.2.2.2.2.2.1,t.2.2.2.2.1)) (λt=>(t.1.2.2.2.2.2.2.2.1,t.2.1.1,t.2.1.2.1,t.2.1.2.2.1,t.2.2.2.2.2.1)) (λk r=>yx 0 yq9 (((),k.1,(),k.2.2.1,(),k.2.2.2.1,()),(r.1,r.2.1,r.2.2.1,()),((),(),()),((),(),()),k.2.2.2.2,r.2.2.2,()))
def Ym(k:Int×Int×Int×Int×Y1×Y2×Y1×Y2)(v:Int×Wq):Tr ((Int×Wq)⊕Wq):=.t (v.1<(length k.2.2.2.2.2.2.1:Int)) (.c _ (mW k.2.2.1 v.2.1 v.2.2.1 v.2.2.2.1) λa=>.g ((length v.2.2.2.2+length ([a.1]:Y1))*8<=140737488355328)<|.l (.inl ((wrap .i64 (v.1+1)),a.2.1,a.2.2.1,a.2.2.2,(v.2.2.2.2++([a.1]:Y1))))) (.l (.inr (v.2.1,v.2.2.1,v.2.2.2.1,v.2.2.2.2)))
def aII k v:=aB (λv=>(Ym k v).ev) v
abbrev aHA:Keep:=yk [] [0,1,4,6,7,8,10,11] (yj [.box 64 0,.dat yi,.box 4 0,.dat yi,.box 7 0,.dat yi,.dat yi,.arr 51]) [Zj,(4,.cells (yj [.arr 900340,.arr 902341])),(7,.cells (yj [.arr 900370,.arr 902371])),(51,.arr 3 yi),(900340,.arr 3 yi),(902341,.rows 24 3 yi),(900370,.arr 3 yi),(902371,.rows 24 3 yi)]
def aSC:LD:=yl (Ym) (yk [] [0,1,4,6,7,8,10,11,12] (yj [.box 64 0,.dat yi,.box 4 0,.dat yi,.box 7 0,.dat yi,.dat yi,.arr 51,.dat yi]) [Zj,(4,.cells (yj [.arr 900340,.arr 902341])),(7,.cells (yj [.arr 900370,.arr 902371])),(51,.arr 3 yi),(900340,.arr 3 yi),(902341,.rows 24 3 yi),(900370,.arr 3 yi),(902371,.rows 24 3 yi)]) [(4,aHA)] aF (λk v=>(((),k.1,(),k.2.1,(),k.2.2.1,k.2.2.2.1,(),v.1,()),(v.2.1,v.2.2.1,v.2.2.2.1,()),((),(),()),((),(),()),v.2.2.2.2,k.2.2.2.2.1,k.2.2.2.2.2.1,k.2.2.2.2.2.2.1,k.2.2.2.2.2.2.2,())) (λt=>(t.1.2.1,t.1.2.2.2.1,t.1.2.2.2.2.2.1,t.1.2.2.2.2.2.2.1,t.2.2.2.2.2.1,t.2.2.2.2.2.2.1,t.2.2.2.2.2.2.2.1,t.2.2.2.2.2.2.2.2.1)) (λt=>(t.1.2.2.2.2.2.2.2.2.1,t.2.1.1,t.2.1.2.1,t.2.1.2.2.1,t.2.2.2.2.1)) (λk r=>yx 4 aHA (((),k.1,(),k.2.1,(),k.2.2.1,k.2.2.2.1,(),()),(r.1,r.2.1,r.2.2.1,()),((),(),()),((),(),()),r.2.2.2,k.2.2.2.2.1,k.2.2.2.2.2.1,k.2.2.2.2.2.2.1,k.2.2.2.2.2.2.2,()))
def Qe(k:Int×Int×Int×Oi)(v:Int×Y1×Int×D0):Tr ((Int×Y1×Int×D0)⊕(Y1×Int×D0)):=.t (v.1<k.2.1) (.t (v.1<k.1) (.c _ (aII (k.1,k.2.1,k.2.2.1,v.1,k.2.2.2.1,k.2.2.2.2.1,k.2.2.2.2.2,v.2.2.2.2) (0,v.2.1,v.2.2.1,v.2.2.2.1,[])) λa=>.g ((length v.2.2.2.2+1)*24<=140737488355328)<|.l (.inl ((wrap .i64 (v.1+1)),a.1,a.2.1,a.2.2.1,(set (v.2.2.2.2++ [[]]) (length v.2.2.2.2) a.2.2.2)))) (.l (.inr (v.2.1,v.2.2.1,v.2.2.2.1,v.2.2.2.2)))) (.l (.inr (v.2.1,v.2.2.1,v.2.2.2.1,v.2.2.2.2)))
def aHi k v:=aB (λv=>(Qe k v).ev) v
abbrev aLQ:Keep:=yk [] [0,4,7] (yj [.box 64 0,.box 4 0,.box 7 0]) [Zj,(4,.cells (yj [.arr 900340,.arr 902341])),(7,.cells (yj [.arr 900370,.arr 902371])),(900340,.arr 3 yi),(902341,.rows 24 3 yi),(900370,.arr 3 yi),(902371,.rows 24 3 yi)]
def aQq:LD:=yl (Qe) (yk [.ownRB 4 1 902341 24 3 yi,.ownRB 7 1 902371 24 3 yi] [0,1,4,6,7,8,10] (yj [.box 64 0,.dat yi,.box 4 0,.dat yi,.box 7 0,.dat yi,.dat yi]) [Zj,(4,.cells (yj [.arr 900340,.arr 902341])),(7,.cells (yj [.arr 900370,.arr 902371])),(900340,.arr 3 yi),(902341,.rows 24 3 yi),(900370,.arr 3 yi),(902371,.rows 24 3 yi)]) [(2,aLQ)] aF (λk v=>(((),k.1,(),k.2.1,(),k.2.2.1,v.1,()),(v.2.1,v.2.2.1,v.2.2.2.1,()),((),(),()),((),(),()),k.2.2.2.1,k.2.2.2.2.1,k.2.2.2.2.2,v.2.2.2.2,())) (λt=>(t.1.2.1,t.1.2.2.2.1,t.1.2.2.2.2.2.1,t.2.2.2.2.1,t.2.2.2.2.2.1,t.2.2.2.2.2.2.1)) (λt=>(t.1.2.2.2.2.2.2.1,t.2.1.1,t.2.1.2.1,t.2.1.2.2.1,t.2.2.2.2.2.2.2.1)) (λk r=>yx 2 aLQ (((),(),(),()),(r.1,r.2.1,r.2.2.1,()),((),(),()),((),(),()),k.2.2.2.1,k.2.2.2.2.1,k.2.2.2.2.2,r.2.2.2,()))
def aAQ(h:Int)(m:Y1)(j i:Int):Tr (Y1×Y2×yA):=.c _ (mF ([3,4,2,5,1,6,7]:Y1) m j i) λg=>.c _ (mF ([4,3,5,2,6,7,1,0]:Y1) g.2.1 g.2.2.1 g.2.2.2) λb=>.c _ (mF ([10,10,20,4]:Y1) b.2.1 b.2.2.1 b.2.2.2) λe=>.c _ (aKk (h,g.1,b.1,e.1,[]) (0,e.2.1,e.2.2.1,e.2.2.2,[])) λa=>.c _ (aHi (h,b.1,e.1,[],[],a.2.2.2) (0,a.1,a.2.1,a.2.2.1,[])) λf=>.l (a.2.2.2,f.2.2.2,f.1,f.2.1,f.2.2.1)
def Yc c e b a:=(aAQ c e b a).ev
abbrev MR{a b c d e:Type}(r:a×b×c×d×e):=((((),(),()),()),r.1,r.2.1,(r.2.2.1,r.2.2.2.1,r.2.2.2.2,()),())
def aHH:FP prog:=aH cx func136 [Hm,oH] (yj [.box 64 0,.dat yi]) [Zj] [.arg 0] (SB aAQ) ⟨[.ren 900370 1,.ren 902371 2],[.cell 4 27],(yj [.agg (yj [.arr 1,.arr 2])]),[(1,.arr 3 yi),(2,.rows 24 3 yi),Zj],[(0,0,64)],[]⟩ MR (s8 [(1,[(2,[14]),(5,[17])]),(2,[(3,[21])])]) [(0,aQG),(4,aSC),(2,aQq)]
def NE(a:Y1):Tr Y1:=.g ((length ([]:Y1)+length a)*8<=140737488355328)<|.l (([]:Y1)++a)
def pY a:=(NE a).ev
abbrev kG{a:Type}(r:a):=(((),()),r,())
def Da:FP prog:=aH cx func62 [] Bc [] [] (qH NE) ⟨[.ren 3 0],[.tmp 2],q8,[tK],[],[]⟩ kG
def Yb(k:Y1×Int×C4)(v:List Y1):Tr (Y2⊕Y2):=.t ((length v:Int)<(8:Int)) (.c _ (pY k.2.2.2.1) λa=>.g ((length v+1)*24<=140737488355328)<|.l (.inl (set (v++ [[]]) (length v) a))) (.l (.inr v))
def aJU k v:=aB (λv=>(Yb k v).ev) v
abbrev aIQ:Keep:=yk [] [0,3,4] (yj [.box 64 0,.box 3 0,.box 4 0]) [Zj,(3,.cells (yj [.arr 65,.arr 66])),(4,.cells (yj [.nilsl,.arr 901341])),(65,.arr 3 yi),(66,.rows 24 3 yi),(901341,.rows 24 3 yi)]
def aNe:LD:=yl (Yb) (yk [.ownRB 4 1 901341 24 3 yi] [0,3,4] (yj [.box 64 0,.box 3 0,.box 4 0]) [Zj,(3,.cells (yj [.arr 65,.arr 66])),(4,.cells (yj [.nilsl,.arr 901341])),(65,.arr 3 yi),(66,.rows 24 3 yi),(901341,.rows 24 3 yi)]) [(1,aIQ)] aF (λk v=>(((),(),(),()),(k.1,k.2.1,k.2.2.1,()),((),(),()),((),(),()),k.2.2.2.1,v,k.2.2.2.2,())) (λt=>(t.2.1.1,t.2.1.2.1,t.2.1.2.2.1,t.2.2.2.2.1,t.2.2.2.2.2.2.1)) (λt=>t.2.2.2.2.2.1) (λk r=>yx 1 aIQ (((),(),(),()),(k.1,k.2.1,k.2.2.1,()),((),(),()),((),(),()),k.2.2.2.1,r,k.2.2.2.2,()))
def aBg(n:Y1)(m j:Int)(e:Y1)(b:List Y1):Tr (Y1×Y2×yA):=.t ((length e:Int)==(0:Int)) (.l (e,b,n,m,j)) (.c _ (mW (length e:Int) n m j) λf=>.c _ (mW 60 f.2.1 f.2.2.1 f.2.2.2) λa=>.t (a.1==0) (.c _ (mF ([(-1),99,100,4611686018427387904]:Y1) a.2.1 a.2.2.1 a.2.2.2) λi=>.g (aC f.1 (length e))<|.g ((toNat f.1)<length e)<|.l ((set e (toNat f.1) i.1),b,i.2.1,i.2.2.1,i.2.2.2)) (.t (a.1==1) (.t ((0:Int)<(length b:Int)) (.g (aC 0 (length b))<|.g ((toNat 0)<length b)<|.c _ (mF ([(-1),99,100,(-9223372036854775808)]:Y1) a.2.1 a.2.2.1 a.2.2.2) λh=>.g (aC f.1 (length (getD b (toNat 0) [])))<|.g ((toNat f.1)<length (getD b (toNat 0) []))<|.l (e,(set b (toNat 0) (set (getD b (toNat 0) []) (toNat f.1) h.1)),h.2.1,h.2.2.1,h.2.2.2)) (.l (e,b,a.2.1,a.2.2.1,a.2.2.2))) (.t (a.1==2) (.g ((length e+length ([1]:Y1))*8<=140737488355328)<|.l ((e++([1]:Y1)),b,a.2.1,a.2.2.1,a.2.2.2)) (.t (a.1==3) (.c _ (aJU (a.2.1,a.2.2.1,a.2.2.2,e,[]) b) λo=>.l (e,o,a.2.1,a.2.2.1,a.2.2.2)) (.t (a.1==4) (.l ([],[],a.2.1,a.2.2.1,a.2.2.2)) (.l (e,b,a.2.1,a.2.2.1,a.2.2.2)))))))
def aDx f c b e a:=(aBg f c b e a).ev
def aSj:FP prog:=aH cx func135 [oH,Hm,Da] (yj [.box 64 0,.agg (yj [.arr 65,.arr 66])]) [Zj,(65,.arr 3 yi),(66,.rows 24 3 yi)] [.arg 0,.comp 1 0,.comp 1 1] ((λf x=>f x.2.1.1 x.2.1.2.1 x.2.1.2.2.1 x.2.2.1 x.2.2.2.1) aBg) ⟨[.ownB 4 0 1 3 yi,.ownRB 4 1 2 24 3 yi,.ren 65 1,.ren 66 2],[.cell 4 27],(yj [.agg (yj [.arr 1,.arr 2])]),[(1,.arr 3 yi),(2,.rows 24 3 yi),Zj],[(0,0,64)],[65,66]⟩ MR (s8 [(6,[(0,[60000004])]),(9,[(0,[60000006])])]) [(1,aNe)]
def aEo(a b:Int):Tr Int:=.t (b<a) (.l a) (.l b)
def Km a b:=(aEo a b).ev
abbrev dO{a b c d:Type}{z:Type _}(f:a->b->z)(x:(a×b×c)×d):z:=f x.1.1 x.1.2.1
abbrev kA:RetK:=yr [.tmp 4] Zy
def QE:FP prog:=aH cx func142 [] (yj [.dat yi,.dat yi]) [] [] (dO aEo) kA bR
def AW(k:Y1×Y2)(v:Int×Wq):Tr ((Int×Wq)⊕Wq):=.t (v.1<(length k.1:Int)) (.c _ (mW 20 v.2.1 v.2.2.1 v.2.2.2.1) λa=>.g ((length v.2.2.2.2+length ([a.1]:Y1))*8<=140737488355328)<|.l (.inl ((wrap .i64 (v.1+1)),a.2.1,a.2.2.1,a.2.2.2,(v.2.2.2.2++([a.1]:Y1))))) (.l (.inr (v.2.1,v.2.2.1,v.2.2.2.1,v.2.2.2.2)))
def aJM k v:=aB (λv=>(AW k v).ev) v
abbrev aHm:Keep:=yk [] [0,4,5,6] (yj [.box 64 0,.box 4 0,.box 5 0,.arr 14]) [Zj,(4,.cells (yj [.nilsl,.nilsl])),(5,.cells (yj [.arr 833,.arr 834])),(14,.arr 3 yi),(833,.arr 3 yi),(834,.rows 24 3 yi)]
def aQM:LD:=yl (AW) (yk [] [0,4,5,6,7] (yj [.box 64 0,.box 4 0,.box 5 0,.arr 14,.dat yi]) [Zj,(4,.cells (yj [.nilsl,.nilsl])),(5,.cells (yj [.arr 833,.arr 834])),(14,.arr 3 yi),(833,.arr 3 yi),(834,.rows 24 3 yi)]) [(0,aHm)] aF (λk v=>(((),(),(),(),v.1,()),(v.2.1,v.2.2.1,v.2.2.2.1,()),((),(),()),((),(),()),v.2.2.2.2,k.1,k.2,())) (λt=>(t.2.2.2.2.2.1,t.2.2.2.2.2.2.1)) (λt=>(t.1.2.2.2.2.1,t.2.1.1,t.2.1.2.1,t.2.1.2.2.1,t.2.2.2.2.1)) (λk r=>yx 0 aHm (((),(),(),(),()),(r.1,r.2.1,r.2.2.1,()),((),(),()),((),(),()),r.2.2.2,k.1,k.2,()))
def Xv(k:Int×Int×Y1×Int×Int×Y1×Y1)(v:Int×Y2):Tr (D0⊕Y2):=.t (v.1<(length k.2.2.2.2.2.2:Int)) (.g (aC k.1 (length v.2))<|.g ((toNat k.1)<length v.2)<|.g (aC v.1 (length k.2.2.2.2.2.1))<|.g ((toNat v.1)<length k.2.2.2.2.2.1)<|.g (aC v.1 (length k.2.2.2.2.2.1))<|.g ((toNat v.1)<length k.2.2.2.2.2.1)<|.c _ (Km (wrap .i64 (k.2.1-(getD k.2.2.2.2.2.1 (toNat v.1) 0))) (wrap .i64 ((getD k.2.2.2.2.2.1 (toNat v.1) 0) -k.2.1))) λa=>.g (aC v.1 (length (getD v.2 (toNat k.1) [])))<|.g ((toNat v.1)<length (getD v.2 (toNat k.1) []))<|.l (.inl ((wrap .i64 (v.1+1)),(set v.2 (toNat k.1) (set (getD v.2 (toNat k.1) []) (toNat v.1) a))))) (.l (.inr v.2))
def aIA k v:=aB (λv=>(Xv k v).ev) v
abbrev ZM:Keep:=yk [] [0,4,5,6,8] (yj [.box 64 0,.box 4 0,.box 5 0,.arr 14,.dat yi]) [Zj,(4,.cells (yj [.nilsl,.nilsl])),(5,.cells (yj [.arr 833,.arr 834])),(14,.arr 3 yi),(833,.arr 3 yi),(834,.rows 24 3 yi)]
def aPQ:LD:=yl (Xv) (yk [] [0,4,5,6,8,9,10] (yj [.box 64 0,.box 4 0,.box 5 0,.arr 14,.dat yi,.dat yi,.dat yi]) [Zj,(4,.cells (yj [.nilsl,.nilsl])),(5,.cells (yj [.arr 833,.arr 834])),(14,.arr 3 yi),(833,.arr 3 yi),(834,.rows 24 3 yi)]) [(4,ZM)] aF (λk v=>(((),(),(),(),k.1,k.2.1,v.1,()),(k.2.2.1,k.2.2.2.1,k.2.2.2.2.1,()),((),(),()),((),(),()),k.2.2.2.2.2.1,k.2.2.2.2.2.2,v.2,())) (λt=>(t.1.2.2.2.2.1,t.1.2.2.2.2.2.1,t.2.1.1,t.2.1.2.1,t.2.1.2.2.1,t.2.2.2.2.1,t.2.2.2.2.2.1)) (λt=>(t.1.2.2.2.2.2.2.1,t.2.2.2.2.2.2.1)) (λk r=>yx 4 ZM (((),(),(),(),k.1,()),(k.2.2.1,k.2.2.2.1,k.2.2.2.2.1,()),((),(),()),((),(),()),k.2.2.2.2.2.1,k.2.2.2.2.2.2,r,()))
def FC(k:Y1×Y1)(v:Int×Y1×Int×D0):Tr ((Int×Y1×Int×D0)⊕(Y1×Int×D0)):=.t (v.1<(length v.2.2.2.2:Int)) (.c _ (mW 20 v.2.1 v.2.2.1 v.2.2.2.1) λa=>.c _ (aIA (v.1,a.1,a.2.1,a.2.2.1,a.2.2.2,k.1,k.2) (0,v.2.2.2.2)) λb=>.l (.inl ((wrap .i64 (v.1+1)),a.2.1,a.2.2.1,a.2.2.2,b))) (.l (.inr (v.2.1,v.2.2.1,v.2.2.2.1,v.2.2.2.2)))
def aGT k v:=aB (λv=>(FC k v).ev) v
abbrev aId:Keep:=yk [] [0,4,5] (yj [.box 64 0,.box 4 0,.box 5 0]) [Zj,(4,.cells (yj [.nilsl,.nilsl])),(5,.cells (yj [.arr 833,.arr 834])),(833,.arr 3 yi),(834,.rows 24 3 yi)]
def aRz:LD:=yl (FC) ZM [(2,aId)] aF (λk v=>(((),(),(),(),v.1,()),(v.2.1,v.2.2.1,v.2.2.2.1,()),((),(),()),((),(),()),k.1,k.2,v.2.2.2.2,())) (λt=>(t.2.2.2.2.1,t.2.2.2.2.2.1)) (λt=>(t.1.2.2.2.2.1,t.2.1.1,t.2.1.2.1,t.2.1.2.2.1,t.2.2.2.2.2.2.1)) (λk r=>yx 2 aId (((),(),(),()),(r.1,r.2.1,r.2.2.1,()),((),(),()),((),(),()),k.2,r.2.2.2,()))
def aAu(h:Int)(i:Y1)(g f:Int):Tr (Y1×Y2×yA):=.c _ (Yc h i g f) λa=>.c _ (aJM (a.1,a.2.1) (0,a.2.2.1,a.2.2.2.1,a.2.2.2.2,[])) λb=>.c _ (aGT (b.2.2.2,a.1) (0,b.1,b.2.1,b.2.2.1,a.2.1)) λe=>.l (a.1,e.2.2.2,e.1,e.2.1,e.2.2.1)
def aBr c e b a:=(aAu c e b a).ev
def aPO:FP prog:=aH cx func137 [aHH,oH,QE] (yj [.box 64 0,.dat yi]) [Zj] [.arg 0] (SB aAu) ⟨[.ren 833 1,.ren 834 2],[.cell 4 27],(yj [.agg (yj [.arr 1,.arr 2])]),[(1,.arr 3 yi),(2,.rows 24 3 yi),Zj],[(0,0,64)],[]⟩ MR bU [(0,aQM),(4,aPQ),(2,aRz)]
def DA(k:Y1×Y2×Y2×Y1)(v:Int×Y2):Tr (D0⊕Y2):=.t (v.1<(length k.2.1:Int)) (.g (aC v.1 (length k.2.1))<|.c _ (pY (getD k.2.1 (toNat v.1) [])) λa=>.g ((length v.2+1)*24<=140737488355328)<|.l (.inl ((wrap .i64 (v.1+1)),(set (v.2++ [[]]) (length v.2) a)))) (.l (.inr v.2))
def aHQ k v:=aB (λv=>(DA k v).ev) v
abbrev aKT:Keep:=yk [] [2,3] (yj [.box 2 0,.box 3 0]) [(2,.cells (yj [.nilsl,.arr 900321])),(3,.cells (yj [.arr 448,.arr 900331])),(900321,.rows 24 3 yi),(448,.arr 3 yi),(900331,.rows 24 3 yi)]
abbrev aHf{a b c d e g h i j l m n:Type}(t:(a×b×c×d×e)×g×h×i×j×l×m×n):=(t.1.2.2.2.1,t.2.2.2.2.2.2.1)
def aLX:LD:=yl (DA) (yk [.ownRB 2 1 900321 24 3 yi,.ownRB 3 1 900331 24 3 yi] [1,2,3,4] (yj [.box 1 0,.box 2 0,.box 3 0,.dat yi]) [jT,(2,.cells (yj [.nilsl,.arr 900321])),(3,.cells (yj [.arr 448,.arr 900331])),(900321,.rows 24 3 yi),(448,.arr 3 yi),(900331,.rows 24 3 yi)]) [(0,aKT)] aF (λk v=>(((),(),(),v.1,()),(k.1,k.2.1,()),((),(),()),((),(),()),k.2.2.1,k.2.2.2,v.2,())) (λt=>(t.2.1.1,t.2.1.2.1,t.2.2.2.2.1,t.2.2.2.2.2.1)) aHf (λk r=>yx 0 aKT (((),(),()),((),(),()),((),(),()),k.2.2.1,k.2.2.2,r,()))
def aGq(a:Y1)(f:List Y1):Tr (Y1×Y2):=.c _ (pY a) λb=>.c _ (aHQ (a,f,[],b) (0,[])) λe=>.l (b,e)
def aFU a b:=(aGq a b).ev
abbrev jO{a b c d e:Type}{z:Type _}(f:a->b->z)(x:((a×b×c)×d)×e):z:=f x.1.1.1 x.1.1.2.1
abbrev aLn{a b:Type}(r:a×b):=((((),(),()),()),r.1,r.2,())
def aPH:FP prog:=aH cx func213 [Da] (yj [.agg Zh]) [] [] (jO aGq) ⟨[.ren 448 1,.ren 900331 4],[.cell 2 27],(yj [.agg (yj [.arr 1,.arr 4])]),[(1,.arr 3 yi),(4,.rows 24 3 yi)],[],[]⟩ aLn bU [(0,aLX)]
def G6(k:Int×Int×C4)(v:Int):Tr (Int⊕(Unit⊕Unit)):=.t (v<(length k.2.2.2.1:Int)) (.g (aC k.1 (length k.2.2.2.2))<|.g (aC k.2.2.1 (length (getD k.2.2.2.2 (toNat k.1) [])))<|.g (aC k.1 (length k.2.2.2.2))<|.g (aC v (length (getD k.2.2.2.2 (toNat k.1) [])))<|.g (aC k.2.1 (length k.2.2.2.2))<|.g (aC v (length (getD k.2.2.2.2 (toNat k.2.1) [])))<|.g (aC k.2.1 (length k.2.2.2.2))<|.g (aC k.2.2.1 (length (getD k.2.2.2.2 (toNat k.2.1) [])))<|.t ((wrap .i64 ((wrap .i64 ((getD (getD k.2.2.2.2 (toNat k.1) []) (toNat v) 0)+(getD (getD k.2.2.2.2 (toNat k.2.1) []) (toNat v) 0)))+(getD (getD k.2.2.2.2 (toNat k.2.1) []) (toNat k.2.2.1) 0)))<(getD (getD k.2.2.2.2 (toNat k.1) []) (toNat k.2.2.1) 0)) (.l (.inr (.inr ()))) (.l (.inl (wrap .i64 (v+1))))) (.l (.inr (.inl ())))
def aCk k v:=aB (λv=>(G6 k v).ev) v
abbrev aEI:Keep:=yk [] [1,3,4,5] (yj [.box 1 0,.dat yi,.dat yi,.dat yi]) [jT]
abbrev yL:Keep:=yh [2] Rv
abbrev l4{a b c d e g h:Type}(t:(a×b×c×d×e×g)×h):=t.1.2.2.2.2.1
def aNf:LD:=yl (G6) (yk [] [1,3,4,5,6] (yj [.box 1 0,.dat yi,.dat yi,.dat yi,.dat yi]) [jT]) [(6,aEI)] yL (λk v=>(((),k.1,k.2.1,k.2.2.1,v,()),(k.2.2.2.1,k.2.2.2.2,()),())) (λt=>(t.1.2.1,t.1.2.2.1,t.1.2.2.2.1,t.2.1.1,t.2.1.2.1)) l4 (λk r=>.s _ _ r (λ_=>yx 6 aEI (((),k.1,k.2.1,k.2.2.1,()),(k.2.2.2.1,k.2.2.2.2,()),())) (λ_=>yz yL ((false,()),())))
def F1(k:Int×C4)(v:Int):Tr (Int⊕(Unit⊕Unit)):=.t (v<(length k.2.2.1:Int)) (.c _ (aCk (k.1,k.2.1,v,k.2.2.1,k.2.2.2) 0) λa=>.s _ _ a (λ_=>.l (.inl (wrap .i64 (v+1)))) (λ_=>.l (.inr (.inr ())))) (.l (.inr (.inl ())))
def aCK k v:=aB (λv=>(F1 k v).ev) v
abbrev DY:Keep:=yk [] [1,3,4] (yj [.box 1 0,.dat yi,.dat yi]) [jT]
abbrev aJT{a b c d e:Type}(k:a×b×c×d)(v:e):=(((),k.1,k.2.1,v,()),(k.2.2.1,k.2.2.2,()),())
abbrev aKC{a b c d e g h i:Type}(t:(a×b×c×d)×(e×g×h)×i):=(t.1.2.1,t.1.2.2.1,t.2.1.1,t.2.1.2.1)
abbrev rJ{a b c d e g:Type}(t:(a×b×c×d×e)×g):=t.1.2.2.2.1
def aNY:LD:=yl (F1) aEI [(4,DY)] yL aJT aKC rJ (λk r=>.s _ _ r (λ_=>yx 4 DY (((),k.1,k.2.1,()),(k.2.2.1,k.2.2.2,()),())) (λ_=>yz yL ((false,()),())))
def G1(k:Int×Y1×Y2)(v:Int):Tr (Int⊕(Unit⊕Unit)):=.t (v<(length k.2.2:Int)) (.c _ (aCK (k.1,v,k.2.1,k.2.2) 0) λa=>.s _ _ a (λ_=>.l (.inl (wrap .i64 (v+1)))) (λ_=>.l (.inr (.inr ())))) (.l (.inr (.inl ())))
def aAW k v:=aB (λv=>(G1 k v).ev) v
abbrev IA:Keep:=yk [] [1,3] (yj [.box 1 0,.dat yi]) [jT]
abbrev aLc{a b c d:Type}(k:a×b×c)(v:d):=(((),k.1,v,()),(k.2.1,k.2.2,()),())
abbrev aAa{a b c d e g h:Type}(t:(a×b×c)×(d×e×g)×h):=(t.1.2.1,t.2.1.1,t.2.1.2.1)
abbrev Du{a b c d e:Type}(t:(a×b×c×d)×e):=t.1.2.2.1
def aSN:LD:=yl (G1) DY [(2,IA)] yL aLc aAa Du (λk r=>.s _ _ r (λ_=>yx 2 IA (((),k.1,()),(k.2.1,k.2.2,()),())) (λ_=>yz yL ((false,()),())))
def F7(k:Y1×Y2)(v:Int):Tr (Int⊕(Unit⊕Unit)):=.t (v<(length k.2:Int)) (.c _ (aAW (v,k.1,k.2) 0) λa=>.s _ _ a (λ_=>.l (.inl (wrap .i64 (v+1)))) (λ_=>.l (.inr (.inr ())))) (.l (.inr (.inl ())))
def aFK k v:=aB (λv=>(F7 k v).ev) v
abbrev E8{a b c d e:Type}(t:a×(b×c×d)×e):=(t.2.1.1,t.2.1.2.1)
abbrev PS{a b c d:Type}(t:(a×b×c)×d):=t.1.2.1
def aOb:LD:=yl (F7) IA [(0,aF)] yL (λk v=>(((),v,()),(k.1,k.2,()),())) E8 PS (λ_ r=>.s _ _ r (λ_=>yx 0 aF ((),())) (λ_=>yz yL ((false,()),())))
def PB(a:Y1)(e:List Y1):Tr Bool:=.c _ (aFK (a,e) 0) λb=>.s _ _ b (λ_=>.l true) (λ_=>.l false)
def So a b:=(PB a b).ev
def aIM:FP prog:=aH cx func214 [] (yj [.agg Zh]) [] [] (jO PB) Dj bR bU [(6,aNf),(4,aNY),(2,aSN),(0,aOb)]
def aAn(a b:Int):Tr Int:=.t (a<b) (.l a) (.l b)
def Qc a b:=(aAn a b).ev
def aAc:FP prog:=aH cx func143 [] (yj [.dat yi,.dat yi]) [] [] (dO aAn) kA bR
def KN(k:Int×Int×gD)(v:Int×Y2):Tr (D0⊕Y2):=.t (v.1<(length k.2.2.2:Int)) (.g (aC k.1 (length v.2))<|.g ((toNat k.1)<length v.2)<|.g (aC k.1 (length v.2))<|.g ((toNat k.1)<length v.2)<|.g (aC k.2.2.1 (length (getD v.2 (toNat k.1) [])))<|.g ((toNat k.2.2.1)<length (getD v.2 (toNat k.1) []))<|.g (aC k.1 (length v.2))<|.g ((toNat k.1)<length v.2)<|.g (aC v.1 (length (getD v.2 (toNat k.1) [])))<|.g ((toNat v.1)<length (getD v.2 (toNat k.1) []))<|.g (aC k.2.1 (length v.2))<|.g ((toNat k.2.1)<length v.2)<|.g (aC v.1 (length (getD v.2 (toNat k.2.1) [])))<|.g ((toNat v.1)<length (getD v.2 (toNat k.2.1) []))<|.g (aC k.2.1 (length v.2))<|.g ((toNat k.2.1)<length v.2)<|.g (aC k.2.2.1 (length (getD v.2 (toNat k.2.1) [])))<|.g ((toNat k.2.2.1)<length (getD v.2 (toNat k.2.1) []))<|.c _ (Qc (getD (getD v.2 (toNat k.1) []) (toNat k.2.2.1) 0) (wrap .i64 ((wrap .i64 ((getD (getD v.2 (toNat k.1) []) (toNat v.1) 0)+(getD (getD v.2 (toNat k.2.1) []) (toNat v.1) 0)))+(getD (getD v.2 (toNat k.2.1) []) (toNat k.2.2.1) 0)))) λa=>.g (aC k.2.2.1 (length (getD v.2 (toNat k.1) [])))<|.g ((toNat k.2.2.1)<length (getD v.2 (toNat k.1) []))<|.l (.inl ((wrap .i64 (v.1+1)),(set v.2 (toNat k.1) (set (getD v.2 (toNat k.1) []) (toNat k.2.2.1) a))))) (.l (.inr v.2))
def aKB k v:=aB (λv=>(KN k v).ev) v
abbrev aEc:Keep:=yk [] [2,3,4,5,6] (yj [.box 2 0,.box 3 0,.dat yi,.dat yi,.dat yi]) [(2,.cells (yj [.nilsl,.nilsl])),(3,.cells (yj [.arr 577,.arr 580])),(577,.arr 3 yi),(580,.rows 24 3 yi)]
abbrev aJt{a b c d e g h i j l m n:Type}(t:(a×b×c×d×e×g×h)×i×j×l×m×n):=(t.1.2.2.2.2.2.1,t.2.2.2.2.1)
def aMJ:LD:=yl (KN) (yk [] [2,3,4,5,6,7] (yj [.box 2 0,.box 3 0,.dat yi,.dat yi,.dat yi,.dat yi]) [(2,.cells (yj [.nilsl,.nilsl])),(3,.cells (yj [.arr 577,.arr 580])),(577,.arr 3 yi),(580,.rows 24 3 yi)]) [(8,aEc)] aF (λk v=>(((),(),k.1,k.2.1,k.2.2.1,v.1,()),((),(),()),((),(),()),k.2.2.2,v.2,())) (λt=>(t.1.2.2.1,t.1.2.2.2.1,t.1.2.2.2.2.1,t.2.2.2.1)) aJt (λk r=>yx 8 aEc (((),(),k.1,k.2.1,k.2.2.1,()),((),(),()),((),(),()),k.2.2.2,r,()))
def EQ(k:Int×gD)(v:Int×Y2):Tr (D0⊕Y2):=.t (v.1<(length k.2.2:Int)) (.c _ (aKB (k.1,k.2.1,v.1,k.2.2) (0,v.2)) λa=>.l (.inl ((wrap .i64 (v.1+1)),a))) (.l (.inr v.2))
def aHo k v:=aB (λv=>(EQ k v).ev) v
abbrev aBB:Keep:=yk [] [2,3,4,5] (yj [.box 2 0,.box 3 0,.dat yi,.dat yi]) [(2,.cells (yj [.nilsl,.nilsl])),(3,.cells (yj [.arr 577,.arr 580])),(577,.arr 3 yi),(580,.rows 24 3 yi)]
def aMY:LD:=yl (EQ) aEc [(6,aBB)] aF (λk v=>(((),(),k.1,k.2.1,v.1,()),((),(),()),((),(),()),k.2.2,v.2,())) (λt=>(t.1.2.2.1,t.1.2.2.2.1,t.2.2.2.1)) (λt=>(t.1.2.2.2.2.1,t.2.2.2.2.1)) (λk r=>yx 6 aBB (((),(),k.1,k.2.1,()),((),(),()),((),(),()),k.2.2,r,()))
def Xa(k:Int×Y1)(v:Int×Y2):Tr (D0⊕Y2):=.t (v.1<(length v.2:Int)) (.c _ (aHo (k.1,v.1,k.2) (0,v.2)) λa=>.l (.inl ((wrap .i64 (v.1+1)),a))) (.l (.inr v.2))
def aIJ k v:=aB (λv=>(Xa k v).ev) v
abbrev aGu:Keep:=yk [] [2,3,4] (yj [.box 2 0,.box 3 0,.dat yi]) [(2,.cells (yj [.nilsl,.nilsl])),(3,.cells (yj [.arr 577,.arr 580])),(577,.arr 3 yi),(580,.rows 24 3 yi)]
def aMB:LD:=yl (Xa) aBB [(4,aGu)] aF (λk v=>(((),(),k.1,v.1,()),((),(),()),((),(),()),k.2,v.2,())) (λt=>(t.1.2.2.1,t.2.2.2.1)) (λt=>(t.1.2.2.2.1,t.2.2.2.2.1)) (λk r=>yx 4 aGu (((),(),k.1,()),((),(),()),((),(),()),k.2,r,()))
def GM(k:Y1)(v:Int×Y2):Tr (D0⊕Y2):=.t (v.1<(length v.2:Int)) (.c _ (aIJ (v.1,k) (0,v.2)) λa=>.l (.inl ((wrap .i64 (v.1+1)),a))) (.l (.inr v.2))
def aKR k v:=aB (λv=>(GM k v).ev) v
abbrev FX:Keep:=yk [] [2,3] (yj [.box 2 0,.box 3 0]) [(2,.cells (yj [.nilsl,.nilsl])),(3,.cells (yj [.arr 577,.arr 580])),(577,.arr 3 yi),(580,.rows 24 3 yi)]
abbrev aKo{a b c d e:Type}(t:a×b×c×d×e):=t.2.2.2.1
def aNK:LD:=yl (GM) aGu [(2,FX)] aF (λk v=>(((),(),v.1,()),((),(),()),((),(),()),k,v.2,())) aKo (λt=>(t.1.2.2.1,t.2.2.2.2.1)) (λk r=>yx 2 FX (((),(),()),((),(),()),((),(),()),k,r,()))
def MU(k:Y1)(v:List Y1):Tr (Y2⊕Y2):=.c _ (So k v) λb=>.t (!b) (.c _ (aKR k (0,v)) λa=>.l (.inl a)) (.l (.inr v))
def OC k v:=aB (λv=>(MU k v).ev) v
def aSg:LD:=yl (MU) FX [(0,FX)] aF (λk v=>(((),(),()),((),(),()),((),(),()),k,v,())) aKo (λt=>t.2.2.2.2.1) (λk r=>yx 0 FX (((),(),()),((),(),()),((),(),()),k,r,()))
def aDV(b:Y1)(f:List Y1):Tr (Y1×Y2):=.c _ (aFU b f) λa=>.c _ (OC a.1 a.2) λe=>.l (a.1,e)
def aEx a b:=(aDV a b).ev
def aOj:FP prog:=aH cx func138 [aPH,aIM,aAc] (yj [.agg Zh]) [] [] (jO aDV) ⟨[.ren 577 1,.ren 580 4],[.cell 2 27],(yj [.agg (yj [.arr 1,.arr 4])]),[(1,.arr 3 yi),(4,.rows 24 3 yi)],[],[]⟩ aLn bU [(8,aMJ),(6,aMY),(4,aMB),(2,aNK),(0,aSg)]
noncomputable abbrev Jk(p1:Y1)(p2 p3:Int)(p4:Y1)(p5:List Y1):=(.c _ (aDx p1 p2 p3 p4 p5) λa=>.l (a.1,a.2.1,a.2.2.1,a.2.2.2.1,a.2.2.2.2):Tr (Y1×Y2×yA))
def aFl(g:Int)(l:Y1)(j i:Int):Tr (Y1×Y2×yA):=.c _ (mW 3 l j i) λa=>.t (a.1==0) (.c _ (Yc g a.2.1 a.2.2.1 a.2.2.2) λe=>Jk e.2.2.1 e.2.2.2.1 e.2.2.2.2 e.1 e.2.1) (.t (a.1==1) (.c _ (aBr g a.2.1 a.2.2.1 a.2.2.2) λf=>Jk f.2.2.1 f.2.2.2.1 f.2.2.2.2 f.1 f.2.1) (.c _ (Yc g a.2.1 a.2.2.1 a.2.2.2) λb=>.c _ (aEx b.1 b.2.1) λh=>Jk b.2.2.1 b.2.2.2.1 b.2.2.2.2 h.1 h.2))
def OQ c e b a:=(aFl c e b a).ev
def aPB:FP prog:=aH cx func87 [oH,aHH,aSj,aPO,aOj] (yj [.box 64 0,.dat yi]) [Zj] [.arg 0] (SB aFl) ⟨[.ren 833 1,.ren 1281 1,.ren 1665 1,.ren 834 2,.ren 1282 2,.ren 1666 2],[.cell 4 27],(yj [.agg (yj [.arr 1,.arr 2])]),[(1,.arr 3 yi),(2,.rows 24 3 yi),Zj],[(0,0,64)],[]⟩ MR
def ZJ(a c b:Int):Tr Bool:=.t (c<=a) (.l (a<=b)) (.l false)
def rK c b a:=(ZJ c b a).ev
abbrev Te{a b c d e:Type}{z:Type _}(f:a->b->c->z)(x:(a×b×c×d)×e):z:=f x.1.1 x.1.2.1 x.1.2.2.1
abbrev Dd:RetK:=yr [.tmp 6] Rv
def D4:FP prog:=aH cx func61 [] (yj [.dat yi,.dat yi,.dat yi]) [] [] (Te ZJ) Dd bR
def HA(k:Y1×jA)(v:Int):Tr (Int⊕(Unit⊕Unit)):=.t (v<(length k.1:Int)) (.g (aC v (length k.1))<|.c _ (rK (getD k.1 (toNat v) 0) 0 k.2.2) λa=>.t (!a) (.l (.inr (.inr ()))) (.l (.inl (wrap .i64 (v+1))))) (.l (.inr (.inl ())))
def aJD k v:=aB (λv=>(HA k v).ev) v
abbrev WV:Keep:=yh [0,1,2,7] (yj [.dat y1,.dat yi,.dat yi,.dat yi])
abbrev XM:Keep:=yh [0,1] (yj [.dat y1,.dat yi])
abbrev rU:Keep:=yh [6] Rv
abbrev xI{a b c d:Type}(k:a×b×c)(v:d):=((k.1,k.2.1,k.2.2,v,()),())
abbrev wZ{a b c d e:Type}(t:(a×b×c×d)×e):=(t.1.1,t.1.2.1,t.1.2.2.1)
def aSt:LD:=yl (HA) WV [(0,XM)] rU xI wZ rJ (λk r=>.s _ _ r (λ_=>yx 0 XM ((k.1,k.2.1,()),())) (λ_=>yz rU ((false,()),())))
def aCn(b:Y1)(a e:Int):Tr Bool:=.c _ (aJD (b,a,e) 0) λf=>.s _ _ f (λ_=>.l ((length b:Int)==a)) (λ_=>.l false)
def PO c b a:=(aCn c b a).ev
def aQP:FP prog:=aH cx func96 [D4] (yj [.dat y1,.dat yi,.dat yi]) [] [] (Te aCn) Dd bR bU [(0,aSt)]
def HD(k:Int×Y1×Y2)(v:Int):Tr (Int⊕(Unit⊕Unit)):=.t (v<(length k.2.2:Int)) (.g (aC v (length k.2.2))<|.c _ (PO (getD k.2.2 (toNat v) []) k.1 99) λa=>.t (!a) (.l (.inr (.inr ()))) (.l (.inl (wrap .i64 (v+1))))) (.l (.inr (.inl ())))
def aJg k v:=aB (λv=>(HD k v).ev) v
def aMV:LD:=yl (HD) DY [(0,IA)] yL aLc aAa Du (λk r=>.s _ _ r (λ_=>yx 0 IA (((),k.1,()),(k.2.1,k.2.2,()),())) (λ_=>yz yL ((false,()),())))
def aDn(a:Y1)(b:List Y1):Tr Bool:=.c _ (aJg ((length a:Int),a,b) 0) λe=>.s _ _ e (λ_=>.c _ (rK (length a:Int) 1 7) λg=>.t g (.c _ (PO a (length a:Int) 99) λf=>.t f (.l ((length b:Int)<=(7:Int))) (.l false)) (.l false)) (λ_=>.l false)
def uO a b:=(aDn a b).ev
def E4:FP prog:=aH cx func59 [aQP,D4] (yj [.agg Zh]) [] [] (jO aDn) Dj bR bU [(0,aMV)]
def aDT(f:Int)(g:Y1)(e b:Int):Tr (Bool×yA):=.c _ (mW f g e b) λa=>.l ((a.1==0),a.2.1,a.2.2.1,a.2.2.2)
def F2 c e b a:=(aDT c e b a).ev
def BT:FP prog:=aH cx func50 [oH] (yj [.box 64 0,.dat yi]) [Zj] [.arg 0] (SB aDT) ⟨[],[.tmp 4],Rv,[Zj],[(0,0,64)],[]⟩ yq5
def Qd(k:Int×Int)(v:Int×Y1):Tr (gD⊕Y1):=.t (v.1<k.1) (.g (0<=v.1)<|.t ((wrap .i64 (BitVec.toNat ((BitVec.ofInt (IntKind.bits .i64) (Int.fdiv k.2 (2^(min (toNat v.1) (IntKind.bits .i64)))))&&& (BitVec.ofInt (IntKind.bits .i64) 1))))==(1:Int)) (.g ((length v.2+length ([v.1]:Y1))*8<=140737488355328)<|.l (.inl ((wrap .i64 (v.1+1)),(v.2++([v.1]:Y1))))) (.l (.inl ((wrap .i64 (v.1+1)),v.2)))) (.l (.inr v.2))
def aHB k v:=aB (λv=>(Qd k v).ev) v
abbrev O8:Keep:=yk [] [5] (yj [.arr 7]) [(7,.arr 3 yi)]
abbrev UE{a b c d:Type}(k:a×b)(v:c×d):=((k.1,k.2,(),v.1,()),v.2,())
abbrev rX{a b c d:Type}(t:(a×b×c)×d):=(t.1.1,t.1.2.1)
abbrev A9{a b c d e g h:Type}(t:(a×b×c×d×e)×g×h):=(t.1.2.2.2.1,t.2.1)
def aTi:LD:=yl (Qd) (yk [] [0,1,5,6] (yj [.dat yi,.dat yi,.arr 7,.dat yi]) [(7,.arr 3 yi)]) [(0,O8)] aF UE rX A9 (λ_ r=>yx 0 O8 (((),()),r,()))
def aCP(a e:Int):Tr Y1:=.c _ (aHB (a,e) (0,[])) λb=>.l b
def Ff a b:=(aCP a b).ev
abbrev Xe:RetK:=⟨[.ren 7 0],[.tmp 4],q8,[tK],[],[]⟩
def aDk:FP prog:=aH cx func88 [] (yj [.dat yi,.dat yi]) [] [] (dO aCP) Xe kG bU [(0,aTi)]
def Py(k:Y1×jA)(v:Int):Tr (Int⊕(Unit⊕Unit)):=.t (v<(length k.1:Int)) (.g (aC v (length k.1))<|.c _ (rK (getD k.1 (toNat v) 0) k.2.1 k.2.2) λa=>.t (!a) (.l (.inr (.inr ()))) (.t (0<v) (.g (aC (wrap .i64 (v-1)) (length k.1))<|.g (aC v (length k.1))<|.t ((getD k.1 (toNat v) 0)<=(getD k.1 (toNat (wrap .i64 (v-1))) 0)) (.l (.inr (.inr ()))) (.l (.inl (wrap .i64 (v+1))))) (.l (.inl (wrap .i64 (v+1)))))) (.l (.inr (.inl ())))
def aIE k v:=aB (λv=>(Py k v).ev) v
def aOn:LD:=yl (Py) WV [(0,aF)] rU xI wZ rJ (λ_ r=>.s _ _ r (λ_=>yx 0 aF ((),())) (λ_=>yz rU ((false,()),())))
def aEt(f:Y1)(e a:Int):Tr Bool:=.c _ (aIE (f,e,a) 0) λb=>.s _ _ b (λ_=>.l true) (λ_=>.l false)
def aEj c b a:=(aEt c b a).ev
def aSJ:FP prog:=aH cx func97 [D4] (yj [.dat y1,.dat yi,.dat yi]) [] [] (Te aEt) Dd bR bU [(0,aOn)]
def YM(e:Y1)(_f:List Y1)(a:Y1):Tr Bool:=.c _ (aEj a 0 (wrap .i64 ((length e:Int) -1))) λb=>.l b
def QF c b a:=(YM c b a).ev
abbrev bH{a b c d e g:Type}{z:Type _}(f:a->b->d->z)(x:((a×b×c)×d×e)×g):z:=f x.1.1.1 x.1.1.2.1 x.1.2.1
abbrev eC:RetK:=yr [.tmp 4] Rv
def aLx:FP prog:=aH cx func60 [aSJ] (yj [.agg Zh,.dat y1]) [] [] (bH YM) eC bR
def aBT(b:Y1)(a:List Y1)(f:Y1)(g:Int):Tr Bool:=.c _ (uO b a) λh=>.t h (.c _ (QF b a f) λe=>.t e (.c _ (rK g 0 1000) λi=>.l i) (.l false)) (.l false)
def Jn e b a c:=(aBT e b a c).ev
abbrev rW{a b c d e g h:Type}{z:Type _}(f:a->b->c->d->z)(x:((a×b×c×d×e)×g)×h):z:=f x.1.1.1 x.1.1.2.1 x.1.1.2.2.1 x.1.1.2.2.2.1
def DL:FP prog:=aH cx func30 [E4,aLx,D4] (yj [.agg Zl]) [] [] (rW aBT) Dj bR
def Vb(k:Int)(v:Int×Wq):Tr ((Int×Wq)⊕Wq):=.t (v.1<k) (.t (v.1<7) (.c _ (mW 20 v.2.1 v.2.2.1 v.2.2.2.1) λa=>.g ((length v.2.2.2.2+length ([a.1]:Y1))*8<=140737488355328)<|.l (.inl ((wrap .i64 (v.1+1)),a.2.1,a.2.2.1,a.2.2.2,(v.2.2.2.2++([a.1]:Y1))))) (.l (.inr (v.2.1,v.2.2.1,v.2.2.2.1,v.2.2.2.2)))) (.l (.inr (v.2.1,v.2.2.1,v.2.2.2.1,v.2.2.2.2)))
def aLI k v:=aB (λv=>(Vb k v).ev) v
abbrev UJ:Keep:=yk [] [0,5] (yj [.box 64 0,.arr 7]) [Zj,(7,.arr 3 yi)]
def aOH:LD:=yl (Vb) (yk [] [0,1,5,6] (yj [.box 64 0,.dat yi,.arr 7,.dat yi]) [Zj,(7,.arr 3 yi)]) [(0,UJ)] aF (λk v=>(((),k,(),v.1,()),(v.2.1,v.2.2.1,v.2.2.2.1,()),v.2.2.2.2,())) PS (λt=>(t.1.2.2.2.1,t.2.1.1,t.2.1.2.1,t.2.1.2.2.1,t.2.2.1)) (λ_ r=>yx 0 UJ (((),(),()),(r.1,r.2.1,r.2.2.1,()),r.2.2.2,()))
def aCO(i:Int)(j:Y1)(h f:Int):Tr (Y1×yA):=.c _ (aLI i (0,j,h,f,[])) λb=>.c _ (F2 12 b.1 b.2.1 b.2.2.1) λa=>.t a.1 (.c _ (mF ([0,(-1),100]:Y1) a.2.1 a.2.2.1 a.2.2.2) λe=>.g ((length b.2.2.2+length ([e.1]:Y1))*8<=140737488355328)<|.l ((b.2.2.2++([e.1]:Y1)),e.2.1,e.2.2.1,e.2.2.2)) (.l (b.2.2.2,a.2.1,a.2.2.1,a.2.2.2))
def HN c e b a:=(aCO c e b a).ev
def aQe:FP prog:=aH cx func144 [oH,BT,Hm] (yj [.box 64 0,.dat yi]) [Zj] [.arg 0] (SB aCO) ⟨[.ren 7 0],[.tmp 4],q8,[tK,Zj],[(0,0,64)],[]⟩ (λr=>(((),()),r.1,(r.2.1,r.2.2.1,r.2.2.2,()),())) (s8 [(7,[(3,[26])])]) [(0,aOH)]
noncomputable abbrev vT(p1:Y1)(p2 p3 p4 p5 p6 p7:Int):=(.c _ (mW 32 p1 p2 p3) λa=>.t (a.1==0) (.c _ (mF ([(-1),7,4611686018427387904]:Y1) a.2.1 a.2.2.1 a.2.2.2) λb=>.l ((wrap .i64 ((1:Int)+p4)),b.1,p5,p6,[],b.2.1,b.2.2.1,b.2.2.2)) (.t (a.1==1) (.c _ (mF ([(-1),1]:Y1) a.2.1 a.2.2.1 a.2.2.2) λf=>.l ((wrap .i64 ((1:Int)+p4)),p7,p5,f.1,[],f.2.1,f.2.2.1,f.2.2.2)) (.t (a.1==2) (.c _ (mF ([0,12,(-1)]:Y1) a.2.1 a.2.2.1 a.2.2.2) λe=>.l (e.1,p7,p5,p6,[],e.2.1,e.2.2.1,e.2.2.2)) (.t (a.1==3) (.g (length ([1]:Y1)*8<=140737488355328)<|.l ((wrap .i64 ((1:Int)+p4)),p7,p5,p6,([1]:Y1),a.2.1,a.2.2.1,a.2.2.2)) (.l ((wrap .i64 ((1:Int)+p4)),p7,p5,p6,[],a.2.1,a.2.2.1,a.2.2.2))))):Tr (Int×Int×Int×Int×Y1×yA))
noncomputable abbrev CI(p1:Y1)(p2 p3 p4:Int)(p5:Y1)(p6:Int):=(.c _ (mW 32 p1 p2 p3) λa=>.t (a.1==0) (.c _ (mF ([(-1),7,4611686018427387904]:Y1) a.2.1 a.2.2.1 a.2.2.2) λe=>.l ((wrap .i64 ((1:Int)+p4)),e.1,0,0,p5,e.2.1,e.2.2.1,e.2.2.2)) (.t (a.1==1) (.c _ (mF ([(-1),1]:Y1) a.2.1 a.2.2.1 a.2.2.2) λf=>.l ((wrap .i64 ((1:Int)+p4)),p6,0,f.1,p5,f.2.1,f.2.2.1,f.2.2.2)) (.t (a.1==2) (.c _ (mF ([0,12,(-1)]:Y1) a.2.1 a.2.2.1 a.2.2.2) λb=>.l (b.1,p6,0,0,p5,b.2.1,b.2.2.1,b.2.2.2)) (.t (a.1==3) (.g ((length p5+length ([1]:Y1))*8<=140737488355328)<|.l ((wrap .i64 ((1:Int)+p4)),p6,0,0,(p5++([1]:Y1)),a.2.1,a.2.2.1,a.2.2.2)) (.l ((wrap .i64 ((1:Int)+p4)),p6,0,0,p5,a.2.1,a.2.2.1,a.2.2.2))))):Tr (Int×Int×Int×Int×Y1×yA))
noncomputable abbrev Gn(p1 p2 p3:Int)(p4:Y1)(p5 p6 p7:Int)(p8:List Y1)(p9:Y1):=(.t ((wrap .i64 ((1:Int)+p1))==p2) (.c _ (mW p3 p4 p5 p6) λf=>vT f.2.1 f.2.2.1 f.2.2.2 p1 0 0 f.1) (.t ((wrap .i64 ((1:Int)+p1))==(3:Int)) (.c _ (mW p3 p4 p5 p6) λj=>.c _ (mW p3 j.2.1 j.2.2.1 j.2.2.2) λm=>vT m.2.1 m.2.2.1 m.2.2.2 p1 m.1 0 j.1) (.t ((wrap .i64 ((1:Int)+p1))==(4:Int)) (.c _ (mW p3 p4 p5 p6) λa=>.c _ (mF ([0,3,10,99,100]:Y1) a.2.1 a.2.2.1 a.2.2.2) λl=>vT l.2.1 l.2.2.1 l.2.2.2 p1 l.1 0 a.1) (.t ((wrap .i64 ((1:Int)+p1))==(5:Int)) (.c _ (mW p7 p4 p5 p6) λo=>.c _ (mW p3 o.2.1 o.2.2.1 o.2.2.2) λh=>.c _ (mF ([0,3,10,99,100]:Y1) h.2.1 h.2.2.1 h.2.2.2) λn=>vT n.2.1 n.2.2.1 n.2.2.2 p1 h.1 n.1 o.1) (.t ((wrap .i64 ((1:Int)+p1))==(6:Int)) (.c _ (mW 20 p4 p5 p6) λe=>.c _ (HN (length p8:Int) e.2.1 e.2.2.1 e.2.2.2) λi=>CI i.2.1 i.2.2.1 i.2.2.2 p1 i.1 e.1) (.t ((wrap .i64 ((1:Int)+p1))==(7:Int)) (.c _ (HN (length p9:Int) p4 p5 p6) λg=>CI g.2.1 g.2.2.1 g.2.2.2 p1 g.1 0) (.t ((wrap .i64 ((1:Int)+p1))==(9:Int)) (.c _ (mW p7 p4 p5 p6) λb=>vT b.2.1 b.2.2.1 b.2.2.2 p1 0 0 b.1) (vT p4 p5 p6 p1 0 0 0))))))):Tr (Int×Int×Int×Int×Y1×yA))
def NH(e:Y1)(b:List Y1)(m:Y1)(j i:Int):Tr (Int×Int×Int×Int×Y1×yA):=.c _ (mW 11 m j i) λa=>.c _ (Qc (length e:Int) 7) λh=>.c _ (Km 1 h) λg=>.c _ (Qc (length b:Int) 7) λl=>.c _ (Km 1 l) λf=>.t ((wrap .i64 ((1:Int)+a.1))==(1:Int)) (Gn a.1 1 g a.2.1 a.2.2.1 a.2.2.2 f b e) (.t ((wrap .i64 ((1:Int)+a.1))==(2:Int)) (Gn a.1 2 g a.2.1 a.2.2.1 a.2.2.2 f b e) (Gn a.1 8 g a.2.1 a.2.2.1 a.2.2.2 f b e))
def aKy e a f c b:=(NH e a f c b).ev
def aSr:FP prog:=aH cx func90 [oH,aAc,QE,Hm,aQe] (yj [.box 64 0,.agg Zh]) [Zj] [.arg 0] ((λf x=>f x.1.2.1.1 x.1.2.1.2.1 x.2.1.1 x.2.1.2.1 x.2.1.2.2.1) NH) ⟨[.ownB 4 4 1 3 yi,.ren 116 1,.ren 4800 1,.ren 5312 1],[.cell 4 109],(yj [.agg (yj [.dat yi,.dat yi,.dat yi,.dat yi,.arr 1])]),[(1,.arr 3 yi),Zj],[(0,0,64)],[]⟩ (λr=>(((r.1,r.2.1,r.2.2.1,r.2.2.2.1,(),()),()),r.2.2.2.2.1,(r.2.2.2.2.2.1,r.2.2.2.2.2.2.1,r.2.2.2.2.2.2.2,()),())) (s8 [(27,[(2,[96])]),(29,[(2,[102])]),(31,[(2,[108])]),(13,[(2,[49])]),(17,[(2,[63])])])
noncomputable abbrev DX(p1 p2 p3:Int)(p4:Y1)(p5 p6:Int):=(.t (p1==p2) (.t (p3==0) (.l ((length p4:Int)==(0:Int))) (.l false)) (.t (p1==5) (.l ((length p4:Int)==(0:Int))) (.t (p1==6) (.t (p5==0) (.l (p3==0)) (.l false)) (.t (p1==7) (.t (p6==0) (.t (p5==0) (.l (p3==0)) (.l false)) (.l false)) (.t (p1==10) (.t (p6==0) (.t (p5==0) (.t (p3==0) (.l ((length p4:Int)==(0:Int))) (.l false)) (.l false)) (.l false)) (.t (p1==11) (.t (p6==0) (.t (p5==0) (.t (p3==0) (.l ((length p4:Int)==(0:Int))) (.l false)) (.l false)) (.l false)) (.l false)))))):Tr Bool)
noncomputable abbrev X5(p1 p2 p3 p4:Int)(p5:Y1)(p6:Int):=(.t (p1==p2) (.t (p3==0) (.t (p4==0) (.l ((length p5:Int)==(0:Int))) (.l false)) (.l false)) (.t (p1==3) (DX p1 3 p4 p5 p3 p6) (DX p1 4 p4 p5 p3 p6)):Tr Bool)
def aCz(a e c f:Int)(b:Y1):Tr Bool:=.t (a==1) (X5 a 1 c f b e) (.t (a==2) (X5 a 2 c f b e) (.t (a==8) (X5 a 8 c f b e) (X5 a 9 c f b e)))
def aEd f c b e a:=(aCz f c b e a).ev
abbrev Do{a b c d e g h i:Type}{z:Type _}(f:a->b->c->d->e->z)(x:((a×b×c×d×e×g)×h)×i):z:=f x.1.1.1 x.1.1.2.1 x.1.1.2.2.1 x.1.1.2.2.2.1 x.1.1.2.2.2.2.1
def aLU:FP prog:=aH cx func139 [] (yj [.agg UC]) [] [] (Do aCz) Dj bR
def aBF(e:Y1)(_f:List Y1)(a:Int):Tr Bool:=.c _ (rK a 0 (wrap .i64 ((length e:Int) -1))) λb=>.l b
def BM c b a:=(aBF c b a).ev
def aIa:FP prog:=aH cx func217 [D4] (yj [.agg Zh,.dat yi]) [] [] (bH aBF) eC bR
def EH(k:Y1×Int)(v:Int):Tr (Int⊕(Unit⊕Unit)):=.t (v<(length k.1:Int)) (.g (aC v (length k.1))<|.t ((getD k.1 (toNat v) 0)==k.2) (.l (.inr (.inr ()))) (.l (.inl (wrap .i64 (v+1))))) (.l (.inr (.inl ())))
def aIX k v:=aB (λv=>(EH k v).ev) v
abbrev Ny:Keep:=yh [0,1,5] (yj [.dat y1,.dat yi,.dat yi])
abbrev lM:Keep:=yh [4] Rv
abbrev N0{a b c:Type}(k:a×b)(v:c):=((k.1,k.2,v,()),())
def aMA:LD:=yl (EH) Ny [(0,aF)] lM N0 rX Du (λ_ r=>.s _ _ r (λ_=>yx 0 aF ((),())) (λ_=>yz lM ((true,()),())))
def aAj(e:Y1)(b:Int):Tr Bool:=.c _ (aIX (e,b) 0) λa=>.s _ _ a (λ_=>.l false) (λ_=>.l true)
def Es a b:=(aAj a b).ev
def aEf:FP prog:=aH cx func216 [] (yj [.dat y1,.dat yi]) [] [] (dO aAj) eC bR bU [(0,aMA)]
def aEa(h:Y1)(f:List Y1)(e:Y1)(_i a:Int):Tr Bool:=.c _ (BM h f a) λg=>.t g (.c _ (Es e a) λb=>.l (!b)) (.l false)
def OT f c b e a:=(aEa f c b e a).ev
abbrev J6{a b c d e g h i:Type}{z:Type _}(f:a->b->c->d->g->z)(x:((a×b×c×d×e)×g×h)×i):z:=f x.1.1.1 x.1.1.2.1 x.1.1.2.2.1 x.1.1.2.2.2.1 x.1.2.1
def aTo:FP prog:=aH cx func215 [aIa,aEf] (yj [.agg Zl,.dat yi]) [] [] (J6 aEa) eC bR
noncomputable abbrev HO(p1 p2:Int)(p3:Y1)(p4:List Y1)(p5:Y1)(p6 p7 p8:Int)(p9:Y1):=(.t (p1==p2) (.c _ (OT p3 p4 p5 p6 p7) λg=>.l g) (.t (p1==2) (.c _ (Es p5 p7) λf=>.l f) (.t (p1==3) (.c _ (Es p5 p7) λj=>.t j (.c _ (OT p3 p4 p5 p6 p8) λh=>.l h) (.l false)) (.t (p1==4) (.c _ (BM p3 p4 p7) λb=>.l b) (.t (p1==5) (.c _ (rK p7 0 (wrap .i64 ((length p4:Int) -1))) λe=>.t e (.c _ (BM p3 p4 p8) λa=>.l a) (.l false)) (.t (p1==6) (.l ((length p9:Int)==(length p4:Int))) (.t (p1==9) (.c _ (rK p7 0 (wrap .i64 ((length p4:Int) -1))) λi=>.l i) (.t (p1==10) (.l ((0:Int)<(length p5:Int))) (.l true)))))))):Tr Bool)
def aFC(i:Y1)(g:List Y1)(e:Y1)(h a b c _j:Int)(f:Y1):Tr Bool:=.t (a==1) (HO a 1 i g e h b c f) (HO a 8 i g e h b c f)
def aBV j h f i e a c b g:=(aFC j h f i e a c b g).ev
abbrev Bv{a b c d e g h i j l m n o:Type}{z:Type _}(f:a->b->c->d->g->h->i->j->l->z)(x:((a×b×c×d×e)×(g×h×i×j×l×m)×n)×o):z:=f x.1.1.1 x.1.1.2.1 x.1.1.2.2.1 x.1.1.2.2.2.1 x.1.2.1.1 x.1.2.1.2.1 x.1.2.1.2.2.1 x.1.2.1.2.2.2.1 x.1.2.1.2.2.2.2.1
def aPF:FP prog:=aH cx func140 [aTo,aEf,aIa,D4] (yj [.agg Zl,.agg UC]) [] [] (Bv aFC) eC bR
def HM(k:Y1×Y2×Y1×Int×Int×Y2×Y1)(v:Int×Y2):Tr (D0⊕Y2):=.t (v.1<(length k.2.1:Int)) (.g (aC v.1 (length k.2.1))<|.c _ (pY (getD k.2.1 (toNat v.1) [])) λa=>.g ((length v.2+1)*24<=140737488355328)<|.l (.inl ((wrap .i64 (v.1+1)),(set (v.2++ [[]]) (length v.2) a)))) (.l (.inr v.2))
def aHF k v:=aB (λv=>(HM k v).ev) v
abbrev VS:Keep:=yk [] [1,2,3] (yj [.box 1 0,.box 2 0,.box 3 0]) [(1,.cells Zl),(2,.cells (yj [.nilsl,.arr 900321,.nilsl,.dat yi])),(3,.cells (yj [.arr 512,.arr 9])),(900321,.rows 24 3 yi),(512,.arr 3 yi),(9,.rows 24 3 yi)]
def aNH:LD:=yl (HM) (yk [.ownRB 2 1 900321 24 3 yi] [1,2,3,4] (yj [.box 1 0,.box 2 0,.box 3 0,.dat yi]) [(1,.cells Zl),(2,.cells (yj [.nilsl,.arr 900321,.nilsl,.dat yi])),(3,.cells (yj [.arr 512,.arr 9])),(900321,.rows 24 3 yi),(512,.arr 3 yi),(9,.rows 24 3 yi)]) [(0,VS)] aF (λk v=>(((),(),(),v.1,()),(k.1,k.2.1,k.2.2.1,k.2.2.2.1,()),((),(),(),k.2.2.2.2.1,()),((),(),()),k.2.2.2.2.2.1,k.2.2.2.2.2.2,v.2,())) (λt=>(t.2.1.1,t.2.1.2.1,t.2.1.2.2.1,t.2.1.2.2.2.1,t.2.2.1.2.2.2.1,t.2.2.2.2.1,t.2.2.2.2.2.1)) aHf (λk r=>yx 0 VS (((),(),(),()),(k.1,k.2.1,k.2.2.1,k.2.2.2.1,()),((),(),(),k.2.2.2.2.1,()),((),(),()),k.2.2.2.2.2.1,k.2.2.2.2.2.2,r,()))
def aDf(f:Y1)(h:List Y1)(a:Y1)(b:Int):Tr (Int×Oi):=.c _ (pY f) λe=>.c _ (aHF (f,h,a,b,0,[],e) (0,[])) λg=>.c _ (pY a) λi=>.l (b,e,g,i)
def Z3 e b a c:=(aDf e b a c).ev
abbrev Mz{a b c d:Type}(r:a×b×c×d):=((((),(),(),r.1,()),()),r.2.1,r.2.2.1,r.2.2.2,())
def JY:FP prog:=aH cx func31 [Da] (yj [.agg Zl]) [] [] (rW aDf) ⟨[.ren 512 4,.ren 9 5,.ren 2176 6],[.cell 2 29],(yj [.agg (yj [.arr 4,.arr 5,.arr 6,.dat yi])]),[(4,.arr 3 yi),(5,.rows 24 3 yi),(6,.arr 3 yi)],[],[]⟩ Mz (s8 [(1,[(4,[1000000])])]) [(0,aNH)]
def Qm(k:Y1×Int)(v:Int):Tr (Int⊕Int):=.t (v<(length k.1:Int)) (.g (aC v (length k.1))<|.t ((getD k.1 (toNat v) 0)<k.2) (.l (.inl (wrap .i64 (v+1)))) (.l (.inr v))) (.l (.inr v))
def YB k v:=aB (λv=>(Qm k v).ev) v
def aRJ:LD:=yl (Qm) Ny [(0,Ny)] aF N0 rX Du (λk r=>yx 0 Ny ((k.1,k.2,r,()),()))
noncomputable abbrev DD(p1:Int)(p2:Y1)(p3:Int):=(.g ((0<=p1)&&(p1<=(length p2:Int)))<|.g ((length ([]:Y1)+length (List.drop 0 (List.take (toNat p1) p2)))*8<=140737488355328)<|.g ((length (([]:Y1)++(List.drop 0 (List.take (toNat p1) p2)))+length ([p3]:Y1))*8<=140737488355328)<|.g ((0<=p1)&&(p1<=(length p2:Int)))<|.g ((length ((([]:Y1)++(List.drop 0 (List.take (toNat p1) p2)))++([p3]:Y1))+length (List.drop (toNat p1) (List.take (length p2) p2)))*8<=140737488355328)<|.l (((([]:Y1)++(List.drop 0 (List.take (toNat p1) p2)))++([p3]:Y1))++(List.drop (toNat p1) (List.take (length p2) p2))):Tr Y1)
def YO(a:Y1)(e:Int):Tr Y1:=.c _ (YB (a,e) 0) λb=>.t (b<(length a:Int)) (.g (aC b (length a))<|.t ((getD a (toNat b) 0)==e) (.f) (DD b a e)) (DD b a e)
def Df a b:=(YO a b).ev
def aBq:FP prog:=aH cx func218 [] (yj [.dat y1,.dat yi]) [] [] (dO YO) ⟨[.ren 33 0],[.tmp 4],q8,[tK],[],[]⟩ kG (s8 [(5,[(1,[140000000])])]) [(0,aRJ)]
def Vv(k:Y1×Int)(v:Int×Y1):Tr (gD⊕Y1):=.t (v.1<(length k.1:Int)) (.g (aC v.1 (length k.1))<|.t ((getD k.1 (toNat v.1) 0) !=k.2) (.g (aC v.1 (length k.1))<|.g ((length v.2+length ([(getD k.1 (toNat v.1) 0)]:Y1))*8<=140737488355328)<|.l (.inl ((wrap .i64 (v.1+1)),(v.2++([(getD k.1 (toNat v.1) 0)]:Y1))))) (.l (.inl ((wrap .i64 (v.1+1)),v.2)))) (.l (.inr v.2))
def aGp k v:=aB (λv=>(Vv k v).ev) v
def aNQ:LD:=yl (Vv) (yk [] [0,1,5,6] (yj [.dat y1,.dat yi,.arr 7,.dat yi]) [(7,.arr 3 yi)]) [(0,O8)] aF UE rX A9 (λ_ r=>yx 0 O8 (((),()),r,()))
def aAD(b:Y1)(e:Int):Tr Y1:=.c _ (aGp (b,e) (0,[])) λa=>.l a
def Wr a b:=(aAD a b).ev
def aGQ:FP prog:=aH cx func219 [] (yj [.dat y1,.dat yi]) [] [] (dO aAD) Xe kG bU [(0,aNQ)]
def aDH(a:Y1)(b:Int):Tr Y1:=.g ((0<=b)&&(b<=(length a:Int)))<|.c _ (pY (List.drop 0 (List.take (toNat b) a))) λe=>.g (((0:Int)<=(wrap .i64 (b+1)))&&((wrap .i64 (b+1))<=(length a:Int)))<|.g ((length e+length (List.drop (toNat (wrap .i64 (b+1))) (List.take (length a) a)))*8<=140737488355328)<|.l (e++(List.drop (toNat (wrap .i64 (b+1))) (List.take (length a) a)))
def PQ a b:=(aDH a b).ev
def aMm:FP prog:=aH cx func277 [Da] (yj [.dat y1,.dat yi]) [] [] (dO aDH) ⟨[.ren 512 0],[.tmp 4],q8,[tK],[],[]⟩ kG
def BP(k:Int×Y1×Y2×Y1×Int×Int×Int×Y1×Y1)(v:Int×Y2):Tr (D0⊕Y2):=.t (v.1<(length k.2.2.1:Int)) (.g (aC v.1 (length k.2.2.1))<|.c _ (PQ (getD k.2.2.1 (toNat v.1) []) k.1) λa=>.g (aC v.1 (length v.2))<|.g ((toNat v.1)<length v.2)<|.l (.inl ((wrap .i64 (v.1+1)),(set v.2 (toNat v.1) a)))) (.l (.inr v.2))
def aHI k v:=aB (λv=>(BP k v).ev) v
abbrev QY:Keep:=yk [] [1,4,5] (yj [.dat yi,.box 4 0,.box 5 0]) [(4,.cells Na),(5,.cells (yj [.arr 896,.arr 581,.arr 582,.dat yi])),(896,.arr 3 yi),(581,.rows 24 3 yi),(582,.arr 3 yi)]
def aRn:LD:=yl (BP) (yk [] [1,2,4,5,6] (yj [.dat yi,.box 2 0,.box 4 0,.box 5 0,.dat yi]) [(2,.cells Zl),(4,.cells Na),(5,.cells (yj [.arr 896,.arr 581,.arr 582,.dat yi])),(896,.arr 3 yi),(581,.rows 24 3 yi),(582,.arr 3 yi)]) [(0,QY)] aF (λk v=>((k.1,(),(),(),v.1,()),(k.2.1,k.2.2.1,k.2.2.2.1,k.2.2.2.2.1,()),((),(),(),k.2.2.2.2.2.1,()),((),(),(),k.2.2.2.2.2.2.1,()),k.2.2.2.2.2.2.2.1,v.2,k.2.2.2.2.2.2.2.2,())) (λt=>(t.1.1,t.2.1.1,t.2.1.2.1,t.2.1.2.2.1,t.2.1.2.2.2.1,t.2.2.1.2.2.2.1,t.2.2.2.1.2.2.2.1,t.2.2.2.2.1,t.2.2.2.2.2.2.1)) (λt=>(t.1.2.2.2.2.1,t.2.2.2.2.2.1)) (λk r=>yx 0 QY ((k.1,(),(),()),((),(),(),k.2.2.2.2.2.1,()),((),(),(),k.2.2.2.2.2.2.1,()),k.2.2.2.2.2.2.2.1,r,k.2.2.2.2.2.2.2.2,()))
def Sy(k:Int×Int×C4)(v:Int×Y1):Tr (gD⊕Y1):=.t (v.1<(length v.2:Int)) (.g (aC v.1 (length v.2))<|.g ((toNat v.1)<length v.2)<|.t (k.1<(getD v.2 (toNat v.1) 0)) (.g (aC v.1 (length v.2))<|.g ((toNat v.1)<length v.2)<|.g (aC v.1 (length v.2))<|.g ((toNat v.1)<length v.2)<|.l (.inl ((wrap .i64 (v.1+1)),(set v.2 (toNat v.1) (wrap .i64 ((getD v.2 (toNat v.1) 0) -1)))))) (.l (.inl ((wrap .i64 (v.1+1)),v.2)))) (.l (.inr v.2))
def aIS k v:=aB (λv=>(Sy k v).ev) v
abbrev RT:Keep:=yk [] [4,5] (yj [.box 4 0,.box 5 0]) [(4,.cells Na),(5,.cells (yj [.arr 896,.arr 581,.arr 582,.dat yi])),(896,.arr 3 yi),(581,.rows 24 3 yi),(582,.arr 3 yi)]
def aOJ:LD:=yl (Sy) (yk [] [1,4,5,7] (yj [.dat yi,.box 4 0,.box 5 0,.dat yi]) [(4,.cells Na),(5,.cells (yj [.arr 896,.arr 581,.arr 582,.dat yi])),(896,.arr 3 yi),(581,.rows 24 3 yi),(582,.arr 3 yi)]) [(2,RT)] aF (λk v=>((k.1,(),(),v.1,()),((),(),(),k.2.1,()),((),(),(),k.2.2.1,()),k.2.2.2.1,k.2.2.2.2,v.2,())) (λt=>(t.1.1,t.2.1.2.2.2.1,t.2.2.1.2.2.2.1,t.2.2.2.1,t.2.2.2.2.1)) (λt=>(t.1.2.2.2.1,t.2.2.2.2.2.1)) (λk r=>yx 2 RT (((),(),()),((),(),(),k.2.1,()),((),(),(),k.2.2.1,()),k.2.2.2.1,k.2.2.2.2,r,()))
def aEm(f:Y1)(h:List Y1)(g:Y1)(i b:Int):Tr (Int×Oi):=.c _ (Z3 f h g i) λa=>.c _ (PQ f b) λe=>.c _ (aHI (b,f,h,g,i,0,a.1,e,a.2.2.2) (0,a.2.2.1)) λj=>.c _ (aIS (b,0,a.1,e,j) (0,a.2.2.2)) λm=>.l (a.1,e,j,m)
def YF f c b e a:=(aEm f c b e a).ev
def aOg:FP prog:=aH cx func220 [JY,aMm] (yj [.agg Zl,.dat yi]) [] [] (J6 aEm) ⟨[.ren 896 1,.ren 581 2,.ren 582 3],[.cell 4 29],(yj [.agg (yj [.arr 1,.arr 2,.arr 3,.dat yi])]),[(1,.arr 3 yi),(2,.rows 24 3 yi),(3,.arr 3 yi)],[],[]⟩ Mz bU [(0,aRn),(2,aOJ)]
def ZO(e:Y1)(b:List Y1)(a:Y1):Tr Bool:=.c _ (uO e b) λg=>.t g (.c _ (QF e b a) λf=>.t f (.l ((0:Int)<(length a:Int))) (.l false)) (.l false)
def Gs c b a:=(ZO c b a).ev
def II:FP prog:=aH cx func261 [E4,aLx] (yj [.agg Zh,.dat y1]) [] [] (bH ZO) eC bR
def Sd(k:Y1×Int×Nat×Y1×Y2×Y2×Y2)(v:Int×Y2):Tr (D0⊕Y2):=.t (v.1<(length k.2.2.2.1:Int)) (.c _ (Es k.1 v.1) λa=>.t (!a) (.c _ (Df (getD k.2.2.2.2.2.2 k.2.2.1 []) v.1) λb=>.g ((length v.2+1)*24<=140737488355328)<|.l (.inl ((wrap .i64 (v.1+1)),(set (v.2++ [[]]) (length v.2) b)))) (.l (.inl ((wrap .i64 (v.1+1)),v.2)))) (.l (.inr v.2))
def aLl k v:=aB (λv=>(Sd k v).ev) v
abbrev Dm:Keep:=yk [] [1,2,5,6,7,8] (yj [.dat y1,.box 2 0,.arr 11,.arr 12,.arr 13,.dat yi]) [yV,(11,.rows 24 3 yi),(12,.rows 24 3 yi),(13,.rows 24 3 yi)]
abbrev UB{a b c d e g h i j l m n o p:Type}(t:(a×b×c×d×e×g×h×i×j)×l×m×n×o×p):=(t.1.2.2.2.2.2.2.2.1,t.2.2.2.2.1)
def aOU:LD:=yl (Sd) (yk [] [1,2,5,6,7,8,9,10] (yj [.dat y1,.box 2 0,.arr 11,.arr 12,.arr 13,.dat yi,.row 12,.dat yi]) [yV,(11,.rows 24 3 yi),(12,.rows 24 3 yi),(13,.rows 24 3 yi)]) [(2,Dm)] aF (λk v=>((k.1,(),(),(),(),k.2.1,k.2.2.1,v.1,()),(k.2.2.2.1,k.2.2.2.2.1,()),k.2.2.2.2.2.1,k.2.2.2.2.2.2,v.2,())) (λt=>(t.1.1,t.1.2.2.2.2.2.1,t.1.2.2.2.2.2.2.1,t.2.1.1,t.2.1.2.1,t.2.2.1,t.2.2.2.1)) UB (λk r=>yx 2 Dm ((k.1,(),(),(),(),k.2.1,()),(k.2.2.2.1,k.2.2.2.2.1,()),k.2.2.2.2.2.1,k.2.2.2.2.2.2,r,()))
def wcm(k:Y1×Int×Y1×Y2×Y2×Y2×Y1)(v:Int×Y2):Tr (D0⊕Y2):=.t (v.1<(length k.2.2.1:Int)) (.c _ (Es k.1 v.1) λb=>.t (!b) (.c _ (Df k.2.2.2.2.2.2 v.1) λa=>.g ((length v.2+1)*24<=140737488355328)<|.l (.inl ((wrap .i64 (v.1+1)),(set (v.2++ [[]]) (length v.2) a)))) (.l (.inl ((wrap .i64 (v.1+1)),v.2)))) (.l (.inr v.2))
def aIW k v:=aB (λv=>(wcm k v).ev) v
def aMo:LD:=yl (wcm) (yk [] [1,2,5,6,7,8,9,10] (yj [.dat y1,.box 2 0,.arr 11,.arr 12,.arr 13,.dat yi,.arr 2112,.dat yi]) [yV,(11,.rows 24 3 yi),(12,.rows 24 3 yi),(13,.rows 24 3 yi),Mn]) [(2,Dm)] aF (λk v=>((k.1,(),(),(),(),k.2.1,(),v.1,()),(k.2.2.1,k.2.2.2.1,()),k.2.2.2.2.1,k.2.2.2.2.2.1,v.2,k.2.2.2.2.2.2,())) (λt=>(t.1.1,t.1.2.2.2.2.2.1,t.2.1.1,t.2.1.2.1,t.2.2.1,t.2.2.2.1,t.2.2.2.2.2.1)) UB (λk r=>yx 2 Dm ((k.1,(),(),(),(),k.2.1,()),(k.2.2.1,k.2.2.2.1,()),k.2.2.2.2.1,k.2.2.2.2.2.1,r,()))
def Ht(k:Y1×Y1×Y2)(v:Int×Y2×Y2×Y2):Tr ((Int×Y2×Y2×Y2)⊕(Y2×Y2×Y2)):=.t (v.1<(length k.2.1:Int)) (.c _ (Es k.1 v.1) λh=>.t (!h) (.c _ (Df k.1 v.1) λe=>.g ((length v.2.1+1)*24<=140737488355328)<|.l (.inl ((wrap .i64 (v.1+1)),(set (v.2.1++ [[]]) (length v.2.1) e),v.2.2.1,v.2.2.2))) (.c _ (Wr k.1 v.1) λa=>.t ((0:Int)<(length a:Int)) (.g ((length v.2.2.1+1)*24<=140737488355328)<|.c _ (aLl (k.1,v.1,(length v.2.2.1),k.2.1,k.2.2,v.2.1,(set (v.2.2.1++ [[]]) (length v.2.2.1) a)) (0,v.2.2.2)) λb=>.l (.inl ((wrap .i64 (v.1+1)),v.2.1,(set (v.2.2.1++ [[]]) (length v.2.2.1) a),b))) (.c _ (aIW (k.1,v.1,k.2.1,k.2.2,v.2.1,v.2.2.1,a) (0,v.2.2.2)) λf=>.l (.inl ((wrap .i64 (v.1+1)),v.2.1,v.2.2.1,f))))) (.l (.inr (v.2.1,v.2.2.1,v.2.2.2)))
def aLB k v:=aB (λv=>(Ht k v).ev) v
abbrev SJ:Keep:=yk [] [5,6,7] (yj [.arr 11,.arr 12,.arr 13]) [(11,.rows 24 3 yi),(12,.rows 24 3 yi),(13,.rows 24 3 yi)]
abbrev C1{a b c d e g:Type}(t:(a×b)×(c×d×e)×g):=(t.1.1,t.2.1.1,t.2.1.2.1)
def aMd:LD:=yl (Ht) Dm [(0,SJ)] aF (λk v=>((k.1,(),(),(),(),v.1,()),(k.2.1,k.2.2,()),v.2.1,v.2.2.1,v.2.2.2,())) C1 (λt=>(t.1.2.2.2.2.2.1,t.2.2.1,t.2.2.2.1,t.2.2.2.2.1)) (λ_ r=>yx 0 SJ (((),(),(),()),r.1,r.2.1,r.2.2,()))
def aDD(e:Y1)(f:List Y1)(b:Y1):Tr Y2:=.c _ (aLB (b,e,f) (0,[],[],[])) λa=>.g ((length a.1+length a.2.1)*24<=140737488355328)<|.g ((length (a.1++a.2.1)+length a.2.2)*24<=140737488355328)<|.l ((a.1++a.2.1)++a.2.2)
def aFu c b a:=(aDD c b a).ev
def aOz:FP prog:=aH cx func312 [aEf,aBq,aGQ] (yj [.agg Zh,.dat y1]) [] [] (bH aDD) ⟨[.ren 13 0],[.tmp 4],q8,[(0,.rows 24 3 yi)],[],[]⟩ kG (s8 [(1,[(0,[1000000]),(1,[1000000]),(2,[1000000])])]) [(2,aOU),(2,aMo),(0,aMd)]
def Vy(k:Int×Y1×Y1×Y2)(v:Int×Int):Tr (jA⊕Int):=.t (v.2<(length k.2.1:Int)) (.g (aC k.1 (length k.2.2.2))<|.g (aC v.2 (length k.2.1))<|.g (aC (getD k.2.1 (toNat v.2) 0) (length (getD k.2.2.2 (toNat k.1) [])))<|.g (aC k.1 (length k.2.2.2))<|.g (aC v.1 (length (getD k.2.2.2 (toNat k.1) [])))<|.t ((getD (getD k.2.2.2 (toNat k.1) []) (toNat (getD k.2.1 (toNat v.2) 0)) 0)<(getD (getD k.2.2.2 (toNat k.1) []) (toNat v.1) 0)) (.g (aC v.2 (length k.2.1))<|.l (.inl ((getD k.2.1 (toNat v.2) 0),(wrap .i64 (v.2+1))))) (.l (.inl (v.1,(wrap .i64 (v.2+1)))))) (.l (.inr v.1))
def LF k v:=aB (λv=>(Vy k v).ev) v
abbrev rV:Keep:=yh [7] Zy
abbrev VJ{a b c d e g:Type}(k:a×b×c×d)(v:e×g):=((k.1,k.2.1,(),v.1,v.2,()),(k.2.2.1,k.2.2.2,()),())
abbrev DP{a b c d e g h:Type}(t:(a×b×c)×(d×e×g)×h):=(t.1.1,t.1.2.1,t.2.1.1,t.2.1.2.1)
abbrev z6{a b c d e g h:Type}(t:(a×b×c×d×e×g)×h):=(t.1.2.2.2.1,t.1.2.2.2.2.1)
def aMF:LD:=yl (Vy) (yk [] [1,2,3,7,8] (yj [.dat yi,.dat y1,.box 3 0,.dat yi,.dat yi]) [(3,.cells Zh)]) [(0,rV)] aF VJ DP z6 (λ_ r=>yx 0 rV ((r,()),()))
def aBR(h:Y1)(f:List Y1)(e:Int)(a:Y1):Tr Int:=.g (aC 0 (length a))<|.c _ (LF (e,a,h,f) ((getD a (toNat 0) 0),1)) λb=>.l b
def MM e b a c:=(aBR e b a c).ev
abbrev uM{a b c d e g h:Type}{z:Type _}(f:a->b->d->e->z)(x:((a×b×c)×d×e×g)×h):z:=f x.1.1.1 x.1.1.2.1 x.1.2.1 x.1.2.2.1
abbrev w6:RetK:=yr [.tmp 6] Zy
def aHn:FP prog:=aH cx func264 [] (yj [.agg Zh,.dat yi,.dat y1]) [] [] (uM aBR) w6 bR bU [(0,aMF)]
def aDl(h:Y1)(b:List Y1)(a:Int)(f:Y1):Tr Int:=.g (aC a (length b))<|.c _ (MM h b a f) λe=>.g (aC e (length (getD b (toNat a) [])))<|.l (getD (getD b (toNat a) []) (toNat e) 0)
def OH e b a c:=(aDl e b a c).ev
def aJz:FP prog:=aH cx func307 [aHn] (yj [.agg Zh,.dat yi,.dat y1]) [] [] (uM aDl) w6 bR
def Xq(k:Y1×Y1×Y2)(v:Int×Int):Tr (jA⊕Int):=.t (v.2<(length k.2.2:Int)) (.c _ (OH k.2.1 k.2.2 v.2 k.1) λa=>.l (.inl ((wrap .i64 (v.1+a)),(wrap .i64 (v.2+1))))) (.l (.inr v.1))
def aHp k v:=aB (λv=>(Xq k v).ev) v
abbrev DJ:Keep:=yk [] [1,2,5,6] (yj [.dat y1,.box 2 0,.dat yi,.dat yi]) [yV]
abbrev oC:Keep:=yh [5] Zy
abbrev Ef{a b c d e:Type}(k:a×b×c)(v:d×e):=((k.1,(),v.1,v.2,()),(k.2.1,k.2.2,()),())
abbrev uX{a b c d e g:Type}(t:(a×b×c×d×e)×g):=(t.1.2.2.1,t.1.2.2.2.1)
def aSL:LD:=yl (Xq) DJ [(0,oC)] aF Ef C1 uX (λ_ r=>yx 0 oC ((r,()),()))
def aEe(f:Y1)(e:List Y1)(a:Y1):Tr Int:=.c _ (aHp (a,f,e) (0,0)) λb=>.l b
def Su c b a:=(aEe c b a).ev
def aDU:FP prog:=aH cx func262 [aJz] (yj [.agg Zh,.dat y1]) [] [] (bH aEe) kA bR bU [(0,aSL)]
def Zx(k:Y1×Y1×Y2)(v:Int×Int):Tr (jA⊕Int):=.t (v.2<(length k.1:Int)) (.g (aC v.2 (length k.1))<|.g (aC (getD k.1 (toNat v.2) 0) (length k.2.1))<|.l (.inl ((wrap .i64 (v.1+(getD k.2.1 (toNat (getD k.1 (toNat v.2) 0)) 0))),(wrap .i64 (v.2+1))))) (.l (.inr v.1))
def aIm k v:=aB (λv=>(Zx k v).ev) v
def aNa:LD:=yl (Zx) DJ [(0,oC)] aF Ef C1 uX (λ_ r=>yx 0 oC ((r,()),()))
def aEL(f:Y1)(e:List Y1)(a:Y1):Tr Int:=.c _ (aIm (a,f,e) (0,0)) λb=>.l b
def aAs c b a:=(aEL c b a).ev
def aPu:FP prog:=aH cx func305 [] (yj [.agg Zh,.dat y1]) [] [] (bH aEL) kA bR bU [(0,aNa)]
def aED(e:Y1)(b:List Y1)(a:Y1):Tr Int:=.c _ (Su e b a) λg=>.c _ (aAs e b a) λf=>.l (wrap .i64 (g+f))
def V4 c b a:=(aED c b a).ev
def aAd:FP prog:=aH cx func258 [aDU,aPu] (yj [.agg Zh,.dat y1]) [] [] (bH aED) kA bR
def Si(k:Y1×Y1×Y2×Y2)(v:Int):Tr (Int⊕(Unit⊕Nat)):=.t (v<(length k.2.2.2:Int)) (.g (aC v (length k.2.2.2))<|.g ((toNat v)<length k.2.2.2)<|.c _ (V4 k.2.1 k.2.2.1 (getD k.2.2.2 (toNat v) [])) λa=>.c _ (V4 k.2.1 k.2.2.1 k.1) λb=>.t (a<b) (.g (aC v (length k.2.2.2))<|.g ((toNat v)<length k.2.2.2)<|.l (.inr (.inr (toNat v)))) (.l (.inl (wrap .i64 (v+1))))) (.l (.inr (.inl ())))
def aJZ k v:=aB (λv=>(Si k v).ev) v
abbrev WW:Keep:=yk [] [4,5] (yj [.row 640,.dat .bool]) [(640,.rows 24 3 yi)]
def aPx:LD:=yl (Si) (yk [] [1,2,6,7] (yj [.dat y1,.box 2 0,.arr 640,.dat yi]) [yV,(640,.rows 24 3 yi)]) [(0,aF)] WW (λk v=>((k.1,(),(),v,()),(k.2.1,k.2.2.1,()),k.2.2.2,())) (λt=>(t.1.1,t.2.1.1,t.2.1.2.1,t.2.2.1)) rJ (λk r=>.s _ _ r (λ_=>yx 0 aF ((),())) (λb=>yz WW ((b,true,()),k.2.2.2,())))
def ZZ(f:Y1)(b:List Y1)(a:Y1):Tr C5:=.c _ (aFu f b a) λe=>.c _ (aJZ (a,f,b,e) 0) λh=>.s _ _ h (λ_=>.l (false,[])) (λg=>.l (true,(getD e g [])))
def CV c b a:=(ZZ c b a).ev
abbrev gX{a b:Type}(r:a×b):=(((),r.1,()),r.2,())
def aHz:FP prog:=aH cx func270 [aOz,aAd] (yj [.agg Zh,.dat y1]) [] [] (bH ZZ) ⟨[.pull 4 800000,.ren 31 0,.ren 800000 0],[.tmp 4,.tmp 5],Ho,[tK],[],[]⟩ gX bU [(0,aPx)]
def CD(k:Y1×Y2)(v:Int×Bool×Y1×Y1):Tr ((Int×Bool×Y1×Y1)⊕gD):=.t v.2.1 (.c _ (CV k.1 k.2 v.2.2.2) λa=>.l (.inl ((wrap .i64 (v.1+1)),a.1,v.2.2.2,a.2))) (.l (.inr (v.1,v.2.2.1)))
def Yr k v:=aB (λv=>(CD k v).ev) v
abbrev UD:Keep:=yk [] [7,8] (yj [.arr 900707,.dat yi]) [(900707,.arr 3 yi)]
def aSl:LD:=yl (CD) (yk [.drop 900707,.pin 7 900707,.pin 9 900709] [2,7,8,9,10] (yj [.box 2 0,.arr 900707,.dat yi,.arr 900709,.dat .bool]) [yV,(900707,.arr 3 yi),(900709,.arr 3 yi)]) [(0,UD)] aF (λk v=>(((),(),v.1,(),v.2.1,()),(k.1,k.2,()),v.2.2.1,v.2.2.2,())) E8 (λt=>(t.1.2.2.1,t.1.2.2.2.2.1,t.2.2.1,t.2.2.2.1)) (λ_ r=>yx 0 UD (((),r.1,()),r.2,()))
def aCv(b:Y1)(a:List Y1)(f:Y1):Tr (Int×C5):=.c _ (Gs b a f) λi=>.t (!i) (.l (0,false,[])) (.c _ (pY f) λe=>.c _ (CV b a e) λh=>.c _ (Yr (b,a) (0,h.1,e,h.2)) λg=>.l (g.1,true,g.2))
def aFN c b a:=(aCv c b a).ev
abbrev TK{a b c:Type}(r:a×b×c):=(((),r.1,r.2.1,()),r.2.2,())
def aQS:FP prog:=aH cx func221 [II,Da,aHz] (yj [.agg Zh,.dat y1]) [] [] (bH aCv) ⟨[.ren 15 0,.ren 900707 0],[.tmp 4,.tmp 5,.tmp 6],(yj [.arr 0,.dat yi,.dat .bool]),[tK],[],[]⟩ TK bU [(0,aSl)]
def aGY(k:Y1×Y1)(v:Int):Tr (Int⊕(Unit⊕Bool)):=.t (v<(length k.1:Int)) (.g (aC v (length k.1))<|.g (aC v (length k.2))<|.t ((getD k.1 (toNat v) 0) != (getD k.2 (toNat v) 0)) (.g (aC v (length k.1))<|.g (aC v (length k.2))<|.l (.inr (.inr ((getD k.1 (toNat v) 0)<(getD k.2 (toNat v) 0))))) (.l (.inl (wrap .i64 (v+1))))) (.l (.inr (.inl ())))
def aRh k v:=aB (λv=>(aGY k v).ev) v
abbrev TX:Keep:=yh [0,1,5] (yj [.dat y1,.dat y1,.dat yi])
def aSH:LD:=yl (aGY) TX [(0,aF)] lM N0 rX Du (λ_ r=>.s _ _ r (λ_=>yx 0 aF ((),())) (λb=>yz lM ((b,()),())))
def aHP(b a:Y1):Tr Bool:=.t ((length b:Int) != (length a:Int)) (.l ((length b:Int)<(length a:Int))) (.c _ (aRh (b,a) 0) λe=>.s _ _ e (λ_=>.l false) (λf=>.l f))
def aQw a b:=(aHP a b).ev
def aTr:FP prog:=aH cx func313 [] (yj [.dat y1,.dat y1]) [] [] (dO aHP) eC bR bU [(0,aSH)]
def aIF(k:Int×Y2×gD)(v:Int):Tr (Int⊕Int):=.t (0<v) (.g (aC (wrap .i64 (v-1)) (length k.2.1))<|.c _ (aQw k.2.2.2 (getD k.2.1 (toNat (wrap .i64 (v-1))) [])) λa=>.t a (.l (.inl (wrap .i64 (v-1)))) (.l (.inr v))) (.l (.inr v))
def aTl k v:=aB (λv=>(aIF k v).ev) v
abbrev FL:Keep:=yk [] [0,3,4,5,6] (yj [.dat yi,.dat y2,.dat yi,.arr 1024,.dat yi]) [(1024,.arr 3 yi)]
def aOy:LD:=yl (aIF) FL [(2,FL)] aF (λk v=>((k.1,k.2.1,k.2.2.1,(),v,()),k.2.2.2,())) (λt=>(t.1.1,t.1.2.1,t.1.2.2.1,t.2.1)) l4 (λk r=>yx 2 FL ((k.1,k.2.1,k.2.2.1,(),r,()),k.2.2.2,()))
def aHS(k:Int)(v:Y2×Int):Tr ((Y2×Int)⊕Y2):=.g (0<=k)<|.t (v.2<(wrap .i64 ((1:Int)*2^(min (toNat k) (IntKind.bits .i64))))) (.c _ (Ff k v.2) λb=>.c _ (aTl (k,v.1,v.2,b) (length v.1:Int)) λa=>.g ((0<=a)&&(a<=(length v.1:Int)))<|.g ((length ([]:List Y1)+length (List.drop 0 (List.take (toNat a) v.1)))*24<=140737488355328)<|.g ((length (([]:List Y1)++(List.drop 0 (List.take (toNat a) v.1)))+length ([b]:List Y1))*24<=140737488355328)<|.g ((0<=a)&&(a<=(length v.1:Int)))<|.g ((length ((([]:List Y1)++(List.drop 0 (List.take (toNat a) v.1)))++([b]:List Y1))+length (List.drop (toNat a) (List.take (length v.1) v.1)))*24<=140737488355328)<|.l (.inl ((((([]:List Y1)++(List.drop 0 (List.take (toNat a) v.1)))++([b]:List Y1))++(List.drop (toNat a) (List.take (length v.1) v.1))),(wrap .i64 (v.2+1))))) (.l (.inr v.1))
def aQt k v:=aB (λv=>(aHS k v).ev) v
abbrev SP:Keep:=yh [3] (yj [.dat y2])
abbrev zU{a b c:Type}(k:a)(v:b×c):=((k,v.1,v.2,()),())
abbrev oF{a b c:Type}(t:(a×b)×c):=t.1.1
abbrev iM{a b c d e:Type}(t:(a×b×c×d)×e):=(t.1.2.1,t.1.2.2.1)
def aOD:LD:=yl (aHS) (yk [.fz 7,.fz 32] [0,3,4] (yj [.dat yi,.dat y2,.dat yi]) []) [(0,SP)] aF zU oF iM (λ_ r=>yx 0 SP ((r,()),()))
def aJy(a:Int):Tr Y2:=.c _ (aQt a ([],1)) λb=>.l b
def BY a:=(aJy a).ev
def aDF:FP prog:=aH cx func272 [aDk,aTr] Zy [] [] (qH aJy) (yr [.tmp 2] (yj [.dat y2])) bR (s8 [(8,[(0,[3,5])])]) [(2,aOy),(0,aOD)]
def EM(k:Y2×Y1×Y2)(v:Y1×Int):Tr ((Y1×Int)⊕Y1):=.t (v.2<(length k.1:Int)) (.g (aC v.2 (length k.1))<|.c _ (V4 k.2.1 k.2.2 (getD k.1 (toNat v.2) [])) λa=>.c _ (V4 k.2.1 k.2.2 v.1) λb=>.t (a<b) (.g (aC v.2 (length k.1))<|.l (.inl ((getD k.1 (toNat v.2) []),(wrap .i64 (v.2+1))))) (.l (.inl (v.1,(wrap .i64 (v.2+1)))))) (.l (.inr v.1))
def aGF k v:=aB (λv=>(EM k v).ev) v
abbrev TT:Keep:=yh [4] Bc
def aPZ:LD:=yl (EM) (yk [] [1,3,4,5] (yj [.box 1 0,.dat y2,.dat y1,.dat yi]) [jT]) [(0,TT)] aF (λk v=>(((),k.1,v.1,v.2,()),(k.2.1,k.2.2,()),())) aAa uX (λ_ r=>yx 0 TT ((r,()),()))
def aCt(b:Y1)(f:List Y1):Tr Y1:=.c _ (BY (length b:Int)) λa=>.g (aC 0 (length a))<|.c _ (aGF (a,b,f) ((getD a (toNat 0) []),1)) λe=>.l e
def aAv a b:=(aCt a b).ev
abbrev UW:RetK:=yr [.tmp 2] Bc
def aSP:FP prog:=aH cx func222 [aDF,aAd] (yj [.agg Zh]) [] [] (jO aCt) UW bR bU [(0,aPZ)]
def HY(k:Int×Int×Int×Int×Y1×Int×Int×Y1×Nd)(v:Int×Y2):Tr (D0⊕Y2):=.t (v.1<(length k.2.2.2.2.1:Int)) (.g (aC v.1 (length v.2))<|.g ((toNat v.1)<length v.2)<|.g (aC v.1 (length k.2.2.2.2.1))<|.g ((length (getD v.2 (toNat v.1) [])+length ([(getD k.2.2.2.2.1 (toNat v.1) 0)]:Y1))*8<=140737488355328)<|.g (aC v.1 (length v.2))<|.g (((toNat v.1)<length v.2)&&((toNat v.1)=(toNat v.1)))<|.l (.inl ((wrap .i64 (v.1+1)),(set v.2 (toNat v.1) ((getD v.2 (toNat v.1) [])++([(getD k.2.2.2.2.1 (toNat v.1) 0)]:Y1)))))) (.l (.inr v.2))
def XX k v:=aB (λv=>(HY k v).ev) v
abbrev TR:Keep:=yk [] [4,5] (yj [.box 4 0,.box 5 0]) [Zcb,(5,.cells (yj [.arr 708,.arr 709,.arr 710,.dat yi])),(901340,.arr 3 yi),(901342,.arr 3 yi),(708,.arr 3 yi),(709,.rows 24 3 yi),(710,.arr 3 yi)]
def aNv:LD:=yl (HY) (yk [.ownB 4 0 901340 3 yi,.ownB 4 2 901342 3 yi] [3,4,5,6] (yj [.box 3 0,.box 4 0,.box 5 0,.dat yi]) [(3,.cells UC),Zcb,(5,.cells (yj [.arr 708,.arr 709,.arr 710,.dat yi])),(901340,.arr 3 yi),(901342,.arr 3 yi),(708,.arr 3 yi),(709,.rows 24 3 yi),(710,.arr 3 yi)]) [(1,TR)] aF (λk v=>(((),(),(),v.1,()),(k.1,k.2.1,k.2.2.1,k.2.2.2.1,k.2.2.2.2.1,()),((),(),(),k.2.2.2.2.2.1,()),((),(),(),k.2.2.2.2.2.2.1,()),k.2.2.2.2.2.2.2.1,k.2.2.2.2.2.2.2.2.1,k.2.2.2.2.2.2.2.2.2.1,v.2,k.2.2.2.2.2.2.2.2.2.2,())) (λt=>(t.2.1.1,t.2.1.2.1,t.2.1.2.2.1,t.2.1.2.2.2.1,t.2.1.2.2.2.2.1,t.2.2.1.2.2.2.1,t.2.2.2.1.2.2.2.1,t.2.2.2.2.1,t.2.2.2.2.2.1,t.2.2.2.2.2.2.1,t.2.2.2.2.2.2.2.2.1)) (λt=>(t.1.2.2.2.1,t.2.2.2.2.2.2.2.1)) (λk r=>yx 1 TR (((),(),()),((),(),(),k.2.2.2.2.2.1,()),((),(),(),k.2.2.2.2.2.2.1,()),k.2.2.2.2.2.2.2.1,k.2.2.2.2.2.2.2.2.1,k.2.2.2.2.2.2.2.2.2.1,r,k.2.2.2.2.2.2.2.2.2.2,()))
def aGz(j:Y1)(h:List Y1)(m:Y1)(p e b f n:Int)(o:Y1):Tr (Int×Oi):=.c _ (Z3 j h m p) λa=>.t (e==1) (.c _ (Df a.2.2.2 b) λr=>.l (a.1,a.2.1,a.2.2.1,r)) (.t (e==2) (.c _ (Wr a.2.2.2 b) λu=>.l (a.1,a.2.1,a.2.2.1,u)) (.t (e==3) (.c _ (Wr a.2.2.2 b) λs=>.c _ (Df s f) λaa=>.l (a.1,a.2.1,a.2.2.1,aa)) (.t (e==4) (.g (aC b (length a.2.1))<|.g ((toNat b)<length a.2.1)<|.l (a.1,(set a.2.1 (toNat b) f),a.2.2.1,a.2.2.2)) (.t (e==5) (.g (aC b (length a.2.2.1))<|.g ((toNat b)<length a.2.2.1)<|.g (aC f (length (getD a.2.2.1 (toNat b) [])))<|.g ((toNat f)<length (getD a.2.2.1 (toNat b) []))<|.l (a.1,a.2.1,(set a.2.2.1 (toNat b) (set (getD a.2.2.1 (toNat b) []) (toNat f) n)),a.2.2.2)) (.t (e==6) (.g ((length a.2.1+length ([b]:Y1))*8<=140737488355328)<|.c _ (XX (e,b,f,n,o,0,a.1,[],[],(a.2.1++([b]:Y1)),a.2.2.2) (0,a.2.2.1)) λab=>.l (a.1,(a.2.1++([b]:Y1)),ab,a.2.2.2)) (.t (e==7) (.c _ (pY o) λw=>.g ((length a.2.2.1+1)*24<=140737488355328)<|.l (a.1,a.2.1,(set (a.2.2.1++ [[]]) (length a.2.2.1) w),a.2.2.2)) (.t (e==8) (.c _ (YF j h m p b) λi=>.l (i.1,i.2.1,i.2.2.1,i.2.2.2)) (.t (e==9) (.g ((0<=b)&&(b<=(length a.2.2.1:Int)))<|.g (((0:Int)<=(wrap .i64 (b+1)))&&((wrap .i64 (b+1))<=(length a.2.2.1:Int)))<|.g (((toNat b)<=(toNat (wrap .i64 (b+1))))&&(((toNat b)+(length a.2.2.1-(toNat (wrap .i64 (b+1)))))*24<=140737488355328))<|.l (a.1,a.2.1,(List.take (toNat b) a.2.2.1++List.drop (toNat (wrap .i64 (b+1))) a.2.2.1),a.2.2.2)) (.t (e==10) (.c _ (aFN j h m) λz=>.l (a.1,a.2.1,a.2.2.1,z.2.2)) (.t (e==11) (.c _ (aAv j h) λq=>.c _ (pY q) λy=>.l (a.1,a.2.1,a.2.2.1,y)) (.l (a.1,a.2.1,a.2.2.1,a.2.2.2))))))))))))
def aDi j h f i e a c b g:=(aGz j h f i e a c b g).ev
def aNj:FP prog:=aH cx func141 [JY,aBq,aGQ,Da,aOg,aQS,aSP] (yj [.agg Zl,.agg UC]) [] [] (Bv aGz) ⟨[.pinB 4 0 1,.pinB 4 1 6,.pinB 4 2 7],[.cell 4 29],(yj [.agg (yj [.arr 1,.arr 6,.arr 7,.dat yi])]),[(1,.arr 3 yi),(6,.rows 24 3 yi),(7,.arr 3 yi)],[],[]⟩ Mz bU [(1,aNv)]
def aEn(n:Y1)(m:List Y1)(j:Y1)(b h e g f:Int)(i:Y1):Tr (Int×Bool×Oi):=.c _ (aEd h e g f i) λp=>.t (!p) (.l (0,false,[],[],[])) (.c _ (aBV n m j b h e g f i) λo=>.t (!o) (.l (0,false,[],[],[])) (.c _ (aDi n m j b h e g f i) λa=>.c _ (Jn a.2.1 a.2.2.1 a.2.2.2 (wrap .i64 (b+1))) λq=>.t (!q) (.l (0,false,[],[],[])) (.l ((wrap .i64 (b+1)),true,a.2.1,a.2.2.1,a.2.2.2))))
def KE j h f i e a c b g:=(aEn j h f i e a c b g).ev
abbrev TZ{a b c d e:Type}(r:a×b×c×d×e):=((((),(),(),r.1,()),r.2.1,()),r.2.2.1,r.2.2.2.1,r.2.2.2.2,())
def aLK:FP prog:=aH cx func89 [aLU,aPF,aNj,DL] (yj [.agg Zl,.agg UC]) [] [] (Bv aEn) ⟨[.ownB 4 0 5 3 yi,.ownRB 4 1 7 24 3 yi,.ownB 4 2 8 3 yi,.ren 1217 5,.ren 1222 7,.ren 1223 8],[.cell 4 29,.tmp 5],(yj [.agg (yj [.arr 5,.arr 7,.arr 8,.dat yi]),.dat .bool]),[(5,.arr 3 yi),(7,.rows 24 3 yi),(8,.arr 3 yi)],[],[]⟩ TZ
def Ki(_k:Int)(v:Int×Y1×Int×Int×Y1×Y2×gD):Tr ((Int×Y1×Int×Int×Y1×Y2×gD)⊕(Y1×Int×Int×Y1×Y2×gD)):=.t (0<v.1) (.c _ (Jn v.2.2.2.2.1 v.2.2.2.2.2.1 v.2.2.2.2.2.2.2 v.2.2.2.2.2.2.1) λe=>.t e (.c _ (aKy v.2.2.2.2.1 v.2.2.2.2.2.1 v.2.1 v.2.2.1 v.2.2.2.1) λa=>.c _ (KE v.2.2.2.2.1 v.2.2.2.2.2.1 v.2.2.2.2.2.2.2 v.2.2.2.2.2.2.1 a.1 a.2.1 a.2.2.1 a.2.2.2.1 a.2.2.2.2.1) λb=>.t b.2.1 (.l (.inl ((wrap .i64 (v.1-1)),a.2.2.2.2.2.1,a.2.2.2.2.2.2.1,a.2.2.2.2.2.2.2,b.2.2.1,b.2.2.2.1,b.1,b.2.2.2.2))) (.l (.inl ((wrap .i64 (v.1-1)),a.2.2.2.2.2.1,a.2.2.2.2.2.2.1,a.2.2.2.2.2.2.2,v.2.2.2.2.1,v.2.2.2.2.2.1,v.2.2.2.2.2.2.1,v.2.2.2.2.2.2.2)))) (.l (.inr (v.2.1,v.2.2.1,v.2.2.2.1,v.2.2.2.2.1,v.2.2.2.2.2.1,v.2.2.2.2.2.2.1,v.2.2.2.2.2.2.2)))) (.l (.inr (v.2.1,v.2.2.1,v.2.2.2.1,v.2.2.2.2.1,v.2.2.2.2.2.1,v.2.2.2.2.2.2.1,v.2.2.2.2.2.2.2)))
def Ld k v:=aB (λv=>(Ki k v).ev) v
abbrev VU:Keep:=yk [] [0,2,4] (yj [.box 64 0,.box 2 0,.box 4 0]) [Zj,(2,.cells Na),(4,.cells (yj [.dat y1,.dat y2,.arr 900642,.dat yi])),(900642,.arr 3 yi)]
def aPJ:LD:=yl (Ki) (yk [.fz 577,.fz 578,.fz 3013,.fz 3015,.repB 4 2 900642] [0,2,4,5] (yj [.box 64 0,.box 2 0,.box 4 0,.dat yi]) [Zj,(2,.cells Na),(4,.cells (yj [.dat y1,.dat y2,.arr 900642,.dat yi])),(900642,.arr 3 yi)]) [(0,VU)] aF (λk v=>(((),(),(),v.1,()),(v.2.1,v.2.2.1,v.2.2.2.1,()),((),(),(),k,()),(v.2.2.2.2.1,v.2.2.2.2.2.1,(),v.2.2.2.2.2.2.1,()),v.2.2.2.2.2.2.2,())) (λt=>t.2.2.1.2.2.2.1) (λt=>(t.1.2.2.2.1,t.2.1.1,t.2.1.2.1,t.2.1.2.2.1,t.2.2.2.1.1,t.2.2.2.1.2.1,t.2.2.2.1.2.2.2.1,t.2.2.2.2.1)) (λk r=>yx 0 VU (((),(),(),()),(r.1,r.2.1,r.2.2.1,()),((),(),(),k,()),(r.2.2.2.1,r.2.2.2.2.1,(),r.2.2.2.2.2.1,()),r.2.2.2.2.2.2,()))
noncomputable abbrev Ie(p1:Y1)(p2 p3:Int)(p4:Y1)(p5:List Y1)(p6:Y1):=(.c _ (mW 4 p1 p2 p3) λh=>.c _ (Ld 0 (h.1,h.2.1,h.2.2.1,h.2.2.2,p4,p5,0,p6)) λa=>.c _ (mW 48 a.1 a.2.1 a.2.2.1) λb=>.t (b.1==0) (.c _ (mF ([(-1),1000,1001]:Y1) b.2.1 b.2.2.1 b.2.2.2) λf=>.l (a.2.2.2.1,a.2.2.2.2.1,f.1,a.2.2.2.2.2.2,f.2.1,f.2.2.1,f.2.2.2)) (.t (b.1==1) (.c _ (mF ([0,(-1),7]:Y1) b.2.1 b.2.2.1 b.2.2.2) λe=>.g ((length a.2.2.2.2.2.2+length ([e.1]:Y1))*8<=140737488355328)<|.l (a.2.2.2.1,a.2.2.2.2.1,a.2.2.2.2.2.1,(a.2.2.2.2.2.2++([e.1]:Y1)),e.2.1,e.2.2.1,e.2.2.2)) (.l (a.2.2.2.1,a.2.2.2.2.1,a.2.2.2.2.2.1,a.2.2.2.2.2.2,b.2.1,b.2.2.1,b.2.2.2))):Tr (Y1×Y2×Int×Y1×yA))
def QB(l:Y1)(j i:Int):Tr (Y1×Y2×Int×Y1×yA):=.c _ (OQ 6 l j i) λa=>.c _ (uO a.1 a.2.1) λh=>.t h (.c _ (F2 4 a.2.2.1 a.2.2.2.1 a.2.2.2.2) λb=>.t (!b.1) (.g ((0:Int)<=(length a.1:Int))<|.c _ (mW (wrap .i64 ((1:Int)*2^(min (toNat (length a.1:Int)) (IntKind.bits .i64)))) b.2.1 b.2.2.1 b.2.2.2) λe=>.c _ (Ff (length a.1:Int) e.1) λf=>Ie e.2.1 e.2.2.1 e.2.2.2 a.1 a.2.1 f) (Ie b.2.1 b.2.2.1 b.2.2.2 a.1 a.2.1 [])) (Ie a.2.2.1 a.2.2.2.1 a.2.2.2.2 a.1 a.2.1 [])
def aJo c b a:=(QB c b a).ev
def aJR:FP prog:=aH cx func49 [aPB,E4,BT,oH,aDk,DL,aSr,aLK,Hm] (yj [.box 64 0]) [Zj] [.arg 0] (yq4 QB) ⟨[.ren 900642 1],[.cell 2 29],(yj [.agg (yj [.dat y1,.dat y2,.arr 1,.dat yi])]),[(1,.arr 3 yi),Zj],[(0,0,64)],[]⟩ (λr=>(((r.1,r.2.1,(),r.2.2.1,()),()),r.2.2.2.1,(r.2.2.2.2.1,r.2.2.2.2.2.1,r.2.2.2.2.2.2,()),())) (s8 [(8,[(0,[70000577,70000578])]),(13,[(2,[57])]),(15,[(0,[60000003])])]) [(0,aPJ)]
def aGk(g:Y1)(e:List Y1)(b:Y1)(f:Int):Tr (Int×(List UInt8)×(List UInt8)×Int×Bool×Oi):=.c _ (Jn g e b f) λh=>.t (!h) (.l (0,[],[],0,false,[],[],[])) (.c _ (Z3 g e b f) λa=>.l (a.1,[],[],0,true,a.2.1,a.2.2.1,a.2.2.2))
def Hd e b a c:=(aGk e b a c).ev
abbrev AO{a b c d e g h i:Type}(r:a×b×c×d×e×g×h×i):=((((),(),(),r.1,r.2.1,r.2.2.1,r.2.2.2.1,()),r.2.2.2.2.1,()),r.2.2.2.2.2.1,r.2.2.2.2.2.2.1,r.2.2.2.2.2.2.2,())
def XQ:FP prog:=aH cx func8 [DL,JY] (yj [.agg Zl]) [] [] (rW aGk) ⟨[.ownB 2 0 3 3 yi,.ownRB 2 1 4 24 3 yi,.ownB 2 2 5 3 yi,.ren 580 3,.ren 581 4,.ren 582 5],[.cell 2 34,.tmp 3],(yj [.agg (yj [.arr 3,.arr 4,.arr 5,.dat yi,.dat .str,.dat .str,.dat yi]),.dat .bool]),[(3,.arr 3 yi),(4,.rows 24 3 yi),(5,.arr 3 yi)],[],[]⟩ AO
def Sj(b:(Int)->Option (List UInt8))(a:Int):Tr (List UInt8):=.t (a<0) (.c _ (b (wrap .i64 (0-a))) λe=>.g (length ([45]:List UInt8)+length e<=9223372036854775807)<|.l (([45]:List UInt8)++e)) (.t (a<10) (.g ((0<=a)&&(a<=(wrap .i64 (a+1)))&&((wrap .i64 (a+1))<=(length ([48,49,50,51,52,53,54,55,56,57]:List UInt8):Int)))<|.l (List.drop (toNat a) (List.take (toNat (wrap .i64 (a+1))) ([48,49,50,51,52,53,54,55,56,57]:List UInt8)))) (.g (!decide ((10:Int)=0))<|.c _ (b (wrap .i64 (Int.tdiv a 10))) λf=>.g (!decide ((10:Int)=0))<|.g (!decide ((10:Int)=0))<|.g (((0:Int)<=(Int.tmod a 10))&&((Int.tmod a 10)<=(wrap .i64 ((Int.tmod a 10)+1)))&&((wrap .i64 ((Int.tmod a 10)+1))<=(length ([48,49,50,51,52,53,54,55,56,57]:List UInt8):Int)))<|.g (length f+length (List.drop (toNat (Int.tmod a 10)) (List.take (toNat (wrap .i64 ((Int.tmod a 10)+1))) ([48,49,50,51,52,53,54,55,56,57]:List UInt8)))<=9223372036854775807)<|.l (f++(List.drop (toNat (Int.tmod a 10)) (List.take (toNat (wrap .i64 ((Int.tmod a 10)+1))) ([48,49,50,51,52,53,54,55,56,57]:List UInt8))))))
noncomputable def qQ:Nat->(Int)->Option (List UInt8) |0=>λ_=>none |n+1=>λa=>(Sj (qQ n) a).ev
def aPS:RetK:=yr [.tmp 2] Gf
def aJJ(a:(Int)->Option (List UInt8)):FD:={A:=Zy,ins:=[],lend:=[],R:=List UInt8,F:=λx=>a x.1.1,emb:=λr=>([.dat .str r],[])}
def aHc(n:Nat):FD:=aJJ (qQ n)
theorem aKd:∀n:Nat,dZ prog (63,aHc n) |0=>λ_ _ h=>nomatch h |n+1=>GY mixed (wV (Wj (aKd n) fdN)) Dl (aLH (aHc (n+1)) (oN [(63,aJJ (qQ n))]) aPS bU [] ((f63.body).getD .skip) (λx=>Sj (qQ n) x.1.1) (λr=>((r,()),())) func63 (Wt (by kernel_rfl) lpN) λ_=>by kernel_rfl)
def T3:FP prog:=⟨_,aKd 1000000⟩
def aGv(b:List (List UInt8))(h:Y1)(f e:Int):Tr ((List UInt8)×yA):=.c _ (mW (length b:Int) h f e) λa=>.g (aC a.1 (length b))<|.l ((getD b (toNat a.1) []),a.2.1,a.2.2.1,a.2.2.2)
def Cj c e b a:=(aGv c e b a).ev
def aLk:FP prog:=aH cx func64 [oH] (yj [.box 64 0,.dat (.slice .str)]) [Zj] [.arg 0] (SB aGv) ⟨[],[.tmp 4],Gf,[Zj],[(0,0,64)],[]⟩ yq5
def aBn(b e:List UInt8)(m:Y1)(j i:Int):Tr ((List UInt8)×yA):=.t (b==([]:List UInt8)) (.g (((0:Int)<=(1:Int))&&((1:Int)<=(length e:Int)))<|.l ((List.drop 0 (List.take (toNat 1) e)),m,j,i)) (.c _ (mW (length b:Int) m j i) λa=>.c _ (mW (length e:Int) a.2.1 a.2.2.1 a.2.2.2) λf=>.g ((0<=f.1)&&(f.1<=(length e:Int)))<|.g (((0:Int)<=(1:Int))&&((1:Int)<=(length (List.drop (toNat f.1) (List.take (length e) e)):Int)))<|.c _ (mW 3 f.2.1 f.2.2.1 f.2.2.2) λh=>.t (h.1==0) (.g ((0<=a.1)&&(a.1<=(length b:Int)))<|.g (length (List.drop 0 (List.take (toNat a.1) b))+length (List.drop 0 (List.take (toNat 1) (List.drop (toNat f.1) (List.take (length e) e))))<=9223372036854775807)<|.g ((0<=a.1)&&(a.1<=(length b:Int)))<|.g (length ((List.drop 0 (List.take (toNat a.1) b))++(List.drop 0 (List.take (toNat 1) (List.drop (toNat f.1) (List.take (length e) e)))))+length (List.drop (toNat a.1) (List.take (length b) b))<=9223372036854775807)<|.l ((((List.drop 0 (List.take (toNat a.1) b))++(List.drop 0 (List.take (toNat 1) (List.drop (toNat f.1) (List.take (length e) e)))))++(List.drop (toNat a.1) (List.take (length b) b))),h.2.1,h.2.2.1,h.2.2.2)) (.t (h.1==1) (.g ((0<=a.1)&&(a.1<=(length b:Int)))<|.g (length (List.drop 0 (List.take (toNat a.1) b))+length (List.drop 0 (List.take (toNat 1) (List.drop (toNat f.1) (List.take (length e) e))))<=9223372036854775807)<|.g (((0:Int)<=(wrap .i64 (a.1+1)))&&((wrap .i64 (a.1+1))<=(length b:Int)))<|.g (length ((List.drop 0 (List.take (toNat a.1) b))++(List.drop 0 (List.take (toNat 1) (List.drop (toNat f.1) (List.take (length e) e)))))+length (List.drop (toNat (wrap .i64 (a.1+1))) (List.take (length b) b))<=9223372036854775807)<|.l ((((List.drop 0 (List.take (toNat a.1) b))++(List.drop 0 (List.take (toNat 1) (List.drop (toNat f.1) (List.take (length e) e)))))++(List.drop (toNat (wrap .i64 (a.1+1))) (List.take (length b) b))),h.2.1,h.2.2.1,h.2.2.2)) (.g ((0<=a.1)&&(a.1<=(length b:Int)))<|.g (((0:Int)<=(wrap .i64 (a.1+1)))&&((wrap .i64 (a.1+1))<=(length b:Int)))<|.g (length (List.drop 0 (List.take (toNat a.1) b))+length (List.drop (toNat (wrap .i64 (a.1+1))) (List.take (length b) b))<=9223372036854775807)<|.l (((List.drop 0 (List.take (toNat a.1) b))++(List.drop (toNat (wrap .i64 (a.1+1))) (List.take (length b) b))),h.2.1,h.2.2.1,h.2.2.2))))
def CB e a f c b:=(aBn e a f c b).ev
def aJh:FP prog:=aH cx func65 [oH] (yj [.box 64 0,.dat .str,.dat .str]) [Zj] [.arg 0] ((λf x=>f x.1.2.1 x.1.2.2.1 x.2.1.1 x.2.1.2.1 x.2.1.2.2.1) aBn) ⟨[],[.tmp 6],Gf,[Zj],[(0,0,64)],[]⟩ yq5
end
end Go.Proofs.YtjiljcblmgeioaaGreatDoor
