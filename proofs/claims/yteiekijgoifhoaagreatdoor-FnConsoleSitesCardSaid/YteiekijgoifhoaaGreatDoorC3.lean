import Derived.Test.YteiekijgoifhoaaGreatDoorB52
import Derived.Test.YteiekijgoifhoaaGreatDoorB32
import Derived.Test.YteiekijgoifhoaaGreatDoorB37
import Derived.Test.YteiekijgoifhoaaGreatDoorB43
import Derived.Test.YteiekijgoifhoaaGreatDoorB54
import Derived.Test.YteiekijgoifhoaaGreatDoorProg
namespace Go.Proofs.YteiekijgoifhoaaGreatDoor
noncomputable section
open Go.Proofs.Tryz
open List (length getD set)
open Int (toNat)
open IntKind (wrap)
abbrev yi:Ty:=.int .i64
abbrev y1:Ty:=.slice yi
abbrev y2:Ty:=.slice y1
abbrev y3:Ty:=.slice y2
abbrev Y1:Type:=List Int
abbrev Y2:Type:=List Y1
abbrev Y3:Type:=List Y2
abbrev ys(l:List Nat)(s:Sh):SSh:= {slots:=l,sh:=s,obs:=[]}
abbrev yd(A:Sh)(I:List (Nat×OSh))(L:List LP)(R:Type)(F:A.I×OL I→Option R)(e:R→List AV×List (Nat×Ob)):FD:= {A:=A,ins:=I,lend:=L,R:=R,F:=F,emb:=e}
abbrev Zc:List UInt8:=([0,1,2,2,3,3,3,3,4,4,4,4,4,4,4,4,5,5,5,5,5,5,5,5,5,5,5,5,5,5,5,5,6,6,6,6,6,6,6,6,6,6,6,6,6,6,6,6,6,6,6,6,6,6,6,6,6,6,6,6,6,6,6,6,7,7,7,7,7,7,7,7,7,7,7,7,7,7,7,7,7,7,7,7,7,7,7,7,7,7,7,7,7,7,7,7,7,7,7,7,7,7,7,7,7,7,7,7,7,7,7,7,7,7,7,7,7,7,7,7,7,7,7,7,7,7,7,7,8,8,8,8,8,8,8,8,8,8,8,8,8,8,8,8,8,8,8,8,8,8,8,8,8,8,8,8,8,8,8,8,8,8,8,8,8,8,8,8,8,8,8,8,8,8,8,8,8,8,8,8,8,8,8,8,8,8,8,8,8,8,8,8,8,8,8,8,8,8,8,8,8,8,8,8,8,8,8,8,8,8,8,8,8,8,8,8,8,8,8,8,8,8,8,8,8,8,8,8,8,8,8,8,8,8,8,8,8,8,8,8,8,8,8,8,8,8,8,8,8,8,8,8,8,8,8,8]:List UInt8)
abbrev Zd:Nat×OSh:=(64,.cells (yj [.dat (.slice (.int .u8)),.dat yi,.dat (.int .u64)]))
abbrev Zf:Nat:=IntKind.bits .u64
abbrev Zk:Sh:=yj [.dat y1,.dat y2]
abbrev Yl:Type:=(List Nat)×Y2
abbrev Zm:Sh:=yj [.dat y1,.dat y2,.dat y1,.dat yi]
abbrev Zn:Sh:=yj [.dat yi]
abbrev Yo:Type:=HL [y1,y1]→Option (Int)
abbrev Zp:Nat×OSh:=(4,.cells (yj [.arr 25,.arr 1920,.arr 2112]))
abbrev Yq:Type:=Int×Y1
abbrev Yr:Type:=Int×Int
abbrev Zt:Nat×OSh:=(2,.cells (yj [.nilsl,.nilsl,.nilsl]))
abbrev Zu:Nat×OSh:=(64,.perm 22 3 yi)
abbrev Zv:Sh:=yj [.box 64 0,.box 65 0,.box 66 0]
abbrev Yw:Type:=Y1×(Y2×Int)
abbrev Zx:Sh:=yj [.nilsl,.nilsl,.nilsl,.dat yi]
abbrev Yy:Type:=(List UInt8)×(Bool)
abbrev Zz:Nat×OSh:=(64,.arr 3 yi)
abbrev Zaa:Nat×OSh:=(1,.cells Zk)
abbrev Zab:Nat×OSh:=(0,.arr 3 yi)
abbrev Yac:Type:=HL [yi,yi]→Option (Int)
abbrev Zad:Nat×OSh:=(2112,.arr 3 yi)
abbrev Zae:Sh:=yj [.dat yi,.dat yi,.dat yi,.dat yi,.dat y1]
abbrev Yaf:Type:=Y1×(Int×Yq)
abbrev Zag:Sh:=yj [.dat .bool]
abbrev Zah:Sh:=yj [.arr 0]
abbrev Zai:Sh:=yj [.dat .str,.dat .str]
def tabl:List (Nat×TD):=[(3,.sc yi),(4,.sc .bool),(5,.sc (.int .u8)),(9,.sc .str),(22,.sl 3 yi 8),(23,.sl 22 y1 24),(33,.sl 9 .str 16),(36,.st (.pair y1 y2) [(22,y1),(23,y2)]),(38,.st (.pair (.pair y1 y2) (.pair y1 yi)) [(36,(.pair y1 y2)),(22,y1),(3,yi)]),(39,.st (.pair .str (.pair .str yi)) [(9,.str),(9,.str),(3,yi)]),(41,.st (.pair (.pair (.pair y1 y2) (.pair y1 yi)) (.pair .str (.pair .str yi))) [(38,(.pair (.pair y1 y2) (.pair y1 yi))),(39,(.pair .str (.pair .str yi)))]),(48,.sl 5 (.int .u8) 1),(59,.sl 63 (.pair .str .str) 32),(63,.st (.pair .str .str) [(9,.str),(9,.str)]),(93,.sc (.int .u64)),(95,.st (.pair (.slice (.int .u8)) (.pair yi (.int .u64))) [(48,(.slice (.int .u8))),(3,yi),(93,(.int .u64))]),(124,.st (.pair y1 (.pair y1 y1)) [(22,y1),(22,y1),(22,y1)]),(156,.st (.pair yi (.pair yi (.pair yi (.pair yi y1)))) [(3,yi),(3,yi),(3,yi),(3,yi),(22,y1)]),(183,.sc (.int .u64)),(259,.sc (.int .u64))]
def tt:Nat→TD:=fun i=>match look tabl i with
 |some d=>d
 |none=>.no
theorem mixed:prog.follows .mixedOrders=true:=by kernel_rfl
theorem tabOK:TabOK prog tt:=tab_ok (by kernel_rfl)
theorem cx:Cx prog tt:=⟨mixed,tabOK⟩
def wqk(a:Y1):Tr (Bool):=
 .l ((65536:Int)<(length a:Int))
def wzn a:=(wqk a).ev
abbrev yq1{a b c:Type}{z:Type _}(f:a→z)(x:(a×b)×c):z:=f x.1.1
abbrev yq0:RetK:=yr [.tmp 2] Zag
abbrev yq2{a:Type}(r:a):=((r,()),())
def waes:FP prog:=fnP cx func18 [] (yj [.dat (.slice (.int .u8))]) [] [] (yq1 wqk) yq0 yq2
def wql(a:Y1)(b:Int)(c:Int):Tr (Int×(Y1×Yr)):=
 .t (b<(length a:Int))
 (.g (inR b (length a))<|
 .t ((wrap .i64 (b+1))≤(length a:Int))
 (.l ((wrap .i64 (getD a (toNat b) 0)),(a,((wrap .i64 (b+1)),(wrap .u64 ((wrap .u64 ((wrap .u64 (c*(6364136223846793005:Int)))+(wrap .u64 (wrap .i64 (getD a (toNat b) 0)))))+462197))))))
 (.g ((0:Int)≤(40:Int))<|
 .l ((wrap .i64 (wrap .u64 (BitVec.toNat ((BitVec.ofInt Zf (Int.fdiv (wrap .u64 ((wrap .u64 ((wrap .u64 (c*(6364136223846793005:Int)))+(wrap .u64 (wrap .i64 (getD a (toNat b) 0)))))+462197)) (2^(min (toNat 40) Zf))))&&& (BitVec.ofInt Zf 255))))),(a,((wrap .i64 (b+1)),(wrap .u64 ((wrap .u64 ((wrap .u64 (c*(6364136223846793005:Int)))+(wrap .u64 (wrap .i64 (getD a (toNat b) 0)))))+462197)))))))
 (.t ((wrap .i64 (b+1))≤(length a:Int))
 (.l (0,(a,((wrap .i64 (b+1)),(wrap .u64 ((wrap .u64 ((wrap .u64 (c*(6364136223846793005:Int)))+(wrap .u64 0)))+462197))))))
 (.g ((0:Int)≤(40:Int))<|
 .l ((wrap .i64 (wrap .u64 (BitVec.toNat ((BitVec.ofInt Zf (Int.fdiv (wrap .u64 ((wrap .u64 ((wrap .u64 (c*(6364136223846793005:Int)))+(wrap .u64 0)))+462197)) (2^(min (toNat 40) Zf))))&&& (BitVec.ofInt Zf 255))))),(a,((wrap .i64 (b+1)),(wrap .u64 ((wrap .u64 ((wrap .u64 (c*(6364136223846793005:Int)))+(wrap .u64 0)))+462197)))))))
def wjy b c a:=(wql b c a).ev
abbrev yq4{a b c d e g:Type}{z:Type _}(f:b→c→d→z)(x:a×(b×c×d×e)×g):z:=f x.2.1.1 x.2.1.2.1 x.2.1.2.2.1
abbrev yq3:RetK:=⟨[],[.tmp 2],Zn,[Zd],[(0,0,64)],[]⟩
abbrev yq5{a b c d:Type}(r:a×b×c×d):=((r.1,()),((r.2.1,(r.2.2.1,(r.2.2.2,()))),()))
def waet:FP prog:=fnP cx func144 [] (yj [.box 64 0]) [Zd] [.arg 0] (yq4 wql) yq3 yq5
def wqm(b:Int)(i:Y1)(f:Int)(h:Int):Tr (Int×(Y1×Yr)):=
 .t (b≤1)
 (.l (0,(i,(f,h))))
 (.c _ (wjy i f h) fun a=>
 .t (200<b)
 (.c _ (wjy a.2.1 a.2.2.1 a.2.2.2) fun e=>
 .g (!decide (b=0))<|
 .l ((Int.tmod (wrap .i64 ((wrap .i64 (a.1*(256:Int)))+e.1)) b),(e.2.1,(e.2.2.1,e.2.2.2))))
 (.g (!decide (b=0))<|
 .l ((Int.tmod a.1 b),(a.2.1,(a.2.2.1,a.2.2.2)))))
def ww a c e b:=(wqm a c e b).ev
abbrev yq7{a b c d e g h i:Type}{z:Type _}(f:b→d→e→g→z)(x:(a×b×c)×(d×e×g×h)×i):z:=f x.1.2.1 x.2.1.1 x.2.1.2.1 x.2.1.2.2.1
abbrev yq6:RetK:=⟨[],[.tmp 4],Zn,[Zd],[(0,0,64)],[]⟩
def wdl:FP prog:=fnP cx func78 [waet] (yj [.box 64 0,.dat yi]) [Zd] [.arg 0] (yq7 wqm) yq6 yq5
def wqn(b:Y1)(h:Y1)(e:Int)(f:Int):Tr (Int×(Y1×Yr)):=
 .c _ (ww (length b:Int) h e f) fun a=>
 .g (inR a.1 (length b))<|
 .l ((getD b (toNat a.1) 0),(a.2.1,(a.2.2.1,a.2.2.2)))
def wu a c e b:=(wqn a c e b).ev
def wfx:FP prog:=fnP cx func77 [wdl] (yj [.box 64 0,.dat y1]) [Zd] [.arg 0] (yq7 wqn) yq6 yq5
def wak(k:Int×(Int×(Int×Yq)))(v:Int×Yaf):Tr ((Int×Yaf)⊕Yaf):=
 .t (v.1<k.2.1)
 (.t (v.1<k.1)
 (.c _ (ww k.2.2.2.1 v.2.1 v.2.2.1 v.2.2.2.1) fun a=>
 .g ((length v.2.2.2.2+length ([a.1]:Y1))*8≤140737488355328)<|
 .l (.inl ((wrap .i64 (v.1+1)),(a.2.1,(a.2.2.1,(a.2.2.2,(v.2.2.2.2++([a.1]:Y1))))))))
 (.l (.inr (v.2.1,(v.2.2.1,(v.2.2.2.1,v.2.2.2.2))))))
 (.l (.inr (v.2.1,(v.2.2.1,(v.2.2.2.1,v.2.2.2.2)))))
def wfy k v:=iter (fun v=>(wak k v).ev) v
abbrev yq8:Keep:=yk [.ownB 4 0 900340 3 yi,.ownB 7 0 900370 3 yi] [0,1,4,5,6,7,8,9] (yj [.box 64 0,.dat yi,.box 4 0,.dat yi,.dat yi,.box 7 0,.dat yi,.dat yi]) [Zd,(4,.cells (yj [.arr 900340,.nilsl])),(7,.cells (yj [.arr 900370,.nilsl])),(900340,.arr 3 yi),(900370,.arr 3 yi)]
abbrev yq9:Keep:=yk [] [0,1,4,6,7,8] (yj [.box 64 0,.dat yi,.box 4 0,.dat yi,.box 7 0,.dat yi]) [Zd,(4,.cells (yj [.arr 900340,.nilsl])),(7,.cells (yj [.arr 900370,.nilsl])),(900340,.arr 3 yi),(900370,.arr 3 yi)]
abbrev yq10:Keep:=yh [] .nil
abbrev yq11{a b c d e g h i j l:Type}(k:a×b×c×d×e)(v:g×h×i×j×l):=(((),(k.1,((),(k.2.1,(k.2.2.1,((),(k.2.2.2.1,(v.1,())))))))),((v.2.1,(v.2.2.1,(v.2.2.2.1,()))),(((),((),())),(((),((),())),(k.2.2.2.2,(v.2.2.2.2,()))))))
abbrev yq12{a b c d e g h i j l m n o:Type}(t:(a×b×c×d×e×g×h×i)×j×l×m×n×o):=(t.1.2.1,(t.1.2.2.2.1,(t.1.2.2.2.2.1,(t.1.2.2.2.2.2.2.1,t.2.2.2.2.1))))
abbrev yq13{a b c d e g h i j l m n o p q s t u:Type}(t:(a×b×c×d×e×g×h×i×j)×(l×m×n×o)×p×q×s×t×u):=(t.1.2.2.2.2.2.2.2.1,(t.2.1.1,(t.2.1.2.1,(t.2.1.2.2.1,t.2.2.2.2.2.1))))
def wjz:LD:=yl (wak) yq8 [(0,yq9)] yq10 yq11 yq12 yq13 (fun k r=>yx 0 yq9 (((),(k.1,((),(k.2.2.1,((),(k.2.2.2.1,())))))),((r.1,(r.2.1,(r.2.2.1,()))),(((),((),())),(((),((),())),(k.2.2.2.2,(r.2.2.2,())))))))
def wbj(k:Int×(Int×(Int×(Int×(Y1×(Y2×(Y1×Y2)))))))(v:Int×Yaf):Tr ((Int×Yaf)⊕Yaf):=
 .t (v.1<(length k.2.2.2.2.2.2.1:Int))
 (.c _ (ww k.2.2.1 v.2.1 v.2.2.1 v.2.2.2.1) fun a=>
 .g ((length v.2.2.2.2+length ([a.1]:Y1))*8≤140737488355328)<|
 .l (.inl ((wrap .i64 (v.1+1)),(a.2.1,(a.2.2.1,(a.2.2.2,(v.2.2.2.2++([a.1]:Y1))))))))
 (.l (.inr (v.2.1,(v.2.2.1,(v.2.2.2.1,v.2.2.2.2)))))
def wfz k v:=iter (fun v=>(wbj k v).ev) v
abbrev yq14:Keep:=yk [] [0,1,4,6,7,8,10,11,12] (yj [.box 64 0,.dat yi,.box 4 0,.dat yi,.box 7 0,.dat yi,.dat yi,.arr 51,.dat yi]) [Zd,(4,.cells (yj [.arr 900340,.arr 902341])),(7,.cells (yj [.arr 900370,.arr 902371])),(51,.arr 3 yi),(900340,.arr 3 yi),(902341,.rows 22 3 yi),(900370,.arr 3 yi),(902371,.rows 22 3 yi)]
abbrev yq15:Keep:=yk [] [0,1,4,6,7,8,10,11] (yj [.box 64 0,.dat yi,.box 4 0,.dat yi,.box 7 0,.dat yi,.dat yi,.arr 51]) [Zd,(4,.cells (yj [.arr 900340,.arr 902341])),(7,.cells (yj [.arr 900370,.arr 902371])),(51,.arr 3 yi),(900340,.arr 3 yi),(902341,.rows 22 3 yi),(900370,.arr 3 yi),(902371,.rows 22 3 yi)]
abbrev yq16{a b c d e g h i j l m n o:Type}(k:a×b×c×d×e×g×h×i)(v:j×l×m×n×o):=(((),(k.1,((),(k.2.1,((),(k.2.2.1,(k.2.2.2.1,((),(v.1,()))))))))),((v.2.1,(v.2.2.1,(v.2.2.2.1,()))),(((),((),())),(((),((),())),(v.2.2.2.2,(k.2.2.2.2.1,(k.2.2.2.2.2.1,(k.2.2.2.2.2.2.1,(k.2.2.2.2.2.2.2,())))))))))
abbrev yq17{a b c d e g h i j l m n o p q s t:Type}(t:(a×b×c×d×e×g×h×i)×j×l×m×n×o×p×q×s×t):=(t.1.2.1,(t.1.2.2.2.1,(t.1.2.2.2.2.2.1,(t.1.2.2.2.2.2.2.1,(t.2.2.2.2.2.1,(t.2.2.2.2.2.2.1,(t.2.2.2.2.2.2.2.1,t.2.2.2.2.2.2.2.2.1)))))))
abbrev yq18{a b c d e g h i j l m n o p q s t u:Type}(t:(a×b×c×d×e×g×h×i×j×l)×(m×n×o×p)×q×s×t×u):=(t.1.2.2.2.2.2.2.2.2.1,(t.2.1.1,(t.2.1.2.1,(t.2.1.2.2.1,t.2.2.2.2.1))))
def wkc:LD:=yl (wbj) yq14 [(4,yq15)] yq10 yq16 yq17 yq18 (fun k r=>yx 4 yq15 (((),(k.1,((),(k.2.1,((),(k.2.2.1,(k.2.2.2.1,((),())))))))),((r.1,(r.2.1,(r.2.2.1,()))),(((),((),())),(((),((),())),(r.2.2.2,(k.2.2.2.2.1,(k.2.2.2.2.2.1,(k.2.2.2.2.2.2.1,(k.2.2.2.2.2.2.2,()))))))))))
def wal(k:Int×(Int×(Int×(Y1×(Y2×Y1)))))(v:Int×(Y1×(Int×(Int×Y2)))):Tr ((Int×(Y1×(Int×(Int×Y2))))⊕(Y1×(Int×(Int×Y2)))):=
 .t (v.1<k.2.1)
 (.t (v.1<k.1)
 (.c _ (wfz (k.1,(k.2.1,(k.2.2.1,(v.1,(k.2.2.2.1,(k.2.2.2.2.1,(k.2.2.2.2.2,v.2.2.2.2))))))) (0,(v.2.1,(v.2.2.1,(v.2.2.2.1,[]))))) fun a=>
 .g ((length v.2.2.2.2+1)*24≤140737488355328)<|
 .l (.inl ((wrap .i64 (v.1+1)),(a.1,(a.2.1,(a.2.2.1,(set (v.2.2.2.2++ [[]]) (length v.2.2.2.2) a.2.2.2)))))))
 (.l (.inr (v.2.1,(v.2.2.1,(v.2.2.2.1,v.2.2.2.2))))))
 (.l (.inr (v.2.1,(v.2.2.1,(v.2.2.2.1,v.2.2.2.2)))))
def wga k v:=iter (fun v=>(wal k v).ev) v
abbrev yq19:Keep:=yk [.ownRB 4 1 902341 22 3 yi,.ownRB 7 1 902371 22 3 yi] [0,1,4,6,7,8,10] (yj [.box 64 0,.dat yi,.box 4 0,.dat yi,.box 7 0,.dat yi,.dat yi]) [Zd,(4,.cells (yj [.arr 900340,.arr 902341])),(7,.cells (yj [.arr 900370,.arr 902371])),(900340,.arr 3 yi),(902341,.rows 22 3 yi),(900370,.arr 3 yi),(902371,.rows 22 3 yi)]
abbrev yq20:Keep:=yk [] [0,4,7] (yj [.box 64 0,.box 4 0,.box 7 0]) [Zd,(4,.cells (yj [.arr 900340,.arr 902341])),(7,.cells (yj [.arr 900370,.arr 902371])),(900340,.arr 3 yi),(902341,.rows 22 3 yi),(900370,.arr 3 yi),(902371,.rows 22 3 yi)]
abbrev yq21{a b c d e g h i j l m:Type}(k:a×b×c×d×e×g)(v:h×i×j×l×m):=(((),(k.1,((),(k.2.1,((),(k.2.2.1,(v.1,()))))))),((v.2.1,(v.2.2.1,(v.2.2.2.1,()))),(((),((),())),(((),((),())),(k.2.2.2.1,(k.2.2.2.2.1,(k.2.2.2.2.2,(v.2.2.2.2,()))))))))
abbrev yq22{a b c d e g h i j l m n o p:Type}(t:(a×b×c×d×e×g×h)×i×j×l×m×n×o×p):=(t.1.2.1,(t.1.2.2.2.1,(t.1.2.2.2.2.2.1,(t.2.2.2.2.1,(t.2.2.2.2.2.1,t.2.2.2.2.2.2.1)))))
abbrev yq23{a b c d e g h i j l m n o p q s t u w:Type}(t:(a×b×c×d×e×g×h×i)×(j×l×m×n)×o×p×q×s×t×u×w):=(t.1.2.2.2.2.2.2.1,(t.2.1.1,(t.2.1.2.1,(t.2.1.2.2.1,t.2.2.2.2.2.2.2.1))))
def wkd:LD:=yl (wal) yq19 [(2,yq20)] yq10 yq21 yq22 yq23 (fun k r=>yx 2 yq20 (((),((),((),()))),((r.1,(r.2.1,(r.2.2.1,()))),(((),((),())),(((),((),())),(k.2.2.2.1,(k.2.2.2.2.1,(k.2.2.2.2.2,(r.2.2.2,())))))))))
def wqo(h:Int)(m:Y1)(i:Int)(j:Int):Tr (Y1×(Y2×(Y1×Yr))):=
 .c _ (wu ([3,4,2,5,1,6,7]:Y1) m i j) fun f=>
 .c _ (wu ([4,3,5,2,6,7,1,0]:Y1) f.2.1 f.2.2.1 f.2.2.2) fun e=>
 .c _ (wu ([10,10,20,4]:Y1) e.2.1 e.2.2.1 e.2.2.2) fun b=>
 .c _ (wfy (h,(f.1,(e.1,(b.1,[])))) (0,(b.2.1,(b.2.2.1,(b.2.2.2,[]))))) fun a=>
 .c _ (wga (h,(e.1,(b.1,([],([],a.2.2.2))))) (0,(a.1,(a.2.1,(a.2.2.1,[]))))) fun g=>
 .l (a.2.2.2,(g.2.2.2,(g.1,(g.2.1,g.2.2.1))))
def wgb a c e b:=(wqo a c e b).ev
abbrev yq24:RetK:=⟨[.ren 900370 1,.ren 902371 2],[.cell 4 36],(yj [.agg (yj [.arr 1,.arr 2])]),[(1,.arr 3 yi),(2,.rows 22 3 yi),Zd],[(0,0,64)],[]⟩
abbrev yq25{a b c d e:Type}(r:a×b×c×d×e):=((((),((),())),()),(r.1,(r.2.1,((r.2.2.1,(r.2.2.2.1,(r.2.2.2.2,()))),()))))
def wzo:FP prog:=fnP cx func219 [wfx,wdl] (yj [.box 64 0,.dat yi]) [Zd] [.arg 0] (yq7 wqo) yq24 yq25 (zOf [(1,[(2,[14]),(5,[17])]),(2,[(3,[21])])]) [(0,wjz),(4,wkc),(2,wkd)]
def wke(a:Y1):Tr Y1:=
 .g ((length ([]:Y1)+length a)*8≤140737488355328)<|
 .l (([]:Y1)++a)
def waj a:=(wke a).ev
abbrev yq26:RetK:=⟨[.ren 3 0],[.tmp 2],Zah,[Zab],[],[]⟩
abbrev yq27{a:Type}(r:a):=(((),()),(r,()))
def wfg:FP prog:=fnP cx func121 [] (yj [.dat y1]) [] [] (yq1 wke) yq26 yq27
def wbk(k:Y1×(Int×(Int×(Y1×Y2))))(v:List Y1):Tr (Y2⊕Y2):=
 .t ((length v:Int)<(8:Int))
 (.c _ (waj k.2.2.2.1) fun a=>
 .g ((length v+1)*24≤140737488355328)<|
 .l (.inl (set (v++ [[]]) (length v) a)))
 (.l (.inr v))
def wgc k v:=iter (fun v=>(wbk k v).ev) v
abbrev yq28:Keep:=yk [.ownRB 4 1 901341 22 3 yi] [0,3,4] (yj [.box 64 0,.box 3 0,.box 4 0]) [Zd,(3,.cells (yj [.arr 65,.arr 66])),(4,.cells (yj [.nilsl,.arr 901341])),(65,.arr 3 yi),(66,.rows 22 3 yi),(901341,.rows 22 3 yi)]
abbrev yq29:Keep:=yk [] [0,3,4] (yj [.box 64 0,.box 3 0,.box 4 0]) [Zd,(3,.cells (yj [.arr 65,.arr 66])),(4,.cells (yj [.nilsl,.arr 901341])),(65,.arr 3 yi),(66,.rows 22 3 yi),(901341,.rows 22 3 yi)]
abbrev yq30{a b c d e g:Type}(k:a×b×c×d×e)(v:g):=(((),((),((),()))),((k.1,(k.2.1,(k.2.2.1,()))),(((),((),())),(((),((),())),(k.2.2.2.1,(v,(k.2.2.2.2,())))))))
abbrev yq31{a b c d e g h i j l m:Type}(t:a×(b×c×d×e)×g×h×i×j×l×m):=(t.2.1.1,(t.2.1.2.1,(t.2.1.2.2.1,(t.2.2.2.2.1,t.2.2.2.2.2.2.1))))
abbrev yq32{a b c d e g h:Type}(t:a×b×c×d×e×g×h):=t.2.2.2.2.2.1
def wkf:LD:=yl (wbk) yq28 [(1,yq29)] yq10 yq30 yq31 yq32 (fun k r=>yx 1 yq29 (((),((),((),()))),((k.1,(k.2.1,(k.2.2.1,()))),(((),((),())),(((),((),())),(k.2.2.2.1,(r,(k.2.2.2.2,()))))))))
def wqp(n:Y1)(j:Int)(m:Int)(b:Y1)(e:List Y1):Tr (Y1×(Y2×(Y1×Yr))):=
 .t ((length b:Int)==(0:Int))
 (.l (b,(e,(n,(j,m)))))
 (.c _ (ww (length b:Int) n j m) fun f=>
 .c _ (ww 60 f.2.1 f.2.2.1 f.2.2.2) fun a=>
 .t (a.1==0)
 (.c _ (wu ([(-1),99,100,4611686018427387904]:Y1) a.2.1 a.2.2.1 a.2.2.2) fun h=>
 .g (inR f.1 (length b))<|
 .g ((toNat f.1)<length b)<|
 .l ((set b (toNat f.1) h.1),(e,(h.2.1,(h.2.2.1,h.2.2.2)))))
 (.t (a.1==1)
 (.t ((0:Int)<(length e:Int))
 (.g (inR 0 (length e))<|
 .g ((toNat 0)<length e)<|
 .c _ (wu ([(-1),99,100,(-9223372036854775808)]:Y1) a.2.1 a.2.2.1 a.2.2.2) fun i=>
 .g (inR f.1 (length (getD e (toNat 0) [])))<|
 .g ((toNat f.1)<length (getD e (toNat 0) []))<|
 .l (b,((set e (toNat 0) (set (getD e (toNat 0) []) (toNat f.1) i.1)),(i.2.1,(i.2.2.1,i.2.2.2)))))
 (.l (b,(e,(a.2.1,(a.2.2.1,a.2.2.2))))))
 (.t (a.1==2)
 (.g ((length b+length ([1]:Y1))*8≤140737488355328)<|
 .l ((b++([1]:Y1)),(e,(a.2.1,(a.2.2.1,a.2.2.2)))))
 (.t (a.1==3)
 (.c _ (wgc (a.2.1,(a.2.2.1,(a.2.2.2,(b,[])))) e) fun o=>
 .l (b,(o,(a.2.1,(a.2.2.1,a.2.2.2)))))
 (.t (a.1==4)
 (.l ([],([],(a.2.1,(a.2.2.1,a.2.2.2)))))
 (.l (b,(e,(a.2.1,(a.2.2.1,a.2.2.2))))))))))
def wgd f c e a b:=(wqp f c e a b).ev
abbrev yq34{a b c d e g h i:Type}{z:Type _}(f:b→c→d→g→h→z)(x:a×(b×c×d×e)×g×h×i):z:=f x.2.1.1 x.2.1.2.1 x.2.1.2.2.1 x.2.2.1 x.2.2.2.1
abbrev yq33:RetK:=⟨[.ownB 4 0 1 3 yi,.ownRB 4 1 2 22 3 yi,.ren 65 1,.ren 66 2],[.cell 4 36],(yj [.agg (yj [.arr 1,.arr 2])]),[(1,.arr 3 yi),(2,.rows 22 3 yi),Zd],[(0,0,64)],[65,66]⟩
def waeu:FP prog:=fnP cx func218 [wdl,wfx,wfg] (yj [.box 64 0,.agg (yj [.arr 65,.arr 66])]) [Zd,(65,.arr 3 yi),(66,.rows 22 3 yi)] [.arg 0,.comp 1 0,.comp 1 1] (yq34 wqp) yq33 yq25 (zOf [(6,[(0,[60000004])]),(9,[(0,[60000006])])]) [(1,wkf)]
def wqq(a:Int)(b:Int):Tr (Int):=
 .t (b<a)
 (.l a)
 (.l b)
def wge a b:=(wqq a b).ev
abbrev yq41{a b c d:Type}{z:Type _}(f:a→b→z)(x:(a×b×c)×d):z:=f x.1.1 x.1.2.1
abbrev yq40:RetK:=yr [.tmp 4] Zn
def wzp:FP prog:=fnP cx func225 [] (yj [.dat yi,.dat yi]) [] [] (yq41 wqq) yq40 yq2
def wbl(k:Y1×Y2)(v:Int×Yaf):Tr ((Int×Yaf)⊕Yaf):=
 .t (v.1<(length k.1:Int))
 (.c _ (ww 20 v.2.1 v.2.2.1 v.2.2.2.1) fun a=>
 .g ((length v.2.2.2.2+length ([a.1]:Y1))*8≤140737488355328)<|
 .l (.inl ((wrap .i64 (v.1+1)),(a.2.1,(a.2.2.1,(a.2.2.2,(v.2.2.2.2++([a.1]:Y1))))))))
 (.l (.inr (v.2.1,(v.2.2.1,(v.2.2.2.1,v.2.2.2.2)))))
def wgf k v:=iter (fun v=>(wbl k v).ev) v
abbrev yq35:Keep:=yk [] [0,4,5,6,7] (yj [.box 64 0,.box 4 0,.box 5 0,.arr 14,.dat yi]) [Zd,(4,.cells (yj [.nilsl,.nilsl])),(5,.cells (yj [.arr 833,.arr 834])),(14,.arr 3 yi),(833,.arr 3 yi),(834,.rows 22 3 yi)]
abbrev yq36:Keep:=yk [] [0,4,5,6] (yj [.box 64 0,.box 4 0,.box 5 0,.arr 14]) [Zd,(4,.cells (yj [.nilsl,.nilsl])),(5,.cells (yj [.arr 833,.arr 834])),(14,.arr 3 yi),(833,.arr 3 yi),(834,.rows 22 3 yi)]
abbrev yq37{a b c d e g h:Type}(k:a×b)(v:c×d×e×g×h):=(((),((),((),((),(v.1,()))))),((v.2.1,(v.2.2.1,(v.2.2.2.1,()))),(((),((),())),(((),((),())),(v.2.2.2.2,(k.1,(k.2,())))))))
abbrev yq38{a b c d e g h i:Type}(t:a×b×c×d×e×g×h×i):=(t.2.2.2.2.2.1,t.2.2.2.2.2.2.1)
abbrev yq39{a b c d e g h i j l m n o p:Type}(t:(a×b×c×d×e×g)×(h×i×j×l)×m×n×o×p):=(t.1.2.2.2.2.1,(t.2.1.1,(t.2.1.2.1,(t.2.1.2.2.1,t.2.2.2.2.1))))
def wkg:LD:=yl (wbl) yq35 [(0,yq36)] yq10 yq37 yq38 yq39 (fun k r=>yx 0 yq36 (((),((),((),((),())))),((r.1,(r.2.1,(r.2.2.1,()))),(((),((),())),(((),((),())),(r.2.2.2,(k.1,(k.2,()))))))))
def wbm(k:Int×(Int×(Y1×(Int×(Int×(Y1×Y1))))))(v:Int×Y2):Tr ((Int×Y2)⊕Y2):=
 .t (v.1<(length k.2.2.2.2.2.2:Int))
 (.g (inR k.1 (length v.2))<|
 .g ((toNat k.1)<length v.2)<|
 .g (inR v.1 (length k.2.2.2.2.2.1))<|
 .g ((toNat v.1)<length k.2.2.2.2.2.1)<|
 .g (inR v.1 (length k.2.2.2.2.2.1))<|
 .g ((toNat v.1)<length k.2.2.2.2.2.1)<|
 .c _ (wge (wrap .i64 (k.2.1-(getD k.2.2.2.2.2.1 (toNat v.1) 0))) (wrap .i64 ((getD k.2.2.2.2.2.1 (toNat v.1) 0) -k.2.1))) fun a=>
 .g (inR v.1 (length (getD v.2 (toNat k.1) [])))<|
 .g ((toNat v.1)<length (getD v.2 (toNat k.1) []))<|
 .l (.inl ((wrap .i64 (v.1+1)),(set v.2 (toNat k.1) (set (getD v.2 (toNat k.1) []) (toNat v.1) a)))))
 (.l (.inr v.2))
def wgg k v:=iter (fun v=>(wbm k v).ev) v
abbrev yq42:Keep:=yk [] [0,4,5,6,8,9,10] (yj [.box 64 0,.box 4 0,.box 5 0,.arr 14,.dat yi,.dat yi,.dat yi]) [Zd,(4,.cells (yj [.nilsl,.nilsl])),(5,.cells (yj [.arr 833,.arr 834])),(14,.arr 3 yi),(833,.arr 3 yi),(834,.rows 22 3 yi)]
abbrev yq43:Keep:=yk [] [0,4,5,6,8] (yj [.box 64 0,.box 4 0,.box 5 0,.arr 14,.dat yi]) [Zd,(4,.cells (yj [.nilsl,.nilsl])),(5,.cells (yj [.arr 833,.arr 834])),(14,.arr 3 yi),(833,.arr 3 yi),(834,.rows 22 3 yi)]
abbrev yq44{a b c d e g h i j:Type}(k:a×b×c×d×e×g×h)(v:i×j):=(((),((),((),((),(k.1,(k.2.1,(v.1,()))))))),((k.2.2.1,(k.2.2.2.1,(k.2.2.2.2.1,()))),(((),((),())),(((),((),())),(k.2.2.2.2.2.1,(k.2.2.2.2.2.2,(v.2,())))))))
abbrev yq45{a b c d e g h i j l m n o p q s:Type}(t:(a×b×c×d×e×g×h)×(i×j×l×m)×n×o×p×q×s):=(t.1.2.2.2.2.1,(t.1.2.2.2.2.2.1,(t.2.1.1,(t.2.1.2.1,(t.2.1.2.2.1,(t.2.2.2.2.1,t.2.2.2.2.2.1))))))
abbrev yq46{a b c d e g h i j l m n o p q:Type}(t:(a×b×c×d×e×g×h×i)×j×l×m×n×o×p×q):=(t.1.2.2.2.2.2.2.1,t.2.2.2.2.2.2.1)
def wkh:LD:=yl (wbm) yq42 [(4,yq43)] yq10 yq44 yq45 yq46 (fun k r=>yx 4 yq43 (((),((),((),((),(k.1,()))))),((k.2.2.1,(k.2.2.2.1,(k.2.2.2.2.1,()))),(((),((),())),(((),((),())),(k.2.2.2.2.2.1,(k.2.2.2.2.2.2,(r,()))))))))
def wbn(k:Y1×Y1)(v:Int×(Y1×(Int×(Int×Y2)))):Tr ((Int×(Y1×(Int×(Int×Y2))))⊕(Y1×(Int×(Int×Y2)))):=
 .t (v.1<(length v.2.2.2.2:Int))
 (.c _ (ww 20 v.2.1 v.2.2.1 v.2.2.2.1) fun a=>
 .c _ (wgg (v.1,(a.1,(a.2.1,(a.2.2.1,(a.2.2.2,(k.1,k.2)))))) (0,v.2.2.2.2)) fun b=>
 .l (.inl ((wrap .i64 (v.1+1)),(a.2.1,(a.2.2.1,(a.2.2.2,b))))))
 (.l (.inr (v.2.1,(v.2.2.1,(v.2.2.2.1,v.2.2.2.2)))))
def wgh k v:=iter (fun v=>(wbn k v).ev) v
abbrev yq47:Keep:=yk [] [0,4,5] (yj [.box 64 0,.box 4 0,.box 5 0]) [Zd,(4,.cells (yj [.nilsl,.nilsl])),(5,.cells (yj [.arr 833,.arr 834])),(833,.arr 3 yi),(834,.rows 22 3 yi)]
abbrev yq48{a b c d e g h:Type}(k:a×b)(v:c×d×e×g×h):=(((),((),((),((),(v.1,()))))),((v.2.1,(v.2.2.1,(v.2.2.2.1,()))),(((),((),())),(((),((),())),(k.1,(k.2,(v.2.2.2.2,())))))))
abbrev yq49{a b c d e g h:Type}(t:a×b×c×d×e×g×h):=(t.2.2.2.2.1,t.2.2.2.2.2.1)
abbrev yq50{a b c d e g h i j l m n o p q s:Type}(t:(a×b×c×d×e×g)×(h×i×j×l)×m×n×o×p×q×s):=(t.1.2.2.2.2.1,(t.2.1.1,(t.2.1.2.1,(t.2.1.2.2.1,t.2.2.2.2.2.2.1))))
def wki:LD:=yl (wbn) yq43 [(2,yq47)] yq10 yq48 yq49 yq50 (fun k r=>yx 2 yq47 (((),((),((),()))),((r.1,(r.2.1,(r.2.2.1,()))),(((),((),())),(((),((),())),(k.2,(r.2.2.2,())))))))
def wqr(f:Int)(i:Y1)(g:Int)(h:Int):Tr (Y1×(Y2×(Y1×Yr))):=
 .c _ (wgb f i g h) fun a=>
 .c _ (wgf (a.1,a.2.1) (0,(a.2.2.1,(a.2.2.2.1,(a.2.2.2.2,[]))))) fun e=>
 .c _ (wgh (e.2.2.2,a.1) (0,(e.1,(e.2.1,(e.2.2.1,a.2.1))))) fun b=>
 .l (a.1,(b.2.2.2,(b.1,(b.2.1,b.2.2.1))))
def wqs a c e b:=(wqr a c e b).ev
abbrev yq51:RetK:=⟨[.ren 833 1,.ren 834 2],[.cell 4 36],(yj [.agg (yj [.arr 1,.arr 2])]),[(1,.arr 3 yi),(2,.rows 22 3 yi),Zd],[(0,0,64)],[]⟩
def waev:FP prog:=fnP cx func220 [wzo,wdl,wzp] (yj [.box 64 0,.dat yi]) [Zd] [.arg 0] (yq7 wqr) yq51 yq25 noZ [(0,wkg),(4,wkh),(2,wki)]
def wbo(k:Y1×(Y2×(Y2×Y1)))(v:Int×Y2):Tr ((Int×Y2)⊕Y2):=
 .t (v.1<(length k.2.1:Int))
 (.g (inR v.1 (length k.2.1))<|
 .c _ (waj (getD k.2.1 (toNat v.1) [])) fun a=>
 .g ((length v.2+1)*24≤140737488355328)<|
 .l (.inl ((wrap .i64 (v.1+1)),(set (v.2++ [[]]) (length v.2) a))))
 (.l (.inr v.2))
def wgi k v:=iter (fun v=>(wbo k v).ev) v
abbrev yq52:Keep:=yk [.ownRB 2 1 900321 22 3 yi,.ownRB 3 1 900331 22 3 yi] [1,2,3,4] (yj [.box 1 0,.box 2 0,.box 3 0,.dat yi]) [Zaa,(2,.cells (yj [.nilsl,.arr 900321])),(3,.cells (yj [.arr 448,.arr 900331])),(900321,.rows 22 3 yi),(448,.arr 3 yi),(900331,.rows 22 3 yi)]
abbrev yq53:Keep:=yk [] [2,3] (yj [.box 2 0,.box 3 0]) [(2,.cells (yj [.nilsl,.arr 900321])),(3,.cells (yj [.arr 448,.arr 900331])),(900321,.rows 22 3 yi),(448,.arr 3 yi),(900331,.rows 22 3 yi)]
abbrev yq54{a b c d e g:Type}(k:a×b×c×d)(v:e×g):=(((),((),((),(v.1,())))),((k.1,(k.2.1,())),(((),((),())),(((),((),())),(k.2.2.1,(k.2.2.2,(v.2,())))))))
abbrev yq55{a b c d e g h i j:Type}(t:a×(b×c×d)×e×g×h×i×j):=(t.2.1.1,(t.2.1.2.1,(t.2.2.2.2.1,t.2.2.2.2.2.1)))
abbrev yq56{a b c d e g h i j l m n:Type}(t:(a×b×c×d×e)×g×h×i×j×l×m×n):=(t.1.2.2.2.1,t.2.2.2.2.2.2.1)
def wkj:LD:=yl (wbo) yq52 [(0,yq53)] yq10 yq54 yq55 yq56 (fun k r=>yx 0 yq53 (((),((),())),(((),((),())),(((),((),())),(k.2.2.1,(k.2.2.2,(r,())))))))
def wqz(b:Y1)(f:List Y1):Tr (Y1×Y2):=
 .c _ (waj b) fun a=>
 .c _ (wgi (b,(f,([],a))) (0,[])) fun e=>
 .l (a,e)
def wra a b:=(wqz a b).ev
abbrev yq58{a b c d e:Type}{z:Type _}(f:a→b→z)(x:((a×b×c)×d)×e):z:=f x.1.1.1 x.1.1.2.1
abbrev yq57:RetK:=⟨[.ren 448 1,.ren 900331 4],[.cell 2 36],(yj [.agg (yj [.arr 1,.arr 4])]),[(1,.arr 3 yi),(4,.rows 22 3 yi)],[],[]⟩
abbrev yq59{a b:Type}(r:a×b):=((((),((),())),()),(r.1,(r.2,())))
def waew:FP prog:=fnP cx func298 [wfg] (yj [.agg Zk]) [] [] (yq58 wqz) yq57 yq59 noZ [(0,wkj)]
def wam(k:Int×(Int×(Int×(Y1×Y2))))(v:Int):Tr ((Int)⊕((Unit)⊕(Unit))):=
 .t (v<(length k.2.2.2.1:Int))
 (.g (inR k.1 (length k.2.2.2.2))<|
 .g (inR k.2.2.1 (length (getD k.2.2.2.2 (toNat k.1) [])))<|
 .g (inR k.1 (length k.2.2.2.2))<|
 .g (inR v (length (getD k.2.2.2.2 (toNat k.1) [])))<|
 .g (inR k.2.1 (length k.2.2.2.2))<|
 .g (inR v (length (getD k.2.2.2.2 (toNat k.2.1) [])))<|
 .g (inR k.2.1 (length k.2.2.2.2))<|
 .g (inR k.2.2.1 (length (getD k.2.2.2.2 (toNat k.2.1) [])))<|
 .t ((wrap .i64 ((wrap .i64 ((getD (getD k.2.2.2.2 (toNat k.1) []) (toNat v) 0)+(getD (getD k.2.2.2.2 (toNat k.2.1) []) (toNat v) 0)))+(getD (getD k.2.2.2.2 (toNat k.2.1) []) (toNat k.2.2.1) 0)))<(getD (getD k.2.2.2.2 (toNat k.1) []) (toNat k.2.2.1) 0))
 (.l (.inr (.inr ())))
 (.l (.inl (wrap .i64 (v+1)))))
 (.l (.inr (.inl ())))
def wgj k v:=iter (fun v=>(wam k v).ev) v
abbrev yq60:Keep:=yk [] [1,3,4,5,6] (yj [.box 1 0,.dat yi,.dat yi,.dat yi,.dat yi]) [Zaa]
abbrev yq61:Keep:=yk [] [1,3,4,5] (yj [.box 1 0,.dat yi,.dat yi,.dat yi]) [Zaa]
abbrev yq62:Keep:=yh [2] Zag
abbrev yq63{a b c d e g:Type}(k:a×b×c×d×e)(v:g):=(((),(k.1,(k.2.1,(k.2.2.1,(v,()))))),((k.2.2.2.1,(k.2.2.2.2,())),()))
abbrev yq64{a b c d e g h i j:Type}(t:(a×b×c×d×e)×(g×h×i)×j):=(t.1.2.1,(t.1.2.2.1,(t.1.2.2.2.1,(t.2.1.1,t.2.1.2.1))))
abbrev yq65{a b c d e g h:Type}(t:(a×b×c×d×e×g)×h):=t.1.2.2.2.2.1
def wkk:LD:=yl (wam) yq60 [(6,yq61)] yq62 yq63 yq64 yq65 (fun k r=>.s _ _ r (fun _=>yx 6 yq61 (((),(k.1,(k.2.1,(k.2.2.1,())))),((k.2.2.2.1,(k.2.2.2.2,())),()))) (fun _=>yz yq62 ((false,()),())))
def wan(k:Int×(Int×(Y1×Y2)))(v:Int):Tr ((Int)⊕((Unit)⊕(Unit))):=
 .t (v<(length k.2.2.1:Int))
 (.c _ (wgj (k.1,(k.2.1,(v,(k.2.2.1,k.2.2.2)))) 0) fun a=>
 .s _ _ a
 (fun _=>.l (.inl (wrap .i64 (v+1))))
 (fun _=>.l (.inr (.inr ()))))
 (.l (.inr (.inl ())))
def wgk k v:=iter (fun v=>(wan k v).ev) v
abbrev yq66:Keep:=yk [] [1,3,4] (yj [.box 1 0,.dat yi,.dat yi]) [Zaa]
abbrev yq67{a b c d e:Type}(k:a×b×c×d)(v:e):=(((),(k.1,(k.2.1,(v,())))),((k.2.2.1,(k.2.2.2,())),()))
abbrev yq68{a b c d e g h i:Type}(t:(a×b×c×d)×(e×g×h)×i):=(t.1.2.1,(t.1.2.2.1,(t.2.1.1,t.2.1.2.1)))
abbrev yq69{a b c d e g:Type}(t:(a×b×c×d×e)×g):=t.1.2.2.2.1
def wkl:LD:=yl (wan) yq61 [(4,yq66)] yq62 yq67 yq68 yq69 (fun k r=>.s _ _ r (fun _=>yx 4 yq66 (((),(k.1,(k.2.1,()))),((k.2.2.1,(k.2.2.2,())),()))) (fun _=>yz yq62 ((false,()),())))
def wao(k:Int×(Y1×Y2))(v:Int):Tr ((Int)⊕((Unit)⊕(Unit))):=
 .t (v<(length k.2.2:Int))
 (.c _ (wgk (k.1,(v,(k.2.1,k.2.2))) 0) fun a=>
 .s _ _ a
 (fun _=>.l (.inl (wrap .i64 (v+1))))
 (fun _=>.l (.inr (.inr ()))))
 (.l (.inr (.inl ())))
def wgl k v:=iter (fun v=>(wao k v).ev) v
abbrev yq70:Keep:=yk [] [1,3] (yj [.box 1 0,.dat yi]) [Zaa]
abbrev yq71{a b c d:Type}(k:a×b×c)(v:d):=(((),(k.1,(v,()))),((k.2.1,(k.2.2,())),()))
abbrev yq72{a b c d e g h:Type}(t:(a×b×c)×(d×e×g)×h):=(t.1.2.1,(t.2.1.1,t.2.1.2.1))
abbrev yq73{a b c d e:Type}(t:(a×b×c×d)×e):=t.1.2.2.1
def wkm:LD:=yl (wao) yq66 [(2,yq70)] yq62 yq71 yq72 yq73 (fun k r=>.s _ _ r (fun _=>yx 2 yq70 (((),(k.1,())),((k.2.1,(k.2.2,())),()))) (fun _=>yz yq62 ((false,()),())))
def wap(k:Y1×Y2)(v:Int):Tr ((Int)⊕((Unit)⊕(Unit))):=
 .t (v<(length k.2:Int))
 (.c _ (wgl (v,(k.1,k.2)) 0) fun a=>
 .s _ _ a
 (fun _=>.l (.inl (wrap .i64 (v+1))))
 (fun _=>.l (.inr (.inr ()))))
 (.l (.inr (.inl ())))
def wgm k v:=iter (fun v=>(wap k v).ev) v
abbrev yq74{a b c:Type}(k:a×b)(v:c):=(((),(v,())),((k.1,(k.2,())),()))
abbrev yq75{a b c d e:Type}(t:a×(b×c×d)×e):=(t.2.1.1,t.2.1.2.1)
abbrev yq76{a b c d:Type}(t:(a×b×c)×d):=t.1.2.1
def wkn:LD:=yl (wap) yq70 [(0,yq10)] yq62 yq74 yq75 yq76 (fun _ r=>.s _ _ r (fun _=>yx 0 yq10 ((),())) (fun _=>yz yq62 ((false,()),())))
def wrb(b:Y1)(e:List Y1):Tr (Bool):=
 .c _ (wgm (b,e) 0) fun a=>
 .s _ _ a
 (fun _=>.l true)
 (fun _=>.l false)
def wrc a b:=(wrb a b).ev
def waex:FP prog:=fnP cx func299 [] (yj [.agg Zk]) [] [] (yq58 wrb) yq0 yq2 noZ [(6,wkk),(4,wkl),(2,wkm),(0,wkn)]
def wrd(a:Int)(b:Int):Tr (Int):=
 .t (a<b)
 (.l a)
 (.l b)
def wgn a b:=(wrd a b).ev
def wzq:FP prog:=fnP cx func226 [] (yj [.dat yi,.dat yi]) [] [] (yq41 wrd) yq40 yq2
def wdm(k:Int×(Int×Yq))(v:Int×Y2):Tr ((Int×Y2)⊕Y2):=
 .t (v.1<(length k.2.2.2:Int))
 (.g (inR k.1 (length v.2))<|
 .g ((toNat k.1)<length v.2)<|
 .g (inR k.1 (length v.2))<|
 .g ((toNat k.1)<length v.2)<|
 .g (inR k.2.2.1 (length (getD v.2 (toNat k.1) [])))<|
 .g ((toNat k.2.2.1)<length (getD v.2 (toNat k.1) []))<|
 .g (inR k.1 (length v.2))<|
 .g ((toNat k.1)<length v.2)<|
 .g (inR v.1 (length (getD v.2 (toNat k.1) [])))<|
 .g ((toNat v.1)<length (getD v.2 (toNat k.1) []))<|
 .g (inR k.2.1 (length v.2))<|
 .g ((toNat k.2.1)<length v.2)<|
 .g (inR v.1 (length (getD v.2 (toNat k.2.1) [])))<|
 .g ((toNat v.1)<length (getD v.2 (toNat k.2.1) []))<|
 .g (inR k.2.1 (length v.2))<|
 .g ((toNat k.2.1)<length v.2)<|
 .g (inR k.2.2.1 (length (getD v.2 (toNat k.2.1) [])))<|
 .g ((toNat k.2.2.1)<length (getD v.2 (toNat k.2.1) []))<|
 .c _ (wgn (getD (getD v.2 (toNat k.1) []) (toNat k.2.2.1) 0) (wrap .i64 ((wrap .i64 ((getD (getD v.2 (toNat k.1) []) (toNat v.1) 0)+(getD (getD v.2 (toNat k.2.1) []) (toNat v.1) 0)))+(getD (getD v.2 (toNat k.2.1) []) (toNat k.2.2.1) 0)))) fun a=>
 .g (inR k.2.2.1 (length (getD v.2 (toNat k.1) [])))<|
 .g ((toNat k.2.2.1)<length (getD v.2 (toNat k.1) []))<|
 .l (.inl ((wrap .i64 (v.1+1)),(set v.2 (toNat k.1) (set (getD v.2 (toNat k.1) []) (toNat k.2.2.1) a)))))
 (.l (.inr v.2))
def wgo k v:=iter (fun v=>(wdm k v).ev) v
abbrev yq77:Keep:=yk [] [2,3,4,5,6,7] (yj [.box 2 0,.box 3 0,.dat yi,.dat yi,.dat yi,.dat yi]) [(2,.cells (yj [.nilsl,.nilsl])),(3,.cells (yj [.arr 577,.arr 580])),(577,.arr 3 yi),(580,.rows 22 3 yi)]
abbrev yq78:Keep:=yk [] [2,3,4,5,6] (yj [.box 2 0,.box 3 0,.dat yi,.dat yi,.dat yi]) [(2,.cells (yj [.nilsl,.nilsl])),(3,.cells (yj [.arr 577,.arr 580])),(577,.arr 3 yi),(580,.rows 22 3 yi)]
abbrev yq79{a b c d e g:Type}(k:a×b×c×d)(v:e×g):=(((),((),(k.1,(k.2.1,(k.2.2.1,(v.1,())))))),(((),((),())),(((),((),())),(k.2.2.2,(v.2,())))))
abbrev yq80{a b c d e g h i j l:Type}(t:(a×b×c×d×e×g)×h×i×j×l):=(t.1.2.2.1,(t.1.2.2.2.1,(t.1.2.2.2.2.1,t.2.2.2.1)))
abbrev yq81{a b c d e g h i j l m n:Type}(t:(a×b×c×d×e×g×h)×i×j×l×m×n):=(t.1.2.2.2.2.2.1,t.2.2.2.2.1)
def wko:LD:=yl (wdm) yq77 [(8,yq78)] yq10 yq79 yq80 yq81 (fun k r=>yx 8 yq78 (((),((),(k.1,(k.2.1,(k.2.2.1,()))))),(((),((),())),(((),((),())),(k.2.2.2,(r,()))))))
def wbq(k:Int×Yq)(v:Int×Y2):Tr ((Int×Y2)⊕Y2):=
 .t (v.1<(length k.2.2:Int))
 (.c _ (wgo (k.1,(k.2.1,(v.1,k.2.2))) (0,v.2)) fun a=>
 .l (.inl ((wrap .i64 (v.1+1)),a)))
 (.l (.inr v.2))
def wgq k v:=iter (fun v=>(wbq k v).ev) v
abbrev yq82:Keep:=yk [] [2,3,4,5] (yj [.box 2 0,.box 3 0,.dat yi,.dat yi]) [(2,.cells (yj [.nilsl,.nilsl])),(3,.cells (yj [.arr 577,.arr 580])),(577,.arr 3 yi),(580,.rows 22 3 yi)]
abbrev yq83{a b c d e:Type}(k:a×b×c)(v:d×e):=(((),((),(k.1,(k.2.1,(v.1,()))))),(((),((),())),(((),((),())),(k.2.2,(v.2,())))))
abbrev yq84{a b c d e g h i j:Type}(t:(a×b×c×d×e)×g×h×i×j):=(t.1.2.2.1,(t.1.2.2.2.1,t.2.2.2.1))
abbrev yq85{a b c d e g h i j l m:Type}(t:(a×b×c×d×e×g)×h×i×j×l×m):=(t.1.2.2.2.2.1,t.2.2.2.2.1)
def wkp:LD:=yl (wbq) yq78 [(6,yq82)] yq10 yq83 yq84 yq85 (fun k r=>yx 6 yq82 (((),((),(k.1,(k.2.1,())))),(((),((),())),(((),((),())),(k.2.2,(r,()))))))
def wbr(k:Int×Y1)(v:Int×Y2):Tr ((Int×Y2)⊕Y2):=
 .t (v.1<(length v.2:Int))
 (.c _ (wgq (k.1,(v.1,k.2)) (0,v.2)) fun a=>
 .l (.inl ((wrap .i64 (v.1+1)),a)))
 (.l (.inr v.2))
def wgr k v:=iter (fun v=>(wbr k v).ev) v
abbrev yq86:Keep:=yk [] [2,3,4] (yj [.box 2 0,.box 3 0,.dat yi]) [(2,.cells (yj [.nilsl,.nilsl])),(3,.cells (yj [.arr 577,.arr 580])),(577,.arr 3 yi),(580,.rows 22 3 yi)]
abbrev yq87{a b c d:Type}(k:a×b)(v:c×d):=(((),((),(k.1,(v.1,())))),(((),((),())),(((),((),())),(k.2,(v.2,())))))
abbrev yq88{a b c d e g h i:Type}(t:(a×b×c×d)×e×g×h×i):=(t.1.2.2.1,t.2.2.2.1)
abbrev yq89{a b c d e g h i j l:Type}(t:(a×b×c×d×e)×g×h×i×j×l):=(t.1.2.2.2.1,t.2.2.2.2.1)
def wln:LD:=yl (wbr) yq82 [(4,yq86)] yq10 yq87 yq88 yq89 (fun k r=>yx 4 yq86 (((),((),(k.1,()))),(((),((),())),(((),((),())),(k.2,(r,()))))))
def wbs(k:Y1)(v:Int×Y2):Tr ((Int×Y2)⊕Y2):=
 .t (v.1<(length v.2:Int))
 (.c _ (wgr (v.1,k) (0,v.2)) fun a=>
 .l (.inl ((wrap .i64 (v.1+1)),a)))
 (.l (.inr v.2))
def wgs k v:=iter (fun v=>(wbs k v).ev) v
abbrev yq90:Keep:=yk [] [2,3] (yj [.box 2 0,.box 3 0]) [(2,.cells (yj [.nilsl,.nilsl])),(3,.cells (yj [.arr 577,.arr 580])),(577,.arr 3 yi),(580,.rows 22 3 yi)]
abbrev yq91{a b c:Type}(k:a)(v:b×c):=(((),((),(v.1,()))),(((),((),())),(((),((),())),(k,(v.2,())))))
abbrev yq92{a b c d e:Type}(t:a×b×c×d×e):=t.2.2.2.1
abbrev yq93{a b c d e g h i j:Type}(t:(a×b×c×d)×e×g×h×i×j):=(t.1.2.2.1,t.2.2.2.2.1)
def wlp:LD:=yl (wbs) yq86 [(2,yq90)] yq10 yq91 yq92 yq93 (fun k r=>yx 2 yq90 (((),((),())),(((),((),())),(((),((),())),(k,(r,()))))))
def wdp(k:Y1)(v:List Y1):Tr (Y2⊕Y2):=
 .c _ (wrc k v) fun b=>
 .t (!b)
 (.c _ (wgs k (0,v)) fun a=>
 .l (.inl a))
 (.l (.inr v))
def wdq k v:=iter (fun v=>(wdp k v).ev) v
abbrev yq94{a b:Type}(k:a)(v:b):=(((),((),())),(((),((),())),(((),((),())),(k,(v,())))))
abbrev yq95{a b c d e g:Type}(t:a×b×c×d×e×g):=t.2.2.2.2.1
def wlq:LD:=yl (wdp) yq90 [(0,yq90)] yq10 yq94 yq92 yq95 (fun k r=>yx 0 yq90 (((),((),())),(((),((),())),(((),((),())),(k,(r,()))))))
def wre(e:Y1)(f:List Y1):Tr (Y1×Y2):=
 .c _ (wra e f) fun a=>
 .c _ (wdq a.1 a.2) fun b=>
 .l (a.1,b)
def wrf a b:=(wre a b).ev
abbrev yq96:RetK:=⟨[.ren 577 1,.ren 580 4],[.cell 2 36],(yj [.agg (yj [.arr 1,.arr 4])]),[(1,.arr 3 yi),(4,.rows 22 3 yi)],[],[]⟩
def waey:FP prog:=fnP cx func221 [waew,waex,wzq] (yj [.agg Zk]) [] [] (yq58 wre) yq96 yq59 noZ [(8,wko),(6,wkp),(4,wln),(2,wlp),(0,wlq)]
def wrg(j:Int)(p:Y1)(n:Int)(o:Int):Tr (Y1×(Y2×(Y1×Yr))):=
 .c _ (ww 3 p n o) fun a=>
 .t (a.1==0)
 (.c _ (wgb j a.2.1 a.2.2.1 a.2.2.2) fun i=>
 .c _ (wgd i.2.2.1 i.2.2.2.1 i.2.2.2.2 i.1 i.2.1) fun f=>
 .l (f.1,(f.2.1,(f.2.2.1,(f.2.2.2.1,f.2.2.2.2)))))
 (.t (a.1==1)
 (.c _ (wqs j a.2.1 a.2.2.1 a.2.2.2) fun h=>
 .c _ (wgd h.2.2.1 h.2.2.2.1 h.2.2.2.2 h.1 h.2.1) fun b=>
 .l (b.1,(b.2.1,(b.2.2.1,(b.2.2.2.1,b.2.2.2.2)))))
 (.c _ (wgb j a.2.1 a.2.2.1 a.2.2.2) fun e=>
 .c _ (wrf e.1 e.2.1) fun m=>
 .c _ (wgd e.2.2.1 e.2.2.2.1 e.2.2.2.2 m.1 m.2) fun g=>
 .l (g.1,(g.2.1,(g.2.2.1,(g.2.2.2.1,g.2.2.2.2))))))
def wlr a c e b:=(wrg a c e b).ev
abbrev yq97:RetK:=⟨[.ren 833 1,.ren 1281 1,.ren 1665 1,.ren 834 2,.ren 1282 2,.ren 1666 2],[.cell 4 36],(yj [.agg (yj [.arr 1,.arr 2])]),[(1,.arr 3 yi),(2,.rows 22 3 yi),Zd],[(0,0,64)],[]⟩
def waez:FP prog:=fnP cx func145 [wdl,wzo,waeu,waev,waey] (yj [.box 64 0,.dat yi]) [Zd] [.arg 0] (yq7 wrg) yq97 yq25
def wrh(a:Int)(c:Int)(b:Int):Tr (Bool):=
 .t (c≤a)
 (.l (a≤b))
 (.l false)
def wbh b c a:=(wrh b c a).ev
abbrev yq99{a b c d e:Type}{z:Type _}(f:a→b→c→z)(x:(a×b×c×d)×e):z:=f x.1.1 x.1.2.1 x.1.2.2.1
abbrev yq98:RetK:=yr [.tmp 6] Zag
def wfh:FP prog:=fnP cx func120 [] (yj [.dat yi,.dat yi,.dat yi]) [] [] (yq99 wrh) yq98 yq2
def wbt(k:Y1×Yr)(v:Int):Tr ((Int)⊕((Unit)⊕(Unit))):=
 .t (v<(length k.1:Int))
 (.g (inR v (length k.1))<|
 .c _ (wbh (getD k.1 (toNat v) 0) 0 k.2.2) fun a=>
 .t (!a)
 (.l (.inr (.inr ())))
 (.l (.inl (wrap .i64 (v+1)))))
 (.l (.inr (.inl ())))
def wgt k v:=iter (fun v=>(wbt k v).ev) v
abbrev yq100:Keep:=yh [0,1,2,7] (yj [.dat y1,.dat yi,.dat yi,.dat yi])
abbrev yq101:Keep:=yh [0,1] (yj [.dat y1,.dat yi])
abbrev yq102:Keep:=yh [6] Zag
abbrev yq103{a b c d:Type}(k:a×b×c)(v:d):=((k.1,(k.2.1,(k.2.2,(v,())))),())
abbrev yq104{a b c d e:Type}(t:(a×b×c×d)×e):=(t.1.1,(t.1.2.1,t.1.2.2.1))
def wls:LD:=yl (wbt) yq100 [(0,yq101)] yq102 yq103 yq104 yq69 (fun k r=>.s _ _ r (fun _=>yx 0 yq101 ((k.1,(k.2.1,())),())) (fun _=>yz yq102 ((false,()),())))
def wri(a:Y1)(b:Int)(e:Int):Tr (Bool):=
 .c _ (wgt (a,(b,e)) 0) fun f=>
 .s _ _ f
 (fun _=>.l ((length a:Int)==b))
 (fun _=>.l false)
def wlt b c a:=(wri b c a).ev
def wafa:FP prog:=fnP cx func189 [wfh] (yj [.dat y1,.dat yi,.dat yi]) [] [] (yq99 wri) yq98 yq2 noZ [(0,wls)]
def wbu(k:Int×(Y1×Y2))(v:Int):Tr ((Int)⊕((Unit)⊕(Unit))):=
 .t (v<(length k.2.2:Int))
 (.g (inR v (length k.2.2))<|
 .c _ (wlt (getD k.2.2 (toNat v) []) k.1 99) fun a=>
 .t (!a)
 (.l (.inr (.inr ())))
 (.l (.inl (wrap .i64 (v+1)))))
 (.l (.inr (.inl ())))
def wgu k v:=iter (fun v=>(wbu k v).ev) v
def wlu:LD:=yl (wbu) yq66 [(0,yq70)] yq62 yq71 yq72 yq73 (fun k r=>.s _ _ r (fun _=>yx 0 yq70 (((),(k.1,())),((k.2.1,(k.2.2,())),()))) (fun _=>yz yq62 ((false,()),())))
def wrj(a:Y1)(b:List Y1):Tr (Bool):=
 .c _ (wgu ((length a:Int),(a,b)) 0) fun e=>
 .s _ _ e
 (fun _=>.c _ (wbh (length a:Int) 1 7) fun g=>
 .t g
 (.c _ (wlt a (length a:Int) 99) fun f=>
 .t f
 (.l ((length b:Int)≤(7:Int)))
 (.l false))
 (.l false))
 (fun _=>.l false)
def wgv a b:=(wrj a b).ev
def wrk:FP prog:=fnP cx func118 [wafa,wfh] (yj [.agg Zk]) [] [] (yq58 wrj) yq0 yq2 noZ [(0,wlu)]
def wrl(b:Int)(g:Y1)(e:Int)(f:Int):Tr (Bool×(Y1×Yr)):=
 .c _ (ww b g e f) fun a=>
 .l ((a.1==0),(a.2.1,(a.2.2.1,a.2.2.2)))
def wgw a c e b:=(wrl a c e b).ev
abbrev yq105:RetK:=⟨[],[.tmp 4],Zag,[Zd],[(0,0,64)],[]⟩
def wzr:FP prog:=fnP cx func80 [wdl] (yj [.box 64 0,.dat yi]) [Zd] [.arg 0] (yq7 wrl) yq105 yq5
def waq(k:Int×Int)(v:Int×Y1):Tr (Yq⊕Y1):=
 .t (v.1<k.1)
 (.g (0≤v.1)<|
 .t ((wrap .i64 (BitVec.toNat ((BitVec.ofInt (IntKind.bits .i64) (Int.fdiv k.2 (2^(min (toNat v.1) (IntKind.bits .i64)))))&&& (BitVec.ofInt (IntKind.bits .i64) 1))))==(1:Int))
 (.g ((length v.2+length ([v.1]:Y1))*8≤140737488355328)<|
 .l (.inl ((wrap .i64 (v.1+1)),(v.2++([v.1]:Y1)))))
 (.l (.inl ((wrap .i64 (v.1+1)),v.2))))
 (.l (.inr v.2))
def wgx k v:=iter (fun v=>(waq k v).ev) v
abbrev yq106:Keep:=yk [] [0,1,5,6] (yj [.dat yi,.dat yi,.arr 7,.dat yi]) [(7,.arr 3 yi)]
abbrev yq107:Keep:=yk [] [5] (yj [.arr 7]) [(7,.arr 3 yi)]
abbrev yq108{a b c d:Type}(k:a×b)(v:c×d):=((k.1,(k.2,((),(v.1,())))),(v.2,()))
abbrev yq109{a b c d:Type}(t:(a×b×c)×d):=(t.1.1,t.1.2.1)
abbrev yq110{a b c d e g h:Type}(t:(a×b×c×d×e)×g×h):=(t.1.2.2.2.1,t.2.1)
def wlv:LD:=yl (waq) yq106 [(0,yq107)] yq10 yq108 yq109 yq110 (fun _ r=>yx 0 yq107 (((),()),(r,())))
def wrm(b:Int)(e:Int):Tr Y1:=
 .c _ (wgx (b,e) (0,[])) fun a=>
 .l a
def wgy a b:=(wrm a b).ev
abbrev yq111:RetK:=⟨[.ren 7 0],[.tmp 4],Zah,[Zab],[],[]⟩
def wzs:FP prog:=fnP cx func146 [] (yj [.dat yi,.dat yi]) [] [] (yq41 wrm) yq111 yq27 noZ [(0,wlv)]
def war(k:Y1×Yr)(v:Int):Tr ((Int)⊕((Unit)⊕(Unit))):=
 .t (v<(length k.1:Int))
 (.g (inR v (length k.1))<|
 .c _ (wbh (getD k.1 (toNat v) 0) k.2.1 k.2.2) fun a=>
 .t (!a)
 (.l (.inr (.inr ())))
 (.t (0<v)
 (.g (inR (wrap .i64 (v-1)) (length k.1))<|
 .g (inR v (length k.1))<|
 .t ((getD k.1 (toNat v) 0)≤(getD k.1 (toNat (wrap .i64 (v-1))) 0))
 (.l (.inr (.inr ())))
 (.l (.inl (wrap .i64 (v+1)))))
 (.l (.inl (wrap .i64 (v+1))))))
 (.l (.inr (.inl ())))
def wgz k v:=iter (fun v=>(war k v).ev) v
def wlw:LD:=yl (war) yq100 [(0,yq10)] yq102 yq103 yq104 yq69 (fun _ r=>.s _ _ r (fun _=>yx 0 yq10 ((),())) (fun _=>yz yq102 ((false,()),())))
def wrn(e:Y1)(f:Int)(a:Int):Tr (Bool):=
 .c _ (wgz (e,(f,a)) 0) fun b=>
 .s _ _ b
 (fun _=>.l true)
 (fun _=>.l false)
def wro b c a:=(wrn b c a).ev
def wafb:FP prog:=fnP cx func190 [wfh] (yj [.dat y1,.dat yi,.dat yi]) [] [] (yq99 wrn) yq98 yq2 noZ [(0,wlw)]
def wrp(b:Y1)(_f:List Y1)(e:Y1):Tr (Bool):=
 .c _ (wro e 0 (wrap .i64 ((length b:Int) -1))) fun a=>
 .l a
def wlx b c a:=(wrp b c a).ev
abbrev yq113{a b c d e g:Type}{z:Type _}(f:a→b→d→z)(x:((a×b×c)×d×e)×g):z:=f x.1.1.1 x.1.1.2.1 x.1.2.1
abbrev yq112:RetK:=yr [.tmp 4] Zag
def wzt:FP prog:=fnP cx func119 [wafb] (yj [.agg Zk,.dat y1]) [] [] (yq113 wrp) yq112 yq2
def wrq(b:Y1)(a:List Y1)(g:Y1)(e:Int):Tr (Bool):=
 .c _ (wgv b a) fun i=>
 .t i
 (.c _ (wlx b a g) fun f=>
 .t f
 (.c _ (wbh e 0 1000) fun h=>
 .l h)
 (.l false))
 (.l false)
def wha c e b a:=(wrq c e b a).ev
abbrev yq114{a b c d e g h:Type}{z:Type _}(f:a→b→c→d→z)(x:((a×b×c×d×e)×g)×h):z:=f x.1.1.1 x.1.1.2.1 x.1.1.2.2.1 x.1.1.2.2.2.1
def wrr:FP prog:=fnP cx func62 [wrk,wzt,wfh] (yj [.agg Zm]) [] [] (yq114 wrq) yq0 yq2
def wat(k:Int)(v:Int×Yaf):Tr ((Int×Yaf)⊕Yaf):=
 .t (v.1<k)
 (.t (v.1<7)
 (.c _ (ww 20 v.2.1 v.2.2.1 v.2.2.2.1) fun a=>
 .g ((length v.2.2.2.2+length ([a.1]:Y1))*8≤140737488355328)<|
 .l (.inl ((wrap .i64 (v.1+1)),(a.2.1,(a.2.2.1,(a.2.2.2,(v.2.2.2.2++([a.1]:Y1))))))))
 (.l (.inr (v.2.1,(v.2.2.1,(v.2.2.2.1,v.2.2.2.2))))))
 (.l (.inr (v.2.1,(v.2.2.1,(v.2.2.2.1,v.2.2.2.2)))))
def whb k v:=iter (fun v=>(wat k v).ev) v
abbrev yq115:Keep:=yk [] [0,1,5,6] (yj [.box 64 0,.dat yi,.arr 7,.dat yi]) [Zd,(7,.arr 3 yi)]
abbrev yq116:Keep:=yk [] [0,5] (yj [.box 64 0,.arr 7]) [Zd,(7,.arr 3 yi)]
abbrev yq117{a b c d e g:Type}(k:a)(v:b×c×d×e×g):=(((),(k,((),(v.1,())))),((v.2.1,(v.2.2.1,(v.2.2.2.1,()))),(v.2.2.2.2,())))
abbrev yq118{a b c d e g h i j l m:Type}(t:(a×b×c×d×e)×(g×h×i×j)×l×m):=(t.1.2.2.2.1,(t.2.1.1,(t.2.1.2.1,(t.2.1.2.2.1,t.2.2.1))))
def wly:LD:=yl (wat) yq115 [(0,yq116)] yq10 yq117 yq76 yq118 (fun _ r=>yx 0 yq116 (((),((),())),((r.1,(r.2.1,(r.2.2.1,()))),(r.2.2.2,()))))
def wrs(f:Int)(j:Y1)(h:Int)(i:Int):Tr (Y1×(Y1×Yr)):=
 .c _ (whb f (0,(j,(h,(i,[]))))) fun b=>
 .c _ (wgw 12 b.1 b.2.1 b.2.2.1) fun a=>
 .t a.1
 (.c _ (wu ([0,(-1),100]:Y1) a.2.1 a.2.2.1 a.2.2.2) fun e=>
 .g ((length b.2.2.2+length ([e.1]:Y1))*8≤140737488355328)<|
 .l ((b.2.2.2++([e.1]:Y1)),(e.2.1,(e.2.2.1,e.2.2.2))))
 (.l (b.2.2.2,(a.2.1,(a.2.2.1,a.2.2.2))))
def wdr a c e b:=(wrs a c e b).ev
abbrev yq119:RetK:=⟨[.ren 7 0],[.tmp 4],Zah,[Zab,Zd],[(0,0,64)],[]⟩
abbrev yq120{a b c d:Type}(r:a×b×c×d):=(((),()),(r.1,((r.2.1,(r.2.2.1,(r.2.2.2,()))),())))
def wafc:FP prog:=fnP cx func227 [wdl,wzr,wfx] (yj [.box 64 0,.dat yi]) [Zd] [.arg 0] (yq7 wrs) yq119 yq120 (zOf [(7,[(3,[26])])]) [(0,wly)]
def wlz(df:Y1)(cb:List Y1)(eu:Y1)(ew:Int)(et:Int):Tr (Int×(Int×(Int×(Int×(Y1×(Y1×Yr)))))):=
 .c _ (ww 11 eu ew et) fun a=>
 .c _ (wgn (length df:Int) 7) fun ev=>
 .c _ (wge 1 ev) fun ah=>
 .c _ (wgn (length cb:Int) 7) fun ex=>
 .c _ (wge 1 ex) fun bu=>
 .t ((wrap .i64 ((1:Int)+a.1))==(1:Int))
 (.t ((wrap .i64 ((1:Int)+a.1))==(1:Int))
 (.c _ (ww ah a.2.1 a.2.2.1 a.2.2.2) fun bk=>
 .c _ (ww 32 bk.2.1 bk.2.2.1 bk.2.2.2) fun j=>
 .t (j.1==0)
 (.c _ (wu ([(-1),7,4611686018427387904]:Y1) j.2.1 j.2.2.1 j.2.2.2) fun ej=>
 .l ((wrap .i64 ((1:Int)+a.1)),(ej.1,(0,(0,([],(ej.2.1,(ej.2.2.1,ej.2.2.2))))))))
 (.t (j.1==1)
 (.c _ (wu ([(-1),1]:Y1) j.2.1 j.2.2.1 j.2.2.2) fun cn=>
 .l ((wrap .i64 ((1:Int)+a.1)),(bk.1,(0,(cn.1,([],(cn.2.1,(cn.2.2.1,cn.2.2.2))))))))
 (.t (j.1==2)
 (.c _ (wu ([0,12,(-1)]:Y1) j.2.1 j.2.2.1 j.2.2.2) fun cz=>
 .l (cz.1,(bk.1,(0,(0,([],(cz.2.1,(cz.2.2.1,cz.2.2.2))))))))
 (.t (j.1==3)
 (.g (length ([1]:Y1)*8≤140737488355328)<|
 .l ((wrap .i64 ((1:Int)+a.1)),(bk.1,(0,(0,(([1]:Y1),(j.2.1,(j.2.2.1,j.2.2.2))))))))
 (.l ((wrap .i64 ((1:Int)+a.1)),(bk.1,(0,(0,([],(j.2.1,(j.2.2.1,j.2.2.2))))))))))))
 (.t ((wrap .i64 ((1:Int)+a.1))==(3:Int))
 (.c _ (ww ah a.2.1 a.2.2.1 a.2.2.2) fun br=>
 .c _ (ww ah br.2.1 br.2.2.1 br.2.2.2) fun aw=>
 .c _ (ww 32 aw.2.1 aw.2.2.1 aw.2.2.2) fun e=>
 .t (e.1==0)
 (.c _ (wu ([(-1),7,4611686018427387904]:Y1) e.2.1 e.2.2.1 e.2.2.2) fun cu=>
 .l ((wrap .i64 ((1:Int)+a.1)),(cu.1,(aw.1,(0,([],(cu.2.1,(cu.2.2.1,cu.2.2.2))))))))
 (.t (e.1==1)
 (.c _ (wu ([(-1),1]:Y1) e.2.1 e.2.2.1 e.2.2.2) fun ei=>
 .l ((wrap .i64 ((1:Int)+a.1)),(br.1,(aw.1,(ei.1,([],(ei.2.1,(ei.2.2.1,ei.2.2.2))))))))
 (.t (e.1==2)
 (.c _ (wu ([0,12,(-1)]:Y1) e.2.1 e.2.2.1 e.2.2.2) fun dx=>
 .l (dx.1,(br.1,(aw.1,(0,([],(dx.2.1,(dx.2.2.1,dx.2.2.2))))))))
 (.t (e.1==3)
 (.g (length ([1]:Y1)*8≤140737488355328)<|
 .l ((wrap .i64 ((1:Int)+a.1)),(br.1,(aw.1,(0,(([1]:Y1),(e.2.1,(e.2.2.1,e.2.2.2))))))))
 (.l ((wrap .i64 ((1:Int)+a.1)),(br.1,(aw.1,(0,([],(e.2.1,(e.2.2.1,e.2.2.2))))))))))))
 (.t ((wrap .i64 ((1:Int)+a.1))==(4:Int))
 (.c _ (ww ah a.2.1 a.2.2.1 a.2.2.2) fun bl=>
 .c _ (wu ([0,3,10,99,100]:Y1) bl.2.1 bl.2.2.1 bl.2.2.2) fun ap=>
 .c _ (ww 32 ap.2.1 ap.2.2.1 ap.2.2.2) fun aa=>
 .t (aa.1==0)
 (.c _ (wu ([(-1),7,4611686018427387904]:Y1) aa.2.1 aa.2.2.1 aa.2.2.2) fun dg=>
 .l ((wrap .i64 ((1:Int)+a.1)),(dg.1,(ap.1,(0,([],(dg.2.1,(dg.2.2.1,dg.2.2.2))))))))
 (.t (aa.1==1)
 (.c _ (wu ([(-1),1]:Y1) aa.2.1 aa.2.2.1 aa.2.2.2) fun cr=>
 .l ((wrap .i64 ((1:Int)+a.1)),(bl.1,(ap.1,(cr.1,([],(cr.2.1,(cr.2.2.1,cr.2.2.2))))))))
 (.t (aa.1==2)
 (.c _ (wu ([0,12,(-1)]:Y1) aa.2.1 aa.2.2.1 aa.2.2.2) fun el=>
 .l (el.1,(bl.1,(ap.1,(0,([],(el.2.1,(el.2.2.1,el.2.2.2))))))))
 (.t (aa.1==3)
 (.g (length ([1]:Y1)*8≤140737488355328)<|
 .l ((wrap .i64 ((1:Int)+a.1)),(bl.1,(ap.1,(0,(([1]:Y1),(aa.2.1,(aa.2.2.1,aa.2.2.2))))))))
 (.l ((wrap .i64 ((1:Int)+a.1)),(bl.1,(ap.1,(0,([],(aa.2.1,(aa.2.2.1,aa.2.2.2))))))))))))
 (.t ((wrap .i64 ((1:Int)+a.1))==(5:Int))
 (.c _ (ww bu a.2.1 a.2.2.1 a.2.2.2) fun bh=>
 .c _ (ww ah bh.2.1 bh.2.2.1 bh.2.2.2) fun ao=>
 .c _ (wu ([0,3,10,99,100]:Y1) ao.2.1 ao.2.2.1 ao.2.2.2) fun bb=>
 .c _ (ww 32 bb.2.1 bb.2.2.1 bb.2.2.2) fun u=>
 .t (u.1==0)
 (.c _ (wu ([(-1),7,4611686018427387904]:Y1) u.2.1 u.2.2.1 u.2.2.2) fun eo=>
 .l ((wrap .i64 ((1:Int)+a.1)),(eo.1,(ao.1,(bb.1,([],(eo.2.1,(eo.2.2.1,eo.2.2.2))))))))
 (.t (u.1==1)
 (.c _ (wu ([(-1),1]:Y1) u.2.1 u.2.2.1 u.2.2.2) fun dk=>
 .l ((wrap .i64 ((1:Int)+a.1)),(bh.1,(ao.1,(dk.1,([],(dk.2.1,(dk.2.2.1,dk.2.2.2))))))))
 (.t (u.1==2)
 (.c _ (wu ([0,12,(-1)]:Y1) u.2.1 u.2.2.1 u.2.2.2) fun cf=>
 .l (cf.1,(bh.1,(ao.1,(bb.1,([],(cf.2.1,(cf.2.2.1,cf.2.2.2))))))))
 (.t (u.1==3)
 (.g (length ([1]:Y1)*8≤140737488355328)<|
 .l ((wrap .i64 ((1:Int)+a.1)),(bh.1,(ao.1,(bb.1,(([1]:Y1),(u.2.1,(u.2.2.1,u.2.2.2))))))))
 (.l ((wrap .i64 ((1:Int)+a.1)),(bh.1,(ao.1,(bb.1,([],(u.2.1,(u.2.2.1,u.2.2.2))))))))))))
 (.t ((wrap .i64 ((1:Int)+a.1))==(6:Int))
 (.c _ (ww 20 a.2.1 a.2.2.1 a.2.2.2) fun be=>
 .c _ (wdr (length cb:Int) be.2.1 be.2.2.1 be.2.2.2) fun al=>
 .c _ (ww 32 al.2.1 al.2.2.1 al.2.2.2) fun i=>
 .t (i.1==0)
 (.c _ (wu ([(-1),7,4611686018427387904]:Y1) i.2.1 i.2.2.1 i.2.2.2) fun ce=>
 .l ((wrap .i64 ((1:Int)+a.1)),(ce.1,(0,(0,(al.1,(ce.2.1,(ce.2.2.1,ce.2.2.2))))))))
 (.t (i.1==1)
 (.c _ (wu ([(-1),1]:Y1) i.2.1 i.2.2.1 i.2.2.2) fun dm=>
 .l ((wrap .i64 ((1:Int)+a.1)),(be.1,(0,(dm.1,(al.1,(dm.2.1,(dm.2.2.1,dm.2.2.2))))))))
 (.t (i.1==2)
 (.c _ (wu ([0,12,(-1)]:Y1) i.2.1 i.2.2.1 i.2.2.2) fun du=>
 .l (du.1,(be.1,(0,(0,(al.1,(du.2.1,(du.2.2.1,du.2.2.2))))))))
 (.t (i.1==3)
 (.g ((length al.1+length ([1]:Y1))*8≤140737488355328)<|
 .l ((wrap .i64 ((1:Int)+a.1)),(be.1,(0,(0,((al.1++([1]:Y1)),(i.2.1,(i.2.2.1,i.2.2.2))))))))
 (.l ((wrap .i64 ((1:Int)+a.1)),(be.1,(0,(0,(al.1,(i.2.1,(i.2.2.1,i.2.2.2))))))))))))
 (.t ((wrap .i64 ((1:Int)+a.1))==(7:Int))
 (.c _ (wdr (length df:Int) a.2.1 a.2.2.1 a.2.2.2) fun an=>
 .c _ (ww 32 an.2.1 an.2.2.1 an.2.2.2) fun af=>
 .t (af.1==0)
 (.c _ (wu ([(-1),7,4611686018427387904]:Y1) af.2.1 af.2.2.1 af.2.2.2) fun dw=>
 .l ((wrap .i64 ((1:Int)+a.1)),(dw.1,(0,(0,(an.1,(dw.2.1,(dw.2.2.1,dw.2.2.2))))))))
 (.t (af.1==1)
 (.c _ (wu ([(-1),1]:Y1) af.2.1 af.2.2.1 af.2.2.2) fun en=>
 .l ((wrap .i64 ((1:Int)+a.1)),(0,(0,(en.1,(an.1,(en.2.1,(en.2.2.1,en.2.2.2))))))))
 (.t (af.1==2)
 (.c _ (wu ([0,12,(-1)]:Y1) af.2.1 af.2.2.1 af.2.2.2) fun cj=>
 .l (cj.1,(0,(0,(0,(an.1,(cj.2.1,(cj.2.2.1,cj.2.2.2))))))))
 (.t (af.1==3)
 (.g ((length an.1+length ([1]:Y1))*8≤140737488355328)<|
 .l ((wrap .i64 ((1:Int)+a.1)),(0,(0,(0,((an.1++([1]:Y1)),(af.2.1,(af.2.2.1,af.2.2.2))))))))
 (.l ((wrap .i64 ((1:Int)+a.1)),(0,(0,(0,(an.1,(af.2.1,(af.2.2.1,af.2.2.2))))))))))))
 (.t ((wrap .i64 ((1:Int)+a.1))==(9:Int))
 (.c _ (ww bu a.2.1 a.2.2.1 a.2.2.2) fun bc=>
 .c _ (ww 32 bc.2.1 bc.2.2.1 bc.2.2.2) fun b=>
 .t (b.1==0)
 (.c _ (wu ([(-1),7,4611686018427387904]:Y1) b.2.1 b.2.2.1 b.2.2.2) fun bv=>
 .l ((wrap .i64 ((1:Int)+a.1)),(bv.1,(0,(0,([],(bv.2.1,(bv.2.2.1,bv.2.2.2))))))))
 (.t (b.1==1)
 (.c _ (wu ([(-1),1]:Y1) b.2.1 b.2.2.1 b.2.2.2) fun de=>
 .l ((wrap .i64 ((1:Int)+a.1)),(bc.1,(0,(de.1,([],(de.2.1,(de.2.2.1,de.2.2.2))))))))
 (.t (b.1==2)
 (.c _ (wu ([0,12,(-1)]:Y1) b.2.1 b.2.2.1 b.2.2.2) fun cw=>
 .l (cw.1,(bc.1,(0,(0,([],(cw.2.1,(cw.2.2.1,cw.2.2.2))))))))
 (.t (b.1==3)
 (.g (length ([1]:Y1)*8≤140737488355328)<|
 .l ((wrap .i64 ((1:Int)+a.1)),(bc.1,(0,(0,(([1]:Y1),(b.2.1,(b.2.2.1,b.2.2.2))))))))
 (.l ((wrap .i64 ((1:Int)+a.1)),(bc.1,(0,(0,([],(b.2.1,(b.2.2.1,b.2.2.2))))))))))))
 (.c _ (ww 32 a.2.1 a.2.2.1 a.2.2.2) fun ae=>
 .t (ae.1==0)
 (.c _ (wu ([(-1),7,4611686018427387904]:Y1) ae.2.1 ae.2.2.1 ae.2.2.2) fun di=>
 .l ((wrap .i64 ((1:Int)+a.1)),(di.1,(0,(0,([],(di.2.1,(di.2.2.1,di.2.2.2))))))))
 (.t (ae.1==1)
 (.c _ (wu ([(-1),1]:Y1) ae.2.1 ae.2.2.1 ae.2.2.2) fun co=>
 .l ((wrap .i64 ((1:Int)+a.1)),(0,(0,(co.1,([],(co.2.1,(co.2.2.1,co.2.2.2))))))))
 (.t (ae.1==2)
 (.c _ (wu ([0,12,(-1)]:Y1) ae.2.1 ae.2.2.1 ae.2.2.2) fun db=>
 .l (db.1,(0,(0,(0,([],(db.2.1,(db.2.2.1,db.2.2.2))))))))
 (.t (ae.1==3)
 (.g (length ([1]:Y1)*8≤140737488355328)<|
 .l ((wrap .i64 ((1:Int)+a.1)),(0,(0,(0,(([1]:Y1),(ae.2.1,(ae.2.2.1,ae.2.2.2))))))))
 (.l ((wrap .i64 ((1:Int)+a.1)),(0,(0,(0,([],(ae.2.1,(ae.2.2.1,ae.2.2.2)))))))))))))))))))
 (.t ((wrap .i64 ((1:Int)+a.1))==(2:Int))
 (.t ((wrap .i64 ((1:Int)+a.1))==(2:Int))
 (.c _ (ww ah a.2.1 a.2.2.1 a.2.2.2) fun bp=>
 .c _ (ww 32 bp.2.1 bp.2.2.1 bp.2.2.2) fun h=>
 .t (h.1==0)
 (.c _ (wu ([(-1),7,4611686018427387904]:Y1) h.2.1 h.2.2.1 h.2.2.2) fun cg=>
 .l ((wrap .i64 ((1:Int)+a.1)),(cg.1,(0,(0,([],(cg.2.1,(cg.2.2.1,cg.2.2.2))))))))
 (.t (h.1==1)
 (.c _ (wu ([(-1),1]:Y1) h.2.1 h.2.2.1 h.2.2.2) fun cq=>
 .l ((wrap .i64 ((1:Int)+a.1)),(bp.1,(0,(cq.1,([],(cq.2.1,(cq.2.2.1,cq.2.2.2))))))))
 (.t (h.1==2)
 (.c _ (wu ([0,12,(-1)]:Y1) h.2.1 h.2.2.1 h.2.2.2) fun cd=>
 .l (cd.1,(bp.1,(0,(0,([],(cd.2.1,(cd.2.2.1,cd.2.2.2))))))))
 (.t (h.1==3)
 (.g (length ([1]:Y1)*8≤140737488355328)<|
 .l ((wrap .i64 ((1:Int)+a.1)),(bp.1,(0,(0,(([1]:Y1),(h.2.1,(h.2.2.1,h.2.2.2))))))))
 (.l ((wrap .i64 ((1:Int)+a.1)),(bp.1,(0,(0,([],(h.2.1,(h.2.2.1,h.2.2.2))))))))))))
 (.t ((wrap .i64 ((1:Int)+a.1))==(3:Int))
 (.c _ (ww ah a.2.1 a.2.2.1 a.2.2.2) fun az=>
 .c _ (ww ah az.2.1 az.2.2.1 az.2.2.2) fun au=>
 .c _ (ww 32 au.2.1 au.2.2.1 au.2.2.2) fun p=>
 .t (p.1==0)
 (.c _ (wu ([(-1),7,4611686018427387904]:Y1) p.2.1 p.2.2.1 p.2.2.2) fun dh=>
 .l ((wrap .i64 ((1:Int)+a.1)),(dh.1,(au.1,(0,([],(dh.2.1,(dh.2.2.1,dh.2.2.2))))))))
 (.t (p.1==1)
 (.c _ (wu ([(-1),1]:Y1) p.2.1 p.2.2.1 p.2.2.2) fun cx=>
 .l ((wrap .i64 ((1:Int)+a.1)),(az.1,(au.1,(cx.1,([],(cx.2.1,(cx.2.2.1,cx.2.2.2))))))))
 (.t (p.1==2)
 (.c _ (wu ([0,12,(-1)]:Y1) p.2.1 p.2.2.1 p.2.2.2) fun dj=>
 .l (dj.1,(az.1,(au.1,(0,([],(dj.2.1,(dj.2.2.1,dj.2.2.2))))))))
 (.t (p.1==3)
 (.g (length ([1]:Y1)*8≤140737488355328)<|
 .l ((wrap .i64 ((1:Int)+a.1)),(az.1,(au.1,(0,(([1]:Y1),(p.2.1,(p.2.2.1,p.2.2.2))))))))
 (.l ((wrap .i64 ((1:Int)+a.1)),(az.1,(au.1,(0,([],(p.2.1,(p.2.2.1,p.2.2.2))))))))))))
 (.t ((wrap .i64 ((1:Int)+a.1))==(4:Int))
 (.c _ (ww ah a.2.1 a.2.2.1 a.2.2.2) fun bm=>
 .c _ (wu ([0,3,10,99,100]:Y1) bm.2.1 bm.2.2.1 bm.2.2.2) fun av=>
 .c _ (ww 32 av.2.1 av.2.2.1 av.2.2.2) fun ad=>
 .t (ad.1==0)
 (.c _ (wu ([(-1),7,4611686018427387904]:Y1) ad.2.1 ad.2.2.1 ad.2.2.2) fun ee=>
 .l ((wrap .i64 ((1:Int)+a.1)),(ee.1,(av.1,(0,([],(ee.2.1,(ee.2.2.1,ee.2.2.2))))))))
 (.t (ad.1==1)
 (.c _ (wu ([(-1),1]:Y1) ad.2.1 ad.2.2.1 ad.2.2.2) fun cv=>
 .l ((wrap .i64 ((1:Int)+a.1)),(bm.1,(av.1,(cv.1,([],(cv.2.1,(cv.2.2.1,cv.2.2.2))))))))
 (.t (ad.1==2)
 (.c _ (wu ([0,12,(-1)]:Y1) ad.2.1 ad.2.2.1 ad.2.2.2) fun ek=>
 .l (ek.1,(bm.1,(av.1,(0,([],(ek.2.1,(ek.2.2.1,ek.2.2.2))))))))
 (.t (ad.1==3)
 (.g (length ([1]:Y1)*8≤140737488355328)<|
 .l ((wrap .i64 ((1:Int)+a.1)),(bm.1,(av.1,(0,(([1]:Y1),(ad.2.1,(ad.2.2.1,ad.2.2.2))))))))
 (.l ((wrap .i64 ((1:Int)+a.1)),(bm.1,(av.1,(0,([],(ad.2.1,(ad.2.2.1,ad.2.2.2))))))))))))
 (.t ((wrap .i64 ((1:Int)+a.1))==(5:Int))
 (.c _ (ww bu a.2.1 a.2.2.1 a.2.2.2) fun bq=>
 .c _ (ww ah bq.2.1 bq.2.2.1 bq.2.2.2) fun aq=>
 .c _ (wu ([0,3,10,99,100]:Y1) aq.2.1 aq.2.2.1 aq.2.2.2) fun bg=>
 .c _ (ww 32 bg.2.1 bg.2.2.1 bg.2.2.2) fun f=>
 .t (f.1==0)
 (.c _ (wu ([(-1),7,4611686018427387904]:Y1) f.2.1 f.2.2.1 f.2.2.2) fun dz=>
 .l ((wrap .i64 ((1:Int)+a.1)),(dz.1,(aq.1,(bg.1,([],(dz.2.1,(dz.2.2.1,dz.2.2.2))))))))
 (.t (f.1==1)
 (.c _ (wu ([(-1),1]:Y1) f.2.1 f.2.2.1 f.2.2.2) fun ci=>
 .l ((wrap .i64 ((1:Int)+a.1)),(bq.1,(aq.1,(ci.1,([],(ci.2.1,(ci.2.2.1,ci.2.2.2))))))))
 (.t (f.1==2)
 (.c _ (wu ([0,12,(-1)]:Y1) f.2.1 f.2.2.1 f.2.2.2) fun ck=>
 .l (ck.1,(bq.1,(aq.1,(bg.1,([],(ck.2.1,(ck.2.2.1,ck.2.2.2))))))))
 (.t (f.1==3)
 (.g (length ([1]:Y1)*8≤140737488355328)<|
 .l ((wrap .i64 ((1:Int)+a.1)),(bq.1,(aq.1,(bg.1,(([1]:Y1),(f.2.1,(f.2.2.1,f.2.2.2))))))))
 (.l ((wrap .i64 ((1:Int)+a.1)),(bq.1,(aq.1,(bg.1,([],(f.2.1,(f.2.2.1,f.2.2.2))))))))))))
 (.t ((wrap .i64 ((1:Int)+a.1))==(6:Int))
 (.c _ (ww 20 a.2.1 a.2.2.1 a.2.2.2) fun bi=>
 .c _ (wdr (length cb:Int) bi.2.1 bi.2.2.1 bi.2.2.2) fun aj=>
 .c _ (ww 32 aj.2.1 aj.2.2.1 aj.2.2.2) fun w=>
 .t (w.1==0)
 (.c _ (wu ([(-1),7,4611686018427387904]:Y1) w.2.1 w.2.2.1 w.2.2.2) fun dc=>
 .l ((wrap .i64 ((1:Int)+a.1)),(dc.1,(0,(0,(aj.1,(dc.2.1,(dc.2.2.1,dc.2.2.2))))))))
 (.t (w.1==1)
 (.c _ (wu ([(-1),1]:Y1) w.2.1 w.2.2.1 w.2.2.2) fun bz=>
 .l ((wrap .i64 ((1:Int)+a.1)),(bi.1,(0,(bz.1,(aj.1,(bz.2.1,(bz.2.2.1,bz.2.2.2))))))))
 (.t (w.1==2)
 (.c _ (wu ([0,12,(-1)]:Y1) w.2.1 w.2.2.1 w.2.2.2) fun ch=>
 .l (ch.1,(bi.1,(0,(0,(aj.1,(ch.2.1,(ch.2.2.1,ch.2.2.2))))))))
 (.t (w.1==3)
 (.g ((length aj.1+length ([1]:Y1))*8≤140737488355328)<|
 .l ((wrap .i64 ((1:Int)+a.1)),(bi.1,(0,(0,((aj.1++([1]:Y1)),(w.2.1,(w.2.2.1,w.2.2.2))))))))
 (.l ((wrap .i64 ((1:Int)+a.1)),(bi.1,(0,(0,(aj.1,(w.2.1,(w.2.2.1,w.2.2.2))))))))))))
 (.t ((wrap .i64 ((1:Int)+a.1))==(7:Int))
 (.c _ (wdr (length df:Int) a.2.1 a.2.2.1 a.2.2.2) fun am=>
 .c _ (ww 32 am.2.1 am.2.2.1 am.2.2.2) fun z=>
 .t (z.1==0)
 (.c _ (wu ([(-1),7,4611686018427387904]:Y1) z.2.1 z.2.2.1 z.2.2.2) fun ca=>
 .l ((wrap .i64 ((1:Int)+a.1)),(ca.1,(0,(0,(am.1,(ca.2.1,(ca.2.2.1,ca.2.2.2))))))))
 (.t (z.1==1)
 (.c _ (wu ([(-1),1]:Y1) z.2.1 z.2.2.1 z.2.2.2) fun eh=>
 .l ((wrap .i64 ((1:Int)+a.1)),(0,(0,(eh.1,(am.1,(eh.2.1,(eh.2.2.1,eh.2.2.2))))))))
 (.t (z.1==2)
 (.c _ (wu ([0,12,(-1)]:Y1) z.2.1 z.2.2.1 z.2.2.2) fun er=>
 .l (er.1,(0,(0,(0,(am.1,(er.2.1,(er.2.2.1,er.2.2.2))))))))
 (.t (z.1==3)
 (.g ((length am.1+length ([1]:Y1))*8≤140737488355328)<|
 .l ((wrap .i64 ((1:Int)+a.1)),(0,(0,(0,((am.1++([1]:Y1)),(z.2.1,(z.2.2.1,z.2.2.2))))))))
 (.l ((wrap .i64 ((1:Int)+a.1)),(0,(0,(0,(am.1,(z.2.1,(z.2.2.1,z.2.2.2))))))))))))
 (.t ((wrap .i64 ((1:Int)+a.1))==(9:Int))
 (.c _ (ww bu a.2.1 a.2.2.1 a.2.2.2) fun bn=>
 .c _ (ww 32 bn.2.1 bn.2.2.1 bn.2.2.2) fun m=>
 .t (m.1==0)
 (.c _ (wu ([(-1),7,4611686018427387904]:Y1) m.2.1 m.2.2.1 m.2.2.2) fun eq=>
 .l ((wrap .i64 ((1:Int)+a.1)),(eq.1,(0,(0,([],(eq.2.1,(eq.2.2.1,eq.2.2.2))))))))
 (.t (m.1==1)
 (.c _ (wu ([(-1),1]:Y1) m.2.1 m.2.2.1 m.2.2.2) fun cy=>
 .l ((wrap .i64 ((1:Int)+a.1)),(bn.1,(0,(cy.1,([],(cy.2.1,(cy.2.2.1,cy.2.2.2))))))))
 (.t (m.1==2)
 (.c _ (wu ([0,12,(-1)]:Y1) m.2.1 m.2.2.1 m.2.2.2) fun cp=>
 .l (cp.1,(bn.1,(0,(0,([],(cp.2.1,(cp.2.2.1,cp.2.2.2))))))))
 (.t (m.1==3)
 (.g (length ([1]:Y1)*8≤140737488355328)<|
 .l ((wrap .i64 ((1:Int)+a.1)),(bn.1,(0,(0,(([1]:Y1),(m.2.1,(m.2.2.1,m.2.2.2))))))))
 (.l ((wrap .i64 ((1:Int)+a.1)),(bn.1,(0,(0,([],(m.2.1,(m.2.2.1,m.2.2.2))))))))))))
 (.c _ (ww 32 a.2.1 a.2.2.1 a.2.2.2) fun q=>
 .t (q.1==0)
 (.c _ (wu ([(-1),7,4611686018427387904]:Y1) q.2.1 q.2.2.1 q.2.2.2) fun dv=>
 .l ((wrap .i64 ((1:Int)+a.1)),(dv.1,(0,(0,([],(dv.2.1,(dv.2.2.1,dv.2.2.2))))))))
 (.t (q.1==1)
 (.c _ (wu ([(-1),1]:Y1) q.2.1 q.2.2.1 q.2.2.2) fun cs=>
 .l ((wrap .i64 ((1:Int)+a.1)),(0,(0,(cs.1,([],(cs.2.1,(cs.2.2.1,cs.2.2.2))))))))
 (.t (q.1==2)
 (.c _ (wu ([0,12,(-1)]:Y1) q.2.1 q.2.2.1 q.2.2.2) fun dy=>
 .l (dy.1,(0,(0,(0,([],(dy.2.1,(dy.2.2.1,dy.2.2.2))))))))
 (.t (q.1==3)
 (.g (length ([1]:Y1)*8≤140737488355328)<|
 .l ((wrap .i64 ((1:Int)+a.1)),(0,(0,(0,(([1]:Y1),(q.2.1,(q.2.2.1,q.2.2.2))))))))
 (.l ((wrap .i64 ((1:Int)+a.1)),(0,(0,(0,([],(q.2.1,(q.2.2.1,q.2.2.2)))))))))))))))))))
 (.t ((wrap .i64 ((1:Int)+a.1))==(8:Int))
 (.c _ (ww ah a.2.1 a.2.2.1 a.2.2.2) fun bo=>
 .c _ (ww 32 bo.2.1 bo.2.2.1 bo.2.2.2) fun y=>
 .t (y.1==0)
 (.c _ (wu ([(-1),7,4611686018427387904]:Y1) y.2.1 y.2.2.1 y.2.2.2) fun bw=>
 .l ((wrap .i64 ((1:Int)+a.1)),(bw.1,(0,(0,([],(bw.2.1,(bw.2.2.1,bw.2.2.2))))))))
 (.t (y.1==1)
 (.c _ (wu ([(-1),1]:Y1) y.2.1 y.2.2.1 y.2.2.2) fun dt=>
 .l ((wrap .i64 ((1:Int)+a.1)),(bo.1,(0,(dt.1,([],(dt.2.1,(dt.2.2.1,dt.2.2.2))))))))
 (.t (y.1==2)
 (.c _ (wu ([0,12,(-1)]:Y1) y.2.1 y.2.2.1 y.2.2.2) fun ds=>
 .l (ds.1,(bo.1,(0,(0,([],(ds.2.1,(ds.2.2.1,ds.2.2.2))))))))
 (.t (y.1==3)
 (.g (length ([1]:Y1)*8≤140737488355328)<|
 .l ((wrap .i64 ((1:Int)+a.1)),(bo.1,(0,(0,(([1]:Y1),(y.2.1,(y.2.2.1,y.2.2.2))))))))
 (.l ((wrap .i64 ((1:Int)+a.1)),(bo.1,(0,(0,([],(y.2.1,(y.2.2.1,y.2.2.2))))))))))))
 (.t ((wrap .i64 ((1:Int)+a.1))==(3:Int))
 (.c _ (ww ah a.2.1 a.2.2.1 a.2.2.2) fun bj=>
 .c _ (ww ah bj.2.1 bj.2.2.1 bj.2.2.2) fun ay=>
 .c _ (ww 32 ay.2.1 ay.2.2.1 ay.2.2.2) fun r=>
 .t (r.1==0)
 (.c _ (wu ([(-1),7,4611686018427387904]:Y1) r.2.1 r.2.2.1 r.2.2.2) fun ct=>
 .l ((wrap .i64 ((1:Int)+a.1)),(ct.1,(ay.1,(0,([],(ct.2.1,(ct.2.2.1,ct.2.2.2))))))))
 (.t (r.1==1)
 (.c _ (wu ([(-1),1]:Y1) r.2.1 r.2.2.1 r.2.2.2) fun ec=>
 .l ((wrap .i64 ((1:Int)+a.1)),(bj.1,(ay.1,(ec.1,([],(ec.2.1,(ec.2.2.1,ec.2.2.2))))))))
 (.t (r.1==2)
 (.c _ (wu ([0,12,(-1)]:Y1) r.2.1 r.2.2.1 r.2.2.2) fun cl=>
 .l (cl.1,(bj.1,(ay.1,(0,([],(cl.2.1,(cl.2.2.1,cl.2.2.2))))))))
 (.t (r.1==3)
 (.g (length ([1]:Y1)*8≤140737488355328)<|
 .l ((wrap .i64 ((1:Int)+a.1)),(bj.1,(ay.1,(0,(([1]:Y1),(r.2.1,(r.2.2.1,r.2.2.2))))))))
 (.l ((wrap .i64 ((1:Int)+a.1)),(bj.1,(ay.1,(0,([],(r.2.1,(r.2.2.1,r.2.2.2))))))))))))
 (.t ((wrap .i64 ((1:Int)+a.1))==(4:Int))
 (.c _ (ww ah a.2.1 a.2.2.1 a.2.2.2) fun bs=>
 .c _ (wu ([0,3,10,99,100]:Y1) bs.2.1 bs.2.2.1 bs.2.2.2) fun ar=>
 .c _ (ww 32 ar.2.1 ar.2.2.1 ar.2.2.2) fun ag=>
 .t (ag.1==0)
 (.c _ (wu ([(-1),7,4611686018427387904]:Y1) ag.2.1 ag.2.2.1 ag.2.2.2) fun da=>
 .l ((wrap .i64 ((1:Int)+a.1)),(da.1,(ar.1,(0,([],(da.2.1,(da.2.2.1,da.2.2.2))))))))
 (.t (ag.1==1)
 (.c _ (wu ([(-1),1]:Y1) ag.2.1 ag.2.2.1 ag.2.2.2) fun dl=>
 .l ((wrap .i64 ((1:Int)+a.1)),(bs.1,(ar.1,(dl.1,([],(dl.2.1,(dl.2.2.1,dl.2.2.2))))))))
 (.t (ag.1==2)
 (.c _ (wu ([0,12,(-1)]:Y1) ag.2.1 ag.2.2.1 ag.2.2.2) fun ea=>
 .l (ea.1,(bs.1,(ar.1,(0,([],(ea.2.1,(ea.2.2.1,ea.2.2.2))))))))
 (.t (ag.1==3)
 (.g (length ([1]:Y1)*8≤140737488355328)<|
 .l ((wrap .i64 ((1:Int)+a.1)),(bs.1,(ar.1,(0,(([1]:Y1),(ag.2.1,(ag.2.2.1,ag.2.2.2))))))))
 (.l ((wrap .i64 ((1:Int)+a.1)),(bs.1,(ar.1,(0,([],(ag.2.1,(ag.2.2.1,ag.2.2.2))))))))))))
 (.t ((wrap .i64 ((1:Int)+a.1))==(5:Int))
 (.c _ (ww bu a.2.1 a.2.2.1 a.2.2.2) fun bt=>
 .c _ (ww ah bt.2.1 bt.2.2.1 bt.2.2.2) fun ax=>
 .c _ (wu ([0,3,10,99,100]:Y1) ax.2.1 ax.2.2.1 ax.2.2.2) fun ba=>
 .c _ (ww 32 ba.2.1 ba.2.2.1 ba.2.2.2) fun ac=>
 .t (ac.1==0)
 (.c _ (wu ([(-1),7,4611686018427387904]:Y1) ac.2.1 ac.2.2.1 ac.2.2.2) fun ef=>
 .l ((wrap .i64 ((1:Int)+a.1)),(ef.1,(ax.1,(ba.1,([],(ef.2.1,(ef.2.2.1,ef.2.2.2))))))))
 (.t (ac.1==1)
 (.c _ (wu ([(-1),1]:Y1) ac.2.1 ac.2.2.1 ac.2.2.2) fun eg=>
 .l ((wrap .i64 ((1:Int)+a.1)),(bt.1,(ax.1,(eg.1,([],(eg.2.1,(eg.2.2.1,eg.2.2.2))))))))
 (.t (ac.1==2)
 (.c _ (wu ([0,12,(-1)]:Y1) ac.2.1 ac.2.2.1 ac.2.2.2) fun ed=>
 .l (ed.1,(bt.1,(ax.1,(ba.1,([],(ed.2.1,(ed.2.2.1,ed.2.2.2))))))))
 (.t (ac.1==3)
 (.g (length ([1]:Y1)*8≤140737488355328)<|
 .l ((wrap .i64 ((1:Int)+a.1)),(bt.1,(ax.1,(ba.1,(([1]:Y1),(ac.2.1,(ac.2.2.1,ac.2.2.2))))))))
 (.l ((wrap .i64 ((1:Int)+a.1)),(bt.1,(ax.1,(ba.1,([],(ac.2.1,(ac.2.2.1,ac.2.2.2))))))))))))
 (.t ((wrap .i64 ((1:Int)+a.1))==(6:Int))
 (.c _ (ww 20 a.2.1 a.2.2.1 a.2.2.2) fun bf=>
 .c _ (wdr (length cb:Int) bf.2.1 bf.2.2.1 bf.2.2.2) fun ak=>
 .c _ (ww 32 ak.2.1 ak.2.2.1 ak.2.2.2) fun ab=>
 .t (ab.1==0)
 (.c _ (wu ([(-1),7,4611686018427387904]:Y1) ab.2.1 ab.2.2.1 ab.2.2.2) fun dn=>
 .l ((wrap .i64 ((1:Int)+a.1)),(dn.1,(0,(0,(ak.1,(dn.2.1,(dn.2.2.1,dn.2.2.2))))))))
 (.t (ab.1==1)
 (.c _ (wu ([(-1),1]:Y1) ab.2.1 ab.2.2.1 ab.2.2.2) fun em=>
 .l ((wrap .i64 ((1:Int)+a.1)),(bf.1,(0,(em.1,(ak.1,(em.2.1,(em.2.2.1,em.2.2.2))))))))
 (.t (ab.1==2)
 (.c _ (wu ([0,12,(-1)]:Y1) ab.2.1 ab.2.2.1 ab.2.2.2) fun es=>
 .l (es.1,(bf.1,(0,(0,(ak.1,(es.2.1,(es.2.2.1,es.2.2.2))))))))
 (.t (ab.1==3)
 (.g ((length ak.1+length ([1]:Y1))*8≤140737488355328)<|
 .l ((wrap .i64 ((1:Int)+a.1)),(bf.1,(0,(0,((ak.1++([1]:Y1)),(ab.2.1,(ab.2.2.1,ab.2.2.2))))))))
 (.l ((wrap .i64 ((1:Int)+a.1)),(bf.1,(0,(0,(ak.1,(ab.2.1,(ab.2.2.1,ab.2.2.2))))))))))))
 (.t ((wrap .i64 ((1:Int)+a.1))==(7:Int))
 (.c _ (wdr (length df:Int) a.2.1 a.2.2.1 a.2.2.2) fun ai=>
 .c _ (ww 32 ai.2.1 ai.2.2.1 ai.2.2.2) fun s=>
 .t (s.1==0)
 (.c _ (wu ([(-1),7,4611686018427387904]:Y1) s.2.1 s.2.2.1 s.2.2.2) fun dd=>
 .l ((wrap .i64 ((1:Int)+a.1)),(dd.1,(0,(0,(ai.1,(dd.2.1,(dd.2.2.1,dd.2.2.2))))))))
 (.t (s.1==1)
 (.c _ (wu ([(-1),1]:Y1) s.2.1 s.2.2.1 s.2.2.2) fun cc=>
 .l ((wrap .i64 ((1:Int)+a.1)),(0,(0,(cc.1,(ai.1,(cc.2.1,(cc.2.2.1,cc.2.2.2))))))))
 (.t (s.1==2)
 (.c _ (wu ([0,12,(-1)]:Y1) s.2.1 s.2.2.1 s.2.2.2) fun dq=>
 .l (dq.1,(0,(0,(0,(ai.1,(dq.2.1,(dq.2.2.1,dq.2.2.2))))))))
 (.t (s.1==3)
 (.g ((length ai.1+length ([1]:Y1))*8≤140737488355328)<|
 .l ((wrap .i64 ((1:Int)+a.1)),(0,(0,(0,((ai.1++([1]:Y1)),(s.2.1,(s.2.2.1,s.2.2.2))))))))
 (.l ((wrap .i64 ((1:Int)+a.1)),(0,(0,(0,(ai.1,(s.2.1,(s.2.2.1,s.2.2.2))))))))))))
 (.t ((wrap .i64 ((1:Int)+a.1))==(9:Int))
 (.c _ (ww bu a.2.1 a.2.2.1 a.2.2.2) fun bd=>
 .c _ (ww 32 bd.2.1 bd.2.2.1 bd.2.2.2) fun n=>
 .t (n.1==0)
 (.c _ (wu ([(-1),7,4611686018427387904]:Y1) n.2.1 n.2.2.1 n.2.2.2) fun bx=>
 .l ((wrap .i64 ((1:Int)+a.1)),(bx.1,(0,(0,([],(bx.2.1,(bx.2.2.1,bx.2.2.2))))))))
 (.t (n.1==1)
 (.c _ (wu ([(-1),1]:Y1) n.2.1 n.2.2.1 n.2.2.2) fun dr=>
 .l ((wrap .i64 ((1:Int)+a.1)),(bd.1,(0,(dr.1,([],(dr.2.1,(dr.2.2.1,dr.2.2.2))))))))
 (.t (n.1==2)
 (.c _ (wu ([0,12,(-1)]:Y1) n.2.1 n.2.2.1 n.2.2.2) fun ep=>
 .l (ep.1,(bd.1,(0,(0,([],(ep.2.1,(ep.2.2.1,ep.2.2.2))))))))
 (.t (n.1==3)
 (.g (length ([1]:Y1)*8≤140737488355328)<|
 .l ((wrap .i64 ((1:Int)+a.1)),(bd.1,(0,(0,(([1]:Y1),(n.2.1,(n.2.2.1,n.2.2.2))))))))
 (.l ((wrap .i64 ((1:Int)+a.1)),(bd.1,(0,(0,([],(n.2.1,(n.2.2.1,n.2.2.2))))))))))))
 (.c _ (ww 32 a.2.1 a.2.2.1 a.2.2.2) fun o=>
 .t (o.1==0)
 (.c _ (wu ([(-1),7,4611686018427387904]:Y1) o.2.1 o.2.2.1 o.2.2.2) fun eb=>
 .l ((wrap .i64 ((1:Int)+a.1)),(eb.1,(0,(0,([],(eb.2.1,(eb.2.2.1,eb.2.2.2))))))))
 (.t (o.1==1)
 (.c _ (wu ([(-1),1]:Y1) o.2.1 o.2.2.1 o.2.2.2) fun dp=>
 .l ((wrap .i64 ((1:Int)+a.1)),(0,(0,(dp.1,([],(dp.2.1,(dp.2.2.1,dp.2.2.2))))))))
 (.t (o.1==2)
 (.c _ (wu ([0,12,(-1)]:Y1) o.2.1 o.2.2.1 o.2.2.2) fun cm=>
 .l (cm.1,(0,(0,(0,([],(cm.2.1,(cm.2.2.1,cm.2.2.2))))))))
 (.t (o.1==3)
 (.g (length ([1]:Y1)*8≤140737488355328)<|
 .l ((wrap .i64 ((1:Int)+a.1)),(0,(0,(0,(([1]:Y1),(o.2.1,(o.2.2.1,o.2.2.2))))))))
 (.l ((wrap .i64 ((1:Int)+a.1)),(0,(0,(0,([],(o.2.1,(o.2.2.1,o.2.2.2))))))))))))))))))))
def wzu a b f c e:=(wlz a b f c e).ev
abbrev yq122{a b c d e g h i j l:Type}{z:Type _}(f:b→c→g→h→i→z)(x:(a×(b×c×d)×e)×(g×h×i×j)×l):z:=f x.1.2.1.1 x.1.2.1.2.1 x.2.1.1 x.2.1.2.1 x.2.1.2.2.1
abbrev yq121:RetK:=⟨[.ownB 4 4 1 3 yi,.ren 116 1,.ren 4800 1,.ren 5312 1],[.cell 4 156],(yj [.agg (yj [.dat yi,.dat yi,.dat yi,.dat yi,.arr 1])]),[(1,.arr 3 yi),Zd],[(0,0,64)],[]⟩
abbrev yq123{a b c d e g h i:Type}(r:a×b×c×d×e×g×h×i):=(((r.1,(r.2.1,(r.2.2.1,(r.2.2.2.1,((),()))))),()),(r.2.2.2.2.1,((r.2.2.2.2.2.1,(r.2.2.2.2.2.2.1,(r.2.2.2.2.2.2.2,()))),())))
def wafd:FP prog:=fnP cx func148 [wdl,wzq,wzp,wfx,wafc] (yj [.box 64 0,.agg Zk]) [Zd] [.arg 0] (yq122 wlz) yq121 yq123 (zOf [(27,[(2,[96])]),(29,[(2,[102])]),(31,[(2,[108])]),(13,[(2,[49])]),(17,[(2,[63])])])
def wrt(a:Int)(f:Int)(e:Int)(b:Int)(c:Y1):Tr (Bool):=
 .t (a==1)
 (.t (a==1)
 (.t (e==0)
 (.t (b==0)
 (.l ((length c:Int)==(0:Int)))
 (.l false))
 (.l false))
 (.t (a==3)
 (.t (a==3)
 (.t (b==0)
 (.l ((length c:Int)==(0:Int)))
 (.l false))
 (.t (a==5)
 (.l ((length c:Int)==(0:Int)))
 (.t (a==6)
 (.t (e==0)
 (.l (b==0))
 (.l false))
 (.t (a==7)
 (.t (f==0)
 (.t (e==0)
 (.l (b==0))
 (.l false))
 (.l false))
 (.t (a==10)
 (.t (f==0)
 (.t (e==0)
 (.t (b==0)
 (.l ((length c:Int)==(0:Int)))
 (.l false))
 (.l false))
 (.l false))
 (.t (a==11)
 (.t (f==0)
 (.t (e==0)
 (.t (b==0)
 (.l ((length c:Int)==(0:Int)))
 (.l false))
 (.l false))
 (.l false))
 (.l false)))))))
 (.t (a==4)
 (.t (b==0)
 (.l ((length c:Int)==(0:Int)))
 (.l false))
 (.t (a==5)
 (.l ((length c:Int)==(0:Int)))
 (.t (a==6)
 (.t (e==0)
 (.l (b==0))
 (.l false))
 (.t (a==7)
 (.t (f==0)
 (.t (e==0)
 (.l (b==0))
 (.l false))
 (.l false))
 (.t (a==10)
 (.t (f==0)
 (.t (e==0)
 (.t (b==0)
 (.l ((length c:Int)==(0:Int)))
 (.l false))
 (.l false))
 (.l false))
 (.t (a==11)
 (.t (f==0)
 (.t (e==0)
 (.t (b==0)
 (.l ((length c:Int)==(0:Int)))
 (.l false))
 (.l false))
 (.l false))
 (.l false)))))))))
 (.t (a==2)
 (.t (a==2)
 (.t (e==0)
 (.t (b==0)
 (.l ((length c:Int)==(0:Int)))
 (.l false))
 (.l false))
 (.t (a==3)
 (.t (a==3)
 (.t (b==0)
 (.l ((length c:Int)==(0:Int)))
 (.l false))
 (.t (a==5)
 (.l ((length c:Int)==(0:Int)))
 (.t (a==6)
 (.t (e==0)
 (.l (b==0))
 (.l false))
 (.t (a==7)
 (.t (f==0)
 (.t (e==0)
 (.l (b==0))
 (.l false))
 (.l false))
 (.t (a==10)
 (.t (f==0)
 (.t (e==0)
 (.t (b==0)
 (.l ((length c:Int)==(0:Int)))
 (.l false))
 (.l false))
 (.l false))
 (.t (a==11)
 (.t (f==0)
 (.t (e==0)
 (.t (b==0)
 (.l ((length c:Int)==(0:Int)))
 (.l false))
 (.l false))
 (.l false))
 (.l false)))))))
 (.t (a==4)
 (.t (b==0)
 (.l ((length c:Int)==(0:Int)))
 (.l false))
 (.t (a==5)
 (.l ((length c:Int)==(0:Int)))
 (.t (a==6)
 (.t (e==0)
 (.l (b==0))
 (.l false))
 (.t (a==7)
 (.t (f==0)
 (.t (e==0)
 (.l (b==0))
 (.l false))
 (.l false))
 (.t (a==10)
 (.t (f==0)
 (.t (e==0)
 (.t (b==0)
 (.l ((length c:Int)==(0:Int)))
 (.l false))
 (.l false))
 (.l false))
 (.t (a==11)
 (.t (f==0)
 (.t (e==0)
 (.t (b==0)
 (.l ((length c:Int)==(0:Int)))
 (.l false))
 (.l false))
 (.l false))
 (.l false)))))))))
 (.t (a==8)
 (.t (a==8)
 (.t (e==0)
 (.t (b==0)
 (.l ((length c:Int)==(0:Int)))
 (.l false))
 (.l false))
 (.t (a==3)
 (.t (a==3)
 (.t (b==0)
 (.l ((length c:Int)==(0:Int)))
 (.l false))
 (.t (a==5)
 (.l ((length c:Int)==(0:Int)))
 (.t (a==6)
 (.t (e==0)
 (.l (b==0))
 (.l false))
 (.t (a==7)
 (.t (f==0)
 (.t (e==0)
 (.l (b==0))
 (.l false))
 (.l false))
 (.t (a==10)
 (.t (f==0)
 (.t (e==0)
 (.t (b==0)
 (.l ((length c:Int)==(0:Int)))
 (.l false))
 (.l false))
 (.l false))
 (.t (a==11)
 (.t (f==0)
 (.t (e==0)
 (.t (b==0)
 (.l ((length c:Int)==(0:Int)))
 (.l false))
 (.l false))
 (.l false))
 (.l false)))))))
 (.t (a==4)
 (.t (b==0)
 (.l ((length c:Int)==(0:Int)))
 (.l false))
 (.t (a==5)
 (.l ((length c:Int)==(0:Int)))
 (.t (a==6)
 (.t (e==0)
 (.l (b==0))
 (.l false))
 (.t (a==7)
 (.t (f==0)
 (.t (e==0)
 (.l (b==0))
 (.l false))
 (.l false))
 (.t (a==10)
 (.t (f==0)
 (.t (e==0)
 (.t (b==0)
 (.l ((length c:Int)==(0:Int)))
 (.l false))
 (.l false))
 (.l false))
 (.t (a==11)
 (.t (f==0)
 (.t (e==0)
 (.t (b==0)
 (.l ((length c:Int)==(0:Int)))
 (.l false))
 (.l false))
 (.l false))
 (.l false)))))))))
 (.t (a==9)
 (.t (e==0)
 (.t (b==0)
 (.l ((length c:Int)==(0:Int)))
 (.l false))
 (.l false))
 (.t (a==3)
 (.t (a==3)
 (.t (b==0)
 (.l ((length c:Int)==(0:Int)))
 (.l false))
 (.t (a==5)
 (.l ((length c:Int)==(0:Int)))
 (.t (a==6)
 (.t (e==0)
 (.l (b==0))
 (.l false))
 (.t (a==7)
 (.t (f==0)
 (.t (e==0)
 (.l (b==0))
 (.l false))
 (.l false))
 (.t (a==10)
 (.t (f==0)
 (.t (e==0)
 (.t (b==0)
 (.l ((length c:Int)==(0:Int)))
 (.l false))
 (.l false))
 (.l false))
 (.t (a==11)
 (.t (f==0)
 (.t (e==0)
 (.t (b==0)
 (.l ((length c:Int)==(0:Int)))
 (.l false))
 (.l false))
 (.l false))
 (.l false)))))))
 (.t (a==4)
 (.t (b==0)
 (.l ((length c:Int)==(0:Int)))
 (.l false))
 (.t (a==5)
 (.l ((length c:Int)==(0:Int)))
 (.t (a==6)
 (.t (e==0)
 (.l (b==0))
 (.l false))
 (.t (a==7)
 (.t (f==0)
 (.t (e==0)
 (.l (b==0))
 (.l false))
 (.l false))
 (.t (a==10)
 (.t (f==0)
 (.t (e==0)
 (.t (b==0)
 (.l ((length c:Int)==(0:Int)))
 (.l false))
 (.l false))
 (.l false))
 (.t (a==11)
 (.t (f==0)
 (.t (e==0)
 (.t (b==0)
 (.l ((length c:Int)==(0:Int)))
 (.l false))
 (.l false))
 (.l false))
 (.l false)))))))))))
def wru f c e a b:=(wrt f c e a b).ev
abbrev yq124{a b c d e g h i:Type}{z:Type _}(f:a→b→c→d→e→z)(x:((a×b×c×d×e×g)×h)×i):z:=f x.1.1.1 x.1.1.2.1 x.1.1.2.2.1 x.1.1.2.2.2.1 x.1.1.2.2.2.2.1
def wafe:FP prog:=fnP cx func222 [] (yj [.agg Zae]) [] [] (yq124 wrt) yq0 yq2
def wrv(b:Y1)(_f:List Y1)(e:Int):Tr (Bool):=
 .c _ (wbh e 0 (wrap .i64 ((length b:Int) -1))) fun a=>
 .l a
def wef b c a:=(wrv b c a).ev
def wzv:FP prog:=fnP cx func302 [wfh] (yj [.agg Zk,.dat yi]) [] [] (yq113 wrv) yq112 yq2
def wbv(k:Y1×Int)(v:Int):Tr ((Int)⊕((Unit)⊕(Unit))):=
 .t (v<(length k.1:Int))
 (.g (inR v (length k.1))<|
 .t ((getD k.1 (toNat v) 0)==k.2)
 (.l (.inr (.inr ())))
 (.l (.inl (wrap .i64 (v+1)))))
 (.l (.inr (.inl ())))
def whc k v:=iter (fun v=>(wbv k v).ev) v
abbrev yq125:Keep:=yh [0,1,5] (yj [.dat y1,.dat yi,.dat yi])
abbrev yq126:Keep:=yh [4] Zag
abbrev yq127{a b c:Type}(k:a×b)(v:c):=((k.1,(k.2,(v,()))),())
def wma:LD:=yl (wbv) yq125 [(0,yq10)] yq126 yq127 yq109 yq73 (fun _ r=>.s _ _ r (fun _=>yx 0 yq10 ((),())) (fun _=>yz yq126 ((true,()),())))
def wrw(b:Y1)(e:Int):Tr (Bool):=
 .c _ (whc (b,e) 0) fun a=>
 .s _ _ a
 (fun _=>.l false)
 (fun _=>.l true)
def wdh a b:=(wrw a b).ev
def wrx:FP prog:=fnP cx func301 [] (yj [.dat y1,.dat yi]) [] [] (yq41 wrw) yq112 yq2 noZ [(0,wma)]
def wry(g:Y1)(b:List Y1)(e:Y1)(_i:Int)(a:Int):Tr (Bool):=
 .c _ (wef g b a) fun f=>
 .t f
 (.c _ (wdh e a) fun h=>
 .l (!h))
 (.l false)
def wfi f c e a b:=(wry f c e a b).ev
abbrev yq128{a b c d e g h i:Type}{z:Type _}(f:a→b→c→d→g→z)(x:((a×b×c×d×e)×g×h)×i):z:=f x.1.1.1 x.1.1.2.1 x.1.1.2.2.1 x.1.1.2.2.2.1 x.1.2.1
def waff:FP prog:=fnP cx func300 [wzv,wrx] (yj [.agg Zm,.dat yi]) [] [] (yq128 wry) yq112 yq2
def wrz(g:Y1)(b:List Y1)(f:Y1)(i:Int)(a:Int)(e:Int)(h:Int)(_af:Int)(j:Y1):Tr (Bool):=
 .t (a==1)
 (.t (a==1)
 (.c _ (wfi g b f i e) fun s=>
 .l s)
 (.t (a==2)
 (.c _ (wdh f e) fun w=>
 .l w)
 (.t (a==3)
 (.c _ (wdh f e) fun r=>
 .t r
 (.c _ (wfi g b f i h) fun ab=>
 .l ab)
 (.l false))
 (.t (a==4)
 (.c _ (wef g b e) fun ac=>
 .l ac)
 (.t (a==5)
 (.c _ (wbh e 0 (wrap .i64 ((length b:Int) -1))) fun m=>
 .t m
 (.c _ (wef g b h) fun ae=>
 .l ae)
 (.l false))
 (.t (a==6)
 (.l ((length j:Int)==(length b:Int)))
 (.t (a==9)
 (.c _ (wbh e 0 (wrap .i64 ((length b:Int) -1))) fun u=>
 .l u)
 (.t (a==10)
 (.l ((0:Int)<(length f:Int)))
 (.l true)))))))))
 (.t (a==8)
 (.c _ (wfi g b f i e) fun ad=>
 .l ad)
 (.t (a==2)
 (.c _ (wdh f e) fun y=>
 .l y)
 (.t (a==3)
 (.c _ (wdh f e) fun o=>
 .t o
 (.c _ (wfi g b f i h) fun aa=>
 .l aa)
 (.l false))
 (.t (a==4)
 (.c _ (wef g b e) fun p=>
 .l p)
 (.t (a==5)
 (.c _ (wbh e 0 (wrap .i64 ((length b:Int) -1))) fun n=>
 .t n
 (.c _ (wef g b h) fun q=>
 .l q)
 (.l false))
 (.t (a==6)
 (.l ((length j:Int)==(length b:Int)))
 (.t (a==9)
 (.c _ (wbh e 0 (wrap .i64 ((length b:Int) -1))) fun z=>
 .l z)
 (.t (a==10)
 (.l ((0:Int)<(length f:Int)))
 (.l true)))))))))
def wsa h c f a b e g i j:=(wrz h c f a b e g i j).ev
abbrev yq129{a b c d e g h i j l m n o:Type}{z:Type _}(f:a→b→c→d→g→h→i→j→l→z)(x:((a×b×c×d×e)×(g×h×i×j×l×m)×n)×o):z:=f x.1.1.1 x.1.1.2.1 x.1.1.2.2.1 x.1.1.2.2.2.1 x.1.2.1.1 x.1.2.1.2.1 x.1.2.1.2.2.1 x.1.2.1.2.2.2.1 x.1.2.1.2.2.2.2.1
def wafg:FP prog:=fnP cx func223 [waff,wrx,wzv,wfh] (yj [.agg Zm,.agg Zae]) [] [] (yq129 wrz) yq112 yq2
def wbw(k:Y1×(Y2×(Y1×(Int×(Int×(Y2×Y1))))))(v:Int×Y2):Tr ((Int×Y2)⊕Y2):=
 .t (v.1<(length k.2.1:Int))
 (.g (inR v.1 (length k.2.1))<|
 .c _ (waj (getD k.2.1 (toNat v.1) [])) fun a=>
 .g ((length v.2+1)*24≤140737488355328)<|
 .l (.inl ((wrap .i64 (v.1+1)),(set (v.2++ [[]]) (length v.2) a))))
 (.l (.inr v.2))
def whd k v:=iter (fun v=>(wbw k v).ev) v
abbrev yq130:Keep:=yk [.ownRB 2 1 900321 22 3 yi] [1,2,3,4] (yj [.box 1 0,.box 2 0,.box 3 0,.dat yi]) [(1,.cells Zm),(2,.cells (yj [.nilsl,.arr 900321,.nilsl,.dat yi])),(3,.cells (yj [.arr 512,.arr 9])),(900321,.rows 22 3 yi),(512,.arr 3 yi),(9,.rows 22 3 yi)]
abbrev yq131:Keep:=yk [] [1,2,3] (yj [.box 1 0,.box 2 0,.box 3 0]) [(1,.cells Zm),(2,.cells (yj [.nilsl,.arr 900321,.nilsl,.dat yi])),(3,.cells (yj [.arr 512,.arr 9])),(900321,.rows 22 3 yi),(512,.arr 3 yi),(9,.rows 22 3 yi)]
abbrev yq132{a b c d e g h i j:Type}(k:a×b×c×d×e×g×h)(v:i×j):=(((),((),((),(v.1,())))),((k.1,(k.2.1,(k.2.2.1,(k.2.2.2.1,())))),(((),((),((),(k.2.2.2.2.1,())))),(((),((),())),(k.2.2.2.2.2.1,(k.2.2.2.2.2.2,(v.2,())))))))
abbrev yq133{a b c d e g h i j l m n o p q:Type}(t:a×(b×c×d×e×g)×(h×i×j×l×m)×n×o×p×q):=(t.2.1.1,(t.2.1.2.1,(t.2.1.2.2.1,(t.2.1.2.2.2.1,(t.2.2.1.2.2.2.1,(t.2.2.2.2.1,t.2.2.2.2.2.1))))))
def wmb:LD:=yl (wbw) yq130 [(0,yq131)] yq10 yq132 yq133 yq56 (fun k r=>yx 0 yq131 (((),((),((),()))),((k.1,(k.2.1,(k.2.2.1,(k.2.2.2.1,())))),(((),((),((),(k.2.2.2.2.1,())))),(((),((),())),(k.2.2.2.2.2.1,(k.2.2.2.2.2.2,(r,()))))))))
def wsb(f:Y1)(h:List Y1)(b:Y1)(a:Int):Tr (Int×(Y1×(Y2×Y1))):=
 .c _ (waj f) fun e=>
 .c _ (whd (f,(h,(b,(a,(0,([],e)))))) (0,[])) fun i=>
 .c _ (waj b) fun g=>
 .l (a,(e,(i,g)))
def wmc c e b a:=(wsb c e b a).ev
abbrev yq134:RetK:=⟨[.ren 512 4,.ren 9 5,.ren 2176 6],[.cell 2 38],(yj [.agg (yj [.arr 4,.arr 5,.arr 6,.dat yi])]),[(4,.arr 3 yi),(5,.rows 22 3 yi),(6,.arr 3 yi)],[],[]⟩
abbrev yq135{a b c d:Type}(r:a×b×c×d):=((((),((),((),(r.1,())))),()),(r.2.1,(r.2.2.1,(r.2.2.2,()))))
def wzw:FP prog:=fnP cx func63 [wfg] (yj [.agg Zm]) [] [] (yq114 wsb) yq134 yq135 (zOf [(1,[(4,[1000000])])]) [(0,wmb)]
def wau(k:Y1×Int)(v:Int):Tr ((Int)⊕(Int)):=
 .t (v<(length k.1:Int))
 (.g (inR v (length k.1))<|
 .t ((getD k.1 (toNat v) 0)<k.2)
 (.l (.inl (wrap .i64 (v+1))))
 (.l (.inr v)))
 (.l (.inr v))
def weg k v:=iter (fun v=>(wau k v).ev) v
def wmd:LD:=yl (wau) yq125 [(0,yq125)] yq10 yq127 yq109 yq73 (fun k r=>yx 0 yq125 ((k.1,(k.2,(r,()))),()))
def wsc(a:Y1)(e:Int):Tr Y1:=
 .c _ (weg (a,e) 0) fun b=>
 .t (b<(length a:Int))
 (.g (inR b (length a))<|
 .t ((getD a (toNat b) 0)==e)
 (.f)
 (.g ((0≤b)&&(b≤(length a:Int)))<|
 .g ((length ([]:Y1)+length (List.drop 0 (List.take (toNat b) a)))*8≤140737488355328)<|
 .g ((length (([]:Y1)++(List.drop 0 (List.take (toNat b) a)))+length ([e]:Y1))*8≤140737488355328)<|
 .g ((0≤b)&&(b≤(length a:Int)))<|
 .g ((length ((([]:Y1)++(List.drop 0 (List.take (toNat b) a)))++([e]:Y1))+length (List.drop (toNat b) (List.take (length a) a)))*8≤140737488355328)<|
 .l (((([]:Y1)++(List.drop 0 (List.take (toNat b) a)))++([e]:Y1))++(List.drop (toNat b) (List.take (length a) a)))))
 (.g ((0≤b)&&(b≤(length a:Int)))<|
 .g ((length ([]:Y1)+length (List.drop 0 (List.take (toNat b) a)))*8≤140737488355328)<|
 .g ((length (([]:Y1)++(List.drop 0 (List.take (toNat b) a)))+length ([e]:Y1))*8≤140737488355328)<|
 .g ((0≤b)&&(b≤(length a:Int)))<|
 .g ((length ((([]:Y1)++(List.drop 0 (List.take (toNat b) a)))++([e]:Y1))+length (List.drop (toNat b) (List.take (length a) a)))*8≤140737488355328)<|
 .l (((([]:Y1)++(List.drop 0 (List.take (toNat b) a)))++([e]:Y1))++(List.drop (toNat b) (List.take (length a) a))))
def weh a b:=(wsc a b).ev
abbrev yq136:RetK:=⟨[.ren 33 0],[.tmp 4],Zah,[Zab],[],[]⟩
def wzx:FP prog:=fnP cx func303 [] (yj [.dat y1,.dat yi]) [] [] (yq41 wsc) yq136 yq27 (zOf [(5,[(1,[140000000])])]) [(0,wmd)]
def wav(k:Y1×Int)(v:Int×Y1):Tr (Yq⊕Y1):=
 .t (v.1<(length k.1:Int))
 (.g (inR v.1 (length k.1))<|
 .t ((getD k.1 (toNat v.1) 0) !=k.2)
 (.g (inR v.1 (length k.1))<|
 .g ((length v.2+length ([(getD k.1 (toNat v.1) 0)]:Y1))*8≤140737488355328)<|
 .l (.inl ((wrap .i64 (v.1+1)),(v.2++([(getD k.1 (toNat v.1) 0)]:Y1)))))
 (.l (.inl ((wrap .i64 (v.1+1)),v.2))))
 (.l (.inr v.2))
def wei k v:=iter (fun v=>(wav k v).ev) v
abbrev yq137:Keep:=yk [] [0,1,5,6] (yj [.dat y1,.dat yi,.arr 7,.dat yi]) [(7,.arr 3 yi)]
def wme:LD:=yl (wav) yq137 [(0,yq107)] yq10 yq108 yq109 yq110 (fun _ r=>yx 0 yq107 (((),()),(r,())))
def wsd(b:Y1)(e:Int):Tr Y1:=
 .c _ (wei (b,e) (0,[])) fun a=>
 .l a
def whe a b:=(wsd a b).ev
def wzy:FP prog:=fnP cx func304 [] (yj [.dat y1,.dat yi]) [] [] (yq41 wsd) yq111 yq27 noZ [(0,wme)]
def wsf(a:Y1)(b:Int):Tr Y1:=
 .g ((0≤b)&&(b≤(length a:Int)))<|
 .c _ (waj (List.drop 0 (List.take (toNat b) a))) fun e=>
 .g (((0:Int)≤(wrap .i64 (b+1)))&&((wrap .i64 (b+1))≤(length a:Int)))<|
 .g ((length e+length (List.drop (toNat (wrap .i64 (b+1))) (List.take (length a) a)))*8≤140737488355328)<|
 .l (e++(List.drop (toNat (wrap .i64 (b+1))) (List.take (length a) a)))
def wmf a b:=(wsf a b).ev
abbrev yq143:RetK:=⟨[.ren 512 0],[.tmp 4],Zah,[Zab],[],[]⟩
def wafh:FP prog:=fnP cx func351 [wfg] (yj [.dat y1,.dat yi]) [] [] (yq41 wsf) yq143 yq27
def wbx(k:Int×(Y1×(Y2×(Y1×(Int×(Int×(Int×(Y1×Y1))))))))(v:Int×Y2):Tr ((Int×Y2)⊕Y2):=
 .t (v.1<(length k.2.2.1:Int))
 (.g (inR v.1 (length k.2.2.1))<|
 .c _ (wmf (getD k.2.2.1 (toNat v.1) []) k.1) fun a=>
 .g (inR v.1 (length v.2))<|
 .g ((toNat v.1)<length v.2)<|
 .l (.inl ((wrap .i64 (v.1+1)),(set v.2 (toNat v.1) a))))
 (.l (.inr v.2))
def whf k v:=iter (fun v=>(wbx k v).ev) v
abbrev yq144:Keep:=yk [] [1,2,4,5,6] (yj [.dat yi,.box 2 0,.box 4 0,.box 5 0,.dat yi]) [(2,.cells Zm),(4,.cells Zx),(5,.cells (yj [.arr 896,.arr 581,.arr 582,.dat yi])),(896,.arr 3 yi),(581,.rows 22 3 yi),(582,.arr 3 yi)]
abbrev yq145:Keep:=yk [] [1,4,5] (yj [.dat yi,.box 4 0,.box 5 0]) [(4,.cells Zx),(5,.cells (yj [.arr 896,.arr 581,.arr 582,.dat yi])),(896,.arr 3 yi),(581,.rows 22 3 yi),(582,.arr 3 yi)]
abbrev yq146{a b c d e g h i j l m:Type}(k:a×b×c×d×e×g×h×i×j)(v:l×m):=((k.1,((),((),((),(v.1,()))))),((k.2.1,(k.2.2.1,(k.2.2.2.1,(k.2.2.2.2.1,())))),(((),((),((),(k.2.2.2.2.2.1,())))),(((),((),((),(k.2.2.2.2.2.2.1,())))),(k.2.2.2.2.2.2.2.1,(v.2,(k.2.2.2.2.2.2.2.2,())))))))
abbrev yq147{a b c d e g h i j l m n o p q s t u w a19 a20:Type}(t:(a×b)×(c×d×e×g×h)×(i×j×l×m×n)×(o×p×q×s×t)×u×w×a19×a20):=(t.1.1,(t.2.1.1,(t.2.1.2.1,(t.2.1.2.2.1,(t.2.1.2.2.2.1,(t.2.2.1.2.2.2.1,(t.2.2.2.1.2.2.2.1,(t.2.2.2.2.1,t.2.2.2.2.2.2.1))))))))
abbrev yq148{a b c d e g h i j l m n:Type}(t:(a×b×c×d×e×g)×h×i×j×l×m×n):=(t.1.2.2.2.2.1,t.2.2.2.2.2.1)
def wmg:LD:=yl (wbx) yq144 [(0,yq145)] yq10 yq146 yq147 yq148 (fun k r=>yx 0 yq145 ((k.1,((),((),()))),(((),((),((),(k.2.2.2.2.2.1,())))),(((),((),((),(k.2.2.2.2.2.2.1,())))),(k.2.2.2.2.2.2.2.1,(r,(k.2.2.2.2.2.2.2.2,())))))))
def waw(k:Int×(Int×(Int×(Y1×Y2))))(v:Int×Y1):Tr (Yq⊕Y1):=
 .t (v.1<(length v.2:Int))
 (.g (inR v.1 (length v.2))<|
 .g ((toNat v.1)<length v.2)<|
 .t (k.1<(getD v.2 (toNat v.1) 0))
 (.g (inR v.1 (length v.2))<|
 .g ((toNat v.1)<length v.2)<|
 .g (inR v.1 (length v.2))<|
 .g ((toNat v.1)<length v.2)<|
 .l (.inl ((wrap .i64 (v.1+1)),(set v.2 (toNat v.1) (wrap .i64 ((getD v.2 (toNat v.1) 0) -1))))))
 (.l (.inl ((wrap .i64 (v.1+1)),v.2))))
 (.l (.inr v.2))
def whg k v:=iter (fun v=>(waw k v).ev) v
abbrev yq149:Keep:=yk [] [1,4,5,7] (yj [.dat yi,.box 4 0,.box 5 0,.dat yi]) [(4,.cells Zx),(5,.cells (yj [.arr 896,.arr 581,.arr 582,.dat yi])),(896,.arr 3 yi),(581,.rows 22 3 yi),(582,.arr 3 yi)]
abbrev yq150:Keep:=yk [] [4,5] (yj [.box 4 0,.box 5 0]) [(4,.cells Zx),(5,.cells (yj [.arr 896,.arr 581,.arr 582,.dat yi])),(896,.arr 3 yi),(581,.rows 22 3 yi),(582,.arr 3 yi)]
abbrev yq151{a b c d e g h:Type}(k:a×b×c×d×e)(v:g×h):=((k.1,((),((),(v.1,())))),(((),((),((),(k.2.1,())))),(((),((),((),(k.2.2.1,())))),(k.2.2.2.1,(k.2.2.2.2,(v.2,()))))))
abbrev yq152{a b c d e g h i j l m n o p q:Type}(t:(a×b)×(c×d×e×g×h)×(i×j×l×m×n)×o×p×q):=(t.1.1,(t.2.1.2.2.2.1,(t.2.2.1.2.2.2.1,(t.2.2.2.1,t.2.2.2.2.1))))
abbrev yq153{a b c d e g h i j l m:Type}(t:(a×b×c×d×e)×g×h×i×j×l×m):=(t.1.2.2.2.1,t.2.2.2.2.2.1)
def wmh:LD:=yl (waw) yq149 [(2,yq150)] yq10 yq151 yq152 yq153 (fun k r=>yx 2 yq150 (((),((),())),(((),((),((),(k.2.1,())))),(((),((),((),(k.2.2.1,())))),(k.2.2.2.1,(k.2.2.2.2,(r,())))))))
def wsg(e:Y1)(i:List Y1)(j:Y1)(g:Int)(b:Int):Tr (Int×(Y1×(Y2×Y1))):=
 .c _ (wmc e i j g) fun a=>
 .c _ (wmf e b) fun f=>
 .c _ (whf (b,(e,(i,(j,(g,(0,(a.1,(f,a.2.2.2)))))))) (0,a.2.2.1)) fun h=>
 .c _ (whg (b,(0,(a.1,(f,h)))) (0,a.2.2.2)) fun m=>
 .l (a.1,(f,(h,m)))
def wsh f c e a b:=(wsg f c e a b).ev
abbrev yq154:RetK:=⟨[.ren 896 1,.ren 581 2,.ren 582 3],[.cell 4 38],(yj [.agg (yj [.arr 1,.arr 2,.arr 3,.dat yi])]),[(1,.arr 3 yi),(2,.rows 22 3 yi),(3,.arr 3 yi)],[],[]⟩
def wafi:FP prog:=fnP cx func305 [wzw,wafh] (yj [.agg Zm,.dat yi]) [] [] (yq128 wsg) yq154 yq135 noZ [(0,wmg),(2,wmh)]
def wsi(e:Y1)(a:List Y1)(b:Y1):Tr (Bool):=
 .c _ (wgv e a) fun g=>
 .t g
 (.c _ (wlx e a b) fun f=>
 .t f
 (.l ((0:Int)<(length b:Int)))
 (.l false))
 (.l false)
def wsj b c a:=(wsi b c a).ev
def wafj:FP prog:=fnP cx func336 [wrk,wzt] (yj [.agg Zk,.dat y1]) [] [] (yq113 wsi) yq112 yq2
def wax(k:Y1×(Int×((Nat)×(Y1×(Y2×(Y2×Y2))))))(v:Int×Y2):Tr ((Int×Y2)⊕Y2):=
 .t (v.1<(length k.2.2.2.1:Int))
 (.c _ (wdh k.1 v.1) fun b=>
 .t (!b)
 (.c _ (weh (getD k.2.2.2.2.2.2 k.2.2.1 []) v.1) fun a=>
 .g ((length v.2+1)*24≤140737488355328)<|
 .l (.inl ((wrap .i64 (v.1+1)),(set (v.2++ [[]]) (length v.2) a))))
 (.l (.inl ((wrap .i64 (v.1+1)),v.2))))
 (.l (.inr v.2))
def whh k v:=iter (fun v=>(wax k v).ev) v
abbrev yq155:Keep:=yk [] [1,2,5,6,7,8,9,10] (yj [.dat y1,.box 2 0,.arr 11,.arr 12,.arr 13,.dat yi,.row 12,.dat yi]) [(2,.cells Zk),(11,.rows 22 3 yi),(12,.rows 22 3 yi),(13,.rows 22 3 yi)]
abbrev yq156:Keep:=yk [] [1,2,5,6,7,8] (yj [.dat y1,.box 2 0,.arr 11,.arr 12,.arr 13,.dat yi]) [(2,.cells Zk),(11,.rows 22 3 yi),(12,.rows 22 3 yi),(13,.rows 22 3 yi)]
abbrev yq157{a b c d e g h i j:Type}(k:a×b×c×d×e×g×h)(v:i×j):=((k.1,((),((),((),((),(k.2.1,(k.2.2.1,(v.1,())))))))),((k.2.2.2.1,(k.2.2.2.2.1,())),(k.2.2.2.2.2.1,(k.2.2.2.2.2.2,(v.2,())))))
abbrev yq158{a b c d e g h i j l m n o p:Type}(t:(a×b×c×d×e×g×h×i)×(j×l×m)×n×o×p):=(t.1.1,(t.1.2.2.2.2.2.1,(t.1.2.2.2.2.2.2.1,(t.2.1.1,(t.2.1.2.1,(t.2.2.1,t.2.2.2.1))))))
abbrev yq159{a b c d e g h i j l m n o p:Type}(t:(a×b×c×d×e×g×h×i×j)×l×m×n×o×p):=(t.1.2.2.2.2.2.2.2.1,t.2.2.2.2.1)
def wmi:LD:=yl (wax) yq155 [(2,yq156)] yq10 yq157 yq158 yq159 (fun k r=>yx 2 yq156 ((k.1,((),((),((),((),(k.2.1,())))))),((k.2.2.2.1,(k.2.2.2.2.1,())),(k.2.2.2.2.2.1,(k.2.2.2.2.2.2,(r,()))))))
def wz(k:Y1×(Int×(Y1×(Y2×(Y2×(Y2×Y1))))))(v:Int×Y2):Tr ((Int×Y2)⊕Y2):=
 .t (v.1<(length k.2.2.1:Int))
 (.c _ (wdh k.1 v.1) fun b=>
 .t (!b)
 (.c _ (weh k.2.2.2.2.2.2 v.1) fun a=>
 .g ((length v.2+1)*24≤140737488355328)<|
 .l (.inl ((wrap .i64 (v.1+1)),(set (v.2++ [[]]) (length v.2) a))))
 (.l (.inl ((wrap .i64 (v.1+1)),v.2))))
 (.l (.inr v.2))
def wby k v:=iter (fun v=>(wz k v).ev) v
abbrev yq160:Keep:=yk [] [1,2,5,6,7,8,9,10] (yj [.dat y1,.box 2 0,.arr 11,.arr 12,.arr 13,.dat yi,.arr 2112,.dat yi]) [(2,.cells Zk),(11,.rows 22 3 yi),(12,.rows 22 3 yi),(13,.rows 22 3 yi),Zad]
abbrev yq161{a b c d e g h i j:Type}(k:a×b×c×d×e×g×h)(v:i×j):=((k.1,((),((),((),((),(k.2.1,((),(v.1,())))))))),((k.2.2.1,(k.2.2.2.1,())),(k.2.2.2.2.1,(k.2.2.2.2.2.1,(v.2,(k.2.2.2.2.2.2,()))))))
abbrev yq162{a b c d e g h i j l m n o p q:Type}(t:(a×b×c×d×e×g×h)×(i×j×l)×m×n×o×p×q):=(t.1.1,(t.1.2.2.2.2.2.1,(t.2.1.1,(t.2.1.2.1,(t.2.2.1,(t.2.2.2.1,t.2.2.2.2.2.1))))))
def wdv:LD:=yl (wz) yq160 [(2,yq156)] yq10 yq161 yq162 yq159 (fun k r=>yx 2 yq156 ((k.1,((),((),((),((),(k.2.1,())))))),((k.2.2.1,(k.2.2.2.1,())),(k.2.2.2.2.1,(k.2.2.2.2.2.1,(r,()))))))
def wac(k:Y1×(Y1×Y2))(v:Int×(Y2×(Y2×Y2))):Tr ((Int×(Y2×(Y2×Y2)))⊕(Y2×(Y2×Y2))):=
 .t (v.1<(length k.2.1:Int))
 (.c _ (wdh k.1 v.1) fun h=>
 .t (!h)
 (.c _ (weh k.1 v.1) fun e=>
 .g ((length v.2.1+1)*24≤140737488355328)<|
 .l (.inl ((wrap .i64 (v.1+1)),((set (v.2.1++ [[]]) (length v.2.1) e),(v.2.2.1,v.2.2.2)))))
 (.c _ (whe k.1 v.1) fun a=>
 .t ((0:Int)<(length a:Int))
 (.g ((length v.2.2.1+1)*24≤140737488355328)<|
 .c _ (whh (k.1,(v.1,((length v.2.2.1),(k.2.1,(k.2.2,(v.2.1,(set (v.2.2.1++ [[]]) (length v.2.2.1) a))))))) (0,v.2.2.2)) fun b=>
 .l (.inl ((wrap .i64 (v.1+1)),(v.2.1,((set (v.2.2.1++ [[]]) (length v.2.2.1) a),b)))))
 (.c _ (wby (k.1,(v.1,(k.2.1,(k.2.2,(v.2.1,(v.2.2.1,a)))))) (0,v.2.2.2)) fun f=>
 .l (.inl ((wrap .i64 (v.1+1)),(v.2.1,(v.2.2.1,f)))))))
 (.l (.inr (v.2.1,(v.2.2.1,v.2.2.2))))
def whj k v:=iter (fun v=>(wac k v).ev) v
abbrev yq163:Keep:=yk [] [5,6,7] (yj [.arr 11,.arr 12,.arr 13]) [(11,.rows 22 3 yi),(12,.rows 22 3 yi),(13,.rows 22 3 yi)]
abbrev yq164{a b c d e g h:Type}(k:a×b×c)(v:d×e×g×h):=((k.1,((),((),((),((),(v.1,())))))),((k.2.1,(k.2.2,())),(v.2.1,(v.2.2.1,(v.2.2.2,())))))
abbrev yq165{a b c d e g:Type}(t:(a×b)×(c×d×e)×g):=(t.1.1,(t.2.1.1,t.2.1.2.1))
abbrev yq166{a b c d e g h i j l m n:Type}(t:(a×b×c×d×e×g×h)×i×j×l×m×n):=(t.1.2.2.2.2.2.1,(t.2.2.1,(t.2.2.2.1,t.2.2.2.2.1)))
def wmj:LD:=yl (wac) yq156 [(0,yq163)] yq10 yq164 yq165 yq166 (fun _ r=>yx 0 yq163 (((),((),((),()))),(r.1,(r.2.1,(r.2.2,())))))
def wsk(e:Y1)(f:List Y1)(b:Y1):Tr Y2:=
 .c _ (whj (b,(e,f)) (0,([],([],[])))) fun a=>
 .g ((length a.1+length a.2.1)*24≤140737488355328)<|
 .g ((length (a.1++a.2.1)+length a.2.2)*24≤140737488355328)<|
 .l ((a.1++a.2.1)++a.2.2)
def wsl b c a:=(wsk b c a).ev
abbrev yq167:RetK:=⟨[.ren 13 0],[.tmp 4],Zah,[(0,.rows 22 3 yi)],[],[]⟩
def wafk:FP prog:=fnP cx func379 [wrx,wzx,wzy] (yj [.agg Zk,.dat y1]) [] [] (yq113 wsk) yq167 yq27 (zOf [(1,[(0,[1000000]),(1,[1000000]),(2,[1000000])])]) [(2,wmi),(2,wdv),(0,wmj)]
def waz(k:Int×(Y1×(Y1×Y2)))(v:Int×Int):Tr (Yr⊕(Int)):=
 .t (v.2<(length k.2.1:Int))
 (.g (inR k.1 (length k.2.2.2))<|
 .g (inR v.2 (length k.2.1))<|
 .g (inR (getD k.2.1 (toNat v.2) 0) (length (getD k.2.2.2 (toNat k.1) [])))<|
 .g (inR k.1 (length k.2.2.2))<|
 .g (inR v.1 (length (getD k.2.2.2 (toNat k.1) [])))<|
 .t ((getD (getD k.2.2.2 (toNat k.1) []) (toNat (getD k.2.1 (toNat v.2) 0)) 0)<(getD (getD k.2.2.2 (toNat k.1) []) (toNat v.1) 0))
 (.g (inR v.2 (length k.2.1))<|
 .l (.inl ((getD k.2.1 (toNat v.2) 0),(wrap .i64 (v.2+1)))))
 (.l (.inl (v.1,(wrap .i64 (v.2+1))))))
 (.l (.inr v.1))
def wds k v:=iter (fun v=>(waz k v).ev) v
abbrev yq168:Keep:=yk [] [1,2,3,7,8] (yj [.dat yi,.dat y1,.box 3 0,.dat yi,.dat yi]) [(3,.cells Zk)]
abbrev yq169:Keep:=yh [7] Zn
abbrev yq170{a b c d e g:Type}(k:a×b×c×d)(v:e×g):=((k.1,(k.2.1,((),(v.1,(v.2,()))))),((k.2.2.1,(k.2.2.2,())),()))
abbrev yq171{a b c d e g h:Type}(t:(a×b×c)×(d×e×g)×h):=(t.1.1,(t.1.2.1,(t.2.1.1,t.2.1.2.1)))
abbrev yq172{a b c d e g h:Type}(t:(a×b×c×d×e×g)×h):=(t.1.2.2.2.1,t.1.2.2.2.2.1)
def wmk:LD:=yl (waz) yq168 [(0,yq169)] yq10 yq170 yq171 yq172 (fun _ r=>yx 0 yq169 ((r,()),()))
def wsm(h:Y1)(b:List Y1)(e:Int)(a:Y1):Tr (Int):=
 .g (inR 0 (length a))<|
 .c _ (wds (e,(a,(h,b))) ((getD a (toNat 0) 0),1)) fun f=>
 .l f
def wsn c e b a:=(wsm c e b a).ev
abbrev yq174{a b c d e g h:Type}{z:Type _}(f:a→b→d→e→z)(x:((a×b×c)×d×e×g)×h):z:=f x.1.1.1 x.1.1.2.1 x.1.2.1 x.1.2.2.1
abbrev yq173:RetK:=yr [.tmp 6] Zn
def wafl:FP prog:=fnP cx func339 [] (yj [.agg Zk,.dat yi,.dat y1]) [] [] (yq174 wsm) yq173 yq2 noZ [(0,wmk)]
def wso(h:Y1)(a:List Y1)(b:Int)(f:Y1):Tr (Int):=
 .g (inR b (length a))<|
 .c _ (wsn h a b f) fun e=>
 .g (inR e (length (getD a (toNat b) [])))<|
 .l (getD (getD a (toNat b) []) (toNat e) 0)
def wsp c e b a:=(wso c e b a).ev
def wafm:FP prog:=fnP cx func374 [wafl] (yj [.agg Zk,.dat yi,.dat y1]) [] [] (yq174 wso) yq173 yq2
def wbz(k:Y1×(Y1×Y2))(v:Int×Int):Tr (Yr⊕(Int)):=
 .t (v.2<(length k.2.2:Int))
 (.c _ (wsp k.2.1 k.2.2 v.2 k.1) fun a=>
 .l (.inl ((wrap .i64 (v.1+a)),(wrap .i64 (v.2+1)))))
 (.l (.inr v.1))
def whk k v:=iter (fun v=>(wbz k v).ev) v
abbrev yq175:Keep:=yk [] [1,2,5,6] (yj [.dat y1,.box 2 0,.dat yi,.dat yi]) [(2,.cells Zk)]
abbrev yq176:Keep:=yh [5] Zn
abbrev yq177{a b c d e:Type}(k:a×b×c)(v:d×e):=((k.1,((),(v.1,(v.2,())))),((k.2.1,(k.2.2,())),()))
abbrev yq178{a b c d e g:Type}(t:(a×b×c×d×e)×g):=(t.1.2.2.1,t.1.2.2.2.1)
def wml:LD:=yl (wbz) yq175 [(0,yq176)] yq10 yq177 yq165 yq178 (fun _ r=>yx 0 yq176 ((r,()),()))
def wsq(e:Y1)(f:List Y1)(a:Y1):Tr (Int):=
 .c _ (whk (a,(e,f)) (0,0)) fun b=>
 .l b
def wsr b c a:=(wsq b c a).ev
def wafn:FP prog:=fnP cx func337 [wafm] (yj [.agg Zk,.dat y1]) [] [] (yq113 wsq) yq40 yq2 noZ [(0,wml)]
def wca(k:Y1×(Y1×Y2))(v:Int×Int):Tr (Yr⊕(Int)):=
 .t (v.2<(length k.1:Int))
 (.g (inR v.2 (length k.1))<|
 .g (inR (getD k.1 (toNat v.2) 0) (length k.2.1))<|
 .l (.inl ((wrap .i64 (v.1+(getD k.2.1 (toNat (getD k.1 (toNat v.2) 0)) 0))),(wrap .i64 (v.2+1)))))
 (.l (.inr v.1))
def whl k v:=iter (fun v=>(wca k v).ev) v
def wmm:LD:=yl (wca) yq175 [(0,yq176)] yq10 yq177 yq165 yq178 (fun _ r=>yx 0 yq176 ((r,()),()))
def wss(e:Y1)(f:List Y1)(a:Y1):Tr (Int):=
 .c _ (whl (a,(e,f)) (0,0)) fun b=>
 .l b
def wsu b c a:=(wss b c a).ev
def wafo:FP prog:=fnP cx func372 [] (yj [.agg Zk,.dat y1]) [] [] (yq113 wss) yq40 yq2 noZ [(0,wmm)]
def wsv(e:Y1)(a:List Y1)(b:Y1):Tr (Int):=
 .c _ (wsr e a b) fun g=>
 .c _ (wsu e a b) fun f=>
 .l (wrap .i64 (g+f))
def wdw b c a:=(wsv b c a).ev
def wzz:FP prog:=fnP cx func333 [wafn,wafo] (yj [.agg Zk,.dat y1]) [] [] (yq113 wsv) yq40 yq2
def wba(k:Y1×(Y1×(Y2×Y2)))(v:Int):Tr ((Int)⊕((Unit)⊕(Nat))):=
 .t (v<(length k.2.2.2:Int))
 (.g (inR v (length k.2.2.2))<|
 .g ((toNat v)<length k.2.2.2)<|
 .c _ (wdw k.2.1 k.2.2.1 (getD k.2.2.2 (toNat v) [])) fun a=>
 .c _ (wdw k.2.1 k.2.2.1 k.1) fun b=>
 .t (a<b)
 (.g (inR v (length k.2.2.2))<|
 .g ((toNat v)<length k.2.2.2)<|
 .l (.inr (.inr (toNat v))))
 (.l (.inl (wrap .i64 (v+1)))))
 (.l (.inr (.inl ())))
def whm k v:=iter (fun v=>(wba k v).ev) v
abbrev yq179:Keep:=yk [] [1,2,6,7] (yj [.dat y1,.box 2 0,.arr 640,.dat yi]) [(2,.cells Zk),(640,.rows 22 3 yi)]
abbrev yq180:Keep:=yk [] [4,5] (yj [.row 640,.dat .bool]) [(640,.rows 22 3 yi)]
abbrev yq181{a b c d e:Type}(k:a×b×c×d)(v:e):=((k.1,((),((),(v,())))),((k.2.1,(k.2.2.1,())),(k.2.2.2,())))
abbrev yq182{a b c d e g h:Type}(t:(a×b)×(c×d×e)×g×h):=(t.1.1,(t.2.1.1,(t.2.1.2.1,t.2.2.1)))
def wmn:LD:=yl (wba) yq179 [(0,yq10)] yq180 yq181 yq182 yq69 (fun k r=>.s _ _ r (fun _=>yx 0 yq10 ((),())) (fun b=>yz yq180 ((b,(true,())),(k.2.2.2,()))))
def wsw(f:Y1)(a:List Y1)(b:Y1):Tr (Bool×Y1):=
 .c _ (wsl f a b) fun e=>
 .c _ (whm (b,(f,(a,e))) 0) fun h=>
 .s _ _ h
 (fun _=>.l (false,[]))
 (fun g=>.l (true,(getD e g [])))
def wmo b c a:=(wsw b c a).ev
abbrev yq183:RetK:=⟨[.pull 4 800000,.ren 31 0,.ren 800000 0],[.tmp 4,.tmp 5],(yj [.arr 0,.dat .bool]),[Zab],[],[]⟩
abbrev yq184{a b:Type}(r:a×b):=(((),(r.1,())),(r.2,()))
def wafp:FP prog:=fnP cx func345 [wafk,wzz] (yj [.agg Zk,.dat y1]) [] [] (yq113 wsw) yq183 yq184 noZ [(0,wmn)]
def wcb(k:Y1×Y2)(v:Int×(Bool×(Y1×Y1))):Tr ((Int×(Bool×(Y1×Y1)))⊕Yq):=
 .t v.2.1
 (.c _ (wmo k.1 k.2 v.2.2.2) fun a=>
 .l (.inl ((wrap .i64 (v.1+1)),(a.1,(v.2.2.2,a.2)))))
 (.l (.inr (v.1,v.2.2.1)))
def wcc k v:=iter (fun v=>(wcb k v).ev) v
abbrev yq185:Keep:=yk [.drop 900707,.pin 7 900707,.pin 9 900709] [2,7,8,9,10] (yj [.box 2 0,.arr 900707,.dat yi,.arr 900709,.dat .bool]) [(2,.cells Zk),(900707,.arr 3 yi),(900709,.arr 3 yi)]
abbrev yq186:Keep:=yk [] [7,8] (yj [.arr 900707,.dat yi]) [(900707,.arr 3 yi)]
abbrev yq187{a b c d e g:Type}(k:a×b)(v:c×d×e×g):=(((),((),(v.1,((),(v.2.1,()))))),((k.1,(k.2,())),(v.2.2.1,(v.2.2.2,()))))
abbrev yq188{a b c d e g h i j l:Type}(t:(a×b×c×d×e×g)×h×i×j×l):=(t.1.2.2.1,(t.1.2.2.2.2.1,(t.2.2.1,t.2.2.2.1)))
def wmp:LD:=yl (wcb) yq185 [(0,yq186)] yq10 yq187 yq75 yq188 (fun _ r=>yx 0 yq186 (((),(r.1,())),(r.2,())))
def wsx(b:Y1)(a:List Y1)(f:Y1):Tr (Int×(Bool×Y1)):=
 .c _ (wsj b a f) fun i=>
 .t (!i)
 (.l (0,(false,[])))
 (.c _ (waj f) fun h=>
 .c _ (wmo b a h) fun g=>
 .c _ (wcc (b,a) (0,(g.1,(h,g.2)))) fun e=>
 .l (e.1,(true,e.2)))
def wsy b c a:=(wsx b c a).ev
abbrev yq189:RetK:=⟨[.ren 15 0,.ren 900707 0],[.tmp 4,.tmp 5,.tmp 6],(yj [.arr 0,.dat yi,.dat .bool]),[Zab],[],[]⟩
abbrev yq190{a b c:Type}(r:a×b×c):=(((),(r.1,(r.2.1,()))),(r.2.2,()))
def wafq:FP prog:=fnP cx func306 [wafj,wfg,wafp] (yj [.agg Zk,.dat y1]) [] [] (yq113 wsx) yq189 yq190 noZ [(0,wmp)]
def whn(k:Y1×Y1)(v:Int):Tr ((Int)⊕((Unit)⊕(Bool))):=
 .t (v<(length k.1:Int))
 (.g (inR v (length k.1))<|
 .g (inR v (length k.2))<|
 .t ((getD k.1 (toNat v) 0) != (getD k.2 (toNat v) 0))
 (.g (inR v (length k.1))<|
 .g (inR v (length k.2))<|
 .l (.inr (.inr ((getD k.1 (toNat v) 0)<(getD k.2 (toNat v) 0)))))
 (.l (.inl (wrap .i64 (v+1)))))
 (.l (.inr (.inl ())))
def wsz k v:=iter (fun v=>(whn k v).ev) v
abbrev yq191:Keep:=yh [0,1,5] (yj [.dat y1,.dat y1,.dat yi])
def wmq:LD:=yl (whn) yq191 [(0,yq10)] yq126 yq127 yq109 yq73 (fun _ r=>.s _ _ r (fun _=>yx 0 yq10 ((),())) (fun b=>yz yq126 ((b,()),())))
def waaa(a:Y1)(b:Y1):Tr (Bool):=
 .t ((length a:Int) != (length b:Int))
 (.l ((length a:Int)<(length b:Int)))
 (.c _ (wsz (a,b) 0) fun f=>
 .s _ _ f
 (fun _=>.l false)
 (fun e=>.l e))
def wafr a b:=(waaa a b).ev
def wafs:FP prog:=fnP cx func380 [] (yj [.dat y1,.dat y1]) [] [] (yq41 waaa) yq112 yq2 noZ [(0,wmq)]
def whp(k:Int×(Y2×Yq))(v:Int):Tr ((Int)⊕(Int)):=
 .t (0<v)
 (.g (inR (wrap .i64 (v-1)) (length k.2.1))<|
 .c _ (wafr k.2.2.2 (getD k.2.1 (toNat (wrap .i64 (v-1))) [])) fun a=>
 .t a
 (.l (.inl (wrap .i64 (v-1))))
 (.l (.inr v)))
 (.l (.inr v))
def wta k v:=iter (fun v=>(whp k v).ev) v
abbrev yq202:Keep:=yk [] [0,3,4,5,6] (yj [.dat yi,.dat y2,.dat yi,.arr 1024,.dat yi]) [(1024,.arr 3 yi)]
abbrev yq203{a b c d e:Type}(k:a×b×c×d)(v:e):=((k.1,(k.2.1,(k.2.2.1,((),(v,()))))),(k.2.2.2,()))
abbrev yq204{a b c d e g:Type}(t:(a×b×c×d)×e×g):=(t.1.1,(t.1.2.1,(t.1.2.2.1,t.2.1)))
def wmr:LD:=yl (whp) yq202 [(2,yq202)] yq10 yq203 yq204 yq65 (fun k r=>yx 2 yq202 ((k.1,(k.2.1,(k.2.2.1,((),(r,()))))),(k.2.2.2,())))
def whq(k:Int)(v:Y2×Int):Tr ((Y2×Int)⊕Y2):=
 .g (0≤k)<|
 .t (v.2<(wrap .i64 ((1:Int)*2^(min (toNat k) (IntKind.bits .i64)))))
 (.c _ (wgy k v.2) fun b=>
 .c _ (wta (k,(v.1,(v.2,b))) (length v.1:Int)) fun a=>
 .g ((0≤a)&&(a≤(length v.1:Int)))<|
 .g ((length ([]:List Y1)+length (List.drop 0 (List.take (toNat a) v.1)))*24≤140737488355328)<|
 .g ((length (([]:List Y1)++(List.drop 0 (List.take (toNat a) v.1)))+length ([b]:List Y1))*24≤140737488355328)<|
 .g ((0≤a)&&(a≤(length v.1:Int)))<|
 .g ((length ((([]:List Y1)++(List.drop 0 (List.take (toNat a) v.1)))++([b]:List Y1))+length (List.drop (toNat a) (List.take (length v.1) v.1)))*24≤140737488355328)<|
 .l (.inl ((((([]:List Y1)++(List.drop 0 (List.take (toNat a) v.1)))++([b]:List Y1))++(List.drop (toNat a) (List.take (length v.1) v.1))),(wrap .i64 (v.2+1)))))
 (.l (.inr v.1))
def wtb k v:=iter (fun v=>(whq k v).ev) v
abbrev yq205:Keep:=yk [.fz 7,.fz 32] [0,3,4] (yj [.dat yi,.dat y2,.dat yi]) []
abbrev yq206:Keep:=yh [3] (yj [.dat y2])
abbrev yq207{a b c:Type}(k:a)(v:b×c):=((k,(v.1,(v.2,()))),())
abbrev yq208{a b c:Type}(t:(a×b)×c):=t.1.1
abbrev yq209{a b c d e:Type}(t:(a×b×c×d)×e):=(t.1.2.1,t.1.2.2.1)
def wms:LD:=yl (whq) yq205 [(0,yq206)] yq10 yq207 yq208 yq209 (fun _ r=>yx 0 yq206 ((r,()),()))
def waab(b:Int):Tr Y2:=
 .c _ (wtb b ([],1)) fun a=>
 .l a
def wtm a:=(waab a).ev
abbrev yq210:RetK:=yr [.tmp 2] (yj [.dat y2])
def waft:FP prog:=fnP cx func347 [wzs,wafs] Zn [] [] (yq1 waab) yq210 yq2 (zOf [(8,[(0,[3,5])])]) [(2,wmr),(0,wms)]
def wcd(k:Y2×(Y1×Y2))(v:Y1×Int):Tr ((Y1×Int)⊕Y1):=
 .t (v.2<(length k.1:Int))
 (.g (inR v.2 (length k.1))<|
 .c _ (wdw k.2.1 k.2.2 (getD k.1 (toNat v.2) [])) fun a=>
 .c _ (wdw k.2.1 k.2.2 v.1) fun b=>
 .t (a<b)
 (.g (inR v.2 (length k.1))<|
 .l (.inl ((getD k.1 (toNat v.2) []),(wrap .i64 (v.2+1)))))
 (.l (.inl (v.1,(wrap .i64 (v.2+1))))))
 (.l (.inr v.1))
def whw k v:=iter (fun v=>(wcd k v).ev) v
abbrev yq211:Keep:=yk [] [1,3,4,5] (yj [.box 1 0,.dat y2,.dat y1,.dat yi]) [Zaa]
abbrev yq212:Keep:=yh [4] (yj [.dat y1])
abbrev yq213{a b c d e:Type}(k:a×b×c)(v:d×e):=(((),(k.1,(v.1,(v.2,())))),((k.2.1,(k.2.2,())),()))
def wmt:LD:=yl (wcd) yq211 [(0,yq212)] yq10 yq213 yq72 yq178 (fun _ r=>yx 0 yq212 ((r,()),()))
def wtn(b:Y1)(f:List Y1):Tr Y1:=
 .c _ (wtm (length b:Int)) fun a=>
 .g (inR 0 (length a))<|
 .c _ (whw (a,(b,f)) ((getD a (toNat 0) []),1)) fun e=>
 .l e
def wto a b:=(wtn a b).ev
abbrev yq214:RetK:=yr [.tmp 2] (yj [.dat y1])
def wafu:FP prog:=fnP cx func307 [waft,wzz] (yj [.agg Zk]) [] [] (yq58 wtn) yq214 yq2 noZ [(0,wmt)]
def wce(k:Int×(Int×(Int×(Int×(Y1×(Int×(Int×(Y1×(Y1×(Y1×Y1))))))))))(v:Int×Y2):Tr ((Int×Y2)⊕Y2):=
 .t (v.1<(length k.2.2.2.2.1:Int))
 (.g (inR v.1 (length v.2))<|
 .g ((toNat v.1)<length v.2)<|
 .g (inR v.1 (length k.2.2.2.2.1))<|
 .g ((length (getD v.2 (toNat v.1) [])+length ([(getD k.2.2.2.2.1 (toNat v.1) 0)]:Y1))*8≤140737488355328)<|
 .g (inR v.1 (length v.2))<|
 .g (((toNat v.1)<length v.2)&&((toNat v.1)=(toNat v.1)))<|
 .l (.inl ((wrap .i64 (v.1+1)),(set v.2 (toNat v.1) ((getD v.2 (toNat v.1) [])++([(getD k.2.2.2.2.1 (toNat v.1) 0)]:Y1))))))
 (.l (.inr v.2))
def wej k v:=iter (fun v=>(wce k v).ev) v
abbrev yq138:Keep:=yk [.ownB 4 0 901340 3 yi,.ownB 4 2 901342 3 yi] [3,4,5,6] (yj [.box 3 0,.box 4 0,.box 5 0,.dat yi]) [(3,.cells Zae),(4,.cells (yj [.arr 901340,.nilsl,.arr 901342,.dat yi])),(5,.cells (yj [.arr 708,.arr 709,.arr 710,.dat yi])),(901340,.arr 3 yi),(901342,.arr 3 yi),(708,.arr 3 yi),(709,.rows 22 3 yi),(710,.arr 3 yi)]
abbrev yq139:Keep:=yk [] [4,5] (yj [.box 4 0,.box 5 0]) [(4,.cells (yj [.arr 901340,.nilsl,.arr 901342,.dat yi])),(5,.cells (yj [.arr 708,.arr 709,.arr 710,.dat yi])),(901340,.arr 3 yi),(901342,.arr 3 yi),(708,.arr 3 yi),(709,.rows 22 3 yi),(710,.arr 3 yi)]
abbrev yq140{a b c d e g h i j l m n o:Type}(k:a×b×c×d×e×g×h×i×j×l×m)(v:n×o):=(((),((),((),(v.1,())))),((k.1,(k.2.1,(k.2.2.1,(k.2.2.2.1,(k.2.2.2.2.1,()))))),(((),((),((),(k.2.2.2.2.2.1,())))),(((),((),((),(k.2.2.2.2.2.2.1,())))),(k.2.2.2.2.2.2.2.1,(k.2.2.2.2.2.2.2.2.1,(k.2.2.2.2.2.2.2.2.2.1,(v.2,(k.2.2.2.2.2.2.2.2.2.2,())))))))))
abbrev yq141{a b c d e g h i j l m n o p q s t u w a19 a20 a21 a22:Type}(t:a×(b×c×d×e×g×h)×(i×j×l×m×n)×(o×p×q×s×t)×u×w×a19×a20×a21×a22):=(t.2.1.1,(t.2.1.2.1,(t.2.1.2.2.1,(t.2.1.2.2.2.1,(t.2.1.2.2.2.2.1,(t.2.2.1.2.2.2.1,(t.2.2.2.1.2.2.2.1,(t.2.2.2.2.1,(t.2.2.2.2.2.1,(t.2.2.2.2.2.2.1,t.2.2.2.2.2.2.2.2.1))))))))))
abbrev yq142{a b c d e g h i j l m n o:Type}(t:(a×b×c×d×e)×g×h×i×j×l×m×n×o):=(t.1.2.2.2.1,t.2.2.2.2.2.2.2.1)
def wmv:LD:=yl (wce) yq138 [(1,yq139)] yq10 yq140 yq141 yq142 (fun k r=>yx 1 yq139 (((),((),())),(((),((),((),(k.2.2.2.2.2.1,())))),(((),((),((),(k.2.2.2.2.2.2.1,())))),(k.2.2.2.2.2.2.2.1,(k.2.2.2.2.2.2.2.2.1,(k.2.2.2.2.2.2.2.2.2.1,(r,(k.2.2.2.2.2.2.2.2.2.2,())))))))))
def wtp(j:Y1)(h:List Y1)(m:Y1)(p:Int)(e:Int)(b:Int)(f:Int)(o:Int)(n:Y1):Tr (Int×(Y1×(Y2×Y1))):=
 .c _ (wmc j h m p) fun a=>
 .t (e==1)
 (.c _ (weh a.2.2.2 b) fun u=>
 .l (a.1,(a.2.1,(a.2.2.1,u))))
 (.t (e==2)
 (.c _ (whe a.2.2.2 b) fun s=>
 .l (a.1,(a.2.1,(a.2.2.1,s))))
 (.t (e==3)
 (.c _ (whe a.2.2.2 b) fun aa=>
 .c _ (weh aa f) fun ab=>
 .l (a.1,(a.2.1,(a.2.2.1,ab))))
 (.t (e==4)
 (.g (inR b (length a.2.1))<|
 .g ((toNat b)<length a.2.1)<|
 .l (a.1,((set a.2.1 (toNat b) f),(a.2.2.1,a.2.2.2))))
 (.t (e==5)
 (.g (inR b (length a.2.2.1))<|
 .g ((toNat b)<length a.2.2.1)<|
 .g (inR f (length (getD a.2.2.1 (toNat b) [])))<|
 .g ((toNat f)<length (getD a.2.2.1 (toNat b) []))<|
 .l (a.1,(a.2.1,((set a.2.2.1 (toNat b) (set (getD a.2.2.1 (toNat b) []) (toNat f) o)),a.2.2.2))))
 (.t (e==6)
 (.g ((length a.2.1+length ([b]:Y1))*8≤140737488355328)<|
 .c _ (wej (e,(b,(f,(o,(n,(0,(a.1,([],([],((a.2.1++([b]:Y1)),a.2.2.2)))))))))) (0,a.2.2.1)) fun y=>
 .l (a.1,((a.2.1++([b]:Y1)),(y,a.2.2.2))))
 (.t (e==7)
 (.c _ (waj n) fun z=>
 .g ((length a.2.2.1+1)*24≤140737488355328)<|
 .l (a.1,(a.2.1,((set (a.2.2.1++ [[]]) (length a.2.2.1) z),a.2.2.2))))
 (.t (e==8)
 (.c _ (wsh j h m p b) fun i=>
 .l (i.1,(i.2.1,(i.2.2.1,i.2.2.2))))
 (.t (e==9)
 (.g ((0≤b)&&(b≤(length a.2.2.1:Int)))<|
 .g (((0:Int)≤(wrap .i64 (b+1)))&&((wrap .i64 (b+1))≤(length a.2.2.1:Int)))<|
 .g (((toNat b)≤(toNat (wrap .i64 (b+1))))&&(((toNat b)+(length a.2.2.1-(toNat (wrap .i64 (b+1)))))*24≤140737488355328))<|
 .l (a.1,(a.2.1,((List.take (toNat b) a.2.2.1++List.drop (toNat (wrap .i64 (b+1))) a.2.2.1),a.2.2.2))))
 (.t (e==10)
 (.c _ (wsy j h m) fun w=>
 .l (a.1,(a.2.1,(a.2.2.1,w.2.2))))
 (.t (e==11)
 (.c _ (wto j h) fun r=>
 .c _ (waj r) fun q=>
 .l (a.1,(a.2.1,(a.2.2.1,q))))
 (.l (a.1,(a.2.1,(a.2.2.1,a.2.2.2))))))))))))))
def wtq h c f a b e g i j:=(wtp h c f a b e g i j).ev
abbrev yq215:RetK:=⟨[.pinB 4 0 1,.pinB 4 1 6,.pinB 4 2 7],[.cell 4 38],(yj [.agg (yj [.arr 1,.arr 6,.arr 7,.dat yi])]),[(1,.arr 3 yi),(6,.rows 22 3 yi),(7,.arr 3 yi)],[],[]⟩
def wafv:FP prog:=fnP cx func224 [wzw,wzx,wzy,wfg,wafi,wafq,wafu] (yj [.agg Zm,.agg Zae]) [] [] (yq129 wtp) yq215 yq135 noZ [(1,wmv)]
def wtr(n:Y1)(j:List Y1)(m:Y1)(b:Int)(e:Int)(f:Int)(g:Int)(h:Int)(i:Y1):Tr (Int×(Bool×(Y1×(Y2×Y1)))):=
 .c _ (wru e f g h i) fun q=>
 .t (!q)
 (.l (0,(false,([],([],[])))))
 (.c _ (wsa n j m b e f g h i) fun p=>
 .t (!p)
 (.l (0,(false,([],([],[])))))
 (.c _ (wtq n j m b e f g h i) fun a=>
 .c _ (wha a.2.1 a.2.2.1 a.2.2.2 (wrap .i64 (b+1))) fun o=>
 .t (!o)
 (.l (0,(false,([],([],[])))))
 (.l ((wrap .i64 (b+1)),(true,(a.2.1,(a.2.2.1,a.2.2.2)))))))
def wts h c f a b e g i j:=(wtr h c f a b e g i j).ev
abbrev yq216:RetK:=⟨[.ownB 4 0 5 3 yi,.ownRB 4 1 7 22 3 yi,.ownB 4 2 8 3 yi,.ren 1217 5,.ren 1222 7,.ren 1223 8],[.cell 4 38,.tmp 5],(yj [.agg (yj [.arr 5,.arr 7,.arr 8,.dat yi]),.dat .bool]),[(5,.arr 3 yi),(7,.rows 22 3 yi),(8,.arr 3 yi)],[],[]⟩
abbrev yq217{a b c d e:Type}(r:a×b×c×d×e):=((((),((),((),(r.1,())))),(r.2.1,())),(r.2.2.1,(r.2.2.2.1,(r.2.2.2.2,()))))
def wahi:FP prog:=fnP cx func147 [wafe,wafg,wafv,wrr] (yj [.agg Zm,.agg Zae]) [] [] (yq129 wtr) yq216 yq217
def wae(_k:Int)(v:Int×(Y1×(Int×(Int×(Y1×(Y2×Yq)))))):Tr ((Int×(Y1×(Int×(Int×(Y1×(Y2×Yq))))))⊕(Y1×(Int×(Int×(Y1×(Y2×Yq)))))):=
 .t (0<v.1)
 (.c _ (wha v.2.2.2.2.1 v.2.2.2.2.2.1 v.2.2.2.2.2.2.2 v.2.2.2.2.2.2.1) fun e=>
 .t e
 (.c _ (wzu v.2.2.2.2.1 v.2.2.2.2.2.1 v.2.1 v.2.2.1 v.2.2.2.1) fun a=>
 .c _ (wts v.2.2.2.2.1 v.2.2.2.2.2.1 v.2.2.2.2.2.2.2 v.2.2.2.2.2.2.1 a.1 a.2.1 a.2.2.1 a.2.2.2.1 a.2.2.2.2.1) fun b=>
 .t b.2.1
 (.l (.inl ((wrap .i64 (v.1-1)),(a.2.2.2.2.2.1,(a.2.2.2.2.2.2.1,(a.2.2.2.2.2.2.2,(b.2.2.1,(b.2.2.2.1,(b.1,b.2.2.2.2)))))))))
 (.l (.inl ((wrap .i64 (v.1-1)),(a.2.2.2.2.2.1,(a.2.2.2.2.2.2.1,(a.2.2.2.2.2.2.2,(v.2.2.2.2.1,(v.2.2.2.2.2.1,(v.2.2.2.2.2.2.1,v.2.2.2.2.2.2.2))))))))))
 (.l (.inr (v.2.1,(v.2.2.1,(v.2.2.2.1,(v.2.2.2.2.1,(v.2.2.2.2.2.1,(v.2.2.2.2.2.2.1,v.2.2.2.2.2.2.2)))))))))
 (.l (.inr (v.2.1,(v.2.2.1,(v.2.2.2.1,(v.2.2.2.2.1,(v.2.2.2.2.2.1,(v.2.2.2.2.2.2.1,v.2.2.2.2.2.2.2))))))))
def waa k v:=iter (fun v=>(wae k v).ev) v
abbrev yq218:Keep:=yk [.fz 577,.fz 578,.fz 3013,.fz 3015,.repB 4 2 900642] [0,2,4,5] (yj [.box 64 0,.box 2 0,.box 4 0,.dat yi]) [Zd,(2,.cells Zx),(4,.cells (yj [.dat y1,.dat y2,.arr 900642,.dat yi])),(900642,.arr 3 yi)]
abbrev yq219:Keep:=yk [] [0,2,4] (yj [.box 64 0,.box 2 0,.box 4 0]) [Zd,(2,.cells Zx),(4,.cells (yj [.dat y1,.dat y2,.arr 900642,.dat yi])),(900642,.arr 3 yi)]
abbrev yq220{a b c d e g h i j:Type}(k:a)(v:b×c×d×e×g×h×i×j):=(((),((),((),(v.1,())))),((v.2.1,(v.2.2.1,(v.2.2.2.1,()))),(((),((),((),(k,())))),((v.2.2.2.2.1,(v.2.2.2.2.2.1,((),(v.2.2.2.2.2.2.1,())))),(v.2.2.2.2.2.2.2,())))))
abbrev yq221{a b c d e g h i:Type}(t:a×b×(c×d×e×g×h)×i):=t.2.2.1.2.2.2.1
abbrev yq222{a b c d e g h i j l m n o p q s t:Type}(t:(a×b×c×d×e)×(g×h×i×j)×l×(m×n×o×p×q)×s×t):=(t.1.2.2.2.1,(t.2.1.1,(t.2.1.2.1,(t.2.1.2.2.1,(t.2.2.2.1.1,(t.2.2.2.1.2.1,(t.2.2.2.1.2.2.2.1,t.2.2.2.2.1)))))))
def wmw:LD:=yl (wae) yq218 [(0,yq219)] yq10 yq220 yq221 yq222 (fun k r=>yx 0 yq219 (((),((),((),()))),((r.1,(r.2.1,(r.2.2.1,()))),(((),((),((),(k,())))),((r.2.2.2.1,(r.2.2.2.2.1,((),(r.2.2.2.2.2.1,())))),(r.2.2.2.2.2.2,()))))))
def wmx(ae:Y1)(aa:Int)(ad:Int):Tr (Y1×(Y2×(Int×(Y1×(Y1×Yr))))):=
 .c _ (wlr 6 ae aa ad) fun a=>
 .c _ (wgv a.1 a.2.1) fun ab=>
 .t ab
 (.c _ (wgw 4 a.2.2.1 a.2.2.2.1 a.2.2.2.2) fun m=>
 .t (!m.1)
 (.g ((0:Int)≤(length a.1:Int))<|
 .c _ (ww (wrap .i64 ((1:Int)*2^(min (toNat (length a.1:Int)) (IntKind.bits .i64)))) m.2.1 m.2.2.1 m.2.2.2) fun z=>
 .c _ (wgy (length a.1:Int) z.1) fun ac=>
 .c _ (ww 4 z.2.1 z.2.2.1 z.2.2.2) fun q=>
 .c _ (waa 0 (q.1,(q.2.1,(q.2.2.1,(q.2.2.2,(a.1,(a.2.1,(0,ac)))))))) fun b=>
 .c _ (ww 48 b.1 b.2.1 b.2.2.1) fun h=>
 .t (h.1==0)
 (.c _ (wu ([(-1),1000,1001]:Y1) h.2.1 h.2.2.1 h.2.2.2) fun w=>
 .l (b.2.2.2.1,(b.2.2.2.2.1,(w.1,(b.2.2.2.2.2.2,(w.2.1,(w.2.2.1,w.2.2.2)))))))
 (.t (h.1==1)
 (.c _ (wu ([0,(-1),7]:Y1) h.2.1 h.2.2.1 h.2.2.2) fun n=>
 .g ((length b.2.2.2.2.2.2+length ([n.1]:Y1))*8≤140737488355328)<|
 .l (b.2.2.2.1,(b.2.2.2.2.1,(b.2.2.2.2.2.1,((b.2.2.2.2.2.2++([n.1]:Y1)),(n.2.1,(n.2.2.1,n.2.2.2)))))))
 (.l (b.2.2.2.1,(b.2.2.2.2.1,(b.2.2.2.2.2.1,(b.2.2.2.2.2.2,(h.2.1,(h.2.2.1,h.2.2.2)))))))))
 (.c _ (ww 4 m.2.1 m.2.2.1 m.2.2.2) fun r=>
 .c _ (waa 0 (r.1,(r.2.1,(r.2.2.1,(r.2.2.2,(a.1,(a.2.1,(0,[])))))))) fun f=>
 .c _ (ww 48 f.1 f.2.1 f.2.2.1) fun i=>
 .t (i.1==0)
 (.c _ (wu ([(-1),1000,1001]:Y1) i.2.1 i.2.2.1 i.2.2.2) fun s=>
 .l (f.2.2.2.1,(f.2.2.2.2.1,(s.1,(f.2.2.2.2.2.2,(s.2.1,(s.2.2.1,s.2.2.2)))))))
 (.t (i.1==1)
 (.c _ (wu ([0,(-1),7]:Y1) i.2.1 i.2.2.1 i.2.2.2) fun o=>
 .g ((length f.2.2.2.2.2.2+length ([o.1]:Y1))*8≤140737488355328)<|
 .l (f.2.2.2.1,(f.2.2.2.2.1,(f.2.2.2.2.2.1,((f.2.2.2.2.2.2++([o.1]:Y1)),(o.2.1,(o.2.2.1,o.2.2.2)))))))
 (.l (f.2.2.2.1,(f.2.2.2.2.1,(f.2.2.2.2.2.1,(f.2.2.2.2.2.2,(i.2.1,(i.2.2.1,i.2.2.2))))))))))
 (.c _ (ww 4 a.2.2.1 a.2.2.2.1 a.2.2.2.2) fun u=>
 .c _ (waa 0 (u.1,(u.2.1,(u.2.2.1,(u.2.2.2,(a.1,(a.2.1,(0,[])))))))) fun e=>
 .c _ (ww 48 e.1 e.2.1 e.2.2.1) fun j=>
 .t (j.1==0)
 (.c _ (wu ([(-1),1000,1001]:Y1) j.2.1 j.2.2.1 j.2.2.2) fun y=>
 .l (e.2.2.2.1,(e.2.2.2.2.1,(y.1,(e.2.2.2.2.2.2,(y.2.1,(y.2.2.1,y.2.2.2)))))))
 (.t (j.1==1)
 (.c _ (wu ([0,(-1),7]:Y1) j.2.1 j.2.2.1 j.2.2.2) fun p=>
 .g ((length e.2.2.2.2.2.2+length ([p.1]:Y1))*8≤140737488355328)<|
 .l (e.2.2.2.1,(e.2.2.2.2.1,(e.2.2.2.2.2.1,((e.2.2.2.2.2.2++([p.1]:Y1)),(p.2.1,(p.2.2.1,p.2.2.2)))))))
 (.l (e.2.2.2.1,(e.2.2.2.2.1,(e.2.2.2.2.2.1,(e.2.2.2.2.2.2,(j.2.1,(j.2.2.1,j.2.2.2)))))))))
def waac b c a:=(wmx b c a).ev
abbrev yq223:RetK:=⟨[.ren 900642 1],[.cell 2 38],(yj [.agg (yj [.dat y1,.dat y2,.arr 1,.dat yi])]),[(1,.arr 3 yi),Zd],[(0,0,64)],[]⟩
abbrev yq224{a b c d e g h:Type}(r:a×b×c×d×e×g×h):=(((r.1,(r.2.1,((),(r.2.2.1,())))),()),(r.2.2.2.1,((r.2.2.2.2.1,(r.2.2.2.2.2.1,(r.2.2.2.2.2.2,()))),())))
def wahj:FP prog:=fnP cx func79 [waez,wrk,wzr,wdl,wzs,wrr,wafd,wahi,wfx] (yj [.box 64 0]) [Zd] [.arg 0] (yq4 wmx) yq223 yq224 (zOf [(8,[(0,[70000577,70000578])]),(13,[(2,[57])]),(15,[(0,[60000003])])]) [(0,wmw)]
def wtu(b:Y1):Tr (Y1×(Y2×Yq)):=
 .c _ (waac b 0 0) fun a=>
 .l (a.1,(a.2.1,(a.2.2.1,a.2.2.2.1)))
def waad a:=(wtu a).ev
abbrev yq225:RetK:=⟨[.ren 513 1],[.cell 2 38],(yj [.agg (yj [.dat y1,.dat y2,.arr 1,.dat yi])]),[(1,.arr 3 yi)],[],[]⟩
abbrev yq226{a b c d:Type}(r:a×b×c×d):=(((r.1,(r.2.1,((),(r.2.2.1,())))),()),(r.2.2.2,()))
def wahk:FP prog:=fnP cx func59 [wahj] (yj [.dat (.slice (.int .u8))]) [] [] (yq1 wtu) yq225 yq226
def wtv(b:Y1):Tr (Y1×(Y2×Yq)):=
 .c _ (waad b) fun a=>
 .l (a.1,(a.2.1,(a.2.2.1,a.2.2.2)))
def wtw a:=(wtv a).ev
abbrev yq227:RetK:=⟨[.ren 257 1],[.cell 2 38],(yj [.agg (yj [.dat y1,.dat y2,.arr 1,.dat yi])]),[(1,.arr 3 yi)],[],[]⟩
def wahl:FP prog:=fnP cx func38 [wahk] (yj [.dat (.slice (.int .u8))]) [] [] (yq1 wtv) yq227 yq226
def wmy(a:Int)(c:Int)(b:Int):Tr (Bool):=
 .t (c≤a)
 (.l (a≤b))
 (.l false)
def wdi b c a:=(wmy b c a).ev
def wfj:FP prog:=fnP cx func115 [] (yj [.dat yi,.dat yi,.dat yi]) [] [] (yq99 wmy) yq98 yq2
def wcf(k:Y1×(((HL [yi]→Option (Bool)))×Int))(v:Int):Tr ((Int)⊕((Unit)⊕(Int))):=
 .t (v<k.2.2)
 (.g (inR v (length k.1))<|
 .c _ (k.2.1 ((getD k.1 (toNat v) 0),())) fun a=>
 .t a
 (.l (.inr (.inr v)))
 (.l (.inl (wrap .i64 (v+1)))))
 (.l (.inr (.inl ())))
def whx k v:=iter (fun v=>(wcf k v).ev) v
abbrev yq228:Keep:=yh [0,1,7,8] (yj [.dat y1,.clo [yi] .bool,.dat yi,.dat yi])
abbrev yq229:Keep:=yh [4] Zn
def wmz:LD:=yl (wcf) yq228 [(0,yq10)] yq229 yq103 yq104 yq69 (fun _ r=>.s _ _ r (fun _=>yx 0 yq10 ((),())) (fun b=>yz yq229 ((b,()),())))
def wtx(a:Y1)(f:(HL [yi]→Option (Bool))):Tr (Int):=
 .c _ (whx (a,(f,(length a:Int))) 0) fun b=>
 .s _ _ b
 (fun _=>.l (-1))
 (fun e=>.l e)
def wty a b:=(wtx a b).ev
def wahm:FP prog:=fnP cx func173 [] (yj [.dat y1,.clo [yi] .bool]) [] [] (yq41 wtx) yq40 yq2 noZ [(0,wmz)]
def wtz(b:Y1)(e:(HL [yi]→Option (Bool))):Tr (Bool):=
 .c _ (wty b e) fun a=>
 .l (0≤a)
def wna a b:=(wtz a b).ev
def wnb:FP prog:=fnP cx func98 [wahm] (yj [.dat y1,.clo [yi] .bool]) [] [] (yq41 wtz) yq112 yq2
def wua(b:Int)(f:Int)(a:Int):Tr (Bool):=
 .c _ (wdi b f a) fun e=>
 .l (!e)
def waae b c a:=(wua b c a).ev
abbrev yq230{a b c d e g h:Type}{z:Type _}(f:a→b→d→z)(x:(a×(b×c)×(d×e)×g)×h):z:=f x.1.1 x.1.2.1.1 x.1.2.2.1.1
def wahn:FP prog:=fnP cx func239 [wfj] (yj [.dat yi,.ptr Zn,.ptr Zn]) [] [] (yq230 wua) yq112 yq2
def wub(h:Y1)(a:Int)(b:Int):Tr (Bool):=
 .c _ (wna h (fun g=>Option.bind (waae g.1 a b) fun f=>some f)) fun e=>
 .l (!e)
def wnc b c a:=(wub b c a).ev
def waaf:FP prog:=fnP cx func162 [wnb,wnb,wahn] (yj [.dat y1,.dat yi,.dat yi]) [] [] (yq99 wub) yq98 yq2
def wcg(k:Y2×(((HL [y1]→Option (Bool)))×Int))(v:Int):Tr ((Int)⊕((Unit)⊕(Int))):=
 .t (v<k.2.2)
 (.g (inR v (length k.1))<|
 .c _ (k.2.1 ((getD k.1 (toNat v) []),())) fun a=>
 .t a
 (.l (.inr (.inr v)))
 (.l (.inl (wrap .i64 (v+1)))))
 (.l (.inr (.inl ())))
def whz k v:=iter (fun v=>(wcg k v).ev) v
abbrev yq231:Keep:=yh [0,1,7,8] (yj [.dat y2,.clo [y1] .bool,.dat yi,.dat yi])
def wnd:LD:=yl (wcg) yq231 [(0,yq10)] yq229 yq103 yq104 yq69 (fun _ r=>.s _ _ r (fun _=>yx 0 yq10 ((),())) (fun b=>yz yq229 ((b,()),())))
def wuc(a:List Y1)(f:(HL [y1]→Option (Bool))):Tr (Int):=
 .c _ (whz (a,(f,(length a:Int))) 0) fun b=>
 .s _ _ b
 (fun _=>.l (-1))
 (fun e=>.l e)
def wne a b:=(wuc a b).ev
def waag:FP prog:=fnP cx func235 [] (yj [.dat y2,.clo [y1] .bool]) [] [] (yq41 wuc) yq40 yq2 noZ [(0,wnd)]
def wud(b:List Y1)(e:(HL [y1]→Option (Bool))):Tr (Bool):=
 .c _ (wne b e) fun a=>
 .l (0≤a)
def wue a b:=(wud a b).ev
def waah:FP prog:=fnP cx func163 [waag] (yj [.dat y2,.clo [y1] .bool]) [] [] (yq41 wud) yq112 yq2
def wuf(a:Y1)(e:Y1)(_f:List Y1):Tr (Bool):=
 .t ((length a:Int) != (length e:Int))
 (.l true)
 (.c _ (wnc a 0 99) fun b=>
 .l (!b))
def wug b c a:=(wuf b c a).ev
abbrev yq233{a b c d e g:Type}{z:Type _}(f:a→b→c→z)(x:(a×(b×c×d)×e)×g):z:=f x.1.1 x.1.2.1.1 x.1.2.1.2.1
abbrev yq232:RetK:=yr [.tmp 3] Zag
def waho:FP prog:=fnP cx func164 [waaf] (yj [.dat y1,.ptr Zk]) [] [] (yq233 wuf) yq232 yq2
def wuh(b:Y1)(a:List Y1):Tr (Bool):=
 .c _ (wdi (length b:Int) 1 7) fun h=>
 .t h
 (.c _ (wnc b 0 99) fun f=>
 .t f
 (.t ((length a:Int)≤(7:Int))
 (.c _ (wue a (fun g=>Option.bind (wug g.1 b a) fun i=>some i)) fun e=>
 .l (!e))
 (.l false))
 (.l false))
 (.l false)
def wdt a b:=(wuh a b).ev
def wnf:FP prog:=fnP cx func92 [wfj,waaf,waah,waah,waho] (yj [.agg Zk]) [] [] (yq58 wuh) yq0 yq2
end
end Go.Proofs.YteiekijgoifhoaaGreatDoor
