import Derived.Test.YteiekijgoifhoaaGreatDoorC4
import Derived.Test.YteiekijgoifhoaaGreatDoorProg
namespace Go.Proofs.YteiekijgoifhoaaGreatDoor
noncomputable section
open Go.Proofs.Tryz
open List (length getD set)
open Int (toNat)
open IntKind (wrap)
def wcx(k:Y1×Int)(v:Int×Int):Tr (Yr⊕(Int)):=
 .t (v.2<k.2)
 (.g (inR v.2 (length k.1))<|
 .g ((0:Int)≤(getD k.1 (toNat v.2) 0))<|
 .l (.inl ((wrap .u64 (BitVec.toNat ((BitVec.ofInt Zf v.1)||| (BitVec.ofInt Zf (wrap .u64 ((1:Int)*2^(min (toNat (getD k.1 (toNat v.2) 0)) Zf))))))),(wrap .i64 (v.2+1)))))
 (.l (.inr v.1))
def wjq k v:=iter (fun v=>(wcx k v).ev) v
abbrev yq453:Keep:=yh [3,6,7,8] (yj [.dat (.int .u64),.dat y1,.dat yi,.dat yi])
abbrev yq454:Keep:=yh [3] (yj [.dat (.int .u64)])
def wpr:LD:=yl (wcx) yq453 [(0,yq454)] yq10 yq349 yq209 yq350 (fun _ r=>yx 0 yq454 ((r,()),()))
def wyr(a:Y1):Tr (Int):=
 .c _ (wjq (a,(length a:Int)) (0,0)) fun b=>
 .l b
def wps a:=(wyr a).ev
def wys:FP prog:=fnP cx func231 [] (yj [.dat y1]) [] [] (yq1 wyr) yq288 yq2 noZ [(0,wpr)]
def T_zq(a:Y1)(e:Y1)(f:List Y1)(b:Int):Tr ((Y1×Yw)⊕(Y1×Yw)):=
 .c _ (wep e f a) fun h=>
 .t (h<b)
 (.g (0<length a)<|
 .l (.inr (a,(e,(f,b)))))
 (.l (.inl (a,(e,(f,b)))))
def F_zq c e b a:=(T_zq c e b a).ev
def K_zq:RetK:= {acts:=[],res:=[.tmp 5],sh:=Zag,obs:=[Zz,(65,.cells Zk),(66,.cells Zn),(67,.cells (yj [.nilsl]))],pins:=[(0,0,64),(1,0,65),(2,0,66),(3,0,67)]}
def waec:RetK:= {acts:=[],res:=[.tmp 5],sh:=Zag,obs:=[Zz,(65,.cells Zk),(66,.cells Zn),(67,.cells (yj [.arr 64]))],pins:=[(0,0,64),(1,0,65),(2,0,66),(3,0,67)]}
def D_zq:FD:= {(yd (yj [.arr 64,.box 65 0,.box 66 0,.box 67 0]) [Zz,(65,.cells Zk),(66,.cells Zn),(67,.cells (yj [.nilsl]))] [.arg 0,.arg 1,.arg 2,.arg 3] ((Y1×Yw)⊕(Y1×Yw)) (fun x=>F_zq x.2.1 x.2.2.1.1 x.2.2.1.2.1 x.2.2.2.1.1) (fun r=>match r with| .inl a=>([.dat .bool true],[(64,.arr 3 yi a.1),(65,.cells [.dat y1 a.2.1,.dat y2 a.2.2.1]),(66,.cells [.dat yi a.2.2.2]),(67,.cells [.nilsl])])| .inr b=>([.dat .bool false],[(64,.arr 3 yi b.1),(65,.cells [.dat y1 b.2.1,.dat y2 b.2.2.1]),(66,.cells [.dat yi b.2.2.2]),(67,.cells [.arr 64])]))) with
 sp:=fun r=>.s _ _ r (fun a=>.l ([.dat .bool true],[(64,.arr 3 yi a.1),(65,.cells [.dat y1 a.2.1,.dat y2 a.2.2.1]),(66,.cells [.dat yi a.2.2.2]),(67,.cells [.nilsl])])) (fun b=>.l ([.dat .bool false],[(64,.arr 3 yi b.1),(65,.cells [.dat y1 b.2.1,.dat y2 b.2.2.1]),(66,.cells [.dat yi b.2.2.2]),(67,.cells [.arr 64])]))
 spok:=fun r=>by cases r<;>rfl}
theorem wakq:FDok prog (156,D_zq):=fn_ok2 mixed (env_ok (fdC wov.2 fdN)) tabOK (fnMk2 D_zq (envOf [wov.1]) K_zq waec noZ [] ((f156.body).getD .skip) (fun x=>T_zq x.2.1 x.2.2.1.1 x.2.2.1.2.1 x.2.2.2.1.1) (fun r=>match r with| .inl a=>.inl ((true,()),(a.1,((a.2.1,(a.2.2.1,())),((a.2.2.2,()),(((),()),())))))| .inr b=>.inr ((false,()),(b.1,((b.2.1,(b.2.2.1,())),((b.2.2.2,()),(((),()),())))))) func156 (lpMk (by kernel_rfl) lpN) (fun _=>by kernel_rfl) fun r=>by cases r<;>rfl)
def G_zq:FP prog:=⟨_,wakq⟩
def wyt(h:Y1)(a:Int)(b:Int):Tr Y1:=
 .c _ (wps h) fun f=>
 .g (0≤a)<|
 .g (0≤b)<|
 .c _ (wdy (wrap .u64 (BitVec.toNat ((BitVec.ofInt Zf (wrap .u64 (BitVec.toNat ((BitVec.ofInt Zf f)&&& ~~~(BitVec.ofInt Zf (wrap .u64 ((1:Int)*2^(min (toNat a) Zf))))))))||| (BitVec.ofInt Zf (wrap .u64 ((1:Int)*2^(min (toNat b) Zf)))))))) fun e=>
 .l e
def wyu b c a:=(wyt b c a).ev
abbrev yq466:RetK:=⟨[.ren 960 0],[.tmp 6],Zah,[Zab],[],[]⟩
def waed:FP prog:=fnP cx func234 [wys,wnt] (yj [.dat y1,.dat yi,.dat yi]) [] [] (yq99 wyt) yq466 yq27
def wcy(k:Y1×(Int×Yr))(v:Int×Yw):Tr ((Int×Yw)⊕(Yw⊕(Y1×(Y2×Yq)))):=
 .t (v.1<k.2.2.2)
 (.c _ (wfl k.2.1 v.1) fun e=>
 .t (!e)
 (.g (0≤v.1)<|
 .c _ (wdy (wrap .u64 (BitVec.toNat ((BitVec.ofInt Zf k.2.1)||| (BitVec.ofInt Zf (wrap .u64 ((1:Int)*2^(min (toNat v.1) Zf)))))))) fun h=>
 .c _ (F_zq h v.2.1 v.2.2.1 v.2.2.2) fun f=>
 .s _ _ f
 (fun b=>.l (.inl ((wrap .i64 (v.1+1)),(b.2.1,(b.2.2.1,b.2.2.2)))))
 (fun a=>.l (.inr (.inr (a.2.1,(a.2.2.1,(a.2.2.2,a.1)))))))
 (.l (.inl ((wrap .i64 (v.1+1)),(v.2.1,(v.2.2.1,v.2.2.2))))))
 (.l (.inr (.inl (v.2.1,(v.2.2.1,v.2.2.2)))))
def wjr k v:=iter (fun v=>(wcy k v).ev) v
abbrev yq455:Keep:=yk [] [1,2,6,7,19,20] (yj [.dat y1,.fn 156 Zv,.dat (.int .u64),.dat yi,.dat yi,.dat yi]) [(64,.cells Zk),(65,.cells Zn),(66,.cells (yj [.nilsl]))]
abbrev yq456:Keep:=yk [] [1,2,6,7] (yj [.dat y1,.fn 156 Zv,.dat (.int .u64),.dat yi]) [(64,.cells Zk),(65,.cells Zn),(66,.cells (yj [.nilsl]))]
abbrev yq457:Keep:=yk [] [2] (yj [.fn 156 Zv]) [(64,.cells Zk),(65,.cells Zn),(66,.cells (yj [.arr 2112])),Zad]
abbrev yq458{a b c d e g h i:Type}(k:a×b×c×d)(v:e×g×h×i):=((k.1,(((),((),((),()))),(k.2.1,(k.2.2.1,(k.2.2.2,(v.1,())))))),((v.2.1,(v.2.2.1,())),((v.2.2.2,()),(((),()),()))))
abbrev yq459{a b c d e g h:Type}(t:(a×b×c×d×e×g)×h):=(t.1.1,(t.1.2.2.1,(t.1.2.2.2.1,t.1.2.2.2.2.1)))
abbrev yq460{a b c d e g h i j l m n o:Type}(t:(a×b×c×d×e×g×h)×(i×j×l)×(m×n)×o):=(t.1.2.2.2.2.2.1,(t.2.1.1,(t.2.1.2.1,t.2.2.1.1)))
def wfc:LD:=yl (wcy) yq455 [(0,yq456)] yq457 yq458 yq459 yq460 (fun k r=>.s _ _ r (fun a=>yx 0 yq456 ((k.1,(((),((),((),()))),(k.2.1,(k.2.2.1,())))),((a.1,(a.2.1,())),((a.2.2,()),(((),()),()))))) (fun b=>yz yq457 ((((),((),((),()))),()),((b.1,(b.2.1,())),((b.2.2.1,()),(((),()),(b.2.2.2,())))))))
def wcz(k:Y1×(Int×(Int×(Y1×Int))))(v:Int×Yw):Tr ((Int×Yw)⊕(Yw⊕(Y1×(Y2×Yq)))):=
 .t (v.1<k.2.2.2.2)
 (.g (inR v.1 (length k.2.2.2.1))<|
 .t ((1:Int)<(length k.1:Int))
 (.g ((0:Int)≤(getD k.2.2.2.1 (toNat v.1) 0))<|
 .c _ (wdy (wrap .u64 (BitVec.toNat ((BitVec.ofInt Zf k.2.1)&&& ~~~(BitVec.ofInt Zf (wrap .u64 ((1:Int)*2^(min (toNat (getD k.2.2.2.1 (toNat v.1) 0)) Zf)))))))) fun e=>
 .c _ (F_zq e v.2.1 v.2.2.1 v.2.2.2) fun f=>
 .s _ _ f
 (fun b=>.l (.inl ((wrap .i64 (v.1+1)),(b.2.1,(b.2.2.1,b.2.2.2)))))
 (fun a=>.l (.inr (.inr (a.2.1,(a.2.2.1,(a.2.2.2,a.1)))))))
 (.l (.inl ((wrap .i64 (v.1+1)),(v.2.1,(v.2.2.1,v.2.2.2))))))
 (.l (.inr (.inl (v.2.1,(v.2.2.1,v.2.2.2)))))
def wjs k v:=iter (fun v=>(wcz k v).ev) v
abbrev yq461:Keep:=yk [] [1,2,6,7,38,39,40] (yj [.dat y1,.fn 156 Zv,.dat (.int .u64),.dat yi,.dat y1,.dat yi,.dat yi]) [(64,.cells Zk),(65,.cells Zn),(66,.cells (yj [.nilsl]))]
abbrev yq462:Keep:=yk [] [2] (yj [.fn 156 Zv]) [(64,.cells Zk),(65,.cells Zn),(66,.cells (yj [.arr 3392])),(3392,.arr 3 yi)]
abbrev yq463{a b c d e g h i j:Type}(k:a×b×c×d×e)(v:g×h×i×j):=((k.1,(((),((),((),()))),(k.2.1,(k.2.2.1,(k.2.2.2.1,(k.2.2.2.2,(v.1,()))))))),((v.2.1,(v.2.2.1,())),((v.2.2.2,()),(((),()),()))))
abbrev yq464{a b c d e g h i:Type}(t:(a×b×c×d×e×g×h)×i):=(t.1.1,(t.1.2.2.1,(t.1.2.2.2.1,(t.1.2.2.2.2.1,t.1.2.2.2.2.2.1))))
abbrev yq465{a b c d e g h i j l m n o p:Type}(t:(a×b×c×d×e×g×h×i)×(j×l×m)×(n×o)×p):=(t.1.2.2.2.2.2.2.1,(t.2.1.1,(t.2.1.2.1,t.2.2.1.1)))
def wfd:LD:=yl (wcz) yq461 [(2,yq456)] yq462 yq463 yq464 yq465 (fun k r=>.s _ _ r (fun a=>yx 2 yq456 ((k.1,(((),((),((),()))),(k.2.1,(k.2.2.1,())))),((a.1,(a.2.1,())),((a.2.2,()),(((),()),()))))) (fun b=>yz yq462 ((((),((),((),()))),()),((b.1,(b.2.1,())),((b.2.2.1,()),(((),()),(b.2.2.2,())))))))
def wdc(k:Y1×(Int×(Int×(Int×(Y1×(Int×Yr))))))(v:Int×Yw):Tr ((Int×Yw)⊕(Yw⊕(Y1×(Y2×Yq)))):=
 .t (v.1<k.2.2.2.2.2.2.2)
 (.c _ (wfl k.2.1 v.1) fun e=>
 .t (!e)
 (.c _ (wyu k.1 k.2.2.2.1 v.1) fun g=>
 .c _ (F_zq g v.2.1 v.2.2.1 v.2.2.2) fun f=>
 .s _ _ f
 (fun b=>.l (.inl ((wrap .i64 (v.1+1)),(b.2.1,(b.2.2.1,b.2.2.2)))))
 (fun a=>.l (.inr (.inr (a.2.1,(a.2.2.1,(a.2.2.2,a.1)))))))
 (.l (.inl ((wrap .i64 (v.1+1)),(v.2.1,(v.2.2.1,v.2.2.2))))))
 (.l (.inr (.inl (v.2.1,(v.2.2.1,v.2.2.2)))))
def wjt k v:=iter (fun v=>(wdc k v).ev) v
abbrev yq467:Keep:=yk [] [1,2,6,7,12,58,59,60,64,65] (yj [.dat y1,.fn 156 Zv,.dat (.int .u64),.dat yi,.dat yi,.dat y1,.dat yi,.dat yi,.dat yi,.dat yi]) [(64,.cells Zk),(65,.cells Zn),(66,.cells (yj [.nilsl]))]
abbrev yq468:Keep:=yk [] [1,2,6,7,58,59,60] (yj [.dat y1,.fn 156 Zv,.dat (.int .u64),.dat yi,.dat y1,.dat yi,.dat yi]) [(64,.cells Zk),(65,.cells Zn),(66,.cells (yj [.nilsl]))]
abbrev yq469:Keep:=yk [] [2] (yj [.fn 156 Zv]) [(64,.cells Zk),(65,.cells Zn),(66,.cells (yj [.arr 4928])),(4928,.arr 3 yi)]
abbrev yq470{a b c d e g h i j l m n:Type}(k:a×b×c×d×e×g×h×i)(v:j×l×m×n):=((k.1,(((),((),((),()))),(k.2.1,(k.2.2.1,(k.2.2.2.1,(k.2.2.2.2.1,(k.2.2.2.2.2.1,(k.2.2.2.2.2.2.1,(k.2.2.2.2.2.2.2,(v.1,())))))))))),((v.2.1,(v.2.2.1,())),((v.2.2.2,()),(((),()),()))))
abbrev yq471{a b c d e g h i j l m:Type}(t:(a×b×c×d×e×g×h×i×j×l)×m):=(t.1.1,(t.1.2.2.1,(t.1.2.2.2.1,(t.1.2.2.2.2.1,(t.1.2.2.2.2.2.1,(t.1.2.2.2.2.2.2.1,(t.1.2.2.2.2.2.2.2.1,t.1.2.2.2.2.2.2.2.2.1)))))))
abbrev yq472{a b c d e g h i j l m n o p q s t:Type}(t:(a×b×c×d×e×g×h×i×j×l×m)×(n×o×p)×(q×s)×t):=(t.1.2.2.2.2.2.2.2.2.2.1,(t.2.1.1,(t.2.1.2.1,t.2.2.1.1)))
def wfe:LD:=yl (wdc) yq467 [(6,yq468)] yq469 yq470 yq471 yq472 (fun k r=>.s _ _ r (fun a=>yx 6 yq468 ((k.1,(((),((),((),()))),(k.2.1,(k.2.2.1,(k.2.2.2.2.1,(k.2.2.2.2.2.1,(k.2.2.2.2.2.2.1,()))))))),((a.1,(a.2.1,())),((a.2.2,()),(((),()),()))))) (fun b=>yz yq469 ((((),((),((),()))),()),((b.1,(b.2.1,())),((b.2.2.1,()),(((),()),(b.2.2.2,())))))))
def wdd(k:Y1×(Int×(Int×(Y1×Int))))(v:Int×Yw):Tr ((Int×Yw)⊕(Yw⊕(Y1×(Y2×Yq)))):=
 .t (v.1<k.2.2.2.2)
 (.g (inR v.1 (length k.2.2.2.1))<|
 .c _ (wjt (k.1,(k.2.1,(k.2.2.1,((getD k.2.2.2.1 (toNat v.1) 0),(k.2.2.2.1,(k.2.2.2.2,(v.1,k.2.2.1))))))) (0,(v.2.1,(v.2.2.1,v.2.2.2)))) fun e=>
 .s _ _ e
 (fun b=>.l (.inl ((wrap .i64 (v.1+1)),(b.1,(b.2.1,b.2.2)))))
 (fun a=>.l (.inr (.inr (a.1,(a.2.1,(a.2.2.1,a.2.2.2)))))))
 (.l (.inr (.inl (v.2.1,(v.2.2.1,v.2.2.2)))))
def wju k v:=iter (fun v=>(wdd k v).ev) v
abbrev yq473:Keep:=yk [] [2] (yj [.fn 156 Zv]) [(64,.cells Zk),(65,.cells Zn),(66,.cells (yj [.nilsl]))]
def wff:LD:=yl (wdd) yq468 [(4,yq473)] yq469 yq463 yq464 yq465 (fun _ r=>.s _ _ r (fun a=>yx 4 yq473 ((((),((),((),()))),()),((a.1,(a.2.1,())),((a.2.2,()),(((),()),()))))) (fun b=>yz yq469 ((((),((),((),()))),()),((b.1,(b.2.1,())),((b.2.2.1,()),(((),()),(b.2.2.2,())))))))
def wyv(g:Y1)(_w:List Y1)(a:Y1)(n:Y1)(o:List Y1)(q:Int):Tr (Yw⊕(Y1×(Y2×Yq))):=
 .c _ (wps a) fun j=>
 .c _ (wjr (a,(j,((length g:Int),(length g:Int)))) (0,(n,(o,q)))) fun p=>
 .s _ _ p
 (fun h=>.c _ (wjs (a,(j,((length g:Int),(a,(length a:Int))))) (0,(h.1,(h.2.1,h.2.2)))) fun r=>
 .s _ _ r
 (fun i=>.c _ (wju (a,(j,((length g:Int),(a,(length a:Int))))) (0,(i.1,(i.2.1,i.2.2)))) fun u=>
 .s _ _ u
 (fun m=>.l (.inl (m.1,(m.2.1,m.2.2))))
 (fun e=>.l (.inr (e.1,(e.2.1,(e.2.2.1,e.2.2.2))))))
 (fun f=>.l (.inr (f.1,(f.2.1,(f.2.2.1,f.2.2.2))))))
 (fun b=>.l (.inr (b.1,(b.2.1,(b.2.2.1,b.2.2.2)))))
def wpt g c f a b e:=(wyv g c f a b e).ev
def wakr:RetK:= {acts:=[],res:=[],sh:=.nil,obs:=[(64,.cells Zk),(65,.cells Zn),(66,.cells (yj [.nilsl]))],pins:=[(2,1,64),(2,2,65),(2,3,66)]}
def wyw:RetK:= {acts:=[.ren 4928 0,.ren 3392 0,.ren 2112 0],res:=[],sh:=.nil,obs:=[(64,.cells Zk),(65,.cells Zn),(66,.cells Zah),Zab],pins:=[(2,1,64),(2,2,65),(2,3,66)]}
def waee:FD:= {(yd (yj [.agg Zk,.dat y1,.fn 156 Zv]) [(64,.cells Zk),(65,.cells Zn),(66,.cells (yj [.nilsl]))] [.cap 2 0,.cap 2 1,.cap 2 2] (Yw⊕(Y1×(Y2×Yq))) (fun x=>wpt x.1.1.1 x.1.1.2.1 x.1.2.1 x.2.1.1 x.2.1.2.1 x.2.2.1.1) (fun r=>match r with| .inl a=>([],[(64,.cells [.dat y1 a.1,.dat y2 a.2.1]),(65,.cells [.dat yi a.2.2]),(66,.cells [.nilsl])])| .inr b=>([],[(64,.cells [.dat y1 b.1,.dat y2 b.2.1]),(65,.cells [.dat yi b.2.2.1]),(66,.cells [.arr 0]),(0,.arr 3 yi b.2.2.2)]))) with
 sp:=fun r=>.s _ _ r (fun a=>.l ([],[(64,.cells [.dat y1 a.1,.dat y2 a.2.1]),(65,.cells [.dat yi a.2.2]),(66,.cells [.nilsl])])) (fun b=>.l ([],[(64,.cells [.dat y1 b.1,.dat y2 b.2.1]),(65,.cells [.dat yi b.2.2.1]),(66,.cells [.arr 0]),(0,.arr 3 yi b.2.2.2)]))
 spok:=fun r=>by cases r<;>rfl}
def wfu:Env:=envOf [wys.1,wvi.1,wnt.1,G_zq.1,waed.1]
def wfv:List (Nat×LD):=[(0,wfc),(2,wfd),(6,wfe),(4,wff)]
def wfw:Code:=(f155.body).getD .skip
theorem wyx:(wfc).OK wfu tt noZ (orcOf wfv) (loopAt wfw 0):=ldMk (fun _=>rfl) fun _ _=>by kernel_rfl
theorem wyy:(wfd).OK wfu tt noZ (orcOf wfv) (loopAt wfw 2):=ldMk (fun _=>rfl) fun _ _=>by kernel_rfl
theorem wyz:(wfe).OK wfu tt noZ (orcOf wfv) (loopAt wfw 6):=ldMk (fun _=>rfl) fun _ _=>by kernel_rfl
theorem wza:(wff).OK wfu tt noZ (orcOf wfv) (loopAt wfw 4):=ldMk (fun _=>rfl) fun _ _=>by kernel_rfl
theorem waks:LoopsOK wfu tt noZ wfv wfw:=lpMk (by kernel_rfl) (lpC wyx (lpC wyy (lpC wyz (lpC wza lpN))))
theorem waef:FDok prog (155,waee):=fn_ok2 mixed (env_ok (fdC wys.2 (fdC wvi.2 (fdC wnt.2 (fdC G_zq.2 (fdC waed.2 fdN)))))) tabOK (fnMk2 waee wfu wakr wyw noZ wfv wfw (fun x=>wyv x.1.1.1 x.1.1.2.1 x.1.2.1 x.2.1.1 x.2.1.2.1 x.2.2.1.1) (fun r=>match r with| .inl a=>.inl ((),((a.1,(a.2.1,())),((a.2.2,()),(((),()),()))))| .inr b=>.inr ((),((b.1,(b.2.1,())),((b.2.2.1,()),(((),()),(b.2.2.2,())))))) func155 waks (fun _=>by kernel_rfl) fun r=>by cases r<;>rfl)
def wakt:FP prog:=⟨_,waef⟩
def T_zp(b:Y1)(a:List Y1)(e:Y1):Tr (Bool×Y1):=
 .c _ (wep b a e) fun h=>
 .c _ (wpt b a e b a h) fun i=>
 .s _ _ i
 (fun _=>.l (false,[]))
 (fun f=>.g (0<length f.2.2.2)<|
 .l (true,f.2.2.2))
def F_zp b c a:=(T_zp b c a).ev
abbrev yq474:RetK:=⟨[.own 4 0 3 yi,.ren 896 0],[.tmp 4,.tmp 5],(yj [.arr 0,.dat .bool]),[Zab],[],[]⟩
def G_zp:FP prog:=fnP cx func87 [wov,wakt] (yj [.agg Zk,.dat y1]) [] [] (yq113 T_zp) yq474 yq184
def wzb(e:Y1)(a:List Y1)(b:Y1):Tr (Bool×(Bool)):=
 .c _ (wjh e a b) fun g=>
 .t (!g)
 (.l (false,false))
 (.c _ (F_zp e a b) fun f=>
 .l ((!f.1),true))
def wey b c a:=(wzb b c a).ev
abbrev yq475:RetK:=yr [.tmp 4,.tmp 5] (yj [.dat .bool,.dat .bool])
def waeg:FP prog:=fnP cx func42 [wxo,G_zp] (yj [.agg Zk,.dat y1]) [] [] (yq113 wzb) yq475 yq253
def waeh(b:Bool)(a:Bool):Tr Yy:=
 .t b
 (.l (([121,101,115]:List UInt8),a))
 (.l (([110,111]:List UInt8),a))
def wzc a b:=(waeh a b).ev
def waku:FP prog:=fnP cx func202 [] (yj [.dat .bool,.dat .bool]) [] [] (yq41 waeh) yq256 yq253
def T_zh(e:Y1)(b:List Y1)(i:Y1)(ad:Int)(a:List UInt8)(h:Y1):Tr Yy:=
 .t ((length h:Int)==(1:Int))
 (.t (a==([109,101,100,105,97,110]:List UInt8))
 (.g (inR 0 (length h))<|
 .c _ (wfn e b (getD h (toNat 0) 0)) fun s=>
 .c _ (F_zj s.2 s.1) fun w=>
 .l (w.1,w.2))
 (.t (a==([99,101,110,116,114,101,115]:List UInt8))
 (.g (inR 0 (length h))<|
 .c _ (F_zm e b (getD h (toNat 0) 0)) fun r=>
 .c _ (F_zj r.2 r.1) fun ac=>
 .l (ac.1,ac.2))
 (.t (a==([102,97,114]:List UInt8))
 (.g (inR 0 (length h))<|
 .f)
 (.t ((0:Int)<(length h:Int))
 (.l ([],false))
 (.t (a==([116,111,116,97,108]:List UInt8))
 (.c _ (F_zg e b i ad) fun ae=>
 .c _ (F_zi ae.1 ae.2) fun j=>
 .l (j.1,j.2))
 (.t (a==([103,97,112]:List UInt8))
 (.f)
 (.t (a==([115,101,114,118,105,99,101]:List UInt8))
 (.f)
 (.t (a==([114,101,97,99,104]:List UInt8))
 (.c _ (web e b i) fun ai=>
 .c _ (F_zi ai.1 ai.2) fun u=>
 .l (u.1,u.2))
 (.t (a==([115,101,114,118,101,100]:List UInt8))
 (.f)
 (.t (a==([109,101,116,114,105,99]:List UInt8))
 (.f)
 (.t (a==([102,105,101,108,100]:List UInt8))
 (.f)
 (.t (a==([112,114,105,99,101,115]:List UInt8))
 (.f)
 (.t (a==([103,114,111,119,116,104]:List UInt8))
 (.c _ (wdu e b) fun af=>
 .c _ (F_zj af.2 af.1) fun y=>
 .l (y.1,y.2))
 (.t (a==([108,111,99,97,108]:List UInt8))
 (.c _ (wey e b i) fun o=>
 .c _ (wzc o.1 o.2) fun ab=>
 .l (ab.1,ab.2))
 (.t (a==([117,110,98,101,97,116,101,110]:List UInt8))
 (.f)
 (.l ([],false)))))))))))))))))
 (.t ((0:Int)<(length h:Int))
 (.l ([],false))
 (.t (a==([116,111,116,97,108]:List UInt8))
 (.c _ (F_zg e b i ad) fun p=>
 .c _ (F_zi p.1 p.2) fun m=>
 .l (m.1,m.2))
 (.t (a==([103,97,112]:List UInt8))
 (.f)
 (.t (a==([115,101,114,118,105,99,101]:List UInt8))
 (.f)
 (.t (a==([114,101,97,99,104]:List UInt8))
 (.c _ (web e b i) fun q=>
 .c _ (F_zi q.1 q.2) fun aa=>
 .l (aa.1,aa.2))
 (.t (a==([115,101,114,118,101,100]:List UInt8))
 (.f)
 (.t (a==([109,101,116,114,105,99]:List UInt8))
 (.f)
 (.t (a==([102,105,101,108,100]:List UInt8))
 (.f)
 (.t (a==([112,114,105,99,101,115]:List UInt8))
 (.f)
 (.t (a==([103,114,111,119,116,104]:List UInt8))
 (.c _ (wdu e b) fun n=>
 .c _ (F_zj n.2 n.1) fun z=>
 .l (z.1,z.2))
 (.t (a==([108,111,99,97,108]:List UInt8))
 (.c _ (wey e b i) fun ah=>
 .c _ (wzc ah.1 ah.2) fun ag=>
 .l (ag.1,ag.2))
 (.t (a==([117,110,98,101,97,116,101,110]:List UInt8))
 (.f)
 (.l ([],false))))))))))))))
def F_zh g c f a b e:=(T_zh g c f a b e).ev
abbrev yq477{a b c d e g h i j:Type}{z:Type _}(f:a→b→c→d→g→h→z)(x:((a×b×c×d×e)×g×h×i)×j):z:=f x.1.1.1 x.1.1.2.1 x.1.1.2.2.1 x.1.1.2.2.2.1 x.1.2.1 x.1.2.2.1
abbrev yq476:RetK:=yr [.tmp 6,.tmp 7] (yj [.dat .str,.dat .bool])
def G_zh:FP prog:=fnP cx func130 [wadm,G_zj,G_zm,G_zg,G_zi,wads,waeb,waeg,waku] (yj [.agg Zm,.dat .str,.dat y1]) [] [] (yq477 T_zh) yq476 yq253
def wbg(k:(List (List UInt8))×((List (List UInt8))×(Int×(Y1×(Y2×(Y1×Yr))))))(v:Int×Y1):Tr (Yq⊕(Y1⊕(Unit))):=
 .t (v.1<k.2.2.1)
 (.g (inR v.1 (length k.2.1))<|
 .c _ (wnq (getD k.2.1 (toNat v.1) [])) fun a=>
 .t (!a.2)
 (.l (.inr (.inr ())))
 (.g ((length v.2+length ([a.1]:Y1))*8≤140737488355328)<|
 .l (.inl ((wrap .i64 (v.1+1)),(v.2++([a.1]:Y1))))))
 (.l (.inr (.inl v.2)))
def wed k v:=iter (fun v=>(wbg k v).ev) v
abbrev yq264:Keep:=yk [] [2,4,7,8,20,21,22] (yj [.box 2 0,.box 4 0,.dat (.slice .str),.arr 18,.dat (.slice .str),.dat yi,.dat yi]) [(2,.cells Zm),(4,.cells Zx),(18,.arr 3 yi)]
abbrev yq265:Keep:=yk [] [2,4,7,8] (yj [.box 2 0,.box 4 0,.dat (.slice .str),.arr 18]) [(2,.cells Zm),(4,.cells Zx),(18,.arr 3 yi)]
abbrev yq266:Keep:=yk [] [4,5,6] (yj [.box 4 0,.dat .str,.dat .bool]) [(4,.cells Zm)]
abbrev yq267{a b c d e g h i j l:Type}(k:a×b×c×d×e×g×h×i)(v:j×l):=(((),((),(k.1,((),(k.2.1,(k.2.2.1,(v.1,()))))))),((k.2.2.2.1,(k.2.2.2.2.1,(k.2.2.2.2.2.1,(k.2.2.2.2.2.2.1,())))),(((),((),((),(k.2.2.2.2.2.2.2,())))),(v.2,()))))
abbrev yq268{a b c d e g h i j l m n o p q s t u:Type}(t:(a×b×c×d×e×g×h)×(i×j×l×m×n)×(o×p×q×s×t)×u):=(t.1.2.2.1,(t.1.2.2.2.2.1,(t.1.2.2.2.2.2.1,(t.2.1.1,(t.2.1.2.1,(t.2.1.2.2.1,(t.2.1.2.2.2.1,t.2.2.1.2.2.2.1)))))))
abbrev yq269{a b c d e g h i j l m n:Type}(t:(a×b×c×d×e×g×h×i)×j×l×m×n):=(t.1.2.2.2.2.2.2.1,t.2.2.2.1)
def wzd:LD:=yl (wbg) yq264 [(0,yq265)] yq266 yq267 yq268 yq269 (fun k r=>.s Y1 (Unit) r (fun a=>yx 0 yq265 (((),((),(k.1,((),())))),((k.2.2.2.1,(k.2.2.2.2.1,(k.2.2.2.2.2.1,(k.2.2.2.2.2.2.1,())))),(((),((),((),(k.2.2.2.2.2.2.2,())))),(a,()))))) (fun _=>yz yq266 (((),([],(false,()))),((k.2.2.2.1,(k.2.2.2.2.1,(k.2.2.2.2.2.1,(k.2.2.2.2.2.2.1,())))),()))))
def T_zl(i:Y1)(e:List Y1)(h:Y1)(b:Int)(o:List UInt8):Tr (Y1×(Y2×(Y1×(Int×Yy)))):=
 .c _ (wvc o ([32]:List UInt8)) fun a=>
 .g (((0:Int)≤(1:Int))&&((1:Int)≤(length a:Int)))<|
 .c _ (wed (a,((List.drop (toNat 1) (List.take (length a) a)),((length (List.drop (toNat 1) (List.take (length a) a)):Int),(i,(e,(h,(b,0))))))) (0,[])) fun n=>
 .s Y1 (Unit) n
 (fun p=>.g (inR 0 (length a))<|
 .c _ (wvg (getD a (toNat 0) [])) fun m=>
 .t (0<m)
 (.f)
 (.g (inR 0 (length a))<|
 .c _ (F_zh i e h b (getD a (toNat 0) []) p) fun j=>
 .l (i,(e,(h,(b,(j.1,j.2)))))))
 (fun _=>.l (i,(e,(h,(b,([],false))))))
def F_zl f c e a b:=(T_zl f c e a b).ev
abbrev yq478:RetK:=yr [.cell 4 38,.tmp 5,.tmp 6] (yj [.agg Zm,.dat .str,.dat .bool])
abbrev yq479{a b c d e g:Type}(r:a×b×c×d×e×g):=(((r.1,(r.2.1,(r.2.2.1,(r.2.2.2.1,())))),(r.2.2.2.2.1,(r.2.2.2.2.2,()))),())
def G_zl:FP prog:=fnP cx func67 [waig,waii,wail,G_zh] (yj [.agg Zm,.dat .str]) [] [] (yq128 T_zl) yq478 yq479 (zOf [(3,[(1,[19])])]) [(0,wzd)]
def T_zf(e:List UInt8)(b:List UInt8)(a:Int)(f:List UInt8)(h:List UInt8):Tr ((List UInt8)×((List UInt8)×Yr)):=
 .c _ (wnp e b a) fun j=>
 .t (!j)
 (.l (e,(b,(a,1))))
 (.c _ (wfk f h) fun m=>
 .t (!m)
 (.l (e,(b,(a,1))))
 (.t (a==60)
 (.l (e,(b,(a,2))))
 (.c _ (F_zn a f h) fun i=>
 .g (length b+length i.1≤9223372036854775807)<|
 .l (e,((b++i.1),((wrap .i64 (a+1)),0))))))
def F_zf f c e a b:=(T_zf f c e a b).ev
abbrev yq481{a b c d e g h i j:Type}{z:Type _}(f:a→b→c→e→g→z)(x:((a×b×c×d)×(e×g×h)×i)×j):z:=f x.1.1.1 x.1.1.2.1 x.1.1.2.2.1 x.1.2.1.1 x.1.2.1.2.1
abbrev yq480:RetK:=yr [.cell 4 39,.tmp 5] (yj [.agg (yj [.dat .str,.dat .str,.dat yi]),.dat yi])
abbrev yq482{a b c d:Type}(r:a×b×c×d):=(((r.1,(r.2.1,(r.2.2.1,()))),(r.2.2.2,())),())
def G_zf:FP prog:=fnP cx func68 [waav,wuy,G_zn] (yj [.agg (yj [.dat .str,.dat .str,.dat yi]),.agg Zai]) [] [] (yq481 T_zf) yq480 yq482
def T_zo(q:Y1)(o:List Y1)(p:Y1)(n:Int)(f:List UInt8)(g:List UInt8)(e:Int)(h:List UInt8):Tr (Y1×(Y2×(Y1×(Int×((List UInt8)×((List UInt8)×(Int×(List UInt8)))))))):=
 .c _ (F_zk q o p n) fun b=>
 .c _ (wvb q o p n f g e) fun s=>
 .t (!s)
 (.l (b.2.1,(b.2.2.1,(b.2.2.2,(b.1,(f,(g,(e,([110,111]:List UInt8)))))))))
 (.c _ (wfk h []) fun r=>
 .t (!r)
 (.l (b.2.1,(b.2.2.1,(b.2.2.2,(b.1,(f,(g,(e,([98,97,100]:List UInt8)))))))))
 (.t (e==60)
 (.l (b.2.1,(b.2.2.1,(b.2.2.2,(b.1,(f,(g,(e,([102,117,108,108]:List UInt8)))))))))
 (.c _ (F_zl b.2.1 b.2.2.1 b.2.2.2 b.1 h) fun a=>
 .t (!a.2.2.2.2.2)
 (.c _ (F_zf f g e h ([63]:List UInt8)) fun i=>
 .l (a.1,(a.2.1,(a.2.2.1,(a.2.2.2.1,(i.1,(i.2.1,(i.2.2.1,([63]:List UInt8)))))))))
 (.t ((200:Int)<(length a.2.2.2.2.1:Int))
 (.c _ (F_zf f g e h ([108,111,110,103]:List UInt8)) fun j=>
 .l (a.1,(a.2.1,(a.2.2.1,(a.2.2.2.1,(j.1,(j.2.1,(j.2.2.1,([108,111,110,103]:List UInt8)))))))))
 (.c _ (F_zf f g e h a.2.2.2.2.1) fun m=>
 .l (a.1,(a.2.1,(a.2.2.1,(a.2.2.2.1,(m.1,(m.2.1,(m.2.2.1,a.2.2.2.2.1))))))))))))
def F_zo i c f a b e g h:=(T_zo i c f a b e g h).ev
abbrev yq484{a b c d e g h i j l m:Type}{z:Type _}(f:a→b→c→d→e→g→h→j→z)(x:((a×b×c×d×e×g×h×i)×j×l)×m):z:=f x.1.1.1 x.1.1.2.1 x.1.1.2.2.1 x.1.1.2.2.2.1 x.1.1.2.2.2.2.1 x.1.1.2.2.2.2.2.1 x.1.1.2.2.2.2.2.2.1 x.1.2.1
abbrev yq483:RetK:=⟨[.fz 771,.fz 772,.fz 773],[.cell 4 41,.tmp 5],(yj [.agg (yj [.dat y1,.dat y2,.dat y1,.dat yi,.dat .str,.dat .str,.dat yi]),.dat .str]),[],[],[]⟩
abbrev yq485{a b c d e g h i:Type}(r:a×b×c×d×e×g×h×i):=(((r.1,(r.2.1,(r.2.2.1,(r.2.2.2.1,(r.2.2.2.2.1,(r.2.2.2.2.2.1,(r.2.2.2.2.2.2.1,()))))))),(r.2.2.2.2.2.2.2,())),())
def G_zo:FP prog:=fnP cx func25 [G_zk,waie,wuy,G_zl,G_zf] (yj [.agg (yj [.dat y1,.dat y2,.dat y1,.dat yi,.dat .str,.dat .str,.dat yi]),.dat .str]) [] [] (yq484 T_zo) yq483 yq485 (zOf [(8,[(3,[35])])])
def wze(a:Int):Tr Yy:=
 .t (a<(-999999:Int))
 (.l ([],false))
 (.t (999999<a)
 (.l ([],false))
 (.c _ (wel a) fun b=>
 .l (b,true)))
def waei a:=(wze a).ev
def wakv:FP prog:=fnP cx func102 [wih] Zn [] [] (yq1 wze) yq252 yq253
def wpu(b:Int)(e:Bool):Tr (List UInt8):=
 .t (!e)
 (.l ([63]:List UInt8))
 (.c _ (waei b) fun a=>
 .l a.1)
def wez a b:=(wpu a b).ev
abbrev yq486:RetK:=yr [.tmp 4] (yj [.dat .str])
def waej:FP prog:=fnP cx func46 [wakv] (yj [.dat yi,.dat .bool]) [] [] (yq41 wpu) yq486 yq2
def wde(k:(List (List UInt8))×(((HL [.str]→Option (Bool)))×Int))(v:Int):Tr ((Int)⊕((Unit)⊕(Int))):=
 .t (v<k.2.2)
 (.g (inR v (length k.1))<|
 .c _ (k.2.1 ((getD k.1 (toNat v) []),())) fun a=>
 .t a
 (.l (.inr (.inr v)))
 (.l (.inl (wrap .i64 (v+1)))))
 (.l (.inr (.inl ())))
def wjv k v:=iter (fun v=>(wde k v).ev) v
abbrev yq489:Keep:=yh [0,1,7,8] (yj [.dat (.slice .str),.clo [.str] .bool,.dat yi,.dat yi])
def wpv:LD:=yl (wde) yq489 [(0,yq10)] yq229 yq103 yq104 yq69 (fun _ r=>.s _ _ r (fun _=>yx 0 yq10 ((),())) (fun b=>yz yq229 ((b,()),())))
def wzf(a:List (List UInt8))(f:(HL [.str]→Option (Bool))):Tr (Int):=
 .c _ (wjv (a,(f,(length a:Int))) 0) fun b=>
 .s _ _ b
 (fun _=>.l (-1))
 (fun e=>.l e)
def wzg a b:=(wzf a b).ev
def wakw:FP prog:=fnP cx func255 [] (yj [.dat (.slice .str),.clo [.str] .bool]) [] [] (yq41 wzf) yq40 yq2 noZ [(0,wpv)]
def wzh(b:List (List UInt8))(e:(HL [.str]→Option (Bool))):Tr (Bool):=
 .c _ (wzg b e) fun a=>
 .l (0≤a)
def wzi a b:=(wzh a b).ev
def waek:FP prog:=fnP cx func177 [wakw] (yj [.dat (.slice .str),.clo [.str] .bool]) [] [] (yq41 wzh) yq112 yq2
def wzj(b:List UInt8)(e:List UInt8):Tr (Bool):=
 .c _ (wek b e) fun a=>
 .l a
def wpw a b:=(wzj a b).ev
def wakx:FP prog:=fnP cx func178 [wut] (yj [.dat .str,.ptr (yj [.dat .str])]) [] [] (yq330 wzj) yq232 yq2
def wdf(k:(List (List UInt8))×((List (List UInt8))×(Int×(List UInt8))))(v:Int×Int):Tr (Yr⊕((Int)⊕(Unit))):=
 .t (v.2<k.2.2.1)
 (.g (inR v.2 (length k.2.1))<|
 .t ((4000:Int)<(wrap .i64 (v.1+(length (getD k.2.1 (toNat v.2) []):Int))))
 (.l (.inr (.inr ())))
 (.l (.inl ((wrap .i64 (v.1+(length (getD k.2.1 (toNat v.2) []):Int))),(wrap .i64 (v.2+1))))))
 (.l (.inr (.inl v.1)))
def wjw k v:=iter (fun v=>(wdf k v).ev) v
abbrev yq490:Keep:=yk [] [0,3,6,25,26,27] (yj [.dat (.slice .str),.box 3 0,.dat yi,.dat (.slice .str),.dat yi,.dat yi]) [(3,.cells (yj [.dat .str]))]
abbrev yq491:Keep:=yk [] [0,3,6] (yj [.dat (.slice .str),.box 3 0,.dat yi]) [(3,.cells (yj [.dat .str]))]
abbrev yq492:Keep:=yh [4,5] (yj [.dat .str,.dat .bool])
abbrev yq493{a b c d e g:Type}(k:a×b×c×d)(v:e×g):=((k.1,((),(v.1,(k.2.1,(k.2.2.1,(v.2,())))))),((k.2.2.2,()),()))
abbrev yq494{a b c d e g h i j:Type}(t:(a×b×c×d×e×g)×(h×i)×j):=(t.1.1,(t.1.2.2.2.1,(t.1.2.2.2.2.1,t.2.1.1)))
def wpx:LD:=yl (wdf) yq490 [(0,yq491)] yq492 yq493 yq494 yq335 (fun k r=>.s _ _ r (fun a=>yx 0 yq491 ((k.1,((),(a,()))),((k.2.2.2,()),()))) (fun _=>yz yq492 (([],(false,())),())))
def wzk(a:List (List UInt8))(b:List UInt8):Tr Yy:=
 .t ((length a:Int)==(0:Int))
 (.l ([],false))
 (.t ((length b:Int) != (1:Int))
 (.l ([],false))
 (.c _ (wzi a (fun j=>Option.bind (wpw j.1 b) fun i=>some i)) fun h=>
 .t h
 (.l ([],false))
 (.c _ (wjw (a,(a,((length a:Int),b))) ((wrap .i64 ((length a:Int) -1)),0)) fun g=>
 .s _ _ g
 (fun f=>.t (4000<f)
 (.l ([],false))
 (.c _ (woq a b) fun e=>
 .l (e,true)))
 (fun _=>.l ([],false)))))
def wael a b:=(wzk a b).ev
def waky:FP prog:=fnP cx func103 [waek,wado,waek,wakx] (yj [.dat (.slice .str),.dat .str]) [] [] (yq41 wzk) yq256 yq253 noZ [(0,wpx)]
def wdg(k:Y1)(v:Int×(List (List UInt8))):Tr ((Int×(List (List UInt8)))⊕(List (List UInt8))):=
 .t (v.1<(length k:Int))
 (.g (inR v.1 (length k))<|
 .c _ (wez (getD k (toNat v.1) 0) true) fun a=>
 .g ((length v.2+length ([a]:List (List UInt8)))*16≤140737488355328)<|
 .l (.inl ((wrap .i64 (v.1+1)),(v.2++([a]:List (List UInt8))))))
 (.l (.inr v.2))
def wjx k v:=iter (fun v=>(wdg k v).ev) v
abbrev yq487:Keep:=yk [] [0,5,6] (yj [.dat y1,.arr 11,.dat yi]) [(11,.arr 9 .str)]
abbrev yq488:Keep:=yk [] [5] (yj [.arr 11]) [(11,.arr 9 .str)]
def wpy:LD:=yl (wdg) yq487 [(0,yq488)] yq10 yq259 yq208 yq260 (fun _ r=>yx 0 yq488 (((),()),(r,())))
def wzl(e:Y1)(f:Bool):Tr (List UInt8):=
 .t (!f)
 (.l ([63]:List UInt8))
 (.c _ (wjx e (0,[])) fun a=>
 .t ((length a:Int)==(0:Int))
 (.l ([110,111,110,101]:List UInt8))
 (.c _ (wael a ([32]:List UInt8)) fun b=>
 .l b.1))
def wee a b:=(wzl a b).ev
def wakz:FP prog:=fnP cx func47 [waej,waky] (yj [.dat y1,.dat .bool]) [] [] (yq41 wzl) yq486 yq2 noZ [(0,wpy)]
def wzm(q:Y1):Tr (Bool):=
 .c _ (wzn q) fun y=>
 .t y
 (.l true)
 (.c _ (wtw q) fun b=>
 .c _ (wif b.1 b.2.1 b.2.2.2 b.2.2.1) fun a=>
 .t (!a.2.2.2.2.1)
 (.c _ (wup b.1 b.2.1 b.2.2.2 b.2.2.1) fun ac=>
 .l (!ac))
 (.c _ (F_zo a.2.2.2.2.2.1 a.2.2.2.2.2.2.1 a.2.2.2.2.2.2.2 a.1 a.2.1 a.2.2.1 a.2.2.2.1 ([116,111,116,97,108]:List UInt8)) fun ad=>
 .c _ (F_zo a.2.2.2.2.2.1 a.2.2.2.2.2.2.1 a.2.2.2.2.2.2.2 a.1 a.2.1 a.2.2.1 a.2.2.2.1 ([114,101,97,99,104]:List UInt8)) fun s=>
 .c _ (F_zo a.2.2.2.2.2.1 a.2.2.2.2.2.2.1 a.2.2.2.2.2.2.2 a.1 a.2.1 a.2.2.1 a.2.2.2.1 ([108,111,99,97,108]:List UInt8)) fun i=>
 .c _ (F_zo a.2.2.2.2.2.1 a.2.2.2.2.2.2.1 a.2.2.2.2.2.2.2 a.1 a.2.1 a.2.2.1 a.2.2.2.1 ([109,101,100,105,97,110,32,49]:List UInt8)) fun m=>
 .c _ (F_zo a.2.2.2.2.2.1 a.2.2.2.2.2.2.1 a.2.2.2.2.2.2.2 a.1 a.2.1 a.2.2.1 a.2.2.2.1 ([99,101,110,116,114,101,115,32,49]:List UInt8)) fun p=>
 .c _ (F_zo a.2.2.2.2.2.1 a.2.2.2.2.2.2.1 a.2.2.2.2.2.2.2 a.1 a.2.1 a.2.2.1 a.2.2.2.1 ([103,114,111,119,116,104]:List UInt8)) fun n=>
 .c _ (F_zg b.1 b.2.1 b.2.2.2 b.2.2.1) fun j=>
 .c _ (web b.1 b.2.1 b.2.2.2) fun o=>
 .c _ (wey b.1 b.2.1 b.2.2.2) fun f=>
 .c _ (wfn b.1 b.2.1 1) fun e=>
 .c _ (F_zm b.1 b.2.1 1) fun g=>
 .c _ (wdu b.1 b.2.1) fun h=>
 .c _ (wez j.1 j.2) fun u=>
 .t (!(ad.2.2.2.2.2.2.2==u))
 (.l false)
 (.c _ (wez o.1 o.2) fun aa=>
 .t (!(s.2.2.2.2.2.2.2==aa))
 (.l false)
 (.t f.2
 (.t (!((i.2.2.2.2.2.2.2==([121,101,115]:List UInt8))==f.1))
 (.l false)
 (.t ((i.2.2.2.2.2.2.2==([63]:List UInt8))==f.2)
 (.l false)
 (.c _ (wee e.2 e.1) fun af=>
 .t (m.2.2.2.2.2.2.2==af)
 (.c _ (wee g.2 g.1) fun ae=>
 .t (p.2.2.2.2.2.2.2==ae)
 (.c _ (wee h.2 h.1) fun r=>
 .l (n.2.2.2.2.2.2.2==r))
 (.l false))
 (.l false))))
 (.t (!((i.2.2.2.2.2.2.2==([121,101,115]:List UInt8))==false))
 (.l false)
 (.t ((i.2.2.2.2.2.2.2==([63]:List UInt8))==f.2)
 (.l false)
 (.c _ (wee e.2 e.1) fun z=>
 .t (m.2.2.2.2.2.2.2==z)
 (.c _ (wee g.2 g.1) fun ab=>
 .t (p.2.2.2.2.2.2.2==ab)
 (.c _ (wee h.2 h.1) fun w=>
 .l (n.2.2.2.2.2.2.2==w))
 (.l false))
 (.l false))))))))
def waem a:=(wzm a).ev
def waen:FP prog:=fnP cx func6 [waes,wahl,wahr,wahs,G_zo,G_zg,wads,waeg,wadm,G_zm,waeb,waej,wakz] (yj [.dat (.slice (.int .u8))]) [] [] (yq1 wzm) yq0 yq2 (zOf [(7,[(1,[45])])])
end
end Go.Proofs.YteiekijgoifhoaaGreatDoor
