/- A part of the proof that FnExactReplayLog hands back true, at every argument of the row. -/
import Derived.Test.YtidaiohhaanphaaGreatDoorB58
namespace Go.Proofs.YtidaiohhaanphaaGreatDoor
noncomputable section
open Go.Proofs.Tryz
open List (length getD set)
open Int (toNat)
open IntKind (wrap)
abbrev yi:Ty:=.int .i64
abbrev y1:Ty:=.slice yi
abbrev y2:Ty:=.slice y1
abbrev y3:Ty:=.slice y2
abbrev Y1:Type:=List Int
abbrev Y2:Type:=List Y1
abbrev Y3:Type:=List Y2
abbrev ys(l:List Nat)(s:Sh):SSh:= {slots:=l,sh:=s,obs:=[]}
abbrev yd(A:Sh)(I:List (Nat×OSh))(L:List LP)(R:Type)(F:A.I×OL I->Option R)(e:R->List AV×List (Nat×Ob)):FD:= {A:=A,ins:=I,lend:=L,R:=R,F:=F,emb:=e}
abbrev Zf:List UInt8:=([0,1,2,2,3,3,3,3,4,4,4,4,4,4,4,4,5,5,5,5,5,5,5,5,5,5,5,5,5,5,5,5,6,6,6,6,6,6,6,6,6,6,6,6,6,6,6,6,6,6,6,6,6,6,6,6,6,6,6,6,6,6,6,6,7,7,7,7,7,7,7,7,7,7,7,7,7,7,7,7,7,7,7,7,7,7,7,7,7,7,7,7,7,7,7,7,7,7,7,7,7,7,7,7,7,7,7,7,7,7,7,7,7,7,7,7,7,7,7,7,7,7,7,7,7,7,7,7,8,8,8,8,8,8,8,8,8,8,8,8,8,8,8,8,8,8,8,8,8,8,8,8,8,8,8,8,8,8,8,8,8,8,8,8,8,8,8,8,8,8,8,8,8,8,8,8,8,8,8,8,8,8,8,8,8,8,8,8,8,8,8,8,8,8,8,8,8,8,8,8,8,8,8,8,8,8,8,8,8,8,8,8,8,8,8,8,8,8,8,8,8,8,8,8,8,8,8,8,8,8,8,8,8,8,8,8,8,8,8,8,8,8,8,8,8,8,8,8,8,8,8,8,8,8,8,8]:List UInt8)
abbrev Zh:Sh:=yj [.dat y1,.dat y2]
abbrev Zk:Nat:=IntKind.bits .u64
abbrev Zl:Sh:=yj [.dat y1,.dat y2,.dat y1,.dat yi]
abbrev Zm:Sh:=yj [.dat yi,.dat y1,.dat (.slice .bool),.dat y1,.dat y1]
abbrev Yo:Type:=(List Nat)×Y2
abbrev Zv:Sh:=yj [.dat yi]
abbrev Yw:Type:=HL [y1,y1]->Option Int
abbrev Zab:Sh:=yj [.dat yi,.arr 64,.arr 65,.arr 66,.arr 67]
abbrev Zag:Nat×OSh:=(1,.cells Zh)
abbrev Yah:Type:=Int×Int
abbrev Yam:Type:=Y1×(List Bool)×Y1×Y1
abbrev Yao:Type:=(List UInt8)×(List UInt8)
abbrev Yap:Type:=Int×Y1
abbrev Zar:Nat×OSh:=(4,.cells (yj [.arr 25,.arr 1920,.arr 2112]))
abbrev Zas:Nat×OSh:=(4,.cells (yj [.nilsl,.nilsl,.nilsl,.dat yi]))
abbrev Zat:Sh:=yj [.dat y1,.dat y2,.dat y1,.dat yi,.dat .str,.dat .str,.dat yi]
abbrev Zau:Sh:=yj [.dat .str,.dat .str,.dat yi]
abbrev Zav:Nat×OSh:=(2,.cells (yj [.nilsl,.nilsl,.nilsl]))
abbrev Zaw:Nat×OSh:=(0,.arr 3 yi)
abbrev Yax:Type:=Int×Y1×Y2
abbrev Zay:Nat×OSh:=(64,.perm 22 3 yi)
abbrev Zaz:Sh:=yj [.dat yi,.dat yi,.dat yi,.dat yi,.dat y1]
abbrev Zba:Nat×OSh:=(64,.arr 3 yi)
abbrev Zbb:Sh:=yj [.box 64 0,.box 65 0,.box 66 0]
abbrev Zbc:Sh:=yj [.arr 0,.dat .bool]
abbrev Ybd:Type:=Y1×Y2×Int
abbrev Zbe:Nat×OSh:=(4,.cells (yj [.dat yi,.nilsl,.nilsl,.nilsl,.nilsl]))
abbrev Zbf:Nat×OSh:=(2,.cells Zh)
abbrev Zbg:Sh:=yj [.dat .str,.dat .str]
abbrev Zbh:Sh:=yj [.arr 0]
abbrev Ybi:Type:=(List UInt8)×Bool
abbrev Zbj:Nat×OSh:=(2,.cells (yj [.dat yi,.arr 900321,.nilsl,.arr 900323,.arr 900324]))
abbrev Ybk:Type:=Bool×Y1
abbrev Ybl:Type:=Y1×Y2×Y1×Int×(List UInt8)×(List UInt8)×Int
abbrev Ybm:Type:=Y1×Y2×Y1
abbrev Ybn:Type:=Y1×Y1×Y1
abbrev Zbo:Sh:=yj [.dat y1]
abbrev Ybp:Type:=HL [yi,yi]->Option Int
abbrev Zbq:Nat×OSh:=(2112,.arr 3 yi)
abbrev Zbr:Nat×OSh:=(4,.cells (yj [.arr 901340,.nilsl,.arr 901342,.dat yi]))
abbrev Zbs:Nat×OSh:=(6,.cells (yj [.arr 13888,.arr 1860,.arr 1861,.dat yi]))
def tabl:List (Nat×TD):=[(3,.sc yi),(4,.sc .bool),(5,.sc (.int .u8)),(9,.sc .str),(22,.sl 3 yi 8),(23,.sl 22 y1 24),(25,.st (.pair y1 y2) [(22,y1),(23,y2)]),(27,.st (.pair (.pair y1 y2) (.pair y1 yi)) [(25,(.pair y1 y2)),(22,y1),(3,yi)]),(29,.st (.pair .str (.pair .str yi)) [(9,.str),(9,.str),(3,yi)]),(34,.st (.pair y1 y2) [(22,y1),(23,y2)]),(36,.st (.pair (.pair y1 y2) (.pair y1 yi)) [(34,(.pair y1 y2)),(22,y1),(3,yi)]),(38,.st (.pair .str (.pair .str yi)) [(9,.str),(9,.str),(3,yi)]),(45,.st (.pair (.pair (.pair y1 y2) (.pair y1 yi)) (.pair .str (.pair .str yi))) [(36,(.pair (.pair y1 y2) (.pair y1 yi))),(38,(.pair .str (.pair .str yi)))]),(49,.sl 55 (.pair .str .str) 32),(55,.st (.pair .str .str) [(9,.str),(9,.str)]),(65,.sl 9 .str 16),(91,.st (.pair yi (.pair yi (.pair yi (.pair yi y1)))) [(3,yi),(3,yi),(3,yi),(3,yi),(22,y1)]),(153,.sc (.int .u64)),(168,.st (.pair y1 (.pair y1 y1)) [(22,y1),(22,y1),(22,y1)]),(179,.sl 4 .bool 1),(181,.st (.pair yi (.pair y1 (.pair (.slice .bool) (.pair y1 y1)))) [(3,yi),(22,y1),(179,(.slice .bool)),(22,y1),(22,y1)]),(227,.sc (.int .u64)),(273,.sc (.int .u64))]
def tt:Nat->TD:=λi=>match look tabl i with |some d=>d |none=>.no
theorem mixed:prog.follows .mixedOrders=true:=by kernel_rfl
theorem tabOK:TabOK prog tt:=tab_ok (by kernel_rfl)
theorem cx:Cx prog tt:=⟨mixed,tabOK⟩
def wbtm(a:Y1)(b:Int):Tr Int:=.t ((wrap .i64 (b-(length a:Int)))<(0:Int)) (.l (-1)) (.l (wrap .i64 (b-(length a:Int))))
def wbed a b:=(wbtm a b).ev
abbrev yq1{a b c d:Type}{z:Type _}(f:a->b->z)(x:(a×b×c)×d):z:=f x.1.1 x.1.2.1
abbrev yq0:RetK:=yr [.tmp 4] Zv
abbrev yq2{a:Type}(r:a):=((r,()),())
def wbtn:FP prog:=fnP cx func12 [] (yj [.dat y1,.dat yi]) [] [] (yq1 wbtm) yq0 yq2
def wayn(k:List Y1)(v:Int×Int):Tr (Yah⊕(Int⊕Unit)):=.t (v.2<(length k:Int)) (.g (inR v.2 (length k))<|.c _ (wbed (getD k (toNat v.2) []) v.1) λa=>.t (a<0) (.l (.inr (.inr ()))) (.l (.inl (a,(wrap .i64 (v.2+1)))))) (.l (.inr (.inl v.1)))
def wbcn k v:=iter (λv=>(wayn k v).ev) v
abbrev yq4:Keep:=yh [1] Zv
abbrev yq5:Keep:=yh [4] Zv
abbrev yq6{a b c:Type}(k:a)(v:b×c):=((k,v.1,v.2,()),())
abbrev yq7{a b c:Type}(t:(a×b)×c):=t.1.1
abbrev yq8{a b c d e:Type}(t:(a×b×c×d)×e):=(t.1.2.1,t.1.2.2.1)
def wbkn:LD:=yl (wayn) (yh [0,1,5] (yj [.dat y2,.dat yi,.dat yi])) [(0,yq4)] yq5 yq6 yq7 yq8 (λ_ r=>.s _ _ r (λa=>yx 0 yq4 ((a,()),())) (λ_=>yz yq5 (((-1),()),())))
def wbto(a:List Y1)(b:Int):Tr Int:=.t ((wrap .i64 (b-(length a:Int)))<(0:Int)) (.l (-1)) (.c _ (wbcn a ((wrap .i64 (b-(length a:Int))),0)) λe=>.s _ _ e (λf=>.l f) (λ_=>.l (-1)))
def wbtp a b:=(wbto a b).ev
def wcjh:FP prog:=fnP cx func24 [wbtn] (yj [.dat y2,.dat yi]) [] [] (yq1 wbto) yq0 yq2 noZ [(0,wbkn)]
def wbtq(e:Y1)(g:List Y1)(f:Int):Tr Int:=.c _ (wbed e f) λa=>.t (a<0) (.l (-1)) (.c _ (wbtp g a) λb=>.t (b<0) (.l (-1)) (.l b))
def wbtr a b c:=(wbtq a b c).ev
abbrev yq9{a b c d e g:Type}{z:Type _}(f:a->b->d->z)(x:((a×b×c)×d×e)×g):z:=f x.1.1.1 x.1.1.2.1 x.1.2.1
def wcji:FP prog:=fnP cx func11 [wbtn,wcjh] (yj [.agg Zh,.dat yi]) [] [] (yq9 wbtq) yq0 yq2
def wbts(e:Y1)(h:List Y1)(f:Y1)(_i g:Int):Tr Int:=.c _ (wbtr e h g) λa=>.t (a<0) (.l (-1)) (.c _ (wbed f a) λb=>.t (b<0) (.l (-1)) (.l b))
def wbtt a f b e c:=(wbts a f b e c).ev
abbrev yq10{a b c d e g h i:Type}{z:Type _}(f:a->b->c->d->g->z)(x:((a×b×c×d×e)×g×h)×i):z:=f x.1.1.1 x.1.1.2.1 x.1.1.2.2.1 x.1.1.2.2.2.1 x.1.2.1
def wcjj:FP prog:=fnP cx func4 [wcji,wbtn] (yj [.agg Zl,.dat yi]) [] [] (yq10 wbts) yq0 yq2
def wbtu(a c:List UInt8)(_e b:Int):Tr Int:=.t ((wrap .i64 (b-(length a:Int)))<(0:Int)) (.l (-1)) (.t ((wrap .i64 ((wrap .i64 (b-(length a:Int))) -(length c:Int)))<(0:Int)) (.l (-1)) (.l (wrap .i64 ((wrap .i64 (b-(length a:Int))) -(length c:Int)))))
def wbtv a c e b:=(wbtu a c e b).ev
def wcjk:FP prog:=fnP cx func5 [] (yj [.agg Zau,.dat yi]) [] [] ((λf x=>f x.1.1.1 x.1.1.2.1 x.1.1.2.2.1 x.1.2.1) wbtu) yq0 yq2
def wayo(k:Y1)(v:Int×Y1):Tr (Yap⊕Y1):=.t (v.1<(length k:Int)) (.g (inR v.1 (length k))<|.g (inR v.1 (length v.2))<|.g ((toNat v.1)<length v.2)<|.l (.inl ((wrap .i64 (v.1+1)),(set v.2 (toNat v.1) (getD k (toNat v.1) 0))))) (.l (.inr v.2))
def wbfa k v:=iter (λv=>(wayo k v).ev) v
abbrev yq13:Keep:=yk [] [3] (yj [.arr 7]) [(7,.arr 3 yi)]
abbrev yq14:Keep:=yh [] .nil
abbrev yq15{a b c:Type}(k:a)(v:b×c):=((k,(),v.1,()),v.2,())
abbrev yq16{a b c d e g:Type}(t:(a×b×c×d)×e×g):=(t.1.2.2.1,t.2.1)
def wbko:LD:=yl (wayo) (yk [] [0,3,4] (yj [.dat y1,.arr 7,.dat yi]) [(7,.arr 3 yi)]) [(0,yq13)] yq14 yq15 yq7 yq16 (λ_ r=>yx 0 yq13 (((),()),r,()))
def wbtw(a:Y1):Tr Y1:=.g (((0:Int)<=(length a:Int))&&((length a:Int)<=(length a:Int))&&(((8:Nat):Int)*(length a:Int)<=281474976710656))<|.c _ (wbfa a (0,(List.replicate (toNat (length a:Int)) 0))) λb=>.l b
def wbfb a:=(wbtw a).ev
abbrev yq18{a b c:Type}{z:Type _}(f:a->z)(x:(a×b)×c):z:=f x.1.1
abbrev yq19{a:Type}(r:a):=(((),()),r,())
def wbtx:FP prog:=fnP cx func18 [] Zbo [] [] (yq18 wbtw) ⟨[.ren 7 0],[.tmp 2],Zbh,[Zaw],[],[]⟩ yq19 noZ [(0,wbko)]
def wayp(k:List Y1)(v:Int×Y2):Tr ((Int×Y2)⊕Y2):=.t (v.1<(length k:Int)) (.g (inR v.1 (length k))<|.c _ (wbfb (getD k (toNat v.1) [])) λa=>.g (inR v.1 (length v.2))<|.g ((toNat v.1)<length v.2)<|.l (.inl ((wrap .i64 (v.1+1)),(set v.2 (toNat v.1) a)))) (.l (.inr v.2))
def wbfc k v:=iter (λv=>(wayp k v).ev) v
abbrev yq21:Keep:=yk [] [3] (yj [.arr 7]) [(7,.rows 22 3 yi)]
def wbkp:LD:=yl (wayp) (yk [] [0,3,4] (yj [.dat y2,.arr 7,.dat yi]) [(7,.rows 22 3 yi)]) [(0,yq21)] yq14 yq15 yq7 yq16 (λ_ r=>yx 0 yq21 (((),()),r,()))
def wbty(a:List Y1):Tr Y2:=.g (((0:Int)<=(length a:Int))&&((length a:Int)<=(length a:Int))&&(((24:Nat):Int)*(length a:Int)<=281474976710656))<|.c _ (wbfc a (0,(List.replicate (toNat (length a:Int)) []))) λb=>.l b
def wbtz a:=(wbty a).ev
def wcjl:FP prog:=fnP cx func33 [wbtx] (yj [.dat y2]) [] [] (yq18 wbty) ⟨[.ren 7 0],[.tmp 2],Zbh,[(0,.rows 22 3 yi)],[],[]⟩ yq19 (zOf [(1,[(2,[1000000])])]) [(0,wbkp)]
def wbua(b:Y1)(f:List Y1):Tr (Y1×Y2):=.c _ (wbfb b) λe=>.c _ (wbtz f) λa=>.l (e,a)
def wbub a b:=(wbua a b).ev
abbrev yq24{a b c d e:Type}{z:Type _}(f:a->b->z)(x:((a×b×c)×d)×e):z:=f x.1.1.1 x.1.1.2.1
def wcjm:FP prog:=fnP cx func17 [wbtx,wcjl] (yj [.agg Zh]) [] [] (yq24 wbua) ⟨[.ren 384 4,.ren 640 5],[.cell 2 34],(yj [.agg (yj [.arr 4,.arr 5])]),[(4,.arr 3 yi),(5,.rows 22 3 yi)],[],[]⟩ (λr=>((((),(),()),()),r.1,r.2,()))
def wbuc(b:Y1)(h:List Y1)(e:Y1)(g:Int):Tr (Int×Ybm):=.c _ (wbub b h) λa=>.c _ (wbfb e) λf=>.l (g,a.1,a.2,f)
def wbfd a c e b:=(wbuc a c e b).ev
abbrev yq27{a b c d e g h:Type}{z:Type _}(f:a->b->c->d->z)(x:((a×b×c×d×e)×g)×h):z:=f x.1.1.1 x.1.1.2.1 x.1.1.2.2.1 x.1.1.2.2.2.1
abbrev yq28{a b c d:Type}(r:a×b×c×d):=((((),(),(),r.1,()),()),r.2.1,r.2.2.1,r.2.2.2,())
def wcjn:FP prog:=fnP cx func7 [wcjm,wbtx] (yj [.agg Zl]) [] [] (yq27 wbuc) ⟨[.ren 388 4,.ren 389 5,.ren 640 6],[.cell 2 36],(yj [.agg (yj [.arr 4,.arr 5,.arr 6,.dat yi])]),[(4,.arr 3 yi),(5,.rows 22 3 yi),(6,.arr 3 yi)],[],[]⟩ yq28
def wbud(a b:List UInt8)(c:Int):Tr ((List UInt8)×(List UInt8)×Int):=.l (a,b,c)
def wbkq a b c:=(wbud a b c).ev
abbrev yq30{a b c d e g:Type}{z:Type _}(f:a->b->c->z)(x:((a×b×c×d)×e)×g):z:=f x.1.1.1 x.1.1.2.1 x.1.1.2.2.1
def wcjo:FP prog:=fnP cx func8 [] (yj [.agg Zau]) [] [] (yq30 wbud) (yr [.cell 2 38] (yj [.agg Zau])) (λr=>(((r.1,r.2.1,r.2.2,()),()),()))
def wbue(a b c:Int):Tr Bool:=.t (b<=a) (.l (a<=c)) (.l false)
def waoo a b c:=(wbue a b c).ev
abbrev yq33{a b c d e:Type}{z:Type _}(f:a->b->c->z)(x:(a×b×c×d)×e):z:=f x.1.1 x.1.2.1 x.1.2.2.1
abbrev yq32:RetK:=yr [.tmp 6] (yj [.dat .bool])
def wbbl:FP prog:=fnP cx func45 [] (yj [.dat yi,.dat yi,.dat yi]) [] [] (yq33 wbue) yq32 yq2
def wayq(k:Y1×Yah)(v:Int):Tr (Int⊕(Unit⊕Unit)):=.t (v<(length k.1:Int)) (.g (inR v (length k.1))<|.c _ (waoo (getD k.1 (toNat v) 0) 0 k.2.2) λa=>.t (!a) (.l (.inr (.inr ()))) (.l (.inl (wrap .i64 (v+1))))) (.l (.inr (.inl ())))
def wbfe k v:=iter (λv=>(wayq k v).ev) v
abbrev yq34:Keep:=yh [0,1,2,7] (yj [.dat y1,.dat yi,.dat yi,.dat yi])
abbrev yq35:Keep:=yh [0,1] (yj [.dat y1,.dat yi])
abbrev yq36:Keep:=yh [6] (yj [.dat .bool])
abbrev yq37{a b c d:Type}(k:a×b×c)(v:d):=((k.1,k.2.1,k.2.2,v,()),())
abbrev yq38{a b c d e:Type}(t:(a×b×c×d)×e):=(t.1.1,t.1.2.1,t.1.2.2.1)
abbrev yq39{a b c d e g:Type}(t:(a×b×c×d×e)×g):=t.1.2.2.2.1
def wbkr:LD:=yl (wayq) yq34 [(0,yq35)] yq36 yq37 yq38 yq39 (λk r=>.s _ _ r (λ_=>yx 0 yq35 ((k.1,k.2.1,()),())) (λ_=>yz yq36 ((false,()),())))
def wbuf(a:Y1)(b f:Int):Tr Bool:=.c _ (wbfe (a,b,f) 0) λe=>.s _ _ e (λ_=>.l ((length a:Int)==b)) (λ_=>.l false)
def wbks a b c:=(wbuf a b c).ev
def wcjp:FP prog:=fnP cx func72 [wbbl] (yj [.dat y1,.dat yi,.dat yi]) [] [] (yq33 wbuf) yq32 yq2 noZ [(0,wbkr)]
def wayr(k:Int×Y1×Y2)(v:Int):Tr (Int⊕(Unit⊕Unit)):=.t (v<(length k.2.2:Int)) (.g (inR v (length k.2.2))<|.c _ (wbks (getD k.2.2 (toNat v) []) k.1 99) λa=>.t (!a) (.l (.inr (.inr ()))) (.l (.inl (wrap .i64 (v+1))))) (.l (.inr (.inl ())))
def wbff k v:=iter (λv=>(wayr k v).ev) v
abbrev yq40:Keep:=yk [] [1,3,4] (yj [.box 1 0,.dat yi,.dat yi]) [Zag]
abbrev yq41:Keep:=yk [] [1,3] (yj [.box 1 0,.dat yi]) [Zag]
abbrev yq42:Keep:=yh [2] (yj [.dat .bool])
abbrev yq43{a b c d:Type}(k:a×b×c)(v:d):=(((),k.1,v,()),(k.2.1,k.2.2,()),())
abbrev yq44{a b c d e g h:Type}(t:(a×b×c)×(d×e×g)×h):=(t.1.2.1,t.2.1.1,t.2.1.2.1)
abbrev yq45{a b c d e:Type}(t:(a×b×c×d)×e):=t.1.2.2.1
def wbkt:LD:=yl (wayr) yq40 [(0,yq41)] yq42 yq43 yq44 yq45 (λk r=>.s _ _ r (λ_=>yx 0 yq41 (((),k.1,()),(k.2.1,k.2.2,()),())) (λ_=>yz yq42 ((false,()),())))
def wbug(a:Y1)(b:List Y1):Tr Bool:=.c _ (wbff ((length a:Int),a,b) 0) λg=>.s _ _ g (λ_=>.c _ (waoo (length a:Int) 1 7) λf=>.t f (.c _ (wbks a (length a:Int) 99) λe=>.t e (.l ((length b:Int)<=(7:Int))) (.l false)) (.l false)) (λ_=>.l false)
def wavv a b:=(wbug a b).ev
abbrev yq46:RetK:=yr [.tmp 2] (yj [.dat .bool])
def wbbs:FP prog:=fnP cx func43 [wcjp,wbbl] (yj [.agg Zh]) [] [] (yq24 wbug) yq46 yq2 noZ [(0,wbkt)]
def wawb(k:Y1×Yah)(v:Int):Tr (Int⊕(Unit⊕Unit)):=.t (v<(length k.1:Int)) (.g (inR v (length k.1))<|.c _ (waoo (getD k.1 (toNat v) 0) k.2.1 k.2.2) λa=>.t (!a) (.l (.inr (.inr ()))) (.t (0<v) (.g (inR (wrap .i64 (v-1)) (length k.1))<|.g (inR v (length k.1))<|.t ((getD k.1 (toNat v) 0)<=(getD k.1 (toNat (wrap .i64 (v-1))) 0)) (.l (.inr (.inr ()))) (.l (.inl (wrap .i64 (v+1))))) (.l (.inl (wrap .i64 (v+1)))))) (.l (.inr (.inl ())))
def wbfg k v:=iter (λv=>(wawb k v).ev) v
def wbku:LD:=yl (wawb) yq34 [(0,yq14)] yq36 yq37 yq38 yq39 (λ_ r=>.s _ _ r (λ_=>yx 0 yq14 ((),())) (λ_=>yz yq36 ((false,()),())))
def wbuh(f:Y1)(b e:Int):Tr Bool:=.c _ (wbfg (f,b,e) 0) λa=>.s _ _ a (λ_=>.l true) (λ_=>.l false)
def wbui a b c:=(wbuh a b c).ev
def wcjq:FP prog:=fnP cx func73 [wbbl] (yj [.dat y1,.dat yi,.dat yi]) [] [] (yq33 wbuh) yq32 yq2 noZ [(0,wbku)]
def wbuj(a:Y1)(_f:List Y1)(e:Y1):Tr Bool:=.c _ (wbui e 0 (wrap .i64 ((length a:Int) -1))) λb=>.l b
def wbkv a b c:=(wbuj a b c).ev
abbrev yq47:RetK:=yr [.tmp 4] (yj [.dat .bool])
def wcfl:FP prog:=fnP cx func44 [wcjq] (yj [.agg Zh,.dat y1]) [] [] (yq9 wbuj) yq47 yq2
def wbuk(a:Y1)(b:List Y1)(f:Y1)(h:Int):Tr Bool:=.c _ (wavv a b) λe=>.t e (.c _ (wbkv a b f) λg=>.t g (.c _ (waoo h 0 1000) λi=>.l i) (.l false)) (.l false)
def wbee a c e b:=(wbuk a c e b).ev
def wbkw:FP prog:=fnP cx func25 [wbbs,wcfl,wbbl] (yj [.agg Zl]) [] [] (yq27 wbuk) yq46 yq2
def wbul(a:Y1):Tr Y1:=.g ((length ([]:Y1)+length a)*8<=140737488355328)<|.l (([]:Y1)++a)
def wayj a:=(wbul a).ev
def wbef:FP prog:=fnP cx func46 [] Zbo [] [] (yq18 wbul) ⟨[.ren 3 0],[.tmp 2],Zbh,[Zaw],[],[]⟩ yq19
def wayt(k:Y1×Y2×Y1×Int×Int×Y2×Y1)(v:Int×Y2):Tr ((Int×Y2)⊕Y2):=.t (v.1<(length k.2.1:Int)) (.g (inR v.1 (length k.2.1))<|.c _ (wayj (getD k.2.1 (toNat v.1) [])) λa=>.g ((length v.2+1)*24<=140737488355328)<|.l (.inl ((wrap .i64 (v.1+1)),(set (v.2++ [[]]) (length v.2) a)))) (.l (.inr v.2))
def wbfh k v:=iter (λv=>(wayt k v).ev) v
abbrev yq50:Keep:=yk [] [1,2,3] (yj [.box 1 0,.box 2 0,.box 3 0]) [(1,.cells Zl),(2,.cells (yj [.nilsl,.arr 900321,.nilsl,.dat yi])),(3,.cells (yj [.arr 512,.arr 9])),(900321,.rows 22 3 yi),(512,.arr 3 yi),(9,.rows 22 3 yi)]
def wbkx:LD:=yl (wayt) (yk [.ownRB 2 1 900321 22 3 yi] [1,2,3,4] (yj [.box 1 0,.box 2 0,.box 3 0,.dat yi]) [(1,.cells Zl),(2,.cells (yj [.nilsl,.arr 900321,.nilsl,.dat yi])),(3,.cells (yj [.arr 512,.arr 9])),(900321,.rows 22 3 yi),(512,.arr 3 yi),(9,.rows 22 3 yi)]) [(0,yq50)] yq14 (λk v=>(((),(),(),v.1,()),(k.1,k.2.1,k.2.2.1,k.2.2.2.1,()),((),(),(),k.2.2.2.2.1,()),((),(),()),k.2.2.2.2.2.1,k.2.2.2.2.2.2,v.2,())) (λt=>(t.2.1.1,t.2.1.2.1,t.2.1.2.2.1,t.2.1.2.2.2.1,t.2.2.1.2.2.2.1,t.2.2.2.2.1,t.2.2.2.2.2.1)) (λt=>(t.1.2.2.2.1,t.2.2.2.2.2.2.1)) (λk r=>yx 0 yq50 (((),(),(),()),(k.1,k.2.1,k.2.2.1,k.2.2.2.1,()),((),(),(),k.2.2.2.2.1,()),((),(),()),k.2.2.2.2.2.1,k.2.2.2.2.2.2,r,()))
def wbum(a:Y1)(h:List Y1)(e:Y1)(f:Int):Tr (Int×Ybm):=.c _ (wayj a) λb=>.c _ (wbfh (a,h,e,f,0,[],b) (0,[])) λg=>.c _ (wayj e) λi=>.l (f,b,g,i)
def wbbt a c e b:=(wbum a c e b).ev
def wbky:FP prog:=fnP cx func26 [wbef] (yj [.agg Zl]) [] [] (yq27 wbum) ⟨[.ren 512 4,.ren 9 5,.ren 2176 6],[.cell 2 36],(yj [.agg (yj [.arr 4,.arr 5,.arr 6,.dat yi])]),[(4,.arr 3 yi),(5,.rows 22 3 yi),(6,.arr 3 yi)],[],[]⟩ yq28 (zOf [(1,[(4,[1000000])])]) [(0,wbkx)]
def wbun(b:Y1)(g:List Y1)(e:Y1)(f:Int):Tr (Int×(List UInt8)×(List UInt8)×Int×Bool×Ybm):=.c _ (wbee b g e f) λh=>.t (!h) (.l (0,[],[],0,false,[],[],[])) (.c _ (wbbt b g e f) λa=>.l (a.1,[],[],0,true,a.2.1,a.2.2.1,a.2.2.2))
def wbkz a c e b:=(wbun a c e b).ev
abbrev yq56{a b c d e g h i:Type}(r:a×b×c×d×e×g×h×i):=((((),(),(),r.1,r.2.1,r.2.2.1,r.2.2.2.1,()),r.2.2.2.2.1,()),r.2.2.2.2.2.1,r.2.2.2.2.2.2.1,r.2.2.2.2.2.2.2,())
def wcjr:FP prog:=fnP cx func13 [wbkw,wbky] (yj [.agg Zl]) [] [] (yq27 wbun) ⟨[.ownB 2 0 3 3 yi,.ownRB 2 1 4 22 3 yi,.ownB 2 2 5 3 yi,.ren 580 3,.ren 581 4,.ren 582 5],[.cell 2 45,.tmp 3],(yj [.agg (yj [.arr 3,.arr 4,.arr 5,.dat yi,.dat .str,.dat .str,.dat yi]),.dat .bool]),[(3,.arr 3 yi),(4,.rows 22 3 yi),(5,.arr 3 yi)],[],[]⟩ yq56
def wany(k:(List UInt8)×Int)(v:Int×Int×(List (List UInt8))):Tr ((Int×Int×(List (List UInt8)))⊕(Int×(List (List UInt8)))):=.t (v.2.1<(length k.1:Int)) (.g (inR v.2.1 (length k.1))<|.t (((UInt8.toNat (getD k.1 (toNat v.2.1) 0):Nat):Int)==k.2) (.g ((0<=v.1)&&(v.1<=v.2.1)&&(v.2.1<=(length k.1:Int)))<|.g ((length v.2.2+length ([(List.drop (toNat v.1) (List.take (toNat v.2.1) k.1))]:List (List UInt8)))*16<=140737488355328)<|.l (.inl ((wrap .i64 (v.2.1+1)),(wrap .i64 (v.2.1+1)),(v.2.2++([(List.drop (toNat v.1) (List.take (toNat v.2.1) k.1))]:List (List UInt8)))))) (.l (.inl (v.1,(wrap .i64 (v.2.1+1)),v.2.2)))) (.l (.inr (v.1,v.2.2)))
def wbco k v:=iter (λv=>(wany k v).ev) v
abbrev yq58:Keep:=yk [] [0,5,6] (yj [.dat .str,.arr 8,.dat yi]) [(8,.arr 9 .str)]
abbrev yq60{a b c d:Type}(t:(a×b×c)×d):=(t.1.1,t.1.2.1)
abbrev yq61{a b c d e g h i:Type}(t:(a×b×c×d×e×g)×h×i):=(t.1.2.2.2.1,t.1.2.2.2.2.1,t.2.1)
def wbla:LD:=yl (wany) (yk [] [0,1,5,6,7] (yj [.dat .str,.dat (.int .u8),.arr 8,.dat yi,.dat yi]) [(8,.arr 9 .str)]) [(0,yq58)] yq14 (λk v=>((k.1,k.2,(),v.1,v.2.1,()),v.2.2,())) yq60 yq61 (λk r=>yx 0 yq58 ((k.1,(),r.1,()),r.2,()))
def wblb(a:List UInt8)(e:Int):Tr (List (List UInt8)):=.c _ (wbco (a,e) (0,0,[])) λb=>.g ((0<=b.1)&&(b.1<=(length a:Int)))<|.g ((length b.2+length ([(List.drop (toNat b.1) (List.take (length a) a))]:List (List UInt8)))*16<=140737488355328)<|.l (b.2++([(List.drop (toNat b.1) (List.take (length a) a))]:List (List UInt8)))
def wayu a b:=(wblb a b).ev
def wbuo:FP prog:=fnP cx func27 [] (yj [.dat .str,.dat (.int .u8)]) [] [] (yq1 wblb) ⟨[.ren 8 0],[.tmp 4],Zbh,[(0,.arr 9 .str)],[],[]⟩ yq19 noZ [(0,wbla)]
def wbeg(f:(Int)->Option (List UInt8))(a:Int):Tr (List UInt8):=.t (a<0) (.c _ (f (wrap .i64 (0-a))) λe=>.g (length ([45]:List UInt8)+length e<=9223372036854775807)<|.l (([45]:List UInt8)++e)) (.t (a<10) (.g ((0<=a)&&(a<=(wrap .i64 (a+1)))&&((wrap .i64 (a+1))<=(length ([48,49,50,51,52,53,54,55,56,57]:List UInt8):Int)))<|.l (List.drop (toNat a) (List.take (toNat (wrap .i64 (a+1))) ([48,49,50,51,52,53,54,55,56,57]:List UInt8)))) (.g (!decide ((10:Int)=0))<|.c _ (f (wrap .i64 (Int.tdiv a 10))) λb=>.g (!decide ((10:Int)=0))<|.g (!decide ((10:Int)=0))<|.g (((0:Int)<=(Int.tmod a 10))&&((Int.tmod a 10)<=(wrap .i64 ((Int.tmod a 10)+1)))&&((wrap .i64 ((Int.tmod a 10)+1))<=(length ([48,49,50,51,52,53,54,55,56,57]:List UInt8):Int)))<|.g (length b+length (List.drop (toNat (Int.tmod a 10)) (List.take (toNat (wrap .i64 ((Int.tmod a 10)+1))) ([48,49,50,51,52,53,54,55,56,57]:List UInt8)))<=9223372036854775807)<|.l (b++(List.drop (toNat (Int.tmod a 10)) (List.take (toNat (wrap .i64 ((Int.tmod a 10)+1))) ([48,49,50,51,52,53,54,55,56,57]:List UInt8))))))
noncomputable def wafu:Nat->(Int)->Option (List UInt8) |0=>λ_=>none |n+1=>λa=>(wbeg (wafu n) a).ev
def wcjs:RetK:=yr [.tmp 2] (yj [.dat .str])
def wbsv(a:(Int)->Option (List UInt8)):FD:={A:=Zv,ins:=[],lend:=[],R:=List UInt8,F:=λx=>a x.1.1,emb:=λr=>([.dat .str r],[])}
def wcfm(n:Nat):FD:=wbsv (wafu n)
theorem wbsw:∀n:Nat,FDok prog (47,wcfm n) |0=>λ_ _ h=>nomatch h |n+1=>fn_ok mixed (env_ok (fdC (wbsw n) fdN)) tabOK (fnMk (wcfm (n+1)) (envOf [(47,wbsv (wafu n))]) wcjs noZ [] ((f47.body).getD .skip) (λx=>wbeg (wafu n) x.1.1) (λr=>((r,()),())) func47 (lpMk (by kernel_rfl) lpN) λ_=>by kernel_rfl)
def wbbz:FP prog:=⟨_,wbsw 1000000⟩
def wayv(k:(List UInt8)×Int)(v:Int):Tr (Int⊕(Unit⊕Unit)):=.t (v<(length k.1:Int)) (.g (inR v (length k.1))<|.c _ (waoo (wrap .i64 ((UInt8.toNat (getD k.1 (toNat v) 0):Nat):Int)) 32 126) λa=>.t (!a) (.l (.inr (.inr ()))) (.g (inR v (length k.1))<|.t (((UInt8.toNat (getD k.1 (toNat v) 0):Nat):Int)==(35:Int)) (.l (.inr (.inr ()))) (.l (.inl (wrap .i64 (v+1)))))) (.l (.inr (.inl ())))
def wbfi k v:=iter (λv=>(wayv k v).ev) v
abbrev yq64:Keep:=yh [0,1] (yj [.dat .str,.dat yi])
abbrev yq65:Keep:=yh [4] (yj [.dat .bool])
abbrev yq66{a b c:Type}(k:a×b)(v:c):=((k.1,k.2,v,()),())
def wblc:LD:=yl (wayv) (yh [0,1,5] (yj [.dat .str,.dat yi,.dat yi])) [(0,yq64)] yq65 yq66 yq60 yq45 (λk r=>.s _ _ r (λ_=>yx 0 yq64 ((k.1,k.2,()),())) (λ_=>yz yq65 ((false,()),())))
def wbup(a:List UInt8)(b:Int):Tr Bool:=.c _ (wbfi (a,b) 0) λe=>.s _ _ e (λ_=>.l ((length a:Int)<=b)) (λ_=>.l false)
def wbld a b:=(wbup a b).ev
def wcjt:FP prog:=fnP cx func49 [wbbl] (yj [.dat .str,.dat yi]) [] [] (yq1 wbup) yq47 yq2 noZ [(0,wblc)]
def wayw(k:(List UInt8)×Int)(v:Int):Tr (Int⊕(Unit⊕Unit)):=.t (v<(length k.1:Int)) (.g (inR v (length k.1))<|.t (((UInt8.toNat (getD k.1 (toNat v) 0):Nat):Int)==k.2) (.l (.inr (.inr ()))) (.l (.inl (wrap .i64 (v+1))))) (.l (.inr (.inl ())))
def wbfj k v:=iter (λv=>(wayw k v).ev) v
def wble:LD:=yl (wayw) (yh [0,1,5] (yj [.dat .str,.dat (.int .u8),.dat yi])) [(0,yq14)] yq65 yq66 yq60 yq45 (λ_ r=>.s _ _ r (λ_=>yx 0 yq14 ((),())) (λ_=>yz yq65 ((true,()),())))
def wbuq(e:List UInt8)(b:Int):Tr Bool:=.c _ (wbfj (e,b) 0) λa=>.s _ _ a (λ_=>.l false) (λ_=>.l true)
def wblf a b:=(wbuq a b).ev
def wcju:FP prog:=fnP cx func50 [] (yj [.dat .str,.dat (.int .u8)]) [] [] (yq1 wbuq) yq47 yq2 noZ [(0,wble)]
def wbur(a g:List UInt8):Tr Bool:=.t (!(a==([]:List UInt8))) (.c _ (wbld a 160) λb=>.t b (.c _ (wblf a 64) λe=>.t (!e) (.c _ (wbld g 200) λf=>.l f) (.l false)) (.l false)) (.l false)
def wbfk a b:=(wbur a b).ev
def wbus:FP prog:=fnP cx func30 [wcjt,wcju] (yj [.agg Zbg]) [] [] (yq24 wbur) yq46 yq2
def wayx(k:List UInt8)(v:Int×Int):Tr (Yah⊕Int):=.t (v.2<(length k:Int)) (.g (inR v.2 (length k))<|.g (!decide ((999979:Int)=0))<|.l (.inl ((Int.tmod (wrap .i64 ((wrap .i64 ((wrap .i64 ((41:Int)*v.1))+(wrap .i64 ((UInt8.toNat (getD k (toNat v.2) 0):Nat):Int))))+1)) 999979),(wrap .i64 (v.2+1))))) (.l (.inr v.1))
def wbfl k v:=iter (λv=>(wayx k v).ev) v
abbrev yq69:Keep:=yh [3] Zv
def wblg:LD:=yl (wayx) (yh [0,3,4] (yj [.dat .str,.dat yi,.dat yi])) [(0,yq69)] yq14 yq6 yq7 yq8 (λ_ r=>yx 0 yq69 ((r,()),()))
def wbut(b:List UInt8):Tr Int:=.c _ (wbfl b (7,0)) λa=>.l a
def wbuu a:=(wbut a).ev
abbrev yq70:RetK:=yr [.tmp 2] Zv
def wcjv:FP prog:=fnP cx func114 [] (yj [.dat .str]) [] [] (yq18 wbut) yq70 yq2 noZ [(0,wblg)]
def wbuv(a:List UInt8):Tr (List UInt8):=.g (length a+length ([35]:List UInt8)<=9223372036854775807)<|.c _ (wbuu a) λe=>.c _ (wafu 1000000 e) λb=>.g (length (a++([35]:List UInt8))+length b<=9223372036854775807)<|.l ((a++([35]:List UInt8))++b)
def wblh a:=(wbuv a).ev
abbrev yq71:RetK:=yr [.tmp 2] (yj [.dat .str])
def wcjw:FP prog:=fnP cx func74 [wcjv,wbbz] (yj [.dat .str]) [] [] (yq18 wbuv) yq71 yq2
def wbuw(h:Int)(b e:List UInt8):Tr (List UInt8):=.c _ (wafu 1000000 h) λa=>.g (length a+length ([32]:List UInt8)<=9223372036854775807)<|.g (length (a++([32]:List UInt8))+length b<=9223372036854775807)<|.g (length ((a++([32]:List UInt8))++b)+length ([64]:List UInt8)<=9223372036854775807)<|.g (length (((a++([32]:List UInt8))++b)++([64]:List UInt8))+length e<=9223372036854775807)<|.c _ (wblh ((((a++([32]:List UInt8))++b)++([64]:List UInt8))++e)) λf=>.g (length f+length ([10]:List UInt8)<=9223372036854775807)<|.l (f++([10]:List UInt8))
def wbli a b c:=(wbuw a b c).ev
abbrev yq73{a b c d e g:Type}{z:Type _}(f:a->b->c->z)(x:(a×(b×c×d)×e)×g):z:=f x.1.1 x.1.2.1.1 x.1.2.1.2.1
abbrev yq72:RetK:=yr [.tmp 4] (yj [.dat .str])
def wcfn:FP prog:=fnP cx func48 [wbbz,wcjw] (yj [.dat yi,.agg Zbg]) [] [] (yq73 wbuw) yq72 yq2
def wbux(f:List UInt8)(h:Int):Tr ((List UInt8)×Ybi):=.c _ (wafu 1000000 h) λb=>.g (length b+length ([32]:List UInt8)<=9223372036854775807)<|.c _ (wayu f 35) λa=>.g (inR 0 (length a))<|.g ((toNat 0)<length a)<|.t ((length (getD a (toNat 0) []):Int)<(length (b++([32]:List UInt8)):Int)) (.l ([],[],false)) (.g (((0:Int)<=(length (b++([32]:List UInt8)):Int))&&((length (b++([32]:List UInt8)):Int)<=(length (getD a (toNat 0) []):Int)))<|.t (!((List.drop 0 (List.take (toNat (length (b++([32]:List UInt8)):Int)) (getD a (toNat 0) [])))==(b++([32]:List UInt8)))) (.l ([],[],false)) (.g (((0:Int)<=(length (b++([32]:List UInt8)):Int))&&((length (b++([32]:List UInt8)):Int)<=(length (getD a (toNat 0) []):Int)))<|.c _ (wayu (List.drop (toNat (length (b++([32]:List UInt8)):Int)) (List.take (length (getD a (toNat 0) [])) (getD a (toNat 0) []))) 64) λe=>.g (inR 0 (length e))<|.g ((toNat 0)<length e)<|.t ((length (getD e (toNat 0) []):Int)==(length (List.drop (toNat (length (b++([32]:List UInt8)):Int)) (List.take (length (getD a (toNat 0) [])) (getD a (toNat 0) []))):Int)) (.l ([],[],false)) (.g (((0:Int)<=(wrap .i64 ((length (getD e (toNat 0) []):Int)+1)))&&((wrap .i64 ((length (getD e (toNat 0) []):Int)+1))<=(length (List.drop (toNat (length (b++([32]:List UInt8)):Int)) (List.take (length (getD a (toNat 0) [])) (getD a (toNat 0) []))):Int)))<|.c _ (wbfk (getD e (toNat 0) []) (List.drop (toNat (wrap .i64 ((length (getD e (toNat 0) []):Int)+1))) (List.take (length (List.drop (toNat (length (b++([32]:List UInt8)):Int)) (List.take (length (getD a (toNat 0) [])) (getD a (toNat 0) [])))) (List.drop (toNat (length (b++([32]:List UInt8)):Int)) (List.take (length (getD a (toNat 0) [])) (getD a (toNat 0) [])))))) λj=>.t j (.c _ (wbli h (getD e (toNat 0) []) (List.drop (toNat (wrap .i64 ((length (getD e (toNat 0) []):Int)+1))) (List.take (length (List.drop (toNat (length (b++([32]:List UInt8)):Int)) (List.take (length (getD a (toNat 0) [])) (getD a (toNat 0) [])))) (List.drop (toNat (length (b++([32]:List UInt8)):Int)) (List.take (length (getD a (toNat 0) [])) (getD a (toNat 0) [])))))) λi=>.g (length f+length ([10]:List UInt8)<=9223372036854775807)<|.l ((getD e (toNat 0) []),(List.drop (toNat (wrap .i64 ((length (getD e (toNat 0) []):Int)+1))) (List.take (length (List.drop (toNat (length (b++([32]:List UInt8)):Int)) (List.take (length (getD a (toNat 0) [])) (getD a (toNat 0) [])))) (List.drop (toNat (length (b++([32]:List UInt8)):Int)) (List.take (length (getD a (toNat 0) [])) (getD a (toNat 0) []))))),(i==(f++([10]:List UInt8))))) (.l ((getD e (toNat 0) []),(List.drop (toNat (wrap .i64 ((length (getD e (toNat 0) []):Int)+1))) (List.take (length (List.drop (toNat (length (b++([32]:List UInt8)):Int)) (List.take (length (getD a (toNat 0) [])) (getD a (toNat 0) [])))) (List.drop (toNat (length (b++([32]:List UInt8)):Int)) (List.take (length (getD a (toNat 0) [])) (getD a (toNat 0) []))))),false)))))
def wbuy a b:=(wbux a b).ev
def wcjx:FP prog:=fnP cx func28 [wbbz,wbuo,wbus,wcfn] (yj [.dat .str,.dat yi]) [] [] (yq1 wbux) (yr [.cell 4 55,.tmp 5] (yj [.agg Zbg,.dat .bool])) (λr=>(((r.1,r.2.1,()),r.2.2,()),()))
def wayy(k:List UInt8)(v:Int×(List Yao)):Tr ((Int×(List Yao))⊕(Int×(List Yao))):=.t (v.1<(length k:Int)) (.t ((length v.2:Int)<(60:Int)) (.g ((0<=v.1)&&(v.1<=(length k:Int)))<|.c _ (wayu (List.drop (toNat v.1) (List.take (length k) k)) 10) λa=>.g (inR 0 (length a))<|.g ((toNat 0)<length a)<|.c _ (wbuy (getD a (toNat 0) []) (length v.2:Int)) λb=>.t ((length a:Int)<(2:Int)) (.l (.inr (v.1,v.2))) (.t (!b.2.2) (.l (.inr (v.1,v.2))) (.g ((length v.2+length ([(b.1,b.2.1)]:List Yao))*32<=140737488355328)<|.g (inR 0 (length a))<|.g ((toNat 0)<length a)<|.l (.inl ((wrap .i64 ((wrap .i64 (v.1+(length (getD a (toNat 0) []):Int)))+1)),(v.2++([(b.1,b.2.1)]:List Yao))))))) (.l (.inr (v.1,v.2)))) (.l (.inr (v.1,v.2)))
def wbfm k v:=iter (λv=>(wayy k v).ev) v
abbrev yq77:Keep:=yk [] [4,5] (yj [.arr 9,.dat yi]) [(9,.arr 55 (.pair .str .str))]
def wblj:LD:=yl (wayy) (yk [] [0,4,5] (yj [.dat .str,.arr 9,.dat yi]) [(9,.arr 55 (.pair .str .str))]) [(0,yq77)] yq14 yq15 yq7 yq16 (λ_ r=>yx 0 yq77 (((),r.1,()),r.2,()))
def wbuz(b:List UInt8):Tr (Int×(List Yao)):=.c _ (wbfm b (0,([]:List Yao))) λa=>.l (a.1,a.2)
def wbeh a:=(wbuz a).ev
abbrev yq79{a b:Type}(r:a×b):=(((),r.1,()),r.2,())
def wcfo:FP prog:=fnP cx func15 [wbuo,wcjx] (yj [.dat .str]) [] [] (yq18 wbuz) ⟨[.ren 9 0],[.tmp 2,.tmp 3],(yj [.arr 0,.dat yi]),[(0,.arr 55 (.pair .str .str))],[],[]⟩ yq79 noZ [(0,wblj)]
def wbva(a b:List UInt8)(f:Int):Tr Bool:=.t ((30000:Int)<(wrap .i64 ((length a:Int)+(length b:Int)))) (.l false) (.g (length a+length b<=9223372036854775807)<|.c _ (wbeh (a++b)) λe=>.c _ (wbeh a) λh=>.t (e.1==(wrap .i64 ((length a:Int)+(length b:Int)))) (.t (h.1==(length a:Int)) (.l ((length e.2:Int)==f)) (.l false)) (.l false))
def wbfn a b c:=(wbva a b c).ev
def wbvb:FP prog:=fnP cx func14 [wcfo] (yj [.agg Zau]) [] [] (yq30 wbva) yq46 yq2
def wbvc(a:Y1)(m:List Y1)(e:Y1)(i:Int)(g f:List UInt8)(j:Int):Tr Bool:=.c _ (wbee a m e i) λb=>.t b (.c _ (wbfn g f j) λh=>.l h) (.l false)
def wbvd a h b f e c g:=(wbvc a h b f e c g).ev
abbrev yq80{a b c d e g h i j l:Type}{z:Type _}(f:a->b->c->d->e->g->h->z)(x:((a×b×c×d×e×g×h×i)×j)×l):z:=f x.1.1.1 x.1.1.2.1 x.1.1.2.2.1 x.1.1.2.2.2.1 x.1.1.2.2.2.2.1 x.1.1.2.2.2.2.2.1 x.1.1.2.2.2.2.2.2.1
def wcjy:FP prog:=fnP cx func29 [wbkw,wbvb] (yj [.agg Zat]) [] [] (yq80 wbvc) yq46 yq2
def wbve(a f c b:Int)(e:Y1):Tr Bool:=.t (a==1) (.t (a==1) (.t (c==0) (.t (b==0) (.l ((length e:Int)==(0:Int))) (.l false)) (.l false)) (.t (a==3) (.t (a==3) (.t (b==0) (.l ((length e:Int)==(0:Int))) (.l false)) (.t (a==5) (.l ((length e:Int)==(0:Int))) (.t (a==6) (.t (c==0) (.l (b==0)) (.l false)) (.t (a==7) (.t (f==0) (.t (c==0) (.l (b==0)) (.l false)) (.l false)) (.t (a==10) (.t (f==0) (.t (c==0) (.t (b==0) (.l ((length e:Int)==(0:Int))) (.l false)) (.l false)) (.l false)) (.t (a==11) (.t (f==0) (.t (c==0) (.t (b==0) (.l ((length e:Int)==(0:Int))) (.l false)) (.l false)) (.l false)) (.l false))))))) (.t (a==4) (.t (b==0) (.l ((length e:Int)==(0:Int))) (.l false)) (.t (a==5) (.l ((length e:Int)==(0:Int))) (.t (a==6) (.t (c==0) (.l (b==0)) (.l false)) (.t (a==7) (.t (f==0) (.t (c==0) (.l (b==0)) (.l false)) (.l false)) (.t (a==10) (.t (f==0) (.t (c==0) (.t (b==0) (.l ((length e:Int)==(0:Int))) (.l false)) (.l false)) (.l false)) (.t (a==11) (.t (f==0) (.t (c==0) (.t (b==0) (.l ((length e:Int)==(0:Int))) (.l false)) (.l false)) (.l false)) (.l false))))))))) (.t (a==2) (.t (a==2) (.t (c==0) (.t (b==0) (.l ((length e:Int)==(0:Int))) (.l false)) (.l false)) (.t (a==3) (.t (a==3) (.t (b==0) (.l ((length e:Int)==(0:Int))) (.l false)) (.t (a==5) (.l ((length e:Int)==(0:Int))) (.t (a==6) (.t (c==0) (.l (b==0)) (.l false)) (.t (a==7) (.t (f==0) (.t (c==0) (.l (b==0)) (.l false)) (.l false)) (.t (a==10) (.t (f==0) (.t (c==0) (.t (b==0) (.l ((length e:Int)==(0:Int))) (.l false)) (.l false)) (.l false)) (.t (a==11) (.t (f==0) (.t (c==0) (.t (b==0) (.l ((length e:Int)==(0:Int))) (.l false)) (.l false)) (.l false)) (.l false))))))) (.t (a==4) (.t (b==0) (.l ((length e:Int)==(0:Int))) (.l false)) (.t (a==5) (.l ((length e:Int)==(0:Int))) (.t (a==6) (.t (c==0) (.l (b==0)) (.l false)) (.t (a==7) (.t (f==0) (.t (c==0) (.l (b==0)) (.l false)) (.l false)) (.t (a==10) (.t (f==0) (.t (c==0) (.t (b==0) (.l ((length e:Int)==(0:Int))) (.l false)) (.l false)) (.l false)) (.t (a==11) (.t (f==0) (.t (c==0) (.t (b==0) (.l ((length e:Int)==(0:Int))) (.l false)) (.l false)) (.l false)) (.l false))))))))) (.t (a==8) (.t (a==8) (.t (c==0) (.t (b==0) (.l ((length e:Int)==(0:Int))) (.l false)) (.l false)) (.t (a==3) (.t (a==3) (.t (b==0) (.l ((length e:Int)==(0:Int))) (.l false)) (.t (a==5) (.l ((length e:Int)==(0:Int))) (.t (a==6) (.t (c==0) (.l (b==0)) (.l false)) (.t (a==7) (.t (f==0) (.t (c==0) (.l (b==0)) (.l false)) (.l false)) (.t (a==10) (.t (f==0) (.t (c==0) (.t (b==0) (.l ((length e:Int)==(0:Int))) (.l false)) (.l false)) (.l false)) (.t (a==11) (.t (f==0) (.t (c==0) (.t (b==0) (.l ((length e:Int)==(0:Int))) (.l false)) (.l false)) (.l false)) (.l false))))))) (.t (a==4) (.t (b==0) (.l ((length e:Int)==(0:Int))) (.l false)) (.t (a==5) (.l ((length e:Int)==(0:Int))) (.t (a==6) (.t (c==0) (.l (b==0)) (.l false)) (.t (a==7) (.t (f==0) (.t (c==0) (.l (b==0)) (.l false)) (.l false)) (.t (a==10) (.t (f==0) (.t (c==0) (.t (b==0) (.l ((length e:Int)==(0:Int))) (.l false)) (.l false)) (.l false)) (.t (a==11) (.t (f==0) (.t (c==0) (.t (b==0) (.l ((length e:Int)==(0:Int))) (.l false)) (.l false)) (.l false)) (.l false))))))))) (.t (a==9) (.t (c==0) (.t (b==0) (.l ((length e:Int)==(0:Int))) (.l false)) (.l false)) (.t (a==3) (.t (a==3) (.t (b==0) (.l ((length e:Int)==(0:Int))) (.l false)) (.t (a==5) (.l ((length e:Int)==(0:Int))) (.t (a==6) (.t (c==0) (.l (b==0)) (.l false)) (.t (a==7) (.t (f==0) (.t (c==0) (.l (b==0)) (.l false)) (.l false)) (.t (a==10) (.t (f==0) (.t (c==0) (.t (b==0) (.l ((length e:Int)==(0:Int))) (.l false)) (.l false)) (.l false)) (.t (a==11) (.t (f==0) (.t (c==0) (.t (b==0) (.l ((length e:Int)==(0:Int))) (.l false)) (.l false)) (.l false)) (.l false))))))) (.t (a==4) (.t (b==0) (.l ((length e:Int)==(0:Int))) (.l false)) (.t (a==5) (.l ((length e:Int)==(0:Int))) (.t (a==6) (.t (c==0) (.l (b==0)) (.l false)) (.t (a==7) (.t (f==0) (.t (c==0) (.l (b==0)) (.l false)) (.l false)) (.t (a==10) (.t (f==0) (.t (c==0) (.t (b==0) (.l ((length e:Int)==(0:Int))) (.l false)) (.l false)) (.l false)) (.t (a==11) (.t (f==0) (.t (c==0) (.t (b==0) (.l ((length e:Int)==(0:Int))) (.l false)) (.l false)) (.l false)) (.l false)))))))))))
def wbvf a f b e c:=(wbve a f b e c).ev
abbrev yq81{a b c d e g h i:Type}{z:Type _}(f:a->b->c->d->e->z)(x:((a×b×c×d×e×g)×h)×i):z:=f x.1.1.1 x.1.1.2.1 x.1.1.2.2.1 x.1.1.2.2.2.1 x.1.1.2.2.2.2.1
def wcjz:FP prog:=fnP cx func128 [] (yj [.agg Zaz]) [] [] (yq81 wbve) yq46 yq2
def wbvg(a:Y1)(_f:List Y1)(e:Int):Tr Bool:=.c _ (waoo e 0 (wrap .i64 ((length a:Int) -1))) λb=>.l b
def wbcp a b c:=(wbvg a b c).ev
def wcfp:FP prog:=fnP cx func201 [wbbl] (yj [.agg Zh,.dat yi]) [] [] (yq9 wbvg) yq47 yq2
def wayz(k:Y1×Int)(v:Int):Tr (Int⊕(Unit⊕Unit)):=.t (v<(length k.1:Int)) (.g (inR v (length k.1))<|.t ((getD k.1 (toNat v) 0)==k.2) (.l (.inr (.inr ()))) (.l (.inl (wrap .i64 (v+1))))) (.l (.inr (.inl ())))
def wbfo k v:=iter (λv=>(wayz k v).ev) v
abbrev yq82:Keep:=yh [0,1,5] (yj [.dat y1,.dat yi,.dat yi])
def wblk:LD:=yl (wayz) yq82 [(0,yq14)] yq65 yq66 yq60 yq45 (λ_ r=>.s _ _ r (λ_=>yx 0 yq14 ((),())) (λ_=>yz yq65 ((true,()),())))
def wbvh(b:Y1)(e:Int):Tr Bool:=.c _ (wbfo (b,e) 0) λa=>.s _ _ a (λ_=>.l false) (λ_=>.l true)
def wbbm a b:=(wbvh a b).ev
def wbvi:FP prog:=fnP cx func200 [] (yj [.dat y1,.dat yi]) [] [] (yq1 wbvh) yq47 yq2 noZ [(0,wblk)]
def wbvj(b:Y1)(h:List Y1)(f:Y1)(_i a:Int):Tr Bool:=.c _ (wbcp b h a) λe=>.t e (.c _ (wbbm f a) λg=>.l (!g)) (.l false)
def wbei a f b e c:=(wbvj a f b e c).ev
def wcka:FP prog:=fnP cx func199 [wcfp,wbvi] (yj [.agg Zl,.dat yi]) [] [] (yq10 wbvj) yq47 yq2
def wbvk(g:Y1)(b:List Y1)(f:Y1)(h a e i _af:Int)(j:Y1):Tr Bool:=.t (a==1) (.t (a==1) (.c _ (wbei g b f h e) λn=>.l n) (.t (a==2) (.c _ (wbbm f e) λz=>.l z) (.t (a==3) (.c _ (wbbm f e) λad=>.t ad (.c _ (wbei g b f h i) λs=>.l s) (.l false)) (.t (a==4) (.c _ (wbcp g b e) λr=>.l r) (.t (a==5) (.c _ (waoo e 0 (wrap .i64 ((length b:Int) -1))) λaa=>.t aa (.c _ (wbcp g b i) λq=>.l q) (.l false)) (.t (a==6) (.l ((length j:Int)==(length b:Int))) (.t (a==9) (.c _ (waoo e 0 (wrap .i64 ((length b:Int) -1))) λm=>.l m) (.t (a==10) (.l ((0:Int)<(length f:Int))) (.l true))))))))) (.t (a==8) (.c _ (wbei g b f h e) λy=>.l y) (.t (a==2) (.c _ (wbbm f e) λp=>.l p) (.t (a==3) (.c _ (wbbm f e) λo=>.t o (.c _ (wbei g b f h i) λu=>.l u) (.l false)) (.t (a==4) (.c _ (wbcp g b e) λae=>.l ae) (.t (a==5) (.c _ (waoo e 0 (wrap .i64 ((length b:Int) -1))) λac=>.t ac (.c _ (wbcp g b i) λw=>.l w) (.l false)) (.t (a==6) (.l ((length j:Int)==(length b:Int))) (.t (a==9) (.c _ (waoo e 0 (wrap .i64 ((length b:Int) -1))) λab=>.l ab) (.t (a==10) (.l ((0:Int)<(length f:Int))) (.l true)))))))))
def wbvl a j c g f e h i b:=(wbvk a j c g f e h i b).ev
abbrev yq83{a b c d e g h i j l m n o:Type}{z:Type _}(f:a->b->c->d->g->h->i->j->l->z)(x:((a×b×c×d×e)×(g×h×i×j×l×m)×n)×o):z:=f x.1.1.1 x.1.1.2.1 x.1.1.2.2.1 x.1.1.2.2.2.1 x.1.2.1.1 x.1.2.1.2.1 x.1.2.1.2.2.1 x.1.2.1.2.2.2.1 x.1.2.1.2.2.2.2.1
def wckb:FP prog:=fnP cx func129 [wcka,wbvi,wcfp,wbbl] (yj [.agg Zl,.agg Zaz]) [] [] (yq83 wbvk) yq47 yq2
def wawo(k:Y1×Int)(v:Int):Tr (Int⊕Int):=.t (v<(length k.1:Int)) (.g (inR v (length k.1))<|.t ((getD k.1 (toNat v) 0)<k.2) (.l (.inl (wrap .i64 (v+1)))) (.l (.inr v))) (.l (.inr v))
def wbcq k v:=iter (λv=>(wawo k v).ev) v
def wbll:LD:=yl (wawo) yq82 [(0,yq82)] yq14 yq66 yq60 yq45 (λk r=>yx 0 yq82 ((k.1,k.2,r,()),()))
def wbvm(a:Y1)(e:Int):Tr Y1:=.c _ (wbcq (a,e) 0) λb=>.t (b<(length a:Int)) (.g (inR b (length a))<|.t ((getD a (toNat b) 0)==e) (.f) (.g ((0<=b)&&(b<=(length a:Int)))<|.g ((length ([]:Y1)+length (List.drop 0 (List.take (toNat b) a)))*8<=140737488355328)<|.g ((length (([]:Y1)++(List.drop 0 (List.take (toNat b) a)))+length ([e]:Y1))*8<=140737488355328)<|.g ((0<=b)&&(b<=(length a:Int)))<|.g ((length ((([]:Y1)++(List.drop 0 (List.take (toNat b) a)))++([e]:Y1))+length (List.drop (toNat b) (List.take (length a) a)))*8<=140737488355328)<|.l (((([]:Y1)++(List.drop 0 (List.take (toNat b) a)))++([e]:Y1))++(List.drop (toNat b) (List.take (length a) a))))) (.g ((0<=b)&&(b<=(length a:Int)))<|.g ((length ([]:Y1)+length (List.drop 0 (List.take (toNat b) a)))*8<=140737488355328)<|.g ((length (([]:Y1)++(List.drop 0 (List.take (toNat b) a)))+length ([e]:Y1))*8<=140737488355328)<|.g ((0<=b)&&(b<=(length a:Int)))<|.g ((length ((([]:Y1)++(List.drop 0 (List.take (toNat b) a)))++([e]:Y1))+length (List.drop (toNat b) (List.take (length a) a)))*8<=140737488355328)<|.l (((([]:Y1)++(List.drop 0 (List.take (toNat b) a)))++([e]:Y1))++(List.drop (toNat b) (List.take (length a) a))))
def wbca a b:=(wbvm a b).ev
def wbvn:FP prog:=fnP cx func196 [] (yj [.dat y1,.dat yi]) [] [] (yq1 wbvm) ⟨[.ren 33 0],[.tmp 4],Zbh,[Zaw],[],[]⟩ yq19 (zOf [(5,[(1,[140000000])])]) [(0,wbll)]
def wawp(k:Y1×Int)(v:Int×Y1):Tr (Yap⊕Y1):=.t (v.1<(length k.1:Int)) (.g (inR v.1 (length k.1))<|.t ((getD k.1 (toNat v.1) 0) !=k.2) (.g (inR v.1 (length k.1))<|.g ((length v.2+length ([(getD k.1 (toNat v.1) 0)]:Y1))*8<=140737488355328)<|.l (.inl ((wrap .i64 (v.1+1)),(v.2++([(getD k.1 (toNat v.1) 0)]:Y1))))) (.l (.inl ((wrap .i64 (v.1+1)),v.2)))) (.l (.inr v.2))
def wbcr k v:=iter (λv=>(wawp k v).ev) v
abbrev yq86:Keep:=yk [] [5] (yj [.arr 7]) [(7,.arr 3 yi)]
abbrev yq87{a b c d:Type}(k:a×b)(v:c×d):=((k.1,k.2,(),v.1,()),v.2,())
abbrev yq88{a b c d e g h:Type}(t:(a×b×c×d×e)×g×h):=(t.1.2.2.2.1,t.2.1)
def wblm:LD:=yl (wawp) (yk [] [0,1,5,6] (yj [.dat y1,.dat yi,.arr 7,.dat yi]) [(7,.arr 3 yi)]) [(0,yq86)] yq14 yq87 yq60 yq88 (λ_ r=>yx 0 yq86 (((),()),r,()))
def wbvo(a:Y1)(b:Int):Tr Y1:=.c _ (wbcr (a,b) (0,[])) λe=>.l e
def wbfp a b:=(wbvo a b).ev
abbrev yq89:RetK:=⟨[.ren 7 0],[.tmp 4],Zbh,[Zaw],[],[]⟩
def wcfq:FP prog:=fnP cx func202 [] (yj [.dat y1,.dat yi]) [] [] (yq1 wbvo) yq89 yq19 noZ [(0,wblm)]
def wbvp(a:Y1)(b:Int):Tr Y1:=.g ((0<=b)&&(b<=(length a:Int)))<|.c _ (wayj (List.drop 0 (List.take (toNat b) a))) λe=>.g (((0:Int)<=(wrap .i64 (b+1)))&&((wrap .i64 (b+1))<=(length a:Int)))<|.g ((length e+length (List.drop (toNat (wrap .i64 (b+1))) (List.take (length a) a)))*8<=140737488355328)<|.l (e++(List.drop (toNat (wrap .i64 (b+1))) (List.take (length a) a)))
def wbln a b:=(wbvp a b).ev
def wckc:FP prog:=fnP cx func259 [wbef] (yj [.dat y1,.dat yi]) [] [] (yq1 wbvp) ⟨[.ren 512 0],[.tmp 4],Zbh,[Zaw],[],[]⟩ yq19
def waza(k:Int×Y1×Y2×Y1×Int×Int×Int×Y1×Y1)(v:Int×Y2):Tr ((Int×Y2)⊕Y2):=.t (v.1<(length k.2.2.1:Int)) (.g (inR v.1 (length k.2.2.1))<|.c _ (wbln (getD k.2.2.1 (toNat v.1) []) k.1) λa=>.g (inR v.1 (length v.2))<|.g ((toNat v.1)<length v.2)<|.l (.inl ((wrap .i64 (v.1+1)),(set v.2 (toNat v.1) a)))) (.l (.inr v.2))
def wbfq k v:=iter (λv=>(waza k v).ev) v
abbrev yq97:Keep:=yk [] [1,4,5] (yj [.dat yi,.box 4 0,.box 5 0]) [Zas,(5,.cells (yj [.arr 896,.arr 581,.arr 582,.dat yi])),(896,.arr 3 yi),(581,.rows 22 3 yi),(582,.arr 3 yi)]
def wblo:LD:=yl (waza) (yk [] [1,2,4,5,6] (yj [.dat yi,.box 2 0,.box 4 0,.box 5 0,.dat yi]) [(2,.cells Zl),Zas,(5,.cells (yj [.arr 896,.arr 581,.arr 582,.dat yi])),(896,.arr 3 yi),(581,.rows 22 3 yi),(582,.arr 3 yi)]) [(0,yq97)] yq14 (λk v=>((k.1,(),(),(),v.1,()),(k.2.1,k.2.2.1,k.2.2.2.1,k.2.2.2.2.1,()),((),(),(),k.2.2.2.2.2.1,()),((),(),(),k.2.2.2.2.2.2.1,()),k.2.2.2.2.2.2.2.1,v.2,k.2.2.2.2.2.2.2.2,())) (λt=>(t.1.1,t.2.1.1,t.2.1.2.1,t.2.1.2.2.1,t.2.1.2.2.2.1,t.2.2.1.2.2.2.1,t.2.2.2.1.2.2.2.1,t.2.2.2.2.1,t.2.2.2.2.2.2.1)) (λt=>(t.1.2.2.2.2.1,t.2.2.2.2.2.1)) (λk r=>yx 0 yq97 ((k.1,(),(),()),((),(),(),k.2.2.2.2.2.1,()),((),(),(),k.2.2.2.2.2.2.1,()),k.2.2.2.2.2.2.2.1,r,k.2.2.2.2.2.2.2.2,()))
def wawx(k:Int×Int×Yax)(v:Int×Y1):Tr (Yap⊕Y1):=.t (v.1<(length v.2:Int)) (.g (inR v.1 (length v.2))<|.g ((toNat v.1)<length v.2)<|.t (k.1<(getD v.2 (toNat v.1) 0)) (.g (inR v.1 (length v.2))<|.g ((toNat v.1)<length v.2)<|.g (inR v.1 (length v.2))<|.g ((toNat v.1)<length v.2)<|.l (.inl ((wrap .i64 (v.1+1)),(set v.2 (toNat v.1) (wrap .i64 ((getD v.2 (toNat v.1) 0) -1)))))) (.l (.inl ((wrap .i64 (v.1+1)),v.2)))) (.l (.inr v.2))
def wbfr k v:=iter (λv=>(wawx k v).ev) v
abbrev yq102:Keep:=yk [] [4,5] (yj [.box 4 0,.box 5 0]) [Zas,(5,.cells (yj [.arr 896,.arr 581,.arr 582,.dat yi])),(896,.arr 3 yi),(581,.rows 22 3 yi),(582,.arr 3 yi)]
def wblp:LD:=yl (wawx) (yk [] [1,4,5,7] (yj [.dat yi,.box 4 0,.box 5 0,.dat yi]) [Zas,(5,.cells (yj [.arr 896,.arr 581,.arr 582,.dat yi])),(896,.arr 3 yi),(581,.rows 22 3 yi),(582,.arr 3 yi)]) [(2,yq102)] yq14 (λk v=>((k.1,(),(),v.1,()),((),(),(),k.2.1,()),((),(),(),k.2.2.1,()),k.2.2.2.1,k.2.2.2.2,v.2,())) (λt=>(t.1.1,t.2.1.2.2.2.1,t.2.2.1.2.2.2.1,t.2.2.2.1,t.2.2.2.2.1)) (λt=>(t.1.2.2.2.1,t.2.2.2.2.2.1)) (λk r=>yx 2 yq102 (((),(),()),((),(),(),k.2.1,()),((),(),(),k.2.2.1,()),k.2.2.2.1,k.2.2.2.2,r,()))
def wbvq(b:Y1)(i:List Y1)(g:Y1)(h e:Int):Tr (Int×Ybm):=.c _ (wbbt b i g h) λa=>.c _ (wbln b e) λf=>.c _ (wbfq (e,b,i,g,h,0,a.1,f,a.2.2.2) (0,a.2.2.1)) λj=>.c _ (wbfr (e,0,a.1,f,j) (0,a.2.2.2)) λm=>.l (a.1,f,j,m)
def wbvr a f b e c:=(wbvq a f b e c).ev
def wckd:FP prog:=fnP cx func203 [wbky,wckc] (yj [.agg Zl,.dat yi]) [] [] (yq10 wbvq) ⟨[.ren 896 1,.ren 581 2,.ren 582 3],[.cell 4 36],(yj [.agg (yj [.arr 1,.arr 2,.arr 3,.dat yi])]),[(1,.arr 3 yi),(2,.rows 22 3 yi),(3,.arr 3 yi)],[],[]⟩ yq28 noZ [(0,wblo),(2,wblp)]
def wbvs(a:Y1)(e:List Y1)(b:Y1):Tr Bool:=.c _ (wavv a e) λf=>.t f (.c _ (wbkv a e b) λg=>.t g (.l ((0:Int)<(length b:Int))) (.l false)) (.l false)
def wbcs a b c:=(wbvs a b c).ev
def wbfs:FP prog:=fnP cx func186 [wbbs,wcfl] (yj [.agg Zh,.dat y1]) [] [] (yq9 wbvs) yq47 yq2
def waxc(k:Y1×Int×Nat×Y1×Y2×Y2×Y2)(v:Int×Y2):Tr ((Int×Y2)⊕Y2):=.t (v.1<(length k.2.2.2.1:Int)) (.c _ (wbbm k.1 v.1) λb=>.t (!b) (.c _ (wbca (getD k.2.2.2.2.2.2 k.2.2.1 []) v.1) λa=>.g ((length v.2+1)*24<=140737488355328)<|.l (.inl ((wrap .i64 (v.1+1)),(set (v.2++ [[]]) (length v.2) a)))) (.l (.inl ((wrap .i64 (v.1+1)),v.2)))) (.l (.inr v.2))
def wbft k v:=iter (λv=>(waxc k v).ev) v
abbrev yq108:Keep:=yk [] [1,2,5,6,7,8] (yj [.dat y1,.box 2 0,.arr 11,.arr 12,.arr 13,.dat yi]) [Zbf,(11,.rows 22 3 yi),(12,.rows 22 3 yi),(13,.rows 22 3 yi)]
abbrev yq111{a b c d e g h i j l m n o p:Type}(t:(a×b×c×d×e×g×h×i×j)×l×m×n×o×p):=(t.1.2.2.2.2.2.2.2.1,t.2.2.2.2.1)
def wblq:LD:=yl (waxc) (yk [] [1,2,5,6,7,8,9,10] (yj [.dat y1,.box 2 0,.arr 11,.arr 12,.arr 13,.dat yi,.row 12,.dat yi]) [Zbf,(11,.rows 22 3 yi),(12,.rows 22 3 yi),(13,.rows 22 3 yi)]) [(2,yq108)] yq14 (λk v=>((k.1,(),(),(),(),k.2.1,k.2.2.1,v.1,()),(k.2.2.2.1,k.2.2.2.2.1,()),k.2.2.2.2.2.1,k.2.2.2.2.2.2,v.2,())) (λt=>(t.1.1,t.1.2.2.2.2.2.1,t.1.2.2.2.2.2.2.1,t.2.1.1,t.2.1.2.1,t.2.2.1,t.2.2.2.1)) yq111 (λk r=>yx 2 yq108 ((k.1,(),(),(),(),k.2.1,()),(k.2.2.2.1,k.2.2.2.2.1,()),k.2.2.2.2.2.1,k.2.2.2.2.2.2,r,()))
def wakn(k:Y1×Int×Y1×Y2×Y2×Y2×Y1)(v:Int×Y2):Tr ((Int×Y2)⊕Y2):=.t (v.1<(length k.2.2.1:Int)) (.c _ (wbbm k.1 v.1) λb=>.t (!b) (.c _ (wbca k.2.2.2.2.2.2 v.1) λa=>.g ((length v.2+1)*24<=140737488355328)<|.l (.inl ((wrap .i64 (v.1+1)),(set (v.2++ [[]]) (length v.2) a)))) (.l (.inl ((wrap .i64 (v.1+1)),v.2)))) (.l (.inr v.2))
def wazb k v:=iter (λv=>(wakn k v).ev) v
def wbcb:LD:=yl (wakn) (yk [] [1,2,5,6,7,8,9,10] (yj [.dat y1,.box 2 0,.arr 11,.arr 12,.arr 13,.dat yi,.arr 2112,.dat yi]) [Zbf,(11,.rows 22 3 yi),(12,.rows 22 3 yi),(13,.rows 22 3 yi),Zbq]) [(2,yq108)] yq14 (λk v=>((k.1,(),(),(),(),k.2.1,(),v.1,()),(k.2.2.1,k.2.2.2.1,()),k.2.2.2.2.1,k.2.2.2.2.2.1,v.2,k.2.2.2.2.2.2,())) (λt=>(t.1.1,t.1.2.2.2.2.2.1,t.2.1.1,t.2.1.2.1,t.2.2.1,t.2.2.2.1,t.2.2.2.2.2.1)) yq111 (λk r=>yx 2 yq108 ((k.1,(),(),(),(),k.2.1,()),(k.2.2.1,k.2.2.2.1,()),k.2.2.2.2.1,k.2.2.2.2.2.1,r,()))
def waua(k:Y1×Y1×Y2)(v:Int×Y2×Y2×Y2):Tr ((Int×Y2×Y2×Y2)⊕(Y2×Y2×Y2)):=.t (v.1<(length k.2.1:Int)) (.c _ (wbbm k.1 v.1) λb=>.t (!b) (.c _ (wbca k.1 v.1) λf=>.g ((length v.2.1+1)*24<=140737488355328)<|.l (.inl ((wrap .i64 (v.1+1)),(set (v.2.1++ [[]]) (length v.2.1) f),v.2.2.1,v.2.2.2))) (.c _ (wbfp k.1 v.1) λa=>.t ((0:Int)<(length a:Int)) (.g ((length v.2.2.1+1)*24<=140737488355328)<|.c _ (wbft (k.1,v.1,(length v.2.2.1),k.2.1,k.2.2,v.2.1,(set (v.2.2.1++ [[]]) (length v.2.2.1) a)) (0,v.2.2.2)) λh=>.l (.inl ((wrap .i64 (v.1+1)),v.2.1,(set (v.2.2.1++ [[]]) (length v.2.2.1) a),h))) (.c _ (wazb (k.1,v.1,k.2.1,k.2.2,v.2.1,v.2.2.1,a) (0,v.2.2.2)) λe=>.l (.inl ((wrap .i64 (v.1+1)),v.2.1,v.2.2.1,e))))) (.l (.inr (v.2.1,v.2.2.1,v.2.2.2)))
def wbfu k v:=iter (λv=>(waua k v).ev) v
abbrev yq115:Keep:=yk [] [5,6,7] (yj [.arr 11,.arr 12,.arr 13]) [(11,.rows 22 3 yi),(12,.rows 22 3 yi),(13,.rows 22 3 yi)]
abbrev yq117{a b c d e g:Type}(t:(a×b)×(c×d×e)×g):=(t.1.1,t.2.1.1,t.2.1.2.1)
def wblr:LD:=yl (waua) yq108 [(0,yq115)] yq14 (λk v=>((k.1,(),(),(),(),v.1,()),(k.2.1,k.2.2,()),v.2.1,v.2.2.1,v.2.2.2,())) yq117 (λt=>(t.1.2.2.2.2.2.1,t.2.2.1,t.2.2.2.1,t.2.2.2.2.1)) (λ_ r=>yx 0 yq115 (((),(),(),()),r.1,r.2.1,r.2.2,()))
def wbvt(b:Y1)(f:List Y1)(e:Y1):Tr Y2:=.c _ (wbfu (e,b,f) (0,[],[],[])) λa=>.g ((length a.1+length a.2.1)*24<=140737488355328)<|.g ((length (a.1++a.2.1)+length a.2.2)*24<=140737488355328)<|.l ((a.1++a.2.1)++a.2.2)
def wbvu a b c:=(wbvt a b c).ev
def wcke:FP prog:=fnP cx func258 [wbvi,wbvn,wcfq] (yj [.agg Zh,.dat y1]) [] [] (yq9 wbvt) ⟨[.ren 13 0],[.tmp 4],Zbh,[(0,.rows 22 3 yi)],[],[]⟩ yq19 (zOf [(1,[(0,[1000000]),(1,[1000000]),(2,[1000000])])]) [(2,wblq),(2,wbcb),(0,wblr)]
def waxd(k:Int×Y1×Y1×Y2)(v:Int×Int):Tr (Yah⊕Int):=.t (v.2<(length k.2.1:Int)) (.g (inR k.1 (length k.2.2.2))<|.g (inR v.2 (length k.2.1))<|.g (inR (getD k.2.1 (toNat v.2) 0) (length (getD k.2.2.2 (toNat k.1) [])))<|.g (inR k.1 (length k.2.2.2))<|.g (inR v.1 (length (getD k.2.2.2 (toNat k.1) [])))<|.t ((getD (getD k.2.2.2 (toNat k.1) []) (toNat (getD k.2.1 (toNat v.2) 0)) 0)<(getD (getD k.2.2.2 (toNat k.1) []) (toNat v.1) 0)) (.g (inR v.2 (length k.2.1))<|.l (.inl ((getD k.2.1 (toNat v.2) 0),(wrap .i64 (v.2+1))))) (.l (.inl (v.1,(wrap .i64 (v.2+1)))))) (.l (.inr v.1))
def wbbu k v:=iter (λv=>(waxd k v).ev) v
abbrev yq121:Keep:=yh [7] Zv
abbrev yq122{a b c d e g:Type}(k:a×b×c×d)(v:e×g):=((k.1,k.2.1,(),v.1,v.2,()),(k.2.2.1,k.2.2.2,()),())
abbrev yq123{a b c d e g h:Type}(t:(a×b×c)×(d×e×g)×h):=(t.1.1,t.1.2.1,t.2.1.1,t.2.1.2.1)
abbrev yq124{a b c d e g h:Type}(t:(a×b×c×d×e×g)×h):=(t.1.2.2.2.1,t.1.2.2.2.2.1)
def wbls:LD:=yl (waxd) (yk [] [1,2,3,7,8] (yj [.dat yi,.dat y1,.box 3 0,.dat yi,.dat yi]) [(3,.cells Zh)]) [(0,yq121)] yq14 yq122 yq123 yq124 (λ_ r=>yx 0 yq121 ((r,()),()))
def wbvv(b:Y1)(h:List Y1)(f:Int)(a:Y1):Tr Int:=.g (inR 0 (length a))<|.c _ (wbbu (f,a,b,h) ((getD a (toNat 0) 0),1)) λe=>.l e
def wblt a c e b:=(wbvv a c e b).ev
abbrev yq126{a b c d e g h:Type}{z:Type _}(f:a->b->d->e->z)(x:((a×b×c)×d×e×g)×h):z:=f x.1.1.1 x.1.1.2.1 x.1.2.1 x.1.2.2.1
abbrev yq125:RetK:=yr [.tmp 6] Zv
def wcfr:FP prog:=fnP cx func189 [] (yj [.agg Zh,.dat yi,.dat y1]) [] [] (yq126 wbvv) yq125 yq2 noZ [(0,wbls)]
def wbvw(f:Y1)(b:List Y1)(a:Int)(h:Y1):Tr Int:=.g (inR a (length b))<|.c _ (wblt f b a h) λe=>.g (inR e (length (getD b (toNat a) [])))<|.l (getD (getD b (toNat a) []) (toNat e) 0)
def wblu a c e b:=(wbvw a c e b).ev
def wcfs:FP prog:=fnP cx func252 [wcfr] (yj [.agg Zh,.dat yi,.dat y1]) [] [] (yq126 wbvw) yq125 yq2
def wazc(k:Y1×Y1×Y2)(v:Int×Int):Tr (Yah⊕Int):=.t (v.2<(length k.2.2:Int)) (.c _ (wblu k.2.1 k.2.2 v.2 k.1) λa=>.l (.inl ((wrap .i64 (v.1+a)),(wrap .i64 (v.2+1))))) (.l (.inr v.1))
def wbfv k v:=iter (λv=>(wazc k v).ev) v
abbrev yq127:Keep:=yk [] [1,2,5,6] (yj [.dat y1,.box 2 0,.dat yi,.dat yi]) [Zbf]
abbrev yq128:Keep:=yh [5] Zv
abbrev yq129{a b c d e:Type}(k:a×b×c)(v:d×e):=((k.1,(),v.1,v.2,()),(k.2.1,k.2.2,()),())
abbrev yq130{a b c d e g:Type}(t:(a×b×c×d×e)×g):=(t.1.2.2.1,t.1.2.2.2.1)
def wblv:LD:=yl (wazc) yq127 [(0,yq128)] yq14 yq129 yq117 yq130 (λ_ r=>yx 0 yq128 ((r,()),()))
def wbvx(a:Y1)(e:List Y1)(b:Y1):Tr Int:=.c _ (wbfv (b,a,e) (0,0)) λf=>.l f
def wbej a b c:=(wbvx a b c).ev
def wbvy:FP prog:=fnP cx func187 [wcfs] (yj [.agg Zh,.dat y1]) [] [] (yq9 wbvx) yq0 yq2 noZ [(0,wblv)]
def wazd(k:Y1×Y1×Y2)(v:Int×Int):Tr (Yah⊕Int):=.t (v.2<(length k.1:Int)) (.g (inR v.2 (length k.1))<|.g (inR (getD k.1 (toNat v.2) 0) (length k.2.1))<|.l (.inl ((wrap .i64 (v.1+(getD k.2.1 (toNat (getD k.1 (toNat v.2) 0)) 0))),(wrap .i64 (v.2+1))))) (.l (.inr v.1))
def wbfw k v:=iter (λv=>(wazd k v).ev) v
def wblw:LD:=yl (wazd) yq127 [(0,yq128)] yq14 yq129 yq117 yq130 (λ_ r=>yx 0 yq128 ((r,()),()))
def wbvz(b:Y1)(e:List Y1)(f:Y1):Tr Int:=.c _ (wbfw (f,b,e) (0,0)) λa=>.l a
def wbwa a b c:=(wbvz a b c).ev
def wckf:FP prog:=fnP cx func249 [] (yj [.agg Zh,.dat y1]) [] [] (yq9 wbvz) yq0 yq2 noZ [(0,wblw)]
def wbwb(a:Y1)(e:List Y1)(b:Y1):Tr Int:=.c _ (wbej a e b) λf=>.c _ (wbwa a e b) λg=>.l (wrap .i64 (f+g))
def wbbv a b c:=(wbwb a b c).ev
def wbwc:FP prog:=fnP cx func183 [wbvy,wckf] (yj [.agg Zh,.dat y1]) [] [] (yq9 wbwb) yq0 yq2
def waxe(k:Y1×Y1×Y2×Y2)(v:Int):Tr (Int⊕(Unit⊕Nat)):=.t (v<(length k.2.2.2:Int)) (.g (inR v (length k.2.2.2))<|.g ((toNat v)<length k.2.2.2)<|.c _ (wbbv k.2.1 k.2.2.1 (getD k.2.2.2 (toNat v) [])) λb=>.c _ (wbbv k.2.1 k.2.2.1 k.1) λa=>.t (b<a) (.g (inR v (length k.2.2.2))<|.g ((toNat v)<length k.2.2.2)<|.l (.inr (.inr (toNat v)))) (.l (.inl (wrap .i64 (v+1))))) (.l (.inr (.inl ())))
def wbfx k v:=iter (λv=>(waxe k v).ev) v
abbrev yq132:Keep:=yk [] [4,5] (yj [.row 640,.dat .bool]) [(640,.rows 22 3 yi)]
def wblx:LD:=yl (waxe) (yk [] [1,2,6,7] (yj [.dat y1,.box 2 0,.arr 640,.dat yi]) [Zbf,(640,.rows 22 3 yi)]) [(0,yq14)] yq132 (λk v=>((k.1,(),(),v,()),(k.2.1,k.2.2.1,()),k.2.2.2,())) (λt=>(t.1.1,t.2.1.1,t.2.1.2.1,t.2.2.1)) yq39 (λk r=>.s _ _ r (λ_=>yx 0 yq14 ((),())) (λb=>yz yq132 ((b,true,()),k.2.2.2,())))
def wbwd(a:Y1)(f:List Y1)(e:Y1):Tr Ybk:=.c _ (wbvu a f e) λb=>.c _ (wbfx (e,a,f,b) 0) λg=>.s _ _ g (λ_=>.l (false,[])) (λh=>.l (true,(getD b h [])))
def wbfy a b c:=(wbwd a b c).ev
def wcft:FP prog:=fnP cx func197 [wcke,wbwc] (yj [.agg Zh,.dat y1]) [] [] (yq9 wbwd) ⟨[.pull 4 800000,.ren 31 0,.ren 800000 0],[.tmp 4,.tmp 5],Zbc,[Zaw],[],[]⟩ yq79 noZ [(0,wblx)]
def waze(k:Y1×Y2)(v:Int×Bool×Y1×Y1):Tr ((Int×Bool×Y1×Y1)⊕Yap):=.t v.2.1 (.c _ (wbfy k.1 k.2 v.2.2.2) λa=>.l (.inl ((wrap .i64 (v.1+1)),a.1,v.2.2.2,a.2))) (.l (.inr (v.1,v.2.2.1)))
def wazf k v:=iter (λv=>(waze k v).ev) v
abbrev yq137:Keep:=yk [] [7,8] (yj [.arr 900707,.dat yi]) [(900707,.arr 3 yi)]
abbrev yq139{a b c d e:Type}(t:a×(b×c×d)×e):=(t.2.1.1,t.2.1.2.1)
def wbly:LD:=yl (waze) (yk [.drop 900707,.pin 7 900707,.pin 9 900709] [2,7,8,9,10] (yj [.box 2 0,.arr 900707,.dat yi,.arr 900709,.dat .bool]) [Zbf,(900707,.arr 3 yi),(900709,.arr 3 yi)]) [(0,yq137)] yq14 (λk v=>(((),(),v.1,(),v.2.1,()),(k.1,k.2,()),v.2.2.1,v.2.2.2,())) yq139 (λt=>(t.1.2.2.1,t.1.2.2.2.2.1,t.2.2.1,t.2.2.2.1)) (λ_ r=>yx 0 yq137 (((),r.1,()),r.2,()))
def wbwe(a:Y1)(b:List Y1)(e:Y1):Tr (Int×Ybk):=.c _ (wbcs a b e) λi=>.t (!i) (.l (0,false,[])) (.c _ (wayj e) λf=>.c _ (wbfy a b f) λg=>.c _ (wazf (a,b) (0,g.1,f,g.2)) λh=>.l (h.1,true,h.2))
def wbwf a b c:=(wbwe a b c).ev
abbrev yq142{a b c:Type}(r:a×b×c):=(((),r.1,r.2.1,()),r.2.2,())
def wckg:FP prog:=fnP cx func204 [wbfs,wbef,wcft] (yj [.agg Zh,.dat y1]) [] [] (yq9 wbwe) ⟨[.ren 15 0,.ren 900707 0],[.tmp 4,.tmp 5,.tmp 6],(yj [.arr 0,.dat yi,.dat .bool]),[Zaw],[],[]⟩ yq142 noZ [(0,wbly)]
def wbfz(k:Int×Int)(v:Int×Y1):Tr (Yap⊕Y1):=.t (v.1<k.1) (.g (0<=v.1)<|.t ((wrap .i64 (BitVec.toNat ((BitVec.ofInt (IntKind.bits .i64) (Int.fdiv k.2 (2^(min (toNat v.1) (IntKind.bits .i64)))))&&& (BitVec.ofInt (IntKind.bits .i64) 1))))==(1:Int)) (.g ((length v.2+length ([v.1]:Y1))*8<=140737488355328)<|.l (.inl ((wrap .i64 (v.1+1)),(v.2++([v.1]:Y1))))) (.l (.inl ((wrap .i64 (v.1+1)),v.2)))) (.l (.inr v.2))
def wbwg k v:=iter (λv=>(wbfz k v).ev) v
def wblz:LD:=yl (wbfz) (yk [] [0,1,5,6] (yj [.dat yi,.dat yi,.arr 7,.dat yi]) [(7,.arr 3 yi)]) [(0,yq86)] yq14 yq87 yq60 yq88 (λ_ r=>yx 0 yq86 (((),()),r,()))
def wcfu(a b:Int):Tr Y1:=.c _ (wbwg (a,b) (0,[])) λe=>.l e
def wbma a b:=(wcfu a b).ev
def wcfv:FP prog:=fnP cx func208 [] (yj [.dat yi,.dat yi]) [] [] (yq1 wcfu) yq89 yq19 noZ [(0,wblz)]
def wbga(k:Y1×Y1)(v:Int):Tr (Int⊕(Unit⊕Bool)):=.t (v<(length k.1:Int)) (.g (inR v (length k.1))<|.g (inR v (length k.2))<|.t ((getD k.1 (toNat v) 0) != (getD k.2 (toNat v) 0)) (.g (inR v (length k.1))<|.g (inR v (length k.2))<|.l (.inr (.inr ((getD k.1 (toNat v) 0)<(getD k.2 (toNat v) 0))))) (.l (.inl (wrap .i64 (v+1))))) (.l (.inr (.inl ())))
def wbwh k v:=iter (λv=>(wbga k v).ev) v
abbrev yq144:Keep:=yh [0,1,5] (yj [.dat y1,.dat y1,.dat yi])
def wbmb:LD:=yl (wbga) yq144 [(0,yq14)] yq65 yq66 yq60 yq45 (λ_ r=>.s _ _ r (λ_=>yx 0 yq14 ((),())) (λb=>yz yq65 ((b,()),())))
def wcfw(b a:Y1):Tr Bool:=.t ((length b:Int) != (length a:Int)) (.l ((length b:Int)<(length a:Int))) (.c _ (wbwh (b,a) 0) λe=>.s _ _ e (λ_=>.l false) (λf=>.l f))
def wckh a b:=(wcfw a b).ev
def wcki:FP prog:=fnP cx func260 [] (yj [.dat y1,.dat y1]) [] [] (yq1 wcfw) yq47 yq2 noZ [(0,wbmb)]
def wbgb(k:Int×Y2×Yap)(v:Int):Tr (Int⊕Int):=.t (0<v) (.g (inR (wrap .i64 (v-1)) (length k.2.1))<|.c _ (wckh k.2.2.2 (getD k.2.1 (toNat (wrap .i64 (v-1))) [])) λa=>.t a (.l (.inl (wrap .i64 (v-1)))) (.l (.inr v))) (.l (.inr v))
def wbwi k v:=iter (λv=>(wbgb k v).ev) v
abbrev yq154:Keep:=yk [] [0,3,4,5,6] (yj [.dat yi,.dat y2,.dat yi,.arr 1024,.dat yi]) [(1024,.arr 3 yi)]
abbrev yq148{a b c d e g h:Type}(t:(a×b×c×d×e×g)×h):=t.1.2.2.2.2.1
def wbmc:LD:=yl (wbgb) yq154 [(2,yq154)] yq14 (λk v=>((k.1,k.2.1,k.2.2.1,(),v,()),k.2.2.2,())) (λt=>(t.1.1,t.1.2.1,t.1.2.2.1,t.2.1)) yq148 (λk r=>yx 2 yq154 ((k.1,k.2.1,k.2.2.1,(),r,()),k.2.2.2,()))
def wbgc(k:Int)(v:Y2×Int):Tr ((Y2×Int)⊕Y2):=.g (0<=k)<|.t (v.2<(wrap .i64 ((1:Int)*2^(min (toNat k) (IntKind.bits .i64))))) (.c _ (wbma k v.2) λb=>.c _ (wbwi (k,v.1,v.2,b) (length v.1:Int)) λa=>.g ((0<=a)&&(a<=(length v.1:Int)))<|.g ((length ([]:List Y1)+length (List.drop 0 (List.take (toNat a) v.1)))*24<=140737488355328)<|.g ((length (([]:List Y1)++(List.drop 0 (List.take (toNat a) v.1)))+length ([b]:List Y1))*24<=140737488355328)<|.g ((0<=a)&&(a<=(length v.1:Int)))<|.g ((length ((([]:List Y1)++(List.drop 0 (List.take (toNat a) v.1)))++([b]:List Y1))+length (List.drop (toNat a) (List.take (length v.1) v.1)))*24<=140737488355328)<|.l (.inl ((((([]:List Y1)++(List.drop 0 (List.take (toNat a) v.1)))++([b]:List Y1))++(List.drop (toNat a) (List.take (length v.1) v.1))),(wrap .i64 (v.2+1))))) (.l (.inr v.1))
def wbwj k v:=iter (λv=>(wbgc k v).ev) v
abbrev yq158:Keep:=yh [3] (yj [.dat y2])
def wbmd:LD:=yl (wbgc) (yk [.fz 7,.fz 32] [0,3,4] (yj [.dat yi,.dat y2,.dat yi]) []) [(0,yq158)] yq14 yq6 yq7 yq8 (λ_ r=>yx 0 yq158 ((r,()),()))
def wcfx(a:Int):Tr Y2:=.c _ (wbwj a ([],1)) λb=>.l b
def wbgd a:=(wcfx a).ev
def wbwk:FP prog:=fnP cx func206 [wcfv,wcki] Zv [] [] (yq18 wcfx) (yr [.tmp 2] (yj [.dat y2])) yq2 (zOf [(8,[(0,[3,5])])]) [(2,wbmc),(0,wbmd)]
def wazg(k:Y2×Y1×Y2)(v:Y1×Int):Tr ((Y1×Int)⊕Y1):=.t (v.2<(length k.1:Int)) (.g (inR v.2 (length k.1))<|.c _ (wbbv k.2.1 k.2.2 (getD k.1 (toNat v.2) [])) λb=>.c _ (wbbv k.2.1 k.2.2 v.1) λa=>.t (b<a) (.g (inR v.2 (length k.1))<|.l (.inl ((getD k.1 (toNat v.2) []),(wrap .i64 (v.2+1))))) (.l (.inl (v.1,(wrap .i64 (v.2+1)))))) (.l (.inr v.1))
def wbge k v:=iter (λv=>(wazg k v).ev) v
abbrev yq161:Keep:=yh [4] Zbo
def wbme:LD:=yl (wazg) (yk [] [1,3,4,5] (yj [.box 1 0,.dat y2,.dat y1,.dat yi]) [Zag]) [(0,yq161)] yq14 (λk v=>(((),k.1,v.1,v.2,()),(k.2.1,k.2.2,()),())) yq44 yq130 (λ_ r=>yx 0 yq161 ((r,()),()))
def wbwl(b:Y1)(e:List Y1):Tr Y1:=.c _ (wbgd (length b:Int)) λa=>.g (inR 0 (length a))<|.c _ (wbge (a,b,e) ((getD a (toNat 0) []),1)) λf=>.l f
def wbwm a b:=(wbwl a b).ev
abbrev yq163:RetK:=yr [.tmp 2] Zbo
def wckj:FP prog:=fnP cx func205 [wbwk,wbwc] (yj [.agg Zh]) [] [] (yq24 wbwl) yq163 yq2 noZ [(0,wbme)]
def wazh(k:Int×Int×Int×Int×Y1×Int×Int×Y1×Ybn)(v:Int×Y2):Tr ((Int×Y2)⊕Y2):=.t (v.1<(length k.2.2.2.2.1:Int)) (.g (inR v.1 (length v.2))<|.g ((toNat v.1)<length v.2)<|.g (inR v.1 (length k.2.2.2.2.1))<|.g ((length (getD v.2 (toNat v.1) [])+length ([(getD k.2.2.2.2.1 (toNat v.1) 0)]:Y1))*8<=140737488355328)<|.g (inR v.1 (length v.2))<|.g (((toNat v.1)<length v.2)&&((toNat v.1)=(toNat v.1)))<|.l (.inl ((wrap .i64 (v.1+1)),(set v.2 (toNat v.1) ((getD v.2 (toNat v.1) [])++([(getD k.2.2.2.2.1 (toNat v.1) 0)]:Y1)))))) (.l (.inr v.2))
def wbct k v:=iter (λv=>(wazh k v).ev) v
abbrev yq91:Keep:=yk [] [4,5] (yj [.box 4 0,.box 5 0]) [Zbr,(5,.cells (yj [.arr 708,.arr 709,.arr 710,.dat yi])),(901340,.arr 3 yi),(901342,.arr 3 yi),(708,.arr 3 yi),(709,.rows 22 3 yi),(710,.arr 3 yi)]
def wbmf:LD:=yl (wazh) (yk [.ownB 4 0 901340 3 yi,.ownB 4 2 901342 3 yi] [3,4,5,6] (yj [.box 3 0,.box 4 0,.box 5 0,.dat yi]) [(3,.cells Zaz),Zbr,(5,.cells (yj [.arr 708,.arr 709,.arr 710,.dat yi])),(901340,.arr 3 yi),(901342,.arr 3 yi),(708,.arr 3 yi),(709,.rows 22 3 yi),(710,.arr 3 yi)]) [(1,yq91)] yq14 (λk v=>(((),(),(),v.1,()),(k.1,k.2.1,k.2.2.1,k.2.2.2.1,k.2.2.2.2.1,()),((),(),(),k.2.2.2.2.2.1,()),((),(),(),k.2.2.2.2.2.2.1,()),k.2.2.2.2.2.2.2.1,k.2.2.2.2.2.2.2.2.1,k.2.2.2.2.2.2.2.2.2.1,v.2,k.2.2.2.2.2.2.2.2.2.2,())) (λt=>(t.2.1.1,t.2.1.2.1,t.2.1.2.2.1,t.2.1.2.2.2.1,t.2.1.2.2.2.2.1,t.2.2.1.2.2.2.1,t.2.2.2.1.2.2.2.1,t.2.2.2.2.1,t.2.2.2.2.2.1,t.2.2.2.2.2.2.1,t.2.2.2.2.2.2.2.2.1)) (λt=>(t.1.2.2.2.1,t.2.2.2.2.2.2.2.1)) (λk r=>yx 1 yq91 (((),(),()),((),(),(),k.2.2.2.2.2.1,()),((),(),(),k.2.2.2.2.2.2.1,()),k.2.2.2.2.2.2.2.1,k.2.2.2.2.2.2.2.2.1,k.2.2.2.2.2.2.2.2.2.1,r,k.2.2.2.2.2.2.2.2.2.2,()))
def wbwn(i:Y1)(h:List Y1)(m:Y1)(p e b f o:Int)(n:Y1):Tr (Int×Ybm):=.c _ (wbbt i h m p) λa=>.t (e==1) (.c _ (wbca a.2.2.2 b) λaa=>.l (a.1,a.2.1,a.2.2.1,aa)) (.t (e==2) (.c _ (wbfp a.2.2.2 b) λab=>.l (a.1,a.2.1,a.2.2.1,ab)) (.t (e==3) (.c _ (wbfp a.2.2.2 b) λy=>.c _ (wbca y f) λw=>.l (a.1,a.2.1,a.2.2.1,w)) (.t (e==4) (.g (inR b (length a.2.1))<|.g ((toNat b)<length a.2.1)<|.l (a.1,(set a.2.1 (toNat b) f),a.2.2.1,a.2.2.2)) (.t (e==5) (.g (inR b (length a.2.2.1))<|.g ((toNat b)<length a.2.2.1)<|.g (inR f (length (getD a.2.2.1 (toNat b) [])))<|.g ((toNat f)<length (getD a.2.2.1 (toNat b) []))<|.l (a.1,a.2.1,(set a.2.2.1 (toNat b) (set (getD a.2.2.1 (toNat b) []) (toNat f) o)),a.2.2.2)) (.t (e==6) (.g ((length a.2.1+length ([b]:Y1))*8<=140737488355328)<|.c _ (wbct (e,b,f,o,n,0,a.1,[],[],(a.2.1++([b]:Y1)),a.2.2.2) (0,a.2.2.1)) λq=>.l (a.1,(a.2.1++([b]:Y1)),q,a.2.2.2)) (.t (e==7) (.c _ (wayj n) λr=>.g ((length a.2.2.1+1)*24<=140737488355328)<|.l (a.1,a.2.1,(set (a.2.2.1++ [[]]) (length a.2.2.1) r),a.2.2.2)) (.t (e==8) (.c _ (wbvr i h m p b) λj=>.l (j.1,j.2.1,j.2.2.1,j.2.2.2)) (.t (e==9) (.g ((0<=b)&&(b<=(length a.2.2.1:Int)))<|.g (((0:Int)<=(wrap .i64 (b+1)))&&((wrap .i64 (b+1))<=(length a.2.2.1:Int)))<|.g (((toNat b)<=(toNat (wrap .i64 (b+1))))&&(((toNat b)+(length a.2.2.1-(toNat (wrap .i64 (b+1)))))*24<=140737488355328))<|.l (a.1,a.2.1,(List.take (toNat b) a.2.2.1++List.drop (toNat (wrap .i64 (b+1))) a.2.2.1),a.2.2.2)) (.t (e==10) (.c _ (wbwf i h m) λz=>.l (a.1,a.2.1,a.2.2.1,z.2.2)) (.t (e==11) (.c _ (wbwm i h) λs=>.c _ (wayj s) λu=>.l (a.1,a.2.1,a.2.2.1,u)) (.l (a.1,a.2.1,a.2.2.1,a.2.2.2))))))))))))
def wbwo a j c g f e h i b:=(wbwn a j c g f e h i b).ev
def wckk:FP prog:=fnP cx func130 [wbky,wbvn,wcfq,wbef,wckd,wckg,wckj] (yj [.agg Zl,.agg Zaz]) [] [] (yq83 wbwn) ⟨[.pinB 4 0 1,.pinB 4 1 6,.pinB 4 2 7],[.cell 4 36],(yj [.agg (yj [.arr 1,.arr 6,.arr 7,.dat yi])]),[(1,.arr 3 yi),(6,.rows 22 3 yi),(7,.arr 3 yi)],[],[]⟩ yq28 noZ [(1,wbmf)]
def wbwp(j:Y1)(n:List Y1)(m:Y1)(b g f h i:Int)(e:Y1):Tr (Int×Bool×Ybm):=.c _ (wbvf g f h i e) λo=>.t (!o) (.l (0,false,[],[],[])) (.c _ (wbvl j n m b g f h i e) λp=>.t (!p) (.l (0,false,[],[],[])) (.c _ (wbwo j n m b g f h i e) λa=>.c _ (wbee a.2.1 a.2.2.1 a.2.2.2 (wrap .i64 (b+1))) λq=>.t (!q) (.l (0,false,[],[],[])) (.l ((wrap .i64 (b+1)),true,a.2.1,a.2.2.1,a.2.2.2))))
def wbwq a j c g f e h i b:=(wbwp a j c g f e h i b).ev
abbrev yq166{a b c d e:Type}(r:a×b×c×d×e):=((((),(),(),r.1,()),r.2.1,()),r.2.2.1,r.2.2.2.1,r.2.2.2.2,())
def wckl:FP prog:=fnP cx func77 [wcjz,wckb,wckk,wbkw] (yj [.agg Zl,.agg Zaz]) [] [] (yq83 wbwp) ⟨[.ownB 4 0 5 3 yi,.ownRB 4 1 7 22 3 yi,.ownB 4 2 8 3 yi,.ren 1217 5,.ren 1222 7,.ren 1223 8],[.cell 4 36,.tmp 5],(yj [.agg (yj [.arr 5,.arr 7,.arr 8,.dat yi]),.dat .bool]),[(5,.arr 3 yi),(7,.rows 22 3 yi),(8,.arr 3 yi)],[],[]⟩ yq166
def wazi(k:Y1)(v:(List UInt8)×Int):Tr (((List UInt8)×Int)⊕(List UInt8)):=.t (v.2<(length k:Int)) (.t (0<v.2) (.g (length v.1+length ([32]:List UInt8)<=9223372036854775807)<|.g (inR v.2 (length k))<|.c _ (wafu 1000000 (getD k (toNat v.2) 0)) λb=>.g (length (v.1++([32]:List UInt8))+length b<=9223372036854775807)<|.l (.inl (((v.1++([32]:List UInt8))++b),(wrap .i64 (v.2+1))))) (.g (inR v.2 (length k))<|.c _ (wafu 1000000 (getD k (toNat v.2) 0)) λa=>.g (length v.1+length a<=9223372036854775807)<|.l (.inl ((v.1++a),(wrap .i64 (v.2+1)))))) (.l (.inr v.1))
def wbgf k v:=iter (λv=>(wazi k v).ev) v
abbrev yq167:Keep:=yh [0,3,4] (yj [.dat y1,.dat .str,.dat yi])
abbrev yq168:Keep:=yh [3] (yj [.dat .str])
def wbmg:LD:=yl (wazi) yq167 [(0,yq168)] yq14 yq6 yq7 yq8 (λ_ r=>yx 0 yq168 ((r,()),()))
def wbwr(b:Y1):Tr (List UInt8):=.c _ (wbgf b ([],0)) λa=>.t (a==([]:List UInt8)) (.l ([110,111,110,101]:List UInt8)) (.l a)
def wbcc a:=(wbwr a).ev
def wcfy:FP prog:=fnP cx func78 [wbbz] Zbo [] [] (yq18 wbwr) yq71 yq2 noZ [(0,wbmg)]
def wbws(i:Y1)(f:List Y1)(g:Y1)(h b w j e:Int)(m:Y1):Tr (Y1×Y2×Y1×Int×(List UInt8)):=.c _ (wbwq i f g h b w j e m) λa=>.t (!a.2.1) (.l (i,f,g,h,([63]:List UInt8))) (.t (b==4) (.c _ (wafu 1000000 j) λz=>.l (a.2.2.1,a.2.2.2.1,a.2.2.2.2,a.1,z)) (.t (b==5) (.c _ (wafu 1000000 e) λab=>.l (a.2.2.1,a.2.2.2.1,a.2.2.2.2,a.1,ab)) (.t (b==6) (.t (b==6) (.c _ (wafu 1000000 (length a.2.2.1:Int)) λs=>.l (a.2.2.1,a.2.2.2.1,a.2.2.2.2,a.1,s)) (.t (b==7) (.t (b==7) (.c _ (wafu 1000000 (length a.2.2.2.1:Int)) λr=>.l (a.2.2.1,a.2.2.2.1,a.2.2.2.2,a.1,r)) (.c _ (wbcc a.2.2.2.2) λaa=>.l (a.2.2.1,a.2.2.2.1,a.2.2.2.2,a.1,aa))) (.t (b==9) (.c _ (wafu 1000000 (length a.2.2.2.1:Int)) λq=>.l (a.2.2.1,a.2.2.2.1,a.2.2.2.2,a.1,q)) (.c _ (wbcc a.2.2.2.2) λn=>.l (a.2.2.1,a.2.2.2.1,a.2.2.2.2,a.1,n))))) (.t (b==8) (.c _ (wafu 1000000 (length a.2.2.1:Int)) λy=>.l (a.2.2.1,a.2.2.2.1,a.2.2.2.2,a.1,y)) (.t (b==7) (.t (b==7) (.c _ (wafu 1000000 (length a.2.2.2.1:Int)) λo=>.l (a.2.2.1,a.2.2.2.1,a.2.2.2.2,a.1,o)) (.c _ (wbcc a.2.2.2.2) λp=>.l (a.2.2.1,a.2.2.2.1,a.2.2.2.2,a.1,p))) (.t (b==9) (.c _ (wafu 1000000 (length a.2.2.2.1:Int)) λu=>.l (a.2.2.1,a.2.2.2.1,a.2.2.2.2,a.1,u)) (.c _ (wbcc a.2.2.2.2) λac=>.l (a.2.2.1,a.2.2.2.1,a.2.2.2.2,a.1,ac))))))))
def waic a j c g f e h i b:=(wbws a j c g f e h i b).ev
abbrev yq170{a b c d e:Type}(r:a×b×c×d×e):=(((r.1,r.2.1,r.2.2.1,r.2.2.2.1,()),r.2.2.2.2,()),())
def wbmh:FP prog:=fnP cx func53 [wckl,wbbz,wcfy] (yj [.agg Zl,.agg Zaz]) [] [] (yq83 wbws) ⟨[.fz 709,.fz 711,.fz 712],[.cell 4 36,.tmp 5],(yj [.agg Zl,.dat .str]),[],[],[]⟩ yq170
def wbwt(b:Y1)(e:List Y1)(a:Y1)(h:Int):Tr (Int×Bool):=.c _ (wbee b e a h) λf=>.t (!f) (.l (0,false)) (.t ((length a:Int)==(0:Int)) (.l (0,false)) (.c _ (wbbv b e a) λg=>.l (g,true)))
def wbmi a c e b:=(wbwt a c e b).ev
abbrev yq171:RetK:=yr [.tmp 2,.tmp 3] (yj [.dat yi,.dat .bool])
abbrev yq172{a b:Type}(r:a×b):=((r.1,r.2,()),())
def wcfz:FP prog:=fnP cx func116 [wbkw,wbwc] (yj [.agg Zl]) [] [] (yq27 wbwt) yq171 yq172
def wbwu(a:Int)(e:Bool):Tr (List UInt8):=.t (!e) (.l ([63]:List UInt8)) (.c _ (wafu 1000000 a) λb=>.l b)
def wbcu a b:=(wbwu a b).ev
def wckm:FP prog:=fnP cx func115 [wbbz] (yj [.dat yi,.dat .bool]) [] [] (yq1 wbwu) yq72 yq2
def wbwv(a b:Int):Tr Int:=.t (a<b) (.l a) (.l b)
def wbww a b:=(wbwv a b).ev
def wckn:FP prog:=fnP cx func250 [] (yj [.dat yi,.dat yi]) [] [] (yq1 wbwv) yq0 yq2
def wbwx(a b:Int):Tr Int:=.t (b<a) (.l a) (.l b)
def wbmj a b:=(wbwx a b).ev
def wcga:FP prog:=fnP cx func253 [] (yj [.dat yi,.dat yi]) [] [] (yq1 wbwx) yq0 yq2
def wapm(k:Y1×Int×Yax)(v:Int×Int):Tr (Yah⊕Int):=.t (v.2<(length k.1:Int)) (.g (inR v.2 (length k.1))<|.g (inR v.2 (length k.2.2.2.2))<|.g (inR k.2.1 (length (getD k.2.2.2.2 (toNat v.2) [])))<|.c _ (wbmj 0 (wrap .i64 ((getD k.1 (toNat v.2) 0) -(wrap .i64 (k.2.2.1*(getD (getD k.2.2.2.2 (toNat v.2) []) (toNat k.2.1) 0)))))) λa=>.l (.inl ((wrap .i64 (v.1+a)),(wrap .i64 (v.2+1))))) (.l (.inr v.1))
def wbcv k v:=iter (λv=>(wapm k v).ev) v
abbrev yq182:Keep:=yh [9] Zv
abbrev yq184{a b c d e g h i:Type}(t:(a×b×c×d)×(e×g×h)×i):=(t.1.1,t.1.2.1,t.1.2.2.1,t.2.1.1,t.2.1.2.1)
abbrev yq185{a b c d e g h i:Type}(t:(a×b×c×d×e×g×h)×i):=(t.1.2.2.2.2.1,t.1.2.2.2.2.2.1)
def wbmk:LD:=yl (wapm) (yk [] [1,2,3,4,9,10] (yj [.dat y1,.dat yi,.dat yi,.box 4 0,.dat yi,.dat yi]) [(4,.cells Zh)]) [(0,yq182)] yq14 (λk v=>((k.1,k.2.1,k.2.2.1,(),v.1,v.2,()),(k.2.2.2.1,k.2.2.2.2,()),())) yq184 yq185 (λ_ r=>yx 0 yq182 ((r,()),()))
def wbml(a:Y1)(h:List Y1)(b:Y1)(f e:Int):Tr Int:=.c _ (wbcv (b,f,e,a,h) (0,0)) λg=>.l g
def wbcw a f b e c:=(wbml a f b e c).ev
abbrev yq187{a b c d e g h i:Type}{z:Type _}(f:a->b->d->e->g->z)(x:((a×b×c)×d×e×g×h)×i):z:=f x.1.1.1 x.1.1.2.1 x.1.2.1 x.1.2.2.1 x.1.2.2.2.1
def wbwy:FP prog:=fnP cx func290 [wcga] (yj [.agg Zh,.dat y1,.dat yi,.dat yi]) [] [] (yq187 wbml) (yr [.tmp 8] Zv) yq2 noZ [(0,wbmk)]
def waod(k:Y1×Int×Yax)(v:Int×Int):Tr (Yah⊕Int):=.t (v.2<(length k.2.2.2.1:Int)) (.g (inR k.2.1 (length k.2.2.2.2))<|.g (inR v.2 (length (getD k.2.2.2.2 (toNat k.2.1) [])))<|.t ((getD (getD k.2.2.2.2 (toNat k.2.1) []) (toNat v.2) 0)<=k.2.2.1) (.g (inR v.2 (length k.2.2.2.1))<|.c _ (wbcw k.2.2.2.1 k.2.2.2.2 k.1 v.2 1) λa=>.t (v.1<0) (.l (.inl ((wrap .i64 ((getD k.2.2.2.1 (toNat v.2) 0) -a)),(wrap .i64 (v.2+1))))) (.t ((wrap .i64 ((getD k.2.2.2.1 (toNat v.2) 0) -a))<v.1) (.l (.inl ((wrap .i64 ((getD k.2.2.2.1 (toNat v.2) 0) -a)),(wrap .i64 (v.2+1))))) (.l (.inl (v.1,(wrap .i64 (v.2+1))))))) (.t (v.1<0) (.l (.inl ((wrap .i64 ((getD (getD k.2.2.2.2 (toNat k.2.1) []) (toNat v.2) 0) -k.2.2.1)),(wrap .i64 (v.2+1))))) (.t ((wrap .i64 ((getD (getD k.2.2.2.2 (toNat k.2.1) []) (toNat v.2) 0) -k.2.2.1))<v.1) (.l (.inl ((wrap .i64 ((getD (getD k.2.2.2.2 (toNat k.2.1) []) (toNat v.2) 0) -k.2.2.1)),(wrap .i64 (v.2+1))))) (.l (.inl (v.1,(wrap .i64 (v.2+1)))))))) (.l (.inr v.1))
def wbgg k v:=iter (λv=>(waod k v).ev) v
abbrev yq189:Keep:=yh [8] Zv
abbrev yq191{a b c d e g h i j:Type}(t:(a×b×c×d×e)×(g×h×i)×j):=(t.1.1,t.1.2.1,t.1.2.2.2.1,t.2.1.1,t.2.1.2.1)
def wbmm:LD:=yl (waod) (yk [] [1,2,3,7,8,9] (yj [.dat y1,.dat yi,.box 3 0,.dat yi,.dat yi,.dat yi]) [(3,.cells Zh)]) [(0,yq189)] yq14 (λk v=>((k.1,k.2.1,(),k.2.2.1,v.1,v.2,()),(k.2.2.2.1,k.2.2.2.2,()),())) yq191 yq185 (λ_ r=>yx 0 yq189 ((r,()),()))
def wbwz(e:Y1)(h:List Y1)(a:Y1)(b:Int):Tr Int:=.g (inR b (length a))<|.c _ (wbgg (a,b,(getD a (toNat b) 0),e,h) ((-1),0)) λf=>.l f
def wbxa a c e b:=(wbwz a c e b).ev
def wcko:FP prog:=fnP cx func251 [wbwy] (yj [.agg Zh,.dat y1,.dat yi]) [] [] (yq126 wbwz) yq125 yq2 noZ [(0,wbmm)]
def wazj(k:Int×Ybm)(v:Int×Int):Tr (Yah⊕Int):=.t (v.2<(length k.2.1:Int)) (.g (inR k.1 (length k.2.2.1))<|.g (inR v.2 (length (getD k.2.2.1 (toNat k.1) [])))<|.c _ (wbww v.1 (getD (getD k.2.2.1 (toNat k.1) []) (toNat v.2) 0)) λa=>.l (.inl (a,(wrap .i64 (v.2+1))))) (.l (.inr v.1))
def wbgh k v:=iter (λv=>(wazj k v).ev) v
abbrev yq174:Keep:=yk [] [1,3,4,5] (yj [.box 1 0,.arr 10,.dat yi,.dat yi]) [Zag,(10,.arr 3 yi)]
abbrev yq175{a b c d e g:Type}(k:a×b×c×d)(v:e×g):=(((),(),k.1,v.1,v.2,()),(k.2.1,k.2.2.1,()),k.2.2.2,())
abbrev yq176{a b c d e g h i j:Type}(t:(a×b×c×d)×(e×g×h)×i×j):=(t.1.2.2.1,t.2.1.1,t.2.1.2.1,t.2.2.1)
def wbmn:LD:=yl (wazj) (yk [] [1,3,4,5,6] (yj [.box 1 0,.arr 10,.dat yi,.dat yi,.dat yi]) [Zag,(10,.arr 3 yi)]) [(2,yq174)] yq14 yq175 yq176 yq124 (λk r=>yx 2 yq174 (((),(),k.1,r,()),(k.2.1,k.2.2.1,()),k.2.2.2,()))
def wazk(k:Y1×Y2)(v:Int×Y1):Tr (Yap⊕Y1):=.t (v.1<(length k.2:Int)) (.g (inR v.1 (length k.2))<|.g (inR 0 (length (getD k.2 (toNat v.1) [])))<|.c _ (wbgh (v.1,k.1,k.2,v.2) ((getD (getD k.2 (toNat v.1) []) (toNat 0) 0),0)) λa=>.g ((length v.2+length ([a]:Y1))*8<=140737488355328)<|.l (.inl ((wrap .i64 (v.1+1)),(v.2++([a]:Y1))))) (.l (.inr v.2))
def wbcx k v:=iter (λv=>(wazk k v).ev) v
abbrev yq178:Keep:=yk [] [1,3] (yj [.box 1 0,.arr 10]) [Zag,(10,.arr 3 yi)]
abbrev yq179{a b c d:Type}(k:a×b)(v:c×d):=(((),(),v.1,()),(k.1,k.2,()),v.2,())
abbrev yq180{a b c d e g h:Type}(t:(a×b×c×d)×e×g×h):=(t.1.2.2.1,t.2.2.1)
def wbmo:LD:=yl (wazk) (yk [] [1,3,4] (yj [.box 1 0,.arr 10,.dat yi]) [Zag,(10,.arr 3 yi)]) [(0,yq178)] yq14 yq179 yq139 yq180 (λk r=>yx 0 yq178 (((),(),()),(k.1,k.2,()),r,()))
def wauf(k:Y1×Y2)(v:Bool×Yap):Tr ((Bool×Yap)⊕Ybk):=.t (v.2.1<(length v.2.2:Int)) (.c _ (wbxa k.1 k.2 v.2.2 v.2.1) λa=>.t (0<a) (.g (inR v.2.1 (length v.2.2))<|.g ((toNat v.2.1)<length v.2.2)<|.g (inR v.2.1 (length v.2.2))<|.g ((toNat v.2.1)<length v.2.2)<|.l (.inl (true,(wrap .i64 (v.2.1+1)),(set v.2.2 (toNat v.2.1) (wrap .i64 ((getD v.2.2 (toNat v.2.1) 0)+a)))))) (.l (.inl (v.1,(wrap .i64 (v.2.1+1)),v.2.2)))) (.l (.inr (v.1,v.2.2)))
def wbgi k v:=iter (λv=>(wauf k v).ev) v
abbrev yq193:Keep:=yk [] [1,3,7] (yj [.box 1 0,.arr 10,.dat .bool]) [Zag,(10,.arr 3 yi)]
def wbmp:LD:=yl (wauf) (yk [] [1,3,7,8] (yj [.box 1 0,.arr 10,.dat .bool,.dat yi]) [Zag,(10,.arr 3 yi)]) [(6,yq193)] yq14 (λk v=>(((),(),v.1,v.2.1,()),(k.1,k.2,()),v.2.2,())) yq139 (λt=>(t.1.2.2.1,t.1.2.2.2.1,t.2.2.1)) (λk r=>yx 6 yq193 (((),(),r.1,()),(k.1,k.2,()),r.2,()))
def waor(k:Y1×Y2)(v:Bool×Y1):Tr (Ybk⊕Y1):=.t v.1 (.c _ (wbgi (k.1,k.2) (false,0,v.2)) λa=>.l (.inl (a.1,a.2))) (.l (.inr v.2))
def wbgj k v:=iter (λv=>(waor k v).ev) v
abbrev yq196:Keep:=yk [] [3] (yj [.arr 10]) [(10,.arr 3 yi)]
def wbmq:LD:=yl (waor) yq193 [(4,yq196)] yq14 yq179 yq139 yq180 (λ_ r=>yx 4 yq196 (((),()),r,()))
def wbxb(a:Y1)(b:List Y1):Tr Y1:=.c _ (wbcx (a,b) (0,[])) λe=>.c _ (wbgj (a,b) (true,e)) λf=>.l f
def wbmr a b:=(wbxb a b).ev
def wcgb:FP prog:=fnP cx func185 [wckn,wcko] (yj [.agg Zh]) [] [] (yq24 wbxb) ⟨[.ren 10 0],[.tmp 2],Zbh,[Zaw],[],[]⟩ yq19 noZ [(2,wbmn),(0,wbmo),(6,wbmp),(4,wbmq)]
def wazl(k:Y1)(v:Int×Int):Tr (Yah⊕Int):=.t (v.2<(length k:Int)) (.g (inR v.2 (length k))<|.l (.inl ((wrap .i64 (v.1+(getD k (toNat v.2) 0))),(wrap .i64 (v.2+1))))) (.l (.inr v.1))
def wbgk k v:=iter (λv=>(wazl k v).ev) v
abbrev yq198:Keep:=yh [0,3,4] (yj [.dat y1,.dat yi,.dat yi])
def wbms:LD:=yl (wazl) yq198 [(0,yq69)] yq14 yq6 yq7 yq8 (λ_ r=>yx 0 yq69 ((r,()),()))
def wbxc(b:Y1):Tr Int:=.c _ (wbgk b (0,0)) λa=>.l a
def wbxd a:=(wbxc a).ev
def wckp:FP prog:=fnP cx func184 [] Zbo [] [] (yq18 wbxc) yq70 yq2 noZ [(0,wbms)]
def wbxe(a:Y1)(e:List Y1)(f:Y1)(h:Int):Tr (Int×Bool):=.c _ (wbmi a e f h) λb=>.t (!b.2) (.l (0,false)) (.c _ (wbmr a e) λg=>.c _ (wbxd g) λi=>.l ((wrap .i64 (b.1-i)),true))
def wbxf a c e b:=(wbxe a c e b).ev
def wckq:FP prog:=fnP cx func117 [wcfz,wcgb,wckp] (yj [.agg Zl]) [] [] (yq27 wbxe) yq171 yq172
def wbxg(a:Y1)(e:List Y1)(b:Y1):Tr (Int×Bool):=.c _ (wbcs a e b) λf=>.t (!f) (.l (0,false)) (.c _ (wbej a e b) λg=>.l (g,true))
def wbxh a b c:=(wbxg a b c).ev
abbrev yq199:RetK:=yr [.tmp 4,.tmp 5] (yj [.dat yi,.dat .bool])
def wckr:FP prog:=fnP cx func118 [wbfs,wbvy] (yj [.agg Zh,.dat y1]) [] [] (yq9 wbxg) yq199 yq172
def wazm(k:Y1×Y1×Y2)(v:Int×Int):Tr (Yah⊕Int):=.t (v.2<(length k.2.2:Int)) (.c _ (wblu k.2.1 k.2.2 v.2 k.1) λb=>.c _ (wbmj v.1 b) λa=>.l (.inl (a,(wrap .i64 (v.2+1))))) (.l (.inr v.1))
def wbgl k v:=iter (λv=>(wazm k v).ev) v
def wbmt:LD:=yl (wazm) yq127 [(0,yq128)] yq14 yq129 yq117 yq130 (λ_ r=>yx 0 yq128 ((r,()),()))
def wbxi(a:Y1)(e:List Y1)(f:Y1):Tr Int:=.c _ (wbgl (f,a,e) (0,0)) λb=>.l b
def wbgm a b c:=(wbxi a b c).ev
def wcgc:FP prog:=fnP cx func188 [wcfs,wcga] (yj [.agg Zh,.dat y1]) [] [] (yq9 wbxi) yq0 yq2 noZ [(0,wbmt)]
def wbxj(a:Y1)(e:List Y1)(b:Y1):Tr (Int×Bool):=.c _ (wbcs a e b) λf=>.t (!f) (.l (0,false)) (.c _ (wbgm a e b) λg=>.l (g,true))
def wbxk a b c:=(wbxj a b c).ev
def wcks:FP prog:=fnP cx func119 [wbfs,wcgc] (yj [.agg Zh,.dat y1]) [] [] (yq9 wbxj) yq199 yq172
def wazn(k:Y1×Y1×Y2)(v:Int×Y1):Tr (Yap⊕Y1):=.t (v.1<(length k.2.2:Int)) (.c _ (wblt k.2.1 k.2.2 v.1 k.1) λa=>.g ((length v.2+length ([a]:Y1))*8<=140737488355328)<|.l (.inl ((wrap .i64 (v.1+1)),(v.2++([a]:Y1))))) (.l (.inr v.2))
def wbgn k v:=iter (λv=>(wazn k v).ev) v
abbrev yq201:Keep:=yk [] [6] (yj [.arr 8]) [(8,.arr 3 yi)]
abbrev yq203{a b c d e g h i:Type}(t:(a×b×c×d×e)×g×h×i):=(t.1.2.2.2.1,t.2.2.1)
def wbmu:LD:=yl (wazn) (yk [] [1,2,6,7] (yj [.dat y1,.box 2 0,.arr 8,.dat yi]) [Zbf,(8,.arr 3 yi)]) [(0,yq201)] yq14 (λk v=>((k.1,(),(),v.1,()),(k.2.1,k.2.2,()),v.2,())) yq117 yq203 (λ_ r=>yx 0 yq201 (((),()),r,()))
def wbxl(a:Y1)(e:List Y1)(b:Y1):Tr Ybk:=.c _ (wbcs a e b) λf=>.t (!f) (.l (false,[])) (.c _ (wbgn (b,a,e) (0,[])) λg=>.l (true,g))
def wbxm a b c:=(wbxl a b c).ev
def wckt:FP prog:=fnP cx func120 [wbfs,wcfr] (yj [.agg Zh,.dat y1]) [] [] (yq9 wbxl) ⟨[.ren 8 0],[.tmp 4,.tmp 5],Zbc,[Zaw],[],[]⟩ yq79 noZ [(0,wbmu)]
def wbxn(a:Y1)(e:Bool):Tr (List UInt8):=.t (!e) (.l ([63]:List UInt8)) (.c _ (wbcc a) λb=>.l b)
def wazo a b:=(wbxn a b).ev
def wcgd:FP prog:=fnP cx func79 [wcfy] (yj [.dat y1,.dat .bool]) [] [] (yq1 wbxn) yq72 yq2
def waxf(k:Int×Int×Yax)(v:Int):Tr (Int⊕(Unit⊕Unit)):=.t (v<(length k.2.2.2.1:Int)) (.g (inR k.1 (length k.2.2.2.2))<|.g (inR k.2.2.1 (length (getD k.2.2.2.2 (toNat k.1) [])))<|.g (inR k.1 (length k.2.2.2.2))<|.g (inR v (length (getD k.2.2.2.2 (toNat k.1) [])))<|.g (inR k.2.1 (length k.2.2.2.2))<|.g (inR v (length (getD k.2.2.2.2 (toNat k.2.1) [])))<|.g (inR k.2.1 (length k.2.2.2.2))<|.g (inR k.2.2.1 (length (getD k.2.2.2.2 (toNat k.2.1) [])))<|.t ((wrap .i64 ((wrap .i64 ((getD (getD k.2.2.2.2 (toNat k.1) []) (toNat v) 0)+(getD (getD k.2.2.2.2 (toNat k.2.1) []) (toNat v) 0)))+(getD (getD k.2.2.2.2 (toNat k.2.1) []) (toNat k.2.2.1) 0)))<(getD (getD k.2.2.2.2 (toNat k.1) []) (toNat k.2.2.1) 0)) (.l (.inr (.inr ()))) (.l (.inl (wrap .i64 (v+1))))) (.l (.inr (.inl ())))
def wbgo k v:=iter (λv=>(waxf k v).ev) v
abbrev yq206:Keep:=yk [] [1,3,4,5] (yj [.box 1 0,.dat yi,.dat yi,.dat yi]) [Zag]
def wbmv:LD:=yl (waxf) (yk [] [1,3,4,5,6] (yj [.box 1 0,.dat yi,.dat yi,.dat yi,.dat yi]) [Zag]) [(6,yq206)] yq42 (λk v=>(((),k.1,k.2.1,k.2.2.1,v,()),(k.2.2.2.1,k.2.2.2.2,()),())) (λt=>(t.1.2.1,t.1.2.2.1,t.1.2.2.2.1,t.2.1.1,t.2.1.2.1)) yq148 (λk r=>.s _ _ r (λ_=>yx 6 yq206 (((),k.1,k.2.1,k.2.2.1,()),(k.2.2.2.1,k.2.2.2.2,()),())) (λ_=>yz yq42 ((false,()),())))
def waxg(k:Int×Yax)(v:Int):Tr (Int⊕(Unit⊕Unit)):=.t (v<(length k.2.2.1:Int)) (.c _ (wbgo (k.1,k.2.1,v,k.2.2.1,k.2.2.2) 0) λa=>.s _ _ a (λ_=>.l (.inl (wrap .i64 (v+1)))) (λ_=>.l (.inr (.inr ())))) (.l (.inr (.inl ())))
def wbgp k v:=iter (λv=>(waxg k v).ev) v
abbrev yq209{a b c d e:Type}(k:a×b×c×d)(v:e):=(((),k.1,k.2.1,v,()),(k.2.2.1,k.2.2.2,()),())
abbrev yq210{a b c d e g h i:Type}(t:(a×b×c×d)×(e×g×h)×i):=(t.1.2.1,t.1.2.2.1,t.2.1.1,t.2.1.2.1)
def wbmw:LD:=yl (waxg) yq206 [(4,yq40)] yq42 yq209 yq210 yq39 (λk r=>.s _ _ r (λ_=>yx 4 yq40 (((),k.1,k.2.1,()),(k.2.2.1,k.2.2.2,()),())) (λ_=>yz yq42 ((false,()),())))
def waxh(k:Int×Y1×Y2)(v:Int):Tr (Int⊕(Unit⊕Unit)):=.t (v<(length k.2.2:Int)) (.c _ (wbgp (k.1,v,k.2.1,k.2.2) 0) λa=>.s _ _ a (λ_=>.l (.inl (wrap .i64 (v+1)))) (λ_=>.l (.inr (.inr ())))) (.l (.inr (.inl ())))
def wbgq k v:=iter (λv=>(waxh k v).ev) v
def wbmx:LD:=yl (waxh) yq40 [(2,yq41)] yq42 yq43 yq44 yq45 (λk r=>.s _ _ r (λ_=>yx 2 yq41 (((),k.1,()),(k.2.1,k.2.2,()),())) (λ_=>yz yq42 ((false,()),())))
def waxi(k:Y1×Y2)(v:Int):Tr (Int⊕(Unit⊕Unit)):=.t (v<(length k.2:Int)) (.c _ (wbgq (v,k.1,k.2) 0) λa=>.s _ _ a (λ_=>.l (.inl (wrap .i64 (v+1)))) (λ_=>.l (.inr (.inr ())))) (.l (.inr (.inl ())))
def wbgr k v:=iter (λv=>(waxi k v).ev) v
abbrev yq212{a b c d:Type}(t:(a×b×c)×d):=t.1.2.1
def wbmy:LD:=yl (waxi) yq41 [(0,yq14)] yq42 (λk v=>(((),v,()),(k.1,k.2,()),())) yq139 yq212 (λ_ r=>.s _ _ r (λ_=>yx 0 yq14 ((),())) (λ_=>yz yq42 ((false,()),())))
def wbxo(a:Y1)(e:List Y1):Tr Bool:=.c _ (wbgr (a,e) 0) λb=>.s _ _ b (λ_=>.l true) (λ_=>.l false)
def wbxp a b:=(wbxo a b).ev
def wcku:FP prog:=fnP cx func190 [] (yj [.agg Zh]) [] [] (yq24 wbxo) yq46 yq2 noZ [(6,wbmv),(4,wbmw),(2,wbmx),(0,wbmy)]
def wbxq(a:Y1)(b:List Y1):Tr (Bool×Bool):=.c _ (wavv a b) λe=>.t (!e) (.l (false,false)) (.c _ (wbxp a b) λf=>.l (f,true))
def wbxr a b:=(wbxq a b).ev
abbrev yq213:RetK:=yr [.tmp 2,.tmp 3] (yj [.dat .bool,.dat .bool])
def wckv:FP prog:=fnP cx func122 [wbbs,wcku] (yj [.agg Zh]) [] [] (yq24 wbxq) yq213 yq172
def wcge(a b:Bool):Tr (List UInt8):=.t (!b) (.l ([63]:List UInt8)) (.t a (.l ([121,101,115]:List UInt8)) (.l ([110,111]:List UInt8)))
def wbxs a b:=(wcge a b).ev
def wckw:FP prog:=fnP cx func121 [] (yj [.dat .bool,.dat .bool]) [] [] (yq1 wcge) yq72 yq2
def wazp(k:Y1)(v:(List UInt8)×Int):Tr (((List UInt8)×Int)⊕(List UInt8)):=.t (v.2<(length k:Int)) (.t (0<v.2) (.g (length v.1+length ([32]:List UInt8)<=9223372036854775807)<|.g (inR v.2 (length k))<|.c _ (wafu 1000000 (getD k (toNat v.2) 0)) λb=>.g (length (v.1++([32]:List UInt8))+length b<=9223372036854775807)<|.l (.inl (((v.1++([32]:List UInt8))++b),(wrap .i64 (v.2+1))))) (.g (inR v.2 (length k))<|.c _ (wafu 1000000 (getD k (toNat v.2) 0)) λa=>.g (length v.1+length a<=9223372036854775807)<|.l (.inl ((v.1++a),(wrap .i64 (v.2+1)))))) (.l (.inr v.1))
def wbgs k v:=iter (λv=>(wazp k v).ev) v
def wbmz:LD:=yl (wazp) yq167 [(0,yq168)] yq14 yq6 yq7 yq8 (λ_ r=>yx 0 yq168 ((r,()),()))
def wbxt(a:Y1):Tr (List UInt8):=.c _ (wbgs a ([],0)) λb=>.l b
def wbna a:=(wbxt a).ev
def wckx:FP prog:=fnP cx func191 [wbbz] Zbo [] [] (yq18 wbxt) yq71 yq2 noZ [(0,wbmz)]
def wazq(k:Y1×Y2)(v:(List UInt8)×Int):Tr (((List UInt8)×Int)⊕(List UInt8)):=.t (v.2<(length k.2:Int)) (.g (length v.1+length ([32,47,32]:List UInt8)<=9223372036854775807)<|.g (inR v.2 (length k.2))<|.c _ (wbna (getD k.2 (toNat v.2) [])) λa=>.g (length (v.1++([32,47,32]:List UInt8))+length a<=9223372036854775807)<|.l (.inl (((v.1++([32,47,32]:List UInt8))++a),(wrap .i64 (v.2+1))))) (.l (.inr v.1))
def wbgt k v:=iter (λv=>(wazq k v).ev) v
abbrev yq215{a b c d:Type}(k:a×b)(v:c×d):=(((),v.1,v.2,()),(k.1,k.2,()),())
def wbnb:LD:=yl (wazq) (yk [] [1,3,4] (yj [.box 1 0,.dat .str,.dat yi]) [Zag]) [(0,yq168)] yq14 yq215 yq139 yq8 (λ_ r=>yx 0 yq168 ((r,()),()))
def wbxu(a:Y1)(e:List Y1):Tr (List UInt8):=.c _ (wbna a) λb=>.c _ (wbgt (a,e) (b,0)) λf=>.l f
def wbnc a b:=(wbxu a b).ev
def wcky:FP prog:=fnP cx func123 [wckx] (yj [.agg Zh]) [] [] (yq24 wbxu) yq71 yq2 noZ [(0,wbnb)]
def wbxv(a:Y1)(b:List Y1):Tr Ybk:=.c _ (wavv a b) λe=>.t (!e) (.l (false,[])) (.c _ (wbmr a b) λf=>.l (true,f))
def wbxw a b:=(wbxv a b).ev
def wckz:FP prog:=fnP cx func124 [wbbs,wcgb] (yj [.agg Zh]) [] [] (yq24 wbxv) ⟨[.ren 7 0,.ren 576 0],[.tmp 2,.tmp 3],Zbc,[Zaw],[],[]⟩ yq79
def wazr(k:Y1×Y2)(v:Int×Int):Tr (Yah⊕Int):=.t (v.2<(length k.1:Int)) (.g (inR v.2 (length k.1))<|.g (inR v.1 (length k.1))<|.t ((getD k.1 (toNat v.2) 0)<(getD k.1 (toNat v.1) 0)) (.l (.inl (v.2,(wrap .i64 (v.2+1))))) (.l (.inl (v.1,(wrap .i64 (v.2+1)))))) (.l (.inr v.1))
def wbgu k v:=iter (λv=>(wazr k v).ev) v
def wbnd:LD:=yl (wazr) yq40 [(0,yq69)] yq14 yq215 yq139 yq8 (λ_ r=>yx 0 yq69 ((r,()),()))
def wbxx(a:Y1)(b:List Y1):Tr Int:=.c _ (wbgu (a,b) (0,1)) λe=>.l e
def wbxy a b:=(wbxx a b).ev
def wcla:FP prog:=fnP cx func192 [] (yj [.agg Zh]) [] [] (yq24 wbxx) yq70 yq2 noZ [(0,wbnd)]
def waxj(k:Int×Yam)(v:Int×Y1):Tr (Yap⊕Y1):=.t (v.1<(length k.2.1:Int)) (.g (inR v.1 (length k.2.2.1))<|.t (getD k.2.2.1 (toNat v.1) false) (.g (inR v.1 (length k.2.1))<|.g ((length v.2+length ([(getD k.2.1 (toNat v.1) 0)]:Y1))*8<=140737488355328)<|.l (.inl ((wrap .i64 (v.1+1)),(v.2++([(getD k.2.1 (toNat v.1) 0)]:Y1))))) (.g ((length v.2+length ([k.1]:Y1))*8<=140737488355328)<|.l (.inl ((wrap .i64 (v.1+1)),(v.2++([k.1]:Y1)))))) (.l (.inr v.2))
def wbgv k v:=iter (λv=>(waxj k v).ev) v
abbrev yq223:Keep:=yk [] [3] (yj [.arr 6]) [(6,.arr 3 yi)]
abbrev yq225{a b c d e g h i:Type}(t:a×(b×c×d×e×g×h)×i):=(t.2.1.1,t.2.1.2.1,t.2.1.2.2.1,t.2.1.2.2.2.1,t.2.1.2.2.2.2.1)
def wbne:LD:=yl (waxj) (yk [] [1,3,4] (yj [.box 1 0,.arr 6,.dat yi]) [(1,.cells Zm),(6,.arr 3 yi)]) [(0,yq223)] yq14 (λk v=>(((),(),v.1,()),(k.1,k.2.1,k.2.2.1,k.2.2.2.1,k.2.2.2.2,()),v.2,())) yq225 yq180 (λ_ r=>yx 0 yq223 (((),()),r,()))
def wbxz(a:Int)(h:Y1)(b:List Bool)(g f:Y1):Tr Y1:=.c _ (wbgv (a,h,b,g,f) (0,[])) λe=>.l e
def wbgw a f b e c:=(wbxz a f b e c).ev
def wcgf:FP prog:=fnP cx func291 [] (yj [.agg Zm]) [] [] (yq81 wbxz) ⟨[.ren 6 0],[.tmp 2],Zbh,[Zaw],[],[]⟩ yq19 noZ [(0,wbne)]
def wbya(_f:Int)(_i:Y1)(_e:List Bool)(_h a:Y1)(b c:Int):Tr Bool:=.g (inR b (length a))<|.g (inR c (length a))<|.t ((getD a (toNat b) 0)<(getD a (toNat c) 0)) (.l true) (.g (inR b (length a))<|.g (inR c (length a))<|.t ((getD a (toNat b) 0)==(getD a (toNat c) 0)) (.l (b<c)) (.l false))
def wbnf a h b f e c g:=(wbya a h b f e c g).ev
def wcgg:FP prog:=fnP cx func257 [] (yj [.agg Zm,.dat yi,.dat yi]) [] [] ((λf x=>f x.1.1.1 x.1.1.2.1 x.1.1.2.2.1 x.1.1.2.2.2.1 x.1.1.2.2.2.2.1 x.1.2.1 x.1.2.2.1) wbya) yq32 yq2
def wauv(k:Int×Y1×(List Bool)×Y1×Y1×Y2×Int×Yap)(v:Int×Y1):Tr (Yap⊕Y1):=.t (v.1<(length k.2.2.2.2.1:Int)) (.g (inR v.1 (length v.2))<|.g ((toNat v.1)<length v.2)<|.t ((getD v.2 (toNat v.1) 0)<(0:Int)) (.c _ (wbcw k.2.2.2.2.1 k.2.2.2.2.2.1 k.2.2.2.2.2.2.2.2 v.1 2520) λa=>.g (inR v.1 (length k.2.2.2.2.1))<|.t (a==(wrap .i64 ((2520:Int)*(getD k.2.2.2.2.1 (toNat v.1) 0)))) (.g (inR v.1 (length v.2))<|.g ((toNat v.1)<length v.2)<|.l (.inl ((wrap .i64 (v.1+1)),(set v.2 (toNat v.1) k.2.2.2.2.2.2.1)))) (.l (.inl ((wrap .i64 (v.1+1)),v.2)))) (.l (.inl ((wrap .i64 (v.1+1)),v.2)))) (.l (.inr v.2))
def wbgx k v:=iter (λv=>(wauv k v).ev) v
abbrev yq228:Keep:=yk [] [1,2,3,4,5] (yj [.agg Zab,.box 2 0,.box 3 0,.box 4 0,.arr 704]) [Zba,(65,.arr 4 .bool),(66,.arr 3 yi),(67,.arr 3 yi),Zbf,(3,.cells Zab),Zbe,(704,.arr 3 yi)]
def wbng:LD:=yl (wauv) (yk [] [1,2,3,4,5,6] (yj [.agg Zab,.box 2 0,.box 3 0,.box 4 0,.arr 704,.dat yi]) [Zba,(65,.arr 4 .bool),(66,.arr 3 yi),(67,.arr 3 yi),Zbf,(3,.cells Zab),Zbe,(704,.arr 3 yi)]) [(0,yq228)] yq14 (λk v=>(((k.1,(),(),(),(),()),(),(),(),(),v.1,()),k.2.1,k.2.2.1,k.2.2.2.1,v.2,(k.2.2.2.2.1,k.2.2.2.2.2.1,()),(k.2.2.2.2.2.2.1,(),(),(),(),()),(k.2.2.2.2.2.2.2.1,(),(),(),(),()),k.2.2.2.2.2.2.2.2,())) (λt=>(t.1.1.1,t.2.1,t.2.2.1,t.2.2.2.1,t.2.2.2.2.2.1.1,t.2.2.2.2.2.1.2.1,t.2.2.2.2.2.2.1.1,t.2.2.2.2.2.2.2.1.1,t.2.2.2.2.2.2.2.2.1)) (λt=>(t.1.2.2.2.2.2.1,t.2.2.2.2.1)) (λk r=>yx 0 yq228 (((k.1,(),(),(),(),()),(),(),(),(),()),k.2.1,k.2.2.1,k.2.2.2.1,r,(k.2.2.2.2.1,k.2.2.2.2.2.1,()),(k.2.2.2.2.2.2.1,(),(),(),(),()),(k.2.2.2.2.2.2.2.1,(),(),(),(),()),k.2.2.2.2.2.2.2.2,()))
def walb(k:Int×Int×Y1×(List Bool)×Y1×Y1×Y1×Y2×Int×Yap)(v:Int×Int):Tr (Yah⊕Int):=.t (v.2<(length k.2.2.2.2.2.2.1:Int)) (.g (inR k.2.1 (length k.2.2.2.1))<|.g ((toNat k.2.1)<length k.2.2.2.1)<|.t (!(getD k.2.2.2.1 (toNat k.2.1) false)) (.g (inR v.2 (length k.2.2.2.2.2.1))<|.g ((toNat v.2)<length k.2.2.2.2.2.1)<|.t ((0:Int)<=(getD k.2.2.2.2.2.1 (toNat v.2) 0)) (.g (inR k.2.1 (length k.2.2.2.2.2.2.2.1))<|.g (inR v.2 (length (getD k.2.2.2.2.2.2.2.1 (toNat k.2.1) [])))<|.t ((wrap .i64 ((2520:Int)*(getD (getD k.2.2.2.2.2.2.2.1 (toNat k.2.1) []) (toNat v.2) 0)))<=k.2.2.2.2.2.2.2.2.1) (.t (v.1<0) (.l (.inl (v.2,(wrap .i64 (v.2+1))))) (.c _ (wbnf k.2.2.2.2.2.2.2.2.1 k.2.2.1 k.2.2.2.1 k.2.2.2.2.1 k.2.2.2.2.2.1 v.2 v.1) λa=>.t a (.l (.inl (v.2,(wrap .i64 (v.2+1))))) (.l (.inl (v.1,(wrap .i64 (v.2+1))))))) (.l (.inl (v.1,(wrap .i64 (v.2+1)))))) (.l (.inl (v.1,(wrap .i64 (v.2+1)))))) (.l (.inr v.1))) (.l (.inr v.1))
def wbgy k v:=iter (λv=>(walb k v).ev) v
abbrev yq234:Keep:=yk [] [1,2,3,4,5,7,8] (yj [.agg Zab,.box 2 0,.box 3 0,.box 4 0,.arr 704,.dat yi,.dat yi]) [Zba,(65,.arr 4 .bool),(66,.arr 3 yi),(67,.arr 3 yi),Zbf,(3,.cells Zab),Zbe,(704,.arr 3 yi)]
def wbnh:LD:=yl (walb) (yk [] [1,2,3,4,5,7,8,9] (yj [.agg Zab,.box 2 0,.box 3 0,.box 4 0,.arr 704,.dat yi,.dat yi,.dat yi]) [Zba,(65,.arr 4 .bool),(66,.arr 3 yi),(67,.arr 3 yi),Zbf,(3,.cells Zab),Zbe,(704,.arr 3 yi)]) [(4,yq234)] yq14 (λk v=>(((k.1,(),(),(),(),()),(),(),(),(),k.2.1,v.1,v.2,()),k.2.2.1,k.2.2.2.1,k.2.2.2.2.1,k.2.2.2.2.2.1,(k.2.2.2.2.2.2.1,k.2.2.2.2.2.2.2.1,()),(k.2.2.2.2.2.2.2.2.1,(),(),(),(),()),(k.2.2.2.2.2.2.2.2.2.1,(),(),(),(),()),k.2.2.2.2.2.2.2.2.2.2,())) (λt=>(t.1.1.1,t.1.2.2.2.2.2.1,t.2.1,t.2.2.1,t.2.2.2.1,t.2.2.2.2.1,t.2.2.2.2.2.1.1,t.2.2.2.2.2.1.2.1,t.2.2.2.2.2.2.1.1,t.2.2.2.2.2.2.2.1.1,t.2.2.2.2.2.2.2.2.1)) (λt=>(t.1.2.2.2.2.2.2.1,t.1.2.2.2.2.2.2.2.1)) (λk r=>yx 4 yq234 (((k.1,(),(),(),(),()),(),(),(),(),k.2.1,r,()),k.2.2.1,k.2.2.2.1,k.2.2.2.2.1,k.2.2.2.2.2.1,(k.2.2.2.2.2.2.1,k.2.2.2.2.2.2.2.1,()),(k.2.2.2.2.2.2.2.2.1,(),(),(),(),()),(k.2.2.2.2.2.2.2.2.2.1,(),(),(),(),()),k.2.2.2.2.2.2.2.2.2.2,()))
def waot(k:Int×Y1×Y1×Y2×Int×Yap)(v:Int×Y1×(List Bool)×Y1):Tr ((Int×Y1×(List Bool)×Y1)⊕(Y1×(List Bool)×Y1)):=.t (v.1<(length k.2.2.2.2.2.2:Int)) (.c _ (wbgy (k.1,v.1,v.2.1,v.2.2.1,v.2.2.2,k.2.1,k.2.2.1,k.2.2.2.1,k.2.2.2.2.1,k.2.2.2.2.2.1,k.2.2.2.2.2.2) ((-1),0)) λa=>.t (0<=a) (.g (inR v.1 (length v.2.1))<|.g ((toNat v.1)<length v.2.1)<|.g (inR v.1 (length v.2.2.1))<|.g ((toNat v.1)<length v.2.2.1)<|.g (inR v.1 (length v.2.2.2))<|.g ((toNat v.1)<length v.2.2.2)<|.l (.inl ((wrap .i64 (v.1+1)),(set v.2.1 (toNat v.1) k.2.2.2.2.1),(set v.2.2.1 (toNat v.1) true),(set v.2.2.2 (toNat v.1) a)))) (.l (.inl ((wrap .i64 (v.1+1)),v.2.1,v.2.2.1,v.2.2.2)))) (.l (.inr (v.2.1,v.2.2.1,v.2.2.2)))
def wbgz k v:=iter (λv=>(waot k v).ev) v
abbrev yq239:Keep:=yk [] [1,3,4] (yj [.agg Zab,.box 3 0,.box 4 0]) [Zba,(65,.arr 4 .bool),(66,.arr 3 yi),(67,.arr 3 yi),(3,.cells Zab),Zbe]
def wbni:LD:=yl (waot) (yk [] [1,2,3,4,5,7] (yj [.agg Zab,.box 2 0,.box 3 0,.box 4 0,.arr 704,.dat yi]) [Zba,(65,.arr 4 .bool),(66,.arr 3 yi),(67,.arr 3 yi),Zbf,(3,.cells Zab),Zbe,(704,.arr 3 yi)]) [(2,yq239)] yq14 (λk v=>(((k.1,(),(),(),(),()),(),(),(),(),v.1,()),v.2.1,v.2.2.1,v.2.2.2,k.2.1,(k.2.2.1,k.2.2.2.1,()),(k.2.2.2.2.1,(),(),(),(),()),(k.2.2.2.2.2.1,(),(),(),(),()),k.2.2.2.2.2.2,())) (λt=>(t.1.1.1,t.2.2.2.2.1,t.2.2.2.2.2.1.1,t.2.2.2.2.2.1.2.1,t.2.2.2.2.2.2.1.1,t.2.2.2.2.2.2.2.1.1,t.2.2.2.2.2.2.2.2.1)) (λt=>(t.1.2.2.2.2.2.1,t.2.1,t.2.2.1,t.2.2.2.1)) (λk r=>yx 2 yq239 (((k.1,(),(),(),(),()),(),(),()),r.1,r.2.1,r.2.2,k.2.1,(k.2.2.2.2.1,(),(),(),(),()),(k.2.2.2.2.2.1,(),(),(),(),()),()))
def wbyb(h:Y1)(n:List Y1)(a:Int)(f:Y1)(e:List Bool)(b m:Y1):Tr (Int×Yam):=.c _ (wbgw a f e b m) λi=>.c _ (wbgx (a,f,e,b,h,n,a,0,i) (0,m)) λj=>.c _ (wbgz (a,j,h,n,a,0,i) (0,f,e,b)) λg=>.l (a,g.1,g.2.1,g.2.2,j)
def wbnj a h b f e c g:=(wbyb a h b f e c g).ev
abbrev yq245{a b c d e:Type}(r:a×b×c×d×e):=(((r.1,(),(),(),(),()),()),r.2.1,r.2.2.1,r.2.2.2.1,r.2.2.2.2,())
def wclb:FP prog:=fnP cx func254 [wcgf,wbwy,wcgg] (yj [.agg Zh,.agg Zab]) [Zba,(65,.arr 4 .bool),(66,.arr 3 yi),(67,.arr 3 yi)] [.comp 1 1,.comp 1 2,.comp 1 3,.comp 1 4] ((λf x=>f x.1.1.1 x.1.1.2.1 x.1.2.1.1 x.2.1 x.2.2.1 x.2.2.2.1 x.2.2.2.2.1) wbyb) ⟨[.ren 64 1,.ren 65 2,.ren 66 5,.ren 67 6],[.cell 4 181],(yj [.agg (yj [.dat yi,.arr 1,.arr 2,.arr 5,.arr 6])]),[(1,.arr 3 yi),(2,.arr 4 .bool),(5,.arr 3 yi),(6,.arr 3 yi)],[],[64,65,66,67]⟩ yq245 noZ [(0,wbng),(4,wbnh),(2,wbni)]
def waxk(k:Int×Yam)(v:Int):Tr (Int⊕(Unit⊕Unit)):=.t (v<(length k.2.2.1:Int)) (.g (inR v (length k.2.2.1))<|.t (!(getD k.2.2.1 (toNat v) false)) (.l (.inr (.inr ()))) (.l (.inl (wrap .i64 (v+1))))) (.l (.inr (.inl ())))
def wbha k v:=iter (λv=>(waxk k v).ev) v
def wbnk:LD:=yl (waxk) (yk [] [1,3] (yj [.box 1 0,.dat yi]) [(1,.cells Zm)]) [(0,yq14)] yq42 (λk v=>(((),v,()),(k.1,k.2.1,k.2.2.1,k.2.2.2.1,k.2.2.2.2,()),())) yq225 yq212 (λ_ r=>.s _ _ r (λ_=>yx 0 yq14 ((),())) (λ_=>yz yq42 ((true,()),())))
def wbyc(a:Int)(h:Y1)(e:List Bool)(g f:Y1):Tr Bool:=.c _ (wbha (a,h,e,g,f) 0) λb=>.s _ _ b (λ_=>.l false) (λ_=>.l true)
def wbyd a f b e c:=(wbyc a f b e c).ev
def wclc:FP prog:=fnP cx func255 [] (yj [.agg Zm]) [] [] (yq81 wbyc) yq46 yq2 noZ [(0,wbnk)]
def wapd(k:Int×Y1×Y2×Int×Yam)(v:Int×Int):Tr (Yah⊕Int):=.t (v.2<(length k.2.1:Int)) (.g (inR k.1 (length k.2.2.1))<|.g (inR v.2 (length (getD k.2.2.1 (toNat k.1) [])))<|.g (inR k.1 (length k.2.2.2.2.2.1))<|.t (!(getD k.2.2.2.2.2.1 (toNat k.1) false)) (.t (k.2.2.2.1<(wrap .i64 ((2520:Int)*(getD (getD k.2.2.1 (toNat k.1) []) (toNat v.2) 0)))) (.t (v.1<0) (.l (.inl ((wrap .i64 ((2520:Int)*(getD (getD k.2.2.1 (toNat k.1) []) (toNat v.2) 0))),(wrap .i64 (v.2+1))))) (.t ((wrap .i64 ((2520:Int)*(getD (getD k.2.2.1 (toNat k.1) []) (toNat v.2) 0)))<v.1) (.l (.inl ((wrap .i64 ((2520:Int)*(getD (getD k.2.2.1 (toNat k.1) []) (toNat v.2) 0))),(wrap .i64 (v.2+1))))) (.l (.inl (v.1,(wrap .i64 (v.2+1))))))) (.l (.inl (v.1,(wrap .i64 (v.2+1)))))) (.l (.inl (v.1,(wrap .i64 (v.2+1)))))) (.l (.inr v.1))
def wbhb k v:=iter (λv=>(wapd k v).ev) v
abbrev yq249:Keep:=yk [] [2,3,5,6] (yj [.box 2 0,.box 3 0,.dat yi,.dat yi]) [Zbf,(3,.cells Zm)]
abbrev yq252{a b c d e g h:Type}(t:(a×b×c×d×e×g)×h):=(t.1.2.2.1,t.1.2.2.2.2.1)
def wbnl:LD:=yl (wapd) (yk [] [2,3,5,6,7] (yj [.box 2 0,.box 3 0,.dat yi,.dat yi,.dat yi]) [Zbf,(3,.cells Zm)]) [(2,yq249)] yq14 (λk v=>(((),(),v.1,k.1,v.2,()),(k.2.1,k.2.2.1,()),(k.2.2.2.1,k.2.2.2.2.1,k.2.2.2.2.2.1,k.2.2.2.2.2.2.1,k.2.2.2.2.2.2.2,()),())) (λt=>(t.1.2.2.2.1,t.2.1.1,t.2.1.2.1,t.2.2.1.1,t.2.2.1.2.1,t.2.2.1.2.2.1,t.2.2.1.2.2.2.1,t.2.2.1.2.2.2.2.1)) yq252 (λk r=>yx 2 yq249 (((),(),r,k.1,()),(k.2.1,k.2.2.1,()),(k.2.2.2.1,k.2.2.2.2.1,k.2.2.2.2.2.1,k.2.2.2.2.2.2.1,k.2.2.2.2.2.2.2,()),()))
def wazs(k:Y1×Y2×Int×Yam)(v:Int×Int):Tr (Yah⊕Int):=.t (v.2<(length k.2.1:Int)) (.c _ (wbhb (v.2,k.1,k.2.1,k.2.2.1,k.2.2.2.1,k.2.2.2.2.1,k.2.2.2.2.2.1,k.2.2.2.2.2.2) (v.1,0)) λa=>.l (.inl (a,(wrap .i64 (v.2+1))))) (.l (.inr v.1))
def wbhc k v:=iter (λv=>(wazs k v).ev) v
def wbnm:LD:=yl (wazs) yq249 [(0,yq128)] yq14 (λk v=>(((),(),v.1,v.2,()),(k.1,k.2.1,()),(k.2.2.1,k.2.2.2.1,k.2.2.2.2.1,k.2.2.2.2.2.1,k.2.2.2.2.2.2,()),())) (λt=>(t.2.1.1,t.2.1.2.1,t.2.2.1.1,t.2.2.1.2.1,t.2.2.1.2.2.1,t.2.2.1.2.2.2.1,t.2.2.1.2.2.2.2.1)) yq130 (λ_ r=>yx 0 yq128 ((r,()),()))
def wbye(a:Y1)(j:List Y1)(b:Int)(h:Y1)(g:List Bool)(e i:Y1):Tr Int:=.c _ (wbhc (a,j,b,h,g,e,i) ((-1),0)) λf=>.l f
def wbyf a h b f e c g:=(wbye a h b f e c g).ev
abbrev yq255{a b c d e g h i j l m:Type}{z:Type _}(f:a->b->d->e->g->h->i->z)(x:((a×b×c)×(d×e×g×h×i×j)×l)×m):z:=f x.1.1.1 x.1.1.2.1 x.1.2.1.1 x.1.2.1.2.1 x.1.2.1.2.2.1 x.1.2.1.2.2.2.1 x.1.2.1.2.2.2.2.1
def wcld:FP prog:=fnP cx func292 [] (yj [.agg Zh,.agg Zm]) [] [] (yq255 wbye) yq0 yq2 noZ [(2,wbnl),(0,wbnm)]
def wauy(k:Int×Y1×Y2×Int×Yam)(v:Int×Int):Tr (Yah⊕Int):=.t (v.2<(length k.2.2.1:Int)) (.g (inR v.2 (length k.2.2.2.2.2.1))<|.t (!(getD k.2.2.2.2.2.1 (toNat v.2) false)) (.g (inR v.2 (length k.2.2.1))<|.g (inR k.1 (length (getD k.2.2.1 (toNat v.2) [])))<|.t ((wrap .i64 ((2520:Int)*(getD (getD k.2.2.1 (toNat v.2) []) (toNat k.1) 0)))<=k.2.2.2.1) (.l (.inl ((wrap .i64 (v.1+1)),(wrap .i64 (v.2+1))))) (.l (.inl (v.1,(wrap .i64 (v.2+1)))))) (.l (.inl (v.1,(wrap .i64 (v.2+1)))))) (.l (.inr v.1))
def wbhd k v:=iter (λv=>(wauy k v).ev) v
def wbnn:LD:=yl (wauy) (yk [] [2,3,4,7,8] (yj [.dat yi,.box 3 0,.box 4 0,.dat yi,.dat yi]) [(3,.cells Zh),(4,.cells Zm)]) [(0,yq121)] yq14 (λk v=>((k.1,(),(),v.1,v.2,()),(k.2.1,k.2.2.1,()),(k.2.2.2.1,k.2.2.2.2.1,k.2.2.2.2.2.1,k.2.2.2.2.2.2.1,k.2.2.2.2.2.2.2,()),())) (λt=>(t.1.1,t.2.1.1,t.2.1.2.1,t.2.2.1.1,t.2.2.1.2.1,t.2.2.1.2.2.1,t.2.2.1.2.2.2.1,t.2.2.1.2.2.2.2.1)) yq124 (λ_ r=>yx 0 yq121 ((r,()),()))
def wbyg(a:Y1)(m:List Y1)(e:Int)(h:Y1)(g:List Bool)(f i:Y1)(j:Int):Tr Int:=.c _ (wbhd (j,a,m,e,h,g,f,i) (0,0)) λb=>.l b
def wbyh a i b f e c g h:=(wbyg a i b f e c g h).ev
def wcle:FP prog:=fnP cx func293 [] (yj [.agg Zh,.agg Zm,.dat yi]) [] [] ((λf x=>f x.1.1.1 x.1.1.2.1 x.1.2.1.1 x.1.2.1.2.1 x.1.2.1.2.2.1 x.1.2.1.2.2.2.1 x.1.2.1.2.2.2.2.1 x.1.2.2.1) wbyg) yq125 yq2 noZ [(0,wbnn)]
def wapi(k:Y1×Y2×Int×Y1×(List Bool)×Ybn)(v:Int×Int):Tr (Yah⊕Int):=.t (v.2<(length k.1:Int)) (.c _ (wbyh k.1 k.2.1 k.2.2.1 k.2.2.2.1 k.2.2.2.2.1 k.2.2.2.2.2.1 k.2.2.2.2.2.2.1 v.2) λa=>.g (inR v.2 (length k.1))<|.c _ (wbcw k.1 k.2.1 k.2.2.2.2.2.2.2 v.2 2520) λb=>.g (inR v.2 (length k.2.2.2.2.2.2.1))<|.t ((getD k.2.2.2.2.2.2.1 (toNat v.2) 0)<(0:Int)) (.t (0<a) (.t (v.1<0) (.g (!decide (a=0))<|.l (.inl ((wrap .i64 (k.2.2.1+(wrap .i64 (Int.tdiv (wrap .i64 ((wrap .i64 ((2520:Int)*(getD k.1 (toNat v.2) 0))) -b)) a)))),(wrap .i64 (v.2+1))))) (.t ((wrap .i64 ((wrap .i64 ((2520:Int)*(getD k.1 (toNat v.2) 0))) -b))<(wrap .i64 (a*(wrap .i64 (v.1-k.2.2.1))))) (.g (!decide (a=0))<|.l (.inl ((wrap .i64 (k.2.2.1+(wrap .i64 (Int.tdiv (wrap .i64 ((wrap .i64 ((2520:Int)*(getD k.1 (toNat v.2) 0))) -b)) a)))),(wrap .i64 (v.2+1))))) (.l (.inl (v.1,(wrap .i64 (v.2+1))))))) (.l (.inl (v.1,(wrap .i64 (v.2+1)))))) (.l (.inl (v.1,(wrap .i64 (v.2+1)))))) (.l (.inr v.1))
def wbhe k v:=iter (λv=>(wapi k v).ev) v
def wbno:LD:=yl (wapi) (yk [] [2,3,5,6,7] (yj [.box 2 0,.box 3 0,.dat yi,.arr 896,.dat yi]) [Zbf,(3,.cells Zm),(896,.arr 3 yi)]) [(0,yq128)] yq14 (λk v=>(((),(),v.1,(),v.2,()),(k.1,k.2.1,()),(k.2.2.1,k.2.2.2.1,k.2.2.2.2.1,k.2.2.2.2.2.1,k.2.2.2.2.2.2.1,()),k.2.2.2.2.2.2.2,())) (λt=>(t.2.1.1,t.2.1.2.1,t.2.2.1.1,t.2.2.1.2.1,t.2.2.1.2.2.1,t.2.2.1.2.2.2.1,t.2.2.1.2.2.2.2.1,t.2.2.2.1)) yq252 (λ_ r=>yx 0 yq128 ((r,()),()))
def wbyi(h:Y1)(i:List Y1)(a:Int)(f:Y1)(e:List Bool)(b g:Y1):Tr Int:=.c _ (wbyf h i a f e b g) λj=>.c _ (wbgw a f e b g) λm=>.c _ (wbhe (h,i,a,f,e,b,g,m) (j,0)) λn=>.l n
def wbyj a h b f e c g:=(wbyi a h b f e c g).ev
def wclf:FP prog:=fnP cx func256 [wcld,wcgf,wcle,wbwy] (yj [.agg Zh,.agg Zm]) [] [] (yq255 wbyi) yq0 yq2 noZ [(0,wbno)]
def wazt(k:Y1×Y2×Int×Int×Y1×Y1×Y1×Y1×(List Bool)×Y1)(v:Int×Y1):Tr (Yap⊕Y1):=.t (v.1<(length k.1:Int)) (.g ((length v.2+length ([(-1)]:Y1))*8<=140737488355328)<|.l (.inl ((wrap .i64 (v.1+1)),(v.2++([(-1)]:Y1))))) (.l (.inr v.2))
def wbhf k v:=iter (λv=>(wazt k v).ev) v
abbrev yq218:Keep:=yk [] [1,2,3] (yj [.box 1 0,.box 2 0,.box 3 0]) [Zag,Zbj,(3,.cells (yj [.dat yi,.arr 8,.arr 12,.arr 16,.arr 900334])),(900321,.arr 3 yi),(900323,.arr 3 yi),(900324,.arr 3 yi),(8,.arr 3 yi),(12,.arr 4 .bool),(16,.arr 3 yi),(900334,.arr 3 yi)]
def wbnp:LD:=yl (wazt) (yk [.ownB 2 1 900321 3 yi,.ownB 2 3 900323 3 yi,.ownB 2 4 900324 3 yi,.ownB 3 4 900334 3 yi] [1,2,3,4] (yj [.box 1 0,.box 2 0,.box 3 0,.dat yi]) [Zag,Zbj,(3,.cells (yj [.dat yi,.arr 8,.arr 12,.arr 16,.arr 900334])),(900321,.arr 3 yi),(900323,.arr 3 yi),(900324,.arr 3 yi),(8,.arr 3 yi),(12,.arr 4 .bool),(16,.arr 3 yi),(900334,.arr 3 yi)]) [(0,yq218)] yq14 (λk v=>(((),(),(),v.1,()),(k.1,k.2.1,()),(k.2.2.1,(),(),(),(),()),(k.2.2.2.1,(),(),(),(),()),k.2.2.2.2.1,k.2.2.2.2.2.1,k.2.2.2.2.2.2.1,k.2.2.2.2.2.2.2.1,k.2.2.2.2.2.2.2.2.1,k.2.2.2.2.2.2.2.2.2,v.2,())) (λt=>(t.2.1.1,t.2.1.2.1,t.2.2.1.1,t.2.2.2.1.1,t.2.2.2.2.1,t.2.2.2.2.2.1,t.2.2.2.2.2.2.1,t.2.2.2.2.2.2.2.1,t.2.2.2.2.2.2.2.2.1,t.2.2.2.2.2.2.2.2.2.1)) (λt=>(t.1.2.2.2.1,t.2.2.2.2.2.2.2.2.2.2.1)) (λk r=>yx 0 yq218 (((),(),(),()),(k.1,k.2.1,()),(k.2.2.1,(),(),(),(),()),(k.2.2.2.1,(),(),(),(),()),k.2.2.2.2.1,k.2.2.2.2.2.1,k.2.2.2.2.2.2.1,k.2.2.2.2.2.2.2.1,k.2.2.2.2.2.2.2.2.1,k.2.2.2.2.2.2.2.2.2,r,()))
def waxl(k:Y1×Y2×Int×Ybn)(v:Int×Yam):Tr ((Int×Yam)⊕(Int×Yam)):=.c _ (wbyd v.1 v.2.1 v.2.2.1 v.2.2.2.1 v.2.2.2.2) λe=>.t e (.c _ (wbyj k.1 k.2.1 v.1 v.2.1 v.2.2.1 v.2.2.2.1 v.2.2.2.2) λb=>.c _ (wbnj k.1 k.2.1 b v.2.1 v.2.2.1 v.2.2.2.1 v.2.2.2.2) λa=>.l (.inl (a.1,a.2.1,a.2.2.1,a.2.2.2.1,a.2.2.2.2))) (.l (.inr (v.1,v.2.1,v.2.2.1,v.2.2.2.1,v.2.2.2.2)))
def wbbw k v:=iter (λv=>(waxl k v).ev) v
abbrev yq264:Keep:=yk [] [2,3] (yj [.box 2 0,.box 3 0]) [Zbj,(3,.cells (yj [.dat yi,.arr 902631,.arr 902632,.arr 902633,.arr 902634])),(900321,.arr 3 yi),(900323,.arr 3 yi),(900324,.arr 3 yi),(902631,.arr 3 yi),(902632,.arr 4 .bool),(902633,.arr 3 yi),(902634,.arr 3 yi)]
def wbnq:LD:=yl (waxl) (yk [.repB 3 1 902631,.repB 3 2 902632,.repB 3 3 902633,.repB 3 4 902634] [1,2,3] (yj [.box 1 0,.box 2 0,.box 3 0]) [Zag,Zbj,(3,.cells (yj [.dat yi,.arr 902631,.arr 902632,.arr 902633,.arr 902634])),(900321,.arr 3 yi),(900323,.arr 3 yi),(900324,.arr 3 yi),(902631,.arr 3 yi),(902632,.arr 4 .bool),(902633,.arr 3 yi),(902634,.arr 3 yi)]) [(2,yq264)] yq14 (λk v=>(((),(),(),()),(k.1,k.2.1,()),(k.2.2.1,(),(),(),(),()),(v.1,(),(),(),(),()),k.2.2.2.1,k.2.2.2.2.1,k.2.2.2.2.2,v.2.1,v.2.2.1,v.2.2.2.1,v.2.2.2.2,())) (λt=>(t.2.1.1,t.2.1.2.1,t.2.2.1.1,t.2.2.2.2.1,t.2.2.2.2.2.1,t.2.2.2.2.2.2.1)) (λt=>(t.2.2.2.1.1,t.2.2.2.2.2.2.2.1,t.2.2.2.2.2.2.2.2.1,t.2.2.2.2.2.2.2.2.2.1,t.2.2.2.2.2.2.2.2.2.2.1)) (λk r=>yx 2 yq264 (((),(),()),(k.2.2.1,(),(),(),(),()),(r.1,(),(),(),(),()),k.2.2.2.1,k.2.2.2.2.1,k.2.2.2.2.2,r.2.1,r.2.2.1,r.2.2.2.1,r.2.2.2.2,()))
def wbyk(f:Y1)(a:List Y1):Tr (Int×Yam):=.g (((0:Int)<=(length a:Int))&&((length a:Int)<=(length a:Int))&&(((8:Nat):Int)*(length a:Int)<=281474976710656))<|.g (((0:Int)<=(length a:Int))&&((length a:Int)<=(length a:Int))&&(((1:Nat):Int)*(length a:Int)<=281474976710656))<|.g (((0:Int)<=(length a:Int))&&((length a:Int)<=(length a:Int))&&(((8:Nat):Int)*(length a:Int)<=281474976710656))<|.c _ (wbhf (f,a,0,0,[],[],[],(List.replicate (toNat (length a:Int)) 0),(List.replicate (toNat (length a:Int)) false),(List.replicate (toNat (length a:Int)) 0)) (0,[])) λh=>.c _ (wbnj f a 0 (List.replicate (toNat (length a:Int)) 0) (List.replicate (toNat (length a:Int)) false) (List.replicate (toNat (length a:Int)) 0) h) λe=>.c _ (wbbw (f,a,0,[],[],[]) (e.1,e.2.1,e.2.2.1,e.2.2.2.1,e.2.2.2.2)) λb=>.l (b.1,b.2.1,b.2.2.1,b.2.2.2.1,b.2.2.2.2)
def wbyl a b:=(wbyk a b).ev
def wclg:FP prog:=fnP cx func193 [wclb,wclc,wclf] (yj [.agg Zh]) [] [] (yq24 wbyk) ⟨[.ren 902631 1,.ren 902632 4,.ren 902633 5,.ren 902634 6],[.cell 2 181],(yj [.agg (yj [.dat yi,.arr 1,.arr 4,.arr 5,.arr 6])]),[(1,.arr 3 yi),(4,.arr 4 .bool),(5,.arr 3 yi),(6,.arr 3 yi)],[],[]⟩ yq245 noZ [(0,wbnp),(2,wbnq)]
def waxm(k:Y1×Int×Int×Yam)(v:Int):Tr (Int⊕Int):=.t (v<(length k.1:Int)) (.g (inR v (length k.1))<|.c _ (wbnf k.2.2.1 k.2.2.2.1 k.2.2.2.2.1 k.2.2.2.2.2.1 k.2.2.2.2.2.2 k.2.1 (getD k.1 (toNat v) 0)) λa=>.t (!a) (.l (.inl (wrap .i64 (v+1)))) (.l (.inr v))) (.l (.inr v))
def wbcy k v:=iter (λv=>(waxm k v).ev) v
abbrev yq272:Keep:=yk [] [1,3,4,5] (yj [.box 1 0,.dat y1,.dat yi,.dat yi]) [(1,.cells Zm)]
def wbnr:LD:=yl (waxm) yq272 [(2,yq272)] yq14 (λk v=>(((),k.1,k.2.1,v,()),(k.2.2.1,k.2.2.2.1,k.2.2.2.2.1,k.2.2.2.2.2.1,k.2.2.2.2.2.2,()),())) (λt=>(t.1.2.1,t.1.2.2.1,t.2.1.1,t.2.1.2.1,t.2.1.2.2.1,t.2.1.2.2.2.1,t.2.1.2.2.2.2.1)) yq39 (λk r=>yx 2 yq272 (((),k.1,k.2.1,r,()),(k.2.2.1,k.2.2.2.1,k.2.2.2.2.1,k.2.2.2.2.2.1,k.2.2.2.2.2.2,()),()))
def waxn(k:Int×Yam)(v:Y1×Int):Tr ((Y1×Int)⊕Y1):=.t (v.2<(length k.2.2.2.2:Int)) (.g (inR v.2 (length k.2.2.2.2))<|.t ((getD k.2.2.2.2 (toNat v.2) 0)<(0:Int)) (.l (.inl (v.1,(wrap .i64 (v.2+1))))) (.c _ (wbcy (v.1,v.2,k.1,k.2.1,k.2.2.1,k.2.2.2.1,k.2.2.2.2) 0) λa=>.g ((0<=a)&&(a<=(length v.1:Int)))<|.c _ (wayj (List.drop 0 (List.take (toNat a) v.1))) λb=>.g ((length b+length ([v.2]:Y1))*8<=140737488355328)<|.g ((0<=a)&&(a<=(length v.1:Int)))<|.g ((length (b++([v.2]:Y1))+length (List.drop (toNat a) (List.take (length v.1) v.1)))*8<=140737488355328)<|.l (.inl (((b++([v.2]:Y1))++(List.drop (toNat a) (List.take (length v.1) v.1))),(wrap .i64 (v.2+1)))))) (.l (.inr v.1))
def wbhg k v:=iter (λv=>(waxn k v).ev) v
abbrev yq276:Keep:=yh [3] Zbo
def wbns:LD:=yl (waxn) (yk [.fz 6,.fz 2496] [1,3,4] (yj [.box 1 0,.dat y1,.dat yi]) [(1,.cells Zm)]) [(0,yq276)] yq14 (λk v=>(((),v.1,v.2,()),(k.1,k.2.1,k.2.2.1,k.2.2.2.1,k.2.2.2.2,()),())) yq225 yq8 (λ_ r=>yx 0 yq276 ((r,()),()))
def wbym(a:Int)(h:Y1)(b:List Bool)(g f:Y1):Tr Y1:=.c _ (wbhg (a,h,b,g,f) ([],0)) λe=>.l e
def wbyn a f b e c:=(wbym a f b e c).ev
def wclh:FP prog:=fnP cx func194 [wcgg,wbef] (yj [.agg Zm]) [] [] (yq81 wbym) yq163 yq2 (zOf [(9,[(0,[3])])]) [(2,wbnr),(0,wbns)]
def wauz(k:Int×Int×Y1×Y2×Int×Yam)(v:Int):Tr (Int⊕(Unit⊕Bool)):=.t (v<(length k.2.2.2.1:Int)) (.g (inR v (length k.2.2.2.2.2.1))<|.g (inR v (length k.2.2.2.1))<|.g (inR k.1 (length (getD k.2.2.2.1 (toNat v) [])))<|.t ((wrap .i64 ((2520:Int)*(getD (getD k.2.2.2.1 (toNat v) []) (toNat k.1) 0)))<(getD k.2.2.2.2.2.1 (toNat v) 0)) (.g (inR v (length k.2.2.2.2.2.1))<|.g (inR v (length k.2.2.2.1))<|.g (inR k.2.1 (length (getD k.2.2.2.1 (toNat v) [])))<|.t ((wrap .i64 ((2520:Int)*(getD (getD k.2.2.2.1 (toNat v) []) (toNat k.2.1) 0)))<(getD k.2.2.2.2.2.1 (toNat v) 0)) (.g (inR k.1 (length k.2.2.2.2.2.2.2.2))<|.t ((0:Int)<=(getD k.2.2.2.2.2.2.2.2 (toNat k.1) 0)) (.g (inR k.2.1 (length k.2.2.2.2.2.2.2.2))<|.l (.inr (.inr ((0:Int)<=(getD k.2.2.2.2.2.2.2.2 (toNat k.2.1) 0))))) (.l (.inr (.inr false)))) (.l (.inl (wrap .i64 (v+1))))) (.l (.inl (wrap .i64 (v+1))))) (.l (.inr (.inl ())))
def wbhh k v:=iter (λv=>(wauz k v).ev) v
abbrev yq279:Keep:=yh [8] (yj [.dat .bool])
def wbnt:LD:=yl (wauz) (yk [] [2,3,4,5,9] (yj [.dat yi,.dat yi,.box 4 0,.box 5 0,.dat yi]) [(4,.cells Zh),(5,.cells Zm)]) [(0,yq14)] yq279 (λk v=>((k.1,k.2.1,(),(),v,()),(k.2.2.1,k.2.2.2.1,()),(k.2.2.2.2.1,k.2.2.2.2.2.1,k.2.2.2.2.2.2.1,k.2.2.2.2.2.2.2.1,k.2.2.2.2.2.2.2.2,()),())) (λt=>(t.1.1,t.1.2.1,t.2.1.1,t.2.1.2.1,t.2.2.1.1,t.2.2.1.2.1,t.2.2.1.2.2.1,t.2.2.1.2.2.2.1,t.2.2.1.2.2.2.2.1)) yq148 (λ_ r=>.s _ _ r (λ_=>yx 0 yq14 ((),())) (λb=>yz yq279 ((b,()),())))
def wbyo(b:Y1)(o:List Y1)(f:Int)(j:Y1)(h:List Bool)(g m:Y1)(n a:Int):Tr Bool:=.c _ (wbhh (n,a,b,o,f,j,h,g,m) 0) λe=>.s _ _ e (λ_=>.l false) (λi=>.l i)
def wbyp a j c g f e h i b:=(wbyo a j c g f e h i b).ev
abbrev yq282:RetK:=yr [.tmp 8] (yj [.dat .bool])
def wcli:FP prog:=fnP cx func195 [] (yj [.agg Zh,.agg Zm,.dat yi,.dat yi]) [] [] ((λf x=>f x.1.1.1 x.1.1.2.1 x.1.2.1.1 x.1.2.1.2.1 x.1.2.1.2.2.1 x.1.2.1.2.2.2.1 x.1.2.1.2.2.2.2.1 x.1.2.2.1 x.1.2.2.2.1) wbyo) yq282 yq2 noZ [(0,wbnt)]
def waxo(k:Y1×Y1×Int×Y1×Y2×Int×Yam)(v:Bool×Int):Tr ((Bool×Int)⊕Bool):=.t (v.2<(length k.2.1:Int)) (.t v.1 (.g (inR k.2.2.1 (length k.1))<|.g (inR v.2 (length k.2.1))<|.c _ (wbyp k.2.2.2.1 k.2.2.2.2.1 k.2.2.2.2.2.1 k.2.2.2.2.2.2.1 k.2.2.2.2.2.2.2.1 k.2.2.2.2.2.2.2.2.1 k.2.2.2.2.2.2.2.2.2 (getD k.1 (toNat k.2.2.1) 0) (getD k.2.1 (toNat v.2) 0)) λa=>.l (.inl ((!a),(wrap .i64 (v.2+1))))) (.l (.inl (false,(wrap .i64 (v.2+1)))))) (.l (.inr v.1))
def wbhi k v:=iter (λv=>(waxo k v).ev) v
abbrev yq290:Keep:=yk [] [1,4,5,6,7,8] (yj [.box 1 0,.box 4 0,.dat y1,.dat y1,.dat yi,.dat .bool]) [Zag,(4,.cells Zm)]
def wbnu:LD:=yl (waxo) (yk [] [1,4,5,6,7,8,9] (yj [.box 1 0,.box 4 0,.dat y1,.dat y1,.dat yi,.dat .bool,.dat yi]) [Zag,(4,.cells Zm)]) [(2,yq290)] yq14 (λk v=>(((),(),k.1,k.2.1,k.2.2.1,v.1,v.2,()),(k.2.2.2.1,k.2.2.2.2.1,()),(k.2.2.2.2.2.1,k.2.2.2.2.2.2.1,k.2.2.2.2.2.2.2.1,k.2.2.2.2.2.2.2.2.1,k.2.2.2.2.2.2.2.2.2,()),())) (λt=>(t.1.2.2.1,t.1.2.2.2.1,t.1.2.2.2.2.1,t.2.1.1,t.2.1.2.1,t.2.2.1.1,t.2.2.1.2.1,t.2.2.1.2.2.1,t.2.2.1.2.2.2.1,t.2.2.1.2.2.2.2.1)) (λt=>(t.1.2.2.2.2.2.1,t.1.2.2.2.2.2.2.1)) (λk r=>yx 2 yq290 (((),(),k.1,k.2.1,k.2.2.1,r,()),(k.2.2.2.1,k.2.2.2.2.1,()),(k.2.2.2.2.2.1,k.2.2.2.2.2.2.1,k.2.2.2.2.2.2.2.1,k.2.2.2.2.2.2.2.2.1,k.2.2.2.2.2.2.2.2.2,()),()))
def waxp(k:Y1×Y1×Y2×Int×Yam)(v:Y1×Int):Tr ((Y1×Int)⊕Y1):=.t (v.2<(length k.1:Int)) (.c _ (wbhi (k.1,v.1,v.2,k.2.1,k.2.2.1,k.2.2.2.1,k.2.2.2.2.1,k.2.2.2.2.2.1,k.2.2.2.2.2.2.1,k.2.2.2.2.2.2.2) (true,0)) λb=>.t b (.g (inR v.2 (length k.1))<|.c _ (wbca v.1 (getD k.1 (toNat v.2) 0)) λa=>.l (.inl (a,(wrap .i64 (v.2+1))))) (.l (.inl (v.1,(wrap .i64 (v.2+1)))))) (.l (.inr v.1))
def wbhj k v:=iter (λv=>(waxp k v).ev) v
abbrev yq294:Keep:=yh [6] Zbo
def wbnv:LD:=yl (waxp) (yk [.fz 25,.fz 3776] [1,4,5,6,7] (yj [.box 1 0,.box 4 0,.dat y1,.dat y1,.dat yi]) [Zag,(4,.cells Zm)]) [(0,yq294)] yq14 (λk v=>(((),(),k.1,v.1,v.2,()),(k.2.1,k.2.2.1,()),(k.2.2.2.1,k.2.2.2.2.1,k.2.2.2.2.2.1,k.2.2.2.2.2.2.1,k.2.2.2.2.2.2.2,()),())) (λt=>(t.1.2.2.1,t.2.1.1,t.2.1.2.1,t.2.2.1.1,t.2.2.1.2.1,t.2.2.1.2.2.1,t.2.2.1.2.2.2.1,t.2.2.1.2.2.2.2.1)) yq124 (λ_ r=>yx 0 yq294 ((r,()),()))
def wbnw(e:Y1)(b:List Y1):Tr (Y1×Bool):=.c _ (wavv e b) λf=>.t (!f) (.l ([],false)) (.t ((length b:Int)==(0:Int)) (.c _ (wbxy e b) λh=>.l (([h]:Y1),true)) (.c _ (wbyl e b) λa=>.c _ (wbyn a.1 a.2.1 a.2.2.1 a.2.2.2.1 a.2.2.2.2) λi=>.c _ (wbhj (i,e,b,a.1,a.2.1,a.2.2.1,a.2.2.2.1,a.2.2.2.2) ([],0)) λg=>.l (g,true)))
def wbek a b:=(wbnw a b).ev
def wclj:FP prog:=fnP cx func125 [wbbs,wcla,wclg,wclh,wcli,wbvn] (yj [.agg Zh]) [] [] (yq24 wbnw) ⟨[.fz 13,.fz 20],[.tmp 2,.tmp 3],(yj [.dat y1,.dat .bool]),[],[],[]⟩ yq172 (zOf [(6,[(1,[23])])]) [(2,wbnu),(0,wbnv)]
end
end Go.Proofs.YtidaiohhaanphaaGreatDoor
