/- A part of the proof that FnExactRunScript hands back true, at every argument of the row. -/
import Derived.Test.YteiekijgoifhoaaGreatDoorB58
namespace Go.Proofs.YteiekijgoifhoaaGreatDoor
noncomputable section
open Go.Proofs.Tryz
open List (length getD set)
open Int (toNat)
open IntKind (wrap)
abbrev yi:Ty:=.int .i64
abbrev y1:Ty:=.slice yi
abbrev y2:Ty:=.slice y1
abbrev y3:Ty:=.slice y2
abbrev Y1:Type:=List Int
abbrev Y2:Type:=List Y1
abbrev Y3:Type:=List Y2
abbrev ys(l:List Nat)(s:Sh):SSh:= {slots:=l,sh:=s,obs:=[]}
abbrev yd(A:Sh)(I:List (Nat×OSh))(L:List LP)(R:Type)(F:A.I×OL I->Option R)(e:R->List AV×List (Nat×Ob)):FD:= {A:=A,ins:=I,lend:=L,R:=R,F:=F,emb:=e}
abbrev Za:List UInt8:=([0,1,2,2,3,3,3,3,4,4,4,4,4,4,4,4,5,5,5,5,5,5,5,5,5,5,5,5,5,5,5,5,6,6,6,6,6,6,6,6,6,6,6,6,6,6,6,6,6,6,6,6,6,6,6,6,6,6,6,6,6,6,6,6,7,7,7,7,7,7,7,7,7,7,7,7,7,7,7,7,7,7,7,7,7,7,7,7,7,7,7,7,7,7,7,7,7,7,7,7,7,7,7,7,7,7,7,7,7,7,7,7,7,7,7,7,7,7,7,7,7,7,7,7,7,7,7,7,8,8,8,8,8,8,8,8,8,8,8,8,8,8,8,8,8,8,8,8,8,8,8,8,8,8,8,8,8,8,8,8,8,8,8,8,8,8,8,8,8,8,8,8,8,8,8,8,8,8,8,8,8,8,8,8,8,8,8,8,8,8,8,8,8,8,8,8,8,8,8,8,8,8,8,8,8,8,8,8,8,8,8,8,8,8,8,8,8,8,8,8,8,8,8,8,8,8,8,8,8,8,8,8,8,8,8,8,8,8,8,8,8,8,8,8,8,8,8,8,8,8,8,8,8,8,8,8]:List UInt8)
abbrev Zb:Sh:=yj [.dat y1,.dat y2]
abbrev Zc:Nat:=IntKind.bits .u64
abbrev Zd:Sh:=yj [.dat y1,.dat y2,.dat y1,.dat yi]
abbrev Ze:Sh:=yj [.dat yi,.dat y1,.dat (.slice .bool),.dat y1,.dat y1]
abbrev Zg:Sh:=yj [.dat y1,.dat y2,.dat y1,.dat yi,.dat .str,.dat .str,.dat yi]
abbrev Zi:Sh:=yj [.dat yi]
abbrev Yj:Type:=(List Nat)×Y2
abbrev Yk:Type:=HL [y1,y1]->Option Int
abbrev Zn:Sh:=yj [.dat yi,.arr 64,.arr 65,.arr 66,.arr 67]
abbrev Zo:Nat×OSh:=(1,.cells Zb)
abbrev Yp:Type:=Int×Y1
abbrev Yq:Type:=Int×Int
abbrev Yr:Type:=Y1×(List Bool)×Y1×Y1
abbrev Zt:Nat×OSh:=(4,.cells (yj [.arr 25,.arr 1920,.arr 2112]))
abbrev Zu:Nat×OSh:=(64,.arr 3 yi)
abbrev Zw:Nat×OSh:=(4,.cells (yj [.nilsl,.nilsl,.nilsl,.dat yi]))
abbrev Zx:Nat×OSh:=(2,.cells (yj [.nilsl,.nilsl,.nilsl]))
abbrev Yy:Type:=(List UInt8)×(List UInt8)
abbrev Yz:Type:=Int×Y1×Y2
abbrev Zaa:Nat×OSh:=(0,.arr 3 yi)
abbrev Zac:Sh:=yj [.dat .str,.dat .str,.dat yi]
abbrev Zad:Nat×OSh:=(64,.perm 22 3 yi)
abbrev Zae:Sh:=yj [.dat yi,.dat yi,.dat yi,.dat yi,.dat y1]
abbrev Zaf:Sh:=yj [.box 64 0,.box 65 0,.box 66 0]
abbrev Zah:Sh:=yj [.arr 0,.dat .bool]
abbrev Yai:Type:=Int×(List (List UInt8))
abbrev Yaj:Type:=Y1×Y2×Int
abbrev Zak:Nat×OSh:=(4,.cells (yj [.dat yi,.nilsl,.nilsl,.nilsl,.nilsl]))
abbrev Zal:Nat×OSh:=(2,.cells Zb)
abbrev Zam:Sh:=yj [.dat .str,.dat .str]
abbrev Zan:Sh:=yj [.arr 0]
abbrev Yaq:Type:=(List UInt8)×Bool
abbrev Yar:Type:=Y1×Y2×Y1
abbrev Zax:Nat×OSh:=(2,.cells (yj [.dat yi,.arr 900321,.nilsl,.arr 900323,.arr 900324]))
abbrev Yay:Type:=Bool×Y1
abbrev Yaz:Type:=Y1×Y2×Y1×Int×(List UInt8)×(List UInt8)×Yai
abbrev Yba:Type:=Y1×Y1×Y1
abbrev Zbd:Sh:=yj [.dat y1]
abbrev Ybe:Type:=HL [yi,yi]->Option Int
abbrev Zbi:Nat×OSh:=(2112,.arr 3 yi)
abbrev Zbk:Nat×OSh:=(4,.cells (yj [.arr 901340,.nilsl,.arr 901342,.dat yi]))
abbrev Zbl:Nat×OSh:=(6,.cells (yj [.arr 13888,.arr 1860,.arr 1861,.dat yi]))
def tabl:List (Nat×TD):=[(3,.sc yi),(4,.sc .bool),(5,.sc (.int .u8)),(9,.sc .str),(22,.sl 3 yi 8),(23,.sl 22 y1 24),(25,.st (.pair y1 y2) [(22,y1),(23,y2)]),(27,.st (.pair (.pair y1 y2) (.pair y1 yi)) [(25,(.pair y1 y2)),(22,y1),(3,yi)]),(29,.st (.pair .str (.pair .str yi)) [(9,.str),(9,.str),(3,yi)]),(31,.st (.pair (.pair (.pair y1 y2) (.pair y1 yi)) (.pair .str (.pair .str yi))) [(27,(.pair (.pair y1 y2) (.pair y1 yi))),(29,(.pair .str (.pair .str yi)))]),(33,.sl 9 .str 16),(36,.st (.pair y1 y2) [(22,y1),(23,y2)]),(38,.st (.pair (.pair y1 y2) (.pair y1 yi)) [(36,(.pair y1 y2)),(22,y1),(3,yi)]),(39,.st (.pair .str (.pair .str yi)) [(9,.str),(9,.str),(3,yi)]),(41,.st (.pair (.pair (.pair y1 y2) (.pair y1 yi)) (.pair .str (.pair .str yi))) [(38,(.pair (.pair y1 y2) (.pair y1 yi))),(39,(.pair .str (.pair .str yi)))]),(48,.sl 5 (.int .u8) 1),(59,.sl 63 (.pair .str .str) 32),(63,.st (.pair .str .str) [(9,.str),(9,.str)]),(93,.sc (.int .u64)),(124,.st (.pair y1 (.pair y1 y1)) [(22,y1),(22,y1),(22,y1)]),(156,.st (.pair yi (.pair yi (.pair yi (.pair yi y1)))) [(3,yi),(3,yi),(3,yi),(3,yi),(22,y1)]),(183,.sc (.int .u64)),(259,.sc (.int .u64)),(275,.sl 4 .bool 1),(277,.st (.pair yi (.pair y1 (.pair (.slice .bool) (.pair y1 y1)))) [(3,yi),(22,y1),(275,(.slice .bool)),(22,y1),(22,y1)])]
def tt:Nat->TD:=λi=>match look tabl i with |some d=>d |none=>.no
theorem mixed:prog.follows .mixedOrders=true:=by kernel_rfl
theorem tabOK:TabOK prog tt:=tab_ok (by kernel_rfl)
theorem cx:Cx prog tt:=⟨mixed,tabOK⟩
def wzq(a:Y1)(b:Int):Tr Int:=.t ((wrap .i64 (b-(length a:Int)))<(0:Int)) (.l (-1)) (.l (wrap .i64 (b-(length a:Int))))
def wjn a b:=(wzq a b).ev
abbrev yq1{a b c d:Type}{z:Type _}(f:a->b->z)(x:(a×b×c)×d):z:=f x.1.1 x.1.2.1
abbrev yq0:RetK:=yr [.tmp 4] Zi
abbrev yq2{a:Type}(r:a):=((r,()),())
def wzr:FP prog:=fnP cx func105 [] (yj [.dat y1,.dat yi]) [] [] (yq1 wzq) yq0 yq2
def wdk(k:List Y1)(v:Int×Int):Tr (Yq⊕(Int⊕Unit)):=.t (v.2<(length k:Int)) (.g (inR v.2 (length k))<|.c _ (wjn (getD k (toNat v.2) []) v.1) λa=>.t (a<0) (.l (.inr (.inr ()))) (.l (.inl (a,(wrap .i64 (v.2+1)))))) (.l (.inr (.inl v.1)))
def whu k v:=iter (λv=>(wdk k v).ev) v
abbrev yq4:Keep:=yh [1] Zi
abbrev yq5:Keep:=yh [4] Zi
abbrev yq6{a b c:Type}(k:a)(v:b×c):=((k,v.1,v.2,()),())
abbrev yq7{a b c:Type}(t:(a×b)×c):=t.1.1
abbrev yq8{a b c d e:Type}(t:(a×b×c×d)×e):=(t.1.2.1,t.1.2.2.1)
def wql:LD:=yl (wdk) (yh [0,1,5] (yj [.dat y2,.dat yi,.dat yi])) [(0,yq4)] yq5 yq6 yq7 yq8 (λ_ r=>.s _ _ r (λa=>yx 0 yq4 ((a,()),())) (λ_=>yz yq5 (((-1),()),())))
def wzs(a:List Y1)(b:Int):Tr Int:=.t ((wrap .i64 (b-(length a:Int)))<(0:Int)) (.l (-1)) (.c _ (whu a ((wrap .i64 (b-(length a:Int))),0)) λf=>.s _ _ f (λe=>.l e) (λ_=>.l (-1)))
def wzt a b:=(wzs a b).ev
def waro:FP prog:=fnP cx func180 [wzr] (yj [.dat y2,.dat yi]) [] [] (yq1 wzs) yq0 yq2 noZ [(0,wql)]
def wzu(f:Y1)(e:List Y1)(g:Int):Tr Int:=.c _ (wjn f g) λb=>.t (b<0) (.l (-1)) (.c _ (wzt e b) λa=>.t (a<0) (.l (-1)) (.l a))
def wzv a b c:=(wzu a b c).ev
abbrev yq9{a b c d e g:Type}{z:Type _}(f:a->b->d->z)(x:((a×b×c)×d×e)×g):z:=f x.1.1.1 x.1.1.2.1 x.1.2.1
def warp:FP prog:=fnP cx func104 [wzr,waro] (yj [.agg Zb,.dat yi]) [] [] (yq9 wzu) yq0 yq2
def wzw(g:Y1)(e:List Y1)(h:Y1)(_i f:Int):Tr Int:=.c _ (wzv g e f) λb=>.t (b<0) (.l (-1)) (.c _ (wjn h b) λa=>.t (a<0) (.l (-1)) (.l a))
def wzx e b f a c:=(wzw e b f a c).ev
abbrev yq10{a b c d e g h i:Type}{z:Type _}(f:a->b->c->d->g->z)(x:((a×b×c×d×e)×g×h)×i):z:=f x.1.1.1 x.1.1.2.1 x.1.1.2.2.1 x.1.1.2.2.2.1 x.1.2.1
def warq:FP prog:=fnP cx func48 [warp,wzr] (yj [.agg Zd,.dat yi]) [] [] (yq10 wzw) yq0 yq2
def wzy(b c:List UInt8)(_e a:Int):Tr Int:=.t ((wrap .i64 (a-(length b:Int)))<(0:Int)) (.l (-1)) (.t ((wrap .i64 ((wrap .i64 (a-(length b:Int))) -(length c:Int)))<(0:Int)) (.l (-1)) (.l (wrap .i64 ((wrap .i64 (a-(length b:Int))) -(length c:Int)))))
def wzz a c e b:=(wzy a c e b).ev
def warr:FP prog:=fnP cx func49 [] (yj [.agg Zac,.dat yi]) [] [] ((λf x=>f x.1.1.1 x.1.1.2.1 x.1.1.2.2.1 x.1.2.1) wzy) yq0 yq2
def waaa(m:Y1)(g:List Y1)(n:Y1)(e:Int)(i f:List UInt8)(h j:Int):Tr Int:=.c _ (wzx m g n e j) λb=>.t (b<0) (.l (-1)) (.c _ (wzz i f h b) λa=>.t (a<0) (.l (-1)) (.l a))
def wamr h c f a i b e g:=(waaa h c f a i b e g).ev
abbrev yq12{a b c d e g h i j l m:Type}{z:Type _}(f:a->b->c->d->e->g->h->j->z)(x:((a×b×c×d×e×g×h×i)×j×l)×m):z:=f x.1.1.1 x.1.1.2.1 x.1.1.2.2.1 x.1.1.2.2.2.1 x.1.1.2.2.2.2.1 x.1.1.2.2.2.2.2.1 x.1.1.2.2.2.2.2.2.1 x.1.2.1
def wars:FP prog:=fnP cx func9 [warq,warr] (yj [.agg Zg,.dat yi]) [] [] (yq12 waaa) yq0 yq2
def wdl(k:Y1)(v:Int×Y1):Tr (Yp⊕Y1):=.t (v.1<(length k:Int)) (.g (inR v.1 (length k))<|.g (inR v.1 (length v.2))<|.g ((toNat v.1)<length v.2)<|.l (.inl ((wrap .i64 (v.1+1)),(set v.2 (toNat v.1) (getD k (toNat v.1) 0))))) (.l (.inr v.2))
def wkn k v:=iter (λv=>(wdl k v).ev) v
abbrev yq14:Keep:=yk [] [3] (yj [.arr 7]) [(7,.arr 3 yi)]
abbrev yq15:Keep:=yh [] .nil
abbrev yq16{a b c:Type}(k:a)(v:b×c):=((k,(),v.1,()),v.2,())
abbrev yq17{a b c d e g:Type}(t:(a×b×c×d)×e×g):=(t.1.2.2.1,t.2.1)
def wqm:LD:=yl (wdl) (yk [] [0,3,4] (yj [.dat y1,.arr 7,.dat yi]) [(7,.arr 3 yi)]) [(0,yq14)] yq15 yq16 yq7 yq17 (λ_ r=>yx 0 yq14 (((),()),r,()))
def waab(a:Y1):Tr Y1:=.g (((0:Int)<=(length a:Int))&&((length a:Int)<=(length a:Int))&&(((8:Nat):Int)*(length a:Int)<=281474976710656))<|.c _ (wkn a (0,(List.replicate (toNat (length a:Int)) 0))) λb=>.l b
def wko a:=(waab a).ev
abbrev yq19{a b c:Type}{z:Type _}(f:a->z)(x:(a×b)×c):z:=f x.1.1
abbrev yq20{a:Type}(r:a):=(((),()),r,())
def waac:FP prog:=fnP cx func107 [] Zbd [] [] (yq19 waab) ⟨[.ren 7 0],[.tmp 2],Zan,[Zaa],[],[]⟩ yq20 noZ [(0,wqm)]
def wdm(k:List Y1)(v:Int×Y2):Tr ((Int×Y2)⊕Y2):=.t (v.1<(length k:Int)) (.g (inR v.1 (length k))<|.c _ (wko (getD k (toNat v.1) [])) λa=>.g (inR v.1 (length v.2))<|.g ((toNat v.1)<length v.2)<|.l (.inl ((wrap .i64 (v.1+1)),(set v.2 (toNat v.1) a)))) (.l (.inr v.2))
def wkp k v:=iter (λv=>(wdm k v).ev) v
abbrev yq22:Keep:=yk [] [3] (yj [.arr 7]) [(7,.rows 22 3 yi)]
def wqn:LD:=yl (wdm) (yk [] [0,3,4] (yj [.dat y2,.arr 7,.dat yi]) [(7,.rows 22 3 yi)]) [(0,yq22)] yq15 yq16 yq7 yq17 (λ_ r=>yx 0 yq22 (((),()),r,()))
def waad(a:List Y1):Tr Y2:=.g (((0:Int)<=(length a:Int))&&((length a:Int)<=(length a:Int))&&(((24:Nat):Int)*(length a:Int)<=281474976710656))<|.c _ (wkp a (0,(List.replicate (toNat (length a:Int)) []))) λb=>.l b
def waae a:=(waad a).ev
def wart:FP prog:=fnP cx func181 [waac] (yj [.dat y2]) [] [] (yq19 waad) ⟨[.ren 7 0],[.tmp 2],Zan,[(0,.rows 22 3 yi)],[],[]⟩ yq20 (zOf [(1,[(2,[1000000])])]) [(0,wqn)]
def waaf(f:Y1)(e:List Y1):Tr (Y1×Y2):=.c _ (wko f) λa=>.c _ (waae e) λb=>.l (a,b)
def waag a b:=(waaf a b).ev
abbrev yq25{a b c d e:Type}{z:Type _}(f:a->b->z)(x:((a×b×c)×d)×e):z:=f x.1.1.1 x.1.1.2.1
def waru:FP prog:=fnP cx func106 [waac,wart] (yj [.agg Zb]) [] [] (yq25 waaf) ⟨[.ren 384 4,.ren 640 5],[.cell 2 36],(yj [.agg (yj [.arr 4,.arr 5])]),[(4,.arr 3 yi),(5,.rows 22 3 yi)],[],[]⟩ (λr=>((((),(),()),()),r.1,r.2,()))
def waah(g:Y1)(f:List Y1)(h:Y1)(b:Int):Tr (Int×Yar):=.c _ (waag g f) λa=>.c _ (wko h) λe=>.l (b,a.1,a.2,e)
def waai a c e b:=(waah a c e b).ev
abbrev yq28{a b c d e g h:Type}{z:Type _}(f:a->b->c->d->z)(x:((a×b×c×d×e)×g)×h):z:=f x.1.1.1 x.1.1.2.1 x.1.1.2.2.1 x.1.1.2.2.2.1
abbrev yq29{a b c d:Type}(r:a×b×c×d):=((((),(),(),r.1,()),()),r.2.1,r.2.2.1,r.2.2.2,())
def warv:FP prog:=fnP cx func50 [waru,waac] (yj [.agg Zd]) [] [] (yq28 waah) ⟨[.ren 388 4,.ren 389 5,.ren 640 6],[.cell 2 38],(yj [.agg (yj [.arr 4,.arr 5,.arr 6,.dat yi])]),[(4,.arr 3 yi),(5,.rows 22 3 yi),(6,.arr 3 yi)],[],[]⟩ yq29
def waaj(a b:List UInt8)(c:Int):Tr ((List UInt8)×(List UInt8)×Int):=.l (a,b,c)
def waak a b c:=(waaj a b c).ev
abbrev yq31{a b c d e g:Type}{z:Type _}(f:a->b->c->z)(x:((a×b×c×d)×e)×g):z:=f x.1.1.1 x.1.1.2.1 x.1.1.2.2.1
def warw:FP prog:=fnP cx func51 [] (yj [.agg Zac]) [] [] (yq31 waaj) (yr [.cell 2 39] (yj [.agg Zac])) (λr=>(((r.1,r.2.1,r.2.2,()),()),()))
def waal(j:Y1)(g:List Y1)(m:Y1)(e:Int)(i f:List UInt8)(h:Int):Tr (Int×(List UInt8)×(List UInt8)×Int×Yar):=.c _ (waai j g m e) λa=>.c _ (waak i f h) λb=>.l (a.1,b.1,b.2.1,b.2.2,a.2.1,a.2.2.1,a.2.2.2)
def wkr g c f a h b e:=(waal g c f a h b e).ev
abbrev yq34{a b c d e g h i j l:Type}{z:Type _}(f:a->b->c->d->e->g->h->z)(x:((a×b×c×d×e×g×h×i)×j)×l):z:=f x.1.1.1 x.1.1.2.1 x.1.1.2.2.1 x.1.1.2.2.2.1 x.1.1.2.2.2.2.1 x.1.1.2.2.2.2.2.1 x.1.1.2.2.2.2.2.2.1
def warx:FP prog:=fnP cx func11 [warv,warw] (yj [.agg Zg]) [] [] (yq34 waal) ⟨[.ren 388 4,.ren 389 5,.ren 390 6],[.cell 2 41],(yj [.agg (yj [.arr 4,.arr 5,.arr 6,.dat yi,.dat .str,.dat .str,.dat yi])]),[(4,.arr 3 yi),(5,.rows 22 3 yi),(6,.arr 3 yi)],[],[]⟩ (λr=>((((),(),(),r.1,r.2.1,r.2.2.1,r.2.2.2.1,()),()),r.2.2.2.2.1,r.2.2.2.2.2.1,r.2.2.2.2.2.2,()))
def waam(a b c:Int):Tr Bool:=.t (b<=a) (.l (a<=c)) (.l false)
def wag a b c:=(waam a b c).ev
abbrev yq37{a b c d e:Type}{z:Type _}(f:a->b->c->z)(x:(a×b×c×d)×e):z:=f x.1.1 x.1.2.1 x.1.2.2.1
abbrev yq36:RetK:=yr [.tmp 6] (yj [.dat .bool])
def wgq:FP prog:=fnP cx func120 [] (yj [.dat yi,.dat yi,.dat yi]) [] [] (yq37 waam) yq36 yq2
def wdo(k:Y1×Yq)(v:Int):Tr (Int⊕(Unit⊕Unit)):=.t (v<(length k.1:Int)) (.g (inR v (length k.1))<|.c _ (wag (getD k.1 (toNat v) 0) 0 k.2.2) λa=>.t (!a) (.l (.inr (.inr ()))) (.l (.inl (wrap .i64 (v+1))))) (.l (.inr (.inl ())))
def wks k v:=iter (λv=>(wdo k v).ev) v
abbrev yq38:Keep:=yh [0,1,2,7] (yj [.dat y1,.dat yi,.dat yi,.dat yi])
abbrev yq39:Keep:=yh [0,1] (yj [.dat y1,.dat yi])
abbrev yq40:Keep:=yh [6] (yj [.dat .bool])
abbrev yq41{a b c d:Type}(k:a×b×c)(v:d):=((k.1,k.2.1,k.2.2,v,()),())
abbrev yq42{a b c d e:Type}(t:(a×b×c×d)×e):=(t.1.1,t.1.2.1,t.1.2.2.1)
abbrev yq43{a b c d e g:Type}(t:(a×b×c×d×e)×g):=t.1.2.2.2.1
def wqo:LD:=yl (wdo) yq38 [(0,yq39)] yq40 yq41 yq42 yq43 (λk r=>.s _ _ r (λ_=>yx 0 yq39 ((k.1,k.2.1,()),())) (λ_=>yz yq40 ((false,()),())))
def waan(a:Y1)(b f:Int):Tr Bool:=.c _ (wks (a,b,f) 0) λe=>.s _ _ e (λ_=>.l ((length a:Int)==b)) (λ_=>.l false)
def wqp a b c:=(waan a b c).ev
def wary:FP prog:=fnP cx func189 [wgq] (yj [.dat y1,.dat yi,.dat yi]) [] [] (yq37 waan) yq36 yq2 noZ [(0,wqo)]
def wdp(k:Int×Y1×Y2)(v:Int):Tr (Int⊕(Unit⊕Unit)):=.t (v<(length k.2.2:Int)) (.g (inR v (length k.2.2))<|.c _ (wqp (getD k.2.2 (toNat v) []) k.1 99) λa=>.t (!a) (.l (.inr (.inr ()))) (.l (.inl (wrap .i64 (v+1))))) (.l (.inr (.inl ())))
def wkt k v:=iter (λv=>(wdp k v).ev) v
abbrev yq44:Keep:=yk [] [1,3,4] (yj [.box 1 0,.dat yi,.dat yi]) [Zo]
abbrev yq45:Keep:=yk [] [1,3] (yj [.box 1 0,.dat yi]) [Zo]
abbrev yq46:Keep:=yh [2] (yj [.dat .bool])
abbrev yq47{a b c d:Type}(k:a×b×c)(v:d):=(((),k.1,v,()),(k.2.1,k.2.2,()),())
abbrev yq48{a b c d e g h:Type}(t:(a×b×c)×(d×e×g)×h):=(t.1.2.1,t.2.1.1,t.2.1.2.1)
abbrev yq49{a b c d e:Type}(t:(a×b×c×d)×e):=t.1.2.2.1
def wqq:LD:=yl (wdp) yq44 [(0,yq45)] yq46 yq47 yq48 yq49 (λk r=>.s _ _ r (λ_=>yx 0 yq45 (((),k.1,()),(k.2.1,k.2.2,()),())) (λ_=>yz yq46 ((false,()),())))
def waao(a:Y1)(b:List Y1):Tr Bool:=.c _ (wkt ((length a:Int),a,b) 0) λf=>.s _ _ f (λ_=>.c _ (wag (length a:Int) 1 7) λg=>.t g (.c _ (wqp a (length a:Int) 99) λe=>.t e (.l ((length b:Int)<=(7:Int))) (.l false)) (.l false)) (λ_=>.l false)
def wbo a b:=(waao a b).ev
abbrev yq50:RetK:=yr [.tmp 2] (yj [.dat .bool])
def wgx:FP prog:=fnP cx func118 [wary,wgq] (yj [.agg Zb]) [] [] (yq25 waao) yq50 yq2 noZ [(0,wqq)]
def wbp(k:Y1×Yq)(v:Int):Tr (Int⊕(Unit⊕Unit)):=.t (v<(length k.1:Int)) (.g (inR v (length k.1))<|.c _ (wag (getD k.1 (toNat v) 0) k.2.1 k.2.2) λa=>.t (!a) (.l (.inr (.inr ()))) (.t (0<v) (.g (inR (wrap .i64 (v-1)) (length k.1))<|.g (inR v (length k.1))<|.t ((getD k.1 (toNat v) 0)<=(getD k.1 (toNat (wrap .i64 (v-1))) 0)) (.l (.inr (.inr ()))) (.l (.inl (wrap .i64 (v+1))))) (.l (.inl (wrap .i64 (v+1)))))) (.l (.inr (.inl ())))
def wku k v:=iter (λv=>(wbp k v).ev) v
def wqr:LD:=yl (wbp) yq38 [(0,yq15)] yq40 yq41 yq42 yq43 (λ_ r=>.s _ _ r (λ_=>yx 0 yq15 ((),())) (λ_=>yz yq40 ((false,()),())))
def waap(a:Y1)(b f:Int):Tr Bool:=.c _ (wku (a,b,f) 0) λe=>.s _ _ e (λ_=>.l true) (λ_=>.l false)
def waaq a b c:=(waap a b c).ev
def warz:FP prog:=fnP cx func190 [wgq] (yj [.dat y1,.dat yi,.dat yi]) [] [] (yq37 waap) yq36 yq2 noZ [(0,wqr)]
def waar(e:Y1)(_f:List Y1)(b:Y1):Tr Bool:=.c _ (waaq b 0 (wrap .i64 ((length e:Int) -1))) λa=>.l a
def wqs a b c:=(waar a b c).ev
abbrev yq51:RetK:=yr [.tmp 4] (yj [.dat .bool])
def wams:FP prog:=fnP cx func119 [warz] (yj [.agg Zb,.dat y1]) [] [] (yq9 waar) yq51 yq2
def waas(b:Y1)(a:List Y1)(i:Y1)(f:Int):Tr Bool:=.c _ (wbo b a) λh=>.t h (.c _ (wqs b a i) λg=>.t g (.c _ (wag f 0 1000) λe=>.l e) (.l false)) (.l false)
def wkv a c e b:=(waas a c e b).ev
def waat:FP prog:=fnP cx func62 [wgx,wams,wgq] (yj [.agg Zd]) [] [] (yq28 waas) yq50 yq2
def wad(k:(List UInt8)×Int)(v:Int×Yai):Tr ((Int×Yai)⊕Yai):=.t (v.2.1<(length k.1:Int)) (.g (inR v.2.1 (length k.1))<|.t (((UInt8.toNat (getD k.1 (toNat v.2.1) 0):Nat):Int)==k.2) (.g ((0<=v.1)&&(v.1<=v.2.1)&&(v.2.1<=(length k.1:Int)))<|.g ((length v.2.2+length ([(List.drop (toNat v.1) (List.take (toNat v.2.1) k.1))]:List (List UInt8)))*16<=140737488355328)<|.l (.inl ((wrap .i64 (v.2.1+1)),(wrap .i64 (v.2.1+1)),(v.2.2++([(List.drop (toNat v.1) (List.take (toNat v.2.1) k.1))]:List (List UInt8)))))) (.l (.inl (v.1,(wrap .i64 (v.2.1+1)),v.2.2)))) (.l (.inr (v.1,v.2.2)))
def whw k v:=iter (λv=>(wad k v).ev) v
abbrev yq53:Keep:=yk [] [0,5,6] (yj [.dat .str,.arr 8,.dat yi]) [(8,.arr 9 .str)]
abbrev yq55{a b c d:Type}(t:(a×b×c)×d):=(t.1.1,t.1.2.1)
abbrev yq56{a b c d e g h i:Type}(t:(a×b×c×d×e×g)×h×i):=(t.1.2.2.2.1,t.1.2.2.2.2.1,t.2.1)
def wqt:LD:=yl (wad) (yk [] [0,1,5,6,7] (yj [.dat .str,.dat (.int .u8),.arr 8,.dat yi,.dat yi]) [(8,.arr 9 .str)]) [(0,yq53)] yq15 (λk v=>((k.1,k.2,(),v.1,v.2.1,()),v.2.2,())) yq55 yq56 (λk r=>yx 0 yq53 ((k.1,(),r.1,()),r.2,()))
def wqu(a:List UInt8)(e:Int):Tr (List (List UInt8)):=.c _ (whw (a,e) (0,0,[])) λb=>.g ((0<=b.1)&&(b.1<=(length a:Int)))<|.g ((length b.2+length ([(List.drop (toNat b.1) (List.take (length a) a))]:List (List UInt8)))*16<=140737488355328)<|.l (b.2++([(List.drop (toNat b.1) (List.take (length a) a))]:List (List UInt8)))
def wdf a b:=(wqu a b).ev
def wqv:FP prog:=fnP cx func54 [] (yj [.dat .str,.dat (.int .u8)]) [] [] (yq1 wqu) ⟨[.ren 8 0],[.tmp 4],Zan,[(0,.arr 9 .str)],[],[]⟩ yq20 noZ [(0,wqt)]
def wjo(f:(Int)->Option (List UInt8))(a:Int):Tr (List UInt8):=.t (a<0) (.c _ (f (wrap .i64 (0-a))) λb=>.g (length ([45]:List UInt8)+length b<=9223372036854775807)<|.l (([45]:List UInt8)++b)) (.t (a<10) (.g ((0<=a)&&(a<=(wrap .i64 (a+1)))&&((wrap .i64 (a+1))<=(length ([48,49,50,51,52,53,54,55,56,57]:List UInt8):Int)))<|.l (List.drop (toNat a) (List.take (toNat (wrap .i64 (a+1))) ([48,49,50,51,52,53,54,55,56,57]:List UInt8)))) (.g (!decide ((10:Int)=0))<|.c _ (f (wrap .i64 (Int.tdiv a 10))) λe=>.g (!decide ((10:Int)=0))<|.g (!decide ((10:Int)=0))<|.g (((0:Int)<=(Int.tmod a 10))&&((Int.tmod a 10)<=(wrap .i64 ((Int.tmod a 10)+1)))&&((wrap .i64 ((Int.tmod a 10)+1))<=(length ([48,49,50,51,52,53,54,55,56,57]:List UInt8):Int)))<|.g (length e+length (List.drop (toNat (Int.tmod a 10)) (List.take (toNat (wrap .i64 ((Int.tmod a 10)+1))) ([48,49,50,51,52,53,54,55,56,57]:List UInt8)))<=9223372036854775807)<|.l (e++(List.drop (toNat (Int.tmod a 10)) (List.take (toNat (wrap .i64 ((Int.tmod a 10)+1))) ([48,49,50,51,52,53,54,55,56,57]:List UInt8))))))
noncomputable def wu:Nat->(Int)->Option (List UInt8) |0=>λ_=>none |n+1=>λa=>(wjo (wu n) a).ev
def wasa:RetK:=yr [.tmp 2] (yj [.dat .str])
def wzc(a:(Int)->Option (List UInt8)):FD:={A:=Zi,ins:=[],lend:=[],R:=List UInt8,F:=λx=>a x.1.1,emb:=λr=>([.dat .str r],[])}
def wamt(n:Nat):FD:=wzc (wu n)
theorem wzd:∀n:Nat,FDok prog (122,wamt n) |0=>λ_ _ h=>nomatch h |n+1=>fn_ok mixed (env_ok (fdC (wzd n) fdN)) tabOK (fnMk (wamt (n+1)) (envOf [(122,wzc (wu n))]) wasa noZ [] ((f122.body).getD .skip) (λx=>wjo (wu n) x.1.1) (λr=>((r,()),())) func122 (lpMk (by kernel_rfl) lpN) λ_=>by kernel_rfl)
def whd:FP prog:=⟨_,wzd 1000000⟩
def wdq(k:(List UInt8)×Int)(v:Int):Tr (Int⊕(Unit⊕Unit)):=.t (v<(length k.1:Int)) (.g (inR v (length k.1))<|.c _ (wag (wrap .i64 ((UInt8.toNat (getD k.1 (toNat v) 0):Nat):Int)) 32 126) λa=>.t (!a) (.l (.inr (.inr ()))) (.g (inR v (length k.1))<|.t (((UInt8.toNat (getD k.1 (toNat v) 0):Nat):Int)==(35:Int)) (.l (.inr (.inr ()))) (.l (.inl (wrap .i64 (v+1)))))) (.l (.inr (.inl ())))
def wkw k v:=iter (λv=>(wdq k v).ev) v
abbrev yq59:Keep:=yh [0,1] (yj [.dat .str,.dat yi])
abbrev yq60:Keep:=yh [4] (yj [.dat .bool])
abbrev yq61{a b c:Type}(k:a×b)(v:c):=((k.1,k.2,v,()),())
def wqw:LD:=yl (wdq) (yh [0,1,5] (yj [.dat .str,.dat yi,.dat yi])) [(0,yq59)] yq60 yq61 yq55 yq49 (λk r=>.s _ _ r (λ_=>yx 0 yq59 ((k.1,k.2,()),())) (λ_=>yz yq60 ((false,()),())))
def waau(a:List UInt8)(b:Int):Tr Bool:=.c _ (wkw (a,b) 0) λe=>.s _ _ e (λ_=>.l ((length a:Int)<=b)) (λ_=>.l false)
def wqx a b:=(waau a b).ev
def wasb:FP prog:=fnP cx func132 [wgq] (yj [.dat .str,.dat yi]) [] [] (yq1 waau) yq51 yq2 noZ [(0,wqw)]
def wdr(k:(List UInt8)×Int)(v:Int):Tr (Int⊕(Unit⊕Unit)):=.t (v<(length k.1:Int)) (.g (inR v (length k.1))<|.t (((UInt8.toNat (getD k.1 (toNat v) 0):Nat):Int)==k.2) (.l (.inr (.inr ()))) (.l (.inl (wrap .i64 (v+1))))) (.l (.inr (.inl ())))
def wkx k v:=iter (λv=>(wdr k v).ev) v
def wqy:LD:=yl (wdr) (yh [0,1,5] (yj [.dat .str,.dat (.int .u8),.dat yi])) [(0,yq15)] yq60 yq61 yq55 yq49 (λ_ r=>.s _ _ r (λ_=>yx 0 yq15 ((),())) (λ_=>yz yq60 ((true,()),())))
def waav(a:List UInt8)(e:Int):Tr Bool:=.c _ (wkx (a,e) 0) λb=>.s _ _ b (λ_=>.l false) (λ_=>.l true)
def wqz a b:=(waav a b).ev
def wasc:FP prog:=fnP cx func133 [] (yj [.dat .str,.dat (.int .u8)]) [] [] (yq1 waav) yq51 yq2 noZ [(0,wqy)]
def waaw(a f:List UInt8):Tr Bool:=.t (!(a==([]:List UInt8))) (.c _ (wqx a 160) λg=>.t g (.c _ (wqz a 64) λe=>.t (!e) (.c _ (wqx f 200) λb=>.l b) (.l false)) (.l false)) (.l false)
def wky a b:=(waaw a b).ev
def waax:FP prog:=fnP cx func69 [wasb,wasc] (yj [.agg Zam]) [] [] (yq25 waaw) yq50 yq2
def wds(k:List UInt8)(v:Int×Int):Tr (Yq⊕Int):=.t (v.2<(length k:Int)) (.g (inR v.2 (length k))<|.g (!decide ((999979:Int)=0))<|.l (.inl ((Int.tmod (wrap .i64 ((wrap .i64 ((wrap .i64 ((41:Int)*v.1))+(wrap .i64 ((UInt8.toNat (getD k (toNat v.2) 0):Nat):Int))))+1)) 999979),(wrap .i64 (v.2+1))))) (.l (.inr v.1))
def wkz k v:=iter (λv=>(wds k v).ev) v
abbrev yq64:Keep:=yh [3] Zi
def wra:LD:=yl (wds) (yh [0,3,4] (yj [.dat .str,.dat yi,.dat yi])) [(0,yq64)] yq15 yq6 yq7 yq8 (λ_ r=>yx 0 yq64 ((r,()),()))
def waay(a:List UInt8):Tr Int:=.c _ (wkz a (7,0)) λb=>.l b
def waaz a:=(waay a).ev
abbrev yq65:RetK:=yr [.tmp 2] Zi
def wasd:FP prog:=fnP cx func296 [] (yj [.dat .str]) [] [] (yq19 waay) yq65 yq2 noZ [(0,wra)]
def waba(a:List UInt8):Tr (List UInt8):=.g (length a+length ([35]:List UInt8)<=9223372036854775807)<|.c _ (waaz a) λe=>.c _ (wu 1000000 e) λb=>.g (length (a++([35]:List UInt8))+length b<=9223372036854775807)<|.l ((a++([35]:List UInt8))++b)
def wrb a:=(waba a).ev
abbrev yq66:RetK:=yr [.tmp 2] (yj [.dat .str])
def wase:FP prog:=fnP cx func215 [wasd,whd] (yj [.dat .str]) [] [] (yq19 waba) yq66 yq2
def wabb(h:Int)(b f:List UInt8):Tr (List UInt8):=.c _ (wu 1000000 h) λa=>.g (length a+length ([32]:List UInt8)<=9223372036854775807)<|.g (length (a++([32]:List UInt8))+length b<=9223372036854775807)<|.g (length ((a++([32]:List UInt8))++b)+length ([64]:List UInt8)<=9223372036854775807)<|.g (length (((a++([32]:List UInt8))++b)++([64]:List UInt8))+length f<=9223372036854775807)<|.c _ (wrb ((((a++([32]:List UInt8))++b)++([64]:List UInt8))++f)) λe=>.g (length e+length ([10]:List UInt8)<=9223372036854775807)<|.l (e++([10]:List UInt8))
def wrc a b c:=(wabb a b c).ev
abbrev yq68{a b c d e g:Type}{z:Type _}(f:a->b->c->z)(x:(a×(b×c×d)×e)×g):z:=f x.1.1 x.1.2.1.1 x.1.2.1.2.1
abbrev yq67:RetK:=yr [.tmp 4] (yj [.dat .str])
def wamu:FP prog:=fnP cx func139 [whd,wase] (yj [.dat yi,.agg Zam]) [] [] (yq68 wabb) yq67 yq2
def wabc(f:List UInt8)(h:Int):Tr ((List UInt8)×Yaq):=.c _ (wu 1000000 h) λb=>.g (length b+length ([32]:List UInt8)<=9223372036854775807)<|.c _ (wdf f 35) λa=>.g (inR 0 (length a))<|.g ((toNat 0)<length a)<|.t ((length (getD a (toNat 0) []):Int)<(length (b++([32]:List UInt8)):Int)) (.l ([],[],false)) (.g (((0:Int)<=(length (b++([32]:List UInt8)):Int))&&((length (b++([32]:List UInt8)):Int)<=(length (getD a (toNat 0) []):Int)))<|.t (!((List.drop 0 (List.take (toNat (length (b++([32]:List UInt8)):Int)) (getD a (toNat 0) [])))==(b++([32]:List UInt8)))) (.l ([],[],false)) (.g (((0:Int)<=(length (b++([32]:List UInt8)):Int))&&((length (b++([32]:List UInt8)):Int)<=(length (getD a (toNat 0) []):Int)))<|.c _ (wdf (List.drop (toNat (length (b++([32]:List UInt8)):Int)) (List.take (length (getD a (toNat 0) [])) (getD a (toNat 0) []))) 64) λe=>.g (inR 0 (length e))<|.g ((toNat 0)<length e)<|.t ((length (getD e (toNat 0) []):Int)==(length (List.drop (toNat (length (b++([32]:List UInt8)):Int)) (List.take (length (getD a (toNat 0) [])) (getD a (toNat 0) []))):Int)) (.l ([],[],false)) (.g (((0:Int)<=(wrap .i64 ((length (getD e (toNat 0) []):Int)+1)))&&((wrap .i64 ((length (getD e (toNat 0) []):Int)+1))<=(length (List.drop (toNat (length (b++([32]:List UInt8)):Int)) (List.take (length (getD a (toNat 0) [])) (getD a (toNat 0) []))):Int)))<|.c _ (wky (getD e (toNat 0) []) (List.drop (toNat (wrap .i64 ((length (getD e (toNat 0) []):Int)+1))) (List.take (length (List.drop (toNat (length (b++([32]:List UInt8)):Int)) (List.take (length (getD a (toNat 0) [])) (getD a (toNat 0) [])))) (List.drop (toNat (length (b++([32]:List UInt8)):Int)) (List.take (length (getD a (toNat 0) [])) (getD a (toNat 0) [])))))) λi=>.t i (.c _ (wrc h (getD e (toNat 0) []) (List.drop (toNat (wrap .i64 ((length (getD e (toNat 0) []):Int)+1))) (List.take (length (List.drop (toNat (length (b++([32]:List UInt8)):Int)) (List.take (length (getD a (toNat 0) [])) (getD a (toNat 0) [])))) (List.drop (toNat (length (b++([32]:List UInt8)):Int)) (List.take (length (getD a (toNat 0) [])) (getD a (toNat 0) [])))))) λj=>.g (length f+length ([10]:List UInt8)<=9223372036854775807)<|.l ((getD e (toNat 0) []),(List.drop (toNat (wrap .i64 ((length (getD e (toNat 0) []):Int)+1))) (List.take (length (List.drop (toNat (length (b++([32]:List UInt8)):Int)) (List.take (length (getD a (toNat 0) [])) (getD a (toNat 0) [])))) (List.drop (toNat (length (b++([32]:List UInt8)):Int)) (List.take (length (getD a (toNat 0) [])) (getD a (toNat 0) []))))),(j==(f++([10]:List UInt8))))) (.l ((getD e (toNat 0) []),(List.drop (toNat (wrap .i64 ((length (getD e (toNat 0) []):Int)+1))) (List.take (length (List.drop (toNat (length (b++([32]:List UInt8)):Int)) (List.take (length (getD a (toNat 0) [])) (getD a (toNat 0) [])))) (List.drop (toNat (length (b++([32]:List UInt8)):Int)) (List.take (length (getD a (toNat 0) [])) (getD a (toNat 0) []))))),false)))))
def wabd a b:=(wabc a b).ev
def wasf:FP prog:=fnP cx func150 [whd,wqv,waax,wamu] (yj [.dat .str,.dat yi]) [] [] (yq1 wabc) (yr [.cell 4 63,.tmp 5] (yj [.agg Zam,.dat .bool])) (λr=>(((r.1,r.2.1,()),r.2.2,()),()))
def wdt(k:List UInt8)(v:Int×(List Yy)):Tr ((Int×(List Yy))⊕(Int×(List Yy))):=.t (v.1<(length k:Int)) (.t ((length v.2:Int)<(60:Int)) (.g ((0<=v.1)&&(v.1<=(length k:Int)))<|.c _ (wdf (List.drop (toNat v.1) (List.take (length k) k)) 10) λa=>.g (inR 0 (length a))<|.g ((toNat 0)<length a)<|.c _ (wabd (getD a (toNat 0) []) (length v.2:Int)) λb=>.t ((length a:Int)<(2:Int)) (.l (.inr (v.1,v.2))) (.t (!b.2.2) (.l (.inr (v.1,v.2))) (.g ((length v.2+length ([(b.1,b.2.1)]:List Yy))*32<=140737488355328)<|.g (inR 0 (length a))<|.g ((toNat 0)<length a)<|.l (.inl ((wrap .i64 ((wrap .i64 (v.1+(length (getD a (toNat 0) []):Int)))+1)),(v.2++([(b.1,b.2.1)]:List Yy))))))) (.l (.inr (v.1,v.2)))) (.l (.inr (v.1,v.2)))
def wla k v:=iter (λv=>(wdt k v).ev) v
abbrev yq72:Keep:=yk [] [4,5] (yj [.arr 9,.dat yi]) [(9,.arr 63 (.pair .str .str))]
def wrd:LD:=yl (wdt) (yk [] [0,4,5] (yj [.dat .str,.arr 9,.dat yi]) [(9,.arr 63 (.pair .str .str))]) [(0,yq72)] yq15 yq16 yq7 yq17 (λ_ r=>yx 0 yq72 (((),r.1,()),r.2,()))
def wabe(b:List UInt8):Tr (Int×(List Yy)):=.c _ (wla b (0,([]:List Yy))) λa=>.l (a.1,a.2)
def wlb a:=(wabe a).ev
abbrev yq74{a b:Type}(r:a×b):=(((),r.1,()),r.2,())
def wasg:FP prog:=fnP cx func83 [wqv,wasf] (yj [.dat .str]) [] [] (yq19 wabe) ⟨[.ren 9 0],[.tmp 2,.tmp 3],(yj [.arr 0,.dat yi]),[(0,.arr 63 (.pair .str .str))],[],[]⟩ yq74 noZ [(0,wrd)]
def wabf(a b:List UInt8)(h:Int):Tr Bool:=.t ((30000:Int)<(wrap .i64 ((length a:Int)+(length b:Int)))) (.l false) (.g (length a+length b<=9223372036854775807)<|.c _ (wlb (a++b)) λe=>.c _ (wlb a) λf=>.t (e.1==(wrap .i64 ((length a:Int)+(length b:Int)))) (.t (f.1==(length a:Int)) (.l ((length e.2:Int)==h)) (.l false)) (.l false))
def wre a b c:=(wabf a b c).ev
def wamv:FP prog:=fnP cx func73 [wasg] (yj [.agg Zac]) [] [] (yq31 wabf) yq50 yq2
def wrf(j:Y1)(f:List Y1)(m:Y1)(a:Int)(h b:List UInt8)(g:Int):Tr Bool:=.c _ (wkv j f m a) λi=>.t i (.c _ (wre h b g) λe=>.l e) (.l false)
def wjp g c f a h b e:=(wrf g c f a h b e).ev
def wamw:FP prog:=fnP cx func29 [waat,wamv] (yj [.agg Zg]) [] [] (yq34 wrf) yq50 yq2
def wabg(a:Y1):Tr Y1:=.g ((length ([]:Y1)+length a)*8<=140737488355328)<|.l (([]:Y1)++a)
def wdg a:=(wabg a).ev
def wjq:FP prog:=fnP cx func121 [] Zbd [] [] (yq19 wabg) ⟨[.ren 3 0],[.tmp 2],Zan,[Zaa],[],[]⟩ yq20
def wdu(k:Y1×Y2×Y1×Int×Int×Y2×Y1)(v:Int×Y2):Tr ((Int×Y2)⊕Y2):=.t (v.1<(length k.2.1:Int)) (.g (inR v.1 (length k.2.1))<|.c _ (wdg (getD k.2.1 (toNat v.1) [])) λa=>.g ((length v.2+1)*24<=140737488355328)<|.l (.inl ((wrap .i64 (v.1+1)),(set (v.2++ [[]]) (length v.2) a)))) (.l (.inr v.2))
def wlc k v:=iter (λv=>(wdu k v).ev) v
abbrev yq77:Keep:=yk [] [1,2,3] (yj [.box 1 0,.box 2 0,.box 3 0]) [(1,.cells Zd),(2,.cells (yj [.nilsl,.arr 900321,.nilsl,.dat yi])),(3,.cells (yj [.arr 512,.arr 9])),(900321,.rows 22 3 yi),(512,.arr 3 yi),(9,.rows 22 3 yi)]
def wrg:LD:=yl (wdu) (yk [.ownRB 2 1 900321 22 3 yi] [1,2,3,4] (yj [.box 1 0,.box 2 0,.box 3 0,.dat yi]) [(1,.cells Zd),(2,.cells (yj [.nilsl,.arr 900321,.nilsl,.dat yi])),(3,.cells (yj [.arr 512,.arr 9])),(900321,.rows 22 3 yi),(512,.arr 3 yi),(9,.rows 22 3 yi)]) [(0,yq77)] yq15 (λk v=>(((),(),(),v.1,()),(k.1,k.2.1,k.2.2.1,k.2.2.2.1,()),((),(),(),k.2.2.2.2.1,()),((),(),()),k.2.2.2.2.2.1,k.2.2.2.2.2.2,v.2,())) (λt=>(t.2.1.1,t.2.1.2.1,t.2.1.2.2.1,t.2.1.2.2.2.1,t.2.2.1.2.2.2.1,t.2.2.2.2.1,t.2.2.2.2.2.1)) (λt=>(t.1.2.2.2.1,t.2.2.2.2.2.2.1)) (λk r=>yx 0 yq77 (((),(),(),()),(k.1,k.2.1,k.2.2.1,k.2.2.2.1,()),((),(),(),k.2.2.2.2.1,()),((),(),()),k.2.2.2.2.2.1,k.2.2.2.2.2.2,r,()))
def wabh(e:Y1)(h:List Y1)(f:Y1)(a:Int):Tr (Int×Yar):=.c _ (wdg e) λb=>.c _ (wlc (e,h,f,a,0,[],b) (0,[])) λi=>.c _ (wdg f) λg=>.l (a,b,i,g)
def whe a c e b:=(wabh a c e b).ev
def wabi:FP prog:=fnP cx func63 [wjq] (yj [.agg Zd]) [] [] (yq28 wabh) ⟨[.ren 512 4,.ren 9 5,.ren 2176 6],[.cell 2 38],(yj [.agg (yj [.arr 4,.arr 5,.arr 6,.dat yi])]),[(4,.arr 3 yi),(5,.rows 22 3 yi),(6,.arr 3 yi)],[],[]⟩ yq29 (zOf [(1,[(4,[1000000])])]) [(0,wrg)]
def wabj(a f e b:Int)(c:Y1):Tr Bool:=.t (a==1) (.t (a==1) (.t (e==0) (.t (b==0) (.l ((length c:Int)==(0:Int))) (.l false)) (.l false)) (.t (a==3) (.t (a==3) (.t (b==0) (.l ((length c:Int)==(0:Int))) (.l false)) (.t (a==5) (.l ((length c:Int)==(0:Int))) (.t (a==6) (.t (e==0) (.l (b==0)) (.l false)) (.t (a==7) (.t (f==0) (.t (e==0) (.l (b==0)) (.l false)) (.l false)) (.t (a==10) (.t (f==0) (.t (e==0) (.t (b==0) (.l ((length c:Int)==(0:Int))) (.l false)) (.l false)) (.l false)) (.t (a==11) (.t (f==0) (.t (e==0) (.t (b==0) (.l ((length c:Int)==(0:Int))) (.l false)) (.l false)) (.l false)) (.l false))))))) (.t (a==4) (.t (b==0) (.l ((length c:Int)==(0:Int))) (.l false)) (.t (a==5) (.l ((length c:Int)==(0:Int))) (.t (a==6) (.t (e==0) (.l (b==0)) (.l false)) (.t (a==7) (.t (f==0) (.t (e==0) (.l (b==0)) (.l false)) (.l false)) (.t (a==10) (.t (f==0) (.t (e==0) (.t (b==0) (.l ((length c:Int)==(0:Int))) (.l false)) (.l false)) (.l false)) (.t (a==11) (.t (f==0) (.t (e==0) (.t (b==0) (.l ((length c:Int)==(0:Int))) (.l false)) (.l false)) (.l false)) (.l false))))))))) (.t (a==2) (.t (a==2) (.t (e==0) (.t (b==0) (.l ((length c:Int)==(0:Int))) (.l false)) (.l false)) (.t (a==3) (.t (a==3) (.t (b==0) (.l ((length c:Int)==(0:Int))) (.l false)) (.t (a==5) (.l ((length c:Int)==(0:Int))) (.t (a==6) (.t (e==0) (.l (b==0)) (.l false)) (.t (a==7) (.t (f==0) (.t (e==0) (.l (b==0)) (.l false)) (.l false)) (.t (a==10) (.t (f==0) (.t (e==0) (.t (b==0) (.l ((length c:Int)==(0:Int))) (.l false)) (.l false)) (.l false)) (.t (a==11) (.t (f==0) (.t (e==0) (.t (b==0) (.l ((length c:Int)==(0:Int))) (.l false)) (.l false)) (.l false)) (.l false))))))) (.t (a==4) (.t (b==0) (.l ((length c:Int)==(0:Int))) (.l false)) (.t (a==5) (.l ((length c:Int)==(0:Int))) (.t (a==6) (.t (e==0) (.l (b==0)) (.l false)) (.t (a==7) (.t (f==0) (.t (e==0) (.l (b==0)) (.l false)) (.l false)) (.t (a==10) (.t (f==0) (.t (e==0) (.t (b==0) (.l ((length c:Int)==(0:Int))) (.l false)) (.l false)) (.l false)) (.t (a==11) (.t (f==0) (.t (e==0) (.t (b==0) (.l ((length c:Int)==(0:Int))) (.l false)) (.l false)) (.l false)) (.l false))))))))) (.t (a==8) (.t (a==8) (.t (e==0) (.t (b==0) (.l ((length c:Int)==(0:Int))) (.l false)) (.l false)) (.t (a==3) (.t (a==3) (.t (b==0) (.l ((length c:Int)==(0:Int))) (.l false)) (.t (a==5) (.l ((length c:Int)==(0:Int))) (.t (a==6) (.t (e==0) (.l (b==0)) (.l false)) (.t (a==7) (.t (f==0) (.t (e==0) (.l (b==0)) (.l false)) (.l false)) (.t (a==10) (.t (f==0) (.t (e==0) (.t (b==0) (.l ((length c:Int)==(0:Int))) (.l false)) (.l false)) (.l false)) (.t (a==11) (.t (f==0) (.t (e==0) (.t (b==0) (.l ((length c:Int)==(0:Int))) (.l false)) (.l false)) (.l false)) (.l false))))))) (.t (a==4) (.t (b==0) (.l ((length c:Int)==(0:Int))) (.l false)) (.t (a==5) (.l ((length c:Int)==(0:Int))) (.t (a==6) (.t (e==0) (.l (b==0)) (.l false)) (.t (a==7) (.t (f==0) (.t (e==0) (.l (b==0)) (.l false)) (.l false)) (.t (a==10) (.t (f==0) (.t (e==0) (.t (b==0) (.l ((length c:Int)==(0:Int))) (.l false)) (.l false)) (.l false)) (.t (a==11) (.t (f==0) (.t (e==0) (.t (b==0) (.l ((length c:Int)==(0:Int))) (.l false)) (.l false)) (.l false)) (.l false))))))))) (.t (a==9) (.t (e==0) (.t (b==0) (.l ((length c:Int)==(0:Int))) (.l false)) (.l false)) (.t (a==3) (.t (a==3) (.t (b==0) (.l ((length c:Int)==(0:Int))) (.l false)) (.t (a==5) (.l ((length c:Int)==(0:Int))) (.t (a==6) (.t (e==0) (.l (b==0)) (.l false)) (.t (a==7) (.t (f==0) (.t (e==0) (.l (b==0)) (.l false)) (.l false)) (.t (a==10) (.t (f==0) (.t (e==0) (.t (b==0) (.l ((length c:Int)==(0:Int))) (.l false)) (.l false)) (.l false)) (.t (a==11) (.t (f==0) (.t (e==0) (.t (b==0) (.l ((length c:Int)==(0:Int))) (.l false)) (.l false)) (.l false)) (.l false))))))) (.t (a==4) (.t (b==0) (.l ((length c:Int)==(0:Int))) (.l false)) (.t (a==5) (.l ((length c:Int)==(0:Int))) (.t (a==6) (.t (e==0) (.l (b==0)) (.l false)) (.t (a==7) (.t (f==0) (.t (e==0) (.l (b==0)) (.l false)) (.l false)) (.t (a==10) (.t (f==0) (.t (e==0) (.t (b==0) (.l ((length c:Int)==(0:Int))) (.l false)) (.l false)) (.l false)) (.t (a==11) (.t (f==0) (.t (e==0) (.t (b==0) (.l ((length c:Int)==(0:Int))) (.l false)) (.l false)) (.l false)) (.l false)))))))))))
def wabk e b f a c:=(wabj e b f a c).ev
abbrev yq82{a b c d e g h i:Type}{z:Type _}(f:a->b->c->d->e->z)(x:((a×b×c×d×e×g)×h)×i):z:=f x.1.1.1 x.1.1.2.1 x.1.1.2.2.1 x.1.1.2.2.2.1 x.1.1.2.2.2.2.1
def wash:FP prog:=fnP cx func222 [] (yj [.agg Zae]) [] [] (yq82 wabj) yq50 yq2
def wabl(e:Y1)(_f:List Y1)(b:Int):Tr Bool:=.c _ (wag b 0 (wrap .i64 ((length e:Int) -1))) λa=>.l a
def whx a b c:=(wabl a b c).ev
def wamx:FP prog:=fnP cx func302 [wgq] (yj [.agg Zb,.dat yi]) [] [] (yq9 wabl) yq51 yq2
def wdv(k:Y1×Int)(v:Int):Tr (Int⊕(Unit⊕Unit)):=.t (v<(length k.1:Int)) (.g (inR v (length k.1))<|.t ((getD k.1 (toNat v) 0)==k.2) (.l (.inr (.inr ()))) (.l (.inl (wrap .i64 (v+1))))) (.l (.inr (.inl ())))
def wle k v:=iter (λv=>(wdv k v).ev) v
abbrev yq83:Keep:=yh [0,1,5] (yj [.dat y1,.dat yi,.dat yi])
def wrh:LD:=yl (wdv) yq83 [(0,yq15)] yq60 yq61 yq55 yq49 (λ_ r=>.s _ _ r (λ_=>yx 0 yq15 ((),())) (λ_=>yz yq60 ((true,()),())))
def wabm(a:Y1)(e:Int):Tr Bool:=.c _ (wle (a,e) 0) λb=>.s _ _ b (λ_=>.l false) (λ_=>.l true)
def wgr a b:=(wabm a b).ev
def wabn:FP prog:=fnP cx func301 [] (yj [.dat y1,.dat yi]) [] [] (yq1 wabm) yq51 yq2 noZ [(0,wrh)]
def wabo(g:Y1)(e:List Y1)(h:Y1)(_i a:Int):Tr Bool:=.c _ (whx g e a) λf=>.t f (.c _ (wgr h a) λb=>.l (!b)) (.l false)
def wjr e b f a c:=(wabo e b f a c).ev
def wasi:FP prog:=fnP cx func300 [wamx,wabn] (yj [.agg Zd,.dat yi]) [] [] (yq10 wabo) yq51 yq2
def wabp(g:Y1)(b:List Y1)(f:Y1)(i a e h _af:Int)(j:Y1):Tr Bool:=.t (a==1) (.t (a==1) (.c _ (wjr g b f i e) λp=>.l p) (.t (a==2) (.c _ (wgr f e) λo=>.l o) (.t (a==3) (.c _ (wgr f e) λaa=>.t aa (.c _ (wjr g b f i h) λz=>.l z) (.l false)) (.t (a==4) (.c _ (whx g b e) λae=>.l ae) (.t (a==5) (.c _ (wag e 0 (wrap .i64 ((length b:Int) -1))) λab=>.t ab (.c _ (whx g b h) λm=>.l m) (.l false)) (.t (a==6) (.l ((length j:Int)==(length b:Int))) (.t (a==9) (.c _ (wag e 0 (wrap .i64 ((length b:Int) -1))) λad=>.l ad) (.t (a==10) (.l ((0:Int)<(length f:Int))) (.l true))))))))) (.t (a==8) (.c _ (wjr g b f i e) λy=>.l y) (.t (a==2) (.c _ (wgr f e) λu=>.l u) (.t (a==3) (.c _ (wgr f e) λr=>.t r (.c _ (wjr g b f i h) λac=>.l ac) (.l false)) (.t (a==4) (.c _ (whx g b e) λq=>.l q) (.t (a==5) (.c _ (wag e 0 (wrap .i64 ((length b:Int) -1))) λn=>.t n (.c _ (whx g b h) λs=>.l s) (.l false)) (.t (a==6) (.l ((length j:Int)==(length b:Int))) (.t (a==9) (.c _ (wag e 0 (wrap .i64 ((length b:Int) -1))) λw=>.l w) (.t (a==10) (.l ((0:Int)<(length f:Int))) (.l true)))))))))
def wabq i c f a j b e g h:=(wabp i c f a j b e g h).ev
abbrev yq84{a b c d e g h i j l m n o:Type}{z:Type _}(f:a->b->c->d->g->h->i->j->l->z)(x:((a×b×c×d×e)×(g×h×i×j×l×m)×n)×o):z:=f x.1.1.1 x.1.1.2.1 x.1.1.2.2.1 x.1.1.2.2.2.1 x.1.2.1.1 x.1.2.1.2.1 x.1.2.1.2.2.1 x.1.2.1.2.2.2.1 x.1.2.1.2.2.2.2.1
def wasj:FP prog:=fnP cx func223 [wasi,wabn,wamx,wgq] (yj [.agg Zd,.agg Zae]) [] [] (yq84 wabp) yq51 yq2
def wbq(k:Y1×Int)(v:Int):Tr (Int⊕Int):=.t (v<(length k.1:Int)) (.g (inR v (length k.1))<|.t ((getD k.1 (toNat v) 0)<k.2) (.l (.inl (wrap .i64 (v+1)))) (.l (.inr v))) (.l (.inr v))
def whz k v:=iter (λv=>(wbq k v).ev) v
def wri:LD:=yl (wbq) yq83 [(0,yq83)] yq15 yq61 yq55 yq49 (λk r=>yx 0 yq83 ((k.1,k.2,r,()),()))
def wabr(a:Y1)(e:Int):Tr Y1:=.c _ (whz (a,e) 0) λb=>.t (b<(length a:Int)) (.g (inR b (length a))<|.t ((getD a (toNat b) 0)==e) (.f) (.g ((0<=b)&&(b<=(length a:Int)))<|.g ((length ([]:Y1)+length (List.drop 0 (List.take (toNat b) a)))*8<=140737488355328)<|.g ((length (([]:Y1)++(List.drop 0 (List.take (toNat b) a)))+length ([e]:Y1))*8<=140737488355328)<|.g ((0<=b)&&(b<=(length a:Int)))<|.g ((length ((([]:Y1)++(List.drop 0 (List.take (toNat b) a)))++([e]:Y1))+length (List.drop (toNat b) (List.take (length a) a)))*8<=140737488355328)<|.l (((([]:Y1)++(List.drop 0 (List.take (toNat b) a)))++([e]:Y1))++(List.drop (toNat b) (List.take (length a) a))))) (.g ((0<=b)&&(b<=(length a:Int)))<|.g ((length ([]:Y1)+length (List.drop 0 (List.take (toNat b) a)))*8<=140737488355328)<|.g ((length (([]:Y1)++(List.drop 0 (List.take (toNat b) a)))+length ([e]:Y1))*8<=140737488355328)<|.g ((0<=b)&&(b<=(length a:Int)))<|.g ((length ((([]:Y1)++(List.drop 0 (List.take (toNat b) a)))++([e]:Y1))+length (List.drop (toNat b) (List.take (length a) a)))*8<=140737488355328)<|.l (((([]:Y1)++(List.drop 0 (List.take (toNat b) a)))++([e]:Y1))++(List.drop (toNat b) (List.take (length a) a))))
def whf a b:=(wabr a b).ev
def wabs:FP prog:=fnP cx func303 [] (yj [.dat y1,.dat yi]) [] [] (yq1 wabr) ⟨[.ren 33 0],[.tmp 4],Zan,[Zaa],[],[]⟩ yq20 (zOf [(5,[(1,[140000000])])]) [(0,wri)]
def wbr(k:Y1×Int)(v:Int×Y1):Tr (Yp⊕Y1):=.t (v.1<(length k.1:Int)) (.g (inR v.1 (length k.1))<|.t ((getD k.1 (toNat v.1) 0) !=k.2) (.g (inR v.1 (length k.1))<|.g ((length v.2+length ([(getD k.1 (toNat v.1) 0)]:Y1))*8<=140737488355328)<|.l (.inl ((wrap .i64 (v.1+1)),(v.2++([(getD k.1 (toNat v.1) 0)]:Y1))))) (.l (.inl ((wrap .i64 (v.1+1)),v.2)))) (.l (.inr v.2))
def wia k v:=iter (λv=>(wbr k v).ev) v
abbrev yq87:Keep:=yk [] [5] (yj [.arr 7]) [(7,.arr 3 yi)]
abbrev yq88{a b c d:Type}(k:a×b)(v:c×d):=((k.1,k.2,(),v.1,()),v.2,())
abbrev yq89{a b c d e g h:Type}(t:(a×b×c×d×e)×g×h):=(t.1.2.2.2.1,t.2.1)
def wrj:LD:=yl (wbr) (yk [] [0,1,5,6] (yj [.dat y1,.dat yi,.arr 7,.dat yi]) [(7,.arr 3 yi)]) [(0,yq87)] yq15 yq88 yq55 yq89 (λ_ r=>yx 0 yq87 (((),()),r,()))
def wabt(a:Y1)(e:Int):Tr Y1:=.c _ (wia (a,e) (0,[])) λb=>.l b
def wlf a b:=(wabt a b).ev
abbrev yq90:RetK:=⟨[.ren 7 0],[.tmp 4],Zan,[Zaa],[],[]⟩
def wamy:FP prog:=fnP cx func304 [] (yj [.dat y1,.dat yi]) [] [] (yq1 wabt) yq90 yq20 noZ [(0,wrj)]
def wabu(b:Y1)(a:Int):Tr Y1:=.g ((0<=a)&&(a<=(length b:Int)))<|.c _ (wdg (List.drop 0 (List.take (toNat a) b))) λe=>.g (((0:Int)<=(wrap .i64 (a+1)))&&((wrap .i64 (a+1))<=(length b:Int)))<|.g ((length e+length (List.drop (toNat (wrap .i64 (a+1))) (List.take (length b) b)))*8<=140737488355328)<|.l (e++(List.drop (toNat (wrap .i64 (a+1))) (List.take (length b) b)))
def wrk a b:=(wabu a b).ev
def wask:FP prog:=fnP cx func351 [wjq] (yj [.dat y1,.dat yi]) [] [] (yq1 wabu) ⟨[.ren 512 0],[.tmp 4],Zan,[Zaa],[],[]⟩ yq20
def wdw(k:Int×Y1×Y2×Y1×Int×Int×Int×Y1×Y1)(v:Int×Y2):Tr ((Int×Y2)⊕Y2):=.t (v.1<(length k.2.2.1:Int)) (.g (inR v.1 (length k.2.2.1))<|.c _ (wrk (getD k.2.2.1 (toNat v.1) []) k.1) λa=>.g (inR v.1 (length v.2))<|.g ((toNat v.1)<length v.2)<|.l (.inl ((wrap .i64 (v.1+1)),(set v.2 (toNat v.1) a)))) (.l (.inr v.2))
def wlg k v:=iter (λv=>(wdw k v).ev) v
abbrev yq98:Keep:=yk [] [1,4,5] (yj [.dat yi,.box 4 0,.box 5 0]) [Zw,(5,.cells (yj [.arr 896,.arr 581,.arr 582,.dat yi])),(896,.arr 3 yi),(581,.rows 22 3 yi),(582,.arr 3 yi)]
def wrl:LD:=yl (wdw) (yk [] [1,2,4,5,6] (yj [.dat yi,.box 2 0,.box 4 0,.box 5 0,.dat yi]) [(2,.cells Zd),Zw,(5,.cells (yj [.arr 896,.arr 581,.arr 582,.dat yi])),(896,.arr 3 yi),(581,.rows 22 3 yi),(582,.arr 3 yi)]) [(0,yq98)] yq15 (λk v=>((k.1,(),(),(),v.1,()),(k.2.1,k.2.2.1,k.2.2.2.1,k.2.2.2.2.1,()),((),(),(),k.2.2.2.2.2.1,()),((),(),(),k.2.2.2.2.2.2.1,()),k.2.2.2.2.2.2.2.1,v.2,k.2.2.2.2.2.2.2.2,())) (λt=>(t.1.1,t.2.1.1,t.2.1.2.1,t.2.1.2.2.1,t.2.1.2.2.2.1,t.2.2.1.2.2.2.1,t.2.2.2.1.2.2.2.1,t.2.2.2.2.1,t.2.2.2.2.2.2.1)) (λt=>(t.1.2.2.2.2.1,t.2.2.2.2.2.1)) (λk r=>yx 0 yq98 ((k.1,(),(),()),((),(),(),k.2.2.2.2.2.1,()),((),(),(),k.2.2.2.2.2.2.1,()),k.2.2.2.2.2.2.2.1,r,k.2.2.2.2.2.2.2.2,()))
def wbs(k:Int×Int×Yz)(v:Int×Y1):Tr (Yp⊕Y1):=.t (v.1<(length v.2:Int)) (.g (inR v.1 (length v.2))<|.g ((toNat v.1)<length v.2)<|.t (k.1<(getD v.2 (toNat v.1) 0)) (.g (inR v.1 (length v.2))<|.g ((toNat v.1)<length v.2)<|.g (inR v.1 (length v.2))<|.g ((toNat v.1)<length v.2)<|.l (.inl ((wrap .i64 (v.1+1)),(set v.2 (toNat v.1) (wrap .i64 ((getD v.2 (toNat v.1) 0) -1)))))) (.l (.inl ((wrap .i64 (v.1+1)),v.2)))) (.l (.inr v.2))
def wlh k v:=iter (λv=>(wbs k v).ev) v
abbrev yq103:Keep:=yk [] [4,5] (yj [.box 4 0,.box 5 0]) [Zw,(5,.cells (yj [.arr 896,.arr 581,.arr 582,.dat yi])),(896,.arr 3 yi),(581,.rows 22 3 yi),(582,.arr 3 yi)]
def wrm:LD:=yl (wbs) (yk [] [1,4,5,7] (yj [.dat yi,.box 4 0,.box 5 0,.dat yi]) [Zw,(5,.cells (yj [.arr 896,.arr 581,.arr 582,.dat yi])),(896,.arr 3 yi),(581,.rows 22 3 yi),(582,.arr 3 yi)]) [(2,yq103)] yq15 (λk v=>((k.1,(),(),v.1,()),((),(),(),k.2.1,()),((),(),(),k.2.2.1,()),k.2.2.2.1,k.2.2.2.2,v.2,())) (λt=>(t.1.1,t.2.1.2.2.2.1,t.2.2.1.2.2.2.1,t.2.2.2.1,t.2.2.2.2.1)) (λt=>(t.1.2.2.2.1,t.2.2.2.2.2.1)) (λk r=>yx 2 yq103 (((),(),()),((),(),(),k.2.1,()),((),(),(),k.2.2.1,()),k.2.2.2.1,k.2.2.2.2,r,()))
def wabv(f:Y1)(i:List Y1)(j:Y1)(g e:Int):Tr (Int×Yar):=.c _ (whe f i j g) λa=>.c _ (wrk f e) λb=>.c _ (wlg (e,f,i,j,g,0,a.1,b,a.2.2.2) (0,a.2.2.1)) λh=>.c _ (wlh (e,0,a.1,b,h) (0,a.2.2.2)) λm=>.l (a.1,b,h,m)
def wabw e b f a c:=(wabv e b f a c).ev
def wasl:FP prog:=fnP cx func305 [wabi,wask] (yj [.agg Zd,.dat yi]) [] [] (yq10 wabv) ⟨[.ren 896 1,.ren 581 2,.ren 582 3],[.cell 4 38],(yj [.agg (yj [.arr 1,.arr 2,.arr 3,.dat yi])]),[(1,.arr 3 yi),(2,.rows 22 3 yi),(3,.arr 3 yi)],[],[]⟩ yq29 noZ [(0,wrl),(2,wrm)]
def wabx(b:Y1)(a:List Y1)(e:Y1):Tr Bool:=.c _ (wbo b a) λg=>.t g (.c _ (wqs b a e) λf=>.t f (.l ((0:Int)<(length e:Int))) (.l false)) (.l false)
def wib a b c:=(wabx a b c).ev
def wli:FP prog:=fnP cx func336 [wgx,wams] (yj [.agg Zb,.dat y1]) [] [] (yq9 wabx) yq51 yq2
def wbt(k:Y1×Int×Nat×Y1×Y2×Y2×Y2)(v:Int×Y2):Tr ((Int×Y2)⊕Y2):=.t (v.1<(length k.2.2.2.1:Int)) (.c _ (wgr k.1 v.1) λb=>.t (!b) (.c _ (whf (getD k.2.2.2.2.2.2 k.2.2.1 []) v.1) λa=>.g ((length v.2+1)*24<=140737488355328)<|.l (.inl ((wrap .i64 (v.1+1)),(set (v.2++ [[]]) (length v.2) a)))) (.l (.inl ((wrap .i64 (v.1+1)),v.2)))) (.l (.inr v.2))
def wlj k v:=iter (λv=>(wbt k v).ev) v
abbrev yq109:Keep:=yk [] [1,2,5,6,7,8] (yj [.dat y1,.box 2 0,.arr 11,.arr 12,.arr 13,.dat yi]) [Zal,(11,.rows 22 3 yi),(12,.rows 22 3 yi),(13,.rows 22 3 yi)]
abbrev yq112{a b c d e g h i j l m n o p:Type}(t:(a×b×c×d×e×g×h×i×j)×l×m×n×o×p):=(t.1.2.2.2.2.2.2.2.1,t.2.2.2.2.1)
def wrn:LD:=yl (wbt) (yk [] [1,2,5,6,7,8,9,10] (yj [.dat y1,.box 2 0,.arr 11,.arr 12,.arr 13,.dat yi,.row 12,.dat yi]) [Zal,(11,.rows 22 3 yi),(12,.rows 22 3 yi),(13,.rows 22 3 yi)]) [(2,yq109)] yq15 (λk v=>((k.1,(),(),(),(),k.2.1,k.2.2.1,v.1,()),(k.2.2.2.1,k.2.2.2.2.1,()),k.2.2.2.2.2.1,k.2.2.2.2.2.2,v.2,())) (λt=>(t.1.1,t.1.2.2.2.2.2.1,t.1.2.2.2.2.2.2.1,t.2.1.1,t.2.1.2.1,t.2.2.1,t.2.2.2.1)) yq112 (λk r=>yx 2 yq109 ((k.1,(),(),(),(),k.2.1,()),(k.2.2.2.1,k.2.2.2.2.1,()),k.2.2.2.2.2.1,k.2.2.2.2.2.2,r,()))
def wz(k:Y1×Int×Y1×Y2×Y2×Y2×Y1)(v:Int×Y2):Tr ((Int×Y2)⊕Y2):=.t (v.1<(length k.2.2.1:Int)) (.c _ (wgr k.1 v.1) λa=>.t (!a) (.c _ (whf k.2.2.2.2.2.2 v.1) λb=>.g ((length v.2+1)*24<=140737488355328)<|.l (.inl ((wrap .i64 (v.1+1)),(set (v.2++ [[]]) (length v.2) b)))) (.l (.inl ((wrap .i64 (v.1+1)),v.2)))) (.l (.inr v.2))
def wdx k v:=iter (λv=>(wz k v).ev) v
def whg:LD:=yl (wz) (yk [] [1,2,5,6,7,8,9,10] (yj [.dat y1,.box 2 0,.arr 11,.arr 12,.arr 13,.dat yi,.arr 2112,.dat yi]) [Zal,(11,.rows 22 3 yi),(12,.rows 22 3 yi),(13,.rows 22 3 yi),Zbi]) [(2,yq109)] yq15 (λk v=>((k.1,(),(),(),(),k.2.1,(),v.1,()),(k.2.2.1,k.2.2.2.1,()),k.2.2.2.2.1,k.2.2.2.2.2.1,v.2,k.2.2.2.2.2.2,())) (λt=>(t.1.1,t.1.2.2.2.2.2.1,t.2.1.1,t.2.1.2.1,t.2.2.1,t.2.2.2.1,t.2.2.2.2.2.1)) yq112 (λk r=>yx 2 yq109 ((k.1,(),(),(),(),k.2.1,()),(k.2.2.1,k.2.2.2.1,()),k.2.2.2.2.1,k.2.2.2.2.2.1,r,()))
def wbb(k:Y1×Y1×Y2)(v:Int×Y2×Y2×Y2):Tr ((Int×Y2×Y2×Y2)⊕(Y2×Y2×Y2)):=.t (v.1<(length k.2.1:Int)) (.c _ (wgr k.1 v.1) λf=>.t (!f) (.c _ (whf k.1 v.1) λb=>.g ((length v.2.1+1)*24<=140737488355328)<|.l (.inl ((wrap .i64 (v.1+1)),(set (v.2.1++ [[]]) (length v.2.1) b),v.2.2.1,v.2.2.2))) (.c _ (wlf k.1 v.1) λa=>.t ((0:Int)<(length a:Int)) (.g ((length v.2.2.1+1)*24<=140737488355328)<|.c _ (wlj (k.1,v.1,(length v.2.2.1),k.2.1,k.2.2,v.2.1,(set (v.2.2.1++ [[]]) (length v.2.2.1) a)) (0,v.2.2.2)) λh=>.l (.inl ((wrap .i64 (v.1+1)),v.2.1,(set (v.2.2.1++ [[]]) (length v.2.2.1) a),h))) (.c _ (wdx (k.1,v.1,k.2.1,k.2.2,v.2.1,v.2.2.1,a) (0,v.2.2.2)) λe=>.l (.inl ((wrap .i64 (v.1+1)),v.2.1,v.2.2.1,e))))) (.l (.inr (v.2.1,v.2.2.1,v.2.2.2)))
def wlk k v:=iter (λv=>(wbb k v).ev) v
abbrev yq116:Keep:=yk [] [5,6,7] (yj [.arr 11,.arr 12,.arr 13]) [(11,.rows 22 3 yi),(12,.rows 22 3 yi),(13,.rows 22 3 yi)]
abbrev yq118{a b c d e g:Type}(t:(a×b)×(c×d×e)×g):=(t.1.1,t.2.1.1,t.2.1.2.1)
def wro:LD:=yl (wbb) yq109 [(0,yq116)] yq15 (λk v=>((k.1,(),(),(),(),v.1,()),(k.2.1,k.2.2,()),v.2.1,v.2.2.1,v.2.2.2,())) yq118 (λt=>(t.1.2.2.2.2.2.1,t.2.2.1,t.2.2.2.1,t.2.2.2.2.1)) (λ_ r=>yx 0 yq116 (((),(),(),()),r.1,r.2.1,r.2.2,()))
def waby(b:Y1)(f:List Y1)(e:Y1):Tr Y2:=.c _ (wlk (e,b,f) (0,[],[],[])) λa=>.g ((length a.1+length a.2.1)*24<=140737488355328)<|.g ((length (a.1++a.2.1)+length a.2.2)*24<=140737488355328)<|.l ((a.1++a.2.1)++a.2.2)
def wabz a b c:=(waby a b c).ev
def wasm:FP prog:=fnP cx func379 [wabn,wabs,wamy] (yj [.agg Zb,.dat y1]) [] [] (yq9 waby) ⟨[.ren 13 0],[.tmp 4],Zan,[(0,.rows 22 3 yi)],[],[]⟩ yq20 (zOf [(1,[(0,[1000000]),(1,[1000000]),(2,[1000000])])]) [(2,wrn),(2,whg),(0,wro)]
def wbu(k:Int×Y1×Y1×Y2)(v:Int×Int):Tr (Yq⊕Int):=.t (v.2<(length k.2.1:Int)) (.g (inR k.1 (length k.2.2.2))<|.g (inR v.2 (length k.2.1))<|.g (inR (getD k.2.1 (toNat v.2) 0) (length (getD k.2.2.2 (toNat k.1) [])))<|.g (inR k.1 (length k.2.2.2))<|.g (inR v.1 (length (getD k.2.2.2 (toNat k.1) [])))<|.t ((getD (getD k.2.2.2 (toNat k.1) []) (toNat (getD k.2.1 (toNat v.2) 0)) 0)<(getD (getD k.2.2.2 (toNat k.1) []) (toNat v.1) 0)) (.g (inR v.2 (length k.2.1))<|.l (.inl ((getD k.2.1 (toNat v.2) 0),(wrap .i64 (v.2+1))))) (.l (.inl (v.1,(wrap .i64 (v.2+1)))))) (.l (.inr v.1))
def wgy k v:=iter (λv=>(wbu k v).ev) v
abbrev yq122:Keep:=yh [7] Zi
abbrev yq123{a b c d e g:Type}(k:a×b×c×d)(v:e×g):=((k.1,k.2.1,(),v.1,v.2,()),(k.2.2.1,k.2.2.2,()),())
abbrev yq124{a b c d e g h:Type}(t:(a×b×c)×(d×e×g)×h):=(t.1.1,t.1.2.1,t.2.1.1,t.2.1.2.1)
abbrev yq125{a b c d e g h:Type}(t:(a×b×c×d×e×g)×h):=(t.1.2.2.2.1,t.1.2.2.2.2.1)
def wrp:LD:=yl (wbu) (yk [] [1,2,3,7,8] (yj [.dat yi,.dat y1,.box 3 0,.dat yi,.dat yi]) [(3,.cells Zb)]) [(0,yq122)] yq15 yq123 yq124 yq125 (λ_ r=>yx 0 yq122 ((r,()),()))
def waca(f:Y1)(b:List Y1)(h:Int)(a:Y1):Tr Int:=.g (inR 0 (length a))<|.c _ (wgy (h,a,f,b) ((getD a (toNat 0) 0),1)) λe=>.l e
def wrq a c e b:=(waca a c e b).ev
abbrev yq127{a b c d e g h:Type}{z:Type _}(f:a->b->d->e->z)(x:((a×b×c)×d×e×g)×h):z:=f x.1.1.1 x.1.1.2.1 x.1.2.1 x.1.2.2.1
abbrev yq126:RetK:=yr [.tmp 6] Zi
def wamz:FP prog:=fnP cx func339 [] (yj [.agg Zb,.dat yi,.dat y1]) [] [] (yq127 waca) yq126 yq2 noZ [(0,wrp)]
def wacb(h:Y1)(a:List Y1)(b:Int)(f:Y1):Tr Int:=.g (inR b (length a))<|.c _ (wrq h a b f) λe=>.g (inR e (length (getD a (toNat b) [])))<|.l (getD (getD a (toNat b) []) (toNat e) 0)
def wrr a c e b:=(wacb a c e b).ev
def wana:FP prog:=fnP cx func374 [wamz] (yj [.agg Zb,.dat yi,.dat y1]) [] [] (yq127 wacb) yq126 yq2
def wdy(k:Y1×Y1×Y2)(v:Int×Int):Tr (Yq⊕Int):=.t (v.2<(length k.2.2:Int)) (.c _ (wrr k.2.1 k.2.2 v.2 k.1) λa=>.l (.inl ((wrap .i64 (v.1+a)),(wrap .i64 (v.2+1))))) (.l (.inr v.1))
def wll k v:=iter (λv=>(wdy k v).ev) v
abbrev yq128:Keep:=yk [] [1,2,5,6] (yj [.dat y1,.box 2 0,.dat yi,.dat yi]) [Zal]
abbrev yq129:Keep:=yh [5] Zi
abbrev yq130{a b c d e:Type}(k:a×b×c)(v:d×e):=((k.1,(),v.1,v.2,()),(k.2.1,k.2.2,()),())
abbrev yq131{a b c d e g:Type}(t:(a×b×c×d×e)×g):=(t.1.2.2.1,t.1.2.2.2.1)
def wrs:LD:=yl (wdy) yq128 [(0,yq129)] yq15 yq130 yq118 yq131 (λ_ r=>yx 0 yq129 ((r,()),()))
def wacc(a:Y1)(e:List Y1)(f:Y1):Tr Int:=.c _ (wll (f,a,e) (0,0)) λb=>.l b
def wjs a b c:=(wacc a b c).ev
def wacd:FP prog:=fnP cx func337 [wana] (yj [.agg Zb,.dat y1]) [] [] (yq9 wacc) yq0 yq2 noZ [(0,wrs)]
def wdz(k:Y1×Y1×Y2)(v:Int×Int):Tr (Yq⊕Int):=.t (v.2<(length k.1:Int)) (.g (inR v.2 (length k.1))<|.g (inR (getD k.1 (toNat v.2) 0) (length k.2.1))<|.l (.inl ((wrap .i64 (v.1+(getD k.2.1 (toNat (getD k.1 (toNat v.2) 0)) 0))),(wrap .i64 (v.2+1))))) (.l (.inr v.1))
def wlm k v:=iter (λv=>(wdz k v).ev) v
def wrt:LD:=yl (wdz) yq128 [(0,yq129)] yq15 yq130 yq118 yq131 (λ_ r=>yx 0 yq129 ((r,()),()))
def wace(a:Y1)(b:List Y1)(f:Y1):Tr Int:=.c _ (wlm (f,a,b) (0,0)) λe=>.l e
def wacf a b c:=(wace a b c).ev
def wasn:FP prog:=fnP cx func372 [] (yj [.agg Zb,.dat y1]) [] [] (yq9 wace) yq0 yq2 noZ [(0,wrt)]
def wacg(b:Y1)(a:List Y1)(e:Y1):Tr Int:=.c _ (wjs b a e) λg=>.c _ (wacf b a e) λf=>.l (wrap .i64 (g+f))
def wgz a b c:=(wacg a b c).ev
def wach:FP prog:=fnP cx func333 [wacd,wasn] (yj [.agg Zb,.dat y1]) [] [] (yq9 wacg) yq0 yq2
def wbv(k:Y1×Y1×Y2×Y2)(v:Int):Tr (Int⊕(Unit⊕Nat)):=.t (v<(length k.2.2.2:Int)) (.g (inR v (length k.2.2.2))<|.g ((toNat v)<length k.2.2.2)<|.c _ (wgz k.2.1 k.2.2.1 (getD k.2.2.2 (toNat v) [])) λb=>.c _ (wgz k.2.1 k.2.2.1 k.1) λa=>.t (b<a) (.g (inR v (length k.2.2.2))<|.g ((toNat v)<length k.2.2.2)<|.l (.inr (.inr (toNat v)))) (.l (.inl (wrap .i64 (v+1))))) (.l (.inr (.inl ())))
def wln k v:=iter (λv=>(wbv k v).ev) v
abbrev yq133:Keep:=yk [] [4,5] (yj [.row 640,.dat .bool]) [(640,.rows 22 3 yi)]
def wru:LD:=yl (wbv) (yk [] [1,2,6,7] (yj [.dat y1,.box 2 0,.arr 640,.dat yi]) [Zal,(640,.rows 22 3 yi)]) [(0,yq15)] yq133 (λk v=>((k.1,(),(),v,()),(k.2.1,k.2.2.1,()),k.2.2.2,())) (λt=>(t.1.1,t.2.1.1,t.2.1.2.1,t.2.2.1)) yq43 (λk r=>.s _ _ r (λ_=>yx 0 yq15 ((),())) (λb=>yz yq133 ((b,true,()),k.2.2.2,())))
def waci(e:Y1)(a:List Y1)(f:Y1):Tr Yay:=.c _ (wabz e a f) λb=>.c _ (wln (f,e,a,b) 0) λh=>.s _ _ h (λ_=>.l (false,[])) (λg=>.l (true,(getD b g [])))
def wlp a b c:=(waci a b c).ev
def wanb:FP prog:=fnP cx func345 [wasm,wach] (yj [.agg Zb,.dat y1]) [] [] (yq9 waci) ⟨[.pull 4 800000,.ren 31 0,.ren 800000 0],[.tmp 4,.tmp 5],Zah,[Zaa],[],[]⟩ yq74 noZ [(0,wru)]
def wea(k:Y1×Y2)(v:Int×Bool×Y1×Y1):Tr ((Int×Bool×Y1×Y1)⊕Yp):=.t v.2.1 (.c _ (wlp k.1 k.2 v.2.2.2) λa=>.l (.inl ((wrap .i64 (v.1+1)),a.1,v.2.2.2,a.2))) (.l (.inr (v.1,v.2.2.1)))
def web k v:=iter (λv=>(wea k v).ev) v
abbrev yq138:Keep:=yk [] [7,8] (yj [.arr 900707,.dat yi]) [(900707,.arr 3 yi)]
abbrev yq140{a b c d e:Type}(t:a×(b×c×d)×e):=(t.2.1.1,t.2.1.2.1)
def wrv:LD:=yl (wea) (yk [.drop 900707,.pin 7 900707,.pin 9 900709] [2,7,8,9,10] (yj [.box 2 0,.arr 900707,.dat yi,.arr 900709,.dat .bool]) [Zal,(900707,.arr 3 yi),(900709,.arr 3 yi)]) [(0,yq138)] yq15 (λk v=>(((),(),v.1,(),v.2.1,()),(k.1,k.2,()),v.2.2.1,v.2.2.2,())) yq140 (λt=>(t.1.2.2.1,t.1.2.2.2.2.1,t.2.2.1,t.2.2.2.1)) (λ_ r=>yx 0 yq138 (((),r.1,()),r.2,()))
def wacj(b:Y1)(a:List Y1)(h:Y1):Tr (Int×Yay):=.c _ (wib b a h) λi=>.t (!i) (.l (0,false,[])) (.c _ (wdg h) λf=>.c _ (wlp b a f) λe=>.c _ (web (b,a) (0,e.1,f,e.2)) λg=>.l (g.1,true,g.2))
def wack a b c:=(wacj a b c).ev
abbrev yq143{a b c:Type}(r:a×b×c):=(((),r.1,r.2.1,()),r.2.2,())
def waso:FP prog:=fnP cx func306 [wli,wjq,wanb] (yj [.agg Zb,.dat y1]) [] [] (yq9 wacj) ⟨[.ren 15 0,.ren 900707 0],[.tmp 4,.tmp 5,.tmp 6],(yj [.arr 0,.dat yi,.dat .bool]),[Zaa],[],[]⟩ yq143 noZ [(0,wrv)]
def wlq(k:Int×Int)(v:Int×Y1):Tr (Yp⊕Y1):=.t (v.1<k.1) (.g (0<=v.1)<|.t ((wrap .i64 (BitVec.toNat ((BitVec.ofInt (IntKind.bits .i64) (Int.fdiv k.2 (2^(min (toNat v.1) (IntKind.bits .i64)))))&&& (BitVec.ofInt (IntKind.bits .i64) 1))))==(1:Int)) (.g ((length v.2+length ([v.1]:Y1))*8<=140737488355328)<|.l (.inl ((wrap .i64 (v.1+1)),(v.2++([v.1]:Y1))))) (.l (.inl ((wrap .i64 (v.1+1)),v.2)))) (.l (.inr v.2))
def wacl k v:=iter (λv=>(wlq k v).ev) v
def wrw:LD:=yl (wlq) (yk [] [0,1,5,6] (yj [.dat yi,.dat yi,.arr 7,.dat yi]) [(7,.arr 3 yi)]) [(0,yq87)] yq15 yq88 yq55 yq89 (λ_ r=>yx 0 yq87 (((),()),r,()))
def wanc(a e:Int):Tr Y1:=.c _ (wacl (a,e) (0,[])) λb=>.l b
def wrx a b:=(wanc a b).ev
def wand:FP prog:=fnP cx func146 [] (yj [.dat yi,.dat yi]) [] [] (yq1 wanc) yq90 yq20 noZ [(0,wrw)]
def wlr(k:Y1×Y1)(v:Int):Tr (Int⊕(Unit⊕Bool)):=.t (v<(length k.1:Int)) (.g (inR v (length k.1))<|.g (inR v (length k.2))<|.t ((getD k.1 (toNat v) 0) != (getD k.2 (toNat v) 0)) (.g (inR v (length k.1))<|.g (inR v (length k.2))<|.l (.inr (.inr ((getD k.1 (toNat v) 0)<(getD k.2 (toNat v) 0))))) (.l (.inl (wrap .i64 (v+1))))) (.l (.inr (.inl ())))
def wacm k v:=iter (λv=>(wlr k v).ev) v
abbrev yq145:Keep:=yh [0,1,5] (yj [.dat y1,.dat y1,.dat yi])
def wry:LD:=yl (wlr) yq145 [(0,yq15)] yq60 yq61 yq55 yq49 (λ_ r=>.s _ _ r (λ_=>yx 0 yq15 ((),())) (λb=>yz yq60 ((b,()),())))
def wane(a b:Y1):Tr Bool:=.t ((length a:Int) != (length b:Int)) (.l ((length a:Int)<(length b:Int))) (.c _ (wacm (a,b) 0) λe=>.s _ _ e (λ_=>.l false) (λf=>.l f))
def wasp a b:=(wane a b).ev
def wasq:FP prog:=fnP cx func380 [] (yj [.dat y1,.dat y1]) [] [] (yq1 wane) yq51 yq2 noZ [(0,wry)]
def wls(k:Int×Y2×Yp)(v:Int):Tr (Int⊕Int):=.t (0<v) (.g (inR (wrap .i64 (v-1)) (length k.2.1))<|.c _ (wasp k.2.2.2 (getD k.2.1 (toNat (wrap .i64 (v-1))) [])) λa=>.t a (.l (.inl (wrap .i64 (v-1)))) (.l (.inr v))) (.l (.inr v))
def wacn k v:=iter (λv=>(wls k v).ev) v
abbrev yq155:Keep:=yk [] [0,3,4,5,6] (yj [.dat yi,.dat y2,.dat yi,.arr 1024,.dat yi]) [(1024,.arr 3 yi)]
abbrev yq149{a b c d e g h:Type}(t:(a×b×c×d×e×g)×h):=t.1.2.2.2.2.1
def wrz:LD:=yl (wls) yq155 [(2,yq155)] yq15 (λk v=>((k.1,k.2.1,k.2.2.1,(),v,()),k.2.2.2,())) (λt=>(t.1.1,t.1.2.1,t.1.2.2.1,t.2.1)) yq149 (λk r=>yx 2 yq155 ((k.1,k.2.1,k.2.2.1,(),r,()),k.2.2.2,()))
def wlt(k:Int)(v:Y2×Int):Tr ((Y2×Int)⊕Y2):=.g (0<=k)<|.t (v.2<(wrap .i64 ((1:Int)*2^(min (toNat k) (IntKind.bits .i64))))) (.c _ (wrx k v.2) λb=>.c _ (wacn (k,v.1,v.2,b) (length v.1:Int)) λa=>.g ((0<=a)&&(a<=(length v.1:Int)))<|.g ((length ([]:List Y1)+length (List.drop 0 (List.take (toNat a) v.1)))*24<=140737488355328)<|.g ((length (([]:List Y1)++(List.drop 0 (List.take (toNat a) v.1)))+length ([b]:List Y1))*24<=140737488355328)<|.g ((0<=a)&&(a<=(length v.1:Int)))<|.g ((length ((([]:List Y1)++(List.drop 0 (List.take (toNat a) v.1)))++([b]:List Y1))+length (List.drop (toNat a) (List.take (length v.1) v.1)))*24<=140737488355328)<|.l (.inl ((((([]:List Y1)++(List.drop 0 (List.take (toNat a) v.1)))++([b]:List Y1))++(List.drop (toNat a) (List.take (length v.1) v.1))),(wrap .i64 (v.2+1))))) (.l (.inr v.1))
def waco k v:=iter (λv=>(wlt k v).ev) v
abbrev yq159:Keep:=yh [3] (yj [.dat y2])
def wsa:LD:=yl (wlt) (yk [.fz 7,.fz 32] [0,3,4] (yj [.dat yi,.dat y2,.dat yi]) []) [(0,yq159)] yq15 yq6 yq7 yq8 (λ_ r=>yx 0 yq159 ((r,()),()))
def wanf(a:Int):Tr Y2:=.c _ (waco a ([],1)) λb=>.l b
def wlu a:=(wanf a).ev
def wacp:FP prog:=fnP cx func347 [wand,wasq] Zi [] [] (yq19 wanf) (yr [.tmp 2] (yj [.dat y2])) yq2 (zOf [(8,[(0,[3,5])])]) [(2,wrz),(0,wsa)]
def wec(k:Y2×Y1×Y2)(v:Y1×Int):Tr ((Y1×Int)⊕Y1):=.t (v.2<(length k.1:Int)) (.g (inR v.2 (length k.1))<|.c _ (wgz k.2.1 k.2.2 (getD k.1 (toNat v.2) [])) λb=>.c _ (wgz k.2.1 k.2.2 v.1) λa=>.t (b<a) (.g (inR v.2 (length k.1))<|.l (.inl ((getD k.1 (toNat v.2) []),(wrap .i64 (v.2+1))))) (.l (.inl (v.1,(wrap .i64 (v.2+1)))))) (.l (.inr v.1))
def wlv k v:=iter (λv=>(wec k v).ev) v
abbrev yq162:Keep:=yh [4] Zbd
def wsb:LD:=yl (wec) (yk [] [1,3,4,5] (yj [.box 1 0,.dat y2,.dat y1,.dat yi]) [Zo]) [(0,yq162)] yq15 (λk v=>(((),k.1,v.1,v.2,()),(k.2.1,k.2.2,()),())) yq48 yq131 (λ_ r=>yx 0 yq162 ((r,()),()))
def wacq(b:Y1)(f:List Y1):Tr Y1:=.c _ (wlu (length b:Int)) λa=>.g (inR 0 (length a))<|.c _ (wlv (a,b,f) ((getD a (toNat 0) []),1)) λe=>.l e
def wacr a b:=(wacq a b).ev
abbrev yq164:RetK:=yr [.tmp 2] Zbd
def wasr:FP prog:=fnP cx func307 [wacp,wach] (yj [.agg Zb]) [] [] (yq25 wacq) yq164 yq2 noZ [(0,wsb)]
def wed(k:Int×Int×Int×Int×Y1×Int×Int×Y1×Yba)(v:Int×Y2):Tr ((Int×Y2)⊕Y2):=.t (v.1<(length k.2.2.2.2.1:Int)) (.g (inR v.1 (length v.2))<|.g ((toNat v.1)<length v.2)<|.g (inR v.1 (length k.2.2.2.2.1))<|.g ((length (getD v.2 (toNat v.1) [])+length ([(getD k.2.2.2.2.1 (toNat v.1) 0)]:Y1))*8<=140737488355328)<|.g (inR v.1 (length v.2))<|.g (((toNat v.1)<length v.2)&&((toNat v.1)=(toNat v.1)))<|.l (.inl ((wrap .i64 (v.1+1)),(set v.2 (toNat v.1) ((getD v.2 (toNat v.1) [])++([(getD k.2.2.2.2.1 (toNat v.1) 0)]:Y1)))))) (.l (.inr v.2))
def wic k v:=iter (λv=>(wed k v).ev) v
abbrev yq92:Keep:=yk [] [4,5] (yj [.box 4 0,.box 5 0]) [Zbk,(5,.cells (yj [.arr 708,.arr 709,.arr 710,.dat yi])),(901340,.arr 3 yi),(901342,.arr 3 yi),(708,.arr 3 yi),(709,.rows 22 3 yi),(710,.arr 3 yi)]
def wsc:LD:=yl (wed) (yk [.ownB 4 0 901340 3 yi,.ownB 4 2 901342 3 yi] [3,4,5,6] (yj [.box 3 0,.box 4 0,.box 5 0,.dat yi]) [(3,.cells Zae),Zbk,(5,.cells (yj [.arr 708,.arr 709,.arr 710,.dat yi])),(901340,.arr 3 yi),(901342,.arr 3 yi),(708,.arr 3 yi),(709,.rows 22 3 yi),(710,.arr 3 yi)]) [(1,yq92)] yq15 (λk v=>(((),(),(),v.1,()),(k.1,k.2.1,k.2.2.1,k.2.2.2.1,k.2.2.2.2.1,()),((),(),(),k.2.2.2.2.2.1,()),((),(),(),k.2.2.2.2.2.2.1,()),k.2.2.2.2.2.2.2.1,k.2.2.2.2.2.2.2.2.1,k.2.2.2.2.2.2.2.2.2.1,v.2,k.2.2.2.2.2.2.2.2.2.2,())) (λt=>(t.2.1.1,t.2.1.2.1,t.2.1.2.2.1,t.2.1.2.2.2.1,t.2.1.2.2.2.2.1,t.2.2.1.2.2.2.1,t.2.2.2.1.2.2.2.1,t.2.2.2.2.1,t.2.2.2.2.2.1,t.2.2.2.2.2.2.1,t.2.2.2.2.2.2.2.2.1)) (λt=>(t.1.2.2.2.1,t.2.2.2.2.2.2.2.1)) (λk r=>yx 1 yq92 (((),(),()),((),(),(),k.2.2.2.2.2.1,()),((),(),(),k.2.2.2.2.2.2.1,()),k.2.2.2.2.2.2.2.1,k.2.2.2.2.2.2.2.2.1,k.2.2.2.2.2.2.2.2.2.1,r,k.2.2.2.2.2.2.2.2.2.2,()))
def wacs(i:Y1)(h:List Y1)(m:Y1)(o e b f n:Int)(p:Y1):Tr (Int×Yar):=.c _ (whe i h m o) λa=>.t (e==1) (.c _ (whf a.2.2.2 b) λq=>.l (a.1,a.2.1,a.2.2.1,q)) (.t (e==2) (.c _ (wlf a.2.2.2 b) λw=>.l (a.1,a.2.1,a.2.2.1,w)) (.t (e==3) (.c _ (wlf a.2.2.2 b) λs=>.c _ (whf s f) λab=>.l (a.1,a.2.1,a.2.2.1,ab)) (.t (e==4) (.g (inR b (length a.2.1))<|.g ((toNat b)<length a.2.1)<|.l (a.1,(set a.2.1 (toNat b) f),a.2.2.1,a.2.2.2)) (.t (e==5) (.g (inR b (length a.2.2.1))<|.g ((toNat b)<length a.2.2.1)<|.g (inR f (length (getD a.2.2.1 (toNat b) [])))<|.g ((toNat f)<length (getD a.2.2.1 (toNat b) []))<|.l (a.1,a.2.1,(set a.2.2.1 (toNat b) (set (getD a.2.2.1 (toNat b) []) (toNat f) n)),a.2.2.2)) (.t (e==6) (.g ((length a.2.1+length ([b]:Y1))*8<=140737488355328)<|.c _ (wic (e,b,f,n,p,0,a.1,[],[],(a.2.1++([b]:Y1)),a.2.2.2) (0,a.2.2.1)) λy=>.l (a.1,(a.2.1++([b]:Y1)),y,a.2.2.2)) (.t (e==7) (.c _ (wdg p) λaa=>.g ((length a.2.2.1+1)*24<=140737488355328)<|.l (a.1,a.2.1,(set (a.2.2.1++ [[]]) (length a.2.2.1) aa),a.2.2.2)) (.t (e==8) (.c _ (wabw i h m o b) λj=>.l (j.1,j.2.1,j.2.2.1,j.2.2.2)) (.t (e==9) (.g ((0<=b)&&(b<=(length a.2.2.1:Int)))<|.g (((0:Int)<=(wrap .i64 (b+1)))&&((wrap .i64 (b+1))<=(length a.2.2.1:Int)))<|.g (((toNat b)<=(toNat (wrap .i64 (b+1))))&&(((toNat b)+(length a.2.2.1-(toNat (wrap .i64 (b+1)))))*24<=140737488355328))<|.l (a.1,a.2.1,(List.take (toNat b) a.2.2.1++List.drop (toNat (wrap .i64 (b+1))) a.2.2.1),a.2.2.2)) (.t (e==10) (.c _ (wack i h m) λu=>.l (a.1,a.2.1,a.2.2.1,u.2.2)) (.t (e==11) (.c _ (wacr i h) λz=>.c _ (wdg z) λr=>.l (a.1,a.2.1,a.2.2.1,r)) (.l (a.1,a.2.1,a.2.2.1,a.2.2.2))))))))))))
def wact i c f a j b e g h:=(wacs i c f a j b e g h).ev
def wass:FP prog:=fnP cx func224 [wabi,wabs,wamy,wjq,wasl,waso,wasr] (yj [.agg Zd,.agg Zae]) [] [] (yq84 wacs) ⟨[.pinB 4 0 1,.pinB 4 1 6,.pinB 4 2 7],[.cell 4 38],(yj [.agg (yj [.arr 1,.arr 6,.arr 7,.dat yi])]),[(1,.arr 3 yi),(6,.rows 22 3 yi),(7,.arr 3 yi)],[],[]⟩ yq29 noZ [(1,wsc)]
def wacu(m:Y1)(j:List Y1)(n:Y1)(b g e f h:Int)(i:Y1):Tr (Int×Bool×Yar):=.c _ (wabk g e f h i) λq=>.t (!q) (.l (0,false,[],[],[])) (.c _ (wabq m j n b g e f h i) λo=>.t (!o) (.l (0,false,[],[],[])) (.c _ (wact m j n b g e f h i) λa=>.c _ (wkv a.2.1 a.2.2.1 a.2.2.2 (wrap .i64 (b+1))) λp=>.t (!p) (.l (0,false,[],[],[])) (.l ((wrap .i64 (b+1)),true,a.2.1,a.2.2.1,a.2.2.2))))
def wacv i c f a j b e g h:=(wacu i c f a j b e g h).ev
abbrev yq167{a b c d e:Type}(r:a×b×c×d×e):=((((),(),(),r.1,()),r.2.1,()),r.2.2.1,r.2.2.2.1,r.2.2.2.2,())
def wast:FP prog:=fnP cx func147 [wash,wasj,wass,waat] (yj [.agg Zd,.agg Zae]) [] [] (yq84 wacu) ⟨[.ownB 4 0 5 3 yi,.ownRB 4 1 7 22 3 yi,.ownB 4 2 8 3 yi,.ren 1217 5,.ren 1222 7,.ren 1223 8],[.cell 4 38,.tmp 5],(yj [.agg (yj [.arr 5,.arr 7,.arr 8,.dat yi]),.dat .bool]),[(5,.arr 3 yi),(7,.rows 22 3 yi),(8,.arr 3 yi)],[],[]⟩ yq167
def wee(k:Y1)(v:(List UInt8)×Int):Tr (((List UInt8)×Int)⊕(List UInt8)):=.t (v.2<(length k:Int)) (.t (0<v.2) (.g (length v.1+length ([32]:List UInt8)<=9223372036854775807)<|.g (inR v.2 (length k))<|.c _ (wu 1000000 (getD k (toNat v.2) 0)) λb=>.g (length (v.1++([32]:List UInt8))+length b<=9223372036854775807)<|.l (.inl (((v.1++([32]:List UInt8))++b),(wrap .i64 (v.2+1))))) (.g (inR v.2 (length k))<|.c _ (wu 1000000 (getD k (toNat v.2) 0)) λa=>.g (length v.1+length a<=9223372036854775807)<|.l (.inl ((v.1++a),(wrap .i64 (v.2+1)))))) (.l (.inr v.1))
def wlw k v:=iter (λv=>(wee k v).ev) v
abbrev yq168:Keep:=yh [0,3,4] (yj [.dat y1,.dat .str,.dat yi])
abbrev yq169:Keep:=yh [3] (yj [.dat .str])
def wsd:LD:=yl (wee) yq168 [(0,yq169)] yq15 yq6 yq7 yq8 (λ_ r=>yx 0 yq169 ((r,()),()))
def wacw(b:Y1):Tr (List UInt8):=.c _ (wlw b ([],0)) λa=>.t (a==([]:List UInt8)) (.l ([110,111,110,101]:List UInt8)) (.l a)
def whh a:=(wacw a).ev
def wang:FP prog:=fnP cx func210 [whd] Zbd [] [] (yq19 wacw) yq66 yq2 noZ [(0,wsd)]
def wacx(g:Y1)(e:List Y1)(j:Y1)(i b y f h:Int)(ab:Y1):Tr (Y1×Y2×Y1×Int×(List UInt8)):=.c _ (wacv g e j i b y f h ab) λa=>.t (!a.2.1) (.l (g,e,j,i,([63]:List UInt8))) (.t (b==4) (.c _ (wu 1000000 f) λn=>.l (a.2.2.1,a.2.2.2.1,a.2.2.2.2,a.1,n)) (.t (b==5) (.c _ (wu 1000000 h) λu=>.l (a.2.2.1,a.2.2.2.1,a.2.2.2.2,a.1,u)) (.t (b==6) (.t (b==6) (.c _ (wu 1000000 (length a.2.2.1:Int)) λs=>.l (a.2.2.1,a.2.2.2.1,a.2.2.2.2,a.1,s)) (.t (b==7) (.t (b==7) (.c _ (wu 1000000 (length a.2.2.2.1:Int)) λac=>.l (a.2.2.1,a.2.2.2.1,a.2.2.2.2,a.1,ac)) (.c _ (whh a.2.2.2.2) λw=>.l (a.2.2.1,a.2.2.2.1,a.2.2.2.2,a.1,w))) (.t (b==9) (.c _ (wu 1000000 (length a.2.2.2.1:Int)) λm=>.l (a.2.2.1,a.2.2.2.1,a.2.2.2.2,a.1,m)) (.c _ (whh a.2.2.2.2) λaa=>.l (a.2.2.1,a.2.2.2.1,a.2.2.2.2,a.1,aa))))) (.t (b==8) (.c _ (wu 1000000 (length a.2.2.1:Int)) λr=>.l (a.2.2.1,a.2.2.2.1,a.2.2.2.2,a.1,r)) (.t (b==7) (.t (b==7) (.c _ (wu 1000000 (length a.2.2.2.1:Int)) λq=>.l (a.2.2.1,a.2.2.2.1,a.2.2.2.2,a.1,q)) (.c _ (whh a.2.2.2.2) λp=>.l (a.2.2.1,a.2.2.2.1,a.2.2.2.2,a.1,p))) (.t (b==9) (.c _ (wu 1000000 (length a.2.2.2.1:Int)) λz=>.l (a.2.2.1,a.2.2.2.1,a.2.2.2.2,a.1,z)) (.c _ (whh a.2.2.2.2) λo=>.l (a.2.2.1,a.2.2.2.1,a.2.2.2.2,a.1,o))))))))
def ww i c f a j b e g h:=(wacx i c f a j b e g h).ev
abbrev yq171{a b c d e:Type}(r:a×b×c×d×e):=(((r.1,r.2.1,r.2.2.1,r.2.2.2.1,()),r.2.2.2.2,()),())
def wsf:FP prog:=fnP cx func136 [wast,whd,wang] (yj [.agg Zd,.agg Zae]) [] [] (yq84 wacx) ⟨[.fz 709,.fz 711,.fz 712],[.cell 4 38,.tmp 5],(yj [.agg Zd,.dat .str]),[],[],[]⟩ yq171
def wacy(e:Y1)(b:List Y1)(a:Y1)(f:Int):Tr (Int×Bool):=.c _ (wkv e b a f) λh=>.t (!h) (.l (0,false)) (.t ((length a:Int)==(0:Int)) (.l (0,false)) (.c _ (wgz e b a) λg=>.l (g,true)))
def wsg a c e b:=(wacy a c e b).ev
abbrev yq172:RetK:=yr [.tmp 2,.tmp 3] (yj [.dat yi,.dat .bool])
abbrev yq173{a b:Type}(r:a×b):=((r.1,r.2,()),())
def wanh:FP prog:=fnP cx func279 [waat,wach] (yj [.agg Zd]) [] [] (yq28 wacy) yq172 yq173
def wacz(e:Int)(b:Bool):Tr (List UInt8):=.t (!b) (.l ([63]:List UInt8)) (.c _ (wu 1000000 e) λa=>.l a)
def wie a b:=(wacz a b).ev
def wasu:FP prog:=fnP cx func278 [whd] (yj [.dat yi,.dat .bool]) [] [] (yq1 wacz) yq67 yq2
def wada(a b:Int):Tr Int:=.t (a<b) (.l a) (.l b)
def wadb a b:=(wada a b).ev
def wasv:FP prog:=fnP cx func226 [] (yj [.dat yi,.dat yi]) [] [] (yq1 wada) yq0 yq2
def wadc(a b:Int):Tr Int:=.t (b<a) (.l a) (.l b)
def wsh a b:=(wadc a b).ev
def wani:FP prog:=fnP cx func225 [] (yj [.dat yi,.dat yi]) [] [] (yq1 wadc) yq0 yq2
def wao(k:Y1×Int×Yz)(v:Int×Int):Tr (Yq⊕Int):=.t (v.2<(length k.1:Int)) (.g (inR v.2 (length k.1))<|.g (inR v.2 (length k.2.2.2.2))<|.g (inR k.2.1 (length (getD k.2.2.2.2 (toNat v.2) [])))<|.c _ (wsh 0 (wrap .i64 ((getD k.1 (toNat v.2) 0) -(wrap .i64 (k.2.2.1*(getD (getD k.2.2.2.2 (toNat v.2) []) (toNat k.2.1) 0)))))) λa=>.l (.inl ((wrap .i64 (v.1+a)),(wrap .i64 (v.2+1))))) (.l (.inr v.1))
def wif k v:=iter (λv=>(wao k v).ev) v
abbrev yq183:Keep:=yh [9] Zi
abbrev yq185{a b c d e g h i:Type}(t:(a×b×c×d)×(e×g×h)×i):=(t.1.1,t.1.2.1,t.1.2.2.1,t.2.1.1,t.2.1.2.1)
abbrev yq186{a b c d e g h i:Type}(t:(a×b×c×d×e×g×h)×i):=(t.1.2.2.2.2.1,t.1.2.2.2.2.2.1)
def wsi:LD:=yl (wao) (yk [] [1,2,3,4,9,10] (yj [.dat y1,.dat yi,.dat yi,.box 4 0,.dat yi,.dat yi]) [(4,.cells Zb)]) [(0,yq183)] yq15 (λk v=>((k.1,k.2.1,k.2.2.1,(),v.1,v.2,()),(k.2.2.2.1,k.2.2.2.2,()),())) yq185 yq186 (λ_ r=>yx 0 yq183 ((r,()),()))
def wsj(g:Y1)(e:List Y1)(f:Y1)(a h:Int):Tr Int:=.c _ (wif (f,a,h,g,e) (0,0)) λb=>.l b
def wig e b f a c:=(wsj e b f a c).ev
abbrev yq188{a b c d e g h i:Type}{z:Type _}(f:a->b->d->e->g->z)(x:((a×b×c)×d×e×g×h)×i):z:=f x.1.1.1 x.1.1.2.1 x.1.2.1 x.1.2.2.1 x.1.2.2.2.1
def wadd:FP prog:=fnP cx func391 [wani] (yj [.agg Zb,.dat y1,.dat yi,.dat yi]) [] [] (yq188 wsj) (yr [.tmp 8] Zi) yq2 noZ [(0,wsi)]
def wae(k:Y1×Int×Yz)(v:Int×Int):Tr (Yq⊕Int):=.t (v.2<(length k.2.2.2.1:Int)) (.g (inR k.2.1 (length k.2.2.2.2))<|.g (inR v.2 (length (getD k.2.2.2.2 (toNat k.2.1) [])))<|.t ((getD (getD k.2.2.2.2 (toNat k.2.1) []) (toNat v.2) 0)<=k.2.2.1) (.g (inR v.2 (length k.2.2.2.1))<|.c _ (wig k.2.2.2.1 k.2.2.2.2 k.1 v.2 1) λa=>.t (v.1<0) (.l (.inl ((wrap .i64 ((getD k.2.2.2.1 (toNat v.2) 0) -a)),(wrap .i64 (v.2+1))))) (.t ((wrap .i64 ((getD k.2.2.2.1 (toNat v.2) 0) -a))<v.1) (.l (.inl ((wrap .i64 ((getD k.2.2.2.1 (toNat v.2) 0) -a)),(wrap .i64 (v.2+1))))) (.l (.inl (v.1,(wrap .i64 (v.2+1))))))) (.t (v.1<0) (.l (.inl ((wrap .i64 ((getD (getD k.2.2.2.2 (toNat k.2.1) []) (toNat v.2) 0) -k.2.2.1)),(wrap .i64 (v.2+1))))) (.t ((wrap .i64 ((getD (getD k.2.2.2.2 (toNat k.2.1) []) (toNat v.2) 0) -k.2.2.1))<v.1) (.l (.inl ((wrap .i64 ((getD (getD k.2.2.2.2 (toNat k.2.1) []) (toNat v.2) 0) -k.2.2.1)),(wrap .i64 (v.2+1))))) (.l (.inl (v.1,(wrap .i64 (v.2+1)))))))) (.l (.inr v.1))
def wlx k v:=iter (λv=>(wae k v).ev) v
abbrev yq190:Keep:=yh [8] Zi
abbrev yq192{a b c d e g h i j:Type}(t:(a×b×c×d×e)×(g×h×i)×j):=(t.1.1,t.1.2.1,t.1.2.2.2.1,t.2.1.1,t.2.1.2.1)
def wsk:LD:=yl (wae) (yk [] [1,2,3,7,8,9] (yj [.dat y1,.dat yi,.box 3 0,.dat yi,.dat yi,.dat yi]) [(3,.cells Zb)]) [(0,yq190)] yq15 (λk v=>((k.1,k.2.1,(),k.2.2.1,v.1,v.2,()),(k.2.2.2.1,k.2.2.2.2,()),())) yq192 yq186 (λ_ r=>yx 0 yq190 ((r,()),()))
def wade(h:Y1)(f:List Y1)(b:Y1)(a:Int):Tr Int:=.g (inR a (length b))<|.c _ (wlx (b,a,(getD b (toNat a) 0),h,f) ((-1),0)) λe=>.l e
def wadf a c e b:=(wade a c e b).ev
def wasw:FP prog:=fnP cx func373 [wadd] (yj [.agg Zb,.dat y1,.dat yi]) [] [] (yq127 wade) yq126 yq2 noZ [(0,wsk)]
def wef(k:Int×Yar)(v:Int×Int):Tr (Yq⊕Int):=.t (v.2<(length k.2.1:Int)) (.g (inR k.1 (length k.2.2.1))<|.g (inR v.2 (length (getD k.2.2.1 (toNat k.1) [])))<|.c _ (wadb v.1 (getD (getD k.2.2.1 (toNat k.1) []) (toNat v.2) 0)) λa=>.l (.inl (a,(wrap .i64 (v.2+1))))) (.l (.inr v.1))
def wly k v:=iter (λv=>(wef k v).ev) v
abbrev yq175:Keep:=yk [] [1,3,4,5] (yj [.box 1 0,.arr 10,.dat yi,.dat yi]) [Zo,(10,.arr 3 yi)]
abbrev yq176{a b c d e g:Type}(k:a×b×c×d)(v:e×g):=(((),(),k.1,v.1,v.2,()),(k.2.1,k.2.2.1,()),k.2.2.2,())
abbrev yq177{a b c d e g h i j:Type}(t:(a×b×c×d)×(e×g×h)×i×j):=(t.1.2.2.1,t.2.1.1,t.2.1.2.1,t.2.2.1)
def wsl:LD:=yl (wef) (yk [] [1,3,4,5,6] (yj [.box 1 0,.arr 10,.dat yi,.dat yi,.dat yi]) [Zo,(10,.arr 3 yi)]) [(2,yq175)] yq15 yq176 yq177 yq125 (λk r=>yx 2 yq175 (((),(),k.1,r,()),(k.2.1,k.2.2.1,()),k.2.2.2,()))
def weg(k:Y1×Y2)(v:Int×Y1):Tr (Yp⊕Y1):=.t (v.1<(length k.2:Int)) (.g (inR v.1 (length k.2))<|.g (inR 0 (length (getD k.2 (toNat v.1) [])))<|.c _ (wly (v.1,k.1,k.2,v.2) ((getD (getD k.2 (toNat v.1) []) (toNat 0) 0),0)) λa=>.g ((length v.2+length ([a]:Y1))*8<=140737488355328)<|.l (.inl ((wrap .i64 (v.1+1)),(v.2++([a]:Y1))))) (.l (.inr v.2))
def wih k v:=iter (λv=>(weg k v).ev) v
abbrev yq179:Keep:=yk [] [1,3] (yj [.box 1 0,.arr 10]) [Zo,(10,.arr 3 yi)]
abbrev yq180{a b c d:Type}(k:a×b)(v:c×d):=(((),(),v.1,()),(k.1,k.2,()),v.2,())
abbrev yq181{a b c d e g h:Type}(t:(a×b×c×d)×e×g×h):=(t.1.2.2.1,t.2.2.1)
def wsm:LD:=yl (weg) (yk [] [1,3,4] (yj [.box 1 0,.arr 10,.dat yi]) [Zo,(10,.arr 3 yi)]) [(0,yq179)] yq15 yq180 yq140 yq181 (λk r=>yx 0 yq179 (((),(),()),(k.1,k.2,()),r,()))
def wbc(k:Y1×Y2)(v:Bool×Yp):Tr ((Bool×Yp)⊕Yay):=.t (v.2.1<(length v.2.2:Int)) (.c _ (wadf k.1 k.2 v.2.2 v.2.1) λa=>.t (0<a) (.g (inR v.2.1 (length v.2.2))<|.g ((toNat v.2.1)<length v.2.2)<|.g (inR v.2.1 (length v.2.2))<|.g ((toNat v.2.1)<length v.2.2)<|.l (.inl (true,(wrap .i64 (v.2.1+1)),(set v.2.2 (toNat v.2.1) (wrap .i64 ((getD v.2.2 (toNat v.2.1) 0)+a)))))) (.l (.inl (v.1,(wrap .i64 (v.2.1+1)),v.2.2)))) (.l (.inr (v.1,v.2.2)))
def wlz k v:=iter (λv=>(wbc k v).ev) v
abbrev yq194:Keep:=yk [] [1,3,7] (yj [.box 1 0,.arr 10,.dat .bool]) [Zo,(10,.arr 3 yi)]
def wsn:LD:=yl (wbc) (yk [] [1,3,7,8] (yj [.box 1 0,.arr 10,.dat .bool,.dat yi]) [Zo,(10,.arr 3 yi)]) [(6,yq194)] yq15 (λk v=>(((),(),v.1,v.2.1,()),(k.1,k.2,()),v.2.2,())) yq140 (λt=>(t.1.2.2.1,t.1.2.2.2.1,t.2.2.1)) (λk r=>yx 6 yq194 (((),(),r.1,()),(k.1,k.2,()),r.2,()))
def wah(k:Y1×Y2)(v:Bool×Y1):Tr (Yay⊕Y1):=.t v.1 (.c _ (wlz (k.1,k.2) (false,0,v.2)) λa=>.l (.inl (a.1,a.2))) (.l (.inr v.2))
def wma k v:=iter (λv=>(wah k v).ev) v
abbrev yq197:Keep:=yk [] [3] (yj [.arr 10]) [(10,.arr 3 yi)]
def wso:LD:=yl (wah) yq194 [(4,yq197)] yq15 yq180 yq140 yq181 (λ_ r=>yx 4 yq197 (((),()),r,()))
def wadg(a:Y1)(b:List Y1):Tr Y1:=.c _ (wih (a,b) (0,[])) λf=>.c _ (wma (a,b) (true,f)) λe=>.l e
def wsp a b:=(wadg a b).ev
def wanj:FP prog:=fnP cx func335 [wasv,wasw] (yj [.agg Zb]) [] [] (yq25 wadg) ⟨[.ren 10 0],[.tmp 2],Zan,[Zaa],[],[]⟩ yq20 noZ [(2,wsl),(0,wsm),(6,wsn),(4,wso)]
def weh(k:Y1)(v:Int×Int):Tr (Yq⊕Int):=.t (v.2<(length k:Int)) (.g (inR v.2 (length k))<|.l (.inl ((wrap .i64 (v.1+(getD k (toNat v.2) 0))),(wrap .i64 (v.2+1))))) (.l (.inr v.1))
def wmb k v:=iter (λv=>(weh k v).ev) v
abbrev yq199:Keep:=yh [0,3,4] (yj [.dat y1,.dat yi,.dat yi])
def wsq:LD:=yl (weh) yq199 [(0,yq64)] yq15 yq6 yq7 yq8 (λ_ r=>yx 0 yq64 ((r,()),()))
def wadh(a:Y1):Tr Int:=.c _ (wmb a (0,0)) λb=>.l b
def wadi a:=(wadh a).ev
def wasx:FP prog:=fnP cx func334 [] Zbd [] [] (yq19 wadh) yq65 yq2 noZ [(0,wsq)]
def wadj(e:Y1)(a:List Y1)(i:Y1)(g:Int):Tr (Int×Bool):=.c _ (wsg e a i g) λb=>.t (!b.2) (.l (0,false)) (.c _ (wsp e a) λh=>.c _ (wadi h) λf=>.l ((wrap .i64 (b.1-f)),true))
def wadk a c e b:=(wadj a c e b).ev
def wasz:FP prog:=fnP cx func280 [wanh,wanj,wasx] (yj [.agg Zd]) [] [] (yq28 wadj) yq172 yq173
def wadl(b:Y1)(a:List Y1)(e:Y1):Tr (Int×Bool):=.c _ (wib b a e) λg=>.t (!g) (.l (0,false)) (.c _ (wjs b a e) λf=>.l (f,true))
def wadm a b c:=(wadl a b c).ev
abbrev yq200:RetK:=yr [.tmp 4,.tmp 5] (yj [.dat yi,.dat .bool])
def wata:FP prog:=fnP cx func281 [wli,wacd] (yj [.agg Zb,.dat y1]) [] [] (yq9 wadl) yq200 yq173
def wei(k:Y1×Y1×Y2)(v:Int×Int):Tr (Yq⊕Int):=.t (v.2<(length k.2.2:Int)) (.c _ (wrr k.2.1 k.2.2 v.2 k.1) λa=>.c _ (wsh v.1 a) λb=>.l (.inl (b,(wrap .i64 (v.2+1))))) (.l (.inr v.1))
def wmc k v:=iter (λv=>(wei k v).ev) v
def wsr:LD:=yl (wei) yq128 [(0,yq129)] yq15 yq130 yq118 yq131 (λ_ r=>yx 0 yq129 ((r,()),()))
def wadn(a:Y1)(b:List Y1)(f:Y1):Tr Int:=.c _ (wmc (f,a,b) (0,0)) λe=>.l e
def wmd a b c:=(wadn a b c).ev
def wank:FP prog:=fnP cx func338 [wana,wani] (yj [.agg Zb,.dat y1]) [] [] (yq9 wadn) yq0 yq2 noZ [(0,wsr)]
def wado(b:Y1)(a:List Y1)(e:Y1):Tr (Int×Bool):=.c _ (wib b a e) λg=>.t (!g) (.l (0,false)) (.c _ (wmd b a e) λf=>.l (f,true))
def wadp a b c:=(wado a b c).ev
def watb:FP prog:=fnP cx func282 [wli,wank] (yj [.agg Zb,.dat y1]) [] [] (yq9 wado) yq200 yq173
def wej(k:Y1×Y1×Y2)(v:Int×Y1):Tr (Yp⊕Y1):=.t (v.1<(length k.2.2:Int)) (.c _ (wrq k.2.1 k.2.2 v.1 k.1) λa=>.g ((length v.2+length ([a]:Y1))*8<=140737488355328)<|.l (.inl ((wrap .i64 (v.1+1)),(v.2++([a]:Y1))))) (.l (.inr v.2))
def wme k v:=iter (λv=>(wej k v).ev) v
abbrev yq202:Keep:=yk [] [6] (yj [.arr 8]) [(8,.arr 3 yi)]
abbrev yq204{a b c d e g h i:Type}(t:(a×b×c×d×e)×g×h×i):=(t.1.2.2.2.1,t.2.2.1)
def wss:LD:=yl (wej) (yk [] [1,2,6,7] (yj [.dat y1,.box 2 0,.arr 8,.dat yi]) [Zal,(8,.arr 3 yi)]) [(0,yq202)] yq15 (λk v=>((k.1,(),(),v.1,()),(k.2.1,k.2.2,()),v.2,())) yq118 yq204 (λ_ r=>yx 0 yq202 (((),()),r,()))
def wadq(b:Y1)(a:List Y1)(e:Y1):Tr Yay:=.c _ (wib b a e) λg=>.t (!g) (.l (false,[])) (.c _ (wme (e,b,a) (0,[])) λf=>.l (true,f))
def wadr a b c:=(wadq a b c).ev
def watc:FP prog:=fnP cx func283 [wli,wamz] (yj [.agg Zb,.dat y1]) [] [] (yq9 wadq) ⟨[.ren 8 0],[.tmp 4,.tmp 5],Zah,[Zaa],[],[]⟩ yq74 noZ [(0,wss)]
def wads(e:Y1)(b:Bool):Tr (List UInt8):=.t (!b) (.l ([63]:List UInt8)) (.c _ (whh e) λa=>.l a)
def wek a b:=(wads a b).ev
def wanl:FP prog:=fnP cx func211 [wang] (yj [.dat y1,.dat .bool]) [] [] (yq1 wads) yq67 yq2
def wbw(k:Int×Int×Yz)(v:Int):Tr (Int⊕(Unit⊕Unit)):=.t (v<(length k.2.2.2.1:Int)) (.g (inR k.1 (length k.2.2.2.2))<|.g (inR k.2.2.1 (length (getD k.2.2.2.2 (toNat k.1) [])))<|.g (inR k.1 (length k.2.2.2.2))<|.g (inR v (length (getD k.2.2.2.2 (toNat k.1) [])))<|.g (inR k.2.1 (length k.2.2.2.2))<|.g (inR v (length (getD k.2.2.2.2 (toNat k.2.1) [])))<|.g (inR k.2.1 (length k.2.2.2.2))<|.g (inR k.2.2.1 (length (getD k.2.2.2.2 (toNat k.2.1) [])))<|.t ((wrap .i64 ((wrap .i64 ((getD (getD k.2.2.2.2 (toNat k.1) []) (toNat v) 0)+(getD (getD k.2.2.2.2 (toNat k.2.1) []) (toNat v) 0)))+(getD (getD k.2.2.2.2 (toNat k.2.1) []) (toNat k.2.2.1) 0)))<(getD (getD k.2.2.2.2 (toNat k.1) []) (toNat k.2.2.1) 0)) (.l (.inr (.inr ()))) (.l (.inl (wrap .i64 (v+1))))) (.l (.inr (.inl ())))
def wmf k v:=iter (λv=>(wbw k v).ev) v
abbrev yq207:Keep:=yk [] [1,3,4,5] (yj [.box 1 0,.dat yi,.dat yi,.dat yi]) [Zo]
def wsu:LD:=yl (wbw) (yk [] [1,3,4,5,6] (yj [.box 1 0,.dat yi,.dat yi,.dat yi,.dat yi]) [Zo]) [(6,yq207)] yq46 (λk v=>(((),k.1,k.2.1,k.2.2.1,v,()),(k.2.2.2.1,k.2.2.2.2,()),())) (λt=>(t.1.2.1,t.1.2.2.1,t.1.2.2.2.1,t.2.1.1,t.2.1.2.1)) yq149 (λk r=>.s _ _ r (λ_=>yx 6 yq207 (((),k.1,k.2.1,k.2.2.1,()),(k.2.2.2.1,k.2.2.2.2,()),())) (λ_=>yz yq46 ((false,()),())))
def wbx(k:Int×Yz)(v:Int):Tr (Int⊕(Unit⊕Unit)):=.t (v<(length k.2.2.1:Int)) (.c _ (wmf (k.1,k.2.1,v,k.2.2.1,k.2.2.2) 0) λa=>.s _ _ a (λ_=>.l (.inl (wrap .i64 (v+1)))) (λ_=>.l (.inr (.inr ())))) (.l (.inr (.inl ())))
def wmg k v:=iter (λv=>(wbx k v).ev) v
abbrev yq210{a b c d e:Type}(k:a×b×c×d)(v:e):=(((),k.1,k.2.1,v,()),(k.2.2.1,k.2.2.2,()),())
abbrev yq211{a b c d e g h i:Type}(t:(a×b×c×d)×(e×g×h)×i):=(t.1.2.1,t.1.2.2.1,t.2.1.1,t.2.1.2.1)
def wsv:LD:=yl (wbx) yq207 [(4,yq44)] yq46 yq210 yq211 yq43 (λk r=>.s _ _ r (λ_=>yx 4 yq44 (((),k.1,k.2.1,()),(k.2.2.1,k.2.2.2,()),())) (λ_=>yz yq46 ((false,()),())))
def wby(k:Int×Y1×Y2)(v:Int):Tr (Int⊕(Unit⊕Unit)):=.t (v<(length k.2.2:Int)) (.c _ (wmg (k.1,v,k.2.1,k.2.2) 0) λa=>.s _ _ a (λ_=>.l (.inl (wrap .i64 (v+1)))) (λ_=>.l (.inr (.inr ())))) (.l (.inr (.inl ())))
def wmh k v:=iter (λv=>(wby k v).ev) v
def wsw:LD:=yl (wby) yq44 [(2,yq45)] yq46 yq47 yq48 yq49 (λk r=>.s _ _ r (λ_=>yx 2 yq45 (((),k.1,()),(k.2.1,k.2.2,()),())) (λ_=>yz yq46 ((false,()),())))
def wbz(k:Y1×Y2)(v:Int):Tr (Int⊕(Unit⊕Unit)):=.t (v<(length k.2:Int)) (.c _ (wmh (v,k.1,k.2) 0) λa=>.s _ _ a (λ_=>.l (.inl (wrap .i64 (v+1)))) (λ_=>.l (.inr (.inr ())))) (.l (.inr (.inl ())))
def wmi k v:=iter (λv=>(wbz k v).ev) v
abbrev yq213{a b c d:Type}(t:(a×b×c)×d):=t.1.2.1
def wsx:LD:=yl (wbz) yq45 [(0,yq15)] yq46 (λk v=>(((),v,()),(k.1,k.2,()),())) yq140 yq213 (λ_ r=>.s _ _ r (λ_=>yx 0 yq15 ((),())) (λ_=>yz yq46 ((false,()),())))
def wadt(e:Y1)(b:List Y1):Tr Bool:=.c _ (wmi (e,b) 0) λa=>.s _ _ a (λ_=>.l true) (λ_=>.l false)
def wadu a b:=(wadt a b).ev
def watd:FP prog:=fnP cx func299 [] (yj [.agg Zb]) [] [] (yq25 wadt) yq50 yq2 noZ [(6,wsu),(4,wsv),(2,wsw),(0,wsx)]
def wadv(b:Y1)(a:List Y1):Tr (Bool×Bool):=.c _ (wbo b a) λe=>.t (!e) (.l (false,false)) (.c _ (wadu b a) λf=>.l (f,true))
def wadw a b:=(wadv a b).ev
abbrev yq214:RetK:=yr [.tmp 2,.tmp 3] (yj [.dat .bool,.dat .bool])
def wate:FP prog:=fnP cx func285 [wgx,watd] (yj [.agg Zb]) [] [] (yq25 wadv) yq214 yq173
def wanm(a b:Bool):Tr (List UInt8):=.t (!b) (.l ([63]:List UInt8)) (.t a (.l ([121,101,115]:List UInt8)) (.l ([110,111]:List UInt8)))
def wadx a b:=(wanm a b).ev
def watf:FP prog:=fnP cx func284 [] (yj [.dat .bool,.dat .bool]) [] [] (yq1 wanm) yq67 yq2
def wel(k:Y1)(v:(List UInt8)×Int):Tr (((List UInt8)×Int)⊕(List UInt8)):=.t (v.2<(length k:Int)) (.t (0<v.2) (.g (length v.1+length ([32]:List UInt8)<=9223372036854775807)<|.g (inR v.2 (length k))<|.c _ (wu 1000000 (getD k (toNat v.2) 0)) λb=>.g (length (v.1++([32]:List UInt8))+length b<=9223372036854775807)<|.l (.inl (((v.1++([32]:List UInt8))++b),(wrap .i64 (v.2+1))))) (.g (inR v.2 (length k))<|.c _ (wu 1000000 (getD k (toNat v.2) 0)) λa=>.g (length v.1+length a<=9223372036854775807)<|.l (.inl ((v.1++a),(wrap .i64 (v.2+1)))))) (.l (.inr v.1))
def wmj k v:=iter (λv=>(wel k v).ev) v
def wsy:LD:=yl (wel) yq168 [(0,yq169)] yq15 yq6 yq7 yq8 (λ_ r=>yx 0 yq169 ((r,()),()))
def wady(a:Y1):Tr (List UInt8):=.c _ (wmj a ([],0)) λb=>.l b
def wsz a:=(wady a).ev
def wath:FP prog:=fnP cx func340 [whd] Zbd [] [] (yq19 wady) yq66 yq2 noZ [(0,wsy)]
def wem(k:Y1×Y2)(v:(List UInt8)×Int):Tr (((List UInt8)×Int)⊕(List UInt8)):=.t (v.2<(length k.2:Int)) (.g (length v.1+length ([32,47,32]:List UInt8)<=9223372036854775807)<|.g (inR v.2 (length k.2))<|.c _ (wsz (getD k.2 (toNat v.2) [])) λa=>.g (length (v.1++([32,47,32]:List UInt8))+length a<=9223372036854775807)<|.l (.inl (((v.1++([32,47,32]:List UInt8))++a),(wrap .i64 (v.2+1))))) (.l (.inr v.1))
def wmk k v:=iter (λv=>(wem k v).ev) v
abbrev yq216{a b c d:Type}(k:a×b)(v:c×d):=(((),v.1,v.2,()),(k.1,k.2,()),())
def wta:LD:=yl (wem) (yk [] [1,3,4] (yj [.box 1 0,.dat .str,.dat yi]) [Zo]) [(0,yq169)] yq15 yq216 yq140 yq8 (λ_ r=>yx 0 yq169 ((r,()),()))
def wadz(a:Y1)(f:List Y1):Tr (List UInt8):=.c _ (wsz a) λb=>.c _ (wmk (a,f) (b,0)) λe=>.l e
def wtb a b:=(wadz a b).ev
def wati:FP prog:=fnP cx func286 [wath] (yj [.agg Zb]) [] [] (yq25 wadz) yq66 yq2 noZ [(0,wta)]
def waea(b:Y1)(a:List Y1):Tr Yay:=.c _ (wbo b a) λe=>.t (!e) (.l (false,[])) (.c _ (wsp b a) λf=>.l (true,f))
def waeb a b:=(waea a b).ev
def watj:FP prog:=fnP cx func287 [wgx,wanj] (yj [.agg Zb]) [] [] (yq25 waea) ⟨[.ren 7 0,.ren 576 0],[.tmp 2,.tmp 3],Zah,[Zaa],[],[]⟩ yq74
def wen(k:Y1×Y2)(v:Int×Int):Tr (Yq⊕Int):=.t (v.2<(length k.1:Int)) (.g (inR v.2 (length k.1))<|.g (inR v.1 (length k.1))<|.t ((getD k.1 (toNat v.2) 0)<(getD k.1 (toNat v.1) 0)) (.l (.inl (v.2,(wrap .i64 (v.2+1))))) (.l (.inl (v.1,(wrap .i64 (v.2+1)))))) (.l (.inr v.1))
def wml k v:=iter (λv=>(wen k v).ev) v
def wtc:LD:=yl (wen) yq44 [(0,yq64)] yq15 yq216 yq140 yq8 (λ_ r=>yx 0 yq64 ((r,()),()))
def waec(a:Y1)(e:List Y1):Tr Int:=.c _ (wml (a,e) (0,1)) λb=>.l b
def waed a b:=(waec a b).ev
def watk:FP prog:=fnP cx func341 [] (yj [.agg Zb]) [] [] (yq25 waec) yq65 yq2 noZ [(0,wtc)]
def wca(k:Int×Yr)(v:Int×Y1):Tr (Yp⊕Y1):=.t (v.1<(length k.2.1:Int)) (.g (inR v.1 (length k.2.2.1))<|.t (getD k.2.2.1 (toNat v.1) false) (.g (inR v.1 (length k.2.1))<|.g ((length v.2+length ([(getD k.2.1 (toNat v.1) 0)]:Y1))*8<=140737488355328)<|.l (.inl ((wrap .i64 (v.1+1)),(v.2++([(getD k.2.1 (toNat v.1) 0)]:Y1))))) (.g ((length v.2+length ([k.1]:Y1))*8<=140737488355328)<|.l (.inl ((wrap .i64 (v.1+1)),(v.2++([k.1]:Y1)))))) (.l (.inr v.2))
def wmm k v:=iter (λv=>(wca k v).ev) v
abbrev yq224:Keep:=yk [] [3] (yj [.arr 6]) [(6,.arr 3 yi)]
abbrev yq226{a b c d e g h i:Type}(t:a×(b×c×d×e×g×h)×i):=(t.2.1.1,t.2.1.2.1,t.2.1.2.2.1,t.2.1.2.2.2.1,t.2.1.2.2.2.2.1)
def wtd:LD:=yl (wca) (yk [] [1,3,4] (yj [.box 1 0,.arr 6,.dat yi]) [(1,.cells Ze),(6,.arr 3 yi)]) [(0,yq224)] yq15 (λk v=>(((),(),v.1,()),(k.1,k.2.1,k.2.2.1,k.2.2.2.1,k.2.2.2.2,()),v.2,())) yq226 yq181 (λ_ r=>yx 0 yq224 (((),()),r,()))
def waee(g:Int)(b:Y1)(h:List Bool)(a f:Y1):Tr Y1:=.c _ (wmm (g,b,h,a,f) (0,[])) λe=>.l e
def wmn e b f a c:=(waee e b f a c).ev
def wann:FP prog:=fnP cx func392 [] (yj [.agg Ze]) [] [] (yq82 waee) ⟨[.ren 6 0],[.tmp 2],Zan,[Zaa],[],[]⟩ yq20 noZ [(0,wtd)]
def waef(_f:Int)(_h:Y1)(_e:List Bool)(_i a:Y1)(b c:Int):Tr Bool:=.g (inR b (length a))<|.g (inR c (length a))<|.t ((getD a (toNat b) 0)<(getD a (toNat c) 0)) (.l true) (.g (inR b (length a))<|.g (inR c (length a))<|.t ((getD a (toNat b) 0)==(getD a (toNat c) 0)) (.l (b<c)) (.l false))
def wte g c f a h b e:=(waef g c f a h b e).ev
def wano:FP prog:=fnP cx func378 [] (yj [.agg Ze,.dat yi,.dat yi]) [] [] ((λf x=>f x.1.1.1 x.1.1.2.1 x.1.1.2.2.1 x.1.1.2.2.2.1 x.1.1.2.2.2.2.1 x.1.2.1 x.1.2.2.1) waef) yq36 yq2
def wbd(k:Int×Y1×(List Bool)×Y1×Y1×Y2×Int×Yp)(v:Int×Y1):Tr (Yp⊕Y1):=.t (v.1<(length k.2.2.2.2.1:Int)) (.g (inR v.1 (length v.2))<|.g ((toNat v.1)<length v.2)<|.t ((getD v.2 (toNat v.1) 0)<(0:Int)) (.c _ (wig k.2.2.2.2.1 k.2.2.2.2.2.1 k.2.2.2.2.2.2.2.2 v.1 2520) λa=>.g (inR v.1 (length k.2.2.2.2.1))<|.t (a==(wrap .i64 ((2520:Int)*(getD k.2.2.2.2.1 (toNat v.1) 0)))) (.g (inR v.1 (length v.2))<|.g ((toNat v.1)<length v.2)<|.l (.inl ((wrap .i64 (v.1+1)),(set v.2 (toNat v.1) k.2.2.2.2.2.2.1)))) (.l (.inl ((wrap .i64 (v.1+1)),v.2)))) (.l (.inl ((wrap .i64 (v.1+1)),v.2)))) (.l (.inr v.2))
def wmo k v:=iter (λv=>(wbd k v).ev) v
abbrev yq229:Keep:=yk [] [1,2,3,4,5] (yj [.agg Zn,.box 2 0,.box 3 0,.box 4 0,.arr 704]) [Zu,(65,.arr 4 .bool),(66,.arr 3 yi),(67,.arr 3 yi),Zal,(3,.cells Zn),Zak,(704,.arr 3 yi)]
def wtf:LD:=yl (wbd) (yk [] [1,2,3,4,5,6] (yj [.agg Zn,.box 2 0,.box 3 0,.box 4 0,.arr 704,.dat yi]) [Zu,(65,.arr 4 .bool),(66,.arr 3 yi),(67,.arr 3 yi),Zal,(3,.cells Zn),Zak,(704,.arr 3 yi)]) [(0,yq229)] yq15 (λk v=>(((k.1,(),(),(),(),()),(),(),(),(),v.1,()),k.2.1,k.2.2.1,k.2.2.2.1,v.2,(k.2.2.2.2.1,k.2.2.2.2.2.1,()),(k.2.2.2.2.2.2.1,(),(),(),(),()),(k.2.2.2.2.2.2.2.1,(),(),(),(),()),k.2.2.2.2.2.2.2.2,())) (λt=>(t.1.1.1,t.2.1,t.2.2.1,t.2.2.2.1,t.2.2.2.2.2.1.1,t.2.2.2.2.2.1.2.1,t.2.2.2.2.2.2.1.1,t.2.2.2.2.2.2.2.1.1,t.2.2.2.2.2.2.2.2.1)) (λt=>(t.1.2.2.2.2.2.1,t.2.2.2.2.1)) (λk r=>yx 0 yq229 (((k.1,(),(),(),(),()),(),(),(),(),()),k.2.1,k.2.2.1,k.2.2.2.1,r,(k.2.2.2.2.1,k.2.2.2.2.2.1,()),(k.2.2.2.2.2.2.1,(),(),(),(),()),(k.2.2.2.2.2.2.2.1,(),(),(),(),()),k.2.2.2.2.2.2.2.2,()))
def wac(k:Int×Int×Y1×(List Bool)×Y1×Y1×Y1×Y2×Int×Yp)(v:Int×Int):Tr (Yq⊕Int):=.t (v.2<(length k.2.2.2.2.2.2.1:Int)) (.g (inR k.2.1 (length k.2.2.2.1))<|.g ((toNat k.2.1)<length k.2.2.2.1)<|.t (!(getD k.2.2.2.1 (toNat k.2.1) false)) (.g (inR v.2 (length k.2.2.2.2.2.1))<|.g ((toNat v.2)<length k.2.2.2.2.2.1)<|.t ((0:Int)<=(getD k.2.2.2.2.2.1 (toNat v.2) 0)) (.g (inR k.2.1 (length k.2.2.2.2.2.2.2.1))<|.g (inR v.2 (length (getD k.2.2.2.2.2.2.2.1 (toNat k.2.1) [])))<|.t ((wrap .i64 ((2520:Int)*(getD (getD k.2.2.2.2.2.2.2.1 (toNat k.2.1) []) (toNat v.2) 0)))<=k.2.2.2.2.2.2.2.2.1) (.t (v.1<0) (.l (.inl (v.2,(wrap .i64 (v.2+1))))) (.c _ (wte k.2.2.2.2.2.2.2.2.1 k.2.2.1 k.2.2.2.1 k.2.2.2.2.1 k.2.2.2.2.2.1 v.2 v.1) λa=>.t a (.l (.inl (v.2,(wrap .i64 (v.2+1))))) (.l (.inl (v.1,(wrap .i64 (v.2+1))))))) (.l (.inl (v.1,(wrap .i64 (v.2+1)))))) (.l (.inl (v.1,(wrap .i64 (v.2+1)))))) (.l (.inr v.1))) (.l (.inr v.1))
def wmp k v:=iter (λv=>(wac k v).ev) v
abbrev yq235:Keep:=yk [] [1,2,3,4,5,7,8] (yj [.agg Zn,.box 2 0,.box 3 0,.box 4 0,.arr 704,.dat yi,.dat yi]) [Zu,(65,.arr 4 .bool),(66,.arr 3 yi),(67,.arr 3 yi),Zal,(3,.cells Zn),Zak,(704,.arr 3 yi)]
def wtg:LD:=yl (wac) (yk [] [1,2,3,4,5,7,8,9] (yj [.agg Zn,.box 2 0,.box 3 0,.box 4 0,.arr 704,.dat yi,.dat yi,.dat yi]) [Zu,(65,.arr 4 .bool),(66,.arr 3 yi),(67,.arr 3 yi),Zal,(3,.cells Zn),Zak,(704,.arr 3 yi)]) [(4,yq235)] yq15 (λk v=>(((k.1,(),(),(),(),()),(),(),(),(),k.2.1,v.1,v.2,()),k.2.2.1,k.2.2.2.1,k.2.2.2.2.1,k.2.2.2.2.2.1,(k.2.2.2.2.2.2.1,k.2.2.2.2.2.2.2.1,()),(k.2.2.2.2.2.2.2.2.1,(),(),(),(),()),(k.2.2.2.2.2.2.2.2.2.1,(),(),(),(),()),k.2.2.2.2.2.2.2.2.2.2,())) (λt=>(t.1.1.1,t.1.2.2.2.2.2.1,t.2.1,t.2.2.1,t.2.2.2.1,t.2.2.2.2.1,t.2.2.2.2.2.1.1,t.2.2.2.2.2.1.2.1,t.2.2.2.2.2.2.1.1,t.2.2.2.2.2.2.2.1.1,t.2.2.2.2.2.2.2.2.1)) (λt=>(t.1.2.2.2.2.2.2.1,t.1.2.2.2.2.2.2.2.1)) (λk r=>yx 4 yq235 (((k.1,(),(),(),(),()),(),(),(),(),k.2.1,r,()),k.2.2.1,k.2.2.2.1,k.2.2.2.2.1,k.2.2.2.2.2.1,(k.2.2.2.2.2.2.1,k.2.2.2.2.2.2.2.1,()),(k.2.2.2.2.2.2.2.2.1,(),(),(),(),()),(k.2.2.2.2.2.2.2.2.2.1,(),(),(),(),()),k.2.2.2.2.2.2.2.2.2.2,()))
def wai(k:Int×Y1×Y1×Y2×Int×Yp)(v:Int×Y1×(List Bool)×Y1):Tr ((Int×Y1×(List Bool)×Y1)⊕(Y1×(List Bool)×Y1)):=.t (v.1<(length k.2.2.2.2.2.2:Int)) (.c _ (wmp (k.1,v.1,v.2.1,v.2.2.1,v.2.2.2,k.2.1,k.2.2.1,k.2.2.2.1,k.2.2.2.2.1,k.2.2.2.2.2.1,k.2.2.2.2.2.2) ((-1),0)) λa=>.t (0<=a) (.g (inR v.1 (length v.2.1))<|.g ((toNat v.1)<length v.2.1)<|.g (inR v.1 (length v.2.2.1))<|.g ((toNat v.1)<length v.2.2.1)<|.g (inR v.1 (length v.2.2.2))<|.g ((toNat v.1)<length v.2.2.2)<|.l (.inl ((wrap .i64 (v.1+1)),(set v.2.1 (toNat v.1) k.2.2.2.2.1),(set v.2.2.1 (toNat v.1) true),(set v.2.2.2 (toNat v.1) a)))) (.l (.inl ((wrap .i64 (v.1+1)),v.2.1,v.2.2.1,v.2.2.2)))) (.l (.inr (v.2.1,v.2.2.1,v.2.2.2)))
def wmq k v:=iter (λv=>(wai k v).ev) v
abbrev yq240:Keep:=yk [] [1,3,4] (yj [.agg Zn,.box 3 0,.box 4 0]) [Zu,(65,.arr 4 .bool),(66,.arr 3 yi),(67,.arr 3 yi),(3,.cells Zn),Zak]
def wth:LD:=yl (wai) (yk [] [1,2,3,4,5,7] (yj [.agg Zn,.box 2 0,.box 3 0,.box 4 0,.arr 704,.dat yi]) [Zu,(65,.arr 4 .bool),(66,.arr 3 yi),(67,.arr 3 yi),Zal,(3,.cells Zn),Zak,(704,.arr 3 yi)]) [(2,yq240)] yq15 (λk v=>(((k.1,(),(),(),(),()),(),(),(),(),v.1,()),v.2.1,v.2.2.1,v.2.2.2,k.2.1,(k.2.2.1,k.2.2.2.1,()),(k.2.2.2.2.1,(),(),(),(),()),(k.2.2.2.2.2.1,(),(),(),(),()),k.2.2.2.2.2.2,())) (λt=>(t.1.1.1,t.2.2.2.2.1,t.2.2.2.2.2.1.1,t.2.2.2.2.2.1.2.1,t.2.2.2.2.2.2.1.1,t.2.2.2.2.2.2.2.1.1,t.2.2.2.2.2.2.2.2.1)) (λt=>(t.1.2.2.2.2.2.1,t.2.1,t.2.2.1,t.2.2.2.1)) (λk r=>yx 2 yq240 (((k.1,(),(),(),(),()),(),(),()),r.1,r.2.1,r.2.2,k.2.1,(k.2.2.2.2.1,(),(),(),(),()),(k.2.2.2.2.2.1,(),(),(),(),()),()))
def waeg(n:Y1)(h:List Y1)(a:Int)(b:Y1)(f:List Bool)(e i:Y1):Tr (Int×Yr):=.c _ (wmn a b f e i) λj=>.c _ (wmo (a,b,f,e,n,h,a,0,j) (0,i)) λm=>.c _ (wmq (a,m,n,h,a,0,j) (0,b,f,e)) λg=>.l (a,g.1,g.2.1,g.2.2,m)
def wti g c f a h b e:=(waeg g c f a h b e).ev
abbrev yq246{a b c d e:Type}(r:a×b×c×d×e):=(((r.1,(),(),(),(),()),()),r.2.1,r.2.2.1,r.2.2.2.1,r.2.2.2.2,())
def watl:FP prog:=fnP cx func375 [wann,wadd,wano] (yj [.agg Zb,.agg Zn]) [Zu,(65,.arr 4 .bool),(66,.arr 3 yi),(67,.arr 3 yi)] [.comp 1 1,.comp 1 2,.comp 1 3,.comp 1 4] ((λf x=>f x.1.1.1 x.1.1.2.1 x.1.2.1.1 x.2.1 x.2.2.1 x.2.2.2.1 x.2.2.2.2.1) waeg) ⟨[.ren 64 1,.ren 65 2,.ren 66 5,.ren 67 6],[.cell 4 277],(yj [.agg (yj [.dat yi,.arr 1,.arr 2,.arr 5,.arr 6])]),[(1,.arr 3 yi),(2,.arr 4 .bool),(5,.arr 3 yi),(6,.arr 3 yi)],[],[64,65,66,67]⟩ yq246 noZ [(0,wtf),(4,wtg),(2,wth)]
def wcb(k:Int×Yr)(v:Int):Tr (Int⊕(Unit⊕Unit)):=.t (v<(length k.2.2.1:Int)) (.g (inR v (length k.2.2.1))<|.t (!(getD k.2.2.1 (toNat v) false)) (.l (.inr (.inr ()))) (.l (.inl (wrap .i64 (v+1))))) (.l (.inr (.inl ())))
def wmr k v:=iter (λv=>(wcb k v).ev) v
def wtj:LD:=yl (wcb) (yk [] [1,3] (yj [.box 1 0,.dat yi]) [(1,.cells Ze)]) [(0,yq15)] yq46 (λk v=>(((),v,()),(k.1,k.2.1,k.2.2.1,k.2.2.2.1,k.2.2.2.2,()),())) yq226 yq213 (λ_ r=>.s _ _ r (λ_=>yx 0 yq15 ((),())) (λ_=>yz yq46 ((true,()),())))
def waeh(g:Int)(b:Y1)(h:List Bool)(a e:Y1):Tr Bool:=.c _ (wmr (g,b,h,a,e) 0) λf=>.s _ _ f (λ_=>.l false) (λ_=>.l true)
def waei e b f a c:=(waeh e b f a c).ev
def watm:FP prog:=fnP cx func376 [] (yj [.agg Ze]) [] [] (yq82 waeh) yq50 yq2 noZ [(0,wtj)]
def waj(k:Int×Y1×Y2×Int×Yr)(v:Int×Int):Tr (Yq⊕Int):=.t (v.2<(length k.2.1:Int)) (.g (inR k.1 (length k.2.2.1))<|.g (inR v.2 (length (getD k.2.2.1 (toNat k.1) [])))<|.g (inR k.1 (length k.2.2.2.2.2.1))<|.t (!(getD k.2.2.2.2.2.1 (toNat k.1) false)) (.t (k.2.2.2.1<(wrap .i64 ((2520:Int)*(getD (getD k.2.2.1 (toNat k.1) []) (toNat v.2) 0)))) (.t (v.1<0) (.l (.inl ((wrap .i64 ((2520:Int)*(getD (getD k.2.2.1 (toNat k.1) []) (toNat v.2) 0))),(wrap .i64 (v.2+1))))) (.t ((wrap .i64 ((2520:Int)*(getD (getD k.2.2.1 (toNat k.1) []) (toNat v.2) 0)))<v.1) (.l (.inl ((wrap .i64 ((2520:Int)*(getD (getD k.2.2.1 (toNat k.1) []) (toNat v.2) 0))),(wrap .i64 (v.2+1))))) (.l (.inl (v.1,(wrap .i64 (v.2+1))))))) (.l (.inl (v.1,(wrap .i64 (v.2+1)))))) (.l (.inl (v.1,(wrap .i64 (v.2+1)))))) (.l (.inr v.1))
def wms k v:=iter (λv=>(waj k v).ev) v
abbrev yq250:Keep:=yk [] [2,3,5,6] (yj [.box 2 0,.box 3 0,.dat yi,.dat yi]) [Zal,(3,.cells Ze)]
abbrev yq253{a b c d e g h:Type}(t:(a×b×c×d×e×g)×h):=(t.1.2.2.1,t.1.2.2.2.2.1)
def wtk:LD:=yl (waj) (yk [] [2,3,5,6,7] (yj [.box 2 0,.box 3 0,.dat yi,.dat yi,.dat yi]) [Zal,(3,.cells Ze)]) [(2,yq250)] yq15 (λk v=>(((),(),v.1,k.1,v.2,()),(k.2.1,k.2.2.1,()),(k.2.2.2.1,k.2.2.2.2.1,k.2.2.2.2.2.1,k.2.2.2.2.2.2.1,k.2.2.2.2.2.2.2,()),())) (λt=>(t.1.2.2.2.1,t.2.1.1,t.2.1.2.1,t.2.2.1.1,t.2.2.1.2.1,t.2.2.1.2.2.1,t.2.2.1.2.2.2.1,t.2.2.1.2.2.2.2.1)) yq253 (λk r=>yx 2 yq250 (((),(),r,k.1,()),(k.2.1,k.2.2.1,()),(k.2.2.2.1,k.2.2.2.2.1,k.2.2.2.2.2.1,k.2.2.2.2.2.2.1,k.2.2.2.2.2.2.2,()),()))
def weo(k:Y1×Y2×Int×Yr)(v:Int×Int):Tr (Yq⊕Int):=.t (v.2<(length k.2.1:Int)) (.c _ (wms (v.2,k.1,k.2.1,k.2.2.1,k.2.2.2.1,k.2.2.2.2.1,k.2.2.2.2.2.1,k.2.2.2.2.2.2) (v.1,0)) λa=>.l (.inl (a,(wrap .i64 (v.2+1))))) (.l (.inr v.1))
def wmt k v:=iter (λv=>(weo k v).ev) v
def wtl:LD:=yl (weo) yq250 [(0,yq129)] yq15 (λk v=>(((),(),v.1,v.2,()),(k.1,k.2.1,()),(k.2.2.1,k.2.2.2.1,k.2.2.2.2.1,k.2.2.2.2.2.1,k.2.2.2.2.2.2,()),())) (λt=>(t.2.1.1,t.2.1.2.1,t.2.2.1.1,t.2.2.1.2.1,t.2.2.1.2.2.1,t.2.2.1.2.2.2.1,t.2.2.1.2.2.2.2.1)) yq131 (λ_ r=>yx 0 yq129 ((r,()),()))
def waej(i:Y1)(e:List Y1)(j:Int)(a:Y1)(g:List Bool)(b f:Y1):Tr Int:=.c _ (wmt (i,e,j,a,g,b,f) ((-1),0)) λh=>.l h
def waek g c f a h b e:=(waej g c f a h b e).ev
abbrev yq256{a b c d e g h i j l m:Type}{z:Type _}(f:a->b->d->e->g->h->i->z)(x:((a×b×c)×(d×e×g×h×i×j)×l)×m):z:=f x.1.1.1 x.1.1.2.1 x.1.2.1.1 x.1.2.1.2.1 x.1.2.1.2.2.1 x.1.2.1.2.2.2.1 x.1.2.1.2.2.2.2.1
def watn:FP prog:=fnP cx func393 [] (yj [.agg Zb,.agg Ze]) [] [] (yq256 waej) yq0 yq2 noZ [(2,wtk),(0,wtl)]
def wbe(k:Int×Y1×Y2×Int×Yr)(v:Int×Int):Tr (Yq⊕Int):=.t (v.2<(length k.2.2.1:Int)) (.g (inR v.2 (length k.2.2.2.2.2.1))<|.t (!(getD k.2.2.2.2.2.1 (toNat v.2) false)) (.g (inR v.2 (length k.2.2.1))<|.g (inR k.1 (length (getD k.2.2.1 (toNat v.2) [])))<|.t ((wrap .i64 ((2520:Int)*(getD (getD k.2.2.1 (toNat v.2) []) (toNat k.1) 0)))<=k.2.2.2.1) (.l (.inl ((wrap .i64 (v.1+1)),(wrap .i64 (v.2+1))))) (.l (.inl (v.1,(wrap .i64 (v.2+1)))))) (.l (.inl (v.1,(wrap .i64 (v.2+1)))))) (.l (.inr v.1))
def wmu k v:=iter (λv=>(wbe k v).ev) v
def wtm:LD:=yl (wbe) (yk [] [2,3,4,7,8] (yj [.dat yi,.box 3 0,.box 4 0,.dat yi,.dat yi]) [(3,.cells Zb),(4,.cells Ze)]) [(0,yq122)] yq15 (λk v=>((k.1,(),(),v.1,v.2,()),(k.2.1,k.2.2.1,()),(k.2.2.2.1,k.2.2.2.2.1,k.2.2.2.2.2.1,k.2.2.2.2.2.2.1,k.2.2.2.2.2.2.2,()),())) (λt=>(t.1.1,t.2.1.1,t.2.1.2.1,t.2.2.1.1,t.2.2.1.2.1,t.2.2.1.2.2.1,t.2.2.1.2.2.2.1,t.2.2.1.2.2.2.2.1)) yq125 (λ_ r=>yx 0 yq122 ((r,()),()))
def wael(j:Y1)(f:List Y1)(m:Int)(a:Y1)(h:List Bool)(b g:Y1)(i:Int):Tr Int:=.c _ (wmu (i,j,f,m,a,h,b,g) (0,0)) λe=>.l e
def waem h c f a i b e g:=(wael h c f a i b e g).ev
def wato:FP prog:=fnP cx func394 [] (yj [.agg Zb,.agg Ze,.dat yi]) [] [] ((λf x=>f x.1.1.1 x.1.1.2.1 x.1.2.1.1 x.1.2.1.2.1 x.1.2.1.2.2.1 x.1.2.1.2.2.2.1 x.1.2.1.2.2.2.2.1 x.1.2.2.1) wael) yq126 yq2 noZ [(0,wtm)]
def wak(k:Y1×Y2×Int×Y1×(List Bool)×Yba)(v:Int×Int):Tr (Yq⊕Int):=.t (v.2<(length k.1:Int)) (.c _ (waem k.1 k.2.1 k.2.2.1 k.2.2.2.1 k.2.2.2.2.1 k.2.2.2.2.2.1 k.2.2.2.2.2.2.1 v.2) λa=>.g (inR v.2 (length k.1))<|.c _ (wig k.1 k.2.1 k.2.2.2.2.2.2.2 v.2 2520) λb=>.g (inR v.2 (length k.2.2.2.2.2.2.1))<|.t ((getD k.2.2.2.2.2.2.1 (toNat v.2) 0)<(0:Int)) (.t (0<a) (.t (v.1<0) (.g (!decide (a=0))<|.l (.inl ((wrap .i64 (k.2.2.1+(wrap .i64 (Int.tdiv (wrap .i64 ((wrap .i64 ((2520:Int)*(getD k.1 (toNat v.2) 0))) -b)) a)))),(wrap .i64 (v.2+1))))) (.t ((wrap .i64 ((wrap .i64 ((2520:Int)*(getD k.1 (toNat v.2) 0))) -b))<(wrap .i64 (a*(wrap .i64 (v.1-k.2.2.1))))) (.g (!decide (a=0))<|.l (.inl ((wrap .i64 (k.2.2.1+(wrap .i64 (Int.tdiv (wrap .i64 ((wrap .i64 ((2520:Int)*(getD k.1 (toNat v.2) 0))) -b)) a)))),(wrap .i64 (v.2+1))))) (.l (.inl (v.1,(wrap .i64 (v.2+1))))))) (.l (.inl (v.1,(wrap .i64 (v.2+1)))))) (.l (.inl (v.1,(wrap .i64 (v.2+1)))))) (.l (.inr v.1))
def wmv k v:=iter (λv=>(wak k v).ev) v
def wtn:LD:=yl (wak) (yk [] [2,3,5,6,7] (yj [.box 2 0,.box 3 0,.dat yi,.arr 896,.dat yi]) [Zal,(3,.cells Ze),(896,.arr 3 yi)]) [(0,yq129)] yq15 (λk v=>(((),(),v.1,(),v.2,()),(k.1,k.2.1,()),(k.2.2.1,k.2.2.2.1,k.2.2.2.2.1,k.2.2.2.2.2.1,k.2.2.2.2.2.2.1,()),k.2.2.2.2.2.2.2,())) (λt=>(t.2.1.1,t.2.1.2.1,t.2.2.1.1,t.2.2.1.2.1,t.2.2.1.2.2.1,t.2.2.1.2.2.2.1,t.2.2.1.2.2.2.2.1,t.2.2.2.1)) yq253 (λ_ r=>yx 0 yq129 ((r,()),()))
def waen(i:Y1)(h:List Y1)(g:Int)(a:Y1)(f:List Bool)(b e:Y1):Tr Int:=.c _ (waek i h g a f b e) λn=>.c _ (wmn g a f b e) λm=>.c _ (wmv (i,h,g,a,f,b,e,m) (n,0)) λj=>.l j
def waeo g c f a h b e:=(waen g c f a h b e).ev
def watp:FP prog:=fnP cx func377 [watn,wann,wato,wadd] (yj [.agg Zb,.agg Ze]) [] [] (yq256 waen) yq0 yq2 noZ [(0,wtn)]
def wep(k:Y1×Y2×Int×Int×Y1×Y1×Y1×Y1×(List Bool)×Y1)(v:Int×Y1):Tr (Yp⊕Y1):=.t (v.1<(length k.1:Int)) (.g ((length v.2+length ([(-1)]:Y1))*8<=140737488355328)<|.l (.inl ((wrap .i64 (v.1+1)),(v.2++([(-1)]:Y1))))) (.l (.inr v.2))
def wmw k v:=iter (λv=>(wep k v).ev) v
abbrev yq219:Keep:=yk [] [1,2,3] (yj [.box 1 0,.box 2 0,.box 3 0]) [Zo,Zax,(3,.cells (yj [.dat yi,.arr 8,.arr 12,.arr 16,.arr 900334])),(900321,.arr 3 yi),(900323,.arr 3 yi),(900324,.arr 3 yi),(8,.arr 3 yi),(12,.arr 4 .bool),(16,.arr 3 yi),(900334,.arr 3 yi)]
def wto:LD:=yl (wep) (yk [.ownB 2 1 900321 3 yi,.ownB 2 3 900323 3 yi,.ownB 2 4 900324 3 yi,.ownB 3 4 900334 3 yi] [1,2,3,4] (yj [.box 1 0,.box 2 0,.box 3 0,.dat yi]) [Zo,Zax,(3,.cells (yj [.dat yi,.arr 8,.arr 12,.arr 16,.arr 900334])),(900321,.arr 3 yi),(900323,.arr 3 yi),(900324,.arr 3 yi),(8,.arr 3 yi),(12,.arr 4 .bool),(16,.arr 3 yi),(900334,.arr 3 yi)]) [(0,yq219)] yq15 (λk v=>(((),(),(),v.1,()),(k.1,k.2.1,()),(k.2.2.1,(),(),(),(),()),(k.2.2.2.1,(),(),(),(),()),k.2.2.2.2.1,k.2.2.2.2.2.1,k.2.2.2.2.2.2.1,k.2.2.2.2.2.2.2.1,k.2.2.2.2.2.2.2.2.1,k.2.2.2.2.2.2.2.2.2,v.2,())) (λt=>(t.2.1.1,t.2.1.2.1,t.2.2.1.1,t.2.2.2.1.1,t.2.2.2.2.1,t.2.2.2.2.2.1,t.2.2.2.2.2.2.1,t.2.2.2.2.2.2.2.1,t.2.2.2.2.2.2.2.2.1,t.2.2.2.2.2.2.2.2.2.1)) (λt=>(t.1.2.2.2.1,t.2.2.2.2.2.2.2.2.2.2.1)) (λk r=>yx 0 yq219 (((),(),(),()),(k.1,k.2.1,()),(k.2.2.1,(),(),(),(),()),(k.2.2.2.1,(),(),(),(),()),k.2.2.2.2.1,k.2.2.2.2.2.1,k.2.2.2.2.2.2.1,k.2.2.2.2.2.2.2.1,k.2.2.2.2.2.2.2.2.1,k.2.2.2.2.2.2.2.2.2,r,()))
def wcc(k:Y1×Y2×Int×Yba)(v:Int×Yr):Tr ((Int×Yr)⊕(Int×Yr)):=.c _ (waei v.1 v.2.1 v.2.2.1 v.2.2.2.1 v.2.2.2.2) λe=>.t e (.c _ (waeo k.1 k.2.1 v.1 v.2.1 v.2.2.1 v.2.2.2.1 v.2.2.2.2) λb=>.c _ (wti k.1 k.2.1 b v.2.1 v.2.2.1 v.2.2.2.1 v.2.2.2.2) λa=>.l (.inl (a.1,a.2.1,a.2.2.1,a.2.2.2.1,a.2.2.2.2))) (.l (.inr (v.1,v.2.1,v.2.2.1,v.2.2.2.1,v.2.2.2.2)))
def wha k v:=iter (λv=>(wcc k v).ev) v
abbrev yq265:Keep:=yk [] [2,3] (yj [.box 2 0,.box 3 0]) [Zax,(3,.cells (yj [.dat yi,.arr 902631,.arr 902632,.arr 902633,.arr 902634])),(900321,.arr 3 yi),(900323,.arr 3 yi),(900324,.arr 3 yi),(902631,.arr 3 yi),(902632,.arr 4 .bool),(902633,.arr 3 yi),(902634,.arr 3 yi)]
def wtp:LD:=yl (wcc) (yk [.repB 3 1 902631,.repB 3 2 902632,.repB 3 3 902633,.repB 3 4 902634] [1,2,3] (yj [.box 1 0,.box 2 0,.box 3 0]) [Zo,Zax,(3,.cells (yj [.dat yi,.arr 902631,.arr 902632,.arr 902633,.arr 902634])),(900321,.arr 3 yi),(900323,.arr 3 yi),(900324,.arr 3 yi),(902631,.arr 3 yi),(902632,.arr 4 .bool),(902633,.arr 3 yi),(902634,.arr 3 yi)]) [(2,yq265)] yq15 (λk v=>(((),(),(),()),(k.1,k.2.1,()),(k.2.2.1,(),(),(),(),()),(v.1,(),(),(),(),()),k.2.2.2.1,k.2.2.2.2.1,k.2.2.2.2.2,v.2.1,v.2.2.1,v.2.2.2.1,v.2.2.2.2,())) (λt=>(t.2.1.1,t.2.1.2.1,t.2.2.1.1,t.2.2.2.2.1,t.2.2.2.2.2.1,t.2.2.2.2.2.2.1)) (λt=>(t.2.2.2.1.1,t.2.2.2.2.2.2.2.1,t.2.2.2.2.2.2.2.2.1,t.2.2.2.2.2.2.2.2.2.1,t.2.2.2.2.2.2.2.2.2.2.1)) (λk r=>yx 2 yq265 (((),(),()),(k.2.2.1,(),(),(),(),()),(r.1,(),(),(),(),()),k.2.2.2.1,k.2.2.2.2.1,k.2.2.2.2.2,r.2.1,r.2.2.1,r.2.2.2.1,r.2.2.2.2,()))
def waep(f:Y1)(a:List Y1):Tr (Int×Yr):=.g (((0:Int)<=(length a:Int))&&((length a:Int)<=(length a:Int))&&(((8:Nat):Int)*(length a:Int)<=281474976710656))<|.g (((0:Int)<=(length a:Int))&&((length a:Int)<=(length a:Int))&&(((1:Nat):Int)*(length a:Int)<=281474976710656))<|.g (((0:Int)<=(length a:Int))&&((length a:Int)<=(length a:Int))&&(((8:Nat):Int)*(length a:Int)<=281474976710656))<|.c _ (wmw (f,a,0,0,[],[],[],(List.replicate (toNat (length a:Int)) 0),(List.replicate (toNat (length a:Int)) false),(List.replicate (toNat (length a:Int)) 0)) (0,[])) λh=>.c _ (wti f a 0 (List.replicate (toNat (length a:Int)) 0) (List.replicate (toNat (length a:Int)) false) (List.replicate (toNat (length a:Int)) 0) h) λb=>.c _ (wha (f,a,0,[],[],[]) (b.1,b.2.1,b.2.2.1,b.2.2.2.1,b.2.2.2.2)) λe=>.l (e.1,e.2.1,e.2.2.1,e.2.2.2.1,e.2.2.2.2)
def waeq a b:=(waep a b).ev
def watt:FP prog:=fnP cx func342 [watl,watm,watp] (yj [.agg Zb]) [] [] (yq25 waep) ⟨[.ren 902631 1,.ren 902632 4,.ren 902633 5,.ren 902634 6],[.cell 2 277],(yj [.agg (yj [.dat yi,.arr 1,.arr 4,.arr 5,.arr 6])]),[(1,.arr 3 yi),(4,.arr 4 .bool),(5,.arr 3 yi),(6,.arr 3 yi)],[],[]⟩ yq246 noZ [(0,wto),(2,wtp)]
def wcd(k:Y1×Int×Int×Yr)(v:Int):Tr (Int⊕Int):=.t (v<(length k.1:Int)) (.g (inR v (length k.1))<|.c _ (wte k.2.2.1 k.2.2.2.1 k.2.2.2.2.1 k.2.2.2.2.2.1 k.2.2.2.2.2.2 k.2.1 (getD k.1 (toNat v) 0)) λa=>.t (!a) (.l (.inl (wrap .i64 (v+1)))) (.l (.inr v))) (.l (.inr v))
def wii k v:=iter (λv=>(wcd k v).ev) v
abbrev yq273:Keep:=yk [] [1,3,4,5] (yj [.box 1 0,.dat y1,.dat yi,.dat yi]) [(1,.cells Ze)]
def wtq:LD:=yl (wcd) yq273 [(2,yq273)] yq15 (λk v=>(((),k.1,k.2.1,v,()),(k.2.2.1,k.2.2.2.1,k.2.2.2.2.1,k.2.2.2.2.2.1,k.2.2.2.2.2.2,()),())) (λt=>(t.1.2.1,t.1.2.2.1,t.2.1.1,t.2.1.2.1,t.2.1.2.2.1,t.2.1.2.2.2.1,t.2.1.2.2.2.2.1)) yq43 (λk r=>yx 2 yq273 (((),k.1,k.2.1,r,()),(k.2.2.1,k.2.2.2.1,k.2.2.2.2.1,k.2.2.2.2.2.1,k.2.2.2.2.2.2,()),()))
def wce(k:Int×Yr)(v:Y1×Int):Tr ((Y1×Int)⊕Y1):=.t (v.2<(length k.2.2.2.2:Int)) (.g (inR v.2 (length k.2.2.2.2))<|.t ((getD k.2.2.2.2 (toNat v.2) 0)<(0:Int)) (.l (.inl (v.1,(wrap .i64 (v.2+1))))) (.c _ (wii (v.1,v.2,k.1,k.2.1,k.2.2.1,k.2.2.2.1,k.2.2.2.2) 0) λa=>.g ((0<=a)&&(a<=(length v.1:Int)))<|.c _ (wdg (List.drop 0 (List.take (toNat a) v.1))) λb=>.g ((length b+length ([v.2]:Y1))*8<=140737488355328)<|.g ((0<=a)&&(a<=(length v.1:Int)))<|.g ((length (b++([v.2]:Y1))+length (List.drop (toNat a) (List.take (length v.1) v.1)))*8<=140737488355328)<|.l (.inl (((b++([v.2]:Y1))++(List.drop (toNat a) (List.take (length v.1) v.1))),(wrap .i64 (v.2+1)))))) (.l (.inr v.1))
def wmx k v:=iter (λv=>(wce k v).ev) v
abbrev yq277:Keep:=yh [3] Zbd
def wtr:LD:=yl (wce) (yk [.fz 6,.fz 2496] [1,3,4] (yj [.box 1 0,.dat y1,.dat yi]) [(1,.cells Ze)]) [(0,yq277)] yq15 (λk v=>(((),v.1,v.2,()),(k.1,k.2.1,k.2.2.1,k.2.2.2.1,k.2.2.2.2,()),())) yq226 yq8 (λ_ r=>yx 0 yq277 ((r,()),()))
def waer(g:Int)(b:Y1)(h:List Bool)(a f:Y1):Tr Y1:=.c _ (wmx (g,b,h,a,f) ([],0)) λe=>.l e
def waes e b f a c:=(waer e b f a c).ev
def watu:FP prog:=fnP cx func343 [wano,wjq] (yj [.agg Ze]) [] [] (yq82 waer) yq164 yq2 (zOf [(9,[(0,[3])])]) [(2,wtq),(0,wtr)]
def wbf(k:Int×Int×Y1×Y2×Int×Yr)(v:Int):Tr (Int⊕(Unit⊕Bool)):=.t (v<(length k.2.2.2.1:Int)) (.g (inR v (length k.2.2.2.2.2.1))<|.g (inR v (length k.2.2.2.1))<|.g (inR k.1 (length (getD k.2.2.2.1 (toNat v) [])))<|.t ((wrap .i64 ((2520:Int)*(getD (getD k.2.2.2.1 (toNat v) []) (toNat k.1) 0)))<(getD k.2.2.2.2.2.1 (toNat v) 0)) (.g (inR v (length k.2.2.2.2.2.1))<|.g (inR v (length k.2.2.2.1))<|.g (inR k.2.1 (length (getD k.2.2.2.1 (toNat v) [])))<|.t ((wrap .i64 ((2520:Int)*(getD (getD k.2.2.2.1 (toNat v) []) (toNat k.2.1) 0)))<(getD k.2.2.2.2.2.1 (toNat v) 0)) (.g (inR k.1 (length k.2.2.2.2.2.2.2.2))<|.t ((0:Int)<=(getD k.2.2.2.2.2.2.2.2 (toNat k.1) 0)) (.g (inR k.2.1 (length k.2.2.2.2.2.2.2.2))<|.l (.inr (.inr ((0:Int)<=(getD k.2.2.2.2.2.2.2.2 (toNat k.2.1) 0))))) (.l (.inr (.inr false)))) (.l (.inl (wrap .i64 (v+1))))) (.l (.inl (wrap .i64 (v+1))))) (.l (.inr (.inl ())))
def wmy k v:=iter (λv=>(wbf k v).ev) v
abbrev yq280:Keep:=yh [8] (yj [.dat .bool])
def wts:LD:=yl (wbf) (yk [] [2,3,4,5,9] (yj [.dat yi,.dat yi,.box 4 0,.box 5 0,.dat yi]) [(4,.cells Zb),(5,.cells Ze)]) [(0,yq15)] yq280 (λk v=>((k.1,k.2.1,(),(),v,()),(k.2.2.1,k.2.2.2.1,()),(k.2.2.2.2.1,k.2.2.2.2.2.1,k.2.2.2.2.2.2.1,k.2.2.2.2.2.2.2.1,k.2.2.2.2.2.2.2.2,()),())) (λt=>(t.1.1,t.1.2.1,t.2.1.1,t.2.1.2.1,t.2.2.1.1,t.2.2.1.2.1,t.2.2.1.2.2.1,t.2.2.1.2.2.2.1,t.2.2.1.2.2.2.2.1)) yq149 (λ_ r=>.s _ _ r (λ_=>yx 0 yq15 ((),())) (λb=>yz yq280 ((b,()),())))
def waet(n:Y1)(g:List Y1)(o:Int)(a:Y1)(i:List Bool)(e h:Y1)(j m:Int):Tr Bool:=.c _ (wmy (j,m,n,g,o,a,i,e,h) 0) λf=>.s _ _ f (λ_=>.l false) (λb=>.l b)
def waeu i c f a j b e g h:=(waet i c f a j b e g h).ev
abbrev yq283:RetK:=yr [.tmp 8] (yj [.dat .bool])
def watv:FP prog:=fnP cx func344 [] (yj [.agg Zb,.agg Ze,.dat yi,.dat yi]) [] [] ((λf x=>f x.1.1.1 x.1.1.2.1 x.1.2.1.1 x.1.2.1.2.1 x.1.2.1.2.2.1 x.1.2.1.2.2.2.1 x.1.2.1.2.2.2.2.1 x.1.2.2.1 x.1.2.2.2.1) waet) yq283 yq2 noZ [(0,wts)]
def wcf(k:Y1×Y1×Int×Y1×Y2×Int×Yr)(v:Bool×Int):Tr ((Bool×Int)⊕Bool):=.t (v.2<(length k.2.1:Int)) (.t v.1 (.g (inR k.2.2.1 (length k.1))<|.g (inR v.2 (length k.2.1))<|.c _ (waeu k.2.2.2.1 k.2.2.2.2.1 k.2.2.2.2.2.1 k.2.2.2.2.2.2.1 k.2.2.2.2.2.2.2.1 k.2.2.2.2.2.2.2.2.1 k.2.2.2.2.2.2.2.2.2 (getD k.1 (toNat k.2.2.1) 0) (getD k.2.1 (toNat v.2) 0)) λa=>.l (.inl ((!a),(wrap .i64 (v.2+1))))) (.l (.inl (false,(wrap .i64 (v.2+1)))))) (.l (.inr v.1))
def wmz k v:=iter (λv=>(wcf k v).ev) v
abbrev yq291:Keep:=yk [] [1,4,5,6,7,8] (yj [.box 1 0,.box 4 0,.dat y1,.dat y1,.dat yi,.dat .bool]) [Zo,(4,.cells Ze)]
def wtu:LD:=yl (wcf) (yk [] [1,4,5,6,7,8,9] (yj [.box 1 0,.box 4 0,.dat y1,.dat y1,.dat yi,.dat .bool,.dat yi]) [Zo,(4,.cells Ze)]) [(2,yq291)] yq15 (λk v=>(((),(),k.1,k.2.1,k.2.2.1,v.1,v.2,()),(k.2.2.2.1,k.2.2.2.2.1,()),(k.2.2.2.2.2.1,k.2.2.2.2.2.2.1,k.2.2.2.2.2.2.2.1,k.2.2.2.2.2.2.2.2.1,k.2.2.2.2.2.2.2.2.2,()),())) (λt=>(t.1.2.2.1,t.1.2.2.2.1,t.1.2.2.2.2.1,t.2.1.1,t.2.1.2.1,t.2.2.1.1,t.2.2.1.2.1,t.2.2.1.2.2.1,t.2.2.1.2.2.2.1,t.2.2.1.2.2.2.2.1)) (λt=>(t.1.2.2.2.2.2.1,t.1.2.2.2.2.2.2.1)) (λk r=>yx 2 yq291 (((),(),k.1,k.2.1,k.2.2.1,r,()),(k.2.2.2.1,k.2.2.2.2.1,()),(k.2.2.2.2.2.1,k.2.2.2.2.2.2.1,k.2.2.2.2.2.2.2.1,k.2.2.2.2.2.2.2.2.1,k.2.2.2.2.2.2.2.2.2,()),()))
def wcg(k:Y1×Y1×Y2×Int×Yr)(v:Y1×Int):Tr ((Y1×Int)⊕Y1):=.t (v.2<(length k.1:Int)) (.c _ (wmz (k.1,v.1,v.2,k.2.1,k.2.2.1,k.2.2.2.1,k.2.2.2.2.1,k.2.2.2.2.2.1,k.2.2.2.2.2.2.1,k.2.2.2.2.2.2.2) (true,0)) λb=>.t b (.g (inR v.2 (length k.1))<|.c _ (whf v.1 (getD k.1 (toNat v.2) 0)) λa=>.l (.inl (a,(wrap .i64 (v.2+1))))) (.l (.inl (v.1,(wrap .i64 (v.2+1)))))) (.l (.inr v.1))
def wna k v:=iter (λv=>(wcg k v).ev) v
abbrev yq295:Keep:=yh [6] Zbd
def wtv:LD:=yl (wcg) (yk [.fz 25,.fz 3776] [1,4,5,6,7] (yj [.box 1 0,.box 4 0,.dat y1,.dat y1,.dat yi]) [Zo,(4,.cells Ze)]) [(0,yq295)] yq15 (λk v=>(((),(),k.1,v.1,v.2,()),(k.2.1,k.2.2.1,()),(k.2.2.2.1,k.2.2.2.2.1,k.2.2.2.2.2.1,k.2.2.2.2.2.2.1,k.2.2.2.2.2.2.2,()),())) (λt=>(t.1.2.2.1,t.2.1.1,t.2.1.2.1,t.2.2.1.1,t.2.2.1.2.1,t.2.2.1.2.2.1,t.2.2.1.2.2.2.1,t.2.2.1.2.2.2.2.1)) yq125 (λ_ r=>yx 0 yq295 ((r,()),()))
def wtw(e:Y1)(b:List Y1):Tr (Y1×Bool):=.c _ (wbo e b) λi=>.t (!i) (.l ([],false)) (.t ((length b:Int)==(0:Int)) (.c _ (waed e b) λg=>.l (([g]:Y1),true)) (.c _ (waeq e b) λa=>.c _ (waes a.1 a.2.1 a.2.2.1 a.2.2.2.1 a.2.2.2.2) λh=>.c _ (wna (h,e,b,a.1,a.2.1,a.2.2.1,a.2.2.2.1,a.2.2.2.2) ([],0)) λf=>.l (f,true)))
def wjt a b:=(wtw a b).ev
def watw:FP prog:=fnP cx func288 [wgx,watk,watt,watu,watv,wabs] (yj [.agg Zb]) [] [] (yq25 wtw) ⟨[.fz 13,.fz 20],[.tmp 2,.tmp 3],(yj [.dat y1,.dat .bool]),[],[],[]⟩ yq173 (zOf [(6,[(1,[23])])]) [(2,wtu),(0,wtv)]
end
end Go.Proofs.YteiekijgoifhoaaGreatDoor
