/- A part of the proof that FnExactReplayLog hands back true, at every argument of the row. -/
import Derived.Test.YtidaiohhaanphaaGreatDoorC3
namespace Go.Proofs.YtidaiohhaanphaaGreatDoor
noncomputable section
open Go.Proofs.Tryz
open List (length getD set)
open Int (toNat)
open IntKind (wrap)
def wbyq(a:Y1)(e:List Y1)(b:Y1):Tr (Bool×Bool):=.c _ (wbcs a e b) λf=>.t (!f) (.l (false,false)) (.c _ (wbfy a e b) λg=>.l ((!g.1),true))
def wbyr a b c:=(wbyq a b c).ev
abbrev yq298:RetK:=yr [.tmp 4,.tmp 5] (yj [.dat .bool,.dat .bool])
def wclk:FP prog:=fnP cx func126 [wbfs,wcft] (yj [.agg Zh,.dat y1]) [] [] (yq9 wbyq) yq298 yq172
def wazu(k:Int×Yax)(v:Int×Int):Tr (Yah⊕Int):=.t (v.2<(length k.2.2.2:Int)) (.g (inR v.2 (length k.2.2.2))<|.g (inR k.1 (length (getD k.2.2.2 (toNat v.2) [])))<|.g (inR v.2 (length k.2.2.2))<|.g (inR k.2.1 (length (getD k.2.2.2 (toNat v.2) [])))<|.t ((getD (getD k.2.2.2 (toNat v.2) []) (toNat k.1) 0)<(getD (getD k.2.2.2 (toNat v.2) []) (toNat k.2.1) 0)) (.l (.inl ((wrap .i64 (v.1+1)),(wrap .i64 (v.2+1))))) (.l (.inl (v.1,(wrap .i64 (v.2+1)))))) (.l (.inr v.1))
def wbhk k v:=iter (λv=>(wazu k v).ev) v
def wbnx:LD:=yl (wazu) (yk [] [1,2,3,7,8] (yj [.dat yi,.dat yi,.box 3 0,.dat yi,.dat yi]) [(3,.cells Zh)]) [(0,yq121)] yq14 yq122 yq123 yq124 (λ_ r=>yx 0 yq121 ((r,()),()))
def wbys(a:Y1)(g:List Y1)(e f:Int):Tr Int:=.c _ (wbhk (e,f,a,g) (0,0)) λb=>.l b
def wbny a c e b:=(wbys a c e b).ev
def wcll:FP prog:=fnP cx func198 [] (yj [.agg Zh,.dat yi,.dat yi]) [] [] (yq126 wbys) yq125 yq2 noZ [(0,wbnx)]
def wazv(k:Int×Ybm)(v:Bool×Int):Tr ((Bool×Int)⊕Bool):=.t (v.2<(length k.2.1:Int)) (.t v.1 (.l (.inl (true,(wrap .i64 (v.2+1))))) (.c _ (wbny k.2.1 k.2.2.1 v.2 k.1) λb=>.c _ (wbny k.2.1 k.2.2.1 k.1 v.2) λa=>.l (.inl ((a<b),(wrap .i64 (v.2+1)))))) (.l (.inr v.1))
def wbhl k v:=iter (λv=>(wazv k v).ev) v
abbrev yq301:Keep:=yk [] [1,4,5,6] (yj [.box 1 0,.arr 8,.dat yi,.dat .bool]) [Zag,(8,.arr 3 yi)]
def wbnz:LD:=yl (wazv) (yk [] [1,4,5,6,7] (yj [.box 1 0,.arr 8,.dat yi,.dat .bool,.dat yi]) [Zag,(8,.arr 3 yi)]) [(2,yq301)] yq14 yq175 yq176 yq124 (λk r=>yx 2 yq301 (((),(),k.1,r,()),(k.2.1,k.2.2.1,()),k.2.2.2,()))
def wazw(k:Y1×Y2)(v:Int×Y1):Tr (Yap⊕Y1):=.t (v.1<(length k.1:Int)) (.c _ (wbhl (v.1,k.1,k.2,v.2) (false,0)) λa=>.t (!a) (.g ((length v.2+length ([v.1]:Y1))*8<=140737488355328)<|.l (.inl ((wrap .i64 (v.1+1)),(v.2++([v.1]:Y1))))) (.l (.inl ((wrap .i64 (v.1+1)),v.2)))) (.l (.inr v.2))
def wbhm k v:=iter (λv=>(wazw k v).ev) v
abbrev yq303:Keep:=yk [] [4] (yj [.arr 8]) [(8,.arr 3 yi)]
def wboa:LD:=yl (wazw) (yk [] [1,4,5] (yj [.box 1 0,.arr 8,.dat yi]) [Zag,(8,.arr 3 yi)]) [(0,yq303)] yq14 yq179 yq139 yq180 (λ_ r=>yx 0 yq303 (((),()),r,()))
def wbyt(a:Y1)(b:List Y1):Tr Ybk:=.c _ (wavv a b) λe=>.t (!e) (.l (false,[])) (.c _ (wbhm (a,b) (0,[])) λf=>.l (true,f))
def wbyu a b:=(wbyt a b).ev
def wclm:FP prog:=fnP cx func127 [wbbs,wcll] (yj [.agg Zh]) [] [] (yq24 wbyt) ⟨[.ren 8 0],[.tmp 2,.tmp 3],Zbc,[Zaw],[],[]⟩ yq79 noZ [(2,wbnz),(0,wboa)]
def wbyv(b:Y1)(a:List Y1)(f:Y1)(m:Int)(e:List UInt8):Tr (List UInt8):=.t (e==([116,111,116,97,108]:List UInt8)) (.c _ (wbmi b a f m) λg=>.c _ (wbcu g.1 g.2) λac=>.l ac) (.t (e==([103,97,112]:List UInt8)) (.c _ (wbxf b a f m) λr=>.c _ (wbcu r.1 r.2) λz=>.l z) (.t (e==([115,101,114,118,105,99,101]:List UInt8)) (.c _ (wbxh b a f) λn=>.c _ (wbcu n.1 n.2) λae=>.l ae) (.t (e==([114,101,97,99,104]:List UInt8)) (.c _ (wbxk b a f) λj=>.c _ (wbcu j.1 j.2) λu=>.l u) (.t (e==([115,101,114,118,101,100]:List UInt8)) (.c _ (wbxm b a f) λo=>.c _ (wazo o.2 o.1) λw=>.l w) (.t (e==([109,101,116,114,105,99]:List UInt8)) (.c _ (wbxr b a) λi=>.c _ (wbxs i.1 i.2) λaa=>.l aa) (.t (e==([102,105,101,108,100]:List UInt8)) (.c _ (wbnc b a) λaf=>.l af) (.t (e==([112,114,105,99,101,115]:List UInt8)) (.c _ (wbxw b a) λq=>.c _ (wazo q.2 q.1) λab=>.l ab) (.t (e==([103,114,111,119,116,104]:List UInt8)) (.c _ (wbek b a) λp=>.c _ (wazo p.1 p.2) λy=>.l y) (.t (e==([108,111,99,97,108]:List UInt8)) (.c _ (wbyr b a f) λh=>.c _ (wbxs h.1 h.2) λag=>.l ag) (.t (e==([117,110,98,101,97,116,101,110]:List UInt8)) (.c _ (wbyu b a) λs=>.c _ (wazo s.2 s.1) λad=>.l ad) (.l ([63]:List UInt8))))))))))))
def wbob a f b e c:=(wbyv a f b e c).ev
def wcln:FP prog:=fnP cx func75 [wcfz,wckm,wckq,wckr,wcks,wckt,wcgd,wckv,wckw,wcky,wckz,wclj,wclk,wclm] (yj [.agg Zl,.dat .str]) [] [] (yq10 wbyv) yq72 yq2
def wbyw(a:Y1)(i:List Y1)(e:Y1)(g:Int)(j:List UInt8):Tr (Y1×Y2×Y1×Int×(List UInt8)):=.t (j==([105,109,112,114,111,118,101]:List UInt8)) (.c _ (waic a i e g 10 0 0 0 []) λb=>.l (b.1,b.2.1,b.2.2.1,b.2.2.2.1,b.2.2.2.2)) (.t (j==([98,101,115,116]:List UInt8)) (.c _ (waic a i e g 11 0 0 0 []) λf=>.l (f.1,f.2.1,f.2.2.1,f.2.2.2.1,f.2.2.2.2)) (.t (j==([99,108,105,101,110,116]:List UInt8)) (.c _ (waic a i e g 7 0 0 0 []) λh=>.l (h.1,h.2.1,h.2.2.1,h.2.2.2.1,h.2.2.2.2)) (.c _ (wbob a i e g j) λm=>.l (a,i,e,g,m))))
def wbcz a f b e c:=(wbyw a f b e c).ev
abbrev yq305:RetK:=yr [.cell 4 36,.tmp 5] (yj [.agg Zl,.dat .str])
def wclo:FP prog:=fnP cx func51 [wbmh,wcln] (yj [.agg Zl,.dat .str]) [] [] (yq10 wbyw) yq305 yq170
def wava(k:(List UInt8)×(List UInt8))(v:Int×Int):Tr (Yah⊕(Int⊕Unit)):=.t (v.2<(length k.2:Int)) (.g (inR v.2 (length k.2))<|.t (((UInt8.toNat (getD k.2 (toNat v.2) 0):Nat):Int)<(48:Int)) (.l (.inr (.inr ()))) (.g (inR v.2 (length k.2))<|.t ((57:Int)<((UInt8.toNat (getD k.2 (toNat v.2) 0):Nat):Int)) (.l (.inr (.inr ()))) (.g (inR v.2 (length k.2))<|.l (.inl ((wrap .i64 ((wrap .i64 ((10:Int)*v.1))+(wrap .i64 (wrap .u8 (((UInt8.toNat (getD k.2 (toNat v.2) 0):Nat):Int) -48))))),(wrap .i64 (v.2+1))))))) (.l (.inr (.inl v.1)))
def waxq k v:=iter (λv=>(wava k v).ev) v
abbrev yq307:Keep:=yh [0,4,5] Zau
abbrev yq308:Keep:=yh [2,3] (yj [.dat yi,.dat .bool])
def wboc:LD:=yl (wava) (yh [0,4,5,6] (yj [.dat .str,.dat .str,.dat yi,.dat yi])) [(0,yq307)] yq308 (λk v=>((k.1,k.2,v.1,v.2,()),())) yq60 yq130 (λk r=>.s _ _ r (λa=>yx 0 yq307 ((k.1,k.2,a,()),())) (λ_=>yz yq308 ((0,false,()),())))
def wbyx(a:List UInt8):Tr (Int×Bool):=.t ((1:Int)<(length a:Int)) (.g (inR 0 (length a))<|.t (((UInt8.toNat (getD a (toNat 0) 0):Nat):Int)==(45:Int)) (.g (((0:Int)<=(1:Int))&&((1:Int)<=(length a:Int)))<|.c _ (waoo (length (List.drop (toNat 1) (List.take (length a) a)):Int) 1 6) λi=>.t (!i) (.l (0,false)) (.c _ (waxq (a,(List.drop (toNat 1) (List.take (length a) a))) (0,0)) λp=>.s _ _ p (λe=>.t ((length (List.drop (toNat 1) (List.take (length a) a)):Int)<(length a:Int)) (.c _ (wafu 1000000 (wrap .i64 (0-e))) λn=>.t (!(n==a)) (.l (0,false)) (.l ((wrap .i64 (0-e)),true))) (.c _ (wafu 1000000 e) λj=>.t (!(j==a)) (.l (0,false)) (.l (e,true)))) (λ_=>.l (0,false)))) (.c _ (waoo (length a:Int) 1 6) λy=>.t (!y) (.l (0,false)) (.c _ (waxq (a,a) (0,0)) λu=>.s _ _ u (λb=>.t ((length a:Int)<(length a:Int)) (.c _ (wafu 1000000 (wrap .i64 (0-b))) λq=>.t (!(q==a)) (.l (0,false)) (.l ((wrap .i64 (0-b)),true))) (.c _ (wafu 1000000 b) λw=>.t (!(w==a)) (.l (0,false)) (.l (b,true)))) (λ_=>.l (0,false))))) (.c _ (waoo (length a:Int) 1 6) λr=>.t (!r) (.l (0,false)) (.c _ (waxq (a,a) (0,0)) λm=>.s _ _ m (λf=>.t ((length a:Int)<(length a:Int)) (.c _ (wafu 1000000 (wrap .i64 (0-f))) λh=>.t (!(h==a)) (.l (0,false)) (.l ((wrap .i64 (0-f)),true))) (.c _ (wafu 1000000 f) λo=>.t (!(o==a)) (.l (0,false)) (.l (f,true)))) (λ_=>.l (0,false))))
def wbyy a:=(wbyx a).ev
def wclp:FP prog:=fnP cx func76 [wbbl,wbbz] (yj [.dat .str]) [] [] (yq18 wbyx) yq171 yq172 noZ [(0,wboc)]
def waxr(k:List (List UInt8))(v:Int×Y1):Tr (Yap⊕(Y1⊕Unit)):=.t (v.1<(length k:Int)) (.g (inR v.1 (length k))<|.c _ (wbyy (getD k (toNat v.1) [])) λa=>.t (!a.2) (.l (.inr (.inr ()))) (.g ((length v.2+length ([a.1]:Y1))*8<=140737488355328)<|.l (.inl ((wrap .i64 (v.1+1)),(v.2++([a.1]:Y1)))))) (.l (.inr (.inl v.2)))
def wbhn k v:=iter (λv=>(waxr k v).ev) v
abbrev yq311:Keep:=yk [] [2,3] (yj [.arr 25,.dat .bool]) [(25,.arr 3 yi)]
def wbod:LD:=yl (waxr) (yk [] [0,4,5] (yj [.dat (.slice .str),.arr 8,.dat yi]) [(8,.arr 3 yi)]) [(0,yq303)] yq311 yq15 yq7 yq16 (λ_ r=>.s Y1 Unit r (λa=>yx 0 yq303 (((),()),a,())) (λ_=>yz yq311 (((),false,()),[],())))
def wbyz(a:List (List UInt8)):Tr Ybk:=.c _ (wbhn a (1,[])) λb=>.s Y1 Unit b (λe=>.l (true,e)) (λ_=>.l (false,[]))
def wboe a:=(wbyz a).ev
def wclq:FP prog:=fnP cx func52 [wclp] (yj [.dat (.slice .str)]) [] [] (yq18 wbyz) ⟨[.ren 8 0,.ren 25 0],[.tmp 2,.tmp 3],Zbc,[Zaw],[],[]⟩ yq79 noZ [(0,wbod)]
def wbza(a:Y1)(g:List Y1)(e:Int):Tr Bool:=.c _ (wavv a g) λb=>.t b (.c _ (waoo e 1 (length a:Int)) λf=>.l f) (.l false)
def wbzb a b c:=(wbza a b c).ev
def wclr:FP prog:=fnP cx func131 [wbbs,wbbl] (yj [.agg Zh,.dat yi]) [] [] (yq9 wbza) yq47 yq2
def wapn(k:Int×Y2×Y1×Y2)(v:Y1×Int):Tr ((Y1×Int)⊕Y1):=.t (v.2<(length k.2.1:Int)) (.g (inR v.2 (length k.2.1))<|.t ((length (getD k.2.1 (toNat v.2) []):Int)==k.1) (.t ((length v.1:Int)==(0:Int)) (.g (inR v.2 (length k.2.1))<|.l (.inl ((getD k.2.1 (toNat v.2) []),(wrap .i64 (v.2+1))))) (.g (inR v.2 (length k.2.1))<|.c _ (wbej k.2.2.1 k.2.2.2 (getD k.2.1 (toNat v.2) [])) λb=>.c _ (wbej k.2.2.1 k.2.2.2 v.1) λa=>.t (b<a) (.g (inR v.2 (length k.2.1))<|.l (.inl ((getD k.2.1 (toNat v.2) []),(wrap .i64 (v.2+1))))) (.l (.inl (v.1,(wrap .i64 (v.2+1))))))) (.l (.inl (v.1,(wrap .i64 (v.2+1)))))) (.l (.inr v.1))
def wbho k v:=iter (λv=>(wapn k v).ev) v
def wbof:LD:=yl (wapn) (yk [.fz 12] [1,2,5,6,7] (yj [.dat yi,.box 2 0,.dat y2,.dat y1,.dat yi]) [Zbf]) [(0,yq294)] yq14 (λk v=>((k.1,(),k.2.1,v.1,v.2,()),(k.2.2.1,k.2.2.2,()),())) (λt=>(t.1.1,t.1.2.2.1,t.2.1.1,t.2.1.2.1)) yq124 (λ_ r=>yx 0 yq294 ((r,()),()))
def wbzc(a:Y1)(f:List Y1)(e:Int):Tr Y1:=.c _ (wbgd (length a:Int)) λb=>.c _ (wbho (e,b,a,f) ([],0)) λg=>.l g
def wbzd a b c:=(wbzc a b c).ev
abbrev yq316:RetK:=yr [.tmp 4] Zbo
def wcls:FP prog:=fnP cx func132 [wbwk,wbvy] (yj [.agg Zh,.dat yi]) [] [] (yq9 wbzc) yq316 yq2 noZ [(0,wbof)]
def wbog(a:Y1)(e:List Y1)(b:Int):Tr (Y1×Bool):=.c _ (wbzb a e b) λf=>.t (!f) (.l ([],false)) (.c _ (wbzd a e b) λg=>.l (g,true))
def wboh a b c:=(wbog a b c).ev
def wclt:FP prog:=fnP cx func80 [wclr,wcls] (yj [.agg Zh,.dat yi]) [] [] (yq9 wbog) ⟨[.fz 10],[.tmp 4,.tmp 5],(yj [.dat y1,.dat .bool]),[],[],[]⟩ yq172
def wbze(a:Y1)(g:List Y1)(e:Int):Tr Bool:=.c _ (wavv a g) λb=>.t b (.c _ (waoo e 1 (length a:Int)) λf=>.l f) (.l false)
def wbzf a b c:=(wbze a b c).ev
def wclu:FP prog:=fnP cx func133 [wbbs,wbbl] (yj [.agg Zh,.dat yi]) [] [] (yq9 wbze) yq47 yq2
def waxs(k v:Int×Y2):Tr ((Int×Y2)⊕Y2):=.t (v.1<(length k.2:Int)) (.g (inR v.1 (length k.2))<|.t ((length (getD k.2 (toNat v.1) []):Int)<=k.1) (.g (inR v.1 (length k.2))<|.g ((length v.2+length ([(getD k.2 (toNat v.1) [])]:List Y1))*24<=140737488355328)<|.l (.inl ((wrap .i64 (v.1+1)),(v.2++([(getD k.2 (toNat v.1) [])]:List Y1))))) (.l (.inl ((wrap .i64 (v.1+1)),v.2)))) (.l (.inr v.2))
def wbhp k v:=iter (λv=>(waxs k v).ev) v
abbrev yq323:Keep:=yk [] [5] (yj [.arr 8]) [(8,.arr 22 y1)]
abbrev yq325{a b c d e:Type}(t:(a×b×c×d)×e):=(t.1.1,t.1.2.2.1)
def wboi:LD:=yl (waxs) (yk [] [1,5,6,7] (yj [.dat yi,.arr 8,.dat y2,.dat yi]) [(8,.arr 22 y1)]) [(0,yq323)] yq14 (λk v=>((k.1,(),k.2,v.1,()),v.2,())) yq325 yq88 (λ_ r=>yx 0 yq323 (((),()),r,()))
def wbzg(a:Y1)(_g:List Y1)(e:Int):Tr Y2:=.c _ (wbgd (length a:Int)) λb=>.c _ (wbhp (e,b) (0,[])) λf=>.l f
def wbzh a b c:=(wbzg a b c).ev
def wclv:FP prog:=fnP cx func207 [wbwk] (yj [.agg Zh,.dat yi]) [] [] (yq9 wbzg) ⟨[.ren 8 0],[.tmp 4],Zbh,[(0,.arr 22 y1)],[],[]⟩ yq19 noZ [(0,wboi)]
def wazx(k:Y1×Y2×Y2)(v:Y1×Int):Tr ((Y1×Int)⊕Y1):=.t (v.2<(length k.2.2:Int)) (.g (inR v.2 (length k.2.2))<|.g ((toNat v.2)<length k.2.2)<|.c _ (wbgm k.1 k.2.1 (getD k.2.2 (toNat v.2) [])) λb=>.c _ (wbgm k.1 k.2.1 v.1) λa=>.t (b<a) (.g (inR v.2 (length k.2.2))<|.g ((toNat v.2)<length k.2.2)<|.l (.inl ((getD k.2.2 (toNat v.2) []),(wrap .i64 (v.2+1))))) (.l (.inl (v.1,(wrap .i64 (v.2+1)))))) (.l (.inr v.1))
def wbhq k v:=iter (λv=>(wazx k v).ev) v
def wboj:LD:=yl (wazx) (yk [] [2,5,6,7] (yj [.box 2 0,.arr 640,.dat y1,.dat yi]) [Zbf,(640,.arr 22 y1)]) [(0,yq294)] yq14 (λk v=>(((),(),v.1,v.2,()),(k.1,k.2.1,()),k.2.2,())) (λt=>(t.2.1.1,t.2.1.2.1,t.2.2.1)) yq130 (λ_ r=>yx 0 yq294 ((r,()),()))
def wbzi(b:Y1)(e:List Y1)(f:Int):Tr Y1:=.c _ (wbzh b e f) λa=>.g (inR 0 (length a))<|.g ((toNat 0)<length a)<|.c _ (wbhq (b,e,a) ((getD a (toNat 0) []),1)) λh=>.l h
def wbzj a b c:=(wbzi a b c).ev
def wclw:FP prog:=fnP cx func134 [wclv,wcgc] (yj [.agg Zh,.dat yi]) [] [] (yq9 wbzi) yq316 yq2 noZ [(0,wboj)]
def wbok(a:Y1)(e:List Y1)(b:Int):Tr Ybk:=.c _ (wbzf a e b) λf=>.t (!f) (.l (false,[])) (.c _ (wbzj a e b) λg=>.c _ (wayj g) λh=>.l (true,h))
def wbol a b c:=(wbok a b c).ev
def wclx:FP prog:=fnP cx func81 [wclu,wclw,wbef] (yj [.agg Zh,.dat yi]) [] [] (yq9 wbok) ⟨[.ren 10 0,.ren 896 0],[.tmp 4,.tmp 5],Zbc,[Zaw],[],[]⟩ yq79
def wavc(k:Int×Int×Yax)(v:Int):Tr (Int⊕(Unit⊕Unit)):=.t (v<(length k.2.2.2.1:Int)) (.g (inR k.1 (length k.2.2.2.2))<|.g (inR v (length (getD k.2.2.2.2 (toNat k.1) [])))<|.t ((getD (getD k.2.2.2.2 (toNat k.1) []) (toNat v) 0)<=k.2.2.1) (.g (inR k.2.1 (length k.2.2.2.2))<|.g (inR v (length (getD k.2.2.2.2 (toNat k.2.1) [])))<|.t ((getD (getD k.2.2.2.2 (toNat k.2.1) []) (toNat v) 0)<=k.2.2.1) (.l (.inr (.inr ()))) (.l (.inl (wrap .i64 (v+1))))) (.l (.inl (wrap .i64 (v+1))))) (.l (.inr (.inl ())))
def wbhr k v:=iter (λv=>(wavc k v).ev) v
def wbom:LD:=yl (wavc) (yk [] [1,2,3,4,9] (yj [.dat yi,.dat yi,.dat yi,.box 4 0,.dat yi]) [(4,.cells Zh)]) [(0,yq14)] yq279 (λk v=>((k.1,k.2.1,k.2.2.1,(),v,()),(k.2.2.2.1,k.2.2.2.2,()),())) yq184 yq148 (λ_ r=>.s _ _ r (λ_=>yx 0 yq14 ((),())) (λ_=>yz yq279 ((false,()),())))
def wbzk(a:Y1)(h:List Y1)(e g f:Int):Tr Bool:=.c _ (wbhr (e,g,f,a,h) 0) λb=>.s _ _ b (λ_=>.l true) (λ_=>.l false)
def wbzl a f b e c:=(wbzk a f b e c).ev
def wcly:FP prog:=fnP cx func261 [] (yj [.agg Zh,.dat yi,.dat yi,.dat yi]) [] [] (yq187 wbzk) yq282 yq2 noZ [(0,wbom)]
def waxt(k:Y1×Int×Yax)(v:Int):Tr (Int⊕(Unit⊕Unit)):=.t (v<k.2.2.1) (.g (inR k.2.2.1 (length k.1))<|.g (inR v (length k.1))<|.c _ (wbzl k.2.2.2.1 k.2.2.2.2 (getD k.1 (toNat k.2.2.1) 0) (getD k.1 (toNat v) 0) k.2.1) λa=>.t (!a) (.l (.inr (.inr ()))) (.l (.inl (wrap .i64 (v+1))))) (.l (.inr (.inl ())))
def wbhs k v:=iter (λv=>(waxt k v).ev) v
abbrev yq334:Keep:=yk [] [1,2,3,7] (yj [.dat y1,.dat yi,.box 3 0,.dat yi]) [(3,.cells Zh)]
abbrev yq335{a b c d e g:Type}(k:a×b×c×d×e)(v:g):=((k.1,k.2.1,(),k.2.2.1,v,()),(k.2.2.2.1,k.2.2.2.2,()),())
def wbon:LD:=yl (waxt) (yk [] [1,2,3,7,8] (yj [.dat y1,.dat yi,.box 3 0,.dat yi,.dat yi]) [(3,.cells Zh)]) [(2,yq334)] yq36 yq335 yq191 yq148 (λk r=>.s _ _ r (λ_=>yx 2 yq334 ((k.1,k.2.1,(),k.2.2.1,()),(k.2.2.2.1,k.2.2.2.2,()),())) (λ_=>yz yq36 ((false,()),())))
def waxu(k:Y1×Yax)(v:Int):Tr (Int⊕(Unit⊕Unit)):=.t (v<(length k.1:Int)) (.c _ (wbhs (k.1,k.2.1,v,k.2.2.1,k.2.2.2) 0) λa=>.s _ _ a (λ_=>.l (.inl (wrap .i64 (v+1)))) (λ_=>.l (.inr (.inr ())))) (.l (.inr (.inl ())))
def wbht k v:=iter (λv=>(waxu k v).ev) v
def wboo:LD:=yl (waxu) yq334 [(0,yq14)] yq36 (λk v=>((k.1,k.2.1,(),v,()),(k.2.2.1,k.2.2.2,()),())) yq123 yq39 (λ_ r=>.s _ _ r (λ_=>yx 0 yq14 ((),())) (λ_=>yz yq36 ((false,()),())))
def wbzm(a:Y1)(g:List Y1)(b:Y1)(f:Int):Tr Bool:=.c _ (wbht (b,f,a,g) 0) λe=>.s _ _ e (λ_=>.l true) (λ_=>.l false)
def wbop a c e b:=(wbzm a c e b).ev
def wclz:FP prog:=fnP cx func210 [wcly] (yj [.agg Zh,.dat y1,.dat yi]) [] [] (yq126 wbzm) yq32 yq2 noZ [(2,wbon),(0,wboo)]
def waxv(k:Y1×Y1)(v:Int):Tr (Int⊕(Unit⊕Bool)):=.t (v<(length k.1:Int)) (.g (inR v (length k.1))<|.g (inR v (length k.2))<|.t ((getD k.1 (toNat v) 0) != (getD k.2 (toNat v) 0)) (.g (inR v (length k.1))<|.g (inR v (length k.2))<|.l (.inr (.inr ((getD k.1 (toNat v) 0)<(getD k.2 (toNat v) 0))))) (.l (.inl (wrap .i64 (v+1))))) (.l (.inr (.inl ())))
def wbhu k v:=iter (λv=>(waxv k v).ev) v
def wboq:LD:=yl (waxv) yq144 [(0,yq14)] yq65 yq66 yq60 yq45 (λ_ r=>.s _ _ r (λ_=>yx 0 yq14 ((),())) (λb=>yz yq65 ((b,()),())))
def wbzn(b e:Y1):Tr Bool:=.c _ (wbhu (b,e) 0) λa=>.s _ _ a (λ_=>.l false) (λf=>.l f)
def wbzo a b:=(wbzn a b).ev
def wcma:FP prog:=fnP cx func209 [] (yj [.dat y1,.dat y1]) [] [] (yq1 wbzn) yq47 yq2 noZ [(0,wboq)]
def wazy(k:Int×Y1×Y2)(v:Y1×Int):Tr ((Y1×Int)⊕Y1):=.g ((0:Int)<=(length k.2.2:Int))<|.t (v.2<(wrap .i64 ((1:Int)*2^(min (toNat (length k.2.2:Int)) (IntKind.bits .i64))))) (.c _ (wbma (length k.2.2:Int) v.2) λa=>.t ((length v.1:Int)<(length a:Int)) (.c _ (wbop k.2.1 k.2.2 a k.1) λf=>.t f (.l (.inl (a,(wrap .i64 (v.2+1))))) (.l (.inl (v.1,(wrap .i64 (v.2+1)))))) (.t ((length a:Int)==(length v.1:Int)) (.c _ (wbzo a v.1) λb=>.t b (.c _ (wbop k.2.1 k.2.2 a k.1) λe=>.t e (.l (.inl (a,(wrap .i64 (v.2+1))))) (.l (.inl (v.1,(wrap .i64 (v.2+1)))))) (.l (.inl (v.1,(wrap .i64 (v.2+1)))))) (.l (.inl (v.1,(wrap .i64 (v.2+1))))))) (.l (.inr v.1))
def wbhv k v:=iter (λv=>(wazy k v).ev) v
abbrev yq338:Keep:=yh [5] Zbo
def wbor:LD:=yl (wazy) (yk [.fz 8,.fz 1344] [1,2,5,6] (yj [.dat yi,.box 2 0,.dat y1,.dat yi]) [Zbf]) [(0,yq338)] yq14 yq129 yq117 yq130 (λ_ r=>yx 0 yq338 ((r,()),()))
def wbzp(a:Y1)(b:List Y1)(e:Int):Tr Y1:=.c _ (wbhv (e,a,b) ([],0)) λf=>.l f
def wbzq a b c:=(wbzp a b c).ev
def wcmb:FP prog:=fnP cx func135 [wcfv,wclz,wcma] (yj [.agg Zh,.dat yi]) [] [] (yq9 wbzp) yq316 yq2 noZ [(0,wbor)]
def wbzr(a:Y1)(e:List Y1)(b:Int):Tr (Y1×Bool):=.c _ (wavv a e) λf=>.t (!f) (.l ([],false)) (.t (b<0) (.l ([],false)) (.c _ (wbzq a e b) λg=>.l (g,true)))
def wbzs a b c:=(wbzr a b c).ev
def wcmc:FP prog:=fnP cx func82 [wbbs,wcmb] (yj [.agg Zh,.dat yi]) [] [] (yq9 wbzr) ⟨[.fz 13],[.tmp 4,.tmp 5],(yj [.dat y1,.dat .bool]),[],[],[]⟩ yq172
def wbzt(a:Y1)(b:List Y1)(e:Y1)(f:Int)(h:List UInt8)(g:Int):Tr (Y1×Y2×Y1×Int×(List UInt8)):=.t (h==([111,112,101,110]:List UInt8)) (.c _ (waic a b e f 1 g 0 0 []) λi=>.l (i.1,i.2.1,i.2.2.1,i.2.2.2.1,i.2.2.2.2)) (.t (h==([99,108,111,115,101]:List UInt8)) (.c _ (waic a b e f 2 g 0 0 []) λj=>.l (j.1,j.2.1,j.2.2.1,j.2.2.2.1,j.2.2.2.2)) (.t (h==([100,114,111,112,115,105,116,101]:List UInt8)) (.c _ (waic a b e f 8 g 0 0 []) λm=>.l (m.1,m.2.1,m.2.2.1,m.2.2.2.1,m.2.2.2.2)) (.t (h==([100,114,111,112,99,108,105,101,110,116]:List UInt8)) (.c _ (waic a b e f 9 g 0 0 []) λn=>.l (n.1,n.2.1,n.2.2.1,n.2.2.2.1,n.2.2.2.2)) (.t (h==([109,101,100,105,97,110]:List UInt8)) (.c _ (wboh a b g) λq=>.c _ (wazo q.1 q.2) λu=>.l (a,b,e,f,u)) (.t (h==([99,101,110,116,114,101,115]:List UInt8)) (.c _ (wbol a b g) λp=>.c _ (wazo p.2 p.1) λr=>.l (a,b,e,f,r)) (.t (h==([102,97,114]:List UInt8)) (.c _ (wbzs a b g) λo=>.c _ (wazo o.1 o.2) λs=>.l (a,b,e,f,s)) (.l (a,b,e,f,([63]:List UInt8)))))))))
def wbcd a g b f e c:=(wbzt a g b f e c).ev
abbrev yq341{a b c d e g h i j:Type}{z:Type _}(f:a->b->c->d->g->h->z)(x:((a×b×c×d×e)×g×h×i)×j):z:=f x.1.1.1 x.1.1.2.1 x.1.1.2.2.1 x.1.1.2.2.2.1 x.1.2.1 x.1.2.2.1
abbrev yq340:RetK:=yr [.cell 6 36,.tmp 7] (yj [.agg Zl,.dat .str])
def wcmd:FP prog:=fnP cx func54 [wbmh,wclt,wcgd,wclx,wcmc] (yj [.agg Zl,.dat .str,.dat yi]) [] [] (yq341 wbzt) yq340 yq170
def wbhw(b:Y1)(h:List Y1)(e:Y1)(f:Int)(i:List UInt8)(a:Y1):Tr (Y1×Y2×Y1×Int×(List UInt8)):=.t ((length a:Int)==(3:Int)) (.t (i==([108,101,110,103,116,104]:List UInt8)) (.g (inR 0 (length a))<|.g (inR 1 (length a))<|.g (inR 2 (length a))<|.c _ (waic b h e f 5 (getD a (toNat 0) 0) (getD a (toNat 1) 0) (getD a (toNat 2) 0) []) λj=>.l (j.1,j.2.1,j.2.2.1,j.2.2.2.1,j.2.2.2.2)) (.t ((length a:Int)==(2:Int)) (.t (i==([115,119,97,112]:List UInt8)) (.g (inR 0 (length a))<|.g (inR 1 (length a))<|.c _ (waic b h e f 3 (getD a (toNat 0) 0) (getD a (toNat 1) 0) 0 []) λn=>.l (n.1,n.2.1,n.2.2.1,n.2.2.2.1,n.2.2.2.2)) (.t ((length a:Int)==(2:Int)) (.t (i==([99,111,115,116]:List UInt8)) (.g (inR 0 (length a))<|.g (inR 1 (length a))<|.c _ (waic b h e f 4 (getD a (toNat 0) 0) (getD a (toNat 1) 0) 0 []) λo=>.l (o.1,o.2.1,o.2.2.1,o.2.2.2.1,o.2.2.2.2)) (.l (b,h,e,f,([63]:List UInt8)))) (.l (b,h,e,f,([63]:List UInt8))))) (.t ((length a:Int)==(2:Int)) (.t (i==([99,111,115,116]:List UInt8)) (.g (inR 0 (length a))<|.g (inR 1 (length a))<|.c _ (waic b h e f 4 (getD a (toNat 0) 0) (getD a (toNat 1) 0) 0 []) λq=>.l (q.1,q.2.1,q.2.2.1,q.2.2.2.1,q.2.2.2.2)) (.l (b,h,e,f,([63]:List UInt8)))) (.l (b,h,e,f,([63]:List UInt8)))))) (.t ((length a:Int)==(2:Int)) (.t (i==([115,119,97,112]:List UInt8)) (.g (inR 0 (length a))<|.g (inR 1 (length a))<|.c _ (waic b h e f 3 (getD a (toNat 0) 0) (getD a (toNat 1) 0) 0 []) λp=>.l (p.1,p.2.1,p.2.2.1,p.2.2.2.1,p.2.2.2.2)) (.t ((length a:Int)==(2:Int)) (.t (i==([99,111,115,116]:List UInt8)) (.g (inR 0 (length a))<|.g (inR 1 (length a))<|.c _ (waic b h e f 4 (getD a (toNat 0) 0) (getD a (toNat 1) 0) 0 []) λr=>.l (r.1,r.2.1,r.2.2.1,r.2.2.2.1,r.2.2.2.2)) (.l (b,h,e,f,([63]:List UInt8)))) (.l (b,h,e,f,([63]:List UInt8))))) (.t ((length a:Int)==(2:Int)) (.t (i==([99,111,115,116]:List UInt8)) (.g (inR 0 (length a))<|.g (inR 1 (length a))<|.c _ (waic b h e f 4 (getD a (toNat 0) 0) (getD a (toNat 1) 0) 0 []) λm=>.l (m.1,m.2.1,m.2.2.1,m.2.2.2.1,m.2.2.2.2)) (.l (b,h,e,f,([63]:List UInt8)))) (.l (b,h,e,f,([63]:List UInt8)))))
def wayk a g b f e c:=(wbhw a g b f e c).ev
def wcme:FP prog:=fnP cx func55 [wbmh] (yj [.agg Zl,.dat .str,.dat y1]) [] [] (yq341 wbhw) yq340 yq170
def wbhx(e:Y1)(i:List Y1)(f:Y1)(h:Int)(q:List UInt8):Tr (Y1×Y2×Y1×Int×(List UInt8)):=.c _ (wayu q 32) λa=>.t ((length a:Int)==(1:Int)) (.c _ (wbcz e i f h q) λm=>.l (m.1,m.2.1,m.2.2.1,m.2.2.2.1,m.2.2.2.2)) (.c _ (wboe a) λb=>.t (!b.1) (.l (e,i,f,h,([63]:List UInt8))) (.g (inR 0 (length a))<|.g ((toNat 0)<length a)<|.t ((getD a (toNat 0) [])==([115,105,116,101]:List UInt8)) (.g (inR 0 (length b.2))<|.g (((0:Int)<=(1:Int))&&((1:Int)<=(length b.2:Int)))<|.c _ (waic e i f h 6 (getD b.2 (toNat 0) 0) 0 0 (List.drop (toNat 1) (List.take (length b.2) b.2))) λo=>.l (o.1,o.2.1,o.2.2.1,o.2.2.2.1,o.2.2.2.2)) (.t ((getD a (toNat 0) [])==([99,108,105,101,110,116]:List UInt8)) (.c _ (waic e i f h 7 0 0 0 b.2) λn=>.l (n.1,n.2.1,n.2.2.1,n.2.2.2.1,n.2.2.2.2)) (.t ((length b.2:Int)==(1:Int)) (.g (inR 0 (length a))<|.g ((toNat 0)<length a)<|.g (inR 0 (length b.2))<|.g ((toNat 0)<length b.2)<|.c _ (wbcd e i f h (getD a (toNat 0) []) (getD b.2 (toNat 0) 0)) λp=>.l (p.1,p.2.1,p.2.2.1,p.2.2.2.1,p.2.2.2.2)) (.g (inR 0 (length a))<|.g ((toNat 0)<length a)<|.c _ (wayk e i f h (getD a (toNat 0) []) b.2) λj=>.l (j.1,j.2.1,j.2.2.1,j.2.2.2.1,j.2.2.2.2))))))
def wbce a f b e c:=(wbhx a f b e c).ev
def wcmf:FP prog:=fnP cx func31 [wbuo,wclo,wclq,wbmh,wcmd,wcme] (yj [.agg Zl,.dat .str]) [] [] (yq10 wbhx) yq305 yq170 (zOf [(9,[(0,[7])]),(11,[(3,[46])]),(14,[(0,[7])])])
def wbzu(e b:List UInt8)(a:Int)(h f:List UInt8):Tr ((List UInt8)×(List UInt8)×Yah):=.c _ (wbfn e b a) λj=>.t (!j) (.l (e,b,a,1)) (.c _ (wbfk h f) λm=>.t (!m) (.l (e,b,a,1)) (.t (a==60) (.l (e,b,a,2)) (.c _ (wbli a h f) λi=>.g (length b+length i<=9223372036854775807)<|.l (e,(b++i),(wrap .i64 (a+1)),0))))
def wbcf a f b e c:=(wbzu a f b e c).ev
abbrev yq343{a b c d e g h i j:Type}{z:Type _}(f:a->b->c->e->g->z)(x:((a×b×c×d)×(e×g×h)×i)×j):z:=f x.1.1.1 x.1.1.2.1 x.1.1.2.2.1 x.1.2.1.1 x.1.2.1.2.1
abbrev yq342:RetK:=yr [.cell 4 38,.tmp 5] (yj [.agg Zau,.dat yi])
abbrev yq344{a b c d:Type}(r:a×b×c×d):=(((r.1,r.2.1,r.2.2.1,()),r.2.2.2,()),())
def wcmg:FP prog:=fnP cx func32 [wbvb,wbus,wcfn] (yj [.agg Zau,.agg Zbg]) [] [] (yq343 wbzu) yq342 yq344
def wbel(m:Y1)(r:List Y1)(n:Y1)(p:Int)(g f:List UInt8)(e:Int)(i:List UInt8):Tr (Int×(List UInt8)×(List UInt8)×Int×(List UInt8)×Ybm):=.c _ (wbbt m r n p) λa=>.c _ (wbvd m r n p g f e) λs=>.t (!s) (.l (a.1,g,f,e,([110,111]:List UInt8),a.2.1,a.2.2.1,a.2.2.2)) (.c _ (wbfk i []) λu=>.t (!u) (.l (a.1,g,f,e,([98,97,100]:List UInt8),a.2.1,a.2.2.1,a.2.2.2)) (.t (e==60) (.l (a.1,g,f,e,([102,117,108,108]:List UInt8),a.2.1,a.2.2.1,a.2.2.2)) (.c _ (wbce m r n p i) λb=>.t ((200:Int)<(length b.2.2.2.2:Int)) (.c _ (wbcf g f e i ([108,111,110,103]:List UInt8)) λq=>.c _ (wbbt b.1 b.2.1 b.2.2.1 b.2.2.2.1) λj=>.l (j.1,q.1,q.2.1,q.2.2.1,([108,111,110,103]:List UInt8),j.2.1,j.2.2.1,j.2.2.2)) (.c _ (wbcf g f e i b.2.2.2.2) λo=>.c _ (wbbt b.1 b.2.1 b.2.2.1 b.2.2.2.1) λh=>.l (h.1,o.1,o.2.1,o.2.2.1,b.2.2.2.2,h.2.1,h.2.2.1,h.2.2.2)))))
def wbda a i b f e c g h:=(wbel a i b f e c g h).ev
abbrev yq346{a b c d e g h i j l m:Type}{z:Type _}(f:a->b->c->d->e->g->h->j->z)(x:((a×b×c×d×e×g×h×i)×j×l)×m):z:=f x.1.1.1 x.1.1.2.1 x.1.1.2.2.1 x.1.1.2.2.2.1 x.1.1.2.2.2.2.1 x.1.1.2.2.2.2.2.1 x.1.1.2.2.2.2.2.2.1 x.1.2.1
def wcmh:FP prog:=fnP cx func16 [wbky,wcjy,wbus,wcmf,wcmg] (yj [.agg Zat,.dat .str]) [] [] (yq346 wbel) ⟨[.pinB 4 0 3,.pinB 4 1 5,.pinB 4 2 8],[.cell 4 45,.tmp 5],(yj [.agg (yj [.arr 3,.arr 5,.arr 8,.dat yi,.dat .str,.dat .str,.dat yi]),.dat .str]),[(3,.arr 3 yi),(5,.rows 22 3 yi),(8,.arr 3 yi)],[],[]⟩ yq56
def wapo(k:List Yao)(v:Int×Ybl):Tr ((Int×Ybl)⊕(Unit⊕Int)):=.t (v.1<(length k:Int)) (.g (inR v.1 (length k))<|.g ((toNat v.1)<length k)<|.c _ (wbda v.2.1 v.2.2.1 v.2.2.2.1 v.2.2.2.2.1 v.2.2.2.2.2.1 v.2.2.2.2.2.2.1 v.2.2.2.2.2.2.2 ((getD k (toNat v.1) ([],[])).1)) λa=>.g (inR v.1 (length k))<|.g ((toNat v.1)<length k)<|.t (!(a.2.2.2.2.1==(getD k (toNat v.1) ([],[])).2)) (.l (.inr (.inr v.1))) (.l (.inl ((wrap .i64 (v.1+1)),a.2.2.2.2.2.1,a.2.2.2.2.2.2.1,a.2.2.2.2.2.2.2,a.1,a.2.1,a.2.2.1,a.2.2.2.1)))) (.l (.inr (.inl ())))
def waxw k v:=iter (λv=>(wapo k v).ev) v
abbrev yq348:Keep:=yk [] [8] (yj [.arr 1984]) [(1984,.arr 55 (.pair .str .str))]
abbrev yq349:Keep:=yh [4,5] (yj [.dat yi,.dat .bool])
def wbos:LD:=yl (wapo) (yk [.fz 963,.fz 964,.fz 965,.fz 3011,.fz 3013,.fz 3016] [6,8,10] (yj [.box 6 0,.arr 1984,.dat yi]) [(6,.cells Zat),(1984,.arr 55 (.pair .str .str))]) [(0,yq348)] yq349 (λk v=>(((),(),v.1,()),(v.2.1,v.2.2.1,v.2.2.2.1,v.2.2.2.2.1,v.2.2.2.2.2.1,v.2.2.2.2.2.2.1,v.2.2.2.2.2.2.2,()),k,())) (λt=>t.2.2.1) (λt=>(t.1.2.2.1,t.2.1.1,t.2.1.2.1,t.2.1.2.2.1,t.2.1.2.2.2.1,t.2.1.2.2.2.2.1,t.2.1.2.2.2.2.2.1,t.2.1.2.2.2.2.2.2.1)) (λk r=>.s _ _ r (λ_=>yx 0 yq348 (((),()),k,())) (λb=>yz yq349 ((b,true,()),())))
def wbzv(h:Y1)(o:List Y1)(i:Y1)(m:Int)(e b:List UInt8)(n:Int):Tr (Int×Bool):=.c _ (wbkz h o i m) λa=>.t (!a.2.2.2.2.1) (.l (0,false)) (.c _ (wbfn e b n) λj=>.t (!j) (.l (0,false)) (.g (length e+length b<=9223372036854775807)<|.c _ (wbeh (e++b)) λf=>.c _ (waxw f.2 (0,a.2.2.2.2.2.1,a.2.2.2.2.2.2.1,a.2.2.2.2.2.2.2,a.1,a.2.1,a.2.2.1,a.2.2.2.1)) λq=>.s _ _ q (λ_=>.l ((length f.2:Int),true)) (λp=>.l (p,true))))
def wbzw a h b f e c g:=(wbzv a h b f e c g).ev
abbrev yq353{a b c d e g h i j l m:Type}{z:Type _}(f:a->b->c->d->g->h->i->z)(x:((a×b×c×d×e)×(g×h×i×j)×l)×m):z:=f x.1.1.1 x.1.1.2.1 x.1.1.2.2.1 x.1.1.2.2.2.1 x.1.2.1.1 x.1.2.1.2.1 x.1.2.1.2.2.1
def wcmi:FP prog:=fnP cx func6 [wcjr,wbvb,wcfo,wcmh] (yj [.agg Zl,.agg Zau]) [] [] (yq353 wbzv) yq199 yq172 noZ [(0,wbos)]
def wbzx(a b c:Int):Tr Bool:=.t (b<=a) (.l (a<=c)) (.l false)
def wazz a b c:=(wbzx a b c).ev
def wbcg:FP prog:=fnP cx func58 [] (yj [.dat yi,.dat yi,.dat yi]) [] [] (yq33 wbzx) yq32 yq2
def wbaa(k:Y1×((HL [yi]->Option Bool))×Int)(v:Int):Tr (Int⊕(Unit⊕Int)):=.t (v<k.2.2) (.g (inR v (length k.1))<|.c _ (k.2.1 ((getD k.1 (toNat v) 0),())) λa=>.t a (.l (.inr (.inr v))) (.l (.inl (wrap .i64 (v+1))))) (.l (.inr (.inl ())))
def wbhy k v:=iter (λv=>(wbaa k v).ev) v
def wbot:LD:=yl (wbaa) (yh [0,1,7,8] (yj [.dat y1,.clo [yi] .bool,.dat yi,.dat yi])) [(0,yq14)] yq5 yq37 yq38 yq39 (λ_ r=>.s _ _ r (λ_=>yx 0 yq14 ((),())) (λb=>yz yq5 ((b,()),())))
def wbzy(a:Y1)(b:(HL [yi]->Option Bool)):Tr Int:=.c _ (wbhy (a,b,(length a:Int)) 0) λf=>.s _ _ f (λ_=>.l (-1)) (λe=>.l e)
def wbzz a b:=(wbzy a b).ev
def wcmj:FP prog:=fnP cx func211 [] (yj [.dat y1,.clo [yi] .bool]) [] [] (yq1 wbzy) yq0 yq2 noZ [(0,wbot)]
def wcaa(a:Y1)(e:(HL [yi]->Option Bool)):Tr Bool:=.c _ (wbzz a e) λb=>.l (0<=b)
def wbou a b:=(wcaa a b).ev
def wbov:FP prog:=fnP cx func136 [wcmj] (yj [.dat y1,.clo [yi] .bool]) [] [] (yq1 wcaa) yq47 yq2
def wcab(a e f:Int):Tr Bool:=.c _ (wazz a e f) λb=>.l (!b)
def wcgh a b c:=(wcab a b c).ev
def wcmk:FP prog:=fnP cx func137 [wbcg] (yj [.dat yi,.ptr Zv,.ptr Zv]) [] [] ((λf x=>f x.1.1 x.1.2.1.1 x.1.2.2.1.1) wcab) yq47 yq2
def wcac(a:Y1)(h b:Int):Tr Bool:=.c _ (wbou a (λf=>Option.bind (wcgh f.1 h b) λe=>some e)) λg=>.l (!g)
def wbow a b c:=(wcac a b c).ev
def wcgi:FP prog:=fnP cx func83 [wbov,wbov,wcmk] (yj [.dat y1,.dat yi,.dat yi]) [] [] (yq33 wcac) yq32 yq2
def wbab(k:Y2×((HL [y1]->Option Bool))×Int)(v:Int):Tr (Int⊕(Unit⊕Int)):=.t (v<k.2.2) (.g (inR v (length k.1))<|.c _ (k.2.1 ((getD k.1 (toNat v) []),())) λa=>.t a (.l (.inr (.inr v))) (.l (.inl (wrap .i64 (v+1))))) (.l (.inr (.inl ())))
def wbhz k v:=iter (λv=>(wbab k v).ev) v
def wbox:LD:=yl (wbab) (yh [0,1,7,8] (yj [.dat y2,.clo [y1] .bool,.dat yi,.dat yi])) [(0,yq14)] yq5 yq37 yq38 yq39 (λ_ r=>.s _ _ r (λ_=>yx 0 yq14 ((),())) (λb=>yz yq5 ((b,()),())))
def wcad(a:List Y1)(b:(HL [y1]->Option Bool)):Tr Int:=.c _ (wbhz (a,b,(length a:Int)) 0) λf=>.s _ _ f (λ_=>.l (-1)) (λe=>.l e)
def wboy a b:=(wcad a b).ev
def wcgj:FP prog:=fnP cx func138 [] (yj [.dat y2,.clo [y1] .bool]) [] [] (yq1 wcad) yq0 yq2 noZ [(0,wbox)]
def wcae(a:List Y1)(e:(HL [y1]->Option Bool)):Tr Bool:=.c _ (wboy a e) λb=>.l (0<=b)
def wcaf a b:=(wcae a b).ev
def wcgk:FP prog:=fnP cx func84 [wcgj] (yj [.dat y2,.clo [y1] .bool]) [] [] (yq1 wcae) yq47 yq2
def wcag(a b:Y1)(_f:List Y1):Tr Bool:=.t ((length a:Int) != (length b:Int)) (.l true) (.c _ (wbow a 0 99) λe=>.l (!e))
def wcah a b c:=(wcag a b c).ev
abbrev yq357:RetK:=yr [.tmp 3] (yj [.dat .bool])
def wcml:FP prog:=fnP cx func85 [wcgi] (yj [.dat y1,.ptr Zh]) [] [] (yq73 wcag) yq357 yq2
def wcai(a:Y1)(b:List Y1):Tr Bool:=.c _ (wazz (length a:Int) 1 7) λe=>.t e (.c _ (wbow a 0 99) λg=>.t g (.t ((length b:Int)<=(7:Int)) (.c _ (wcaf b (λf=>Option.bind (wcah f.1 a b) λh=>some h)) λi=>.l (!i)) (.l false)) (.l false)) (.l false)
def wavs a b:=(wcai a b).ev
def wbbn:FP prog:=fnP cx func56 [wbcg,wcgi,wcgk,wcgk,wcml] (yj [.agg Zh]) [] [] (yq24 wcai) yq46 yq2
def waxx(k:Y1×Int×Y1×Int)(v:Int):Tr (Int⊕(Unit⊕Unit)):=.t (v<k.2.2.2) (.g (inR v (length k.2.2.1))<|.c _ (wazz (getD k.2.2.1 (toNat v) 0) 0 (wrap .i64 (k.2.1-1))) λa=>.t (!a) (.l (.inr (.inr ()))) (.t (0<v) (.g (inR (wrap .i64 (v-1)) (length k.1))<|.t ((getD k.2.2.1 (toNat v) 0)<=(getD k.1 (toNat (wrap .i64 (v-1))) 0)) (.l (.inr (.inr ()))) (.l (.inl (wrap .i64 (v+1))))) (.l (.inl (wrap .i64 (v+1)))))) (.l (.inr (.inl ())))
def wbia k v:=iter (λv=>(waxx k v).ev) v
abbrev yq359{a b c d e:Type}(k:a×b×c×d)(v:e):=((k.1,k.2.1,k.2.2.1,k.2.2.2,v,()),())
abbrev yq360{a b c d e g:Type}(t:(a×b×c×d×e)×g):=(t.1.1,t.1.2.1,t.1.2.2.1,t.1.2.2.2.1)
def wboz:LD:=yl (waxx) (yh [0,1,7,8,9] (yj [.dat y1,.dat yi,.dat y1,.dat yi,.dat yi])) [(0,yq14)] yq65 yq359 yq360 yq148 (λ_ r=>.s _ _ r (λ_=>yx 0 yq14 ((),())) (λ_=>yz yq65 ((false,()),())))
def wcaj(a:Y1)(e:Int):Tr Bool:=.c _ (wbia (a,e,a,(length a:Int)) 0) λb=>.s _ _ b (λ_=>.l true) (λ_=>.l false)
def wbpa a b:=(wcaj a b).ev
def wcgl:FP prog:=fnP cx func57 [wbcg] (yj [.dat y1,.dat yi]) [] [] (yq1 wcaj) yq47 yq2 noZ [(0,wboz)]
def wcak(a:Y1)(i:List Y1)(e:Y1)(g:Int):Tr Bool:=.c _ (wavs a i) λb=>.t b (.c _ (wbpa e (length a:Int)) λf=>.t f (.c _ (wazz g 0 1000) λh=>.l h) (.l false)) (.l false)
def wakz a c e b:=(wcak a c e b).ev
def wbpb:FP prog:=fnP cx func34 [wbbn,wcgl,wbcg] (yj [.agg Zl]) [] [] (yq27 wcak) yq46 yq2
def wbac(a:Y1):Option (List Int):=cloneF a
def wcmm:FD:=fdClone
theorem wcgm:FDok prog (59,wcmm):=hand_clone
def wbpc:FP prog:=⟨_,wcgm⟩
def wapp(k:Y2×Int)(v:Int×Y2):Tr ((Int×Y2)⊕Y2):=.t (v.1<k.2) (.g (inR v.1 (length k.1))<|.c _ (wbac (getD k.1 (toNat v.1) [])) λa=>.g ((length v.2+1)*24<=140737488355328)<|.l (.inl ((wrap .i64 (v.1+1)),(set (v.2++ [[]]) (length v.2) a)))) (.l (.inr v.2))
def wbdb k v:=iter (λv=>(wapp k v).ev) v
abbrev yq362:Keep:=yk [] [3] (yj [.arr 6]) [(6,.rows 22 3 yi)]
abbrev yq363{a b c d:Type}(k:a×b)(v:c×d):=(((),k.1,k.2,v.1,()),v.2,())
def wbpd:LD:=yl (wapp) (yk [] [3,7,8,9] (yj [.arr 6,.dat y2,.dat yi,.dat yi]) [(6,.rows 22 3 yi)]) [(0,yq362)] yq14 yq363 yq8 yq88 (λ_ r=>yx 0 yq362 (((),()),r,()))
def wbpe(a:List Y1):Tr Y2:=.c _ (wbdb (a,(length a:Int)) (0,[])) λb=>.l b
def wbib a:=(wbpe a).ev
def wcmn:FP prog:=fnP cx func60 [wbpc] (yj [.dat y2]) [] [] (yq18 wbpe) ⟨[.ren 6 0],[.tmp 2],Zbh,[(0,.rows 22 3 yi)],[],[]⟩ yq19 (zOf [(1,[(0,[1000000])])]) [(0,wbpd)]
def T_zm(a:Y1)(i:List Y1)(e:Y1)(g:Int):Tr (Int×Ybm):=.c _ (wbac a) λb=>.c _ (wbib i) λf=>.c _ (wbac e) λh=>.l (g,b,f,h)
def F_zm a c e b:=(T_zm a c e b).ev
def G_zm:FP prog:=fnP cx func35 [wbpc,wcmn] (yj [.agg Zl]) [] [] (yq27 T_zm) ⟨[.ren 384 3,.ren 640 4,.ren 896 5],[.cell 2 36],(yj [.agg (yj [.arr 3,.arr 4,.arr 5,.dat yi])]),[(3,.arr 3 yi),(4,.rows 22 3 yi),(5,.arr 3 yi)],[],[]⟩ yq28
def wcal(b:Y1)(g:List Y1)(e:Y1)(f:Int):Tr (Int×(List UInt8)×(List UInt8)×Int×Bool×Ybm):=.c _ (wakz b g e f) λh=>.t (!h) (.l (0,[],[],0,false,[],[],[])) (.c _ (F_zm b g e f) λa=>.l (a.1,[],[],0,true,a.2.1,a.2.2.1,a.2.2.2))
def wbpf a c e b:=(wcal a c e b).ev
def wcmo:FP prog:=fnP cx func19 [wbpb,G_zm] (yj [.agg Zl]) [] [] (yq27 wcal) ⟨[.ownB 2 0 3 3 yi,.ownRB 2 1 4 22 3 yi,.ownB 2 2 5 3 yi,.ren 579 3,.ren 580 4,.ren 581 5],[.cell 2 45,.tmp 3],(yj [.agg (yj [.arr 3,.arr 4,.arr 5,.dat yi,.dat .str,.dat .str,.dat yi]),.dat .bool]),[(3,.arr 3 yi),(4,.rows 22 3 yi),(5,.arr 3 yi)],[],[]⟩ yq56
def F_internal_bytealg_IndexByteString(a:List UInt8)(b:Int):Option Int:=some (idxByte a b)
def D_internal_bytealg_IndexByteString:FD:=fdIndexByte
theorem fd_internal_bytealg_IndexByteString:FDok prog (139,D_internal_bytealg_IndexByteString):=hand_indexByte func139 (by kernel_rfl) (by kernel_rfl) (by kernel_rfl) (by kernel_rfl)
def G_internal_bytealg_IndexByteString:FP prog:=⟨_,fd_internal_bytealg_IndexByteString⟩
def T_internal_stringslite_IndexByte(a:List UInt8)(e:Int):Tr Int:=.c _ (F_internal_bytealg_IndexByteString a e) λb=>.l b
def F_internal_stringslite_IndexByte a b:=(T_internal_stringslite_IndexByte a b).ev
def G_internal_stringslite_IndexByte:FP prog:=fnP cx func86 [G_internal_bytealg_IndexByteString] (yj [.dat .str,.dat (.int .u8)]) [] [] (yq1 T_internal_stringslite_IndexByte) yq0 yq2
def wcam(a:List UInt8)(e:Int):Tr Int:=.c _ (F_internal_stringslite_IndexByte a e) λb=>.l b
def wbpg a b:=(wcam a b).ev
def wcmp:FP prog:=fnP cx func61 [G_internal_stringslite_IndexByte] (yj [.dat .str,.dat (.int .u8)]) [] [] (yq1 wcam) yq0 yq2
def T_internal_stringslite_Index(b a:List UInt8):Tr Int:=.t ((length a:Int)==(0:Int)) (.l 0) (.t (a==b) (.l 0) (.t ((length a:Int)==(1:Int)) (.g (inR 0 (length a))<|.c _ (F_internal_stringslite_IndexByte b ((UInt8.toNat (getD a (toNat 0) 0):Nat):Int)) λe=>.l e) (.g ((length b:Int)<=(length a:Int))<|.l (-1))))
def F_internal_stringslite_Index a b:=(T_internal_stringslite_Index a b).ev
def G_internal_stringslite_Index:FP prog:=fnP cx func141 [G_internal_stringslite_IndexByte] Zbg [] [] (yq1 T_internal_stringslite_Index) yq0 yq2
def T_internal_stringslite_Cut(a e:List UInt8):Tr ((List UInt8)×Ybi):=.c _ (F_internal_stringslite_Index a e) λb=>.t (0<=b) (.g ((0<=b)&&(b<=(length a:Int)))<|.g (((0:Int)<=(wrap .i64 (b+(length e:Int))))&&((wrap .i64 (b+(length e:Int)))<=(length a:Int)))<|.l ((List.drop 0 (List.take (toNat b) a)),(List.drop (toNat (wrap .i64 (b+(length e:Int)))) (List.take (length a) a)),true)) (.l (a,[],false))
def F_internal_stringslite_Cut a b:=(T_internal_stringslite_Cut a b).ev
abbrev yq367:RetK:=yr [.tmp 4,.tmp 5,.tmp 6] (yj [.dat .str,.dat .str,.dat .bool])
abbrev yq368{a b c:Type}(r:a×b×c):=((r.1,r.2.1,r.2.2,()),())
def G_internal_stringslite_Cut:FP prog:=fnP cx func88 [G_internal_stringslite_Index] Zbg [] [] (yq1 T_internal_stringslite_Cut) yq367 yq368
def wcan(b e:List UInt8):Tr ((List UInt8)×Ybi):=.c _ (F_internal_stringslite_Cut b e) λa=>.l (a.1,a.2.1,a.2.2)
def wbbx a b:=(wcan a b).ev
def wcgn:FP prog:=fnP cx func63 [G_internal_stringslite_Cut] Zbg [] [] (yq1 wcan) yq367 yq368
def wcao(a e:List UInt8):Tr Int:=.c _ (F_internal_stringslite_Index a e) λb=>.l b
def wcgo a b:=(wcao a b).ev
def wcmq:FP prog:=fnP cx func90 [G_internal_stringslite_Index] Zbg [] [] (yq1 wcao) yq0 yq2
def wcap(a e:List UInt8):Tr Bool:=.c _ (wcgo a e) λb=>.l (0<=b)
def wbch a b:=(wcap a b).ev
def wcgp:FP prog:=fnP cx func66 [wcmq] Zbg [] [] (yq1 wcap) yq47 yq2
def wbad(k:(List UInt8)×Int)(v:Int×Int):Tr (Yah⊕Int):=.t (v.2<k.2) (.g (inR v.2 (length k.1))<|.g (!decide ((999979:Int)=0))<|.l (.inl ((Int.tmod (wrap .i64 ((wrap .i64 ((wrap .i64 ((41:Int)*v.1))+(wrap .i64 ((UInt8.toNat (getD k.1 (toNat v.2) 0):Nat):Int))))+1)) 999979),(wrap .i64 (v.2+1))))) (.l (.inr v.1))
def wbic k v:=iter (λv=>(wbad k v).ev) v
def wbph:LD:=yl (wbad) (yh [0,3,6,7] (yj [.dat .str,.dat yi,.dat yi,.dat yi])) [(0,yq69)] yq14 (λk v=>((k.1,v.1,k.2,v.2,()),())) yq325 (λt=>(t.1.2.1,t.1.2.2.2.1)) (λ_ r=>yx 0 yq69 ((r,()),()))
def wcaq(a:List UInt8):Tr Int:=.c _ (wbic (a,(length a:Int)) (7,0)) λb=>.l b
def wcar a:=(wcaq a).ev
def wcmr:FP prog:=fnP cx func140 [] (yj [.dat .str]) [] [] (yq18 wcaq) yq70 yq2 noZ [(0,wbph)]
def wapq(a:Int):Option (List UInt8):=itoaF a
def wcms:FD:=fdItoa
theorem wcgq:FDok prog (89,wcms):=hand_itoa
def wbid:FP prog:=⟨_,wcgq⟩
def T_ze(a:List UInt8):Tr Ybi:=.t ((4000:Int)<(length a:Int)) (.l ([],false)) (.c _ (wbch a ([35]:List UInt8)) λf=>.t f (.l ([],false)) (.g (length a+length ([35]:List UInt8)<=9223372036854775807)<|.c _ (wcar a) λe=>.c _ (wapq e) λb=>.g (length (a++([35]:List UInt8))+length b<=9223372036854775807)<|.t ((4000:Int)<(length ((a++([35]:List UInt8))++b):Int)) (.l ([],false)) (.l (((a++([35]:List UInt8))++b),true))))
def F_ze a:=(T_ze a).ev
abbrev yq372:RetK:=yr [.tmp 2,.tmp 3] (yj [.dat .str,.dat .bool])
def G_ze:FP prog:=fnP cx func87 [wcgp,wcmr,wbid] (yj [.dat .str]) [] [] (yq18 T_ze) yq372 yq172
def wcas(b:List UInt8):Tr Ybi:=.c _ (wbbx b ([35]:List UInt8)) λe=>.c _ (F_ze e.1) λa=>.t (!a.2) (.l ([],false)) (.t (!(a.1==b)) (.l ([],false)) (.l (e.1,true)))
def wcat a:=(wcas a).ev
def wcmt:FP prog:=fnP cx func62 [wcgn,G_ze] (yj [.dat .str]) [] [] (yq18 wcas) yq372 yq172
def wbae(k:(List UInt8)×Yah)(v:Int):Tr (Int⊕(Unit⊕Unit)):=.t (v<k.2.2) (.g (inR v (length k.1))<|.t (((UInt8.toNat (getD k.1 (toNat v) 0):Nat):Int)<(32:Int)) (.l (.inr (.inr ()))) (.g (inR v (length k.1))<|.t ((126:Int)<((UInt8.toNat (getD k.1 (toNat v) 0):Nat):Int)) (.l (.inr (.inr ()))) (.g (inR v (length k.1))<|.t (((UInt8.toNat (getD k.1 (toNat v) 0):Nat):Int)==(35:Int)) (.l (.inr (.inr ()))) (.l (.inl (wrap .i64 (v+1))))))) (.l (.inr (.inl ())))
def wbie k v:=iter (λv=>(wbae k v).ev) v
def wbpj:LD:=yl (wbae) (yh [0,1,7,8] (yj [.dat .str,.dat yi,.dat yi,.dat yi])) [(0,yq64)] yq65 yq37 yq38 yq39 (λk r=>.s _ _ r (λ_=>yx 0 yq64 ((k.1,k.2.1,()),())) (λ_=>yz yq65 ((false,()),())))
def wcau(a:List UInt8)(b:Int):Tr Bool:=.c _ (wbie (a,b,(length a:Int)) 0) λe=>.s _ _ e (λ_=>.l ((length a:Int)<=b)) (λ_=>.l false)
def wbpk a b:=(wcau a b).ev
def wcmu:FP prog:=fnP cx func65 [] (yj [.dat .str,.dat yi]) [] [] (yq1 wcau) yq47 yq2 noZ [(0,wbpj)]
def wcav(a g:List UInt8):Tr Bool:=.t (!(a==([]:List UInt8))) (.c _ (wbpk a 160) λb=>.t b (.c _ (wbpk g 200) λe=>.t e (.c _ (wbch a ([64]:List UInt8)) λf=>.l (!f)) (.l false)) (.l false)) (.l false)
def wbif a b:=(wcav a b).ev
def wcaw:FP prog:=fnP cx func39 [wcmu,wcgp] (yj [.agg Zbg]) [] [] (yq24 wcav) yq46 yq2
def T_zu(h:Int)(b e:List UInt8):Tr Ybi:=.c _ (wazz h 0 59) λi=>.t (!i) (.l ([],false)) (.c _ (wbif b e) λj=>.t (!j) (.l ([],false)) (.c _ (wapq h) λa=>.g (length a+length ([32]:List UInt8)<=9223372036854775807)<|.g (length (a++([32]:List UInt8))+length b<=9223372036854775807)<|.g (length ((a++([32]:List UInt8))++b)+length ([64]:List UInt8)<=9223372036854775807)<|.g (length (((a++([32]:List UInt8))++b)++([64]:List UInt8))+length e<=9223372036854775807)<|.c _ (F_ze ((((a++([32]:List UInt8))++b)++([64]:List UInt8))++e)) λf=>.g (length f.1+length ([10]:List UInt8)<=9223372036854775807)<|.l ((f.1++([10]:List UInt8)),f.2)))
def F_zu a b c:=(T_zu a b c).ev
abbrev yq374:RetK:=yr [.tmp 4,.tmp 5] (yj [.dat .str,.dat .bool])
def G_zu:FP prog:=fnP cx func64 [wbcg,wcaw,wbid,G_ze] (yj [.dat yi,.agg Zbg]) [] [] (yq73 T_zu) yq374 yq172
def waxy(k:List UInt8)(v:Int×(List Yao)):Tr ((Int×(List Yao))⊕(Int×(List Yao))):=.g ((0<=v.1)&&(v.1<=(length k:Int)))<|.c _ (wbpg (List.drop (toNat v.1) (List.take (length k) k)) 10) λa=>.t (a<0) (.l (.inr (v.1,v.2))) (.g ((0<=v.1)&&(v.1<=(wrap .i64 ((wrap .i64 (v.1+a))+1)))&&((wrap .i64 ((wrap .i64 (v.1+a))+1))<=(length k:Int)))<|.g ((0<=a)&&(a<=(length (List.drop (toNat v.1) (List.take (toNat (wrap .i64 ((wrap .i64 (v.1+a))+1))) k)):Int)))<|.c _ (wcat (List.drop 0 (List.take (toNat a) (List.drop (toNat v.1) (List.take (toNat (wrap .i64 ((wrap .i64 (v.1+a))+1))) k))))) λf=>.c _ (wbbx f.1 ([32]:List UInt8)) λh=>.c _ (wbbx h.2.1 ([64]:List UInt8)) λb=>.c _ (F_zu (length v.2:Int) b.1 b.2.1) λe=>.t (!e.2) (.l (.inr (v.1,v.2))) (.t (!(e.1==(List.drop (toNat v.1) (List.take (toNat (wrap .i64 ((wrap .i64 (v.1+a))+1))) k)))) (.l (.inr (v.1,v.2))) (.g ((length v.2+length ([(b.1,b.2.1)]:List Yao))*32<=140737488355328)<|.l (.inl ((wrap .i64 ((wrap .i64 (v.1+a))+1)),(v.2++([(b.1,b.2.1)]:List Yao)))))))
def wbig k v:=iter (λv=>(waxy k v).ev) v
abbrev yq376:Keep:=yk [] [2,3] (yj [.arr 19,.dat yi]) [(19,.arr 55 (.pair .str .str))]
def wbpl:LD:=yl (waxy) (yk [] [0,4,5] (yj [.dat .str,.arr 19,.dat yi]) [(19,.arr 55 (.pair .str .str))]) [] yq376 yq15 yq7 yq16 (λ_ r=>yz yq376 (((),r.1,()),r.2,()))
def wcax(b:List UInt8):Tr (Int×(List Yao)):=.c _ (wbig b (0,([]:List Yao))) λa=>.l (a.1,a.2)
def wbem a:=(wcax a).ev
def wcgr:FP prog:=fnP cx func37 [wcmp,wcmt,wcgn,G_zu] (yj [.dat .str]) [] [] (yq18 wcax) ⟨[.ren 19 0],[.tmp 2,.tmp 3],(yj [.arr 0,.dat yi]),[(0,.arr 55 (.pair .str .str))],[],[]⟩ yq79 noZ [(0,wbpl)]
def wcay(a b:List UInt8)(f:Int):Tr Bool:=.g (length a+length b<=9223372036854775807)<|.t ((30000:Int)<(length (a++b):Int)) (.l false) (.c _ (wbem (a++b)) λe=>.c _ (wbem a) λh=>.t (e.1==(length (a++b):Int)) (.t (h.1==(length a:Int)) (.l (f==(length e.2:Int))) (.l false)) (.l false))
def wbih a b c:=(wcay a b c).ev
def wcaz:FP prog:=fnP cx func36 [wcgr] (yj [.agg Zau]) [] [] (yq30 wcay) yq46 yq2
def wbii(a b:List UInt8)(f:Int):Tr (Bool×(List Yao)):=.c _ (wbih a b f) λe=>.t (!e) (.l (false,([]:List Yao))) (.g (length a+length b<=9223372036854775807)<|.c _ (wbem (a++b)) λh=>.l (true,h.2))
def wbdc a b c:=(wbii a b c).ev
def wcmv:FP prog:=fnP cx func20 [wcaz,wcgr] (yj [.agg Zau]) [] [] (yq30 wbii) ⟨[.own 2 0 55 (.pair .str .str),.ren 960 0],[.tmp 2,.tmp 3],Zbc,[(0,.arr 55 (.pair .str .str))],[],[]⟩ yq79
def wcba(a:Y1)(m:List Y1)(e:Y1)(i:Int)(g f:List UInt8)(j:Int):Tr Bool:=.c _ (wakz a m e i) λb=>.t b (.c _ (wbih g f j) λh=>.l h) (.l false)
def wcbb a h b f e c g:=(wcba a h b f e c g).ev
def wcmw:FP prog:=fnP cx func38 [wbpb,wcaz] (yj [.agg Zat]) [] [] (yq80 wcba) yq46 yq2
def wcbc(a b:List UInt8):Option (List (List UInt8)):=splitF a b
def wcmx:FD:=fdSplit
theorem wcgs:FDok prog (67,wcmx):=hand_split
def wcmy:FP prog:=⟨_,wcgs⟩
def wcbd(a:List UInt8):Option (Int×Bool):=parseF a
def wcmz:FD:=fdParse
theorem wcgt:FDok prog (68,wcmz):=hand_parse
def wcna:FP prog:=⟨_,wcgt⟩
def waxz(k:(List (List UInt8))×(List UInt8)×Int)(v:Int):Tr (Int⊕(Unit⊕Int)):=.t (v<k.2.2) (.g (inR v (length k.1))<|.t (k.2.1==(getD k.1 (toNat v) [])) (.l (.inr (.inr v))) (.l (.inl (wrap .i64 (v+1))))) (.l (.inr (.inl ())))
def wbdd k v:=iter (λv=>(waxz k v).ev) v
def wbpm:LD:=yl (waxz) (yh [0,1,7,8] (yj [.dat (.slice .str),.dat .str,.dat yi,.dat yi])) [(0,yq14)] yq5 yq37 yq38 yq39 (λ_ r=>.s _ _ r (λ_=>yx 0 yq14 ((),())) (λb=>yz yq5 ((b,()),())))
def wcgu(a:List (List UInt8))(b:List UInt8):Tr Int:=.c _ (wbdd (a,b,(length a:Int)) 0) λf=>.s _ _ f (λ_=>.l (-1)) (λe=>.l e)
def wcnb a b:=(wcgu a b).ev
def wcnc:FP prog:=fnP cx func93 [] (yj [.dat (.slice .str),.dat .str]) [] [] (yq1 wcgu) yq0 yq2 noZ [(0,wbpm)]
def wcgv(a:List UInt8):Tr Int:=.c _ (wcnb ([[],([111,112,101,110]:List UInt8),([99,108,111,115,101]:List UInt8),([115,119,97,112]:List UInt8),([99,111,115,116]:List UInt8),([108,101,110,103,116,104]:List UInt8),([115,105,116,101]:List UInt8),([99,108,105,101,110,116]:List UInt8),([100,114,111,112,115,105,116,101]:List UInt8),([100,114,111,112,99,108,105,101,110,116]:List UInt8),([105,109,112,114,111,118,101]:List UInt8),([98,101,115,116]:List UInt8)]:List (List UInt8)) a) λb=>.l b
def wayl a:=(wcgv a).ev
def wcnd:FP prog:=fnP cx func69 [wcnc] (yj [.dat .str]) [] [] (yq18 wcgv) yq70 yq2
def wbpn(a:Int):Tr (Int×Bool×Bool):=.t (a==1) (.t (a==1) (.l (1,false,true)) (.t (a==3) (.t (a==3) (.l (2,false,true)) (.t (a==5) (.l (3,false,true)) (.t (a==6) (.l (1,true,true)) (.t (a==7) (.l (0,true,true)) (.t (a==10) (.t (a==10) (.l (0,false,true)) (.l (0,false,false))) (.t (a==11) (.l (0,false,true)) (.l (0,false,false)))))))) (.t (a==4) (.l (2,false,true)) (.t (a==5) (.l (3,false,true)) (.t (a==6) (.l (1,true,true)) (.t (a==7) (.l (0,true,true)) (.t (a==10) (.t (a==10) (.l (0,false,true)) (.l (0,false,false))) (.t (a==11) (.l (0,false,true)) (.l (0,false,false)))))))))) (.t (a==2) (.t (a==2) (.l (1,false,true)) (.t (a==3) (.t (a==3) (.l (2,false,true)) (.t (a==5) (.l (3,false,true)) (.t (a==6) (.l (1,true,true)) (.t (a==7) (.l (0,true,true)) (.t (a==10) (.t (a==10) (.l (0,false,true)) (.l (0,false,false))) (.t (a==11) (.l (0,false,true)) (.l (0,false,false)))))))) (.t (a==4) (.l (2,false,true)) (.t (a==5) (.l (3,false,true)) (.t (a==6) (.l (1,true,true)) (.t (a==7) (.l (0,true,true)) (.t (a==10) (.t (a==10) (.l (0,false,true)) (.l (0,false,false))) (.t (a==11) (.l (0,false,true)) (.l (0,false,false)))))))))) (.t (a==8) (.t (a==8) (.l (1,false,true)) (.t (a==3) (.t (a==3) (.l (2,false,true)) (.t (a==5) (.l (3,false,true)) (.t (a==6) (.l (1,true,true)) (.t (a==7) (.l (0,true,true)) (.t (a==10) (.t (a==10) (.l (0,false,true)) (.l (0,false,false))) (.t (a==11) (.l (0,false,true)) (.l (0,false,false)))))))) (.t (a==4) (.l (2,false,true)) (.t (a==5) (.l (3,false,true)) (.t (a==6) (.l (1,true,true)) (.t (a==7) (.l (0,true,true)) (.t (a==10) (.t (a==10) (.l (0,false,true)) (.l (0,false,false))) (.t (a==11) (.l (0,false,true)) (.l (0,false,false)))))))))) (.t (a==9) (.l (1,false,true)) (.t (a==3) (.t (a==3) (.l (2,false,true)) (.t (a==5) (.l (3,false,true)) (.t (a==6) (.l (1,true,true)) (.t (a==7) (.l (0,true,true)) (.t (a==10) (.t (a==10) (.l (0,false,true)) (.l (0,false,false))) (.t (a==11) (.l (0,false,true)) (.l (0,false,false)))))))) (.t (a==4) (.l (2,false,true)) (.t (a==5) (.l (3,false,true)) (.t (a==6) (.l (1,true,true)) (.t (a==7) (.l (0,true,true)) (.t (a==10) (.t (a==10) (.l (0,false,true)) (.l (0,false,false))) (.t (a==11) (.l (0,false,true)) (.l (0,false,false))))))))))))
def wala a:=(wbpn a).ev
def wcgw:FP prog:=fnP cx func94 [] Zv [] [] (yq18 wbpn) (yr [.tmp 2,.tmp 3,.tmp 4] (yj [.dat yi,.dat .bool,.dat .bool])) yq368
def T_zt(g h f e:Int)(b:Y1):Tr Bool:=.c _ (wala g) λa=>.t a.2.2 (.t (0<a.1) (.t (1<a.1) (.t (2<a.1) (.t a.2.1 (.l true) (.l ((length b:Int)==(0:Int)))) (.t (e==0) (.t a.2.1 (.l true) (.l ((length b:Int)==(0:Int)))) (.l false))) (.t (f==0) (.t (2<a.1) (.t a.2.1 (.l true) (.l ((length b:Int)==(0:Int)))) (.t (e==0) (.t a.2.1 (.l true) (.l ((length b:Int)==(0:Int)))) (.l false))) (.l false))) (.t (h==0) (.t (1<a.1) (.t (2<a.1) (.t a.2.1 (.l true) (.l ((length b:Int)==(0:Int)))) (.t (e==0) (.t a.2.1 (.l true) (.l ((length b:Int)==(0:Int)))) (.l false))) (.t (f==0) (.t (2<a.1) (.t a.2.1 (.l true) (.l ((length b:Int)==(0:Int)))) (.t (e==0) (.t a.2.1 (.l true) (.l ((length b:Int)==(0:Int)))) (.l false))) (.l false))) (.l false))) (.l false)
def F_zt a f b e c:=(T_zt a f b e c).ev
def G_zt:FP prog:=fnP cx func147 [wcgw] (yj [.agg Zaz]) [] [] (yq81 T_zt) yq46 yq2
def wbaf(k:Y1×Int)(v:Int×Int):Tr (Yah⊕Int):=.t (v.2<k.2) (.g (inR v.2 (length k.1))<|.g ((0:Int)<=(getD k.1 (toNat v.2) 0))<|.l (.inl ((wrap .u64 (BitVec.toNat ((BitVec.ofInt Zk v.1)||| (BitVec.ofInt Zk (wrap .u64 ((1:Int)*2^(min (toNat (getD k.1 (toNat v.2) 0)) Zk))))))),(wrap .i64 (v.2+1))))) (.l (.inr v.1))
def wbij k v:=iter (λv=>(wbaf k v).ev) v
abbrev yq388:Keep:=yh [3] (yj [.dat (.int .u64)])
abbrev yq389{a b c d:Type}(k:a×b)(v:c×d):=((v.1,k.1,k.2,v.2,()),())
abbrev yq390{a b c d e g:Type}(t:(a×b×c×d×e)×g):=(t.1.1,t.1.2.2.2.1)
def wbpo:LD:=yl (wbaf) (yh [3,6,7,8] (yj [.dat (.int .u64),.dat y1,.dat yi,.dat yi])) [(0,yq388)] yq14 yq389 yq8 yq390 (λ_ r=>yx 0 yq388 ((r,()),()))
def wcbe(a:Y1):Tr Int:=.c _ (wbij (a,(length a:Int)) (0,0)) λb=>.l b
def wbik a:=(wcbe a).ev
abbrev yq391:RetK:=yr [.tmp 2] (yj [.dat (.int .u64)])
def wbpp:FP prog:=fnP cx func148 [] Zbo [] [] (yq18 wcbe) yq391 yq2 noZ [(0,wbpo)]
def T_zs(a:Int)(e:Y1)(_f:List Y1)(_h:Y1)(_g:Int):Tr Bool:=.c _ (wazz a 0 (wrap .i64 ((length e:Int) -1))) λb=>.l b
def F_zs a f b e c:=(T_zs a f b e c).ev
def G_zs:FP prog:=fnP cx func149 [wbcg] (yj [.dat yi,.ptr Zl]) [] [] ((λf x=>f x.1.1 x.1.2.1.1 x.1.2.1.2.1 x.1.2.1.2.2.1 x.1.2.1.2.2.2.1) T_zs) yq357 yq2
def wcgx(b a:Int):Tr Bool:=.g (0<=a)<|.l ((wrap .u64 (BitVec.toNat ((BitVec.ofInt Zk (Int.fdiv b (2^(min (toNat a) Zk))))&&& (BitVec.ofInt Zk 1))))==(1:Int))
def wbag a b:=(wcgx a b).ev
def wbpr:FP prog:=fnP cx func150 [] (yj [.dat (.int .u64),.dat yi]) [] [] (yq1 wcgx) yq47 yq2
def wbil(k:Int)(v:Int×Y1):Tr (Yap⊕Y1):=.g (0<=v.1)<|.t ((0:Int)<(Int.fdiv k (2^(min (toNat v.1) Zk)))) (.c _ (wbag k v.1) λa=>.t a (.g ((length v.2+length ([v.1]:Y1))*8<=140737488355328)<|.l (.inl ((wrap .i64 (v.1+1)),(v.2++([v.1]:Y1))))) (.l (.inl ((wrap .i64 (v.1+1)),v.2)))) (.l (.inr v.2))
def wcbf k v:=iter (λv=>(wbil k v).ev) v
abbrev yq394:Keep:=yk [] [3] (yj [.arr 5]) [(5,.arr 3 yi)]
def wbps:LD:=yl (wbil) (yk [] [0,3,4] (yj [.dat (.int .u64),.arr 5,.dat yi]) [(5,.arr 3 yi)]) [(0,yq394)] yq14 yq15 yq7 yq16 (λ_ r=>yx 0 yq394 (((),()),r,()))
def wcgy(a:Int):Tr Y1:=.c _ (wcbf a (0,[])) λb=>.l b
def wbah a:=(wcgy a).ev
def wben:FP prog:=fnP cx func151 [wbpr] (yj [.dat (.int .u64)]) [] [] (yq18 wcgy) ⟨[.ren 5 0],[.tmp 2],Zbh,[Zaw],[],[]⟩ yq19 noZ [(0,wbps)]
def wcbg(e:Y1)(b a:Int):Tr Y1:=.c _ (wbik e) λf=>.g (0<=b)<|.g (0<=a)<|.c _ (wbah (wrap .u64 (BitVec.toNat ((BitVec.ofInt Zk (wrap .u64 (BitVec.toNat ((BitVec.ofInt Zk f)&&& ~~~(BitVec.ofInt Zk (wrap .u64 ((1:Int)*2^(min (toNat b) Zk))))))))||| (BitVec.ofInt Zk (wrap .u64 ((1:Int)*2^(min (toNat a) Zk)))))))) λh=>.l h
def wbpt a b c:=(wcbg a b c).ev
def wcbh:FP prog:=fnP cx func152 [wbpp,wben] (yj [.dat y1,.dat yi,.dat yi]) [] [] (yq33 wcbg) ⟨[.ren 960 0],[.tmp 6],Zbh,[Zaw],[],[]⟩ yq19
def wbpu(b c:Int)(a:Y1):Option (List Int):=delF b c a
def wcne:FD:=fdDelI
theorem wcgz:FDok prog (153,wcne):=hand_delI
def wcnf:FP prog:=⟨_,wcgz⟩
def wcha(b c:Int)(a:List Y1):Option (List (List Int)):=delF b c a
def wcng:FD:=fdDelR
theorem wchb:FDok prog (154,wcng):=hand_delR
def wcnh:FP prog:=⟨_,wchb⟩
def wcbi(b:Y1)(_f:List Y1)(a:Y1):Tr Bool:=.t ((0:Int)<(length a:Int)) (.c _ (wbpa a (length b:Int)) λe=>.l e) (.l false)
def wchc a b c:=(wcbi a b c).ev
def wcni:FP prog:=fnP cx func233 [wcgl] (yj [.agg Zh,.dat y1]) [] [] (yq9 wcbi) yq47 yq2
def wcbj(a:Y1)(b:List Y1)(f:Y1):Tr Bool:=.c _ (wavs a b) λe=>.t e (.c _ (wchc a b f) λg=>.l g) (.l false)
def wbci a b c:=(wcbj a b c).ev
def wbeo:FP prog:=fnP cx func167 [wbbn,wcni] (yj [.agg Zh,.dat y1]) [] [] (yq9 wcbj) yq47 yq2
def wbai(k:Y1×Yax)(v:Int×Int):Tr (Yah⊕Int):=.t (v.2<k.2.1) (.g (inR v.2 (length k.1))<|.g (inR (getD k.1 (toNat v.2) 0) (length k.2.2.1))<|.l (.inl ((wrap .i64 (v.1+(getD k.2.2.1 (toNat (getD k.1 (toNat v.2) 0)) 0))),(wrap .i64 (v.2+1))))) (.l (.inr v.1))
def wbim k v:=iter (λv=>(wbai k v).ev) v
abbrev yq410{a b c d e g h i j:Type}(t:(a×b×c×d×e)×(g×h×i)×j):=(t.1.2.2.1,t.1.2.2.2.1,t.2.1.1,t.2.1.2.1)
def wbpv:LD:=yl (wbai) (yk [] [2,5,8,9,10] (yj [.box 2 0,.dat yi,.dat y1,.dat yi,.dat yi]) [Zbf]) [(0,yq128)] yq14 (λk v=>(((),v.1,k.1,k.2.1,v.2,()),(k.2.2.1,k.2.2.2,()),())) yq410 (λt=>(t.1.2.1,t.1.2.2.2.2.1)) (λ_ r=>yx 0 yq128 ((r,()),()))
def wcbk(b:Y1)(e:List Y1)(a:Y1):Tr Int:=.c _ (wbim (a,(length a:Int),b,e) (0,0)) λf=>.l f
def wcbl a b c:=(wcbk a b c).ev
def wcnj:FP prog:=fnP cx func273 [] (yj [.agg Zh,.dat y1]) [] [] (yq9 wcbk) yq0 yq2 noZ [(0,wbpv)]
def wbaj(k:Int×Y1×Yax)(v:Int×Int):Tr (Yah⊕Int):=.t (v.2<k.2.2.1) (.g (inR v.2 (length k.2.1))<|.g (inR k.1 (length k.2.2.2.2))<|.g (inR (getD k.2.1 (toNat v.2) 0) (length (getD k.2.2.2.2 (toNat k.1) [])))<|.g (inR k.1 (length k.2.2.2.2))<|.g (inR v.1 (length (getD k.2.2.2.2 (toNat k.1) [])))<|.t ((getD (getD k.2.2.2.2 (toNat k.1) []) (toNat (getD k.2.1 (toNat v.2) 0)) 0)<(getD (getD k.2.2.2.2 (toNat k.1) []) (toNat v.1) 0)) (.l (.inl ((getD k.2.1 (toNat v.2) 0),(wrap .i64 (v.2+1))))) (.l (.inl (v.1,(wrap .i64 (v.2+1)))))) (.l (.inr v.1))
def wbin k v:=iter (λv=>(wbaj k v).ev) v
abbrev yq415{a b c d e g h i:Type}(t:(a×b×c×d×e×g×h)×i):=(t.1.2.2.1,t.1.2.2.2.2.2.1)
def wbpw:LD:=yl (wbaj) (yk [] [1,3,7,13,14,15] (yj [.dat yi,.box 3 0,.dat yi,.dat y1,.dat yi,.dat yi]) [(3,.cells Zh)]) [(0,yq121)] yq14 (λk v=>((k.1,(),v.1,k.2.1,k.2.2.1,v.2,()),(k.2.2.2.1,k.2.2.2.2,()),())) (λt=>(t.1.1,t.1.2.2.2.1,t.1.2.2.2.2.1,t.2.1.1,t.2.1.2.1)) yq415 (λ_ r=>yx 0 yq121 ((r,()),()))
def wcbm(b:Y1)(h:List Y1)(e:Int)(a:Y1):Tr Int:=.g (inR 0 (length a))<|.c _ (wbin (e,a,(length a:Int),b,h) ((getD a (toNat 0) 0),0)) λf=>.l f
def wcbn a c e b:=(wcbm a c e b).ev
def wcnk:FP prog:=fnP cx func234 [] (yj [.agg Zh,.dat yi,.dat y1]) [] [] (yq126 wcbm) yq125 yq2 noZ [(0,wbpw)]
def wbak(k:Y1×Yax)(v:Int×Y1):Tr (Yap⊕Y1):=.t (v.1<k.2.1) (.c _ (wcbn k.2.2.1 k.2.2.2 v.1 k.1) λa=>.g ((length v.2+length ([a]:Y1))*8<=140737488355328)<|.l (.inl ((wrap .i64 (v.1+1)),(v.2++([a]:Y1))))) (.l (.inr v.2))
def wbio k v:=iter (λv=>(wbak k v).ev) v
abbrev yq419{a b c d e g h i j:Type}(t:(a×b×c×d×e×g)×h×i×j):=(t.1.2.2.2.2.1,t.2.2.1)
def wbpx:LD:=yl (wbak) (yk [] [1,2,5,10,11] (yj [.dat y1,.box 2 0,.arr 7,.dat yi,.dat yi]) [Zbf,(7,.arr 3 yi)]) [(0,yq86)] yq14 (λk v=>((k.1,(),(),k.2.1,v.1,()),(k.2.2.1,k.2.2.2,()),v.2,())) (λt=>(t.1.1,t.1.2.2.2.1,t.2.1.1,t.2.1.2.1)) yq419 (λ_ r=>yx 0 yq86 (((),()),r,()))
def wcbo(b:Y1)(a:List Y1)(f:Y1):Tr Y1:=.c _ (wbio (f,(length a:Int),b,a) (0,[])) λe=>.l e
def wbpy a b c:=(wcbo a b c).ev
def wchd:FP prog:=fnP cx func169 [wcnk] (yj [.agg Zh,.dat y1]) [] [] (yq9 wcbo) yq89 yq19 noZ [(0,wbpx)]
def wbal(k:Int×Ybm)(v:Int×Y1):Tr (Yap⊕Y1):=.t (v.1<k.1) (.g (inR v.1 (length k.2.2.2))<|.g ((toNat v.1)<length k.2.2.2)<|.g (inR v.1 (length k.2.2.1))<|.g (inR (getD k.2.2.2 (toNat v.1) 0) (length (getD k.2.2.1 (toNat v.1) [])))<|.g ((length v.2+length ([(getD (getD k.2.2.1 (toNat v.1) []) (toNat (getD k.2.2.2 (toNat v.1) 0)) 0)]:Y1))*8<=140737488355328)<|.l (.inl ((wrap .i64 (v.1+1)),(v.2++([(getD (getD k.2.2.1 (toNat v.1) []) (toNat (getD k.2.2.2 (toNat v.1) 0)) 0)]:Y1))))) (.l (.inr v.2))
def wbip k v:=iter (λv=>(wbal k v).ev) v
abbrev yq421:Keep:=yk [] [5] (yj [.arr 8]) [(8,.arr 3 yi)]
def wbpz:LD:=yl (wbal) (yk [] [2,5,11,12,13] (yj [.box 2 0,.arr 8,.arr 704,.dat yi,.dat yi]) [Zbf,(8,.arr 3 yi),(704,.arr 3 yi)]) [(0,yq421)] yq14 (λk v=>(((),(),(),k.1,v.1,()),(k.2.1,k.2.2.1,()),v.2,k.2.2.2,())) (λt=>(t.1.2.2.2.1,t.2.1.1,t.2.1.2.1,t.2.2.2.1)) yq419 (λ_ r=>yx 0 yq421 (((),()),r,()))
def wcbp(a:Y1)(e:List Y1)(f:Y1):Tr Y1:=.c _ (wbpy a e f) λb=>.c _ (wbip ((length b:Int),a,e,b) (0,[])) λg=>.l g
def wbqa a b c:=(wcbp a b c).ev
def wche:FP prog:=fnP cx func230 [wchd] (yj [.agg Zh,.dat y1]) [] [] (yq9 wcbp) ⟨[.ren 8 0],[.tmp 4],Zbh,[Zaw],[],[]⟩ yq19 noZ [(0,wbpz)]
def wasy(k:Y1×Int)(v:Int×Int):Tr (Yah⊕Int):=.t (v.2<k.2) (.g (inR v.2 (length k.1))<|.l (.inl ((wrap .i64 (v.1+(getD k.1 (toNat v.2) 0))),(wrap .i64 (v.2+1))))) (.l (.inr v.1))
def wbde k v:=iter (λv=>(wasy k v).ev) v
abbrev yq425:Keep:=yh [3,6,7,8] (yj [.dat yi,.dat y1,.dat yi,.dat yi])
def wbqb:LD:=yl (wasy) yq425 [(0,yq69)] yq14 yq389 yq8 yq390 (λ_ r=>yx 0 yq69 ((r,()),()))
def wbqc(a:Y1):Tr Int:=.c _ (wbde (a,(length a:Int)) (0,0)) λb=>.l b
def wbep a:=(wbqc a).ev
def wchf:FP prog:=fnP cx func166 [] Zbo [] [] (yq18 wbqc) yq70 yq2 noZ [(0,wbqb)]
def wcbq(a:Y1)(g:List Y1)(e:Y1):Tr Int:=.c _ (wbqa a g e) λb=>.c _ (wbep b) λf=>.l f
def wbdf a b c:=(wcbq a b c).ev
def wcbr:FP prog:=fnP cx func168 [wche,wchf] (yj [.agg Zh,.dat y1]) [] [] (yq9 wcbq) yq0 yq2
def wcbs(a:Y1)(e:List Y1)(b:Y1):Tr Int:=.c _ (wcbl a e b) λf=>.c _ (wbdf a e b) λg=>.l (wrap .i64 (f+g))
def wbam a b c:=(wcbs a b c).ev
def wbiq:FP prog:=fnP cx func225 [wcnj,wcbr] (yj [.agg Zh,.dat y1]) [] [] (yq9 wcbs) yq0 yq2
def T_zz(a f:Y1)(b:List Y1)(e:Int):Tr ((Y1×Ybd)⊕(Y1×Ybd)):=.c _ (wbam f b a) λh=>.t (h<e) (.g (0<length a)<|.l (.inr (a,f,b,e))) (.l (.inl (a,f,b,e)))
def F_zz a c e b:=(T_zz a c e b).ev
def K_zz:RetK:= {acts:=[],res:=[.tmp 5],sh:=(yj [.dat .bool]),obs:=[Zba,(65,.cells Zh),(66,.cells Zv),(67,.cells (yj [.nilsl]))],pins:=[(0,0,64),(1,0,65),(2,0,66),(3,0,67)]}
def wchg:RetK:= {acts:=[],res:=[.tmp 5],sh:=(yj [.dat .bool]),obs:=[Zba,(65,.cells Zh),(66,.cells Zv),(67,.cells (yj [.arr 64]))],pins:=[(0,0,64),(1,0,65),(2,0,66),(3,0,67)]}
def D_zz:FD:= {(yd (yj [.arr 64,.box 65 0,.box 66 0,.box 67 0]) [Zba,(65,.cells Zh),(66,.cells Zv),(67,.cells (yj [.nilsl]))] [.arg 0,.arg 1,.arg 2,.arg 3] ((Y1×Ybd)⊕(Y1×Ybd)) (λx=>F_zz x.2.1 x.2.2.1.1 x.2.2.1.2.1 x.2.2.2.1.1) (λr=>match r with| .inl a=>([.dat .bool true],[(64,.arr 3 yi a.1),(65,.cells [.dat y1 a.2.1,.dat y2 a.2.2.1]),(66,.cells [.dat yi a.2.2.2]),(67,.cells [.nilsl])])| .inr b=>([.dat .bool false],[(64,.arr 3 yi b.1),(65,.cells [.dat y1 b.2.1,.dat y2 b.2.2.1]),(66,.cells [.dat yi b.2.2.2]),(67,.cells [.arr 64])])))with sp:=λr=>.s _ _ r (λa=>.l ([.dat .bool true],[(64,.arr 3 yi a.1),(65,.cells [.dat y1 a.2.1,.dat y2 a.2.2.1]),(66,.cells [.dat yi a.2.2.2]),(67,.cells [.nilsl])])) (λb=>.l ([.dat .bool false],[(64,.arr 3 yi b.1),(65,.cells [.dat y1 b.2.1,.dat y2 b.2.2.1]),(66,.cells [.dat yi b.2.2.2]),(67,.cells [.arr 64])])),spok:=λr=>by cases r<;>rfl}
theorem wcnl:FDok prog (248,D_zz):=fn_ok2 mixed (env_ok (fdC wbiq.2 fdN)) tabOK (fnMk2 D_zz (envOf [wbiq.1]) K_zz wchg noZ [] ((f248.body).getD .skip) (λx=>T_zz x.2.1 x.2.2.1.1 x.2.2.1.2.1 x.2.2.2.1.1) (λr=>match r with| .inl a=>.inl ((true,()),a.1,(a.2.1,a.2.2.1,()),(a.2.2.2,()),((),()),())| .inr b=>.inr ((false,()),b.1,(b.2.1,b.2.2.1,()),(b.2.2.2,()),((),()),())) func248 (lpMk (by kernel_rfl) lpN) (λ_=>by kernel_rfl) λr=>by cases r<;>rfl)
def G_zz:FP prog:=⟨_,wcnl⟩
def wban(k:Y1×Int×Yah)(v:Int×Ybd):Tr ((Int×Ybd)⊕(Ybd⊕(Y1×Y2×Yap))):=.t (v.1<k.2.2.2) (.c _ (wbag k.2.1 v.1) λh=>.t (!h) (.g (0<=v.1)<|.c _ (wbah (wrap .u64 (BitVec.toNat ((BitVec.ofInt Zk k.2.1)||| (BitVec.ofInt Zk (wrap .u64 ((1:Int)*2^(min (toNat v.1) Zk)))))))) λf=>.c _ (F_zz f v.2.1 v.2.2.1 v.2.2.2) λe=>.s _ _ e (λb=>.l (.inl ((wrap .i64 (v.1+1)),b.2.1,b.2.2.1,b.2.2.2))) (λa=>.l (.inr (.inr (a.2.1,a.2.2.1,a.2.2.2,a.1))))) (.l (.inl ((wrap .i64 (v.1+1)),v.2.1,v.2.2.1,v.2.2.2)))) (.l (.inr (.inl (v.2.1,v.2.2.1,v.2.2.2))))
def wbir k v:=iter (λv=>(wban k v).ev) v
abbrev yq427:Keep:=yk [] [1,2,6,7] (yj [.dat y1,.fn 248 Zbb,.dat (.int .u64),.dat yi]) [(64,.cells Zh),(65,.cells Zv),(66,.cells (yj [.nilsl]))]
abbrev yq428:Keep:=yk [] [2] (yj [.fn 248 Zbb]) [(64,.cells Zh),(65,.cells Zv),(66,.cells (yj [.arr 2112])),Zbq]
def wbdw:LD:=yl (wban) (yk [] [1,2,6,7,19,20] (yj [.dat y1,.fn 248 Zbb,.dat (.int .u64),.dat yi,.dat yi,.dat yi]) [(64,.cells Zh),(65,.cells Zv),(66,.cells (yj [.nilsl]))]) [(0,yq427)] yq428 (λk v=>((k.1,((),(),(),()),k.2.1,k.2.2.1,k.2.2.2,v.1,()),(v.2.1,v.2.2.1,()),(v.2.2.2,()),((),()),())) (λt=>(t.1.1,t.1.2.2.1,t.1.2.2.2.1,t.1.2.2.2.2.1)) (λt=>(t.1.2.2.2.2.2.1,t.2.1.1,t.2.1.2.1,t.2.2.1.1)) (λk r=>.s _ _ r (λa=>yx 0 yq427 ((k.1,((),(),(),()),k.2.1,k.2.2.1,()),(a.1,a.2.1,()),(a.2.2,()),((),()),())) (λb=>yz yq428 ((((),(),(),()),()),(b.1,b.2.1,()),(b.2.2.1,()),((),()),b.2.2.2,())))
def wbao(k:Y1×Int×Int×Y1×Int)(v:Int×Ybd):Tr ((Int×Ybd)⊕(Ybd⊕(Y1×Y2×Yap))):=.t (v.1<k.2.2.2.2) (.g (inR v.1 (length k.2.2.2.1))<|.t ((1:Int)<(length k.1:Int)) (.g ((0:Int)<=(getD k.2.2.2.1 (toNat v.1) 0))<|.c _ (wbah (wrap .u64 (BitVec.toNat ((BitVec.ofInt Zk k.2.1)&&& ~~~(BitVec.ofInt Zk (wrap .u64 ((1:Int)*2^(min (toNat (getD k.2.2.2.1 (toNat v.1) 0)) Zk)))))))) λe=>.c _ (F_zz e v.2.1 v.2.2.1 v.2.2.2) λf=>.s _ _ f (λb=>.l (.inl ((wrap .i64 (v.1+1)),b.2.1,b.2.2.1,b.2.2.2))) (λa=>.l (.inr (.inr (a.2.1,a.2.2.1,a.2.2.2,a.1))))) (.l (.inl ((wrap .i64 (v.1+1)),v.2.1,v.2.2.1,v.2.2.2)))) (.l (.inr (.inl (v.2.1,v.2.2.1,v.2.2.2))))
def wbis k v:=iter (λv=>(wbao k v).ev) v
abbrev yq433:Keep:=yk [] [2] (yj [.fn 248 Zbb]) [(64,.cells Zh),(65,.cells Zv),(66,.cells (yj [.arr 3392])),(3392,.arr 3 yi)]
abbrev yq434{a b c d e g h i j:Type}(k:a×b×c×d×e)(v:g×h×i×j):=((k.1,((),(),(),()),k.2.1,k.2.2.1,k.2.2.2.1,k.2.2.2.2,v.1,()),(v.2.1,v.2.2.1,()),(v.2.2.2,()),((),()),())
abbrev yq435{a b c d e g h i:Type}(t:(a×b×c×d×e×g×h)×i):=(t.1.1,t.1.2.2.1,t.1.2.2.2.1,t.1.2.2.2.2.1,t.1.2.2.2.2.2.1)
abbrev yq436{a b c d e g h i j l m n o p:Type}(t:(a×b×c×d×e×g×h×i)×(j×l×m)×(n×o)×p):=(t.1.2.2.2.2.2.2.1,t.2.1.1,t.2.1.2.1,t.2.2.1.1)
def wbdx:LD:=yl (wbao) (yk [] [1,2,6,7,38,39,40] (yj [.dat y1,.fn 248 Zbb,.dat (.int .u64),.dat yi,.dat y1,.dat yi,.dat yi]) [(64,.cells Zh),(65,.cells Zv),(66,.cells (yj [.nilsl]))]) [(2,yq427)] yq433 yq434 yq435 yq436 (λk r=>.s _ _ r (λa=>yx 2 yq427 ((k.1,((),(),(),()),k.2.1,k.2.2.1,()),(a.1,a.2.1,()),(a.2.2,()),((),()),())) (λb=>yz yq433 ((((),(),(),()),()),(b.1,b.2.1,()),(b.2.2.1,()),((),()),b.2.2.2,())))
def wbap(k:Y1×Int×Int×Int×Y1×Int×Yah)(v:Int×Ybd):Tr ((Int×Ybd)⊕(Ybd⊕(Y1×Y2×Yap))):=.t (v.1<k.2.2.2.2.2.2.2) (.c _ (wbag k.2.1 v.1) λg=>.t (!g) (.c _ (wbpt k.1 k.2.2.2.1 v.1) λe=>.c _ (F_zz e v.2.1 v.2.2.1 v.2.2.2) λf=>.s _ _ f (λb=>.l (.inl ((wrap .i64 (v.1+1)),b.2.1,b.2.2.1,b.2.2.2))) (λa=>.l (.inr (.inr (a.2.1,a.2.2.1,a.2.2.2,a.1))))) (.l (.inl ((wrap .i64 (v.1+1)),v.2.1,v.2.2.1,v.2.2.2)))) (.l (.inr (.inl (v.2.1,v.2.2.1,v.2.2.2))))
def wbit k v:=iter (λv=>(wbap k v).ev) v
abbrev yq438:Keep:=yk [] [1,2,6,7,58,59,60] (yj [.dat y1,.fn 248 Zbb,.dat (.int .u64),.dat yi,.dat y1,.dat yi,.dat yi]) [(64,.cells Zh),(65,.cells Zv),(66,.cells (yj [.nilsl]))]
abbrev yq439:Keep:=yk [] [2] (yj [.fn 248 Zbb]) [(64,.cells Zh),(65,.cells Zv),(66,.cells (yj [.arr 4928])),(4928,.arr 3 yi)]
def wbdy:LD:=yl (wbap) (yk [] [1,2,6,7,12,58,59,60,64,65] (yj [.dat y1,.fn 248 Zbb,.dat (.int .u64),.dat yi,.dat yi,.dat y1,.dat yi,.dat yi,.dat yi,.dat yi]) [(64,.cells Zh),(65,.cells Zv),(66,.cells (yj [.nilsl]))]) [(6,yq438)] yq439 (λk v=>((k.1,((),(),(),()),k.2.1,k.2.2.1,k.2.2.2.1,k.2.2.2.2.1,k.2.2.2.2.2.1,k.2.2.2.2.2.2.1,k.2.2.2.2.2.2.2,v.1,()),(v.2.1,v.2.2.1,()),(v.2.2.2,()),((),()),())) (λt=>(t.1.1,t.1.2.2.1,t.1.2.2.2.1,t.1.2.2.2.2.1,t.1.2.2.2.2.2.1,t.1.2.2.2.2.2.2.1,t.1.2.2.2.2.2.2.2.1,t.1.2.2.2.2.2.2.2.2.1)) (λt=>(t.1.2.2.2.2.2.2.2.2.2.1,t.2.1.1,t.2.1.2.1,t.2.2.1.1)) (λk r=>.s _ _ r (λa=>yx 6 yq438 ((k.1,((),(),(),()),k.2.1,k.2.2.1,k.2.2.2.2.1,k.2.2.2.2.2.1,k.2.2.2.2.2.2.1,()),(a.1,a.2.1,()),(a.2.2,()),((),()),())) (λb=>yz yq439 ((((),(),(),()),()),(b.1,b.2.1,()),(b.2.2.1,()),((),()),b.2.2.2,())))
def wbaq(k:Y1×Int×Int×Y1×Int)(v:Int×Ybd):Tr ((Int×Ybd)⊕(Ybd⊕(Y1×Y2×Yap))):=.t (v.1<k.2.2.2.2) (.g (inR v.1 (length k.2.2.2.1))<|.c _ (wbit (k.1,k.2.1,k.2.2.1,(getD k.2.2.2.1 (toNat v.1) 0),k.2.2.2.1,k.2.2.2.2,v.1,k.2.2.1) (0,v.2.1,v.2.2.1,v.2.2.2)) λe=>.s _ _ e (λb=>.l (.inl ((wrap .i64 (v.1+1)),b.1,b.2.1,b.2.2))) (λa=>.l (.inr (.inr (a.1,a.2.1,a.2.2.1,a.2.2.2))))) (.l (.inr (.inl (v.2.1,v.2.2.1,v.2.2.2))))
def wbiu k v:=iter (λv=>(wbaq k v).ev) v
abbrev yq443:Keep:=yk [] [2] (yj [.fn 248 Zbb]) [(64,.cells Zh),(65,.cells Zv),(66,.cells (yj [.nilsl]))]
def wbdz:LD:=yl (wbaq) yq438 [(4,yq443)] yq439 yq434 yq435 yq436 (λ_ r=>.s _ _ r (λa=>yx 4 yq443 ((((),(),(),()),()),(a.1,a.2.1,()),(a.2.2,()),((),()),())) (λb=>yz yq439 ((((),(),(),()),()),(b.1,b.2.1,()),(b.2.2.1,()),((),()),b.2.2.2,())))
def wcbt(b:Y1)(_w:List Y1)(a r:Y1)(q:List Y1)(o:Int):Tr (Ybd⊕(Y1×Y2×Yap)):=.c _ (wbik a) λj=>.c _ (wbir (a,j,(length b:Int),(length b:Int)) (0,r,q,o)) λu=>.s _ _ u (λh=>.c _ (wbis (a,j,(length b:Int),a,(length a:Int)) (0,h.1,h.2.1,h.2.2)) λp=>.s _ _ p (λi=>.c _ (wbiu (a,j,(length b:Int),a,(length a:Int)) (0,i.1,i.2.1,i.2.2)) λn=>.s _ _ n (λm=>.l (.inl (m.1,m.2.1,m.2.2))) (λg=>.l (.inr (g.1,g.2.1,g.2.2.1,g.2.2.2)))) (λe=>.l (.inr (e.1,e.2.1,e.2.2.1,e.2.2.2)))) (λf=>.l (.inr (f.1,f.2.1,f.2.2.1,f.2.2.2)))
def wbqd a g b f e c:=(wcbt a g b f e c).ev
def wcnm:RetK:= {acts:=[],res:=[],sh:=.nil,obs:=[(64,.cells Zh),(65,.cells Zv),(66,.cells (yj [.nilsl]))],pins:=[(2,1,64),(2,2,65),(2,3,66)]}
def wcbu:RetK:= {acts:=[.ren 4928 0,.ren 3392 0,.ren 2112 0],res:=[],sh:=.nil,obs:=[(64,.cells Zh),(65,.cells Zv),(66,.cells Zbh),Zaw],pins:=[(2,1,64),(2,2,65),(2,3,66)]}
def wchh:FD:= {(yd (yj [.agg Zh,.dat y1,.fn 248 Zbb]) [(64,.cells Zh),(65,.cells Zv),(66,.cells (yj [.nilsl]))] [.cap 2 0,.cap 2 1,.cap 2 2] (Ybd⊕(Y1×Y2×Yap)) (λx=>wbqd x.1.1.1 x.1.1.2.1 x.1.2.1 x.2.1.1 x.2.1.2.1 x.2.2.1.1) (λr=>match r with| .inl a=>([],[(64,.cells [.dat y1 a.1,.dat y2 a.2.1]),(65,.cells [.dat yi a.2.2]),(66,.cells [.nilsl])])| .inr b=>([],[(64,.cells [.dat y1 b.1,.dat y2 b.2.1]),(65,.cells [.dat yi b.2.2.1]),(66,.cells [.arr 0]),(0,.arr 3 yi b.2.2.2)])))with sp:=λr=>.s _ _ r (λa=>.l ([],[(64,.cells [.dat y1 a.1,.dat y2 a.2.1]),(65,.cells [.dat yi a.2.2]),(66,.cells [.nilsl])])) (λb=>.l ([],[(64,.cells [.dat y1 b.1,.dat y2 b.2.1]),(65,.cells [.dat yi b.2.2.1]),(66,.cells [.arr 0]),(0,.arr 3 yi b.2.2.2)])),spok:=λr=>by cases r<;>rfl}
def wbeq:Env:=envOf [wbpp.1,wbpr.1,wben.1,G_zz.1,wcbh.1]
def wber:List (Nat×LD):=[(0,wbdw),(2,wbdx),(6,wbdy),(4,wbdz)]
def wbes:Code:=(f247.body).getD .skip
theorem wcbv:(wbdw).OK wbeq tt noZ (orcOf wber) (loopAt wbes 0):=ldMk (λ_=>rfl) λ_ _=>by kernel_rfl
theorem wcbw:(wbdx).OK wbeq tt noZ (orcOf wber) (loopAt wbes 2):=ldMk (λ_=>rfl) λ_ _=>by kernel_rfl
theorem wcbx:(wbdy).OK wbeq tt noZ (orcOf wber) (loopAt wbes 6):=ldMk (λ_=>rfl) λ_ _=>by kernel_rfl
theorem wcby:(wbdz).OK wbeq tt noZ (orcOf wber) (loopAt wbes 4):=ldMk (λ_=>rfl) λ_ _=>by kernel_rfl
theorem wcnn:LoopsOK wbeq tt noZ wber wbes:=lpMk (by kernel_rfl) (lpC wcbv (lpC wcbw (lpC wcbx (lpC wcby lpN))))
theorem wchi:FDok prog (247,wchh):=fn_ok2 mixed (env_ok (fdC wbpp.2 (fdC wbpr.2 (fdC wben.2 (fdC G_zz.2 (fdC wcbh.2 fdN)))))) tabOK (fnMk2 wchh wbeq wcnm wcbu noZ wber wbes (λx=>wcbt x.1.1.1 x.1.1.2.1 x.1.2.1 x.2.1.1 x.2.1.2.1 x.2.2.1.1) (λr=>match r with| .inl a=>.inl ((),(a.1,a.2.1,()),(a.2.2,()),((),()),())| .inr b=>.inr ((),(b.1,b.2.1,()),(b.2.2.1,()),((),()),b.2.2.2,())) func247 wcnn (λ_=>by kernel_rfl) λr=>by cases r<;>rfl)
def wcno:FP prog:=⟨_,wchi⟩
def T_zy(a:Y1)(b:List Y1)(e:Y1):Tr Ybk:=.c _ (wbam a b e) λh=>.c _ (wbqd a b e a b h) λi=>.s _ _ i (λ_=>.l (false,[])) (λf=>.g (0<length f.2.2.2)<|.l (true,f.2.2.2))
def F_zy a b c:=(T_zy a b c).ev
def G_zy:FP prog:=fnP cx func181 [wbiq,wcno] (yj [.agg Zh,.dat y1]) [] [] (yq9 T_zy) ⟨[.own 4 0 3 yi,.ren 896 0],[.tmp 4,.tmp 5],Zbc,[Zaw],[],[]⟩ yq79
def wbar(k:Y1×Y2)(v:Int×Y1):Tr (Yap⊕Yap):=.c _ (F_zy k.1 k.2 v.2) λa=>.t (!a.1) (.l (.inr (v.1,v.2))) (.l (.inl ((wrap .i64 (v.1+1)),a.2)))
def wbas k v:=iter (λv=>(wbar k v).ev) v
abbrev yq446:Keep:=yk [] [4,5,6] (yj [.arr 1024,.dat yi,.dat .bool]) [(1024,.arr 3 yi)]
def wbqe:LD:=yl (wbar) (yk [.rep 1408 1024] [2,7,8] (yj [.box 2 0,.arr 1024,.dat yi]) [Zbf,(1024,.arr 3 yi)]) [] yq446 yq179 yq139 yq180 (λ_ r=>yz yq446 (((),r.1,true,()),r.2,()))
def wcbz(a:Y1)(f:List Y1)(b:Y1):Tr (Int×Ybk):=.c _ (wbci a f b) λg=>.t (!g) (.l (0,false,[])) (.c _ (wbac b) λh=>.c _ (wbas (a,f) (0,h)) λe=>.l (e.1,true,e.2))
def wcca a b c:=(wcbz a b c).ev
def wcnp:FP prog:=fnP cx func155 [wbeo,wbpc,G_zy] (yj [.agg Zh,.dat y1]) [] [] (yq9 wcbz) ⟨[.own 4 0 3 yi,.ren 1024 0],[.tmp 4,.tmp 5,.tmp 6],(yj [.arr 0,.dat yi,.dat .bool]),[Zaw],[],[]⟩ yq142 noZ [(0,wbqe)]
def wchj(a:Int):Tr Int:=.t (4294967296<=a) (.g ((0:Int)<=(32:Int))<|.t ((65536:Int)<=(Int.fdiv a (2^(min (toNat 32) Zk)))) (.g ((0:Int)<=(16:Int))<|.t ((256:Int)<=(Int.fdiv (Int.fdiv a (2^(min (toNat 32) Zk))) (2^(min (toNat 16) Zk)))) (.g ((0:Int)<=(8:Int))<|.g (inR (wrap .u8 (Int.fdiv (Int.fdiv (Int.fdiv a (2^(min (toNat 32) Zk))) (2^(min (toNat 16) Zk))) (2^(min (toNat 8) Zk)))) (length Zf))<|.l (wrap .i64 ((wrap .i64 ((wrap .i64 ((32:Int)+16))+8))+(wrap .i64 ((UInt8.toNat (getD Zf (toNat (wrap .u8 (Int.fdiv (Int.fdiv (Int.fdiv a (2^(min (toNat 32) Zk))) (2^(min (toNat 16) Zk))) (2^(min (toNat 8) Zk))))) 0):Nat):Int))))) (.g (inR (wrap .u8 (Int.fdiv (Int.fdiv a (2^(min (toNat 32) Zk))) (2^(min (toNat 16) Zk)))) (length Zf))<|.l (wrap .i64 ((wrap .i64 ((32:Int)+16))+(wrap .i64 ((UInt8.toNat (getD Zf (toNat (wrap .u8 (Int.fdiv (Int.fdiv a (2^(min (toNat 32) Zk))) (2^(min (toNat 16) Zk))))) 0):Nat):Int)))))) (.t ((256:Int)<=(Int.fdiv a (2^(min (toNat 32) Zk)))) (.g ((0:Int)<=(8:Int))<|.g (inR (wrap .u8 (Int.fdiv (Int.fdiv a (2^(min (toNat 32) Zk))) (2^(min (toNat 8) Zk)))) (length Zf))<|.l (wrap .i64 ((wrap .i64 ((32:Int)+8))+(wrap .i64 ((UInt8.toNat (getD Zf (toNat (wrap .u8 (Int.fdiv (Int.fdiv a (2^(min (toNat 32) Zk))) (2^(min (toNat 8) Zk))))) 0):Nat):Int))))) (.g (inR (wrap .u8 (Int.fdiv a (2^(min (toNat 32) Zk)))) (length Zf))<|.l (wrap .i64 ((32:Int)+(wrap .i64 ((UInt8.toNat (getD Zf (toNat (wrap .u8 (Int.fdiv a (2^(min (toNat 32) Zk))))) 0):Nat):Int))))))) (.t (65536<=a) (.g ((0:Int)<=(16:Int))<|.t ((256:Int)<=(Int.fdiv a (2^(min (toNat 16) Zk)))) (.g ((0:Int)<=(8:Int))<|.g (inR (wrap .u8 (Int.fdiv (Int.fdiv a (2^(min (toNat 16) Zk))) (2^(min (toNat 8) Zk)))) (length Zf))<|.l (wrap .i64 ((wrap .i64 ((wrap .i64 ((0:Int)+16))+8))+(wrap .i64 ((UInt8.toNat (getD Zf (toNat (wrap .u8 (Int.fdiv (Int.fdiv a (2^(min (toNat 16) Zk))) (2^(min (toNat 8) Zk))))) 0):Nat):Int))))) (.g (inR (wrap .u8 (Int.fdiv a (2^(min (toNat 16) Zk)))) (length Zf))<|.l (wrap .i64 ((wrap .i64 ((0:Int)+16))+(wrap .i64 ((UInt8.toNat (getD Zf (toNat (wrap .u8 (Int.fdiv a (2^(min (toNat 16) Zk))))) 0):Nat):Int)))))) (.t (256<=a) (.g ((0:Int)<=(8:Int))<|.g (inR (wrap .u8 (Int.fdiv a (2^(min (toNat 8) Zk)))) (length Zf))<|.l (wrap .i64 ((wrap .i64 ((0:Int)+8))+(wrap .i64 ((UInt8.toNat (getD Zf (toNat (wrap .u8 (Int.fdiv a (2^(min (toNat 8) Zk))))) 0):Nat):Int))))) (.g (inR (wrap .u8 a) (length Zf))<|.l (wrap .i64 ((0:Int)+(wrap .i64 ((UInt8.toNat (getD Zf (toNat (wrap .u8 a)) 0):Nat):Int)))))))
def wcnq a:=(wchj a).ev
def wcnr:FP prog:=fnP cx func289 [] (yj [.dat (.int .u64)]) [] [] (yq18 wchj) yq70 yq2
def wchk(a:Int):Tr Int:=.c _ (wcnq a) λb=>.l b
def wbqf a:=(wchk a).ev
def wccb:FP prog:=fnP cx func246 [wcnr] (yj [.dat (.int .u64)]) [] [] (yq18 wchk) yq70 yq2
def wbiv(k:Int×Int×Yw×Int)(v:Int×Yo):Tr ((Int×Yo)⊕Yo):=.t (k.1<v.1) (.g (inR v.1 (length v.2.1))<|.g (((toNat v.1)<length v.2.1)&&((getD v.2.1 (toNat v.1) 0)<length v.2.2))<|.g (inR (wrap .i64 (v.1-1)) (length v.2.1))<|.g (((toNat (wrap .i64 (v.1-1)))<length v.2.1)&&((getD v.2.1 (toNat (wrap .i64 (v.1-1))) 0)<length v.2.2))<|.c _ (k.2.2.1 ((getD v.2.2 (getD v.2.1 (toNat v.1) 0) []),(getD v.2.2 (getD v.2.1 (toNat (wrap .i64 (v.1-1))) 0) []),())) λa=>.t (a<0) (.g (inR (wrap .i64 (v.1-1)) (length v.2.1))<|.g (((toNat (wrap .i64 (v.1-1)))<length v.2.1)&&((getD v.2.1 (toNat (wrap .i64 (v.1-1))) 0)<length v.2.2))<|.g (inR v.1 (length v.2.1))<|.g (((toNat v.1)<length v.2.1)&&((getD v.2.1 (toNat v.1) 0)<length v.2.2))<|.g (inR v.1 (length v.2.1))<|.g ((toNat v.1)<length v.2.1)<|.g (inR (wrap .i64 (v.1-1)) (length (set v.2.1 (toNat v.1) (getD v.2.1 (toNat (wrap .i64 (v.1-1))) 0))))<|.g ((toNat (wrap .i64 (v.1-1)))<length (set v.2.1 (toNat v.1) (getD v.2.1 (toNat (wrap .i64 (v.1-1))) 0)))<|.l (.inl ((wrap .i64 (v.1-1)),(set (set v.2.1 (toNat v.1) (getD v.2.1 (toNat (wrap .i64 (v.1-1))) 0)) (toNat (wrap .i64 (v.1-1))) (getD v.2.1 (toNat v.1) 0)),v.2.2))) (.l (.inr v.2))) (.l (.inr v.2))
def wccc k v:=iter (λv=>(wbiv k v).ev) v
abbrev yq451:Keep:=yk [] [0,1,2,3,8] (yj [.arr 64,.dat yi,.dat yi,.clo [y1,y1] yi,.dat yi]) [Zay]
abbrev yq452{a b c d e g:Type}(k:a×b×c×d)(v:e×g):=(((),k.1,k.2.1,k.2.2.1,k.2.2.2,v.1,()),v.2,())
abbrev yq453{a b c d e g h:Type}(t:(a×b×c×d×e×g)×h):=(t.1.2.1,t.1.2.2.1,t.1.2.2.2.1,t.1.2.2.2.2.1)
abbrev yq454{a b c d e g h i j:Type}(t:(a×b×c×d×e×g×h)×i×j):=(t.1.2.2.2.2.2.1,t.2.1)
def wbqg:LD:=yl (wbiv) (yk [] [0,1,2,3,8,9] (yj [.arr 64,.dat yi,.dat yi,.clo [y1,y1] yi,.dat yi,.dat yi]) [Zay]) [(2,yq451)] yq14 yq452 yq453 yq454 (λk r=>yx 2 yq451 (((),k.1,k.2.1,k.2.2.1,k.2.2.2,()),r,()))
def wbiw(k:Int×Int×Yw)(v:Int×Yo):Tr ((Int×Yo)⊕Yo):=.t (v.1<k.2.1) (.c _ (wccc (k.1,k.2.1,k.2.2,v.1) (v.1,v.2)) λa=>.l (.inl ((wrap .i64 (v.1+1)),a))) (.l (.inr v.2))
def wccd k v:=iter (λv=>(wbiw k v).ev) v
abbrev yq455:Keep:=yk [] [0] (yj [.arr 64]) [Zay]
abbrev yq456{a b c d e:Type}(k:a×b×c)(v:d×e):=(((),k.1,k.2.1,k.2.2,v.1,()),v.2,())
abbrev yq457{a b c d e g:Type}(t:(a×b×c×d×e)×g):=(t.1.2.1,t.1.2.2.1,t.1.2.2.2.1)
abbrev yq458{a b c d e g h i:Type}(t:(a×b×c×d×e×g)×h×i):=(t.1.2.2.2.2.1,t.2.1)
def wbqh:LD:=yl (wbiw) yq451 [(0,yq455)] yq14 yq456 yq457 yq458 (λ_ r=>yx 0 yq455 (((),()),r,()))
def wchl(a e:Int)(f:Yw)(b:(List Nat)×Y2):Tr Yo:=.c _ (wccd (a,e,f) ((wrap .i64 (a+1)),b)) λg=>.l g
def wcns c e b a:=(wchl c e b a).ev
abbrev yq460{a b c d e g h:Type}{z:Type _}(f:b->c->d->g->z)(x:(a×b×c×d×e)×g×h):z:=f x.1.2.1 x.1.2.2.1 x.1.2.2.2.1 x.2.1
abbrev yq459:RetK:=⟨[],[],.nil,[Zay],[(0,0,64)],[]⟩
abbrev yq461{a:Type}(r:a):=((),r,())
def wchm:FP prog:=fnP cx func314 [] (yj [.arr 64,.dat yi,.dat yi,.clo [y1,y1] yi]) [Zay] [.arg 0] (yq460 wchl) yq459 yq461 noZ [(2,wbqg),(0,wbqh)]
def wchn(b:Int):Tr Int:=.c _ (wbqf (wrap .u64 b)) λa=>.g (0<=a)<|.l (wrap .u64 ((1:Int)*2^(min (toNat a) Zk)))
def wcnt a:=(wchn a).ev
def wcnu:FP prog:=fnP cx func308 [wccb] Zv [] [] (yq18 wchn) yq391 yq2
def wcho(a:Int):Tr Yah:=.g ((0:Int)<=(13:Int))<|.g ((0:Int)<=(7:Int))<|.g ((0:Int)<=(17:Int))<|.l ((wrap .u64 (BitVec.toNat ((BitVec.ofInt Zk (wrap .u64 (BitVec.toNat ((BitVec.ofInt Zk (wrap .u64 (BitVec.toNat ((BitVec.ofInt Zk a)^^^ (BitVec.ofInt Zk (wrap .u64 (a*2^(min (toNat 13) Zk))))))))^^^ (BitVec.ofInt Zk (Int.fdiv (wrap .u64 (BitVec.toNat ((BitVec.ofInt Zk a)^^^ (BitVec.ofInt Zk (wrap .u64 (a*2^(min (toNat 13) Zk))))))) (2^(min (toNat 7) Zk))))))))^^^ (BitVec.ofInt Zk (wrap .u64 ((wrap .u64 (BitVec.toNat ((BitVec.ofInt Zk (wrap .u64 (BitVec.toNat ((BitVec.ofInt Zk a)^^^ (BitVec.ofInt Zk (wrap .u64 (a*2^(min (toNat 13) Zk))))))))^^^ (BitVec.ofInt Zk (Int.fdiv (wrap .u64 (BitVec.toNat ((BitVec.ofInt Zk a)^^^ (BitVec.ofInt Zk (wrap .u64 (a*2^(min (toNat 13) Zk))))))) (2^(min (toNat 7) Zk)))))))*2^(min (toNat 17) Zk))))))),(wrap .u64 (BitVec.toNat ((BitVec.ofInt Zk (wrap .u64 (BitVec.toNat ((BitVec.ofInt Zk (wrap .u64 (BitVec.toNat ((BitVec.ofInt Zk a)^^^ (BitVec.ofInt Zk (wrap .u64 (a*2^(min (toNat 13) Zk))))))))^^^ (BitVec.ofInt Zk (Int.fdiv (wrap .u64 (BitVec.toNat ((BitVec.ofInt Zk a)^^^ (BitVec.ofInt Zk (wrap .u64 (a*2^(min (toNat 13) Zk))))))) (2^(min (toNat 7) Zk))))))))^^^ (BitVec.ofInt Zk (wrap .u64 ((wrap .u64 (BitVec.toNat ((BitVec.ofInt Zk (wrap .u64 (BitVec.toNat ((BitVec.ofInt Zk a)^^^ (BitVec.ofInt Zk (wrap .u64 (a*2^(min (toNat 13) Zk))))))))^^^ (BitVec.ofInt Zk (Int.fdiv (wrap .u64 (BitVec.toNat ((BitVec.ofInt Zk a)^^^ (BitVec.ofInt Zk (wrap .u64 (a*2^(min (toNat 13) Zk))))))) (2^(min (toNat 7) Zk)))))))*2^(min (toNat 17) Zk))))))))
def wcnv a:=(wcho a).ev
abbrev yq464{a b:Type}(r:a×b):=((r.1,()),(r.2,()),())
def wcnw:FP prog:=fnP cx func309 [] (yj [.box 64 0]) [(64,.cells (yj [.dat (.int .u64)]))] [.arg 0] ((λf x=>f x.2.1.1) wcho) ⟨[],[.tmp 2],(yj [.dat (.int .u64)]),[(64,.cells (yj [.dat (.int .u64)]))],[(0,0,64)],[]⟩ yq464
def wbix(k:Int×Yah)(v:Int×Yo×Int):Tr ((Int×Yo×Int)⊕Yo):=.g (!decide ((4:Int)=0))<|.t (v.1<=(wrap .i64 ((wrap .i64 (k.1+(wrap .i64 ((wrap .i64 (Int.tdiv k.2.1 4))*(2:Int)))))+1))) (.c _ (wcnv v.2.2) λa=>.t (k.2.1<=(wrap .i64 (wrap .u64 (BitVec.toNat ((BitVec.ofInt Zk a.1)&&& (BitVec.ofInt Zk (wrap .u64 (k.2.2-1)))))))) (.g (inR (wrap .i64 (k.1+(wrap .i64 ((wrap .i64 (wrap .u64 (BitVec.toNat ((BitVec.ofInt Zk a.1)&&& (BitVec.ofInt Zk (wrap .u64 (k.2.2-1))))))) -k.2.1)))) (length v.2.1.1))<|.g (((toNat (wrap .i64 (k.1+(wrap .i64 ((wrap .i64 (wrap .u64 (BitVec.toNat ((BitVec.ofInt Zk a.1)&&& (BitVec.ofInt Zk (wrap .u64 (k.2.2-1))))))) -k.2.1)))))<length v.2.1.1)&&((getD v.2.1.1 (toNat (wrap .i64 (k.1+(wrap .i64 ((wrap .i64 (wrap .u64 (BitVec.toNat ((BitVec.ofInt Zk a.1)&&& (BitVec.ofInt Zk (wrap .u64 (k.2.2-1))))))) -k.2.1))))) 0)<length v.2.1.2))<|.g (inR v.1 (length v.2.1.1))<|.g (((toNat v.1)<length v.2.1.1)&&((getD v.2.1.1 (toNat v.1) 0)<length v.2.1.2))<|.g (inR v.1 (length v.2.1.1))<|.g ((toNat v.1)<length v.2.1.1)<|.g (inR (wrap .i64 (k.1+(wrap .i64 ((wrap .i64 (wrap .u64 (BitVec.toNat ((BitVec.ofInt Zk a.1)&&& (BitVec.ofInt Zk (wrap .u64 (k.2.2-1))))))) -k.2.1)))) (length (set v.2.1.1 (toNat v.1) (getD v.2.1.1 (toNat (wrap .i64 (k.1+(wrap .i64 ((wrap .i64 (wrap .u64 (BitVec.toNat ((BitVec.ofInt Zk a.1)&&& (BitVec.ofInt Zk (wrap .u64 (k.2.2-1))))))) -k.2.1))))) 0))))<|.g ((toNat (wrap .i64 (k.1+(wrap .i64 ((wrap .i64 (wrap .u64 (BitVec.toNat ((BitVec.ofInt Zk a.1)&&& (BitVec.ofInt Zk (wrap .u64 (k.2.2-1))))))) -k.2.1)))))<length (set v.2.1.1 (toNat v.1) (getD v.2.1.1 (toNat (wrap .i64 (k.1+(wrap .i64 ((wrap .i64 (wrap .u64 (BitVec.toNat ((BitVec.ofInt Zk a.1)&&& (BitVec.ofInt Zk (wrap .u64 (k.2.2-1))))))) -k.2.1))))) 0)))<|.l (.inl ((wrap .i64 (v.1+1)),((set (set v.2.1.1 (toNat v.1) (getD v.2.1.1 (toNat (wrap .i64 (k.1+(wrap .i64 ((wrap .i64 (wrap .u64 (BitVec.toNat ((BitVec.ofInt Zk a.1)&&& (BitVec.ofInt Zk (wrap .u64 (k.2.2-1))))))) -k.2.1))))) 0)) (toNat (wrap .i64 (k.1+(wrap .i64 ((wrap .i64 (wrap .u64 (BitVec.toNat ((BitVec.ofInt Zk a.1)&&& (BitVec.ofInt Zk (wrap .u64 (k.2.2-1))))))) -k.2.1))))) (getD v.2.1.1 (toNat v.1) 0)),v.2.1.2),a.2))) (.g (inR (wrap .i64 (k.1+(wrap .i64 (wrap .u64 (BitVec.toNat ((BitVec.ofInt Zk a.1)&&& (BitVec.ofInt Zk (wrap .u64 (k.2.2-1))))))))) (length v.2.1.1))<|.g (((toNat (wrap .i64 (k.1+(wrap .i64 (wrap .u64 (BitVec.toNat ((BitVec.ofInt Zk a.1)&&& (BitVec.ofInt Zk (wrap .u64 (k.2.2-1))))))))))<length v.2.1.1)&&((getD v.2.1.1 (toNat (wrap .i64 (k.1+(wrap .i64 (wrap .u64 (BitVec.toNat ((BitVec.ofInt Zk a.1)&&& (BitVec.ofInt Zk (wrap .u64 (k.2.2-1)))))))))) 0)<length v.2.1.2))<|.g (inR v.1 (length v.2.1.1))<|.g (((toNat v.1)<length v.2.1.1)&&((getD v.2.1.1 (toNat v.1) 0)<length v.2.1.2))<|.g (inR v.1 (length v.2.1.1))<|.g ((toNat v.1)<length v.2.1.1)<|.g (inR (wrap .i64 (k.1+(wrap .i64 (wrap .u64 (BitVec.toNat ((BitVec.ofInt Zk a.1)&&& (BitVec.ofInt Zk (wrap .u64 (k.2.2-1))))))))) (length (set v.2.1.1 (toNat v.1) (getD v.2.1.1 (toNat (wrap .i64 (k.1+(wrap .i64 (wrap .u64 (BitVec.toNat ((BitVec.ofInt Zk a.1)&&& (BitVec.ofInt Zk (wrap .u64 (k.2.2-1)))))))))) 0))))<|.g ((toNat (wrap .i64 (k.1+(wrap .i64 (wrap .u64 (BitVec.toNat ((BitVec.ofInt Zk a.1)&&& (BitVec.ofInt Zk (wrap .u64 (k.2.2-1))))))))))<length (set v.2.1.1 (toNat v.1) (getD v.2.1.1 (toNat (wrap .i64 (k.1+(wrap .i64 (wrap .u64 (BitVec.toNat ((BitVec.ofInt Zk a.1)&&& (BitVec.ofInt Zk (wrap .u64 (k.2.2-1)))))))))) 0)))<|.l (.inl ((wrap .i64 (v.1+1)),((set (set v.2.1.1 (toNat v.1) (getD v.2.1.1 (toNat (wrap .i64 (k.1+(wrap .i64 (wrap .u64 (BitVec.toNat ((BitVec.ofInt Zk a.1)&&& (BitVec.ofInt Zk (wrap .u64 (k.2.2-1)))))))))) 0)) (toNat (wrap .i64 (k.1+(wrap .i64 (wrap .u64 (BitVec.toNat ((BitVec.ofInt Zk a.1)&&& (BitVec.ofInt Zk (wrap .u64 (k.2.2-1)))))))))) (getD v.2.1.1 (toNat v.1) 0)),v.2.1.2),a.2)))) (.l (.inr v.2.1))
def wcce k v:=iter (λv=>(wbix k v).ev) v
def wbqi:LD:=yl (wbix) (yk [] [0,1,8,9,10,11] (yj [.arr 64,.dat yi,.dat yi,.box 9 0,.dat (.int .u64),.dat yi]) [Zay,(9,.cells (yj [.dat (.int .u64)]))]) [(0,yq455)] yq14 (λk v=>(((),k.1,k.2.1,(),k.2.2,v.1,()),v.2.1,(v.2.2,()),())) (λt=>(t.1.2.1,t.1.2.2.1,t.1.2.2.2.2.1)) (λt=>(t.1.2.2.2.2.2.1,t.2.1,t.2.2.1.1)) (λ_ r=>yx 0 yq455 (((),()),r,()))
def wchp(a b:Int)(_i:Yw)(e:(List Nat)×Y2):Tr Yo:=.t ((8:Int)<=(wrap .i64 (b-a))) (.c _ (wcnt (wrap .i64 (b-a))) λf=>.g (!decide ((4:Int)=0))<|.c _ (wcce (a,(wrap .i64 (b-a)),f) ((wrap .i64 ((wrap .i64 (a+(wrap .i64 ((wrap .i64 (Int.tdiv (wrap .i64 (b-a)) 4))*(2:Int))))) -1)),e,(wrap .u64 (wrap .i64 (b-a))))) λh=>.l h) (.l e)
def wcnx c e b a:=(wchp c e b a).ev
def wchq:FP prog:=fnP cx func316 [wcnu,wcnw] (yj [.arr 64,.dat yi,.dat yi,.clo [y1,y1] yi]) [Zay] [.arg 0] (yq460 wchp) yq459 yq461 noZ [(0,wbqi)]
def wchr(a:List Y1)(e b:Int)(i:Yw)(f:Int):Tr (Int×Yah):=.g (inR b (length a))<|.g (inR e (length a))<|.c _ (i ((getD a (toNat b) []),(getD a (toNat e) []),())) λh=>.t (h<0) (.l (b,e,(wrap .i64 (f+1)))) (.l (e,b,f))
def wccf a f b c e:=(wchr a f b c e).ev
def wcny:FP prog:=fnP cx func327 [] (yj [.dat y2,.dat yi,.dat yi,.box 64 0,.clo [y1,y1] yi]) [(64,.cells Zv)] [.arg 3] ((λf x=>f x.1.1 x.1.2.1 x.1.2.2.1 x.1.2.2.2.2.1 x.2.1.1) wchr) ⟨[],[.tmp 10,.tmp 11],(yj [.dat yi,.dat yi]),[(64,.cells Zv)],[(3,0,64)],[]⟩ (λr=>((r.1,r.2.1,()),(r.2.2,()),()))
def wchs(a:List Y1)(m h j:Int)(e:Yw)(i:Int):Tr Yah:=.c _ (wccf a m h e i) λb=>.c _ (wccf a b.2.1 j e b.2.2) λf=>.c _ (wccf a b.1 f.1 e f.2.2) λg=>.l (g.2.1,g.2.2)
def wccg a g b f c e:=(wchs a g b f c e).ev
def wcht:FP prog:=fnP cx func326 [wcny] (yj [.dat y2,.dat yi,.dat yi,.dat yi,.box 64 0,.clo [y1,y1] yi]) [(64,.cells Zv)] [.arg 4] ((λf x=>f x.1.1 x.1.2.1 x.1.2.2.1 x.1.2.2.2.1 x.1.2.2.2.2.2.1 x.2.1.1) wchs) ⟨[],[.tmp 12],Zv,[(64,.cells Zv)],[(4,0,64)],[]⟩ yq464
def wchu(e:List Y1)(a:Int)(g:Yw)(f:Int):Tr Yah:=.c _ (wccg e (wrap .i64 (a-1)) a (wrap .i64 (a+1)) g f) λb=>.l (b.1,b.2)
def wcch a c b e:=(wchu a c b e).ev
def wcnz:FP prog:=fnP cx func325 [wcht] (yj [.dat y2,.dat yi,.box 64 0,.clo [y1,y1] yi]) [(64,.cells Zv)] [.arg 2] ((λf x=>f x.1.1 x.1.2.1 x.1.2.2.2.1 x.2.1.1) wchu) ⟨[],[.tmp 8],Zv,[(64,.cells Zv)],[(2,0,64)],[]⟩ yq464
def wchv(e:List Y1)(a b:Int)(f:Yw):Tr Yah:=.g (!decide ((4:Int)=0))<|.g (!decide ((4:Int)=0))<|.g (!decide ((4:Int)=0))<|.t ((8:Int)<=(wrap .i64 (b-a))) (.t ((50:Int)<=(wrap .i64 (b-a))) (.c _ (wcch e (wrap .i64 (a+(wrap .i64 ((wrap .i64 (Int.tdiv (wrap .i64 (b-a)) 4))*(1:Int))))) f 0) λj=>.c _ (wcch e (wrap .i64 (a+(wrap .i64 ((wrap .i64 (Int.tdiv (wrap .i64 (b-a)) 4))*(2:Int))))) f j.2) λm=>.c _ (wcch e (wrap .i64 (a+(wrap .i64 ((wrap .i64 (Int.tdiv (wrap .i64 (b-a)) 4))*(3:Int))))) f m.2) λn=>.c _ (wccg e j.1 m.1 n.1 f n.2) λi=>.t (i.2==0) (.l (i.1,1)) (.t (i.2==12) (.l (i.1,2)) (.l (i.1,0)))) (.c _ (wccg e (wrap .i64 (a+(wrap .i64 ((wrap .i64 (Int.tdiv (wrap .i64 (b-a)) 4))*(1:Int))))) (wrap .i64 (a+(wrap .i64 ((wrap .i64 (Int.tdiv (wrap .i64 (b-a)) 4))*(2:Int))))) (wrap .i64 (a+(wrap .i64 ((wrap .i64 (Int.tdiv (wrap .i64 (b-a)) 4))*(3:Int))))) f 0) λh=>.t (h.2==0) (.l (h.1,1)) (.t (h.2==12) (.l (h.1,2)) (.l (h.1,0))))) (.t ((0:Int)==(0:Int)) (.l ((wrap .i64 (a+(wrap .i64 ((wrap .i64 (Int.tdiv (wrap .i64 (b-a)) 4))*(2:Int))))),1)) (.t ((0:Int)==(12:Int)) (.l ((wrap .i64 (a+(wrap .i64 ((wrap .i64 (Int.tdiv (wrap .i64 (b-a)) 4))*(2:Int))))),2)) (.l ((wrap .i64 (a+(wrap .i64 ((wrap .i64 (Int.tdiv (wrap .i64 (b-a)) 4))*(2:Int))))),0))))
def wchw a c e b:=(wchv a c e b).ev
def wchx:FP prog:=fnP cx func317 [wcnz,wcht] (yj [.dat y2,.dat yi,.dat yi,.clo [y1,y1] yi]) [] [] ((λf x=>f x.1.1 x.1.2.1 x.1.2.2.1 x.1.2.2.2.1) wchv) (yr [.tmp 8,.tmp 9] (yj [.dat yi,.dat yi])) yq172
def wbiy(k:Int×Yw×Int×Yo)(v:Int):Tr (Int⊕Int):=.t (v<=k.2.2.1) (.g (inR v (length k.2.2.2.1))<|.g (((toNat v)<length k.2.2.2.1)&&((getD k.2.2.2.1 (toNat v) 0)<length k.2.2.2.2))<|.g (inR k.1 (length k.2.2.2.1))<|.g (((toNat k.1)<length k.2.2.2.1)&&((getD k.2.2.2.1 (toNat k.1) 0)<length k.2.2.2.2))<|.c _ (k.2.1 ((getD k.2.2.2.2 (getD k.2.2.2.1 (toNat v) 0) []),(getD k.2.2.2.2 (getD k.2.2.2.1 (toNat k.1) 0) []),())) λa=>.t (a<0) (.l (.inl (wrap .i64 (v+1)))) (.l (.inr v))) (.l (.inr v))
def wcci k v:=iter (λv=>(wbiy k v).ev) v
abbrev yq478:Keep:=yk [] [0,1,4,12,13] (yj [.arr 64,.dat yi,.clo [y1,y1] yi,.dat yi,.dat yi]) [Zay]
abbrev yq479{a b c d e:Type}(k:a×b×c×d)(v:e):=(((),k.1,k.2.1,v,k.2.2.1,()),k.2.2.2,())
abbrev yq480{a b c d e g h i:Type}(t:(a×b×c×d×e×g)×h×i):=(t.1.2.1,t.1.2.2.1,t.1.2.2.2.2.1,t.2.1)
def wbqj:LD:=yl (wbiy) yq478 [(0,yq478)] yq14 yq479 yq480 yq39 (λk r=>yx 0 yq478 (((),k.1,k.2.1,r,k.2.2.1,()),k.2.2.2,()))
def wbiz(k:Int×Yw×Int×Yo)(v:Int):Tr (Int⊕Int):=.t (k.2.2.1<=v) (.g (inR v (length k.2.2.2.1))<|.g (((toNat v)<length k.2.2.2.1)&&((getD k.2.2.2.1 (toNat v) 0)<length k.2.2.2.2))<|.g (inR k.1 (length k.2.2.2.1))<|.g (((toNat k.1)<length k.2.2.2.1)&&((getD k.2.2.2.1 (toNat k.1) 0)<length k.2.2.2.2))<|.c _ (k.2.1 ((getD k.2.2.2.2 (getD k.2.2.2.1 (toNat v) 0) []),(getD k.2.2.2.2 (getD k.2.2.2.1 (toNat k.1) 0) []),())) λa=>.t (!(a<0)) (.l (.inl (wrap .i64 (v-1)))) (.l (.inr v))) (.l (.inr v))
def wccj k v:=iter (λv=>(wbiz k v).ev) v
abbrev yq481{a b c d e:Type}(k:a×b×c×d)(v:e):=(((),k.1,k.2.1,k.2.2.1,v,()),k.2.2.2,())
abbrev yq482{a b c d e g h:Type}(t:(a×b×c×d×e)×g×h):=(t.1.2.1,t.1.2.2.1,t.1.2.2.2.1,t.2.1)
def wbqk:LD:=yl (wbiz) yq478 [(2,yq478)] yq14 yq481 yq482 yq148 (λk r=>yx 2 yq478 (((),k.1,k.2.1,k.2.2.1,r,()),k.2.2.2,()))
def wbja(k:Int×Yw×Int×Yo)(v:Int):Tr (Int⊕Int):=.t (v<=k.2.2.1) (.g (inR v (length k.2.2.2.1))<|.g (((toNat v)<length k.2.2.2.1)&&((getD k.2.2.2.1 (toNat v) 0)<length k.2.2.2.2))<|.g (inR k.1 (length k.2.2.2.1))<|.g (((toNat k.1)<length k.2.2.2.1)&&((getD k.2.2.2.1 (toNat k.1) 0)<length k.2.2.2.2))<|.c _ (k.2.1 ((getD k.2.2.2.2 (getD k.2.2.2.1 (toNat v) 0) []),(getD k.2.2.2.2 (getD k.2.2.2.1 (toNat k.1) 0) []),())) λa=>.t (a<0) (.l (.inl (wrap .i64 (v+1)))) (.l (.inr v))) (.l (.inr v))
def wcck k v:=iter (λv=>(wbja k v).ev) v
def wbql:LD:=yl (wbja) yq478 [(6,yq478)] yq14 yq479 yq480 yq39 (λk r=>yx 6 yq478 (((),k.1,k.2.1,r,k.2.2.1,()),k.2.2.2,()))
def wbjb(k:Int×Yw×Int×Yo)(v:Int):Tr (Int⊕Int):=.t (k.2.2.1<=v) (.g (inR v (length k.2.2.2.1))<|.g (((toNat v)<length k.2.2.2.1)&&((getD k.2.2.2.1 (toNat v) 0)<length k.2.2.2.2))<|.g (inR k.1 (length k.2.2.2.1))<|.g (((toNat k.1)<length k.2.2.2.1)&&((getD k.2.2.2.1 (toNat k.1) 0)<length k.2.2.2.2))<|.c _ (k.2.1 ((getD k.2.2.2.2 (getD k.2.2.2.1 (toNat v) 0) []),(getD k.2.2.2.2 (getD k.2.2.2.1 (toNat k.1) 0) []),())) λa=>.t (!(a<0)) (.l (.inl (wrap .i64 (v-1)))) (.l (.inr v))) (.l (.inr v))
def wccl k v:=iter (λv=>(wbjb k v).ev) v
def wbqm:LD:=yl (wbjb) yq478 [(8,yq478)] yq14 yq481 yq482 yq148 (λk r=>yx 8 yq478 (((),k.1,k.2.1,k.2.2.1,r,()),k.2.2.2,()))
def wbjc(k:Int×Yw)(v:Int×Int×Yo):Tr ((Int×Int×Yo)⊕(Int×Yo)):=.c _ (wcck (k.1,k.2,v.2.1,v.2.2) v.1) λb=>.c _ (wccl (k.1,k.2,b,v.2.2) v.2.1) λa=>.t (a<b) (.l (.inr (a,v.2.2))) (.g (inR a (length v.2.2.1))<|.g (((toNat a)<length v.2.2.1)&&((getD v.2.2.1 (toNat a) 0)<length v.2.2.2))<|.g (inR b (length v.2.2.1))<|.g (((toNat b)<length v.2.2.1)&&((getD v.2.2.1 (toNat b) 0)<length v.2.2.2))<|.g (inR b (length v.2.2.1))<|.g ((toNat b)<length v.2.2.1)<|.g (inR a (length (set v.2.2.1 (toNat b) (getD v.2.2.1 (toNat a) 0))))<|.g ((toNat a)<length (set v.2.2.1 (toNat b) (getD v.2.2.1 (toNat a) 0)))<|.l (.inl ((wrap .i64 (b+1)),(wrap .i64 (a-1)),(set (set v.2.2.1 (toNat b) (getD v.2.2.1 (toNat a) 0)) (toNat a) (getD v.2.2.1 (toNat b) 0)),v.2.2.2)))
def wccm k v:=iter (λv=>(wbjc k v).ev) v
abbrev yq483:Keep:=yk [] [0,1,13] (yj [.arr 64,.dat yi,.dat yi]) [Zay]
def wbqn:LD:=yl (wbjc) yq478 [(4,yq483)] yq14 (λk v=>(((),k.1,k.2,v.1,v.2.1,()),v.2.2,())) yq8 yq61 (λk r=>yx 4 yq483 (((),k.1,r.1,()),r.2,()))
def wchy(b m e:Int)(j:Yw)(a:(List Nat)×Y2):Tr (Int×Bool×Yo):=.g (inR e (length a.1))<|.g (((toNat e)<length a.1)&&((getD a.1 (toNat e) 0)<length a.2))<|.g (inR b (length a.1))<|.g (((toNat b)<length a.1)&&((getD a.1 (toNat b) 0)<length a.2))<|.g (inR b (length a.1))<|.g ((toNat b)<length a.1)<|.g (inR e (length (set a.1 (toNat b) (getD a.1 (toNat e) 0))))<|.g ((toNat e)<length (set a.1 (toNat b) (getD a.1 (toNat e) 0)))<|.c _ (wcci (b,j,(wrap .i64 (m-1)),(set (set a.1 (toNat b) (getD a.1 (toNat e) 0)) (toNat e) (getD a.1 (toNat b) 0)),a.2) (wrap .i64 (b+1))) λi=>.c _ (wccj (b,j,i,(set (set a.1 (toNat b) (getD a.1 (toNat e) 0)) (toNat e) (getD a.1 (toNat b) 0)),a.2) (wrap .i64 (m-1))) λh=>.t (h<i) (.g (inR b (length (set (set a.1 (toNat b) (getD a.1 (toNat e) 0)) (toNat e) (getD a.1 (toNat b) 0))))<|.g (((toNat b)<length (set (set a.1 (toNat b) (getD a.1 (toNat e) 0)) (toNat e) (getD a.1 (toNat b) 0)))&&((getD (set (set a.1 (toNat b) (getD a.1 (toNat e) 0)) (toNat e) (getD a.1 (toNat b) 0)) (toNat b) 0)<length a.2))<|.g (inR h (length (set (set a.1 (toNat b) (getD a.1 (toNat e) 0)) (toNat e) (getD a.1 (toNat b) 0))))<|.g (((toNat h)<length (set (set a.1 (toNat b) (getD a.1 (toNat e) 0)) (toNat e) (getD a.1 (toNat b) 0)))&&((getD (set (set a.1 (toNat b) (getD a.1 (toNat e) 0)) (toNat e) (getD a.1 (toNat b) 0)) (toNat h) 0)<length a.2))<|.g (inR h (length (set (set a.1 (toNat b) (getD a.1 (toNat e) 0)) (toNat e) (getD a.1 (toNat b) 0))))<|.g ((toNat h)<length (set (set a.1 (toNat b) (getD a.1 (toNat e) 0)) (toNat e) (getD a.1 (toNat b) 0)))<|.g (inR b (length (set (set (set a.1 (toNat b) (getD a.1 (toNat e) 0)) (toNat e) (getD a.1 (toNat b) 0)) (toNat h) (getD (set (set a.1 (toNat b) (getD a.1 (toNat e) 0)) (toNat e) (getD a.1 (toNat b) 0)) (toNat b) 0))))<|.g ((toNat b)<length (set (set (set a.1 (toNat b) (getD a.1 (toNat e) 0)) (toNat e) (getD a.1 (toNat b) 0)) (toNat h) (getD (set (set a.1 (toNat b) (getD a.1 (toNat e) 0)) (toNat e) (getD a.1 (toNat b) 0)) (toNat b) 0)))<|.l (h,true,(set (set (set (set a.1 (toNat b) (getD a.1 (toNat e) 0)) (toNat e) (getD a.1 (toNat b) 0)) (toNat h) (getD (set (set a.1 (toNat b) (getD a.1 (toNat e) 0)) (toNat e) (getD a.1 (toNat b) 0)) (toNat b) 0)) (toNat b) (getD (set (set a.1 (toNat b) (getD a.1 (toNat e) 0)) (toNat e) (getD a.1 (toNat b) 0)) (toNat h) 0)),a.2)) (.g (inR h (length (set (set a.1 (toNat b) (getD a.1 (toNat e) 0)) (toNat e) (getD a.1 (toNat b) 0))))<|.g (((toNat h)<length (set (set a.1 (toNat b) (getD a.1 (toNat e) 0)) (toNat e) (getD a.1 (toNat b) 0)))&&((getD (set (set a.1 (toNat b) (getD a.1 (toNat e) 0)) (toNat e) (getD a.1 (toNat b) 0)) (toNat h) 0)<length a.2))<|.g (inR i (length (set (set a.1 (toNat b) (getD a.1 (toNat e) 0)) (toNat e) (getD a.1 (toNat b) 0))))<|.g (((toNat i)<length (set (set a.1 (toNat b) (getD a.1 (toNat e) 0)) (toNat e) (getD a.1 (toNat b) 0)))&&((getD (set (set a.1 (toNat b) (getD a.1 (toNat e) 0)) (toNat e) (getD a.1 (toNat b) 0)) (toNat i) 0)<length a.2))<|.g (inR i (length (set (set a.1 (toNat b) (getD a.1 (toNat e) 0)) (toNat e) (getD a.1 (toNat b) 0))))<|.g ((toNat i)<length (set (set a.1 (toNat b) (getD a.1 (toNat e) 0)) (toNat e) (getD a.1 (toNat b) 0)))<|.g (inR h (length (set (set (set a.1 (toNat b) (getD a.1 (toNat e) 0)) (toNat e) (getD a.1 (toNat b) 0)) (toNat i) (getD (set (set a.1 (toNat b) (getD a.1 (toNat e) 0)) (toNat e) (getD a.1 (toNat b) 0)) (toNat h) 0))))<|.g ((toNat h)<length (set (set (set a.1 (toNat b) (getD a.1 (toNat e) 0)) (toNat e) (getD a.1 (toNat b) 0)) (toNat i) (getD (set (set a.1 (toNat b) (getD a.1 (toNat e) 0)) (toNat e) (getD a.1 (toNat b) 0)) (toNat h) 0)))<|.c _ (wccm (b,j) ((wrap .i64 (i+1)),(wrap .i64 (h-1)),(set (set (set (set a.1 (toNat b) (getD a.1 (toNat e) 0)) (toNat e) (getD a.1 (toNat b) 0)) (toNat i) (getD (set (set a.1 (toNat b) (getD a.1 (toNat e) 0)) (toNat e) (getD a.1 (toNat b) 0)) (toNat h) 0)) (toNat h) (getD (set (set a.1 (toNat b) (getD a.1 (toNat e) 0)) (toNat e) (getD a.1 (toNat b) 0)) (toNat i) 0)),a.2)) λf=>.g (inR b (length f.2.1))<|.g (((toNat b)<length f.2.1)&&((getD f.2.1 (toNat b) 0)<length f.2.2))<|.g (inR f.1 (length f.2.1))<|.g (((toNat f.1)<length f.2.1)&&((getD f.2.1 (toNat f.1) 0)<length f.2.2))<|.g (inR f.1 (length f.2.1))<|.g ((toNat f.1)<length f.2.1)<|.g (inR b (length (set f.2.1 (toNat f.1) (getD f.2.1 (toNat b) 0))))<|.g ((toNat b)<length (set f.2.1 (toNat f.1) (getD f.2.1 (toNat b) 0)))<|.l (f.1,false,(set (set f.2.1 (toNat f.1) (getD f.2.1 (toNat b) 0)) (toNat b) (getD f.2.1 (toNat f.1) 0)),f.2.2))
def waym f b e c a:=(wchy f b e c a).ev
def wchz:FP prog:=fnP cx func321 [] (yj [.arr 64,.dat yi,.dat yi,.dat yi,.clo [y1,y1] yi]) [Zay] [.arg 0] ((λf x=>f x.1.2.1 x.1.2.2.1 x.1.2.2.2.1 x.1.2.2.2.2.1 x.2.1) wchy) ⟨[],[.tmp 10,.tmp 11],(yj [.dat yi,.dat .bool]),[Zay],[(0,0,64)],[]⟩ (λr=>((r.1,r.2.1,()),r.2.2,())) noZ [(0,wbqj),(2,wbqk),(6,wbql),(8,wbqm),(4,wbqn)]
def wbjd(b:(Int)->(Int)->(Int)->(Yw)->Yo->Option Yo)(k:Yw)(v:Int×Int×Int×Bool×Bool×Yo):Tr ((Int×Int×Int×Bool×Bool×Yo)⊕Yo):=.t ((wrap .i64 (v.2.1-v.1))<=(12:Int)) (.c _ (wcns v.1 v.2.1 k v.2.2.2.2.2) λaa=>.l (.inr aa)) (.t (v.2.2.1==0) (.f) (.t (!v.2.2.2.1) (.c _ (wcnx v.1 v.2.1 k v.2.2.2.2.2) λa=>.c _ (wchw (permL a.1 a.2) v.1 v.2.1 k) λh=>.t (h.2==2) (.f) (.t v.2.2.2.1 (.t v.2.2.2.2.1 (.t (h.2==1) (.f) (.t (0<v.1) (.g (inR (wrap .i64 (v.1-1)) (length a.1))<|.g (((toNat (wrap .i64 (v.1-1)))<length a.1)&&((getD a.1 (toNat (wrap .i64 (v.1-1))) 0)<length a.2))<|.g (inR h.1 (length a.1))<|.g (((toNat h.1)<length a.1)&&((getD a.1 (toNat h.1) 0)<length a.2))<|.c _ (k ((getD a.2 (getD a.1 (toNat (wrap .i64 (v.1-1))) 0) []),(getD a.2 (getD a.1 (toNat h.1) 0) []),())) λai=>.t (!(ai<0)) (.f) (.c _ (waym v.1 v.2.1 h.1 k a) λo=>.g (!decide ((8:Int)=0))<|.t ((wrap .i64 (o.1-v.1))<(wrap .i64 (v.2.1-o.1))) (.c _ (b v.1 o.1 (wrap .i64 (v.2.2.1-1)) k o.2.2) λbd=>.l (.inl ((wrap .i64 (o.1+1)),v.2.1,(wrap .i64 (v.2.2.1-1)),((wrap .i64 (Int.tdiv (wrap .i64 (v.2.1-v.1)) 8))<=(wrap .i64 (o.1-v.1))),o.2.1,bd))) (.c _ (b (wrap .i64 (o.1+1)) v.2.1 (wrap .i64 (v.2.2.1-1)) k o.2.2) λbb=>.l (.inl (v.1,o.1,(wrap .i64 (v.2.2.1-1)),((wrap .i64 (Int.tdiv (wrap .i64 (v.2.1-v.1)) 8))<=(wrap .i64 (v.2.1-o.1))),o.2.1,bb))))) (.c _ (waym v.1 v.2.1 h.1 k a) λp=>.g (!decide ((8:Int)=0))<|.t ((wrap .i64 (p.1-v.1))<(wrap .i64 (v.2.1-p.1))) (.c _ (b v.1 p.1 (wrap .i64 (v.2.2.1-1)) k p.2.2) λba=>.l (.inl ((wrap .i64 (p.1+1)),v.2.1,(wrap .i64 (v.2.2.1-1)),((wrap .i64 (Int.tdiv (wrap .i64 (v.2.1-v.1)) 8))<=(wrap .i64 (p.1-v.1))),p.2.1,ba))) (.c _ (b (wrap .i64 (p.1+1)) v.2.1 (wrap .i64 (v.2.2.1-1)) k p.2.2) λal=>.l (.inl (v.1,p.1,(wrap .i64 (v.2.2.1-1)),((wrap .i64 (Int.tdiv (wrap .i64 (v.2.1-v.1)) 8))<=(wrap .i64 (v.2.1-p.1))),p.2.1,al)))))) (.t (0<v.1) (.g (inR (wrap .i64 (v.1-1)) (length a.1))<|.g (((toNat (wrap .i64 (v.1-1)))<length a.1)&&((getD a.1 (toNat (wrap .i64 (v.1-1))) 0)<length a.2))<|.g (inR h.1 (length a.1))<|.g (((toNat h.1)<length a.1)&&((getD a.1 (toNat h.1) 0)<length a.2))<|.c _ (k ((getD a.2 (getD a.1 (toNat (wrap .i64 (v.1-1))) 0) []),(getD a.2 (getD a.1 (toNat h.1) 0) []),())) λac=>.t (!(ac<0)) (.f) (.c _ (waym v.1 v.2.1 h.1 k a) λy=>.g (!decide ((8:Int)=0))<|.t ((wrap .i64 (y.1-v.1))<(wrap .i64 (v.2.1-y.1))) (.c _ (b v.1 y.1 (wrap .i64 (v.2.2.1-1)) k y.2.2) λbe=>.l (.inl ((wrap .i64 (y.1+1)),v.2.1,(wrap .i64 (v.2.2.1-1)),((wrap .i64 (Int.tdiv (wrap .i64 (v.2.1-v.1)) 8))<=(wrap .i64 (y.1-v.1))),y.2.1,be))) (.c _ (b (wrap .i64 (y.1+1)) v.2.1 (wrap .i64 (v.2.2.1-1)) k y.2.2) λaz=>.l (.inl (v.1,y.1,(wrap .i64 (v.2.2.1-1)),((wrap .i64 (Int.tdiv (wrap .i64 (v.2.1-v.1)) 8))<=(wrap .i64 (v.2.1-y.1))),y.2.1,az))))) (.c _ (waym v.1 v.2.1 h.1 k a) λu=>.g (!decide ((8:Int)=0))<|.t ((wrap .i64 (u.1-v.1))<(wrap .i64 (v.2.1-u.1))) (.c _ (b v.1 u.1 (wrap .i64 (v.2.2.1-1)) k u.2.2) λao=>.l (.inl ((wrap .i64 (u.1+1)),v.2.1,(wrap .i64 (v.2.2.1-1)),((wrap .i64 (Int.tdiv (wrap .i64 (v.2.1-v.1)) 8))<=(wrap .i64 (u.1-v.1))),u.2.1,ao))) (.c _ (b (wrap .i64 (u.1+1)) v.2.1 (wrap .i64 (v.2.2.1-1)) k u.2.2) λae=>.l (.inl (v.1,u.1,(wrap .i64 (v.2.2.1-1)),((wrap .i64 (Int.tdiv (wrap .i64 (v.2.1-v.1)) 8))<=(wrap .i64 (v.2.1-u.1))),u.2.1,ae)))))) (.t (0<v.1) (.g (inR (wrap .i64 (v.1-1)) (length a.1))<|.g (((toNat (wrap .i64 (v.1-1)))<length a.1)&&((getD a.1 (toNat (wrap .i64 (v.1-1))) 0)<length a.2))<|.g (inR h.1 (length a.1))<|.g (((toNat h.1)<length a.1)&&((getD a.1 (toNat h.1) 0)<length a.2))<|.c _ (k ((getD a.2 (getD a.1 (toNat (wrap .i64 (v.1-1))) 0) []),(getD a.2 (getD a.1 (toNat h.1) 0) []),())) λan=>.t (!(an<0)) (.f) (.c _ (waym v.1 v.2.1 h.1 k a) λi=>.g (!decide ((8:Int)=0))<|.t ((wrap .i64 (i.1-v.1))<(wrap .i64 (v.2.1-i.1))) (.c _ (b v.1 i.1 (wrap .i64 (v.2.2.1-1)) k i.2.2) λah=>.l (.inl ((wrap .i64 (i.1+1)),v.2.1,(wrap .i64 (v.2.2.1-1)),((wrap .i64 (Int.tdiv (wrap .i64 (v.2.1-v.1)) 8))<=(wrap .i64 (i.1-v.1))),i.2.1,ah))) (.c _ (b (wrap .i64 (i.1+1)) v.2.1 (wrap .i64 (v.2.2.1-1)) k i.2.2) λbc=>.l (.inl (v.1,i.1,(wrap .i64 (v.2.2.1-1)),((wrap .i64 (Int.tdiv (wrap .i64 (v.2.1-v.1)) 8))<=(wrap .i64 (v.2.1-i.1))),i.2.1,bc))))) (.c _ (waym v.1 v.2.1 h.1 k a) λn=>.g (!decide ((8:Int)=0))<|.t ((wrap .i64 (n.1-v.1))<(wrap .i64 (v.2.1-n.1))) (.c _ (b v.1 n.1 (wrap .i64 (v.2.2.1-1)) k n.2.2) λaj=>.l (.inl ((wrap .i64 (n.1+1)),v.2.1,(wrap .i64 (v.2.2.1-1)),((wrap .i64 (Int.tdiv (wrap .i64 (v.2.1-v.1)) 8))<=(wrap .i64 (n.1-v.1))),n.2.1,aj))) (.c _ (b (wrap .i64 (n.1+1)) v.2.1 (wrap .i64 (v.2.2.1-1)) k n.2.2) λap=>.l (.inl (v.1,n.1,(wrap .i64 (v.2.2.1-1)),((wrap .i64 (Int.tdiv (wrap .i64 (v.2.1-v.1)) 8))<=(wrap .i64 (v.2.1-n.1))),n.2.1,ap))))))) (.c _ (wchw (permL v.2.2.2.2.2.1 v.2.2.2.2.2.2) v.1 v.2.1 k) λe=>.t (e.2==2) (.f) (.t v.2.2.2.1 (.t v.2.2.2.2.1 (.t (e.2==1) (.f) (.t (0<v.1) (.g (inR (wrap .i64 (v.1-1)) (length v.2.2.2.2.2.1))<|.g (((toNat (wrap .i64 (v.1-1)))<length v.2.2.2.2.2.1)&&((getD v.2.2.2.2.2.1 (toNat (wrap .i64 (v.1-1))) 0)<length v.2.2.2.2.2.2))<|.g (inR e.1 (length v.2.2.2.2.2.1))<|.g (((toNat e.1)<length v.2.2.2.2.2.1)&&((getD v.2.2.2.2.2.1 (toNat e.1) 0)<length v.2.2.2.2.2.2))<|.c _ (k ((getD v.2.2.2.2.2.2 (getD v.2.2.2.2.2.1 (toNat (wrap .i64 (v.1-1))) 0) []),(getD v.2.2.2.2.2.2 (getD v.2.2.2.2.2.1 (toNat e.1) 0) []),())) λay=>.t (!(ay<0)) (.f) (.c _ (waym v.1 v.2.1 e.1 k v.2.2.2.2.2) λr=>.g (!decide ((8:Int)=0))<|.t ((wrap .i64 (r.1-v.1))<(wrap .i64 (v.2.1-r.1))) (.c _ (b v.1 r.1 v.2.2.1 k r.2.2) λz=>.l (.inl ((wrap .i64 (r.1+1)),v.2.1,v.2.2.1,((wrap .i64 (Int.tdiv (wrap .i64 (v.2.1-v.1)) 8))<=(wrap .i64 (r.1-v.1))),r.2.1,z))) (.c _ (b (wrap .i64 (r.1+1)) v.2.1 v.2.2.1 k r.2.2) λam=>.l (.inl (v.1,r.1,v.2.2.1,((wrap .i64 (Int.tdiv (wrap .i64 (v.2.1-v.1)) 8))<=(wrap .i64 (v.2.1-r.1))),r.2.1,am))))) (.c _ (waym v.1 v.2.1 e.1 k v.2.2.2.2.2) λj=>.g (!decide ((8:Int)=0))<|.t ((wrap .i64 (j.1-v.1))<(wrap .i64 (v.2.1-j.1))) (.c _ (b v.1 j.1 v.2.2.1 k j.2.2) λak=>.l (.inl ((wrap .i64 (j.1+1)),v.2.1,v.2.2.1,((wrap .i64 (Int.tdiv (wrap .i64 (v.2.1-v.1)) 8))<=(wrap .i64 (j.1-v.1))),j.2.1,ak))) (.c _ (b (wrap .i64 (j.1+1)) v.2.1 v.2.2.1 k j.2.2) λad=>.l (.inl (v.1,j.1,v.2.2.1,((wrap .i64 (Int.tdiv (wrap .i64 (v.2.1-v.1)) 8))<=(wrap .i64 (v.2.1-j.1))),j.2.1,ad)))))) (.t (0<v.1) (.g (inR (wrap .i64 (v.1-1)) (length v.2.2.2.2.2.1))<|.g (((toNat (wrap .i64 (v.1-1)))<length v.2.2.2.2.2.1)&&((getD v.2.2.2.2.2.1 (toNat (wrap .i64 (v.1-1))) 0)<length v.2.2.2.2.2.2))<|.g (inR e.1 (length v.2.2.2.2.2.1))<|.g (((toNat e.1)<length v.2.2.2.2.2.1)&&((getD v.2.2.2.2.2.1 (toNat e.1) 0)<length v.2.2.2.2.2.2))<|.c _ (k ((getD v.2.2.2.2.2.2 (getD v.2.2.2.2.2.1 (toNat (wrap .i64 (v.1-1))) 0) []),(getD v.2.2.2.2.2.2 (getD v.2.2.2.2.2.1 (toNat e.1) 0) []),())) λbf=>.t (!(bf<0)) (.f) (.c _ (waym v.1 v.2.1 e.1 k v.2.2.2.2.2) λq=>.g (!decide ((8:Int)=0))<|.t ((wrap .i64 (q.1-v.1))<(wrap .i64 (v.2.1-q.1))) (.c _ (b v.1 q.1 v.2.2.1 k q.2.2) λaq=>.l (.inl ((wrap .i64 (q.1+1)),v.2.1,v.2.2.1,((wrap .i64 (Int.tdiv (wrap .i64 (v.2.1-v.1)) 8))<=(wrap .i64 (q.1-v.1))),q.2.1,aq))) (.c _ (b (wrap .i64 (q.1+1)) v.2.1 v.2.2.1 k q.2.2) λaw=>.l (.inl (v.1,q.1,v.2.2.1,((wrap .i64 (Int.tdiv (wrap .i64 (v.2.1-v.1)) 8))<=(wrap .i64 (v.2.1-q.1))),q.2.1,aw))))) (.c _ (waym v.1 v.2.1 e.1 k v.2.2.2.2.2) λs=>.g (!decide ((8:Int)=0))<|.t ((wrap .i64 (s.1-v.1))<(wrap .i64 (v.2.1-s.1))) (.c _ (b v.1 s.1 v.2.2.1 k s.2.2) λar=>.l (.inl ((wrap .i64 (s.1+1)),v.2.1,v.2.2.1,((wrap .i64 (Int.tdiv (wrap .i64 (v.2.1-v.1)) 8))<=(wrap .i64 (s.1-v.1))),s.2.1,ar))) (.c _ (b (wrap .i64 (s.1+1)) v.2.1 v.2.2.1 k s.2.2) λag=>.l (.inl (v.1,s.1,v.2.2.1,((wrap .i64 (Int.tdiv (wrap .i64 (v.2.1-v.1)) 8))<=(wrap .i64 (v.2.1-s.1))),s.2.1,ag)))))) (.t (0<v.1) (.g (inR (wrap .i64 (v.1-1)) (length v.2.2.2.2.2.1))<|.g (((toNat (wrap .i64 (v.1-1)))<length v.2.2.2.2.2.1)&&((getD v.2.2.2.2.2.1 (toNat (wrap .i64 (v.1-1))) 0)<length v.2.2.2.2.2.2))<|.g (inR e.1 (length v.2.2.2.2.2.1))<|.g (((toNat e.1)<length v.2.2.2.2.2.1)&&((getD v.2.2.2.2.2.1 (toNat e.1) 0)<length v.2.2.2.2.2.2))<|.c _ (k ((getD v.2.2.2.2.2.2 (getD v.2.2.2.2.2.1 (toNat (wrap .i64 (v.1-1))) 0) []),(getD v.2.2.2.2.2.2 (getD v.2.2.2.2.2.1 (toNat e.1) 0) []),())) λax=>.t (!(ax<0)) (.f) (.c _ (waym v.1 v.2.1 e.1 k v.2.2.2.2.2) λm=>.g (!decide ((8:Int)=0))<|.t ((wrap .i64 (m.1-v.1))<(wrap .i64 (v.2.1-m.1))) (.c _ (b v.1 m.1 v.2.2.1 k m.2.2) λau=>.l (.inl ((wrap .i64 (m.1+1)),v.2.1,v.2.2.1,((wrap .i64 (Int.tdiv (wrap .i64 (v.2.1-v.1)) 8))<=(wrap .i64 (m.1-v.1))),m.2.1,au))) (.c _ (b (wrap .i64 (m.1+1)) v.2.1 v.2.2.1 k m.2.2) λav=>.l (.inl (v.1,m.1,v.2.2.1,((wrap .i64 (Int.tdiv (wrap .i64 (v.2.1-v.1)) 8))<=(wrap .i64 (v.2.1-m.1))),m.2.1,av))))) (.c _ (waym v.1 v.2.1 e.1 k v.2.2.2.2.2) λw=>.g (!decide ((8:Int)=0))<|.t ((wrap .i64 (w.1-v.1))<(wrap .i64 (v.2.1-w.1))) (.c _ (b v.1 w.1 v.2.2.1 k w.2.2) λab=>.l (.inl ((wrap .i64 (w.1+1)),v.2.1,v.2.2.1,((wrap .i64 (Int.tdiv (wrap .i64 (v.2.1-v.1)) 8))<=(wrap .i64 (w.1-v.1))),w.2.1,ab))) (.c _ (b (wrap .i64 (w.1+1)) v.2.1 v.2.2.1 k w.2.2) λaf=>.l (.inl (v.1,w.1,v.2.2.1,((wrap .i64 (Int.tdiv (wrap .i64 (v.2.1-v.1)) 8))<=(wrap .i64 (v.2.1-w.1))),w.2.1,af)))))))))
def wccn(a:(Int)->(Int)->(Int)->(Yw)->Yo->Option Yo) k v:=iter (λv=>(wbjd a k v).ev) v
def wbea(a:(Int)->(Int)->(Int)->(Yw)->Yo->Option Yo):LD:=yl (wbjd a) (yk [] [0,1,2,3,4,10,11] (yj [.arr 64,.dat yi,.dat yi,.dat yi,.clo [y1,y1] yi,.dat .bool,.dat .bool]) [Zay]) [] yq455 (λk v=>(((),v.1,v.2.1,v.2.2.1,k,v.2.2.2.1,v.2.2.2.2.1,()),v.2.2.2.2.2,())) yq148 (λt=>(t.1.2.1,t.1.2.2.1,t.1.2.2.2.1,t.1.2.2.2.2.2.1,t.1.2.2.2.2.2.2.1,t.2.1)) (λ_ r=>yz yq455 (((),()),r,()))
def wcia(f:(Int)->(Int)->(Int)->(Yw)->Yo->Option Yo)(i e h:Int)(g:Yw)(a:(List Nat)×Y2):Tr Yo:=.c _ (wccn f g (i,e,h,true,true,a)) λb=>.l b
noncomputable def wbdg:Nat->(Int)->(Int)->(Int)->(Yw)->Yo->Option Yo |0=>λ_ _ _ _ _=>none |n+1=>λf b e c a=>(wcia (wbdg n) f b e c a).ev
def wcoa:RetK:= {acts:=[],res:=[],sh:=.nil,obs:=[Zay],pins:=[(0,0,64)]}
def wbsx(a:(Int)->(Int)->(Int)->(Yw)->Yo->Option Yo):FD:={A:=(yj [.arr 64,.dat yi,.dat yi,.dat yi,.clo [y1,y1] yi]),ins:=[Zay],lend:=[.arg 0],R:=(List Nat)×Y2,F:=λx=>a x.1.2.1 x.1.2.2.1 x.1.2.2.2.1 x.1.2.2.2.2.1 x.2.1,emb:=λr=>([],[(64,.perm false 22 3 yi r.1 r.2)])}
def wcib(n:Nat):FD:=wbsx (wbdg n)
def wcco(a:(Int)->(Int)->(Int)->(Yw)->Yo->Option Yo):Env:=envOf [wchm.1,wchq.1,wchx.1,wchz.1,(300,wbsx a)]
def wccp(a:(Int)->(Int)->(Int)->(Yw)->Yo->Option Yo):List (Nat×LD):=[(0,wbea a)]
def wccq:Code:=(f300.body).getD .skip
theorem wccr(a:(Int)->(Int)->(Int)->(Yw)->Yo->Option Yo):(wbea a).OK (wcco a) tt noZ (orcOf (wccp a)) (loopAt wccq 0):=ldMk (λ_=>rfl) λ_ _=>by kernel_rfl
theorem wcob(a:(Int)->(Int)->(Int)->(Yw)->Yo->Option Yo):LoopsOK (wcco a) tt noZ (wccp a) wccq:=lpMk (by kernel_rfl) (lpC (wccr a) lpN)
theorem wbsy:∀n:Nat,FDok prog (300,wcib n) |0=>λ_ _ h=>nomatch h |n+1=>fn_ok mixed (env_ok (fdC wchm.2 (fdC wchq.2 (fdC wchx.2 (fdC wchz.2 (fdC (wbsy n) fdN)))))) tabOK (fnMk (wcib (n+1)) (wcco (wbdg n)) wcoa noZ (wccp (wbdg n)) wccq (λx=>wcia (wbdg n) x.1.2.1 x.1.2.2.1 x.1.2.2.2.1 x.1.2.2.2.2.1 x.2.1) (λr=>((),r,())) func300 (wcob (wbdg n)) λ_=>by kernel_rfl)
def wcoc:FP prog:=⟨_,wbsy 1000000⟩
end
end Go.Proofs.YtidaiohhaanphaaGreatDoor
