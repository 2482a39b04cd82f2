/- A part of the proof that FnExactRunScript hands back true, at every argument of the row. -/
import Derived.Test.YteiekijgoifhoaaGreatDoorC3
namespace Go.Proofs.YteiekijgoifhoaaGreatDoor
noncomputable section
open Go.Proofs.Tryz
open List (length getD set)
open Int (toNat)
open IntKind (wrap)
def waev(b:Y1)(a:List Y1)(e:Y1):Tr (Bool×Bool):=.c _ (wib b a e) λg=>.t (!g) (.l (false,false)) (.c _ (wlp b a e) λf=>.l ((!f.1),true))
def waew a b c:=(waev a b c).ev
abbrev yq299:RetK:=yr [.tmp 4,.tmp 5] (yj [.dat .bool,.dat .bool])
def watx:FP prog:=fnP cx func289 [wli,wanb] (yj [.agg Zb,.dat y1]) [] [] (yq9 waev) yq299 yq173
def weq(k:Int×Yz)(v:Int×Int):Tr (Yq⊕Int):=.t (v.2<(length k.2.2.2:Int)) (.g (inR v.2 (length k.2.2.2))<|.g (inR k.1 (length (getD k.2.2.2 (toNat v.2) [])))<|.g (inR v.2 (length k.2.2.2))<|.g (inR k.2.1 (length (getD k.2.2.2 (toNat v.2) [])))<|.t ((getD (getD k.2.2.2 (toNat v.2) []) (toNat k.1) 0)<(getD (getD k.2.2.2 (toNat v.2) []) (toNat k.2.1) 0)) (.l (.inl ((wrap .i64 (v.1+1)),(wrap .i64 (v.2+1))))) (.l (.inl (v.1,(wrap .i64 (v.2+1)))))) (.l (.inr v.1))
def wnb k v:=iter (λv=>(weq k v).ev) v
def wtx:LD:=yl (weq) (yk [] [1,2,3,7,8] (yj [.dat yi,.dat yi,.box 3 0,.dat yi,.dat yi]) [(3,.cells Zb)]) [(0,yq122)] yq15 yq123 yq124 yq125 (λ_ r=>yx 0 yq122 ((r,()),()))
def waex(f:Y1)(b:List Y1)(g a:Int):Tr Int:=.c _ (wnb (g,a,f,b) (0,0)) λe=>.l e
def wty a c e b:=(waex a c e b).ev
def waty:FP prog:=fnP cx func346 [] (yj [.agg Zb,.dat yi,.dat yi]) [] [] (yq127 waex) yq126 yq2 noZ [(0,wtx)]
def wer(k:Int×Yar)(v:Bool×Int):Tr ((Bool×Int)⊕Bool):=.t (v.2<(length k.2.1:Int)) (.t v.1 (.l (.inl (true,(wrap .i64 (v.2+1))))) (.c _ (wty k.2.1 k.2.2.1 v.2 k.1) λb=>.c _ (wty k.2.1 k.2.2.1 k.1 v.2) λa=>.l (.inl ((a<b),(wrap .i64 (v.2+1)))))) (.l (.inr v.1))
def wnc k v:=iter (λv=>(wer k v).ev) v
abbrev yq302:Keep:=yk [] [1,4,5,6] (yj [.box 1 0,.arr 8,.dat yi,.dat .bool]) [Zo,(8,.arr 3 yi)]
def wtz:LD:=yl (wer) (yk [] [1,4,5,6,7] (yj [.box 1 0,.arr 8,.dat yi,.dat .bool,.dat yi]) [Zo,(8,.arr 3 yi)]) [(2,yq302)] yq15 yq176 yq177 yq125 (λk r=>yx 2 yq302 (((),(),k.1,r,()),(k.2.1,k.2.2.1,()),k.2.2.2,()))
def wes(k:Y1×Y2)(v:Int×Y1):Tr (Yp⊕Y1):=.t (v.1<(length k.1:Int)) (.c _ (wnc (v.1,k.1,k.2,v.2) (false,0)) λa=>.t (!a) (.g ((length v.2+length ([v.1]:Y1))*8<=140737488355328)<|.l (.inl ((wrap .i64 (v.1+1)),(v.2++([v.1]:Y1))))) (.l (.inl ((wrap .i64 (v.1+1)),v.2)))) (.l (.inr v.2))
def wnd k v:=iter (λv=>(wes k v).ev) v
abbrev yq304:Keep:=yk [] [4] (yj [.arr 8]) [(8,.arr 3 yi)]
def wua:LD:=yl (wes) (yk [] [1,4,5] (yj [.box 1 0,.arr 8,.dat yi]) [Zo,(8,.arr 3 yi)]) [(0,yq304)] yq15 yq180 yq140 yq181 (λ_ r=>yx 0 yq304 (((),()),r,()))
def waey(b:Y1)(a:List Y1):Tr Yay:=.c _ (wbo b a) λe=>.t (!e) (.l (false,[])) (.c _ (wnd (b,a) (0,[])) λf=>.l (true,f))
def waez a b:=(waey a b).ev
def watz:FP prog:=fnP cx func290 [wgx,waty] (yj [.agg Zb]) [] [] (yq25 waey) ⟨[.ren 8 0],[.tmp 2,.tmp 3],Zah,[Zaa],[],[]⟩ yq74 noZ [(2,wtz),(0,wua)]
def wafa(e:Y1)(a:List Y1)(f:Y1)(q:Int)(b:List UInt8):Tr (List UInt8):=.t (b==([116,111,116,97,108]:List UInt8)) (.c _ (wsg e a f q) λi=>.c _ (wie i.1 i.2) λu=>.l u) (.t (b==([103,97,112]:List UInt8)) (.c _ (wadk e a f q) λo=>.c _ (wie o.1 o.2) λab=>.l ab) (.t (b==([115,101,114,118,105,99,101]:List UInt8)) (.c _ (wadm e a f) λs=>.c _ (wie s.1 s.2) λae=>.l ae) (.t (b==([114,101,97,99,104]:List UInt8)) (.c _ (wadp e a f) λg=>.c _ (wie g.1 g.2) λag=>.l ag) (.t (b==([115,101,114,118,101,100]:List UInt8)) (.c _ (wadr e a f) λn=>.c _ (wek n.2 n.1) λz=>.l z) (.t (b==([109,101,116,114,105,99]:List UInt8)) (.c _ (wadw e a) λj=>.c _ (wadx j.1 j.2) λaf=>.l af) (.t (b==([102,105,101,108,100]:List UInt8)) (.c _ (wtb e a) λw=>.l w) (.t (b==([112,114,105,99,101,115]:List UInt8)) (.c _ (waeb e a) λh=>.c _ (wek h.2 h.1) λy=>.l y) (.t (b==([103,114,111,119,116,104]:List UInt8)) (.c _ (wjt e a) λm=>.c _ (wek m.1 m.2) λad=>.l ad) (.t (b==([108,111,99,97,108]:List UInt8)) (.c _ (waew e a f) λr=>.c _ (wadx r.1 r.2) λac=>.l ac) (.t (b==([117,110,98,101,97,116,101,110]:List UInt8)) (.c _ (waez e a) λp=>.c _ (wek p.2 p.1) λaa=>.l aa) (.l ([63]:List UInt8))))))))))))
def wub e b f a c:=(wafa e b f a c).ev
def waub:FP prog:=fnP cx func208 [wanh,wasu,wasz,wata,watb,watc,wanl,wate,watf,wati,watj,watw,watx,watz] (yj [.agg Zd,.dat .str]) [] [] (yq10 wafa) yq67 yq2
def wafb(h:Y1)(f:List Y1)(i:Y1)(b:Int)(j:List UInt8):Tr (Y1×Y2×Y1×Int×(List UInt8)):=.t (j==([105,109,112,114,111,118,101]:List UInt8)) (.c _ (ww h f i b 10 0 0 0 []) λg=>.l (g.1,g.2.1,g.2.2.1,g.2.2.2.1,g.2.2.2.2)) (.t (j==([98,101,115,116]:List UInt8)) (.c _ (ww h f i b 11 0 0 0 []) λe=>.l (e.1,e.2.1,e.2.2.1,e.2.2.2.1,e.2.2.2.2)) (.t (j==([99,108,105,101,110,116]:List UInt8)) (.c _ (ww h f i b 7 0 0 0 []) λa=>.l (a.1,a.2.1,a.2.2.1,a.2.2.2.1,a.2.2.2.2)) (.c _ (wub h f i b j) λm=>.l (h,f,i,b,m))))
def wij e b f a c:=(wafb e b f a c).ev
abbrev yq306:RetK:=yr [.cell 4 38,.tmp 5] (yj [.agg Zd,.dat .str])
def wauc:FP prog:=fnP cx func134 [wsf,waub] (yj [.agg Zd,.dat .str]) [] [] (yq10 wafb) yq306 yq171
def wbg(k:(List UInt8)×(List UInt8))(v:Int×Int):Tr (Yq⊕(Int⊕Unit)):=.t (v.2<(length k.2:Int)) (.g (inR v.2 (length k.2))<|.t (((UInt8.toNat (getD k.2 (toNat v.2) 0):Nat):Int)<(48:Int)) (.l (.inr (.inr ()))) (.g (inR v.2 (length k.2))<|.t ((57:Int)<((UInt8.toNat (getD k.2 (toNat v.2) 0):Nat):Int)) (.l (.inr (.inr ()))) (.g (inR v.2 (length k.2))<|.l (.inl ((wrap .i64 ((wrap .i64 ((10:Int)*v.1))+(wrap .i64 (wrap .u8 (((UInt8.toNat (getD k.2 (toNat v.2) 0):Nat):Int) -48))))),(wrap .i64 (v.2+1))))))) (.l (.inr (.inl v.1)))
def wch k v:=iter (λv=>(wbg k v).ev) v
abbrev yq308:Keep:=yh [0,4,5] Zac
abbrev yq309:Keep:=yh [2,3] (yj [.dat yi,.dat .bool])
def wuc:LD:=yl (wbg) (yh [0,4,5,6] (yj [.dat .str,.dat .str,.dat yi,.dat yi])) [(0,yq308)] yq309 (λk v=>((k.1,k.2,v.1,v.2,()),())) yq55 yq131 (λk r=>.s _ _ r (λa=>yx 0 yq308 ((k.1,k.2,a,()),())) (λ_=>yz yq309 ((0,false,()),())))
def wafc(a:List UInt8):Tr (Int×Bool):=.t ((1:Int)<(length a:Int)) (.g (inR 0 (length a))<|.t (((UInt8.toNat (getD a (toNat 0) 0):Nat):Int)==(45:Int)) (.g (((0:Int)<=(1:Int))&&((1:Int)<=(length a:Int)))<|.c _ (wag (length (List.drop (toNat 1) (List.take (length a) a)):Int) 1 6) λq=>.t (!q) (.l (0,false)) (.c _ (wch (a,(List.drop (toNat 1) (List.take (length a) a))) (0,0)) λu=>.s _ _ u (λb=>.t ((length (List.drop (toNat 1) (List.take (length a) a)):Int)<(length a:Int)) (.c _ (wu 1000000 (wrap .i64 (0-b))) λi=>.t (!(i==a)) (.l (0,false)) (.l ((wrap .i64 (0-b)),true))) (.c _ (wu 1000000 b) λy=>.t (!(y==a)) (.l (0,false)) (.l (b,true)))) (λ_=>.l (0,false)))) (.c _ (wag (length a:Int) 1 6) λj=>.t (!j) (.l (0,false)) (.c _ (wch (a,a) (0,0)) λm=>.s _ _ m (λe=>.t ((length a:Int)<(length a:Int)) (.c _ (wu 1000000 (wrap .i64 (0-e))) λo=>.t (!(o==a)) (.l (0,false)) (.l ((wrap .i64 (0-e)),true))) (.c _ (wu 1000000 e) λn=>.t (!(n==a)) (.l (0,false)) (.l (e,true)))) (λ_=>.l (0,false))))) (.c _ (wag (length a:Int) 1 6) λr=>.t (!r) (.l (0,false)) (.c _ (wch (a,a) (0,0)) λw=>.s _ _ w (λf=>.t ((length a:Int)<(length a:Int)) (.c _ (wu 1000000 (wrap .i64 (0-f))) λh=>.t (!(h==a)) (.l (0,false)) (.l ((wrap .i64 (0-f)),true))) (.c _ (wu 1000000 f) λp=>.t (!(p==a)) (.l (0,false)) (.l (f,true)))) (λ_=>.l (0,false))))
def wafd a:=(wafc a).ev
def waud:FP prog:=fnP cx func209 [wgq,whd] (yj [.dat .str]) [] [] (yq19 wafc) yq172 yq173 noZ [(0,wuc)]
def wci(k:List (List UInt8))(v:Int×Y1):Tr (Yp⊕(Y1⊕Unit)):=.t (v.1<(length k:Int)) (.g (inR v.1 (length k))<|.c _ (wafd (getD k (toNat v.1) [])) λa=>.t (!a.2) (.l (.inr (.inr ()))) (.g ((length v.2+length ([a.1]:Y1))*8<=140737488355328)<|.l (.inl ((wrap .i64 (v.1+1)),(v.2++([a.1]:Y1)))))) (.l (.inr (.inl v.2)))
def wne k v:=iter (λv=>(wci k v).ev) v
abbrev yq312:Keep:=yk [] [2,3] (yj [.arr 25,.dat .bool]) [(25,.arr 3 yi)]
def wud:LD:=yl (wci) (yk [] [0,4,5] (yj [.dat (.slice .str),.arr 8,.dat yi]) [(8,.arr 3 yi)]) [(0,yq304)] yq312 yq16 yq7 yq17 (λ_ r=>.s Y1 Unit r (λa=>yx 0 yq304 (((),()),a,())) (λ_=>yz yq312 (((),false,()),[],())))
def wafg(a:List (List UInt8)):Tr Yay:=.c _ (wne a (1,[])) λb=>.s Y1 Unit b (λe=>.l (true,e)) (λ_=>.l (false,[]))
def wue a:=(wafg a).ev
def waue:FP prog:=fnP cx func135 [waud] (yj [.dat (.slice .str)]) [] [] (yq19 wafg) ⟨[.ren 8 0,.ren 25 0],[.tmp 2,.tmp 3],Zah,[Zaa],[],[]⟩ yq74 noZ [(0,wud)]
def wafh(a:Y1)(e:List Y1)(g:Int):Tr Bool:=.c _ (wbo a e) λf=>.t f (.c _ (wag g 1 (length a:Int)) λb=>.l b) (.l false)
def wafi a b c:=(wafh a b c).ev
def waug:FP prog:=fnP cx func291 [wgx,wgq] (yj [.agg Zb,.dat yi]) [] [] (yq9 wafh) yq51 yq2
def wap(k:Int×Y2×Y1×Y2)(v:Y1×Int):Tr ((Y1×Int)⊕Y1):=.t (v.2<(length k.2.1:Int)) (.g (inR v.2 (length k.2.1))<|.t ((length (getD k.2.1 (toNat v.2) []):Int)==k.1) (.t ((length v.1:Int)==(0:Int)) (.g (inR v.2 (length k.2.1))<|.l (.inl ((getD k.2.1 (toNat v.2) []),(wrap .i64 (v.2+1))))) (.g (inR v.2 (length k.2.1))<|.c _ (wjs k.2.2.1 k.2.2.2 (getD k.2.1 (toNat v.2) [])) λa=>.c _ (wjs k.2.2.1 k.2.2.2 v.1) λb=>.t (a<b) (.g (inR v.2 (length k.2.1))<|.l (.inl ((getD k.2.1 (toNat v.2) []),(wrap .i64 (v.2+1))))) (.l (.inl (v.1,(wrap .i64 (v.2+1))))))) (.l (.inl (v.1,(wrap .i64 (v.2+1)))))) (.l (.inr v.1))
def wnf k v:=iter (λv=>(wap k v).ev) v
def wuf:LD:=yl (wap) (yk [.fz 12] [1,2,5,6,7] (yj [.dat yi,.box 2 0,.dat y2,.dat y1,.dat yi]) [Zal]) [(0,yq295)] yq15 (λk v=>((k.1,(),k.2.1,v.1,v.2,()),(k.2.2.1,k.2.2.2,()),())) (λt=>(t.1.1,t.1.2.2.1,t.2.1.1,t.2.1.2.1)) yq125 (λ_ r=>yx 0 yq295 ((r,()),()))
def wafj(a:Y1)(b:List Y1)(g:Int):Tr Y1:=.c _ (wlu (length a:Int)) λf=>.c _ (wnf (g,f,a,b) ([],0)) λe=>.l e
def wafk a b c:=(wafj a b c).ev
abbrev yq317:RetK:=yr [.tmp 4] Zbd
def wauh:FP prog:=fnP cx func292 [wacp,wacd] (yj [.agg Zb,.dat yi]) [] [] (yq9 wafj) yq317 yq2 noZ [(0,wuf)]
def wug(b:Y1)(a:List Y1)(e:Int):Tr (Y1×Bool):=.c _ (wafi b a e) λg=>.t (!g) (.l ([],false)) (.c _ (wafk b a e) λf=>.l (f,true))
def wuh a b c:=(wug a b c).ev
def waui:FP prog:=fnP cx func212 [waug,wauh] (yj [.agg Zb,.dat yi]) [] [] (yq9 wug) ⟨[.fz 10],[.tmp 4,.tmp 5],(yj [.dat y1,.dat .bool]),[],[],[]⟩ yq173
def wafl(a:Y1)(e:List Y1)(g:Int):Tr Bool:=.c _ (wbo a e) λf=>.t f (.c _ (wag g 1 (length a:Int)) λb=>.l b) (.l false)
def wafm a b c:=(wafl a b c).ev
def wauj:FP prog:=fnP cx func293 [wgx,wgq] (yj [.agg Zb,.dat yi]) [] [] (yq9 wafl) yq51 yq2
def wcj(k v:Int×Y2):Tr ((Int×Y2)⊕Y2):=.t (v.1<(length k.2:Int)) (.g (inR v.1 (length k.2))<|.t ((length (getD k.2 (toNat v.1) []):Int)<=k.1) (.g (inR v.1 (length k.2))<|.g ((length v.2+length ([(getD k.2 (toNat v.1) [])]:List Y1))*24<=140737488355328)<|.l (.inl ((wrap .i64 (v.1+1)),(v.2++([(getD k.2 (toNat v.1) [])]:List Y1))))) (.l (.inl ((wrap .i64 (v.1+1)),v.2)))) (.l (.inr v.2))
def wng k v:=iter (λv=>(wcj k v).ev) v
abbrev yq324:Keep:=yk [] [5] (yj [.arr 8]) [(8,.arr 22 y1)]
abbrev yq326{a b c d e:Type}(t:(a×b×c×d)×e):=(t.1.1,t.1.2.2.1)
def wui:LD:=yl (wcj) (yk [] [1,5,6,7] (yj [.dat yi,.arr 8,.dat y2,.dat yi]) [(8,.arr 22 y1)]) [(0,yq324)] yq15 (λk v=>((k.1,(),k.2,v.1,()),v.2,())) yq326 yq89 (λ_ r=>yx 0 yq324 (((),()),r,()))
def wafn(e:Y1)(_g:List Y1)(f:Int):Tr Y2:=.c _ (wlu (length e:Int)) λb=>.c _ (wng (f,b) (0,[])) λa=>.l a
def wafo a b c:=(wafn a b c).ev
def wauk:FP prog:=fnP cx func348 [wacp] (yj [.agg Zb,.dat yi]) [] [] (yq9 wafn) ⟨[.ren 8 0],[.tmp 4],Zan,[(0,.arr 22 y1)],[],[]⟩ yq20 noZ [(0,wui)]
def wet(k:Y1×Y2×Y2)(v:Y1×Int):Tr ((Y1×Int)⊕Y1):=.t (v.2<(length k.2.2:Int)) (.g (inR v.2 (length k.2.2))<|.g ((toNat v.2)<length k.2.2)<|.c _ (wmd k.1 k.2.1 (getD k.2.2 (toNat v.2) [])) λb=>.c _ (wmd k.1 k.2.1 v.1) λa=>.t (b<a) (.g (inR v.2 (length k.2.2))<|.g ((toNat v.2)<length k.2.2)<|.l (.inl ((getD k.2.2 (toNat v.2) []),(wrap .i64 (v.2+1))))) (.l (.inl (v.1,(wrap .i64 (v.2+1)))))) (.l (.inr v.1))
def wnh k v:=iter (λv=>(wet k v).ev) v
def wuj:LD:=yl (wet) (yk [] [2,5,6,7] (yj [.box 2 0,.arr 640,.dat y1,.dat yi]) [Zal,(640,.arr 22 y1)]) [(0,yq295)] yq15 (λk v=>(((),(),v.1,v.2,()),(k.1,k.2.1,()),k.2.2,())) (λt=>(t.2.1.1,t.2.1.2.1,t.2.2.1)) yq131 (λ_ r=>yx 0 yq295 ((r,()),()))
def wafp(e:Y1)(b:List Y1)(h:Int):Tr Y1:=.c _ (wafo e b h) λa=>.g (inR 0 (length a))<|.g ((toNat 0)<length a)<|.c _ (wnh (e,b,a) ((getD a (toNat 0) []),1)) λf=>.l f
def wafq a b c:=(wafp a b c).ev
def waul:FP prog:=fnP cx func294 [wauk,wank] (yj [.agg Zb,.dat yi]) [] [] (yq9 wafp) yq317 yq2 noZ [(0,wuj)]
def wuk(b:Y1)(a:List Y1)(e:Int):Tr Yay:=.c _ (wafm b a e) λh=>.t (!h) (.l (false,[])) (.c _ (wafq b a e) λg=>.c _ (wdg g) λf=>.l (true,f))
def wul a b c:=(wuk a b c).ev
def waum:FP prog:=fnP cx func213 [wauj,waul,wjq] (yj [.agg Zb,.dat yi]) [] [] (yq9 wuk) ⟨[.ren 10 0,.ren 896 0],[.tmp 4,.tmp 5],Zah,[Zaa],[],[]⟩ yq74
def wbh(k:Int×Int×Yz)(v:Int):Tr (Int⊕(Unit⊕Unit)):=.t (v<(length k.2.2.2.1:Int)) (.g (inR k.1 (length k.2.2.2.2))<|.g (inR v (length (getD k.2.2.2.2 (toNat k.1) [])))<|.t ((getD (getD k.2.2.2.2 (toNat k.1) []) (toNat v) 0)<=k.2.2.1) (.g (inR k.2.1 (length k.2.2.2.2))<|.g (inR v (length (getD k.2.2.2.2 (toNat k.2.1) [])))<|.t ((getD (getD k.2.2.2.2 (toNat k.2.1) []) (toNat v) 0)<=k.2.2.1) (.l (.inr (.inr ()))) (.l (.inl (wrap .i64 (v+1))))) (.l (.inl (wrap .i64 (v+1))))) (.l (.inr (.inl ())))
def wni k v:=iter (λv=>(wbh k v).ev) v
def wum:LD:=yl (wbh) (yk [] [1,2,3,4,9] (yj [.dat yi,.dat yi,.dat yi,.box 4 0,.dat yi]) [(4,.cells Zb)]) [(0,yq15)] yq280 (λk v=>((k.1,k.2.1,k.2.2.1,(),v,()),(k.2.2.2.1,k.2.2.2.2,()),())) yq185 yq149 (λ_ r=>.s _ _ r (λ_=>yx 0 yq15 ((),())) (λ_=>yz yq280 ((false,()),())))
def wafr(g:Y1)(b:List Y1)(h a e:Int):Tr Bool:=.c _ (wni (h,a,e,g,b) 0) λf=>.s _ _ f (λ_=>.l true) (λ_=>.l false)
def wafs e b f a c:=(wafr e b f a c).ev
def waun:FP prog:=fnP cx func381 [] (yj [.agg Zb,.dat yi,.dat yi,.dat yi]) [] [] (yq188 wafr) yq283 yq2 noZ [(0,wum)]
def wck(k:Y1×Int×Yz)(v:Int):Tr (Int⊕(Unit⊕Unit)):=.t (v<k.2.2.1) (.g (inR k.2.2.1 (length k.1))<|.g (inR v (length k.1))<|.c _ (wafs k.2.2.2.1 k.2.2.2.2 (getD k.1 (toNat k.2.2.1) 0) (getD k.1 (toNat v) 0) k.2.1) λa=>.t (!a) (.l (.inr (.inr ()))) (.l (.inl (wrap .i64 (v+1))))) (.l (.inr (.inl ())))
def wnj k v:=iter (λv=>(wck k v).ev) v
abbrev yq335:Keep:=yk [] [1,2,3,7] (yj [.dat y1,.dat yi,.box 3 0,.dat yi]) [(3,.cells Zb)]
abbrev yq336{a b c d e g:Type}(k:a×b×c×d×e)(v:g):=((k.1,k.2.1,(),k.2.2.1,v,()),(k.2.2.2.1,k.2.2.2.2,()),())
def wuo:LD:=yl (wck) (yk [] [1,2,3,7,8] (yj [.dat y1,.dat yi,.box 3 0,.dat yi,.dat yi]) [(3,.cells Zb)]) [(2,yq335)] yq40 yq336 yq192 yq149 (λk r=>.s _ _ r (λ_=>yx 2 yq335 ((k.1,k.2.1,(),k.2.2.1,()),(k.2.2.2.1,k.2.2.2.2,()),())) (λ_=>yz yq40 ((false,()),())))
def wcl(k:Y1×Yz)(v:Int):Tr (Int⊕(Unit⊕Unit)):=.t (v<(length k.1:Int)) (.c _ (wnj (k.1,k.2.1,v,k.2.2.1,k.2.2.2) 0) λa=>.s _ _ a (λ_=>.l (.inl (wrap .i64 (v+1)))) (λ_=>.l (.inr (.inr ())))) (.l (.inr (.inl ())))
def wnl k v:=iter (λv=>(wcl k v).ev) v
def wup:LD:=yl (wcl) yq335 [(0,yq15)] yq40 (λk v=>((k.1,k.2.1,(),v,()),(k.2.2.1,k.2.2.2,()),())) yq124 yq43 (λ_ r=>.s _ _ r (λ_=>yx 0 yq15 ((),())) (λ_=>yz yq40 ((false,()),())))
def waft(f:Y1)(b:List Y1)(g:Y1)(a:Int):Tr Bool:=.c _ (wnl (g,a,f,b) 0) λe=>.s _ _ e (λ_=>.l true) (λ_=>.l false)
def wuq a c e b:=(waft a c e b).ev
def wauo:FP prog:=fnP cx func350 [waun] (yj [.agg Zb,.dat y1,.dat yi]) [] [] (yq127 waft) yq36 yq2 noZ [(2,wuo),(0,wup)]
def wcn(k:Y1×Y1)(v:Int):Tr (Int⊕(Unit⊕Bool)):=.t (v<(length k.1:Int)) (.g (inR v (length k.1))<|.g (inR v (length k.2))<|.t ((getD k.1 (toNat v) 0) != (getD k.2 (toNat v) 0)) (.g (inR v (length k.1))<|.g (inR v (length k.2))<|.l (.inr (.inr ((getD k.1 (toNat v) 0)<(getD k.2 (toNat v) 0))))) (.l (.inl (wrap .i64 (v+1))))) (.l (.inr (.inl ())))
def wno k v:=iter (λv=>(wcn k v).ev) v
def wur:LD:=yl (wcn) yq145 [(0,yq15)] yq60 yq61 yq55 yq49 (λ_ r=>.s _ _ r (λ_=>yx 0 yq15 ((),())) (λb=>yz yq60 ((b,()),())))
def wafv(a e:Y1):Tr Bool:=.c _ (wno (a,e) 0) λb=>.s _ _ b (λ_=>.l false) (λf=>.l f)
def wafw a b:=(wafv a b).ev
def waup:FP prog:=fnP cx func349 [] (yj [.dat y1,.dat y1]) [] [] (yq1 wafv) yq51 yq2 noZ [(0,wur)]
def weu(k:Int×Y1×Y2)(v:Y1×Int):Tr ((Y1×Int)⊕Y1):=.g ((0:Int)<=(length k.2.2:Int))<|.t (v.2<(wrap .i64 ((1:Int)*2^(min (toNat (length k.2.2:Int)) (IntKind.bits .i64))))) (.c _ (wrx (length k.2.2:Int) v.2) λa=>.t ((length v.1:Int)<(length a:Int)) (.c _ (wuq k.2.1 k.2.2 a k.1) λe=>.t e (.l (.inl (a,(wrap .i64 (v.2+1))))) (.l (.inl (v.1,(wrap .i64 (v.2+1)))))) (.t ((length a:Int)==(length v.1:Int)) (.c _ (wafw a v.1) λf=>.t f (.c _ (wuq k.2.1 k.2.2 a k.1) λb=>.t b (.l (.inl (a,(wrap .i64 (v.2+1))))) (.l (.inl (v.1,(wrap .i64 (v.2+1)))))) (.l (.inl (v.1,(wrap .i64 (v.2+1)))))) (.l (.inl (v.1,(wrap .i64 (v.2+1))))))) (.l (.inr v.1))
def wnp k v:=iter (λv=>(weu k v).ev) v
abbrev yq339:Keep:=yh [5] Zbd
def wus:LD:=yl (weu) (yk [.fz 8,.fz 1344] [1,2,5,6] (yj [.dat yi,.box 2 0,.dat y1,.dat yi]) [Zal]) [(0,yq339)] yq15 yq130 yq118 yq131 (λ_ r=>yx 0 yq339 ((r,()),()))
def wafx(a:Y1)(e:List Y1)(b:Int):Tr Y1:=.c _ (wnp (b,a,e) ([],0)) λf=>.l f
def wafy a b c:=(wafx a b c).ev
def wauq:FP prog:=fnP cx func295 [wand,wauo,waup] (yj [.agg Zb,.dat yi]) [] [] (yq9 wafx) yq317 yq2 noZ [(0,wus)]
def wafz(b:Y1)(a:List Y1)(e:Int):Tr (Y1×Bool):=.c _ (wbo b a) λg=>.t (!g) (.l ([],false)) (.t (e<0) (.l ([],false)) (.c _ (wafy b a e) λf=>.l (f,true)))
def waga a b c:=(wafz a b c).ev
def waur:FP prog:=fnP cx func214 [wgx,wauq] (yj [.agg Zb,.dat yi]) [] [] (yq9 wafz) ⟨[.fz 13],[.tmp 4,.tmp 5],(yj [.dat y1,.dat .bool]),[],[],[]⟩ yq173
def wagb(b:Y1)(a:List Y1)(f:Y1)(e:Int)(h:List UInt8)(g:Int):Tr (Y1×Y2×Y1×Int×(List UInt8)):=.t (h==([111,112,101,110]:List UInt8)) (.c _ (ww b a f e 1 g 0 0 []) λn=>.l (n.1,n.2.1,n.2.2.1,n.2.2.2.1,n.2.2.2.2)) (.t (h==([99,108,111,115,101]:List UInt8)) (.c _ (ww b a f e 2 g 0 0 []) λj=>.l (j.1,j.2.1,j.2.2.1,j.2.2.2.1,j.2.2.2.2)) (.t (h==([100,114,111,112,115,105,116,101]:List UInt8)) (.c _ (ww b a f e 8 g 0 0 []) λi=>.l (i.1,i.2.1,i.2.2.1,i.2.2.2.1,i.2.2.2.2)) (.t (h==([100,114,111,112,99,108,105,101,110,116]:List UInt8)) (.c _ (ww b a f e 9 g 0 0 []) λm=>.l (m.1,m.2.1,m.2.2.1,m.2.2.2.1,m.2.2.2.2)) (.t (h==([109,101,100,105,97,110]:List UInt8)) (.c _ (wuh b a g) λq=>.c _ (wek q.1 q.2) λr=>.l (b,a,f,e,r)) (.t (h==([99,101,110,116,114,101,115]:List UInt8)) (.c _ (wul b a g) λo=>.c _ (wek o.2 o.1) λu=>.l (b,a,f,e,u)) (.t (h==([102,97,114]:List UInt8)) (.c _ (waga b a g) λp=>.c _ (wek p.1 p.2) λs=>.l (b,a,f,e,s)) (.l (b,a,f,e,([63]:List UInt8)))))))))
def whj f c e a g b:=(wagb f c e a g b).ev
abbrev yq342{a b c d e g h i j:Type}{z:Type _}(f:a->b->c->d->g->h->z)(x:((a×b×c×d×e)×g×h×i)×j):z:=f x.1.1.1 x.1.1.2.1 x.1.1.2.2.1 x.1.1.2.2.2.1 x.1.2.1 x.1.2.2.1
abbrev yq341:RetK:=yr [.cell 6 38,.tmp 7] (yj [.agg Zd,.dat .str])
def waus:FP prog:=fnP cx func137 [wsf,waui,wanl,waum,waur] (yj [.agg Zd,.dat .str,.dat yi]) [] [] (yq342 wagb) yq341 yq171
def wnq(f:Y1)(e:List Y1)(h:Y1)(b:Int)(i:List UInt8)(a:Y1):Tr (Y1×Y2×Y1×Int×(List UInt8)):=.t ((length a:Int)==(3:Int)) (.t (i==([108,101,110,103,116,104]:List UInt8)) (.g (inR 0 (length a))<|.g (inR 1 (length a))<|.g (inR 2 (length a))<|.c _ (ww f e h b 5 (getD a (toNat 0) 0) (getD a (toNat 1) 0) (getD a (toNat 2) 0) []) λq=>.l (q.1,q.2.1,q.2.2.1,q.2.2.2.1,q.2.2.2.2)) (.t ((length a:Int)==(2:Int)) (.t (i==([115,119,97,112]:List UInt8)) (.g (inR 0 (length a))<|.g (inR 1 (length a))<|.c _ (ww f e h b 3 (getD a (toNat 0) 0) (getD a (toNat 1) 0) 0 []) λo=>.l (o.1,o.2.1,o.2.2.1,o.2.2.2.1,o.2.2.2.2)) (.t ((length a:Int)==(2:Int)) (.t (i==([99,111,115,116]:List UInt8)) (.g (inR 0 (length a))<|.g (inR 1 (length a))<|.c _ (ww f e h b 4 (getD a (toNat 0) 0) (getD a (toNat 1) 0) 0 []) λj=>.l (j.1,j.2.1,j.2.2.1,j.2.2.2.1,j.2.2.2.2)) (.l (f,e,h,b,([63]:List UInt8)))) (.l (f,e,h,b,([63]:List UInt8))))) (.t ((length a:Int)==(2:Int)) (.t (i==([99,111,115,116]:List UInt8)) (.g (inR 0 (length a))<|.g (inR 1 (length a))<|.c _ (ww f e h b 4 (getD a (toNat 0) 0) (getD a (toNat 1) 0) 0 []) λp=>.l (p.1,p.2.1,p.2.2.1,p.2.2.2.1,p.2.2.2.2)) (.l (f,e,h,b,([63]:List UInt8)))) (.l (f,e,h,b,([63]:List UInt8)))))) (.t ((length a:Int)==(2:Int)) (.t (i==([115,119,97,112]:List UInt8)) (.g (inR 0 (length a))<|.g (inR 1 (length a))<|.c _ (ww f e h b 3 (getD a (toNat 0) 0) (getD a (toNat 1) 0) 0 []) λr=>.l (r.1,r.2.1,r.2.2.1,r.2.2.2.1,r.2.2.2.2)) (.t ((length a:Int)==(2:Int)) (.t (i==([99,111,115,116]:List UInt8)) (.g (inR 0 (length a))<|.g (inR 1 (length a))<|.c _ (ww f e h b 4 (getD a (toNat 0) 0) (getD a (toNat 1) 0) 0 []) λm=>.l (m.1,m.2.1,m.2.2.1,m.2.2.2.1,m.2.2.2.2)) (.l (f,e,h,b,([63]:List UInt8)))) (.l (f,e,h,b,([63]:List UInt8))))) (.t ((length a:Int)==(2:Int)) (.t (i==([99,111,115,116]:List UInt8)) (.g (inR 0 (length a))<|.g (inR 1 (length a))<|.c _ (ww f e h b 4 (getD a (toNat 0) 0) (getD a (toNat 1) 0) 0 []) λn=>.l (n.1,n.2.1,n.2.2.1,n.2.2.2.1,n.2.2.2.2)) (.l (f,e,h,b,([63]:List UInt8)))) (.l (f,e,h,b,([63]:List UInt8)))))
def wdh f c e a g b:=(wnq f c e a g b).ev
def waut:FP prog:=fnP cx func138 [wsf] (yj [.agg Zd,.dat .str,.dat y1]) [] [] (yq342 wnq) yq341 yq171
def wnr(h:Y1)(f:List Y1)(i:Y1)(e:Int)(q:List UInt8):Tr (Y1×Y2×Y1×Int×(List UInt8)):=.c _ (wdf q 32) λb=>.t ((length b:Int)==(1:Int)) (.c _ (wij h f i e q) λn=>.l (n.1,n.2.1,n.2.2.1,n.2.2.2.1,n.2.2.2.2)) (.c _ (wue b) λa=>.t (!a.1) (.l (h,f,i,e,([63]:List UInt8))) (.g (inR 0 (length b))<|.g ((toNat 0)<length b)<|.t ((getD b (toNat 0) [])==([115,105,116,101]:List UInt8)) (.g (inR 0 (length a.2))<|.g (((0:Int)<=(1:Int))&&((1:Int)<=(length a.2:Int)))<|.c _ (ww h f i e 6 (getD a.2 (toNat 0) 0) 0 0 (List.drop (toNat 1) (List.take (length a.2) a.2))) λo=>.l (o.1,o.2.1,o.2.2.1,o.2.2.2.1,o.2.2.2.2)) (.t ((getD b (toNat 0) [])==([99,108,105,101,110,116]:List UInt8)) (.c _ (ww h f i e 7 0 0 0 a.2) λp=>.l (p.1,p.2.1,p.2.2.1,p.2.2.2.1,p.2.2.2.2)) (.t ((length a.2:Int)==(1:Int)) (.g (inR 0 (length b))<|.g ((toNat 0)<length b)<|.g (inR 0 (length a.2))<|.g ((toNat 0)<length a.2)<|.c _ (whj h f i e (getD b (toNat 0) []) (getD a.2 (toNat 0) 0)) λj=>.l (j.1,j.2.1,j.2.2.1,j.2.2.2.1,j.2.2.2.2)) (.g (inR 0 (length b))<|.g ((toNat 0)<length b)<|.c _ (wdh h f i e (getD b (toNat 0) []) a.2) λm=>.l (m.1,m.2.1,m.2.2.1,m.2.2.2.1,m.2.2.2.2))))))
def whk e b f a c:=(wnr e b f a c).ev
def wauu:FP prog:=fnP cx func70 [wqv,wauc,waue,wsf,waus,waut] (yj [.agg Zd,.dat .str]) [] [] (yq10 wnr) yq306 yq171 (zOf [(9,[(0,[7])]),(11,[(3,[46])]),(14,[(0,[7])])])
def wagc(e b:List UInt8)(a:Int)(h i:List UInt8):Tr ((List UInt8)×(List UInt8)×Yq):=.c _ (wre e b a) λm=>.t (!m) (.l (e,b,a,1)) (.c _ (wky h i) λj=>.t (!j) (.l (e,b,a,1)) (.t (a==60) (.l (e,b,a,2)) (.c _ (wrc a h i) λf=>.g (length b+length f<=9223372036854775807)<|.l (e,(b++f),(wrap .i64 (a+1)),0))))
def whl e b f a c:=(wagc e b f a c).ev
abbrev yq344{a b c d e g h i j:Type}{z:Type _}(f:a->b->c->e->g->z)(x:((a×b×c×d)×(e×g×h)×i)×j):z:=f x.1.1.1 x.1.1.2.1 x.1.1.2.2.1 x.1.2.1.1 x.1.2.1.2.1
abbrev yq343:RetK:=yr [.cell 4 39,.tmp 5] (yj [.agg Zac,.dat yi])
abbrev yq345{a b c d:Type}(r:a×b×c×d):=(((r.1,r.2.1,r.2.2.1,()),r.2.2.2,()),())
def wauw:FP prog:=fnP cx func71 [wamv,waax,wamu] (yj [.agg Zac,.agg Zam]) [] [] (yq344 wagc) yq343 yq345
def wju(p:Y1)(o:List Y1)(r:Y1)(m:Int)(g f:List UInt8)(e:Int)(i:List UInt8):Tr (Int×(List UInt8)×(List UInt8)×Int×(List UInt8)×Yar):=.c _ (whe p o r m) λa=>.c _ (wjp p o r m g f e) λu=>.t (!u) (.l (a.1,g,f,e,([110,111]:List UInt8),a.2.1,a.2.2.1,a.2.2.2)) (.c _ (wky i []) λs=>.t (!s) (.l (a.1,g,f,e,([98,97,100]:List UInt8),a.2.1,a.2.2.1,a.2.2.2)) (.t (e==60) (.l (a.1,g,f,e,([102,117,108,108]:List UInt8),a.2.1,a.2.2.1,a.2.2.2)) (.c _ (whk p o r m i) λb=>.t ((200:Int)<(length b.2.2.2.2:Int)) (.c _ (whl g f e i ([108,111,110,103]:List UInt8)) λq=>.c _ (whe b.1 b.2.1 b.2.2.1 b.2.2.2.1) λh=>.l (h.1,q.1,q.2.1,q.2.2.1,([108,111,110,103]:List UInt8),h.2.1,h.2.2.1,h.2.2.2)) (.c _ (whl g f e i b.2.2.2.2) λn=>.c _ (whe b.1 b.2.1 b.2.2.1 b.2.2.2.1) λj=>.l (j.1,n.1,n.2.1,n.2.2.1,b.2.2.2.2,j.2.1,j.2.2.1,j.2.2.2)))))
def wik h c f a i b e g:=(wju h c f a i b e g).ev
def waux:FP prog:=fnP cx func26 [wabi,wamw,waax,wauu,wauw] (yj [.agg Zg,.dat .str]) [] [] (yq12 wju) ⟨[.pinB 4 0 3,.pinB 4 1 5,.pinB 4 2 8],[.cell 4 41,.tmp 5],(yj [.agg (yj [.arr 3,.arr 5,.arr 8,.dat yi,.dat .str,.dat .str,.dat yi]),.dat .str]),[(3,.arr 3 yi),(5,.rows 22 3 yi),(8,.arr 3 yi)],[],[]⟩ (λr=>((((),(),(),r.1,r.2.1,r.2.2.1,r.2.2.2.1,()),r.2.2.2.2.1,()),r.2.2.2.2.2.1,r.2.2.2.2.2.2.1,r.2.2.2.2.2.2.2,()))
def wco(k:List (List UInt8))(v:Int×Yaz):Tr ((Int×Yaz)⊕(List (List UInt8))):=.t (v.1<(length k:Int)) (.g (inR v.1 (length k))<|.g ((toNat v.1)<length k)<|.c _ (wik v.2.1 v.2.2.1 v.2.2.2.1 v.2.2.2.2.1 v.2.2.2.2.2.1 v.2.2.2.2.2.2.1 v.2.2.2.2.2.2.2.1 (getD k (toNat v.1) [])) λa=>.g ((length v.2.2.2.2.2.2.2.2+length ([a.2.2.2.2.1]:List (List UInt8)))*16<=140737488355328)<|.l (.inl ((wrap .i64 (v.1+1)),a.2.2.2.2.2.1,a.2.2.2.2.2.2.1,a.2.2.2.2.2.2.2,a.1,a.2.1,a.2.2.1,a.2.2.2.1,(v.2.2.2.2.2.2.2.2++([a.2.2.2.2.1]:List (List UInt8)))))) (.l (.inr v.2.2.2.2.2.2.2.2))
def wev k v:=iter (λv=>(wco k v).ev) v
abbrev yq349:Keep:=yk [] [6] (yj [.arr 11]) [(11,.arr 9 .str)]
def wut:LD:=yl (wco) (yk [.fz 2499,.fz 2501,.fz 2504] [2,6,7,8] (yj [.box 2 0,.arr 11,.arr 1408,.dat yi]) [(2,.cells Zg),(11,.arr 9 .str),(1408,.arr 9 .str)]) [(0,yq349)] yq15 (λk v=>(((),(),(),v.1,()),(v.2.1,v.2.2.1,v.2.2.2.1,v.2.2.2.2.1,v.2.2.2.2.2.1,v.2.2.2.2.2.2.1,v.2.2.2.2.2.2.2.1,()),v.2.2.2.2.2.2.2.2,k,())) (λt=>t.2.2.2.1) (λt=>(t.1.2.2.2.1,t.2.1.1,t.2.1.2.1,t.2.1.2.2.1,t.2.1.2.2.2.1,t.2.1.2.2.2.2.1,t.2.1.2.2.2.2.2.1,t.2.1.2.2.2.2.2.2.1,t.2.2.1)) (λ_ r=>yx 0 yq349 (((),()),r,()))
def wagd(j:Y1)(f:List Y1)(m:Y1)(a:Int)(h b:List UInt8)(g:Int)(i:List UInt8):Tr (Bool×(List (List UInt8))):=.c _ (wjp j f m a h b g) λn=>.t (!n) (.l (false,[])) (.t ((4000:Int)<(length i:Int)) (.l (false,[])) (.c _ (wdf i 10) λe=>.t ((30:Int)<(length e:Int)) (.l (false,[])) (.c _ (wev e (0,j,f,m,a,h,b,g,[])) λo=>.l (true,o))))
def wage h c f a i b e g:=(wagd h c f a i b e g).ev
def wavb:FP prog:=fnP cx func10 [wamw,wqv,waux] (yj [.agg Zg,.dat .str]) [] [] (yq12 wagd) ⟨[.ren 11 0],[.tmp 4,.tmp 5],Zah,[(0,.arr 9 .str)],[],[]⟩ yq74 noZ [(0,wut)]
def wjv(a b:List UInt8):Option (List (List UInt8)):=splitF a b
def wave:FD:=fdSplit
theorem wanp:FDok prog (55,wave):=hand_split
def wanq:FP prog:=⟨_,wanp⟩
def wagf(a b c:Int):Tr Bool:=.t (b<=a) (.l (a<=c)) (.l false)
def wew a b c:=(wagf a b c).ev
def whm:FP prog:=fnP cx func115 [] (yj [.dat yi,.dat yi,.dat yi]) [] [] (yq37 wagf) yq36 yq2
def wex(k:Y1×((HL [yi]->Option Bool))×Int)(v:Int):Tr (Int⊕(Unit⊕Int)):=.t (v<k.2.2) (.g (inR v (length k.1))<|.c _ (k.2.1 ((getD k.1 (toNat v) 0),())) λa=>.t a (.l (.inr (.inr v))) (.l (.inl (wrap .i64 (v+1))))) (.l (.inr (.inl ())))
def wns k v:=iter (λv=>(wex k v).ev) v
def wuu:LD:=yl (wex) (yh [0,1,7,8] (yj [.dat y1,.clo [yi] .bool,.dat yi,.dat yi])) [(0,yq15)] yq5 yq41 yq42 yq43 (λ_ r=>.s _ _ r (λ_=>yx 0 yq15 ((),())) (λb=>yz yq5 ((b,()),())))
def wagg(a:Y1)(b:(HL [yi]->Option Bool)):Tr Int:=.c _ (wns (a,b,(length a:Int)) 0) λe=>.s _ _ e (λ_=>.l (-1)) (λf=>.l f)
def wagh a b:=(wagg a b).ev
def wavf:FP prog:=fnP cx func173 [] (yj [.dat y1,.clo [yi] .bool]) [] [] (yq1 wagg) yq0 yq2 noZ [(0,wuu)]
def wagi(e:Y1)(b:(HL [yi]->Option Bool)):Tr Bool:=.c _ (wagh e b) λa=>.l (0<=a)
def wuv a b:=(wagi a b).ev
def wuw:FP prog:=fnP cx func98 [wavf] (yj [.dat y1,.clo [yi] .bool]) [] [] (yq1 wagi) yq51 yq2
def wagj(f e b:Int):Tr Bool:=.c _ (wew f e b) λa=>.l (!a)
def wanr a b c:=(wagj a b c).ev
def wavg:FP prog:=fnP cx func239 [whm] (yj [.dat yi,.ptr Zi,.ptr Zi]) [] [] ((λf x=>f x.1.1 x.1.2.1.1 x.1.2.2.1.1) wagj) yq51 yq2
def wagk(g:Y1)(e h:Int):Tr Bool:=.c _ (wuv g (λb=>Option.bind (wanr b.1 e h) λf=>some f)) λa=>.l (!a)
def wux a b c:=(wagk a b c).ev
def wans:FP prog:=fnP cx func162 [wuw,wuw,wavg] (yj [.dat y1,.dat yi,.dat yi]) [] [] (yq37 wagk) yq36 yq2
def wey(k:Y2×((HL [y1]->Option Bool))×Int)(v:Int):Tr (Int⊕(Unit⊕Int)):=.t (v<k.2.2) (.g (inR v (length k.1))<|.c _ (k.2.1 ((getD k.1 (toNat v) []),())) λa=>.t a (.l (.inr (.inr v))) (.l (.inl (wrap .i64 (v+1))))) (.l (.inr (.inl ())))
def wnt k v:=iter (λv=>(wey k v).ev) v
def wuy:LD:=yl (wey) (yh [0,1,7,8] (yj [.dat y2,.clo [y1] .bool,.dat yi,.dat yi])) [(0,yq15)] yq5 yq41 yq42 yq43 (λ_ r=>.s _ _ r (λ_=>yx 0 yq15 ((),())) (λb=>yz yq5 ((b,()),())))
def wagl(a:List Y1)(b:(HL [y1]->Option Bool)):Tr Int:=.c _ (wnt (a,b,(length a:Int)) 0) λe=>.s _ _ e (λ_=>.l (-1)) (λf=>.l f)
def wuz a b:=(wagl a b).ev
def wanu:FP prog:=fnP cx func235 [] (yj [.dat y2,.clo [y1] .bool]) [] [] (yq1 wagl) yq0 yq2 noZ [(0,wuy)]
def wagm(e:List Y1)(b:(HL [y1]->Option Bool)):Tr Bool:=.c _ (wuz e b) λa=>.l (0<=a)
def wagn a b:=(wagm a b).ev
def wanv:FP prog:=fnP cx func163 [wanu] (yj [.dat y2,.clo [y1] .bool]) [] [] (yq1 wagm) yq51 yq2
def wago(a e:Y1)(_f:List Y1):Tr Bool:=.t ((length a:Int) != (length e:Int)) (.l true) (.c _ (wux a 0 99) λb=>.l (!b))
def wagp a b c:=(wago a b c).ev
abbrev yq357:RetK:=yr [.tmp 3] (yj [.dat .bool])
def wavh:FP prog:=fnP cx func164 [wans] (yj [.dat y1,.ptr Zb]) [] [] (yq68 wago) yq357 yq2
def wagq(b:Y1)(a:List Y1):Tr Bool:=.c _ (wew (length b:Int) 1 7) λg=>.t g (.c _ (wux b 0 99) λf=>.t f (.t ((length a:Int)<=(7:Int)) (.c _ (wagn a (λh=>Option.bind (wagp h.1 b a) λe=>some e)) λi=>.l (!i)) (.l false)) (.l false)) (.l false)
def wbm a b:=(wagq a b).ev
def wgs:FP prog:=fnP cx func92 [whm,wans,wanv,wanv,wavh] (yj [.agg Zb]) [] [] (yq25 wagq) yq50 yq2
def wcp(k:Y1×Int×Y1×Int)(v:Int):Tr (Int⊕(Unit⊕Unit)):=.t (v<k.2.2.2) (.g (inR v (length k.2.2.1))<|.c _ (wew (getD k.2.2.1 (toNat v) 0) 0 (wrap .i64 (k.2.1-1))) λa=>.t (!a) (.l (.inr (.inr ()))) (.t (0<v) (.g (inR (wrap .i64 (v-1)) (length k.1))<|.t ((getD k.2.2.1 (toNat v) 0)<=(getD k.1 (toNat (wrap .i64 (v-1))) 0)) (.l (.inr (.inr ()))) (.l (.inl (wrap .i64 (v+1))))) (.l (.inl (wrap .i64 (v+1)))))) (.l (.inr (.inl ())))
def wnu k v:=iter (λv=>(wcp k v).ev) v
abbrev yq359{a b c d e:Type}(k:a×b×c×d)(v:e):=((k.1,k.2.1,k.2.2.1,k.2.2.2,v,()),())
abbrev yq360{a b c d e g:Type}(t:(a×b×c×d×e)×g):=(t.1.1,t.1.2.1,t.1.2.2.1,t.1.2.2.2.1)
def wva:LD:=yl (wcp) (yh [0,1,7,8,9] (yj [.dat y1,.dat yi,.dat y1,.dat yi,.dat yi])) [(0,yq15)] yq60 yq359 yq360 yq149 (λ_ r=>.s _ _ r (λ_=>yx 0 yq15 ((),())) (λ_=>yz yq60 ((false,()),())))
def wagr(a:Y1)(e:Int):Tr Bool:=.c _ (wnu (a,e,a,(length a:Int)) 0) λb=>.s _ _ b (λ_=>.l true) (λ_=>.l false)
def wvb a b:=(wagr a b).ev
def wanw:FP prog:=fnP cx func114 [whm] (yj [.dat y1,.dat yi]) [] [] (yq1 wagr) yq51 yq2 noZ [(0,wva)]
def wags(a:Y1)(g:List Y1)(i:Y1)(e:Int):Tr Bool:=.c _ (wbm a g) λh=>.t h (.c _ (wvb i (length a:Int)) λf=>.t f (.c _ (wew e 0 1000) λb=>.l b) (.l false)) (.l false)
def waa a c e b:=(wags a c e b).ev
def wagt:FP prog:=fnP cx func60 [wgs,wanw,whm] (yj [.agg Zd]) [] [] (yq28 wags) yq50 yq2
def F_internal_bytealg_IndexByteString(a:List UInt8)(b:Int):Option Int:=some (idxByte a b)
def D_internal_bytealg_IndexByteString:FD:=fdIndexByte
theorem fd_internal_bytealg_IndexByteString:FDok prog (297,D_internal_bytealg_IndexByteString):=hand_indexByte func297 (by kernel_rfl) (by kernel_rfl) (by kernel_rfl) (by kernel_rfl)
def G_internal_bytealg_IndexByteString:FP prog:=⟨_,fd_internal_bytealg_IndexByteString⟩
def T_internal_stringslite_IndexByte(e:List UInt8)(b:Int):Tr Int:=.c _ (F_internal_bytealg_IndexByteString e b) λa=>.l a
def F_internal_stringslite_IndexByte a b:=(T_internal_stringslite_IndexByte a b).ev
def G_internal_stringslite_IndexByte:FP prog:=fnP cx func216 [G_internal_bytealg_IndexByteString] (yj [.dat .str,.dat (.int .u8)]) [] [] (yq1 T_internal_stringslite_IndexByte) yq0 yq2
def wagu(e:List UInt8)(b:Int):Tr Int:=.c _ (F_internal_stringslite_IndexByte e b) λa=>.l a
def wvc a b:=(wagu a b).ev
def wavj:FP prog:=fnP cx func140 [G_internal_stringslite_IndexByte] (yj [.dat .str,.dat (.int .u8)]) [] [] (yq1 wagu) yq0 yq2
def T_internal_stringslite_Index(b a:List UInt8):Tr Int:=.t ((length a:Int)==(0:Int)) (.l 0) (.t (a==b) (.l 0) (.t ((length a:Int)==(1:Int)) (.g (inR 0 (length a))<|.c _ (F_internal_stringslite_IndexByte b ((UInt8.toNat (getD a (toNat 0) 0):Nat):Int)) λe=>.l e) (.g ((length b:Int)<=(length a:Int))<|.l (-1))))
def F_internal_stringslite_Index a b:=(T_internal_stringslite_Index a b).ev
def G_internal_stringslite_Index:FP prog:=fnP cx func263 [G_internal_stringslite_IndexByte] Zam [] [] (yq1 T_internal_stringslite_Index) yq0 yq2
def T_internal_stringslite_Cut(b e:List UInt8):Tr ((List UInt8)×Yaq):=.c _ (F_internal_stringslite_Index b e) λa=>.t (0<=a) (.g ((0<=a)&&(a<=(length b:Int)))<|.g (((0:Int)<=(wrap .i64 (a+(length e:Int))))&&((wrap .i64 (a+(length e:Int)))<=(length b:Int)))<|.l ((List.drop 0 (List.take (toNat a) b)),(List.drop (toNat (wrap .i64 (a+(length e:Int)))) (List.take (length b) b)),true)) (.l (b,[],false))
def F_internal_stringslite_Cut a b:=(T_internal_stringslite_Cut a b).ev
abbrev yq361:RetK:=yr [.tmp 4,.tmp 5,.tmp 6] (yj [.dat .str,.dat .str,.dat .bool])
abbrev yq362{a b c:Type}(r:a×b×c):=((r.1,r.2.1,r.2.2,()),())
def G_internal_stringslite_Cut:FP prog:=fnP cx func217 [G_internal_stringslite_Index] Zam [] [] (yq1 T_internal_stringslite_Cut) yq361 yq362
def wagv(e b:List UInt8):Tr ((List UInt8)×Yaq):=.c _ (F_internal_stringslite_Cut e b) λa=>.l (a.1,a.2.1,a.2.2)
def whb a b:=(wagv a b).ev
def wanx:FP prog:=fnP cx func142 [G_internal_stringslite_Cut] Zam [] [] (yq1 wagv) yq361 yq362
def wagw(e b:List UInt8):Tr Int:=.c _ (F_internal_stringslite_Index e b) λa=>.l a
def wanz a b:=(wagw a b).ev
def wavk:FP prog:=fnP cx func187 [G_internal_stringslite_Index] Zam [] [] (yq1 wagw) yq0 yq2
def wagx(e b:List UInt8):Tr Bool:=.c _ (wanz e b) λa=>.l (0<=a)
def whn a b:=(wagx a b).ev
def waoa:FP prog:=fnP cx func126 [wavk] Zam [] [] (yq1 wagx) yq51 yq2
def wez(k:(List UInt8)×Int)(v:Int×Int):Tr (Yq⊕Int):=.t (v.2<k.2) (.g (inR v.2 (length k.1))<|.g (!decide ((999979:Int)=0))<|.l (.inl ((Int.tmod (wrap .i64 ((wrap .i64 ((wrap .i64 ((41:Int)*v.1))+(wrap .i64 ((UInt8.toNat (getD k.1 (toNat v.2) 0):Nat):Int))))+1)) 999979),(wrap .i64 (v.2+1))))) (.l (.inr v.1))
def wnv k v:=iter (λv=>(wez k v).ev) v
def wvd:LD:=yl (wez) (yh [0,3,6,7] (yj [.dat .str,.dat yi,.dat yi,.dat yi])) [(0,yq64)] yq15 (λk v=>((k.1,v.1,k.2,v.2,()),())) yq326 (λt=>(t.1.2.1,t.1.2.2.2.1)) (λ_ r=>yx 0 yq64 ((r,()),()))
def wagy(a:List UInt8):Tr Int:=.c _ (wnv (a,(length a:Int)) (7,0)) λb=>.l b
def wagz a:=(wagy a).ev
def wavl:FP prog:=fnP cx func277 [] (yj [.dat .str]) [] [] (yq19 wagy) yq65 yq2 noZ [(0,wvd)]
def war(a:Int):Option (List UInt8):=itoaF a
def wavm:FD:=fdItoa
theorem waob:FDok prog (176,wavm):=hand_itoa
def wnw:FP prog:=⟨_,waob⟩
def T_ze(a:List UInt8):Tr Yaq:=.t ((4000:Int)<(length a:Int)) (.l ([],false)) (.c _ (whn a ([35]:List UInt8)) λe=>.t e (.l ([],false)) (.g (length a+length ([35]:List UInt8)<=9223372036854775807)<|.c _ (wagz a) λf=>.c _ (war f) λb=>.g (length (a++([35]:List UInt8))+length b<=9223372036854775807)<|.t ((4000:Int)<(length ((a++([35]:List UInt8))++b):Int)) (.l ([],false)) (.l (((a++([35]:List UInt8))++b),true))))
def F_ze a:=(T_ze a).ev
abbrev yq366:RetK:=yr [.tmp 2,.tmp 3] (yj [.dat .str,.dat .bool])
def G_ze:FP prog:=fnP cx func207 [waoa,wavl,wnw] (yj [.dat .str]) [] [] (yq19 T_ze) yq366 yq173
def waha(e:List UInt8):Tr Yaq:=.c _ (whb e ([35]:List UInt8)) λa=>.c _ (F_ze a.1) λb=>.t (!b.2) (.l ([],false)) (.t (!(b.1==e)) (.l ([],false)) (.l (a.1,true)))
def wahb a:=(waha a).ev
def wavo:FP prog:=fnP cx func141 [wanx,G_ze] (yj [.dat .str]) [] [] (yq19 waha) yq366 yq173
def wfa(k:(List UInt8)×Yq)(v:Int):Tr (Int⊕(Unit⊕Unit)):=.t (v<k.2.2) (.g (inR v (length k.1))<|.t (((UInt8.toNat (getD k.1 (toNat v) 0):Nat):Int)<(32:Int)) (.l (.inr (.inr ()))) (.g (inR v (length k.1))<|.t ((126:Int)<((UInt8.toNat (getD k.1 (toNat v) 0):Nat):Int)) (.l (.inr (.inr ()))) (.g (inR v (length k.1))<|.t (((UInt8.toNat (getD k.1 (toNat v) 0):Nat):Int)==(35:Int)) (.l (.inr (.inr ()))) (.l (.inl (wrap .i64 (v+1))))))) (.l (.inr (.inl ())))
def wnx k v:=iter (λv=>(wfa k v).ev) v
def wve:LD:=yl (wfa) (yh [0,1,7,8] (yj [.dat .str,.dat yi,.dat yi,.dat yi])) [(0,yq59)] yq60 yq41 yq42 yq43 (λk r=>.s _ _ r (λ_=>yx 0 yq59 ((k.1,k.2.1,()),())) (λ_=>yz yq60 ((false,()),())))
def wahc(a:List UInt8)(b:Int):Tr Bool:=.c _ (wnx (a,b,(length a:Int)) 0) λe=>.s _ _ e (λ_=>.l ((length a:Int)<=b)) (λ_=>.l false)
def wvf a b:=(wahc a b).ev
def wavp:FP prog:=fnP cx func125 [] (yj [.dat .str,.dat yi]) [] [] (yq1 wahc) yq51 yq2 noZ [(0,wve)]
def wahd(a f:List UInt8):Tr Bool:=.t (!(a==([]:List UInt8))) (.c _ (wvf a 160) λg=>.t g (.c _ (wvf f 200) λe=>.t e (.c _ (whn a ([64]:List UInt8)) λb=>.l (!b)) (.l false)) (.l false)) (.l false)
def wny a b:=(wahd a b).ev
def wahe:FP prog:=fnP cx func66 [wavp,waoa] (yj [.agg Zam]) [] [] (yq25 wahd) yq50 yq2
def T_zu(h:Int)(b f:List UInt8):Tr Yaq:=.c _ (wew h 0 59) λj=>.t (!j) (.l ([],false)) (.c _ (wny b f) λi=>.t (!i) (.l ([],false)) (.c _ (war h) λa=>.g (length a+length ([32]:List UInt8)<=9223372036854775807)<|.g (length (a++([32]:List UInt8))+length b<=9223372036854775807)<|.g (length ((a++([32]:List UInt8))++b)+length ([64]:List UInt8)<=9223372036854775807)<|.g (length (((a++([32]:List UInt8))++b)++([64]:List UInt8))+length f<=9223372036854775807)<|.c _ (F_ze ((((a++([32]:List UInt8))++b)++([64]:List UInt8))++f)) λe=>.g (length e.1+length ([10]:List UInt8)<=9223372036854775807)<|.l ((e.1++([10]:List UInt8)),e.2)))
def F_zu a b c:=(T_zu a b c).ev
abbrev yq368:RetK:=yr [.tmp 4,.tmp 5] (yj [.dat .str,.dat .bool])
def G_zu:FP prog:=fnP cx func131 [whm,wahe,wnw,G_ze] (yj [.dat yi,.agg Zam]) [] [] (yq68 T_zu) yq368 yq173
def wcq(k:List UInt8)(v:Int×(List Yy)):Tr ((Int×(List Yy))⊕(Int×(List Yy))):=.g ((0<=v.1)&&(v.1<=(length k:Int)))<|.c _ (wvc (List.drop (toNat v.1) (List.take (length k) k)) 10) λa=>.t (a<0) (.l (.inr (v.1,v.2))) (.g ((0<=v.1)&&(v.1<=(wrap .i64 ((wrap .i64 (v.1+a))+1)))&&((wrap .i64 ((wrap .i64 (v.1+a))+1))<=(length k:Int)))<|.g ((0<=a)&&(a<=(length (List.drop (toNat v.1) (List.take (toNat (wrap .i64 ((wrap .i64 (v.1+a))+1))) k)):Int)))<|.c _ (wahb (List.drop 0 (List.take (toNat a) (List.drop (toNat v.1) (List.take (toNat (wrap .i64 ((wrap .i64 (v.1+a))+1))) k))))) λh=>.c _ (whb h.1 ([32]:List UInt8)) λf=>.c _ (whb f.2.1 ([64]:List UInt8)) λb=>.c _ (F_zu (length v.2:Int) b.1 b.2.1) λe=>.t (!e.2) (.l (.inr (v.1,v.2))) (.t (!(e.1==(List.drop (toNat v.1) (List.take (toNat (wrap .i64 ((wrap .i64 (v.1+a))+1))) k)))) (.l (.inr (v.1,v.2))) (.g ((length v.2+length ([(b.1,b.2.1)]:List Yy))*32<=140737488355328)<|.l (.inl ((wrap .i64 ((wrap .i64 (v.1+a))+1)),(v.2++([(b.1,b.2.1)]:List Yy)))))))
def wnz k v:=iter (λv=>(wcq k v).ev) v
abbrev yq370:Keep:=yk [] [2,3] (yj [.arr 19,.dat yi]) [(19,.arr 63 (.pair .str .str))]
def wvg:LD:=yl (wcq) (yk [] [0,4,5] (yj [.dat .str,.arr 19,.dat yi]) [(19,.arr 63 (.pair .str .str))]) [] yq370 yq16 yq7 yq17 (λ_ r=>yz yq370 (((),r.1,()),r.2,()))
def wahf(b:List UInt8):Tr (Int×(List Yy)):=.c _ (wnz b (0,([]:List Yy))) λa=>.l (a.1,a.2)
def woa a:=(wahf a).ev
def wavq:FP prog:=fnP cx func74 [wavj,wavo,wanx,G_zu] (yj [.dat .str]) [] [] (yq19 wahf) ⟨[.ren 19 0],[.tmp 2,.tmp 3],(yj [.arr 0,.dat yi]),[(0,.arr 63 (.pair .str .str))],[],[]⟩ yq74 noZ [(0,wvg)]
def wahg(a b:List UInt8)(h:Int):Tr Bool:=.g (length a+length b<=9223372036854775807)<|.t ((30000:Int)<(length (a++b):Int)) (.l false) (.c _ (woa (a++b)) λe=>.c _ (woa a) λf=>.t (e.1==(length (a++b):Int)) (.t (f.1==(length a:Int)) (.l (h==(length e.2:Int))) (.l false)) (.l false))
def wvh a b c:=(wahg a b c).ev
def waoc:FP prog:=fnP cx func72 [wavq] (yj [.agg Zac]) [] [] (yq31 wahg) yq50 yq2
def wvi(j:Y1)(f:List Y1)(m:Y1)(a:Int)(h b:List UInt8)(g:Int):Tr Bool:=.c _ (waa j f m a) λi=>.t i (.c _ (wvh h b g) λe=>.l e) (.l false)
def wjw g c f a h b e:=(wvi g c f a h b e).ev
def waoe:FP prog:=fnP cx func28 [wagt,waoc] (yj [.agg Zg]) [] [] (yq34 wvi) yq50 yq2
def wfb(a:Y1):Option (List Int):=cloneF a
def wavt:FD:=fdClone
theorem waof:FDok prog (116,wavt):=hand_clone
def wvj:FP prog:=⟨_,waof⟩
def wat(k:Y2×Int)(v:Int×Y2):Tr ((Int×Y2)⊕Y2):=.t (v.1<k.2) (.g (inR v.1 (length k.1))<|.c _ (wfb (getD k.1 (toNat v.1) [])) λa=>.g ((length v.2+1)*24<=140737488355328)<|.l (.inl ((wrap .i64 (v.1+1)),(set (v.2++ [[]]) (length v.2) a)))) (.l (.inr v.2))
def wil k v:=iter (λv=>(wat k v).ev) v
abbrev yq373:Keep:=yk [] [3] (yj [.arr 6]) [(6,.rows 22 3 yi)]
abbrev yq374{a b c d:Type}(k:a×b)(v:c×d):=(((),k.1,k.2,v.1,()),v.2,())
def wvk:LD:=yl (wat) (yk [] [3,7,8,9] (yj [.arr 6,.dat y2,.dat yi,.dat yi]) [(6,.rows 22 3 yi)]) [(0,yq373)] yq15 yq374 yq8 yq89 (λ_ r=>yx 0 yq373 (((),()),r,()))
def wvl(a:List Y1):Tr Y2:=.c _ (wil (a,(length a:Int)) (0,[])) λb=>.l b
def wob a:=(wvl a).ev
def wavw:FP prog:=fnP cx func117 [wvj] (yj [.dat y2]) [] [] (yq19 wvl) ⟨[.ren 6 0],[.tmp 2],Zan,[(0,.rows 22 3 yi)],[],[]⟩ yq20 (zOf [(1,[(0,[1000000])])]) [(0,wvk)]
def T_zm(h:Y1)(f:List Y1)(i:Y1)(b:Int):Tr (Int×Yar):=.c _ (wfb h) λg=>.c _ (wob f) λe=>.c _ (wfb i) λa=>.l (b,g,e,a)
def F_zm a c e b:=(T_zm a c e b).ev
def G_zm:FP prog:=fnP cx func61 [wvj,wavw] (yj [.agg Zd]) [] [] (yq28 T_zm) ⟨[.ren 384 3,.ren 640 4,.ren 896 5],[.cell 2 38],(yj [.agg (yj [.arr 3,.arr 4,.arr 5,.dat yi])]),[(3,.arr 3 yi),(4,.rows 22 3 yi),(5,.arr 3 yi)],[],[]⟩ yq29
def wahh(a:List UInt8):Option (Int×Bool):=parseF a
def wavx:FD:=fdParse
theorem waog:FDok prog (127,wavx):=hand_parse
def wavy:FP prog:=⟨_,waog⟩
def wcr(k:(List (List UInt8))×(List UInt8)×Int)(v:Int):Tr (Int⊕(Unit⊕Int)):=.t (v<k.2.2) (.g (inR v (length k.1))<|.t (k.2.1==(getD k.1 (toNat v) [])) (.l (.inr (.inr v))) (.l (.inl (wrap .i64 (v+1))))) (.l (.inr (.inl ())))
def wim k v:=iter (λv=>(wcr k v).ev) v
def wvm:LD:=yl (wcr) (yh [0,1,7,8] (yj [.dat (.slice .str),.dat .str,.dat yi,.dat yi])) [(0,yq15)] yq5 yq41 yq42 yq43 (λ_ r=>.s _ _ r (λ_=>yx 0 yq15 ((),())) (λb=>yz yq5 ((b,()),())))
def waoh(a:List (List UInt8))(f:List UInt8):Tr Int:=.c _ (wim (a,f,(length a:Int)) 0) λb=>.s _ _ b (λ_=>.l (-1)) (λe=>.l e)
def wavz a b:=(waoh a b).ev
def wawa:FP prog:=fnP cx func192 [] (yj [.dat (.slice .str),.dat .str]) [] [] (yq1 waoh) yq0 yq2 noZ [(0,wvm)]
def waoi(b:List UInt8):Tr Int:=.c _ (wavz ([[],([111,112,101,110]:List UInt8),([99,108,111,115,101]:List UInt8),([115,119,97,112]:List UInt8),([99,111,115,116]:List UInt8),([108,101,110,103,116,104]:List UInt8),([115,105,116,101]:List UInt8),([99,108,105,101,110,116]:List UInt8),([100,114,111,112,115,105,116,101]:List UInt8),([100,114,111,112,99,108,105,101,110,116]:List UInt8),([105,109,112,114,111,118,101]:List UInt8),([98,101,115,116]:List UInt8)]:List (List UInt8)) b) λa=>.l a
def wdi a:=(waoi a).ev
def wawc:FP prog:=fnP cx func128 [wawa] (yj [.dat .str]) [] [] (yq19 waoi) yq65 yq2
def wvn(a:Int):Tr (Int×Bool×Bool):=.t (a==1) (.t (a==1) (.l (1,false,true)) (.t (a==3) (.t (a==3) (.l (2,false,true)) (.t (a==5) (.l (3,false,true)) (.t (a==6) (.l (1,true,true)) (.t (a==7) (.l (0,true,true)) (.t (a==10) (.t (a==10) (.l (0,false,true)) (.l (0,false,false))) (.t (a==11) (.l (0,false,true)) (.l (0,false,false)))))))) (.t (a==4) (.l (2,false,true)) (.t (a==5) (.l (3,false,true)) (.t (a==6) (.l (1,true,true)) (.t (a==7) (.l (0,true,true)) (.t (a==10) (.t (a==10) (.l (0,false,true)) (.l (0,false,false))) (.t (a==11) (.l (0,false,true)) (.l (0,false,false)))))))))) (.t (a==2) (.t (a==2) (.l (1,false,true)) (.t (a==3) (.t (a==3) (.l (2,false,true)) (.t (a==5) (.l (3,false,true)) (.t (a==6) (.l (1,true,true)) (.t (a==7) (.l (0,true,true)) (.t (a==10) (.t (a==10) (.l (0,false,true)) (.l (0,false,false))) (.t (a==11) (.l (0,false,true)) (.l (0,false,false)))))))) (.t (a==4) (.l (2,false,true)) (.t (a==5) (.l (3,false,true)) (.t (a==6) (.l (1,true,true)) (.t (a==7) (.l (0,true,true)) (.t (a==10) (.t (a==10) (.l (0,false,true)) (.l (0,false,false))) (.t (a==11) (.l (0,false,true)) (.l (0,false,false)))))))))) (.t (a==8) (.t (a==8) (.l (1,false,true)) (.t (a==3) (.t (a==3) (.l (2,false,true)) (.t (a==5) (.l (3,false,true)) (.t (a==6) (.l (1,true,true)) (.t (a==7) (.l (0,true,true)) (.t (a==10) (.t (a==10) (.l (0,false,true)) (.l (0,false,false))) (.t (a==11) (.l (0,false,true)) (.l (0,false,false)))))))) (.t (a==4) (.l (2,false,true)) (.t (a==5) (.l (3,false,true)) (.t (a==6) (.l (1,true,true)) (.t (a==7) (.l (0,true,true)) (.t (a==10) (.t (a==10) (.l (0,false,true)) (.l (0,false,false))) (.t (a==11) (.l (0,false,true)) (.l (0,false,false)))))))))) (.t (a==9) (.l (1,false,true)) (.t (a==3) (.t (a==3) (.l (2,false,true)) (.t (a==5) (.l (3,false,true)) (.t (a==6) (.l (1,true,true)) (.t (a==7) (.l (0,true,true)) (.t (a==10) (.t (a==10) (.l (0,false,true)) (.l (0,false,false))) (.t (a==11) (.l (0,false,true)) (.l (0,false,false)))))))) (.t (a==4) (.l (2,false,true)) (.t (a==5) (.l (3,false,true)) (.t (a==6) (.l (1,true,true)) (.t (a==7) (.l (0,true,true)) (.t (a==10) (.t (a==10) (.l (0,false,true)) (.l (0,false,false))) (.t (a==11) (.l (0,false,true)) (.l (0,false,false))))))))))))
def wab a:=(wvn a).ev
def waoj:FP prog:=fnP cx func193 [] Zi [] [] (yq19 wvn) (yr [.tmp 2,.tmp 3,.tmp 4] (yj [.dat yi,.dat .bool,.dat .bool])) yq362
def T_zt(h g f e:Int)(b:Y1):Tr Bool:=.c _ (wab h) λa=>.t a.2.2 (.t (0<a.1) (.t (1<a.1) (.t (2<a.1) (.t a.2.1 (.l true) (.l ((length b:Int)==(0:Int)))) (.t (e==0) (.t a.2.1 (.l true) (.l ((length b:Int)==(0:Int)))) (.l false))) (.t (f==0) (.t (2<a.1) (.t a.2.1 (.l true) (.l ((length b:Int)==(0:Int)))) (.t (e==0) (.t a.2.1 (.l true) (.l ((length b:Int)==(0:Int)))) (.l false))) (.l false))) (.t (g==0) (.t (1<a.1) (.t (2<a.1) (.t a.2.1 (.l true) (.l ((length b:Int)==(0:Int)))) (.t (e==0) (.t a.2.1 (.l true) (.l ((length b:Int)==(0:Int)))) (.l false))) (.t (f==0) (.t (2<a.1) (.t a.2.1 (.l true) (.l ((length b:Int)==(0:Int)))) (.t (e==0) (.t a.2.1 (.l true) (.l ((length b:Int)==(0:Int)))) (.l false))) (.l false))) (.l false))) (.l false)
def F_zt e b f a c:=(T_zt e b f a c).ev
def G_zt:FP prog:=fnP cx func266 [waoj] (yj [.agg Zae]) [] [] (yq82 T_zt) yq50 yq2
def wfc(k:Y1×Int)(v:Int×Int):Tr (Yq⊕Int):=.t (v.2<k.2) (.g (inR v.2 (length k.1))<|.g ((0:Int)<=(getD k.1 (toNat v.2) 0))<|.l (.inl ((wrap .u64 (BitVec.toNat ((BitVec.ofInt Zc v.1)||| (BitVec.ofInt Zc (wrap .u64 ((1:Int)*2^(min (toNat (getD k.1 (toNat v.2) 0)) Zc))))))),(wrap .i64 (v.2+1))))) (.l (.inr v.1))
def woc k v:=iter (λv=>(wfc k v).ev) v
abbrev yq386:Keep:=yh [3] (yj [.dat (.int .u64)])
abbrev yq387{a b c d:Type}(k:a×b)(v:c×d):=((v.1,k.1,k.2,v.2,()),())
abbrev yq388{a b c d e g:Type}(t:(a×b×c×d×e)×g):=(t.1.1,t.1.2.2.2.1)
def wvo:LD:=yl (wfc) (yh [3,6,7,8] (yj [.dat (.int .u64),.dat y1,.dat yi,.dat yi])) [(0,yq386)] yq15 yq387 yq8 yq388 (λ_ r=>yx 0 yq386 ((r,()),()))
def wahi(a:Y1):Tr Int:=.c _ (woc (a,(length a:Int)) (0,0)) λb=>.l b
def wod a:=(wahi a).ev
abbrev yq389:RetK:=yr [.tmp 2] (yj [.dat (.int .u64)])
def wvp:FP prog:=fnP cx func231 [] Zbd [] [] (yq19 wahi) yq389 yq2 noZ [(0,wvo)]
def T_zs(e:Int)(a:Y1)(_g:List Y1)(_h:Y1)(_f:Int):Tr Bool:=.c _ (wew e 0 (wrap .i64 ((length a:Int) -1))) λb=>.l b
def F_zs e b f a c:=(T_zs e b f a c).ev
def G_zs:FP prog:=fnP cx func267 [whm] (yj [.dat yi,.ptr Zd]) [] [] ((λf x=>f x.1.1 x.1.2.1.1 x.1.2.1.2.1 x.1.2.1.2.2.1 x.1.2.1.2.2.2.1) T_zs) yq357 yq2
def waok(b a:Int):Tr Bool:=.g (0<=a)<|.l ((wrap .u64 (BitVec.toNat ((BitVec.ofInt Zc (Int.fdiv b (2^(min (toNat a) Zc))))&&& (BitVec.ofInt Zc 1))))==(1:Int))
def wfd a b:=(waok a b).ev
def wvq:FP prog:=fnP cx func232 [] (yj [.dat (.int .u64),.dat yi]) [] [] (yq1 waok) yq51 yq2
def woe(k:Int)(v:Int×Y1):Tr (Yp⊕Y1):=.g (0<=v.1)<|.t ((0:Int)<(Int.fdiv k (2^(min (toNat v.1) Zc)))) (.c _ (wfd k v.1) λa=>.t a (.g ((length v.2+length ([v.1]:Y1))*8<=140737488355328)<|.l (.inl ((wrap .i64 (v.1+1)),(v.2++([v.1]:Y1))))) (.l (.inl ((wrap .i64 (v.1+1)),v.2)))) (.l (.inr v.2))
def wahj k v:=iter (λv=>(woe k v).ev) v
abbrev yq392:Keep:=yk [] [3] (yj [.arr 5]) [(5,.arr 3 yi)]
def wvr:LD:=yl (woe) (yk [] [0,3,4] (yj [.dat (.int .u64),.arr 5,.dat yi]) [(5,.arr 3 yi)]) [(0,yq392)] yq15 yq16 yq7 yq17 (λ_ r=>yx 0 yq392 (((),()),r,()))
def waom(a:Int):Tr Y1:=.c _ (wahj a (0,[])) λb=>.l b
def wfe a:=(waom a).ev
def wjx:FP prog:=fnP cx func233 [wvq] (yj [.dat (.int .u64)]) [] [] (yq19 waom) ⟨[.ren 5 0],[.tmp 2],Zan,[Zaa],[],[]⟩ yq20 noZ [(0,wvr)]
def wahk(h:Y1)(a b:Int):Tr Y1:=.c _ (wod h) λf=>.g (0<=a)<|.g (0<=b)<|.c _ (wfe (wrap .u64 (BitVec.toNat ((BitVec.ofInt Zc (wrap .u64 (BitVec.toNat ((BitVec.ofInt Zc f)&&& ~~~(BitVec.ofInt Zc (wrap .u64 ((1:Int)*2^(min (toNat a) Zc))))))))||| (BitVec.ofInt Zc (wrap .u64 ((1:Int)*2^(min (toNat b) Zc)))))))) λe=>.l e
def wvs a b c:=(wahk a b c).ev
def wahl:FP prog:=fnP cx func234 [wvp,wjx] (yj [.dat y1,.dat yi,.dat yi]) [] [] (yq37 wahk) ⟨[.ren 960 0],[.tmp 6],Zan,[Zaa],[],[]⟩ yq20
def wvt(b c:Int)(a:Y1):Option (List Int):=delF b c a
def wawd:FD:=fdDelI
theorem waon:FDok prog (268,wawd):=hand_delI
def wawe:FP prog:=⟨_,waon⟩
def waop(b c:Int)(a:List Y1):Option (List (List Int)):=delF b c a
def wawf:FD:=fdDelR
theorem waoq:FDok prog (269,wawf):=hand_delR
def wawg:FP prog:=⟨_,waoq⟩
def wahm(e:Y1)(_f:List Y1)(a:Y1):Tr Bool:=.t ((0:Int)<(length a:Int)) (.c _ (wvb a (length e:Int)) λb=>.l b) (.l false)
def waos a b c:=(wahm a b c).ev
def wawh:FP prog:=fnP cx func152 [wanw] (yj [.agg Zb,.dat y1]) [] [] (yq9 wahm) yq51 yq2
def wahn(b:Y1)(a:List Y1)(g:Y1):Tr Bool:=.c _ (wbm b a) λf=>.t f (.c _ (waos b a g) λe=>.l e) (.l false)
def whp a b c:=(wahn a b c).ev
def wjy:FP prog:=fnP cx func85 [wgs,wawh] (yj [.agg Zb,.dat y1]) [] [] (yq9 wahn) yq51 yq2
def wff(k:Y1×Yz)(v:Int×Int):Tr (Yq⊕Int):=.t (v.2<k.2.1) (.g (inR v.2 (length k.1))<|.g (inR (getD k.1 (toNat v.2) 0) (length k.2.2.1))<|.l (.inl ((wrap .i64 (v.1+(getD k.2.2.1 (toNat (getD k.1 (toNat v.2) 0)) 0))),(wrap .i64 (v.2+1))))) (.l (.inr v.1))
def wof k v:=iter (λv=>(wff k v).ev) v
abbrev yq408{a b c d e g h i j:Type}(t:(a×b×c×d×e)×(g×h×i)×j):=(t.1.2.2.1,t.1.2.2.2.1,t.2.1.1,t.2.1.2.1)
def wvu:LD:=yl (wff) (yk [] [2,5,8,9,10] (yj [.box 2 0,.dat yi,.dat y1,.dat yi,.dat yi]) [Zal]) [(0,yq129)] yq15 (λk v=>(((),v.1,k.1,k.2.1,v.2,()),(k.2.2.1,k.2.2.2,()),())) yq408 (λt=>(t.1.2.1,t.1.2.2.2.2.1)) (λ_ r=>yx 0 yq129 ((r,()),()))
def waho(b:Y1)(f:List Y1)(a:Y1):Tr Int:=.c _ (wof (a,(length a:Int),b,f) (0,0)) λe=>.l e
def wahp a b c:=(waho a b c).ev
def wawi:FP prog:=fnP cx func229 [] (yj [.agg Zb,.dat y1]) [] [] (yq9 waho) yq0 yq2 noZ [(0,wvu)]
def wfg(k:Int×Y1×Yz)(v:Int×Int):Tr (Yq⊕Int):=.t (v.2<k.2.2.1) (.g (inR v.2 (length k.2.1))<|.g (inR k.1 (length k.2.2.2.2))<|.g (inR (getD k.2.1 (toNat v.2) 0) (length (getD k.2.2.2.2 (toNat k.1) [])))<|.g (inR k.1 (length k.2.2.2.2))<|.g (inR v.1 (length (getD k.2.2.2.2 (toNat k.1) [])))<|.t ((getD (getD k.2.2.2.2 (toNat k.1) []) (toNat (getD k.2.1 (toNat v.2) 0)) 0)<(getD (getD k.2.2.2.2 (toNat k.1) []) (toNat v.1) 0)) (.l (.inl ((getD k.2.1 (toNat v.2) 0),(wrap .i64 (v.2+1))))) (.l (.inl (v.1,(wrap .i64 (v.2+1)))))) (.l (.inr v.1))
def wog k v:=iter (λv=>(wfg k v).ev) v
abbrev yq413{a b c d e g h i:Type}(t:(a×b×c×d×e×g×h)×i):=(t.1.2.2.1,t.1.2.2.2.2.2.1)
def wvv:LD:=yl (wfg) (yk [] [1,3,7,13,14,15] (yj [.dat yi,.box 3 0,.dat yi,.dat y1,.dat yi,.dat yi]) [(3,.cells Zb)]) [(0,yq122)] yq15 (λk v=>((k.1,(),v.1,k.2.1,k.2.2.1,v.2,()),(k.2.2.2.1,k.2.2.2.2,()),())) (λt=>(t.1.1,t.1.2.2.2.1,t.1.2.2.2.2.1,t.2.1.1,t.2.1.2.1)) yq413 (λ_ r=>yx 0 yq122 ((r,()),()))
def wahq(f:Y1)(b:List Y1)(h:Int)(a:Y1):Tr Int:=.g (inR 0 (length a))<|.c _ (wog (h,a,(length a:Int),f,b) ((getD a (toNat 0) 0),0)) λe=>.l e
def wahr a c e b:=(wahq a c e b).ev
def wawj:FP prog:=fnP cx func308 [] (yj [.agg Zb,.dat yi,.dat y1]) [] [] (yq127 wahq) yq126 yq2 noZ [(0,wvv)]
def wfh(k:Y1×Yz)(v:Int×Y1):Tr (Yp⊕Y1):=.t (v.1<k.2.1) (.c _ (wahr k.2.2.1 k.2.2.2 v.1 k.1) λa=>.g ((length v.2+length ([a]:Y1))*8<=140737488355328)<|.l (.inl ((wrap .i64 (v.1+1)),(v.2++([a]:Y1))))) (.l (.inr v.2))
def woh k v:=iter (λv=>(wfh k v).ev) v
abbrev yq417{a b c d e g h i j:Type}(t:(a×b×c×d×e×g)×h×i×j):=(t.1.2.2.2.2.1,t.2.2.1)
def wvw:LD:=yl (wfh) (yk [] [1,2,5,10,11] (yj [.dat y1,.box 2 0,.arr 7,.dat yi,.dat yi]) [Zal,(7,.arr 3 yi)]) [(0,yq87)] yq15 (λk v=>((k.1,(),(),k.2.1,v.1,()),(k.2.2.1,k.2.2.2,()),v.2,())) (λt=>(t.1.1,t.1.2.2.2.1,t.2.1.1,t.2.1.2.1)) yq417 (λ_ r=>yx 0 yq87 (((),()),r,()))
def wahs(b:Y1)(a:List Y1)(f:Y1):Tr Y1:=.c _ (woh (f,(length a:Int),b,a) (0,[])) λe=>.l e
def wvx a b c:=(wahs a b c).ev
def waou:FP prog:=fnP cx func230 [wawj] (yj [.agg Zb,.dat y1]) [] [] (yq9 wahs) yq90 yq20 noZ [(0,wvw)]
def wfi(k:Int×Yar)(v:Int×Y1):Tr (Yp⊕Y1):=.t (v.1<k.1) (.g (inR v.1 (length k.2.2.2))<|.g ((toNat v.1)<length k.2.2.2)<|.g (inR v.1 (length k.2.2.1))<|.g (inR (getD k.2.2.2 (toNat v.1) 0) (length (getD k.2.2.1 (toNat v.1) [])))<|.g ((length v.2+length ([(getD (getD k.2.2.1 (toNat v.1) []) (toNat (getD k.2.2.2 (toNat v.1) 0)) 0)]:Y1))*8<=140737488355328)<|.l (.inl ((wrap .i64 (v.1+1)),(v.2++([(getD (getD k.2.2.1 (toNat v.1) []) (toNat (getD k.2.2.2 (toNat v.1) 0)) 0)]:Y1))))) (.l (.inr v.2))
def woi k v:=iter (λv=>(wfi k v).ev) v
abbrev yq419:Keep:=yk [] [5] (yj [.arr 8]) [(8,.arr 3 yi)]
def wvy:LD:=yl (wfi) (yk [] [2,5,11,12,13] (yj [.box 2 0,.arr 8,.arr 704,.dat yi,.dat yi]) [Zal,(8,.arr 3 yi),(704,.arr 3 yi)]) [(0,yq419)] yq15 (λk v=>(((),(),(),k.1,v.1,()),(k.2.1,k.2.2.1,()),v.2,k.2.2.2,())) (λt=>(t.1.2.2.2.1,t.2.1.1,t.2.1.2.1,t.2.2.2.1)) yq417 (λ_ r=>yx 0 yq419 (((),()),r,()))
def waht(e:Y1)(a:List Y1)(g:Y1):Tr Y1:=.c _ (wvx e a g) λb=>.c _ (woi ((length b:Int),e,a,b) (0,[])) λf=>.l f
def wvz a b c:=(waht a b c).ev
def waov:FP prog:=fnP cx func154 [waou] (yj [.agg Zb,.dat y1]) [] [] (yq9 waht) ⟨[.ren 8 0],[.tmp 4],Zan,[Zaa],[],[]⟩ yq20 noZ [(0,wvy)]
def wau(k:Y1×Int)(v:Int×Int):Tr (Yq⊕Int):=.t (v.2<k.2) (.g (inR v.2 (length k.1))<|.l (.inl ((wrap .i64 (v.1+(getD k.1 (toNat v.2) 0))),(wrap .i64 (v.2+1))))) (.l (.inr v.1))
def wio k v:=iter (λv=>(wau k v).ev) v
abbrev yq423:Keep:=yh [3,6,7,8] (yj [.dat yi,.dat y1,.dat yi,.dat yi])
def wwa:LD:=yl (wau) yq423 [(0,yq64)] yq15 yq387 yq8 yq388 (λ_ r=>yx 0 yq64 ((r,()),()))
def wwb(a:Y1):Tr Int:=.c _ (wio (a,(length a:Int)) (0,0)) λb=>.l b
def wjz a:=(wwb a).ev
def waow:FP prog:=fnP cx func238 [] Zbd [] [] (yq19 wwb) yq65 yq2 noZ [(0,wwa)]
def wahu(f:Y1)(b:List Y1)(g:Y1):Tr Int:=.c _ (wvz f b g) λe=>.c _ (wjz e) λa=>.l a
def wip a b c:=(wahu a b c).ev
def wahv:FP prog:=fnP cx func160 [waov,waow] (yj [.agg Zb,.dat y1]) [] [] (yq9 wahu) yq0 yq2
def wahw(b:Y1)(a:List Y1)(e:Y1):Tr Int:=.c _ (wahp b a e) λg=>.c _ (wip b a e) λf=>.l (wrap .i64 (g+f))
def wfj a b c:=(wahw a b c).ev
def woj:FP prog:=fnP cx func151 [wawi,wahv] (yj [.agg Zb,.dat y1]) [] [] (yq9 wahw) yq0 yq2
def T_zz(a e:Y1)(f:List Y1)(b:Int):Tr ((Y1×Yaj)⊕(Y1×Yaj)):=.c _ (wfj e f a) λh=>.t (h<b) (.g (0<length a)<|.l (.inr (a,e,f,b))) (.l (.inl (a,e,f,b)))
def F_zz a c e b:=(T_zz a c e b).ev
def K_zz:RetK:= {acts:=[],res:=[.tmp 5],sh:=(yj [.dat .bool]),obs:=[Zu,(65,.cells Zb),(66,.cells Zi),(67,.cells (yj [.nilsl]))],pins:=[(0,0,64),(1,0,65),(2,0,66),(3,0,67)]}
def waox:RetK:= {acts:=[],res:=[.tmp 5],sh:=(yj [.dat .bool]),obs:=[Zu,(65,.cells Zb),(66,.cells Zi),(67,.cells (yj [.arr 64]))],pins:=[(0,0,64),(1,0,65),(2,0,66),(3,0,67)]}
def D_zz:FD:= {(yd (yj [.arr 64,.box 65 0,.box 66 0,.box 67 0]) [Zu,(65,.cells Zb),(66,.cells Zi),(67,.cells (yj [.nilsl]))] [.arg 0,.arg 1,.arg 2,.arg 3] ((Y1×Yaj)⊕(Y1×Yaj)) (λx=>F_zz x.2.1 x.2.2.1.1 x.2.2.1.2.1 x.2.2.2.1.1) (λr=>match r with| .inl a=>([.dat .bool true],[(64,.arr 3 yi a.1),(65,.cells [.dat y1 a.2.1,.dat y2 a.2.2.1]),(66,.cells [.dat yi a.2.2.2]),(67,.cells [.nilsl])])| .inr b=>([.dat .bool false],[(64,.arr 3 yi b.1),(65,.cells [.dat y1 b.2.1,.dat y2 b.2.2.1]),(66,.cells [.dat yi b.2.2.2]),(67,.cells [.arr 64])])))with sp:=λr=>.s _ _ r (λa=>.l ([.dat .bool true],[(64,.arr 3 yi a.1),(65,.cells [.dat y1 a.2.1,.dat y2 a.2.2.1]),(66,.cells [.dat yi a.2.2.2]),(67,.cells [.nilsl])])) (λb=>.l ([.dat .bool false],[(64,.arr 3 yi b.1),(65,.cells [.dat y1 b.2.1,.dat y2 b.2.2.1]),(66,.cells [.dat yi b.2.2.2]),(67,.cells [.arr 64])])),spok:=λr=>by cases r<;>rfl}
theorem wawk:FDok prog (156,D_zz):=fn_ok2 mixed (env_ok (fdC woj.2 fdN)) tabOK (fnMk2 D_zz (envOf [woj.1]) K_zz waox noZ [] ((f156.body).getD .skip) (λx=>T_zz x.2.1 x.2.2.1.1 x.2.2.1.2.1 x.2.2.2.1.1) (λr=>match r with| .inl a=>.inl ((true,()),a.1,(a.2.1,a.2.2.1,()),(a.2.2.2,()),((),()),())| .inr b=>.inr ((false,()),b.1,(b.2.1,b.2.2.1,()),(b.2.2.2,()),((),()),())) func156 (lpMk (by kernel_rfl) lpN) (λ_=>by kernel_rfl) λr=>by cases r<;>rfl)
def G_zz:FP prog:=⟨_,wawk⟩
def wfk(k:Y1×Int×Yq)(v:Int×Yaj):Tr ((Int×Yaj)⊕(Yaj⊕(Y1×Y2×Yp))):=.t (v.1<k.2.2.2) (.c _ (wfd k.2.1 v.1) λf=>.t (!f) (.g (0<=v.1)<|.c _ (wfe (wrap .u64 (BitVec.toNat ((BitVec.ofInt Zc k.2.1)||| (BitVec.ofInt Zc (wrap .u64 ((1:Int)*2^(min (toNat v.1) Zc)))))))) λh=>.c _ (F_zz h v.2.1 v.2.2.1 v.2.2.2) λe=>.s _ _ e (λb=>.l (.inl ((wrap .i64 (v.1+1)),b.2.1,b.2.2.1,b.2.2.2))) (λa=>.l (.inr (.inr (a.2.1,a.2.2.1,a.2.2.2,a.1))))) (.l (.inl ((wrap .i64 (v.1+1)),v.2.1,v.2.2.1,v.2.2.2)))) (.l (.inr (.inl (v.2.1,v.2.2.1,v.2.2.2))))
def wok k v:=iter (λv=>(wfk k v).ev) v
abbrev yq425:Keep:=yk [] [1,2,6,7] (yj [.dat y1,.fn 156 Zaf,.dat (.int .u64),.dat yi]) [(64,.cells Zb),(65,.cells Zi),(66,.cells (yj [.nilsl]))]
abbrev yq426:Keep:=yk [] [2] (yj [.fn 156 Zaf]) [(64,.cells Zb),(65,.cells Zi),(66,.cells (yj [.arr 2112])),Zbi]
def wjg:LD:=yl (wfk) (yk [] [1,2,6,7,19,20] (yj [.dat y1,.fn 156 Zaf,.dat (.int .u64),.dat yi,.dat yi,.dat yi]) [(64,.cells Zb),(65,.cells Zi),(66,.cells (yj [.nilsl]))]) [(0,yq425)] yq426 (λk v=>((k.1,((),(),(),()),k.2.1,k.2.2.1,k.2.2.2,v.1,()),(v.2.1,v.2.2.1,()),(v.2.2.2,()),((),()),())) (λt=>(t.1.1,t.1.2.2.1,t.1.2.2.2.1,t.1.2.2.2.2.1)) (λt=>(t.1.2.2.2.2.2.1,t.2.1.1,t.2.1.2.1,t.2.2.1.1)) (λk r=>.s _ _ r (λa=>yx 0 yq425 ((k.1,((),(),(),()),k.2.1,k.2.2.1,()),(a.1,a.2.1,()),(a.2.2,()),((),()),())) (λb=>yz yq426 ((((),(),(),()),()),(b.1,b.2.1,()),(b.2.2.1,()),((),()),b.2.2.2,())))
def wfl(k:Y1×Int×Int×Y1×Int)(v:Int×Yaj):Tr ((Int×Yaj)⊕(Yaj⊕(Y1×Y2×Yp))):=.t (v.1<k.2.2.2.2) (.g (inR v.1 (length k.2.2.2.1))<|.t ((1:Int)<(length k.1:Int)) (.g ((0:Int)<=(getD k.2.2.2.1 (toNat v.1) 0))<|.c _ (wfe (wrap .u64 (BitVec.toNat ((BitVec.ofInt Zc k.2.1)&&& ~~~(BitVec.ofInt Zc (wrap .u64 ((1:Int)*2^(min (toNat (getD k.2.2.2.1 (toNat v.1) 0)) Zc)))))))) λf=>.c _ (F_zz f v.2.1 v.2.2.1 v.2.2.2) λe=>.s _ _ e (λb=>.l (.inl ((wrap .i64 (v.1+1)),b.2.1,b.2.2.1,b.2.2.2))) (λa=>.l (.inr (.inr (a.2.1,a.2.2.1,a.2.2.2,a.1))))) (.l (.inl ((wrap .i64 (v.1+1)),v.2.1,v.2.2.1,v.2.2.2)))) (.l (.inr (.inl (v.2.1,v.2.2.1,v.2.2.2))))
def wol k v:=iter (λv=>(wfl k v).ev) v
abbrev yq431:Keep:=yk [] [2] (yj [.fn 156 Zaf]) [(64,.cells Zb),(65,.cells Zi),(66,.cells (yj [.arr 3392])),(3392,.arr 3 yi)]
abbrev yq432{a b c d e g h i j:Type}(k:a×b×c×d×e)(v:g×h×i×j):=((k.1,((),(),(),()),k.2.1,k.2.2.1,k.2.2.2.1,k.2.2.2.2,v.1,()),(v.2.1,v.2.2.1,()),(v.2.2.2,()),((),()),())
abbrev yq433{a b c d e g h i:Type}(t:(a×b×c×d×e×g×h)×i):=(t.1.1,t.1.2.2.1,t.1.2.2.2.1,t.1.2.2.2.2.1,t.1.2.2.2.2.2.1)
abbrev yq434{a b c d e g h i j l m n o p:Type}(t:(a×b×c×d×e×g×h×i)×(j×l×m)×(n×o)×p):=(t.1.2.2.2.2.2.2.1,t.2.1.1,t.2.1.2.1,t.2.2.1.1)
def wjh:LD:=yl (wfl) (yk [] [1,2,6,7,38,39,40] (yj [.dat y1,.fn 156 Zaf,.dat (.int .u64),.dat yi,.dat y1,.dat yi,.dat yi]) [(64,.cells Zb),(65,.cells Zi),(66,.cells (yj [.nilsl]))]) [(2,yq425)] yq431 yq432 yq433 yq434 (λk r=>.s _ _ r (λa=>yx 2 yq425 ((k.1,((),(),(),()),k.2.1,k.2.2.1,()),(a.1,a.2.1,()),(a.2.2,()),((),()),())) (λb=>yz yq431 ((((),(),(),()),()),(b.1,b.2.1,()),(b.2.2.1,()),((),()),b.2.2.2,())))
def wfm(k:Y1×Int×Int×Int×Y1×Int×Yq)(v:Int×Yaj):Tr ((Int×Yaj)⊕(Yaj⊕(Y1×Y2×Yp))):=.t (v.1<k.2.2.2.2.2.2.2) (.c _ (wfd k.2.1 v.1) λg=>.t (!g) (.c _ (wvs k.1 k.2.2.2.1 v.1) λf=>.c _ (F_zz f v.2.1 v.2.2.1 v.2.2.2) λe=>.s _ _ e (λb=>.l (.inl ((wrap .i64 (v.1+1)),b.2.1,b.2.2.1,b.2.2.2))) (λa=>.l (.inr (.inr (a.2.1,a.2.2.1,a.2.2.2,a.1))))) (.l (.inl ((wrap .i64 (v.1+1)),v.2.1,v.2.2.1,v.2.2.2)))) (.l (.inr (.inl (v.2.1,v.2.2.1,v.2.2.2))))
def wom k v:=iter (λv=>(wfm k v).ev) v
abbrev yq436:Keep:=yk [] [1,2,6,7,58,59,60] (yj [.dat y1,.fn 156 Zaf,.dat (.int .u64),.dat yi,.dat y1,.dat yi,.dat yi]) [(64,.cells Zb),(65,.cells Zi),(66,.cells (yj [.nilsl]))]
abbrev yq437:Keep:=yk [] [2] (yj [.fn 156 Zaf]) [(64,.cells Zb),(65,.cells Zi),(66,.cells (yj [.arr 4928])),(4928,.arr 3 yi)]
def wji:LD:=yl (wfm) (yk [] [1,2,6,7,12,58,59,60,64,65] (yj [.dat y1,.fn 156 Zaf,.dat (.int .u64),.dat yi,.dat yi,.dat y1,.dat yi,.dat yi,.dat yi,.dat yi]) [(64,.cells Zb),(65,.cells Zi),(66,.cells (yj [.nilsl]))]) [(6,yq436)] yq437 (λk v=>((k.1,((),(),(),()),k.2.1,k.2.2.1,k.2.2.2.1,k.2.2.2.2.1,k.2.2.2.2.2.1,k.2.2.2.2.2.2.1,k.2.2.2.2.2.2.2,v.1,()),(v.2.1,v.2.2.1,()),(v.2.2.2,()),((),()),())) (λt=>(t.1.1,t.1.2.2.1,t.1.2.2.2.1,t.1.2.2.2.2.1,t.1.2.2.2.2.2.1,t.1.2.2.2.2.2.2.1,t.1.2.2.2.2.2.2.2.1,t.1.2.2.2.2.2.2.2.2.1)) (λt=>(t.1.2.2.2.2.2.2.2.2.2.1,t.2.1.1,t.2.1.2.1,t.2.2.1.1)) (λk r=>.s _ _ r (λa=>yx 6 yq436 ((k.1,((),(),(),()),k.2.1,k.2.2.1,k.2.2.2.2.1,k.2.2.2.2.2.1,k.2.2.2.2.2.2.1,()),(a.1,a.2.1,()),(a.2.2,()),((),()),())) (λb=>yz yq437 ((((),(),(),()),()),(b.1,b.2.1,()),(b.2.2.1,()),((),()),b.2.2.2,())))
def wfn(k:Y1×Int×Int×Y1×Int)(v:Int×Yaj):Tr ((Int×Yaj)⊕(Yaj⊕(Y1×Y2×Yp))):=.t (v.1<k.2.2.2.2) (.g (inR v.1 (length k.2.2.2.1))<|.c _ (wom (k.1,k.2.1,k.2.2.1,(getD k.2.2.2.1 (toNat v.1) 0),k.2.2.2.1,k.2.2.2.2,v.1,k.2.2.1) (0,v.2.1,v.2.2.1,v.2.2.2)) λe=>.s _ _ e (λb=>.l (.inl ((wrap .i64 (v.1+1)),b.1,b.2.1,b.2.2))) (λa=>.l (.inr (.inr (a.1,a.2.1,a.2.2.1,a.2.2.2))))) (.l (.inr (.inl (v.2.1,v.2.2.1,v.2.2.2))))
def won k v:=iter (λv=>(wfn k v).ev) v
abbrev yq441:Keep:=yk [] [2] (yj [.fn 156 Zaf]) [(64,.cells Zb),(65,.cells Zi),(66,.cells (yj [.nilsl]))]
def wjj:LD:=yl (wfn) yq436 [(4,yq441)] yq437 yq432 yq433 yq434 (λ_ r=>.s _ _ r (λa=>yx 4 yq441 ((((),(),(),()),()),(a.1,a.2.1,()),(a.2.2,()),((),()),())) (λb=>yz yq437 ((((),(),(),()),()),(b.1,b.2.1,()),(b.2.2.1,()),((),()),b.2.2.2,())))
def wahx(g:Y1)(_w:List Y1)(a n:Y1)(u:List Y1)(p:Int):Tr (Yaj⊕(Y1×Y2×Yp)):=.c _ (wod a) λj=>.c _ (wok (a,j,(length g:Int),(length g:Int)) (0,n,u,p)) λq=>.s _ _ q (λh=>.c _ (wol (a,j,(length g:Int),a,(length a:Int)) (0,h.1,h.2.1,h.2.2)) λr=>.s _ _ r (λm=>.c _ (won (a,j,(length g:Int),a,(length a:Int)) (0,m.1,m.2.1,m.2.2)) λo=>.s _ _ o (λi=>.l (.inl (i.1,i.2.1,i.2.2))) (λe=>.l (.inr (e.1,e.2.1,e.2.2.1,e.2.2.2)))) (λf=>.l (.inr (f.1,f.2.1,f.2.2.1,f.2.2.2)))) (λb=>.l (.inr (b.1,b.2.1,b.2.2.1,b.2.2.2)))
def wwc f c e a g b:=(wahx f c e a g b).ev
def wawl:RetK:= {acts:=[],res:=[],sh:=.nil,obs:=[(64,.cells Zb),(65,.cells Zi),(66,.cells (yj [.nilsl]))],pins:=[(2,1,64),(2,2,65),(2,3,66)]}
def wahy:RetK:= {acts:=[.ren 4928 0,.ren 3392 0,.ren 2112 0],res:=[],sh:=.nil,obs:=[(64,.cells Zb),(65,.cells Zi),(66,.cells Zan),Zaa],pins:=[(2,1,64),(2,2,65),(2,3,66)]}
def waoy:FD:= {(yd (yj [.agg Zb,.dat y1,.fn 156 Zaf]) [(64,.cells Zb),(65,.cells Zi),(66,.cells (yj [.nilsl]))] [.cap 2 0,.cap 2 1,.cap 2 2] (Yaj⊕(Y1×Y2×Yp)) (λx=>wwc x.1.1.1 x.1.1.2.1 x.1.2.1 x.2.1.1 x.2.1.2.1 x.2.2.1.1) (λr=>match r with| .inl a=>([],[(64,.cells [.dat y1 a.1,.dat y2 a.2.1]),(65,.cells [.dat yi a.2.2]),(66,.cells [.nilsl])])| .inr b=>([],[(64,.cells [.dat y1 b.1,.dat y2 b.2.1]),(65,.cells [.dat yi b.2.2.1]),(66,.cells [.arr 0]),(0,.arr 3 yi b.2.2.2)])))with sp:=λr=>.s _ _ r (λa=>.l ([],[(64,.cells [.dat y1 a.1,.dat y2 a.2.1]),(65,.cells [.dat yi a.2.2]),(66,.cells [.nilsl])])) (λb=>.l ([],[(64,.cells [.dat y1 b.1,.dat y2 b.2.1]),(65,.cells [.dat yi b.2.2.1]),(66,.cells [.arr 0]),(0,.arr 3 yi b.2.2.2)])),spok:=λr=>by cases r<;>rfl}
def wkc:Env:=envOf [wvp.1,wvq.1,wjx.1,G_zz.1,wahl.1]
def wkd:List (Nat×LD):=[(0,wjg),(2,wjh),(6,wji),(4,wjj)]
def wke:Code:=(f155.body).getD .skip
theorem wahz:(wjg).OK wkc tt noZ (orcOf wkd) (loopAt wke 0):=ldMk (λ_=>rfl) λ_ _=>by kernel_rfl
theorem waia:(wjh).OK wkc tt noZ (orcOf wkd) (loopAt wke 2):=ldMk (λ_=>rfl) λ_ _=>by kernel_rfl
theorem waib:(wji).OK wkc tt noZ (orcOf wkd) (loopAt wke 6):=ldMk (λ_=>rfl) λ_ _=>by kernel_rfl
theorem waid:(wjj).OK wkc tt noZ (orcOf wkd) (loopAt wke 4):=ldMk (λ_=>rfl) λ_ _=>by kernel_rfl
theorem wawm:LoopsOK wkc tt noZ wkd wke:=lpMk (by kernel_rfl) (lpC wahz (lpC waia (lpC waib (lpC waid lpN))))
theorem waoz:FDok prog (155,waoy):=fn_ok2 mixed (env_ok (fdC wvp.2 (fdC wvq.2 (fdC wjx.2 (fdC G_zz.2 (fdC wahl.2 fdN)))))) tabOK (fnMk2 waoy wkc wawl wahy noZ wkd wke (λx=>wahx x.1.1.1 x.1.1.2.1 x.1.2.1 x.2.1.1 x.2.1.2.1 x.2.2.1.1) (λr=>match r with| .inl a=>.inl ((),(a.1,a.2.1,()),(a.2.2,()),((),()),())| .inr b=>.inr ((),(b.1,b.2.1,()),(b.2.2.1,()),((),()),b.2.2.2,())) func155 wawm (λ_=>by kernel_rfl) λr=>by cases r<;>rfl)
def wawn:FP prog:=⟨_,waoz⟩
def T_zy(b:Y1)(a:List Y1)(f:Y1):Tr Yay:=.c _ (wfj b a f) λi=>.c _ (wwc b a f b a i) λh=>.s _ _ h (λ_=>.l (false,[])) (λe=>.g (0<length e.2.2.2)<|.l (true,e.2.2.2))
def F_zy a b c:=(T_zy a b c).ev
def G_zy:FP prog:=fnP cx func87 [woj,wawn] (yj [.agg Zb,.dat y1]) [] [] (yq9 T_zy) ⟨[.own 4 0 3 yi,.ren 896 0],[.tmp 4,.tmp 5],Zah,[Zaa],[],[]⟩ yq74
def wfo(k:Y1×Y2)(v:Int×Y1):Tr (Yp⊕Yp):=.c _ (F_zy k.1 k.2 v.2) λa=>.t (!a.1) (.l (.inr (v.1,v.2))) (.l (.inl ((wrap .i64 (v.1+1)),a.2)))
def wfp k v:=iter (λv=>(wfo k v).ev) v
abbrev yq444:Keep:=yk [] [4,5,6] (yj [.arr 1024,.dat yi,.dat .bool]) [(1024,.arr 3 yi)]
def wwe:LD:=yl (wfo) (yk [.rep 1408 1024] [2,7,8] (yj [.box 2 0,.arr 1024,.dat yi]) [Zal,(1024,.arr 3 yi)]) [] yq444 yq180 yq140 yq181 (λ_ r=>yz yq444 (((),r.1,true,()),r.2,()))
def waie(e:Y1)(a:List Y1)(f:Y1):Tr (Int×Yay):=.c _ (whp e a f) λh=>.t (!h) (.l (0,false,[])) (.c _ (wfb f) λg=>.c _ (wfp (e,a) (0,g)) λb=>.l (b.1,true,b.2))
def waif a b c:=(waie a b c).ev
def wawq:FP prog:=fnP cx func270 [wjy,wvj,G_zy] (yj [.agg Zb,.dat y1]) [] [] (yq9 waie) ⟨[.own 4 0 3 yi,.ren 1024 0],[.tmp 4,.tmp 5,.tmp 6],(yj [.arr 0,.dat yi,.dat .bool]),[Zaa],[],[]⟩ yq143 noZ [(0,wwe)]
def wapa(a:Int):Tr Int:=.t (4294967296<=a) (.g ((0:Int)<=(32:Int))<|.t ((65536:Int)<=(Int.fdiv a (2^(min (toNat 32) Zc)))) (.g ((0:Int)<=(16:Int))<|.t ((256:Int)<=(Int.fdiv (Int.fdiv a (2^(min (toNat 32) Zc))) (2^(min (toNat 16) Zc)))) (.g ((0:Int)<=(8:Int))<|.g (inR (wrap .u8 (Int.fdiv (Int.fdiv (Int.fdiv a (2^(min (toNat 32) Zc))) (2^(min (toNat 16) Zc))) (2^(min (toNat 8) Zc)))) (length Za))<|.l (wrap .i64 ((wrap .i64 ((wrap .i64 ((32:Int)+16))+8))+(wrap .i64 ((UInt8.toNat (getD Za (toNat (wrap .u8 (Int.fdiv (Int.fdiv (Int.fdiv a (2^(min (toNat 32) Zc))) (2^(min (toNat 16) Zc))) (2^(min (toNat 8) Zc))))) 0):Nat):Int))))) (.g (inR (wrap .u8 (Int.fdiv (Int.fdiv a (2^(min (toNat 32) Zc))) (2^(min (toNat 16) Zc)))) (length Za))<|.l (wrap .i64 ((wrap .i64 ((32:Int)+16))+(wrap .i64 ((UInt8.toNat (getD Za (toNat (wrap .u8 (Int.fdiv (Int.fdiv a (2^(min (toNat 32) Zc))) (2^(min (toNat 16) Zc))))) 0):Nat):Int)))))) (.t ((256:Int)<=(Int.fdiv a (2^(min (toNat 32) Zc)))) (.g ((0:Int)<=(8:Int))<|.g (inR (wrap .u8 (Int.fdiv (Int.fdiv a (2^(min (toNat 32) Zc))) (2^(min (toNat 8) Zc)))) (length Za))<|.l (wrap .i64 ((wrap .i64 ((32:Int)+8))+(wrap .i64 ((UInt8.toNat (getD Za (toNat (wrap .u8 (Int.fdiv (Int.fdiv a (2^(min (toNat 32) Zc))) (2^(min (toNat 8) Zc))))) 0):Nat):Int))))) (.g (inR (wrap .u8 (Int.fdiv a (2^(min (toNat 32) Zc)))) (length Za))<|.l (wrap .i64 ((32:Int)+(wrap .i64 ((UInt8.toNat (getD Za (toNat (wrap .u8 (Int.fdiv a (2^(min (toNat 32) Zc))))) 0):Nat):Int))))))) (.t (65536<=a) (.g ((0:Int)<=(16:Int))<|.t ((256:Int)<=(Int.fdiv a (2^(min (toNat 16) Zc)))) (.g ((0:Int)<=(8:Int))<|.g (inR (wrap .u8 (Int.fdiv (Int.fdiv a (2^(min (toNat 16) Zc))) (2^(min (toNat 8) Zc)))) (length Za))<|.l (wrap .i64 ((wrap .i64 ((wrap .i64 ((0:Int)+16))+8))+(wrap .i64 ((UInt8.toNat (getD Za (toNat (wrap .u8 (Int.fdiv (Int.fdiv a (2^(min (toNat 16) Zc))) (2^(min (toNat 8) Zc))))) 0):Nat):Int))))) (.g (inR (wrap .u8 (Int.fdiv a (2^(min (toNat 16) Zc)))) (length Za))<|.l (wrap .i64 ((wrap .i64 ((0:Int)+16))+(wrap .i64 ((UInt8.toNat (getD Za (toNat (wrap .u8 (Int.fdiv a (2^(min (toNat 16) Zc))))) 0):Nat):Int)))))) (.t (256<=a) (.g ((0:Int)<=(8:Int))<|.g (inR (wrap .u8 (Int.fdiv a (2^(min (toNat 8) Zc)))) (length Za))<|.l (wrap .i64 ((wrap .i64 ((0:Int)+8))+(wrap .i64 ((UInt8.toNat (getD Za (toNat (wrap .u8 (Int.fdiv a (2^(min (toNat 8) Zc))))) 0):Nat):Int))))) (.g (inR (wrap .u8 a) (length Za))<|.l (wrap .i64 ((0:Int)+(wrap .i64 ((UInt8.toNat (getD Za (toNat (wrap .u8 a)) 0):Nat):Int)))))))
def wawr a:=(wapa a).ev
def waws:FP prog:=fnP cx func253 [] (yj [.dat (.int .u64)]) [] [] (yq19 wapa) yq65 yq2
def wapb(b:Int):Tr Int:=.c _ (wawr b) λa=>.l a
def wwf a:=(wapb a).ev
def waig:FP prog:=fnP cx func175 [waws] (yj [.dat (.int .u64)]) [] [] (yq19 wapb) yq65 yq2
def woo(k:Int×Int×Yk×Int)(v:Int×Yj):Tr ((Int×Yj)⊕Yj):=.t (k.1<v.1) (.g (inR v.1 (length v.2.1))<|.g (((toNat v.1)<length v.2.1)&&((getD v.2.1 (toNat v.1) 0)<length v.2.2))<|.g (inR (wrap .i64 (v.1-1)) (length v.2.1))<|.g (((toNat (wrap .i64 (v.1-1)))<length v.2.1)&&((getD v.2.1 (toNat (wrap .i64 (v.1-1))) 0)<length v.2.2))<|.c _ (k.2.2.1 ((getD v.2.2 (getD v.2.1 (toNat v.1) 0) []),(getD v.2.2 (getD v.2.1 (toNat (wrap .i64 (v.1-1))) 0) []),())) λa=>.t (a<0) (.g (inR (wrap .i64 (v.1-1)) (length v.2.1))<|.g (((toNat (wrap .i64 (v.1-1)))<length v.2.1)&&((getD v.2.1 (toNat (wrap .i64 (v.1-1))) 0)<length v.2.2))<|.g (inR v.1 (length v.2.1))<|.g (((toNat v.1)<length v.2.1)&&((getD v.2.1 (toNat v.1) 0)<length v.2.2))<|.g (inR v.1 (length v.2.1))<|.g ((toNat v.1)<length v.2.1)<|.g (inR (wrap .i64 (v.1-1)) (length (set v.2.1 (toNat v.1) (getD v.2.1 (toNat (wrap .i64 (v.1-1))) 0))))<|.g ((toNat (wrap .i64 (v.1-1)))<length (set v.2.1 (toNat v.1) (getD v.2.1 (toNat (wrap .i64 (v.1-1))) 0)))<|.l (.inl ((wrap .i64 (v.1-1)),(set (set v.2.1 (toNat v.1) (getD v.2.1 (toNat (wrap .i64 (v.1-1))) 0)) (toNat (wrap .i64 (v.1-1))) (getD v.2.1 (toNat v.1) 0)),v.2.2))) (.l (.inr v.2))) (.l (.inr v.2))
def waih k v:=iter (λv=>(woo k v).ev) v
abbrev yq449:Keep:=yk [] [0,1,2,3,8] (yj [.arr 64,.dat yi,.dat yi,.clo [y1,y1] yi,.dat yi]) [Zad]
abbrev yq450{a b c d e g:Type}(k:a×b×c×d)(v:e×g):=(((),k.1,k.2.1,k.2.2.1,k.2.2.2,v.1,()),v.2,())
abbrev yq451{a b c d e g h:Type}(t:(a×b×c×d×e×g)×h):=(t.1.2.1,t.1.2.2.1,t.1.2.2.2.1,t.1.2.2.2.2.1)
abbrev yq452{a b c d e g h i j:Type}(t:(a×b×c×d×e×g×h)×i×j):=(t.1.2.2.2.2.2.1,t.2.1)
def wwg:LD:=yl (woo) (yk [] [0,1,2,3,8,9] (yj [.arr 64,.dat yi,.dat yi,.clo [y1,y1] yi,.dat yi,.dat yi]) [Zad]) [(2,yq449)] yq15 yq450 yq451 yq452 (λk r=>yx 2 yq449 (((),k.1,k.2.1,k.2.2.1,k.2.2.2,()),r,()))
def wop(k:Int×Int×Yk)(v:Int×Yj):Tr ((Int×Yj)⊕Yj):=.t (v.1<k.2.1) (.c _ (waih (k.1,k.2.1,k.2.2,v.1) (v.1,v.2)) λa=>.l (.inl ((wrap .i64 (v.1+1)),a))) (.l (.inr v.2))
def waii k v:=iter (λv=>(wop k v).ev) v
abbrev yq453:Keep:=yk [] [0] (yj [.arr 64]) [Zad]
abbrev yq454{a b c d e:Type}(k:a×b×c)(v:d×e):=(((),k.1,k.2.1,k.2.2,v.1,()),v.2,())
abbrev yq455{a b c d e g:Type}(t:(a×b×c×d×e)×g):=(t.1.2.1,t.1.2.2.1,t.1.2.2.2.1)
abbrev yq456{a b c d e g h i:Type}(t:(a×b×c×d×e×g)×h×i):=(t.1.2.2.2.2.1,t.2.1)
def wwh:LD:=yl (wop) yq449 [(0,yq453)] yq15 yq454 yq455 yq456 (λ_ r=>yx 0 yq453 (((),()),r,()))
def wapc(a g:Int)(b:Yk)(f:(List Nat)×Y2):Tr Yj:=.c _ (waii (a,g,b) ((wrap .i64 (a+1)),f)) λe=>.l e
def wawt c e b a:=(wapc c e b a).ev
abbrev yq458{a b c d e g h:Type}{z:Type _}(f:b->c->d->g->z)(x:(a×b×c×d×e)×g×h):z:=f x.1.2.1 x.1.2.2.1 x.1.2.2.2.1 x.2.1
abbrev yq457:RetK:=⟨[],[],.nil,[Zad],[(0,0,64)],[]⟩
abbrev yq459{a:Type}(r:a):=((),r,())
def wapf:FP prog:=fnP cx func352 [] (yj [.arr 64,.dat yi,.dat yi,.clo [y1,y1] yi]) [Zad] [.arg 0] (yq458 wapc) yq457 yq459 noZ [(2,wwg),(0,wwh)]
def wapr(b:Int):Tr Int:=.c _ (wwf (wrap .u64 b)) λa=>.g (0<=a)<|.l (wrap .u64 ((1:Int)*2^(min (toNat a) Zc)))
def wawu a:=(wapr a).ev
def wawv:FP prog:=fnP cx func316 [waig] Zi [] [] (yq19 wapr) yq389 yq2
def waps(a:Int):Tr Yq:=.g ((0:Int)<=(13:Int))<|.g ((0:Int)<=(7:Int))<|.g ((0:Int)<=(17:Int))<|.l ((wrap .u64 (BitVec.toNat ((BitVec.ofInt Zc (wrap .u64 (BitVec.toNat ((BitVec.ofInt Zc (wrap .u64 (BitVec.toNat ((BitVec.ofInt Zc a)^^^ (BitVec.ofInt Zc (wrap .u64 (a*2^(min (toNat 13) Zc))))))))^^^ (BitVec.ofInt Zc (Int.fdiv (wrap .u64 (BitVec.toNat ((BitVec.ofInt Zc a)^^^ (BitVec.ofInt Zc (wrap .u64 (a*2^(min (toNat 13) Zc))))))) (2^(min (toNat 7) Zc))))))))^^^ (BitVec.ofInt Zc (wrap .u64 ((wrap .u64 (BitVec.toNat ((BitVec.ofInt Zc (wrap .u64 (BitVec.toNat ((BitVec.ofInt Zc a)^^^ (BitVec.ofInt Zc (wrap .u64 (a*2^(min (toNat 13) Zc))))))))^^^ (BitVec.ofInt Zc (Int.fdiv (wrap .u64 (BitVec.toNat ((BitVec.ofInt Zc a)^^^ (BitVec.ofInt Zc (wrap .u64 (a*2^(min (toNat 13) Zc))))))) (2^(min (toNat 7) Zc)))))))*2^(min (toNat 17) Zc))))))),(wrap .u64 (BitVec.toNat ((BitVec.ofInt Zc (wrap .u64 (BitVec.toNat ((BitVec.ofInt Zc (wrap .u64 (BitVec.toNat ((BitVec.ofInt Zc a)^^^ (BitVec.ofInt Zc (wrap .u64 (a*2^(min (toNat 13) Zc))))))))^^^ (BitVec.ofInt Zc (Int.fdiv (wrap .u64 (BitVec.toNat ((BitVec.ofInt Zc a)^^^ (BitVec.ofInt Zc (wrap .u64 (a*2^(min (toNat 13) Zc))))))) (2^(min (toNat 7) Zc))))))))^^^ (BitVec.ofInt Zc (wrap .u64 ((wrap .u64 (BitVec.toNat ((BitVec.ofInt Zc (wrap .u64 (BitVec.toNat ((BitVec.ofInt Zc a)^^^ (BitVec.ofInt Zc (wrap .u64 (a*2^(min (toNat 13) Zc))))))))^^^ (BitVec.ofInt Zc (Int.fdiv (wrap .u64 (BitVec.toNat ((BitVec.ofInt Zc a)^^^ (BitVec.ofInt Zc (wrap .u64 (a*2^(min (toNat 13) Zc))))))) (2^(min (toNat 7) Zc)))))))*2^(min (toNat 17) Zc))))))))
def waww a:=(waps a).ev
abbrev yq462{a b:Type}(r:a×b):=((r.1,()),(r.2,()),())
def wawy:FP prog:=fnP cx func317 [] (yj [.box 64 0]) [(64,.cells (yj [.dat (.int .u64)]))] [.arg 0] ((λf x=>f x.2.1.1) waps) ⟨[],[.tmp 2],(yj [.dat (.int .u64)]),[(64,.cells (yj [.dat (.int .u64)]))],[(0,0,64)],[]⟩ yq462
def woq(k:Int×Yq)(v:Int×Yj×Int):Tr ((Int×Yj×Int)⊕Yj):=.g (!decide ((4:Int)=0))<|.t (v.1<=(wrap .i64 ((wrap .i64 (k.1+(wrap .i64 ((wrap .i64 (Int.tdiv k.2.1 4))*(2:Int)))))+1))) (.c _ (waww v.2.2) λa=>.t (k.2.1<=(wrap .i64 (wrap .u64 (BitVec.toNat ((BitVec.ofInt Zc a.1)&&& (BitVec.ofInt Zc (wrap .u64 (k.2.2-1)))))))) (.g (inR (wrap .i64 (k.1+(wrap .i64 ((wrap .i64 (wrap .u64 (BitVec.toNat ((BitVec.ofInt Zc a.1)&&& (BitVec.ofInt Zc (wrap .u64 (k.2.2-1))))))) -k.2.1)))) (length v.2.1.1))<|.g (((toNat (wrap .i64 (k.1+(wrap .i64 ((wrap .i64 (wrap .u64 (BitVec.toNat ((BitVec.ofInt Zc a.1)&&& (BitVec.ofInt Zc (wrap .u64 (k.2.2-1))))))) -k.2.1)))))<length v.2.1.1)&&((getD v.2.1.1 (toNat (wrap .i64 (k.1+(wrap .i64 ((wrap .i64 (wrap .u64 (BitVec.toNat ((BitVec.ofInt Zc a.1)&&& (BitVec.ofInt Zc (wrap .u64 (k.2.2-1))))))) -k.2.1))))) 0)<length v.2.1.2))<|.g (inR v.1 (length v.2.1.1))<|.g (((toNat v.1)<length v.2.1.1)&&((getD v.2.1.1 (toNat v.1) 0)<length v.2.1.2))<|.g (inR v.1 (length v.2.1.1))<|.g ((toNat v.1)<length v.2.1.1)<|.g (inR (wrap .i64 (k.1+(wrap .i64 ((wrap .i64 (wrap .u64 (BitVec.toNat ((BitVec.ofInt Zc a.1)&&& (BitVec.ofInt Zc (wrap .u64 (k.2.2-1))))))) -k.2.1)))) (length (set v.2.1.1 (toNat v.1) (getD v.2.1.1 (toNat (wrap .i64 (k.1+(wrap .i64 ((wrap .i64 (wrap .u64 (BitVec.toNat ((BitVec.ofInt Zc a.1)&&& (BitVec.ofInt Zc (wrap .u64 (k.2.2-1))))))) -k.2.1))))) 0))))<|.g ((toNat (wrap .i64 (k.1+(wrap .i64 ((wrap .i64 (wrap .u64 (BitVec.toNat ((BitVec.ofInt Zc a.1)&&& (BitVec.ofInt Zc (wrap .u64 (k.2.2-1))))))) -k.2.1)))))<length (set v.2.1.1 (toNat v.1) (getD v.2.1.1 (toNat (wrap .i64 (k.1+(wrap .i64 ((wrap .i64 (wrap .u64 (BitVec.toNat ((BitVec.ofInt Zc a.1)&&& (BitVec.ofInt Zc (wrap .u64 (k.2.2-1))))))) -k.2.1))))) 0)))<|.l (.inl ((wrap .i64 (v.1+1)),((set (set v.2.1.1 (toNat v.1) (getD v.2.1.1 (toNat (wrap .i64 (k.1+(wrap .i64 ((wrap .i64 (wrap .u64 (BitVec.toNat ((BitVec.ofInt Zc a.1)&&& (BitVec.ofInt Zc (wrap .u64 (k.2.2-1))))))) -k.2.1))))) 0)) (toNat (wrap .i64 (k.1+(wrap .i64 ((wrap .i64 (wrap .u64 (BitVec.toNat ((BitVec.ofInt Zc a.1)&&& (BitVec.ofInt Zc (wrap .u64 (k.2.2-1))))))) -k.2.1))))) (getD v.2.1.1 (toNat v.1) 0)),v.2.1.2),a.2))) (.g (inR (wrap .i64 (k.1+(wrap .i64 (wrap .u64 (BitVec.toNat ((BitVec.ofInt Zc a.1)&&& (BitVec.ofInt Zc (wrap .u64 (k.2.2-1))))))))) (length v.2.1.1))<|.g (((toNat (wrap .i64 (k.1+(wrap .i64 (wrap .u64 (BitVec.toNat ((BitVec.ofInt Zc a.1)&&& (BitVec.ofInt Zc (wrap .u64 (k.2.2-1))))))))))<length v.2.1.1)&&((getD v.2.1.1 (toNat (wrap .i64 (k.1+(wrap .i64 (wrap .u64 (BitVec.toNat ((BitVec.ofInt Zc a.1)&&& (BitVec.ofInt Zc (wrap .u64 (k.2.2-1)))))))))) 0)<length v.2.1.2))<|.g (inR v.1 (length v.2.1.1))<|.g (((toNat v.1)<length v.2.1.1)&&((getD v.2.1.1 (toNat v.1) 0)<length v.2.1.2))<|.g (inR v.1 (length v.2.1.1))<|.g ((toNat v.1)<length v.2.1.1)<|.g (inR (wrap .i64 (k.1+(wrap .i64 (wrap .u64 (BitVec.toNat ((BitVec.ofInt Zc a.1)&&& (BitVec.ofInt Zc (wrap .u64 (k.2.2-1))))))))) (length (set v.2.1.1 (toNat v.1) (getD v.2.1.1 (toNat (wrap .i64 (k.1+(wrap .i64 (wrap .u64 (BitVec.toNat ((BitVec.ofInt Zc a.1)&&& (BitVec.ofInt Zc (wrap .u64 (k.2.2-1)))))))))) 0))))<|.g ((toNat (wrap .i64 (k.1+(wrap .i64 (wrap .u64 (BitVec.toNat ((BitVec.ofInt Zc a.1)&&& (BitVec.ofInt Zc (wrap .u64 (k.2.2-1))))))))))<length (set v.2.1.1 (toNat v.1) (getD v.2.1.1 (toNat (wrap .i64 (k.1+(wrap .i64 (wrap .u64 (BitVec.toNat ((BitVec.ofInt Zc a.1)&&& (BitVec.ofInt Zc (wrap .u64 (k.2.2-1)))))))))) 0)))<|.l (.inl ((wrap .i64 (v.1+1)),((set (set v.2.1.1 (toNat v.1) (getD v.2.1.1 (toNat (wrap .i64 (k.1+(wrap .i64 (wrap .u64 (BitVec.toNat ((BitVec.ofInt Zc a.1)&&& (BitVec.ofInt Zc (wrap .u64 (k.2.2-1)))))))))) 0)) (toNat (wrap .i64 (k.1+(wrap .i64 (wrap .u64 (BitVec.toNat ((BitVec.ofInt Zc a.1)&&& (BitVec.ofInt Zc (wrap .u64 (k.2.2-1)))))))))) (getD v.2.1.1 (toNat v.1) 0)),v.2.1.2),a.2)))) (.l (.inr v.2.1))
def waij k v:=iter (λv=>(woq k v).ev) v
def wwi:LD:=yl (woq) (yk [] [0,1,8,9,10,11] (yj [.arr 64,.dat yi,.dat yi,.box 9 0,.dat (.int .u64),.dat yi]) [Zad,(9,.cells (yj [.dat (.int .u64)]))]) [(0,yq453)] yq15 (λk v=>(((),k.1,k.2.1,(),k.2.2,v.1,()),v.2.1,(v.2.2,()),())) (λt=>(t.1.2.1,t.1.2.2.1,t.1.2.2.2.2.1)) (λt=>(t.1.2.2.2.2.2.1,t.2.1,t.2.2.1.1)) (λ_ r=>yx 0 yq453 (((),()),r,()))
def wapt(a b:Int)(_i:Yk)(e:(List Nat)×Y2):Tr Yj:=.t ((8:Int)<=(wrap .i64 (b-a))) (.c _ (wawu (wrap .i64 (b-a))) λh=>.g (!decide ((4:Int)=0))<|.c _ (waij (a,(wrap .i64 (b-a)),h) ((wrap .i64 ((wrap .i64 (a+(wrap .i64 ((wrap .i64 (Int.tdiv (wrap .i64 (b-a)) 4))*(2:Int))))) -1)),e,(wrap .u64 (wrap .i64 (b-a))))) λf=>.l f) (.l e)
def wawz c e b a:=(wapt c e b a).ev
def wapu:FP prog:=fnP cx func354 [wawv,wawy] (yj [.arr 64,.dat yi,.dat yi,.clo [y1,y1] yi]) [Zad] [.arg 0] (yq458 wapt) yq457 yq459 noZ [(0,wwi)]
def wapv(b:List Y1)(a e:Int)(h:Yk)(f:Int):Tr (Int×Yq):=.g (inR e (length b))<|.g (inR a (length b))<|.c _ (h ((getD b (toNat e) []),(getD b (toNat a) []),())) λi=>.t (i<0) (.l (e,a,(wrap .i64 (f+1)))) (.l (a,e,f))
def waik e b f c a:=(wapv e b f c a).ev
def waxa:FP prog:=fnP cx func395 [] (yj [.dat y2,.dat yi,.dat yi,.box 64 0,.clo [y1,y1] yi]) [(64,.cells Zi)] [.arg 3] ((λf x=>f x.1.1 x.1.2.1 x.1.2.2.1 x.1.2.2.2.2.1 x.2.1.1) wapv) ⟨[],[.tmp 10,.tmp 11],(yj [.dat yi,.dat yi]),[(64,.cells Zi)],[(3,0,64)],[]⟩ (λr=>((r.1,r.2.1,()),(r.2.2,()),()))
def wapw(e:List Y1)(i m h:Int)(a:Yk)(j:Int):Tr Yq:=.c _ (waik e i m a j) λb=>.c _ (waik e b.2.1 h a b.2.2) λg=>.c _ (waik e b.1 g.1 a g.2.2) λf=>.l (f.2.1,f.2.2)
def wail f c e a b g:=(wapw f c e a b g).ev
def wapx:FP prog:=fnP cx func384 [waxa] (yj [.dat y2,.dat yi,.dat yi,.dat yi,.box 64 0,.clo [y1,y1] yi]) [(64,.cells Zi)] [.arg 4] ((λf x=>f x.1.1 x.1.2.1 x.1.2.2.1 x.1.2.2.2.1 x.1.2.2.2.2.2.1 x.2.1.1) wapw) ⟨[],[.tmp 12],Zi,[(64,.cells Zi)],[(4,0,64)],[]⟩ yq462
def wapy(f:List Y1)(a:Int)(e:Yk)(g:Int):Tr Yq:=.c _ (wail f (wrap .i64 (a-1)) a (wrap .i64 (a+1)) e g) λb=>.l (b.1,b.2)
def waim a c b e:=(wapy a c b e).ev
def waxb:FP prog:=fnP cx func383 [wapx] (yj [.dat y2,.dat yi,.box 64 0,.clo [y1,y1] yi]) [(64,.cells Zi)] [.arg 2] ((λf x=>f x.1.1 x.1.2.1 x.1.2.2.2.1 x.2.1.1) wapy) ⟨[],[.tmp 8],Zi,[(64,.cells Zi)],[(2,0,64)],[]⟩ yq462
def wapz(h:List Y1)(a b:Int)(e:Yk):Tr Yq:=.g (!decide ((4:Int)=0))<|.g (!decide ((4:Int)=0))<|.g (!decide ((4:Int)=0))<|.t ((8:Int)<=(wrap .i64 (b-a))) (.t ((50:Int)<=(wrap .i64 (b-a))) (.c _ (waim h (wrap .i64 (a+(wrap .i64 ((wrap .i64 (Int.tdiv (wrap .i64 (b-a)) 4))*(1:Int))))) e 0) λn=>.c _ (waim h (wrap .i64 (a+(wrap .i64 ((wrap .i64 (Int.tdiv (wrap .i64 (b-a)) 4))*(2:Int))))) e n.2) λm=>.c _ (waim h (wrap .i64 (a+(wrap .i64 ((wrap .i64 (Int.tdiv (wrap .i64 (b-a)) 4))*(3:Int))))) e m.2) λj=>.c _ (wail h n.1 m.1 j.1 e j.2) λf=>.t (f.2==0) (.l (f.1,1)) (.t (f.2==12) (.l (f.1,2)) (.l (f.1,0)))) (.c _ (wail h (wrap .i64 (a+(wrap .i64 ((wrap .i64 (Int.tdiv (wrap .i64 (b-a)) 4))*(1:Int))))) (wrap .i64 (a+(wrap .i64 ((wrap .i64 (Int.tdiv (wrap .i64 (b-a)) 4))*(2:Int))))) (wrap .i64 (a+(wrap .i64 ((wrap .i64 (Int.tdiv (wrap .i64 (b-a)) 4))*(3:Int))))) e 0) λi=>.t (i.2==0) (.l (i.1,1)) (.t (i.2==12) (.l (i.1,2)) (.l (i.1,0))))) (.t ((0:Int)==(0:Int)) (.l ((wrap .i64 (a+(wrap .i64 ((wrap .i64 (Int.tdiv (wrap .i64 (b-a)) 4))*(2:Int))))),1)) (.t ((0:Int)==(12:Int)) (.l ((wrap .i64 (a+(wrap .i64 ((wrap .i64 (Int.tdiv (wrap .i64 (b-a)) 4))*(2:Int))))),2)) (.l ((wrap .i64 (a+(wrap .i64 ((wrap .i64 (Int.tdiv (wrap .i64 (b-a)) 4))*(2:Int))))),0))))
def waqa a c e b:=(wapz a c e b).ev
def waqb:FP prog:=fnP cx func355 [waxb,wapx] (yj [.dat y2,.dat yi,.dat yi,.clo [y1,y1] yi]) [] [] ((λf x=>f x.1.1 x.1.2.1 x.1.2.2.1 x.1.2.2.2.1) wapz) (yr [.tmp 8,.tmp 9] (yj [.dat yi,.dat yi])) yq173
def wor(k:Int×Yk×Int×Yj)(v:Int):Tr (Int⊕Int):=.t (v<=k.2.2.1) (.g (inR v (length k.2.2.2.1))<|.g (((toNat v)<length k.2.2.2.1)&&((getD k.2.2.2.1 (toNat v) 0)<length k.2.2.2.2))<|.g (inR k.1 (length k.2.2.2.1))<|.g (((toNat k.1)<length k.2.2.2.1)&&((getD k.2.2.2.1 (toNat k.1) 0)<length k.2.2.2.2))<|.c _ (k.2.1 ((getD k.2.2.2.2 (getD k.2.2.2.1 (toNat v) 0) []),(getD k.2.2.2.2 (getD k.2.2.2.1 (toNat k.1) 0) []),())) λa=>.t (a<0) (.l (.inl (wrap .i64 (v+1)))) (.l (.inr v))) (.l (.inr v))
def wain k v:=iter (λv=>(wor k v).ev) v
abbrev yq476:Keep:=yk [] [0,1,4,12,13] (yj [.arr 64,.dat yi,.clo [y1,y1] yi,.dat yi,.dat yi]) [Zad]
abbrev yq477{a b c d e:Type}(k:a×b×c×d)(v:e):=(((),k.1,k.2.1,v,k.2.2.1,()),k.2.2.2,())
abbrev yq478{a b c d e g h i:Type}(t:(a×b×c×d×e×g)×h×i):=(t.1.2.1,t.1.2.2.1,t.1.2.2.2.2.1,t.2.1)
def wwj:LD:=yl (wor) yq476 [(0,yq476)] yq15 yq477 yq478 yq43 (λk r=>yx 0 yq476 (((),k.1,k.2.1,r,k.2.2.1,()),k.2.2.2,()))
def wos(k:Int×Yk×Int×Yj)(v:Int):Tr (Int⊕Int):=.t (k.2.2.1<=v) (.g (inR v (length k.2.2.2.1))<|.g (((toNat v)<length k.2.2.2.1)&&((getD k.2.2.2.1 (toNat v) 0)<length k.2.2.2.2))<|.g (inR k.1 (length k.2.2.2.1))<|.g (((toNat k.1)<length k.2.2.2.1)&&((getD k.2.2.2.1 (toNat k.1) 0)<length k.2.2.2.2))<|.c _ (k.2.1 ((getD k.2.2.2.2 (getD k.2.2.2.1 (toNat v) 0) []),(getD k.2.2.2.2 (getD k.2.2.2.1 (toNat k.1) 0) []),())) λa=>.t (!(a<0)) (.l (.inl (wrap .i64 (v-1)))) (.l (.inr v))) (.l (.inr v))
def waio k v:=iter (λv=>(wos k v).ev) v
abbrev yq479{a b c d e:Type}(k:a×b×c×d)(v:e):=(((),k.1,k.2.1,k.2.2.1,v,()),k.2.2.2,())
abbrev yq480{a b c d e g h:Type}(t:(a×b×c×d×e)×g×h):=(t.1.2.1,t.1.2.2.1,t.1.2.2.2.1,t.2.1)
def wwk:LD:=yl (wos) yq476 [(2,yq476)] yq15 yq479 yq480 yq149 (λk r=>yx 2 yq476 (((),k.1,k.2.1,k.2.2.1,r,()),k.2.2.2,()))
def wot(k:Int×Yk×Int×Yj)(v:Int):Tr (Int⊕Int):=.t (v<=k.2.2.1) (.g (inR v (length k.2.2.2.1))<|.g (((toNat v)<length k.2.2.2.1)&&((getD k.2.2.2.1 (toNat v) 0)<length k.2.2.2.2))<|.g (inR k.1 (length k.2.2.2.1))<|.g (((toNat k.1)<length k.2.2.2.1)&&((getD k.2.2.2.1 (toNat k.1) 0)<length k.2.2.2.2))<|.c _ (k.2.1 ((getD k.2.2.2.2 (getD k.2.2.2.1 (toNat v) 0) []),(getD k.2.2.2.2 (getD k.2.2.2.1 (toNat k.1) 0) []),())) λa=>.t (a<0) (.l (.inl (wrap .i64 (v+1)))) (.l (.inr v))) (.l (.inr v))
def waip k v:=iter (λv=>(wot k v).ev) v
def wwl:LD:=yl (wot) yq476 [(6,yq476)] yq15 yq477 yq478 yq43 (λk r=>yx 6 yq476 (((),k.1,k.2.1,r,k.2.2.1,()),k.2.2.2,()))
def wou(k:Int×Yk×Int×Yj)(v:Int):Tr (Int⊕Int):=.t (k.2.2.1<=v) (.g (inR v (length k.2.2.2.1))<|.g (((toNat v)<length k.2.2.2.1)&&((getD k.2.2.2.1 (toNat v) 0)<length k.2.2.2.2))<|.g (inR k.1 (length k.2.2.2.1))<|.g (((toNat k.1)<length k.2.2.2.1)&&((getD k.2.2.2.1 (toNat k.1) 0)<length k.2.2.2.2))<|.c _ (k.2.1 ((getD k.2.2.2.2 (getD k.2.2.2.1 (toNat v) 0) []),(getD k.2.2.2.2 (getD k.2.2.2.1 (toNat k.1) 0) []),())) λa=>.t (!(a<0)) (.l (.inl (wrap .i64 (v-1)))) (.l (.inr v))) (.l (.inr v))
def waiq k v:=iter (λv=>(wou k v).ev) v
def wwm:LD:=yl (wou) yq476 [(8,yq476)] yq15 yq479 yq480 yq149 (λk r=>yx 8 yq476 (((),k.1,k.2.1,k.2.2.1,r,()),k.2.2.2,()))
def wov(k:Int×Yk)(v:Int×Int×Yj):Tr ((Int×Int×Yj)⊕(Int×Yj)):=.c _ (waip (k.1,k.2,v.2.1,v.2.2) v.1) λb=>.c _ (waiq (k.1,k.2,b,v.2.2) v.2.1) λa=>.t (a<b) (.l (.inr (a,v.2.2))) (.g (inR a (length v.2.2.1))<|.g (((toNat a)<length v.2.2.1)&&((getD v.2.2.1 (toNat a) 0)<length v.2.2.2))<|.g (inR b (length v.2.2.1))<|.g (((toNat b)<length v.2.2.1)&&((getD v.2.2.1 (toNat b) 0)<length v.2.2.2))<|.g (inR b (length v.2.2.1))<|.g ((toNat b)<length v.2.2.1)<|.g (inR a (length (set v.2.2.1 (toNat b) (getD v.2.2.1 (toNat a) 0))))<|.g ((toNat a)<length (set v.2.2.1 (toNat b) (getD v.2.2.1 (toNat a) 0)))<|.l (.inl ((wrap .i64 (b+1)),(wrap .i64 (a-1)),(set (set v.2.2.1 (toNat b) (getD v.2.2.1 (toNat a) 0)) (toNat a) (getD v.2.2.1 (toNat b) 0)),v.2.2.2)))
def wair k v:=iter (λv=>(wov k v).ev) v
abbrev yq481:Keep:=yk [] [0,1,13] (yj [.arr 64,.dat yi,.dat yi]) [Zad]
def wwn:LD:=yl (wov) yq476 [(4,yq481)] yq15 (λk v=>(((),k.1,k.2,v.1,v.2.1,()),v.2.2,())) yq8 yq56 (λk r=>yx 4 yq481 (((),k.1,r.1,()),r.2,()))
def waqc(b m e:Int)(j:Yk)(a:(List Nat)×Y2):Tr (Int×Bool×Yj):=.g (inR e (length a.1))<|.g (((toNat e)<length a.1)&&((getD a.1 (toNat e) 0)<length a.2))<|.g (inR b (length a.1))<|.g (((toNat b)<length a.1)&&((getD a.1 (toNat b) 0)<length a.2))<|.g (inR b (length a.1))<|.g ((toNat b)<length a.1)<|.g (inR e (length (set a.1 (toNat b) (getD a.1 (toNat e) 0))))<|.g ((toNat e)<length (set a.1 (toNat b) (getD a.1 (toNat e) 0)))<|.c _ (wain (b,j,(wrap .i64 (m-1)),(set (set a.1 (toNat b) (getD a.1 (toNat e) 0)) (toNat e) (getD a.1 (toNat b) 0)),a.2) (wrap .i64 (b+1))) λi=>.c _ (waio (b,j,i,(set (set a.1 (toNat b) (getD a.1 (toNat e) 0)) (toNat e) (getD a.1 (toNat b) 0)),a.2) (wrap .i64 (m-1))) λh=>.t (h<i) (.g (inR b (length (set (set a.1 (toNat b) (getD a.1 (toNat e) 0)) (toNat e) (getD a.1 (toNat b) 0))))<|.g (((toNat b)<length (set (set a.1 (toNat b) (getD a.1 (toNat e) 0)) (toNat e) (getD a.1 (toNat b) 0)))&&((getD (set (set a.1 (toNat b) (getD a.1 (toNat e) 0)) (toNat e) (getD a.1 (toNat b) 0)) (toNat b) 0)<length a.2))<|.g (inR h (length (set (set a.1 (toNat b) (getD a.1 (toNat e) 0)) (toNat e) (getD a.1 (toNat b) 0))))<|.g (((toNat h)<length (set (set a.1 (toNat b) (getD a.1 (toNat e) 0)) (toNat e) (getD a.1 (toNat b) 0)))&&((getD (set (set a.1 (toNat b) (getD a.1 (toNat e) 0)) (toNat e) (getD a.1 (toNat b) 0)) (toNat h) 0)<length a.2))<|.g (inR h (length (set (set a.1 (toNat b) (getD a.1 (toNat e) 0)) (toNat e) (getD a.1 (toNat b) 0))))<|.g ((toNat h)<length (set (set a.1 (toNat b) (getD a.1 (toNat e) 0)) (toNat e) (getD a.1 (toNat b) 0)))<|.g (inR b (length (set (set (set a.1 (toNat b) (getD a.1 (toNat e) 0)) (toNat e) (getD a.1 (toNat b) 0)) (toNat h) (getD (set (set a.1 (toNat b) (getD a.1 (toNat e) 0)) (toNat e) (getD a.1 (toNat b) 0)) (toNat b) 0))))<|.g ((toNat b)<length (set (set (set a.1 (toNat b) (getD a.1 (toNat e) 0)) (toNat e) (getD a.1 (toNat b) 0)) (toNat h) (getD (set (set a.1 (toNat b) (getD a.1 (toNat e) 0)) (toNat e) (getD a.1 (toNat b) 0)) (toNat b) 0)))<|.l (h,true,(set (set (set (set a.1 (toNat b) (getD a.1 (toNat e) 0)) (toNat e) (getD a.1 (toNat b) 0)) (toNat h) (getD (set (set a.1 (toNat b) (getD a.1 (toNat e) 0)) (toNat e) (getD a.1 (toNat b) 0)) (toNat b) 0)) (toNat b) (getD (set (set a.1 (toNat b) (getD a.1 (toNat e) 0)) (toNat e) (getD a.1 (toNat b) 0)) (toNat h) 0)),a.2)) (.g (inR h (length (set (set a.1 (toNat b) (getD a.1 (toNat e) 0)) (toNat e) (getD a.1 (toNat b) 0))))<|.g (((toNat h)<length (set (set a.1 (toNat b) (getD a.1 (toNat e) 0)) (toNat e) (getD a.1 (toNat b) 0)))&&((getD (set (set a.1 (toNat b) (getD a.1 (toNat e) 0)) (toNat e) (getD a.1 (toNat b) 0)) (toNat h) 0)<length a.2))<|.g (inR i (length (set (set a.1 (toNat b) (getD a.1 (toNat e) 0)) (toNat e) (getD a.1 (toNat b) 0))))<|.g (((toNat i)<length (set (set a.1 (toNat b) (getD a.1 (toNat e) 0)) (toNat e) (getD a.1 (toNat b) 0)))&&((getD (set (set a.1 (toNat b) (getD a.1 (toNat e) 0)) (toNat e) (getD a.1 (toNat b) 0)) (toNat i) 0)<length a.2))<|.g (inR i (length (set (set a.1 (toNat b) (getD a.1 (toNat e) 0)) (toNat e) (getD a.1 (toNat b) 0))))<|.g ((toNat i)<length (set (set a.1 (toNat b) (getD a.1 (toNat e) 0)) (toNat e) (getD a.1 (toNat b) 0)))<|.g (inR h (length (set (set (set a.1 (toNat b) (getD a.1 (toNat e) 0)) (toNat e) (getD a.1 (toNat b) 0)) (toNat i) (getD (set (set a.1 (toNat b) (getD a.1 (toNat e) 0)) (toNat e) (getD a.1 (toNat b) 0)) (toNat h) 0))))<|.g ((toNat h)<length (set (set (set a.1 (toNat b) (getD a.1 (toNat e) 0)) (toNat e) (getD a.1 (toNat b) 0)) (toNat i) (getD (set (set a.1 (toNat b) (getD a.1 (toNat e) 0)) (toNat e) (getD a.1 (toNat b) 0)) (toNat h) 0)))<|.c _ (wair (b,j) ((wrap .i64 (i+1)),(wrap .i64 (h-1)),(set (set (set (set a.1 (toNat b) (getD a.1 (toNat e) 0)) (toNat e) (getD a.1 (toNat b) 0)) (toNat i) (getD (set (set a.1 (toNat b) (getD a.1 (toNat e) 0)) (toNat e) (getD a.1 (toNat b) 0)) (toNat h) 0)) (toNat h) (getD (set (set a.1 (toNat b) (getD a.1 (toNat e) 0)) (toNat e) (getD a.1 (toNat b) 0)) (toNat i) 0)),a.2)) λf=>.g (inR b (length f.2.1))<|.g (((toNat b)<length f.2.1)&&((getD f.2.1 (toNat b) 0)<length f.2.2))<|.g (inR f.1 (length f.2.1))<|.g (((toNat f.1)<length f.2.1)&&((getD f.2.1 (toNat f.1) 0)<length f.2.2))<|.g (inR f.1 (length f.2.1))<|.g ((toNat f.1)<length f.2.1)<|.g (inR b (length (set f.2.1 (toNat f.1) (getD f.2.1 (toNat b) 0))))<|.g ((toNat b)<length (set f.2.1 (toNat f.1) (getD f.2.1 (toNat b) 0)))<|.l (f.1,false,(set (set f.2.1 (toNat f.1) (getD f.2.1 (toNat b) 0)) (toNat b) (getD f.2.1 (toNat f.1) 0)),f.2.2))
def wdj b f a c e:=(waqc b f a c e).ev
def waqd:FP prog:=fnP cx func359 [] (yj [.arr 64,.dat yi,.dat yi,.dat yi,.clo [y1,y1] yi]) [Zad] [.arg 0] ((λf x=>f x.1.2.1 x.1.2.2.1 x.1.2.2.2.1 x.1.2.2.2.2.1 x.2.1) waqc) ⟨[],[.tmp 10,.tmp 11],(yj [.dat yi,.dat .bool]),[Zad],[(0,0,64)],[]⟩ (λr=>((r.1,r.2.1,()),r.2.2,())) noZ [(0,wwj),(2,wwk),(6,wwl),(8,wwm),(4,wwn)]
def wow(b:(Int)->(Int)->(Int)->(Yk)->Yj->Option Yj)(k:Yk)(v:Int×Int×Int×Bool×Bool×Yj):Tr ((Int×Int×Int×Bool×Bool×Yj)⊕Yj):=.t ((wrap .i64 (v.2.1-v.1))<=(12:Int)) (.c _ (wawt v.1 v.2.1 k v.2.2.2.2.2) λbe=>.l (.inr be)) (.t (v.2.2.1==0) (.f) (.t (!v.2.2.2.1) (.c _ (wawz v.1 v.2.1 k v.2.2.2.2.2) λa=>.c _ (waqa (permL a.1 a.2) v.1 v.2.1 k) λe=>.t (e.2==2) (.f) (.t v.2.2.2.1 (.t v.2.2.2.2.1 (.t (e.2==1) (.f) (.t (0<v.1) (.g (inR (wrap .i64 (v.1-1)) (length a.1))<|.g (((toNat (wrap .i64 (v.1-1)))<length a.1)&&((getD a.1 (toNat (wrap .i64 (v.1-1))) 0)<length a.2))<|.g (inR e.1 (length a.1))<|.g (((toNat e.1)<length a.1)&&((getD a.1 (toNat e.1) 0)<length a.2))<|.c _ (k ((getD a.2 (getD a.1 (toNat (wrap .i64 (v.1-1))) 0) []),(getD a.2 (getD a.1 (toNat e.1) 0) []),())) λae=>.t (!(ae<0)) (.f) (.c _ (wdj v.1 v.2.1 e.1 k a) λs=>.g (!decide ((8:Int)=0))<|.t ((wrap .i64 (s.1-v.1))<(wrap .i64 (v.2.1-s.1))) (.c _ (b v.1 s.1 (wrap .i64 (v.2.2.1-1)) k s.2.2) λac=>.l (.inl ((wrap .i64 (s.1+1)),v.2.1,(wrap .i64 (v.2.2.1-1)),((wrap .i64 (Int.tdiv (wrap .i64 (v.2.1-v.1)) 8))<=(wrap .i64 (s.1-v.1))),s.2.1,ac))) (.c _ (b (wrap .i64 (s.1+1)) v.2.1 (wrap .i64 (v.2.2.1-1)) k s.2.2) λaa=>.l (.inl (v.1,s.1,(wrap .i64 (v.2.2.1-1)),((wrap .i64 (Int.tdiv (wrap .i64 (v.2.1-v.1)) 8))<=(wrap .i64 (v.2.1-s.1))),s.2.1,aa))))) (.c _ (wdj v.1 v.2.1 e.1 k a) λm=>.g (!decide ((8:Int)=0))<|.t ((wrap .i64 (m.1-v.1))<(wrap .i64 (v.2.1-m.1))) (.c _ (b v.1 m.1 (wrap .i64 (v.2.2.1-1)) k m.2.2) λag=>.l (.inl ((wrap .i64 (m.1+1)),v.2.1,(wrap .i64 (v.2.2.1-1)),((wrap .i64 (Int.tdiv (wrap .i64 (v.2.1-v.1)) 8))<=(wrap .i64 (m.1-v.1))),m.2.1,ag))) (.c _ (b (wrap .i64 (m.1+1)) v.2.1 (wrap .i64 (v.2.2.1-1)) k m.2.2) λao=>.l (.inl (v.1,m.1,(wrap .i64 (v.2.2.1-1)),((wrap .i64 (Int.tdiv (wrap .i64 (v.2.1-v.1)) 8))<=(wrap .i64 (v.2.1-m.1))),m.2.1,ao)))))) (.t (0<v.1) (.g (inR (wrap .i64 (v.1-1)) (length a.1))<|.g (((toNat (wrap .i64 (v.1-1)))<length a.1)&&((getD a.1 (toNat (wrap .i64 (v.1-1))) 0)<length a.2))<|.g (inR e.1 (length a.1))<|.g (((toNat e.1)<length a.1)&&((getD a.1 (toNat e.1) 0)<length a.2))<|.c _ (k ((getD a.2 (getD a.1 (toNat (wrap .i64 (v.1-1))) 0) []),(getD a.2 (getD a.1 (toNat e.1) 0) []),())) λbb=>.t (!(bb<0)) (.f) (.c _ (wdj v.1 v.2.1 e.1 k a) λn=>.g (!decide ((8:Int)=0))<|.t ((wrap .i64 (n.1-v.1))<(wrap .i64 (v.2.1-n.1))) (.c _ (b v.1 n.1 (wrap .i64 (v.2.2.1-1)) k n.2.2) λar=>.l (.inl ((wrap .i64 (n.1+1)),v.2.1,(wrap .i64 (v.2.2.1-1)),((wrap .i64 (Int.tdiv (wrap .i64 (v.2.1-v.1)) 8))<=(wrap .i64 (n.1-v.1))),n.2.1,ar))) (.c _ (b (wrap .i64 (n.1+1)) v.2.1 (wrap .i64 (v.2.2.1-1)) k n.2.2) λai=>.l (.inl (v.1,n.1,(wrap .i64 (v.2.2.1-1)),((wrap .i64 (Int.tdiv (wrap .i64 (v.2.1-v.1)) 8))<=(wrap .i64 (v.2.1-n.1))),n.2.1,ai))))) (.c _ (wdj v.1 v.2.1 e.1 k a) λj=>.g (!decide ((8:Int)=0))<|.t ((wrap .i64 (j.1-v.1))<(wrap .i64 (v.2.1-j.1))) (.c _ (b v.1 j.1 (wrap .i64 (v.2.2.1-1)) k j.2.2) λal=>.l (.inl ((wrap .i64 (j.1+1)),v.2.1,(wrap .i64 (v.2.2.1-1)),((wrap .i64 (Int.tdiv (wrap .i64 (v.2.1-v.1)) 8))<=(wrap .i64 (j.1-v.1))),j.2.1,al))) (.c _ (b (wrap .i64 (j.1+1)) v.2.1 (wrap .i64 (v.2.2.1-1)) k j.2.2) λak=>.l (.inl (v.1,j.1,(wrap .i64 (v.2.2.1-1)),((wrap .i64 (Int.tdiv (wrap .i64 (v.2.1-v.1)) 8))<=(wrap .i64 (v.2.1-j.1))),j.2.1,ak)))))) (.t (0<v.1) (.g (inR (wrap .i64 (v.1-1)) (length a.1))<|.g (((toNat (wrap .i64 (v.1-1)))<length a.1)&&((getD a.1 (toNat (wrap .i64 (v.1-1))) 0)<length a.2))<|.g (inR e.1 (length a.1))<|.g (((toNat e.1)<length a.1)&&((getD a.1 (toNat e.1) 0)<length a.2))<|.c _ (k ((getD a.2 (getD a.1 (toNat (wrap .i64 (v.1-1))) 0) []),(getD a.2 (getD a.1 (toNat e.1) 0) []),())) λab=>.t (!(ab<0)) (.f) (.c _ (wdj v.1 v.2.1 e.1 k a) λq=>.g (!decide ((8:Int)=0))<|.t ((wrap .i64 (q.1-v.1))<(wrap .i64 (v.2.1-q.1))) (.c _ (b v.1 q.1 (wrap .i64 (v.2.2.1-1)) k q.2.2) λbc=>.l (.inl ((wrap .i64 (q.1+1)),v.2.1,(wrap .i64 (v.2.2.1-1)),((wrap .i64 (Int.tdiv (wrap .i64 (v.2.1-v.1)) 8))<=(wrap .i64 (q.1-v.1))),q.2.1,bc))) (.c _ (b (wrap .i64 (q.1+1)) v.2.1 (wrap .i64 (v.2.2.1-1)) k q.2.2) λaw=>.l (.inl (v.1,q.1,(wrap .i64 (v.2.2.1-1)),((wrap .i64 (Int.tdiv (wrap .i64 (v.2.1-v.1)) 8))<=(wrap .i64 (v.2.1-q.1))),q.2.1,aw))))) (.c _ (wdj v.1 v.2.1 e.1 k a) λp=>.g (!decide ((8:Int)=0))<|.t ((wrap .i64 (p.1-v.1))<(wrap .i64 (v.2.1-p.1))) (.c _ (b v.1 p.1 (wrap .i64 (v.2.2.1-1)) k p.2.2) λax=>.l (.inl ((wrap .i64 (p.1+1)),v.2.1,(wrap .i64 (v.2.2.1-1)),((wrap .i64 (Int.tdiv (wrap .i64 (v.2.1-v.1)) 8))<=(wrap .i64 (p.1-v.1))),p.2.1,ax))) (.c _ (b (wrap .i64 (p.1+1)) v.2.1 (wrap .i64 (v.2.2.1-1)) k p.2.2) λad=>.l (.inl (v.1,p.1,(wrap .i64 (v.2.2.1-1)),((wrap .i64 (Int.tdiv (wrap .i64 (v.2.1-v.1)) 8))<=(wrap .i64 (v.2.1-p.1))),p.2.1,ad))))))) (.c _ (waqa (permL v.2.2.2.2.2.1 v.2.2.2.2.2.2) v.1 v.2.1 k) λh=>.t (h.2==2) (.f) (.t v.2.2.2.1 (.t v.2.2.2.2.1 (.t (h.2==1) (.f) (.t (0<v.1) (.g (inR (wrap .i64 (v.1-1)) (length v.2.2.2.2.2.1))<|.g (((toNat (wrap .i64 (v.1-1)))<length v.2.2.2.2.2.1)&&((getD v.2.2.2.2.2.1 (toNat (wrap .i64 (v.1-1))) 0)<length v.2.2.2.2.2.2))<|.g (inR h.1 (length v.2.2.2.2.2.1))<|.g (((toNat h.1)<length v.2.2.2.2.2.1)&&((getD v.2.2.2.2.2.1 (toNat h.1) 0)<length v.2.2.2.2.2.2))<|.c _ (k ((getD v.2.2.2.2.2.2 (getD v.2.2.2.2.2.1 (toNat (wrap .i64 (v.1-1))) 0) []),(getD v.2.2.2.2.2.2 (getD v.2.2.2.2.2.1 (toNat h.1) 0) []),())) λay=>.t (!(ay<0)) (.f) (.c _ (wdj v.1 v.2.1 h.1 k v.2.2.2.2.2) λo=>.g (!decide ((8:Int)=0))<|.t ((wrap .i64 (o.1-v.1))<(wrap .i64 (v.2.1-o.1))) (.c _ (b v.1 o.1 v.2.2.1 k o.2.2) λz=>.l (.inl ((wrap .i64 (o.1+1)),v.2.1,v.2.2.1,((wrap .i64 (Int.tdiv (wrap .i64 (v.2.1-v.1)) 8))<=(wrap .i64 (o.1-v.1))),o.2.1,z))) (.c _ (b (wrap .i64 (o.1+1)) v.2.1 v.2.2.1 k o.2.2) λau=>.l (.inl (v.1,o.1,v.2.2.1,((wrap .i64 (Int.tdiv (wrap .i64 (v.2.1-v.1)) 8))<=(wrap .i64 (v.2.1-o.1))),o.2.1,au))))) (.c _ (wdj v.1 v.2.1 h.1 k v.2.2.2.2.2) λu=>.g (!decide ((8:Int)=0))<|.t ((wrap .i64 (u.1-v.1))<(wrap .i64 (v.2.1-u.1))) (.c _ (b v.1 u.1 v.2.2.1 k u.2.2) λbd=>.l (.inl ((wrap .i64 (u.1+1)),v.2.1,v.2.2.1,((wrap .i64 (Int.tdiv (wrap .i64 (v.2.1-v.1)) 8))<=(wrap .i64 (u.1-v.1))),u.2.1,bd))) (.c _ (b (wrap .i64 (u.1+1)) v.2.1 v.2.2.1 k u.2.2) λaj=>.l (.inl (v.1,u.1,v.2.2.1,((wrap .i64 (Int.tdiv (wrap .i64 (v.2.1-v.1)) 8))<=(wrap .i64 (v.2.1-u.1))),u.2.1,aj)))))) (.t (0<v.1) (.g (inR (wrap .i64 (v.1-1)) (length v.2.2.2.2.2.1))<|.g (((toNat (wrap .i64 (v.1-1)))<length v.2.2.2.2.2.1)&&((getD v.2.2.2.2.2.1 (toNat (wrap .i64 (v.1-1))) 0)<length v.2.2.2.2.2.2))<|.g (inR h.1 (length v.2.2.2.2.2.1))<|.g (((toNat h.1)<length v.2.2.2.2.2.1)&&((getD v.2.2.2.2.2.1 (toNat h.1) 0)<length v.2.2.2.2.2.2))<|.c _ (k ((getD v.2.2.2.2.2.2 (getD v.2.2.2.2.2.1 (toNat (wrap .i64 (v.1-1))) 0) []),(getD v.2.2.2.2.2.2 (getD v.2.2.2.2.2.1 (toNat h.1) 0) []),())) λap=>.t (!(ap<0)) (.f) (.c _ (wdj v.1 v.2.1 h.1 k v.2.2.2.2.2) λr=>.g (!decide ((8:Int)=0))<|.t ((wrap .i64 (r.1-v.1))<(wrap .i64 (v.2.1-r.1))) (.c _ (b v.1 r.1 v.2.2.1 k r.2.2) λbf=>.l (.inl ((wrap .i64 (r.1+1)),v.2.1,v.2.2.1,((wrap .i64 (Int.tdiv (wrap .i64 (v.2.1-v.1)) 8))<=(wrap .i64 (r.1-v.1))),r.2.1,bf))) (.c _ (b (wrap .i64 (r.1+1)) v.2.1 v.2.2.1 k r.2.2) λaq=>.l (.inl (v.1,r.1,v.2.2.1,((wrap .i64 (Int.tdiv (wrap .i64 (v.2.1-v.1)) 8))<=(wrap .i64 (v.2.1-r.1))),r.2.1,aq))))) (.c _ (wdj v.1 v.2.1 h.1 k v.2.2.2.2.2) λw=>.g (!decide ((8:Int)=0))<|.t ((wrap .i64 (w.1-v.1))<(wrap .i64 (v.2.1-w.1))) (.c _ (b v.1 w.1 v.2.2.1 k w.2.2) λam=>.l (.inl ((wrap .i64 (w.1+1)),v.2.1,v.2.2.1,((wrap .i64 (Int.tdiv (wrap .i64 (v.2.1-v.1)) 8))<=(wrap .i64 (w.1-v.1))),w.2.1,am))) (.c _ (b (wrap .i64 (w.1+1)) v.2.1 v.2.2.1 k w.2.2) λba=>.l (.inl (v.1,w.1,v.2.2.1,((wrap .i64 (Int.tdiv (wrap .i64 (v.2.1-v.1)) 8))<=(wrap .i64 (v.2.1-w.1))),w.2.1,ba)))))) (.t (0<v.1) (.g (inR (wrap .i64 (v.1-1)) (length v.2.2.2.2.2.1))<|.g (((toNat (wrap .i64 (v.1-1)))<length v.2.2.2.2.2.1)&&((getD v.2.2.2.2.2.1 (toNat (wrap .i64 (v.1-1))) 0)<length v.2.2.2.2.2.2))<|.g (inR h.1 (length v.2.2.2.2.2.1))<|.g (((toNat h.1)<length v.2.2.2.2.2.1)&&((getD v.2.2.2.2.2.1 (toNat h.1) 0)<length v.2.2.2.2.2.2))<|.c _ (k ((getD v.2.2.2.2.2.2 (getD v.2.2.2.2.2.1 (toNat (wrap .i64 (v.1-1))) 0) []),(getD v.2.2.2.2.2.2 (getD v.2.2.2.2.2.1 (toNat h.1) 0) []),())) λah=>.t (!(ah<0)) (.f) (.c _ (wdj v.1 v.2.1 h.1 k v.2.2.2.2.2) λy=>.g (!decide ((8:Int)=0))<|.t ((wrap .i64 (y.1-v.1))<(wrap .i64 (v.2.1-y.1))) (.c _ (b v.1 y.1 v.2.2.1 k y.2.2) λaz=>.l (.inl ((wrap .i64 (y.1+1)),v.2.1,v.2.2.1,((wrap .i64 (Int.tdiv (wrap .i64 (v.2.1-v.1)) 8))<=(wrap .i64 (y.1-v.1))),y.2.1,az))) (.c _ (b (wrap .i64 (y.1+1)) v.2.1 v.2.2.1 k y.2.2) λaf=>.l (.inl (v.1,y.1,v.2.2.1,((wrap .i64 (Int.tdiv (wrap .i64 (v.2.1-v.1)) 8))<=(wrap .i64 (v.2.1-y.1))),y.2.1,af))))) (.c _ (wdj v.1 v.2.1 h.1 k v.2.2.2.2.2) λi=>.g (!decide ((8:Int)=0))<|.t ((wrap .i64 (i.1-v.1))<(wrap .i64 (v.2.1-i.1))) (.c _ (b v.1 i.1 v.2.2.1 k i.2.2) λan=>.l (.inl ((wrap .i64 (i.1+1)),v.2.1,v.2.2.1,((wrap .i64 (Int.tdiv (wrap .i64 (v.2.1-v.1)) 8))<=(wrap .i64 (i.1-v.1))),i.2.1,an))) (.c _ (b (wrap .i64 (i.1+1)) v.2.1 v.2.2.1 k i.2.2) λav=>.l (.inl (v.1,i.1,v.2.2.1,((wrap .i64 (Int.tdiv (wrap .i64 (v.2.1-v.1)) 8))<=(wrap .i64 (v.2.1-i.1))),i.2.1,av)))))))))
def wais(a:(Int)->(Int)->(Int)->(Yk)->Yj->Option Yj) k v:=iter (λv=>(wow a k v).ev) v
def wjk(a:(Int)->(Int)->(Int)->(Yk)->Yj->Option Yj):LD:=yl (wow a) (yk [] [0,1,2,3,4,10,11] (yj [.arr 64,.dat yi,.dat yi,.dat yi,.clo [y1,y1] yi,.dat .bool,.dat .bool]) [Zad]) [] yq453 (λk v=>(((),v.1,v.2.1,v.2.2.1,k,v.2.2.2.1,v.2.2.2.2.1,()),v.2.2.2.2.2,())) yq149 (λt=>(t.1.2.1,t.1.2.2.1,t.1.2.2.2.1,t.1.2.2.2.2.2.1,t.1.2.2.2.2.2.2.1,t.2.1)) (λ_ r=>yz yq453 (((),()),r,()))
def waqe(f:(Int)->(Int)->(Int)->(Yk)->Yj->Option Yj)(b i a:Int)(e:Yk)(g:(List Nat)×Y2):Tr Yj:=.c _ (wais f e (b,i,a,true,true,g)) λh=>.l h
noncomputable def wiq:Nat->(Int)->(Int)->(Int)->(Yk)->Yj->Option Yj |0=>λ_ _ _ _ _=>none |n+1=>λb f a c e=>(waqe (wiq n) b f a c e).ev
def wbdi:RetK:= {acts:=[],res:=[],sh:=.nil,obs:=[Zad],pins:=[(0,0,64)]}
def wze(a:(Int)->(Int)->(Int)->(Yk)->Yj->Option Yj):FD:={A:=(yj [.arr 64,.dat yi,.dat yi,.dat yi,.clo [y1,y1] yi]),ins:=[Zad],lend:=[.arg 0],R:=(List Nat)×Y2,F:=λx=>a x.1.2.1 x.1.2.2.1 x.1.2.2.2.1 x.1.2.2.2.2.1 x.2.1,emb:=λr=>([],[(64,.perm false 22 3 yi r.1 r.2)])}
def waqf(n:Nat):FD:=wze (wiq n)
def waiu(a:(Int)->(Int)->(Int)->(Yk)->Yj->Option Yj):Env:=envOf [wapf.1,wapu.1,waqb.1,waqd.1,(309,wze a)]
def waiv(a:(Int)->(Int)->(Int)->(Yk)->Yj->Option Yj):List (Nat×LD):=[(0,wjk a)]
def waiw:Code:=(f309.body).getD .skip
theorem waix(a:(Int)->(Int)->(Int)->(Yk)->Yj->Option Yj):(wjk a).OK (waiu a) tt noZ (orcOf (waiv a)) (loopAt waiw 0):=ldMk (λ_=>rfl) λ_ _=>by kernel_rfl
theorem wbjm(a:(Int)->(Int)->(Int)->(Yk)->Yj->Option Yj):LoopsOK (waiu a) tt noZ (waiv a) waiw:=lpMk (by kernel_rfl) (lpC (waix a) lpN)
theorem wzf:∀n:Nat,FDok prog (309,waqf n) |0=>λ_ _ h=>nomatch h |n+1=>fn_ok mixed (env_ok (fdC wapf.2 (fdC wapu.2 (fdC waqb.2 (fdC waqd.2 (fdC (wzf n) fdN)))))) tabOK (fnMk (waqf (n+1)) (waiu (wiq n)) wbdi noZ (waiv (wiq n)) waiw (λx=>waqe (wiq n) x.1.2.1 x.1.2.2.1 x.1.2.2.2.1 x.1.2.2.2.2.1 x.2.1) (λr=>((),r,())) func309 (wbjm (wiq n)) λ_=>by kernel_rfl)
def wbpi:FP prog:=⟨_,wzf 1000000⟩
end
end Go.Proofs.YteiekijgoifhoaaGreatDoor
