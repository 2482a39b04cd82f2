import Derived.Test.YteiekijgoifhoaaGreatDoorC3
import Derived.Test.YteiekijgoifhoaaGreatDoorProg
namespace Go.Proofs.YteiekijgoifhoaaGreatDoor
noncomputable section
open Go.Proofs.Tryz
open List (length getD set)
open Int (toNat)
open IntKind (wrap)
def wbb(k:Y1×(Int×(Y1×Int)))(v:Int):Tr ((Int)⊕((Unit)⊕(Unit))):=
 .t (v<k.2.2.2)
 (.g (inR v (length k.2.2.1))<|
 .c _ (wdi (getD k.2.2.1 (toNat v) 0) 0 (wrap .i64 (k.2.1-1))) fun a=>
 .t (!a)
 (.l (.inr (.inr ())))
 (.t (0<v)
 (.g (inR (wrap .i64 (v-1)) (length k.1))<|
 .t ((getD k.2.2.1 (toNat v) 0)≤(getD k.1 (toNat (wrap .i64 (v-1))) 0))
 (.l (.inr (.inr ())))
 (.l (.inl (wrap .i64 (v+1)))))
 (.l (.inl (wrap .i64 (v+1))))))
 (.l (.inr (.inl ())))
def wia k v:=iter (fun v=>(wbb k v).ev) v
abbrev yq234:Keep:=yh [0,1,7,8,9] (yj [.dat y1,.dat yi,.dat y1,.dat yi,.dat yi])
abbrev yq235{a b c d e:Type}(k:a×b×c×d)(v:e):=((k.1,(k.2.1,(k.2.2.1,(k.2.2.2,(v,()))))),())
abbrev yq236{a b c d e g:Type}(t:(a×b×c×d×e)×g):=(t.1.1,(t.1.2.1,(t.1.2.2.1,t.1.2.2.2.1)))
def wng:LD:=yl (wbb) yq234 [(0,yq10)] yq126 yq235 yq236 yq65 (fun _ r=>.s _ _ r (fun _=>yx 0 yq10 ((),())) (fun _=>yz yq126 ((false,()),())))
def wui(a:Y1)(e:Int):Tr (Bool):=
 .c _ (wia (a,(e,(a,(length a:Int)))) 0) fun b=>
 .s _ _ b
 (fun _=>.l true)
 (fun _=>.l false)
def wnh a b:=(wui a b).ev
def waai:FP prog:=fnP cx func114 [wfj] (yj [.dat y1,.dat yi]) [] [] (yq41 wui) yq112 yq2 noZ [(0,wng)]
def wuj(a:Y1)(e:List Y1)(g:Y1)(b:Int):Tr (Bool):=
 .c _ (wdt a e) fun i=>
 .t i
 (.c _ (wnh g (length a:Int)) fun f=>
 .t f
 (.c _ (wdi b 0 1000) fun h=>
 .l h)
 (.l false))
 (.l false)
def wib c e b a:=(wuj c e b a).ev
def wuk:FP prog:=fnP cx func60 [wnf,waai,wfj] (yj [.agg Zm]) [] [] (yq114 wuj) yq0 yq2
def wic(a:Y1):Option (List Int):=cloneF a
def wahp:FD:=fdClone
theorem waaj:FDok prog (116,wahp):=hand_clone
def waak:FP prog:=⟨_,waaj⟩
def wch(k:Y2×Int)(v:Int×Y2):Tr ((Int×Y2)⊕Y2):=
 .t (v.1<k.2)
 (.g (inR v.1 (length k.1))<|
 .c _ (wic (getD k.1 (toNat v.1) [])) fun a=>
 .g ((length v.2+1)*24≤140737488355328)<|
 .l (.inl ((wrap .i64 (v.1+1)),(set (v.2++ [[]]) (length v.2) a))))
 (.l (.inr v.2))
def wie k v:=iter (fun v=>(wch k v).ev) v
abbrev yq237:Keep:=yk [] [3,7,8,9] (yj [.arr 6,.dat y2,.dat yi,.dat yi]) [(6,.rows 22 3 yi)]
abbrev yq238:Keep:=yk [] [3] (yj [.arr 6]) [(6,.rows 22 3 yi)]
abbrev yq239{a b c d:Type}(k:a×b)(v:c×d):=(((),(k.1,(k.2,(v.1,())))),(v.2,()))
def wni:LD:=yl (wch) yq237 [(0,yq238)] yq10 yq239 yq209 yq110 (fun _ r=>yx 0 yq238 (((),()),(r,())))
def wul(a:List Y1):Tr Y2:=
 .c _ (wie (a,(length a:Int)) (0,[])) fun b=>
 .l b
def wum a:=(wul a).ev
abbrev yq240:RetK:=⟨[.ren 6 0],[.tmp 2],Zah,[(0,.rows 22 3 yi)],[],[]⟩
def wahq:FP prog:=fnP cx func117 [waak] (yj [.dat y2]) [] [] (yq1 wul) yq240 yq27 (zOf [(1,[(0,[1000000])])]) [(0,wni)]
def T_zk(h:Y1)(b:List Y1)(e:Y1)(a:Int):Tr (Int×(Y1×(Y2×Y1))):=
 .c _ (wic h) fun g=>
 .c _ (wum b) fun i=>
 .c _ (wic e) fun f=>
 .l (a,(g,(i,f)))
def F_zk c e b a:=(T_zk c e b a).ev
abbrev yq241:RetK:=⟨[.ren 384 3,.ren 640 4,.ren 896 5],[.cell 2 38],(yj [.agg (yj [.arr 3,.arr 4,.arr 5,.dat yi])]),[(3,.arr 3 yi),(4,.rows 22 3 yi),(5,.arr 3 yi)],[],[]⟩
def G_zk:FP prog:=fnP cx func61 [waak,wahq] (yj [.agg Zm]) [] [] (yq114 T_zk) yq241 yq135
def wun(g:Y1)(e:List Y1)(f:Y1)(b:Int):Tr (Int×((List UInt8)×((List UInt8)×(Int×(Bool×(Y1×(Y2×Y1))))))):=
 .c _ (wib g e f b) fun h=>
 .t (!h)
 (.l (0,([],([],(0,(false,([],([],[]))))))))
 (.c _ (F_zk g e f b) fun a=>
 .l (a.1,([],([],(0,(true,(a.2.1,(a.2.2.1,a.2.2.2))))))))
def wif c e b a:=(wun c e b a).ev
abbrev yq242:RetK:=⟨[.ownB 2 0 3 3 yi,.ownRB 2 1 4 22 3 yi,.ownB 2 2 5 3 yi,.ren 579 3,.ren 580 4,.ren 581 5],[.cell 2 41,.tmp 3],(yj [.agg (yj [.arr 3,.arr 4,.arr 5,.dat yi,.dat .str,.dat .str,.dat yi]),.dat .bool]),[(3,.arr 3 yi),(4,.rows 22 3 yi),(5,.arr 3 yi)],[],[]⟩
abbrev yq243{a b c d e g h i:Type}(r:a×b×c×d×e×g×h×i):=((((),((),((),(r.1,(r.2.1,(r.2.2.1,(r.2.2.2.1,()))))))),(r.2.2.2.2.1,())),(r.2.2.2.2.2.1,(r.2.2.2.2.2.2.1,(r.2.2.2.2.2.2.2,()))))
def wahr:FP prog:=fnP cx func20 [wuk,G_zk] (yj [.agg Zm]) [] [] (yq114 wun) yq242 yq243
def wuo(g:Y1)(b:List Y1)(e:Y1)(a:Int):Tr (Bool):=
 .c _ (wha g b e a) fun f=>
 .l f
def wup c e b a:=(wuo c e b a).ev
def wahs:FP prog:=fnP cx func39 [wrr] (yj [.agg Zm]) [] [] (yq114 wuo) yq0 yq2
def F_internal_bytealg_IndexByteString(a:List UInt8)(b:Int):Option (Int):=some (idxByte a b)
def D_internal_bytealg_IndexByteString:FD:=fdIndexByte
theorem fd_internal_bytealg_IndexByteString:FDok prog (297,D_internal_bytealg_IndexByteString):=hand_indexByte func297 (by kernel_rfl) (by kernel_rfl) (by kernel_rfl) (by kernel_rfl)
def G_internal_bytealg_IndexByteString:FP prog:=⟨_,fd_internal_bytealg_IndexByteString⟩
def T_internal_stringslite_IndexByte(b:List UInt8)(e:Int):Tr (Int):=
 .c _ (F_internal_bytealg_IndexByteString b e) fun a=>
 .l a
def F_internal_stringslite_IndexByte a b:=(T_internal_stringslite_IndexByte a b).ev
def G_internal_stringslite_IndexByte:FP prog:=fnP cx func216 [G_internal_bytealg_IndexByteString] (yj [.dat .str,.dat (.int .u8)]) [] [] (yq41 T_internal_stringslite_IndexByte) yq40 yq2
def waal(b:List UInt8)(e:Int):Tr (Int):=
 .c _ (F_internal_stringslite_IndexByte b e) fun a=>
 .l a
def waht a b:=(waal a b).ev
def wahu:FP prog:=fnP cx func140 [G_internal_stringslite_IndexByte] (yj [.dat .str,.dat (.int .u8)]) [] [] (yq41 waal) yq40 yq2
def T_internal_stringslite_Index(b:List UInt8)(a:List UInt8):Tr (Int):=
 .t ((length a:Int)==(0:Int))
 (.l 0)
 (.t (a==b)
 (.l 0)
 (.t ((length a:Int)==(1:Int))
 (.g (inR 0 (length a))<|
 .c _ (F_internal_stringslite_IndexByte b ((UInt8.toNat (getD a (toNat 0) 0):Nat):Int)) fun e=>
 .l e)
 (.g ((length b:Int)≤(length a:Int))<|
 .l (-1))))
def F_internal_stringslite_Index a b:=(T_internal_stringslite_Index a b).ev
def G_internal_stringslite_Index:FP prog:=fnP cx func263 [G_internal_stringslite_IndexByte] Zai [] [] (yq41 T_internal_stringslite_Index) yq40 yq2
def T_internal_stringslite_Cut(b:List UInt8)(e:List UInt8):Tr ((List UInt8)×Yy):=
 .c _ (F_internal_stringslite_Index b e) fun a=>
 .t (0≤a)
 (.g ((0≤a)&&(a≤(length b:Int)))<|
 .g (((0:Int)≤(wrap .i64 (a+(length e:Int))))&&((wrap .i64 (a+(length e:Int)))≤(length b:Int)))<|
 .l ((List.drop 0 (List.take (toNat a) b)),((List.drop (toNat (wrap .i64 (a+(length e:Int)))) (List.take (length b) b)),true)))
 (.l (b,([],false)))
def F_internal_stringslite_Cut a b:=(T_internal_stringslite_Cut a b).ev
abbrev yq244:RetK:=yr [.tmp 4,.tmp 5,.tmp 6] (yj [.dat .str,.dat .str,.dat .bool])
abbrev yq245{a b c:Type}(r:a×b×c):=((r.1,(r.2.1,(r.2.2,()))),())
def G_internal_stringslite_Cut:FP prog:=fnP cx func217 [G_internal_stringslite_Index] Zai [] [] (yq41 T_internal_stringslite_Cut) yq244 yq245
def waam(b:List UInt8)(e:List UInt8):Tr ((List UInt8)×Yy):=
 .c _ (F_internal_stringslite_Cut b e) fun a=>
 .l (a.1,(a.2.1,a.2.2))
def wuq a b:=(waam a b).ev
def waan:FP prog:=fnP cx func142 [G_internal_stringslite_Cut] Zai [] [] (yq41 waam) yq244 yq245
def wur(b:List UInt8)(e:List UInt8):Tr (Int):=
 .c _ (F_internal_stringslite_Index b e) fun a=>
 .l a
def waao a b:=(wur a b).ev
def wahv:FP prog:=fnP cx func187 [G_internal_stringslite_Index] Zai [] [] (yq41 wur) yq40 yq2
def wus(b:List UInt8)(e:List UInt8):Tr (Bool):=
 .c _ (waao b e) fun a=>
 .l (0≤a)
def wek a b:=(wus a b).ev
def wut:FP prog:=fnP cx func126 [wahv] Zai [] [] (yq41 wus) yq112 yq2
def wci(k:(List UInt8)×Int)(v:Int×Int):Tr (Yr⊕(Int)):=
 .t (v.2<k.2)
 (.g (inR v.2 (length k.1))<|
 .g (!decide ((999979:Int)=0))<|
 .l (.inl ((Int.tmod (wrap .i64 ((wrap .i64 ((wrap .i64 ((41:Int)*v.1))+(wrap .i64 ((UInt8.toNat (getD k.1 (toNat v.2) 0):Nat):Int))))+1)) 999979),(wrap .i64 (v.2+1)))))
 (.l (.inr v.1))
def wig k v:=iter (fun v=>(wci k v).ev) v
abbrev yq246:Keep:=yh [0,3,6,7] (yj [.dat .str,.dat yi,.dat yi,.dat yi])
abbrev yq247:Keep:=yh [3] Zn
abbrev yq248{a b c d:Type}(k:a×b)(v:c×d):=((k.1,(v.1,(k.2,(v.2,())))),())
abbrev yq249{a b c d e:Type}(t:(a×b×c×d)×e):=(t.1.1,t.1.2.2.1)
abbrev yq250{a b c d e g:Type}(t:(a×b×c×d×e)×g):=(t.1.2.1,t.1.2.2.2.1)
def wnj:LD:=yl (wci) yq246 [(0,yq247)] yq10 yq248 yq249 yq250 (fun _ r=>yx 0 yq247 ((r,()),()))
def wuu(a:List UInt8):Tr (Int):=
 .c _ (wig (a,(length a:Int)) (7,0)) fun b=>
 .l b
def wuv a:=(wuu a).ev
abbrev yq251:RetK:=yr [.tmp 2] Zn
def wahw:FP prog:=fnP cx func277 [] (yj [.dat .str]) [] [] (yq1 wuu) yq251 yq2 noZ [(0,wnj)]
def wel(a:Int):Option (List UInt8):=itoaF a
def wahx:FD:=fdItoa
theorem waap:FDok prog (176,wahx):=hand_itoa
def wih:FP prog:=⟨_,waap⟩
def T_ze(a:List UInt8):Tr Yy:=
 .t ((4000:Int)<(length a:Int))
 (.l ([],false))
 (.c _ (wek a ([35]:List UInt8)) fun e=>
 .t e
 (.l ([],false))
 (.g (length a+length ([35]:List UInt8)≤9223372036854775807)<|
 .c _ (wuv a) fun f=>
 .c _ (wel f) fun b=>
 .g (length (a++([35]:List UInt8))+length b≤9223372036854775807)<|
 .t ((4000:Int)<(length ((a++([35]:List UInt8))++b):Int))
 (.l ([],false))
 (.l (((a++([35]:List UInt8))++b),true))))
def F_ze a:=(T_ze a).ev
abbrev yq252:RetK:=yr [.tmp 2,.tmp 3] (yj [.dat .str,.dat .bool])
abbrev yq253{a b:Type}(r:a×b):=((r.1,(r.2,())),())
def G_ze:FP prog:=fnP cx func207 [wut,wahw,wih] (yj [.dat .str]) [] [] (yq1 T_ze) yq252 yq253
def waar(b:List UInt8):Tr Yy:=
 .c _ (wuq b ([35]:List UInt8)) fun a=>
 .c _ (F_ze a.1) fun e=>
 .t (!e.2)
 (.l ([],false))
 (.t (!(e.1==b))
 (.l ([],false))
 (.l (a.1,true)))
def wahz a:=(waar a).ev
def waia:FP prog:=fnP cx func141 [waan,G_ze] (yj [.dat .str]) [] [] (yq1 waar) yq252 yq253
def wcj(k:(List UInt8)×Yr)(v:Int):Tr ((Int)⊕((Unit)⊕(Unit))):=
 .t (v<k.2.2)
 (.g (inR v (length k.1))<|
 .t (((UInt8.toNat (getD k.1 (toNat v) 0):Nat):Int)<(32:Int))
 (.l (.inr (.inr ())))
 (.g (inR v (length k.1))<|
 .t ((126:Int)<((UInt8.toNat (getD k.1 (toNat v) 0):Nat):Int))
 (.l (.inr (.inr ())))
 (.g (inR v (length k.1))<|
 .t (((UInt8.toNat (getD k.1 (toNat v) 0):Nat):Int)==(35:Int))
 (.l (.inr (.inr ())))
 (.l (.inl (wrap .i64 (v+1)))))))
 (.l (.inr (.inl ())))
def wii k v:=iter (fun v=>(wcj k v).ev) v
abbrev yq254:Keep:=yh [0,1,7,8] (yj [.dat .str,.dat yi,.dat yi,.dat yi])
abbrev yq255:Keep:=yh [0,1] (yj [.dat .str,.dat yi])
def wnk:LD:=yl (wcj) yq254 [(0,yq255)] yq126 yq103 yq104 yq69 (fun k r=>.s _ _ r (fun _=>yx 0 yq255 ((k.1,(k.2.1,())),())) (fun _=>yz yq126 ((false,()),())))
def wuw(a:List UInt8)(b:Int):Tr (Bool):=
 .c _ (wii (a,(b,(length a:Int))) 0) fun e=>
 .s _ _ e
 (fun _=>.l ((length a:Int)≤b))
 (fun _=>.l false)
def wnl a b:=(wuw a b).ev
def waib:FP prog:=fnP cx func125 [] (yj [.dat .str,.dat yi]) [] [] (yq41 wuw) yq112 yq2 noZ [(0,wnk)]
def wux(a:List UInt8)(b:List UInt8):Tr (Bool):=
 .t (!(a==([]:List UInt8)))
 (.c _ (wnl a 160) fun g=>
 .t g
 (.c _ (wnl b 200) fun e=>
 .t e
 (.c _ (wek a ([64]:List UInt8)) fun f=>
 .l (!f))
 (.l false))
 (.l false))
 (.l false)
def wfk a b:=(wux a b).ev
def wuy:FP prog:=fnP cx func66 [waib,wut] (yj [.agg Zai]) [] [] (yq58 wux) yq0 yq2
def T_zn(h:Int)(a:List UInt8)(e:List UInt8):Tr Yy:=
 .c _ (wdi h 0 59) fun j=>
 .t (!j)
 (.l ([],false))
 (.c _ (wfk a e) fun i=>
 .t (!i)
 (.l ([],false))
 (.c _ (wel h) fun b=>
 .g (length b+length ([32]:List UInt8)≤9223372036854775807)<|
 .g (length (b++([32]:List UInt8))+length a≤9223372036854775807)<|
 .g (length ((b++([32]:List UInt8))++a)+length ([64]:List UInt8)≤9223372036854775807)<|
 .g (length (((b++([32]:List UInt8))++a)++([64]:List UInt8))+length e≤9223372036854775807)<|
 .c _ (F_ze ((((b++([32]:List UInt8))++a)++([64]:List UInt8))++e)) fun f=>
 .g (length f.1+length ([10]:List UInt8)≤9223372036854775807)<|
 .l ((f.1++([10]:List UInt8)),f.2)))
def F_zn b c a:=(T_zn b c a).ev
abbrev yq256:RetK:=yr [.tmp 4,.tmp 5] (yj [.dat .str,.dat .bool])
def G_zn:FP prog:=fnP cx func131 [wfj,wuy,wih,G_ze] (yj [.dat yi,.agg Zai]) [] [] (yq233 T_zn) yq256 yq253
def wij(k:List UInt8)(v:Int×(List ((List UInt8)×(List UInt8)))):Tr ((Int×(List ((List UInt8)×(List UInt8))))⊕(Int×(List ((List UInt8)×(List UInt8))))):=
 .g ((0≤v.1)&&(v.1≤(length k:Int)))<|
 .c _ (waht (List.drop (toNat v.1) (List.take (length k) k)) 10) fun a=>
 .t (a<0)
 (.l (.inr (v.1,v.2)))
 (.g ((0≤v.1)&&(v.1≤(wrap .i64 ((wrap .i64 (v.1+a))+1)))&&((wrap .i64 ((wrap .i64 (v.1+a))+1))≤(length k:Int)))<|
 .g ((0≤a)&&(a≤(length (List.drop (toNat v.1) (List.take (toNat (wrap .i64 ((wrap .i64 (v.1+a))+1))) k)):Int)))<|
 .c _ (wahz (List.drop 0 (List.take (toNat a) (List.drop (toNat v.1) (List.take (toNat (wrap .i64 ((wrap .i64 (v.1+a))+1))) k))))) fun f=>
 .c _ (wuq f.1 ([32]:List UInt8)) fun h=>
 .c _ (wuq h.2.1 ([64]:List UInt8)) fun b=>
 .c _ (F_zn (length v.2:Int) b.1 b.2.1) fun e=>
 .t (!e.2)
 (.l (.inr (v.1,v.2)))
 (.t (!(e.1==(List.drop (toNat v.1) (List.take (toNat (wrap .i64 ((wrap .i64 (v.1+a))+1))) k))))
 (.l (.inr (v.1,v.2)))
 (.g ((length v.2+length ([(b.1,b.2.1)]:List ((List UInt8)×(List UInt8))))*32≤140737488355328)<|
 .l (.inl ((wrap .i64 ((wrap .i64 (v.1+a))+1)),(v.2++([(b.1,b.2.1)]:List ((List UInt8)×(List UInt8)))))))))
def wuz k v:=iter (fun v=>(wij k v).ev) v
abbrev yq257:Keep:=yk [] [0,4,5] (yj [.dat .str,.arr 19,.dat yi]) [(19,.arr 63 (.pair .str .str))]
abbrev yq258:Keep:=yk [] [2,3] (yj [.arr 19,.dat yi]) [(19,.arr 63 (.pair .str .str))]
abbrev yq259{a b c:Type}(k:a)(v:b×c):=((k,((),(v.1,()))),(v.2,()))
abbrev yq260{a b c d e g:Type}(t:(a×b×c×d)×e×g):=(t.1.2.2.1,t.2.1)
def wno:LD:=yl (wij) yq257 [] yq258 yq259 yq208 yq260 (fun _ r=>yz yq258 (((),(r.1,())),(r.2,())))
def waas(b:List UInt8):Tr (Int×(List ((List UInt8)×(List UInt8)))):=
 .c _ (wuz b (0,([]:List ((List UInt8)×(List UInt8))))) fun a=>
 .l (a.1,a.2)
def waat a:=(waas a).ev
abbrev yq261:RetK:=⟨[.ren 19 0],[.tmp 2,.tmp 3],(yj [.arr 0,.dat yi]),[(0,.arr 63 (.pair .str .str))],[],[]⟩
def waid:FP prog:=fnP cx func74 [wahu,waia,waan,G_zn] (yj [.dat .str]) [] [] (yq1 waas) yq261 yq184 noZ [(0,wno)]
def waau(a:List UInt8)(b:List UInt8)(h:Int):Tr (Bool):=
 .g (length a+length b≤9223372036854775807)<|
 .t ((30000:Int)<(length (a++b):Int))
 (.l false)
 (.c _ (waat (a++b)) fun e=>
 .c _ (waat a) fun f=>
 .t (e.1==(length (a++b):Int))
 (.t (f.1==(length a:Int))
 (.l (h==(length e.2:Int)))
 (.l false))
 (.l false))
def wnp b c a:=(waau b c a).ev
abbrev yq262{a b c d e g:Type}{z:Type _}(f:a→b→c→z)(x:((a×b×c×d)×e)×g):z:=f x.1.1.1 x.1.1.2.1 x.1.1.2.2.1
def waav:FP prog:=fnP cx func72 [waid] (yj [.agg (yj [.dat .str,.dat .str,.dat yi])]) [] [] (yq262 waau) yq0 yq2
def wva(j:Y1)(e:List Y1)(g:Y1)(a:Int)(b:List UInt8)(f:List UInt8)(h:Int):Tr (Bool):=
 .c _ (wib j e g a) fun i=>
 .t i
 (.c _ (wnp b f h) fun m=>
 .l m)
 (.l false)
def wvb h c f a b e g:=(wva h c f a b e g).ev
abbrev yq263{a b c d e g h i j l:Type}{z:Type _}(f:a→b→c→d→e→g→h→z)(x:((a×b×c×d×e×g×h×i)×j)×l):z:=f x.1.1.1 x.1.1.2.1 x.1.1.2.2.1 x.1.1.2.2.2.1 x.1.1.2.2.2.2.1 x.1.1.2.2.2.2.2.1 x.1.1.2.2.2.2.2.2.1
def waie:FP prog:=fnP cx func28 [wuk,waav] (yj [.agg (yj [.dat y1,.dat y2,.dat y1,.dat yi,.dat .str,.dat .str,.dat yi])]) [] [] (yq263 wva) yq0 yq2
def wvc(a:List UInt8)(b:List UInt8):Option (List (List UInt8)):=splitF a b
def waif:FD:=fdSplit
theorem waaw:FDok prog (55,waif):=hand_split
def waig:FP prog:=⟨_,waaw⟩
def wnq(a:List UInt8):Option (Int×(Bool)):=parseF a
def waih:FD:=fdParse
theorem waax:FDok prog (127,waih):=hand_parse
def waii:FP prog:=⟨_,waax⟩
def wik(k:(List (List UInt8))×((List UInt8)×Int))(v:Int):Tr ((Int)⊕((Unit)⊕(Int))):=
 .t (v<k.2.2)
 (.g (inR v (length k.1))<|
 .t (k.2.1==(getD k.1 (toNat v) []))
 (.l (.inr (.inr v)))
 (.l (.inl (wrap .i64 (v+1)))))
 (.l (.inr (.inl ())))
def wvf k v:=iter (fun v=>(wik k v).ev) v
abbrev yq270:Keep:=yh [0,1,7,8] (yj [.dat (.slice .str),.dat .str,.dat yi,.dat yi])
def wnr:LD:=yl (wik) yq270 [(0,yq10)] yq229 yq103 yq104 yq69 (fun _ r=>.s _ _ r (fun _=>yx 0 yq10 ((),())) (fun b=>yz yq229 ((b,()),())))
def wacg(a:List (List UInt8))(f:List UInt8):Tr (Int):=
 .c _ (wvf (a,(f,(length a:Int))) 0) fun b=>
 .s _ _ b
 (fun _=>.l (-1))
 (fun e=>.l e)
def waij a b:=(wacg a b).ev
def waik:FP prog:=fnP cx func192 [] (yj [.dat (.slice .str),.dat .str]) [] [] (yq41 wacg) yq40 yq2 noZ [(0,wnr)]
def wach(b:List UInt8):Tr (Int):=
 .c _ (waij ([[],([111,112,101,110]:List UInt8),([99,108,111,115,101]:List UInt8),([115,119,97,112]:List UInt8),([99,111,115,116]:List UInt8),([108,101,110,103,116,104]:List UInt8),([115,105,116,101]:List UInt8),([99,108,105,101,110,116]:List UInt8),([100,114,111,112,115,105,116,101]:List UInt8),([100,114,111,112,99,108,105,101,110,116]:List UInt8),([105,109,112,114,111,118,101]:List UInt8),([98,101,115,116]:List UInt8)]:List (List UInt8)) b) fun a=>
 .l a
def wvg a:=(wach a).ev
def wail:FP prog:=fnP cx func128 [waik] (yj [.dat .str]) [] [] (yq1 wach) yq251 yq2
def wvh(a:Y1)(b:List Y1)(f:Int):Tr (Bool):=
 .c _ (wdt a b) fun g=>
 .t g
 (.c _ (wdi f 1 (length a:Int)) fun e=>
 .l e)
 (.l false)
def wem b c a:=(wvh b c a).ev
def waci:FP prog:=fnP cx func88 [wnf,wfj] (yj [.agg Zk,.dat yi]) [] [] (yq113 wvh) yq112 yq2
def wacj(b:Int)(a:Int):Tr (Bool):=
 .g (0≤a)<|
 .l ((wrap .u64 (BitVec.toNat ((BitVec.ofInt Zf (Int.fdiv b (2^(min (toNat a) Zf))))&&& (BitVec.ofInt Zf 1))))==(1:Int))
def wfl a b:=(wacj a b).ev
def wvi:FP prog:=fnP cx func232 [] (yj [.dat (.int .u64),.dat yi]) [] [] (yq41 wacj) yq112 yq2
def wil(k:Int)(v:Int×Y1):Tr (Yq⊕Y1):=
 .g (0≤v.1)<|
 .t ((0:Int)<(Int.fdiv k (2^(min (toNat v.1) Zf))))
 (.c _ (wfl k v.1) fun a=>
 .t a
 (.g ((length v.2+length ([v.1]:Y1))*8≤140737488355328)<|
 .l (.inl ((wrap .i64 (v.1+1)),(v.2++([v.1]:Y1)))))
 (.l (.inl ((wrap .i64 (v.1+1)),v.2))))
 (.l (.inr v.2))
def wvq k v:=iter (fun v=>(wil k v).ev) v
abbrev yq271:Keep:=yk [] [0,3,4] (yj [.dat (.int .u64),.arr 5,.dat yi]) [(5,.arr 3 yi)]
abbrev yq272:Keep:=yk [] [3] (yj [.arr 5]) [(5,.arr 3 yi)]
def wns:LD:=yl (wil) yq271 [(0,yq272)] yq10 yq259 yq208 yq260 (fun _ r=>yx 0 yq272 (((),()),(r,())))
def wack(b:Int):Tr Y1:=
 .c _ (wvq b (0,[])) fun a=>
 .l a
def wdy a:=(wack a).ev
abbrev yq273:RetK:=⟨[.ren 5 0],[.tmp 2],Zah,[Zab],[],[]⟩
def wnt:FP prog:=fnP cx func233 [wvi] (yj [.dat (.int .u64)]) [] [] (yq1 wack) yq273 yq27 noZ [(0,wns)]
def wacl(a:Int):Tr (Int):=
 .t (4294967296≤a)
 (.g ((0:Int)≤(32:Int))<|
 .t ((65536:Int)≤(Int.fdiv a (2^(min (toNat 32) Zf))))
 (.g ((0:Int)≤(16:Int))<|
 .t ((256:Int)≤(Int.fdiv (Int.fdiv a (2^(min (toNat 32) Zf))) (2^(min (toNat 16) Zf))))
 (.g ((0:Int)≤(8:Int))<|
 .g (inR (wrap .u8 (Int.fdiv (Int.fdiv (Int.fdiv a (2^(min (toNat 32) Zf))) (2^(min (toNat 16) Zf))) (2^(min (toNat 8) Zf)))) (length Zc))<|
 .l (wrap .i64 ((wrap .i64 ((wrap .i64 ((32:Int)+16))+8))+(wrap .i64 ((UInt8.toNat (getD Zc (toNat (wrap .u8 (Int.fdiv (Int.fdiv (Int.fdiv a (2^(min (toNat 32) Zf))) (2^(min (toNat 16) Zf))) (2^(min (toNat 8) Zf))))) 0):Nat):Int)))))
 (.g (inR (wrap .u8 (Int.fdiv (Int.fdiv a (2^(min (toNat 32) Zf))) (2^(min (toNat 16) Zf)))) (length Zc))<|
 .l (wrap .i64 ((wrap .i64 ((32:Int)+16))+(wrap .i64 ((UInt8.toNat (getD Zc (toNat (wrap .u8 (Int.fdiv (Int.fdiv a (2^(min (toNat 32) Zf))) (2^(min (toNat 16) Zf))))) 0):Nat):Int))))))
 (.t ((256:Int)≤(Int.fdiv a (2^(min (toNat 32) Zf))))
 (.g ((0:Int)≤(8:Int))<|
 .g (inR (wrap .u8 (Int.fdiv (Int.fdiv a (2^(min (toNat 32) Zf))) (2^(min (toNat 8) Zf)))) (length Zc))<|
 .l (wrap .i64 ((wrap .i64 ((32:Int)+8))+(wrap .i64 ((UInt8.toNat (getD Zc (toNat (wrap .u8 (Int.fdiv (Int.fdiv a (2^(min (toNat 32) Zf))) (2^(min (toNat 8) Zf))))) 0):Nat):Int)))))
 (.g (inR (wrap .u8 (Int.fdiv a (2^(min (toNat 32) Zf)))) (length Zc))<|
 .l (wrap .i64 ((32:Int)+(wrap .i64 ((UInt8.toNat (getD Zc (toNat (wrap .u8 (Int.fdiv a (2^(min (toNat 32) Zf))))) 0):Nat):Int)))))))
 (.t (65536≤a)
 (.g ((0:Int)≤(16:Int))<|
 .t ((256:Int)≤(Int.fdiv a (2^(min (toNat 16) Zf))))
 (.g ((0:Int)≤(8:Int))<|
 .g (inR (wrap .u8 (Int.fdiv (Int.fdiv a (2^(min (toNat 16) Zf))) (2^(min (toNat 8) Zf)))) (length Zc))<|
 .l (wrap .i64 ((wrap .i64 ((wrap .i64 ((0:Int)+16))+8))+(wrap .i64 ((UInt8.toNat (getD Zc (toNat (wrap .u8 (Int.fdiv (Int.fdiv a (2^(min (toNat 16) Zf))) (2^(min (toNat 8) Zf))))) 0):Nat):Int)))))
 (.g (inR (wrap .u8 (Int.fdiv a (2^(min (toNat 16) Zf)))) (length Zc))<|
 .l (wrap .i64 ((wrap .i64 ((0:Int)+16))+(wrap .i64 ((UInt8.toNat (getD Zc (toNat (wrap .u8 (Int.fdiv a (2^(min (toNat 16) Zf))))) 0):Nat):Int))))))
 (.t (256≤a)
 (.g ((0:Int)≤(8:Int))<|
 .g (inR (wrap .u8 (Int.fdiv a (2^(min (toNat 8) Zf)))) (length Zc))<|
 .l (wrap .i64 ((wrap .i64 ((0:Int)+8))+(wrap .i64 ((UInt8.toNat (getD Zc (toNat (wrap .u8 (Int.fdiv a (2^(min (toNat 8) Zf))))) 0):Nat):Int)))))
 (.g (inR (wrap .u8 a) (length Zc))<|
 .l (wrap .i64 ((0:Int)+(wrap .i64 ((UInt8.toNat (getD Zc (toNat (wrap .u8 a)) 0):Nat):Int)))))))
def waim a:=(wacl a).ev
def wain:FP prog:=fnP cx func253 [] (yj [.dat (.int .u64)]) [] [] (yq1 wacl) yq251 yq2
def wacm(b:Int):Tr (Int):=
 .c _ (waim b) fun a=>
 .l a
def wnu a:=(wacm a).ev
def wvr:FP prog:=fnP cx func175 [wain] (yj [.dat (.int .u64)]) [] [] (yq1 wacm) yq251 yq2
def wim(k:Int×(Int×((Yo)×Int)))(v:Int×Yl):Tr ((Int×Yl)⊕Yl):=
 .t (k.1<v.1)
 (.g (inR v.1 (length v.2.1))<|
 .g (((toNat v.1)<length v.2.1)&&((getD v.2.1 (toNat v.1) 0)<length v.2.2))<|
 .g (inR (wrap .i64 (v.1-1)) (length v.2.1))<|
 .g (((toNat (wrap .i64 (v.1-1)))<length v.2.1)&&((getD v.2.1 (toNat (wrap .i64 (v.1-1))) 0)<length v.2.2))<|
 .c _ (k.2.2.1 ((getD v.2.2 (getD v.2.1 (toNat v.1) 0) []),((getD v.2.2 (getD v.2.1 (toNat (wrap .i64 (v.1-1))) 0) []),()))) fun a=>
 .t (a<0)
 (.g (inR (wrap .i64 (v.1-1)) (length v.2.1))<|
 .g (((toNat (wrap .i64 (v.1-1)))<length v.2.1)&&((getD v.2.1 (toNat (wrap .i64 (v.1-1))) 0)<length v.2.2))<|
 .g (inR v.1 (length v.2.1))<|
 .g (((toNat v.1)<length v.2.1)&&((getD v.2.1 (toNat v.1) 0)<length v.2.2))<|
 .g (inR v.1 (length v.2.1))<|
 .g ((toNat v.1)<length v.2.1)<|
 .g (inR (wrap .i64 (v.1-1)) (length (set v.2.1 (toNat v.1) (getD v.2.1 (toNat (wrap .i64 (v.1-1))) 0))))<|
 .g ((toNat (wrap .i64 (v.1-1)))<length (set v.2.1 (toNat v.1) (getD v.2.1 (toNat (wrap .i64 (v.1-1))) 0)))<|
 .l (.inl ((wrap .i64 (v.1-1)),((set (set v.2.1 (toNat v.1) (getD v.2.1 (toNat (wrap .i64 (v.1-1))) 0)) (toNat (wrap .i64 (v.1-1))) (getD v.2.1 (toNat v.1) 0)),v.2.2))))
 (.l (.inr v.2)))
 (.l (.inr v.2))
def wvs k v:=iter (fun v=>(wim k v).ev) v
abbrev yq276:Keep:=yk [] [0,1,2,3,8,9] (yj [.arr 64,.dat yi,.dat yi,.clo [y1,y1] yi,.dat yi,.dat yi]) [Zu]
abbrev yq277:Keep:=yk [] [0,1,2,3,8] (yj [.arr 64,.dat yi,.dat yi,.clo [y1,y1] yi,.dat yi]) [Zu]
abbrev yq278{a b c d e g:Type}(k:a×b×c×d)(v:e×g):=(((),(k.1,(k.2.1,(k.2.2.1,(k.2.2.2,(v.1,())))))),(v.2,()))
abbrev yq279{a b c d e g h:Type}(t:(a×b×c×d×e×g)×h):=(t.1.2.1,(t.1.2.2.1,(t.1.2.2.2.1,t.1.2.2.2.2.1)))
abbrev yq280{a b c d e g h i j:Type}(t:(a×b×c×d×e×g×h)×i×j):=(t.1.2.2.2.2.2.1,t.2.1)
def wnv:LD:=yl (wim) yq276 [(2,yq277)] yq10 yq278 yq279 yq280 (fun k r=>yx 2 yq277 (((),(k.1,(k.2.1,(k.2.2.1,(k.2.2.2,()))))),(r,())))
def wio(k:Int×(Int×(Yo)))(v:Int×Yl):Tr ((Int×Yl)⊕Yl):=
 .t (v.1<k.2.1)
 (.c _ (wvs (k.1,(k.2.1,(k.2.2,v.1))) (v.1,v.2)) fun a=>
 .l (.inl ((wrap .i64 (v.1+1)),a)))
 (.l (.inr v.2))
def wvt k v:=iter (fun v=>(wio k v).ev) v
abbrev yq281:Keep:=yk [] [0] (yj [.arr 64]) [Zu]
abbrev yq282{a b c d e:Type}(k:a×b×c)(v:d×e):=(((),(k.1,(k.2.1,(k.2.2,(v.1,()))))),(v.2,()))
abbrev yq283{a b c d e g:Type}(t:(a×b×c×d×e)×g):=(t.1.2.1,(t.1.2.2.1,t.1.2.2.2.1))
abbrev yq284{a b c d e g h i:Type}(t:(a×b×c×d×e×g)×h×i):=(t.1.2.2.2.2.1,t.2.1)
def wnw:LD:=yl (wio) yq277 [(0,yq281)] yq10 yq282 yq283 yq284 (fun _ r=>yx 0 yq281 (((),()),(r,())))
def wacn(a:Int)(f:Int)(b:Yo)(g:(List Nat)×Y2):Tr Yl:=
 .c _ (wvt (a,(f,b)) ((wrap .i64 (a+1)),g)) fun e=>
 .l e
def waio e b a c:=(wacn e b a c).ev
abbrev yq286{a b c d e g h:Type}{z:Type _}(f:b→c→d→g→z)(x:(a×b×c×d×e)×g×h):z:=f x.1.2.1 x.1.2.2.1 x.1.2.2.2.1 x.2.1
abbrev yq285:RetK:=⟨[],[],.nil,[Zu],[(0,0,64)],[]⟩
abbrev yq287{a:Type}(r:a):=((),(r,()))
def waco:FP prog:=fnP cx func352 [] (yj [.arr 64,.dat yi,.dat yi,.clo [y1,y1] yi]) [Zu] [.arg 0] (yq286 wacn) yq285 yq287 noZ [(2,wnv),(0,wnw)]
def wacp(b:Int):Tr (Int):=
 .c _ (wnu (wrap .u64 b)) fun a=>
 .g (0≤a)<|
 .l (wrap .u64 ((1:Int)*2^(min (toNat a) Zf)))
def waip a:=(wacp a).ev
abbrev yq288:RetK:=yr [.tmp 2] (yj [.dat (.int .u64)])
def waiq:FP prog:=fnP cx func316 [wvr] Zn [] [] (yq1 wacp) yq288 yq2
def wacq(a:Int):Tr Yr:=
 .g ((0:Int)≤(13:Int))<|
 .g ((0:Int)≤(7:Int))<|
 .g ((0:Int)≤(17:Int))<|
 .l ((wrap .u64 (BitVec.toNat ((BitVec.ofInt Zf (wrap .u64 (BitVec.toNat ((BitVec.ofInt Zf (wrap .u64 (BitVec.toNat ((BitVec.ofInt Zf a)^^^ (BitVec.ofInt Zf (wrap .u64 (a*2^(min (toNat 13) Zf))))))))^^^ (BitVec.ofInt Zf (Int.fdiv (wrap .u64 (BitVec.toNat ((BitVec.ofInt Zf a)^^^ (BitVec.ofInt Zf (wrap .u64 (a*2^(min (toNat 13) Zf))))))) (2^(min (toNat 7) Zf))))))))^^^ (BitVec.ofInt Zf (wrap .u64 ((wrap .u64 (BitVec.toNat ((BitVec.ofInt Zf (wrap .u64 (BitVec.toNat ((BitVec.ofInt Zf a)^^^ (BitVec.ofInt Zf (wrap .u64 (a*2^(min (toNat 13) Zf))))))))^^^ (BitVec.ofInt Zf (Int.fdiv (wrap .u64 (BitVec.toNat ((BitVec.ofInt Zf a)^^^ (BitVec.ofInt Zf (wrap .u64 (a*2^(min (toNat 13) Zf))))))) (2^(min (toNat 7) Zf)))))))*2^(min (toNat 17) Zf))))))),(wrap .u64 (BitVec.toNat ((BitVec.ofInt Zf (wrap .u64 (BitVec.toNat ((BitVec.ofInt Zf (wrap .u64 (BitVec.toNat ((BitVec.ofInt Zf a)^^^ (BitVec.ofInt Zf (wrap .u64 (a*2^(min (toNat 13) Zf))))))))^^^ (BitVec.ofInt Zf (Int.fdiv (wrap .u64 (BitVec.toNat ((BitVec.ofInt Zf a)^^^ (BitVec.ofInt Zf (wrap .u64 (a*2^(min (toNat 13) Zf))))))) (2^(min (toNat 7) Zf))))))))^^^ (BitVec.ofInt Zf (wrap .u64 ((wrap .u64 (BitVec.toNat ((BitVec.ofInt Zf (wrap .u64 (BitVec.toNat ((BitVec.ofInt Zf a)^^^ (BitVec.ofInt Zf (wrap .u64 (a*2^(min (toNat 13) Zf))))))))^^^ (BitVec.ofInt Zf (Int.fdiv (wrap .u64 (BitVec.toNat ((BitVec.ofInt Zf a)^^^ (BitVec.ofInt Zf (wrap .u64 (a*2^(min (toNat 13) Zf))))))) (2^(min (toNat 7) Zf)))))))*2^(min (toNat 17) Zf))))))))
def wair a:=(wacq a).ev
abbrev yq290{a b c d:Type}{z:Type _}(f:b→z)(x:a×(b×c)×d):z:=f x.2.1.1
abbrev yq289:RetK:=⟨[],[.tmp 2],(yj [.dat (.int .u64)]),[(64,.cells (yj [.dat (.int .u64)]))],[(0,0,64)],[]⟩
abbrev yq291{a b:Type}(r:a×b):=((r.1,()),((r.2,()),()))
def wais:FP prog:=fnP cx func317 [] (yj [.box 64 0]) [(64,.cells (yj [.dat (.int .u64)]))] [.arg 0] (yq290 wacq) yq289 yq291
def wip(k:Int×Yr)(v:Int×(Yl×Int)):Tr ((Int×(Yl×Int))⊕Yl):=
 .g (!decide ((4:Int)=0))<|
 .t (v.1≤(wrap .i64 ((wrap .i64 (k.1+(wrap .i64 ((wrap .i64 (Int.tdiv k.2.1 4))*(2:Int)))))+1)))
 (.c _ (wair v.2.2) fun a=>
 .t (k.2.1≤(wrap .i64 (wrap .u64 (BitVec.toNat ((BitVec.ofInt Zf a.1)&&& (BitVec.ofInt Zf (wrap .u64 (k.2.2-1))))))))
 (.g (inR (wrap .i64 (k.1+(wrap .i64 ((wrap .i64 (wrap .u64 (BitVec.toNat ((BitVec.ofInt Zf a.1)&&& (BitVec.ofInt Zf (wrap .u64 (k.2.2-1))))))) -k.2.1)))) (length v.2.1.1))<|
 .g (((toNat (wrap .i64 (k.1+(wrap .i64 ((wrap .i64 (wrap .u64 (BitVec.toNat ((BitVec.ofInt Zf a.1)&&& (BitVec.ofInt Zf (wrap .u64 (k.2.2-1))))))) -k.2.1)))))<length v.2.1.1)&&((getD v.2.1.1 (toNat (wrap .i64 (k.1+(wrap .i64 ((wrap .i64 (wrap .u64 (BitVec.toNat ((BitVec.ofInt Zf a.1)&&& (BitVec.ofInt Zf (wrap .u64 (k.2.2-1))))))) -k.2.1))))) 0)<length v.2.1.2))<|
 .g (inR v.1 (length v.2.1.1))<|
 .g (((toNat v.1)<length v.2.1.1)&&((getD v.2.1.1 (toNat v.1) 0)<length v.2.1.2))<|
 .g (inR v.1 (length v.2.1.1))<|
 .g ((toNat v.1)<length v.2.1.1)<|
 .g (inR (wrap .i64 (k.1+(wrap .i64 ((wrap .i64 (wrap .u64 (BitVec.toNat ((BitVec.ofInt Zf a.1)&&& (BitVec.ofInt Zf (wrap .u64 (k.2.2-1))))))) -k.2.1)))) (length (set v.2.1.1 (toNat v.1) (getD v.2.1.1 (toNat (wrap .i64 (k.1+(wrap .i64 ((wrap .i64 (wrap .u64 (BitVec.toNat ((BitVec.ofInt Zf a.1)&&& (BitVec.ofInt Zf (wrap .u64 (k.2.2-1))))))) -k.2.1))))) 0))))<|
 .g ((toNat (wrap .i64 (k.1+(wrap .i64 ((wrap .i64 (wrap .u64 (BitVec.toNat ((BitVec.ofInt Zf a.1)&&& (BitVec.ofInt Zf (wrap .u64 (k.2.2-1))))))) -k.2.1)))))<length (set v.2.1.1 (toNat v.1) (getD v.2.1.1 (toNat (wrap .i64 (k.1+(wrap .i64 ((wrap .i64 (wrap .u64 (BitVec.toNat ((BitVec.ofInt Zf a.1)&&& (BitVec.ofInt Zf (wrap .u64 (k.2.2-1))))))) -k.2.1))))) 0)))<|
 .l (.inl ((wrap .i64 (v.1+1)),(((set (set v.2.1.1 (toNat v.1) (getD v.2.1.1 (toNat (wrap .i64 (k.1+(wrap .i64 ((wrap .i64 (wrap .u64 (BitVec.toNat ((BitVec.ofInt Zf a.1)&&& (BitVec.ofInt Zf (wrap .u64 (k.2.2-1))))))) -k.2.1))))) 0)) (toNat (wrap .i64 (k.1+(wrap .i64 ((wrap .i64 (wrap .u64 (BitVec.toNat ((BitVec.ofInt Zf a.1)&&& (BitVec.ofInt Zf (wrap .u64 (k.2.2-1))))))) -k.2.1))))) (getD v.2.1.1 (toNat v.1) 0)),v.2.1.2),a.2))))
 (.g (inR (wrap .i64 (k.1+(wrap .i64 (wrap .u64 (BitVec.toNat ((BitVec.ofInt Zf a.1)&&& (BitVec.ofInt Zf (wrap .u64 (k.2.2-1))))))))) (length v.2.1.1))<|
 .g (((toNat (wrap .i64 (k.1+(wrap .i64 (wrap .u64 (BitVec.toNat ((BitVec.ofInt Zf a.1)&&& (BitVec.ofInt Zf (wrap .u64 (k.2.2-1))))))))))<length v.2.1.1)&&((getD v.2.1.1 (toNat (wrap .i64 (k.1+(wrap .i64 (wrap .u64 (BitVec.toNat ((BitVec.ofInt Zf a.1)&&& (BitVec.ofInt Zf (wrap .u64 (k.2.2-1)))))))))) 0)<length v.2.1.2))<|
 .g (inR v.1 (length v.2.1.1))<|
 .g (((toNat v.1)<length v.2.1.1)&&((getD v.2.1.1 (toNat v.1) 0)<length v.2.1.2))<|
 .g (inR v.1 (length v.2.1.1))<|
 .g ((toNat v.1)<length v.2.1.1)<|
 .g (inR (wrap .i64 (k.1+(wrap .i64 (wrap .u64 (BitVec.toNat ((BitVec.ofInt Zf a.1)&&& (BitVec.ofInt Zf (wrap .u64 (k.2.2-1))))))))) (length (set v.2.1.1 (toNat v.1) (getD v.2.1.1 (toNat (wrap .i64 (k.1+(wrap .i64 (wrap .u64 (BitVec.toNat ((BitVec.ofInt Zf a.1)&&& (BitVec.ofInt Zf (wrap .u64 (k.2.2-1)))))))))) 0))))<|
 .g ((toNat (wrap .i64 (k.1+(wrap .i64 (wrap .u64 (BitVec.toNat ((BitVec.ofInt Zf a.1)&&& (BitVec.ofInt Zf (wrap .u64 (k.2.2-1))))))))))<length (set v.2.1.1 (toNat v.1) (getD v.2.1.1 (toNat (wrap .i64 (k.1+(wrap .i64 (wrap .u64 (BitVec.toNat ((BitVec.ofInt Zf a.1)&&& (BitVec.ofInt Zf (wrap .u64 (k.2.2-1)))))))))) 0)))<|
 .l (.inl ((wrap .i64 (v.1+1)),(((set (set v.2.1.1 (toNat v.1) (getD v.2.1.1 (toNat (wrap .i64 (k.1+(wrap .i64 (wrap .u64 (BitVec.toNat ((BitVec.ofInt Zf a.1)&&& (BitVec.ofInt Zf (wrap .u64 (k.2.2-1)))))))))) 0)) (toNat (wrap .i64 (k.1+(wrap .i64 (wrap .u64 (BitVec.toNat ((BitVec.ofInt Zf a.1)&&& (BitVec.ofInt Zf (wrap .u64 (k.2.2-1)))))))))) (getD v.2.1.1 (toNat v.1) 0)),v.2.1.2),a.2)))))
 (.l (.inr v.2.1))
def wvu k v:=iter (fun v=>(wip k v).ev) v
abbrev yq292:Keep:=yk [] [0,1,8,9,10,11] (yj [.arr 64,.dat yi,.dat yi,.box 9 0,.dat (.int .u64),.dat yi]) [Zu,(9,.cells (yj [.dat (.int .u64)]))]
abbrev yq293{a b c d e g:Type}(k:a×b×c)(v:d×e×g):=(((),(k.1,(k.2.1,((),(k.2.2,(v.1,())))))),(v.2.1,((v.2.2,()),())))
abbrev yq294{a b c d e g h:Type}(t:(a×b×c×d×e×g)×h):=(t.1.2.1,(t.1.2.2.1,t.1.2.2.2.2.1))
abbrev yq295{a b c d e g h i j l m:Type}(t:(a×b×c×d×e×g×h)×i×(j×l)×m):=(t.1.2.2.2.2.2.1,(t.2.1,t.2.2.1.1))
def wnx:LD:=yl (wip) yq292 [(0,yq281)] yq10 yq293 yq294 yq295 (fun _ r=>yx 0 yq281 (((),()),(r,())))
def wacr(a:Int)(b:Int)(_i:Yo)(e:(List Nat)×Y2):Tr Yl:=
 .t ((8:Int)≤(wrap .i64 (b-a)))
 (.c _ (waip (wrap .i64 (b-a))) fun h=>
 .g (!decide ((4:Int)=0))<|
 .c _ (wvu (a,((wrap .i64 (b-a)),h)) ((wrap .i64 ((wrap .i64 (a+(wrap .i64 ((wrap .i64 (Int.tdiv (wrap .i64 (b-a)) 4))*(2:Int))))) -1)),(e,(wrap .u64 (wrap .i64 (b-a)))))) fun f=>
 .l f)
 (.l e)
def waiu e b a c:=(wacr e b a c).ev
def wacs:FP prog:=fnP cx func354 [waiq,wais] (yj [.arr 64,.dat yi,.dat yi,.clo [y1,y1] yi]) [Zu] [.arg 0] (yq286 wacr) yq285 yq287 noZ [(0,wnx)]
def wact(e:List Y1)(a:Int)(b:Int)(h:Yo)(f:Int):Tr (Int×Yr):=
 .g (inR b (length e))<|
 .g (inR a (length e))<|
 .c _ (h ((getD e (toNat b) []),((getD e (toNat a) []),()))) fun i=>
 .t (i<0)
 (.l (b,(a,(wrap .i64 (f+1)))))
 (.l (a,(b,f)))
def wvv f c e b a:=(wact f c e b a).ev
abbrev yq297{a b c d e g h i j:Type}{z:Type _}(f:a→b→c→e→h→z)(x:(a×b×c×d×e×g)×(h×i)×j):z:=f x.1.1 x.1.2.1 x.1.2.2.1 x.1.2.2.2.2.1 x.2.1.1
abbrev yq296:RetK:=⟨[],[.tmp 10,.tmp 11],(yj [.dat yi,.dat yi]),[(64,.cells Zn)],[(3,0,64)],[]⟩
abbrev yq298{a b c:Type}(r:a×b×c):=((r.1,(r.2.1,())),((r.2.2,()),()))
def waiv:FP prog:=fnP cx func395 [] (yj [.dat y2,.dat yi,.dat yi,.box 64 0,.clo [y1,y1] yi]) [(64,.cells Zn)] [.arg 3] (yq297 wact) yq296 yq298
def wacu(e:List Y1)(j:Int)(m:Int)(h:Int)(a:Yo)(i:Int):Tr Yr:=
 .c _ (wvv e j m a i) fun b=>
 .c _ (wvv e b.2.1 h a b.2.2) fun g=>
 .c _ (wvv e b.1 g.1 a g.2.2) fun f=>
 .l (f.2.1,f.2.2)
def wvw g c f a e b:=(wacu g c f a e b).ev
abbrev yq300{a b c d e g h i j l:Type}{z:Type _}(f:a→b→c→d→g→i→z)(x:(a×b×c×d×e×g×h)×(i×j)×l):z:=f x.1.1 x.1.2.1 x.1.2.2.1 x.1.2.2.2.1 x.1.2.2.2.2.2.1 x.2.1.1
abbrev yq299:RetK:=⟨[],[.tmp 12],Zn,[(64,.cells Zn)],[(4,0,64)],[]⟩
def wacv:FP prog:=fnP cx func384 [waiv] (yj [.dat y2,.dat yi,.dat yi,.dat yi,.box 64 0,.clo [y1,y1] yi]) [(64,.cells Zn)] [.arg 4] (yq300 wacu) yq299 yq291
def wacw(g:List Y1)(a:Int)(e:Yo)(f:Int):Tr Yr:=
 .c _ (wvw g (wrap .i64 (a-1)) a (wrap .i64 (a+1)) e f) fun b=>
 .l (b.1,b.2)
def wvx c e a b:=(wacw c e a b).ev
abbrev yq302{a b c d e g h i:Type}{z:Type _}(f:a→b→d→g→z)(x:(a×b×c×d×e)×(g×h)×i):z:=f x.1.1 x.1.2.1 x.1.2.2.2.1 x.2.1.1
abbrev yq301:RetK:=⟨[],[.tmp 8],Zn,[(64,.cells Zn)],[(2,0,64)],[]⟩
def waiw:FP prog:=fnP cx func383 [wacv] (yj [.dat y2,.dat yi,.box 64 0,.clo [y1,y1] yi]) [(64,.cells Zn)] [.arg 2] (yq302 wacw) yq301 yq291
def wacx(i:List Y1)(a:Int)(b:Int)(e:Yo):Tr Yr:=
 .g (!decide ((4:Int)=0))<|
 .g (!decide ((4:Int)=0))<|
 .g (!decide ((4:Int)=0))<|
 .t ((8:Int)≤(wrap .i64 (b-a)))
 (.t ((50:Int)≤(wrap .i64 (b-a)))
 (.c _ (wvx i (wrap .i64 (a+(wrap .i64 ((wrap .i64 (Int.tdiv (wrap .i64 (b-a)) 4))*(1:Int))))) e 0) fun n=>
 .c _ (wvx i (wrap .i64 (a+(wrap .i64 ((wrap .i64 (Int.tdiv (wrap .i64 (b-a)) 4))*(2:Int))))) e n.2) fun j=>
 .c _ (wvx i (wrap .i64 (a+(wrap .i64 ((wrap .i64 (Int.tdiv (wrap .i64 (b-a)) 4))*(3:Int))))) e j.2) fun m=>
 .c _ (wvw i n.1 j.1 m.1 e m.2) fun h=>
 .t (h.2==0)
 (.l (h.1,1))
 (.t (h.2==12)
 (.l (h.1,2))
 (.l (h.1,0))))
 (.c _ (wvw i (wrap .i64 (a+(wrap .i64 ((wrap .i64 (Int.tdiv (wrap .i64 (b-a)) 4))*(1:Int))))) (wrap .i64 (a+(wrap .i64 ((wrap .i64 (Int.tdiv (wrap .i64 (b-a)) 4))*(2:Int))))) (wrap .i64 (a+(wrap .i64 ((wrap .i64 (Int.tdiv (wrap .i64 (b-a)) 4))*(3:Int))))) e 0) fun f=>
 .t (f.2==0)
 (.l (f.1,1))
 (.t (f.2==12)
 (.l (f.1,2))
 (.l (f.1,0)))))
 (.t ((0:Int)==(0:Int))
 (.l ((wrap .i64 (a+(wrap .i64 ((wrap .i64 (Int.tdiv (wrap .i64 (b-a)) 4))*(2:Int))))),1))
 (.t ((0:Int)==(12:Int))
 (.l ((wrap .i64 (a+(wrap .i64 ((wrap .i64 (Int.tdiv (wrap .i64 (b-a)) 4))*(2:Int))))),2))
 (.l ((wrap .i64 (a+(wrap .i64 ((wrap .i64 (Int.tdiv (wrap .i64 (b-a)) 4))*(2:Int))))),0))))
def wacy c e b a:=(wacx c e b a).ev
abbrev yq304{a b c d e g:Type}{z:Type _}(f:a→b→c→d→z)(x:(a×b×c×d×e)×g):z:=f x.1.1 x.1.2.1 x.1.2.2.1 x.1.2.2.2.1
abbrev yq303:RetK:=yr [.tmp 8,.tmp 9] (yj [.dat yi,.dat yi])
def wacz:FP prog:=fnP cx func355 [waiw,wacv] (yj [.dat y2,.dat yi,.dat yi,.clo [y1,y1] yi]) [] [] (yq304 wacx) yq303 yq253
def wiq(k:Int×((Yo)×(Int×Yl)))(v:Int):Tr ((Int)⊕(Int)):=
 .t (v≤k.2.2.1)
 (.g (inR v (length k.2.2.2.1))<|
 .g (((toNat v)<length k.2.2.2.1)&&((getD k.2.2.2.1 (toNat v) 0)<length k.2.2.2.2))<|
 .g (inR k.1 (length k.2.2.2.1))<|
 .g (((toNat k.1)<length k.2.2.2.1)&&((getD k.2.2.2.1 (toNat k.1) 0)<length k.2.2.2.2))<|
 .c _ (k.2.1 ((getD k.2.2.2.2 (getD k.2.2.2.1 (toNat v) 0) []),((getD k.2.2.2.2 (getD k.2.2.2.1 (toNat k.1) 0) []),()))) fun a=>
 .t (a<0)
 (.l (.inl (wrap .i64 (v+1))))
 (.l (.inr v)))
 (.l (.inr v))
def wvy k v:=iter (fun v=>(wiq k v).ev) v
abbrev yq305:Keep:=yk [] [0,1,4,12,13] (yj [.arr 64,.dat yi,.clo [y1,y1] yi,.dat yi,.dat yi]) [Zu]
abbrev yq306{a b c d e:Type}(k:a×b×c×d)(v:e):=(((),(k.1,(k.2.1,(v,(k.2.2.1,()))))),(k.2.2.2,()))
abbrev yq307{a b c d e g h i:Type}(t:(a×b×c×d×e×g)×h×i):=(t.1.2.1,(t.1.2.2.1,(t.1.2.2.2.2.1,t.2.1)))
def wny:LD:=yl (wiq) yq305 [(0,yq305)] yq10 yq306 yq307 yq69 (fun k r=>yx 0 yq305 (((),(k.1,(k.2.1,(r,(k.2.2.1,()))))),(k.2.2.2,())))
def wir(k:Int×((Yo)×(Int×Yl)))(v:Int):Tr ((Int)⊕(Int)):=
 .t (k.2.2.1≤v)
 (.g (inR v (length k.2.2.2.1))<|
 .g (((toNat v)<length k.2.2.2.1)&&((getD k.2.2.2.1 (toNat v) 0)<length k.2.2.2.2))<|
 .g (inR k.1 (length k.2.2.2.1))<|
 .g (((toNat k.1)<length k.2.2.2.1)&&((getD k.2.2.2.1 (toNat k.1) 0)<length k.2.2.2.2))<|
 .c _ (k.2.1 ((getD k.2.2.2.2 (getD k.2.2.2.1 (toNat v) 0) []),((getD k.2.2.2.2 (getD k.2.2.2.1 (toNat k.1) 0) []),()))) fun a=>
 .t (!(a<0))
 (.l (.inl (wrap .i64 (v-1))))
 (.l (.inr v)))
 (.l (.inr v))
def wvz k v:=iter (fun v=>(wir k v).ev) v
abbrev yq308{a b c d e:Type}(k:a×b×c×d)(v:e):=(((),(k.1,(k.2.1,(k.2.2.1,(v,()))))),(k.2.2.2,()))
abbrev yq309{a b c d e g h:Type}(t:(a×b×c×d×e)×g×h):=(t.1.2.1,(t.1.2.2.1,(t.1.2.2.2.1,t.2.1)))
def wnz:LD:=yl (wir) yq305 [(2,yq305)] yq10 yq308 yq309 yq65 (fun k r=>yx 2 yq305 (((),(k.1,(k.2.1,(k.2.2.1,(r,()))))),(k.2.2.2,())))
def wis(k:Int×((Yo)×(Int×Yl)))(v:Int):Tr ((Int)⊕(Int)):=
 .t (v≤k.2.2.1)
 (.g (inR v (length k.2.2.2.1))<|
 .g (((toNat v)<length k.2.2.2.1)&&((getD k.2.2.2.1 (toNat v) 0)<length k.2.2.2.2))<|
 .g (inR k.1 (length k.2.2.2.1))<|
 .g (((toNat k.1)<length k.2.2.2.1)&&((getD k.2.2.2.1 (toNat k.1) 0)<length k.2.2.2.2))<|
 .c _ (k.2.1 ((getD k.2.2.2.2 (getD k.2.2.2.1 (toNat v) 0) []),((getD k.2.2.2.2 (getD k.2.2.2.1 (toNat k.1) 0) []),()))) fun a=>
 .t (a<0)
 (.l (.inl (wrap .i64 (v+1))))
 (.l (.inr v)))
 (.l (.inr v))
def wwa k v:=iter (fun v=>(wis k v).ev) v
def woa:LD:=yl (wis) yq305 [(6,yq305)] yq10 yq306 yq307 yq69 (fun k r=>yx 6 yq305 (((),(k.1,(k.2.1,(r,(k.2.2.1,()))))),(k.2.2.2,())))
def wiu(k:Int×((Yo)×(Int×Yl)))(v:Int):Tr ((Int)⊕(Int)):=
 .t (k.2.2.1≤v)
 (.g (inR v (length k.2.2.2.1))<|
 .g (((toNat v)<length k.2.2.2.1)&&((getD k.2.2.2.1 (toNat v) 0)<length k.2.2.2.2))<|
 .g (inR k.1 (length k.2.2.2.1))<|
 .g (((toNat k.1)<length k.2.2.2.1)&&((getD k.2.2.2.1 (toNat k.1) 0)<length k.2.2.2.2))<|
 .c _ (k.2.1 ((getD k.2.2.2.2 (getD k.2.2.2.1 (toNat v) 0) []),((getD k.2.2.2.2 (getD k.2.2.2.1 (toNat k.1) 0) []),()))) fun a=>
 .t (!(a<0))
 (.l (.inl (wrap .i64 (v-1))))
 (.l (.inr v)))
 (.l (.inr v))
def wwb k v:=iter (fun v=>(wiu k v).ev) v
def wob:LD:=yl (wiu) yq305 [(8,yq305)] yq10 yq308 yq309 yq65 (fun k r=>yx 8 yq305 (((),(k.1,(k.2.1,(k.2.2.1,(r,()))))),(k.2.2.2,())))
def wiw(k:Int×(Yo))(v:Int×(Int×Yl)):Tr ((Int×(Int×Yl))⊕(Int×Yl)):=
 .c _ (wwa (k.1,(k.2,(v.2.1,v.2.2))) v.1) fun b=>
 .c _ (wwb (k.1,(k.2,(b,v.2.2))) v.2.1) fun a=>
 .t (a<b)
 (.l (.inr (a,v.2.2)))
 (.g (inR a (length v.2.2.1))<|
 .g (((toNat a)<length v.2.2.1)&&((getD v.2.2.1 (toNat a) 0)<length v.2.2.2))<|
 .g (inR b (length v.2.2.1))<|
 .g (((toNat b)<length v.2.2.1)&&((getD v.2.2.1 (toNat b) 0)<length v.2.2.2))<|
 .g (inR b (length v.2.2.1))<|
 .g ((toNat b)<length v.2.2.1)<|
 .g (inR a (length (set v.2.2.1 (toNat b) (getD v.2.2.1 (toNat a) 0))))<|
 .g ((toNat a)<length (set v.2.2.1 (toNat b) (getD v.2.2.1 (toNat a) 0)))<|
 .l (.inl ((wrap .i64 (b+1)),((wrap .i64 (a-1)),((set (set v.2.2.1 (toNat b) (getD v.2.2.1 (toNat a) 0)) (toNat a) (getD v.2.2.1 (toNat b) 0)),v.2.2.2)))))
def wwc k v:=iter (fun v=>(wiw k v).ev) v
abbrev yq310:Keep:=yk [] [0,1,13] (yj [.arr 64,.dat yi,.dat yi]) [Zu]
abbrev yq311{a b c d e:Type}(k:a×b)(v:c×d×e):=(((),(k.1,(k.2,(v.1,(v.2.1,()))))),(v.2.2,()))
abbrev yq312{a b c d e g h i:Type}(t:(a×b×c×d×e×g)×h×i):=(t.1.2.2.2.1,(t.1.2.2.2.2.1,t.2.1))
def woc:LD:=yl (wiw) yq305 [(4,yq310)] yq10 yq311 yq209 yq312 (fun k r=>yx 4 yq310 (((),(k.1,(r.1,()))),(r.2,())))
def wada(b:Int)(m:Int)(e:Int)(j:Yo)(a:(List Nat)×Y2):Tr (Int×(Bool×Yl)):=
 .g (inR e (length a.1))<|
 .g (((toNat e)<length a.1)&&((getD a.1 (toNat e) 0)<length a.2))<|
 .g (inR b (length a.1))<|
 .g (((toNat b)<length a.1)&&((getD a.1 (toNat b) 0)<length a.2))<|
 .g (inR b (length a.1))<|
 .g ((toNat b)<length a.1)<|
 .g (inR e (length (set a.1 (toNat b) (getD a.1 (toNat e) 0))))<|
 .g ((toNat e)<length (set a.1 (toNat b) (getD a.1 (toNat e) 0)))<|
 .c _ (wvy (b,(j,((wrap .i64 (m-1)),((set (set a.1 (toNat b) (getD a.1 (toNat e) 0)) (toNat e) (getD a.1 (toNat b) 0)),a.2)))) (wrap .i64 (b+1))) fun i=>
 .c _ (wvz (b,(j,(i,((set (set a.1 (toNat b) (getD a.1 (toNat e) 0)) (toNat e) (getD a.1 (toNat b) 0)),a.2)))) (wrap .i64 (m-1))) fun h=>
 .t (h<i)
 (.g (inR b (length (set (set a.1 (toNat b) (getD a.1 (toNat e) 0)) (toNat e) (getD a.1 (toNat b) 0))))<|
 .g (((toNat b)<length (set (set a.1 (toNat b) (getD a.1 (toNat e) 0)) (toNat e) (getD a.1 (toNat b) 0)))&&((getD (set (set a.1 (toNat b) (getD a.1 (toNat e) 0)) (toNat e) (getD a.1 (toNat b) 0)) (toNat b) 0)<length a.2))<|
 .g (inR h (length (set (set a.1 (toNat b) (getD a.1 (toNat e) 0)) (toNat e) (getD a.1 (toNat b) 0))))<|
 .g (((toNat h)<length (set (set a.1 (toNat b) (getD a.1 (toNat e) 0)) (toNat e) (getD a.1 (toNat b) 0)))&&((getD (set (set a.1 (toNat b) (getD a.1 (toNat e) 0)) (toNat e) (getD a.1 (toNat b) 0)) (toNat h) 0)<length a.2))<|
 .g (inR h (length (set (set a.1 (toNat b) (getD a.1 (toNat e) 0)) (toNat e) (getD a.1 (toNat b) 0))))<|
 .g ((toNat h)<length (set (set a.1 (toNat b) (getD a.1 (toNat e) 0)) (toNat e) (getD a.1 (toNat b) 0)))<|
 .g (inR b (length (set (set (set a.1 (toNat b) (getD a.1 (toNat e) 0)) (toNat e) (getD a.1 (toNat b) 0)) (toNat h) (getD (set (set a.1 (toNat b) (getD a.1 (toNat e) 0)) (toNat e) (getD a.1 (toNat b) 0)) (toNat b) 0))))<|
 .g ((toNat b)<length (set (set (set a.1 (toNat b) (getD a.1 (toNat e) 0)) (toNat e) (getD a.1 (toNat b) 0)) (toNat h) (getD (set (set a.1 (toNat b) (getD a.1 (toNat e) 0)) (toNat e) (getD a.1 (toNat b) 0)) (toNat b) 0)))<|
 .l (h,(true,((set (set (set (set a.1 (toNat b) (getD a.1 (toNat e) 0)) (toNat e) (getD a.1 (toNat b) 0)) (toNat h) (getD (set (set a.1 (toNat b) (getD a.1 (toNat e) 0)) (toNat e) (getD a.1 (toNat b) 0)) (toNat b) 0)) (toNat b) (getD (set (set a.1 (toNat b) (getD a.1 (toNat e) 0)) (toNat e) (getD a.1 (toNat b) 0)) (toNat h) 0)),a.2))))
 (.g (inR h (length (set (set a.1 (toNat b) (getD a.1 (toNat e) 0)) (toNat e) (getD a.1 (toNat b) 0))))<|
 .g (((toNat h)<length (set (set a.1 (toNat b) (getD a.1 (toNat e) 0)) (toNat e) (getD a.1 (toNat b) 0)))&&((getD (set (set a.1 (toNat b) (getD a.1 (toNat e) 0)) (toNat e) (getD a.1 (toNat b) 0)) (toNat h) 0)<length a.2))<|
 .g (inR i (length (set (set a.1 (toNat b) (getD a.1 (toNat e) 0)) (toNat e) (getD a.1 (toNat b) 0))))<|
 .g (((toNat i)<length (set (set a.1 (toNat b) (getD a.1 (toNat e) 0)) (toNat e) (getD a.1 (toNat b) 0)))&&((getD (set (set a.1 (toNat b) (getD a.1 (toNat e) 0)) (toNat e) (getD a.1 (toNat b) 0)) (toNat i) 0)<length a.2))<|
 .g (inR i (length (set (set a.1 (toNat b) (getD a.1 (toNat e) 0)) (toNat e) (getD a.1 (toNat b) 0))))<|
 .g ((toNat i)<length (set (set a.1 (toNat b) (getD a.1 (toNat e) 0)) (toNat e) (getD a.1 (toNat b) 0)))<|
 .g (inR h (length (set (set (set a.1 (toNat b) (getD a.1 (toNat e) 0)) (toNat e) (getD a.1 (toNat b) 0)) (toNat i) (getD (set (set a.1 (toNat b) (getD a.1 (toNat e) 0)) (toNat e) (getD a.1 (toNat b) 0)) (toNat h) 0))))<|
 .g ((toNat h)<length (set (set (set a.1 (toNat b) (getD a.1 (toNat e) 0)) (toNat e) (getD a.1 (toNat b) 0)) (toNat i) (getD (set (set a.1 (toNat b) (getD a.1 (toNat e) 0)) (toNat e) (getD a.1 (toNat b) 0)) (toNat h) 0)))<|
 .c _ (wwc (b,j) ((wrap .i64 (i+1)),((wrap .i64 (h-1)),((set (set (set (set a.1 (toNat b) (getD a.1 (toNat e) 0)) (toNat e) (getD a.1 (toNat b) 0)) (toNat i) (getD (set (set a.1 (toNat b) (getD a.1 (toNat e) 0)) (toNat e) (getD a.1 (toNat b) 0)) (toNat h) 0)) (toNat h) (getD (set (set a.1 (toNat b) (getD a.1 (toNat e) 0)) (toNat e) (getD a.1 (toNat b) 0)) (toNat i) 0)),a.2)))) fun f=>
 .g (inR b (length f.2.1))<|
 .g (((toNat b)<length f.2.1)&&((getD f.2.1 (toNat b) 0)<length f.2.2))<|
 .g (inR f.1 (length f.2.1))<|
 .g (((toNat f.1)<length f.2.1)&&((getD f.2.1 (toNat f.1) 0)<length f.2.2))<|
 .g (inR f.1 (length f.2.1))<|
 .g ((toNat f.1)<length f.2.1)<|
 .g (inR b (length (set f.2.1 (toNat f.1) (getD f.2.1 (toNat b) 0))))<|
 .g ((toNat b)<length (set f.2.1 (toNat f.1) (getD f.2.1 (toNat b) 0)))<|
 .l (f.1,(false,((set (set f.2.1 (toNat f.1) (getD f.2.1 (toNat b) 0)) (toNat b) (getD f.2.1 (toNat f.1) 0)),f.2.2))))
def wbi c e a b f:=(wada c e a b f).ev
abbrev yq314{a b c d e g h i:Type}{z:Type _}(f:b→c→d→e→h→z)(x:(a×b×c×d×e×g)×h×i):z:=f x.1.2.1 x.1.2.2.1 x.1.2.2.2.1 x.1.2.2.2.2.1 x.2.1
abbrev yq313:RetK:=⟨[],[.tmp 10,.tmp 11],(yj [.dat yi,.dat .bool]),[Zu],[(0,0,64)],[]⟩
abbrev yq315{a b c:Type}(r:a×b×c):=((r.1,(r.2.1,())),(r.2.2,()))
def wadb:FP prog:=fnP cx func359 [] (yj [.arr 64,.dat yi,.dat yi,.dat yi,.clo [y1,y1] yi]) [Zu] [.arg 0] (yq314 wada) yq313 yq315 noZ [(0,wny),(2,wnz),(6,woa),(8,wob),(4,woc)]
def wix(b:(Int)→(Int)→(Int)→(Yo)→Yl→Option Yl)(k:Yo)(v:Int×(Int×(Int×(Bool×(Bool×Yl))))):Tr ((Int×(Int×(Int×(Bool×(Bool×Yl)))))⊕Yl):=
 .t ((wrap .i64 (v.2.1-v.1))≤(12:Int))
 (.c _ (waio v.1 v.2.1 k v.2.2.2.2.2) fun ao=>
 .l (.inr ao))
 (.t (v.2.2.1==0)
 (.f)
 (.t (!v.2.2.2.1)
 (.c _ (waiu v.1 v.2.1 k v.2.2.2.2.2) fun a=>
 .c _ (wacy (permL a.1 a.2) v.1 v.2.1 k) fun e=>
 .t (e.2==2)
 (.f)
 (.t v.2.2.2.1
 (.t v.2.2.2.2.1
 (.t (e.2==1)
 (.f)
 (.t (0<v.1)
 (.g (inR (wrap .i64 (v.1-1)) (length a.1))<|
 .g (((toNat (wrap .i64 (v.1-1)))<length a.1)&&((getD a.1 (toNat (wrap .i64 (v.1-1))) 0)<length a.2))<|
 .g (inR e.1 (length a.1))<|
 .g (((toNat e.1)<length a.1)&&((getD a.1 (toNat e.1) 0)<length a.2))<|
 .c _ (k ((getD a.2 (getD a.1 (toNat (wrap .i64 (v.1-1))) 0) []),((getD a.2 (getD a.1 (toNat e.1) 0) []),()))) fun ag=>
 .t (!(ag<0))
 (.f)
 (.c _ (wbi v.1 v.2.1 e.1 k a) fun q=>
 .g (!decide ((8:Int)=0))<|
 .t ((wrap .i64 (q.1-v.1))<(wrap .i64 (v.2.1-q.1)))
 (.c _ (b v.1 q.1 (wrap .i64 (v.2.2.1-1)) k q.2.2) fun ak=>
 .l (.inl ((wrap .i64 (q.1+1)),(v.2.1,((wrap .i64 (v.2.2.1-1)),(((wrap .i64 (Int.tdiv (wrap .i64 (v.2.1-v.1)) 8))≤(wrap .i64 (q.1-v.1))),(q.2.1,ak)))))))
 (.c _ (b (wrap .i64 (q.1+1)) v.2.1 (wrap .i64 (v.2.2.1-1)) k q.2.2) fun ab=>
 .l (.inl (v.1,(q.1,((wrap .i64 (v.2.2.1-1)),(((wrap .i64 (Int.tdiv (wrap .i64 (v.2.1-v.1)) 8))≤(wrap .i64 (v.2.1-q.1))),(q.2.1,ab)))))))))
 (.c _ (wbi v.1 v.2.1 e.1 k a) fun j=>
 .g (!decide ((8:Int)=0))<|
 .t ((wrap .i64 (j.1-v.1))<(wrap .i64 (v.2.1-j.1)))
 (.c _ (b v.1 j.1 (wrap .i64 (v.2.2.1-1)) k j.2.2) fun ay=>
 .l (.inl ((wrap .i64 (j.1+1)),(v.2.1,((wrap .i64 (v.2.2.1-1)),(((wrap .i64 (Int.tdiv (wrap .i64 (v.2.1-v.1)) 8))≤(wrap .i64 (j.1-v.1))),(j.2.1,ay)))))))
 (.c _ (b (wrap .i64 (j.1+1)) v.2.1 (wrap .i64 (v.2.2.1-1)) k j.2.2) fun af=>
 .l (.inl (v.1,(j.1,((wrap .i64 (v.2.2.1-1)),(((wrap .i64 (Int.tdiv (wrap .i64 (v.2.1-v.1)) 8))≤(wrap .i64 (v.2.1-j.1))),(j.2.1,af))))))))))
 (.t (0<v.1)
 (.g (inR (wrap .i64 (v.1-1)) (length a.1))<|
 .g (((toNat (wrap .i64 (v.1-1)))<length a.1)&&((getD a.1 (toNat (wrap .i64 (v.1-1))) 0)<length a.2))<|
 .g (inR e.1 (length a.1))<|
 .g (((toNat e.1)<length a.1)&&((getD a.1 (toNat e.1) 0)<length a.2))<|
 .c _ (k ((getD a.2 (getD a.1 (toNat (wrap .i64 (v.1-1))) 0) []),((getD a.2 (getD a.1 (toNat e.1) 0) []),()))) fun aq=>
 .t (!(aq<0))
 (.f)
 (.c _ (wbi v.1 v.2.1 e.1 k a) fun w=>
 .g (!decide ((8:Int)=0))<|
 .t ((wrap .i64 (w.1-v.1))<(wrap .i64 (v.2.1-w.1)))
 (.c _ (b v.1 w.1 (wrap .i64 (v.2.2.1-1)) k w.2.2) fun bd=>
 .l (.inl ((wrap .i64 (w.1+1)),(v.2.1,((wrap .i64 (v.2.2.1-1)),(((wrap .i64 (Int.tdiv (wrap .i64 (v.2.1-v.1)) 8))≤(wrap .i64 (w.1-v.1))),(w.2.1,bd)))))))
 (.c _ (b (wrap .i64 (w.1+1)) v.2.1 (wrap .i64 (v.2.2.1-1)) k w.2.2) fun z=>
 .l (.inl (v.1,(w.1,((wrap .i64 (v.2.2.1-1)),(((wrap .i64 (Int.tdiv (wrap .i64 (v.2.1-v.1)) 8))≤(wrap .i64 (v.2.1-w.1))),(w.2.1,z)))))))))
 (.c _ (wbi v.1 v.2.1 e.1 k a) fun n=>
 .g (!decide ((8:Int)=0))<|
 .t ((wrap .i64 (n.1-v.1))<(wrap .i64 (v.2.1-n.1)))
 (.c _ (b v.1 n.1 (wrap .i64 (v.2.2.1-1)) k n.2.2) fun ar=>
 .l (.inl ((wrap .i64 (n.1+1)),(v.2.1,((wrap .i64 (v.2.2.1-1)),(((wrap .i64 (Int.tdiv (wrap .i64 (v.2.1-v.1)) 8))≤(wrap .i64 (n.1-v.1))),(n.2.1,ar)))))))
 (.c _ (b (wrap .i64 (n.1+1)) v.2.1 (wrap .i64 (v.2.2.1-1)) k n.2.2) fun aj=>
 .l (.inl (v.1,(n.1,((wrap .i64 (v.2.2.1-1)),(((wrap .i64 (Int.tdiv (wrap .i64 (v.2.1-v.1)) 8))≤(wrap .i64 (v.2.1-n.1))),(n.2.1,aj))))))))))
 (.t (0<v.1)
 (.g (inR (wrap .i64 (v.1-1)) (length a.1))<|
 .g (((toNat (wrap .i64 (v.1-1)))<length a.1)&&((getD a.1 (toNat (wrap .i64 (v.1-1))) 0)<length a.2))<|
 .g (inR e.1 (length a.1))<|
 .g (((toNat e.1)<length a.1)&&((getD a.1 (toNat e.1) 0)<length a.2))<|
 .c _ (k ((getD a.2 (getD a.1 (toNat (wrap .i64 (v.1-1))) 0) []),((getD a.2 (getD a.1 (toNat e.1) 0) []),()))) fun bc=>
 .t (!(bc<0))
 (.f)
 (.c _ (wbi v.1 v.2.1 e.1 k a) fun p=>
 .g (!decide ((8:Int)=0))<|
 .t ((wrap .i64 (p.1-v.1))<(wrap .i64 (v.2.1-p.1)))
 (.c _ (b v.1 p.1 (wrap .i64 (v.2.2.1-1)) k p.2.2) fun aw=>
 .l (.inl ((wrap .i64 (p.1+1)),(v.2.1,((wrap .i64 (v.2.2.1-1)),(((wrap .i64 (Int.tdiv (wrap .i64 (v.2.1-v.1)) 8))≤(wrap .i64 (p.1-v.1))),(p.2.1,aw)))))))
 (.c _ (b (wrap .i64 (p.1+1)) v.2.1 (wrap .i64 (v.2.2.1-1)) k p.2.2) fun ac=>
 .l (.inl (v.1,(p.1,((wrap .i64 (v.2.2.1-1)),(((wrap .i64 (Int.tdiv (wrap .i64 (v.2.1-v.1)) 8))≤(wrap .i64 (v.2.1-p.1))),(p.2.1,ac)))))))))
 (.c _ (wbi v.1 v.2.1 e.1 k a) fun o=>
 .g (!decide ((8:Int)=0))<|
 .t ((wrap .i64 (o.1-v.1))<(wrap .i64 (v.2.1-o.1)))
 (.c _ (b v.1 o.1 (wrap .i64 (v.2.2.1-1)) k o.2.2) fun ai=>
 .l (.inl ((wrap .i64 (o.1+1)),(v.2.1,((wrap .i64 (v.2.2.1-1)),(((wrap .i64 (Int.tdiv (wrap .i64 (v.2.1-v.1)) 8))≤(wrap .i64 (o.1-v.1))),(o.2.1,ai)))))))
 (.c _ (b (wrap .i64 (o.1+1)) v.2.1 (wrap .i64 (v.2.2.1-1)) k o.2.2) fun ad=>
 .l (.inl (v.1,(o.1,((wrap .i64 (v.2.2.1-1)),(((wrap .i64 (Int.tdiv (wrap .i64 (v.2.1-v.1)) 8))≤(wrap .i64 (v.2.1-o.1))),(o.2.1,ad)))))))))))
 (.c _ (wacy (permL v.2.2.2.2.2.1 v.2.2.2.2.2.2) v.1 v.2.1 k) fun h=>
 .t (h.2==2)
 (.f)
 (.t v.2.2.2.1
 (.t v.2.2.2.2.1
 (.t (h.2==1)
 (.f)
 (.t (0<v.1)
 (.g (inR (wrap .i64 (v.1-1)) (length v.2.2.2.2.2.1))<|
 .g (((toNat (wrap .i64 (v.1-1)))<length v.2.2.2.2.2.1)&&((getD v.2.2.2.2.2.1 (toNat (wrap .i64 (v.1-1))) 0)<length v.2.2.2.2.2.2))<|
 .g (inR h.1 (length v.2.2.2.2.2.1))<|
 .g (((toNat h.1)<length v.2.2.2.2.2.1)&&((getD v.2.2.2.2.2.1 (toNat h.1) 0)<length v.2.2.2.2.2.2))<|
 .c _ (k ((getD v.2.2.2.2.2.2 (getD v.2.2.2.2.2.1 (toNat (wrap .i64 (v.1-1))) 0) []),((getD v.2.2.2.2.2.2 (getD v.2.2.2.2.2.1 (toNat h.1) 0) []),()))) fun al=>
 .t (!(al<0))
 (.f)
 (.c _ (wbi v.1 v.2.1 h.1 k v.2.2.2.2.2) fun i=>
 .g (!decide ((8:Int)=0))<|
 .t ((wrap .i64 (i.1-v.1))<(wrap .i64 (v.2.1-i.1)))
 (.c _ (b v.1 i.1 v.2.2.1 k i.2.2) fun ap=>
 .l (.inl ((wrap .i64 (i.1+1)),(v.2.1,(v.2.2.1,(((wrap .i64 (Int.tdiv (wrap .i64 (v.2.1-v.1)) 8))≤(wrap .i64 (i.1-v.1))),(i.2.1,ap)))))))
 (.c _ (b (wrap .i64 (i.1+1)) v.2.1 v.2.2.1 k i.2.2) fun am=>
 .l (.inl (v.1,(i.1,(v.2.2.1,(((wrap .i64 (Int.tdiv (wrap .i64 (v.2.1-v.1)) 8))≤(wrap .i64 (v.2.1-i.1))),(i.2.1,am)))))))))
 (.c _ (wbi v.1 v.2.1 h.1 k v.2.2.2.2.2) fun r=>
 .g (!decide ((8:Int)=0))<|
 .t ((wrap .i64 (r.1-v.1))<(wrap .i64 (v.2.1-r.1)))
 (.c _ (b v.1 r.1 v.2.2.1 k r.2.2) fun au=>
 .l (.inl ((wrap .i64 (r.1+1)),(v.2.1,(v.2.2.1,(((wrap .i64 (Int.tdiv (wrap .i64 (v.2.1-v.1)) 8))≤(wrap .i64 (r.1-v.1))),(r.2.1,au)))))))
 (.c _ (b (wrap .i64 (r.1+1)) v.2.1 v.2.2.1 k r.2.2) fun av=>
 .l (.inl (v.1,(r.1,(v.2.2.1,(((wrap .i64 (Int.tdiv (wrap .i64 (v.2.1-v.1)) 8))≤(wrap .i64 (v.2.1-r.1))),(r.2.1,av))))))))))
 (.t (0<v.1)
 (.g (inR (wrap .i64 (v.1-1)) (length v.2.2.2.2.2.1))<|
 .g (((toNat (wrap .i64 (v.1-1)))<length v.2.2.2.2.2.1)&&((getD v.2.2.2.2.2.1 (toNat (wrap .i64 (v.1-1))) 0)<length v.2.2.2.2.2.2))<|
 .g (inR h.1 (length v.2.2.2.2.2.1))<|
 .g (((toNat h.1)<length v.2.2.2.2.2.1)&&((getD v.2.2.2.2.2.1 (toNat h.1) 0)<length v.2.2.2.2.2.2))<|
 .c _ (k ((getD v.2.2.2.2.2.2 (getD v.2.2.2.2.2.1 (toNat (wrap .i64 (v.1-1))) 0) []),((getD v.2.2.2.2.2.2 (getD v.2.2.2.2.2.1 (toNat h.1) 0) []),()))) fun ba=>
 .t (!(ba<0))
 (.f)
 (.c _ (wbi v.1 v.2.1 h.1 k v.2.2.2.2.2) fun y=>
 .g (!decide ((8:Int)=0))<|
 .t ((wrap .i64 (y.1-v.1))<(wrap .i64 (v.2.1-y.1)))
 (.c _ (b v.1 y.1 v.2.2.1 k y.2.2) fun ah=>
 .l (.inl ((wrap .i64 (y.1+1)),(v.2.1,(v.2.2.1,(((wrap .i64 (Int.tdiv (wrap .i64 (v.2.1-v.1)) 8))≤(wrap .i64 (y.1-v.1))),(y.2.1,ah)))))))
 (.c _ (b (wrap .i64 (y.1+1)) v.2.1 v.2.2.1 k y.2.2) fun aa=>
 .l (.inl (v.1,(y.1,(v.2.2.1,(((wrap .i64 (Int.tdiv (wrap .i64 (v.2.1-v.1)) 8))≤(wrap .i64 (v.2.1-y.1))),(y.2.1,aa)))))))))
 (.c _ (wbi v.1 v.2.1 h.1 k v.2.2.2.2.2) fun s=>
 .g (!decide ((8:Int)=0))<|
 .t ((wrap .i64 (s.1-v.1))<(wrap .i64 (v.2.1-s.1)))
 (.c _ (b v.1 s.1 v.2.2.1 k s.2.2) fun ae=>
 .l (.inl ((wrap .i64 (s.1+1)),(v.2.1,(v.2.2.1,(((wrap .i64 (Int.tdiv (wrap .i64 (v.2.1-v.1)) 8))≤(wrap .i64 (s.1-v.1))),(s.2.1,ae)))))))
 (.c _ (b (wrap .i64 (s.1+1)) v.2.1 v.2.2.1 k s.2.2) fun an=>
 .l (.inl (v.1,(s.1,(v.2.2.1,(((wrap .i64 (Int.tdiv (wrap .i64 (v.2.1-v.1)) 8))≤(wrap .i64 (v.2.1-s.1))),(s.2.1,an))))))))))
 (.t (0<v.1)
 (.g (inR (wrap .i64 (v.1-1)) (length v.2.2.2.2.2.1))<|
 .g (((toNat (wrap .i64 (v.1-1)))<length v.2.2.2.2.2.1)&&((getD v.2.2.2.2.2.1 (toNat (wrap .i64 (v.1-1))) 0)<length v.2.2.2.2.2.2))<|
 .g (inR h.1 (length v.2.2.2.2.2.1))<|
 .g (((toNat h.1)<length v.2.2.2.2.2.1)&&((getD v.2.2.2.2.2.1 (toNat h.1) 0)<length v.2.2.2.2.2.2))<|
 .c _ (k ((getD v.2.2.2.2.2.2 (getD v.2.2.2.2.2.1 (toNat (wrap .i64 (v.1-1))) 0) []),((getD v.2.2.2.2.2.2 (getD v.2.2.2.2.2.1 (toNat h.1) 0) []),()))) fun be=>
 .t (!(be<0))
 (.f)
 (.c _ (wbi v.1 v.2.1 h.1 k v.2.2.2.2.2) fun u=>
 .g (!decide ((8:Int)=0))<|
 .t ((wrap .i64 (u.1-v.1))<(wrap .i64 (v.2.1-u.1)))
 (.c _ (b v.1 u.1 v.2.2.1 k u.2.2) fun az=>
 .l (.inl ((wrap .i64 (u.1+1)),(v.2.1,(v.2.2.1,(((wrap .i64 (Int.tdiv (wrap .i64 (v.2.1-v.1)) 8))≤(wrap .i64 (u.1-v.1))),(u.2.1,az)))))))
 (.c _ (b (wrap .i64 (u.1+1)) v.2.1 v.2.2.1 k u.2.2) fun bb=>
 .l (.inl (v.1,(u.1,(v.2.2.1,(((wrap .i64 (Int.tdiv (wrap .i64 (v.2.1-v.1)) 8))≤(wrap .i64 (v.2.1-u.1))),(u.2.1,bb)))))))))
 (.c _ (wbi v.1 v.2.1 h.1 k v.2.2.2.2.2) fun m=>
 .g (!decide ((8:Int)=0))<|
 .t ((wrap .i64 (m.1-v.1))<(wrap .i64 (v.2.1-m.1)))
 (.c _ (b v.1 m.1 v.2.2.1 k m.2.2) fun ax=>
 .l (.inl ((wrap .i64 (m.1+1)),(v.2.1,(v.2.2.1,(((wrap .i64 (Int.tdiv (wrap .i64 (v.2.1-v.1)) 8))≤(wrap .i64 (m.1-v.1))),(m.2.1,ax)))))))
 (.c _ (b (wrap .i64 (m.1+1)) v.2.1 v.2.2.1 k m.2.2) fun bf=>
 .l (.inl (v.1,(m.1,(v.2.2.1,(((wrap .i64 (Int.tdiv (wrap .i64 (v.2.1-v.1)) 8))≤(wrap .i64 (v.2.1-m.1))),(m.2.1,bf)))))))))))))
def wwe(a:(Int)→(Int)→(Int)→(Yo)→Yl→Option Yl) k v:=iter (fun v=>(wix a k v).ev) v
abbrev yq316:Keep:=yk [] [0,1,2,3,4,10,11] (yj [.arr 64,.dat yi,.dat yi,.dat yi,.clo [y1,y1] yi,.dat .bool,.dat .bool]) [Zu]
abbrev yq317{a b c d e g h:Type}(k:a)(v:b×c×d×e×g×h):=(((),(v.1,(v.2.1,(v.2.2.1,(k,(v.2.2.2.1,(v.2.2.2.2.1,()))))))),(v.2.2.2.2.2,()))
abbrev yq318{a b c d e g h i j l:Type}(t:(a×b×c×d×e×g×h×i)×j×l):=(t.1.2.1,(t.1.2.2.1,(t.1.2.2.2.1,(t.1.2.2.2.2.2.1,(t.1.2.2.2.2.2.2.1,t.2.1)))))
def wfa(a:(Int)→(Int)→(Int)→(Yo)→Yl→Option Yl):LD:=yl (wix a) yq316 [] yq281 yq317 yq65 yq318 (fun _ r=>yz yq281 (((),()),(r,())))
def wadc(g:(Int)→(Int)→(Int)→(Yo)→Yl→Option Yl)(f:Int)(h:Int)(a:Int)(e:Yo)(i:(List Nat)×Y2):Tr Yl:=
 .c _ (wwe g e (f,(h,(a,(true,(true,i)))))) fun b=>
 .l b
noncomputable def wen:Nat→(Int)→(Int)→(Int)→(Yo)→Yl→Option Yl
 |0=>fun _ _ _ _ _=>none
 |n+1=>fun c e a b f=>(wadc (wen n) c e a b f).ev
def waix:RetK:= {acts:=[],res:=[],sh:=.nil,obs:=[Zu],pins:=[(0,0,64)]}
def wpz(a:(Int)→(Int)→(Int)→(Yo)→Yl→Option Yl):FD where
 A:=(yj [.arr 64,.dat yi,.dat yi,.dat yi,.clo [y1,y1] yi])
 ins:=[Zu]
 lend:=[.arg 0]
 R:=(List Nat)×Y2
 F:=fun x=>a x.1.2.1 x.1.2.2.1 x.1.2.2.2.1 x.1.2.2.2.2.1 x.2.1
 emb:=fun r=>([],[(64,.perm false 22 3 yi r.1 r.2)])
def wadd(n:Nat):FD:=wpz (wen n)
def wwf(a:(Int)→(Int)→(Int)→(Yo)→Yl→Option Yl):Env:=envOf [waco.1,wacs.1,wacz.1,wadb.1,(309,wpz a)]
def wwg(a:(Int)→(Int)→(Int)→(Yo)→Yl→Option Yl):List (Nat×LD):=[(0,wfa a)]
def wwh:Code:=(f309.body).getD .skip
theorem wwi(a:(Int)→(Int)→(Int)→(Yo)→Yl→Option Yl):(wfa a).OK (wwf a) tt noZ (orcOf (wwg a)) (loopAt wwh 0):=ldMk (fun _=>rfl) fun _ _=>by kernel_rfl
theorem waiy(a:(Int)→(Int)→(Int)→(Yo)→Yl→Option Yl):LoopsOK (wwf a) tt noZ (wwg a) wwh:=lpMk (by kernel_rfl) (lpC (wwi a) lpN)
theorem wqa:∀n:Nat,FDok prog (309,wadd n)
 |0=>fun _ _ h=>nomatch h
 |n+1=>fn_ok mixed (env_ok (fdC waco.2 (fdC wacs.2 (fdC wacz.2 (fdC wadb.2 (fdC (wqa n) fdN)))))) tabOK (fnMk (wadd (n+1)) (wwf (wen n)) waix noZ (wwg (wen n)) wwh (fun x=>wadc (wen n) x.1.2.1 x.1.2.2.1 x.1.2.2.2.1 x.1.2.2.2.2.1 x.2.1) (fun r=>((),(r,()))) func309 (waiy (wen n)) fun _=>by kernel_rfl)
def waiz:FP prog:=⟨_,wqa 1000000⟩
def wade(f:Yo)(a:(List Nat)×Y2):Tr Yl:=
 .c _ (wnu (wrap .u64 (length a.1:Int))) fun b=>
 .c _ (wen 1000000 0 (length a.1:Int) b f a) fun e=>
 .l e
def waja b a:=(wade b a).ev
abbrev yq319{a b c d e:Type}{z:Type _}(f:b→d→z)(x:(a×b×c)×d×e):z:=f x.1.2.1 x.2.1
def wadf:FP prog:=fnP cx func236 [wvr,waiz] (yj [.arr 64,.clo [y1,y1] yi]) [Zu] [.arg 0] (yq319 wade) yq285 yq287
def T_zd(a:Int):Tr (Bool):=
 .l (a !=a)
def wwj a:=(T_zd a).ev
def G_zd:FP prog:=fnP cx func172 [] Zn [] [] (yq1 T_zd) yq0 yq2
def T_za(a:Int)(b:Int):Tr (Int):=
 .c _ (wwj a) fun f=>
 .c _ (wwj b) fun e=>
 .t f
 (.t e
 (.l 0)
 (.l (-1)))
 (.t e
 (.l 1)
 (.t (a<b)
 (.l (-1))
 (.t (b<a)
 (.l 1)
 (.l 0))))
def F_za a b:=(T_za a b).ev
def G_za:FP prog:=fnP cx func97 [G_zd] (yj [.dat yi,.dat yi]) [] [] (yq41 T_za) yq40 yq2
def wiy(k:Y1×(Y1×(Y1×Int)))(v:Int):Tr ((Int)⊕((Unit)⊕(Int))):=
 .t (v<k.2.2.2)
 (.g (inR v (length k.2.2.1))<|
 .t ((length k.2.1:Int)≤v)
 (.l (.inr (.inr 1)))
 (.g (inR v (length k.2.1))<|
 .c _ (F_za (getD k.2.2.1 (toNat v) 0) (getD k.2.1 (toNat v) 0)) fun a=>
 .t (a != (0:Int))
 (.l (.inr (.inr a)))
 (.l (.inl (wrap .i64 (v+1))))))
 (.l (.inr (.inl ())))
def wwk k v:=iter (fun v=>(wiy k v).ev) v
abbrev yq320:Keep:=yh [0,1,9,10,11] (yj [.dat y1,.dat y1,.dat y1,.dat yi,.dat yi])
abbrev yq321:Keep:=yh [0,1] (yj [.dat y1,.dat y1])
def wod:LD:=yl (wiy) yq320 [(0,yq321)] yq229 yq235 yq236 yq65 (fun k r=>.s _ _ r (fun _=>yx 0 yq321 ((k.1,(k.2.1,())),())) (fun b=>yz yq229 ((b,()),())))
def wadg(a:Y1)(b:Y1):Tr (Int):=
 .c _ (wwk (a,(b,(a,(length a:Int)))) 0) fun e=>
 .s _ _ e
 (fun _=>.t ((length a:Int)<(length b:Int))
 (.l (-1))
 (.l 0))
 (fun f=>.l f)
def wajb a b:=(wadg a b).ev
def wajc:FP prog:=fnP cx func311 [G_za] (yj [.dat y1,.dat y1]) [] [] (yq41 wadg) yq40 yq2 noZ [(0,wod)]
def wqb(k:Int×(Y1×Int))(v:Int):Tr ((Int)⊕((Unit)⊕(Int))):=
 .t (v<k.2.2)
 (.g (inR v (length k.2.1))<|
 .t ((getD k.2.1 (toNat v) 0) !=k.1)
 (.l (.inr (.inr (getD k.2.1 (toNat v) 0))))
 (.l (.inl (wrap .i64 (v+1)))))
 (.l (.inr (.inl ())))
def wadh k v:=iter (fun v=>(wqb k v).ev) v
abbrev yq322:Keep:=yh [3,6,7,8] (yj [.dat yi,.dat y1,.dat yi,.dat yi])
abbrev yq323:Keep:=yh [2] Zn
def wwl:LD:=yl (wqb) yq322 [(0,yq247)] yq323 yq103 yq104 yq69 (fun k r=>.s _ _ r (fun _=>yx 0 yq247 ((k.1,()),())) (fun b=>yz yq323 ((b,()),())))
def T_zc(a:Y1):Tr (Int):=
 .c _ (wadh (0,(a,(length a:Int))) 0) fun b=>
 .s _ _ b
 (fun _=>.l 0)
 (fun e=>.l e)
def F_zc a:=(T_zc a).ev
def G_zc:FP prog:=fnP cx func310 [] (yj [.dat y1]) [] [] (yq1 T_zc) yq251 yq2 noZ [(0,wwl)]
def wadi(b:Y1)(a:Y1):Tr (Int):=
 .c _ (F_za (length b:Int) (length a:Int)) fun g=>
 .c _ (wajb b a) fun e=>
 .c _ (F_zc ([g,e]:Y1)) fun f=>
 .l f
def wajd a b:=(wadi a b).ev
def waje:FP prog:=fnP cx func237 [G_za,wajc,G_zc] (yj [.dat y1,.dat y1]) [] [] (yq41 wadi) yq40 yq2
def wiz(k:Int)(v:Int×Y2):Tr ((Int×Y2)⊕Y2):=
 .g (0≤k)<|
 .t (v.1<(wrap .u64 ((1:Int)*2^(min (toNat k) Zf))))
 (.c _ (wdy v.1) fun a=>
 .g ((length v.2+1)*24≤140737488355328)<|
 .l (.inl ((wrap .u64 (v.1+1)),(set (v.2++ [[]]) (length v.2) a))))
 (.l (.inr v.2))
def wwm k v:=iter (fun v=>(wiz k v).ev) v
abbrev yq274:Keep:=yk [] [0,3,4] (yj [.dat yi,.arr 5,.dat (.int .u64)]) [(5,.rows 22 3 yi)]
abbrev yq275:Keep:=yk [] [3] (yj [.arr 5]) [(5,.rows 22 3 yi)]
def wof:LD:=yl (wiz) yq274 [(0,yq275)] yq10 yq259 yq208 yq260 (fun _ r=>yx 0 yq275 (((),()),(r,())))
def wadj(g:Int):Tr Yl:=
 .c _ (wwm g (1,[])) fun a=>
 .c _ (waja (fun b=>Option.bind (wajd b.1 b.2.1) fun f=>some f) ((List.range (length a)),a)) fun e=>
 .l e
def wja a:=(wadj a).ev
abbrev yq324:RetK:=⟨[.ren 5 0],[.tmp 2],Zah,[(0,.perm 22 3 yi)],[],[]⟩
def wadk:FP prog:=fnP cx func158 [wnt,wadf,wadf,waje] Zn [] [] (yq1 wadj) yq324 yq27 (zOf [(1,[(0,[1000000])]),(6,[(1,[80000017])])]) [(0,wof)]
def wbc(k:(HL [y1]→Option (Bool)))(v:Int×(Int×Yl)):Tr ((Int×(Int×Yl))⊕(Int×Yl)):=
 .t (v.2.1<(length v.2.2.1:Int))
 (.g (inR v.2.1 (length v.2.2.1))<|
 .g (((toNat v.2.1)<length v.2.2.1)&&((getD v.2.2.1 (toNat v.2.1) 0)<length v.2.2.2))<|
 .c _ (k ((getD v.2.2.2 (getD v.2.2.1 (toNat v.2.1) 0) []),())) fun a=>
 .t (!a)
 (.g (inR v.1 (length v.2.2.1))<|
 .g ((toNat v.1)<length v.2.2.1)<|
 .l (.inl ((wrap .i64 (v.1+1)),((wrap .i64 (v.2.1+1)),((set v.2.2.1 (toNat v.1) (getD v.2.2.1 (toNat v.2.1) 0)),v.2.2.2)))))
 (.l (.inl (v.1,((wrap .i64 (v.2.1+1)),v.2.2)))))
 (.l (.inr (v.1,v.2.2)))
def wjb k v:=iter (fun v=>(wbc k v).ev) v
abbrev yq325:Keep:=yk [] [0,1,5,6] (yj [.arr 64,.clo [y1] .bool,.dat yi,.dat yi]) [Zu]
abbrev yq326:Keep:=yk [] [0,5] (yj [.arr 64,.dat yi]) [Zu]
abbrev yq327{a b c d:Type}(k:a)(v:b×c×d):=(((),(k,(v.1,(v.2.1,())))),(v.2.2,()))
abbrev yq328{a b c d e g h:Type}(t:(a×b×c×d×e)×g×h):=(t.1.2.2.1,(t.1.2.2.2.1,t.2.1))
def wog:LD:=yl (wbc) yq325 [(0,yq326)] yq10 yq327 yq76 yq328 (fun _ r=>yx 0 yq326 (((),(r.1,())),(r.2,())))
def wwn(f:(HL [y1]→Option (Bool)))(b:(List Nat)×Y2):Tr Yl:=
 .c _ (wne (permL b.1 b.2) f) fun e=>
 .t (e==(-1:Int))
 (.l b)
 (.c _ (wjb f (e,((wrap .i64 (e+1)),b))) fun a=>
 .g ((0≤a.1)&&(a.1≤(length a.2.1:Int)))<|
 .g ((0≤a.1)&&(a.1≤(length (List.take (toNat a.1) a.2.1++List.replicate (length a.2.1-(toNat a.1)) (length a.2.2)):Int)))<|
 .l ((List.take (toNat a.1) (List.take (toNat a.1) a.2.1++List.replicate (length a.2.1-(toNat a.1)) (length a.2.2))),a.2.2))
def woh b a:=(wwn b a).ev
abbrev yq329:RetK:=⟨[.ren 64 0],[.tmp 4],Zah,[(0,.perm 22 3 yi)],[],[64]⟩
def woi:FP prog:=fnP cx func157 [waag] (yj [.arr 64,.clo [y1] .bool]) [Zu] [.arg 0] (yq319 wwn) yq329 yq27 noZ [(0,wog)]
def wwo(a:Y1)(b:Int):Tr (Bool):=
 .l ((length a:Int) !=b)
def woj a b:=(wwo a b).ev
abbrev yq330{a b c d e:Type}{z:Type _}(f:a→b→z)(x:(a×(b×c)×d)×e):z:=f x.1.1 x.1.2.1.1
def wajf:FP prog:=fnP cx func159 [] (yj [.dat y1,.ptr Zn]) [] [] (yq330 wwo) yq232 yq2
def wbd(k:((HL [y1]→Option (Int)))×(Int×Yl))(v:(Nat)×Int):Tr (((Nat)×Int)⊕(Nat)):=
 .t (v.2<k.2.1)
 (.g (inR v.2 (length k.2.2.1))<|
 .g (((toNat v.2)<length k.2.2.1)&&((getD k.2.2.1 (toNat v.2) 0)<length k.2.2.2))<|
 .c _ (k.1 ((getD k.2.2.2 (getD k.2.2.1 (toNat v.2) 0) []),())) fun a=>
 .c _ (k.1 ((getD k.2.2.2 v.1 []),())) fun b=>
 .t (a<b)
 (.l (.inl ((getD k.2.2.1 (toNat v.2) 0),(wrap .i64 (v.2+1)))))
 (.l (.inl (v.1,(wrap .i64 (v.2+1))))))
 (.l (.inr v.1))
def wjc k v:=iter (fun v=>(wbd k v).ev) v
abbrev yq331:Keep:=yk [] [0,1,5,11,12,13] (yj [.arr 64,.clo [y1] yi,.row 64,.arr 64,.dat yi,.dat yi]) [Zu]
abbrev yq332:Keep:=yk [] [0,5] (yj [.arr 64,.row 64]) [Zu]
abbrev yq333{a b c d e:Type}(k:a×b×c)(v:d×e):=(((),(k.1,(v.1,((),(k.2.1,(v.2,())))))),(k.2.2,()))
abbrev yq334{a b c d e g h i:Type}(t:(a×b×c×d×e×g)×h×i):=(t.1.2.1,(t.1.2.2.2.2.1,t.2.1))
abbrev yq335{a b c d e g h i:Type}(t:(a×b×c×d×e×g×h)×i):=(t.1.2.2.1,t.1.2.2.2.2.2.1)
def wok:LD:=yl (wbd) yq331 [(0,yq332)] yq10 yq333 yq334 yq335 (fun k r=>yx 0 yq332 (((),(r,())),(k.2.2,())))
def wwp(e:(HL [y1]→Option (Int)))(a:(List Nat)×Y2):Tr Y1:=
 .g (inR 0 (length a.1))<|
 .g (((toNat 0)<length a.1)&&((getD a.1 (toNat 0) 0)<length a.2))<|
 .c _ (wjc (e,((length a.1:Int),a)) ((getD a.1 (toNat 0) 0),0)) fun b=>
 .l (getD a.2 b [])
def wol b a:=(wwp b a).ev
abbrev yq336:RetK:=⟨[.pull 4 800000,.ren 800000 0],[.tmp 4],Zah,[Zab],[],[64]⟩
def wom:FP prog:=fnP cx func90 [] (yj [.arr 64,.clo [y1] yi]) [Zu] [.arg 0] (yq319 wwp) yq336 yq27 noZ [(0,wok)]
def wck(k:Int×(Y1×(Int×(Y1×Y2))))(v:Int×Int):Tr (Yr⊕(Int)):=
 .t (v.2<k.2.2.1)
 (.g (inR v.2 (length k.2.1))<|
 .g (inR k.1 (length k.2.2.2.2))<|
 .g (inR (getD k.2.1 (toNat v.2) 0) (length (getD k.2.2.2.2 (toNat k.1) [])))<|
 .g (inR k.1 (length k.2.2.2.2))<|
 .g (inR v.1 (length (getD k.2.2.2.2 (toNat k.1) [])))<|
 .t ((getD (getD k.2.2.2.2 (toNat k.1) []) (toNat (getD k.2.1 (toNat v.2) 0)) 0)<(getD (getD k.2.2.2.2 (toNat k.1) []) (toNat v.1) 0))
 (.l (.inl ((getD k.2.1 (toNat v.2) 0),(wrap .i64 (v.2+1)))))
 (.l (.inl (v.1,(wrap .i64 (v.2+1))))))
 (.l (.inr v.1))
def wjd k v:=iter (fun v=>(wck k v).ev) v
abbrev yq337:Keep:=yk [] [1,3,7,13,14,15] (yj [.dat yi,.box 3 0,.dat yi,.dat y1,.dat yi,.dat yi]) [(3,.cells Zk)]
abbrev yq338{a b c d e g h:Type}(k:a×b×c×d×e)(v:g×h):=((k.1,((),(v.1,(k.2.1,(k.2.2.1,(v.2,())))))),((k.2.2.2.1,(k.2.2.2.2,())),()))
abbrev yq339{a b c d e g h i j l:Type}(t:(a×b×c×d×e×g)×(h×i×j)×l):=(t.1.1,(t.1.2.2.2.1,(t.1.2.2.2.2.1,(t.2.1.1,t.2.1.2.1))))
def won:LD:=yl (wck) yq337 [(0,yq169)] yq10 yq338 yq339 yq335 (fun _ r=>yx 0 yq169 ((r,()),()))
def wwq(h:Y1)(e:List Y1)(f:Int)(a:Y1):Tr (Int):=
 .g (inR 0 (length a))<|
 .c _ (wjd (f,(a,((length a:Int),(h,e)))) ((getD a (toNat 0) 0),0)) fun b=>
 .l b
def wwr c e b a:=(wwq c e b a).ev
def wajg:FP prog:=fnP cx func308 [] (yj [.agg Zk,.dat yi,.dat y1]) [] [] (yq174 wwq) yq173 yq2 noZ [(0,won)]
def wcl(k:Y1×(Int×(Y1×Y2)))(v:Int×Y1):Tr (Yq⊕Y1):=
 .t (v.1<k.2.1)
 (.c _ (wwr k.2.2.1 k.2.2.2 v.1 k.1) fun a=>
 .g ((length v.2+length ([a]:Y1))*8≤140737488355328)<|
 .l (.inl ((wrap .i64 (v.1+1)),(v.2++([a]:Y1)))))
 (.l (.inr v.2))
def wje k v:=iter (fun v=>(wcl k v).ev) v
abbrev yq340:Keep:=yk [] [1,2,5,10,11] (yj [.dat y1,.box 2 0,.arr 7,.dat yi,.dat yi]) [(2,.cells Zk),(7,.arr 3 yi)]
abbrev yq341{a b c d e g:Type}(k:a×b×c×d)(v:e×g):=((k.1,((),((),(k.2.1,(v.1,()))))),((k.2.2.1,(k.2.2.2,())),(v.2,())))
abbrev yq342{a b c d e g h i j:Type}(t:(a×b×c×d×e)×(g×h×i)×j):=(t.1.1,(t.1.2.2.2.1,(t.2.1.1,t.2.1.2.1)))
abbrev yq343{a b c d e g h i j:Type}(t:(a×b×c×d×e×g)×h×i×j):=(t.1.2.2.2.2.1,t.2.2.1)
def woo:LD:=yl (wcl) yq340 [(0,yq107)] yq10 yq341 yq342 yq343 (fun _ r=>yx 0 yq107 (((),()),(r,())))
def wws(f:Y1)(a:List Y1)(b:Y1):Tr Y1:=
 .c _ (wje (b,((length a:Int),(f,a))) (0,[])) fun e=>
 .l e
def wwt b c a:=(wws b c a).ev
def wajh:FP prog:=fnP cx func230 [wajg] (yj [.agg Zk,.dat y1]) [] [] (yq113 wws) yq111 yq27 noZ [(0,woo)]
def wdz(k:Int×(Y1×(Y2×Y1)))(v:Int×Y1):Tr (Yq⊕Y1):=
 .t (v.1<k.1)
 (.g (inR v.1 (length k.2.2.2))<|
 .g ((toNat v.1)<length k.2.2.2)<|
 .g (inR v.1 (length k.2.2.1))<|
 .g (inR (getD k.2.2.2 (toNat v.1) 0) (length (getD k.2.2.1 (toNat v.1) [])))<|
 .g ((length v.2+length ([(getD (getD k.2.2.1 (toNat v.1) []) (toNat (getD k.2.2.2 (toNat v.1) 0)) 0)]:Y1))*8≤140737488355328)<|
 .l (.inl ((wrap .i64 (v.1+1)),(v.2++([(getD (getD k.2.2.1 (toNat v.1) []) (toNat (getD k.2.2.2 (toNat v.1) 0)) 0)]:Y1)))))
 (.l (.inr v.2))
def wqc k v:=iter (fun v=>(wdz k v).ev) v
abbrev yq344:Keep:=yk [] [2,5,11,12,13] (yj [.box 2 0,.arr 8,.arr 704,.dat yi,.dat yi]) [(2,.cells Zk),(8,.arr 3 yi),(704,.arr 3 yi)]
abbrev yq345:Keep:=yk [] [5] (yj [.arr 8]) [(8,.arr 3 yi)]
abbrev yq346{a b c d e g:Type}(k:a×b×c×d)(v:e×g):=(((),((),((),(k.1,(v.1,()))))),((k.2.1,(k.2.2.1,())),(v.2,(k.2.2.2,()))))
abbrev yq347{a b c d e g h i j l m:Type}(t:(a×b×c×d×e)×(g×h×i)×j×l×m):=(t.1.2.2.2.1,(t.2.1.1,(t.2.1.2.1,t.2.2.2.1)))
def wwu:LD:=yl (wdz) yq344 [(0,yq345)] yq10 yq346 yq347 yq343 (fun _ r=>yx 0 yq345 (((),()),(r,())))
def T_zy(e:Y1)(a:List Y1)(g:Y1):Tr Y1:=
 .c _ (wwt e a g) fun b=>
 .c _ (wqc ((length b:Int),(e,(a,b))) (0,[])) fun f=>
 .l f
def F_zy b c a:=(T_zy b c a).ev
abbrev yq348:RetK:=⟨[.ren 8 0],[.tmp 4],Zah,[Zab],[],[]⟩
def G_zy:FP prog:=fnP cx func154 [wajh] (yj [.agg Zk,.dat y1]) [] [] (yq113 T_zy) yq348 yq27 noZ [(0,wwu)]
def wcm(k:Y1×Int)(v:Int×Int):Tr (Yr⊕(Int)):=
 .t (v.2<k.2)
 (.g (inR v.2 (length k.1))<|
 .l (.inl ((wrap .i64 (v.1+(getD k.1 (toNat v.2) 0))),(wrap .i64 (v.2+1)))))
 (.l (.inr v.1))
def wjf k v:=iter (fun v=>(wcm k v).ev) v
abbrev yq349{a b c d:Type}(k:a×b)(v:c×d):=((v.1,(k.1,(k.2,(v.2,())))),())
abbrev yq350{a b c d e g:Type}(t:(a×b×c×d×e)×g):=(t.1.1,t.1.2.2.2.1)
def wop:LD:=yl (wcm) yq322 [(0,yq247)] yq10 yq349 yq209 yq350 (fun _ r=>yx 0 yq247 ((r,()),()))
def wwv(a:Y1):Tr (Int):=
 .c _ (wjf (a,(length a:Int)) (0,0)) fun b=>
 .l b
def www a:=(wwv a).ev
def waji:FP prog:=fnP cx func238 [] (yj [.dat y1]) [] [] (yq1 wwv) yq251 yq2 noZ [(0,wop)]
def wwx(g:Y1)(a:List Y1)(e:Y1):Tr (Int):=
 .c _ (F_zy g a e) fun f=>
 .c _ (www f) fun b=>
 .l b
def wfm b c a:=(wwx b c a).ev
def wadl:FP prog:=fnP cx func160 [G_zy,waji] (yj [.agg Zk,.dat y1]) [] [] (yq113 wwx) yq40 yq2
def T_zz(a:Y1)(e:List Y1)(i:Int):Tr Y1:=
 .c _ (wja (length a:Int)) fun j=>
 .c _ (woh (fun b=>Option.bind (woj b.1 i) fun g=>some g) j) fun n=>
 .c _ (wol (fun f=>Option.bind (wfm a e f.1) fun h=>some h) n) fun m=>
 .l m
def F_zz b c a:=(T_zz b c a).ev
abbrev yq351:RetK:=⟨[.ren 960 0],[.tmp 4],Zah,[Zab],[],[]⟩
def G_zz:FP prog:=fnP cx func89 [wadk,woi,wom,wom,wadl,woi,wajf] (yj [.agg Zk,.dat yi]) [] [] (yq113 T_zz) yq351 yq27
def wwy(e:Y1)(a:List Y1)(b:Int):Tr (Bool×Y1):=
 .c _ (wem e a b) fun g=>
 .t (!g)
 (.l (false,[]))
 (.c _ (F_zz e a b) fun f=>
 .l (true,f))
def wfn b c a:=(wwy b c a).ev
abbrev yq352:RetK:=⟨[.own 4 0 3 yi,.ren 768 0],[.tmp 4,.tmp 5],(yj [.arr 0,.dat .bool]),[Zab],[],[]⟩
def wadm:FP prog:=fnP cx func43 [waci,G_zz] (yj [.agg Zk,.dat yi]) [] [] (yq113 wwy) yq352 yq184
def woq(a:List (List UInt8))(b:List UInt8):Option (List UInt8):=joinF a b
def wajj:FD:=fdJoin
theorem wadn:FDok prog (179,wajj):=hand_join
def wado:FP prog:=⟨_,wadn⟩
def wcn(k:Y1×Int)(v:Int×(List (List UInt8))):Tr ((Int×(List (List UInt8)))⊕(List (List UInt8))):=
 .t (v.1<k.2)
 (.g (inR v.1 (length k.1))<|
 .c _ (wel (getD k.1 (toNat v.1) 0)) fun a=>
 .g ((length v.2+length ([a]:List (List UInt8)))*16≤140737488355328)<|
 .l (.inl ((wrap .i64 (v.1+1)),(v.2++([a]:List (List UInt8))))))
 (.l (.inr v.2))
def wjg k v:=iter (fun v=>(wcn k v).ev) v
abbrev yq353:Keep:=yk [] [3,7,8,9] (yj [.arr 6,.dat y1,.dat yi,.dat yi]) [(6,.arr 9 .str)]
abbrev yq354:Keep:=yk [] [3] (yj [.arr 6]) [(6,.arr 9 .str)]
def wor:LD:=yl (wcn) yq353 [(0,yq354)] yq10 yq239 yq209 yq110 (fun _ r=>yx 0 yq354 (((),()),(r,())))
def wwz(a:Y1):Tr (List UInt8):=
 .c _ (wjg (a,(length a:Int)) (0,[])) fun b=>
 .c _ (woq b ([32]:List UInt8)) fun e=>
 .l e
def wxa a:=(wwz a).ev
abbrev yq355:RetK:=yr [.tmp 2] (yj [.dat .str])
def wajk:FP prog:=fnP cx func272 [wih,wado] (yj [.dat y1]) [] [] (yq1 wwz) yq355 yq2 noZ [(0,wor)]
def wxb(a:Y1):Tr (List UInt8):=
 .t ((length a:Int)==(0:Int))
 (.l ([110,111,110,101]:List UInt8))
 (.c _ (wxa a) fun b=>
 .l b)
def wxc a:=(wxb a).ev
def wajl:FP prog:=fnP cx func195 [wajk] (yj [.dat y1]) [] [] (yq1 wxb) yq355 yq2
def T_zj(b:Y1)(e:Bool):Tr Yy:=
 .c _ (wxc b) fun a=>
 .l (a,e)
def F_zj a b:=(T_zj a b).ev
def G_zj:FP prog:=fnP cx func197 [wajl] (yj [.dat y1,.dat .bool]) [] [] (yq41 T_zj) yq256 yq253
def wxd(a:Y1)(b:Int):Tr (Bool):=
 .l (b<(length a:Int))
def wos a b:=(wxd a b).ev
def wajm:FP prog:=fnP cx func161 [] (yj [.dat y1,.ptr Zn]) [] [] (yq330 wxd) yq232 yq2
def wxe(h:Y1)(_i:List Y1)(e:Int):Tr Yl:=
 .c _ (wja (length h:Int)) fun f=>
 .c _ (woh (fun a=>Option.bind (wos a.1 e) fun b=>some b) f) fun g=>
 .l g
def wadp b c a:=(wxe b c a).ev
abbrev yq356:RetK:=⟨[.ren 640 0],[.tmp 4],Zah,[(0,.perm 22 3 yi)],[],[]⟩
def wajn:FP prog:=fnP cx func91 [wadk,woi,woi,wajm] (yj [.agg Zk,.dat yi]) [] [] (yq113 wxe) yq356 yq27
def wbe(k:Y1)(v:Int×Int):Tr (Yr⊕(Int)):=
 .t (v.2<(length k:Int))
 (.g (inR v.2 (length k))<|
 .l (.inl ((if v.1<(getD k (toNat v.2) 0) then(getD k (toNat v.2) 0) else v.1),(wrap .i64 (v.2+1)))))
 (.l (.inr v.1))
def weo k v:=iter (fun v=>(wbe k v).ev) v
abbrev yq357:Keep:=yh [0,3,4] (yj [.dat y1,.dat yi,.dat yi])
def wot:LD:=yl (wbe) yq357 [(0,yq247)] yq10 yq207 yq208 yq209 (fun _ r=>yx 0 yq247 ((r,()),()))
def wxf(a:Y1):Tr (Int):=
 .t ((length a:Int)<(1:Int))
 (.f)
 (.g (inR 0 (length a))<|
 .c _ (weo a ((getD a (toNat 0) 0),1)) fun b=>
 .l b)
def wxg a:=(wxf a).ev
def wajo:FP prog:=fnP cx func153 [] (yj [.dat y1]) [] [] (yq1 wxf) yq251 yq2 noZ [(0,wot)]
def wxm(h:Y1)(b:List Y1)(f:Y1):Tr (Int):=
 .c _ (F_zy h b f) fun a=>
 .g ((length a+length ([0]:Y1))*8≤140737488355328)<|
 .c _ (wxg (a++([0]:Y1))) fun e=>
 .l e
def wfr b c a:=(wxm b c a).ev
def wadq:FP prog:=fnP cx func86 [G_zy,wajo] (yj [.agg Zk,.dat y1]) [] [] (yq113 wxm) yq40 yq2
def T_zm(b:Y1)(a:List Y1)(e:Int):Tr (Bool×Y1):=
 .c _ (wem b a e) fun i=>
 .t (!i)
 (.l (false,[]))
 (.c _ (wadp b a e) fun g=>
 .c _ (wol (fun h=>Option.bind (wfr b a h.1) fun j=>some j) g) fun f=>
 .l (true,f))
def F_zm b c a:=(T_zm b c a).ev
abbrev yq358:RetK:=⟨[.own 4 0 3 yi,.ren 960 0],[.tmp 4,.tmp 5],(yj [.arr 0,.dat .bool]),[Zab],[],[]⟩
def G_zm:FP prog:=fnP cx func44 [waci,wajn,wom,wom,wadq] (yj [.agg Zk,.dat yi]) [] [] (yq113 T_zm) yq358 yq184
def T_zx(e:Y1)(_f:List Y1)(a:Y1):Tr (Bool):=
 .t ((0:Int)<(length a:Int))
 (.c _ (wnh a (length e:Int)) fun b=>
 .l b)
 (.l false)
def F_zx b c a:=(T_zx b c a).ev
def G_zx:FP prog:=fnP cx func152 [waai] (yj [.agg Zk,.dat y1]) [] [] (yq113 T_zx) yq112 yq2
def wxn(b:Y1)(a:List Y1)(f:Y1):Tr (Bool):=
 .c _ (wdt b a) fun g=>
 .t g
 (.c _ (F_zx b a f) fun e=>
 .l e)
 (.l false)
def wjh b c a:=(wxn b c a).ev
def wxo:FP prog:=fnP cx func85 [wnf,G_zx] (yj [.agg Zk,.dat y1]) [] [] (yq113 wxn) yq112 yq2
def wco(k:Y1×(Int×(Y1×Y2)))(v:Int×Int):Tr (Yr⊕(Int)):=
 .t (v.2<k.2.1)
 (.g (inR v.2 (length k.1))<|
 .g (inR (getD k.1 (toNat v.2) 0) (length k.2.2.1))<|
 .l (.inl ((wrap .i64 (v.1+(getD k.2.2.1 (toNat (getD k.1 (toNat v.2) 0)) 0))),(wrap .i64 (v.2+1)))))
 (.l (.inr v.1))
def wji k v:=iter (fun v=>(wco k v).ev) v
abbrev yq359:Keep:=yk [] [2,5,8,9,10] (yj [.box 2 0,.dat yi,.dat y1,.dat yi,.dat yi]) [(2,.cells Zk)]
abbrev yq360{a b c d e g:Type}(k:a×b×c×d)(v:e×g):=(((),(v.1,(k.1,(k.2.1,(v.2,()))))),((k.2.2.1,(k.2.2.2,())),()))
abbrev yq361{a b c d e g h i j:Type}(t:(a×b×c×d×e)×(g×h×i)×j):=(t.1.2.2.1,(t.1.2.2.2.1,(t.2.1.1,t.2.1.2.1)))
abbrev yq362{a b c d e g h:Type}(t:(a×b×c×d×e×g)×h):=(t.1.2.1,t.1.2.2.2.2.1)
def wou:LD:=yl (wco) yq359 [(0,yq176)] yq10 yq360 yq361 yq362 (fun _ r=>yx 0 yq176 ((r,()),()))
def wxp(e:Y1)(f:List Y1)(a:Y1):Tr (Int):=
 .c _ (wji (a,((length a:Int),(e,f))) (0,0)) fun b=>
 .l b
def wxq b c a:=(wxp b c a).ev
def wajp:FP prog:=fnP cx func229 [] (yj [.agg Zk,.dat y1]) [] [] (yq113 wxp) yq40 yq2 noZ [(0,wou)]
def wxr(e:Y1)(a:List Y1)(b:Y1):Tr (Int):=
 .c _ (wxq e a b) fun g=>
 .c _ (wfm e a b) fun f=>
 .l (wrap .i64 (g+f))
def wep b c a:=(wxr b c a).ev
def wov:FP prog:=fnP cx func151 [wajp,wadl] (yj [.agg Zk,.dat y1]) [] [] (yq113 wxr) yq40 yq2
def wxs(e:Y1)(a:List Y1)(b:Y1):Tr (Int×(Bool)):=
 .c _ (wjh e a b) fun g=>
 .t (!g)
 (.l (0,false))
 (.c _ (wep e a b) fun f=>
 .l (f,true))
def wadr b c a:=(wxs b c a).ev
abbrev yq363:RetK:=yr [.tmp 4,.tmp 5] (yj [.dat yi,.dat .bool])
def wakc:FP prog:=fnP cx func84 [wxo,wov] (yj [.agg Zk,.dat y1]) [] [] (yq113 wxs) yq363 yq253
def T_zg(f:Y1)(a:List Y1)(e:Y1)(g:Int):Tr (Int×(Bool)):=
 .c _ (wib f a e g) fun h=>
 .t (!h)
 (.l (0,false))
 (.c _ (wadr f a e) fun b=>
 .l (b.1,b.2))
def F_zg c e b a:=(T_zg c e b a).ev
abbrev yq364:RetK:=yr [.tmp 2,.tmp 3] (yj [.dat yi,.dat .bool])
def G_zg:FP prog:=fnP cx func40 [wuk,wakc] (yj [.agg Zm]) [] [] (yq114 T_zg) yq364 yq253
def T_zi(b:Int)(e:Bool):Tr Yy:=
 .c _ (wel b) fun a=>
 .l (a,e)
def F_zi a b:=(T_zi a b).ev
def G_zi:FP prog:=fnP cx func196 [wih] (yj [.dat yi,.dat .bool]) [] [] (yq41 T_zi) yq256 yq253
def wxt(e:Y1)(a:List Y1)(b:Y1):Tr (Int×(Bool)):=
 .c _ (wjh e a b) fun g=>
 .t (!g)
 (.l (0,false))
 (.c _ (wfr e a b) fun f=>
 .l (f,true))
def web b c a:=(wxt b c a).ev
def wads:FP prog:=fnP cx func41 [wxo,wadq] (yj [.agg Zk,.dat y1]) [] [] (yq113 wxt) yq363 yq253
def wcp(k:Y1)(v:Int×Int):Tr (Yr⊕(Int)):=
 .t (v.2<(length k:Int))
 (.g (inR v.2 (length k))<|
 .l (.inl ((if(getD k (toNat v.2) 0)<v.1 then(getD k (toNat v.2) 0) else v.1),(wrap .i64 (v.2+1)))))
 (.l (.inr v.1))
def wjj k v:=iter (fun v=>(wcp k v).ev) v
def wow:LD:=yl (wcp) yq357 [(0,yq247)] yq10 yq207 yq208 yq209 (fun _ r=>yx 0 yq247 ((r,()),()))
def wxu(a:Y1):Tr (Int):=
 .t ((length a:Int)<(1:Int))
 (.f)
 (.g (inR 0 (length a))<|
 .c _ (wjj a ((getD a (toNat 0) 0),1)) fun b=>
 .l b)
def wxv a:=(wxu a).ev
def wakd:FP prog:=fnP cx func166 [] (yj [.dat y1]) [] [] (yq1 wxu) yq251 yq2 noZ [(0,wow)]
def wcq(k:Y1×Yr)(v:Int):Tr ((Int)⊕((Unit)⊕(Int))):=
 .t (v<k.2.2)
 (.g (inR v (length k.1))<|
 .t (k.2.1==(getD k.1 (toNat v) 0))
 (.l (.inr (.inr v)))
 (.l (.inl (wrap .i64 (v+1)))))
 (.l (.inr (.inl ())))
def wjk k v:=iter (fun v=>(wcq k v).ev) v
abbrev yq365:Keep:=yh [0,1,7,8] (yj [.dat y1,.dat yi,.dat yi,.dat yi])
def woz:LD:=yl (wcq) yq365 [(0,yq10)] yq229 yq103 yq104 yq69 (fun _ r=>.s _ _ r (fun _=>yx 0 yq10 ((),())) (fun b=>yz yq229 ((b,()),())))
def wxw(a:Y1)(f:Int):Tr (Int):=
 .c _ (wjk (a,(f,(length a:Int))) 0) fun b=>
 .s _ _ b
 (fun _=>.l (-1))
 (fun e=>.l e)
def wadt a b:=(wxw a b).ev
def wakf:FP prog:=fnP cx func165 [] (yj [.dat y1,.dat yi]) [] [] (yq41 wxw) yq40 yq2 noZ [(0,woz)]
def T_zr(a:Y1)(_f:List Y1):Tr (Int):=
 .c _ (wxv a) fun b=>
 .c _ (wadt a b) fun e=>
 .l e
def F_zr a b:=(T_zr a b).ev
def G_zr:FP prog:=fnP cx func93 [wakd,wakf] (yj [.agg Zk]) [] [] (yq58 T_zr) yq251 yq2
def wpa(a:Y1)(b:Int):Option (List Int):=repeatF a b
def wakg:FD:=fdRepeat
theorem wadu:FDok prog (167,wakg):=hand_repeat
def wakh:FP prog:=⟨_,wadu⟩
def wfb(k:Y1×(Int×(Int×(Y2×(Int×(Int×(Y1×Int)))))))(v:Int×Y1):Tr (Yq⊕Y1):=
 .t (v.1<k.2.2.2.2.2.2.2)
 (.g (inR v.1 (length k.2.2.2.2.2.2.1))<|
 .g (inR v.1 (length v.2))<|
 .g ((toNat v.1)<length v.2)<|
 .g (inR k.2.2.1 (length k.1))<|
 .g (inR v.1 (length v.2))<|
 .g ((toNat v.1)<length v.2)<|
 .l (.inl ((wrap .i64 (v.1+1)),(set v.2 (toNat v.1) (wrap .i64 ((getD v.2 (toNat v.1) 0)+(if(0:Int)<(wrap .i64 ((getD k.1 (toNat k.2.2.1) 0) -(wrap .i64 ((getD k.2.2.2.2.2.2.1 (toNat v.1) 0)*k.2.1)))) then(wrap .i64 ((getD k.1 (toNat k.2.2.1) 0) -(wrap .i64 ((getD k.2.2.2.2.2.2.1 (toNat v.1) 0)*k.2.1)))) else 0)))))))
 (.l (.inr v.2))
def wqd k v:=iter (fun v=>(wfb k v).ev) v
abbrev yq371:Keep:=yk [] [1,2,7,8,17,18,19,24,25,26] (yj [.dat y1,.dat yi,.arr 15,.dat yi,.dat y2,.dat yi,.dat yi,.dat y1,.dat yi,.dat yi]) [(15,.arr 3 yi)]
abbrev yq372:Keep:=yk [] [1,2,7,17,18,19] (yj [.dat y1,.dat yi,.arr 15,.dat y2,.dat yi,.dat yi]) [(15,.arr 3 yi)]
abbrev yq373{a b c d e g h i j l:Type}(k:a×b×c×d×e×g×h×i)(v:j×l):=((k.1,(k.2.1,((),(k.2.2.1,(k.2.2.2.1,(k.2.2.2.2.1,(k.2.2.2.2.2.1,(k.2.2.2.2.2.2.1,(k.2.2.2.2.2.2.2,(v.1,())))))))))),(v.2,()))
abbrev yq374{a b c d e g h i j l m:Type}(t:(a×b×c×d×e×g×h×i×j×l)×m):=(t.1.1,(t.1.2.1,(t.1.2.2.2.1,(t.1.2.2.2.2.1,(t.1.2.2.2.2.2.1,(t.1.2.2.2.2.2.2.1,(t.1.2.2.2.2.2.2.2.1,t.1.2.2.2.2.2.2.2.2.1)))))))
abbrev yq375{a b c d e g h i j l m n o:Type}(t:(a×b×c×d×e×g×h×i×j×l×m)×n×o):=(t.1.2.2.2.2.2.2.2.2.2.1,t.2.1)
def wxx:LD:=yl (wfb) yq371 [(2,yq372)] yq10 yq373 yq374 yq375 (fun k r=>yx 2 yq372 ((k.1,(k.2.1,((),(k.2.2.2.1,(k.2.2.2.2.1,(k.2.2.2.2.2.1,())))))),(r,())))
def wec(k:Y1×(Int×(Y2×Int)))(v:Int×Y1):Tr (Yq⊕Y1):=
 .t (v.1<k.2.2.2)
 (.g (inR v.1 (length k.2.2.1))<|
 .c _ (wqd (k.1,(k.2.1,(v.1,(k.2.2.1,(k.2.2.2,(v.1,((getD k.2.2.1 (toNat v.1) []),(length (getD k.2.2.1 (toNat v.1) []):Int)))))))) (0,v.2)) fun a=>
 .l (.inl ((wrap .i64 (v.1+1)),a)))
 (.l (.inr v.2))
def wqe k v:=iter (fun v=>(wec k v).ev) v
abbrev yq376:Keep:=yk [] [7] (yj [.arr 15]) [(15,.arr 3 yi)]
abbrev yq377{a b c d e g:Type}(k:a×b×c×d)(v:e×g):=((k.1,(k.2.1,((),(k.2.2.1,(k.2.2.2,(v.1,())))))),(v.2,()))
abbrev yq378{a b c d e g h:Type}(t:(a×b×c×d×e×g)×h):=(t.1.1,(t.1.2.1,(t.1.2.2.2.1,t.1.2.2.2.2.1)))
def wxy:LD:=yl (wec) yq372 [(0,yq376)] yq10 yq377 yq378 yq280 (fun _ r=>yx 0 yq376 (((),()),(r,())))
def T_zs(a:Y1)(b:List Y1)(h:Y1)(e:Int):Tr Y1:=
 .g (((0:Int)≤(length a:Int))&&((length a:Int)≤(length a:Int))&&(((8:Nat):Int)*(length a:Int)≤281474976710656))<|
 .c _ (wqe (h,(e,(b,(length b:Int)))) (0,(List.replicate (toNat (length a:Int)) 0))) fun f=>
 .l f
def F_zs c e b a:=(T_zs c e b a).ev
abbrev yq379:RetK:=⟨[.ren 15 0],[.tmp 6],Zah,[Zab],[],[]⟩
def G_zs:FP prog:=fnP cx func169 [] (yj [.agg Zk,.dat y1,.dat yi]) [] [] (yq174 T_zs) yq379 yq27 noZ [(2,wxx),(0,wxy)]
def T_zv(b:Int)(c:Int)(_e:Y1)(a:List Y1):Tr (Int):=
 .g (inR b (length a))<|
 .g (inR c (length (getD a (toNat b) [])))<|
 .l (wrap .i64 ((getD (getD a (toNat b) []) (toNat c) 0)*(2520:Int)))
def F_zv c e b a:=(T_zv c e b a).ev
abbrev yq385{a b c d e g h:Type}{z:Type _}(f:a→b→c→d→z)(x:(a×b×(c×d×e)×g)×h):z:=f x.1.1 x.1.2.1 x.1.2.2.1.1 x.1.2.2.1.2.1
abbrev yq384:RetK:=yr [.tmp 5] Zn
def G_zv:FP prog:=fnP cx func168 [] (yj [.dat yi,.dat yi,.ptr Zk]) [] [] (yq385 T_zv) yq384 yq2
def T_zw(b:Int)(c:Int)(a:Int):Tr (Int):=
 .t (c<b)
 (.t (a<0)
 (.l b)
 (.t (b<a)
 (.l b)
 (.l a)))
 (.l a)
def F_zw b c a:=(T_zw b c a).ev
abbrev yq397{a b c d e g h:Type}{z:Type _}(f:a→b→e→z)(x:(a×(b×c)×d)×(e×g)×h):z:=f x.1.1 x.1.2.1.1 x.2.1.1
abbrev yq396:RetK:=⟨[],[],.nil,[(64,.cells Zn)],[(2,0,64)],[]⟩
abbrev yq398{a:Type}(r:a):=((),((r,()),()))
def G_zw:FP prog:=fnP cx func170 [] (yj [.dat yi,.ptr Zn,.box 64 0]) [(64,.cells Zn)] [.arg 2] (yq397 T_zw) yq396 yq398
def S_zw(k:Int×(Int×(Y1×(Y2×(Int×(Y1×Y1))))))(v:Int×Y1):Tr (Yq⊕Y1):=
 .t (v.1<k.2.1)
 (.g (inR v.1 (length k.2.2.2.2.2.2))<|
 .g ((toNat v.1)<length k.2.2.2.2.2.2)<|
 .t ((getD k.2.2.2.2.2.2 (toNat v.1) 0)<(0:Int))
 (.g (inR v.1 (length v.2))<|
 .g ((toNat v.1)<length v.2)<|
 .l (.inl ((wrap .i64 (v.1+1)),(set v.2 (toNat v.1) k.2.2.2.2.1))))
 (.l (.inl ((wrap .i64 (v.1+1)),v.2))))
 (.l (.inr v.2))
def L_zw k v:=iter (fun v=>(S_zw k v).ev) v
abbrev yq366:Keep:=yk [] [1,2,3,4,5,6,36,37] (yj [.box 1 0,.box 2 0,.dat yi,.box 4 0,.fn 168 (yj [.box 1 0]),.box 6 0,.dat yi,.dat yi]) [Zaa,Zt,Zp,(6,.cells Zn),(25,.arr 3 yi),(1920,.arr 3 yi),Zad]
abbrev yq367:Keep:=yk [] [1,2,3,4,5,6] (yj [.box 1 0,.box 2 0,.dat yi,.box 4 0,.fn 168 (yj [.box 1 0]),.box 6 0]) [Zaa,Zt,Zp,(6,.cells Zn),(25,.arr 3 yi),(1920,.arr 3 yi),Zad]
abbrev yq368{a b c d e g h i j:Type}(k:a×b×c×d×e×g×h)(v:i×j):=(((),((),(k.1,((),(((),()),((),(k.2.1,(v.1,())))))))),((k.2.2.1,(k.2.2.2.1,())),(((),((),((),()))),(((),((),((),()))),((k.2.2.2.2.1,()),(v.2,(k.2.2.2.2.2.1,(k.2.2.2.2.2.2,()))))))))
abbrev yq369{a b c d e g h i j l m n o p q s t u w:Type}(t:(a×b×c×d×e×g×h×i)×(j×l×m)×n×o×(p×q)×s×t×u×w):=(t.1.2.2.1,(t.1.2.2.2.2.2.2.1,(t.2.1.1,(t.2.1.2.1,(t.2.2.2.2.1.1,(t.2.2.2.2.2.2.1,t.2.2.2.2.2.2.2.1))))))
abbrev yq370{a b c d e g h i j l m n o p q:Type}(t:(a×b×c×d×e×g×h×i×j)×l×m×n×o×p×q):=(t.1.2.2.2.2.2.2.2.1,t.2.2.2.2.2.1)
def waki:LD:=yl (S_zw) yq366 [(2,yq367)] yq10 yq368 yq369 yq370 (fun k r=>yx 2 yq367 (((),((),(k.1,((),(((),()),((),())))))),((k.2.2.1,(k.2.2.2.1,())),(((),((),((),()))),(((),((),((),()))),((k.2.2.2.2.1,()),(r,(k.2.2.2.2.2.1,(k.2.2.2.2.2.2,())))))))))
def wdj(k:Int×(Int×(Y1×(Y2×(Int×(Y1×(Y1×Y1)))))))(v:Int×Y1):Tr (Yq⊕Y1):=
 .t (v.1<k.2.1)
 (.g (inR v.1 (length k.2.2.2.2.2.1))<|
 .g ((toNat v.1)<length k.2.2.2.2.2.1)<|
 .g (inR v.1 (length v.2))<|
 .g ((toNat v.1)<length v.2)<|
 .t ((getD v.2 (toNat v.1) 0)<(0:Int))
 (.g (inR v.1 (length k.2.2.1))<|
 .t ((wrap .i64 ((getD k.2.2.1 (toNat v.1) 0)*(2520:Int)))≤(getD k.2.2.2.2.2.1 (toNat v.1) 0))
 (.g (inR v.1 (length v.2))<|
 .g ((toNat v.1)<length v.2)<|
 .l (.inl ((wrap .i64 (v.1+1)),(set v.2 (toNat v.1) k.2.2.2.2.1))))
 (.l (.inl ((wrap .i64 (v.1+1)),v.2))))
 (.l (.inl ((wrap .i64 (v.1+1)),v.2))))
 (.l (.inr v.2))
def wqf k v:=iter (fun v=>(wdj k v).ev) v
abbrev yq380:Keep:=yk [] [1,2,3,4,5,6,55,56,57] (yj [.box 1 0,.box 2 0,.dat yi,.box 4 0,.fn 168 (yj [.box 1 0]),.box 6 0,.arr 3520,.dat yi,.dat yi]) [Zaa,Zt,Zp,(6,.cells Zn),(3520,.arr 3 yi),(25,.arr 3 yi),(1920,.arr 3 yi),Zad]
abbrev yq381{a b c d e g h i j l:Type}(k:a×b×c×d×e×g×h×i)(v:j×l):=(((),((),(k.1,((),(((),()),((),((),(k.2.1,(v.1,()))))))))),((k.2.2.1,(k.2.2.2.1,())),(((),((),((),()))),(((),((),((),()))),((k.2.2.2.2.1,()),(k.2.2.2.2.2.1,(k.2.2.2.2.2.2.1,(v.2,(k.2.2.2.2.2.2.2,())))))))))
abbrev yq382{a b c d e g h i j l m n o p q s t u w a19 a20:Type}(t:(a×b×c×d×e×g×h×i×j)×(l×m×n)×o×p×(q×s)×t×u×w×a19×a20):=(t.1.2.2.1,(t.1.2.2.2.2.2.2.2.1,(t.2.1.1,(t.2.1.2.1,(t.2.2.2.2.1.1,(t.2.2.2.2.2.1,(t.2.2.2.2.2.2.1,t.2.2.2.2.2.2.2.2.1)))))))
abbrev yq383{a b c d e g h i j l m n o p q s t u:Type}(t:(a×b×c×d×e×g×h×i×j×l)×m×n×o×p×q×s×t×u):=(t.1.2.2.2.2.2.2.2.2.1,t.2.2.2.2.2.2.2.1)
def wxz:LD:=yl (wdj) yq380 [(4,yq367)] yq10 yq381 yq382 yq383 (fun k r=>yx 4 yq367 (((),((),(k.1,((),(((),()),((),())))))),((k.2.2.1,(k.2.2.2.1,())),(((),((),((),()))),(((),((),((),()))),((k.2.2.2.2.1,()),(k.2.2.2.2.2.2.1,(r,(k.2.2.2.2.2.2.2,())))))))))
def wab(k:Int×(Bool×(Int×(Int×(Int×(Int×(Y1×(Y2×(Int×(Y1×Y1))))))))))(v:Int×Y1):Tr (Yq⊕Y1):=
 .t (v.1<k.2.2.2.2.2.1)
 (.g (inR v.1 (length k.2.2.2.2.2.2.2.2.2.1))<|
 .g ((toNat v.1)<length k.2.2.2.2.2.2.2.2.2.1)<|
 .g (inR k.2.2.1 (length v.2))<|
 .g ((toNat k.2.2.1)<length v.2)<|
 .g (inR k.2.2.1 (length k.2.2.2.2.2.2.2.2.2.2))<|
 .g ((toNat k.2.2.1)<length k.2.2.2.2.2.2.2.2.2.2)<|
 .t ((getD k.2.2.2.2.2.2.2.2.2.2 (toNat k.2.2.1) 0)==k.2.2.2.2.2.2.2.2.1)
 (.t ((0:Int)≤(getD k.2.2.2.2.2.2.2.2.2.1 (toNat v.1) 0))
 (.c _ (F_zv k.2.2.1 v.1 k.2.2.2.2.2.2.1 k.2.2.2.2.2.2.2.1) fun a=>
 .t (a≤k.2.2.2.2.2.2.2.2.1)
 (.t ((getD v.2 (toNat k.2.2.1) 0)<(0:Int))
 (.g (inR k.2.2.1 (length v.2))<|
 .g ((toNat k.2.2.1)<length v.2)<|
 .l (.inl ((wrap .i64 (v.1+1)),(set v.2 (toNat k.2.2.1) v.1))))
 (.g (inR (getD v.2 (toNat k.2.2.1) 0) (length k.2.2.2.2.2.2.2.2.2.1))<|
 .g ((toNat (getD v.2 (toNat k.2.2.1) 0))<length k.2.2.2.2.2.2.2.2.2.1)<|
 .t ((getD k.2.2.2.2.2.2.2.2.2.1 (toNat v.1) 0)<(getD k.2.2.2.2.2.2.2.2.2.1 (toNat (getD v.2 (toNat k.2.2.1) 0)) 0))
 (.g (inR k.2.2.1 (length v.2))<|
 .g ((toNat k.2.2.1)<length v.2)<|
 .l (.inl ((wrap .i64 (v.1+1)),(set v.2 (toNat k.2.2.1) v.1))))
 (.l (.inl ((wrap .i64 (v.1+1)),v.2)))))
 (.l (.inl ((wrap .i64 (v.1+1)),v.2))))
 (.l (.inl ((wrap .i64 (v.1+1)),v.2))))
 (.l (.inl ((wrap .i64 (v.1+1)),v.2))))
 (.l (.inr v.2))
def wqg k v:=iter (fun v=>(wab k v).ev) v
abbrev yq386:Keep:=yk [] [1,2,3,4,5,6,10,11,84,85,89,90,91] (yj [.box 1 0,.box 2 0,.dat yi,.box 4 0,.fn 168 (yj [.box 1 0]),.box 6 0,.dat .bool,.dat yi,.dat yi,.dat yi,.arr 1920,.dat yi,.dat yi]) [Zaa,Zt,Zp,(6,.cells Zn),(1920,.arr 3 yi),(25,.arr 3 yi),Zad]
abbrev yq387:Keep:=yk [] [1,2,3,4,5,6,10,11,84,85] (yj [.box 1 0,.box 2 0,.dat yi,.box 4 0,.fn 168 (yj [.box 1 0]),.box 6 0,.dat .bool,.dat yi,.dat yi,.dat yi]) [Zaa,Zt,Zp,(6,.cells Zn),(25,.arr 3 yi),(1920,.arr 3 yi),Zad]
abbrev yq388{a b c d e g h i j l m n o:Type}(k:a×b×c×d×e×g×h×i×j×l×m)(v:n×o):=(((),((),(k.1,((),(((),()),((),(k.2.1,(k.2.2.1,(k.2.2.2.1,(k.2.2.2.2.1,((),(k.2.2.2.2.2.1,(v.1,()))))))))))))),((k.2.2.2.2.2.2.1,(k.2.2.2.2.2.2.2.1,())),(((),((),((),()))),(((),((),((),()))),((k.2.2.2.2.2.2.2.2.1,()),(k.2.2.2.2.2.2.2.2.2.1,(k.2.2.2.2.2.2.2.2.2.2,(v.2,()))))))))
abbrev yq389{a b c d e g h i j l m n o p q s t u w a19 a20 a21 a22:Type}(t:(a×b×c×d×e×g×h×i×j×l×m×n×o)×(p×q×s)×t×u×(w×a19)×a20×a21×a22):=(t.1.2.2.1,(t.1.2.2.2.2.2.2.1,(t.1.2.2.2.2.2.2.2.1,(t.1.2.2.2.2.2.2.2.2.1,(t.1.2.2.2.2.2.2.2.2.2.1,(t.1.2.2.2.2.2.2.2.2.2.2.2.1,(t.2.1.1,(t.2.1.2.1,(t.2.2.2.2.1.1,(t.2.2.2.2.2.1,t.2.2.2.2.2.2.1))))))))))
abbrev yq390{a b c d e g h i j l m n o p q s t u w a19 a20 a21:Type}(t:(a×b×c×d×e×g×h×i×j×l×m×n×o×p)×q×s×t×u×w×a19×a20×a21):=(t.1.2.2.2.2.2.2.2.2.2.2.2.2.1,t.2.2.2.2.2.2.2.1)
def wya:LD:=yl (wab) yq386 [(8,yq387)] yq10 yq388 yq389 yq390 (fun k r=>yx 8 yq387 (((),((),(k.1,((),(((),()),((),(k.2.1,(k.2.2.1,(k.2.2.2.1,(k.2.2.2.2.1,())))))))))),((k.2.2.2.2.2.2.1,(k.2.2.2.2.2.2.2.1,())),(((),((),((),()))),(((),((),((),()))),((k.2.2.2.2.2.2.2.2.1,()),(k.2.2.2.2.2.2.2.2.2.2,(k.2.2.2.2.2.2.2.2.2.1,(r,())))))))))
def wdk(k:Int×(Int×(Y1×(Y2×(Int×(Y1×Y1))))))(v:Bool×Yq):Tr ((Bool×Yq)⊕(Bool×Y1)):=
 .t (v.2.1<k.2.1)
 (.c _ (wqg (k.1,(v.1,(v.2.1,(k.2.1,(v.2.1,((length k.2.2.2.2.2.2:Int),(k.2.2.1,(k.2.2.2.1,(k.2.2.2.2.1,(k.2.2.2.2.2.2,k.2.2.2.2.2.1)))))))))) (0,v.2.2)) fun a=>
 .t v.1
 (.l (.inl (true,((wrap .i64 (v.2.1+1)),a))))
 (.g (inR v.2.1 (length a))<|
 .g ((toNat v.2.1)<length a)<|
 .l (.inl (((getD a (toNat v.2.1) 0)<(0:Int)),((wrap .i64 (v.2.1+1)),a)))))
 (.l (.inr (v.1,v.2.2)))
def wqh k v:=iter (fun v=>(wdk k v).ev) v
abbrev yq391:Keep:=yk [] [1,2,3,4,5,6,10,84,85] (yj [.box 1 0,.box 2 0,.dat yi,.box 4 0,.fn 168 (yj [.box 1 0]),.box 6 0,.dat .bool,.dat yi,.dat yi]) [Zaa,Zt,Zp,(6,.cells Zn),(25,.arr 3 yi),(1920,.arr 3 yi),Zad]
abbrev yq392:Keep:=yk [] [1,2,3,4,5,6,10] (yj [.box 1 0,.box 2 0,.dat yi,.box 4 0,.fn 168 (yj [.box 1 0]),.box 6 0,.dat .bool]) [Zaa,Zt,Zp,(6,.cells Zn),(25,.arr 3 yi),(1920,.arr 3 yi),Zad]
abbrev yq393{a b c d e g h i j l:Type}(k:a×b×c×d×e×g×h)(v:i×j×l):=(((),((),(k.1,((),(((),()),((),(v.1,(k.2.1,(v.2.1,()))))))))),((k.2.2.1,(k.2.2.2.1,())),(((),((),((),()))),(((),((),((),()))),((k.2.2.2.2.1,()),(k.2.2.2.2.2.1,(k.2.2.2.2.2.2,(v.2.2,()))))))))
abbrev yq394{a b c d e g h i j l m n o p q s t u w:Type}(t:(a×b×c×d×e×g×h×i×j)×(l×m×n)×o×p×(q×s)×t×u×w):=(t.1.2.2.1,(t.1.2.2.2.2.2.2.2.1,(t.2.1.1,(t.2.1.2.1,(t.2.2.2.2.1.1,(t.2.2.2.2.2.1,t.2.2.2.2.2.2.1))))))
abbrev yq395{a b c d e g h i j l m n o p q s t u:Type}(t:(a×b×c×d×e×g×h×i×j×l)×m×n×o×p×q×s×t×u):=(t.1.2.2.2.2.2.2.1,(t.1.2.2.2.2.2.2.2.2.1,t.2.2.2.2.2.2.2.1))
def wyb:LD:=yl (wdk) yq391 [(6,yq392)] yq10 yq393 yq394 yq395 (fun k r=>yx 6 yq392 (((),((),(k.1,((),(((),()),((),(r.1,()))))))),((k.2.2.1,(k.2.2.2.1,())),(((),((),((),()))),(((),((),((),()))),((k.2.2.2.2.1,()),(k.2.2.2.2.2.1,(k.2.2.2.2.2.2,(r.2,())))))))))
def waf(k:Int×(Int×(Int×(Int×(Int×(Y1×(Y2×(Int×(Y1×(Y1×(Y1×Y1)))))))))))(v:Int×Yr):Tr ((Int×Yr)⊕Yr):=
 .t (v.2.1<k.2.2.2.2.1)
 (.g (inR v.2.1 (length k.2.2.2.2.2.2.2.2.2.2.2))<|
 .g ((toNat v.2.1)<length k.2.2.2.2.2.2.2.2.2.2.2)<|
 .t ((0:Int)≤(getD k.2.2.2.2.2.2.2.2.2.2.2 (toNat v.2.1) 0))
 (.l (.inl (v.1,((wrap .i64 (v.2.1+1)),v.2.2))))
 (.c _ (F_zv v.2.1 k.2.1 k.2.2.2.2.2.1 k.2.2.2.2.2.2.1) fun b=>
 .c _ (F_zw b k.2.2.2.2.2.2.2.1 v.2.2) fun a=>
 .c _ (F_zv v.2.1 k.2.1 k.2.2.2.2.2.1 k.2.2.2.2.2.2.1) fun e=>
 .t (e≤k.2.2.2.2.2.2.2.1)
 (.l (.inl ((wrap .i64 (v.1+1)),((wrap .i64 (v.2.1+1)),a))))
 (.l (.inl (v.1,((wrap .i64 (v.2.1+1)),a))))))
 (.l (.inr (v.1,v.2.2)))
def wjl k v:=iter (fun v=>(waf k v).ev) v
abbrev yq399:Keep:=yk [] [1,2,3,4,5,6,15,16,17,18,19,159,160,163,164] (yj [.box 1 0,.box 2 0,.dat yi,.box 4 0,.fn 168 (yj [.box 1 0]),.box 6 0,.box 15 0,.fn 170 (yj [.box 6 0,.box 15 0]),.arr 9984,.dat yi,.dat yi,.dat yi,.dat yi,.dat yi,.dat yi]) [Zaa,Zt,Zp,(6,.cells Zn),(15,.cells Zn),(9984,.arr 3 yi),(25,.arr 3 yi),(1920,.arr 3 yi),Zad]
abbrev yq400:Keep:=yk [] [1,2,3,4,5,6,15,16,17,18,19,159,160] (yj [.box 1 0,.box 2 0,.dat yi,.box 4 0,.fn 168 (yj [.box 1 0]),.box 6 0,.box 15 0,.fn 170 (yj [.box 6 0,.box 15 0]),.arr 9984,.dat yi,.dat yi,.dat yi,.dat yi]) [Zaa,Zt,Zp,(6,.cells Zn),(15,.cells Zn),(9984,.arr 3 yi),(25,.arr 3 yi),(1920,.arr 3 yi),Zad]
abbrev yq401{a b c d e g h i j l m n o p q:Type}(k:a×b×c×d×e×g×h×i×j×l×m×n)(v:o×p×q):=(((),((),(k.1,((),(((),()),((),((),(((),((),())),((),(k.2.1,(v.1,(k.2.2.1,(k.2.2.2.1,(k.2.2.2.2.1,(v.2.1,()))))))))))))))),((k.2.2.2.2.2.1,(k.2.2.2.2.2.2.1,())),(((),((),((),()))),(((),((),((),()))),((k.2.2.2.2.2.2.2.1,()),((v.2.2,()),(k.2.2.2.2.2.2.2.2.1,(k.2.2.2.2.2.2.2.2.2.1,(k.2.2.2.2.2.2.2.2.2.2.1,(k.2.2.2.2.2.2.2.2.2.2.2,()))))))))))
abbrev yq402{a b c d e g h i j l m n o p q s t u w a19 a20 a21 a22 a23 a24 a25 a26 a27:Type}(t:(a×b×c×d×e×g×h×i×j×l×m×n×o×p×q)×(s×t×u)×w×a19×(a20×a21)×a22×a23×a24×a25×a26×a27):=(t.1.2.2.1,(t.1.2.2.2.2.2.2.2.2.2.1,(t.1.2.2.2.2.2.2.2.2.2.2.2.1,(t.1.2.2.2.2.2.2.2.2.2.2.2.2.1,(t.1.2.2.2.2.2.2.2.2.2.2.2.2.2.1,(t.2.1.1,(t.2.1.2.1,(t.2.2.2.2.1.1,(t.2.2.2.2.2.2.1,(t.2.2.2.2.2.2.2.1,(t.2.2.2.2.2.2.2.2.1,t.2.2.2.2.2.2.2.2.2.1)))))))))))
abbrev yq403{a b c d e g h i j l m n o p q s t u w a19 a20 a21 a22:Type}(t:(a×b×c×d×e×g×h×i×j×l×m×n×o×p×q×s)×t×u×w×a19×(a20×a21)×a22):=(t.1.2.2.2.2.2.2.2.2.2.2.1,(t.1.2.2.2.2.2.2.2.2.2.2.2.2.2.2.1,t.2.2.2.2.2.1.1))
def wpb:LD:=yl (waf) yq399 [(12,yq400)] yq10 yq401 yq402 yq403 (fun k r=>yx 12 yq400 (((),((),(k.1,((),(((),()),((),((),(((),((),())),((),(k.2.1,(r.1,(k.2.2.1,(k.2.2.2.1,()))))))))))))),((k.2.2.2.2.2.1,(k.2.2.2.2.2.2.1,())),(((),((),((),()))),(((),((),((),()))),((k.2.2.2.2.2.2.2.1,()),((r.2,()),(k.2.2.2.2.2.2.2.2.1,(k.2.2.2.2.2.2.2.2.2.1,(k.2.2.2.2.2.2.2.2.2.2.1,(k.2.2.2.2.2.2.2.2.2.2.2,())))))))))))
def wag(k:Int×(Int×(Y1×(Y2×(Int×(Y1×(Y1×(Y1×Y1))))))))(v:Int×Int):Tr (Yr⊕(Int)):=
 .t (v.1<k.2.1)
 (.c _ (wjl (k.1,(v.1,(k.2.1,(v.1,(k.1,(k.2.2.1,(k.2.2.2.1,(k.2.2.2.2.1,(k.2.2.2.2.2.1,(k.2.2.2.2.2.2.1,(k.2.2.2.2.2.2.2.1,k.2.2.2.2.2.2.2.2))))))))))) (0,(0,v.2))) fun a=>
 .t (0<a.1)
 (.g (inR v.1 (length k.2.2.2.2.2.2.2.1))<|
 .g ((toNat v.1)<length k.2.2.2.2.2.2.2.1)<|
 .t ((getD k.2.2.2.2.2.2.2.1 (toNat v.1) 0)<(0:Int))
 (.g (inR v.1 (length k.2.2.1))<|
 .g (inR v.1 (length k.2.2.2.2.2.1))<|
 .g ((toNat v.1)<length k.2.2.2.2.2.1)<|
 .g (!decide (a.1=0))<|
 .c _ (F_zw (wrap .i64 (k.2.2.2.2.1+(wrap .i64 (Int.tdiv (wrap .i64 ((wrap .i64 ((wrap .i64 ((wrap .i64 ((getD k.2.2.1 (toNat v.1) 0)*(2520:Int))) -(getD k.2.2.2.2.2.1 (toNat v.1) 0)))+a.1)) -1)) a.1)))) k.2.2.2.2.1 a.2) fun b=>
 .l (.inl ((wrap .i64 (v.1+1)),b)))
 (.l (.inl ((wrap .i64 (v.1+1)),a.2))))
 (.l (.inl ((wrap .i64 (v.1+1)),a.2))))
 (.l (.inr v.2))
def wjm k v:=iter (fun v=>(wag k v).ev) v
abbrev yq404:Keep:=yk [] [1,2,3,4,5,6,15,16,17,159,160] (yj [.box 1 0,.box 2 0,.dat yi,.box 4 0,.fn 168 (yj [.box 1 0]),.box 6 0,.box 15 0,.fn 170 (yj [.box 6 0,.box 15 0]),.arr 9984,.dat yi,.dat yi]) [Zaa,Zt,Zp,(6,.cells Zn),(15,.cells Zn),(9984,.arr 3 yi),(25,.arr 3 yi),(1920,.arr 3 yi),Zad]
abbrev yq405:Keep:=yk [] [1,2,3,4,5,6,15] (yj [.box 1 0,.box 2 0,.dat yi,.box 4 0,.fn 168 (yj [.box 1 0]),.box 6 0,.box 15 0]) [Zaa,Zt,Zp,(6,.cells Zn),(15,.cells Zn),(25,.arr 3 yi),(1920,.arr 3 yi),Zad]
abbrev yq406{a b c d e g h i j l m:Type}(k:a×b×c×d×e×g×h×i×j)(v:l×m):=(((),((),(k.1,((),(((),()),((),((),(((),((),())),((),(k.2.1,(v.1,()))))))))))),((k.2.2.1,(k.2.2.2.1,())),(((),((),((),()))),(((),((),((),()))),((k.2.2.2.2.1,()),((v.2,()),(k.2.2.2.2.2.1,(k.2.2.2.2.2.2.1,(k.2.2.2.2.2.2.2.1,(k.2.2.2.2.2.2.2.2,()))))))))))
abbrev yq407{a b c d e g h i j l m n o p q s t u w a19 a20 a21 a22 a23:Type}(t:(a×b×c×d×e×g×h×i×j×l×m)×(n×o×p)×q×s×(t×u)×w×a19×a20×a21×a22×a23):=(t.1.2.2.1,(t.1.2.2.2.2.2.2.2.2.2.1,(t.2.1.1,(t.2.1.2.1,(t.2.2.2.2.1.1,(t.2.2.2.2.2.2.1,(t.2.2.2.2.2.2.2.1,(t.2.2.2.2.2.2.2.2.1,t.2.2.2.2.2.2.2.2.2.1))))))))
abbrev yq408{a b c d e g h i j l m n o p q s t u w:Type}(t:(a×b×c×d×e×g×h×i×j×l×m×n)×o×p×q×s×(t×u)×w):=(t.1.2.2.2.2.2.2.2.2.2.2.1,t.2.2.2.2.2.1.1)
def wpc:LD:=yl (wag) yq404 [(10,yq405)] yq10 yq406 yq407 yq408 (fun k r=>yx 10 yq405 (((),((),(k.1,((),(((),()),((),((),()))))))),((k.2.2.1,(k.2.2.2.1,())),(((),((),((),()))),(((),((),((),()))),((k.2.2.2.2.1,()),((r,()),(k.2.2.2.2.2.2.1,(k.2.2.2.2.2.2.2.1,(k.2.2.2.2.2.2.2.2,()))))))))))
def wcr(k:Int×(Y1×Y2))(v:Int×(Y1×(Y1×Y1))):Tr ((Int×(Y1×(Y1×Y1)))⊕(Y1×(Y1×Y1))):=
 .c _ (L_zw (k.1,(k.1,(k.2.1,(k.2.2,(v.1,(v.2.2.1,v.2.2.2)))))) (0,v.2.1)) fun a=>
 .c _ (F_zs k.2.1 k.2.2 a 2520) fun f=>
 .c _ (wqf (k.1,((length f:Int),(k.2.1,(k.2.2,(v.1,(f,(a,v.2.2.2))))))) (0,v.2.2.1)) fun e=>
 .c _ (wqh (k.1,(k.1,(k.2.1,(k.2.2,(v.1,(a,e)))))) (false,(0,v.2.2.2))) fun b=>
 .t (!b.1)
 (.l (.inr (a,(e,b.2))))
 (.c _ (F_zs k.2.1 k.2.2 a 2520) fun h=>
 .c _ (wjm (k.1,((length k.2.1:Int),(k.2.1,(k.2.2,(v.1,(h,(a,(e,b.2)))))))) (0,(-1))) fun g=>
 .l (.inl (g,(a,(e,b.2)))))
def wqi k v:=iter (fun v=>(wcr k v).ev) v
abbrev yq409:Keep:=yk [] [2] (yj [.box 2 0]) [(2,.cells (yj [.arr 25,.arr 1920,.arr 2112])),(25,.arr 3 yi),(1920,.arr 3 yi),Zad]
abbrev yq410{a b c d e g h:Type}(k:a×b×c)(v:d×e×g×h):=(((),((),(k.1,((),(((),()),((),())))))),((k.2.1,(k.2.2,())),(((),((),((),()))),(((),((),((),()))),((v.1,()),(v.2.1,(v.2.2.1,(v.2.2.2,()))))))))
abbrev yq411{a b c d e g h i:Type}(t:(a×b×c×d)×(e×g×h)×i):=(t.1.2.2.1,(t.2.1.1,t.2.1.2.1))
abbrev yq412{a b c d e g h i j l:Type}(t:a×b×c×d×(e×g)×h×i×j×l):=(t.2.2.2.2.1.1,(t.2.2.2.2.2.1,(t.2.2.2.2.2.2.1,t.2.2.2.2.2.2.2.1)))
def wyc:LD:=yl (wcr) yq367 [] yq409 yq410 yq411 yq412 (fun _ r=>yz yq409 (((),()),(((),((),((),()))),(r.1,(r.2.1,(r.2.2,()))))))
def T_zu(e:Y1)(a:List Y1):Tr (Y1×(Y1×Y1)):=
 .g (((0:Int)≤(length a:Int))&&((length a:Int)≤(length a:Int))&&(((8:Nat):Int)*(length a:Int)≤281474976710656))<|
 .c _ (wpa ([(-1)]:Y1) (length e:Int)) fun h=>
 .c _ (wpa ([(-1)]:Y1) (length a:Int)) fun f=>
 .c _ (wqi ((length a:Int),(e,a)) (0,((List.replicate (toNat (length a:Int)) 0),(h,f)))) fun b=>
 .l (b.1,(b.2.1,b.2.2))
def F_zu a b:=(T_zu a b).ev
abbrev yq413:RetK:=⟨[.ren 25 1,.ren 1920 3,.ren 2112 4],[.cell 2 124],(yj [.agg (yj [.arr 1,.arr 3,.arr 4])]),[(1,.arr 3 yi),(3,.arr 3 yi),(4,.arr 3 yi)],[],[]⟩
abbrev yq414{a b c:Type}(r:a×b×c):=((((),((),((),()))),()),(r.1,(r.2.1,(r.2.2,()))))
def G_zu:FP prog:=fnP cx func94 [wakh,G_zs,G_zv,G_zw] (yj [.agg Zk]) [] [] (yq58 T_zu) yq413 yq414 (zOf [(52,[(0,[5000006])])]) [(2,waki),(4,wxz),(8,wya),(6,wyb),(12,wpb),(10,wpc),(0,wyc)]
def wah(k:Int×(Int×((Yac)×Int)))(v:Int×Y1):Tr (Yq⊕Y1):=
 .t (k.1<v.1)
 (.g (inR v.1 (length v.2))<|
 .g ((toNat v.1)<length v.2)<|
 .g (inR (wrap .i64 (v.1-1)) (length v.2))<|
 .g ((toNat (wrap .i64 (v.1-1)))<length v.2)<|
 .c _ (k.2.2.1 ((getD v.2 (toNat v.1) 0),((getD v.2 (toNat (wrap .i64 (v.1-1))) 0),()))) fun a=>
 .t (a<0)
 (.g (inR (wrap .i64 (v.1-1)) (length v.2))<|
 .g ((toNat (wrap .i64 (v.1-1)))<length v.2)<|
 .g (inR v.1 (length v.2))<|
 .g ((toNat v.1)<length v.2)<|
 .g (inR v.1 (length v.2))<|
 .g ((toNat v.1)<length v.2)<|
 .g (inR (wrap .i64 (v.1-1)) (length (set v.2 (toNat v.1) (getD v.2 (toNat (wrap .i64 (v.1-1))) 0))))<|
 .g ((toNat (wrap .i64 (v.1-1)))<length (set v.2 (toNat v.1) (getD v.2 (toNat (wrap .i64 (v.1-1))) 0)))<|
 .l (.inl ((wrap .i64 (v.1-1)),(set (set v.2 (toNat v.1) (getD v.2 (toNat (wrap .i64 (v.1-1))) 0)) (toNat (wrap .i64 (v.1-1))) (getD v.2 (toNat v.1) 0)))))
 (.l (.inr v.2)))
 (.l (.inr v.2))
def wcs k v:=iter (fun v=>(wah k v).ev) v
abbrev yq420:Keep:=yk [] [0,1,2,3,8,9] (yj [.arr 64,.dat yi,.dat yi,.clo [yi,yi] yi,.dat yi,.dat yi]) [Zz]
abbrev yq421:Keep:=yk [] [0,1,2,3,8] (yj [.arr 64,.dat yi,.dat yi,.clo [yi,yi] yi,.dat yi]) [Zz]
def wpd:LD:=yl (wah) yq420 [(2,yq421)] yq10 yq278 yq279 yq280 (fun k r=>yx 2 yq421 (((),(k.1,(k.2.1,(k.2.2.1,(k.2.2.2,()))))),(r,())))
def wct(k:Int×(Int×(Yac)))(v:Int×Y1):Tr (Yq⊕Y1):=
 .t (v.1<k.2.1)
 (.c _ (wcs (k.1,(k.2.1,(k.2.2,v.1))) (v.1,v.2)) fun a=>
 .l (.inl ((wrap .i64 (v.1+1)),a)))
 (.l (.inr v.2))
def wjn k v:=iter (fun v=>(wct k v).ev) v
abbrev yq422:Keep:=yk [] [0] (yj [.arr 64]) [Zz]
def wpe:LD:=yl (wct) yq421 [(0,yq422)] yq10 yq282 yq283 yq284 (fun _ r=>yx 0 yq422 (((),()),(r,())))
def wyd(a:Int)(f:Int)(b:Yac)(g:Y1):Tr Y1:=
 .c _ (wjn (a,(f,b)) ((wrap .i64 (a+1)),g)) fun e=>
 .l e
def wpf e b a c:=(wyd e b a c).ev
abbrev yq423:RetK:=⟨[],[],.nil,[Zz],[(0,0,64)],[]⟩
def wakj:FP prog:=fnP cx func241 [] (yj [.arr 64,.dat yi,.dat yi,.clo [yi,yi] yi]) [Zz] [.arg 0] (yq286 wyd) yq423 yq287 noZ [(2,wpd),(0,wpe)]
def wer(k:Int×((Yac)×Int))(v:Int×Yq):Tr ((Int×Yq)⊕Yq):=
 .t (v.2.1≤k.1)
 (.c _ (wpf v.1 v.2.1 k.2.1 v.2.2) fun a=>
 .l (.inl (v.2.1,((wrap .i64 (v.2.1+k.2.2)),a))))
 (.l (.inr (v.1,v.2.2)))
def wes k v:=iter (fun v=>(wer k v).ev) v
abbrev yq424:Keep:=yk [] [0,1,2,6,7,8] (yj [.arr 64,.dat yi,.clo [yi,yi] yi,.dat yi,.dat yi,.dat yi]) [Zz]
abbrev yq425:Keep:=yk [] [0,1,2,6,7] (yj [.arr 64,.dat yi,.clo [yi,yi] yi,.dat yi,.dat yi]) [Zz]
abbrev yq426{a b c d e g:Type}(k:a×b×c)(v:d×e×g):=(((),(k.1,(k.2.1,(k.2.2,(v.1,(v.2.1,())))))),(v.2.2,()))
abbrev yq427{a b c d e g h i j:Type}(t:(a×b×c×d×e×g×h)×i×j):=(t.1.2.2.2.2.1,(t.1.2.2.2.2.2.1,t.2.1))
def wpg:LD:=yl (wer) yq424 [(0,yq425)] yq10 yq426 yq283 yq427 (fun k r=>yx 0 yq425 (((),(k.1,(k.2.1,(k.2.2,(r.1,()))))),(r.2,())))
def wjo(k:Int×((Yac)×(Int×(Int×Yq))))(_v:Unit):Tr ((Unit)⊕(Unit)):=
 .t (k.2.2.2.2.1≤k.1)
 (.f)
 (.l (.inr ()))
def wye k v:=iter (fun v=>(wjo k v).ev) v
abbrev yq428{a b c d e g h:Type}(k:a×b×c×d×e×g)(_v:h):=(((),(k.1,(k.2.1,(k.2.2.1,(k.2.2.2.1,(k.2.2.2.2.1,())))))),(k.2.2.2.2.2,()))
abbrev yq429{a b c d e g h i j:Type}(t:(a×b×c×d×e×g×h)×i×j):=(t.1.2.1,(t.1.2.2.1,(t.1.2.2.2.1,(t.1.2.2.2.2.1,(t.1.2.2.2.2.2.1,t.2.1)))))
abbrev yq199{a:Type}(_t:a):=()
def wph:LD:=yl (wjo) yq424 [(4,yq425)] yq10 yq428 yq429 yq199 (fun k _=>yx 4 yq425 (((),(k.1,(k.2.1,(k.2.2.1,(k.2.2.2.1,()))))),(k.2.2.2.2.2,())))
def wet(k:Int×((Yac)×Y1))(v:Int):Tr ((Int)⊕(Unit)):=
 .t (v<k.1)
 (.c _ (wye (k.1,(k.2.1,(v,(0,((wrap .i64 ((2:Int)*v)),k.2.2))))) ()) fun _=>
 .t ((wrap .i64 ((0:Int)+v))<k.1)
 (.f)
 (.l (.inl (wrap .i64 (v*(2:Int))))))
 (.l (.inr ()))
def weu k v:=iter (fun v=>(wet k v).ev) v
abbrev yq430:Keep:=yk [] [0,1,2,6] (yj [.arr 64,.dat yi,.clo [yi,yi] yi,.dat yi]) [Zz]
abbrev yq431{a b c d:Type}(k:a×b×c)(v:d):=(((),(k.1,(k.2.1,(v,())))),(k.2.2,()))
abbrev yq432{a b c d e g:Type}(t:(a×b×c×d)×e×g):=(t.1.2.1,(t.1.2.2.1,t.2.1))
def wpi:LD:=yl (wet) yq430 [(2,yq422)] yq10 yq431 yq432 yq69 (fun k _=>yx 2 yq422 (((),()),(k.2.2,())))
def wyg(a:Int)(b:Yac)(g:Y1):Tr Y1:=
 .c _ (wes (a,(b,20)) (0,(20,g))) fun f=>
 .c _ (wpf f.1 a b f.2) fun e=>
 .c _ (weu (a,(b,e)) 20) fun _=>
 .l e
def wadw c a b:=(wyg c a b).ev
abbrev yq433{a b c d e g:Type}{z:Type _}(f:b→c→e→z)(x:(a×b×c×d)×e×g):z:=f x.1.2.1 x.1.2.2.1 x.2.1
def wakk:FP prog:=fnP cx func171 [wakj] (yj [.arr 64,.dat yi,.clo [yi,yi] yi]) [Zz] [.arg 0] (yq433 wyg) yq423 yq287 noZ [(0,wpg),(4,wph),(2,wpi)]
def wyh(e:Yac)(a:Y1):Tr Y1:=
 .c _ (wadw (length a:Int) e a) fun b=>
 .l b
def wyi b a:=(wyh b a).ev
def wadx:FP prog:=fnP cx func95 [wakk] (yj [.arr 64,.clo [yi,yi] yi]) [Zz] [.arg 0] (yq319 wyh) yq423 yq287
def wyj(e:Int)(b:Int)(_h:Y1)(a:Y1)(_i:Y1):Tr (Int):=
 .g (inR e (length a))<|
 .g (inR b (length a))<|
 .c _ (F_za (getD a (toNat e) 0) (getD a (toNat b) 0)) fun f=>
 .l f
def wpj f c e a b:=(wyj f c e a b).ev
abbrev yq434{a b c d e g h i:Type}{z:Type _}(f:a→b→c→d→e→z)(x:(a×b×(c×d×e×g)×h)×i):z:=f x.1.1 x.1.2.1 x.1.2.2.1.1 x.1.2.2.1.2.1 x.1.2.2.1.2.2.1
def wakl:FP prog:=fnP cx func96 [G_za] (yj [.dat yi,.dat yi,.ptr (yj [.dat y1,.dat y1,.dat y1])]) [] [] (yq434 wyj) yq384 yq2
def wcu(k:Int×(Int×(Y2×(Int×(Y1×(Y1×Y1))))))(v:Int):Tr ((Int)⊕((Unit)⊕(Unit))):=
 .t (v<k.2.2.2.1)
 (.g (inR v (length k.2.2.1))<|
 .g (inR v (length k.2.2.2.2.1))<|
 .g (inR k.1 (length (getD k.2.2.1 (toNat v) [])))<|
 .t ((wrap .i64 ((getD (getD k.2.2.1 (toNat v) []) (toNat k.1) 0)*(2520:Int)))<(getD k.2.2.2.2.1 (toNat v) 0))
 (.g (inR v (length k.2.2.2.2.1))<|
 .g (inR k.2.1 (length (getD k.2.2.1 (toNat v) [])))<|
 .t ((wrap .i64 ((getD (getD k.2.2.1 (toNat v) []) (toNat k.2.1) 0)*(2520:Int)))<(getD k.2.2.2.2.1 (toNat v) 0))
 (.l (.inr (.inr ())))
 (.l (.inl (wrap .i64 (v+1)))))
 (.l (.inl (wrap .i64 (v+1)))))
 (.l (.inr (.inl ())))
def wqj k v:=iter (fun v=>(wcu k v).ev) v
abbrev yq435:Keep:=yk [] [2,3,5,12,13,14] (yj [.dat yi,.dat yi,.box 5 0,.dat y2,.dat yi,.dat yi]) [(5,.cells (yj [.dat y1,.dat y1,.dat y1]))]
abbrev yq436:Keep:=yh [8] Zag
abbrev yq437{a b c d e g h i:Type}(k:a×b×c×d×e×g×h)(v:i):=((k.1,(k.2.1,((),(k.2.2.1,(k.2.2.2.1,(v,())))))),((k.2.2.2.2.1,(k.2.2.2.2.2.1,(k.2.2.2.2.2.2,()))),()))
abbrev yq438{a b c d e g h i j l m:Type}(t:(a×b×c×d×e×g)×(h×i×j×l)×m):=(t.1.1,(t.1.2.1,(t.1.2.2.2.1,(t.1.2.2.2.2.1,(t.2.1.1,(t.2.1.2.1,t.2.1.2.2.1))))))
abbrev yq439{a b c d e g h i:Type}(t:(a×b×c×d×e×g×h)×i):=t.1.2.2.2.2.2.1
def wyk:LD:=yl (wcu) yq435 [(0,yq10)] yq436 yq437 yq438 yq439 (fun _ r=>.s _ _ r (fun _=>yx 0 yq10 ((),())) (fun _=>yz yq436 ((true,()),())))
def T_zt(_j:Y1)(a:List Y1)(h:Y1)(b:Y1)(f:Y1)(g:Int)(i:Int):Tr (Bool):=
 .c _ (wqj (g,(i,(a,((length a:Int),(h,(b,f)))))) 0) fun e=>
 .s _ _ e
 (fun _=>.l false)
 (fun _=>.l true)
def F_zt h c f a b e g:=(T_zt h c f a b e g).ev
abbrev yq441{a b c d e g h i j l m:Type}{z:Type _}(f:a→b→d→e→g→i→j→z)(x:((a×b×c)×(d×e×g×h)×i×j×l)×m):z:=f x.1.1.1 x.1.1.2.1 x.1.2.1.1 x.1.2.1.2.1 x.1.2.1.2.2.1 x.1.2.2.1 x.1.2.2.2.1
abbrev yq440:RetK:=yr [.tmp 8] Zag
def G_zt:FP prog:=fnP cx func100 [] (yj [.agg Zk,.agg (yj [.dat y1,.dat y1,.dat y1]),.dat yi,.dat yi]) [] [] (yq441 T_zt) yq440 yq2 noZ [(0,wyk)]
def wyl(j:Int)(e:Y1)(g:List Y1)(a:Y1)(b:Y1)(f:Y1)(h:Int):Tr (Bool):=
 .c _ (F_zt e g a b f h j) fun i=>
 .l i
def wpk h c f a b e g:=(wyl h c f a b e g).ev
abbrev yq443{a b c d e g h i j l m n:Type}{z:Type _}(f:a→b→c→e→g→h→j→z)(x:(a×(b×c×d)×(e×g×h×i)×(j×l)×m)×n):z:=f x.1.1 x.1.2.1.1 x.1.2.1.2.1 x.1.2.2.1.1 x.1.2.2.1.2.1 x.1.2.2.1.2.2.1 x.1.2.2.2.1.1
abbrev yq442:RetK:=yr [.tmp 5] Zag
def wakm:FP prog:=fnP cx func99 [G_zt] (yj [.dat yi,.ptr Zk,.ptr (yj [.dat y1,.dat y1,.dat y1]),.ptr Zn]) [] [] (yq443 wyl) yq442 yq2
def T_zb(a:Int)(b:Int):Tr (Bool):=
 .c _ (wwj a) fun e=>
 .t e
 (.c _ (wwj b) fun f=>
 .t (!f)
 (.l true)
 (.l (a<b)))
 (.l (a<b))
def F_zb a b:=(T_zb a b).ev
def G_zb:FP prog:=fnP cx func249 [G_zd] (yj [.dat yi,.dat yi]) [] [] (yq41 T_zb) yq112 yq2
def wai(k:Int×Yr)(v:Int×Y1):Tr (Yq⊕Y1):=
 .t (k.1<v.1)
 (.g (inR v.1 (length v.2))<|
 .g ((toNat v.1)<length v.2)<|
 .g (inR (wrap .i64 (v.1-1)) (length v.2))<|
 .g ((toNat (wrap .i64 (v.1-1)))<length v.2)<|
 .c _ (F_zb (getD v.2 (toNat v.1) 0) (getD v.2 (toNat (wrap .i64 (v.1-1))) 0)) fun a=>
 .t a
 (.g (inR (wrap .i64 (v.1-1)) (length v.2))<|
 .g ((toNat (wrap .i64 (v.1-1)))<length v.2)<|
 .g (inR v.1 (length v.2))<|
 .g ((toNat v.1)<length v.2)<|
 .g (inR v.1 (length v.2))<|
 .g ((toNat v.1)<length v.2)<|
 .g (inR (wrap .i64 (v.1-1)) (length (set v.2 (toNat v.1) (getD v.2 (toNat (wrap .i64 (v.1-1))) 0))))<|
 .g ((toNat (wrap .i64 (v.1-1)))<length (set v.2 (toNat v.1) (getD v.2 (toNat (wrap .i64 (v.1-1))) 0)))<|
 .l (.inl ((wrap .i64 (v.1-1)),(set (set v.2 (toNat v.1) (getD v.2 (toNat (wrap .i64 (v.1-1))) 0)) (toNat (wrap .i64 (v.1-1))) (getD v.2 (toNat v.1) 0)))))
 (.l (.inr v.2)))
 (.l (.inr v.2))
def wcv k v:=iter (fun v=>(wai k v).ev) v
abbrev yq448:Keep:=yk [] [0,1,2,6,7] (yj [.arr 64,.dat yi,.dat yi,.dat yi,.dat yi]) [Zz]
abbrev yq449:Keep:=yk [] [0,1,2,6] (yj [.arr 64,.dat yi,.dat yi,.dat yi]) [Zz]
def wpm:LD:=yl (wai) yq448 [(2,yq449)] yq10 yq282 yq283 yq284 (fun k r=>yx 2 yq449 (((),(k.1,(k.2.1,(k.2.2,())))),(r,())))
def wcw(k:Int×Int)(v:Int×Y1):Tr (Yq⊕Y1):=
 .t (v.1<k.2)
 (.c _ (wcv (k.1,(k.2,v.1)) (v.1,v.2)) fun a=>
 .l (.inl ((wrap .i64 (v.1+1)),a)))
 (.l (.inr v.2))
def wjp k v:=iter (fun v=>(wcw k v).ev) v
def wpn:LD:=yl (wcw) yq449 [(0,yq422)] yq10 yq239 yq209 yq110 (fun _ r=>yx 0 yq422 (((),()),(r,())))
def wym(a:Int)(b:Int)(f:Y1):Tr Y1:=
 .c _ (wjp (a,b) ((wrap .i64 (a+1)),f)) fun e=>
 .l e
def wyn c a b:=(wym c a b).ev
def wakn:FP prog:=fnP cx func243 [G_zb] (yj [.arr 64,.dat yi,.dat yi]) [Zz] [.arg 0] (yq433 wym) yq423 yq287 noZ [(2,wpm),(0,wpn)]
def wev(k:Int×(Int×(Int×(Bool×(Bool×Y1)))))(_v:Unit):Tr ((Unit)⊕Y1):=
 .t ((wrap .i64 (k.2.1-k.1))≤(12:Int))
 (.c _ (wyn k.1 k.2.1 k.2.2.2.2.2) fun a=>
 .l (.inr a))
 (.t (k.2.2.1==0)
 (.f)
 (.g (!k.2.2.2.1)<|
 .f))
def wew k v:=iter (fun v=>(wev k v).ev) v
abbrev yq450:Keep:=yk [] [0,1,2,3,8,9] (yj [.arr 64,.dat yi,.dat yi,.dat yi,.dat .bool,.dat .bool]) [Zz]
def wpo:LD:=yl (wev) yq450 [] yq422 yq428 yq429 yq199 (fun _ r=>yz yq422 (((),()),(r,())))
def wyo(e:Int)(f:Int)(a:Int)(g:Y1):Tr Y1:=
 .c _ (wew (e,(f,(a,(true,(true,g))))) ()) fun b=>
 .l b
def wady e b a c:=(wyo e b a c).ev
def wako:FP prog:=fnP cx func174 [wakn] (yj [.arr 64,.dat yi,.dat yi,.dat yi]) [Zz] [.arg 0] (yq286 wyo) yq423 yq287 noZ [(0,wpo)]
def wyp(a:Y1):Tr Y1:=
 .c _ (wnu (wrap .u64 (length a:Int))) fun b=>
 .c _ (wady 0 (length a:Int) b a) fun e=>
 .l e
def wyq a:=(wyp a).ev
abbrev yq451{a b c:Type}{z:Type _}(f:b→z)(x:a×b×c):z:=f x.2.1
def wakp:FP prog:=fnP cx func101 [wvr,wako] (yj [.arr 64]) [Zz] [.arg 0] (yq451 wyp) yq423 yq287
def wbf(k:Int×(Y1×(Y2×(Y1×(Y1×Y1)))))(v:Int×Y1):Tr (Yq⊕Y1):=
 .t (v.1<k.1)
 (.g (inR v.1 (length k.2.2.2.1))<|
 .g ((toNat v.1)<length k.2.2.2.1)<|
 .t ((0:Int)≤(getD k.2.2.2.1 (toNat v.1) 0))
 (.g ((length v.2+length ([v.1]:Y1))*8≤140737488355328)<|
 .l (.inl ((wrap .i64 (v.1+1)),(v.2++([v.1]:Y1)))))
 (.l (.inl ((wrap .i64 (v.1+1)),v.2))))
 (.l (.inr v.2))
def wex k v:=iter (fun v=>(wbf k v).ev) v
abbrev yq415:Keep:=yk [] [1,4,5,25,26,27] (yj [.box 1 0,.box 4 0,.arr 23,.arr 1411,.dat yi,.dat yi]) [Zaa,(4,.cells (yj [.arr 1409,.arr 1411,.arr 1412])),(23,.arr 3 yi),(1411,.arr 3 yi),(1409,.arr 3 yi),(1412,.arr 3 yi)]
abbrev yq416:Keep:=yk [] [1,4,5] (yj [.box 1 0,.box 4 0,.arr 23]) [Zaa,(4,.cells (yj [.arr 1409,.arr 1411,.arr 1412])),(23,.arr 3 yi),(1409,.arr 3 yi),(1411,.arr 3 yi),(1412,.arr 3 yi)]
abbrev yq417{a b c d e g h i:Type}(k:a×b×c×d×e×g)(v:h×i):=(((),((),((),((),(k.1,(v.1,())))))),((k.2.1,(k.2.2.1,())),(((),((),((),()))),(v.2,(k.2.2.2.1,(k.2.2.2.2.1,(k.2.2.2.2.2,())))))))
abbrev yq418{a b c d e g h i j l m n o p q:Type}(t:(a×b×c×d×e×g)×(h×i×j)×l×m×n×o×p×q):=(t.1.2.2.2.2.1,(t.2.1.1,(t.2.1.2.1,(t.2.2.2.2.1,(t.2.2.2.2.2.1,t.2.2.2.2.2.2.1)))))
abbrev yq419{a b c d e g h i j l m:Type}(t:(a×b×c×d×e×g×h)×i×j×l×m):=(t.1.2.2.2.2.2.1,t.2.2.2.1)
def wpp:LD:=yl (wbf) yq415 [(0,yq416)] yq10 yq417 yq418 yq419 (fun k r=>yx 0 yq416 (((),((),((),()))),((k.2.1,(k.2.2.1,())),(((),((),((),()))),(r,(k.2.2.2.2.1,(k.2.2.2.1,(k.2.2.2.2.2,()))))))))
def wft(k:Int×(Y1×(Y2×(Y1×(Y1×(Y1×Y1))))))(v:Int×Y1):Tr (Yq⊕Y1):=
 .t (v.1<k.1)
 (.g (inR v.1 (length k.2.2.2.1))<|
 .g ((toNat v.1)<length k.2.2.2.1)<|
 .c _ (wna v.2 (fun e=>Option.bind (wpk e.1 k.2.1 k.2.2.1 k.2.2.2.2.1 k.2.2.2.2.2.1 k.2.2.2.2.2.2 (getD k.2.2.2.1 (toNat v.1) 0)) fun b=>some b)) fun a=>
 .t (!a)
 (.g ((length v.2+length ([(getD k.2.2.2.1 (toNat v.1) 0)]:Y1))*8≤140737488355328)<|
 .l (.inl ((wrap .i64 (v.1+1)),(v.2++([(getD k.2.2.2.1 (toNat v.1) 0)]:Y1)))))
 (.l (.inl ((wrap .i64 (v.1+1)),v.2))))
 (.l (.inr v.2))
def wadz k v:=iter (fun v=>(wft k v).ev) v
abbrev yq444:Keep:=yk [] [1,4,8,43,44,45] (yj [.box 1 0,.box 4 0,.arr 42,.arr 23,.dat yi,.dat yi]) [Zaa,(4,.cells (yj [.arr 1409,.arr 1411,.arr 1412])),(42,.arr 3 yi),(23,.arr 3 yi),(1409,.arr 3 yi),(1411,.arr 3 yi),(1412,.arr 3 yi)]
abbrev yq445:Keep:=yk [] [8] (yj [.arr 42]) [(42,.arr 3 yi)]
abbrev yq446{a b c d e g h i j:Type}(k:a×b×c×d×e×g×h)(v:i×j):=(((),((),((),((),(k.1,(v.1,())))))),((k.2.1,(k.2.2.1,())),(((),((),((),()))),(v.2,(k.2.2.2.1,(k.2.2.2.2.1,(k.2.2.2.2.2.1,(k.2.2.2.2.2.2,()))))))))
abbrev yq447{a b c d e g h i j l m n o p q s:Type}(t:(a×b×c×d×e×g)×(h×i×j)×l×m×n×o×p×q×s):=(t.1.2.2.2.2.1,(t.2.1.1,(t.2.1.2.1,(t.2.2.2.2.1,(t.2.2.2.2.2.1,(t.2.2.2.2.2.2.1,t.2.2.2.2.2.2.2.1))))))
def waea:LD:=yl (wft) yq444 [(2,yq445)] yq10 yq446 yq447 yq419 (fun _ r=>yx 2 yq445 (((),()),(r,())))
def wpq(e:Y1)(b:List Y1):Tr (Bool×Y1):=
 .c _ (wdt e b) fun m=>
 .t (!m)
 (.l (false,[]))
 (.t ((length b:Int)==(0:Int))
 (.c _ (F_zr e b) fun o=>
 .l (true,([o]:Y1)))
 (.c _ (F_zu e b) fun a=>
 .c _ (wex ((length a.2.1:Int),(e,(b,(a.2.1,(a.1,a.2.2))))) (0,[])) fun h=>
 .c _ (wyi (fun g=>Option.bind (wpj g.1 g.2.1 a.1 a.2.1 a.2.2) fun i=>some i) h) fun f=>
 .c _ (wadz ((length f:Int),(e,(b,(f,(a.1,(a.2.1,a.2.2)))))) (0,[])) fun n=>
 .c _ (wyq n) fun j=>
 .l (true,j)))
def wdu a b:=(wpq a b).ev
abbrev yq452:RetK:=⟨[.own 2 0 3 yi,.ren 20 0,.ren 42 0],[.tmp 2,.tmp 3],(yj [.arr 0,.dat .bool]),[Zab],[],[]⟩
def waeb:FP prog:=fnP cx func45 [wnf,G_zr,G_zu,wadx,wnb,wakp,wnb,wakm,wadx,wakl] (yj [.agg Zk]) [] [] (yq58 wpq) yq452 yq184 noZ [(0,wpp),(2,waea)]
end
end Go.Proofs.YteiekijgoifhoaaGreatDoor
