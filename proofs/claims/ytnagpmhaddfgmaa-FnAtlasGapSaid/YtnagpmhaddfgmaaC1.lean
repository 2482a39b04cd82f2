import Derived.Test.YtnagpmhaddfgmaaC3
import Derived.Test.YtnagpmhaddfgmaaProg
namespace Go.Proofs.Ytnagpmhaddfgmaa
open Go.Proofs.Try
open List (length getD set)
open Int (toNat)
open IntKind (wrap)
noncomputable def wqv (k : Int × (Y2 × (Int × Y1))) (v : Int) : Tr ((Int) ⊕ (Int)) :=
 .t (decide (0 < v))
 (.g (inR (wrap .i64 (v - 1)) (length k.2.1)) <|
 .c (Bool) (wanb k.2.2.2 (getD k.2.1 (toNat (wrap .i64 (v - 1))) ([] : Y1))) fun r26_ =>
 .t r26_
 (.l (.inl (wrap .i64 (v - 1))))
 (.l (.inr v)))
 (.l (.inr v))
noncomputable def wvp (k : Int × (Y2 × (Int × Y1))) (v : Int) : Option (Int) := iter (fun v => (wqv k v).ev) v
noncomputable def wyw : LD := ⟨{ acts := [], S := { slots := [0, 3, 4, 5, 6], sh := (yj [.dat yi, .dat y2, .dat yi, .arr 1024, .dat yi]), obs := [(1024, .arr 3 yi)] } }, [(2, { acts := [], S := { slots := [0, 3, 4, 5, 6], sh := (yj [.dat yi, .dat y2, .dat yi, .arr 1024, .dat yi]), obs := [(1024, .arr 3 yi)] } })], (yh [] .nil), Int × (Y2 × (Int × Y1)), Int, Int, fun k v => ((k.1, (k.2.1, (k.2.2.1, ((), (v, ()))))), (k.2.2.2, ())), fun t => (t.1.1, (t.1.2.1, (t.1.2.2.1, t.2.1))), fun t => t.1.2.2.2.2.1, wqv, fun k r => .l (.exit 2 (wbe ({ slots := [0, 3, 4, 5, 6], sh := (yj [.dat yi, .dat y2, .dat yi, .arr 1024, .dat yi]), obs := [(1024, .arr 3 yi)] }) ((k.1, (k.2.1, (k.2.2.1, ((), (r, ()))))), (k.2.2.2, ()))))⟩
noncomputable def wqw (k : Int) (v : Y2 × Int) : Tr ((Y2 × Int) ⊕ Y2) :=
 .g (decide (0 ≤ k)) <|
 .t (decide (v.2 < (wrap .i64 ((1 : Int) * 2 ^ (min (toNat k) (IntKind.bits .i64))))))
 (.c Y1 (wsy k v.2) fun r20_ =>
 .c (Int) (wvp (k, (v.1, (v.2, r20_))) ((length v.1 : Nat) : Int)) fun r32_ =>
 .g (decide (0 ≤ r32_) && decide (r32_ ≤ ((length v.1 : Nat) : Int))) <|
 .g (decide ((length ([] : List Y1) + length (List.drop 0 (List.take (toNat r32_) v.1))) * 24 ≤ 140737488355328)) <|
 .g (decide ((length (([] : List Y1) ++ (List.drop 0 (List.take (toNat r32_) v.1))) + length ([r20_] : List Y1)) * 24 ≤ 140737488355328)) <|
 .g (decide (0 ≤ r32_) && decide (r32_ ≤ ((length v.1 : Nat) : Int))) <|
 .g (decide ((length ((([] : List Y1) ++ (List.drop 0 (List.take (toNat r32_) v.1))) ++ ([r20_] : List Y1)) + length (List.drop (toNat r32_) (List.take (length v.1) v.1))) * 24 ≤ 140737488355328)) <|
 .l (.inl ((((([] : List Y1) ++ (List.drop 0 (List.take (toNat r32_) v.1))) ++ ([r20_] : List Y1)) ++ (List.drop (toNat r32_) (List.take (length v.1) v.1))), (wrap .i64 (v.2 + 1)))))
 (.l (.inr v.1))
noncomputable def wvq (k : Int) (v : Y2 × Int) : Option Y2 := iter (fun v => (wqw k v).ev) v
noncomputable def wyx : LD := ⟨{ acts := [.fz 7, .fz 32], S := (ys [0, 3, 4] (yj [.dat yi, .dat y2, .dat yi])) }, [(0, (yh [3] (yj [.dat y2])))], (yh [] .nil), Int, Y2 × (Int), List Y1, fun k v => ((k, (v.1, (v.2, ()))), ()), fun t => t.1.1, fun t => (t.1.2.1, t.1.2.2.1), wqw, fun _ r => .l (.exit 0 (wbe ((ys [3] (yj [.dat y2]))) ((r, ()), ())))⟩
noncomputable def wanc (a1_ : Int) : Tr Y2 :=
 .c Y2 (wvq a1_ (([] : List Y1), (1 : Int))) fun r34_ =>
 .l r34_
noncomputable def wagu (a1_ : Int) : Option Y2 := (wanc a1_).ev
noncomputable def wbkh : RetK := yr [.tmp 2] (yj [.dat y2])
noncomputable def wawy : FD := yd (yj [.dat yi]) [] [] (List Y1) (fun x => wagu x.1.1) (fun r => ([.dat y2 r], []))
noncomputable def wand : Nat → Nat → List Nat := fun r i => match look [(8, [(0, [3, 5])])] r with
 | some l => (look l i).getD []
 | none => []
noncomputable def wane : Env := wac [(86, wamf), (87, wawu)]
noncomputable def wanf : List (Nat × LD) := [(2, wyw), (0, wyx)]
noncomputable def wang : Code := (f57.body).getD .skip
noncomputable def wnj (k : Y2 × (Y1 × Y2)) (v : Y1 × Int) : Tr ((Y1 × Int) ⊕ Y1) :=
 .t (decide (v.2 < ((length k.1 : Nat) : Int)))
 (.g (inR v.2 (length k.1)) <|
 .c (Int) (woj k.2.1 k.2.2 (getD k.1 (toNat v.2) ([] : Y1))) fun r7_ =>
 .c (Int) (woj k.2.1 k.2.2 v.1) fun r8_ =>
 .t (decide (r7_ < r8_))
 (.g (inR v.2 (length k.1)) <|
 .l (.inl ((getD k.1 (toNat v.2) ([] : Y1)), (wrap .i64 (v.2 + 1)))))
 (.l (.inl (v.1, (wrap .i64 (v.2 + 1))))))
 (.l (.inr v.1))
noncomputable def wagv (k : Y2 × (Y1 × Y2)) (v : Y1 × Int) : Option Y1 := iter (fun v => (wnj k v).ev) v
noncomputable def wyy : LD := ⟨{ acts := [], S := { slots := [1, 3, 4, 5], sh := (yj [.box 1 0, .dat y2, .dat y1, .dat yi]), obs := [(1, .cells (yj [.dat y1, .dat y2]))] } }, [(0, (yh [4] (yj [.dat y1])))], (yh [] .nil), Y2 × (Y1 × Y2), Y1 × (Int), Y1, fun k v => (((), (k.1, (v.1, (v.2, ())))), ((k.2.1, (k.2.2, ())), ())), fun t => (t.1.2.1, (t.2.1.1, t.2.1.2.1)), fun t => (t.1.2.2.1, t.1.2.2.2.1), wnj, fun _ r => .l (.exit 0 (wbe ((ys [4] (yj [.dat y1]))) ((r, ()), ())))⟩
noncomputable def wawz (a1_ : Y1) (a2_ : List Y1) : Tr Y1 :=
 .c Y2 (wagu ((length a1_ : Nat) : Int)) fun r1_ =>
 .g (inR 0 (length r1_)) <|
 .c Y1 (wagv (r1_, (a1_, a2_)) ((getD r1_ (toNat 0) ([] : Y1)), (1 : Int))) fun r10_ =>
 .l r10_
noncomputable def wanh (a1_ : Y1) (a2_ : List Y1) : Option Y1 := (wawz a1_ a2_).ev
noncomputable def wbki : RetK := yr [.tmp 2] (yj [.dat y1])
noncomputable def waxa : FD := yd (yj [.agg (yj [.dat y1, .dat y2])]) [] [] Y1 (fun x => wanh x.1.1.1 x.1.1.2.1) (fun r => ([.dat y1 r], []))
noncomputable def waxb : Env := wac [(57, wawy), (48, wagr)]
noncomputable def waxc : List (Nat × LD) := [(0, wyy)]
noncomputable def waxd : Code := (f151.body).getD .skip
noncomputable def wnk (k : Int × (Int × (Int × (Int × (Y1 × (Int × (Int × (Y1 × (Y1 × (Y1 × Y1)))))))))) (v : Int × Y2) : Tr ((Int × Y2) ⊕ Y2) :=
 .t (decide (v.1 < ((length k.2.2.2.2.1 : Nat) : Int)))
 (.g (inR v.1 (length v.2)) <|
 .g (decide ((toNat v.1) < length v.2)) <|
 .g (inR v.1 (length k.2.2.2.2.1)) <|
 .g (decide ((length (getD v.2 (toNat v.1) ([] : Y1)) + length ([(getD k.2.2.2.2.1 (toNat v.1) 0)] : Y1)) * 8 ≤ 140737488355328)) <|
 .g (inR v.1 (length v.2)) <|
 .g (decide ((toNat v.1) < length v.2) && decide ((toNat v.1) = (toNat v.1))) <|
 .l (.inl ((wrap .i64 (v.1 + 1)), (set v.2 (toNat v.1) ((getD v.2 (toNat v.1) ([] : Y1)) ++ ([(getD k.2.2.2.2.1 (toNat v.1) 0)] : Y1))))))
 (.l (.inr v.2))
noncomputable def wvr (k : Int × (Int × (Int × (Int × (Y1 × (Int × (Int × (Y1 × (Y1 × (Y1 × Y1)))))))))) (v : Int × Y2) : Option Y2 := iter (fun v => (wnk k v).ev) v
noncomputable def wyz : LD := ⟨{ acts := [.ownB 4 0 901340 3 yi, .ownB 4 2 901342 3 yi], S := { slots := [3, 4, 5, 6], sh := (yj [.box 3 0, .box 4 0, .box 5 0, .dat yi]), obs := [(3, .cells (yj [.dat yi, .dat yi, .dat yi, .dat yi, .dat y1])), (4, .cells (yj [.arr 901340, .nilsl, .arr 901342, .dat yi])), (5, .cells (yj [.arr 708, .arr 709, .arr 710, .dat yi])), (901340, .arr 3 yi), (901342, .arr 3 yi), (708, .arr 3 yi), (709, .rows 22 3 yi), (710, .arr 3 yi)] } }, [(1, { acts := [], S := { slots := [4, 5], sh := (yj [.box 4 0, .box 5 0]), obs := [(4, .cells (yj [.arr 901340, .nilsl, .arr 901342, .dat yi])), (5, .cells (yj [.arr 708, .arr 709, .arr 710, .dat yi])), (901340, .arr 3 yi), (901342, .arr 3 yi), (708, .arr 3 yi), (709, .rows 22 3 yi), (710, .arr 3 yi)] } })], (yh [] .nil), Int × (Int × (Int × (Int × (Y1 × (Int × (Int × (Y1 × (Y1 × (Y1 × Y1))))))))), Int × Y2, List Y1, fun k v => (((), ((), ((), (v.1, ())))), ((k.1, (k.2.1, (k.2.2.1, (k.2.2.2.1, (k.2.2.2.2.1, ()))))), (((), ((), ((), (k.2.2.2.2.2.1, ())))), (((), ((), ((), (k.2.2.2.2.2.2.1, ())))), (k.2.2.2.2.2.2.2.1, (k.2.2.2.2.2.2.2.2.1, (k.2.2.2.2.2.2.2.2.2.1, (v.2, (k.2.2.2.2.2.2.2.2.2.2, ()))))))))), fun t => (t.2.1.1, (t.2.1.2.1, (t.2.1.2.2.1, (t.2.1.2.2.2.1, (t.2.1.2.2.2.2.1, (t.2.2.1.2.2.2.1, (t.2.2.2.1.2.2.2.1, (t.2.2.2.2.1, (t.2.2.2.2.2.1, (t.2.2.2.2.2.2.1, t.2.2.2.2.2.2.2.2.1)))))))))), fun t => (t.1.2.2.2.1, t.2.2.2.2.2.2.2.1), wnk, fun k r => .l (.exit 1 (wbe ({ slots := [4, 5], sh := (yj [.box 4 0, .box 5 0]), obs := [(4, .cells (yj [.arr 901340, .nilsl, .arr 901342, .dat yi])), (5, .cells (yj [.arr 708, .arr 709, .arr 710, .dat yi])), (901340, .arr 3 yi), (901342, .arr 3 yi), (708, .arr 3 yi), (709, .rows 22 3 yi), (710, .arr 3 yi)] }) (((), ((), ())), (((), ((), ((), (k.2.2.2.2.2.1, ())))), (((), ((), ((), (k.2.2.2.2.2.2.1, ())))), (k.2.2.2.2.2.2.2.1, (k.2.2.2.2.2.2.2.2.1, (k.2.2.2.2.2.2.2.2.2.1, (r, (k.2.2.2.2.2.2.2.2.2.2, ()))))))))))⟩
noncomputable def waxe (a1_ : Y1) (a2_ : List Y1) (a3_ : Y1) (a4_ : Int) (a5_ : Int) (a6_ : Int) (a7_ : Int) (a8_ : Int) (a9_ : Y1) : Tr (Int × (Y1 × (Y2 × Y1))) :=
 .c (Int × (Y1 × (Y2 × Y1))) (wagf a1_ a2_ a3_ a4_) fun r1_ =>
 .t (a5_ == 1)
 (.c Y1 (wta r1_.2.2.2 a6_) fun r2_ =>
 .l (r1_.1, (r1_.2.1, (r1_.2.2.1, r2_))))
 (.t (a5_ == 2)
 (.c Y1 (wabl r1_.2.2.2 a6_) fun r3_ =>
 .l (r1_.1, (r1_.2.1, (r1_.2.2.1, r3_))))
 (.t (a5_ == 3)
 (.c Y1 (wabl r1_.2.2.2 a6_) fun r4_ =>
 .c Y1 (wta r4_ a7_) fun r5_ =>
 .l (r1_.1, (r1_.2.1, (r1_.2.2.1, r5_))))
 (.t (a5_ == 4)
 (.g (inR a6_ (length r1_.2.1)) <|
 .g (decide ((toNat a6_) < length r1_.2.1)) <|
 .l (r1_.1, ((set r1_.2.1 (toNat a6_) a7_), (r1_.2.2.1, r1_.2.2.2))))
 (.t (a5_ == 5)
 (.g (inR a6_ (length r1_.2.2.1)) <|
 .g (decide ((toNat a6_) < length r1_.2.2.1)) <|
 .g (inR a7_ (length (getD r1_.2.2.1 (toNat a6_) ([] : Y1)))) <|
 .g (decide ((toNat a7_) < length (getD r1_.2.2.1 (toNat a6_) ([] : Y1)))) <|
 .l (r1_.1, (r1_.2.1, ((set r1_.2.2.1 (toNat a6_) (set (getD r1_.2.2.1 (toNat a6_) ([] : Y1)) (toNat a7_) a8_)), r1_.2.2.2))))
 (.t (a5_ == 6)
 (.g (decide ((length r1_.2.1 + length ([a6_] : Y1)) * 8 ≤ 140737488355328)) <|
 .c Y2 (wvr (a5_, (a6_, (a7_, (a8_, (a9_, ((0 : Int), (r1_.1, (([] : Y1), (([] : Y1), ((r1_.2.1 ++ ([a6_] : Y1)), r1_.2.2.2)))))))))) ((0 : Int), r1_.2.2.1)) fun r26_ =>
 .l (r1_.1, ((r1_.2.1 ++ ([a6_] : Y1)), (r26_, r1_.2.2.2))))
 (.t (a5_ == 7)
 (.c Y1 (wgt a9_) fun r27_ =>
 .g (decide ((length r1_.2.2.1 + 1) * 24 ≤ 140737488355328)) <|
 .l (r1_.1, (r1_.2.1, ((set (r1_.2.2.1 ++ [[]]) (length r1_.2.2.1) r27_), r1_.2.2.2))))
 (.t (a5_ == 8)
 (.c (Int × (Y1 × (Y2 × Y1))) (wamp a1_ a2_ a3_ a4_ a6_) fun r28_ =>
 .l (r28_.1, (r28_.2.1, (r28_.2.2.1, r28_.2.2.2))))
 (.t (a5_ == 9)
 (.g (decide (0 ≤ a6_) && decide (a6_ ≤ ((length r1_.2.2.1 : Nat) : Int))) <|
 .g (decide ((0 : Int) ≤ (wrap .i64 (a6_ + 1))) && decide ((wrap .i64 (a6_ + 1)) ≤ ((length r1_.2.2.1 : Nat) : Int))) <|
 .g (decide ((toNat a6_) ≤ (toNat (wrap .i64 (a6_ + 1)))) && decide (((toNat a6_) + (length r1_.2.2.1 - (toNat (wrap .i64 (a6_ + 1))))) * 24 ≤ 140737488355328)) <|
 .l (r1_.1, (r1_.2.1, ((List.take (toNat a6_) r1_.2.2.1 ++ List.drop (toNat (wrap .i64 (a6_ + 1))) r1_.2.2.1), r1_.2.2.2))))
 (.t (a5_ == 10)
 (.c (Int × (Bool × Y1)) (wamz a1_ a2_ a3_) fun r29_ =>
 .l (r1_.1, (r1_.2.1, (r1_.2.2.1, r29_.2.2))))
 (.t (a5_ == 11)
 (.c Y1 (wanh a1_ a2_) fun r30_ =>
 .c Y1 (wgt r30_) fun r31_ =>
 .l (r1_.1, (r1_.2.1, (r1_.2.2.1, r31_))))
 (.l (r1_.1, (r1_.2.1, (r1_.2.2.1, r1_.2.2.2))))))))))))))
noncomputable def wani (a1_ : Y1) (a2_ : List Y1) (a3_ : Y1) (a4_ : Int) (a5_ : Int) (a6_ : Int) (a7_ : Int) (a8_ : Int) (a9_ : Y1) : Option (Int × (Y1 × (Y2 × Y1))) := (waxe a1_ a2_ a3_ a4_ a5_ a6_ a7_ a8_ a9_).ev
noncomputable def wbkj : RetK := { acts := [.pinB 4 0 1, .pinB 4 1 6, .pinB 4 2 7], res := [.cell 4 44], sh := (yj [.agg (yj [.arr 1, .arr 6, .arr 7, .dat yi])]), obs := [(1, .arr 3 yi), (6, .rows 22 3 yi), (7, .arr 3 yi)], pins := [] }
noncomputable def waxf : FD := yd (yj [.agg (yj [.dat y1, .dat y2, .dat y1, .dat yi]), .agg (yj [.dat yi, .dat yi, .dat yi, .dat yi, .dat y1])]) [] [] (Int × (Y1 × (Y2 × Y1))) (fun x => wani x.1.1.1 x.1.1.2.1 x.1.1.2.2.1 x.1.1.2.2.2.1 x.1.2.1.1 x.1.2.1.2.1 x.1.2.1.2.2.1 x.1.2.1.2.2.2.1 x.1.2.1.2.2.2.2.1) (fun r => ([.agg [.arr 1, .arr 6, .arr 7, .dat yi r.1]], [(1, .arr 3 yi r.2.1), (6, .rows 22 3 yi r.2.2.1 none), (7, .arr 3 yi r.2.2.2)]))
noncomputable def waxg : Env := wac [(146, wamm), (147, wamn), (148, wamo), (140, wsw), (149, wavn), (150, wawq), (151, waxa)]
noncomputable def waxh : List (Nat × LD) := [(1, wyz)]
noncomputable def waxi : Code := (f124.body).getD .skip
noncomputable def waxj (a1_ : Y1) (a2_ : List Y1) (a3_ : Y1) (a4_ : Int) (a5_ : Int) (a6_ : Int) (a7_ : Int) (a8_ : Int) (a9_ : Y1) : Tr (Int × (Bool × (Y1 × (Y2 × Y1)))) :=
 .c (Bool) (wamj a5_ a6_ a7_ a8_ a9_) fun r1_ =>
 .t (!r1_)
 (.l ((0 : Int), (false, (([] : Y1), (([] : List Y1), ([] : Y1))))))
 (.c (Bool) (waml a1_ a2_ a3_ a4_ a5_ a6_ a7_ a8_ a9_) fun r2_ =>
 .t (!r2_)
 (.l ((0 : Int), (false, (([] : Y1), (([] : List Y1), ([] : Y1))))))
 (.c (Int × (Y1 × (Y2 × Y1))) (wani a1_ a2_ a3_ a4_ a5_ a6_ a7_ a8_ a9_) fun r3_ =>
 .c (Bool) (wabk r3_.2.1 r3_.2.2.1 r3_.2.2.2 (wrap .i64 (a4_ + 1))) fun r4_ =>
 .t (!r4_)
 (.l ((0 : Int), (false, (([] : Y1), (([] : List Y1), ([] : Y1))))))
 (.l ((wrap .i64 (a4_ + 1)), (true, (r3_.2.1, (r3_.2.2.1, r3_.2.2.2)))))))
noncomputable def wanj (a1_ : Y1) (a2_ : List Y1) (a3_ : Y1) (a4_ : Int) (a5_ : Int) (a6_ : Int) (a7_ : Int) (a8_ : Int) (a9_ : Y1) : Option (Int × (Bool × (Y1 × (Y2 × Y1)))) := (waxj a1_ a2_ a3_ a4_ a5_ a6_ a7_ a8_ a9_).ev
noncomputable def wbkk : RetK := { acts := [.ownB 4 0 5 3 yi, .ownRB 4 1 7 22 3 yi, .ownB 4 2 8 3 yi, .ren 1217 5, .ren 1222 7, .ren 1223 8], res := [.cell 4 44, .tmp 5], sh := (yj [.agg (yj [.arr 5, .arr 7, .arr 8, .dat yi]), .dat .bool]), obs := [(5, .arr 3 yi), (7, .rows 22 3 yi), (8, .arr 3 yi)], pins := [] }
noncomputable def waxk : FD := yd (yj [.agg (yj [.dat y1, .dat y2, .dat y1, .dat yi]), .agg (yj [.dat yi, .dat yi, .dat yi, .dat yi, .dat y1])]) [] [] (Int × (Bool × (Y1 × (Y2 × Y1)))) (fun x => wanj x.1.1.1 x.1.1.2.1 x.1.1.2.2.1 x.1.1.2.2.2.1 x.1.2.1.1 x.1.2.1.2.1 x.1.2.1.2.2.1 x.1.2.1.2.2.2.1 x.1.2.1.2.2.2.2.1) (fun r => ([.agg [.arr 5, .arr 7, .arr 8, .dat yi r.1], .dat .bool r.2.1], [(5, .arr 3 yi r.2.2.1), (7, .rows 22 3 yi r.2.2.2.1 none), (8, .arr 3 yi r.2.2.2.2)]))
noncomputable def wgv (_k : Int) (v : Int × (Y1 × (Int × (Int × (Y1 × (Y2 × (Int × Y1))))))) : Tr ((Int × (Y1 × (Int × (Int × (Y1 × (Y2 × (Int × Y1))))))) ⊕ (Y1 × (Int × (Int × (Y1 × (Y2 × (Int × Y1))))))) :=
 .t (decide (0 < v.1))
 (.c (Bool) (wabk v.2.2.2.2.1 v.2.2.2.2.2.1 v.2.2.2.2.2.2.2 v.2.2.2.2.2.2.1) fun r16_ =>
 .t r16_
 (.c (Int × (Int × (Int × (Int × (Y1 × (Y1 × (Int × Int))))))) (wauj v.2.2.2.2.1 v.2.2.2.2.2.1 v.2.1 v.2.2.1 v.2.2.2.1) fun r17_ =>
 .c (Int × (Bool × (Y1 × (Y2 × Y1)))) (wanj v.2.2.2.2.1 v.2.2.2.2.2.1 v.2.2.2.2.2.2.2 v.2.2.2.2.2.2.1 r17_.1 r17_.2.1 r17_.2.2.1 r17_.2.2.2.1 r17_.2.2.2.2.1) fun r18_ =>
 .t r18_.2.1
 (.l (.inl ((wrap .i64 (v.1 - 1)), (r17_.2.2.2.2.2.1, (r17_.2.2.2.2.2.2.1, (r17_.2.2.2.2.2.2.2, (r18_.2.2.1, (r18_.2.2.2.1, (r18_.1, r18_.2.2.2.2)))))))))
 (.l (.inl ((wrap .i64 (v.1 - 1)), (r17_.2.2.2.2.2.1, (r17_.2.2.2.2.2.2.1, (r17_.2.2.2.2.2.2.2, (v.2.2.2.2.1, (v.2.2.2.2.2.1, (v.2.2.2.2.2.2.1, v.2.2.2.2.2.2.2))))))))))
 (.l (.inr (v.2.1, (v.2.2.1, (v.2.2.2.1, (v.2.2.2.2.1, (v.2.2.2.2.2.1, (v.2.2.2.2.2.2.1, v.2.2.2.2.2.2.2)))))))))
 (.l (.inr (v.2.1, (v.2.2.1, (v.2.2.2.1, (v.2.2.2.2.1, (v.2.2.2.2.2.1, (v.2.2.2.2.2.2.1, v.2.2.2.2.2.2.2))))))))
noncomputable def wev (k : Int) (v : Int × (Y1 × (Int × (Int × (Y1 × (Y2 × (Int × Y1))))))) : Option (Y1 × (Int × (Int × (Y1 × (Y2 × (Int × Y1)))))) := iter (fun v => (wgv k v).ev) v
noncomputable def wza : LD := ⟨{ acts := [.fz 577, .fz 578, .fz 3013, .fz 3015, .repB 4 2 900642], S := { slots := [0, 2, 4, 5], sh := (yj [.box 64 0, .box 2 0, .box 4 0, .dat yi]), obs := [(64, .cells (yj [.dat (.slice (.int .u8)), .dat yi, .dat (.int .u64)])), (2, .cells (yj [.nilsl, .nilsl, .nilsl, .dat yi])), (4, .cells (yj [.dat y1, .dat y2, .arr 900642, .dat yi])), (900642, .arr 3 yi)] } }, [(0, { acts := [], S := { slots := [0, 2, 4], sh := (yj [.box 64 0, .box 2 0, .box 4 0]), obs := [(64, .cells (yj [.dat (.slice (.int .u8)), .dat yi, .dat (.int .u64)])), (2, .cells (yj [.nilsl, .nilsl, .nilsl, .dat yi])), (4, .cells (yj [.dat y1, .dat y2, .arr 900642, .dat yi])), (900642, .arr 3 yi)] } })], (yh [] .nil), Int, Int × (Y1 × (Int × (Int × (Y1 × (Y2 × (Int × Y1)))))), Y1 × (Int × (Int × (Y1 × (Y2 × (Int × Y1))))), fun k v => (((), ((), ((), (v.1, ())))), ((v.2.1, (v.2.2.1, (v.2.2.2.1, ()))), (((), ((), ((), (k, ())))), ((v.2.2.2.2.1, (v.2.2.2.2.2.1, ((), (v.2.2.2.2.2.2.1, ())))), (v.2.2.2.2.2.2.2, ()))))), fun t => t.2.2.1.2.2.2.1, fun t => (t.1.2.2.2.1, (t.2.1.1, (t.2.1.2.1, (t.2.1.2.2.1, (t.2.2.2.1.1, (t.2.2.2.1.2.1, (t.2.2.2.1.2.2.2.1, t.2.2.2.2.1))))))), wgv, fun k r => .l (.exit 0 (wbe ({ slots := [0, 2, 4], sh := (yj [.box 64 0, .box 2 0, .box 4 0]), obs := [(64, .cells (yj [.dat (.slice (.int .u8)), .dat yi, .dat (.int .u64)])), (2, .cells (yj [.nilsl, .nilsl, .nilsl, .dat yi])), (4, .cells (yj [.dat y1, .dat y2, .arr 900642, .dat yi])), (900642, .arr 3 yi)] }) (((), ((), ((), ()))), ((r.1, (r.2.1, (r.2.2.1, ()))), (((), ((), ((), (k, ())))), ((r.2.2.2.1, (r.2.2.2.2.1, ((), (r.2.2.2.2.2.1, ())))), (r.2.2.2.2.2.2, ())))))))⟩
noncomputable def wank (a1_ : Y1) (a2_ : Int) (a3_ : Int) : Tr (Y1 × (Y2 × (Int × (Y1 × (Y1 × (Int × Int)))))) :=
 .c (Y1 × (Y2 × (Y1 × (Int × Int)))) (wafs (6 : Int) a1_ a2_ a3_) fun r1_ =>
 .c (Bool) (wabi r1_.1 r1_.2.1) fun r2_ =>
 .t r2_
 (.c (Bool × (Y1 × (Int × Int))) (wabj (4 : Int) r1_.2.2.1 r1_.2.2.2.1 r1_.2.2.2.2) fun r3_ =>
 .t (!r3_.1)
 (.g (decide ((0 : Int) ≤ ((length r1_.1 : Nat) : Int))) <|
 .c (Int × (Y1 × (Int × Int))) (wal (wrap .i64 ((1 : Int) * 2 ^ (min (toNat ((length r1_.1 : Nat) : Int)) (IntKind.bits .i64)))) r3_.2.1 r3_.2.2.1 r3_.2.2.2) fun r4_ =>
 .c Y1 (wsy ((length r1_.1 : Nat) : Int) r4_.1) fun r5_ =>
 .c (Int × (Y1 × (Int × Int))) (wal (4 : Int) r4_.2.1 r4_.2.2.1 r4_.2.2.2) fun r6_ =>
 .c (Y1 × (Int × (Int × (Y1 × (Y2 × (Int × Y1)))))) (wev (0 : Int) (r6_.1, (r6_.2.1, (r6_.2.2.1, (r6_.2.2.2, (r1_.1, (r1_.2.1, ((0 : Int), r5_)))))))) fun r27_ =>
 .c (Int × (Y1 × (Int × Int))) (wal (48 : Int) r27_.1 r27_.2.1 r27_.2.2.1) fun r28_ =>
 .t (r28_.1 == 0)
 (.c (Int × (Y1 × (Int × Int))) (wad ([(-1 : Int), (1000 : Int), (1001 : Int)] : Y1) r28_.2.1 r28_.2.2.1 r28_.2.2.2) fun r29_ =>
 .l (r27_.2.2.2.1, (r27_.2.2.2.2.1, (r29_.1, (r27_.2.2.2.2.2.2, (r29_.2.1, (r29_.2.2.1, r29_.2.2.2)))))))
 (.t (r28_.1 == 1)
 (.c (Int × (Y1 × (Int × Int))) (wad ([(0 : Int), (-1 : Int), (7 : Int)] : Y1) r28_.2.1 r28_.2.2.1 r28_.2.2.2) fun r30_ =>
 .g (decide ((length r27_.2.2.2.2.2.2 + length ([r30_.1] : Y1)) * 8 ≤ 140737488355328)) <|
 .l (r27_.2.2.2.1, (r27_.2.2.2.2.1, (r27_.2.2.2.2.2.1, ((r27_.2.2.2.2.2.2 ++ ([r30_.1] : Y1)), (r30_.2.1, (r30_.2.2.1, r30_.2.2.2)))))))
 (.l (r27_.2.2.2.1, (r27_.2.2.2.2.1, (r27_.2.2.2.2.2.1, (r27_.2.2.2.2.2.2, (r28_.2.1, (r28_.2.2.1, r28_.2.2.2)))))))))
 (.c (Int × (Y1 × (Int × Int))) (wal (4 : Int) r3_.2.1 r3_.2.2.1 r3_.2.2.2) fun r31_ =>
 .c (Y1 × (Int × (Int × (Y1 × (Y2 × (Int × Y1)))))) (wev (0 : Int) (r31_.1, (r31_.2.1, (r31_.2.2.1, (r31_.2.2.2, (r1_.1, (r1_.2.1, ((0 : Int), ([] : Y1))))))))) fun r32_ =>
 .c (Int × (Y1 × (Int × Int))) (wal (48 : Int) r32_.1 r32_.2.1 r32_.2.2.1) fun r33_ =>
 .t (r33_.1 == 0)
 (.c (Int × (Y1 × (Int × Int))) (wad ([(-1 : Int), (1000 : Int), (1001 : Int)] : Y1) r33_.2.1 r33_.2.2.1 r33_.2.2.2) fun r34_ =>
 .l (r32_.2.2.2.1, (r32_.2.2.2.2.1, (r34_.1, (r32_.2.2.2.2.2.2, (r34_.2.1, (r34_.2.2.1, r34_.2.2.2)))))))
 (.t (r33_.1 == 1)
 (.c (Int × (Y1 × (Int × Int))) (wad ([(0 : Int), (-1 : Int), (7 : Int)] : Y1) r33_.2.1 r33_.2.2.1 r33_.2.2.2) fun r35_ =>
 .g (decide ((length r32_.2.2.2.2.2.2 + length ([r35_.1] : Y1)) * 8 ≤ 140737488355328)) <|
 .l (r32_.2.2.2.1, (r32_.2.2.2.2.1, (r32_.2.2.2.2.2.1, ((r32_.2.2.2.2.2.2 ++ ([r35_.1] : Y1)), (r35_.2.1, (r35_.2.2.1, r35_.2.2.2)))))))
 (.l (r32_.2.2.2.1, (r32_.2.2.2.2.1, (r32_.2.2.2.2.2.1, (r32_.2.2.2.2.2.2, (r33_.2.1, (r33_.2.2.1, r33_.2.2.2))))))))))
 (.c (Int × (Y1 × (Int × Int))) (wal (4 : Int) r1_.2.2.1 r1_.2.2.2.1 r1_.2.2.2.2) fun r36_ =>
 .c (Y1 × (Int × (Int × (Y1 × (Y2 × (Int × Y1)))))) (wev (0 : Int) (r36_.1, (r36_.2.1, (r36_.2.2.1, (r36_.2.2.2, (r1_.1, (r1_.2.1, ((0 : Int), ([] : Y1))))))))) fun r37_ =>
 .c (Int × (Y1 × (Int × Int))) (wal (48 : Int) r37_.1 r37_.2.1 r37_.2.2.1) fun r38_ =>
 .t (r38_.1 == 0)
 (.c (Int × (Y1 × (Int × Int))) (wad ([(-1 : Int), (1000 : Int), (1001 : Int)] : Y1) r38_.2.1 r38_.2.2.1 r38_.2.2.2) fun r39_ =>
 .l (r37_.2.2.2.1, (r37_.2.2.2.2.1, (r39_.1, (r37_.2.2.2.2.2.2, (r39_.2.1, (r39_.2.2.1, r39_.2.2.2)))))))
 (.t (r38_.1 == 1)
 (.c (Int × (Y1 × (Int × Int))) (wad ([(0 : Int), (-1 : Int), (7 : Int)] : Y1) r38_.2.1 r38_.2.2.1 r38_.2.2.2) fun r40_ =>
 .g (decide ((length r37_.2.2.2.2.2.2 + length ([r40_.1] : Y1)) * 8 ≤ 140737488355328)) <|
 .l (r37_.2.2.2.1, (r37_.2.2.2.2.1, (r37_.2.2.2.2.2.1, ((r37_.2.2.2.2.2.2 ++ ([r40_.1] : Y1)), (r40_.2.1, (r40_.2.2.1, r40_.2.2.2)))))))
 (.l (r37_.2.2.2.1, (r37_.2.2.2.2.1, (r37_.2.2.2.2.2.1, (r37_.2.2.2.2.2.2, (r38_.2.1, (r38_.2.2.1, r38_.2.2.2)))))))))
noncomputable def waxl (a1_ : Y1) (a2_ : Int) (a3_ : Int) : Option (Y1 × (Y2 × (Int × (Y1 × (Y1 × (Int × Int)))))) := (wank a1_ a2_ a3_).ev
noncomputable def wbkl : RetK := { acts := [.ren 900642 1], res := [.cell 2 44], sh := (yj [.agg (yj [.dat y1, .dat y2, .arr 1, .dat yi])]), obs := [(1, .arr 3 yi), (64, .cells (yj [.dat (.slice (.int .u8)), .dat yi, .dat (.int .u64)]))], pins := [(0, 0, 64)] }
noncomputable def waxm : FD := yd (yj [.box 64 0]) [(64, .cells (yj [.dat (.slice (.int .u8)), .dat yi, .dat (.int .u64)]))] [.arg 0] (Y1 × (Y2 × (Int × (Y1 × (Y1 × (Int × Int)))))) (fun x => waxl x.2.1.1 x.2.1.2.1 x.2.1.2.2.1) (fun r => ([.agg [.dat y1 r.1, .dat y2 r.2.1, .arr 1, .dat yi r.2.2.1]], [(1, .arr 3 yi r.2.2.2.1), (64, .cells [.dat (.slice (.int .u8)) r.2.2.2.2.1, .dat yi r.2.2.2.2.2.1, .dat (.int .u64) r.2.2.2.2.2.2])]))
noncomputable def waxn : Nat → Nat → List Nat := fun r i => match look [(8, [(0, [70000577, 70000578])]), (13, [(2, [57])]), (15, [(0, [60000003])])] r with
 | some l => (look l i).getD []
 | none => []
noncomputable def waxo : Env := wac [(96, wath), (55, wafw), (97, wame), (98, wmo), (86, wamf), (47, waga), (100, wauk), (99, waxk), (101, wvf)]
noncomputable def waxp : List (Nat × LD) := [(0, wza)]
noncomputable def waxq : Code := (f67.body).getD .skip
noncomputable def waxr (a1_ : Y1) : Tr (Y1 × (Y2 × (Int × Y1))) :=
 .c (Y1 × (Y2 × (Int × (Y1 × (Y1 × (Int × Int)))))) (waxl a1_ (0 : Int) (0 : Int)) fun r1_ =>
 .l (r1_.1, (r1_.2.1, (r1_.2.2.1, r1_.2.2.2.1)))
noncomputable def wanl (a1_ : Y1) : Option (Y1 × (Y2 × (Int × Y1))) := (waxr a1_).ev
noncomputable def wbkm : RetK := { acts := [.ren 513 1], res := [.cell 2 44], sh := (yj [.agg (yj [.dat y1, .dat y2, .arr 1, .dat yi])]), obs := [(1, .arr 3 yi)], pins := [] }
noncomputable def waxs : FD := yd (yj [.dat (.slice (.int .u8))]) [] [] (Y1 × (Y2 × (Int × Y1))) (fun x => wanl x.1.1) (fun r => ([.agg [.dat y1 r.1, .dat y2 r.2.1, .arr 1, .dat yi r.2.2.1]], [(1, .arr 3 yi r.2.2.2)]))
noncomputable def waxt (a1_ : Y1) : Tr (Y1 × (Y2 × (Int × Y1))) :=
 .c (Y1 × (Y2 × (Int × Y1))) (wanl a1_) fun r1_ =>
 .l (r1_.1, (r1_.2.1, (r1_.2.2.1, r1_.2.2.2)))
noncomputable def wanm (a1_ : Y1) : Option (Y1 × (Y2 × (Int × Y1))) := (waxt a1_).ev
noncomputable def wbkn : RetK := { acts := [.ren 257 1], res := [.cell 2 44], sh := (yj [.agg (yj [.dat y1, .dat y2, .arr 1, .dat yi])]), obs := [(1, .arr 3 yi)], pins := [] }
noncomputable def waxu : FD := yd (yj [.dat (.slice (.int .u8))]) [] [] (Y1 × (Y2 × (Int × Y1))) (fun x => wanm x.1.1) (fun r => ([.agg [.dat y1 r.1, .dat y2 r.2.1, .arr 1, .dat yi r.2.2.1]], [(1, .arr 3 yi r.2.2.2)]))
noncomputable def T_zu (a1_ : Int) (a2_ : Int) (a3_ : Int) : Tr (Bool) :=
 .t (decide (a2_ ≤ a1_))
 (.l (decide (a1_ ≤ a3_)))
 (.l false)
noncomputable def F_zu (a1_ : Int) (a2_ : Int) (a3_ : Int) : Option (Bool) := (T_zu a1_ a2_ a3_).ev
noncomputable def K_zu : RetK := yr [.tmp 6] (yj [.dat .bool])
noncomputable def D_zu : FD := yd (yj [.dat yi, .dat yi, .dat yi]) [] [] Bool (fun x => F_zu x.1.1 x.1.2.1 x.1.2.2.1) (fun r => ([.dat .bool r], []))
noncomputable def wnl (k : Y1 × (((HL [yi] → Option (Bool))) × Int)) (v : Int) : Tr ((Int) ⊕ ((Unit) ⊕ (Int))) :=
 .t (decide (v < k.2.2))
 (.g (inR v (length k.1)) <|
 .c (Bool) (k.2.1 ((getD k.1 (toNat v) 0), ())) fun r5_ =>
 .t r5_
 (.l (.inr (.inr v)))
 (.l (.inl (wrap .i64 (v + 1)))))
 (.l (.inr (.inl ())))
noncomputable def wagw (k : Y1 × (((HL [yi] → Option (Bool))) × Int)) (v : Int) : Option ((Unit) ⊕ (Int)) := iter (fun v => (wnl k v).ev) v
noncomputable def wzb : LD := ⟨(yh [0, 1, 7, 8] (yj [.dat y1, .clo [yi] .bool, .dat yi, .dat yi])), [(0, (yh [] .nil))], (yh [4] (yj [.dat yi])), Y1 × (((HL [yi] → Option (Bool))) × Int), Int, (Unit) ⊕ (Int), fun k v => ((k.1, (k.2.1, (k.2.2, (v, ())))), ()), fun t => (t.1.1, (t.1.2.1, t.1.2.2.1)), fun t => t.1.2.2.2.1, wnl, fun _ r => .s (Unit) (Int) r (fun _ => .l (.exit 0 (wbe ((ys [] .nil)) ((), ())))) (fun b => .l (.ret (wbe ((ys [4] (yj [.dat yi]))) ((b, ()), ()))))⟩
noncomputable def waxw (a1_ : Y1) (a2_ : (HL [yi] → Option (Bool))) : Tr (Int) :=
 .c ((Unit) ⊕ (Int)) (wagw (a1_, (a2_, ((length a1_ : Nat) : Int))) (0 : Int)) fun r7_ =>
 .s (Unit) (Int) r7_
 (fun _ => .l (-1 : Int))
 (fun r9_ => .l r9_)
noncomputable def wann (a1_ : Y1) (a2_ : (HL [yi] → Option (Bool))) : Option (Int) := (waxw a1_ a2_).ev
noncomputable def wbkp : RetK := yr [.tmp 4] (yj [.dat yi])
noncomputable def waxx : FD := yd (yj [.dat y1, .clo [yi] .bool]) [] [] Int (fun x => wann x.1.1 x.1.2.1) (fun r => ([.dat yi r], []))
noncomputable def waxy : Env := wac []
noncomputable def waxz : List (Nat × LD) := [(0, wzb)]
noncomputable def waya : Code := (f127.body).getD .skip
noncomputable def wayb (a1_ : Y1) (a2_ : (HL [yi] → Option (Bool))) : Tr (Bool) :=
 .c (Int) (wann a1_ a2_) fun r1_ =>
 .l (decide (0 ≤ r1_))
noncomputable def wano (a1_ : Y1) (a2_ : (HL [yi] → Option (Bool))) : Option (Bool) := (wayb a1_ a2_).ev
noncomputable def wbkq : RetK := yr [.tmp 4] (yj [.dat .bool])
noncomputable def wanp : FD := yd (yj [.dat y1, .clo [yi] .bool]) [] [] Bool (fun x => wano x.1.1 x.1.2.1) (fun r => ([.dat .bool r], []))
noncomputable def T_zt (a1_ : Int) (a2_ : Int) (a3_ : Int) : Tr (Bool) :=
 .c (Bool) (F_zu a1_ a2_ a3_) fun r1_ =>
 .l (!r1_)
noncomputable def F_zt (a1_ : Int) (a2_ : Int) (a3_ : Int) : Option (Bool) := (T_zt a1_ a2_ a3_).ev
noncomputable def K_zt : RetK := yr [.tmp 4] (yj [.dat .bool])
noncomputable def D_zt : FD := yd (yj [.dat yi, .ptr (yj [.dat yi]), .ptr (yj [.dat yi])]) [] [] Bool (fun x => F_zt x.1.1 x.1.2.1.1 x.1.2.2.1.1) (fun r => ([.dat .bool r], []))
noncomputable def T_zs (a1_ : Y1) (a2_ : Int) (a3_ : Int) : Tr (Bool) :=
 .c (Bool) (wano a1_ (fun h1_ => Option.bind (F_zt h1_.1 a2_ a3_) fun y2_ => some y2_)) fun r3_ =>
 .l (!r3_)
noncomputable def F_zs (a1_ : Y1) (a2_ : Int) (a3_ : Int) : Option (Bool) := (T_zs a1_ a2_ a3_).ev
noncomputable def K_zs : RetK := yr [.tmp 6] (yj [.dat .bool])
noncomputable def D_zs : FD := yd (yj [.dat y1, .dat yi, .dat yi]) [] [] Bool (fun x => F_zs x.1.1 x.1.2.1 x.1.2.2.1) (fun r => ([.dat .bool r], []))
noncomputable def wno (k : Y2 × (((HL [y1] → Option (Bool))) × Int)) (v : Int) : Tr ((Int) ⊕ ((Unit) ⊕ (Int))) :=
 .t (decide (v < k.2.2))
 (.g (inR v (length k.1)) <|
 .c (Bool) (k.2.1 ((getD k.1 (toNat v) ([] : Y1)), ())) fun r5_ =>
 .t r5_
 (.l (.inr (.inr v)))
 (.l (.inl (wrap .i64 (v + 1)))))
 (.l (.inr (.inl ())))
noncomputable def wagx (k : Y2 × (((HL [y1] → Option (Bool))) × Int)) (v : Int) : Option ((Unit) ⊕ (Int)) := iter (fun v => (wno k v).ev) v
noncomputable def wzc : LD := ⟨(yh [0, 1, 7, 8] (yj [.dat y2, .clo [y1] .bool, .dat yi, .dat yi])), [(0, (yh [] .nil))], (yh [4] (yj [.dat yi])), Y2 × (((HL [y1] → Option (Bool))) × Int), Int, (Unit) ⊕ (Int), fun k v => ((k.1, (k.2.1, (k.2.2, (v, ())))), ()), fun t => (t.1.1, (t.1.2.1, t.1.2.2.1)), fun t => t.1.2.2.2.1, wno, fun _ r => .s (Unit) (Int) r (fun _ => .l (.exit 0 (wbe ((ys [] .nil)) ((), ())))) (fun b => .l (.ret (wbe ((ys [4] (yj [.dat yi]))) ((b, ()), ()))))⟩
noncomputable def wayc (a1_ : List Y1) (a2_ : (HL [y1] → Option (Bool))) : Tr (Int) :=
 .c ((Unit) ⊕ (Int)) (wagx (a1_, (a2_, ((length a1_ : Nat) : Int))) (0 : Int)) fun r7_ =>
 .s (Unit) (Int) r7_
 (fun _ => .l (-1 : Int))
 (fun r9_ => .l r9_)
noncomputable def wanq (a1_ : List Y1) (a2_ : (HL [y1] → Option (Bool))) : Option (Int) := (wayc a1_ a2_).ev
noncomputable def wbkv : RetK := yr [.tmp 4] (yj [.dat yi])
noncomputable def wayd : FD := yd (yj [.dat y2, .clo [y1] .bool]) [] [] Int (fun x => wanq x.1.1 x.1.2.1) (fun r => ([.dat yi r], []))
noncomputable def waye : Env := wac []
noncomputable def wayf : List (Nat × LD) := [(0, wzc)]
noncomputable def wayg : Code := (f107.body).getD .skip
noncomputable def wayh (a1_ : List Y1) (a2_ : (HL [y1] → Option (Bool))) : Tr (Bool) :=
 .c (Int) (wanq a1_ a2_) fun r1_ =>
 .l (decide (0 ≤ r1_))
noncomputable def wanr (a1_ : List Y1) (a2_ : (HL [y1] → Option (Bool))) : Option (Bool) := (wayh a1_ a2_).ev
noncomputable def wbkw : RetK := yr [.tmp 4] (yj [.dat .bool])
noncomputable def wans : FD := yd (yj [.dat y2, .clo [y1] .bool]) [] [] Bool (fun x => wanr x.1.1 x.1.2.1) (fun r => ([.dat .bool r], []))
noncomputable def T_zp (a1_ : Y1) (a2_ : Y1) (_a3_ : List Y1) : Tr (Bool) :=
 .t (((length a1_ : Nat) : Int) != ((length a2_ : Nat) : Int))
 (.l true)
 (.c (Bool) (F_zs a1_ (0 : Int) (99 : Int)) fun r1_ =>
 .l (!r1_))
noncomputable def F_zp (a1_ : Y1) (a2_ : Y1) (a3_ : List Y1) : Option (Bool) := (T_zp a1_ a2_ a3_).ev
noncomputable def K_zp : RetK := yr [.tmp 3] (yj [.dat .bool])
noncomputable def D_zp : FD := yd (yj [.dat y1, .ptr (yj [.dat y1, .dat y2])]) [] [] Bool (fun x => F_zp x.1.1 x.1.2.1.1 x.1.2.1.2.1) (fun r => ([.dat .bool r], []))
noncomputable def T_zo (a1_ : Y1) (a2_ : List Y1) : Tr (Bool) :=
 .c (Bool) (F_zu ((length a1_ : Nat) : Int) (1 : Int) (7 : Int)) fun r1_ =>
 .t r1_
 (.c (Bool) (F_zs a1_ (0 : Int) (99 : Int)) fun r2_ =>
 .t r2_
 (.t (decide (((length a2_ : Nat) : Int) ≤ (7 : Int)))
 (.c (Bool) (wanr a2_ (fun h3_ => Option.bind (F_zp h3_.1 a1_ a2_) fun y4_ => some y4_)) fun r5_ =>
 .l (!r5_))
 (.l false))
 (.l false))
 (.l false)
noncomputable def F_zo (a1_ : Y1) (a2_ : List Y1) : Option (Bool) := (T_zo a1_ a2_).ev
noncomputable def K_zo : RetK := yr [.tmp 2] (yj [.dat .bool])
noncomputable def D_zo : FD := yd (yj [.agg (yj [.dat y1, .dat y2])]) [] [] Bool (fun x => F_zo x.1.1.1 x.1.1.2.1) (fun r => ([.dat .bool r], []))
noncomputable def wpd (k : Y1 × (Int × (Y1 × Int))) (v : Int) : Tr ((Int) ⊕ ((Unit) ⊕ (Unit))) :=
 .t (decide (v < k.2.2.2))
 (.g (inR v (length k.2.2.1)) <|
 .c (Bool) (F_zu (getD k.2.2.1 (toNat v) 0) (0 : Int) (wrap .i64 (k.2.1 - 1))) fun r6_ =>
 .t (!r6_)
 (.l (.inr (.inr ())))
 (.t (decide (0 < v))
 (.g (inR (wrap .i64 (v - 1)) (length k.1)) <|
 .t (decide ((getD k.2.2.1 (toNat v) 0) ≤ (getD k.1 (toNat (wrap .i64 (v - 1))) (0 : Int))))
 (.l (.inr (.inr ())))
 (.l (.inl (wrap .i64 (v + 1)))))
 (.l (.inl (wrap .i64 (v + 1))))))
 (.l (.inr (.inl ())))
noncomputable def wapz (k : Y1 × (Int × (Y1 × Int))) (v : Int) : Option ((Unit) ⊕ (Unit)) := iter (fun v => (wpd k v).ev) v
noncomputable def wagy : LD := ⟨(yh [0, 1, 7, 8, 9] (yj [.dat y1, .dat yi, .dat y1, .dat yi, .dat yi])), [(0, (yh [] .nil))], (yh [4] (yj [.dat .bool])), Y1 × (Int × (Y1 × Int)), Int, (Unit) ⊕ (Unit), fun k v => ((k.1, (k.2.1, (k.2.2.1, (k.2.2.2, (v, ()))))), ()), fun t => (t.1.1, (t.1.2.1, (t.1.2.2.1, t.1.2.2.2.1))), fun t => t.1.2.2.2.2.1, wpd, fun _ r => .s (Unit) (Unit) r (fun _ => .l (.exit 0 (wbe ((ys [] .nil)) ((), ())))) (fun _ => .l (.ret (wbe ((ys [4] (yj [.dat .bool]))) ((false, ()), ()))))⟩
noncomputable def T_zy (a1_ : Y1) (a2_ : Int) : Tr (Bool) :=
 .c ((Unit) ⊕ (Unit)) (wapz (a1_, (a2_, (a1_, ((length a1_ : Nat) : Int)))) (0 : Int)) fun r8_ =>
 .s (Unit) (Unit) r8_
 (fun _ => .l true)
 (fun _ => .l false)
noncomputable def F_zy (a1_ : Y1) (a2_ : Int) : Option (Bool) := (T_zy a1_ a2_).ev
noncomputable def K_zy : RetK := yr [.tmp 4] (yj [.dat .bool])
noncomputable def D_zy : FD := yd (yj [.dat y1, .dat yi]) [] [] Bool (fun x => F_zy x.1.1 x.1.2.1) (fun r => ([.dat .bool r], []))
noncomputable def E_zy : Env := wac [(71, D_zu)]
noncomputable def O_zy : List (Nat × LD) := [(0, wagy)]
noncomputable def C_zy : Code := (f70.body).getD .skip
noncomputable def T_zn (a1_ : Y1) (a2_ : List Y1) (a3_ : Y1) (a4_ : Int) : Tr (Bool) :=
 .c (Bool) (F_zo a1_ a2_) fun r1_ =>
 .t r1_
 (.c (Bool) (F_zy a3_ ((length a1_ : Nat) : Int)) fun r2_ =>
 .t r2_
 (.c (Bool) (F_zu a4_ (0 : Int) (1000 : Int)) fun r3_ =>
 .l r3_)
 (.l false))
 (.l false)
noncomputable def F_zn (a1_ : Y1) (a2_ : List Y1) (a3_ : Y1) (a4_ : Int) : Option (Bool) := (T_zn a1_ a2_ a3_ a4_).ev
noncomputable def K_zn : RetK := yr [.tmp 2] (yj [.dat .bool])
noncomputable def D_zn : FD := yd (yj [.agg (yj [.dat y1, .dat y2, .dat y1, .dat yi])]) [] [] Bool (fun x => F_zn x.1.1.1 x.1.1.2.1 x.1.1.2.2.1 x.1.1.2.2.2.1) (fun r => ([.dat .bool r], []))
noncomputable def T_zf (a1_ : Y1) (_a2_ : List Y1) (a3_ : Y1) : Tr (Bool) :=
 .t (decide ((0 : Int) < ((length a3_ : Nat) : Int)))
 (.c (Bool) (F_zy a3_ ((length a1_ : Nat) : Int)) fun r1_ =>
 .l r1_)
 (.l false)
noncomputable def F_zf (a1_ : Y1) (a2_ : List Y1) (a3_ : Y1) : Option (Bool) := (T_zf a1_ a2_ a3_).ev
noncomputable def K_zf : RetK := yr [.tmp 4] (yj [.dat .bool])
noncomputable def D_zf : FD := yd (yj [.agg (yj [.dat y1, .dat y2]), .dat y1]) [] [] Bool (fun x => F_zf x.1.1.1 x.1.1.2.1 x.1.2.1) (fun r => ([.dat .bool r], []))
noncomputable def T_zw (a1_ : Y1) (a2_ : List Y1) (a3_ : Y1) : Tr (Bool) :=
 .c (Bool) (F_zo a1_ a2_) fun r1_ =>
 .t r1_
 (.c (Bool) (F_zf a1_ a2_ a3_) fun r2_ =>
 .l r2_)
 (.l false)
noncomputable def F_zw (a1_ : Y1) (a2_ : List Y1) (a3_ : Y1) : Option (Bool) := (T_zw a1_ a2_ a3_).ev
noncomputable def K_zw : RetK := yr [.tmp 4] (yj [.dat .bool])
noncomputable def D_zw : FD := yd (yj [.agg (yj [.dat y1, .dat y2]), .dat y1]) [] [] Bool (fun x => F_zw x.1.1.1 x.1.1.2.1 x.1.2.1) (fun r => ([.dat .bool r], []))
noncomputable def wtb (k : Y1 × (Int × (Y1 × Y2))) (v : Int × Int) : Tr ((Int × Int) ⊕ (Int)) :=
 .t (decide (v.2 < k.2.1))
 (.g (inR v.2 (length k.1)) <|
 .g (inR (getD k.1 (toNat v.2) 0) (length k.2.2.1)) <|
 .l (.inl ((wrap .i64 (v.1 + (getD k.2.2.1 (toNat (getD k.1 (toNat v.2) 0)) (0 : Int)))), (wrap .i64 (v.2 + 1)))))
 (.l (.inr v.1))
noncomputable def waqa (k : Y1 × (Int × (Y1 × Y2))) (v : Int × Int) : Option (Int) := iter (fun v => (wtb k v).ev) v
noncomputable def wagz : LD := ⟨{ acts := [], S := { slots := [2, 5, 8, 9, 10], sh := (yj [.box 2 0, .dat yi, .dat y1, .dat yi, .dat yi]), obs := [(2, .cells (yj [.dat y1, .dat y2]))] } }, [(0, (yh [5] (yj [.dat yi])))], (yh [] .nil), Y1 × (Int × (Y1 × Y2)), Int × (Int), Int, fun k v => (((), (v.1, (k.1, (k.2.1, (v.2, ()))))), ((k.2.2.1, (k.2.2.2, ())), ())), fun t => (t.1.2.2.1, (t.1.2.2.2.1, (t.2.1.1, t.2.1.2.1))), fun t => (t.1.2.1, t.1.2.2.2.2.1), wtb, fun _ r => .l (.exit 0 (wbe ((ys [5] (yj [.dat yi]))) ((r, ()), ())))⟩
noncomputable def T_zh (a1_ : Y1) (a2_ : List Y1) (a3_ : Y1) : Tr (Int) :=
 .c (Int) (waqa (a3_, (((length a3_ : Nat) : Int), (a1_, a2_))) ((0 : Int), (0 : Int))) fun r8_ =>
 .l r8_
noncomputable def F_zh (a1_ : Y1) (a2_ : List Y1) (a3_ : Y1) : Option (Int) := (T_zh a1_ a2_ a3_).ev
noncomputable def K_zh : RetK := yr [.tmp 4] (yj [.dat yi])
noncomputable def D_zh : FD := yd (yj [.agg (yj [.dat y1, .dat y2]), .dat y1]) [] [] Int (fun x => F_zh x.1.1.1 x.1.1.2.1 x.1.2.1) (fun r => ([.dat yi r], []))
noncomputable def E_zh : Env := wac []
noncomputable def O_zh : List (Nat × LD) := [(0, wagz)]
noncomputable def C_zh : Code := (f83.body).getD .skip
noncomputable def wtc (k : Int × (Y1 × (Int × (Y1 × Y2)))) (v : Int × Int) : Tr ((Int × Int) ⊕ (Int)) :=
 .t (decide (v.2 < k.2.2.1))
 (.g (inR v.2 (length k.2.1)) <|
 .g (inR k.1 (length k.2.2.2.2)) <|
 .g (inR (getD k.2.1 (toNat v.2) 0) (length (getD k.2.2.2.2 (toNat k.1) ([] : Y1)))) <|
 .g (inR k.1 (length k.2.2.2.2)) <|
 .g (inR v.1 (length (getD k.2.2.2.2 (toNat k.1) ([] : Y1)))) <|
 .t (decide ((getD (getD k.2.2.2.2 (toNat k.1) ([] : Y1)) (toNat (getD k.2.1 (toNat v.2) 0)) (0 : Int)) < (getD (getD k.2.2.2.2 (toNat k.1) ([] : Y1)) (toNat v.1) (0 : Int))))
 (.l (.inl ((getD k.2.1 (toNat v.2) 0), (wrap .i64 (v.2 + 1)))))
 (.l (.inl (v.1, (wrap .i64 (v.2 + 1))))))
 (.l (.inr v.1))
noncomputable def waqb (k : Int × (Y1 × (Int × (Y1 × Y2)))) (v : Int × Int) : Option (Int) := iter (fun v => (wtc k v).ev) v
noncomputable def waha : LD := ⟨{ acts := [], S := { slots := [1, 3, 7, 13, 14, 15], sh := (yj [.dat yi, .box 3 0, .dat yi, .dat y1, .dat yi, .dat yi]), obs := [(3, .cells (yj [.dat y1, .dat y2]))] } }, [(0, (yh [7] (yj [.dat yi])))], (yh [] .nil), Int × (Y1 × (Int × (Y1 × Y2))), Int × (Int), Int, fun k v => ((k.1, ((), (v.1, (k.2.1, (k.2.2.1, (v.2, ())))))), ((k.2.2.2.1, (k.2.2.2.2, ())), ())), fun t => (t.1.1, (t.1.2.2.2.1, (t.1.2.2.2.2.1, (t.2.1.1, t.2.1.2.1)))), fun t => (t.1.2.2.1, t.1.2.2.2.2.2.1), wtc, fun _ r => .l (.exit 0 (wbe ((ys [7] (yj [.dat yi]))) ((r, ()), ())))⟩
noncomputable def T_zk (a1_ : Y1) (a2_ : List Y1) (a3_ : Int) (a4_ : Y1) : Tr (Int) :=
 .g (inR 0 (length a4_)) <|
 .c (Int) (waqb (a3_, (a4_, (((length a4_ : Nat) : Int), (a1_, a2_)))) ((getD a4_ (toNat 0) 0), (0 : Int))) fun r9_ =>
 .l r9_
noncomputable def F_zk (a1_ : Y1) (a2_ : List Y1) (a3_ : Int) (a4_ : Y1) : Option (Int) := (T_zk a1_ a2_ a3_ a4_).ev
noncomputable def K_zk : RetK := yr [.tmp 6] (yj [.dat yi])
noncomputable def D_zk : FD := yd (yj [.agg (yj [.dat y1, .dat y2]), .dat yi, .dat y1]) [] [] Int (fun x => F_zk x.1.1.1 x.1.1.2.1 x.1.2.1 x.1.2.2.1) (fun r => ([.dat yi r], []))
noncomputable def E_zk : Env := wac []
noncomputable def O_zk : List (Nat × LD) := [(0, waha)]
noncomputable def C_zk : Code := (f152.body).getD .skip
noncomputable def wtd (k : Y1 × (Int × (Y1 × Y2))) (v : Int × Y1) : Tr ((Int × Y1) ⊕ Y1) :=
 .t (decide (v.1 < k.2.1))
 (.c (Int) (F_zk k.2.2.1 k.2.2.2 v.1 k.1) fun r7_ =>
 .g (decide ((length v.2 + length ([r7_] : Y1)) * 8 ≤ 140737488355328)) <|
 .l (.inl ((wrap .i64 (v.1 + 1)), (v.2 ++ ([r7_] : Y1)))))
 (.l (.inr v.2))
noncomputable def waqc (k : Y1 × (Int × (Y1 × Y2))) (v : Int × Y1) : Option Y1 := iter (fun v => (wtd k v).ev) v
noncomputable def wahb : LD := ⟨{ acts := [], S := { slots := [1, 2, 5, 10, 11], sh := (yj [.dat y1, .box 2 0, .arr 7, .dat yi, .dat yi]), obs := [(2, .cells (yj [.dat y1, .dat y2])), (7, .arr 3 yi)] } }, [(0, { acts := [], S := { slots := [5], sh := (yj [.arr 7]), obs := [(7, .arr 3 yi)] } })], (yh [] .nil), Y1 × (Int × (Y1 × Y2)), Int × Y1, Y1, fun k v => ((k.1, ((), ((), (k.2.1, (v.1, ()))))), ((k.2.2.1, (k.2.2.2, ())), (v.2, ()))), fun t => (t.1.1, (t.1.2.2.2.1, (t.2.1.1, t.2.1.2.1))), fun t => (t.1.2.2.2.2.1, t.2.2.1), wtd, fun _ r => .l (.exit 0 (wbe ({ slots := [5], sh := (yj [.arr 7]), obs := [(7, .arr 3 yi)] }) (((), ()), (r, ()))))⟩
noncomputable def T_zj (a1_ : Y1) (a2_ : List Y1) (a3_ : Y1) : Tr Y1 :=
 .c Y1 (waqc (a3_, (((length a2_ : Nat) : Int), (a1_, a2_))) ((0 : Int), ([] : Y1))) fun r9_ =>
 .l r9_
noncomputable def F_zj (a1_ : Y1) (a2_ : List Y1) (a3_ : Y1) : Option Y1 := (T_zj a1_ a2_ a3_).ev
noncomputable def K_zj : RetK := { acts := [.ren 7 0], res := [.tmp 4], sh := (yj [.arr 0]), obs := [(0, .arr 3 yi)], pins := [] }
noncomputable def D_zj : FD := yd (yj [.agg (yj [.dat y1, .dat y2]), .dat y1]) [] [] Y1 (fun x => F_zj x.1.1.1 x.1.1.2.1 x.1.2.1) (fun r => ([.arr 0], [(0, .arr 3 yi r)]))
noncomputable def E_zj : Env := wac [(152, D_zk)]
noncomputable def O_zj : List (Nat × LD) := [(0, wahb)]
noncomputable def C_zj : Code := (f128.body).getD .skip
noncomputable def wte (k : Int × (Y1 × (Y2 × Y1))) (v : Int × Y1) : Tr ((Int × Y1) ⊕ Y1) :=
 .t (decide (v.1 < k.1))
 (.g (inR v.1 (length k.2.2.2)) <|
 .g (decide ((toNat v.1) < length k.2.2.2)) <|
 .g (inR v.1 (length k.2.2.1)) <|
 .g (inR (getD k.2.2.2 (toNat v.1) 0) (length (getD k.2.2.1 (toNat v.1) ([] : Y1)))) <|
 .g (decide ((length v.2 + length ([(getD (getD k.2.2.1 (toNat v.1) ([] : Y1)) (toNat (getD k.2.2.2 (toNat v.1) 0)) (0 : Int))] : Y1)) * 8 ≤ 140737488355328)) <|
 .l (.inl ((wrap .i64 (v.1 + 1)), (v.2 ++ ([(getD (getD k.2.2.1 (toNat v.1) ([] : Y1)) (toNat (getD k.2.2.2 (toNat v.1) 0)) (0 : Int))] : Y1)))))
 (.l (.inr v.2))
noncomputable def waqd (k : Int × (Y1 × (Y2 × Y1))) (v : Int × Y1) : Option Y1 := iter (fun v => (wte k v).ev) v
noncomputable def wahc : LD := ⟨{ acts := [], S := { slots := [2, 5, 11, 12, 13], sh := (yj [.box 2 0, .arr 8, .arr 704, .dat yi, .dat yi]), obs := [(2, .cells (yj [.dat y1, .dat y2])), (8, .arr 3 yi), (704, .arr 3 yi)] } }, [(0, { acts := [], S := { slots := [5], sh := (yj [.arr 8]), obs := [(8, .arr 3 yi)] } })], (yh [] .nil), Int × (Y1 × (Y2 × Y1)), Int × Y1, Y1, fun k v => (((), ((), ((), (k.1, (v.1, ()))))), ((k.2.1, (k.2.2.1, ())), (v.2, (k.2.2.2, ())))), fun t => (t.1.2.2.2.1, (t.2.1.1, (t.2.1.2.1, t.2.2.2.1))), fun t => (t.1.2.2.2.2.1, t.2.2.1), wte, fun _ r => .l (.exit 0 (wbe ({ slots := [5], sh := (yj [.arr 8]), obs := [(8, .arr 3 yi)] }) (((), ()), (r, ()))))⟩
noncomputable def T_zg (a1_ : Y1) (a2_ : List Y1) (a3_ : Y1) : Tr Y1 :=
 .c Y1 (F_zj a1_ a2_ a3_) fun r1_ =>
 .c Y1 (waqd (((length r1_ : Nat) : Int), (a1_, (a2_, r1_))) ((0 : Int), ([] : Y1))) fun r9_ =>
 .l r9_
noncomputable def F_zg (a1_ : Y1) (a2_ : List Y1) (a3_ : Y1) : Option Y1 := (T_zg a1_ a2_ a3_).ev
noncomputable def K_zg : RetK := { acts := [.ren 8 0], res := [.tmp 4], sh := (yj [.arr 0]), obs := [(0, .arr 3 yi)], pins := [] }
noncomputable def D_zg : FD := yd (yj [.agg (yj [.dat y1, .dat y2]), .dat y1]) [] [] Y1 (fun x => F_zg x.1.1.1 x.1.1.2.1 x.1.2.1) (fun r => ([.arr 0], [(0, .arr 3 yi r)]))
noncomputable def E_zg : Env := wac [(128, D_zj)]
noncomputable def O_zg : List (Nat × LD) := [(0, wahc)]
noncomputable def C_zg : Code := (f108.body).getD .skip
noncomputable def wkr (k : Y1 × Int) (v : Int × Int) : Tr ((Int × Int) ⊕ (Int)) :=
 .t (decide (v.2 < k.2))
 (.g (inR v.2 (length k.1)) <|
 .l (.inl ((wrap .i64 (v.1 + (getD k.1 (toNat v.2) 0))), (wrap .i64 (v.2 + 1)))))
 (.l (.inr v.1))
noncomputable def wahd (k : Y1 × Int) (v : Int × Int) : Option (Int) := iter (fun v => (wkr k v).ev) v
noncomputable def wahe : LD := ⟨(yh [3, 6, 7, 8] (yj [.dat yi, .dat y1, .dat yi, .dat yi])), [(0, (yh [3] (yj [.dat yi])))], (yh [] .nil), Y1 × (Int), Int × (Int), Int, fun k v => ((v.1, (k.1, (k.2, (v.2, ())))), ()), fun t => (t.1.2.1, t.1.2.2.1), fun t => (t.1.1, t.1.2.2.2.1), wkr, fun _ r => .l (.exit 0 (wbe ((ys [3] (yj [.dat yi]))) ((r, ()), ())))⟩
noncomputable def T_zz (a1_ : Y1) : Tr (Int) :=
 .c (Int) (wahd (a1_, ((length a1_ : Nat) : Int)) ((0 : Int), (0 : Int))) fun r6_ =>
 .l r6_
noncomputable def F_zz (a1_ : Y1) : Option (Int) := (T_zz a1_).ev
noncomputable def K_zz : RetK := yr [.tmp 2] (yj [.dat yi])
noncomputable def D_zz : FD := yd (yj [.dat y1]) [] [] Int (fun x => F_zz x.1.1) (fun r => ([.dat yi r], []))
noncomputable def E_zz : Env := wac []
noncomputable def O_zz : List (Nat × LD) := [(0, wahe)]
noncomputable def C_zz : Code := (f42.body).getD .skip
noncomputable def T_zl (a1_ : Y1) (a2_ : List Y1) (a3_ : Y1) : Tr (Int) :=
 .c Y1 (F_zg a1_ a2_ a3_) fun r1_ =>
 .c (Int) (F_zz r1_) fun r2_ =>
 .l r2_
noncomputable def F_zl (a1_ : Y1) (a2_ : List Y1) (a3_ : Y1) : Option (Int) := (T_zl a1_ a2_ a3_).ev
noncomputable def K_zl : RetK := yr [.tmp 4] (yj [.dat yi])
noncomputable def D_zl : FD := yd (yj [.agg (yj [.dat y1, .dat y2]), .dat y1]) [] [] Int (fun x => F_zl x.1.1.1 x.1.1.2.1 x.1.2.1) (fun r => ([.dat yi r], []))
noncomputable def T_zm (a1_ : Y1) (a2_ : List Y1) (a3_ : Y1) : Tr (Int) :=
 .c (Int) (F_zh a1_ a2_ a3_) fun r1_ =>
 .c (Int) (F_zl a1_ a2_ a3_) fun r2_ =>
 .l (wrap .i64 (r1_ + r2_))
noncomputable def F_zm (a1_ : Y1) (a2_ : List Y1) (a3_ : Y1) : Option (Int) := (T_zm a1_ a2_ a3_).ev
noncomputable def K_zm : RetK := yr [.tmp 4] (yj [.dat yi])
noncomputable def D_zm : FD := yd (yj [.agg (yj [.dat y1, .dat y2]), .dat y1]) [] [] Int (fun x => F_zm x.1.1.1 x.1.1.2.1 x.1.2.1) (fun r => ([.dat yi r], []))
noncomputable def T_zr (a1_ : Y1) (a2_ : List Y1) (a3_ : Y1) : Tr (Int × (Bool)) :=
 .c (Bool) (F_zw a1_ a2_ a3_) fun r1_ =>
 .t (!r1_)
 (.l ((0 : Int), false))
 (.c (Int) (F_zm a1_ a2_ a3_) fun r2_ =>
 .l (r2_, true))
noncomputable def F_zr (a1_ : Y1) (a2_ : List Y1) (a3_ : Y1) : Option (Int × (Bool)) := (T_zr a1_ a2_ a3_).ev
noncomputable def K_zr : RetK := yr [.tmp 4, .tmp 5] (yj [.dat yi, .dat .bool])
noncomputable def D_zr : FD := yd (yj [.agg (yj [.dat y1, .dat y2]), .dat y1]) [] [] (Int × (Bool)) (fun x => F_zr x.1.1.1 x.1.1.2.1 x.1.2.1) (fun r => ([.dat yi r.1, .dat .bool r.2], []))
noncomputable def T_zc (a1_ : Y1) (a2_ : List Y1) (a3_ : Y1) (a4_ : Int) : Tr (Int × (Bool)) :=
 .c (Bool) (F_zn a1_ a2_ a3_ a4_) fun r1_ =>
 .t (!r1_)
 (.l ((0 : Int), false))
 (.c (Int × (Bool)) (F_zr a1_ a2_ a3_) fun r2_ =>
 .l (r2_.1, r2_.2))
noncomputable def F_zc (a1_ : Y1) (a2_ : List Y1) (a3_ : Y1) (a4_ : Int) : Option (Int × (Bool)) := (T_zc a1_ a2_ a3_ a4_).ev
noncomputable def K_zc : RetK := yr [.tmp 2, .tmp 3] (yj [.dat yi, .dat .bool])
noncomputable def D_zc : FD := yd (yj [.agg (yj [.dat y1, .dat y2, .dat y1, .dat yi])]) [] [] (Int × (Bool)) (fun x => F_zc x.1.1.1 x.1.1.2.1 x.1.1.2.2.1 x.1.1.2.2.2.1) (fun r => ([.dat yi r.1, .dat .bool r.2], []))
noncomputable def wjv (k : Y1) (v : Int × Int) : Tr ((Int × Int) ⊕ (Int)) :=
 .t (decide (v.2 < ((length k : Nat) : Int)))
 (.g (inR v.2 (length k)) <|
 .l (.inl ((if (getD k (toNat v.2) 0) < v.1 then (getD k (toNat v.2) 0) else v.1), (wrap .i64 (v.2 + 1)))))
 (.l (.inr v.1))
noncomputable def wahf (k : Y1) (v : Int × Int) : Option (Int) := iter (fun v => (wjv k v).ev) v
noncomputable def wzd : LD := ⟨(yh [0, 3, 4] (yj [.dat y1, .dat yi, .dat yi])), [(0, (yh [3] (yj [.dat yi])))], (yh [] .nil), Y1, Int × (Int), Int, fun k v => ((k, (v.1, (v.2, ()))), ()), fun t => t.1.1, fun t => (t.1.2.1, t.1.2.2.1), wjv, fun _ r => .l (.exit 0 (wbe ((ys [3] (yj [.dat yi]))) ((r, ()), ())))⟩
noncomputable def wayj (a1_ : Y1) : Tr (Int) :=
 .t (decide (((length a1_ : Nat) : Int) < (1 : Int)))
 (.f)
 (.g (inR 0 (length a1_)) <|
 .c (Int) (wahf a1_ ((getD a1_ (toNat 0) 0), (1 : Int))) fun r5_ =>
 .l r5_)
noncomputable def wahg (a1_ : Y1) : Option (Int) := (wayj a1_).ev
noncomputable def wbmm : RetK := yr [.tmp 2] (yj [.dat yi])
noncomputable def wanu : FD := yd (yj [.dat y1]) [] [] Int (fun x => wahg x.1.1) (fun r => ([.dat yi r], []))
noncomputable def wayk : Env := wac []
noncomputable def wayl : List (Nat × LD) := [(0, wzd)]
noncomputable def waym : Code := (f50.body).getD .skip
noncomputable def wtf (k : Y1 × (Int × (Int × (Y2 × (Int × (Int × (Y1 × Int))))))) (v : Int × Y1) : Tr ((Int × Y1) ⊕ Y1) :=
 .t (decide (v.1 < k.2.2.2.2.2.2.2))
 (.g (inR v.1 (length k.2.2.2.2.2.2.1)) <|
 .g (inR v.1 (length v.2)) <|
 .g (decide ((toNat v.1) < length v.2)) <|
 .g (inR k.2.2.1 (length k.1)) <|
 .g (inR v.1 (length v.2)) <|
 .g (decide ((toNat v.1) < length v.2)) <|
 .l (.inl ((wrap .i64 (v.1 + 1)), (set v.2 (toNat v.1) (wrap .i64 ((getD v.2 (toNat v.1) 0) + (if (0 : Int) < (wrap .i64 ((getD k.1 (toNat k.2.2.1) 0) - (wrap .i64 ((getD k.2.2.2.2.2.2.1 (toNat v.1) 0) * k.2.1)))) then (wrap .i64 ((getD k.1 (toNat k.2.2.1) 0) - (wrap .i64 ((getD k.2.2.2.2.2.2.1 (toNat v.1) 0) * k.2.1)))) else (0 : Int))))))))
 (.l (.inr v.2))
noncomputable def waqf (k : Y1 × (Int × (Int × (Y2 × (Int × (Int × (Y1 × Int))))))) (v : Int × Y1) : Option Y1 := iter (fun v => (wtf k v).ev) v
noncomputable def wahh : LD := ⟨{ acts := [], S := { slots := [1, 2, 7, 8, 17, 18, 19, 24, 25, 26], sh := (yj [.dat y1, .dat yi, .arr 15, .dat yi, .dat y2, .dat yi, .dat yi, .dat y1, .dat yi, .dat yi]), obs := [(15, .arr 3 yi)] } }, [(2, { acts := [], S := { slots := [1, 2, 7, 17, 18, 19], sh := (yj [.dat y1, .dat yi, .arr 15, .dat y2, .dat yi, .dat yi]), obs := [(15, .arr 3 yi)] } })], (yh [] .nil), Y1 × (Int × (Int × (Y2 × (Int × (Int × (Y1 × Int)))))), Int × Y1, Y1, fun k v => ((k.1, (k.2.1, ((), (k.2.2.1, (k.2.2.2.1, (k.2.2.2.2.1, (k.2.2.2.2.2.1, (k.2.2.2.2.2.2.1, (k.2.2.2.2.2.2.2, (v.1, ())))))))))), (v.2, ())), fun t => (t.1.1, (t.1.2.1, (t.1.2.2.2.1, (t.1.2.2.2.2.1, (t.1.2.2.2.2.2.1, (t.1.2.2.2.2.2.2.1, (t.1.2.2.2.2.2.2.2.1, t.1.2.2.2.2.2.2.2.2.1))))))), fun t => (t.1.2.2.2.2.2.2.2.2.2.1, t.2.1), wtf, fun k r => .l (.exit 2 (wbe ({ slots := [1, 2, 7, 17, 18, 19], sh := (yj [.dat y1, .dat yi, .arr 15, .dat y2, .dat yi, .dat yi]), obs := [(15, .arr 3 yi)] }) ((k.1, (k.2.1, ((), (k.2.2.2.1, (k.2.2.2.2.1, (k.2.2.2.2.2.1, ())))))), (r, ()))))⟩
noncomputable def wtg (k : Y1 × (Int × (Y2 × Int))) (v : Int × Y1) : Tr ((Int × Y1) ⊕ Y1) :=
 .t (decide (v.1 < k.2.2.2))
 (.g (inR v.1 (length k.2.2.1)) <|
 .c Y1 (waqf (k.1, (k.2.1, (v.1, (k.2.2.1, (k.2.2.2, (v.1, ((getD k.2.2.1 (toNat v.1) ([] : Y1)), ((length (getD k.2.2.1 (toNat v.1) ([] : Y1)) : Nat) : Int)))))))) ((0 : Int), v.2)) fun r23_ =>
 .l (.inl ((wrap .i64 (v.1 + 1)), r23_)))
 (.l (.inr v.2))
noncomputable def waqg (k : Y1 × (Int × (Y2 × Int))) (v : Int × Y1) : Option Y1 := iter (fun v => (wtg k v).ev) v
noncomputable def wahi : LD := ⟨{ acts := [], S := { slots := [1, 2, 7, 17, 18, 19], sh := (yj [.dat y1, .dat yi, .arr 15, .dat y2, .dat yi, .dat yi]), obs := [(15, .arr 3 yi)] } }, [(0, { acts := [], S := { slots := [7], sh := (yj [.arr 15]), obs := [(15, .arr 3 yi)] } })], (yh [] .nil), Y1 × (Int × (Y2 × Int)), Int × Y1, Y1, fun k v => ((k.1, (k.2.1, ((), (k.2.2.1, (k.2.2.2, (v.1, ())))))), (v.2, ())), fun t => (t.1.1, (t.1.2.1, (t.1.2.2.2.1, t.1.2.2.2.2.1))), fun t => (t.1.2.2.2.2.2.1, t.2.1), wtg, fun _ r => .l (.exit 0 (wbe ({ slots := [7], sh := (yj [.arr 15]), obs := [(15, .arr 3 yi)] }) (((), ()), (r, ()))))⟩
noncomputable def T_ze (a1_ : Y1) (a2_ : List Y1) (a3_ : Y1) (a4_ : Int) : Tr Y1 :=
 .g (decide ((0 : Int) ≤ ((length a1_ : Nat) : Int)) && decide (((length a1_ : Nat) : Int) ≤ ((length a1_ : Nat) : Int)) && decide (((8 : Nat) : Int) * ((length a1_ : Nat) : Int) ≤ 281474976710656)) <|
 .c Y1 (waqg (a3_, (a4_, (a2_, ((length a2_ : Nat) : Int)))) ((0 : Int), (List.replicate (toNat ((length a1_ : Nat) : Int)) (0 : Int)))) fun r25_ =>
 .l r25_
noncomputable def F_ze (a1_ : Y1) (a2_ : List Y1) (a3_ : Y1) (a4_ : Int) : Option Y1 := (T_ze a1_ a2_ a3_ a4_).ev
noncomputable def K_ze : RetK := { acts := [.ren 15 0], res := [.tmp 6], sh := (yj [.arr 0]), obs := [(0, .arr 3 yi)], pins := [] }
noncomputable def D_ze : FD := yd (yj [.agg (yj [.dat y1, .dat y2]), .dat y1, .dat yi]) [] [] Y1 (fun x => F_ze x.1.1.1 x.1.1.2.1 x.1.2.1 x.1.2.2.1) (fun r => ([.arr 0], [(0, .arr 3 yi r)]))
noncomputable def E_ze : Env := wac []
noncomputable def O_ze : List (Nat × LD) := [(2, wahh), (0, wahi)]
noncomputable def C_ze : Code := (f80.body).getD .skip
noncomputable def wth (k : Int × (Y1 × Y2)) (v : Int × Y1) : Tr ((Int × Y1) ⊕ Y1) :=
 .t (decide (v.1 < k.1))
 (.g (inR v.1 (length v.2)) <|
 .g (decide ((toNat v.1) < length v.2)) <|
 .g (inR v.1 (length k.2.1)) <|
 .g (inR v.1 (length v.2)) <|
 .g (decide ((toNat v.1) < length v.2)) <|
 .l (.inl ((wrap .i64 (v.1 + 1)), (set v.2 (toNat v.1) (wrap .i64 ((getD k.2.1 (toNat v.1) 0) - (getD v.2 (toNat v.1) 0)))))))
 (.l (.inr v.2))
noncomputable def waqh (k : Int × (Y1 × Y2)) (v : Int × Y1) : Option Y1 := iter (fun v => (wth k v).ev) v
noncomputable def wahj : LD := ⟨{ acts := [], S := { slots := [2, 5, 11, 12, 13], sh := (yj [.box 2 0, .arr 640, .arr 640, .dat yi, .dat yi]), obs := [(2, .cells (yj [.dat y1, .dat y2])), (640, .arr 3 yi)] } }, [(0, { acts := [], S := { slots := [5], sh := (yj [.arr 640]), obs := [(640, .arr 3 yi)] } })], (yh [] .nil), Int × (Y1 × Y2), Int × Y1, Y1, fun k v => (((), ((), ((), (k.1, (v.1, ()))))), ((k.2.1, (k.2.2, ())), (v.2, ()))), fun t => (t.1.2.2.2.1, (t.2.1.1, t.2.1.2.1)), fun t => (t.1.2.2.2.2.1, t.2.2.1), wth, fun _ r => .l (.exit 0 (wbe ({ slots := [5], sh := (yj [.arr 640]), obs := [(640, .arr 3 yi)] }) (((), ()), (r, ()))))⟩
noncomputable def T_zi (a1_ : Y1) (a2_ : List Y1) (a3_ : Y1) : Tr Y1 :=
 .c Y1 (F_ze a1_ a2_ a3_ (1 : Int)) fun r1_ =>
 .c Y1 (waqh (((length r1_ : Nat) : Int), (a1_, a2_)) ((0 : Int), r1_)) fun r8_ =>
 .l r8_
noncomputable def F_zi (a1_ : Y1) (a2_ : List Y1) (a3_ : Y1) : Option Y1 := (T_zi a1_ a2_ a3_).ev
noncomputable def K_zi : RetK := { acts := [.ren 640 0], res := [.tmp 4], sh := (yj [.arr 0]), obs := [(0, .arr 3 yi)], pins := [] }
noncomputable def D_zi : FD := yd (yj [.agg (yj [.dat y1, .dat y2]), .dat y1]) [] [] Y1 (fun x => F_zi x.1.1.1 x.1.1.2.1 x.1.2.1) (fun r => ([.arr 0], [(0, .arr 3 yi r)]))
noncomputable def E_zi : Env := wac [(80, D_ze)]
noncomputable def O_zi : List (Nat × LD) := [(0, wahj)]
noncomputable def C_zi : Code := (f51.body).getD .skip
noncomputable def wti (k : Y2 × (Int × (Y1 × Y2))) (v : Int × Y1) : Tr ((Int × Y1) ⊕ Y1) :=
 .t (decide (v.1 < k.2.1))
 (.g (inR v.1 (length k.1)) <|
 .c (Int) (wahg (getD k.1 (toNat v.1) ([] : Y1))) fun r8_ =>
 .g (decide ((length v.2 + length ([r8_] : Y1)) * 8 ≤ 140737488355328)) <|
 .l (.inl ((wrap .i64 (v.1 + 1)), (v.2 ++ ([r8_] : Y1)))))
 (.l (.inr v.2))
noncomputable def wahk (k : Y2 × (Int × (Y1 × Y2))) (v : Int × Y1) : Option Y1 := iter (fun v => (wti k v).ev) v
noncomputable def wahl : LD := ⟨{ acts := [], S := { slots := [1, 4, 21, 22, 23], sh := (yj [.box 1 0, .arr 19, .dat y2, .dat yi, .dat yi]), obs := [(1, .cells (yj [.dat y1, .dat y2])), (19, .arr 3 yi)] } }, [(0, { acts := [], S := { slots := [1, 4], sh := (yj [.box 1 0, .arr 19]), obs := [(1, .cells (yj [.dat y1, .dat y2])), (19, .arr 3 yi)] } })], (yh [] .nil), Y2 × (Int × (Y1 × Y2)), Int × Y1, Y1, fun k v => (((), ((), (k.1, (k.2.1, (v.1, ()))))), ((k.2.2.1, (k.2.2.2, ())), (v.2, ()))), fun t => (t.1.2.2.1, (t.1.2.2.2.1, (t.2.1.1, t.2.1.2.1))), fun t => (t.1.2.2.2.2.1, t.2.2.1), wti, fun k r => .l (.exit 0 (wbe ({ slots := [1, 4], sh := (yj [.box 1 0, .arr 19]), obs := [(1, .cells (yj [.dat y1, .dat y2])), (19, .arr 3 yi)] }) (((), ((), ())), ((k.2.2.1, (k.2.2.2, ())), (r, ())))))⟩
noncomputable def wgl (k : Bool × (Int × (Y2 × (Int × (Int × (Y1 × (Int × (Y1 × (Y2 × (Y1 × Y1)))))))))) (v : Int × (Int × Int)) : Tr ((Int × (Int × Int)) ⊕ (Int × Int)) :=
 .t (decide (v.2.2 < k.2.2.2.2.2.2.1))
 (.g (inR v.2.2 (length k.2.2.2.2.2.1)) <|
 .g (inR k.2.1 (length k.2.2.2.2.2.2.2.2.2.1)) <|
 .g (decide ((toNat k.2.1) < length k.2.2.2.2.2.2.2.2.2.1)) <|
 .t (decide ((getD k.2.2.2.2.2.2.2.2.2.1 (toNat k.2.1) 0) < (getD k.2.2.2.2.2.1 (toNat v.2.2) 0)))
 (.t (decide (v.1 < 0))
 (.l (.inl ((getD k.2.2.2.2.2.1 (toNat v.2.2) 0), (v.2.1, (wrap .i64 (v.2.2 + 1))))))
 (.t (decide ((getD k.2.2.2.2.2.1 (toNat v.2.2) 0) < v.1))
 (.l (.inl ((getD k.2.2.2.2.2.1 (toNat v.2.2) 0), (v.2.1, (wrap .i64 (v.2.2 + 1))))))
 (.g (inR k.2.1 (length k.2.2.2.2.2.2.2.2.2.1)) <|
 .g (decide ((toNat k.2.1) < length k.2.2.2.2.2.2.2.2.2.1)) <|
 .t (decide ((getD k.2.2.2.2.2.1 (toNat v.2.2) 0) ≤ (getD k.2.2.2.2.2.2.2.2.2.1 (toNat k.2.1) 0)))
 (.t (decide (v.2.1 < 0))
 (.g (inR v.2.2 (length k.2.2.2.2.2.2.2.2.2.2)) <|
 .g (decide ((toNat v.2.2) < length k.2.2.2.2.2.2.2.2.2.2)) <|
 .l (.inl (v.1, ((getD k.2.2.2.2.2.2.2.2.2.2 (toNat v.2.2) 0), (wrap .i64 (v.2.2 + 1))))))
 (.g (inR v.2.2 (length k.2.2.2.2.2.2.2.2.2.2)) <|
 .g (decide ((toNat v.2.2) < length k.2.2.2.2.2.2.2.2.2.2)) <|
 .t (decide ((getD k.2.2.2.2.2.2.2.2.2.2 (toNat v.2.2) 0) < v.2.1))
 (.g (inR v.2.2 (length k.2.2.2.2.2.2.2.2.2.2)) <|
 .g (decide ((toNat v.2.2) < length k.2.2.2.2.2.2.2.2.2.2)) <|
 .l (.inl (v.1, ((getD k.2.2.2.2.2.2.2.2.2.2 (toNat v.2.2) 0), (wrap .i64 (v.2.2 + 1))))))
 (.l (.inl (v.1, (v.2.1, (wrap .i64 (v.2.2 + 1))))))))
 (.l (.inl (v.1, (v.2.1, (wrap .i64 (v.2.2 + 1)))))))))
 (.g (inR k.2.1 (length k.2.2.2.2.2.2.2.2.2.1)) <|
 .g (decide ((toNat k.2.1) < length k.2.2.2.2.2.2.2.2.2.1)) <|
 .t (decide ((getD k.2.2.2.2.2.1 (toNat v.2.2) 0) ≤ (getD k.2.2.2.2.2.2.2.2.2.1 (toNat k.2.1) 0)))
 (.t (decide (v.2.1 < 0))
 (.g (inR v.2.2 (length k.2.2.2.2.2.2.2.2.2.2)) <|
 .g (decide ((toNat v.2.2) < length k.2.2.2.2.2.2.2.2.2.2)) <|
 .l (.inl (v.1, ((getD k.2.2.2.2.2.2.2.2.2.2 (toNat v.2.2) 0), (wrap .i64 (v.2.2 + 1))))))
 (.g (inR v.2.2 (length k.2.2.2.2.2.2.2.2.2.2)) <|
 .g (decide ((toNat v.2.2) < length k.2.2.2.2.2.2.2.2.2.2)) <|
 .t (decide ((getD k.2.2.2.2.2.2.2.2.2.2 (toNat v.2.2) 0) < v.2.1))
 (.g (inR v.2.2 (length k.2.2.2.2.2.2.2.2.2.2)) <|
 .g (decide ((toNat v.2.2) < length k.2.2.2.2.2.2.2.2.2.2)) <|
 .l (.inl (v.1, ((getD k.2.2.2.2.2.2.2.2.2.2 (toNat v.2.2) 0), (wrap .i64 (v.2.2 + 1))))))
 (.l (.inl (v.1, (v.2.1, (wrap .i64 (v.2.2 + 1))))))))
 (.l (.inl (v.1, (v.2.1, (wrap .i64 (v.2.2 + 1))))))))
 (.l (.inr (v.1, v.2.1)))
noncomputable def waqi (k : Bool × (Int × (Y2 × (Int × (Int × (Y1 × (Int × (Y1 × (Y2 × (Y1 × Y1)))))))))) (v : Int × (Int × Int)) : Option (Int × Int) := iter (fun v => (wgl k v).ev) v
noncomputable def wahm : LD := ⟨{ acts := [], S := { slots := [1, 4, 7, 8, 10, 11, 12, 35, 36, 37, 45, 46, 47], sh := (yj [.box 1 0, .arr 19, .dat .bool, .dat yi, .arr 2816, .dat yi, .dat yi, .dat y2, .dat yi, .dat yi, .dat y1, .dat yi, .dat yi]), obs := [(1, .cells (yj [.dat y1, .dat y2])), (19, .arr 3 yi), (2816, .arr 3 yi)] } }, [(6, { acts := [], S := { slots := [1, 4, 7, 8, 11, 12, 35, 36, 37], sh := (yj [.box 1 0, .arr 19, .dat .bool, .dat yi, .dat yi, .dat yi, .dat y2, .dat yi, .dat yi]), obs := [(1, .cells (yj [.dat y1, .dat y2])), (19, .arr 3 yi)] } })], (yh [] .nil), Bool × (Int × (Y2 × (Int × (Int × (Y1 × (Int × (Y1 × (Y2 × (Y1 × Y1))))))))), Int × (Int × Int), Int × (Int), fun k v => (((), ((), (k.1, (k.2.1, ((), (v.1, (v.2.1, (k.2.2.1, (k.2.2.2.1, (k.2.2.2.2.1, (k.2.2.2.2.2.1, (k.2.2.2.2.2.2.1, (v.2.2, ()))))))))))))), ((k.2.2.2.2.2.2.2.1, (k.2.2.2.2.2.2.2.2.1, ())), (k.2.2.2.2.2.2.2.2.2.1, (k.2.2.2.2.2.2.2.2.2.2, ())))), fun t => (t.1.2.2.1, (t.1.2.2.2.1, (t.1.2.2.2.2.2.2.2.1, (t.1.2.2.2.2.2.2.2.2.1, (t.1.2.2.2.2.2.2.2.2.2.1, (t.1.2.2.2.2.2.2.2.2.2.2.1, (t.1.2.2.2.2.2.2.2.2.2.2.2.1, (t.2.1.1, (t.2.1.2.1, (t.2.2.1, t.2.2.2.1)))))))))), fun t => (t.1.2.2.2.2.2.1, (t.1.2.2.2.2.2.2.1, t.1.2.2.2.2.2.2.2.2.2.2.2.2.1)), wgl, fun k r => .l (.exit 6 (wbe ({ slots := [1, 4, 7, 8, 11, 12, 35, 36, 37], sh := (yj [.box 1 0, .arr 19, .dat .bool, .dat yi, .dat yi, .dat yi, .dat y2, .dat yi, .dat yi]), obs := [(1, .cells (yj [.dat y1, .dat y2])), (19, .arr 3 yi)] }) (((), ((), (k.1, (k.2.1, (r.1, (r.2, (k.2.2.1, (k.2.2.2.1, (k.2.2.2.2.1, ()))))))))), ((k.2.2.2.2.2.2.2.1, (k.2.2.2.2.2.2.2.2.1, ())), (k.2.2.2.2.2.2.2.2.2.1, ())))))⟩
noncomputable def wic (k : Y2 × (Int × (Y1 × Y2))) (v : Bool × (Int × Y1)) : Tr ((Bool × (Int × Y1)) ⊕ (Bool × Y1)) :=
 .t (decide (v.2.1 < k.2.1))
 (.g (inR v.2.1 (length k.1)) <|
 .c Y1 (F_zi k.2.2.1 k.2.2.2 v.2.2) fun r24_ =>
 .c (Int × Int) (waqi (v.1, (v.2.1, (k.1, (k.2.1, (v.2.1, ((getD k.1 (toNat v.2.1) ([] : Y1)), (((length (getD k.1 (toNat v.2.1) ([] : Y1)) : Nat) : Int), (k.2.2.1, (k.2.2.2, (v.2.2, r24_)))))))))) ((-1 : Int), ((-1 : Int), (0 : Int)))) fun r49_ =>
 .g (inR v.2.1 (length v.2.2)) <|
 .g (decide ((toNat v.2.1) < length v.2.2)) <|
 .t (decide (0 ≤ r49_.1))
 (.t v.1
 (.g (inR v.2.1 (length v.2.2)) <|
 .g (decide ((toNat v.2.1) < length v.2.2)) <|
 .l (.inl (true, ((wrap .i64 (v.2.1 + 1)), (set v.2.2 (toNat v.2.1) (if r49_.1 < (wrap .i64 ((getD v.2.2 (toNat v.2.1) 0) + r49_.2)) then r49_.1 else (wrap .i64 ((getD v.2.2 (toNat v.2.1) 0) + r49_.2))))))))
 (.g (inR v.2.1 (length v.2.2)) <|
 .g (decide ((toNat v.2.1) < length v.2.2)) <|
 .g (inR v.2.1 (length v.2.2)) <|
 .g (decide ((toNat v.2.1) < length v.2.2)) <|
 .l (.inl ((decide ((getD v.2.2 (toNat v.2.1) 0) < (if r49_.1 < (wrap .i64 ((getD v.2.2 (toNat v.2.1) 0) + r49_.2)) then r49_.1 else (wrap .i64 ((getD v.2.2 (toNat v.2.1) 0) + r49_.2))))), ((wrap .i64 (v.2.1 + 1)), (set v.2.2 (toNat v.2.1) (if r49_.1 < (wrap .i64 ((getD v.2.2 (toNat v.2.1) 0) + r49_.2)) then r49_.1 else (wrap .i64 ((getD v.2.2 (toNat v.2.1) 0) + r49_.2)))))))))
 (.t v.1
 (.g (inR v.2.1 (length v.2.2)) <|
 .g (decide ((toNat v.2.1) < length v.2.2)) <|
 .l (.inl (true, ((wrap .i64 (v.2.1 + 1)), (set v.2.2 (toNat v.2.1) (wrap .i64 ((getD v.2.2 (toNat v.2.1) 0) + r49_.2)))))))
 (.g (inR v.2.1 (length v.2.2)) <|
 .g (decide ((toNat v.2.1) < length v.2.2)) <|
 .g (inR v.2.1 (length v.2.2)) <|
 .g (decide ((toNat v.2.1) < length v.2.2)) <|
 .l (.inl ((decide ((getD v.2.2 (toNat v.2.1) 0) < (wrap .i64 ((getD v.2.2 (toNat v.2.1) 0) + r49_.2)))), ((wrap .i64 (v.2.1 + 1)), (set v.2.2 (toNat v.2.1) (wrap .i64 ((getD v.2.2 (toNat v.2.1) 0) + r49_.2)))))))))
 (.l (.inr (v.1, v.2.2)))
noncomputable def waqj (k : Y2 × (Int × (Y1 × Y2))) (v : Bool × (Int × Y1)) : Option (Bool × Y1) := iter (fun v => (wic k v).ev) v
noncomputable def wahn : LD := ⟨{ acts := [], S := { slots := [1, 4, 7, 35, 36, 37], sh := (yj [.box 1 0, .arr 19, .dat .bool, .dat y2, .dat yi, .dat yi]), obs := [(1, .cells (yj [.dat y1, .dat y2])), (19, .arr 3 yi)] } }, [(4, { acts := [], S := { slots := [1, 4, 7], sh := (yj [.box 1 0, .arr 19, .dat .bool]), obs := [(1, .cells (yj [.dat y1, .dat y2])), (19, .arr 3 yi)] } })], (yh [] .nil), Y2 × (Int × (Y1 × Y2)), Bool × (Int × Y1), Bool × Y1, fun k v => (((), ((), (v.1, (k.1, (k.2.1, (v.2.1, ())))))), ((k.2.2.1, (k.2.2.2, ())), (v.2.2, ()))), fun t => (t.1.2.2.2.1, (t.1.2.2.2.2.1, (t.2.1.1, t.2.1.2.1))), fun t => (t.1.2.2.1, (t.1.2.2.2.2.2.1, t.2.2.1)), wic, fun k r => .l (.exit 4 (wbe ({ slots := [1, 4, 7], sh := (yj [.box 1 0, .arr 19, .dat .bool]), obs := [(1, .cells (yj [.dat y1, .dat y2])), (19, .arr 3 yi)] }) (((), ((), (r.1, ()))), ((k.2.2.1, (k.2.2.2, ())), (r.2, ())))))⟩
noncomputable def wnp (k : Y1 × Y2) (v : Bool × Y1) : Tr ((Bool × Y1) ⊕ Y1) :=
 .t v.1
 (.c (Bool × Y1) (waqj (k.2, (((length k.2 : Nat) : Int), (k.1, k.2))) (false, ((0 : Int), v.2))) fun r54_ =>
 .l (.inl (r54_.1, r54_.2)))
 (.l (.inr v.2))
noncomputable def waqk (k : Y1 × Y2) (v : Bool × Y1) : Option Y1 := iter (fun v => (wnp k v).ev) v
noncomputable def waho : LD := ⟨{ acts := [], S := { slots := [1, 4, 7], sh := (yj [.box 1 0, .arr 19, .dat .bool]), obs := [(1, .cells (yj [.dat y1, .dat y2])), (19, .arr 3 yi)] } }, [(2, { acts := [], S := { slots := [4], sh := (yj [.arr 19]), obs := [(19, .arr 3 yi)] } })], (yh [] .nil), Y1 × Y2, Bool × Y1, Y1, fun k v => (((), ((), (v.1, ()))), ((k.1, (k.2, ())), (v.2, ()))), fun t => (t.2.1.1, t.2.1.2.1), fun t => (t.1.2.2.1, t.2.2.1), wnp, fun _ r => .l (.exit 2 (wbe ({ slots := [4], sh := (yj [.arr 19]), obs := [(19, .arr 3 yi)] }) (((), ()), (r, ()))))⟩
noncomputable def T_za (a1_ : Y1) (a2_ : List Y1) : Tr (Bool × Y1) :=
 .c (Bool) (F_zo a1_ a2_) fun r1_ =>
 .t (!r1_)
 (.l (false, ([] : Y1)))
 (.c Y1 (wahk (a2_, (((length a2_ : Nat) : Int), (a1_, a2_))) ((0 : Int), ([] : Y1))) fun r12_ =>
 .c Y1 (waqk (a1_, a2_) (true, r12_)) fun r56_ =>
 .l (true, r56_))
noncomputable def F_za (a1_ : Y1) (a2_ : List Y1) : Option (Bool × Y1) := (T_za a1_ a2_).ev
noncomputable def K_za : RetK := { acts := [.own 2 0 3 yi, .ren 19 0], res := [.tmp 2, .tmp 3], sh := (yj [.arr 0, .dat .bool]), obs := [(0, .arr 3 yi)], pins := [] }
noncomputable def D_za : FD := yd (yj [.agg (yj [.dat y1, .dat y2])]) [] [] (Bool × Y1) (fun x => F_za x.1.1.1 x.1.1.2.1) (fun r => ([.arr 0, .dat .bool r.1], [(0, .arr 3 yi r.2)]))
noncomputable def E_za : Env := wac [(49, D_zo), (50, wanu), (51, D_zi)]
noncomputable def O_za : List (Nat × LD) := [(0, wahl), (6, wahm), (4, wahn), (2, waho)]
noncomputable def C_za : Code := (f26.body).getD .skip
noncomputable def T_zb (a1_ : Y1) (a2_ : List Y1) (a3_ : Y1) (a4_ : Int) : Tr (Int × (Bool)) :=
 .c (Int × (Bool)) (F_zc a1_ a2_ a3_ a4_) fun r1_ =>
 .t (!r1_.2)
 (.l ((0 : Int), false))
 (.c (Bool × Y1) (F_za a1_ a2_) fun r2_ =>
 .c (Int) (F_zz r2_.2) fun r3_ =>
 .l ((wrap .i64 (r1_.1 - r3_)), true))
noncomputable def F_zb (a1_ : Y1) (a2_ : List Y1) (a3_ : Y1) (a4_ : Int) : Option (Int × (Bool)) := (T_zb a1_ a2_ a3_ a4_).ev
noncomputable def K_zb : RetK := yr [.tmp 2, .tmp 3] (yj [.dat yi, .dat .bool])
noncomputable def D_zb : FD := yd (yj [.agg (yj [.dat y1, .dat y2, .dat y1, .dat yi])]) [] [] (Int × (Bool)) (fun x => F_zb x.1.1.1 x.1.1.2.1 x.1.1.2.2.1 x.1.1.2.2.2.1) (fun r => ([.dat yi r.1, .dat .bool r.2], []))
noncomputable def wayn (a1_ : Y1) (a2_ : List Y1) (a3_ : Y1) (a4_ : Int) : Tr (Int × (Bool)) :=
 .c (Bool) (wabk a1_ a2_ a3_ a4_) fun r1_ =>
 .t (!r1_)
 (.l ((0 : Int), false))
 (.t (((length a3_ : Nat) : Int) == (0 : Int))
 (.l ((0 : Int), false))
 (.c (Int) (woj a1_ a2_ a3_) fun r2_ =>
 .l (r2_, true)))
noncomputable def wahp (a1_ : Y1) (a2_ : List Y1) (a3_ : Y1) (a4_ : Int) : Option (Int × (Bool)) := (wayn a1_ a2_ a3_ a4_).ev
noncomputable def wbmv : RetK := yr [.tmp 2, .tmp 3] (yj [.dat yi, .dat .bool])
noncomputable def wanv : FD := yd (yj [.agg (yj [.dat y1, .dat y2, .dat y1, .dat yi])]) [] [] (Int × (Bool)) (fun x => wahp x.1.1.1 x.1.1.2.1 x.1.1.2.2.1 x.1.1.2.2.2.1) (fun r => ([.dat yi r.1, .dat .bool r.2], []))
noncomputable def wnq (k : Y1 × (Int × (Int × (Y1 × Y2)))) (v : Int × Int) : Tr ((Int × Int) ⊕ (Int)) :=
 .t (decide (v.2 < ((length k.1 : Nat) : Int)))
 (.g (inR v.2 (length k.1)) <|
 .g (inR v.2 (length k.2.2.2.2)) <|
 .g (inR k.2.1 (length (getD k.2.2.2.2 (toNat v.2) ([] : Y1)))) <|
 .c (Int) (wvg (0 : Int) (wrap .i64 ((getD k.1 (toNat v.2) 0) - (wrap .i64 (k.2.2.1 * (getD (getD k.2.2.2.2 (toNat v.2) ([] : Y1)) (toNat k.2.1) (0 : Int))))))) fun r8_ =>
 .l (.inl ((wrap .i64 (v.1 + r8_)), (wrap .i64 (v.2 + 1)))))
 (.l (.inr v.1))
noncomputable def wahq (k : Y1 × (Int × (Int × (Y1 × Y2)))) (v : Int × Int) : Option (Int) := iter (fun v => (wnq k v).ev) v
noncomputable def wze : LD := ⟨{ acts := [], S := { slots := [1, 2, 3, 4, 9, 10], sh := (yj [.dat y1, .dat yi, .dat yi, .box 4 0, .dat yi, .dat yi]), obs := [(4, .cells (yj [.dat y1, .dat y2]))] } }, [(0, (yh [9] (yj [.dat yi])))], (yh [] .nil), Y1 × (Int × (Int × (Y1 × Y2))), Int × (Int), Int, fun k v => ((k.1, (k.2.1, (k.2.2.1, ((), (v.1, (v.2, ())))))), ((k.2.2.2.1, (k.2.2.2.2, ())), ())), fun t => (t.1.1, (t.1.2.1, (t.1.2.2.1, (t.2.1.1, t.2.1.2.1)))), fun t => (t.1.2.2.2.2.1, t.1.2.2.2.2.2.1), wnq, fun _ r => .l (.exit 0 (wbe ((ys [9] (yj [.dat yi]))) ((r, ()), ())))⟩
noncomputable def wayo (a1_ : Y1) (a2_ : List Y1) (a3_ : Y1) (a4_ : Int) (a5_ : Int) : Tr (Int) :=
 .c (Int) (wahq (a3_, (a4_, (a5_, (a1_, a2_)))) ((0 : Int), (0 : Int))) fun r10_ =>
 .l r10_
noncomputable def wanw (a1_ : Y1) (a2_ : List Y1) (a3_ : Y1) (a4_ : Int) (a5_ : Int) : Option (Int) := (wayo a1_ a2_ a3_ a4_ a5_).ev
noncomputable def wbmw : RetK := yr [.tmp 8] (yj [.dat yi])
noncomputable def wayp : FD := yd (yj [.agg (yj [.dat y1, .dat y2]), .dat y1, .dat yi, .dat yi]) [] [] Int (fun x => wanw x.1.1.1 x.1.1.2.1 x.1.2.1 x.1.2.2.1 x.1.2.2.2.1) (fun r => ([.dat yi r], []))
noncomputable def wayq : Env := wac [(109, wafb)]
noncomputable def wayr : List (Nat × LD) := [(0, wze)]
noncomputable def wayt : Code := (f102.body).getD .skip
noncomputable def wec (k : Y1 × (Int × (Int × (Y1 × Y2)))) (v : Int × Int) : Tr ((Int × Int) ⊕ (Int)) :=
 .t (decide (v.2 < ((length k.2.2.2.1 : Nat) : Int)))
 (.g (inR k.2.1 (length k.2.2.2.2)) <|
 .g (inR v.2 (length (getD k.2.2.2.2 (toNat k.2.1) ([] : Y1)))) <|
 .t (decide ((getD (getD k.2.2.2.2 (toNat k.2.1) ([] : Y1)) (toNat v.2) (0 : Int)) ≤ k.2.2.1))
 (.g (inR v.2 (length k.2.2.2.1)) <|
 .c (Int) (wanw k.2.2.2.1 k.2.2.2.2 k.1 v.2 (1 : Int)) fun r8_ =>
 .t (decide (v.1 < 0))
 (.l (.inl ((wrap .i64 ((getD k.2.2.2.1 (toNat v.2) 0) - r8_)), (wrap .i64 (v.2 + 1)))))
 (.t (decide ((wrap .i64 ((getD k.2.2.2.1 (toNat v.2) 0) - r8_)) < v.1))
 (.l (.inl ((wrap .i64 ((getD k.2.2.2.1 (toNat v.2) 0) - r8_)), (wrap .i64 (v.2 + 1)))))
 (.l (.inl (v.1, (wrap .i64 (v.2 + 1)))))))
 (.t (decide (v.1 < 0))
 (.l (.inl ((wrap .i64 ((getD (getD k.2.2.2.2 (toNat k.2.1) ([] : Y1)) (toNat v.2) (0 : Int)) - k.2.2.1)), (wrap .i64 (v.2 + 1)))))
 (.t (decide ((wrap .i64 ((getD (getD k.2.2.2.2 (toNat k.2.1) ([] : Y1)) (toNat v.2) (0 : Int)) - k.2.2.1)) < v.1))
 (.l (.inl ((wrap .i64 ((getD (getD k.2.2.2.2 (toNat k.2.1) ([] : Y1)) (toNat v.2) (0 : Int)) - k.2.2.1)), (wrap .i64 (v.2 + 1)))))
 (.l (.inl (v.1, (wrap .i64 (v.2 + 1))))))))
 (.l (.inr v.1))
noncomputable def wahr (k : Y1 × (Int × (Int × (Y1 × Y2)))) (v : Int × Int) : Option (Int) := iter (fun v => (wec k v).ev) v
noncomputable def wzf : LD := ⟨{ acts := [], S := { slots := [1, 2, 3, 7, 8, 9], sh := (yj [.dat y1, .dat yi, .box 3 0, .dat yi, .dat yi, .dat yi]), obs := [(3, .cells (yj [.dat y1, .dat y2]))] } }, [(0, (yh [8] (yj [.dat yi])))], (yh [] .nil), Y1 × (Int × (Int × (Y1 × Y2))), Int × (Int), Int, fun k v => ((k.1, (k.2.1, ((), (k.2.2.1, (v.1, (v.2, ())))))), ((k.2.2.2.1, (k.2.2.2.2, ())), ())), fun t => (t.1.1, (t.1.2.1, (t.1.2.2.2.1, (t.2.1.1, t.2.1.2.1)))), fun t => (t.1.2.2.2.2.1, t.1.2.2.2.2.2.1), wec, fun _ r => .l (.exit 0 (wbe ((ys [8] (yj [.dat yi]))) ((r, ()), ())))⟩
noncomputable def wayu (a1_ : Y1) (a2_ : List Y1) (a3_ : Y1) (a4_ : Int) : Tr (Int) :=
 .g (inR a4_ (length a3_)) <|
 .c (Int) (wahr (a3_, (a4_, ((getD a3_ (toNat a4_) 0), (a1_, a2_)))) ((-1 : Int), (0 : Int))) fun r10_ =>
 .l r10_
noncomputable def wanx (a1_ : Y1) (a2_ : List Y1) (a3_ : Y1) (a4_ : Int) : Option (Int) := (wayu a1_ a2_ a3_ a4_).ev
noncomputable def wbmx : RetK := yr [.tmp 6] (yj [.dat yi])
noncomputable def wayv : FD := yd (yj [.agg (yj [.dat y1, .dat y2]), .dat y1, .dat yi]) [] [] Int (fun x => wanx x.1.1.1 x.1.1.2.1 x.1.2.1 x.1.2.2.1) (fun r => ([.dat yi r], []))
noncomputable def wayw : Env := wac [(102, wayp)]
noncomputable def wayx : List (Nat × LD) := [(0, wzf)]
noncomputable def wayy : Code := (f69.body).getD .skip
noncomputable def wnr (k : Int × (Y1 × (Y2 × Y1))) (v : Int × Int) : Tr ((Int × Int) ⊕ (Int)) :=
 .t (decide (v.2 < ((length k.2.1 : Nat) : Int)))
 (.g (inR k.1 (length k.2.2.1)) <|
 .g (inR v.2 (length (getD k.2.2.1 (toNat k.1) ([] : Y1)))) <|
 .c (Int) (wvh v.1 (getD (getD k.2.2.1 (toNat k.1) ([] : Y1)) (toNat v.2) (0 : Int))) fun r11_ =>
 .l (.inl (r11_, (wrap .i64 (v.2 + 1)))))
 (.l (.inr v.1))
noncomputable def wahs (k : Int × (Y1 × (Y2 × Y1))) (v : Int × Int) : Option (Int) := iter (fun v => (wnr k v).ev) v
noncomputable def wzg : LD := ⟨{ acts := [], S := { slots := [1, 3, 4, 5, 6], sh := (yj [.box 1 0, .arr 10, .dat yi, .dat yi, .dat yi]), obs := [(1, .cells (yj [.dat y1, .dat y2])), (10, .arr 3 yi)] } }, [(2, { acts := [], S := { slots := [1, 3, 4, 5], sh := (yj [.box 1 0, .arr 10, .dat yi, .dat yi]), obs := [(1, .cells (yj [.dat y1, .dat y2])), (10, .arr 3 yi)] } })], (yh [] .nil), Int × (Y1 × (Y2 × Y1)), Int × (Int), Int, fun k v => (((), ((), (k.1, (v.1, (v.2, ()))))), ((k.2.1, (k.2.2.1, ())), (k.2.2.2, ()))), fun t => (t.1.2.2.1, (t.2.1.1, (t.2.1.2.1, t.2.2.1))), fun t => (t.1.2.2.2.1, t.1.2.2.2.2.1), wnr, fun k r => .l (.exit 2 (wbe ({ slots := [1, 3, 4, 5], sh := (yj [.box 1 0, .arr 10, .dat yi, .dat yi]), obs := [(1, .cells (yj [.dat y1, .dat y2])), (10, .arr 3 yi)] }) (((), ((), (k.1, (r, ())))), ((k.2.1, (k.2.2.1, ())), (k.2.2.2, ())))))⟩
noncomputable def wns (k : Y1 × Y2) (v : Int × Y1) : Tr ((Int × Y1) ⊕ Y1) :=
 .t (decide (v.1 < ((length k.2 : Nat) : Int)))
 (.g (inR v.1 (length k.2)) <|
 .g (inR 0 (length (getD k.2 (toNat v.1) ([] : Y1)))) <|
 .c (Int) (wahs (v.1, (k.1, (k.2, v.2))) ((getD (getD k.2 (toNat v.1) ([] : Y1)) (toNat 0) (0 : Int)), (0 : Int))) fun r17_ =>
 .g (decide ((length v.2 + length ([r17_] : Y1)) * 8 ≤ 140737488355328)) <|
 .l (.inl ((wrap .i64 (v.1 + 1)), (v.2 ++ ([r17_] : Y1)))))
 (.l (.inr v.2))
noncomputable def wvs (k : Y1 × Y2) (v : Int × Y1) : Option Y1 := iter (fun v => (wns k v).ev) v
noncomputable def wzh : LD := ⟨{ acts := [], S := { slots := [1, 3, 4], sh := (yj [.box 1 0, .arr 10, .dat yi]), obs := [(1, .cells (yj [.dat y1, .dat y2])), (10, .arr 3 yi)] } }, [(0, { acts := [], S := { slots := [1, 3], sh := (yj [.box 1 0, .arr 10]), obs := [(1, .cells (yj [.dat y1, .dat y2])), (10, .arr 3 yi)] } })], (yh [] .nil), Y1 × Y2, Int × Y1, Y1, fun k v => (((), ((), (v.1, ()))), ((k.1, (k.2, ())), (v.2, ()))), fun t => (t.2.1.1, t.2.1.2.1), fun t => (t.1.2.2.1, t.2.2.1), wns, fun k r => .l (.exit 0 (wbe ({ slots := [1, 3], sh := (yj [.box 1 0, .arr 10]), obs := [(1, .cells (yj [.dat y1, .dat y2])), (10, .arr 3 yi)] }) (((), ((), ())), ((k.1, (k.2, ())), (r, ())))))⟩
noncomputable def wgw (k : Y1 × Y2) (v : Bool × (Int × Y1)) : Tr ((Bool × (Int × Y1)) ⊕ (Bool × Y1)) :=
 .t (decide (v.2.1 < ((length v.2.2 : Nat) : Int)))
 (.c (Int) (wanx k.1 k.2 v.2.2 v.2.1) fun r31_ =>
 .t (decide (0 < r31_))
 (.g (inR v.2.1 (length v.2.2)) <|
 .g (decide ((toNat v.2.1) < length v.2.2)) <|
 .g (inR v.2.1 (length v.2.2)) <|
 .g (decide ((toNat v.2.1) < length v.2.2)) <|
 .l (.inl (true, ((wrap .i64 (v.2.1 + 1)), (set v.2.2 (toNat v.2.1) (wrap .i64 ((getD v.2.2 (toNat v.2.1) 0) + r31_)))))))
 (.l (.inl (v.1, ((wrap .i64 (v.2.1 + 1)), v.2.2)))))
 (.l (.inr (v.1, v.2.2)))
noncomputable def waht (k : Y1 × Y2) (v : Bool × (Int × Y1)) : Option (Bool × Y1) := iter (fun v => (wgw k v).ev) v
noncomputable def wzi : LD := ⟨{ acts := [], S := { slots := [1, 3, 7, 8], sh := (yj [.box 1 0, .arr 10, .dat .bool, .dat yi]), obs := [(1, .cells (yj [.dat y1, .dat y2])), (10, .arr 3 yi)] } }, [(6, { acts := [], S := { slots := [1, 3, 7], sh := (yj [.box 1 0, .arr 10, .dat .bool]), obs := [(1, .cells (yj [.dat y1, .dat y2])), (10, .arr 3 yi)] } })], (yh [] .nil), Y1 × Y2, Bool × (Int × Y1), Bool × Y1, fun k v => (((), ((), (v.1, (v.2.1, ())))), ((k.1, (k.2, ())), (v.2.2, ()))), fun t => (t.2.1.1, t.2.1.2.1), fun t => (t.1.2.2.1, (t.1.2.2.2.1, t.2.2.1)), wgw, fun k r => .l (.exit 6 (wbe ({ slots := [1, 3, 7], sh := (yj [.box 1 0, .arr 10, .dat .bool]), obs := [(1, .cells (yj [.dat y1, .dat y2])), (10, .arr 3 yi)] }) (((), ((), (r.1, ()))), ((k.1, (k.2, ())), (r.2, ())))))⟩
noncomputable def wew (k : Y1 × Y2) (v : Bool × Y1) : Tr ((Bool × Y1) ⊕ Y1) :=
 .t v.1
 (.c (Bool × Y1) (waht (k.1, k.2) (false, ((0 : Int), v.2))) fun r36_ =>
 .l (.inl (r36_.1, r36_.2)))
 (.l (.inr v.2))
noncomputable def wahu (k : Y1 × Y2) (v : Bool × Y1) : Option Y1 := iter (fun v => (wew k v).ev) v
noncomputable def wzj : LD := ⟨{ acts := [], S := { slots := [1, 3, 7], sh := (yj [.box 1 0, .arr 10, .dat .bool]), obs := [(1, .cells (yj [.dat y1, .dat y2])), (10, .arr 3 yi)] } }, [(4, { acts := [], S := { slots := [3], sh := (yj [.arr 10]), obs := [(10, .arr 3 yi)] } })], (yh [] .nil), Y1 × Y2, Bool × Y1, Y1, fun k v => (((), ((), (v.1, ()))), ((k.1, (k.2, ())), (v.2, ()))), fun t => (t.2.1.1, t.2.1.2.1), fun t => (t.1.2.2.1, t.2.2.1), wew, fun _ r => .l (.exit 4 (wbe ({ slots := [3], sh := (yj [.arr 10]), obs := [(10, .arr 3 yi)] }) (((), ()), (r, ()))))⟩
noncomputable def wayz (a1_ : Y1) (a2_ : List Y1) : Tr Y1 :=
 .c Y1 (wvs (a1_, a2_) ((0 : Int), ([] : Y1))) fun r21_ =>
 .c Y1 (wahu (a1_, a2_) (true, r21_)) fun r38_ =>
 .l r38_
noncomputable def wahv (a1_ : Y1) (a2_ : List Y1) : Option Y1 := (wayz a1_ a2_).ev
noncomputable def wbmy : RetK := { acts := [.ren 10 0], res := [.tmp 2], sh := (yj [.arr 0]), obs := [(0, .arr 3 yi)], pins := [] }
noncomputable def waza : FD := yd (yj [.agg (yj [.dat y1, .dat y2])]) [] [] Y1 (fun x => wahv x.1.1.1 x.1.1.2.1) (fun r => ([.arr 0], [(0, .arr 3 yi r)]))
noncomputable def wabm : Env := wac [(68, wafn), (69, wayv)]
noncomputable def wabn : List (Nat × LD) := [(2, wzg), (0, wzh), (6, wzi), (4, wzj)]
noncomputable def wabo : Code := (f44.body).getD .skip
noncomputable def wnt (k : Y1) (v : Int × Int) : Tr ((Int × Int) ⊕ (Int)) :=
 .t (decide (v.2 < ((length k : Nat) : Int)))
 (.g (inR v.2 (length k)) <|
 .l (.inl ((wrap .i64 (v.1 + (getD k (toNat v.2) 0))), (wrap .i64 (v.2 + 1)))))
 (.l (.inr v.1))
noncomputable def wahw (k : Y1) (v : Int × Int) : Option (Int) := iter (fun v => (wnt k v).ev) v
noncomputable def wzk : LD := ⟨(yh [0, 3, 4] (yj [.dat y1, .dat yi, .dat yi])), [(0, (yh [3] (yj [.dat yi])))], (yh [] .nil), Y1, Int × (Int), Int, fun k v => ((k, (v.1, (v.2, ()))), ()), fun t => t.1.1, fun t => (t.1.2.1, t.1.2.2.1), wnt, fun _ r => .l (.exit 0 (wbe ((ys [3] (yj [.dat yi]))) ((r, ()), ())))⟩
noncomputable def wazb (a1_ : Y1) : Tr (Int) :=
 .c (Int) (wahw a1_ ((0 : Int), (0 : Int))) fun r5_ =>
 .l r5_
noncomputable def wany (a1_ : Y1) : Option (Int) := (wazb a1_).ev
noncomputable def wbmz : RetK := yr [.tmp 2] (yj [.dat yi])
noncomputable def wazc : FD := yd (yj [.dat y1]) [] [] Int (fun x => wany x.1.1) (fun r => ([.dat yi r], []))
noncomputable def wazd : Env := wac []
noncomputable def waze : List (Nat × LD) := [(0, wzk)]
noncomputable def wazf : Code := (f43.body).getD .skip
noncomputable def wanz (a1_ : Y1) (a2_ : List Y1) (a3_ : Y1) (a4_ : Int) : Tr (Int × (Bool)) :=
 .c (Int × (Bool)) (wahp a1_ a2_ a3_ a4_) fun r1_ =>
 .t (!r1_.2)
 (.l ((0 : Int), false))
 (.c Y1 (wahv a1_ a2_) fun r2_ =>
 .c (Int) (wany r2_) fun r3_ =>
 .l ((wrap .i64 (r1_.1 - r3_)), true))
noncomputable def wabp (a1_ : Y1) (a2_ : List Y1) (a3_ : Y1) (a4_ : Int) : Option (Int × (Bool)) := (wanz a1_ a2_ a3_ a4_).ev
noncomputable def wbna : RetK := yr [.tmp 2, .tmp 3] (yj [.dat yi, .dat .bool])
noncomputable def wazg : FD := yd (yj [.agg (yj [.dat y1, .dat y2, .dat y1, .dat yi])]) [] [] (Int × (Bool)) (fun x => wabp x.1.1.1 x.1.1.2.1 x.1.1.2.2.1 x.1.1.2.2.2.1) (fun r => ([.dat yi r.1, .dat .bool r.2], []))
noncomputable def T_zx (a1_ : Y1) (a2_ : List Y1) (a3_ : Y1) : Tr (Bool) :=
 .c (Bool) (F_zo a1_ a2_) fun r1_ =>
 .t r1_
 (.t (((length a3_ : Nat) : Int) == ((length a2_ : Nat) : Int))
 (.c (Bool) (F_zs a3_ (0 : Int) (500 : Int)) fun r2_ =>
 .l r2_)
 (.l false))
 (.l false)
noncomputable def F_zx (a1_ : Y1) (a2_ : List Y1) (a3_ : Y1) : Option (Bool) := (T_zx a1_ a2_ a3_).ev
noncomputable def K_zx : RetK := yr [.tmp 4] (yj [.dat .bool])
noncomputable def D_zx : FD := yd (yj [.agg (yj [.dat y1, .dat y2]), .dat y1]) [] [] Bool (fun x => F_zx x.1.1.1 x.1.1.2.1 x.1.2.1) (fun r => ([.dat .bool r], []))
noncomputable def T_zd (a1_ : Y1) (a2_ : List Y1) (a3_ : Y1) : Tr (Bool) :=
 .c Y1 (F_zi a1_ a2_ a3_) fun r1_ =>
 .c (Int) (wahg r1_) fun r2_ =>
 .l (decide (0 ≤ r2_))
noncomputable def F_zd (a1_ : Y1) (a2_ : List Y1) (a3_ : Y1) : Option (Bool) := (T_zd a1_ a2_ a3_).ev
noncomputable def K_zd : RetK := yr [.tmp 4] (yj [.dat .bool])
noncomputable def D_zd : FD := yd (yj [.agg (yj [.dat y1, .dat y2]), .dat y1]) [] [] Bool (fun x => F_zd x.1.1.1 x.1.1.2.1 x.1.2.1) (fun r => ([.dat .bool r], []))
noncomputable def T_zv (a1_ : Y1) (a2_ : List Y1) (a3_ : Y1) : Tr (Bool) :=
 .c (Bool) (F_zx a1_ a2_ a3_) fun r1_ =>
 .t r1_
 (.c (Bool) (F_zd a1_ a2_ a3_) fun r2_ =>
 .l r2_)
 (.l false)
noncomputable def F_zv (a1_ : Y1) (a2_ : List Y1) (a3_ : Y1) : Option (Bool) := (T_zv a1_ a2_ a3_).ev
noncomputable def K_zv : RetK := yr [.tmp 4] (yj [.dat .bool])
noncomputable def D_zv : FD := yd (yj [.agg (yj [.dat y1, .dat y2]), .dat y1]) [] [] Bool (fun x => F_zv x.1.1.1 x.1.1.2.1 x.1.2.1) (fun r => ([.dat .bool r], []))
noncomputable def T_zq (a1_ : Y1) (a2_ : List Y1) (a3_ : Y1) (a4_ : Y1) : Tr (Int × (Bool)) :=
 .c (Bool) (F_zv a1_ a2_ a3_) fun r1_ =>
 .t (!r1_)
 (.l ((0 : Int), false))
 (.c (Bool) (F_zf a1_ a2_ a4_) fun r2_ =>
 .t (!r2_)
 (.l ((0 : Int), false))
 (.c (Int) (F_zm a1_ a2_ a4_) fun r3_ =>
 .c (Int) (F_zz a3_) fun r4_ =>
 .l ((wrap .i64 (r3_ - r4_)), true)))
noncomputable def F_zq (a1_ : Y1) (a2_ : List Y1) (a3_ : Y1) (a4_ : Y1) : Option (Int × (Bool)) := (T_zq a1_ a2_ a3_ a4_).ev
noncomputable def K_zq : RetK := yr [.tmp 6, .tmp 7] (yj [.dat yi, .dat .bool])
noncomputable def D_zq : FD := yd (yj [.agg (yj [.dat y1, .dat y2]), .dat y1, .dat y1]) [] [] (Int × (Bool)) (fun x => F_zq x.1.1.1 x.1.1.2.1 x.1.2.1 x.1.2.2.1) (fun r => ([.dat yi r.1, .dat .bool r.2], []))
noncomputable def wnu (k : Y1) (v : Int × Int) : Tr ((Int × Int) ⊕ (Int)) :=
 .t (decide (v.2 < ((length k : Nat) : Int)))
 (.g (inR v.2 (length k)) <|
 .l (.inl ((wrap .i64 (v.1 + (getD k (toNat v.2) 0))), (wrap .i64 (v.2 + 1)))))
 (.l (.inr v.1))
noncomputable def wahx (k : Y1) (v : Int × Int) : Option (Int) := iter (fun v => (wnu k v).ev) v
noncomputable def wzl : LD := ⟨(yh [0, 3, 4] (yj [.dat y1, .dat yi, .dat yi])), [(0, (yh [3] (yj [.dat yi])))], (yh [] .nil), Y1, Int × (Int), Int, fun k v => ((k, (v.1, (v.2, ()))), ()), fun t => t.1.1, fun t => (t.1.2.1, t.1.2.2.1), wnu, fun _ r => .l (.exit 0 (wbe ((ys [3] (yj [.dat yi]))) ((r, ()), ())))⟩
noncomputable def wazh (a1_ : Y1) : Tr (Int) :=
 .c (Int) (wahx a1_ ((0 : Int), (0 : Int))) fun r5_ =>
 .l r5_
noncomputable def waoa (a1_ : Y1) : Option (Int) := (wazh a1_).ev
noncomputable def wbnj : RetK := yr [.tmp 2] (yj [.dat yi])
noncomputable def wazi : FD := yd (yj [.dat y1]) [] [] Int (fun x => waoa x.1.1) (fun r => ([.dat yi r], []))
noncomputable def wazj : Env := wac []
noncomputable def wazk : List (Nat × LD) := [(0, wzl)]
noncomputable def wazl : Code := (f28.body).getD .skip
noncomputable def wazm (a1_ : Y1) : Tr (Bool) :=
 .c (Bool) (wasg a1_) fun r1_ =>
 .t r1_
 (.l true)
 (.c (Y1 × (Y2 × (Int × Y1))) (wanm a1_) fun r2_ =>
 .c (Int × (Bool)) (F_zb r2_.1 r2_.2.1 r2_.2.2.2 r2_.2.2.1) fun r3_ =>
 .c (Int × (Bool)) (wabp r2_.1 r2_.2.1 r2_.2.2.2 r2_.2.2.1) fun r4_ =>
 .c (Int × (Bool)) (F_zc r2_.1 r2_.2.1 r2_.2.2.2 r2_.2.2.1) fun r5_ =>
 .c (Int × (Bool)) (wahp r2_.1 r2_.2.1 r2_.2.2.2 r2_.2.2.1) fun r6_ =>
 .t (r3_.1 != r4_.1)
 (.l false)
 (.t (!(r3_.2 == r4_.2))
 (.l false)
 (.t (r5_.1 != r6_.1)
 (.l false)
 (.t (!(r5_.2 == r6_.2))
 (.l false)
 (.t (!(r3_.2 == r5_.2))
 (.l false)
 (.t (!r3_.2)
 (.l true)
 (.c (Bool × Y1) (F_za r2_.1 r2_.2.1) fun r7_ =>
 .c (Int × (Bool)) (F_zq r2_.1 r2_.2.1 r7_.2 r2_.2.2.2) fun r8_ =>
 .t r8_.2
 (.t (decide (0 ≤ r3_.1))
 (.c (Int) (waoa r7_.2) fun r9_ =>
 .t (r3_.1 == (wrap .i64 (r5_.1 - r9_)))
 (.l (r3_.1 == r8_.1))
 (.l false))
 (.l false))
 (.l false))))))))
noncomputable def wazn (a1_ : Y1) : Option (Bool) := (wazm a1_).ev
noncomputable def wbnk : RetK := yr [.tmp 2] (yj [.dat .bool])
noncomputable def wazo : FD := yd (yj [.dat (.slice (.int .u8))]) [] [] Bool (fun x => wazn x.1.1) (fun r => ([.dat .bool r], []))
end Go.Proofs.Ytnagpmhaddfgmaa
