import Derived.Test.YtnagpmhaddfgmaaGreatC3
import Derived.Test.YtnagpmhaddfgmaaGreatProg
namespace Go.Proofs.YtnagpmhaddfgmaaGreat
open Go.Proofs.Tryz
open List (length getD set)
open Int (toNat)
open IntKind (wrap)
noncomputable def waz (k : Int × (Y1 × Yy)) (v : Int × Int) : Tr (Yo ⊕ (Int)) :=
 .t (decide (v.2 < ((length k.2.1 : Nat) : Int)))
 (.g (inR k.1 (length k.2.2.2)) <|
 .g (inR v.2 (length k.2.1)) <|
 .g (inR (getD k.2.1 (toNat v.2) 0) (length (getD k.2.2.2 (toNat k.1) ([] : Y1)))) <|
 .g (inR k.1 (length k.2.2.2)) <|
 .g (inR v.1 (length (getD k.2.2.2 (toNat k.1) ([] : Y1)))) <|
 .t (decide ((getD (getD k.2.2.2 (toNat k.1) ([] : Y1)) (toNat (getD k.2.1 (toNat v.2) 0)) (0 : Int)) < (getD (getD k.2.2.2 (toNat k.1) ([] : Y1)) (toNat v.1) (0 : Int))))
 (.g (inR v.2 (length k.2.1)) <|
 .l (.inl ((getD k.2.1 (toNat v.2) 0), (wrap .i64 (v.2 + 1)))))
 (.l (.inl (v.1, (wrap .i64 (v.2 + 1))))))
 (.l (.inr v.1))
noncomputable def wde (k : Int × (Y1 × Yy)) (v : Int × Int) : Option (Int) := iter (fun v => (waz k v).ev) v
noncomputable def wga : LD := ⟨{ acts := [], S := { slots := [1, 2, 3, 7, 8], sh := (yj [.dat yi, .dat y1, .box 3 0, .dat yi, .dat yi]), obs := [(3, .cells Zf)] } }, [(0, (yh [7] Zm))], (yh [] .nil), Int × (Y1 × Yy), Int × (Int), Int, fun k v => ((k.1, (k.2.1, ((), (v.1, (v.2, ()))))), ((k.2.2.1, (k.2.2.2, ())), ())), fun t => (t.1.1, (t.1.2.1, (t.2.1.1, t.2.1.2.1))), fun t => (t.1.2.2.2.1, t.1.2.2.2.2.1), waz, fun _ r => .l (.exit 0 (mkSt ((ys [7] Zm)) ((r, ()), ())))⟩
noncomputable def wvu (a1_ : Y1) (a2_ : List Y1) (a3_ : Int) (a4_ : Y1) : Tr (Int) :=
 .g (inR 0 (length a4_)) <|
 .c (Int) (wde (a3_, (a4_, (a1_, a2_))) ((getD a4_ (toNat 0) 0), (1 : Int))) fun r8_ =>
 .l r8_
noncomputable def woa (a1_ : Y1) (a2_ : List Y1) (a3_ : Int) (a4_ : Y1) : Option (Int) := (wvu a1_ a2_ a3_ a4_).ev
noncomputable def walq : RetK := yr [.tmp 6] Zm
noncomputable def wvv : FD := yd (yj [.agg Zf, .dat yi, .dat y1]) [] [] Int (fun x => woa x.1.1.1 x.1.1.2.1 x.1.2.1 x.1.2.2.1) (fun r => ([.dat yi r], []))
noncomputable def wvw : Env := envOf []
noncomputable def wvx : List (Nat × LD) := [(0, wga)]
noncomputable def wvy : Code := (f262.body).getD .skip
noncomputable def wvz (a1_ : Y1) (a2_ : List Y1) (a3_ : Int) (a4_ : Y1) : Tr (Int) :=
 .g (inR a3_ (length a2_)) <|
 .c (Int) (woa a1_ a2_ a3_ a4_) fun r1_ =>
 .g (inR r1_ (length (getD a2_ (toNat a3_) ([] : Y1)))) <|
 .l (getD (getD a2_ (toNat a3_) ([] : Y1)) (toNat r1_) (0 : Int))
noncomputable def wob (a1_ : Y1) (a2_ : List Y1) (a3_ : Int) (a4_ : Y1) : Option (Int) := (wvz a1_ a2_ a3_ a4_).ev
noncomputable def walr : RetK := yr [.tmp 6] Zm
noncomputable def wwa : FD := yd (yj [.agg Zf, .dat yi, .dat y1]) [] [] Int (fun x => wob x.1.1.1 x.1.1.2.1 x.1.2.1 x.1.2.2.1) (fun r => ([.dat yi r], []))
noncomputable def wce (k : Y1 × Yy) (v : Int × Int) : Tr (Yo ⊕ (Int)) :=
 .t (decide (v.2 < ((length k.2.2 : Nat) : Int)))
 (.c (Int) (wob k.2.1 k.2.2 v.2 k.1) fun r6_ =>
 .l (.inl ((wrap .i64 (v.1 + r6_)), (wrap .i64 (v.2 + 1)))))
 (.l (.inr v.1))
noncomputable def wkj (k : Y1 × Yy) (v : Int × Int) : Option (Int) := iter (fun v => (wce k v).ev) v
noncomputable def wgb : LD := ⟨{ acts := [], S := { slots := [1, 2, 5, 6], sh := (yj [.dat y1, .box 2 0, .dat yi, .dat yi]), obs := [(2, .cells Zf)] } }, [(0, (yh [5] Zm))], (yh [] .nil), Y1 × Yy, Int × (Int), Int, fun k v => ((k.1, ((), (v.1, (v.2, ())))), ((k.2.1, (k.2.2, ())), ())), fun t => (t.1.1, (t.2.1.1, t.2.1.2.1)), fun t => (t.1.2.2.1, t.1.2.2.2.1), wce, fun _ r => .l (.exit 0 (mkSt ((ys [5] Zm)) ((r, ()), ())))⟩
noncomputable def wwb (a1_ : Y1) (a2_ : List Y1) (a3_ : Y1) : Tr (Int) :=
 .c (Int) (wkj (a3_, (a1_, a2_)) ((0 : Int), (0 : Int))) fun r8_ =>
 .l r8_
noncomputable def woc (a1_ : Y1) (a2_ : List Y1) (a3_ : Y1) : Option (Int) := (wwb a1_ a2_ a3_).ev
noncomputable def wals : RetK := yr [.tmp 4] Zm
noncomputable def wwc : FD := yd (yj [.agg Zf, .dat y1]) [] [] Int (fun x => woc x.1.1.1 x.1.1.2.1 x.1.2.1) (fun r => ([.dat yi r], []))
noncomputable def wwe : Env := envOf [(239, wwa)]
noncomputable def wwf : List (Nat × LD) := [(0, wgb)]
noncomputable def wwg : Code := (f190.body).getD .skip
noncomputable def wcf (k : Y1 × Yy) (v : Int × Int) : Tr (Yo ⊕ (Int)) :=
 .t (decide (v.2 < ((length k.1 : Nat) : Int)))
 (.g (inR v.2 (length k.1)) <|
 .g (inR (getD k.1 (toNat v.2) 0) (length k.2.1)) <|
 .l (.inl ((wrap .i64 (v.1 + (getD k.2.1 (toNat (getD k.1 (toNat v.2) 0)) (0 : Int)))), (wrap .i64 (v.2 + 1)))))
 (.l (.inr v.1))
noncomputable def wkk (k : Y1 × Yy) (v : Int × Int) : Option (Int) := iter (fun v => (wcf k v).ev) v
noncomputable def wgc : LD := ⟨{ acts := [], S := { slots := [1, 2, 5, 6], sh := (yj [.dat y1, .box 2 0, .dat yi, .dat yi]), obs := [(2, .cells Zf)] } }, [(0, (yh [5] Zm))], (yh [] .nil), Y1 × Yy, Int × (Int), Int, fun k v => ((k.1, ((), (v.1, (v.2, ())))), ((k.2.1, (k.2.2, ())), ())), fun t => (t.1.1, (t.2.1.1, t.2.1.2.1)), fun t => (t.1.2.2.1, t.1.2.2.2.1), wcf, fun _ r => .l (.exit 0 (mkSt ((ys [5] Zm)) ((r, ()), ())))⟩
noncomputable def wwh (a1_ : Y1) (a2_ : List Y1) (a3_ : Y1) : Tr (Int) :=
 .c (Int) (wkk (a3_, (a1_, a2_)) ((0 : Int), (0 : Int))) fun r7_ =>
 .l r7_
noncomputable def wod (a1_ : Y1) (a2_ : List Y1) (a3_ : Y1) : Option (Int) := (wwh a1_ a2_ a3_).ev
noncomputable def walt : RetK := yr [.tmp 4] Zm
noncomputable def wwi : FD := yd (yj [.agg Zf, .dat y1]) [] [] Int (fun x => wod x.1.1.1 x.1.1.2.1 x.1.2.1) (fun r => ([.dat yi r], []))
noncomputable def wwj : Env := envOf []
noncomputable def wwk : List (Nat × LD) := [(0, wgc)]
noncomputable def wwl : Code := (f191.body).getD .skip
noncomputable def wwm (a1_ : Y1) (a2_ : List Y1) (a3_ : Y1) : Tr (Int) :=
 .c (Int) (woc a1_ a2_ a3_) fun r1_ =>
 .c (Int) (wod a1_ a2_ a3_) fun r2_ =>
 .l (wrap .i64 (r1_ + r2_))
noncomputable def wdf (a1_ : Y1) (a2_ : List Y1) (a3_ : Y1) : Option (Int) := (wwm a1_ a2_ a3_).ev
noncomputable def walu : RetK := yr [.tmp 4] Zm
noncomputable def woe : FD := yd (yj [.agg Zf, .dat y1]) [] [] Int (fun x => wdf x.1.1.1 x.1.1.2.1 x.1.2.1) (fun r => ([.dat yi r], []))
noncomputable def wba (k : Y1 × (Y1 × (Y2 × Y2))) (v : Int) : Tr ((Int) ⊕ ((Unit) ⊕ (Nat))) :=
 .t (decide (v < ((length k.2.2.2 : Nat) : Int)))
 (.g (inR v (length k.2.2.2)) <|
 .g (decide ((toNat v) < length k.2.2.2)) <|
 .c (Int) (wdf k.2.1 k.2.2.1 (getD k.2.2.2 (toNat v) ([] : Y1))) fun r7_ =>
 .c (Int) (wdf k.2.1 k.2.2.1 k.1) fun r8_ =>
 .t (decide (r7_ < r8_))
 (.g (inR v (length k.2.2.2)) <|
 .g (decide ((toNat v) < length k.2.2.2)) <|
 .l (.inr (.inr (toNat v))))
 (.l (.inl (wrap .i64 (v + 1)))))
 (.l (.inr (.inl ())))
noncomputable def wkl (k : Y1 × (Y1 × (Y2 × Y2))) (v : Int) : Option ((Unit) ⊕ (Nat)) := iter (fun v => (wba k v).ev) v
noncomputable def wgd : LD := ⟨{ acts := [], S := { slots := [1, 2, 6, 7], sh := (yj [.dat y1, .box 2 0, .arr 640, .dat yi]), obs := [(2, .cells Zf), (640, .rows 24 3 yi)] } }, [(0, (yh [] .nil))], { acts := [], S := { slots := [4, 5], sh := (yj [.row 640, .dat .bool]), obs := [(640, .rows 24 3 yi)] } }, Y1 × (Y1 × (Y2 × Y2)), Int, (Unit) ⊕ (Nat), fun k v => ((k.1, ((), ((), (v, ())))), ((k.2.1, (k.2.2.1, ())), (k.2.2.2, ()))), fun t => (t.1.1, (t.2.1.1, (t.2.1.2.1, t.2.2.1))), fun t => t.1.2.2.2.1, wba, fun k r => .s (Unit) (Nat) r (fun _ => .l (.exit 0 (mkSt ((ys [] .nil)) ((), ())))) (fun b => .l (.ret (mkSt ({ slots := [4, 5], sh := (yj [.row 640, .dat .bool]), obs := [(640, .rows 24 3 yi)] }) ((b, (true, ())), (k.2.2.2, ())))))⟩
noncomputable def wwn (a1_ : Y1) (a2_ : List Y1) (a3_ : Y1) : Tr Ybc :=
 .c Y2 (wnz a1_ a2_ a3_) fun r1_ =>
 .c ((Unit) ⊕ (Nat)) (wkl (a3_, (a1_, (a2_, r1_))) (0 : Int)) fun r12_ =>
 .s (Unit) (Nat) r12_
 (fun _ => .l (false, ([] : Y1)))
 (fun r14_ => .l (true, (getD r1_ r14_ ([] : Y1))))
noncomputable def wkm (a1_ : Y1) (a2_ : List Y1) (a3_ : Y1) : Option Ybc := (wwn a1_ a2_ a3_).ev
noncomputable def walv : RetK := { acts := [.pull 4 800000, .ren 31 0, .ren 800000 0], res := [.tmp 4, .tmp 5], sh := (yj [.arr 0, .dat .bool]), obs := [Zbe], pins := [] }
noncomputable def wwo : FD := yd (yj [.agg Zf, .dat y1]) [] [] Ybc (fun x => wkm x.1.1.1 x.1.1.2.1 x.1.2.1) (fun r => ([.arr 0, .dat .bool r.1], [(0, .arr 3 yi r.2)]))
noncomputable def wwp : Env := envOf [(227, wvt), (192, woe)]
noncomputable def wwq : List (Nat × LD) := [(0, wgd)]
noncomputable def wwr : Code := (f172.body).getD .skip
noncomputable def wcg (k : Y1 × Y2) (v : Int × (Bool × (Y1 × Y1))) : Tr ((Int × (Bool × (Y1 × Y1))) ⊕ (Int × Y1)) :=
 .t v.2.1
 (.c Ybc (wkm k.1 k.2 v.2.2.2) fun r10_ =>
 .l (.inl ((wrap .i64 (v.1 + 1)), (r10_.1, (v.2.2.2, r10_.2)))))
 (.l (.inr (v.1, v.2.2.1)))
noncomputable def wch (k : Y1 × Y2) (v : Int × (Bool × (Y1 × Y1))) : Option (Int × Y1) := iter (fun v => (wcg k v).ev) v
noncomputable def wge : LD := ⟨{ acts := [.drop 900707, .pin 7 900707, .pin 9 900709], S := { slots := [2, 7, 8, 9, 10], sh := (yj [.box 2 0, .arr 900707, .dat yi, .arr 900709, .dat .bool]), obs := [(2, .cells Zf), (900707, .arr 3 yi), (900709, .arr 3 yi)] } }, [(0, { acts := [], S := { slots := [7, 8], sh := (yj [.arr 900707, .dat yi]), obs := [(900707, .arr 3 yi)] } })], (yh [] .nil), Y1 × Y2, Int × (Bool × (Y1 × Y1)), Int × Y1, fun k v => (((), ((), (v.1, ((), (v.2.1, ()))))), ((k.1, (k.2, ())), (v.2.2.1, (v.2.2.2, ())))), fun t => (t.2.1.1, t.2.1.2.1), fun t => (t.1.2.2.1, (t.1.2.2.2.2.1, (t.2.2.1, t.2.2.2.1))), wcg, fun _ r => .l (.exit 0 (mkSt ({ slots := [7, 8], sh := (yj [.arr 900707, .dat yi]), obs := [(900707, .arr 3 yi)] }) (((), (r.1, ())), (r.2, ()))))⟩
noncomputable def wws (a1_ : Y1) (a2_ : List Y1) (a3_ : Y1) : Tr (Int × Ybc) :=
 .c (Bool) (wny a1_ a2_ a3_) fun r1_ =>
 .t (!r1_)
 (.l ((0 : Int), (false, ([] : Y1))))
 (.c Y1 (wad a3_) fun r2_ =>
 .c Ybc (wkm a1_ a2_ r2_) fun r3_ =>
 .c (Int × Y1) (wch (a1_, a2_) ((0 : Int), (r3_.1, (r2_, r3_.2)))) fun r13_ =>
 .l (r13_.1, (true, r13_.2)))
noncomputable def wof (a1_ : Y1) (a2_ : List Y1) (a3_ : Y1) : Option (Int × Ybc) := (wws a1_ a2_ a3_).ev
noncomputable def walw : RetK := { acts := [.ren 15 0, .ren 900707 0], res := [.tmp 4, .tmp 5, .tmp 6], sh := (yj [.arr 0, .dat yi, .dat .bool]), obs := [Zbe], pins := [] }
noncomputable def wwt : FD := yd (yj [.agg Zf, .dat y1]) [] [] (Int × Ybc) (fun x => wof x.1.1.1 x.1.1.2.1 x.1.2.1) (fun r => ([.arr 0, .dat yi r.1, .dat .bool r.2.1], [(0, .arr 3 yi r.2.2)]))
noncomputable def wwu : Env := envOf [(101, wvr), (173, wdi), (172, wwo)]
noncomputable def wwv : List (Nat × LD) := [(0, wge)]
noncomputable def www : Code := (f78.body).getD .skip
noncomputable def wkn (k : Y1 × Y1) (v : Int) : Tr ((Int) ⊕ ((Unit) ⊕ (Bool))) :=
 .t (decide (v < ((length k.1 : Nat) : Int)))
 (.g (inR v (length k.1)) <|
 .g (inR v (length k.2)) <|
 .t ((getD k.1 (toNat v) 0) != (getD k.2 (toNat v) 0))
 (.g (inR v (length k.1)) <|
 .g (inR v (length k.2)) <|
 .l (.inr (.inr (decide ((getD k.1 (toNat v) 0) < (getD k.2 (toNat v) 0))))))
 (.l (.inl (wrap .i64 (v + 1)))))
 (.l (.inr (.inl ())))
noncomputable def wwx (k : Y1 × Y1) (v : Int) : Option ((Unit) ⊕ (Bool)) := iter (fun v => (wkn k v).ev) v
noncomputable def wgf : LD := ⟨(yh [0, 1, 5] (yj [.dat y1, .dat y1, .dat yi])), [(0, (yh [] .nil))], (yh [4] Zp), Y1 × Y1, Int, (Unit) ⊕ (Bool), fun k v => ((k.1, (k.2, (v, ()))), ()), fun t => (t.1.1, t.1.2.1), fun t => t.1.2.2.1, wkn, fun _ r => .s (Unit) (Bool) r (fun _ => .l (.exit 0 (mkSt ((ys [] .nil)) ((), ())))) (fun b => .l (.ret (mkSt ((ys [4] Zp)) ((b, ()), ()))))⟩
noncomputable def waei (a1_ : Y1) (a2_ : Y1) : Tr (Bool) :=
 .t (((length a1_ : Nat) : Int) != ((length a2_ : Nat) : Int))
 (.l (decide (((length a1_ : Nat) : Int) < ((length a2_ : Nat) : Int))))
 (.c ((Unit) ⊕ (Bool)) (wwx (a1_, a2_) (0 : Int)) fun r5_ =>
 .s (Unit) (Bool) r5_
 (fun _ => .l false)
 (fun r7_ => .l r7_))
noncomputable def waej (a1_ : Y1) (a2_ : Y1) : Option (Bool) := (waei a1_ a2_).ev
noncomputable def walx : RetK := yr [.tmp 4] Zp
noncomputable def wwy : FD := yd (yj [.dat y1, .dat y1]) [] [] Bool (fun x => waej x.1.1 x.1.2.1) (fun r => ([.dat .bool r], []))
noncomputable def wwz : Env := envOf []
noncomputable def wxa : List (Nat × LD) := [(0, wgf)]
noncomputable def wxb : Code := (f189.body).getD .skip
noncomputable def wko (k : Int × (Y2 × (Int × Y1))) (v : Int) : Tr ((Int) ⊕ (Int)) :=
 .t (decide (0 < v))
 (.g (inR (wrap .i64 (v - 1)) (length k.2.1)) <|
 .c (Bool) (waej k.2.2.2 (getD k.2.1 (toNat (wrap .i64 (v - 1))) ([] : Y1))) fun r26_ =>
 .t r26_
 (.l (.inl (wrap .i64 (v - 1))))
 (.l (.inr v)))
 (.l (.inr v))
noncomputable def wxc (k : Int × (Y2 × (Int × Y1))) (v : Int) : Option (Int) := iter (fun v => (wko k v).ev) v
noncomputable def wgg : LD := ⟨{ acts := [], S := { slots := [0, 3, 4, 5, 6], sh := (yj [.dat yi, .dat y2, .dat yi, .arr 1024, .dat yi]), obs := [(1024, .arr 3 yi)] } }, [(2, { acts := [], S := { slots := [0, 3, 4, 5, 6], sh := (yj [.dat yi, .dat y2, .dat yi, .arr 1024, .dat yi]), obs := [(1024, .arr 3 yi)] } })], (yh [] .nil), Int × (Y2 × (Int × Y1)), Int, Int, fun k v => ((k.1, (k.2.1, (k.2.2.1, ((), (v, ()))))), (k.2.2.2, ())), fun t => (t.1.1, (t.1.2.1, (t.1.2.2.1, t.2.1))), fun t => t.1.2.2.2.2.1, wko, fun k r => .l (.exit 2 (mkSt ({ slots := [0, 3, 4, 5, 6], sh := (yj [.dat yi, .dat y2, .dat yi, .arr 1024, .dat yi]), obs := [(1024, .arr 3 yi)] }) ((k.1, (k.2.1, (k.2.2.1, ((), (r, ()))))), (k.2.2.2, ()))))⟩
noncomputable def wkp (k : Int) (v : Y2 × Int) : Tr ((Y2 × Int) ⊕ Y2) :=
 .g (decide (0 ≤ k)) <|
 .t (decide (v.2 < (wrap .i64 ((1 : Int) * 2 ^ (min (toNat k) (IntKind.bits .i64))))))
 (.c Y1 (whw k v.2) fun r20_ =>
 .c (Int) (wxc (k, (v.1, (v.2, r20_))) ((length v.1 : Nat) : Int)) fun r32_ =>
 .g (decide (0 ≤ r32_) && decide (r32_ ≤ ((length v.1 : Nat) : Int))) <|
 .g (decide ((length ([] : List Y1) + length (List.drop 0 (List.take (toNat r32_) v.1))) * 24 ≤ 140737488355328)) <|
 .g (decide ((length (([] : List Y1) ++ (List.drop 0 (List.take (toNat r32_) v.1))) + length ([r20_] : List Y1)) * 24 ≤ 140737488355328)) <|
 .g (decide (0 ≤ r32_) && decide (r32_ ≤ ((length v.1 : Nat) : Int))) <|
 .g (decide ((length ((([] : List Y1) ++ (List.drop 0 (List.take (toNat r32_) v.1))) ++ ([r20_] : List Y1)) + length (List.drop (toNat r32_) (List.take (length v.1) v.1))) * 24 ≤ 140737488355328)) <|
 .l (.inl ((((([] : List Y1) ++ (List.drop 0 (List.take (toNat r32_) v.1))) ++ ([r20_] : List Y1)) ++ (List.drop (toNat r32_) (List.take (length v.1) v.1))), (wrap .i64 (v.2 + 1)))))
 (.l (.inr v.1))
noncomputable def wxd (k : Int) (v : Y2 × Int) : Option Y2 := iter (fun v => (wkp k v).ev) v
noncomputable def wgh : LD := ⟨{ acts := [.fz 7, .fz 32], S := (ys [0, 3, 4] (yj [.dat yi, .dat y2, .dat yi])) }, [(0, (yh [3] (yj [.dat y2])))], (yh [] .nil), Int, Y2 × (Int), List Y1, fun k v => ((k, (v.1, (v.2, ()))), ()), fun t => t.1.1, fun t => (t.1.2.1, t.1.2.2.1), wkp, fun _ r => .l (.exit 0 (mkSt ((ys [3] (yj [.dat y2]))) ((r, ()), ())))⟩
noncomputable def waek (a1_ : Int) : Tr Y2 :=
 .c Y2 (wxd a1_ (([] : List Y1), (1 : Int))) fun r34_ =>
 .l r34_
noncomputable def wog (a1_ : Int) : Option Y2 := (waek a1_).ev
noncomputable def waly : RetK := yr [.tmp 2] (yj [.dat y2])
noncomputable def wxe : FD := yd Zm [] [] (List Y1) (fun x => wog x.1.1) (fun r => ([.dat y2 r], []))
noncomputable def woh : Nat → Nat → List Nat := fun r i => match look [(8, [(0, [3, 5])])] r with
 | some l => (look l i).getD []
 | none => []
noncomputable def woi : Env := envOf [(119, wnl), (189, wwy)]
noncomputable def woj : List (Nat × LD) := [(2, wgg), (0, wgh)]
noncomputable def wok : Code := (f96.body).getD .skip
noncomputable def wci (k : Y2 × Yy) (v : Y1 × Int) : Tr ((Y1 × Int) ⊕ Y1) :=
 .t (decide (v.2 < ((length k.1 : Nat) : Int)))
 (.g (inR v.2 (length k.1)) <|
 .c (Int) (wdf k.2.1 k.2.2 (getD k.1 (toNat v.2) ([] : Y1))) fun r7_ =>
 .c (Int) (wdf k.2.1 k.2.2 v.1) fun r8_ =>
 .t (decide (r7_ < r8_))
 (.g (inR v.2 (length k.1)) <|
 .l (.inl ((getD k.1 (toNat v.2) ([] : Y1)), (wrap .i64 (v.2 + 1)))))
 (.l (.inl (v.1, (wrap .i64 (v.2 + 1))))))
 (.l (.inr v.1))
noncomputable def wkr (k : Y2 × Yy) (v : Y1 × Int) : Option Y1 := iter (fun v => (wci k v).ev) v
noncomputable def wgi : LD := ⟨{ acts := [], S := { slots := [1, 3, 4, 5], sh := (yj [.box 1 0, .dat y2, .dat y1, .dat yi]), obs := [(1, .cells Zf)] } }, [(0, (yh [4] (yj [.dat y1])))], (yh [] .nil), Y2 × Yy, Y1 × (Int), Y1, fun k v => (((), (k.1, (v.1, (v.2, ())))), ((k.2.1, (k.2.2, ())), ())), fun t => (t.1.2.1, (t.2.1.1, t.2.1.2.1)), fun t => (t.1.2.2.1, t.1.2.2.2.1), wci, fun _ r => .l (.exit 0 (mkSt ((ys [4] (yj [.dat y1]))) ((r, ()), ())))⟩
noncomputable def wxf (a1_ : Y1) (a2_ : List Y1) : Tr Y1 :=
 .c Y2 (wog ((length a1_ : Nat) : Int)) fun r1_ =>
 .g (inR 0 (length r1_)) <|
 .c Y1 (wkr (r1_, (a1_, a2_)) ((getD r1_ (toNat 0) ([] : Y1)), (1 : Int))) fun r10_ =>
 .l r10_
noncomputable def wol (a1_ : Y1) (a2_ : List Y1) : Option Y1 := (wxf a1_ a2_).ev
noncomputable def walz : RetK := yr [.tmp 2] (yj [.dat y1])
noncomputable def wxg : FD := yd (yj [.agg Zf]) [] [] Y1 (fun x => wol x.1.1.1 x.1.1.2.1) (fun r => ([.dat y1 r], []))
noncomputable def wxh : Env := envOf [(96, wxe), (192, woe)]
noncomputable def wxi : List (Nat × LD) := [(0, wgi)]
noncomputable def wxj : Code := (f247.body).getD .skip
noncomputable def wcj (k : Int × (Int × (Int × (Int × (Y1 × Yat))))) (v : Int × Y2) : Tr ((Int × Y2) ⊕ Y2) :=
 .t (decide (v.1 < ((length k.2.2.2.2.1 : Nat) : Int)))
 (.g (inR v.1 (length v.2)) <|
 .g (decide ((toNat v.1) < length v.2)) <|
 .g (inR v.1 (length k.2.2.2.2.1)) <|
 .g (decide ((length (getD v.2 (toNat v.1) ([] : Y1)) + length ([(getD k.2.2.2.2.1 (toNat v.1) 0)] : Y1)) * 8 ≤ 140737488355328)) <|
 .g (inR v.1 (length v.2)) <|
 .g (decide ((toNat v.1) < length v.2) && decide ((toNat v.1) = (toNat v.1))) <|
 .l (.inl ((wrap .i64 (v.1 + 1)), (set v.2 (toNat v.1) ((getD v.2 (toNat v.1) ([] : Y1)) ++ ([(getD k.2.2.2.2.1 (toNat v.1) 0)] : Y1))))))
 (.l (.inr v.2))
noncomputable def wem (k : Int × (Int × (Int × (Int × (Y1 × Yat))))) (v : Int × Y2) : Option Y2 := iter (fun v => (wcj k v).ev) v
noncomputable def wgj : LD := ⟨{ acts := [.ownB 4 0 901340 3 yi, .ownB 4 2 901342 3 yi], S := { slots := [3, 4, 5, 6], sh := (yj [.box 3 0, .box 4 0, .box 5 0, .dat yi]), obs := [(3, .cells Zad), Zah, (5, .cells (yj [.arr 708, .arr 709, .arr 710, .dat yi])), (901340, .arr 3 yi), (901342, .arr 3 yi), (708, .arr 3 yi), (709, .rows 24 3 yi), (710, .arr 3 yi)] } }, [(1, { acts := [], S := { slots := [4, 5], sh := (yj [.box 4 0, .box 5 0]), obs := [Zah, (5, .cells (yj [.arr 708, .arr 709, .arr 710, .dat yi])), (901340, .arr 3 yi), (901342, .arr 3 yi), (708, .arr 3 yi), (709, .rows 24 3 yi), (710, .arr 3 yi)] } })], (yh [] .nil), Int × (Int × (Int × (Int × (Y1 × Yat)))), Int × Y2, List Y1, fun k v => (((), ((), ((), (v.1, ())))), ((k.1, (k.2.1, (k.2.2.1, (k.2.2.2.1, (k.2.2.2.2.1, ()))))), (((), ((), ((), (k.2.2.2.2.2.1, ())))), (((), ((), ((), (k.2.2.2.2.2.2.1, ())))), (k.2.2.2.2.2.2.2.1, (k.2.2.2.2.2.2.2.2.1, (k.2.2.2.2.2.2.2.2.2.1, (v.2, (k.2.2.2.2.2.2.2.2.2.2, ()))))))))), fun t => (t.2.1.1, (t.2.1.2.1, (t.2.1.2.2.1, (t.2.1.2.2.2.1, (t.2.1.2.2.2.2.1, (t.2.2.1.2.2.2.1, (t.2.2.2.1.2.2.2.1, (t.2.2.2.2.1, (t.2.2.2.2.2.1, (t.2.2.2.2.2.2.1, t.2.2.2.2.2.2.2.2.1)))))))))), fun t => (t.1.2.2.2.1, t.2.2.2.2.2.2.2.1), wcj, fun k r => .l (.exit 1 (mkSt ({ slots := [4, 5], sh := (yj [.box 4 0, .box 5 0]), obs := [Zah, (5, .cells (yj [.arr 708, .arr 709, .arr 710, .dat yi])), (901340, .arr 3 yi), (901342, .arr 3 yi), (708, .arr 3 yi), (709, .rows 24 3 yi), (710, .arr 3 yi)] }) (((), ((), ())), (((), ((), ((), (k.2.2.2.2.2.1, ())))), (((), ((), ((), (k.2.2.2.2.2.2.1, ())))), (k.2.2.2.2.2.2.2.1, (k.2.2.2.2.2.2.2.2.1, (k.2.2.2.2.2.2.2.2.2.1, (r, (k.2.2.2.2.2.2.2.2.2.2, ()))))))))))⟩
noncomputable def wxk (a1_ : Y1) (a2_ : List Y1) (a3_ : Y1) (a4_ : Int) (a5_ : Int) (a6_ : Int) (a7_ : Int) (a8_ : Int) (a9_ : Y1) : Tr Yn :=
 .c Yn (weh a1_ a2_ a3_ a4_) fun r1_ =>
 .t (a5_ == 1)
 (.c Y1 (wdo r1_.2.2.2 a6_) fun r2_ =>
 .l (r1_.1, (r1_.2.1, (r1_.2.2.1, r2_))))
 (.t (a5_ == 2)
 (.c Y1 (whx r1_.2.2.2 a6_) fun r3_ =>
 .l (r1_.1, (r1_.2.1, (r1_.2.2.1, r3_))))
 (.t (a5_ == 3)
 (.c Y1 (whx r1_.2.2.2 a6_) fun r4_ =>
 .c Y1 (wdo r4_ a7_) fun r5_ =>
 .l (r1_.1, (r1_.2.1, (r1_.2.2.1, r5_))))
 (.t (a5_ == 4)
 (.g (inR a6_ (length r1_.2.1)) <|
 .g (decide ((toNat a6_) < length r1_.2.1)) <|
 .l (r1_.1, ((set r1_.2.1 (toNat a6_) a7_), (r1_.2.2.1, r1_.2.2.2))))
 (.t (a5_ == 5)
 (.g (inR a6_ (length r1_.2.2.1)) <|
 .g (decide ((toNat a6_) < length r1_.2.2.1)) <|
 .g (inR a7_ (length (getD r1_.2.2.1 (toNat a6_) ([] : Y1)))) <|
 .g (decide ((toNat a7_) < length (getD r1_.2.2.1 (toNat a6_) ([] : Y1)))) <|
 .l (r1_.1, (r1_.2.1, ((set r1_.2.2.1 (toNat a6_) (set (getD r1_.2.2.1 (toNat a6_) ([] : Y1)) (toNat a7_) a8_)), r1_.2.2.2))))
 (.t (a5_ == 6)
 (.g (decide ((length r1_.2.1 + length ([a6_] : Y1)) * 8 ≤ 140737488355328)) <|
 .c Y2 (wem (a5_, (a6_, (a7_, (a8_, (a9_, ((0 : Int), (r1_.1, (([] : Y1), (([] : Y1), ((r1_.2.1 ++ ([a6_] : Y1)), r1_.2.2.2)))))))))) ((0 : Int), r1_.2.2.1)) fun r26_ =>
 .l (r1_.1, ((r1_.2.1 ++ ([a6_] : Y1)), (r26_, r1_.2.2.2))))
 (.t (a5_ == 7)
 (.c Y1 (wad a9_) fun r27_ =>
 .g (decide ((length r1_.2.2.1 + 1) * 24 ≤ 140737488355328)) <|
 .l (r1_.1, (r1_.2.1, ((set (r1_.2.2.1 ++ [[]]) (length r1_.2.2.1) r27_), r1_.2.2.2))))
 (.t (a5_ == 8)
 (.c Yn (wnu a1_ a2_ a3_ a4_ a6_) fun r28_ =>
 .l (r28_.1, (r28_.2.1, (r28_.2.2.1, r28_.2.2.2))))
 (.t (a5_ == 9)
 (.g (decide (0 ≤ a6_) && decide (a6_ ≤ ((length r1_.2.2.1 : Nat) : Int))) <|
 .g (decide ((0 : Int) ≤ (wrap .i64 (a6_ + 1))) && decide ((wrap .i64 (a6_ + 1)) ≤ ((length r1_.2.2.1 : Nat) : Int))) <|
 .g (decide ((toNat a6_) ≤ (toNat (wrap .i64 (a6_ + 1)))) && decide (((toNat a6_) + (length r1_.2.2.1 - (toNat (wrap .i64 (a6_ + 1))))) * 24 ≤ 140737488355328)) <|
 .l (r1_.1, (r1_.2.1, ((List.take (toNat a6_) r1_.2.2.1 ++ List.drop (toNat (wrap .i64 (a6_ + 1))) r1_.2.2.1), r1_.2.2.2))))
 (.t (a5_ == 10)
 (.c (Int × Ybc) (wof a1_ a2_ a3_) fun r29_ =>
 .l (r1_.1, (r1_.2.1, (r1_.2.2.1, r29_.2.2))))
 (.t (a5_ == 11)
 (.c Y1 (wol a1_ a2_) fun r30_ =>
 .c Y1 (wad r30_) fun r31_ =>
 .l (r1_.1, (r1_.2.1, (r1_.2.2.1, r31_))))
 (.l (r1_.1, (r1_.2.1, (r1_.2.2.1, r1_.2.2.2))))))))))))))
noncomputable def wom (a1_ : Y1) (a2_ : List Y1) (a3_ : Y1) (a4_ : Int) (a5_ : Int) (a6_ : Int) (a7_ : Int) (a8_ : Int) (a9_ : Y1) : Option Yn := (wxk a1_ a2_ a3_ a4_ a5_ a6_ a7_ a8_ a9_).ev
noncomputable def wama : RetK := { acts := [.pinB 4 0 1, .pinB 4 1 6, .pinB 4 2 7], res := [.cell 4 68], sh := (yj [.agg (yj [.arr 1, .arr 6, .arr 7, .dat yi])]), obs := [(1, .arr 3 yi), (6, .rows 24 3 yi), (7, .arr 3 yi)], pins := [] }
noncomputable def wxl : FD := yd (yj [.agg Zk, .agg Zad]) [] [] Yn (fun x => wom x.1.1.1 x.1.1.2.1 x.1.1.2.2.1 x.1.1.2.2.2.1 x.1.2.1.1 x.1.2.1.2.1 x.1.2.1.2.2.1 x.1.2.1.2.2.2.1 x.1.2.1.2.2.2.2.1) (fun r => ([.agg [.arr 1, .arr 6, .arr 7, .dat yi r.1]], [(1, .arr 3 yi r.2.1), (6, .rows 24 3 yi r.2.2.1 none), (7, .arr 3 yi r.2.2.2)]))
noncomputable def wxm : Env := envOf [(156, whu), (169, wns), (245, wnt), (173, wdi), (246, wvp), (78, wwt), (247, wxg)]
noncomputable def wxn : List (Nat × LD) := [(1, wgj)]
noncomputable def wxo : Code := (f211.body).getD .skip
noncomputable def wxp (a1_ : Y1) (a2_ : List Y1) (a3_ : Y1) (a4_ : Int) (a5_ : Int) (a6_ : Int) (a7_ : Int) (a8_ : Int) (a9_ : Y1) : Tr Yh :=
 .c (Bool) (wnp a5_ a6_ a7_ a8_ a9_) fun r1_ =>
 .t (!r1_)
 (.l ((0 : Int), (false, (([] : Y1), (([] : List Y1), ([] : Y1))))))
 (.c (Bool) (wnr a1_ a2_ a3_ a4_ a5_ a6_ a7_ a8_ a9_) fun r2_ =>
 .t (!r2_)
 (.l ((0 : Int), (false, (([] : Y1), (([] : List Y1), ([] : Y1))))))
 (.c Yn (wom a1_ a2_ a3_ a4_ a5_ a6_ a7_ a8_ a9_) fun r3_ =>
 .c (Bool) (wdd r3_.2.1 r3_.2.2.1 r3_.2.2.2 (wrap .i64 (a4_ + 1))) fun r4_ =>
 .t (!r4_)
 (.l ((0 : Int), (false, (([] : Y1), (([] : List Y1), ([] : Y1))))))
 (.l ((wrap .i64 (a4_ + 1)), (true, (r3_.2.1, (r3_.2.2.1, r3_.2.2.2)))))))
noncomputable def whz (a1_ : Y1) (a2_ : List Y1) (a3_ : Y1) (a4_ : Int) (a5_ : Int) (a6_ : Int) (a7_ : Int) (a8_ : Int) (a9_ : Y1) : Option Yh := (wxp a1_ a2_ a3_ a4_ a5_ a6_ a7_ a8_ a9_).ev
noncomputable def wamb : RetK := { acts := [.ownB 4 0 5 3 yi, .ownRB 4 1 7 24 3 yi, .ownB 4 2 8 3 yi, .ren 1217 5, .ren 1222 7, .ren 1223 8], res := [.cell 4 68, .tmp 5], sh := (yj [.agg (yj [.arr 5, .arr 7, .arr 8, .dat yi]), .dat .bool]), obs := [(5, .arr 3 yi), (7, .rows 24 3 yi), (8, .arr 3 yi)], pins := [] }
noncomputable def wks : FD := yd (yj [.agg Zk, .agg Zad]) [] [] Yh (fun x => whz x.1.1.1 x.1.1.2.1 x.1.1.2.2.1 x.1.1.2.2.2.1 x.1.2.1.1 x.1.2.1.2.1 x.1.2.1.2.2.1 x.1.2.1.2.2.2.1 x.1.2.1.2.2.2.2.1) (fun r => ([.agg [.arr 5, .arr 7, .arr 8, .dat yi r.1], .dat .bool r.2.1], [(5, .arr 3 yi r.2.2.1), (7, .rows 24 3 yi r.2.2.2.1 none), (8, .arr 3 yi r.2.2.2.2)]))
noncomputable def waf (_k : Int) (v : Int × Yaw) : Tr ((Int × Yaw) ⊕ Yaw) :=
 .t (decide (0 < v.1))
 (.c (Bool) (wdd v.2.2.2.2.1 v.2.2.2.2.2.1 v.2.2.2.2.2.2.2 v.2.2.2.2.2.2.1) fun r16_ =>
 .t r16_
 (.c Ybf (wei v.2.2.2.2.1 v.2.2.2.2.2.1 v.2.1 v.2.2.1 v.2.2.2.1) fun r17_ =>
 .c Yh (whz v.2.2.2.2.1 v.2.2.2.2.2.1 v.2.2.2.2.2.2.2 v.2.2.2.2.2.2.1 r17_.1 r17_.2.1 r17_.2.2.1 r17_.2.2.2.1 r17_.2.2.2.2.1) fun r18_ =>
 .t r18_.2.1
 (.l (.inl ((wrap .i64 (v.1 - 1)), (r17_.2.2.2.2.2.1, (r17_.2.2.2.2.2.2.1, (r17_.2.2.2.2.2.2.2, (r18_.2.2.1, (r18_.2.2.2.1, (r18_.1, r18_.2.2.2.2)))))))))
 (.l (.inl ((wrap .i64 (v.1 - 1)), (r17_.2.2.2.2.2.1, (r17_.2.2.2.2.2.2.1, (r17_.2.2.2.2.2.2.2, (v.2.2.2.2.1, (v.2.2.2.2.2.1, (v.2.2.2.2.2.2.1, v.2.2.2.2.2.2.2))))))))))
 (.l (.inr (v.2.1, (v.2.2.1, (v.2.2.2.1, (v.2.2.2.2.1, (v.2.2.2.2.2.1, (v.2.2.2.2.2.2.1, v.2.2.2.2.2.2.2)))))))))
 (.l (.inr (v.2.1, (v.2.2.1, (v.2.2.2.1, (v.2.2.2.2.1, (v.2.2.2.2.2.1, (v.2.2.2.2.2.2.1, v.2.2.2.2.2.2.2))))))))
noncomputable def waa (k : Int) (v : Int × Yaw) : Option Yaw := iter (fun v => (waf k v).ev) v
noncomputable def wgk : LD := ⟨{ acts := [.fz 577, .fz 578, .fz 3013, .fz 3015, .repB 4 2 900642], S := { slots := [0, 2, 4, 5], sh := (yj [.box 64 0, .box 2 0, .box 4 0, .dat yi]), obs := [Zc, (2, .cells Zq), (4, .cells (yj [.dat y1, .dat y2, .arr 900642, .dat yi])), (900642, .arr 3 yi)] } }, [(0, { acts := [], S := { slots := [0, 2, 4], sh := (yj [.box 64 0, .box 2 0, .box 4 0]), obs := [Zc, (2, .cells Zq), (4, .cells (yj [.dat y1, .dat y2, .arr 900642, .dat yi])), (900642, .arr 3 yi)] } })], (yh [] .nil), Int, Int × Yaw, Y1 × (Int × (Int × Yl)), fun k v => (((), ((), ((), (v.1, ())))), ((v.2.1, (v.2.2.1, (v.2.2.2.1, ()))), (((), ((), ((), (k, ())))), ((v.2.2.2.2.1, (v.2.2.2.2.2.1, ((), (v.2.2.2.2.2.2.1, ())))), (v.2.2.2.2.2.2.2, ()))))), fun t => t.2.2.1.2.2.2.1, fun t => (t.1.2.2.2.1, (t.2.1.1, (t.2.1.2.1, (t.2.1.2.2.1, (t.2.2.2.1.1, (t.2.2.2.1.2.1, (t.2.2.2.1.2.2.2.1, t.2.2.2.2.1))))))), waf, fun k r => .l (.exit 0 (mkSt ({ slots := [0, 2, 4], sh := (yj [.box 64 0, .box 2 0, .box 4 0]), obs := [Zc, (2, .cells Zq), (4, .cells (yj [.dat y1, .dat y2, .arr 900642, .dat yi])), (900642, .arr 3 yi)] }) (((), ((), ((), ()))), ((r.1, (r.2.1, (r.2.2.1, ()))), (((), ((), ((), (k, ())))), ((r.2.2.2.1, (r.2.2.2.2.1, ((), (r.2.2.2.2.2.1, ())))), (r.2.2.2.2.2.2, ())))))))⟩
noncomputable def won (a1_ : Y1) (a2_ : Int) (a3_ : Int) : Tr (Y1 × (Y2 × (Int × Yag))) :=
 .c Yv (whs (6 : Int) a1_ a2_ a3_) fun r1_ =>
 .c (Bool) (wht r1_.1 r1_.2.1) fun r2_ =>
 .t r2_
 (.c (Bool × (Y1 × Yo)) (whv (4 : Int) r1_.2.2.1 r1_.2.2.2.1 r1_.2.2.2.2) fun r3_ =>
 .t (!r3_.1)
 (.g (decide ((0 : Int) ≤ ((length r1_.1 : Nat) : Int))) <|
 .c Yb (ww (wrap .i64 ((1 : Int) * 2 ^ (min (toNat ((length r1_.1 : Nat) : Int)) (IntKind.bits .i64)))) r3_.2.1 r3_.2.2.1 r3_.2.2.2) fun r4_ =>
 .c Y1 (whw ((length r1_.1 : Nat) : Int) r4_.1) fun r5_ =>
 .c Yb (ww (4 : Int) r4_.2.1 r4_.2.2.1 r4_.2.2.2) fun r6_ =>
 .c Yaw (waa (0 : Int) (r6_.1, (r6_.2.1, (r6_.2.2.1, (r6_.2.2.2, (r1_.1, (r1_.2.1, ((0 : Int), r5_)))))))) fun r27_ =>
 .c Yb (ww (48 : Int) r27_.1 r27_.2.1 r27_.2.2.1) fun r28_ =>
 .t (r28_.1 == 0)
 (.c Yb (wu ([(-1 : Int), (1000 : Int), (1001 : Int)] : Y1) r28_.2.1 r28_.2.2.1 r28_.2.2.2) fun r29_ =>
 .l (r27_.2.2.2.1, (r27_.2.2.2.2.1, (r29_.1, (r27_.2.2.2.2.2.2, (r29_.2.1, (r29_.2.2.1, r29_.2.2.2)))))))
 (.t (r28_.1 == 1)
 (.c Yb (wu ([(0 : Int), (-1 : Int), (7 : Int)] : Y1) r28_.2.1 r28_.2.2.1 r28_.2.2.2) fun r30_ =>
 .g (decide ((length r27_.2.2.2.2.2.2 + length ([r30_.1] : Y1)) * 8 ≤ 140737488355328)) <|
 .l (r27_.2.2.2.1, (r27_.2.2.2.2.1, (r27_.2.2.2.2.2.1, ((r27_.2.2.2.2.2.2 ++ ([r30_.1] : Y1)), (r30_.2.1, (r30_.2.2.1, r30_.2.2.2)))))))
 (.l (r27_.2.2.2.1, (r27_.2.2.2.2.1, (r27_.2.2.2.2.2.1, (r27_.2.2.2.2.2.2, (r28_.2.1, (r28_.2.2.1, r28_.2.2.2)))))))))
 (.c Yb (ww (4 : Int) r3_.2.1 r3_.2.2.1 r3_.2.2.2) fun r31_ =>
 .c Yaw (waa (0 : Int) (r31_.1, (r31_.2.1, (r31_.2.2.1, (r31_.2.2.2, (r1_.1, (r1_.2.1, ((0 : Int), ([] : Y1))))))))) fun r32_ =>
 .c Yb (ww (48 : Int) r32_.1 r32_.2.1 r32_.2.2.1) fun r33_ =>
 .t (r33_.1 == 0)
 (.c Yb (wu ([(-1 : Int), (1000 : Int), (1001 : Int)] : Y1) r33_.2.1 r33_.2.2.1 r33_.2.2.2) fun r34_ =>
 .l (r32_.2.2.2.1, (r32_.2.2.2.2.1, (r34_.1, (r32_.2.2.2.2.2.2, (r34_.2.1, (r34_.2.2.1, r34_.2.2.2)))))))
 (.t (r33_.1 == 1)
 (.c Yb (wu ([(0 : Int), (-1 : Int), (7 : Int)] : Y1) r33_.2.1 r33_.2.2.1 r33_.2.2.2) fun r35_ =>
 .g (decide ((length r32_.2.2.2.2.2.2 + length ([r35_.1] : Y1)) * 8 ≤ 140737488355328)) <|
 .l (r32_.2.2.2.1, (r32_.2.2.2.2.1, (r32_.2.2.2.2.2.1, ((r32_.2.2.2.2.2.2 ++ ([r35_.1] : Y1)), (r35_.2.1, (r35_.2.2.1, r35_.2.2.2)))))))
 (.l (r32_.2.2.2.1, (r32_.2.2.2.2.1, (r32_.2.2.2.2.2.1, (r32_.2.2.2.2.2.2, (r33_.2.1, (r33_.2.2.1, r33_.2.2.2))))))))))
 (.c Yb (ww (4 : Int) r1_.2.2.1 r1_.2.2.2.1 r1_.2.2.2.2) fun r36_ =>
 .c Yaw (waa (0 : Int) (r36_.1, (r36_.2.1, (r36_.2.2.1, (r36_.2.2.2, (r1_.1, (r1_.2.1, ((0 : Int), ([] : Y1))))))))) fun r37_ =>
 .c Yb (ww (48 : Int) r37_.1 r37_.2.1 r37_.2.2.1) fun r38_ =>
 .t (r38_.1 == 0)
 (.c Yb (wu ([(-1 : Int), (1000 : Int), (1001 : Int)] : Y1) r38_.2.1 r38_.2.2.1 r38_.2.2.2) fun r39_ =>
 .l (r37_.2.2.2.1, (r37_.2.2.2.2.1, (r39_.1, (r37_.2.2.2.2.2.2, (r39_.2.1, (r39_.2.2.1, r39_.2.2.2)))))))
 (.t (r38_.1 == 1)
 (.c Yb (wu ([(0 : Int), (-1 : Int), (7 : Int)] : Y1) r38_.2.1 r38_.2.2.1 r38_.2.2.2) fun r40_ =>
 .g (decide ((length r37_.2.2.2.2.2.2 + length ([r40_.1] : Y1)) * 8 ≤ 140737488355328)) <|
 .l (r37_.2.2.2.1, (r37_.2.2.2.2.1, (r37_.2.2.2.2.2.1, ((r37_.2.2.2.2.2.2 ++ ([r40_.1] : Y1)), (r40_.2.1, (r40_.2.2.1, r40_.2.2.2)))))))
 (.l (r37_.2.2.2.1, (r37_.2.2.2.2.1, (r37_.2.2.2.2.2.1, (r37_.2.2.2.2.2.2, (r38_.2.1, (r38_.2.2.1, r38_.2.2.2)))))))))
noncomputable def wkt (a1_ : Y1) (a2_ : Int) (a3_ : Int) : Option (Y1 × (Y2 × (Int × Yag))) := (won a1_ a2_ a3_).ev
noncomputable def wamc : RetK := { acts := [.ren 900642 1], res := [.cell 2 68], sh := (yj [.agg (yj [.dat y1, .dat y2, .arr 1, .dat yi])]), obs := [(1, .arr 3 yi), Zc], pins := [(0, 0, 64)] }
noncomputable def woo : FD := yd (yj [.box 64 0]) [Zc] [.arg 0] (Y1 × (Y2 × (Int × Yag))) (fun x => wkt x.2.1.1 x.2.1.2.1 x.2.1.2.2.1) (fun r => ([.agg [.dat y1 r.1, .dat y2 r.2.1, .arr 1, .dat yi r.2.2.1]], [(1, .arr 3 yi r.2.2.2.1), (64, .cells [.dat Zab r.2.2.2.2.1, .dat yi r.2.2.2.2.2.1, .dat (.int .u64) r.2.2.2.2.2.2])]))
noncomputable def wxq : Nat → Nat → List Nat := fun r i => match look [(8, [(0, [70000577, 70000578])]), (13, [(2, [57])]), (15, [(0, [60000003])])] r with
 | some l => (look l i).getD []
 | none => []
noncomputable def wxr : Env := envOf [(82, wmw), (166, wjo), (121, wnk), (120, wbh), (119, wnl), (135, wdl), (159, wjv), (136, wks), (83, wed)]
noncomputable def wxs : List (Nat × LD) := [(0, wgk)]
noncomputable def wxt : Code := (f158.body).getD .skip
noncomputable def wxu (a1_ : Y1) : Tr (Y1 × (Y2 × (Int × (Int × Yae)))) :=
 .c (Y1 × (Y2 × (Int × Yag))) (wkt a1_ (0 : Int) (0 : Int)) fun r1_ =>
 .c Ybf (wei r1_.1 r1_.2.1 r1_.2.2.2.2.1 r1_.2.2.2.2.2.1 r1_.2.2.2.2.2.2) fun r2_ =>
 .l (r1_.1, (r1_.2.1, (r1_.2.2.1, (r2_.1, (r2_.2.1, (r2_.2.2.1, (r2_.2.2.2.1, (r1_.2.2.2.1, r2_.2.2.2.2.1))))))))
noncomputable def wop (a1_ : Y1) : Option (Y1 × (Y2 × (Int × (Int × Yae)))) := (wxu a1_).ev
noncomputable def wamd : RetK := { acts := [.ren 641 4, .ren 961 6], res := [.cell 2 68, .cell 3 72], sh := (yj [.agg (yj [.dat y1, .dat y2, .arr 4, .dat yi]), .agg (yj [.dat yi, .dat yi, .dat yi, .dat yi, .arr 6])]), obs := [(4, .arr 3 yi), (6, .arr 3 yi)], pins := [] }
noncomputable def wxv : FD := yd (yj [.dat Zab]) [] [] (Y1 × (Y2 × (Int × (Int × Yae)))) (fun x => wop x.1.1) (fun r => ([.agg [.dat y1 r.1, .dat y2 r.2.1, .arr 4, .dat yi r.2.2.1], .agg [.dat yi r.2.2.2.1, .dat yi r.2.2.2.2.1, .dat yi r.2.2.2.2.2.1, .dat yi r.2.2.2.2.2.2.1, .arr 6]], [(4, .arr 3 yi r.2.2.2.2.2.2.2.1), (6, .arr 3 yi r.2.2.2.2.2.2.2.2)]))
noncomputable def wbb (k : Y1 × (Int × (Y1 × Int))) (v : Int) : Tr ((Int) ⊕ ((Unit) ⊕ (Unit))) :=
 .t (decide (v < k.2.2.2))
 (.g (inR v (length k.2.2.1)) <|
 .c (Bool) (wcs (getD k.2.2.1 (toNat v) 0) (0 : Int) (wrap .i64 (k.2.1 - 1))) fun r6_ =>
 .t (!r6_)
 (.l (.inr (.inr ())))
 (.t (decide (0 < v))
 (.g (inR (wrap .i64 (v - 1)) (length k.1)) <|
 .t (decide ((getD k.2.2.1 (toNat v) 0) ≤ (getD k.1 (toNat (wrap .i64 (v - 1))) (0 : Int))))
 (.l (.inr (.inr ())))
 (.l (.inl (wrap .i64 (v + 1)))))
 (.l (.inl (wrap .i64 (v + 1))))))
 (.l (.inr (.inl ())))
noncomputable def wku (k : Y1 × (Int × (Y1 × Int))) (v : Int) : Option ((Unit) ⊕ (Unit)) := iter (fun v => (wbb k v).ev) v
noncomputable def wgl : LD := ⟨(yh [0, 1, 7, 8, 9] (yj [.dat y1, .dat yi, .dat y1, .dat yi, .dat yi])), [(0, (yh [] .nil))], (yh [4] Zp), Y1 × (Int × (Y1 × Int)), Int, (Unit) ⊕ (Unit), fun k v => ((k.1, (k.2.1, (k.2.2.1, (k.2.2.2, (v, ()))))), ()), fun t => (t.1.1, (t.1.2.1, (t.1.2.2.1, t.1.2.2.2.1))), fun t => t.1.2.2.2.2.1, wbb, fun _ r => .s (Unit) (Unit) r (fun _ => .l (.exit 0 (mkSt ((ys [] .nil)) ((), ())))) (fun _ => .l (.ret (mkSt ((ys [4] Zp)) ((false, ()), ()))))⟩
noncomputable def wxw (a1_ : Y1) (a2_ : Int) : Tr (Bool) :=
 .c ((Unit) ⊕ (Unit)) (wku (a1_, (a2_, (a1_, ((length a1_ : Nat) : Int)))) (0 : Int)) fun r8_ =>
 .s (Unit) (Unit) r8_
 (fun _ => .l true)
 (fun _ => .l false)
noncomputable def wkv (a1_ : Y1) (a2_ : Int) : Option (Bool) := (wxw a1_ a2_).ev
noncomputable def wame : RetK := yr [.tmp 4] Zp
noncomputable def woq : FD := yd (yj [.dat y1, .dat yi]) [] [] Bool (fun x => wkv x.1.1 x.1.2.1) (fun r => ([.dat .bool r], []))
noncomputable def wxx : Env := envOf [(104, wdj)]
noncomputable def wxy : List (Nat × LD) := [(0, wgl)]
noncomputable def wxz : Code := (f117.body).getD .skip
noncomputable def T_zu (a1_ : Y1) (a2_ : List Y1) (a3_ : Y1) (a4_ : Int) : Tr (Bool) :=
 .c (Bool) (wsz a1_ a2_) fun r1_ =>
 .t r1_
 (.c (Bool) (wkv a3_ ((length a1_ : Nat) : Int)) fun r2_ =>
 .t r2_
 (.c (Bool) (wcs a4_ (0 : Int) (1000 : Int)) fun r3_ =>
 .l r3_)
 (.l false))
 (.l false)
noncomputable def wab (a1_ : Y1) (a2_ : List Y1) (a3_ : Y1) (a4_ : Int) : Option (Bool) := (T_zu a1_ a2_ a3_ a4_).ev
noncomputable def K_zu : RetK := yr [.tmp 2] Zp
noncomputable def D_zu : FD := yd (yj [.agg Zk]) [] [] Bool (fun x => wab x.1.1.1 x.1.1.2.1 x.1.1.2.2.1 x.1.1.2.2.2.1) (fun r => ([.dat .bool r], []))
noncomputable def wya (a1_ : Int) : Tr (Int × (Bool × (Bool))) :=
 .t (a1_ == 1)
 (.t (a1_ == 1)
 (.l ((1 : Int), (false, true)))
 (.t (a1_ == 3)
 (.t (a1_ == 3)
 (.l ((2 : Int), (false, true)))
 (.t (a1_ == 5)
 (.l ((3 : Int), (false, true)))
 (.t (a1_ == 6)
 (.l ((1 : Int), (true, true)))
 (.t (a1_ == 7)
 (.l ((0 : Int), (true, true)))
 (.t (a1_ == 10)
 (.t (a1_ == 10)
 (.l ((0 : Int), (false, true)))
 (.l ((0 : Int), (false, false))))
 (.t (a1_ == 11)
 (.l ((0 : Int), (false, true)))
 (.l ((0 : Int), (false, false)))))))))
 (.t (a1_ == 4)
 (.l ((2 : Int), (false, true)))
 (.t (a1_ == 5)
 (.l ((3 : Int), (false, true)))
 (.t (a1_ == 6)
 (.l ((1 : Int), (true, true)))
 (.t (a1_ == 7)
 (.l ((0 : Int), (true, true)))
 (.t (a1_ == 10)
 (.t (a1_ == 10)
 (.l ((0 : Int), (false, true)))
 (.l ((0 : Int), (false, false))))
 (.t (a1_ == 11)
 (.l ((0 : Int), (false, true)))
 (.l ((0 : Int), (false, false)))))))))))
 (.t (a1_ == 2)
 (.t (a1_ == 2)
 (.l ((1 : Int), (false, true)))
 (.t (a1_ == 3)
 (.t (a1_ == 3)
 (.l ((2 : Int), (false, true)))
 (.t (a1_ == 5)
 (.l ((3 : Int), (false, true)))
 (.t (a1_ == 6)
 (.l ((1 : Int), (true, true)))
 (.t (a1_ == 7)
 (.l ((0 : Int), (true, true)))
 (.t (a1_ == 10)
 (.t (a1_ == 10)
 (.l ((0 : Int), (false, true)))
 (.l ((0 : Int), (false, false))))
 (.t (a1_ == 11)
 (.l ((0 : Int), (false, true)))
 (.l ((0 : Int), (false, false)))))))))
 (.t (a1_ == 4)
 (.l ((2 : Int), (false, true)))
 (.t (a1_ == 5)
 (.l ((3 : Int), (false, true)))
 (.t (a1_ == 6)
 (.l ((1 : Int), (true, true)))
 (.t (a1_ == 7)
 (.l ((0 : Int), (true, true)))
 (.t (a1_ == 10)
 (.t (a1_ == 10)
 (.l ((0 : Int), (false, true)))
 (.l ((0 : Int), (false, false))))
 (.t (a1_ == 11)
 (.l ((0 : Int), (false, true)))
 (.l ((0 : Int), (false, false)))))))))))
 (.t (a1_ == 8)
 (.t (a1_ == 8)
 (.l ((1 : Int), (false, true)))
 (.t (a1_ == 3)
 (.t (a1_ == 3)
 (.l ((2 : Int), (false, true)))
 (.t (a1_ == 5)
 (.l ((3 : Int), (false, true)))
 (.t (a1_ == 6)
 (.l ((1 : Int), (true, true)))
 (.t (a1_ == 7)
 (.l ((0 : Int), (true, true)))
 (.t (a1_ == 10)
 (.t (a1_ == 10)
 (.l ((0 : Int), (false, true)))
 (.l ((0 : Int), (false, false))))
 (.t (a1_ == 11)
 (.l ((0 : Int), (false, true)))
 (.l ((0 : Int), (false, false)))))))))
 (.t (a1_ == 4)
 (.l ((2 : Int), (false, true)))
 (.t (a1_ == 5)
 (.l ((3 : Int), (false, true)))
 (.t (a1_ == 6)
 (.l ((1 : Int), (true, true)))
 (.t (a1_ == 7)
 (.l ((0 : Int), (true, true)))
 (.t (a1_ == 10)
 (.t (a1_ == 10)
 (.l ((0 : Int), (false, true)))
 (.l ((0 : Int), (false, false))))
 (.t (a1_ == 11)
 (.l ((0 : Int), (false, true)))
 (.l ((0 : Int), (false, false)))))))))))
 (.t (a1_ == 9)
 (.l ((1 : Int), (false, true)))
 (.t (a1_ == 3)
 (.t (a1_ == 3)
 (.l ((2 : Int), (false, true)))
 (.t (a1_ == 5)
 (.l ((3 : Int), (false, true)))
 (.t (a1_ == 6)
 (.l ((1 : Int), (true, true)))
 (.t (a1_ == 7)
 (.l ((0 : Int), (true, true)))
 (.t (a1_ == 10)
 (.t (a1_ == 10)
 (.l ((0 : Int), (false, true)))
 (.l ((0 : Int), (false, false))))
 (.t (a1_ == 11)
 (.l ((0 : Int), (false, true)))
 (.l ((0 : Int), (false, false)))))))))
 (.t (a1_ == 4)
 (.l ((2 : Int), (false, true)))
 (.t (a1_ == 5)
 (.l ((3 : Int), (false, true)))
 (.t (a1_ == 6)
 (.l ((1 : Int), (true, true)))
 (.t (a1_ == 7)
 (.l ((0 : Int), (true, true)))
 (.t (a1_ == 10)
 (.t (a1_ == 10)
 (.l ((0 : Int), (false, true)))
 (.l ((0 : Int), (false, false))))
 (.t (a1_ == 11)
 (.l ((0 : Int), (false, true)))
 (.l ((0 : Int), (false, false)))))))))))))
noncomputable def wag (a1_ : Int) : Option (Int × (Bool × (Bool))) := (wya a1_).ev
noncomputable def wamg : RetK := yr [.tmp 2, .tmp 3, .tmp 4] (yj [.dat yi, .dat .bool, .dat .bool])
noncomputable def wyb : FD := yd Zm [] [] (Int × (Bool × (Bool))) (fun x => wag x.1.1) (fun r => ([.dat yi r.1, .dat .bool r.2.1, .dat .bool r.2.2], []))
noncomputable def T_zj (a1_ : Int) (a2_ : Int) (a3_ : Int) (a4_ : Int) (a5_ : Y1) : Tr (Bool) :=
 .c (Int × (Bool × (Bool))) (wag a1_) fun r1_ =>
 .t r1_.2.2
 (.t (decide (0 < r1_.1))
 (.t (decide (1 < r1_.1))
 (.t (decide (2 < r1_.1))
 (.t r1_.2.1
 (.l true)
 (.l (((length a5_ : Nat) : Int) == (0 : Int))))
 (.t (a4_ == 0)
 (.t r1_.2.1
 (.l true)
 (.l (((length a5_ : Nat) : Int) == (0 : Int))))
 (.l false)))
 (.t (a3_ == 0)
 (.t (decide (2 < r1_.1))
 (.t r1_.2.1
 (.l true)
 (.l (((length a5_ : Nat) : Int) == (0 : Int))))
 (.t (a4_ == 0)
 (.t r1_.2.1
 (.l true)
 (.l (((length a5_ : Nat) : Int) == (0 : Int))))
 (.l false)))
 (.l false)))
 (.t (a2_ == 0)
 (.t (decide (1 < r1_.1))
 (.t (decide (2 < r1_.1))
 (.t r1_.2.1
 (.l true)
 (.l (((length a5_ : Nat) : Int) == (0 : Int))))
 (.t (a4_ == 0)
 (.t r1_.2.1
 (.l true)
 (.l (((length a5_ : Nat) : Int) == (0 : Int))))
 (.l false)))
 (.t (a3_ == 0)
 (.t (decide (2 < r1_.1))
 (.t r1_.2.1
 (.l true)
 (.l (((length a5_ : Nat) : Int) == (0 : Int))))
 (.t (a4_ == 0)
 (.t r1_.2.1
 (.l true)
 (.l (((length a5_ : Nat) : Int) == (0 : Int))))
 (.l false)))
 (.l false)))
 (.l false)))
 (.l false)
noncomputable def F_zj (a1_ : Int) (a2_ : Int) (a3_ : Int) (a4_ : Int) (a5_ : Y1) : Option (Bool) := (T_zj a1_ a2_ a3_ a4_ a5_).ev
noncomputable def K_zj : RetK := yr [.tmp 2] Zp
noncomputable def D_zj : FD := yd (yj [.agg Zad]) [] [] Bool (fun x => F_zj x.1.1.1 x.1.1.2.1 x.1.1.2.2.1 x.1.1.2.2.2.1 x.1.1.2.2.2.2.1) (fun r => ([.dat .bool r], []))
noncomputable def wck (k : Y1 × Int) (v : Int × Int) : Tr (Yo ⊕ (Int)) :=
 .t (decide (v.2 < k.2))
 (.g (inR v.2 (length k.1)) <|
 .g (decide ((0 : Int) ≤ (getD k.1 (toNat v.2) 0))) <|
 .l (.inl ((wrap .u64 (BitVec.toNat ((BitVec.ofInt Zd v.1) ||| (BitVec.ofInt Zd (wrap .u64 ((1 : Int) * 2 ^ (min (toNat (getD k.1 (toNat v.2) 0)) Zd))))))), (wrap .i64 (v.2 + 1)))))
 (.l (.inr v.1))
noncomputable def wkw (k : Y1 × Int) (v : Int × Int) : Option (Int) := iter (fun v => (wck k v).ev) v
noncomputable def wgm : LD := ⟨(yh [3, 6, 7, 8] (yj [.dat (.int .u64), .dat y1, .dat yi, .dat yi])), [(0, (yh [3] Zau))], (yh [] .nil), Y1 × (Int), Int × (Int), Int, fun k v => ((v.1, (k.1, (k.2, (v.2, ())))), ()), fun t => (t.1.2.1, t.1.2.2.1), fun t => (t.1.1, t.1.2.2.2.1), wck, fun _ r => .l (.exit 0 (mkSt ((ys [3] Zau)) ((r, ()), ())))⟩
noncomputable def wyc (a1_ : Y1) : Tr (Int) :=
 .c (Int) (wkw (a1_, ((length a1_ : Nat) : Int)) ((0 : Int), (0 : Int))) fun r6_ =>
 .l r6_
noncomputable def wia (a1_ : Y1) : Option (Int) := (wyc a1_).ev
noncomputable def wamj : RetK := yr [.tmp 2] Zau
noncomputable def wkx : FD := yd (yj [.dat y1]) [] [] Int (fun x => wia x.1.1) (fun r => ([.dat (.int .u64) r], []))
noncomputable def wyd : Env := envOf []
noncomputable def wye : List (Nat × LD) := [(0, wgm)]
noncomputable def wyf : Code := (f141.body).getD .skip
noncomputable def T_zi (a1_ : Int) (a2_ : Y1) (_a3_ : List Y1) (_a4_ : Y1) (_a5_ : Int) : Tr (Bool) :=
 .c (Bool) (wcs a1_ (0 : Int) (wrap .i64 (((length a2_ : Nat) : Int) - 1))) fun r1_ =>
 .l r1_
noncomputable def wmn (a1_ : Int) (a2_ : Y1) (a3_ : List Y1) (a4_ : Y1) (a5_ : Int) : Option (Bool) := (T_zi a1_ a2_ a3_ a4_ a5_).ev
noncomputable def K_zi : RetK := yr [.tmp 3] Zp
noncomputable def D_zi : FD := yd (yj [.dat yi, .ptr Zk]) [] [] Bool (fun x => wmn x.1.1 x.1.2.1.1 x.1.2.1.2.1 x.1.2.1.2.2.1 x.1.2.1.2.2.2.1) (fun r => ([.dat .bool r], []))
noncomputable def wael (a1_ : Int) (a2_ : Int) : Tr (Bool) :=
 .g (decide (0 ≤ a2_)) <|
 .l ((wrap .u64 (BitVec.toNat ((BitVec.ofInt Zd (Int.fdiv a1_ (2 ^ (min (toNat a2_) Zd)))) &&& (BitVec.ofInt Zd (1 : Int))))) == (1 : Int))
noncomputable def wbi (a1_ : Int) (a2_ : Int) : Option (Bool) := (wael a1_ a2_).ev
noncomputable def wamm : RetK := yr [.tmp 4] Zp
noncomputable def wky : FD := yd (yj [.dat (.int .u64), .dat yi]) [] [] Bool (fun x => wbi x.1.1 x.1.2.1) (fun r => ([.dat .bool r], []))
noncomputable def wkz (k : Int) (v : Int × Y1) : Tr ((Int × Y1) ⊕ Y1) :=
 .g (decide (0 ≤ v.1)) <|
 .t (decide ((0 : Int) < (Int.fdiv k (2 ^ (min (toNat v.1) Zd)))))
 (.c (Bool) (wbi k v.1) fun r4_ =>
 .t r4_
 (.g (decide ((length v.2 + length ([v.1] : Y1)) * 8 ≤ 140737488355328)) <|
 .l (.inl ((wrap .i64 (v.1 + 1)), (v.2 ++ ([v.1] : Y1)))))
 (.l (.inl ((wrap .i64 (v.1 + 1)), v.2))))
 (.l (.inr v.2))
noncomputable def wyg (k : Int) (v : Int × Y1) : Option Y1 := iter (fun v => (wkz k v).ev) v
noncomputable def wgn : LD := ⟨{ acts := [], S := { slots := [0, 3, 4], sh := (yj [.dat (.int .u64), .arr 5, .dat yi]), obs := [(5, .arr 3 yi)] } }, [(0, { acts := [], S := { slots := [3], sh := (yj [.arr 5]), obs := [(5, .arr 3 yi)] } })], (yh [] .nil), Int, Int × Y1, Y1, fun k v => ((k, ((), (v.1, ()))), (v.2, ())), fun t => t.1.1, fun t => (t.1.2.2.1, t.2.1), wkz, fun _ r => .l (.exit 0 (mkSt ({ slots := [3], sh := (yj [.arr 5]), obs := [(5, .arr 3 yi)] }) (((), ()), (r, ()))))⟩
noncomputable def waem (a1_ : Int) : Tr Y1 :=
 .c Y1 (wyg a1_ ((0 : Int), ([] : Y1))) fun r6_ =>
 .l r6_
noncomputable def wcl (a1_ : Int) : Option Y1 := (waem a1_).ev
noncomputable def wamn : RetK := { acts := [.ren 5 0], res := [.tmp 2], sh := (yj [.arr 0]), obs := [Zbe], pins := [] }
noncomputable def wib : FD := yd Zau [] [] Y1 (fun x => wcl x.1.1) (fun r => ([.arr 0], [(0, .arr 3 yi r)]))
noncomputable def wyh : Env := envOf [(143, wky)]
noncomputable def wyi : List (Nat × LD) := [(0, wgn)]
noncomputable def wyj : Code := (f144.body).getD .skip
noncomputable def wyk (a1_ : Y1) (a2_ : Int) (a3_ : Int) : Tr Y1 :=
 .c (Int) (wia a1_) fun r1_ =>
 .g (decide (0 ≤ a2_)) <|
 .g (decide (0 ≤ a3_)) <|
 .c Y1 (wcl (wrap .u64 (BitVec.toNat ((BitVec.ofInt Zd (wrap .u64 (BitVec.toNat ((BitVec.ofInt Zd r1_) &&& ~~~(BitVec.ofInt Zd (wrap .u64 ((1 : Int) * 2 ^ (min (toNat a2_) Zd)))))))) ||| (BitVec.ofInt Zd (wrap .u64 ((1 : Int) * 2 ^ (min (toNat a3_) Zd)))))))) fun r2_ =>
 .l r2_
noncomputable def wla (a1_ : Y1) (a2_ : Int) (a3_ : Int) : Option Y1 := (wyk a1_ a2_ a3_).ev
noncomputable def wamo : RetK := { acts := [.ren 960 0], res := [.tmp 6], sh := (yj [.arr 0]), obs := [Zbe], pins := [] }
noncomputable def wor : FD := yd Zas [] [] Y1 (fun x => wla x.1.1 x.1.2.1 x.1.2.2.1) (fun r => ([.arr 0], [(0, .arr 3 yi r)]))
noncomputable def wos (a2_ : Int) (a3_ : Int) (a1_ : Y1) : Option (List Int) := delF a2_ a3_ a1_
noncomputable def waen : FD := fdDelI
noncomputable def waeo (a2_ : Int) (a3_ : Int) (a1_ : List Y1) : Option (List (List Int)) := delF a2_ a3_ a1_
noncomputable def waep : FD := fdDelR
noncomputable def T_zm (a1_ : Y1) (_a2_ : List Y1) (a3_ : Y1) : Tr (Bool) :=
 .t (decide ((0 : Int) < ((length a3_ : Nat) : Int)))
 (.c (Bool) (wkv a3_ ((length a1_ : Nat) : Int)) fun r1_ =>
 .l r1_)
 (.l false)
noncomputable def F_zm (a1_ : Y1) (a2_ : List Y1) (a3_ : Y1) : Option (Bool) := (T_zm a1_ a2_ a3_).ev
noncomputable def K_zm : RetK := yr [.tmp 4] Zp
noncomputable def D_zm : FD := yd (yj [.agg Zf, .dat y1]) [] [] Bool (fun x => F_zm x.1.1.1 x.1.1.2.1 x.1.2.1) (fun r => ([.dat .bool r], []))
noncomputable def wyl (a1_ : Y1) (a2_ : List Y1) (a3_ : Y1) : Tr (Bool) :=
 .c (Bool) (wsz a1_ a2_) fun r1_ =>
 .t r1_
 (.c (Bool) (F_zm a1_ a2_ a3_) fun r2_ =>
 .l r2_)
 (.l false)
noncomputable def wlb (a1_ : Y1) (a2_ : List Y1) (a3_ : Y1) : Option (Bool) := (wyl a1_ a2_ a3_).ev
noncomputable def wams : RetK := yr [.tmp 4] Zp
noncomputable def wot : FD := yd (yj [.agg Zf, .dat y1]) [] [] Bool (fun x => wlb x.1.1.1 x.1.1.2.1 x.1.2.1) (fun r => ([.dat .bool r], []))
noncomputable def wdp (k : Y1 × Yax) (v : Int × Int) : Tr (Yo ⊕ (Int)) :=
 .t (decide (v.2 < k.2.1))
 (.g (inR v.2 (length k.1)) <|
 .g (inR (getD k.1 (toNat v.2) 0) (length k.2.2.1)) <|
 .l (.inl ((wrap .i64 (v.1 + (getD k.2.2.1 (toNat (getD k.1 (toNat v.2) 0)) (0 : Int)))), (wrap .i64 (v.2 + 1)))))
 (.l (.inr v.1))
noncomputable def wpq (k : Y1 × Yax) (v : Int × Int) : Option (Int) := iter (fun v => (wdp k v).ev) v
noncomputable def wlc : LD := ⟨{ acts := [], S := { slots := [2, 5, 8, 9, 10], sh := (yj [.box 2 0, .dat yi, .dat y1, .dat yi, .dat yi]), obs := [(2, .cells Zf)] } }, [(0, (yh [5] Zm))], (yh [] .nil), Y1 × Yax, Int × (Int), Int, fun k v => (((), (v.1, (k.1, (k.2.1, (v.2, ()))))), ((k.2.2.1, (k.2.2.2, ())), ())), fun t => (t.1.2.2.1, (t.1.2.2.2.1, (t.2.1.1, t.2.1.2.1))), fun t => (t.1.2.1, t.1.2.2.2.2.1), wdp, fun _ r => .l (.exit 0 (mkSt ((ys [5] Zm)) ((r, ()), ())))⟩
noncomputable def T_zp (a1_ : Y1) (a2_ : List Y1) (a3_ : Y1) : Tr (Int) :=
 .c (Int) (wpq (a3_, (((length a3_ : Nat) : Int), (a1_, a2_))) ((0 : Int), (0 : Int))) fun r8_ =>
 .l r8_
noncomputable def F_zp (a1_ : Y1) (a2_ : List Y1) (a3_ : Y1) : Option (Int) := (T_zp a1_ a2_ a3_).ev
noncomputable def K_zp : RetK := yr [.tmp 4] Zm
noncomputable def D_zp : FD := yd (yj [.agg Zf, .dat y1]) [] [] Int (fun x => F_zp x.1.1.1 x.1.1.2.1 x.1.2.1) (fun r => ([.dat yi r], []))
noncomputable def E_zp : Env := envOf []
noncomputable def O_zp : List (Nat × LD) := [(0, wlc)]
noncomputable def C_zp : Code := (f187.body).getD .skip
noncomputable def wdq (k : Int × (Y1 × Yax)) (v : Int × Int) : Tr (Yo ⊕ (Int)) :=
 .t (decide (v.2 < k.2.2.1))
 (.g (inR v.2 (length k.2.1)) <|
 .g (inR k.1 (length k.2.2.2.2)) <|
 .g (inR (getD k.2.1 (toNat v.2) 0) (length (getD k.2.2.2.2 (toNat k.1) ([] : Y1)))) <|
 .g (inR k.1 (length k.2.2.2.2)) <|
 .g (inR v.1 (length (getD k.2.2.2.2 (toNat k.1) ([] : Y1)))) <|
 .t (decide ((getD (getD k.2.2.2.2 (toNat k.1) ([] : Y1)) (toNat (getD k.2.1 (toNat v.2) 0)) (0 : Int)) < (getD (getD k.2.2.2.2 (toNat k.1) ([] : Y1)) (toNat v.1) (0 : Int))))
 (.l (.inl ((getD k.2.1 (toNat v.2) 0), (wrap .i64 (v.2 + 1)))))
 (.l (.inl (v.1, (wrap .i64 (v.2 + 1))))))
 (.l (.inr v.1))
noncomputable def wpr (k : Int × (Y1 × Yax)) (v : Int × Int) : Option (Int) := iter (fun v => (wdq k v).ev) v
noncomputable def wle : LD := ⟨{ acts := [], S := { slots := [1, 3, 7, 13, 14, 15], sh := (yj [.dat yi, .box 3 0, .dat yi, .dat y1, .dat yi, .dat yi]), obs := [(3, .cells Zf)] } }, [(0, (yh [7] Zm))], (yh [] .nil), Int × (Y1 × Yax), Int × (Int), Int, fun k v => ((k.1, ((), (v.1, (k.2.1, (k.2.2.1, (v.2, ())))))), ((k.2.2.2.1, (k.2.2.2.2, ())), ())), fun t => (t.1.1, (t.1.2.2.2.1, (t.1.2.2.2.2.1, (t.2.1.1, t.2.1.2.1)))), fun t => (t.1.2.2.1, t.1.2.2.2.2.2.1), wdq, fun _ r => .l (.exit 0 (mkSt ((ys [7] Zm)) ((r, ()), ())))⟩
noncomputable def T_zr (a1_ : Y1) (a2_ : List Y1) (a3_ : Int) (a4_ : Y1) : Tr (Int) :=
 .g (inR 0 (length a4_)) <|
 .c (Int) (wpr (a3_, (a4_, (((length a4_ : Nat) : Int), (a1_, a2_)))) ((getD a4_ (toNat 0) 0), (0 : Int))) fun r9_ =>
 .l r9_
noncomputable def F_zr (a1_ : Y1) (a2_ : List Y1) (a3_ : Int) (a4_ : Y1) : Option (Int) := (T_zr a1_ a2_ a3_ a4_).ev
noncomputable def K_zr : RetK := yr [.tmp 6] Zm
noncomputable def D_zr : FD := yd (yj [.agg Zf, .dat yi, .dat y1]) [] [] Int (fun x => F_zr x.1.1.1 x.1.1.2.1 x.1.2.1 x.1.2.2.1) (fun r => ([.dat yi r], []))
noncomputable def E_zr : Env := envOf []
noncomputable def O_zr : List (Nat × LD) := [(0, wle)]
noncomputable def C_zr : Code := (f274.body).getD .skip
noncomputable def wdr (k : Y1 × Yax) (v : Int × Y1) : Tr ((Int × Y1) ⊕ Y1) :=
 .t (decide (v.1 < k.2.1))
 (.c (Int) (F_zr k.2.2.1 k.2.2.2 v.1 k.1) fun r7_ =>
 .g (decide ((length v.2 + length ([r7_] : Y1)) * 8 ≤ 140737488355328)) <|
 .l (.inl ((wrap .i64 (v.1 + 1)), (v.2 ++ ([r7_] : Y1)))))
 (.l (.inr v.2))
noncomputable def wps (k : Y1 × Yax) (v : Int × Y1) : Option Y1 := iter (fun v => (wdr k v).ev) v
noncomputable def wlf : LD := ⟨{ acts := [], S := { slots := [1, 2, 5, 10, 11], sh := (yj [.dat y1, .box 2 0, .arr 7, .dat yi, .dat yi]), obs := [(2, .cells Zf), (7, .arr 3 yi)] } }, [(0, { acts := [], S := { slots := [5], sh := (yj [.arr 7]), obs := [(7, .arr 3 yi)] } })], (yh [] .nil), Y1 × Yax, Int × Y1, Y1, fun k v => ((k.1, ((), ((), (k.2.1, (v.1, ()))))), ((k.2.2.1, (k.2.2.2, ())), (v.2, ()))), fun t => (t.1.1, (t.1.2.2.2.1, (t.2.1.1, t.2.1.2.1))), fun t => (t.1.2.2.2.2.1, t.2.2.1), wdr, fun _ r => .l (.exit 0 (mkSt ({ slots := [5], sh := (yj [.arr 7]), obs := [(7, .arr 3 yi)] }) (((), ()), (r, ()))))⟩
noncomputable def T_zq (a1_ : Y1) (a2_ : List Y1) (a3_ : Y1) : Tr Y1 :=
 .c Y1 (wps (a3_, (((length a2_ : Nat) : Int), (a1_, a2_))) ((0 : Int), ([] : Y1))) fun r9_ =>
 .l r9_
noncomputable def F_zq (a1_ : Y1) (a2_ : List Y1) (a3_ : Y1) : Option Y1 := (T_zq a1_ a2_ a3_).ev
noncomputable def K_zq : RetK := { acts := [.ren 7 0], res := [.tmp 4], sh := (yj [.arr 0]), obs := [Zbe], pins := [] }
noncomputable def D_zq : FD := yd (yj [.agg Zf, .dat y1]) [] [] Y1 (fun x => F_zq x.1.1.1 x.1.1.2.1 x.1.2.1) (fun r => ([.arr 0], [(0, .arr 3 yi r)]))
noncomputable def E_zq : Env := envOf [(274, D_zr)]
noncomputable def O_zq : List (Nat × LD) := [(0, wlf)]
noncomputable def C_zq : Code := (f261.body).getD .skip
noncomputable def wds (k : Int × (Y1 × (Y2 × Y1))) (v : Int × Y1) : Tr ((Int × Y1) ⊕ Y1) :=
 .t (decide (v.1 < k.1))
 (.g (inR v.1 (length k.2.2.2)) <|
 .g (decide ((toNat v.1) < length k.2.2.2)) <|
 .g (inR v.1 (length k.2.2.1)) <|
 .g (inR (getD k.2.2.2 (toNat v.1) 0) (length (getD k.2.2.1 (toNat v.1) ([] : Y1)))) <|
 .g (decide ((length v.2 + length ([(getD (getD k.2.2.1 (toNat v.1) ([] : Y1)) (toNat (getD k.2.2.2 (toNat v.1) 0)) (0 : Int))] : Y1)) * 8 ≤ 140737488355328)) <|
 .l (.inl ((wrap .i64 (v.1 + 1)), (v.2 ++ ([(getD (getD k.2.2.1 (toNat v.1) ([] : Y1)) (toNat (getD k.2.2.2 (toNat v.1) 0)) (0 : Int))] : Y1)))))
 (.l (.inr v.2))
noncomputable def wpt (k : Int × (Y1 × (Y2 × Y1))) (v : Int × Y1) : Option Y1 := iter (fun v => (wds k v).ev) v
noncomputable def wlg : LD := ⟨{ acts := [], S := { slots := [2, 5, 11, 12, 13], sh := (yj [.box 2 0, .arr 8, .arr 704, .dat yi, .dat yi]), obs := [(2, .cells Zf), (8, .arr 3 yi), (704, .arr 3 yi)] } }, [(0, { acts := [], S := { slots := [5], sh := (yj [.arr 8]), obs := [(8, .arr 3 yi)] } })], (yh [] .nil), Int × (Y1 × (Y2 × Y1)), Int × Y1, Y1, fun k v => (((), ((), ((), (k.1, (v.1, ()))))), ((k.2.1, (k.2.2.1, ())), (v.2, (k.2.2.2, ())))), fun t => (t.1.2.2.2.1, (t.2.1.1, (t.2.1.2.1, t.2.2.2.1))), fun t => (t.1.2.2.2.2.1, t.2.2.1), wds, fun _ r => .l (.exit 0 (mkSt ({ slots := [5], sh := (yj [.arr 8]), obs := [(8, .arr 3 yi)] }) (((), ()), (r, ()))))⟩
noncomputable def T_zn (a1_ : Y1) (a2_ : List Y1) (a3_ : Y1) : Tr Y1 :=
 .c Y1 (F_zq a1_ a2_ a3_) fun r1_ =>
 .c Y1 (wpt (((length r1_ : Nat) : Int), (a1_, (a2_, r1_))) ((0 : Int), ([] : Y1))) fun r9_ =>
 .l r9_
noncomputable def F_zn (a1_ : Y1) (a2_ : List Y1) (a3_ : Y1) : Option Y1 := (T_zn a1_ a2_ a3_).ev
noncomputable def K_zn : RetK := { acts := [.ren 8 0], res := [.tmp 4], sh := (yj [.arr 0]), obs := [Zbe], pins := [] }
noncomputable def D_zn : FD := yd (yj [.agg Zf, .dat y1]) [] [] Y1 (fun x => F_zn x.1.1.1 x.1.1.2.1 x.1.2.1) (fun r => ([.arr 0], [(0, .arr 3 yi r)]))
noncomputable def E_zn : Env := envOf [(261, D_zq)]
noncomputable def O_zn : List (Nat × LD) := [(0, wlg)]
noncomputable def C_zn : Code := (f237.body).getD .skip
noncomputable def wcm (k : Y1 × Int) (v : Int × Int) : Tr (Yo ⊕ (Int)) :=
 .t (decide (v.2 < k.2))
 (.g (inR v.2 (length k.1)) <|
 .l (.inl ((wrap .i64 (v.1 + (getD k.1 (toNat v.2) 0))), (wrap .i64 (v.2 + 1)))))
 (.l (.inr v.1))
noncomputable def wlh (k : Y1 × Int) (v : Int × Int) : Option (Int) := iter (fun v => (wcm k v).ev) v
noncomputable def wgo : LD := ⟨(yh [3, 6, 7, 8] (yj [.dat yi, .dat y1, .dat yi, .dat yi])), [(0, (yh [3] Zm))], (yh [] .nil), Y1 × (Int), Int × (Int), Int, fun k v => ((v.1, (k.1, (k.2, (v.2, ())))), ()), fun t => (t.1.2.1, t.1.2.2.1), fun t => (t.1.1, t.1.2.2.2.1), wcm, fun _ r => .l (.exit 0 (mkSt ((ys [3] Zm)) ((r, ()), ())))⟩
noncomputable def wym (a1_ : Y1) : Tr (Int) :=
 .c (Int) (wlh (a1_, ((length a1_ : Nat) : Int)) ((0 : Int), (0 : Int))) fun r6_ =>
 .l r6_
noncomputable def wou (a1_ : Y1) : Option (Int) := (wym a1_).ev
noncomputable def wann : RetK := yr [.tmp 2] Zm
noncomputable def wyn : FD := yd (yj [.dat y1]) [] [] Int (fun x => wou x.1.1) (fun r => ([.dat yi r], []))
noncomputable def wyo : Env := envOf []
noncomputable def wyp : List (Nat × LD) := [(0, wgo)]
noncomputable def wyq : Code := (f236.body).getD .skip
noncomputable def T_zs (a1_ : Y1) (a2_ : List Y1) (a3_ : Y1) : Tr (Int) :=
 .c Y1 (F_zn a1_ a2_ a3_) fun r1_ =>
 .c (Int) (wou r1_) fun r2_ =>
 .l r2_
noncomputable def F_zs (a1_ : Y1) (a2_ : List Y1) (a3_ : Y1) : Option (Int) := (T_zs a1_ a2_ a3_).ev
noncomputable def K_zs : RetK := yr [.tmp 4] Zm
noncomputable def D_zs : FD := yd (yj [.agg Zf, .dat y1]) [] [] Int (fun x => F_zs x.1.1.1 x.1.1.2.1 x.1.2.1) (fun r => ([.dat yi r], []))
noncomputable def T_zt (a1_ : Y1) (a2_ : List Y1) (a3_ : Y1) : Tr (Int) :=
 .c (Int) (F_zp a1_ a2_ a3_) fun r1_ =>
 .c (Int) (F_zs a1_ a2_ a3_) fun r2_ =>
 .l (wrap .i64 (r1_ + r2_))
noncomputable def wie (a1_ : Y1) (a2_ : List Y1) (a3_ : Y1) : Option (Int) := (T_zt a1_ a2_ a3_).ev
noncomputable def K_zt : RetK := yr [.tmp 4] Zm
noncomputable def D_zt : FD := yd (yj [.agg Zf, .dat y1]) [] [] Int (fun x => wie x.1.1.1 x.1.1.2.1 x.1.2.1) (fun r => ([.dat yi r], []))
noncomputable def T_zl (a1_ : Y1) (a2_ : Y1) (a3_ : List Y1) (a4_ : Int) : Tr ((Y1 × Yj) ⊕ (Y1 × Yj)) :=
 .c (Int) (wie a2_ a3_ a1_) fun r1_ =>
 .t (decide (r1_ < a4_))
 (.g (decide (0 < length a1_)) <|
 .l (.inr (a1_, (a2_, (a3_, a4_)))))
 (.l (.inl (a1_, (a2_, (a3_, a4_)))))
noncomputable def F_zl (a1_ : Y1) (a2_ : Y1) (a3_ : List Y1) (a4_ : Int) : Option ((Y1 × Yj) ⊕ (Y1 × Yj)) := (T_zl a1_ a2_ a3_ a4_).ev
noncomputable def K_zl : RetK := { acts := [], res := [.tmp 5], sh := Zp, obs := [(64, .arr 3 yi), (65, .cells Zf), (66, .cells Zm), (67, .cells (yj [.nilsl]))], pins := [(0, 0, 64), (1, 0, 65), (2, 0, 66), (3, 0, 67)] }
noncomputable def waeq : RetK := { acts := [], res := [.tmp 5], sh := Zp, obs := [(64, .arr 3 yi), (65, .cells Zf), (66, .cells Zm), (67, .cells (yj [.arr 64]))], pins := [(0, 0, 64), (1, 0, 65), (2, 0, 66), (3, 0, 67)] }
noncomputable def D_zl : FD := { (yd (yj [.arr 64, .box 65 0, .box 66 0, .box 67 0]) [(64, .arr 3 yi), (65, .cells Zf), (66, .cells Zm), (67, .cells (yj [.nilsl]))] [.arg 0, .arg 1, .arg 2, .arg 3] ((Y1 × Yj) ⊕ (Y1 × Yj)) (fun x => F_zl x.2.1 x.2.2.1.1 x.2.2.1.2.1 x.2.2.2.1.1) (fun r => match r with | .inl a => ([.dat .bool true], [(64, .arr 3 yi a.1), (65, .cells [.dat y1 a.2.1, .dat y2 a.2.2.1]), (66, .cells [.dat yi a.2.2.2]), (67, .cells [.nilsl])]) | .inr b => ([.dat .bool false], [(64, .arr 3 yi b.1), (65, .cells [.dat y1 b.2.1, .dat y2 b.2.2.1]), (66, .cells [.dat yi b.2.2.2]), (67, .cells [.arr 64])]))) with
 sp := fun r => .s (Y1 × Yj) (Y1 × Yj) r (fun a => .l ([.dat .bool true], [(64, .arr 3 yi a.1), (65, .cells [.dat y1 a.2.1, .dat y2 a.2.2.1]), (66, .cells [.dat yi a.2.2.2]), (67, .cells [.nilsl])])) (fun b => .l ([.dat .bool false], [(64, .arr 3 yi b.1), (65, .cells [.dat y1 b.2.1, .dat y2 b.2.2.1]), (66, .cells [.dat yi b.2.2.2]), (67, .cells [.arr 64])]))
 spok := fun r => by cases r <;> rfl }
noncomputable def wdt (k : Y1 × (Int × Yo)) (v : Int × Yj) : Tr ((Int × Yj) ⊕ (Yj ⊕ Yl)) :=
 .t (decide (v.1 < k.2.2.2))
 (.c (Bool) (wbi k.2.1 v.1) fun r10_ =>
 .t (!r10_)
 (.g (decide (0 ≤ v.1)) <|
 .c Y1 (wcl (wrap .u64 (BitVec.toNat ((BitVec.ofInt Zd k.2.1) ||| (BitVec.ofInt Zd (wrap .u64 ((1 : Int) * 2 ^ (min (toNat v.1) Zd)))))))) fun r11_ =>
 .c ((Y1 × Yj) ⊕ (Y1 × Yj)) (F_zl r11_ v.2.1 v.2.2.1 v.2.2.2) fun r12_ =>
 .s (Y1 × Yj) (Y1 × Yj) r12_
 (fun r13_ => .l (.inl ((wrap .i64 (v.1 + 1)), (r13_.2.1, (r13_.2.2.1, r13_.2.2.2)))))
 (fun r14_ => .l (.inr (.inr (r14_.2.1, (r14_.2.2.1, (r14_.2.2.2, r14_.1)))))))
 (.l (.inl ((wrap .i64 (v.1 + 1)), (v.2.1, (v.2.2.1, v.2.2.2))))))
 (.l (.inr (.inl (v.2.1, (v.2.2.1, v.2.2.2)))))
noncomputable def wpu (k : Y1 × (Int × Yo)) (v : Int × Yj) : Option (Yj ⊕ Yl) := iter (fun v => (wdt k v).ev) v
noncomputable def wli : LD := ⟨{ acts := [], S := { slots := [1, 2, 6, 7, 19, 20], sh := (yj [.dat y1, .fn 226 Zr, .dat (.int .u64), .dat yi, .dat yi, .dat yi]), obs := [Zaj, Zak, Zaf] } }, [(0, { acts := [], S := { slots := [1, 2, 6, 7], sh := (yj [.dat y1, .fn 226 Zr, .dat (.int .u64), .dat yi]), obs := [Zaj, Zak, Zaf] } })], { acts := [], S := { slots := [2], sh := (yj [.fn 226 Zr]), obs := [Zaj, Zak, (66, .cells (yj [.arr 2112])), (2112, .arr 3 yi)] } }, Y1 × (Int × Yo), Int × Yj, Yj ⊕ Yl, fun k v => ((k.1, (((), ((), ((), ()))), (k.2.1, (k.2.2.1, (k.2.2.2, (v.1, ())))))), ((v.2.1, (v.2.2.1, ())), ((v.2.2.2, ()), (((), ()), ())))), fun t => (t.1.1, (t.1.2.2.1, (t.1.2.2.2.1, t.1.2.2.2.2.1))), fun t => (t.1.2.2.2.2.2.1, (t.2.1.1, (t.2.1.2.1, t.2.2.1.1))), wdt, fun k r => .s Yj Yl r (fun a => .l (.exit 0 (mkSt ({ slots := [1, 2, 6, 7], sh := (yj [.dat y1, .fn 226 Zr, .dat (.int .u64), .dat yi]), obs := [Zaj, Zak, Zaf] }) ((k.1, (((), ((), ((), ()))), (k.2.1, (k.2.2.1, ())))), ((a.1, (a.2.1, ())), ((a.2.2, ()), (((), ()), ()))))))) (fun b => .l (.ret (mkSt ({ slots := [2], sh := (yj [.fn 226 Zr]), obs := [Zaj, Zak, (66, .cells (yj [.arr 2112])), (2112, .arr 3 yi)] }) ((((), ((), ((), ()))), ()), ((b.1, (b.2.1, ())), ((b.2.2.1, ()), (((), ()), (b.2.2.2, ()))))))))⟩
noncomputable def wdu (k : Y1 × (Int × (Int × (Y1 × Int)))) (v : Int × Yj) : Tr ((Int × Yj) ⊕ (Yj ⊕ Yl)) :=
 .t (decide (v.1 < k.2.2.2.2))
 (.g (inR v.1 (length k.2.2.2.1)) <|
 .t (decide ((1 : Int) < ((length k.1 : Nat) : Int)))
 (.g (decide ((0 : Int) ≤ (getD k.2.2.2.1 (toNat v.1) 0))) <|
 .c Y1 (wcl (wrap .u64 (BitVec.toNat ((BitVec.ofInt Zd k.2.1) &&& ~~~(BitVec.ofInt Zd (wrap .u64 ((1 : Int) * 2 ^ (min (toNat (getD k.2.2.2.1 (toNat v.1) 0)) Zd)))))))) fun r37_ =>
 .c ((Y1 × Yj) ⊕ (Y1 × Yj)) (F_zl r37_ v.2.1 v.2.2.1 v.2.2.2) fun r38_ =>
 .s (Y1 × Yj) (Y1 × Yj) r38_
 (fun r39_ => .l (.inl ((wrap .i64 (v.1 + 1)), (r39_.2.1, (r39_.2.2.1, r39_.2.2.2)))))
 (fun r40_ => .l (.inr (.inr (r40_.2.1, (r40_.2.2.1, (r40_.2.2.2, r40_.1)))))))
 (.l (.inl ((wrap .i64 (v.1 + 1)), (v.2.1, (v.2.2.1, v.2.2.2))))))
 (.l (.inr (.inl (v.2.1, (v.2.2.1, v.2.2.2)))))
noncomputable def wpv (k : Y1 × (Int × (Int × (Y1 × Int)))) (v : Int × Yj) : Option (Yj ⊕ Yl) := iter (fun v => (wdu k v).ev) v
noncomputable def wlj : LD := ⟨{ acts := [], S := { slots := [1, 2, 6, 7, 38, 39, 40], sh := (yj [.dat y1, .fn 226 Zr, .dat (.int .u64), .dat yi, .dat y1, .dat yi, .dat yi]), obs := [Zaj, Zak, Zaf] } }, [(2, { acts := [], S := { slots := [1, 2, 6, 7], sh := (yj [.dat y1, .fn 226 Zr, .dat (.int .u64), .dat yi]), obs := [Zaj, Zak, Zaf] } })], { acts := [], S := { slots := [2], sh := (yj [.fn 226 Zr]), obs := [Zaj, Zak, (66, .cells (yj [.arr 3392])), (3392, .arr 3 yi)] } }, Y1 × (Int × (Int × (Y1 × Int))), Int × Yj, Yj ⊕ Yl, fun k v => ((k.1, (((), ((), ((), ()))), (k.2.1, (k.2.2.1, (k.2.2.2.1, (k.2.2.2.2, (v.1, ()))))))), ((v.2.1, (v.2.2.1, ())), ((v.2.2.2, ()), (((), ()), ())))), fun t => (t.1.1, (t.1.2.2.1, (t.1.2.2.2.1, (t.1.2.2.2.2.1, t.1.2.2.2.2.2.1)))), fun t => (t.1.2.2.2.2.2.2.1, (t.2.1.1, (t.2.1.2.1, t.2.2.1.1))), wdu, fun k r => .s Yj Yl r (fun a => .l (.exit 2 (mkSt ({ slots := [1, 2, 6, 7], sh := (yj [.dat y1, .fn 226 Zr, .dat (.int .u64), .dat yi]), obs := [Zaj, Zak, Zaf] }) ((k.1, (((), ((), ((), ()))), (k.2.1, (k.2.2.1, ())))), ((a.1, (a.2.1, ())), ((a.2.2, ()), (((), ()), ()))))))) (fun b => .l (.ret (mkSt ({ slots := [2], sh := (yj [.fn 226 Zr]), obs := [Zaj, Zak, (66, .cells (yj [.arr 3392])), (3392, .arr 3 yi)] }) ((((), ((), ((), ()))), ()), ((b.1, (b.2.1, ())), ((b.2.2.1, ()), (((), ()), (b.2.2.2, ()))))))))⟩
noncomputable def wdv (k : Y1 × (Int × (Int × (Int × (Y1 × (Int × Yo)))))) (v : Int × Yj) : Tr ((Int × Yj) ⊕ (Yj ⊕ Yl)) :=
 .t (decide (v.1 < k.2.2.2.2.2.2.2))
 (.c (Bool) (wbi k.2.1 v.1) fun r75_ =>
 .t (!r75_)
 (.c Y1 (wla k.1 k.2.2.2.1 v.1) fun r76_ =>
 .c ((Y1 × Yj) ⊕ (Y1 × Yj)) (F_zl r76_ v.2.1 v.2.2.1 v.2.2.2) fun r77_ =>
 .s (Y1 × Yj) (Y1 × Yj) r77_
 (fun r78_ => .l (.inl ((wrap .i64 (v.1 + 1)), (r78_.2.1, (r78_.2.2.1, r78_.2.2.2)))))
 (fun r79_ => .l (.inr (.inr (r79_.2.1, (r79_.2.2.1, (r79_.2.2.2, r79_.1)))))))
 (.l (.inl ((wrap .i64 (v.1 + 1)), (v.2.1, (v.2.2.1, v.2.2.2))))))
 (.l (.inr (.inl (v.2.1, (v.2.2.1, v.2.2.2)))))
noncomputable def wpw (k : Y1 × (Int × (Int × (Int × (Y1 × (Int × Yo)))))) (v : Int × Yj) : Option (Yj ⊕ Yl) := iter (fun v => (wdv k v).ev) v
noncomputable def wlk : LD := ⟨{ acts := [], S := { slots := [1, 2, 6, 7, 12, 58, 59, 60, 64, 65], sh := (yj [.dat y1, .fn 226 Zr, .dat (.int .u64), .dat yi, .dat yi, .dat y1, .dat yi, .dat yi, .dat yi, .dat yi]), obs := [Zaj, Zak, Zaf] } }, [(6, { acts := [], S := { slots := [1, 2, 6, 7, 58, 59, 60], sh := (yj [.dat y1, .fn 226 Zr, .dat (.int .u64), .dat yi, .dat y1, .dat yi, .dat yi]), obs := [Zaj, Zak, Zaf] } })], { acts := [], S := { slots := [2], sh := (yj [.fn 226 Zr]), obs := [Zaj, Zak, (66, .cells (yj [.arr 4928])), (4928, .arr 3 yi)] } }, Y1 × (Int × (Int × (Int × (Y1 × (Int × Yo))))), Int × Yj, Yj ⊕ Yl, fun k v => ((k.1, (((), ((), ((), ()))), (k.2.1, (k.2.2.1, (k.2.2.2.1, (k.2.2.2.2.1, (k.2.2.2.2.2.1, (k.2.2.2.2.2.2.1, (k.2.2.2.2.2.2.2, (v.1, ())))))))))), ((v.2.1, (v.2.2.1, ())), ((v.2.2.2, ()), (((), ()), ())))), fun t => (t.1.1, (t.1.2.2.1, (t.1.2.2.2.1, (t.1.2.2.2.2.1, (t.1.2.2.2.2.2.1, (t.1.2.2.2.2.2.2.1, (t.1.2.2.2.2.2.2.2.1, t.1.2.2.2.2.2.2.2.2.1))))))), fun t => (t.1.2.2.2.2.2.2.2.2.2.1, (t.2.1.1, (t.2.1.2.1, t.2.2.1.1))), wdv, fun k r => .s Yj Yl r (fun a => .l (.exit 6 (mkSt ({ slots := [1, 2, 6, 7, 58, 59, 60], sh := (yj [.dat y1, .fn 226 Zr, .dat (.int .u64), .dat yi, .dat y1, .dat yi, .dat yi]), obs := [Zaj, Zak, Zaf] }) ((k.1, (((), ((), ((), ()))), (k.2.1, (k.2.2.1, (k.2.2.2.2.1, (k.2.2.2.2.2.1, (k.2.2.2.2.2.2.1, ()))))))), ((a.1, (a.2.1, ())), ((a.2.2, ()), (((), ()), ()))))))) (fun b => .l (.ret (mkSt ({ slots := [2], sh := (yj [.fn 226 Zr]), obs := [Zaj, Zak, (66, .cells (yj [.arr 4928])), (4928, .arr 3 yi)] }) ((((), ((), ((), ()))), ()), ((b.1, (b.2.1, ())), ((b.2.2.1, ()), (((), ()), (b.2.2.2, ()))))))))⟩
noncomputable def wdw (k : Y1 × (Int × (Int × (Y1 × Int)))) (v : Int × Yj) : Tr ((Int × Yj) ⊕ (Yj ⊕ Yl)) :=
 .t (decide (v.1 < k.2.2.2.2))
 (.g (inR v.1 (length k.2.2.2.1)) <|
 .c (Yj ⊕ Yl) (wpw (k.1, (k.2.1, (k.2.2.1, ((getD k.2.2.2.1 (toNat v.1) 0), (k.2.2.2.1, (k.2.2.2.2, (v.1, k.2.2.1))))))) ((0 : Int), (v.2.1, (v.2.2.1, v.2.2.2)))) fun r93_ =>
 .s Yj Yl r93_
 (fun r94_ => .l (.inl ((wrap .i64 (v.1 + 1)), (r94_.1, (r94_.2.1, r94_.2.2)))))
 (fun r95_ => .l (.inr (.inr (r95_.1, (r95_.2.1, (r95_.2.2.1, r95_.2.2.2)))))))
 (.l (.inr (.inl (v.2.1, (v.2.2.1, v.2.2.2)))))
noncomputable def wpx (k : Y1 × (Int × (Int × (Y1 × Int)))) (v : Int × Yj) : Option (Yj ⊕ Yl) := iter (fun v => (wdw k v).ev) v
noncomputable def wll : LD := ⟨{ acts := [], S := { slots := [1, 2, 6, 7, 58, 59, 60], sh := (yj [.dat y1, .fn 226 Zr, .dat (.int .u64), .dat yi, .dat y1, .dat yi, .dat yi]), obs := [Zaj, Zak, Zaf] } }, [(4, { acts := [], S := { slots := [2], sh := (yj [.fn 226 Zr]), obs := [Zaj, Zak, Zaf] } })], { acts := [], S := { slots := [2], sh := (yj [.fn 226 Zr]), obs := [Zaj, Zak, (66, .cells (yj [.arr 4928])), (4928, .arr 3 yi)] } }, Y1 × (Int × (Int × (Y1 × Int))), Int × Yj, Yj ⊕ Yl, fun k v => ((k.1, (((), ((), ((), ()))), (k.2.1, (k.2.2.1, (k.2.2.2.1, (k.2.2.2.2, (v.1, ()))))))), ((v.2.1, (v.2.2.1, ())), ((v.2.2.2, ()), (((), ()), ())))), fun t => (t.1.1, (t.1.2.2.1, (t.1.2.2.2.1, (t.1.2.2.2.2.1, t.1.2.2.2.2.2.1)))), fun t => (t.1.2.2.2.2.2.2.1, (t.2.1.1, (t.2.1.2.1, t.2.2.1.1))), wdw, fun _ r => .s Yj Yl r (fun a => .l (.exit 4 (mkSt ({ slots := [2], sh := (yj [.fn 226 Zr]), obs := [Zaj, Zak, Zaf] }) ((((), ((), ((), ()))), ()), ((a.1, (a.2.1, ())), ((a.2.2, ()), (((), ()), ()))))))) (fun b => .l (.ret (mkSt ({ slots := [2], sh := (yj [.fn 226 Zr]), obs := [Zaj, Zak, (66, .cells (yj [.arr 4928])), (4928, .arr 3 yi)] }) ((((), ((), ((), ()))), ()), ((b.1, (b.2.1, ())), ((b.2.2.1, ()), (((), ()), (b.2.2.2, ()))))))))⟩
noncomputable def T_zo (a1_ : Y1) (_a2_ : List Y1) (a3_ : Y1) (a4_ : Y1) (a5_ : List Y1) (a6_ : Int) : Tr (Yj ⊕ Yl) :=
 .c (Int) (wia a3_) fun r1_ =>
 .c (Yj ⊕ Yl) (wpu (a3_, (r1_, (((length a1_ : Nat) : Int), ((length a1_ : Nat) : Int)))) ((0 : Int), (a4_, (a5_, a6_)))) fun r25_ =>
 .s Yj Yl r25_
 (fun r26_ => .c (Yj ⊕ Yl) (wpv (a3_, (r1_, (((length a1_ : Nat) : Int), (a3_, ((length a3_ : Nat) : Int))))) ((0 : Int), (r26_.1, (r26_.2.1, r26_.2.2)))) fun r51_ =>
 .s Yj Yl r51_
 (fun r52_ => .c (Yj ⊕ Yl) (wpx (a3_, (r1_, (((length a1_ : Nat) : Int), (a3_, ((length a3_ : Nat) : Int))))) ((0 : Int), (r52_.1, (r52_.2.1, r52_.2.2)))) fun r103_ =>
 .s Yj Yl r103_
 (fun r104_ => .l (.inl (r104_.1, (r104_.2.1, r104_.2.2))))
 (fun r105_ => .l (.inr (r105_.1, (r105_.2.1, (r105_.2.2.1, r105_.2.2.2))))))
 (fun r53_ => .l (.inr (r53_.1, (r53_.2.1, (r53_.2.2.1, r53_.2.2.2))))))
 (fun r27_ => .l (.inr (r27_.1, (r27_.2.1, (r27_.2.2.1, r27_.2.2.2)))))
noncomputable def F_zo (a1_ : Y1) (a2_ : List Y1) (a3_ : Y1) (a4_ : Y1) (a5_ : List Y1) (a6_ : Int) : Option (Yj ⊕ Yl) := (T_zo a1_ a2_ a3_ a4_ a5_ a6_).ev
noncomputable def K_zo : RetK := { acts := [], res := [], sh := .nil, obs := [Zaj, Zak, Zaf], pins := [(2, 1, 64), (2, 2, 65), (2, 3, 66)] }
noncomputable def waer : RetK := { acts := [.ren 4928 0, .ren 3392 0, .ren 2112 0], res := [], sh := .nil, obs := [Zaj, Zak, (66, .cells (yj [.arr 0])), Zbe], pins := [(2, 1, 64), (2, 2, 65), (2, 3, 66)] }
noncomputable def D_zo : FD := { (yd (yj [.agg Zf, .dat y1, .fn 226 Zr]) [Zaj, Zak, Zaf] [.cap 2 0, .cap 2 1, .cap 2 2] (Yj ⊕ Yl) (fun x => F_zo x.1.1.1 x.1.1.2.1 x.1.2.1 x.2.1.1 x.2.1.2.1 x.2.2.1.1) (fun r => match r with | .inl a => ([], [(64, .cells [.dat y1 a.1, .dat y2 a.2.1]), (65, .cells [.dat yi a.2.2]), (66, .cells [.nilsl])]) | .inr b => ([], [(64, .cells [.dat y1 b.1, .dat y2 b.2.1]), (65, .cells [.dat yi b.2.2.1]), (66, .cells [.arr 0]), (0, .arr 3 yi b.2.2.2)]))) with
 sp := fun r => .s Yj Yl r (fun a => .l ([], [(64, .cells [.dat y1 a.1, .dat y2 a.2.1]), (65, .cells [.dat yi a.2.2]), (66, .cells [.nilsl])])) (fun b => .l ([], [(64, .cells [.dat y1 b.1, .dat y2 b.2.1]), (65, .cells [.dat yi b.2.2.1]), (66, .cells [.arr 0]), (0, .arr 3 yi b.2.2.2)]))
 spok := fun r => by cases r <;> rfl }
noncomputable def E_zo : Env := envOf [(141, wkx), (143, wky), (144, wib), (226, D_zl), (145, wor)]
noncomputable def O_zo : List (Nat × LD) := [(0, wli), (2, wlj), (6, wlk), (4, wll)]
noncomputable def C_zo : Code := (f225.body).getD .skip
noncomputable def T_zk (a1_ : Y1) (a2_ : List Y1) (a3_ : Y1) : Tr Ybc :=
 .c (Int) (wie a1_ a2_ a3_) fun r1_ =>
 .c (Yj ⊕ Yl) (F_zo a1_ a2_ a3_ a1_ a2_ r1_) fun r2_ =>
 .s Yj Yl r2_
 (fun _ => .l (false, ([] : Y1)))
 (fun r4_ => .g (decide (0 < length r4_.2.2.2)) <|
 .l (true, r4_.2.2.2))
noncomputable def F_zk (a1_ : Y1) (a2_ : List Y1) (a3_ : Y1) : Option Ybc := (T_zk a1_ a2_ a3_).ev
noncomputable def K_zk : RetK := { acts := [.own 4 0 3 yi, .ren 896 0], res := [.tmp 4, .tmp 5], sh := (yj [.arr 0, .dat .bool]), obs := [Zbe], pins := [] }
noncomputable def D_zk : FD := yd (yj [.agg Zf, .dat y1]) [] [] Ybc (fun x => F_zk x.1.1.1 x.1.1.2.1 x.1.2.1) (fun r => ([.arr 0, .dat .bool r.1], [(0, .arr 3 yi r.2)]))
noncomputable def wdx (k : Y1 × Y2) (v : Int × Y1) : Tr ((Int × Y1) ⊕ (Int × Y1)) :=
 .c Ybc (F_zk k.1 k.2 v.2) fun r7_ =>
 .t (!r7_.1)
 (.l (.inr (v.1, v.2)))
 (.l (.inl ((wrap .i64 (v.1 + 1)), r7_.2)))
noncomputable def wdy (k : Y1 × Y2) (v : Int × Y1) : Option (Int × Y1) := iter (fun v => (wdx k v).ev) v
noncomputable def wlm : LD := ⟨{ acts := [.rep 1408 1024], S := { slots := [2, 7, 8], sh := (yj [.box 2 0, .arr 1024, .dat yi]), obs := [(2, .cells Zf), (1024, .arr 3 yi)] } }, [], { acts := [], S := { slots := [4, 5, 6], sh := (yj [.arr 1024, .dat yi, .dat .bool]), obs := [(1024, .arr 3 yi)] } }, Y1 × Y2, Int × Y1, Int × Y1, fun k v => (((), ((), (v.1, ()))), ((k.1, (k.2, ())), (v.2, ()))), fun t => (t.2.1.1, t.2.1.2.1), fun t => (t.1.2.2.1, t.2.2.1), wdx, fun _ r => .l (.ret (mkSt ({ slots := [4, 5, 6], sh := (yj [.arr 1024, .dat yi, .dat .bool]), obs := [(1024, .arr 3 yi)] }) (((), (r.1, (true, ()))), (r.2, ()))))⟩
noncomputable def T_zx (a1_ : Y1) (a2_ : List Y1) (a3_ : Y1) : Tr (Int × Ybc) :=
 .c (Bool) (wlb a1_ a2_ a3_) fun r1_ =>
 .t (!r1_)
 (.l ((0 : Int), (false, ([] : Y1))))
 (.c (List Int) (wdc a3_) fun r2_ =>
 .c (Int × Y1) (wdy (a1_, a2_) ((0 : Int), r2_)) fun r11_ =>
 .l (r11_.1, (true, r11_.2)))
noncomputable def F_zx (a1_ : Y1) (a2_ : List Y1) (a3_ : Y1) : Option (Int × Ybc) := (T_zx a1_ a2_ a3_).ev
noncomputable def K_zx : RetK := { acts := [.own 4 0 3 yi, .ren 1024 0], res := [.tmp 4, .tmp 5, .tmp 6], sh := (yj [.arr 0, .dat yi, .dat .bool]), obs := [Zbe], pins := [] }
noncomputable def D_zx : FD := yd (yj [.agg Zf, .dat y1]) [] [] (Int × Ybc) (fun x => F_zx x.1.1.1 x.1.1.2.1 x.1.2.1) (fun r => ([.arr 0, .dat yi r.1, .dat .bool r.2.1], [(0, .arr 3 yi r.2.2)]))
noncomputable def E_zx : Env := envOf [(99, wot), (146, wjj), (171, D_zk)]
noncomputable def O_zx : List (Nat × LD) := [(0, wlm)]
noncomputable def C_zx : Code := (f77.body).getD .skip
noncomputable def waes (a1_ : Int) : Tr (Int) :=
 .t (decide (4294967296 ≤ a1_))
 (.g (decide ((0 : Int) ≤ (32 : Int))) <|
 .t (decide ((65536 : Int) ≤ (Int.fdiv a1_ (2 ^ (min (toNat 32) Zd)))))
 (.g (decide ((0 : Int) ≤ (16 : Int))) <|
 .t (decide ((256 : Int) ≤ (Int.fdiv (Int.fdiv a1_ (2 ^ (min (toNat 32) Zd))) (2 ^ (min (toNat 16) Zd)))))
 (.g (decide ((0 : Int) ≤ (8 : Int))) <|
 .g (inR (wrap .u8 (Int.fdiv (Int.fdiv (Int.fdiv a1_ (2 ^ (min (toNat 32) Zd))) (2 ^ (min (toNat 16) Zd))) (2 ^ (min (toNat 8) Zd)))) (length Za)) <|
 .l (wrap .i64 ((wrap .i64 ((wrap .i64 ((32 : Int) + 16)) + 8)) + (wrap .i64 ((UInt8.toNat (getD Za (toNat (wrap .u8 (Int.fdiv (Int.fdiv (Int.fdiv a1_ (2 ^ (min (toNat 32) Zd))) (2 ^ (min (toNat 16) Zd))) (2 ^ (min (toNat 8) Zd))))) 0) : Nat) : Int)))))
 (.g (inR (wrap .u8 (Int.fdiv (Int.fdiv a1_ (2 ^ (min (toNat 32) Zd))) (2 ^ (min (toNat 16) Zd)))) (length Za)) <|
 .l (wrap .i64 ((wrap .i64 ((32 : Int) + 16)) + (wrap .i64 ((UInt8.toNat (getD Za (toNat (wrap .u8 (Int.fdiv (Int.fdiv a1_ (2 ^ (min (toNat 32) Zd))) (2 ^ (min (toNat 16) Zd))))) 0) : Nat) : Int))))))
 (.t (decide ((256 : Int) ≤ (Int.fdiv a1_ (2 ^ (min (toNat 32) Zd)))))
 (.g (decide ((0 : Int) ≤ (8 : Int))) <|
 .g (inR (wrap .u8 (Int.fdiv (Int.fdiv a1_ (2 ^ (min (toNat 32) Zd))) (2 ^ (min (toNat 8) Zd)))) (length Za)) <|
 .l (wrap .i64 ((wrap .i64 ((32 : Int) + 8)) + (wrap .i64 ((UInt8.toNat (getD Za (toNat (wrap .u8 (Int.fdiv (Int.fdiv a1_ (2 ^ (min (toNat 32) Zd))) (2 ^ (min (toNat 8) Zd))))) 0) : Nat) : Int)))))
 (.g (inR (wrap .u8 (Int.fdiv a1_ (2 ^ (min (toNat 32) Zd)))) (length Za)) <|
 .l (wrap .i64 ((32 : Int) + (wrap .i64 ((UInt8.toNat (getD Za (toNat (wrap .u8 (Int.fdiv a1_ (2 ^ (min (toNat 32) Zd))))) 0) : Nat) : Int)))))))
 (.t (decide (65536 ≤ a1_))
 (.g (decide ((0 : Int) ≤ (16 : Int))) <|
 .t (decide ((256 : Int) ≤ (Int.fdiv a1_ (2 ^ (min (toNat 16) Zd)))))
 (.g (decide ((0 : Int) ≤ (8 : Int))) <|
 .g (inR (wrap .u8 (Int.fdiv (Int.fdiv a1_ (2 ^ (min (toNat 16) Zd))) (2 ^ (min (toNat 8) Zd)))) (length Za)) <|
 .l (wrap .i64 ((wrap .i64 ((wrap .i64 ((0 : Int) + 16)) + 8)) + (wrap .i64 ((UInt8.toNat (getD Za (toNat (wrap .u8 (Int.fdiv (Int.fdiv a1_ (2 ^ (min (toNat 16) Zd))) (2 ^ (min (toNat 8) Zd))))) 0) : Nat) : Int)))))
 (.g (inR (wrap .u8 (Int.fdiv a1_ (2 ^ (min (toNat 16) Zd)))) (length Za)) <|
 .l (wrap .i64 ((wrap .i64 ((0 : Int) + 16)) + (wrap .i64 ((UInt8.toNat (getD Za (toNat (wrap .u8 (Int.fdiv a1_ (2 ^ (min (toNat 16) Zd))))) 0) : Nat) : Int))))))
 (.t (decide (256 ≤ a1_))
 (.g (decide ((0 : Int) ≤ (8 : Int))) <|
 .g (inR (wrap .u8 (Int.fdiv a1_ (2 ^ (min (toNat 8) Zd)))) (length Za)) <|
 .l (wrap .i64 ((wrap .i64 ((0 : Int) + 8)) + (wrap .i64 ((UInt8.toNat (getD Za (toNat (wrap .u8 (Int.fdiv a1_ (2 ^ (min (toNat 8) Zd))))) 0) : Nat) : Int)))))
 (.g (inR (wrap .u8 a1_) (length Za)) <|
 .l (wrap .i64 ((0 : Int) + (wrap .i64 ((UInt8.toNat (getD Za (toNat (wrap .u8 a1_)) 0) : Nat) : Int)))))))
noncomputable def waet (a1_ : Int) : Option (Int) := (waes a1_).ev
noncomputable def waod : RetK := yr [.tmp 2] Zm
noncomputable def wyr : FD := yd Zau [] [] Int (fun x => waet x.1.1) (fun r => ([.dat yi r], []))
noncomputable def waeu (a1_ : Int) : Tr (Int) :=
 .c (Int) (waet a1_) fun r1_ =>
 .l r1_
noncomputable def wys (a1_ : Int) : Option (Int) := (waeu a1_).ev
noncomputable def waoe : RetK := yr [.tmp 2] Zm
noncomputable def wov : FD := yd Zau [] [] Int (fun x => wys x.1.1) (fun r => ([.dat yi r], []))
noncomputable def wln (k : Int × (Int × ((Yg) × Int))) (v : Int × Ye) : Tr ((Int × Ye) ⊕ Ye) :=
 .t (decide (k.1 < v.1))
 (.g (inR v.1 (length v.2.1)) <|
 .g (decide ((toNat v.1) < length v.2.1) && decide ((getD v.2.1 (toNat v.1) 0) < length v.2.2)) <|
 .g (inR (wrap .i64 (v.1 - 1)) (length v.2.1)) <|
 .g (decide ((toNat (wrap .i64 (v.1 - 1))) < length v.2.1) && decide ((getD v.2.1 (toNat (wrap .i64 (v.1 - 1))) 0) < length v.2.2)) <|
 .c (Int) (k.2.2.1 ((getD v.2.2 (getD v.2.1 (toNat v.1) 0) ([] : Y1)), ((getD v.2.2 (getD v.2.1 (toNat (wrap .i64 (v.1 - 1))) 0) ([] : Y1)), ()))) fun r12_ =>
 .t (decide (r12_ < 0))
 (.g (inR (wrap .i64 (v.1 - 1)) (length v.2.1)) <|
 .g (decide ((toNat (wrap .i64 (v.1 - 1))) < length v.2.1) && decide ((getD v.2.1 (toNat (wrap .i64 (v.1 - 1))) 0) < length v.2.2)) <|
 .g (inR v.1 (length v.2.1)) <|
 .g (decide ((toNat v.1) < length v.2.1) && decide ((getD v.2.1 (toNat v.1) 0) < length v.2.2)) <|
 .g (inR v.1 (length v.2.1)) <|
 .g (decide ((toNat v.1) < length v.2.1)) <|
 .g (inR (wrap .i64 (v.1 - 1)) (length (set v.2.1 (toNat v.1) (getD v.2.1 (toNat (wrap .i64 (v.1 - 1))) 0)))) <|
 .g (decide ((toNat (wrap .i64 (v.1 - 1))) < length (set v.2.1 (toNat v.1) (getD v.2.1 (toNat (wrap .i64 (v.1 - 1))) 0)))) <|
 .l (.inl ((wrap .i64 (v.1 - 1)), ((set (set v.2.1 (toNat v.1) (getD v.2.1 (toNat (wrap .i64 (v.1 - 1))) 0)) (toNat (wrap .i64 (v.1 - 1))) (getD v.2.1 (toNat v.1) 0)), v.2.2))))
 (.l (.inr v.2)))
 (.l (.inr v.2))
noncomputable def wyt (k : Int × (Int × ((Yg) × Int))) (v : Int × Ye) : Option Ye := iter (fun v => (wln k v).ev) v
noncomputable def wgp : LD := ⟨{ acts := [], S := { slots := [0, 1, 2, 3, 8, 9], sh := (yj [.arr 64, .dat yi, .dat yi, .clo [y1, y1] yi, .dat yi, .dat yi]), obs := [Zu] } }, [(2, { acts := [], S := { slots := [0, 1, 2, 3, 8], sh := (yj [.arr 64, .dat yi, .dat yi, .clo [y1, y1] yi, .dat yi]), obs := [Zu] } })], (yh [] .nil), Int × (Int × ((Yg) × Int)), Int × Ye, (List Nat) × Y2, fun k v => (((), (k.1, (k.2.1, (k.2.2.1, (k.2.2.2, (v.1, ())))))), (v.2, ())), fun t => (t.1.2.1, (t.1.2.2.1, (t.1.2.2.2.1, t.1.2.2.2.2.1))), fun t => (t.1.2.2.2.2.2.1, t.2.1), wln, fun k r => .l (.exit 2 (mkSt ({ slots := [0, 1, 2, 3, 8], sh := (yj [.arr 64, .dat yi, .dat yi, .clo [y1, y1] yi, .dat yi]), obs := [Zu] }) (((), (k.1, (k.2.1, (k.2.2.1, (k.2.2.2, ()))))), (r, ()))))⟩
noncomputable def wlp (k : Int × (Int × (Yg))) (v : Int × Ye) : Tr ((Int × Ye) ⊕ Ye) :=
 .t (decide (v.1 < k.2.1))
 (.c Ye (wyt (k.1, (k.2.1, (k.2.2, v.1))) (v.1, v.2)) fun r18_ =>
 .l (.inl ((wrap .i64 (v.1 + 1)), r18_)))
 (.l (.inr v.2))
noncomputable def wyu (k : Int × (Int × (Yg))) (v : Int × Ye) : Option Ye := iter (fun v => (wlp k v).ev) v
noncomputable def wgq : LD := ⟨{ acts := [], S := { slots := [0, 1, 2, 3, 8], sh := (yj [.arr 64, .dat yi, .dat yi, .clo [y1, y1] yi, .dat yi]), obs := [Zu] } }, [(0, { acts := [], S := { slots := [0], sh := (yj [.arr 64]), obs := [Zu] } })], (yh [] .nil), Int × (Int × (Yg)), Int × Ye, (List Nat) × Y2, fun k v => (((), (k.1, (k.2.1, (k.2.2, (v.1, ()))))), (v.2, ())), fun t => (t.1.2.1, (t.1.2.2.1, t.1.2.2.2.1)), fun t => (t.1.2.2.2.2.1, t.2.1), wlp, fun _ r => .l (.exit 0 (mkSt ({ slots := [0], sh := (yj [.arr 64]), obs := [Zu] }) (((), ()), (r, ()))))⟩
noncomputable def waev (a2_ : Int) (a3_ : Int) (a4_ : Yg) (a1_ : (List Nat) × Y2) : Tr Ye :=
 .c Ye (wyu (a2_, (a3_, a4_)) ((wrap .i64 (a2_ + 1)), a1_)) fun r20_ =>
 .l r20_
noncomputable def waew (a2_ : Int) (a3_ : Int) (a4_ : Yg) (a1_ : (List Nat) × Y2) : Option Ye := (waev a2_ a3_ a4_ a1_).ev
noncomputable def waof : RetK := { acts := [], res := [], sh := .nil, obs := [Zu], pins := [(0, 0, 64)] }
noncomputable def wyv : FD := yd (yj [.arr 64, .dat yi, .dat yi, .clo [y1, y1] yi]) [Zu] [.arg 0] Ye (fun x => waew x.1.2.1 x.1.2.2.1 x.1.2.2.2.1 x.2.1) (fun r => ([], [(64, .perm false 24 3 yi r.1 r.2)]))
noncomputable def wow : Env := envOf []
noncomputable def wox : List (Nat × LD) := [(2, wgp), (0, wgq)]
noncomputable def woy : Code := (f251.body).getD .skip
noncomputable def waex (a1_ : Int) : Tr (Int) :=
 .c (Int) (wys (wrap .u64 a1_)) fun r1_ =>
 .g (decide (0 ≤ r1_)) <|
 .l (wrap .u64 ((1 : Int) * 2 ^ (min (toNat r1_) Zd)))
noncomputable def waey (a1_ : Int) : Option (Int) := (waex a1_).ev
noncomputable def waog : RetK := yr [.tmp 2] Zau
noncomputable def wyw : FD := yd Zm [] [] Int (fun x => waey x.1.1) (fun r => ([.dat (.int .u64) r], []))
noncomputable def waez (a1_ : Int) : Tr Yo :=
 .g (decide ((0 : Int) ≤ (13 : Int))) <|
 .g (decide ((0 : Int) ≤ (7 : Int))) <|
 .g (decide ((0 : Int) ≤ (17 : Int))) <|
 .l ((wrap .u64 (BitVec.toNat ((BitVec.ofInt Zd (wrap .u64 (BitVec.toNat ((BitVec.ofInt Zd (wrap .u64 (BitVec.toNat ((BitVec.ofInt Zd a1_) ^^^ (BitVec.ofInt Zd (wrap .u64 (a1_ * 2 ^ (min (toNat 13) Zd)))))))) ^^^ (BitVec.ofInt Zd (Int.fdiv (wrap .u64 (BitVec.toNat ((BitVec.ofInt Zd a1_) ^^^ (BitVec.ofInt Zd (wrap .u64 (a1_ * 2 ^ (min (toNat 13) Zd))))))) (2 ^ (min (toNat 7) Zd)))))))) ^^^ (BitVec.ofInt Zd (wrap .u64 ((wrap .u64 (BitVec.toNat ((BitVec.ofInt Zd (wrap .u64 (BitVec.toNat ((BitVec.ofInt Zd a1_) ^^^ (BitVec.ofInt Zd (wrap .u64 (a1_ * 2 ^ (min (toNat 13) Zd)))))))) ^^^ (BitVec.ofInt Zd (Int.fdiv (wrap .u64 (BitVec.toNat ((BitVec.ofInt Zd a1_) ^^^ (BitVec.ofInt Zd (wrap .u64 (a1_ * 2 ^ (min (toNat 13) Zd))))))) (2 ^ (min (toNat 7) Zd))))))) * 2 ^ (min (toNat 17) Zd))))))), (wrap .u64 (BitVec.toNat ((BitVec.ofInt Zd (wrap .u64 (BitVec.toNat ((BitVec.ofInt Zd (wrap .u64 (BitVec.toNat ((BitVec.ofInt Zd a1_) ^^^ (BitVec.ofInt Zd (wrap .u64 (a1_ * 2 ^ (min (toNat 13) Zd)))))))) ^^^ (BitVec.ofInt Zd (Int.fdiv (wrap .u64 (BitVec.toNat ((BitVec.ofInt Zd a1_) ^^^ (BitVec.ofInt Zd (wrap .u64 (a1_ * 2 ^ (min (toNat 13) Zd))))))) (2 ^ (min (toNat 7) Zd)))))))) ^^^ (BitVec.ofInt Zd (wrap .u64 ((wrap .u64 (BitVec.toNat ((BitVec.ofInt Zd (wrap .u64 (BitVec.toNat ((BitVec.ofInt Zd a1_) ^^^ (BitVec.ofInt Zd (wrap .u64 (a1_ * 2 ^ (min (toNat 13) Zd)))))))) ^^^ (BitVec.ofInt Zd (Int.fdiv (wrap .u64 (BitVec.toNat ((BitVec.ofInt Zd a1_) ^^^ (BitVec.ofInt Zd (wrap .u64 (a1_ * 2 ^ (min (toNat 13) Zd))))))) (2 ^ (min (toNat 7) Zd))))))) * 2 ^ (min (toNat 17) Zd))))))))
noncomputable def wafa (a1_ : Int) : Option Yo := (waez a1_).ev
noncomputable def waoh : RetK := { acts := [], res := [.tmp 2], sh := Zau, obs := [(64, .cells Zau)], pins := [(0, 0, 64)] }
noncomputable def wyx : FD := yd (yj [.box 64 0]) [(64, .cells Zau)] [.arg 0] (Int × (Int)) (fun x => wafa x.2.1.1) (fun r => ([.dat (.int .u64) r.1], [(64, .cells [.dat (.int .u64) r.2])]))
noncomputable def wlq (k : Int × Yo) (v : Int × (Ye × Int)) : Tr ((Int × (Ye × Int)) ⊕ Ye) :=
 .g (!decide ((4 : Int) = 0)) <|
 .t (decide (v.1 ≤ (wrap .i64 ((wrap .i64 (k.1 + (wrap .i64 ((wrap .i64 (Int.tdiv k.2.1 (4 : Int))) * (2 : Int))))) + 1))))
 (.c Yo (wafa v.2.2) fun r8_ =>
 .t (decide (k.2.1 ≤ (wrap .i64 (wrap .u64 (BitVec.toNat ((BitVec.ofInt Zd r8_.1) &&& (BitVec.ofInt Zd (wrap .u64 (k.2.2 - 1)))))))))
 (.g (inR (wrap .i64 (k.1 + (wrap .i64 ((wrap .i64 (wrap .u64 (BitVec.toNat ((BitVec.ofInt Zd r8_.1) &&& (BitVec.ofInt Zd (wrap .u64 (k.2.2 - 1))))))) - k.2.1)))) (length v.2.1.1)) <|
 .g (decide ((toNat (wrap .i64 (k.1 + (wrap .i64 ((wrap .i64 (wrap .u64 (BitVec.toNat ((BitVec.ofInt Zd r8_.1) &&& (BitVec.ofInt Zd (wrap .u64 (k.2.2 - 1))))))) - k.2.1))))) < length v.2.1.1) && decide ((getD v.2.1.1 (toNat (wrap .i64 (k.1 + (wrap .i64 ((wrap .i64 (wrap .u64 (BitVec.toNat ((BitVec.ofInt Zd r8_.1) &&& (BitVec.ofInt Zd (wrap .u64 (k.2.2 - 1))))))) - k.2.1))))) 0) < length v.2.1.2)) <|
 .g (inR v.1 (length v.2.1.1)) <|
 .g (decide ((toNat v.1) < length v.2.1.1) && decide ((getD v.2.1.1 (toNat v.1) 0) < length v.2.1.2)) <|
 .g (inR v.1 (length v.2.1.1)) <|
 .g (decide ((toNat v.1) < length v.2.1.1)) <|
 .g (inR (wrap .i64 (k.1 + (wrap .i64 ((wrap .i64 (wrap .u64 (BitVec.toNat ((BitVec.ofInt Zd r8_.1) &&& (BitVec.ofInt Zd (wrap .u64 (k.2.2 - 1))))))) - k.2.1)))) (length (set v.2.1.1 (toNat v.1) (getD v.2.1.1 (toNat (wrap .i64 (k.1 + (wrap .i64 ((wrap .i64 (wrap .u64 (BitVec.toNat ((BitVec.ofInt Zd r8_.1) &&& (BitVec.ofInt Zd (wrap .u64 (k.2.2 - 1))))))) - k.2.1))))) 0)))) <|
 .g (decide ((toNat (wrap .i64 (k.1 + (wrap .i64 ((wrap .i64 (wrap .u64 (BitVec.toNat ((BitVec.ofInt Zd r8_.1) &&& (BitVec.ofInt Zd (wrap .u64 (k.2.2 - 1))))))) - k.2.1))))) < length (set v.2.1.1 (toNat v.1) (getD v.2.1.1 (toNat (wrap .i64 (k.1 + (wrap .i64 ((wrap .i64 (wrap .u64 (BitVec.toNat ((BitVec.ofInt Zd r8_.1) &&& (BitVec.ofInt Zd (wrap .u64 (k.2.2 - 1))))))) - k.2.1))))) 0)))) <|
 .l (.inl ((wrap .i64 (v.1 + 1)), (((set (set v.2.1.1 (toNat v.1) (getD v.2.1.1 (toNat (wrap .i64 (k.1 + (wrap .i64 ((wrap .i64 (wrap .u64 (BitVec.toNat ((BitVec.ofInt Zd r8_.1) &&& (BitVec.ofInt Zd (wrap .u64 (k.2.2 - 1))))))) - k.2.1))))) 0)) (toNat (wrap .i64 (k.1 + (wrap .i64 ((wrap .i64 (wrap .u64 (BitVec.toNat ((BitVec.ofInt Zd r8_.1) &&& (BitVec.ofInt Zd (wrap .u64 (k.2.2 - 1))))))) - k.2.1))))) (getD v.2.1.1 (toNat v.1) 0)), v.2.1.2), r8_.2))))
 (.g (inR (wrap .i64 (k.1 + (wrap .i64 (wrap .u64 (BitVec.toNat ((BitVec.ofInt Zd r8_.1) &&& (BitVec.ofInt Zd (wrap .u64 (k.2.2 - 1))))))))) (length v.2.1.1)) <|
 .g (decide ((toNat (wrap .i64 (k.1 + (wrap .i64 (wrap .u64 (BitVec.toNat ((BitVec.ofInt Zd r8_.1) &&& (BitVec.ofInt Zd (wrap .u64 (k.2.2 - 1)))))))))) < length v.2.1.1) && decide ((getD v.2.1.1 (toNat (wrap .i64 (k.1 + (wrap .i64 (wrap .u64 (BitVec.toNat ((BitVec.ofInt Zd r8_.1) &&& (BitVec.ofInt Zd (wrap .u64 (k.2.2 - 1)))))))))) 0) < length v.2.1.2)) <|
 .g (inR v.1 (length v.2.1.1)) <|
 .g (decide ((toNat v.1) < length v.2.1.1) && decide ((getD v.2.1.1 (toNat v.1) 0) < length v.2.1.2)) <|
 .g (inR v.1 (length v.2.1.1)) <|
 .g (decide ((toNat v.1) < length v.2.1.1)) <|
 .g (inR (wrap .i64 (k.1 + (wrap .i64 (wrap .u64 (BitVec.toNat ((BitVec.ofInt Zd r8_.1) &&& (BitVec.ofInt Zd (wrap .u64 (k.2.2 - 1))))))))) (length (set v.2.1.1 (toNat v.1) (getD v.2.1.1 (toNat (wrap .i64 (k.1 + (wrap .i64 (wrap .u64 (BitVec.toNat ((BitVec.ofInt Zd r8_.1) &&& (BitVec.ofInt Zd (wrap .u64 (k.2.2 - 1)))))))))) 0)))) <|
 .g (decide ((toNat (wrap .i64 (k.1 + (wrap .i64 (wrap .u64 (BitVec.toNat ((BitVec.ofInt Zd r8_.1) &&& (BitVec.ofInt Zd (wrap .u64 (k.2.2 - 1)))))))))) < length (set v.2.1.1 (toNat v.1) (getD v.2.1.1 (toNat (wrap .i64 (k.1 + (wrap .i64 (wrap .u64 (BitVec.toNat ((BitVec.ofInt Zd r8_.1) &&& (BitVec.ofInt Zd (wrap .u64 (k.2.2 - 1)))))))))) 0)))) <|
 .l (.inl ((wrap .i64 (v.1 + 1)), (((set (set v.2.1.1 (toNat v.1) (getD v.2.1.1 (toNat (wrap .i64 (k.1 + (wrap .i64 (wrap .u64 (BitVec.toNat ((BitVec.ofInt Zd r8_.1) &&& (BitVec.ofInt Zd (wrap .u64 (k.2.2 - 1)))))))))) 0)) (toNat (wrap .i64 (k.1 + (wrap .i64 (wrap .u64 (BitVec.toNat ((BitVec.ofInt Zd r8_.1) &&& (BitVec.ofInt Zd (wrap .u64 (k.2.2 - 1)))))))))) (getD v.2.1.1 (toNat v.1) 0)), v.2.1.2), r8_.2)))))
 (.l (.inr v.2.1))
noncomputable def wyy (k : Int × Yo) (v : Int × (Ye × Int)) : Option Ye := iter (fun v => (wlq k v).ev) v
noncomputable def wgr : LD := ⟨{ acts := [], S := { slots := [0, 1, 8, 9, 10, 11], sh := (yj [.arr 64, .dat yi, .dat yi, .box 9 0, .dat (.int .u64), .dat yi]), obs := [Zu, (9, .cells Zau)] } }, [(0, { acts := [], S := { slots := [0], sh := (yj [.arr 64]), obs := [Zu] } })], (yh [] .nil), Int × Yo, Int × (Ye × Int), (List Nat) × Y2, fun k v => (((), (k.1, (k.2.1, ((), (k.2.2, (v.1, ())))))), (v.2.1, ((v.2.2, ()), ()))), fun t => (t.1.2.1, (t.1.2.2.1, t.1.2.2.2.2.1)), fun t => (t.1.2.2.2.2.2.1, (t.2.1, t.2.2.1.1)), wlq, fun _ r => .l (.exit 0 (mkSt ({ slots := [0], sh := (yj [.arr 64]), obs := [Zu] }) (((), ()), (r, ()))))⟩
noncomputable def wafb (a2_ : Int) (a3_ : Int) (_a4_ : Yg) (a1_ : (List Nat) × Y2) : Tr Ye :=
 .t (decide ((8 : Int) ≤ (wrap .i64 (a3_ - a2_))))
 (.c (Int) (waey (wrap .i64 (a3_ - a2_))) fun r1_ =>
 .g (!decide ((4 : Int) = 0)) <|
 .c Ye (wyy (a2_, ((wrap .i64 (a3_ - a2_)), r1_)) ((wrap .i64 ((wrap .i64 (a2_ + (wrap .i64 ((wrap .i64 (Int.tdiv (wrap .i64 (a3_ - a2_)) (4 : Int))) * (2 : Int))))) - 1)), (a1_, (wrap .u64 (wrap .i64 (a3_ - a2_)))))) fun r10_ =>
 .l r10_)
 (.l a1_)
noncomputable def wafc (a2_ : Int) (a3_ : Int) (a4_ : Yg) (a1_ : (List Nat) × Y2) : Option Ye := (wafb a2_ a3_ a4_ a1_).ev
noncomputable def waoi : RetK := { acts := [], res := [], sh := .nil, obs := [Zu], pins := [(0, 0, 64)] }
noncomputable def wyz : FD := yd (yj [.arr 64, .dat yi, .dat yi, .clo [y1, y1] yi]) [Zu] [.arg 0] Ye (fun x => wafc x.1.2.1 x.1.2.2.1 x.1.2.2.2.1 x.2.1) (fun r => ([], [(64, .perm false 24 3 yi r.1 r.2)]))
noncomputable def wza : Env := envOf [(270, wyw), (271, wyx)]
noncomputable def wzb : List (Nat × LD) := [(0, wgr)]
noncomputable def wzc : Code := (f253.body).getD .skip
noncomputable def wafd (a1_ : List Y1) (a2_ : Int) (a3_ : Int) (a5_ : Yg) (a4_ : Int) : Tr (Int × Yo) :=
 .g (inR a3_ (length a1_)) <|
 .g (inR a2_ (length a1_)) <|
 .c (Int) (a5_ ((getD a1_ (toNat a3_) ([] : Y1)), ((getD a1_ (toNat a2_) ([] : Y1)), ()))) fun r1_ =>
 .t (decide (r1_ < 0))
 (.l (a3_, (a2_, (wrap .i64 (a4_ + 1)))))
 (.l (a2_, (a3_, a4_)))
noncomputable def woz (a1_ : List Y1) (a2_ : Int) (a3_ : Int) (a5_ : Yg) (a4_ : Int) : Option (Int × Yo) := (wafd a1_ a2_ a3_ a5_ a4_).ev
noncomputable def waoj : RetK := { acts := [], res := [.tmp 10, .tmp 11], sh := (yj [.dat yi, .dat yi]), obs := [(64, .cells Zm)], pins := [(3, 0, 64)] }
noncomputable def wzd : FD := yd (yj [.dat y2, .dat yi, .dat yi, .box 64 0, .clo [y1, y1] yi]) [(64, .cells Zm)] [.arg 3] (Int × Yo) (fun x => woz x.1.1 x.1.2.1 x.1.2.2.1 x.1.2.2.2.2.1 x.2.1.1) (fun r => ([.dat yi r.1, .dat yi r.2.1], [(64, .cells [.dat yi r.2.2])]))
noncomputable def wafe (a1_ : List Y1) (a2_ : Int) (a3_ : Int) (a4_ : Int) (a6_ : Yg) (a5_ : Int) : Tr Yo :=
 .c (Int × Yo) (woz a1_ a2_ a3_ a6_ a5_) fun r1_ =>
 .c (Int × Yo) (woz a1_ r1_.2.1 a4_ a6_ r1_.2.2) fun r2_ =>
 .c (Int × Yo) (woz a1_ r1_.1 r2_.1 a6_ r2_.2.2) fun r3_ =>
 .l (r3_.2.1, r3_.2.2)
noncomputable def wpa (a1_ : List Y1) (a2_ : Int) (a3_ : Int) (a4_ : Int) (a6_ : Yg) (a5_ : Int) : Option Yo := (wafe a1_ a2_ a3_ a4_ a6_ a5_).ev
noncomputable def waok : RetK := { acts := [], res := [.tmp 12], sh := Zm, obs := [(64, .cells Zm)], pins := [(4, 0, 64)] }
noncomputable def wpb : FD := yd (yj [.dat y2, .dat yi, .dat yi, .dat yi, .box 64 0, .clo [y1, y1] yi]) [(64, .cells Zm)] [.arg 4] (Int × (Int)) (fun x => wpa x.1.1 x.1.2.1 x.1.2.2.1 x.1.2.2.2.1 x.1.2.2.2.2.2.1 x.2.1.1) (fun r => ([.dat yi r.1], [(64, .cells [.dat yi r.2])]))
noncomputable def waff (a1_ : List Y1) (a2_ : Int) (a4_ : Yg) (a3_ : Int) : Tr Yo :=
 .c Yo (wpa a1_ (wrap .i64 (a2_ - 1)) a2_ (wrap .i64 (a2_ + 1)) a4_ a3_) fun r1_ =>
 .l (r1_.1, r1_.2)
noncomputable def wpc (a1_ : List Y1) (a2_ : Int) (a4_ : Yg) (a3_ : Int) : Option Yo := (waff a1_ a2_ a4_ a3_).ev
noncomputable def waol : RetK := { acts := [], res := [.tmp 8], sh := Zm, obs := [(64, .cells Zm)], pins := [(2, 0, 64)] }
noncomputable def wze : FD := yd (yj [.dat y2, .dat yi, .box 64 0, .clo [y1, y1] yi]) [(64, .cells Zm)] [.arg 2] (Int × (Int)) (fun x => wpc x.1.1 x.1.2.1 x.1.2.2.2.1 x.2.1.1) (fun r => ([.dat yi r.1], [(64, .cells [.dat yi r.2])]))
noncomputable def wafg (a1_ : List Y1) (a2_ : Int) (a3_ : Int) (a4_ : Yg) : Tr Yo :=
 .g (!decide ((4 : Int) = 0)) <|
 .g (!decide ((4 : Int) = 0)) <|
 .g (!decide ((4 : Int) = 0)) <|
 .t (decide ((8 : Int) ≤ (wrap .i64 (a3_ - a2_))))
 (.t (decide ((50 : Int) ≤ (wrap .i64 (a3_ - a2_))))
 (.c Yo (wpc a1_ (wrap .i64 (a2_ + (wrap .i64 ((wrap .i64 (Int.tdiv (wrap .i64 (a3_ - a2_)) (4 : Int))) * (1 : Int))))) a4_ (0 : Int)) fun r1_ =>
 .c Yo (wpc a1_ (wrap .i64 (a2_ + (wrap .i64 ((wrap .i64 (Int.tdiv (wrap .i64 (a3_ - a2_)) (4 : Int))) * (2 : Int))))) a4_ r1_.2) fun r2_ =>
 .c Yo (wpc a1_ (wrap .i64 (a2_ + (wrap .i64 ((wrap .i64 (Int.tdiv (wrap .i64 (a3_ - a2_)) (4 : Int))) * (3 : Int))))) a4_ r2_.2) fun r3_ =>
 .c Yo (wpa a1_ r1_.1 r2_.1 r3_.1 a4_ r3_.2) fun r4_ =>
 .t (r4_.2 == 0)
 (.l (r4_.1, (1 : Int)))
 (.t (r4_.2 == 12)
 (.l (r4_.1, (2 : Int)))
 (.l (r4_.1, (0 : Int)))))
 (.c Yo (wpa a1_ (wrap .i64 (a2_ + (wrap .i64 ((wrap .i64 (Int.tdiv (wrap .i64 (a3_ - a2_)) (4 : Int))) * (1 : Int))))) (wrap .i64 (a2_ + (wrap .i64 ((wrap .i64 (Int.tdiv (wrap .i64 (a3_ - a2_)) (4 : Int))) * (2 : Int))))) (wrap .i64 (a2_ + (wrap .i64 ((wrap .i64 (Int.tdiv (wrap .i64 (a3_ - a2_)) (4 : Int))) * (3 : Int))))) a4_ (0 : Int)) fun r5_ =>
 .t (r5_.2 == 0)
 (.l (r5_.1, (1 : Int)))
 (.t (r5_.2 == 12)
 (.l (r5_.1, (2 : Int)))
 (.l (r5_.1, (0 : Int))))))
 (.t ((0 : Int) == (0 : Int))
 (.l ((wrap .i64 (a2_ + (wrap .i64 ((wrap .i64 (Int.tdiv (wrap .i64 (a3_ - a2_)) (4 : Int))) * (2 : Int))))), (1 : Int)))
 (.t ((0 : Int) == (12 : Int))
 (.l ((wrap .i64 (a2_ + (wrap .i64 ((wrap .i64 (Int.tdiv (wrap .i64 (a3_ - a2_)) (4 : Int))) * (2 : Int))))), (2 : Int)))
 (.l ((wrap .i64 (a2_ + (wrap .i64 ((wrap .i64 (Int.tdiv (wrap .i64 (a3_ - a2_)) (4 : Int))) * (2 : Int))))), (0 : Int)))))
noncomputable def wzf (a1_ : List Y1) (a2_ : Int) (a3_ : Int) (a4_ : Yg) : Option Yo := (wafg a1_ a2_ a3_ a4_).ev
noncomputable def waom : RetK := yr [.tmp 8, .tmp 9] (yj [.dat yi, .dat yi])
noncomputable def wzg : FD := yd (yj [.dat y2, .dat yi, .dat yi, .clo [y1, y1] yi]) [] [] (Int × (Int)) (fun x => wzf x.1.1 x.1.2.1 x.1.2.2.1 x.1.2.2.2.1) (fun r => ([.dat yi r.1, .dat yi r.2], []))
noncomputable def wlr (k : Int × Yav) (v : Int) : Tr ((Int) ⊕ (Int)) :=
 .t (decide (v ≤ k.2.2.1))
 (.g (inR v (length k.2.2.2.1)) <|
 .g (decide ((toNat v) < length k.2.2.2.1) && decide ((getD k.2.2.2.1 (toNat v) 0) < length k.2.2.2.2)) <|
 .g (inR k.1 (length k.2.2.2.1)) <|
 .g (decide ((toNat k.1) < length k.2.2.2.1) && decide ((getD k.2.2.2.1 (toNat k.1) 0) < length k.2.2.2.2)) <|
 .c (Int) (k.2.1 ((getD k.2.2.2.2 (getD k.2.2.2.1 (toNat v) 0) ([] : Y1)), ((getD k.2.2.2.2 (getD k.2.2.2.1 (toNat k.1) 0) ([] : Y1)), ()))) fun r6_ =>
 .t (decide (r6_ < 0))
 (.l (.inl (wrap .i64 (v + 1))))
 (.l (.inr v)))
 (.l (.inr v))
noncomputable def wzh (k : Int × Yav) (v : Int) : Option (Int) := iter (fun v => (wlr k v).ev) v
noncomputable def wgs : LD := ⟨{ acts := [], S := { slots := [0, 1, 4, 12, 13], sh := Zt, obs := [Zu] } }, [(0, { acts := [], S := { slots := [0, 1, 4, 12, 13], sh := Zt, obs := [Zu] } })], (yh [] .nil), Int × Yav, Int, Int, fun k v => (((), (k.1, (k.2.1, (v, (k.2.2.1, ()))))), (k.2.2.2, ())), fun t => (t.1.2.1, (t.1.2.2.1, (t.1.2.2.2.2.1, t.2.1))), fun t => t.1.2.2.2.1, wlr, fun k r => .l (.exit 0 (mkSt ({ slots := [0, 1, 4, 12, 13], sh := Zt, obs := [Zu] }) (((), (k.1, (k.2.1, (r, (k.2.2.1, ()))))), (k.2.2.2, ()))))⟩
noncomputable def wls (k : Int × Yav) (v : Int) : Tr ((Int) ⊕ (Int)) :=
 .t (decide (k.2.2.1 ≤ v))
 (.g (inR v (length k.2.2.2.1)) <|
 .g (decide ((toNat v) < length k.2.2.2.1) && decide ((getD k.2.2.2.1 (toNat v) 0) < length k.2.2.2.2)) <|
 .g (inR k.1 (length k.2.2.2.1)) <|
 .g (decide ((toNat k.1) < length k.2.2.2.1) && decide ((getD k.2.2.2.1 (toNat k.1) 0) < length k.2.2.2.2)) <|
 .c (Int) (k.2.1 ((getD k.2.2.2.2 (getD k.2.2.2.1 (toNat v) 0) ([] : Y1)), ((getD k.2.2.2.2 (getD k.2.2.2.1 (toNat k.1) 0) ([] : Y1)), ()))) fun r18_ =>
 .t (!(decide (r18_ < 0)))
 (.l (.inl (wrap .i64 (v - 1))))
 (.l (.inr v)))
 (.l (.inr v))
noncomputable def wzi (k : Int × Yav) (v : Int) : Option (Int) := iter (fun v => (wls k v).ev) v
noncomputable def wgt : LD := ⟨{ acts := [], S := { slots := [0, 1, 4, 12, 13], sh := Zt, obs := [Zu] } }, [(2, { acts := [], S := { slots := [0, 1, 4, 12, 13], sh := Zt, obs := [Zu] } })], (yh [] .nil), Int × Yav, Int, Int, fun k v => (((), (k.1, (k.2.1, (k.2.2.1, (v, ()))))), (k.2.2.2, ())), fun t => (t.1.2.1, (t.1.2.2.1, (t.1.2.2.2.1, t.2.1))), fun t => t.1.2.2.2.2.1, wls, fun k r => .l (.exit 2 (mkSt ({ slots := [0, 1, 4, 12, 13], sh := Zt, obs := [Zu] }) (((), (k.1, (k.2.1, (k.2.2.1, (r, ()))))), (k.2.2.2, ()))))⟩
noncomputable def wlt (k : Int × Yav) (v : Int) : Tr ((Int) ⊕ (Int)) :=
 .t (decide (v ≤ k.2.2.1))
 (.g (inR v (length k.2.2.2.1)) <|
 .g (decide ((toNat v) < length k.2.2.2.1) && decide ((getD k.2.2.2.1 (toNat v) 0) < length k.2.2.2.2)) <|
 .g (inR k.1 (length k.2.2.2.1)) <|
 .g (decide ((toNat k.1) < length k.2.2.2.1) && decide ((getD k.2.2.2.1 (toNat k.1) 0) < length k.2.2.2.2)) <|
 .c (Int) (k.2.1 ((getD k.2.2.2.2 (getD k.2.2.2.1 (toNat v) 0) ([] : Y1)), ((getD k.2.2.2.2 (getD k.2.2.2.1 (toNat k.1) 0) ([] : Y1)), ()))) fun r35_ =>
 .t (decide (r35_ < 0))
 (.l (.inl (wrap .i64 (v + 1))))
 (.l (.inr v)))
 (.l (.inr v))
noncomputable def wzj (k : Int × Yav) (v : Int) : Option (Int) := iter (fun v => (wlt k v).ev) v
noncomputable def wgu : LD := ⟨{ acts := [], S := { slots := [0, 1, 4, 12, 13], sh := Zt, obs := [Zu] } }, [(6, { acts := [], S := { slots := [0, 1, 4, 12, 13], sh := Zt, obs := [Zu] } })], (yh [] .nil), Int × Yav, Int, Int, fun k v => (((), (k.1, (k.2.1, (v, (k.2.2.1, ()))))), (k.2.2.2, ())), fun t => (t.1.2.1, (t.1.2.2.1, (t.1.2.2.2.2.1, t.2.1))), fun t => t.1.2.2.2.1, wlt, fun k r => .l (.exit 6 (mkSt ({ slots := [0, 1, 4, 12, 13], sh := Zt, obs := [Zu] }) (((), (k.1, (k.2.1, (r, (k.2.2.1, ()))))), (k.2.2.2, ()))))⟩
noncomputable def wlu (k : Int × Yav) (v : Int) : Tr ((Int) ⊕ (Int)) :=
 .t (decide (k.2.2.1 ≤ v))
 (.g (inR v (length k.2.2.2.1)) <|
 .g (decide ((toNat v) < length k.2.2.2.1) && decide ((getD k.2.2.2.1 (toNat v) 0) < length k.2.2.2.2)) <|
 .g (inR k.1 (length k.2.2.2.1)) <|
 .g (decide ((toNat k.1) < length k.2.2.2.1) && decide ((getD k.2.2.2.1 (toNat k.1) 0) < length k.2.2.2.2)) <|
 .c (Int) (k.2.1 ((getD k.2.2.2.2 (getD k.2.2.2.1 (toNat v) 0) ([] : Y1)), ((getD k.2.2.2.2 (getD k.2.2.2.1 (toNat k.1) 0) ([] : Y1)), ()))) fun r47_ =>
 .t (!(decide (r47_ < 0)))
 (.l (.inl (wrap .i64 (v - 1))))
 (.l (.inr v)))
 (.l (.inr v))
noncomputable def wzk (k : Int × Yav) (v : Int) : Option (Int) := iter (fun v => (wlu k v).ev) v
noncomputable def wgv : LD := ⟨{ acts := [], S := { slots := [0, 1, 4, 12, 13], sh := Zt, obs := [Zu] } }, [(8, { acts := [], S := { slots := [0, 1, 4, 12, 13], sh := Zt, obs := [Zu] } })], (yh [] .nil), Int × Yav, Int, Int, fun k v => (((), (k.1, (k.2.1, (k.2.2.1, (v, ()))))), (k.2.2.2, ())), fun t => (t.1.2.1, (t.1.2.2.1, (t.1.2.2.2.1, t.2.1))), fun t => t.1.2.2.2.2.1, wlu, fun k r => .l (.exit 8 (mkSt ({ slots := [0, 1, 4, 12, 13], sh := Zt, obs := [Zu] }) (((), (k.1, (k.2.1, (k.2.2.1, (r, ()))))), (k.2.2.2, ()))))⟩
noncomputable def wlv (k : Int × (Yg)) (v : Int × (Int × Ye)) : Tr ((Int × (Int × Ye)) ⊕ (Int × Ye)) :=
 .c (Int) (wzj (k.1, (k.2, (v.2.1, v.2.2))) v.1) fun r41_ =>
 .c (Int) (wzk (k.1, (k.2, (r41_, v.2.2))) v.2.1) fun r53_ =>
 .t (decide (r53_ < r41_))
 (.l (.inr (r53_, v.2.2)))
 (.g (inR r53_ (length v.2.2.1)) <|
 .g (decide ((toNat r53_) < length v.2.2.1) && decide ((getD v.2.2.1 (toNat r53_) 0) < length v.2.2.2)) <|
 .g (inR r41_ (length v.2.2.1)) <|
 .g (decide ((toNat r41_) < length v.2.2.1) && decide ((getD v.2.2.1 (toNat r41_) 0) < length v.2.2.2)) <|
 .g (inR r41_ (length v.2.2.1)) <|
 .g (decide ((toNat r41_) < length v.2.2.1)) <|
 .g (inR r53_ (length (set v.2.2.1 (toNat r41_) (getD v.2.2.1 (toNat r53_) 0)))) <|
 .g (decide ((toNat r53_) < length (set v.2.2.1 (toNat r41_) (getD v.2.2.1 (toNat r53_) 0)))) <|
 .l (.inl ((wrap .i64 (r41_ + 1)), ((wrap .i64 (r53_ - 1)), ((set (set v.2.2.1 (toNat r41_) (getD v.2.2.1 (toNat r53_) 0)) (toNat r53_) (getD v.2.2.1 (toNat r41_) 0)), v.2.2.2)))))
noncomputable def wzl (k : Int × (Yg)) (v : Int × (Int × Ye)) : Option (Int × Ye) := iter (fun v => (wlv k v).ev) v
noncomputable def wgw : LD := ⟨{ acts := [], S := { slots := [0, 1, 4, 12, 13], sh := Zt, obs := [Zu] } }, [(4, { acts := [], S := { slots := [0, 1, 13], sh := (yj [.arr 64, .dat yi, .dat yi]), obs := [Zu] } })], (yh [] .nil), Int × (Yg), Int × (Int × Ye), Int × Ye, fun k v => (((), (k.1, (k.2, (v.1, (v.2.1, ()))))), (v.2.2, ())), fun t => (t.1.2.1, t.1.2.2.1), fun t => (t.1.2.2.2.1, (t.1.2.2.2.2.1, t.2.1)), wlv, fun k r => .l (.exit 4 (mkSt ({ slots := [0, 1, 13], sh := (yj [.arr 64, .dat yi, .dat yi]), obs := [Zu] }) (((), (k.1, (r.1, ()))), (r.2, ()))))⟩
noncomputable def wafh (a2_ : Int) (a3_ : Int) (a4_ : Int) (a5_ : Yg) (a1_ : (List Nat) × Y2) : Tr Yan :=
 .g (inR a4_ (length a1_.1)) <|
 .g (decide ((toNat a4_) < length a1_.1) && decide ((getD a1_.1 (toNat a4_) 0) < length a1_.2)) <|
 .g (inR a2_ (length a1_.1)) <|
 .g (decide ((toNat a2_) < length a1_.1) && decide ((getD a1_.1 (toNat a2_) 0) < length a1_.2)) <|
 .g (inR a2_ (length a1_.1)) <|
 .g (decide ((toNat a2_) < length a1_.1)) <|
 .g (inR a4_ (length (set a1_.1 (toNat a2_) (getD a1_.1 (toNat a4_) 0)))) <|
 .g (decide ((toNat a4_) < length (set a1_.1 (toNat a2_) (getD a1_.1 (toNat a4_) 0)))) <|
 .c (Int) (wzh (a2_, (a5_, ((wrap .i64 (a3_ - 1)), ((set (set a1_.1 (toNat a2_) (getD a1_.1 (toNat a4_) 0)) (toNat a4_) (getD a1_.1 (toNat a2_) 0)), a1_.2)))) (wrap .i64 (a2_ + 1))) fun r12_ =>
 .c (Int) (wzi (a2_, (a5_, (r12_, ((set (set a1_.1 (toNat a2_) (getD a1_.1 (toNat a4_) 0)) (toNat a4_) (getD a1_.1 (toNat a2_) 0)), a1_.2)))) (wrap .i64 (a3_ - 1))) fun r24_ =>
 .t (decide (r24_ < r12_))
 (.g (inR a2_ (length (set (set a1_.1 (toNat a2_) (getD a1_.1 (toNat a4_) 0)) (toNat a4_) (getD a1_.1 (toNat a2_) 0)))) <|
 .g (decide ((toNat a2_) < length (set (set a1_.1 (toNat a2_) (getD a1_.1 (toNat a4_) 0)) (toNat a4_) (getD a1_.1 (toNat a2_) 0))) && decide ((getD (set (set a1_.1 (toNat a2_) (getD a1_.1 (toNat a4_) 0)) (toNat a4_) (getD a1_.1 (toNat a2_) 0)) (toNat a2_) 0) < length a1_.2)) <|
 .g (inR r24_ (length (set (set a1_.1 (toNat a2_) (getD a1_.1 (toNat a4_) 0)) (toNat a4_) (getD a1_.1 (toNat a2_) 0)))) <|
 .g (decide ((toNat r24_) < length (set (set a1_.1 (toNat a2_) (getD a1_.1 (toNat a4_) 0)) (toNat a4_) (getD a1_.1 (toNat a2_) 0))) && decide ((getD (set (set a1_.1 (toNat a2_) (getD a1_.1 (toNat a4_) 0)) (toNat a4_) (getD a1_.1 (toNat a2_) 0)) (toNat r24_) 0) < length a1_.2)) <|
 .g (inR r24_ (length (set (set a1_.1 (toNat a2_) (getD a1_.1 (toNat a4_) 0)) (toNat a4_) (getD a1_.1 (toNat a2_) 0)))) <|
 .g (decide ((toNat r24_) < length (set (set a1_.1 (toNat a2_) (getD a1_.1 (toNat a4_) 0)) (toNat a4_) (getD a1_.1 (toNat a2_) 0)))) <|
 .g (inR a2_ (length (set (set (set a1_.1 (toNat a2_) (getD a1_.1 (toNat a4_) 0)) (toNat a4_) (getD a1_.1 (toNat a2_) 0)) (toNat r24_) (getD (set (set a1_.1 (toNat a2_) (getD a1_.1 (toNat a4_) 0)) (toNat a4_) (getD a1_.1 (toNat a2_) 0)) (toNat a2_) 0)))) <|
 .g (decide ((toNat a2_) < length (set (set (set a1_.1 (toNat a2_) (getD a1_.1 (toNat a4_) 0)) (toNat a4_) (getD a1_.1 (toNat a2_) 0)) (toNat r24_) (getD (set (set a1_.1 (toNat a2_) (getD a1_.1 (toNat a4_) 0)) (toNat a4_) (getD a1_.1 (toNat a2_) 0)) (toNat a2_) 0)))) <|
 .l (r24_, (true, ((set (set (set (set a1_.1 (toNat a2_) (getD a1_.1 (toNat a4_) 0)) (toNat a4_) (getD a1_.1 (toNat a2_) 0)) (toNat r24_) (getD (set (set a1_.1 (toNat a2_) (getD a1_.1 (toNat a4_) 0)) (toNat a4_) (getD a1_.1 (toNat a2_) 0)) (toNat a2_) 0)) (toNat a2_) (getD (set (set a1_.1 (toNat a2_) (getD a1_.1 (toNat a4_) 0)) (toNat a4_) (getD a1_.1 (toNat a2_) 0)) (toNat r24_) 0)), a1_.2))))
 (.g (inR r24_ (length (set (set a1_.1 (toNat a2_) (getD a1_.1 (toNat a4_) 0)) (toNat a4_) (getD a1_.1 (toNat a2_) 0)))) <|
 .g (decide ((toNat r24_) < length (set (set a1_.1 (toNat a2_) (getD a1_.1 (toNat a4_) 0)) (toNat a4_) (getD a1_.1 (toNat a2_) 0))) && decide ((getD (set (set a1_.1 (toNat a2_) (getD a1_.1 (toNat a4_) 0)) (toNat a4_) (getD a1_.1 (toNat a2_) 0)) (toNat r24_) 0) < length a1_.2)) <|
 .g (inR r12_ (length (set (set a1_.1 (toNat a2_) (getD a1_.1 (toNat a4_) 0)) (toNat a4_) (getD a1_.1 (toNat a2_) 0)))) <|
 .g (decide ((toNat r12_) < length (set (set a1_.1 (toNat a2_) (getD a1_.1 (toNat a4_) 0)) (toNat a4_) (getD a1_.1 (toNat a2_) 0))) && decide ((getD (set (set a1_.1 (toNat a2_) (getD a1_.1 (toNat a4_) 0)) (toNat a4_) (getD a1_.1 (toNat a2_) 0)) (toNat r12_) 0) < length a1_.2)) <|
 .g (inR r12_ (length (set (set a1_.1 (toNat a2_) (getD a1_.1 (toNat a4_) 0)) (toNat a4_) (getD a1_.1 (toNat a2_) 0)))) <|
 .g (decide ((toNat r12_) < length (set (set a1_.1 (toNat a2_) (getD a1_.1 (toNat a4_) 0)) (toNat a4_) (getD a1_.1 (toNat a2_) 0)))) <|
 .g (inR r24_ (length (set (set (set a1_.1 (toNat a2_) (getD a1_.1 (toNat a4_) 0)) (toNat a4_) (getD a1_.1 (toNat a2_) 0)) (toNat r12_) (getD (set (set a1_.1 (toNat a2_) (getD a1_.1 (toNat a4_) 0)) (toNat a4_) (getD a1_.1 (toNat a2_) 0)) (toNat r24_) 0)))) <|
 .g (decide ((toNat r24_) < length (set (set (set a1_.1 (toNat a2_) (getD a1_.1 (toNat a4_) 0)) (toNat a4_) (getD a1_.1 (toNat a2_) 0)) (toNat r12_) (getD (set (set a1_.1 (toNat a2_) (getD a1_.1 (toNat a4_) 0)) (toNat a4_) (getD a1_.1 (toNat a2_) 0)) (toNat r24_) 0)))) <|
 .c (Int × Ye) (wzl (a2_, a5_) ((wrap .i64 (r12_ + 1)), ((wrap .i64 (r24_ - 1)), ((set (set (set (set a1_.1 (toNat a2_) (getD a1_.1 (toNat a4_) 0)) (toNat a4_) (getD a1_.1 (toNat a2_) 0)) (toNat r12_) (getD (set (set a1_.1 (toNat a2_) (getD a1_.1 (toNat a4_) 0)) (toNat a4_) (getD a1_.1 (toNat a2_) 0)) (toNat r24_) 0)) (toNat r24_) (getD (set (set a1_.1 (toNat a2_) (getD a1_.1 (toNat a4_) 0)) (toNat a4_) (getD a1_.1 (toNat a2_) 0)) (toNat r12_) 0)), a1_.2)))) fun r57_ =>
 .g (inR a2_ (length r57_.2.1)) <|
 .g (decide ((toNat a2_) < length r57_.2.1) && decide ((getD r57_.2.1 (toNat a2_) 0) < length r57_.2.2)) <|
 .g (inR r57_.1 (length r57_.2.1)) <|
 .g (decide ((toNat r57_.1) < length r57_.2.1) && decide ((getD r57_.2.1 (toNat r57_.1) 0) < length r57_.2.2)) <|
 .g (inR r57_.1 (length r57_.2.1)) <|
 .g (decide ((toNat r57_.1) < length r57_.2.1)) <|
 .g (inR a2_ (length (set r57_.2.1 (toNat r57_.1) (getD r57_.2.1 (toNat a2_) 0)))) <|
 .g (decide ((toNat a2_) < length (set r57_.2.1 (toNat r57_.1) (getD r57_.2.1 (toNat a2_) 0)))) <|
 .l (r57_.1, (false, ((set (set r57_.2.1 (toNat r57_.1) (getD r57_.2.1 (toNat a2_) 0)) (toNat a2_) (getD r57_.2.1 (toNat r57_.1) 0)), r57_.2.2))))
noncomputable def wbc (a2_ : Int) (a3_ : Int) (a4_ : Int) (a5_ : Yg) (a1_ : (List Nat) × Y2) : Option Yan := (wafh a2_ a3_ a4_ a5_ a1_).ev
noncomputable def waon : RetK := { acts := [], res := [.tmp 10, .tmp 11], sh := (yj [.dat yi, .dat .bool]), obs := [Zu], pins := [(0, 0, 64)] }
noncomputable def wzm : FD := yd (yj [.arr 64, .dat yi, .dat yi, .dat yi, .clo [y1, y1] yi]) [Zu] [.arg 0] Yan (fun x => wbc x.1.2.1 x.1.2.2.1 x.1.2.2.2.1 x.1.2.2.2.2.1 x.2.1) (fun r => ([.dat yi r.1, .dat .bool r.2.1], [(64, .perm false 24 3 yi r.2.2.1 r.2.2.2)]))
noncomputable def wen : Env := envOf []
noncomputable def weo : List (Nat × LD) := [(0, wgs), (2, wgt), (6, wgu), (8, wgv), (4, wgw)]
noncomputable def wep : Code := (f258.body).getD .skip
noncomputable def wlw (rec_ : (Int) → (Int) → (Int) → (Yg) → Ye → Option Ye) (k : Yg) (v : Int × (Int × (Int × (Bool × (Bool × Ye))))) : Tr ((Int × (Int × (Int × (Bool × (Bool × Ye))))) ⊕ Ye) :=
 .t (decide ((wrap .i64 (v.2.1 - v.1)) ≤ (12 : Int)))
 (.c Ye (waew v.1 v.2.1 k v.2.2.2.2.2) fun r8_ =>
 .l (.inr r8_))
 (.t (v.2.2.1 == 0)
 (.f)
 (.t (!v.2.2.2.1)
 (.c Ye (wafc v.1 v.2.1 k v.2.2.2.2.2) fun r9_ =>
 .c Yo (wzf (permL r9_.1 r9_.2) v.1 v.2.1 k) fun r10_ =>
 .t (r10_.2 == 2)
 (.f)
 (.t v.2.2.2.1
 (.t v.2.2.2.2.1
 (.t (r10_.2 == 1)
 (.f)
 (.t (decide (0 < v.1))
 (.g (inR (wrap .i64 (v.1 - 1)) (length r9_.1)) <|
 .g (decide ((toNat (wrap .i64 (v.1 - 1))) < length r9_.1) && decide ((getD r9_.1 (toNat (wrap .i64 (v.1 - 1))) 0) < length r9_.2)) <|
 .g (inR r10_.1 (length r9_.1)) <|
 .g (decide ((toNat r10_.1) < length r9_.1) && decide ((getD r9_.1 (toNat r10_.1) 0) < length r9_.2)) <|
 .c (Int) (k ((getD r9_.2 (getD r9_.1 (toNat (wrap .i64 (v.1 - 1))) 0) ([] : Y1)), ((getD r9_.2 (getD r9_.1 (toNat r10_.1) 0) ([] : Y1)), ()))) fun r11_ =>
 .t (!(decide (r11_ < 0)))
 (.f)
 (.c Yan (wbc v.1 v.2.1 r10_.1 k r9_) fun r12_ =>
 .g (!decide ((8 : Int) = 0)) <|
 .t (decide ((wrap .i64 (r12_.1 - v.1)) < (wrap .i64 (v.2.1 - r12_.1))))
 (.c Ye (rec_ v.1 r12_.1 (wrap .i64 (v.2.2.1 - 1)) k r12_.2.2) fun r13_ =>
 .l (.inl ((wrap .i64 (r12_.1 + 1)), (v.2.1, ((wrap .i64 (v.2.2.1 - 1)), ((decide ((wrap .i64 (Int.tdiv (wrap .i64 (v.2.1 - v.1)) (8 : Int))) ≤ (wrap .i64 (r12_.1 - v.1)))), (r12_.2.1, r13_)))))))
 (.c Ye (rec_ (wrap .i64 (r12_.1 + 1)) v.2.1 (wrap .i64 (v.2.2.1 - 1)) k r12_.2.2) fun r14_ =>
 .l (.inl (v.1, (r12_.1, ((wrap .i64 (v.2.2.1 - 1)), ((decide ((wrap .i64 (Int.tdiv (wrap .i64 (v.2.1 - v.1)) (8 : Int))) ≤ (wrap .i64 (v.2.1 - r12_.1)))), (r12_.2.1, r14_)))))))))
 (.c Yan (wbc v.1 v.2.1 r10_.1 k r9_) fun r15_ =>
 .g (!decide ((8 : Int) = 0)) <|
 .t (decide ((wrap .i64 (r15_.1 - v.1)) < (wrap .i64 (v.2.1 - r15_.1))))
 (.c Ye (rec_ v.1 r15_.1 (wrap .i64 (v.2.2.1 - 1)) k r15_.2.2) fun r16_ =>
 .l (.inl ((wrap .i64 (r15_.1 + 1)), (v.2.1, ((wrap .i64 (v.2.2.1 - 1)), ((decide ((wrap .i64 (Int.tdiv (wrap .i64 (v.2.1 - v.1)) (8 : Int))) ≤ (wrap .i64 (r15_.1 - v.1)))), (r15_.2.1, r16_)))))))
 (.c Ye (rec_ (wrap .i64 (r15_.1 + 1)) v.2.1 (wrap .i64 (v.2.2.1 - 1)) k r15_.2.2) fun r17_ =>
 .l (.inl (v.1, (r15_.1, ((wrap .i64 (v.2.2.1 - 1)), ((decide ((wrap .i64 (Int.tdiv (wrap .i64 (v.2.1 - v.1)) (8 : Int))) ≤ (wrap .i64 (v.2.1 - r15_.1)))), (r15_.2.1, r17_))))))))))
 (.t (decide (0 < v.1))
 (.g (inR (wrap .i64 (v.1 - 1)) (length r9_.1)) <|
 .g (decide ((toNat (wrap .i64 (v.1 - 1))) < length r9_.1) && decide ((getD r9_.1 (toNat (wrap .i64 (v.1 - 1))) 0) < length r9_.2)) <|
 .g (inR r10_.1 (length r9_.1)) <|
 .g (decide ((toNat r10_.1) < length r9_.1) && decide ((getD r9_.1 (toNat r10_.1) 0) < length r9_.2)) <|
 .c (Int) (k ((getD r9_.2 (getD r9_.1 (toNat (wrap .i64 (v.1 - 1))) 0) ([] : Y1)), ((getD r9_.2 (getD r9_.1 (toNat r10_.1) 0) ([] : Y1)), ()))) fun r18_ =>
 .t (!(decide (r18_ < 0)))
 (.f)
 (.c Yan (wbc v.1 v.2.1 r10_.1 k r9_) fun r19_ =>
 .g (!decide ((8 : Int) = 0)) <|
 .t (decide ((wrap .i64 (r19_.1 - v.1)) < (wrap .i64 (v.2.1 - r19_.1))))
 (.c Ye (rec_ v.1 r19_.1 (wrap .i64 (v.2.2.1 - 1)) k r19_.2.2) fun r20_ =>
 .l (.inl ((wrap .i64 (r19_.1 + 1)), (v.2.1, ((wrap .i64 (v.2.2.1 - 1)), ((decide ((wrap .i64 (Int.tdiv (wrap .i64 (v.2.1 - v.1)) (8 : Int))) ≤ (wrap .i64 (r19_.1 - v.1)))), (r19_.2.1, r20_)))))))
 (.c Ye (rec_ (wrap .i64 (r19_.1 + 1)) v.2.1 (wrap .i64 (v.2.2.1 - 1)) k r19_.2.2) fun r21_ =>
 .l (.inl (v.1, (r19_.1, ((wrap .i64 (v.2.2.1 - 1)), ((decide ((wrap .i64 (Int.tdiv (wrap .i64 (v.2.1 - v.1)) (8 : Int))) ≤ (wrap .i64 (v.2.1 - r19_.1)))), (r19_.2.1, r21_)))))))))
 (.c Yan (wbc v.1 v.2.1 r10_.1 k r9_) fun r22_ =>
 .g (!decide ((8 : Int) = 0)) <|
 .t (decide ((wrap .i64 (r22_.1 - v.1)) < (wrap .i64 (v.2.1 - r22_.1))))
 (.c Ye (rec_ v.1 r22_.1 (wrap .i64 (v.2.2.1 - 1)) k r22_.2.2) fun r23_ =>
 .l (.inl ((wrap .i64 (r22_.1 + 1)), (v.2.1, ((wrap .i64 (v.2.2.1 - 1)), ((decide ((wrap .i64 (Int.tdiv (wrap .i64 (v.2.1 - v.1)) (8 : Int))) ≤ (wrap .i64 (r22_.1 - v.1)))), (r22_.2.1, r23_)))))))
 (.c Ye (rec_ (wrap .i64 (r22_.1 + 1)) v.2.1 (wrap .i64 (v.2.2.1 - 1)) k r22_.2.2) fun r24_ =>
 .l (.inl (v.1, (r22_.1, ((wrap .i64 (v.2.2.1 - 1)), ((decide ((wrap .i64 (Int.tdiv (wrap .i64 (v.2.1 - v.1)) (8 : Int))) ≤ (wrap .i64 (v.2.1 - r22_.1)))), (r22_.2.1, r24_))))))))))
 (.t (decide (0 < v.1))
 (.g (inR (wrap .i64 (v.1 - 1)) (length r9_.1)) <|
 .g (decide ((toNat (wrap .i64 (v.1 - 1))) < length r9_.1) && decide ((getD r9_.1 (toNat (wrap .i64 (v.1 - 1))) 0) < length r9_.2)) <|
 .g (inR r10_.1 (length r9_.1)) <|
 .g (decide ((toNat r10_.1) < length r9_.1) && decide ((getD r9_.1 (toNat r10_.1) 0) < length r9_.2)) <|
 .c (Int) (k ((getD r9_.2 (getD r9_.1 (toNat (wrap .i64 (v.1 - 1))) 0) ([] : Y1)), ((getD r9_.2 (getD r9_.1 (toNat r10_.1) 0) ([] : Y1)), ()))) fun r25_ =>
 .t (!(decide (r25_ < 0)))
 (.f)
 (.c Yan (wbc v.1 v.2.1 r10_.1 k r9_) fun r26_ =>
 .g (!decide ((8 : Int) = 0)) <|
 .t (decide ((wrap .i64 (r26_.1 - v.1)) < (wrap .i64 (v.2.1 - r26_.1))))
 (.c Ye (rec_ v.1 r26_.1 (wrap .i64 (v.2.2.1 - 1)) k r26_.2.2) fun r27_ =>
 .l (.inl ((wrap .i64 (r26_.1 + 1)), (v.2.1, ((wrap .i64 (v.2.2.1 - 1)), ((decide ((wrap .i64 (Int.tdiv (wrap .i64 (v.2.1 - v.1)) (8 : Int))) ≤ (wrap .i64 (r26_.1 - v.1)))), (r26_.2.1, r27_)))))))
 (.c Ye (rec_ (wrap .i64 (r26_.1 + 1)) v.2.1 (wrap .i64 (v.2.2.1 - 1)) k r26_.2.2) fun r28_ =>
 .l (.inl (v.1, (r26_.1, ((wrap .i64 (v.2.2.1 - 1)), ((decide ((wrap .i64 (Int.tdiv (wrap .i64 (v.2.1 - v.1)) (8 : Int))) ≤ (wrap .i64 (v.2.1 - r26_.1)))), (r26_.2.1, r28_)))))))))
 (.c Yan (wbc v.1 v.2.1 r10_.1 k r9_) fun r29_ =>
 .g (!decide ((8 : Int) = 0)) <|
 .t (decide ((wrap .i64 (r29_.1 - v.1)) < (wrap .i64 (v.2.1 - r29_.1))))
 (.c Ye (rec_ v.1 r29_.1 (wrap .i64 (v.2.2.1 - 1)) k r29_.2.2) fun r30_ =>
 .l (.inl ((wrap .i64 (r29_.1 + 1)), (v.2.1, ((wrap .i64 (v.2.2.1 - 1)), ((decide ((wrap .i64 (Int.tdiv (wrap .i64 (v.2.1 - v.1)) (8 : Int))) ≤ (wrap .i64 (r29_.1 - v.1)))), (r29_.2.1, r30_)))))))
 (.c Ye (rec_ (wrap .i64 (r29_.1 + 1)) v.2.1 (wrap .i64 (v.2.2.1 - 1)) k r29_.2.2) fun r31_ =>
 .l (.inl (v.1, (r29_.1, ((wrap .i64 (v.2.2.1 - 1)), ((decide ((wrap .i64 (Int.tdiv (wrap .i64 (v.2.1 - v.1)) (8 : Int))) ≤ (wrap .i64 (v.2.1 - r29_.1)))), (r29_.2.1, r31_)))))))))))
 (.c Yo (wzf (permL v.2.2.2.2.2.1 v.2.2.2.2.2.2) v.1 v.2.1 k) fun r32_ =>
 .t (r32_.2 == 2)
 (.f)
 (.t v.2.2.2.1
 (.t v.2.2.2.2.1
 (.t (r32_.2 == 1)
 (.f)
 (.t (decide (0 < v.1))
 (.g (inR (wrap .i64 (v.1 - 1)) (length v.2.2.2.2.2.1)) <|
 .g (decide ((toNat (wrap .i64 (v.1 - 1))) < length v.2.2.2.2.2.1) && decide ((getD v.2.2.2.2.2.1 (toNat (wrap .i64 (v.1 - 1))) 0) < length v.2.2.2.2.2.2)) <|
 .g (inR r32_.1 (length v.2.2.2.2.2.1)) <|
 .g (decide ((toNat r32_.1) < length v.2.2.2.2.2.1) && decide ((getD v.2.2.2.2.2.1 (toNat r32_.1) 0) < length v.2.2.2.2.2.2)) <|
 .c (Int) (k ((getD v.2.2.2.2.2.2 (getD v.2.2.2.2.2.1 (toNat (wrap .i64 (v.1 - 1))) 0) ([] : Y1)), ((getD v.2.2.2.2.2.2 (getD v.2.2.2.2.2.1 (toNat r32_.1) 0) ([] : Y1)), ()))) fun r33_ =>
 .t (!(decide (r33_ < 0)))
 (.f)
 (.c Yan (wbc v.1 v.2.1 r32_.1 k v.2.2.2.2.2) fun r34_ =>
 .g (!decide ((8 : Int) = 0)) <|
 .t (decide ((wrap .i64 (r34_.1 - v.1)) < (wrap .i64 (v.2.1 - r34_.1))))
 (.c Ye (rec_ v.1 r34_.1 v.2.2.1 k r34_.2.2) fun r35_ =>
 .l (.inl ((wrap .i64 (r34_.1 + 1)), (v.2.1, (v.2.2.1, ((decide ((wrap .i64 (Int.tdiv (wrap .i64 (v.2.1 - v.1)) (8 : Int))) ≤ (wrap .i64 (r34_.1 - v.1)))), (r34_.2.1, r35_)))))))
 (.c Ye (rec_ (wrap .i64 (r34_.1 + 1)) v.2.1 v.2.2.1 k r34_.2.2) fun r36_ =>
 .l (.inl (v.1, (r34_.1, (v.2.2.1, ((decide ((wrap .i64 (Int.tdiv (wrap .i64 (v.2.1 - v.1)) (8 : Int))) ≤ (wrap .i64 (v.2.1 - r34_.1)))), (r34_.2.1, r36_)))))))))
 (.c Yan (wbc v.1 v.2.1 r32_.1 k v.2.2.2.2.2) fun r37_ =>
 .g (!decide ((8 : Int) = 0)) <|
 .t (decide ((wrap .i64 (r37_.1 - v.1)) < (wrap .i64 (v.2.1 - r37_.1))))
 (.c Ye (rec_ v.1 r37_.1 v.2.2.1 k r37_.2.2) fun r38_ =>
 .l (.inl ((wrap .i64 (r37_.1 + 1)), (v.2.1, (v.2.2.1, ((decide ((wrap .i64 (Int.tdiv (wrap .i64 (v.2.1 - v.1)) (8 : Int))) ≤ (wrap .i64 (r37_.1 - v.1)))), (r37_.2.1, r38_)))))))
 (.c Ye (rec_ (wrap .i64 (r37_.1 + 1)) v.2.1 v.2.2.1 k r37_.2.2) fun r39_ =>
 .l (.inl (v.1, (r37_.1, (v.2.2.1, ((decide ((wrap .i64 (Int.tdiv (wrap .i64 (v.2.1 - v.1)) (8 : Int))) ≤ (wrap .i64 (v.2.1 - r37_.1)))), (r37_.2.1, r39_))))))))))
 (.t (decide (0 < v.1))
 (.g (inR (wrap .i64 (v.1 - 1)) (length v.2.2.2.2.2.1)) <|
 .g (decide ((toNat (wrap .i64 (v.1 - 1))) < length v.2.2.2.2.2.1) && decide ((getD v.2.2.2.2.2.1 (toNat (wrap .i64 (v.1 - 1))) 0) < length v.2.2.2.2.2.2)) <|
 .g (inR r32_.1 (length v.2.2.2.2.2.1)) <|
 .g (decide ((toNat r32_.1) < length v.2.2.2.2.2.1) && decide ((getD v.2.2.2.2.2.1 (toNat r32_.1) 0) < length v.2.2.2.2.2.2)) <|
 .c (Int) (k ((getD v.2.2.2.2.2.2 (getD v.2.2.2.2.2.1 (toNat (wrap .i64 (v.1 - 1))) 0) ([] : Y1)), ((getD v.2.2.2.2.2.2 (getD v.2.2.2.2.2.1 (toNat r32_.1) 0) ([] : Y1)), ()))) fun r40_ =>
 .t (!(decide (r40_ < 0)))
 (.f)
 (.c Yan (wbc v.1 v.2.1 r32_.1 k v.2.2.2.2.2) fun r41_ =>
 .g (!decide ((8 : Int) = 0)) <|
 .t (decide ((wrap .i64 (r41_.1 - v.1)) < (wrap .i64 (v.2.1 - r41_.1))))
 (.c Ye (rec_ v.1 r41_.1 v.2.2.1 k r41_.2.2) fun r42_ =>
 .l (.inl ((wrap .i64 (r41_.1 + 1)), (v.2.1, (v.2.2.1, ((decide ((wrap .i64 (Int.tdiv (wrap .i64 (v.2.1 - v.1)) (8 : Int))) ≤ (wrap .i64 (r41_.1 - v.1)))), (r41_.2.1, r42_)))))))
 (.c Ye (rec_ (wrap .i64 (r41_.1 + 1)) v.2.1 v.2.2.1 k r41_.2.2) fun r43_ =>
 .l (.inl (v.1, (r41_.1, (v.2.2.1, ((decide ((wrap .i64 (Int.tdiv (wrap .i64 (v.2.1 - v.1)) (8 : Int))) ≤ (wrap .i64 (v.2.1 - r41_.1)))), (r41_.2.1, r43_)))))))))
 (.c Yan (wbc v.1 v.2.1 r32_.1 k v.2.2.2.2.2) fun r44_ =>
 .g (!decide ((8 : Int) = 0)) <|
 .t (decide ((wrap .i64 (r44_.1 - v.1)) < (wrap .i64 (v.2.1 - r44_.1))))
 (.c Ye (rec_ v.1 r44_.1 v.2.2.1 k r44_.2.2) fun r45_ =>
 .l (.inl ((wrap .i64 (r44_.1 + 1)), (v.2.1, (v.2.2.1, ((decide ((wrap .i64 (Int.tdiv (wrap .i64 (v.2.1 - v.1)) (8 : Int))) ≤ (wrap .i64 (r44_.1 - v.1)))), (r44_.2.1, r45_)))))))
 (.c Ye (rec_ (wrap .i64 (r44_.1 + 1)) v.2.1 v.2.2.1 k r44_.2.2) fun r46_ =>
 .l (.inl (v.1, (r44_.1, (v.2.2.1, ((decide ((wrap .i64 (Int.tdiv (wrap .i64 (v.2.1 - v.1)) (8 : Int))) ≤ (wrap .i64 (v.2.1 - r44_.1)))), (r44_.2.1, r46_))))))))))
 (.t (decide (0 < v.1))
 (.g (inR (wrap .i64 (v.1 - 1)) (length v.2.2.2.2.2.1)) <|
 .g (decide ((toNat (wrap .i64 (v.1 - 1))) < length v.2.2.2.2.2.1) && decide ((getD v.2.2.2.2.2.1 (toNat (wrap .i64 (v.1 - 1))) 0) < length v.2.2.2.2.2.2)) <|
 .g (inR r32_.1 (length v.2.2.2.2.2.1)) <|
 .g (decide ((toNat r32_.1) < length v.2.2.2.2.2.1) && decide ((getD v.2.2.2.2.2.1 (toNat r32_.1) 0) < length v.2.2.2.2.2.2)) <|
 .c (Int) (k ((getD v.2.2.2.2.2.2 (getD v.2.2.2.2.2.1 (toNat (wrap .i64 (v.1 - 1))) 0) ([] : Y1)), ((getD v.2.2.2.2.2.2 (getD v.2.2.2.2.2.1 (toNat r32_.1) 0) ([] : Y1)), ()))) fun r47_ =>
 .t (!(decide (r47_ < 0)))
 (.f)
 (.c Yan (wbc v.1 v.2.1 r32_.1 k v.2.2.2.2.2) fun r48_ =>
 .g (!decide ((8 : Int) = 0)) <|
 .t (decide ((wrap .i64 (r48_.1 - v.1)) < (wrap .i64 (v.2.1 - r48_.1))))
 (.c Ye (rec_ v.1 r48_.1 v.2.2.1 k r48_.2.2) fun r49_ =>
 .l (.inl ((wrap .i64 (r48_.1 + 1)), (v.2.1, (v.2.2.1, ((decide ((wrap .i64 (Int.tdiv (wrap .i64 (v.2.1 - v.1)) (8 : Int))) ≤ (wrap .i64 (r48_.1 - v.1)))), (r48_.2.1, r49_)))))))
 (.c Ye (rec_ (wrap .i64 (r48_.1 + 1)) v.2.1 v.2.2.1 k r48_.2.2) fun r50_ =>
 .l (.inl (v.1, (r48_.1, (v.2.2.1, ((decide ((wrap .i64 (Int.tdiv (wrap .i64 (v.2.1 - v.1)) (8 : Int))) ≤ (wrap .i64 (v.2.1 - r48_.1)))), (r48_.2.1, r50_)))))))))
 (.c Yan (wbc v.1 v.2.1 r32_.1 k v.2.2.2.2.2) fun r51_ =>
 .g (!decide ((8 : Int) = 0)) <|
 .t (decide ((wrap .i64 (r51_.1 - v.1)) < (wrap .i64 (v.2.1 - r51_.1))))
 (.c Ye (rec_ v.1 r51_.1 v.2.2.1 k r51_.2.2) fun r52_ =>
 .l (.inl ((wrap .i64 (r51_.1 + 1)), (v.2.1, (v.2.2.1, ((decide ((wrap .i64 (Int.tdiv (wrap .i64 (v.2.1 - v.1)) (8 : Int))) ≤ (wrap .i64 (r51_.1 - v.1)))), (r51_.2.1, r52_)))))))
 (.c Ye (rec_ (wrap .i64 (r51_.1 + 1)) v.2.1 v.2.2.1 k r51_.2.2) fun r53_ =>
 .l (.inl (v.1, (r51_.1, (v.2.2.1, ((decide ((wrap .i64 (Int.tdiv (wrap .i64 (v.2.1 - v.1)) (8 : Int))) ≤ (wrap .i64 (v.2.1 - r51_.1)))), (r51_.2.1, r53_)))))))))))))
noncomputable def wzn (rec_ : (Int) → (Int) → (Int) → (Yg) → Ye → Option Ye) (k : Yg) (v : Int × (Int × (Int × (Bool × (Bool × Ye))))) : Option Ye := iter (fun v => (wlw rec_ k v).ev) v
noncomputable def wgx (rec_ : (Int) → (Int) → (Int) → (Yg) → Ye → Option Ye) : LD where
 head := { acts := [], S := { slots := [0, 1, 2, 3, 4, 10, 11], sh := (yj [.arr 64, .dat yi, .dat yi, .dat yi, .clo [y1, y1] yi, .dat .bool, .dat .bool]), obs := [Zu] } }
 exits := []
 rets := { acts := [], S := { slots := [0], sh := (yj [.arr 64]), obs := [Zu] } }
 K := Yg
 V := Int × (Int × (Int × (Bool × (Bool × Ye))))
 R := (List Nat) × Y2
 join := fun k v => (((), (v.1, (v.2.1, (v.2.2.1, (k, (v.2.2.2.1, (v.2.2.2.2.1, ()))))))), (v.2.2.2.2.2, ()))
 sk := fun t => t.1.2.2.2.2.1
 sv := fun t => (t.1.2.1, (t.1.2.2.1, (t.1.2.2.2.1, (t.1.2.2.2.2.2.1, (t.1.2.2.2.2.2.2.1, t.2.1)))))
 step := wlw rec_
 leaf := fun _ r => .l (.ret (mkSt ({ slots := [0], sh := (yj [.arr 64]), obs := [Zu] }) (((), ()), (r, ()))))
noncomputable def wafi (rec_ : (Int) → (Int) → (Int) → (Yg) → Ye → Option Ye) (a2_ : Int) (a3_ : Int) (a4_ : Int) (a5_ : Yg) (a1_ : (List Nat) × Y2) : Tr Ye :=
 .c Ye (wzn rec_ a5_ (a2_, (a3_, (a4_, (true, (true, a1_)))))) fun r55_ =>
 .l r55_
noncomputable def weq : Nat → (Int) → (Int) → (Int) → (Yg) → Ye → Option Ye
 | 0 => fun _ _ _ _ _ => none
 | n + 1 => fun a2_ a3_ a4_ a5_ a1_ => (wafi (weq n) a2_ a3_ a4_ a5_ a1_).ev
noncomputable def waoo : RetK := { acts := [], res := [], sh := .nil, obs := [Zu], pins := [(0, 0, 64)] }
noncomputable def wpy (rec_ : (Int) → (Int) → (Int) → (Yg) → Ye → Option Ye) : FD where
 A := (yj [.arr 64, .dat yi, .dat yi, .dat yi, .clo [y1, y1] yi])
 ins := [Zu]
 lend := [.arg 0]
 R := (List Nat) × Y2
 F := fun x => rec_ x.1.2.1 x.1.2.2.1 x.1.2.2.2.1 x.1.2.2.2.2.1 x.2.1
 emb := fun r => ([], [(64, .perm false 24 3 yi r.1 r.2)])
noncomputable def wzo (n : Nat) : FD := wpy (weq n)
noncomputable def wzp (rec_ : (Int) → (Int) → (Int) → (Yg) → Ye → Option Ye) : Env := envOf [(251, wyv), (253, wyz), (254, wzg), (258, wzm), (233, wpy rec_)]
noncomputable def wzq (rec_ : (Int) → (Int) → (Int) → (Yg) → Ye → Option Ye) : List (Nat × LD) := [(0, wgx rec_)]
noncomputable def wzr : Code := (f233.body).getD .skip
noncomputable def wafj (a2_ : Yg) (a1_ : (List Nat) × Y2) : Tr Ye :=
 .c (Int) (wys (wrap .u64 ((length a1_.1 : Nat) : Int))) fun r1_ =>
 .c Ye (weq 1000000 (0 : Int) ((length a1_.1 : Nat) : Int) r1_ a2_ a1_) fun r2_ =>
 .l r2_
noncomputable def wafk (a2_ : Yg) (a1_ : (List Nat) × Y2) : Option Ye := (wafj a2_ a1_).ev
noncomputable def waop : RetK := { acts := [], res := [], sh := .nil, obs := [Zu], pins := [(0, 0, 64)] }
noncomputable def wpd : FD := yd (yj [.arr 64, .clo [y1, y1] yi]) [Zu] [.arg 0] Ye (fun x => wafk x.1.2.1 x.2.1) (fun r => ([], [(64, .perm false 24 3 yi r.1 r.2)]))
noncomputable def T_zc (a1_ : Int) : Tr (Bool) :=
 .l (a1_ != a1_)
noncomputable def F_zc (a1_ : Int) : Option (Bool) := (T_zc a1_).ev
noncomputable def K_zc : RetK := yr [.tmp 2] Zp
noncomputable def D_zc : FD := yd Zm [] [] Bool (fun x => F_zc x.1.1) (fun r => ([.dat .bool r], []))
noncomputable def T_za (a1_ : Int) (a2_ : Int) : Tr (Int) :=
 .c (Bool) (F_zc a1_) fun r1_ =>
 .c (Bool) (F_zc a2_) fun r2_ =>
 .t r1_
 (.t r2_
 (.l (0 : Int))
 (.l (-1 : Int)))
 (.t r2_
 (.l (1 : Int))
 (.t (decide (a1_ < a2_))
 (.l (-1 : Int))
 (.t (decide (a2_ < a1_))
 (.l (1 : Int))
 (.l (0 : Int)))))
noncomputable def F_za (a1_ : Int) (a2_ : Int) : Option (Int) := (T_za a1_ a2_).ev
noncomputable def K_za : RetK := yr [.tmp 4] Zm
noncomputable def D_za : FD := yd (yj [.dat yi, .dat yi]) [] [] Int (fun x => F_za x.1.1 x.1.2.1) (fun r => ([.dat yi r], []))
end Go.Proofs.YtnagpmhaddfgmaaGreat
