/-
 The functions of the program that the claim reaches, told as typed functions. No conditions.
-/
import Derived.Test.YtnagpmhaddfgmaaGreatC3
import Derived.Test.YtnagpmhaddfgmaaGreatProg
namespace Go.Proofs.YtnagpmhaddfgmaaGreat
open Go.Proofs.Tryz
open List (length getD set)
open Int (toNat)
open IntKind (wrap)
noncomputable def wbjs (a1_ : Y1) : Tr Yap :=
 .c Yk (wawf a1_ (0 : Int) (0 : Int)) fun r1_ =>
 .c (Y1 × (Y1 × Yg)) (wawi r1_.1 r1_.2.1 r1_.2.2.1 r1_.2.2.2.1 r1_.2.2.2.2) fun r2_ =>
 .c (Int × Yan) (wzm r1_.1 r1_.2.1 r2_.1) fun r3_ =>
 .t r3_.2.1
 (.c (Bool × (Y1 × Yg)) (wpx (2 : Int) r2_.2.1 r2_.2.2.1 r2_.2.2.2) fun r4_ =>
 .t r4_.1
 (.l (r1_.1, (r1_.2.1, r3_.2.2)))
 (.l (r1_.1, (r1_.2.1, r2_.1))))
 (.l (r1_.1, (r1_.2.1, r2_.1)))
noncomputable def wawv (a1_ : Y1) : Option Yap := (wbjs a1_).ev
noncomputable def wcav : RetK := { acts := [.pin 3 1], res := [.cell 2 27, .tmp 3], sh := (yj [.agg Zf, .arr 1]), obs := [(1, .arr 3 yi)], pins := [] }
noncomputable def wbjt : FD := yd (yj [.dat Zaf]) [] [] Yap (fun x => wawv x.1.1) (fun r => ([.agg [.dat y1 r.1, .dat y2 r.2.1], .arr 1], [(1, .arr 3 yi r.2.2)]))
noncomputable def wcaw : Nat → Nat → List Nat := fun r i => match look [(3, [(2, [16])])] r with
 | some l => (look l i).getD []
 | none => []
noncomputable def wkw (k : Y1 × Yr) (v : Int) : Tr ((Int) ⊕ ((Unit) ⊕ (Unit))) :=
 .t (decide (v < k.2.2.2))
 (.g (inR v (length k.2.2.1)) <|
 .c (Bool) (wahg (getD k.2.2.1 (toNat v) 0) (0 : Int) (wrap .i64 (k.2.1 - 1))) fun r6_ =>
 .t (!r6_)
 (.l (.inr (.inr ())))
 (.t (decide (0 < v))
 (.g (inR (wrap .i64 (v - 1)) (length k.1)) <|
 .t (decide ((getD k.2.2.1 (toNat v) 0) ≤ (getD k.1 (toNat (wrap .i64 (v - 1))) (0 : Int))))
 (.l (.inr (.inr ())))
 (.l (.inl (wrap .i64 (v + 1)))))
 (.l (.inl (wrap .i64 (v + 1))))))
 (.l (.inr (.inl ())))
noncomputable def waoi (k : Y1 × Yr) (v : Int) : Option ((Unit) ⊕ (Unit)) := iter (fun v => (wkw k v).ev) v
noncomputable def waei : LD := ⟨(yh [0, 1, 7, 8, 9] (yj [.dat y1, .dat yi, .dat y1, .dat yi, .dat yi])), [(0, (yh [] .nil))], (yh [4] Zm), Y1 × Yr, Int, (Unit) ⊕ (Unit), fun k v => ((k.1, (k.2.1, (k.2.2.1, (k.2.2.2, (v, ()))))), ()), fun t => (t.1.1, (t.1.2.1, (t.1.2.2.1, t.1.2.2.2.1))), fun t => t.1.2.2.2.2.1, wkw, fun _ r => .s (Unit) (Unit) r (fun _ => .l (.exit 0 (wav ((ys [] .nil)) ((), ())))) (fun _ => .l (.ret (wav ((ys [4] Zm)) ((false, ()), ()))))⟩
noncomputable def wbju (a1_ : Y1) (a2_ : Int) : Tr (Bool) :=
 .c ((Unit) ⊕ (Unit)) (waoi (a1_, (a2_, (a1_, ((length a1_ : Nat) : Int)))) (0 : Int)) fun r8_ =>
 .s (Unit) (Unit) r8_
 (fun _ => .l true)
 (fun _ => .l false)
noncomputable def waww (a1_ : Y1) (a2_ : Int) : Option (Bool) := (wbju a1_ a2_).ev
noncomputable def wcax : RetK := yr [.tmp 4] Zm
noncomputable def wbjv : FD := yd (yj [.dat y1, .dat yi]) [] [] Bool (fun x => waww x.1.1 x.1.2.1) (fun r => ([.dat .bool r], []))
noncomputable def wbjw : Env := wac [(104, wamj)]
noncomputable def wbjx : List (Nat × LD) := [(0, waei)]
noncomputable def wbjy : Code := (f117.body).getD .skip
noncomputable def T_zi (a1_ : Y1) (_a2_ : List Y1) (a3_ : Y1) : Tr (Bool) :=
 .t (decide ((0 : Int) < ((length a3_ : Nat) : Int)))
 (.c (Bool) (waww a3_ ((length a1_ : Nat) : Int)) fun r1_ =>
 .l r1_)
 (.l false)
noncomputable def F_zi (a1_ : Y1) (a2_ : List Y1) (a3_ : Y1) : Option (Bool) := (T_zi a1_ a2_ a3_).ev
noncomputable def K_zi : RetK := yr [.tmp 4] Zm
noncomputable def D_zi : FD := yd (yj [.agg Zf, .dat y1]) [] [] Bool (fun x => F_zi x.1.1.1 x.1.1.2.1 x.1.2.1) (fun r => ([.dat .bool r], []))
noncomputable def wbjz (a1_ : Y1) (a2_ : List Y1) (a3_ : Y1) : Tr (Bool) :=
 .c (Bool) (F_zu a1_ a2_) fun r1_ =>
 .t r1_
 (.c (Bool) (F_zi a1_ a2_ a3_) fun r2_ =>
 .l r2_)
 (.l false)
noncomputable def wahm (a1_ : Y1) (a2_ : List Y1) (a3_ : Y1) : Option (Bool) := (wbjz a1_ a2_ a3_).ev
noncomputable def wcbb : RetK := yr [.tmp 4] Zm
noncomputable def waoj : FD := yd (yj [.agg Zf, .dat y1]) [] [] Bool (fun x => wahm x.1.1.1 x.1.1.2.1 x.1.2.1) (fun r => ([.dat .bool r], []))
noncomputable def wvu (k : Y1 × Yn) (v : Int × Int) : Tr (Yg ⊕ (Int)) :=
 .t (decide (v.2 < k.2.1))
 (.g (inR v.2 (length k.1)) <|
 .g (inR (getD k.1 (toNat v.2) 0) (length k.2.2.1)) <|
 .l (.inl ((wrap .i64 (v.1 + (getD k.2.2.1 (toNat (getD k.1 (toNat v.2) 0)) (0 : Int)))), (wrap .i64 (v.2 + 1)))))
 (.l (.inr v.1))
noncomputable def wbas (k : Y1 × Yn) (v : Int × Int) : Option (Int) := iter (fun v => (wvu k v).ev) v
noncomputable def waok : LD := ⟨{ acts := [], S := { slots := [2, 5, 8, 9, 10], sh := (yj [.box 2 0, .dat yi, .dat y1, .dat yi, .dat yi]), obs := [(2, .cells Zf)] } }, [(0, (yh [5] Zh))], (yh [] .nil), Y1 × Yn, Int × (Int), Int, fun k v => (((), (v.1, (k.1, (k.2.1, (v.2, ()))))), ((k.2.2.1, (k.2.2.2, ())), ())), fun t => (t.1.2.2.1, (t.1.2.2.2.1, (t.2.1.1, t.2.1.2.1))), fun t => (t.1.2.1, t.1.2.2.2.2.1), wvu, fun _ r => .l (.exit 0 (wav ((ys [5] Zh)) ((r, ()), ())))⟩
noncomputable def T_zn (a1_ : Y1) (a2_ : List Y1) (a3_ : Y1) : Tr (Int) :=
 .c (Int) (wbas (a3_, (((length a3_ : Nat) : Int), (a1_, a2_))) ((0 : Int), (0 : Int))) fun r8_ =>
 .l r8_
noncomputable def F_zn (a1_ : Y1) (a2_ : List Y1) (a3_ : Y1) : Option (Int) := (T_zn a1_ a2_ a3_).ev
noncomputable def K_zn : RetK := yr [.tmp 4] Zh
noncomputable def D_zn : FD := yd (yj [.agg Zf, .dat y1]) [] [] Int (fun x => F_zn x.1.1.1 x.1.1.2.1 x.1.2.1) (fun r => ([.dat yi r], []))
noncomputable def E_zn : Env := wac []
noncomputable def O_zn : List (Nat × LD) := [(0, waok)]
noncomputable def C_zn : Code := (f187.body).getD .skip
noncomputable def wvv (k : Int × (Y1 × Yn)) (v : Int × Int) : Tr (Yg ⊕ (Int)) :=
 .t (decide (v.2 < k.2.2.1))
 (.g (inR v.2 (length k.2.1)) <|
 .g (inR k.1 (length k.2.2.2.2)) <|
 .g (inR (getD k.2.1 (toNat v.2) 0) (length (getD k.2.2.2.2 (toNat k.1) ([] : Y1)))) <|
 .g (inR k.1 (length k.2.2.2.2)) <|
 .g (inR v.1 (length (getD k.2.2.2.2 (toNat k.1) ([] : Y1)))) <|
 .t (decide ((getD (getD k.2.2.2.2 (toNat k.1) ([] : Y1)) (toNat (getD k.2.1 (toNat v.2) 0)) (0 : Int)) < (getD (getD k.2.2.2.2 (toNat k.1) ([] : Y1)) (toNat v.1) (0 : Int))))
 (.l (.inl ((getD k.2.1 (toNat v.2) 0), (wrap .i64 (v.2 + 1)))))
 (.l (.inl (v.1, (wrap .i64 (v.2 + 1))))))
 (.l (.inr v.1))
noncomputable def wbat (k : Int × (Y1 × Yn)) (v : Int × Int) : Option (Int) := iter (fun v => (wvv k v).ev) v
noncomputable def waol : LD := ⟨{ acts := [], S := { slots := [1, 3, 7, 13, 14, 15], sh := (yj [.dat yi, .box 3 0, .dat yi, .dat y1, .dat yi, .dat yi]), obs := [(3, .cells Zf)] } }, [(0, (yh [7] Zh))], (yh [] .nil), Int × (Y1 × Yn), Int × (Int), Int, fun k v => ((k.1, ((), (v.1, (k.2.1, (k.2.2.1, (v.2, ())))))), ((k.2.2.2.1, (k.2.2.2.2, ())), ())), fun t => (t.1.1, (t.1.2.2.2.1, (t.1.2.2.2.2.1, (t.2.1.1, t.2.1.2.1)))), fun t => (t.1.2.2.1, t.1.2.2.2.2.2.1), wvv, fun _ r => .l (.exit 0 (wav ((ys [7] Zh)) ((r, ()), ())))⟩
noncomputable def T_zp (a1_ : Y1) (a2_ : List Y1) (a3_ : Int) (a4_ : Y1) : Tr (Int) :=
 .g (inR 0 (length a4_)) <|
 .c (Int) (wbat (a3_, (a4_, (((length a4_ : Nat) : Int), (a1_, a2_)))) ((getD a4_ (toNat 0) 0), (0 : Int))) fun r9_ =>
 .l r9_
noncomputable def F_zp (a1_ : Y1) (a2_ : List Y1) (a3_ : Int) (a4_ : Y1) : Option (Int) := (T_zp a1_ a2_ a3_ a4_).ev
noncomputable def K_zp : RetK := yr [.tmp 6] Zh
noncomputable def D_zp : FD := yd (yj [.agg Zf, .dat yi, .dat y1]) [] [] Int (fun x => F_zp x.1.1.1 x.1.1.2.1 x.1.2.1 x.1.2.2.1) (fun r => ([.dat yi r], []))
noncomputable def E_zp : Env := wac []
noncomputable def O_zp : List (Nat × LD) := [(0, waol)]
noncomputable def C_zp : Code := (f274.body).getD .skip
noncomputable def wvw (k : Y1 × Yn) (v : Int × Y1) : Tr (Yj ⊕ Y1) :=
 .t (decide (v.1 < k.2.1))
 (.c (Int) (F_zp k.2.2.1 k.2.2.2 v.1 k.1) fun r7_ =>
 .g (decide ((length v.2 + length ([r7_] : Y1)) * 8 ≤ 140737488355328)) <|
 .l (.inl ((wrap .i64 (v.1 + 1)), (v.2 ++ ([r7_] : Y1)))))
 (.l (.inr v.2))
noncomputable def wbau (k : Y1 × Yn) (v : Int × Y1) : Option Y1 := iter (fun v => (wvw k v).ev) v
noncomputable def waom : LD := ⟨{ acts := [], S := { slots := [1, 2, 5, 10, 11], sh := (yj [.dat y1, .box 2 0, .arr 7, .dat yi, .dat yi]), obs := [(2, .cells Zf), (7, .arr 3 yi)] } }, [(0, { acts := [], S := { slots := [5], sh := (yj [.arr 7]), obs := [(7, .arr 3 yi)] } })], (yh [] .nil), Y1 × Yn, Int × Y1, Y1, fun k v => ((k.1, ((), ((), (k.2.1, (v.1, ()))))), ((k.2.2.1, (k.2.2.2, ())), (v.2, ()))), fun t => (t.1.1, (t.1.2.2.2.1, (t.2.1.1, t.2.1.2.1))), fun t => (t.1.2.2.2.2.1, t.2.2.1), wvw, fun _ r => .l (.exit 0 (wav ({ slots := [5], sh := (yj [.arr 7]), obs := [(7, .arr 3 yi)] }) (((), ()), (r, ()))))⟩
noncomputable def T_zo (a1_ : Y1) (a2_ : List Y1) (a3_ : Y1) : Tr Y1 :=
 .c Y1 (wbau (a3_, (((length a2_ : Nat) : Int), (a1_, a2_))) ((0 : Int), ([] : Y1))) fun r9_ =>
 .l r9_
noncomputable def F_zo (a1_ : Y1) (a2_ : List Y1) (a3_ : Y1) : Option Y1 := (T_zo a1_ a2_ a3_).ev
noncomputable def K_zo : RetK := { acts := [.ren 7 0], res := [.tmp 4], sh := (yj [.arr 0]), obs := [Zav], pins := [] }
noncomputable def D_zo : FD := yd (yj [.agg Zf, .dat y1]) [] [] Y1 (fun x => F_zo x.1.1.1 x.1.1.2.1 x.1.2.1) (fun r => ([.arr 0], [(0, .arr 3 yi r)]))
noncomputable def E_zo : Env := wac [(274, D_zp)]
noncomputable def O_zo : List (Nat × LD) := [(0, waom)]
noncomputable def C_zo : Code := (f261.body).getD .skip
noncomputable def wvx (k : Int × Yap) (v : Int × Y1) : Tr (Yj ⊕ Y1) :=
 .t (decide (v.1 < k.1))
 (.g (inR v.1 (length k.2.2.2)) <|
 .g (decide ((toNat v.1) < length k.2.2.2)) <|
 .g (inR v.1 (length k.2.2.1)) <|
 .g (inR (getD k.2.2.2 (toNat v.1) 0) (length (getD k.2.2.1 (toNat v.1) ([] : Y1)))) <|
 .g (decide ((length v.2 + length ([(getD (getD k.2.2.1 (toNat v.1) ([] : Y1)) (toNat (getD k.2.2.2 (toNat v.1) 0)) (0 : Int))] : Y1)) * 8 ≤ 140737488355328)) <|
 .l (.inl ((wrap .i64 (v.1 + 1)), (v.2 ++ ([(getD (getD k.2.2.1 (toNat v.1) ([] : Y1)) (toNat (getD k.2.2.2 (toNat v.1) 0)) (0 : Int))] : Y1)))))
 (.l (.inr v.2))
noncomputable def wbav (k : Int × Yap) (v : Int × Y1) : Option Y1 := iter (fun v => (wvx k v).ev) v
noncomputable def waon : LD := ⟨{ acts := [], S := { slots := [2, 5, 11, 12, 13], sh := (yj [.box 2 0, .arr 8, .arr 704, .dat yi, .dat yi]), obs := [(2, .cells Zf), (8, .arr 3 yi), (704, .arr 3 yi)] } }, [(0, { acts := [], S := { slots := [5], sh := (yj [.arr 8]), obs := [(8, .arr 3 yi)] } })], (yh [] .nil), Int × Yap, Int × Y1, Y1, fun k v => (((), ((), ((), (k.1, (v.1, ()))))), ((k.2.1, (k.2.2.1, ())), (v.2, (k.2.2.2, ())))), fun t => (t.1.2.2.2.1, (t.2.1.1, (t.2.1.2.1, t.2.2.2.1))), fun t => (t.1.2.2.2.2.1, t.2.2.1), wvx, fun _ r => .l (.exit 0 (wav ({ slots := [5], sh := (yj [.arr 8]), obs := [(8, .arr 3 yi)] }) (((), ()), (r, ()))))⟩
noncomputable def T_zj (a1_ : Y1) (a2_ : List Y1) (a3_ : Y1) : Tr Y1 :=
 .c Y1 (F_zo a1_ a2_ a3_) fun r1_ =>
 .c Y1 (wbav (((length r1_ : Nat) : Int), (a1_, (a2_, r1_))) ((0 : Int), ([] : Y1))) fun r9_ =>
 .l r9_
noncomputable def F_zj (a1_ : Y1) (a2_ : List Y1) (a3_ : Y1) : Option Y1 := (T_zj a1_ a2_ a3_).ev
noncomputable def K_zj : RetK := { acts := [.ren 8 0], res := [.tmp 4], sh := (yj [.arr 0]), obs := [Zav], pins := [] }
noncomputable def D_zj : FD := yd (yj [.agg Zf, .dat y1]) [] [] Y1 (fun x => F_zj x.1.1.1 x.1.1.2.1 x.1.2.1) (fun r => ([.arr 0], [(0, .arr 3 yi r)]))
noncomputable def E_zj : Env := wac [(261, D_zo)]
noncomputable def O_zj : List (Nat × LD) := [(0, waon)]
noncomputable def C_zj : Code := (f237.body).getD .skip
noncomputable def woz (k : Y1 × Int) (v : Int × Int) : Tr (Yg ⊕ (Int)) :=
 .t (decide (v.2 < k.2))
 (.g (inR v.2 (length k.1)) <|
 .l (.inl ((wrap .i64 (v.1 + (getD k.1 (toNat v.2) 0))), (wrap .i64 (v.2 + 1)))))
 (.l (.inr v.1))
noncomputable def waoo (k : Y1 × Int) (v : Int × Int) : Option (Int) := iter (fun v => (woz k v).ev) v
noncomputable def waej : LD := ⟨(yh [3, 6, 7, 8] (yj [.dat yi, .dat y1, .dat yi, .dat yi])), [(0, (yh [3] Zh))], (yh [] .nil), Y1 × (Int), Int × (Int), Int, fun k v => ((v.1, (k.1, (k.2, (v.2, ())))), ()), fun t => (t.1.2.1, t.1.2.2.1), fun t => (t.1.1, t.1.2.2.2.1), woz, fun _ r => .l (.exit 0 (wav ((ys [3] Zh)) ((r, ()), ())))⟩
noncomputable def wbka (a1_ : Y1) : Tr (Int) :=
 .c (Int) (waoo (a1_, ((length a1_ : Nat) : Int)) ((0 : Int), (0 : Int))) fun r6_ =>
 .l r6_
noncomputable def wawx (a1_ : Y1) : Option (Int) := (wbka a1_).ev
noncomputable def wcbw : RetK := yr [.tmp 2] Zh
noncomputable def wbkb : FD := yd (yj [.dat y1]) [] [] Int (fun x => wawx x.1.1) (fun r => ([.dat yi r], []))
noncomputable def wbkc : Env := wac []
noncomputable def wbkd : List (Nat × LD) := [(0, waej)]
noncomputable def wbke : Code := (f236.body).getD .skip
noncomputable def T_zq (a1_ : Y1) (a2_ : List Y1) (a3_ : Y1) : Tr (Int) :=
 .c Y1 (F_zj a1_ a2_ a3_) fun r1_ =>
 .c (Int) (wawx r1_) fun r2_ =>
 .l r2_
noncomputable def F_zq (a1_ : Y1) (a2_ : List Y1) (a3_ : Y1) : Option (Int) := (T_zq a1_ a2_ a3_).ev
noncomputable def K_zq : RetK := yr [.tmp 4] Zh
noncomputable def D_zq : FD := yd (yj [.agg Zf, .dat y1]) [] [] Int (fun x => F_zq x.1.1.1 x.1.1.2.1 x.1.2.1) (fun r => ([.dat yi r], []))
noncomputable def T_zr (a1_ : Y1) (a2_ : List Y1) (a3_ : Y1) : Tr (Int) :=
 .c (Int) (F_zn a1_ a2_ a3_) fun r1_ =>
 .c (Int) (F_zq a1_ a2_ a3_) fun r2_ =>
 .l (wrap .i64 (r1_ + r2_))
noncomputable def wzn (a1_ : Y1) (a2_ : List Y1) (a3_ : Y1) : Option (Int) := (T_zr a1_ a2_ a3_).ev
noncomputable def K_zr : RetK := yr [.tmp 4] Zh
noncomputable def D_zr : FD := yd (yj [.agg Zf, .dat y1]) [] [] Int (fun x => wzn x.1.1.1 x.1.1.2.1 x.1.2.1) (fun r => ([.dat yi r], []))
noncomputable def wpa (k : Y1 × Int) (v : Int × Int) : Tr (Yg ⊕ (Int)) :=
 .t (decide (v.2 < k.2))
 (.g (inR v.2 (length k.1)) <|
 .g (decide ((0 : Int) ≤ (getD k.1 (toNat v.2) 0))) <|
 .l (.inl ((wrap .u64 (BitVec.toNat ((BitVec.ofInt Zb v.1) ||| (BitVec.ofInt Zb (wrap .u64 ((1 : Int) * 2 ^ (min (toNat (getD k.1 (toNat v.2) 0)) Zb))))))), (wrap .i64 (v.2 + 1)))))
 (.l (.inr v.1))
noncomputable def waop (k : Y1 × Int) (v : Int × Int) : Option (Int) := iter (fun v => (wpa k v).ev) v
noncomputable def waek : LD := ⟨(yh [3, 6, 7, 8] (yj [.dat (.int .u64), .dat y1, .dat yi, .dat yi])), [(0, (yh [3] Zar))], (yh [] .nil), Y1 × (Int), Int × (Int), Int, fun k v => ((v.1, (k.1, (k.2, (v.2, ())))), ()), fun t => (t.1.2.1, t.1.2.2.1), fun t => (t.1.1, t.1.2.2.2.1), wpa, fun _ r => .l (.exit 0 (wav ((ys [3] Zar)) ((r, ()), ())))⟩
noncomputable def wbkg (a1_ : Y1) : Tr (Int) :=
 .c (Int) (waop (a1_, ((length a1_ : Nat) : Int)) ((0 : Int), (0 : Int))) fun r6_ =>
 .l r6_
noncomputable def waoq (a1_ : Y1) : Option (Int) := (wbkg a1_).ev
noncomputable def wcca : RetK := yr [.tmp 2] Zar
noncomputable def wawy : FD := yd (yj [.dat y1]) [] [] Int (fun x => waoq x.1.1) (fun r => ([.dat (.int .u64) r], []))
noncomputable def wbkh : Env := wac []
noncomputable def wbki : List (Nat × LD) := [(0, waek)]
noncomputable def wbkj : Code := (f141.body).getD .skip
noncomputable def T_zg (a1_ : Y1) (a2_ : Y1) (a3_ : List Y1) (a4_ : Int) : Tr ((Y1 × Yi) ⊕ (Y1 × Yi)) :=
 .c (Int) (wzn a2_ a3_ a1_) fun r1_ =>
 .t (decide (r1_ < a4_))
 (.g (decide (0 < length a1_)) <|
 .l (.inr (a1_, (a2_, (a3_, a4_)))))
 (.l (.inl (a1_, (a2_, (a3_, a4_)))))
noncomputable def F_zg (a1_ : Y1) (a2_ : Y1) (a3_ : List Y1) (a4_ : Int) : Option ((Y1 × Yi) ⊕ (Y1 × Yi)) := (T_zg a1_ a2_ a3_ a4_).ev
noncomputable def K_zg : RetK := { acts := [], res := [.tmp 5], sh := Zm, obs := [Zaa, (65, .cells Zf), (66, .cells Zh), (67, .cells (yj [.nilsl]))], pins := [(0, 0, 64), (1, 0, 65), (2, 0, 66), (3, 0, 67)] }
noncomputable def wbrh : RetK := { acts := [], res := [.tmp 5], sh := Zm, obs := [Zaa, (65, .cells Zf), (66, .cells Zh), (67, .cells (yj [.arr 64]))], pins := [(0, 0, 64), (1, 0, 65), (2, 0, 66), (3, 0, 67)] }
noncomputable def D_zg : FD := { (yd (yj [.arr 64, .box 65 0, .box 66 0, .box 67 0]) [Zaa, (65, .cells Zf), (66, .cells Zh), (67, .cells (yj [.nilsl]))] [.arg 0, .arg 1, .arg 2, .arg 3] ((Y1 × Yi) ⊕ (Y1 × Yi)) (fun x => F_zg x.2.1 x.2.2.1.1 x.2.2.1.2.1 x.2.2.2.1.1) (fun r => match r with | .inl a => ([.dat .bool true], [(64, .arr 3 yi a.1), (65, .cells [.dat y1 a.2.1, .dat y2 a.2.2.1]), (66, .cells [.dat yi a.2.2.2]), (67, .cells [.nilsl])]) | .inr b => ([.dat .bool false], [(64, .arr 3 yi b.1), (65, .cells [.dat y1 b.2.1, .dat y2 b.2.2.1]), (66, .cells [.dat yi b.2.2.2]), (67, .cells [.arr 64])]))) with
 sp := fun r => .s (Y1 × Yi) (Y1 × Yi) r (fun a => .l ([.dat .bool true], [(64, .arr 3 yi a.1), (65, .cells [.dat y1 a.2.1, .dat y2 a.2.2.1]), (66, .cells [.dat yi a.2.2.2]), (67, .cells [.nilsl])])) (fun b => .l ([.dat .bool false], [(64, .arr 3 yi b.1), (65, .cells [.dat y1 b.2.1, .dat y2 b.2.2.1]), (66, .cells [.dat yi b.2.2.2]), (67, .cells [.arr 64])]))
 spok := fun r => by cases r <;> rfl }
noncomputable def wbkk (a1_ : Y1) (a2_ : Int) (a3_ : Int) : Tr Y1 :=
 .c (Int) (waoq a1_) fun r1_ =>
 .g (decide (0 ≤ a2_)) <|
 .g (decide (0 ≤ a3_)) <|
 .c Y1 (woj (wrap .u64 (BitVec.toNat ((BitVec.ofInt Zb (wrap .u64 (BitVec.toNat ((BitVec.ofInt Zb r1_) &&& ~~~(BitVec.ofInt Zb (wrap .u64 ((1 : Int) * 2 ^ (min (toNat a2_) Zb)))))))) ||| (BitVec.ofInt Zb (wrap .u64 ((1 : Int) * 2 ^ (min (toNat a3_) Zb)))))))) fun r2_ =>
 .l r2_
noncomputable def wawz (a1_ : Y1) (a2_ : Int) (a3_ : Int) : Option Y1 := (wbkk a1_ a2_ a3_).ev
noncomputable def wccd : RetK := { acts := [.ren 960 0], res := [.tmp 6], sh := (yj [.arr 0]), obs := [Zav], pins := [] }
noncomputable def wbkl : FD := yd Zat [] [] Y1 (fun x => wawz x.1.1 x.1.2.1 x.1.2.2.1) (fun r => ([.arr 0], [(0, .arr 3 yi r)]))
noncomputable def wvy (k : Y1 × Yas) (v : Int × Yi) : Tr ((Int × Yi) ⊕ (Yi ⊕ Yx)) :=
 .t (decide (v.1 < k.2.2.2))
 (.c (Bool) (wsg k.2.1 v.1) fun r10_ =>
 .t (!r10_)
 (.g (decide (0 ≤ v.1)) <|
 .c Y1 (woj (wrap .u64 (BitVec.toNat ((BitVec.ofInt Zb k.2.1) ||| (BitVec.ofInt Zb (wrap .u64 ((1 : Int) * 2 ^ (min (toNat v.1) Zb)))))))) fun r11_ =>
 .c ((Y1 × Yi) ⊕ (Y1 × Yi)) (F_zg r11_ v.2.1 v.2.2.1 v.2.2.2) fun r12_ =>
 .s (Y1 × Yi) (Y1 × Yi) r12_
 (fun r13_ => .l (.inl ((wrap .i64 (v.1 + 1)), (r13_.2.1, (r13_.2.2.1, r13_.2.2.2)))))
 (fun r14_ => .l (.inr (.inr (r14_.2.1, (r14_.2.2.1, (r14_.2.2.2, r14_.1)))))))
 (.l (.inl ((wrap .i64 (v.1 + 1)), (v.2.1, (v.2.2.1, v.2.2.2))))))
 (.l (.inr (.inl (v.2.1, (v.2.2.1, v.2.2.2)))))
noncomputable def wbaw (k : Y1 × Yas) (v : Int × Yi) : Option (Yi ⊕ Yx) := iter (fun v => (wvy k v).ev) v
noncomputable def waor : LD := ⟨{ acts := [], S := { slots := [1, 2, 6, 7, 19, 20], sh := (yj [.dat y1, .fn 226 Zl, .dat (.int .u64), .dat yi, .dat yi, .dat yi]), obs := [Zaj, Zak, Zag] } }, [(0, { acts := [], S := { slots := [1, 2, 6, 7], sh := (yj [.dat y1, .fn 226 Zl, .dat (.int .u64), .dat yi]), obs := [Zaj, Zak, Zag] } })], { acts := [], S := { slots := [2], sh := (yj [.fn 226 Zl]), obs := [Zaj, Zak, (66, .cells (yj [.arr 2112])), (2112, .arr 3 yi)] } }, Y1 × Yas, Int × Yi, Yi ⊕ Yx, fun k v => ((k.1, (((), ((), ((), ()))), (k.2.1, (k.2.2.1, (k.2.2.2, (v.1, ())))))), ((v.2.1, (v.2.2.1, ())), ((v.2.2.2, ()), (((), ()), ())))), fun t => (t.1.1, (t.1.2.2.1, (t.1.2.2.2.1, t.1.2.2.2.2.1))), fun t => (t.1.2.2.2.2.2.1, (t.2.1.1, (t.2.1.2.1, t.2.2.1.1))), wvy, fun k r => .s Yi Yx r (fun a => .l (.exit 0 (wav ({ slots := [1, 2, 6, 7], sh := (yj [.dat y1, .fn 226 Zl, .dat (.int .u64), .dat yi]), obs := [Zaj, Zak, Zag] }) ((k.1, (((), ((), ((), ()))), (k.2.1, (k.2.2.1, ())))), ((a.1, (a.2.1, ())), ((a.2.2, ()), (((), ()), ()))))))) (fun b => .l (.ret (wav ({ slots := [2], sh := (yj [.fn 226 Zl]), obs := [Zaj, Zak, (66, .cells (yj [.arr 2112])), (2112, .arr 3 yi)] }) ((((), ((), ((), ()))), ()), ((b.1, (b.2.1, ())), ((b.2.2.1, ()), (((), ()), (b.2.2.2, ()))))))))⟩
noncomputable def wvz (k : Y1 × (Int × Yr)) (v : Int × Yi) : Tr ((Int × Yi) ⊕ (Yi ⊕ Yx)) :=
 .t (decide (v.1 < k.2.2.2.2))
 (.g (inR v.1 (length k.2.2.2.1)) <|
 .t (decide ((1 : Int) < ((length k.1 : Nat) : Int)))
 (.g (decide ((0 : Int) ≤ (getD k.2.2.2.1 (toNat v.1) 0))) <|
 .c Y1 (woj (wrap .u64 (BitVec.toNat ((BitVec.ofInt Zb k.2.1) &&& ~~~(BitVec.ofInt Zb (wrap .u64 ((1 : Int) * 2 ^ (min (toNat (getD k.2.2.2.1 (toNat v.1) 0)) Zb)))))))) fun r37_ =>
 .c ((Y1 × Yi) ⊕ (Y1 × Yi)) (F_zg r37_ v.2.1 v.2.2.1 v.2.2.2) fun r38_ =>
 .s (Y1 × Yi) (Y1 × Yi) r38_
 (fun r39_ => .l (.inl ((wrap .i64 (v.1 + 1)), (r39_.2.1, (r39_.2.2.1, r39_.2.2.2)))))
 (fun r40_ => .l (.inr (.inr (r40_.2.1, (r40_.2.2.1, (r40_.2.2.2, r40_.1)))))))
 (.l (.inl ((wrap .i64 (v.1 + 1)), (v.2.1, (v.2.2.1, v.2.2.2))))))
 (.l (.inr (.inl (v.2.1, (v.2.2.1, v.2.2.2)))))
noncomputable def wbax (k : Y1 × (Int × Yr)) (v : Int × Yi) : Option (Yi ⊕ Yx) := iter (fun v => (wvz k v).ev) v
noncomputable def waos : LD := ⟨{ acts := [], S := { slots := [1, 2, 6, 7, 38, 39, 40], sh := (yj [.dat y1, .fn 226 Zl, .dat (.int .u64), .dat yi, .dat y1, .dat yi, .dat yi]), obs := [Zaj, Zak, Zag] } }, [(2, { acts := [], S := { slots := [1, 2, 6, 7], sh := (yj [.dat y1, .fn 226 Zl, .dat (.int .u64), .dat yi]), obs := [Zaj, Zak, Zag] } })], { acts := [], S := { slots := [2], sh := (yj [.fn 226 Zl]), obs := [Zaj, Zak, (66, .cells (yj [.arr 3392])), (3392, .arr 3 yi)] } }, Y1 × (Int × Yr), Int × Yi, Yi ⊕ Yx, fun k v => ((k.1, (((), ((), ((), ()))), (k.2.1, (k.2.2.1, (k.2.2.2.1, (k.2.2.2.2, (v.1, ()))))))), ((v.2.1, (v.2.2.1, ())), ((v.2.2.2, ()), (((), ()), ())))), fun t => (t.1.1, (t.1.2.2.1, (t.1.2.2.2.1, (t.1.2.2.2.2.1, t.1.2.2.2.2.2.1)))), fun t => (t.1.2.2.2.2.2.2.1, (t.2.1.1, (t.2.1.2.1, t.2.2.1.1))), wvz, fun k r => .s Yi Yx r (fun a => .l (.exit 2 (wav ({ slots := [1, 2, 6, 7], sh := (yj [.dat y1, .fn 226 Zl, .dat (.int .u64), .dat yi]), obs := [Zaj, Zak, Zag] }) ((k.1, (((), ((), ((), ()))), (k.2.1, (k.2.2.1, ())))), ((a.1, (a.2.1, ())), ((a.2.2, ()), (((), ()), ()))))))) (fun b => .l (.ret (wav ({ slots := [2], sh := (yj [.fn 226 Zl]), obs := [Zaj, Zak, (66, .cells (yj [.arr 3392])), (3392, .arr 3 yi)] }) ((((), ((), ((), ()))), ()), ((b.1, (b.2.1, ())), ((b.2.2.1, ()), (((), ()), (b.2.2.2, ()))))))))⟩
noncomputable def wwa (k : Y1 × (Int × (Int × (Int × (Y1 × Yas))))) (v : Int × Yi) : Tr ((Int × Yi) ⊕ (Yi ⊕ Yx)) :=
 .t (decide (v.1 < k.2.2.2.2.2.2.2))
 (.c (Bool) (wsg k.2.1 v.1) fun r75_ =>
 .t (!r75_)
 (.c Y1 (wawz k.1 k.2.2.2.1 v.1) fun r76_ =>
 .c ((Y1 × Yi) ⊕ (Y1 × Yi)) (F_zg r76_ v.2.1 v.2.2.1 v.2.2.2) fun r77_ =>
 .s (Y1 × Yi) (Y1 × Yi) r77_
 (fun r78_ => .l (.inl ((wrap .i64 (v.1 + 1)), (r78_.2.1, (r78_.2.2.1, r78_.2.2.2)))))
 (fun r79_ => .l (.inr (.inr (r79_.2.1, (r79_.2.2.1, (r79_.2.2.2, r79_.1)))))))
 (.l (.inl ((wrap .i64 (v.1 + 1)), (v.2.1, (v.2.2.1, v.2.2.2))))))
 (.l (.inr (.inl (v.2.1, (v.2.2.1, v.2.2.2)))))
noncomputable def wbay (k : Y1 × (Int × (Int × (Int × (Y1 × Yas))))) (v : Int × Yi) : Option (Yi ⊕ Yx) := iter (fun v => (wwa k v).ev) v
noncomputable def waot : LD := ⟨{ acts := [], S := { slots := [1, 2, 6, 7, 12, 58, 59, 60, 64, 65], sh := (yj [.dat y1, .fn 226 Zl, .dat (.int .u64), .dat yi, .dat yi, .dat y1, .dat yi, .dat yi, .dat yi, .dat yi]), obs := [Zaj, Zak, Zag] } }, [(6, { acts := [], S := { slots := [1, 2, 6, 7, 58, 59, 60], sh := (yj [.dat y1, .fn 226 Zl, .dat (.int .u64), .dat yi, .dat y1, .dat yi, .dat yi]), obs := [Zaj, Zak, Zag] } })], { acts := [], S := { slots := [2], sh := (yj [.fn 226 Zl]), obs := [Zaj, Zak, (66, .cells (yj [.arr 4928])), (4928, .arr 3 yi)] } }, Y1 × (Int × (Int × (Int × (Y1 × Yas)))), Int × Yi, Yi ⊕ Yx, fun k v => ((k.1, (((), ((), ((), ()))), (k.2.1, (k.2.2.1, (k.2.2.2.1, (k.2.2.2.2.1, (k.2.2.2.2.2.1, (k.2.2.2.2.2.2.1, (k.2.2.2.2.2.2.2, (v.1, ())))))))))), ((v.2.1, (v.2.2.1, ())), ((v.2.2.2, ()), (((), ()), ())))), fun t => (t.1.1, (t.1.2.2.1, (t.1.2.2.2.1, (t.1.2.2.2.2.1, (t.1.2.2.2.2.2.1, (t.1.2.2.2.2.2.2.1, (t.1.2.2.2.2.2.2.2.1, t.1.2.2.2.2.2.2.2.2.1))))))), fun t => (t.1.2.2.2.2.2.2.2.2.2.1, (t.2.1.1, (t.2.1.2.1, t.2.2.1.1))), wwa, fun k r => .s Yi Yx r (fun a => .l (.exit 6 (wav ({ slots := [1, 2, 6, 7, 58, 59, 60], sh := (yj [.dat y1, .fn 226 Zl, .dat (.int .u64), .dat yi, .dat y1, .dat yi, .dat yi]), obs := [Zaj, Zak, Zag] }) ((k.1, (((), ((), ((), ()))), (k.2.1, (k.2.2.1, (k.2.2.2.2.1, (k.2.2.2.2.2.1, (k.2.2.2.2.2.2.1, ()))))))), ((a.1, (a.2.1, ())), ((a.2.2, ()), (((), ()), ()))))))) (fun b => .l (.ret (wav ({ slots := [2], sh := (yj [.fn 226 Zl]), obs := [Zaj, Zak, (66, .cells (yj [.arr 4928])), (4928, .arr 3 yi)] }) ((((), ((), ((), ()))), ()), ((b.1, (b.2.1, ())), ((b.2.2.1, ()), (((), ()), (b.2.2.2, ()))))))))⟩
noncomputable def wwb (k : Y1 × (Int × Yr)) (v : Int × Yi) : Tr ((Int × Yi) ⊕ (Yi ⊕ Yx)) :=
 .t (decide (v.1 < k.2.2.2.2))
 (.g (inR v.1 (length k.2.2.2.1)) <|
 .c (Yi ⊕ Yx) (wbay (k.1, (k.2.1, (k.2.2.1, ((getD k.2.2.2.1 (toNat v.1) 0), (k.2.2.2.1, (k.2.2.2.2, (v.1, k.2.2.1))))))) ((0 : Int), (v.2.1, (v.2.2.1, v.2.2.2)))) fun r93_ =>
 .s Yi Yx r93_
 (fun r94_ => .l (.inl ((wrap .i64 (v.1 + 1)), (r94_.1, (r94_.2.1, r94_.2.2)))))
 (fun r95_ => .l (.inr (.inr (r95_.1, (r95_.2.1, (r95_.2.2.1, r95_.2.2.2)))))))
 (.l (.inr (.inl (v.2.1, (v.2.2.1, v.2.2.2)))))
noncomputable def wbaz (k : Y1 × (Int × Yr)) (v : Int × Yi) : Option (Yi ⊕ Yx) := iter (fun v => (wwb k v).ev) v
noncomputable def waou : LD := ⟨{ acts := [], S := { slots := [1, 2, 6, 7, 58, 59, 60], sh := (yj [.dat y1, .fn 226 Zl, .dat (.int .u64), .dat yi, .dat y1, .dat yi, .dat yi]), obs := [Zaj, Zak, Zag] } }, [(4, { acts := [], S := { slots := [2], sh := (yj [.fn 226 Zl]), obs := [Zaj, Zak, Zag] } })], { acts := [], S := { slots := [2], sh := (yj [.fn 226 Zl]), obs := [Zaj, Zak, (66, .cells (yj [.arr 4928])), (4928, .arr 3 yi)] } }, Y1 × (Int × Yr), Int × Yi, Yi ⊕ Yx, fun k v => ((k.1, (((), ((), ((), ()))), (k.2.1, (k.2.2.1, (k.2.2.2.1, (k.2.2.2.2, (v.1, ()))))))), ((v.2.1, (v.2.2.1, ())), ((v.2.2.2, ()), (((), ()), ())))), fun t => (t.1.1, (t.1.2.2.1, (t.1.2.2.2.1, (t.1.2.2.2.2.1, t.1.2.2.2.2.2.1)))), fun t => (t.1.2.2.2.2.2.2.1, (t.2.1.1, (t.2.1.2.1, t.2.2.1.1))), wwb, fun _ r => .s Yi Yx r (fun a => .l (.exit 4 (wav ({ slots := [2], sh := (yj [.fn 226 Zl]), obs := [Zaj, Zak, Zag] }) ((((), ((), ((), ()))), ()), ((a.1, (a.2.1, ())), ((a.2.2, ()), (((), ()), ()))))))) (fun b => .l (.ret (wav ({ slots := [2], sh := (yj [.fn 226 Zl]), obs := [Zaj, Zak, (66, .cells (yj [.arr 4928])), (4928, .arr 3 yi)] }) ((((), ((), ((), ()))), ()), ((b.1, (b.2.1, ())), ((b.2.2.1, ()), (((), ()), (b.2.2.2, ()))))))))⟩
noncomputable def T_zk (a1_ : Y1) (_a2_ : List Y1) (a3_ : Y1) (a4_ : Y1) (a5_ : List Y1) (a6_ : Int) : Tr (Yi ⊕ Yx) :=
 .c (Int) (waoq a3_) fun r1_ =>
 .c (Yi ⊕ Yx) (wbaw (a3_, (r1_, (((length a1_ : Nat) : Int), ((length a1_ : Nat) : Int)))) ((0 : Int), (a4_, (a5_, a6_)))) fun r25_ =>
 .s Yi Yx r25_
 (fun r26_ => .c (Yi ⊕ Yx) (wbax (a3_, (r1_, (((length a1_ : Nat) : Int), (a3_, ((length a3_ : Nat) : Int))))) ((0 : Int), (r26_.1, (r26_.2.1, r26_.2.2)))) fun r51_ =>
 .s Yi Yx r51_
 (fun r52_ => .c (Yi ⊕ Yx) (wbaz (a3_, (r1_, (((length a1_ : Nat) : Int), (a3_, ((length a3_ : Nat) : Int))))) ((0 : Int), (r52_.1, (r52_.2.1, r52_.2.2)))) fun r103_ =>
 .s Yi Yx r103_
 (fun r104_ => .l (.inl (r104_.1, (r104_.2.1, r104_.2.2))))
 (fun r105_ => .l (.inr (r105_.1, (r105_.2.1, (r105_.2.2.1, r105_.2.2.2))))))
 (fun r53_ => .l (.inr (r53_.1, (r53_.2.1, (r53_.2.2.1, r53_.2.2.2))))))
 (fun r27_ => .l (.inr (r27_.1, (r27_.2.1, (r27_.2.2.1, r27_.2.2.2)))))
noncomputable def F_zk (a1_ : Y1) (a2_ : List Y1) (a3_ : Y1) (a4_ : Y1) (a5_ : List Y1) (a6_ : Int) : Option (Yi ⊕ Yx) := (T_zk a1_ a2_ a3_ a4_ a5_ a6_).ev
noncomputable def K_zk : RetK := { acts := [], res := [], sh := .nil, obs := [Zaj, Zak, Zag], pins := [(2, 1, 64), (2, 2, 65), (2, 3, 66)] }
noncomputable def wbri : RetK := { acts := [.ren 4928 0, .ren 3392 0, .ren 2112 0], res := [], sh := .nil, obs := [Zaj, Zak, (66, .cells (yj [.arr 0])), Zav], pins := [(2, 1, 64), (2, 2, 65), (2, 3, 66)] }
noncomputable def D_zk : FD := { (yd (yj [.agg Zf, .dat y1, .fn 226 Zl]) [Zaj, Zak, Zag] [.cap 2 0, .cap 2 1, .cap 2 2] (Yi ⊕ Yx) (fun x => F_zk x.1.1.1 x.1.1.2.1 x.1.2.1 x.2.1.1 x.2.1.2.1 x.2.2.1.1) (fun r => match r with | .inl a => ([], [(64, .cells [.dat y1 a.1, .dat y2 a.2.1]), (65, .cells [.dat yi a.2.2]), (66, .cells [.nilsl])]) | .inr b => ([], [(64, .cells [.dat y1 b.1, .dat y2 b.2.1]), (65, .cells [.dat yi b.2.2.1]), (66, .cells [.arr 0]), (0, .arr 3 yi b.2.2.2)]))) with
 sp := fun r => .s Yi Yx r (fun a => .l ([], [(64, .cells [.dat y1 a.1, .dat y2 a.2.1]), (65, .cells [.dat yi a.2.2]), (66, .cells [.nilsl])])) (fun b => .l ([], [(64, .cells [.dat y1 b.1, .dat y2 b.2.1]), (65, .cells [.dat yi b.2.2.1]), (66, .cells [.arr 0]), (0, .arr 3 yi b.2.2.2)]))
 spok := fun r => by cases r <;> rfl }
noncomputable def E_zk : Env := wac [(141, wawy), (143, wamq), (144, wahi), (226, D_zg), (145, wbkl)]
noncomputable def O_zk : List (Nat × LD) := [(0, waor), (2, waos), (6, waot), (4, waou)]
noncomputable def C_zk : Code := (f225.body).getD .skip
noncomputable def T_zf (a1_ : Y1) (a2_ : List Y1) (a3_ : Y1) : Tr Yan :=
 .c (Int) (wzn a1_ a2_ a3_) fun r1_ =>
 .c (Yi ⊕ Yx) (F_zk a1_ a2_ a3_ a1_ a2_ r1_) fun r2_ =>
 .s Yi Yx r2_
 (fun _ => .l (false, ([] : Y1)))
 (fun r4_ => .g (decide (0 < length r4_.2.2.2)) <|
 .l (true, r4_.2.2.2))
noncomputable def F_zf (a1_ : Y1) (a2_ : List Y1) (a3_ : Y1) : Option Yan := (T_zf a1_ a2_ a3_).ev
noncomputable def K_zf : RetK := { acts := [.own 4 0 3 yi, .ren 896 0], res := [.tmp 4, .tmp 5], sh := (yj [.arr 0, .dat .bool]), obs := [Zav], pins := [] }
noncomputable def D_zf : FD := yd (yj [.agg Zf, .dat y1]) [] [] Yan (fun x => F_zf x.1.1.1 x.1.1.2.1 x.1.2.1) (fun r => ([.arr 0, .dat .bool r.1], [(0, .arr 3 yi r.2)]))
noncomputable def T_zw (a1_ : Y1) (a2_ : List Y1) (a3_ : Y1) : Tr Ybb :=
 .c (Bool) (wahm a1_ a2_ a3_) fun r1_ =>
 .t (!r1_)
 (.l (false, false))
 (.c Yan (F_zf a1_ a2_ a3_) fun r2_ =>
 .l ((!r2_.1), true))
noncomputable def F_zw (a1_ : Y1) (a2_ : List Y1) (a3_ : Y1) : Option Ybb := (T_zw a1_ a2_ a3_).ev
noncomputable def K_zw : RetK := yr [.tmp 4, .tmp 5] Zao
noncomputable def D_zw : FD := yd (yj [.agg Zf, .dat y1]) [] [] Ybb (fun x => F_zw x.1.1.1 x.1.1.2.1 x.1.2.1) (fun r => ([.dat .bool r.1, .dat .bool r.2], []))
noncomputable def wbkm (a1_ : Y1) (a2_ : List Y1) (a3_ : Y1) : Tr Ybb :=
 .c (Bool) (wany a1_ a2_ a3_) fun r1_ =>
 .t (!r1_)
 (.l (false, false))
 (.c Yan (wahl a1_ a2_ a3_) fun r2_ =>
 .l ((!r2_.1), true))
noncomputable def waxa (a1_ : Y1) (a2_ : List Y1) (a3_ : Y1) : Option Ybb := (wbkm a1_ a2_ a3_).ev
noncomputable def wccj : RetK := yr [.tmp 4, .tmp 5] Zao
noncomputable def wbkn : FD := yd (yj [.agg Zf, .dat y1]) [] [] Ybb (fun x => waxa x.1.1.1 x.1.1.2.1 x.1.2.1) (fun r => ([.dat .bool r.1, .dat .bool r.2], []))
noncomputable def wbko (a1_ : Y1) : Tr Yap :=
 .c Yk (wawf a1_ (0 : Int) (0 : Int)) fun r1_ =>
 .c (Y1 × (Y1 × Yg)) (wawi r1_.1 r1_.2.1 r1_.2.2.1 r1_.2.2.2.1 r1_.2.2.2.2) fun r2_ =>
 .l (r1_.1, (r1_.2.1, r2_.1))
noncomputable def waxb (a1_ : Y1) : Option Yap := (wbko a1_).ev
noncomputable def wcck : RetK := { acts := [.ren 896 1], res := [.cell 2 27, .tmp 3], sh := (yj [.agg Zf, .arr 1]), obs := [(1, .arr 3 yi)], pins := [] }
noncomputable def wbkp : FD := yd (yj [.dat Zaf]) [] [] Yap (fun x => waxb x.1.1) (fun r => ([.agg [.dat y1 r.1, .dat y2 r.2.1], .arr 1], [(1, .arr 3 yi r.2.2)]))
noncomputable def wccl : Nat → Nat → List Nat := fun r i => match look [(3, [(0, [70000641, 70000643])])] r with
 | some l => (look l i).getD []
 | none => []
noncomputable def wwc (k : Y1 × Y2) (v : Int × Y1) : Tr (Yj ⊕ Yj) :=
 .c Yan (F_zf k.1 k.2 v.2) fun r7_ =>
 .t (!r7_.1)
 (.l (.inr (v.1, v.2)))
 (.l (.inl ((wrap .i64 (v.1 + 1)), r7_.2)))
noncomputable def wwe (k : Y1 × Y2) (v : Int × Y1) : Option Yj := iter (fun v => (wwc k v).ev) v
noncomputable def waov : LD := ⟨{ acts := [.rep 1408 1024], S := { slots := [2, 7, 8], sh := (yj [.box 2 0, .arr 1024, .dat yi]), obs := [(2, .cells Zf), (1024, .arr 3 yi)] } }, [], { acts := [], S := { slots := [4, 5, 6], sh := (yj [.arr 1024, .dat yi, .dat .bool]), obs := [(1024, .arr 3 yi)] } }, Y1 × Y2, Int × Y1, Int × Y1, fun k v => (((), ((), (v.1, ()))), ((k.1, (k.2, ())), (v.2, ()))), fun t => (t.2.1.1, t.2.1.2.1), fun t => (t.1.2.2.1, t.2.2.1), wwc, fun _ r => .l (.ret (wav ({ slots := [4, 5, 6], sh := (yj [.arr 1024, .dat yi, .dat .bool]), obs := [(1024, .arr 3 yi)] }) (((), (r.1, (true, ()))), (r.2, ()))))⟩
noncomputable def T_zy (a1_ : Y1) (a2_ : List Y1) (a3_ : Y1) : Tr (Int × Yan) :=
 .c (Bool) (wahm a1_ a2_ a3_) fun r1_ =>
 .t (!r1_)
 (.l ((0 : Int), (false, ([] : Y1))))
 (.c (List Int) (wahh a3_) fun r2_ =>
 .c Yj (wwe (a1_, a2_) ((0 : Int), r2_)) fun r11_ =>
 .l (r11_.1, (true, r11_.2)))
noncomputable def F_zy (a1_ : Y1) (a2_ : List Y1) (a3_ : Y1) : Option (Int × Yan) := (T_zy a1_ a2_ a3_).ev
noncomputable def K_zy : RetK := { acts := [.own 4 0 3 yi, .ren 1024 0], res := [.tmp 4, .tmp 5, .tmp 6], sh := (yj [.arr 0, .dat yi, .dat .bool]), obs := [Zav], pins := [] }
noncomputable def D_zy : FD := yd (yj [.agg Zf, .dat y1]) [] [] (Int × Yan) (fun x => F_zy x.1.1.1 x.1.1.2.1 x.1.2.1) (fun r => ([.arr 0, .dat yi r.1, .dat .bool r.2.1], [(0, .arr 3 yi r.2.2)]))
noncomputable def E_zy : Env := wac [(99, waoj), (146, wbfy), (171, D_zf)]
noncomputable def O_zy : List (Nat × LD) := [(0, waov)]
noncomputable def C_zy : Code := (f77.body).getD .skip
noncomputable def wpb (k : Y1 × Y1) (v : Int) : Tr ((Int) ⊕ ((Unit) ⊕ (Unit))) :=
 .t (decide (v < ((length k.1 : Nat) : Int)))
 (.g (inR v (length k.1)) <|
 .g (inR v (length k.2)) <|
 .t ((getD k.1 (toNat v) 0) != (getD k.2 (toNat v) 0))
 (.l (.inr (.inr ())))
 (.l (.inl (wrap .i64 (v + 1)))))
 (.l (.inr (.inl ())))
noncomputable def wzo (k : Y1 × Y1) (v : Int) : Option ((Unit) ⊕ (Unit)) := iter (fun v => (wpb k v).ev) v
noncomputable def wael : LD := ⟨(yh [0, 1, 5] (yj [.dat y1, .dat y1, .dat yi])), [(0, (yh [] .nil))], (yh [4] Zm), Y1 × Y1, Int, (Unit) ⊕ (Unit), fun k v => ((k.1, (k.2, (v, ()))), ()), fun t => (t.1.1, t.1.2.1), fun t => t.1.2.2.1, wpb, fun _ r => .s (Unit) (Unit) r (fun _ => .l (.exit 0 (wav ((ys [] .nil)) ((), ())))) (fun _ => .l (.ret (wav ((ys [4] Zm)) ((false, ()), ()))))⟩
noncomputable def wbkq (a1_ : Y1) (a2_ : Y1) : Tr (Bool) :=
 .t (((length a1_ : Nat) : Int) != ((length a2_ : Nat) : Int))
 (.l false)
 (.c ((Unit) ⊕ (Unit)) (wzo (a1_, a2_) (0 : Int)) fun r5_ =>
 .s (Unit) (Unit) r5_
 (fun _ => .l true)
 (fun _ => .l false))
noncomputable def waow (a1_ : Y1) (a2_ : Y1) : Option (Bool) := (wbkq a1_ a2_).ev
noncomputable def wccr : RetK := yr [.tmp 4] Zm
noncomputable def wbkr : FD := yd (yj [.dat y1, .dat y1]) [] [] Bool (fun x => waow x.1.1 x.1.2.1) (fun r => ([.dat .bool r], []))
noncomputable def wbks : Env := wac []
noncomputable def wbkt : List (Nat × LD) := [(0, wael)]
noncomputable def wbku : Code := (f69.body).getD .skip
noncomputable def wwf (k : Y1 × Ybe) (v : Int) : Tr ((Int) ⊕ ((Unit) ⊕ (Unit))) :=
 .t (decide (v < k.2.2.2.2.2.2.2.2.2.2.2.1))
 (.g (inR k.2.2.1 (length k.1)) <|
 .g (inR v (length k.1)) <|
 .g (inR v (length k.2.1)) <|
 .g (inR k.2.2.1 (length k.2.1)) <|
 .t (decide ((wrap .i64 ((wrap .i64 ((getD k.1 (toNat v) 0) + (getD k.2.1 (toNat v) 0))) + (getD k.2.1 (toNat k.2.2.1) 0))) < (getD k.1 (toNat k.2.2.1) 0)))
 (.l (.inr (.inr ())))
 (.l (.inl (wrap .i64 (v + 1)))))
 (.l (.inr (.inl ())))
noncomputable def wbbb (k : Y1 × Ybe) (v : Int) : Option ((Unit) ⊕ (Unit)) := iter (fun v => (wwf k v).ev) v
noncomputable def waox : LD := ⟨{ acts := [], S := { slots := [1, 5, 7, 8, 14, 15, 16, 21, 22, 23, 29, 30, 35, 36], sh := (yj [.box 1 0, .dat y1, .dat y1, .dat yi, .dat y2, .dat yi, .dat yi, .dat y2, .dat yi, .dat yi, .dat yi, .dat yi, .dat yi, .dat yi]), obs := [Zu] } }, [(6, { acts := [], S := { slots := [1, 5, 7, 14, 15, 16, 21, 22, 23, 29, 30], sh := Zaw, obs := [Zu] } })], (yh [2, 3] Zao), Y1 × Ybe, Int, (Unit) ⊕ (Unit), fun k v => (((), (k.1, (k.2.1, (k.2.2.1, (k.2.2.2.1, (k.2.2.2.2.1, (k.2.2.2.2.2.1, (k.2.2.2.2.2.2.1, (k.2.2.2.2.2.2.2.1, (k.2.2.2.2.2.2.2.2.1, (k.2.2.2.2.2.2.2.2.2.1, (k.2.2.2.2.2.2.2.2.2.2.1, (k.2.2.2.2.2.2.2.2.2.2.2.1, (v, ())))))))))))))), ((k.2.2.2.2.2.2.2.2.2.2.2.2.1, (k.2.2.2.2.2.2.2.2.2.2.2.2.2, ())), ())), fun t => (t.1.2.1, (t.1.2.2.1, (t.1.2.2.2.1, (t.1.2.2.2.2.1, (t.1.2.2.2.2.2.1, (t.1.2.2.2.2.2.2.1, (t.1.2.2.2.2.2.2.2.1, (t.1.2.2.2.2.2.2.2.2.1, (t.1.2.2.2.2.2.2.2.2.2.1, (t.1.2.2.2.2.2.2.2.2.2.2.1, (t.1.2.2.2.2.2.2.2.2.2.2.2.1, (t.1.2.2.2.2.2.2.2.2.2.2.2.2.1, (t.2.1.1, t.2.1.2.1))))))))))))), fun t => t.1.2.2.2.2.2.2.2.2.2.2.2.2.2.1, wwf, fun k r => .s (Unit) (Unit) r (fun _ => .l (.exit 6 (wav ({ slots := [1, 5, 7, 14, 15, 16, 21, 22, 23, 29, 30], sh := Zaw, obs := [Zu] }) (((), (k.1, (k.2.1, (k.2.2.2.1, (k.2.2.2.2.1, (k.2.2.2.2.2.1, (k.2.2.2.2.2.2.1, (k.2.2.2.2.2.2.2.1, (k.2.2.2.2.2.2.2.2.1, (k.2.2.2.2.2.2.2.2.2.1, (k.2.2.2.2.2.2.2.2.2.2.1, ()))))))))))), ((k.2.2.2.2.2.2.2.2.2.2.2.2.1, (k.2.2.2.2.2.2.2.2.2.2.2.2.2, ())), ()))))) (fun _ => .l (.ret (wav ((ys [2, 3] Zao)) ((false, (true, ())), ()))))⟩
noncomputable def wwg (k : Y1 × (Y1 × (Y2 × (Int × (Int × (Y2 × (Int × (Int × Yn)))))))) (v : Int) : Tr ((Int) ⊕ ((Unit) ⊕ (Unit))) :=
 .t (decide (v < k.2.2.2.2.2.2.2.2.1))
 (.c ((Unit) ⊕ (Unit)) (wbbb (k.1, (k.2.1, (v, (k.2.2.1, (k.2.2.2.1, (k.2.2.2.2.1, (k.2.2.2.2.2.1, (k.2.2.2.2.2.2.1, (k.2.2.2.2.2.2.2.1, (k.2.2.2.2.2.2.2.2.1, (v, (((length k.2.2.2.2.2.2.2.2.2.1 : Nat) : Int), (k.2.2.2.2.2.2.2.2.2.1, k.2.2.2.2.2.2.2.2.2.2))))))))))))) (0 : Int)) fun r57_ =>
 .s (Unit) (Unit) r57_
 (fun _ => .l (.inl (wrap .i64 (v + 1))))
 (fun _ => .l (.inr (.inr ()))))
 (.l (.inr (.inl ())))
noncomputable def wbbc (k : Y1 × (Y1 × (Y2 × (Int × (Int × (Y2 × (Int × (Int × Yn)))))))) (v : Int) : Option ((Unit) ⊕ (Unit)) := iter (fun v => (wwg k v).ev) v
noncomputable def waoy : LD := ⟨{ acts := [], S := { slots := [1, 5, 7, 14, 15, 16, 21, 22, 23, 29, 30], sh := Zaw, obs := [Zu] } }, [(4, { acts := [], S := { slots := [1, 5, 14, 15, 16, 21, 22, 23], sh := (yj [.box 1 0, .dat y1, .dat y2, .dat yi, .dat yi, .dat y2, .dat yi, .dat yi]), obs := [Zu] } })], (yh [2, 3] Zao), Y1 × (Y1 × (Y2 × (Int × (Int × (Y2 × (Int × (Int × Yn))))))), Int, (Unit) ⊕ (Unit), fun k v => (((), (k.1, (k.2.1, (k.2.2.1, (k.2.2.2.1, (k.2.2.2.2.1, (k.2.2.2.2.2.1, (k.2.2.2.2.2.2.1, (k.2.2.2.2.2.2.2.1, (k.2.2.2.2.2.2.2.2.1, (v, ()))))))))))), ((k.2.2.2.2.2.2.2.2.2.1, (k.2.2.2.2.2.2.2.2.2.2, ())), ())), fun t => (t.1.2.1, (t.1.2.2.1, (t.1.2.2.2.1, (t.1.2.2.2.2.1, (t.1.2.2.2.2.2.1, (t.1.2.2.2.2.2.2.1, (t.1.2.2.2.2.2.2.2.1, (t.1.2.2.2.2.2.2.2.2.1, (t.1.2.2.2.2.2.2.2.2.2.1, (t.2.1.1, t.2.1.2.1)))))))))), fun t => t.1.2.2.2.2.2.2.2.2.2.2.1, wwg, fun k r => .s (Unit) (Unit) r (fun _ => .l (.exit 4 (wav ({ slots := [1, 5, 14, 15, 16, 21, 22, 23], sh := (yj [.box 1 0, .dat y1, .dat y2, .dat yi, .dat yi, .dat y2, .dat yi, .dat yi]), obs := [Zu] }) (((), (k.1, (k.2.2.1, (k.2.2.2.1, (k.2.2.2.2.1, (k.2.2.2.2.2.1, (k.2.2.2.2.2.2.1, (k.2.2.2.2.2.2.2.1, ())))))))), ((k.2.2.2.2.2.2.2.2.2.1, (k.2.2.2.2.2.2.2.2.2.2, ())), ()))))) (fun _ => .l (.ret (wav ((ys [2, 3] Zao)) ((false, (true, ())), ()))))⟩
noncomputable def wwh (k : Y1 × (Y2 × (Int × (Int × (Y2 × Yn))))) (v : Int) : Tr ((Int) ⊕ ((Unit) ⊕ (Unit))) :=
 .t (decide (v < k.2.2.2.2.2.1))
 (.g (inR v (length k.2.2.2.2.1)) <|
 .c ((Unit) ⊕ (Unit)) (wbbc (k.1, ((getD k.2.2.2.2.1 (toNat v) ([] : Y1)), (k.2.1, (k.2.2.1, (k.2.2.2.1, (k.2.2.2.2.1, (k.2.2.2.2.2.1, (v, (((length k.2.2.2.2.2.2.1 : Nat) : Int), (k.2.2.2.2.2.2.1, k.2.2.2.2.2.2.2)))))))))) (0 : Int)) fun r71_ =>
 .s (Unit) (Unit) r71_
 (fun _ => .l (.inl (wrap .i64 (v + 1))))
 (fun _ => .l (.inr (.inr ()))))
 (.l (.inr (.inl ())))
noncomputable def wbbd (k : Y1 × (Y2 × (Int × (Int × (Y2 × Yn))))) (v : Int) : Option ((Unit) ⊕ (Unit)) := iter (fun v => (wwh k v).ev) v
noncomputable def waoz : LD := ⟨{ acts := [], S := { slots := [1, 5, 14, 15, 16, 21, 22, 23], sh := (yj [.box 1 0, .dat y1, .dat y2, .dat yi, .dat yi, .dat y2, .dat yi, .dat yi]), obs := [Zu] } }, [(2, { acts := [], S := { slots := [1, 14, 15, 16], sh := (yj [.box 1 0, .dat y2, .dat yi, .dat yi]), obs := [Zu] } })], (yh [2, 3] Zao), Y1 × (Y2 × (Int × (Int × (Y2 × Yn)))), Int, (Unit) ⊕ (Unit), fun k v => (((), (k.1, (k.2.1, (k.2.2.1, (k.2.2.2.1, (k.2.2.2.2.1, (k.2.2.2.2.2.1, (v, ())))))))), ((k.2.2.2.2.2.2.1, (k.2.2.2.2.2.2.2, ())), ())), fun t => (t.1.2.1, (t.1.2.2.1, (t.1.2.2.2.1, (t.1.2.2.2.2.1, (t.1.2.2.2.2.2.1, (t.1.2.2.2.2.2.2.1, (t.2.1.1, t.2.1.2.1))))))), fun t => t.1.2.2.2.2.2.2.2.1, wwh, fun k r => .s (Unit) (Unit) r (fun _ => .l (.exit 2 (wav ({ slots := [1, 14, 15, 16], sh := (yj [.box 1 0, .dat y2, .dat yi, .dat yi]), obs := [Zu] }) (((), (k.2.1, (k.2.2.1, (k.2.2.2.1, ())))), ((k.2.2.2.2.2.2.1, (k.2.2.2.2.2.2.2, ())), ()))))) (fun _ => .l (.ret (wav ((ys [2, 3] Zao)) ((false, (true, ())), ()))))⟩
noncomputable def wwi (k : Y2 × Yn) (v : Int) : Tr ((Int) ⊕ ((Unit) ⊕ (Unit))) :=
 .t (decide (v < k.2.1))
 (.g (inR v (length k.1)) <|
 .c ((Unit) ⊕ (Unit)) (wbbd ((getD k.1 (toNat v) ([] : Y1)), (k.1, (k.2.1, (v, (k.2.2.2, (((length k.2.2.2 : Nat) : Int), (k.2.2.1, k.2.2.2))))))) (0 : Int)) fun r81_ =>
 .s (Unit) (Unit) r81_
 (fun _ => .l (.inl (wrap .i64 (v + 1))))
 (fun _ => .l (.inr (.inr ()))))
 (.l (.inr (.inl ())))
noncomputable def wbbe (k : Y2 × Yn) (v : Int) : Option ((Unit) ⊕ (Unit)) := iter (fun v => (wwi k v).ev) v
noncomputable def wapa : LD := ⟨{ acts := [], S := { slots := [1, 14, 15, 16], sh := (yj [.box 1 0, .dat y2, .dat yi, .dat yi]), obs := [Zu] } }, [(0, (yh [] .nil))], (yh [2, 3] Zao), Y2 × Yn, Int, (Unit) ⊕ (Unit), fun k v => (((), (k.1, (k.2.1, (v, ())))), ((k.2.2.1, (k.2.2.2, ())), ())), fun t => (t.1.2.1, (t.1.2.2.1, (t.2.1.1, t.2.1.2.1))), fun t => t.1.2.2.2.1, wwi, fun _ r => .s (Unit) (Unit) r (fun _ => .l (.exit 0 (wav ((ys [] .nil)) ((), ())))) (fun _ => .l (.ret (wav ((ys [2, 3] Zao)) ((false, (true, ())), ()))))⟩
noncomputable def T_zx (a1_ : Y1) (a2_ : List Y1) : Tr Ybb :=
 .c (Bool) (F_zu a1_ a2_) fun r1_ =>
 .t (!r1_)
 (.l (false, false))
 (.c ((Unit) ⊕ (Unit)) (wbbe (a2_, (((length a2_ : Nat) : Int), (a1_, a2_))) (0 : Int)) fun r86_ =>
 .s (Unit) (Unit) r86_
 (fun _ => .l (true, true))
 (fun _ => .l (false, true)))
noncomputable def F_zx (a1_ : Y1) (a2_ : List Y1) : Option Ybb := (T_zx a1_ a2_).ev
noncomputable def K_zx : RetK := yr [.tmp 2, .tmp 3] Zao
noncomputable def D_zx : FD := yd (yj [.agg Zf]) [] [] Ybb (fun x => F_zx x.1.1.1 x.1.1.2.1) (fun r => ([.dat .bool r.1, .dat .bool r.2], []))
noncomputable def E_zx : Env := wac [(157, D_zu)]
noncomputable def O_zx : List (Nat × LD) := [(6, waox), (4, waoy), (2, waoz), (0, wapa)]
noncomputable def C_zx : Code := (f79.body).getD .skip
noncomputable def T_zz (a1_ : Y1) (a2_ : List Y1) (a3_ : Y1) : Tr Yae :=
 .c (Bool) (wahm a1_ a2_ a3_) fun r1_ =>
 .t (!r1_)
 (.l ((0 : Int), false))
 (.c (Int) (wzn a1_ a2_ a3_) fun r2_ =>
 .l (r2_, true))
noncomputable def wsm (a1_ : Y1) (a2_ : List Y1) (a3_ : Y1) : Option Yae := (T_zz a1_ a2_ a3_).ev
noncomputable def K_zz : RetK := yr [.tmp 4, .tmp 5] (yj [.dat yi, .dat .bool])
noncomputable def D_zz : FD := yd (yj [.agg Zf, .dat y1]) [] [] Yae (fun x => wsm x.1.1.1 x.1.1.2.1 x.1.2.1) (fun r => ([.dat yi r.1, .dat .bool r.2], []))
noncomputable def waxc (a1_ : Int) : Tr (Int) :=
 .t (decide (4294967296 ≤ a1_))
 (.g (decide ((0 : Int) ≤ (32 : Int))) <|
 .t (decide ((65536 : Int) ≤ (Int.fdiv a1_ (2 ^ (min (toNat 32) Zb)))))
 (.g (decide ((0 : Int) ≤ (16 : Int))) <|
 .t (decide ((256 : Int) ≤ (Int.fdiv (Int.fdiv a1_ (2 ^ (min (toNat 32) Zb))) (2 ^ (min (toNat 16) Zb)))))
 (.g (decide ((0 : Int) ≤ (8 : Int))) <|
 .g (inR (wrap .u8 (Int.fdiv (Int.fdiv (Int.fdiv a1_ (2 ^ (min (toNat 32) Zb))) (2 ^ (min (toNat 16) Zb))) (2 ^ (min (toNat 8) Zb)))) (length Za)) <|
 .l (wrap .i64 ((wrap .i64 ((wrap .i64 ((32 : Int) + 16)) + 8)) + (wrap .i64 ((UInt8.toNat (getD Za (toNat (wrap .u8 (Int.fdiv (Int.fdiv (Int.fdiv a1_ (2 ^ (min (toNat 32) Zb))) (2 ^ (min (toNat 16) Zb))) (2 ^ (min (toNat 8) Zb))))) 0) : Nat) : Int)))))
 (.g (inR (wrap .u8 (Int.fdiv (Int.fdiv a1_ (2 ^ (min (toNat 32) Zb))) (2 ^ (min (toNat 16) Zb)))) (length Za)) <|
 .l (wrap .i64 ((wrap .i64 ((32 : Int) + 16)) + (wrap .i64 ((UInt8.toNat (getD Za (toNat (wrap .u8 (Int.fdiv (Int.fdiv a1_ (2 ^ (min (toNat 32) Zb))) (2 ^ (min (toNat 16) Zb))))) 0) : Nat) : Int))))))
 (.t (decide ((256 : Int) ≤ (Int.fdiv a1_ (2 ^ (min (toNat 32) Zb)))))
 (.g (decide ((0 : Int) ≤ (8 : Int))) <|
 .g (inR (wrap .u8 (Int.fdiv (Int.fdiv a1_ (2 ^ (min (toNat 32) Zb))) (2 ^ (min (toNat 8) Zb)))) (length Za)) <|
 .l (wrap .i64 ((wrap .i64 ((32 : Int) + 8)) + (wrap .i64 ((UInt8.toNat (getD Za (toNat (wrap .u8 (Int.fdiv (Int.fdiv a1_ (2 ^ (min (toNat 32) Zb))) (2 ^ (min (toNat 8) Zb))))) 0) : Nat) : Int)))))
 (.g (inR (wrap .u8 (Int.fdiv a1_ (2 ^ (min (toNat 32) Zb)))) (length Za)) <|
 .l (wrap .i64 ((32 : Int) + (wrap .i64 ((UInt8.toNat (getD Za (toNat (wrap .u8 (Int.fdiv a1_ (2 ^ (min (toNat 32) Zb))))) 0) : Nat) : Int)))))))
 (.t (decide (65536 ≤ a1_))
 (.g (decide ((0 : Int) ≤ (16 : Int))) <|
 .t (decide ((256 : Int) ≤ (Int.fdiv a1_ (2 ^ (min (toNat 16) Zb)))))
 (.g (decide ((0 : Int) ≤ (8 : Int))) <|
 .g (inR (wrap .u8 (Int.fdiv (Int.fdiv a1_ (2 ^ (min (toNat 16) Zb))) (2 ^ (min (toNat 8) Zb)))) (length Za)) <|
 .l (wrap .i64 ((wrap .i64 ((wrap .i64 ((0 : Int) + 16)) + 8)) + (wrap .i64 ((UInt8.toNat (getD Za (toNat (wrap .u8 (Int.fdiv (Int.fdiv a1_ (2 ^ (min (toNat 16) Zb))) (2 ^ (min (toNat 8) Zb))))) 0) : Nat) : Int)))))
 (.g (inR (wrap .u8 (Int.fdiv a1_ (2 ^ (min (toNat 16) Zb)))) (length Za)) <|
 .l (wrap .i64 ((wrap .i64 ((0 : Int) + 16)) + (wrap .i64 ((UInt8.toNat (getD Za (toNat (wrap .u8 (Int.fdiv a1_ (2 ^ (min (toNat 16) Zb))))) 0) : Nat) : Int))))))
 (.t (decide (256 ≤ a1_))
 (.g (decide ((0 : Int) ≤ (8 : Int))) <|
 .g (inR (wrap .u8 (Int.fdiv a1_ (2 ^ (min (toNat 8) Zb)))) (length Za)) <|
 .l (wrap .i64 ((wrap .i64 ((0 : Int) + 8)) + (wrap .i64 ((UInt8.toNat (getD Za (toNat (wrap .u8 (Int.fdiv a1_ (2 ^ (min (toNat 8) Zb))))) 0) : Nat) : Int)))))
 (.g (inR (wrap .u8 a1_) (length Za)) <|
 .l (wrap .i64 ((0 : Int) + (wrap .i64 ((UInt8.toNat (getD Za (toNat (wrap .u8 a1_)) 0) : Nat) : Int)))))))
noncomputable def waxd (a1_ : Int) : Option (Int) := (waxc a1_).ev
noncomputable def wccw : RetK := yr [.tmp 2] Zh
noncomputable def wbkv : FD := yd Zar [] [] Int (fun x => waxd x.1.1) (fun r => ([.dat yi r], []))
noncomputable def waxe (a1_ : Int) : Tr (Int) :=
 .c (Int) (waxd a1_) fun r1_ =>
 .l r1_
noncomputable def wapb (a1_ : Int) : Option (Int) := (waxe a1_).ev
noncomputable def wccx : RetK := yr [.tmp 2] Zh
noncomputable def waxf : FD := yd Zar [] [] Int (fun x => wapb x.1.1) (fun r => ([.dat yi r], []))
noncomputable def wsn (k : Int × (Int × ((Yd) × Int))) (v : Int × Yc) : Tr (Yz ⊕ Yc) :=
 .t (decide (k.1 < v.1))
 (.g (inR v.1 (length v.2.1)) <|
 .g (decide ((toNat v.1) < length v.2.1) && decide ((getD v.2.1 (toNat v.1) 0) < length v.2.2)) <|
 .g (inR (wrap .i64 (v.1 - 1)) (length v.2.1)) <|
 .g (decide ((toNat (wrap .i64 (v.1 - 1))) < length v.2.1) && decide ((getD v.2.1 (toNat (wrap .i64 (v.1 - 1))) 0) < length v.2.2)) <|
 .c (Int) (k.2.2.1 ((getD v.2.2 (getD v.2.1 (toNat v.1) 0) ([] : Y1)), ((getD v.2.2 (getD v.2.1 (toNat (wrap .i64 (v.1 - 1))) 0) ([] : Y1)), ()))) fun r12_ =>
 .t (decide (r12_ < 0))
 (.g (inR (wrap .i64 (v.1 - 1)) (length v.2.1)) <|
 .g (decide ((toNat (wrap .i64 (v.1 - 1))) < length v.2.1) && decide ((getD v.2.1 (toNat (wrap .i64 (v.1 - 1))) 0) < length v.2.2)) <|
 .g (inR v.1 (length v.2.1)) <|
 .g (decide ((toNat v.1) < length v.2.1) && decide ((getD v.2.1 (toNat v.1) 0) < length v.2.2)) <|
 .g (inR v.1 (length v.2.1)) <|
 .g (decide ((toNat v.1) < length v.2.1)) <|
 .g (inR (wrap .i64 (v.1 - 1)) (length (set v.2.1 (toNat v.1) (getD v.2.1 (toNat (wrap .i64 (v.1 - 1))) 0)))) <|
 .g (decide ((toNat (wrap .i64 (v.1 - 1))) < length (set v.2.1 (toNat v.1) (getD v.2.1 (toNat (wrap .i64 (v.1 - 1))) 0)))) <|
 .l (.inl ((wrap .i64 (v.1 - 1)), ((set (set v.2.1 (toNat v.1) (getD v.2.1 (toNat (wrap .i64 (v.1 - 1))) 0)) (toNat (wrap .i64 (v.1 - 1))) (getD v.2.1 (toNat v.1) 0)), v.2.2))))
 (.l (.inr v.2)))
 (.l (.inr v.2))
noncomputable def wzp (k : Int × (Int × ((Yd) × Int))) (v : Int × Yc) : Option Yc := iter (fun v => (wsn k v).ev) v
noncomputable def waem : LD := ⟨{ acts := [], S := { slots := [0, 1, 2, 3, 8, 9], sh := (yj [.arr 64, .dat yi, .dat yi, .clo [y1, y1] yi, .dat yi, .dat yi]), obs := [Zp] } }, [(2, { acts := [], S := { slots := [0, 1, 2, 3, 8], sh := (yj [.arr 64, .dat yi, .dat yi, .clo [y1, y1] yi, .dat yi]), obs := [Zp] } })], (yh [] .nil), Int × (Int × ((Yd) × Int)), Int × Yc, (List Nat) × Y2, fun k v => (((), (k.1, (k.2.1, (k.2.2.1, (k.2.2.2, (v.1, ())))))), (v.2, ())), fun t => (t.1.2.1, (t.1.2.2.1, (t.1.2.2.2.1, t.1.2.2.2.2.1))), fun t => (t.1.2.2.2.2.2.1, t.2.1), wsn, fun k r => .l (.exit 2 (wav ({ slots := [0, 1, 2, 3, 8], sh := (yj [.arr 64, .dat yi, .dat yi, .clo [y1, y1] yi, .dat yi]), obs := [Zp] }) (((), (k.1, (k.2.1, (k.2.2.1, (k.2.2.2, ()))))), (r, ()))))⟩
noncomputable def wso (k : Int × (Int × (Yd))) (v : Int × Yc) : Tr (Yz ⊕ Yc) :=
 .t (decide (v.1 < k.2.1))
 (.c Yc (wzp (k.1, (k.2.1, (k.2.2, v.1))) (v.1, v.2)) fun r18_ =>
 .l (.inl ((wrap .i64 (v.1 + 1)), r18_)))
 (.l (.inr v.2))
noncomputable def wzq (k : Int × (Int × (Yd))) (v : Int × Yc) : Option Yc := iter (fun v => (wso k v).ev) v
noncomputable def waen : LD := ⟨{ acts := [], S := { slots := [0, 1, 2, 3, 8], sh := (yj [.arr 64, .dat yi, .dat yi, .clo [y1, y1] yi, .dat yi]), obs := [Zp] } }, [(0, { acts := [], S := { slots := [0], sh := (yj [.arr 64]), obs := [Zp] } })], (yh [] .nil), Int × (Int × (Yd)), Int × Yc, (List Nat) × Y2, fun k v => (((), (k.1, (k.2.1, (k.2.2, (v.1, ()))))), (v.2, ())), fun t => (t.1.2.1, (t.1.2.2.1, t.1.2.2.2.1)), fun t => (t.1.2.2.2.2.1, t.2.1), wso, fun _ r => .l (.exit 0 (wav ({ slots := [0], sh := (yj [.arr 64]), obs := [Zp] }) (((), ()), (r, ()))))⟩
noncomputable def waxg (a2_ : Int) (a3_ : Int) (a4_ : Yd) (a1_ : (List Nat) × Y2) : Tr Yc :=
 .c Yc (wzq (a2_, (a3_, a4_)) ((wrap .i64 (a2_ + 1)), a1_)) fun r20_ =>
 .l r20_
noncomputable def waxh (a2_ : Int) (a3_ : Int) (a4_ : Yd) (a1_ : (List Nat) × Y2) : Option Yc := (waxg a2_ a3_ a4_ a1_).ev
noncomputable def wccy : RetK := { acts := [], res := [], sh := .nil, obs := [Zp], pins := [(0, 0, 64)] }
noncomputable def wbkw : FD := yd (yj [.arr 64, .dat yi, .dat yi, .clo [y1, y1] yi]) [Zp] [.arg 0] Yc (fun x => waxh x.1.2.1 x.1.2.2.1 x.1.2.2.2.1 x.2.1) (fun r => ([], [(64, .perm false 24 3 yi r.1 r.2)]))
noncomputable def waxi : Env := wac []
noncomputable def waxj : List (Nat × LD) := [(2, waem), (0, waen)]
noncomputable def waxk : Code := (f251.body).getD .skip
noncomputable def waxl (a1_ : Int) : Tr (Int) :=
 .c (Int) (wapb (wrap .u64 a1_)) fun r1_ =>
 .g (decide (0 ≤ r1_)) <|
 .l (wrap .u64 ((1 : Int) * 2 ^ (min (toNat r1_) Zb)))
noncomputable def waxm (a1_ : Int) : Option (Int) := (waxl a1_).ev
noncomputable def wccz : RetK := yr [.tmp 2] Zar
noncomputable def wbkx : FD := yd Zh [] [] Int (fun x => waxm x.1.1) (fun r => ([.dat (.int .u64) r], []))
noncomputable def waxn (a1_ : Int) : Tr Yg :=
 .g (decide ((0 : Int) ≤ (13 : Int))) <|
 .g (decide ((0 : Int) ≤ (7 : Int))) <|
 .g (decide ((0 : Int) ≤ (17 : Int))) <|
 .l ((wrap .u64 (BitVec.toNat ((BitVec.ofInt Zb (wrap .u64 (BitVec.toNat ((BitVec.ofInt Zb (wrap .u64 (BitVec.toNat ((BitVec.ofInt Zb a1_) ^^^ (BitVec.ofInt Zb (wrap .u64 (a1_ * 2 ^ (min (toNat 13) Zb)))))))) ^^^ (BitVec.ofInt Zb (Int.fdiv (wrap .u64 (BitVec.toNat ((BitVec.ofInt Zb a1_) ^^^ (BitVec.ofInt Zb (wrap .u64 (a1_ * 2 ^ (min (toNat 13) Zb))))))) (2 ^ (min (toNat 7) Zb)))))))) ^^^ (BitVec.ofInt Zb (wrap .u64 ((wrap .u64 (BitVec.toNat ((BitVec.ofInt Zb (wrap .u64 (BitVec.toNat ((BitVec.ofInt Zb a1_) ^^^ (BitVec.ofInt Zb (wrap .u64 (a1_ * 2 ^ (min (toNat 13) Zb)))))))) ^^^ (BitVec.ofInt Zb (Int.fdiv (wrap .u64 (BitVec.toNat ((BitVec.ofInt Zb a1_) ^^^ (BitVec.ofInt Zb (wrap .u64 (a1_ * 2 ^ (min (toNat 13) Zb))))))) (2 ^ (min (toNat 7) Zb))))))) * 2 ^ (min (toNat 17) Zb))))))), (wrap .u64 (BitVec.toNat ((BitVec.ofInt Zb (wrap .u64 (BitVec.toNat ((BitVec.ofInt Zb (wrap .u64 (BitVec.toNat ((BitVec.ofInt Zb a1_) ^^^ (BitVec.ofInt Zb (wrap .u64 (a1_ * 2 ^ (min (toNat 13) Zb)))))))) ^^^ (BitVec.ofInt Zb (Int.fdiv (wrap .u64 (BitVec.toNat ((BitVec.ofInt Zb a1_) ^^^ (BitVec.ofInt Zb (wrap .u64 (a1_ * 2 ^ (min (toNat 13) Zb))))))) (2 ^ (min (toNat 7) Zb)))))))) ^^^ (BitVec.ofInt Zb (wrap .u64 ((wrap .u64 (BitVec.toNat ((BitVec.ofInt Zb (wrap .u64 (BitVec.toNat ((BitVec.ofInt Zb a1_) ^^^ (BitVec.ofInt Zb (wrap .u64 (a1_ * 2 ^ (min (toNat 13) Zb)))))))) ^^^ (BitVec.ofInt Zb (Int.fdiv (wrap .u64 (BitVec.toNat ((BitVec.ofInt Zb a1_) ^^^ (BitVec.ofInt Zb (wrap .u64 (a1_ * 2 ^ (min (toNat 13) Zb))))))) (2 ^ (min (toNat 7) Zb))))))) * 2 ^ (min (toNat 17) Zb))))))))
noncomputable def waxo (a1_ : Int) : Option Yg := (waxn a1_).ev
noncomputable def wcda : RetK := { acts := [], res := [.tmp 2], sh := Zar, obs := [(64, .cells Zar)], pins := [(0, 0, 64)] }
noncomputable def wbky : FD := yd (yj [.box 64 0]) [(64, .cells Zar)] [.arg 0] (Int × (Int)) (fun x => waxo x.2.1.1) (fun r => ([.dat (.int .u64) r.1], [(64, .cells [.dat (.int .u64) r.2])]))
noncomputable def wsp (k : Int × Yg) (v : Int × (Yc × Int)) : Tr ((Int × (Yc × Int)) ⊕ Yc) :=
 .g (!decide ((4 : Int) = 0)) <|
 .t (decide (v.1 ≤ (wrap .i64 ((wrap .i64 (k.1 + (wrap .i64 ((wrap .i64 (Int.tdiv k.2.1 (4 : Int))) * (2 : Int))))) + 1))))
 (.c Yg (waxo v.2.2) fun r8_ =>
 .t (decide (k.2.1 ≤ (wrap .i64 (wrap .u64 (BitVec.toNat ((BitVec.ofInt Zb r8_.1) &&& (BitVec.ofInt Zb (wrap .u64 (k.2.2 - 1)))))))))
 (.g (inR (wrap .i64 (k.1 + (wrap .i64 ((wrap .i64 (wrap .u64 (BitVec.toNat ((BitVec.ofInt Zb r8_.1) &&& (BitVec.ofInt Zb (wrap .u64 (k.2.2 - 1))))))) - k.2.1)))) (length v.2.1.1)) <|
 .g (decide ((toNat (wrap .i64 (k.1 + (wrap .i64 ((wrap .i64 (wrap .u64 (BitVec.toNat ((BitVec.ofInt Zb r8_.1) &&& (BitVec.ofInt Zb (wrap .u64 (k.2.2 - 1))))))) - k.2.1))))) < length v.2.1.1) && decide ((getD v.2.1.1 (toNat (wrap .i64 (k.1 + (wrap .i64 ((wrap .i64 (wrap .u64 (BitVec.toNat ((BitVec.ofInt Zb r8_.1) &&& (BitVec.ofInt Zb (wrap .u64 (k.2.2 - 1))))))) - k.2.1))))) 0) < length v.2.1.2)) <|
 .g (inR v.1 (length v.2.1.1)) <|
 .g (decide ((toNat v.1) < length v.2.1.1) && decide ((getD v.2.1.1 (toNat v.1) 0) < length v.2.1.2)) <|
 .g (inR v.1 (length v.2.1.1)) <|
 .g (decide ((toNat v.1) < length v.2.1.1)) <|
 .g (inR (wrap .i64 (k.1 + (wrap .i64 ((wrap .i64 (wrap .u64 (BitVec.toNat ((BitVec.ofInt Zb r8_.1) &&& (BitVec.ofInt Zb (wrap .u64 (k.2.2 - 1))))))) - k.2.1)))) (length (set v.2.1.1 (toNat v.1) (getD v.2.1.1 (toNat (wrap .i64 (k.1 + (wrap .i64 ((wrap .i64 (wrap .u64 (BitVec.toNat ((BitVec.ofInt Zb r8_.1) &&& (BitVec.ofInt Zb (wrap .u64 (k.2.2 - 1))))))) - k.2.1))))) 0)))) <|
 .g (decide ((toNat (wrap .i64 (k.1 + (wrap .i64 ((wrap .i64 (wrap .u64 (BitVec.toNat ((BitVec.ofInt Zb r8_.1) &&& (BitVec.ofInt Zb (wrap .u64 (k.2.2 - 1))))))) - k.2.1))))) < length (set v.2.1.1 (toNat v.1) (getD v.2.1.1 (toNat (wrap .i64 (k.1 + (wrap .i64 ((wrap .i64 (wrap .u64 (BitVec.toNat ((BitVec.ofInt Zb r8_.1) &&& (BitVec.ofInt Zb (wrap .u64 (k.2.2 - 1))))))) - k.2.1))))) 0)))) <|
 .l (.inl ((wrap .i64 (v.1 + 1)), (((set (set v.2.1.1 (toNat v.1) (getD v.2.1.1 (toNat (wrap .i64 (k.1 + (wrap .i64 ((wrap .i64 (wrap .u64 (BitVec.toNat ((BitVec.ofInt Zb r8_.1) &&& (BitVec.ofInt Zb (wrap .u64 (k.2.2 - 1))))))) - k.2.1))))) 0)) (toNat (wrap .i64 (k.1 + (wrap .i64 ((wrap .i64 (wrap .u64 (BitVec.toNat ((BitVec.ofInt Zb r8_.1) &&& (BitVec.ofInt Zb (wrap .u64 (k.2.2 - 1))))))) - k.2.1))))) (getD v.2.1.1 (toNat v.1) 0)), v.2.1.2), r8_.2))))
 (.g (inR (wrap .i64 (k.1 + (wrap .i64 (wrap .u64 (BitVec.toNat ((BitVec.ofInt Zb r8_.1) &&& (BitVec.ofInt Zb (wrap .u64 (k.2.2 - 1))))))))) (length v.2.1.1)) <|
 .g (decide ((toNat (wrap .i64 (k.1 + (wrap .i64 (wrap .u64 (BitVec.toNat ((BitVec.ofInt Zb r8_.1) &&& (BitVec.ofInt Zb (wrap .u64 (k.2.2 - 1)))))))))) < length v.2.1.1) && decide ((getD v.2.1.1 (toNat (wrap .i64 (k.1 + (wrap .i64 (wrap .u64 (BitVec.toNat ((BitVec.ofInt Zb r8_.1) &&& (BitVec.ofInt Zb (wrap .u64 (k.2.2 - 1)))))))))) 0) < length v.2.1.2)) <|
 .g (inR v.1 (length v.2.1.1)) <|
 .g (decide ((toNat v.1) < length v.2.1.1) && decide ((getD v.2.1.1 (toNat v.1) 0) < length v.2.1.2)) <|
 .g (inR v.1 (length v.2.1.1)) <|
 .g (decide ((toNat v.1) < length v.2.1.1)) <|
 .g (inR (wrap .i64 (k.1 + (wrap .i64 (wrap .u64 (BitVec.toNat ((BitVec.ofInt Zb r8_.1) &&& (BitVec.ofInt Zb (wrap .u64 (k.2.2 - 1))))))))) (length (set v.2.1.1 (toNat v.1) (getD v.2.1.1 (toNat (wrap .i64 (k.1 + (wrap .i64 (wrap .u64 (BitVec.toNat ((BitVec.ofInt Zb r8_.1) &&& (BitVec.ofInt Zb (wrap .u64 (k.2.2 - 1)))))))))) 0)))) <|
 .g (decide ((toNat (wrap .i64 (k.1 + (wrap .i64 (wrap .u64 (BitVec.toNat ((BitVec.ofInt Zb r8_.1) &&& (BitVec.ofInt Zb (wrap .u64 (k.2.2 - 1)))))))))) < length (set v.2.1.1 (toNat v.1) (getD v.2.1.1 (toNat (wrap .i64 (k.1 + (wrap .i64 (wrap .u64 (BitVec.toNat ((BitVec.ofInt Zb r8_.1) &&& (BitVec.ofInt Zb (wrap .u64 (k.2.2 - 1)))))))))) 0)))) <|
 .l (.inl ((wrap .i64 (v.1 + 1)), (((set (set v.2.1.1 (toNat v.1) (getD v.2.1.1 (toNat (wrap .i64 (k.1 + (wrap .i64 (wrap .u64 (BitVec.toNat ((BitVec.ofInt Zb r8_.1) &&& (BitVec.ofInt Zb (wrap .u64 (k.2.2 - 1)))))))))) 0)) (toNat (wrap .i64 (k.1 + (wrap .i64 (wrap .u64 (BitVec.toNat ((BitVec.ofInt Zb r8_.1) &&& (BitVec.ofInt Zb (wrap .u64 (k.2.2 - 1)))))))))) (getD v.2.1.1 (toNat v.1) 0)), v.2.1.2), r8_.2)))))
 (.l (.inr v.2.1))
noncomputable def wzr (k : Int × Yg) (v : Int × (Yc × Int)) : Option Yc := iter (fun v => (wsp k v).ev) v
noncomputable def waeo : LD := ⟨{ acts := [], S := { slots := [0, 1, 8, 9, 10, 11], sh := (yj [.arr 64, .dat yi, .dat yi, .box 9 0, .dat (.int .u64), .dat yi]), obs := [Zp, (9, .cells Zar)] } }, [(0, { acts := [], S := { slots := [0], sh := (yj [.arr 64]), obs := [Zp] } })], (yh [] .nil), Int × Yg, Int × (Yc × Int), (List Nat) × Y2, fun k v => (((), (k.1, (k.2.1, ((), (k.2.2, (v.1, ())))))), (v.2.1, ((v.2.2, ()), ()))), fun t => (t.1.2.1, (t.1.2.2.1, t.1.2.2.2.2.1)), fun t => (t.1.2.2.2.2.2.1, (t.2.1, t.2.2.1.1)), wsp, fun _ r => .l (.exit 0 (wav ({ slots := [0], sh := (yj [.arr 64]), obs := [Zp] }) (((), ()), (r, ()))))⟩
noncomputable def waxp (a2_ : Int) (a3_ : Int) (_a4_ : Yd) (a1_ : (List Nat) × Y2) : Tr Yc :=
 .t (decide ((8 : Int) ≤ (wrap .i64 (a3_ - a2_))))
 (.c (Int) (waxm (wrap .i64 (a3_ - a2_))) fun r1_ =>
 .g (!decide ((4 : Int) = 0)) <|
 .c Yc (wzr (a2_, ((wrap .i64 (a3_ - a2_)), r1_)) ((wrap .i64 ((wrap .i64 (a2_ + (wrap .i64 ((wrap .i64 (Int.tdiv (wrap .i64 (a3_ - a2_)) (4 : Int))) * (2 : Int))))) - 1)), (a1_, (wrap .u64 (wrap .i64 (a3_ - a2_)))))) fun r10_ =>
 .l r10_)
 (.l a1_)
noncomputable def waxq (a2_ : Int) (a3_ : Int) (a4_ : Yd) (a1_ : (List Nat) × Y2) : Option Yc := (waxp a2_ a3_ a4_ a1_).ev
noncomputable def wcdb : RetK := { acts := [], res := [], sh := .nil, obs := [Zp], pins := [(0, 0, 64)] }
noncomputable def wbkz : FD := yd (yj [.arr 64, .dat yi, .dat yi, .clo [y1, y1] yi]) [Zp] [.arg 0] Yc (fun x => waxq x.1.2.1 x.1.2.2.1 x.1.2.2.2.1 x.2.1) (fun r => ([], [(64, .perm false 24 3 yi r.1 r.2)]))
noncomputable def wbla : Env := wac [(270, wbkx), (271, wbky)]
noncomputable def wblb : List (Nat × LD) := [(0, waeo)]
noncomputable def wblc : Code := (f253.body).getD .skip
noncomputable def waxr (a1_ : List Y1) (a2_ : Int) (a3_ : Int) (a5_ : Yd) (a4_ : Int) : Tr Yas :=
 .g (inR a3_ (length a1_)) <|
 .g (inR a2_ (length a1_)) <|
 .c (Int) (a5_ ((getD a1_ (toNat a3_) ([] : Y1)), ((getD a1_ (toNat a2_) ([] : Y1)), ()))) fun r1_ =>
 .t (decide (r1_ < 0))
 (.l (a3_, (a2_, (wrap .i64 (a4_ + 1)))))
 (.l (a2_, (a3_, a4_)))
noncomputable def wahn (a1_ : List Y1) (a2_ : Int) (a3_ : Int) (a5_ : Yd) (a4_ : Int) : Option Yas := (waxr a1_ a2_ a3_ a5_ a4_).ev
noncomputable def wcdc : RetK := { acts := [], res := [.tmp 10, .tmp 11], sh := (yj [.dat yi, .dat yi]), obs := [(64, .cells Zh)], pins := [(3, 0, 64)] }
noncomputable def wbld : FD := yd (yj [.dat y2, .dat yi, .dat yi, .box 64 0, .clo [y1, y1] yi]) [(64, .cells Zh)] [.arg 3] Yas (fun x => wahn x.1.1 x.1.2.1 x.1.2.2.1 x.1.2.2.2.2.1 x.2.1.1) (fun r => ([.dat yi r.1, .dat yi r.2.1], [(64, .cells [.dat yi r.2.2])]))
noncomputable def waxs (a1_ : List Y1) (a2_ : Int) (a3_ : Int) (a4_ : Int) (a6_ : Yd) (a5_ : Int) : Tr Yg :=
 .c Yas (wahn a1_ a2_ a3_ a6_ a5_) fun r1_ =>
 .c Yas (wahn a1_ r1_.2.1 a4_ a6_ r1_.2.2) fun r2_ =>
 .c Yas (wahn a1_ r1_.1 r2_.1 a6_ r2_.2.2) fun r3_ =>
 .l (r3_.2.1, r3_.2.2)
noncomputable def waho (a1_ : List Y1) (a2_ : Int) (a3_ : Int) (a4_ : Int) (a6_ : Yd) (a5_ : Int) : Option Yg := (waxs a1_ a2_ a3_ a4_ a6_ a5_).ev
noncomputable def wcdd : RetK := { acts := [], res := [.tmp 12], sh := Zh, obs := [(64, .cells Zh)], pins := [(4, 0, 64)] }
noncomputable def waxt : FD := yd (yj [.dat y2, .dat yi, .dat yi, .dat yi, .box 64 0, .clo [y1, y1] yi]) [(64, .cells Zh)] [.arg 4] (Int × (Int)) (fun x => waho x.1.1 x.1.2.1 x.1.2.2.1 x.1.2.2.2.1 x.1.2.2.2.2.2.1 x.2.1.1) (fun r => ([.dat yi r.1], [(64, .cells [.dat yi r.2])]))
noncomputable def waxu (a1_ : List Y1) (a2_ : Int) (a4_ : Yd) (a3_ : Int) : Tr Yg :=
 .c Yg (waho a1_ (wrap .i64 (a2_ - 1)) a2_ (wrap .i64 (a2_ + 1)) a4_ a3_) fun r1_ =>
 .l (r1_.1, r1_.2)
noncomputable def wahp (a1_ : List Y1) (a2_ : Int) (a4_ : Yd) (a3_ : Int) : Option Yg := (waxu a1_ a2_ a4_ a3_).ev
noncomputable def wcde : RetK := { acts := [], res := [.tmp 8], sh := Zh, obs := [(64, .cells Zh)], pins := [(2, 0, 64)] }
noncomputable def wble : FD := yd (yj [.dat y2, .dat yi, .box 64 0, .clo [y1, y1] yi]) [(64, .cells Zh)] [.arg 2] (Int × (Int)) (fun x => wahp x.1.1 x.1.2.1 x.1.2.2.2.1 x.2.1.1) (fun r => ([.dat yi r.1], [(64, .cells [.dat yi r.2])]))
noncomputable def waxv (a1_ : List Y1) (a2_ : Int) (a3_ : Int) (a4_ : Yd) : Tr Yg :=
 .g (!decide ((4 : Int) = 0)) <|
 .g (!decide ((4 : Int) = 0)) <|
 .g (!decide ((4 : Int) = 0)) <|
 .t (decide ((8 : Int) ≤ (wrap .i64 (a3_ - a2_))))
 (.t (decide ((50 : Int) ≤ (wrap .i64 (a3_ - a2_))))
 (.c Yg (wahp a1_ (wrap .i64 (a2_ + (wrap .i64 ((wrap .i64 (Int.tdiv (wrap .i64 (a3_ - a2_)) (4 : Int))) * (1 : Int))))) a4_ (0 : Int)) fun r1_ =>
 .c Yg (wahp a1_ (wrap .i64 (a2_ + (wrap .i64 ((wrap .i64 (Int.tdiv (wrap .i64 (a3_ - a2_)) (4 : Int))) * (2 : Int))))) a4_ r1_.2) fun r2_ =>
 .c Yg (wahp a1_ (wrap .i64 (a2_ + (wrap .i64 ((wrap .i64 (Int.tdiv (wrap .i64 (a3_ - a2_)) (4 : Int))) * (3 : Int))))) a4_ r2_.2) fun r3_ =>
 .c Yg (waho a1_ r1_.1 r2_.1 r3_.1 a4_ r3_.2) fun r4_ =>
 .t (r4_.2 == 0)
 (.l (r4_.1, (1 : Int)))
 (.t (r4_.2 == 12)
 (.l (r4_.1, (2 : Int)))
 (.l (r4_.1, (0 : Int)))))
 (.c Yg (waho a1_ (wrap .i64 (a2_ + (wrap .i64 ((wrap .i64 (Int.tdiv (wrap .i64 (a3_ - a2_)) (4 : Int))) * (1 : Int))))) (wrap .i64 (a2_ + (wrap .i64 ((wrap .i64 (Int.tdiv (wrap .i64 (a3_ - a2_)) (4 : Int))) * (2 : Int))))) (wrap .i64 (a2_ + (wrap .i64 ((wrap .i64 (Int.tdiv (wrap .i64 (a3_ - a2_)) (4 : Int))) * (3 : Int))))) a4_ (0 : Int)) fun r5_ =>
 .t (r5_.2 == 0)
 (.l (r5_.1, (1 : Int)))
 (.t (r5_.2 == 12)
 (.l (r5_.1, (2 : Int)))
 (.l (r5_.1, (0 : Int))))))
 (.t ((0 : Int) == (0 : Int))
 (.l ((wrap .i64 (a2_ + (wrap .i64 ((wrap .i64 (Int.tdiv (wrap .i64 (a3_ - a2_)) (4 : Int))) * (2 : Int))))), (1 : Int)))
 (.t ((0 : Int) == (12 : Int))
 (.l ((wrap .i64 (a2_ + (wrap .i64 ((wrap .i64 (Int.tdiv (wrap .i64 (a3_ - a2_)) (4 : Int))) * (2 : Int))))), (2 : Int)))
 (.l ((wrap .i64 (a2_ + (wrap .i64 ((wrap .i64 (Int.tdiv (wrap .i64 (a3_ - a2_)) (4 : Int))) * (2 : Int))))), (0 : Int)))))
noncomputable def wapc (a1_ : List Y1) (a2_ : Int) (a3_ : Int) (a4_ : Yd) : Option Yg := (waxv a1_ a2_ a3_ a4_).ev
noncomputable def wcdf : RetK := yr [.tmp 8, .tmp 9] (yj [.dat yi, .dat yi])
noncomputable def wblf : FD := yd (yj [.dat y2, .dat yi, .dat yi, .clo [y1, y1] yi]) [] [] (Int × (Int)) (fun x => wapc x.1.1 x.1.2.1 x.1.2.2.1 x.1.2.2.2.1) (fun r => ([.dat yi r.1, .dat yi r.2], []))
noncomputable def wsq (k : Int × Ybc) (v : Int) : Tr ((Int) ⊕ (Int)) :=
 .t (decide (v ≤ k.2.2.1))
 (.g (inR v (length k.2.2.2.1)) <|
 .g (decide ((toNat v) < length k.2.2.2.1) && decide ((getD k.2.2.2.1 (toNat v) 0) < length k.2.2.2.2)) <|
 .g (inR k.1 (length k.2.2.2.1)) <|
 .g (decide ((toNat k.1) < length k.2.2.2.1) && decide ((getD k.2.2.2.1 (toNat k.1) 0) < length k.2.2.2.2)) <|
 .c (Int) (k.2.1 ((getD k.2.2.2.2 (getD k.2.2.2.1 (toNat v) 0) ([] : Y1)), ((getD k.2.2.2.2 (getD k.2.2.2.1 (toNat k.1) 0) ([] : Y1)), ()))) fun r6_ =>
 .t (decide (r6_ < 0))
 (.l (.inl (wrap .i64 (v + 1))))
 (.l (.inr v)))
 (.l (.inr v))
noncomputable def wzs (k : Int × Ybc) (v : Int) : Option (Int) := iter (fun v => (wsq k v).ev) v
noncomputable def waep : LD := ⟨{ acts := [], S := { slots := [0, 1, 4, 12, 13], sh := Zo, obs := [Zp] } }, [(0, { acts := [], S := { slots := [0, 1, 4, 12, 13], sh := Zo, obs := [Zp] } })], (yh [] .nil), Int × Ybc, Int, Int, fun k v => (((), (k.1, (k.2.1, (v, (k.2.2.1, ()))))), (k.2.2.2, ())), fun t => (t.1.2.1, (t.1.2.2.1, (t.1.2.2.2.2.1, t.2.1))), fun t => t.1.2.2.2.1, wsq, fun k r => .l (.exit 0 (wav ({ slots := [0, 1, 4, 12, 13], sh := Zo, obs := [Zp] }) (((), (k.1, (k.2.1, (r, (k.2.2.1, ()))))), (k.2.2.2, ()))))⟩
noncomputable def wsr (k : Int × Ybc) (v : Int) : Tr ((Int) ⊕ (Int)) :=
 .t (decide (k.2.2.1 ≤ v))
 (.g (inR v (length k.2.2.2.1)) <|
 .g (decide ((toNat v) < length k.2.2.2.1) && decide ((getD k.2.2.2.1 (toNat v) 0) < length k.2.2.2.2)) <|
 .g (inR k.1 (length k.2.2.2.1)) <|
 .g (decide ((toNat k.1) < length k.2.2.2.1) && decide ((getD k.2.2.2.1 (toNat k.1) 0) < length k.2.2.2.2)) <|
 .c (Int) (k.2.1 ((getD k.2.2.2.2 (getD k.2.2.2.1 (toNat v) 0) ([] : Y1)), ((getD k.2.2.2.2 (getD k.2.2.2.1 (toNat k.1) 0) ([] : Y1)), ()))) fun r18_ =>
 .t (!(decide (r18_ < 0)))
 (.l (.inl (wrap .i64 (v - 1))))
 (.l (.inr v)))
 (.l (.inr v))
noncomputable def wzt (k : Int × Ybc) (v : Int) : Option (Int) := iter (fun v => (wsr k v).ev) v
noncomputable def waeq : LD := ⟨{ acts := [], S := { slots := [0, 1, 4, 12, 13], sh := Zo, obs := [Zp] } }, [(2, { acts := [], S := { slots := [0, 1, 4, 12, 13], sh := Zo, obs := [Zp] } })], (yh [] .nil), Int × Ybc, Int, Int, fun k v => (((), (k.1, (k.2.1, (k.2.2.1, (v, ()))))), (k.2.2.2, ())), fun t => (t.1.2.1, (t.1.2.2.1, (t.1.2.2.2.1, t.2.1))), fun t => t.1.2.2.2.2.1, wsr, fun k r => .l (.exit 2 (wav ({ slots := [0, 1, 4, 12, 13], sh := Zo, obs := [Zp] }) (((), (k.1, (k.2.1, (k.2.2.1, (r, ()))))), (k.2.2.2, ()))))⟩
noncomputable def wss (k : Int × Ybc) (v : Int) : Tr ((Int) ⊕ (Int)) :=
 .t (decide (v ≤ k.2.2.1))
 (.g (inR v (length k.2.2.2.1)) <|
 .g (decide ((toNat v) < length k.2.2.2.1) && decide ((getD k.2.2.2.1 (toNat v) 0) < length k.2.2.2.2)) <|
 .g (inR k.1 (length k.2.2.2.1)) <|
 .g (decide ((toNat k.1) < length k.2.2.2.1) && decide ((getD k.2.2.2.1 (toNat k.1) 0) < length k.2.2.2.2)) <|
 .c (Int) (k.2.1 ((getD k.2.2.2.2 (getD k.2.2.2.1 (toNat v) 0) ([] : Y1)), ((getD k.2.2.2.2 (getD k.2.2.2.1 (toNat k.1) 0) ([] : Y1)), ()))) fun r35_ =>
 .t (decide (r35_ < 0))
 (.l (.inl (wrap .i64 (v + 1))))
 (.l (.inr v)))
 (.l (.inr v))
noncomputable def wzu (k : Int × Ybc) (v : Int) : Option (Int) := iter (fun v => (wss k v).ev) v
noncomputable def waer : LD := ⟨{ acts := [], S := { slots := [0, 1, 4, 12, 13], sh := Zo, obs := [Zp] } }, [(6, { acts := [], S := { slots := [0, 1, 4, 12, 13], sh := Zo, obs := [Zp] } })], (yh [] .nil), Int × Ybc, Int, Int, fun k v => (((), (k.1, (k.2.1, (v, (k.2.2.1, ()))))), (k.2.2.2, ())), fun t => (t.1.2.1, (t.1.2.2.1, (t.1.2.2.2.2.1, t.2.1))), fun t => t.1.2.2.2.1, wss, fun k r => .l (.exit 6 (wav ({ slots := [0, 1, 4, 12, 13], sh := Zo, obs := [Zp] }) (((), (k.1, (k.2.1, (r, (k.2.2.1, ()))))), (k.2.2.2, ()))))⟩
noncomputable def wsu (k : Int × Ybc) (v : Int) : Tr ((Int) ⊕ (Int)) :=
 .t (decide (k.2.2.1 ≤ v))
 (.g (inR v (length k.2.2.2.1)) <|
 .g (decide ((toNat v) < length k.2.2.2.1) && decide ((getD k.2.2.2.1 (toNat v) 0) < length k.2.2.2.2)) <|
 .g (inR k.1 (length k.2.2.2.1)) <|
 .g (decide ((toNat k.1) < length k.2.2.2.1) && decide ((getD k.2.2.2.1 (toNat k.1) 0) < length k.2.2.2.2)) <|
 .c (Int) (k.2.1 ((getD k.2.2.2.2 (getD k.2.2.2.1 (toNat v) 0) ([] : Y1)), ((getD k.2.2.2.2 (getD k.2.2.2.1 (toNat k.1) 0) ([] : Y1)), ()))) fun r47_ =>
 .t (!(decide (r47_ < 0)))
 (.l (.inl (wrap .i64 (v - 1))))
 (.l (.inr v)))
 (.l (.inr v))
noncomputable def wzv (k : Int × Ybc) (v : Int) : Option (Int) := iter (fun v => (wsu k v).ev) v
noncomputable def waes : LD := ⟨{ acts := [], S := { slots := [0, 1, 4, 12, 13], sh := Zo, obs := [Zp] } }, [(8, { acts := [], S := { slots := [0, 1, 4, 12, 13], sh := Zo, obs := [Zp] } })], (yh [] .nil), Int × Ybc, Int, Int, fun k v => (((), (k.1, (k.2.1, (k.2.2.1, (v, ()))))), (k.2.2.2, ())), fun t => (t.1.2.1, (t.1.2.2.1, (t.1.2.2.2.1, t.2.1))), fun t => t.1.2.2.2.2.1, wsu, fun k r => .l (.exit 8 (wav ({ slots := [0, 1, 4, 12, 13], sh := Zo, obs := [Zp] }) (((), (k.1, (k.2.1, (k.2.2.1, (r, ()))))), (k.2.2.2, ()))))⟩
noncomputable def wsv (k : Int × (Yd)) (v : Int × Yz) : Tr ((Int × Yz) ⊕ Yz) :=
 .c (Int) (wzu (k.1, (k.2, (v.2.1, v.2.2))) v.1) fun r41_ =>
 .c (Int) (wzv (k.1, (k.2, (r41_, v.2.2))) v.2.1) fun r53_ =>
 .t (decide (r53_ < r41_))
 (.l (.inr (r53_, v.2.2)))
 (.g (inR r53_ (length v.2.2.1)) <|
 .g (decide ((toNat r53_) < length v.2.2.1) && decide ((getD v.2.2.1 (toNat r53_) 0) < length v.2.2.2)) <|
 .g (inR r41_ (length v.2.2.1)) <|
 .g (decide ((toNat r41_) < length v.2.2.1) && decide ((getD v.2.2.1 (toNat r41_) 0) < length v.2.2.2)) <|
 .g (inR r41_ (length v.2.2.1)) <|
 .g (decide ((toNat r41_) < length v.2.2.1)) <|
 .g (inR r53_ (length (set v.2.2.1 (toNat r41_) (getD v.2.2.1 (toNat r53_) 0)))) <|
 .g (decide ((toNat r53_) < length (set v.2.2.1 (toNat r41_) (getD v.2.2.1 (toNat r53_) 0)))) <|
 .l (.inl ((wrap .i64 (r41_ + 1)), ((wrap .i64 (r53_ - 1)), ((set (set v.2.2.1 (toNat r41_) (getD v.2.2.1 (toNat r53_) 0)) (toNat r53_) (getD v.2.2.1 (toNat r41_) 0)), v.2.2.2)))))
noncomputable def wzw (k : Int × (Yd)) (v : Int × Yz) : Option Yz := iter (fun v => (wsv k v).ev) v
noncomputable def waet : LD := ⟨{ acts := [], S := { slots := [0, 1, 4, 12, 13], sh := Zo, obs := [Zp] } }, [(4, { acts := [], S := { slots := [0, 1, 13], sh := (yj [.arr 64, .dat yi, .dat yi]), obs := [Zp] } })], (yh [] .nil), Int × (Yd), Int × Yz, Int × Yc, fun k v => (((), (k.1, (k.2, (v.1, (v.2.1, ()))))), (v.2.2, ())), fun t => (t.1.2.1, t.1.2.2.1), fun t => (t.1.2.2.2.1, (t.1.2.2.2.2.1, t.2.1)), wsv, fun k r => .l (.exit 4 (wav ({ slots := [0, 1, 13], sh := (yj [.arr 64, .dat yi, .dat yi]), obs := [Zp] }) (((), (k.1, (r.1, ()))), (r.2, ()))))⟩
noncomputable def waxw (a2_ : Int) (a3_ : Int) (a4_ : Int) (a5_ : Yd) (a1_ : (List Nat) × Y2) : Tr Yt :=
 .g (inR a4_ (length a1_.1)) <|
 .g (decide ((toNat a4_) < length a1_.1) && decide ((getD a1_.1 (toNat a4_) 0) < length a1_.2)) <|
 .g (inR a2_ (length a1_.1)) <|
 .g (decide ((toNat a2_) < length a1_.1) && decide ((getD a1_.1 (toNat a2_) 0) < length a1_.2)) <|
 .g (inR a2_ (length a1_.1)) <|
 .g (decide ((toNat a2_) < length a1_.1)) <|
 .g (inR a4_ (length (set a1_.1 (toNat a2_) (getD a1_.1 (toNat a4_) 0)))) <|
 .g (decide ((toNat a4_) < length (set a1_.1 (toNat a2_) (getD a1_.1 (toNat a4_) 0)))) <|
 .c (Int) (wzs (a2_, (a5_, ((wrap .i64 (a3_ - 1)), ((set (set a1_.1 (toNat a2_) (getD a1_.1 (toNat a4_) 0)) (toNat a4_) (getD a1_.1 (toNat a2_) 0)), a1_.2)))) (wrap .i64 (a2_ + 1))) fun r12_ =>
 .c (Int) (wzt (a2_, (a5_, (r12_, ((set (set a1_.1 (toNat a2_) (getD a1_.1 (toNat a4_) 0)) (toNat a4_) (getD a1_.1 (toNat a2_) 0)), a1_.2)))) (wrap .i64 (a3_ - 1))) fun r24_ =>
 .t (decide (r24_ < r12_))
 (.g (inR a2_ (length (set (set a1_.1 (toNat a2_) (getD a1_.1 (toNat a4_) 0)) (toNat a4_) (getD a1_.1 (toNat a2_) 0)))) <|
 .g (decide ((toNat a2_) < length (set (set a1_.1 (toNat a2_) (getD a1_.1 (toNat a4_) 0)) (toNat a4_) (getD a1_.1 (toNat a2_) 0))) && decide ((getD (set (set a1_.1 (toNat a2_) (getD a1_.1 (toNat a4_) 0)) (toNat a4_) (getD a1_.1 (toNat a2_) 0)) (toNat a2_) 0) < length a1_.2)) <|
 .g (inR r24_ (length (set (set a1_.1 (toNat a2_) (getD a1_.1 (toNat a4_) 0)) (toNat a4_) (getD a1_.1 (toNat a2_) 0)))) <|
 .g (decide ((toNat r24_) < length (set (set a1_.1 (toNat a2_) (getD a1_.1 (toNat a4_) 0)) (toNat a4_) (getD a1_.1 (toNat a2_) 0))) && decide ((getD (set (set a1_.1 (toNat a2_) (getD a1_.1 (toNat a4_) 0)) (toNat a4_) (getD a1_.1 (toNat a2_) 0)) (toNat r24_) 0) < length a1_.2)) <|
 .g (inR r24_ (length (set (set a1_.1 (toNat a2_) (getD a1_.1 (toNat a4_) 0)) (toNat a4_) (getD a1_.1 (toNat a2_) 0)))) <|
 .g (decide ((toNat r24_) < length (set (set a1_.1 (toNat a2_) (getD a1_.1 (toNat a4_) 0)) (toNat a4_) (getD a1_.1 (toNat a2_) 0)))) <|
 .g (inR a2_ (length (set (set (set a1_.1 (toNat a2_) (getD a1_.1 (toNat a4_) 0)) (toNat a4_) (getD a1_.1 (toNat a2_) 0)) (toNat r24_) (getD (set (set a1_.1 (toNat a2_) (getD a1_.1 (toNat a4_) 0)) (toNat a4_) (getD a1_.1 (toNat a2_) 0)) (toNat a2_) 0)))) <|
 .g (decide ((toNat a2_) < length (set (set (set a1_.1 (toNat a2_) (getD a1_.1 (toNat a4_) 0)) (toNat a4_) (getD a1_.1 (toNat a2_) 0)) (toNat r24_) (getD (set (set a1_.1 (toNat a2_) (getD a1_.1 (toNat a4_) 0)) (toNat a4_) (getD a1_.1 (toNat a2_) 0)) (toNat a2_) 0)))) <|
 .l (r24_, (true, ((set (set (set (set a1_.1 (toNat a2_) (getD a1_.1 (toNat a4_) 0)) (toNat a4_) (getD a1_.1 (toNat a2_) 0)) (toNat r24_) (getD (set (set a1_.1 (toNat a2_) (getD a1_.1 (toNat a4_) 0)) (toNat a4_) (getD a1_.1 (toNat a2_) 0)) (toNat a2_) 0)) (toNat a2_) (getD (set (set a1_.1 (toNat a2_) (getD a1_.1 (toNat a4_) 0)) (toNat a4_) (getD a1_.1 (toNat a2_) 0)) (toNat r24_) 0)), a1_.2))))
 (.g (inR r24_ (length (set (set a1_.1 (toNat a2_) (getD a1_.1 (toNat a4_) 0)) (toNat a4_) (getD a1_.1 (toNat a2_) 0)))) <|
 .g (decide ((toNat r24_) < length (set (set a1_.1 (toNat a2_) (getD a1_.1 (toNat a4_) 0)) (toNat a4_) (getD a1_.1 (toNat a2_) 0))) && decide ((getD (set (set a1_.1 (toNat a2_) (getD a1_.1 (toNat a4_) 0)) (toNat a4_) (getD a1_.1 (toNat a2_) 0)) (toNat r24_) 0) < length a1_.2)) <|
 .g (inR r12_ (length (set (set a1_.1 (toNat a2_) (getD a1_.1 (toNat a4_) 0)) (toNat a4_) (getD a1_.1 (toNat a2_) 0)))) <|
 .g (decide ((toNat r12_) < length (set (set a1_.1 (toNat a2_) (getD a1_.1 (toNat a4_) 0)) (toNat a4_) (getD a1_.1 (toNat a2_) 0))) && decide ((getD (set (set a1_.1 (toNat a2_) (getD a1_.1 (toNat a4_) 0)) (toNat a4_) (getD a1_.1 (toNat a2_) 0)) (toNat r12_) 0) < length a1_.2)) <|
 .g (inR r12_ (length (set (set a1_.1 (toNat a2_) (getD a1_.1 (toNat a4_) 0)) (toNat a4_) (getD a1_.1 (toNat a2_) 0)))) <|
 .g (decide ((toNat r12_) < length (set (set a1_.1 (toNat a2_) (getD a1_.1 (toNat a4_) 0)) (toNat a4_) (getD a1_.1 (toNat a2_) 0)))) <|
 .g (inR r24_ (length (set (set (set a1_.1 (toNat a2_) (getD a1_.1 (toNat a4_) 0)) (toNat a4_) (getD a1_.1 (toNat a2_) 0)) (toNat r12_) (getD (set (set a1_.1 (toNat a2_) (getD a1_.1 (toNat a4_) 0)) (toNat a4_) (getD a1_.1 (toNat a2_) 0)) (toNat r24_) 0)))) <|
 .g (decide ((toNat r24_) < length (set (set (set a1_.1 (toNat a2_) (getD a1_.1 (toNat a4_) 0)) (toNat a4_) (getD a1_.1 (toNat a2_) 0)) (toNat r12_) (getD (set (set a1_.1 (toNat a2_) (getD a1_.1 (toNat a4_) 0)) (toNat a4_) (getD a1_.1 (toNat a2_) 0)) (toNat r24_) 0)))) <|
 .c Yz (wzw (a2_, a5_) ((wrap .i64 (r12_ + 1)), ((wrap .i64 (r24_ - 1)), ((set (set (set (set a1_.1 (toNat a2_) (getD a1_.1 (toNat a4_) 0)) (toNat a4_) (getD a1_.1 (toNat a2_) 0)) (toNat r12_) (getD (set (set a1_.1 (toNat a2_) (getD a1_.1 (toNat a4_) 0)) (toNat a4_) (getD a1_.1 (toNat a2_) 0)) (toNat r24_) 0)) (toNat r24_) (getD (set (set a1_.1 (toNat a2_) (getD a1_.1 (toNat a4_) 0)) (toNat a4_) (getD a1_.1 (toNat a2_) 0)) (toNat r12_) 0)), a1_.2)))) fun r57_ =>
 .g (inR a2_ (length r57_.2.1)) <|
 .g (decide ((toNat a2_) < length r57_.2.1) && decide ((getD r57_.2.1 (toNat a2_) 0) < length r57_.2.2)) <|
 .g (inR r57_.1 (length r57_.2.1)) <|
 .g (decide ((toNat r57_.1) < length r57_.2.1) && decide ((getD r57_.2.1 (toNat r57_.1) 0) < length r57_.2.2)) <|
 .g (inR r57_.1 (length r57_.2.1)) <|
 .g (decide ((toNat r57_.1) < length r57_.2.1)) <|
 .g (inR a2_ (length (set r57_.2.1 (toNat r57_.1) (getD r57_.2.1 (toNat a2_) 0)))) <|
 .g (decide ((toNat a2_) < length (set r57_.2.1 (toNat r57_.1) (getD r57_.2.1 (toNat a2_) 0)))) <|
 .l (r57_.1, (false, ((set (set r57_.2.1 (toNat r57_.1) (getD r57_.2.1 (toNat a2_) 0)) (toNat a2_) (getD r57_.2.1 (toNat r57_.1) 0)), r57_.2.2))))
noncomputable def whv (a2_ : Int) (a3_ : Int) (a4_ : Int) (a5_ : Yd) (a1_ : (List Nat) × Y2) : Option Yt := (waxw a2_ a3_ a4_ a5_ a1_).ev
noncomputable def wcdg : RetK := { acts := [], res := [.tmp 10, .tmp 11], sh := (yj [.dat yi, .dat .bool]), obs := [Zp], pins := [(0, 0, 64)] }
noncomputable def wblg : FD := yd (yj [.arr 64, .dat yi, .dat yi, .dat yi, .clo [y1, y1] yi]) [Zp] [.arg 0] Yt (fun x => whv x.1.2.1 x.1.2.2.1 x.1.2.2.2.1 x.1.2.2.2.2.1 x.2.1) (fun r => ([.dat yi r.1, .dat .bool r.2.1], [(64, .perm false 24 3 yi r.2.2.1 r.2.2.2)]))
noncomputable def wzx : Env := wac []
noncomputable def wzy : List (Nat × LD) := [(0, waep), (2, waeq), (6, waer), (8, waes), (4, waet)]
noncomputable def wzz : Code := (f258.body).getD .skip
noncomputable def wsw (rec_ : (Int) → (Int) → (Int) → (Yd) → Yc → Option Yc) (k : Yd) (v : Int × Yah) : Tr ((Int × Yah) ⊕ Yc) :=
 .t (decide ((wrap .i64 (v.2.1 - v.1)) ≤ (12 : Int)))
 (.c Yc (waxh v.1 v.2.1 k v.2.2.2.2.2) fun r8_ =>
 .l (.inr r8_))
 (.t (v.2.2.1 == 0)
 (.f)
 (.t (!v.2.2.2.1)
 (.c Yc (waxq v.1 v.2.1 k v.2.2.2.2.2) fun r9_ =>
 .c Yg (wapc (wdq r9_.1 r9_.2) v.1 v.2.1 k) fun r10_ =>
 .t (r10_.2 == 2)
 (.f)
 (.t v.2.2.2.1
 (.t v.2.2.2.2.1
 (.t (r10_.2 == 1)
 (.f)
 (.t (decide (0 < v.1))
 (.g (inR (wrap .i64 (v.1 - 1)) (length r9_.1)) <|
 .g (decide ((toNat (wrap .i64 (v.1 - 1))) < length r9_.1) && decide ((getD r9_.1 (toNat (wrap .i64 (v.1 - 1))) 0) < length r9_.2)) <|
 .g (inR r10_.1 (length r9_.1)) <|
 .g (decide ((toNat r10_.1) < length r9_.1) && decide ((getD r9_.1 (toNat r10_.1) 0) < length r9_.2)) <|
 .c (Int) (k ((getD r9_.2 (getD r9_.1 (toNat (wrap .i64 (v.1 - 1))) 0) ([] : Y1)), ((getD r9_.2 (getD r9_.1 (toNat r10_.1) 0) ([] : Y1)), ()))) fun r11_ =>
 .t (!(decide (r11_ < 0)))
 (.f)
 (.c Yt (whv v.1 v.2.1 r10_.1 k r9_) fun r12_ =>
 .g (!decide ((8 : Int) = 0)) <|
 .t (decide ((wrap .i64 (r12_.1 - v.1)) < (wrap .i64 (v.2.1 - r12_.1))))
 (.c Yc (rec_ v.1 r12_.1 (wrap .i64 (v.2.2.1 - 1)) k r12_.2.2) fun r13_ =>
 .l (.inl ((wrap .i64 (r12_.1 + 1)), (v.2.1, ((wrap .i64 (v.2.2.1 - 1)), ((decide ((wrap .i64 (Int.tdiv (wrap .i64 (v.2.1 - v.1)) (8 : Int))) ≤ (wrap .i64 (r12_.1 - v.1)))), (r12_.2.1, r13_)))))))
 (.c Yc (rec_ (wrap .i64 (r12_.1 + 1)) v.2.1 (wrap .i64 (v.2.2.1 - 1)) k r12_.2.2) fun r14_ =>
 .l (.inl (v.1, (r12_.1, ((wrap .i64 (v.2.2.1 - 1)), ((decide ((wrap .i64 (Int.tdiv (wrap .i64 (v.2.1 - v.1)) (8 : Int))) ≤ (wrap .i64 (v.2.1 - r12_.1)))), (r12_.2.1, r14_)))))))))
 (.c Yt (whv v.1 v.2.1 r10_.1 k r9_) fun r15_ =>
 .g (!decide ((8 : Int) = 0)) <|
 .t (decide ((wrap .i64 (r15_.1 - v.1)) < (wrap .i64 (v.2.1 - r15_.1))))
 (.c Yc (rec_ v.1 r15_.1 (wrap .i64 (v.2.2.1 - 1)) k r15_.2.2) fun r16_ =>
 .l (.inl ((wrap .i64 (r15_.1 + 1)), (v.2.1, ((wrap .i64 (v.2.2.1 - 1)), ((decide ((wrap .i64 (Int.tdiv (wrap .i64 (v.2.1 - v.1)) (8 : Int))) ≤ (wrap .i64 (r15_.1 - v.1)))), (r15_.2.1, r16_)))))))
 (.c Yc (rec_ (wrap .i64 (r15_.1 + 1)) v.2.1 (wrap .i64 (v.2.2.1 - 1)) k r15_.2.2) fun r17_ =>
 .l (.inl (v.1, (r15_.1, ((wrap .i64 (v.2.2.1 - 1)), ((decide ((wrap .i64 (Int.tdiv (wrap .i64 (v.2.1 - v.1)) (8 : Int))) ≤ (wrap .i64 (v.2.1 - r15_.1)))), (r15_.2.1, r17_))))))))))
 (.t (decide (0 < v.1))
 (.g (inR (wrap .i64 (v.1 - 1)) (length r9_.1)) <|
 .g (decide ((toNat (wrap .i64 (v.1 - 1))) < length r9_.1) && decide ((getD r9_.1 (toNat (wrap .i64 (v.1 - 1))) 0) < length r9_.2)) <|
 .g (inR r10_.1 (length r9_.1)) <|
 .g (decide ((toNat r10_.1) < length r9_.1) && decide ((getD r9_.1 (toNat r10_.1) 0) < length r9_.2)) <|
 .c (Int) (k ((getD r9_.2 (getD r9_.1 (toNat (wrap .i64 (v.1 - 1))) 0) ([] : Y1)), ((getD r9_.2 (getD r9_.1 (toNat r10_.1) 0) ([] : Y1)), ()))) fun r18_ =>
 .t (!(decide (r18_ < 0)))
 (.f)
 (.c Yt (whv v.1 v.2.1 r10_.1 k r9_) fun r19_ =>
 .g (!decide ((8 : Int) = 0)) <|
 .t (decide ((wrap .i64 (r19_.1 - v.1)) < (wrap .i64 (v.2.1 - r19_.1))))
 (.c Yc (rec_ v.1 r19_.1 (wrap .i64 (v.2.2.1 - 1)) k r19_.2.2) fun r20_ =>
 .l (.inl ((wrap .i64 (r19_.1 + 1)), (v.2.1, ((wrap .i64 (v.2.2.1 - 1)), ((decide ((wrap .i64 (Int.tdiv (wrap .i64 (v.2.1 - v.1)) (8 : Int))) ≤ (wrap .i64 (r19_.1 - v.1)))), (r19_.2.1, r20_)))))))
 (.c Yc (rec_ (wrap .i64 (r19_.1 + 1)) v.2.1 (wrap .i64 (v.2.2.1 - 1)) k r19_.2.2) fun r21_ =>
 .l (.inl (v.1, (r19_.1, ((wrap .i64 (v.2.2.1 - 1)), ((decide ((wrap .i64 (Int.tdiv (wrap .i64 (v.2.1 - v.1)) (8 : Int))) ≤ (wrap .i64 (v.2.1 - r19_.1)))), (r19_.2.1, r21_)))))))))
 (.c Yt (whv v.1 v.2.1 r10_.1 k r9_) fun r22_ =>
 .g (!decide ((8 : Int) = 0)) <|
 .t (decide ((wrap .i64 (r22_.1 - v.1)) < (wrap .i64 (v.2.1 - r22_.1))))
 (.c Yc (rec_ v.1 r22_.1 (wrap .i64 (v.2.2.1 - 1)) k r22_.2.2) fun r23_ =>
 .l (.inl ((wrap .i64 (r22_.1 + 1)), (v.2.1, ((wrap .i64 (v.2.2.1 - 1)), ((decide ((wrap .i64 (Int.tdiv (wrap .i64 (v.2.1 - v.1)) (8 : Int))) ≤ (wrap .i64 (r22_.1 - v.1)))), (r22_.2.1, r23_)))))))
 (.c Yc (rec_ (wrap .i64 (r22_.1 + 1)) v.2.1 (wrap .i64 (v.2.2.1 - 1)) k r22_.2.2) fun r24_ =>
 .l (.inl (v.1, (r22_.1, ((wrap .i64 (v.2.2.1 - 1)), ((decide ((wrap .i64 (Int.tdiv (wrap .i64 (v.2.1 - v.1)) (8 : Int))) ≤ (wrap .i64 (v.2.1 - r22_.1)))), (r22_.2.1, r24_))))))))))
 (.t (decide (0 < v.1))
 (.g (inR (wrap .i64 (v.1 - 1)) (length r9_.1)) <|
 .g (decide ((toNat (wrap .i64 (v.1 - 1))) < length r9_.1) && decide ((getD r9_.1 (toNat (wrap .i64 (v.1 - 1))) 0) < length r9_.2)) <|
 .g (inR r10_.1 (length r9_.1)) <|
 .g (decide ((toNat r10_.1) < length r9_.1) && decide ((getD r9_.1 (toNat r10_.1) 0) < length r9_.2)) <|
 .c (Int) (k ((getD r9_.2 (getD r9_.1 (toNat (wrap .i64 (v.1 - 1))) 0) ([] : Y1)), ((getD r9_.2 (getD r9_.1 (toNat r10_.1) 0) ([] : Y1)), ()))) fun r25_ =>
 .t (!(decide (r25_ < 0)))
 (.f)
 (.c Yt (whv v.1 v.2.1 r10_.1 k r9_) fun r26_ =>
 .g (!decide ((8 : Int) = 0)) <|
 .t (decide ((wrap .i64 (r26_.1 - v.1)) < (wrap .i64 (v.2.1 - r26_.1))))
 (.c Yc (rec_ v.1 r26_.1 (wrap .i64 (v.2.2.1 - 1)) k r26_.2.2) fun r27_ =>
 .l (.inl ((wrap .i64 (r26_.1 + 1)), (v.2.1, ((wrap .i64 (v.2.2.1 - 1)), ((decide ((wrap .i64 (Int.tdiv (wrap .i64 (v.2.1 - v.1)) (8 : Int))) ≤ (wrap .i64 (r26_.1 - v.1)))), (r26_.2.1, r27_)))))))
 (.c Yc (rec_ (wrap .i64 (r26_.1 + 1)) v.2.1 (wrap .i64 (v.2.2.1 - 1)) k r26_.2.2) fun r28_ =>
 .l (.inl (v.1, (r26_.1, ((wrap .i64 (v.2.2.1 - 1)), ((decide ((wrap .i64 (Int.tdiv (wrap .i64 (v.2.1 - v.1)) (8 : Int))) ≤ (wrap .i64 (v.2.1 - r26_.1)))), (r26_.2.1, r28_)))))))))
 (.c Yt (whv v.1 v.2.1 r10_.1 k r9_) fun r29_ =>
 .g (!decide ((8 : Int) = 0)) <|
 .t (decide ((wrap .i64 (r29_.1 - v.1)) < (wrap .i64 (v.2.1 - r29_.1))))
 (.c Yc (rec_ v.1 r29_.1 (wrap .i64 (v.2.2.1 - 1)) k r29_.2.2) fun r30_ =>
 .l (.inl ((wrap .i64 (r29_.1 + 1)), (v.2.1, ((wrap .i64 (v.2.2.1 - 1)), ((decide ((wrap .i64 (Int.tdiv (wrap .i64 (v.2.1 - v.1)) (8 : Int))) ≤ (wrap .i64 (r29_.1 - v.1)))), (r29_.2.1, r30_)))))))
 (.c Yc (rec_ (wrap .i64 (r29_.1 + 1)) v.2.1 (wrap .i64 (v.2.2.1 - 1)) k r29_.2.2) fun r31_ =>
 .l (.inl (v.1, (r29_.1, ((wrap .i64 (v.2.2.1 - 1)), ((decide ((wrap .i64 (Int.tdiv (wrap .i64 (v.2.1 - v.1)) (8 : Int))) ≤ (wrap .i64 (v.2.1 - r29_.1)))), (r29_.2.1, r31_)))))))))))
 (.c Yg (wapc (wdq v.2.2.2.2.2.1 v.2.2.2.2.2.2) v.1 v.2.1 k) fun r32_ =>
 .t (r32_.2 == 2)
 (.f)
 (.t v.2.2.2.1
 (.t v.2.2.2.2.1
 (.t (r32_.2 == 1)
 (.f)
 (.t (decide (0 < v.1))
 (.g (inR (wrap .i64 (v.1 - 1)) (length v.2.2.2.2.2.1)) <|
 .g (decide ((toNat (wrap .i64 (v.1 - 1))) < length v.2.2.2.2.2.1) && decide ((getD v.2.2.2.2.2.1 (toNat (wrap .i64 (v.1 - 1))) 0) < length v.2.2.2.2.2.2)) <|
 .g (inR r32_.1 (length v.2.2.2.2.2.1)) <|
 .g (decide ((toNat r32_.1) < length v.2.2.2.2.2.1) && decide ((getD v.2.2.2.2.2.1 (toNat r32_.1) 0) < length v.2.2.2.2.2.2)) <|
 .c (Int) (k ((getD v.2.2.2.2.2.2 (getD v.2.2.2.2.2.1 (toNat (wrap .i64 (v.1 - 1))) 0) ([] : Y1)), ((getD v.2.2.2.2.2.2 (getD v.2.2.2.2.2.1 (toNat r32_.1) 0) ([] : Y1)), ()))) fun r33_ =>
 .t (!(decide (r33_ < 0)))
 (.f)
 (.c Yt (whv v.1 v.2.1 r32_.1 k v.2.2.2.2.2) fun r34_ =>
 .g (!decide ((8 : Int) = 0)) <|
 .t (decide ((wrap .i64 (r34_.1 - v.1)) < (wrap .i64 (v.2.1 - r34_.1))))
 (.c Yc (rec_ v.1 r34_.1 v.2.2.1 k r34_.2.2) fun r35_ =>
 .l (.inl ((wrap .i64 (r34_.1 + 1)), (v.2.1, (v.2.2.1, ((decide ((wrap .i64 (Int.tdiv (wrap .i64 (v.2.1 - v.1)) (8 : Int))) ≤ (wrap .i64 (r34_.1 - v.1)))), (r34_.2.1, r35_)))))))
 (.c Yc (rec_ (wrap .i64 (r34_.1 + 1)) v.2.1 v.2.2.1 k r34_.2.2) fun r36_ =>
 .l (.inl (v.1, (r34_.1, (v.2.2.1, ((decide ((wrap .i64 (Int.tdiv (wrap .i64 (v.2.1 - v.1)) (8 : Int))) ≤ (wrap .i64 (v.2.1 - r34_.1)))), (r34_.2.1, r36_)))))))))
 (.c Yt (whv v.1 v.2.1 r32_.1 k v.2.2.2.2.2) fun r37_ =>
 .g (!decide ((8 : Int) = 0)) <|
 .t (decide ((wrap .i64 (r37_.1 - v.1)) < (wrap .i64 (v.2.1 - r37_.1))))
 (.c Yc (rec_ v.1 r37_.1 v.2.2.1 k r37_.2.2) fun r38_ =>
 .l (.inl ((wrap .i64 (r37_.1 + 1)), (v.2.1, (v.2.2.1, ((decide ((wrap .i64 (Int.tdiv (wrap .i64 (v.2.1 - v.1)) (8 : Int))) ≤ (wrap .i64 (r37_.1 - v.1)))), (r37_.2.1, r38_)))))))
 (.c Yc (rec_ (wrap .i64 (r37_.1 + 1)) v.2.1 v.2.2.1 k r37_.2.2) fun r39_ =>
 .l (.inl (v.1, (r37_.1, (v.2.2.1, ((decide ((wrap .i64 (Int.tdiv (wrap .i64 (v.2.1 - v.1)) (8 : Int))) ≤ (wrap .i64 (v.2.1 - r37_.1)))), (r37_.2.1, r39_))))))))))
 (.t (decide (0 < v.1))
 (.g (inR (wrap .i64 (v.1 - 1)) (length v.2.2.2.2.2.1)) <|
 .g (decide ((toNat (wrap .i64 (v.1 - 1))) < length v.2.2.2.2.2.1) && decide ((getD v.2.2.2.2.2.1 (toNat (wrap .i64 (v.1 - 1))) 0) < length v.2.2.2.2.2.2)) <|
 .g (inR r32_.1 (length v.2.2.2.2.2.1)) <|
 .g (decide ((toNat r32_.1) < length v.2.2.2.2.2.1) && decide ((getD v.2.2.2.2.2.1 (toNat r32_.1) 0) < length v.2.2.2.2.2.2)) <|
 .c (Int) (k ((getD v.2.2.2.2.2.2 (getD v.2.2.2.2.2.1 (toNat (wrap .i64 (v.1 - 1))) 0) ([] : Y1)), ((getD v.2.2.2.2.2.2 (getD v.2.2.2.2.2.1 (toNat r32_.1) 0) ([] : Y1)), ()))) fun r40_ =>
 .t (!(decide (r40_ < 0)))
 (.f)
 (.c Yt (whv v.1 v.2.1 r32_.1 k v.2.2.2.2.2) fun r41_ =>
 .g (!decide ((8 : Int) = 0)) <|
 .t (decide ((wrap .i64 (r41_.1 - v.1)) < (wrap .i64 (v.2.1 - r41_.1))))
 (.c Yc (rec_ v.1 r41_.1 v.2.2.1 k r41_.2.2) fun r42_ =>
 .l (.inl ((wrap .i64 (r41_.1 + 1)), (v.2.1, (v.2.2.1, ((decide ((wrap .i64 (Int.tdiv (wrap .i64 (v.2.1 - v.1)) (8 : Int))) ≤ (wrap .i64 (r41_.1 - v.1)))), (r41_.2.1, r42_)))))))
 (.c Yc (rec_ (wrap .i64 (r41_.1 + 1)) v.2.1 v.2.2.1 k r41_.2.2) fun r43_ =>
 .l (.inl (v.1, (r41_.1, (v.2.2.1, ((decide ((wrap .i64 (Int.tdiv (wrap .i64 (v.2.1 - v.1)) (8 : Int))) ≤ (wrap .i64 (v.2.1 - r41_.1)))), (r41_.2.1, r43_)))))))))
 (.c Yt (whv v.1 v.2.1 r32_.1 k v.2.2.2.2.2) fun r44_ =>
 .g (!decide ((8 : Int) = 0)) <|
 .t (decide ((wrap .i64 (r44_.1 - v.1)) < (wrap .i64 (v.2.1 - r44_.1))))
 (.c Yc (rec_ v.1 r44_.1 v.2.2.1 k r44_.2.2) fun r45_ =>
 .l (.inl ((wrap .i64 (r44_.1 + 1)), (v.2.1, (v.2.2.1, ((decide ((wrap .i64 (Int.tdiv (wrap .i64 (v.2.1 - v.1)) (8 : Int))) ≤ (wrap .i64 (r44_.1 - v.1)))), (r44_.2.1, r45_)))))))
 (.c Yc (rec_ (wrap .i64 (r44_.1 + 1)) v.2.1 v.2.2.1 k r44_.2.2) fun r46_ =>
 .l (.inl (v.1, (r44_.1, (v.2.2.1, ((decide ((wrap .i64 (Int.tdiv (wrap .i64 (v.2.1 - v.1)) (8 : Int))) ≤ (wrap .i64 (v.2.1 - r44_.1)))), (r44_.2.1, r46_))))))))))
 (.t (decide (0 < v.1))
 (.g (inR (wrap .i64 (v.1 - 1)) (length v.2.2.2.2.2.1)) <|
 .g (decide ((toNat (wrap .i64 (v.1 - 1))) < length v.2.2.2.2.2.1) && decide ((getD v.2.2.2.2.2.1 (toNat (wrap .i64 (v.1 - 1))) 0) < length v.2.2.2.2.2.2)) <|
 .g (inR r32_.1 (length v.2.2.2.2.2.1)) <|
 .g (decide ((toNat r32_.1) < length v.2.2.2.2.2.1) && decide ((getD v.2.2.2.2.2.1 (toNat r32_.1) 0) < length v.2.2.2.2.2.2)) <|
 .c (Int) (k ((getD v.2.2.2.2.2.2 (getD v.2.2.2.2.2.1 (toNat (wrap .i64 (v.1 - 1))) 0) ([] : Y1)), ((getD v.2.2.2.2.2.2 (getD v.2.2.2.2.2.1 (toNat r32_.1) 0) ([] : Y1)), ()))) fun r47_ =>
 .t (!(decide (r47_ < 0)))
 (.f)
 (.c Yt (whv v.1 v.2.1 r32_.1 k v.2.2.2.2.2) fun r48_ =>
 .g (!decide ((8 : Int) = 0)) <|
 .t (decide ((wrap .i64 (r48_.1 - v.1)) < (wrap .i64 (v.2.1 - r48_.1))))
 (.c Yc (rec_ v.1 r48_.1 v.2.2.1 k r48_.2.2) fun r49_ =>
 .l (.inl ((wrap .i64 (r48_.1 + 1)), (v.2.1, (v.2.2.1, ((decide ((wrap .i64 (Int.tdiv (wrap .i64 (v.2.1 - v.1)) (8 : Int))) ≤ (wrap .i64 (r48_.1 - v.1)))), (r48_.2.1, r49_)))))))
 (.c Yc (rec_ (wrap .i64 (r48_.1 + 1)) v.2.1 v.2.2.1 k r48_.2.2) fun r50_ =>
 .l (.inl (v.1, (r48_.1, (v.2.2.1, ((decide ((wrap .i64 (Int.tdiv (wrap .i64 (v.2.1 - v.1)) (8 : Int))) ≤ (wrap .i64 (v.2.1 - r48_.1)))), (r48_.2.1, r50_)))))))))
 (.c Yt (whv v.1 v.2.1 r32_.1 k v.2.2.2.2.2) fun r51_ =>
 .g (!decide ((8 : Int) = 0)) <|
 .t (decide ((wrap .i64 (r51_.1 - v.1)) < (wrap .i64 (v.2.1 - r51_.1))))
 (.c Yc (rec_ v.1 r51_.1 v.2.2.1 k r51_.2.2) fun r52_ =>
 .l (.inl ((wrap .i64 (r51_.1 + 1)), (v.2.1, (v.2.2.1, ((decide ((wrap .i64 (Int.tdiv (wrap .i64 (v.2.1 - v.1)) (8 : Int))) ≤ (wrap .i64 (r51_.1 - v.1)))), (r51_.2.1, r52_)))))))
 (.c Yc (rec_ (wrap .i64 (r51_.1 + 1)) v.2.1 v.2.2.1 k r51_.2.2) fun r53_ =>
 .l (.inl (v.1, (r51_.1, (v.2.2.1, ((decide ((wrap .i64 (Int.tdiv (wrap .i64 (v.2.1 - v.1)) (8 : Int))) ≤ (wrap .i64 (v.2.1 - r51_.1)))), (r51_.2.1, r53_)))))))))))))
noncomputable def waaa (rec_ : (Int) → (Int) → (Int) → (Yd) → Yc → Option Yc) (k : Yd) (v : Int × Yah) : Option Yc := iter (fun v => (wsw rec_ k v).ev) v
noncomputable def waeu (rec_ : (Int) → (Int) → (Int) → (Yd) → Yc → Option Yc) : LD where
 head := { acts := [], S := { slots := [0, 1, 2, 3, 4, 10, 11], sh := (yj [.arr 64, .dat yi, .dat yi, .dat yi, .clo [y1, y1] yi, .dat .bool, .dat .bool]), obs := [Zp] } }
 exits := []
 rets := { acts := [], S := { slots := [0], sh := (yj [.arr 64]), obs := [Zp] } }
 K := Yd
 V := Int × Yah
 R := (List Nat) × Y2
 join := fun k v => (((), (v.1, (v.2.1, (v.2.2.1, (k, (v.2.2.2.1, (v.2.2.2.2.1, ()))))))), (v.2.2.2.2.2, ()))
 sk := fun t => t.1.2.2.2.2.1
 sv := fun t => (t.1.2.1, (t.1.2.2.1, (t.1.2.2.2.1, (t.1.2.2.2.2.2.1, (t.1.2.2.2.2.2.2.1, t.2.1)))))
 step := wsw rec_
 leaf := fun _ r => .l (.ret (wav ({ slots := [0], sh := (yj [.arr 64]), obs := [Zp] }) (((), ()), (r, ()))))
noncomputable def waxx (rec_ : (Int) → (Int) → (Int) → (Yd) → Yc → Option Yc) (a2_ : Int) (a3_ : Int) (a4_ : Int) (a5_ : Yd) (a1_ : (List Nat) × Y2) : Tr Yc :=
 .c Yc (waaa rec_ a5_ (a2_, (a3_, (a4_, (true, (true, a1_)))))) fun r55_ =>
 .l r55_
noncomputable def wsx : Nat → (Int) → (Int) → (Int) → (Yd) → Yc → Option Yc
 | 0 => fun _ _ _ _ _ => none
 | n + 1 => fun a2_ a3_ a4_ a5_ a1_ => (waxx (wsx n) a2_ a3_ a4_ a5_ a1_).ev
noncomputable def wcdh : RetK := { acts := [], res := [], sh := .nil, obs := [Zp], pins := [(0, 0, 64)] }
noncomputable def wbbf (rec_ : (Int) → (Int) → (Int) → (Yd) → Yc → Option Yc) : FD where
 A := (yj [.arr 64, .dat yi, .dat yi, .dat yi, .clo [y1, y1] yi])
 ins := [Zp]
 lend := [.arg 0]
 R := (List Nat) × Y2
 F := fun x => rec_ x.1.2.1 x.1.2.2.1 x.1.2.2.2.1 x.1.2.2.2.2.1 x.2.1
 emb := fun r => ([], [(64, .perm false 24 3 yi r.1 r.2)])
noncomputable def wblh (n : Nat) : FD := wbbf (wsx n)
noncomputable def wbli (rec_ : (Int) → (Int) → (Int) → (Yd) → Yc → Option Yc) : Env := wac [(251, wbkw), (253, wbkz), (254, wblf), (258, wblg), (233, wbbf rec_)]
noncomputable def wblj (rec_ : (Int) → (Int) → (Int) → (Yd) → Yc → Option Yc) : List (Nat × LD) := [(0, waeu rec_)]
noncomputable def wblk : Code := (f233.body).getD .skip
noncomputable def waxy (a2_ : Yd) (a1_ : (List Nat) × Y2) : Tr Yc :=
 .c (Int) (wapb (wrap .u64 ((length a1_.1 : Nat) : Int))) fun r1_ =>
 .c Yc (wsx 1000000 (0 : Int) ((length a1_.1 : Nat) : Int) r1_ a2_ a1_) fun r2_ =>
 .l r2_
noncomputable def waxz (a2_ : Yd) (a1_ : (List Nat) × Y2) : Option Yc := (waxy a2_ a1_).ev
noncomputable def wcdi : RetK := { acts := [], res := [], sh := .nil, obs := [Zp], pins := [(0, 0, 64)] }
noncomputable def waya : FD := yd (yj [.arr 64, .clo [y1, y1] yi]) [Zp] [.arg 0] Yc (fun x => waxz x.1.2.1 x.2.1) (fun r => ([], [(64, .perm false 24 3 yi r.1 r.2)]))
noncomputable def wsy (k : Y1 × (Y1 × (Y1 × Int))) (v : Int) : Tr ((Int) ⊕ ((Unit) ⊕ (Int))) :=
 .t (decide (v < k.2.2.2))
 (.g (inR v (length k.2.2.1)) <|
 .t (decide (((length k.2.1 : Nat) : Int) ≤ v))
 (.l (.inr (.inr (1 : Int))))
 (.g (inR v (length k.2.1)) <|
 .c (Int) (F_za (getD k.2.2.1 (toNat v) 0) (getD k.2.1 (toNat v) 0)) fun r6_ =>
 .t (r6_ != (0 : Int))
 (.l (.inr (.inr r6_)))
 (.l (.inl (wrap .i64 (v + 1))))))
 (.l (.inr (.inl ())))
noncomputable def waab (k : Y1 × (Y1 × (Y1 × Int))) (v : Int) : Option ((Unit) ⊕ (Int)) := iter (fun v => (wsy k v).ev) v
noncomputable def waev : LD := ⟨(yh [0, 1, 9, 10, 11] (yj [.dat y1, .dat y1, .dat y1, .dat yi, .dat yi])), [(0, (yh [0, 1] (yj [.dat y1, .dat y1])))], (yh [4] Zh), Y1 × (Y1 × (Y1 × Int)), Int, (Unit) ⊕ (Int), fun k v => ((k.1, (k.2.1, (k.2.2.1, (k.2.2.2, (v, ()))))), ()), fun t => (t.1.1, (t.1.2.1, (t.1.2.2.1, t.1.2.2.2.1))), fun t => t.1.2.2.2.2.1, wsy, fun k r => .s (Unit) (Int) r (fun _ => .l (.exit 0 (wav ((ys [0, 1] (yj [.dat y1, .dat y1]))) ((k.1, (k.2.1, ())), ())))) (fun b => .l (.ret (wav ((ys [4] Zh)) ((b, ()), ()))))⟩
noncomputable def wayb (a1_ : Y1) (a2_ : Y1) : Tr (Int) :=
 .c ((Unit) ⊕ (Int)) (waab (a1_, (a2_, (a1_, ((length a1_ : Nat) : Int)))) (0 : Int)) fun r10_ =>
 .s (Unit) (Int) r10_
 (fun _ => .t (decide (((length a1_ : Nat) : Int) < ((length a2_ : Nat) : Int)))
 (.l (-1 : Int))
 (.l (0 : Int)))
 (fun r12_ => .l r12_)
noncomputable def wayc (a1_ : Y1) (a2_ : Y1) : Option (Int) := (wayb a1_ a2_).ev
noncomputable def wcdj : RetK := yr [.tmp 4] Zh
noncomputable def wbll : FD := yd (yj [.dat y1, .dat y1]) [] [] Int (fun x => wayc x.1.1 x.1.2.1) (fun r => ([.dat yi r], []))
noncomputable def wblm : Env := wac [(182, D_za)]
noncomputable def wbln : List (Nat × LD) := [(0, waev)]
noncomputable def wblo : Code := (f235.body).getD .skip
noncomputable def waew (k : Int × (Y1 × Int)) (v : Int) : Tr ((Int) ⊕ ((Unit) ⊕ (Int))) :=
 .t (decide (v < k.2.2))
 (.g (inR v (length k.2.1)) <|
 .t ((getD k.2.1 (toNat v) 0) != k.1)
 (.l (.inr (.inr (getD k.2.1 (toNat v) 0))))
 (.l (.inl (wrap .i64 (v + 1)))))
 (.l (.inr (.inl ())))
noncomputable def wapd (k : Int × (Y1 × Int)) (v : Int) : Option ((Unit) ⊕ (Int)) := iter (fun v => (waew k v).ev) v
noncomputable def wape : LD := ⟨(yh [3, 6, 7, 8] (yj [.dat yi, .dat y1, .dat yi, .dat yi])), [(0, (yh [3] Zh))], (yh [2] Zh), Int × (Y1 × Int), Int, (Unit) ⊕ (Int), fun k v => ((k.1, (k.2.1, (k.2.2, (v, ())))), ()), fun t => (t.1.1, (t.1.2.1, t.1.2.2.1)), fun t => t.1.2.2.2.1, waew, fun k r => .s (Unit) (Int) r (fun _ => .l (.exit 0 (wav ((ys [3] Zh)) ((k.1, ()), ())))) (fun b => .l (.ret (wav ((ys [2] Zh)) ((b, ()), ()))))⟩
noncomputable def T_zb (a1_ : Y1) : Tr (Int) :=
 .c ((Unit) ⊕ (Int)) (wapd ((0 : Int), (a1_, ((length a1_ : Nat) : Int))) (0 : Int)) fun r7_ =>
 .s (Unit) (Int) r7_
 (fun _ => .l (0 : Int))
 (fun r9_ => .l r9_)
noncomputable def F_zb (a1_ : Y1) : Option (Int) := (T_zb a1_).ev
noncomputable def K_zb : RetK := yr [.tmp 2] Zh
noncomputable def D_zb : FD := yd (yj [.dat y1]) [] [] Int (fun x => F_zb x.1.1) (fun r => ([.dat yi r], []))
noncomputable def E_zb : Env := wac []
noncomputable def O_zb : List (Nat × LD) := [(0, wape)]
noncomputable def C_zb : Code := (f181.body).getD .skip
noncomputable def wayd (a1_ : Y1) (a2_ : Y1) : Tr (Int) :=
 .c (Int) (F_za ((length a1_ : Nat) : Int) ((length a2_ : Nat) : Int)) fun r1_ =>
 .c (Int) (wayc a1_ a2_) fun r2_ =>
 .c (Int) (F_zb ([r1_, r2_] : Y1)) fun r3_ =>
 .l r3_
noncomputable def waye (a1_ : Y1) (a2_ : Y1) : Option (Int) := (wayd a1_ a2_).ev
noncomputable def wcdo : RetK := yr [.tmp 4] Zh
noncomputable def wblp : FD := yd (yj [.dat y1, .dat y1]) [] [] Int (fun x => waye x.1.1 x.1.2.1) (fun r => ([.dat yi r], []))
noncomputable def wsz (k : Int) (v : Int × Y2) : Tr ((Int × Y2) ⊕ Y2) :=
 .g (decide (0 ≤ k)) <|
 .t (decide (v.1 < (wrap .u64 ((1 : Int) * 2 ^ (min (toNat k) Zb)))))
 (.c Y1 (woj v.1) fun r4_ =>
 .g (decide ((length v.2 + 1) * 24 ≤ 140737488355328)) <|
 .l (.inl ((wrap .u64 (v.1 + 1)), (set (v.2 ++ [[]]) (length v.2) r4_))))
 (.l (.inr v.2))
noncomputable def waac (k : Int) (v : Int × Y2) : Option Y2 := iter (fun v => (wsz k v).ev) v
noncomputable def waex : LD := ⟨{ acts := [], S := { slots := [0, 3, 4], sh := (yj [.dat yi, .arr 5, .dat (.int .u64)]), obs := [(5, .rows 24 3 yi)] } }, [(0, { acts := [], S := { slots := [3], sh := (yj [.arr 5]), obs := [(5, .rows 24 3 yi)] } })], (yh [] .nil), Int, Int × Y2, List Y1, fun k v => ((k, ((), (v.1, ()))), (v.2, ())), fun t => t.1.1, fun t => (t.1.2.2.1, t.2.1), wsz, fun _ r => .l (.exit 0 (wav ({ slots := [3], sh := (yj [.arr 5]), obs := [(5, .rows 24 3 yi)] }) (((), ()), (r, ()))))⟩
noncomputable def wayf (a1_ : Int) : Tr Yc :=
 .c Y2 (waac a1_ ((1 : Int), ([] : List Y1))) fun r6_ =>
 .c Yc (waxz (fun h7_ => Option.bind (waye h7_.1 h7_.2.1) fun y8_ => some y8_) ((List.range (length r6_)), r6_)) fun r9_ =>
 .l r9_
noncomputable def wahq (a1_ : Int) : Option Yc := (wayf a1_).ev
noncomputable def wcdp : RetK := { acts := [.ren 5 0], res := [.tmp 2], sh := (yj [.arr 0]), obs := [(0, .perm 24 3 yi)], pins := [] }
noncomputable def wblq : FD := yd Zh [] [] Yc (fun x => wahq x.1.1) (fun r => ([.arr 0], [(0, .perm false 24 3 yi r.1 r.2)]))
noncomputable def wblr : Nat → Nat → List Nat := fun r i => match look [(1, [(0, [1000000])]), (6, [(1, [80000017])])] r with
 | some l => (look l i).getD []
 | none => []
noncomputable def wbls : Env := wac [(144, wahi), (184, waya), (184, waya), (185, wblp)]
noncomputable def wblt : List (Nat × LD) := [(0, waex)]
noncomputable def wblu : Code := (f91.body).getD .skip
noncomputable def wkx (k : ((HL [y1] → Option (Int))) × Yz) (v : (Nat) × Int) : Tr (((Nat) × Int) ⊕ (Nat)) :=
 .t (decide (v.2 < k.2.1))
 (.g (inR v.2 (length k.2.2.1)) <|
 .g (decide ((toNat v.2) < length k.2.2.1) && decide ((getD k.2.2.1 (toNat v.2) 0) < length k.2.2.2)) <|
 .c (Int) (k.1 ((getD k.2.2.2 (getD k.2.2.1 (toNat v.2) 0) ([] : Y1)), ())) fun r6_ =>
 .c (Int) (k.1 ((getD k.2.2.2 v.1 ([] : Y1)), ())) fun r7_ =>
 .t (decide (r6_ < r7_))
 (.l (.inl ((getD k.2.2.1 (toNat v.2) 0), (wrap .i64 (v.2 + 1)))))
 (.l (.inl (v.1, (wrap .i64 (v.2 + 1))))))
 (.l (.inr v.1))
noncomputable def wapf (k : ((HL [y1] → Option (Int))) × Yz) (v : (Nat) × Int) : Option (Nat) := iter (fun v => (wkx k v).ev) v
noncomputable def waey : LD := ⟨{ acts := [], S := { slots := [0, 1, 5, 11, 12, 13], sh := (yj [.arr 64, .clo [y1] yi, .row 64, .arr 64, .dat yi, .dat yi]), obs := [Zp] } }, [(0, { acts := [], S := { slots := [0, 5], sh := (yj [.arr 64, .row 64]), obs := [Zp] } })], (yh [] .nil), ((HL [y1] → Option (Int))) × Yz, (Nat) × (Int), Nat, fun k v => (((), (k.1, (v.1, ((), (k.2.1, (v.2, ())))))), (k.2.2, ())), fun t => (t.1.2.1, (t.1.2.2.2.2.1, t.2.1)), fun t => (t.1.2.2.1, t.1.2.2.2.2.2.1), wkx, fun k r => .l (.exit 0 (wav ({ slots := [0, 5], sh := (yj [.arr 64, .row 64]), obs := [Zp] }) (((), (r, ())), (k.2.2, ()))))⟩
noncomputable def wblv (a2_ : (HL [y1] → Option (Int))) (a1_ : (List Nat) × Y2) : Tr Y1 :=
 .g (inR 0 (length a1_.1)) <|
 .g (decide ((toNat 0) < length a1_.1) && decide ((getD a1_.1 (toNat 0) 0) < length a1_.2)) <|
 .c (Nat) (wapf (a2_, (((length a1_.1 : Nat) : Int), a1_)) ((getD a1_.1 (toNat 0) 0), (0 : Int))) fun r10_ =>
 .l (getD a1_.2 r10_ ([] : Y1))
noncomputable def wayg (a2_ : (HL [y1] → Option (Int))) (a1_ : (List Nat) × Y2) : Option Y1 := (wblv a2_ a1_).ev
noncomputable def wcdq : RetK := { acts := [.pull 4 800000, .ren 800000 0], res := [.tmp 4], sh := (yj [.arr 0]), obs := [Zav], pins := [], gone := [64] }
noncomputable def wayh : FD := yd (yj [.arr 64, .clo [y1] yi]) [Zp] [.arg 0] Y1 (fun x => wayg x.1.2.1 x.2.1) (fun r => ([.arr 0], [(0, .arr 3 yi r), (64, .spent)]))
noncomputable def wblw : Env := wac []
noncomputable def wblx : List (Nat × LD) := [(0, waey)]
noncomputable def wbly : Code := (f94.body).getD .skip
noncomputable def T_zd (a1_ : Y1) (a2_ : List Y1) : Tr Yan :=
 .c (Bool) (F_zu a1_ a2_) fun r1_ =>
 .t (!r1_)
 (.l (false, ([] : Y1)))
 (.c Yc (wahq ((length a1_ : Nat) : Int)) fun r2_ =>
 .c Y1 (wayg (fun h3_ => Option.bind (wzn a1_ a2_ h3_.1) fun y4_ => some y4_) r2_) fun r5_ =>
 .l (true, r5_))
noncomputable def F_zd (a1_ : Y1) (a2_ : List Y1) : Option Yan := (T_zd a1_ a2_).ev
noncomputable def K_zd : RetK := { acts := [.own 2 0 3 yi, .ren 832 0], res := [.tmp 2, .tmp 3], sh := (yj [.arr 0, .dat .bool]), obs := [Zav], pins := [] }
noncomputable def D_zd : FD := yd (yj [.agg Zf]) [] [] Yan (fun x => F_zd x.1.1.1 x.1.1.2.1) (fun r => ([.arr 0, .dat .bool r.1], [(0, .arr 3 yi r.2)]))
noncomputable def T_ze (a1_ : Y1) (a2_ : List Y1) : Tr Yae :=
 .c Yan (F_zd a1_ a2_) fun r1_ =>
 .t (!r1_.1)
 (.l ((0 : Int), false))
 (.c (Int) (wzn a1_ a2_ r1_.2) fun r2_ =>
 .l (r2_, true))
noncomputable def F_ze (a1_ : Y1) (a2_ : List Y1) : Option Yae := (T_ze a1_ a2_).ev
noncomputable def K_ze : RetK := yr [.tmp 2, .tmp 3] (yj [.dat yi, .dat .bool])
noncomputable def D_ze : FD := yd (yj [.agg Zf]) [] [] Yae (fun x => F_ze x.1.1.1 x.1.1.2.1) (fun r => ([.dat yi r.1, .dat .bool r.2], []))
noncomputable def wpc (k : Int × (Bool × Yn)) (v : Int × Int) : Tr (Yg ⊕ (Int)) :=
 .t (decide (v.2 ≤ ((length k.2.2.2.2 : Nat) : Int)))
 (.g (!decide (v.2 = 0)) <|
 .l (.inl ((wrap .i64 (v.1 + (wrap .i64 (Int.tdiv (420 : Int) v.2)))), (wrap .i64 (v.2 + 1)))))
 (.l (.inr v.1))
noncomputable def wgj (k : Int × (Bool × Yn)) (v : Int × Int) : Option (Int) := iter (fun v => (wpc k v).ev) v
noncomputable def waez : LD := ⟨{ acts := [], S := { slots := [3, 34, 35, 36, 38, 39], sh := (yj [.box 3 0, .dat yi, .dat .bool, .dat yi, .dat yi, .dat yi]), obs := [(3, .cells Zf)] } }, [(0, (yh [34, 35, 36, 38] (yj [.dat yi, .dat .bool, .dat yi, .dat yi])))], (yh [] .nil), Int × (Bool × Yn), Int × (Int), Int, fun k v => (((), (k.1, (k.2.1, (k.2.2.1, (v.1, (v.2, ())))))), ((k.2.2.2.1, (k.2.2.2.2, ())), ())), fun t => (t.1.2.1, (t.1.2.2.1, (t.1.2.2.2.1, (t.2.1.1, t.2.1.2.1)))), fun t => (t.1.2.2.2.2.1, t.1.2.2.2.2.2.1), wpc, fun k r => .l (.exit 0 (wav ((ys [34, 35, 36, 38] (yj [.dat yi, .dat .bool, .dat yi, .dat yi]))) ((k.1, (k.2.1, (k.2.2.1, (r, ())))), ())))⟩
noncomputable def wayi (a1_ : Y1) : Tr (Bool) :=
 .c (Bool) (waum a1_) fun r1_ =>
 .t r1_
 (.l true)
 (.c Yai (waux a1_) fun r2_ =>
 .c Yan (F_zs r2_.1 r2_.2) fun r3_ =>
 .c (Y1 × (Bool)) (wawd r2_.1 r2_.2) fun r4_ =>
 .c Y1 (wans a1_ (1 : Int)) fun r5_ =>
 .c Yap (wawv r5_) fun r6_ =>
 .c Ybb (F_zw r6_.1 r6_.2.1 r6_.2.2) fun r7_ =>
 .c Ybb (waxa r6_.1 r6_.2.1 r6_.2.2) fun r8_ =>
 .c Y1 (wans a1_ (2 : Int)) fun r9_ =>
 .c Yap (waxb r9_) fun r10_ =>
 .c (Int × Yan) (F_zy r10_.1 r10_.2.1 r10_.2.2) fun r11_ =>
 .c (Int × Yan) (wzm r10_.1 r10_.2.1 r10_.2.2) fun r12_ =>
 .t (!(r3_.1 == r4_.2))
 (.l false)
 (.c (Bool) (waow r3_.2 r4_.1) fun r13_ =>
 .t (!r13_)
 (.l false)
 (.t (!(r7_.1 == r8_.1))
 (.l false)
 (.t (!(r7_.2 == r8_.2))
 (.l false)
 (.t (!(r11_.2.1 == r12_.2.1))
 (.l false)
 (.t (r11_.1 != r12_.1)
 (.l false)
 (.c (Bool) (waow r11_.2.2 r12_.2.2) fun r14_ =>
 .t (!r14_)
 (.l false)
 (.t r7_.1
 (.c Ybb (F_zx r6_.1 r6_.2.1) fun r15_ =>
 .c Yae (wsm r6_.1 r6_.2.1 r6_.2.2) fun r16_ =>
 .c Yae (F_ze r6_.1 r6_.2.1) fun r17_ =>
 .t r15_.1
 (.t (decide ((wrap .i64 ((3 : Int) * r17_.1)) < r16_.1))
 (.l false)
 (.t r11_.2.1
 (.c Ybb (F_zw r10_.1 r10_.2.1 r11_.2.2) fun r18_ =>
 .c Yae (wsm r10_.1 r10_.2.1 r10_.2.2) fun r19_ =>
 .c Yae (wsm r10_.1 r10_.2.1 r11_.2.2) fun r20_ =>
 .t (!r18_.1)
 (.l false)
 (.t (decide ((wrap .i64 (r19_.1 - r11_.1)) < r20_.1))
 (.l false)
 (.t (!r3_.1)
 (.t (!r3_.1)
 (.l true)
 (.l (((length r3_.2 : Nat) : Int) == (1 : Int))))
 (.t (((length r2_.2 : Nat) : Int) == (0 : Int))
 (.t (!r3_.1)
 (.l true)
 (.l (((length r3_.2 : Nat) : Int) == (1 : Int))))
 (.c Yae (wsm r2_.1 r2_.2 r3_.2) fun r21_ =>
 .c Yae (F_ze r2_.1 r2_.2) fun r22_ =>
 .c (Int) (wgj (r21_.1, (r21_.2, (r22_.1, (r2_.1, r2_.2)))) ((0 : Int), (1 : Int))) fun r34_ =>
 .t r21_.2
 (.l (decide ((wrap .i64 ((420 : Int) * r21_.1)) ≤ (wrap .i64 (r34_ * r22_.1)))))
 (.l false))))))
 (.t (!r3_.1)
 (.t (!r3_.1)
 (.l true)
 (.l (((length r3_.2 : Nat) : Int) == (1 : Int))))
 (.t (((length r2_.2 : Nat) : Int) == (0 : Int))
 (.t (!r3_.1)
 (.l true)
 (.l (((length r3_.2 : Nat) : Int) == (1 : Int))))
 (.c Yae (wsm r2_.1 r2_.2 r3_.2) fun r35_ =>
 .c Yae (F_ze r2_.1 r2_.2) fun r36_ =>
 .c (Int) (wgj (r35_.1, (r35_.2, (r36_.1, (r2_.1, r2_.2)))) ((0 : Int), (1 : Int))) fun r37_ =>
 .t r35_.2
 (.l (decide ((wrap .i64 ((420 : Int) * r35_.1)) ≤ (wrap .i64 (r37_ * r36_.1)))))
 (.l false))))))
 (.t r11_.2.1
 (.c Ybb (F_zw r10_.1 r10_.2.1 r11_.2.2) fun r38_ =>
 .c Yae (wsm r10_.1 r10_.2.1 r10_.2.2) fun r39_ =>
 .c Yae (wsm r10_.1 r10_.2.1 r11_.2.2) fun r40_ =>
 .t (!r38_.1)
 (.l false)
 (.t (decide ((wrap .i64 (r39_.1 - r11_.1)) < r40_.1))
 (.l false)
 (.t (!r3_.1)
 (.t (!r3_.1)
 (.l true)
 (.l (((length r3_.2 : Nat) : Int) == (1 : Int))))
 (.t (((length r2_.2 : Nat) : Int) == (0 : Int))
 (.t (!r3_.1)
 (.l true)
 (.l (((length r3_.2 : Nat) : Int) == (1 : Int))))
 (.c Yae (wsm r2_.1 r2_.2 r3_.2) fun r41_ =>
 .c Yae (F_ze r2_.1 r2_.2) fun r42_ =>
 .c (Int) (wgj (r41_.1, (r41_.2, (r42_.1, (r2_.1, r2_.2)))) ((0 : Int), (1 : Int))) fun r43_ =>
 .t r41_.2
 (.l (decide ((wrap .i64 ((420 : Int) * r41_.1)) ≤ (wrap .i64 (r43_ * r42_.1)))))
 (.l false))))))
 (.t (!r3_.1)
 (.t (!r3_.1)
 (.l true)
 (.l (((length r3_.2 : Nat) : Int) == (1 : Int))))
 (.t (((length r2_.2 : Nat) : Int) == (0 : Int))
 (.t (!r3_.1)
 (.l true)
 (.l (((length r3_.2 : Nat) : Int) == (1 : Int))))
 (.c Yae (wsm r2_.1 r2_.2 r3_.2) fun r44_ =>
 .c Yae (F_ze r2_.1 r2_.2) fun r45_ =>
 .c (Int) (wgj (r44_.1, (r44_.2, (r45_.1, (r2_.1, r2_.2)))) ((0 : Int), (1 : Int))) fun r46_ =>
 .t r44_.2
 (.l (decide ((wrap .i64 ((420 : Int) * r44_.1)) ≤ (wrap .i64 (r46_ * r45_.1)))))
 (.l false))))))
 (.t r11_.2.1
 (.c Ybb (F_zw r10_.1 r10_.2.1 r11_.2.2) fun r47_ =>
 .c Yae (wsm r10_.1 r10_.2.1 r10_.2.2) fun r48_ =>
 .c Yae (wsm r10_.1 r10_.2.1 r11_.2.2) fun r49_ =>
 .t (!r47_.1)
 (.l false)
 (.t (decide ((wrap .i64 (r48_.1 - r11_.1)) < r49_.1))
 (.l false)
 (.t (!r3_.1)
 (.t (!r3_.1)
 (.l true)
 (.l (((length r3_.2 : Nat) : Int) == (1 : Int))))
 (.t (((length r2_.2 : Nat) : Int) == (0 : Int))
 (.t (!r3_.1)
 (.l true)
 (.l (((length r3_.2 : Nat) : Int) == (1 : Int))))
 (.c Yae (wsm r2_.1 r2_.2 r3_.2) fun r50_ =>
 .c Yae (F_ze r2_.1 r2_.2) fun r51_ =>
 .c (Int) (wgj (r50_.1, (r50_.2, (r51_.1, (r2_.1, r2_.2)))) ((0 : Int), (1 : Int))) fun r52_ =>
 .t r50_.2
 (.l (decide ((wrap .i64 ((420 : Int) * r50_.1)) ≤ (wrap .i64 (r52_ * r51_.1)))))
 (.l false))))))
 (.t (!r3_.1)
 (.t (!r3_.1)
 (.l true)
 (.l (((length r3_.2 : Nat) : Int) == (1 : Int))))
 (.t (((length r2_.2 : Nat) : Int) == (0 : Int))
 (.t (!r3_.1)
 (.l true)
 (.l (((length r3_.2 : Nat) : Int) == (1 : Int))))
 (.c Yae (wsm r2_.1 r2_.2 r3_.2) fun r53_ =>
 .c Yae (F_ze r2_.1 r2_.2) fun r54_ =>
 .c (Int) (wgj (r53_.1, (r53_.2, (r54_.1, (r2_.1, r2_.2)))) ((0 : Int), (1 : Int))) fun r55_ =>
 .t r53_.2
 (.l (decide ((wrap .i64 ((420 : Int) * r53_.1)) ≤ (wrap .i64 (r55_ * r54_.1)))))
 (.l false)))))))))))))
noncomputable def wbrl (a1_ : Y1) : Option (Bool) := (wayi a1_).ev
noncomputable def wcdv : RetK := yr [.tmp 2] Zm
noncomputable def wblz : FD := yd (yj [.dat Zaf]) [] [] Bool (fun x => wbrl x.1.1) (fun r => ([.dat .bool r], []))
noncomputable def wbma : Nat → Nat → List Nat := fun r i => match look [(5, [(1, [50])]), (6, [(2, [56])]), (9, [(2, [74])])] r with
 | some l => (look l i).getD []
 | none => []
noncomputable def wbmb : Env := wac [(57, wbdu), (70, wbey), (71, D_zs), (72, wbht), (62, wbhv), (73, wbjt), (74, D_zw), (75, wbkn), (76, wbkp), (77, D_zy), (78, wawu), (69, wbkr), (79, D_zx), (80, D_zz), (81, D_ze)]
noncomputable def wbmc : List (Nat × LD) := [(0, waez)]
noncomputable def wbmd : Code := (f8.body).getD .skip
end Go.Proofs.YtnagpmhaddfgmaaGreat
