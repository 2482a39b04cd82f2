/-
 The functions of the program that the claim reaches, told as typed functions. No conditions.
-/
import Derived.Test.YtnagpmhaddfgmaaC3
import Derived.Test.YtnagpmhaddfgmaaProg
namespace Go.Proofs.Ytnagpmhaddfgmaa
open Go.Proofs.Try
open List (length getD set)
open Int (toNat)
open IntKind (wrap)
noncomputable def wars (a1_ : Y1) (a2_ : Int) : Tr (Int) :=
 .t (decide ((wrap .i64 (a2_ - ((length a1_ : Nat) : Int))) < (0 : Int)))
 (.l (-1 : Int))
 (.l (wrap .i64 (a2_ - ((length a1_ : Nat) : Int))))
noncomputable def waaf (a1_ : Y1) (a2_ : Int) : Option (Int) := (wars a1_ a2_).ev
noncomputable def wbiu : RetK := yr [.tmp 4] Zf
noncomputable def waju : FD := yd (yj [.dat y1, .dat yi]) [] [] Int (fun x => waaf x.1.1 x.1.2.1) (fun r => ([.dat yi r], []))
noncomputable def wme (k : List Y1) (v : Int × Int) : Tr (Yc ⊕ ((Int) ⊕ (Unit))) :=
 .t (decide (v.2 < ((length k : Nat) : Int)))
 (.g (inR v.2 (length k)) <|
 .c (Int) (waaf (getD k (toNat v.2) ([] : Y1)) v.1) fun r4_ =>
 .t (decide (r4_ < 0))
 (.l (.inr (.inr ())))
 (.l (.inl (r4_, (wrap .i64 (v.2 + 1))))))
 (.l (.inr (.inl v.1)))
noncomputable def wuu (k : List Y1) (v : Int × Int) : Option ((Int) ⊕ (Unit)) := iter (fun v => (wme k v).ev) v
noncomputable def wxp : LD := ⟨(yh [0, 1, 5] (yj [.dat y2, .dat yi, .dat yi])), [(0, (yh [1] Zf))], (yh [4] Zf), List Y1, Int × (Int), (Int) ⊕ (Unit), fun k v => ((k, (v.1, (v.2, ()))), ()), fun t => t.1.1, fun t => (t.1.2.1, t.1.2.2.1), wme, fun _ r => .s (Int) (Unit) r (fun a => .l (.exit 0 (wbj ((ys [1] Zf)) ((a, ()), ())))) (fun _ => .l (.ret (wbj ((ys [4] Zf)) (((-1 : Int), ()), ()))))⟩
noncomputable def wart (a1_ : List Y1) (a2_ : Int) : Tr (Int) :=
 .t (decide ((wrap .i64 (a2_ - ((length a1_ : Nat) : Int))) < (0 : Int)))
 (.l (-1 : Int))
 (.c ((Int) ⊕ (Unit)) (wuu a1_ ((wrap .i64 (a2_ - ((length a1_ : Nat) : Int))), (0 : Int))) fun r7_ =>
 .s (Int) (Unit) r7_
 (fun r8_ => .l r8_)
 (fun _ => .l (-1 : Int)))
noncomputable def wajv (a1_ : List Y1) (a2_ : Int) : Option (Int) := (wart a1_ a2_).ev
noncomputable def wbiv : RetK := yr [.tmp 4] Zf
noncomputable def waru : FD := yd (yj [.dat y2, .dat yi]) [] [] Int (fun x => wajv x.1.1 x.1.2.1) (fun r => ([.dat yi r], []))
noncomputable def warv : Env := waa [(29, waju)]
noncomputable def warw : List (Nat × LD) := [(0, wxp)]
noncomputable def warx : Code := (f30.body).getD .skip
noncomputable def wary (a1_ : Y1) (a2_ : List Y1) (a3_ : Int) : Tr (Int) :=
 .c (Int) (waaf a1_ a3_) fun r1_ =>
 .t (decide (r1_ < 0))
 (.l (-1 : Int))
 (.c (Int) (wajv a2_ r1_) fun r2_ =>
 .t (decide (r2_ < 0))
 (.l (-1 : Int))
 (.l r2_))
noncomputable def wajw (a1_ : Y1) (a2_ : List Y1) (a3_ : Int) : Option (Int) := (wary a1_ a2_ a3_).ev
noncomputable def wbiw : RetK := yr [.tmp 4] Zf
noncomputable def warz : FD := yd (yj [.agg Zg, .dat yi]) [] [] Int (fun x => wajw x.1.1.1 x.1.1.2.1 x.1.2.1) (fun r => ([.dat yi r], []))
noncomputable def wmf (k : Y1) (v : Int × Y1) : Tr ((Int × Y1) ⊕ Y1) :=
 .t (decide (v.1 < ((length k : Nat) : Int)))
 (.g (inR v.1 (length k)) <|
 .g (inR v.1 (length v.2)) <|
 .g (decide ((toNat v.1) < length v.2)) <|
 .l (.inl ((wrap .i64 (v.1 + 1)), (set v.2 (toNat v.1) (getD k (toNat v.1) 0)))))
 (.l (.inr v.2))
noncomputable def waeq (k : Y1) (v : Int × Y1) : Option Y1 := iter (fun v => (wmf k v).ev) v
noncomputable def wxq : LD := ⟨{ acts := [], S := { slots := [0, 3, 4], sh := (yj [.dat y1, .arr 7, .dat yi]), obs := [(7, .arr 3 yi)] } }, [(0, { acts := [], S := { slots := [3], sh := (yj [.arr 7]), obs := [(7, .arr 3 yi)] } })], (yh [] .nil), Y1, Int × Y1, Y1, fun k v => ((k, ((), (v.1, ()))), (v.2, ())), fun t => t.1.1, fun t => (t.1.2.2.1, t.2.1), wmf, fun _ r => .l (.exit 0 (wbj ({ slots := [3], sh := (yj [.arr 7]), obs := [(7, .arr 3 yi)] }) (((), ()), (r, ()))))⟩
noncomputable def wasa (a1_ : Y1) : Tr Y1 :=
 .g (decide ((0 : Int) ≤ ((length a1_ : Nat) : Int)) && decide (((length a1_ : Nat) : Int) ≤ ((length a1_ : Nat) : Int)) && decide (((8 : Nat) : Int) * ((length a1_ : Nat) : Int) ≤ 281474976710656)) <|
 .c Y1 (waeq a1_ ((0 : Int), (List.replicate (toNat ((length a1_ : Nat) : Int)) (0 : Int)))) fun r5_ =>
 .l r5_
noncomputable def waer (a1_ : Y1) : Option Y1 := (wasa a1_).ev
noncomputable def wbix : RetK := { acts := [.ren 7 0], res := [.tmp 2], sh := (yj [.arr 0]), obs := [(0, .arr 3 yi)], pins := [] }
noncomputable def wajx : FD := yd (yj [.dat y1]) [] [] Y1 (fun x => waer x.1.1) (fun r => ([.arr 0], [(0, .arr 3 yi r)]))
noncomputable def wasb : Env := waa []
noncomputable def wasc : List (Nat × LD) := [(0, wxq)]
noncomputable def wasd : Code := (f33.body).getD .skip
noncomputable def wmg (k : List Y1) (v : Int × Y2) : Tr ((Int × Y2) ⊕ Y2) :=
 .t (decide (v.1 < ((length k : Nat) : Int)))
 (.g (inR v.1 (length k)) <|
 .c Y1 (waer (getD k (toNat v.1) ([] : Y1))) fun r4_ =>
 .g (inR v.1 (length v.2)) <|
 .g (decide ((toNat v.1) < length v.2)) <|
 .l (.inl ((wrap .i64 (v.1 + 1)), (set v.2 (toNat v.1) r4_))))
 (.l (.inr v.2))
noncomputable def waes (k : List Y1) (v : Int × Y2) : Option Y2 := iter (fun v => (wmg k v).ev) v
noncomputable def wxr : LD := ⟨{ acts := [], S := { slots := [0, 3, 4], sh := (yj [.dat y2, .arr 7, .dat yi]), obs := [(7, .rows 22 3 yi)] } }, [(0, { acts := [], S := { slots := [3], sh := (yj [.arr 7]), obs := [(7, .rows 22 3 yi)] } })], (yh [] .nil), List Y1, Int × Y2, List Y1, fun k v => ((k, ((), (v.1, ()))), (v.2, ())), fun t => t.1.1, fun t => (t.1.2.2.1, t.2.1), wmg, fun _ r => .l (.exit 0 (wbj ({ slots := [3], sh := (yj [.arr 7]), obs := [(7, .rows 22 3 yi)] }) (((), ()), (r, ()))))⟩
noncomputable def wase (a1_ : List Y1) : Tr Y2 :=
 .g (decide ((0 : Int) ≤ ((length a1_ : Nat) : Int)) && decide (((length a1_ : Nat) : Int) ≤ ((length a1_ : Nat) : Int)) && decide (((24 : Nat) : Int) * ((length a1_ : Nat) : Int) ≤ 281474976710656)) <|
 .c Y2 (waes a1_ ((0 : Int), (List.replicate (toNat ((length a1_ : Nat) : Int)) ([] : Y1)))) fun r6_ =>
 .l r6_
noncomputable def wajy (a1_ : List Y1) : Option Y2 := (wase a1_).ev
noncomputable def wbiy : RetK := { acts := [.ren 7 0], res := [.tmp 2], sh := (yj [.arr 0]), obs := [(0, .rows 22 3 yi)], pins := [] }
noncomputable def wasf : FD := yd (yj [.dat y2]) [] [] (List Y1) (fun x => wajy x.1.1) (fun r => ([.arr 0], [(0, .rows 22 3 yi r none)]))
noncomputable def wasg : Nat → Nat → List Nat := fun r i => match look [(1, [(2, [1000000])])] r with
 | some l => (look l i).getD []
 | none => []
noncomputable def wash : Env := waa [(33, wajx)]
noncomputable def wasi : List (Nat × LD) := [(0, wxr)]
noncomputable def wasj : Code := (f34.body).getD .skip
noncomputable def wask (a1_ : Y1) (a2_ : List Y1) : Tr Yl :=
 .c Y1 (waer a1_) fun r1_ =>
 .c Y2 (wajy a2_) fun r2_ =>
 .l (r1_, r2_)
noncomputable def wuv (a1_ : Y1) (a2_ : List Y1) : Option Yl := (wask a1_ a2_).ev
noncomputable def wbiz : RetK := { acts := [.ren 384 4, .ren 640 5], res := [.cell 2 29], sh := (yj [.agg (yj [.arr 4, .arr 5])]), obs := [(4, .arr 3 yi), (5, .rows 22 3 yi)], pins := [] }
noncomputable def wasl : FD := yd (yj [.agg Zg]) [] [] Yl (fun x => wuv x.1.1.1 x.1.1.2.1) (fun r => ([.agg [.arr 4, .arr 5]], [(4, .arr 3 yi r.1), (5, .rows 22 3 yi r.2 none)]))
noncomputable def wasm (a1_ : Int) (a2_ : Int) (a3_ : Int) : Tr (Bool) :=
 .t (decide (a2_ ≤ a1_))
 (.l (decide (a1_ ≤ a3_)))
 (.l false)
noncomputable def waag (a1_ : Int) (a2_ : Int) (a3_ : Int) : Option (Bool) := (wasm a1_ a2_ a3_).ev
noncomputable def wbja : RetK := yr [.tmp 6] Zj
noncomputable def waet : FD := yd (yj [.dat yi, .dat yi, .dat yi]) [] [] Bool (fun x => waag x.1.1 x.1.2.1 x.1.2.2.1) (fun r => ([.dat .bool r], []))
noncomputable def wmh (k : Y1 × Yc) (v : Int) : Tr ((Int) ⊕ ((Unit) ⊕ (Unit))) :=
 .t (decide (v < ((length k.1 : Nat) : Int)))
 (.g (inR v (length k.1)) <|
 .c (Bool) (waag (getD k.1 (toNat v) 0) (0 : Int) k.2.2) fun r5_ =>
 .t (!r5_)
 (.l (.inr (.inr ())))
 (.l (.inl (wrap .i64 (v + 1)))))
 (.l (.inr (.inl ())))
noncomputable def waeu (k : Y1 × Yc) (v : Int) : Option ((Unit) ⊕ (Unit)) := iter (fun v => (wmh k v).ev) v
noncomputable def wxs : LD := ⟨(yh [0, 1, 2, 7] (yj [.dat y1, .dat yi, .dat yi, .dat yi])), [(0, (yh [0, 1] (yj [.dat y1, .dat yi])))], (yh [6] Zj), Y1 × Yc, Int, (Unit) ⊕ (Unit), fun k v => ((k.1, (k.2.1, (k.2.2, (v, ())))), ()), fun t => (t.1.1, (t.1.2.1, t.1.2.2.1)), fun t => t.1.2.2.2.1, wmh, fun k r => .s (Unit) (Unit) r (fun _ => .l (.exit 0 (wbj ((ys [0, 1] (yj [.dat y1, .dat yi]))) ((k.1, (k.2.1, ())), ())))) (fun _ => .l (.ret (wbj ((ys [6] Zj)) ((false, ()), ()))))⟩
noncomputable def wasn (a1_ : Y1) (a2_ : Int) (a3_ : Int) : Tr (Bool) :=
 .c ((Unit) ⊕ (Unit)) (waeu (a1_, (a2_, a3_)) (0 : Int)) fun r9_ =>
 .s (Unit) (Unit) r9_
 (fun _ => .l (((length a1_ : Nat) : Int) == a2_))
 (fun _ => .l false)
noncomputable def waev (a1_ : Y1) (a2_ : Int) (a3_ : Int) : Option (Bool) := (wasn a1_ a2_ a3_).ev
noncomputable def wbjb : RetK := yr [.tmp 6] Zj
noncomputable def waso : FD := yd (yj [.dat y1, .dat yi, .dat yi]) [] [] Bool (fun x => waev x.1.1 x.1.2.1 x.1.2.2.1) (fun r => ([.dat .bool r], []))
noncomputable def wasp : Env := waa [(74, waet)]
noncomputable def wasq : List (Nat × LD) := [(0, wxs)]
noncomputable def wasr : Code := (f85.body).getD .skip
noncomputable def wmi (k : Int × Yl) (v : Int) : Tr ((Int) ⊕ ((Unit) ⊕ (Unit))) :=
 .t (decide (v < ((length k.2.2 : Nat) : Int)))
 (.g (inR v (length k.2.2)) <|
 .c (Bool) (waev (getD k.2.2 (toNat v) ([] : Y1)) k.1 (99 : Int)) fun r5_ =>
 .t (!r5_)
 (.l (.inr (.inr ())))
 (.l (.inl (wrap .i64 (v + 1)))))
 (.l (.inr (.inl ())))
noncomputable def waew (k : Int × Yl) (v : Int) : Option ((Unit) ⊕ (Unit)) := iter (fun v => (wmi k v).ev) v
noncomputable def wxt : LD := ⟨{ acts := [], S := { slots := [1, 3, 4], sh := (yj [.box 1 0, .dat yi, .dat yi]), obs := [(1, .cells Zg)] } }, [(0, { acts := [], S := { slots := [1, 3], sh := (yj [.box 1 0, .dat yi]), obs := [(1, .cells Zg)] } })], (yh [2] Zj), Int × Yl, Int, (Unit) ⊕ (Unit), fun k v => (((), (k.1, (v, ()))), ((k.2.1, (k.2.2, ())), ())), fun t => (t.1.2.1, (t.2.1.1, t.2.1.2.1)), fun t => t.1.2.2.1, wmi, fun k r => .s (Unit) (Unit) r (fun _ => .l (.exit 0 (wbj ({ slots := [1, 3], sh := (yj [.box 1 0, .dat yi]), obs := [(1, .cells Zg)] }) (((), (k.1, ())), ((k.2.1, (k.2.2, ())), ()))))) (fun _ => .l (.ret (wbj ((ys [2] Zj)) ((false, ()), ()))))⟩
noncomputable def wass (a1_ : Y1) (a2_ : List Y1) : Tr (Bool) :=
 .c ((Unit) ⊕ (Unit)) (waew (((length a1_ : Nat) : Int), (a1_, a2_)) (0 : Int)) fun r10_ =>
 .s (Unit) (Unit) r10_
 (fun _ => .c (Bool) (waag ((length a1_ : Nat) : Int) (1 : Int) (7 : Int)) fun r13_ =>
 .t r13_
 (.c (Bool) (waev a1_ ((length a1_ : Nat) : Int) (99 : Int)) fun r14_ =>
 .t r14_
 (.l (decide (((length a2_ : Nat) : Int) ≤ (7 : Int))))
 (.l false))
 (.l false))
 (fun _ => .l false)
noncomputable def wajz (a1_ : Y1) (a2_ : List Y1) : Option (Bool) := (wass a1_ a2_).ev
noncomputable def wbjc : RetK := yr [.tmp 2] Zj
noncomputable def wast : FD := yd (yj [.agg Zg]) [] [] Bool (fun x => wajz x.1.1.1 x.1.1.2.1) (fun r => ([.dat .bool r], []))
noncomputable def wasu : Env := waa [(85, waso), (74, waet)]
noncomputable def wasv : List (Nat × LD) := [(0, wxt)]
noncomputable def wasw : Code := (f55.body).getD .skip
noncomputable def wasx (a1_ : Int) : Tr (Bool) :=
 .c (Bool) (waag a1_ (1 : Int) (5 : Int)) fun r1_ =>
 .l r1_
noncomputable def waka (a1_ : Int) : Option (Bool) := (wasx a1_).ev
noncomputable def wbjd : RetK := yr [.tmp 2] Zj
noncomputable def wasy : FD := yd Zf [] [] Bool (fun x => waka x.1.1) (fun r => ([.dat .bool r], []))
noncomputable def wasz (a1_ : Y1) (a2_ : List Y1) (a3_ : Int) (a4_ : Int) : Tr (Bool) :=
 .c (Bool) (wajz a1_ a2_) fun r1_ =>
 .t r1_
 (.c (Bool) (waka a3_) fun r2_ =>
 .t r2_
 (.c (Bool) (waka a4_) fun r3_ =>
 .l r3_)
 (.l false))
 (.l false)
noncomputable def wakb (a1_ : Y1) (a2_ : List Y1) (a3_ : Int) (a4_ : Int) : Option (Bool) := (wasz a1_ a2_ a3_ a4_).ev
noncomputable def wbje : RetK := yr [.tmp 6] Zj
noncomputable def wata : FD := yd (yj [.agg Zg, .dat yi, .dat yi]) [] [] Bool (fun x => wakb x.1.1.1 x.1.1.2.1 x.1.2.1 x.1.2.2.1) (fun r => ([.dat .bool r], []))
noncomputable def waex (k : Int × Int) (v : Int × Y1) : Tr ((Int × Y1) ⊕ Y1) :=
 .t (decide (v.1 < k.1))
 (.g (decide (0 ≤ v.1)) <|
 .t ((wrap .i64 (BitVec.toNat ((BitVec.ofInt (IntKind.bits .i64) (Int.fdiv k.2 (2 ^ (min (toNat v.1) (IntKind.bits .i64))))) &&& (BitVec.ofInt (IntKind.bits .i64) (1 : Int))))) == (1 : Int))
 (.g (decide ((length v.2 + length ([v.1] : Y1)) * 8 ≤ 140737488355328)) <|
 .l (.inl ((wrap .i64 (v.1 + 1)), (v.2 ++ ([v.1] : Y1)))))
 (.l (.inl ((wrap .i64 (v.1 + 1)), v.2))))
 (.l (.inr v.2))
noncomputable def watb (k : Int × Int) (v : Int × Y1) : Option Y1 := iter (fun v => (waex k v).ev) v
noncomputable def wxu : LD := ⟨{ acts := [], S := { slots := [0, 1, 5, 6], sh := (yj [.dat yi, .dat yi, .arr 7, .dat yi]), obs := [(7, .arr 3 yi)] } }, [(0, { acts := [], S := { slots := [5], sh := (yj [.arr 7]), obs := [(7, .arr 3 yi)] } })], (yh [] .nil), Int × (Int), Int × Y1, Y1, fun k v => ((k.1, (k.2, ((), (v.1, ())))), (v.2, ())), fun t => (t.1.1, t.1.2.1), fun t => (t.1.2.2.2.1, t.2.1), waex, fun _ r => .l (.exit 0 (wbj ({ slots := [5], sh := (yj [.arr 7]), obs := [(7, .arr 3 yi)] }) (((), ()), (r, ()))))⟩
noncomputable def wbbk (a1_ : Int) (a2_ : Int) : Tr Y1 :=
 .c Y1 (watb (a1_, a2_) ((0 : Int), ([] : Y1))) fun r6_ =>
 .l r6_
noncomputable def wbbl (a1_ : Int) (a2_ : Int) : Option Y1 := (wbbk a1_ a2_).ev
noncomputable def wbjf : RetK := { acts := [.ren 7 0], res := [.tmp 4], sh := (yj [.arr 0]), obs := [(0, .arr 3 yi)], pins := [] }
noncomputable def watc : FD := yd Zm [] [] Y1 (fun x => wbbl x.1.1 x.1.2.1) (fun r => ([.arr 0], [(0, .arr 3 yi r)]))
noncomputable def watd : Env := waa []
noncomputable def wate : List (Nat × LD) := [(0, wxu)]
noncomputable def watf : Code := (f86.body).getD .skip
noncomputable def waey (k : Y1 × Y1) (v : Int) : Tr ((Int) ⊕ ((Unit) ⊕ (Bool))) :=
 .t (decide (v < ((length k.1 : Nat) : Int)))
 (.g (inR v (length k.1)) <|
 .g (inR v (length k.2)) <|
 .t ((getD k.1 (toNat v) 0) != (getD k.2 (toNat v) 0))
 (.g (inR v (length k.1)) <|
 .g (inR v (length k.2)) <|
 .l (.inr (.inr (decide ((getD k.1 (toNat v) 0) < (getD k.2 (toNat v) 0))))))
 (.l (.inl (wrap .i64 (v + 1)))))
 (.l (.inr (.inl ())))
noncomputable def watg (k : Y1 × Y1) (v : Int) : Option ((Unit) ⊕ (Bool)) := iter (fun v => (waey k v).ev) v
noncomputable def wxv : LD := ⟨(yh [0, 1, 5] (yj [.dat y1, .dat y1, .dat yi])), [(0, (yh [] .nil))], (yh [4] Zj), Y1 × Y1, Int, (Unit) ⊕ (Bool), fun k v => ((k.1, (k.2, (v, ()))), ()), fun t => (t.1.1, t.1.2.1), fun t => t.1.2.2.1, waey, fun _ r => .s (Unit) (Bool) r (fun _ => .l (.exit 0 (wbj ((ys [] .nil)) ((), ())))) (fun b => .l (.ret (wbj ((ys [4] Zj)) ((b, ()), ()))))⟩
noncomputable def wbbm (a1_ : Y1) (a2_ : Y1) : Tr (Bool) :=
 .t (((length a1_ : Nat) : Int) != ((length a2_ : Nat) : Int))
 (.l (decide (((length a1_ : Nat) : Int) < ((length a2_ : Nat) : Int))))
 (.c ((Unit) ⊕ (Bool)) (watg (a1_, a2_) (0 : Int)) fun r5_ =>
 .s (Unit) (Bool) r5_
 (fun _ => .l false)
 (fun r7_ => .l r7_))
noncomputable def wbbn (a1_ : Y1) (a2_ : Y1) : Option (Bool) := (wbbm a1_ a2_).ev
noncomputable def wbjg : RetK := yr [.tmp 4] Zj
noncomputable def wath : FD := yd (yj [.dat y1, .dat y1]) [] [] Bool (fun x => wbbn x.1.1 x.1.2.1) (fun r => ([.dat .bool r], []))
noncomputable def wati : Env := waa []
noncomputable def watj : List (Nat × LD) := [(0, wxv)]
noncomputable def watk : Code := (f87.body).getD .skip
noncomputable def waez (k : Int × (Y2 × (Int × Y1))) (v : Int) : Tr ((Int) ⊕ (Int)) :=
 .t (decide (0 < v))
 (.g (inR (wrap .i64 (v - 1)) (length k.2.1)) <|
 .c (Bool) (wbbn k.2.2.2 (getD k.2.1 (toNat (wrap .i64 (v - 1))) ([] : Y1))) fun r26_ =>
 .t r26_
 (.l (.inl (wrap .i64 (v - 1))))
 (.l (.inr v)))
 (.l (.inr v))
noncomputable def watl (k : Int × (Y2 × (Int × Y1))) (v : Int) : Option (Int) := iter (fun v => (waez k v).ev) v
noncomputable def wxw : LD := ⟨{ acts := [], S := { slots := [0, 3, 4, 5, 6], sh := (yj [.dat yi, .dat y2, .dat yi, .arr 1024, .dat yi]), obs := [(1024, .arr 3 yi)] } }, [(2, { acts := [], S := { slots := [0, 3, 4, 5, 6], sh := (yj [.dat yi, .dat y2, .dat yi, .arr 1024, .dat yi]), obs := [(1024, .arr 3 yi)] } })], (yh [] .nil), Int × (Y2 × (Int × Y1)), Int, Int, fun k v => ((k.1, (k.2.1, (k.2.2.1, ((), (v, ()))))), (k.2.2.2, ())), fun t => (t.1.1, (t.1.2.1, (t.1.2.2.1, t.2.1))), fun t => t.1.2.2.2.2.1, waez, fun k r => .l (.exit 2 (wbj ({ slots := [0, 3, 4, 5, 6], sh := (yj [.dat yi, .dat y2, .dat yi, .arr 1024, .dat yi]), obs := [(1024, .arr 3 yi)] }) ((k.1, (k.2.1, (k.2.2.1, ((), (r, ()))))), (k.2.2.2, ()))))⟩
noncomputable def wafa (k : Int) (v : Y2 × Int) : Tr ((Y2 × Int) ⊕ Y2) :=
 .g (decide (0 ≤ k)) <|
 .t (decide (v.2 < (wrap .i64 ((1 : Int) * 2 ^ (min (toNat k) (IntKind.bits .i64))))))
 (.c Y1 (wbbl k v.2) fun r20_ =>
 .c (Int) (watl (k, (v.1, (v.2, r20_))) ((length v.1 : Nat) : Int)) fun r32_ =>
 .g (decide (0 ≤ r32_) && decide (r32_ ≤ ((length v.1 : Nat) : Int))) <|
 .g (decide ((length ([] : List Y1) + length (List.drop 0 (List.take (toNat r32_) v.1))) * 24 ≤ 140737488355328)) <|
 .g (decide ((length (([] : List Y1) ++ (List.drop 0 (List.take (toNat r32_) v.1))) + length ([r20_] : List Y1)) * 24 ≤ 140737488355328)) <|
 .g (decide (0 ≤ r32_) && decide (r32_ ≤ ((length v.1 : Nat) : Int))) <|
 .g (decide ((length ((([] : List Y1) ++ (List.drop 0 (List.take (toNat r32_) v.1))) ++ ([r20_] : List Y1)) + length (List.drop (toNat r32_) (List.take (length v.1) v.1))) * 24 ≤ 140737488355328)) <|
 .l (.inl ((((([] : List Y1) ++ (List.drop 0 (List.take (toNat r32_) v.1))) ++ ([r20_] : List Y1)) ++ (List.drop (toNat r32_) (List.take (length v.1) v.1))), (wrap .i64 (v.2 + 1)))))
 (.l (.inr v.1))
noncomputable def watm (k : Int) (v : Y2 × Int) : Option Y2 := iter (fun v => (wafa k v).ev) v
noncomputable def wxx : LD := ⟨{ acts := [.fz 7, .fz 32], S := (ys [0, 3, 4] (yj [.dat yi, .dat y2, .dat yi])) }, [(0, (yh [3] (yj [.dat y2])))], (yh [] .nil), Int, Y2 × (Int), List Y1, fun k v => ((k, (v.1, (v.2, ()))), ()), fun t => t.1.1, fun t => (t.1.2.1, t.1.2.2.1), wafa, fun _ r => .l (.exit 0 (wbj ((ys [3] (yj [.dat y2]))) ((r, ()), ())))⟩
noncomputable def wbbo (a1_ : Int) : Tr Y2 :=
 .c Y2 (watm a1_ (([] : List Y1), (1 : Int))) fun r34_ =>
 .l r34_
noncomputable def wakc (a1_ : Int) : Option Y2 := (wbbo a1_).ev
noncomputable def wbjh : RetK := yr [.tmp 2] (yj [.dat y2])
noncomputable def watn : FD := yd Zf [] [] (List Y1) (fun x => wakc x.1.1) (fun r => ([.dat y2 r], []))
noncomputable def wakd : Nat → Nat → List Nat := fun r i => match look [(8, [(0, [3, 5])])] r with
 | some l => (look l i).getD []
 | none => []
noncomputable def wakf : Env := waa [(86, watc), (87, wath)]
noncomputable def wakg : List (Nat × LD) := [(2, wxw), (0, wxx)]
noncomputable def wakh : Code := (f57.body).getD .skip
noncomputable def wiy (k : Int × (Y1 × Yl)) (v : Int × Int) : Tr (Yc ⊕ (Int)) :=
 .t (decide (v.2 < ((length k.2.1 : Nat) : Int)))
 (.g (inR k.1 (length k.2.2.2)) <|
 .g (inR v.2 (length k.2.1)) <|
 .g (inR (getD k.2.1 (toNat v.2) 0) (length (getD k.2.2.2 (toNat k.1) ([] : Y1)))) <|
 .g (inR k.1 (length k.2.2.2)) <|
 .g (inR v.1 (length (getD k.2.2.2 (toNat k.1) ([] : Y1)))) <|
 .t (decide ((getD (getD k.2.2.2 (toNat k.1) ([] : Y1)) (toNat (getD k.2.1 (toNat v.2) 0)) (0 : Int)) < (getD (getD k.2.2.2 (toNat k.1) ([] : Y1)) (toNat v.1) (0 : Int))))
 (.g (inR v.2 (length k.2.1)) <|
 .l (.inl ((getD k.2.1 (toNat v.2) 0), (wrap .i64 (v.2 + 1)))))
 (.l (.inl (v.1, (wrap .i64 (v.2 + 1))))))
 (.l (.inr v.1))
noncomputable def wpy (k : Int × (Y1 × Yl)) (v : Int × Int) : Option (Int) := iter (fun v => (wiy k v).ev) v
noncomputable def wxy : LD := ⟨{ acts := [], S := { slots := [1, 2, 3, 7, 8], sh := (yj [.dat yi, .dat y1, .box 3 0, .dat yi, .dat yi]), obs := [(3, .cells Zg)] } }, [(0, (yh [7] Zf))], (yh [] .nil), Int × (Y1 × Yl), Int × (Int), Int, fun k v => ((k.1, (k.2.1, ((), (v.1, (v.2, ()))))), ((k.2.2.1, (k.2.2.2, ())), ())), fun t => (t.1.1, (t.1.2.1, (t.2.1.1, t.2.1.2.1))), fun t => (t.1.2.2.2.1, t.1.2.2.2.2.1), wiy, fun _ r => .l (.exit 0 (wbj ((ys [7] Zf)) ((r, ()), ())))⟩
noncomputable def wato (a1_ : Y1) (a2_ : List Y1) (a3_ : Int) (a4_ : Y1) : Tr (Int) :=
 .g (inR 0 (length a4_)) <|
 .c (Int) (wpy (a3_, (a4_, (a1_, a2_))) ((getD a4_ (toNat 0) 0), (1 : Int))) fun r8_ =>
 .l r8_
noncomputable def waki (a1_ : Y1) (a2_ : List Y1) (a3_ : Int) (a4_ : Y1) : Option (Int) := (wato a1_ a2_ a3_ a4_).ev
noncomputable def wbji : RetK := yr [.tmp 6] Zf
noncomputable def watp : FD := yd (yj [.agg Zg, .dat yi, .dat y1]) [] [] Int (fun x => waki x.1.1.1 x.1.1.2.1 x.1.2.1 x.1.2.2.1) (fun r => ([.dat yi r], []))
noncomputable def watq : Env := waa []
noncomputable def watr : List (Nat × LD) := [(0, wxy)]
noncomputable def wats : Code := (f126.body).getD .skip
noncomputable def watt (a1_ : Y1) (a2_ : List Y1) (a3_ : Int) (a4_ : Y1) : Tr (Int) :=
 .g (inR a3_ (length a2_)) <|
 .c (Int) (waki a1_ a2_ a3_ a4_) fun r1_ =>
 .g (inR r1_ (length (getD a2_ (toNat a3_) ([] : Y1)))) <|
 .l (getD (getD a2_ (toNat a3_) ([] : Y1)) (toNat r1_) (0 : Int))
noncomputable def wafb (a1_ : Y1) (a2_ : List Y1) (a3_ : Int) (a4_ : Y1) : Option (Int) := (watt a1_ a2_ a3_ a4_).ev
noncomputable def wbjj : RetK := yr [.tmp 6] Zf
noncomputable def wakj : FD := yd (yj [.agg Zg, .dat yi, .dat y1]) [] [] Int (fun x => wafb x.1.1.1 x.1.1.2.1 x.1.2.1 x.1.2.2.1) (fun r => ([.dat yi r], []))
noncomputable def wmj (k : Y1 × Yl) (v : Int × Int) : Tr (Yc ⊕ (Int)) :=
 .t (decide (v.2 < ((length k.2.2 : Nat) : Int)))
 (.c (Int) (wafb k.2.1 k.2.2 v.2 k.1) fun r6_ =>
 .l (.inl ((wrap .i64 (v.1 + r6_)), (wrap .i64 (v.2 + 1)))))
 (.l (.inr v.1))
noncomputable def wafc (k : Y1 × Yl) (v : Int × Int) : Option (Int) := iter (fun v => (wmj k v).ev) v
noncomputable def wxz : LD := ⟨{ acts := [], S := { slots := [1, 2, 5, 6], sh := (yj [.dat y1, .box 2 0, .dat yi, .dat yi]), obs := [(2, .cells Zg)] } }, [(0, (yh [5] Zf))], (yh [] .nil), Y1 × Yl, Int × (Int), Int, fun k v => ((k.1, ((), (v.1, (v.2, ())))), ((k.2.1, (k.2.2, ())), ())), fun t => (t.1.1, (t.2.1.1, t.2.1.2.1)), fun t => (t.1.2.2.1, t.1.2.2.2.1), wmj, fun _ r => .l (.exit 0 (wbj ((ys [5] Zf)) ((r, ()), ())))⟩
noncomputable def watu (a1_ : Y1) (a2_ : List Y1) (a3_ : Y1) : Tr (Int) :=
 .c (Int) (wafc (a3_, (a1_, a2_)) ((0 : Int), (0 : Int))) fun r8_ =>
 .l r8_
noncomputable def wafd (a1_ : Y1) (a2_ : List Y1) (a3_ : Y1) : Option (Int) := (watu a1_ a2_ a3_).ev
noncomputable def wbjk : RetK := yr [.tmp 4] Zf
noncomputable def wakk : FD := yd (yj [.agg Zg, .dat y1]) [] [] Int (fun x => wafd x.1.1.1 x.1.1.2.1 x.1.2.1) (fun r => ([.dat yi r], []))
noncomputable def watv : Env := waa [(104, wakj)]
noncomputable def watw : List (Nat × LD) := [(0, wxz)]
noncomputable def watx : Code := (f75.body).getD .skip
noncomputable def wmk (k : Y1 × Yl) (v : Int × Int) : Tr (Yc ⊕ (Int)) :=
 .t (decide (v.2 < ((length k.1 : Nat) : Int)))
 (.g (inR v.2 (length k.1)) <|
 .g (inR (getD k.1 (toNat v.2) 0) (length k.2.1)) <|
 .l (.inl ((wrap .i64 (v.1 + (getD k.2.1 (toNat (getD k.1 (toNat v.2) 0)) (0 : Int)))), (wrap .i64 (v.2 + 1)))))
 (.l (.inr v.1))
noncomputable def wafe (k : Y1 × Yl) (v : Int × Int) : Option (Int) := iter (fun v => (wmk k v).ev) v
noncomputable def wya : LD := ⟨{ acts := [], S := { slots := [1, 2, 5, 6], sh := (yj [.dat y1, .box 2 0, .dat yi, .dat yi]), obs := [(2, .cells Zg)] } }, [(0, (yh [5] Zf))], (yh [] .nil), Y1 × Yl, Int × (Int), Int, fun k v => ((k.1, ((), (v.1, (v.2, ())))), ((k.2.1, (k.2.2, ())), ())), fun t => (t.1.1, (t.2.1.1, t.2.1.2.1)), fun t => (t.1.2.2.1, t.1.2.2.2.1), wmk, fun _ r => .l (.exit 0 (wbj ((ys [5] Zf)) ((r, ()), ())))⟩
noncomputable def waty (a1_ : Y1) (a2_ : List Y1) (a3_ : Y1) : Tr (Int) :=
 .c (Int) (wafe (a3_, (a1_, a2_)) ((0 : Int), (0 : Int))) fun r7_ =>
 .l r7_
noncomputable def waff (a1_ : Y1) (a2_ : List Y1) (a3_ : Y1) : Option (Int) := (waty a1_ a2_ a3_).ev
noncomputable def wbjl : RetK := yr [.tmp 4] Zf
noncomputable def wakl : FD := yd (yj [.agg Zg, .dat y1]) [] [] Int (fun x => waff x.1.1.1 x.1.1.2.1 x.1.2.1) (fun r => ([.dat yi r], []))
noncomputable def watz : Env := waa []
noncomputable def waua : List (Nat × LD) := [(0, wya)]
noncomputable def waub : Code := (f76.body).getD .skip
noncomputable def wauc (a1_ : Y1) (a2_ : List Y1) (a3_ : Y1) : Tr (Int) :=
 .c (Int) (wafd a1_ a2_ a3_) fun r1_ =>
 .c (Int) (waff a1_ a2_ a3_) fun r2_ =>
 .l (wrap .i64 (r1_ + r2_))
noncomputable def wakm (a1_ : Y1) (a2_ : List Y1) (a3_ : Y1) : Option (Int) := (wauc a1_ a2_ a3_).ev
noncomputable def wbjm : RetK := yr [.tmp 4] Zf
noncomputable def waud : FD := yd (yj [.agg Zg, .dat y1]) [] [] Int (fun x => wakm x.1.1.1 x.1.1.2.1 x.1.2.1) (fun r => ([.dat yi r], []))
noncomputable def waue (a1_ : Int) (a2_ : Int) : Tr (Int) :=
 .t (decide (a2_ < a1_))
 (.l a1_)
 (.l a2_)
noncomputable def wakn (a1_ : Int) (a2_ : Int) : Option (Int) := (waue a1_ a2_).ev
noncomputable def wbjn : RetK := yr [.tmp 4] Zf
noncomputable def wauf : FD := yd Zm [] [] Int (fun x => wakn x.1.1 x.1.2.1) (fun r => ([.dat yi r], []))
noncomputable def wml (k : Y1 × Yl) (v : Int × Int) : Tr (Yc ⊕ (Int)) :=
 .t (decide (v.2 < ((length k.2.2 : Nat) : Int)))
 (.c (Int) (wafb k.2.1 k.2.2 v.2 k.1) fun r6_ =>
 .c (Int) (wakn v.1 r6_) fun r7_ =>
 .l (.inl (r7_, (wrap .i64 (v.2 + 1)))))
 (.l (.inr v.1))
noncomputable def wafg (k : Y1 × Yl) (v : Int × Int) : Option (Int) := iter (fun v => (wml k v).ev) v
noncomputable def wyb : LD := ⟨{ acts := [], S := { slots := [1, 2, 5, 6], sh := (yj [.dat y1, .box 2 0, .dat yi, .dat yi]), obs := [(2, .cells Zg)] } }, [(0, (yh [5] Zf))], (yh [] .nil), Y1 × Yl, Int × (Int), Int, fun k v => ((k.1, ((), (v.1, (v.2, ())))), ((k.2.1, (k.2.2, ())), ())), fun t => (t.1.1, (t.2.1.1, t.2.1.2.1)), fun t => (t.1.2.2.1, t.1.2.2.2.1), wml, fun _ r => .l (.exit 0 (wbj ((ys [5] Zf)) ((r, ()), ())))⟩
noncomputable def waug (a1_ : Y1) (a2_ : List Y1) (a3_ : Y1) : Tr (Int) :=
 .c (Int) (wafg (a3_, (a1_, a2_)) ((0 : Int), (0 : Int))) fun r9_ =>
 .l r9_
noncomputable def wako (a1_ : Y1) (a2_ : List Y1) (a3_ : Y1) : Option (Int) := (waug a1_ a2_ a3_).ev
noncomputable def wbjo : RetK := yr [.tmp 4] Zf
noncomputable def wauh : FD := yd (yj [.agg Zg, .dat y1]) [] [] Int (fun x => wako x.1.1.1 x.1.1.2.1 x.1.2.1) (fun r => ([.dat yi r], []))
noncomputable def waui : Env := waa [(104, wakj), (109, wauf)]
noncomputable def wauj : List (Nat × LD) := [(0, wyb)]
noncomputable def wauk : Code := (f89.body).getD .skip
noncomputable def waul (a1_ : Y1) (a2_ : List Y1) (a3_ : Y1) (a4_ : Int) : Tr (Int) :=
 .t (a4_ == 1)
 (.c (Int) (wafd a1_ a2_ a3_) fun r1_ =>
 .l r1_)
 (.t (a4_ == 2)
 (.c (Int) (waff a1_ a2_ a3_) fun r2_ =>
 .l r2_)
 (.t (a4_ == 3)
 (.c (Int) (wakm a1_ a2_ a3_) fun r3_ =>
 .l r3_)
 (.t (a4_ == 4)
 (.c (Int) (wako a1_ a2_ a3_) fun r4_ =>
 .l r4_)
 (.l ((length a3_ : Nat) : Int)))))
noncomputable def wafh (a1_ : Y1) (a2_ : List Y1) (a3_ : Y1) (a4_ : Int) : Option (Int) := (waul a1_ a2_ a3_ a4_).ev
noncomputable def wbjp : RetK := yr [.tmp 6] Zf
noncomputable def waum : FD := yd (yj [.agg Zg, .dat y1, .dat yi]) [] [] Int (fun x => wafh x.1.1.1 x.1.1.2.1 x.1.2.1 x.1.2.2.1) (fun r => ([.dat yi r], []))
noncomputable def waun (a1_ : Int) (a2_ : Int) (a3_ : Int) (a4_ : Int) : Tr (Bool) :=
 .g (inR 0 2) <|
 .g (inR 0 2) <|
 .t (decide (a1_ ≤ a3_))
 (.g (inR 1 2) <|
 .g (inR 1 2) <|
 .t (decide (a2_ ≤ a4_))
 (.l (!((a1_ == a3_) && ((a2_ == a4_) && true))))
 (.l false))
 (.l false)
noncomputable def waah (a1_ : Int) (a2_ : Int) (a3_ : Int) (a4_ : Int) : Option (Bool) := (waun a1_ a2_ a3_ a4_).ev
noncomputable def wbjq : RetK := yr [.tmp 4] Zj
noncomputable def wauo : FD := yd (yj [.agg Zm, .agg Zm]) [] [] Bool (fun x => waah x.1.1.1 x.1.1.2.1 x.1.2.1.1 x.1.2.1.2.1) (fun r => ([.dat .bool r], []))
noncomputable def wfn (k : (List Yc) × (Y2 × (Y1 × (Bool × (Int × (Int × Yk)))))) (v : Int) : Tr ((Int) ⊕ ((Unit) ⊕ (Unit))) :=
 .t (decide (v < ((length k.1 : Nat) : Int)))
 (.g (inR v (length k.1)) <|
 .t (((getD k.1 (toNat v) ((0 : Int), (0 : Int))).1 == k.2.2.2.2.1) && (((getD k.1 (toNat v) ((0 : Int), (0 : Int))).2 == k.2.2.2.2.2.1) && true))
 (.l (.inr (.inr ())))
 (.g (inR v (length k.1)) <|
 .c (Bool) (waah ((getD k.1 (toNat v) ((0 : Int), (0 : Int))).1) ((getD k.1 (toNat v) ((0 : Int), (0 : Int))).2) k.2.2.2.2.1 k.2.2.2.2.2.1) fun r10_ =>
 .t r10_
 (.l (.inr (.inr ())))
 (.l (.inl (wrap .i64 (v + 1))))))
 (.l (.inr (.inl ())))
noncomputable def wafi (k : (List Yc) × (Y2 × (Y1 × (Bool × (Int × (Int × Yk)))))) (v : Int) : Option ((Unit) ⊕ (Unit)) := iter (fun v => (wfn k v).ev) v
noncomputable def wyc : LD := ⟨{ acts := [], S := { slots := [0, 1, 3, 6, 10, 11, 12, 13], sh := (yj [.dat (.slice (.pair yi yi)), .dat y2, .dat y1, .box 6 0, .arr 15, .arr 16, .dat .bool, .dat yi]), obs := [(6, .cells Zm), (15, .arr 61 (.pair yi yi)), (16, .arr 22 y1)] } }, [(0, { acts := [], S := { slots := [0, 1, 3, 6, 10, 11, 12], sh := (yj [.dat (.slice (.pair yi yi)), .dat y2, .dat y1, .box 6 0, .arr 15, .arr 16, .dat .bool]), obs := [(6, .cells Zm), (15, .arr 61 (.pair yi yi)), (16, .arr 22 y1)] } })], (yh [8, 9] (yj [.dat (.slice (.pair yi yi)), .dat y2])), (List Yc) × (Y2 × (Y1 × (Bool × (Int × (Int × Yk))))), Int, (Unit) ⊕ (Unit), fun k v => ((k.1, (k.2.1, (k.2.2.1, ((), ((), ((), (k.2.2.2.1, (v, ())))))))), ((k.2.2.2.2.1, (k.2.2.2.2.2.1, ())), (k.2.2.2.2.2.2.1, (k.2.2.2.2.2.2.2, ())))), fun t => (t.1.1, (t.1.2.1, (t.1.2.2.1, (t.1.2.2.2.2.2.2.1, (t.2.1.1, (t.2.1.2.1, (t.2.2.1, t.2.2.2.1))))))), fun t => t.1.2.2.2.2.2.2.2.1, wfn, fun k r => .s (Unit) (Unit) r (fun _ => .l (.exit 0 (wbj ({ slots := [0, 1, 3, 6, 10, 11, 12], sh := (yj [.dat (.slice (.pair yi yi)), .dat y2, .dat y1, .box 6 0, .arr 15, .arr 16, .dat .bool]), obs := [(6, .cells Zm), (15, .arr 61 (.pair yi yi)), (16, .arr 22 y1)] }) ((k.1, (k.2.1, (k.2.2.1, ((), ((), ((), (k.2.2.2.1, ()))))))), ((k.2.2.2.2.1, (k.2.2.2.2.2.1, ())), (k.2.2.2.2.2.2.1, (k.2.2.2.2.2.2.2, ()))))))) (fun _ => .l (.ret (wbj ((ys [8, 9] (yj [.dat (.slice (.pair yi yi)), .dat y2]))) ((k.1, (k.2.1, ())), ()))))⟩
noncomputable def wec (k : (List Yc) × (Y2 × (Y1 × Yc))) (v : Bool × (Int × Yk)) : Tr ((Bool × (Int × Yk)) ⊕ (Bool × Yk)) :=
 .t (decide (v.2.1 < ((length k.1 : Nat) : Int)))
 (.g (inR v.2.1 (length k.1)) <|
 .c (Bool) (waah k.2.2.2.1 k.2.2.2.2 ((getD k.1 (toNat v.2.1) ((0 : Int), (0 : Int))).1) ((getD k.1 (toNat v.2.1) ((0 : Int), (0 : Int))).2)) fun r33_ =>
 .t r33_
 (.l (.inl (v.1, ((wrap .i64 (v.2.1 + 1)), (v.2.2.1, v.2.2.2)))))
 (.t (!v.1)
 (.g (inR v.2.1 (length k.1)) <|
 .g (inR 0 2) <|
 .g (inR 0 2) <|
 .t (decide (k.2.2.2.1 < (getD k.1 (toNat v.2.1) ((0 : Int), (0 : Int))).1))
 (.g (decide ((length v.2.2.1 + length ([(k.2.2.2.1, k.2.2.2.2)] : List Yc)) * 16 ≤ 140737488355328)) <|
 .g (decide ((length v.2.2.2 + length ([k.2.2.1] : List Y1)) * 24 ≤ 140737488355328)) <|
 .g (inR v.2.1 (length k.1)) <|
 .g (decide ((length (v.2.2.1 ++ ([(k.2.2.2.1, k.2.2.2.2)] : List Yc)) + length ([(getD k.1 (toNat v.2.1) ((0 : Int), (0 : Int)))] : List Yc)) * 16 ≤ 140737488355328)) <|
 .g (inR v.2.1 (length k.2.1)) <|
 .g (decide ((length (v.2.2.2 ++ ([k.2.2.1] : List Y1)) + length ([(getD k.2.1 (toNat v.2.1) ([] : Y1))] : List Y1)) * 24 ≤ 140737488355328)) <|
 .l (.inl (true, ((wrap .i64 (v.2.1 + 1)), (((v.2.2.1 ++ ([(k.2.2.2.1, k.2.2.2.2)] : List Yc)) ++ ([(getD k.1 (toNat v.2.1) ((0 : Int), (0 : Int)))] : List Yc)), ((v.2.2.2 ++ ([k.2.2.1] : List Y1)) ++ ([(getD k.2.1 (toNat v.2.1) ([] : Y1))] : List Y1)))))))
 (.g (inR v.2.1 (length k.1)) <|
 .g (decide ((length v.2.2.1 + length ([(getD k.1 (toNat v.2.1) ((0 : Int), (0 : Int)))] : List Yc)) * 16 ≤ 140737488355328)) <|
 .g (inR v.2.1 (length k.2.1)) <|
 .g (decide ((length v.2.2.2 + length ([(getD k.2.1 (toNat v.2.1) ([] : Y1))] : List Y1)) * 24 ≤ 140737488355328)) <|
 .l (.inl (v.1, ((wrap .i64 (v.2.1 + 1)), ((v.2.2.1 ++ ([(getD k.1 (toNat v.2.1) ((0 : Int), (0 : Int)))] : List Yc)), (v.2.2.2 ++ ([(getD k.2.1 (toNat v.2.1) ([] : Y1))] : List Y1))))))))
 (.g (inR v.2.1 (length k.1)) <|
 .g (decide ((length v.2.2.1 + length ([(getD k.1 (toNat v.2.1) ((0 : Int), (0 : Int)))] : List Yc)) * 16 ≤ 140737488355328)) <|
 .g (inR v.2.1 (length k.2.1)) <|
 .g (decide ((length v.2.2.2 + length ([(getD k.2.1 (toNat v.2.1) ([] : Y1))] : List Y1)) * 24 ≤ 140737488355328)) <|
 .l (.inl (v.1, ((wrap .i64 (v.2.1 + 1)), ((v.2.2.1 ++ ([(getD k.1 (toNat v.2.1) ((0 : Int), (0 : Int)))] : List Yc)), (v.2.2.2 ++ ([(getD k.2.1 (toNat v.2.1) ([] : Y1))] : List Y1)))))))))
 (.l (.inr (v.1, (v.2.2.1, v.2.2.2))))
noncomputable def wmm (k : (List Yc) × (Y2 × (Y1 × Yc))) (v : Bool × (Int × Yk)) : Option (Bool × Yk) := iter (fun v => (wec k v).ev) v
noncomputable def wyd : LD := ⟨{ acts := [], S := { slots := [0, 1, 3, 6, 10, 11, 12, 14], sh := (yj [.dat (.slice (.pair yi yi)), .dat y2, .dat y1, .box 6 0, .arr 15, .arr 16, .dat .bool, .dat yi]), obs := [(6, .cells Zm), (15, .arr 61 (.pair yi yi)), (16, .arr 22 y1)] } }, [(2, { acts := [], S := { slots := [3, 6, 10, 11, 12], sh := (yj [.dat y1, .box 6 0, .arr 15, .arr 16, .dat .bool]), obs := [(6, .cells Zm), (15, .arr 61 (.pair yi yi)), (16, .arr 22 y1)] } })], (yh [] .nil), (List Yc) × (Y2 × (Y1 × Yc)), Bool × (Int × Yk), Bool × Yk, fun k v => ((k.1, (k.2.1, (k.2.2.1, ((), ((), ((), (v.1, (v.2.1, ())))))))), ((k.2.2.2.1, (k.2.2.2.2, ())), (v.2.2.1, (v.2.2.2, ())))), fun t => (t.1.1, (t.1.2.1, (t.1.2.2.1, (t.2.1.1, t.2.1.2.1)))), fun t => (t.1.2.2.2.2.2.2.1, (t.1.2.2.2.2.2.2.2.1, (t.2.2.1, t.2.2.2.1))), wec, fun k r => .l (.exit 2 (wbj ({ slots := [3, 6, 10, 11, 12], sh := (yj [.dat y1, .box 6 0, .arr 15, .arr 16, .dat .bool]), obs := [(6, .cells Zm), (15, .arr 61 (.pair yi yi)), (16, .arr 22 y1)] }) ((k.2.2.1, ((), ((), ((), (r.1, ()))))), ((k.2.2.2.1, (k.2.2.2.2, ())), (r.2.1, (r.2.2, ()))))))⟩
noncomputable def waup (a1_ : List Yc) (a2_ : List Y1) (a3_ : Int) (a4_ : Int) (a5_ : Y1) : Tr Yk :=
 .c ((Unit) ⊕ (Unit)) (wafi (a1_, (a2_, (a5_, (false, (a3_, (a4_, (([] : List Yc), ([] : List Y1)))))))) (0 : Int)) fun r21_ =>
 .s (Unit) (Unit) r21_
 (fun _ => .c (Bool × Yk) (wmm (a1_, (a2_, (a5_, (a3_, a4_)))) (false, ((0 : Int), (([] : List Yc), ([] : List Y1))))) fun r40_ =>
 .t (!r40_.1)
 (.g (decide ((length r40_.2.1 + length ([(a3_, a4_)] : List Yc)) * 16 ≤ 140737488355328)) <|
 .g (decide ((length r40_.2.2 + length ([a5_] : List Y1)) * 24 ≤ 140737488355328)) <|
 .l ((r40_.2.1 ++ ([(a3_, a4_)] : List Yc)), (r40_.2.2 ++ ([a5_] : List Y1))))
 (.l (r40_.2.1, r40_.2.2)))
 (fun _ => .l (a1_, a2_))
noncomputable def wakp (a1_ : List Yc) (a2_ : List Y1) (a3_ : Int) (a4_ : Int) (a5_ : Y1) : Option Yk := (waup a1_ a2_ a3_ a4_ a5_).ev
noncomputable def wbjr : RetK := { acts := [.fz 15, .fz 16], res := [.tmp 8, .tmp 9], sh := (yj [.dat (.slice (.pair yi yi)), .dat y2]), obs := [], pins := [] }
noncomputable def wauq : FD := yd (yj [.dat (.slice (.pair yi yi)), .dat y2, .agg Zm, .dat y1]) [] [] Yk (fun x => wakp x.1.1 x.1.2.1 x.1.2.2.1.1 x.1.2.2.1.2.1 x.1.2.2.2.1) (fun r => ([.dat (.slice (.pair yi yi)) r.1, .dat y2 r.2], []))
noncomputable def wakq : Env := waa [(88, wauo)]
noncomputable def wakr : List (Nat × LD) := [(0, wyc), (2, wyd)]
noncomputable def waks : Code := (f58.body).getD .skip
noncomputable def wmn (k : Int × (Int × (Y2 × Yl))) (v : (List Yc) × (Y2 × Int)) : Tr (((List Yc) × (Y2 × Int)) ⊕ Yk) :=
 .t (decide (v.2.2 < ((length k.2.2.1 : Nat) : Int)))
 (.g (inR v.2.2 (length k.2.2.1)) <|
 .c (Int) (wafh k.2.2.2.1 k.2.2.2.2 (getD k.2.2.1 (toNat v.2.2) ([] : Y1)) k.1) fun r32_ =>
 .g (inR v.2.2 (length k.2.2.1)) <|
 .c (Int) (wafh k.2.2.2.1 k.2.2.2.2 (getD k.2.2.1 (toNat v.2.2) ([] : Y1)) k.2.1) fun r33_ =>
 .g (inR v.2.2 (length k.2.2.1)) <|
 .c Yk (wakp v.1 v.2.1 r32_ r33_ (getD k.2.2.1 (toNat v.2.2) ([] : Y1))) fun r34_ =>
 .l (.inl (r34_.1, (r34_.2, (wrap .i64 (v.2.2 + 1))))))
 (.l (.inr (v.1, v.2.1)))
noncomputable def wafj (k : Int × (Int × (Y2 × Yl))) (v : (List Yc) × (Y2 × Int)) : Option Yk := iter (fun v => (wmn k v).ev) v
noncomputable def wye : LD := ⟨{ acts := [.fz 12, .fz 13], S := { slots := [1, 2, 3, 8, 9, 10, 11], sh := (yj [.dat yi, .dat yi, .box 3 0, .dat (.slice (.pair yi yi)), .dat y2, .dat y2, .dat yi]), obs := [(3, .cells Zg)] } }, [(0, (yh [8, 9] (yj [.dat (.slice (.pair yi yi)), .dat y2])))], (yh [] .nil), Int × (Int × (Y2 × Yl)), (List Yc) × (Y2 × Int), (List Yc) × Y2, fun k v => ((k.1, (k.2.1, ((), (v.1, (v.2.1, (k.2.2.1, (v.2.2, ()))))))), ((k.2.2.2.1, (k.2.2.2.2, ())), ())), fun t => (t.1.1, (t.1.2.1, (t.1.2.2.2.2.2.1, (t.2.1.1, t.2.1.2.1)))), fun t => (t.1.2.2.2.1, (t.1.2.2.2.2.1, t.1.2.2.2.2.2.2.1)), wmn, fun _ r => .l (.exit 0 (wbj ((ys [8, 9] (yj [.dat (.slice (.pair yi yi)), .dat y2]))) ((r.1, (r.2, ())), ())))⟩
noncomputable def waur (a1_ : Y1) (a2_ : List Y1) (a3_ : Int) (a4_ : Int) : Tr Yk :=
 .c Y2 (wakc ((length a1_ : Nat) : Int)) fun r1_ =>
 .c Yk (wafj (a3_, (a4_, (r1_, (a1_, a2_)))) (([] : List Yc), (([] : List Y1), (0 : Int)))) fun r37_ =>
 .l (r37_.1, r37_.2)
noncomputable def wakt (a1_ : Y1) (a2_ : List Y1) (a3_ : Int) (a4_ : Int) : Option Yk := (waur a1_ a2_ a3_ a4_).ev
noncomputable def wbjs : RetK := yr [.tmp 6, .tmp 7] (yj [.dat (.slice (.pair yi yi)), .dat y2])
noncomputable def waus : FD := yd (yj [.agg Zg, .dat yi, .dat yi]) [] [] Yk (fun x => wakt x.1.1.1 x.1.1.2.1 x.1.2.1 x.1.2.2.1) (fun r => ([.dat (.slice (.pair yi yi)) r.1, .dat y2 r.2], []))
noncomputable def waut : Nat → Nat → List Nat := fun r i => match look [(1, [(1, [1000000])]), (5, [(0, [8, 9])])] r with
 | some l => (look l i).getD []
 | none => []
noncomputable def wauu : Env := waa [(57, watn), (59, waum), (58, wauq)]
noncomputable def wauv : List (Nat × LD) := [(0, wye)]
noncomputable def wauw : Code := (f32.body).getD .skip
noncomputable def waux (a1_ : Y1) (a2_ : List Y1) (a3_ : Int) (a4_ : Int) : Tr (Y2 × (Bool)) :=
 .c (Bool) (wakb a1_ a2_ a3_ a4_) fun r1_ =>
 .t (!r1_)
 (.l (([] : List Y1), false))
 (.c Yk (wakt a1_ a2_ a3_ a4_) fun r2_ =>
 .l (r2_.2, true))
noncomputable def waku (a1_ : Y1) (a2_ : List Y1) (a3_ : Int) (a4_ : Int) : Option (Y2 × (Bool)) := (waux a1_ a2_ a3_ a4_).ev
noncomputable def wbjt : RetK := { acts := [.fz 15], res := [.tmp 6, .tmp 7], sh := (yj [.dat y2, .dat .bool]), obs := [], pins := [] }
noncomputable def wauy : FD := yd (yj [.agg Zg, .dat yi, .dat yi]) [] [] (Y2 × (Bool)) (fun x => waku x.1.1.1 x.1.1.2.1 x.1.2.1 x.1.2.2.1) (fun r => ([.dat y2 r.1, .dat .bool r.2], []))
noncomputable def wbju : Nat → Nat → List Nat := fun r i => match look [(2, [(0, [1000000])])] r with
 | some l => (look l i).getD []
 | none => []
noncomputable def T_zv (a1_ : Int) (a2_ : Int) (a3_ : Int) : Tr (Bool) :=
 .t (decide (a2_ ≤ a1_))
 (.l (decide (a1_ ≤ a3_)))
 (.l false)
noncomputable def F_zv (a1_ : Int) (a2_ : Int) (a3_ : Int) : Option (Bool) := (T_zv a1_ a2_ a3_).ev
noncomputable def K_zv : RetK := yr [.tmp 6] Zj
noncomputable def D_zv : FD := yd (yj [.dat yi, .dat yi, .dat yi]) [] [] Bool (fun x => F_zv x.1.1 x.1.2.1 x.1.2.2.1) (fun r => ([.dat .bool r], []))
noncomputable def wmo (k : Y1 × (((HL [yi] → Option (Bool))) × Int)) (v : Int) : Tr ((Int) ⊕ ((Unit) ⊕ (Int))) :=
 .t (decide (v < k.2.2))
 (.g (inR v (length k.1)) <|
 .c (Bool) (k.2.1 ((getD k.1 (toNat v) 0), ())) fun r5_ =>
 .t r5_
 (.l (.inr (.inr v)))
 (.l (.inl (wrap .i64 (v + 1)))))
 (.l (.inr (.inl ())))
noncomputable def wafk (k : Y1 × (((HL [yi] → Option (Bool))) × Int)) (v : Int) : Option ((Unit) ⊕ (Int)) := iter (fun v => (wmo k v).ev) v
noncomputable def wyf : LD := ⟨(yh [0, 1, 7, 8] (yj [.dat y1, .clo [yi] .bool, .dat yi, .dat yi])), [(0, (yh [] .nil))], (yh [4] Zf), Y1 × (((HL [yi] → Option (Bool))) × Int), Int, (Unit) ⊕ (Int), fun k v => ((k.1, (k.2.1, (k.2.2, (v, ())))), ()), fun t => (t.1.1, (t.1.2.1, t.1.2.2.1)), fun t => t.1.2.2.2.1, wmo, fun _ r => .s (Unit) (Int) r (fun _ => .l (.exit 0 (wbj ((ys [] .nil)) ((), ())))) (fun b => .l (.ret (wbj ((ys [4] Zf)) ((b, ()), ()))))⟩
noncomputable def wauz (a1_ : Y1) (a2_ : (HL [yi] → Option (Bool))) : Tr (Int) :=
 .c ((Unit) ⊕ (Int)) (wafk (a1_, (a2_, ((length a1_ : Nat) : Int))) (0 : Int)) fun r7_ =>
 .s (Unit) (Int) r7_
 (fun _ => .l (-1 : Int))
 (fun r9_ => .l r9_)
noncomputable def wakv (a1_ : Y1) (a2_ : (HL [yi] → Option (Bool))) : Option (Int) := (wauz a1_ a2_).ev
noncomputable def wbjw : RetK := yr [.tmp 4] Zf
noncomputable def wava : FD := yd (yj [.dat y1, .clo [yi] .bool]) [] [] Int (fun x => wakv x.1.1 x.1.2.1) (fun r => ([.dat yi r], []))
noncomputable def wavb : Env := waa []
noncomputable def wavc : List (Nat × LD) := [(0, wyf)]
noncomputable def wavd : Code := (f127.body).getD .skip
noncomputable def wave (a1_ : Y1) (a2_ : (HL [yi] → Option (Bool))) : Tr (Bool) :=
 .c (Int) (wakv a1_ a2_) fun r1_ =>
 .l (decide (0 ≤ r1_))
noncomputable def wakw (a1_ : Y1) (a2_ : (HL [yi] → Option (Bool))) : Option (Bool) := (wave a1_ a2_).ev
noncomputable def wbjx : RetK := yr [.tmp 4] Zj
noncomputable def wakx : FD := yd (yj [.dat y1, .clo [yi] .bool]) [] [] Bool (fun x => wakw x.1.1 x.1.2.1) (fun r => ([.dat .bool r], []))
noncomputable def T_zs (a1_ : Int) (a2_ : Int) (a3_ : Int) : Tr (Bool) :=
 .c (Bool) (F_zv a1_ a2_ a3_) fun r1_ =>
 .l (!r1_)
noncomputable def F_zs (a1_ : Int) (a2_ : Int) (a3_ : Int) : Option (Bool) := (T_zs a1_ a2_ a3_).ev
noncomputable def K_zs : RetK := yr [.tmp 4] Zj
noncomputable def D_zs : FD := yd (yj [.dat yi, .ptr Zf, .ptr Zf]) [] [] Bool (fun x => F_zs x.1.1 x.1.2.1.1 x.1.2.2.1.1) (fun r => ([.dat .bool r], []))
noncomputable def T_zr (a1_ : Y1) (a2_ : Int) (a3_ : Int) : Tr (Bool) :=
 .c (Bool) (wakw a1_ (fun h1_ => Option.bind (F_zs h1_.1 a2_ a3_) fun y2_ => some y2_)) fun r3_ =>
 .l (!r3_)
noncomputable def F_zr (a1_ : Y1) (a2_ : Int) (a3_ : Int) : Option (Bool) := (T_zr a1_ a2_ a3_).ev
noncomputable def K_zr : RetK := yr [.tmp 6] Zj
noncomputable def D_zr : FD := yd (yj [.dat y1, .dat yi, .dat yi]) [] [] Bool (fun x => F_zr x.1.1 x.1.2.1 x.1.2.2.1) (fun r => ([.dat .bool r], []))
noncomputable def wmp (k : Y2 × (((HL [y1] → Option (Bool))) × Int)) (v : Int) : Tr ((Int) ⊕ ((Unit) ⊕ (Int))) :=
 .t (decide (v < k.2.2))
 (.g (inR v (length k.1)) <|
 .c (Bool) (k.2.1 ((getD k.1 (toNat v) ([] : Y1)), ())) fun r5_ =>
 .t r5_
 (.l (.inr (.inr v)))
 (.l (.inl (wrap .i64 (v + 1)))))
 (.l (.inr (.inl ())))
noncomputable def wafl (k : Y2 × (((HL [y1] → Option (Bool))) × Int)) (v : Int) : Option ((Unit) ⊕ (Int)) := iter (fun v => (wmp k v).ev) v
noncomputable def wyg : LD := ⟨(yh [0, 1, 7, 8] (yj [.dat y2, .clo [y1] .bool, .dat yi, .dat yi])), [(0, (yh [] .nil))], (yh [4] Zf), Y2 × (((HL [y1] → Option (Bool))) × Int), Int, (Unit) ⊕ (Int), fun k v => ((k.1, (k.2.1, (k.2.2, (v, ())))), ()), fun t => (t.1.1, (t.1.2.1, t.1.2.2.1)), fun t => t.1.2.2.2.1, wmp, fun _ r => .s (Unit) (Int) r (fun _ => .l (.exit 0 (wbj ((ys [] .nil)) ((), ())))) (fun b => .l (.ret (wbj ((ys [4] Zf)) ((b, ()), ()))))⟩
noncomputable def wavf (a1_ : List Y1) (a2_ : (HL [y1] → Option (Bool))) : Tr (Int) :=
 .c ((Unit) ⊕ (Int)) (wafl (a1_, (a2_, ((length a1_ : Nat) : Int))) (0 : Int)) fun r7_ =>
 .s (Unit) (Int) r7_
 (fun _ => .l (-1 : Int))
 (fun r9_ => .l r9_)
noncomputable def waky (a1_ : List Y1) (a2_ : (HL [y1] → Option (Bool))) : Option (Int) := (wavf a1_ a2_).ev
noncomputable def wbkc : RetK := yr [.tmp 4] Zf
noncomputable def wavg : FD := yd (yj [.dat y2, .clo [y1] .bool]) [] [] Int (fun x => waky x.1.1 x.1.2.1) (fun r => ([.dat yi r], []))
noncomputable def wavh : Env := waa []
noncomputable def wavi : List (Nat × LD) := [(0, wyg)]
noncomputable def wavj : Code := (f107.body).getD .skip
noncomputable def wavk (a1_ : List Y1) (a2_ : (HL [y1] → Option (Bool))) : Tr (Bool) :=
 .c (Int) (waky a1_ a2_) fun r1_ =>
 .l (decide (0 ≤ r1_))
noncomputable def wakz (a1_ : List Y1) (a2_ : (HL [y1] → Option (Bool))) : Option (Bool) := (wavk a1_ a2_).ev
noncomputable def wbkd : RetK := yr [.tmp 4] Zj
noncomputable def wala : FD := yd (yj [.dat y2, .clo [y1] .bool]) [] [] Bool (fun x => wakz x.1.1 x.1.2.1) (fun r => ([.dat .bool r], []))
noncomputable def T_zq (a1_ : Y1) (a2_ : Y1) (_a3_ : List Y1) : Tr (Bool) :=
 .t (((length a1_ : Nat) : Int) != ((length a2_ : Nat) : Int))
 (.l true)
 (.c (Bool) (F_zr a1_ (0 : Int) (99 : Int)) fun r1_ =>
 .l (!r1_))
noncomputable def F_zq (a1_ : Y1) (a2_ : Y1) (a3_ : List Y1) : Option (Bool) := (T_zq a1_ a2_ a3_).ev
noncomputable def K_zq : RetK := yr [.tmp 3] Zj
noncomputable def D_zq : FD := yd (yj [.dat y1, .ptr Zg]) [] [] Bool (fun x => F_zq x.1.1 x.1.2.1.1 x.1.2.1.2.1) (fun r => ([.dat .bool r], []))
noncomputable def T_zp (a1_ : Y1) (a2_ : List Y1) : Tr (Bool) :=
 .c (Bool) (F_zv ((length a1_ : Nat) : Int) (1 : Int) (7 : Int)) fun r1_ =>
 .t r1_
 (.c (Bool) (F_zr a1_ (0 : Int) (99 : Int)) fun r2_ =>
 .t r2_
 (.t (decide (((length a2_ : Nat) : Int) ≤ (7 : Int)))
 (.c (Bool) (wakz a2_ (fun h3_ => Option.bind (F_zq h3_.1 a1_ a2_) fun y4_ => some y4_)) fun r5_ =>
 .l (!r5_))
 (.l false))
 (.l false))
 (.l false)
noncomputable def F_zp (a1_ : Y1) (a2_ : List Y1) : Option (Bool) := (T_zp a1_ a2_).ev
noncomputable def K_zp : RetK := yr [.tmp 2] Zj
noncomputable def D_zp : FD := yd (yj [.agg Zg]) [] [] Bool (fun x => F_zp x.1.1.1 x.1.1.2.1) (fun r => ([.dat .bool r], []))
noncomputable def T_zy (a1_ : Int) : Tr (Bool) :=
 .c (Bool) (F_zv a1_ (1 : Int) (5 : Int)) fun r1_ =>
 .l r1_
noncomputable def F_zy (a1_ : Int) : Option (Bool) := (T_zy a1_).ev
noncomputable def K_zy : RetK := yr [.tmp 2] Zj
noncomputable def D_zy : FD := yd Zf [] [] Bool (fun x => F_zy x.1.1) (fun r => ([.dat .bool r], []))
noncomputable def T_zx (a1_ : Y1) (a2_ : List Y1) (a3_ : Int) (a4_ : Int) : Tr (Bool) :=
 .c (Bool) (F_zp a1_ a2_) fun r1_ =>
 .t r1_
 (.c (Bool) (F_zy a3_) fun r2_ =>
 .t r2_
 (.c (Bool) (F_zy a4_) fun r3_ =>
 .l r3_)
 (.l false))
 (.l false)
noncomputable def F_zx (a1_ : Y1) (a2_ : List Y1) (a3_ : Int) (a4_ : Int) : Option (Bool) := (T_zx a1_ a2_ a3_ a4_).ev
noncomputable def K_zx : RetK := yr [.tmp 6] Zj
noncomputable def D_zx : FD := yd (yj [.agg Zg, .dat yi, .dat yi]) [] [] Bool (fun x => F_zx x.1.1.1 x.1.1.2.1 x.1.2.1 x.1.2.2.1) (fun r => ([.dat .bool r], []))
noncomputable def F_zd (a1_ : Y1) (a2_ : List Y1) (a3_ : Int) (a4_ : Int) : Option (List Yc × List Y1) := wlq F_zz whn a1_ a2_ a3_ a4_
noncomputable def D_zd : FD := wuh F_zz whn
noncomputable def T_zo (a1_ : Y1) (a2_ : List Y1) (a3_ : Int) (a4_ : Int) : Tr (Bool × Y2) :=
 .c (Bool) (F_zx a1_ a2_ a3_ a4_) fun r1_ =>
 .t (!r1_)
 (.l (false, ([] : List Y1)))
 (.c Yk (F_zd a1_ a2_ a3_ a4_) fun r2_ =>
 .l (true, r2_.2))
noncomputable def F_zo (a1_ : Y1) (a2_ : List Y1) (a3_ : Int) (a4_ : Int) : Option (Bool × Y2) := (T_zo a1_ a2_ a3_ a4_).ev
noncomputable def K_zo : RetK := { acts := [.ownR 6 0 22 3 yi, .ren 1217 0], res := [.tmp 6, .tmp 7], sh := (yj [.arr 0, .dat .bool]), obs := [(0, .rows 22 3 yi)], pins := [] }
noncomputable def D_zo : FD := yd (yj [.agg Zg, .dat yi, .dat yi]) [] [] (Bool × Y2) (fun x => F_zo x.1.1.1 x.1.1.2.1 x.1.2.1 x.1.2.2.1) (fun r => ([.arr 0, .dat .bool r.1], [(0, .rows 22 3 yi r.2 none)]))
noncomputable def wmq (k : Y1 × Y1) (v : Int) : Tr ((Int) ⊕ ((Unit) ⊕ (Unit))) :=
 .t (decide (v < ((length k.1 : Nat) : Int)))
 (.g (inR v (length k.1)) <|
 .g (inR v (length k.2)) <|
 .t ((getD k.1 (toNat v) 0) != (getD k.2 (toNat v) 0))
 (.l (.inr (.inr ())))
 (.l (.inl (wrap .i64 (v + 1)))))
 (.l (.inr (.inl ())))
noncomputable def wafm (k : Y1 × Y1) (v : Int) : Option ((Unit) ⊕ (Unit)) := iter (fun v => (wmq k v).ev) v
noncomputable def wyh : LD := ⟨(yh [0, 1, 5] (yj [.dat y1, .dat y1, .dat yi])), [(0, (yh [] .nil))], (yh [4] Zj), Y1 × Y1, Int, (Unit) ⊕ (Unit), fun k v => ((k.1, (k.2, (v, ()))), ()), fun t => (t.1.1, t.1.2.1), fun t => t.1.2.2.1, wmq, fun _ r => .s (Unit) (Unit) r (fun _ => .l (.exit 0 (wbj ((ys [] .nil)) ((), ())))) (fun _ => .l (.ret (wbj ((ys [4] Zj)) ((false, ()), ()))))⟩
noncomputable def wavl (a1_ : Y1) (a2_ : Y1) : Tr (Bool) :=
 .t (((length a1_ : Nat) : Int) != ((length a2_ : Nat) : Int))
 (.l false)
 (.c ((Unit) ⊕ (Unit)) (wafm (a1_, a2_) (0 : Int)) fun r5_ =>
 .s (Unit) (Unit) r5_
 (fun _ => .l true)
 (fun _ => .l false))
noncomputable def wafn (a1_ : Y1) (a2_ : Y1) : Option (Bool) := (wavl a1_ a2_).ev
noncomputable def wbkp : RetK := yr [.tmp 4] Zj
noncomputable def walb : FD := yd (yj [.dat y1, .dat y1]) [] [] Bool (fun x => wafn x.1.1 x.1.2.1) (fun r => ([.dat .bool r], []))
noncomputable def wavm : Env := waa []
noncomputable def wavn : List (Nat × LD) := [(0, wyh)]
noncomputable def wavo : Code := (f37.body).getD .skip
noncomputable def wmr (k : Y2 × Y2) (v : Int) : Tr ((Int) ⊕ ((Unit) ⊕ (Unit))) :=
 .t (decide (v < ((length k.1 : Nat) : Int)))
 (.g (inR v (length k.1)) <|
 .g (inR v (length k.2)) <|
 .c (Bool) (wafn (getD k.1 (toNat v) ([] : Y1)) (getD k.2 (toNat v) ([] : Y1))) fun r4_ =>
 .t (!r4_)
 (.l (.inr (.inr ())))
 (.l (.inl (wrap .i64 (v + 1)))))
 (.l (.inr (.inl ())))
noncomputable def wafo (k : Y2 × Y2) (v : Int) : Option ((Unit) ⊕ (Unit)) := iter (fun v => (wmr k v).ev) v
noncomputable def wyi : LD := ⟨(yh [0, 1, 5] (yj [.dat y2, .dat y2, .dat yi])), [(0, (yh [] .nil))], (yh [4] Zj), Y2 × Y2, Int, (Unit) ⊕ (Unit), fun k v => ((k.1, (k.2, (v, ()))), ()), fun t => (t.1.1, t.1.2.1), fun t => t.1.2.2.1, wmr, fun _ r => .s (Unit) (Unit) r (fun _ => .l (.exit 0 (wbj ((ys [] .nil)) ((), ())))) (fun _ => .l (.ret (wbj ((ys [4] Zj)) ((false, ()), ()))))⟩
noncomputable def wavp (a1_ : List Y1) (a2_ : List Y1) : Tr (Bool) :=
 .t (((length a1_ : Nat) : Int) != ((length a2_ : Nat) : Int))
 (.l false)
 (.c ((Unit) ⊕ (Unit)) (wafo (a1_, a2_) (0 : Int)) fun r6_ =>
 .s (Unit) (Unit) r6_
 (fun _ => .l true)
 (fun _ => .l false))
noncomputable def wuw (a1_ : List Y1) (a2_ : List Y1) : Option (Bool) := (wavp a1_ a2_).ev
noncomputable def wbkq : RetK := yr [.tmp 4] Zj
noncomputable def walc : FD := yd (yj [.dat y2, .dat y2]) [] [] Bool (fun x => wuw x.1.1 x.1.2.1) (fun r => ([.dat .bool r], []))
noncomputable def wavq : Env := waa [(37, walb)]
noncomputable def wavr : List (Nat × LD) := [(0, wyi)]
noncomputable def wavs : Code := (f10.body).getD .skip
noncomputable def wavt (a1_ : Y1) (a2_ : List Y1) (a3_ : Y1) (a4_ : List Y1) : Tr (Bool) :=
 .c (Bool) (wafn a1_ a3_) fun r1_ =>
 .t (!r1_)
 (.l false)
 (.c (Bool) (wuw a2_ a4_) fun r2_ =>
 .t (!r2_)
 (.l false)
 (.l true))
noncomputable def wald (a1_ : Y1) (a2_ : List Y1) (a3_ : Y1) (a4_ : List Y1) : Option (Bool) := (wavt a1_ a2_ a3_ a4_).ev
noncomputable def wbkr : RetK := yr [.tmp 4] Zj
noncomputable def wavu : FD := yd (yj [.agg Zg, .agg Zg]) [] [] Bool (fun x => wald x.1.1.1 x.1.1.2.1 x.1.2.1.1 x.1.2.1.2.1) (fun r => ([.dat .bool r], []))
noncomputable def wms (_k : Unit) (v : Int × (Int × Y1)) : Tr ((Int × (Int × Y1)) ⊕ (Int × Y1)) :=
 .t (decide (v.2.1 < ((length v.2.2 : Nat) : Int)))
 (.g (inR v.2.1 (length v.2.2)) <|
 .g (decide ((toNat v.2.1) < length v.2.2)) <|
 .l (.inl ((wrap .i64 (v.1 + 1)), ((wrap .i64 (v.2.1 + 1)), (set v.2.2 (toNat v.2.1) v.1)))))
 (.l (.inr (v.1, v.2.2)))
noncomputable def wafp (k : Unit) (v : Int × (Int × Y1)) : Option (Int × Y1) := iter (fun v => (wms k v).ev) v
noncomputable def wyj : LD := ⟨{ acts := [], S := { slots := [0, 1, 5], sh := Zn, obs := [(64, .arr 3 yi)] } }, [(0, { acts := [], S := { slots := [0, 1], sh := (yj [.arr 64, .dat yi]), obs := [(64, .arr 3 yi)] } })], (yh [] .nil), Unit, Int × (Int × Y1), Int × Y1, fun _ v => (((), (v.1, (v.2.1, ()))), (v.2.2, ())), fun _ => (), fun t => (t.1.2.1, (t.1.2.2.1, t.2.1)), wms, fun _ r => .l (.exit 0 (wbj ({ slots := [0, 1], sh := (yj [.arr 64, .dat yi]), obs := [(64, .arr 3 yi)] }) (((), (r.1, ())), (r.2, ()))))⟩
noncomputable def wavv (a2_ : Int) (a1_ : Y1) : Tr (Int × Y1) :=
 .c (Int × Y1) (wafp () (a2_, ((0 : Int), a1_))) fun r6_ =>
 .l (r6_.1, r6_.2)
noncomputable def wafq (a2_ : Int) (a1_ : Y1) : Option (Int × Y1) := (wavv a2_ a1_).ev
noncomputable def wbks : RetK := { acts := [], res := [.tmp 4], sh := Zf, obs := [(64, .arr 3 yi)], pins := [(0, 0, 64)] }
noncomputable def wale : FD := yd (yj [.arr 64, .dat yi]) [(64, .arr 3 yi)] [.arg 0] (Int × Y1) (fun x => wafq x.1.2.1 x.2.1) (fun r => ([.dat yi r.1], [(64, .arr 3 yi r.2)]))
noncomputable def wavw : Env := waa []
noncomputable def wavx : List (Nat × LD) := [(0, wyj)]
noncomputable def wavy : Code := (f38.body).getD .skip
noncomputable def wmt (_k : Unit) (v : Int × (Int × Y2)) : Tr ((Int × (Int × Y2)) ⊕ (Int × Y2)) :=
 .t (decide (v.2.1 < ((length v.2.2 : Nat) : Int)))
 (.g (inR v.2.1 (length v.2.2)) <|
 .g (decide ((toNat v.2.1) < length v.2.2)) <|
 .c (Int × Y1) (wafq v.1 (getD v.2.2 (toNat v.2.1) ([] : Y1))) fun r4_ =>
 .l (.inl (r4_.1, ((wrap .i64 (v.2.1 + 1)), (set v.2.2 (toNat v.2.1) r4_.2)))))
 (.l (.inr (v.1, v.2.2)))
noncomputable def wafr (k : Unit) (v : Int × (Int × Y2)) : Option (Int × Y2) := iter (fun v => (wmt k v).ev) v
noncomputable def wyk : LD := ⟨{ acts := [.fz 500015], S := { slots := [0, 1, 5], sh := Zn, obs := [(64, .rows 22 3 yi)] } }, [(0, { acts := [], S := { slots := [0, 1], sh := (yj [.arr 64, .dat yi]), obs := [(64, .rows 22 3 yi)] } })], (yh [] .nil), Unit, Int × (Int × Y2), Int × Y2, fun _ v => (((), (v.1, (v.2.1, ()))), (v.2.2, ())), fun _ => (), fun t => (t.1.2.1, (t.1.2.2.1, t.2.1)), wmt, fun _ r => .l (.exit 0 (wbj ({ slots := [0, 1], sh := (yj [.arr 64, .dat yi]), obs := [(64, .rows 22 3 yi)] }) (((), (r.1, ())), (r.2, ()))))⟩
noncomputable def wavz (a2_ : Int) (a1_ : List Y1) : Tr (Int × Y2) :=
 .c (Int × Y2) (wafr () (a2_, ((0 : Int), a1_))) fun r7_ =>
 .l (r7_.1, r7_.2)
noncomputable def wafs (a2_ : Int) (a1_ : List Y1) : Option (Int × Y2) := (wavz a2_ a1_).ev
noncomputable def wbkt : RetK := { acts := [], res := [.tmp 4], sh := Zf, obs := [(64, .rows 22 3 yi)], pins := [(0, 0, 64)] }
noncomputable def walf : FD := yd (yj [.arr 64, .dat yi]) [(64, .rows 22 3 yi)] [.arg 0] (Int × Y2) (fun x => wafs x.1.2.1 x.2.1) (fun r => ([.dat yi r.1], [(64, .rows 22 3 yi r.2 none)]))
noncomputable def wawa : Nat → Nat → List Nat := fun r i => match look [(4, [(5, [2000015])])] r with
 | some l => (look l i).getD []
 | none => []
noncomputable def wawb : Env := waa [(38, wale)]
noncomputable def wawc : List (Nat × LD) := [(0, wyk)]
noncomputable def wawd : Code := (f13.body).getD .skip
noncomputable def wawe (a3_ : Int) (a1_ : Y1) (a2_ : List Y1) : Tr (Int × Yl) :=
 .c (Int × Y1) (wafq a3_ a1_) fun r1_ =>
 .c (Int × Y2) (wafs r1_.1 a2_) fun r2_ =>
 .l (r2_.1, (r1_.2, r2_.2))
noncomputable def walg (a3_ : Int) (a1_ : Y1) (a2_ : List Y1) : Option (Int × Yl) := (wawe a3_ a1_ a2_).ev
noncomputable def wbku : RetK := { acts := [], res := [.tmp 4], sh := Zf, obs := [(64, .arr 3 yi), (65, .rows 22 3 yi)], pins := [(0, 1, 64), (0, 2, 65)] }
noncomputable def wawf : FD := yd (yj [.agg (yj [.arr 64, .arr 65]), .dat yi]) [(64, .arr 3 yi), (65, .rows 22 3 yi)] [.comp 0 0, .comp 0 1] (Int × Yl) (fun x => walg x.1.2.1 x.2.1 x.2.2.1) (fun r => ([.dat yi r.1], [(64, .arr 3 yi r.2.1), (65, .rows 22 3 yi r.2.2 none)]))
noncomputable def wmu (k : Y1) (v : Int × Int) : Tr (Yc ⊕ ((Int) ⊕ (Unit))) :=
 .t (decide (v.2 < ((length k : Nat) : Int)))
 (.g (inR v.2 (length k)) <|
 .t ((getD k (toNat v.2) 0) != v.1)
 (.l (.inr (.inr ())))
 (.l (.inl ((wrap .i64 (v.1 + 1)), (wrap .i64 (v.2 + 1))))))
 (.l (.inr (.inl v.1)))
noncomputable def waft (k : Y1) (v : Int × Int) : Option ((Int) ⊕ (Unit)) := iter (fun v => (wmu k v).ev) v
noncomputable def wyl : LD := ⟨(yh [0, 1, 5] (yj [.dat y1, .dat yi, .dat yi])), [(0, (yh [1] Zf))], (yh [4] Zf), Y1, Int × (Int), (Int) ⊕ (Unit), fun k v => ((k, (v.1, (v.2, ()))), ()), fun t => t.1.1, fun t => (t.1.2.1, t.1.2.2.1), wmu, fun _ r => .s (Int) (Unit) r (fun a => .l (.exit 0 (wbj ((ys [1] Zf)) ((a, ()), ())))) (fun _ => .l (.ret (wbj ((ys [4] Zf)) (((-1 : Int), ()), ()))))⟩
noncomputable def wawg (a1_ : Y1) (a2_ : Int) : Tr (Int) :=
 .c ((Int) ⊕ (Unit)) (waft a1_ (a2_, (0 : Int))) fun r6_ =>
 .s (Int) (Unit) r6_
 (fun r7_ => .l r7_)
 (fun _ => .l (-1 : Int))
noncomputable def walh (a1_ : Y1) (a2_ : Int) : Option (Int) := (wawg a1_ a2_).ev
noncomputable def wbkv : RetK := yr [.tmp 4] Zf
noncomputable def wawh : FD := yd (yj [.dat y1, .dat yi]) [] [] Int (fun x => walh x.1.1 x.1.2.1) (fun r => ([.dat yi r], []))
noncomputable def wawi : Env := waa []
noncomputable def wawj : List (Nat × LD) := [(0, wyl)]
noncomputable def wawk : Code := (f39.body).getD .skip
noncomputable def wmv (k : List Y1) (v : Int × Int) : Tr (Yc ⊕ ((Int) ⊕ (Unit))) :=
 .t (decide (v.2 < ((length k : Nat) : Int)))
 (.g (inR v.2 (length k)) <|
 .c (Int) (walh (getD k (toNat v.2) ([] : Y1)) v.1) fun r4_ =>
 .t (decide (r4_ < 0))
 (.l (.inr (.inr ())))
 (.l (.inl (r4_, (wrap .i64 (v.2 + 1))))))
 (.l (.inr (.inl v.1)))
noncomputable def wafu (k : List Y1) (v : Int × Int) : Option ((Int) ⊕ (Unit)) := iter (fun v => (wmv k v).ev) v
noncomputable def wym : LD := ⟨(yh [0, 1, 5] (yj [.dat y2, .dat yi, .dat yi])), [(0, (yh [1] Zf))], (yh [4] Zf), List Y1, Int × (Int), (Int) ⊕ (Unit), fun k v => ((k, (v.1, (v.2, ()))), ()), fun t => t.1.1, fun t => (t.1.2.1, t.1.2.2.1), wmv, fun _ r => .s (Int) (Unit) r (fun a => .l (.exit 0 (wbj ((ys [1] Zf)) ((a, ()), ())))) (fun _ => .l (.ret (wbj ((ys [4] Zf)) (((-1 : Int), ()), ()))))⟩
noncomputable def wawl (a1_ : List Y1) (a2_ : Int) : Tr (Int) :=
 .c ((Int) ⊕ (Unit)) (wafu a1_ (a2_, (0 : Int))) fun r7_ =>
 .s (Int) (Unit) r7_
 (fun r8_ => .l r8_)
 (fun _ => .l (-1 : Int))
noncomputable def wafv (a1_ : List Y1) (a2_ : Int) : Option (Int) := (wawl a1_ a2_).ev
noncomputable def wbkw : RetK := yr [.tmp 4] Zf
noncomputable def wawm : FD := yd (yj [.dat y2, .dat yi]) [] [] Int (fun x => wafv x.1.1 x.1.2.1) (fun r => ([.dat yi r], []))
noncomputable def wawn : Env := waa [(39, wawh)]
noncomputable def wawo : List (Nat × LD) := [(0, wym)]
noncomputable def wawp : Code := (f14.body).getD .skip
noncomputable def wawq (a1_ : Y1) (a2_ : List Y1) (a3_ : Int) (a4_ : Int) : Tr (Bool) :=
 .c (Int) (wajw a1_ a2_ (1048576 : Int)) fun r1_ =>
 .t (decide (r1_ < 0))
 (.l true)
 (.c Yl (wuv a1_ a2_) fun r2_ =>
 .c (Y2 × (Bool)) (waku r2_.1 r2_.2 a3_ a4_) fun r3_ =>
 .c Yl (wuv a1_ a2_) fun r4_ =>
 .c (Bool × Y2) (F_zo r4_.1 r4_.2 a3_ a4_) fun r5_ =>
 .c (Bool) (wuw r5_.2 r3_.1) fun r6_ =>
 .t (!r6_)
 (.l false)
 (.t (!(r5_.1 == r3_.2))
 (.l false)
 (.c Yl (wuv a1_ a2_) fun r7_ =>
 .c (Bool) (wald r4_.1 r4_.2 r7_.1 r7_.2) fun r8_ =>
 .t (!r8_)
 (.l false)
 (.c (Int × Yl) (walg (1 : Int) r4_.1 r4_.2) fun r9_ =>
 .t (decide (r9_.1 < 0))
 (.l false)
 (.c (Bool) (wuw r5_.2 r3_.1) fun r10_ =>
 .t (!r10_)
 (.l false)
 (.t (!(r5_.1 == r3_.2))
 (.l false)
 (.c (Int × Y2) (wafs (1 : Int) r5_.2) fun r11_ =>
 .c (Int) (wafv r11_.2 (1 : Int)) fun r12_ =>
 .t (decide (r12_ < 0))
 (.l false)
 (.t (r12_ != r11_.1)
 (.l false)
 (.c Yl (wuv a1_ a2_) fun r13_ =>
 .c (Bool × Y2) (F_zo r13_.1 r13_.2 a3_ a4_) fun r14_ =>
 .c (Bool) (wuw r14_.2 r3_.1) fun r15_ =>
 .t (!r15_)
 (.l false)
 (.t (!(r14_.1 == r3_.2))
 (.l false)
 (.c (Int) (wafv r11_.2 (1 : Int)) fun r16_ =>
 .t (decide (r16_ < 0))
 (.l false)
 (.t (r16_ != r11_.1)
 (.l false)
 (.l true)))))))))))))
noncomputable def wawr (a1_ : Y1) (a2_ : List Y1) (a3_ : Int) (a4_ : Int) : Option (Bool) := (wawq a1_ a2_ a3_ a4_).ev
noncomputable def wbkx : RetK := yr [.tmp 6] Zj
noncomputable def waws : FD := yd (yj [.agg Zg, .dat yi, .dat yi]) [] [] Bool (fun x => wawr x.1.1.1 x.1.1.2.1 x.1.2.1 x.1.2.2.1) (fun r => ([.dat .bool r], []))
noncomputable def wbky : Nat → Nat → List Nat := fun r i => match look [(5, [(4, [25])])] r with
 | some l => (look l i).getD []
 | none => []
end Go.Proofs.Ytnagpmhaddfgmaa
