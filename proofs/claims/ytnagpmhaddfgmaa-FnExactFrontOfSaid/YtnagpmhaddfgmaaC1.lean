/-
 The functions of the program that the claim reaches, told as typed functions. No conditions.
-/
import Derived.Test.YtnagpmhaddfgmaaC3
import Derived.Test.YtnagpmhaddfgmaaProg
namespace Go.Proofs.Ytnagpmhaddfgmaa
open Go.Proofs.Try
open List (length getD set)
open Int (toNat)
open IntKind (wrap)
noncomputable def wif (k : Int × (((HL [(.pair (.pair yi yi) y1), (.pair (.pair yi yi) y1)] → Option (Int))) × Int)) (v : Int × Yu) : Tr ((Int × Yu) ⊕ Yu) :=
 .t (decide (v.2.1 ≤ k.1))
 (.c Yc (waca v.1 v.2.1 k.2.1 v.2.2) fun r7_ =>
 .l (.inl (v.2.1, ((wrap .i64 (v.2.1 + k.2.2)), r7_))))
 (.l (.inr (v.1, v.2.2)))
noncomputable def wlv (k : Int × (((HL [(.pair (.pair yi yi) y1), (.pair (.pair yi yi) y1)] → Option (Int))) × Int)) (v : Int × Yu) : Option Yu := iter (fun v => (wif k v).ev) v
noncomputable def wzp : LD := ⟨{ acts := [], S := { slots := [0, 1, 2, 6, 7, 8], sh := (yj [.arr 64, .dat yi, .clo [(.pair (.pair yi yi) y1), (.pair (.pair yi yi) y1)] yi, .dat yi, .dat yi, .dat yi]), obs := [(64, .arr 75 (.pair (.pair yi yi) y1))] } }, [(0, { acts := [], S := { slots := [0, 1, 2, 6, 7], sh := (yj [.arr 64, .dat yi, .clo [(.pair (.pair yi yi) y1), (.pair (.pair yi yi) y1)] yi, .dat yi, .dat yi]), obs := [(64, .arr 75 (.pair (.pair yi yi) y1))] } })], (yh [] .nil), Int × (((HL [(.pair (.pair yi yi) y1), (.pair (.pair yi yi) y1)] → Option (Int))) × Int), Int × Yu, Int × Yc, fun k v => (((), (k.1, (k.2.1, (k.2.2, (v.1, (v.2.1, ())))))), (v.2.2, ())), fun t => (t.1.2.1, (t.1.2.2.1, t.1.2.2.2.1)), fun t => (t.1.2.2.2.2.1, (t.1.2.2.2.2.2.1, t.2.1)), wif, fun k r => .l (.exit 0 (wbd ({ slots := [0, 1, 2, 6, 7], sh := (yj [.arr 64, .dat yi, .clo [(.pair (.pair yi yi) y1), (.pair (.pair yi yi) y1)] yi, .dat yi, .dat yi]), obs := [(64, .arr 75 (.pair (.pair yi yi) y1))] }) (((), (k.1, (k.2.1, (k.2.2, (r.1, ()))))), (r.2, ()))))⟩
noncomputable def wig (k : Int × (((HL [(.pair (.pair yi yi) y1), (.pair (.pair yi yi) y1)] → Option (Int))) × Int)) (v : Int × Yu) : Tr ((Int × Yu) ⊕ Yu) :=
 .t (decide (v.2.1 ≤ k.1))
 (.c Yc (wek 1000000 v.1 (wrap .i64 (v.1 + k.2.2)) v.2.1 k.2.1 v.2.2) fun r25_ =>
 .l (.inl (v.2.1, ((wrap .i64 (v.2.1 + (wrap .i64 ((2 : Int) * k.2.2)))), r25_))))
 (.l (.inr (v.1, v.2.2)))
noncomputable def wlw (k : Int × (((HL [(.pair (.pair yi yi) y1), (.pair (.pair yi yi) y1)] → Option (Int))) × Int)) (v : Int × Yu) : Option Yu := iter (fun v => (wig k v).ev) v
noncomputable def wzq : LD := ⟨{ acts := [], S := { slots := [0, 1, 2, 6, 7, 8], sh := (yj [.arr 64, .dat yi, .clo [(.pair (.pair yi yi) y1), (.pair (.pair yi yi) y1)] yi, .dat yi, .dat yi, .dat yi]), obs := [(64, .arr 75 (.pair (.pair yi yi) y1))] } }, [(4, { acts := [], S := { slots := [0, 1, 2, 6, 7], sh := (yj [.arr 64, .dat yi, .clo [(.pair (.pair yi yi) y1), (.pair (.pair yi yi) y1)] yi, .dat yi, .dat yi]), obs := [(64, .arr 75 (.pair (.pair yi yi) y1))] } })], (yh [] .nil), Int × (((HL [(.pair (.pair yi yi) y1), (.pair (.pair yi yi) y1)] → Option (Int))) × Int), Int × Yu, Int × Yc, fun k v => (((), (k.1, (k.2.1, (k.2.2, (v.1, (v.2.1, ())))))), (v.2.2, ())), fun t => (t.1.2.1, (t.1.2.2.1, t.1.2.2.2.1)), fun t => (t.1.2.2.2.2.1, (t.1.2.2.2.2.2.1, t.2.1)), wig, fun k r => .l (.exit 4 (wbd ({ slots := [0, 1, 2, 6, 7], sh := (yj [.arr 64, .dat yi, .clo [(.pair (.pair yi yi) y1), (.pair (.pair yi yi) y1)] yi, .dat yi, .dat yi]), obs := [(64, .arr 75 (.pair (.pair yi yi) y1))] }) (((), (k.1, (k.2.1, (k.2.2, (r.1, ()))))), (r.2, ()))))⟩
noncomputable def wih (k : Int × ((HL [(.pair (.pair yi yi) y1), (.pair (.pair yi yi) y1)] → Option (Int)))) (v : Int × Yc) : Tr (Yu ⊕ Yc) :=
 .t (decide (v.1 < k.1))
 (.c Yu (wlw (k.1, (k.2, v.1)) ((0 : Int), ((wrap .i64 ((2 : Int) * v.1)), v.2))) fun r31_ =>
 .t (decide ((wrap .i64 (r31_.1 + v.1)) < k.1))
 (.c Yc (wek 1000000 r31_.1 (wrap .i64 (r31_.1 + v.1)) k.1 k.2 r31_.2) fun r32_ =>
 .l (.inl ((wrap .i64 (v.1 * (2 : Int))), r32_)))
 (.l (.inl ((wrap .i64 (v.1 * (2 : Int))), r31_.2))))
 (.l (.inr v.2))
noncomputable def wlx (k : Int × ((HL [(.pair (.pair yi yi) y1), (.pair (.pair yi yi) y1)] → Option (Int)))) (v : Int × Yc) : Option Yc := iter (fun v => (wih k v).ev) v
noncomputable def wzr : LD := ⟨{ acts := [], S := { slots := [0, 1, 2, 6], sh := (yj [.arr 64, .dat yi, .clo [(.pair (.pair yi yi) y1), (.pair (.pair yi yi) y1)] yi, .dat yi]), obs := [(64, .arr 75 (.pair (.pair yi yi) y1))] } }, [(2, { acts := [], S := { slots := [0], sh := Zx, obs := [(64, .arr 75 (.pair (.pair yi yi) y1))] } })], (yh [] .nil), Int × ((HL [(.pair (.pair yi yi) y1), (.pair (.pair yi yi) y1)] → Option (Int))), Int × Yc, List (Ye × Y1), fun k v => (((), (k.1, (k.2, (v.1, ())))), (v.2, ())), fun t => (t.1.2.1, t.1.2.2.1), fun t => (t.1.2.2.2.1, t.2.1), wih, fun _ r => .l (.exit 2 (wbd ({ slots := [0], sh := Zx, obs := [(64, .arr 75 (.pair (.pair yi yi) y1))] }) (((), ()), (r, ()))))⟩
noncomputable def wayz (a2_ : Int) (a3_ : (HL [(.pair (.pair yi yi) y1), (.pair (.pair yi yi) y1)] → Option (Int))) (a1_ : List (Ye × Y1)) : Tr Yc :=
 .c Yu (wlv (a2_, (a3_, (20 : Int))) ((0 : Int), ((20 : Int), a1_))) fun r13_ =>
 .c Yc (waca r13_.1 a2_ a3_ r13_.2) fun r14_ =>
 .c Yc (wlx (a2_, a3_) ((20 : Int), r14_)) fun r34_ =>
 .l r34_
noncomputable def waza (a2_ : Int) (a3_ : (HL [(.pair (.pair yi yi) y1), (.pair (.pair yi yi) y1)] → Option (Int))) (a1_ : List (Ye × Y1)) : Option Yc := (wayz a2_ a3_ a1_).ev
noncomputable def wbpp : RetK := { acts := [], res := [], sh := .nil, obs := [(64, .arr 75 (.pair (.pair yi yi) y1))], pins := [(0, 0, 64)] }
noncomputable def wazb : FD := yd (yj [.arr 64, .dat yi, .clo [(.pair (.pair yi yi) y1), (.pair (.pair yi yi) y1)] yi]) [(64, .arr 75 (.pair (.pair yi yi) y1))] [.arg 0] Yc (fun x => waza x.1.2.1 x.1.2.2.1 x.2.1) (fun r => ([], [(64, .arr 75 (.pair (.pair yi yi) y1) r)]))
noncomputable def wagq : Env := wac [(115, waym), (116, wayy 1000000)]
noncomputable def wagr : List (Nat × LD) := [(0, wzp), (4, wzq), (2, wzr)]
noncomputable def wags : Code := (f94.body).getD .skip
noncomputable def wazc (a2_ : (HL [(.pair (.pair yi yi) y1), (.pair (.pair yi yi) y1)] → Option (Int))) (a1_ : List (Ye × Y1)) : Tr Yc :=
 .c Yc (waza ((length a1_ : Nat) : Int) a2_ a1_) fun r1_ =>
 .l r1_
noncomputable def waoi (a2_ : (HL [(.pair (.pair yi yi) y1), (.pair (.pair yi yi) y1)] → Option (Int))) (a1_ : List (Ye × Y1)) : Option Yc := (wazc a2_ a1_).ev
noncomputable def wbpq : RetK := { acts := [], res := [], sh := .nil, obs := [(64, .arr 75 (.pair (.pair yi yi) y1))], pins := [(0, 0, 64)] }
noncomputable def waoj : FD := yd (yj [.arr 64, .clo [(.pair (.pair yi yi) y1), (.pair (.pair yi yi) y1)] yi]) [(64, .arr 75 (.pair (.pair yi yi) y1))] [.arg 0] Yc (fun x => waoi x.1.2.1 x.2.1) (fun r => ([], [(64, .arr 75 (.pair (.pair yi yi) y1) r)]))
noncomputable def T_ze (a1_ : Int) (a2_ : Int) (_a3_ : Y1) (a4_ : Int) (a5_ : Int) (_a6_ : Y1) : Tr (Int) :=
 .g (inR 0 2) <|
 .g (inR 0 2) <|
 .c (Int) (F_za a1_ a4_) fun r1_ =>
 .g (inR 1 2) <|
 .g (inR 1 2) <|
 .c (Int) (F_za a2_ a5_) fun r2_ =>
 .c (Int) (F_zb ([r1_, r2_] : Y1)) fun r3_ =>
 .l r3_
noncomputable def F_ze (a1_ : Int) (a2_ : Int) (a3_ : Y1) (a4_ : Int) (a5_ : Int) (a6_ : Y1) : Option (Int) := (T_ze a1_ a2_ a3_ a4_ a5_ a6_).ev
noncomputable def K_ze : RetK := yr [.tmp 4] Zf
noncomputable def D_ze : FD := yd (yj [.agg (yj [.dat yi, .dat yi, .dat y1]), .agg (yj [.dat yi, .dat yi, .dat y1])]) [] [] Int (fun x => F_ze x.1.1.1 x.1.1.2.1 x.1.1.2.2.1 x.1.2.1.1 x.1.2.1.2.1 x.1.2.1.2.2.1) (fun r => ([.dat yi r], []))
noncomputable def wsu (k : Int × (Int × (Int × (Y1 × (Y2 × Y2))))) (v : Int × Yc) : Tr (Yu ⊕ Yc) :=
 .t (decide (v.1 < k.2.2.1))
 (.g (inR v.1 (length k.2.2.2.2.2)) <|
 .g (decide ((toNat v.1) < length k.2.2.2.2.2)) <|
 .c (Int) (F_zm k.2.2.2.1 k.2.2.2.2.1 (getD k.2.2.2.2.2 (toNat v.1) ([] : Y1)) k.1) fun r10_ =>
 .c (Int) (F_zm k.2.2.2.1 k.2.2.2.2.1 (getD k.2.2.2.2.2 (toNat v.1) ([] : Y1)) k.2.1) fun r11_ =>
 .g (decide ((length v.2 + length ([((r10_, r11_), (getD k.2.2.2.2.2 (toNat v.1) ([] : Y1)))] : List (Ye × Y1))) * 40 ≤ 140737488355328)) <|
 .l (.inl ((wrap .i64 (v.1 + 1)), (v.2 ++ ([((r10_, r11_), (getD k.2.2.2.2.2 (toNat v.1) ([] : Y1)))] : List (Ye × Y1))))))
 (.l (.inr v.2))
noncomputable def wagt (k : Int × (Int × (Int × (Y1 × (Y2 × Y2))))) (v : Int × Yc) : Option Yc := iter (fun v => (wsu k v).ev) v
noncomputable def wagu : LD := ⟨{ acts := [], S := { slots := [1, 2, 3, 8, 20, 21, 22], sh := (yj [.dat yi, .dat yi, .box 3 0, .arr 16, .arr 1280, .dat yi, .dat yi]), obs := [(3, .cells Zg), (16, .arr 75 (.pair (.pair yi yi) y1)), (1280, .arr 22 y1)] } }, [(0, { acts := [], S := { slots := [8], sh := (yj [.arr 16]), obs := [(16, .arr 75 (.pair (.pair yi yi) y1))] } })], (yh [] .nil), Int × (Int × (Int × (Y1 × (Y2 × Y2)))), Int × Yc, List (Ye × Y1), fun k v => ((k.1, (k.2.1, ((), ((), ((), (k.2.2.1, (v.1, ()))))))), ((k.2.2.2.1, (k.2.2.2.2.1, ())), (v.2, (k.2.2.2.2.2, ())))), fun t => (t.1.1, (t.1.2.1, (t.1.2.2.2.2.2.1, (t.2.1.1, (t.2.1.2.1, t.2.2.2.1))))), fun t => (t.1.2.2.2.2.2.2.1, t.2.2.1), wsu, fun _ r => .l (.exit 0 (wbd ({ slots := [8], sh := (yj [.arr 16]), obs := [(16, .arr 75 (.pair (.pair yi yi) y1))] }) (((), ()), (r, ()))))⟩
noncomputable def wly (k : Int × Yc) (v : Int × Yl) : Tr ((Int × Yl) ⊕ Yl) :=
 .t (decide (v.1 < k.1))
 (.g (inR v.1 (length k.2)) <|
 .g (decide ((toNat v.1) < length k.2)) <|
 .t (((length v.2.1 : Nat) : Int) == (0 : Int))
 (.g (decide ((length v.2.1 + length ([(getD k.2 (toNat v.1) (((0 : Int), (0 : Int)), ([] : Y1))).1] : List Ye)) * 16 ≤ 140737488355328)) <|
 .g (decide ((length v.2.2 + length ([(getD k.2 (toNat v.1) (((0 : Int), (0 : Int)), ([] : Y1))).2] : List Y1)) * 24 ≤ 140737488355328)) <|
 .l (.inl ((wrap .i64 (v.1 + 1)), ((v.2.1 ++ ([(getD k.2 (toNat v.1) (((0 : Int), (0 : Int)), ([] : Y1))).1] : List Ye)), (v.2.2 ++ ([(getD k.2 (toNat v.1) (((0 : Int), (0 : Int)), ([] : Y1))).2] : List Y1))))))
 (.g (inR 1 2) <|
 .g (inR (wrap .i64 (((length v.2.1 : Nat) : Int) - 1)) (length v.2.1)) <|
 .g (decide ((toNat (wrap .i64 (((length v.2.1 : Nat) : Int) - 1))) < length v.2.1)) <|
 .t (decide ((getD k.2 (toNat v.1) (((0 : Int), (0 : Int)), ([] : Y1))).1.2 < (getD v.2.1 (toNat (wrap .i64 (((length v.2.1 : Nat) : Int) - 1))) ((0 : Int), (0 : Int))).2))
 (.g (decide ((length v.2.1 + length ([(getD k.2 (toNat v.1) (((0 : Int), (0 : Int)), ([] : Y1))).1] : List Ye)) * 16 ≤ 140737488355328)) <|
 .g (decide ((length v.2.2 + length ([(getD k.2 (toNat v.1) (((0 : Int), (0 : Int)), ([] : Y1))).2] : List Y1)) * 24 ≤ 140737488355328)) <|
 .l (.inl ((wrap .i64 (v.1 + 1)), ((v.2.1 ++ ([(getD k.2 (toNat v.1) (((0 : Int), (0 : Int)), ([] : Y1))).1] : List Ye)), (v.2.2 ++ ([(getD k.2 (toNat v.1) (((0 : Int), (0 : Int)), ([] : Y1))).2] : List Y1))))))
 (.l (.inl ((wrap .i64 (v.1 + 1)), (v.2.1, v.2.2))))))
 (.l (.inr (v.2.1, v.2.2)))
noncomputable def wagv (k : Int × Yc) (v : Int × Yl) : Option Yl := iter (fun v => (wly k v).ev) v
noncomputable def wagw : LD := ⟨{ acts := [], S := { slots := [11, 12, 45, 46, 47], sh := (yj [.arr 43, .arr 44, .arr 16, .dat yi, .dat yi]), obs := [(43, .arr 61 (.pair yi yi)), (44, .arr 22 y1), (16, .arr 75 (.pair (.pair yi yi) y1))] } }, [(2, { acts := [], S := { slots := [11, 12], sh := (yj [.arr 43, .arr 44]), obs := [(43, .arr 61 (.pair yi yi)), (44, .arr 22 y1)] } })], (yh [] .nil), Int × Yc, Int × Yl, (List Ye) × Y2, fun k v => (((), ((), ((), (k.1, (v.1, ()))))), (v.2.1, (v.2.2, (k.2, ())))), fun t => (t.1.2.2.2.1, t.2.2.2.1), fun t => (t.1.2.2.2.2.1, (t.2.1, t.2.2.1)), wly, fun _ r => .l (.exit 2 (wbd ({ slots := [11, 12], sh := (yj [.arr 43, .arr 44]), obs := [(43, .arr 61 (.pair yi yi)), (44, .arr 22 y1)] }) (((), ((), ())), (r.1, (r.2, ())))))⟩
noncomputable def T_zd (a1_ : Y1) (a2_ : List Y1) (a3_ : Int) (a4_ : Int) : Tr Yl :=
 .c Y2 (F_zy ((length a1_ : Nat) : Int)) fun r1_ =>
 .c Yc (wagt (a3_, (a4_, (((length r1_ : Nat) : Int), (a1_, (a2_, r1_))))) ((0 : Int), ([] : List (Ye × Y1)))) fun r13_ =>
 .c Yc (waoi (fun h14_ => Option.bind (F_ze h14_.1.1.1 h14_.1.1.2 h14_.1.2 h14_.2.1.1.1 h14_.2.1.1.2 h14_.2.1.2) fun y15_ => some y15_) r13_) fun r16_ =>
 .c Yl (wagv (((length r16_ : Nat) : Int), r16_) ((0 : Int), (([] : List Ye), ([] : List Y1)))) fun r24_ =>
 .l (r24_.1, r24_.2)
noncomputable def F_zd (a1_ : Y1) (a2_ : List Y1) (a3_ : Int) (a4_ : Int) : Option Yl := (T_zd a1_ a2_ a3_ a4_).ev
noncomputable def K_zd : RetK := { acts := [.ren 43 0, .ren 44 1], res := [.tmp 6, .tmp 7], sh := (yj [.arr 0, .arr 1]), obs := [(0, .arr 61 (.pair yi yi)), (1, .arr 22 y1)], pins := [] }
noncomputable def D_zd : FD := yd (yj [.agg Zg, .dat yi, .dat yi]) [] [] Yl (fun x => F_zd x.1.1.1 x.1.1.2.1 x.1.2.1 x.1.2.2.1) (fun r => ([.arr 0, .arr 1], [(0, .arr 61 (.pair yi yi) r.1), (1, .arr 22 y1 r.2)]))
def Z_zd : Nat → Nat → List Nat := fun r i => match look [(14, [(0, [60000000, 90000051, 90000059, 90000062, 90000063])])] r with
 | some l => (look l i).getD []
 | none => []
noncomputable def E_zd : Env := wac [(61, D_zy), (62, D_zm), (63, waoj), (63, waoj), (64, D_ze)]
noncomputable def O_zd : List (Nat × LD) := [(0, wagu), (2, wagw)]
noncomputable def C_zd : Code := (f36.body).getD .skip
noncomputable def T_zn (a1_ : Y1) (a2_ : List Y1) (a3_ : Int) (a4_ : Int) : Tr (Bool × (List Ye)) :=
 .c (Bool) (F_zw a1_ a2_ a3_ a4_) fun r1_ =>
 .t (!r1_)
 (.l (false, ([] : List Ye)))
 (.c Yl (F_zd a1_ a2_ a3_ a4_) fun r2_ =>
 .l (true, r2_.1))
noncomputable def F_zn (a1_ : Y1) (a2_ : List Y1) (a3_ : Int) (a4_ : Int) : Option (Bool × (List Ye)) := (T_zn a1_ a2_ a3_ a4_).ev
noncomputable def K_zn : RetK := { acts := [.own 6 0 61 (.pair yi yi), .ren 1216 0], res := [.tmp 6, .tmp 7], sh := (yj [.arr 0, .dat .bool]), obs := [(0, .arr 61 (.pair yi yi))], pins := [] }
noncomputable def D_zn : FD := yd (yj [.agg Zg, .dat yi, .dat yi]) [] [] (Bool × (List Ye)) (fun x => F_zn x.1.1.1 x.1.1.2.1 x.1.2.1 x.1.2.2.1) (fun r => ([.arr 0, .dat .bool r.1], [(0, .arr 61 (.pair yi yi) r.2)]))
noncomputable def wbff (a1_ : Int) (a2_ : Int) (a3_ : Int) (a4_ : Int) : Option (Bool) := some (a1_ == a3_ && a2_ == a4_)
noncomputable def wbfg : FD := warm
noncomputable def wlz (k : (List Ye) × (List Ye)) (v : Int) : Tr ((Int) ⊕ ((Unit) ⊕ (Unit))) :=
 .t (decide (v < ((length k.1 : Nat) : Int)))
 (.g (inR v (length k.1)) <|
 .g (inR v (length k.2)) <|
 .c (Bool) (wbff ((getD k.1 (toNat v) ((0 : Int), (0 : Int))).1) ((getD k.1 (toNat v) ((0 : Int), (0 : Int))).2) ((getD k.2 (toNat v) ((0 : Int), (0 : Int))).1) ((getD k.2 (toNat v) ((0 : Int), (0 : Int))).2)) fun r4_ =>
 .t (!r4_)
 (.l (.inr (.inr ())))
 (.l (.inl (wrap .i64 (v + 1)))))
 (.l (.inr (.inl ())))
noncomputable def wagx (k : (List Ye) × (List Ye)) (v : Int) : Option ((Unit) ⊕ (Unit)) := iter (fun v => (wlz k v).ev) v
noncomputable def wzs : LD := ⟨(yh [0, 1, 5] (yj [.dat (.slice (.pair yi yi)), .dat (.slice (.pair yi yi)), .dat yi])), [(0, (yh [] .nil))], (yh [4] Zj), (List Ye) × (List Ye), Int, (Unit) ⊕ (Unit), fun k v => ((k.1, (k.2, (v, ()))), ()), fun t => (t.1.1, t.1.2.1), fun t => t.1.2.2.1, wlz, fun _ r => .s (Unit) (Unit) r (fun _ => .l (.exit 0 (wbd ((ys [] .nil)) ((), ())))) (fun _ => .l (.ret (wbd ((ys [4] Zj)) ((false, ()), ()))))⟩
noncomputable def wazd (a1_ : List Ye) (a2_ : List Ye) : Tr (Bool) :=
 .t (((length a1_ : Nat) : Int) != ((length a2_ : Nat) : Int))
 (.l false)
 (.c ((Unit) ⊕ (Unit)) (wagx (a1_, a2_) (0 : Int)) fun r6_ =>
 .s (Unit) (Unit) r6_
 (fun _ => .l true)
 (fun _ => .l false))
noncomputable def wacb (a1_ : List Ye) (a2_ : List Ye) : Option (Bool) := (wazd a1_ a2_).ev
noncomputable def wbpx : RetK := yr [.tmp 4] Zj
noncomputable def waze : FD := yd (yj [.dat (.slice (.pair yi yi)), .dat (.slice (.pair yi yi))]) [] [] Bool (fun x => wacb x.1.1 x.1.2.1) (fun r => ([.dat .bool r], []))
noncomputable def wazf : Env := wac [(40, wbfg)]
noncomputable def wazg : List (Nat × LD) := [(0, wzs)]
noncomputable def wazh : Code := (f17.body).getD .skip
noncomputable def wma (k : Y1 × Y1) (v : Int) : Tr ((Int) ⊕ ((Unit) ⊕ (Unit))) :=
 .t (decide (v < ((length k.1 : Nat) : Int)))
 (.g (inR v (length k.1)) <|
 .g (inR v (length k.2)) <|
 .t ((getD k.1 (toNat v) 0) != (getD k.2 (toNat v) 0))
 (.l (.inr (.inr ())))
 (.l (.inl (wrap .i64 (v + 1)))))
 (.l (.inr (.inl ())))
noncomputable def wagy (k : Y1 × Y1) (v : Int) : Option ((Unit) ⊕ (Unit)) := iter (fun v => (wma k v).ev) v
noncomputable def wzt : LD := ⟨(yh [0, 1, 5] (yj [.dat y1, .dat y1, .dat yi])), [(0, (yh [] .nil))], (yh [4] Zj), Y1 × Y1, Int, (Unit) ⊕ (Unit), fun k v => ((k.1, (k.2, (v, ()))), ()), fun t => (t.1.1, t.1.2.1), fun t => t.1.2.2.1, wma, fun _ r => .s (Unit) (Unit) r (fun _ => .l (.exit 0 (wbd ((ys [] .nil)) ((), ())))) (fun _ => .l (.ret (wbd ((ys [4] Zj)) ((false, ()), ()))))⟩
noncomputable def wazi (a1_ : Y1) (a2_ : Y1) : Tr (Bool) :=
 .t (((length a1_ : Nat) : Int) != ((length a2_ : Nat) : Int))
 (.l false)
 (.c ((Unit) ⊕ (Unit)) (wagy (a1_, a2_) (0 : Int)) fun r5_ =>
 .s (Unit) (Unit) r5_
 (fun _ => .l true)
 (fun _ => .l false))
noncomputable def wagz (a1_ : Y1) (a2_ : Y1) : Option (Bool) := (wazi a1_ a2_).ev
noncomputable def wbpy : RetK := yr [.tmp 4] Zj
noncomputable def waok : FD := yd (yj [.dat y1, .dat y1]) [] [] Bool (fun x => wagz x.1.1 x.1.2.1) (fun r => ([.dat .bool r], []))
noncomputable def wazj : Env := wac []
noncomputable def wazk : List (Nat × LD) := [(0, wzt)]
noncomputable def wazl : Code := (f37.body).getD .skip
noncomputable def wmb (k : Y2 × Y2) (v : Int) : Tr ((Int) ⊕ ((Unit) ⊕ (Unit))) :=
 .t (decide (v < ((length k.1 : Nat) : Int)))
 (.g (inR v (length k.1)) <|
 .g (inR v (length k.2)) <|
 .c (Bool) (wagz (getD k.1 (toNat v) ([] : Y1)) (getD k.2 (toNat v) ([] : Y1))) fun r4_ =>
 .t (!r4_)
 (.l (.inr (.inr ())))
 (.l (.inl (wrap .i64 (v + 1)))))
 (.l (.inr (.inl ())))
noncomputable def waha (k : Y2 × Y2) (v : Int) : Option ((Unit) ⊕ (Unit)) := iter (fun v => (wmb k v).ev) v
noncomputable def wzu : LD := ⟨(yh [0, 1, 5] (yj [.dat y2, .dat y2, .dat yi])), [(0, (yh [] .nil))], (yh [4] Zj), Y2 × Y2, Int, (Unit) ⊕ (Unit), fun k v => ((k.1, (k.2, (v, ()))), ()), fun t => (t.1.1, t.1.2.1), fun t => t.1.2.2.1, wmb, fun _ r => .s (Unit) (Unit) r (fun _ => .l (.exit 0 (wbd ((ys [] .nil)) ((), ())))) (fun _ => .l (.ret (wbd ((ys [4] Zj)) ((false, ()), ()))))⟩
noncomputable def wazm (a1_ : List Y1) (a2_ : List Y1) : Tr (Bool) :=
 .t (((length a1_ : Nat) : Int) != ((length a2_ : Nat) : Int))
 (.l false)
 (.c ((Unit) ⊕ (Unit)) (waha (a1_, a2_) (0 : Int)) fun r6_ =>
 .s (Unit) (Unit) r6_
 (fun _ => .l true)
 (fun _ => .l false))
noncomputable def waol (a1_ : List Y1) (a2_ : List Y1) : Option (Bool) := (wazm a1_ a2_).ev
noncomputable def wbpz : RetK := yr [.tmp 4] Zj
noncomputable def wazn : FD := yd (yj [.dat y2, .dat y2]) [] [] Bool (fun x => waol x.1.1 x.1.2.1) (fun r => ([.dat .bool r], []))
noncomputable def wazo : Env := wac [(37, waok)]
noncomputable def wazp : List (Nat × LD) := [(0, wzu)]
noncomputable def wazq : Code := (f10.body).getD .skip
noncomputable def wazr (a1_ : Y1) (a2_ : List Y1) (a3_ : Y1) (a4_ : List Y1) : Tr (Bool) :=
 .c (Bool) (wagz a1_ a3_) fun r1_ =>
 .t (!r1_)
 (.l false)
 (.c (Bool) (waol a2_ a4_) fun r2_ =>
 .t (!r2_)
 (.l false)
 (.l true))
noncomputable def waom (a1_ : Y1) (a2_ : List Y1) (a3_ : Y1) (a4_ : List Y1) : Option (Bool) := (wazr a1_ a2_ a3_ a4_).ev
noncomputable def wbqa : RetK := yr [.tmp 4] Zj
noncomputable def wazs : FD := yd (yj [.agg Zg, .agg Zg]) [] [] Bool (fun x => waom x.1.1.1 x.1.1.2.1 x.1.2.1.1 x.1.2.1.2.1) (fun r => ([.dat .bool r], []))
noncomputable def wmc (_k : Unit) (v : Int × Yv) : Tr ((Int × Yv) ⊕ Yv) :=
 .t (decide (v.2.1 < ((length v.2.2 : Nat) : Int)))
 (.g (inR v.2.1 (length v.2.2)) <|
 .g (decide ((toNat v.2.1) < length v.2.2)) <|
 .l (.inl ((wrap .i64 (v.1 + 1)), ((wrap .i64 (v.2.1 + 1)), (set v.2.2 (toNat v.2.1) v.1)))))
 (.l (.inr (v.1, v.2.2)))
noncomputable def wahb (k : Unit) (v : Int × Yv) : Option Yv := iter (fun v => (wmc k v).ev) v
noncomputable def wzv : LD := ⟨{ acts := [], S := { slots := [0, 1, 5], sh := Zn, obs := [(64, .arr 3 yi)] } }, [(0, { acts := [], S := { slots := [0, 1], sh := Zp, obs := [(64, .arr 3 yi)] } })], (yh [] .nil), Unit, Int × Yv, Int × Y1, fun _ v => (((), (v.1, (v.2.1, ()))), (v.2.2, ())), fun _ => (), fun t => (t.1.2.1, (t.1.2.2.1, t.2.1)), wmc, fun _ r => .l (.exit 0 (wbd ({ slots := [0, 1], sh := Zp, obs := [(64, .arr 3 yi)] }) (((), (r.1, ())), (r.2, ()))))⟩
noncomputable def wazt (a2_ : Int) (a1_ : Y1) : Tr Yv :=
 .c Yv (wahb () (a2_, ((0 : Int), a1_))) fun r6_ =>
 .l (r6_.1, r6_.2)
noncomputable def wahc (a2_ : Int) (a1_ : Y1) : Option Yv := (wazt a2_ a1_).ev
noncomputable def wbqb : RetK := { acts := [], res := [.tmp 4], sh := Zf, obs := [(64, .arr 3 yi)], pins := [(0, 0, 64)] }
noncomputable def waon : FD := yd Zp [(64, .arr 3 yi)] [.arg 0] Yv (fun x => wahc x.1.2.1 x.2.1) (fun r => ([.dat yi r.1], [(64, .arr 3 yi r.2)]))
noncomputable def wazu : Env := wac []
noncomputable def wazv : List (Nat × LD) := [(0, wzv)]
noncomputable def wazw : Code := (f38.body).getD .skip
noncomputable def wmd (_k : Unit) (v : Int × Ym) : Tr ((Int × Ym) ⊕ Ym) :=
 .t (decide (v.2.1 < ((length v.2.2 : Nat) : Int)))
 (.g (inR v.2.1 (length v.2.2)) <|
 .g (decide ((toNat v.2.1) < length v.2.2)) <|
 .c Yv (wahc v.1 (getD v.2.2 (toNat v.2.1) ([] : Y1))) fun r4_ =>
 .l (.inl (r4_.1, ((wrap .i64 (v.2.1 + 1)), (set v.2.2 (toNat v.2.1) r4_.2)))))
 (.l (.inr (v.1, v.2.2)))
noncomputable def wahd (k : Unit) (v : Int × Ym) : Option Ym := iter (fun v => (wmd k v).ev) v
noncomputable def wzw : LD := ⟨{ acts := [.fz 500015], S := { slots := [0, 1, 5], sh := Zn, obs := [(64, .rows 22 3 yi)] } }, [(0, { acts := [], S := { slots := [0, 1], sh := Zp, obs := [(64, .rows 22 3 yi)] } })], (yh [] .nil), Unit, Int × Ym, Int × Y2, fun _ v => (((), (v.1, (v.2.1, ()))), (v.2.2, ())), fun _ => (), fun t => (t.1.2.1, (t.1.2.2.1, t.2.1)), wmd, fun _ r => .l (.exit 0 (wbd ({ slots := [0, 1], sh := Zp, obs := [(64, .rows 22 3 yi)] }) (((), (r.1, ())), (r.2, ()))))⟩
noncomputable def wazx (a2_ : Int) (a1_ : List Y1) : Tr Ym :=
 .c Ym (wahd () (a2_, ((0 : Int), a1_))) fun r7_ =>
 .l (r7_.1, r7_.2)
noncomputable def waoo (a2_ : Int) (a1_ : List Y1) : Option Ym := (wazx a2_ a1_).ev
noncomputable def wbqc : RetK := { acts := [], res := [.tmp 4], sh := Zf, obs := [(64, .rows 22 3 yi)], pins := [(0, 0, 64)] }
noncomputable def wazy : FD := yd Zp [(64, .rows 22 3 yi)] [.arg 0] Ym (fun x => waoo x.1.2.1 x.2.1) (fun r => ([.dat yi r.1], [(64, .rows 22 3 yi r.2 none)]))
noncomputable def wazz : Nat → Nat → List Nat := fun r i => match look [(4, [(5, [2000015])])] r with
 | some l => (look l i).getD []
 | none => []
noncomputable def wbaa : Env := wac [(38, waon)]
noncomputable def wbab : List (Nat × LD) := [(0, wzw)]
noncomputable def wbac : Code := (f13.body).getD .skip
noncomputable def wbad (a3_ : Int) (a1_ : Y1) (a2_ : List Y1) : Tr (Int × Yr) :=
 .c Yv (wahc a3_ a1_) fun r1_ =>
 .c Ym (waoo r1_.1 a2_) fun r2_ =>
 .l (r2_.1, (r1_.2, r2_.2))
noncomputable def waop (a3_ : Int) (a1_ : Y1) (a2_ : List Y1) : Option (Int × Yr) := (wbad a3_ a1_ a2_).ev
noncomputable def wbqd : RetK := { acts := [], res := [.tmp 4], sh := Zf, obs := [(64, .arr 3 yi), (65, .rows 22 3 yi)], pins := [(0, 1, 64), (0, 2, 65)] }
noncomputable def wbae : FD := yd (yj [.agg (yj [.arr 64, .arr 65]), .dat yi]) [(64, .arr 3 yi), (65, .rows 22 3 yi)] [.comp 0 0, .comp 0 1] (Int × Yr) (fun x => waop x.1.2.1 x.2.1 x.2.2.1) (fun r => ([.dat yi r.1], [(64, .arr 3 yi r.2.1), (65, .rows 22 3 yi r.2.2 none)]))
noncomputable def wfc (k : Int) (v : Int × Yo) : Tr ((Int × Yo) ⊕ Yo) :=
 .t (decide (v.2.1 < 2))
 (.g (inR k (length v.2.2)) <|
 .t (v.2.1 == 0)
 (.g (decide ((toNat k) < length v.2.2)) <|
 .l (.inl ((wrap .i64 (v.1 + 1)), ((wrap .i64 (v.2.1 + 1)), (set v.2.2 (toNat k) (v.1, (getD v.2.2 (toNat k) ((0 : Int), (0 : Int))).2))))))
 (.g (v.2.1 == 1) <|
 .g (decide ((toNat k) < length v.2.2)) <|
 .l (.inl ((wrap .i64 (v.1 + 1)), ((wrap .i64 (v.2.1 + 1)), (set v.2.2 (toNat k) ((getD v.2.2 (toNat k) ((0 : Int), (0 : Int))).1, v.1)))))))
 (.l (.inr (v.1, v.2.2)))
noncomputable def wvy (k : Int) (v : Int × Yo) : Option Yo := iter (fun v => (wfc k v).ev) v
noncomputable def wzx : LD := ⟨{ acts := [], S := { slots := [0, 1, 5, 6], sh := (yj [.arr 64, .dat yi, .dat yi, .dat yi]), obs := [(64, .arr 61 (.pair yi yi))] } }, [(2, { acts := [], S := { slots := [0, 1, 5], sh := Zn, obs := [(64, .arr 61 (.pair yi yi))] } })], (yh [] .nil), Int, Int × Yo, Int × (List Ye), fun k v => (((), (v.1, (k, (v.2.1, ())))), (v.2.2, ())), fun t => t.1.2.2.1, fun t => (t.1.2.1, (t.1.2.2.2.1, t.2.1)), wfc, fun k r => .l (.exit 2 (wbd ({ slots := [0, 1, 5], sh := Zn, obs := [(64, .arr 61 (.pair yi yi))] }) (((), (r.1, (k, ()))), (r.2, ()))))⟩
noncomputable def wme (_k : Unit) (v : Int × Yo) : Tr ((Int × Yo) ⊕ Yo) :=
 .t (decide (v.2.1 < ((length v.2.2 : Nat) : Int)))
 (.c Yo (wvy v.2.1 (v.1, ((0 : Int), v.2.2))) fun r11_ =>
 .l (.inl (r11_.1, ((wrap .i64 (v.2.1 + 1)), r11_.2))))
 (.l (.inr (v.1, v.2.2)))
noncomputable def wahe (k : Unit) (v : Int × Yo) : Option Yo := iter (fun v => (wme k v).ev) v
noncomputable def wzy : LD := ⟨{ acts := [], S := { slots := [0, 1, 5], sh := Zn, obs := [(64, .arr 61 (.pair yi yi))] } }, [(0, { acts := [], S := { slots := [0, 1], sh := Zp, obs := [(64, .arr 61 (.pair yi yi))] } })], (yh [] .nil), Unit, Int × Yo, Int × (List Ye), fun _ v => (((), (v.1, (v.2.1, ()))), (v.2.2, ())), fun _ => (), fun t => (t.1.2.1, (t.1.2.2.1, t.2.1)), wme, fun _ r => .l (.exit 0 (wbd ({ slots := [0, 1], sh := Zp, obs := [(64, .arr 61 (.pair yi yi))] }) (((), (r.1, ())), (r.2, ()))))⟩
noncomputable def wbaf (a2_ : Int) (a1_ : List Ye) : Tr Yo :=
 .c Yo (wahe () (a2_, ((0 : Int), a1_))) fun r14_ =>
 .l (r14_.1, r14_.2)
noncomputable def waoq (a2_ : Int) (a1_ : List Ye) : Option Yo := (wbaf a2_ a1_).ev
noncomputable def wbqe : RetK := { acts := [], res := [.tmp 4], sh := Zf, obs := [(64, .arr 61 (.pair yi yi))], pins := [(0, 0, 64)] }
noncomputable def wbag : FD := yd Zp [(64, .arr 61 (.pair yi yi))] [.arg 0] Yo (fun x => waoq x.1.2.1 x.2.1) (fun r => ([.dat yi r.1], [(64, .arr 61 (.pair yi yi) r.2)]))
noncomputable def waor : Env := wac []
noncomputable def waos : List (Nat × LD) := [(2, wzx), (0, wzy)]
noncomputable def waot : Code := (f18.body).getD .skip
noncomputable def wfd (k : Int × (List Ye)) (v : Int × Int) : Tr (Ye ⊕ ((Int) ⊕ (Unit))) :=
 .t (decide (v.2 < 2))
 (.g (inR k.1 (length k.2)) <|
 .t (v.2 == 0)
 (.g (decide ((toNat k.1) < length k.2)) <|
 .t ((getD k.2 (toNat k.1) ((0 : Int), (0 : Int))).1 != v.1)
 (.l (.inr (.inr ())))
 (.l (.inl ((wrap .i64 (v.1 + 1)), (wrap .i64 (v.2 + 1))))))
 (.g (v.2 == 1) <|
 .g (decide ((toNat k.1) < length k.2)) <|
 .t ((getD k.2 (toNat k.1) ((0 : Int), (0 : Int))).2 != v.1)
 (.l (.inr (.inr ())))
 (.l (.inl ((wrap .i64 (v.1 + 1)), (wrap .i64 (v.2 + 1)))))))
 (.l (.inr (.inl v.1)))
noncomputable def wvz (k : Int × (List Ye)) (v : Int × Int) : Option ((Int) ⊕ (Unit)) := iter (fun v => (wfd k v).ev) v
noncomputable def wzz : LD := ⟨{ acts := [], S := { slots := [0, 1, 5, 6], sh := (yj [.arr 64, .dat yi, .dat yi, .dat yi]), obs := [(64, .arr 61 (.pair yi yi))] } }, [(2, { acts := [], S := { slots := [0, 1, 5], sh := Zn, obs := [(64, .arr 61 (.pair yi yi))] } })], { acts := [], S := { slots := [0, 4], sh := Zp, obs := [(64, .arr 61 (.pair yi yi))] } }, Int × (List Ye), Int × (Int), (Int) ⊕ (Unit), fun k v => (((), (v.1, (k.1, (v.2, ())))), (k.2, ())), fun t => (t.1.2.2.1, t.2.1), fun t => (t.1.2.1, t.1.2.2.2.1), wfd, fun k r => .s (Int) (Unit) r (fun a => .l (.exit 2 (wbd ({ slots := [0, 1, 5], sh := Zn, obs := [(64, .arr 61 (.pair yi yi))] }) (((), (a, (k.1, ()))), (k.2, ()))))) (fun _ => .l (.ret (wbd ({ slots := [0, 4], sh := Zp, obs := [(64, .arr 61 (.pair yi yi))] }) (((), ((-1 : Int), ())), (k.2, ())))))⟩
noncomputable def wmf (k : List Ye) (v : Int × Int) : Tr (Ye ⊕ ((Int) ⊕ (Unit))) :=
 .t (decide (v.2 < ((length k : Nat) : Int)))
 (.c ((Int) ⊕ (Unit)) (wvz (v.2, k) (v.1, (0 : Int))) fun r13_ =>
 .s (Int) (Unit) r13_
 (fun r14_ => .l (.inl (r14_, (wrap .i64 (v.2 + 1)))))
 (fun _ => .l (.inr (.inr ()))))
 (.l (.inr (.inl v.1)))
noncomputable def wahf (k : List Ye) (v : Int × Int) : Option ((Int) ⊕ (Unit)) := iter (fun v => (wmf k v).ev) v
noncomputable def waaa : LD := ⟨{ acts := [], S := { slots := [0, 1, 5], sh := Zn, obs := [(64, .arr 61 (.pair yi yi))] } }, [(0, { acts := [], S := { slots := [0, 1], sh := Zp, obs := [(64, .arr 61 (.pair yi yi))] } })], { acts := [], S := { slots := [0, 4], sh := Zp, obs := [(64, .arr 61 (.pair yi yi))] } }, List Ye, Int × (Int), (Int) ⊕ (Unit), fun k v => (((), (v.1, (v.2, ()))), (k, ())), fun t => t.2.1, fun t => (t.1.2.1, t.1.2.2.1), wmf, fun k r => .s (Int) (Unit) r (fun a => .l (.exit 0 (wbd ({ slots := [0, 1], sh := Zp, obs := [(64, .arr 61 (.pair yi yi))] }) (((), (a, ())), (k, ()))))) (fun _ => .l (.ret (wbd ({ slots := [0, 4], sh := Zp, obs := [(64, .arr 61 (.pair yi yi))] }) (((), ((-1 : Int), ())), (k, ())))))⟩
noncomputable def wbah (a2_ : Int) (a1_ : List Ye) : Tr Yo :=
 .c ((Int) ⊕ (Unit)) (wahf a1_ (a2_, (0 : Int))) fun r20_ =>
 .s (Int) (Unit) r20_
 (fun r21_ => .l (r21_, a1_))
 (fun _ => .l ((-1 : Int), a1_))
noncomputable def wahg (a2_ : Int) (a1_ : List Ye) : Option Yo := (wbah a2_ a1_).ev
noncomputable def wbqf : RetK := { acts := [], res := [.tmp 4], sh := Zf, obs := [(64, .arr 61 (.pair yi yi))], pins := [(0, 0, 64)] }
noncomputable def wbai : FD := yd Zp [(64, .arr 61 (.pair yi yi))] [.arg 0] Yo (fun x => wahg x.1.2.1 x.2.1) (fun r => ([.dat yi r.1], [(64, .arr 61 (.pair yi yi) r.2)]))
noncomputable def waou : Env := wac []
noncomputable def waov : List (Nat × LD) := [(2, wzz), (0, waaa)]
noncomputable def waow : Code := (f19.body).getD .skip
noncomputable def wbaj (a1_ : Y1) (a2_ : List Y1) (a3_ : Int) (a4_ : Int) : Tr (Bool) :=
 .c (Int) (walt a1_ a2_ (1048576 : Int)) fun r1_ =>
 .t (decide (r1_ < 0))
 (.l true)
 (.c Yr (wuy a1_ a2_) fun r2_ =>
 .c ((List Ye) × (Bool)) (wamu r2_.1 r2_.2 a3_ a4_) fun r3_ =>
 .c Yr (wuy a1_ a2_) fun r4_ =>
 .c (Bool × (List Ye)) (F_zn r4_.1 r4_.2 a3_ a4_) fun r5_ =>
 .c (Bool) (wacb r5_.2 r3_.1) fun r6_ =>
 .t (!r6_)
 (.l false)
 (.t (!(r5_.1 == r3_.2))
 (.l false)
 (.c Yr (wuy a1_ a2_) fun r7_ =>
 .c (Bool) (waom r4_.1 r4_.2 r7_.1 r7_.2) fun r8_ =>
 .t (!r8_)
 (.l false)
 (.c (Int × Yr) (waop (1 : Int) r4_.1 r4_.2) fun r9_ =>
 .t (decide (r9_.1 < 0))
 (.l false)
 (.c (Bool) (wacb r5_.2 r3_.1) fun r10_ =>
 .t (!r10_)
 (.l false)
 (.t (!(r5_.1 == r3_.2))
 (.l false)
 (.c Yo (waoq (1 : Int) r5_.2) fun r11_ =>
 .c Yo (wahg (1 : Int) r11_.2) fun r12_ =>
 .t (decide (r12_.1 < 0))
 (.l false)
 (.t (r12_.1 != r11_.1)
 (.l false)
 (.c Yr (wuy a1_ a2_) fun r13_ =>
 .c (Bool × (List Ye)) (F_zn r13_.1 r13_.2 a3_ a4_) fun r14_ =>
 .c (Bool) (wacb r14_.2 r3_.1) fun r15_ =>
 .t (!r15_)
 (.l false)
 (.t (!(r14_.1 == r3_.2))
 (.l false)
 (.c Yo (wahg (1 : Int) r12_.2) fun r16_ =>
 .t (decide (r16_.1 < 0))
 (.l false)
 (.t (r16_.1 != r11_.1)
 (.l false)
 (.l true)))))))))))))
noncomputable def wbak (a1_ : Y1) (a2_ : List Y1) (a3_ : Int) (a4_ : Int) : Option (Bool) := (wbaj a1_ a2_ a3_ a4_).ev
noncomputable def wbqg : RetK := yr [.tmp 6] Zj
noncomputable def wbal : FD := yd (yj [.agg Zg, .dat yi, .dat yi]) [] [] Bool (fun x => wbak x.1.1.1 x.1.1.2.1 x.1.2.1 x.1.2.2.1) (fun r => ([.dat .bool r], []))
noncomputable def wbqh : Nat → Nat → List Nat := fun r i => match look [(5, [(4, [25])])] r with
 | some l => (look l i).getD []
 | none => []
end Go.Proofs.Ytnagpmhaddfgmaa
