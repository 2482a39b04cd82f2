import Derived.Test.YtlmbhkmaflhagaaGreatC3
import Derived.Test.YtlmbhkmaflhagaaGreatProg
namespace Go.Proofs.YtlmbhkmaflhagaaGreat
open Go.Proofs.Tryz
noncomputable def S_zbp_0 (rec_ : (Int) → (Int) → (Int) → ((HL [y1, y1] → Option (Int))) → Y2 → Option Y2) (k : Int × ((HL [y1, y1] → Option (Int)))) (v : Int × (Int × (Bool × (Bool × Y2)))) : Tr ((Int × (Int × (Bool × (Bool × Y2)))) ⊕ Y2) :=
 .t (decide ((IntKind.wrap .i64 (v.2.1 - v.1)) ≤ (12 : Int)))
 (.c Y2 (F_zbk v.1 v.2.1 k.2 v.2.2.2.2) fun r8_ =>
 .l (.inr r8_))
 (.t (k.1 == (0 : Int))
 (.f)
 (.t (!v.2.2.1)
 (.f)
 (.c (Int × Int) (F_zbj v.2.2.2.2 v.1 v.2.1 k.2) fun r9_ =>
 .t (r9_.2 == (2 : Int))
 (.f)
 (.t v.2.2.1
 (.t v.2.2.2.1
 (.t (r9_.2 == (1 : Int))
 (.f)
 (.t (decide ((0 : Int) < v.1))
 (.g (inR (IntKind.wrap .i64 (v.1 - (1 : Int))) (List.length v.2.2.2.2)) <|
 .g (decide ((Int.toNat (IntKind.wrap .i64 (v.1 - (1 : Int)))) < List.length v.2.2.2.2)) <|
 .g (inR r9_.1 (List.length v.2.2.2.2)) <|
 .g (decide ((Int.toNat r9_.1) < List.length v.2.2.2.2)) <|
 .c (Int) (k.2 ((List.getD v.2.2.2.2 (Int.toNat (IntKind.wrap .i64 (v.1 - (1 : Int)))) ([] : Y1)), ((List.getD v.2.2.2.2 (Int.toNat r9_.1) ([] : Y1)), ()))) fun r10_ =>
 .t (!(decide (r10_ < (0 : Int))))
 (.f)
 (.c (Int × (Bool × Y2)) (F_zbo v.1 v.2.1 r9_.1 k.2 v.2.2.2.2) fun r11_ =>
 .g (!decide ((8 : Int) = 0)) <|
 .t (decide ((IntKind.wrap .i64 (r11_.1 - v.1)) < (IntKind.wrap .i64 (v.2.1 - r11_.1))))
 (.c Y2 (rec_ v.1 r11_.1 k.1 k.2 r11_.2.2) fun r12_ =>
 .l (.inl ((IntKind.wrap .i64 (r11_.1 + (1 : Int))), (v.2.1, ((decide ((IntKind.wrap .i64 (Int.tdiv (IntKind.wrap .i64 (v.2.1 - v.1)) (8 : Int))) ≤ (IntKind.wrap .i64 (r11_.1 - v.1)))), (r11_.2.1, r12_))))))
 (.c Y2 (rec_ (IntKind.wrap .i64 (r11_.1 + (1 : Int))) v.2.1 k.1 k.2 r11_.2.2) fun r13_ =>
 .l (.inl (v.1, (r11_.1, ((decide ((IntKind.wrap .i64 (Int.tdiv (IntKind.wrap .i64 (v.2.1 - v.1)) (8 : Int))) ≤ (IntKind.wrap .i64 (v.2.1 - r11_.1)))), (r11_.2.1, r13_))))))))
 (.c (Int × (Bool × Y2)) (F_zbo v.1 v.2.1 r9_.1 k.2 v.2.2.2.2) fun r14_ =>
 .g (!decide ((8 : Int) = 0)) <|
 .t (decide ((IntKind.wrap .i64 (r14_.1 - v.1)) < (IntKind.wrap .i64 (v.2.1 - r14_.1))))
 (.c Y2 (rec_ v.1 r14_.1 k.1 k.2 r14_.2.2) fun r15_ =>
 .l (.inl ((IntKind.wrap .i64 (r14_.1 + (1 : Int))), (v.2.1, ((decide ((IntKind.wrap .i64 (Int.tdiv (IntKind.wrap .i64 (v.2.1 - v.1)) (8 : Int))) ≤ (IntKind.wrap .i64 (r14_.1 - v.1)))), (r14_.2.1, r15_))))))
 (.c Y2 (rec_ (IntKind.wrap .i64 (r14_.1 + (1 : Int))) v.2.1 k.1 k.2 r14_.2.2) fun r16_ =>
 .l (.inl (v.1, (r14_.1, ((decide ((IntKind.wrap .i64 (Int.tdiv (IntKind.wrap .i64 (v.2.1 - v.1)) (8 : Int))) ≤ (IntKind.wrap .i64 (v.2.1 - r14_.1)))), (r14_.2.1, r16_)))))))))
 (.t (decide ((0 : Int) < v.1))
 (.g (inR (IntKind.wrap .i64 (v.1 - (1 : Int))) (List.length v.2.2.2.2)) <|
 .g (decide ((Int.toNat (IntKind.wrap .i64 (v.1 - (1 : Int)))) < List.length v.2.2.2.2)) <|
 .g (inR r9_.1 (List.length v.2.2.2.2)) <|
 .g (decide ((Int.toNat r9_.1) < List.length v.2.2.2.2)) <|
 .c (Int) (k.2 ((List.getD v.2.2.2.2 (Int.toNat (IntKind.wrap .i64 (v.1 - (1 : Int)))) ([] : Y1)), ((List.getD v.2.2.2.2 (Int.toNat r9_.1) ([] : Y1)), ()))) fun r17_ =>
 .t (!(decide (r17_ < (0 : Int))))
 (.f)
 (.c (Int × (Bool × Y2)) (F_zbo v.1 v.2.1 r9_.1 k.2 v.2.2.2.2) fun r18_ =>
 .g (!decide ((8 : Int) = 0)) <|
 .t (decide ((IntKind.wrap .i64 (r18_.1 - v.1)) < (IntKind.wrap .i64 (v.2.1 - r18_.1))))
 (.c Y2 (rec_ v.1 r18_.1 k.1 k.2 r18_.2.2) fun r19_ =>
 .l (.inl ((IntKind.wrap .i64 (r18_.1 + (1 : Int))), (v.2.1, ((decide ((IntKind.wrap .i64 (Int.tdiv (IntKind.wrap .i64 (v.2.1 - v.1)) (8 : Int))) ≤ (IntKind.wrap .i64 (r18_.1 - v.1)))), (r18_.2.1, r19_))))))
 (.c Y2 (rec_ (IntKind.wrap .i64 (r18_.1 + (1 : Int))) v.2.1 k.1 k.2 r18_.2.2) fun r20_ =>
 .l (.inl (v.1, (r18_.1, ((decide ((IntKind.wrap .i64 (Int.tdiv (IntKind.wrap .i64 (v.2.1 - v.1)) (8 : Int))) ≤ (IntKind.wrap .i64 (v.2.1 - r18_.1)))), (r18_.2.1, r20_))))))))
 (.c (Int × (Bool × Y2)) (F_zbo v.1 v.2.1 r9_.1 k.2 v.2.2.2.2) fun r21_ =>
 .g (!decide ((8 : Int) = 0)) <|
 .t (decide ((IntKind.wrap .i64 (r21_.1 - v.1)) < (IntKind.wrap .i64 (v.2.1 - r21_.1))))
 (.c Y2 (rec_ v.1 r21_.1 k.1 k.2 r21_.2.2) fun r22_ =>
 .l (.inl ((IntKind.wrap .i64 (r21_.1 + (1 : Int))), (v.2.1, ((decide ((IntKind.wrap .i64 (Int.tdiv (IntKind.wrap .i64 (v.2.1 - v.1)) (8 : Int))) ≤ (IntKind.wrap .i64 (r21_.1 - v.1)))), (r21_.2.1, r22_))))))
 (.c Y2 (rec_ (IntKind.wrap .i64 (r21_.1 + (1 : Int))) v.2.1 k.1 k.2 r21_.2.2) fun r23_ =>
 .l (.inl (v.1, (r21_.1, ((decide ((IntKind.wrap .i64 (Int.tdiv (IntKind.wrap .i64 (v.2.1 - v.1)) (8 : Int))) ≤ (IntKind.wrap .i64 (v.2.1 - r21_.1)))), (r21_.2.1, r23_)))))))))
 (.t (decide ((0 : Int) < v.1))
 (.g (inR (IntKind.wrap .i64 (v.1 - (1 : Int))) (List.length v.2.2.2.2)) <|
 .g (decide ((Int.toNat (IntKind.wrap .i64 (v.1 - (1 : Int)))) < List.length v.2.2.2.2)) <|
 .g (inR r9_.1 (List.length v.2.2.2.2)) <|
 .g (decide ((Int.toNat r9_.1) < List.length v.2.2.2.2)) <|
 .c (Int) (k.2 ((List.getD v.2.2.2.2 (Int.toNat (IntKind.wrap .i64 (v.1 - (1 : Int)))) ([] : Y1)), ((List.getD v.2.2.2.2 (Int.toNat r9_.1) ([] : Y1)), ()))) fun r24_ =>
 .t (!(decide (r24_ < (0 : Int))))
 (.f)
 (.c (Int × (Bool × Y2)) (F_zbo v.1 v.2.1 r9_.1 k.2 v.2.2.2.2) fun r25_ =>
 .g (!decide ((8 : Int) = 0)) <|
 .t (decide ((IntKind.wrap .i64 (r25_.1 - v.1)) < (IntKind.wrap .i64 (v.2.1 - r25_.1))))
 (.c Y2 (rec_ v.1 r25_.1 k.1 k.2 r25_.2.2) fun r26_ =>
 .l (.inl ((IntKind.wrap .i64 (r25_.1 + (1 : Int))), (v.2.1, ((decide ((IntKind.wrap .i64 (Int.tdiv (IntKind.wrap .i64 (v.2.1 - v.1)) (8 : Int))) ≤ (IntKind.wrap .i64 (r25_.1 - v.1)))), (r25_.2.1, r26_))))))
 (.c Y2 (rec_ (IntKind.wrap .i64 (r25_.1 + (1 : Int))) v.2.1 k.1 k.2 r25_.2.2) fun r27_ =>
 .l (.inl (v.1, (r25_.1, ((decide ((IntKind.wrap .i64 (Int.tdiv (IntKind.wrap .i64 (v.2.1 - v.1)) (8 : Int))) ≤ (IntKind.wrap .i64 (v.2.1 - r25_.1)))), (r25_.2.1, r27_))))))))
 (.c (Int × (Bool × Y2)) (F_zbo v.1 v.2.1 r9_.1 k.2 v.2.2.2.2) fun r28_ =>
 .g (!decide ((8 : Int) = 0)) <|
 .t (decide ((IntKind.wrap .i64 (r28_.1 - v.1)) < (IntKind.wrap .i64 (v.2.1 - r28_.1))))
 (.c Y2 (rec_ v.1 r28_.1 k.1 k.2 r28_.2.2) fun r29_ =>
 .l (.inl ((IntKind.wrap .i64 (r28_.1 + (1 : Int))), (v.2.1, ((decide ((IntKind.wrap .i64 (Int.tdiv (IntKind.wrap .i64 (v.2.1 - v.1)) (8 : Int))) ≤ (IntKind.wrap .i64 (r28_.1 - v.1)))), (r28_.2.1, r29_))))))
 (.c Y2 (rec_ (IntKind.wrap .i64 (r28_.1 + (1 : Int))) v.2.1 k.1 k.2 r28_.2.2) fun r30_ =>
 .l (.inl (v.1, (r28_.1, ((decide ((IntKind.wrap .i64 (Int.tdiv (IntKind.wrap .i64 (v.2.1 - v.1)) (8 : Int))) ≤ (IntKind.wrap .i64 (v.2.1 - r28_.1)))), (r28_.2.1, r30_))))))))))))
noncomputable def L_zbp_0 (rec_ : (Int) → (Int) → (Int) → ((HL [y1, y1] → Option (Int))) → Y2 → Option Y2) (k : Int × ((HL [y1, y1] → Option (Int)))) (v : Int × (Int × (Bool × (Bool × Y2)))) : Option Y2 := iter (fun v => (S_zbp_0 rec_ k v).ev) v
noncomputable def DL_zbp_0 (rec_ : (Int) → (Int) → (Int) → ((HL [y1, y1] → Option (Int))) → Y2 → Option Y2) : LD where
 head := { acts := [], S := { slots := [0, 1, 2, 3, 4, 10, 11], sh := (.cons (.arr 64) (.cons (.dat yi) (.cons (.dat yi) (.cons (.dat yi) (.cons (.clo [y1, y1] yi) (.cons (.dat .bool) (.cons (.dat .bool) .nil))))))), obs := [(64, .arr 24 y1)] } }
 exits := []
 rets := { acts := [], S := { slots := [0], sh := (.cons (.arr 64) .nil), obs := [(64, .arr 24 y1)] } }
 K := Int × ((HL [y1, y1] → Option (Int)))
 V := Int × (Int × (Bool × (Bool × Y2)))
 R := List Y1
 join := fun k v => (((), (v.1, (v.2.1, (k.1, (k.2, (v.2.2.1, (v.2.2.2.1, ()))))))), (v.2.2.2.2, ()))
 sk := fun t => (t.1.2.2.2.1, t.1.2.2.2.2.1)
 sv := fun t => (t.1.2.1, (t.1.2.2.1, (t.1.2.2.2.2.2.1, (t.1.2.2.2.2.2.2.1, t.2.1))))
 step := S_zbp_0 rec_
 leaf := fun _ r => .l (.ret (mkSt ({ slots := [0], sh := (.cons (.arr 64) .nil), obs := [(64, .arr 24 y1)] }) (((), ()), (r, ()))))
noncomputable def T_zbp (rec_ : (Int) → (Int) → (Int) → ((HL [y1, y1] → Option (Int))) → Y2 → Option Y2) (a2_ : Int) (a3_ : Int) (a4_ : Int) (a5_ : (HL [y1, y1] → Option (Int))) (a1_ : List Y1) : Tr Y2 :=
 .c Y2 (L_zbp_0 rec_ (a4_, a5_) (a2_, (a3_, (true, (true, a1_))))) fun r32_ =>
 .l r32_
noncomputable def F_zbp : Nat → (Int) → (Int) → (Int) → ((HL [y1, y1] → Option (Int))) → Y2 → Option Y2
 | 0 => fun _ _ _ _ _ => none
 | n + 1 => fun a2_ a3_ a4_ a5_ a1_ => (T_zbp (F_zbp n) a2_ a3_ a4_ a5_ a1_).ev
noncomputable def A_zbp : Sh := (.cons (.arr 64) (.cons (.dat yi) (.cons (.dat yi) (.cons (.dat yi) (.cons (.clo [y1, y1] yi) .nil)))))
noncomputable def I_zbp : List (Nat × OSh) := [(64, .arr 24 y1)]
noncomputable def K_zbp : RetK := { acts := [], res := [], sh := .nil, obs := [(64, .arr 24 y1)], pins := [(0, 0, 64)] }
noncomputable def Dr_zbp (rec_ : (Int) → (Int) → (Int) → ((HL [y1, y1] → Option (Int))) → Y2 → Option Y2) : FD where
 A := A_zbp
 ins := I_zbp
 lend := [.arg 0]
 R := List Y1
 F := fun x => rec_ x.1.2.1 x.1.2.2.1 x.1.2.2.2.1 x.1.2.2.2.2.1 x.2.1
 emb := fun r => ([], [(64, .arr 24 y1 r)])
noncomputable def D_zbp (n : Nat) : FD := Dr_zbp (F_zbp n)
noncomputable def E_zbp (rec_ : (Int) → (Int) → (Int) → ((HL [y1, y1] → Option (Int))) → Y2 → Option Y2) : Env := envOf [(118, D_zbk), (121, D_zbj), (125, D_zbo), (111, Dr_zbp rec_)]
noncomputable def Z_zbp : Nat → Nat → List Nat := fun _ _ => []
noncomputable def O_zbp (rec_ : (Int) → (Int) → (Int) → ((HL [y1, y1] → Option (Int))) → Y2 → Option Y2) : List (Nat × LD) := [(0, DL_zbp_0 rec_)]
noncomputable def C_zbp : Code := (f111.body).getD .skip
noncomputable def T_zbi (a2_ : (HL [y1, y1] → Option (Int))) (a1_ : List Y1) : Tr Y2 :=
 .c (Int) (F_zaw (IntKind.wrap .u64 ((List.length a1_ : Nat) : Int))) fun r1_ =>
 .c Y2 (F_zbp 1000000 (0 : Int) ((List.length a1_ : Nat) : Int) r1_ a2_ a1_) fun r2_ =>
 .l r2_
noncomputable def F_zbi (a2_ : (HL [y1, y1] → Option (Int))) (a1_ : List Y1) : Option Y2 := (T_zbi a2_ a1_).ev
noncomputable def A_zbi : Sh := (.cons (.arr 64) (.cons (.clo [y1, y1] yi) .nil))
noncomputable def I_zbi : List (Nat × OSh) := [(64, .arr 24 y1)]
noncomputable def K_zbi : RetK := { acts := [], res := [], sh := .nil, obs := [(64, .arr 24 y1)], pins := [(0, 0, 64)] }
noncomputable def D_zbi : FD := ⟨A_zbi, I_zbi, [.arg 0], List Y1, fun x => F_zbi x.1.2.1 x.2.1, fun r => ([], [(64, .arr 24 y1 r)])⟩
noncomputable def E_zbi : Env := envOf [(112, D_zaw), (111, D_zbp 1000000)]
noncomputable def Z_zbi : Nat → Nat → List Nat := fun _ _ => []
noncomputable def O_zbi : List (Nat × LD) := []
noncomputable def C_zbi : Code := (f106.body).getD .skip
noncomputable def T_zc (a1_ : Int) : Tr (Bool) :=
 .l (a1_ != a1_)
noncomputable def F_zc (a1_ : Int) : Option (Bool) := (T_zc a1_).ev
noncomputable def A_zc : Sh := (.cons (.dat yi) .nil)
noncomputable def I_zc : List (Nat × OSh) := []
noncomputable def K_zc : RetK := { acts := [], res := [.tmp 2], sh := (.cons (.dat .bool) .nil), obs := [], pins := [] }
noncomputable def D_zc : FD := ⟨A_zc, I_zc, [], Bool, fun x => F_zc x.1.1, fun r => ([.dat .bool r], [])⟩
noncomputable def E_zc : Env := envOf []
noncomputable def Z_zc : Nat → Nat → List Nat := fun _ _ => []
noncomputable def O_zc : List (Nat × LD) := []
noncomputable def C_zc : Code := (f128.body).getD .skip
noncomputable def T_za (a1_ : Int) (a2_ : Int) : Tr (Int) :=
 .c (Bool) (F_zc a1_) fun r1_ =>
 .c (Bool) (F_zc a2_) fun r2_ =>
 .t r1_
 (.t r2_
 (.l (0 : Int))
 (.l (-1 : Int)))
 (.t r2_
 (.l (1 : Int))
 (.t (decide (a1_ < a2_))
 (.l (-1 : Int))
 (.t (decide (a2_ < a1_))
 (.l (1 : Int))
 (.l (0 : Int)))))
noncomputable def F_za (a1_ : Int) (a2_ : Int) : Option (Int) := (T_za a1_ a2_).ev
noncomputable def A_za : Sh := (.cons (.dat yi) (.cons (.dat yi) .nil))
noncomputable def I_za : List (Nat × OSh) := []
noncomputable def K_za : RetK := { acts := [], res := [.tmp 4], sh := (.cons (.dat yi) .nil), obs := [], pins := [] }
noncomputable def D_za : FD := ⟨A_za, I_za, [], Int, fun x => F_za x.1.1 x.1.2.1, fun r => ([.dat yi r], [])⟩
noncomputable def E_za : Env := envOf [(128, D_zc)]
noncomputable def Z_za : Nat → Nat → List Nat := fun _ _ => []
noncomputable def O_za : List (Nat × LD) := []
noncomputable def C_za : Code := (f114.body).getD .skip
noncomputable def S_zaz_0 (k : Y1 × (Y1 × (Y1 × Int))) (v : Int) : Tr ((Int) ⊕ ((Unit) ⊕ (Int))) :=
 .t (decide (v < k.2.2.2))
 (.g (inR v (List.length k.2.2.1)) <|
 .t (decide (((List.length k.2.1 : Nat) : Int) ≤ v))
 (.l (.inr (.inr (1 : Int))))
 (.g (inR v (List.length k.2.1)) <|
 .c (Int) (F_za (List.getD k.2.2.1 (Int.toNat v) (0 : Int)) (List.getD k.2.1 (Int.toNat v) (0 : Int))) fun r6_ =>
 .t (r6_ != (0 : Int))
 (.l (.inr (.inr r6_)))
 (.l (.inl (IntKind.wrap .i64 (v + (1 : Int)))))))
 (.l (.inr (.inl ())))
noncomputable def L_zaz_0 (k : Y1 × (Y1 × (Y1 × Int))) (v : Int) : Option ((Unit) ⊕ (Int)) := iter (fun v => (S_zaz_0 k v).ev) v
noncomputable def DL_zaz_0 : LD := ⟨(yh [0, 1, 9, 10, 11] (.cons (.dat y1) (.cons (.dat y1) (.cons (.dat y1) (.cons (.dat yi) (.cons (.dat yi) .nil)))))), [(0, (yh [0, 1] (.cons (.dat y1) (.cons (.dat y1) .nil))))], (yh [4] (.cons (.dat yi) .nil)), Y1 × (Y1 × (Y1 × Int)), Int, (Unit) ⊕ (Int), fun k v => ((k.1, (k.2.1, (k.2.2.1, (k.2.2.2, (v, ()))))), ()), fun t => (t.1.1, (t.1.2.1, (t.1.2.2.1, t.1.2.2.2.1))), fun t => t.1.2.2.2.2.1, S_zaz_0, fun k r => .s (Unit) (Int) r (fun _ => .l (.exit 0 (mkSt ((ys [0, 1] (.cons (.dat y1) (.cons (.dat y1) .nil)))) ((k.1, (k.2.1, ())), ())))) (fun b => .l (.ret (mkSt ((ys [4] (.cons (.dat yi) .nil))) ((b, ()), ()))))⟩
noncomputable def T_zaz (a1_ : Y1) (a2_ : Y1) : Tr (Int) :=
 .c ((Unit) ⊕ (Int)) (L_zaz_0 (a1_, (a2_, (a1_, ((List.length a1_ : Nat) : Int)))) (0 : Int)) fun r10_ =>
 .s (Unit) (Int) r10_
 (fun _ => .t (decide (((List.length a1_ : Nat) : Int) < ((List.length a2_ : Nat) : Int)))
 (.l (-1 : Int))
 (.l (0 : Int)))
 (fun r12_ => .l r12_)
noncomputable def F_zaz (a1_ : Y1) (a2_ : Y1) : Option (Int) := (T_zaz a1_ a2_).ev
noncomputable def A_zaz : Sh := (.cons (.dat y1) (.cons (.dat y1) .nil))
noncomputable def I_zaz : List (Nat × OSh) := []
noncomputable def K_zaz : RetK := { acts := [], res := [.tmp 4], sh := (.cons (.dat yi) .nil), obs := [], pins := [] }
noncomputable def D_zaz : FD := ⟨A_zaz, I_zaz, [], Int, fun x => F_zaz x.1.1 x.1.2.1, fun r => ([.dat yi r], [])⟩
noncomputable def E_zaz : Env := envOf [(114, D_za)]
noncomputable def Z_zaz : Nat → Nat → List Nat := fun _ _ => []
noncomputable def O_zaz : List (Nat × LD) := [(0, DL_zaz_0)]
noncomputable def C_zaz : Code := (f115.body).getD .skip
noncomputable def S_zb_0 (k : Int × (Y1 × Int)) (v : Int) : Tr ((Int) ⊕ ((Unit) ⊕ (Int))) :=
 .t (decide (v < k.2.2))
 (.g (inR v (List.length k.2.1)) <|
 .t ((List.getD k.2.1 (Int.toNat v) (0 : Int)) != k.1)
 (.l (.inr (.inr (List.getD k.2.1 (Int.toNat v) (0 : Int)))))
 (.l (.inl (IntKind.wrap .i64 (v + (1 : Int))))))
 (.l (.inr (.inl ())))
noncomputable def L_zb_0 (k : Int × (Y1 × Int)) (v : Int) : Option ((Unit) ⊕ (Int)) := iter (fun v => (S_zb_0 k v).ev) v
noncomputable def DL_zb_0 : LD := ⟨(yh [3, 6, 7, 8] (.cons (.dat yi) (.cons (.dat y1) (.cons (.dat yi) (.cons (.dat yi) .nil))))), [(0, (yh [3] (.cons (.dat yi) .nil)))], (yh [2] (.cons (.dat yi) .nil)), Int × (Y1 × Int), Int, (Unit) ⊕ (Int), fun k v => ((k.1, (k.2.1, (k.2.2, (v, ())))), ()), fun t => (t.1.1, (t.1.2.1, t.1.2.2.1)), fun t => t.1.2.2.2.1, S_zb_0, fun k r => .s (Unit) (Int) r (fun _ => .l (.exit 0 (mkSt ((ys [3] (.cons (.dat yi) .nil))) ((k.1, ()), ())))) (fun b => .l (.ret (mkSt ((ys [2] (.cons (.dat yi) .nil))) ((b, ()), ()))))⟩
noncomputable def T_zb (a1_ : Y1) : Tr (Int) :=
 .c ((Unit) ⊕ (Int)) (L_zb_0 ((0 : Int), (a1_, ((List.length a1_ : Nat) : Int))) (0 : Int)) fun r7_ =>
 .s (Unit) (Int) r7_
 (fun _ => .l (0 : Int))
 (fun r9_ => .l r9_)
noncomputable def F_zb (a1_ : Y1) : Option (Int) := (T_zb a1_).ev
noncomputable def A_zb : Sh := (.cons (.dat y1) .nil)
noncomputable def I_zb : List (Nat × OSh) := []
noncomputable def K_zb : RetK := { acts := [], res := [.tmp 2], sh := (.cons (.dat yi) .nil), obs := [], pins := [] }
noncomputable def D_zb : FD := ⟨A_zb, I_zb, [], Int, fun x => F_zb x.1.1, fun r => ([.dat yi r], [])⟩
noncomputable def E_zb : Env := envOf []
noncomputable def Z_zb : Nat → Nat → List Nat := fun _ _ => []
noncomputable def O_zb : List (Nat × LD) := [(0, DL_zb_0)]
noncomputable def C_zb : Code := (f113.body).getD .skip
noncomputable def T_zal (a1_ : Y1) (a2_ : Y1) : Tr (Int) :=
 .c (Int) (F_za ((List.length a1_ : Nat) : Int) ((List.length a2_ : Nat) : Int)) fun r1_ =>
 .c (Int) (F_zaz a1_ a2_) fun r2_ =>
 .c (Int) (F_zb ([r1_, r2_] : Y1)) fun r3_ =>
 .l r3_
noncomputable def F_zal (a1_ : Y1) (a2_ : Y1) : Option (Int) := (T_zal a1_ a2_).ev
noncomputable def A_zal : Sh := (.cons (.dat y1) (.cons (.dat y1) .nil))
noncomputable def I_zal : List (Nat × OSh) := []
noncomputable def K_zal : RetK := { acts := [], res := [.tmp 4], sh := (.cons (.dat yi) .nil), obs := [], pins := [] }
noncomputable def D_zal : FD := ⟨A_zal, I_zal, [], Int, fun x => F_zal x.1.1 x.1.2.1, fun r => ([.dat yi r], [])⟩
noncomputable def E_zal : Env := envOf [(114, D_za), (115, D_zaz), (113, D_zb)]
noncomputable def Z_zal : Nat → Nat → List Nat := fun _ _ => []
noncomputable def O_zal : List (Nat × LD) := []
noncomputable def C_zal : Code := (f107.body).getD .skip
noncomputable def S_zap_0 (k : Int) (v : Int × Y2) : Tr ((Int × Y2) ⊕ Y2) :=
 .g (decide ((0 : Int) ≤ k)) <|
 .t (decide (v.1 < (IntKind.wrap .u64 ((1 : Int) * 2 ^ (min (Int.toNat k) (IntKind.bits .u64))))))
 (.c Y1 (F_zaj v.1) fun r4_ =>
 .g (decide ((List.length v.2 + List.length ([r4_] : List Y1)) * 24 ≤ 140737488355328)) <|
 .l (.inl ((IntKind.wrap .u64 (v.1 + (1 : Int))), (v.2 ++ ([r4_] : List Y1)))))
 (.l (.inr v.2))
noncomputable def L_zap_0 (k : Int) (v : Int × Y2) : Option Y2 := iter (fun v => (S_zap_0 k v).ev) v
noncomputable def DL_zap_0 : LD := ⟨{ acts := [], S := { slots := [0, 3, 4], sh := (.cons (.dat yi) (.cons (.arr 5) (.cons (.dat (.int .u64)) .nil))), obs := [(5, .arr 24 y1)] } }, [(0, { acts := [], S := { slots := [3], sh := (.cons (.arr 5) .nil), obs := [(5, .arr 24 y1)] } })], (yh [] .nil), Int, Int × Y2, List Y1, fun k v => ((k, ((), (v.1, ()))), (v.2, ())), fun t => t.1.1, fun t => (t.1.2.2.1, t.2.1), S_zap_0, fun _ r => .l (.exit 0 (mkSt ({ slots := [3], sh := (.cons (.arr 5) .nil), obs := [(5, .arr 24 y1)] }) (((), ()), (r, ()))))⟩
noncomputable def T_zap (a1_ : Int) : Tr Y2 :=
 .c Y2 (L_zap_0 a1_ ((1 : Int), ([] : List Y1))) fun r6_ =>
 .c Y2 (F_zbi (fun h7_ => Option.bind (F_zal h7_.1 h7_.2.1) fun y8_ => some y8_) r6_) fun r9_ =>
 .l r9_
noncomputable def F_zap (a1_ : Int) : Option Y2 := (T_zap a1_).ev
noncomputable def A_zap : Sh := (.cons (.dat yi) .nil)
noncomputable def I_zap : List (Nat × OSh) := []
noncomputable def K_zap : RetK := { acts := [.ren 5 0], res := [.tmp 2], sh := (.cons (.arr 0) .nil), obs := [(0, .arr 24 y1)], pins := [] }
noncomputable def D_zap : FD := ⟨A_zap, I_zap, [], List Y1, fun x => F_zap x.1.1, fun r => ([.arr 0], [(0, .arr 24 y1 r)])⟩
noncomputable def E_zap : Env := envOf [(89, D_zaj), (106, D_zbi), (106, D_zbi), (107, D_zal)]
noncomputable def Z_zap : Nat → Nat → List Nat := fun r i => match look [(5, [(3, [14])])] r with
 | some l => (look l i).getD []
 | none => []
noncomputable def O_zap : List (Nat × LD) := [(0, DL_zap_0)]
noncomputable def C_zap : Code := (f99.body).getD .skip
noncomputable def S_zao_0 (k : ((HL [y1] → Option (Bool))) × (Int × Y2)) (v : Int × Y2) : Tr ((Int × Y2) ⊕ Y2) :=
 .t (decide (v.1 < k.2.1))
 (.g (inR v.1 (List.length k.2.2)) <|
 .g (decide ((Int.toNat v.1) < List.length k.2.2)) <|
 .c (Bool) (k.1 ((List.getD k.2.2 (Int.toNat v.1) ([] : Y1)), ())) fun r7_ =>
 .t r7_
 (.g (decide ((List.length v.2 + List.length ([(List.getD k.2.2 (Int.toNat v.1) ([] : Y1))] : List Y1)) * 24 ≤ 140737488355328)) <|
 .l (.inl ((IntKind.wrap .i64 (v.1 + (1 : Int))), (v.2 ++ ([(List.getD k.2.2 (Int.toNat v.1) ([] : Y1))] : List Y1)))))
 (.l (.inl ((IntKind.wrap .i64 (v.1 + (1 : Int))), v.2))))
 (.l (.inr v.2))
noncomputable def L_zao_0 (k : ((HL [y1] → Option (Bool))) × (Int × Y2)) (v : Int × Y2) : Option Y2 := iter (fun v => (S_zao_0 k v).ev) v
noncomputable def DL_zao_0 : LD := ⟨{ acts := [], S := { slots := [1, 5, 13, 14, 15], sh := (.cons (.clo [y1] .bool) (.cons (.arr 8) (.cons (.arr 10) (.cons (.dat yi) (.cons (.dat yi) .nil))))), obs := [(8, .arr 24 y1), (10, .arr 24 y1)] } }, [(0, { acts := [], S := { slots := [5], sh := (.cons (.arr 8) .nil), obs := [(8, .arr 24 y1)] } })], (yh [] .nil), ((HL [y1] → Option (Bool))) × (Int × Y2), Int × Y2, List Y1, fun k v => ((k.1, ((), ((), (k.2.1, (v.1, ()))))), (v.2, (k.2.2, ()))), fun t => (t.1.1, (t.1.2.2.2.1, t.2.2.1)), fun t => (t.1.2.2.2.2.1, t.2.1), S_zao_0, fun _ r => .l (.exit 0 (mkSt ({ slots := [5], sh := (.cons (.arr 8) .nil), obs := [(8, .arr 24 y1)] }) (((), ()), (r, ()))))⟩
noncomputable def T_zao (a1_ : Int) (a2_ : (HL [y1] → Option (Bool))) : Tr Y2 :=
 .c Y2 (F_zap a1_) fun r1_ =>
 .g (decide ((List.length ([([] : Y1)] : List Y1) + List.length r1_) * 24 ≤ 140737488355328)) <|
 .c Y2 (L_zao_0 (a2_, (((List.length (([([] : Y1)] : List Y1) ++ r1_) : Nat) : Int), (([([] : Y1)] : List Y1) ++ r1_))) ((0 : Int), ([] : List Y1))) fun r9_ =>
 .l r9_
noncomputable def F_zao (a1_ : Int) (a2_ : (HL [y1] → Option (Bool))) : Option Y2 := (T_zao a1_ a2_).ev
noncomputable def A_zao : Sh := (.cons (.dat yi) (.cons (.clo [y1] .bool) .nil))
noncomputable def I_zao : List (Nat × OSh) := []
noncomputable def K_zao : RetK := { acts := [.ren 8 0], res := [.tmp 4], sh := (.cons (.arr 0) .nil), obs := [(0, .arr 24 y1)], pins := [] }
noncomputable def D_zao : FD := ⟨A_zao, I_zao, [], List Y1, fun x => F_zao x.1.1 x.1.2.1, fun r => ([.arr 0], [(0, .arr 24 y1 r)])⟩
noncomputable def E_zao : Env := envOf [(99, D_zap)]
noncomputable def Z_zao : Nat → Nat → List Nat := fun r i => match look [(2, [(1, [9])])] r with
 | some l => (look l i).getD []
 | none => []
noncomputable def O_zao : List (Nat × LD) := [(0, DL_zao_0)]
noncomputable def C_zao : Code := (f67.body).getD .skip
noncomputable def T_zu (a1_ : Y1) (a2_ : Y1) (a3_ : Y1) (a4_ : Y1) (a5_ : Y3) (a6_ : Int) : Tr (Bool) :=
 .c (Bool) (F_zy a2_ a3_ a4_ a5_ a6_ a1_) fun r1_ =>
 .l r1_
noncomputable def F_zu (a1_ : Y1) (a2_ : Y1) (a3_ : Y1) (a4_ : Y1) (a5_ : Y3) (a6_ : Int) : Option (Bool) := (T_zu a1_ a2_ a3_ a4_ a5_ a6_).ev
noncomputable def A_zu : Sh := (.cons (.dat y1) (.cons (.ptr (.cons (.dat y1) (.cons (.dat y1) (.cons (.dat y1) (.cons (.dat y3) .nil))))) (.cons (.ptr (.cons (.dat yi) .nil)) .nil)))
noncomputable def I_zu : List (Nat × OSh) := []
noncomputable def K_zu : RetK := { acts := [], res := [.tmp 4], sh := (.cons (.dat .bool) .nil), obs := [], pins := [] }
noncomputable def D_zu : FD := ⟨A_zu, I_zu, [], Bool, fun x => F_zu x.1.1 x.1.2.1.1 x.1.2.1.2.1 x.1.2.1.2.2.1 x.1.2.1.2.2.2.1 x.1.2.2.1.1, fun r => ([.dat .bool r], [])⟩
noncomputable def E_zu : Env := envOf [(81, D_zy)]
noncomputable def Z_zu : Nat → Nat → List Nat := fun _ _ => []
noncomputable def O_zu : List (Nat × LD) := []
noncomputable def C_zu : Code := (f91.body).getD .skip
noncomputable def T_zt (a1_ : Y1) (a2_ : Y1) (a3_ : Y1) (a4_ : Y3) (a5_ : Int) : Tr Y2 :=
 .c Y2 (F_zao ((List.length a1_ : Nat) : Int) (fun h1_ => Option.bind (F_zu h1_.1 a1_ a2_ a3_ a4_ a5_) fun y2_ => some y2_)) fun r3_ =>
 .l r3_
noncomputable def F_zt (a1_ : Y1) (a2_ : Y1) (a3_ : Y1) (a4_ : Y3) (a5_ : Int) : Option Y2 := (T_zt a1_ a2_ a3_ a4_ a5_).ev
noncomputable def A_zt : Sh := (.cons (.agg (.cons (.dat y1) (.cons (.dat y1) (.cons (.dat y1) (.cons (.dat y3) .nil))))) (.cons (.dat yi) .nil))
noncomputable def I_zt : List (Nat × OSh) := []
noncomputable def K_zt : RetK := { acts := [.ren 576 0], res := [.tmp 4], sh := (.cons (.arr 0) .nil), obs := [(0, .arr 24 y1)], pins := [] }
noncomputable def D_zt : FD := ⟨A_zt, I_zt, [], List Y1, fun x => F_zt x.1.1.1 x.1.1.2.1 x.1.1.2.2.1 x.1.1.2.2.2.1 x.1.2.1, fun r => ([.arr 0], [(0, .arr 24 y1 r)])⟩
noncomputable def E_zt : Env := envOf [(67, D_zao), (67, D_zao), (91, D_zu)]
noncomputable def Z_zt : Nat → Nat → List Nat := fun _ _ => []
noncomputable def O_zt : List (Nat × LD) := []
noncomputable def C_zt : Code := (f50.body).getD .skip
noncomputable def S_zan_0 (k : ((HL [y1] → Option (Int))) × (Y2 × Int)) (v : Y1 × Int) : Tr ((Y1 × Int) ⊕ Y1) :=
 .t (decide (v.2 < k.2.2))
 (.g (inR v.2 (List.length k.2.1)) <|
 .c (Int) (k.1 ((List.getD k.2.1 (Int.toNat v.2) ([] : Y1)), ())) fun r6_ =>
 .c (Int) (k.1 (v.1, ())) fun r7_ =>
 .t (decide (r6_ < r7_))
 (.l (.inl ((List.getD k.2.1 (Int.toNat v.2) ([] : Y1)), (IntKind.wrap .i64 (v.2 + (1 : Int))))))
 (.l (.inl (v.1, (IntKind.wrap .i64 (v.2 + (1 : Int)))))))
 (.l (.inr v.1))
noncomputable def L_zan_0 (k : ((HL [y1] → Option (Int))) × (Y2 × Int)) (v : Y1 × Int) : Option Y1 := iter (fun v => (S_zan_0 k v).ev) v
noncomputable def DL_zan_0 : LD := ⟨(yh [1, 5, 11, 12, 13] (.cons (.clo [y1] yi) (.cons (.dat y1) (.cons (.dat y2) (.cons (.dat yi) (.cons (.dat yi) .nil)))))), [(0, (yh [5] (.cons (.dat y1) .nil)))], (yh [] .nil), ((HL [y1] → Option (Int))) × (Y2 × Int), Y1 × (Int), Y1, fun k v => ((k.1, (v.1, (k.2.1, (k.2.2, (v.2, ()))))), ()), fun t => (t.1.1, (t.1.2.2.1, t.1.2.2.2.1)), fun t => (t.1.2.1, t.1.2.2.2.2.1), S_zan_0, fun _ r => .l (.exit 0 (mkSt ((ys [5] (.cons (.dat y1) .nil))) ((r, ()), ())))⟩
noncomputable def T_zan (a1_ : List Y1) (a2_ : (HL [y1] → Option (Int))) : Tr Y1 :=
 .g (inR (0 : Int) (List.length a1_)) <|
 .c Y1 (L_zan_0 (a2_, (a1_, ((List.length a1_ : Nat) : Int))) ((List.getD a1_ (Int.toNat (0 : Int)) ([] : Y1)), (0 : Int))) fun r9_ =>
 .l r9_
noncomputable def F_zan (a1_ : List Y1) (a2_ : (HL [y1] → Option (Int))) : Option Y1 := (T_zan a1_ a2_).ev
noncomputable def A_zan : Sh := (.cons (.dat y2) (.cons (.clo [y1] yi) .nil))
noncomputable def I_zan : List (Nat × OSh) := []
noncomputable def K_zan : RetK := { acts := [], res := [.tmp 4], sh := (.cons (.dat y1) .nil), obs := [], pins := [] }
noncomputable def D_zan : FD := ⟨A_zan, I_zan, [], Y1, fun x => F_zan x.1.1 x.1.2.1, fun r => ([.dat y1 r], [])⟩
noncomputable def E_zan : Env := envOf []
noncomputable def Z_zan : Nat → Nat → List Nat := fun _ _ => []
noncomputable def O_zan : List (Nat × LD) := [(0, DL_zan_0)]
noncomputable def C_zan : Code := (f49.body).getD .skip
noncomputable def T_zw (a1_ : Y1) (a2_ : Y1) (a3_ : Y1) (a4_ : Y1) (a5_ : Y3) (a6_ : Int) (a7_ : Int) (a8_ : List Y1) : Tr (Int) :=
 .c Y1 (F_zaj a7_) fun r1_ =>
 .c (Int) (F_zz a2_ a3_ a4_ a5_ a6_ r1_ a1_) fun r2_ =>
 .g (inR (IntKind.wrap .i64 (a6_ + (1 : Int))) (List.length a8_)) <|
 .c (Int) (F_zah a1_) fun r3_ =>
 .g (inR r3_ (List.length (List.getD a8_ (Int.toNat (IntKind.wrap .i64 (a6_ + (1 : Int)))) ([] : Y1)))) <|
 .l (IntKind.wrap .i64 (r2_ + (List.getD (List.getD a8_ (Int.toNat (IntKind.wrap .i64 (a6_ + (1 : Int)))) ([] : Y1)) (Int.toNat r3_) (0 : Int))))
noncomputable def F_zw (a1_ : Y1) (a2_ : Y1) (a3_ : Y1) (a4_ : Y1) (a5_ : Y3) (a6_ : Int) (a7_ : Int) (a8_ : List Y1) : Option (Int) := (T_zw a1_ a2_ a3_ a4_ a5_ a6_ a7_ a8_).ev
noncomputable def A_zw : Sh := (.cons (.dat y1) (.cons (.ptr (.cons (.dat y1) (.cons (.dat y1) (.cons (.dat y1) (.cons (.dat y3) .nil))))) (.cons (.ptr (.cons (.dat yi) .nil)) (.cons (.ptr (.cons (.dat (.int .u64)) .nil)) (.cons (.ptr (.cons (.dat y2) .nil)) .nil)))))
noncomputable def I_zw : List (Nat × OSh) := []
noncomputable def K_zw : RetK := { acts := [], res := [.tmp 6], sh := (.cons (.dat yi) .nil), obs := [], pins := [] }
noncomputable def D_zw : FD := ⟨A_zw, I_zw, [], Int, fun x => F_zw x.1.1 x.1.2.1.1 x.1.2.1.2.1 x.1.2.1.2.2.1 x.1.2.1.2.2.2.1 x.1.2.2.1.1 x.1.2.2.2.1.1 x.1.2.2.2.2.1.1, fun r => ([.dat yi r], [])⟩
noncomputable def E_zw : Env := envOf [(89, D_zaj), (52, D_zz), (53, D_zah)]
noncomputable def Z_zw : Nat → Nat → List Nat := fun _ _ => []
noncomputable def O_zw : List (Nat × LD) := []
noncomputable def C_zw : Code := (f90.body).getD .skip
noncomputable def S_zv_2 (k : Y2 × (Y1 × (Y1 × (Y1 × (Y3 × Int))))) (v : Int × Y2) : Tr ((Int × Y2) ⊕ Y2) :=
 .g (decide ((0 : Int) ≤ ((List.length k.2.1 : Nat) : Int))) <|
 .t (decide (v.1 < (IntKind.wrap .u64 ((1 : Int) * 2 ^ (min (Int.toNat ((List.length k.2.1 : Nat) : Int)) (IntKind.bits .u64))))))
 (.g (inR k.2.2.2.2.2 (List.length v.2)) <|
 .g (decide ((Int.toNat k.2.2.2.2.2) < List.length v.2)) <|
 .c Y1 (F_zan k.1 (fun h16_ => Option.bind (F_zw h16_.1 k.2.1 k.2.2.1 k.2.2.2.1 k.2.2.2.2.1 k.2.2.2.2.2 v.1 v.2) fun y17_ => some y17_)) fun r18_ =>
 .c (Int) (F_zw r18_ k.2.1 k.2.2.1 k.2.2.2.1 k.2.2.2.2.1 k.2.2.2.2.2 v.1 v.2) fun r19_ =>
 .g (decide ((List.length (List.getD v.2 (Int.toNat k.2.2.2.2.2) ([] : Y1)) + List.length ([r19_] : Y1)) * 8 ≤ 140737488355328)) <|
 .g (inR k.2.2.2.2.2 (List.length v.2)) <|
 .g (decide ((Int.toNat k.2.2.2.2.2) < List.length v.2) && decide ((Int.toNat k.2.2.2.2.2) = (Int.toNat k.2.2.2.2.2))) <|
 .l (.inl ((IntKind.wrap .u64 (v.1 + (1 : Int))), (List.set v.2 (Int.toNat k.2.2.2.2.2) ((List.getD v.2 (Int.toNat k.2.2.2.2.2) ([] : Y1)) ++ ([r19_] : Y1))))))
 (.l (.inr v.2))
noncomputable def L_zv_2 (k : Y2 × (Y1 × (Y1 × (Y1 × (Y3 × Int))))) (v : Int × Y2) : Option Y2 := iter (fun v => (S_zv_2 k v).ev) v
noncomputable def DL_zv_2 : LD := ⟨{ acts := [.fz 1984], S := { slots := [1, 4, 5, 6, 7], sh := (.cons (.box 1 0) (.cons (.box 4 0) (.cons (.box 5 0) (.cons (.dat y2) (.cons (.box 7 0) .nil))))), obs := [(1, .cells (.cons (.dat y1) (.cons (.dat y1) (.cons (.dat y1) (.cons (.dat y3) .nil))))), (4, .cells (.cons (.arr 14) .nil)), (5, .cells (.cons (.dat yi) .nil)), (7, .cells (.cons (.dat (.int .u64)) .nil)), (14, .rows 24 3 yi)] } }, [(2, { acts := [], S := { slots := [1, 4, 5], sh := (.cons (.box 1 0) (.cons (.box 4 0) (.cons (.box 5 0) .nil))), obs := [(1, .cells (.cons (.dat y1) (.cons (.dat y1) (.cons (.dat y1) (.cons (.dat y3) .nil))))), (4, .cells (.cons (.arr 14) .nil)), (5, .cells (.cons (.dat yi) .nil)), (14, .rows 24 3 yi)] } })], (yh [] .nil), Y2 × (Y1 × (Y1 × (Y1 × (Y3 × Int)))), Int × Y2, List Y1, fun k v => (((), ((), ((), (k.1, ((), ()))))), ((k.2.1, (k.2.2.1, (k.2.2.2.1, (k.2.2.2.2.1, ())))), (((), ()), ((k.2.2.2.2.2, ()), ((v.1, ()), (v.2, ())))))), fun t => (t.1.2.2.2.1, (t.2.1.1, (t.2.1.2.1, (t.2.1.2.2.1, (t.2.1.2.2.2.1, t.2.2.2.1.1))))), fun t => (t.2.2.2.2.1.1, t.2.2.2.2.2.1), S_zv_2, fun k r => .l (.exit 2 (mkSt ({ slots := [1, 4, 5], sh := (.cons (.box 1 0) (.cons (.box 4 0) (.cons (.box 5 0) .nil))), obs := [(1, .cells (.cons (.dat y1) (.cons (.dat y1) (.cons (.dat y1) (.cons (.dat y3) .nil))))), (4, .cells (.cons (.arr 14) .nil)), (5, .cells (.cons (.dat yi) .nil)), (14, .rows 24 3 yi)] }) (((), ((), ((), ()))), ((k.2.1, (k.2.2.1, (k.2.2.2.1, (k.2.2.2.2.1, ())))), (((), ()), ((k.2.2.2.2.2, ()), (r, ())))))))⟩
noncomputable def S_zv_0 (k : Y1 × (Y1 × (Y1 × Y3))) (v : Int × Y2) : Tr ((Int × Y2) ⊕ Y2) :=
 .t (decide ((0 : Int) ≤ v.1))
 (.c Y2 (F_zt k.1 k.2.1 k.2.2.1 k.2.2.2 v.1) fun r7_ =>
 .c Y2 (L_zv_2 (r7_, (k.1, (k.2.1, (k.2.2.1, (k.2.2.2, v.1))))) ((0 : Int), v.2)) fun r26_ =>
 .l (.inl ((IntKind.wrap .i64 (v.1 - (1 : Int))), r26_)))
 (.l (.inr v.2))
noncomputable def L_zv_0 (k : Y1 × (Y1 × (Y1 × Y3))) (v : Int × Y2) : Option Y2 := iter (fun v => (S_zv_0 k v).ev) v
noncomputable def DL_zv_0 : LD := ⟨{ acts := [], S := { slots := [1, 4, 5], sh := (.cons (.box 1 0) (.cons (.box 4 0) (.cons (.box 5 0) .nil))), obs := [(1, .cells (.cons (.dat y1) (.cons (.dat y1) (.cons (.dat y1) (.cons (.dat y3) .nil))))), (4, .cells (.cons (.arr 14) .nil)), (5, .cells (.cons (.dat yi) .nil)), (14, .rows 24 3 yi)] } }, [(0, { acts := [], S := { slots := [4], sh := (.cons (.box 4 0) .nil), obs := [(4, .cells (.cons (.arr 14) .nil)), (14, .rows 24 3 yi)] } })], (yh [] .nil), Y1 × (Y1 × (Y1 × Y3)), Int × Y2, List Y1, fun k v => (((), ((), ((), ()))), ((k.1, (k.2.1, (k.2.2.1, (k.2.2.2, ())))), (((), ()), ((v.1, ()), (v.2, ()))))), fun t => (t.2.1.1, (t.2.1.2.1, (t.2.1.2.2.1, t.2.1.2.2.2.1))), fun t => (t.2.2.2.1.1, t.2.2.2.2.1), S_zv_0, fun _ r => .l (.exit 0 (mkSt ({ slots := [4], sh := (.cons (.box 4 0) .nil), obs := [(4, .cells (.cons (.arr 14) .nil)), (14, .rows 24 3 yi)] }) (((), ()), (((), ()), (r, ())))))⟩
noncomputable def T_zv (a1_ : Y1) (a2_ : Y1) (a3_ : Y1) (a4_ : Y3) : Tr Y2 :=
 .g (decide ((0 : Int) ≤ (IntKind.wrap .i64 (((List.length a4_ : Nat) : Int) + (1 : Int)))) && decide ((IntKind.wrap .i64 (((List.length a4_ : Nat) : Int) + (1 : Int))) ≤ (IntKind.wrap .i64 (((List.length a4_ : Nat) : Int) + (1 : Int)))) && decide (((24 : Nat) : Int) * (IntKind.wrap .i64 (((List.length a4_ : Nat) : Int) + (1 : Int))) ≤ 281474976710656)) <|
 .g (decide ((0 : Int) ≤ ((List.length a1_ : Nat) : Int))) <|
 .g (decide ((0 : Int) ≤ (IntKind.wrap .i64 ((1 : Int) * 2 ^ (min (Int.toNat ((List.length a1_ : Nat) : Int)) (IntKind.bits .i64))))) && decide ((IntKind.wrap .i64 ((1 : Int) * 2 ^ (min (Int.toNat ((List.length a1_ : Nat) : Int)) (IntKind.bits .i64)))) ≤ (IntKind.wrap .i64 ((1 : Int) * 2 ^ (min (Int.toNat ((List.length a1_ : Nat) : Int)) (IntKind.bits .i64))))) && decide (((8 : Nat) : Int) * (IntKind.wrap .i64 ((1 : Int) * 2 ^ (min (Int.toNat ((List.length a1_ : Nat) : Int)) (IntKind.bits .i64)))) ≤ 281474976710656)) <|
 .g (inR ((List.length a4_ : Nat) : Int) (List.length (List.replicate (Int.toNat (IntKind.wrap .i64 (((List.length a4_ : Nat) : Int) + (1 : Int)))) ([] : Y1)))) <|
 .g (decide ((Int.toNat ((List.length a4_ : Nat) : Int)) < List.length (List.replicate (Int.toNat (IntKind.wrap .i64 (((List.length a4_ : Nat) : Int) + (1 : Int)))) ([] : Y1)))) <|
 .c Y2 (L_zv_0 (a1_, (a2_, (a3_, a4_))) ((IntKind.wrap .i64 (((List.length a4_ : Nat) : Int) - (1 : Int))), (List.set (List.replicate (Int.toNat (IntKind.wrap .i64 (((List.length a4_ : Nat) : Int) + (1 : Int)))) ([] : Y1)) (Int.toNat ((List.length a4_ : Nat) : Int)) (List.replicate (Int.toNat (IntKind.wrap .i64 ((1 : Int) * 2 ^ (min (Int.toNat ((List.length a1_ : Nat) : Int)) (IntKind.bits .i64))))) (0 : Int))))) fun r28_ =>
 .l r28_
noncomputable def F_zv (a1_ : Y1) (a2_ : Y1) (a3_ : Y1) (a4_ : Y3) : Option Y2 := (T_zv a1_ a2_ a3_ a4_).ev
noncomputable def A_zv : Sh := (.cons (.agg (.cons (.dat y1) (.cons (.dat y1) (.cons (.dat y1) (.cons (.dat y3) .nil))))) .nil)
noncomputable def I_zv : List (Nat × OSh) := []
noncomputable def K_zv : RetK := { acts := [.ren 14 0], res := [.tmp 2], sh := (.cons (.arr 0) .nil), obs := [(0, .rows 24 3 yi)], pins := [] }
noncomputable def D_zv : FD := ⟨A_zv, I_zv, [], List Y1, fun x => F_zv x.1.1.1 x.1.1.2.1 x.1.1.2.2.1 x.1.1.2.2.2.1, fun r => ([.arr 0], [(0, .rows 24 3 yi r none)])⟩
noncomputable def E_zv : Env := envOf [(50, D_zt), (49, D_zan), (49, D_zan), (90, D_zw)]
noncomputable def Z_zv : Nat → Nat → List Nat := fun r i => match look [(2, [(2, [1000000])]), (12, [(0, [6])]), (14, [(0, [5000007])]), (16, [(0, [5000005])])] r with
 | some l => (look l i).getD []
 | none => []
noncomputable def O_zv : List (Nat × LD) := [(2, DL_zv_2), (0, DL_zv_0)]
noncomputable def C_zv : Code := (f47.body).getD .skip
noncomputable def T_zf (a1_ : Y1) (a2_ : Y1) (a3_ : Y1) (a4_ : Y1) (a5_ : Y3) (a6_ : Int) (a7_ : Y1) (a8_ : List Y1) : Tr (Int) :=
 .c (Int) (F_zz a2_ a3_ a4_ a5_ a6_ a7_ a1_) fun r1_ =>
 .g (inR (IntKind.wrap .i64 (a6_ + (1 : Int))) (List.length a8_)) <|
 .c (Int) (F_zah a1_) fun r2_ =>
 .g (inR r2_ (List.length (List.getD a8_ (Int.toNat (IntKind.wrap .i64 (a6_ + (1 : Int)))) ([] : Y1)))) <|
 .l (IntKind.wrap .i64 (r1_ + (List.getD (List.getD a8_ (Int.toNat (IntKind.wrap .i64 (a6_ + (1 : Int)))) ([] : Y1)) (Int.toNat r2_) (0 : Int))))
noncomputable def F_zf (a1_ : Y1) (a2_ : Y1) (a3_ : Y1) (a4_ : Y1) (a5_ : Y3) (a6_ : Int) (a7_ : Y1) (a8_ : List Y1) : Option (Int) := (T_zf a1_ a2_ a3_ a4_ a5_ a6_ a7_ a8_).ev
noncomputable def A_zf : Sh := (.cons (.dat y1) (.cons (.ptr (.cons (.dat y1) (.cons (.dat y1) (.cons (.dat y1) (.cons (.dat y3) .nil))))) (.cons (.ptr (.cons (.dat yi) .nil)) (.cons (.ptr (.cons (.dat y1) .nil)) (.cons (.ptr (.cons (.dat y2) .nil)) .nil)))))
noncomputable def I_zf : List (Nat × OSh) := []
noncomputable def K_zf : RetK := { acts := [], res := [.tmp 6], sh := (.cons (.dat yi) .nil), obs := [], pins := [] }
noncomputable def D_zf : FD := ⟨A_zf, I_zf, [], Int, fun x => F_zf x.1.1 x.1.2.1.1 x.1.2.1.2.1 x.1.2.1.2.2.1 x.1.2.1.2.2.2.1 x.1.2.2.1.1 x.1.2.2.2.1.1 x.1.2.2.2.2.1.1, fun r => ([.dat yi r], [])⟩
noncomputable def E_zf : Env := envOf [(52, D_zz), (53, D_zah)]
noncomputable def Z_zf : Nat → Nat → List Nat := fun _ _ => []
noncomputable def O_zf : List (Nat × LD) := []
noncomputable def C_zf : Code := (f51.body).getD .skip
noncomputable def F_zay (a1_ : Y1) : Option (List Int) := cloneF a1_
noncomputable def D_zay : FD := fdClone
noncomputable def S_zd_0 (k : Int × (Y1 × (Y1 × (Y1 × (Y3 × Y2))))) (v : Int × (Y2 × Y1)) : Tr ((Int × (Y2 × Y1)) ⊕ Y2) :=
 .t (decide (v.1 < k.1))
 (.c Y2 (F_zt k.2.1 k.2.2.1 k.2.2.2.1 k.2.2.2.2.1 v.1) fun r26_ =>
 .c Y1 (F_zan r26_ (fun h27_ => Option.bind (F_zf h27_.1 k.2.1 k.2.2.1 k.2.2.2.1 k.2.2.2.2.1 v.1 v.2.2 k.2.2.2.2.2) fun y28_ => some y28_)) fun r29_ =>
 .c (List Int) (F_zay r29_) fun r30_ =>
 .g (decide ((List.length v.2.1 + 1) * 24 ≤ 140737488355328)) <|
 .l (.inl ((IntKind.wrap .i64 (v.1 + (1 : Int))), ((List.set (v.2.1 ++ [[]]) (List.length v.2.1) r30_), r29_))))
 (.l (.inr v.2.1))
noncomputable def L_zd_0 (k : Int × (Y1 × (Y1 × (Y1 × (Y3 × Y2))))) (v : Int × (Y2 × Y1)) : Option Y2 := iter (fun v => (S_zd_0 k v).ev) v
noncomputable def DL_zd_0 : LD := ⟨{ acts := [.fz 14], S := { slots := [1, 4, 5, 6, 17, 18], sh := (.cons (.box 1 0) (.cons (.box 4 0) (.cons (.arr 13) (.cons (.box 6 0) (.cons (.dat yi) (.cons (.dat yi) .nil)))))), obs := [(1, .cells (.cons (.dat y1) (.cons (.dat y1) (.cons (.dat y1) (.cons (.dat y3) .nil))))), (4, .cells (.cons (.arr 768) .nil)), (13, .rows 24 3 yi), (6, .cells (.cons (.dat y1) .nil)), (768, .rows 24 3 yi)] } }, [(0, { acts := [], S := { slots := [5], sh := (.cons (.arr 13) .nil), obs := [(13, .rows 24 3 yi)] } })], (yh [] .nil), Int × (Y1 × (Y1 × (Y1 × (Y3 × Y2)))), Int × (Y2 × Y1), List Y1, fun k v => (((), ((), ((), ((), (k.1, (v.1, ())))))), ((k.2.1, (k.2.2.1, (k.2.2.2.1, (k.2.2.2.2.1, ())))), (((), ()), (v.2.1, ((v.2.2, ()), (k.2.2.2.2.2, ())))))), fun t => (t.1.2.2.2.2.1, (t.2.1.1, (t.2.1.2.1, (t.2.1.2.2.1, (t.2.1.2.2.2.1, t.2.2.2.2.2.1))))), fun t => (t.1.2.2.2.2.2.1, (t.2.2.2.1, t.2.2.2.2.1.1)), S_zd_0, fun _ r => .l (.exit 0 (mkSt ({ slots := [5], sh := (.cons (.arr 13) .nil), obs := [(13, .rows 24 3 yi)] }) (((), ()), (r, ()))))⟩
noncomputable def T_zd (a1_ : Y1) (a2_ : Y1) (a3_ : Y1) (a4_ : Y3) : Tr (Bool × Y2) :=
 .c (Bool) (F_zn a1_ a2_ a3_ a4_) fun r1_ =>
 .t (!r1_)
 (.l (false, ([] : List Y1)))
 (.c Y2 (F_zv a1_ a2_ a3_ a4_) fun r2_ =>
 .c Y2 (L_zd_0 (((List.length a4_ : Nat) : Int), (a1_, (a2_, (a3_, (a4_, r2_))))) ((0 : Int), (([] : List Y1), ([] : Y1)))) fun r32_ =>
 .l (true, r32_))
noncomputable def F_zd (a1_ : Y1) (a2_ : Y1) (a3_ : Y1) (a4_ : Y3) : Option (Bool × Y2) := (T_zd a1_ a2_ a3_ a4_).ev
noncomputable def A_zd : Sh := (.cons (.agg (.cons (.dat y1) (.cons (.dat y1) (.cons (.dat y1) (.cons (.dat y3) .nil))))) .nil)
noncomputable def I_zd : List (Nat × OSh) := []
noncomputable def K_zd : RetK := { acts := [.ownR 2 0 24 3 yi, .ren 13 0], res := [.tmp 2, .tmp 3], sh := (.cons (.arr 0) (.cons (.dat .bool) .nil)), obs := [(0, .rows 24 3 yi)], pins := [] }
noncomputable def D_zd : FD := ⟨A_zd, I_zd, [], Bool × Y2, fun x => F_zd x.1.1.1 x.1.1.2.1 x.1.1.2.2.1 x.1.1.2.2.2.1, fun r => ([.arr 0, .dat .bool r.1], [(0, .rows 24 3 yi r.2 none)])⟩
noncomputable def E_zd : Env := envOf [(24, D_zn), (47, D_zv), (50, D_zt), (49, D_zan), (54, D_zay), (49, D_zan), (51, D_zf)]
noncomputable def Z_zd : Nat → Nat → List Nat := fun r i => match look [(3, [(2, [1000000])]), (7, [(4, [23])])] r with
 | some l => (look l i).getD []
 | none => []
noncomputable def O_zd : List (Nat × LD) := [(0, DL_zd_0)]
noncomputable def C_zd : Code := (f15.body).getD .skip
noncomputable def S_zcx_0 (k : Y1 × Y1) (v : Int) : Tr ((Int) ⊕ ((Unit) ⊕ (Bool))) :=
 .t (decide (v < ((List.length k.1 : Nat) : Int)))
 (.g (inR v (List.length k.1)) <|
 .g (inR v (List.length k.2)) <|
 .t ((List.getD k.1 (Int.toNat v) (0 : Int)) != (List.getD k.2 (Int.toNat v) (0 : Int)))
 (.g (inR v (List.length k.1)) <|
 .g (inR v (List.length k.2)) <|
 .l (.inr (.inr (decide ((List.getD k.1 (Int.toNat v) (0 : Int)) < (List.getD k.2 (Int.toNat v) (0 : Int)))))))
 (.l (.inl (IntKind.wrap .i64 (v + (1 : Int))))))
 (.l (.inr (.inl ())))
noncomputable def L_zcx_0 (k : Y1 × Y1) (v : Int) : Option ((Unit) ⊕ (Bool)) := iter (fun v => (S_zcx_0 k v).ev) v
noncomputable def DL_zcx_0 : LD := ⟨(yh [0, 1, 5] (.cons (.dat y1) (.cons (.dat y1) (.cons (.dat yi) .nil)))), [(0, (yh [] .nil))], (yh [4] (.cons (.dat .bool) .nil)), Y1 × Y1, Int, (Unit) ⊕ (Bool), fun k v => ((k.1, (k.2, (v, ()))), ()), fun t => (t.1.1, t.1.2.1), fun t => t.1.2.2.1, S_zcx_0, fun _ r => .s (Unit) (Bool) r (fun _ => .l (.exit 0 (mkSt ((ys [] .nil)) ((), ())))) (fun b => .l (.ret (mkSt ((ys [4] (.cons (.dat .bool) .nil))) ((b, ()), ()))))⟩
noncomputable def T_zcx (a1_ : Y1) (a2_ : Y1) : Tr (Bool) :=
 .t (((List.length a1_ : Nat) : Int) != ((List.length a2_ : Nat) : Int))
 (.l (decide (((List.length a1_ : Nat) : Int) < ((List.length a2_ : Nat) : Int))))
 (.c ((Unit) ⊕ (Bool)) (L_zcx_0 (a1_, a2_) (0 : Int)) fun r5_ =>
 .s (Unit) (Bool) r5_
 (fun _ => .l false)
 (fun r7_ => .l r7_))
noncomputable def F_zcx (a1_ : Y1) (a2_ : Y1) : Option (Bool) := (T_zcx a1_ a2_).ev
noncomputable def A_zcx : Sh := (.cons (.dat y1) (.cons (.dat y1) .nil))
noncomputable def I_zcx : List (Nat × OSh) := []
noncomputable def K_zcx : RetK := { acts := [], res := [.tmp 4], sh := (.cons (.dat .bool) .nil), obs := [], pins := [] }
noncomputable def D_zcx : FD := ⟨A_zcx, I_zcx, [], Bool, fun x => F_zcx x.1.1 x.1.2.1, fun r => ([.dat .bool r], [])⟩
noncomputable def E_zcx : Env := envOf []
noncomputable def Z_zcx : Nat → Nat → List Nat := fun _ _ => []
noncomputable def O_zcx : List (Nat × LD) := [(0, DL_zcx_0)]
noncomputable def C_zcx : Code := (f108.body).getD .skip
noncomputable def S_zdc_2 (k : Int × (Y2 × (Int × Y1))) (v : Int) : Tr ((Int) ⊕ (Int)) :=
 .t (decide ((0 : Int) < v))
 (.g (inR (IntKind.wrap .i64 (v - (1 : Int))) (List.length k.2.1)) <|
 .c (Bool) (F_zcx k.2.2.2 (List.getD k.2.1 (Int.toNat (IntKind.wrap .i64 (v - (1 : Int)))) ([] : Y1))) fun r26_ =>
 .t r26_
 (.l (.inl (IntKind.wrap .i64 (v - (1 : Int)))))
 (.l (.inr v)))
 (.l (.inr v))
noncomputable def L_zdc_2 (k : Int × (Y2 × (Int × Y1))) (v : Int) : Option (Int) := iter (fun v => (S_zdc_2 k v).ev) v
noncomputable def DL_zdc_2 : LD := ⟨{ acts := [], S := { slots := [0, 3, 4, 5, 6], sh := (.cons (.dat yi) (.cons (.dat y2) (.cons (.dat yi) (.cons (.arr 1024) (.cons (.dat yi) .nil))))), obs := [(1024, .arr 3 yi)] } }, [(2, { acts := [], S := { slots := [0, 3, 4, 5, 6], sh := (.cons (.dat yi) (.cons (.dat y2) (.cons (.dat yi) (.cons (.arr 1024) (.cons (.dat yi) .nil))))), obs := [(1024, .arr 3 yi)] } })], (yh [] .nil), Int × (Y2 × (Int × Y1)), Int, Int, fun k v => ((k.1, (k.2.1, (k.2.2.1, ((), (v, ()))))), (k.2.2.2, ())), fun t => (t.1.1, (t.1.2.1, (t.1.2.2.1, t.2.1))), fun t => t.1.2.2.2.2.1, S_zdc_2, fun k r => .l (.exit 2 (mkSt ({ slots := [0, 3, 4, 5, 6], sh := (.cons (.dat yi) (.cons (.dat y2) (.cons (.dat yi) (.cons (.arr 1024) (.cons (.dat yi) .nil))))), obs := [(1024, .arr 3 yi)] }) ((k.1, (k.2.1, (k.2.2.1, ((), (r, ()))))), (k.2.2.2, ()))))⟩
noncomputable def S_zdc_0 (k : Int) (v : Y2 × Int) : Tr ((Y2 × Int) ⊕ Y2) :=
 .g (decide ((0 : Int) ≤ k)) <|
 .t (decide (v.2 < (IntKind.wrap .i64 ((1 : Int) * 2 ^ (min (Int.toNat k) (IntKind.bits .i64))))))
 (.c Y1 (F_zcy k v.2) fun r20_ =>
 .c (Int) (L_zdc_2 (k, (v.1, (v.2, r20_))) ((List.length v.1 : Nat) : Int)) fun r32_ =>
 .g (decide ((0 : Int) ≤ r32_) && decide (r32_ ≤ ((List.length v.1 : Nat) : Int))) <|
 .g (decide ((List.length ([] : List Y1) + List.length (List.drop 0 (List.take (Int.toNat r32_) v.1))) * 24 ≤ 140737488355328)) <|
 .g (decide ((List.length (([] : List Y1) ++ (List.drop 0 (List.take (Int.toNat r32_) v.1))) + List.length ([r20_] : List Y1)) * 24 ≤ 140737488355328)) <|
 .g (decide ((0 : Int) ≤ r32_) && decide (r32_ ≤ ((List.length v.1 : Nat) : Int))) <|
 .g (decide ((List.length ((([] : List Y1) ++ (List.drop 0 (List.take (Int.toNat r32_) v.1))) ++ ([r20_] : List Y1)) + List.length (List.drop (Int.toNat r32_) (List.take (List.length v.1) v.1))) * 24 ≤ 140737488355328)) <|
 .l (.inl ((((([] : List Y1) ++ (List.drop 0 (List.take (Int.toNat r32_) v.1))) ++ ([r20_] : List Y1)) ++ (List.drop (Int.toNat r32_) (List.take (List.length v.1) v.1))), (IntKind.wrap .i64 (v.2 + (1 : Int))))))
 (.l (.inr v.1))
noncomputable def L_zdc_0 (k : Int) (v : Y2 × Int) : Option Y2 := iter (fun v => (S_zdc_0 k v).ev) v
noncomputable def DL_zdc_0 : LD := ⟨{ acts := [.fz 7, .fz 32], S := (ys [0, 3, 4] (.cons (.dat yi) (.cons (.dat y2) (.cons (.dat yi) .nil)))) }, [(0, (yh [3] (.cons (.dat y2) .nil)))], (yh [] .nil), Int, Y2 × (Int), List Y1, fun k v => ((k, (v.1, (v.2, ()))), ()), fun t => t.1.1, fun t => (t.1.2.1, t.1.2.2.1), S_zdc_0, fun _ r => .l (.exit 0 (mkSt ((ys [3] (.cons (.dat y2) .nil))) ((r, ()), ())))⟩
noncomputable def T_zdc (a1_ : Int) : Tr Y2 :=
 .c Y2 (L_zdc_0 a1_ (([] : List Y1), (1 : Int))) fun r34_ =>
 .l r34_
noncomputable def F_zdc (a1_ : Int) : Option Y2 := (T_zdc a1_).ev
noncomputable def A_zdc : Sh := (.cons (.dat yi) .nil)
noncomputable def I_zdc : List (Nat × OSh) := []
noncomputable def K_zdc : RetK := { acts := [], res := [.tmp 2], sh := (.cons (.dat y2) .nil), obs := [], pins := [] }
noncomputable def D_zdc : FD := ⟨A_zdc, I_zdc, [], List Y1, fun x => F_zdc x.1.1, fun r => ([.dat y2 r], [])⟩
noncomputable def E_zdc : Env := envOf [(77, D_zcy), (108, D_zcx)]
noncomputable def Z_zdc : Nat → Nat → List Nat := fun r i => match look [(8, [(0, [3, 5])])] r with
 | some l => (look l i).getD []
 | none => []
noncomputable def O_zdc : List (Nat × LD) := [(2, DL_zdc_2), (0, DL_zdc_0)]
noncomputable def C_zdc : Code := (f100.body).getD .skip
noncomputable def T_zck (a1_ : Y1) (_a2_ : Y1) (_a3_ : Y1) (_a4_ : Y3) : Tr Y2 :=
 .c Y2 (F_zdc ((List.length a1_ : Nat) : Int)) fun r1_ =>
 .g (decide ((List.length ([([] : Y1)] : List Y1) + List.length r1_) * 24 ≤ 140737488355328)) <|
 .l (([([] : Y1)] : List Y1) ++ r1_)
noncomputable def F_zck (a1_ : Y1) (a2_ : Y1) (a3_ : Y1) (a4_ : Y3) : Option Y2 := (T_zck a1_ a2_ a3_ a4_).ev
noncomputable def A_zck : Sh := (.cons (.agg (.cons (.dat y1) (.cons (.dat y1) (.cons (.dat y1) (.cons (.dat y3) .nil))))) .nil)
noncomputable def I_zck : List (Nat × OSh) := []
noncomputable def K_zck : RetK := { acts := [.ren 4 0], res := [.tmp 2], sh := (.cons (.arr 0) .nil), obs := [(0, .arr 24 y1)], pins := [] }
noncomputable def D_zck : FD := ⟨A_zck, I_zck, [], List Y1, fun x => F_zck x.1.1.1 x.1.1.2.1 x.1.1.2.2.1 x.1.1.2.2.2.1, fun r => ([.arr 0], [(0, .arr 24 y1 r)])⟩
noncomputable def E_zck : Env := envOf [(100, D_zdc)]
noncomputable def Z_zck : Nat → Nat → List Nat := fun r i => match look [(1, [(1, [3])])] r with
 | some l => (look l i).getD []
 | none => []
noncomputable def O_zck : List (Nat × LD) := []
noncomputable def C_zck : Code := (f70.body).getD .skip
noncomputable def S_zcc_0 (k : Y1) (v : Int × Int) : Tr ((Int × Int) ⊕ (Int)) :=
 .t (decide (v.2 < ((List.length k : Nat) : Int)))
 (.g (inR v.2 (List.length k)) <|
 .g (decide ((0 : Int) ≤ (List.getD k (Int.toNat v.2) (0 : Int)))) <|
 .l (.inl ((IntKind.wrap .i64 (v.1 + (IntKind.wrap .i64 ((1 : Int) * 2 ^ (min (Int.toNat (List.getD k (Int.toNat v.2) (0 : Int))) (IntKind.bits .i64)))))), (IntKind.wrap .i64 (v.2 + (1 : Int))))))
 (.l (.inr v.1))
noncomputable def L_zcc_0 (k : Y1) (v : Int × Int) : Option (Int) := iter (fun v => (S_zcc_0 k v).ev) v
noncomputable def DL_zcc_0 : LD := ⟨(yh [0, 3, 4] (.cons (.dat y1) (.cons (.dat yi) (.cons (.dat yi) .nil)))), [(0, (yh [3] (.cons (.dat yi) .nil)))], (yh [] .nil), Y1, Int × (Int), Int, fun k v => ((k, (v.1, (v.2, ()))), ()), fun t => t.1.1, fun t => (t.1.2.1, t.1.2.2.1), S_zcc_0, fun _ r => .l (.exit 0 (mkSt ((ys [3] (.cons (.dat yi) .nil))) ((r, ()), ())))⟩
noncomputable def T_zcc (a1_ : Y1) : Tr (Int) :=
 .c (Int) (L_zcc_0 a1_ ((0 : Int), (0 : Int))) fun r5_ =>
 .l r5_
noncomputable def F_zcc (a1_ : Y1) : Option (Int) := (T_zcc a1_).ev
noncomputable def A_zcc : Sh := (.cons (.dat y1) .nil)
noncomputable def I_zcc : List (Nat × OSh) := []
noncomputable def K_zcc : RetK := { acts := [], res := [.tmp 2], sh := (.cons (.dat yi) .nil), obs := [], pins := [] }
noncomputable def D_zcc : FD := ⟨A_zcc, I_zcc, [], Int, fun x => F_zcc x.1.1, fun r => ([.dat yi r], [])⟩
noncomputable def E_zcc : Env := envOf []
noncomputable def Z_zcc : Nat → Nat → List Nat := fun _ _ => []
noncomputable def O_zcc : List (Nat × LD) := [(0, DL_zcc_0)]
noncomputable def C_zcc : Code := (f85.body).getD .skip
noncomputable def S_zcd_4 (k : Y2 × (Int × (Int × (Y1 × (Y1 × (Y1 × (Y3 × (Y2 × Y1)))))))) (v : Int × Int) : Tr ((Int × Int) ⊕ (Int)) :=
 .t (decide (v.2 < ((List.length k.2.2.2.2.2.2.2.1 : Nat) : Int)))
 (.g (inR v.2 (List.length k.2.2.2.2.2.2.2.1)) <|
 .g (decide ((Int.toNat v.2) < List.length k.2.2.2.2.2.2.2.1)) <|
 .c (Bool) (F_zcf k.2.2.2.1 k.2.2.2.2.1 k.2.2.2.2.2.1 k.2.2.2.2.2.2.1 k.2.1 (List.getD k.2.2.2.2.2.2.2.1 (Int.toNat v.2) ([] : Y1))) fun r131_ =>
 .t (!r131_)
 (.l (.inl (v.1, (IntKind.wrap .i64 (v.2 + (1 : Int))))))
 (.g (inR k.2.2.1 (List.length k.2.2.2.2.2.2.2.1)) <|
 .g (decide ((Int.toNat k.2.2.1) < List.length k.2.2.2.2.2.2.2.1)) <|
 .g (inR v.2 (List.length k.2.2.2.2.2.2.2.1)) <|
 .g (decide ((Int.toNat v.2) < List.length k.2.2.2.2.2.2.2.1)) <|
 .c (Int) (F_zcg k.2.2.2.1 k.2.2.2.2.1 k.2.2.2.2.2.1 k.2.2.2.2.2.2.1 k.2.1 (List.getD k.2.2.2.2.2.2.2.1 (Int.toNat k.2.2.1) ([] : Y1)) (List.getD k.2.2.2.2.2.2.2.1 (Int.toNat v.2) ([] : Y1))) fun r132_ =>
 .g (inR (0 : Int) (List.length k.1)) <|
 .g (inR v.2 (List.length k.2.2.2.2.2.2.2.1)) <|
 .g (decide ((Int.toNat v.2) < List.length k.2.2.2.2.2.2.2.1)) <|
 .c (Int) (F_zcc (List.getD k.2.2.2.2.2.2.2.1 (Int.toNat v.2) ([] : Y1))) fun r133_ =>
 .g (inR r133_ (List.length (List.getD k.1 (Int.toNat (0 : Int)) ([] : Y1)))) <|
 .t (decide (v.1 < (0 : Int)))
 (.l (.inl ((IntKind.wrap .i64 (r132_ + (List.getD (List.getD k.1 (Int.toNat (0 : Int)) ([] : Y1)) (Int.toNat r133_) (0 : Int)))), (IntKind.wrap .i64 (v.2 + (1 : Int))))))
 (.t (decide ((IntKind.wrap .i64 (r132_ + (List.getD (List.getD k.1 (Int.toNat (0 : Int)) ([] : Y1)) (Int.toNat r133_) (0 : Int)))) < v.1))
 (.l (.inl ((IntKind.wrap .i64 (r132_ + (List.getD (List.getD k.1 (Int.toNat (0 : Int)) ([] : Y1)) (Int.toNat r133_) (0 : Int)))), (IntKind.wrap .i64 (v.2 + (1 : Int))))))
 (.l (.inl (v.1, (IntKind.wrap .i64 (v.2 + (1 : Int)))))))))
 (.l (.inr v.1))
noncomputable def L_zcd_4 (k : Y2 × (Int × (Int × (Y1 × (Y1 × (Y1 × (Y3 × (Y2 × Y1)))))))) (v : Int × Int) : Option (Int) := iter (fun v => (S_zcd_4 k v).ev) v
noncomputable def DL_zcd_4 : LD := ⟨{ acts := [], S := { slots := [1, 3, 4, 5, 6, 7, 8, 9], sh := (.cons (.box 1 0) (.cons (.dat y2) (.cons (.arr 1152) (.cons (.dat yi) (.cons (.arr 31) (.cons (.dat yi) (.cons (.dat yi) (.cons (.dat yi) .nil)))))))), obs := [(1, .cells (.cons (.dat y1) (.cons (.dat y1) (.cons (.dat y1) (.cons (.dat y3) .nil))))), (1152, .arr 24 y1), (31, .arr 3 yi)] } }, [(4, { acts := [], S := { slots := [1, 3, 4, 5, 6, 7, 8], sh := (.cons (.box 1 0) (.cons (.dat y2) (.cons (.arr 1152) (.cons (.dat yi) (.cons (.arr 31) (.cons (.dat yi) (.cons (.dat yi) .nil))))))), obs := [(1, .cells (.cons (.dat y1) (.cons (.dat y1) (.cons (.dat y1) (.cons (.dat y3) .nil))))), (1152, .arr 24 y1), (31, .arr 3 yi)] } })], (yh [] .nil), Y2 × (Int × (Int × (Y1 × (Y1 × (Y1 × (Y3 × (Y2 × Y1))))))), Int × (Int), Int, fun k v => (((), (k.1, ((), (k.2.1, ((), (k.2.2.1, (v.1, (v.2, ())))))))), ((k.2.2.2.1, (k.2.2.2.2.1, (k.2.2.2.2.2.1, (k.2.2.2.2.2.2.1, ())))), (k.2.2.2.2.2.2.2.1, (k.2.2.2.2.2.2.2.2, ())))), fun t => (t.1.2.1, (t.1.2.2.2.1, (t.1.2.2.2.2.2.1, (t.2.1.1, (t.2.1.2.1, (t.2.1.2.2.1, (t.2.1.2.2.2.1, (t.2.2.1, t.2.2.2.1)))))))), fun t => (t.1.2.2.2.2.2.2.1, t.1.2.2.2.2.2.2.2.1), S_zcd_4, fun k r => .l (.exit 4 (mkSt ({ slots := [1, 3, 4, 5, 6, 7, 8], sh := (.cons (.box 1 0) (.cons (.dat y2) (.cons (.arr 1152) (.cons (.dat yi) (.cons (.arr 31) (.cons (.dat yi) (.cons (.dat yi) .nil))))))), obs := [(1, .cells (.cons (.dat y1) (.cons (.dat y1) (.cons (.dat y1) (.cons (.dat y3) .nil))))), (1152, .arr 24 y1), (31, .arr 3 yi)] }) (((), (k.1, ((), (k.2.1, ((), (k.2.2.1, (r, ()))))))), ((k.2.2.2.1, (k.2.2.2.2.1, (k.2.2.2.2.2.1, (k.2.2.2.2.2.2.1, ())))), (k.2.2.2.2.2.2.2.1, (k.2.2.2.2.2.2.2.2, ()))))))⟩
noncomputable def S_zcd_2 (k : Y2 × (Int × (Y1 × (Y1 × (Y1 × (Y3 × Y2)))))) (v : Int × Y1) : Tr ((Int × Y1) ⊕ Y1) :=
 .t (decide (v.1 < ((List.length k.2.2.2.2.2.2 : Nat) : Int)))
 (.c (Int) (L_zcd_4 (k.1, (k.2.1, (v.1, (k.2.2.1, (k.2.2.2.1, (k.2.2.2.2.1, (k.2.2.2.2.2.1, (k.2.2.2.2.2.2, v.2)))))))) ((-1 : Int), (0 : Int))) fun r144_ =>
 .g (inR v.1 (List.length k.2.2.2.2.2.2)) <|
 .g (decide ((Int.toNat v.1) < List.length k.2.2.2.2.2.2)) <|
 .c (Int) (F_zcc (List.getD k.2.2.2.2.2.2 (Int.toNat v.1) ([] : Y1))) fun r145_ =>
 .g (inR r145_ (List.length v.2)) <|
 .g (decide ((Int.toNat r145_) < List.length v.2)) <|
 .l (.inl ((IntKind.wrap .i64 (v.1 + (1 : Int))), (List.set v.2 (Int.toNat r145_) r144_))))
 (.l (.inr v.2))
noncomputable def L_zcd_2 (k : Y2 × (Int × (Y1 × (Y1 × (Y1 × (Y3 × Y2)))))) (v : Int × Y1) : Option Y1 := iter (fun v => (S_zcd_2 k v).ev) v
noncomputable def DL_zcd_2 : LD := ⟨{ acts := [], S := { slots := [1, 3, 4, 5, 6, 7], sh := (.cons (.box 1 0) (.cons (.dat y2) (.cons (.arr 1152) (.cons (.dat yi) (.cons (.arr 31) (.cons (.dat yi) .nil)))))), obs := [(1, .cells (.cons (.dat y1) (.cons (.dat y1) (.cons (.dat y1) (.cons (.dat y3) .nil))))), (1152, .arr 24 y1), (31, .arr 3 yi)] } }, [(2, { acts := [], S := { slots := [1, 3, 4, 5, 6], sh := (.cons (.box 1 0) (.cons (.dat y2) (.cons (.arr 1152) (.cons (.dat yi) (.cons (.arr 31) .nil))))), obs := [(1, .cells (.cons (.dat y1) (.cons (.dat y1) (.cons (.dat y1) (.cons (.dat y3) .nil))))), (1152, .arr 24 y1), (31, .arr 3 yi)] } })], (yh [] .nil), Y2 × (Int × (Y1 × (Y1 × (Y1 × (Y3 × Y2))))), Int × Y1, Y1, fun k v => (((), (k.1, ((), (k.2.1, ((), (v.1, ())))))), ((k.2.2.1, (k.2.2.2.1, (k.2.2.2.2.1, (k.2.2.2.2.2.1, ())))), (k.2.2.2.2.2.2, (v.2, ())))), fun t => (t.1.2.1, (t.1.2.2.2.1, (t.2.1.1, (t.2.1.2.1, (t.2.1.2.2.1, (t.2.1.2.2.2.1, t.2.2.1)))))), fun t => (t.1.2.2.2.2.2.1, t.2.2.2.1), S_zcd_2, fun k r => .l (.exit 2 (mkSt ({ slots := [1, 3, 4, 5, 6], sh := (.cons (.box 1 0) (.cons (.dat y2) (.cons (.arr 1152) (.cons (.dat yi) (.cons (.arr 31) .nil))))), obs := [(1, .cells (.cons (.dat y1) (.cons (.dat y1) (.cons (.dat y1) (.cons (.dat y3) .nil))))), (1152, .arr 24 y1), (31, .arr 3 yi)] }) (((), (k.1, ((), (k.2.1, ((), ()))))), ((k.2.2.1, (k.2.2.2.1, (k.2.2.2.2.1, (k.2.2.2.2.2.1, ())))), (k.2.2.2.2.2.2, (r, ()))))))⟩
noncomputable def S_zcd_0 (k : Y1 × (Y1 × (Y1 × (Y3 × Y2)))) (v : Y2 × Int) : Tr ((Y2 × Int) ⊕ Y2) :=
 .t (decide ((0 : Int) ≤ v.2))
 (.g (decide ((0 : Int) ≤ ((List.length k.1 : Nat) : Int))) <|
 .g (decide ((0 : Int) ≤ (IntKind.wrap .i64 ((1 : Int) * 2 ^ (min (Int.toNat ((List.length k.1 : Nat) : Int)) (IntKind.bits .i64))))) && decide ((IntKind.wrap .i64 ((1 : Int) * 2 ^ (min (Int.toNat ((List.length k.1 : Nat) : Int)) (IntKind.bits .i64)))) ≤ (IntKind.wrap .i64 ((1 : Int) * 2 ^ (min (Int.toNat ((List.length k.1 : Nat) : Int)) (IntKind.bits .i64))))) && decide (((8 : Nat) : Int) * (IntKind.wrap .i64 ((1 : Int) * 2 ^ (min (Int.toNat ((List.length k.1 : Nat) : Int)) (IntKind.bits .i64)))) ≤ 281474976710656)) <|
 .c Y1 (L_zcd_2 (v.1, (v.2, (k.1, (k.2.1, (k.2.2.1, (k.2.2.2.1, k.2.2.2.2)))))) ((0 : Int), (List.replicate (Int.toNat (IntKind.wrap .i64 ((1 : Int) * 2 ^ (min (Int.toNat ((List.length k.1 : Nat) : Int)) (IntKind.bits .i64))))) (0 : Int)))) fun r154_ =>
 .g (decide ((List.length (List.set ([[]] : List Y1) 0 r154_) + List.length v.1) * 24 ≤ 140737488355328)) <|
 .l (.inl (((List.set ([[]] : List Y1) 0 r154_) ++ v.1), (IntKind.wrap .i64 (v.2 - (1 : Int))))))
 (.l (.inr v.1))
noncomputable def L_zcd_0 (k : Y1 × (Y1 × (Y1 × (Y3 × Y2)))) (v : Y2 × Int) : Option Y2 := iter (fun v => (S_zcd_0 k v).ev) v
noncomputable def DL_zcd_0 : LD := ⟨{ acts := [.fz 15, .fz 16, .fz 91, .flat 16], S := { slots := [1, 3, 4, 5], sh := (.cons (.box 1 0) (.cons (.dat y2) (.cons (.arr 1152) (.cons (.dat yi) .nil)))), obs := [(1, .cells (.cons (.dat y1) (.cons (.dat y1) (.cons (.dat y1) (.cons (.dat y3) .nil))))), (1152, .arr 24 y1)] } }, [(0, (yh [3] (.cons (.dat y2) .nil)))], (yh [] .nil), Y1 × (Y1 × (Y1 × (Y3 × Y2))), Y2 × (Int), List Y1, fun k v => (((), (v.1, ((), (v.2, ())))), ((k.1, (k.2.1, (k.2.2.1, (k.2.2.2.1, ())))), (k.2.2.2.2, ()))), fun t => (t.2.1.1, (t.2.1.2.1, (t.2.1.2.2.1, (t.2.1.2.2.2.1, t.2.2.1)))), fun t => (t.1.2.1, t.1.2.2.2.1), S_zcd_0, fun _ r => .l (.exit 0 (mkSt ((ys [3] (.cons (.dat y2) .nil))) ((r, ()), ())))⟩
noncomputable def T_zcd (a1_ : Y1) (a2_ : Y1) (a3_ : Y1) (a4_ : Y3) : Tr Y2 :=
 .g (decide ((0 : Int) ≤ ((List.length a1_ : Nat) : Int))) <|
 .g (decide ((0 : Int) ≤ (IntKind.wrap .i64 ((1 : Int) * 2 ^ (min (Int.toNat ((List.length a1_ : Nat) : Int)) (IntKind.bits .i64))))) && decide ((IntKind.wrap .i64 ((1 : Int) * 2 ^ (min (Int.toNat ((List.length a1_ : Nat) : Int)) (IntKind.bits .i64)))) ≤ (IntKind.wrap .i64 ((1 : Int) * 2 ^ (min (Int.toNat ((List.length a1_ : Nat) : Int)) (IntKind.bits .i64))))) && decide (((8 : Nat) : Int) * (IntKind.wrap .i64 ((1 : Int) * 2 ^ (min (Int.toNat ((List.length a1_ : Nat) : Int)) (IntKind.bits .i64)))) ≤ 281474976710656)) <|
 .c Y2 (F_zck a1_ a2_ a3_ a4_) fun r1_ =>
 .c Y2 (L_zcd_0 (a1_, (a2_, (a3_, (a4_, r1_)))) ((List.set ([[]] : List Y1) 0 (List.replicate (Int.toNat (IntKind.wrap .i64 ((1 : Int) * 2 ^ (min (Int.toNat ((List.length a1_ : Nat) : Int)) (IntKind.bits .i64))))) (0 : Int))), (IntKind.wrap .i64 (((List.length a4_ : Nat) : Int) - (1 : Int))))) fun r156_ =>
 .l r156_
noncomputable def F_zcd (a1_ : Y1) (a2_ : Y1) (a3_ : Y1) (a4_ : Y3) : Option Y2 := (T_zcd a1_ a2_ a3_ a4_).ev
noncomputable def A_zcd : Sh := (.cons (.agg (.cons (.dat y1) (.cons (.dat y1) (.cons (.dat y1) (.cons (.dat y3) .nil))))) .nil)
noncomputable def I_zcd : List (Nat × OSh) := []
noncomputable def K_zcd : RetK := { acts := [], res := [.tmp 2], sh := (.cons (.dat y2) .nil), obs := [], pins := [] }
noncomputable def D_zcd : FD := ⟨A_zcd, I_zcd, [], List Y1, fun x => F_zcd x.1.1.1 x.1.1.2.1 x.1.1.2.2.1 x.1.1.2.2.2.1, fun r => ([.dat y2 r], [])⟩
noncomputable def E_zcd : Env := envOf [(70, D_zck), (73, D_zcf), (74, D_zcg), (85, D_zcc)]
noncomputable def Z_zcd : Nat → Nat → List Nat := fun r i => match look [(18, [(3, [6, 4000091, 4000092])])] r with
 | some l => (look l i).getD []
 | none => []
noncomputable def O_zcd : List (Nat × LD) := [(4, DL_zcd_4), (2, DL_zcd_2), (0, DL_zcd_0)]
noncomputable def C_zcd : Code := (f48.body).getD .skip
noncomputable def T_zcv (a1_ : Y1) : Tr Y1 :=
 .g (decide ((List.length ([] : Y1) + List.length a1_) * 8 ≤ 140737488355328)) <|
 .l (([] : Y1) ++ a1_)
noncomputable def F_zcv (a1_ : Y1) : Option Y1 := (T_zcv a1_).ev
noncomputable def A_zcv : Sh := (.cons (.dat y1) .nil)
noncomputable def I_zcv : List (Nat × OSh) := []
noncomputable def K_zcv : RetK := { acts := [.ren 3 0], res := [.tmp 2], sh := (.cons (.arr 0) .nil), obs := [(0, .arr 3 yi)], pins := [] }
noncomputable def D_zcv : FD := ⟨A_zcv, I_zcv, [], Y1, fun x => F_zcv x.1.1, fun r => ([.arr 0], [(0, .arr 3 yi r)])⟩
noncomputable def E_zcv : Env := envOf []
noncomputable def Z_zcv : Nat → Nat → List Nat := fun _ _ => []
noncomputable def O_zcv : List (Nat × LD) := []
noncomputable def C_zcv : Code := (f75.body).getD .skip
noncomputable def S_zcb_2 (k : Y1 × (Y2 × (Int × (Y1 × (Y1 × (Y1 × (Y3 × (Y2 × Y2)))))))) (v : Int) : Tr ((Int) ⊕ (Int)) :=
 .g (inR v (List.length k.2.2.2.2.2.2.2.2)) <|
 .g (decide ((Int.toNat v) < List.length k.2.2.2.2.2.2.2.2)) <|
 .c (Bool) (F_zcf k.2.2.2.1 k.2.2.2.2.1 k.2.2.2.2.2.1 k.2.2.2.2.2.2.1 k.2.2.1 (List.getD k.2.2.2.2.2.2.2.2 (Int.toNat v) ([] : Y1))) fun r56_ =>
 .t (!r56_)
 (.l (.inl (IntKind.wrap .i64 (v + (1 : Int)))))
 (.g (inR v (List.length k.2.2.2.2.2.2.2.2)) <|
 .g (decide ((Int.toNat v) < List.length k.2.2.2.2.2.2.2.2)) <|
 .c (Int) (F_zcg k.2.2.2.1 k.2.2.2.2.1 k.2.2.2.2.2.1 k.2.2.2.2.2.2.1 k.2.2.1 k.1 (List.getD k.2.2.2.2.2.2.2.2 (Int.toNat v) ([] : Y1))) fun r57_ =>
 .g (inR (IntKind.wrap .i64 (k.2.2.1 + (1 : Int))) (List.length k.2.1)) <|
 .g (inR v (List.length k.2.2.2.2.2.2.2.2)) <|
 .g (decide ((Int.toNat v) < List.length k.2.2.2.2.2.2.2.2)) <|
 .c (Int) (F_zcc (List.getD k.2.2.2.2.2.2.2.2 (Int.toNat v) ([] : Y1))) fun r58_ =>
 .g (inR r58_ (List.length (List.getD k.2.1 (Int.toNat (IntKind.wrap .i64 (k.2.2.1 + (1 : Int)))) ([] : Y1)))) <|
 .g (inR k.2.2.1 (List.length k.2.1)) <|
 .c (Int) (F_zcc k.1) fun r59_ =>
 .g (inR r59_ (List.length (List.getD k.2.1 (Int.toNat k.2.2.1) ([] : Y1)))) <|
 .t ((IntKind.wrap .i64 (r57_ + (List.getD (List.getD k.2.1 (Int.toNat (IntKind.wrap .i64 (k.2.2.1 + (1 : Int)))) ([] : Y1)) (Int.toNat r58_) (0 : Int)))) != (List.getD (List.getD k.2.1 (Int.toNat k.2.2.1) ([] : Y1)) (Int.toNat r59_) (0 : Int)))
 (.l (.inl (IntKind.wrap .i64 (v + (1 : Int)))))
 (.l (.inr v)))
noncomputable def L_zcb_2 (k : Y1 × (Y2 × (Int × (Y1 × (Y1 × (Y1 × (Y3 × (Y2 × Y2)))))))) (v : Int) : Option (Int) := iter (fun v => (S_zcb_2 k v).ev) v
noncomputable def DL_zcb_2 : LD := ⟨{ acts := [], S := { slots := [1, 3, 4, 5, 6, 7, 8], sh := (.cons (.box 1 0) (.cons (.arr 9) (.cons (.dat y1) (.cons (.dat y2) (.cons (.arr 896) (.cons (.dat yi) (.cons (.dat yi) .nil))))))), obs := [(1, .cells (.cons (.dat y1) (.cons (.dat y1) (.cons (.dat y1) (.cons (.dat y3) .nil))))), (9, .arr 24 y1), (896, .arr 24 y1)] } }, [(2, { acts := [], S := { slots := [1, 3, 5, 6, 7, 8], sh := (.cons (.box 1 0) (.cons (.arr 9) (.cons (.dat y2) (.cons (.arr 896) (.cons (.dat yi) (.cons (.dat yi) .nil)))))), obs := [(1, .cells (.cons (.dat y1) (.cons (.dat y1) (.cons (.dat y1) (.cons (.dat y3) .nil))))), (9, .arr 24 y1), (896, .arr 24 y1)] } })], (yh [] .nil), Y1 × (Y2 × (Int × (Y1 × (Y1 × (Y1 × (Y3 × (Y2 × Y2))))))), Int, Int, fun k v => (((), ((), (k.1, (k.2.1, ((), (k.2.2.1, (v, ()))))))), ((k.2.2.2.1, (k.2.2.2.2.1, (k.2.2.2.2.2.1, (k.2.2.2.2.2.2.1, ())))), (k.2.2.2.2.2.2.2.1, (k.2.2.2.2.2.2.2.2, ())))), fun t => (t.1.2.2.1, (t.1.2.2.2.1, (t.1.2.2.2.2.2.1, (t.2.1.1, (t.2.1.2.1, (t.2.1.2.2.1, (t.2.1.2.2.2.1, (t.2.2.1, t.2.2.2.1)))))))), fun t => t.1.2.2.2.2.2.2.1, S_zcb_2, fun k r => .l (.exit 2 (mkSt ({ slots := [1, 3, 5, 6, 7, 8], sh := (.cons (.box 1 0) (.cons (.arr 9) (.cons (.dat y2) (.cons (.arr 896) (.cons (.dat yi) (.cons (.dat yi) .nil)))))), obs := [(1, .cells (.cons (.dat y1) (.cons (.dat y1) (.cons (.dat y1) (.cons (.dat y3) .nil))))), (9, .arr 24 y1), (896, .arr 24 y1)] }) (((), ((), (k.2.1, ((), (k.2.2.1, (r, ())))))), ((k.2.2.2.1, (k.2.2.2.2.1, (k.2.2.2.2.2.1, (k.2.2.2.2.2.2.1, ())))), (k.2.2.2.2.2.2.2.1, (k.2.2.2.2.2.2.2.2, ()))))))⟩
noncomputable def S_zcb_0 (k : Y2 × (Y1 × (Y1 × (Y1 × (Y3 × Y2))))) (v : Y1 × (Int × Y2)) : Tr ((Y1 × (Int × Y2)) ⊕ Y2) :=
 .t (decide (v.2.1 < ((List.length k.2.2.2.2.1 : Nat) : Int)))
 (.c (Int) (L_zcb_2 (v.1, (k.1, (v.2.1, (k.2.1, (k.2.2.1, (k.2.2.2.1, (k.2.2.2.2.1, (v.2.2, k.2.2.2.2.2)))))))) (0 : Int)) fun r69_ =>
 .g (inR r69_ (List.length k.2.2.2.2.2)) <|
 .g (decide ((Int.toNat r69_) < List.length k.2.2.2.2.2)) <|
 .c Y1 (F_zcv (List.getD k.2.2.2.2.2 (Int.toNat r69_) ([] : Y1))) fun r70_ =>
 .g (decide ((List.length v.2.2 + List.length ([r70_] : List Y1)) * 24 ≤ 140737488355328)) <|
 .g (inR r69_ (List.length k.2.2.2.2.2)) <|
 .g (decide ((Int.toNat r69_) < List.length k.2.2.2.2.2)) <|
 .l (.inl ((List.getD k.2.2.2.2.2 (Int.toNat r69_) ([] : Y1)), ((IntKind.wrap .i64 (v.2.1 + (1 : Int))), (v.2.2 ++ ([r70_] : List Y1))))))
 (.l (.inr v.2.2))
noncomputable def L_zcb_0 (k : Y2 × (Y1 × (Y1 × (Y1 × (Y3 × Y2))))) (v : Y1 × (Int × Y2)) : Option Y2 := iter (fun v => (S_zcb_0 k v).ev) v
noncomputable def DL_zcb_0 : LD := ⟨{ acts := [.fz 10], S := { slots := [1, 3, 4, 5, 6, 7], sh := (.cons (.box 1 0) (.cons (.arr 9) (.cons (.dat y1) (.cons (.dat y2) (.cons (.arr 896) (.cons (.dat yi) .nil)))))), obs := [(1, .cells (.cons (.dat y1) (.cons (.dat y1) (.cons (.dat y1) (.cons (.dat y3) .nil))))), (9, .arr 24 y1), (896, .arr 24 y1)] } }, [(0, { acts := [], S := { slots := [3], sh := (.cons (.arr 9) .nil), obs := [(9, .arr 24 y1)] } })], (yh [] .nil), Y2 × (Y1 × (Y1 × (Y1 × (Y3 × Y2)))), Y1 × (Int × Y2), List Y1, fun k v => (((), ((), (v.1, (k.1, ((), (v.2.1, ())))))), ((k.2.1, (k.2.2.1, (k.2.2.2.1, (k.2.2.2.2.1, ())))), (v.2.2, (k.2.2.2.2.2, ())))), fun t => (t.1.2.2.2.1, (t.2.1.1, (t.2.1.2.1, (t.2.1.2.2.1, (t.2.1.2.2.2.1, t.2.2.2.1))))), fun t => (t.1.2.2.1, (t.1.2.2.2.2.2.1, t.2.2.1)), S_zcb_0, fun _ r => .l (.exit 0 (mkSt ({ slots := [3], sh := (.cons (.arr 9) .nil), obs := [(9, .arr 24 y1)] }) (((), ()), (r, ()))))⟩
noncomputable def T_zcb (a1_ : Y1) (a2_ : Y1) (a3_ : Y1) (a4_ : Y3) : Tr Y2 :=
 .c Y2 (F_zcd a1_ a2_ a3_ a4_) fun r1_ =>
 .c Y2 (F_zck a1_ a2_ a3_ a4_) fun r2_ =>
 .c Y2 (L_zcb_0 (r1_, (a1_, (a2_, (a3_, (a4_, r2_))))) (([] : Y1), ((0 : Int), ([] : List Y1)))) fun r72_ =>
 .l r72_
noncomputable def F_zcb (a1_ : Y1) (a2_ : Y1) (a3_ : Y1) (a4_ : Y3) : Option Y2 := (T_zcb a1_ a2_ a3_ a4_).ev
noncomputable def A_zcb : Sh := (.cons (.agg (.cons (.dat y1) (.cons (.dat y1) (.cons (.dat y1) (.cons (.dat y3) .nil))))) .nil)
noncomputable def I_zcb : List (Nat × OSh) := []
noncomputable def K_zcb : RetK := { acts := [.ren 9 0], res := [.tmp 2], sh := (.cons (.arr 0) .nil), obs := [(0, .arr 24 y1)], pins := [] }
noncomputable def D_zcb : FD := ⟨A_zcb, I_zcb, [], List Y1, fun x => F_zcb x.1.1.1 x.1.1.2.1 x.1.1.2.2.1 x.1.1.2.2.2.1, fun r => ([.arr 0], [(0, .arr 24 y1 r)])⟩
noncomputable def E_zcb : Env := envOf [(48, D_zcd), (70, D_zck), (73, D_zcf), (74, D_zcg), (85, D_zcc), (75, D_zcv)]
noncomputable def Z_zcb : Nat → Nat → List Nat := fun r i => match look [(8, [(6, [69])])] r with
 | some l => (look l i).getD []
 | none => []
noncomputable def O_zcb : List (Nat × LD) := [(2, DL_zcb_2), (0, DL_zcb_0)]
noncomputable def C_zcb : Code := (f39.body).getD .skip
noncomputable def T_zbq (a1_ : Y1) (a2_ : Y1) (a3_ : Y1) (a4_ : Y3) : Tr (Bool × Y2) :=
 .c (Bool) (F_zce a1_ a2_ a3_ a4_) fun r1_ =>
 .t (!r1_)
 (.l (false, ([] : List Y1)))
 (.c Y2 (F_zcb a1_ a2_ a3_ a4_) fun r2_ =>
 .l (true, r2_))
noncomputable def F_zbq (a1_ : Y1) (a2_ : Y1) (a3_ : Y1) (a4_ : Y3) : Option (Bool × Y2) := (T_zbq a1_ a2_ a3_ a4_).ev
noncomputable def A_zbq : Sh := (.cons (.agg (.cons (.dat y1) (.cons (.dat y1) (.cons (.dat y1) (.cons (.dat y3) .nil))))) .nil)
noncomputable def I_zbq : List (Nat × OSh) := []
noncomputable def K_zbq : RetK := { acts := [.ren 7 0, .ren 576 0, .flat 0], res := [.tmp 2, .tmp 3], sh := (.cons (.arr 0) (.cons (.dat .bool) .nil)), obs := [(0, .arr 24 y1)], pins := [] }
noncomputable def D_zbq : FD := ⟨A_zbq, I_zbq, [], Bool × Y2, fun x => F_zbq x.1.1.1 x.1.1.2.1 x.1.1.2.2.1 x.1.1.2.2.2.1, fun r => ([.arr 0, .dat .bool r.1], [(0, .arr 24 y1 r.2)])⟩
noncomputable def E_zbq : Env := envOf [(37, D_zce), (39, D_zcb)]
noncomputable def Z_zbq : Nat → Nat → List Nat := fun r i => match look [(2, [(0, [1000000])])] r with
 | some l => (look l i).getD []
 | none => []
noncomputable def O_zbq : List (Nat × LD) := []
noncomputable def C_zbq : Code := (f25.body).getD .skip
noncomputable def S_zav_0 (k : Y2 × Y2) (v : Int) : Tr ((Int) ⊕ ((Unit) ⊕ (Unit))) :=
 .t (decide (v < ((List.length k.1 : Nat) : Int)))
 (.g (inR v (List.length k.1)) <|
 .g (inR v (List.length k.2)) <|
 .c (Bool) (F_zat (List.getD k.1 (Int.toNat v) ([] : Y1)) (List.getD k.2 (Int.toNat v) ([] : Y1))) fun r4_ =>
 .t (!r4_)
 (.l (.inr (.inr ())))
 (.l (.inl (IntKind.wrap .i64 (v + (1 : Int))))))
 (.l (.inr (.inl ())))
noncomputable def L_zav_0 (k : Y2 × Y2) (v : Int) : Option ((Unit) ⊕ (Unit)) := iter (fun v => (S_zav_0 k v).ev) v
noncomputable def DL_zav_0 : LD := ⟨(yh [0, 1, 5] (.cons (.dat y2) (.cons (.dat y2) (.cons (.dat yi) .nil)))), [(0, (yh [] .nil))], (yh [4] (.cons (.dat .bool) .nil)), Y2 × Y2, Int, (Unit) ⊕ (Unit), fun k v => ((k.1, (k.2, (v, ()))), ()), fun t => (t.1.1, t.1.2.1), fun t => t.1.2.2.1, S_zav_0, fun _ r => .s (Unit) (Unit) r (fun _ => .l (.exit 0 (mkSt ((ys [] .nil)) ((), ())))) (fun _ => .l (.ret (mkSt ((ys [4] (.cons (.dat .bool) .nil))) ((false, ()), ()))))⟩
noncomputable def T_zav (a1_ : List Y1) (a2_ : List Y1) : Tr (Bool) :=
 .t (((List.length a1_ : Nat) : Int) != ((List.length a2_ : Nat) : Int))
 (.l false)
 (.c ((Unit) ⊕ (Unit)) (L_zav_0 (a1_, a2_) (0 : Int)) fun r6_ =>
 .s (Unit) (Unit) r6_
 (fun _ => .l true)
 (fun _ => .l false))
noncomputable def F_zav (a1_ : List Y1) (a2_ : List Y1) : Option (Bool) := (T_zav a1_ a2_).ev
noncomputable def A_zav : Sh := (.cons (.dat y2) (.cons (.dat y2) .nil))
noncomputable def I_zav : List (Nat × OSh) := []
noncomputable def K_zav : RetK := { acts := [], res := [.tmp 4], sh := (.cons (.dat .bool) .nil), obs := [], pins := [] }
noncomputable def D_zav : FD := ⟨A_zav, I_zav, [], Bool, fun x => F_zav x.1.1 x.1.2.1, fun r => ([.dat .bool r], [])⟩
noncomputable def E_zav : Env := envOf [(21, D_zat)]
noncomputable def Z_zav : Nat → Nat → List Nat := fun _ _ => []
noncomputable def O_zav : List (Nat × LD) := [(0, DL_zav_0)]
noncomputable def C_zav : Code := (f13.body).getD .skip
noncomputable def T_ze (a1_ : Y1) (a2_ : Y1) (a3_ : Y1) (a4_ : Y3) : Tr (Int × (Bool)) :=
 .c (Bool) (F_zn a1_ a2_ a3_ a4_) fun r1_ =>
 .t (!r1_)
 (.l ((0 : Int), false))
 (.c Y2 (F_zv a1_ a2_ a3_ a4_) fun r2_ =>
 .g (inR (0 : Int) (List.length r2_)) <|
 .g (decide ((Int.toNat (0 : Int)) < List.length r2_)) <|
 .g (inR (0 : Int) (List.length (List.getD r2_ (Int.toNat (0 : Int)) ([] : Y1)))) <|
 .g (decide ((Int.toNat (0 : Int)) < List.length (List.getD r2_ (Int.toNat (0 : Int)) ([] : Y1)))) <|
 .l ((List.getD (List.getD r2_ (Int.toNat (0 : Int)) ([] : Y1)) (Int.toNat (0 : Int)) (0 : Int)), true))
noncomputable def F_ze (a1_ : Y1) (a2_ : Y1) (a3_ : Y1) (a4_ : Y3) : Option (Int × (Bool)) := (T_ze a1_ a2_ a3_ a4_).ev
noncomputable def A_ze : Sh := (.cons (.agg (.cons (.dat y1) (.cons (.dat y1) (.cons (.dat y1) (.cons (.dat y3) .nil))))) .nil)
noncomputable def I_ze : List (Nat × OSh) := []
noncomputable def K_ze : RetK := { acts := [], res := [.tmp 2, .tmp 3], sh := (.cons (.dat yi) (.cons (.dat .bool) .nil)), obs := [], pins := [] }
noncomputable def D_ze : FD := ⟨A_ze, I_ze, [], Int × (Bool), fun x => F_ze x.1.1.1 x.1.1.2.1 x.1.1.2.2.1 x.1.1.2.2.2.1, fun r => ([.dat yi r.1, .dat .bool r.2], [])⟩
noncomputable def E_ze : Env := envOf [(24, D_zn), (47, D_zv)]
noncomputable def Z_ze : Nat → Nat → List Nat := fun _ _ => []
noncomputable def O_ze : List (Nat × LD) := []
noncomputable def C_ze : Code := (f14.body).getD .skip
noncomputable def T_zbr (a1_ : Y1) (a2_ : Y1) (a3_ : Y1) (a4_ : Y3) : Tr (Int × (Bool)) :=
 .c (Bool) (F_zce a1_ a2_ a3_ a4_) fun r1_ =>
 .t (!r1_)
 (.l ((0 : Int), false))
 (.c Y2 (F_zcd a1_ a2_ a3_ a4_) fun r2_ =>
 .g (inR (0 : Int) (List.length r2_)) <|
 .g (inR (0 : Int) (List.length (List.getD r2_ (Int.toNat (0 : Int)) ([] : Y1)))) <|
 .l ((List.getD (List.getD r2_ (Int.toNat (0 : Int)) ([] : Y1)) (Int.toNat (0 : Int)) (0 : Int)), true))
noncomputable def F_zbr (a1_ : Y1) (a2_ : Y1) (a3_ : Y1) (a4_ : Y3) : Option (Int × (Bool)) := (T_zbr a1_ a2_ a3_ a4_).ev
noncomputable def A_zbr : Sh := (.cons (.agg (.cons (.dat y1) (.cons (.dat y1) (.cons (.dat y1) (.cons (.dat y3) .nil))))) .nil)
noncomputable def I_zbr : List (Nat × OSh) := []
noncomputable def K_zbr : RetK := { acts := [], res := [.tmp 2, .tmp 3], sh := (.cons (.dat yi) (.cons (.dat .bool) .nil)), obs := [], pins := [] }
noncomputable def D_zbr : FD := ⟨A_zbr, I_zbr, [], Int × (Bool), fun x => F_zbr x.1.1.1 x.1.1.2.1 x.1.1.2.2.1 x.1.1.2.2.2.1, fun r => ([.dat yi r.1, .dat .bool r.2], [])⟩
noncomputable def E_zbr : Env := envOf [(37, D_zce), (48, D_zcd)]
noncomputable def Z_zbr : Nat → Nat → List Nat := fun _ _ => []
noncomputable def O_zbr : List (Nat × LD) := []
noncomputable def C_zbr : Code := (f26.body).getD .skip
noncomputable def T_zad (a1_ : Y1) (a2_ : Y1) (a3_ : Y1) (a4_ : Y1) (a5_ : Y3) (a6_ : (HL [y1] → Option Y2)) : Tr (Bool) :=
 .c Y2 (a6_ (a1_, ())) fun r1_ =>
 .c (Bool) (F_zx a2_ a3_ a4_ a5_ r1_) fun r2_ =>
 .l r2_
noncomputable def F_zad (a1_ : Y1) (a2_ : Y1) (a3_ : Y1) (a4_ : Y1) (a5_ : Y3) (a6_ : (HL [y1] → Option Y2)) : Option (Bool) := (T_zad a1_ a2_ a3_ a4_ a5_ a6_).ev
noncomputable def A_zad : Sh := (.cons (.dat y1) (.cons (.ptr (.cons (.dat y1) (.cons (.dat y1) (.cons (.dat y1) (.cons (.dat y3) .nil))))) (.cons (.ptr (.cons (.clo [y1] y2) .nil)) .nil)))
noncomputable def I_zad : List (Nat × OSh) := []
noncomputable def K_zad : RetK := { acts := [], res := [.tmp 4], sh := (.cons (.dat .bool) .nil), obs := [], pins := [] }
noncomputable def D_zad : FD := ⟨A_zad, I_zad, [], Bool, fun x => F_zad x.1.1 x.1.2.1.1 x.1.2.1.2.1 x.1.2.1.2.2.1 x.1.2.1.2.2.2.1 x.1.2.2.1.1, fun r => ([.dat .bool r], [])⟩
noncomputable def E_zad : Env := envOf [(58, D_zx)]
noncomputable def Z_zad : Nat → Nat → List Nat := fun _ _ => []
noncomputable def O_zad : List (Nat × LD) := []
noncomputable def C_zad : Code := (f68.body).getD .skip
noncomputable def S_zac_0 (k : Y1 × Int) (v : Int × Y2) : Tr ((Int × Y2) ⊕ Y2) :=
 .t (decide (v.1 < k.2))
 (.c (List Int) (F_zay k.1) fun r5_ =>
 .g (decide ((List.length v.2 + 1) * 24 ≤ 140737488355328)) <|
 .l (.inl ((IntKind.wrap .i64 (v.1 + (1 : Int))), (List.set (v.2 ++ [[]]) (List.length v.2) r5_))))
 (.l (.inr v.2))
noncomputable def L_zac_0 (k : Y1 × Int) (v : Int × Y2) : Option Y2 := iter (fun v => (S_zac_0 k v).ev) v
noncomputable def DL_zac_0 : LD := ⟨{ acts := [], S := { slots := [0, 4, 8, 9], sh := (.cons (.dat y1) (.cons (.arr 5) (.cons (.dat yi) (.cons (.dat yi) .nil)))), obs := [(5, .rows 24 3 yi)] } }, [(0, { acts := [], S := { slots := [4], sh := (.cons (.arr 5) .nil), obs := [(5, .rows 24 3 yi)] } })], (yh [] .nil), Y1 × (Int), Int × Y2, List Y1, fun k v => ((k.1, ((), (k.2, (v.1, ())))), (v.2, ())), fun t => (t.1.1, t.1.2.2.1), fun t => (t.1.2.2.2.1, t.2.1), S_zac_0, fun _ r => .l (.exit 0 (mkSt ({ slots := [4], sh := (.cons (.arr 5) .nil), obs := [(5, .rows 24 3 yi)] }) (((), ()), (r, ()))))⟩
noncomputable def T_zac (a1_ : Y1) (_a2_ : Y1) (_a3_ : Y1) (_a4_ : Y1) (a5_ : Y3) : Tr Y2 :=
 .c Y2 (L_zac_0 (a1_, ((List.length a5_ : Nat) : Int)) ((0 : Int), ([] : List Y1))) fun r7_ =>
 .l r7_
noncomputable def F_zac (a1_ : Y1) (a2_ : Y1) (a3_ : Y1) (a4_ : Y1) (a5_ : Y3) : Option Y2 := (T_zac a1_ a2_ a3_ a4_ a5_).ev
noncomputable def A_zac : Sh := (.cons (.dat y1) (.cons (.ptr (.cons (.dat y1) (.cons (.dat y1) (.cons (.dat y1) (.cons (.dat y3) .nil))))) .nil))
noncomputable def I_zac : List (Nat × OSh) := []
noncomputable def K_zac : RetK := { acts := [.ren 5 0], res := [.tmp 3], sh := (.cons (.arr 0) .nil), obs := [(0, .rows 24 3 yi)], pins := [] }
noncomputable def D_zac : FD := ⟨A_zac, I_zac, [], List Y1, fun x => F_zac x.1.1 x.1.2.1.1 x.1.2.1.2.1 x.1.2.1.2.2.1 x.1.2.1.2.2.2.1, fun r => ([.arr 0], [(0, .rows 24 3 yi r none)])⟩
noncomputable def E_zac : Env := envOf [(54, D_zay)]
noncomputable def Z_zac : Nat → Nat → List Nat := fun r i => match look [(1, [(0, [1000000])])] r with
 | some l => (look l i).getD []
 | none => []
noncomputable def O_zac : List (Nat × LD) := [(0, DL_zac_0)]
noncomputable def C_zac : Code := (f66.body).getD .skip
noncomputable def T_zae (a1_ : Y1) (a2_ : Y1) (a3_ : Y1) (a4_ : Y1) (a5_ : Y3) (a6_ : (HL [y1] → Option Y2)) : Tr (Int) :=
 .c Y2 (a6_ (a1_, ())) fun r1_ =>
 .c Y1 (F_zaa a2_ a3_ a4_ a5_ r1_) fun r2_ =>
 .c (Int) (F_zaq r2_) fun r3_ =>
 .l r3_
noncomputable def F_zae (a1_ : Y1) (a2_ : Y1) (a3_ : Y1) (a4_ : Y1) (a5_ : Y3) (a6_ : (HL [y1] → Option Y2)) : Option (Int) := (T_zae a1_ a2_ a3_ a4_ a5_ a6_).ev
noncomputable def A_zae : Sh := (.cons (.dat y1) (.cons (.ptr (.cons (.dat y1) (.cons (.dat y1) (.cons (.dat y1) (.cons (.dat y3) .nil))))) (.cons (.ptr (.cons (.clo [y1] y2) .nil)) .nil)))
noncomputable def I_zae : List (Nat × OSh) := []
noncomputable def K_zae : RetK := { acts := [], res := [.tmp 4], sh := (.cons (.dat yi) .nil), obs := [], pins := [] }
noncomputable def D_zae : FD := ⟨A_zae, I_zae, [], Int, fun x => F_zae x.1.1 x.1.2.1.1 x.1.2.1.2.1 x.1.2.1.2.2.1 x.1.2.1.2.2.2.1 x.1.2.2.1.1, fun r => ([.dat yi r], [])⟩
noncomputable def E_zae : Env := envOf [(57, D_zaa), (55, D_zaq)]
noncomputable def Z_zae : Nat → Nat → List Nat := fun _ _ => []
noncomputable def O_zae : List (Nat × LD) := []
noncomputable def C_zae : Code := (f69.body).getD .skip
noncomputable def T_zab (a1_ : Y1) (a2_ : Y1) (a3_ : Y1) (a4_ : Y3) : Tr (Bool × Y2) :=
 .c (Bool) (F_zn a1_ a2_ a3_ a4_) fun r1_ =>
 .t (!r1_)
 (.l (false, ([] : List Y1)))
 (.c Y2 (F_zao ((List.length a1_ : Nat) : Int) (fun h2_ => Option.bind (F_zad h2_.1 a1_ a2_ a3_ a4_ (fun h3_ => Option.bind (F_zac h3_.1 a1_ a2_ a3_ a4_) fun y4_ => some y4_)) fun y5_ => some y5_)) fun r6_ =>
 .c Y1 (F_zan r6_ (fun h7_ => Option.bind (F_zae h7_.1 a1_ a2_ a3_ a4_ (fun h8_ => Option.bind (F_zac h8_.1 a1_ a2_ a3_ a4_) fun y9_ => some y9_)) fun y10_ => some y10_)) fun r11_ =>
 .c Y2 (F_zac r11_ a1_ a2_ a3_ a4_) fun r12_ =>
 .l (true, r12_))
noncomputable def F_zab (a1_ : Y1) (a2_ : Y1) (a3_ : Y1) (a4_ : Y3) : Option (Bool × Y2) := (T_zab a1_ a2_ a3_ a4_).ev
noncomputable def A_zab : Sh := (.cons (.agg (.cons (.dat y1) (.cons (.dat y1) (.cons (.dat y1) (.cons (.dat y3) .nil))))) .nil)
noncomputable def I_zab : List (Nat × OSh) := []
noncomputable def K_zab : RetK := { acts := [.ownR 2 0 24 3 yi, .ren 1216 0], res := [.tmp 2, .tmp 3], sh := (.cons (.arr 0) (.cons (.dat .bool) .nil)), obs := [(0, .rows 24 3 yi)], pins := [] }
noncomputable def D_zab : FD := ⟨A_zab, I_zab, [], Bool × Y2, fun x => F_zab x.1.1.1 x.1.1.2.1 x.1.1.2.2.1 x.1.1.2.2.2.1, fun r => ([.arr 0, .dat .bool r.1], [(0, .rows 24 3 yi r.2 none)])⟩
noncomputable def E_zab : Env := envOf [(24, D_zn), (67, D_zao), (49, D_zan), (49, D_zan), (69, D_zae), (67, D_zao), (68, D_zad), (66, D_zac)]
noncomputable def Z_zab : Nat → Nat → List Nat := fun r i => match look [(5, [(0, [5])])] r with
 | some l => (look l i).getD []
 | none => []
noncomputable def O_zab : List (Nat × LD) := []
noncomputable def C_zab : Code := (f27.body).getD .skip
noncomputable def S_zcj_0 (k : Y1 × (Y1 × (Y1 × (Y1 × Y3)))) (v : Int × Y2) : Tr ((Int × Y2) ⊕ Y2) :=
 .t (decide (v.1 < ((List.length k.2.2.2.2 : Nat) : Int)))
 (.c Y1 (F_zcv k.1) fun r8_ =>
 .g (decide ((List.length v.2 + 1) * 24 ≤ 140737488355328)) <|
 .l (.inl ((IntKind.wrap .i64 (v.1 + (1 : Int))), (List.set (v.2 ++ [[]]) (List.length v.2) r8_))))
 (.l (.inr v.2))
noncomputable def L_zcj_0 (k : Y1 × (Y1 × (Y1 × (Y1 × Y3)))) (v : Int × Y2) : Option Y2 := iter (fun v => (S_zcj_0 k v).ev) v
noncomputable def DL_zcj_0 : LD := ⟨{ acts := [], S := { slots := [1, 2, 5, 6], sh := (.cons (.dat y1) (.cons (.box 2 0) (.cons (.arr 7) (.cons (.dat yi) .nil)))), obs := [(2, .cells (.cons (.dat y1) (.cons (.dat y1) (.cons (.dat y1) (.cons (.dat y3) .nil))))), (7, .rows 24 3 yi)] } }, [(0, { acts := [], S := { slots := [5], sh := (.cons (.arr 7) .nil), obs := [(7, .rows 24 3 yi)] } })], (yh [] .nil), Y1 × (Y1 × (Y1 × (Y1 × Y3))), Int × Y2, List Y1, fun k v => ((k.1, ((), ((), (v.1, ())))), ((k.2.1, (k.2.2.1, (k.2.2.2.1, (k.2.2.2.2, ())))), (v.2, ()))), fun t => (t.1.1, (t.2.1.1, (t.2.1.2.1, (t.2.1.2.2.1, t.2.1.2.2.2.1)))), fun t => (t.1.2.2.2.1, t.2.2.1), S_zcj_0, fun _ r => .l (.exit 0 (mkSt ({ slots := [5], sh := (.cons (.arr 7) .nil), obs := [(7, .rows 24 3 yi)] }) (((), ()), (r, ()))))⟩
noncomputable def T_zcj (a1_ : Y1) (a2_ : Y1) (a3_ : Y1) (a4_ : Y3) (a5_ : Y1) : Tr Y2 :=
 .c Y2 (L_zcj_0 (a5_, (a1_, (a2_, (a3_, a4_)))) ((0 : Int), ([] : List Y1))) fun r10_ =>
 .l r10_
noncomputable def F_zcj (a1_ : Y1) (a2_ : Y1) (a3_ : Y1) (a4_ : Y3) (a5_ : Y1) : Option Y2 := (T_zcj a1_ a2_ a3_ a4_ a5_).ev
noncomputable def A_zcj : Sh := (.cons (.agg (.cons (.dat y1) (.cons (.dat y1) (.cons (.dat y1) (.cons (.dat y3) .nil))))) (.cons (.dat y1) .nil))
noncomputable def I_zcj : List (Nat × OSh) := []
noncomputable def K_zcj : RetK := { acts := [.ren 7 0], res := [.tmp 4], sh := (.cons (.arr 0) .nil), obs := [(0, .rows 24 3 yi)], pins := [] }
noncomputable def D_zcj : FD := ⟨A_zcj, I_zcj, [], List Y1, fun x => F_zcj x.1.1.1 x.1.1.2.1 x.1.1.2.2.1 x.1.1.2.2.2.1 x.1.2.1, fun r => ([.arr 0], [(0, .rows 24 3 yi r none)])⟩
noncomputable def E_zcj : Env := envOf [(75, D_zcv)]
noncomputable def Z_zcj : Nat → Nat → List Nat := fun r i => match look [(1, [(0, [1000000])])] r with
 | some l => (look l i).getD []
 | none => []
noncomputable def O_zcj : List (Nat × LD) := [(0, DL_zcj_0)]
noncomputable def C_zcj : Code := (f71.body).getD .skip
noncomputable def S_zca_0 (k : Y1 × (Y1 × (Y1 × (Y3 × Y2)))) (v : Y2 × (Bool × Int)) : Tr ((Y2 × (Bool × Int)) ⊕ Y2) :=
 .t (decide (v.2.2 < ((List.length k.2.2.2.2 : Nat) : Int)))
 (.g (inR v.2.2 (List.length k.2.2.2.2)) <|
 .g (decide ((Int.toNat v.2.2) < List.length k.2.2.2.2)) <|
 .c Y2 (F_zcj k.1 k.2.1 k.2.2.1 k.2.2.2.1 (List.getD k.2.2.2.2 (Int.toNat v.2.2) ([] : Y1))) fun r25_ =>
 .c (Bool) (F_zci k.1 k.2.1 k.2.2.1 k.2.2.2.1 r25_) fun r26_ =>
 .t (!r26_)
 (.l (.inl (v.1, (v.2.1, (IntKind.wrap .i64 (v.2.2 + (1 : Int)))))))
 (.t (!v.2.1)
 (.l (.inl (r25_, (true, (IntKind.wrap .i64 (v.2.2 + (1 : Int)))))))
 (.c Y1 (F_zch k.1 k.2.1 k.2.2.1 k.2.2.2.1 r25_) fun r27_ =>
 .c (Int) (F_zcl r27_) fun r28_ =>
 .c Y1 (F_zch k.1 k.2.1 k.2.2.1 k.2.2.2.1 v.1) fun r29_ =>
 .c (Int) (F_zcl r29_) fun r30_ =>
 .t (decide (r28_ < r30_))
 (.l (.inl (r25_, (true, (IntKind.wrap .i64 (v.2.2 + (1 : Int)))))))
 (.l (.inl (v.1, (v.2.1, (IntKind.wrap .i64 (v.2.2 + (1 : Int))))))))))
 (.l (.inr v.1))
noncomputable def L_zca_0 (k : Y1 × (Y1 × (Y1 × (Y3 × Y2)))) (v : Y2 × (Bool × Int)) : Option Y2 := iter (fun v => (S_zca_0 k v).ev) v
noncomputable def DL_zca_0 : LD := ⟨{ acts := [.fz 13, .fz 1728], S := { slots := [1, 4, 5, 6, 7], sh := (.cons (.box 1 0) (.cons (.dat y2) (.cons (.dat .bool) (.cons (.arr 960) (.cons (.dat yi) .nil))))), obs := [(1, .cells (.cons (.dat y1) (.cons (.dat y1) (.cons (.dat y1) (.cons (.dat y3) .nil))))), (960, .arr 24 y1)] } }, [(0, (yh [4] (.cons (.dat y2) .nil)))], (yh [] .nil), Y1 × (Y1 × (Y1 × (Y3 × Y2))), Y2 × (Bool × Int), List Y1, fun k v => (((), (v.1, (v.2.1, ((), (v.2.2, ()))))), ((k.1, (k.2.1, (k.2.2.1, (k.2.2.2.1, ())))), (k.2.2.2.2, ()))), fun t => (t.2.1.1, (t.2.1.2.1, (t.2.1.2.2.1, (t.2.1.2.2.2.1, t.2.2.1)))), fun t => (t.1.2.1, (t.1.2.2.1, t.1.2.2.2.2.1)), S_zca_0, fun _ r => .l (.exit 0 (mkSt ((ys [4] (.cons (.dat y2) .nil))) ((r, ()), ())))⟩
noncomputable def T_zca (a1_ : Y1) (a2_ : Y1) (a3_ : Y1) (a4_ : Y3) : Tr (Y2 × (Bool)) :=
 .c (Bool) (F_zce a1_ a2_ a3_ a4_) fun r1_ =>
 .t (!r1_)
 (.l (([] : List Y1), false))
 (.c Y2 (F_zck a1_ a2_ a3_ a4_) fun r2_ =>
 .c Y2 (L_zca_0 (a1_, (a2_, (a3_, (a4_, r2_)))) (([] : List Y1), (false, (0 : Int)))) fun r32_ =>
 .l (r32_, true))
noncomputable def F_zca (a1_ : Y1) (a2_ : Y1) (a3_ : Y1) (a4_ : Y3) : Option (Y2 × (Bool)) := (T_zca a1_ a2_ a3_ a4_).ev
noncomputable def A_zca : Sh := (.cons (.agg (.cons (.dat y1) (.cons (.dat y1) (.cons (.dat y1) (.cons (.dat y3) .nil))))) .nil)
noncomputable def I_zca : List (Nat × OSh) := []
noncomputable def K_zca : RetK := { acts := [.fz 12], res := [.tmp 2, .tmp 3], sh := (.cons (.dat y2) (.cons (.dat .bool) .nil)), obs := [], pins := [] }
noncomputable def D_zca : FD := ⟨A_zca, I_zca, [], Y2 × (Bool), fun x => F_zca x.1.1.1 x.1.1.2.1 x.1.1.2.2.1 x.1.1.2.2.2.1, fun r => ([.dat y2 r.1, .dat .bool r.2], [])⟩
noncomputable def E_zca : Env := envOf [(37, D_zce), (70, D_zck), (71, D_zcj), (42, D_zci), (46, D_zch), (45, D_zcl)]
noncomputable def Z_zca : Nat → Nat → List Nat := fun r i => match look [(2, [(0, [1000000])]), (3, [(0, [1000000])])] r with
 | some l => (look l i).getD []
 | none => []
noncomputable def O_zca : List (Nat × LD) := [(0, DL_zca_0)]
noncomputable def C_zca : Code := (f28.body).getD .skip
noncomputable def T_zl (a1_ : Y1) (a2_ : Y1) (a3_ : Y1) (a4_ : Y1) (a5_ : Y3) (a6_ : Int) (a7_ : Y1) : Tr (Int) :=
 .c (Int) (F_zz a2_ a3_ a4_ a5_ a6_ a7_ a1_) fun r1_ =>
 .l r1_
noncomputable def F_zl (a1_ : Y1) (a2_ : Y1) (a3_ : Y1) (a4_ : Y1) (a5_ : Y3) (a6_ : Int) (a7_ : Y1) : Option (Int) := (T_zl a1_ a2_ a3_ a4_ a5_ a6_ a7_).ev
noncomputable def A_zl : Sh := (.cons (.dat y1) (.cons (.ptr (.cons (.dat y1) (.cons (.dat y1) (.cons (.dat y1) (.cons (.dat y3) .nil))))) (.cons (.ptr (.cons (.dat yi) .nil)) (.cons (.ptr (.cons (.dat y1) .nil)) .nil))))
noncomputable def I_zl : List (Nat × OSh) := []
noncomputable def K_zl : RetK := { acts := [], res := [.tmp 5], sh := (.cons (.dat yi) .nil), obs := [], pins := [] }
noncomputable def D_zl : FD := ⟨A_zl, I_zl, [], Int, fun x => F_zl x.1.1 x.1.2.1.1 x.1.2.1.2.1 x.1.2.1.2.2.1 x.1.2.1.2.2.2.1 x.1.2.2.1.1 x.1.2.2.2.1.1, fun r => ([.dat yi r], [])⟩
noncomputable def E_zl : Env := envOf [(52, D_zz)]
noncomputable def Z_zl : Nat → Nat → List Nat := fun _ _ => []
noncomputable def O_zl : List (Nat × LD) := []
noncomputable def C_zl : Code := (f72.body).getD .skip
noncomputable def S_zk_0 (k : Int × (Y1 × (Y1 × (Y1 × Y3)))) (v : Int × (Y2 × Y1)) : Tr ((Int × (Y2 × Y1)) ⊕ Y2) :=
 .t (decide (v.1 < k.1))
 (.c Y2 (F_zt k.2.1 k.2.2.1 k.2.2.2.1 k.2.2.2.2 v.1) fun r23_ =>
 .c Y1 (F_zan r23_ (fun h24_ => Option.bind (F_zl h24_.1 k.2.1 k.2.2.1 k.2.2.2.1 k.2.2.2.2 v.1 v.2.2) fun y25_ => some y25_)) fun r26_ =>
 .c (List Int) (F_zay r26_) fun r27_ =>
 .g (decide ((List.length v.2.1 + 1) * 24 ≤ 140737488355328)) <|
 .l (.inl ((IntKind.wrap .i64 (v.1 + (1 : Int))), ((List.set (v.2.1 ++ [[]]) (List.length v.2.1) r27_), r26_))))
 (.l (.inr v.2.1))
noncomputable def L_zk_0 (k : Int × (Y1 × (Y1 × (Y1 × Y3)))) (v : Int × (Y2 × Y1)) : Option Y2 := iter (fun v => (S_zk_0 k v).ev) v
noncomputable def DL_zk_0 : LD := ⟨{ acts := [.fz 11], S := { slots := [1, 4, 5, 14, 15], sh := (.cons (.box 1 0) (.cons (.arr 10) (.cons (.box 5 0) (.cons (.dat yi) (.cons (.dat yi) .nil))))), obs := [(1, .cells (.cons (.dat y1) (.cons (.dat y1) (.cons (.dat y1) (.cons (.dat y3) .nil))))), (10, .rows 24 3 yi), (5, .cells (.cons (.dat y1) .nil))] } }, [(0, { acts := [], S := { slots := [4], sh := (.cons (.arr 10) .nil), obs := [(10, .rows 24 3 yi)] } })], (yh [] .nil), Int × (Y1 × (Y1 × (Y1 × Y3))), Int × (Y2 × Y1), List Y1, fun k v => (((), ((), ((), (k.1, (v.1, ()))))), ((k.2.1, (k.2.2.1, (k.2.2.2.1, (k.2.2.2.2, ())))), (v.2.1, ((v.2.2, ()), ())))), fun t => (t.1.2.2.2.1, (t.2.1.1, (t.2.1.2.1, (t.2.1.2.2.1, t.2.1.2.2.2.1)))), fun t => (t.1.2.2.2.2.1, (t.2.2.1, t.2.2.2.1.1)), S_zk_0, fun _ r => .l (.exit 0 (mkSt ({ slots := [4], sh := (.cons (.arr 10) .nil), obs := [(10, .rows 24 3 yi)] }) (((), ()), (r, ()))))⟩
noncomputable def T_zk (a1_ : Y1) (a2_ : Y1) (a3_ : Y1) (a4_ : Y3) : Tr (Bool × Y2) :=
 .c (Bool) (F_zn a1_ a2_ a3_ a4_) fun r1_ =>
 .t (!r1_)
 (.l (false, ([] : List Y1)))
 (.c Y2 (L_zk_0 (((List.length a4_ : Nat) : Int), (a1_, (a2_, (a3_, a4_)))) ((0 : Int), (([] : List Y1), ([] : Y1)))) fun r29_ =>
 .l (true, r29_))
noncomputable def F_zk (a1_ : Y1) (a2_ : Y1) (a3_ : Y1) (a4_ : Y3) : Option (Bool × Y2) := (T_zk a1_ a2_ a3_ a4_).ev
noncomputable def A_zk : Sh := (.cons (.agg (.cons (.dat y1) (.cons (.dat y1) (.cons (.dat y1) (.cons (.dat y3) .nil))))) .nil)
noncomputable def I_zk : List (Nat × OSh) := []
noncomputable def K_zk : RetK := { acts := [.ownR 2 0 24 3 yi, .ren 10 0], res := [.tmp 2, .tmp 3], sh := (.cons (.arr 0) (.cons (.dat .bool) .nil)), obs := [(0, .rows 24 3 yi)], pins := [] }
noncomputable def D_zk : FD := ⟨A_zk, I_zk, [], Bool × Y2, fun x => F_zk x.1.1.1 x.1.1.2.1 x.1.1.2.2.1 x.1.1.2.2.2.1, fun r => ([.arr 0, .dat .bool r.1], [(0, .rows 24 3 yi r.2 none)])⟩
noncomputable def E_zk : Env := envOf [(24, D_zn), (50, D_zt), (49, D_zan), (54, D_zay), (49, D_zan), (72, D_zl)]
noncomputable def Z_zk : Nat → Nat → List Nat := fun r i => match look [(3, [(0, [1000000])]), (7, [(4, [20])])] r with
 | some l => (look l i).getD []
 | none => []
noncomputable def O_zk : List (Nat × LD) := [(0, DL_zk_0)]
noncomputable def C_zk : Code := (f29.body).getD .skip
noncomputable def S_zbv_2 (k : Y1 × (Int × (Y1 × (Y1 × (Y1 × (Y3 × (Y2 × Y2))))))) (v : Int × Int) : Tr ((Int × Int) ⊕ (Int)) :=
 .t (decide (v.2 < ((List.length k.2.2.2.2.2.2.2 : Nat) : Int)))
 (.g (inR v.2 (List.length k.2.2.2.2.2.2.2)) <|
 .g (decide ((Int.toNat v.2) < List.length k.2.2.2.2.2.2.2)) <|
 .c (Bool) (F_zcf k.2.2.1 k.2.2.2.1 k.2.2.2.2.1 k.2.2.2.2.2.1 k.2.1 (List.getD k.2.2.2.2.2.2.2 (Int.toNat v.2) ([] : Y1))) fun r52_ =>
 .t r52_
 (.t (decide (v.1 < (0 : Int)))
 (.l (.inl (v.2, (IntKind.wrap .i64 (v.2 + (1 : Int))))))
 (.g (inR v.2 (List.length k.2.2.2.2.2.2.2)) <|
 .g (decide ((Int.toNat v.2) < List.length k.2.2.2.2.2.2.2)) <|
 .c (Int) (F_zcg k.2.2.1 k.2.2.2.1 k.2.2.2.2.1 k.2.2.2.2.2.1 k.2.1 k.1 (List.getD k.2.2.2.2.2.2.2 (Int.toNat v.2) ([] : Y1))) fun r53_ =>
 .g (inR v.1 (List.length k.2.2.2.2.2.2.2)) <|
 .g (decide ((Int.toNat v.1) < List.length k.2.2.2.2.2.2.2)) <|
 .c (Int) (F_zcg k.2.2.1 k.2.2.2.1 k.2.2.2.2.1 k.2.2.2.2.2.1 k.2.1 k.1 (List.getD k.2.2.2.2.2.2.2 (Int.toNat v.1) ([] : Y1))) fun r54_ =>
 .t (decide (r53_ < r54_))
 (.l (.inl (v.2, (IntKind.wrap .i64 (v.2 + (1 : Int))))))
 (.l (.inl (v.1, (IntKind.wrap .i64 (v.2 + (1 : Int))))))))
 (.l (.inl (v.1, (IntKind.wrap .i64 (v.2 + (1 : Int)))))))
 (.l (.inr v.1))
noncomputable def L_zbv_2 (k : Y1 × (Int × (Y1 × (Y1 × (Y1 × (Y3 × (Y2 × Y2))))))) (v : Int × Int) : Option (Int) := iter (fun v => (S_zbv_2 k v).ev) v
noncomputable def DL_zbv_2 : LD := ⟨{ acts := [], S := { slots := [1, 4, 5, 6, 7, 8, 9], sh := (.cons (.box 1 0) (.cons (.arr 10) (.cons (.dat y1) (.cons (.arr 1088) (.cons (.dat yi) (.cons (.dat yi) (.cons (.dat yi) .nil))))))), obs := [(1, .cells (.cons (.dat y1) (.cons (.dat y1) (.cons (.dat y1) (.cons (.dat y3) .nil))))), (10, .rows 24 3 yi), (1088, .arr 24 y1)] } }, [(2, { acts := [], S := { slots := [1, 4, 6, 7, 8], sh := (.cons (.box 1 0) (.cons (.arr 10) (.cons (.arr 1088) (.cons (.dat yi) (.cons (.dat yi) .nil))))), obs := [(1, .cells (.cons (.dat y1) (.cons (.dat y1) (.cons (.dat y1) (.cons (.dat y3) .nil))))), (10, .rows 24 3 yi), (1088, .arr 24 y1)] } })], (yh [] .nil), Y1 × (Int × (Y1 × (Y1 × (Y1 × (Y3 × (Y2 × Y2)))))), Int × (Int), Int, fun k v => (((), ((), (k.1, ((), (k.2.1, (v.1, (v.2, ()))))))), ((k.2.2.1, (k.2.2.2.1, (k.2.2.2.2.1, (k.2.2.2.2.2.1, ())))), (k.2.2.2.2.2.2.1, (k.2.2.2.2.2.2.2, ())))), fun t => (t.1.2.2.1, (t.1.2.2.2.2.1, (t.2.1.1, (t.2.1.2.1, (t.2.1.2.2.1, (t.2.1.2.2.2.1, (t.2.2.1, t.2.2.2.1))))))), fun t => (t.1.2.2.2.2.2.1, t.1.2.2.2.2.2.2.1), S_zbv_2, fun k r => .l (.exit 2 (mkSt ({ slots := [1, 4, 6, 7, 8], sh := (.cons (.box 1 0) (.cons (.arr 10) (.cons (.arr 1088) (.cons (.dat yi) (.cons (.dat yi) .nil))))), obs := [(1, .cells (.cons (.dat y1) (.cons (.dat y1) (.cons (.dat y1) (.cons (.dat y3) .nil))))), (10, .rows 24 3 yi), (1088, .arr 24 y1)] }) (((), ((), ((), (k.2.1, (r, ()))))), ((k.2.2.1, (k.2.2.2.1, (k.2.2.2.2.1, (k.2.2.2.2.2.1, ())))), (k.2.2.2.2.2.2.1, (k.2.2.2.2.2.2.2, ()))))))⟩
noncomputable def S_zbv_0 (k : Y1 × (Y1 × (Y1 × (Y3 × Y2)))) (v : Y1 × (Int × Y2)) : Tr ((Y1 × (Int × Y2)) ⊕ Y2) :=
 .t (decide (v.2.1 < ((List.length k.2.2.2.1 : Nat) : Int)))
 (.c (Int) (L_zbv_2 (v.1, (v.2.1, (k.1, (k.2.1, (k.2.2.1, (k.2.2.2.1, (v.2.2, k.2.2.2.2))))))) ((-1 : Int), (0 : Int))) fun r63_ =>
 .g (inR r63_ (List.length k.2.2.2.2)) <|
 .g (decide ((Int.toNat r63_) < List.length k.2.2.2.2)) <|
 .c Y1 (F_zcv (List.getD k.2.2.2.2 (Int.toNat r63_) ([] : Y1))) fun r64_ =>
 .g (decide ((List.length v.2.2 + 1) * 24 ≤ 140737488355328)) <|
 .g (inR r63_ (List.length k.2.2.2.2)) <|
 .g (decide ((Int.toNat r63_) < List.length k.2.2.2.2)) <|
 .l (.inl ((List.getD k.2.2.2.2 (Int.toNat r63_) ([] : Y1)), ((IntKind.wrap .i64 (v.2.1 + (1 : Int))), (List.set (v.2.2 ++ [[]]) (List.length v.2.2) r64_)))))
 (.l (.inr v.2.2))
noncomputable def L_zbv_0 (k : Y1 × (Y1 × (Y1 × (Y3 × Y2)))) (v : Y1 × (Int × Y2)) : Option Y2 := iter (fun v => (S_zbv_0 k v).ev) v
noncomputable def DL_zbv_0 : LD := ⟨{ acts := [.fz 11], S := { slots := [1, 4, 5, 6, 7], sh := (.cons (.box 1 0) (.cons (.arr 10) (.cons (.dat y1) (.cons (.arr 1088) (.cons (.dat yi) .nil))))), obs := [(1, .cells (.cons (.dat y1) (.cons (.dat y1) (.cons (.dat y1) (.cons (.dat y3) .nil))))), (10, .rows 24 3 yi), (1088, .arr 24 y1)] } }, [(0, { acts := [], S := { slots := [4], sh := (.cons (.arr 10) .nil), obs := [(10, .rows 24 3 yi)] } })], (yh [] .nil), Y1 × (Y1 × (Y1 × (Y3 × Y2))), Y1 × (Int × Y2), List Y1, fun k v => (((), ((), (v.1, ((), (v.2.1, ()))))), ((k.1, (k.2.1, (k.2.2.1, (k.2.2.2.1, ())))), (v.2.2, (k.2.2.2.2, ())))), fun t => (t.2.1.1, (t.2.1.2.1, (t.2.1.2.2.1, (t.2.1.2.2.2.1, t.2.2.2.1)))), fun t => (t.1.2.2.1, (t.1.2.2.2.2.1, t.2.2.1)), S_zbv_0, fun _ r => .l (.exit 0 (mkSt ({ slots := [4], sh := (.cons (.arr 10) .nil), obs := [(10, .rows 24 3 yi)] }) (((), ()), (r, ()))))⟩
noncomputable def T_zbv (a1_ : Y1) (a2_ : Y1) (a3_ : Y1) (a4_ : Y3) : Tr (Bool × Y2) :=
 .c (Bool) (F_zce a1_ a2_ a3_ a4_) fun r1_ =>
 .t (!r1_)
 (.l (false, ([] : List Y1)))
 (.c Y2 (F_zck a1_ a2_ a3_ a4_) fun r2_ =>
 .c Y2 (L_zbv_0 (a1_, (a2_, (a3_, (a4_, r2_)))) (([] : Y1), ((0 : Int), ([] : List Y1)))) fun r66_ =>
 .l (true, r66_))
noncomputable def F_zbv (a1_ : Y1) (a2_ : Y1) (a3_ : Y1) (a4_ : Y3) : Option (Bool × Y2) := (T_zbv a1_ a2_ a3_ a4_).ev
noncomputable def A_zbv : Sh := (.cons (.agg (.cons (.dat y1) (.cons (.dat y1) (.cons (.dat y1) (.cons (.dat y3) .nil))))) .nil)
noncomputable def I_zbv : List (Nat × OSh) := []
noncomputable def K_zbv : RetK := { acts := [.ren 10 0], res := [.tmp 2, .tmp 3], sh := (.cons (.arr 0) (.cons (.dat .bool) .nil)), obs := [(0, .rows 24 3 yi)], pins := [] }
noncomputable def D_zbv : FD := ⟨A_zbv, I_zbv, [], Bool × Y2, fun x => F_zbv x.1.1.1 x.1.1.2.1 x.1.1.2.2.1 x.1.1.2.2.2.1, fun r => ([.arr 0, .dat .bool r.1], [(0, .rows 24 3 yi r.2 none)])⟩
noncomputable def E_zbv : Env := envOf [(37, D_zce), (70, D_zck), (73, D_zcf), (74, D_zcg), (75, D_zcv)]
noncomputable def Z_zbv : Nat → Nat → List Nat := fun r i => match look [(1, [(0, [1000000])])] r with
 | some l => (look l i).getD []
 | none => []
noncomputable def O_zbv : List (Nat × LD) := [(2, DL_zbv_2), (0, DL_zbv_0)]
noncomputable def C_zbv : Code := (f30.body).getD .skip
noncomputable def T_zbt (a1_ : Y1) : Tr (Int × (Y1 × (Y1 × (Y1 × (Y3 × (Y1 × Y1)))))) :=
 .c (Y1 × (Y1 × (Y1 × (Y3 × (Y1 × (Int × Int)))))) (F_zcr a1_ (0 : Int) (0 : Int)) fun r1_ =>
 .c (Int) (F_zcu ((List.length r1_.1 : Nat) : Int) (5 : Int)) fun r2_ =>
 .c (Int × (Y1 × (Int × Int))) (F_zcp (32 : Int) r1_.2.2.2.2.1 r1_.2.2.2.2.2.1 r1_.2.2.2.2.2.2) fun r3_ =>
 .c Y1 (F_zcy r2_ r3_.1) fun r4_ =>
 .c (Int × (Y1 × (Int × Int))) (F_zcp (32 : Int) r3_.2.1 r3_.2.2.1 r3_.2.2.2) fun r5_ =>
 .c Y1 (F_zcy r2_ r5_.1) fun r6_ =>
 .c (Bool × (Y1 × (Int × Int))) (F_zco (24 : Int) r5_.2.1 r5_.2.2.1 r5_.2.2.2) fun r7_ =>
 .t r7_.1
 (.c (Int × (Y1 × (Int × Int))) (F_zcm ([(-1 : Int), (0 : Int), (5 : Int)] : Y1) r7_.2.1 r7_.2.2.1 r7_.2.2.2) fun r8_ =>
 .g (decide ((List.length r6_ + List.length ([r8_.1] : Y1)) * 8 ≤ 140737488355328)) <|
 .c (Int × (Y1 × (Int × Int))) (F_zcp (IntKind.wrap .i64 (((List.length r1_.2.2.2.1 : Nat) : Int) + (2 : Int))) r8_.2.1 r8_.2.2.1 r8_.2.2.2) fun r9_ =>
 .c (Int × (Y1 × (Int × Int))) (F_zcp (2 : Int) r9_.2.1 r9_.2.2.1 r9_.2.2.2) fun r10_ =>
 .l ((IntKind.wrap .i64 (r9_.1 - r10_.1)), (r1_.1, (r1_.2.1, (r1_.2.2.1, (r1_.2.2.2.1, (r4_, (r6_ ++ ([r8_.1] : Y1)))))))))
 (.c (Int × (Y1 × (Int × Int))) (F_zcp (IntKind.wrap .i64 (((List.length r1_.2.2.2.1 : Nat) : Int) + (2 : Int))) r7_.2.1 r7_.2.2.1 r7_.2.2.2) fun r11_ =>
 .c (Int × (Y1 × (Int × Int))) (F_zcp (2 : Int) r11_.2.1 r11_.2.2.1 r11_.2.2.2) fun r12_ =>
 .l ((IntKind.wrap .i64 (r11_.1 - r12_.1)), (r1_.1, (r1_.2.1, (r1_.2.2.1, (r1_.2.2.2.1, (r4_, r6_)))))))
noncomputable def F_zbt (a1_ : Y1) : Option (Int × (Y1 × (Y1 × (Y1 × (Y3 × (Y1 × Y1)))))) := (T_zbt a1_).ev
noncomputable def A_zbt : Sh := (.cons (.dat (.slice (.int .u8))) .nil)
noncomputable def I_zbt : List (Nat × OSh) := []
noncomputable def K_zbt : RetK := { acts := [.ren 961 5, .ren 964 6, .ren 965 8, .ren 966 9, .ren 1472 4, .ren 1728 3], res := [.cell 2 27, .tmp 3, .tmp 4, .tmp 5], sh := (.cons (.agg (.cons (.arr 5) (.cons (.arr 6) (.cons (.arr 8) (.cons (.arr 9) .nil))))) (.cons (.dat yi) (.cons (.arr 4) (.cons (.arr 3) .nil)))), obs := [(5, .arr 3 yi), (6, .arr 3 yi), (8, .arr 3 yi), (9, .arr 28 y2), (4, .arr 3 yi), (3, .arr 3 yi)], pins := [] }
noncomputable def D_zbt : FD := ⟨A_zbt, I_zbt, [], Int × (Y1 × (Y1 × (Y1 × (Y3 × (Y1 × Y1))))), fun x => F_zbt x.1.1, fun r => ([.agg [.arr 5, .arr 6, .arr 8, .arr 9], .dat yi r.1, .arr 4, .arr 3], [(5, .arr 3 yi r.2.1), (6, .arr 3 yi r.2.2.1), (8, .arr 3 yi r.2.2.2.1), (9, .arr 28 y2 r.2.2.2.2.1), (4, .arr 3 yi r.2.2.2.2.2.1), (3, .arr 3 yi r.2.2.2.2.2.2)])⟩
noncomputable def E_zbt : Env := envOf [(35, D_zcr), (76, D_zcu), (78, D_zcp), (77, D_zcy), (38, D_zco), (79, D_zcm)]
noncomputable def Z_zbt : Nat → Nat → List Nat := fun r i => match look [(6, [(3, [32])])] r with
 | some l => (look l i).getD []
 | none => []
noncomputable def O_zbt : List (Nat × LD) := []
noncomputable def C_zbt : Code := (f31.body).getD .skip
noncomputable def T_zq (a1_ : Y1) (a2_ : Y1) (a3_ : Y1) (a4_ : Y3) (a5_ : Int) (a6_ : Y1) (a7_ : Y1) : Tr (Int × (Bool)) :=
 .c (Bool) (F_zn a1_ a2_ a3_ a4_) fun r1_ =>
 .t (!r1_)
 (.l ((0 : Int), false))
 (.c (Bool) (F_zak a5_ (0 : Int) (IntKind.wrap .i64 (((List.length a4_ : Nat) : Int) - (1 : Int)))) fun r2_ =>
 .t (!r2_)
 (.l ((0 : Int), false))
 (.c (Bool) (F_zam a6_ ((List.length a1_ : Nat) : Int)) fun r3_ =>
 .t (!r3_)
 (.l ((0 : Int), false))
 (.c (Bool) (F_zy a1_ a2_ a3_ a4_ a5_ a7_) fun r4_ =>
 .t (!r4_)
 (.l ((0 : Int), false))
 (.c (Int) (F_zz a1_ a2_ a3_ a4_ a5_ a6_ a7_) fun r5_ =>
 .l (r5_, true)))))
noncomputable def F_zq (a1_ : Y1) (a2_ : Y1) (a3_ : Y1) (a4_ : Y3) (a5_ : Int) (a6_ : Y1) (a7_ : Y1) : Option (Int × (Bool)) := (T_zq a1_ a2_ a3_ a4_ a5_ a6_ a7_).ev
noncomputable def A_zq : Sh := (.cons (.agg (.cons (.dat y1) (.cons (.dat y1) (.cons (.dat y1) (.cons (.dat y3) .nil))))) (.cons (.dat yi) (.cons (.dat y1) (.cons (.dat y1) .nil))))
noncomputable def I_zq : List (Nat × OSh) := []
noncomputable def K_zq : RetK := { acts := [], res := [.tmp 8, .tmp 9], sh := (.cons (.dat yi) (.cons (.dat .bool) .nil)), obs := [], pins := [] }
noncomputable def D_zq : FD := ⟨A_zq, I_zq, [], Int × (Bool), fun x => F_zq x.1.1.1 x.1.1.2.1 x.1.1.2.2.1 x.1.1.2.2.2.1 x.1.2.1 x.1.2.2.1 x.1.2.2.2.1, fun r => ([.dat yi r.1, .dat .bool r.2], [])⟩
noncomputable def E_zq : Env := envOf [(24, D_zn), (59, D_zak), (80, D_zam), (81, D_zy), (52, D_zz)]
noncomputable def Z_zq : Nat → Nat → List Nat := fun _ _ => []
noncomputable def O_zq : List (Nat × LD) := []
noncomputable def C_zq : Code := (f32.body).getD .skip
noncomputable def T_zbx (a1_ : Y1) (a2_ : Y1) (a3_ : Y1) (a4_ : Y3) (a5_ : Int) (a6_ : Y1) (a7_ : Y1) : Tr (Int × (Bool)) :=
 .c (Bool) (F_zce a1_ a2_ a3_ a4_) fun r1_ =>
 .t (!r1_)
 (.l ((0 : Int), false))
 (.c (Bool) (F_zct a5_ (0 : Int) (IntKind.wrap .i64 (((List.length a4_ : Nat) : Int) - (1 : Int)))) fun r2_ =>
 .t (!r2_)
 (.l ((0 : Int), false))
 (.c (Bool) (F_zcw a6_ (0 : Int) (IntKind.wrap .i64 (((List.length a1_ : Nat) : Int) - (1 : Int)))) fun r3_ =>
 .t (!r3_)
 (.l ((0 : Int), false))
 (.c (Bool) (F_zcf a1_ a2_ a3_ a4_ a5_ a7_) fun r4_ =>
 .t (!r4_)
 (.l ((0 : Int), false))
 (.c (Int) (F_zcg a1_ a2_ a3_ a4_ a5_ a6_ a7_) fun r5_ =>
 .l (r5_, true)))))
noncomputable def F_zbx (a1_ : Y1) (a2_ : Y1) (a3_ : Y1) (a4_ : Y3) (a5_ : Int) (a6_ : Y1) (a7_ : Y1) : Option (Int × (Bool)) := (T_zbx a1_ a2_ a3_ a4_ a5_ a6_ a7_).ev
noncomputable def A_zbx : Sh := (.cons (.agg (.cons (.dat y1) (.cons (.dat y1) (.cons (.dat y1) (.cons (.dat y3) .nil))))) (.cons (.dat yi) (.cons (.dat y1) (.cons (.dat y1) .nil))))
noncomputable def I_zbx : List (Nat × OSh) := []
noncomputable def K_zbx : RetK := { acts := [], res := [.tmp 8, .tmp 9], sh := (.cons (.dat yi) (.cons (.dat .bool) .nil)), obs := [], pins := [] }
noncomputable def D_zbx : FD := ⟨A_zbx, I_zbx, [], Int × (Bool), fun x => F_zbx x.1.1.1 x.1.1.2.1 x.1.1.2.2.1 x.1.1.2.2.2.1 x.1.2.1 x.1.2.2.1 x.1.2.2.2.1, fun r => ([.dat yi r.1, .dat .bool r.2], [])⟩
noncomputable def E_zbx : Env := envOf [(37, D_zce), (82, D_zct), (83, D_zcw), (73, D_zcf), (74, D_zcg)]
noncomputable def Z_zbx : Nat → Nat → List Nat := fun _ _ => []
noncomputable def O_zbx : List (Nat × LD) := []
noncomputable def C_zbx : Code := (f33.body).getD .skip
noncomputable def S_zau_0 (k : Y1) (v : Int × Int) : Tr ((Int × Int) ⊕ (Int)) :=
 .t (decide (v.2 < ((List.length k : Nat) : Int)))
 (.g (inR v.2 (List.length k)) <|
 .l (.inl ((IntKind.wrap .i64 (v.1 + (List.getD k (Int.toNat v.2) (0 : Int)))), (IntKind.wrap .i64 (v.2 + (1 : Int))))))
 (.l (.inr v.1))
noncomputable def L_zau_0 (k : Y1) (v : Int × Int) : Option (Int) := iter (fun v => (S_zau_0 k v).ev) v
noncomputable def DL_zau_0 : LD := ⟨(yh [0, 3, 4] (.cons (.dat y1) (.cons (.dat yi) (.cons (.dat yi) .nil)))), [(0, (yh [3] (.cons (.dat yi) .nil)))], (yh [] .nil), Y1, Int × (Int), Int, fun k v => ((k, (v.1, (v.2, ()))), ()), fun t => t.1.1, fun t => (t.1.2.1, t.1.2.2.1), S_zau_0, fun _ r => .l (.exit 0 (mkSt ((ys [3] (.cons (.dat yi) .nil))) ((r, ()), ())))⟩
noncomputable def T_zau (a1_ : Y1) : Tr (Int) :=
 .c (Int) (L_zau_0 a1_ ((0 : Int), (0 : Int))) fun r5_ =>
 .l r5_
noncomputable def F_zau (a1_ : Y1) : Option (Int) := (T_zau a1_).ev
noncomputable def A_zau : Sh := (.cons (.dat y1) .nil)
noncomputable def I_zau : List (Nat × OSh) := []
noncomputable def K_zau : RetK := { acts := [], res := [.tmp 2], sh := (.cons (.dat yi) .nil), obs := [], pins := [] }
noncomputable def D_zau : FD := ⟨A_zau, I_zau, [], Int, fun x => F_zau x.1.1, fun r => ([.dat yi r], [])⟩
noncomputable def E_zau : Env := envOf []
noncomputable def Z_zau : Nat → Nat → List Nat := fun _ _ => []
noncomputable def O_zau : List (Nat × LD) := [(0, DL_zau_0)]
noncomputable def C_zau : Code := (f34.body).getD .skip
noncomputable def S_zar_0 (k : Int × (Int × (Y1 × (Y1 × (Y1 × (Y3 × (Y2 × Y1))))))) (v : Y1 × Int) : Tr ((Y1 × Int) ⊕ ((Unit) ⊕ (Unit))) :=
 .t (decide (v.2 < ((List.length k.2.2.2.2.2.2.1 : Nat) : Int)))
 (.g (inR v.2 (List.length k.2.2.2.2.2.2.1)) <|
 .g (decide ((Int.toNat v.2) < List.length k.2.2.2.2.2.2.1)) <|
 .c (Int × (Bool)) (F_zq k.2.2.1 k.2.2.2.1 k.2.2.2.2.1 k.2.2.2.2.2.1 v.2 v.1 (List.getD k.2.2.2.2.2.2.1 (Int.toNat v.2) ([] : Y1))) fun r60_ =>
 .t (!r60_.2)
 (.l (.inr (.inr ())))
 (.g (inR v.2 (List.length k.2.2.2.2.2.2.2)) <|
 .g (decide ((Int.toNat v.2) < List.length k.2.2.2.2.2.2.2)) <|
 .t (r60_.1 != (List.getD k.2.2.2.2.2.2.2 (Int.toNat v.2) (0 : Int)))
 (.l (.inr (.inr ())))
 (.g (inR v.2 (List.length k.2.2.2.2.2.2.1)) <|
 .g (decide ((Int.toNat v.2) < List.length k.2.2.2.2.2.2.1)) <|
 .l (.inl ((List.getD k.2.2.2.2.2.2.1 (Int.toNat v.2) ([] : Y1)), (IntKind.wrap .i64 (v.2 + (1 : Int))))))))
 (.l (.inr (.inl ())))
noncomputable def L_zar_0 (k : Int × (Int × (Y1 × (Y1 × (Y1 × (Y3 × (Y2 × Y1))))))) (v : Y1 × Int) : Option ((Unit) ⊕ (Unit)) := iter (fun v => (S_zar_0 k v).ev) v
noncomputable def DL_zar_0 : LD := ⟨{ acts := [.fz 311, .flat 3521], S := { slots := [3, 4, 5, 9, 21, 47, 48], sh := (.cons (.box 3 0) (.cons (.arr 3521) (.cons (.dat yi) (.cons (.arr 5184) (.cons (.dat yi) (.cons (.dat y1) (.cons (.dat yi) .nil))))))), obs := [(3, .cells (.cons (.dat y1) (.cons (.dat y1) (.cons (.dat y1) (.cons (.dat y3) .nil))))), (3521, .arr 24 y1), (5184, .arr 3 yi)] } }, [(0, { acts := [], S := { slots := [5, 9, 21], sh := (.cons (.dat yi) (.cons (.arr 5184) (.cons (.dat yi) .nil))), obs := [(5184, .arr 3 yi)] } })], (yh [2] (.cons (.dat .bool) .nil)), Int × (Int × (Y1 × (Y1 × (Y1 × (Y3 × (Y2 × Y1)))))), Y1 × (Int), (Unit) ⊕ (Unit), fun k v => (((), ((), (k.1, ((), (k.2.1, (v.1, (v.2, ()))))))), ((k.2.2.1, (k.2.2.2.1, (k.2.2.2.2.1, (k.2.2.2.2.2.1, ())))), (k.2.2.2.2.2.2.1, (k.2.2.2.2.2.2.2, ())))), fun t => (t.1.2.2.1, (t.1.2.2.2.2.1, (t.2.1.1, (t.2.1.2.1, (t.2.1.2.2.1, (t.2.1.2.2.2.1, (t.2.2.1, t.2.2.2.1))))))), fun t => (t.1.2.2.2.2.2.1, t.1.2.2.2.2.2.2.1), S_zar_0, fun k r => .s (Unit) (Unit) r (fun _ => .l (.exit 0 (mkSt ({ slots := [5, 9, 21], sh := (.cons (.dat yi) (.cons (.arr 5184) (.cons (.dat yi) .nil))), obs := [(5184, .arr 3 yi)] }) ((k.1, ((), (k.2.1, ()))), (k.2.2.2.2.2.2.2, ()))))) (fun _ => .l (.ret (mkSt ((ys [2] (.cons (.dat .bool) .nil))) ((false, ()), ()))))⟩
noncomputable def T_zar (a1_ : Y1) : Tr (Bool) :=
 .c (Bool) (F_zas a1_) fun r1_ =>
 .t r1_
 (.l true)
 (.c (Y1 × (Y1 × (Y1 × (Y3 × Y2)))) (F_zbu a1_) fun r2_ =>
 .c (Int × (Bool)) (F_zr r2_.1 r2_.2.1 r2_.2.2.1 r2_.2.2.2.1 r2_.2.2.2.2) fun r3_ =>
 .c (Int × (Bool)) (F_zby r2_.1 r2_.2.1 r2_.2.2.1 r2_.2.2.2.1 r2_.2.2.2.2) fun r4_ =>
 .t (r3_.1 != r4_.1)
 (.l false)
 (.t (!(r3_.2 == r4_.2))
 (.l false)
 (.c (Bool × Y1) (F_zs r2_.1 r2_.2.1 r2_.2.2.1 r2_.2.2.2.1 r2_.2.2.2.2) fun r5_ =>
 .c (Bool × Y1) (F_zbz r2_.1 r2_.2.1 r2_.2.2.1 r2_.2.2.2.1 r2_.2.2.2.2) fun r6_ =>
 .t (!(r5_.1 == r6_.1))
 (.l false)
 (.t (!(r5_.1 == r3_.2))
 (.l false)
 (.c (Bool) (F_zat r5_.2 r6_.2) fun r7_ =>
 .t (!r7_)
 (.l false)
 (.c (Bool × (Bool)) (F_zm r2_.1 r2_.2.1 r2_.2.2.1 r2_.2.2.2.1 r2_.2.2.2.2) fun r8_ =>
 .c (Bool × (Bool)) (F_zbw r2_.1 r2_.2.1 r2_.2.2.1 r2_.2.2.2.1 r2_.2.2.2.2) fun r9_ =>
 .t (!(r8_.1 == r9_.1))
 (.l false)
 (.t (!(r8_.2 == r9_.2))
 (.l false)
 (.c (Bool) (F_zn r2_.1 r2_.2.1 r2_.2.2.1 r2_.2.2.2.1) fun r10_ =>
 .t (!(r8_.2 == r10_))
 (.l false)
 (.t r8_.2
 (.t (!(r3_.2 == r8_.1))
 (.l false)
 (.c (Bool × Y2) (F_zd r2_.1 r2_.2.1 r2_.2.2.1 r2_.2.2.2.1) fun r11_ =>
 .c (Bool × Y2) (F_zbq r2_.1 r2_.2.1 r2_.2.2.1 r2_.2.2.2.1) fun r12_ =>
 .t (!(r11_.1 == r12_.1))
 (.l false)
 (.t (!(r11_.1 == r8_.2))
 (.l false)
 (.c (Bool) (F_zav r11_.2 r12_.2) fun r13_ =>
 .t (!r13_)
 (.l false)
 (.c (Int × (Bool)) (F_ze r2_.1 r2_.2.1 r2_.2.2.1 r2_.2.2.2.1) fun r14_ =>
 .c (Int × (Bool)) (F_zbr r2_.1 r2_.2.1 r2_.2.2.1 r2_.2.2.2.1) fun r15_ =>
 .t (r14_.1 != r15_.1)
 (.l false)
 (.t (!(r14_.2 == r15_.2))
 (.l false)
 (.t (!(r14_.2 == r8_.2))
 (.l false)
 (.c (Bool × Y2) (F_zab r2_.1 r2_.2.1 r2_.2.2.1 r2_.2.2.2.1) fun r16_ =>
 .c (Y2 × (Bool)) (F_zca r2_.1 r2_.2.1 r2_.2.2.1 r2_.2.2.2.1) fun r17_ =>
 .t (!(r16_.1 == r17_.2))
 (.l false)
 (.t (!(r16_.1 == r8_.2))
 (.l false)
 (.c (Bool) (F_zav r16_.2 r17_.1) fun r18_ =>
 .t (!r18_)
 (.l false)
 (.c (Bool × Y2) (F_zk r2_.1 r2_.2.1 r2_.2.2.1 r2_.2.2.2.1) fun r19_ =>
 .c (Bool × Y2) (F_zbv r2_.1 r2_.2.1 r2_.2.2.1 r2_.2.2.2.1) fun r20_ =>
 .t (!(r19_.1 == r20_.1))
 (.l false)
 (.t (!(r19_.1 == r8_.2))
 (.l false)
 (.c (Bool) (F_zav r19_.2 r20_.2) fun r21_ =>
 .t (!r21_)
 (.l false)
 (.c (Int × (Y1 × (Y1 × (Y1 × (Y3 × (Y1 × Y1)))))) (F_zbt a1_) fun r22_ =>
 .c (Int × (Bool)) (F_zq r22_.2.1 r22_.2.2.1 r22_.2.2.2.1 r22_.2.2.2.2.1 r22_.1 r22_.2.2.2.2.2.1 r22_.2.2.2.2.2.2) fun r23_ =>
 .c (Int × (Bool)) (F_zbx r22_.2.1 r22_.2.2.1 r22_.2.2.2.1 r22_.2.2.2.2.1 r22_.1 r22_.2.2.2.2.2.1 r22_.2.2.2.2.2.2) fun r24_ =>
 .t (r23_.1 != r24_.1)
 (.l false)
 (.t (!(r23_.2 == r24_.2))
 (.l false)
 (.t (!r8_.2)
 (.l true)
 (.c (Int × (Bool)) (F_zr r2_.1 r2_.2.1 r2_.2.2.1 r2_.2.2.2.1 r11_.2) fun r25_ =>
 .c (Int × (Bool)) (F_zr r2_.1 r2_.2.1 r2_.2.2.1 r2_.2.2.2.1 r16_.2) fun r26_ =>
 .c (Int × (Bool)) (F_zr r2_.1 r2_.2.1 r2_.2.2.1 r2_.2.2.2.1 r19_.2) fun r27_ =>
 .t (!r25_.2)
 (.l false)
 (.t (!r26_.2)
 (.l false)
 (.t (!r27_.2)
 (.l false)
 (.t (r25_.1 != r14_.1)
 (.l false)
 (.t (decide (r26_.1 < r14_.1))
 (.l false)
 (.t (decide (r27_.1 < r14_.1))
 (.l false)
 (.t (!r3_.2)
 (.l true)
 (.c ((Unit) ⊕ (Unit)) (L_zar_0 (r3_.1, (r14_.1, (r2_.1, (r2_.2.1, (r2_.2.2.1, (r2_.2.2.2.1, (r2_.2.2.2.2, r5_.2))))))) (([] : Y1), (0 : Int))) fun r65_ =>
 .s (Unit) (Unit) r65_
 (fun _ => .c (Int) (F_zau r5_.2) fun r68_ =>
 .t (r68_ == r3_.1)
 (.l (decide (r14_.1 ≤ r3_.1)))
 (.l false))
 (fun _ => .l false)))))))))))))))))))))))))
 (.t (!(r3_.2 == false))
 (.l false)
 (.c (Bool × Y2) (F_zd r2_.1 r2_.2.1 r2_.2.2.1 r2_.2.2.2.1) fun r69_ =>
 .c (Bool × Y2) (F_zbq r2_.1 r2_.2.1 r2_.2.2.1 r2_.2.2.2.1) fun r70_ =>
 .t (!(r69_.1 == r70_.1))
 (.l false)
 (.t (!(r69_.1 == r8_.2))
 (.l false)
 (.c (Bool) (F_zav r69_.2 r70_.2) fun r71_ =>
 .t (!r71_)
 (.l false)
 (.c (Int × (Bool)) (F_ze r2_.1 r2_.2.1 r2_.2.2.1 r2_.2.2.2.1) fun r72_ =>
 .c (Int × (Bool)) (F_zbr r2_.1 r2_.2.1 r2_.2.2.1 r2_.2.2.2.1) fun r73_ =>
 .t (r72_.1 != r73_.1)
 (.l false)
 (.t (!(r72_.2 == r73_.2))
 (.l false)
 (.t (!(r72_.2 == r8_.2))
 (.l false)
 (.c (Bool × Y2) (F_zab r2_.1 r2_.2.1 r2_.2.2.1 r2_.2.2.2.1) fun r74_ =>
 .c (Y2 × (Bool)) (F_zca r2_.1 r2_.2.1 r2_.2.2.1 r2_.2.2.2.1) fun r75_ =>
 .t (!(r74_.1 == r75_.2))
 (.l false)
 (.t (!(r74_.1 == r8_.2))
 (.l false)
 (.c (Bool) (F_zav r74_.2 r75_.1) fun r76_ =>
 .t (!r76_)
 (.l false)
 (.c (Bool × Y2) (F_zk r2_.1 r2_.2.1 r2_.2.2.1 r2_.2.2.2.1) fun r77_ =>
 .c (Bool × Y2) (F_zbv r2_.1 r2_.2.1 r2_.2.2.1 r2_.2.2.2.1) fun r78_ =>
 .t (!(r77_.1 == r78_.1))
 (.l false)
 (.t (!(r77_.1 == r8_.2))
 (.l false)
 (.c (Bool) (F_zav r77_.2 r78_.2) fun r79_ =>
 .t (!r79_)
 (.l false)
 (.c (Int × (Y1 × (Y1 × (Y1 × (Y3 × (Y1 × Y1)))))) (F_zbt a1_) fun r80_ =>
 .c (Int × (Bool)) (F_zq r80_.2.1 r80_.2.2.1 r80_.2.2.2.1 r80_.2.2.2.2.1 r80_.1 r80_.2.2.2.2.2.1 r80_.2.2.2.2.2.2) fun r81_ =>
 .c (Int × (Bool)) (F_zbx r80_.2.1 r80_.2.2.1 r80_.2.2.2.1 r80_.2.2.2.2.1 r80_.1 r80_.2.2.2.2.2.1 r80_.2.2.2.2.2.2) fun r82_ =>
 .t (r81_.1 != r82_.1)
 (.l false)
 (.t (!(r81_.2 == r82_.2))
 (.l false)
 (.t (!r8_.2)
 (.l true)
 (.c (Int × (Bool)) (F_zr r2_.1 r2_.2.1 r2_.2.2.1 r2_.2.2.2.1 r69_.2) fun r83_ =>
 .c (Int × (Bool)) (F_zr r2_.1 r2_.2.1 r2_.2.2.1 r2_.2.2.2.1 r74_.2) fun r84_ =>
 .c (Int × (Bool)) (F_zr r2_.1 r2_.2.1 r2_.2.2.1 r2_.2.2.2.1 r77_.2) fun r85_ =>
 .t (!r83_.2)
 (.l false)
 (.t (!r84_.2)
 (.l false)
 (.t (!r85_.2)
 (.l false)
 (.t (r83_.1 != r72_.1)
 (.l false)
 (.t (decide (r84_.1 < r72_.1))
 (.l false)
 (.t (decide (r85_.1 < r72_.1))
 (.l false)
 (.t (!r3_.2)
 (.l true)
 (.c ((Unit) ⊕ (Unit)) (L_zar_0 (r3_.1, (r72_.1, (r2_.1, (r2_.2.1, (r2_.2.2.1, (r2_.2.2.2.1, (r2_.2.2.2.2, r5_.2))))))) (([] : Y1), (0 : Int))) fun r86_ =>
 .s (Unit) (Unit) r86_
 (fun _ => .c (Int) (F_zau r5_.2) fun r89_ =>
 .t (r89_ == r3_.1)
 (.l (decide (r72_.1 ≤ r3_.1)))
 (.l false))
 (fun _ => .l false))))))))))))))))))))))))))))))))))
noncomputable def F_zar (a1_ : Y1) : Option (Bool) := (T_zar a1_).ev
noncomputable def A_zar : Sh := (.cons (.dat (.slice (.int .u8))) .nil)
noncomputable def I_zar : List (Nat × OSh) := []
noncomputable def K_zar : RetK := { acts := [], res := [.tmp 2], sh := (.cons (.dat .bool) .nil), obs := [], pins := [] }
noncomputable def D_zar : FD := ⟨A_zar, I_zar, [], Bool, fun x => F_zar x.1.1, fun r => ([.dat .bool r], [])⟩
noncomputable def E_zar : Env := envOf [(5, D_zas), (17, D_zbu), (16, D_zr), (18, D_zby), (19, D_zs), (20, D_zbz), (21, D_zat), (22, D_zm), (23, D_zbw), (24, D_zn), (15, D_zd), (25, D_zbq), (13, D_zav), (14, D_ze), (26, D_zbr), (27, D_zab), (28, D_zca), (29, D_zk), (30, D_zbv), (31, D_zbt), (32, D_zq), (33, D_zbx), (34, D_zau)]
noncomputable def Z_zar : Nat → Nat → List Nat := fun _ _ => []
noncomputable def O_zar : List (Nat × LD) := [(0, DL_zar_0)]
noncomputable def C_zar : Code := (f4.body).getD .skip
end Go.Proofs.YtlmbhkmaflhagaaGreat
