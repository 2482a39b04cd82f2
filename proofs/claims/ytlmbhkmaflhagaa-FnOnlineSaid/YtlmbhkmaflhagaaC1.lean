import Derived.Test.YtlmbhkmaflhagaaC3
import Derived.Test.YtlmbhkmaflhagaaProg
namespace Go.Proofs.Ytlmbhkmaflhagaa
open Go.Proofs.Try
noncomputable def T_zal (a1_ : Int) : Tr (Int) :=
 .c (Int) (F_zam a1_) fun r1_ =>
 .l r1_
noncomputable def F_zal (a1_ : Int) : Option (Int) := (T_zal a1_).ev
noncomputable def A_zal : Sh := (.cons (.dat (.int .u64)) .nil)
noncomputable def I_zal : List (Nat × OSh) := []
noncomputable def K_zal : RetK := { acts := [], res := [.tmp 2], sh := (.cons (.dat yi) .nil), obs := [], pins := [] }
noncomputable def D_zal : FD := ⟨A_zal, I_zal, [], Int, fun x => F_zal x.1.1, fun r => ([.dat yi r], [])⟩
noncomputable def E_zal : Env := envOf [(204, D_zam)]
noncomputable def Z_zal : Nat → Nat → List Nat := fun _ _ => []
noncomputable def O_zal : List (Nat × LD) := []
noncomputable def C_zal : Code := (f185.body).getD .skip
noncomputable def S_zav_2 (k : Int × (Int × (((HL [y1, y1] → Option (Int))) × Int))) (v : Int × Y2) : Tr ((Int × Y2) ⊕ Y2) :=
 .t (decide (k.1 < v.1))
 (.g (inR v.1 (List.length v.2)) <|
 .g (decide ((Int.toNat v.1) < List.length v.2)) <|
 .g (inR (IntKind.wrap .i64 (v.1 - (1 : Int))) (List.length v.2)) <|
 .g (decide ((Int.toNat (IntKind.wrap .i64 (v.1 - (1 : Int)))) < List.length v.2)) <|
 .c (Int) (k.2.2.1 ((List.getD v.2 (Int.toNat v.1) ([] : Y1)), ((List.getD v.2 (Int.toNat (IntKind.wrap .i64 (v.1 - (1 : Int)))) ([] : Y1)), ()))) fun r12_ =>
 .t (decide (r12_ < (0 : Int)))
 (.g (inR (IntKind.wrap .i64 (v.1 - (1 : Int))) (List.length v.2)) <|
 .g (decide ((Int.toNat (IntKind.wrap .i64 (v.1 - (1 : Int)))) < List.length v.2)) <|
 .g (inR v.1 (List.length v.2)) <|
 .g (decide ((Int.toNat v.1) < List.length v.2)) <|
 .g (inR v.1 (List.length v.2)) <|
 .g (decide ((Int.toNat v.1) < List.length v.2)) <|
 .g (inR (IntKind.wrap .i64 (v.1 - (1 : Int))) (List.length (List.set v.2 (Int.toNat v.1) (List.getD v.2 (Int.toNat (IntKind.wrap .i64 (v.1 - (1 : Int)))) ([] : Y1))))) <|
 .g (decide ((Int.toNat (IntKind.wrap .i64 (v.1 - (1 : Int)))) < List.length (List.set v.2 (Int.toNat v.1) (List.getD v.2 (Int.toNat (IntKind.wrap .i64 (v.1 - (1 : Int)))) ([] : Y1))))) <|
 .l (.inl ((IntKind.wrap .i64 (v.1 - (1 : Int))), (List.set (List.set v.2 (Int.toNat v.1) (List.getD v.2 (Int.toNat (IntKind.wrap .i64 (v.1 - (1 : Int)))) ([] : Y1))) (Int.toNat (IntKind.wrap .i64 (v.1 - (1 : Int)))) (List.getD v.2 (Int.toNat v.1) ([] : Y1))))))
 (.l (.inr v.2)))
 (.l (.inr v.2))
noncomputable def L_zav_2 (k : Int × (Int × (((HL [y1, y1] → Option (Int))) × Int))) (v : Int × Y2) : Option Y2 := iter (fun v => (S_zav_2 k v).ev) v
noncomputable def DL_zav_2 : LD := ⟨{ acts := [], S := { slots := [0, 1, 2, 3, 8, 9], sh := (.cons (.arr 64) (.cons (.dat yi) (.cons (.dat yi) (.cons (.clo [y1, y1] yi) (.cons (.dat yi) (.cons (.dat yi) .nil)))))), obs := [(64, .arr 22 y1)] } }, [(2, { acts := [], S := { slots := [0, 1, 2, 3, 8], sh := (.cons (.arr 64) (.cons (.dat yi) (.cons (.dat yi) (.cons (.clo [y1, y1] yi) (.cons (.dat yi) .nil))))), obs := [(64, .arr 22 y1)] } })], (yh [] .nil), Int × (Int × (((HL [y1, y1] → Option (Int))) × Int)), Int × Y2, List Y1, fun k v => (((), (k.1, (k.2.1, (k.2.2.1, (k.2.2.2, (v.1, ())))))), (v.2, ())), fun t => (t.1.2.1, (t.1.2.2.1, (t.1.2.2.2.1, t.1.2.2.2.2.1))), fun t => (t.1.2.2.2.2.2.1, t.2.1), S_zav_2, fun k r => .l (.exit 2 (mkSt ({ slots := [0, 1, 2, 3, 8], sh := (.cons (.arr 64) (.cons (.dat yi) (.cons (.dat yi) (.cons (.clo [y1, y1] yi) (.cons (.dat yi) .nil))))), obs := [(64, .arr 22 y1)] }) (((), (k.1, (k.2.1, (k.2.2.1, (k.2.2.2, ()))))), (r, ()))))⟩
noncomputable def S_zav_0 (k : Int × (Int × ((HL [y1, y1] → Option (Int))))) (v : Int × Y2) : Tr ((Int × Y2) ⊕ Y2) :=
 .t (decide (v.1 < k.2.1))
 (.c Y2 (L_zav_2 (k.1, (k.2.1, (k.2.2, v.1))) (v.1, v.2)) fun r18_ =>
 .l (.inl ((IntKind.wrap .i64 (v.1 + (1 : Int))), r18_)))
 (.l (.inr v.2))
noncomputable def L_zav_0 (k : Int × (Int × ((HL [y1, y1] → Option (Int))))) (v : Int × Y2) : Option Y2 := iter (fun v => (S_zav_0 k v).ev) v
noncomputable def DL_zav_0 : LD := ⟨{ acts := [], S := { slots := [0, 1, 2, 3, 8], sh := (.cons (.arr 64) (.cons (.dat yi) (.cons (.dat yi) (.cons (.clo [y1, y1] yi) (.cons (.dat yi) .nil))))), obs := [(64, .arr 22 y1)] } }, [(0, { acts := [], S := { slots := [0], sh := (.cons (.arr 64) .nil), obs := [(64, .arr 22 y1)] } })], (yh [] .nil), Int × (Int × ((HL [y1, y1] → Option (Int)))), Int × Y2, List Y1, fun k v => (((), (k.1, (k.2.1, (k.2.2, (v.1, ()))))), (v.2, ())), fun t => (t.1.2.1, (t.1.2.2.1, t.1.2.2.2.1)), fun t => (t.1.2.2.2.2.1, t.2.1), S_zav_0, fun _ r => .l (.exit 0 (mkSt ({ slots := [0], sh := (.cons (.arr 64) .nil), obs := [(64, .arr 22 y1)] }) (((), ()), (r, ()))))⟩
noncomputable def T_zav (a2_ : Int) (a3_ : Int) (a4_ : (HL [y1, y1] → Option (Int))) (a1_ : List Y1) : Tr Y2 :=
 .c Y2 (L_zav_0 (a2_, (a3_, a4_)) ((IntKind.wrap .i64 (a2_ + (1 : Int))), a1_)) fun r20_ =>
 .l r20_
noncomputable def F_zav (a2_ : Int) (a3_ : Int) (a4_ : (HL [y1, y1] → Option (Int))) (a1_ : List Y1) : Option Y2 := (T_zav a2_ a3_ a4_ a1_).ev
noncomputable def A_zav : Sh := (.cons (.arr 64) (.cons (.dat yi) (.cons (.dat yi) (.cons (.clo [y1, y1] yi) .nil))))
noncomputable def I_zav : List (Nat × OSh) := [(64, .arr 22 y1)]
noncomputable def K_zav : RetK := { acts := [], res := [], sh := .nil, obs := [(64, .arr 22 y1)], pins := [(0, 0, 64)] }
noncomputable def D_zav : FD := ⟨A_zav, I_zav, [.arg 0], List Y1, fun x => F_zav x.1.2.1 x.1.2.2.1 x.1.2.2.2.1 x.2.1, fun r => ([], [(64, .arr 22 y1 r)])⟩
noncomputable def E_zav : Env := envOf []
noncomputable def Z_zav : Nat → Nat → List Nat := fun _ _ => []
noncomputable def O_zav : List (Nat × LD) := [(2, DL_zav_2), (0, DL_zav_0)]
noncomputable def C_zav : Code := (f205.body).getD .skip
noncomputable def T_zay (a1_ : Int) : Tr (Int) :=
 .c (Int) (F_zal (IntKind.wrap .u64 a1_)) fun r1_ =>
 .g (decide ((0 : Int) ≤ r1_)) <|
 .l (IntKind.wrap .u64 ((1 : Int) * 2 ^ (min (Int.toNat r1_) (IntKind.bits .u64))))
noncomputable def F_zay (a1_ : Int) : Option (Int) := (T_zay a1_).ev
noncomputable def A_zay : Sh := (.cons (.dat yi) .nil)
noncomputable def I_zay : List (Nat × OSh) := []
noncomputable def K_zay : RetK := { acts := [], res := [.tmp 2], sh := (.cons (.dat (.int .u64)) .nil), obs := [], pins := [] }
noncomputable def D_zay : FD := ⟨A_zay, I_zay, [], Int, fun x => F_zay x.1.1, fun r => ([.dat (.int .u64) r], [])⟩
noncomputable def E_zay : Env := envOf [(185, D_zal)]
noncomputable def Z_zay : Nat → Nat → List Nat := fun _ _ => []
noncomputable def O_zay : List (Nat × LD) := []
noncomputable def C_zay : Code := (f220.body).getD .skip
noncomputable def T_zbc (a1_ : Int) : Tr (Int × Int) :=
 .g (decide ((0 : Int) ≤ (13 : Int))) <|
 .g (decide ((0 : Int) ≤ (7 : Int))) <|
 .g (decide ((0 : Int) ≤ (17 : Int))) <|
 .l ((IntKind.wrap .u64 (BitVec.toNat ((BitVec.ofInt (IntKind.bits .u64) (IntKind.wrap .u64 (BitVec.toNat ((BitVec.ofInt (IntKind.bits .u64) (IntKind.wrap .u64 (BitVec.toNat ((BitVec.ofInt (IntKind.bits .u64) a1_) ^^^ (BitVec.ofInt (IntKind.bits .u64) (IntKind.wrap .u64 (a1_ * 2 ^ (min (Int.toNat (13 : Int)) (IntKind.bits .u64))))))))) ^^^ (BitVec.ofInt (IntKind.bits .u64) (Int.fdiv (IntKind.wrap .u64 (BitVec.toNat ((BitVec.ofInt (IntKind.bits .u64) a1_) ^^^ (BitVec.ofInt (IntKind.bits .u64) (IntKind.wrap .u64 (a1_ * 2 ^ (min (Int.toNat (13 : Int)) (IntKind.bits .u64)))))))) (2 ^ (min (Int.toNat (7 : Int)) (IntKind.bits .u64))))))))) ^^^ (BitVec.ofInt (IntKind.bits .u64) (IntKind.wrap .u64 ((IntKind.wrap .u64 (BitVec.toNat ((BitVec.ofInt (IntKind.bits .u64) (IntKind.wrap .u64 (BitVec.toNat ((BitVec.ofInt (IntKind.bits .u64) a1_) ^^^ (BitVec.ofInt (IntKind.bits .u64) (IntKind.wrap .u64 (a1_ * 2 ^ (min (Int.toNat (13 : Int)) (IntKind.bits .u64))))))))) ^^^ (BitVec.ofInt (IntKind.bits .u64) (Int.fdiv (IntKind.wrap .u64 (BitVec.toNat ((BitVec.ofInt (IntKind.bits .u64) a1_) ^^^ (BitVec.ofInt (IntKind.bits .u64) (IntKind.wrap .u64 (a1_ * 2 ^ (min (Int.toNat (13 : Int)) (IntKind.bits .u64)))))))) (2 ^ (min (Int.toNat (7 : Int)) (IntKind.bits .u64)))))))) * 2 ^ (min (Int.toNat (17 : Int)) (IntKind.bits .u64)))))))), (IntKind.wrap .u64 (BitVec.toNat ((BitVec.ofInt (IntKind.bits .u64) (IntKind.wrap .u64 (BitVec.toNat ((BitVec.ofInt (IntKind.bits .u64) (IntKind.wrap .u64 (BitVec.toNat ((BitVec.ofInt (IntKind.bits .u64) a1_) ^^^ (BitVec.ofInt (IntKind.bits .u64) (IntKind.wrap .u64 (a1_ * 2 ^ (min (Int.toNat (13 : Int)) (IntKind.bits .u64))))))))) ^^^ (BitVec.ofInt (IntKind.bits .u64) (Int.fdiv (IntKind.wrap .u64 (BitVec.toNat ((BitVec.ofInt (IntKind.bits .u64) a1_) ^^^ (BitVec.ofInt (IntKind.bits .u64) (IntKind.wrap .u64 (a1_ * 2 ^ (min (Int.toNat (13 : Int)) (IntKind.bits .u64)))))))) (2 ^ (min (Int.toNat (7 : Int)) (IntKind.bits .u64))))))))) ^^^ (BitVec.ofInt (IntKind.bits .u64) (IntKind.wrap .u64 ((IntKind.wrap .u64 (BitVec.toNat ((BitVec.ofInt (IntKind.bits .u64) (IntKind.wrap .u64 (BitVec.toNat ((BitVec.ofInt (IntKind.bits .u64) a1_) ^^^ (BitVec.ofInt (IntKind.bits .u64) (IntKind.wrap .u64 (a1_ * 2 ^ (min (Int.toNat (13 : Int)) (IntKind.bits .u64))))))))) ^^^ (BitVec.ofInt (IntKind.bits .u64) (Int.fdiv (IntKind.wrap .u64 (BitVec.toNat ((BitVec.ofInt (IntKind.bits .u64) a1_) ^^^ (BitVec.ofInt (IntKind.bits .u64) (IntKind.wrap .u64 (a1_ * 2 ^ (min (Int.toNat (13 : Int)) (IntKind.bits .u64)))))))) (2 ^ (min (Int.toNat (7 : Int)) (IntKind.bits .u64)))))))) * 2 ^ (min (Int.toNat (17 : Int)) (IntKind.bits .u64)))))))))
noncomputable def F_zbc (a1_ : Int) : Option (Int × Int) := (T_zbc a1_).ev
noncomputable def A_zbc : Sh := (.cons (.box 64 0) .nil)
noncomputable def I_zbc : List (Nat × OSh) := [(64, .cells (.cons (.dat (.int .u64)) .nil))]
noncomputable def K_zbc : RetK := { acts := [], res := [.tmp 2], sh := (.cons (.dat (.int .u64)) .nil), obs := [(64, .cells (.cons (.dat (.int .u64)) .nil))], pins := [(0, 0, 64)] }
noncomputable def D_zbc : FD := ⟨A_zbc, I_zbc, [.arg 0], Int × (Int), fun x => F_zbc x.2.1.1, fun r => ([.dat (.int .u64) r.1], [(64, .cells [.dat (.int .u64) r.2])])⟩
noncomputable def E_zbc : Env := envOf []
noncomputable def Z_zbc : Nat → Nat → List Nat := fun _ _ => []
noncomputable def O_zbc : List (Nat × LD) := []
noncomputable def C_zbc : Code := (f221.body).getD .skip
noncomputable def S_zat_0 (k : Int × (Int × Int)) (v : Int × (Y2 × Int)) : Tr ((Int × (Y2 × Int)) ⊕ Y2) :=
 .g (!decide ((4 : Int) = 0)) <|
 .t (decide (v.1 ≤ (IntKind.wrap .i64 ((IntKind.wrap .i64 (k.1 + (IntKind.wrap .i64 ((IntKind.wrap .i64 (Int.tdiv k.2.1 (4 : Int))) * (2 : Int))))) + (1 : Int)))))
 (.c (Int × Int) (F_zbc v.2.2) fun r8_ =>
 .t (decide (k.2.1 ≤ (IntKind.wrap .i64 (IntKind.wrap .u64 (BitVec.toNat ((BitVec.ofInt (IntKind.bits .u64) r8_.1) &&& (BitVec.ofInt (IntKind.bits .u64) (IntKind.wrap .u64 (k.2.2 - (1 : Int))))))))))
 (.g (inR (IntKind.wrap .i64 (k.1 + (IntKind.wrap .i64 ((IntKind.wrap .i64 (IntKind.wrap .u64 (BitVec.toNat ((BitVec.ofInt (IntKind.bits .u64) r8_.1) &&& (BitVec.ofInt (IntKind.bits .u64) (IntKind.wrap .u64 (k.2.2 - (1 : Int)))))))) - k.2.1)))) (List.length v.2.1)) <|
 .g (decide ((Int.toNat (IntKind.wrap .i64 (k.1 + (IntKind.wrap .i64 ((IntKind.wrap .i64 (IntKind.wrap .u64 (BitVec.toNat ((BitVec.ofInt (IntKind.bits .u64) r8_.1) &&& (BitVec.ofInt (IntKind.bits .u64) (IntKind.wrap .u64 (k.2.2 - (1 : Int)))))))) - k.2.1))))) < List.length v.2.1)) <|
 .g (inR v.1 (List.length v.2.1)) <|
 .g (decide ((Int.toNat v.1) < List.length v.2.1)) <|
 .g (inR v.1 (List.length v.2.1)) <|
 .g (decide ((Int.toNat v.1) < List.length v.2.1)) <|
 .g (inR (IntKind.wrap .i64 (k.1 + (IntKind.wrap .i64 ((IntKind.wrap .i64 (IntKind.wrap .u64 (BitVec.toNat ((BitVec.ofInt (IntKind.bits .u64) r8_.1) &&& (BitVec.ofInt (IntKind.bits .u64) (IntKind.wrap .u64 (k.2.2 - (1 : Int)))))))) - k.2.1)))) (List.length (List.set v.2.1 (Int.toNat v.1) (List.getD v.2.1 (Int.toNat (IntKind.wrap .i64 (k.1 + (IntKind.wrap .i64 ((IntKind.wrap .i64 (IntKind.wrap .u64 (BitVec.toNat ((BitVec.ofInt (IntKind.bits .u64) r8_.1) &&& (BitVec.ofInt (IntKind.bits .u64) (IntKind.wrap .u64 (k.2.2 - (1 : Int)))))))) - k.2.1))))) ([] : Y1))))) <|
 .g (decide ((Int.toNat (IntKind.wrap .i64 (k.1 + (IntKind.wrap .i64 ((IntKind.wrap .i64 (IntKind.wrap .u64 (BitVec.toNat ((BitVec.ofInt (IntKind.bits .u64) r8_.1) &&& (BitVec.ofInt (IntKind.bits .u64) (IntKind.wrap .u64 (k.2.2 - (1 : Int)))))))) - k.2.1))))) < List.length (List.set v.2.1 (Int.toNat v.1) (List.getD v.2.1 (Int.toNat (IntKind.wrap .i64 (k.1 + (IntKind.wrap .i64 ((IntKind.wrap .i64 (IntKind.wrap .u64 (BitVec.toNat ((BitVec.ofInt (IntKind.bits .u64) r8_.1) &&& (BitVec.ofInt (IntKind.bits .u64) (IntKind.wrap .u64 (k.2.2 - (1 : Int)))))))) - k.2.1))))) ([] : Y1))))) <|
 .l (.inl ((IntKind.wrap .i64 (v.1 + (1 : Int))), ((List.set (List.set v.2.1 (Int.toNat v.1) (List.getD v.2.1 (Int.toNat (IntKind.wrap .i64 (k.1 + (IntKind.wrap .i64 ((IntKind.wrap .i64 (IntKind.wrap .u64 (BitVec.toNat ((BitVec.ofInt (IntKind.bits .u64) r8_.1) &&& (BitVec.ofInt (IntKind.bits .u64) (IntKind.wrap .u64 (k.2.2 - (1 : Int)))))))) - k.2.1))))) ([] : Y1))) (Int.toNat (IntKind.wrap .i64 (k.1 + (IntKind.wrap .i64 ((IntKind.wrap .i64 (IntKind.wrap .u64 (BitVec.toNat ((BitVec.ofInt (IntKind.bits .u64) r8_.1) &&& (BitVec.ofInt (IntKind.bits .u64) (IntKind.wrap .u64 (k.2.2 - (1 : Int)))))))) - k.2.1))))) (List.getD v.2.1 (Int.toNat v.1) ([] : Y1))), r8_.2))))
 (.g (inR (IntKind.wrap .i64 (k.1 + (IntKind.wrap .i64 (IntKind.wrap .u64 (BitVec.toNat ((BitVec.ofInt (IntKind.bits .u64) r8_.1) &&& (BitVec.ofInt (IntKind.bits .u64) (IntKind.wrap .u64 (k.2.2 - (1 : Int)))))))))) (List.length v.2.1)) <|
 .g (decide ((Int.toNat (IntKind.wrap .i64 (k.1 + (IntKind.wrap .i64 (IntKind.wrap .u64 (BitVec.toNat ((BitVec.ofInt (IntKind.bits .u64) r8_.1) &&& (BitVec.ofInt (IntKind.bits .u64) (IntKind.wrap .u64 (k.2.2 - (1 : Int))))))))))) < List.length v.2.1)) <|
 .g (inR v.1 (List.length v.2.1)) <|
 .g (decide ((Int.toNat v.1) < List.length v.2.1)) <|
 .g (inR v.1 (List.length v.2.1)) <|
 .g (decide ((Int.toNat v.1) < List.length v.2.1)) <|
 .g (inR (IntKind.wrap .i64 (k.1 + (IntKind.wrap .i64 (IntKind.wrap .u64 (BitVec.toNat ((BitVec.ofInt (IntKind.bits .u64) r8_.1) &&& (BitVec.ofInt (IntKind.bits .u64) (IntKind.wrap .u64 (k.2.2 - (1 : Int)))))))))) (List.length (List.set v.2.1 (Int.toNat v.1) (List.getD v.2.1 (Int.toNat (IntKind.wrap .i64 (k.1 + (IntKind.wrap .i64 (IntKind.wrap .u64 (BitVec.toNat ((BitVec.ofInt (IntKind.bits .u64) r8_.1) &&& (BitVec.ofInt (IntKind.bits .u64) (IntKind.wrap .u64 (k.2.2 - (1 : Int))))))))))) ([] : Y1))))) <|
 .g (decide ((Int.toNat (IntKind.wrap .i64 (k.1 + (IntKind.wrap .i64 (IntKind.wrap .u64 (BitVec.toNat ((BitVec.ofInt (IntKind.bits .u64) r8_.1) &&& (BitVec.ofInt (IntKind.bits .u64) (IntKind.wrap .u64 (k.2.2 - (1 : Int))))))))))) < List.length (List.set v.2.1 (Int.toNat v.1) (List.getD v.2.1 (Int.toNat (IntKind.wrap .i64 (k.1 + (IntKind.wrap .i64 (IntKind.wrap .u64 (BitVec.toNat ((BitVec.ofInt (IntKind.bits .u64) r8_.1) &&& (BitVec.ofInt (IntKind.bits .u64) (IntKind.wrap .u64 (k.2.2 - (1 : Int))))))))))) ([] : Y1))))) <|
 .l (.inl ((IntKind.wrap .i64 (v.1 + (1 : Int))), ((List.set (List.set v.2.1 (Int.toNat v.1) (List.getD v.2.1 (Int.toNat (IntKind.wrap .i64 (k.1 + (IntKind.wrap .i64 (IntKind.wrap .u64 (BitVec.toNat ((BitVec.ofInt (IntKind.bits .u64) r8_.1) &&& (BitVec.ofInt (IntKind.bits .u64) (IntKind.wrap .u64 (k.2.2 - (1 : Int))))))))))) ([] : Y1))) (Int.toNat (IntKind.wrap .i64 (k.1 + (IntKind.wrap .i64 (IntKind.wrap .u64 (BitVec.toNat ((BitVec.ofInt (IntKind.bits .u64) r8_.1) &&& (BitVec.ofInt (IntKind.bits .u64) (IntKind.wrap .u64 (k.2.2 - (1 : Int))))))))))) (List.getD v.2.1 (Int.toNat v.1) ([] : Y1))), r8_.2)))))
 (.l (.inr v.2.1))
noncomputable def L_zat_0 (k : Int × (Int × Int)) (v : Int × (Y2 × Int)) : Option Y2 := iter (fun v => (S_zat_0 k v).ev) v
noncomputable def DL_zat_0 : LD := ⟨{ acts := [], S := { slots := [0, 1, 8, 9, 10, 11], sh := (.cons (.arr 64) (.cons (.dat yi) (.cons (.dat yi) (.cons (.box 9 0) (.cons (.dat (.int .u64)) (.cons (.dat yi) .nil)))))), obs := [(64, .arr 22 y1), (9, .cells (.cons (.dat (.int .u64)) .nil))] } }, [(0, { acts := [], S := { slots := [0], sh := (.cons (.arr 64) .nil), obs := [(64, .arr 22 y1)] } })], (yh [] .nil), Int × (Int × Int), Int × (Y2 × Int), List Y1, fun k v => (((), (k.1, (k.2.1, ((), (k.2.2, (v.1, ())))))), (v.2.1, ((v.2.2, ()), ()))), fun t => (t.1.2.1, (t.1.2.2.1, t.1.2.2.2.2.1)), fun t => (t.1.2.2.2.2.2.1, (t.2.1, t.2.2.1.1)), S_zat_0, fun _ r => .l (.exit 0 (mkSt ({ slots := [0], sh := (.cons (.arr 64) .nil), obs := [(64, .arr 22 y1)] }) (((), ()), (r, ()))))⟩
noncomputable def T_zat (a2_ : Int) (a3_ : Int) (_a4_ : (HL [y1, y1] → Option (Int))) (a1_ : List Y1) : Tr Y2 :=
 .t (decide ((8 : Int) ≤ (IntKind.wrap .i64 (a3_ - a2_))))
 (.c (Int) (F_zay (IntKind.wrap .i64 (a3_ - a2_))) fun r1_ =>
 .g (!decide ((4 : Int) = 0)) <|
 .c Y2 (L_zat_0 (a2_, ((IntKind.wrap .i64 (a3_ - a2_)), r1_)) ((IntKind.wrap .i64 ((IntKind.wrap .i64 (a2_ + (IntKind.wrap .i64 ((IntKind.wrap .i64 (Int.tdiv (IntKind.wrap .i64 (a3_ - a2_)) (4 : Int))) * (2 : Int))))) - (1 : Int))), (a1_, (IntKind.wrap .u64 (IntKind.wrap .i64 (a3_ - a2_)))))) fun r10_ =>
 .l r10_)
 (.l a1_)
noncomputable def F_zat (a2_ : Int) (a3_ : Int) (a4_ : (HL [y1, y1] → Option (Int))) (a1_ : List Y1) : Option Y2 := (T_zat a2_ a3_ a4_ a1_).ev
noncomputable def A_zat : Sh := (.cons (.arr 64) (.cons (.dat yi) (.cons (.dat yi) (.cons (.clo [y1, y1] yi) .nil))))
noncomputable def I_zat : List (Nat × OSh) := [(64, .arr 22 y1)]
noncomputable def K_zat : RetK := { acts := [], res := [], sh := .nil, obs := [(64, .arr 22 y1)], pins := [(0, 0, 64)] }
noncomputable def D_zat : FD := ⟨A_zat, I_zat, [.arg 0], List Y1, fun x => F_zat x.1.2.1 x.1.2.2.1 x.1.2.2.2.1 x.2.1, fun r => ([], [(64, .arr 22 y1 r)])⟩
noncomputable def E_zat : Env := envOf [(220, D_zay), (221, D_zbc)]
noncomputable def Z_zat : Nat → Nat → List Nat := fun _ _ => []
noncomputable def O_zat : List (Nat × LD) := [(0, DL_zat_0)]
noncomputable def C_zat : Code := (f207.body).getD .skip
noncomputable def T_zaz (a1_ : List Y1) (a2_ : Int) (a3_ : Int) (a5_ : (HL [y1, y1] → Option (Int))) (a4_ : Int) : Tr (Int × (Int × Int)) :=
 .g (inR a3_ (List.length a1_)) <|
 .g (inR a2_ (List.length a1_)) <|
 .c (Int) (a5_ ((List.getD a1_ (Int.toNat a3_) ([] : Y1)), ((List.getD a1_ (Int.toNat a2_) ([] : Y1)), ()))) fun r1_ =>
 .t (decide (r1_ < (0 : Int)))
 (.l (a3_, (a2_, (IntKind.wrap .i64 (a4_ + (1 : Int))))))
 (.l (a2_, (a3_, a4_)))
noncomputable def F_zaz (a1_ : List Y1) (a2_ : Int) (a3_ : Int) (a5_ : (HL [y1, y1] → Option (Int))) (a4_ : Int) : Option (Int × (Int × Int)) := (T_zaz a1_ a2_ a3_ a5_ a4_).ev
noncomputable def A_zaz : Sh := (.cons (.dat y2) (.cons (.dat yi) (.cons (.dat yi) (.cons (.box 64 0) (.cons (.clo [y1, y1] yi) .nil)))))
noncomputable def I_zaz : List (Nat × OSh) := [(64, .cells (.cons (.dat yi) .nil))]
noncomputable def K_zaz : RetK := { acts := [], res := [.tmp 10, .tmp 11], sh := (.cons (.dat yi) (.cons (.dat yi) .nil)), obs := [(64, .cells (.cons (.dat yi) .nil))], pins := [(3, 0, 64)] }
noncomputable def D_zaz : FD := ⟨A_zaz, I_zaz, [.arg 3], Int × (Int × Int), fun x => F_zaz x.1.1 x.1.2.1 x.1.2.2.1 x.1.2.2.2.2.1 x.2.1.1, fun r => ([.dat yi r.1, .dat yi r.2.1], [(64, .cells [.dat yi r.2.2])])⟩
noncomputable def E_zaz : Env := envOf []
noncomputable def Z_zaz : Nat → Nat → List Nat := fun _ _ => []
noncomputable def O_zaz : List (Nat × LD) := []
noncomputable def C_zaz : Code := (f233.body).getD .skip
noncomputable def T_zax (a1_ : List Y1) (a2_ : Int) (a3_ : Int) (a4_ : Int) (a6_ : (HL [y1, y1] → Option (Int))) (a5_ : Int) : Tr (Int × Int) :=
 .c (Int × (Int × Int)) (F_zaz a1_ a2_ a3_ a6_ a5_) fun r1_ =>
 .c (Int × (Int × Int)) (F_zaz a1_ r1_.2.1 a4_ a6_ r1_.2.2) fun r2_ =>
 .c (Int × (Int × Int)) (F_zaz a1_ r1_.1 r2_.1 a6_ r2_.2.2) fun r3_ =>
 .l (r3_.2.1, r3_.2.2)
noncomputable def F_zax (a1_ : List Y1) (a2_ : Int) (a3_ : Int) (a4_ : Int) (a6_ : (HL [y1, y1] → Option (Int))) (a5_ : Int) : Option (Int × Int) := (T_zax a1_ a2_ a3_ a4_ a6_ a5_).ev
noncomputable def A_zax : Sh := (.cons (.dat y2) (.cons (.dat yi) (.cons (.dat yi) (.cons (.dat yi) (.cons (.box 64 0) (.cons (.clo [y1, y1] yi) .nil))))))
noncomputable def I_zax : List (Nat × OSh) := [(64, .cells (.cons (.dat yi) .nil))]
noncomputable def K_zax : RetK := { acts := [], res := [.tmp 12], sh := (.cons (.dat yi) .nil), obs := [(64, .cells (.cons (.dat yi) .nil))], pins := [(4, 0, 64)] }
noncomputable def D_zax : FD := ⟨A_zax, I_zax, [.arg 4], Int × (Int), fun x => F_zax x.1.1 x.1.2.1 x.1.2.2.1 x.1.2.2.2.1 x.1.2.2.2.2.2.1 x.2.1.1, fun r => ([.dat yi r.1], [(64, .cells [.dat yi r.2])])⟩
noncomputable def E_zax : Env := envOf [(233, D_zaz)]
noncomputable def Z_zax : Nat → Nat → List Nat := fun _ _ => []
noncomputable def O_zax : List (Nat × LD) := []
noncomputable def C_zax : Code := (f226.body).getD .skip
noncomputable def T_zaw (a1_ : List Y1) (a2_ : Int) (a4_ : (HL [y1, y1] → Option (Int))) (a3_ : Int) : Tr (Int × Int) :=
 .c (Int × Int) (F_zax a1_ (IntKind.wrap .i64 (a2_ - (1 : Int))) a2_ (IntKind.wrap .i64 (a2_ + (1 : Int))) a4_ a3_) fun r1_ =>
 .l (r1_.1, r1_.2)
noncomputable def F_zaw (a1_ : List Y1) (a2_ : Int) (a4_ : (HL [y1, y1] → Option (Int))) (a3_ : Int) : Option (Int × Int) := (T_zaw a1_ a2_ a4_ a3_).ev
noncomputable def A_zaw : Sh := (.cons (.dat y2) (.cons (.dat yi) (.cons (.box 64 0) (.cons (.clo [y1, y1] yi) .nil))))
noncomputable def I_zaw : List (Nat × OSh) := [(64, .cells (.cons (.dat yi) .nil))]
noncomputable def K_zaw : RetK := { acts := [], res := [.tmp 8], sh := (.cons (.dat yi) .nil), obs := [(64, .cells (.cons (.dat yi) .nil))], pins := [(2, 0, 64)] }
noncomputable def D_zaw : FD := ⟨A_zaw, I_zaw, [.arg 2], Int × (Int), fun x => F_zaw x.1.1 x.1.2.1 x.1.2.2.2.1 x.2.1.1, fun r => ([.dat yi r.1], [(64, .cells [.dat yi r.2])])⟩
noncomputable def E_zaw : Env := envOf [(226, D_zax)]
noncomputable def Z_zaw : Nat → Nat → List Nat := fun _ _ => []
noncomputable def O_zaw : List (Nat × LD) := []
noncomputable def C_zaw : Code := (f225.body).getD .skip
noncomputable def T_zau (a1_ : List Y1) (a2_ : Int) (a3_ : Int) (a4_ : (HL [y1, y1] → Option (Int))) : Tr (Int × Int) :=
 .g (!decide ((4 : Int) = 0)) <|
 .g (!decide ((4 : Int) = 0)) <|
 .g (!decide ((4 : Int) = 0)) <|
 .t (decide ((8 : Int) ≤ (IntKind.wrap .i64 (a3_ - a2_))))
 (.t (decide ((50 : Int) ≤ (IntKind.wrap .i64 (a3_ - a2_))))
 (.c (Int × Int) (F_zaw a1_ (IntKind.wrap .i64 (a2_ + (IntKind.wrap .i64 ((IntKind.wrap .i64 (Int.tdiv (IntKind.wrap .i64 (a3_ - a2_)) (4 : Int))) * (1 : Int))))) a4_ (0 : Int)) fun r1_ =>
 .c (Int × Int) (F_zaw a1_ (IntKind.wrap .i64 (a2_ + (IntKind.wrap .i64 ((IntKind.wrap .i64 (Int.tdiv (IntKind.wrap .i64 (a3_ - a2_)) (4 : Int))) * (2 : Int))))) a4_ r1_.2) fun r2_ =>
 .c (Int × Int) (F_zaw a1_ (IntKind.wrap .i64 (a2_ + (IntKind.wrap .i64 ((IntKind.wrap .i64 (Int.tdiv (IntKind.wrap .i64 (a3_ - a2_)) (4 : Int))) * (3 : Int))))) a4_ r2_.2) fun r3_ =>
 .c (Int × Int) (F_zax a1_ r1_.1 r2_.1 r3_.1 a4_ r3_.2) fun r4_ =>
 .t (r4_.2 == (0 : Int))
 (.l (r4_.1, (1 : Int)))
 (.t (r4_.2 == (12 : Int))
 (.l (r4_.1, (2 : Int)))
 (.l (r4_.1, (0 : Int)))))
 (.c (Int × Int) (F_zax a1_ (IntKind.wrap .i64 (a2_ + (IntKind.wrap .i64 ((IntKind.wrap .i64 (Int.tdiv (IntKind.wrap .i64 (a3_ - a2_)) (4 : Int))) * (1 : Int))))) (IntKind.wrap .i64 (a2_ + (IntKind.wrap .i64 ((IntKind.wrap .i64 (Int.tdiv (IntKind.wrap .i64 (a3_ - a2_)) (4 : Int))) * (2 : Int))))) (IntKind.wrap .i64 (a2_ + (IntKind.wrap .i64 ((IntKind.wrap .i64 (Int.tdiv (IntKind.wrap .i64 (a3_ - a2_)) (4 : Int))) * (3 : Int))))) a4_ (0 : Int)) fun r5_ =>
 .t (r5_.2 == (0 : Int))
 (.l (r5_.1, (1 : Int)))
 (.t (r5_.2 == (12 : Int))
 (.l (r5_.1, (2 : Int)))
 (.l (r5_.1, (0 : Int))))))
 (.t ((0 : Int) == (0 : Int))
 (.l ((IntKind.wrap .i64 (a2_ + (IntKind.wrap .i64 ((IntKind.wrap .i64 (Int.tdiv (IntKind.wrap .i64 (a3_ - a2_)) (4 : Int))) * (2 : Int))))), (1 : Int)))
 (.t ((0 : Int) == (12 : Int))
 (.l ((IntKind.wrap .i64 (a2_ + (IntKind.wrap .i64 ((IntKind.wrap .i64 (Int.tdiv (IntKind.wrap .i64 (a3_ - a2_)) (4 : Int))) * (2 : Int))))), (2 : Int)))
 (.l ((IntKind.wrap .i64 (a2_ + (IntKind.wrap .i64 ((IntKind.wrap .i64 (Int.tdiv (IntKind.wrap .i64 (a3_ - a2_)) (4 : Int))) * (2 : Int))))), (0 : Int)))))
noncomputable def F_zau (a1_ : List Y1) (a2_ : Int) (a3_ : Int) (a4_ : (HL [y1, y1] → Option (Int))) : Option (Int × Int) := (T_zau a1_ a2_ a3_ a4_).ev
noncomputable def A_zau : Sh := (.cons (.dat y2) (.cons (.dat yi) (.cons (.dat yi) (.cons (.clo [y1, y1] yi) .nil))))
noncomputable def I_zau : List (Nat × OSh) := []
noncomputable def K_zau : RetK := { acts := [], res := [.tmp 8, .tmp 9], sh := (.cons (.dat yi) (.cons (.dat yi) .nil)), obs := [], pins := [] }
noncomputable def D_zau : FD := ⟨A_zau, I_zau, [], Int × (Int), fun x => F_zau x.1.1 x.1.2.1 x.1.2.2.1 x.1.2.2.2.1, fun r => ([.dat yi r.1, .dat yi r.2], [])⟩
noncomputable def E_zau : Env := envOf [(225, D_zaw), (226, D_zax)]
noncomputable def Z_zau : Nat → Nat → List Nat := fun _ _ => []
noncomputable def O_zau : List (Nat × LD) := []
noncomputable def C_zau : Code := (f208.body).getD .skip
noncomputable def S_zba_0 (k : Int × (((HL [y1, y1] → Option (Int))) × (Int × Y2))) (v : Int) : Tr ((Int) ⊕ (Int)) :=
 .t (decide (v ≤ k.2.2.1))
 (.g (inR v (List.length k.2.2.2)) <|
 .g (decide ((Int.toNat v) < List.length k.2.2.2)) <|
 .g (inR k.1 (List.length k.2.2.2)) <|
 .g (decide ((Int.toNat k.1) < List.length k.2.2.2)) <|
 .c (Int) (k.2.1 ((List.getD k.2.2.2 (Int.toNat v) ([] : Y1)), ((List.getD k.2.2.2 (Int.toNat k.1) ([] : Y1)), ()))) fun r6_ =>
 .t (decide (r6_ < (0 : Int)))
 (.l (.inl (IntKind.wrap .i64 (v + (1 : Int)))))
 (.l (.inr v)))
 (.l (.inr v))
noncomputable def L_zba_0 (k : Int × (((HL [y1, y1] → Option (Int))) × (Int × Y2))) (v : Int) : Option (Int) := iter (fun v => (S_zba_0 k v).ev) v
noncomputable def DL_zba_0 : LD := ⟨{ acts := [], S := { slots := [0, 1, 4, 12, 13], sh := (.cons (.arr 64) (.cons (.dat yi) (.cons (.clo [y1, y1] yi) (.cons (.dat yi) (.cons (.dat yi) .nil))))), obs := [(64, .arr 22 y1)] } }, [(0, { acts := [], S := { slots := [0, 1, 4, 12, 13], sh := (.cons (.arr 64) (.cons (.dat yi) (.cons (.clo [y1, y1] yi) (.cons (.dat yi) (.cons (.dat yi) .nil))))), obs := [(64, .arr 22 y1)] } })], (yh [] .nil), Int × (((HL [y1, y1] → Option (Int))) × (Int × Y2)), Int, Int, fun k v => (((), (k.1, (k.2.1, (v, (k.2.2.1, ()))))), (k.2.2.2, ())), fun t => (t.1.2.1, (t.1.2.2.1, (t.1.2.2.2.2.1, t.2.1))), fun t => t.1.2.2.2.1, S_zba_0, fun k r => .l (.exit 0 (mkSt ({ slots := [0, 1, 4, 12, 13], sh := (.cons (.arr 64) (.cons (.dat yi) (.cons (.clo [y1, y1] yi) (.cons (.dat yi) (.cons (.dat yi) .nil))))), obs := [(64, .arr 22 y1)] }) (((), (k.1, (k.2.1, (r, (k.2.2.1, ()))))), (k.2.2.2, ()))))⟩
noncomputable def S_zba_2 (k : Int × (((HL [y1, y1] → Option (Int))) × (Int × Y2))) (v : Int) : Tr ((Int) ⊕ (Int)) :=
 .t (decide (k.2.2.1 ≤ v))
 (.g (inR v (List.length k.2.2.2)) <|
 .g (decide ((Int.toNat v) < List.length k.2.2.2)) <|
 .g (inR k.1 (List.length k.2.2.2)) <|
 .g (decide ((Int.toNat k.1) < List.length k.2.2.2)) <|
 .c (Int) (k.2.1 ((List.getD k.2.2.2 (Int.toNat v) ([] : Y1)), ((List.getD k.2.2.2 (Int.toNat k.1) ([] : Y1)), ()))) fun r18_ =>
 .t (!(decide (r18_ < (0 : Int))))
 (.l (.inl (IntKind.wrap .i64 (v - (1 : Int)))))
 (.l (.inr v)))
 (.l (.inr v))
noncomputable def L_zba_2 (k : Int × (((HL [y1, y1] → Option (Int))) × (Int × Y2))) (v : Int) : Option (Int) := iter (fun v => (S_zba_2 k v).ev) v
noncomputable def DL_zba_2 : LD := ⟨{ acts := [], S := { slots := [0, 1, 4, 12, 13], sh := (.cons (.arr 64) (.cons (.dat yi) (.cons (.clo [y1, y1] yi) (.cons (.dat yi) (.cons (.dat yi) .nil))))), obs := [(64, .arr 22 y1)] } }, [(2, { acts := [], S := { slots := [0, 1, 4, 12, 13], sh := (.cons (.arr 64) (.cons (.dat yi) (.cons (.clo [y1, y1] yi) (.cons (.dat yi) (.cons (.dat yi) .nil))))), obs := [(64, .arr 22 y1)] } })], (yh [] .nil), Int × (((HL [y1, y1] → Option (Int))) × (Int × Y2)), Int, Int, fun k v => (((), (k.1, (k.2.1, (k.2.2.1, (v, ()))))), (k.2.2.2, ())), fun t => (t.1.2.1, (t.1.2.2.1, (t.1.2.2.2.1, t.2.1))), fun t => t.1.2.2.2.2.1, S_zba_2, fun k r => .l (.exit 2 (mkSt ({ slots := [0, 1, 4, 12, 13], sh := (.cons (.arr 64) (.cons (.dat yi) (.cons (.clo [y1, y1] yi) (.cons (.dat yi) (.cons (.dat yi) .nil))))), obs := [(64, .arr 22 y1)] }) (((), (k.1, (k.2.1, (k.2.2.1, (r, ()))))), (k.2.2.2, ()))))⟩
noncomputable def S_zba_6 (k : Int × (((HL [y1, y1] → Option (Int))) × (Int × Y2))) (v : Int) : Tr ((Int) ⊕ (Int)) :=
 .t (decide (v ≤ k.2.2.1))
 (.g (inR v (List.length k.2.2.2)) <|
 .g (decide ((Int.toNat v) < List.length k.2.2.2)) <|
 .g (inR k.1 (List.length k.2.2.2)) <|
 .g (decide ((Int.toNat k.1) < List.length k.2.2.2)) <|
 .c (Int) (k.2.1 ((List.getD k.2.2.2 (Int.toNat v) ([] : Y1)), ((List.getD k.2.2.2 (Int.toNat k.1) ([] : Y1)), ()))) fun r35_ =>
 .t (decide (r35_ < (0 : Int)))
 (.l (.inl (IntKind.wrap .i64 (v + (1 : Int)))))
 (.l (.inr v)))
 (.l (.inr v))
noncomputable def L_zba_6 (k : Int × (((HL [y1, y1] → Option (Int))) × (Int × Y2))) (v : Int) : Option (Int) := iter (fun v => (S_zba_6 k v).ev) v
noncomputable def DL_zba_6 : LD := ⟨{ acts := [], S := { slots := [0, 1, 4, 12, 13], sh := (.cons (.arr 64) (.cons (.dat yi) (.cons (.clo [y1, y1] yi) (.cons (.dat yi) (.cons (.dat yi) .nil))))), obs := [(64, .arr 22 y1)] } }, [(6, { acts := [], S := { slots := [0, 1, 4, 12, 13], sh := (.cons (.arr 64) (.cons (.dat yi) (.cons (.clo [y1, y1] yi) (.cons (.dat yi) (.cons (.dat yi) .nil))))), obs := [(64, .arr 22 y1)] } })], (yh [] .nil), Int × (((HL [y1, y1] → Option (Int))) × (Int × Y2)), Int, Int, fun k v => (((), (k.1, (k.2.1, (v, (k.2.2.1, ()))))), (k.2.2.2, ())), fun t => (t.1.2.1, (t.1.2.2.1, (t.1.2.2.2.2.1, t.2.1))), fun t => t.1.2.2.2.1, S_zba_6, fun k r => .l (.exit 6 (mkSt ({ slots := [0, 1, 4, 12, 13], sh := (.cons (.arr 64) (.cons (.dat yi) (.cons (.clo [y1, y1] yi) (.cons (.dat yi) (.cons (.dat yi) .nil))))), obs := [(64, .arr 22 y1)] }) (((), (k.1, (k.2.1, (r, (k.2.2.1, ()))))), (k.2.2.2, ()))))⟩
noncomputable def S_zba_8 (k : Int × (((HL [y1, y1] → Option (Int))) × (Int × Y2))) (v : Int) : Tr ((Int) ⊕ (Int)) :=
 .t (decide (k.2.2.1 ≤ v))
 (.g (inR v (List.length k.2.2.2)) <|
 .g (decide ((Int.toNat v) < List.length k.2.2.2)) <|
 .g (inR k.1 (List.length k.2.2.2)) <|
 .g (decide ((Int.toNat k.1) < List.length k.2.2.2)) <|
 .c (Int) (k.2.1 ((List.getD k.2.2.2 (Int.toNat v) ([] : Y1)), ((List.getD k.2.2.2 (Int.toNat k.1) ([] : Y1)), ()))) fun r47_ =>
 .t (!(decide (r47_ < (0 : Int))))
 (.l (.inl (IntKind.wrap .i64 (v - (1 : Int)))))
 (.l (.inr v)))
 (.l (.inr v))
noncomputable def L_zba_8 (k : Int × (((HL [y1, y1] → Option (Int))) × (Int × Y2))) (v : Int) : Option (Int) := iter (fun v => (S_zba_8 k v).ev) v
noncomputable def DL_zba_8 : LD := ⟨{ acts := [], S := { slots := [0, 1, 4, 12, 13], sh := (.cons (.arr 64) (.cons (.dat yi) (.cons (.clo [y1, y1] yi) (.cons (.dat yi) (.cons (.dat yi) .nil))))), obs := [(64, .arr 22 y1)] } }, [(8, { acts := [], S := { slots := [0, 1, 4, 12, 13], sh := (.cons (.arr 64) (.cons (.dat yi) (.cons (.clo [y1, y1] yi) (.cons (.dat yi) (.cons (.dat yi) .nil))))), obs := [(64, .arr 22 y1)] } })], (yh [] .nil), Int × (((HL [y1, y1] → Option (Int))) × (Int × Y2)), Int, Int, fun k v => (((), (k.1, (k.2.1, (k.2.2.1, (v, ()))))), (k.2.2.2, ())), fun t => (t.1.2.1, (t.1.2.2.1, (t.1.2.2.2.1, t.2.1))), fun t => t.1.2.2.2.2.1, S_zba_8, fun k r => .l (.exit 8 (mkSt ({ slots := [0, 1, 4, 12, 13], sh := (.cons (.arr 64) (.cons (.dat yi) (.cons (.clo [y1, y1] yi) (.cons (.dat yi) (.cons (.dat yi) .nil))))), obs := [(64, .arr 22 y1)] }) (((), (k.1, (k.2.1, (k.2.2.1, (r, ()))))), (k.2.2.2, ()))))⟩
noncomputable def S_zba_4 (k : Int × ((HL [y1, y1] → Option (Int)))) (v : Int × (Int × Y2)) : Tr ((Int × (Int × Y2)) ⊕ (Int × Y2)) :=
 .c (Int) (L_zba_6 (k.1, (k.2, (v.2.1, v.2.2))) v.1) fun r41_ =>
 .c (Int) (L_zba_8 (k.1, (k.2, (r41_, v.2.2))) v.2.1) fun r53_ =>
 .t (decide (r53_ < r41_))
 (.l (.inr (r53_, v.2.2)))
 (.g (inR r53_ (List.length v.2.2)) <|
 .g (decide ((Int.toNat r53_) < List.length v.2.2)) <|
 .g (inR r41_ (List.length v.2.2)) <|
 .g (decide ((Int.toNat r41_) < List.length v.2.2)) <|
 .g (inR r41_ (List.length v.2.2)) <|
 .g (decide ((Int.toNat r41_) < List.length v.2.2)) <|
 .g (inR r53_ (List.length (List.set v.2.2 (Int.toNat r41_) (List.getD v.2.2 (Int.toNat r53_) ([] : Y1))))) <|
 .g (decide ((Int.toNat r53_) < List.length (List.set v.2.2 (Int.toNat r41_) (List.getD v.2.2 (Int.toNat r53_) ([] : Y1))))) <|
 .l (.inl ((IntKind.wrap .i64 (r41_ + (1 : Int))), ((IntKind.wrap .i64 (r53_ - (1 : Int))), (List.set (List.set v.2.2 (Int.toNat r41_) (List.getD v.2.2 (Int.toNat r53_) ([] : Y1))) (Int.toNat r53_) (List.getD v.2.2 (Int.toNat r41_) ([] : Y1)))))))
noncomputable def L_zba_4 (k : Int × ((HL [y1, y1] → Option (Int)))) (v : Int × (Int × Y2)) : Option (Int × Y2) := iter (fun v => (S_zba_4 k v).ev) v
noncomputable def DL_zba_4 : LD := ⟨{ acts := [], S := { slots := [0, 1, 4, 12, 13], sh := (.cons (.arr 64) (.cons (.dat yi) (.cons (.clo [y1, y1] yi) (.cons (.dat yi) (.cons (.dat yi) .nil))))), obs := [(64, .arr 22 y1)] } }, [(4, { acts := [], S := { slots := [0, 1, 13], sh := (.cons (.arr 64) (.cons (.dat yi) (.cons (.dat yi) .nil))), obs := [(64, .arr 22 y1)] } })], (yh [] .nil), Int × ((HL [y1, y1] → Option (Int))), Int × (Int × Y2), Int × Y2, fun k v => (((), (k.1, (k.2, (v.1, (v.2.1, ()))))), (v.2.2, ())), fun t => (t.1.2.1, t.1.2.2.1), fun t => (t.1.2.2.2.1, (t.1.2.2.2.2.1, t.2.1)), S_zba_4, fun k r => .l (.exit 4 (mkSt ({ slots := [0, 1, 13], sh := (.cons (.arr 64) (.cons (.dat yi) (.cons (.dat yi) .nil))), obs := [(64, .arr 22 y1)] }) (((), (k.1, (r.1, ()))), (r.2, ()))))⟩
noncomputable def T_zba (a2_ : Int) (a3_ : Int) (a4_ : Int) (a5_ : (HL [y1, y1] → Option (Int))) (a1_ : List Y1) : Tr (Int × (Bool × Y2)) :=
 .g (inR a4_ (List.length a1_)) <|
 .g (decide ((Int.toNat a4_) < List.length a1_)) <|
 .g (inR a2_ (List.length a1_)) <|
 .g (decide ((Int.toNat a2_) < List.length a1_)) <|
 .g (inR a2_ (List.length a1_)) <|
 .g (decide ((Int.toNat a2_) < List.length a1_)) <|
 .g (inR a4_ (List.length (List.set a1_ (Int.toNat a2_) (List.getD a1_ (Int.toNat a4_) ([] : Y1))))) <|
 .g (decide ((Int.toNat a4_) < List.length (List.set a1_ (Int.toNat a2_) (List.getD a1_ (Int.toNat a4_) ([] : Y1))))) <|
 .c (Int) (L_zba_0 (a2_, (a5_, ((IntKind.wrap .i64 (a3_ - (1 : Int))), (List.set (List.set a1_ (Int.toNat a2_) (List.getD a1_ (Int.toNat a4_) ([] : Y1))) (Int.toNat a4_) (List.getD a1_ (Int.toNat a2_) ([] : Y1)))))) (IntKind.wrap .i64 (a2_ + (1 : Int)))) fun r12_ =>
 .c (Int) (L_zba_2 (a2_, (a5_, (r12_, (List.set (List.set a1_ (Int.toNat a2_) (List.getD a1_ (Int.toNat a4_) ([] : Y1))) (Int.toNat a4_) (List.getD a1_ (Int.toNat a2_) ([] : Y1)))))) (IntKind.wrap .i64 (a3_ - (1 : Int)))) fun r24_ =>
 .t (decide (r24_ < r12_))
 (.g (inR a2_ (List.length (List.set (List.set a1_ (Int.toNat a2_) (List.getD a1_ (Int.toNat a4_) ([] : Y1))) (Int.toNat a4_) (List.getD a1_ (Int.toNat a2_) ([] : Y1))))) <|
 .g (decide ((Int.toNat a2_) < List.length (List.set (List.set a1_ (Int.toNat a2_) (List.getD a1_ (Int.toNat a4_) ([] : Y1))) (Int.toNat a4_) (List.getD a1_ (Int.toNat a2_) ([] : Y1))))) <|
 .g (inR r24_ (List.length (List.set (List.set a1_ (Int.toNat a2_) (List.getD a1_ (Int.toNat a4_) ([] : Y1))) (Int.toNat a4_) (List.getD a1_ (Int.toNat a2_) ([] : Y1))))) <|
 .g (decide ((Int.toNat r24_) < List.length (List.set (List.set a1_ (Int.toNat a2_) (List.getD a1_ (Int.toNat a4_) ([] : Y1))) (Int.toNat a4_) (List.getD a1_ (Int.toNat a2_) ([] : Y1))))) <|
 .g (inR r24_ (List.length (List.set (List.set a1_ (Int.toNat a2_) (List.getD a1_ (Int.toNat a4_) ([] : Y1))) (Int.toNat a4_) (List.getD a1_ (Int.toNat a2_) ([] : Y1))))) <|
 .g (decide ((Int.toNat r24_) < List.length (List.set (List.set a1_ (Int.toNat a2_) (List.getD a1_ (Int.toNat a4_) ([] : Y1))) (Int.toNat a4_) (List.getD a1_ (Int.toNat a2_) ([] : Y1))))) <|
 .g (inR a2_ (List.length (List.set (List.set (List.set a1_ (Int.toNat a2_) (List.getD a1_ (Int.toNat a4_) ([] : Y1))) (Int.toNat a4_) (List.getD a1_ (Int.toNat a2_) ([] : Y1))) (Int.toNat r24_) (List.getD (List.set (List.set a1_ (Int.toNat a2_) (List.getD a1_ (Int.toNat a4_) ([] : Y1))) (Int.toNat a4_) (List.getD a1_ (Int.toNat a2_) ([] : Y1))) (Int.toNat a2_) ([] : Y1))))) <|
 .g (decide ((Int.toNat a2_) < List.length (List.set (List.set (List.set a1_ (Int.toNat a2_) (List.getD a1_ (Int.toNat a4_) ([] : Y1))) (Int.toNat a4_) (List.getD a1_ (Int.toNat a2_) ([] : Y1))) (Int.toNat r24_) (List.getD (List.set (List.set a1_ (Int.toNat a2_) (List.getD a1_ (Int.toNat a4_) ([] : Y1))) (Int.toNat a4_) (List.getD a1_ (Int.toNat a2_) ([] : Y1))) (Int.toNat a2_) ([] : Y1))))) <|
 .l (r24_, (true, (List.set (List.set (List.set (List.set a1_ (Int.toNat a2_) (List.getD a1_ (Int.toNat a4_) ([] : Y1))) (Int.toNat a4_) (List.getD a1_ (Int.toNat a2_) ([] : Y1))) (Int.toNat r24_) (List.getD (List.set (List.set a1_ (Int.toNat a2_) (List.getD a1_ (Int.toNat a4_) ([] : Y1))) (Int.toNat a4_) (List.getD a1_ (Int.toNat a2_) ([] : Y1))) (Int.toNat a2_) ([] : Y1))) (Int.toNat a2_) (List.getD (List.set (List.set a1_ (Int.toNat a2_) (List.getD a1_ (Int.toNat a4_) ([] : Y1))) (Int.toNat a4_) (List.getD a1_ (Int.toNat a2_) ([] : Y1))) (Int.toNat r24_) ([] : Y1))))))
 (.g (inR r24_ (List.length (List.set (List.set a1_ (Int.toNat a2_) (List.getD a1_ (Int.toNat a4_) ([] : Y1))) (Int.toNat a4_) (List.getD a1_ (Int.toNat a2_) ([] : Y1))))) <|
 .g (decide ((Int.toNat r24_) < List.length (List.set (List.set a1_ (Int.toNat a2_) (List.getD a1_ (Int.toNat a4_) ([] : Y1))) (Int.toNat a4_) (List.getD a1_ (Int.toNat a2_) ([] : Y1))))) <|
 .g (inR r12_ (List.length (List.set (List.set a1_ (Int.toNat a2_) (List.getD a1_ (Int.toNat a4_) ([] : Y1))) (Int.toNat a4_) (List.getD a1_ (Int.toNat a2_) ([] : Y1))))) <|
 .g (decide ((Int.toNat r12_) < List.length (List.set (List.set a1_ (Int.toNat a2_) (List.getD a1_ (Int.toNat a4_) ([] : Y1))) (Int.toNat a4_) (List.getD a1_ (Int.toNat a2_) ([] : Y1))))) <|
 .g (inR r12_ (List.length (List.set (List.set a1_ (Int.toNat a2_) (List.getD a1_ (Int.toNat a4_) ([] : Y1))) (Int.toNat a4_) (List.getD a1_ (Int.toNat a2_) ([] : Y1))))) <|
 .g (decide ((Int.toNat r12_) < List.length (List.set (List.set a1_ (Int.toNat a2_) (List.getD a1_ (Int.toNat a4_) ([] : Y1))) (Int.toNat a4_) (List.getD a1_ (Int.toNat a2_) ([] : Y1))))) <|
 .g (inR r24_ (List.length (List.set (List.set (List.set a1_ (Int.toNat a2_) (List.getD a1_ (Int.toNat a4_) ([] : Y1))) (Int.toNat a4_) (List.getD a1_ (Int.toNat a2_) ([] : Y1))) (Int.toNat r12_) (List.getD (List.set (List.set a1_ (Int.toNat a2_) (List.getD a1_ (Int.toNat a4_) ([] : Y1))) (Int.toNat a4_) (List.getD a1_ (Int.toNat a2_) ([] : Y1))) (Int.toNat r24_) ([] : Y1))))) <|
 .g (decide ((Int.toNat r24_) < List.length (List.set (List.set (List.set a1_ (Int.toNat a2_) (List.getD a1_ (Int.toNat a4_) ([] : Y1))) (Int.toNat a4_) (List.getD a1_ (Int.toNat a2_) ([] : Y1))) (Int.toNat r12_) (List.getD (List.set (List.set a1_ (Int.toNat a2_) (List.getD a1_ (Int.toNat a4_) ([] : Y1))) (Int.toNat a4_) (List.getD a1_ (Int.toNat a2_) ([] : Y1))) (Int.toNat r24_) ([] : Y1))))) <|
 .c (Int × Y2) (L_zba_4 (a2_, a5_) ((IntKind.wrap .i64 (r12_ + (1 : Int))), ((IntKind.wrap .i64 (r24_ - (1 : Int))), (List.set (List.set (List.set (List.set a1_ (Int.toNat a2_) (List.getD a1_ (Int.toNat a4_) ([] : Y1))) (Int.toNat a4_) (List.getD a1_ (Int.toNat a2_) ([] : Y1))) (Int.toNat r12_) (List.getD (List.set (List.set a1_ (Int.toNat a2_) (List.getD a1_ (Int.toNat a4_) ([] : Y1))) (Int.toNat a4_) (List.getD a1_ (Int.toNat a2_) ([] : Y1))) (Int.toNat r24_) ([] : Y1))) (Int.toNat r24_) (List.getD (List.set (List.set a1_ (Int.toNat a2_) (List.getD a1_ (Int.toNat a4_) ([] : Y1))) (Int.toNat a4_) (List.getD a1_ (Int.toNat a2_) ([] : Y1))) (Int.toNat r12_) ([] : Y1)))))) fun r57_ =>
 .g (inR a2_ (List.length r57_.2)) <|
 .g (decide ((Int.toNat a2_) < List.length r57_.2)) <|
 .g (inR r57_.1 (List.length r57_.2)) <|
 .g (decide ((Int.toNat r57_.1) < List.length r57_.2)) <|
 .g (inR r57_.1 (List.length r57_.2)) <|
 .g (decide ((Int.toNat r57_.1) < List.length r57_.2)) <|
 .g (inR a2_ (List.length (List.set r57_.2 (Int.toNat r57_.1) (List.getD r57_.2 (Int.toNat a2_) ([] : Y1))))) <|
 .g (decide ((Int.toNat a2_) < List.length (List.set r57_.2 (Int.toNat r57_.1) (List.getD r57_.2 (Int.toNat a2_) ([] : Y1))))) <|
 .l (r57_.1, (false, (List.set (List.set r57_.2 (Int.toNat r57_.1) (List.getD r57_.2 (Int.toNat a2_) ([] : Y1))) (Int.toNat a2_) (List.getD r57_.2 (Int.toNat r57_.1) ([] : Y1))))))
noncomputable def F_zba (a2_ : Int) (a3_ : Int) (a4_ : Int) (a5_ : (HL [y1, y1] → Option (Int))) (a1_ : List Y1) : Option (Int × (Bool × Y2)) := (T_zba a2_ a3_ a4_ a5_ a1_).ev
noncomputable def A_zba : Sh := (.cons (.arr 64) (.cons (.dat yi) (.cons (.dat yi) (.cons (.dat yi) (.cons (.clo [y1, y1] yi) .nil)))))
noncomputable def I_zba : List (Nat × OSh) := [(64, .arr 22 y1)]
noncomputable def K_zba : RetK := { acts := [], res := [.tmp 10, .tmp 11], sh := (.cons (.dat yi) (.cons (.dat .bool) .nil)), obs := [(64, .arr 22 y1)], pins := [(0, 0, 64)] }
noncomputable def D_zba : FD := ⟨A_zba, I_zba, [.arg 0], Int × (Bool × Y2), fun x => F_zba x.1.2.1 x.1.2.2.1 x.1.2.2.2.1 x.1.2.2.2.2.1 x.2.1, fun r => ([.dat yi r.1, .dat .bool r.2.1], [(64, .arr 22 y1 r.2.2)])⟩
noncomputable def E_zba : Env := envOf []
noncomputable def Z_zba : Nat → Nat → List Nat := fun _ _ => []
noncomputable def O_zba : List (Nat × LD) := [(0, DL_zba_0), (2, DL_zba_2), (6, DL_zba_6), (8, DL_zba_8), (4, DL_zba_4)]
noncomputable def C_zba : Code := (f212.body).getD .skip
noncomputable def S_zbb_0 (rec_ : (Int) → (Int) → (Int) → ((HL [y1, y1] → Option (Int))) → Y2 → Option Y2) (k : (HL [y1, y1] → Option (Int))) (v : Int × (Int × (Int × (Bool × (Bool × Y2))))) : Tr ((Int × (Int × (Int × (Bool × (Bool × Y2))))) ⊕ Y2) :=
 .t (decide ((IntKind.wrap .i64 (v.2.1 - v.1)) ≤ (12 : Int)))
 (.c Y2 (F_zav v.1 v.2.1 k v.2.2.2.2.2) fun r8_ =>
 .l (.inr r8_))
 (.t (v.2.2.1 == (0 : Int))
 (.f)
 (.t (!v.2.2.2.1)
 (.c Y2 (F_zat v.1 v.2.1 k v.2.2.2.2.2) fun r9_ =>
 .c (Int × Int) (F_zau r9_ v.1 v.2.1 k) fun r10_ =>
 .t (r10_.2 == (2 : Int))
 (.f)
 (.t v.2.2.2.1
 (.t v.2.2.2.2.1
 (.t (r10_.2 == (1 : Int))
 (.f)
 (.t (decide ((0 : Int) < v.1))
 (.g (inR (IntKind.wrap .i64 (v.1 - (1 : Int))) (List.length r9_)) <|
 .g (decide ((Int.toNat (IntKind.wrap .i64 (v.1 - (1 : Int)))) < List.length r9_)) <|
 .g (inR r10_.1 (List.length r9_)) <|
 .g (decide ((Int.toNat r10_.1) < List.length r9_)) <|
 .c (Int) (k ((List.getD r9_ (Int.toNat (IntKind.wrap .i64 (v.1 - (1 : Int)))) ([] : Y1)), ((List.getD r9_ (Int.toNat r10_.1) ([] : Y1)), ()))) fun r11_ =>
 .t (!(decide (r11_ < (0 : Int))))
 (.f)
 (.c (Int × (Bool × Y2)) (F_zba v.1 v.2.1 r10_.1 k r9_) fun r12_ =>
 .g (!decide ((8 : Int) = 0)) <|
 .t (decide ((IntKind.wrap .i64 (r12_.1 - v.1)) < (IntKind.wrap .i64 (v.2.1 - r12_.1))))
 (.c Y2 (rec_ v.1 r12_.1 (IntKind.wrap .i64 (v.2.2.1 - (1 : Int))) k r12_.2.2) fun r13_ =>
 .l (.inl ((IntKind.wrap .i64 (r12_.1 + (1 : Int))), (v.2.1, ((IntKind.wrap .i64 (v.2.2.1 - (1 : Int))), ((decide ((IntKind.wrap .i64 (Int.tdiv (IntKind.wrap .i64 (v.2.1 - v.1)) (8 : Int))) ≤ (IntKind.wrap .i64 (r12_.1 - v.1)))), (r12_.2.1, r13_)))))))
 (.c Y2 (rec_ (IntKind.wrap .i64 (r12_.1 + (1 : Int))) v.2.1 (IntKind.wrap .i64 (v.2.2.1 - (1 : Int))) k r12_.2.2) fun r14_ =>
 .l (.inl (v.1, (r12_.1, ((IntKind.wrap .i64 (v.2.2.1 - (1 : Int))), ((decide ((IntKind.wrap .i64 (Int.tdiv (IntKind.wrap .i64 (v.2.1 - v.1)) (8 : Int))) ≤ (IntKind.wrap .i64 (v.2.1 - r12_.1)))), (r12_.2.1, r14_)))))))))
 (.c (Int × (Bool × Y2)) (F_zba v.1 v.2.1 r10_.1 k r9_) fun r15_ =>
 .g (!decide ((8 : Int) = 0)) <|
 .t (decide ((IntKind.wrap .i64 (r15_.1 - v.1)) < (IntKind.wrap .i64 (v.2.1 - r15_.1))))
 (.c Y2 (rec_ v.1 r15_.1 (IntKind.wrap .i64 (v.2.2.1 - (1 : Int))) k r15_.2.2) fun r16_ =>
 .l (.inl ((IntKind.wrap .i64 (r15_.1 + (1 : Int))), (v.2.1, ((IntKind.wrap .i64 (v.2.2.1 - (1 : Int))), ((decide ((IntKind.wrap .i64 (Int.tdiv (IntKind.wrap .i64 (v.2.1 - v.1)) (8 : Int))) ≤ (IntKind.wrap .i64 (r15_.1 - v.1)))), (r15_.2.1, r16_)))))))
 (.c Y2 (rec_ (IntKind.wrap .i64 (r15_.1 + (1 : Int))) v.2.1 (IntKind.wrap .i64 (v.2.2.1 - (1 : Int))) k r15_.2.2) fun r17_ =>
 .l (.inl (v.1, (r15_.1, ((IntKind.wrap .i64 (v.2.2.1 - (1 : Int))), ((decide ((IntKind.wrap .i64 (Int.tdiv (IntKind.wrap .i64 (v.2.1 - v.1)) (8 : Int))) ≤ (IntKind.wrap .i64 (v.2.1 - r15_.1)))), (r15_.2.1, r17_))))))))))
 (.t (decide ((0 : Int) < v.1))
 (.g (inR (IntKind.wrap .i64 (v.1 - (1 : Int))) (List.length r9_)) <|
 .g (decide ((Int.toNat (IntKind.wrap .i64 (v.1 - (1 : Int)))) < List.length r9_)) <|
 .g (inR r10_.1 (List.length r9_)) <|
 .g (decide ((Int.toNat r10_.1) < List.length r9_)) <|
 .c (Int) (k ((List.getD r9_ (Int.toNat (IntKind.wrap .i64 (v.1 - (1 : Int)))) ([] : Y1)), ((List.getD r9_ (Int.toNat r10_.1) ([] : Y1)), ()))) fun r18_ =>
 .t (!(decide (r18_ < (0 : Int))))
 (.f)
 (.c (Int × (Bool × Y2)) (F_zba v.1 v.2.1 r10_.1 k r9_) fun r19_ =>
 .g (!decide ((8 : Int) = 0)) <|
 .t (decide ((IntKind.wrap .i64 (r19_.1 - v.1)) < (IntKind.wrap .i64 (v.2.1 - r19_.1))))
 (.c Y2 (rec_ v.1 r19_.1 (IntKind.wrap .i64 (v.2.2.1 - (1 : Int))) k r19_.2.2) fun r20_ =>
 .l (.inl ((IntKind.wrap .i64 (r19_.1 + (1 : Int))), (v.2.1, ((IntKind.wrap .i64 (v.2.2.1 - (1 : Int))), ((decide ((IntKind.wrap .i64 (Int.tdiv (IntKind.wrap .i64 (v.2.1 - v.1)) (8 : Int))) ≤ (IntKind.wrap .i64 (r19_.1 - v.1)))), (r19_.2.1, r20_)))))))
 (.c Y2 (rec_ (IntKind.wrap .i64 (r19_.1 + (1 : Int))) v.2.1 (IntKind.wrap .i64 (v.2.2.1 - (1 : Int))) k r19_.2.2) fun r21_ =>
 .l (.inl (v.1, (r19_.1, ((IntKind.wrap .i64 (v.2.2.1 - (1 : Int))), ((decide ((IntKind.wrap .i64 (Int.tdiv (IntKind.wrap .i64 (v.2.1 - v.1)) (8 : Int))) ≤ (IntKind.wrap .i64 (v.2.1 - r19_.1)))), (r19_.2.1, r21_)))))))))
 (.c (Int × (Bool × Y2)) (F_zba v.1 v.2.1 r10_.1 k r9_) fun r22_ =>
 .g (!decide ((8 : Int) = 0)) <|
 .t (decide ((IntKind.wrap .i64 (r22_.1 - v.1)) < (IntKind.wrap .i64 (v.2.1 - r22_.1))))
 (.c Y2 (rec_ v.1 r22_.1 (IntKind.wrap .i64 (v.2.2.1 - (1 : Int))) k r22_.2.2) fun r23_ =>
 .l (.inl ((IntKind.wrap .i64 (r22_.1 + (1 : Int))), (v.2.1, ((IntKind.wrap .i64 (v.2.2.1 - (1 : Int))), ((decide ((IntKind.wrap .i64 (Int.tdiv (IntKind.wrap .i64 (v.2.1 - v.1)) (8 : Int))) ≤ (IntKind.wrap .i64 (r22_.1 - v.1)))), (r22_.2.1, r23_)))))))
 (.c Y2 (rec_ (IntKind.wrap .i64 (r22_.1 + (1 : Int))) v.2.1 (IntKind.wrap .i64 (v.2.2.1 - (1 : Int))) k r22_.2.2) fun r24_ =>
 .l (.inl (v.1, (r22_.1, ((IntKind.wrap .i64 (v.2.2.1 - (1 : Int))), ((decide ((IntKind.wrap .i64 (Int.tdiv (IntKind.wrap .i64 (v.2.1 - v.1)) (8 : Int))) ≤ (IntKind.wrap .i64 (v.2.1 - r22_.1)))), (r22_.2.1, r24_))))))))))
 (.t (decide ((0 : Int) < v.1))
 (.g (inR (IntKind.wrap .i64 (v.1 - (1 : Int))) (List.length r9_)) <|
 .g (decide ((Int.toNat (IntKind.wrap .i64 (v.1 - (1 : Int)))) < List.length r9_)) <|
 .g (inR r10_.1 (List.length r9_)) <|
 .g (decide ((Int.toNat r10_.1) < List.length r9_)) <|
 .c (Int) (k ((List.getD r9_ (Int.toNat (IntKind.wrap .i64 (v.1 - (1 : Int)))) ([] : Y1)), ((List.getD r9_ (Int.toNat r10_.1) ([] : Y1)), ()))) fun r25_ =>
 .t (!(decide (r25_ < (0 : Int))))
 (.f)
 (.c (Int × (Bool × Y2)) (F_zba v.1 v.2.1 r10_.1 k r9_) fun r26_ =>
 .g (!decide ((8 : Int) = 0)) <|
 .t (decide ((IntKind.wrap .i64 (r26_.1 - v.1)) < (IntKind.wrap .i64 (v.2.1 - r26_.1))))
 (.c Y2 (rec_ v.1 r26_.1 (IntKind.wrap .i64 (v.2.2.1 - (1 : Int))) k r26_.2.2) fun r27_ =>
 .l (.inl ((IntKind.wrap .i64 (r26_.1 + (1 : Int))), (v.2.1, ((IntKind.wrap .i64 (v.2.2.1 - (1 : Int))), ((decide ((IntKind.wrap .i64 (Int.tdiv (IntKind.wrap .i64 (v.2.1 - v.1)) (8 : Int))) ≤ (IntKind.wrap .i64 (r26_.1 - v.1)))), (r26_.2.1, r27_)))))))
 (.c Y2 (rec_ (IntKind.wrap .i64 (r26_.1 + (1 : Int))) v.2.1 (IntKind.wrap .i64 (v.2.2.1 - (1 : Int))) k r26_.2.2) fun r28_ =>
 .l (.inl (v.1, (r26_.1, ((IntKind.wrap .i64 (v.2.2.1 - (1 : Int))), ((decide ((IntKind.wrap .i64 (Int.tdiv (IntKind.wrap .i64 (v.2.1 - v.1)) (8 : Int))) ≤ (IntKind.wrap .i64 (v.2.1 - r26_.1)))), (r26_.2.1, r28_)))))))))
 (.c (Int × (Bool × Y2)) (F_zba v.1 v.2.1 r10_.1 k r9_) fun r29_ =>
 .g (!decide ((8 : Int) = 0)) <|
 .t (decide ((IntKind.wrap .i64 (r29_.1 - v.1)) < (IntKind.wrap .i64 (v.2.1 - r29_.1))))
 (.c Y2 (rec_ v.1 r29_.1 (IntKind.wrap .i64 (v.2.2.1 - (1 : Int))) k r29_.2.2) fun r30_ =>
 .l (.inl ((IntKind.wrap .i64 (r29_.1 + (1 : Int))), (v.2.1, ((IntKind.wrap .i64 (v.2.2.1 - (1 : Int))), ((decide ((IntKind.wrap .i64 (Int.tdiv (IntKind.wrap .i64 (v.2.1 - v.1)) (8 : Int))) ≤ (IntKind.wrap .i64 (r29_.1 - v.1)))), (r29_.2.1, r30_)))))))
 (.c Y2 (rec_ (IntKind.wrap .i64 (r29_.1 + (1 : Int))) v.2.1 (IntKind.wrap .i64 (v.2.2.1 - (1 : Int))) k r29_.2.2) fun r31_ =>
 .l (.inl (v.1, (r29_.1, ((IntKind.wrap .i64 (v.2.2.1 - (1 : Int))), ((decide ((IntKind.wrap .i64 (Int.tdiv (IntKind.wrap .i64 (v.2.1 - v.1)) (8 : Int))) ≤ (IntKind.wrap .i64 (v.2.1 - r29_.1)))), (r29_.2.1, r31_)))))))))))
 (.c (Int × Int) (F_zau v.2.2.2.2.2 v.1 v.2.1 k) fun r32_ =>
 .t (r32_.2 == (2 : Int))
 (.f)
 (.t v.2.2.2.1
 (.t v.2.2.2.2.1
 (.t (r32_.2 == (1 : Int))
 (.f)
 (.t (decide ((0 : Int) < v.1))
 (.g (inR (IntKind.wrap .i64 (v.1 - (1 : Int))) (List.length v.2.2.2.2.2)) <|
 .g (decide ((Int.toNat (IntKind.wrap .i64 (v.1 - (1 : Int)))) < List.length v.2.2.2.2.2)) <|
 .g (inR r32_.1 (List.length v.2.2.2.2.2)) <|
 .g (decide ((Int.toNat r32_.1) < List.length v.2.2.2.2.2)) <|
 .c (Int) (k ((List.getD v.2.2.2.2.2 (Int.toNat (IntKind.wrap .i64 (v.1 - (1 : Int)))) ([] : Y1)), ((List.getD v.2.2.2.2.2 (Int.toNat r32_.1) ([] : Y1)), ()))) fun r33_ =>
 .t (!(decide (r33_ < (0 : Int))))
 (.f)
 (.c (Int × (Bool × Y2)) (F_zba v.1 v.2.1 r32_.1 k v.2.2.2.2.2) fun r34_ =>
 .g (!decide ((8 : Int) = 0)) <|
 .t (decide ((IntKind.wrap .i64 (r34_.1 - v.1)) < (IntKind.wrap .i64 (v.2.1 - r34_.1))))
 (.c Y2 (rec_ v.1 r34_.1 v.2.2.1 k r34_.2.2) fun r35_ =>
 .l (.inl ((IntKind.wrap .i64 (r34_.1 + (1 : Int))), (v.2.1, (v.2.2.1, ((decide ((IntKind.wrap .i64 (Int.tdiv (IntKind.wrap .i64 (v.2.1 - v.1)) (8 : Int))) ≤ (IntKind.wrap .i64 (r34_.1 - v.1)))), (r34_.2.1, r35_)))))))
 (.c Y2 (rec_ (IntKind.wrap .i64 (r34_.1 + (1 : Int))) v.2.1 v.2.2.1 k r34_.2.2) fun r36_ =>
 .l (.inl (v.1, (r34_.1, (v.2.2.1, ((decide ((IntKind.wrap .i64 (Int.tdiv (IntKind.wrap .i64 (v.2.1 - v.1)) (8 : Int))) ≤ (IntKind.wrap .i64 (v.2.1 - r34_.1)))), (r34_.2.1, r36_)))))))))
 (.c (Int × (Bool × Y2)) (F_zba v.1 v.2.1 r32_.1 k v.2.2.2.2.2) fun r37_ =>
 .g (!decide ((8 : Int) = 0)) <|
 .t (decide ((IntKind.wrap .i64 (r37_.1 - v.1)) < (IntKind.wrap .i64 (v.2.1 - r37_.1))))
 (.c Y2 (rec_ v.1 r37_.1 v.2.2.1 k r37_.2.2) fun r38_ =>
 .l (.inl ((IntKind.wrap .i64 (r37_.1 + (1 : Int))), (v.2.1, (v.2.2.1, ((decide ((IntKind.wrap .i64 (Int.tdiv (IntKind.wrap .i64 (v.2.1 - v.1)) (8 : Int))) ≤ (IntKind.wrap .i64 (r37_.1 - v.1)))), (r37_.2.1, r38_)))))))
 (.c Y2 (rec_ (IntKind.wrap .i64 (r37_.1 + (1 : Int))) v.2.1 v.2.2.1 k r37_.2.2) fun r39_ =>
 .l (.inl (v.1, (r37_.1, (v.2.2.1, ((decide ((IntKind.wrap .i64 (Int.tdiv (IntKind.wrap .i64 (v.2.1 - v.1)) (8 : Int))) ≤ (IntKind.wrap .i64 (v.2.1 - r37_.1)))), (r37_.2.1, r39_))))))))))
 (.t (decide ((0 : Int) < v.1))
 (.g (inR (IntKind.wrap .i64 (v.1 - (1 : Int))) (List.length v.2.2.2.2.2)) <|
 .g (decide ((Int.toNat (IntKind.wrap .i64 (v.1 - (1 : Int)))) < List.length v.2.2.2.2.2)) <|
 .g (inR r32_.1 (List.length v.2.2.2.2.2)) <|
 .g (decide ((Int.toNat r32_.1) < List.length v.2.2.2.2.2)) <|
 .c (Int) (k ((List.getD v.2.2.2.2.2 (Int.toNat (IntKind.wrap .i64 (v.1 - (1 : Int)))) ([] : Y1)), ((List.getD v.2.2.2.2.2 (Int.toNat r32_.1) ([] : Y1)), ()))) fun r40_ =>
 .t (!(decide (r40_ < (0 : Int))))
 (.f)
 (.c (Int × (Bool × Y2)) (F_zba v.1 v.2.1 r32_.1 k v.2.2.2.2.2) fun r41_ =>
 .g (!decide ((8 : Int) = 0)) <|
 .t (decide ((IntKind.wrap .i64 (r41_.1 - v.1)) < (IntKind.wrap .i64 (v.2.1 - r41_.1))))
 (.c Y2 (rec_ v.1 r41_.1 v.2.2.1 k r41_.2.2) fun r42_ =>
 .l (.inl ((IntKind.wrap .i64 (r41_.1 + (1 : Int))), (v.2.1, (v.2.2.1, ((decide ((IntKind.wrap .i64 (Int.tdiv (IntKind.wrap .i64 (v.2.1 - v.1)) (8 : Int))) ≤ (IntKind.wrap .i64 (r41_.1 - v.1)))), (r41_.2.1, r42_)))))))
 (.c Y2 (rec_ (IntKind.wrap .i64 (r41_.1 + (1 : Int))) v.2.1 v.2.2.1 k r41_.2.2) fun r43_ =>
 .l (.inl (v.1, (r41_.1, (v.2.2.1, ((decide ((IntKind.wrap .i64 (Int.tdiv (IntKind.wrap .i64 (v.2.1 - v.1)) (8 : Int))) ≤ (IntKind.wrap .i64 (v.2.1 - r41_.1)))), (r41_.2.1, r43_)))))))))
 (.c (Int × (Bool × Y2)) (F_zba v.1 v.2.1 r32_.1 k v.2.2.2.2.2) fun r44_ =>
 .g (!decide ((8 : Int) = 0)) <|
 .t (decide ((IntKind.wrap .i64 (r44_.1 - v.1)) < (IntKind.wrap .i64 (v.2.1 - r44_.1))))
 (.c Y2 (rec_ v.1 r44_.1 v.2.2.1 k r44_.2.2) fun r45_ =>
 .l (.inl ((IntKind.wrap .i64 (r44_.1 + (1 : Int))), (v.2.1, (v.2.2.1, ((decide ((IntKind.wrap .i64 (Int.tdiv (IntKind.wrap .i64 (v.2.1 - v.1)) (8 : Int))) ≤ (IntKind.wrap .i64 (r44_.1 - v.1)))), (r44_.2.1, r45_)))))))
 (.c Y2 (rec_ (IntKind.wrap .i64 (r44_.1 + (1 : Int))) v.2.1 v.2.2.1 k r44_.2.2) fun r46_ =>
 .l (.inl (v.1, (r44_.1, (v.2.2.1, ((decide ((IntKind.wrap .i64 (Int.tdiv (IntKind.wrap .i64 (v.2.1 - v.1)) (8 : Int))) ≤ (IntKind.wrap .i64 (v.2.1 - r44_.1)))), (r44_.2.1, r46_))))))))))
 (.t (decide ((0 : Int) < v.1))
 (.g (inR (IntKind.wrap .i64 (v.1 - (1 : Int))) (List.length v.2.2.2.2.2)) <|
 .g (decide ((Int.toNat (IntKind.wrap .i64 (v.1 - (1 : Int)))) < List.length v.2.2.2.2.2)) <|
 .g (inR r32_.1 (List.length v.2.2.2.2.2)) <|
 .g (decide ((Int.toNat r32_.1) < List.length v.2.2.2.2.2)) <|
 .c (Int) (k ((List.getD v.2.2.2.2.2 (Int.toNat (IntKind.wrap .i64 (v.1 - (1 : Int)))) ([] : Y1)), ((List.getD v.2.2.2.2.2 (Int.toNat r32_.1) ([] : Y1)), ()))) fun r47_ =>
 .t (!(decide (r47_ < (0 : Int))))
 (.f)
 (.c (Int × (Bool × Y2)) (F_zba v.1 v.2.1 r32_.1 k v.2.2.2.2.2) fun r48_ =>
 .g (!decide ((8 : Int) = 0)) <|
 .t (decide ((IntKind.wrap .i64 (r48_.1 - v.1)) < (IntKind.wrap .i64 (v.2.1 - r48_.1))))
 (.c Y2 (rec_ v.1 r48_.1 v.2.2.1 k r48_.2.2) fun r49_ =>
 .l (.inl ((IntKind.wrap .i64 (r48_.1 + (1 : Int))), (v.2.1, (v.2.2.1, ((decide ((IntKind.wrap .i64 (Int.tdiv (IntKind.wrap .i64 (v.2.1 - v.1)) (8 : Int))) ≤ (IntKind.wrap .i64 (r48_.1 - v.1)))), (r48_.2.1, r49_)))))))
 (.c Y2 (rec_ (IntKind.wrap .i64 (r48_.1 + (1 : Int))) v.2.1 v.2.2.1 k r48_.2.2) fun r50_ =>
 .l (.inl (v.1, (r48_.1, (v.2.2.1, ((decide ((IntKind.wrap .i64 (Int.tdiv (IntKind.wrap .i64 (v.2.1 - v.1)) (8 : Int))) ≤ (IntKind.wrap .i64 (v.2.1 - r48_.1)))), (r48_.2.1, r50_)))))))))
 (.c (Int × (Bool × Y2)) (F_zba v.1 v.2.1 r32_.1 k v.2.2.2.2.2) fun r51_ =>
 .g (!decide ((8 : Int) = 0)) <|
 .t (decide ((IntKind.wrap .i64 (r51_.1 - v.1)) < (IntKind.wrap .i64 (v.2.1 - r51_.1))))
 (.c Y2 (rec_ v.1 r51_.1 v.2.2.1 k r51_.2.2) fun r52_ =>
 .l (.inl ((IntKind.wrap .i64 (r51_.1 + (1 : Int))), (v.2.1, (v.2.2.1, ((decide ((IntKind.wrap .i64 (Int.tdiv (IntKind.wrap .i64 (v.2.1 - v.1)) (8 : Int))) ≤ (IntKind.wrap .i64 (r51_.1 - v.1)))), (r51_.2.1, r52_)))))))
 (.c Y2 (rec_ (IntKind.wrap .i64 (r51_.1 + (1 : Int))) v.2.1 v.2.2.1 k r51_.2.2) fun r53_ =>
 .l (.inl (v.1, (r51_.1, (v.2.2.1, ((decide ((IntKind.wrap .i64 (Int.tdiv (IntKind.wrap .i64 (v.2.1 - v.1)) (8 : Int))) ≤ (IntKind.wrap .i64 (v.2.1 - r51_.1)))), (r51_.2.1, r53_)))))))))))))
noncomputable def L_zbb_0 (rec_ : (Int) → (Int) → (Int) → ((HL [y1, y1] → Option (Int))) → Y2 → Option Y2) (k : (HL [y1, y1] → Option (Int))) (v : Int × (Int × (Int × (Bool × (Bool × Y2))))) : Option Y2 := iter (fun v => (S_zbb_0 rec_ k v).ev) v
noncomputable def DL_zbb_0 (rec_ : (Int) → (Int) → (Int) → ((HL [y1, y1] → Option (Int))) → Y2 → Option Y2) : LD where
 head := { acts := [], S := { slots := [0, 1, 2, 3, 4, 10, 11], sh := (.cons (.arr 64) (.cons (.dat yi) (.cons (.dat yi) (.cons (.dat yi) (.cons (.clo [y1, y1] yi) (.cons (.dat .bool) (.cons (.dat .bool) .nil))))))), obs := [(64, .arr 22 y1)] } }
 exits := []
 rets := { acts := [], S := { slots := [0], sh := (.cons (.arr 64) .nil), obs := [(64, .arr 22 y1)] } }
 K := (HL [y1, y1] → Option (Int))
 V := Int × (Int × (Int × (Bool × (Bool × Y2))))
 R := List Y1
 join := fun k v => (((), (v.1, (v.2.1, (v.2.2.1, (k, (v.2.2.2.1, (v.2.2.2.2.1, ()))))))), (v.2.2.2.2.2, ()))
 sk := fun t => t.1.2.2.2.2.1
 sv := fun t => (t.1.2.1, (t.1.2.2.1, (t.1.2.2.2.1, (t.1.2.2.2.2.2.1, (t.1.2.2.2.2.2.2.1, t.2.1)))))
 step := S_zbb_0 rec_
 leaf := fun _ r => .l (.ret (mkSt ({ slots := [0], sh := (.cons (.arr 64) .nil), obs := [(64, .arr 22 y1)] }) (((), ()), (r, ()))))
noncomputable def T_zbb (rec_ : (Int) → (Int) → (Int) → ((HL [y1, y1] → Option (Int))) → Y2 → Option Y2) (a2_ : Int) (a3_ : Int) (a4_ : Int) (a5_ : (HL [y1, y1] → Option (Int))) (a1_ : List Y1) : Tr Y2 :=
 .c Y2 (L_zbb_0 rec_ a5_ (a2_, (a3_, (a4_, (true, (true, a1_)))))) fun r55_ =>
 .l r55_
noncomputable def F_zbb : Nat → (Int) → (Int) → (Int) → ((HL [y1, y1] → Option (Int))) → Y2 → Option Y2
 | 0 => fun _ _ _ _ _ => none
 | n + 1 => fun a2_ a3_ a4_ a5_ a1_ => (T_zbb (F_zbb n) a2_ a3_ a4_ a5_ a1_).ev
noncomputable def A_zbb : Sh := (.cons (.arr 64) (.cons (.dat yi) (.cons (.dat yi) (.cons (.dat yi) (.cons (.clo [y1, y1] yi) .nil)))))
noncomputable def I_zbb : List (Nat × OSh) := [(64, .arr 22 y1)]
noncomputable def K_zbb : RetK := { acts := [], res := [], sh := .nil, obs := [(64, .arr 22 y1)], pins := [(0, 0, 64)] }
noncomputable def Dr_zbb (rec_ : (Int) → (Int) → (Int) → ((HL [y1, y1] → Option (Int))) → Y2 → Option Y2) : FD where
 A := A_zbb
 ins := I_zbb
 lend := [.arg 0]
 R := List Y1
 F := fun x => rec_ x.1.2.1 x.1.2.2.1 x.1.2.2.2.1 x.1.2.2.2.2.1 x.2.1
 emb := fun r => ([], [(64, .arr 22 y1 r)])
noncomputable def D_zbb (n : Nat) : FD := Dr_zbb (F_zbb n)
noncomputable def E_zbb (rec_ : (Int) → (Int) → (Int) → ((HL [y1, y1] → Option (Int))) → Y2 → Option Y2) : Env := envOf [(205, D_zav), (207, D_zat), (208, D_zau), (212, D_zba), (187, Dr_zbb rec_)]
noncomputable def Z_zbb : Nat → Nat → List Nat := fun _ _ => []
noncomputable def O_zbb (rec_ : (Int) → (Int) → (Int) → ((HL [y1, y1] → Option (Int))) → Y2 → Option Y2) : List (Nat × LD) := [(0, DL_zbb_0 rec_)]
noncomputable def C_zbb : Code := (f187.body).getD .skip
noncomputable def T_zas (a2_ : (HL [y1, y1] → Option (Int))) (a1_ : List Y1) : Tr Y2 :=
 .c (Int) (F_zal (IntKind.wrap .u64 ((List.length a1_ : Nat) : Int))) fun r1_ =>
 .c Y2 (F_zbb 1000000 (0 : Int) ((List.length a1_ : Nat) : Int) r1_ a2_ a1_) fun r2_ =>
 .l r2_
noncomputable def F_zas (a2_ : (HL [y1, y1] → Option (Int))) (a1_ : List Y1) : Option Y2 := (T_zas a2_ a1_).ev
noncomputable def A_zas : Sh := (.cons (.arr 64) (.cons (.clo [y1, y1] yi) .nil))
noncomputable def I_zas : List (Nat × OSh) := [(64, .arr 22 y1)]
noncomputable def K_zas : RetK := { acts := [], res := [], sh := .nil, obs := [(64, .arr 22 y1)], pins := [(0, 0, 64)] }
noncomputable def D_zas : FD := ⟨A_zas, I_zas, [.arg 0], List Y1, fun x => F_zas x.1.2.1 x.2.1, fun r => ([], [(64, .arr 22 y1 r)])⟩
noncomputable def E_zas : Env := envOf [(185, D_zal), (187, D_zbb 1000000)]
noncomputable def Z_zas : Nat → Nat → List Nat := fun _ _ => []
noncomputable def O_zas : List (Nat × LD) := []
noncomputable def C_zas : Code := (f168.body).getD .skip
noncomputable def T_zc (a1_ : Int) : Tr (Bool) :=
 .l (a1_ != a1_)
noncomputable def F_zc (a1_ : Int) : Option (Bool) := (T_zc a1_).ev
noncomputable def A_zc : Sh := (.cons (.dat yi) .nil)
noncomputable def I_zc : List (Nat × OSh) := []
noncomputable def K_zc : RetK := { acts := [], res := [.tmp 2], sh := (.cons (.dat .bool) .nil), obs := [], pins := [] }
noncomputable def D_zc : FD := ⟨A_zc, I_zc, [], Bool, fun x => F_zc x.1.1, fun r => ([.dat .bool r], [])⟩
noncomputable def E_zc : Env := envOf []
noncomputable def Z_zc : Nat → Nat → List Nat := fun _ _ => []
noncomputable def O_zc : List (Nat × LD) := []
noncomputable def C_zc : Code := (f213.body).getD .skip
noncomputable def T_za (a1_ : Int) (a2_ : Int) : Tr (Int) :=
 .c (Bool) (F_zc a1_) fun r1_ =>
 .c (Bool) (F_zc a2_) fun r2_ =>
 .t r1_
 (.t r2_
 (.l (0 : Int))
 (.l (-1 : Int)))
 (.t r2_
 (.l (1 : Int))
 (.t (decide (a1_ < a2_))
 (.l (-1 : Int))
 (.t (decide (a2_ < a1_))
 (.l (1 : Int))
 (.l (0 : Int)))))
noncomputable def F_za (a1_ : Int) (a2_ : Int) : Option (Int) := (T_za a1_ a2_).ev
noncomputable def A_za : Sh := (.cons (.dat yi) (.cons (.dat yi) .nil))
noncomputable def I_za : List (Nat × OSh) := []
noncomputable def K_za : RetK := { acts := [], res := [.tmp 4], sh := (.cons (.dat yi) .nil), obs := [], pins := [] }
noncomputable def D_za : FD := ⟨A_za, I_za, [], Int, fun x => F_za x.1.1 x.1.2.1, fun r => ([.dat yi r], [])⟩
noncomputable def E_za : Env := envOf [(213, D_zc)]
noncomputable def Z_za : Nat → Nat → List Nat := fun _ _ => []
noncomputable def O_za : List (Nat × LD) := []
noncomputable def C_za : Code := (f189.body).getD .skip
noncomputable def S_zan_0 (k : Y1 × (Y1 × (Y1 × Int))) (v : Int) : Tr ((Int) ⊕ ((Unit) ⊕ (Int))) :=
 .t (decide (v < k.2.2.2))
 (.g (inR v (List.length k.2.2.1)) <|
 .t (decide (((List.length k.2.1 : Nat) : Int) ≤ v))
 (.l (.inr (.inr (1 : Int))))
 (.g (inR v (List.length k.2.1)) <|
 .c (Int) (F_za (List.getD k.2.2.1 (Int.toNat v) (0 : Int)) (List.getD k.2.1 (Int.toNat v) (0 : Int))) fun r6_ =>
 .t (r6_ != (0 : Int))
 (.l (.inr (.inr r6_)))
 (.l (.inl (IntKind.wrap .i64 (v + (1 : Int)))))))
 (.l (.inr (.inl ())))
noncomputable def L_zan_0 (k : Y1 × (Y1 × (Y1 × Int))) (v : Int) : Option ((Unit) ⊕ (Int)) := iter (fun v => (S_zan_0 k v).ev) v
noncomputable def DL_zan_0 : LD := ⟨(yh [0, 1, 9, 10, 11] (.cons (.dat y1) (.cons (.dat y1) (.cons (.dat y1) (.cons (.dat yi) (.cons (.dat yi) .nil)))))), [(0, (yh [0, 1] (.cons (.dat y1) (.cons (.dat y1) .nil))))], (yh [4] (.cons (.dat yi) .nil)), Y1 × (Y1 × (Y1 × Int)), Int, (Unit) ⊕ (Int), fun k v => ((k.1, (k.2.1, (k.2.2.1, (k.2.2.2, (v, ()))))), ()), fun t => (t.1.1, (t.1.2.1, (t.1.2.2.1, t.1.2.2.2.1))), fun t => t.1.2.2.2.2.1, S_zan_0, fun k r => .s (Unit) (Int) r (fun _ => .l (.exit 0 (mkSt ((ys [0, 1] (.cons (.dat y1) (.cons (.dat y1) .nil)))) ((k.1, (k.2.1, ())), ())))) (fun b => .l (.ret (mkSt ((ys [4] (.cons (.dat yi) .nil))) ((b, ()), ()))))⟩
noncomputable def T_zan (a1_ : Y1) (a2_ : Y1) : Tr (Int) :=
 .c ((Unit) ⊕ (Int)) (L_zan_0 (a1_, (a2_, (a1_, ((List.length a1_ : Nat) : Int)))) (0 : Int)) fun r10_ =>
 .s (Unit) (Int) r10_
 (fun _ => .t (decide (((List.length a1_ : Nat) : Int) < ((List.length a2_ : Nat) : Int)))
 (.l (-1 : Int))
 (.l (0 : Int)))
 (fun r12_ => .l r12_)
noncomputable def F_zan (a1_ : Y1) (a2_ : Y1) : Option (Int) := (T_zan a1_ a2_).ev
noncomputable def A_zan : Sh := (.cons (.dat y1) (.cons (.dat y1) .nil))
noncomputable def I_zan : List (Nat × OSh) := []
noncomputable def K_zan : RetK := { acts := [], res := [.tmp 4], sh := (.cons (.dat yi) .nil), obs := [], pins := [] }
noncomputable def D_zan : FD := ⟨A_zan, I_zan, [], Int, fun x => F_zan x.1.1 x.1.2.1, fun r => ([.dat yi r], [])⟩
noncomputable def E_zan : Env := envOf [(189, D_za)]
noncomputable def Z_zan : Nat → Nat → List Nat := fun _ _ => []
noncomputable def O_zan : List (Nat × LD) := [(0, DL_zan_0)]
noncomputable def C_zan : Code := (f190.body).getD .skip
noncomputable def S_zb_0 (k : Int × (Y1 × Int)) (v : Int) : Tr ((Int) ⊕ ((Unit) ⊕ (Int))) :=
 .t (decide (v < k.2.2))
 (.g (inR v (List.length k.2.1)) <|
 .t ((List.getD k.2.1 (Int.toNat v) (0 : Int)) != k.1)
 (.l (.inr (.inr (List.getD k.2.1 (Int.toNat v) (0 : Int)))))
 (.l (.inl (IntKind.wrap .i64 (v + (1 : Int))))))
 (.l (.inr (.inl ())))
noncomputable def L_zb_0 (k : Int × (Y1 × Int)) (v : Int) : Option ((Unit) ⊕ (Int)) := iter (fun v => (S_zb_0 k v).ev) v
noncomputable def DL_zb_0 : LD := ⟨(yh [3, 6, 7, 8] (.cons (.dat yi) (.cons (.dat y1) (.cons (.dat yi) (.cons (.dat yi) .nil))))), [(0, (yh [3] (.cons (.dat yi) .nil)))], (yh [2] (.cons (.dat yi) .nil)), Int × (Y1 × Int), Int, (Unit) ⊕ (Int), fun k v => ((k.1, (k.2.1, (k.2.2, (v, ())))), ()), fun t => (t.1.1, (t.1.2.1, t.1.2.2.1)), fun t => t.1.2.2.2.1, S_zb_0, fun k r => .s (Unit) (Int) r (fun _ => .l (.exit 0 (mkSt ((ys [3] (.cons (.dat yi) .nil))) ((k.1, ()), ())))) (fun b => .l (.ret (mkSt ((ys [2] (.cons (.dat yi) .nil))) ((b, ()), ()))))⟩
noncomputable def T_zb (a1_ : Y1) : Tr (Int) :=
 .c ((Unit) ⊕ (Int)) (L_zb_0 ((0 : Int), (a1_, ((List.length a1_ : Nat) : Int))) (0 : Int)) fun r7_ =>
 .s (Unit) (Int) r7_
 (fun _ => .l (0 : Int))
 (fun r9_ => .l r9_)
noncomputable def F_zb (a1_ : Y1) : Option (Int) := (T_zb a1_).ev
noncomputable def A_zb : Sh := (.cons (.dat y1) .nil)
noncomputable def I_zb : List (Nat × OSh) := []
noncomputable def K_zb : RetK := { acts := [], res := [.tmp 2], sh := (.cons (.dat yi) .nil), obs := [], pins := [] }
noncomputable def D_zb : FD := ⟨A_zb, I_zb, [], Int, fun x => F_zb x.1.1, fun r => ([.dat yi r], [])⟩
noncomputable def E_zb : Env := envOf []
noncomputable def Z_zb : Nat → Nat → List Nat := fun _ _ => []
noncomputable def O_zb : List (Nat × LD) := [(0, DL_zb_0)]
noncomputable def C_zb : Code := (f188.body).getD .skip
noncomputable def T_zz (a1_ : Y1) (a2_ : Y1) : Tr (Int) :=
 .c (Int) (F_za ((List.length a1_ : Nat) : Int) ((List.length a2_ : Nat) : Int)) fun r1_ =>
 .c (Int) (F_zan a1_ a2_) fun r2_ =>
 .c (Int) (F_zb ([r1_, r2_] : Y1)) fun r3_ =>
 .l r3_
noncomputable def F_zz (a1_ : Y1) (a2_ : Y1) : Option (Int) := (T_zz a1_ a2_).ev
noncomputable def A_zz : Sh := (.cons (.dat y1) (.cons (.dat y1) .nil))
noncomputable def I_zz : List (Nat × OSh) := []
noncomputable def K_zz : RetK := { acts := [], res := [.tmp 4], sh := (.cons (.dat yi) .nil), obs := [], pins := [] }
noncomputable def D_zz : FD := ⟨A_zz, I_zz, [], Int, fun x => F_zz x.1.1 x.1.2.1, fun r => ([.dat yi r], [])⟩
noncomputable def E_zz : Env := envOf [(189, D_za), (190, D_zan), (188, D_zb)]
noncomputable def Z_zz : Nat → Nat → List Nat := fun _ _ => []
noncomputable def O_zz : List (Nat × LD) := []
noncomputable def C_zz : Code := (f169.body).getD .skip
noncomputable def S_zad_0 (k : Int) (v : Int × Y2) : Tr ((Int × Y2) ⊕ Y2) :=
 .g (decide ((0 : Int) ≤ k)) <|
 .t (decide (v.1 < (IntKind.wrap .u64 ((1 : Int) * 2 ^ (min (Int.toNat k) (IntKind.bits .u64))))))
 (.c Y1 (F_zx v.1) fun r4_ =>
 .g (decide ((List.length v.2 + List.length ([r4_] : List Y1)) * 24 ≤ 140737488355328)) <|
 .l (.inl ((IntKind.wrap .u64 (v.1 + (1 : Int))), (v.2 ++ ([r4_] : List Y1)))))
 (.l (.inr v.2))
noncomputable def L_zad_0 (k : Int) (v : Int × Y2) : Option Y2 := iter (fun v => (S_zad_0 k v).ev) v
noncomputable def DL_zad_0 : LD := ⟨{ acts := [], S := { slots := [0, 3, 4], sh := (.cons (.dat yi) (.cons (.arr 5) (.cons (.dat (.int .u64)) .nil))), obs := [(5, .arr 22 y1)] } }, [(0, { acts := [], S := { slots := [3], sh := (.cons (.arr 5) .nil), obs := [(5, .arr 22 y1)] } })], (yh [] .nil), Int, Int × Y2, List Y1, fun k v => ((k, ((), (v.1, ()))), (v.2, ())), fun t => t.1.1, fun t => (t.1.2.2.1, t.2.1), S_zad_0, fun _ r => .l (.exit 0 (mkSt ({ slots := [3], sh := (.cons (.arr 5) .nil), obs := [(5, .arr 22 y1)] }) (((), ()), (r, ()))))⟩
noncomputable def T_zad (a1_ : Int) : Tr Y2 :=
 .c Y2 (L_zad_0 a1_ ((1 : Int), ([] : List Y1))) fun r6_ =>
 .c Y2 (F_zas (fun h7_ => Option.bind (F_zz h7_.1 h7_.2.1) fun y8_ => some y8_) r6_) fun r9_ =>
 .l r9_
noncomputable def F_zad (a1_ : Int) : Option Y2 := (T_zad a1_).ev
noncomputable def A_zad : Sh := (.cons (.dat yi) .nil)
noncomputable def I_zad : List (Nat × OSh) := []
noncomputable def K_zad : RetK := { acts := [.ren 5 0], res := [.tmp 2], sh := (.cons (.arr 0) .nil), obs := [(0, .arr 22 y1)], pins := [] }
noncomputable def D_zad : FD := ⟨A_zad, I_zad, [], List Y1, fun x => F_zad x.1.1, fun r => ([.arr 0], [(0, .arr 22 y1 r)])⟩
noncomputable def E_zad : Env := envOf [(144, D_zx), (168, D_zas), (168, D_zas), (169, D_zz)]
noncomputable def Z_zad : Nat → Nat → List Nat := fun r i => match look [(5, [(3, [14])])] r with
 | some l => (look l i).getD []
 | none => []
noncomputable def O_zad : List (Nat × LD) := [(0, DL_zad_0)]
noncomputable def C_zad : Code := (f118.body).getD .skip
noncomputable def S_zac_0 (k : ((HL [y1] → Option (Int))) × (Y2 × Int)) (v : Y1 × Int) : Tr ((Y1 × Int) ⊕ Y1) :=
 .t (decide (v.2 < k.2.2))
 (.g (inR v.2 (List.length k.2.1)) <|
 .c (Int) (k.1 ((List.getD k.2.1 (Int.toNat v.2) ([] : Y1)), ())) fun r6_ =>
 .c (Int) (k.1 (v.1, ())) fun r7_ =>
 .t (decide (r6_ < r7_))
 (.l (.inl ((List.getD k.2.1 (Int.toNat v.2) ([] : Y1)), (IntKind.wrap .i64 (v.2 + (1 : Int))))))
 (.l (.inl (v.1, (IntKind.wrap .i64 (v.2 + (1 : Int)))))))
 (.l (.inr v.1))
noncomputable def L_zac_0 (k : ((HL [y1] → Option (Int))) × (Y2 × Int)) (v : Y1 × Int) : Option Y1 := iter (fun v => (S_zac_0 k v).ev) v
noncomputable def DL_zac_0 : LD := ⟨(yh [1, 5, 11, 12, 13] (.cons (.clo [y1] yi) (.cons (.dat y1) (.cons (.dat y2) (.cons (.dat yi) (.cons (.dat yi) .nil)))))), [(0, (yh [5] (.cons (.dat y1) .nil)))], (yh [] .nil), ((HL [y1] → Option (Int))) × (Y2 × Int), Y1 × (Int), Y1, fun k v => ((k.1, (v.1, (k.2.1, (k.2.2, (v.2, ()))))), ()), fun t => (t.1.1, (t.1.2.2.1, t.1.2.2.2.1)), fun t => (t.1.2.1, t.1.2.2.2.2.1), S_zac_0, fun _ r => .l (.exit 0 (mkSt ((ys [5] (.cons (.dat y1) .nil))) ((r, ()), ())))⟩
noncomputable def T_zac (a1_ : List Y1) (a2_ : (HL [y1] → Option (Int))) : Tr Y1 :=
 .g (inR (0 : Int) (List.length a1_)) <|
 .c Y1 (L_zac_0 (a2_, (a1_, ((List.length a1_ : Nat) : Int))) ((List.getD a1_ (Int.toNat (0 : Int)) ([] : Y1)), (0 : Int))) fun r9_ =>
 .l r9_
noncomputable def F_zac (a1_ : List Y1) (a2_ : (HL [y1] → Option (Int))) : Option Y1 := (T_zac a1_ a2_).ev
noncomputable def A_zac : Sh := (.cons (.dat y2) (.cons (.clo [y1] yi) .nil))
noncomputable def I_zac : List (Nat × OSh) := []
noncomputable def K_zac : RetK := { acts := [], res := [.tmp 4], sh := (.cons (.dat y1) .nil), obs := [], pins := [] }
noncomputable def D_zac : FD := ⟨A_zac, I_zac, [], Y1, fun x => F_zac x.1.1 x.1.2.1, fun r => ([.dat y1 r], [])⟩
noncomputable def E_zac : Env := envOf []
noncomputable def Z_zac : Nat → Nat → List Nat := fun _ _ => []
noncomputable def O_zac : List (Nat × LD) := [(0, DL_zac_0)]
noncomputable def C_zac : Code := (f83.body).getD .skip
noncomputable def T_zd (a1_ : Y1) (a2_ : List Y1) : Tr (Y1 × (Bool)) :=
 .c (Bool) (F_zn a1_ a2_) fun r1_ =>
 .t (!r1_)
 (.l (([] : Y1), false))
 (.c Y2 (F_zad ((List.length a1_ : Nat) : Int)) fun r2_ =>
 .c Y1 (F_zac r2_ (fun h3_ => Option.bind (F_zm a1_ a2_ h3_.1) fun y4_ => some y4_)) fun r5_ =>
 .l (r5_, true))
noncomputable def F_zd (a1_ : Y1) (a2_ : List Y1) : Option (Y1 × (Bool)) := (T_zd a1_ a2_).ev
noncomputable def A_zd : Sh := (.cons (.agg (.cons (.dat y1) (.cons (.dat y2) .nil))) .nil)
noncomputable def I_zd : List (Nat × OSh) := []
noncomputable def K_zd : RetK := { acts := [], res := [.tmp 2, .tmp 3], sh := (.cons (.dat y1) (.cons (.dat .bool) .nil)), obs := [], pins := [] }
noncomputable def D_zd : FD := ⟨A_zd, I_zd, [], Y1 × (Bool), fun x => F_zd x.1.1.1 x.1.1.2.1, fun r => ([.dat y1 r.1, .dat .bool r.2], [])⟩
noncomputable def E_zd : Env := envOf [(106, D_zn), (118, D_zad), (83, D_zac), (83, D_zac), (130, D_zm)]
noncomputable def Z_zd : Nat → Nat → List Nat := fun r i => match look [(3, [(6, [10])])] r with
 | some l => (look l i).getD []
 | none => []
noncomputable def O_zd : List (Nat × LD) := []
noncomputable def C_zd : Code := (f132.body).getD .skip
noncomputable def T_ze (a1_ : Y1) (a2_ : List Y1) : Tr (Int × (Bool)) :=
 .c (Y1 × (Bool)) (F_zd a1_ a2_) fun r1_ =>
 .t (!r1_.2)
 (.l ((0 : Int), false))
 (.c (Int) (F_zm a1_ a2_ r1_.1) fun r2_ =>
 .l (r2_, true))
noncomputable def F_ze (a1_ : Y1) (a2_ : List Y1) : Option (Int × (Bool)) := (T_ze a1_ a2_).ev
noncomputable def A_ze : Sh := (.cons (.agg (.cons (.dat y1) (.cons (.dat y2) .nil))) .nil)
noncomputable def I_ze : List (Nat × OSh) := []
noncomputable def K_ze : RetK := { acts := [], res := [.tmp 2, .tmp 3], sh := (.cons (.dat yi) (.cons (.dat .bool) .nil)), obs := [], pins := [] }
noncomputable def D_ze : FD := ⟨A_ze, I_ze, [], Int × (Bool), fun x => F_ze x.1.1.1 x.1.1.2.1, fun r => ([.dat yi r.1, .dat .bool r.2], [])⟩
noncomputable def E_ze : Env := envOf [(132, D_zd), (130, D_zm)]
noncomputable def Z_ze : Nat → Nat → List Nat := fun _ _ => []
noncomputable def O_ze : List (Nat × LD) := []
noncomputable def C_ze : Code := (f63.body).getD .skip
noncomputable def S_zaf_2 (k : Int × (Int × (Int × (Y1 × (Y2 × Y2))))) (v : Int × Y1) : Tr ((Int × Y1) ⊕ (Y1 ⊕ (Unit))) :=
 .g (inR k.2.2.1 (List.length k.2.2.2.2.2)) <|
 .g (decide ((Int.toNat k.2.2.1) < List.length k.2.2.2.2.2)) <|
 .t (decide (v.1 < ((List.length (List.getD k.2.2.2.2.2 (Int.toNat k.2.2.1) ([] : Y1)) : Nat) : Int)))
 (.g (inR k.2.2.1 (List.length k.2.2.2.2.2)) <|
 .g (decide ((Int.toNat k.2.2.1) < List.length k.2.2.2.2.2)) <|
 .g (inR v.1 (List.length (List.getD k.2.2.2.2.2 (Int.toNat k.2.2.1) ([] : Y1)))) <|
 .c (Bool) (F_zah v.2 (List.getD (List.getD k.2.2.2.2.2 (Int.toNat k.2.2.1) ([] : Y1)) (Int.toNat v.1) (0 : Int))) fun r23_ =>
 .t r23_
 (.l (.inr (.inr ())))
 (.g (inR k.2.2.1 (List.length k.2.2.2.2.2)) <|
 .g (decide ((Int.toNat k.2.2.1) < List.length k.2.2.2.2.2)) <|
 .g (inR v.1 (List.length (List.getD k.2.2.2.2.2 (Int.toNat k.2.2.1) ([] : Y1)))) <|
 .g (decide ((List.length v.2 + List.length ([(List.getD (List.getD k.2.2.2.2.2 (Int.toNat k.2.2.1) ([] : Y1)) (Int.toNat v.1) (0 : Int))] : Y1)) * 8 ≤ 140737488355328)) <|
 .l (.inl ((IntKind.wrap .i64 (v.1 + (1 : Int))), (v.2 ++ ([(List.getD (List.getD k.2.2.2.2.2 (Int.toNat k.2.2.1) ([] : Y1)) (Int.toNat v.1) (0 : Int))] : Y1))))))
 (.l (.inr (.inl v.2)))
noncomputable def L_zaf_2 (k : Int × (Int × (Int × (Y1 × (Y2 × Y2))))) (v : Int × Y1) : Option (Y1 ⊕ (Unit)) := iter (fun v => (S_zaf_2 k v).ev) v
noncomputable def DL_zaf_2 : LD := ⟨{ acts := [], S := { slots := [3, 4, 8, 12, 13, 14, 15], sh := (.cons (.box 3 0) (.cons (.arr 2304) (.cons (.dat yi) (.cons (.arr 78) (.cons (.dat yi) (.cons (.dat yi) (.cons (.dat yi) .nil))))))), obs := [(3, .cells (.cons (.dat y1) (.cons (.dat y2) .nil))), (2304, .arr 22 y1), (78, .arr 3 yi)] } }, [(2, { acts := [], S := { slots := [3, 4, 8, 12, 13, 14], sh := (.cons (.box 3 0) (.cons (.arr 2304) (.cons (.dat yi) (.cons (.arr 78) (.cons (.dat yi) (.cons (.dat yi) .nil)))))), obs := [(3, .cells (.cons (.dat y1) (.cons (.dat y2) .nil))), (2304, .arr 22 y1), (78, .arr 3 yi)] } })], (yh [2] (.cons (.dat .bool) .nil)), Int × (Int × (Int × (Y1 × (Y2 × Y2)))), Int × Y1, Y1 ⊕ (Unit), fun k v => (((), ((), (k.1, ((), (k.2.1, (k.2.2.1, (v.1, ()))))))), ((k.2.2.2.1, (k.2.2.2.2.1, ())), (k.2.2.2.2.2, (v.2, ())))), fun t => (t.1.2.2.1, (t.1.2.2.2.2.1, (t.1.2.2.2.2.2.1, (t.2.1.1, (t.2.1.2.1, t.2.2.1))))), fun t => (t.1.2.2.2.2.2.2.1, t.2.2.2.1), S_zaf_2, fun k r => .s Y1 (Unit) r (fun a => .l (.exit 2 (mkSt ({ slots := [3, 4, 8, 12, 13, 14], sh := (.cons (.box 3 0) (.cons (.arr 2304) (.cons (.dat yi) (.cons (.arr 78) (.cons (.dat yi) (.cons (.dat yi) .nil)))))), obs := [(3, .cells (.cons (.dat y1) (.cons (.dat y2) .nil))), (2304, .arr 22 y1), (78, .arr 3 yi)] }) (((), ((), (k.1, ((), (k.2.1, (k.2.2.1, ())))))), ((k.2.2.2.1, (k.2.2.2.2.1, ())), (k.2.2.2.2.2, (a, ()))))))) (fun _ => .l (.ret (mkSt ((ys [2] (.cons (.dat .bool) .nil))) ((false, ()), ()))))⟩
noncomputable def S_zaf_6 (k : Int × (Int × (Int × (Int × (Y1 × (Y2 × (Y2 × (Y1 × Y1)))))))) (v : Int × Int) : Tr ((Int × Int) ⊕ (Int)) :=
 .t (decide (v.2 ≤ k.2.2.1))
 (.g (inR v.2 (List.length k.2.2.2.2.2.1)) <|
 .g (inR v.2 (List.length k.2.2.2.2.2.2.2.2)) <|
 .g (decide ((Int.toNat v.2) < List.length k.2.2.2.2.2.2.2.2)) <|
 .g (inR (List.getD k.2.2.2.2.2.2.2.2 (Int.toNat v.2) (0 : Int)) (List.length (List.getD k.2.2.2.2.2.1 (Int.toNat v.2) ([] : Y1)))) <|
 .g (inR v.2 (List.length k.2.2.2.2.2.1)) <|
 .g (inR k.2.2.2.1 (List.length (List.getD k.2.2.2.2.2.1 (Int.toNat v.2) ([] : Y1)))) <|
 .t (decide ((0 : Int) < (IntKind.wrap .i64 ((List.getD (List.getD k.2.2.2.2.2.1 (Int.toNat v.2) ([] : Y1)) (Int.toNat (List.getD k.2.2.2.2.2.2.2.2 (Int.toNat v.2) (0 : Int))) (0 : Int)) - (List.getD (List.getD k.2.2.2.2.2.1 (Int.toNat v.2) ([] : Y1)) (Int.toNat k.2.2.2.1) (0 : Int))))))
 (.l (.inl ((IntKind.wrap .i64 (v.1 + (IntKind.wrap .i64 ((List.getD (List.getD k.2.2.2.2.2.1 (Int.toNat v.2) ([] : Y1)) (Int.toNat (List.getD k.2.2.2.2.2.2.2.2 (Int.toNat v.2) (0 : Int))) (0 : Int)) - (List.getD (List.getD k.2.2.2.2.2.1 (Int.toNat v.2) ([] : Y1)) (Int.toNat k.2.2.2.1) (0 : Int)))))), (IntKind.wrap .i64 (v.2 + (1 : Int))))))
 (.l (.inl (v.1, (IntKind.wrap .i64 (v.2 + (1 : Int)))))))
 (.l (.inr v.1))
noncomputable def L_zaf_6 (k : Int × (Int × (Int × (Int × (Y1 × (Y2 × (Y2 × (Y1 × Y1)))))))) (v : Int × Int) : Option (Int) := iter (fun v => (S_zaf_6 k v).ev) v
noncomputable def DL_zaf_6 : LD := ⟨{ acts := [], S := { slots := [3, 4, 8, 12, 13, 14, 16, 20, 21, 22], sh := (.cons (.box 3 0) (.cons (.arr 2304) (.cons (.dat yi) (.cons (.arr 78) (.cons (.dat yi) (.cons (.dat yi) (.cons (.arr 7488) (.cons (.dat yi) (.cons (.dat yi) (.cons (.dat yi) .nil)))))))))), obs := [(3, .cells (.cons (.dat y1) (.cons (.dat y2) .nil))), (2304, .arr 22 y1), (78, .arr 3 yi), (7488, .arr 3 yi)] } }, [(6, { acts := [], S := { slots := [3, 4, 8, 12, 13, 14, 16, 20, 21], sh := (.cons (.box 3 0) (.cons (.arr 2304) (.cons (.dat yi) (.cons (.arr 78) (.cons (.dat yi) (.cons (.dat yi) (.cons (.arr 7488) (.cons (.dat yi) (.cons (.dat yi) .nil))))))))), obs := [(3, .cells (.cons (.dat y1) (.cons (.dat y2) .nil))), (2304, .arr 22 y1), (78, .arr 3 yi), (7488, .arr 3 yi)] } })], (yh [] .nil), Int × (Int × (Int × (Int × (Y1 × (Y2 × (Y2 × (Y1 × Y1))))))), Int × (Int), Int, fun k v => (((), ((), (k.1, ((), (k.2.1, (k.2.2.1, ((), (k.2.2.2.1, (v.1, (v.2, ())))))))))), ((k.2.2.2.2.1, (k.2.2.2.2.2.1, ())), (k.2.2.2.2.2.2.1, (k.2.2.2.2.2.2.2.1, (k.2.2.2.2.2.2.2.2, ()))))), fun t => (t.1.2.2.1, (t.1.2.2.2.2.1, (t.1.2.2.2.2.2.1, (t.1.2.2.2.2.2.2.2.1, (t.2.1.1, (t.2.1.2.1, (t.2.2.1, (t.2.2.2.1, t.2.2.2.2.1)))))))), fun t => (t.1.2.2.2.2.2.2.2.2.1, t.1.2.2.2.2.2.2.2.2.2.1), S_zaf_6, fun k r => .l (.exit 6 (mkSt ({ slots := [3, 4, 8, 12, 13, 14, 16, 20, 21], sh := (.cons (.box 3 0) (.cons (.arr 2304) (.cons (.dat yi) (.cons (.arr 78) (.cons (.dat yi) (.cons (.dat yi) (.cons (.arr 7488) (.cons (.dat yi) (.cons (.dat yi) .nil))))))))), obs := [(3, .cells (.cons (.dat y1) (.cons (.dat y2) .nil))), (2304, .arr 22 y1), (78, .arr 3 yi), (7488, .arr 3 yi)] }) (((), ((), (k.1, ((), (k.2.1, (k.2.2.1, ((), (k.2.2.2.1, (r, ()))))))))), ((k.2.2.2.2.1, (k.2.2.2.2.2.1, ())), (k.2.2.2.2.2.2.1, (k.2.2.2.2.2.2.2.1, (k.2.2.2.2.2.2.2.2, ())))))))⟩
noncomputable def S_zaf_4 (k : Int × (Int × (Int × (Y1 × (Y2 × (Y2 × (Y1 × Y1))))))) (v : Int) : Tr ((Int) ⊕ ((Unit) ⊕ (Unit))) :=
 .t (decide (v < ((List.length k.2.2.2.1 : Nat) : Int)))
 (.c (Int) (L_zaf_6 (k.1, (k.2.1, (k.2.2.1, (v, (k.2.2.2.1, (k.2.2.2.2.1, (k.2.2.2.2.2.1, (k.2.2.2.2.2.2.1, k.2.2.2.2.2.2.2)))))))) ((0 : Int), (0 : Int))) fun r70_ =>
 .c (Bool) (F_zah k.2.2.2.2.2.2.1 v) fun r71_ =>
 .t (!r71_)
 (.g (inR v (List.length k.2.2.2.1)) <|
 .t (decide ((List.getD k.2.2.2.1 (Int.toNat v) (0 : Int)) < r70_))
 (.l (.inr (.inr ())))
 (.l (.inl (IntKind.wrap .i64 (v + (1 : Int))))))
 (.l (.inl (IntKind.wrap .i64 (v + (1 : Int))))))
 (.l (.inr (.inl ())))
noncomputable def L_zaf_4 (k : Int × (Int × (Int × (Y1 × (Y2 × (Y2 × (Y1 × Y1))))))) (v : Int) : Option ((Unit) ⊕ (Unit)) := iter (fun v => (S_zaf_4 k v).ev) v
noncomputable def DL_zaf_4 : LD := ⟨{ acts := [], S := { slots := [3, 4, 8, 12, 13, 14, 16, 20], sh := (.cons (.box 3 0) (.cons (.arr 2304) (.cons (.dat yi) (.cons (.arr 78) (.cons (.dat yi) (.cons (.dat yi) (.cons (.arr 7488) (.cons (.dat yi) .nil)))))))), obs := [(3, .cells (.cons (.dat y1) (.cons (.dat y2) .nil))), (2304, .arr 22 y1), (78, .arr 3 yi), (7488, .arr 3 yi)] } }, [(4, { acts := [], S := { slots := [3, 4, 8, 12, 13, 14], sh := (.cons (.box 3 0) (.cons (.arr 2304) (.cons (.dat yi) (.cons (.arr 78) (.cons (.dat yi) (.cons (.dat yi) .nil)))))), obs := [(3, .cells (.cons (.dat y1) (.cons (.dat y2) .nil))), (2304, .arr 22 y1), (78, .arr 3 yi)] } })], (yh [2] (.cons (.dat .bool) .nil)), Int × (Int × (Int × (Y1 × (Y2 × (Y2 × (Y1 × Y1)))))), Int, (Unit) ⊕ (Unit), fun k v => (((), ((), (k.1, ((), (k.2.1, (k.2.2.1, ((), (v, ())))))))), ((k.2.2.2.1, (k.2.2.2.2.1, ())), (k.2.2.2.2.2.1, (k.2.2.2.2.2.2.1, (k.2.2.2.2.2.2.2, ()))))), fun t => (t.1.2.2.1, (t.1.2.2.2.2.1, (t.1.2.2.2.2.2.1, (t.2.1.1, (t.2.1.2.1, (t.2.2.1, (t.2.2.2.1, t.2.2.2.2.1))))))), fun t => t.1.2.2.2.2.2.2.2.1, S_zaf_4, fun k r => .s (Unit) (Unit) r (fun _ => .l (.exit 4 (mkSt ({ slots := [3, 4, 8, 12, 13, 14], sh := (.cons (.box 3 0) (.cons (.arr 2304) (.cons (.dat yi) (.cons (.arr 78) (.cons (.dat yi) (.cons (.dat yi) .nil)))))), obs := [(3, .cells (.cons (.dat y1) (.cons (.dat y2) .nil))), (2304, .arr 22 y1), (78, .arr 3 yi)] }) (((), ((), (k.1, ((), (k.2.1, (k.2.2.1, ())))))), ((k.2.2.2.1, (k.2.2.2.2.1, ())), (k.2.2.2.2.2.1, (k.2.2.2.2.2.2.1, ()))))))) (fun _ => .l (.ret (mkSt ((ys [2] (.cons (.dat .bool) .nil))) ((false, ()), ()))))⟩
noncomputable def S_zaf_0 (k : Int × (Y1 × (Y2 × Y2))) (v : Int × (Int × Y1)) : Tr ((Int × (Int × Y1)) ⊕ ((Int × Y1) ⊕ (Unit))) :=
 .t (decide (v.2.1 < ((List.length k.2.2.2 : Nat) : Int)))
 (.c (Y1 ⊕ (Unit)) (L_zaf_2 (k.1, (v.1, (v.2.1, (k.2.1, (k.2.2.1, k.2.2.2))))) ((0 : Int), v.2.2)) fun r32_ =>
 .s Y1 (Unit) r32_
 (fun r33_ => .c Y1 (F_zaj r33_) fun r35_ =>
 .c (Bool × Y1) (F_zs k.2.1 k.2.2.1 r35_) fun r36_ =>
 .c Y1 (F_zaj r33_) fun r37_ =>
 .c (Bool × Y1) (F_zbh k.2.1 k.2.2.1 r37_) fun r38_ =>
 .t (!r36_.1)
 (.l (.inr (.inr ())))
 (.t (!r38_.1)
 (.l (.inr (.inr ())))
 (.c (Bool) (F_zai r36_.2 r38_.2) fun r39_ =>
 .t (!r39_)
 (.l (.inr (.inr ())))
 (.g (inR v.2.1 (List.length k.2.2.1)) <|
 .g (inR v.2.1 (List.length r36_.2)) <|
 .g (decide ((Int.toNat v.2.1) < List.length r36_.2)) <|
 .g (inR (List.getD r36_.2 (Int.toNat v.2.1) (0 : Int)) (List.length (List.getD k.2.2.1 (Int.toNat v.2.1) ([] : Y1)))) <|
 .c ((Unit) ⊕ (Unit)) (L_zaf_4 (k.1, ((IntKind.wrap .i64 (v.1 + (List.getD (List.getD k.2.2.1 (Int.toNat v.2.1) ([] : Y1)) (Int.toNat (List.getD r36_.2 (Int.toNat v.2.1) (0 : Int))) (0 : Int)))), (v.2.1, (k.2.1, (k.2.2.1, (k.2.2.2, (r33_, r36_.2))))))) (0 : Int)) fun r80_ =>
 .s (Unit) (Unit) r80_
 (fun _ => .l (.inl ((IntKind.wrap .i64 (v.1 + (List.getD (List.getD k.2.2.1 (Int.toNat v.2.1) ([] : Y1)) (Int.toNat (List.getD r36_.2 (Int.toNat v.2.1) (0 : Int))) (0 : Int)))), ((IntKind.wrap .i64 (v.2.1 + (1 : Int))), r33_))))
 (fun _ => .l (.inr (.inr ())))))))
 (fun _ => .l (.inr (.inr ()))))
 (.l (.inr (.inl (v.1, v.2.2))))
noncomputable def L_zaf_0 (k : Int × (Y1 × (Y2 × Y2))) (v : Int × (Int × Y1)) : Option ((Int × Y1) ⊕ (Unit)) := iter (fun v => (S_zaf_0 k v).ev) v
noncomputable def DL_zaf_0 : LD := ⟨{ acts := [], S := { slots := [3, 4, 8, 12, 13, 14], sh := (.cons (.box 3 0) (.cons (.arr 2304) (.cons (.dat yi) (.cons (.arr 78) (.cons (.dat yi) (.cons (.dat yi) .nil)))))), obs := [(3, .cells (.cons (.dat y1) (.cons (.dat y2) .nil))), (2304, .arr 22 y1), (78, .arr 3 yi)] } }, [(0, { acts := [], S := { slots := [3, 4, 8, 12, 13], sh := (.cons (.box 3 0) (.cons (.arr 2304) (.cons (.dat yi) (.cons (.arr 78) (.cons (.dat yi) .nil))))), obs := [(3, .cells (.cons (.dat y1) (.cons (.dat y2) .nil))), (2304, .arr 22 y1), (78, .arr 3 yi)] } })], (yh [2] (.cons (.dat .bool) .nil)), Int × (Y1 × (Y2 × Y2)), Int × (Int × Y1), (Int × Y1) ⊕ (Unit), fun k v => (((), ((), (k.1, ((), (v.1, (v.2.1, ())))))), ((k.2.1, (k.2.2.1, ())), (k.2.2.2, (v.2.2, ())))), fun t => (t.1.2.2.1, (t.2.1.1, (t.2.1.2.1, t.2.2.1))), fun t => (t.1.2.2.2.2.1, (t.1.2.2.2.2.2.1, t.2.2.2.1)), S_zaf_0, fun k r => .s (Int × Y1) (Unit) r (fun a => .l (.exit 0 (mkSt ({ slots := [3, 4, 8, 12, 13], sh := (.cons (.box 3 0) (.cons (.arr 2304) (.cons (.dat yi) (.cons (.arr 78) (.cons (.dat yi) .nil))))), obs := [(3, .cells (.cons (.dat y1) (.cons (.dat y2) .nil))), (2304, .arr 22 y1), (78, .arr 3 yi)] }) (((), ((), (k.1, ((), (a.1, ()))))), ((k.2.1, (k.2.2.1, ())), (k.2.2.2, (a.2, ()))))))) (fun _ => .l (.ret (mkSt ((ys [2] (.cons (.dat .bool) .nil))) ((false, ()), ()))))⟩
noncomputable def T_zaf (a1_ : Y1) : Tr (Bool) :=
 .c (Bool) (F_zag a1_) fun r1_ =>
 .t r1_
 (.l true)
 (.c (Y1 × Y2) (F_zbe a1_) fun r2_ =>
 .c (Bool × Y2) (F_zp r2_.1 r2_.2) fun r3_ =>
 .c (Bool × Y2) (F_zbf r2_.1 r2_.2) fun r4_ =>
 .t (!(r3_.1 == r4_.1))
 (.l false)
 (.c (Bool) (F_zak r3_.2 r4_.2) fun r5_ =>
 .t (!r5_)
 (.l false)
 (.c (Int × (Bool)) (F_zq r2_.1 r2_.2) fun r6_ =>
 .c (Int × (Bool)) (F_zbg r2_.1 r2_.2) fun r7_ =>
 .t (r6_.1 != r7_.1)
 (.l false)
 (.t (!(r6_.2 == r7_.2))
 (.l false)
 (.t (!(r6_.2 == r3_.1))
 (.l false)
 (.t (!r3_.1)
 (.l true)
 (.c ((Int × Y1) ⊕ (Unit)) (L_zaf_0 (r6_.1, (r2_.1, (r2_.2, r3_.2))) ((0 : Int), ((0 : Int), ([] : Y1)))) fun r90_ =>
 .s (Int × Y1) (Unit) r90_
 (fun r91_ => .t (((List.length r3_.2 : Nat) : Int) == (0 : Int))
 (.l (r6_.1 == (0 : Int)))
 (.c Y1 (F_zaj r91_.2) fun r93_ =>
 .c (Int × (Bool)) (F_zt r2_.1 r2_.2 r93_) fun r94_ =>
 .c Y1 (F_zaj r91_.2) fun r95_ =>
 .c (Int × (Bool)) (F_zr r2_.1 r2_.2 r95_) fun r96_ =>
 .c (Int × (Bool)) (F_ze r2_.1 r2_.2) fun r97_ =>
 .t r94_.2
 (.t r96_.2
 (.t r97_.2
 (.t (r6_.1 == (IntKind.wrap .i64 (r91_.1 + r96_.1)))
 (.t (decide (r94_.1 ≤ r6_.1))
 (.l (decide (r97_.1 ≤ r94_.1)))
 (.l false))
 (.l false))
 (.l false))
 (.l false))
 (.l false)))
 (fun _ => .l false))))))))
noncomputable def F_zaf (a1_ : Y1) : Option (Bool) := (T_zaf a1_).ev
noncomputable def A_zaf : Sh := (.cons (.dat (.slice (.int .u8))) .nil)
noncomputable def I_zaf : List (Nat × OSh) := []
noncomputable def K_zaf : RetK := { acts := [], res := [.tmp 2], sh := (.cons (.dat .bool) .nil), obs := [], pins := [] }
noncomputable def D_zaf : FD := ⟨A_zaf, I_zaf, [], Bool, fun x => F_zaf x.1.1, fun r => ([.dat .bool r], [])⟩
noncomputable def E_zaf : Env := envOf [(49, D_zag), (50, D_zbe), (51, D_zp), (52, D_zbf), (53, D_zak), (54, D_zq), (55, D_zbg), (56, D_zah), (58, D_zaj), (57, D_zs), (59, D_zbh), (60, D_zai), (61, D_zt), (62, D_zr), (63, D_ze)]
noncomputable def Z_zaf : Nat → Nat → List Nat := fun r i => match look [(4, [(1, [35])])] r with
 | some l => (look l i).getD []
 | none => []
noncomputable def O_zaf : List (Nat × LD) := [(2, DL_zaf_2), (6, DL_zaf_6), (4, DL_zaf_4), (0, DL_zaf_0)]
noncomputable def C_zaf : Code := (f12.body).getD .skip
end Go.Proofs.Ytlmbhkmaflhagaa
