import Derived.Test.YtlmbhkmaflhagaaGreatC3
import Derived.Test.YtlmbhkmaflhagaaGreatProg
namespace Go.Proofs.YtlmbhkmaflhagaaGreat
open Go.Proofs.Tryz
noncomputable def T_zat (a1_ : Int) : Tr (Int) :=
 .c (Int) (F_zau a1_) fun r1_ =>
 .l r1_
noncomputable def F_zat (a1_ : Int) : Option (Int) := (T_zat a1_).ev
noncomputable def A_zat : Sh := (.cons (.dat (.int .u64)) .nil)
noncomputable def I_zat : List (Nat × OSh) := []
noncomputable def K_zat : RetK := { acts := [], res := [.tmp 2], sh := (.cons (.dat yi) .nil), obs := [], pins := [] }
noncomputable def D_zat : FD := ⟨A_zat, I_zat, [], Int, fun x => F_zat x.1.1, fun r => ([.dat yi r], [])⟩
noncomputable def E_zat : Env := envOf [(127, D_zau)]
noncomputable def Z_zat : Nat → Nat → List Nat := fun _ _ => []
noncomputable def O_zat : List (Nat × LD) := []
noncomputable def C_zat : Code := (f112.body).getD .skip
noncomputable def S_zbi_2 (k : Int × (Int × (((HL [y1, y1] → Option (Int))) × Int))) (v : Int × Y2) : Tr ((Int × Y2) ⊕ Y2) :=
 .t (decide (k.1 < v.1))
 (.g (inR v.1 (List.length v.2)) <|
 .g (decide ((Int.toNat v.1) < List.length v.2)) <|
 .g (inR (IntKind.wrap .i64 (v.1 - (1 : Int))) (List.length v.2)) <|
 .g (decide ((Int.toNat (IntKind.wrap .i64 (v.1 - (1 : Int)))) < List.length v.2)) <|
 .c (Int) (k.2.2.1 ((List.getD v.2 (Int.toNat v.1) ([] : Y1)), ((List.getD v.2 (Int.toNat (IntKind.wrap .i64 (v.1 - (1 : Int)))) ([] : Y1)), ()))) fun r12_ =>
 .t (decide (r12_ < (0 : Int)))
 (.g (inR (IntKind.wrap .i64 (v.1 - (1 : Int))) (List.length v.2)) <|
 .g (decide ((Int.toNat (IntKind.wrap .i64 (v.1 - (1 : Int)))) < List.length v.2)) <|
 .g (inR v.1 (List.length v.2)) <|
 .g (decide ((Int.toNat v.1) < List.length v.2)) <|
 .g (inR v.1 (List.length v.2)) <|
 .g (decide ((Int.toNat v.1) < List.length v.2)) <|
 .g (inR (IntKind.wrap .i64 (v.1 - (1 : Int))) (List.length (List.set v.2 (Int.toNat v.1) (List.getD v.2 (Int.toNat (IntKind.wrap .i64 (v.1 - (1 : Int)))) ([] : Y1))))) <|
 .g (decide ((Int.toNat (IntKind.wrap .i64 (v.1 - (1 : Int)))) < List.length (List.set v.2 (Int.toNat v.1) (List.getD v.2 (Int.toNat (IntKind.wrap .i64 (v.1 - (1 : Int)))) ([] : Y1))))) <|
 .l (.inl ((IntKind.wrap .i64 (v.1 - (1 : Int))), (List.set (List.set v.2 (Int.toNat v.1) (List.getD v.2 (Int.toNat (IntKind.wrap .i64 (v.1 - (1 : Int)))) ([] : Y1))) (Int.toNat (IntKind.wrap .i64 (v.1 - (1 : Int)))) (List.getD v.2 (Int.toNat v.1) ([] : Y1))))))
 (.l (.inr v.2)))
 (.l (.inr v.2))
noncomputable def L_zbi_2 (k : Int × (Int × (((HL [y1, y1] → Option (Int))) × Int))) (v : Int × Y2) : Option Y2 := iter (fun v => (S_zbi_2 k v).ev) v
noncomputable def DL_zbi_2 : LD := ⟨{ acts := [], S := { slots := [0, 1, 2, 3, 8, 9], sh := (.cons (.arr 64) (.cons (.dat yi) (.cons (.dat yi) (.cons (.clo [y1, y1] yi) (.cons (.dat yi) (.cons (.dat yi) .nil)))))), obs := [(64, .arr 24 y1)] } }, [(2, { acts := [], S := { slots := [0, 1, 2, 3, 8], sh := (.cons (.arr 64) (.cons (.dat yi) (.cons (.dat yi) (.cons (.clo [y1, y1] yi) (.cons (.dat yi) .nil))))), obs := [(64, .arr 24 y1)] } })], (yh [] .nil), Int × (Int × (((HL [y1, y1] → Option (Int))) × Int)), Int × Y2, List Y1, fun k v => (((), (k.1, (k.2.1, (k.2.2.1, (k.2.2.2, (v.1, ())))))), (v.2, ())), fun t => (t.1.2.1, (t.1.2.2.1, (t.1.2.2.2.1, t.1.2.2.2.2.1))), fun t => (t.1.2.2.2.2.2.1, t.2.1), S_zbi_2, fun k r => .l (.exit 2 (mkSt ({ slots := [0, 1, 2, 3, 8], sh := (.cons (.arr 64) (.cons (.dat yi) (.cons (.dat yi) (.cons (.clo [y1, y1] yi) (.cons (.dat yi) .nil))))), obs := [(64, .arr 24 y1)] }) (((), (k.1, (k.2.1, (k.2.2.1, (k.2.2.2, ()))))), (r, ()))))⟩
noncomputable def S_zbi_0 (k : Int × (Int × ((HL [y1, y1] → Option (Int))))) (v : Int × Y2) : Tr ((Int × Y2) ⊕ Y2) :=
 .t (decide (v.1 < k.2.1))
 (.c Y2 (L_zbi_2 (k.1, (k.2.1, (k.2.2, v.1))) (v.1, v.2)) fun r18_ =>
 .l (.inl ((IntKind.wrap .i64 (v.1 + (1 : Int))), r18_)))
 (.l (.inr v.2))
noncomputable def L_zbi_0 (k : Int × (Int × ((HL [y1, y1] → Option (Int))))) (v : Int × Y2) : Option Y2 := iter (fun v => (S_zbi_0 k v).ev) v
noncomputable def DL_zbi_0 : LD := ⟨{ acts := [], S := { slots := [0, 1, 2, 3, 8], sh := (.cons (.arr 64) (.cons (.dat yi) (.cons (.dat yi) (.cons (.clo [y1, y1] yi) (.cons (.dat yi) .nil))))), obs := [(64, .arr 24 y1)] } }, [(0, { acts := [], S := { slots := [0], sh := (.cons (.arr 64) .nil), obs := [(64, .arr 24 y1)] } })], (yh [] .nil), Int × (Int × ((HL [y1, y1] → Option (Int)))), Int × Y2, List Y1, fun k v => (((), (k.1, (k.2.1, (k.2.2, (v.1, ()))))), (v.2, ())), fun t => (t.1.2.1, (t.1.2.2.1, t.1.2.2.2.1)), fun t => (t.1.2.2.2.2.1, t.2.1), S_zbi_0, fun _ r => .l (.exit 0 (mkSt ({ slots := [0], sh := (.cons (.arr 64) .nil), obs := [(64, .arr 24 y1)] }) (((), ()), (r, ()))))⟩
noncomputable def T_zbi (a2_ : Int) (a3_ : Int) (a4_ : (HL [y1, y1] → Option (Int))) (a1_ : List Y1) : Tr Y2 :=
 .c Y2 (L_zbi_0 (a2_, (a3_, a4_)) ((IntKind.wrap .i64 (a2_ + (1 : Int))), a1_)) fun r20_ =>
 .l r20_
noncomputable def F_zbi (a2_ : Int) (a3_ : Int) (a4_ : (HL [y1, y1] → Option (Int))) (a1_ : List Y1) : Option Y2 := (T_zbi a2_ a3_ a4_ a1_).ev
noncomputable def A_zbi : Sh := (.cons (.arr 64) (.cons (.dat yi) (.cons (.dat yi) (.cons (.clo [y1, y1] yi) .nil))))
noncomputable def I_zbi : List (Nat × OSh) := [(64, .arr 24 y1)]
noncomputable def K_zbi : RetK := { acts := [], res := [], sh := .nil, obs := [(64, .arr 24 y1)], pins := [(0, 0, 64)] }
noncomputable def D_zbi : FD := ⟨A_zbi, I_zbi, [.arg 0], List Y1, fun x => F_zbi x.1.2.1 x.1.2.2.1 x.1.2.2.2.1 x.2.1, fun r => ([], [(64, .arr 24 y1 r)])⟩
noncomputable def E_zbi : Env := envOf []
noncomputable def Z_zbi : Nat → Nat → List Nat := fun _ _ => []
noncomputable def O_zbi : List (Nat × LD) := [(2, DL_zbi_2), (0, DL_zbi_0)]
noncomputable def C_zbi : Code := (f118.body).getD .skip
noncomputable def T_zbl (a1_ : List Y1) (a2_ : Int) (a3_ : Int) (a5_ : (HL [y1, y1] → Option (Int))) (a4_ : Int) : Tr (Int × (Int × Int)) :=
 .g (inR a3_ (List.length a1_)) <|
 .g (inR a2_ (List.length a1_)) <|
 .c (Int) (a5_ ((List.getD a1_ (Int.toNat a3_) ([] : Y1)), ((List.getD a1_ (Int.toNat a2_) ([] : Y1)), ()))) fun r1_ =>
 .t (decide (r1_ < (0 : Int)))
 (.l (a3_, (a2_, (IntKind.wrap .i64 (a4_ + (1 : Int))))))
 (.l (a2_, (a3_, a4_)))
noncomputable def F_zbl (a1_ : List Y1) (a2_ : Int) (a3_ : Int) (a5_ : (HL [y1, y1] → Option (Int))) (a4_ : Int) : Option (Int × (Int × Int)) := (T_zbl a1_ a2_ a3_ a5_ a4_).ev
noncomputable def A_zbl : Sh := (.cons (.dat y2) (.cons (.dat yi) (.cons (.dat yi) (.cons (.box 64 0) (.cons (.clo [y1, y1] yi) .nil)))))
noncomputable def I_zbl : List (Nat × OSh) := [(64, .cells (.cons (.dat yi) .nil))]
noncomputable def K_zbl : RetK := { acts := [], res := [.tmp 10, .tmp 11], sh := (.cons (.dat yi) (.cons (.dat yi) .nil)), obs := [(64, .cells (.cons (.dat yi) .nil))], pins := [(3, 0, 64)] }
noncomputable def D_zbl : FD := ⟨A_zbl, I_zbl, [.arg 3], Int × (Int × Int), fun x => F_zbl x.1.1 x.1.2.1 x.1.2.2.1 x.1.2.2.2.2.1 x.2.1.1, fun r => ([.dat yi r.1, .dat yi r.2.1], [(64, .cells [.dat yi r.2.2])])⟩
noncomputable def E_zbl : Env := envOf []
noncomputable def Z_zbl : Nat → Nat → List Nat := fun _ _ => []
noncomputable def O_zbl : List (Nat × LD) := []
noncomputable def C_zbl : Code := (f134.body).getD .skip
noncomputable def T_zbk (a1_ : List Y1) (a2_ : Int) (a3_ : Int) (a4_ : Int) (a6_ : (HL [y1, y1] → Option (Int))) (a5_ : Int) : Tr (Int × Int) :=
 .c (Int × (Int × Int)) (F_zbl a1_ a2_ a3_ a6_ a5_) fun r1_ =>
 .c (Int × (Int × Int)) (F_zbl a1_ r1_.2.1 a4_ a6_ r1_.2.2) fun r2_ =>
 .c (Int × (Int × Int)) (F_zbl a1_ r1_.1 r2_.1 a6_ r2_.2.2) fun r3_ =>
 .l (r3_.2.1, r3_.2.2)
noncomputable def F_zbk (a1_ : List Y1) (a2_ : Int) (a3_ : Int) (a4_ : Int) (a6_ : (HL [y1, y1] → Option (Int))) (a5_ : Int) : Option (Int × Int) := (T_zbk a1_ a2_ a3_ a4_ a6_ a5_).ev
noncomputable def A_zbk : Sh := (.cons (.dat y2) (.cons (.dat yi) (.cons (.dat yi) (.cons (.dat yi) (.cons (.box 64 0) (.cons (.clo [y1, y1] yi) .nil))))))
noncomputable def I_zbk : List (Nat × OSh) := [(64, .cells (.cons (.dat yi) .nil))]
noncomputable def K_zbk : RetK := { acts := [], res := [.tmp 12], sh := (.cons (.dat yi) .nil), obs := [(64, .cells (.cons (.dat yi) .nil))], pins := [(4, 0, 64)] }
noncomputable def D_zbk : FD := ⟨A_zbk, I_zbk, [.arg 4], Int × (Int), fun x => F_zbk x.1.1 x.1.2.1 x.1.2.2.1 x.1.2.2.2.1 x.1.2.2.2.2.2.1 x.2.1.1, fun r => ([.dat yi r.1], [(64, .cells [.dat yi r.2])])⟩
noncomputable def E_zbk : Env := envOf [(134, D_zbl)]
noncomputable def Z_zbk : Nat → Nat → List Nat := fun _ _ => []
noncomputable def O_zbk : List (Nat × LD) := []
noncomputable def C_zbk : Code := (f133.body).getD .skip
noncomputable def T_zbj (a1_ : List Y1) (a2_ : Int) (a4_ : (HL [y1, y1] → Option (Int))) (a3_ : Int) : Tr (Int × Int) :=
 .c (Int × Int) (F_zbk a1_ (IntKind.wrap .i64 (a2_ - (1 : Int))) a2_ (IntKind.wrap .i64 (a2_ + (1 : Int))) a4_ a3_) fun r1_ =>
 .l (r1_.1, r1_.2)
noncomputable def F_zbj (a1_ : List Y1) (a2_ : Int) (a4_ : (HL [y1, y1] → Option (Int))) (a3_ : Int) : Option (Int × Int) := (T_zbj a1_ a2_ a4_ a3_).ev
noncomputable def A_zbj : Sh := (.cons (.dat y2) (.cons (.dat yi) (.cons (.box 64 0) (.cons (.clo [y1, y1] yi) .nil))))
noncomputable def I_zbj : List (Nat × OSh) := [(64, .cells (.cons (.dat yi) .nil))]
noncomputable def K_zbj : RetK := { acts := [], res := [.tmp 8], sh := (.cons (.dat yi) .nil), obs := [(64, .cells (.cons (.dat yi) .nil))], pins := [(2, 0, 64)] }
noncomputable def D_zbj : FD := ⟨A_zbj, I_zbj, [.arg 2], Int × (Int), fun x => F_zbj x.1.1 x.1.2.1 x.1.2.2.2.1 x.2.1.1, fun r => ([.dat yi r.1], [(64, .cells [.dat yi r.2])])⟩
noncomputable def E_zbj : Env := envOf [(133, D_zbk)]
noncomputable def Z_zbj : Nat → Nat → List Nat := fun _ _ => []
noncomputable def O_zbj : List (Nat × LD) := []
noncomputable def C_zbj : Code := (f132.body).getD .skip
noncomputable def T_zbh (a1_ : List Y1) (a2_ : Int) (a3_ : Int) (a4_ : (HL [y1, y1] → Option (Int))) : Tr (Int × Int) :=
 .g (!decide ((4 : Int) = 0)) <|
 .g (!decide ((4 : Int) = 0)) <|
 .g (!decide ((4 : Int) = 0)) <|
 .t (decide ((8 : Int) ≤ (IntKind.wrap .i64 (a3_ - a2_))))
 (.t (decide ((50 : Int) ≤ (IntKind.wrap .i64 (a3_ - a2_))))
 (.c (Int × Int) (F_zbj a1_ (IntKind.wrap .i64 (a2_ + (IntKind.wrap .i64 ((IntKind.wrap .i64 (Int.tdiv (IntKind.wrap .i64 (a3_ - a2_)) (4 : Int))) * (1 : Int))))) a4_ (0 : Int)) fun r1_ =>
 .c (Int × Int) (F_zbj a1_ (IntKind.wrap .i64 (a2_ + (IntKind.wrap .i64 ((IntKind.wrap .i64 (Int.tdiv (IntKind.wrap .i64 (a3_ - a2_)) (4 : Int))) * (2 : Int))))) a4_ r1_.2) fun r2_ =>
 .c (Int × Int) (F_zbj a1_ (IntKind.wrap .i64 (a2_ + (IntKind.wrap .i64 ((IntKind.wrap .i64 (Int.tdiv (IntKind.wrap .i64 (a3_ - a2_)) (4 : Int))) * (3 : Int))))) a4_ r2_.2) fun r3_ =>
 .c (Int × Int) (F_zbk a1_ r1_.1 r2_.1 r3_.1 a4_ r3_.2) fun r4_ =>
 .t (r4_.2 == (0 : Int))
 (.l (r4_.1, (1 : Int)))
 (.t (r4_.2 == (12 : Int))
 (.l (r4_.1, (2 : Int)))
 (.l (r4_.1, (0 : Int)))))
 (.c (Int × Int) (F_zbk a1_ (IntKind.wrap .i64 (a2_ + (IntKind.wrap .i64 ((IntKind.wrap .i64 (Int.tdiv (IntKind.wrap .i64 (a3_ - a2_)) (4 : Int))) * (1 : Int))))) (IntKind.wrap .i64 (a2_ + (IntKind.wrap .i64 ((IntKind.wrap .i64 (Int.tdiv (IntKind.wrap .i64 (a3_ - a2_)) (4 : Int))) * (2 : Int))))) (IntKind.wrap .i64 (a2_ + (IntKind.wrap .i64 ((IntKind.wrap .i64 (Int.tdiv (IntKind.wrap .i64 (a3_ - a2_)) (4 : Int))) * (3 : Int))))) a4_ (0 : Int)) fun r5_ =>
 .t (r5_.2 == (0 : Int))
 (.l (r5_.1, (1 : Int)))
 (.t (r5_.2 == (12 : Int))
 (.l (r5_.1, (2 : Int)))
 (.l (r5_.1, (0 : Int))))))
 (.t ((0 : Int) == (0 : Int))
 (.l ((IntKind.wrap .i64 (a2_ + (IntKind.wrap .i64 ((IntKind.wrap .i64 (Int.tdiv (IntKind.wrap .i64 (a3_ - a2_)) (4 : Int))) * (2 : Int))))), (1 : Int)))
 (.t ((0 : Int) == (12 : Int))
 (.l ((IntKind.wrap .i64 (a2_ + (IntKind.wrap .i64 ((IntKind.wrap .i64 (Int.tdiv (IntKind.wrap .i64 (a3_ - a2_)) (4 : Int))) * (2 : Int))))), (2 : Int)))
 (.l ((IntKind.wrap .i64 (a2_ + (IntKind.wrap .i64 ((IntKind.wrap .i64 (Int.tdiv (IntKind.wrap .i64 (a3_ - a2_)) (4 : Int))) * (2 : Int))))), (0 : Int)))))
noncomputable def F_zbh (a1_ : List Y1) (a2_ : Int) (a3_ : Int) (a4_ : (HL [y1, y1] → Option (Int))) : Option (Int × Int) := (T_zbh a1_ a2_ a3_ a4_).ev
noncomputable def A_zbh : Sh := (.cons (.dat y2) (.cons (.dat yi) (.cons (.dat yi) (.cons (.clo [y1, y1] yi) .nil))))
noncomputable def I_zbh : List (Nat × OSh) := []
noncomputable def K_zbh : RetK := { acts := [], res := [.tmp 8, .tmp 9], sh := (.cons (.dat yi) (.cons (.dat yi) .nil)), obs := [], pins := [] }
noncomputable def D_zbh : FD := ⟨A_zbh, I_zbh, [], Int × (Int), fun x => F_zbh x.1.1 x.1.2.1 x.1.2.2.1 x.1.2.2.2.1, fun r => ([.dat yi r.1, .dat yi r.2], [])⟩
noncomputable def E_zbh : Env := envOf [(132, D_zbj), (133, D_zbk)]
noncomputable def Z_zbh : Nat → Nat → List Nat := fun _ _ => []
noncomputable def O_zbh : List (Nat × LD) := []
noncomputable def C_zbh : Code := (f121.body).getD .skip
noncomputable def S_zbm_0 (k : Int × (((HL [y1, y1] → Option (Int))) × (Int × Y2))) (v : Int) : Tr ((Int) ⊕ (Int)) :=
 .t (decide (v ≤ k.2.2.1))
 (.g (inR v (List.length k.2.2.2)) <|
 .g (decide ((Int.toNat v) < List.length k.2.2.2)) <|
 .g (inR k.1 (List.length k.2.2.2)) <|
 .g (decide ((Int.toNat k.1) < List.length k.2.2.2)) <|
 .c (Int) (k.2.1 ((List.getD k.2.2.2 (Int.toNat v) ([] : Y1)), ((List.getD k.2.2.2 (Int.toNat k.1) ([] : Y1)), ()))) fun r6_ =>
 .t (decide (r6_ < (0 : Int)))
 (.l (.inl (IntKind.wrap .i64 (v + (1 : Int)))))
 (.l (.inr v)))
 (.l (.inr v))
noncomputable def L_zbm_0 (k : Int × (((HL [y1, y1] → Option (Int))) × (Int × Y2))) (v : Int) : Option (Int) := iter (fun v => (S_zbm_0 k v).ev) v
noncomputable def DL_zbm_0 : LD := ⟨{ acts := [], S := { slots := [0, 1, 4, 12, 13], sh := (.cons (.arr 64) (.cons (.dat yi) (.cons (.clo [y1, y1] yi) (.cons (.dat yi) (.cons (.dat yi) .nil))))), obs := [(64, .arr 24 y1)] } }, [(0, { acts := [], S := { slots := [0, 1, 4, 12, 13], sh := (.cons (.arr 64) (.cons (.dat yi) (.cons (.clo [y1, y1] yi) (.cons (.dat yi) (.cons (.dat yi) .nil))))), obs := [(64, .arr 24 y1)] } })], (yh [] .nil), Int × (((HL [y1, y1] → Option (Int))) × (Int × Y2)), Int, Int, fun k v => (((), (k.1, (k.2.1, (v, (k.2.2.1, ()))))), (k.2.2.2, ())), fun t => (t.1.2.1, (t.1.2.2.1, (t.1.2.2.2.2.1, t.2.1))), fun t => t.1.2.2.2.1, S_zbm_0, fun k r => .l (.exit 0 (mkSt ({ slots := [0, 1, 4, 12, 13], sh := (.cons (.arr 64) (.cons (.dat yi) (.cons (.clo [y1, y1] yi) (.cons (.dat yi) (.cons (.dat yi) .nil))))), obs := [(64, .arr 24 y1)] }) (((), (k.1, (k.2.1, (r, (k.2.2.1, ()))))), (k.2.2.2, ()))))⟩
noncomputable def S_zbm_2 (k : Int × (((HL [y1, y1] → Option (Int))) × (Int × Y2))) (v : Int) : Tr ((Int) ⊕ (Int)) :=
 .t (decide (k.2.2.1 ≤ v))
 (.g (inR v (List.length k.2.2.2)) <|
 .g (decide ((Int.toNat v) < List.length k.2.2.2)) <|
 .g (inR k.1 (List.length k.2.2.2)) <|
 .g (decide ((Int.toNat k.1) < List.length k.2.2.2)) <|
 .c (Int) (k.2.1 ((List.getD k.2.2.2 (Int.toNat v) ([] : Y1)), ((List.getD k.2.2.2 (Int.toNat k.1) ([] : Y1)), ()))) fun r18_ =>
 .t (!(decide (r18_ < (0 : Int))))
 (.l (.inl (IntKind.wrap .i64 (v - (1 : Int)))))
 (.l (.inr v)))
 (.l (.inr v))
noncomputable def L_zbm_2 (k : Int × (((HL [y1, y1] → Option (Int))) × (Int × Y2))) (v : Int) : Option (Int) := iter (fun v => (S_zbm_2 k v).ev) v
noncomputable def DL_zbm_2 : LD := ⟨{ acts := [], S := { slots := [0, 1, 4, 12, 13], sh := (.cons (.arr 64) (.cons (.dat yi) (.cons (.clo [y1, y1] yi) (.cons (.dat yi) (.cons (.dat yi) .nil))))), obs := [(64, .arr 24 y1)] } }, [(2, { acts := [], S := { slots := [0, 1, 4, 12, 13], sh := (.cons (.arr 64) (.cons (.dat yi) (.cons (.clo [y1, y1] yi) (.cons (.dat yi) (.cons (.dat yi) .nil))))), obs := [(64, .arr 24 y1)] } })], (yh [] .nil), Int × (((HL [y1, y1] → Option (Int))) × (Int × Y2)), Int, Int, fun k v => (((), (k.1, (k.2.1, (k.2.2.1, (v, ()))))), (k.2.2.2, ())), fun t => (t.1.2.1, (t.1.2.2.1, (t.1.2.2.2.1, t.2.1))), fun t => t.1.2.2.2.2.1, S_zbm_2, fun k r => .l (.exit 2 (mkSt ({ slots := [0, 1, 4, 12, 13], sh := (.cons (.arr 64) (.cons (.dat yi) (.cons (.clo [y1, y1] yi) (.cons (.dat yi) (.cons (.dat yi) .nil))))), obs := [(64, .arr 24 y1)] }) (((), (k.1, (k.2.1, (k.2.2.1, (r, ()))))), (k.2.2.2, ()))))⟩
noncomputable def S_zbm_6 (k : Int × (((HL [y1, y1] → Option (Int))) × (Int × Y2))) (v : Int) : Tr ((Int) ⊕ (Int)) :=
 .t (decide (v ≤ k.2.2.1))
 (.g (inR v (List.length k.2.2.2)) <|
 .g (decide ((Int.toNat v) < List.length k.2.2.2)) <|
 .g (inR k.1 (List.length k.2.2.2)) <|
 .g (decide ((Int.toNat k.1) < List.length k.2.2.2)) <|
 .c (Int) (k.2.1 ((List.getD k.2.2.2 (Int.toNat v) ([] : Y1)), ((List.getD k.2.2.2 (Int.toNat k.1) ([] : Y1)), ()))) fun r35_ =>
 .t (decide (r35_ < (0 : Int)))
 (.l (.inl (IntKind.wrap .i64 (v + (1 : Int)))))
 (.l (.inr v)))
 (.l (.inr v))
noncomputable def L_zbm_6 (k : Int × (((HL [y1, y1] → Option (Int))) × (Int × Y2))) (v : Int) : Option (Int) := iter (fun v => (S_zbm_6 k v).ev) v
noncomputable def DL_zbm_6 : LD := ⟨{ acts := [], S := { slots := [0, 1, 4, 12, 13], sh := (.cons (.arr 64) (.cons (.dat yi) (.cons (.clo [y1, y1] yi) (.cons (.dat yi) (.cons (.dat yi) .nil))))), obs := [(64, .arr 24 y1)] } }, [(6, { acts := [], S := { slots := [0, 1, 4, 12, 13], sh := (.cons (.arr 64) (.cons (.dat yi) (.cons (.clo [y1, y1] yi) (.cons (.dat yi) (.cons (.dat yi) .nil))))), obs := [(64, .arr 24 y1)] } })], (yh [] .nil), Int × (((HL [y1, y1] → Option (Int))) × (Int × Y2)), Int, Int, fun k v => (((), (k.1, (k.2.1, (v, (k.2.2.1, ()))))), (k.2.2.2, ())), fun t => (t.1.2.1, (t.1.2.2.1, (t.1.2.2.2.2.1, t.2.1))), fun t => t.1.2.2.2.1, S_zbm_6, fun k r => .l (.exit 6 (mkSt ({ slots := [0, 1, 4, 12, 13], sh := (.cons (.arr 64) (.cons (.dat yi) (.cons (.clo [y1, y1] yi) (.cons (.dat yi) (.cons (.dat yi) .nil))))), obs := [(64, .arr 24 y1)] }) (((), (k.1, (k.2.1, (r, (k.2.2.1, ()))))), (k.2.2.2, ()))))⟩
noncomputable def S_zbm_8 (k : Int × (((HL [y1, y1] → Option (Int))) × (Int × Y2))) (v : Int) : Tr ((Int) ⊕ (Int)) :=
 .t (decide (k.2.2.1 ≤ v))
 (.g (inR v (List.length k.2.2.2)) <|
 .g (decide ((Int.toNat v) < List.length k.2.2.2)) <|
 .g (inR k.1 (List.length k.2.2.2)) <|
 .g (decide ((Int.toNat k.1) < List.length k.2.2.2)) <|
 .c (Int) (k.2.1 ((List.getD k.2.2.2 (Int.toNat v) ([] : Y1)), ((List.getD k.2.2.2 (Int.toNat k.1) ([] : Y1)), ()))) fun r47_ =>
 .t (!(decide (r47_ < (0 : Int))))
 (.l (.inl (IntKind.wrap .i64 (v - (1 : Int)))))
 (.l (.inr v)))
 (.l (.inr v))
noncomputable def L_zbm_8 (k : Int × (((HL [y1, y1] → Option (Int))) × (Int × Y2))) (v : Int) : Option (Int) := iter (fun v => (S_zbm_8 k v).ev) v
noncomputable def DL_zbm_8 : LD := ⟨{ acts := [], S := { slots := [0, 1, 4, 12, 13], sh := (.cons (.arr 64) (.cons (.dat yi) (.cons (.clo [y1, y1] yi) (.cons (.dat yi) (.cons (.dat yi) .nil))))), obs := [(64, .arr 24 y1)] } }, [(8, { acts := [], S := { slots := [0, 1, 4, 12, 13], sh := (.cons (.arr 64) (.cons (.dat yi) (.cons (.clo [y1, y1] yi) (.cons (.dat yi) (.cons (.dat yi) .nil))))), obs := [(64, .arr 24 y1)] } })], (yh [] .nil), Int × (((HL [y1, y1] → Option (Int))) × (Int × Y2)), Int, Int, fun k v => (((), (k.1, (k.2.1, (k.2.2.1, (v, ()))))), (k.2.2.2, ())), fun t => (t.1.2.1, (t.1.2.2.1, (t.1.2.2.2.1, t.2.1))), fun t => t.1.2.2.2.2.1, S_zbm_8, fun k r => .l (.exit 8 (mkSt ({ slots := [0, 1, 4, 12, 13], sh := (.cons (.arr 64) (.cons (.dat yi) (.cons (.clo [y1, y1] yi) (.cons (.dat yi) (.cons (.dat yi) .nil))))), obs := [(64, .arr 24 y1)] }) (((), (k.1, (k.2.1, (k.2.2.1, (r, ()))))), (k.2.2.2, ()))))⟩
noncomputable def S_zbm_4 (k : Int × ((HL [y1, y1] → Option (Int)))) (v : Int × (Int × Y2)) : Tr ((Int × (Int × Y2)) ⊕ (Int × Y2)) :=
 .c (Int) (L_zbm_6 (k.1, (k.2, (v.2.1, v.2.2))) v.1) fun r41_ =>
 .c (Int) (L_zbm_8 (k.1, (k.2, (r41_, v.2.2))) v.2.1) fun r53_ =>
 .t (decide (r53_ < r41_))
 (.l (.inr (r53_, v.2.2)))
 (.g (inR r53_ (List.length v.2.2)) <|
 .g (decide ((Int.toNat r53_) < List.length v.2.2)) <|
 .g (inR r41_ (List.length v.2.2)) <|
 .g (decide ((Int.toNat r41_) < List.length v.2.2)) <|
 .g (inR r41_ (List.length v.2.2)) <|
 .g (decide ((Int.toNat r41_) < List.length v.2.2)) <|
 .g (inR r53_ (List.length (List.set v.2.2 (Int.toNat r41_) (List.getD v.2.2 (Int.toNat r53_) ([] : Y1))))) <|
 .g (decide ((Int.toNat r53_) < List.length (List.set v.2.2 (Int.toNat r41_) (List.getD v.2.2 (Int.toNat r53_) ([] : Y1))))) <|
 .l (.inl ((IntKind.wrap .i64 (r41_ + (1 : Int))), ((IntKind.wrap .i64 (r53_ - (1 : Int))), (List.set (List.set v.2.2 (Int.toNat r41_) (List.getD v.2.2 (Int.toNat r53_) ([] : Y1))) (Int.toNat r53_) (List.getD v.2.2 (Int.toNat r41_) ([] : Y1)))))))
noncomputable def L_zbm_4 (k : Int × ((HL [y1, y1] → Option (Int)))) (v : Int × (Int × Y2)) : Option (Int × Y2) := iter (fun v => (S_zbm_4 k v).ev) v
noncomputable def DL_zbm_4 : LD := ⟨{ acts := [], S := { slots := [0, 1, 4, 12, 13], sh := (.cons (.arr 64) (.cons (.dat yi) (.cons (.clo [y1, y1] yi) (.cons (.dat yi) (.cons (.dat yi) .nil))))), obs := [(64, .arr 24 y1)] } }, [(4, { acts := [], S := { slots := [0, 1, 13], sh := (.cons (.arr 64) (.cons (.dat yi) (.cons (.dat yi) .nil))), obs := [(64, .arr 24 y1)] } })], (yh [] .nil), Int × ((HL [y1, y1] → Option (Int))), Int × (Int × Y2), Int × Y2, fun k v => (((), (k.1, (k.2, (v.1, (v.2.1, ()))))), (v.2.2, ())), fun t => (t.1.2.1, t.1.2.2.1), fun t => (t.1.2.2.2.1, (t.1.2.2.2.2.1, t.2.1)), S_zbm_4, fun k r => .l (.exit 4 (mkSt ({ slots := [0, 1, 13], sh := (.cons (.arr 64) (.cons (.dat yi) (.cons (.dat yi) .nil))), obs := [(64, .arr 24 y1)] }) (((), (k.1, (r.1, ()))), (r.2, ()))))⟩
noncomputable def T_zbm (a2_ : Int) (a3_ : Int) (a4_ : Int) (a5_ : (HL [y1, y1] → Option (Int))) (a1_ : List Y1) : Tr (Int × (Bool × Y2)) :=
 .g (inR a4_ (List.length a1_)) <|
 .g (decide ((Int.toNat a4_) < List.length a1_)) <|
 .g (inR a2_ (List.length a1_)) <|
 .g (decide ((Int.toNat a2_) < List.length a1_)) <|
 .g (inR a2_ (List.length a1_)) <|
 .g (decide ((Int.toNat a2_) < List.length a1_)) <|
 .g (inR a4_ (List.length (List.set a1_ (Int.toNat a2_) (List.getD a1_ (Int.toNat a4_) ([] : Y1))))) <|
 .g (decide ((Int.toNat a4_) < List.length (List.set a1_ (Int.toNat a2_) (List.getD a1_ (Int.toNat a4_) ([] : Y1))))) <|
 .c (Int) (L_zbm_0 (a2_, (a5_, ((IntKind.wrap .i64 (a3_ - (1 : Int))), (List.set (List.set a1_ (Int.toNat a2_) (List.getD a1_ (Int.toNat a4_) ([] : Y1))) (Int.toNat a4_) (List.getD a1_ (Int.toNat a2_) ([] : Y1)))))) (IntKind.wrap .i64 (a2_ + (1 : Int)))) fun r12_ =>
 .c (Int) (L_zbm_2 (a2_, (a5_, (r12_, (List.set (List.set a1_ (Int.toNat a2_) (List.getD a1_ (Int.toNat a4_) ([] : Y1))) (Int.toNat a4_) (List.getD a1_ (Int.toNat a2_) ([] : Y1)))))) (IntKind.wrap .i64 (a3_ - (1 : Int)))) fun r24_ =>
 .t (decide (r24_ < r12_))
 (.g (inR a2_ (List.length (List.set (List.set a1_ (Int.toNat a2_) (List.getD a1_ (Int.toNat a4_) ([] : Y1))) (Int.toNat a4_) (List.getD a1_ (Int.toNat a2_) ([] : Y1))))) <|
 .g (decide ((Int.toNat a2_) < List.length (List.set (List.set a1_ (Int.toNat a2_) (List.getD a1_ (Int.toNat a4_) ([] : Y1))) (Int.toNat a4_) (List.getD a1_ (Int.toNat a2_) ([] : Y1))))) <|
 .g (inR r24_ (List.length (List.set (List.set a1_ (Int.toNat a2_) (List.getD a1_ (Int.toNat a4_) ([] : Y1))) (Int.toNat a4_) (List.getD a1_ (Int.toNat a2_) ([] : Y1))))) <|
 .g (decide ((Int.toNat r24_) < List.length (List.set (List.set a1_ (Int.toNat a2_) (List.getD a1_ (Int.toNat a4_) ([] : Y1))) (Int.toNat a4_) (List.getD a1_ (Int.toNat a2_) ([] : Y1))))) <|
 .g (inR r24_ (List.length (List.set (List.set a1_ (Int.toNat a2_) (List.getD a1_ (Int.toNat a4_) ([] : Y1))) (Int.toNat a4_) (List.getD a1_ (Int.toNat a2_) ([] : Y1))))) <|
 .g (decide ((Int.toNat r24_) < List.length (List.set (List.set a1_ (Int.toNat a2_) (List.getD a1_ (Int.toNat a4_) ([] : Y1))) (Int.toNat a4_) (List.getD a1_ (Int.toNat a2_) ([] : Y1))))) <|
 .g (inR a2_ (List.length (List.set (List.set (List.set a1_ (Int.toNat a2_) (List.getD a1_ (Int.toNat a4_) ([] : Y1))) (Int.toNat a4_) (List.getD a1_ (Int.toNat a2_) ([] : Y1))) (Int.toNat r24_) (List.getD (List.set (List.set a1_ (Int.toNat a2_) (List.getD a1_ (Int.toNat a4_) ([] : Y1))) (Int.toNat a4_) (List.getD a1_ (Int.toNat a2_) ([] : Y1))) (Int.toNat a2_) ([] : Y1))))) <|
 .g (decide ((Int.toNat a2_) < List.length (List.set (List.set (List.set a1_ (Int.toNat a2_) (List.getD a1_ (Int.toNat a4_) ([] : Y1))) (Int.toNat a4_) (List.getD a1_ (Int.toNat a2_) ([] : Y1))) (Int.toNat r24_) (List.getD (List.set (List.set a1_ (Int.toNat a2_) (List.getD a1_ (Int.toNat a4_) ([] : Y1))) (Int.toNat a4_) (List.getD a1_ (Int.toNat a2_) ([] : Y1))) (Int.toNat a2_) ([] : Y1))))) <|
 .l (r24_, (true, (List.set (List.set (List.set (List.set a1_ (Int.toNat a2_) (List.getD a1_ (Int.toNat a4_) ([] : Y1))) (Int.toNat a4_) (List.getD a1_ (Int.toNat a2_) ([] : Y1))) (Int.toNat r24_) (List.getD (List.set (List.set a1_ (Int.toNat a2_) (List.getD a1_ (Int.toNat a4_) ([] : Y1))) (Int.toNat a4_) (List.getD a1_ (Int.toNat a2_) ([] : Y1))) (Int.toNat a2_) ([] : Y1))) (Int.toNat a2_) (List.getD (List.set (List.set a1_ (Int.toNat a2_) (List.getD a1_ (Int.toNat a4_) ([] : Y1))) (Int.toNat a4_) (List.getD a1_ (Int.toNat a2_) ([] : Y1))) (Int.toNat r24_) ([] : Y1))))))
 (.g (inR r24_ (List.length (List.set (List.set a1_ (Int.toNat a2_) (List.getD a1_ (Int.toNat a4_) ([] : Y1))) (Int.toNat a4_) (List.getD a1_ (Int.toNat a2_) ([] : Y1))))) <|
 .g (decide ((Int.toNat r24_) < List.length (List.set (List.set a1_ (Int.toNat a2_) (List.getD a1_ (Int.toNat a4_) ([] : Y1))) (Int.toNat a4_) (List.getD a1_ (Int.toNat a2_) ([] : Y1))))) <|
 .g (inR r12_ (List.length (List.set (List.set a1_ (Int.toNat a2_) (List.getD a1_ (Int.toNat a4_) ([] : Y1))) (Int.toNat a4_) (List.getD a1_ (Int.toNat a2_) ([] : Y1))))) <|
 .g (decide ((Int.toNat r12_) < List.length (List.set (List.set a1_ (Int.toNat a2_) (List.getD a1_ (Int.toNat a4_) ([] : Y1))) (Int.toNat a4_) (List.getD a1_ (Int.toNat a2_) ([] : Y1))))) <|
 .g (inR r12_ (List.length (List.set (List.set a1_ (Int.toNat a2_) (List.getD a1_ (Int.toNat a4_) ([] : Y1))) (Int.toNat a4_) (List.getD a1_ (Int.toNat a2_) ([] : Y1))))) <|
 .g (decide ((Int.toNat r12_) < List.length (List.set (List.set a1_ (Int.toNat a2_) (List.getD a1_ (Int.toNat a4_) ([] : Y1))) (Int.toNat a4_) (List.getD a1_ (Int.toNat a2_) ([] : Y1))))) <|
 .g (inR r24_ (List.length (List.set (List.set (List.set a1_ (Int.toNat a2_) (List.getD a1_ (Int.toNat a4_) ([] : Y1))) (Int.toNat a4_) (List.getD a1_ (Int.toNat a2_) ([] : Y1))) (Int.toNat r12_) (List.getD (List.set (List.set a1_ (Int.toNat a2_) (List.getD a1_ (Int.toNat a4_) ([] : Y1))) (Int.toNat a4_) (List.getD a1_ (Int.toNat a2_) ([] : Y1))) (Int.toNat r24_) ([] : Y1))))) <|
 .g (decide ((Int.toNat r24_) < List.length (List.set (List.set (List.set a1_ (Int.toNat a2_) (List.getD a1_ (Int.toNat a4_) ([] : Y1))) (Int.toNat a4_) (List.getD a1_ (Int.toNat a2_) ([] : Y1))) (Int.toNat r12_) (List.getD (List.set (List.set a1_ (Int.toNat a2_) (List.getD a1_ (Int.toNat a4_) ([] : Y1))) (Int.toNat a4_) (List.getD a1_ (Int.toNat a2_) ([] : Y1))) (Int.toNat r24_) ([] : Y1))))) <|
 .c (Int × Y2) (L_zbm_4 (a2_, a5_) ((IntKind.wrap .i64 (r12_ + (1 : Int))), ((IntKind.wrap .i64 (r24_ - (1 : Int))), (List.set (List.set (List.set (List.set a1_ (Int.toNat a2_) (List.getD a1_ (Int.toNat a4_) ([] : Y1))) (Int.toNat a4_) (List.getD a1_ (Int.toNat a2_) ([] : Y1))) (Int.toNat r12_) (List.getD (List.set (List.set a1_ (Int.toNat a2_) (List.getD a1_ (Int.toNat a4_) ([] : Y1))) (Int.toNat a4_) (List.getD a1_ (Int.toNat a2_) ([] : Y1))) (Int.toNat r24_) ([] : Y1))) (Int.toNat r24_) (List.getD (List.set (List.set a1_ (Int.toNat a2_) (List.getD a1_ (Int.toNat a4_) ([] : Y1))) (Int.toNat a4_) (List.getD a1_ (Int.toNat a2_) ([] : Y1))) (Int.toNat r12_) ([] : Y1)))))) fun r57_ =>
 .g (inR a2_ (List.length r57_.2)) <|
 .g (decide ((Int.toNat a2_) < List.length r57_.2)) <|
 .g (inR r57_.1 (List.length r57_.2)) <|
 .g (decide ((Int.toNat r57_.1) < List.length r57_.2)) <|
 .g (inR r57_.1 (List.length r57_.2)) <|
 .g (decide ((Int.toNat r57_.1) < List.length r57_.2)) <|
 .g (inR a2_ (List.length (List.set r57_.2 (Int.toNat r57_.1) (List.getD r57_.2 (Int.toNat a2_) ([] : Y1))))) <|
 .g (decide ((Int.toNat a2_) < List.length (List.set r57_.2 (Int.toNat r57_.1) (List.getD r57_.2 (Int.toNat a2_) ([] : Y1))))) <|
 .l (r57_.1, (false, (List.set (List.set r57_.2 (Int.toNat r57_.1) (List.getD r57_.2 (Int.toNat a2_) ([] : Y1))) (Int.toNat a2_) (List.getD r57_.2 (Int.toNat r57_.1) ([] : Y1))))))
noncomputable def F_zbm (a2_ : Int) (a3_ : Int) (a4_ : Int) (a5_ : (HL [y1, y1] → Option (Int))) (a1_ : List Y1) : Option (Int × (Bool × Y2)) := (T_zbm a2_ a3_ a4_ a5_ a1_).ev
noncomputable def A_zbm : Sh := (.cons (.arr 64) (.cons (.dat yi) (.cons (.dat yi) (.cons (.dat yi) (.cons (.clo [y1, y1] yi) .nil)))))
noncomputable def I_zbm : List (Nat × OSh) := [(64, .arr 24 y1)]
noncomputable def K_zbm : RetK := { acts := [], res := [.tmp 10, .tmp 11], sh := (.cons (.dat yi) (.cons (.dat .bool) .nil)), obs := [(64, .arr 24 y1)], pins := [(0, 0, 64)] }
noncomputable def D_zbm : FD := ⟨A_zbm, I_zbm, [.arg 0], Int × (Bool × Y2), fun x => F_zbm x.1.2.1 x.1.2.2.1 x.1.2.2.2.1 x.1.2.2.2.2.1 x.2.1, fun r => ([.dat yi r.1, .dat .bool r.2.1], [(64, .arr 24 y1 r.2.2)])⟩
noncomputable def E_zbm : Env := envOf []
noncomputable def Z_zbm : Nat → Nat → List Nat := fun _ _ => []
noncomputable def O_zbm : List (Nat × LD) := [(0, DL_zbm_0), (2, DL_zbm_2), (6, DL_zbm_6), (8, DL_zbm_8), (4, DL_zbm_4)]
noncomputable def C_zbm : Code := (f125.body).getD .skip
noncomputable def S_zbn_0 (rec_ : (Int) → (Int) → (Int) → ((HL [y1, y1] → Option (Int))) → Y2 → Option Y2) (k : Int × ((HL [y1, y1] → Option (Int)))) (v : Int × (Int × (Bool × (Bool × Y2)))) : Tr ((Int × (Int × (Bool × (Bool × Y2)))) ⊕ Y2) :=
 .t (decide ((IntKind.wrap .i64 (v.2.1 - v.1)) ≤ (12 : Int)))
 (.c Y2 (F_zbi v.1 v.2.1 k.2 v.2.2.2.2) fun r8_ =>
 .l (.inr r8_))
 (.t (k.1 == (0 : Int))
 (.f)
 (.t (!v.2.2.1)
 (.f)
 (.c (Int × Int) (F_zbh v.2.2.2.2 v.1 v.2.1 k.2) fun r9_ =>
 .t (r9_.2 == (2 : Int))
 (.f)
 (.t v.2.2.1
 (.t v.2.2.2.1
 (.t (r9_.2 == (1 : Int))
 (.f)
 (.t (decide ((0 : Int) < v.1))
 (.g (inR (IntKind.wrap .i64 (v.1 - (1 : Int))) (List.length v.2.2.2.2)) <|
 .g (decide ((Int.toNat (IntKind.wrap .i64 (v.1 - (1 : Int)))) < List.length v.2.2.2.2)) <|
 .g (inR r9_.1 (List.length v.2.2.2.2)) <|
 .g (decide ((Int.toNat r9_.1) < List.length v.2.2.2.2)) <|
 .c (Int) (k.2 ((List.getD v.2.2.2.2 (Int.toNat (IntKind.wrap .i64 (v.1 - (1 : Int)))) ([] : Y1)), ((List.getD v.2.2.2.2 (Int.toNat r9_.1) ([] : Y1)), ()))) fun r10_ =>
 .t (!(decide (r10_ < (0 : Int))))
 (.f)
 (.c (Int × (Bool × Y2)) (F_zbm v.1 v.2.1 r9_.1 k.2 v.2.2.2.2) fun r11_ =>
 .g (!decide ((8 : Int) = 0)) <|
 .t (decide ((IntKind.wrap .i64 (r11_.1 - v.1)) < (IntKind.wrap .i64 (v.2.1 - r11_.1))))
 (.c Y2 (rec_ v.1 r11_.1 k.1 k.2 r11_.2.2) fun r12_ =>
 .l (.inl ((IntKind.wrap .i64 (r11_.1 + (1 : Int))), (v.2.1, ((decide ((IntKind.wrap .i64 (Int.tdiv (IntKind.wrap .i64 (v.2.1 - v.1)) (8 : Int))) ≤ (IntKind.wrap .i64 (r11_.1 - v.1)))), (r11_.2.1, r12_))))))
 (.c Y2 (rec_ (IntKind.wrap .i64 (r11_.1 + (1 : Int))) v.2.1 k.1 k.2 r11_.2.2) fun r13_ =>
 .l (.inl (v.1, (r11_.1, ((decide ((IntKind.wrap .i64 (Int.tdiv (IntKind.wrap .i64 (v.2.1 - v.1)) (8 : Int))) ≤ (IntKind.wrap .i64 (v.2.1 - r11_.1)))), (r11_.2.1, r13_))))))))
 (.c (Int × (Bool × Y2)) (F_zbm v.1 v.2.1 r9_.1 k.2 v.2.2.2.2) fun r14_ =>
 .g (!decide ((8 : Int) = 0)) <|
 .t (decide ((IntKind.wrap .i64 (r14_.1 - v.1)) < (IntKind.wrap .i64 (v.2.1 - r14_.1))))
 (.c Y2 (rec_ v.1 r14_.1 k.1 k.2 r14_.2.2) fun r15_ =>
 .l (.inl ((IntKind.wrap .i64 (r14_.1 + (1 : Int))), (v.2.1, ((decide ((IntKind.wrap .i64 (Int.tdiv (IntKind.wrap .i64 (v.2.1 - v.1)) (8 : Int))) ≤ (IntKind.wrap .i64 (r14_.1 - v.1)))), (r14_.2.1, r15_))))))
 (.c Y2 (rec_ (IntKind.wrap .i64 (r14_.1 + (1 : Int))) v.2.1 k.1 k.2 r14_.2.2) fun r16_ =>
 .l (.inl (v.1, (r14_.1, ((decide ((IntKind.wrap .i64 (Int.tdiv (IntKind.wrap .i64 (v.2.1 - v.1)) (8 : Int))) ≤ (IntKind.wrap .i64 (v.2.1 - r14_.1)))), (r14_.2.1, r16_)))))))))
 (.t (decide ((0 : Int) < v.1))
 (.g (inR (IntKind.wrap .i64 (v.1 - (1 : Int))) (List.length v.2.2.2.2)) <|
 .g (decide ((Int.toNat (IntKind.wrap .i64 (v.1 - (1 : Int)))) < List.length v.2.2.2.2)) <|
 .g (inR r9_.1 (List.length v.2.2.2.2)) <|
 .g (decide ((Int.toNat r9_.1) < List.length v.2.2.2.2)) <|
 .c (Int) (k.2 ((List.getD v.2.2.2.2 (Int.toNat (IntKind.wrap .i64 (v.1 - (1 : Int)))) ([] : Y1)), ((List.getD v.2.2.2.2 (Int.toNat r9_.1) ([] : Y1)), ()))) fun r17_ =>
 .t (!(decide (r17_ < (0 : Int))))
 (.f)
 (.c (Int × (Bool × Y2)) (F_zbm v.1 v.2.1 r9_.1 k.2 v.2.2.2.2) fun r18_ =>
 .g (!decide ((8 : Int) = 0)) <|
 .t (decide ((IntKind.wrap .i64 (r18_.1 - v.1)) < (IntKind.wrap .i64 (v.2.1 - r18_.1))))
 (.c Y2 (rec_ v.1 r18_.1 k.1 k.2 r18_.2.2) fun r19_ =>
 .l (.inl ((IntKind.wrap .i64 (r18_.1 + (1 : Int))), (v.2.1, ((decide ((IntKind.wrap .i64 (Int.tdiv (IntKind.wrap .i64 (v.2.1 - v.1)) (8 : Int))) ≤ (IntKind.wrap .i64 (r18_.1 - v.1)))), (r18_.2.1, r19_))))))
 (.c Y2 (rec_ (IntKind.wrap .i64 (r18_.1 + (1 : Int))) v.2.1 k.1 k.2 r18_.2.2) fun r20_ =>
 .l (.inl (v.1, (r18_.1, ((decide ((IntKind.wrap .i64 (Int.tdiv (IntKind.wrap .i64 (v.2.1 - v.1)) (8 : Int))) ≤ (IntKind.wrap .i64 (v.2.1 - r18_.1)))), (r18_.2.1, r20_))))))))
 (.c (Int × (Bool × Y2)) (F_zbm v.1 v.2.1 r9_.1 k.2 v.2.2.2.2) fun r21_ =>
 .g (!decide ((8 : Int) = 0)) <|
 .t (decide ((IntKind.wrap .i64 (r21_.1 - v.1)) < (IntKind.wrap .i64 (v.2.1 - r21_.1))))
 (.c Y2 (rec_ v.1 r21_.1 k.1 k.2 r21_.2.2) fun r22_ =>
 .l (.inl ((IntKind.wrap .i64 (r21_.1 + (1 : Int))), (v.2.1, ((decide ((IntKind.wrap .i64 (Int.tdiv (IntKind.wrap .i64 (v.2.1 - v.1)) (8 : Int))) ≤ (IntKind.wrap .i64 (r21_.1 - v.1)))), (r21_.2.1, r22_))))))
 (.c Y2 (rec_ (IntKind.wrap .i64 (r21_.1 + (1 : Int))) v.2.1 k.1 k.2 r21_.2.2) fun r23_ =>
 .l (.inl (v.1, (r21_.1, ((decide ((IntKind.wrap .i64 (Int.tdiv (IntKind.wrap .i64 (v.2.1 - v.1)) (8 : Int))) ≤ (IntKind.wrap .i64 (v.2.1 - r21_.1)))), (r21_.2.1, r23_)))))))))
 (.t (decide ((0 : Int) < v.1))
 (.g (inR (IntKind.wrap .i64 (v.1 - (1 : Int))) (List.length v.2.2.2.2)) <|
 .g (decide ((Int.toNat (IntKind.wrap .i64 (v.1 - (1 : Int)))) < List.length v.2.2.2.2)) <|
 .g (inR r9_.1 (List.length v.2.2.2.2)) <|
 .g (decide ((Int.toNat r9_.1) < List.length v.2.2.2.2)) <|
 .c (Int) (k.2 ((List.getD v.2.2.2.2 (Int.toNat (IntKind.wrap .i64 (v.1 - (1 : Int)))) ([] : Y1)), ((List.getD v.2.2.2.2 (Int.toNat r9_.1) ([] : Y1)), ()))) fun r24_ =>
 .t (!(decide (r24_ < (0 : Int))))
 (.f)
 (.c (Int × (Bool × Y2)) (F_zbm v.1 v.2.1 r9_.1 k.2 v.2.2.2.2) fun r25_ =>
 .g (!decide ((8 : Int) = 0)) <|
 .t (decide ((IntKind.wrap .i64 (r25_.1 - v.1)) < (IntKind.wrap .i64 (v.2.1 - r25_.1))))
 (.c Y2 (rec_ v.1 r25_.1 k.1 k.2 r25_.2.2) fun r26_ =>
 .l (.inl ((IntKind.wrap .i64 (r25_.1 + (1 : Int))), (v.2.1, ((decide ((IntKind.wrap .i64 (Int.tdiv (IntKind.wrap .i64 (v.2.1 - v.1)) (8 : Int))) ≤ (IntKind.wrap .i64 (r25_.1 - v.1)))), (r25_.2.1, r26_))))))
 (.c Y2 (rec_ (IntKind.wrap .i64 (r25_.1 + (1 : Int))) v.2.1 k.1 k.2 r25_.2.2) fun r27_ =>
 .l (.inl (v.1, (r25_.1, ((decide ((IntKind.wrap .i64 (Int.tdiv (IntKind.wrap .i64 (v.2.1 - v.1)) (8 : Int))) ≤ (IntKind.wrap .i64 (v.2.1 - r25_.1)))), (r25_.2.1, r27_))))))))
 (.c (Int × (Bool × Y2)) (F_zbm v.1 v.2.1 r9_.1 k.2 v.2.2.2.2) fun r28_ =>
 .g (!decide ((8 : Int) = 0)) <|
 .t (decide ((IntKind.wrap .i64 (r28_.1 - v.1)) < (IntKind.wrap .i64 (v.2.1 - r28_.1))))
 (.c Y2 (rec_ v.1 r28_.1 k.1 k.2 r28_.2.2) fun r29_ =>
 .l (.inl ((IntKind.wrap .i64 (r28_.1 + (1 : Int))), (v.2.1, ((decide ((IntKind.wrap .i64 (Int.tdiv (IntKind.wrap .i64 (v.2.1 - v.1)) (8 : Int))) ≤ (IntKind.wrap .i64 (r28_.1 - v.1)))), (r28_.2.1, r29_))))))
 (.c Y2 (rec_ (IntKind.wrap .i64 (r28_.1 + (1 : Int))) v.2.1 k.1 k.2 r28_.2.2) fun r30_ =>
 .l (.inl (v.1, (r28_.1, ((decide ((IntKind.wrap .i64 (Int.tdiv (IntKind.wrap .i64 (v.2.1 - v.1)) (8 : Int))) ≤ (IntKind.wrap .i64 (v.2.1 - r28_.1)))), (r28_.2.1, r30_))))))))))))
noncomputable def L_zbn_0 (rec_ : (Int) → (Int) → (Int) → ((HL [y1, y1] → Option (Int))) → Y2 → Option Y2) (k : Int × ((HL [y1, y1] → Option (Int)))) (v : Int × (Int × (Bool × (Bool × Y2)))) : Option Y2 := iter (fun v => (S_zbn_0 rec_ k v).ev) v
noncomputable def DL_zbn_0 (rec_ : (Int) → (Int) → (Int) → ((HL [y1, y1] → Option (Int))) → Y2 → Option Y2) : LD where
 head := { acts := [], S := { slots := [0, 1, 2, 3, 4, 10, 11], sh := (.cons (.arr 64) (.cons (.dat yi) (.cons (.dat yi) (.cons (.dat yi) (.cons (.clo [y1, y1] yi) (.cons (.dat .bool) (.cons (.dat .bool) .nil))))))), obs := [(64, .arr 24 y1)] } }
 exits := []
 rets := { acts := [], S := { slots := [0], sh := (.cons (.arr 64) .nil), obs := [(64, .arr 24 y1)] } }
 K := Int × ((HL [y1, y1] → Option (Int)))
 V := Int × (Int × (Bool × (Bool × Y2)))
 R := List Y1
 join := fun k v => (((), (v.1, (v.2.1, (k.1, (k.2, (v.2.2.1, (v.2.2.2.1, ()))))))), (v.2.2.2.2, ()))
 sk := fun t => (t.1.2.2.2.1, t.1.2.2.2.2.1)
 sv := fun t => (t.1.2.1, (t.1.2.2.1, (t.1.2.2.2.2.2.1, (t.1.2.2.2.2.2.2.1, t.2.1))))
 step := S_zbn_0 rec_
 leaf := fun _ r => .l (.ret (mkSt ({ slots := [0], sh := (.cons (.arr 64) .nil), obs := [(64, .arr 24 y1)] }) (((), ()), (r, ()))))
noncomputable def T_zbn (rec_ : (Int) → (Int) → (Int) → ((HL [y1, y1] → Option (Int))) → Y2 → Option Y2) (a2_ : Int) (a3_ : Int) (a4_ : Int) (a5_ : (HL [y1, y1] → Option (Int))) (a1_ : List Y1) : Tr Y2 :=
 .c Y2 (L_zbn_0 rec_ (a4_, a5_) (a2_, (a3_, (true, (true, a1_))))) fun r32_ =>
 .l r32_
noncomputable def F_zbn : Nat → (Int) → (Int) → (Int) → ((HL [y1, y1] → Option (Int))) → Y2 → Option Y2
 | 0 => fun _ _ _ _ _ => none
 | n + 1 => fun a2_ a3_ a4_ a5_ a1_ => (T_zbn (F_zbn n) a2_ a3_ a4_ a5_ a1_).ev
noncomputable def A_zbn : Sh := (.cons (.arr 64) (.cons (.dat yi) (.cons (.dat yi) (.cons (.dat yi) (.cons (.clo [y1, y1] yi) .nil)))))
noncomputable def I_zbn : List (Nat × OSh) := [(64, .arr 24 y1)]
noncomputable def K_zbn : RetK := { acts := [], res := [], sh := .nil, obs := [(64, .arr 24 y1)], pins := [(0, 0, 64)] }
noncomputable def Dr_zbn (rec_ : (Int) → (Int) → (Int) → ((HL [y1, y1] → Option (Int))) → Y2 → Option Y2) : FD where
 A := A_zbn
 ins := I_zbn
 lend := [.arg 0]
 R := List Y1
 F := fun x => rec_ x.1.2.1 x.1.2.2.1 x.1.2.2.2.1 x.1.2.2.2.2.1 x.2.1
 emb := fun r => ([], [(64, .arr 24 y1 r)])
noncomputable def D_zbn (n : Nat) : FD := Dr_zbn (F_zbn n)
noncomputable def E_zbn (rec_ : (Int) → (Int) → (Int) → ((HL [y1, y1] → Option (Int))) → Y2 → Option Y2) : Env := envOf [(118, D_zbi), (121, D_zbh), (125, D_zbm), (111, Dr_zbn rec_)]
noncomputable def Z_zbn : Nat → Nat → List Nat := fun _ _ => []
noncomputable def O_zbn (rec_ : (Int) → (Int) → (Int) → ((HL [y1, y1] → Option (Int))) → Y2 → Option Y2) : List (Nat × LD) := [(0, DL_zbn_0 rec_)]
noncomputable def C_zbn : Code := (f111.body).getD .skip
noncomputable def T_zbg (a2_ : (HL [y1, y1] → Option (Int))) (a1_ : List Y1) : Tr Y2 :=
 .c (Int) (F_zat (IntKind.wrap .u64 ((List.length a1_ : Nat) : Int))) fun r1_ =>
 .c Y2 (F_zbn 1000000 (0 : Int) ((List.length a1_ : Nat) : Int) r1_ a2_ a1_) fun r2_ =>
 .l r2_
noncomputable def F_zbg (a2_ : (HL [y1, y1] → Option (Int))) (a1_ : List Y1) : Option Y2 := (T_zbg a2_ a1_).ev
noncomputable def A_zbg : Sh := (.cons (.arr 64) (.cons (.clo [y1, y1] yi) .nil))
noncomputable def I_zbg : List (Nat × OSh) := [(64, .arr 24 y1)]
noncomputable def K_zbg : RetK := { acts := [], res := [], sh := .nil, obs := [(64, .arr 24 y1)], pins := [(0, 0, 64)] }
noncomputable def D_zbg : FD := ⟨A_zbg, I_zbg, [.arg 0], List Y1, fun x => F_zbg x.1.2.1 x.2.1, fun r => ([], [(64, .arr 24 y1 r)])⟩
noncomputable def E_zbg : Env := envOf [(112, D_zat), (111, D_zbn 1000000)]
noncomputable def Z_zbg : Nat → Nat → List Nat := fun _ _ => []
noncomputable def O_zbg : List (Nat × LD) := []
noncomputable def C_zbg : Code := (f106.body).getD .skip
noncomputable def T_zc (a1_ : Int) : Tr (Bool) :=
 .l (a1_ != a1_)
noncomputable def F_zc (a1_ : Int) : Option (Bool) := (T_zc a1_).ev
noncomputable def A_zc : Sh := (.cons (.dat yi) .nil)
noncomputable def I_zc : List (Nat × OSh) := []
noncomputable def K_zc : RetK := { acts := [], res := [.tmp 2], sh := (.cons (.dat .bool) .nil), obs := [], pins := [] }
noncomputable def D_zc : FD := ⟨A_zc, I_zc, [], Bool, fun x => F_zc x.1.1, fun r => ([.dat .bool r], [])⟩
noncomputable def E_zc : Env := envOf []
noncomputable def Z_zc : Nat → Nat → List Nat := fun _ _ => []
noncomputable def O_zc : List (Nat × LD) := []
noncomputable def C_zc : Code := (f128.body).getD .skip
noncomputable def T_za (a1_ : Int) (a2_ : Int) : Tr (Int) :=
 .c (Bool) (F_zc a1_) fun r1_ =>
 .c (Bool) (F_zc a2_) fun r2_ =>
 .t r1_
 (.t r2_
 (.l (0 : Int))
 (.l (-1 : Int)))
 (.t r2_
 (.l (1 : Int))
 (.t (decide (a1_ < a2_))
 (.l (-1 : Int))
 (.t (decide (a2_ < a1_))
 (.l (1 : Int))
 (.l (0 : Int)))))
noncomputable def F_za (a1_ : Int) (a2_ : Int) : Option (Int) := (T_za a1_ a2_).ev
noncomputable def A_za : Sh := (.cons (.dat yi) (.cons (.dat yi) .nil))
noncomputable def I_za : List (Nat × OSh) := []
noncomputable def K_za : RetK := { acts := [], res := [.tmp 4], sh := (.cons (.dat yi) .nil), obs := [], pins := [] }
noncomputable def D_za : FD := ⟨A_za, I_za, [], Int, fun x => F_za x.1.1 x.1.2.1, fun r => ([.dat yi r], [])⟩
noncomputable def E_za : Env := envOf [(128, D_zc)]
noncomputable def Z_za : Nat → Nat → List Nat := fun _ _ => []
noncomputable def O_za : List (Nat × LD) := []
noncomputable def C_za : Code := (f114.body).getD .skip
noncomputable def S_zaw_0 (k : Y1 × (Y1 × (Y1 × Int))) (v : Int) : Tr ((Int) ⊕ ((Unit) ⊕ (Int))) :=
 .t (decide (v < k.2.2.2))
 (.g (inR v (List.length k.2.2.1)) <|
 .t (decide (((List.length k.2.1 : Nat) : Int) ≤ v))
 (.l (.inr (.inr (1 : Int))))
 (.g (inR v (List.length k.2.1)) <|
 .c (Int) (F_za (List.getD k.2.2.1 (Int.toNat v) (0 : Int)) (List.getD k.2.1 (Int.toNat v) (0 : Int))) fun r6_ =>
 .t (r6_ != (0 : Int))
 (.l (.inr (.inr r6_)))
 (.l (.inl (IntKind.wrap .i64 (v + (1 : Int)))))))
 (.l (.inr (.inl ())))
noncomputable def L_zaw_0 (k : Y1 × (Y1 × (Y1 × Int))) (v : Int) : Option ((Unit) ⊕ (Int)) := iter (fun v => (S_zaw_0 k v).ev) v
noncomputable def DL_zaw_0 : LD := ⟨(yh [0, 1, 9, 10, 11] (.cons (.dat y1) (.cons (.dat y1) (.cons (.dat y1) (.cons (.dat yi) (.cons (.dat yi) .nil)))))), [(0, (yh [0, 1] (.cons (.dat y1) (.cons (.dat y1) .nil))))], (yh [4] (.cons (.dat yi) .nil)), Y1 × (Y1 × (Y1 × Int)), Int, (Unit) ⊕ (Int), fun k v => ((k.1, (k.2.1, (k.2.2.1, (k.2.2.2, (v, ()))))), ()), fun t => (t.1.1, (t.1.2.1, (t.1.2.2.1, t.1.2.2.2.1))), fun t => t.1.2.2.2.2.1, S_zaw_0, fun k r => .s (Unit) (Int) r (fun _ => .l (.exit 0 (mkSt ((ys [0, 1] (.cons (.dat y1) (.cons (.dat y1) .nil)))) ((k.1, (k.2.1, ())), ())))) (fun b => .l (.ret (mkSt ((ys [4] (.cons (.dat yi) .nil))) ((b, ()), ()))))⟩
noncomputable def T_zaw (a1_ : Y1) (a2_ : Y1) : Tr (Int) :=
 .c ((Unit) ⊕ (Int)) (L_zaw_0 (a1_, (a2_, (a1_, ((List.length a1_ : Nat) : Int)))) (0 : Int)) fun r10_ =>
 .s (Unit) (Int) r10_
 (fun _ => .t (decide (((List.length a1_ : Nat) : Int) < ((List.length a2_ : Nat) : Int)))
 (.l (-1 : Int))
 (.l (0 : Int)))
 (fun r12_ => .l r12_)
noncomputable def F_zaw (a1_ : Y1) (a2_ : Y1) : Option (Int) := (T_zaw a1_ a2_).ev
noncomputable def A_zaw : Sh := (.cons (.dat y1) (.cons (.dat y1) .nil))
noncomputable def I_zaw : List (Nat × OSh) := []
noncomputable def K_zaw : RetK := { acts := [], res := [.tmp 4], sh := (.cons (.dat yi) .nil), obs := [], pins := [] }
noncomputable def D_zaw : FD := ⟨A_zaw, I_zaw, [], Int, fun x => F_zaw x.1.1 x.1.2.1, fun r => ([.dat yi r], [])⟩
noncomputable def E_zaw : Env := envOf [(114, D_za)]
noncomputable def Z_zaw : Nat → Nat → List Nat := fun _ _ => []
noncomputable def O_zaw : List (Nat × LD) := [(0, DL_zaw_0)]
noncomputable def C_zaw : Code := (f115.body).getD .skip
noncomputable def S_zb_0 (k : Int × (Y1 × Int)) (v : Int) : Tr ((Int) ⊕ ((Unit) ⊕ (Int))) :=
 .t (decide (v < k.2.2))
 (.g (inR v (List.length k.2.1)) <|
 .t ((List.getD k.2.1 (Int.toNat v) (0 : Int)) != k.1)
 (.l (.inr (.inr (List.getD k.2.1 (Int.toNat v) (0 : Int)))))
 (.l (.inl (IntKind.wrap .i64 (v + (1 : Int))))))
 (.l (.inr (.inl ())))
noncomputable def L_zb_0 (k : Int × (Y1 × Int)) (v : Int) : Option ((Unit) ⊕ (Int)) := iter (fun v => (S_zb_0 k v).ev) v
noncomputable def DL_zb_0 : LD := ⟨(yh [3, 6, 7, 8] (.cons (.dat yi) (.cons (.dat y1) (.cons (.dat yi) (.cons (.dat yi) .nil))))), [(0, (yh [3] (.cons (.dat yi) .nil)))], (yh [2] (.cons (.dat yi) .nil)), Int × (Y1 × Int), Int, (Unit) ⊕ (Int), fun k v => ((k.1, (k.2.1, (k.2.2, (v, ())))), ()), fun t => (t.1.1, (t.1.2.1, t.1.2.2.1)), fun t => t.1.2.2.2.1, S_zb_0, fun k r => .s (Unit) (Int) r (fun _ => .l (.exit 0 (mkSt ((ys [3] (.cons (.dat yi) .nil))) ((k.1, ()), ())))) (fun b => .l (.ret (mkSt ((ys [2] (.cons (.dat yi) .nil))) ((b, ()), ()))))⟩
noncomputable def T_zb (a1_ : Y1) : Tr (Int) :=
 .c ((Unit) ⊕ (Int)) (L_zb_0 ((0 : Int), (a1_, ((List.length a1_ : Nat) : Int))) (0 : Int)) fun r7_ =>
 .s (Unit) (Int) r7_
 (fun _ => .l (0 : Int))
 (fun r9_ => .l r9_)
noncomputable def F_zb (a1_ : Y1) : Option (Int) := (T_zb a1_).ev
noncomputable def A_zb : Sh := (.cons (.dat y1) .nil)
noncomputable def I_zb : List (Nat × OSh) := []
noncomputable def K_zb : RetK := { acts := [], res := [.tmp 2], sh := (.cons (.dat yi) .nil), obs := [], pins := [] }
noncomputable def D_zb : FD := ⟨A_zb, I_zb, [], Int, fun x => F_zb x.1.1, fun r => ([.dat yi r], [])⟩
noncomputable def E_zb : Env := envOf []
noncomputable def Z_zb : Nat → Nat → List Nat := fun _ _ => []
noncomputable def O_zb : List (Nat × LD) := [(0, DL_zb_0)]
noncomputable def C_zb : Code := (f113.body).getD .skip
noncomputable def T_zaj (a1_ : Y1) (a2_ : Y1) : Tr (Int) :=
 .c (Int) (F_za ((List.length a1_ : Nat) : Int) ((List.length a2_ : Nat) : Int)) fun r1_ =>
 .c (Int) (F_zaw a1_ a2_) fun r2_ =>
 .c (Int) (F_zb ([r1_, r2_] : Y1)) fun r3_ =>
 .l r3_
noncomputable def F_zaj (a1_ : Y1) (a2_ : Y1) : Option (Int) := (T_zaj a1_ a2_).ev
noncomputable def A_zaj : Sh := (.cons (.dat y1) (.cons (.dat y1) .nil))
noncomputable def I_zaj : List (Nat × OSh) := []
noncomputable def K_zaj : RetK := { acts := [], res := [.tmp 4], sh := (.cons (.dat yi) .nil), obs := [], pins := [] }
noncomputable def D_zaj : FD := ⟨A_zaj, I_zaj, [], Int, fun x => F_zaj x.1.1 x.1.2.1, fun r => ([.dat yi r], [])⟩
noncomputable def E_zaj : Env := envOf [(114, D_za), (115, D_zaw), (113, D_zb)]
noncomputable def Z_zaj : Nat → Nat → List Nat := fun _ _ => []
noncomputable def O_zaj : List (Nat × LD) := []
noncomputable def C_zaj : Code := (f107.body).getD .skip
noncomputable def S_zan_0 (k : Int) (v : Int × Y2) : Tr ((Int × Y2) ⊕ Y2) :=
 .g (decide ((0 : Int) ≤ k)) <|
 .t (decide (v.1 < (IntKind.wrap .u64 ((1 : Int) * 2 ^ (min (Int.toNat k) (IntKind.bits .u64))))))
 (.c Y1 (F_zah v.1) fun r4_ =>
 .g (decide ((List.length v.2 + List.length ([r4_] : List Y1)) * 24 ≤ 140737488355328)) <|
 .l (.inl ((IntKind.wrap .u64 (v.1 + (1 : Int))), (v.2 ++ ([r4_] : List Y1)))))
 (.l (.inr v.2))
noncomputable def L_zan_0 (k : Int) (v : Int × Y2) : Option Y2 := iter (fun v => (S_zan_0 k v).ev) v
noncomputable def DL_zan_0 : LD := ⟨{ acts := [], S := { slots := [0, 3, 4], sh := (.cons (.dat yi) (.cons (.arr 5) (.cons (.dat (.int .u64)) .nil))), obs := [(5, .arr 24 y1)] } }, [(0, { acts := [], S := { slots := [3], sh := (.cons (.arr 5) .nil), obs := [(5, .arr 24 y1)] } })], (yh [] .nil), Int, Int × Y2, List Y1, fun k v => ((k, ((), (v.1, ()))), (v.2, ())), fun t => t.1.1, fun t => (t.1.2.2.1, t.2.1), S_zan_0, fun _ r => .l (.exit 0 (mkSt ({ slots := [3], sh := (.cons (.arr 5) .nil), obs := [(5, .arr 24 y1)] }) (((), ()), (r, ()))))⟩
noncomputable def T_zan (a1_ : Int) : Tr Y2 :=
 .c Y2 (L_zan_0 a1_ ((1 : Int), ([] : List Y1))) fun r6_ =>
 .c Y2 (F_zbg (fun h7_ => Option.bind (F_zaj h7_.1 h7_.2.1) fun y8_ => some y8_) r6_) fun r9_ =>
 .l r9_
noncomputable def F_zan (a1_ : Int) : Option Y2 := (T_zan a1_).ev
noncomputable def A_zan : Sh := (.cons (.dat yi) .nil)
noncomputable def I_zan : List (Nat × OSh) := []
noncomputable def K_zan : RetK := { acts := [.ren 5 0], res := [.tmp 2], sh := (.cons (.arr 0) .nil), obs := [(0, .arr 24 y1)], pins := [] }
noncomputable def D_zan : FD := ⟨A_zan, I_zan, [], List Y1, fun x => F_zan x.1.1, fun r => ([.arr 0], [(0, .arr 24 y1 r)])⟩
noncomputable def E_zan : Env := envOf [(89, D_zah), (106, D_zbg), (106, D_zbg), (107, D_zaj)]
noncomputable def Z_zan : Nat → Nat → List Nat := fun r i => match look [(5, [(3, [14])])] r with
 | some l => (look l i).getD []
 | none => []
noncomputable def O_zan : List (Nat × LD) := [(0, DL_zan_0)]
noncomputable def C_zan : Code := (f99.body).getD .skip
noncomputable def S_zam_0 (k : ((HL [y1] → Option (Bool))) × (Int × Y2)) (v : Int × Y2) : Tr ((Int × Y2) ⊕ Y2) :=
 .t (decide (v.1 < k.2.1))
 (.g (inR v.1 (List.length k.2.2)) <|
 .g (decide ((Int.toNat v.1) < List.length k.2.2)) <|
 .c (Bool) (k.1 ((List.getD k.2.2 (Int.toNat v.1) ([] : Y1)), ())) fun r7_ =>
 .t r7_
 (.g (decide ((List.length v.2 + List.length ([(List.getD k.2.2 (Int.toNat v.1) ([] : Y1))] : List Y1)) * 24 ≤ 140737488355328)) <|
 .l (.inl ((IntKind.wrap .i64 (v.1 + (1 : Int))), (v.2 ++ ([(List.getD k.2.2 (Int.toNat v.1) ([] : Y1))] : List Y1)))))
 (.l (.inl ((IntKind.wrap .i64 (v.1 + (1 : Int))), v.2))))
 (.l (.inr v.2))
noncomputable def L_zam_0 (k : ((HL [y1] → Option (Bool))) × (Int × Y2)) (v : Int × Y2) : Option Y2 := iter (fun v => (S_zam_0 k v).ev) v
noncomputable def DL_zam_0 : LD := ⟨{ acts := [], S := { slots := [1, 5, 13, 14, 15], sh := (.cons (.clo [y1] .bool) (.cons (.arr 8) (.cons (.arr 10) (.cons (.dat yi) (.cons (.dat yi) .nil))))), obs := [(8, .arr 24 y1), (10, .arr 24 y1)] } }, [(0, { acts := [], S := { slots := [5], sh := (.cons (.arr 8) .nil), obs := [(8, .arr 24 y1)] } })], (yh [] .nil), ((HL [y1] → Option (Bool))) × (Int × Y2), Int × Y2, List Y1, fun k v => ((k.1, ((), ((), (k.2.1, (v.1, ()))))), (v.2, (k.2.2, ()))), fun t => (t.1.1, (t.1.2.2.2.1, t.2.2.1)), fun t => (t.1.2.2.2.2.1, t.2.1), S_zam_0, fun _ r => .l (.exit 0 (mkSt ({ slots := [5], sh := (.cons (.arr 8) .nil), obs := [(8, .arr 24 y1)] }) (((), ()), (r, ()))))⟩
noncomputable def T_zam (a1_ : Int) (a2_ : (HL [y1] → Option (Bool))) : Tr Y2 :=
 .c Y2 (F_zan a1_) fun r1_ =>
 .g (decide ((List.length ([([] : Y1)] : List Y1) + List.length r1_) * 24 ≤ 140737488355328)) <|
 .c Y2 (L_zam_0 (a2_, (((List.length (([([] : Y1)] : List Y1) ++ r1_) : Nat) : Int), (([([] : Y1)] : List Y1) ++ r1_))) ((0 : Int), ([] : List Y1))) fun r9_ =>
 .l r9_
noncomputable def F_zam (a1_ : Int) (a2_ : (HL [y1] → Option (Bool))) : Option Y2 := (T_zam a1_ a2_).ev
noncomputable def A_zam : Sh := (.cons (.dat yi) (.cons (.clo [y1] .bool) .nil))
noncomputable def I_zam : List (Nat × OSh) := []
noncomputable def K_zam : RetK := { acts := [.ren 8 0], res := [.tmp 4], sh := (.cons (.arr 0) .nil), obs := [(0, .arr 24 y1)], pins := [] }
noncomputable def D_zam : FD := ⟨A_zam, I_zam, [], List Y1, fun x => F_zam x.1.1 x.1.2.1, fun r => ([.arr 0], [(0, .arr 24 y1 r)])⟩
noncomputable def E_zam : Env := envOf [(99, D_zan)]
noncomputable def Z_zam : Nat → Nat → List Nat := fun r i => match look [(2, [(1, [9])])] r with
 | some l => (look l i).getD []
 | none => []
noncomputable def O_zam : List (Nat × LD) := [(0, DL_zam_0)]
noncomputable def C_zam : Code := (f67.body).getD .skip
noncomputable def T_zw (a1_ : Y1) (a2_ : Y1) (a3_ : Y1) (a4_ : Y1) (a5_ : Y3) (a6_ : Int) : Tr (Bool) :=
 .c (Bool) (F_zaa a2_ a3_ a4_ a5_ a6_ a1_) fun r1_ =>
 .l r1_
noncomputable def F_zw (a1_ : Y1) (a2_ : Y1) (a3_ : Y1) (a4_ : Y1) (a5_ : Y3) (a6_ : Int) : Option (Bool) := (T_zw a1_ a2_ a3_ a4_ a5_ a6_).ev
noncomputable def A_zw : Sh := (.cons (.dat y1) (.cons (.ptr (.cons (.dat y1) (.cons (.dat y1) (.cons (.dat y1) (.cons (.dat y3) .nil))))) (.cons (.ptr (.cons (.dat yi) .nil)) .nil)))
noncomputable def I_zw : List (Nat × OSh) := []
noncomputable def K_zw : RetK := { acts := [], res := [.tmp 4], sh := (.cons (.dat .bool) .nil), obs := [], pins := [] }
noncomputable def D_zw : FD := ⟨A_zw, I_zw, [], Bool, fun x => F_zw x.1.1 x.1.2.1.1 x.1.2.1.2.1 x.1.2.1.2.2.1 x.1.2.1.2.2.2.1 x.1.2.2.1.1, fun r => ([.dat .bool r], [])⟩
noncomputable def E_zw : Env := envOf [(81, D_zaa)]
noncomputable def Z_zw : Nat → Nat → List Nat := fun _ _ => []
noncomputable def O_zw : List (Nat × LD) := []
noncomputable def C_zw : Code := (f91.body).getD .skip
noncomputable def T_zv (a1_ : Y1) (a2_ : Y1) (a3_ : Y1) (a4_ : Y3) (a5_ : Int) : Tr Y2 :=
 .c Y2 (F_zam ((List.length a1_ : Nat) : Int) (fun h1_ => Option.bind (F_zw h1_.1 a1_ a2_ a3_ a4_ a5_) fun y2_ => some y2_)) fun r3_ =>
 .l r3_
noncomputable def F_zv (a1_ : Y1) (a2_ : Y1) (a3_ : Y1) (a4_ : Y3) (a5_ : Int) : Option Y2 := (T_zv a1_ a2_ a3_ a4_ a5_).ev
noncomputable def A_zv : Sh := (.cons (.agg (.cons (.dat y1) (.cons (.dat y1) (.cons (.dat y1) (.cons (.dat y3) .nil))))) (.cons (.dat yi) .nil))
noncomputable def I_zv : List (Nat × OSh) := []
noncomputable def K_zv : RetK := { acts := [.ren 576 0], res := [.tmp 4], sh := (.cons (.arr 0) .nil), obs := [(0, .arr 24 y1)], pins := [] }
noncomputable def D_zv : FD := ⟨A_zv, I_zv, [], List Y1, fun x => F_zv x.1.1.1 x.1.1.2.1 x.1.1.2.2.1 x.1.1.2.2.2.1 x.1.2.1, fun r => ([.arr 0], [(0, .arr 24 y1 r)])⟩
noncomputable def E_zv : Env := envOf [(67, D_zam), (67, D_zam), (91, D_zw)]
noncomputable def Z_zv : Nat → Nat → List Nat := fun _ _ => []
noncomputable def O_zv : List (Nat × LD) := []
noncomputable def C_zv : Code := (f50.body).getD .skip
noncomputable def S_zt_4 (k : Y2 × (Int × (Int × (Int × (Int × (Int × (Y1 × (Int × (Int × (Int × (Y1 × (Y1 × (Y1 × (Y3 × Y2)))))))))))))) (v : Int) : Tr ((Int) ⊕ ((Unit) ⊕ (Unit))) :=
 .t (decide (v < k.2.2.2.2.2.2.2.2.2.1))
 (.g (inR v (List.length k.2.2.2.2.2.2.2.2.2.2.2.2.2.2)) <|
 .g (decide ((Int.toNat v) < List.length k.2.2.2.2.2.2.2.2.2.2.2.2.2.2)) <|
 .c Y1 (F_zah (IntKind.wrap .u64 k.2.2.1)) fun r40_ =>
 .c (Int) (F_zab k.2.2.2.2.2.2.2.2.2.2.1 k.2.2.2.2.2.2.2.2.2.2.2.1 k.2.2.2.2.2.2.2.2.2.2.2.2.1 k.2.2.2.2.2.2.2.2.2.2.2.2.2.1 k.2.1 r40_ (List.getD k.2.2.2.2.2.2.2.2.2.2.2.2.2.2 (Int.toNat v) ([] : Y1))) fun r41_ =>
 .g (inR (IntKind.wrap .i64 (k.2.1 + (1 : Int))) (List.length k.1)) <|
 .c (Int) (F_zaf (List.getD k.2.2.2.2.2.2.2.2.2.2.2.2.2.2 (Int.toNat v) ([] : Y1))) fun r42_ =>
 .g (inR r42_ (List.length (List.getD k.1 (Int.toNat (IntKind.wrap .i64 (k.2.1 + (1 : Int)))) ([] : Y1)))) <|
 .t (decide ((IntKind.wrap .i64 (r41_ + (List.getD (List.getD k.1 (Int.toNat (IntKind.wrap .i64 (k.2.1 + (1 : Int)))) ([] : Y1)) (Int.toNat r42_) (0 : Int)))) < k.2.2.2.1))
 (.l (.inr (.inr ())))
 (.l (.inl (IntKind.wrap .i64 (v + (1 : Int))))))
 (.l (.inr (.inl ())))
noncomputable def L_zt_4 (k : Y2 × (Int × (Int × (Int × (Int × (Int × (Y1 × (Int × (Int × (Int × (Y1 × (Y1 × (Y1 × (Y3 × Y2)))))))))))))) (v : Int) : Option ((Unit) ⊕ (Unit)) := iter (fun v => (S_zt_4 k v).ev) v
noncomputable def DL_zt_4 : LD := ⟨{ acts := [], S := { slots := [1, 2, 6, 7, 8, 30, 31, 37, 38, 39, 46, 47, 48], sh := (.cons (.dat y2) (.cons (.box 2 0) (.cons (.dat yi) (.cons (.dat yi) (.cons (.dat yi) (.cons (.dat yi) (.cons (.dat yi) (.cons (.dat y1) (.cons (.dat yi) (.cons (.dat yi) (.cons (.arr 2944) (.cons (.dat yi) (.cons (.dat yi) .nil))))))))))))), obs := [(2, .cells (.cons (.dat y1) (.cons (.dat y1) (.cons (.dat y1) (.cons (.dat y3) .nil))))), (2944, .arr 24 y1)] } }, [(4, { acts := [], S := { slots := [1, 2, 6, 30, 31, 37, 38, 39], sh := (.cons (.dat y2) (.cons (.box 2 0) (.cons (.dat yi) (.cons (.dat yi) (.cons (.dat yi) (.cons (.dat y1) (.cons (.dat yi) (.cons (.dat yi) .nil)))))))), obs := [(2, .cells (.cons (.dat y1) (.cons (.dat y1) (.cons (.dat y1) (.cons (.dat y3) .nil)))))] } })], (yh [4] (.cons (.dat .bool) .nil)), Y2 × (Int × (Int × (Int × (Int × (Int × (Y1 × (Int × (Int × (Int × (Y1 × (Y1 × (Y1 × (Y3 × Y2))))))))))))), Int, (Unit) ⊕ (Unit), fun k v => ((k.1, ((), (k.2.1, (k.2.2.1, (k.2.2.2.1, (k.2.2.2.2.1, (k.2.2.2.2.2.1, (k.2.2.2.2.2.2.1, (k.2.2.2.2.2.2.2.1, (k.2.2.2.2.2.2.2.2.1, ((), (k.2.2.2.2.2.2.2.2.2.1, (v, ()))))))))))))), ((k.2.2.2.2.2.2.2.2.2.2.1, (k.2.2.2.2.2.2.2.2.2.2.2.1, (k.2.2.2.2.2.2.2.2.2.2.2.2.1, (k.2.2.2.2.2.2.2.2.2.2.2.2.2.1, ())))), (k.2.2.2.2.2.2.2.2.2.2.2.2.2.2, ()))), fun t => (t.1.1, (t.1.2.2.1, (t.1.2.2.2.1, (t.1.2.2.2.2.1, (t.1.2.2.2.2.2.1, (t.1.2.2.2.2.2.2.1, (t.1.2.2.2.2.2.2.2.1, (t.1.2.2.2.2.2.2.2.2.1, (t.1.2.2.2.2.2.2.2.2.2.1, (t.1.2.2.2.2.2.2.2.2.2.2.2.1, (t.2.1.1, (t.2.1.2.1, (t.2.1.2.2.1, (t.2.1.2.2.2.1, t.2.2.1)))))))))))))), fun t => t.1.2.2.2.2.2.2.2.2.2.2.2.2.1, S_zt_4, fun k r => .s (Unit) (Unit) r (fun _ => .l (.exit 4 (mkSt ({ slots := [1, 2, 6, 30, 31, 37, 38, 39], sh := (.cons (.dat y2) (.cons (.box 2 0) (.cons (.dat yi) (.cons (.dat yi) (.cons (.dat yi) (.cons (.dat y1) (.cons (.dat yi) (.cons (.dat yi) .nil)))))))), obs := [(2, .cells (.cons (.dat y1) (.cons (.dat y1) (.cons (.dat y1) (.cons (.dat y3) .nil)))))] }) ((k.1, ((), (k.2.1, (k.2.2.2.2.1, (k.2.2.2.2.2.1, (k.2.2.2.2.2.2.1, (k.2.2.2.2.2.2.2.1, (k.2.2.2.2.2.2.2.2.1, ())))))))), ((k.2.2.2.2.2.2.2.2.2.2.1, (k.2.2.2.2.2.2.2.2.2.2.2.1, (k.2.2.2.2.2.2.2.2.2.2.2.2.1, (k.2.2.2.2.2.2.2.2.2.2.2.2.2.1, ())))), ()))))) (fun _ => .l (.ret (mkSt ((ys [4] (.cons (.dat .bool) .nil))) ((false, ()), ()))))⟩
noncomputable def S_zt_2 (k : Y2 × (Int × (Int × (Int × (Y1 × (Int × (Y1 × (Y1 × (Y1 × Y3))))))))) (v : Int) : Tr ((Int) ⊕ ((Unit) ⊕ (Unit))) :=
 .t (decide (v < k.2.2.2.2.2.1))
 (.g (inR v (List.length k.2.2.2.2.1)) <|
 .c Y2 (F_zv k.2.2.2.2.2.2.1 k.2.2.2.2.2.2.2.1 k.2.2.2.2.2.2.2.2.1 k.2.2.2.2.2.2.2.2.2 k.2.1) fun r23_ =>
 .c ((Unit) ⊕ (Unit)) (L_zt_4 (k.1, (k.2.1, (v, ((List.getD k.2.2.2.2.1 (Int.toNat v) (0 : Int)), (k.2.2.1, (k.2.2.2.1, (k.2.2.2.2.1, (k.2.2.2.2.2.1, (v, (((List.length r23_ : Nat) : Int), (k.2.2.2.2.2.2.1, (k.2.2.2.2.2.2.2.1, (k.2.2.2.2.2.2.2.2.1, (k.2.2.2.2.2.2.2.2.2, r23_)))))))))))))) (0 : Int)) fun r55_ =>
 .s (Unit) (Unit) r55_
 (fun _ => .l (.inl (IntKind.wrap .i64 (v + (1 : Int)))))
 (fun _ => .l (.inr (.inr ()))))
 (.l (.inr (.inl ())))
noncomputable def L_zt_2 (k : Y2 × (Int × (Int × (Int × (Y1 × (Int × (Y1 × (Y1 × (Y1 × Y3))))))))) (v : Int) : Option ((Unit) ⊕ (Unit)) := iter (fun v => (S_zt_2 k v).ev) v
noncomputable def DL_zt_2 : LD := ⟨{ acts := [], S := { slots := [1, 2, 6, 30, 31, 37, 38, 39], sh := (.cons (.dat y2) (.cons (.box 2 0) (.cons (.dat yi) (.cons (.dat yi) (.cons (.dat yi) (.cons (.dat y1) (.cons (.dat yi) (.cons (.dat yi) .nil)))))))), obs := [(2, .cells (.cons (.dat y1) (.cons (.dat y1) (.cons (.dat y1) (.cons (.dat y3) .nil)))))] } }, [(2, { acts := [], S := { slots := [1, 2, 30, 31], sh := (.cons (.dat y2) (.cons (.box 2 0) (.cons (.dat yi) (.cons (.dat yi) .nil)))), obs := [(2, .cells (.cons (.dat y1) (.cons (.dat y1) (.cons (.dat y1) (.cons (.dat y3) .nil)))))] } })], (yh [4] (.cons (.dat .bool) .nil)), Y2 × (Int × (Int × (Int × (Y1 × (Int × (Y1 × (Y1 × (Y1 × Y3)))))))), Int, (Unit) ⊕ (Unit), fun k v => ((k.1, ((), (k.2.1, (k.2.2.1, (k.2.2.2.1, (k.2.2.2.2.1, (k.2.2.2.2.2.1, (v, ())))))))), ((k.2.2.2.2.2.2.1, (k.2.2.2.2.2.2.2.1, (k.2.2.2.2.2.2.2.2.1, (k.2.2.2.2.2.2.2.2.2, ())))), ())), fun t => (t.1.1, (t.1.2.2.1, (t.1.2.2.2.1, (t.1.2.2.2.2.1, (t.1.2.2.2.2.2.1, (t.1.2.2.2.2.2.2.1, (t.2.1.1, (t.2.1.2.1, (t.2.1.2.2.1, t.2.1.2.2.2.1))))))))), fun t => t.1.2.2.2.2.2.2.2.1, S_zt_2, fun k r => .s (Unit) (Unit) r (fun _ => .l (.exit 2 (mkSt ({ slots := [1, 2, 30, 31], sh := (.cons (.dat y2) (.cons (.box 2 0) (.cons (.dat yi) (.cons (.dat yi) .nil)))), obs := [(2, .cells (.cons (.dat y1) (.cons (.dat y1) (.cons (.dat y1) (.cons (.dat y3) .nil)))))] }) ((k.1, ((), (k.2.2.1, (k.2.2.2.1, ())))), ((k.2.2.2.2.2.2.1, (k.2.2.2.2.2.2.2.1, (k.2.2.2.2.2.2.2.2.1, (k.2.2.2.2.2.2.2.2.2, ())))), ()))))) (fun _ => .l (.ret (mkSt ((ys [4] (.cons (.dat .bool) .nil))) ((false, ()), ()))))⟩
noncomputable def S_zt_0 (k : Y2 × (Int × (Y1 × (Y1 × (Y1 × Y3))))) (v : Int) : Tr ((Int) ⊕ ((Unit) ⊕ (Unit))) :=
 .t (decide (v < k.2.1))
 (.g (inR v (List.length k.1)) <|
 .c ((Unit) ⊕ (Unit)) (L_zt_2 (k.1, (v, (k.2.1, (v, ((List.getD k.1 (Int.toNat v) ([] : Y1)), (((List.length (List.getD k.1 (Int.toNat v) ([] : Y1)) : Nat) : Int), (k.2.2.1, (k.2.2.2.1, (k.2.2.2.2.1, k.2.2.2.2.2))))))))) (0 : Int)) fun r66_ =>
 .s (Unit) (Unit) r66_
 (fun _ => .l (.inl (IntKind.wrap .i64 (v + (1 : Int)))))
 (fun _ => .l (.inr (.inr ()))))
 (.l (.inr (.inl ())))
noncomputable def L_zt_0 (k : Y2 × (Int × (Y1 × (Y1 × (Y1 × Y3))))) (v : Int) : Option ((Unit) ⊕ (Unit)) := iter (fun v => (S_zt_0 k v).ev) v
noncomputable def DL_zt_0 : LD := ⟨{ acts := [], S := { slots := [1, 2, 30, 31], sh := (.cons (.dat y2) (.cons (.box 2 0) (.cons (.dat yi) (.cons (.dat yi) .nil)))), obs := [(2, .cells (.cons (.dat y1) (.cons (.dat y1) (.cons (.dat y1) (.cons (.dat y3) .nil)))))] } }, [(0, (yh [] .nil))], (yh [4] (.cons (.dat .bool) .nil)), Y2 × (Int × (Y1 × (Y1 × (Y1 × Y3)))), Int, (Unit) ⊕ (Unit), fun k v => ((k.1, ((), (k.2.1, (v, ())))), ((k.2.2.1, (k.2.2.2.1, (k.2.2.2.2.1, (k.2.2.2.2.2, ())))), ())), fun t => (t.1.1, (t.1.2.2.1, (t.2.1.1, (t.2.1.2.1, (t.2.1.2.2.1, t.2.1.2.2.2.1))))), fun t => t.1.2.2.2.1, S_zt_0, fun _ r => .s (Unit) (Unit) r (fun _ => .l (.exit 0 (mkSt ((ys [] .nil)) ((), ())))) (fun _ => .l (.ret (mkSt ((ys [4] (.cons (.dat .bool) .nil))) ((false, ()), ()))))⟩
noncomputable def T_zt (a1_ : Y1) (a2_ : Y1) (a3_ : Y1) (a4_ : Y3) (a5_ : List Y1) : Tr (Bool) :=
 .t (((List.length a5_ : Nat) : Int) != (IntKind.wrap .i64 (((List.length a4_ : Nat) : Int) + (1 : Int))))
 (.l false)
 (.c (Bool) (F_zaz a5_ (fun h1_ => Option.bind (F_zu h1_.1 a1_ a2_ a3_ a4_) fun y2_ => some y2_)) fun r3_ =>
 .t r3_
 (.l false)
 (.g (inR ((List.length a4_ : Nat) : Int) (List.length a5_)) <|
 .c (Int) (F_zbf (List.getD a5_ (Int.toNat ((List.length a4_ : Nat) : Int)) ([] : Y1))) fun r4_ =>
 .t (decide ((0 : Int) < r4_))
 (.l false)
 (.c ((Unit) ⊕ (Unit)) (L_zt_0 (a5_, (((List.length a4_ : Nat) : Int), (a1_, (a2_, (a3_, a4_))))) (0 : Int)) fun r70_ =>
 .s (Unit) (Unit) r70_
 (fun _ => .l true)
 (fun _ => .l false))))
noncomputable def F_zt (a1_ : Y1) (a2_ : Y1) (a3_ : Y1) (a4_ : Y3) (a5_ : List Y1) : Option (Bool) := (T_zt a1_ a2_ a3_ a4_ a5_).ev
noncomputable def A_zt : Sh := (.cons (.agg (.cons (.dat y1) (.cons (.dat y1) (.cons (.dat y1) (.cons (.dat y3) .nil))))) (.cons (.dat y2) .nil))
noncomputable def I_zt : List (Nat × OSh) := []
noncomputable def K_zt : RetK := { acts := [], res := [.tmp 4], sh := (.cons (.dat .bool) .nil), obs := [], pins := [] }
noncomputable def D_zt : FD := ⟨A_zt, I_zt, [], Bool, fun x => F_zt x.1.1.1 x.1.1.2.1 x.1.1.2.2.1 x.1.1.2.2.2.1 x.1.2.1, fun r => ([.dat .bool r], [])⟩
noncomputable def E_zt : Env := envOf [(64, D_zaz), (88, D_zbf), (50, D_zv), (89, D_zah), (52, D_zab), (53, D_zaf), (64, D_zaz), (87, D_zu)]
noncomputable def Z_zt : Nat → Nat → List Nat := fun _ _ => []
noncomputable def O_zt : List (Nat × LD) := [(4, DL_zt_4), (2, DL_zt_2), (0, DL_zt_0)]
noncomputable def C_zt : Code := (f41.body).getD .skip
noncomputable def T_zs (a1_ : Y1) (a2_ : Y1) (a3_ : Y1) (a4_ : Y3) (a5_ : List Y1) (a6_ : List Y1) : Tr (Bool × (Bool)) :=
 .c (Int × (Bool)) (F_zq a1_ a2_ a3_ a4_ a5_) fun r1_ =>
 .t (!r1_.2)
 (.l (false, false))
 (.c (Bool) (F_zt a1_ a2_ a3_ a4_ a6_) fun r2_ =>
 .t r2_
 (.g (inR (0 : Int) (List.length a6_)) <|
 .g (inR (0 : Int) (List.length (List.getD a6_ (Int.toNat (0 : Int)) ([] : Y1)))) <|
 .l (((List.getD (List.getD a6_ (Int.toNat (0 : Int)) ([] : Y1)) (Int.toNat (0 : Int)) (0 : Int)) == r1_.1), true))
 (.l (false, true)))
noncomputable def F_zs (a1_ : Y1) (a2_ : Y1) (a3_ : Y1) (a4_ : Y3) (a5_ : List Y1) (a6_ : List Y1) : Option (Bool × (Bool)) := (T_zs a1_ a2_ a3_ a4_ a5_ a6_).ev
noncomputable def A_zs : Sh := (.cons (.agg (.cons (.dat y1) (.cons (.dat y1) (.cons (.dat y1) (.cons (.dat y3) .nil))))) (.cons (.dat y2) (.cons (.dat y2) .nil)))
noncomputable def I_zs : List (Nat × OSh) := []
noncomputable def K_zs : RetK := { acts := [], res := [.tmp 6, .tmp 7], sh := (.cons (.dat .bool) (.cons (.dat .bool) .nil)), obs := [], pins := [] }
noncomputable def D_zs : FD := ⟨A_zs, I_zs, [], Bool × (Bool), fun x => F_zs x.1.1.1 x.1.1.2.1 x.1.1.2.2.1 x.1.1.2.2.2.1 x.1.2.1 x.1.2.2.1, fun r => ([.dat .bool r.1, .dat .bool r.2], [])⟩
noncomputable def E_zs : Env := envOf [(16, D_zq), (41, D_zt)]
noncomputable def Z_zs : Nat → Nat → List Nat := fun _ _ => []
noncomputable def O_zs : List (Nat × LD) := []
noncomputable def C_zs : Code := (f7.body).getD .skip
noncomputable def S_zbz_0 (k : Y2 × (Y1 × (Y1 × (Y1 × Y3)))) (v : Int) : Tr ((Int) ⊕ ((Unit) ⊕ (Unit))) :=
 .t (decide (v < ((List.length k.1 : Nat) : Int)))
 (.t (decide (v < ((List.length k.2.2.2.2 : Nat) : Int)))
 (.g (inR v (List.length k.1)) <|
 .c (Bool) (F_zbw k.2.1 k.2.2.1 k.2.2.2.1 k.2.2.2.2 v (List.getD k.1 (Int.toNat v) ([] : Y1))) fun r7_ =>
 .t (!r7_)
 (.l (.inr (.inr ())))
 (.l (.inl (IntKind.wrap .i64 (v + (1 : Int))))))
 (.l (.inr (.inl ()))))
 (.l (.inr (.inl ())))
noncomputable def L_zbz_0 (k : Y2 × (Y1 × (Y1 × (Y1 × Y3)))) (v : Int) : Option ((Unit) ⊕ (Unit)) := iter (fun v => (S_zbz_0 k v).ev) v
noncomputable def DL_zbz_0 : LD := ⟨{ acts := [], S := { slots := [1, 2, 5], sh := (.cons (.dat y2) (.cons (.box 2 0) (.cons (.dat yi) .nil))), obs := [(2, .cells (.cons (.dat y1) (.cons (.dat y1) (.cons (.dat y1) (.cons (.dat y3) .nil)))))] } }, [(0, { acts := [], S := { slots := [1, 2], sh := (.cons (.dat y2) (.cons (.box 2 0) .nil)), obs := [(2, .cells (.cons (.dat y1) (.cons (.dat y1) (.cons (.dat y1) (.cons (.dat y3) .nil)))))] } })], (yh [4] (.cons (.dat .bool) .nil)), Y2 × (Y1 × (Y1 × (Y1 × Y3))), Int, (Unit) ⊕ (Unit), fun k v => ((k.1, ((), (v, ()))), ((k.2.1, (k.2.2.1, (k.2.2.2.1, (k.2.2.2.2, ())))), ())), fun t => (t.1.1, (t.2.1.1, (t.2.1.2.1, (t.2.1.2.2.1, t.2.1.2.2.2.1)))), fun t => t.1.2.2.1, S_zbz_0, fun k r => .s (Unit) (Unit) r (fun _ => .l (.exit 0 (mkSt ({ slots := [1, 2], sh := (.cons (.dat y2) (.cons (.box 2 0) .nil)), obs := [(2, .cells (.cons (.dat y1) (.cons (.dat y1) (.cons (.dat y1) (.cons (.dat y3) .nil)))))] }) ((k.1, ((), ())), ((k.2.1, (k.2.2.1, (k.2.2.2.1, (k.2.2.2.2, ())))), ()))))) (fun _ => .l (.ret (mkSt ((ys [4] (.cons (.dat .bool) .nil))) ((false, ()), ()))))⟩
noncomputable def T_zbz (a1_ : Y1) (a2_ : Y1) (a3_ : Y1) (a4_ : Y3) (a5_ : List Y1) : Tr (Bool) :=
 .c ((Unit) ⊕ (Unit)) (L_zbz_0 (a5_, (a1_, (a2_, (a3_, a4_)))) (0 : Int)) fun r14_ =>
 .s (Unit) (Unit) r14_
 (fun _ => .l (((List.length a5_ : Nat) : Int) == ((List.length a4_ : Nat) : Int)))
 (fun _ => .l false)
noncomputable def F_zbz (a1_ : Y1) (a2_ : Y1) (a3_ : Y1) (a4_ : Y3) (a5_ : List Y1) : Option (Bool) := (T_zbz a1_ a2_ a3_ a4_ a5_).ev
noncomputable def A_zbz : Sh := (.cons (.agg (.cons (.dat y1) (.cons (.dat y1) (.cons (.dat y1) (.cons (.dat y3) .nil))))) (.cons (.dat y2) .nil))
noncomputable def I_zbz : List (Nat × OSh) := []
noncomputable def K_zbz : RetK := { acts := [], res := [.tmp 4], sh := (.cons (.dat .bool) .nil), obs := [], pins := [] }
noncomputable def D_zbz : FD := ⟨A_zbz, I_zbz, [], Bool, fun x => F_zbz x.1.1.1 x.1.1.2.1 x.1.1.2.2.1 x.1.1.2.2.2.1 x.1.2.1, fun r => ([.dat .bool r], [])⟩
noncomputable def E_zbz : Env := envOf [(73, D_zbw)]
noncomputable def Z_zbz : Nat → Nat → List Nat := fun _ _ => []
noncomputable def O_zbz : List (Nat × LD) := [(0, DL_zbz_0)]
noncomputable def C_zbz : Code := (f42.body).getD .skip
noncomputable def S_zcd_2 (k : Y2 × (Int × (Y1 × (Y1 × (Y1 × Y3))))) (v : Int) : Tr ((Int) ⊕ ((Unit) ⊕ (Unit))) :=
 .g (inR k.2.1 (List.length k.1)) <|
 .t (decide (v < ((List.length (List.getD k.1 (Int.toNat k.2.1) ([] : Y1)) : Nat) : Int)))
 (.g (inR k.2.1 (List.length k.1)) <|
 .g (inR v (List.length (List.getD k.1 (Int.toNat k.2.1) ([] : Y1)))) <|
 .c (Bool) (F_zcm (List.getD (List.getD k.1 (Int.toNat k.2.1) ([] : Y1)) (Int.toNat v) (0 : Int)) (-1000000 : Int) (1000000 : Int)) fun r14_ =>
 .t (!r14_)
 (.l (.inr (.inr ())))
 (.l (.inl (IntKind.wrap .i64 (v + (1 : Int))))))
 (.l (.inr (.inl ())))
noncomputable def L_zcd_2 (k : Y2 × (Int × (Y1 × (Y1 × (Y1 × Y3))))) (v : Int) : Option ((Unit) ⊕ (Unit)) := iter (fun v => (S_zcd_2 k v).ev) v
noncomputable def DL_zcd_2 : LD := ⟨{ acts := [], S := { slots := [1, 2, 5, 6], sh := (.cons (.dat y2) (.cons (.box 2 0) (.cons (.dat yi) (.cons (.dat yi) .nil)))), obs := [(2, .cells (.cons (.dat y1) (.cons (.dat y1) (.cons (.dat y1) (.cons (.dat y3) .nil)))))] } }, [(2, { acts := [], S := { slots := [1, 2, 5], sh := (.cons (.dat y2) (.cons (.box 2 0) (.cons (.dat yi) .nil))), obs := [(2, .cells (.cons (.dat y1) (.cons (.dat y1) (.cons (.dat y1) (.cons (.dat y3) .nil)))))] } })], (yh [4] (.cons (.dat .bool) .nil)), Y2 × (Int × (Y1 × (Y1 × (Y1 × Y3)))), Int, (Unit) ⊕ (Unit), fun k v => ((k.1, ((), (k.2.1, (v, ())))), ((k.2.2.1, (k.2.2.2.1, (k.2.2.2.2.1, (k.2.2.2.2.2, ())))), ())), fun t => (t.1.1, (t.1.2.2.1, (t.2.1.1, (t.2.1.2.1, (t.2.1.2.2.1, t.2.1.2.2.2.1))))), fun t => t.1.2.2.2.1, S_zcd_2, fun k r => .s (Unit) (Unit) r (fun _ => .l (.exit 2 (mkSt ({ slots := [1, 2, 5], sh := (.cons (.dat y2) (.cons (.box 2 0) (.cons (.dat yi) .nil))), obs := [(2, .cells (.cons (.dat y1) (.cons (.dat y1) (.cons (.dat y1) (.cons (.dat y3) .nil)))))] }) ((k.1, ((), (k.2.1, ()))), ((k.2.2.1, (k.2.2.2.1, (k.2.2.2.2.1, (k.2.2.2.2.2, ())))), ()))))) (fun _ => .l (.ret (mkSt ((ys [4] (.cons (.dat .bool) .nil))) ((false, ()), ()))))⟩
noncomputable def S_zcd_0 (k : Y2 × (Y1 × (Y1 × (Y1 × Y3)))) (v : Int) : Tr ((Int) ⊕ ((Unit) ⊕ (Unit))) :=
 .t (decide (v < ((List.length k.1 : Nat) : Int)))
 (.g (inR v (List.length k.1)) <|
 .g (decide ((0 : Int) ≤ ((List.length k.2.1 : Nat) : Int))) <|
 .t (((List.length (List.getD k.1 (Int.toNat v) ([] : Y1)) : Nat) : Int) != (IntKind.wrap .i64 ((1 : Int) * 2 ^ (min (Int.toNat ((List.length k.2.1 : Nat) : Int)) (IntKind.bits .i64)))))
 (.l (.inr (.inr ())))
 (.c ((Unit) ⊕ (Unit)) (L_zcd_2 (k.1, (v, (k.2.1, (k.2.2.1, (k.2.2.2.1, k.2.2.2.2))))) (0 : Int)) fun r22_ =>
 .s (Unit) (Unit) r22_
 (fun _ => .l (.inl (IntKind.wrap .i64 (v + (1 : Int)))))
 (fun _ => .l (.inr (.inr ())))))
 (.l (.inr (.inl ())))
noncomputable def L_zcd_0 (k : Y2 × (Y1 × (Y1 × (Y1 × Y3)))) (v : Int) : Option ((Unit) ⊕ (Unit)) := iter (fun v => (S_zcd_0 k v).ev) v
noncomputable def DL_zcd_0 : LD := ⟨{ acts := [], S := { slots := [1, 2, 5], sh := (.cons (.dat y2) (.cons (.box 2 0) (.cons (.dat yi) .nil))), obs := [(2, .cells (.cons (.dat y1) (.cons (.dat y1) (.cons (.dat y1) (.cons (.dat y3) .nil)))))] } }, [(0, { acts := [], S := { slots := [1, 2], sh := (.cons (.dat y2) (.cons (.box 2 0) .nil)), obs := [(2, .cells (.cons (.dat y1) (.cons (.dat y1) (.cons (.dat y1) (.cons (.dat y3) .nil)))))] } })], (yh [4] (.cons (.dat .bool) .nil)), Y2 × (Y1 × (Y1 × (Y1 × Y3))), Int, (Unit) ⊕ (Unit), fun k v => ((k.1, ((), (v, ()))), ((k.2.1, (k.2.2.1, (k.2.2.2.1, (k.2.2.2.2, ())))), ())), fun t => (t.1.1, (t.2.1.1, (t.2.1.2.1, (t.2.1.2.2.1, t.2.1.2.2.2.1)))), fun t => t.1.2.2.1, S_zcd_0, fun k r => .s (Unit) (Unit) r (fun _ => .l (.exit 0 (mkSt ({ slots := [1, 2], sh := (.cons (.dat y2) (.cons (.box 2 0) .nil)), obs := [(2, .cells (.cons (.dat y1) (.cons (.dat y1) (.cons (.dat y1) (.cons (.dat y3) .nil)))))] }) ((k.1, ((), ())), ((k.2.1, (k.2.2.1, (k.2.2.2.1, (k.2.2.2.2, ())))), ()))))) (fun _ => .l (.ret (mkSt ((ys [4] (.cons (.dat .bool) .nil))) ((false, ()), ()))))⟩
noncomputable def T_zcd (a1_ : Y1) (a2_ : Y1) (a3_ : Y1) (a4_ : Y3) (a5_ : List Y1) : Tr (Bool) :=
 .c ((Unit) ⊕ (Unit)) (L_zcd_0 (a5_, (a1_, (a2_, (a3_, a4_)))) (0 : Int)) fun r31_ =>
 .s (Unit) (Unit) r31_
 (fun _ => .l (((List.length a5_ : Nat) : Int) == (IntKind.wrap .i64 (((List.length a4_ : Nat) : Int) + (1 : Int)))))
 (fun _ => .l false)
noncomputable def F_zcd (a1_ : Y1) (a2_ : Y1) (a3_ : Y1) (a4_ : Y3) (a5_ : List Y1) : Option (Bool) := (T_zcd a1_ a2_ a3_ a4_ a5_).ev
noncomputable def A_zcd : Sh := (.cons (.agg (.cons (.dat y1) (.cons (.dat y1) (.cons (.dat y1) (.cons (.dat y3) .nil))))) (.cons (.dat y2) .nil))
noncomputable def I_zcd : List (Nat × OSh) := []
noncomputable def K_zcd : RetK := { acts := [], res := [.tmp 4], sh := (.cons (.dat .bool) .nil), obs := [], pins := [] }
noncomputable def D_zcd : FD := ⟨A_zcd, I_zcd, [], Bool, fun x => F_zcd x.1.1.1 x.1.1.2.1 x.1.1.2.2.1 x.1.1.2.2.2.1 x.1.2.1, fun r => ([.dat .bool r], [])⟩
noncomputable def E_zcd : Env := envOf [(82, D_zcm)]
noncomputable def Z_zcd : Nat → Nat → List Nat := fun _ _ => []
noncomputable def O_zcd : List (Nat × LD) := [(2, DL_zcd_2), (0, DL_zcd_0)]
noncomputable def C_zcd : Code := (f43.body).getD .skip
noncomputable def S_zca_4 (k : Y2 × (Int × (Int × (Y1 × (Y1 × (Y1 × (Y3 × Y2))))))) (v : Int) : Tr ((Int) ⊕ ((Unit) ⊕ (Unit))) :=
 .t (decide (v < ((List.length k.2.2.2.2.2.2.2 : Nat) : Int)))
 (.g (inR v (List.length k.2.2.2.2.2.2.2)) <|
 .g (decide ((Int.toNat v) < List.length k.2.2.2.2.2.2.2)) <|
 .c (Bool) (F_zbw k.2.2.2.1 k.2.2.2.2.1 k.2.2.2.2.2.1 k.2.2.2.2.2.2.1 k.2.2.1 (List.getD k.2.2.2.2.2.2.2 (Int.toNat v) ([] : Y1))) fun r26_ =>
 .t r26_
 (.g (inR k.2.2.1 (List.length k.1)) <|
 .g (inR k.2.1 (List.length k.2.2.2.2.2.2.2)) <|
 .g (decide ((Int.toNat k.2.1) < List.length k.2.2.2.2.2.2.2)) <|
 .c (Int) (F_zbt (List.getD k.2.2.2.2.2.2.2 (Int.toNat k.2.1) ([] : Y1))) fun r27_ =>
 .g (inR r27_ (List.length (List.getD k.1 (Int.toNat k.2.2.1) ([] : Y1)))) <|
 .g (inR k.2.1 (List.length k.2.2.2.2.2.2.2)) <|
 .g (decide ((Int.toNat k.2.1) < List.length k.2.2.2.2.2.2.2)) <|
 .g (inR v (List.length k.2.2.2.2.2.2.2)) <|
 .g (decide ((Int.toNat v) < List.length k.2.2.2.2.2.2.2)) <|
 .c (Int) (F_zbx k.2.2.2.1 k.2.2.2.2.1 k.2.2.2.2.2.1 k.2.2.2.2.2.2.1 k.2.2.1 (List.getD k.2.2.2.2.2.2.2 (Int.toNat k.2.1) ([] : Y1)) (List.getD k.2.2.2.2.2.2.2 (Int.toNat v) ([] : Y1))) fun r28_ =>
 .g (inR (IntKind.wrap .i64 (k.2.2.1 + (1 : Int))) (List.length k.1)) <|
 .g (inR v (List.length k.2.2.2.2.2.2.2)) <|
 .g (decide ((Int.toNat v) < List.length k.2.2.2.2.2.2.2)) <|
 .c (Int) (F_zbt (List.getD k.2.2.2.2.2.2.2 (Int.toNat v) ([] : Y1))) fun r29_ =>
 .g (inR r29_ (List.length (List.getD k.1 (Int.toNat (IntKind.wrap .i64 (k.2.2.1 + (1 : Int)))) ([] : Y1)))) <|
 .t (decide ((IntKind.wrap .i64 (r28_ + (List.getD (List.getD k.1 (Int.toNat (IntKind.wrap .i64 (k.2.2.1 + (1 : Int)))) ([] : Y1)) (Int.toNat r29_) (0 : Int)))) < (List.getD (List.getD k.1 (Int.toNat k.2.2.1) ([] : Y1)) (Int.toNat r27_) (0 : Int))))
 (.l (.inr (.inr ())))
 (.l (.inl (IntKind.wrap .i64 (v + (1 : Int))))))
 (.l (.inl (IntKind.wrap .i64 (v + (1 : Int))))))
 (.l (.inr (.inl ())))
noncomputable def L_zca_4 (k : Y2 × (Int × (Int × (Y1 × (Y1 × (Y1 × (Y3 × Y2))))))) (v : Int) : Option ((Unit) ⊕ (Unit)) := iter (fun v => (S_zca_4 k v).ev) v
noncomputable def DL_zca_4 : LD := ⟨{ acts := [], S := { slots := [1, 2, 5, 6, 7, 8], sh := (.cons (.dat y2) (.cons (.box 2 0) (.cons (.arr 640) (.cons (.dat yi) (.cons (.dat yi) (.cons (.dat yi) .nil)))))), obs := [(2, .cells (.cons (.dat y1) (.cons (.dat y1) (.cons (.dat y1) (.cons (.dat y3) .nil))))), (640, .arr 24 y1)] } }, [(4, { acts := [], S := { slots := [1, 2, 5, 6, 7], sh := (.cons (.dat y2) (.cons (.box 2 0) (.cons (.arr 640) (.cons (.dat yi) (.cons (.dat yi) .nil))))), obs := [(2, .cells (.cons (.dat y1) (.cons (.dat y1) (.cons (.dat y1) (.cons (.dat y3) .nil))))), (640, .arr 24 y1)] } })], (yh [4] (.cons (.dat .bool) .nil)), Y2 × (Int × (Int × (Y1 × (Y1 × (Y1 × (Y3 × Y2)))))), Int, (Unit) ⊕ (Unit), fun k v => ((k.1, ((), ((), (k.2.1, (k.2.2.1, (v, ())))))), ((k.2.2.2.1, (k.2.2.2.2.1, (k.2.2.2.2.2.1, (k.2.2.2.2.2.2.1, ())))), (k.2.2.2.2.2.2.2, ()))), fun t => (t.1.1, (t.1.2.2.2.1, (t.1.2.2.2.2.1, (t.2.1.1, (t.2.1.2.1, (t.2.1.2.2.1, (t.2.1.2.2.2.1, t.2.2.1))))))), fun t => t.1.2.2.2.2.2.1, S_zca_4, fun k r => .s (Unit) (Unit) r (fun _ => .l (.exit 4 (mkSt ({ slots := [1, 2, 5, 6, 7], sh := (.cons (.dat y2) (.cons (.box 2 0) (.cons (.arr 640) (.cons (.dat yi) (.cons (.dat yi) .nil))))), obs := [(2, .cells (.cons (.dat y1) (.cons (.dat y1) (.cons (.dat y1) (.cons (.dat y3) .nil))))), (640, .arr 24 y1)] }) ((k.1, ((), ((), (k.2.1, (k.2.2.1, ()))))), ((k.2.2.2.1, (k.2.2.2.2.1, (k.2.2.2.2.2.1, (k.2.2.2.2.2.2.1, ())))), (k.2.2.2.2.2.2.2, ())))))) (fun _ => .l (.ret (mkSt ((ys [4] (.cons (.dat .bool) .nil))) ((false, ()), ()))))⟩
noncomputable def S_zca_2 (k : Y2 × (Int × (Y1 × (Y1 × (Y1 × (Y3 × Y2)))))) (v : Int) : Tr ((Int) ⊕ ((Unit) ⊕ (Unit))) :=
 .t (decide (v < ((List.length k.2.2.2.2.2.1 : Nat) : Int)))
 (.c ((Unit) ⊕ (Unit)) (L_zca_4 (k.1, (k.2.1, (v, (k.2.2.1, (k.2.2.2.1, (k.2.2.2.2.1, (k.2.2.2.2.2.1, k.2.2.2.2.2.2))))))) (0 : Int)) fun r39_ =>
 .s (Unit) (Unit) r39_
 (fun _ => .l (.inl (IntKind.wrap .i64 (v + (1 : Int)))))
 (fun _ => .l (.inr (.inr ()))))
 (.l (.inr (.inl ())))
noncomputable def L_zca_2 (k : Y2 × (Int × (Y1 × (Y1 × (Y1 × (Y3 × Y2)))))) (v : Int) : Option ((Unit) ⊕ (Unit)) := iter (fun v => (S_zca_2 k v).ev) v
noncomputable def DL_zca_2 : LD := ⟨{ acts := [], S := { slots := [1, 2, 5, 6, 7], sh := (.cons (.dat y2) (.cons (.box 2 0) (.cons (.arr 640) (.cons (.dat yi) (.cons (.dat yi) .nil))))), obs := [(2, .cells (.cons (.dat y1) (.cons (.dat y1) (.cons (.dat y1) (.cons (.dat y3) .nil))))), (640, .arr 24 y1)] } }, [(2, { acts := [], S := { slots := [1, 2, 5, 6], sh := (.cons (.dat y2) (.cons (.box 2 0) (.cons (.arr 640) (.cons (.dat yi) .nil)))), obs := [(2, .cells (.cons (.dat y1) (.cons (.dat y1) (.cons (.dat y1) (.cons (.dat y3) .nil))))), (640, .arr 24 y1)] } })], (yh [4] (.cons (.dat .bool) .nil)), Y2 × (Int × (Y1 × (Y1 × (Y1 × (Y3 × Y2))))), Int, (Unit) ⊕ (Unit), fun k v => ((k.1, ((), ((), (k.2.1, (v, ()))))), ((k.2.2.1, (k.2.2.2.1, (k.2.2.2.2.1, (k.2.2.2.2.2.1, ())))), (k.2.2.2.2.2.2, ()))), fun t => (t.1.1, (t.1.2.2.2.1, (t.2.1.1, (t.2.1.2.1, (t.2.1.2.2.1, (t.2.1.2.2.2.1, t.2.2.1)))))), fun t => t.1.2.2.2.2.1, S_zca_2, fun k r => .s (Unit) (Unit) r (fun _ => .l (.exit 2 (mkSt ({ slots := [1, 2, 5, 6], sh := (.cons (.dat y2) (.cons (.box 2 0) (.cons (.arr 640) (.cons (.dat yi) .nil)))), obs := [(2, .cells (.cons (.dat y1) (.cons (.dat y1) (.cons (.dat y1) (.cons (.dat y3) .nil))))), (640, .arr 24 y1)] }) ((k.1, ((), ((), (k.2.1, ())))), ((k.2.2.1, (k.2.2.2.1, (k.2.2.2.2.1, (k.2.2.2.2.2.1, ())))), (k.2.2.2.2.2.2, ())))))) (fun _ => .l (.ret (mkSt ((ys [4] (.cons (.dat .bool) .nil))) ((false, ()), ()))))⟩
noncomputable def S_zca_0 (k : Y2 × (Y1 × (Y1 × (Y1 × (Y3 × Y2))))) (v : Int) : Tr ((Int) ⊕ ((Unit) ⊕ (Unit))) :=
 .t (decide (v < ((List.length k.2.2.2.2.2 : Nat) : Int)))
 (.g (inR ((List.length k.2.2.2.2.1 : Nat) : Int) (List.length k.1)) <|
 .g (inR v (List.length (List.getD k.1 (Int.toNat ((List.length k.2.2.2.2.1 : Nat) : Int)) ([] : Y1)))) <|
 .t (decide ((0 : Int) < (List.getD (List.getD k.1 (Int.toNat ((List.length k.2.2.2.2.1 : Nat) : Int)) ([] : Y1)) (Int.toNat v) (0 : Int))))
 (.l (.inr (.inr ())))
 (.c ((Unit) ⊕ (Unit)) (L_zca_2 (k.1, (v, (k.2.1, (k.2.2.1, (k.2.2.2.1, (k.2.2.2.2.1, k.2.2.2.2.2)))))) (0 : Int)) fun r50_ =>
 .s (Unit) (Unit) r50_
 (fun _ => .l (.inl (IntKind.wrap .i64 (v + (1 : Int)))))
 (fun _ => .l (.inr (.inr ())))))
 (.l (.inr (.inl ())))
noncomputable def L_zca_0 (k : Y2 × (Y1 × (Y1 × (Y1 × (Y3 × Y2))))) (v : Int) : Option ((Unit) ⊕ (Unit)) := iter (fun v => (S_zca_0 k v).ev) v
noncomputable def DL_zca_0 : LD := ⟨{ acts := [], S := { slots := [1, 2, 5, 6], sh := (.cons (.dat y2) (.cons (.box 2 0) (.cons (.arr 640) (.cons (.dat yi) .nil)))), obs := [(2, .cells (.cons (.dat y1) (.cons (.dat y1) (.cons (.dat y1) (.cons (.dat y3) .nil))))), (640, .arr 24 y1)] } }, [(0, (yh [] .nil))], (yh [4] (.cons (.dat .bool) .nil)), Y2 × (Y1 × (Y1 × (Y1 × (Y3 × Y2)))), Int, (Unit) ⊕ (Unit), fun k v => ((k.1, ((), ((), (v, ())))), ((k.2.1, (k.2.2.1, (k.2.2.2.1, (k.2.2.2.2.1, ())))), (k.2.2.2.2.2, ()))), fun t => (t.1.1, (t.2.1.1, (t.2.1.2.1, (t.2.1.2.2.1, (t.2.1.2.2.2.1, t.2.2.1))))), fun t => t.1.2.2.2.1, S_zca_0, fun _ r => .s (Unit) (Unit) r (fun _ => .l (.exit 0 (mkSt ((ys [] .nil)) ((), ())))) (fun _ => .l (.ret (mkSt ((ys [4] (.cons (.dat .bool) .nil))) ((false, ()), ()))))⟩
noncomputable def T_zca (a1_ : Y1) (a2_ : Y1) (a3_ : Y1) (a4_ : Y3) (a5_ : List Y1) : Tr (Bool) :=
 .c Y2 (F_zcb a1_ a2_ a3_ a4_) fun r1_ =>
 .c ((Unit) ⊕ (Unit)) (L_zca_0 (a5_, (a1_, (a2_, (a3_, (a4_, r1_))))) (0 : Int)) fun r54_ =>
 .s (Unit) (Unit) r54_
 (fun _ => .l true)
 (fun _ => .l false)
noncomputable def F_zca (a1_ : Y1) (a2_ : Y1) (a3_ : Y1) (a4_ : Y3) (a5_ : List Y1) : Option (Bool) := (T_zca a1_ a2_ a3_ a4_ a5_).ev
noncomputable def A_zca : Sh := (.cons (.agg (.cons (.dat y1) (.cons (.dat y1) (.cons (.dat y1) (.cons (.dat y3) .nil))))) (.cons (.dat y2) .nil))
noncomputable def I_zca : List (Nat × OSh) := []
noncomputable def K_zca : RetK := { acts := [], res := [.tmp 4], sh := (.cons (.dat .bool) .nil), obs := [], pins := [] }
noncomputable def D_zca : FD := ⟨A_zca, I_zca, [], Bool, fun x => F_zca x.1.1.1 x.1.1.2.1 x.1.1.2.2.1 x.1.1.2.2.2.1 x.1.2.1, fun r => ([.dat .bool r], [])⟩
noncomputable def E_zca : Env := envOf [(70, D_zcb), (73, D_zbw), (85, D_zbt), (74, D_zbx)]
noncomputable def Z_zca : Nat → Nat → List Nat := fun _ _ => []
noncomputable def O_zca : List (Nat × LD) := [(4, DL_zca_4), (2, DL_zca_2), (0, DL_zca_0)]
noncomputable def C_zca : Code := (f44.body).getD .skip
noncomputable def S_zby_0 (k : Y2 × (Y1 × (Y1 × (Y1 × Y3)))) (v : Y1 × (Int × Y1)) : Tr ((Y1 × (Int × Y1)) ⊕ Y1) :=
 .t (decide (v.2.1 < ((List.length k.1 : Nat) : Int)))
 (.g (inR v.2.1 (List.length k.1)) <|
 .c (Int) (F_zbx k.2.1 k.2.2.1 k.2.2.2.1 k.2.2.2.2 v.2.1 v.1 (List.getD k.1 (Int.toNat v.2.1) ([] : Y1))) fun r18_ =>
 .g (decide ((List.length v.2.2 + List.length ([r18_] : Y1)) * 8 ≤ 140737488355328)) <|
 .g (inR v.2.1 (List.length k.1)) <|
 .l (.inl ((List.getD k.1 (Int.toNat v.2.1) ([] : Y1)), ((IntKind.wrap .i64 (v.2.1 + (1 : Int))), (v.2.2 ++ ([r18_] : Y1))))))
 (.l (.inr v.2.2))
noncomputable def L_zby_0 (k : Y2 × (Y1 × (Y1 × (Y1 × Y3)))) (v : Y1 × (Int × Y1)) : Option Y1 := iter (fun v => (S_zby_0 k v).ev) v
noncomputable def DL_zby_0 : LD := ⟨{ acts := [.fz 9], S := { slots := [1, 2, 5, 6, 7], sh := (.cons (.dat y2) (.cons (.box 2 0) (.cons (.arr 8) (.cons (.dat y1) (.cons (.dat yi) .nil))))), obs := [(2, .cells (.cons (.dat y1) (.cons (.dat y1) (.cons (.dat y1) (.cons (.dat y3) .nil))))), (8, .arr 3 yi)] } }, [(0, { acts := [], S := { slots := [5], sh := (.cons (.arr 8) .nil), obs := [(8, .arr 3 yi)] } })], (yh [] .nil), Y2 × (Y1 × (Y1 × (Y1 × Y3))), Y1 × (Int × Y1), Y1, fun k v => ((k.1, ((), ((), (v.1, (v.2.1, ()))))), ((k.2.1, (k.2.2.1, (k.2.2.2.1, (k.2.2.2.2, ())))), (v.2.2, ()))), fun t => (t.1.1, (t.2.1.1, (t.2.1.2.1, (t.2.1.2.2.1, t.2.1.2.2.2.1)))), fun t => (t.1.2.2.2.1, (t.1.2.2.2.2.1, t.2.2.1)), S_zby_0, fun _ r => .l (.exit 0 (mkSt ({ slots := [5], sh := (.cons (.arr 8) .nil), obs := [(8, .arr 3 yi)] }) (((), ()), (r, ()))))⟩
noncomputable def T_zby (a1_ : Y1) (a2_ : Y1) (a3_ : Y1) (a4_ : Y3) (a5_ : List Y1) : Tr Y1 :=
 .c Y1 (L_zby_0 (a5_, (a1_, (a2_, (a3_, a4_)))) (([] : Y1), ((0 : Int), ([] : Y1)))) fun r20_ =>
 .l r20_
noncomputable def F_zby (a1_ : Y1) (a2_ : Y1) (a3_ : Y1) (a4_ : Y3) (a5_ : List Y1) : Option Y1 := (T_zby a1_ a2_ a3_ a4_ a5_).ev
noncomputable def A_zby : Sh := (.cons (.agg (.cons (.dat y1) (.cons (.dat y1) (.cons (.dat y1) (.cons (.dat y3) .nil))))) (.cons (.dat y2) .nil))
noncomputable def I_zby : List (Nat × OSh) := []
noncomputable def K_zby : RetK := { acts := [.ren 8 0], res := [.tmp 4], sh := (.cons (.arr 0) .nil), obs := [(0, .arr 3 yi)], pins := [] }
noncomputable def D_zby : FD := ⟨A_zby, I_zby, [], Y1, fun x => F_zby x.1.1.1 x.1.1.2.1 x.1.1.2.2.1 x.1.1.2.2.2.1 x.1.2.1, fun r => ([.arr 0], [(0, .arr 3 yi r)])⟩
noncomputable def E_zby : Env := envOf [(74, D_zbx)]
noncomputable def Z_zby : Nat → Nat → List Nat := fun _ _ => []
noncomputable def O_zby : List (Nat × LD) := [(0, DL_zby_0)]
noncomputable def C_zby : Code := (f46.body).getD .skip
noncomputable def S_zcc_0 (k : Y1) (v : Int × Int) : Tr ((Int × Int) ⊕ (Int)) :=
 .t (decide (v.2 < ((List.length k : Nat) : Int)))
 (.g (inR v.2 (List.length k)) <|
 .l (.inl ((IntKind.wrap .i64 (v.1 + (List.getD k (Int.toNat v.2) (0 : Int)))), (IntKind.wrap .i64 (v.2 + (1 : Int))))))
 (.l (.inr v.1))
noncomputable def L_zcc_0 (k : Y1) (v : Int × Int) : Option (Int) := iter (fun v => (S_zcc_0 k v).ev) v
noncomputable def DL_zcc_0 : LD := ⟨(yh [0, 3, 4] (.cons (.dat y1) (.cons (.dat yi) (.cons (.dat yi) .nil)))), [(0, (yh [3] (.cons (.dat yi) .nil)))], (yh [] .nil), Y1, Int × (Int), Int, fun k v => ((k, (v.1, (v.2, ()))), ()), fun t => t.1.1, fun t => (t.1.2.1, t.1.2.2.1), S_zcc_0, fun _ r => .l (.exit 0 (mkSt ((ys [3] (.cons (.dat yi) .nil))) ((r, ()), ())))⟩
noncomputable def T_zcc (a1_ : Y1) : Tr (Int) :=
 .c (Int) (L_zcc_0 a1_ ((0 : Int), (0 : Int))) fun r5_ =>
 .l r5_
noncomputable def F_zcc (a1_ : Y1) : Option (Int) := (T_zcc a1_).ev
noncomputable def A_zcc : Sh := (.cons (.dat y1) .nil)
noncomputable def I_zcc : List (Nat × OSh) := []
noncomputable def K_zcc : RetK := { acts := [], res := [.tmp 2], sh := (.cons (.dat yi) .nil), obs := [], pins := [] }
noncomputable def D_zcc : FD := ⟨A_zcc, I_zcc, [], Int, fun x => F_zcc x.1.1, fun r => ([.dat yi r], [])⟩
noncomputable def E_zcc : Env := envOf []
noncomputable def Z_zcc : Nat → Nat → List Nat := fun _ _ => []
noncomputable def O_zcc : List (Nat × LD) := [(0, DL_zcc_0)]
noncomputable def C_zcc : Code := (f45.body).getD .skip
noncomputable def T_zbr (a1_ : Y1) (a2_ : Y1) (a3_ : Y1) (a4_ : Y3) (a5_ : List Y1) (a6_ : List Y1) : Tr (Bool × (Bool)) :=
 .c (Bool) (F_zbv a1_ a2_ a3_ a4_) fun r1_ =>
 .t (!r1_)
 (.l (false, false))
 (.c (Bool) (F_zbz a1_ a2_ a3_ a4_ a5_) fun r2_ =>
 .t (!r2_)
 (.l (false, false))
 (.c (Bool) (F_zcd a1_ a2_ a3_ a4_ a6_) fun r3_ =>
 .t r3_
 (.c (Bool) (F_zca a1_ a2_ a3_ a4_ a6_) fun r4_ =>
 .t r4_
 (.g (inR (0 : Int) (List.length a6_)) <|
 .g (inR (0 : Int) (List.length (List.getD a6_ (Int.toNat (0 : Int)) ([] : Y1)))) <|
 .c Y1 (F_zby a1_ a2_ a3_ a4_ a5_) fun r5_ =>
 .c (Int) (F_zcc r5_) fun r6_ =>
 .l (((List.getD (List.getD a6_ (Int.toNat (0 : Int)) ([] : Y1)) (Int.toNat (0 : Int)) (0 : Int)) == r6_), true))
 (.l (false, true)))
 (.l (false, true))))
noncomputable def F_zbr (a1_ : Y1) (a2_ : Y1) (a3_ : Y1) (a4_ : Y3) (a5_ : List Y1) (a6_ : List Y1) : Option (Bool × (Bool)) := (T_zbr a1_ a2_ a3_ a4_ a5_ a6_).ev
noncomputable def A_zbr : Sh := (.cons (.agg (.cons (.dat y1) (.cons (.dat y1) (.cons (.dat y1) (.cons (.dat y3) .nil))))) (.cons (.dat y2) (.cons (.dat y2) .nil)))
noncomputable def I_zbr : List (Nat × OSh) := []
noncomputable def K_zbr : RetK := { acts := [], res := [.tmp 6, .tmp 7], sh := (.cons (.dat .bool) (.cons (.dat .bool) .nil)), obs := [], pins := [] }
noncomputable def D_zbr : FD := ⟨A_zbr, I_zbr, [], Bool × (Bool), fun x => F_zbr x.1.1.1 x.1.1.2.1 x.1.1.2.2.1 x.1.1.2.2.2.1 x.1.2.1 x.1.2.2.1, fun r => ([.dat .bool r.1, .dat .bool r.2], [])⟩
noncomputable def E_zbr : Env := envOf [(37, D_zbv), (42, D_zbz), (43, D_zcd), (44, D_zca), (46, D_zby), (45, D_zcc)]
noncomputable def Z_zbr : Nat → Nat → List Nat := fun _ _ => []
noncomputable def O_zbr : List (Nat × LD) := []
noncomputable def C_zbr : Code := (f8.body).getD .skip
noncomputable def T_zd (a1_ : Y1) (a2_ : Y1) (a3_ : Y1) (a4_ : Y3) (a5_ : List Y1) : Tr (Bool × (Bool)) :=
 .c (Bool) (F_zn a1_ a2_ a3_ a4_) fun r1_ =>
 .t (!r1_)
 (.l (false, false))
 (.c (Bool) (F_zt a1_ a2_ a3_ a4_ a5_) fun r2_ =>
 .l (r2_, true))
noncomputable def F_zd (a1_ : Y1) (a2_ : Y1) (a3_ : Y1) (a4_ : Y3) (a5_ : List Y1) : Option (Bool × (Bool)) := (T_zd a1_ a2_ a3_ a4_ a5_).ev
noncomputable def A_zd : Sh := (.cons (.agg (.cons (.dat y1) (.cons (.dat y1) (.cons (.dat y1) (.cons (.dat y3) .nil))))) (.cons (.dat y2) .nil))
noncomputable def I_zd : List (Nat × OSh) := []
noncomputable def K_zd : RetK := { acts := [], res := [.tmp 4, .tmp 5], sh := (.cons (.dat .bool) (.cons (.dat .bool) .nil)), obs := [], pins := [] }
noncomputable def D_zd : FD := ⟨A_zd, I_zd, [], Bool × (Bool), fun x => F_zd x.1.1.1 x.1.1.2.1 x.1.1.2.2.1 x.1.1.2.2.2.1 x.1.2.1, fun r => ([.dat .bool r.1, .dat .bool r.2], [])⟩
noncomputable def E_zd : Env := envOf [(24, D_zn), (41, D_zt)]
noncomputable def Z_zd : Nat → Nat → List Nat := fun _ _ => []
noncomputable def O_zd : List (Nat × LD) := []
noncomputable def C_zd : Code := (f9.body).getD .skip
noncomputable def T_zbo (a1_ : Y1) (a2_ : Y1) (a3_ : Y1) (a4_ : Y3) (a5_ : List Y1) : Tr (Bool × (Bool)) :=
 .c (Bool) (F_zbv a1_ a2_ a3_ a4_) fun r1_ =>
 .t (!r1_)
 (.l (false, false))
 (.c (Bool) (F_zcd a1_ a2_ a3_ a4_ a5_) fun r2_ =>
 .t r2_
 (.c (Bool) (F_zca a1_ a2_ a3_ a4_ a5_) fun r3_ =>
 .l (r3_, true))
 (.l (false, true)))
noncomputable def F_zbo (a1_ : Y1) (a2_ : Y1) (a3_ : Y1) (a4_ : Y3) (a5_ : List Y1) : Option (Bool × (Bool)) := (T_zbo a1_ a2_ a3_ a4_ a5_).ev
noncomputable def A_zbo : Sh := (.cons (.agg (.cons (.dat y1) (.cons (.dat y1) (.cons (.dat y1) (.cons (.dat y3) .nil))))) (.cons (.dat y2) .nil))
noncomputable def I_zbo : List (Nat × OSh) := []
noncomputable def K_zbo : RetK := { acts := [], res := [.tmp 4, .tmp 5], sh := (.cons (.dat .bool) (.cons (.dat .bool) .nil)), obs := [], pins := [] }
noncomputable def D_zbo : FD := ⟨A_zbo, I_zbo, [], Bool × (Bool), fun x => F_zbo x.1.1.1 x.1.1.2.1 x.1.1.2.2.1 x.1.1.2.2.2.1 x.1.2.1, fun r => ([.dat .bool r.1, .dat .bool r.2], [])⟩
noncomputable def E_zbo : Env := envOf [(37, D_zbv), (43, D_zcd), (44, D_zca)]
noncomputable def Z_zbo : Nat → Nat → List Nat := fun _ _ => []
noncomputable def O_zbo : List (Nat × LD) := []
noncomputable def C_zbo : Code := (f10.body).getD .skip
noncomputable def S_zal_0 (k : ((HL [y1] → Option (Int))) × (Y2 × Int)) (v : Y1 × Int) : Tr ((Y1 × Int) ⊕ Y1) :=
 .t (decide (v.2 < k.2.2))
 (.g (inR v.2 (List.length k.2.1)) <|
 .c (Int) (k.1 ((List.getD k.2.1 (Int.toNat v.2) ([] : Y1)), ())) fun r6_ =>
 .c (Int) (k.1 (v.1, ())) fun r7_ =>
 .t (decide (r6_ < r7_))
 (.l (.inl ((List.getD k.2.1 (Int.toNat v.2) ([] : Y1)), (IntKind.wrap .i64 (v.2 + (1 : Int))))))
 (.l (.inl (v.1, (IntKind.wrap .i64 (v.2 + (1 : Int)))))))
 (.l (.inr v.1))
noncomputable def L_zal_0 (k : ((HL [y1] → Option (Int))) × (Y2 × Int)) (v : Y1 × Int) : Option Y1 := iter (fun v => (S_zal_0 k v).ev) v
noncomputable def DL_zal_0 : LD := ⟨(yh [1, 5, 11, 12, 13] (.cons (.clo [y1] yi) (.cons (.dat y1) (.cons (.dat y2) (.cons (.dat yi) (.cons (.dat yi) .nil)))))), [(0, (yh [5] (.cons (.dat y1) .nil)))], (yh [] .nil), ((HL [y1] → Option (Int))) × (Y2 × Int), Y1 × (Int), Y1, fun k v => ((k.1, (v.1, (k.2.1, (k.2.2, (v.2, ()))))), ()), fun t => (t.1.1, (t.1.2.2.1, t.1.2.2.2.1)), fun t => (t.1.2.1, t.1.2.2.2.2.1), S_zal_0, fun _ r => .l (.exit 0 (mkSt ((ys [5] (.cons (.dat y1) .nil))) ((r, ()), ())))⟩
noncomputable def T_zal (a1_ : List Y1) (a2_ : (HL [y1] → Option (Int))) : Tr Y1 :=
 .g (inR (0 : Int) (List.length a1_)) <|
 .c Y1 (L_zal_0 (a2_, (a1_, ((List.length a1_ : Nat) : Int))) ((List.getD a1_ (Int.toNat (0 : Int)) ([] : Y1)), (0 : Int))) fun r9_ =>
 .l r9_
noncomputable def F_zal (a1_ : List Y1) (a2_ : (HL [y1] → Option (Int))) : Option Y1 := (T_zal a1_ a2_).ev
noncomputable def A_zal : Sh := (.cons (.dat y2) (.cons (.clo [y1] yi) .nil))
noncomputable def I_zal : List (Nat × OSh) := []
noncomputable def K_zal : RetK := { acts := [], res := [.tmp 4], sh := (.cons (.dat y1) .nil), obs := [], pins := [] }
noncomputable def D_zal : FD := ⟨A_zal, I_zal, [], Y1, fun x => F_zal x.1.1 x.1.2.1, fun r => ([.dat y1 r], [])⟩
noncomputable def E_zal : Env := envOf []
noncomputable def Z_zal : Nat → Nat → List Nat := fun _ _ => []
noncomputable def O_zal : List (Nat × LD) := [(0, DL_zal_0)]
noncomputable def C_zal : Code := (f49.body).getD .skip
noncomputable def T_zy (a1_ : Y1) (a2_ : Y1) (a3_ : Y1) (a4_ : Y1) (a5_ : Y3) (a6_ : Int) (a7_ : Int) (a8_ : List Y1) : Tr (Int) :=
 .c Y1 (F_zah a7_) fun r1_ =>
 .c (Int) (F_zab a2_ a3_ a4_ a5_ a6_ r1_ a1_) fun r2_ =>
 .g (inR (IntKind.wrap .i64 (a6_ + (1 : Int))) (List.length a8_)) <|
 .c (Int) (F_zaf a1_) fun r3_ =>
 .g (inR r3_ (List.length (List.getD a8_ (Int.toNat (IntKind.wrap .i64 (a6_ + (1 : Int)))) ([] : Y1)))) <|
 .l (IntKind.wrap .i64 (r2_ + (List.getD (List.getD a8_ (Int.toNat (IntKind.wrap .i64 (a6_ + (1 : Int)))) ([] : Y1)) (Int.toNat r3_) (0 : Int))))
noncomputable def F_zy (a1_ : Y1) (a2_ : Y1) (a3_ : Y1) (a4_ : Y1) (a5_ : Y3) (a6_ : Int) (a7_ : Int) (a8_ : List Y1) : Option (Int) := (T_zy a1_ a2_ a3_ a4_ a5_ a6_ a7_ a8_).ev
noncomputable def A_zy : Sh := (.cons (.dat y1) (.cons (.ptr (.cons (.dat y1) (.cons (.dat y1) (.cons (.dat y1) (.cons (.dat y3) .nil))))) (.cons (.ptr (.cons (.dat yi) .nil)) (.cons (.ptr (.cons (.dat (.int .u64)) .nil)) (.cons (.ptr (.cons (.dat y2) .nil)) .nil)))))
noncomputable def I_zy : List (Nat × OSh) := []
noncomputable def K_zy : RetK := { acts := [], res := [.tmp 6], sh := (.cons (.dat yi) .nil), obs := [], pins := [] }
noncomputable def D_zy : FD := ⟨A_zy, I_zy, [], Int, fun x => F_zy x.1.1 x.1.2.1.1 x.1.2.1.2.1 x.1.2.1.2.2.1 x.1.2.1.2.2.2.1 x.1.2.2.1.1 x.1.2.2.2.1.1 x.1.2.2.2.2.1.1, fun r => ([.dat yi r], [])⟩
noncomputable def E_zy : Env := envOf [(89, D_zah), (52, D_zab), (53, D_zaf)]
noncomputable def Z_zy : Nat → Nat → List Nat := fun _ _ => []
noncomputable def O_zy : List (Nat × LD) := []
noncomputable def C_zy : Code := (f90.body).getD .skip
noncomputable def S_zx_2 (k : Y2 × (Y1 × (Y1 × (Y1 × (Y3 × Int))))) (v : Int × Y2) : Tr ((Int × Y2) ⊕ Y2) :=
 .g (decide ((0 : Int) ≤ ((List.length k.2.1 : Nat) : Int))) <|
 .t (decide (v.1 < (IntKind.wrap .u64 ((1 : Int) * 2 ^ (min (Int.toNat ((List.length k.2.1 : Nat) : Int)) (IntKind.bits .u64))))))
 (.g (inR k.2.2.2.2.2 (List.length v.2)) <|
 .g (decide ((Int.toNat k.2.2.2.2.2) < List.length v.2)) <|
 .c Y1 (F_zal k.1 (fun h16_ => Option.bind (F_zy h16_.1 k.2.1 k.2.2.1 k.2.2.2.1 k.2.2.2.2.1 k.2.2.2.2.2 v.1 v.2) fun y17_ => some y17_)) fun r18_ =>
 .c (Int) (F_zy r18_ k.2.1 k.2.2.1 k.2.2.2.1 k.2.2.2.2.1 k.2.2.2.2.2 v.1 v.2) fun r19_ =>
 .g (decide ((List.length (List.getD v.2 (Int.toNat k.2.2.2.2.2) ([] : Y1)) + List.length ([r19_] : Y1)) * 8 ≤ 140737488355328)) <|
 .g (inR k.2.2.2.2.2 (List.length v.2)) <|
 .g (decide ((Int.toNat k.2.2.2.2.2) < List.length v.2) && decide ((Int.toNat k.2.2.2.2.2) = (Int.toNat k.2.2.2.2.2))) <|
 .l (.inl ((IntKind.wrap .u64 (v.1 + (1 : Int))), (List.set v.2 (Int.toNat k.2.2.2.2.2) ((List.getD v.2 (Int.toNat k.2.2.2.2.2) ([] : Y1)) ++ ([r19_] : Y1))))))
 (.l (.inr v.2))
noncomputable def L_zx_2 (k : Y2 × (Y1 × (Y1 × (Y1 × (Y3 × Int))))) (v : Int × Y2) : Option Y2 := iter (fun v => (S_zx_2 k v).ev) v
noncomputable def DL_zx_2 : LD := ⟨{ acts := [.fz 1984], S := { slots := [1, 4, 5, 6, 7], sh := (.cons (.box 1 0) (.cons (.box 4 0) (.cons (.box 5 0) (.cons (.dat y2) (.cons (.box 7 0) .nil))))), obs := [(1, .cells (.cons (.dat y1) (.cons (.dat y1) (.cons (.dat y1) (.cons (.dat y3) .nil))))), (4, .cells (.cons (.arr 14) .nil)), (5, .cells (.cons (.dat yi) .nil)), (7, .cells (.cons (.dat (.int .u64)) .nil)), (14, .rows 24 3 yi)] } }, [(2, { acts := [], S := { slots := [1, 4, 5], sh := (.cons (.box 1 0) (.cons (.box 4 0) (.cons (.box 5 0) .nil))), obs := [(1, .cells (.cons (.dat y1) (.cons (.dat y1) (.cons (.dat y1) (.cons (.dat y3) .nil))))), (4, .cells (.cons (.arr 14) .nil)), (5, .cells (.cons (.dat yi) .nil)), (14, .rows 24 3 yi)] } })], (yh [] .nil), Y2 × (Y1 × (Y1 × (Y1 × (Y3 × Int)))), Int × Y2, List Y1, fun k v => (((), ((), ((), (k.1, ((), ()))))), ((k.2.1, (k.2.2.1, (k.2.2.2.1, (k.2.2.2.2.1, ())))), (((), ()), ((k.2.2.2.2.2, ()), ((v.1, ()), (v.2, ())))))), fun t => (t.1.2.2.2.1, (t.2.1.1, (t.2.1.2.1, (t.2.1.2.2.1, (t.2.1.2.2.2.1, t.2.2.2.1.1))))), fun t => (t.2.2.2.2.1.1, t.2.2.2.2.2.1), S_zx_2, fun k r => .l (.exit 2 (mkSt ({ slots := [1, 4, 5], sh := (.cons (.box 1 0) (.cons (.box 4 0) (.cons (.box 5 0) .nil))), obs := [(1, .cells (.cons (.dat y1) (.cons (.dat y1) (.cons (.dat y1) (.cons (.dat y3) .nil))))), (4, .cells (.cons (.arr 14) .nil)), (5, .cells (.cons (.dat yi) .nil)), (14, .rows 24 3 yi)] }) (((), ((), ((), ()))), ((k.2.1, (k.2.2.1, (k.2.2.2.1, (k.2.2.2.2.1, ())))), (((), ()), ((k.2.2.2.2.2, ()), (r, ())))))))⟩
noncomputable def S_zx_0 (k : Y1 × (Y1 × (Y1 × Y3))) (v : Int × Y2) : Tr ((Int × Y2) ⊕ Y2) :=
 .t (decide ((0 : Int) ≤ v.1))
 (.c Y2 (F_zv k.1 k.2.1 k.2.2.1 k.2.2.2 v.1) fun r7_ =>
 .c Y2 (L_zx_2 (r7_, (k.1, (k.2.1, (k.2.2.1, (k.2.2.2, v.1))))) ((0 : Int), v.2)) fun r26_ =>
 .l (.inl ((IntKind.wrap .i64 (v.1 - (1 : Int))), r26_)))
 (.l (.inr v.2))
noncomputable def L_zx_0 (k : Y1 × (Y1 × (Y1 × Y3))) (v : Int × Y2) : Option Y2 := iter (fun v => (S_zx_0 k v).ev) v
noncomputable def DL_zx_0 : LD := ⟨{ acts := [], S := { slots := [1, 4, 5], sh := (.cons (.box 1 0) (.cons (.box 4 0) (.cons (.box 5 0) .nil))), obs := [(1, .cells (.cons (.dat y1) (.cons (.dat y1) (.cons (.dat y1) (.cons (.dat y3) .nil))))), (4, .cells (.cons (.arr 14) .nil)), (5, .cells (.cons (.dat yi) .nil)), (14, .rows 24 3 yi)] } }, [(0, { acts := [], S := { slots := [4], sh := (.cons (.box 4 0) .nil), obs := [(4, .cells (.cons (.arr 14) .nil)), (14, .rows 24 3 yi)] } })], (yh [] .nil), Y1 × (Y1 × (Y1 × Y3)), Int × Y2, List Y1, fun k v => (((), ((), ((), ()))), ((k.1, (k.2.1, (k.2.2.1, (k.2.2.2, ())))), (((), ()), ((v.1, ()), (v.2, ()))))), fun t => (t.2.1.1, (t.2.1.2.1, (t.2.1.2.2.1, t.2.1.2.2.2.1))), fun t => (t.2.2.2.1.1, t.2.2.2.2.1), S_zx_0, fun _ r => .l (.exit 0 (mkSt ({ slots := [4], sh := (.cons (.box 4 0) .nil), obs := [(4, .cells (.cons (.arr 14) .nil)), (14, .rows 24 3 yi)] }) (((), ()), (((), ()), (r, ())))))⟩
noncomputable def T_zx (a1_ : Y1) (a2_ : Y1) (a3_ : Y1) (a4_ : Y3) : Tr Y2 :=
 .g (decide ((0 : Int) ≤ (IntKind.wrap .i64 (((List.length a4_ : Nat) : Int) + (1 : Int)))) && decide ((IntKind.wrap .i64 (((List.length a4_ : Nat) : Int) + (1 : Int))) ≤ (IntKind.wrap .i64 (((List.length a4_ : Nat) : Int) + (1 : Int)))) && decide (((24 : Nat) : Int) * (IntKind.wrap .i64 (((List.length a4_ : Nat) : Int) + (1 : Int))) ≤ 281474976710656)) <|
 .g (decide ((0 : Int) ≤ ((List.length a1_ : Nat) : Int))) <|
 .g (decide ((0 : Int) ≤ (IntKind.wrap .i64 ((1 : Int) * 2 ^ (min (Int.toNat ((List.length a1_ : Nat) : Int)) (IntKind.bits .i64))))) && decide ((IntKind.wrap .i64 ((1 : Int) * 2 ^ (min (Int.toNat ((List.length a1_ : Nat) : Int)) (IntKind.bits .i64)))) ≤ (IntKind.wrap .i64 ((1 : Int) * 2 ^ (min (Int.toNat ((List.length a1_ : Nat) : Int)) (IntKind.bits .i64))))) && decide (((8 : Nat) : Int) * (IntKind.wrap .i64 ((1 : Int) * 2 ^ (min (Int.toNat ((List.length a1_ : Nat) : Int)) (IntKind.bits .i64)))) ≤ 281474976710656)) <|
 .g (inR ((List.length a4_ : Nat) : Int) (List.length (List.replicate (Int.toNat (IntKind.wrap .i64 (((List.length a4_ : Nat) : Int) + (1 : Int)))) ([] : Y1)))) <|
 .g (decide ((Int.toNat ((List.length a4_ : Nat) : Int)) < List.length (List.replicate (Int.toNat (IntKind.wrap .i64 (((List.length a4_ : Nat) : Int) + (1 : Int)))) ([] : Y1)))) <|
 .c Y2 (L_zx_0 (a1_, (a2_, (a3_, a4_))) ((IntKind.wrap .i64 (((List.length a4_ : Nat) : Int) - (1 : Int))), (List.set (List.replicate (Int.toNat (IntKind.wrap .i64 (((List.length a4_ : Nat) : Int) + (1 : Int)))) ([] : Y1)) (Int.toNat ((List.length a4_ : Nat) : Int)) (List.replicate (Int.toNat (IntKind.wrap .i64 ((1 : Int) * 2 ^ (min (Int.toNat ((List.length a1_ : Nat) : Int)) (IntKind.bits .i64))))) (0 : Int))))) fun r28_ =>
 .l r28_
noncomputable def F_zx (a1_ : Y1) (a2_ : Y1) (a3_ : Y1) (a4_ : Y3) : Option Y2 := (T_zx a1_ a2_ a3_ a4_).ev
noncomputable def A_zx : Sh := (.cons (.agg (.cons (.dat y1) (.cons (.dat y1) (.cons (.dat y1) (.cons (.dat y3) .nil))))) .nil)
noncomputable def I_zx : List (Nat × OSh) := []
noncomputable def K_zx : RetK := { acts := [.ren 14 0], res := [.tmp 2], sh := (.cons (.arr 0) .nil), obs := [(0, .rows 24 3 yi)], pins := [] }
noncomputable def D_zx : FD := ⟨A_zx, I_zx, [], List Y1, fun x => F_zx x.1.1.1 x.1.1.2.1 x.1.1.2.2.1 x.1.1.2.2.2.1, fun r => ([.arr 0], [(0, .rows 24 3 yi r none)])⟩
noncomputable def E_zx : Env := envOf [(50, D_zv), (49, D_zal), (49, D_zal), (90, D_zy)]
noncomputable def Z_zx : Nat → Nat → List Nat := fun r i => match look [(2, [(2, [1000000])]), (12, [(0, [6])]), (14, [(0, [5000007])]), (16, [(0, [5000005])])] r with
 | some l => (look l i).getD []
 | none => []
noncomputable def O_zx : List (Nat × LD) := [(2, DL_zx_2), (0, DL_zx_0)]
noncomputable def C_zx : Code := (f47.body).getD .skip
noncomputable def T_zl (a1_ : Y1) (a2_ : Y1) (a3_ : Y1) (a4_ : Y3) : Tr (Bool × Y2) :=
 .c (Bool) (F_zn a1_ a2_ a3_ a4_) fun r1_ =>
 .t (!r1_)
 (.l (false, ([] : List Y1)))
 (.c Y2 (F_zx a1_ a2_ a3_ a4_) fun r2_ =>
 .l (true, r2_))
noncomputable def F_zl (a1_ : Y1) (a2_ : Y1) (a3_ : Y1) (a4_ : Y3) : Option (Bool × Y2) := (T_zl a1_ a2_ a3_ a4_).ev
noncomputable def A_zl : Sh := (.cons (.agg (.cons (.dat y1) (.cons (.dat y1) (.cons (.dat y1) (.cons (.dat y3) .nil))))) .nil)
noncomputable def I_zl : List (Nat × OSh) := []
noncomputable def K_zl : RetK := { acts := [.ownR 2 0 24 3 yi, .ren 512 0], res := [.tmp 2, .tmp 3], sh := (.cons (.arr 0) (.cons (.dat .bool) .nil)), obs := [(0, .rows 24 3 yi)], pins := [] }
noncomputable def D_zl : FD := ⟨A_zl, I_zl, [], Bool × Y2, fun x => F_zl x.1.1.1 x.1.1.2.1 x.1.1.2.2.1 x.1.1.2.2.2.1, fun r => ([.arr 0, .dat .bool r.1], [(0, .rows 24 3 yi r.2 none)])⟩
noncomputable def E_zl : Env := envOf [(24, D_zn), (47, D_zx)]
noncomputable def Z_zl : Nat → Nat → List Nat := fun _ _ => []
noncomputable def O_zl : List (Nat × LD) := []
noncomputable def C_zl : Code := (f11.body).getD .skip
noncomputable def S_zar_0 (k : Y1 × Y1) (v : Int) : Tr ((Int) ⊕ ((Unit) ⊕ (Unit))) :=
 .t (decide (v < ((List.length k.1 : Nat) : Int)))
 (.g (inR v (List.length k.1)) <|
 .g (inR v (List.length k.2)) <|
 .t ((List.getD k.1 (Int.toNat v) (0 : Int)) != (List.getD k.2 (Int.toNat v) (0 : Int)))
 (.l (.inr (.inr ())))
 (.l (.inl (IntKind.wrap .i64 (v + (1 : Int))))))
 (.l (.inr (.inl ())))
noncomputable def L_zar_0 (k : Y1 × Y1) (v : Int) : Option ((Unit) ⊕ (Unit)) := iter (fun v => (S_zar_0 k v).ev) v
noncomputable def DL_zar_0 : LD := ⟨(yh [0, 1, 5] (.cons (.dat y1) (.cons (.dat y1) (.cons (.dat yi) .nil)))), [(0, (yh [] .nil))], (yh [4] (.cons (.dat .bool) .nil)), Y1 × Y1, Int, (Unit) ⊕ (Unit), fun k v => ((k.1, (k.2, (v, ()))), ()), fun t => (t.1.1, t.1.2.1), fun t => t.1.2.2.1, S_zar_0, fun _ r => .s (Unit) (Unit) r (fun _ => .l (.exit 0 (mkSt ((ys [] .nil)) ((), ())))) (fun _ => .l (.ret (mkSt ((ys [4] (.cons (.dat .bool) .nil))) ((false, ()), ()))))⟩
noncomputable def T_zar (a1_ : Y1) (a2_ : Y1) : Tr (Bool) :=
 .t (((List.length a1_ : Nat) : Int) != ((List.length a2_ : Nat) : Int))
 (.l false)
 (.c ((Unit) ⊕ (Unit)) (L_zar_0 (a1_, a2_) (0 : Int)) fun r5_ =>
 .s (Unit) (Unit) r5_
 (fun _ => .l true)
 (fun _ => .l false))
noncomputable def F_zar (a1_ : Y1) (a2_ : Y1) : Option (Bool) := (T_zar a1_ a2_).ev
noncomputable def A_zar : Sh := (.cons (.dat y1) (.cons (.dat y1) .nil))
noncomputable def I_zar : List (Nat × OSh) := []
noncomputable def K_zar : RetK := { acts := [], res := [.tmp 4], sh := (.cons (.dat .bool) .nil), obs := [], pins := [] }
noncomputable def D_zar : FD := ⟨A_zar, I_zar, [], Bool, fun x => F_zar x.1.1 x.1.2.1, fun r => ([.dat .bool r], [])⟩
noncomputable def E_zar : Env := envOf []
noncomputable def Z_zar : Nat → Nat → List Nat := fun _ _ => []
noncomputable def O_zar : List (Nat × LD) := [(0, DL_zar_0)]
noncomputable def C_zar : Code := (f21.body).getD .skip
noncomputable def S_zas_0 (k : Y2 × Y2) (v : Int) : Tr ((Int) ⊕ ((Unit) ⊕ (Unit))) :=
 .t (decide (v < ((List.length k.1 : Nat) : Int)))
 (.g (inR v (List.length k.1)) <|
 .g (inR v (List.length k.2)) <|
 .c (Bool) (F_zar (List.getD k.1 (Int.toNat v) ([] : Y1)) (List.getD k.2 (Int.toNat v) ([] : Y1))) fun r4_ =>
 .t (!r4_)
 (.l (.inr (.inr ())))
 (.l (.inl (IntKind.wrap .i64 (v + (1 : Int))))))
 (.l (.inr (.inl ())))
noncomputable def L_zas_0 (k : Y2 × Y2) (v : Int) : Option ((Unit) ⊕ (Unit)) := iter (fun v => (S_zas_0 k v).ev) v
noncomputable def DL_zas_0 : LD := ⟨(yh [0, 1, 5] (.cons (.dat y2) (.cons (.dat y2) (.cons (.dat yi) .nil)))), [(0, (yh [] .nil))], (yh [4] (.cons (.dat .bool) .nil)), Y2 × Y2, Int, (Unit) ⊕ (Unit), fun k v => ((k.1, (k.2, (v, ()))), ()), fun t => (t.1.1, t.1.2.1), fun t => t.1.2.2.1, S_zas_0, fun _ r => .s (Unit) (Unit) r (fun _ => .l (.exit 0 (mkSt ((ys [] .nil)) ((), ())))) (fun _ => .l (.ret (mkSt ((ys [4] (.cons (.dat .bool) .nil))) ((false, ()), ()))))⟩
noncomputable def T_zas (a1_ : List Y1) (a2_ : List Y1) : Tr (Bool) :=
 .t (((List.length a1_ : Nat) : Int) != ((List.length a2_ : Nat) : Int))
 (.l false)
 (.c ((Unit) ⊕ (Unit)) (L_zas_0 (a1_, a2_) (0 : Int)) fun r6_ =>
 .s (Unit) (Unit) r6_
 (fun _ => .l true)
 (fun _ => .l false))
noncomputable def F_zas (a1_ : List Y1) (a2_ : List Y1) : Option (Bool) := (T_zas a1_ a2_).ev
noncomputable def A_zas : Sh := (.cons (.dat y2) (.cons (.dat y2) .nil))
noncomputable def I_zas : List (Nat × OSh) := []
noncomputable def K_zas : RetK := { acts := [], res := [.tmp 4], sh := (.cons (.dat .bool) .nil), obs := [], pins := [] }
noncomputable def D_zas : FD := ⟨A_zas, I_zas, [], Bool, fun x => F_zas x.1.1 x.1.2.1, fun r => ([.dat .bool r], [])⟩
noncomputable def E_zas : Env := envOf [(21, D_zar)]
noncomputable def Z_zas : Nat → Nat → List Nat := fun _ _ => []
noncomputable def O_zas : List (Nat × LD) := [(0, DL_zas_0)]
noncomputable def C_zas : Code := (f13.body).getD .skip
noncomputable def T_zf (a1_ : Y1) (a2_ : Y1) (a3_ : Y1) (a4_ : Y3) : Tr (Int × (Bool)) :=
 .c (Bool) (F_zn a1_ a2_ a3_ a4_) fun r1_ =>
 .t (!r1_)
 (.l ((0 : Int), false))
 (.c Y2 (F_zx a1_ a2_ a3_ a4_) fun r2_ =>
 .g (inR (0 : Int) (List.length r2_)) <|
 .g (decide ((Int.toNat (0 : Int)) < List.length r2_)) <|
 .g (inR (0 : Int) (List.length (List.getD r2_ (Int.toNat (0 : Int)) ([] : Y1)))) <|
 .g (decide ((Int.toNat (0 : Int)) < List.length (List.getD r2_ (Int.toNat (0 : Int)) ([] : Y1)))) <|
 .l ((List.getD (List.getD r2_ (Int.toNat (0 : Int)) ([] : Y1)) (Int.toNat (0 : Int)) (0 : Int)), true))
noncomputable def F_zf (a1_ : Y1) (a2_ : Y1) (a3_ : Y1) (a4_ : Y3) : Option (Int × (Bool)) := (T_zf a1_ a2_ a3_ a4_).ev
noncomputable def A_zf : Sh := (.cons (.agg (.cons (.dat y1) (.cons (.dat y1) (.cons (.dat y1) (.cons (.dat y3) .nil))))) .nil)
noncomputable def I_zf : List (Nat × OSh) := []
noncomputable def K_zf : RetK := { acts := [], res := [.tmp 2, .tmp 3], sh := (.cons (.dat yi) (.cons (.dat .bool) .nil)), obs := [], pins := [] }
noncomputable def D_zf : FD := ⟨A_zf, I_zf, [], Int × (Bool), fun x => F_zf x.1.1.1 x.1.1.2.1 x.1.1.2.2.1 x.1.1.2.2.2.1, fun r => ([.dat yi r.1, .dat .bool r.2], [])⟩
noncomputable def E_zf : Env := envOf [(24, D_zn), (47, D_zx)]
noncomputable def Z_zf : Nat → Nat → List Nat := fun _ _ => []
noncomputable def O_zf : List (Nat × LD) := []
noncomputable def C_zf : Code := (f14.body).getD .skip
noncomputable def T_zg (a1_ : Y1) (a2_ : Y1) (a3_ : Y1) (a4_ : Y1) (a5_ : Y3) (a6_ : Int) (a7_ : Y1) (a8_ : List Y1) : Tr (Int) :=
 .c (Int) (F_zab a2_ a3_ a4_ a5_ a6_ a7_ a1_) fun r1_ =>
 .g (inR (IntKind.wrap .i64 (a6_ + (1 : Int))) (List.length a8_)) <|
 .c (Int) (F_zaf a1_) fun r2_ =>
 .g (inR r2_ (List.length (List.getD a8_ (Int.toNat (IntKind.wrap .i64 (a6_ + (1 : Int)))) ([] : Y1)))) <|
 .l (IntKind.wrap .i64 (r1_ + (List.getD (List.getD a8_ (Int.toNat (IntKind.wrap .i64 (a6_ + (1 : Int)))) ([] : Y1)) (Int.toNat r2_) (0 : Int))))
noncomputable def F_zg (a1_ : Y1) (a2_ : Y1) (a3_ : Y1) (a4_ : Y1) (a5_ : Y3) (a6_ : Int) (a7_ : Y1) (a8_ : List Y1) : Option (Int) := (T_zg a1_ a2_ a3_ a4_ a5_ a6_ a7_ a8_).ev
noncomputable def A_zg : Sh := (.cons (.dat y1) (.cons (.ptr (.cons (.dat y1) (.cons (.dat y1) (.cons (.dat y1) (.cons (.dat y3) .nil))))) (.cons (.ptr (.cons (.dat yi) .nil)) (.cons (.ptr (.cons (.dat y1) .nil)) (.cons (.ptr (.cons (.dat y2) .nil)) .nil)))))
noncomputable def I_zg : List (Nat × OSh) := []
noncomputable def K_zg : RetK := { acts := [], res := [.tmp 6], sh := (.cons (.dat yi) .nil), obs := [], pins := [] }
noncomputable def D_zg : FD := ⟨A_zg, I_zg, [], Int, fun x => F_zg x.1.1 x.1.2.1.1 x.1.2.1.2.1 x.1.2.1.2.2.1 x.1.2.1.2.2.2.1 x.1.2.2.1.1 x.1.2.2.2.1.1 x.1.2.2.2.2.1.1, fun r => ([.dat yi r], [])⟩
noncomputable def E_zg : Env := envOf [(52, D_zab), (53, D_zaf)]
noncomputable def Z_zg : Nat → Nat → List Nat := fun _ _ => []
noncomputable def O_zg : List (Nat × LD) := []
noncomputable def C_zg : Code := (f51.body).getD .skip
noncomputable def F_zav (a1_ : Y1) : Option (List Int) := cloneF a1_
noncomputable def D_zav : FD := fdClone
noncomputable def S_ze_0 (k : Int × (Y1 × (Y1 × (Y1 × (Y3 × Y2))))) (v : Int × (Y2 × Y1)) : Tr ((Int × (Y2 × Y1)) ⊕ Y2) :=
 .t (decide (v.1 < k.1))
 (.c Y2 (F_zv k.2.1 k.2.2.1 k.2.2.2.1 k.2.2.2.2.1 v.1) fun r26_ =>
 .c Y1 (F_zal r26_ (fun h27_ => Option.bind (F_zg h27_.1 k.2.1 k.2.2.1 k.2.2.2.1 k.2.2.2.2.1 v.1 v.2.2 k.2.2.2.2.2) fun y28_ => some y28_)) fun r29_ =>
 .c (List Int) (F_zav r29_) fun r30_ =>
 .g (decide ((List.length v.2.1 + 1) * 24 ≤ 140737488355328)) <|
 .l (.inl ((IntKind.wrap .i64 (v.1 + (1 : Int))), ((List.set (v.2.1 ++ [[]]) (List.length v.2.1) r30_), r29_))))
 (.l (.inr v.2.1))
noncomputable def L_ze_0 (k : Int × (Y1 × (Y1 × (Y1 × (Y3 × Y2))))) (v : Int × (Y2 × Y1)) : Option Y2 := iter (fun v => (S_ze_0 k v).ev) v
noncomputable def DL_ze_0 : LD := ⟨{ acts := [.fz 14], S := { slots := [1, 4, 5, 6, 17, 18], sh := (.cons (.box 1 0) (.cons (.box 4 0) (.cons (.arr 13) (.cons (.box 6 0) (.cons (.dat yi) (.cons (.dat yi) .nil)))))), obs := [(1, .cells (.cons (.dat y1) (.cons (.dat y1) (.cons (.dat y1) (.cons (.dat y3) .nil))))), (4, .cells (.cons (.arr 768) .nil)), (13, .rows 24 3 yi), (6, .cells (.cons (.dat y1) .nil)), (768, .rows 24 3 yi)] } }, [(0, { acts := [], S := { slots := [5], sh := (.cons (.arr 13) .nil), obs := [(13, .rows 24 3 yi)] } })], (yh [] .nil), Int × (Y1 × (Y1 × (Y1 × (Y3 × Y2)))), Int × (Y2 × Y1), List Y1, fun k v => (((), ((), ((), ((), (k.1, (v.1, ())))))), ((k.2.1, (k.2.2.1, (k.2.2.2.1, (k.2.2.2.2.1, ())))), (((), ()), (v.2.1, ((v.2.2, ()), (k.2.2.2.2.2, ())))))), fun t => (t.1.2.2.2.2.1, (t.2.1.1, (t.2.1.2.1, (t.2.1.2.2.1, (t.2.1.2.2.2.1, t.2.2.2.2.2.1))))), fun t => (t.1.2.2.2.2.2.1, (t.2.2.2.1, t.2.2.2.2.1.1)), S_ze_0, fun _ r => .l (.exit 0 (mkSt ({ slots := [5], sh := (.cons (.arr 13) .nil), obs := [(13, .rows 24 3 yi)] }) (((), ()), (r, ()))))⟩
noncomputable def T_ze (a1_ : Y1) (a2_ : Y1) (a3_ : Y1) (a4_ : Y3) : Tr (Bool × Y2) :=
 .c (Bool) (F_zn a1_ a2_ a3_ a4_) fun r1_ =>
 .t (!r1_)
 (.l (false, ([] : List Y1)))
 (.c Y2 (F_zx a1_ a2_ a3_ a4_) fun r2_ =>
 .c Y2 (L_ze_0 (((List.length a4_ : Nat) : Int), (a1_, (a2_, (a3_, (a4_, r2_))))) ((0 : Int), (([] : List Y1), ([] : Y1)))) fun r32_ =>
 .l (true, r32_))
noncomputable def F_ze (a1_ : Y1) (a2_ : Y1) (a3_ : Y1) (a4_ : Y3) : Option (Bool × Y2) := (T_ze a1_ a2_ a3_ a4_).ev
noncomputable def A_ze : Sh := (.cons (.agg (.cons (.dat y1) (.cons (.dat y1) (.cons (.dat y1) (.cons (.dat y3) .nil))))) .nil)
noncomputable def I_ze : List (Nat × OSh) := []
noncomputable def K_ze : RetK := { acts := [.ownR 2 0 24 3 yi, .ren 13 0], res := [.tmp 2, .tmp 3], sh := (.cons (.arr 0) (.cons (.dat .bool) .nil)), obs := [(0, .rows 24 3 yi)], pins := [] }
noncomputable def D_ze : FD := ⟨A_ze, I_ze, [], Bool × Y2, fun x => F_ze x.1.1.1 x.1.1.2.1 x.1.1.2.2.1 x.1.1.2.2.2.1, fun r => ([.arr 0, .dat .bool r.1], [(0, .rows 24 3 yi r.2 none)])⟩
noncomputable def E_ze : Env := envOf [(24, D_zn), (47, D_zx), (50, D_zv), (49, D_zal), (54, D_zav), (49, D_zal), (51, D_zg)]
noncomputable def Z_ze : Nat → Nat → List Nat := fun r i => match look [(3, [(2, [1000000])]), (7, [(4, [23])])] r with
 | some l => (look l i).getD []
 | none => []
noncomputable def O_ze : List (Nat × LD) := [(0, DL_ze_0)]
noncomputable def C_ze : Code := (f15.body).getD .skip
noncomputable def T_zap (a1_ : Y1) : Tr (Bool) :=
 .c (Bool) (F_zaq a1_) fun r1_ =>
 .t r1_
 (.l true)
 (.c (Y1 × (Y1 × (Y1 × (Y3 × (Y2 × Y2))))) (F_zbp a1_) fun r2_ =>
 .c (Bool × (Bool)) (F_zs r2_.1 r2_.2.1 r2_.2.2.1 r2_.2.2.2.1 r2_.2.2.2.2.2 r2_.2.2.2.2.1) fun r3_ =>
 .c (Bool × (Bool)) (F_zbr r2_.1 r2_.2.1 r2_.2.2.1 r2_.2.2.2.1 r2_.2.2.2.2.2 r2_.2.2.2.2.1) fun r4_ =>
 .t (!(r3_.1 == r4_.1))
 (.l false)
 (.t (!(r3_.2 == r4_.2))
 (.l false)
 (.c (Bool × (Bool)) (F_zd r2_.1 r2_.2.1 r2_.2.2.1 r2_.2.2.2.1 r2_.2.2.2.2.1) fun r5_ =>
 .c (Bool × (Bool)) (F_zbo r2_.1 r2_.2.1 r2_.2.2.1 r2_.2.2.2.1 r2_.2.2.2.2.1) fun r6_ =>
 .t (!(r5_.1 == r6_.1))
 (.l false)
 (.t (!(r5_.2 == r6_.2))
 (.l false)
 (.t r3_.1
 (.t (!r5_.1)
 (.l false)
 (.c (Bool × Y2) (F_zl r2_.1 r2_.2.1 r2_.2.2.1 r2_.2.2.2.1) fun r7_ =>
 .c (Bool × Y2) (F_zbq r2_.1 r2_.2.1 r2_.2.2.1 r2_.2.2.2.1) fun r8_ =>
 .t (!(r7_.1 == r8_.1))
 (.l false)
 (.t (!(r7_.1 == r5_.2))
 (.l false)
 (.c (Bool) (F_zas r7_.2 r8_.2) fun r9_ =>
 .t (!r9_)
 (.l false)
 (.t (!r5_.2)
 (.l (!r3_.2))
 (.c (Int × (Bool)) (F_zf r2_.1 r2_.2.1 r2_.2.2.1 r2_.2.2.2.1) fun r10_ =>
 .c (Bool × Y2) (F_ze r2_.1 r2_.2.1 r2_.2.2.1 r2_.2.2.2.1) fun r11_ =>
 .c (Bool × (Bool)) (F_zs r2_.1 r2_.2.1 r2_.2.2.1 r2_.2.2.2.1 r11_.2 r7_.2) fun r12_ =>
 .t (!r10_.2)
 (.l false)
 (.t (!r11_.1)
 (.l false)
 (.t (!r12_.2)
 (.l false)
 (.t (!r12_.1)
 (.l false)
 (.t r5_.1
 (.g (inR (0 : Int) (List.length r2_.2.2.2.2.1)) <|
 .g (inR (0 : Int) (List.length (List.getD r2_.2.2.2.2.1 (Int.toNat (0 : Int)) ([] : Y1)))) <|
 .t (decide (r10_.1 < (List.getD (List.getD r2_.2.2.2.2.1 (Int.toNat (0 : Int)) ([] : Y1)) (Int.toNat (0 : Int)) (0 : Int))))
 (.l false)
 (.t r3_.2
 (.t r3_.1
 (.c (Int × (Bool)) (F_zq r2_.1 r2_.2.1 r2_.2.2.1 r2_.2.2.2.1 r2_.2.2.2.2.2) fun r13_ =>
 .t r13_.2
 (.l (r13_.1 == r10_.1))
 (.l false))
 (.l true))
 (.l true)))
 (.t r3_.2
 (.t r3_.1
 (.c (Int × (Bool)) (F_zq r2_.1 r2_.2.1 r2_.2.2.1 r2_.2.2.2.1 r2_.2.2.2.2.2) fun r14_ =>
 .t r14_.2
 (.l (r14_.1 == r10_.1))
 (.l false))
 (.l true))
 (.l true))))))))))))
 (.c (Bool × Y2) (F_zl r2_.1 r2_.2.1 r2_.2.2.1 r2_.2.2.2.1) fun r15_ =>
 .c (Bool × Y2) (F_zbq r2_.1 r2_.2.1 r2_.2.2.1 r2_.2.2.2.1) fun r16_ =>
 .t (!(r15_.1 == r16_.1))
 (.l false)
 (.t (!(r15_.1 == r5_.2))
 (.l false)
 (.c (Bool) (F_zas r15_.2 r16_.2) fun r17_ =>
 .t (!r17_)
 (.l false)
 (.t (!r5_.2)
 (.l (!r3_.2))
 (.c (Int × (Bool)) (F_zf r2_.1 r2_.2.1 r2_.2.2.1 r2_.2.2.2.1) fun r18_ =>
 .c (Bool × Y2) (F_ze r2_.1 r2_.2.1 r2_.2.2.1 r2_.2.2.2.1) fun r19_ =>
 .c (Bool × (Bool)) (F_zs r2_.1 r2_.2.1 r2_.2.2.1 r2_.2.2.2.1 r19_.2 r15_.2) fun r20_ =>
 .t (!r18_.2)
 (.l false)
 (.t (!r19_.1)
 (.l false)
 (.t (!r20_.2)
 (.l false)
 (.t (!r20_.1)
 (.l false)
 (.t r5_.1
 (.g (inR (0 : Int) (List.length r2_.2.2.2.2.1)) <|
 .g (inR (0 : Int) (List.length (List.getD r2_.2.2.2.2.1 (Int.toNat (0 : Int)) ([] : Y1)))) <|
 .t (decide (r18_.1 < (List.getD (List.getD r2_.2.2.2.2.1 (Int.toNat (0 : Int)) ([] : Y1)) (Int.toNat (0 : Int)) (0 : Int))))
 (.l false)
 (.t r3_.2
 (.t r3_.1
 (.c (Int × (Bool)) (F_zq r2_.1 r2_.2.1 r2_.2.2.1 r2_.2.2.2.1 r2_.2.2.2.2.2) fun r21_ =>
 .t r21_.2
 (.l (r21_.1 == r18_.1))
 (.l false))
 (.l true))
 (.l true)))
 (.t r3_.2
 (.t r3_.1
 (.c (Int × (Bool)) (F_zq r2_.1 r2_.2.1 r2_.2.2.1 r2_.2.2.2.1 r2_.2.2.2.2.2) fun r22_ =>
 .t r22_.2
 (.l (r22_.1 == r18_.1))
 (.l false))
 (.l true))
 (.l true))))))))))))))))
noncomputable def F_zap (a1_ : Y1) : Option (Bool) := (T_zap a1_).ev
noncomputable def A_zap : Sh := (.cons (.dat (.slice (.int .u8))) .nil)
noncomputable def I_zap : List (Nat × OSh) := []
noncomputable def K_zap : RetK := { acts := [], res := [.tmp 2], sh := (.cons (.dat .bool) .nil), obs := [], pins := [] }
noncomputable def D_zap : FD := ⟨A_zap, I_zap, [], Bool, fun x => F_zap x.1.1, fun r => ([.dat .bool r], [])⟩
noncomputable def E_zap : Env := envOf [(5, D_zaq), (6, D_zbp), (7, D_zs), (8, D_zbr), (9, D_zd), (10, D_zbo), (11, D_zl), (12, D_zbq), (13, D_zas), (14, D_zf), (15, D_ze), (16, D_zq)]
noncomputable def Z_zap : Nat → Nat → List Nat := fun _ _ => []
noncomputable def O_zap : List (Nat × LD) := []
noncomputable def C_zap : Code := (f3.body).getD .skip
end Go.Proofs.YtlmbhkmaflhagaaGreat
