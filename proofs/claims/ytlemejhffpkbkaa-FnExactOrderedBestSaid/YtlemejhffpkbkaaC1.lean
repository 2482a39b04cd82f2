import Derived.Test.YtlemejhffpkbkaaC3
import Derived.Test.YtlemejhffpkbkaaProg
namespace Go.Proofs.Ytlemejhffpkbkaa
open Go.Proofs.Try
noncomputable def T_zag (a1_ : Y1) (a2_ : List Y1) (a3_ : Int) : Tr (Int) :=
 .c (Int) (F_zah a1_ a3_) fun r1_ =>
 .t (decide (r1_ < (0 : Int)))
 (.l (-1 : Int))
 (.c (Int) (F_zai a2_ r1_) fun r2_ =>
 .t (decide (r2_ < (0 : Int)))
 (.l (-1 : Int))
 (.l r2_))
noncomputable def F_zag (a1_ : Y1) (a2_ : List Y1) (a3_ : Int) : Option (Int) := (T_zag a1_ a2_ a3_).ev
noncomputable def A_zag : Sh := (.cons (.agg (.cons (.dat y1) (.cons (.dat y2) .nil))) (.cons (.dat yi) .nil))
noncomputable def I_zag : List (Nat × OSh) := []
noncomputable def K_zag : RetK := { acts := [], res := [.tmp 4], sh := (.cons (.dat yi) .nil), obs := [], pins := [] }
noncomputable def D_zag : FD := ⟨A_zag, I_zag, [], Int, fun x => F_zag x.1.1.1 x.1.1.2.1 x.1.2.1, fun r => ([.dat yi r], [])⟩
noncomputable def E_zag : Env := envOf [(62, D_zah), (12, D_zai)]
noncomputable def Z_zag : Nat → Nat → List Nat := fun _ _ => []
noncomputable def O_zag : List (Nat × LD) := []
noncomputable def C_zag : Code := (f23.body).getD .skip
noncomputable def T_zaj (a1_ : Y1) (a2_ : List Y1) : Tr (Y1 × Y2) :=
 .c Y1 (F_zak a1_) fun r1_ =>
 .c Y2 (F_zal a2_) fun r2_ =>
 .l (r1_, r2_)
noncomputable def F_zaj (a1_ : Y1) (a2_ : List Y1) : Option (Y1 × Y2) := (T_zaj a1_ a2_).ev
noncomputable def A_zaj : Sh := (.cons (.agg (.cons (.dat y1) (.cons (.dat y2) .nil))) .nil)
noncomputable def I_zaj : List (Nat × OSh) := []
noncomputable def K_zaj : RetK := { acts := [.ren 384 4, .ren 640 5], res := [.cell 2 36], sh := (.cons (.agg (.cons (.arr 4) (.cons (.arr 5) .nil))) .nil), obs := [(4, .arr 3 yi), (5, .rows 24 3 yi)], pins := [] }
noncomputable def D_zaj : FD := ⟨A_zaj, I_zaj, [], Y1 × Y2, fun x => F_zaj x.1.1.1 x.1.1.2.1, fun r => ([.agg [.arr 4, .arr 5]], [(4, .arr 3 yi r.1), (5, .rows 24 3 yi r.2 none)])⟩
noncomputable def E_zaj : Env := envOf [(26, D_zak), (14, D_zal)]
noncomputable def Z_zaj : Nat → Nat → List Nat := fun _ _ => []
noncomputable def O_zaj : List (Nat × LD) := []
noncomputable def C_zaj : Code := (f25.body).getD .skip
noncomputable def S_zby_0 (k : Int × (Y1 × Y2)) (v : Int) : Tr ((Int) ⊕ ((Unit) ⊕ (Unit))) :=
 .t (decide (v < ((List.length k.2.2 : Nat) : Int)))
 (.g (inR v (List.length k.2.2)) <|
 .c (Bool) (F_zca (List.getD k.2.2 (Int.toNat v) ([] : Y1)) k.1 (99 : Int)) fun r5_ =>
 .t (!r5_)
 (.l (.inr (.inr ())))
 (.l (.inl (IntKind.wrap .i64 (v + (1 : Int))))))
 (.l (.inr (.inl ())))
noncomputable def L_zby_0 (k : Int × (Y1 × Y2)) (v : Int) : Option ((Unit) ⊕ (Unit)) := iter (fun v => (S_zby_0 k v).ev) v
noncomputable def DL_zby_0 : LD := ⟨{ acts := [], S := { slots := [1, 3, 4], sh := (.cons (.box 1 0) (.cons (.dat yi) (.cons (.dat yi) .nil))), obs := [(1, .cells (.cons (.dat y1) (.cons (.dat y2) .nil)))] } }, [(0, { acts := [], S := { slots := [1, 3], sh := (.cons (.box 1 0) (.cons (.dat yi) .nil)), obs := [(1, .cells (.cons (.dat y1) (.cons (.dat y2) .nil)))] } })], (yh [2] (.cons (.dat .bool) .nil)), Int × (Y1 × Y2), Int, (Unit) ⊕ (Unit), fun k v => (((), (k.1, (v, ()))), ((k.2.1, (k.2.2, ())), ())), fun t => (t.1.2.1, (t.2.1.1, t.2.1.2.1)), fun t => t.1.2.2.1, S_zby_0, fun k r => .s (Unit) (Unit) r (fun _ => .l (.exit 0 (mkSt ({ slots := [1, 3], sh := (.cons (.box 1 0) (.cons (.dat yi) .nil)), obs := [(1, .cells (.cons (.dat y1) (.cons (.dat y2) .nil)))] }) (((), (k.1, ())), ((k.2.1, (k.2.2, ())), ()))))) (fun _ => .l (.ret (mkSt ((ys [2] (.cons (.dat .bool) .nil))) ((false, ()), ()))))⟩
noncomputable def T_zby (a1_ : Y1) (a2_ : List Y1) : Tr (Bool) :=
 .c ((Unit) ⊕ (Unit)) (L_zby_0 (((List.length a1_ : Nat) : Int), (a1_, a2_)) (0 : Int)) fun r10_ =>
 .s (Unit) (Unit) r10_
 (fun _ => .c (Bool) (F_zbv ((List.length a1_ : Nat) : Int) (1 : Int) (7 : Int)) fun r13_ =>
 .t r13_
 (.c (Bool) (F_zca a1_ ((List.length a1_ : Nat) : Int) (99 : Int)) fun r14_ =>
 .t r14_
 (.l (decide (((List.length a2_ : Nat) : Int) ≤ (7 : Int))))
 (.l false))
 (.l false))
 (fun _ => .l false)
noncomputable def F_zby (a1_ : Y1) (a2_ : List Y1) : Option (Bool) := (T_zby a1_ a2_).ev
noncomputable def A_zby : Sh := (.cons (.agg (.cons (.dat y1) (.cons (.dat y2) .nil))) .nil)
noncomputable def I_zby : List (Nat × OSh) := []
noncomputable def K_zby : RetK := { acts := [], res := [.tmp 2], sh := (.cons (.dat .bool) .nil), obs := [], pins := [] }
noncomputable def D_zby : FD := ⟨A_zby, I_zby, [], Bool, fun x => F_zby x.1.1.1 x.1.1.2.1, fun r => ([.dat .bool r], [])⟩
noncomputable def E_zby : Env := envOf [(77, D_zca), (84, D_zbv)]
noncomputable def Z_zby : Nat → Nat → List Nat := fun _ _ => []
noncomputable def O_zby : List (Nat × LD) := [(0, DL_zby_0)]
noncomputable def C_zby : Code := (f138.body).getD .skip
noncomputable def T_zcd (a1_ : Y1) (a2_ : List Y1) (a3_ : Int) : Tr (Bool) :=
 .c (Bool) (F_zby a1_ a2_) fun r1_ =>
 .t r1_
 (.c (Bool) (F_zbv a3_ (1 : Int) ((List.length a1_ : Nat) : Int)) fun r2_ =>
 .l r2_)
 (.l false)
noncomputable def F_zcd (a1_ : Y1) (a2_ : List Y1) (a3_ : Int) : Option (Bool) := (T_zcd a1_ a2_ a3_).ev
noncomputable def A_zcd : Sh := (.cons (.agg (.cons (.dat y1) (.cons (.dat y2) .nil))) (.cons (.dat yi) .nil))
noncomputable def I_zcd : List (Nat × OSh) := []
noncomputable def K_zcd : RetK := { acts := [], res := [.tmp 4], sh := (.cons (.dat .bool) .nil), obs := [], pins := [] }
noncomputable def D_zcd : FD := ⟨A_zcd, I_zcd, [], Bool, fun x => F_zcd x.1.1.1 x.1.1.2.1 x.1.2.1, fun r => ([.dat .bool r], [])⟩
noncomputable def E_zcd : Env := envOf [(138, D_zby), (84, D_zbv)]
noncomputable def Z_zcd : Nat → Nat → List Nat := fun _ _ => []
noncomputable def O_zcd : List (Nat × LD) := []
noncomputable def C_zcd : Code := (f76.body).getD .skip
noncomputable def S_zcc_0 (k : Int × (Y1 × (Y1 × Y2))) (v : Int × Int) : Tr ((Int × Int) ⊕ (Int)) :=
 .t (decide (v.2 < ((List.length k.2.1 : Nat) : Int)))
 (.g (inR k.1 (List.length k.2.2.2)) <|
 .g (inR v.2 (List.length k.2.1)) <|
 .g (inR (List.getD k.2.1 (Int.toNat v.2) (0 : Int)) (List.length (List.getD k.2.2.2 (Int.toNat k.1) ([] : Y1)))) <|
 .g (inR k.1 (List.length k.2.2.2)) <|
 .g (inR v.1 (List.length (List.getD k.2.2.2 (Int.toNat k.1) ([] : Y1)))) <|
 .t (decide ((List.getD (List.getD k.2.2.2 (Int.toNat k.1) ([] : Y1)) (Int.toNat (List.getD k.2.1 (Int.toNat v.2) (0 : Int))) (0 : Int)) < (List.getD (List.getD k.2.2.2 (Int.toNat k.1) ([] : Y1)) (Int.toNat v.1) (0 : Int))))
 (.g (inR v.2 (List.length k.2.1)) <|
 .l (.inl ((List.getD k.2.1 (Int.toNat v.2) (0 : Int)), (IntKind.wrap .i64 (v.2 + (1 : Int))))))
 (.l (.inl (v.1, (IntKind.wrap .i64 (v.2 + (1 : Int)))))))
 (.l (.inr v.1))
noncomputable def L_zcc_0 (k : Int × (Y1 × (Y1 × Y2))) (v : Int × Int) : Option (Int) := iter (fun v => (S_zcc_0 k v).ev) v
noncomputable def DL_zcc_0 : LD := ⟨{ acts := [], S := { slots := [1, 2, 3, 7, 8], sh := (.cons (.dat yi) (.cons (.dat y1) (.cons (.box 3 0) (.cons (.dat yi) (.cons (.dat yi) .nil))))), obs := [(3, .cells (.cons (.dat y1) (.cons (.dat y2) .nil)))] } }, [(0, (yh [7] (.cons (.dat yi) .nil)))], (yh [] .nil), Int × (Y1 × (Y1 × Y2)), Int × (Int), Int, fun k v => ((k.1, (k.2.1, ((), (v.1, (v.2, ()))))), ((k.2.2.1, (k.2.2.2, ())), ())), fun t => (t.1.1, (t.1.2.1, (t.2.1.1, t.2.1.2.1))), fun t => (t.1.2.2.2.1, t.1.2.2.2.2.1), S_zcc_0, fun _ r => .l (.exit 0 (mkSt ((ys [7] (.cons (.dat yi) .nil))) ((r, ()), ())))⟩
noncomputable def T_zcc (a1_ : Y1) (a2_ : List Y1) (a3_ : Int) (a4_ : Y1) : Tr (Int) :=
 .g (inR (0 : Int) (List.length a4_)) <|
 .c (Int) (L_zcc_0 (a3_, (a4_, (a1_, a2_))) ((List.getD a4_ (Int.toNat (0 : Int)) (0 : Int)), (1 : Int))) fun r8_ =>
 .l r8_
noncomputable def F_zcc (a1_ : Y1) (a2_ : List Y1) (a3_ : Int) (a4_ : Y1) : Option (Int) := (T_zcc a1_ a2_ a3_ a4_).ev
noncomputable def A_zcc : Sh := (.cons (.agg (.cons (.dat y1) (.cons (.dat y2) .nil))) (.cons (.dat yi) (.cons (.dat y1) .nil)))
noncomputable def I_zcc : List (Nat × OSh) := []
noncomputable def K_zcc : RetK := { acts := [], res := [.tmp 6], sh := (.cons (.dat yi) .nil), obs := [], pins := [] }
noncomputable def D_zcc : FD := ⟨A_zcc, I_zcc, [], Int, fun x => F_zcc x.1.1.1 x.1.1.2.1 x.1.2.1 x.1.2.2.1, fun r => ([.dat yi r], [])⟩
noncomputable def E_zcc : Env := envOf []
noncomputable def Z_zcc : Nat → Nat → List Nat := fun _ _ => []
noncomputable def O_zcc : List (Nat × LD) := [(0, DL_zcc_0)]
noncomputable def C_zcc : Code := (f183.body).getD .skip
noncomputable def T_zbz (a1_ : Y1) (a2_ : List Y1) (a3_ : Int) (a4_ : Y1) : Tr (Int) :=
 .g (inR a3_ (List.length a2_)) <|
 .c (Int) (F_zcc a1_ a2_ a3_ a4_) fun r1_ =>
 .g (inR r1_ (List.length (List.getD a2_ (Int.toNat a3_) ([] : Y1)))) <|
 .l (List.getD (List.getD a2_ (Int.toNat a3_) ([] : Y1)) (Int.toNat r1_) (0 : Int))
noncomputable def F_zbz (a1_ : Y1) (a2_ : List Y1) (a3_ : Int) (a4_ : Y1) : Option (Int) := (T_zbz a1_ a2_ a3_ a4_).ev
noncomputable def A_zbz : Sh := (.cons (.agg (.cons (.dat y1) (.cons (.dat y2) .nil))) (.cons (.dat yi) (.cons (.dat y1) .nil)))
noncomputable def I_zbz : List (Nat × OSh) := []
noncomputable def K_zbz : RetK := { acts := [], res := [.tmp 6], sh := (.cons (.dat yi) .nil), obs := [], pins := [] }
noncomputable def D_zbz : FD := ⟨A_zbz, I_zbz, [], Int, fun x => F_zbz x.1.1.1 x.1.1.2.1 x.1.2.1 x.1.2.2.1, fun r => ([.dat yi r], [])⟩
noncomputable def E_zbz : Env := envOf [(183, D_zcc)]
noncomputable def Z_zbz : Nat → Nat → List Nat := fun _ _ => []
noncomputable def O_zbz : List (Nat × LD) := []
noncomputable def C_zbz : Code := (f139.body).getD .skip
noncomputable def S_zbu_2 (k : Y1 × (Y1 × (Y1 × (Int × (Int × (Int × (Y1 × Y2))))))) (v : Int) : Tr ((Int) ⊕ (Int)) :=
 .t (decide (v < ((List.length k.2.2.1 : Nat) : Int)))
 (.g (inR v (List.length k.2.2.1)) <|
 .t (decide ((List.getD k.2.2.1 (Int.toNat v) (0 : Int)) ≤ k.2.2.2.2.2.1))
 (.l (.inl (IntKind.wrap .i64 (v + (1 : Int)))))
 (.l (.inr v)))
 (.l (.inr v))
noncomputable def L_zbu_2 (k : Y1 × (Y1 × (Y1 × (Int × (Int × (Int × (Y1 × Y2))))))) (v : Int) : Option (Int) := iter (fun v => (S_zbu_2 k v).ev) v
noncomputable def DL_zbu_2 : LD := ⟨{ acts := [], S := { slots := [1, 2, 3, 7, 8, 9, 10, 11], sh := (.cons (.dat y1) (.cons (.dat y1) (.cons (.box 3 0) (.cons (.dat y1) (.cons (.dat yi) (.cons (.dat yi) (.cons (.dat yi) (.cons (.dat yi) .nil)))))))), obs := [(3, .cells (.cons (.dat y1) (.cons (.dat y2) .nil)))] } }, [(2, { acts := [], S := { slots := [1, 2, 3, 7, 8, 9, 10, 11], sh := (.cons (.dat y1) (.cons (.dat y1) (.cons (.box 3 0) (.cons (.dat y1) (.cons (.dat yi) (.cons (.dat yi) (.cons (.dat yi) (.cons (.dat yi) .nil)))))))), obs := [(3, .cells (.cons (.dat y1) (.cons (.dat y2) .nil)))] } })], (yh [] .nil), Y1 × (Y1 × (Y1 × (Int × (Int × (Int × (Y1 × Y2)))))), Int, Int, fun k v => ((k.1, (k.2.1, ((), (k.2.2.1, (k.2.2.2.1, (k.2.2.2.2.1, (k.2.2.2.2.2.1, (v, ())))))))), ((k.2.2.2.2.2.2.1, (k.2.2.2.2.2.2.2, ())), ())), fun t => (t.1.1, (t.1.2.1, (t.1.2.2.2.1, (t.1.2.2.2.2.1, (t.1.2.2.2.2.2.1, (t.1.2.2.2.2.2.2.1, (t.2.1.1, t.2.1.2.1))))))), fun t => t.1.2.2.2.2.2.2.2.1, S_zbu_2, fun k r => .l (.exit 2 (mkSt ({ slots := [1, 2, 3, 7, 8, 9, 10, 11], sh := (.cons (.dat y1) (.cons (.dat y1) (.cons (.box 3 0) (.cons (.dat y1) (.cons (.dat yi) (.cons (.dat yi) (.cons (.dat yi) (.cons (.dat yi) .nil)))))))), obs := [(3, .cells (.cons (.dat y1) (.cons (.dat y2) .nil)))] }) ((k.1, (k.2.1, ((), (k.2.2.1, (k.2.2.2.1, (k.2.2.2.2.1, (k.2.2.2.2.2.1, (r, ())))))))), ((k.2.2.2.2.2.2.1, (k.2.2.2.2.2.2.2, ())), ()))))⟩
noncomputable def S_zbu_0 (k : Y1 × (Y1 × (Int × (Y1 × Y2)))) (v : Y1 × Int) : Tr ((Y1 × Int) ⊕ Y1) :=
 .t (decide (v.2 < ((List.length k.2.2.2.2 : Nat) : Int)))
 (.c (Int) (F_zbz k.2.2.2.1 k.2.2.2.2 v.2 k.1) fun r35_ =>
 .c (Int) (L_zbu_2 (k.1, (k.2.1, (v.1, (k.2.2.1, (v.2, (r35_, (k.2.2.2.1, k.2.2.2.2))))))) (0 : Int)) fun r54_ =>
 .g (decide ((0 : Int) ≤ r54_) && decide (r54_ ≤ ((List.length v.1 : Nat) : Int))) <|
 .g (decide ((List.length ([] : Y1) + List.length (List.drop 0 (List.take (Int.toNat r54_) v.1))) * 8 ≤ 140737488355328)) <|
 .g (decide ((List.length (([] : Y1) ++ (List.drop 0 (List.take (Int.toNat r54_) v.1))) + List.length ([r35_] : Y1)) * 8 ≤ 140737488355328)) <|
 .g (decide ((0 : Int) ≤ r54_) && decide (r54_ ≤ ((List.length v.1 : Nat) : Int))) <|
 .g (decide ((List.length ((([] : Y1) ++ (List.drop 0 (List.take (Int.toNat r54_) v.1))) ++ ([r35_] : Y1)) + List.length (List.drop (Int.toNat r54_) (List.take (List.length v.1) v.1))) * 8 ≤ 140737488355328)) <|
 .l (.inl ((((([] : Y1) ++ (List.drop 0 (List.take (Int.toNat r54_) v.1))) ++ ([r35_] : Y1)) ++ (List.drop (Int.toNat r54_) (List.take (List.length v.1) v.1))), (IntKind.wrap .i64 (v.2 + (1 : Int))))))
 (.l (.inr v.1))
noncomputable def L_zbu_0 (k : Y1 × (Y1 × (Int × (Y1 × Y2)))) (v : Y1 × Int) : Option Y1 := iter (fun v => (S_zbu_0 k v).ev) v
noncomputable def DL_zbu_0 : LD := ⟨{ acts := [.fz 13, .fz 39], S := { slots := [1, 2, 3, 7, 8, 9], sh := (.cons (.dat y1) (.cons (.dat y1) (.cons (.box 3 0) (.cons (.dat y1) (.cons (.dat yi) (.cons (.dat yi) .nil)))))), obs := [(3, .cells (.cons (.dat y1) (.cons (.dat y2) .nil)))] } }, [(0, (yh [2, 7, 8] (.cons (.dat y1) (.cons (.dat y1) (.cons (.dat yi) .nil)))))], (yh [] .nil), Y1 × (Y1 × (Int × (Y1 × Y2))), Y1 × (Int), Y1, fun k v => ((k.1, (k.2.1, ((), (v.1, (k.2.2.1, (v.2, ())))))), ((k.2.2.2.1, (k.2.2.2.2, ())), ())), fun t => (t.1.1, (t.1.2.1, (t.1.2.2.2.2.1, (t.2.1.1, t.2.1.2.1)))), fun t => (t.1.2.2.2.1, t.1.2.2.2.2.2.1), S_zbu_0, fun k r => .l (.exit 0 (mkSt ((ys [2, 7, 8] (.cons (.dat y1) (.cons (.dat y1) (.cons (.dat yi) .nil))))) ((k.2.1, (r, (k.2.2.1, ()))), ())))⟩
noncomputable def S_zbu_4 (k : Y1 × Y1) (v : Int × Int) : Tr ((Int × Int) ⊕ (Int)) :=
 .t (decide (v.2 < ((List.length k.2 : Nat) : Int)))
 (.g (inR v.2 (List.length k.1)) <|
 .g (inR v.2 (List.length k.2)) <|
 .l (.inl ((IntKind.wrap .i64 (v.1 + (IntKind.wrap .i64 ((List.getD k.1 (Int.toNat v.2) (0 : Int)) * (List.getD k.2 (Int.toNat v.2) (0 : Int)))))), (IntKind.wrap .i64 (v.2 + (1 : Int))))))
 (.l (.inr v.1))
noncomputable def L_zbu_4 (k : Y1 × Y1) (v : Int × Int) : Option (Int) := iter (fun v => (S_zbu_4 k v).ev) v
noncomputable def DL_zbu_4 : LD := ⟨(yh [2, 7, 8, 12] (.cons (.dat y1) (.cons (.dat y1) (.cons (.dat yi) (.cons (.dat yi) .nil))))), [(4, (yh [8] (.cons (.dat yi) .nil)))], (yh [] .nil), Y1 × Y1, Int × (Int), Int, fun k v => ((k.1, (k.2, (v.1, (v.2, ())))), ()), fun t => (t.1.1, t.1.2.1), fun t => (t.1.2.2.1, t.1.2.2.2.1), S_zbu_4, fun _ r => .l (.exit 4 (mkSt ((ys [8] (.cons (.dat yi) .nil))) ((r, ()), ())))⟩
noncomputable def T_zbu (a1_ : Y1) (a2_ : List Y1) (a3_ : Y1) (a4_ : Y1) : Tr (Int) :=
 .c Y1 (L_zbu_0 (a3_, (a4_, ((0 : Int), (a1_, a2_)))) (([] : Y1), (0 : Int))) fun r58_ =>
 .c (Int) (L_zbu_4 (a4_, r58_) ((0 : Int), (0 : Int))) fun r64_ =>
 .l r64_
noncomputable def F_zbu (a1_ : Y1) (a2_ : List Y1) (a3_ : Y1) (a4_ : Y1) : Option (Int) := (T_zbu a1_ a2_ a3_ a4_).ev
noncomputable def A_zbu : Sh := (.cons (.agg (.cons (.dat y1) (.cons (.dat y2) .nil))) (.cons (.dat y1) (.cons (.dat y1) .nil)))
noncomputable def I_zbu : List (Nat × OSh) := []
noncomputable def K_zbu : RetK := { acts := [], res := [.tmp 6], sh := (.cons (.dat yi) .nil), obs := [], pins := [] }
noncomputable def D_zbu : FD := ⟨A_zbu, I_zbu, [], Int, fun x => F_zbu x.1.1.1 x.1.1.2.1 x.1.2.1 x.1.2.2.1, fun r => ([.dat yi r], [])⟩
noncomputable def E_zbu : Env := envOf [(139, D_zbz)]
noncomputable def Z_zbu : Nat → Nat → List Nat := fun r i => match look [(8, [(0, [7])])] r with
 | some l => (look l i).getD []
 | none => []
noncomputable def O_zbu : List (Nat × LD) := [(2, DL_zbu_2), (0, DL_zbu_0), (4, DL_zbu_4)]
noncomputable def C_zbu : Code := (f78.body).getD .skip
noncomputable def S_zbt_0 (k : Int × (Y1 × (Y2 × (Y1 × Y2)))) (v : Y1 × Int) : Tr ((Y1 × Int) ⊕ Y1) :=
 .t (decide (v.2 < ((List.length k.2.2.1 : Nat) : Int)))
 (.g (inR v.2 (List.length k.2.2.1)) <|
 .t (((List.length (List.getD k.2.2.1 (Int.toNat v.2) ([] : Y1)) : Nat) : Int) == k.1)
 (.t (((List.length v.1 : Nat) : Int) == (0 : Int))
 (.g (inR v.2 (List.length k.2.2.1)) <|
 .l (.inl ((List.getD k.2.2.1 (Int.toNat v.2) ([] : Y1)), (IntKind.wrap .i64 (v.2 + (1 : Int))))))
 (.g (inR v.2 (List.length k.2.2.1)) <|
 .c (Int) (F_zbu k.2.2.2.1 k.2.2.2.2 (List.getD k.2.2.1 (Int.toNat v.2) ([] : Y1)) k.2.1) fun r20_ =>
 .c (Int) (F_zbu k.2.2.2.1 k.2.2.2.2 v.1 k.2.1) fun r21_ =>
 .t (decide (r20_ < r21_))
 (.g (inR v.2 (List.length k.2.2.1)) <|
 .l (.inl ((List.getD k.2.2.1 (Int.toNat v.2) ([] : Y1)), (IntKind.wrap .i64 (v.2 + (1 : Int))))))
 (.l (.inl (v.1, (IntKind.wrap .i64 (v.2 + (1 : Int))))))))
 (.l (.inl (v.1, (IntKind.wrap .i64 (v.2 + (1 : Int)))))))
 (.l (.inr v.1))
noncomputable def L_zbt_0 (k : Int × (Y1 × (Y2 × (Y1 × Y2)))) (v : Y1 × Int) : Option Y1 := iter (fun v => (S_zbt_0 k v).ev) v
noncomputable def DL_zbt_0 : LD := ⟨{ acts := [.fz 11], S := { slots := [1, 2, 3, 8, 9, 10], sh := (.cons (.dat yi) (.cons (.dat y1) (.cons (.box 3 0) (.cons (.dat y1) (.cons (.dat y2) (.cons (.dat yi) .nil)))))), obs := [(3, .cells (.cons (.dat y1) (.cons (.dat y2) .nil)))] } }, [(0, (yh [8] (.cons (.dat y1) .nil)))], (yh [] .nil), Int × (Y1 × (Y2 × (Y1 × Y2))), Y1 × (Int), Y1, fun k v => ((k.1, (k.2.1, ((), (v.1, (k.2.2.1, (v.2, ())))))), ((k.2.2.2.1, (k.2.2.2.2, ())), ())), fun t => (t.1.1, (t.1.2.1, (t.1.2.2.2.2.1, (t.2.1.1, t.2.1.2.1)))), fun t => (t.1.2.2.2.1, t.1.2.2.2.2.2.1), S_zbt_0, fun _ r => .l (.exit 0 (mkSt ((ys [8] (.cons (.dat y1) .nil))) ((r, ()), ())))⟩
noncomputable def T_zbt (a1_ : Y1) (a2_ : List Y1) (a3_ : Int) (a4_ : Y1) : Tr (Y1 × (Bool)) :=
 .c (Bool) (F_zcd a1_ a2_ a3_) fun r1_ =>
 .t (!r1_)
 (.l (([] : Y1), false))
 (.c (Bool) (F_zca a4_ ((List.length a2_ : Nat) : Int) (99 : Int)) fun r2_ =>
 .t (!r2_)
 (.l (([] : Y1), false))
 (.c Y2 (F_zcb ((List.length a1_ : Nat) : Int)) fun r3_ =>
 .c Y1 (L_zbt_0 (a3_, (a4_, (r3_, (a1_, a2_)))) (([] : Y1), (0 : Int))) fun r23_ =>
 .l (r23_, true)))
noncomputable def F_zbt (a1_ : Y1) (a2_ : List Y1) (a3_ : Int) (a4_ : Y1) : Option (Y1 × (Bool)) := (T_zbt a1_ a2_ a3_ a4_).ev
noncomputable def A_zbt : Sh := (.cons (.agg (.cons (.dat y1) (.cons (.dat y2) .nil))) (.cons (.dat yi) (.cons (.dat y1) .nil)))
noncomputable def I_zbt : List (Nat × OSh) := []
noncomputable def K_zbt : RetK := { acts := [.fz 11], res := [.tmp 6, .tmp 7], sh := (.cons (.dat y1) (.cons (.dat .bool) .nil)), obs := [], pins := [] }
noncomputable def D_zbt : FD := ⟨A_zbt, I_zbt, [], Y1 × (Bool), fun x => F_zbt x.1.1.1 x.1.1.2.1 x.1.2.1 x.1.2.2.1, fun r => ([.dat y1 r.1, .dat .bool r.2], [])⟩
noncomputable def E_zbt : Env := envOf [(76, D_zcd), (77, D_zca), (64, D_zcb), (78, D_zbu)]
noncomputable def Z_zbt : Nat → Nat → List Nat := fun _ _ => []
noncomputable def O_zbt : List (Nat × LD) := [(0, DL_zbt_0)]
noncomputable def C_zbt : Code := (f24.body).getD .skip
noncomputable def T_zap (a1_ : List Y1) (a2_ : (HL [y1] → Option (Bool))) : Tr (Bool) :=
 .c (Int) (F_zas a1_ a2_) fun r1_ =>
 .l (decide ((0 : Int) ≤ r1_))
noncomputable def F_zap (a1_ : List Y1) (a2_ : (HL [y1] → Option (Bool))) : Option (Bool) := (T_zap a1_ a2_).ev
noncomputable def A_zap : Sh := (.cons (.dat y2) (.cons (.clo [y1] .bool) .nil))
noncomputable def I_zap : List (Nat × OSh) := []
noncomputable def K_zap : RetK := { acts := [], res := [.tmp 4], sh := (.cons (.dat .bool) .nil), obs := [], pins := [] }
noncomputable def D_zap : FD := ⟨A_zap, I_zap, [], Bool, fun x => F_zap x.1.1 x.1.2.1, fun r => ([.dat .bool r], [])⟩
noncomputable def E_zap : Env := envOf [(179, D_zas)]
noncomputable def Z_zap : Nat → Nat → List Nat := fun _ _ => []
noncomputable def O_zap : List (Nat × LD) := []
noncomputable def C_zap : Code := (f144.body).getD .skip
noncomputable def T_zk (a1_ : Y1) (a2_ : Y1) (_a3_ : List Y1) : Tr (Bool) :=
 .t (((List.length a1_ : Nat) : Int) != ((List.length a2_ : Nat) : Int))
 (.l true)
 (.c (Bool) (F_zn a1_ (0 : Int) (99 : Int)) fun r1_ =>
 .l (!r1_))
noncomputable def F_zk (a1_ : Y1) (a2_ : Y1) (a3_ : List Y1) : Option (Bool) := (T_zk a1_ a2_ a3_).ev
noncomputable def A_zk : Sh := (.cons (.dat y1) (.cons (.ptr (.cons (.dat y1) (.cons (.dat y2) .nil))) .nil))
noncomputable def I_zk : List (Nat × OSh) := []
noncomputable def K_zk : RetK := { acts := [], res := [.tmp 3], sh := (.cons (.dat .bool) .nil), obs := [], pins := [] }
noncomputable def D_zk : FD := ⟨A_zk, I_zk, [], Bool, fun x => F_zk x.1.1 x.1.2.1.1 x.1.2.1.2.1, fun r => ([.dat .bool r], [])⟩
noncomputable def E_zk : Env := envOf [(133, D_zn)]
noncomputable def Z_zk : Nat → Nat → List Nat := fun _ _ => []
noncomputable def O_zk : List (Nat × LD) := []
noncomputable def C_zk : Code := (f169.body).getD .skip
noncomputable def T_zj (a1_ : Y1) (a2_ : List Y1) : Tr (Bool) :=
 .c (Bool) (F_zr ((List.length a1_ : Nat) : Int) (1 : Int) (7 : Int)) fun r1_ =>
 .t r1_
 (.c (Bool) (F_zn a1_ (0 : Int) (99 : Int)) fun r2_ =>
 .t r2_
 (.t (decide (((List.length a2_ : Nat) : Int) ≤ (7 : Int)))
 (.c (Bool) (F_zap a2_ (fun h3_ => Option.bind (F_zk h3_.1 a1_ a2_) fun y4_ => some y4_)) fun r5_ =>
 .l (!r5_))
 (.l false))
 (.l false))
 (.l false)
noncomputable def F_zj (a1_ : Y1) (a2_ : List Y1) : Option (Bool) := (T_zj a1_ a2_).ev
noncomputable def A_zj : Sh := (.cons (.agg (.cons (.dat y1) (.cons (.dat y2) .nil))) .nil)
noncomputable def I_zj : List (Nat × OSh) := []
noncomputable def K_zj : RetK := { acts := [], res := [.tmp 2], sh := (.cons (.dat .bool) .nil), obs := [], pins := [] }
noncomputable def D_zj : FD := ⟨A_zj, I_zj, [], Bool, fun x => F_zj x.1.1.1 x.1.1.2.1, fun r => ([.dat .bool r], [])⟩
noncomputable def E_zj : Env := envOf [(67, D_zr), (133, D_zn), (144, D_zap), (144, D_zap), (169, D_zk)]
noncomputable def Z_zj : Nat → Nat → List Nat := fun _ _ => []
noncomputable def O_zj : List (Nat × LD) := []
noncomputable def C_zj : Code := (f115.body).getD .skip
noncomputable def T_zt (a1_ : Y1) (a2_ : List Y1) (a3_ : Int) : Tr (Bool) :=
 .c (Bool) (F_zj a1_ a2_) fun r1_ =>
 .t r1_
 (.c (Bool) (F_zr a3_ (1 : Int) ((List.length a1_ : Nat) : Int)) fun r2_ =>
 .l r2_)
 (.l false)
noncomputable def F_zt (a1_ : Y1) (a2_ : List Y1) (a3_ : Int) : Option (Bool) := (T_zt a1_ a2_ a3_).ev
noncomputable def A_zt : Sh := (.cons (.agg (.cons (.dat y1) (.cons (.dat y2) .nil))) (.cons (.dat yi) .nil))
noncomputable def I_zt : List (Nat × OSh) := []
noncomputable def K_zt : RetK := { acts := [], res := [.tmp 4], sh := (.cons (.dat .bool) .nil), obs := [], pins := [] }
noncomputable def D_zt : FD := ⟨A_zt, I_zt, [], Bool, fun x => F_zt x.1.1.1 x.1.1.2.1 x.1.2.1, fun r => ([.dat .bool r], [])⟩
noncomputable def E_zt : Env := envOf [(115, D_zj), (67, D_zr)]
noncomputable def Z_zt : Nat → Nat → List Nat := fun _ _ => []
noncomputable def O_zt : List (Nat × LD) := []
noncomputable def C_zt : Code := (f79.body).getD .skip
noncomputable def T_ze (_a1_ : Y1) (a2_ : List Y1) (a3_ : Y1) : Tr (Bool) :=
 .t (((List.length a3_ : Nat) : Int) == ((List.length a2_ : Nat) : Int))
 (.c (Bool) (F_zn a3_ (0 : Int) (99 : Int)) fun r1_ =>
 .l r1_)
 (.l false)
noncomputable def F_ze (a1_ : Y1) (a2_ : List Y1) (a3_ : Y1) : Option (Bool) := (T_ze a1_ a2_ a3_).ev
noncomputable def A_ze : Sh := (.cons (.agg (.cons (.dat y1) (.cons (.dat y2) .nil))) (.cons (.dat y1) .nil))
noncomputable def I_ze : List (Nat × OSh) := []
noncomputable def K_ze : RetK := { acts := [], res := [.tmp 4], sh := (.cons (.dat .bool) .nil), obs := [], pins := [] }
noncomputable def D_ze : FD := ⟨A_ze, I_ze, [], Bool, fun x => F_ze x.1.1.1 x.1.1.2.1 x.1.2.1, fun r => ([.dat .bool r], [])⟩
noncomputable def E_ze : Env := envOf [(133, D_zn)]
noncomputable def Z_ze : Nat → Nat → List Nat := fun _ _ => []
noncomputable def O_ze : List (Nat × LD) := []
noncomputable def C_ze : Code := (f80.body).getD .skip
noncomputable def S_zi_0 (k : Int × (Y1 × (Int × (Y1 × Y2)))) (v : Int × Int) : Tr ((Int × Int) ⊕ (Int)) :=
 .t (decide (v.2 < k.2.2.1))
 (.g (inR v.2 (List.length k.2.1)) <|
 .g (inR k.1 (List.length k.2.2.2.2)) <|
 .g (inR (List.getD k.2.1 (Int.toNat v.2) (0 : Int)) (List.length (List.getD k.2.2.2.2 (Int.toNat k.1) ([] : Y1)))) <|
 .g (inR k.1 (List.length k.2.2.2.2)) <|
 .g (inR v.1 (List.length (List.getD k.2.2.2.2 (Int.toNat k.1) ([] : Y1)))) <|
 .t (decide ((List.getD (List.getD k.2.2.2.2 (Int.toNat k.1) ([] : Y1)) (Int.toNat (List.getD k.2.1 (Int.toNat v.2) (0 : Int))) (0 : Int)) < (List.getD (List.getD k.2.2.2.2 (Int.toNat k.1) ([] : Y1)) (Int.toNat v.1) (0 : Int))))
 (.l (.inl ((List.getD k.2.1 (Int.toNat v.2) (0 : Int)), (IntKind.wrap .i64 (v.2 + (1 : Int))))))
 (.l (.inl (v.1, (IntKind.wrap .i64 (v.2 + (1 : Int)))))))
 (.l (.inr v.1))
noncomputable def L_zi_0 (k : Int × (Y1 × (Int × (Y1 × Y2)))) (v : Int × Int) : Option (Int) := iter (fun v => (S_zi_0 k v).ev) v
noncomputable def DL_zi_0 : LD := ⟨{ acts := [], S := { slots := [1, 3, 7, 13, 14, 15], sh := (.cons (.dat yi) (.cons (.box 3 0) (.cons (.dat yi) (.cons (.dat y1) (.cons (.dat yi) (.cons (.dat yi) .nil)))))), obs := [(3, .cells (.cons (.dat y1) (.cons (.dat y2) .nil)))] } }, [(0, (yh [7] (.cons (.dat yi) .nil)))], (yh [] .nil), Int × (Y1 × (Int × (Y1 × Y2))), Int × (Int), Int, fun k v => ((k.1, ((), (v.1, (k.2.1, (k.2.2.1, (v.2, ())))))), ((k.2.2.2.1, (k.2.2.2.2, ())), ())), fun t => (t.1.1, (t.1.2.2.2.1, (t.1.2.2.2.2.1, (t.2.1.1, t.2.1.2.1)))), fun t => (t.1.2.2.1, t.1.2.2.2.2.2.1), S_zi_0, fun _ r => .l (.exit 0 (mkSt ((ys [7] (.cons (.dat yi) .nil))) ((r, ()), ())))⟩
noncomputable def T_zi (a1_ : Y1) (a2_ : List Y1) (a3_ : Int) (a4_ : Y1) : Tr (Int) :=
 .g (inR (0 : Int) (List.length a4_)) <|
 .c (Int) (L_zi_0 (a3_, (a4_, (((List.length a4_ : Nat) : Int), (a1_, a2_)))) ((List.getD a4_ (Int.toNat (0 : Int)) (0 : Int)), (0 : Int))) fun r9_ =>
 .l r9_
noncomputable def F_zi (a1_ : Y1) (a2_ : List Y1) (a3_ : Int) (a4_ : Y1) : Option (Int) := (T_zi a1_ a2_ a3_ a4_).ev
noncomputable def A_zi : Sh := (.cons (.agg (.cons (.dat y1) (.cons (.dat y2) .nil))) (.cons (.dat yi) (.cons (.dat y1) .nil)))
noncomputable def I_zi : List (Nat × OSh) := []
noncomputable def K_zi : RetK := { acts := [], res := [.tmp 6], sh := (.cons (.dat yi) .nil), obs := [], pins := [] }
noncomputable def D_zi : FD := ⟨A_zi, I_zi, [], Int, fun x => F_zi x.1.1.1 x.1.1.2.1 x.1.2.1 x.1.2.2.1, fun r => ([.dat yi r], [])⟩
noncomputable def E_zi : Env := envOf []
noncomputable def Z_zi : Nat → Nat → List Nat := fun _ _ => []
noncomputable def O_zi : List (Nat × LD) := [(0, DL_zi_0)]
noncomputable def C_zi : Code := (f205.body).getD .skip
noncomputable def S_zh_0 (k : Y1 × (Int × (Y1 × Y2))) (v : Int × Y1) : Tr ((Int × Y1) ⊕ Y1) :=
 .t (decide (v.1 < k.2.1))
 (.c (Int) (F_zi k.2.2.1 k.2.2.2 v.1 k.1) fun r7_ =>
 .g (decide ((List.length v.2 + List.length ([r7_] : Y1)) * 8 ≤ 140737488355328)) <|
 .l (.inl ((IntKind.wrap .i64 (v.1 + (1 : Int))), (v.2 ++ ([r7_] : Y1)))))
 (.l (.inr v.2))
noncomputable def L_zh_0 (k : Y1 × (Int × (Y1 × Y2))) (v : Int × Y1) : Option Y1 := iter (fun v => (S_zh_0 k v).ev) v
noncomputable def DL_zh_0 : LD := ⟨{ acts := [], S := { slots := [1, 2, 5, 10, 11], sh := (.cons (.dat y1) (.cons (.box 2 0) (.cons (.arr 7) (.cons (.dat yi) (.cons (.dat yi) .nil))))), obs := [(2, .cells (.cons (.dat y1) (.cons (.dat y2) .nil))), (7, .arr 3 yi)] } }, [(0, { acts := [], S := { slots := [5], sh := (.cons (.arr 7) .nil), obs := [(7, .arr 3 yi)] } })], (yh [] .nil), Y1 × (Int × (Y1 × Y2)), Int × Y1, Y1, fun k v => ((k.1, ((), ((), (k.2.1, (v.1, ()))))), ((k.2.2.1, (k.2.2.2, ())), (v.2, ()))), fun t => (t.1.1, (t.1.2.2.2.1, (t.2.1.1, t.2.1.2.1))), fun t => (t.1.2.2.2.2.1, t.2.2.1), S_zh_0, fun _ r => .l (.exit 0 (mkSt ({ slots := [5], sh := (.cons (.arr 7) .nil), obs := [(7, .arr 3 yi)] }) (((), ()), (r, ()))))⟩
noncomputable def T_zh (a1_ : Y1) (a2_ : List Y1) (a3_ : Y1) : Tr Y1 :=
 .c Y1 (L_zh_0 (a3_, (((List.length a2_ : Nat) : Int), (a1_, a2_))) ((0 : Int), ([] : Y1))) fun r9_ =>
 .l r9_
noncomputable def F_zh (a1_ : Y1) (a2_ : List Y1) (a3_ : Y1) : Option Y1 := (T_zh a1_ a2_ a3_).ev
noncomputable def A_zh : Sh := (.cons (.agg (.cons (.dat y1) (.cons (.dat y2) .nil))) (.cons (.dat y1) .nil))
noncomputable def I_zh : List (Nat × OSh) := []
noncomputable def K_zh : RetK := { acts := [.ren 7 0], res := [.tmp 4], sh := (.cons (.arr 0) .nil), obs := [(0, .arr 3 yi)], pins := [] }
noncomputable def D_zh : FD := ⟨A_zh, I_zh, [], Y1, fun x => F_zh x.1.1.1 x.1.1.2.1 x.1.2.1, fun r => ([.arr 0], [(0, .arr 3 yi r)])⟩
noncomputable def E_zh : Env := envOf [(205, D_zi)]
noncomputable def Z_zh : Nat → Nat → List Nat := fun _ _ => []
noncomputable def O_zh : List (Nat × LD) := [(0, DL_zh_0)]
noncomputable def C_zh : Code := (f184.body).getD .skip
noncomputable def S_zf_0 (k : Int × (Y1 × (Y2 × Y1))) (v : Int × Y1) : Tr ((Int × Y1) ⊕ Y1) :=
 .t (decide (v.1 < k.1))
 (.g (inR v.1 (List.length k.2.2.2)) <|
 .g (decide ((Int.toNat v.1) < List.length k.2.2.2)) <|
 .g (inR v.1 (List.length k.2.2.1)) <|
 .g (inR (List.getD k.2.2.2 (Int.toNat v.1) (0 : Int)) (List.length (List.getD k.2.2.1 (Int.toNat v.1) ([] : Y1)))) <|
 .g (decide ((List.length v.2 + List.length ([(List.getD (List.getD k.2.2.1 (Int.toNat v.1) ([] : Y1)) (Int.toNat (List.getD k.2.2.2 (Int.toNat v.1) (0 : Int))) (0 : Int))] : Y1)) * 8 ≤ 140737488355328)) <|
 .l (.inl ((IntKind.wrap .i64 (v.1 + (1 : Int))), (v.2 ++ ([(List.getD (List.getD k.2.2.1 (Int.toNat v.1) ([] : Y1)) (Int.toNat (List.getD k.2.2.2 (Int.toNat v.1) (0 : Int))) (0 : Int))] : Y1)))))
 (.l (.inr v.2))
noncomputable def L_zf_0 (k : Int × (Y1 × (Y2 × Y1))) (v : Int × Y1) : Option Y1 := iter (fun v => (S_zf_0 k v).ev) v
noncomputable def DL_zf_0 : LD := ⟨{ acts := [], S := { slots := [2, 5, 11, 12, 13], sh := (.cons (.box 2 0) (.cons (.arr 8) (.cons (.arr 704) (.cons (.dat yi) (.cons (.dat yi) .nil))))), obs := [(2, .cells (.cons (.dat y1) (.cons (.dat y2) .nil))), (8, .arr 3 yi), (704, .arr 3 yi)] } }, [(0, { acts := [], S := { slots := [5], sh := (.cons (.arr 8) .nil), obs := [(8, .arr 3 yi)] } })], (yh [] .nil), Int × (Y1 × (Y2 × Y1)), Int × Y1, Y1, fun k v => (((), ((), ((), (k.1, (v.1, ()))))), ((k.2.1, (k.2.2.1, ())), (v.2, (k.2.2.2, ())))), fun t => (t.1.2.2.2.1, (t.2.1.1, (t.2.1.2.1, t.2.2.2.1))), fun t => (t.1.2.2.2.2.1, t.2.2.1), S_zf_0, fun _ r => .l (.exit 0 (mkSt ({ slots := [5], sh := (.cons (.arr 8) .nil), obs := [(8, .arr 3 yi)] }) (((), ()), (r, ()))))⟩
noncomputable def T_zf (a1_ : Y1) (a2_ : List Y1) (a3_ : Y1) : Tr Y1 :=
 .c Y1 (F_zh a1_ a2_ a3_) fun r1_ =>
 .c Y1 (L_zf_0 (((List.length r1_ : Nat) : Int), (a1_, (a2_, r1_))) ((0 : Int), ([] : Y1))) fun r9_ =>
 .l r9_
noncomputable def F_zf (a1_ : Y1) (a2_ : List Y1) (a3_ : Y1) : Option Y1 := (T_zf a1_ a2_ a3_).ev
noncomputable def A_zf : Sh := (.cons (.agg (.cons (.dat y1) (.cons (.dat y2) .nil))) (.cons (.dat y1) .nil))
noncomputable def I_zf : List (Nat × OSh) := []
noncomputable def K_zf : RetK := { acts := [.ren 8 0], res := [.tmp 4], sh := (.cons (.arr 0) .nil), obs := [(0, .arr 3 yi)], pins := [] }
noncomputable def D_zf : FD := ⟨A_zf, I_zf, [], Y1, fun x => F_zf x.1.1.1 x.1.1.2.1 x.1.2.1, fun r => ([.arr 0], [(0, .arr 3 yi r)])⟩
noncomputable def E_zf : Env := envOf [(184, D_zh)]
noncomputable def Z_zf : Nat → Nat → List Nat := fun _ _ => []
noncomputable def O_zf : List (Nat × LD) := [(0, DL_zf_0)]
noncomputable def C_zf : Code := (f140.body).getD .skip
noncomputable def T_zb (a1_ : Int) (a2_ : Int) : Tr (Bool) :=
 .c (Bool) (F_zd a1_) fun r1_ =>
 .t r1_
 (.c (Bool) (F_zd a2_) fun r2_ =>
 .t (!r2_)
 (.l true)
 (.l (decide (a1_ < a2_))))
 (.l (decide (a1_ < a2_)))
noncomputable def F_zb (a1_ : Int) (a2_ : Int) : Option (Bool) := (T_zb a1_ a2_).ev
noncomputable def A_zb : Sh := (.cons (.dat yi) (.cons (.dat yi) .nil))
noncomputable def I_zb : List (Nat × OSh) := []
noncomputable def K_zb : RetK := { acts := [], res := [.tmp 4], sh := (.cons (.dat .bool) .nil), obs := [], pins := [] }
noncomputable def D_zb : FD := ⟨A_zb, I_zb, [], Bool, fun x => F_zb x.1.1 x.1.2.1, fun r => ([.dat .bool r], [])⟩
noncomputable def E_zb : Env := envOf [(195, D_zd)]
noncomputable def Z_zb : Nat → Nat → List Nat := fun _ _ => []
noncomputable def O_zb : List (Nat × LD) := []
noncomputable def C_zb : Code := (f212.body).getD .skip
noncomputable def S_zbc_2 (k : Int × (Int × Int)) (v : Int × Y1) : Tr ((Int × Y1) ⊕ Y1) :=
 .t (decide (k.1 < v.1))
 (.g (inR v.1 (List.length v.2)) <|
 .g (decide ((Int.toNat v.1) < List.length v.2)) <|
 .g (inR (IntKind.wrap .i64 (v.1 - (1 : Int))) (List.length v.2)) <|
 .g (decide ((Int.toNat (IntKind.wrap .i64 (v.1 - (1 : Int)))) < List.length v.2)) <|
 .c (Bool) (F_zb (List.getD v.2 (Int.toNat v.1) (0 : Int)) (List.getD v.2 (Int.toNat (IntKind.wrap .i64 (v.1 - (1 : Int)))) (0 : Int))) fun r10_ =>
 .t r10_
 (.g (inR (IntKind.wrap .i64 (v.1 - (1 : Int))) (List.length v.2)) <|
 .g (decide ((Int.toNat (IntKind.wrap .i64 (v.1 - (1 : Int)))) < List.length v.2)) <|
 .g (inR v.1 (List.length v.2)) <|
 .g (decide ((Int.toNat v.1) < List.length v.2)) <|
 .g (inR v.1 (List.length v.2)) <|
 .g (decide ((Int.toNat v.1) < List.length v.2)) <|
 .g (inR (IntKind.wrap .i64 (v.1 - (1 : Int))) (List.length (List.set v.2 (Int.toNat v.1) (List.getD v.2 (Int.toNat (IntKind.wrap .i64 (v.1 - (1 : Int)))) (0 : Int))))) <|
 .g (decide ((Int.toNat (IntKind.wrap .i64 (v.1 - (1 : Int)))) < List.length (List.set v.2 (Int.toNat v.1) (List.getD v.2 (Int.toNat (IntKind.wrap .i64 (v.1 - (1 : Int)))) (0 : Int))))) <|
 .l (.inl ((IntKind.wrap .i64 (v.1 - (1 : Int))), (List.set (List.set v.2 (Int.toNat v.1) (List.getD v.2 (Int.toNat (IntKind.wrap .i64 (v.1 - (1 : Int)))) (0 : Int))) (Int.toNat (IntKind.wrap .i64 (v.1 - (1 : Int)))) (List.getD v.2 (Int.toNat v.1) (0 : Int))))))
 (.l (.inr v.2)))
 (.l (.inr v.2))
noncomputable def L_zbc_2 (k : Int × (Int × Int)) (v : Int × Y1) : Option Y1 := iter (fun v => (S_zbc_2 k v).ev) v
noncomputable def DL_zbc_2 : LD := ⟨{ acts := [], S := { slots := [0, 1, 2, 6, 7], sh := (.cons (.arr 64) (.cons (.dat yi) (.cons (.dat yi) (.cons (.dat yi) (.cons (.dat yi) .nil))))), obs := [(64, .arr 3 yi)] } }, [(2, { acts := [], S := { slots := [0, 1, 2, 6], sh := (.cons (.arr 64) (.cons (.dat yi) (.cons (.dat yi) (.cons (.dat yi) .nil)))), obs := [(64, .arr 3 yi)] } })], (yh [] .nil), Int × (Int × Int), Int × Y1, Y1, fun k v => (((), (k.1, (k.2.1, (k.2.2, (v.1, ()))))), (v.2, ())), fun t => (t.1.2.1, (t.1.2.2.1, t.1.2.2.2.1)), fun t => (t.1.2.2.2.2.1, t.2.1), S_zbc_2, fun k r => .l (.exit 2 (mkSt ({ slots := [0, 1, 2, 6], sh := (.cons (.arr 64) (.cons (.dat yi) (.cons (.dat yi) (.cons (.dat yi) .nil)))), obs := [(64, .arr 3 yi)] }) (((), (k.1, (k.2.1, (k.2.2, ())))), (r, ()))))⟩
noncomputable def S_zbc_0 (k : Int × Int) (v : Int × Y1) : Tr ((Int × Y1) ⊕ Y1) :=
 .t (decide (v.1 < k.2))
 (.c Y1 (L_zbc_2 (k.1, (k.2, v.1)) (v.1, v.2)) fun r15_ =>
 .l (.inl ((IntKind.wrap .i64 (v.1 + (1 : Int))), r15_)))
 (.l (.inr v.2))
noncomputable def L_zbc_0 (k : Int × Int) (v : Int × Y1) : Option Y1 := iter (fun v => (S_zbc_0 k v).ev) v
noncomputable def DL_zbc_0 : LD := ⟨{ acts := [], S := { slots := [0, 1, 2, 6], sh := (.cons (.arr 64) (.cons (.dat yi) (.cons (.dat yi) (.cons (.dat yi) .nil)))), obs := [(64, .arr 3 yi)] } }, [(0, { acts := [], S := { slots := [0], sh := (.cons (.arr 64) .nil), obs := [(64, .arr 3 yi)] } })], (yh [] .nil), Int × (Int), Int × Y1, Y1, fun k v => (((), (k.1, (k.2, (v.1, ())))), (v.2, ())), fun t => (t.1.2.1, t.1.2.2.1), fun t => (t.1.2.2.2.1, t.2.1), S_zbc_0, fun _ r => .l (.exit 0 (mkSt ({ slots := [0], sh := (.cons (.arr 64) .nil), obs := [(64, .arr 3 yi)] }) (((), ()), (r, ()))))⟩
noncomputable def T_zbc (a2_ : Int) (a3_ : Int) (a1_ : Y1) : Tr Y1 :=
 .c Y1 (L_zbc_0 (a2_, a3_) ((IntKind.wrap .i64 (a2_ + (1 : Int))), a1_)) fun r17_ =>
 .l r17_
noncomputable def F_zbc (a2_ : Int) (a3_ : Int) (a1_ : Y1) : Option Y1 := (T_zbc a2_ a3_ a1_).ev
noncomputable def A_zbc : Sh := (.cons (.arr 64) (.cons (.dat yi) (.cons (.dat yi) .nil)))
noncomputable def I_zbc : List (Nat × OSh) := [(64, .arr 3 yi)]
noncomputable def K_zbc : RetK := { acts := [], res := [], sh := .nil, obs := [(64, .arr 3 yi)], pins := [(0, 0, 64)] }
noncomputable def D_zbc : FD := ⟨A_zbc, I_zbc, [.arg 0], Y1, fun x => F_zbc x.1.2.1 x.1.2.2.1 x.2.1, fun r => ([], [(64, .arr 3 yi r)])⟩
noncomputable def E_zbc : Env := envOf [(212, D_zb)]
noncomputable def Z_zbc : Nat → Nat → List Nat := fun _ _ => []
noncomputable def O_zbc : List (Nat × LD) := [(2, DL_zbc_2), (0, DL_zbc_0)]
noncomputable def C_zbc : Code := (f206.body).getD .skip
noncomputable def S_zbr_0 (k : Int × Int) (v : Int × Y1) : Tr ((Int × Y1) ⊕ (Y1 ⊕ Y1)) :=
 .t (decide (k.1 ≤ (IntKind.wrap .i64 ((IntKind.wrap .i64 ((2 : Int) * v.1)) + (1 : Int)))))
 (.l (.inr (.inl v.2)))
 (.t (decide ((IntKind.wrap .i64 ((IntKind.wrap .i64 ((IntKind.wrap .i64 ((2 : Int) * v.1)) + (1 : Int))) + (1 : Int))) < k.1))
 (.g (inR (IntKind.wrap .i64 (k.2 + (IntKind.wrap .i64 ((IntKind.wrap .i64 ((2 : Int) * v.1)) + (1 : Int))))) (List.length v.2)) <|
 .g (decide ((Int.toNat (IntKind.wrap .i64 (k.2 + (IntKind.wrap .i64 ((IntKind.wrap .i64 ((2 : Int) * v.1)) + (1 : Int)))))) < List.length v.2)) <|
 .g (inR (IntKind.wrap .i64 ((IntKind.wrap .i64 (k.2 + (IntKind.wrap .i64 ((IntKind.wrap .i64 ((2 : Int) * v.1)) + (1 : Int))))) + (1 : Int))) (List.length v.2)) <|
 .g (decide ((Int.toNat (IntKind.wrap .i64 ((IntKind.wrap .i64 (k.2 + (IntKind.wrap .i64 ((IntKind.wrap .i64 ((2 : Int) * v.1)) + (1 : Int))))) + (1 : Int)))) < List.length v.2)) <|
 .c (Bool) (F_zb (List.getD v.2 (Int.toNat (IntKind.wrap .i64 (k.2 + (IntKind.wrap .i64 ((IntKind.wrap .i64 ((2 : Int) * v.1)) + (1 : Int)))))) (0 : Int)) (List.getD v.2 (Int.toNat (IntKind.wrap .i64 ((IntKind.wrap .i64 (k.2 + (IntKind.wrap .i64 ((IntKind.wrap .i64 ((2 : Int) * v.1)) + (1 : Int))))) + (1 : Int)))) (0 : Int))) fun r5_ =>
 .t r5_
 (.g (inR (IntKind.wrap .i64 (k.2 + v.1)) (List.length v.2)) <|
 .g (decide ((Int.toNat (IntKind.wrap .i64 (k.2 + v.1))) < List.length v.2)) <|
 .g (inR (IntKind.wrap .i64 (k.2 + (IntKind.wrap .i64 ((IntKind.wrap .i64 ((IntKind.wrap .i64 ((2 : Int) * v.1)) + (1 : Int))) + (1 : Int))))) (List.length v.2)) <|
 .g (decide ((Int.toNat (IntKind.wrap .i64 (k.2 + (IntKind.wrap .i64 ((IntKind.wrap .i64 ((IntKind.wrap .i64 ((2 : Int) * v.1)) + (1 : Int))) + (1 : Int)))))) < List.length v.2)) <|
 .c (Bool) (F_zb (List.getD v.2 (Int.toNat (IntKind.wrap .i64 (k.2 + v.1))) (0 : Int)) (List.getD v.2 (Int.toNat (IntKind.wrap .i64 (k.2 + (IntKind.wrap .i64 ((IntKind.wrap .i64 ((IntKind.wrap .i64 ((2 : Int) * v.1)) + (1 : Int))) + (1 : Int)))))) (0 : Int))) fun r6_ =>
 .t (!r6_)
 (.l (.inr (.inr v.2)))
 (.g (inR (IntKind.wrap .i64 (k.2 + (IntKind.wrap .i64 ((IntKind.wrap .i64 ((IntKind.wrap .i64 ((2 : Int) * v.1)) + (1 : Int))) + (1 : Int))))) (List.length v.2)) <|
 .g (decide ((Int.toNat (IntKind.wrap .i64 (k.2 + (IntKind.wrap .i64 ((IntKind.wrap .i64 ((IntKind.wrap .i64 ((2 : Int) * v.1)) + (1 : Int))) + (1 : Int)))))) < List.length v.2)) <|
 .g (inR (IntKind.wrap .i64 (k.2 + v.1)) (List.length v.2)) <|
 .g (decide ((Int.toNat (IntKind.wrap .i64 (k.2 + v.1))) < List.length v.2)) <|
 .g (inR (IntKind.wrap .i64 (k.2 + v.1)) (List.length v.2)) <|
 .g (decide ((Int.toNat (IntKind.wrap .i64 (k.2 + v.1))) < List.length v.2)) <|
 .g (inR (IntKind.wrap .i64 (k.2 + (IntKind.wrap .i64 ((IntKind.wrap .i64 ((IntKind.wrap .i64 ((2 : Int) * v.1)) + (1 : Int))) + (1 : Int))))) (List.length (List.set v.2 (Int.toNat (IntKind.wrap .i64 (k.2 + v.1))) (List.getD v.2 (Int.toNat (IntKind.wrap .i64 (k.2 + (IntKind.wrap .i64 ((IntKind.wrap .i64 ((IntKind.wrap .i64 ((2 : Int) * v.1)) + (1 : Int))) + (1 : Int)))))) (0 : Int))))) <|
 .g (decide ((Int.toNat (IntKind.wrap .i64 (k.2 + (IntKind.wrap .i64 ((IntKind.wrap .i64 ((IntKind.wrap .i64 ((2 : Int) * v.1)) + (1 : Int))) + (1 : Int)))))) < List.length (List.set v.2 (Int.toNat (IntKind.wrap .i64 (k.2 + v.1))) (List.getD v.2 (Int.toNat (IntKind.wrap .i64 (k.2 + (IntKind.wrap .i64 ((IntKind.wrap .i64 ((IntKind.wrap .i64 ((2 : Int) * v.1)) + (1 : Int))) + (1 : Int)))))) (0 : Int))))) <|
 .l (.inl ((IntKind.wrap .i64 ((IntKind.wrap .i64 ((IntKind.wrap .i64 ((2 : Int) * v.1)) + (1 : Int))) + (1 : Int))), (List.set (List.set v.2 (Int.toNat (IntKind.wrap .i64 (k.2 + v.1))) (List.getD v.2 (Int.toNat (IntKind.wrap .i64 (k.2 + (IntKind.wrap .i64 ((IntKind.wrap .i64 ((IntKind.wrap .i64 ((2 : Int) * v.1)) + (1 : Int))) + (1 : Int)))))) (0 : Int))) (Int.toNat (IntKind.wrap .i64 (k.2 + (IntKind.wrap .i64 ((IntKind.wrap .i64 ((IntKind.wrap .i64 ((2 : Int) * v.1)) + (1 : Int))) + (1 : Int)))))) (List.getD v.2 (Int.toNat (IntKind.wrap .i64 (k.2 + v.1))) (0 : Int)))))))
 (.g (inR (IntKind.wrap .i64 (k.2 + v.1)) (List.length v.2)) <|
 .g (decide ((Int.toNat (IntKind.wrap .i64 (k.2 + v.1))) < List.length v.2)) <|
 .g (inR (IntKind.wrap .i64 (k.2 + (IntKind.wrap .i64 ((IntKind.wrap .i64 ((2 : Int) * v.1)) + (1 : Int))))) (List.length v.2)) <|
 .g (decide ((Int.toNat (IntKind.wrap .i64 (k.2 + (IntKind.wrap .i64 ((IntKind.wrap .i64 ((2 : Int) * v.1)) + (1 : Int)))))) < List.length v.2)) <|
 .c (Bool) (F_zb (List.getD v.2 (Int.toNat (IntKind.wrap .i64 (k.2 + v.1))) (0 : Int)) (List.getD v.2 (Int.toNat (IntKind.wrap .i64 (k.2 + (IntKind.wrap .i64 ((IntKind.wrap .i64 ((2 : Int) * v.1)) + (1 : Int)))))) (0 : Int))) fun r7_ =>
 .t (!r7_)
 (.l (.inr (.inr v.2)))
 (.g (inR (IntKind.wrap .i64 (k.2 + (IntKind.wrap .i64 ((IntKind.wrap .i64 ((2 : Int) * v.1)) + (1 : Int))))) (List.length v.2)) <|
 .g (decide ((Int.toNat (IntKind.wrap .i64 (k.2 + (IntKind.wrap .i64 ((IntKind.wrap .i64 ((2 : Int) * v.1)) + (1 : Int)))))) < List.length v.2)) <|
 .g (inR (IntKind.wrap .i64 (k.2 + v.1)) (List.length v.2)) <|
 .g (decide ((Int.toNat (IntKind.wrap .i64 (k.2 + v.1))) < List.length v.2)) <|
 .g (inR (IntKind.wrap .i64 (k.2 + v.1)) (List.length v.2)) <|
 .g (decide ((Int.toNat (IntKind.wrap .i64 (k.2 + v.1))) < List.length v.2)) <|
 .g (inR (IntKind.wrap .i64 (k.2 + (IntKind.wrap .i64 ((IntKind.wrap .i64 ((2 : Int) * v.1)) + (1 : Int))))) (List.length (List.set v.2 (Int.toNat (IntKind.wrap .i64 (k.2 + v.1))) (List.getD v.2 (Int.toNat (IntKind.wrap .i64 (k.2 + (IntKind.wrap .i64 ((IntKind.wrap .i64 ((2 : Int) * v.1)) + (1 : Int)))))) (0 : Int))))) <|
 .g (decide ((Int.toNat (IntKind.wrap .i64 (k.2 + (IntKind.wrap .i64 ((IntKind.wrap .i64 ((2 : Int) * v.1)) + (1 : Int)))))) < List.length (List.set v.2 (Int.toNat (IntKind.wrap .i64 (k.2 + v.1))) (List.getD v.2 (Int.toNat (IntKind.wrap .i64 (k.2 + (IntKind.wrap .i64 ((IntKind.wrap .i64 ((2 : Int) * v.1)) + (1 : Int)))))) (0 : Int))))) <|
 .l (.inl ((IntKind.wrap .i64 ((IntKind.wrap .i64 ((2 : Int) * v.1)) + (1 : Int))), (List.set (List.set v.2 (Int.toNat (IntKind.wrap .i64 (k.2 + v.1))) (List.getD v.2 (Int.toNat (IntKind.wrap .i64 (k.2 + (IntKind.wrap .i64 ((IntKind.wrap .i64 ((2 : Int) * v.1)) + (1 : Int)))))) (0 : Int))) (Int.toNat (IntKind.wrap .i64 (k.2 + (IntKind.wrap .i64 ((IntKind.wrap .i64 ((2 : Int) * v.1)) + (1 : Int)))))) (List.getD v.2 (Int.toNat (IntKind.wrap .i64 (k.2 + v.1))) (0 : Int))))))))
 (.g (inR (IntKind.wrap .i64 (k.2 + v.1)) (List.length v.2)) <|
 .g (decide ((Int.toNat (IntKind.wrap .i64 (k.2 + v.1))) < List.length v.2)) <|
 .g (inR (IntKind.wrap .i64 (k.2 + (IntKind.wrap .i64 ((IntKind.wrap .i64 ((2 : Int) * v.1)) + (1 : Int))))) (List.length v.2)) <|
 .g (decide ((Int.toNat (IntKind.wrap .i64 (k.2 + (IntKind.wrap .i64 ((IntKind.wrap .i64 ((2 : Int) * v.1)) + (1 : Int)))))) < List.length v.2)) <|
 .c (Bool) (F_zb (List.getD v.2 (Int.toNat (IntKind.wrap .i64 (k.2 + v.1))) (0 : Int)) (List.getD v.2 (Int.toNat (IntKind.wrap .i64 (k.2 + (IntKind.wrap .i64 ((IntKind.wrap .i64 ((2 : Int) * v.1)) + (1 : Int)))))) (0 : Int))) fun r8_ =>
 .t (!r8_)
 (.l (.inr (.inr v.2)))
 (.g (inR (IntKind.wrap .i64 (k.2 + (IntKind.wrap .i64 ((IntKind.wrap .i64 ((2 : Int) * v.1)) + (1 : Int))))) (List.length v.2)) <|
 .g (decide ((Int.toNat (IntKind.wrap .i64 (k.2 + (IntKind.wrap .i64 ((IntKind.wrap .i64 ((2 : Int) * v.1)) + (1 : Int)))))) < List.length v.2)) <|
 .g (inR (IntKind.wrap .i64 (k.2 + v.1)) (List.length v.2)) <|
 .g (decide ((Int.toNat (IntKind.wrap .i64 (k.2 + v.1))) < List.length v.2)) <|
 .g (inR (IntKind.wrap .i64 (k.2 + v.1)) (List.length v.2)) <|
 .g (decide ((Int.toNat (IntKind.wrap .i64 (k.2 + v.1))) < List.length v.2)) <|
 .g (inR (IntKind.wrap .i64 (k.2 + (IntKind.wrap .i64 ((IntKind.wrap .i64 ((2 : Int) * v.1)) + (1 : Int))))) (List.length (List.set v.2 (Int.toNat (IntKind.wrap .i64 (k.2 + v.1))) (List.getD v.2 (Int.toNat (IntKind.wrap .i64 (k.2 + (IntKind.wrap .i64 ((IntKind.wrap .i64 ((2 : Int) * v.1)) + (1 : Int)))))) (0 : Int))))) <|
 .g (decide ((Int.toNat (IntKind.wrap .i64 (k.2 + (IntKind.wrap .i64 ((IntKind.wrap .i64 ((2 : Int) * v.1)) + (1 : Int)))))) < List.length (List.set v.2 (Int.toNat (IntKind.wrap .i64 (k.2 + v.1))) (List.getD v.2 (Int.toNat (IntKind.wrap .i64 (k.2 + (IntKind.wrap .i64 ((IntKind.wrap .i64 ((2 : Int) * v.1)) + (1 : Int)))))) (0 : Int))))) <|
 .l (.inl ((IntKind.wrap .i64 ((IntKind.wrap .i64 ((2 : Int) * v.1)) + (1 : Int))), (List.set (List.set v.2 (Int.toNat (IntKind.wrap .i64 (k.2 + v.1))) (List.getD v.2 (Int.toNat (IntKind.wrap .i64 (k.2 + (IntKind.wrap .i64 ((IntKind.wrap .i64 ((2 : Int) * v.1)) + (1 : Int)))))) (0 : Int))) (Int.toNat (IntKind.wrap .i64 (k.2 + (IntKind.wrap .i64 ((IntKind.wrap .i64 ((2 : Int) * v.1)) + (1 : Int)))))) (List.getD v.2 (Int.toNat (IntKind.wrap .i64 (k.2 + v.1))) (0 : Int))))))))
noncomputable def L_zbr_0 (k : Int × Int) (v : Int × Y1) : Option (Y1 ⊕ Y1) := iter (fun v => (S_zbr_0 k v).ev) v
noncomputable def DL_zbr_0 : LD := ⟨{ acts := [], S := { slots := [0, 2, 3, 8], sh := (.cons (.arr 64) (.cons (.dat yi) (.cons (.dat yi) (.cons (.dat yi) .nil)))), obs := [(64, .arr 3 yi)] } }, [(0, { acts := [], S := { slots := [0], sh := (.cons (.arr 64) .nil), obs := [(64, .arr 3 yi)] } })], { acts := [], S := { slots := [0], sh := (.cons (.arr 64) .nil), obs := [(64, .arr 3 yi)] } }, Int × (Int), Int × Y1, Y1 ⊕ Y1, fun k v => (((), (k.1, (k.2, (v.1, ())))), (v.2, ())), fun t => (t.1.2.1, t.1.2.2.1), fun t => (t.1.2.2.2.1, t.2.1), S_zbr_0, fun _ r => .s Y1 Y1 r (fun a => .l (.exit 0 (mkSt ({ slots := [0], sh := (.cons (.arr 64) .nil), obs := [(64, .arr 3 yi)] }) (((), ()), (a, ()))))) (fun b => .l (.ret (mkSt ({ slots := [0], sh := (.cons (.arr 64) .nil), obs := [(64, .arr 3 yi)] }) (((), ()), (b, ())))))⟩
noncomputable def T_zbr (a2_ : Int) (a3_ : Int) (a4_ : Int) (a1_ : Y1) : Tr Y1 :=
 .c (Y1 ⊕ Y1) (L_zbr_0 (a3_, a4_) (a2_, a1_)) fun r11_ =>
 .s Y1 Y1 r11_
 (fun r12_ => .l r12_)
 (fun r13_ => .l r13_)
noncomputable def F_zbr (a2_ : Int) (a3_ : Int) (a4_ : Int) (a1_ : Y1) : Option Y1 := (T_zbr a2_ a3_ a4_ a1_).ev
noncomputable def A_zbr : Sh := (.cons (.arr 64) (.cons (.dat yi) (.cons (.dat yi) (.cons (.dat yi) .nil))))
noncomputable def I_zbr : List (Nat × OSh) := [(64, .arr 3 yi)]
noncomputable def K_zbr : RetK := { acts := [], res := [], sh := .nil, obs := [(64, .arr 3 yi)], pins := [(0, 0, 64)] }
noncomputable def D_zbr : FD := ⟨A_zbr, I_zbr, [.arg 0], Y1, fun x => F_zbr x.1.2.1 x.1.2.2.1 x.1.2.2.2.1 x.2.1, fun r => ([], [(64, .arr 3 yi r)])⟩
noncomputable def E_zbr : Env := envOf [(212, D_zb)]
noncomputable def Z_zbr : Nat → Nat → List Nat := fun _ _ => []
noncomputable def O_zbr : List (Nat × LD) := [(0, DL_zbr_0)]
noncomputable def C_zbr : Code := (f237.body).getD .skip
noncomputable def S_zba_0 (k : Int × (Int × Int)) (v : Int × Y1) : Tr ((Int × Y1) ⊕ Y1) :=
 .t (decide ((0 : Int) ≤ v.1))
 (.c Y1 (F_zbr v.1 k.2.2 k.1 v.2) fun r6_ =>
 .l (.inl ((IntKind.wrap .i64 (v.1 - (1 : Int))), r6_)))
 (.l (.inr v.2))
noncomputable def L_zba_0 (k : Int × (Int × Int)) (v : Int × Y1) : Option Y1 := iter (fun v => (S_zba_0 k v).ev) v
noncomputable def DL_zba_0 : LD := ⟨{ acts := [], S := { slots := [0, 6, 7, 8, 9], sh := (.cons (.arr 64) (.cons (.dat yi) (.cons (.dat yi) (.cons (.dat yi) (.cons (.dat yi) .nil))))), obs := [(64, .arr 3 yi)] } }, [(0, { acts := [], S := { slots := [0, 6, 7, 8], sh := (.cons (.arr 64) (.cons (.dat yi) (.cons (.dat yi) (.cons (.dat yi) .nil)))), obs := [(64, .arr 3 yi)] } })], (yh [] .nil), Int × (Int × Int), Int × Y1, Y1, fun k v => (((), (k.1, (k.2.1, (k.2.2, (v.1, ()))))), (v.2, ())), fun t => (t.1.2.1, (t.1.2.2.1, t.1.2.2.2.1)), fun t => (t.1.2.2.2.2.1, t.2.1), S_zba_0, fun k r => .l (.exit 0 (mkSt ({ slots := [0, 6, 7, 8], sh := (.cons (.arr 64) (.cons (.dat yi) (.cons (.dat yi) (.cons (.dat yi) .nil)))), obs := [(64, .arr 3 yi)] }) (((), (k.1, (k.2.1, (k.2.2, ())))), (r, ()))))⟩
noncomputable def S_zba_2 (k : Int × Int) (v : Int × Y1) : Tr ((Int × Y1) ⊕ Y1) :=
 .t (decide ((0 : Int) ≤ v.1))
 (.g (inR (IntKind.wrap .i64 (k.1 + v.1)) (List.length v.2)) <|
 .g (decide ((Int.toNat (IntKind.wrap .i64 (k.1 + v.1))) < List.length v.2)) <|
 .g (inR k.1 (List.length v.2)) <|
 .g (decide ((Int.toNat k.1) < List.length v.2)) <|
 .g (inR k.1 (List.length v.2)) <|
 .g (decide ((Int.toNat k.1) < List.length v.2)) <|
 .g (inR (IntKind.wrap .i64 (k.1 + v.1)) (List.length (List.set v.2 (Int.toNat k.1) (List.getD v.2 (Int.toNat (IntKind.wrap .i64 (k.1 + v.1))) (0 : Int))))) <|
 .g (decide ((Int.toNat (IntKind.wrap .i64 (k.1 + v.1))) < List.length (List.set v.2 (Int.toNat k.1) (List.getD v.2 (Int.toNat (IntKind.wrap .i64 (k.1 + v.1))) (0 : Int))))) <|
 .c Y1 (F_zbr k.2 v.1 k.1 (List.set (List.set v.2 (Int.toNat k.1) (List.getD v.2 (Int.toNat (IntKind.wrap .i64 (k.1 + v.1))) (0 : Int))) (Int.toNat (IntKind.wrap .i64 (k.1 + v.1))) (List.getD v.2 (Int.toNat k.1) (0 : Int)))) fun r16_ =>
 .l (.inl ((IntKind.wrap .i64 (v.1 - (1 : Int))), r16_)))
 (.l (.inr v.2))
noncomputable def L_zba_2 (k : Int × Int) (v : Int × Y1) : Option Y1 := iter (fun v => (S_zba_2 k v).ev) v
noncomputable def DL_zba_2 : LD := ⟨{ acts := [], S := { slots := [0, 6, 7, 10], sh := (.cons (.arr 64) (.cons (.dat yi) (.cons (.dat yi) (.cons (.dat yi) .nil)))), obs := [(64, .arr 3 yi)] } }, [(2, { acts := [], S := { slots := [0], sh := (.cons (.arr 64) .nil), obs := [(64, .arr 3 yi)] } })], (yh [] .nil), Int × (Int), Int × Y1, Y1, fun k v => (((), (k.1, (k.2, (v.1, ())))), (v.2, ())), fun t => (t.1.2.1, t.1.2.2.1), fun t => (t.1.2.2.2.1, t.2.1), S_zba_2, fun _ r => .l (.exit 2 (mkSt ({ slots := [0], sh := (.cons (.arr 64) .nil), obs := [(64, .arr 3 yi)] }) (((), ()), (r, ()))))⟩
noncomputable def T_zba (a2_ : Int) (a3_ : Int) (a1_ : Y1) : Tr Y1 :=
 .g (!decide ((2 : Int) = 0)) <|
 .c Y1 (L_zba_0 (a2_, ((0 : Int), (IntKind.wrap .i64 (a3_ - a2_)))) ((IntKind.wrap .i64 (Int.tdiv (IntKind.wrap .i64 ((IntKind.wrap .i64 (a3_ - a2_)) - (1 : Int))) (2 : Int))), a1_)) fun r11_ =>
 .c Y1 (L_zba_2 (a2_, (0 : Int)) ((IntKind.wrap .i64 ((IntKind.wrap .i64 (a3_ - a2_)) - (1 : Int))), r11_)) fun r18_ =>
 .l r18_
noncomputable def F_zba (a2_ : Int) (a3_ : Int) (a1_ : Y1) : Option Y1 := (T_zba a2_ a3_ a1_).ev
noncomputable def A_zba : Sh := (.cons (.arr 64) (.cons (.dat yi) (.cons (.dat yi) .nil)))
noncomputable def I_zba : List (Nat × OSh) := [(64, .arr 3 yi)]
noncomputable def K_zba : RetK := { acts := [], res := [], sh := .nil, obs := [(64, .arr 3 yi)], pins := [(0, 0, 64)] }
noncomputable def D_zba : FD := ⟨A_zba, I_zba, [.arg 0], Y1, fun x => F_zba x.1.2.1 x.1.2.2.1 x.2.1, fun r => ([], [(64, .arr 3 yi r)])⟩
noncomputable def E_zba : Env := envOf [(237, D_zbr)]
noncomputable def Z_zba : Nat → Nat → List Nat := fun _ _ => []
noncomputable def O_zba : List (Nat × LD) := [(0, DL_zba_0), (2, DL_zba_2)]
noncomputable def C_zba : Code := (f207.body).getD .skip
noncomputable def S_zax_0 (k : Int × (Int × Int)) (v : Int × (Y1 × Int)) : Tr ((Int × (Y1 × Int)) ⊕ Y1) :=
 .g (!decide ((4 : Int) = 0)) <|
 .t (decide (v.1 ≤ (IntKind.wrap .i64 ((IntKind.wrap .i64 (k.1 + (IntKind.wrap .i64 ((IntKind.wrap .i64 (Int.tdiv k.2.1 (4 : Int))) * (2 : Int))))) + (1 : Int)))))
 (.c (Int × Int) (F_zbs v.2.2) fun r8_ =>
 .t (decide (k.2.1 ≤ (IntKind.wrap .i64 (IntKind.wrap .u64 (BitVec.toNat ((BitVec.ofInt (IntKind.bits .u64) r8_.1) &&& (BitVec.ofInt (IntKind.bits .u64) (IntKind.wrap .u64 (k.2.2 - (1 : Int))))))))))
 (.g (inR (IntKind.wrap .i64 (k.1 + (IntKind.wrap .i64 ((IntKind.wrap .i64 (IntKind.wrap .u64 (BitVec.toNat ((BitVec.ofInt (IntKind.bits .u64) r8_.1) &&& (BitVec.ofInt (IntKind.bits .u64) (IntKind.wrap .u64 (k.2.2 - (1 : Int)))))))) - k.2.1)))) (List.length v.2.1)) <|
 .g (decide ((Int.toNat (IntKind.wrap .i64 (k.1 + (IntKind.wrap .i64 ((IntKind.wrap .i64 (IntKind.wrap .u64 (BitVec.toNat ((BitVec.ofInt (IntKind.bits .u64) r8_.1) &&& (BitVec.ofInt (IntKind.bits .u64) (IntKind.wrap .u64 (k.2.2 - (1 : Int)))))))) - k.2.1))))) < List.length v.2.1)) <|
 .g (inR v.1 (List.length v.2.1)) <|
 .g (decide ((Int.toNat v.1) < List.length v.2.1)) <|
 .g (inR v.1 (List.length v.2.1)) <|
 .g (decide ((Int.toNat v.1) < List.length v.2.1)) <|
 .g (inR (IntKind.wrap .i64 (k.1 + (IntKind.wrap .i64 ((IntKind.wrap .i64 (IntKind.wrap .u64 (BitVec.toNat ((BitVec.ofInt (IntKind.bits .u64) r8_.1) &&& (BitVec.ofInt (IntKind.bits .u64) (IntKind.wrap .u64 (k.2.2 - (1 : Int)))))))) - k.2.1)))) (List.length (List.set v.2.1 (Int.toNat v.1) (List.getD v.2.1 (Int.toNat (IntKind.wrap .i64 (k.1 + (IntKind.wrap .i64 ((IntKind.wrap .i64 (IntKind.wrap .u64 (BitVec.toNat ((BitVec.ofInt (IntKind.bits .u64) r8_.1) &&& (BitVec.ofInt (IntKind.bits .u64) (IntKind.wrap .u64 (k.2.2 - (1 : Int)))))))) - k.2.1))))) (0 : Int))))) <|
 .g (decide ((Int.toNat (IntKind.wrap .i64 (k.1 + (IntKind.wrap .i64 ((IntKind.wrap .i64 (IntKind.wrap .u64 (BitVec.toNat ((BitVec.ofInt (IntKind.bits .u64) r8_.1) &&& (BitVec.ofInt (IntKind.bits .u64) (IntKind.wrap .u64 (k.2.2 - (1 : Int)))))))) - k.2.1))))) < List.length (List.set v.2.1 (Int.toNat v.1) (List.getD v.2.1 (Int.toNat (IntKind.wrap .i64 (k.1 + (IntKind.wrap .i64 ((IntKind.wrap .i64 (IntKind.wrap .u64 (BitVec.toNat ((BitVec.ofInt (IntKind.bits .u64) r8_.1) &&& (BitVec.ofInt (IntKind.bits .u64) (IntKind.wrap .u64 (k.2.2 - (1 : Int)))))))) - k.2.1))))) (0 : Int))))) <|
 .l (.inl ((IntKind.wrap .i64 (v.1 + (1 : Int))), ((List.set (List.set v.2.1 (Int.toNat v.1) (List.getD v.2.1 (Int.toNat (IntKind.wrap .i64 (k.1 + (IntKind.wrap .i64 ((IntKind.wrap .i64 (IntKind.wrap .u64 (BitVec.toNat ((BitVec.ofInt (IntKind.bits .u64) r8_.1) &&& (BitVec.ofInt (IntKind.bits .u64) (IntKind.wrap .u64 (k.2.2 - (1 : Int)))))))) - k.2.1))))) (0 : Int))) (Int.toNat (IntKind.wrap .i64 (k.1 + (IntKind.wrap .i64 ((IntKind.wrap .i64 (IntKind.wrap .u64 (BitVec.toNat ((BitVec.ofInt (IntKind.bits .u64) r8_.1) &&& (BitVec.ofInt (IntKind.bits .u64) (IntKind.wrap .u64 (k.2.2 - (1 : Int)))))))) - k.2.1))))) (List.getD v.2.1 (Int.toNat v.1) (0 : Int))), r8_.2))))
 (.g (inR (IntKind.wrap .i64 (k.1 + (IntKind.wrap .i64 (IntKind.wrap .u64 (BitVec.toNat ((BitVec.ofInt (IntKind.bits .u64) r8_.1) &&& (BitVec.ofInt (IntKind.bits .u64) (IntKind.wrap .u64 (k.2.2 - (1 : Int)))))))))) (List.length v.2.1)) <|
 .g (decide ((Int.toNat (IntKind.wrap .i64 (k.1 + (IntKind.wrap .i64 (IntKind.wrap .u64 (BitVec.toNat ((BitVec.ofInt (IntKind.bits .u64) r8_.1) &&& (BitVec.ofInt (IntKind.bits .u64) (IntKind.wrap .u64 (k.2.2 - (1 : Int))))))))))) < List.length v.2.1)) <|
 .g (inR v.1 (List.length v.2.1)) <|
 .g (decide ((Int.toNat v.1) < List.length v.2.1)) <|
 .g (inR v.1 (List.length v.2.1)) <|
 .g (decide ((Int.toNat v.1) < List.length v.2.1)) <|
 .g (inR (IntKind.wrap .i64 (k.1 + (IntKind.wrap .i64 (IntKind.wrap .u64 (BitVec.toNat ((BitVec.ofInt (IntKind.bits .u64) r8_.1) &&& (BitVec.ofInt (IntKind.bits .u64) (IntKind.wrap .u64 (k.2.2 - (1 : Int)))))))))) (List.length (List.set v.2.1 (Int.toNat v.1) (List.getD v.2.1 (Int.toNat (IntKind.wrap .i64 (k.1 + (IntKind.wrap .i64 (IntKind.wrap .u64 (BitVec.toNat ((BitVec.ofInt (IntKind.bits .u64) r8_.1) &&& (BitVec.ofInt (IntKind.bits .u64) (IntKind.wrap .u64 (k.2.2 - (1 : Int))))))))))) (0 : Int))))) <|
 .g (decide ((Int.toNat (IntKind.wrap .i64 (k.1 + (IntKind.wrap .i64 (IntKind.wrap .u64 (BitVec.toNat ((BitVec.ofInt (IntKind.bits .u64) r8_.1) &&& (BitVec.ofInt (IntKind.bits .u64) (IntKind.wrap .u64 (k.2.2 - (1 : Int))))))))))) < List.length (List.set v.2.1 (Int.toNat v.1) (List.getD v.2.1 (Int.toNat (IntKind.wrap .i64 (k.1 + (IntKind.wrap .i64 (IntKind.wrap .u64 (BitVec.toNat ((BitVec.ofInt (IntKind.bits .u64) r8_.1) &&& (BitVec.ofInt (IntKind.bits .u64) (IntKind.wrap .u64 (k.2.2 - (1 : Int))))))))))) (0 : Int))))) <|
 .l (.inl ((IntKind.wrap .i64 (v.1 + (1 : Int))), ((List.set (List.set v.2.1 (Int.toNat v.1) (List.getD v.2.1 (Int.toNat (IntKind.wrap .i64 (k.1 + (IntKind.wrap .i64 (IntKind.wrap .u64 (BitVec.toNat ((BitVec.ofInt (IntKind.bits .u64) r8_.1) &&& (BitVec.ofInt (IntKind.bits .u64) (IntKind.wrap .u64 (k.2.2 - (1 : Int))))))))))) (0 : Int))) (Int.toNat (IntKind.wrap .i64 (k.1 + (IntKind.wrap .i64 (IntKind.wrap .u64 (BitVec.toNat ((BitVec.ofInt (IntKind.bits .u64) r8_.1) &&& (BitVec.ofInt (IntKind.bits .u64) (IntKind.wrap .u64 (k.2.2 - (1 : Int))))))))))) (List.getD v.2.1 (Int.toNat v.1) (0 : Int))), r8_.2)))))
 (.l (.inr v.2.1))
noncomputable def L_zax_0 (k : Int × (Int × Int)) (v : Int × (Y1 × Int)) : Option Y1 := iter (fun v => (S_zax_0 k v).ev) v
noncomputable def DL_zax_0 : LD := ⟨{ acts := [], S := { slots := [0, 1, 6, 7, 8, 9], sh := (.cons (.arr 64) (.cons (.dat yi) (.cons (.dat yi) (.cons (.box 7 0) (.cons (.dat (.int .u64)) (.cons (.dat yi) .nil)))))), obs := [(64, .arr 3 yi), (7, .cells (.cons (.dat (.int .u64)) .nil))] } }, [(0, { acts := [], S := { slots := [0], sh := (.cons (.arr 64) .nil), obs := [(64, .arr 3 yi)] } })], (yh [] .nil), Int × (Int × Int), Int × (Y1 × Int), Y1, fun k v => (((), (k.1, (k.2.1, ((), (k.2.2, (v.1, ())))))), (v.2.1, ((v.2.2, ()), ()))), fun t => (t.1.2.1, (t.1.2.2.1, t.1.2.2.2.2.1)), fun t => (t.1.2.2.2.2.2.1, (t.2.1, t.2.2.1.1)), S_zax_0, fun _ r => .l (.exit 0 (mkSt ({ slots := [0], sh := (.cons (.arr 64) .nil), obs := [(64, .arr 3 yi)] }) (((), ()), (r, ()))))⟩
noncomputable def T_zax (a2_ : Int) (a3_ : Int) (a1_ : Y1) : Tr Y1 :=
 .t (decide ((8 : Int) ≤ (IntKind.wrap .i64 (a3_ - a2_))))
 (.c (Int) (F_zbh (IntKind.wrap .i64 (a3_ - a2_))) fun r1_ =>
 .g (!decide ((4 : Int) = 0)) <|
 .c Y1 (L_zax_0 (a2_, ((IntKind.wrap .i64 (a3_ - a2_)), r1_)) ((IntKind.wrap .i64 ((IntKind.wrap .i64 (a2_ + (IntKind.wrap .i64 ((IntKind.wrap .i64 (Int.tdiv (IntKind.wrap .i64 (a3_ - a2_)) (4 : Int))) * (2 : Int))))) - (1 : Int))), (a1_, (IntKind.wrap .u64 (IntKind.wrap .i64 (a3_ - a2_)))))) fun r10_ =>
 .l r10_)
 (.l a1_)
noncomputable def F_zax (a2_ : Int) (a3_ : Int) (a1_ : Y1) : Option Y1 := (T_zax a2_ a3_ a1_).ev
noncomputable def A_zax : Sh := (.cons (.arr 64) (.cons (.dat yi) (.cons (.dat yi) .nil)))
noncomputable def I_zax : List (Nat × OSh) := [(64, .arr 3 yi)]
noncomputable def K_zax : RetK := { acts := [], res := [], sh := .nil, obs := [(64, .arr 3 yi)], pins := [(0, 0, 64)] }
noncomputable def D_zax : FD := ⟨A_zax, I_zax, [.arg 0], Y1, fun x => F_zax x.1.2.1 x.1.2.2.1 x.2.1, fun r => ([], [(64, .arr 3 yi r)])⟩
noncomputable def E_zax : Env := envOf [(238, D_zbh), (239, D_zbs)]
noncomputable def Z_zax : Nat → Nat → List Nat := fun _ _ => []
noncomputable def O_zax : List (Nat × LD) := [(0, DL_zax_0)]
noncomputable def C_zax : Code := (f208.body).getD .skip
noncomputable def T_zbj (a1_ : Y1) (a2_ : Int) (a3_ : Int) (a4_ : Int) : Tr (Int × (Int × Int)) :=
 .g (inR a3_ (List.length a1_)) <|
 .g (inR a2_ (List.length a1_)) <|
 .c (Bool) (F_zb (List.getD a1_ (Int.toNat a3_) (0 : Int)) (List.getD a1_ (Int.toNat a2_) (0 : Int))) fun r1_ =>
 .t r1_
 (.l (a3_, (a2_, (IntKind.wrap .i64 (a4_ + (1 : Int))))))
 (.l (a2_, (a3_, a4_)))
noncomputable def F_zbj (a1_ : Y1) (a2_ : Int) (a3_ : Int) (a4_ : Int) : Option (Int × (Int × Int)) := (T_zbj a1_ a2_ a3_ a4_).ev
noncomputable def A_zbj : Sh := (.cons (.dat y1) (.cons (.dat yi) (.cons (.dat yi) (.cons (.box 64 0) .nil))))
noncomputable def I_zbj : List (Nat × OSh) := [(64, .cells (.cons (.dat yi) .nil))]
noncomputable def K_zbj : RetK := { acts := [], res := [.tmp 8, .tmp 9], sh := (.cons (.dat yi) (.cons (.dat yi) .nil)), obs := [(64, .cells (.cons (.dat yi) .nil))], pins := [(3, 0, 64)] }
noncomputable def D_zbj : FD := ⟨A_zbj, I_zbj, [.arg 3], Int × (Int × Int), fun x => F_zbj x.1.1 x.1.2.1 x.1.2.2.1 x.2.1.1, fun r => ([.dat yi r.1, .dat yi r.2.1], [(64, .cells [.dat yi r.2.2])])⟩
noncomputable def E_zbj : Env := envOf [(212, D_zb)]
noncomputable def Z_zbj : Nat → Nat → List Nat := fun _ _ => []
noncomputable def O_zbj : List (Nat × LD) := []
noncomputable def C_zbj : Code := (f255.body).getD .skip
noncomputable def T_zbg (a1_ : Y1) (a2_ : Int) (a3_ : Int) (a4_ : Int) (a5_ : Int) : Tr (Int × Int) :=
 .c (Int × (Int × Int)) (F_zbj a1_ a2_ a3_ a5_) fun r1_ =>
 .c (Int × (Int × Int)) (F_zbj a1_ r1_.2.1 a4_ r1_.2.2) fun r2_ =>
 .c (Int × (Int × Int)) (F_zbj a1_ r1_.1 r2_.1 r2_.2.2) fun r3_ =>
 .l (r3_.2.1, r3_.2.2)
noncomputable def F_zbg (a1_ : Y1) (a2_ : Int) (a3_ : Int) (a4_ : Int) (a5_ : Int) : Option (Int × Int) := (T_zbg a1_ a2_ a3_ a4_ a5_).ev
noncomputable def A_zbg : Sh := (.cons (.dat y1) (.cons (.dat yi) (.cons (.dat yi) (.cons (.dat yi) (.cons (.box 64 0) .nil)))))
noncomputable def I_zbg : List (Nat × OSh) := [(64, .cells (.cons (.dat yi) .nil))]
noncomputable def K_zbg : RetK := { acts := [], res := [.tmp 10], sh := (.cons (.dat yi) .nil), obs := [(64, .cells (.cons (.dat yi) .nil))], pins := [(4, 0, 64)] }
noncomputable def D_zbg : FD := ⟨A_zbg, I_zbg, [.arg 4], Int × (Int), fun x => F_zbg x.1.1 x.1.2.1 x.1.2.2.1 x.1.2.2.2.1 x.2.1.1, fun r => ([.dat yi r.1], [(64, .cells [.dat yi r.2])])⟩
noncomputable def E_zbg : Env := envOf [(255, D_zbj)]
noncomputable def Z_zbg : Nat → Nat → List Nat := fun _ _ => []
noncomputable def O_zbg : List (Nat × LD) := []
noncomputable def C_zbg : Code := (f241.body).getD .skip
noncomputable def T_zbe (a1_ : Y1) (a2_ : Int) (a3_ : Int) : Tr (Int × Int) :=
 .c (Int × Int) (F_zbg a1_ (IntKind.wrap .i64 (a2_ - (1 : Int))) a2_ (IntKind.wrap .i64 (a2_ + (1 : Int))) a3_) fun r1_ =>
 .l (r1_.1, r1_.2)
noncomputable def F_zbe (a1_ : Y1) (a2_ : Int) (a3_ : Int) : Option (Int × Int) := (T_zbe a1_ a2_ a3_).ev
noncomputable def A_zbe : Sh := (.cons (.dat y1) (.cons (.dat yi) (.cons (.box 64 0) .nil)))
noncomputable def I_zbe : List (Nat × OSh) := [(64, .cells (.cons (.dat yi) .nil))]
noncomputable def K_zbe : RetK := { acts := [], res := [.tmp 6], sh := (.cons (.dat yi) .nil), obs := [(64, .cells (.cons (.dat yi) .nil))], pins := [(2, 0, 64)] }
noncomputable def D_zbe : FD := ⟨A_zbe, I_zbe, [.arg 2], Int × (Int), fun x => F_zbe x.1.1 x.1.2.1 x.2.1.1, fun r => ([.dat yi r.1], [(64, .cells [.dat yi r.2])])⟩
noncomputable def E_zbe : Env := envOf [(241, D_zbg)]
noncomputable def Z_zbe : Nat → Nat → List Nat := fun _ _ => []
noncomputable def O_zbe : List (Nat × LD) := []
noncomputable def C_zbe : Code := (f240.body).getD .skip
noncomputable def T_zaz (a1_ : Y1) (a2_ : Int) (a3_ : Int) : Tr (Int × Int) :=
 .g (!decide ((4 : Int) = 0)) <|
 .g (!decide ((4 : Int) = 0)) <|
 .g (!decide ((4 : Int) = 0)) <|
 .t (decide ((8 : Int) ≤ (IntKind.wrap .i64 (a3_ - a2_))))
 (.t (decide ((50 : Int) ≤ (IntKind.wrap .i64 (a3_ - a2_))))
 (.c (Int × Int) (F_zbe a1_ (IntKind.wrap .i64 (a2_ + (IntKind.wrap .i64 ((IntKind.wrap .i64 (Int.tdiv (IntKind.wrap .i64 (a3_ - a2_)) (4 : Int))) * (1 : Int))))) (0 : Int)) fun r1_ =>
 .c (Int × Int) (F_zbe a1_ (IntKind.wrap .i64 (a2_ + (IntKind.wrap .i64 ((IntKind.wrap .i64 (Int.tdiv (IntKind.wrap .i64 (a3_ - a2_)) (4 : Int))) * (2 : Int))))) r1_.2) fun r2_ =>
 .c (Int × Int) (F_zbe a1_ (IntKind.wrap .i64 (a2_ + (IntKind.wrap .i64 ((IntKind.wrap .i64 (Int.tdiv (IntKind.wrap .i64 (a3_ - a2_)) (4 : Int))) * (3 : Int))))) r2_.2) fun r3_ =>
 .c (Int × Int) (F_zbg a1_ r1_.1 r2_.1 r3_.1 r3_.2) fun r4_ =>
 .t (r4_.2 == (0 : Int))
 (.l (r4_.1, (1 : Int)))
 (.t (r4_.2 == (12 : Int))
 (.l (r4_.1, (2 : Int)))
 (.l (r4_.1, (0 : Int)))))
 (.c (Int × Int) (F_zbg a1_ (IntKind.wrap .i64 (a2_ + (IntKind.wrap .i64 ((IntKind.wrap .i64 (Int.tdiv (IntKind.wrap .i64 (a3_ - a2_)) (4 : Int))) * (1 : Int))))) (IntKind.wrap .i64 (a2_ + (IntKind.wrap .i64 ((IntKind.wrap .i64 (Int.tdiv (IntKind.wrap .i64 (a3_ - a2_)) (4 : Int))) * (2 : Int))))) (IntKind.wrap .i64 (a2_ + (IntKind.wrap .i64 ((IntKind.wrap .i64 (Int.tdiv (IntKind.wrap .i64 (a3_ - a2_)) (4 : Int))) * (3 : Int))))) (0 : Int)) fun r5_ =>
 .t (r5_.2 == (0 : Int))
 (.l (r5_.1, (1 : Int)))
 (.t (r5_.2 == (12 : Int))
 (.l (r5_.1, (2 : Int)))
 (.l (r5_.1, (0 : Int))))))
 (.t ((0 : Int) == (0 : Int))
 (.l ((IntKind.wrap .i64 (a2_ + (IntKind.wrap .i64 ((IntKind.wrap .i64 (Int.tdiv (IntKind.wrap .i64 (a3_ - a2_)) (4 : Int))) * (2 : Int))))), (1 : Int)))
 (.t ((0 : Int) == (12 : Int))
 (.l ((IntKind.wrap .i64 (a2_ + (IntKind.wrap .i64 ((IntKind.wrap .i64 (Int.tdiv (IntKind.wrap .i64 (a3_ - a2_)) (4 : Int))) * (2 : Int))))), (2 : Int)))
 (.l ((IntKind.wrap .i64 (a2_ + (IntKind.wrap .i64 ((IntKind.wrap .i64 (Int.tdiv (IntKind.wrap .i64 (a3_ - a2_)) (4 : Int))) * (2 : Int))))), (0 : Int)))))
noncomputable def F_zaz (a1_ : Y1) (a2_ : Int) (a3_ : Int) : Option (Int × Int) := (T_zaz a1_ a2_ a3_).ev
noncomputable def A_zaz : Sh := (.cons (.dat y1) (.cons (.dat yi) (.cons (.dat yi) .nil)))
noncomputable def I_zaz : List (Nat × OSh) := []
noncomputable def K_zaz : RetK := { acts := [], res := [.tmp 6, .tmp 7], sh := (.cons (.dat yi) (.cons (.dat yi) .nil)), obs := [], pins := [] }
noncomputable def D_zaz : FD := ⟨A_zaz, I_zaz, [], Int × (Int), fun x => F_zaz x.1.1 x.1.2.1 x.1.2.2.1, fun r => ([.dat yi r.1, .dat yi r.2], [])⟩
noncomputable def E_zaz : Env := envOf [(240, D_zbe), (241, D_zbg)]
noncomputable def Z_zaz : Nat → Nat → List Nat := fun _ _ => []
noncomputable def O_zaz : List (Nat × LD) := []
noncomputable def C_zaz : Code := (f209.body).getD .skip
noncomputable def S_zbq_0 (_k : Unit) (v : Int × (Int × Y1)) : Tr ((Int × (Int × Y1)) ⊕ Y1) :=
 .t (decide (v.1 < v.2.1))
 (.g (inR v.2.1 (List.length v.2.2)) <|
 .g (decide ((Int.toNat v.2.1) < List.length v.2.2)) <|
 .g (inR v.1 (List.length v.2.2)) <|
 .g (decide ((Int.toNat v.1) < List.length v.2.2)) <|
 .g (inR v.1 (List.length v.2.2)) <|
 .g (decide ((Int.toNat v.1) < List.length v.2.2)) <|
 .g (inR v.2.1 (List.length (List.set v.2.2 (Int.toNat v.1) (List.getD v.2.2 (Int.toNat v.2.1) (0 : Int))))) <|
 .g (decide ((Int.toNat v.2.1) < List.length (List.set v.2.2 (Int.toNat v.1) (List.getD v.2.2 (Int.toNat v.2.1) (0 : Int))))) <|
 .l (.inl ((IntKind.wrap .i64 (v.1 + (1 : Int))), ((IntKind.wrap .i64 (v.2.1 - (1 : Int))), (List.set (List.set v.2.2 (Int.toNat v.1) (List.getD v.2.2 (Int.toNat v.2.1) (0 : Int))) (Int.toNat v.2.1) (List.getD v.2.2 (Int.toNat v.1) (0 : Int)))))))
 (.l (.inr v.2.2))
noncomputable def L_zbq_0 (k : Unit) (v : Int × (Int × Y1)) : Option Y1 := iter (fun v => (S_zbq_0 k v).ev) v
noncomputable def DL_zbq_0 : LD := ⟨{ acts := [], S := { slots := [0, 6, 7], sh := (.cons (.arr 64) (.cons (.dat yi) (.cons (.dat yi) .nil))), obs := [(64, .arr 3 yi)] } }, [(0, { acts := [], S := { slots := [0], sh := (.cons (.arr 64) .nil), obs := [(64, .arr 3 yi)] } })], (yh [] .nil), Unit, Int × (Int × Y1), Y1, fun _ v => (((), (v.1, (v.2.1, ()))), (v.2.2, ())), fun _ => (), fun t => (t.1.2.1, (t.1.2.2.1, t.2.1)), S_zbq_0, fun _ r => .l (.exit 0 (mkSt ({ slots := [0], sh := (.cons (.arr 64) .nil), obs := [(64, .arr 3 yi)] }) (((), ()), (r, ()))))⟩
noncomputable def T_zbq (a2_ : Int) (a3_ : Int) (a1_ : Y1) : Tr Y1 :=
 .c Y1 (L_zbq_0 () (a2_, ((IntKind.wrap .i64 (a3_ - (1 : Int))), a1_))) fun r5_ =>
 .l r5_
noncomputable def F_zbq (a2_ : Int) (a3_ : Int) (a1_ : Y1) : Option Y1 := (T_zbq a2_ a3_ a1_).ev
noncomputable def A_zbq : Sh := (.cons (.arr 64) (.cons (.dat yi) (.cons (.dat yi) .nil)))
noncomputable def I_zbq : List (Nat × OSh) := [(64, .arr 3 yi)]
noncomputable def K_zbq : RetK := { acts := [], res := [], sh := .nil, obs := [(64, .arr 3 yi)], pins := [(0, 0, 64)] }
noncomputable def D_zbq : FD := ⟨A_zbq, I_zbq, [.arg 0], Y1, fun x => F_zbq x.1.2.1 x.1.2.2.1 x.2.1, fun r => ([], [(64, .arr 3 yi r)])⟩
noncomputable def E_zbq : Env := envOf []
noncomputable def Z_zbq : Nat → Nat → List Nat := fun _ _ => []
noncomputable def O_zbq : List (Nat × LD) := [(0, DL_zbq_0)]
noncomputable def C_zbq : Code := (f210.body).getD .skip
noncomputable def S_zbk_2 (k : Int × (Int × (Int × Y1))) (v : Int) : Tr ((Int) ⊕ (Int)) :=
 .t (decide (v < k.2.1))
 (.g (inR v (List.length k.2.2.2)) <|
 .g (decide ((Int.toNat v) < List.length k.2.2.2)) <|
 .g (inR (IntKind.wrap .i64 (v - (1 : Int))) (List.length k.2.2.2)) <|
 .g (decide ((Int.toNat (IntKind.wrap .i64 (v - (1 : Int)))) < List.length k.2.2.2)) <|
 .c (Bool) (F_zb (List.getD k.2.2.2 (Int.toNat v) (0 : Int)) (List.getD k.2.2.2 (Int.toNat (IntKind.wrap .i64 (v - (1 : Int)))) (0 : Int))) fun r11_ =>
 .t (!r11_)
 (.l (.inl (IntKind.wrap .i64 (v + (1 : Int)))))
 (.l (.inr v)))
 (.l (.inr v))
noncomputable def L_zbk_2 (k : Int × (Int × (Int × Y1))) (v : Int) : Option (Int) := iter (fun v => (S_zbk_2 k v).ev) v
noncomputable def DL_zbk_2 : LD := ⟨{ acts := [], S := { slots := [0, 1, 2, 7, 8], sh := (.cons (.arr 64) (.cons (.dat yi) (.cons (.dat yi) (.cons (.dat yi) (.cons (.dat yi) .nil))))), obs := [(64, .arr 3 yi)] } }, [(2, { acts := [], S := { slots := [0, 1, 2, 7, 8], sh := (.cons (.arr 64) (.cons (.dat yi) (.cons (.dat yi) (.cons (.dat yi) (.cons (.dat yi) .nil))))), obs := [(64, .arr 3 yi)] } })], (yh [] .nil), Int × (Int × (Int × Y1)), Int, Int, fun k v => (((), (k.1, (k.2.1, (v, (k.2.2.1, ()))))), (k.2.2.2, ())), fun t => (t.1.2.1, (t.1.2.2.1, (t.1.2.2.2.2.1, t.2.1))), fun t => t.1.2.2.2.1, S_zbk_2, fun k r => .l (.exit 2 (mkSt ({ slots := [0, 1, 2, 7, 8], sh := (.cons (.arr 64) (.cons (.dat yi) (.cons (.dat yi) (.cons (.dat yi) (.cons (.dat yi) .nil))))), obs := [(64, .arr 3 yi)] }) (((), (k.1, (k.2.1, (r, (k.2.2.1, ()))))), (k.2.2.2, ()))))⟩
noncomputable def S_zbk_4 (_k : Int × (Int × (Int × Int))) (v : Int × Y1) : Tr ((Int × Y1) ⊕ Y1) :=
 .t (decide ((1 : Int) ≤ v.1))
 (.g (inR v.1 (List.length v.2)) <|
 .g (decide ((Int.toNat v.1) < List.length v.2)) <|
 .g (inR (IntKind.wrap .i64 (v.1 - (1 : Int))) (List.length v.2)) <|
 .g (decide ((Int.toNat (IntKind.wrap .i64 (v.1 - (1 : Int)))) < List.length v.2)) <|
 .c (Bool) (F_zb (List.getD v.2 (Int.toNat v.1) (0 : Int)) (List.getD v.2 (Int.toNat (IntKind.wrap .i64 (v.1 - (1 : Int)))) (0 : Int))) fun r24_ =>
 .t (!r24_)
 (.l (.inr v.2))
 (.g (inR (IntKind.wrap .i64 (v.1 - (1 : Int))) (List.length v.2)) <|
 .g (decide ((Int.toNat (IntKind.wrap .i64 (v.1 - (1 : Int)))) < List.length v.2)) <|
 .g (inR v.1 (List.length v.2)) <|
 .g (decide ((Int.toNat v.1) < List.length v.2)) <|
 .g (inR v.1 (List.length v.2)) <|
 .g (decide ((Int.toNat v.1) < List.length v.2)) <|
 .g (inR (IntKind.wrap .i64 (v.1 - (1 : Int))) (List.length (List.set v.2 (Int.toNat v.1) (List.getD v.2 (Int.toNat (IntKind.wrap .i64 (v.1 - (1 : Int)))) (0 : Int))))) <|
 .g (decide ((Int.toNat (IntKind.wrap .i64 (v.1 - (1 : Int)))) < List.length (List.set v.2 (Int.toNat v.1) (List.getD v.2 (Int.toNat (IntKind.wrap .i64 (v.1 - (1 : Int)))) (0 : Int))))) <|
 .l (.inl ((IntKind.wrap .i64 (v.1 - (1 : Int))), (List.set (List.set v.2 (Int.toNat v.1) (List.getD v.2 (Int.toNat (IntKind.wrap .i64 (v.1 - (1 : Int)))) (0 : Int))) (Int.toNat (IntKind.wrap .i64 (v.1 - (1 : Int)))) (List.getD v.2 (Int.toNat v.1) (0 : Int)))))))
 (.l (.inr v.2))
noncomputable def L_zbk_4 (k : Int × (Int × (Int × Int))) (v : Int × Y1) : Option Y1 := iter (fun v => (S_zbk_4 k v).ev) v
noncomputable def DL_zbk_4 : LD := ⟨{ acts := [], S := { slots := [0, 1, 2, 7, 8, 9], sh := (.cons (.arr 64) (.cons (.dat yi) (.cons (.dat yi) (.cons (.dat yi) (.cons (.dat yi) (.cons (.dat yi) .nil)))))), obs := [(64, .arr 3 yi)] } }, [(4, { acts := [], S := { slots := [0, 1, 2, 7, 8], sh := (.cons (.arr 64) (.cons (.dat yi) (.cons (.dat yi) (.cons (.dat yi) (.cons (.dat yi) .nil))))), obs := [(64, .arr 3 yi)] } })], (yh [] .nil), Int × (Int × (Int × Int)), Int × Y1, Y1, fun k v => (((), (k.1, (k.2.1, (k.2.2.1, (k.2.2.2, (v.1, ())))))), (v.2, ())), fun t => (t.1.2.1, (t.1.2.2.1, (t.1.2.2.2.1, t.1.2.2.2.2.1))), fun t => (t.1.2.2.2.2.2.1, t.2.1), S_zbk_4, fun k r => .l (.exit 4 (mkSt ({ slots := [0, 1, 2, 7, 8], sh := (.cons (.arr 64) (.cons (.dat yi) (.cons (.dat yi) (.cons (.dat yi) (.cons (.dat yi) .nil))))), obs := [(64, .arr 3 yi)] }) (((), (k.1, (k.2.1, (k.2.2.1, (k.2.2.2, ()))))), (r, ()))))⟩
noncomputable def S_zbk_6 (k : Int × (Int × (Int × Int))) (v : Int × Y1) : Tr ((Int × Y1) ⊕ Y1) :=
 .t (decide (v.1 < k.2.1))
 (.g (inR v.1 (List.length v.2)) <|
 .g (decide ((Int.toNat v.1) < List.length v.2)) <|
 .g (inR (IntKind.wrap .i64 (v.1 - (1 : Int))) (List.length v.2)) <|
 .g (decide ((Int.toNat (IntKind.wrap .i64 (v.1 - (1 : Int)))) < List.length v.2)) <|
 .c (Bool) (F_zb (List.getD v.2 (Int.toNat v.1) (0 : Int)) (List.getD v.2 (Int.toNat (IntKind.wrap .i64 (v.1 - (1 : Int)))) (0 : Int))) fun r37_ =>
 .t (!r37_)
 (.l (.inr v.2))
 (.g (inR (IntKind.wrap .i64 (v.1 - (1 : Int))) (List.length v.2)) <|
 .g (decide ((Int.toNat (IntKind.wrap .i64 (v.1 - (1 : Int)))) < List.length v.2)) <|
 .g (inR v.1 (List.length v.2)) <|
 .g (decide ((Int.toNat v.1) < List.length v.2)) <|
 .g (inR v.1 (List.length v.2)) <|
 .g (decide ((Int.toNat v.1) < List.length v.2)) <|
 .g (inR (IntKind.wrap .i64 (v.1 - (1 : Int))) (List.length (List.set v.2 (Int.toNat v.1) (List.getD v.2 (Int.toNat (IntKind.wrap .i64 (v.1 - (1 : Int)))) (0 : Int))))) <|
 .g (decide ((Int.toNat (IntKind.wrap .i64 (v.1 - (1 : Int)))) < List.length (List.set v.2 (Int.toNat v.1) (List.getD v.2 (Int.toNat (IntKind.wrap .i64 (v.1 - (1 : Int)))) (0 : Int))))) <|
 .l (.inl ((IntKind.wrap .i64 (v.1 + (1 : Int))), (List.set (List.set v.2 (Int.toNat v.1) (List.getD v.2 (Int.toNat (IntKind.wrap .i64 (v.1 - (1 : Int)))) (0 : Int))) (Int.toNat (IntKind.wrap .i64 (v.1 - (1 : Int)))) (List.getD v.2 (Int.toNat v.1) (0 : Int)))))))
 (.l (.inr v.2))
noncomputable def L_zbk_6 (k : Int × (Int × (Int × Int))) (v : Int × Y1) : Option Y1 := iter (fun v => (S_zbk_6 k v).ev) v
noncomputable def DL_zbk_6 : LD := ⟨{ acts := [], S := { slots := [0, 1, 2, 7, 8, 10], sh := (.cons (.arr 64) (.cons (.dat yi) (.cons (.dat yi) (.cons (.dat yi) (.cons (.dat yi) (.cons (.dat yi) .nil)))))), obs := [(64, .arr 3 yi)] } }, [(6, { acts := [], S := { slots := [0, 1, 2, 7, 8], sh := (.cons (.arr 64) (.cons (.dat yi) (.cons (.dat yi) (.cons (.dat yi) (.cons (.dat yi) .nil))))), obs := [(64, .arr 3 yi)] } })], (yh [] .nil), Int × (Int × (Int × Int)), Int × Y1, Y1, fun k v => (((), (k.1, (k.2.1, (k.2.2.1, (k.2.2.2, (v.1, ())))))), (v.2, ())), fun t => (t.1.2.1, (t.1.2.2.1, (t.1.2.2.2.1, t.1.2.2.2.2.1))), fun t => (t.1.2.2.2.2.2.1, t.2.1), S_zbk_6, fun k r => .l (.exit 6 (mkSt ({ slots := [0, 1, 2, 7, 8], sh := (.cons (.arr 64) (.cons (.dat yi) (.cons (.dat yi) (.cons (.dat yi) (.cons (.dat yi) .nil))))), obs := [(64, .arr 3 yi)] }) (((), (k.1, (k.2.1, (k.2.2.1, (k.2.2.2, ()))))), (r, ()))))⟩
noncomputable def S_zbk_0 (k : Int × Int) (v : Int × (Int × Y1)) : Tr ((Int × (Int × Y1)) ⊕ (Y1 ⊕ (Bool × Y1))) :=
 .t (decide (v.2.1 < (5 : Int)))
 (.c (Int) (L_zbk_2 (k.1, (k.2, (v.2.1, v.2.2))) v.1) fun r17_ =>
 .t (r17_ == k.2)
 (.l (.inr (.inr (true, v.2.2))))
 (.t (decide ((IntKind.wrap .i64 (k.2 - k.1)) < (50 : Int)))
 (.l (.inr (.inr (false, v.2.2))))
 (.g (inR (IntKind.wrap .i64 (r17_ - (1 : Int))) (List.length v.2.2)) <|
 .g (decide ((Int.toNat (IntKind.wrap .i64 (r17_ - (1 : Int)))) < List.length v.2.2)) <|
 .g (inR r17_ (List.length v.2.2)) <|
 .g (decide ((Int.toNat r17_) < List.length v.2.2)) <|
 .g (inR r17_ (List.length v.2.2)) <|
 .g (decide ((Int.toNat r17_) < List.length v.2.2)) <|
 .g (inR (IntKind.wrap .i64 (r17_ - (1 : Int))) (List.length (List.set v.2.2 (Int.toNat r17_) (List.getD v.2.2 (Int.toNat (IntKind.wrap .i64 (r17_ - (1 : Int)))) (0 : Int))))) <|
 .g (decide ((Int.toNat (IntKind.wrap .i64 (r17_ - (1 : Int)))) < List.length (List.set v.2.2 (Int.toNat r17_) (List.getD v.2.2 (Int.toNat (IntKind.wrap .i64 (r17_ - (1 : Int)))) (0 : Int))))) <|
 .t (decide ((2 : Int) ≤ (IntKind.wrap .i64 (r17_ - k.1))))
 (.c Y1 (L_zbk_4 (k.1, (k.2, (r17_, v.2.1))) ((IntKind.wrap .i64 (r17_ - (1 : Int))), (List.set (List.set v.2.2 (Int.toNat r17_) (List.getD v.2.2 (Int.toNat (IntKind.wrap .i64 (r17_ - (1 : Int)))) (0 : Int))) (Int.toNat (IntKind.wrap .i64 (r17_ - (1 : Int)))) (List.getD v.2.2 (Int.toNat r17_) (0 : Int))))) fun r30_ =>
 .t (decide ((2 : Int) ≤ (IntKind.wrap .i64 (k.2 - r17_))))
 (.c Y1 (L_zbk_6 (k.1, (k.2, (r17_, v.2.1))) ((IntKind.wrap .i64 (r17_ + (1 : Int))), r30_)) fun r43_ =>
 .l (.inl (r17_, ((IntKind.wrap .i64 (v.2.1 + (1 : Int))), r43_))))
 (.l (.inl (r17_, ((IntKind.wrap .i64 (v.2.1 + (1 : Int))), r30_)))))
 (.t (decide ((2 : Int) ≤ (IntKind.wrap .i64 (k.2 - r17_))))
 (.c Y1 (L_zbk_6 (k.1, (k.2, (r17_, v.2.1))) ((IntKind.wrap .i64 (r17_ + (1 : Int))), (List.set (List.set v.2.2 (Int.toNat r17_) (List.getD v.2.2 (Int.toNat (IntKind.wrap .i64 (r17_ - (1 : Int)))) (0 : Int))) (Int.toNat (IntKind.wrap .i64 (r17_ - (1 : Int)))) (List.getD v.2.2 (Int.toNat r17_) (0 : Int))))) fun r44_ =>
 .l (.inl (r17_, ((IntKind.wrap .i64 (v.2.1 + (1 : Int))), r44_))))
 (.l (.inl (r17_, ((IntKind.wrap .i64 (v.2.1 + (1 : Int))), (List.set (List.set v.2.2 (Int.toNat r17_) (List.getD v.2.2 (Int.toNat (IntKind.wrap .i64 (r17_ - (1 : Int)))) (0 : Int))) (Int.toNat (IntKind.wrap .i64 (r17_ - (1 : Int)))) (List.getD v.2.2 (Int.toNat r17_) (0 : Int)))))))))))
 (.l (.inr (.inl v.2.2)))
noncomputable def L_zbk_0 (k : Int × Int) (v : Int × (Int × Y1)) : Option (Y1 ⊕ (Bool × Y1)) := iter (fun v => (S_zbk_0 k v).ev) v
noncomputable def DL_zbk_0 : LD := ⟨{ acts := [], S := { slots := [0, 1, 2, 7, 8], sh := (.cons (.arr 64) (.cons (.dat yi) (.cons (.dat yi) (.cons (.dat yi) (.cons (.dat yi) .nil))))), obs := [(64, .arr 3 yi)] } }, [(0, { acts := [], S := { slots := [0], sh := (.cons (.arr 64) .nil), obs := [(64, .arr 3 yi)] } })], { acts := [], S := { slots := [0, 6], sh := (.cons (.arr 64) (.cons (.dat .bool) .nil)), obs := [(64, .arr 3 yi)] } }, Int × (Int), Int × (Int × Y1), Y1 ⊕ (Bool × Y1), fun k v => (((), (k.1, (k.2, (v.1, (v.2.1, ()))))), (v.2.2, ())), fun t => (t.1.2.1, t.1.2.2.1), fun t => (t.1.2.2.2.1, (t.1.2.2.2.2.1, t.2.1)), S_zbk_0, fun _ r => .s Y1 (Bool × Y1) r (fun a => .l (.exit 0 (mkSt ({ slots := [0], sh := (.cons (.arr 64) .nil), obs := [(64, .arr 3 yi)] }) (((), ()), (a, ()))))) (fun b => .l (.ret (mkSt ({ slots := [0, 6], sh := (.cons (.arr 64) (.cons (.dat .bool) .nil)), obs := [(64, .arr 3 yi)] }) (((), (b.1, ())), (b.2, ())))))⟩
noncomputable def T_zbk (a2_ : Int) (a3_ : Int) (a1_ : Y1) : Tr (Bool × Y1) :=
 .c (Y1 ⊕ (Bool × Y1)) (L_zbk_0 (a2_, a3_) ((IntKind.wrap .i64 (a2_ + (1 : Int))), ((0 : Int), a1_))) fun r48_ =>
 .s Y1 (Bool × Y1) r48_
 (fun r49_ => .l (false, r49_))
 (fun r50_ => .l (r50_.1, r50_.2))
noncomputable def F_zbk (a2_ : Int) (a3_ : Int) (a1_ : Y1) : Option (Bool × Y1) := (T_zbk a2_ a3_ a1_).ev
noncomputable def A_zbk : Sh := (.cons (.arr 64) (.cons (.dat yi) (.cons (.dat yi) .nil)))
noncomputable def I_zbk : List (Nat × OSh) := [(64, .arr 3 yi)]
noncomputable def K_zbk : RetK := { acts := [], res := [.tmp 6], sh := (.cons (.dat .bool) .nil), obs := [(64, .arr 3 yi)], pins := [(0, 0, 64)] }
noncomputable def D_zbk : FD := ⟨A_zbk, I_zbk, [.arg 0], Bool × Y1, fun x => F_zbk x.1.2.1 x.1.2.2.1 x.2.1, fun r => ([.dat .bool r.1], [(64, .arr 3 yi r.2)])⟩
noncomputable def E_zbk : Env := envOf [(212, D_zb)]
noncomputable def Z_zbk : Nat → Nat → List Nat := fun _ _ => []
noncomputable def O_zbk : List (Nat × LD) := [(2, DL_zbk_2), (4, DL_zbk_4), (6, DL_zbk_6), (0, DL_zbk_0)]
noncomputable def C_zbk : Code := (f211.body).getD .skip
noncomputable def S_zbm_2 (k : Int × (Int × Y1)) (v : Int) : Tr ((Int) ⊕ (Int)) :=
 .t (decide (v ≤ k.2.1))
 (.g (inR k.1 (List.length k.2.2)) <|
 .g (decide ((Int.toNat k.1) < List.length k.2.2)) <|
 .g (inR v (List.length k.2.2)) <|
 .g (decide ((Int.toNat v) < List.length k.2.2)) <|
 .c (Bool) (F_zb (List.getD k.2.2 (Int.toNat k.1) (0 : Int)) (List.getD k.2.2 (Int.toNat v) (0 : Int))) fun r9_ =>
 .t (!r9_)
 (.l (.inl (IntKind.wrap .i64 (v + (1 : Int)))))
 (.l (.inr v)))
 (.l (.inr v))
noncomputable def L_zbm_2 (k : Int × (Int × Y1)) (v : Int) : Option (Int) := iter (fun v => (S_zbm_2 k v).ev) v
noncomputable def DL_zbm_2 : LD := ⟨{ acts := [], S := { slots := [0, 1, 9, 10], sh := (.cons (.arr 64) (.cons (.dat yi) (.cons (.dat yi) (.cons (.dat yi) .nil)))), obs := [(64, .arr 3 yi)] } }, [(2, { acts := [], S := { slots := [0, 1, 9, 10], sh := (.cons (.arr 64) (.cons (.dat yi) (.cons (.dat yi) (.cons (.dat yi) .nil)))), obs := [(64, .arr 3 yi)] } })], (yh [] .nil), Int × (Int × Y1), Int, Int, fun k v => (((), (k.1, (v, (k.2.1, ())))), (k.2.2, ())), fun t => (t.1.2.1, (t.1.2.2.2.1, t.2.1)), fun t => t.1.2.2.1, S_zbm_2, fun k r => .l (.exit 2 (mkSt ({ slots := [0, 1, 9, 10], sh := (.cons (.arr 64) (.cons (.dat yi) (.cons (.dat yi) (.cons (.dat yi) .nil)))), obs := [(64, .arr 3 yi)] }) (((), (k.1, (r, (k.2.1, ())))), (k.2.2, ()))))⟩
noncomputable def S_zbm_4 (k : Int × (Int × Y1)) (v : Int) : Tr ((Int) ⊕ (Int)) :=
 .t (decide (k.2.1 ≤ v))
 (.g (inR k.1 (List.length k.2.2)) <|
 .g (decide ((Int.toNat k.1) < List.length k.2.2)) <|
 .g (inR v (List.length k.2.2)) <|
 .g (decide ((Int.toNat v) < List.length k.2.2)) <|
 .c (Bool) (F_zb (List.getD k.2.2 (Int.toNat k.1) (0 : Int)) (List.getD k.2.2 (Int.toNat v) (0 : Int))) fun r19_ =>
 .t r19_
 (.l (.inl (IntKind.wrap .i64 (v - (1 : Int)))))
 (.l (.inr v)))
 (.l (.inr v))
noncomputable def L_zbm_4 (k : Int × (Int × Y1)) (v : Int) : Option (Int) := iter (fun v => (S_zbm_4 k v).ev) v
noncomputable def DL_zbm_4 : LD := ⟨{ acts := [], S := { slots := [0, 1, 9, 10], sh := (.cons (.arr 64) (.cons (.dat yi) (.cons (.dat yi) (.cons (.dat yi) .nil)))), obs := [(64, .arr 3 yi)] } }, [(4, { acts := [], S := { slots := [0, 1, 9, 10], sh := (.cons (.arr 64) (.cons (.dat yi) (.cons (.dat yi) (.cons (.dat yi) .nil)))), obs := [(64, .arr 3 yi)] } })], (yh [] .nil), Int × (Int × Y1), Int, Int, fun k v => (((), (k.1, (k.2.1, (v, ())))), (k.2.2, ())), fun t => (t.1.2.1, (t.1.2.2.1, t.2.1)), fun t => t.1.2.2.2.1, S_zbm_4, fun k r => .l (.exit 4 (mkSt ({ slots := [0, 1, 9, 10], sh := (.cons (.arr 64) (.cons (.dat yi) (.cons (.dat yi) (.cons (.dat yi) .nil)))), obs := [(64, .arr 3 yi)] }) (((), (k.1, (k.2.1, (r, ())))), (k.2.2, ()))))⟩
noncomputable def S_zbm_0 (k : Int) (v : Int × (Int × Y1)) : Tr ((Int × (Int × Y1)) ⊕ (Int × Y1)) :=
 .c (Int) (L_zbm_2 (k, (v.2.1, v.2.2)) v.1) fun r14_ =>
 .c (Int) (L_zbm_4 (k, (r14_, v.2.2)) v.2.1) fun r24_ =>
 .t (decide (r24_ < r14_))
 (.l (.inr (r14_, v.2.2)))
 (.g (inR r24_ (List.length v.2.2)) <|
 .g (decide ((Int.toNat r24_) < List.length v.2.2)) <|
 .g (inR r14_ (List.length v.2.2)) <|
 .g (decide ((Int.toNat r14_) < List.length v.2.2)) <|
 .g (inR r14_ (List.length v.2.2)) <|
 .g (decide ((Int.toNat r14_) < List.length v.2.2)) <|
 .g (inR r24_ (List.length (List.set v.2.2 (Int.toNat r14_) (List.getD v.2.2 (Int.toNat r24_) (0 : Int))))) <|
 .g (decide ((Int.toNat r24_) < List.length (List.set v.2.2 (Int.toNat r14_) (List.getD v.2.2 (Int.toNat r24_) (0 : Int))))) <|
 .l (.inl ((IntKind.wrap .i64 (r14_ + (1 : Int))), ((IntKind.wrap .i64 (r24_ - (1 : Int))), (List.set (List.set v.2.2 (Int.toNat r14_) (List.getD v.2.2 (Int.toNat r24_) (0 : Int))) (Int.toNat r24_) (List.getD v.2.2 (Int.toNat r14_) (0 : Int)))))))
noncomputable def L_zbm_0 (k : Int) (v : Int × (Int × Y1)) : Option (Int × Y1) := iter (fun v => (S_zbm_0 k v).ev) v
noncomputable def DL_zbm_0 : LD := ⟨{ acts := [], S := { slots := [0, 1, 9, 10], sh := (.cons (.arr 64) (.cons (.dat yi) (.cons (.dat yi) (.cons (.dat yi) .nil)))), obs := [(64, .arr 3 yi)] } }, [(0, { acts := [], S := { slots := [0, 9], sh := (.cons (.arr 64) (.cons (.dat yi) .nil)), obs := [(64, .arr 3 yi)] } })], (yh [] .nil), Int, Int × (Int × Y1), Int × Y1, fun k v => (((), (k, (v.1, (v.2.1, ())))), (v.2.2, ())), fun t => t.1.2.1, fun t => (t.1.2.2.1, (t.1.2.2.2.1, t.2.1)), S_zbm_0, fun _ r => .l (.exit 0 (mkSt ({ slots := [0, 9], sh := (.cons (.arr 64) (.cons (.dat yi) .nil)), obs := [(64, .arr 3 yi)] }) (((), (r.1, ())), (r.2, ()))))⟩
noncomputable def T_zbm (a2_ : Int) (a3_ : Int) (a4_ : Int) (a1_ : Y1) : Tr (Int × Y1) :=
 .g (inR a4_ (List.length a1_)) <|
 .g (decide ((Int.toNat a4_) < List.length a1_)) <|
 .g (inR a2_ (List.length a1_)) <|
 .g (decide ((Int.toNat a2_) < List.length a1_)) <|
 .g (inR a2_ (List.length a1_)) <|
 .g (decide ((Int.toNat a2_) < List.length a1_)) <|
 .g (inR a4_ (List.length (List.set a1_ (Int.toNat a2_) (List.getD a1_ (Int.toNat a4_) (0 : Int))))) <|
 .g (decide ((Int.toNat a4_) < List.length (List.set a1_ (Int.toNat a2_) (List.getD a1_ (Int.toNat a4_) (0 : Int))))) <|
 .c (Int × Y1) (L_zbm_0 a2_ ((IntKind.wrap .i64 (a2_ + (1 : Int))), ((IntKind.wrap .i64 (a3_ - (1 : Int))), (List.set (List.set a1_ (Int.toNat a2_) (List.getD a1_ (Int.toNat a4_) (0 : Int))) (Int.toNat a4_) (List.getD a1_ (Int.toNat a2_) (0 : Int)))))) fun r27_ =>
 .l (r27_.1, r27_.2)
noncomputable def F_zbm (a2_ : Int) (a3_ : Int) (a4_ : Int) (a1_ : Y1) : Option (Int × Y1) := (T_zbm a2_ a3_ a4_ a1_).ev
noncomputable def A_zbm : Sh := (.cons (.arr 64) (.cons (.dat yi) (.cons (.dat yi) (.cons (.dat yi) .nil))))
noncomputable def I_zbm : List (Nat × OSh) := [(64, .arr 3 yi)]
noncomputable def K_zbm : RetK := { acts := [], res := [.tmp 8], sh := (.cons (.dat yi) .nil), obs := [(64, .arr 3 yi)], pins := [(0, 0, 64)] }
noncomputable def D_zbm : FD := ⟨A_zbm, I_zbm, [.arg 0], Int × Y1, fun x => F_zbm x.1.2.1 x.1.2.2.1 x.1.2.2.2.1 x.2.1, fun r => ([.dat yi r.1], [(64, .arr 3 yi r.2)])⟩
noncomputable def E_zbm : Env := envOf [(212, D_zb)]
noncomputable def Z_zbm : Nat → Nat → List Nat := fun _ _ => []
noncomputable def O_zbm : List (Nat × LD) := [(2, DL_zbm_2), (4, DL_zbm_4), (0, DL_zbm_0)]
noncomputable def C_zbm : Code := (f213.body).getD .skip
noncomputable def S_zbn_0 (k : Int × (Int × Y1)) (v : Int) : Tr ((Int) ⊕ (Int)) :=
 .t (decide (v ≤ k.2.1))
 (.g (inR v (List.length k.2.2)) <|
 .g (decide ((Int.toNat v) < List.length k.2.2)) <|
 .g (inR k.1 (List.length k.2.2)) <|
 .g (decide ((Int.toNat k.1) < List.length k.2.2)) <|
 .c (Bool) (F_zb (List.getD k.2.2 (Int.toNat v) (0 : Int)) (List.getD k.2.2 (Int.toNat k.1) (0 : Int))) fun r5_ =>
 .t r5_
 (.l (.inl (IntKind.wrap .i64 (v + (1 : Int)))))
 (.l (.inr v)))
 (.l (.inr v))
noncomputable def L_zbn_0 (k : Int × (Int × Y1)) (v : Int) : Option (Int) := iter (fun v => (S_zbn_0 k v).ev) v
noncomputable def DL_zbn_0 : LD := ⟨{ acts := [], S := { slots := [0, 1, 10, 11], sh := (.cons (.arr 64) (.cons (.dat yi) (.cons (.dat yi) (.cons (.dat yi) .nil)))), obs := [(64, .arr 3 yi)] } }, [(0, { acts := [], S := { slots := [0, 1, 10, 11], sh := (.cons (.arr 64) (.cons (.dat yi) (.cons (.dat yi) (.cons (.dat yi) .nil)))), obs := [(64, .arr 3 yi)] } })], (yh [] .nil), Int × (Int × Y1), Int, Int, fun k v => (((), (k.1, (v, (k.2.1, ())))), (k.2.2, ())), fun t => (t.1.2.1, (t.1.2.2.2.1, t.2.1)), fun t => t.1.2.2.1, S_zbn_0, fun k r => .l (.exit 0 (mkSt ({ slots := [0, 1, 10, 11], sh := (.cons (.arr 64) (.cons (.dat yi) (.cons (.dat yi) (.cons (.dat yi) .nil)))), obs := [(64, .arr 3 yi)] }) (((), (k.1, (r, (k.2.1, ())))), (k.2.2, ()))))⟩
noncomputable def S_zbn_2 (k : Int × (Int × Y1)) (v : Int) : Tr ((Int) ⊕ (Int)) :=
 .t (decide (k.2.1 ≤ v))
 (.g (inR v (List.length k.2.2)) <|
 .g (decide ((Int.toNat v) < List.length k.2.2)) <|
 .g (inR k.1 (List.length k.2.2)) <|
 .g (decide ((Int.toNat k.1) < List.length k.2.2)) <|
 .c (Bool) (F_zb (List.getD k.2.2 (Int.toNat v) (0 : Int)) (List.getD k.2.2 (Int.toNat k.1) (0 : Int))) fun r15_ =>
 .t (!r15_)
 (.l (.inl (IntKind.wrap .i64 (v - (1 : Int)))))
 (.l (.inr v)))
 (.l (.inr v))
noncomputable def L_zbn_2 (k : Int × (Int × Y1)) (v : Int) : Option (Int) := iter (fun v => (S_zbn_2 k v).ev) v
noncomputable def DL_zbn_2 : LD := ⟨{ acts := [], S := { slots := [0, 1, 10, 11], sh := (.cons (.arr 64) (.cons (.dat yi) (.cons (.dat yi) (.cons (.dat yi) .nil)))), obs := [(64, .arr 3 yi)] } }, [(2, { acts := [], S := { slots := [0, 1, 10, 11], sh := (.cons (.arr 64) (.cons (.dat yi) (.cons (.dat yi) (.cons (.dat yi) .nil)))), obs := [(64, .arr 3 yi)] } })], (yh [] .nil), Int × (Int × Y1), Int, Int, fun k v => (((), (k.1, (k.2.1, (v, ())))), (k.2.2, ())), fun t => (t.1.2.1, (t.1.2.2.1, t.2.1)), fun t => t.1.2.2.2.1, S_zbn_2, fun k r => .l (.exit 2 (mkSt ({ slots := [0, 1, 10, 11], sh := (.cons (.arr 64) (.cons (.dat yi) (.cons (.dat yi) (.cons (.dat yi) .nil)))), obs := [(64, .arr 3 yi)] }) (((), (k.1, (k.2.1, (r, ())))), (k.2.2, ()))))⟩
noncomputable def S_zbn_6 (k : Int × (Int × Y1)) (v : Int) : Tr ((Int) ⊕ (Int)) :=
 .t (decide (v ≤ k.2.1))
 (.g (inR v (List.length k.2.2)) <|
 .g (decide ((Int.toNat v) < List.length k.2.2)) <|
 .g (inR k.1 (List.length k.2.2)) <|
 .g (decide ((Int.toNat k.1) < List.length k.2.2)) <|
 .c (Bool) (F_zb (List.getD k.2.2 (Int.toNat v) (0 : Int)) (List.getD k.2.2 (Int.toNat k.1) (0 : Int))) fun r29_ =>
 .t r29_
 (.l (.inl (IntKind.wrap .i64 (v + (1 : Int)))))
 (.l (.inr v)))
 (.l (.inr v))
noncomputable def L_zbn_6 (k : Int × (Int × Y1)) (v : Int) : Option (Int) := iter (fun v => (S_zbn_6 k v).ev) v
noncomputable def DL_zbn_6 : LD := ⟨{ acts := [], S := { slots := [0, 1, 10, 11], sh := (.cons (.arr 64) (.cons (.dat yi) (.cons (.dat yi) (.cons (.dat yi) .nil)))), obs := [(64, .arr 3 yi)] } }, [(6, { acts := [], S := { slots := [0, 1, 10, 11], sh := (.cons (.arr 64) (.cons (.dat yi) (.cons (.dat yi) (.cons (.dat yi) .nil)))), obs := [(64, .arr 3 yi)] } })], (yh [] .nil), Int × (Int × Y1), Int, Int, fun k v => (((), (k.1, (v, (k.2.1, ())))), (k.2.2, ())), fun t => (t.1.2.1, (t.1.2.2.2.1, t.2.1)), fun t => t.1.2.2.1, S_zbn_6, fun k r => .l (.exit 6 (mkSt ({ slots := [0, 1, 10, 11], sh := (.cons (.arr 64) (.cons (.dat yi) (.cons (.dat yi) (.cons (.dat yi) .nil)))), obs := [(64, .arr 3 yi)] }) (((), (k.1, (r, (k.2.1, ())))), (k.2.2, ()))))⟩
noncomputable def S_zbn_8 (k : Int × (Int × Y1)) (v : Int) : Tr ((Int) ⊕ (Int)) :=
 .t (decide (k.2.1 ≤ v))
 (.g (inR v (List.length k.2.2)) <|
 .g (decide ((Int.toNat v) < List.length k.2.2)) <|
 .g (inR k.1 (List.length k.2.2)) <|
 .g (decide ((Int.toNat k.1) < List.length k.2.2)) <|
 .c (Bool) (F_zb (List.getD k.2.2 (Int.toNat v) (0 : Int)) (List.getD k.2.2 (Int.toNat k.1) (0 : Int))) fun r39_ =>
 .t (!r39_)
 (.l (.inl (IntKind.wrap .i64 (v - (1 : Int)))))
 (.l (.inr v)))
 (.l (.inr v))
noncomputable def L_zbn_8 (k : Int × (Int × Y1)) (v : Int) : Option (Int) := iter (fun v => (S_zbn_8 k v).ev) v
noncomputable def DL_zbn_8 : LD := ⟨{ acts := [], S := { slots := [0, 1, 10, 11], sh := (.cons (.arr 64) (.cons (.dat yi) (.cons (.dat yi) (.cons (.dat yi) .nil)))), obs := [(64, .arr 3 yi)] } }, [(8, { acts := [], S := { slots := [0, 1, 10, 11], sh := (.cons (.arr 64) (.cons (.dat yi) (.cons (.dat yi) (.cons (.dat yi) .nil)))), obs := [(64, .arr 3 yi)] } })], (yh [] .nil), Int × (Int × Y1), Int, Int, fun k v => (((), (k.1, (k.2.1, (v, ())))), (k.2.2, ())), fun t => (t.1.2.1, (t.1.2.2.1, t.2.1)), fun t => t.1.2.2.2.1, S_zbn_8, fun k r => .l (.exit 8 (mkSt ({ slots := [0, 1, 10, 11], sh := (.cons (.arr 64) (.cons (.dat yi) (.cons (.dat yi) (.cons (.dat yi) .nil)))), obs := [(64, .arr 3 yi)] }) (((), (k.1, (k.2.1, (r, ())))), (k.2.2, ()))))⟩
noncomputable def S_zbn_4 (k : Int) (v : Int × (Int × Y1)) : Tr ((Int × (Int × Y1)) ⊕ (Int × Y1)) :=
 .c (Int) (L_zbn_6 (k, (v.2.1, v.2.2)) v.1) fun r34_ =>
 .c (Int) (L_zbn_8 (k, (r34_, v.2.2)) v.2.1) fun r44_ =>
 .t (decide (r44_ < r34_))
 (.l (.inr (r44_, v.2.2)))
 (.g (inR r44_ (List.length v.2.2)) <|
 .g (decide ((Int.toNat r44_) < List.length v.2.2)) <|
 .g (inR r34_ (List.length v.2.2)) <|
 .g (decide ((Int.toNat r34_) < List.length v.2.2)) <|
 .g (inR r34_ (List.length v.2.2)) <|
 .g (decide ((Int.toNat r34_) < List.length v.2.2)) <|
 .g (inR r44_ (List.length (List.set v.2.2 (Int.toNat r34_) (List.getD v.2.2 (Int.toNat r44_) (0 : Int))))) <|
 .g (decide ((Int.toNat r44_) < List.length (List.set v.2.2 (Int.toNat r34_) (List.getD v.2.2 (Int.toNat r44_) (0 : Int))))) <|
 .l (.inl ((IntKind.wrap .i64 (r34_ + (1 : Int))), ((IntKind.wrap .i64 (r44_ - (1 : Int))), (List.set (List.set v.2.2 (Int.toNat r34_) (List.getD v.2.2 (Int.toNat r44_) (0 : Int))) (Int.toNat r44_) (List.getD v.2.2 (Int.toNat r34_) (0 : Int)))))))
noncomputable def L_zbn_4 (k : Int) (v : Int × (Int × Y1)) : Option (Int × Y1) := iter (fun v => (S_zbn_4 k v).ev) v
noncomputable def DL_zbn_4 : LD := ⟨{ acts := [], S := { slots := [0, 1, 10, 11], sh := (.cons (.arr 64) (.cons (.dat yi) (.cons (.dat yi) (.cons (.dat yi) .nil)))), obs := [(64, .arr 3 yi)] } }, [(4, { acts := [], S := { slots := [0, 1, 11], sh := (.cons (.arr 64) (.cons (.dat yi) (.cons (.dat yi) .nil))), obs := [(64, .arr 3 yi)] } })], (yh [] .nil), Int, Int × (Int × Y1), Int × Y1, fun k v => (((), (k, (v.1, (v.2.1, ())))), (v.2.2, ())), fun t => t.1.2.1, fun t => (t.1.2.2.1, (t.1.2.2.2.1, t.2.1)), S_zbn_4, fun k r => .l (.exit 4 (mkSt ({ slots := [0, 1, 11], sh := (.cons (.arr 64) (.cons (.dat yi) (.cons (.dat yi) .nil))), obs := [(64, .arr 3 yi)] }) (((), (k, (r.1, ()))), (r.2, ()))))⟩
noncomputable def T_zbn (a2_ : Int) (a3_ : Int) (a4_ : Int) (a1_ : Y1) : Tr (Int × (Bool × Y1)) :=
 .g (inR a4_ (List.length a1_)) <|
 .g (decide ((Int.toNat a4_) < List.length a1_)) <|
 .g (inR a2_ (List.length a1_)) <|
 .g (decide ((Int.toNat a2_) < List.length a1_)) <|
 .g (inR a2_ (List.length a1_)) <|
 .g (decide ((Int.toNat a2_) < List.length a1_)) <|
 .g (inR a4_ (List.length (List.set a1_ (Int.toNat a2_) (List.getD a1_ (Int.toNat a4_) (0 : Int))))) <|
 .g (decide ((Int.toNat a4_) < List.length (List.set a1_ (Int.toNat a2_) (List.getD a1_ (Int.toNat a4_) (0 : Int))))) <|
 .c (Int) (L_zbn_0 (a2_, ((IntKind.wrap .i64 (a3_ - (1 : Int))), (List.set (List.set a1_ (Int.toNat a2_) (List.getD a1_ (Int.toNat a4_) (0 : Int))) (Int.toNat a4_) (List.getD a1_ (Int.toNat a2_) (0 : Int))))) (IntKind.wrap .i64 (a2_ + (1 : Int)))) fun r10_ =>
 .c (Int) (L_zbn_2 (a2_, (r10_, (List.set (List.set a1_ (Int.toNat a2_) (List.getD a1_ (Int.toNat a4_) (0 : Int))) (Int.toNat a4_) (List.getD a1_ (Int.toNat a2_) (0 : Int))))) (IntKind.wrap .i64 (a3_ - (1 : Int)))) fun r20_ =>
 .t (decide (r20_ < r10_))
 (.g (inR a2_ (List.length (List.set (List.set a1_ (Int.toNat a2_) (List.getD a1_ (Int.toNat a4_) (0 : Int))) (Int.toNat a4_) (List.getD a1_ (Int.toNat a2_) (0 : Int))))) <|
 .g (decide ((Int.toNat a2_) < List.length (List.set (List.set a1_ (Int.toNat a2_) (List.getD a1_ (Int.toNat a4_) (0 : Int))) (Int.toNat a4_) (List.getD a1_ (Int.toNat a2_) (0 : Int))))) <|
 .g (inR r20_ (List.length (List.set (List.set a1_ (Int.toNat a2_) (List.getD a1_ (Int.toNat a4_) (0 : Int))) (Int.toNat a4_) (List.getD a1_ (Int.toNat a2_) (0 : Int))))) <|
 .g (decide ((Int.toNat r20_) < List.length (List.set (List.set a1_ (Int.toNat a2_) (List.getD a1_ (Int.toNat a4_) (0 : Int))) (Int.toNat a4_) (List.getD a1_ (Int.toNat a2_) (0 : Int))))) <|
 .g (inR r20_ (List.length (List.set (List.set a1_ (Int.toNat a2_) (List.getD a1_ (Int.toNat a4_) (0 : Int))) (Int.toNat a4_) (List.getD a1_ (Int.toNat a2_) (0 : Int))))) <|
 .g (decide ((Int.toNat r20_) < List.length (List.set (List.set a1_ (Int.toNat a2_) (List.getD a1_ (Int.toNat a4_) (0 : Int))) (Int.toNat a4_) (List.getD a1_ (Int.toNat a2_) (0 : Int))))) <|
 .g (inR a2_ (List.length (List.set (List.set (List.set a1_ (Int.toNat a2_) (List.getD a1_ (Int.toNat a4_) (0 : Int))) (Int.toNat a4_) (List.getD a1_ (Int.toNat a2_) (0 : Int))) (Int.toNat r20_) (List.getD (List.set (List.set a1_ (Int.toNat a2_) (List.getD a1_ (Int.toNat a4_) (0 : Int))) (Int.toNat a4_) (List.getD a1_ (Int.toNat a2_) (0 : Int))) (Int.toNat a2_) (0 : Int))))) <|
 .g (decide ((Int.toNat a2_) < List.length (List.set (List.set (List.set a1_ (Int.toNat a2_) (List.getD a1_ (Int.toNat a4_) (0 : Int))) (Int.toNat a4_) (List.getD a1_ (Int.toNat a2_) (0 : Int))) (Int.toNat r20_) (List.getD (List.set (List.set a1_ (Int.toNat a2_) (List.getD a1_ (Int.toNat a4_) (0 : Int))) (Int.toNat a4_) (List.getD a1_ (Int.toNat a2_) (0 : Int))) (Int.toNat a2_) (0 : Int))))) <|
 .l (r20_, (true, (List.set (List.set (List.set (List.set a1_ (Int.toNat a2_) (List.getD a1_ (Int.toNat a4_) (0 : Int))) (Int.toNat a4_) (List.getD a1_ (Int.toNat a2_) (0 : Int))) (Int.toNat r20_) (List.getD (List.set (List.set a1_ (Int.toNat a2_) (List.getD a1_ (Int.toNat a4_) (0 : Int))) (Int.toNat a4_) (List.getD a1_ (Int.toNat a2_) (0 : Int))) (Int.toNat a2_) (0 : Int))) (Int.toNat a2_) (List.getD (List.set (List.set a1_ (Int.toNat a2_) (List.getD a1_ (Int.toNat a4_) (0 : Int))) (Int.toNat a4_) (List.getD a1_ (Int.toNat a2_) (0 : Int))) (Int.toNat r20_) (0 : Int))))))
 (.g (inR r20_ (List.length (List.set (List.set a1_ (Int.toNat a2_) (List.getD a1_ (Int.toNat a4_) (0 : Int))) (Int.toNat a4_) (List.getD a1_ (Int.toNat a2_) (0 : Int))))) <|
 .g (decide ((Int.toNat r20_) < List.length (List.set (List.set a1_ (Int.toNat a2_) (List.getD a1_ (Int.toNat a4_) (0 : Int))) (Int.toNat a4_) (List.getD a1_ (Int.toNat a2_) (0 : Int))))) <|
 .g (inR r10_ (List.length (List.set (List.set a1_ (Int.toNat a2_) (List.getD a1_ (Int.toNat a4_) (0 : Int))) (Int.toNat a4_) (List.getD a1_ (Int.toNat a2_) (0 : Int))))) <|
 .g (decide ((Int.toNat r10_) < List.length (List.set (List.set a1_ (Int.toNat a2_) (List.getD a1_ (Int.toNat a4_) (0 : Int))) (Int.toNat a4_) (List.getD a1_ (Int.toNat a2_) (0 : Int))))) <|
 .g (inR r10_ (List.length (List.set (List.set a1_ (Int.toNat a2_) (List.getD a1_ (Int.toNat a4_) (0 : Int))) (Int.toNat a4_) (List.getD a1_ (Int.toNat a2_) (0 : Int))))) <|
 .g (decide ((Int.toNat r10_) < List.length (List.set (List.set a1_ (Int.toNat a2_) (List.getD a1_ (Int.toNat a4_) (0 : Int))) (Int.toNat a4_) (List.getD a1_ (Int.toNat a2_) (0 : Int))))) <|
 .g (inR r20_ (List.length (List.set (List.set (List.set a1_ (Int.toNat a2_) (List.getD a1_ (Int.toNat a4_) (0 : Int))) (Int.toNat a4_) (List.getD a1_ (Int.toNat a2_) (0 : Int))) (Int.toNat r10_) (List.getD (List.set (List.set a1_ (Int.toNat a2_) (List.getD a1_ (Int.toNat a4_) (0 : Int))) (Int.toNat a4_) (List.getD a1_ (Int.toNat a2_) (0 : Int))) (Int.toNat r20_) (0 : Int))))) <|
 .g (decide ((Int.toNat r20_) < List.length (List.set (List.set (List.set a1_ (Int.toNat a2_) (List.getD a1_ (Int.toNat a4_) (0 : Int))) (Int.toNat a4_) (List.getD a1_ (Int.toNat a2_) (0 : Int))) (Int.toNat r10_) (List.getD (List.set (List.set a1_ (Int.toNat a2_) (List.getD a1_ (Int.toNat a4_) (0 : Int))) (Int.toNat a4_) (List.getD a1_ (Int.toNat a2_) (0 : Int))) (Int.toNat r20_) (0 : Int))))) <|
 .c (Int × Y1) (L_zbn_4 a2_ ((IntKind.wrap .i64 (r10_ + (1 : Int))), ((IntKind.wrap .i64 (r20_ - (1 : Int))), (List.set (List.set (List.set (List.set a1_ (Int.toNat a2_) (List.getD a1_ (Int.toNat a4_) (0 : Int))) (Int.toNat a4_) (List.getD a1_ (Int.toNat a2_) (0 : Int))) (Int.toNat r10_) (List.getD (List.set (List.set a1_ (Int.toNat a2_) (List.getD a1_ (Int.toNat a4_) (0 : Int))) (Int.toNat a4_) (List.getD a1_ (Int.toNat a2_) (0 : Int))) (Int.toNat r20_) (0 : Int))) (Int.toNat r20_) (List.getD (List.set (List.set a1_ (Int.toNat a2_) (List.getD a1_ (Int.toNat a4_) (0 : Int))) (Int.toNat a4_) (List.getD a1_ (Int.toNat a2_) (0 : Int))) (Int.toNat r10_) (0 : Int)))))) fun r48_ =>
 .g (inR a2_ (List.length r48_.2)) <|
 .g (decide ((Int.toNat a2_) < List.length r48_.2)) <|
 .g (inR r48_.1 (List.length r48_.2)) <|
 .g (decide ((Int.toNat r48_.1) < List.length r48_.2)) <|
 .g (inR r48_.1 (List.length r48_.2)) <|
 .g (decide ((Int.toNat r48_.1) < List.length r48_.2)) <|
 .g (inR a2_ (List.length (List.set r48_.2 (Int.toNat r48_.1) (List.getD r48_.2 (Int.toNat a2_) (0 : Int))))) <|
 .g (decide ((Int.toNat a2_) < List.length (List.set r48_.2 (Int.toNat r48_.1) (List.getD r48_.2 (Int.toNat a2_) (0 : Int))))) <|
 .l (r48_.1, (false, (List.set (List.set r48_.2 (Int.toNat r48_.1) (List.getD r48_.2 (Int.toNat a2_) (0 : Int))) (Int.toNat a2_) (List.getD r48_.2 (Int.toNat r48_.1) (0 : Int))))))
noncomputable def F_zbn (a2_ : Int) (a3_ : Int) (a4_ : Int) (a1_ : Y1) : Option (Int × (Bool × Y1)) := (T_zbn a2_ a3_ a4_ a1_).ev
noncomputable def A_zbn : Sh := (.cons (.arr 64) (.cons (.dat yi) (.cons (.dat yi) (.cons (.dat yi) .nil))))
noncomputable def I_zbn : List (Nat × OSh) := [(64, .arr 3 yi)]
noncomputable def K_zbn : RetK := { acts := [], res := [.tmp 8, .tmp 9], sh := (.cons (.dat yi) (.cons (.dat .bool) .nil)), obs := [(64, .arr 3 yi)], pins := [(0, 0, 64)] }
noncomputable def D_zbn : FD := ⟨A_zbn, I_zbn, [.arg 0], Int × (Bool × Y1), fun x => F_zbn x.1.2.1 x.1.2.2.1 x.1.2.2.2.1 x.2.1, fun r => ([.dat yi r.1, .dat .bool r.2.1], [(64, .arr 3 yi r.2.2)])⟩
noncomputable def E_zbn : Env := envOf [(212, D_zb)]
noncomputable def Z_zbn : Nat → Nat → List Nat := fun _ _ => []
noncomputable def O_zbn : List (Nat × LD) := [(0, DL_zbn_0), (2, DL_zbn_2), (6, DL_zbn_6), (8, DL_zbn_8), (4, DL_zbn_4)]
noncomputable def C_zbn : Code := (f214.body).getD .skip
noncomputable def S_zbp_0 (rec_ : (Int) → (Int) → (Int) → Y1 → Option Y1) (_k : Unit) (v : Int × (Int × (Int × (Bool × (Bool × Y1))))) : Tr ((Int × (Int × (Int × (Bool × (Bool × Y1))))) ⊕ Y1) :=
 .t (decide ((IntKind.wrap .i64 (v.2.1 - v.1)) ≤ (12 : Int)))
 (.c Y1 (F_zbc v.1 v.2.1 v.2.2.2.2.2) fun r7_ =>
 .l (.inr r7_))
 (.t (v.2.2.1 == (0 : Int))
 (.c Y1 (F_zba v.1 v.2.1 v.2.2.2.2.2) fun r8_ =>
 .l (.inr r8_))
 (.t (!v.2.2.2.1)
 (.c Y1 (F_zax v.1 v.2.1 v.2.2.2.2.2) fun r9_ =>
 .c (Int × Int) (F_zaz r9_ v.1 v.2.1) fun r10_ =>
 .t (r10_.2 == (2 : Int))
 (.c Y1 (F_zbq v.1 v.2.1 r9_) fun r11_ =>
 .t v.2.2.2.1
 (.t v.2.2.2.2.1
 (.t ((1 : Int) == (1 : Int))
 (.c (Bool × Y1) (F_zbk v.1 v.2.1 r11_) fun r12_ =>
 .t r12_.1
 (.l (.inr r12_.2))
 (.t (decide ((0 : Int) < v.1))
 (.g (inR (IntKind.wrap .i64 (v.1 - (1 : Int))) (List.length r12_.2)) <|
 .g (decide ((Int.toNat (IntKind.wrap .i64 (v.1 - (1 : Int)))) < List.length r12_.2)) <|
 .g (inR (IntKind.wrap .i64 ((IntKind.wrap .i64 (v.2.1 - (1 : Int))) - (IntKind.wrap .i64 (r10_.1 - v.1)))) (List.length r12_.2)) <|
 .g (decide ((Int.toNat (IntKind.wrap .i64 ((IntKind.wrap .i64 (v.2.1 - (1 : Int))) - (IntKind.wrap .i64 (r10_.1 - v.1))))) < List.length r12_.2)) <|
 .c (Bool) (F_zb (List.getD r12_.2 (Int.toNat (IntKind.wrap .i64 (v.1 - (1 : Int)))) (0 : Int)) (List.getD r12_.2 (Int.toNat (IntKind.wrap .i64 ((IntKind.wrap .i64 (v.2.1 - (1 : Int))) - (IntKind.wrap .i64 (r10_.1 - v.1))))) (0 : Int))) fun r13_ =>
 .t (!r13_)
 (.c (Int × Y1) (F_zbm v.1 v.2.1 (IntKind.wrap .i64 ((IntKind.wrap .i64 (v.2.1 - (1 : Int))) - (IntKind.wrap .i64 (r10_.1 - v.1)))) r12_.2) fun r14_ =>
 .l (.inl (r14_.1, (v.2.1, ((IntKind.wrap .i64 (v.2.2.1 - (1 : Int))), (v.2.2.2.1, (v.2.2.2.2.1, r14_.2)))))))
 (.c (Int × (Bool × Y1)) (F_zbn v.1 v.2.1 (IntKind.wrap .i64 ((IntKind.wrap .i64 (v.2.1 - (1 : Int))) - (IntKind.wrap .i64 (r10_.1 - v.1)))) r12_.2) fun r15_ =>
 .g (!decide ((8 : Int) = 0)) <|
 .t (decide ((IntKind.wrap .i64 (r15_.1 - v.1)) < (IntKind.wrap .i64 (v.2.1 - r15_.1))))
 (.c Y1 (rec_ v.1 r15_.1 (IntKind.wrap .i64 (v.2.2.1 - (1 : Int))) r15_.2.2) fun r16_ =>
 .l (.inl ((IntKind.wrap .i64 (r15_.1 + (1 : Int))), (v.2.1, ((IntKind.wrap .i64 (v.2.2.1 - (1 : Int))), ((decide ((IntKind.wrap .i64 (Int.tdiv (IntKind.wrap .i64 (v.2.1 - v.1)) (8 : Int))) ≤ (IntKind.wrap .i64 (r15_.1 - v.1)))), (r15_.2.1, r16_)))))))
 (.c Y1 (rec_ (IntKind.wrap .i64 (r15_.1 + (1 : Int))) v.2.1 (IntKind.wrap .i64 (v.2.2.1 - (1 : Int))) r15_.2.2) fun r17_ =>
 .l (.inl (v.1, (r15_.1, ((IntKind.wrap .i64 (v.2.2.1 - (1 : Int))), ((decide ((IntKind.wrap .i64 (Int.tdiv (IntKind.wrap .i64 (v.2.1 - v.1)) (8 : Int))) ≤ (IntKind.wrap .i64 (v.2.1 - r15_.1)))), (r15_.2.1, r17_)))))))))
 (.c (Int × (Bool × Y1)) (F_zbn v.1 v.2.1 (IntKind.wrap .i64 ((IntKind.wrap .i64 (v.2.1 - (1 : Int))) - (IntKind.wrap .i64 (r10_.1 - v.1)))) r12_.2) fun r18_ =>
 .g (!decide ((8 : Int) = 0)) <|
 .t (decide ((IntKind.wrap .i64 (r18_.1 - v.1)) < (IntKind.wrap .i64 (v.2.1 - r18_.1))))
 (.c Y1 (rec_ v.1 r18_.1 (IntKind.wrap .i64 (v.2.2.1 - (1 : Int))) r18_.2.2) fun r19_ =>
 .l (.inl ((IntKind.wrap .i64 (r18_.1 + (1 : Int))), (v.2.1, ((IntKind.wrap .i64 (v.2.2.1 - (1 : Int))), ((decide ((IntKind.wrap .i64 (Int.tdiv (IntKind.wrap .i64 (v.2.1 - v.1)) (8 : Int))) ≤ (IntKind.wrap .i64 (r18_.1 - v.1)))), (r18_.2.1, r19_)))))))
 (.c Y1 (rec_ (IntKind.wrap .i64 (r18_.1 + (1 : Int))) v.2.1 (IntKind.wrap .i64 (v.2.2.1 - (1 : Int))) r18_.2.2) fun r20_ =>
 .l (.inl (v.1, (r18_.1, ((IntKind.wrap .i64 (v.2.2.1 - (1 : Int))), ((decide ((IntKind.wrap .i64 (Int.tdiv (IntKind.wrap .i64 (v.2.1 - v.1)) (8 : Int))) ≤ (IntKind.wrap .i64 (v.2.1 - r18_.1)))), (r18_.2.1, r20_))))))))))
 (.t (decide ((0 : Int) < v.1))
 (.g (inR (IntKind.wrap .i64 (v.1 - (1 : Int))) (List.length r11_)) <|
 .g (decide ((Int.toNat (IntKind.wrap .i64 (v.1 - (1 : Int)))) < List.length r11_)) <|
 .g (inR (IntKind.wrap .i64 ((IntKind.wrap .i64 (v.2.1 - (1 : Int))) - (IntKind.wrap .i64 (r10_.1 - v.1)))) (List.length r11_)) <|
 .g (decide ((Int.toNat (IntKind.wrap .i64 ((IntKind.wrap .i64 (v.2.1 - (1 : Int))) - (IntKind.wrap .i64 (r10_.1 - v.1))))) < List.length r11_)) <|
 .c (Bool) (F_zb (List.getD r11_ (Int.toNat (IntKind.wrap .i64 (v.1 - (1 : Int)))) (0 : Int)) (List.getD r11_ (Int.toNat (IntKind.wrap .i64 ((IntKind.wrap .i64 (v.2.1 - (1 : Int))) - (IntKind.wrap .i64 (r10_.1 - v.1))))) (0 : Int))) fun r21_ =>
 .t (!r21_)
 (.c (Int × Y1) (F_zbm v.1 v.2.1 (IntKind.wrap .i64 ((IntKind.wrap .i64 (v.2.1 - (1 : Int))) - (IntKind.wrap .i64 (r10_.1 - v.1)))) r11_) fun r22_ =>
 .l (.inl (r22_.1, (v.2.1, ((IntKind.wrap .i64 (v.2.2.1 - (1 : Int))), (v.2.2.2.1, (v.2.2.2.2.1, r22_.2)))))))
 (.c (Int × (Bool × Y1)) (F_zbn v.1 v.2.1 (IntKind.wrap .i64 ((IntKind.wrap .i64 (v.2.1 - (1 : Int))) - (IntKind.wrap .i64 (r10_.1 - v.1)))) r11_) fun r23_ =>
 .g (!decide ((8 : Int) = 0)) <|
 .t (decide ((IntKind.wrap .i64 (r23_.1 - v.1)) < (IntKind.wrap .i64 (v.2.1 - r23_.1))))
 (.c Y1 (rec_ v.1 r23_.1 (IntKind.wrap .i64 (v.2.2.1 - (1 : Int))) r23_.2.2) fun r24_ =>
 .l (.inl ((IntKind.wrap .i64 (r23_.1 + (1 : Int))), (v.2.1, ((IntKind.wrap .i64 (v.2.2.1 - (1 : Int))), ((decide ((IntKind.wrap .i64 (Int.tdiv (IntKind.wrap .i64 (v.2.1 - v.1)) (8 : Int))) ≤ (IntKind.wrap .i64 (r23_.1 - v.1)))), (r23_.2.1, r24_)))))))
 (.c Y1 (rec_ (IntKind.wrap .i64 (r23_.1 + (1 : Int))) v.2.1 (IntKind.wrap .i64 (v.2.2.1 - (1 : Int))) r23_.2.2) fun r25_ =>
 .l (.inl (v.1, (r23_.1, ((IntKind.wrap .i64 (v.2.2.1 - (1 : Int))), ((decide ((IntKind.wrap .i64 (Int.tdiv (IntKind.wrap .i64 (v.2.1 - v.1)) (8 : Int))) ≤ (IntKind.wrap .i64 (v.2.1 - r23_.1)))), (r23_.2.1, r25_)))))))))
 (.c (Int × (Bool × Y1)) (F_zbn v.1 v.2.1 (IntKind.wrap .i64 ((IntKind.wrap .i64 (v.2.1 - (1 : Int))) - (IntKind.wrap .i64 (r10_.1 - v.1)))) r11_) fun r26_ =>
 .g (!decide ((8 : Int) = 0)) <|
 .t (decide ((IntKind.wrap .i64 (r26_.1 - v.1)) < (IntKind.wrap .i64 (v.2.1 - r26_.1))))
 (.c Y1 (rec_ v.1 r26_.1 (IntKind.wrap .i64 (v.2.2.1 - (1 : Int))) r26_.2.2) fun r27_ =>
 .l (.inl ((IntKind.wrap .i64 (r26_.1 + (1 : Int))), (v.2.1, ((IntKind.wrap .i64 (v.2.2.1 - (1 : Int))), ((decide ((IntKind.wrap .i64 (Int.tdiv (IntKind.wrap .i64 (v.2.1 - v.1)) (8 : Int))) ≤ (IntKind.wrap .i64 (r26_.1 - v.1)))), (r26_.2.1, r27_)))))))
 (.c Y1 (rec_ (IntKind.wrap .i64 (r26_.1 + (1 : Int))) v.2.1 (IntKind.wrap .i64 (v.2.2.1 - (1 : Int))) r26_.2.2) fun r28_ =>
 .l (.inl (v.1, (r26_.1, ((IntKind.wrap .i64 (v.2.2.1 - (1 : Int))), ((decide ((IntKind.wrap .i64 (Int.tdiv (IntKind.wrap .i64 (v.2.1 - v.1)) (8 : Int))) ≤ (IntKind.wrap .i64 (v.2.1 - r26_.1)))), (r26_.2.1, r28_))))))))))
 (.t (decide ((0 : Int) < v.1))
 (.g (inR (IntKind.wrap .i64 (v.1 - (1 : Int))) (List.length r11_)) <|
 .g (decide ((Int.toNat (IntKind.wrap .i64 (v.1 - (1 : Int)))) < List.length r11_)) <|
 .g (inR (IntKind.wrap .i64 ((IntKind.wrap .i64 (v.2.1 - (1 : Int))) - (IntKind.wrap .i64 (r10_.1 - v.1)))) (List.length r11_)) <|
 .g (decide ((Int.toNat (IntKind.wrap .i64 ((IntKind.wrap .i64 (v.2.1 - (1 : Int))) - (IntKind.wrap .i64 (r10_.1 - v.1))))) < List.length r11_)) <|
 .c (Bool) (F_zb (List.getD r11_ (Int.toNat (IntKind.wrap .i64 (v.1 - (1 : Int)))) (0 : Int)) (List.getD r11_ (Int.toNat (IntKind.wrap .i64 ((IntKind.wrap .i64 (v.2.1 - (1 : Int))) - (IntKind.wrap .i64 (r10_.1 - v.1))))) (0 : Int))) fun r29_ =>
 .t (!r29_)
 (.c (Int × Y1) (F_zbm v.1 v.2.1 (IntKind.wrap .i64 ((IntKind.wrap .i64 (v.2.1 - (1 : Int))) - (IntKind.wrap .i64 (r10_.1 - v.1)))) r11_) fun r30_ =>
 .l (.inl (r30_.1, (v.2.1, ((IntKind.wrap .i64 (v.2.2.1 - (1 : Int))), (v.2.2.2.1, (v.2.2.2.2.1, r30_.2)))))))
 (.c (Int × (Bool × Y1)) (F_zbn v.1 v.2.1 (IntKind.wrap .i64 ((IntKind.wrap .i64 (v.2.1 - (1 : Int))) - (IntKind.wrap .i64 (r10_.1 - v.1)))) r11_) fun r31_ =>
 .g (!decide ((8 : Int) = 0)) <|
 .t (decide ((IntKind.wrap .i64 (r31_.1 - v.1)) < (IntKind.wrap .i64 (v.2.1 - r31_.1))))
 (.c Y1 (rec_ v.1 r31_.1 (IntKind.wrap .i64 (v.2.2.1 - (1 : Int))) r31_.2.2) fun r32_ =>
 .l (.inl ((IntKind.wrap .i64 (r31_.1 + (1 : Int))), (v.2.1, ((IntKind.wrap .i64 (v.2.2.1 - (1 : Int))), ((decide ((IntKind.wrap .i64 (Int.tdiv (IntKind.wrap .i64 (v.2.1 - v.1)) (8 : Int))) ≤ (IntKind.wrap .i64 (r31_.1 - v.1)))), (r31_.2.1, r32_)))))))
 (.c Y1 (rec_ (IntKind.wrap .i64 (r31_.1 + (1 : Int))) v.2.1 (IntKind.wrap .i64 (v.2.2.1 - (1 : Int))) r31_.2.2) fun r33_ =>
 .l (.inl (v.1, (r31_.1, ((IntKind.wrap .i64 (v.2.2.1 - (1 : Int))), ((decide ((IntKind.wrap .i64 (Int.tdiv (IntKind.wrap .i64 (v.2.1 - v.1)) (8 : Int))) ≤ (IntKind.wrap .i64 (v.2.1 - r31_.1)))), (r31_.2.1, r33_)))))))))
 (.c (Int × (Bool × Y1)) (F_zbn v.1 v.2.1 (IntKind.wrap .i64 ((IntKind.wrap .i64 (v.2.1 - (1 : Int))) - (IntKind.wrap .i64 (r10_.1 - v.1)))) r11_) fun r34_ =>
 .g (!decide ((8 : Int) = 0)) <|
 .t (decide ((IntKind.wrap .i64 (r34_.1 - v.1)) < (IntKind.wrap .i64 (v.2.1 - r34_.1))))
 (.c Y1 (rec_ v.1 r34_.1 (IntKind.wrap .i64 (v.2.2.1 - (1 : Int))) r34_.2.2) fun r35_ =>
 .l (.inl ((IntKind.wrap .i64 (r34_.1 + (1 : Int))), (v.2.1, ((IntKind.wrap .i64 (v.2.2.1 - (1 : Int))), ((decide ((IntKind.wrap .i64 (Int.tdiv (IntKind.wrap .i64 (v.2.1 - v.1)) (8 : Int))) ≤ (IntKind.wrap .i64 (r34_.1 - v.1)))), (r34_.2.1, r35_)))))))
 (.c Y1 (rec_ (IntKind.wrap .i64 (r34_.1 + (1 : Int))) v.2.1 (IntKind.wrap .i64 (v.2.2.1 - (1 : Int))) r34_.2.2) fun r36_ =>
 .l (.inl (v.1, (r34_.1, ((IntKind.wrap .i64 (v.2.2.1 - (1 : Int))), ((decide ((IntKind.wrap .i64 (Int.tdiv (IntKind.wrap .i64 (v.2.1 - v.1)) (8 : Int))) ≤ (IntKind.wrap .i64 (v.2.1 - r34_.1)))), (r34_.2.1, r36_))))))))))
 (.t (decide ((0 : Int) < v.1))
 (.g (inR (IntKind.wrap .i64 (v.1 - (1 : Int))) (List.length r11_)) <|
 .g (decide ((Int.toNat (IntKind.wrap .i64 (v.1 - (1 : Int)))) < List.length r11_)) <|
 .g (inR (IntKind.wrap .i64 ((IntKind.wrap .i64 (v.2.1 - (1 : Int))) - (IntKind.wrap .i64 (r10_.1 - v.1)))) (List.length r11_)) <|
 .g (decide ((Int.toNat (IntKind.wrap .i64 ((IntKind.wrap .i64 (v.2.1 - (1 : Int))) - (IntKind.wrap .i64 (r10_.1 - v.1))))) < List.length r11_)) <|
 .c (Bool) (F_zb (List.getD r11_ (Int.toNat (IntKind.wrap .i64 (v.1 - (1 : Int)))) (0 : Int)) (List.getD r11_ (Int.toNat (IntKind.wrap .i64 ((IntKind.wrap .i64 (v.2.1 - (1 : Int))) - (IntKind.wrap .i64 (r10_.1 - v.1))))) (0 : Int))) fun r37_ =>
 .t (!r37_)
 (.c (Int × Y1) (F_zbm v.1 v.2.1 (IntKind.wrap .i64 ((IntKind.wrap .i64 (v.2.1 - (1 : Int))) - (IntKind.wrap .i64 (r10_.1 - v.1)))) r11_) fun r38_ =>
 .l (.inl (r38_.1, (v.2.1, ((IntKind.wrap .i64 (v.2.2.1 - (1 : Int))), (v.2.2.2.1, (v.2.2.2.2.1, r38_.2)))))))
 (.c (Int × (Bool × Y1)) (F_zbn v.1 v.2.1 (IntKind.wrap .i64 ((IntKind.wrap .i64 (v.2.1 - (1 : Int))) - (IntKind.wrap .i64 (r10_.1 - v.1)))) r11_) fun r39_ =>
 .g (!decide ((8 : Int) = 0)) <|
 .t (decide ((IntKind.wrap .i64 (r39_.1 - v.1)) < (IntKind.wrap .i64 (v.2.1 - r39_.1))))
 (.c Y1 (rec_ v.1 r39_.1 (IntKind.wrap .i64 (v.2.2.1 - (1 : Int))) r39_.2.2) fun r40_ =>
 .l (.inl ((IntKind.wrap .i64 (r39_.1 + (1 : Int))), (v.2.1, ((IntKind.wrap .i64 (v.2.2.1 - (1 : Int))), ((decide ((IntKind.wrap .i64 (Int.tdiv (IntKind.wrap .i64 (v.2.1 - v.1)) (8 : Int))) ≤ (IntKind.wrap .i64 (r39_.1 - v.1)))), (r39_.2.1, r40_)))))))
 (.c Y1 (rec_ (IntKind.wrap .i64 (r39_.1 + (1 : Int))) v.2.1 (IntKind.wrap .i64 (v.2.2.1 - (1 : Int))) r39_.2.2) fun r41_ =>
 .l (.inl (v.1, (r39_.1, ((IntKind.wrap .i64 (v.2.2.1 - (1 : Int))), ((decide ((IntKind.wrap .i64 (Int.tdiv (IntKind.wrap .i64 (v.2.1 - v.1)) (8 : Int))) ≤ (IntKind.wrap .i64 (v.2.1 - r39_.1)))), (r39_.2.1, r41_)))))))))
 (.c (Int × (Bool × Y1)) (F_zbn v.1 v.2.1 (IntKind.wrap .i64 ((IntKind.wrap .i64 (v.2.1 - (1 : Int))) - (IntKind.wrap .i64 (r10_.1 - v.1)))) r11_) fun r42_ =>
 .g (!decide ((8 : Int) = 0)) <|
 .t (decide ((IntKind.wrap .i64 (r42_.1 - v.1)) < (IntKind.wrap .i64 (v.2.1 - r42_.1))))
 (.c Y1 (rec_ v.1 r42_.1 (IntKind.wrap .i64 (v.2.2.1 - (1 : Int))) r42_.2.2) fun r43_ =>
 .l (.inl ((IntKind.wrap .i64 (r42_.1 + (1 : Int))), (v.2.1, ((IntKind.wrap .i64 (v.2.2.1 - (1 : Int))), ((decide ((IntKind.wrap .i64 (Int.tdiv (IntKind.wrap .i64 (v.2.1 - v.1)) (8 : Int))) ≤ (IntKind.wrap .i64 (r42_.1 - v.1)))), (r42_.2.1, r43_)))))))
 (.c Y1 (rec_ (IntKind.wrap .i64 (r42_.1 + (1 : Int))) v.2.1 (IntKind.wrap .i64 (v.2.2.1 - (1 : Int))) r42_.2.2) fun r44_ =>
 .l (.inl (v.1, (r42_.1, ((IntKind.wrap .i64 (v.2.2.1 - (1 : Int))), ((decide ((IntKind.wrap .i64 (Int.tdiv (IntKind.wrap .i64 (v.2.1 - v.1)) (8 : Int))) ≤ (IntKind.wrap .i64 (v.2.1 - r42_.1)))), (r42_.2.1, r44_))))))))))
 (.t v.2.2.2.1
 (.t v.2.2.2.2.1
 (.t (r10_.2 == (1 : Int))
 (.c (Bool × Y1) (F_zbk v.1 v.2.1 r9_) fun r45_ =>
 .t r45_.1
 (.l (.inr r45_.2))
 (.t (decide ((0 : Int) < v.1))
 (.g (inR (IntKind.wrap .i64 (v.1 - (1 : Int))) (List.length r45_.2)) <|
 .g (decide ((Int.toNat (IntKind.wrap .i64 (v.1 - (1 : Int)))) < List.length r45_.2)) <|
 .g (inR r10_.1 (List.length r45_.2)) <|
 .g (decide ((Int.toNat r10_.1) < List.length r45_.2)) <|
 .c (Bool) (F_zb (List.getD r45_.2 (Int.toNat (IntKind.wrap .i64 (v.1 - (1 : Int)))) (0 : Int)) (List.getD r45_.2 (Int.toNat r10_.1) (0 : Int))) fun r46_ =>
 .t (!r46_)
 (.c (Int × Y1) (F_zbm v.1 v.2.1 r10_.1 r45_.2) fun r47_ =>
 .l (.inl (r47_.1, (v.2.1, ((IntKind.wrap .i64 (v.2.2.1 - (1 : Int))), (v.2.2.2.1, (v.2.2.2.2.1, r47_.2)))))))
 (.c (Int × (Bool × Y1)) (F_zbn v.1 v.2.1 r10_.1 r45_.2) fun r48_ =>
 .g (!decide ((8 : Int) = 0)) <|
 .t (decide ((IntKind.wrap .i64 (r48_.1 - v.1)) < (IntKind.wrap .i64 (v.2.1 - r48_.1))))
 (.c Y1 (rec_ v.1 r48_.1 (IntKind.wrap .i64 (v.2.2.1 - (1 : Int))) r48_.2.2) fun r49_ =>
 .l (.inl ((IntKind.wrap .i64 (r48_.1 + (1 : Int))), (v.2.1, ((IntKind.wrap .i64 (v.2.2.1 - (1 : Int))), ((decide ((IntKind.wrap .i64 (Int.tdiv (IntKind.wrap .i64 (v.2.1 - v.1)) (8 : Int))) ≤ (IntKind.wrap .i64 (r48_.1 - v.1)))), (r48_.2.1, r49_)))))))
 (.c Y1 (rec_ (IntKind.wrap .i64 (r48_.1 + (1 : Int))) v.2.1 (IntKind.wrap .i64 (v.2.2.1 - (1 : Int))) r48_.2.2) fun r50_ =>
 .l (.inl (v.1, (r48_.1, ((IntKind.wrap .i64 (v.2.2.1 - (1 : Int))), ((decide ((IntKind.wrap .i64 (Int.tdiv (IntKind.wrap .i64 (v.2.1 - v.1)) (8 : Int))) ≤ (IntKind.wrap .i64 (v.2.1 - r48_.1)))), (r48_.2.1, r50_)))))))))
 (.c (Int × (Bool × Y1)) (F_zbn v.1 v.2.1 r10_.1 r45_.2) fun r51_ =>
 .g (!decide ((8 : Int) = 0)) <|
 .t (decide ((IntKind.wrap .i64 (r51_.1 - v.1)) < (IntKind.wrap .i64 (v.2.1 - r51_.1))))
 (.c Y1 (rec_ v.1 r51_.1 (IntKind.wrap .i64 (v.2.2.1 - (1 : Int))) r51_.2.2) fun r52_ =>
 .l (.inl ((IntKind.wrap .i64 (r51_.1 + (1 : Int))), (v.2.1, ((IntKind.wrap .i64 (v.2.2.1 - (1 : Int))), ((decide ((IntKind.wrap .i64 (Int.tdiv (IntKind.wrap .i64 (v.2.1 - v.1)) (8 : Int))) ≤ (IntKind.wrap .i64 (r51_.1 - v.1)))), (r51_.2.1, r52_)))))))
 (.c Y1 (rec_ (IntKind.wrap .i64 (r51_.1 + (1 : Int))) v.2.1 (IntKind.wrap .i64 (v.2.2.1 - (1 : Int))) r51_.2.2) fun r53_ =>
 .l (.inl (v.1, (r51_.1, ((IntKind.wrap .i64 (v.2.2.1 - (1 : Int))), ((decide ((IntKind.wrap .i64 (Int.tdiv (IntKind.wrap .i64 (v.2.1 - v.1)) (8 : Int))) ≤ (IntKind.wrap .i64 (v.2.1 - r51_.1)))), (r51_.2.1, r53_))))))))))
 (.t (decide ((0 : Int) < v.1))
 (.g (inR (IntKind.wrap .i64 (v.1 - (1 : Int))) (List.length r9_)) <|
 .g (decide ((Int.toNat (IntKind.wrap .i64 (v.1 - (1 : Int)))) < List.length r9_)) <|
 .g (inR r10_.1 (List.length r9_)) <|
 .g (decide ((Int.toNat r10_.1) < List.length r9_)) <|
 .c (Bool) (F_zb (List.getD r9_ (Int.toNat (IntKind.wrap .i64 (v.1 - (1 : Int)))) (0 : Int)) (List.getD r9_ (Int.toNat r10_.1) (0 : Int))) fun r54_ =>
 .t (!r54_)
 (.c (Int × Y1) (F_zbm v.1 v.2.1 r10_.1 r9_) fun r55_ =>
 .l (.inl (r55_.1, (v.2.1, ((IntKind.wrap .i64 (v.2.2.1 - (1 : Int))), (v.2.2.2.1, (v.2.2.2.2.1, r55_.2)))))))
 (.c (Int × (Bool × Y1)) (F_zbn v.1 v.2.1 r10_.1 r9_) fun r56_ =>
 .g (!decide ((8 : Int) = 0)) <|
 .t (decide ((IntKind.wrap .i64 (r56_.1 - v.1)) < (IntKind.wrap .i64 (v.2.1 - r56_.1))))
 (.c Y1 (rec_ v.1 r56_.1 (IntKind.wrap .i64 (v.2.2.1 - (1 : Int))) r56_.2.2) fun r57_ =>
 .l (.inl ((IntKind.wrap .i64 (r56_.1 + (1 : Int))), (v.2.1, ((IntKind.wrap .i64 (v.2.2.1 - (1 : Int))), ((decide ((IntKind.wrap .i64 (Int.tdiv (IntKind.wrap .i64 (v.2.1 - v.1)) (8 : Int))) ≤ (IntKind.wrap .i64 (r56_.1 - v.1)))), (r56_.2.1, r57_)))))))
 (.c Y1 (rec_ (IntKind.wrap .i64 (r56_.1 + (1 : Int))) v.2.1 (IntKind.wrap .i64 (v.2.2.1 - (1 : Int))) r56_.2.2) fun r58_ =>
 .l (.inl (v.1, (r56_.1, ((IntKind.wrap .i64 (v.2.2.1 - (1 : Int))), ((decide ((IntKind.wrap .i64 (Int.tdiv (IntKind.wrap .i64 (v.2.1 - v.1)) (8 : Int))) ≤ (IntKind.wrap .i64 (v.2.1 - r56_.1)))), (r56_.2.1, r58_)))))))))
 (.c (Int × (Bool × Y1)) (F_zbn v.1 v.2.1 r10_.1 r9_) fun r59_ =>
 .g (!decide ((8 : Int) = 0)) <|
 .t (decide ((IntKind.wrap .i64 (r59_.1 - v.1)) < (IntKind.wrap .i64 (v.2.1 - r59_.1))))
 (.c Y1 (rec_ v.1 r59_.1 (IntKind.wrap .i64 (v.2.2.1 - (1 : Int))) r59_.2.2) fun r60_ =>
 .l (.inl ((IntKind.wrap .i64 (r59_.1 + (1 : Int))), (v.2.1, ((IntKind.wrap .i64 (v.2.2.1 - (1 : Int))), ((decide ((IntKind.wrap .i64 (Int.tdiv (IntKind.wrap .i64 (v.2.1 - v.1)) (8 : Int))) ≤ (IntKind.wrap .i64 (r59_.1 - v.1)))), (r59_.2.1, r60_)))))))
 (.c Y1 (rec_ (IntKind.wrap .i64 (r59_.1 + (1 : Int))) v.2.1 (IntKind.wrap .i64 (v.2.2.1 - (1 : Int))) r59_.2.2) fun r61_ =>
 .l (.inl (v.1, (r59_.1, ((IntKind.wrap .i64 (v.2.2.1 - (1 : Int))), ((decide ((IntKind.wrap .i64 (Int.tdiv (IntKind.wrap .i64 (v.2.1 - v.1)) (8 : Int))) ≤ (IntKind.wrap .i64 (v.2.1 - r59_.1)))), (r59_.2.1, r61_))))))))))
 (.t (decide ((0 : Int) < v.1))
 (.g (inR (IntKind.wrap .i64 (v.1 - (1 : Int))) (List.length r9_)) <|
 .g (decide ((Int.toNat (IntKind.wrap .i64 (v.1 - (1 : Int)))) < List.length r9_)) <|
 .g (inR r10_.1 (List.length r9_)) <|
 .g (decide ((Int.toNat r10_.1) < List.length r9_)) <|
 .c (Bool) (F_zb (List.getD r9_ (Int.toNat (IntKind.wrap .i64 (v.1 - (1 : Int)))) (0 : Int)) (List.getD r9_ (Int.toNat r10_.1) (0 : Int))) fun r62_ =>
 .t (!r62_)
 (.c (Int × Y1) (F_zbm v.1 v.2.1 r10_.1 r9_) fun r63_ =>
 .l (.inl (r63_.1, (v.2.1, ((IntKind.wrap .i64 (v.2.2.1 - (1 : Int))), (v.2.2.2.1, (v.2.2.2.2.1, r63_.2)))))))
 (.c (Int × (Bool × Y1)) (F_zbn v.1 v.2.1 r10_.1 r9_) fun r64_ =>
 .g (!decide ((8 : Int) = 0)) <|
 .t (decide ((IntKind.wrap .i64 (r64_.1 - v.1)) < (IntKind.wrap .i64 (v.2.1 - r64_.1))))
 (.c Y1 (rec_ v.1 r64_.1 (IntKind.wrap .i64 (v.2.2.1 - (1 : Int))) r64_.2.2) fun r65_ =>
 .l (.inl ((IntKind.wrap .i64 (r64_.1 + (1 : Int))), (v.2.1, ((IntKind.wrap .i64 (v.2.2.1 - (1 : Int))), ((decide ((IntKind.wrap .i64 (Int.tdiv (IntKind.wrap .i64 (v.2.1 - v.1)) (8 : Int))) ≤ (IntKind.wrap .i64 (r64_.1 - v.1)))), (r64_.2.1, r65_)))))))
 (.c Y1 (rec_ (IntKind.wrap .i64 (r64_.1 + (1 : Int))) v.2.1 (IntKind.wrap .i64 (v.2.2.1 - (1 : Int))) r64_.2.2) fun r66_ =>
 .l (.inl (v.1, (r64_.1, ((IntKind.wrap .i64 (v.2.2.1 - (1 : Int))), ((decide ((IntKind.wrap .i64 (Int.tdiv (IntKind.wrap .i64 (v.2.1 - v.1)) (8 : Int))) ≤ (IntKind.wrap .i64 (v.2.1 - r64_.1)))), (r64_.2.1, r66_)))))))))
 (.c (Int × (Bool × Y1)) (F_zbn v.1 v.2.1 r10_.1 r9_) fun r67_ =>
 .g (!decide ((8 : Int) = 0)) <|
 .t (decide ((IntKind.wrap .i64 (r67_.1 - v.1)) < (IntKind.wrap .i64 (v.2.1 - r67_.1))))
 (.c Y1 (rec_ v.1 r67_.1 (IntKind.wrap .i64 (v.2.2.1 - (1 : Int))) r67_.2.2) fun r68_ =>
 .l (.inl ((IntKind.wrap .i64 (r67_.1 + (1 : Int))), (v.2.1, ((IntKind.wrap .i64 (v.2.2.1 - (1 : Int))), ((decide ((IntKind.wrap .i64 (Int.tdiv (IntKind.wrap .i64 (v.2.1 - v.1)) (8 : Int))) ≤ (IntKind.wrap .i64 (r67_.1 - v.1)))), (r67_.2.1, r68_)))))))
 (.c Y1 (rec_ (IntKind.wrap .i64 (r67_.1 + (1 : Int))) v.2.1 (IntKind.wrap .i64 (v.2.2.1 - (1 : Int))) r67_.2.2) fun r69_ =>
 .l (.inl (v.1, (r67_.1, ((IntKind.wrap .i64 (v.2.2.1 - (1 : Int))), ((decide ((IntKind.wrap .i64 (Int.tdiv (IntKind.wrap .i64 (v.2.1 - v.1)) (8 : Int))) ≤ (IntKind.wrap .i64 (v.2.1 - r67_.1)))), (r67_.2.1, r69_))))))))))
 (.t (decide ((0 : Int) < v.1))
 (.g (inR (IntKind.wrap .i64 (v.1 - (1 : Int))) (List.length r9_)) <|
 .g (decide ((Int.toNat (IntKind.wrap .i64 (v.1 - (1 : Int)))) < List.length r9_)) <|
 .g (inR r10_.1 (List.length r9_)) <|
 .g (decide ((Int.toNat r10_.1) < List.length r9_)) <|
 .c (Bool) (F_zb (List.getD r9_ (Int.toNat (IntKind.wrap .i64 (v.1 - (1 : Int)))) (0 : Int)) (List.getD r9_ (Int.toNat r10_.1) (0 : Int))) fun r70_ =>
 .t (!r70_)
 (.c (Int × Y1) (F_zbm v.1 v.2.1 r10_.1 r9_) fun r71_ =>
 .l (.inl (r71_.1, (v.2.1, ((IntKind.wrap .i64 (v.2.2.1 - (1 : Int))), (v.2.2.2.1, (v.2.2.2.2.1, r71_.2)))))))
 (.c (Int × (Bool × Y1)) (F_zbn v.1 v.2.1 r10_.1 r9_) fun r72_ =>
 .g (!decide ((8 : Int) = 0)) <|
 .t (decide ((IntKind.wrap .i64 (r72_.1 - v.1)) < (IntKind.wrap .i64 (v.2.1 - r72_.1))))
 (.c Y1 (rec_ v.1 r72_.1 (IntKind.wrap .i64 (v.2.2.1 - (1 : Int))) r72_.2.2) fun r73_ =>
 .l (.inl ((IntKind.wrap .i64 (r72_.1 + (1 : Int))), (v.2.1, ((IntKind.wrap .i64 (v.2.2.1 - (1 : Int))), ((decide ((IntKind.wrap .i64 (Int.tdiv (IntKind.wrap .i64 (v.2.1 - v.1)) (8 : Int))) ≤ (IntKind.wrap .i64 (r72_.1 - v.1)))), (r72_.2.1, r73_)))))))
 (.c Y1 (rec_ (IntKind.wrap .i64 (r72_.1 + (1 : Int))) v.2.1 (IntKind.wrap .i64 (v.2.2.1 - (1 : Int))) r72_.2.2) fun r74_ =>
 .l (.inl (v.1, (r72_.1, ((IntKind.wrap .i64 (v.2.2.1 - (1 : Int))), ((decide ((IntKind.wrap .i64 (Int.tdiv (IntKind.wrap .i64 (v.2.1 - v.1)) (8 : Int))) ≤ (IntKind.wrap .i64 (v.2.1 - r72_.1)))), (r72_.2.1, r74_)))))))))
 (.c (Int × (Bool × Y1)) (F_zbn v.1 v.2.1 r10_.1 r9_) fun r75_ =>
 .g (!decide ((8 : Int) = 0)) <|
 .t (decide ((IntKind.wrap .i64 (r75_.1 - v.1)) < (IntKind.wrap .i64 (v.2.1 - r75_.1))))
 (.c Y1 (rec_ v.1 r75_.1 (IntKind.wrap .i64 (v.2.2.1 - (1 : Int))) r75_.2.2) fun r76_ =>
 .l (.inl ((IntKind.wrap .i64 (r75_.1 + (1 : Int))), (v.2.1, ((IntKind.wrap .i64 (v.2.2.1 - (1 : Int))), ((decide ((IntKind.wrap .i64 (Int.tdiv (IntKind.wrap .i64 (v.2.1 - v.1)) (8 : Int))) ≤ (IntKind.wrap .i64 (r75_.1 - v.1)))), (r75_.2.1, r76_)))))))
 (.c Y1 (rec_ (IntKind.wrap .i64 (r75_.1 + (1 : Int))) v.2.1 (IntKind.wrap .i64 (v.2.2.1 - (1 : Int))) r75_.2.2) fun r77_ =>
 .l (.inl (v.1, (r75_.1, ((IntKind.wrap .i64 (v.2.2.1 - (1 : Int))), ((decide ((IntKind.wrap .i64 (Int.tdiv (IntKind.wrap .i64 (v.2.1 - v.1)) (8 : Int))) ≤ (IntKind.wrap .i64 (v.2.1 - r75_.1)))), (r75_.2.1, r77_)))))))))))
 (.c (Int × Int) (F_zaz v.2.2.2.2.2 v.1 v.2.1) fun r78_ =>
 .t (r78_.2 == (2 : Int))
 (.c Y1 (F_zbq v.1 v.2.1 v.2.2.2.2.2) fun r79_ =>
 .t v.2.2.2.1
 (.t v.2.2.2.2.1
 (.t ((1 : Int) == (1 : Int))
 (.c (Bool × Y1) (F_zbk v.1 v.2.1 r79_) fun r80_ =>
 .t r80_.1
 (.l (.inr r80_.2))
 (.t (decide ((0 : Int) < v.1))
 (.g (inR (IntKind.wrap .i64 (v.1 - (1 : Int))) (List.length r80_.2)) <|
 .g (decide ((Int.toNat (IntKind.wrap .i64 (v.1 - (1 : Int)))) < List.length r80_.2)) <|
 .g (inR (IntKind.wrap .i64 ((IntKind.wrap .i64 (v.2.1 - (1 : Int))) - (IntKind.wrap .i64 (r78_.1 - v.1)))) (List.length r80_.2)) <|
 .g (decide ((Int.toNat (IntKind.wrap .i64 ((IntKind.wrap .i64 (v.2.1 - (1 : Int))) - (IntKind.wrap .i64 (r78_.1 - v.1))))) < List.length r80_.2)) <|
 .c (Bool) (F_zb (List.getD r80_.2 (Int.toNat (IntKind.wrap .i64 (v.1 - (1 : Int)))) (0 : Int)) (List.getD r80_.2 (Int.toNat (IntKind.wrap .i64 ((IntKind.wrap .i64 (v.2.1 - (1 : Int))) - (IntKind.wrap .i64 (r78_.1 - v.1))))) (0 : Int))) fun r81_ =>
 .t (!r81_)
 (.c (Int × Y1) (F_zbm v.1 v.2.1 (IntKind.wrap .i64 ((IntKind.wrap .i64 (v.2.1 - (1 : Int))) - (IntKind.wrap .i64 (r78_.1 - v.1)))) r80_.2) fun r82_ =>
 .l (.inl (r82_.1, (v.2.1, (v.2.2.1, (v.2.2.2.1, (v.2.2.2.2.1, r82_.2)))))))
 (.c (Int × (Bool × Y1)) (F_zbn v.1 v.2.1 (IntKind.wrap .i64 ((IntKind.wrap .i64 (v.2.1 - (1 : Int))) - (IntKind.wrap .i64 (r78_.1 - v.1)))) r80_.2) fun r83_ =>
 .g (!decide ((8 : Int) = 0)) <|
 .t (decide ((IntKind.wrap .i64 (r83_.1 - v.1)) < (IntKind.wrap .i64 (v.2.1 - r83_.1))))
 (.c Y1 (rec_ v.1 r83_.1 v.2.2.1 r83_.2.2) fun r84_ =>
 .l (.inl ((IntKind.wrap .i64 (r83_.1 + (1 : Int))), (v.2.1, (v.2.2.1, ((decide ((IntKind.wrap .i64 (Int.tdiv (IntKind.wrap .i64 (v.2.1 - v.1)) (8 : Int))) ≤ (IntKind.wrap .i64 (r83_.1 - v.1)))), (r83_.2.1, r84_)))))))
 (.c Y1 (rec_ (IntKind.wrap .i64 (r83_.1 + (1 : Int))) v.2.1 v.2.2.1 r83_.2.2) fun r85_ =>
 .l (.inl (v.1, (r83_.1, (v.2.2.1, ((decide ((IntKind.wrap .i64 (Int.tdiv (IntKind.wrap .i64 (v.2.1 - v.1)) (8 : Int))) ≤ (IntKind.wrap .i64 (v.2.1 - r83_.1)))), (r83_.2.1, r85_)))))))))
 (.c (Int × (Bool × Y1)) (F_zbn v.1 v.2.1 (IntKind.wrap .i64 ((IntKind.wrap .i64 (v.2.1 - (1 : Int))) - (IntKind.wrap .i64 (r78_.1 - v.1)))) r80_.2) fun r86_ =>
 .g (!decide ((8 : Int) = 0)) <|
 .t (decide ((IntKind.wrap .i64 (r86_.1 - v.1)) < (IntKind.wrap .i64 (v.2.1 - r86_.1))))
 (.c Y1 (rec_ v.1 r86_.1 v.2.2.1 r86_.2.2) fun r87_ =>
 .l (.inl ((IntKind.wrap .i64 (r86_.1 + (1 : Int))), (v.2.1, (v.2.2.1, ((decide ((IntKind.wrap .i64 (Int.tdiv (IntKind.wrap .i64 (v.2.1 - v.1)) (8 : Int))) ≤ (IntKind.wrap .i64 (r86_.1 - v.1)))), (r86_.2.1, r87_)))))))
 (.c Y1 (rec_ (IntKind.wrap .i64 (r86_.1 + (1 : Int))) v.2.1 v.2.2.1 r86_.2.2) fun r88_ =>
 .l (.inl (v.1, (r86_.1, (v.2.2.1, ((decide ((IntKind.wrap .i64 (Int.tdiv (IntKind.wrap .i64 (v.2.1 - v.1)) (8 : Int))) ≤ (IntKind.wrap .i64 (v.2.1 - r86_.1)))), (r86_.2.1, r88_))))))))))
 (.t (decide ((0 : Int) < v.1))
 (.g (inR (IntKind.wrap .i64 (v.1 - (1 : Int))) (List.length r79_)) <|
 .g (decide ((Int.toNat (IntKind.wrap .i64 (v.1 - (1 : Int)))) < List.length r79_)) <|
 .g (inR (IntKind.wrap .i64 ((IntKind.wrap .i64 (v.2.1 - (1 : Int))) - (IntKind.wrap .i64 (r78_.1 - v.1)))) (List.length r79_)) <|
 .g (decide ((Int.toNat (IntKind.wrap .i64 ((IntKind.wrap .i64 (v.2.1 - (1 : Int))) - (IntKind.wrap .i64 (r78_.1 - v.1))))) < List.length r79_)) <|
 .c (Bool) (F_zb (List.getD r79_ (Int.toNat (IntKind.wrap .i64 (v.1 - (1 : Int)))) (0 : Int)) (List.getD r79_ (Int.toNat (IntKind.wrap .i64 ((IntKind.wrap .i64 (v.2.1 - (1 : Int))) - (IntKind.wrap .i64 (r78_.1 - v.1))))) (0 : Int))) fun r89_ =>
 .t (!r89_)
 (.c (Int × Y1) (F_zbm v.1 v.2.1 (IntKind.wrap .i64 ((IntKind.wrap .i64 (v.2.1 - (1 : Int))) - (IntKind.wrap .i64 (r78_.1 - v.1)))) r79_) fun r90_ =>
 .l (.inl (r90_.1, (v.2.1, (v.2.2.1, (v.2.2.2.1, (v.2.2.2.2.1, r90_.2)))))))
 (.c (Int × (Bool × Y1)) (F_zbn v.1 v.2.1 (IntKind.wrap .i64 ((IntKind.wrap .i64 (v.2.1 - (1 : Int))) - (IntKind.wrap .i64 (r78_.1 - v.1)))) r79_) fun r91_ =>
 .g (!decide ((8 : Int) = 0)) <|
 .t (decide ((IntKind.wrap .i64 (r91_.1 - v.1)) < (IntKind.wrap .i64 (v.2.1 - r91_.1))))
 (.c Y1 (rec_ v.1 r91_.1 v.2.2.1 r91_.2.2) fun r92_ =>
 .l (.inl ((IntKind.wrap .i64 (r91_.1 + (1 : Int))), (v.2.1, (v.2.2.1, ((decide ((IntKind.wrap .i64 (Int.tdiv (IntKind.wrap .i64 (v.2.1 - v.1)) (8 : Int))) ≤ (IntKind.wrap .i64 (r91_.1 - v.1)))), (r91_.2.1, r92_)))))))
 (.c Y1 (rec_ (IntKind.wrap .i64 (r91_.1 + (1 : Int))) v.2.1 v.2.2.1 r91_.2.2) fun r93_ =>
 .l (.inl (v.1, (r91_.1, (v.2.2.1, ((decide ((IntKind.wrap .i64 (Int.tdiv (IntKind.wrap .i64 (v.2.1 - v.1)) (8 : Int))) ≤ (IntKind.wrap .i64 (v.2.1 - r91_.1)))), (r91_.2.1, r93_)))))))))
 (.c (Int × (Bool × Y1)) (F_zbn v.1 v.2.1 (IntKind.wrap .i64 ((IntKind.wrap .i64 (v.2.1 - (1 : Int))) - (IntKind.wrap .i64 (r78_.1 - v.1)))) r79_) fun r94_ =>
 .g (!decide ((8 : Int) = 0)) <|
 .t (decide ((IntKind.wrap .i64 (r94_.1 - v.1)) < (IntKind.wrap .i64 (v.2.1 - r94_.1))))
 (.c Y1 (rec_ v.1 r94_.1 v.2.2.1 r94_.2.2) fun r95_ =>
 .l (.inl ((IntKind.wrap .i64 (r94_.1 + (1 : Int))), (v.2.1, (v.2.2.1, ((decide ((IntKind.wrap .i64 (Int.tdiv (IntKind.wrap .i64 (v.2.1 - v.1)) (8 : Int))) ≤ (IntKind.wrap .i64 (r94_.1 - v.1)))), (r94_.2.1, r95_)))))))
 (.c Y1 (rec_ (IntKind.wrap .i64 (r94_.1 + (1 : Int))) v.2.1 v.2.2.1 r94_.2.2) fun r96_ =>
 .l (.inl (v.1, (r94_.1, (v.2.2.1, ((decide ((IntKind.wrap .i64 (Int.tdiv (IntKind.wrap .i64 (v.2.1 - v.1)) (8 : Int))) ≤ (IntKind.wrap .i64 (v.2.1 - r94_.1)))), (r94_.2.1, r96_))))))))))
 (.t (decide ((0 : Int) < v.1))
 (.g (inR (IntKind.wrap .i64 (v.1 - (1 : Int))) (List.length r79_)) <|
 .g (decide ((Int.toNat (IntKind.wrap .i64 (v.1 - (1 : Int)))) < List.length r79_)) <|
 .g (inR (IntKind.wrap .i64 ((IntKind.wrap .i64 (v.2.1 - (1 : Int))) - (IntKind.wrap .i64 (r78_.1 - v.1)))) (List.length r79_)) <|
 .g (decide ((Int.toNat (IntKind.wrap .i64 ((IntKind.wrap .i64 (v.2.1 - (1 : Int))) - (IntKind.wrap .i64 (r78_.1 - v.1))))) < List.length r79_)) <|
 .c (Bool) (F_zb (List.getD r79_ (Int.toNat (IntKind.wrap .i64 (v.1 - (1 : Int)))) (0 : Int)) (List.getD r79_ (Int.toNat (IntKind.wrap .i64 ((IntKind.wrap .i64 (v.2.1 - (1 : Int))) - (IntKind.wrap .i64 (r78_.1 - v.1))))) (0 : Int))) fun r97_ =>
 .t (!r97_)
 (.c (Int × Y1) (F_zbm v.1 v.2.1 (IntKind.wrap .i64 ((IntKind.wrap .i64 (v.2.1 - (1 : Int))) - (IntKind.wrap .i64 (r78_.1 - v.1)))) r79_) fun r98_ =>
 .l (.inl (r98_.1, (v.2.1, (v.2.2.1, (v.2.2.2.1, (v.2.2.2.2.1, r98_.2)))))))
 (.c (Int × (Bool × Y1)) (F_zbn v.1 v.2.1 (IntKind.wrap .i64 ((IntKind.wrap .i64 (v.2.1 - (1 : Int))) - (IntKind.wrap .i64 (r78_.1 - v.1)))) r79_) fun r99_ =>
 .g (!decide ((8 : Int) = 0)) <|
 .t (decide ((IntKind.wrap .i64 (r99_.1 - v.1)) < (IntKind.wrap .i64 (v.2.1 - r99_.1))))
 (.c Y1 (rec_ v.1 r99_.1 v.2.2.1 r99_.2.2) fun r100_ =>
 .l (.inl ((IntKind.wrap .i64 (r99_.1 + (1 : Int))), (v.2.1, (v.2.2.1, ((decide ((IntKind.wrap .i64 (Int.tdiv (IntKind.wrap .i64 (v.2.1 - v.1)) (8 : Int))) ≤ (IntKind.wrap .i64 (r99_.1 - v.1)))), (r99_.2.1, r100_)))))))
 (.c Y1 (rec_ (IntKind.wrap .i64 (r99_.1 + (1 : Int))) v.2.1 v.2.2.1 r99_.2.2) fun r101_ =>
 .l (.inl (v.1, (r99_.1, (v.2.2.1, ((decide ((IntKind.wrap .i64 (Int.tdiv (IntKind.wrap .i64 (v.2.1 - v.1)) (8 : Int))) ≤ (IntKind.wrap .i64 (v.2.1 - r99_.1)))), (r99_.2.1, r101_)))))))))
 (.c (Int × (Bool × Y1)) (F_zbn v.1 v.2.1 (IntKind.wrap .i64 ((IntKind.wrap .i64 (v.2.1 - (1 : Int))) - (IntKind.wrap .i64 (r78_.1 - v.1)))) r79_) fun r102_ =>
 .g (!decide ((8 : Int) = 0)) <|
 .t (decide ((IntKind.wrap .i64 (r102_.1 - v.1)) < (IntKind.wrap .i64 (v.2.1 - r102_.1))))
 (.c Y1 (rec_ v.1 r102_.1 v.2.2.1 r102_.2.2) fun r103_ =>
 .l (.inl ((IntKind.wrap .i64 (r102_.1 + (1 : Int))), (v.2.1, (v.2.2.1, ((decide ((IntKind.wrap .i64 (Int.tdiv (IntKind.wrap .i64 (v.2.1 - v.1)) (8 : Int))) ≤ (IntKind.wrap .i64 (r102_.1 - v.1)))), (r102_.2.1, r103_)))))))
 (.c Y1 (rec_ (IntKind.wrap .i64 (r102_.1 + (1 : Int))) v.2.1 v.2.2.1 r102_.2.2) fun r104_ =>
 .l (.inl (v.1, (r102_.1, (v.2.2.1, ((decide ((IntKind.wrap .i64 (Int.tdiv (IntKind.wrap .i64 (v.2.1 - v.1)) (8 : Int))) ≤ (IntKind.wrap .i64 (v.2.1 - r102_.1)))), (r102_.2.1, r104_))))))))))
 (.t (decide ((0 : Int) < v.1))
 (.g (inR (IntKind.wrap .i64 (v.1 - (1 : Int))) (List.length r79_)) <|
 .g (decide ((Int.toNat (IntKind.wrap .i64 (v.1 - (1 : Int)))) < List.length r79_)) <|
 .g (inR (IntKind.wrap .i64 ((IntKind.wrap .i64 (v.2.1 - (1 : Int))) - (IntKind.wrap .i64 (r78_.1 - v.1)))) (List.length r79_)) <|
 .g (decide ((Int.toNat (IntKind.wrap .i64 ((IntKind.wrap .i64 (v.2.1 - (1 : Int))) - (IntKind.wrap .i64 (r78_.1 - v.1))))) < List.length r79_)) <|
 .c (Bool) (F_zb (List.getD r79_ (Int.toNat (IntKind.wrap .i64 (v.1 - (1 : Int)))) (0 : Int)) (List.getD r79_ (Int.toNat (IntKind.wrap .i64 ((IntKind.wrap .i64 (v.2.1 - (1 : Int))) - (IntKind.wrap .i64 (r78_.1 - v.1))))) (0 : Int))) fun r105_ =>
 .t (!r105_)
 (.c (Int × Y1) (F_zbm v.1 v.2.1 (IntKind.wrap .i64 ((IntKind.wrap .i64 (v.2.1 - (1 : Int))) - (IntKind.wrap .i64 (r78_.1 - v.1)))) r79_) fun r106_ =>
 .l (.inl (r106_.1, (v.2.1, (v.2.2.1, (v.2.2.2.1, (v.2.2.2.2.1, r106_.2)))))))
 (.c (Int × (Bool × Y1)) (F_zbn v.1 v.2.1 (IntKind.wrap .i64 ((IntKind.wrap .i64 (v.2.1 - (1 : Int))) - (IntKind.wrap .i64 (r78_.1 - v.1)))) r79_) fun r107_ =>
 .g (!decide ((8 : Int) = 0)) <|
 .t (decide ((IntKind.wrap .i64 (r107_.1 - v.1)) < (IntKind.wrap .i64 (v.2.1 - r107_.1))))
 (.c Y1 (rec_ v.1 r107_.1 v.2.2.1 r107_.2.2) fun r108_ =>
 .l (.inl ((IntKind.wrap .i64 (r107_.1 + (1 : Int))), (v.2.1, (v.2.2.1, ((decide ((IntKind.wrap .i64 (Int.tdiv (IntKind.wrap .i64 (v.2.1 - v.1)) (8 : Int))) ≤ (IntKind.wrap .i64 (r107_.1 - v.1)))), (r107_.2.1, r108_)))))))
 (.c Y1 (rec_ (IntKind.wrap .i64 (r107_.1 + (1 : Int))) v.2.1 v.2.2.1 r107_.2.2) fun r109_ =>
 .l (.inl (v.1, (r107_.1, (v.2.2.1, ((decide ((IntKind.wrap .i64 (Int.tdiv (IntKind.wrap .i64 (v.2.1 - v.1)) (8 : Int))) ≤ (IntKind.wrap .i64 (v.2.1 - r107_.1)))), (r107_.2.1, r109_)))))))))
 (.c (Int × (Bool × Y1)) (F_zbn v.1 v.2.1 (IntKind.wrap .i64 ((IntKind.wrap .i64 (v.2.1 - (1 : Int))) - (IntKind.wrap .i64 (r78_.1 - v.1)))) r79_) fun r110_ =>
 .g (!decide ((8 : Int) = 0)) <|
 .t (decide ((IntKind.wrap .i64 (r110_.1 - v.1)) < (IntKind.wrap .i64 (v.2.1 - r110_.1))))
 (.c Y1 (rec_ v.1 r110_.1 v.2.2.1 r110_.2.2) fun r111_ =>
 .l (.inl ((IntKind.wrap .i64 (r110_.1 + (1 : Int))), (v.2.1, (v.2.2.1, ((decide ((IntKind.wrap .i64 (Int.tdiv (IntKind.wrap .i64 (v.2.1 - v.1)) (8 : Int))) ≤ (IntKind.wrap .i64 (r110_.1 - v.1)))), (r110_.2.1, r111_)))))))
 (.c Y1 (rec_ (IntKind.wrap .i64 (r110_.1 + (1 : Int))) v.2.1 v.2.2.1 r110_.2.2) fun r112_ =>
 .l (.inl (v.1, (r110_.1, (v.2.2.1, ((decide ((IntKind.wrap .i64 (Int.tdiv (IntKind.wrap .i64 (v.2.1 - v.1)) (8 : Int))) ≤ (IntKind.wrap .i64 (v.2.1 - r110_.1)))), (r110_.2.1, r112_))))))))))
 (.t v.2.2.2.1
 (.t v.2.2.2.2.1
 (.t (r78_.2 == (1 : Int))
 (.c (Bool × Y1) (F_zbk v.1 v.2.1 v.2.2.2.2.2) fun r113_ =>
 .t r113_.1
 (.l (.inr r113_.2))
 (.t (decide ((0 : Int) < v.1))
 (.g (inR (IntKind.wrap .i64 (v.1 - (1 : Int))) (List.length r113_.2)) <|
 .g (decide ((Int.toNat (IntKind.wrap .i64 (v.1 - (1 : Int)))) < List.length r113_.2)) <|
 .g (inR r78_.1 (List.length r113_.2)) <|
 .g (decide ((Int.toNat r78_.1) < List.length r113_.2)) <|
 .c (Bool) (F_zb (List.getD r113_.2 (Int.toNat (IntKind.wrap .i64 (v.1 - (1 : Int)))) (0 : Int)) (List.getD r113_.2 (Int.toNat r78_.1) (0 : Int))) fun r114_ =>
 .t (!r114_)
 (.c (Int × Y1) (F_zbm v.1 v.2.1 r78_.1 r113_.2) fun r115_ =>
 .l (.inl (r115_.1, (v.2.1, (v.2.2.1, (v.2.2.2.1, (v.2.2.2.2.1, r115_.2)))))))
 (.c (Int × (Bool × Y1)) (F_zbn v.1 v.2.1 r78_.1 r113_.2) fun r116_ =>
 .g (!decide ((8 : Int) = 0)) <|
 .t (decide ((IntKind.wrap .i64 (r116_.1 - v.1)) < (IntKind.wrap .i64 (v.2.1 - r116_.1))))
 (.c Y1 (rec_ v.1 r116_.1 v.2.2.1 r116_.2.2) fun r117_ =>
 .l (.inl ((IntKind.wrap .i64 (r116_.1 + (1 : Int))), (v.2.1, (v.2.2.1, ((decide ((IntKind.wrap .i64 (Int.tdiv (IntKind.wrap .i64 (v.2.1 - v.1)) (8 : Int))) ≤ (IntKind.wrap .i64 (r116_.1 - v.1)))), (r116_.2.1, r117_)))))))
 (.c Y1 (rec_ (IntKind.wrap .i64 (r116_.1 + (1 : Int))) v.2.1 v.2.2.1 r116_.2.2) fun r118_ =>
 .l (.inl (v.1, (r116_.1, (v.2.2.1, ((decide ((IntKind.wrap .i64 (Int.tdiv (IntKind.wrap .i64 (v.2.1 - v.1)) (8 : Int))) ≤ (IntKind.wrap .i64 (v.2.1 - r116_.1)))), (r116_.2.1, r118_)))))))))
 (.c (Int × (Bool × Y1)) (F_zbn v.1 v.2.1 r78_.1 r113_.2) fun r119_ =>
 .g (!decide ((8 : Int) = 0)) <|
 .t (decide ((IntKind.wrap .i64 (r119_.1 - v.1)) < (IntKind.wrap .i64 (v.2.1 - r119_.1))))
 (.c Y1 (rec_ v.1 r119_.1 v.2.2.1 r119_.2.2) fun r120_ =>
 .l (.inl ((IntKind.wrap .i64 (r119_.1 + (1 : Int))), (v.2.1, (v.2.2.1, ((decide ((IntKind.wrap .i64 (Int.tdiv (IntKind.wrap .i64 (v.2.1 - v.1)) (8 : Int))) ≤ (IntKind.wrap .i64 (r119_.1 - v.1)))), (r119_.2.1, r120_)))))))
 (.c Y1 (rec_ (IntKind.wrap .i64 (r119_.1 + (1 : Int))) v.2.1 v.2.2.1 r119_.2.2) fun r121_ =>
 .l (.inl (v.1, (r119_.1, (v.2.2.1, ((decide ((IntKind.wrap .i64 (Int.tdiv (IntKind.wrap .i64 (v.2.1 - v.1)) (8 : Int))) ≤ (IntKind.wrap .i64 (v.2.1 - r119_.1)))), (r119_.2.1, r121_))))))))))
 (.t (decide ((0 : Int) < v.1))
 (.g (inR (IntKind.wrap .i64 (v.1 - (1 : Int))) (List.length v.2.2.2.2.2)) <|
 .g (decide ((Int.toNat (IntKind.wrap .i64 (v.1 - (1 : Int)))) < List.length v.2.2.2.2.2)) <|
 .g (inR r78_.1 (List.length v.2.2.2.2.2)) <|
 .g (decide ((Int.toNat r78_.1) < List.length v.2.2.2.2.2)) <|
 .c (Bool) (F_zb (List.getD v.2.2.2.2.2 (Int.toNat (IntKind.wrap .i64 (v.1 - (1 : Int)))) (0 : Int)) (List.getD v.2.2.2.2.2 (Int.toNat r78_.1) (0 : Int))) fun r122_ =>
 .t (!r122_)
 (.c (Int × Y1) (F_zbm v.1 v.2.1 r78_.1 v.2.2.2.2.2) fun r123_ =>
 .l (.inl (r123_.1, (v.2.1, (v.2.2.1, (v.2.2.2.1, (v.2.2.2.2.1, r123_.2)))))))
 (.c (Int × (Bool × Y1)) (F_zbn v.1 v.2.1 r78_.1 v.2.2.2.2.2) fun r124_ =>
 .g (!decide ((8 : Int) = 0)) <|
 .t (decide ((IntKind.wrap .i64 (r124_.1 - v.1)) < (IntKind.wrap .i64 (v.2.1 - r124_.1))))
 (.c Y1 (rec_ v.1 r124_.1 v.2.2.1 r124_.2.2) fun r125_ =>
 .l (.inl ((IntKind.wrap .i64 (r124_.1 + (1 : Int))), (v.2.1, (v.2.2.1, ((decide ((IntKind.wrap .i64 (Int.tdiv (IntKind.wrap .i64 (v.2.1 - v.1)) (8 : Int))) ≤ (IntKind.wrap .i64 (r124_.1 - v.1)))), (r124_.2.1, r125_)))))))
 (.c Y1 (rec_ (IntKind.wrap .i64 (r124_.1 + (1 : Int))) v.2.1 v.2.2.1 r124_.2.2) fun r126_ =>
 .l (.inl (v.1, (r124_.1, (v.2.2.1, ((decide ((IntKind.wrap .i64 (Int.tdiv (IntKind.wrap .i64 (v.2.1 - v.1)) (8 : Int))) ≤ (IntKind.wrap .i64 (v.2.1 - r124_.1)))), (r124_.2.1, r126_)))))))))
 (.c (Int × (Bool × Y1)) (F_zbn v.1 v.2.1 r78_.1 v.2.2.2.2.2) fun r127_ =>
 .g (!decide ((8 : Int) = 0)) <|
 .t (decide ((IntKind.wrap .i64 (r127_.1 - v.1)) < (IntKind.wrap .i64 (v.2.1 - r127_.1))))
 (.c Y1 (rec_ v.1 r127_.1 v.2.2.1 r127_.2.2) fun r128_ =>
 .l (.inl ((IntKind.wrap .i64 (r127_.1 + (1 : Int))), (v.2.1, (v.2.2.1, ((decide ((IntKind.wrap .i64 (Int.tdiv (IntKind.wrap .i64 (v.2.1 - v.1)) (8 : Int))) ≤ (IntKind.wrap .i64 (r127_.1 - v.1)))), (r127_.2.1, r128_)))))))
 (.c Y1 (rec_ (IntKind.wrap .i64 (r127_.1 + (1 : Int))) v.2.1 v.2.2.1 r127_.2.2) fun r129_ =>
 .l (.inl (v.1, (r127_.1, (v.2.2.1, ((decide ((IntKind.wrap .i64 (Int.tdiv (IntKind.wrap .i64 (v.2.1 - v.1)) (8 : Int))) ≤ (IntKind.wrap .i64 (v.2.1 - r127_.1)))), (r127_.2.1, r129_))))))))))
 (.t (decide ((0 : Int) < v.1))
 (.g (inR (IntKind.wrap .i64 (v.1 - (1 : Int))) (List.length v.2.2.2.2.2)) <|
 .g (decide ((Int.toNat (IntKind.wrap .i64 (v.1 - (1 : Int)))) < List.length v.2.2.2.2.2)) <|
 .g (inR r78_.1 (List.length v.2.2.2.2.2)) <|
 .g (decide ((Int.toNat r78_.1) < List.length v.2.2.2.2.2)) <|
 .c (Bool) (F_zb (List.getD v.2.2.2.2.2 (Int.toNat (IntKind.wrap .i64 (v.1 - (1 : Int)))) (0 : Int)) (List.getD v.2.2.2.2.2 (Int.toNat r78_.1) (0 : Int))) fun r130_ =>
 .t (!r130_)
 (.c (Int × Y1) (F_zbm v.1 v.2.1 r78_.1 v.2.2.2.2.2) fun r131_ =>
 .l (.inl (r131_.1, (v.2.1, (v.2.2.1, (v.2.2.2.1, (v.2.2.2.2.1, r131_.2)))))))
 (.c (Int × (Bool × Y1)) (F_zbn v.1 v.2.1 r78_.1 v.2.2.2.2.2) fun r132_ =>
 .g (!decide ((8 : Int) = 0)) <|
 .t (decide ((IntKind.wrap .i64 (r132_.1 - v.1)) < (IntKind.wrap .i64 (v.2.1 - r132_.1))))
 (.c Y1 (rec_ v.1 r132_.1 v.2.2.1 r132_.2.2) fun r133_ =>
 .l (.inl ((IntKind.wrap .i64 (r132_.1 + (1 : Int))), (v.2.1, (v.2.2.1, ((decide ((IntKind.wrap .i64 (Int.tdiv (IntKind.wrap .i64 (v.2.1 - v.1)) (8 : Int))) ≤ (IntKind.wrap .i64 (r132_.1 - v.1)))), (r132_.2.1, r133_)))))))
 (.c Y1 (rec_ (IntKind.wrap .i64 (r132_.1 + (1 : Int))) v.2.1 v.2.2.1 r132_.2.2) fun r134_ =>
 .l (.inl (v.1, (r132_.1, (v.2.2.1, ((decide ((IntKind.wrap .i64 (Int.tdiv (IntKind.wrap .i64 (v.2.1 - v.1)) (8 : Int))) ≤ (IntKind.wrap .i64 (v.2.1 - r132_.1)))), (r132_.2.1, r134_)))))))))
 (.c (Int × (Bool × Y1)) (F_zbn v.1 v.2.1 r78_.1 v.2.2.2.2.2) fun r135_ =>
 .g (!decide ((8 : Int) = 0)) <|
 .t (decide ((IntKind.wrap .i64 (r135_.1 - v.1)) < (IntKind.wrap .i64 (v.2.1 - r135_.1))))
 (.c Y1 (rec_ v.1 r135_.1 v.2.2.1 r135_.2.2) fun r136_ =>
 .l (.inl ((IntKind.wrap .i64 (r135_.1 + (1 : Int))), (v.2.1, (v.2.2.1, ((decide ((IntKind.wrap .i64 (Int.tdiv (IntKind.wrap .i64 (v.2.1 - v.1)) (8 : Int))) ≤ (IntKind.wrap .i64 (r135_.1 - v.1)))), (r135_.2.1, r136_)))))))
 (.c Y1 (rec_ (IntKind.wrap .i64 (r135_.1 + (1 : Int))) v.2.1 v.2.2.1 r135_.2.2) fun r137_ =>
 .l (.inl (v.1, (r135_.1, (v.2.2.1, ((decide ((IntKind.wrap .i64 (Int.tdiv (IntKind.wrap .i64 (v.2.1 - v.1)) (8 : Int))) ≤ (IntKind.wrap .i64 (v.2.1 - r135_.1)))), (r135_.2.1, r137_))))))))))
 (.t (decide ((0 : Int) < v.1))
 (.g (inR (IntKind.wrap .i64 (v.1 - (1 : Int))) (List.length v.2.2.2.2.2)) <|
 .g (decide ((Int.toNat (IntKind.wrap .i64 (v.1 - (1 : Int)))) < List.length v.2.2.2.2.2)) <|
 .g (inR r78_.1 (List.length v.2.2.2.2.2)) <|
 .g (decide ((Int.toNat r78_.1) < List.length v.2.2.2.2.2)) <|
 .c (Bool) (F_zb (List.getD v.2.2.2.2.2 (Int.toNat (IntKind.wrap .i64 (v.1 - (1 : Int)))) (0 : Int)) (List.getD v.2.2.2.2.2 (Int.toNat r78_.1) (0 : Int))) fun r138_ =>
 .t (!r138_)
 (.c (Int × Y1) (F_zbm v.1 v.2.1 r78_.1 v.2.2.2.2.2) fun r139_ =>
 .l (.inl (r139_.1, (v.2.1, (v.2.2.1, (v.2.2.2.1, (v.2.2.2.2.1, r139_.2)))))))
 (.c (Int × (Bool × Y1)) (F_zbn v.1 v.2.1 r78_.1 v.2.2.2.2.2) fun r140_ =>
 .g (!decide ((8 : Int) = 0)) <|
 .t (decide ((IntKind.wrap .i64 (r140_.1 - v.1)) < (IntKind.wrap .i64 (v.2.1 - r140_.1))))
 (.c Y1 (rec_ v.1 r140_.1 v.2.2.1 r140_.2.2) fun r141_ =>
 .l (.inl ((IntKind.wrap .i64 (r140_.1 + (1 : Int))), (v.2.1, (v.2.2.1, ((decide ((IntKind.wrap .i64 (Int.tdiv (IntKind.wrap .i64 (v.2.1 - v.1)) (8 : Int))) ≤ (IntKind.wrap .i64 (r140_.1 - v.1)))), (r140_.2.1, r141_)))))))
 (.c Y1 (rec_ (IntKind.wrap .i64 (r140_.1 + (1 : Int))) v.2.1 v.2.2.1 r140_.2.2) fun r142_ =>
 .l (.inl (v.1, (r140_.1, (v.2.2.1, ((decide ((IntKind.wrap .i64 (Int.tdiv (IntKind.wrap .i64 (v.2.1 - v.1)) (8 : Int))) ≤ (IntKind.wrap .i64 (v.2.1 - r140_.1)))), (r140_.2.1, r142_)))))))))
 (.c (Int × (Bool × Y1)) (F_zbn v.1 v.2.1 r78_.1 v.2.2.2.2.2) fun r143_ =>
 .g (!decide ((8 : Int) = 0)) <|
 .t (decide ((IntKind.wrap .i64 (r143_.1 - v.1)) < (IntKind.wrap .i64 (v.2.1 - r143_.1))))
 (.c Y1 (rec_ v.1 r143_.1 v.2.2.1 r143_.2.2) fun r144_ =>
 .l (.inl ((IntKind.wrap .i64 (r143_.1 + (1 : Int))), (v.2.1, (v.2.2.1, ((decide ((IntKind.wrap .i64 (Int.tdiv (IntKind.wrap .i64 (v.2.1 - v.1)) (8 : Int))) ≤ (IntKind.wrap .i64 (r143_.1 - v.1)))), (r143_.2.1, r144_)))))))
 (.c Y1 (rec_ (IntKind.wrap .i64 (r143_.1 + (1 : Int))) v.2.1 v.2.2.1 r143_.2.2) fun r145_ =>
 .l (.inl (v.1, (r143_.1, (v.2.2.1, ((decide ((IntKind.wrap .i64 (Int.tdiv (IntKind.wrap .i64 (v.2.1 - v.1)) (8 : Int))) ≤ (IntKind.wrap .i64 (v.2.1 - r143_.1)))), (r143_.2.1, r145_)))))))))))))
noncomputable def L_zbp_0 (rec_ : (Int) → (Int) → (Int) → Y1 → Option Y1) (k : Unit) (v : Int × (Int × (Int × (Bool × (Bool × Y1))))) : Option Y1 := iter (fun v => (S_zbp_0 rec_ k v).ev) v
noncomputable def DL_zbp_0 (rec_ : (Int) → (Int) → (Int) → Y1 → Option Y1) : LD where
 head := { acts := [], S := { slots := [0, 1, 2, 3, 8, 9], sh := (.cons (.arr 64) (.cons (.dat yi) (.cons (.dat yi) (.cons (.dat yi) (.cons (.dat .bool) (.cons (.dat .bool) .nil)))))), obs := [(64, .arr 3 yi)] } }
 exits := []
 rets := { acts := [], S := { slots := [0], sh := (.cons (.arr 64) .nil), obs := [(64, .arr 3 yi)] } }
 K := Unit
 V := Int × (Int × (Int × (Bool × (Bool × Y1))))
 R := Y1
 join := fun _ v => (((), (v.1, (v.2.1, (v.2.2.1, (v.2.2.2.1, (v.2.2.2.2.1, ())))))), (v.2.2.2.2.2, ()))
 sk := fun _ => ()
 sv := fun t => (t.1.2.1, (t.1.2.2.1, (t.1.2.2.2.1, (t.1.2.2.2.2.1, (t.1.2.2.2.2.2.1, t.2.1)))))
 step := S_zbp_0 rec_
 leaf := fun _ r => .l (.ret (mkSt ({ slots := [0], sh := (.cons (.arr 64) .nil), obs := [(64, .arr 3 yi)] }) (((), ()), (r, ()))))
noncomputable def T_zbp (rec_ : (Int) → (Int) → (Int) → Y1 → Option Y1) (a2_ : Int) (a3_ : Int) (a4_ : Int) (a1_ : Y1) : Tr Y1 :=
 .c Y1 (L_zbp_0 rec_ () (a2_, (a3_, (a4_, (true, (true, a1_)))))) fun r147_ =>
 .l r147_
noncomputable def F_zbp : Nat → (Int) → (Int) → (Int) → Y1 → Option Y1
 | 0 => fun _ _ _ _ => none
 | n + 1 => fun a2_ a3_ a4_ a1_ => (T_zbp (F_zbp n) a2_ a3_ a4_ a1_).ev
noncomputable def A_zbp : Sh := (.cons (.arr 64) (.cons (.dat yi) (.cons (.dat yi) (.cons (.dat yi) .nil))))
noncomputable def I_zbp : List (Nat × OSh) := [(64, .arr 3 yi)]
noncomputable def K_zbp : RetK := { acts := [], res := [], sh := .nil, obs := [(64, .arr 3 yi)], pins := [(0, 0, 64)] }
noncomputable def Dr_zbp (rec_ : (Int) → (Int) → (Int) → Y1 → Option Y1) : FD where
 A := A_zbp
 ins := I_zbp
 lend := [.arg 0]
 R := Y1
 F := fun x => rec_ x.1.2.1 x.1.2.2.1 x.1.2.2.2.1 x.2.1
 emb := fun r => ([], [(64, .arr 3 yi r)])
noncomputable def D_zbp (n : Nat) : FD := Dr_zbp (F_zbp n)
noncomputable def E_zbp (rec_ : (Int) → (Int) → (Int) → Y1 → Option Y1) : Env := envOf [(206, D_zbc), (207, D_zba), (208, D_zax), (209, D_zaz), (210, D_zbq), (211, D_zbk), (212, D_zb), (213, D_zbm), (214, D_zbn), (185, Dr_zbp rec_)]
noncomputable def Z_zbp : Nat → Nat → List Nat := fun _ _ => []
noncomputable def O_zbp (rec_ : (Int) → (Int) → (Int) → Y1 → Option Y1) : List (Nat × LD) := [(0, DL_zbp_0 rec_)]
noncomputable def C_zbp : Code := (f185.body).getD .skip
noncomputable def T_zav (a1_ : Y1) : Tr Y1 :=
 .c (Int) (F_zam (IntKind.wrap .u64 ((List.length a1_ : Nat) : Int))) fun r1_ =>
 .c Y1 (F_zbp 1000000 (0 : Int) ((List.length a1_ : Nat) : Int) r1_ a1_) fun r2_ =>
 .l r2_
noncomputable def F_zav (a1_ : Y1) : Option Y1 := (T_zav a1_).ev
noncomputable def A_zav : Sh := (.cons (.arr 64) .nil)
noncomputable def I_zav : List (Nat × OSh) := [(64, .arr 3 yi)]
noncomputable def K_zav : RetK := { acts := [], res := [], sh := .nil, obs := [(64, .arr 3 yi)], pins := [(0, 0, 64)] }
noncomputable def D_zav : FD := ⟨A_zav, I_zav, [.arg 0], Y1, fun x => F_zav x.2.1, fun r => ([], [(64, .arr 3 yi r)])⟩
noncomputable def E_zav : Env := envOf [(186, D_zam), (185, D_zbp 1000000)]
noncomputable def Z_zav : Nat → Nat → List Nat := fun _ _ => []
noncomputable def O_zav : List (Nat × LD) := []
noncomputable def C_zav : Code := (f141.body).getD .skip
noncomputable def S_zg_0 (k : Y1 × (Int × Y1)) (v : Int × Int) : Tr ((Int × Int) ⊕ (Int)) :=
 .t (decide (v.2 < k.2.1))
 (.g (inR v.2 (List.length k.2.2)) <|
 .g (decide ((Int.toNat v.2) < List.length k.2.2)) <|
 .g (inR v.2 (List.length k.1)) <|
 .l (.inl ((IntKind.wrap .i64 (v.1 + (IntKind.wrap .i64 ((List.getD k.2.2 (Int.toNat v.2) (0 : Int)) * (List.getD k.1 (Int.toNat v.2) (0 : Int)))))), (IntKind.wrap .i64 (v.2 + (1 : Int))))))
 (.l (.inr v.1))
noncomputable def L_zg_0 (k : Y1 × (Int × Y1)) (v : Int × Int) : Option (Int) := iter (fun v => (S_zg_0 k v).ev) v
noncomputable def DL_zg_0 : LD := ⟨{ acts := [], S := { slots := [2, 8, 16, 17, 18], sh := (.cons (.dat y1) (.cons (.dat yi) (.cons (.arr 832) (.cons (.dat yi) (.cons (.dat yi) .nil))))), obs := [(832, .arr 3 yi)] } }, [(0, (yh [8] (.cons (.dat yi) .nil)))], (yh [] .nil), Y1 × (Int × Y1), Int × (Int), Int, fun k v => ((k.1, (v.1, ((), (k.2.1, (v.2, ()))))), (k.2.2, ())), fun t => (t.1.1, (t.1.2.2.2.1, t.2.1)), fun t => (t.1.2.1, t.1.2.2.2.2.1), S_zg_0, fun _ r => .l (.exit 0 (mkSt ((ys [8] (.cons (.dat yi) .nil))) ((r, ()), ())))⟩
noncomputable def T_zg (a1_ : Y1) (a2_ : List Y1) (a3_ : Y1) (a4_ : Y1) : Tr (Int) :=
 .c Y1 (F_zf a1_ a2_ a3_) fun r1_ =>
 .c Y1 (F_zav r1_) fun r2_ =>
 .c (Int) (L_zg_0 (a4_, (((List.length r2_ : Nat) : Int), r2_)) ((0 : Int), (0 : Int))) fun r9_ =>
 .l r9_
noncomputable def F_zg (a1_ : Y1) (a2_ : List Y1) (a3_ : Y1) (a4_ : Y1) : Option (Int) := (T_zg a1_ a2_ a3_ a4_).ev
noncomputable def A_zg : Sh := (.cons (.agg (.cons (.dat y1) (.cons (.dat y2) .nil))) (.cons (.dat y1) (.cons (.dat y1) .nil)))
noncomputable def I_zg : List (Nat × OSh) := []
noncomputable def K_zg : RetK := { acts := [], res := [.tmp 6], sh := (.cons (.dat yi) .nil), obs := [], pins := [] }
noncomputable def D_zg : FD := ⟨A_zg, I_zg, [], Int, fun x => F_zg x.1.1.1 x.1.1.2.1 x.1.2.1 x.1.2.2.1, fun r => ([.dat yi r], [])⟩
noncomputable def E_zg : Env := envOf [(140, D_zf), (141, D_zav)]
noncomputable def Z_zg : Nat → Nat → List Nat := fun _ _ => []
noncomputable def O_zg : List (Nat × LD) := [(0, DL_zg_0)]
noncomputable def C_zg : Code := (f82.body).getD .skip
noncomputable def T_zm (a1_ : Y1) (a2_ : Y1) (a3_ : List Y1) (a4_ : Y1) : Tr (Int) :=
 .c (Int) (F_zg a2_ a3_ a1_ a4_) fun r1_ =>
 .l r1_
noncomputable def F_zm (a1_ : Y1) (a2_ : Y1) (a3_ : List Y1) (a4_ : Y1) : Option (Int) := (T_zm a1_ a2_ a3_ a4_).ev
noncomputable def A_zm : Sh := (.cons (.dat y1) (.cons (.ptr (.cons (.dat y1) (.cons (.dat y2) .nil))) (.cons (.ptr (.cons (.dat y1) .nil)) .nil)))
noncomputable def I_zm : List (Nat × OSh) := []
noncomputable def K_zm : RetK := { acts := [], res := [.tmp 4], sh := (.cons (.dat yi) .nil), obs := [], pins := [] }
noncomputable def D_zm : FD := ⟨A_zm, I_zm, [], Int, fun x => F_zm x.1.1 x.1.2.1.1 x.1.2.1.2.1 x.1.2.2.1.1, fun r => ([.dat yi r], [])⟩
noncomputable def E_zm : Env := envOf [(82, D_zg)]
noncomputable def Z_zm : Nat → Nat → List Nat := fun _ _ => []
noncomputable def O_zm : List (Nat × LD) := []
noncomputable def C_zm : Code := (f81.body).getD .skip
noncomputable def T_zl (a1_ : Y1) (a2_ : List Y1) (a3_ : Int) (a4_ : Y1) : Tr (Bool × Y1) :=
 .c (Bool) (F_zt a1_ a2_ a3_) fun r1_ =>
 .t (!r1_)
 (.l (false, ([] : Y1)))
 (.c (Bool) (F_ze a1_ a2_ a4_) fun r2_ =>
 .t (!r2_)
 (.l (false, ([] : Y1)))
 (.c ((List Nat) × Y2) (F_zv ((List.length a1_ : Nat) : Int) a3_) fun r3_ =>
 .c Y1 (F_zu (fun h4_ => Option.bind (F_zm h4_.1 a1_ a2_ a4_) fun y5_ => some y5_) r3_) fun r6_ =>
 .l (true, r6_)))
noncomputable def F_zl (a1_ : Y1) (a2_ : List Y1) (a3_ : Int) (a4_ : Y1) : Option (Bool × Y1) := (T_zl a1_ a2_ a3_ a4_).ev
noncomputable def A_zl : Sh := (.cons (.agg (.cons (.dat y1) (.cons (.dat y2) .nil))) (.cons (.dat yi) (.cons (.dat y1) .nil)))
noncomputable def I_zl : List (Nat × OSh) := []
noncomputable def K_zl : RetK := { acts := [.own 6 0 3 yi, .ren 1536 0], res := [.tmp 6, .tmp 7], sh := (.cons (.arr 0) (.cons (.dat .bool) .nil)), obs := [(0, .arr 3 yi)], pins := [] }
noncomputable def D_zl : FD := ⟨A_zl, I_zl, [], Bool × Y1, fun x => F_zl x.1.1.1 x.1.1.2.1 x.1.2.1 x.1.2.2.1, fun r => ([.arr 0, .dat .bool r.1], [(0, .arr 3 yi r.2)])⟩
noncomputable def E_zl : Env := envOf [(79, D_zt), (80, D_ze), (69, D_zv), (68, D_zu), (68, D_zu), (81, D_zm)]
noncomputable def Z_zl : Nat → Nat → List Nat := fun _ _ => []
noncomputable def O_zl : List (Nat × LD) := []
noncomputable def C_zl : Code := (f27.body).getD .skip
noncomputable def T_zz (a1_ : Y1) (a2_ : List Y1) (a3_ : Y1) (a4_ : List Y1) : Tr (Bool) :=
 .c (Bool) (F_zaa a1_ a3_) fun r1_ =>
 .t (!r1_)
 (.l false)
 (.c (Bool) (F_zab a2_ a4_) fun r2_ =>
 .t (!r2_)
 (.l false)
 (.l true))
noncomputable def F_zz (a1_ : Y1) (a2_ : List Y1) (a3_ : Y1) (a4_ : List Y1) : Option (Bool) := (T_zz a1_ a2_ a3_ a4_).ev
noncomputable def A_zz : Sh := (.cons (.agg (.cons (.dat y1) (.cons (.dat y2) .nil))) (.cons (.agg (.cons (.dat y1) (.cons (.dat y2) .nil))) .nil))
noncomputable def I_zz : List (Nat × OSh) := []
noncomputable def K_zz : RetK := { acts := [], res := [.tmp 4], sh := (.cons (.dat .bool) .nil), obs := [], pins := [] }
noncomputable def D_zz : FD := ⟨A_zz, I_zz, [], Bool, fun x => F_zz x.1.1.1 x.1.1.2.1 x.1.2.1.1 x.1.2.1.2.1, fun r => ([.dat .bool r], [])⟩
noncomputable def E_zz : Env := envOf [(16, D_zaa), (17, D_zab)]
noncomputable def Z_zz : Nat → Nat → List Nat := fun _ _ => []
noncomputable def O_zz : List (Nat × LD) := []
noncomputable def C_zz : Code := (f28.body).getD .skip
noncomputable def T_zad (a3_ : Int) (a1_ : Y1) (a2_ : List Y1) : Tr (Int × (Y1 × Y2)) :=
 .c (Int × Y1) (F_zae a3_ a1_) fun r1_ =>
 .c (Int × Y2) (F_zaf r1_.1 a2_) fun r2_ =>
 .l (r2_.1, (r1_.2, r2_.2))
noncomputable def F_zad (a3_ : Int) (a1_ : Y1) (a2_ : List Y1) : Option (Int × (Y1 × Y2)) := (T_zad a3_ a1_ a2_).ev
noncomputable def A_zad : Sh := (.cons (.agg (.cons (.arr 64) (.cons (.arr 65) .nil))) (.cons (.dat yi) .nil))
noncomputable def I_zad : List (Nat × OSh) := [(64, .arr 3 yi), (65, .rows 24 3 yi)]
noncomputable def K_zad : RetK := { acts := [], res := [.tmp 4], sh := (.cons (.dat yi) .nil), obs := [(64, .arr 3 yi), (65, .rows 24 3 yi)], pins := [(0, 1, 64), (0, 2, 65)] }
noncomputable def D_zad : FD := ⟨A_zad, I_zad, [.comp 0 0, .comp 0 1], Int × (Y1 × Y2), fun x => F_zad x.1.2.1 x.2.1 x.2.2.1, fun r => ([.dat yi r.1], [(64, .arr 3 yi r.2.1), (65, .rows 24 3 yi r.2.2 none)])⟩
noncomputable def E_zad : Env := envOf [(19, D_zae), (18, D_zaf)]
noncomputable def Z_zad : Nat → Nat → List Nat := fun _ _ => []
noncomputable def O_zad : List (Nat × LD) := []
noncomputable def C_zad : Code := (f29.body).getD .skip
noncomputable def T_zy (a1_ : Y1) (a2_ : List Y1) (a3_ : Int) (a4_ : Y1) : Tr (Bool) :=
 .t (decide ((1048576 : Int) < ((List.length a4_ : Nat) : Int)))
 (.l true)
 (.c (Int) (F_zag a1_ a2_ (1048576 : Int)) fun r1_ =>
 .t (decide (r1_ < (0 : Int)))
 (.l true)
 (.c (Y1 × Y2) (F_zaj a1_ a2_) fun r2_ =>
 .c Y1 (F_zak a4_) fun r3_ =>
 .c (Y1 × (Bool)) (F_zbt r2_.1 r2_.2 a3_ r3_) fun r4_ =>
 .c (Y1 × Y2) (F_zaj a1_ a2_) fun r5_ =>
 .c Y1 (F_zak a4_) fun r6_ =>
 .c (Bool × Y1) (F_zl r5_.1 r5_.2 a3_ r6_) fun r7_ =>
 .c (Bool) (F_zaa r7_.2 r4_.1) fun r8_ =>
 .t (!r8_)
 (.l false)
 (.t (!(r7_.1 == r4_.2))
 (.l false)
 (.c (Y1 × Y2) (F_zaj a1_ a2_) fun r9_ =>
 .c (Bool) (F_zz r5_.1 r5_.2 r9_.1 r9_.2) fun r10_ =>
 .t (!r10_)
 (.l false)
 (.c Y1 (F_zak a4_) fun r11_ =>
 .c (Bool) (F_zaa r6_ r11_) fun r12_ =>
 .t (!r12_)
 (.l false)
 (.c (Int × (Y1 × Y2)) (F_zad (1 : Int) r5_.1 r5_.2) fun r13_ =>
 .c (Int × Y1) (F_zae r13_.1 r6_) fun r14_ =>
 .t (decide (r14_.1 < (0 : Int)))
 (.l false)
 (.c (Bool) (F_zaa r7_.2 r4_.1) fun r15_ =>
 .t (!r15_)
 (.l false)
 (.t (!(r7_.1 == r4_.2))
 (.l false)
 (.c (Int × Y1) (F_zae (1 : Int) r7_.2) fun r16_ =>
 .c (Int) (F_zac r16_.2 (1 : Int)) fun r17_ =>
 .t (decide (r17_ < (0 : Int)))
 (.l false)
 (.t (r17_ != r16_.1)
 (.l false)
 (.c (Y1 × Y2) (F_zaj a1_ a2_) fun r18_ =>
 .c Y1 (F_zak a4_) fun r19_ =>
 .c (Bool × Y1) (F_zl r18_.1 r18_.2 a3_ r19_) fun r20_ =>
 .c (Bool) (F_zaa r20_.2 r4_.1) fun r21_ =>
 .t (!r21_)
 (.l false)
 (.t (!(r20_.1 == r4_.2))
 (.l false)
 (.c (Int) (F_zac r16_.2 (1 : Int)) fun r22_ =>
 .t (decide (r22_ < (0 : Int)))
 (.l false)
 (.t (r22_ != r16_.1)
 (.l false)
 (.l true)))))))))))))))
noncomputable def F_zy (a1_ : Y1) (a2_ : List Y1) (a3_ : Int) (a4_ : Y1) : Option (Bool) := (T_zy a1_ a2_ a3_ a4_).ev
noncomputable def A_zy : Sh := (.cons (.agg (.cons (.dat y1) (.cons (.dat y2) .nil))) (.cons (.dat yi) (.cons (.dat y1) .nil)))
noncomputable def I_zy : List (Nat × OSh) := []
noncomputable def K_zy : RetK := { acts := [], res := [.tmp 6], sh := (.cons (.dat .bool) .nil), obs := [], pins := [] }
noncomputable def D_zy : FD := ⟨A_zy, I_zy, [], Bool, fun x => F_zy x.1.1.1 x.1.1.2.1 x.1.2.1 x.1.2.2.1, fun r => ([.dat .bool r], [])⟩
noncomputable def E_zy : Env := envOf [(23, D_zag), (25, D_zaj), (26, D_zak), (24, D_zbt), (27, D_zl), (16, D_zaa), (28, D_zz), (29, D_zad), (19, D_zae), (20, D_zac)]
noncomputable def Z_zy : Nat → Nat → List Nat := fun r i => match look [(7, [(5, [29, 32])])] r with
 | some l => (look l i).getD []
 | none => []
noncomputable def O_zy : List (Nat × LD) := []
noncomputable def C_zy : Code := (f5.body).getD .skip
end Go.Proofs.Ytlemejhffpkbkaa
