import Derived.Test.YtlemejhffpkbkaaGreatC3
import Derived.Test.YtlemejhffpkbkaaGreatProg
namespace Go.Proofs.YtlemejhffpkbkaaGreat
open Go.Proofs.Tryz
noncomputable def T_zax (a1_ : Y1) : Tr Y1 :=
 .c (Int) (F_zan (IntKind.wrap .u64 ((List.length a1_ : Nat) : Int))) fun r1_ =>
 .c Y1 (F_zbo 1000000 (0 : Int) ((List.length a1_ : Nat) : Int) r1_ a1_) fun r2_ =>
 .l r2_
noncomputable def F_zax (a1_ : Y1) : Option Y1 := (T_zax a1_).ev
noncomputable def A_zax : Sh := (.cons (.arr 64) .nil)
noncomputable def I_zax : List (Nat × OSh) := [(64, .arr 3 yi)]
noncomputable def K_zax : RetK := { acts := [], res := [], sh := .nil, obs := [(64, .arr 3 yi)], pins := [(0, 0, 64)] }
noncomputable def D_zax : FD := ⟨A_zax, I_zax, [.arg 0], Y1, fun x => F_zax x.2.1, fun r => ([], [(64, .arr 3 yi r)])⟩
noncomputable def E_zax : Env := envOf [(155, D_zan), (154, D_zbo 1000000)]
noncomputable def Z_zax : Nat → Nat → List Nat := fun _ _ => []
noncomputable def O_zax : List (Nat × LD) := []
noncomputable def C_zax : Code := (f124.body).getD .skip
noncomputable def S_zj_0 (k : Y1 × (Int × Y1)) (v : Int × Int) : Tr ((Int × Int) ⊕ (Int)) :=
 .t (decide (v.2 < k.2.1))
 (.g (inR v.2 (List.length k.2.2)) <|
 .g (decide ((Int.toNat v.2) < List.length k.2.2)) <|
 .g (inR v.2 (List.length k.1)) <|
 .l (.inl ((IntKind.wrap .i64 (v.1 + (IntKind.wrap .i64 ((List.getD k.2.2 (Int.toNat v.2) (0 : Int)) * (List.getD k.1 (Int.toNat v.2) (0 : Int)))))), (IntKind.wrap .i64 (v.2 + (1 : Int))))))
 (.l (.inr v.1))
noncomputable def L_zj_0 (k : Y1 × (Int × Y1)) (v : Int × Int) : Option (Int) := iter (fun v => (S_zj_0 k v).ev) v
noncomputable def DL_zj_0 : LD := ⟨{ acts := [], S := { slots := [2, 8, 16, 17, 18], sh := (.cons (.dat y1) (.cons (.dat yi) (.cons (.arr 832) (.cons (.dat yi) (.cons (.dat yi) .nil))))), obs := [(832, .arr 3 yi)] } }, [(0, (yh [8] (.cons (.dat yi) .nil)))], (yh [] .nil), Y1 × (Int × Y1), Int × (Int), Int, fun k v => ((k.1, (v.1, ((), (k.2.1, (v.2, ()))))), (k.2.2, ())), fun t => (t.1.1, (t.1.2.2.2.1, t.2.1)), fun t => (t.1.2.1, t.1.2.2.2.2.1), S_zj_0, fun _ r => .l (.exit 0 (mkSt ((ys [8] (.cons (.dat yi) .nil))) ((r, ()), ())))⟩
noncomputable def T_zj (a1_ : Y1) (a2_ : List Y1) (a3_ : Y1) (a4_ : Y1) : Tr (Int) :=
 .c Y1 (F_zg a1_ a2_ a3_) fun r1_ =>
 .c Y1 (F_zax r1_) fun r2_ =>
 .c (Int) (L_zj_0 (a4_, (((List.length r2_ : Nat) : Int), r2_)) ((0 : Int), (0 : Int))) fun r9_ =>
 .l r9_
noncomputable def F_zj (a1_ : Y1) (a2_ : List Y1) (a3_ : Y1) (a4_ : Y1) : Option (Int) := (T_zj a1_ a2_ a3_ a4_).ev
noncomputable def A_zj : Sh := (.cons (.agg (.cons (.dat y1) (.cons (.dat y2) .nil))) (.cons (.dat y1) (.cons (.dat y1) .nil)))
noncomputable def I_zj : List (Nat × OSh) := []
noncomputable def K_zj : RetK := { acts := [], res := [.tmp 6], sh := (.cons (.dat yi) .nil), obs := [], pins := [] }
noncomputable def D_zj : FD := ⟨A_zj, I_zj, [], Int, fun x => F_zj x.1.1.1 x.1.1.2.1 x.1.2.1 x.1.2.2.1, fun r => ([.dat yi r], [])⟩
noncomputable def E_zj : Env := envOf [(123, D_zg), (124, D_zax)]
noncomputable def Z_zj : Nat → Nat → List Nat := fun _ _ => []
noncomputable def O_zj : List (Nat × LD) := [(0, DL_zj_0)]
noncomputable def C_zj : Code := (f84.body).getD .skip
noncomputable def T_zt (a1_ : Y1) (a2_ : List Y1) (a3_ : Y1) (a4_ : Y1) : Tr (Int × (Bool)) :=
 .c (Bool) (F_zad a1_ a2_ a3_) fun r1_ =>
 .t (!r1_)
 (.l ((0 : Int), false))
 (.c (Bool) (F_ze a1_ a2_ a4_) fun r2_ =>
 .t (!r2_)
 (.l ((0 : Int), false))
 (.c (Int) (F_zj a1_ a2_ a3_ a4_) fun r3_ =>
 .l (r3_, true)))
noncomputable def F_zt (a1_ : Y1) (a2_ : List Y1) (a3_ : Y1) (a4_ : Y1) : Option (Int × (Bool)) := (T_zt a1_ a2_ a3_ a4_).ev
noncomputable def A_zt : Sh := (.cons (.agg (.cons (.dat y1) (.cons (.dat y2) .nil))) (.cons (.dat y1) (.cons (.dat y1) .nil)))
noncomputable def I_zt : List (Nat × OSh) := []
noncomputable def K_zt : RetK := { acts := [], res := [.tmp 6, .tmp 7], sh := (.cons (.dat yi) (.cons (.dat .bool) .nil)), obs := [], pins := [] }
noncomputable def D_zt : FD := ⟨A_zt, I_zt, [], Int × (Bool), fun x => F_zt x.1.1.1 x.1.1.2.1 x.1.2.1 x.1.2.2.1, fun r => ([.dat yi r.1, .dat .bool r.2], [])⟩
noncomputable def E_zt : Env := envOf [(82, D_zad), (83, D_ze), (84, D_zj)]
noncomputable def Z_zt : Nat → Nat → List Nat := fun _ _ => []
noncomputable def O_zt : List (Nat × LD) := []
noncomputable def C_zt : Code := (f27.body).getD .skip
noncomputable def T_zch (a1_ : Int) (a2_ : Int) (a3_ : Int) : Tr (Bool) :=
 .t (decide (a2_ ≤ a1_))
 (.l (decide (a1_ ≤ a3_)))
 (.l false)
noncomputable def F_zch (a1_ : Int) (a2_ : Int) (a3_ : Int) : Option (Bool) := (T_zch a1_ a2_ a3_).ev
noncomputable def A_zch : Sh := (.cons (.dat yi) (.cons (.dat yi) (.cons (.dat yi) .nil)))
noncomputable def I_zch : List (Nat × OSh) := []
noncomputable def K_zch : RetK := { acts := [], res := [.tmp 6], sh := (.cons (.dat .bool) .nil), obs := [], pins := [] }
noncomputable def D_zch : FD := ⟨A_zch, I_zch, [], Bool, fun x => F_zch x.1.1 x.1.2.1 x.1.2.2.1, fun r => ([.dat .bool r], [])⟩
noncomputable def E_zch : Env := envOf []
noncomputable def Z_zch : Nat → Nat → List Nat := fun _ _ => []
noncomputable def O_zch : List (Nat × LD) := []
noncomputable def C_zch : Code := (f76.body).getD .skip
noncomputable def S_zct_0 (k : Y1 × (Int × Int)) (v : Int) : Tr ((Int) ⊕ ((Unit) ⊕ (Unit))) :=
 .t (decide (v < ((List.length k.1 : Nat) : Int)))
 (.g (inR v (List.length k.1)) <|
 .c (Bool) (F_zch (List.getD k.1 (Int.toNat v) (0 : Int)) (0 : Int) k.2.2) fun r5_ =>
 .t (!r5_)
 (.l (.inr (.inr ())))
 (.l (.inl (IntKind.wrap .i64 (v + (1 : Int))))))
 (.l (.inr (.inl ())))
noncomputable def L_zct_0 (k : Y1 × (Int × Int)) (v : Int) : Option ((Unit) ⊕ (Unit)) := iter (fun v => (S_zct_0 k v).ev) v
noncomputable def DL_zct_0 : LD := ⟨(yh [0, 1, 2, 7] (.cons (.dat y1) (.cons (.dat yi) (.cons (.dat yi) (.cons (.dat yi) .nil))))), [(0, (yh [0, 1] (.cons (.dat y1) (.cons (.dat yi) .nil))))], (yh [6] (.cons (.dat .bool) .nil)), Y1 × (Int × Int), Int, (Unit) ⊕ (Unit), fun k v => ((k.1, (k.2.1, (k.2.2, (v, ())))), ()), fun t => (t.1.1, (t.1.2.1, t.1.2.2.1)), fun t => t.1.2.2.2.1, S_zct_0, fun k r => .s (Unit) (Unit) r (fun _ => .l (.exit 0 (mkSt ((ys [0, 1] (.cons (.dat y1) (.cons (.dat yi) .nil)))) ((k.1, (k.2.1, ())), ())))) (fun _ => .l (.ret (mkSt ((ys [6] (.cons (.dat .bool) .nil))) ((false, ()), ()))))⟩
noncomputable def T_zct (a1_ : Y1) (a2_ : Int) (a3_ : Int) : Tr (Bool) :=
 .c ((Unit) ⊕ (Unit)) (L_zct_0 (a1_, (a2_, a3_)) (0 : Int)) fun r9_ =>
 .s (Unit) (Unit) r9_
 (fun _ => .l (((List.length a1_ : Nat) : Int) == a2_))
 (fun _ => .l false)
noncomputable def F_zct (a1_ : Y1) (a2_ : Int) (a3_ : Int) : Option (Bool) := (T_zct a1_ a2_ a3_).ev
noncomputable def A_zct : Sh := (.cons (.dat y1) (.cons (.dat yi) (.cons (.dat yi) .nil)))
noncomputable def I_zct : List (Nat × OSh) := []
noncomputable def K_zct : RetK := { acts := [], res := [.tmp 6], sh := (.cons (.dat .bool) .nil), obs := [], pins := [] }
noncomputable def D_zct : FD := ⟨A_zct, I_zct, [], Bool, fun x => F_zct x.1.1 x.1.2.1 x.1.2.2.1, fun r => ([.dat .bool r], [])⟩
noncomputable def E_zct : Env := envOf [(76, D_zch)]
noncomputable def Z_zct : Nat → Nat → List Nat := fun _ _ => []
noncomputable def O_zct : List (Nat × LD) := [(0, DL_zct_0)]
noncomputable def C_zct : Code := (f86.body).getD .skip
noncomputable def S_zcp_0 (k : Int × (Y1 × Y2)) (v : Int) : Tr ((Int) ⊕ ((Unit) ⊕ (Unit))) :=
 .t (decide (v < ((List.length k.2.2 : Nat) : Int)))
 (.g (inR v (List.length k.2.2)) <|
 .c (Bool) (F_zct (List.getD k.2.2 (Int.toNat v) ([] : Y1)) k.1 (99 : Int)) fun r5_ =>
 .t (!r5_)
 (.l (.inr (.inr ())))
 (.l (.inl (IntKind.wrap .i64 (v + (1 : Int))))))
 (.l (.inr (.inl ())))
noncomputable def L_zcp_0 (k : Int × (Y1 × Y2)) (v : Int) : Option ((Unit) ⊕ (Unit)) := iter (fun v => (S_zcp_0 k v).ev) v
noncomputable def DL_zcp_0 : LD := ⟨{ acts := [], S := { slots := [1, 3, 4], sh := (.cons (.box 1 0) (.cons (.dat yi) (.cons (.dat yi) .nil))), obs := [(1, .cells (.cons (.dat y1) (.cons (.dat y2) .nil)))] } }, [(0, { acts := [], S := { slots := [1, 3], sh := (.cons (.box 1 0) (.cons (.dat yi) .nil)), obs := [(1, .cells (.cons (.dat y1) (.cons (.dat y2) .nil)))] } })], (yh [2] (.cons (.dat .bool) .nil)), Int × (Y1 × Y2), Int, (Unit) ⊕ (Unit), fun k v => (((), (k.1, (v, ()))), ((k.2.1, (k.2.2, ())), ())), fun t => (t.1.2.1, (t.2.1.1, t.2.1.2.1)), fun t => t.1.2.2.1, S_zcp_0, fun k r => .s (Unit) (Unit) r (fun _ => .l (.exit 0 (mkSt ({ slots := [1, 3], sh := (.cons (.box 1 0) (.cons (.dat yi) .nil)), obs := [(1, .cells (.cons (.dat y1) (.cons (.dat y2) .nil)))] }) (((), (k.1, ())), ((k.2.1, (k.2.2, ())), ()))))) (fun _ => .l (.ret (mkSt ((ys [2] (.cons (.dat .bool) .nil))) ((false, ()), ()))))⟩
noncomputable def T_zcp (a1_ : Y1) (a2_ : List Y1) : Tr (Bool) :=
 .c ((Unit) ⊕ (Unit)) (L_zcp_0 (((List.length a1_ : Nat) : Int), (a1_, a2_)) (0 : Int)) fun r10_ =>
 .s (Unit) (Unit) r10_
 (fun _ => .c (Bool) (F_zch ((List.length a1_ : Nat) : Int) (1 : Int) (7 : Int)) fun r13_ =>
 .t r13_
 (.c (Bool) (F_zct a1_ ((List.length a1_ : Nat) : Int) (99 : Int)) fun r14_ =>
 .t r14_
 (.l (decide (((List.length a2_ : Nat) : Int) ≤ (7 : Int))))
 (.l false))
 (.l false))
 (fun _ => .l false)
noncomputable def F_zcp (a1_ : Y1) (a2_ : List Y1) : Option (Bool) := (T_zcp a1_ a2_).ev
noncomputable def A_zcp : Sh := (.cons (.agg (.cons (.dat y1) (.cons (.dat y2) .nil))) .nil)
noncomputable def I_zcp : List (Nat × OSh) := []
noncomputable def K_zcp : RetK := { acts := [], res := [.tmp 2], sh := (.cons (.dat .bool) .nil), obs := [], pins := [] }
noncomputable def D_zcp : FD := ⟨A_zcp, I_zcp, [], Bool, fun x => F_zcp x.1.1.1 x.1.1.2.1, fun r => ([.dat .bool r], [])⟩
noncomputable def E_zcp : Env := envOf [(86, D_zct), (76, D_zch)]
noncomputable def Z_zcp : Nat → Nat → List Nat := fun _ _ => []
noncomputable def O_zcp : List (Nat × LD) := [(0, DL_zcp_0)]
noncomputable def C_zcp : Code := (f125.body).getD .skip
noncomputable def S_zcl_0 (k : Y1 × (Int × Int)) (v : Int) : Tr ((Int) ⊕ ((Unit) ⊕ (Unit))) :=
 .t (decide (v < ((List.length k.1 : Nat) : Int)))
 (.g (inR v (List.length k.1)) <|
 .c (Bool) (F_zch (List.getD k.1 (Int.toNat v) (0 : Int)) k.2.1 k.2.2) fun r5_ =>
 .t (!r5_)
 (.l (.inr (.inr ())))
 (.t (decide ((0 : Int) < v))
 (.g (inR (IntKind.wrap .i64 (v - (1 : Int))) (List.length k.1)) <|
 .g (inR v (List.length k.1)) <|
 .t (decide ((List.getD k.1 (Int.toNat v) (0 : Int)) ≤ (List.getD k.1 (Int.toNat (IntKind.wrap .i64 (v - (1 : Int)))) (0 : Int))))
 (.l (.inr (.inr ())))
 (.l (.inl (IntKind.wrap .i64 (v + (1 : Int))))))
 (.l (.inl (IntKind.wrap .i64 (v + (1 : Int)))))))
 (.l (.inr (.inl ())))
noncomputable def L_zcl_0 (k : Y1 × (Int × Int)) (v : Int) : Option ((Unit) ⊕ (Unit)) := iter (fun v => (S_zcl_0 k v).ev) v
noncomputable def DL_zcl_0 : LD := ⟨(yh [0, 1, 2, 7] (.cons (.dat y1) (.cons (.dat yi) (.cons (.dat yi) (.cons (.dat yi) .nil))))), [(0, (yh [] .nil))], (yh [6] (.cons (.dat .bool) .nil)), Y1 × (Int × Int), Int, (Unit) ⊕ (Unit), fun k v => ((k.1, (k.2.1, (k.2.2, (v, ())))), ()), fun t => (t.1.1, (t.1.2.1, t.1.2.2.1)), fun t => t.1.2.2.2.1, S_zcl_0, fun _ r => .s (Unit) (Unit) r (fun _ => .l (.exit 0 (mkSt ((ys [] .nil)) ((), ())))) (fun _ => .l (.ret (mkSt ((ys [6] (.cons (.dat .bool) .nil))) ((false, ()), ()))))⟩
noncomputable def T_zcl (a1_ : Y1) (a2_ : Int) (a3_ : Int) : Tr (Bool) :=
 .c ((Unit) ⊕ (Unit)) (L_zcl_0 (a1_, (a2_, a3_)) (0 : Int)) fun r7_ =>
 .s (Unit) (Unit) r7_
 (fun _ => .l true)
 (fun _ => .l false)
noncomputable def F_zcl (a1_ : Y1) (a2_ : Int) (a3_ : Int) : Option (Bool) := (T_zcl a1_ a2_ a3_).ev
noncomputable def A_zcl : Sh := (.cons (.dat y1) (.cons (.dat yi) (.cons (.dat yi) .nil)))
noncomputable def I_zcl : List (Nat × OSh) := []
noncomputable def K_zcl : RetK := { acts := [], res := [.tmp 6], sh := (.cons (.dat .bool) .nil), obs := [], pins := [] }
noncomputable def D_zcl : FD := ⟨A_zcl, I_zcl, [], Bool, fun x => F_zcl x.1.1 x.1.2.1 x.1.2.2.1, fun r => ([.dat .bool r], [])⟩
noncomputable def E_zcl : Env := envOf [(76, D_zch)]
noncomputable def Z_zcl : Nat → Nat → List Nat := fun _ _ => []
noncomputable def O_zcl : List (Nat × LD) := [(0, DL_zcl_0)]
noncomputable def C_zcl : Code := (f68.body).getD .skip
noncomputable def T_zcu (a1_ : Y1) (_a2_ : List Y1) (a3_ : Y1) : Tr (Bool) :=
 .c (Bool) (F_zcl a3_ (0 : Int) (IntKind.wrap .i64 (((List.length a1_ : Nat) : Int) - (1 : Int)))) fun r1_ =>
 .l r1_
noncomputable def F_zcu (a1_ : Y1) (a2_ : List Y1) (a3_ : Y1) : Option (Bool) := (T_zcu a1_ a2_ a3_).ev
noncomputable def A_zcu : Sh := (.cons (.agg (.cons (.dat y1) (.cons (.dat y2) .nil))) (.cons (.dat y1) .nil))
noncomputable def I_zcu : List (Nat × OSh) := []
noncomputable def K_zcu : RetK := { acts := [], res := [.tmp 4], sh := (.cons (.dat .bool) .nil), obs := [], pins := [] }
noncomputable def D_zcu : FD := ⟨A_zcu, I_zcu, [], Bool, fun x => F_zcu x.1.1.1 x.1.1.2.1 x.1.2.1, fun r => ([.dat .bool r], [])⟩
noncomputable def E_zcu : Env := envOf [(68, D_zcl)]
noncomputable def Z_zcu : Nat → Nat → List Nat := fun _ _ => []
noncomputable def O_zcu : List (Nat × LD) := []
noncomputable def C_zcu : Code := (f126.body).getD .skip
noncomputable def T_zcx (a1_ : Y1) (a2_ : List Y1) (a3_ : Y1) : Tr (Bool) :=
 .c (Bool) (F_zcp a1_ a2_) fun r1_ =>
 .t r1_
 (.c (Bool) (F_zcu a1_ a2_ a3_) fun r2_ =>
 .t r2_
 (.l (decide ((0 : Int) < ((List.length a3_ : Nat) : Int))))
 (.l false))
 (.l false)
noncomputable def F_zcx (a1_ : Y1) (a2_ : List Y1) (a3_ : Y1) : Option (Bool) := (T_zcx a1_ a2_ a3_).ev
noncomputable def A_zcx : Sh := (.cons (.agg (.cons (.dat y1) (.cons (.dat y2) .nil))) (.cons (.dat y1) .nil))
noncomputable def I_zcx : List (Nat × OSh) := []
noncomputable def K_zcx : RetK := { acts := [], res := [.tmp 4], sh := (.cons (.dat .bool) .nil), obs := [], pins := [] }
noncomputable def D_zcx : FD := ⟨A_zcx, I_zcx, [], Bool, fun x => F_zcx x.1.1.1 x.1.1.2.1 x.1.2.1, fun r => ([.dat .bool r], [])⟩
noncomputable def E_zcx : Env := envOf [(125, D_zcp), (126, D_zcu)]
noncomputable def Z_zcx : Nat → Nat → List Nat := fun _ _ => []
noncomputable def O_zcx : List (Nat × LD) := []
noncomputable def C_zcx : Code := (f85.body).getD .skip
noncomputable def S_zcw_0 (k : Int × (Y1 × (Y1 × Y2))) (v : Int × Int) : Tr ((Int × Int) ⊕ (Int)) :=
 .t (decide (v.2 < ((List.length k.2.1 : Nat) : Int)))
 (.g (inR k.1 (List.length k.2.2.2)) <|
 .g (inR v.2 (List.length k.2.1)) <|
 .g (inR (List.getD k.2.1 (Int.toNat v.2) (0 : Int)) (List.length (List.getD k.2.2.2 (Int.toNat k.1) ([] : Y1)))) <|
 .g (inR k.1 (List.length k.2.2.2)) <|
 .g (inR v.1 (List.length (List.getD k.2.2.2 (Int.toNat k.1) ([] : Y1)))) <|
 .t (decide ((List.getD (List.getD k.2.2.2 (Int.toNat k.1) ([] : Y1)) (Int.toNat (List.getD k.2.1 (Int.toNat v.2) (0 : Int))) (0 : Int)) < (List.getD (List.getD k.2.2.2 (Int.toNat k.1) ([] : Y1)) (Int.toNat v.1) (0 : Int))))
 (.g (inR v.2 (List.length k.2.1)) <|
 .l (.inl ((List.getD k.2.1 (Int.toNat v.2) (0 : Int)), (IntKind.wrap .i64 (v.2 + (1 : Int))))))
 (.l (.inl (v.1, (IntKind.wrap .i64 (v.2 + (1 : Int)))))))
 (.l (.inr v.1))
noncomputable def L_zcw_0 (k : Int × (Y1 × (Y1 × Y2))) (v : Int × Int) : Option (Int) := iter (fun v => (S_zcw_0 k v).ev) v
noncomputable def DL_zcw_0 : LD := ⟨{ acts := [], S := { slots := [1, 2, 3, 7, 8], sh := (.cons (.dat yi) (.cons (.dat y1) (.cons (.box 3 0) (.cons (.dat yi) (.cons (.dat yi) .nil))))), obs := [(3, .cells (.cons (.dat y1) (.cons (.dat y2) .nil)))] } }, [(0, (yh [7] (.cons (.dat yi) .nil)))], (yh [] .nil), Int × (Y1 × (Y1 × Y2)), Int × (Int), Int, fun k v => ((k.1, (k.2.1, ((), (v.1, (v.2, ()))))), ((k.2.2.1, (k.2.2.2, ())), ())), fun t => (t.1.1, (t.1.2.1, (t.2.1.1, t.2.1.2.1))), fun t => (t.1.2.2.2.1, t.1.2.2.2.2.1), S_zcw_0, fun _ r => .l (.exit 0 (mkSt ((ys [7] (.cons (.dat yi) .nil))) ((r, ()), ())))⟩
noncomputable def T_zcw (a1_ : Y1) (a2_ : List Y1) (a3_ : Int) (a4_ : Y1) : Tr (Int) :=
 .g (inR (0 : Int) (List.length a4_)) <|
 .c (Int) (L_zcw_0 (a3_, (a4_, (a1_, a2_))) ((List.getD a4_ (Int.toNat (0 : Int)) (0 : Int)), (1 : Int))) fun r8_ =>
 .l r8_
noncomputable def F_zcw (a1_ : Y1) (a2_ : List Y1) (a3_ : Int) (a4_ : Y1) : Option (Int) := (T_zcw a1_ a2_ a3_ a4_).ev
noncomputable def A_zcw : Sh := (.cons (.agg (.cons (.dat y1) (.cons (.dat y2) .nil))) (.cons (.dat yi) (.cons (.dat y1) .nil)))
noncomputable def I_zcw : List (Nat × OSh) := []
noncomputable def K_zcw : RetK := { acts := [], res := [.tmp 6], sh := (.cons (.dat yi) .nil), obs := [], pins := [] }
noncomputable def D_zcw : FD := ⟨A_zcw, I_zcw, [], Int, fun x => F_zcw x.1.1.1 x.1.1.2.1 x.1.2.1 x.1.2.2.1, fun r => ([.dat yi r], [])⟩
noncomputable def E_zcw : Env := envOf []
noncomputable def Z_zcw : Nat → Nat → List Nat := fun _ _ => []
noncomputable def O_zcw : List (Nat × LD) := [(0, DL_zcw_0)]
noncomputable def C_zcw : Code := (f156.body).getD .skip
noncomputable def T_zcr (a1_ : Y1) (a2_ : List Y1) (a3_ : Int) (a4_ : Y1) : Tr (Int) :=
 .g (inR a3_ (List.length a2_)) <|
 .c (Int) (F_zcw a1_ a2_ a3_ a4_) fun r1_ =>
 .g (inR r1_ (List.length (List.getD a2_ (Int.toNat a3_) ([] : Y1)))) <|
 .l (List.getD (List.getD a2_ (Int.toNat a3_) ([] : Y1)) (Int.toNat r1_) (0 : Int))
noncomputable def F_zcr (a1_ : Y1) (a2_ : List Y1) (a3_ : Int) (a4_ : Y1) : Option (Int) := (T_zcr a1_ a2_ a3_ a4_).ev
noncomputable def A_zcr : Sh := (.cons (.agg (.cons (.dat y1) (.cons (.dat y2) .nil))) (.cons (.dat yi) (.cons (.dat y1) .nil)))
noncomputable def I_zcr : List (Nat × OSh) := []
noncomputable def K_zcr : RetK := { acts := [], res := [.tmp 6], sh := (.cons (.dat yi) .nil), obs := [], pins := [] }
noncomputable def D_zcr : FD := ⟨A_zcr, I_zcr, [], Int, fun x => F_zcr x.1.1.1 x.1.1.2.1 x.1.2.1 x.1.2.2.1, fun r => ([.dat yi r], [])⟩
noncomputable def E_zcr : Env := envOf [(156, D_zcw)]
noncomputable def Z_zcr : Nat → Nat → List Nat := fun _ _ => []
noncomputable def O_zcr : List (Nat × LD) := []
noncomputable def C_zcr : Code := (f127.body).getD .skip
noncomputable def S_zbu_2 (k : Y1 × (Y1 × (Y1 × (Int × (Int × (Int × (Y1 × Y2))))))) (v : Int) : Tr ((Int) ⊕ (Int)) :=
 .t (decide (v < ((List.length k.2.2.1 : Nat) : Int)))
 (.g (inR v (List.length k.2.2.1)) <|
 .t (decide ((List.getD k.2.2.1 (Int.toNat v) (0 : Int)) ≤ k.2.2.2.2.2.1))
 (.l (.inl (IntKind.wrap .i64 (v + (1 : Int)))))
 (.l (.inr v)))
 (.l (.inr v))
noncomputable def L_zbu_2 (k : Y1 × (Y1 × (Y1 × (Int × (Int × (Int × (Y1 × Y2))))))) (v : Int) : Option (Int) := iter (fun v => (S_zbu_2 k v).ev) v
noncomputable def DL_zbu_2 : LD := ⟨{ acts := [], S := { slots := [1, 2, 3, 7, 8, 9, 10, 11], sh := (.cons (.dat y1) (.cons (.dat y1) (.cons (.box 3 0) (.cons (.dat y1) (.cons (.dat yi) (.cons (.dat yi) (.cons (.dat yi) (.cons (.dat yi) .nil)))))))), obs := [(3, .cells (.cons (.dat y1) (.cons (.dat y2) .nil)))] } }, [(2, { acts := [], S := { slots := [1, 2, 3, 7, 8, 9, 10, 11], sh := (.cons (.dat y1) (.cons (.dat y1) (.cons (.box 3 0) (.cons (.dat y1) (.cons (.dat yi) (.cons (.dat yi) (.cons (.dat yi) (.cons (.dat yi) .nil)))))))), obs := [(3, .cells (.cons (.dat y1) (.cons (.dat y2) .nil)))] } })], (yh [] .nil), Y1 × (Y1 × (Y1 × (Int × (Int × (Int × (Y1 × Y2)))))), Int, Int, fun k v => ((k.1, (k.2.1, ((), (k.2.2.1, (k.2.2.2.1, (k.2.2.2.2.1, (k.2.2.2.2.2.1, (v, ())))))))), ((k.2.2.2.2.2.2.1, (k.2.2.2.2.2.2.2, ())), ())), fun t => (t.1.1, (t.1.2.1, (t.1.2.2.2.1, (t.1.2.2.2.2.1, (t.1.2.2.2.2.2.1, (t.1.2.2.2.2.2.2.1, (t.2.1.1, t.2.1.2.1))))))), fun t => t.1.2.2.2.2.2.2.2.1, S_zbu_2, fun k r => .l (.exit 2 (mkSt ({ slots := [1, 2, 3, 7, 8, 9, 10, 11], sh := (.cons (.dat y1) (.cons (.dat y1) (.cons (.box 3 0) (.cons (.dat y1) (.cons (.dat yi) (.cons (.dat yi) (.cons (.dat yi) (.cons (.dat yi) .nil)))))))), obs := [(3, .cells (.cons (.dat y1) (.cons (.dat y2) .nil)))] }) ((k.1, (k.2.1, ((), (k.2.2.1, (k.2.2.2.1, (k.2.2.2.2.1, (k.2.2.2.2.2.1, (r, ())))))))), ((k.2.2.2.2.2.2.1, (k.2.2.2.2.2.2.2, ())), ()))))⟩
noncomputable def S_zbu_0 (k : Y1 × (Y1 × (Int × (Y1 × Y2)))) (v : Y1 × Int) : Tr ((Y1 × Int) ⊕ Y1) :=
 .t (decide (v.2 < ((List.length k.2.2.2.2 : Nat) : Int)))
 (.c (Int) (F_zcr k.2.2.2.1 k.2.2.2.2 v.2 k.1) fun r35_ =>
 .c (Int) (L_zbu_2 (k.1, (k.2.1, (v.1, (k.2.2.1, (v.2, (r35_, (k.2.2.2.1, k.2.2.2.2))))))) (0 : Int)) fun r54_ =>
 .g (decide ((0 : Int) ≤ r54_) && decide (r54_ ≤ ((List.length v.1 : Nat) : Int))) <|
 .g (decide ((List.length ([] : Y1) + List.length (List.drop 0 (List.take (Int.toNat r54_) v.1))) * 8 ≤ 140737488355328)) <|
 .g (decide ((List.length (([] : Y1) ++ (List.drop 0 (List.take (Int.toNat r54_) v.1))) + List.length ([r35_] : Y1)) * 8 ≤ 140737488355328)) <|
 .g (decide ((0 : Int) ≤ r54_) && decide (r54_ ≤ ((List.length v.1 : Nat) : Int))) <|
 .g (decide ((List.length ((([] : Y1) ++ (List.drop 0 (List.take (Int.toNat r54_) v.1))) ++ ([r35_] : Y1)) + List.length (List.drop (Int.toNat r54_) (List.take (List.length v.1) v.1))) * 8 ≤ 140737488355328)) <|
 .l (.inl ((((([] : Y1) ++ (List.drop 0 (List.take (Int.toNat r54_) v.1))) ++ ([r35_] : Y1)) ++ (List.drop (Int.toNat r54_) (List.take (List.length v.1) v.1))), (IntKind.wrap .i64 (v.2 + (1 : Int))))))
 (.l (.inr v.1))
noncomputable def L_zbu_0 (k : Y1 × (Y1 × (Int × (Y1 × Y2)))) (v : Y1 × Int) : Option Y1 := iter (fun v => (S_zbu_0 k v).ev) v
noncomputable def DL_zbu_0 : LD := ⟨{ acts := [.fz 13, .fz 39], S := { slots := [1, 2, 3, 7, 8, 9], sh := (.cons (.dat y1) (.cons (.dat y1) (.cons (.box 3 0) (.cons (.dat y1) (.cons (.dat yi) (.cons (.dat yi) .nil)))))), obs := [(3, .cells (.cons (.dat y1) (.cons (.dat y2) .nil)))] } }, [(0, (yh [2, 7, 8] (.cons (.dat y1) (.cons (.dat y1) (.cons (.dat yi) .nil)))))], (yh [] .nil), Y1 × (Y1 × (Int × (Y1 × Y2))), Y1 × (Int), Y1, fun k v => ((k.1, (k.2.1, ((), (v.1, (k.2.2.1, (v.2, ())))))), ((k.2.2.2.1, (k.2.2.2.2, ())), ())), fun t => (t.1.1, (t.1.2.1, (t.1.2.2.2.2.1, (t.2.1.1, t.2.1.2.1)))), fun t => (t.1.2.2.2.1, t.1.2.2.2.2.2.1), S_zbu_0, fun k r => .l (.exit 0 (mkSt ((ys [2, 7, 8] (.cons (.dat y1) (.cons (.dat y1) (.cons (.dat yi) .nil))))) ((k.2.1, (r, (k.2.2.1, ()))), ())))⟩
noncomputable def S_zbu_4 (k : Y1 × Y1) (v : Int × Int) : Tr ((Int × Int) ⊕ (Int)) :=
 .t (decide (v.2 < ((List.length k.2 : Nat) : Int)))
 (.g (inR v.2 (List.length k.1)) <|
 .g (inR v.2 (List.length k.2)) <|
 .l (.inl ((IntKind.wrap .i64 (v.1 + (IntKind.wrap .i64 ((List.getD k.1 (Int.toNat v.2) (0 : Int)) * (List.getD k.2 (Int.toNat v.2) (0 : Int)))))), (IntKind.wrap .i64 (v.2 + (1 : Int))))))
 (.l (.inr v.1))
noncomputable def L_zbu_4 (k : Y1 × Y1) (v : Int × Int) : Option (Int) := iter (fun v => (S_zbu_4 k v).ev) v
noncomputable def DL_zbu_4 : LD := ⟨(yh [2, 7, 8, 12] (.cons (.dat y1) (.cons (.dat y1) (.cons (.dat yi) (.cons (.dat yi) .nil))))), [(4, (yh [8] (.cons (.dat yi) .nil)))], (yh [] .nil), Y1 × Y1, Int × (Int), Int, fun k v => ((k.1, (k.2, (v.1, (v.2, ())))), ()), fun t => (t.1.1, t.1.2.1), fun t => (t.1.2.2.1, t.1.2.2.2.1), S_zbu_4, fun _ r => .l (.exit 4 (mkSt ((ys [8] (.cons (.dat yi) .nil))) ((r, ()), ())))⟩
noncomputable def T_zbu (a1_ : Y1) (a2_ : List Y1) (a3_ : Y1) (a4_ : Y1) : Tr (Int) :=
 .c Y1 (L_zbu_0 (a3_, (a4_, ((0 : Int), (a1_, a2_)))) (([] : Y1), (0 : Int))) fun r58_ =>
 .c (Int) (L_zbu_4 (a4_, r58_) ((0 : Int), (0 : Int))) fun r64_ =>
 .l r64_
noncomputable def F_zbu (a1_ : Y1) (a2_ : List Y1) (a3_ : Y1) (a4_ : Y1) : Option (Int) := (T_zbu a1_ a2_ a3_ a4_).ev
noncomputable def A_zbu : Sh := (.cons (.agg (.cons (.dat y1) (.cons (.dat y2) .nil))) (.cons (.dat y1) (.cons (.dat y1) .nil)))
noncomputable def I_zbu : List (Nat × OSh) := []
noncomputable def K_zbu : RetK := { acts := [], res := [.tmp 6], sh := (.cons (.dat yi) .nil), obs := [], pins := [] }
noncomputable def D_zbu : FD := ⟨A_zbu, I_zbu, [], Int, fun x => F_zbu x.1.1.1 x.1.1.2.1 x.1.2.1 x.1.2.2.1, fun r => ([.dat yi r], [])⟩
noncomputable def E_zbu : Env := envOf [(127, D_zcr)]
noncomputable def Z_zbu : Nat → Nat → List Nat := fun r i => match look [(8, [(0, [7])])] r with
 | some l => (look l i).getD []
 | none => []
noncomputable def O_zbu : List (Nat × LD) := [(2, DL_zbu_2), (0, DL_zbu_0), (4, DL_zbu_4)]
noncomputable def C_zbu : Code := (f87.body).getD .skip
noncomputable def T_zbt (a1_ : Y1) (a2_ : List Y1) (a3_ : Y1) (a4_ : Y1) : Tr (Int × (Bool)) :=
 .c (Bool) (F_zcx a1_ a2_ a3_) fun r1_ =>
 .t (!r1_)
 (.l ((0 : Int), false))
 (.c (Bool) (F_zct a4_ ((List.length a2_ : Nat) : Int) (99 : Int)) fun r2_ =>
 .t (!r2_)
 (.l ((0 : Int), false))
 (.c (Int) (F_zbu a1_ a2_ a3_ a4_) fun r3_ =>
 .l (r3_, true)))
noncomputable def F_zbt (a1_ : Y1) (a2_ : List Y1) (a3_ : Y1) (a4_ : Y1) : Option (Int × (Bool)) := (T_zbt a1_ a2_ a3_ a4_).ev
noncomputable def A_zbt : Sh := (.cons (.agg (.cons (.dat y1) (.cons (.dat y2) .nil))) (.cons (.dat y1) (.cons (.dat y1) .nil)))
noncomputable def I_zbt : List (Nat × OSh) := []
noncomputable def K_zbt : RetK := { acts := [], res := [.tmp 6, .tmp 7], sh := (.cons (.dat yi) (.cons (.dat .bool) .nil)), obs := [], pins := [] }
noncomputable def D_zbt : FD := ⟨A_zbt, I_zbt, [], Int × (Bool), fun x => F_zbt x.1.1.1 x.1.1.2.1 x.1.2.1 x.1.2.2.1, fun r => ([.dat yi r.1, .dat .bool r.2], [])⟩
noncomputable def E_zbt : Env := envOf [(85, D_zcx), (86, D_zct), (87, D_zbu)]
noncomputable def Z_zbt : Nat → Nat → List Nat := fun _ _ => []
noncomputable def O_zbt : List (Nat × LD) := []
noncomputable def C_zbt : Code := (f28.body).getD .skip
noncomputable def T_zbw (a4_ : Y1) (_a5_ : List Y1) (a1_ : Y1) (a2_ : Int) (a3_ : Int) : Tr (Int × (Y1 × (Int × Int))) :=
 .t (((List.length a4_ : Nat) : Int) == (0 : Int))
 (.c (Int × (Y1 × (Int × Int))) (F_zbv ([(0 : Int), (-1 : Int), (8 : Int), (IntKind.wrap .i64 (((List.length a4_ : Nat) : Int) + (1 : Int)))] : Y1) a1_ a2_ a3_) fun r1_ =>
 .l (r1_.1, (r1_.2.1, (r1_.2.2.1, r1_.2.2.2))))
 (.c (Bool × (Y1 × (Int × Int))) (F_zcb (20 : Int) a1_ a2_ a3_) fun r2_ =>
 .t r2_.1
 (.c (Int × (Y1 × (Int × Int))) (F_zbv ([(0 : Int), (-1 : Int), (8 : Int), (IntKind.wrap .i64 (((List.length a4_ : Nat) : Int) + (1 : Int)))] : Y1) r2_.2.1 r2_.2.2.1 r2_.2.2.2) fun r3_ =>
 .l (r3_.1, (r3_.2.1, (r3_.2.2.1, r3_.2.2.2))))
 (.c (Int × (Y1 × (Int × Int))) (F_zcc ((List.length a4_ : Nat) : Int) r2_.2.1 r2_.2.2.1 r2_.2.2.2) fun r4_ =>
 .l ((IntKind.wrap .i64 ((1 : Int) + r4_.1)), (r4_.2.1, (r4_.2.2.1, r4_.2.2.2)))))
noncomputable def F_zbw (a4_ : Y1) (a5_ : List Y1) (a1_ : Y1) (a2_ : Int) (a3_ : Int) : Option (Int × (Y1 × (Int × Int))) := (T_zbw a4_ a5_ a1_ a2_ a3_).ev
noncomputable def A_zbw : Sh := (.cons (.box 64 0) (.cons (.agg (.cons (.dat y1) (.cons (.dat y2) .nil))) .nil))
noncomputable def I_zbw : List (Nat × OSh) := [(64, .cells (.cons (.dat (.slice (.int .u8))) (.cons (.dat yi) (.cons (.dat (.int .u64)) .nil))))]
noncomputable def K_zbw : RetK := { acts := [], res := [.tmp 4], sh := (.cons (.dat yi) .nil), obs := [(64, .cells (.cons (.dat (.slice (.int .u8))) (.cons (.dat yi) (.cons (.dat (.int .u64)) .nil))))], pins := [(0, 0, 64)] }
noncomputable def D_zbw : FD := ⟨A_zbw, I_zbw, [.arg 0], Int × (Y1 × (Int × Int)), fun x => F_zbw x.1.2.1.1 x.1.2.1.2.1 x.2.1.1 x.2.1.2.1 x.2.1.2.2.1, fun r => ([.dat yi r.1], [(64, .cells [.dat (.slice (.int .u8)) r.2.1, .dat yi r.2.2.1, .dat (.int .u64) r.2.2.2])])⟩
noncomputable def E_zbw : Env := envOf [(47, D_zbv), (67, D_zcb), (66, D_zcc)]
noncomputable def Z_zbw : Nat → Nat → List Nat := fun r i => match look [(2, [(6, [18])])] r with
 | some l => (look l i).getD []
 | none => []
noncomputable def O_zbw : List (Nat × LD) := []
noncomputable def C_zbw : Code := (f88.body).getD .skip
noncomputable def T_zbq (a1_ : Y1) : Tr (Y1 × (Y2 × (Int × Y1))) :=
 .c (Y1 × (Y2 × (Y1 × (Int × Int)))) (F_zbx a1_ (0 : Int) (0 : Int)) fun r1_ =>
 .c (Int × (Y1 × (Int × Int))) (F_zbw r1_.1 r1_.2.1 r1_.2.2.1 r1_.2.2.2.1 r1_.2.2.2.2) fun r2_ =>
 .c (Y1 × (Y1 × (Int × Int))) (F_zcg r1_.1 r1_.2.1 r2_.2.1 r2_.2.2.1 r2_.2.2.2) fun r3_ =>
 .l (r1_.1, (r1_.2.1, (r2_.1, r3_.1)))
noncomputable def F_zbq (a1_ : Y1) : Option (Y1 × (Y2 × (Int × Y1))) := (T_zbq a1_).ev
noncomputable def A_zbq : Sh := (.cons (.dat (.slice (.int .u8))) .nil)
noncomputable def I_zbq : List (Nat × OSh) := []
noncomputable def K_zbq : RetK := { acts := [.ren 1152 3], res := [.cell 2 46, .tmp 3, .tmp 4], sh := (.cons (.agg (.cons (.dat y1) (.cons (.dat y2) .nil))) (.cons (.dat yi) (.cons (.arr 3) .nil))), obs := [(3, .arr 3 yi)], pins := [] }
noncomputable def D_zbq : FD := ⟨A_zbq, I_zbq, [], Y1 × (Y2 × (Int × Y1)), fun x => F_zbq x.1.1, fun r => ([.agg [.dat y1 r.1, .dat y2 r.2.1], .dat yi r.2.2.1, .arr 3], [(3, .arr 3 yi r.2.2.2)])⟩
noncomputable def E_zbq : Env := envOf [(79, D_zbx), (88, D_zbw), (81, D_zcg)]
noncomputable def Z_zbq : Nat → Nat → List Nat := fun r i => match look [(3, [(0, [70000705, 70000707])])] r with
 | some l => (look l i).getD []
 | none => []
noncomputable def O_zbq : List (Nat × LD) := []
noncomputable def C_zbq : Code := (f29.body).getD .skip
noncomputable def T_zac (a1_ : Y1) (a2_ : List Y1) (a3_ : Int) : Tr (Bool) :=
 .c (Bool) (F_zo a1_ a2_) fun r1_ =>
 .t r1_
 (.c (Bool) (F_zaa a3_ (1 : Int) ((List.length a1_ : Nat) : Int)) fun r2_ =>
 .l r2_)
 (.l false)
noncomputable def F_zac (a1_ : Y1) (a2_ : List Y1) (a3_ : Int) : Option (Bool) := (T_zac a1_ a2_ a3_).ev
noncomputable def A_zac : Sh := (.cons (.agg (.cons (.dat y1) (.cons (.dat y2) .nil))) (.cons (.dat yi) .nil))
noncomputable def I_zac : List (Nat × OSh) := []
noncomputable def K_zac : RetK := { acts := [], res := [.tmp 4], sh := (.cons (.dat .bool) .nil), obs := [], pins := [] }
noncomputable def D_zac : FD := ⟨A_zac, I_zac, [], Bool, fun x => F_zac x.1.1.1 x.1.1.2.1 x.1.2.1, fun r => ([.dat .bool r], [])⟩
noncomputable def E_zac : Env := envOf [(121, D_zo), (48, D_zaa)]
noncomputable def Z_zac : Nat → Nat → List Nat := fun _ _ => []
noncomputable def O_zac : List (Nat × LD) := []
noncomputable def C_zac : Code := (f89.body).getD .skip
noncomputable def T_zy (a1_ : Int) (a2_ : Int) : Tr (Bool) :=
 .g (decide ((0 : Int) ≤ a2_)) <|
 .l ((IntKind.wrap .u64 (BitVec.toNat ((BitVec.ofInt (IntKind.bits .u64) (Int.fdiv a1_ (2 ^ (min (Int.toNat a2_) (IntKind.bits .u64))))) &&& (BitVec.ofInt (IntKind.bits .u64) (1 : Int))))) == (1 : Int))
noncomputable def F_zy (a1_ : Int) (a2_ : Int) : Option (Bool) := (T_zy a1_ a2_).ev
noncomputable def A_zy : Sh := (.cons (.dat (.int .u64)) (.cons (.dat yi) .nil))
noncomputable def I_zy : List (Nat × OSh) := []
noncomputable def K_zy : RetK := { acts := [], res := [.tmp 4], sh := (.cons (.dat .bool) .nil), obs := [], pins := [] }
noncomputable def D_zy : FD := ⟨A_zy, I_zy, [], Bool, fun x => F_zy x.1.1 x.1.2.1, fun r => ([.dat .bool r], [])⟩
noncomputable def E_zy : Env := envOf []
noncomputable def Z_zy : Nat → Nat → List Nat := fun _ _ => []
noncomputable def O_zy : List (Nat × LD) := []
noncomputable def C_zy : Code := (f163.body).getD .skip
noncomputable def S_zz_0 (k : Int) (v : Int × Y1) : Tr ((Int × Y1) ⊕ Y1) :=
 .g (decide ((0 : Int) ≤ v.1)) <|
 .t (decide ((0 : Int) < (Int.fdiv k (2 ^ (min (Int.toNat v.1) (IntKind.bits .u64))))))
 (.c (Bool) (F_zy k v.1) fun r4_ =>
 .t r4_
 (.g (decide ((List.length v.2 + List.length ([v.1] : Y1)) * 8 ≤ 140737488355328)) <|
 .l (.inl ((IntKind.wrap .i64 (v.1 + (1 : Int))), (v.2 ++ ([v.1] : Y1)))))
 (.l (.inl ((IntKind.wrap .i64 (v.1 + (1 : Int))), v.2))))
 (.l (.inr v.2))
noncomputable def L_zz_0 (k : Int) (v : Int × Y1) : Option Y1 := iter (fun v => (S_zz_0 k v).ev) v
noncomputable def DL_zz_0 : LD := ⟨{ acts := [], S := { slots := [0, 3, 4], sh := (.cons (.dat (.int .u64)) (.cons (.arr 5) (.cons (.dat yi) .nil))), obs := [(5, .arr 3 yi)] } }, [(0, { acts := [], S := { slots := [3], sh := (.cons (.arr 5) .nil), obs := [(5, .arr 3 yi)] } })], (yh [] .nil), Int, Int × Y1, Y1, fun k v => ((k, ((), (v.1, ()))), (v.2, ())), fun t => t.1.1, fun t => (t.1.2.2.1, t.2.1), S_zz_0, fun _ r => .l (.exit 0 (mkSt ({ slots := [3], sh := (.cons (.arr 5) .nil), obs := [(5, .arr 3 yi)] }) (((), ()), (r, ()))))⟩
noncomputable def T_zz (a1_ : Int) : Tr Y1 :=
 .c Y1 (L_zz_0 a1_ ((0 : Int), ([] : Y1))) fun r6_ =>
 .l r6_
noncomputable def F_zz (a1_ : Int) : Option Y1 := (T_zz a1_).ev
noncomputable def A_zz : Sh := (.cons (.dat (.int .u64)) .nil)
noncomputable def I_zz : List (Nat × OSh) := []
noncomputable def K_zz : RetK := { acts := [.ren 5 0], res := [.tmp 2], sh := (.cons (.arr 0) .nil), obs := [(0, .arr 3 yi)], pins := [] }
noncomputable def D_zz : FD := ⟨A_zz, I_zz, [], Y1, fun x => F_zz x.1.1, fun r => ([.arr 0], [(0, .arr 3 yi r)])⟩
noncomputable def E_zz : Env := envOf [(163, D_zy)]
noncomputable def Z_zz : Nat → Nat → List Nat := fun _ _ => []
noncomputable def O_zz : List (Nat × LD) := [(0, DL_zz_0)]
noncomputable def C_zz : Code := (f140.body).getD .skip
noncomputable def S_zbc_2 (k : Int × (Int × (((HL [y1, y1] → Option (Int))) × Int))) (v : Int × ((List Nat) × Y2)) : Tr ((Int × ((List Nat) × Y2)) ⊕ ((List Nat) × Y2)) :=
 .t (decide (k.1 < v.1))
 (.g (inR v.1 (List.length v.2.1)) <|
 .g (decide ((Int.toNat v.1) < List.length v.2.1) && decide ((List.getD v.2.1 (Int.toNat v.1) 0) < List.length v.2.2)) <|
 .g (inR (IntKind.wrap .i64 (v.1 - (1 : Int))) (List.length v.2.1)) <|
 .g (decide ((Int.toNat (IntKind.wrap .i64 (v.1 - (1 : Int)))) < List.length v.2.1) && decide ((List.getD v.2.1 (Int.toNat (IntKind.wrap .i64 (v.1 - (1 : Int)))) 0) < List.length v.2.2)) <|
 .c (Int) (k.2.2.1 ((List.getD v.2.2 (List.getD v.2.1 (Int.toNat v.1) 0) ([] : Y1)), ((List.getD v.2.2 (List.getD v.2.1 (Int.toNat (IntKind.wrap .i64 (v.1 - (1 : Int)))) 0) ([] : Y1)), ()))) fun r12_ =>
 .t (decide (r12_ < (0 : Int)))
 (.g (inR (IntKind.wrap .i64 (v.1 - (1 : Int))) (List.length v.2.1)) <|
 .g (decide ((Int.toNat (IntKind.wrap .i64 (v.1 - (1 : Int)))) < List.length v.2.1) && decide ((List.getD v.2.1 (Int.toNat (IntKind.wrap .i64 (v.1 - (1 : Int)))) 0) < List.length v.2.2)) <|
 .g (inR v.1 (List.length v.2.1)) <|
 .g (decide ((Int.toNat v.1) < List.length v.2.1) && decide ((List.getD v.2.1 (Int.toNat v.1) 0) < List.length v.2.2)) <|
 .g (inR v.1 (List.length v.2.1)) <|
 .g (decide ((Int.toNat v.1) < List.length v.2.1)) <|
 .g (inR (IntKind.wrap .i64 (v.1 - (1 : Int))) (List.length (List.set v.2.1 (Int.toNat v.1) (List.getD v.2.1 (Int.toNat (IntKind.wrap .i64 (v.1 - (1 : Int)))) 0)))) <|
 .g (decide ((Int.toNat (IntKind.wrap .i64 (v.1 - (1 : Int)))) < List.length (List.set v.2.1 (Int.toNat v.1) (List.getD v.2.1 (Int.toNat (IntKind.wrap .i64 (v.1 - (1 : Int)))) 0)))) <|
 .l (.inl ((IntKind.wrap .i64 (v.1 - (1 : Int))), ((List.set (List.set v.2.1 (Int.toNat v.1) (List.getD v.2.1 (Int.toNat (IntKind.wrap .i64 (v.1 - (1 : Int)))) 0)) (Int.toNat (IntKind.wrap .i64 (v.1 - (1 : Int)))) (List.getD v.2.1 (Int.toNat v.1) 0)), v.2.2))))
 (.l (.inr v.2)))
 (.l (.inr v.2))
noncomputable def L_zbc_2 (k : Int × (Int × (((HL [y1, y1] → Option (Int))) × Int))) (v : Int × ((List Nat) × Y2)) : Option ((List Nat) × Y2) := iter (fun v => (S_zbc_2 k v).ev) v
noncomputable def DL_zbc_2 : LD := ⟨{ acts := [], S := { slots := [0, 1, 2, 3, 8, 9], sh := (.cons (.arr 64) (.cons (.dat yi) (.cons (.dat yi) (.cons (.clo [y1, y1] yi) (.cons (.dat yi) (.cons (.dat yi) .nil)))))), obs := [(64, .perm 27 3 yi)] } }, [(2, { acts := [], S := { slots := [0, 1, 2, 3, 8], sh := (.cons (.arr 64) (.cons (.dat yi) (.cons (.dat yi) (.cons (.clo [y1, y1] yi) (.cons (.dat yi) .nil))))), obs := [(64, .perm 27 3 yi)] } })], (yh [] .nil), Int × (Int × (((HL [y1, y1] → Option (Int))) × Int)), Int × ((List Nat) × Y2), (List Nat) × Y2, fun k v => (((), (k.1, (k.2.1, (k.2.2.1, (k.2.2.2, (v.1, ())))))), (v.2, ())), fun t => (t.1.2.1, (t.1.2.2.1, (t.1.2.2.2.1, t.1.2.2.2.2.1))), fun t => (t.1.2.2.2.2.2.1, t.2.1), S_zbc_2, fun k r => .l (.exit 2 (mkSt ({ slots := [0, 1, 2, 3, 8], sh := (.cons (.arr 64) (.cons (.dat yi) (.cons (.dat yi) (.cons (.clo [y1, y1] yi) (.cons (.dat yi) .nil))))), obs := [(64, .perm 27 3 yi)] }) (((), (k.1, (k.2.1, (k.2.2.1, (k.2.2.2, ()))))), (r, ()))))⟩
noncomputable def S_zbc_0 (k : Int × (Int × ((HL [y1, y1] → Option (Int))))) (v : Int × ((List Nat) × Y2)) : Tr ((Int × ((List Nat) × Y2)) ⊕ ((List Nat) × Y2)) :=
 .t (decide (v.1 < k.2.1))
 (.c ((List Nat) × Y2) (L_zbc_2 (k.1, (k.2.1, (k.2.2, v.1))) (v.1, v.2)) fun r18_ =>
 .l (.inl ((IntKind.wrap .i64 (v.1 + (1 : Int))), r18_)))
 (.l (.inr v.2))
noncomputable def L_zbc_0 (k : Int × (Int × ((HL [y1, y1] → Option (Int))))) (v : Int × ((List Nat) × Y2)) : Option ((List Nat) × Y2) := iter (fun v => (S_zbc_0 k v).ev) v
noncomputable def DL_zbc_0 : LD := ⟨{ acts := [], S := { slots := [0, 1, 2, 3, 8], sh := (.cons (.arr 64) (.cons (.dat yi) (.cons (.dat yi) (.cons (.clo [y1, y1] yi) (.cons (.dat yi) .nil))))), obs := [(64, .perm 27 3 yi)] } }, [(0, { acts := [], S := { slots := [0], sh := (.cons (.arr 64) .nil), obs := [(64, .perm 27 3 yi)] } })], (yh [] .nil), Int × (Int × ((HL [y1, y1] → Option (Int)))), Int × ((List Nat) × Y2), (List Nat) × Y2, fun k v => (((), (k.1, (k.2.1, (k.2.2, (v.1, ()))))), (v.2, ())), fun t => (t.1.2.1, (t.1.2.2.1, t.1.2.2.2.1)), fun t => (t.1.2.2.2.2.1, t.2.1), S_zbc_0, fun _ r => .l (.exit 0 (mkSt ({ slots := [0], sh := (.cons (.arr 64) .nil), obs := [(64, .perm 27 3 yi)] }) (((), ()), (r, ()))))⟩
noncomputable def T_zbc (a2_ : Int) (a3_ : Int) (a4_ : (HL [y1, y1] → Option (Int))) (a1_ : (List Nat) × Y2) : Tr ((List Nat) × Y2) :=
 .c ((List Nat) × Y2) (L_zbc_0 (a2_, (a3_, a4_)) ((IntKind.wrap .i64 (a2_ + (1 : Int))), a1_)) fun r20_ =>
 .l r20_
noncomputable def F_zbc (a2_ : Int) (a3_ : Int) (a4_ : (HL [y1, y1] → Option (Int))) (a1_ : (List Nat) × Y2) : Option ((List Nat) × Y2) := (T_zbc a2_ a3_ a4_ a1_).ev
noncomputable def A_zbc : Sh := (.cons (.arr 64) (.cons (.dat yi) (.cons (.dat yi) (.cons (.clo [y1, y1] yi) .nil))))
noncomputable def I_zbc : List (Nat × OSh) := [(64, .perm 27 3 yi)]
noncomputable def K_zbc : RetK := { acts := [], res := [], sh := .nil, obs := [(64, .perm 27 3 yi)], pins := [(0, 0, 64)] }
noncomputable def D_zbc : FD := ⟨A_zbc, I_zbc, [.arg 0], (List Nat) × Y2, fun x => F_zbc x.1.2.1 x.1.2.2.1 x.1.2.2.2.1 x.2.1, fun r => ([], [(64, .perm false 27 3 yi r.1 r.2)])⟩
noncomputable def E_zbc : Env := envOf []
noncomputable def Z_zbc : Nat → Nat → List Nat := fun _ _ => []
noncomputable def O_zbc : List (Nat × LD) := [(2, DL_zbc_2), (0, DL_zbc_0)]
noncomputable def C_zbc : Code := (f181.body).getD .skip
noncomputable def S_zay_0 (k : Int × (Int × Int)) (v : Int × (((List Nat) × Y2) × Int)) : Tr ((Int × (((List Nat) × Y2) × Int)) ⊕ ((List Nat) × Y2)) :=
 .g (!decide ((4 : Int) = 0)) <|
 .t (decide (v.1 ≤ (IntKind.wrap .i64 ((IntKind.wrap .i64 (k.1 + (IntKind.wrap .i64 ((IntKind.wrap .i64 (Int.tdiv k.2.1 (4 : Int))) * (2 : Int))))) + (1 : Int)))))
 (.c (Int × Int) (F_zbp v.2.2) fun r8_ =>
 .t (decide (k.2.1 ≤ (IntKind.wrap .i64 (IntKind.wrap .u64 (BitVec.toNat ((BitVec.ofInt (IntKind.bits .u64) r8_.1) &&& (BitVec.ofInt (IntKind.bits .u64) (IntKind.wrap .u64 (k.2.2 - (1 : Int))))))))))
 (.g (inR (IntKind.wrap .i64 (k.1 + (IntKind.wrap .i64 ((IntKind.wrap .i64 (IntKind.wrap .u64 (BitVec.toNat ((BitVec.ofInt (IntKind.bits .u64) r8_.1) &&& (BitVec.ofInt (IntKind.bits .u64) (IntKind.wrap .u64 (k.2.2 - (1 : Int)))))))) - k.2.1)))) (List.length v.2.1.1)) <|
 .g (decide ((Int.toNat (IntKind.wrap .i64 (k.1 + (IntKind.wrap .i64 ((IntKind.wrap .i64 (IntKind.wrap .u64 (BitVec.toNat ((BitVec.ofInt (IntKind.bits .u64) r8_.1) &&& (BitVec.ofInt (IntKind.bits .u64) (IntKind.wrap .u64 (k.2.2 - (1 : Int)))))))) - k.2.1))))) < List.length v.2.1.1) && decide ((List.getD v.2.1.1 (Int.toNat (IntKind.wrap .i64 (k.1 + (IntKind.wrap .i64 ((IntKind.wrap .i64 (IntKind.wrap .u64 (BitVec.toNat ((BitVec.ofInt (IntKind.bits .u64) r8_.1) &&& (BitVec.ofInt (IntKind.bits .u64) (IntKind.wrap .u64 (k.2.2 - (1 : Int)))))))) - k.2.1))))) 0) < List.length v.2.1.2)) <|
 .g (inR v.1 (List.length v.2.1.1)) <|
 .g (decide ((Int.toNat v.1) < List.length v.2.1.1) && decide ((List.getD v.2.1.1 (Int.toNat v.1) 0) < List.length v.2.1.2)) <|
 .g (inR v.1 (List.length v.2.1.1)) <|
 .g (decide ((Int.toNat v.1) < List.length v.2.1.1)) <|
 .g (inR (IntKind.wrap .i64 (k.1 + (IntKind.wrap .i64 ((IntKind.wrap .i64 (IntKind.wrap .u64 (BitVec.toNat ((BitVec.ofInt (IntKind.bits .u64) r8_.1) &&& (BitVec.ofInt (IntKind.bits .u64) (IntKind.wrap .u64 (k.2.2 - (1 : Int)))))))) - k.2.1)))) (List.length (List.set v.2.1.1 (Int.toNat v.1) (List.getD v.2.1.1 (Int.toNat (IntKind.wrap .i64 (k.1 + (IntKind.wrap .i64 ((IntKind.wrap .i64 (IntKind.wrap .u64 (BitVec.toNat ((BitVec.ofInt (IntKind.bits .u64) r8_.1) &&& (BitVec.ofInt (IntKind.bits .u64) (IntKind.wrap .u64 (k.2.2 - (1 : Int)))))))) - k.2.1))))) 0)))) <|
 .g (decide ((Int.toNat (IntKind.wrap .i64 (k.1 + (IntKind.wrap .i64 ((IntKind.wrap .i64 (IntKind.wrap .u64 (BitVec.toNat ((BitVec.ofInt (IntKind.bits .u64) r8_.1) &&& (BitVec.ofInt (IntKind.bits .u64) (IntKind.wrap .u64 (k.2.2 - (1 : Int)))))))) - k.2.1))))) < List.length (List.set v.2.1.1 (Int.toNat v.1) (List.getD v.2.1.1 (Int.toNat (IntKind.wrap .i64 (k.1 + (IntKind.wrap .i64 ((IntKind.wrap .i64 (IntKind.wrap .u64 (BitVec.toNat ((BitVec.ofInt (IntKind.bits .u64) r8_.1) &&& (BitVec.ofInt (IntKind.bits .u64) (IntKind.wrap .u64 (k.2.2 - (1 : Int)))))))) - k.2.1))))) 0)))) <|
 .l (.inl ((IntKind.wrap .i64 (v.1 + (1 : Int))), (((List.set (List.set v.2.1.1 (Int.toNat v.1) (List.getD v.2.1.1 (Int.toNat (IntKind.wrap .i64 (k.1 + (IntKind.wrap .i64 ((IntKind.wrap .i64 (IntKind.wrap .u64 (BitVec.toNat ((BitVec.ofInt (IntKind.bits .u64) r8_.1) &&& (BitVec.ofInt (IntKind.bits .u64) (IntKind.wrap .u64 (k.2.2 - (1 : Int)))))))) - k.2.1))))) 0)) (Int.toNat (IntKind.wrap .i64 (k.1 + (IntKind.wrap .i64 ((IntKind.wrap .i64 (IntKind.wrap .u64 (BitVec.toNat ((BitVec.ofInt (IntKind.bits .u64) r8_.1) &&& (BitVec.ofInt (IntKind.bits .u64) (IntKind.wrap .u64 (k.2.2 - (1 : Int)))))))) - k.2.1))))) (List.getD v.2.1.1 (Int.toNat v.1) 0)), v.2.1.2), r8_.2))))
 (.g (inR (IntKind.wrap .i64 (k.1 + (IntKind.wrap .i64 (IntKind.wrap .u64 (BitVec.toNat ((BitVec.ofInt (IntKind.bits .u64) r8_.1) &&& (BitVec.ofInt (IntKind.bits .u64) (IntKind.wrap .u64 (k.2.2 - (1 : Int)))))))))) (List.length v.2.1.1)) <|
 .g (decide ((Int.toNat (IntKind.wrap .i64 (k.1 + (IntKind.wrap .i64 (IntKind.wrap .u64 (BitVec.toNat ((BitVec.ofInt (IntKind.bits .u64) r8_.1) &&& (BitVec.ofInt (IntKind.bits .u64) (IntKind.wrap .u64 (k.2.2 - (1 : Int))))))))))) < List.length v.2.1.1) && decide ((List.getD v.2.1.1 (Int.toNat (IntKind.wrap .i64 (k.1 + (IntKind.wrap .i64 (IntKind.wrap .u64 (BitVec.toNat ((BitVec.ofInt (IntKind.bits .u64) r8_.1) &&& (BitVec.ofInt (IntKind.bits .u64) (IntKind.wrap .u64 (k.2.2 - (1 : Int))))))))))) 0) < List.length v.2.1.2)) <|
 .g (inR v.1 (List.length v.2.1.1)) <|
 .g (decide ((Int.toNat v.1) < List.length v.2.1.1) && decide ((List.getD v.2.1.1 (Int.toNat v.1) 0) < List.length v.2.1.2)) <|
 .g (inR v.1 (List.length v.2.1.1)) <|
 .g (decide ((Int.toNat v.1) < List.length v.2.1.1)) <|
 .g (inR (IntKind.wrap .i64 (k.1 + (IntKind.wrap .i64 (IntKind.wrap .u64 (BitVec.toNat ((BitVec.ofInt (IntKind.bits .u64) r8_.1) &&& (BitVec.ofInt (IntKind.bits .u64) (IntKind.wrap .u64 (k.2.2 - (1 : Int)))))))))) (List.length (List.set v.2.1.1 (Int.toNat v.1) (List.getD v.2.1.1 (Int.toNat (IntKind.wrap .i64 (k.1 + (IntKind.wrap .i64 (IntKind.wrap .u64 (BitVec.toNat ((BitVec.ofInt (IntKind.bits .u64) r8_.1) &&& (BitVec.ofInt (IntKind.bits .u64) (IntKind.wrap .u64 (k.2.2 - (1 : Int))))))))))) 0)))) <|
 .g (decide ((Int.toNat (IntKind.wrap .i64 (k.1 + (IntKind.wrap .i64 (IntKind.wrap .u64 (BitVec.toNat ((BitVec.ofInt (IntKind.bits .u64) r8_.1) &&& (BitVec.ofInt (IntKind.bits .u64) (IntKind.wrap .u64 (k.2.2 - (1 : Int))))))))))) < List.length (List.set v.2.1.1 (Int.toNat v.1) (List.getD v.2.1.1 (Int.toNat (IntKind.wrap .i64 (k.1 + (IntKind.wrap .i64 (IntKind.wrap .u64 (BitVec.toNat ((BitVec.ofInt (IntKind.bits .u64) r8_.1) &&& (BitVec.ofInt (IntKind.bits .u64) (IntKind.wrap .u64 (k.2.2 - (1 : Int))))))))))) 0)))) <|
 .l (.inl ((IntKind.wrap .i64 (v.1 + (1 : Int))), (((List.set (List.set v.2.1.1 (Int.toNat v.1) (List.getD v.2.1.1 (Int.toNat (IntKind.wrap .i64 (k.1 + (IntKind.wrap .i64 (IntKind.wrap .u64 (BitVec.toNat ((BitVec.ofInt (IntKind.bits .u64) r8_.1) &&& (BitVec.ofInt (IntKind.bits .u64) (IntKind.wrap .u64 (k.2.2 - (1 : Int))))))))))) 0)) (Int.toNat (IntKind.wrap .i64 (k.1 + (IntKind.wrap .i64 (IntKind.wrap .u64 (BitVec.toNat ((BitVec.ofInt (IntKind.bits .u64) r8_.1) &&& (BitVec.ofInt (IntKind.bits .u64) (IntKind.wrap .u64 (k.2.2 - (1 : Int))))))))))) (List.getD v.2.1.1 (Int.toNat v.1) 0)), v.2.1.2), r8_.2)))))
 (.l (.inr v.2.1))
noncomputable def L_zay_0 (k : Int × (Int × Int)) (v : Int × (((List Nat) × Y2) × Int)) : Option ((List Nat) × Y2) := iter (fun v => (S_zay_0 k v).ev) v
noncomputable def DL_zay_0 : LD := ⟨{ acts := [], S := { slots := [0, 1, 8, 9, 10, 11], sh := (.cons (.arr 64) (.cons (.dat yi) (.cons (.dat yi) (.cons (.box 9 0) (.cons (.dat (.int .u64)) (.cons (.dat yi) .nil)))))), obs := [(64, .perm 27 3 yi), (9, .cells (.cons (.dat (.int .u64)) .nil))] } }, [(0, { acts := [], S := { slots := [0], sh := (.cons (.arr 64) .nil), obs := [(64, .perm 27 3 yi)] } })], (yh [] .nil), Int × (Int × Int), Int × (((List Nat) × Y2) × Int), (List Nat) × Y2, fun k v => (((), (k.1, (k.2.1, ((), (k.2.2, (v.1, ())))))), (v.2.1, ((v.2.2, ()), ()))), fun t => (t.1.2.1, (t.1.2.2.1, t.1.2.2.2.2.1)), fun t => (t.1.2.2.2.2.2.1, (t.2.1, t.2.2.1.1)), S_zay_0, fun _ r => .l (.exit 0 (mkSt ({ slots := [0], sh := (.cons (.arr 64) .nil), obs := [(64, .perm 27 3 yi)] }) (((), ()), (r, ()))))⟩
noncomputable def T_zay (a2_ : Int) (a3_ : Int) (_a4_ : (HL [y1, y1] → Option (Int))) (a1_ : (List Nat) × Y2) : Tr ((List Nat) × Y2) :=
 .t (decide ((8 : Int) ≤ (IntKind.wrap .i64 (a3_ - a2_))))
 (.c (Int) (F_zbi (IntKind.wrap .i64 (a3_ - a2_))) fun r1_ =>
 .g (!decide ((4 : Int) = 0)) <|
 .c ((List Nat) × Y2) (L_zay_0 (a2_, ((IntKind.wrap .i64 (a3_ - a2_)), r1_)) ((IntKind.wrap .i64 ((IntKind.wrap .i64 (a2_ + (IntKind.wrap .i64 ((IntKind.wrap .i64 (Int.tdiv (IntKind.wrap .i64 (a3_ - a2_)) (4 : Int))) * (2 : Int))))) - (1 : Int))), (a1_, (IntKind.wrap .u64 (IntKind.wrap .i64 (a3_ - a2_)))))) fun r10_ =>
 .l r10_)
 (.l a1_)
noncomputable def F_zay (a2_ : Int) (a3_ : Int) (a4_ : (HL [y1, y1] → Option (Int))) (a1_ : (List Nat) × Y2) : Option ((List Nat) × Y2) := (T_zay a2_ a3_ a4_ a1_).ev
noncomputable def A_zay : Sh := (.cons (.arr 64) (.cons (.dat yi) (.cons (.dat yi) (.cons (.clo [y1, y1] yi) .nil))))
noncomputable def I_zay : List (Nat × OSh) := [(64, .perm 27 3 yi)]
noncomputable def K_zay : RetK := { acts := [], res := [], sh := .nil, obs := [(64, .perm 27 3 yi)], pins := [(0, 0, 64)] }
noncomputable def D_zay : FD := ⟨A_zay, I_zay, [.arg 0], (List Nat) × Y2, fun x => F_zay x.1.2.1 x.1.2.2.1 x.1.2.2.2.1 x.2.1, fun r => ([], [(64, .perm false 27 3 yi r.1 r.2)])⟩
noncomputable def E_zay : Env := envOf [(190, D_zbi), (191, D_zbp)]
noncomputable def Z_zay : Nat → Nat → List Nat := fun _ _ => []
noncomputable def O_zay : List (Nat × LD) := [(0, DL_zay_0)]
noncomputable def C_zay : Code := (f183.body).getD .skip
noncomputable def T_zbj (a1_ : List Y1) (a2_ : Int) (a3_ : Int) (a5_ : (HL [y1, y1] → Option (Int))) (a4_ : Int) : Tr (Int × (Int × Int)) :=
 .g (inR a3_ (List.length a1_)) <|
 .g (inR a2_ (List.length a1_)) <|
 .c (Int) (a5_ ((List.getD a1_ (Int.toNat a3_) ([] : Y1)), ((List.getD a1_ (Int.toNat a2_) ([] : Y1)), ()))) fun r1_ =>
 .t (decide (r1_ < (0 : Int)))
 (.l (a3_, (a2_, (IntKind.wrap .i64 (a4_ + (1 : Int))))))
 (.l (a2_, (a3_, a4_)))
noncomputable def F_zbj (a1_ : List Y1) (a2_ : Int) (a3_ : Int) (a5_ : (HL [y1, y1] → Option (Int))) (a4_ : Int) : Option (Int × (Int × Int)) := (T_zbj a1_ a2_ a3_ a5_ a4_).ev
noncomputable def A_zbj : Sh := (.cons (.dat y2) (.cons (.dat yi) (.cons (.dat yi) (.cons (.box 64 0) (.cons (.clo [y1, y1] yi) .nil)))))
noncomputable def I_zbj : List (Nat × OSh) := [(64, .cells (.cons (.dat yi) .nil))]
noncomputable def K_zbj : RetK := { acts := [], res := [.tmp 10, .tmp 11], sh := (.cons (.dat yi) (.cons (.dat yi) .nil)), obs := [(64, .cells (.cons (.dat yi) .nil))], pins := [(3, 0, 64)] }
noncomputable def D_zbj : FD := ⟨A_zbj, I_zbj, [.arg 3], Int × (Int × Int), fun x => F_zbj x.1.1 x.1.2.1 x.1.2.2.1 x.1.2.2.2.2.1 x.2.1.1, fun r => ([.dat yi r.1, .dat yi r.2.1], [(64, .cells [.dat yi r.2.2])])⟩
noncomputable def E_zbj : Env := envOf []
noncomputable def Z_zbj : Nat → Nat → List Nat := fun _ _ => []
noncomputable def O_zbj : List (Nat × LD) := []
noncomputable def C_zbj : Code := (f200.body).getD .skip
noncomputable def T_zbg (a1_ : List Y1) (a2_ : Int) (a3_ : Int) (a4_ : Int) (a6_ : (HL [y1, y1] → Option (Int))) (a5_ : Int) : Tr (Int × Int) :=
 .c (Int × (Int × Int)) (F_zbj a1_ a2_ a3_ a6_ a5_) fun r1_ =>
 .c (Int × (Int × Int)) (F_zbj a1_ r1_.2.1 a4_ a6_ r1_.2.2) fun r2_ =>
 .c (Int × (Int × Int)) (F_zbj a1_ r1_.1 r2_.1 a6_ r2_.2.2) fun r3_ =>
 .l (r3_.2.1, r3_.2.2)
noncomputable def F_zbg (a1_ : List Y1) (a2_ : Int) (a3_ : Int) (a4_ : Int) (a6_ : (HL [y1, y1] → Option (Int))) (a5_ : Int) : Option (Int × Int) := (T_zbg a1_ a2_ a3_ a4_ a6_ a5_).ev
noncomputable def A_zbg : Sh := (.cons (.dat y2) (.cons (.dat yi) (.cons (.dat yi) (.cons (.dat yi) (.cons (.box 64 0) (.cons (.clo [y1, y1] yi) .nil))))))
noncomputable def I_zbg : List (Nat × OSh) := [(64, .cells (.cons (.dat yi) .nil))]
noncomputable def K_zbg : RetK := { acts := [], res := [.tmp 12], sh := (.cons (.dat yi) .nil), obs := [(64, .cells (.cons (.dat yi) .nil))], pins := [(4, 0, 64)] }
noncomputable def D_zbg : FD := ⟨A_zbg, I_zbg, [.arg 4], Int × (Int), fun x => F_zbg x.1.1 x.1.2.1 x.1.2.2.1 x.1.2.2.2.1 x.1.2.2.2.2.2.1 x.2.1.1, fun r => ([.dat yi r.1], [(64, .cells [.dat yi r.2])])⟩
noncomputable def E_zbg : Env := envOf [(200, D_zbj)]
noncomputable def Z_zbg : Nat → Nat → List Nat := fun _ _ => []
noncomputable def O_zbg : List (Nat × LD) := []
noncomputable def C_zbg : Code := (f197.body).getD .skip
noncomputable def T_zbe (a1_ : List Y1) (a2_ : Int) (a4_ : (HL [y1, y1] → Option (Int))) (a3_ : Int) : Tr (Int × Int) :=
 .c (Int × Int) (F_zbg a1_ (IntKind.wrap .i64 (a2_ - (1 : Int))) a2_ (IntKind.wrap .i64 (a2_ + (1 : Int))) a4_ a3_) fun r1_ =>
 .l (r1_.1, r1_.2)
noncomputable def F_zbe (a1_ : List Y1) (a2_ : Int) (a4_ : (HL [y1, y1] → Option (Int))) (a3_ : Int) : Option (Int × Int) := (T_zbe a1_ a2_ a4_ a3_).ev
noncomputable def A_zbe : Sh := (.cons (.dat y2) (.cons (.dat yi) (.cons (.box 64 0) (.cons (.clo [y1, y1] yi) .nil))))
noncomputable def I_zbe : List (Nat × OSh) := [(64, .cells (.cons (.dat yi) .nil))]
noncomputable def K_zbe : RetK := { acts := [], res := [.tmp 8], sh := (.cons (.dat yi) .nil), obs := [(64, .cells (.cons (.dat yi) .nil))], pins := [(2, 0, 64)] }
noncomputable def D_zbe : FD := ⟨A_zbe, I_zbe, [.arg 2], Int × (Int), fun x => F_zbe x.1.1 x.1.2.1 x.1.2.2.2.1 x.2.1.1, fun r => ([.dat yi r.1], [(64, .cells [.dat yi r.2])])⟩
noncomputable def E_zbe : Env := envOf [(197, D_zbg)]
noncomputable def Z_zbe : Nat → Nat → List Nat := fun _ _ => []
noncomputable def O_zbe : List (Nat × LD) := []
noncomputable def C_zbe : Code := (f196.body).getD .skip
noncomputable def T_zba (a1_ : List Y1) (a2_ : Int) (a3_ : Int) (a4_ : (HL [y1, y1] → Option (Int))) : Tr (Int × Int) :=
 .g (!decide ((4 : Int) = 0)) <|
 .g (!decide ((4 : Int) = 0)) <|
 .g (!decide ((4 : Int) = 0)) <|
 .t (decide ((8 : Int) ≤ (IntKind.wrap .i64 (a3_ - a2_))))
 (.t (decide ((50 : Int) ≤ (IntKind.wrap .i64 (a3_ - a2_))))
 (.c (Int × Int) (F_zbe a1_ (IntKind.wrap .i64 (a2_ + (IntKind.wrap .i64 ((IntKind.wrap .i64 (Int.tdiv (IntKind.wrap .i64 (a3_ - a2_)) (4 : Int))) * (1 : Int))))) a4_ (0 : Int)) fun r1_ =>
 .c (Int × Int) (F_zbe a1_ (IntKind.wrap .i64 (a2_ + (IntKind.wrap .i64 ((IntKind.wrap .i64 (Int.tdiv (IntKind.wrap .i64 (a3_ - a2_)) (4 : Int))) * (2 : Int))))) a4_ r1_.2) fun r2_ =>
 .c (Int × Int) (F_zbe a1_ (IntKind.wrap .i64 (a2_ + (IntKind.wrap .i64 ((IntKind.wrap .i64 (Int.tdiv (IntKind.wrap .i64 (a3_ - a2_)) (4 : Int))) * (3 : Int))))) a4_ r2_.2) fun r3_ =>
 .c (Int × Int) (F_zbg a1_ r1_.1 r2_.1 r3_.1 a4_ r3_.2) fun r4_ =>
 .t (r4_.2 == (0 : Int))
 (.l (r4_.1, (1 : Int)))
 (.t (r4_.2 == (12 : Int))
 (.l (r4_.1, (2 : Int)))
 (.l (r4_.1, (0 : Int)))))
 (.c (Int × Int) (F_zbg a1_ (IntKind.wrap .i64 (a2_ + (IntKind.wrap .i64 ((IntKind.wrap .i64 (Int.tdiv (IntKind.wrap .i64 (a3_ - a2_)) (4 : Int))) * (1 : Int))))) (IntKind.wrap .i64 (a2_ + (IntKind.wrap .i64 ((IntKind.wrap .i64 (Int.tdiv (IntKind.wrap .i64 (a3_ - a2_)) (4 : Int))) * (2 : Int))))) (IntKind.wrap .i64 (a2_ + (IntKind.wrap .i64 ((IntKind.wrap .i64 (Int.tdiv (IntKind.wrap .i64 (a3_ - a2_)) (4 : Int))) * (3 : Int))))) a4_ (0 : Int)) fun r5_ =>
 .t (r5_.2 == (0 : Int))
 (.l (r5_.1, (1 : Int)))
 (.t (r5_.2 == (12 : Int))
 (.l (r5_.1, (2 : Int)))
 (.l (r5_.1, (0 : Int))))))
 (.t ((0 : Int) == (0 : Int))
 (.l ((IntKind.wrap .i64 (a2_ + (IntKind.wrap .i64 ((IntKind.wrap .i64 (Int.tdiv (IntKind.wrap .i64 (a3_ - a2_)) (4 : Int))) * (2 : Int))))), (1 : Int)))
 (.t ((0 : Int) == (12 : Int))
 (.l ((IntKind.wrap .i64 (a2_ + (IntKind.wrap .i64 ((IntKind.wrap .i64 (Int.tdiv (IntKind.wrap .i64 (a3_ - a2_)) (4 : Int))) * (2 : Int))))), (2 : Int)))
 (.l ((IntKind.wrap .i64 (a2_ + (IntKind.wrap .i64 ((IntKind.wrap .i64 (Int.tdiv (IntKind.wrap .i64 (a3_ - a2_)) (4 : Int))) * (2 : Int))))), (0 : Int)))))
noncomputable def F_zba (a1_ : List Y1) (a2_ : Int) (a3_ : Int) (a4_ : (HL [y1, y1] → Option (Int))) : Option (Int × Int) := (T_zba a1_ a2_ a3_ a4_).ev
noncomputable def A_zba : Sh := (.cons (.dat y2) (.cons (.dat yi) (.cons (.dat yi) (.cons (.clo [y1, y1] yi) .nil))))
noncomputable def I_zba : List (Nat × OSh) := []
noncomputable def K_zba : RetK := { acts := [], res := [.tmp 8, .tmp 9], sh := (.cons (.dat yi) (.cons (.dat yi) .nil)), obs := [], pins := [] }
noncomputable def D_zba : FD := ⟨A_zba, I_zba, [], Int × (Int), fun x => F_zba x.1.1 x.1.2.1 x.1.2.2.1 x.1.2.2.2.1, fun r => ([.dat yi r.1, .dat yi r.2], [])⟩
noncomputable def E_zba : Env := envOf [(196, D_zbe), (197, D_zbg)]
noncomputable def Z_zba : Nat → Nat → List Nat := fun _ _ => []
noncomputable def O_zba : List (Nat × LD) := []
noncomputable def C_zba : Code := (f184.body).getD .skip
noncomputable def S_zbl_0 (k : Int × (((HL [y1, y1] → Option (Int))) × (Int × ((List Nat) × Y2)))) (v : Int) : Tr ((Int) ⊕ (Int)) :=
 .t (decide (v ≤ k.2.2.1))
 (.g (inR v (List.length k.2.2.2.1)) <|
 .g (decide ((Int.toNat v) < List.length k.2.2.2.1) && decide ((List.getD k.2.2.2.1 (Int.toNat v) 0) < List.length k.2.2.2.2)) <|
 .g (inR k.1 (List.length k.2.2.2.1)) <|
 .g (decide ((Int.toNat k.1) < List.length k.2.2.2.1) && decide ((List.getD k.2.2.2.1 (Int.toNat k.1) 0) < List.length k.2.2.2.2)) <|
 .c (Int) (k.2.1 ((List.getD k.2.2.2.2 (List.getD k.2.2.2.1 (Int.toNat v) 0) ([] : Y1)), ((List.getD k.2.2.2.2 (List.getD k.2.2.2.1 (Int.toNat k.1) 0) ([] : Y1)), ()))) fun r6_ =>
 .t (decide (r6_ < (0 : Int)))
 (.l (.inl (IntKind.wrap .i64 (v + (1 : Int)))))
 (.l (.inr v)))
 (.l (.inr v))
noncomputable def L_zbl_0 (k : Int × (((HL [y1, y1] → Option (Int))) × (Int × ((List Nat) × Y2)))) (v : Int) : Option (Int) := iter (fun v => (S_zbl_0 k v).ev) v
noncomputable def DL_zbl_0 : LD := ⟨{ acts := [], S := { slots := [0, 1, 4, 12, 13], sh := (.cons (.arr 64) (.cons (.dat yi) (.cons (.clo [y1, y1] yi) (.cons (.dat yi) (.cons (.dat yi) .nil))))), obs := [(64, .perm 27 3 yi)] } }, [(0, { acts := [], S := { slots := [0, 1, 4, 12, 13], sh := (.cons (.arr 64) (.cons (.dat yi) (.cons (.clo [y1, y1] yi) (.cons (.dat yi) (.cons (.dat yi) .nil))))), obs := [(64, .perm 27 3 yi)] } })], (yh [] .nil), Int × (((HL [y1, y1] → Option (Int))) × (Int × ((List Nat) × Y2))), Int, Int, fun k v => (((), (k.1, (k.2.1, (v, (k.2.2.1, ()))))), (k.2.2.2, ())), fun t => (t.1.2.1, (t.1.2.2.1, (t.1.2.2.2.2.1, t.2.1))), fun t => t.1.2.2.2.1, S_zbl_0, fun k r => .l (.exit 0 (mkSt ({ slots := [0, 1, 4, 12, 13], sh := (.cons (.arr 64) (.cons (.dat yi) (.cons (.clo [y1, y1] yi) (.cons (.dat yi) (.cons (.dat yi) .nil))))), obs := [(64, .perm 27 3 yi)] }) (((), (k.1, (k.2.1, (r, (k.2.2.1, ()))))), (k.2.2.2, ()))))⟩
noncomputable def S_zbl_2 (k : Int × (((HL [y1, y1] → Option (Int))) × (Int × ((List Nat) × Y2)))) (v : Int) : Tr ((Int) ⊕ (Int)) :=
 .t (decide (k.2.2.1 ≤ v))
 (.g (inR v (List.length k.2.2.2.1)) <|
 .g (decide ((Int.toNat v) < List.length k.2.2.2.1) && decide ((List.getD k.2.2.2.1 (Int.toNat v) 0) < List.length k.2.2.2.2)) <|
 .g (inR k.1 (List.length k.2.2.2.1)) <|
 .g (decide ((Int.toNat k.1) < List.length k.2.2.2.1) && decide ((List.getD k.2.2.2.1 (Int.toNat k.1) 0) < List.length k.2.2.2.2)) <|
 .c (Int) (k.2.1 ((List.getD k.2.2.2.2 (List.getD k.2.2.2.1 (Int.toNat v) 0) ([] : Y1)), ((List.getD k.2.2.2.2 (List.getD k.2.2.2.1 (Int.toNat k.1) 0) ([] : Y1)), ()))) fun r18_ =>
 .t (!(decide (r18_ < (0 : Int))))
 (.l (.inl (IntKind.wrap .i64 (v - (1 : Int)))))
 (.l (.inr v)))
 (.l (.inr v))
noncomputable def L_zbl_2 (k : Int × (((HL [y1, y1] → Option (Int))) × (Int × ((List Nat) × Y2)))) (v : Int) : Option (Int) := iter (fun v => (S_zbl_2 k v).ev) v
noncomputable def DL_zbl_2 : LD := ⟨{ acts := [], S := { slots := [0, 1, 4, 12, 13], sh := (.cons (.arr 64) (.cons (.dat yi) (.cons (.clo [y1, y1] yi) (.cons (.dat yi) (.cons (.dat yi) .nil))))), obs := [(64, .perm 27 3 yi)] } }, [(2, { acts := [], S := { slots := [0, 1, 4, 12, 13], sh := (.cons (.arr 64) (.cons (.dat yi) (.cons (.clo [y1, y1] yi) (.cons (.dat yi) (.cons (.dat yi) .nil))))), obs := [(64, .perm 27 3 yi)] } })], (yh [] .nil), Int × (((HL [y1, y1] → Option (Int))) × (Int × ((List Nat) × Y2))), Int, Int, fun k v => (((), (k.1, (k.2.1, (k.2.2.1, (v, ()))))), (k.2.2.2, ())), fun t => (t.1.2.1, (t.1.2.2.1, (t.1.2.2.2.1, t.2.1))), fun t => t.1.2.2.2.2.1, S_zbl_2, fun k r => .l (.exit 2 (mkSt ({ slots := [0, 1, 4, 12, 13], sh := (.cons (.arr 64) (.cons (.dat yi) (.cons (.clo [y1, y1] yi) (.cons (.dat yi) (.cons (.dat yi) .nil))))), obs := [(64, .perm 27 3 yi)] }) (((), (k.1, (k.2.1, (k.2.2.1, (r, ()))))), (k.2.2.2, ()))))⟩
noncomputable def S_zbl_6 (k : Int × (((HL [y1, y1] → Option (Int))) × (Int × ((List Nat) × Y2)))) (v : Int) : Tr ((Int) ⊕ (Int)) :=
 .t (decide (v ≤ k.2.2.1))
 (.g (inR v (List.length k.2.2.2.1)) <|
 .g (decide ((Int.toNat v) < List.length k.2.2.2.1) && decide ((List.getD k.2.2.2.1 (Int.toNat v) 0) < List.length k.2.2.2.2)) <|
 .g (inR k.1 (List.length k.2.2.2.1)) <|
 .g (decide ((Int.toNat k.1) < List.length k.2.2.2.1) && decide ((List.getD k.2.2.2.1 (Int.toNat k.1) 0) < List.length k.2.2.2.2)) <|
 .c (Int) (k.2.1 ((List.getD k.2.2.2.2 (List.getD k.2.2.2.1 (Int.toNat v) 0) ([] : Y1)), ((List.getD k.2.2.2.2 (List.getD k.2.2.2.1 (Int.toNat k.1) 0) ([] : Y1)), ()))) fun r35_ =>
 .t (decide (r35_ < (0 : Int)))
 (.l (.inl (IntKind.wrap .i64 (v + (1 : Int)))))
 (.l (.inr v)))
 (.l (.inr v))
noncomputable def L_zbl_6 (k : Int × (((HL [y1, y1] → Option (Int))) × (Int × ((List Nat) × Y2)))) (v : Int) : Option (Int) := iter (fun v => (S_zbl_6 k v).ev) v
noncomputable def DL_zbl_6 : LD := ⟨{ acts := [], S := { slots := [0, 1, 4, 12, 13], sh := (.cons (.arr 64) (.cons (.dat yi) (.cons (.clo [y1, y1] yi) (.cons (.dat yi) (.cons (.dat yi) .nil))))), obs := [(64, .perm 27 3 yi)] } }, [(6, { acts := [], S := { slots := [0, 1, 4, 12, 13], sh := (.cons (.arr 64) (.cons (.dat yi) (.cons (.clo [y1, y1] yi) (.cons (.dat yi) (.cons (.dat yi) .nil))))), obs := [(64, .perm 27 3 yi)] } })], (yh [] .nil), Int × (((HL [y1, y1] → Option (Int))) × (Int × ((List Nat) × Y2))), Int, Int, fun k v => (((), (k.1, (k.2.1, (v, (k.2.2.1, ()))))), (k.2.2.2, ())), fun t => (t.1.2.1, (t.1.2.2.1, (t.1.2.2.2.2.1, t.2.1))), fun t => t.1.2.2.2.1, S_zbl_6, fun k r => .l (.exit 6 (mkSt ({ slots := [0, 1, 4, 12, 13], sh := (.cons (.arr 64) (.cons (.dat yi) (.cons (.clo [y1, y1] yi) (.cons (.dat yi) (.cons (.dat yi) .nil))))), obs := [(64, .perm 27 3 yi)] }) (((), (k.1, (k.2.1, (r, (k.2.2.1, ()))))), (k.2.2.2, ()))))⟩
noncomputable def S_zbl_8 (k : Int × (((HL [y1, y1] → Option (Int))) × (Int × ((List Nat) × Y2)))) (v : Int) : Tr ((Int) ⊕ (Int)) :=
 .t (decide (k.2.2.1 ≤ v))
 (.g (inR v (List.length k.2.2.2.1)) <|
 .g (decide ((Int.toNat v) < List.length k.2.2.2.1) && decide ((List.getD k.2.2.2.1 (Int.toNat v) 0) < List.length k.2.2.2.2)) <|
 .g (inR k.1 (List.length k.2.2.2.1)) <|
 .g (decide ((Int.toNat k.1) < List.length k.2.2.2.1) && decide ((List.getD k.2.2.2.1 (Int.toNat k.1) 0) < List.length k.2.2.2.2)) <|
 .c (Int) (k.2.1 ((List.getD k.2.2.2.2 (List.getD k.2.2.2.1 (Int.toNat v) 0) ([] : Y1)), ((List.getD k.2.2.2.2 (List.getD k.2.2.2.1 (Int.toNat k.1) 0) ([] : Y1)), ()))) fun r47_ =>
 .t (!(decide (r47_ < (0 : Int))))
 (.l (.inl (IntKind.wrap .i64 (v - (1 : Int)))))
 (.l (.inr v)))
 (.l (.inr v))
noncomputable def L_zbl_8 (k : Int × (((HL [y1, y1] → Option (Int))) × (Int × ((List Nat) × Y2)))) (v : Int) : Option (Int) := iter (fun v => (S_zbl_8 k v).ev) v
noncomputable def DL_zbl_8 : LD := ⟨{ acts := [], S := { slots := [0, 1, 4, 12, 13], sh := (.cons (.arr 64) (.cons (.dat yi) (.cons (.clo [y1, y1] yi) (.cons (.dat yi) (.cons (.dat yi) .nil))))), obs := [(64, .perm 27 3 yi)] } }, [(8, { acts := [], S := { slots := [0, 1, 4, 12, 13], sh := (.cons (.arr 64) (.cons (.dat yi) (.cons (.clo [y1, y1] yi) (.cons (.dat yi) (.cons (.dat yi) .nil))))), obs := [(64, .perm 27 3 yi)] } })], (yh [] .nil), Int × (((HL [y1, y1] → Option (Int))) × (Int × ((List Nat) × Y2))), Int, Int, fun k v => (((), (k.1, (k.2.1, (k.2.2.1, (v, ()))))), (k.2.2.2, ())), fun t => (t.1.2.1, (t.1.2.2.1, (t.1.2.2.2.1, t.2.1))), fun t => t.1.2.2.2.2.1, S_zbl_8, fun k r => .l (.exit 8 (mkSt ({ slots := [0, 1, 4, 12, 13], sh := (.cons (.arr 64) (.cons (.dat yi) (.cons (.clo [y1, y1] yi) (.cons (.dat yi) (.cons (.dat yi) .nil))))), obs := [(64, .perm 27 3 yi)] }) (((), (k.1, (k.2.1, (k.2.2.1, (r, ()))))), (k.2.2.2, ()))))⟩
noncomputable def S_zbl_4 (k : Int × ((HL [y1, y1] → Option (Int)))) (v : Int × (Int × ((List Nat) × Y2))) : Tr ((Int × (Int × ((List Nat) × Y2))) ⊕ (Int × ((List Nat) × Y2))) :=
 .c (Int) (L_zbl_6 (k.1, (k.2, (v.2.1, v.2.2))) v.1) fun r41_ =>
 .c (Int) (L_zbl_8 (k.1, (k.2, (r41_, v.2.2))) v.2.1) fun r53_ =>
 .t (decide (r53_ < r41_))
 (.l (.inr (r53_, v.2.2)))
 (.g (inR r53_ (List.length v.2.2.1)) <|
 .g (decide ((Int.toNat r53_) < List.length v.2.2.1) && decide ((List.getD v.2.2.1 (Int.toNat r53_) 0) < List.length v.2.2.2)) <|
 .g (inR r41_ (List.length v.2.2.1)) <|
 .g (decide ((Int.toNat r41_) < List.length v.2.2.1) && decide ((List.getD v.2.2.1 (Int.toNat r41_) 0) < List.length v.2.2.2)) <|
 .g (inR r41_ (List.length v.2.2.1)) <|
 .g (decide ((Int.toNat r41_) < List.length v.2.2.1)) <|
 .g (inR r53_ (List.length (List.set v.2.2.1 (Int.toNat r41_) (List.getD v.2.2.1 (Int.toNat r53_) 0)))) <|
 .g (decide ((Int.toNat r53_) < List.length (List.set v.2.2.1 (Int.toNat r41_) (List.getD v.2.2.1 (Int.toNat r53_) 0)))) <|
 .l (.inl ((IntKind.wrap .i64 (r41_ + (1 : Int))), ((IntKind.wrap .i64 (r53_ - (1 : Int))), ((List.set (List.set v.2.2.1 (Int.toNat r41_) (List.getD v.2.2.1 (Int.toNat r53_) 0)) (Int.toNat r53_) (List.getD v.2.2.1 (Int.toNat r41_) 0)), v.2.2.2)))))
noncomputable def L_zbl_4 (k : Int × ((HL [y1, y1] → Option (Int)))) (v : Int × (Int × ((List Nat) × Y2))) : Option (Int × ((List Nat) × Y2)) := iter (fun v => (S_zbl_4 k v).ev) v
noncomputable def DL_zbl_4 : LD := ⟨{ acts := [], S := { slots := [0, 1, 4, 12, 13], sh := (.cons (.arr 64) (.cons (.dat yi) (.cons (.clo [y1, y1] yi) (.cons (.dat yi) (.cons (.dat yi) .nil))))), obs := [(64, .perm 27 3 yi)] } }, [(4, { acts := [], S := { slots := [0, 1, 13], sh := (.cons (.arr 64) (.cons (.dat yi) (.cons (.dat yi) .nil))), obs := [(64, .perm 27 3 yi)] } })], (yh [] .nil), Int × ((HL [y1, y1] → Option (Int))), Int × (Int × ((List Nat) × Y2)), Int × ((List Nat) × Y2), fun k v => (((), (k.1, (k.2, (v.1, (v.2.1, ()))))), (v.2.2, ())), fun t => (t.1.2.1, t.1.2.2.1), fun t => (t.1.2.2.2.1, (t.1.2.2.2.2.1, t.2.1)), S_zbl_4, fun k r => .l (.exit 4 (mkSt ({ slots := [0, 1, 13], sh := (.cons (.arr 64) (.cons (.dat yi) (.cons (.dat yi) .nil))), obs := [(64, .perm 27 3 yi)] }) (((), (k.1, (r.1, ()))), (r.2, ()))))⟩
noncomputable def T_zbl (a2_ : Int) (a3_ : Int) (a4_ : Int) (a5_ : (HL [y1, y1] → Option (Int))) (a1_ : (List Nat) × Y2) : Tr (Int × (Bool × ((List Nat) × Y2))) :=
 .g (inR a4_ (List.length a1_.1)) <|
 .g (decide ((Int.toNat a4_) < List.length a1_.1) && decide ((List.getD a1_.1 (Int.toNat a4_) 0) < List.length a1_.2)) <|
 .g (inR a2_ (List.length a1_.1)) <|
 .g (decide ((Int.toNat a2_) < List.length a1_.1) && decide ((List.getD a1_.1 (Int.toNat a2_) 0) < List.length a1_.2)) <|
 .g (inR a2_ (List.length a1_.1)) <|
 .g (decide ((Int.toNat a2_) < List.length a1_.1)) <|
 .g (inR a4_ (List.length (List.set a1_.1 (Int.toNat a2_) (List.getD a1_.1 (Int.toNat a4_) 0)))) <|
 .g (decide ((Int.toNat a4_) < List.length (List.set a1_.1 (Int.toNat a2_) (List.getD a1_.1 (Int.toNat a4_) 0)))) <|
 .c (Int) (L_zbl_0 (a2_, (a5_, ((IntKind.wrap .i64 (a3_ - (1 : Int))), ((List.set (List.set a1_.1 (Int.toNat a2_) (List.getD a1_.1 (Int.toNat a4_) 0)) (Int.toNat a4_) (List.getD a1_.1 (Int.toNat a2_) 0)), a1_.2)))) (IntKind.wrap .i64 (a2_ + (1 : Int)))) fun r12_ =>
 .c (Int) (L_zbl_2 (a2_, (a5_, (r12_, ((List.set (List.set a1_.1 (Int.toNat a2_) (List.getD a1_.1 (Int.toNat a4_) 0)) (Int.toNat a4_) (List.getD a1_.1 (Int.toNat a2_) 0)), a1_.2)))) (IntKind.wrap .i64 (a3_ - (1 : Int)))) fun r24_ =>
 .t (decide (r24_ < r12_))
 (.g (inR a2_ (List.length (List.set (List.set a1_.1 (Int.toNat a2_) (List.getD a1_.1 (Int.toNat a4_) 0)) (Int.toNat a4_) (List.getD a1_.1 (Int.toNat a2_) 0)))) <|
 .g (decide ((Int.toNat a2_) < List.length (List.set (List.set a1_.1 (Int.toNat a2_) (List.getD a1_.1 (Int.toNat a4_) 0)) (Int.toNat a4_) (List.getD a1_.1 (Int.toNat a2_) 0))) && decide ((List.getD (List.set (List.set a1_.1 (Int.toNat a2_) (List.getD a1_.1 (Int.toNat a4_) 0)) (Int.toNat a4_) (List.getD a1_.1 (Int.toNat a2_) 0)) (Int.toNat a2_) 0) < List.length a1_.2)) <|
 .g (inR r24_ (List.length (List.set (List.set a1_.1 (Int.toNat a2_) (List.getD a1_.1 (Int.toNat a4_) 0)) (Int.toNat a4_) (List.getD a1_.1 (Int.toNat a2_) 0)))) <|
 .g (decide ((Int.toNat r24_) < List.length (List.set (List.set a1_.1 (Int.toNat a2_) (List.getD a1_.1 (Int.toNat a4_) 0)) (Int.toNat a4_) (List.getD a1_.1 (Int.toNat a2_) 0))) && decide ((List.getD (List.set (List.set a1_.1 (Int.toNat a2_) (List.getD a1_.1 (Int.toNat a4_) 0)) (Int.toNat a4_) (List.getD a1_.1 (Int.toNat a2_) 0)) (Int.toNat r24_) 0) < List.length a1_.2)) <|
 .g (inR r24_ (List.length (List.set (List.set a1_.1 (Int.toNat a2_) (List.getD a1_.1 (Int.toNat a4_) 0)) (Int.toNat a4_) (List.getD a1_.1 (Int.toNat a2_) 0)))) <|
 .g (decide ((Int.toNat r24_) < List.length (List.set (List.set a1_.1 (Int.toNat a2_) (List.getD a1_.1 (Int.toNat a4_) 0)) (Int.toNat a4_) (List.getD a1_.1 (Int.toNat a2_) 0)))) <|
 .g (inR a2_ (List.length (List.set (List.set (List.set a1_.1 (Int.toNat a2_) (List.getD a1_.1 (Int.toNat a4_) 0)) (Int.toNat a4_) (List.getD a1_.1 (Int.toNat a2_) 0)) (Int.toNat r24_) (List.getD (List.set (List.set a1_.1 (Int.toNat a2_) (List.getD a1_.1 (Int.toNat a4_) 0)) (Int.toNat a4_) (List.getD a1_.1 (Int.toNat a2_) 0)) (Int.toNat a2_) 0)))) <|
 .g (decide ((Int.toNat a2_) < List.length (List.set (List.set (List.set a1_.1 (Int.toNat a2_) (List.getD a1_.1 (Int.toNat a4_) 0)) (Int.toNat a4_) (List.getD a1_.1 (Int.toNat a2_) 0)) (Int.toNat r24_) (List.getD (List.set (List.set a1_.1 (Int.toNat a2_) (List.getD a1_.1 (Int.toNat a4_) 0)) (Int.toNat a4_) (List.getD a1_.1 (Int.toNat a2_) 0)) (Int.toNat a2_) 0)))) <|
 .l (r24_, (true, ((List.set (List.set (List.set (List.set a1_.1 (Int.toNat a2_) (List.getD a1_.1 (Int.toNat a4_) 0)) (Int.toNat a4_) (List.getD a1_.1 (Int.toNat a2_) 0)) (Int.toNat r24_) (List.getD (List.set (List.set a1_.1 (Int.toNat a2_) (List.getD a1_.1 (Int.toNat a4_) 0)) (Int.toNat a4_) (List.getD a1_.1 (Int.toNat a2_) 0)) (Int.toNat a2_) 0)) (Int.toNat a2_) (List.getD (List.set (List.set a1_.1 (Int.toNat a2_) (List.getD a1_.1 (Int.toNat a4_) 0)) (Int.toNat a4_) (List.getD a1_.1 (Int.toNat a2_) 0)) (Int.toNat r24_) 0)), a1_.2))))
 (.g (inR r24_ (List.length (List.set (List.set a1_.1 (Int.toNat a2_) (List.getD a1_.1 (Int.toNat a4_) 0)) (Int.toNat a4_) (List.getD a1_.1 (Int.toNat a2_) 0)))) <|
 .g (decide ((Int.toNat r24_) < List.length (List.set (List.set a1_.1 (Int.toNat a2_) (List.getD a1_.1 (Int.toNat a4_) 0)) (Int.toNat a4_) (List.getD a1_.1 (Int.toNat a2_) 0))) && decide ((List.getD (List.set (List.set a1_.1 (Int.toNat a2_) (List.getD a1_.1 (Int.toNat a4_) 0)) (Int.toNat a4_) (List.getD a1_.1 (Int.toNat a2_) 0)) (Int.toNat r24_) 0) < List.length a1_.2)) <|
 .g (inR r12_ (List.length (List.set (List.set a1_.1 (Int.toNat a2_) (List.getD a1_.1 (Int.toNat a4_) 0)) (Int.toNat a4_) (List.getD a1_.1 (Int.toNat a2_) 0)))) <|
 .g (decide ((Int.toNat r12_) < List.length (List.set (List.set a1_.1 (Int.toNat a2_) (List.getD a1_.1 (Int.toNat a4_) 0)) (Int.toNat a4_) (List.getD a1_.1 (Int.toNat a2_) 0))) && decide ((List.getD (List.set (List.set a1_.1 (Int.toNat a2_) (List.getD a1_.1 (Int.toNat a4_) 0)) (Int.toNat a4_) (List.getD a1_.1 (Int.toNat a2_) 0)) (Int.toNat r12_) 0) < List.length a1_.2)) <|
 .g (inR r12_ (List.length (List.set (List.set a1_.1 (Int.toNat a2_) (List.getD a1_.1 (Int.toNat a4_) 0)) (Int.toNat a4_) (List.getD a1_.1 (Int.toNat a2_) 0)))) <|
 .g (decide ((Int.toNat r12_) < List.length (List.set (List.set a1_.1 (Int.toNat a2_) (List.getD a1_.1 (Int.toNat a4_) 0)) (Int.toNat a4_) (List.getD a1_.1 (Int.toNat a2_) 0)))) <|
 .g (inR r24_ (List.length (List.set (List.set (List.set a1_.1 (Int.toNat a2_) (List.getD a1_.1 (Int.toNat a4_) 0)) (Int.toNat a4_) (List.getD a1_.1 (Int.toNat a2_) 0)) (Int.toNat r12_) (List.getD (List.set (List.set a1_.1 (Int.toNat a2_) (List.getD a1_.1 (Int.toNat a4_) 0)) (Int.toNat a4_) (List.getD a1_.1 (Int.toNat a2_) 0)) (Int.toNat r24_) 0)))) <|
 .g (decide ((Int.toNat r24_) < List.length (List.set (List.set (List.set a1_.1 (Int.toNat a2_) (List.getD a1_.1 (Int.toNat a4_) 0)) (Int.toNat a4_) (List.getD a1_.1 (Int.toNat a2_) 0)) (Int.toNat r12_) (List.getD (List.set (List.set a1_.1 (Int.toNat a2_) (List.getD a1_.1 (Int.toNat a4_) 0)) (Int.toNat a4_) (List.getD a1_.1 (Int.toNat a2_) 0)) (Int.toNat r24_) 0)))) <|
 .c (Int × ((List Nat) × Y2)) (L_zbl_4 (a2_, a5_) ((IntKind.wrap .i64 (r12_ + (1 : Int))), ((IntKind.wrap .i64 (r24_ - (1 : Int))), ((List.set (List.set (List.set (List.set a1_.1 (Int.toNat a2_) (List.getD a1_.1 (Int.toNat a4_) 0)) (Int.toNat a4_) (List.getD a1_.1 (Int.toNat a2_) 0)) (Int.toNat r12_) (List.getD (List.set (List.set a1_.1 (Int.toNat a2_) (List.getD a1_.1 (Int.toNat a4_) 0)) (Int.toNat a4_) (List.getD a1_.1 (Int.toNat a2_) 0)) (Int.toNat r24_) 0)) (Int.toNat r24_) (List.getD (List.set (List.set a1_.1 (Int.toNat a2_) (List.getD a1_.1 (Int.toNat a4_) 0)) (Int.toNat a4_) (List.getD a1_.1 (Int.toNat a2_) 0)) (Int.toNat r12_) 0)), a1_.2)))) fun r57_ =>
 .g (inR a2_ (List.length r57_.2.1)) <|
 .g (decide ((Int.toNat a2_) < List.length r57_.2.1) && decide ((List.getD r57_.2.1 (Int.toNat a2_) 0) < List.length r57_.2.2)) <|
 .g (inR r57_.1 (List.length r57_.2.1)) <|
 .g (decide ((Int.toNat r57_.1) < List.length r57_.2.1) && decide ((List.getD r57_.2.1 (Int.toNat r57_.1) 0) < List.length r57_.2.2)) <|
 .g (inR r57_.1 (List.length r57_.2.1)) <|
 .g (decide ((Int.toNat r57_.1) < List.length r57_.2.1)) <|
 .g (inR a2_ (List.length (List.set r57_.2.1 (Int.toNat r57_.1) (List.getD r57_.2.1 (Int.toNat a2_) 0)))) <|
 .g (decide ((Int.toNat a2_) < List.length (List.set r57_.2.1 (Int.toNat r57_.1) (List.getD r57_.2.1 (Int.toNat a2_) 0)))) <|
 .l (r57_.1, (false, ((List.set (List.set r57_.2.1 (Int.toNat r57_.1) (List.getD r57_.2.1 (Int.toNat a2_) 0)) (Int.toNat a2_) (List.getD r57_.2.1 (Int.toNat r57_.1) 0)), r57_.2.2))))
noncomputable def F_zbl (a2_ : Int) (a3_ : Int) (a4_ : Int) (a5_ : (HL [y1, y1] → Option (Int))) (a1_ : (List Nat) × Y2) : Option (Int × (Bool × ((List Nat) × Y2))) := (T_zbl a2_ a3_ a4_ a5_ a1_).ev
noncomputable def A_zbl : Sh := (.cons (.arr 64) (.cons (.dat yi) (.cons (.dat yi) (.cons (.dat yi) (.cons (.clo [y1, y1] yi) .nil)))))
noncomputable def I_zbl : List (Nat × OSh) := [(64, .perm 27 3 yi)]
noncomputable def K_zbl : RetK := { acts := [], res := [.tmp 10, .tmp 11], sh := (.cons (.dat yi) (.cons (.dat .bool) .nil)), obs := [(64, .perm 27 3 yi)], pins := [(0, 0, 64)] }
noncomputable def D_zbl : FD := ⟨A_zbl, I_zbl, [.arg 0], Int × (Bool × ((List Nat) × Y2)), fun x => F_zbl x.1.2.1 x.1.2.2.1 x.1.2.2.2.1 x.1.2.2.2.2.1 x.2.1, fun r => ([.dat yi r.1, .dat .bool r.2.1], [(64, .perm false 27 3 yi r.2.2.1 r.2.2.2)])⟩
noncomputable def E_zbl : Env := envOf []
noncomputable def Z_zbl : Nat → Nat → List Nat := fun _ _ => []
noncomputable def O_zbl : List (Nat × LD) := [(0, DL_zbl_0), (2, DL_zbl_2), (6, DL_zbl_6), (8, DL_zbl_8), (4, DL_zbl_4)]
noncomputable def C_zbl : Code := (f188.body).getD .skip
noncomputable def S_zbn_0 (rec_ : (Int) → (Int) → (Int) → ((HL [y1, y1] → Option (Int))) → ((List Nat) × Y2) → Option ((List Nat) × Y2)) (k : (HL [y1, y1] → Option (Int))) (v : Int × (Int × (Int × (Bool × (Bool × ((List Nat) × Y2)))))) : Tr ((Int × (Int × (Int × (Bool × (Bool × ((List Nat) × Y2)))))) ⊕ ((List Nat) × Y2)) :=
 .t (decide ((IntKind.wrap .i64 (v.2.1 - v.1)) ≤ (12 : Int)))
 (.c ((List Nat) × Y2) (F_zbc v.1 v.2.1 k v.2.2.2.2.2) fun r8_ =>
 .l (.inr r8_))
 (.t (v.2.2.1 == (0 : Int))
 (.f)
 (.t (!v.2.2.2.1)
 (.c ((List Nat) × Y2) (F_zay v.1 v.2.1 k v.2.2.2.2.2) fun r9_ =>
 .c (Int × Int) (F_zba (permL r9_.1 r9_.2) v.1 v.2.1 k) fun r10_ =>
 .t (r10_.2 == (2 : Int))
 (.f)
 (.t v.2.2.2.1
 (.t v.2.2.2.2.1
 (.t (r10_.2 == (1 : Int))
 (.f)
 (.t (decide ((0 : Int) < v.1))
 (.g (inR (IntKind.wrap .i64 (v.1 - (1 : Int))) (List.length r9_.1)) <|
 .g (decide ((Int.toNat (IntKind.wrap .i64 (v.1 - (1 : Int)))) < List.length r9_.1) && decide ((List.getD r9_.1 (Int.toNat (IntKind.wrap .i64 (v.1 - (1 : Int)))) 0) < List.length r9_.2)) <|
 .g (inR r10_.1 (List.length r9_.1)) <|
 .g (decide ((Int.toNat r10_.1) < List.length r9_.1) && decide ((List.getD r9_.1 (Int.toNat r10_.1) 0) < List.length r9_.2)) <|
 .c (Int) (k ((List.getD r9_.2 (List.getD r9_.1 (Int.toNat (IntKind.wrap .i64 (v.1 - (1 : Int)))) 0) ([] : Y1)), ((List.getD r9_.2 (List.getD r9_.1 (Int.toNat r10_.1) 0) ([] : Y1)), ()))) fun r11_ =>
 .t (!(decide (r11_ < (0 : Int))))
 (.f)
 (.c (Int × (Bool × ((List Nat) × Y2))) (F_zbl v.1 v.2.1 r10_.1 k r9_) fun r12_ =>
 .g (!decide ((8 : Int) = 0)) <|
 .t (decide ((IntKind.wrap .i64 (r12_.1 - v.1)) < (IntKind.wrap .i64 (v.2.1 - r12_.1))))
 (.c ((List Nat) × Y2) (rec_ v.1 r12_.1 (IntKind.wrap .i64 (v.2.2.1 - (1 : Int))) k r12_.2.2) fun r13_ =>
 .l (.inl ((IntKind.wrap .i64 (r12_.1 + (1 : Int))), (v.2.1, ((IntKind.wrap .i64 (v.2.2.1 - (1 : Int))), ((decide ((IntKind.wrap .i64 (Int.tdiv (IntKind.wrap .i64 (v.2.1 - v.1)) (8 : Int))) ≤ (IntKind.wrap .i64 (r12_.1 - v.1)))), (r12_.2.1, r13_)))))))
 (.c ((List Nat) × Y2) (rec_ (IntKind.wrap .i64 (r12_.1 + (1 : Int))) v.2.1 (IntKind.wrap .i64 (v.2.2.1 - (1 : Int))) k r12_.2.2) fun r14_ =>
 .l (.inl (v.1, (r12_.1, ((IntKind.wrap .i64 (v.2.2.1 - (1 : Int))), ((decide ((IntKind.wrap .i64 (Int.tdiv (IntKind.wrap .i64 (v.2.1 - v.1)) (8 : Int))) ≤ (IntKind.wrap .i64 (v.2.1 - r12_.1)))), (r12_.2.1, r14_)))))))))
 (.c (Int × (Bool × ((List Nat) × Y2))) (F_zbl v.1 v.2.1 r10_.1 k r9_) fun r15_ =>
 .g (!decide ((8 : Int) = 0)) <|
 .t (decide ((IntKind.wrap .i64 (r15_.1 - v.1)) < (IntKind.wrap .i64 (v.2.1 - r15_.1))))
 (.c ((List Nat) × Y2) (rec_ v.1 r15_.1 (IntKind.wrap .i64 (v.2.2.1 - (1 : Int))) k r15_.2.2) fun r16_ =>
 .l (.inl ((IntKind.wrap .i64 (r15_.1 + (1 : Int))), (v.2.1, ((IntKind.wrap .i64 (v.2.2.1 - (1 : Int))), ((decide ((IntKind.wrap .i64 (Int.tdiv (IntKind.wrap .i64 (v.2.1 - v.1)) (8 : Int))) ≤ (IntKind.wrap .i64 (r15_.1 - v.1)))), (r15_.2.1, r16_)))))))
 (.c ((List Nat) × Y2) (rec_ (IntKind.wrap .i64 (r15_.1 + (1 : Int))) v.2.1 (IntKind.wrap .i64 (v.2.2.1 - (1 : Int))) k r15_.2.2) fun r17_ =>
 .l (.inl (v.1, (r15_.1, ((IntKind.wrap .i64 (v.2.2.1 - (1 : Int))), ((decide ((IntKind.wrap .i64 (Int.tdiv (IntKind.wrap .i64 (v.2.1 - v.1)) (8 : Int))) ≤ (IntKind.wrap .i64 (v.2.1 - r15_.1)))), (r15_.2.1, r17_))))))))))
 (.t (decide ((0 : Int) < v.1))
 (.g (inR (IntKind.wrap .i64 (v.1 - (1 : Int))) (List.length r9_.1)) <|
 .g (decide ((Int.toNat (IntKind.wrap .i64 (v.1 - (1 : Int)))) < List.length r9_.1) && decide ((List.getD r9_.1 (Int.toNat (IntKind.wrap .i64 (v.1 - (1 : Int)))) 0) < List.length r9_.2)) <|
 .g (inR r10_.1 (List.length r9_.1)) <|
 .g (decide ((Int.toNat r10_.1) < List.length r9_.1) && decide ((List.getD r9_.1 (Int.toNat r10_.1) 0) < List.length r9_.2)) <|
 .c (Int) (k ((List.getD r9_.2 (List.getD r9_.1 (Int.toNat (IntKind.wrap .i64 (v.1 - (1 : Int)))) 0) ([] : Y1)), ((List.getD r9_.2 (List.getD r9_.1 (Int.toNat r10_.1) 0) ([] : Y1)), ()))) fun r18_ =>
 .t (!(decide (r18_ < (0 : Int))))
 (.f)
 (.c (Int × (Bool × ((List Nat) × Y2))) (F_zbl v.1 v.2.1 r10_.1 k r9_) fun r19_ =>
 .g (!decide ((8 : Int) = 0)) <|
 .t (decide ((IntKind.wrap .i64 (r19_.1 - v.1)) < (IntKind.wrap .i64 (v.2.1 - r19_.1))))
 (.c ((List Nat) × Y2) (rec_ v.1 r19_.1 (IntKind.wrap .i64 (v.2.2.1 - (1 : Int))) k r19_.2.2) fun r20_ =>
 .l (.inl ((IntKind.wrap .i64 (r19_.1 + (1 : Int))), (v.2.1, ((IntKind.wrap .i64 (v.2.2.1 - (1 : Int))), ((decide ((IntKind.wrap .i64 (Int.tdiv (IntKind.wrap .i64 (v.2.1 - v.1)) (8 : Int))) ≤ (IntKind.wrap .i64 (r19_.1 - v.1)))), (r19_.2.1, r20_)))))))
 (.c ((List Nat) × Y2) (rec_ (IntKind.wrap .i64 (r19_.1 + (1 : Int))) v.2.1 (IntKind.wrap .i64 (v.2.2.1 - (1 : Int))) k r19_.2.2) fun r21_ =>
 .l (.inl (v.1, (r19_.1, ((IntKind.wrap .i64 (v.2.2.1 - (1 : Int))), ((decide ((IntKind.wrap .i64 (Int.tdiv (IntKind.wrap .i64 (v.2.1 - v.1)) (8 : Int))) ≤ (IntKind.wrap .i64 (v.2.1 - r19_.1)))), (r19_.2.1, r21_)))))))))
 (.c (Int × (Bool × ((List Nat) × Y2))) (F_zbl v.1 v.2.1 r10_.1 k r9_) fun r22_ =>
 .g (!decide ((8 : Int) = 0)) <|
 .t (decide ((IntKind.wrap .i64 (r22_.1 - v.1)) < (IntKind.wrap .i64 (v.2.1 - r22_.1))))
 (.c ((List Nat) × Y2) (rec_ v.1 r22_.1 (IntKind.wrap .i64 (v.2.2.1 - (1 : Int))) k r22_.2.2) fun r23_ =>
 .l (.inl ((IntKind.wrap .i64 (r22_.1 + (1 : Int))), (v.2.1, ((IntKind.wrap .i64 (v.2.2.1 - (1 : Int))), ((decide ((IntKind.wrap .i64 (Int.tdiv (IntKind.wrap .i64 (v.2.1 - v.1)) (8 : Int))) ≤ (IntKind.wrap .i64 (r22_.1 - v.1)))), (r22_.2.1, r23_)))))))
 (.c ((List Nat) × Y2) (rec_ (IntKind.wrap .i64 (r22_.1 + (1 : Int))) v.2.1 (IntKind.wrap .i64 (v.2.2.1 - (1 : Int))) k r22_.2.2) fun r24_ =>
 .l (.inl (v.1, (r22_.1, ((IntKind.wrap .i64 (v.2.2.1 - (1 : Int))), ((decide ((IntKind.wrap .i64 (Int.tdiv (IntKind.wrap .i64 (v.2.1 - v.1)) (8 : Int))) ≤ (IntKind.wrap .i64 (v.2.1 - r22_.1)))), (r22_.2.1, r24_))))))))))
 (.t (decide ((0 : Int) < v.1))
 (.g (inR (IntKind.wrap .i64 (v.1 - (1 : Int))) (List.length r9_.1)) <|
 .g (decide ((Int.toNat (IntKind.wrap .i64 (v.1 - (1 : Int)))) < List.length r9_.1) && decide ((List.getD r9_.1 (Int.toNat (IntKind.wrap .i64 (v.1 - (1 : Int)))) 0) < List.length r9_.2)) <|
 .g (inR r10_.1 (List.length r9_.1)) <|
 .g (decide ((Int.toNat r10_.1) < List.length r9_.1) && decide ((List.getD r9_.1 (Int.toNat r10_.1) 0) < List.length r9_.2)) <|
 .c (Int) (k ((List.getD r9_.2 (List.getD r9_.1 (Int.toNat (IntKind.wrap .i64 (v.1 - (1 : Int)))) 0) ([] : Y1)), ((List.getD r9_.2 (List.getD r9_.1 (Int.toNat r10_.1) 0) ([] : Y1)), ()))) fun r25_ =>
 .t (!(decide (r25_ < (0 : Int))))
 (.f)
 (.c (Int × (Bool × ((List Nat) × Y2))) (F_zbl v.1 v.2.1 r10_.1 k r9_) fun r26_ =>
 .g (!decide ((8 : Int) = 0)) <|
 .t (decide ((IntKind.wrap .i64 (r26_.1 - v.1)) < (IntKind.wrap .i64 (v.2.1 - r26_.1))))
 (.c ((List Nat) × Y2) (rec_ v.1 r26_.1 (IntKind.wrap .i64 (v.2.2.1 - (1 : Int))) k r26_.2.2) fun r27_ =>
 .l (.inl ((IntKind.wrap .i64 (r26_.1 + (1 : Int))), (v.2.1, ((IntKind.wrap .i64 (v.2.2.1 - (1 : Int))), ((decide ((IntKind.wrap .i64 (Int.tdiv (IntKind.wrap .i64 (v.2.1 - v.1)) (8 : Int))) ≤ (IntKind.wrap .i64 (r26_.1 - v.1)))), (r26_.2.1, r27_)))))))
 (.c ((List Nat) × Y2) (rec_ (IntKind.wrap .i64 (r26_.1 + (1 : Int))) v.2.1 (IntKind.wrap .i64 (v.2.2.1 - (1 : Int))) k r26_.2.2) fun r28_ =>
 .l (.inl (v.1, (r26_.1, ((IntKind.wrap .i64 (v.2.2.1 - (1 : Int))), ((decide ((IntKind.wrap .i64 (Int.tdiv (IntKind.wrap .i64 (v.2.1 - v.1)) (8 : Int))) ≤ (IntKind.wrap .i64 (v.2.1 - r26_.1)))), (r26_.2.1, r28_)))))))))
 (.c (Int × (Bool × ((List Nat) × Y2))) (F_zbl v.1 v.2.1 r10_.1 k r9_) fun r29_ =>
 .g (!decide ((8 : Int) = 0)) <|
 .t (decide ((IntKind.wrap .i64 (r29_.1 - v.1)) < (IntKind.wrap .i64 (v.2.1 - r29_.1))))
 (.c ((List Nat) × Y2) (rec_ v.1 r29_.1 (IntKind.wrap .i64 (v.2.2.1 - (1 : Int))) k r29_.2.2) fun r30_ =>
 .l (.inl ((IntKind.wrap .i64 (r29_.1 + (1 : Int))), (v.2.1, ((IntKind.wrap .i64 (v.2.2.1 - (1 : Int))), ((decide ((IntKind.wrap .i64 (Int.tdiv (IntKind.wrap .i64 (v.2.1 - v.1)) (8 : Int))) ≤ (IntKind.wrap .i64 (r29_.1 - v.1)))), (r29_.2.1, r30_)))))))
 (.c ((List Nat) × Y2) (rec_ (IntKind.wrap .i64 (r29_.1 + (1 : Int))) v.2.1 (IntKind.wrap .i64 (v.2.2.1 - (1 : Int))) k r29_.2.2) fun r31_ =>
 .l (.inl (v.1, (r29_.1, ((IntKind.wrap .i64 (v.2.2.1 - (1 : Int))), ((decide ((IntKind.wrap .i64 (Int.tdiv (IntKind.wrap .i64 (v.2.1 - v.1)) (8 : Int))) ≤ (IntKind.wrap .i64 (v.2.1 - r29_.1)))), (r29_.2.1, r31_)))))))))))
 (.c (Int × Int) (F_zba (permL v.2.2.2.2.2.1 v.2.2.2.2.2.2) v.1 v.2.1 k) fun r32_ =>
 .t (r32_.2 == (2 : Int))
 (.f)
 (.t v.2.2.2.1
 (.t v.2.2.2.2.1
 (.t (r32_.2 == (1 : Int))
 (.f)
 (.t (decide ((0 : Int) < v.1))
 (.g (inR (IntKind.wrap .i64 (v.1 - (1 : Int))) (List.length v.2.2.2.2.2.1)) <|
 .g (decide ((Int.toNat (IntKind.wrap .i64 (v.1 - (1 : Int)))) < List.length v.2.2.2.2.2.1) && decide ((List.getD v.2.2.2.2.2.1 (Int.toNat (IntKind.wrap .i64 (v.1 - (1 : Int)))) 0) < List.length v.2.2.2.2.2.2)) <|
 .g (inR r32_.1 (List.length v.2.2.2.2.2.1)) <|
 .g (decide ((Int.toNat r32_.1) < List.length v.2.2.2.2.2.1) && decide ((List.getD v.2.2.2.2.2.1 (Int.toNat r32_.1) 0) < List.length v.2.2.2.2.2.2)) <|
 .c (Int) (k ((List.getD v.2.2.2.2.2.2 (List.getD v.2.2.2.2.2.1 (Int.toNat (IntKind.wrap .i64 (v.1 - (1 : Int)))) 0) ([] : Y1)), ((List.getD v.2.2.2.2.2.2 (List.getD v.2.2.2.2.2.1 (Int.toNat r32_.1) 0) ([] : Y1)), ()))) fun r33_ =>
 .t (!(decide (r33_ < (0 : Int))))
 (.f)
 (.c (Int × (Bool × ((List Nat) × Y2))) (F_zbl v.1 v.2.1 r32_.1 k v.2.2.2.2.2) fun r34_ =>
 .g (!decide ((8 : Int) = 0)) <|
 .t (decide ((IntKind.wrap .i64 (r34_.1 - v.1)) < (IntKind.wrap .i64 (v.2.1 - r34_.1))))
 (.c ((List Nat) × Y2) (rec_ v.1 r34_.1 v.2.2.1 k r34_.2.2) fun r35_ =>
 .l (.inl ((IntKind.wrap .i64 (r34_.1 + (1 : Int))), (v.2.1, (v.2.2.1, ((decide ((IntKind.wrap .i64 (Int.tdiv (IntKind.wrap .i64 (v.2.1 - v.1)) (8 : Int))) ≤ (IntKind.wrap .i64 (r34_.1 - v.1)))), (r34_.2.1, r35_)))))))
 (.c ((List Nat) × Y2) (rec_ (IntKind.wrap .i64 (r34_.1 + (1 : Int))) v.2.1 v.2.2.1 k r34_.2.2) fun r36_ =>
 .l (.inl (v.1, (r34_.1, (v.2.2.1, ((decide ((IntKind.wrap .i64 (Int.tdiv (IntKind.wrap .i64 (v.2.1 - v.1)) (8 : Int))) ≤ (IntKind.wrap .i64 (v.2.1 - r34_.1)))), (r34_.2.1, r36_)))))))))
 (.c (Int × (Bool × ((List Nat) × Y2))) (F_zbl v.1 v.2.1 r32_.1 k v.2.2.2.2.2) fun r37_ =>
 .g (!decide ((8 : Int) = 0)) <|
 .t (decide ((IntKind.wrap .i64 (r37_.1 - v.1)) < (IntKind.wrap .i64 (v.2.1 - r37_.1))))
 (.c ((List Nat) × Y2) (rec_ v.1 r37_.1 v.2.2.1 k r37_.2.2) fun r38_ =>
 .l (.inl ((IntKind.wrap .i64 (r37_.1 + (1 : Int))), (v.2.1, (v.2.2.1, ((decide ((IntKind.wrap .i64 (Int.tdiv (IntKind.wrap .i64 (v.2.1 - v.1)) (8 : Int))) ≤ (IntKind.wrap .i64 (r37_.1 - v.1)))), (r37_.2.1, r38_)))))))
 (.c ((List Nat) × Y2) (rec_ (IntKind.wrap .i64 (r37_.1 + (1 : Int))) v.2.1 v.2.2.1 k r37_.2.2) fun r39_ =>
 .l (.inl (v.1, (r37_.1, (v.2.2.1, ((decide ((IntKind.wrap .i64 (Int.tdiv (IntKind.wrap .i64 (v.2.1 - v.1)) (8 : Int))) ≤ (IntKind.wrap .i64 (v.2.1 - r37_.1)))), (r37_.2.1, r39_))))))))))
 (.t (decide ((0 : Int) < v.1))
 (.g (inR (IntKind.wrap .i64 (v.1 - (1 : Int))) (List.length v.2.2.2.2.2.1)) <|
 .g (decide ((Int.toNat (IntKind.wrap .i64 (v.1 - (1 : Int)))) < List.length v.2.2.2.2.2.1) && decide ((List.getD v.2.2.2.2.2.1 (Int.toNat (IntKind.wrap .i64 (v.1 - (1 : Int)))) 0) < List.length v.2.2.2.2.2.2)) <|
 .g (inR r32_.1 (List.length v.2.2.2.2.2.1)) <|
 .g (decide ((Int.toNat r32_.1) < List.length v.2.2.2.2.2.1) && decide ((List.getD v.2.2.2.2.2.1 (Int.toNat r32_.1) 0) < List.length v.2.2.2.2.2.2)) <|
 .c (Int) (k ((List.getD v.2.2.2.2.2.2 (List.getD v.2.2.2.2.2.1 (Int.toNat (IntKind.wrap .i64 (v.1 - (1 : Int)))) 0) ([] : Y1)), ((List.getD v.2.2.2.2.2.2 (List.getD v.2.2.2.2.2.1 (Int.toNat r32_.1) 0) ([] : Y1)), ()))) fun r40_ =>
 .t (!(decide (r40_ < (0 : Int))))
 (.f)
 (.c (Int × (Bool × ((List Nat) × Y2))) (F_zbl v.1 v.2.1 r32_.1 k v.2.2.2.2.2) fun r41_ =>
 .g (!decide ((8 : Int) = 0)) <|
 .t (decide ((IntKind.wrap .i64 (r41_.1 - v.1)) < (IntKind.wrap .i64 (v.2.1 - r41_.1))))
 (.c ((List Nat) × Y2) (rec_ v.1 r41_.1 v.2.2.1 k r41_.2.2) fun r42_ =>
 .l (.inl ((IntKind.wrap .i64 (r41_.1 + (1 : Int))), (v.2.1, (v.2.2.1, ((decide ((IntKind.wrap .i64 (Int.tdiv (IntKind.wrap .i64 (v.2.1 - v.1)) (8 : Int))) ≤ (IntKind.wrap .i64 (r41_.1 - v.1)))), (r41_.2.1, r42_)))))))
 (.c ((List Nat) × Y2) (rec_ (IntKind.wrap .i64 (r41_.1 + (1 : Int))) v.2.1 v.2.2.1 k r41_.2.2) fun r43_ =>
 .l (.inl (v.1, (r41_.1, (v.2.2.1, ((decide ((IntKind.wrap .i64 (Int.tdiv (IntKind.wrap .i64 (v.2.1 - v.1)) (8 : Int))) ≤ (IntKind.wrap .i64 (v.2.1 - r41_.1)))), (r41_.2.1, r43_)))))))))
 (.c (Int × (Bool × ((List Nat) × Y2))) (F_zbl v.1 v.2.1 r32_.1 k v.2.2.2.2.2) fun r44_ =>
 .g (!decide ((8 : Int) = 0)) <|
 .t (decide ((IntKind.wrap .i64 (r44_.1 - v.1)) < (IntKind.wrap .i64 (v.2.1 - r44_.1))))
 (.c ((List Nat) × Y2) (rec_ v.1 r44_.1 v.2.2.1 k r44_.2.2) fun r45_ =>
 .l (.inl ((IntKind.wrap .i64 (r44_.1 + (1 : Int))), (v.2.1, (v.2.2.1, ((decide ((IntKind.wrap .i64 (Int.tdiv (IntKind.wrap .i64 (v.2.1 - v.1)) (8 : Int))) ≤ (IntKind.wrap .i64 (r44_.1 - v.1)))), (r44_.2.1, r45_)))))))
 (.c ((List Nat) × Y2) (rec_ (IntKind.wrap .i64 (r44_.1 + (1 : Int))) v.2.1 v.2.2.1 k r44_.2.2) fun r46_ =>
 .l (.inl (v.1, (r44_.1, (v.2.2.1, ((decide ((IntKind.wrap .i64 (Int.tdiv (IntKind.wrap .i64 (v.2.1 - v.1)) (8 : Int))) ≤ (IntKind.wrap .i64 (v.2.1 - r44_.1)))), (r44_.2.1, r46_))))))))))
 (.t (decide ((0 : Int) < v.1))
 (.g (inR (IntKind.wrap .i64 (v.1 - (1 : Int))) (List.length v.2.2.2.2.2.1)) <|
 .g (decide ((Int.toNat (IntKind.wrap .i64 (v.1 - (1 : Int)))) < List.length v.2.2.2.2.2.1) && decide ((List.getD v.2.2.2.2.2.1 (Int.toNat (IntKind.wrap .i64 (v.1 - (1 : Int)))) 0) < List.length v.2.2.2.2.2.2)) <|
 .g (inR r32_.1 (List.length v.2.2.2.2.2.1)) <|
 .g (decide ((Int.toNat r32_.1) < List.length v.2.2.2.2.2.1) && decide ((List.getD v.2.2.2.2.2.1 (Int.toNat r32_.1) 0) < List.length v.2.2.2.2.2.2)) <|
 .c (Int) (k ((List.getD v.2.2.2.2.2.2 (List.getD v.2.2.2.2.2.1 (Int.toNat (IntKind.wrap .i64 (v.1 - (1 : Int)))) 0) ([] : Y1)), ((List.getD v.2.2.2.2.2.2 (List.getD v.2.2.2.2.2.1 (Int.toNat r32_.1) 0) ([] : Y1)), ()))) fun r47_ =>
 .t (!(decide (r47_ < (0 : Int))))
 (.f)
 (.c (Int × (Bool × ((List Nat) × Y2))) (F_zbl v.1 v.2.1 r32_.1 k v.2.2.2.2.2) fun r48_ =>
 .g (!decide ((8 : Int) = 0)) <|
 .t (decide ((IntKind.wrap .i64 (r48_.1 - v.1)) < (IntKind.wrap .i64 (v.2.1 - r48_.1))))
 (.c ((List Nat) × Y2) (rec_ v.1 r48_.1 v.2.2.1 k r48_.2.2) fun r49_ =>
 .l (.inl ((IntKind.wrap .i64 (r48_.1 + (1 : Int))), (v.2.1, (v.2.2.1, ((decide ((IntKind.wrap .i64 (Int.tdiv (IntKind.wrap .i64 (v.2.1 - v.1)) (8 : Int))) ≤ (IntKind.wrap .i64 (r48_.1 - v.1)))), (r48_.2.1, r49_)))))))
 (.c ((List Nat) × Y2) (rec_ (IntKind.wrap .i64 (r48_.1 + (1 : Int))) v.2.1 v.2.2.1 k r48_.2.2) fun r50_ =>
 .l (.inl (v.1, (r48_.1, (v.2.2.1, ((decide ((IntKind.wrap .i64 (Int.tdiv (IntKind.wrap .i64 (v.2.1 - v.1)) (8 : Int))) ≤ (IntKind.wrap .i64 (v.2.1 - r48_.1)))), (r48_.2.1, r50_)))))))))
 (.c (Int × (Bool × ((List Nat) × Y2))) (F_zbl v.1 v.2.1 r32_.1 k v.2.2.2.2.2) fun r51_ =>
 .g (!decide ((8 : Int) = 0)) <|
 .t (decide ((IntKind.wrap .i64 (r51_.1 - v.1)) < (IntKind.wrap .i64 (v.2.1 - r51_.1))))
 (.c ((List Nat) × Y2) (rec_ v.1 r51_.1 v.2.2.1 k r51_.2.2) fun r52_ =>
 .l (.inl ((IntKind.wrap .i64 (r51_.1 + (1 : Int))), (v.2.1, (v.2.2.1, ((decide ((IntKind.wrap .i64 (Int.tdiv (IntKind.wrap .i64 (v.2.1 - v.1)) (8 : Int))) ≤ (IntKind.wrap .i64 (r51_.1 - v.1)))), (r51_.2.1, r52_)))))))
 (.c ((List Nat) × Y2) (rec_ (IntKind.wrap .i64 (r51_.1 + (1 : Int))) v.2.1 v.2.2.1 k r51_.2.2) fun r53_ =>
 .l (.inl (v.1, (r51_.1, (v.2.2.1, ((decide ((IntKind.wrap .i64 (Int.tdiv (IntKind.wrap .i64 (v.2.1 - v.1)) (8 : Int))) ≤ (IntKind.wrap .i64 (v.2.1 - r51_.1)))), (r51_.2.1, r53_)))))))))))))
noncomputable def L_zbn_0 (rec_ : (Int) → (Int) → (Int) → ((HL [y1, y1] → Option (Int))) → ((List Nat) × Y2) → Option ((List Nat) × Y2)) (k : (HL [y1, y1] → Option (Int))) (v : Int × (Int × (Int × (Bool × (Bool × ((List Nat) × Y2)))))) : Option ((List Nat) × Y2) := iter (fun v => (S_zbn_0 rec_ k v).ev) v
noncomputable def DL_zbn_0 (rec_ : (Int) → (Int) → (Int) → ((HL [y1, y1] → Option (Int))) → ((List Nat) × Y2) → Option ((List Nat) × Y2)) : LD where
 head := { acts := [], S := { slots := [0, 1, 2, 3, 4, 10, 11], sh := (.cons (.arr 64) (.cons (.dat yi) (.cons (.dat yi) (.cons (.dat yi) (.cons (.clo [y1, y1] yi) (.cons (.dat .bool) (.cons (.dat .bool) .nil))))))), obs := [(64, .perm 27 3 yi)] } }
 exits := []
 rets := { acts := [], S := { slots := [0], sh := (.cons (.arr 64) .nil), obs := [(64, .perm 27 3 yi)] } }
 K := (HL [y1, y1] → Option (Int))
 V := Int × (Int × (Int × (Bool × (Bool × ((List Nat) × Y2)))))
 R := (List Nat) × Y2
 join := fun k v => (((), (v.1, (v.2.1, (v.2.2.1, (k, (v.2.2.2.1, (v.2.2.2.2.1, ()))))))), (v.2.2.2.2.2, ()))
 sk := fun t => t.1.2.2.2.2.1
 sv := fun t => (t.1.2.1, (t.1.2.2.1, (t.1.2.2.2.1, (t.1.2.2.2.2.2.1, (t.1.2.2.2.2.2.2.1, t.2.1)))))
 step := S_zbn_0 rec_
 leaf := fun _ r => .l (.ret (mkSt ({ slots := [0], sh := (.cons (.arr 64) .nil), obs := [(64, .perm 27 3 yi)] }) (((), ()), (r, ()))))
noncomputable def T_zbn (rec_ : (Int) → (Int) → (Int) → ((HL [y1, y1] → Option (Int))) → ((List Nat) × Y2) → Option ((List Nat) × Y2)) (a2_ : Int) (a3_ : Int) (a4_ : Int) (a5_ : (HL [y1, y1] → Option (Int))) (a1_ : (List Nat) × Y2) : Tr ((List Nat) × Y2) :=
 .c ((List Nat) × Y2) (L_zbn_0 rec_ a5_ (a2_, (a3_, (a4_, (true, (true, a1_)))))) fun r55_ =>
 .l r55_
noncomputable def F_zbn : Nat → (Int) → (Int) → (Int) → ((HL [y1, y1] → Option (Int))) → ((List Nat) × Y2) → Option ((List Nat) × Y2)
 | 0 => fun _ _ _ _ _ => none
 | n + 1 => fun a2_ a3_ a4_ a5_ a1_ => (T_zbn (F_zbn n) a2_ a3_ a4_ a5_ a1_).ev
noncomputable def A_zbn : Sh := (.cons (.arr 64) (.cons (.dat yi) (.cons (.dat yi) (.cons (.dat yi) (.cons (.clo [y1, y1] yi) .nil)))))
noncomputable def I_zbn : List (Nat × OSh) := [(64, .perm 27 3 yi)]
noncomputable def K_zbn : RetK := { acts := [], res := [], sh := .nil, obs := [(64, .perm 27 3 yi)], pins := [(0, 0, 64)] }
noncomputable def Dr_zbn (rec_ : (Int) → (Int) → (Int) → ((HL [y1, y1] → Option (Int))) → ((List Nat) × Y2) → Option ((List Nat) × Y2)) : FD where
 A := A_zbn
 ins := I_zbn
 lend := [.arg 0]
 R := (List Nat) × Y2
 F := fun x => rec_ x.1.2.1 x.1.2.2.1 x.1.2.2.2.1 x.1.2.2.2.2.1 x.2.1
 emb := fun r => ([], [(64, .perm false 27 3 yi r.1 r.2)])
noncomputable def D_zbn (n : Nat) : FD := Dr_zbn (F_zbn n)
noncomputable def E_zbn (rec_ : (Int) → (Int) → (Int) → ((HL [y1, y1] → Option (Int))) → ((List Nat) × Y2) → Option ((List Nat) × Y2)) : Env := envOf [(181, D_zbc), (183, D_zay), (184, D_zba), (188, D_zbl), (164, Dr_zbn rec_)]
noncomputable def Z_zbn : Nat → Nat → List Nat := fun _ _ => []
noncomputable def O_zbn (rec_ : (Int) → (Int) → (Int) → ((HL [y1, y1] → Option (Int))) → ((List Nat) × Y2) → Option ((List Nat) × Y2)) : List (Nat × LD) := [(0, DL_zbn_0 rec_)]
noncomputable def C_zbn : Code := (f164.body).getD .skip
noncomputable def T_zaw (a2_ : (HL [y1, y1] → Option (Int))) (a1_ : (List Nat) × Y2) : Tr ((List Nat) × Y2) :=
 .c (Int) (F_zan (IntKind.wrap .u64 ((List.length a1_.1 : Nat) : Int))) fun r1_ =>
 .c ((List Nat) × Y2) (F_zbn 1000000 (0 : Int) ((List.length a1_.1 : Nat) : Int) r1_ a2_ a1_) fun r2_ =>
 .l r2_
noncomputable def F_zaw (a2_ : (HL [y1, y1] → Option (Int))) (a1_ : (List Nat) × Y2) : Option ((List Nat) × Y2) := (T_zaw a2_ a1_).ev
noncomputable def A_zaw : Sh := (.cons (.arr 64) (.cons (.clo [y1, y1] yi) .nil))
noncomputable def I_zaw : List (Nat × OSh) := [(64, .perm 27 3 yi)]
noncomputable def K_zaw : RetK := { acts := [], res := [], sh := .nil, obs := [(64, .perm 27 3 yi)], pins := [(0, 0, 64)] }
noncomputable def D_zaw : FD := ⟨A_zaw, I_zaw, [.arg 0], (List Nat) × Y2, fun x => F_zaw x.1.2.1 x.2.1, fun r => ([], [(64, .perm false 27 3 yi r.1 r.2)])⟩
noncomputable def E_zaw : Env := envOf [(155, D_zan), (164, D_zbn 1000000)]
noncomputable def Z_zaw : Nat → Nat → List Nat := fun _ _ => []
noncomputable def O_zaw : List (Nat × LD) := []
noncomputable def C_zaw : Code := (f141.body).getD .skip
noncomputable def T_za (a1_ : Int) (a2_ : Int) : Tr (Int) :=
 .c (Bool) (F_zd a1_) fun r1_ =>
 .c (Bool) (F_zd a2_) fun r2_ =>
 .t r1_
 (.t r2_
 (.l (0 : Int))
 (.l (-1 : Int)))
 (.t r2_
 (.l (1 : Int))
 (.t (decide (a1_ < a2_))
 (.l (-1 : Int))
 (.t (decide (a2_ < a1_))
 (.l (1 : Int))
 (.l (0 : Int)))))
noncomputable def F_za (a1_ : Int) (a2_ : Int) : Option (Int) := (T_za a1_ a2_).ev
noncomputable def A_za : Sh := (.cons (.dat yi) (.cons (.dat yi) .nil))
noncomputable def I_za : List (Nat × OSh) := []
noncomputable def K_za : RetK := { acts := [], res := [.tmp 4], sh := (.cons (.dat yi) .nil), obs := [], pins := [] }
noncomputable def D_za : FD := ⟨A_za, I_za, [], Int, fun x => F_za x.1.1 x.1.2.1, fun r => ([.dat yi r], [])⟩
noncomputable def E_za : Env := envOf [(161, D_zd)]
noncomputable def Z_za : Nat → Nat → List Nat := fun _ _ => []
noncomputable def O_za : List (Nat × LD) := []
noncomputable def C_za : Code := (f138.body).getD .skip
noncomputable def S_zap_0 (k : Y1 × (Y1 × (Y1 × Int))) (v : Int) : Tr ((Int) ⊕ ((Unit) ⊕ (Int))) :=
 .t (decide (v < k.2.2.2))
 (.g (inR v (List.length k.2.2.1)) <|
 .t (decide (((List.length k.2.1 : Nat) : Int) ≤ v))
 (.l (.inr (.inr (1 : Int))))
 (.g (inR v (List.length k.2.1)) <|
 .c (Int) (F_za (List.getD k.2.2.1 (Int.toNat v) (0 : Int)) (List.getD k.2.1 (Int.toNat v) (0 : Int))) fun r6_ =>
 .t (r6_ != (0 : Int))
 (.l (.inr (.inr r6_)))
 (.l (.inl (IntKind.wrap .i64 (v + (1 : Int)))))))
 (.l (.inr (.inl ())))
noncomputable def L_zap_0 (k : Y1 × (Y1 × (Y1 × Int))) (v : Int) : Option ((Unit) ⊕ (Int)) := iter (fun v => (S_zap_0 k v).ev) v
noncomputable def DL_zap_0 : LD := ⟨(yh [0, 1, 9, 10, 11] (.cons (.dat y1) (.cons (.dat y1) (.cons (.dat y1) (.cons (.dat yi) (.cons (.dat yi) .nil)))))), [(0, (yh [0, 1] (.cons (.dat y1) (.cons (.dat y1) .nil))))], (yh [4] (.cons (.dat yi) .nil)), Y1 × (Y1 × (Y1 × Int)), Int, (Unit) ⊕ (Int), fun k v => ((k.1, (k.2.1, (k.2.2.1, (k.2.2.2, (v, ()))))), ()), fun t => (t.1.1, (t.1.2.1, (t.1.2.2.1, t.1.2.2.2.1))), fun t => t.1.2.2.2.2.1, S_zap_0, fun k r => .s (Unit) (Int) r (fun _ => .l (.exit 0 (mkSt ((ys [0, 1] (.cons (.dat y1) (.cons (.dat y1) .nil)))) ((k.1, (k.2.1, ())), ())))) (fun b => .l (.ret (mkSt ((ys [4] (.cons (.dat yi) .nil))) ((b, ()), ()))))⟩
noncomputable def T_zap (a1_ : Y1) (a2_ : Y1) : Tr (Int) :=
 .c ((Unit) ⊕ (Int)) (L_zap_0 (a1_, (a2_, (a1_, ((List.length a1_ : Nat) : Int)))) (0 : Int)) fun r10_ =>
 .s (Unit) (Int) r10_
 (fun _ => .t (decide (((List.length a1_ : Nat) : Int) < ((List.length a2_ : Nat) : Int)))
 (.l (-1 : Int))
 (.l (0 : Int)))
 (fun r12_ => .l r12_)
noncomputable def F_zap (a1_ : Y1) (a2_ : Y1) : Option (Int) := (T_zap a1_ a2_).ev
noncomputable def A_zap : Sh := (.cons (.dat y1) (.cons (.dat y1) .nil))
noncomputable def I_zap : List (Nat × OSh) := []
noncomputable def K_zap : RetK := { acts := [], res := [.tmp 4], sh := (.cons (.dat yi) .nil), obs := [], pins := [] }
noncomputable def D_zap : FD := ⟨A_zap, I_zap, [], Int, fun x => F_zap x.1.1 x.1.2.1, fun r => ([.dat yi r], [])⟩
noncomputable def E_zap : Env := envOf [(138, D_za)]
noncomputable def Z_zap : Nat → Nat → List Nat := fun _ _ => []
noncomputable def O_zap : List (Nat × LD) := [(0, DL_zap_0)]
noncomputable def C_zap : Code := (f165.body).getD .skip
noncomputable def S_zc_0 (k : Int × (Y1 × Int)) (v : Int) : Tr ((Int) ⊕ ((Unit) ⊕ (Int))) :=
 .t (decide (v < k.2.2))
 (.g (inR v (List.length k.2.1)) <|
 .t ((List.getD k.2.1 (Int.toNat v) (0 : Int)) != k.1)
 (.l (.inr (.inr (List.getD k.2.1 (Int.toNat v) (0 : Int)))))
 (.l (.inl (IntKind.wrap .i64 (v + (1 : Int))))))
 (.l (.inr (.inl ())))
noncomputable def L_zc_0 (k : Int × (Y1 × Int)) (v : Int) : Option ((Unit) ⊕ (Int)) := iter (fun v => (S_zc_0 k v).ev) v
noncomputable def DL_zc_0 : LD := ⟨(yh [3, 6, 7, 8] (.cons (.dat yi) (.cons (.dat y1) (.cons (.dat yi) (.cons (.dat yi) .nil))))), [(0, (yh [3] (.cons (.dat yi) .nil)))], (yh [2] (.cons (.dat yi) .nil)), Int × (Y1 × Int), Int, (Unit) ⊕ (Int), fun k v => ((k.1, (k.2.1, (k.2.2, (v, ())))), ()), fun t => (t.1.1, (t.1.2.1, t.1.2.2.1)), fun t => t.1.2.2.2.1, S_zc_0, fun k r => .s (Unit) (Int) r (fun _ => .l (.exit 0 (mkSt ((ys [3] (.cons (.dat yi) .nil))) ((k.1, ()), ())))) (fun b => .l (.ret (mkSt ((ys [2] (.cons (.dat yi) .nil))) ((b, ()), ()))))⟩
noncomputable def T_zc (a1_ : Y1) : Tr (Int) :=
 .c ((Unit) ⊕ (Int)) (L_zc_0 ((0 : Int), (a1_, ((List.length a1_ : Nat) : Int))) (0 : Int)) fun r7_ =>
 .s (Unit) (Int) r7_
 (fun _ => .l (0 : Int))
 (fun r9_ => .l r9_)
noncomputable def F_zc (a1_ : Y1) : Option (Int) := (T_zc a1_).ev
noncomputable def A_zc : Sh := (.cons (.dat y1) .nil)
noncomputable def I_zc : List (Nat × OSh) := []
noncomputable def K_zc : RetK := { acts := [], res := [.tmp 2], sh := (.cons (.dat yi) .nil), obs := [], pins := [] }
noncomputable def D_zc : FD := ⟨A_zc, I_zc, [], Int, fun x => F_zc x.1.1, fun r => ([.dat yi r], [])⟩
noncomputable def E_zc : Env := envOf []
noncomputable def Z_zc : Nat → Nat → List Nat := fun _ _ => []
noncomputable def O_zc : List (Nat × LD) := [(0, DL_zc_0)]
noncomputable def C_zc : Code := (f137.body).getD .skip
noncomputable def T_zab (a1_ : Y1) (a2_ : Y1) : Tr (Int) :=
 .c (Int) (F_za ((List.length a1_ : Nat) : Int) ((List.length a2_ : Nat) : Int)) fun r1_ =>
 .c (Int) (F_zap a1_ a2_) fun r2_ =>
 .c (Int) (F_zc ([r1_, r2_] : Y1)) fun r3_ =>
 .l r3_
noncomputable def F_zab (a1_ : Y1) (a2_ : Y1) : Option (Int) := (T_zab a1_ a2_).ev
noncomputable def A_zab : Sh := (.cons (.dat y1) (.cons (.dat y1) .nil))
noncomputable def I_zab : List (Nat × OSh) := []
noncomputable def K_zab : RetK := { acts := [], res := [.tmp 4], sh := (.cons (.dat yi) .nil), obs := [], pins := [] }
noncomputable def D_zab : FD := ⟨A_zab, I_zab, [], Int, fun x => F_zab x.1.1 x.1.2.1, fun r => ([.dat yi r], [])⟩
noncomputable def E_zab : Env := envOf [(138, D_za), (165, D_zap), (137, D_zc)]
noncomputable def Z_zab : Nat → Nat → List Nat := fun _ _ => []
noncomputable def O_zab : List (Nat × LD) := []
noncomputable def C_zab : Code := (f142.body).getD .skip
noncomputable def S_zai_0 (k : Int) (v : Int × Y2) : Tr ((Int × Y2) ⊕ Y2) :=
 .g (decide ((0 : Int) ≤ k)) <|
 .t (decide (v.1 < (IntKind.wrap .u64 ((1 : Int) * 2 ^ (min (Int.toNat k) (IntKind.bits .u64))))))
 (.c Y1 (F_zz v.1) fun r4_ =>
 .g (decide ((List.length v.2 + 1) * 24 ≤ 140737488355328)) <|
 .l (.inl ((IntKind.wrap .u64 (v.1 + (1 : Int))), (List.set (v.2 ++ [[]]) (List.length v.2) r4_))))
 (.l (.inr v.2))
noncomputable def L_zai_0 (k : Int) (v : Int × Y2) : Option Y2 := iter (fun v => (S_zai_0 k v).ev) v
noncomputable def DL_zai_0 : LD := ⟨{ acts := [], S := { slots := [0, 3, 4], sh := (.cons (.dat yi) (.cons (.arr 5) (.cons (.dat (.int .u64)) .nil))), obs := [(5, .rows 27 3 yi)] } }, [(0, { acts := [], S := { slots := [3], sh := (.cons (.arr 5) .nil), obs := [(5, .rows 27 3 yi)] } })], (yh [] .nil), Int, Int × Y2, List Y1, fun k v => ((k, ((), (v.1, ()))), (v.2, ())), fun t => t.1.1, fun t => (t.1.2.2.1, t.2.1), S_zai_0, fun _ r => .l (.exit 0 (mkSt ({ slots := [3], sh := (.cons (.arr 5) .nil), obs := [(5, .rows 27 3 yi)] }) (((), ()), (r, ()))))⟩
noncomputable def T_zai (a1_ : Int) : Tr ((List Nat) × Y2) :=
 .c Y2 (L_zai_0 a1_ ((1 : Int), ([] : List Y1))) fun r6_ =>
 .c ((List Nat) × Y2) (F_zaw (fun h7_ => Option.bind (F_zab h7_.1 h7_.2.1) fun y8_ => some y8_) ((List.range (List.length r6_)), r6_)) fun r9_ =>
 .l r9_
noncomputable def F_zai (a1_ : Int) : Option ((List Nat) × Y2) := (T_zai a1_).ev
noncomputable def A_zai : Sh := (.cons (.dat yi) .nil)
noncomputable def I_zai : List (Nat × OSh) := []
noncomputable def K_zai : RetK := { acts := [.ren 5 0], res := [.tmp 2], sh := (.cons (.arr 0) .nil), obs := [(0, .perm 27 3 yi)], pins := [] }
noncomputable def D_zai : FD := ⟨A_zai, I_zai, [], (List Nat) × Y2, fun x => F_zai x.1.1, fun r => ([.arr 0], [(0, .perm false 27 3 yi r.1 r.2)])⟩
noncomputable def E_zai : Env := envOf [(140, D_zz), (141, D_zaw), (141, D_zaw), (142, D_zab)]
noncomputable def Z_zai : Nat → Nat → List Nat := fun r i => match look [(1, [(0, [1000000])]), (6, [(1, [80000017])])] r with
 | some l => (look l i).getD []
 | none => []
noncomputable def O_zai : List (Nat × LD) := [(0, DL_zai_0)]
noncomputable def C_zai : Code := (f102.body).getD .skip
noncomputable def S_zas_0 (k : (HL [y1] → Option (Bool))) (v : Int × (Int × ((List Nat) × Y2))) : Tr ((Int × (Int × ((List Nat) × Y2))) ⊕ (Int × ((List Nat) × Y2))) :=
 .t (decide (v.2.1 < ((List.length v.2.2.1 : Nat) : Int)))
 (.g (inR v.2.1 (List.length v.2.2.1)) <|
 .g (decide ((Int.toNat v.2.1) < List.length v.2.2.1) && decide ((List.getD v.2.2.1 (Int.toNat v.2.1) 0) < List.length v.2.2.2)) <|
 .c (Bool) (k ((List.getD v.2.2.2 (List.getD v.2.2.1 (Int.toNat v.2.1) 0) ([] : Y1)), ())) fun r6_ =>
 .t (!r6_)
 (.g (inR v.1 (List.length v.2.2.1)) <|
 .g (decide ((Int.toNat v.1) < List.length v.2.2.1)) <|
 .l (.inl ((IntKind.wrap .i64 (v.1 + (1 : Int))), ((IntKind.wrap .i64 (v.2.1 + (1 : Int))), ((List.set v.2.2.1 (Int.toNat v.1) (List.getD v.2.2.1 (Int.toNat v.2.1) 0)), v.2.2.2)))))
 (.l (.inl (v.1, ((IntKind.wrap .i64 (v.2.1 + (1 : Int))), v.2.2)))))
 (.l (.inr (v.1, v.2.2)))
noncomputable def L_zas_0 (k : (HL [y1] → Option (Bool))) (v : Int × (Int × ((List Nat) × Y2))) : Option (Int × ((List Nat) × Y2)) := iter (fun v => (S_zas_0 k v).ev) v
noncomputable def DL_zas_0 : LD := ⟨{ acts := [], S := { slots := [0, 1, 5, 6], sh := (.cons (.arr 64) (.cons (.clo [y1] .bool) (.cons (.dat yi) (.cons (.dat yi) .nil)))), obs := [(64, .perm 27 3 yi)] } }, [(0, { acts := [], S := { slots := [0, 5], sh := (.cons (.arr 64) (.cons (.dat yi) .nil)), obs := [(64, .perm 27 3 yi)] } })], (yh [] .nil), (HL [y1] → Option (Bool)), Int × (Int × ((List Nat) × Y2)), Int × ((List Nat) × Y2), fun k v => (((), (k, (v.1, (v.2.1, ())))), (v.2.2, ())), fun t => t.1.2.1, fun t => (t.1.2.2.1, (t.1.2.2.2.1, t.2.1)), S_zas_0, fun _ r => .l (.exit 0 (mkSt ({ slots := [0, 5], sh := (.cons (.arr 64) (.cons (.dat yi) .nil)), obs := [(64, .perm 27 3 yi)] }) (((), (r.1, ())), (r.2, ()))))⟩
noncomputable def T_zas (a2_ : (HL [y1] → Option (Bool))) (a1_ : (List Nat) × Y2) : Tr ((List Nat) × Y2) :=
 .c (Int) (F_zat (permL a1_.1 a1_.2) a2_) fun r1_ =>
 .t (r1_ == (-1 : Int))
 (.l a1_)
 (.c (Int × ((List Nat) × Y2)) (L_zas_0 a2_ (r1_, ((IntKind.wrap .i64 (r1_ + (1 : Int))), a1_))) fun r9_ =>
 .g (decide ((0 : Int) ≤ r9_.1) && decide (r9_.1 ≤ ((List.length r9_.2.1 : Nat) : Int))) <|
 .g (decide ((0 : Int) ≤ r9_.1) && decide (r9_.1 ≤ ((List.length (List.take (Int.toNat r9_.1) r9_.2.1 ++ List.replicate (List.length r9_.2.1 - (Int.toNat r9_.1)) (List.length r9_.2.2)) : Nat) : Int))) <|
 .l ((List.take (Int.toNat r9_.1) (List.take (Int.toNat r9_.1) r9_.2.1 ++ List.replicate (List.length r9_.2.1 - (Int.toNat r9_.1)) (List.length r9_.2.2))), r9_.2.2))
noncomputable def F_zas (a2_ : (HL [y1] → Option (Bool))) (a1_ : (List Nat) × Y2) : Option ((List Nat) × Y2) := (T_zas a2_ a1_).ev
noncomputable def A_zas : Sh := (.cons (.arr 64) (.cons (.clo [y1] .bool) .nil))
noncomputable def I_zas : List (Nat × OSh) := [(64, .perm 27 3 yi)]
noncomputable def K_zas : RetK := { acts := [.ren 64 0], res := [.tmp 4], sh := (.cons (.arr 0) .nil), obs := [(0, .perm 27 3 yi)], pins := [], gone := [64] }
noncomputable def D_zas : FD := ⟨A_zas, I_zas, [.arg 0], (List Nat) × Y2, fun x => F_zas x.1.2.1 x.2.1, fun r => ([.arr 0], [(0, .perm false 27 3 yi r.1 r.2), (64, .spent)])⟩
noncomputable def E_zas : Env := envOf [(77, D_zat)]
noncomputable def Z_zas : Nat → Nat → List Nat := fun _ _ => []
noncomputable def O_zas : List (Nat × LD) := [(0, DL_zas_0)]
noncomputable def C_zas : Code := (f101.body).getD .skip
noncomputable def T_zah (a1_ : Y1) (a2_ : Int) : Tr (Bool) :=
 .l (((List.length a1_ : Nat) : Int) != a2_)
noncomputable def F_zah (a1_ : Y1) (a2_ : Int) : Option (Bool) := (T_zah a1_ a2_).ev
noncomputable def A_zah : Sh := (.cons (.dat y1) (.cons (.ptr (.cons (.dat yi) .nil)) .nil))
noncomputable def I_zah : List (Nat × OSh) := []
noncomputable def K_zah : RetK := { acts := [], res := [.tmp 3], sh := (.cons (.dat .bool) .nil), obs := [], pins := [] }
noncomputable def D_zah : FD := ⟨A_zah, I_zah, [], Bool, fun x => F_zah x.1.1 x.1.2.1.1, fun r => ([.dat .bool r], [])⟩
noncomputable def E_zah : Env := envOf []
noncomputable def Z_zah : Nat → Nat → List Nat := fun _ _ => []
noncomputable def O_zah : List (Nat × LD) := []
noncomputable def C_zah : Code := (f111.body).getD .skip
noncomputable def T_zag (a1_ : Int) (a2_ : Int) : Tr ((List Nat) × Y2) :=
 .c ((List Nat) × Y2) (F_zai a1_) fun r1_ =>
 .c ((List Nat) × Y2) (F_zas (fun h2_ => Option.bind (F_zah h2_.1 a2_) fun y3_ => some y3_) r1_) fun r4_ =>
 .l r4_
noncomputable def F_zag (a1_ : Int) (a2_ : Int) : Option ((List Nat) × Y2) := (T_zag a1_ a2_).ev
noncomputable def A_zag : Sh := (.cons (.dat yi) (.cons (.dat yi) .nil))
noncomputable def I_zag : List (Nat × OSh) := []
noncomputable def K_zag : RetK := { acts := [.ren 512 0], res := [.tmp 4], sh := (.cons (.arr 0) .nil), obs := [(0, .perm 27 3 yi)], pins := [] }
noncomputable def D_zag : FD := ⟨A_zag, I_zag, [], (List Nat) × Y2, fun x => F_zag x.1.1 x.1.2.1, fun r => ([.arr 0], [(0, .perm false 27 3 yi r.1 r.2)])⟩
noncomputable def E_zag : Env := envOf [(102, D_zai), (101, D_zas), (101, D_zas), (111, D_zah)]
noncomputable def Z_zag : Nat → Nat → List Nat := fun _ _ => []
noncomputable def O_zag : List (Nat × LD) := []
noncomputable def C_zag : Code := (f50.body).getD .skip
noncomputable def S_zaf_0 (k : ((HL [y1] → Option (Int))) × (Int × ((List Nat) × Y2))) (v : (Nat) × Int) : Tr (((Nat) × Int) ⊕ (Nat)) :=
 .t (decide (v.2 < k.2.1))
 (.g (inR v.2 (List.length k.2.2.1)) <|
 .g (decide ((Int.toNat v.2) < List.length k.2.2.1) && decide ((List.getD k.2.2.1 (Int.toNat v.2) 0) < List.length k.2.2.2)) <|
 .c (Int) (k.1 ((List.getD k.2.2.2 (List.getD k.2.2.1 (Int.toNat v.2) 0) ([] : Y1)), ())) fun r6_ =>
 .c (Int) (k.1 ((List.getD k.2.2.2 v.1 ([] : Y1)), ())) fun r7_ =>
 .t (decide (r6_ < r7_))
 (.l (.inl ((List.getD k.2.2.1 (Int.toNat v.2) 0), (IntKind.wrap .i64 (v.2 + (1 : Int))))))
 (.l (.inl (v.1, (IntKind.wrap .i64 (v.2 + (1 : Int)))))))
 (.l (.inr v.1))
noncomputable def L_zaf_0 (k : ((HL [y1] → Option (Int))) × (Int × ((List Nat) × Y2))) (v : (Nat) × Int) : Option (Nat) := iter (fun v => (S_zaf_0 k v).ev) v
noncomputable def DL_zaf_0 : LD := ⟨{ acts := [], S := { slots := [0, 1, 5, 11, 12, 13], sh := (.cons (.arr 64) (.cons (.clo [y1] yi) (.cons (.row 64) (.cons (.arr 64) (.cons (.dat yi) (.cons (.dat yi) .nil)))))), obs := [(64, .perm 27 3 yi)] } }, [(0, { acts := [], S := { slots := [0, 5], sh := (.cons (.arr 64) (.cons (.row 64) .nil)), obs := [(64, .perm 27 3 yi)] } })], (yh [] .nil), ((HL [y1] → Option (Int))) × (Int × ((List Nat) × Y2)), (Nat) × (Int), Nat, fun k v => (((), (k.1, (v.1, ((), (k.2.1, (v.2, ())))))), (k.2.2, ())), fun t => (t.1.2.1, (t.1.2.2.2.2.1, t.2.1)), fun t => (t.1.2.2.1, t.1.2.2.2.2.2.1), S_zaf_0, fun k r => .l (.exit 0 (mkSt ({ slots := [0, 5], sh := (.cons (.arr 64) (.cons (.row 64) .nil)), obs := [(64, .perm 27 3 yi)] }) (((), (r, ())), (k.2.2, ()))))⟩
noncomputable def T_zaf (a2_ : (HL [y1] → Option (Int))) (a1_ : (List Nat) × Y2) : Tr Y1 :=
 .g (inR (0 : Int) (List.length a1_.1)) <|
 .g (decide ((Int.toNat (0 : Int)) < List.length a1_.1) && decide ((List.getD a1_.1 (Int.toNat (0 : Int)) 0) < List.length a1_.2)) <|
 .c (Nat) (L_zaf_0 (a2_, (((List.length a1_.1 : Nat) : Int), a1_)) ((List.getD a1_.1 (Int.toNat (0 : Int)) 0), (0 : Int))) fun r10_ =>
 .l (List.getD a1_.2 r10_ ([] : Y1))
noncomputable def F_zaf (a2_ : (HL [y1] → Option (Int))) (a1_ : (List Nat) × Y2) : Option Y1 := (T_zaf a2_ a1_).ev
noncomputable def A_zaf : Sh := (.cons (.arr 64) (.cons (.clo [y1] yi) .nil))
noncomputable def I_zaf : List (Nat × OSh) := [(64, .perm 27 3 yi)]
noncomputable def K_zaf : RetK := { acts := [.pull 4 800000, .ren 800000 0], res := [.tmp 4], sh := (.cons (.arr 0) .nil), obs := [(0, .arr 3 yi)], pins := [], gone := [64] }
noncomputable def D_zaf : FD := ⟨A_zaf, I_zaf, [.arg 0], Y1, fun x => F_zaf x.1.2.1 x.2.1, fun r => ([.arr 0], [(0, .arr 3 yi r), (64, .spent)])⟩
noncomputable def E_zaf : Env := envOf []
noncomputable def Z_zaf : Nat → Nat → List Nat := fun _ _ => []
noncomputable def O_zaf : List (Nat × LD) := [(0, DL_zaf_0)]
noncomputable def C_zaf : Code := (f49.body).getD .skip
noncomputable def T_zs (a1_ : Y1) (a2_ : Y1) (a3_ : List Y1) (a4_ : Y1) : Tr (Int) :=
 .c (Int) (F_zj a2_ a3_ a1_ a4_) fun r1_ =>
 .l r1_
noncomputable def F_zs (a1_ : Y1) (a2_ : Y1) (a3_ : List Y1) (a4_ : Y1) : Option (Int) := (T_zs a1_ a2_ a3_ a4_).ev
noncomputable def A_zs : Sh := (.cons (.dat y1) (.cons (.ptr (.cons (.dat y1) (.cons (.dat y2) .nil))) (.cons (.ptr (.cons (.dat y1) .nil)) .nil)))
noncomputable def I_zs : List (Nat × OSh) := []
noncomputable def K_zs : RetK := { acts := [], res := [.tmp 4], sh := (.cons (.dat yi) .nil), obs := [], pins := [] }
noncomputable def D_zs : FD := ⟨A_zs, I_zs, [], Int, fun x => F_zs x.1.1 x.1.2.1.1 x.1.2.1.2.1 x.1.2.2.1.1, fun r => ([.dat yi r], [])⟩
noncomputable def E_zs : Env := envOf [(84, D_zj)]
noncomputable def Z_zs : Nat → Nat → List Nat := fun _ _ => []
noncomputable def O_zs : List (Nat × LD) := []
noncomputable def C_zs : Code := (f90.body).getD .skip
noncomputable def T_zr (a1_ : Y1) (a2_ : List Y1) (a3_ : Int) (a4_ : Y1) : Tr (Bool × Y1) :=
 .c (Bool) (F_zac a1_ a2_ a3_) fun r1_ =>
 .t (!r1_)
 (.l (false, ([] : Y1)))
 (.c (Bool) (F_ze a1_ a2_ a4_) fun r2_ =>
 .t (!r2_)
 (.l (false, ([] : Y1)))
 (.c ((List Nat) × Y2) (F_zag ((List.length a1_ : Nat) : Int) a3_) fun r3_ =>
 .c Y1 (F_zaf (fun h4_ => Option.bind (F_zs h4_.1 a1_ a2_ a4_) fun y5_ => some y5_) r3_) fun r6_ =>
 .l (true, r6_)))
noncomputable def F_zr (a1_ : Y1) (a2_ : List Y1) (a3_ : Int) (a4_ : Y1) : Option (Bool × Y1) := (T_zr a1_ a2_ a3_ a4_).ev
noncomputable def A_zr : Sh := (.cons (.agg (.cons (.dat y1) (.cons (.dat y2) .nil))) (.cons (.dat yi) (.cons (.dat y1) .nil)))
noncomputable def I_zr : List (Nat × OSh) := []
noncomputable def K_zr : RetK := { acts := [.own 6 0 3 yi, .ren 1536 0], res := [.tmp 6, .tmp 7], sh := (.cons (.arr 0) (.cons (.dat .bool) .nil)), obs := [(0, .arr 3 yi)], pins := [] }
noncomputable def D_zr : FD := ⟨A_zr, I_zr, [], Bool × Y1, fun x => F_zr x.1.1.1 x.1.1.2.1 x.1.2.1 x.1.2.2.1, fun r => ([.arr 0, .dat .bool r.1], [(0, .arr 3 yi r.2)])⟩
noncomputable def E_zr : Env := envOf [(89, D_zac), (83, D_ze), (50, D_zag), (49, D_zaf), (49, D_zaf), (90, D_zs)]
noncomputable def Z_zr : Nat → Nat → List Nat := fun _ _ => []
noncomputable def O_zr : List (Nat × LD) := []
noncomputable def C_zr : Code := (f30.body).getD .skip
noncomputable def T_zcy (a1_ : Y1) (a2_ : List Y1) (a3_ : Int) : Tr (Bool) :=
 .c (Bool) (F_zcp a1_ a2_) fun r1_ =>
 .t r1_
 (.c (Bool) (F_zch a3_ (1 : Int) ((List.length a1_ : Nat) : Int)) fun r2_ =>
 .l r2_)
 (.l false)
noncomputable def F_zcy (a1_ : Y1) (a2_ : List Y1) (a3_ : Int) : Option (Bool) := (T_zcy a1_ a2_ a3_).ev
noncomputable def A_zcy : Sh := (.cons (.agg (.cons (.dat y1) (.cons (.dat y2) .nil))) (.cons (.dat yi) .nil))
noncomputable def I_zcy : List (Nat × OSh) := []
noncomputable def K_zcy : RetK := { acts := [], res := [.tmp 4], sh := (.cons (.dat .bool) .nil), obs := [], pins := [] }
noncomputable def D_zcy : FD := ⟨A_zcy, I_zcy, [], Bool, fun x => F_zcy x.1.1.1 x.1.1.2.1 x.1.2.1, fun r => ([.dat .bool r], [])⟩
noncomputable def E_zcy : Env := envOf [(125, D_zcp), (76, D_zch)]
noncomputable def Z_zcy : Nat → Nat → List Nat := fun _ _ => []
noncomputable def O_zcy : List (Nat × LD) := []
noncomputable def C_zcy : Code := (f91.body).getD .skip
noncomputable def S_zcm_0 (k : Y1 × Y1) (v : Int) : Tr ((Int) ⊕ ((Unit) ⊕ (Bool))) :=
 .t (decide (v < ((List.length k.1 : Nat) : Int)))
 (.g (inR v (List.length k.1)) <|
 .g (inR v (List.length k.2)) <|
 .t ((List.getD k.1 (Int.toNat v) (0 : Int)) != (List.getD k.2 (Int.toNat v) (0 : Int)))
 (.g (inR v (List.length k.1)) <|
 .g (inR v (List.length k.2)) <|
 .l (.inr (.inr (decide ((List.getD k.1 (Int.toNat v) (0 : Int)) < (List.getD k.2 (Int.toNat v) (0 : Int)))))))
 (.l (.inl (IntKind.wrap .i64 (v + (1 : Int))))))
 (.l (.inr (.inl ())))
noncomputable def L_zcm_0 (k : Y1 × Y1) (v : Int) : Option ((Unit) ⊕ (Bool)) := iter (fun v => (S_zcm_0 k v).ev) v
noncomputable def DL_zcm_0 : LD := ⟨(yh [0, 1, 5] (.cons (.dat y1) (.cons (.dat y1) (.cons (.dat yi) .nil)))), [(0, (yh [] .nil))], (yh [4] (.cons (.dat .bool) .nil)), Y1 × Y1, Int, (Unit) ⊕ (Bool), fun k v => ((k.1, (k.2, (v, ()))), ()), fun t => (t.1.1, t.1.2.1), fun t => t.1.2.2.1, S_zcm_0, fun _ r => .s (Unit) (Bool) r (fun _ => .l (.exit 0 (mkSt ((ys [] .nil)) ((), ())))) (fun b => .l (.ret (mkSt ((ys [4] (.cons (.dat .bool) .nil))) ((b, ()), ()))))⟩
noncomputable def T_zcm (a1_ : Y1) (a2_ : Y1) : Tr (Bool) :=
 .t (((List.length a1_ : Nat) : Int) != ((List.length a2_ : Nat) : Int))
 (.l (decide (((List.length a1_ : Nat) : Int) < ((List.length a2_ : Nat) : Int))))
 (.c ((Unit) ⊕ (Bool)) (L_zcm_0 (a1_, a2_) (0 : Int)) fun r5_ =>
 .s (Unit) (Bool) r5_
 (fun _ => .l false)
 (fun r7_ => .l r7_))
noncomputable def F_zcm (a1_ : Y1) (a2_ : Y1) : Option (Bool) := (T_zcm a1_ a2_).ev
noncomputable def A_zcm : Sh := (.cons (.dat y1) (.cons (.dat y1) .nil))
noncomputable def I_zcm : List (Nat × OSh) := []
noncomputable def K_zcm : RetK := { acts := [], res := [.tmp 4], sh := (.cons (.dat .bool) .nil), obs := [], pins := [] }
noncomputable def D_zcm : FD := ⟨A_zcm, I_zcm, [], Bool, fun x => F_zcm x.1.1 x.1.2.1, fun r => ([.dat .bool r], [])⟩
noncomputable def E_zcm : Env := envOf []
noncomputable def Z_zcm : Nat → Nat → List Nat := fun _ _ => []
noncomputable def O_zcm : List (Nat × LD) := [(0, DL_zcm_0)]
noncomputable def C_zcm : Code := (f112.body).getD .skip
noncomputable def S_zcv_2 (k : Int × (Y2 × (Int × Y1))) (v : Int) : Tr ((Int) ⊕ (Int)) :=
 .t (decide ((0 : Int) < v))
 (.g (inR (IntKind.wrap .i64 (v - (1 : Int))) (List.length k.2.1)) <|
 .c (Bool) (F_zcm k.2.2.2 (List.getD k.2.1 (Int.toNat (IntKind.wrap .i64 (v - (1 : Int)))) ([] : Y1))) fun r26_ =>
 .t r26_
 (.l (.inl (IntKind.wrap .i64 (v - (1 : Int)))))
 (.l (.inr v)))
 (.l (.inr v))
noncomputable def L_zcv_2 (k : Int × (Y2 × (Int × Y1))) (v : Int) : Option (Int) := iter (fun v => (S_zcv_2 k v).ev) v
noncomputable def DL_zcv_2 : LD := ⟨{ acts := [], S := { slots := [0, 3, 4, 5, 6], sh := (.cons (.dat yi) (.cons (.dat y2) (.cons (.dat yi) (.cons (.arr 1024) (.cons (.dat yi) .nil))))), obs := [(1024, .arr 3 yi)] } }, [(2, { acts := [], S := { slots := [0, 3, 4, 5, 6], sh := (.cons (.dat yi) (.cons (.dat y2) (.cons (.dat yi) (.cons (.arr 1024) (.cons (.dat yi) .nil))))), obs := [(1024, .arr 3 yi)] } })], (yh [] .nil), Int × (Y2 × (Int × Y1)), Int, Int, fun k v => ((k.1, (k.2.1, (k.2.2.1, ((), (v, ()))))), (k.2.2.2, ())), fun t => (t.1.1, (t.1.2.1, (t.1.2.2.1, t.2.1))), fun t => t.1.2.2.2.2.1, S_zcv_2, fun k r => .l (.exit 2 (mkSt ({ slots := [0, 3, 4, 5, 6], sh := (.cons (.dat yi) (.cons (.dat y2) (.cons (.dat yi) (.cons (.arr 1024) (.cons (.dat yi) .nil))))), obs := [(1024, .arr 3 yi)] }) ((k.1, (k.2.1, (k.2.2.1, ((), (r, ()))))), (k.2.2.2, ()))))⟩
noncomputable def S_zcv_0 (k : Int) (v : Y2 × Int) : Tr ((Y2 × Int) ⊕ Y2) :=
 .g (decide ((0 : Int) ≤ k)) <|
 .t (decide (v.2 < (IntKind.wrap .i64 ((1 : Int) * 2 ^ (min (Int.toNat k) (IntKind.bits .i64))))))
 (.c Y1 (F_zcn k v.2) fun r20_ =>
 .c (Int) (L_zcv_2 (k, (v.1, (v.2, r20_))) ((List.length v.1 : Nat) : Int)) fun r32_ =>
 .g (decide ((0 : Int) ≤ r32_) && decide (r32_ ≤ ((List.length v.1 : Nat) : Int))) <|
 .g (decide ((List.length ([] : List Y1) + List.length (List.drop 0 (List.take (Int.toNat r32_) v.1))) * 24 ≤ 140737488355328)) <|
 .g (decide ((List.length (([] : List Y1) ++ (List.drop 0 (List.take (Int.toNat r32_) v.1))) + List.length ([r20_] : List Y1)) * 24 ≤ 140737488355328)) <|
 .g (decide ((0 : Int) ≤ r32_) && decide (r32_ ≤ ((List.length v.1 : Nat) : Int))) <|
 .g (decide ((List.length ((([] : List Y1) ++ (List.drop 0 (List.take (Int.toNat r32_) v.1))) ++ ([r20_] : List Y1)) + List.length (List.drop (Int.toNat r32_) (List.take (List.length v.1) v.1))) * 24 ≤ 140737488355328)) <|
 .l (.inl ((((([] : List Y1) ++ (List.drop 0 (List.take (Int.toNat r32_) v.1))) ++ ([r20_] : List Y1)) ++ (List.drop (Int.toNat r32_) (List.take (List.length v.1) v.1))), (IntKind.wrap .i64 (v.2 + (1 : Int))))))
 (.l (.inr v.1))
noncomputable def L_zcv_0 (k : Int) (v : Y2 × Int) : Option Y2 := iter (fun v => (S_zcv_0 k v).ev) v
noncomputable def DL_zcv_0 : LD := ⟨{ acts := [.fz 7, .fz 32], S := (ys [0, 3, 4] (.cons (.dat yi) (.cons (.dat y2) (.cons (.dat yi) .nil)))) }, [(0, (yh [3] (.cons (.dat y2) .nil)))], (yh [] .nil), Int, Y2 × (Int), List Y1, fun k v => ((k, (v.1, (v.2, ()))), ()), fun t => t.1.1, fun t => (t.1.2.1, t.1.2.2.1), S_zcv_0, fun _ r => .l (.exit 0 (mkSt ((ys [3] (.cons (.dat y2) .nil))) ((r, ()), ())))⟩
noncomputable def T_zcv (a1_ : Int) : Tr Y2 :=
 .c Y2 (L_zcv_0 a1_ (([] : List Y1), (1 : Int))) fun r34_ =>
 .l r34_
noncomputable def F_zcv (a1_ : Int) : Option Y2 := (T_zcv a1_).ev
noncomputable def A_zcv : Sh := (.cons (.dat yi) .nil)
noncomputable def I_zcv : List (Nat × OSh) := []
noncomputable def K_zcv : RetK := { acts := [], res := [.tmp 2], sh := (.cons (.dat y2) .nil), obs := [], pins := [] }
noncomputable def D_zcv : FD := ⟨A_zcv, I_zcv, [], List Y1, fun x => F_zcv x.1.1, fun r => ([.dat y2 r], [])⟩
noncomputable def E_zcv : Env := envOf [(65, D_zcn), (112, D_zcm)]
noncomputable def Z_zcv : Nat → Nat → List Nat := fun r i => match look [(8, [(0, [3, 5])])] r with
 | some l => (look l i).getD []
 | none => []
noncomputable def O_zcv : List (Nat × LD) := [(2, DL_zcv_2), (0, DL_zcv_0)]
noncomputable def C_zcv : Code := (f54.body).getD .skip
noncomputable def S_zbs_0 (k : Int × (Y1 × (Y2 × (Y1 × Y2)))) (v : Y1 × Int) : Tr ((Y1 × Int) ⊕ Y1) :=
 .t (decide (v.2 < ((List.length k.2.2.1 : Nat) : Int)))
 (.g (inR v.2 (List.length k.2.2.1)) <|
 .t (((List.length (List.getD k.2.2.1 (Int.toNat v.2) ([] : Y1)) : Nat) : Int) == k.1)
 (.t (((List.length v.1 : Nat) : Int) == (0 : Int))
 (.g (inR v.2 (List.length k.2.2.1)) <|
 .l (.inl ((List.getD k.2.2.1 (Int.toNat v.2) ([] : Y1)), (IntKind.wrap .i64 (v.2 + (1 : Int))))))
 (.g (inR v.2 (List.length k.2.2.1)) <|
 .c (Int) (F_zbu k.2.2.2.1 k.2.2.2.2 (List.getD k.2.2.1 (Int.toNat v.2) ([] : Y1)) k.2.1) fun r20_ =>
 .c (Int) (F_zbu k.2.2.2.1 k.2.2.2.2 v.1 k.2.1) fun r21_ =>
 .t (decide (r20_ < r21_))
 (.g (inR v.2 (List.length k.2.2.1)) <|
 .l (.inl ((List.getD k.2.2.1 (Int.toNat v.2) ([] : Y1)), (IntKind.wrap .i64 (v.2 + (1 : Int))))))
 (.l (.inl (v.1, (IntKind.wrap .i64 (v.2 + (1 : Int))))))))
 (.l (.inl (v.1, (IntKind.wrap .i64 (v.2 + (1 : Int)))))))
 (.l (.inr v.1))
noncomputable def L_zbs_0 (k : Int × (Y1 × (Y2 × (Y1 × Y2)))) (v : Y1 × Int) : Option Y1 := iter (fun v => (S_zbs_0 k v).ev) v
noncomputable def DL_zbs_0 : LD := ⟨{ acts := [.fz 11], S := { slots := [1, 2, 3, 8, 9, 10], sh := (.cons (.dat yi) (.cons (.dat y1) (.cons (.box 3 0) (.cons (.dat y1) (.cons (.dat y2) (.cons (.dat yi) .nil)))))), obs := [(3, .cells (.cons (.dat y1) (.cons (.dat y2) .nil)))] } }, [(0, (yh [8] (.cons (.dat y1) .nil)))], (yh [] .nil), Int × (Y1 × (Y2 × (Y1 × Y2))), Y1 × (Int), Y1, fun k v => ((k.1, (k.2.1, ((), (v.1, (k.2.2.1, (v.2, ())))))), ((k.2.2.2.1, (k.2.2.2.2, ())), ())), fun t => (t.1.1, (t.1.2.1, (t.1.2.2.2.2.1, (t.2.1.1, t.2.1.2.1)))), fun t => (t.1.2.2.2.1, t.1.2.2.2.2.2.1), S_zbs_0, fun _ r => .l (.exit 0 (mkSt ((ys [8] (.cons (.dat y1) .nil))) ((r, ()), ())))⟩
noncomputable def T_zbs (a1_ : Y1) (a2_ : List Y1) (a3_ : Int) (a4_ : Y1) : Tr (Y1 × (Bool)) :=
 .c (Bool) (F_zcy a1_ a2_ a3_) fun r1_ =>
 .t (!r1_)
 (.l (([] : Y1), false))
 (.c (Bool) (F_zct a4_ ((List.length a2_ : Nat) : Int) (99 : Int)) fun r2_ =>
 .t (!r2_)
 (.l (([] : Y1), false))
 (.c Y2 (F_zcv ((List.length a1_ : Nat) : Int)) fun r3_ =>
 .c Y1 (L_zbs_0 (a3_, (a4_, (r3_, (a1_, a2_)))) (([] : Y1), (0 : Int))) fun r23_ =>
 .l (r23_, true)))
noncomputable def F_zbs (a1_ : Y1) (a2_ : List Y1) (a3_ : Int) (a4_ : Y1) : Option (Y1 × (Bool)) := (T_zbs a1_ a2_ a3_ a4_).ev
noncomputable def A_zbs : Sh := (.cons (.agg (.cons (.dat y1) (.cons (.dat y2) .nil))) (.cons (.dat yi) (.cons (.dat y1) .nil)))
noncomputable def I_zbs : List (Nat × OSh) := []
noncomputable def K_zbs : RetK := { acts := [.fz 11], res := [.tmp 6, .tmp 7], sh := (.cons (.dat y1) (.cons (.dat .bool) .nil)), obs := [], pins := [] }
noncomputable def D_zbs : FD := ⟨A_zbs, I_zbs, [], Y1 × (Bool), fun x => F_zbs x.1.1.1 x.1.1.2.1 x.1.2.1 x.1.2.2.1, fun r => ([.dat y1 r.1, .dat .bool r.2], [])⟩
noncomputable def E_zbs : Env := envOf [(91, D_zcy), (86, D_zct), (54, D_zcv), (87, D_zbu)]
noncomputable def Z_zbs : Nat → Nat → List Nat := fun _ _ => []
noncomputable def O_zbs : List (Nat × LD) := [(0, DL_zbs_0)]
noncomputable def C_zbs : Code := (f31.body).getD .skip
noncomputable def S_zam_0 (k : Y1 × Y1) (v : Int) : Tr ((Int) ⊕ ((Unit) ⊕ (Unit))) :=
 .t (decide (v < ((List.length k.1 : Nat) : Int)))
 (.g (inR v (List.length k.1)) <|
 .g (inR v (List.length k.2)) <|
 .t ((List.getD k.1 (Int.toNat v) (0 : Int)) != (List.getD k.2 (Int.toNat v) (0 : Int)))
 (.l (.inr (.inr ())))
 (.l (.inl (IntKind.wrap .i64 (v + (1 : Int))))))
 (.l (.inr (.inl ())))
noncomputable def L_zam_0 (k : Y1 × Y1) (v : Int) : Option ((Unit) ⊕ (Unit)) := iter (fun v => (S_zam_0 k v).ev) v
noncomputable def DL_zam_0 : LD := ⟨(yh [0, 1, 5] (.cons (.dat y1) (.cons (.dat y1) (.cons (.dat yi) .nil)))), [(0, (yh [] .nil))], (yh [4] (.cons (.dat .bool) .nil)), Y1 × Y1, Int, (Unit) ⊕ (Unit), fun k v => ((k.1, (k.2, (v, ()))), ()), fun t => (t.1.1, t.1.2.1), fun t => t.1.2.2.1, S_zam_0, fun _ r => .s (Unit) (Unit) r (fun _ => .l (.exit 0 (mkSt ((ys [] .nil)) ((), ())))) (fun _ => .l (.ret (mkSt ((ys [4] (.cons (.dat .bool) .nil))) ((false, ()), ()))))⟩
noncomputable def T_zam (a1_ : Y1) (a2_ : Y1) : Tr (Bool) :=
 .t (((List.length a1_ : Nat) : Int) != ((List.length a2_ : Nat) : Int))
 (.l false)
 (.c ((Unit) ⊕ (Unit)) (L_zam_0 (a1_, a2_) (0 : Int)) fun r5_ =>
 .s (Unit) (Unit) r5_
 (fun _ => .l true)
 (fun _ => .l false))
noncomputable def F_zam (a1_ : Y1) (a2_ : Y1) : Option (Bool) := (T_zam a1_ a2_).ev
noncomputable def A_zam : Sh := (.cons (.dat y1) (.cons (.dat y1) .nil))
noncomputable def I_zam : List (Nat × OSh) := []
noncomputable def K_zam : RetK := { acts := [], res := [.tmp 4], sh := (.cons (.dat .bool) .nil), obs := [], pins := [] }
noncomputable def D_zam : FD := ⟨A_zam, I_zam, [], Bool, fun x => F_zam x.1.1 x.1.2.1, fun r => ([.dat .bool r], [])⟩
noncomputable def E_zam : Env := envOf []
noncomputable def Z_zam : Nat → Nat → List Nat := fun _ _ => []
noncomputable def O_zam : List (Nat × LD) := [(0, DL_zam_0)]
noncomputable def C_zam : Code := (f10.body).getD .skip
noncomputable def T_zi (a1_ : Y1) (a2_ : Int) : Tr (Bool) :=
 .l (((List.length a1_ : Nat) : Int) != a2_)
noncomputable def F_zi (a1_ : Y1) (a2_ : Int) : Option (Bool) := (T_zi a1_ a2_).ev
noncomputable def A_zi : Sh := (.cons (.dat y1) (.cons (.ptr (.cons (.dat yi) .nil)) .nil))
noncomputable def I_zi : List (Nat × OSh) := []
noncomputable def K_zi : RetK := { acts := [], res := [.tmp 3], sh := (.cons (.dat .bool) .nil), obs := [], pins := [] }
noncomputable def D_zi : FD := ⟨A_zi, I_zi, [], Bool, fun x => F_zi x.1.1 x.1.2.1.1, fun r => ([.dat .bool r], [])⟩
noncomputable def E_zi : Env := envOf []
noncomputable def Z_zi : Nat → Nat → List Nat := fun _ _ => []
noncomputable def O_zi : List (Nat × LD) := []
noncomputable def C_zi : Code := (f128.body).getD .skip
noncomputable def S_zaj_0 (k : Y1 × Int) (v : Int × Int) : Tr ((Int × Int) ⊕ (Int)) :=
 .t (decide (v.2 < k.2))
 (.g (inR v.2 (List.length k.1)) <|
 .l (.inl ((IntKind.wrap .i64 (v.1 + (List.getD k.1 (Int.toNat v.2) (0 : Int)))), (IntKind.wrap .i64 (v.2 + (1 : Int))))))
 (.l (.inr v.1))
noncomputable def L_zaj_0 (k : Y1 × Int) (v : Int × Int) : Option (Int) := iter (fun v => (S_zaj_0 k v).ev) v
noncomputable def DL_zaj_0 : LD := ⟨(yh [3, 6, 7, 8] (.cons (.dat yi) (.cons (.dat y1) (.cons (.dat yi) (.cons (.dat yi) .nil))))), [(0, (yh [3] (.cons (.dat yi) .nil)))], (yh [] .nil), Y1 × (Int), Int × (Int), Int, fun k v => ((v.1, (k.1, (k.2, (v.2, ())))), ()), fun t => (t.1.2.1, t.1.2.2.1), fun t => (t.1.1, t.1.2.2.2.1), S_zaj_0, fun _ r => .l (.exit 0 (mkSt ((ys [3] (.cons (.dat yi) .nil))) ((r, ()), ())))⟩
noncomputable def T_zaj (a1_ : Y1) : Tr (Int) :=
 .c (Int) (L_zaj_0 (a1_, ((List.length a1_ : Nat) : Int)) ((0 : Int), (0 : Int))) fun r6_ =>
 .l r6_
noncomputable def F_zaj (a1_ : Y1) : Option (Int) := (T_zaj a1_).ev
noncomputable def A_zaj : Sh := (.cons (.dat y1) .nil)
noncomputable def I_zaj : List (Nat × OSh) := []
noncomputable def K_zaj : RetK := { acts := [], res := [.tmp 2], sh := (.cons (.dat yi) .nil), obs := [], pins := [] }
noncomputable def D_zaj : FD := ⟨A_zaj, I_zaj, [], Int, fun x => F_zaj x.1.1, fun r => ([.dat yi r], [])⟩
noncomputable def E_zaj : Env := envOf []
noncomputable def Z_zaj : Nat → Nat → List Nat := fun _ _ => []
noncomputable def O_zaj : List (Nat × LD) := [(0, DL_zaj_0)]
noncomputable def C_zaj : Code := (f129.body).getD .skip
noncomputable def T_zn (a1_ : Y1) (a2_ : List Y1) (a3_ : Y1) : Tr (Int) :=
 .c Y1 (F_zg a1_ a2_ a3_) fun r1_ =>
 .c (Int) (F_zaj r1_) fun r2_ =>
 .l r2_
noncomputable def F_zn (a1_ : Y1) (a2_ : List Y1) (a3_ : Y1) : Option (Int) := (T_zn a1_ a2_ a3_).ev
noncomputable def A_zn : Sh := (.cons (.agg (.cons (.dat y1) (.cons (.dat y2) .nil))) (.cons (.dat y1) .nil))
noncomputable def I_zn : List (Nat × OSh) := []
noncomputable def K_zn : RetK := { acts := [], res := [.tmp 4], sh := (.cons (.dat yi) .nil), obs := [], pins := [] }
noncomputable def D_zn : FD := ⟨A_zn, I_zn, [], Int, fun x => F_zn x.1.1.1 x.1.1.2.1 x.1.2.1, fun r => ([.dat yi r], [])⟩
noncomputable def E_zn : Env := envOf [(123, D_zg), (129, D_zaj)]
noncomputable def Z_zn : Nat → Nat → List Nat := fun _ _ => []
noncomputable def O_zn : List (Nat × LD) := []
noncomputable def C_zn : Code := (f93.body).getD .skip
noncomputable def T_zh (a1_ : Y1) (a2_ : List Y1) (a3_ : Int) : Tr Y1 :=
 .c ((List Nat) × Y2) (F_zai ((List.length a1_ : Nat) : Int)) fun r1_ =>
 .c ((List Nat) × Y2) (F_zas (fun h2_ => Option.bind (F_zi h2_.1 a3_) fun y3_ => some y3_) r1_) fun r4_ =>
 .c Y1 (F_zaf (fun h5_ => Option.bind (F_zn a1_ a2_ h5_.1) fun y6_ => some y6_) r4_) fun r7_ =>
 .l r7_
noncomputable def F_zh (a1_ : Y1) (a2_ : List Y1) (a3_ : Int) : Option Y1 := (T_zh a1_ a2_ a3_).ev
noncomputable def A_zh : Sh := (.cons (.agg (.cons (.dat y1) (.cons (.dat y2) .nil))) (.cons (.dat yi) .nil))
noncomputable def I_zh : List (Nat × OSh) := []
noncomputable def K_zh : RetK := { acts := [.ren 960 0], res := [.tmp 4], sh := (.cons (.arr 0) .nil), obs := [(0, .arr 3 yi)], pins := [] }
noncomputable def D_zh : FD := ⟨A_zh, I_zh, [], Y1, fun x => F_zh x.1.1.1 x.1.1.2.1 x.1.2.1, fun r => ([.arr 0], [(0, .arr 3 yi r)])⟩
noncomputable def E_zh : Env := envOf [(102, D_zai), (101, D_zas), (49, D_zaf), (49, D_zaf), (93, D_zn), (101, D_zas), (128, D_zi)]
noncomputable def Z_zh : Nat → Nat → List Nat := fun _ _ => []
noncomputable def O_zh : List (Nat × LD) := []
noncomputable def C_zh : Code := (f92.body).getD .skip
noncomputable def T_zq (a1_ : Y1) (a2_ : List Y1) (a3_ : Int) : Tr (Bool × Y1) :=
 .c (Bool) (F_zac a1_ a2_ a3_) fun r1_ =>
 .t (!r1_)
 (.l (false, ([] : Y1)))
 (.c Y1 (F_zh a1_ a2_ a3_) fun r2_ =>
 .l (true, r2_))
noncomputable def F_zq (a1_ : Y1) (a2_ : List Y1) (a3_ : Int) : Option (Bool × Y1) := (T_zq a1_ a2_ a3_).ev
noncomputable def A_zq : Sh := (.cons (.agg (.cons (.dat y1) (.cons (.dat y2) .nil))) (.cons (.dat yi) .nil))
noncomputable def I_zq : List (Nat × OSh) := []
noncomputable def K_zq : RetK := { acts := [.own 4 0 3 yi, .ren 768 0], res := [.tmp 4, .tmp 5], sh := (.cons (.arr 0) (.cons (.dat .bool) .nil)), obs := [(0, .arr 3 yi)], pins := [] }
noncomputable def D_zq : FD := ⟨A_zq, I_zq, [], Bool × Y1, fun x => F_zq x.1.1.1 x.1.1.2.1 x.1.2.1, fun r => ([.arr 0, .dat .bool r.1], [(0, .arr 3 yi r.2)])⟩
noncomputable def E_zq : Env := envOf [(89, D_zac), (92, D_zh)]
noncomputable def Z_zq : Nat → Nat → List Nat := fun _ _ => []
noncomputable def O_zq : List (Nat × LD) := []
noncomputable def C_zq : Code := (f32.body).getD .skip
noncomputable def T_zv (a1_ : Y1) (a2_ : List Y1) (a3_ : Y1) : Tr (Int × (Bool)) :=
 .c (Bool) (F_zad a1_ a2_ a3_) fun r1_ =>
 .t (!r1_)
 (.l ((0 : Int), false))
 (.c (Int) (F_zn a1_ a2_ a3_) fun r2_ =>
 .l (r2_, true))
noncomputable def F_zv (a1_ : Y1) (a2_ : List Y1) (a3_ : Y1) : Option (Int × (Bool)) := (T_zv a1_ a2_ a3_).ev
noncomputable def A_zv : Sh := (.cons (.agg (.cons (.dat y1) (.cons (.dat y2) .nil))) (.cons (.dat y1) .nil))
noncomputable def I_zv : List (Nat × OSh) := []
noncomputable def K_zv : RetK := { acts := [], res := [.tmp 4, .tmp 5], sh := (.cons (.dat yi) (.cons (.dat .bool) .nil)), obs := [], pins := [] }
noncomputable def D_zv : FD := ⟨A_zv, I_zv, [], Int × (Bool), fun x => F_zv x.1.1.1 x.1.1.2.1 x.1.2.1, fun r => ([.dat yi r.1, .dat .bool r.2], [])⟩
noncomputable def E_zv : Env := envOf [(82, D_zad), (93, D_zn)]
noncomputable def Z_zv : Nat → Nat → List Nat := fun _ _ => []
noncomputable def O_zv : List (Nat × LD) := []
noncomputable def C_zv : Code := (f33.body).getD .skip
noncomputable def S_zav_0 (k : Y1) (v : Int × Int) : Tr ((Int × Int) ⊕ (Int)) :=
 .t (decide (v.2 < ((List.length k : Nat) : Int)))
 (.g (inR v.2 (List.length k)) <|
 .l (.inl ((if v.1 < (List.getD k (Int.toNat v.2) (0 : Int)) then (List.getD k (Int.toNat v.2) (0 : Int)) else v.1), (IntKind.wrap .i64 (v.2 + (1 : Int))))))
 (.l (.inr v.1))
noncomputable def L_zav_0 (k : Y1) (v : Int × Int) : Option (Int) := iter (fun v => (S_zav_0 k v).ev) v
noncomputable def DL_zav_0 : LD := ⟨(yh [0, 3, 4] (.cons (.dat y1) (.cons (.dat yi) (.cons (.dat yi) .nil)))), [(0, (yh [3] (.cons (.dat yi) .nil)))], (yh [] .nil), Y1, Int × (Int), Int, fun k v => ((k, (v.1, (v.2, ()))), ()), fun t => t.1.1, fun t => (t.1.2.1, t.1.2.2.1), S_zav_0, fun _ r => .l (.exit 0 (mkSt ((ys [3] (.cons (.dat yi) .nil))) ((r, ()), ())))⟩
noncomputable def T_zav (a1_ : Y1) : Tr (Int) :=
 .t (decide (((List.length a1_ : Nat) : Int) < (1 : Int)))
 (.f)
 (.g (inR (0 : Int) (List.length a1_)) <|
 .c (Int) (L_zav_0 a1_ ((List.getD a1_ (Int.toNat (0 : Int)) (0 : Int)), (1 : Int))) fun r5_ =>
 .l r5_)
noncomputable def F_zav (a1_ : Y1) : Option (Int) := (T_zav a1_).ev
noncomputable def A_zav : Sh := (.cons (.dat y1) .nil)
noncomputable def I_zav : List (Nat × OSh) := []
noncomputable def K_zav : RetK := { acts := [], res := [.tmp 2], sh := (.cons (.dat yi) .nil), obs := [], pins := [] }
noncomputable def D_zav : FD := ⟨A_zav, I_zav, [], Int, fun x => F_zav x.1.1, fun r => ([.dat yi r], [])⟩
noncomputable def E_zav : Env := envOf []
noncomputable def Z_zav : Nat → Nat → List Nat := fun _ _ => []
noncomputable def O_zav : List (Nat × LD) := [(0, DL_zav_0)]
noncomputable def C_zav : Code := (f130.body).getD .skip
noncomputable def T_zk (a1_ : Y1) (a2_ : List Y1) (a3_ : Y1) : Tr (Int) :=
 .c Y1 (F_zg a1_ a2_ a3_) fun r1_ =>
 .g (decide ((List.length r1_ + List.length ([(0 : Int)] : Y1)) * 8 ≤ 140737488355328)) <|
 .c (Int) (F_zav (r1_ ++ ([(0 : Int)] : Y1))) fun r2_ =>
 .l r2_
noncomputable def F_zk (a1_ : Y1) (a2_ : List Y1) (a3_ : Y1) : Option (Int) := (T_zk a1_ a2_ a3_).ev
noncomputable def A_zk : Sh := (.cons (.agg (.cons (.dat y1) (.cons (.dat y2) .nil))) (.cons (.dat y1) .nil))
noncomputable def I_zk : List (Nat × OSh) := []
noncomputable def K_zk : RetK := { acts := [], res := [.tmp 4], sh := (.cons (.dat yi) .nil), obs := [], pins := [] }
noncomputable def D_zk : FD := ⟨A_zk, I_zk, [], Int, fun x => F_zk x.1.1.1 x.1.1.2.1 x.1.2.1, fun r => ([.dat yi r], [])⟩
noncomputable def E_zk : Env := envOf [(123, D_zg), (130, D_zav)]
noncomputable def Z_zk : Nat → Nat → List Nat := fun _ _ => []
noncomputable def O_zk : List (Nat × LD) := []
noncomputable def C_zk : Code := (f94.body).getD .skip
noncomputable def T_zu (a1_ : Y1) (a2_ : List Y1) (a3_ : Y1) : Tr (Int × (Bool)) :=
 .c (Bool) (F_zad a1_ a2_ a3_) fun r1_ =>
 .t (!r1_)
 (.l ((0 : Int), false))
 (.c (Int) (F_zk a1_ a2_ a3_) fun r2_ =>
 .l (r2_, true))
noncomputable def F_zu (a1_ : Y1) (a2_ : List Y1) (a3_ : Y1) : Option (Int × (Bool)) := (T_zu a1_ a2_ a3_).ev
noncomputable def A_zu : Sh := (.cons (.agg (.cons (.dat y1) (.cons (.dat y2) .nil))) (.cons (.dat y1) .nil))
noncomputable def I_zu : List (Nat × OSh) := []
noncomputable def K_zu : RetK := { acts := [], res := [.tmp 4, .tmp 5], sh := (.cons (.dat yi) (.cons (.dat .bool) .nil)), obs := [], pins := [] }
noncomputable def D_zu : FD := ⟨A_zu, I_zu, [], Int × (Bool), fun x => F_zu x.1.1.1 x.1.1.2.1 x.1.2.1, fun r => ([.dat yi r.1, .dat .bool r.2], [])⟩
noncomputable def E_zu : Env := envOf [(82, D_zad), (94, D_zk)]
noncomputable def Z_zu : Nat → Nat → List Nat := fun _ _ => []
noncomputable def O_zu : List (Nat × LD) := []
noncomputable def C_zu : Code := (f34.body).getD .skip
noncomputable def S_zak_0 (k : Y1 × (Y2 × Y1)) (v : Int × (Y1 × Y1)) : Tr ((Int × (Y1 × Y1)) ⊕ (Y1 × Y1)) :=
 .t (decide (v.1 < ((List.length k.2.1 : Nat) : Int)))
 (.g (decide ((List.length v.2.1 + List.length ([(1 : Int)] : Y1)) * 8 ≤ 140737488355328)) <|
 .g (decide ((List.length v.2.2 + List.length ([(0 : Int)] : Y1)) * 8 ≤ 140737488355328)) <|
 .l (.inl ((IntKind.wrap .i64 (v.1 + (1 : Int))), ((v.2.1 ++ ([(1 : Int)] : Y1)), (v.2.2 ++ ([(0 : Int)] : Y1))))))
 (.l (.inr (v.2.1, v.2.2)))
noncomputable def L_zak_0 (k : Y1 × (Y2 × Y1)) (v : Int × (Y1 × Y1)) : Option (Y1 × Y1) := iter (fun v => (S_zak_0 k v).ev) v
noncomputable def DL_zak_0 : LD := ⟨{ acts := [], S := { slots := [3, 4, 23, 24, 25], sh := (.cons (.box 3 0) (.cons (.arr 2433) (.cons (.arr 137) (.cons (.arr 138) (.cons (.dat yi) .nil))))), obs := [(3, .cells (.cons (.dat y1) (.cons (.dat y2) .nil))), (2433, .arr 3 yi), (137, .arr 3 yi), (138, .arr 3 yi)] } }, [(0, { acts := [], S := { slots := [3, 4, 23, 24], sh := (.cons (.box 3 0) (.cons (.arr 2433) (.cons (.arr 137) (.cons (.arr 138) .nil)))), obs := [(3, .cells (.cons (.dat y1) (.cons (.dat y2) .nil))), (2433, .arr 3 yi), (137, .arr 3 yi), (138, .arr 3 yi)] } })], (yh [] .nil), Y1 × (Y2 × Y1), Int × (Y1 × Y1), Y1 × Y1, fun k v => (((), ((), ((), ((), (v.1, ()))))), ((k.1, (k.2.1, ())), (k.2.2, (v.2.1, (v.2.2, ()))))), fun t => (t.2.1.1, (t.2.1.2.1, t.2.2.1)), fun t => (t.1.2.2.2.2.1, (t.2.2.2.1, t.2.2.2.2.1)), S_zak_0, fun k r => .l (.exit 0 (mkSt ({ slots := [3, 4, 23, 24], sh := (.cons (.box 3 0) (.cons (.arr 2433) (.cons (.arr 137) (.cons (.arr 138) .nil)))), obs := [(3, .cells (.cons (.dat y1) (.cons (.dat y2) .nil))), (2433, .arr 3 yi), (137, .arr 3 yi), (138, .arr 3 yi)] }) (((), ((), ((), ((), ())))), ((k.1, (k.2.1, ())), (k.2.2, (r.1, (r.2, ())))))))⟩
noncomputable def T_zak (a1_ : Y1) : Tr (Bool) :=
 .c (Bool) (F_zal a1_) fun r1_ =>
 .t r1_
 (.l true)
 (.c (Y1 × (Y2 × (Y1 × Y1))) (F_zbr a1_) fun r2_ =>
 .c (Int × (Bool)) (F_zt r2_.1 r2_.2.1 r2_.2.2.1 r2_.2.2.2) fun r3_ =>
 .c (Int × (Bool)) (F_zbt r2_.1 r2_.2.1 r2_.2.2.1 r2_.2.2.2) fun r4_ =>
 .t (r3_.1 != r4_.1)
 (.l false)
 (.t (!(r3_.2 == r4_.2))
 (.l false)
 (.c (Y1 × (Y2 × (Int × Y1))) (F_zbq a1_) fun r5_ =>
 .c (Bool × Y1) (F_zr r5_.1 r5_.2.1 r5_.2.2.1 r5_.2.2.2) fun r6_ =>
 .c (Y1 × (Bool)) (F_zbs r5_.1 r5_.2.1 r5_.2.2.1 r5_.2.2.2) fun r7_ =>
 .t (!(r6_.1 == r7_.2))
 (.l false)
 (.c (Bool) (F_zam r6_.2 r7_.1) fun r8_ =>
 .t (!r8_)
 (.l false)
 (.t r6_.1
 (.c (Int × (Bool)) (F_zt r5_.1 r5_.2.1 r6_.2 r5_.2.2.2) fun r9_ =>
 .c (Bool × Y1) (F_zq r5_.1 r5_.2.1 r5_.2.2.1) fun r10_ =>
 .c (Int × (Bool)) (F_zt r5_.1 r5_.2.1 r10_.2 r5_.2.2.2) fun r11_ =>
 .t (!r9_.2)
 (.l false)
 (.t (!r10_.1)
 (.l false)
 (.t (!r11_.2)
 (.l false)
 (.t (((List.length r6_.2 : Nat) : Int) != r5_.2.2.1)
 (.l false)
 (.t (decide (r11_.1 < r9_.1))
 (.l false)
 (.t (!r3_.2)
 (.l true)
 (.c (Y1 × Y1) (L_zak_0 (r2_.1, (r2_.2.1, r2_.2.2.1)) ((0 : Int), (([] : Y1), ([] : Y1)))) fun r23_ =>
 .t (decide ((0 : Int) < ((List.length r23_.2 : Nat) : Int)))
 (.g (inR (IntKind.wrap .i64 (((List.length r23_.2 : Nat) : Int) - (1 : Int))) (List.length r23_.2)) <|
 .g (decide ((Int.toNat (IntKind.wrap .i64 (((List.length r23_.2 : Nat) : Int) - (1 : Int)))) < List.length r23_.2)) <|
 .c (Int × (Bool)) (F_zt r2_.1 r2_.2.1 r2_.2.2.1 r23_.1) fun r24_ =>
 .c (Int × (Bool)) (F_zt r2_.1 r2_.2.1 r2_.2.2.1 (List.set r23_.2 (Int.toNat (IntKind.wrap .i64 (((List.length r23_.2 : Nat) : Int) - (1 : Int)))) (1 : Int))) fun r25_ =>
 .c (Int × (Bool)) (F_zv r2_.1 r2_.2.1 r2_.2.2.1) fun r26_ =>
 .c (Int × (Bool)) (F_zu r2_.1 r2_.2.1 r2_.2.2.1) fun r27_ =>
 .t r24_.2
 (.t r25_.2
 (.t r26_.2
 (.t r27_.2
 (.t (r24_.1 == r26_.1)
 (.l (r25_.1 == r27_.1))
 (.l false))
 (.l false))
 (.l false))
 (.l false))
 (.l false))
 (.c (Int × (Bool)) (F_zt r2_.1 r2_.2.1 r2_.2.2.1 r23_.1) fun r28_ =>
 .c (Int × (Bool)) (F_zt r2_.1 r2_.2.1 r2_.2.2.1 r23_.2) fun r29_ =>
 .c (Int × (Bool)) (F_zv r2_.1 r2_.2.1 r2_.2.2.1) fun r30_ =>
 .c (Int × (Bool)) (F_zu r2_.1 r2_.2.1 r2_.2.2.1) fun r31_ =>
 .t r28_.2
 (.t r29_.2
 (.t r30_.2
 (.t r31_.2
 (.t (r28_.1 == r30_.1)
 (.l (r29_.1 == r31_.1))
 (.l false))
 (.l false))
 (.l false))
 (.l false))
 (.l false)))))))))
 (.t (!r3_.2)
 (.l true)
 (.c (Y1 × Y1) (L_zak_0 (r2_.1, (r2_.2.1, r2_.2.2.1)) ((0 : Int), (([] : Y1), ([] : Y1)))) fun r32_ =>
 .t (decide ((0 : Int) < ((List.length r32_.2 : Nat) : Int)))
 (.g (inR (IntKind.wrap .i64 (((List.length r32_.2 : Nat) : Int) - (1 : Int))) (List.length r32_.2)) <|
 .g (decide ((Int.toNat (IntKind.wrap .i64 (((List.length r32_.2 : Nat) : Int) - (1 : Int)))) < List.length r32_.2)) <|
 .c (Int × (Bool)) (F_zt r2_.1 r2_.2.1 r2_.2.2.1 r32_.1) fun r33_ =>
 .c (Int × (Bool)) (F_zt r2_.1 r2_.2.1 r2_.2.2.1 (List.set r32_.2 (Int.toNat (IntKind.wrap .i64 (((List.length r32_.2 : Nat) : Int) - (1 : Int)))) (1 : Int))) fun r34_ =>
 .c (Int × (Bool)) (F_zv r2_.1 r2_.2.1 r2_.2.2.1) fun r35_ =>
 .c (Int × (Bool)) (F_zu r2_.1 r2_.2.1 r2_.2.2.1) fun r36_ =>
 .t r33_.2
 (.t r34_.2
 (.t r35_.2
 (.t r36_.2
 (.t (r33_.1 == r35_.1)
 (.l (r34_.1 == r36_.1))
 (.l false))
 (.l false))
 (.l false))
 (.l false))
 (.l false))
 (.c (Int × (Bool)) (F_zt r2_.1 r2_.2.1 r2_.2.2.1 r32_.1) fun r37_ =>
 .c (Int × (Bool)) (F_zt r2_.1 r2_.2.1 r2_.2.2.1 r32_.2) fun r38_ =>
 .c (Int × (Bool)) (F_zv r2_.1 r2_.2.1 r2_.2.2.1) fun r39_ =>
 .c (Int × (Bool)) (F_zu r2_.1 r2_.2.1 r2_.2.2.1) fun r40_ =>
 .t r37_.2
 (.t r38_.2
 (.t r39_.2
 (.t r40_.2
 (.t (r37_.1 == r39_.1)
 (.l (r38_.1 == r40_.1))
 (.l false))
 (.l false))
 (.l false))
 (.l false))
 (.l false)))))))))
noncomputable def F_zak (a1_ : Y1) : Option (Bool) := (T_zak a1_).ev
noncomputable def A_zak : Sh := (.cons (.dat (.slice (.int .u8))) .nil)
noncomputable def I_zak : List (Nat × OSh) := []
noncomputable def K_zak : RetK := { acts := [], res := [.tmp 2], sh := (.cons (.dat .bool) .nil), obs := [], pins := [] }
noncomputable def D_zak : FD := ⟨A_zak, I_zak, [], Bool, fun x => F_zak x.1.1, fun r => ([.dat .bool r], [])⟩
noncomputable def E_zak : Env := envOf [(6, D_zal), (26, D_zbr), (27, D_zt), (28, D_zbt), (29, D_zbq), (30, D_zr), (31, D_zbs), (10, D_zam), (32, D_zq), (33, D_zv), (34, D_zu)]
noncomputable def Z_zak : Nat → Nat → List Nat := fun r i => match look [(10, [(3, [80])])] r with
 | some l => (look l i).getD []
 | none => []
noncomputable def O_zak : List (Nat × LD) := [(0, DL_zak_0)]
noncomputable def C_zak : Code := (f4.body).getD .skip
end Go.Proofs.YtlemejhffpkbkaaGreat
