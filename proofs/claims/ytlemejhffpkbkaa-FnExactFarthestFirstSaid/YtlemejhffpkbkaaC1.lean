import Derived.Test.YtlemejhffpkbkaaC3
import Derived.Test.YtlemejhffpkbkaaProg
namespace Go.Proofs.Ytlemejhffpkbkaa
open Go.Proofs.Try
noncomputable def T_ze (a1_ : Y1) (a2_ : List Y1) : Tr (Int) :=
 .c (Int) (F_zm a2_ a1_) fun r1_ =>
 .l (IntKind.wrap .i64 (0 - r1_))
noncomputable def F_ze (a1_ : Y1) (a2_ : List Y1) : Option (Int) := (T_ze a1_ a2_).ev
noncomputable def A_ze : Sh := (.cons (.dat y1) (.cons (.ptr (.cons (.dat y2) .nil)) .nil))
noncomputable def I_ze : List (Nat × OSh) := []
noncomputable def K_ze : RetK := { acts := [], res := [.tmp 3], sh := (.cons (.dat yi) .nil), obs := [], pins := [] }
noncomputable def D_ze : FD := ⟨A_ze, I_ze, [], Int, fun x => F_ze x.1.1 x.1.2.1.1, fun r => ([.dat yi r], [])⟩
noncomputable def E_ze : Env := envOf [(71, D_zm)]
noncomputable def Z_ze : Nat → Nat → List Nat := fun _ _ => []
noncomputable def O_ze : List (Nat × LD) := []
noncomputable def C_ze : Code := (f74.body).getD .skip
noncomputable def S_zaj_0 (k : Y1 × (Int × Int)) (v : Int) : Tr ((Int) ⊕ ((Unit) ⊕ (Int))) :=
 .t (decide (v < k.2.2))
 (.g (inR v (List.length k.1)) <|
 .t (k.2.1 == (List.getD k.1 (Int.toNat v) (0 : Int)))
 (.l (.inr (.inr v)))
 (.l (.inl (IntKind.wrap .i64 (v + (1 : Int))))))
 (.l (.inr (.inl ())))
noncomputable def L_zaj_0 (k : Y1 × (Int × Int)) (v : Int) : Option ((Unit) ⊕ (Int)) := iter (fun v => (S_zaj_0 k v).ev) v
noncomputable def DL_zaj_0 : LD := ⟨(yh [0, 1, 7, 8] (.cons (.dat y1) (.cons (.dat yi) (.cons (.dat yi) (.cons (.dat yi) .nil))))), [(0, (yh [] .nil))], (yh [4] (.cons (.dat yi) .nil)), Y1 × (Int × Int), Int, (Unit) ⊕ (Int), fun k v => ((k.1, (k.2.1, (k.2.2, (v, ())))), ()), fun t => (t.1.1, (t.1.2.1, t.1.2.2.1)), fun t => t.1.2.2.2.1, S_zaj_0, fun _ r => .s (Unit) (Int) r (fun _ => .l (.exit 0 (mkSt ((ys [] .nil)) ((), ())))) (fun b => .l (.ret (mkSt ((ys [4] (.cons (.dat yi) .nil))) ((b, ()), ()))))⟩
noncomputable def T_zaj (a1_ : Y1) (a2_ : Int) : Tr (Int) :=
 .c ((Unit) ⊕ (Int)) (L_zaj_0 (a1_, (a2_, ((List.length a1_ : Nat) : Int))) (0 : Int)) fun r6_ =>
 .s (Unit) (Int) r6_
 (fun _ => .l (-1 : Int))
 (fun r8_ => .l r8_)
noncomputable def F_zaj (a1_ : Y1) (a2_ : Int) : Option (Int) := (T_zaj a1_ a2_).ev
noncomputable def A_zaj : Sh := (.cons (.dat y1) (.cons (.dat yi) .nil))
noncomputable def I_zaj : List (Nat × OSh) := []
noncomputable def K_zaj : RetK := { acts := [], res := [.tmp 4], sh := (.cons (.dat yi) .nil), obs := [], pins := [] }
noncomputable def D_zaj : FD := ⟨A_zaj, I_zaj, [], Int, fun x => F_zaj x.1.1 x.1.2.1, fun r => ([.dat yi r], [])⟩
noncomputable def E_zaj : Env := envOf []
noncomputable def Z_zaj : Nat → Nat → List Nat := fun _ _ => []
noncomputable def O_zaj : List (Nat × LD) := [(0, DL_zaj_0)]
noncomputable def C_zaj : Code := (f137.body).getD .skip
noncomputable def T_zaf (a1_ : Y1) (a2_ : Int) : Tr (Bool) :=
 .c (Int) (F_zaj a1_ a2_) fun r1_ =>
 .l (decide ((0 : Int) ≤ r1_))
noncomputable def F_zaf (a1_ : Y1) (a2_ : Int) : Option (Bool) := (T_zaf a1_ a2_).ev
noncomputable def A_zaf : Sh := (.cons (.dat y1) (.cons (.dat yi) .nil))
noncomputable def I_zaf : List (Nat × OSh) := []
noncomputable def K_zaf : RetK := { acts := [], res := [.tmp 4], sh := (.cons (.dat .bool) .nil), obs := [], pins := [] }
noncomputable def D_zaf : FD := ⟨A_zaf, I_zaf, [], Bool, fun x => F_zaf x.1.1 x.1.2.1, fun r => ([.dat .bool r], [])⟩
noncomputable def E_zaf : Env := envOf [(137, D_zaj)]
noncomputable def Z_zaf : Nat → Nat → List Nat := fun _ _ => []
noncomputable def O_zaf : List (Nat × LD) := []
noncomputable def C_zaf : Code := (f75.body).getD .skip
noncomputable def S_zd_4 (k : Int × (Int × (Int × (Int × (Int × (Int × (Int × (Y2 × Y1)))))))) (v : Int × Int) : Tr ((Int × Int) ⊕ (Int)) :=
 .t (decide (v.2 < k.2.2.2.2.2.2.1))
 (.g (inR v.2 (List.length k.2.2.2.2.2.2.2.2)) <|
 .g (decide ((Int.toNat v.2) < List.length k.2.2.2.2.2.2.2.2)) <|
 .g (inR k.2.2.2.1 (List.length k.2.2.2.2.2.2.2.1)) <|
 .g (inR (List.getD k.2.2.2.2.2.2.2.2 (Int.toNat v.2) (0 : Int)) (List.length (List.getD k.2.2.2.2.2.2.2.1 (Int.toNat k.2.2.2.1) ([] : Y1)))) <|
 .l (.inl ((if (List.getD (List.getD k.2.2.2.2.2.2.2.1 (Int.toNat k.2.2.2.1) ([] : Y1)) (Int.toNat (List.getD k.2.2.2.2.2.2.2.2 (Int.toNat v.2) (0 : Int))) (0 : Int)) < v.1 then (List.getD (List.getD k.2.2.2.2.2.2.2.1 (Int.toNat k.2.2.2.1) ([] : Y1)) (Int.toNat (List.getD k.2.2.2.2.2.2.2.2 (Int.toNat v.2) (0 : Int))) (0 : Int)) else v.1), (IntKind.wrap .i64 (v.2 + (1 : Int))))))
 (.l (.inr v.1))
noncomputable def L_zd_4 (k : Int × (Int × (Int × (Int × (Int × (Int × (Int × (Y2 × Y1)))))))) (v : Int × Int) : Option (Int) := iter (fun v => (S_zd_4 k v).ev) v
noncomputable def DL_zd_4 : LD := ⟨{ acts := [], S := { slots := [1, 2, 6, 7, 8, 9, 10, 33, 34, 40, 41, 42], sh := (.cons (.dat yi) (.cons (.box 2 0) (.cons (.arr 1728) (.cons (.dat yi) (.cons (.dat yi) (.cons (.dat yi) (.cons (.dat yi) (.cons (.dat yi) (.cons (.dat yi) (.cons (.arr 1728) (.cons (.dat yi) (.cons (.dat yi) .nil)))))))))))), obs := [(2, .cells (.cons (.dat y2) .nil)), (1728, .arr 3 yi)] } }, [(4, { acts := [], S := { slots := [1, 2, 6, 7, 8, 9, 10, 33, 34], sh := (.cons (.dat yi) (.cons (.box 2 0) (.cons (.arr 1728) (.cons (.dat yi) (.cons (.dat yi) (.cons (.dat yi) (.cons (.dat yi) (.cons (.dat yi) (.cons (.dat yi) .nil))))))))), obs := [(2, .cells (.cons (.dat y2) .nil)), (1728, .arr 3 yi)] } })], (yh [] .nil), Int × (Int × (Int × (Int × (Int × (Int × (Int × (Y2 × Y1))))))), Int × (Int), Int, fun k v => ((k.1, ((), ((), (k.2.1, (k.2.2.1, (k.2.2.2.1, (v.1, (k.2.2.2.2.1, (k.2.2.2.2.2.1, ((), (k.2.2.2.2.2.2.1, (v.2, ())))))))))))), ((k.2.2.2.2.2.2.2.1, ()), (k.2.2.2.2.2.2.2.2, ()))), fun t => (t.1.1, (t.1.2.2.2.1, (t.1.2.2.2.2.1, (t.1.2.2.2.2.2.1, (t.1.2.2.2.2.2.2.2.1, (t.1.2.2.2.2.2.2.2.2.1, (t.1.2.2.2.2.2.2.2.2.2.2.1, (t.2.1.1, t.2.2.1)))))))), fun t => (t.1.2.2.2.2.2.2.1, t.1.2.2.2.2.2.2.2.2.2.2.2.1), S_zd_4, fun k r => .l (.exit 4 (mkSt ({ slots := [1, 2, 6, 7, 8, 9, 10, 33, 34], sh := (.cons (.dat yi) (.cons (.box 2 0) (.cons (.arr 1728) (.cons (.dat yi) (.cons (.dat yi) (.cons (.dat yi) (.cons (.dat yi) (.cons (.dat yi) (.cons (.dat yi) .nil))))))))), obs := [(2, .cells (.cons (.dat y2) .nil)), (1728, .arr 3 yi)] }) ((k.1, ((), ((), (k.2.1, (k.2.2.1, (k.2.2.2.1, (r, (k.2.2.2.2.1, (k.2.2.2.2.2.1, ()))))))))), ((k.2.2.2.2.2.2.2.1, ()), (k.2.2.2.2.2.2.2.2, ())))))⟩
noncomputable def S_zd_2 (k : Int × (Int × (Y2 × Y1))) (v : Int × (Int × Int)) : Tr ((Int × (Int × Int)) ⊕ (Int)) :=
 .t (decide (v.2.2 < k.2.1))
 (.c (Bool) (F_zaf k.2.2.2 v.2.2) fun r17_ =>
 .t r17_
 (.l (.inl (v.1, (v.2.1, (IntKind.wrap .i64 (v.2.2 + (1 : Int)))))))
 (.c (Int) (L_zd_4 (k.1, (v.1, (v.2.1, (v.2.2, (k.2.1, (v.2.2, (((List.length k.2.2.2 : Nat) : Int), (k.2.2.1, k.2.2.2)))))))) ((99 : Int), (0 : Int))) fun r38_ =>
 .t (decide (v.2.1 < r38_))
 (.l (.inl (v.2.2, (r38_, (IntKind.wrap .i64 (v.2.2 + (1 : Int)))))))
 (.l (.inl (v.1, (v.2.1, (IntKind.wrap .i64 (v.2.2 + (1 : Int)))))))))
 (.l (.inr v.1))
noncomputable def L_zd_2 (k : Int × (Int × (Y2 × Y1))) (v : Int × (Int × Int)) : Option (Int) := iter (fun v => (S_zd_2 k v).ev) v
noncomputable def DL_zd_2 : LD := ⟨{ acts := [], S := { slots := [1, 2, 6, 7, 8, 33, 34], sh := (.cons (.dat yi) (.cons (.box 2 0) (.cons (.arr 1728) (.cons (.dat yi) (.cons (.dat yi) (.cons (.dat yi) (.cons (.dat yi) .nil))))))), obs := [(2, .cells (.cons (.dat y2) .nil)), (1728, .arr 3 yi)] } }, [(2, { acts := [], S := { slots := [1, 2, 6, 7], sh := (.cons (.dat yi) (.cons (.box 2 0) (.cons (.arr 1728) (.cons (.dat yi) .nil)))), obs := [(2, .cells (.cons (.dat y2) .nil)), (1728, .arr 3 yi)] } })], (yh [] .nil), Int × (Int × (Y2 × Y1)), Int × (Int × Int), Int, fun k v => ((k.1, ((), ((), (v.1, (v.2.1, (k.2.1, (v.2.2, ()))))))), ((k.2.2.1, ()), (k.2.2.2, ()))), fun t => (t.1.1, (t.1.2.2.2.2.2.1, (t.2.1.1, t.2.2.1))), fun t => (t.1.2.2.2.1, (t.1.2.2.2.2.1, t.1.2.2.2.2.2.2.1)), S_zd_2, fun k r => .l (.exit 2 (mkSt ({ slots := [1, 2, 6, 7], sh := (.cons (.dat yi) (.cons (.box 2 0) (.cons (.arr 1728) (.cons (.dat yi) .nil)))), obs := [(2, .cells (.cons (.dat y2) .nil)), (1728, .arr 3 yi)] }) ((k.1, ((), ((), (r, ())))), ((k.2.2.1, ()), (k.2.2.2, ())))))⟩
noncomputable def S_zd_0 (k : Int × Y2) (v : Y1) : Tr (Y1 ⊕ Y1) :=
 .t (decide (((List.length v : Nat) : Int) < k.1))
 (.c (Int) (L_zd_2 (k.1, (((List.length k.2 : Nat) : Int), (k.2, v))) ((-1 : Int), ((-1 : Int), (0 : Int)))) fun r43_ =>
 .g (decide ((List.length v + List.length ([r43_] : Y1)) * 8 ≤ 140737488355328)) <|
 .l (.inl (v ++ ([r43_] : Y1))))
 (.l (.inr v))
noncomputable def L_zd_0 (k : Int × Y2) (v : Y1) : Option Y1 := iter (fun v => (S_zd_0 k v).ev) v
noncomputable def DL_zd_0 : LD := ⟨{ acts := [], S := { slots := [1, 2, 6], sh := (.cons (.dat yi) (.cons (.box 2 0) (.cons (.arr 1728) .nil))), obs := [(2, .cells (.cons (.dat y2) .nil)), (1728, .arr 3 yi)] } }, [(0, { acts := [], S := { slots := [6], sh := (.cons (.arr 1728) .nil), obs := [(1728, .arr 3 yi)] } })], (yh [] .nil), Int × Y2, Y1, Y1, fun k v => ((k.1, ((), ((), ()))), ((k.2, ()), (v, ()))), fun t => (t.1.1, t.2.1.1), fun t => t.2.2.1, S_zd_0, fun _ r => .l (.exit 0 (mkSt ({ slots := [6], sh := (.cons (.arr 1728) .nil), obs := [(1728, .arr 3 yi)] }) (((), ()), (r, ()))))⟩
noncomputable def T_zd (a1_ : List Y1) (a2_ : Int) : Tr (Bool × Y1) :=
 .c (Bool) (F_zf a1_) fun r1_ =>
 .t (!r1_)
 (.l (false, ([] : Y1)))
 (.c (Bool) (F_zk a2_ (2 : Int) ((List.length a1_ : Nat) : Int)) fun r2_ =>
 .t (!r2_)
 (.l (false, ([] : Y1)))
 (.c ((List Nat) × Y2) (F_zo ((List.length a1_ : Nat) : Int) (2 : Int)) fun r3_ =>
 .c Y1 (F_zn (fun h4_ => Option.bind (F_ze h4_.1 a1_) fun y5_ => some y5_) r3_) fun r6_ =>
 .c Y1 (L_zd_0 (a2_, a1_) r6_) fun r45_ =>
 .l (true, r45_)))
noncomputable def F_zd (a1_ : List Y1) (a2_ : Int) : Option (Bool × Y1) := (T_zd a1_ a2_).ev
noncomputable def A_zd : Sh := (.cons (.dat y2) (.cons (.dat yi) .nil))
noncomputable def I_zd : List (Nat × OSh) := []
noncomputable def K_zd : RetK := { acts := [.own 4 0 3 yi, .ren 1728 0], res := [.tmp 4, .tmp 5], sh := (.cons (.arr 0) (.cons (.dat .bool) .nil)), obs := [(0, .arr 3 yi)], pins := [] }
noncomputable def D_zd : FD := ⟨A_zd, I_zd, [], Bool × Y1, fun x => F_zd x.1.1 x.1.2.1, fun r => ([.arr 0, .dat .bool r.1], [(0, .arr 3 yi r.2)])⟩
noncomputable def E_zd : Env := envOf [(66, D_zf), (67, D_zk), (69, D_zo), (68, D_zn), (75, D_zaf), (68, D_zn), (74, D_ze)]
noncomputable def Z_zd : Nat → Nat → List Nat := fun _ _ => []
noncomputable def O_zd : List (Nat × LD) := [(4, DL_zd_4), (2, DL_zd_2), (0, DL_zd_0)]
noncomputable def C_zd : Code := (f22.body).getD .skip
noncomputable def T_zr (a1_ : List Y1) (a2_ : Int) : Tr (Bool) :=
 .c (Int) (F_zy a1_ (1048576 : Int)) fun r1_ =>
 .t (decide (r1_ < (0 : Int)))
 (.l true)
 (.c Y2 (F_zaa a1_) fun r2_ =>
 .c (Bool × Y1) (F_zav r2_ a2_) fun r3_ =>
 .c Y2 (F_zaa a1_) fun r4_ =>
 .c (Bool × Y1) (F_zd r4_ a2_) fun r5_ =>
 .c (Bool) (F_zs r5_.2 r3_.2) fun r6_ =>
 .t (!r6_)
 (.l false)
 (.t (!(r5_.1 == r3_.1))
 (.l false)
 (.c Y2 (F_zaa a1_) fun r7_ =>
 .c (Bool) (F_zt r4_ r7_) fun r8_ =>
 .t (!r8_)
 (.l false)
 (.c (Int × Y2) (F_zw (1 : Int) r4_) fun r9_ =>
 .t (decide (r9_.1 < (0 : Int)))
 (.l false)
 (.c (Bool) (F_zs r5_.2 r3_.2) fun r10_ =>
 .t (!r10_)
 (.l false)
 (.t (!(r5_.1 == r3_.1))
 (.l false)
 (.c (Int × Y1) (F_zv (1 : Int) r5_.2) fun r11_ =>
 .c (Int) (F_zu r11_.2 (1 : Int)) fun r12_ =>
 .t (decide (r12_ < (0 : Int)))
 (.l false)
 (.t (r12_ != r11_.1)
 (.l false)
 (.c Y2 (F_zaa a1_) fun r13_ =>
 .c (Bool × Y1) (F_zd r13_ a2_) fun r14_ =>
 .c (Bool) (F_zs r14_.2 r3_.2) fun r15_ =>
 .t (!r15_)
 (.l false)
 (.t (!(r14_.1 == r3_.1))
 (.l false)
 (.c (Int) (F_zu r11_.2 (1 : Int)) fun r16_ =>
 .t (decide (r16_ < (0 : Int)))
 (.l false)
 (.t (r16_ != r11_.1)
 (.l false)
 (.l true)))))))))))))
noncomputable def F_zr (a1_ : List Y1) (a2_ : Int) : Option (Bool) := (T_zr a1_ a2_).ev
noncomputable def A_zr : Sh := (.cons (.dat y2) (.cons (.dat yi) .nil))
noncomputable def I_zr : List (Nat × OSh) := []
noncomputable def K_zr : RetK := { acts := [], res := [.tmp 4], sh := (.cons (.dat .bool) .nil), obs := [], pins := [] }
noncomputable def D_zr : FD := ⟨A_zr, I_zr, [], Bool, fun x => F_zr x.1.1 x.1.2.1, fun r => ([.dat .bool r], [])⟩
noncomputable def E_zr : Env := envOf [(12, D_zy), (14, D_zaa), (21, D_zav), (22, D_zd), (16, D_zs), (17, D_zt), (18, D_zw), (19, D_zv), (20, D_zu)]
noncomputable def Z_zr : Nat → Nat → List Nat := fun _ _ => []
noncomputable def O_zr : List (Nat × LD) := []
noncomputable def C_zr : Code := (f4.body).getD .skip
end Go.Proofs.Ytlemejhffpkbkaa
