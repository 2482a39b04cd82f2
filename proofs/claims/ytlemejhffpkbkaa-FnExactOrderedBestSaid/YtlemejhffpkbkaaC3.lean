import Derived.Test.YtlemejhffpkbkaaB37
import Derived.Test.YtlemejhffpkbkaaProg
namespace Go.Proofs.Ytlemejhffpkbkaa
open Go.Proofs.Try
abbrev yi : Ty := .int .i64
abbrev y1 : Ty := .slice yi
abbrev y2 : Ty := .slice y1
abbrev y3 : Ty := .slice y2
abbrev Y1 : Type := List Int
abbrev Y2 : Type := List Y1
abbrev Y3 : Type := List Y2
abbrev yh (l : List Nat) (s : Sh) : Keep := { acts := [], S := { slots := l, sh := s, obs := [] } }
abbrev ys (l : List Nat) (s : Sh) : SSh := { slots := l, sh := s, obs := [] }
theorem yn {α : Type _} {p : α → Prop} : ∀ x, x ∈ ([] : List α) → p x := fun _ h => absurd h List.not_mem_nil
theorem yc {α : Type _} {p : α → Prop} {a : α} {l : List α} (h : p a ∧ ∀ x, x ∈ l → p x) : ∀ x, x ∈ a :: l → p x := List.forall_mem_cons.2 h
noncomputable def tabl : List (Nat × TD) := [(3, .sc yi), (4, .sc .bool), (5, .sc (.int .u8)), (9, .sc .str), (22, .sl 24 y1 24), (24, .sl 3 yi 8), (33, .st (.pair y1 y2) [(24, y1), (22, y2)]), (36, .st (.pair y1 y2) [(24, y1), (22, y2)]), (89, .sc (.int .u64)), (111, .sc (.int .u64)), (176, .sc (.int .u64))]
noncomputable def tt : Nat → TD := fun i => match look tabl i with
 | some d => d
 | none => .no
noncomputable def T_zah (a1_ : Y1) (a2_ : Int) : Tr (Int) :=
 .t (decide ((IntKind.wrap .i64 (a2_ - ((List.length a1_ : Nat) : Int))) < (0 : Int)))
 (.l (-1 : Int))
 (.l (IntKind.wrap .i64 (a2_ - ((List.length a1_ : Nat) : Int))))
noncomputable def F_zah (a1_ : Y1) (a2_ : Int) : Option (Int) := (T_zah a1_ a2_).ev
noncomputable def A_zah : Sh := (.cons (.dat y1) (.cons (.dat yi) .nil))
noncomputable def I_zah : List (Nat × OSh) := []
noncomputable def K_zah : RetK := { acts := [], res := [.tmp 4], sh := (.cons (.dat yi) .nil), obs := [], pins := [] }
noncomputable def D_zah : FD := ⟨A_zah, I_zah, [], Int, fun x => F_zah x.1.1 x.1.2.1, fun r => ([.dat yi r], [])⟩
noncomputable def E_zah : Env := envOf []
noncomputable def Z_zah : Nat → Nat → List Nat := fun _ _ => []
noncomputable def O_zah : List (Nat × LD) := []
noncomputable def C_zah : Code := (f62.body).getD .skip
noncomputable def S_zai_0 (k : List Y1) (v : Int × Int) : Tr ((Int × Int) ⊕ ((Int) ⊕ (Unit))) :=
 .t (decide (v.2 < ((List.length k : Nat) : Int)))
 (.g (inR v.2 (List.length k)) <|
 .c (Int) (F_zah (List.getD k (Int.toNat v.2) ([] : Y1)) v.1) fun r4_ =>
 .t (decide (r4_ < (0 : Int)))
 (.l (.inr (.inr ())))
 (.l (.inl (r4_, (IntKind.wrap .i64 (v.2 + (1 : Int)))))))
 (.l (.inr (.inl v.1)))
noncomputable def L_zai_0 (k : List Y1) (v : Int × Int) : Option ((Int) ⊕ (Unit)) := iter (fun v => (S_zai_0 k v).ev) v
noncomputable def DL_zai_0 : LD := ⟨(yh [0, 1, 5] (.cons (.dat y2) (.cons (.dat yi) (.cons (.dat yi) .nil)))), [(0, (yh [1] (.cons (.dat yi) .nil)))], (yh [4] (.cons (.dat yi) .nil)), List Y1, Int × (Int), (Int) ⊕ (Unit), fun k v => ((k, (v.1, (v.2, ()))), ()), fun t => t.1.1, fun t => (t.1.2.1, t.1.2.2.1), S_zai_0, fun _ r => .s (Int) (Unit) r (fun a => .l (.exit 0 (mkSt ((ys [1] (.cons (.dat yi) .nil))) ((a, ()), ())))) (fun _ => .l (.ret (mkSt ((ys [4] (.cons (.dat yi) .nil))) (((-1 : Int), ()), ()))))⟩
noncomputable def T_zai (a1_ : List Y1) (a2_ : Int) : Tr (Int) :=
 .t (decide ((IntKind.wrap .i64 (a2_ - ((List.length a1_ : Nat) : Int))) < (0 : Int)))
 (.l (-1 : Int))
 (.c ((Int) ⊕ (Unit)) (L_zai_0 a1_ ((IntKind.wrap .i64 (a2_ - ((List.length a1_ : Nat) : Int))), (0 : Int))) fun r7_ =>
 .s (Int) (Unit) r7_
 (fun r8_ => .l r8_)
 (fun _ => .l (-1 : Int)))
noncomputable def F_zai (a1_ : List Y1) (a2_ : Int) : Option (Int) := (T_zai a1_ a2_).ev
noncomputable def A_zai : Sh := (.cons (.dat y2) (.cons (.dat yi) .nil))
noncomputable def I_zai : List (Nat × OSh) := []
noncomputable def K_zai : RetK := { acts := [], res := [.tmp 4], sh := (.cons (.dat yi) .nil), obs := [], pins := [] }
noncomputable def D_zai : FD := ⟨A_zai, I_zai, [], Int, fun x => F_zai x.1.1 x.1.2.1, fun r => ([.dat yi r], [])⟩
noncomputable def E_zai : Env := envOf [(62, D_zah)]
noncomputable def Z_zai : Nat → Nat → List Nat := fun _ _ => []
noncomputable def O_zai : List (Nat × LD) := [(0, DL_zai_0)]
noncomputable def C_zai : Code := (f12.body).getD .skip
noncomputable def S_zak_0 (k : Y1) (v : Int × Y1) : Tr ((Int × Y1) ⊕ Y1) :=
 .t (decide (v.1 < ((List.length k : Nat) : Int)))
 (.g (inR v.1 (List.length k)) <|
 .g (inR v.1 (List.length v.2)) <|
 .g (decide ((Int.toNat v.1) < List.length v.2)) <|
 .l (.inl ((IntKind.wrap .i64 (v.1 + (1 : Int))), (List.set v.2 (Int.toNat v.1) (List.getD k (Int.toNat v.1) (0 : Int))))))
 (.l (.inr v.2))
noncomputable def L_zak_0 (k : Y1) (v : Int × Y1) : Option Y1 := iter (fun v => (S_zak_0 k v).ev) v
noncomputable def DL_zak_0 : LD := ⟨{ acts := [], S := { slots := [0, 3, 4], sh := (.cons (.dat y1) (.cons (.arr 7) (.cons (.dat yi) .nil))), obs := [(7, .arr 3 yi)] } }, [(0, { acts := [], S := { slots := [3], sh := (.cons (.arr 7) .nil), obs := [(7, .arr 3 yi)] } })], (yh [] .nil), Y1, Int × Y1, Y1, fun k v => ((k, ((), (v.1, ()))), (v.2, ())), fun t => t.1.1, fun t => (t.1.2.2.1, t.2.1), S_zak_0, fun _ r => .l (.exit 0 (mkSt ({ slots := [3], sh := (.cons (.arr 7) .nil), obs := [(7, .arr 3 yi)] }) (((), ()), (r, ()))))⟩
noncomputable def T_zak (a1_ : Y1) : Tr Y1 :=
 .g (decide ((0 : Int) ≤ ((List.length a1_ : Nat) : Int)) && decide (((List.length a1_ : Nat) : Int) ≤ ((List.length a1_ : Nat) : Int)) && decide (((8 : Nat) : Int) * ((List.length a1_ : Nat) : Int) ≤ 281474976710656)) <|
 .c Y1 (L_zak_0 a1_ ((0 : Int), (List.replicate (Int.toNat ((List.length a1_ : Nat) : Int)) (0 : Int)))) fun r5_ =>
 .l r5_
noncomputable def F_zak (a1_ : Y1) : Option Y1 := (T_zak a1_).ev
noncomputable def A_zak : Sh := (.cons (.dat y1) .nil)
noncomputable def I_zak : List (Nat × OSh) := []
noncomputable def K_zak : RetK := { acts := [.ren 7 0], res := [.tmp 2], sh := (.cons (.arr 0) .nil), obs := [(0, .arr 3 yi)], pins := [] }
noncomputable def D_zak : FD := ⟨A_zak, I_zak, [], Y1, fun x => F_zak x.1.1, fun r => ([.arr 0], [(0, .arr 3 yi r)])⟩
noncomputable def E_zak : Env := envOf []
noncomputable def Z_zak : Nat → Nat → List Nat := fun _ _ => []
noncomputable def O_zak : List (Nat × LD) := [(0, DL_zak_0)]
noncomputable def C_zak : Code := (f26.body).getD .skip
noncomputable def S_zal_0 (k : List Y1) (v : Int × Y2) : Tr ((Int × Y2) ⊕ Y2) :=
 .t (decide (v.1 < ((List.length k : Nat) : Int)))
 (.g (inR v.1 (List.length k)) <|
 .c Y1 (F_zak (List.getD k (Int.toNat v.1) ([] : Y1))) fun r4_ =>
 .g (inR v.1 (List.length v.2)) <|
 .g (decide ((Int.toNat v.1) < List.length v.2)) <|
 .l (.inl ((IntKind.wrap .i64 (v.1 + (1 : Int))), (List.set v.2 (Int.toNat v.1) r4_))))
 (.l (.inr v.2))
noncomputable def L_zal_0 (k : List Y1) (v : Int × Y2) : Option Y2 := iter (fun v => (S_zal_0 k v).ev) v
noncomputable def DL_zal_0 : LD := ⟨{ acts := [], S := { slots := [0, 3, 4], sh := (.cons (.dat y2) (.cons (.arr 7) (.cons (.dat yi) .nil))), obs := [(7, .rows 24 3 yi)] } }, [(0, { acts := [], S := { slots := [3], sh := (.cons (.arr 7) .nil), obs := [(7, .rows 24 3 yi)] } })], (yh [] .nil), List Y1, Int × Y2, List Y1, fun k v => ((k, ((), (v.1, ()))), (v.2, ())), fun t => t.1.1, fun t => (t.1.2.2.1, t.2.1), S_zal_0, fun _ r => .l (.exit 0 (mkSt ({ slots := [3], sh := (.cons (.arr 7) .nil), obs := [(7, .rows 24 3 yi)] }) (((), ()), (r, ()))))⟩
noncomputable def T_zal (a1_ : List Y1) : Tr Y2 :=
 .g (decide ((0 : Int) ≤ ((List.length a1_ : Nat) : Int)) && decide (((List.length a1_ : Nat) : Int) ≤ ((List.length a1_ : Nat) : Int)) && decide (((24 : Nat) : Int) * ((List.length a1_ : Nat) : Int) ≤ 281474976710656)) <|
 .c Y2 (L_zal_0 a1_ ((0 : Int), (List.replicate (Int.toNat ((List.length a1_ : Nat) : Int)) ([] : Y1)))) fun r6_ =>
 .l r6_
noncomputable def F_zal (a1_ : List Y1) : Option Y2 := (T_zal a1_).ev
noncomputable def A_zal : Sh := (.cons (.dat y2) .nil)
noncomputable def I_zal : List (Nat × OSh) := []
noncomputable def K_zal : RetK := { acts := [.ren 7 0], res := [.tmp 2], sh := (.cons (.arr 0) .nil), obs := [(0, .rows 24 3 yi)], pins := [] }
noncomputable def D_zal : FD := ⟨A_zal, I_zal, [], List Y1, fun x => F_zal x.1.1, fun r => ([.arr 0], [(0, .rows 24 3 yi r none)])⟩
noncomputable def E_zal : Env := envOf [(26, D_zak)]
noncomputable def Z_zal : Nat → Nat → List Nat := fun r i => match look [(1, [(2, [1000000])])] r with
 | some l => (look l i).getD []
 | none => []
noncomputable def O_zal : List (Nat × LD) := [(0, DL_zal_0)]
noncomputable def C_zal : Code := (f14.body).getD .skip
noncomputable def T_zbv (a1_ : Int) (a2_ : Int) (a3_ : Int) : Tr (Bool) :=
 .t (decide (a2_ ≤ a1_))
 (.l (decide (a1_ ≤ a3_)))
 (.l false)
noncomputable def F_zbv (a1_ : Int) (a2_ : Int) (a3_ : Int) : Option (Bool) := (T_zbv a1_ a2_ a3_).ev
noncomputable def A_zbv : Sh := (.cons (.dat yi) (.cons (.dat yi) (.cons (.dat yi) .nil)))
noncomputable def I_zbv : List (Nat × OSh) := []
noncomputable def K_zbv : RetK := { acts := [], res := [.tmp 6], sh := (.cons (.dat .bool) .nil), obs := [], pins := [] }
noncomputable def D_zbv : FD := ⟨A_zbv, I_zbv, [], Bool, fun x => F_zbv x.1.1 x.1.2.1 x.1.2.2.1, fun r => ([.dat .bool r], [])⟩
noncomputable def E_zbv : Env := envOf []
noncomputable def Z_zbv : Nat → Nat → List Nat := fun _ _ => []
noncomputable def O_zbv : List (Nat × LD) := []
noncomputable def C_zbv : Code := (f84.body).getD .skip
noncomputable def S_zca_0 (k : Y1 × (Int × Int)) (v : Int) : Tr ((Int) ⊕ ((Unit) ⊕ (Unit))) :=
 .t (decide (v < ((List.length k.1 : Nat) : Int)))
 (.g (inR v (List.length k.1)) <|
 .c (Bool) (F_zbv (List.getD k.1 (Int.toNat v) (0 : Int)) (0 : Int) k.2.2) fun r5_ =>
 .t (!r5_)
 (.l (.inr (.inr ())))
 (.l (.inl (IntKind.wrap .i64 (v + (1 : Int))))))
 (.l (.inr (.inl ())))
noncomputable def L_zca_0 (k : Y1 × (Int × Int)) (v : Int) : Option ((Unit) ⊕ (Unit)) := iter (fun v => (S_zca_0 k v).ev) v
noncomputable def DL_zca_0 : LD := ⟨(yh [0, 1, 2, 7] (.cons (.dat y1) (.cons (.dat yi) (.cons (.dat yi) (.cons (.dat yi) .nil))))), [(0, (yh [0, 1] (.cons (.dat y1) (.cons (.dat yi) .nil))))], (yh [6] (.cons (.dat .bool) .nil)), Y1 × (Int × Int), Int, (Unit) ⊕ (Unit), fun k v => ((k.1, (k.2.1, (k.2.2, (v, ())))), ()), fun t => (t.1.1, (t.1.2.1, t.1.2.2.1)), fun t => t.1.2.2.2.1, S_zca_0, fun k r => .s (Unit) (Unit) r (fun _ => .l (.exit 0 (mkSt ((ys [0, 1] (.cons (.dat y1) (.cons (.dat yi) .nil)))) ((k.1, (k.2.1, ())), ())))) (fun _ => .l (.ret (mkSt ((ys [6] (.cons (.dat .bool) .nil))) ((false, ()), ()))))⟩
noncomputable def T_zca (a1_ : Y1) (a2_ : Int) (a3_ : Int) : Tr (Bool) :=
 .c ((Unit) ⊕ (Unit)) (L_zca_0 (a1_, (a2_, a3_)) (0 : Int)) fun r9_ =>
 .s (Unit) (Unit) r9_
 (fun _ => .l (((List.length a1_ : Nat) : Int) == a2_))
 (fun _ => .l false)
noncomputable def F_zca (a1_ : Y1) (a2_ : Int) (a3_ : Int) : Option (Bool) := (T_zca a1_ a2_ a3_).ev
noncomputable def A_zca : Sh := (.cons (.dat y1) (.cons (.dat yi) (.cons (.dat yi) .nil)))
noncomputable def I_zca : List (Nat × OSh) := []
noncomputable def K_zca : RetK := { acts := [], res := [.tmp 6], sh := (.cons (.dat .bool) .nil), obs := [], pins := [] }
noncomputable def D_zca : FD := ⟨A_zca, I_zca, [], Bool, fun x => F_zca x.1.1 x.1.2.1 x.1.2.2.1, fun r => ([.dat .bool r], [])⟩
noncomputable def E_zca : Env := envOf [(84, D_zbv)]
noncomputable def Z_zca : Nat → Nat → List Nat := fun _ _ => []
noncomputable def O_zca : List (Nat × LD) := [(0, DL_zca_0)]
noncomputable def C_zca : Code := (f77.body).getD .skip
noncomputable def S_zbx_0 (k : Int × Int) (v : Int × Y1) : Tr ((Int × Y1) ⊕ Y1) :=
 .t (decide (v.1 < k.1))
 (.g (decide ((0 : Int) ≤ v.1)) <|
 .t ((IntKind.wrap .i64 (BitVec.toNat ((BitVec.ofInt (IntKind.bits .i64) (Int.fdiv k.2 (2 ^ (min (Int.toNat v.1) (IntKind.bits .i64))))) &&& (BitVec.ofInt (IntKind.bits .i64) (1 : Int))))) == (1 : Int))
 (.g (decide ((List.length v.2 + List.length ([v.1] : Y1)) * 8 ≤ 140737488355328)) <|
 .l (.inl ((IntKind.wrap .i64 (v.1 + (1 : Int))), (v.2 ++ ([v.1] : Y1)))))
 (.l (.inl ((IntKind.wrap .i64 (v.1 + (1 : Int))), v.2))))
 (.l (.inr v.2))
noncomputable def L_zbx_0 (k : Int × Int) (v : Int × Y1) : Option Y1 := iter (fun v => (S_zbx_0 k v).ev) v
noncomputable def DL_zbx_0 : LD := ⟨{ acts := [], S := { slots := [0, 1, 5, 6], sh := (.cons (.dat yi) (.cons (.dat yi) (.cons (.arr 7) (.cons (.dat yi) .nil)))), obs := [(7, .arr 3 yi)] } }, [(0, { acts := [], S := { slots := [5], sh := (.cons (.arr 7) .nil), obs := [(7, .arr 3 yi)] } })], (yh [] .nil), Int × (Int), Int × Y1, Y1, fun k v => ((k.1, (k.2, ((), (v.1, ())))), (v.2, ())), fun t => (t.1.1, t.1.2.1), fun t => (t.1.2.2.2.1, t.2.1), S_zbx_0, fun _ r => .l (.exit 0 (mkSt ({ slots := [5], sh := (.cons (.arr 7) .nil), obs := [(7, .arr 3 yi)] }) (((), ()), (r, ()))))⟩
noncomputable def T_zbx (a1_ : Int) (a2_ : Int) : Tr Y1 :=
 .c Y1 (L_zbx_0 (a1_, a2_) ((0 : Int), ([] : Y1))) fun r6_ =>
 .l r6_
noncomputable def F_zbx (a1_ : Int) (a2_ : Int) : Option Y1 := (T_zbx a1_ a2_).ev
noncomputable def A_zbx : Sh := (.cons (.dat yi) (.cons (.dat yi) .nil))
noncomputable def I_zbx : List (Nat × OSh) := []
noncomputable def K_zbx : RetK := { acts := [.ren 7 0], res := [.tmp 4], sh := (.cons (.arr 0) .nil), obs := [(0, .arr 3 yi)], pins := [] }
noncomputable def D_zbx : FD := ⟨A_zbx, I_zbx, [], Y1, fun x => F_zbx x.1.1 x.1.2.1, fun r => ([.arr 0], [(0, .arr 3 yi r)])⟩
noncomputable def E_zbx : Env := envOf []
noncomputable def Z_zbx : Nat → Nat → List Nat := fun _ _ => []
noncomputable def O_zbx : List (Nat × LD) := [(0, DL_zbx_0)]
noncomputable def C_zbx : Code := (f130.body).getD .skip
noncomputable def S_zbw_0 (k : Y1 × Y1) (v : Int) : Tr ((Int) ⊕ ((Unit) ⊕ (Bool))) :=
 .t (decide (v < ((List.length k.1 : Nat) : Int)))
 (.g (inR v (List.length k.1)) <|
 .g (inR v (List.length k.2)) <|
 .t ((List.getD k.1 (Int.toNat v) (0 : Int)) != (List.getD k.2 (Int.toNat v) (0 : Int)))
 (.g (inR v (List.length k.1)) <|
 .g (inR v (List.length k.2)) <|
 .l (.inr (.inr (decide ((List.getD k.1 (Int.toNat v) (0 : Int)) < (List.getD k.2 (Int.toNat v) (0 : Int)))))))
 (.l (.inl (IntKind.wrap .i64 (v + (1 : Int))))))
 (.l (.inr (.inl ())))
noncomputable def L_zbw_0 (k : Y1 × Y1) (v : Int) : Option ((Unit) ⊕ (Bool)) := iter (fun v => (S_zbw_0 k v).ev) v
noncomputable def DL_zbw_0 : LD := ⟨(yh [0, 1, 5] (.cons (.dat y1) (.cons (.dat y1) (.cons (.dat yi) .nil)))), [(0, (yh [] .nil))], (yh [4] (.cons (.dat .bool) .nil)), Y1 × Y1, Int, (Unit) ⊕ (Bool), fun k v => ((k.1, (k.2, (v, ()))), ()), fun t => (t.1.1, t.1.2.1), fun t => t.1.2.2.1, S_zbw_0, fun _ r => .s (Unit) (Bool) r (fun _ => .l (.exit 0 (mkSt ((ys [] .nil)) ((), ())))) (fun b => .l (.ret (mkSt ((ys [4] (.cons (.dat .bool) .nil))) ((b, ()), ()))))⟩
noncomputable def T_zbw (a1_ : Y1) (a2_ : Y1) : Tr (Bool) :=
 .t (((List.length a1_ : Nat) : Int) != ((List.length a2_ : Nat) : Int))
 (.l (decide (((List.length a1_ : Nat) : Int) < ((List.length a2_ : Nat) : Int))))
 (.c ((Unit) ⊕ (Bool)) (L_zbw_0 (a1_, a2_) (0 : Int)) fun r5_ =>
 .s (Unit) (Bool) r5_
 (fun _ => .l false)
 (fun r7_ => .l r7_))
noncomputable def F_zbw (a1_ : Y1) (a2_ : Y1) : Option (Bool) := (T_zbw a1_ a2_).ev
noncomputable def A_zbw : Sh := (.cons (.dat y1) (.cons (.dat y1) .nil))
noncomputable def I_zbw : List (Nat × OSh) := []
noncomputable def K_zbw : RetK := { acts := [], res := [.tmp 4], sh := (.cons (.dat .bool) .nil), obs := [], pins := [] }
noncomputable def D_zbw : FD := ⟨A_zbw, I_zbw, [], Bool, fun x => F_zbw x.1.1 x.1.2.1, fun r => ([.dat .bool r], [])⟩
noncomputable def E_zbw : Env := envOf []
noncomputable def Z_zbw : Nat → Nat → List Nat := fun _ _ => []
noncomputable def O_zbw : List (Nat × LD) := [(0, DL_zbw_0)]
noncomputable def C_zbw : Code := (f131.body).getD .skip
noncomputable def S_zcb_2 (k : Int × (Y2 × (Int × Y1))) (v : Int) : Tr ((Int) ⊕ (Int)) :=
 .t (decide ((0 : Int) < v))
 (.g (inR (IntKind.wrap .i64 (v - (1 : Int))) (List.length k.2.1)) <|
 .c (Bool) (F_zbw k.2.2.2 (List.getD k.2.1 (Int.toNat (IntKind.wrap .i64 (v - (1 : Int)))) ([] : Y1))) fun r26_ =>
 .t r26_
 (.l (.inl (IntKind.wrap .i64 (v - (1 : Int)))))
 (.l (.inr v)))
 (.l (.inr v))
noncomputable def L_zcb_2 (k : Int × (Y2 × (Int × Y1))) (v : Int) : Option (Int) := iter (fun v => (S_zcb_2 k v).ev) v
noncomputable def DL_zcb_2 : LD := ⟨{ acts := [], S := { slots := [0, 3, 4, 5, 6], sh := (.cons (.dat yi) (.cons (.dat y2) (.cons (.dat yi) (.cons (.arr 1024) (.cons (.dat yi) .nil))))), obs := [(1024, .arr 3 yi)] } }, [(2, { acts := [], S := { slots := [0, 3, 4, 5, 6], sh := (.cons (.dat yi) (.cons (.dat y2) (.cons (.dat yi) (.cons (.arr 1024) (.cons (.dat yi) .nil))))), obs := [(1024, .arr 3 yi)] } })], (yh [] .nil), Int × (Y2 × (Int × Y1)), Int, Int, fun k v => ((k.1, (k.2.1, (k.2.2.1, ((), (v, ()))))), (k.2.2.2, ())), fun t => (t.1.1, (t.1.2.1, (t.1.2.2.1, t.2.1))), fun t => t.1.2.2.2.2.1, S_zcb_2, fun k r => .l (.exit 2 (mkSt ({ slots := [0, 3, 4, 5, 6], sh := (.cons (.dat yi) (.cons (.dat y2) (.cons (.dat yi) (.cons (.arr 1024) (.cons (.dat yi) .nil))))), obs := [(1024, .arr 3 yi)] }) ((k.1, (k.2.1, (k.2.2.1, ((), (r, ()))))), (k.2.2.2, ()))))⟩
noncomputable def S_zcb_0 (k : Int) (v : Y2 × Int) : Tr ((Y2 × Int) ⊕ Y2) :=
 .g (decide ((0 : Int) ≤ k)) <|
 .t (decide (v.2 < (IntKind.wrap .i64 ((1 : Int) * 2 ^ (min (Int.toNat k) (IntKind.bits .i64))))))
 (.c Y1 (F_zbx k v.2) fun r20_ =>
 .c (Int) (L_zcb_2 (k, (v.1, (v.2, r20_))) ((List.length v.1 : Nat) : Int)) fun r32_ =>
 .g (decide ((0 : Int) ≤ r32_) && decide (r32_ ≤ ((List.length v.1 : Nat) : Int))) <|
 .g (decide ((List.length ([] : List Y1) + List.length (List.drop 0 (List.take (Int.toNat r32_) v.1))) * 24 ≤ 140737488355328)) <|
 .g (decide ((List.length (([] : List Y1) ++ (List.drop 0 (List.take (Int.toNat r32_) v.1))) + List.length ([r20_] : List Y1)) * 24 ≤ 140737488355328)) <|
 .g (decide ((0 : Int) ≤ r32_) && decide (r32_ ≤ ((List.length v.1 : Nat) : Int))) <|
 .g (decide ((List.length ((([] : List Y1) ++ (List.drop 0 (List.take (Int.toNat r32_) v.1))) ++ ([r20_] : List Y1)) + List.length (List.drop (Int.toNat r32_) (List.take (List.length v.1) v.1))) * 24 ≤ 140737488355328)) <|
 .l (.inl ((((([] : List Y1) ++ (List.drop 0 (List.take (Int.toNat r32_) v.1))) ++ ([r20_] : List Y1)) ++ (List.drop (Int.toNat r32_) (List.take (List.length v.1) v.1))), (IntKind.wrap .i64 (v.2 + (1 : Int))))))
 (.l (.inr v.1))
noncomputable def L_zcb_0 (k : Int) (v : Y2 × Int) : Option Y2 := iter (fun v => (S_zcb_0 k v).ev) v
noncomputable def DL_zcb_0 : LD := ⟨{ acts := [.fz 7, .fz 32], S := (ys [0, 3, 4] (.cons (.dat yi) (.cons (.dat y2) (.cons (.dat yi) .nil)))) }, [(0, (yh [3] (.cons (.dat y2) .nil)))], (yh [] .nil), Int, Y2 × (Int), List Y1, fun k v => ((k, (v.1, (v.2, ()))), ()), fun t => t.1.1, fun t => (t.1.2.1, t.1.2.2.1), S_zcb_0, fun _ r => .l (.exit 0 (mkSt ((ys [3] (.cons (.dat y2) .nil))) ((r, ()), ())))⟩
noncomputable def T_zcb (a1_ : Int) : Tr Y2 :=
 .c Y2 (L_zcb_0 a1_ (([] : List Y1), (1 : Int))) fun r34_ =>
 .l r34_
noncomputable def F_zcb (a1_ : Int) : Option Y2 := (T_zcb a1_).ev
noncomputable def A_zcb : Sh := (.cons (.dat yi) .nil)
noncomputable def I_zcb : List (Nat × OSh) := []
noncomputable def K_zcb : RetK := { acts := [], res := [.tmp 2], sh := (.cons (.dat y2) .nil), obs := [], pins := [] }
noncomputable def D_zcb : FD := ⟨A_zcb, I_zcb, [], List Y1, fun x => F_zcb x.1.1, fun r => ([.dat y2 r], [])⟩
noncomputable def E_zcb : Env := envOf [(130, D_zbx), (131, D_zbw)]
noncomputable def Z_zcb : Nat → Nat → List Nat := fun r i => match look [(8, [(0, [3, 5])])] r with
 | some l => (look l i).getD []
 | none => []
noncomputable def O_zcb : List (Nat × LD) := [(2, DL_zcb_2), (0, DL_zcb_0)]
noncomputable def C_zcb : Code := (f64.body).getD .skip
noncomputable def S_zat_0 (k : Y1 × (((HL [yi] → Option (Bool))) × Int)) (v : Int) : Tr ((Int) ⊕ ((Unit) ⊕ (Int))) :=
 .t (decide (v < k.2.2))
 (.g (inR v (List.length k.1)) <|
 .c (Bool) (k.2.1 ((List.getD k.1 (Int.toNat v) (0 : Int)), ())) fun r5_ =>
 .t r5_
 (.l (.inr (.inr v)))
 (.l (.inl (IntKind.wrap .i64 (v + (1 : Int))))))
 (.l (.inr (.inl ())))
noncomputable def L_zat_0 (k : Y1 × (((HL [yi] → Option (Bool))) × Int)) (v : Int) : Option ((Unit) ⊕ (Int)) := iter (fun v => (S_zat_0 k v).ev) v
noncomputable def DL_zat_0 : LD := ⟨(yh [0, 1, 7, 8] (.cons (.dat y1) (.cons (.clo [yi] .bool) (.cons (.dat yi) (.cons (.dat yi) .nil))))), [(0, (yh [] .nil))], (yh [4] (.cons (.dat yi) .nil)), Y1 × (((HL [yi] → Option (Bool))) × Int), Int, (Unit) ⊕ (Int), fun k v => ((k.1, (k.2.1, (k.2.2, (v, ())))), ()), fun t => (t.1.1, (t.1.2.1, t.1.2.2.1)), fun t => t.1.2.2.2.1, S_zat_0, fun _ r => .s (Unit) (Int) r (fun _ => .l (.exit 0 (mkSt ((ys [] .nil)) ((), ())))) (fun b => .l (.ret (mkSt ((ys [4] (.cons (.dat yi) .nil))) ((b, ()), ()))))⟩
noncomputable def T_zat (a1_ : Y1) (a2_ : (HL [yi] → Option (Bool))) : Tr (Int) :=
 .c ((Unit) ⊕ (Int)) (L_zat_0 (a1_, (a2_, ((List.length a1_ : Nat) : Int))) (0 : Int)) fun r7_ =>
 .s (Unit) (Int) r7_
 (fun _ => .l (-1 : Int))
 (fun r9_ => .l r9_)
noncomputable def F_zat (a1_ : Y1) (a2_ : (HL [yi] → Option (Bool))) : Option (Int) := (T_zat a1_ a2_).ev
noncomputable def A_zat : Sh := (.cons (.dat y1) (.cons (.clo [yi] .bool) .nil))
noncomputable def I_zat : List (Nat × OSh) := []
noncomputable def K_zat : RetK := { acts := [], res := [.tmp 4], sh := (.cons (.dat yi) .nil), obs := [], pins := [] }
noncomputable def D_zat : FD := ⟨A_zat, I_zat, [], Int, fun x => F_zat x.1.1 x.1.2.1, fun r => ([.dat yi r], [])⟩
noncomputable def E_zat : Env := envOf []
noncomputable def Z_zat : Nat → Nat → List Nat := fun _ _ => []
noncomputable def O_zat : List (Nat × LD) := [(0, DL_zat_0)]
noncomputable def C_zat : Code := (f152.body).getD .skip
noncomputable def T_zaq (a1_ : Y1) (a2_ : (HL [yi] → Option (Bool))) : Tr (Bool) :=
 .c (Int) (F_zat a1_ a2_) fun r1_ =>
 .l (decide ((0 : Int) ≤ r1_))
noncomputable def F_zaq (a1_ : Y1) (a2_ : (HL [yi] → Option (Bool))) : Option (Bool) := (T_zaq a1_ a2_).ev
noncomputable def A_zaq : Sh := (.cons (.dat y1) (.cons (.clo [yi] .bool) .nil))
noncomputable def I_zaq : List (Nat × OSh) := []
noncomputable def K_zaq : RetK := { acts := [], res := [.tmp 4], sh := (.cons (.dat .bool) .nil), obs := [], pins := [] }
noncomputable def D_zaq : FD := ⟨A_zaq, I_zaq, [], Bool, fun x => F_zaq x.1.1 x.1.2.1, fun r => ([.dat .bool r], [])⟩
noncomputable def E_zaq : Env := envOf [(152, D_zat)]
noncomputable def Z_zaq : Nat → Nat → List Nat := fun _ _ => []
noncomputable def O_zaq : List (Nat × LD) := []
noncomputable def C_zaq : Code := (f99.body).getD .skip
noncomputable def T_zr (a1_ : Int) (a2_ : Int) (a3_ : Int) : Tr (Bool) :=
 .t (decide (a2_ ≤ a1_))
 (.l (decide (a1_ ≤ a3_)))
 (.l false)
noncomputable def F_zr (a1_ : Int) (a2_ : Int) (a3_ : Int) : Option (Bool) := (T_zr a1_ a2_ a3_).ev
noncomputable def A_zr : Sh := (.cons (.dat yi) (.cons (.dat yi) (.cons (.dat yi) .nil)))
noncomputable def I_zr : List (Nat × OSh) := []
noncomputable def K_zr : RetK := { acts := [], res := [.tmp 6], sh := (.cons (.dat .bool) .nil), obs := [], pins := [] }
noncomputable def D_zr : FD := ⟨A_zr, I_zr, [], Bool, fun x => F_zr x.1.1 x.1.2.1 x.1.2.2.1, fun r => ([.dat .bool r], [])⟩
noncomputable def E_zr : Env := envOf []
noncomputable def Z_zr : Nat → Nat → List Nat := fun _ _ => []
noncomputable def O_zr : List (Nat × LD) := []
noncomputable def C_zr : Code := (f67.body).getD .skip
noncomputable def T_zo (a1_ : Int) (a2_ : Int) (a3_ : Int) : Tr (Bool) :=
 .c (Bool) (F_zr a1_ a2_ a3_) fun r1_ =>
 .l (!r1_)
noncomputable def F_zo (a1_ : Int) (a2_ : Int) (a3_ : Int) : Option (Bool) := (T_zo a1_ a2_ a3_).ev
noncomputable def A_zo : Sh := (.cons (.dat yi) (.cons (.ptr (.cons (.dat yi) .nil)) (.cons (.ptr (.cons (.dat yi) .nil)) .nil)))
noncomputable def I_zo : List (Nat × OSh) := []
noncomputable def K_zo : RetK := { acts := [], res := [.tmp 4], sh := (.cons (.dat .bool) .nil), obs := [], pins := [] }
noncomputable def D_zo : FD := ⟨A_zo, I_zo, [], Bool, fun x => F_zo x.1.1 x.1.2.1.1 x.1.2.2.1.1, fun r => ([.dat .bool r], [])⟩
noncomputable def E_zo : Env := envOf [(67, D_zr)]
noncomputable def Z_zo : Nat → Nat → List Nat := fun _ _ => []
noncomputable def O_zo : List (Nat × LD) := []
noncomputable def C_zo : Code := (f178.body).getD .skip
noncomputable def T_zn (a1_ : Y1) (a2_ : Int) (a3_ : Int) : Tr (Bool) :=
 .c (Bool) (F_zaq a1_ (fun h1_ => Option.bind (F_zo h1_.1 a2_ a3_) fun y2_ => some y2_)) fun r3_ =>
 .l (!r3_)
noncomputable def F_zn (a1_ : Y1) (a2_ : Int) (a3_ : Int) : Option (Bool) := (T_zn a1_ a2_ a3_).ev
noncomputable def A_zn : Sh := (.cons (.dat y1) (.cons (.dat yi) (.cons (.dat yi) .nil)))
noncomputable def I_zn : List (Nat × OSh) := []
noncomputable def K_zn : RetK := { acts := [], res := [.tmp 6], sh := (.cons (.dat .bool) .nil), obs := [], pins := [] }
noncomputable def D_zn : FD := ⟨A_zn, I_zn, [], Bool, fun x => F_zn x.1.1 x.1.2.1 x.1.2.2.1, fun r => ([.dat .bool r], [])⟩
noncomputable def E_zn : Env := envOf [(99, D_zaq), (99, D_zaq), (178, D_zo)]
noncomputable def Z_zn : Nat → Nat → List Nat := fun _ _ => []
noncomputable def O_zn : List (Nat × LD) := []
noncomputable def C_zn : Code := (f133.body).getD .skip
noncomputable def T_zp (a1_ : Int) (a2_ : Int) : Tr (Bool) :=
 .g (decide ((0 : Int) ≤ a2_)) <|
 .l ((IntKind.wrap .u64 (BitVec.toNat ((BitVec.ofInt (IntKind.bits .u64) (Int.fdiv a1_ (2 ^ (min (Int.toNat a2_) (IntKind.bits .u64))))) &&& (BitVec.ofInt (IntKind.bits .u64) (1 : Int))))) == (1 : Int))
noncomputable def F_zp (a1_ : Int) (a2_ : Int) : Option (Bool) := (T_zp a1_ a2_).ev
noncomputable def A_zp : Sh := (.cons (.dat (.int .u64)) (.cons (.dat yi) .nil))
noncomputable def I_zp : List (Nat × OSh) := []
noncomputable def K_zp : RetK := { acts := [], res := [.tmp 4], sh := (.cons (.dat .bool) .nil), obs := [], pins := [] }
noncomputable def D_zp : FD := ⟨A_zp, I_zp, [], Bool, fun x => F_zp x.1.1 x.1.2.1, fun r => ([.dat .bool r], [])⟩
noncomputable def E_zp : Env := envOf []
noncomputable def Z_zp : Nat → Nat → List Nat := fun _ _ => []
noncomputable def O_zp : List (Nat × LD) := []
noncomputable def C_zp : Code := (f202.body).getD .skip
noncomputable def S_zq_0 (k : Int) (v : Int × Y1) : Tr ((Int × Y1) ⊕ Y1) :=
 .g (decide ((0 : Int) ≤ v.1)) <|
 .t (decide ((0 : Int) < (Int.fdiv k (2 ^ (min (Int.toNat v.1) (IntKind.bits .u64))))))
 (.c (Bool) (F_zp k v.1) fun r4_ =>
 .t r4_
 (.g (decide ((List.length v.2 + List.length ([v.1] : Y1)) * 8 ≤ 140737488355328)) <|
 .l (.inl ((IntKind.wrap .i64 (v.1 + (1 : Int))), (v.2 ++ ([v.1] : Y1)))))
 (.l (.inl ((IntKind.wrap .i64 (v.1 + (1 : Int))), v.2))))
 (.l (.inr v.2))
noncomputable def L_zq_0 (k : Int) (v : Int × Y1) : Option Y1 := iter (fun v => (S_zq_0 k v).ev) v
noncomputable def DL_zq_0 : LD := ⟨{ acts := [], S := { slots := [0, 3, 4], sh := (.cons (.dat (.int .u64)) (.cons (.arr 5) (.cons (.dat yi) .nil))), obs := [(5, .arr 3 yi)] } }, [(0, { acts := [], S := { slots := [3], sh := (.cons (.arr 5) .nil), obs := [(5, .arr 3 yi)] } })], (yh [] .nil), Int, Int × Y1, Y1, fun k v => ((k, ((), (v.1, ()))), (v.2, ())), fun t => t.1.1, fun t => (t.1.2.2.1, t.2.1), S_zq_0, fun _ r => .l (.exit 0 (mkSt ({ slots := [3], sh := (.cons (.arr 5) .nil), obs := [(5, .arr 3 yi)] }) (((), ()), (r, ()))))⟩
noncomputable def T_zq (a1_ : Int) : Tr Y1 :=
 .c Y1 (L_zq_0 a1_ ((0 : Int), ([] : Y1))) fun r6_ =>
 .l r6_
noncomputable def F_zq (a1_ : Int) : Option Y1 := (T_zq a1_).ev
noncomputable def A_zq : Sh := (.cons (.dat (.int .u64)) .nil)
noncomputable def I_zq : List (Nat × OSh) := []
noncomputable def K_zq : RetK := { acts := [.ren 5 0], res := [.tmp 2], sh := (.cons (.arr 0) .nil), obs := [(0, .arr 3 yi)], pins := [] }
noncomputable def D_zq : FD := ⟨A_zq, I_zq, [], Y1, fun x => F_zq x.1.1, fun r => ([.arr 0], [(0, .arr 3 yi r)])⟩
noncomputable def E_zq : Env := envOf [(202, D_zp)]
noncomputable def Z_zq : Nat → Nat → List Nat := fun _ _ => []
noncomputable def O_zq : List (Nat × LD) := [(0, DL_zq_0)]
noncomputable def C_zq : Code := (f180.body).getD .skip
noncomputable def T_zan (a1_ : Int) : Tr (Int) :=
 .t (decide ((4294967296 : Int) ≤ a1_))
 (.g (decide ((0 : Int) ≤ (32 : Int))) <|
 .t (decide ((65536 : Int) ≤ (Int.fdiv a1_ (2 ^ (min (Int.toNat (32 : Int)) (IntKind.bits .u64))))))
 (.g (decide ((0 : Int) ≤ (16 : Int))) <|
 .t (decide ((256 : Int) ≤ (Int.fdiv (Int.fdiv a1_ (2 ^ (min (Int.toNat (32 : Int)) (IntKind.bits .u64)))) (2 ^ (min (Int.toNat (16 : Int)) (IntKind.bits .u64))))))
 (.g (decide ((0 : Int) ≤ (8 : Int))) <|
 .g (inR (IntKind.wrap .u8 (Int.fdiv (Int.fdiv (Int.fdiv a1_ (2 ^ (min (Int.toNat (32 : Int)) (IntKind.bits .u64)))) (2 ^ (min (Int.toNat (16 : Int)) (IntKind.bits .u64)))) (2 ^ (min (Int.toNat (8 : Int)) (IntKind.bits .u64))))) (List.length ([0, 1, 2, 2, 3, 3, 3, 3, 4, 4, 4, 4, 4, 4, 4, 4, 5, 5, 5, 5, 5, 5, 5, 5, 5, 5, 5, 5, 5, 5, 5, 5, 6, 6, 6, 6, 6, 6, 6, 6, 6, 6, 6, 6, 6, 6, 6, 6, 6, 6, 6, 6, 6, 6, 6, 6, 6, 6, 6, 6, 6, 6, 6, 6, 7, 7, 7, 7, 7, 7, 7, 7, 7, 7, 7, 7, 7, 7, 7, 7, 7, 7, 7, 7, 7, 7, 7, 7, 7, 7, 7, 7, 7, 7, 7, 7, 7, 7, 7, 7, 7, 7, 7, 7, 7, 7, 7, 7, 7, 7, 7, 7, 7, 7, 7, 7, 7, 7, 7, 7, 7, 7, 7, 7, 7, 7, 7, 7, 8, 8, 8, 8, 8, 8, 8, 8, 8, 8, 8, 8, 8, 8, 8, 8, 8, 8, 8, 8, 8, 8, 8, 8, 8, 8, 8, 8, 8, 8, 8, 8, 8, 8, 8, 8, 8, 8, 8, 8, 8, 8, 8, 8, 8, 8, 8, 8, 8, 8, 8, 8, 8, 8, 8, 8, 8, 8, 8, 8, 8, 8, 8, 8, 8, 8, 8, 8, 8, 8, 8, 8, 8, 8, 8, 8, 8, 8, 8, 8, 8, 8, 8, 8, 8, 8, 8, 8, 8, 8, 8, 8, 8, 8, 8, 8, 8, 8, 8, 8, 8, 8, 8, 8, 8, 8, 8, 8, 8, 8, 8, 8, 8, 8, 8, 8, 8, 8, 8, 8, 8, 8, 8, 8, 8, 8, 8, 8] : List UInt8))) <|
 .l (IntKind.wrap .i64 ((IntKind.wrap .i64 ((IntKind.wrap .i64 ((32 : Int) + (16 : Int))) + (8 : Int))) + (IntKind.wrap .i64 ((UInt8.toNat (List.getD ([0, 1, 2, 2, 3, 3, 3, 3, 4, 4, 4, 4, 4, 4, 4, 4, 5, 5, 5, 5, 5, 5, 5, 5, 5, 5, 5, 5, 5, 5, 5, 5, 6, 6, 6, 6, 6, 6, 6, 6, 6, 6, 6, 6, 6, 6, 6, 6, 6, 6, 6, 6, 6, 6, 6, 6, 6, 6, 6, 6, 6, 6, 6, 6, 7, 7, 7, 7, 7, 7, 7, 7, 7, 7, 7, 7, 7, 7, 7, 7, 7, 7, 7, 7, 7, 7, 7, 7, 7, 7, 7, 7, 7, 7, 7, 7, 7, 7, 7, 7, 7, 7, 7, 7, 7, 7, 7, 7, 7, 7, 7, 7, 7, 7, 7, 7, 7, 7, 7, 7, 7, 7, 7, 7, 7, 7, 7, 7, 8, 8, 8, 8, 8, 8, 8, 8, 8, 8, 8, 8, 8, 8, 8, 8, 8, 8, 8, 8, 8, 8, 8, 8, 8, 8, 8, 8, 8, 8, 8, 8, 8, 8, 8, 8, 8, 8, 8, 8, 8, 8, 8, 8, 8, 8, 8, 8, 8, 8, 8, 8, 8, 8, 8, 8, 8, 8, 8, 8, 8, 8, 8, 8, 8, 8, 8, 8, 8, 8, 8, 8, 8, 8, 8, 8, 8, 8, 8, 8, 8, 8, 8, 8, 8, 8, 8, 8, 8, 8, 8, 8, 8, 8, 8, 8, 8, 8, 8, 8, 8, 8, 8, 8, 8, 8, 8, 8, 8, 8, 8, 8, 8, 8, 8, 8, 8, 8, 8, 8, 8, 8, 8, 8, 8, 8, 8, 8] : List UInt8) (Int.toNat (IntKind.wrap .u8 (Int.fdiv (Int.fdiv (Int.fdiv a1_ (2 ^ (min (Int.toNat (32 : Int)) (IntKind.bits .u64)))) (2 ^ (min (Int.toNat (16 : Int)) (IntKind.bits .u64)))) (2 ^ (min (Int.toNat (8 : Int)) (IntKind.bits .u64)))))) 0) : Nat) : Int)))))
 (.g (inR (IntKind.wrap .u8 (Int.fdiv (Int.fdiv a1_ (2 ^ (min (Int.toNat (32 : Int)) (IntKind.bits .u64)))) (2 ^ (min (Int.toNat (16 : Int)) (IntKind.bits .u64))))) (List.length ([0, 1, 2, 2, 3, 3, 3, 3, 4, 4, 4, 4, 4, 4, 4, 4, 5, 5, 5, 5, 5, 5, 5, 5, 5, 5, 5, 5, 5, 5, 5, 5, 6, 6, 6, 6, 6, 6, 6, 6, 6, 6, 6, 6, 6, 6, 6, 6, 6, 6, 6, 6, 6, 6, 6, 6, 6, 6, 6, 6, 6, 6, 6, 6, 7, 7, 7, 7, 7, 7, 7, 7, 7, 7, 7, 7, 7, 7, 7, 7, 7, 7, 7, 7, 7, 7, 7, 7, 7, 7, 7, 7, 7, 7, 7, 7, 7, 7, 7, 7, 7, 7, 7, 7, 7, 7, 7, 7, 7, 7, 7, 7, 7, 7, 7, 7, 7, 7, 7, 7, 7, 7, 7, 7, 7, 7, 7, 7, 8, 8, 8, 8, 8, 8, 8, 8, 8, 8, 8, 8, 8, 8, 8, 8, 8, 8, 8, 8, 8, 8, 8, 8, 8, 8, 8, 8, 8, 8, 8, 8, 8, 8, 8, 8, 8, 8, 8, 8, 8, 8, 8, 8, 8, 8, 8, 8, 8, 8, 8, 8, 8, 8, 8, 8, 8, 8, 8, 8, 8, 8, 8, 8, 8, 8, 8, 8, 8, 8, 8, 8, 8, 8, 8, 8, 8, 8, 8, 8, 8, 8, 8, 8, 8, 8, 8, 8, 8, 8, 8, 8, 8, 8, 8, 8, 8, 8, 8, 8, 8, 8, 8, 8, 8, 8, 8, 8, 8, 8, 8, 8, 8, 8, 8, 8, 8, 8, 8, 8, 8, 8, 8, 8, 8, 8, 8, 8] : List UInt8))) <|
 .l (IntKind.wrap .i64 ((IntKind.wrap .i64 ((32 : Int) + (16 : Int))) + (IntKind.wrap .i64 ((UInt8.toNat (List.getD ([0, 1, 2, 2, 3, 3, 3, 3, 4, 4, 4, 4, 4, 4, 4, 4, 5, 5, 5, 5, 5, 5, 5, 5, 5, 5, 5, 5, 5, 5, 5, 5, 6, 6, 6, 6, 6, 6, 6, 6, 6, 6, 6, 6, 6, 6, 6, 6, 6, 6, 6, 6, 6, 6, 6, 6, 6, 6, 6, 6, 6, 6, 6, 6, 7, 7, 7, 7, 7, 7, 7, 7, 7, 7, 7, 7, 7, 7, 7, 7, 7, 7, 7, 7, 7, 7, 7, 7, 7, 7, 7, 7, 7, 7, 7, 7, 7, 7, 7, 7, 7, 7, 7, 7, 7, 7, 7, 7, 7, 7, 7, 7, 7, 7, 7, 7, 7, 7, 7, 7, 7, 7, 7, 7, 7, 7, 7, 7, 8, 8, 8, 8, 8, 8, 8, 8, 8, 8, 8, 8, 8, 8, 8, 8, 8, 8, 8, 8, 8, 8, 8, 8, 8, 8, 8, 8, 8, 8, 8, 8, 8, 8, 8, 8, 8, 8, 8, 8, 8, 8, 8, 8, 8, 8, 8, 8, 8, 8, 8, 8, 8, 8, 8, 8, 8, 8, 8, 8, 8, 8, 8, 8, 8, 8, 8, 8, 8, 8, 8, 8, 8, 8, 8, 8, 8, 8, 8, 8, 8, 8, 8, 8, 8, 8, 8, 8, 8, 8, 8, 8, 8, 8, 8, 8, 8, 8, 8, 8, 8, 8, 8, 8, 8, 8, 8, 8, 8, 8, 8, 8, 8, 8, 8, 8, 8, 8, 8, 8, 8, 8, 8, 8, 8, 8, 8, 8] : List UInt8) (Int.toNat (IntKind.wrap .u8 (Int.fdiv (Int.fdiv a1_ (2 ^ (min (Int.toNat (32 : Int)) (IntKind.bits .u64)))) (2 ^ (min (Int.toNat (16 : Int)) (IntKind.bits .u64)))))) 0) : Nat) : Int))))))
 (.t (decide ((256 : Int) ≤ (Int.fdiv a1_ (2 ^ (min (Int.toNat (32 : Int)) (IntKind.bits .u64))))))
 (.g (decide ((0 : Int) ≤ (8 : Int))) <|
 .g (inR (IntKind.wrap .u8 (Int.fdiv (Int.fdiv a1_ (2 ^ (min (Int.toNat (32 : Int)) (IntKind.bits .u64)))) (2 ^ (min (Int.toNat (8 : Int)) (IntKind.bits .u64))))) (List.length ([0, 1, 2, 2, 3, 3, 3, 3, 4, 4, 4, 4, 4, 4, 4, 4, 5, 5, 5, 5, 5, 5, 5, 5, 5, 5, 5, 5, 5, 5, 5, 5, 6, 6, 6, 6, 6, 6, 6, 6, 6, 6, 6, 6, 6, 6, 6, 6, 6, 6, 6, 6, 6, 6, 6, 6, 6, 6, 6, 6, 6, 6, 6, 6, 7, 7, 7, 7, 7, 7, 7, 7, 7, 7, 7, 7, 7, 7, 7, 7, 7, 7, 7, 7, 7, 7, 7, 7, 7, 7, 7, 7, 7, 7, 7, 7, 7, 7, 7, 7, 7, 7, 7, 7, 7, 7, 7, 7, 7, 7, 7, 7, 7, 7, 7, 7, 7, 7, 7, 7, 7, 7, 7, 7, 7, 7, 7, 7, 8, 8, 8, 8, 8, 8, 8, 8, 8, 8, 8, 8, 8, 8, 8, 8, 8, 8, 8, 8, 8, 8, 8, 8, 8, 8, 8, 8, 8, 8, 8, 8, 8, 8, 8, 8, 8, 8, 8, 8, 8, 8, 8, 8, 8, 8, 8, 8, 8, 8, 8, 8, 8, 8, 8, 8, 8, 8, 8, 8, 8, 8, 8, 8, 8, 8, 8, 8, 8, 8, 8, 8, 8, 8, 8, 8, 8, 8, 8, 8, 8, 8, 8, 8, 8, 8, 8, 8, 8, 8, 8, 8, 8, 8, 8, 8, 8, 8, 8, 8, 8, 8, 8, 8, 8, 8, 8, 8, 8, 8, 8, 8, 8, 8, 8, 8, 8, 8, 8, 8, 8, 8, 8, 8, 8, 8, 8, 8] : List UInt8))) <|
 .l (IntKind.wrap .i64 ((IntKind.wrap .i64 ((32 : Int) + (8 : Int))) + (IntKind.wrap .i64 ((UInt8.toNat (List.getD ([0, 1, 2, 2, 3, 3, 3, 3, 4, 4, 4, 4, 4, 4, 4, 4, 5, 5, 5, 5, 5, 5, 5, 5, 5, 5, 5, 5, 5, 5, 5, 5, 6, 6, 6, 6, 6, 6, 6, 6, 6, 6, 6, 6, 6, 6, 6, 6, 6, 6, 6, 6, 6, 6, 6, 6, 6, 6, 6, 6, 6, 6, 6, 6, 7, 7, 7, 7, 7, 7, 7, 7, 7, 7, 7, 7, 7, 7, 7, 7, 7, 7, 7, 7, 7, 7, 7, 7, 7, 7, 7, 7, 7, 7, 7, 7, 7, 7, 7, 7, 7, 7, 7, 7, 7, 7, 7, 7, 7, 7, 7, 7, 7, 7, 7, 7, 7, 7, 7, 7, 7, 7, 7, 7, 7, 7, 7, 7, 8, 8, 8, 8, 8, 8, 8, 8, 8, 8, 8, 8, 8, 8, 8, 8, 8, 8, 8, 8, 8, 8, 8, 8, 8, 8, 8, 8, 8, 8, 8, 8, 8, 8, 8, 8, 8, 8, 8, 8, 8, 8, 8, 8, 8, 8, 8, 8, 8, 8, 8, 8, 8, 8, 8, 8, 8, 8, 8, 8, 8, 8, 8, 8, 8, 8, 8, 8, 8, 8, 8, 8, 8, 8, 8, 8, 8, 8, 8, 8, 8, 8, 8, 8, 8, 8, 8, 8, 8, 8, 8, 8, 8, 8, 8, 8, 8, 8, 8, 8, 8, 8, 8, 8, 8, 8, 8, 8, 8, 8, 8, 8, 8, 8, 8, 8, 8, 8, 8, 8, 8, 8, 8, 8, 8, 8, 8, 8] : List UInt8) (Int.toNat (IntKind.wrap .u8 (Int.fdiv (Int.fdiv a1_ (2 ^ (min (Int.toNat (32 : Int)) (IntKind.bits .u64)))) (2 ^ (min (Int.toNat (8 : Int)) (IntKind.bits .u64)))))) 0) : Nat) : Int)))))
 (.g (inR (IntKind.wrap .u8 (Int.fdiv a1_ (2 ^ (min (Int.toNat (32 : Int)) (IntKind.bits .u64))))) (List.length ([0, 1, 2, 2, 3, 3, 3, 3, 4, 4, 4, 4, 4, 4, 4, 4, 5, 5, 5, 5, 5, 5, 5, 5, 5, 5, 5, 5, 5, 5, 5, 5, 6, 6, 6, 6, 6, 6, 6, 6, 6, 6, 6, 6, 6, 6, 6, 6, 6, 6, 6, 6, 6, 6, 6, 6, 6, 6, 6, 6, 6, 6, 6, 6, 7, 7, 7, 7, 7, 7, 7, 7, 7, 7, 7, 7, 7, 7, 7, 7, 7, 7, 7, 7, 7, 7, 7, 7, 7, 7, 7, 7, 7, 7, 7, 7, 7, 7, 7, 7, 7, 7, 7, 7, 7, 7, 7, 7, 7, 7, 7, 7, 7, 7, 7, 7, 7, 7, 7, 7, 7, 7, 7, 7, 7, 7, 7, 7, 8, 8, 8, 8, 8, 8, 8, 8, 8, 8, 8, 8, 8, 8, 8, 8, 8, 8, 8, 8, 8, 8, 8, 8, 8, 8, 8, 8, 8, 8, 8, 8, 8, 8, 8, 8, 8, 8, 8, 8, 8, 8, 8, 8, 8, 8, 8, 8, 8, 8, 8, 8, 8, 8, 8, 8, 8, 8, 8, 8, 8, 8, 8, 8, 8, 8, 8, 8, 8, 8, 8, 8, 8, 8, 8, 8, 8, 8, 8, 8, 8, 8, 8, 8, 8, 8, 8, 8, 8, 8, 8, 8, 8, 8, 8, 8, 8, 8, 8, 8, 8, 8, 8, 8, 8, 8, 8, 8, 8, 8, 8, 8, 8, 8, 8, 8, 8, 8, 8, 8, 8, 8, 8, 8, 8, 8, 8, 8] : List UInt8))) <|
 .l (IntKind.wrap .i64 ((32 : Int) + (IntKind.wrap .i64 ((UInt8.toNat (List.getD ([0, 1, 2, 2, 3, 3, 3, 3, 4, 4, 4, 4, 4, 4, 4, 4, 5, 5, 5, 5, 5, 5, 5, 5, 5, 5, 5, 5, 5, 5, 5, 5, 6, 6, 6, 6, 6, 6, 6, 6, 6, 6, 6, 6, 6, 6, 6, 6, 6, 6, 6, 6, 6, 6, 6, 6, 6, 6, 6, 6, 6, 6, 6, 6, 7, 7, 7, 7, 7, 7, 7, 7, 7, 7, 7, 7, 7, 7, 7, 7, 7, 7, 7, 7, 7, 7, 7, 7, 7, 7, 7, 7, 7, 7, 7, 7, 7, 7, 7, 7, 7, 7, 7, 7, 7, 7, 7, 7, 7, 7, 7, 7, 7, 7, 7, 7, 7, 7, 7, 7, 7, 7, 7, 7, 7, 7, 7, 7, 8, 8, 8, 8, 8, 8, 8, 8, 8, 8, 8, 8, 8, 8, 8, 8, 8, 8, 8, 8, 8, 8, 8, 8, 8, 8, 8, 8, 8, 8, 8, 8, 8, 8, 8, 8, 8, 8, 8, 8, 8, 8, 8, 8, 8, 8, 8, 8, 8, 8, 8, 8, 8, 8, 8, 8, 8, 8, 8, 8, 8, 8, 8, 8, 8, 8, 8, 8, 8, 8, 8, 8, 8, 8, 8, 8, 8, 8, 8, 8, 8, 8, 8, 8, 8, 8, 8, 8, 8, 8, 8, 8, 8, 8, 8, 8, 8, 8, 8, 8, 8, 8, 8, 8, 8, 8, 8, 8, 8, 8, 8, 8, 8, 8, 8, 8, 8, 8, 8, 8, 8, 8, 8, 8, 8, 8, 8, 8] : List UInt8) (Int.toNat (IntKind.wrap .u8 (Int.fdiv a1_ (2 ^ (min (Int.toNat (32 : Int)) (IntKind.bits .u64)))))) 0) : Nat) : Int)))))))
 (.t (decide ((65536 : Int) ≤ a1_))
 (.g (decide ((0 : Int) ≤ (16 : Int))) <|
 .t (decide ((256 : Int) ≤ (Int.fdiv a1_ (2 ^ (min (Int.toNat (16 : Int)) (IntKind.bits .u64))))))
 (.g (decide ((0 : Int) ≤ (8 : Int))) <|
 .g (inR (IntKind.wrap .u8 (Int.fdiv (Int.fdiv a1_ (2 ^ (min (Int.toNat (16 : Int)) (IntKind.bits .u64)))) (2 ^ (min (Int.toNat (8 : Int)) (IntKind.bits .u64))))) (List.length ([0, 1, 2, 2, 3, 3, 3, 3, 4, 4, 4, 4, 4, 4, 4, 4, 5, 5, 5, 5, 5, 5, 5, 5, 5, 5, 5, 5, 5, 5, 5, 5, 6, 6, 6, 6, 6, 6, 6, 6, 6, 6, 6, 6, 6, 6, 6, 6, 6, 6, 6, 6, 6, 6, 6, 6, 6, 6, 6, 6, 6, 6, 6, 6, 7, 7, 7, 7, 7, 7, 7, 7, 7, 7, 7, 7, 7, 7, 7, 7, 7, 7, 7, 7, 7, 7, 7, 7, 7, 7, 7, 7, 7, 7, 7, 7, 7, 7, 7, 7, 7, 7, 7, 7, 7, 7, 7, 7, 7, 7, 7, 7, 7, 7, 7, 7, 7, 7, 7, 7, 7, 7, 7, 7, 7, 7, 7, 7, 8, 8, 8, 8, 8, 8, 8, 8, 8, 8, 8, 8, 8, 8, 8, 8, 8, 8, 8, 8, 8, 8, 8, 8, 8, 8, 8, 8, 8, 8, 8, 8, 8, 8, 8, 8, 8, 8, 8, 8, 8, 8, 8, 8, 8, 8, 8, 8, 8, 8, 8, 8, 8, 8, 8, 8, 8, 8, 8, 8, 8, 8, 8, 8, 8, 8, 8, 8, 8, 8, 8, 8, 8, 8, 8, 8, 8, 8, 8, 8, 8, 8, 8, 8, 8, 8, 8, 8, 8, 8, 8, 8, 8, 8, 8, 8, 8, 8, 8, 8, 8, 8, 8, 8, 8, 8, 8, 8, 8, 8, 8, 8, 8, 8, 8, 8, 8, 8, 8, 8, 8, 8, 8, 8, 8, 8, 8, 8] : List UInt8))) <|
 .l (IntKind.wrap .i64 ((IntKind.wrap .i64 ((IntKind.wrap .i64 ((0 : Int) + (16 : Int))) + (8 : Int))) + (IntKind.wrap .i64 ((UInt8.toNat (List.getD ([0, 1, 2, 2, 3, 3, 3, 3, 4, 4, 4, 4, 4, 4, 4, 4, 5, 5, 5, 5, 5, 5, 5, 5, 5, 5, 5, 5, 5, 5, 5, 5, 6, 6, 6, 6, 6, 6, 6, 6, 6, 6, 6, 6, 6, 6, 6, 6, 6, 6, 6, 6, 6, 6, 6, 6, 6, 6, 6, 6, 6, 6, 6, 6, 7, 7, 7, 7, 7, 7, 7, 7, 7, 7, 7, 7, 7, 7, 7, 7, 7, 7, 7, 7, 7, 7, 7, 7, 7, 7, 7, 7, 7, 7, 7, 7, 7, 7, 7, 7, 7, 7, 7, 7, 7, 7, 7, 7, 7, 7, 7, 7, 7, 7, 7, 7, 7, 7, 7, 7, 7, 7, 7, 7, 7, 7, 7, 7, 8, 8, 8, 8, 8, 8, 8, 8, 8, 8, 8, 8, 8, 8, 8, 8, 8, 8, 8, 8, 8, 8, 8, 8, 8, 8, 8, 8, 8, 8, 8, 8, 8, 8, 8, 8, 8, 8, 8, 8, 8, 8, 8, 8, 8, 8, 8, 8, 8, 8, 8, 8, 8, 8, 8, 8, 8, 8, 8, 8, 8, 8, 8, 8, 8, 8, 8, 8, 8, 8, 8, 8, 8, 8, 8, 8, 8, 8, 8, 8, 8, 8, 8, 8, 8, 8, 8, 8, 8, 8, 8, 8, 8, 8, 8, 8, 8, 8, 8, 8, 8, 8, 8, 8, 8, 8, 8, 8, 8, 8, 8, 8, 8, 8, 8, 8, 8, 8, 8, 8, 8, 8, 8, 8, 8, 8, 8, 8] : List UInt8) (Int.toNat (IntKind.wrap .u8 (Int.fdiv (Int.fdiv a1_ (2 ^ (min (Int.toNat (16 : Int)) (IntKind.bits .u64)))) (2 ^ (min (Int.toNat (8 : Int)) (IntKind.bits .u64)))))) 0) : Nat) : Int)))))
 (.g (inR (IntKind.wrap .u8 (Int.fdiv a1_ (2 ^ (min (Int.toNat (16 : Int)) (IntKind.bits .u64))))) (List.length ([0, 1, 2, 2, 3, 3, 3, 3, 4, 4, 4, 4, 4, 4, 4, 4, 5, 5, 5, 5, 5, 5, 5, 5, 5, 5, 5, 5, 5, 5, 5, 5, 6, 6, 6, 6, 6, 6, 6, 6, 6, 6, 6, 6, 6, 6, 6, 6, 6, 6, 6, 6, 6, 6, 6, 6, 6, 6, 6, 6, 6, 6, 6, 6, 7, 7, 7, 7, 7, 7, 7, 7, 7, 7, 7, 7, 7, 7, 7, 7, 7, 7, 7, 7, 7, 7, 7, 7, 7, 7, 7, 7, 7, 7, 7, 7, 7, 7, 7, 7, 7, 7, 7, 7, 7, 7, 7, 7, 7, 7, 7, 7, 7, 7, 7, 7, 7, 7, 7, 7, 7, 7, 7, 7, 7, 7, 7, 7, 8, 8, 8, 8, 8, 8, 8, 8, 8, 8, 8, 8, 8, 8, 8, 8, 8, 8, 8, 8, 8, 8, 8, 8, 8, 8, 8, 8, 8, 8, 8, 8, 8, 8, 8, 8, 8, 8, 8, 8, 8, 8, 8, 8, 8, 8, 8, 8, 8, 8, 8, 8, 8, 8, 8, 8, 8, 8, 8, 8, 8, 8, 8, 8, 8, 8, 8, 8, 8, 8, 8, 8, 8, 8, 8, 8, 8, 8, 8, 8, 8, 8, 8, 8, 8, 8, 8, 8, 8, 8, 8, 8, 8, 8, 8, 8, 8, 8, 8, 8, 8, 8, 8, 8, 8, 8, 8, 8, 8, 8, 8, 8, 8, 8, 8, 8, 8, 8, 8, 8, 8, 8, 8, 8, 8, 8, 8, 8] : List UInt8))) <|
 .l (IntKind.wrap .i64 ((IntKind.wrap .i64 ((0 : Int) + (16 : Int))) + (IntKind.wrap .i64 ((UInt8.toNat (List.getD ([0, 1, 2, 2, 3, 3, 3, 3, 4, 4, 4, 4, 4, 4, 4, 4, 5, 5, 5, 5, 5, 5, 5, 5, 5, 5, 5, 5, 5, 5, 5, 5, 6, 6, 6, 6, 6, 6, 6, 6, 6, 6, 6, 6, 6, 6, 6, 6, 6, 6, 6, 6, 6, 6, 6, 6, 6, 6, 6, 6, 6, 6, 6, 6, 7, 7, 7, 7, 7, 7, 7, 7, 7, 7, 7, 7, 7, 7, 7, 7, 7, 7, 7, 7, 7, 7, 7, 7, 7, 7, 7, 7, 7, 7, 7, 7, 7, 7, 7, 7, 7, 7, 7, 7, 7, 7, 7, 7, 7, 7, 7, 7, 7, 7, 7, 7, 7, 7, 7, 7, 7, 7, 7, 7, 7, 7, 7, 7, 8, 8, 8, 8, 8, 8, 8, 8, 8, 8, 8, 8, 8, 8, 8, 8, 8, 8, 8, 8, 8, 8, 8, 8, 8, 8, 8, 8, 8, 8, 8, 8, 8, 8, 8, 8, 8, 8, 8, 8, 8, 8, 8, 8, 8, 8, 8, 8, 8, 8, 8, 8, 8, 8, 8, 8, 8, 8, 8, 8, 8, 8, 8, 8, 8, 8, 8, 8, 8, 8, 8, 8, 8, 8, 8, 8, 8, 8, 8, 8, 8, 8, 8, 8, 8, 8, 8, 8, 8, 8, 8, 8, 8, 8, 8, 8, 8, 8, 8, 8, 8, 8, 8, 8, 8, 8, 8, 8, 8, 8, 8, 8, 8, 8, 8, 8, 8, 8, 8, 8, 8, 8, 8, 8, 8, 8, 8, 8] : List UInt8) (Int.toNat (IntKind.wrap .u8 (Int.fdiv a1_ (2 ^ (min (Int.toNat (16 : Int)) (IntKind.bits .u64)))))) 0) : Nat) : Int))))))
 (.t (decide ((256 : Int) ≤ a1_))
 (.g (decide ((0 : Int) ≤ (8 : Int))) <|
 .g (inR (IntKind.wrap .u8 (Int.fdiv a1_ (2 ^ (min (Int.toNat (8 : Int)) (IntKind.bits .u64))))) (List.length ([0, 1, 2, 2, 3, 3, 3, 3, 4, 4, 4, 4, 4, 4, 4, 4, 5, 5, 5, 5, 5, 5, 5, 5, 5, 5, 5, 5, 5, 5, 5, 5, 6, 6, 6, 6, 6, 6, 6, 6, 6, 6, 6, 6, 6, 6, 6, 6, 6, 6, 6, 6, 6, 6, 6, 6, 6, 6, 6, 6, 6, 6, 6, 6, 7, 7, 7, 7, 7, 7, 7, 7, 7, 7, 7, 7, 7, 7, 7, 7, 7, 7, 7, 7, 7, 7, 7, 7, 7, 7, 7, 7, 7, 7, 7, 7, 7, 7, 7, 7, 7, 7, 7, 7, 7, 7, 7, 7, 7, 7, 7, 7, 7, 7, 7, 7, 7, 7, 7, 7, 7, 7, 7, 7, 7, 7, 7, 7, 8, 8, 8, 8, 8, 8, 8, 8, 8, 8, 8, 8, 8, 8, 8, 8, 8, 8, 8, 8, 8, 8, 8, 8, 8, 8, 8, 8, 8, 8, 8, 8, 8, 8, 8, 8, 8, 8, 8, 8, 8, 8, 8, 8, 8, 8, 8, 8, 8, 8, 8, 8, 8, 8, 8, 8, 8, 8, 8, 8, 8, 8, 8, 8, 8, 8, 8, 8, 8, 8, 8, 8, 8, 8, 8, 8, 8, 8, 8, 8, 8, 8, 8, 8, 8, 8, 8, 8, 8, 8, 8, 8, 8, 8, 8, 8, 8, 8, 8, 8, 8, 8, 8, 8, 8, 8, 8, 8, 8, 8, 8, 8, 8, 8, 8, 8, 8, 8, 8, 8, 8, 8, 8, 8, 8, 8, 8, 8] : List UInt8))) <|
 .l (IntKind.wrap .i64 ((IntKind.wrap .i64 ((0 : Int) + (8 : Int))) + (IntKind.wrap .i64 ((UInt8.toNat (List.getD ([0, 1, 2, 2, 3, 3, 3, 3, 4, 4, 4, 4, 4, 4, 4, 4, 5, 5, 5, 5, 5, 5, 5, 5, 5, 5, 5, 5, 5, 5, 5, 5, 6, 6, 6, 6, 6, 6, 6, 6, 6, 6, 6, 6, 6, 6, 6, 6, 6, 6, 6, 6, 6, 6, 6, 6, 6, 6, 6, 6, 6, 6, 6, 6, 7, 7, 7, 7, 7, 7, 7, 7, 7, 7, 7, 7, 7, 7, 7, 7, 7, 7, 7, 7, 7, 7, 7, 7, 7, 7, 7, 7, 7, 7, 7, 7, 7, 7, 7, 7, 7, 7, 7, 7, 7, 7, 7, 7, 7, 7, 7, 7, 7, 7, 7, 7, 7, 7, 7, 7, 7, 7, 7, 7, 7, 7, 7, 7, 8, 8, 8, 8, 8, 8, 8, 8, 8, 8, 8, 8, 8, 8, 8, 8, 8, 8, 8, 8, 8, 8, 8, 8, 8, 8, 8, 8, 8, 8, 8, 8, 8, 8, 8, 8, 8, 8, 8, 8, 8, 8, 8, 8, 8, 8, 8, 8, 8, 8, 8, 8, 8, 8, 8, 8, 8, 8, 8, 8, 8, 8, 8, 8, 8, 8, 8, 8, 8, 8, 8, 8, 8, 8, 8, 8, 8, 8, 8, 8, 8, 8, 8, 8, 8, 8, 8, 8, 8, 8, 8, 8, 8, 8, 8, 8, 8, 8, 8, 8, 8, 8, 8, 8, 8, 8, 8, 8, 8, 8, 8, 8, 8, 8, 8, 8, 8, 8, 8, 8, 8, 8, 8, 8, 8, 8, 8, 8] : List UInt8) (Int.toNat (IntKind.wrap .u8 (Int.fdiv a1_ (2 ^ (min (Int.toNat (8 : Int)) (IntKind.bits .u64)))))) 0) : Nat) : Int)))))
 (.g (inR (IntKind.wrap .u8 a1_) (List.length ([0, 1, 2, 2, 3, 3, 3, 3, 4, 4, 4, 4, 4, 4, 4, 4, 5, 5, 5, 5, 5, 5, 5, 5, 5, 5, 5, 5, 5, 5, 5, 5, 6, 6, 6, 6, 6, 6, 6, 6, 6, 6, 6, 6, 6, 6, 6, 6, 6, 6, 6, 6, 6, 6, 6, 6, 6, 6, 6, 6, 6, 6, 6, 6, 7, 7, 7, 7, 7, 7, 7, 7, 7, 7, 7, 7, 7, 7, 7, 7, 7, 7, 7, 7, 7, 7, 7, 7, 7, 7, 7, 7, 7, 7, 7, 7, 7, 7, 7, 7, 7, 7, 7, 7, 7, 7, 7, 7, 7, 7, 7, 7, 7, 7, 7, 7, 7, 7, 7, 7, 7, 7, 7, 7, 7, 7, 7, 7, 8, 8, 8, 8, 8, 8, 8, 8, 8, 8, 8, 8, 8, 8, 8, 8, 8, 8, 8, 8, 8, 8, 8, 8, 8, 8, 8, 8, 8, 8, 8, 8, 8, 8, 8, 8, 8, 8, 8, 8, 8, 8, 8, 8, 8, 8, 8, 8, 8, 8, 8, 8, 8, 8, 8, 8, 8, 8, 8, 8, 8, 8, 8, 8, 8, 8, 8, 8, 8, 8, 8, 8, 8, 8, 8, 8, 8, 8, 8, 8, 8, 8, 8, 8, 8, 8, 8, 8, 8, 8, 8, 8, 8, 8, 8, 8, 8, 8, 8, 8, 8, 8, 8, 8, 8, 8, 8, 8, 8, 8, 8, 8, 8, 8, 8, 8, 8, 8, 8, 8, 8, 8, 8, 8, 8, 8, 8, 8] : List UInt8))) <|
 .l (IntKind.wrap .i64 ((0 : Int) + (IntKind.wrap .i64 ((UInt8.toNat (List.getD ([0, 1, 2, 2, 3, 3, 3, 3, 4, 4, 4, 4, 4, 4, 4, 4, 5, 5, 5, 5, 5, 5, 5, 5, 5, 5, 5, 5, 5, 5, 5, 5, 6, 6, 6, 6, 6, 6, 6, 6, 6, 6, 6, 6, 6, 6, 6, 6, 6, 6, 6, 6, 6, 6, 6, 6, 6, 6, 6, 6, 6, 6, 6, 6, 7, 7, 7, 7, 7, 7, 7, 7, 7, 7, 7, 7, 7, 7, 7, 7, 7, 7, 7, 7, 7, 7, 7, 7, 7, 7, 7, 7, 7, 7, 7, 7, 7, 7, 7, 7, 7, 7, 7, 7, 7, 7, 7, 7, 7, 7, 7, 7, 7, 7, 7, 7, 7, 7, 7, 7, 7, 7, 7, 7, 7, 7, 7, 7, 8, 8, 8, 8, 8, 8, 8, 8, 8, 8, 8, 8, 8, 8, 8, 8, 8, 8, 8, 8, 8, 8, 8, 8, 8, 8, 8, 8, 8, 8, 8, 8, 8, 8, 8, 8, 8, 8, 8, 8, 8, 8, 8, 8, 8, 8, 8, 8, 8, 8, 8, 8, 8, 8, 8, 8, 8, 8, 8, 8, 8, 8, 8, 8, 8, 8, 8, 8, 8, 8, 8, 8, 8, 8, 8, 8, 8, 8, 8, 8, 8, 8, 8, 8, 8, 8, 8, 8, 8, 8, 8, 8, 8, 8, 8, 8, 8, 8, 8, 8, 8, 8, 8, 8, 8, 8, 8, 8, 8, 8, 8, 8, 8, 8, 8, 8, 8, 8, 8, 8, 8, 8, 8, 8, 8, 8, 8, 8] : List UInt8) (Int.toNat (IntKind.wrap .u8 a1_)) 0) : Nat) : Int)))))))
noncomputable def F_zan (a1_ : Int) : Option (Int) := (T_zan a1_).ev
noncomputable def A_zan : Sh := (.cons (.dat (.int .u64)) .nil)
noncomputable def I_zan : List (Nat × OSh) := []
noncomputable def K_zan : RetK := { acts := [], res := [.tmp 2], sh := (.cons (.dat yi) .nil), obs := [], pins := [] }
noncomputable def D_zan : FD := ⟨A_zan, I_zan, [], Int, fun x => F_zan x.1.1, fun r => ([.dat yi r], [])⟩
noncomputable def E_zan : Env := envOf []
noncomputable def Z_zan : Nat → Nat → List Nat := fun _ _ => []
noncomputable def O_zan : List (Nat × LD) := []
noncomputable def C_zan : Code := (f216.body).getD .skip
noncomputable def T_zam (a1_ : Int) : Tr (Int) :=
 .c (Int) (F_zan a1_) fun r1_ =>
 .l r1_
noncomputable def F_zam (a1_ : Int) : Option (Int) := (T_zam a1_).ev
noncomputable def A_zam : Sh := (.cons (.dat (.int .u64)) .nil)
noncomputable def I_zam : List (Nat × OSh) := []
noncomputable def K_zam : RetK := { acts := [], res := [.tmp 2], sh := (.cons (.dat yi) .nil), obs := [], pins := [] }
noncomputable def D_zam : FD := ⟨A_zam, I_zam, [], Int, fun x => F_zam x.1.1, fun r => ([.dat yi r], [])⟩
noncomputable def E_zam : Env := envOf [(216, D_zan)]
noncomputable def Z_zam : Nat → Nat → List Nat := fun _ _ => []
noncomputable def O_zam : List (Nat × LD) := []
noncomputable def C_zam : Code := (f186.body).getD .skip
noncomputable def S_zbb_2 (k : Int × (Int × (((HL [y1, y1] → Option (Int))) × Int))) (v : Int × ((List Nat) × Y2)) : Tr ((Int × ((List Nat) × Y2)) ⊕ ((List Nat) × Y2)) :=
 .t (decide (k.1 < v.1))
 (.g (inR v.1 (List.length v.2.1)) <|
 .g (decide ((Int.toNat v.1) < List.length v.2.1) && decide ((List.getD v.2.1 (Int.toNat v.1) 0) < List.length v.2.2)) <|
 .g (inR (IntKind.wrap .i64 (v.1 - (1 : Int))) (List.length v.2.1)) <|
 .g (decide ((Int.toNat (IntKind.wrap .i64 (v.1 - (1 : Int)))) < List.length v.2.1) && decide ((List.getD v.2.1 (Int.toNat (IntKind.wrap .i64 (v.1 - (1 : Int)))) 0) < List.length v.2.2)) <|
 .c (Int) (k.2.2.1 ((List.getD v.2.2 (List.getD v.2.1 (Int.toNat v.1) 0) ([] : Y1)), ((List.getD v.2.2 (List.getD v.2.1 (Int.toNat (IntKind.wrap .i64 (v.1 - (1 : Int)))) 0) ([] : Y1)), ()))) fun r12_ =>
 .t (decide (r12_ < (0 : Int)))
 (.g (inR (IntKind.wrap .i64 (v.1 - (1 : Int))) (List.length v.2.1)) <|
 .g (decide ((Int.toNat (IntKind.wrap .i64 (v.1 - (1 : Int)))) < List.length v.2.1) && decide ((List.getD v.2.1 (Int.toNat (IntKind.wrap .i64 (v.1 - (1 : Int)))) 0) < List.length v.2.2)) <|
 .g (inR v.1 (List.length v.2.1)) <|
 .g (decide ((Int.toNat v.1) < List.length v.2.1) && decide ((List.getD v.2.1 (Int.toNat v.1) 0) < List.length v.2.2)) <|
 .g (inR v.1 (List.length v.2.1)) <|
 .g (decide ((Int.toNat v.1) < List.length v.2.1)) <|
 .g (inR (IntKind.wrap .i64 (v.1 - (1 : Int))) (List.length (List.set v.2.1 (Int.toNat v.1) (List.getD v.2.1 (Int.toNat (IntKind.wrap .i64 (v.1 - (1 : Int)))) 0)))) <|
 .g (decide ((Int.toNat (IntKind.wrap .i64 (v.1 - (1 : Int)))) < List.length (List.set v.2.1 (Int.toNat v.1) (List.getD v.2.1 (Int.toNat (IntKind.wrap .i64 (v.1 - (1 : Int)))) 0)))) <|
 .l (.inl ((IntKind.wrap .i64 (v.1 - (1 : Int))), ((List.set (List.set v.2.1 (Int.toNat v.1) (List.getD v.2.1 (Int.toNat (IntKind.wrap .i64 (v.1 - (1 : Int)))) 0)) (Int.toNat (IntKind.wrap .i64 (v.1 - (1 : Int)))) (List.getD v.2.1 (Int.toNat v.1) 0)), v.2.2))))
 (.l (.inr v.2)))
 (.l (.inr v.2))
noncomputable def L_zbb_2 (k : Int × (Int × (((HL [y1, y1] → Option (Int))) × Int))) (v : Int × ((List Nat) × Y2)) : Option ((List Nat) × Y2) := iter (fun v => (S_zbb_2 k v).ev) v
noncomputable def DL_zbb_2 : LD := ⟨{ acts := [], S := { slots := [0, 1, 2, 3, 8, 9], sh := (.cons (.arr 64) (.cons (.dat yi) (.cons (.dat yi) (.cons (.clo [y1, y1] yi) (.cons (.dat yi) (.cons (.dat yi) .nil)))))), obs := [(64, .perm 24 3 yi)] } }, [(2, { acts := [], S := { slots := [0, 1, 2, 3, 8], sh := (.cons (.arr 64) (.cons (.dat yi) (.cons (.dat yi) (.cons (.clo [y1, y1] yi) (.cons (.dat yi) .nil))))), obs := [(64, .perm 24 3 yi)] } })], (yh [] .nil), Int × (Int × (((HL [y1, y1] → Option (Int))) × Int)), Int × ((List Nat) × Y2), (List Nat) × Y2, fun k v => (((), (k.1, (k.2.1, (k.2.2.1, (k.2.2.2, (v.1, ())))))), (v.2, ())), fun t => (t.1.2.1, (t.1.2.2.1, (t.1.2.2.2.1, t.1.2.2.2.2.1))), fun t => (t.1.2.2.2.2.2.1, t.2.1), S_zbb_2, fun k r => .l (.exit 2 (mkSt ({ slots := [0, 1, 2, 3, 8], sh := (.cons (.arr 64) (.cons (.dat yi) (.cons (.dat yi) (.cons (.clo [y1, y1] yi) (.cons (.dat yi) .nil))))), obs := [(64, .perm 24 3 yi)] }) (((), (k.1, (k.2.1, (k.2.2.1, (k.2.2.2, ()))))), (r, ()))))⟩
noncomputable def S_zbb_0 (k : Int × (Int × ((HL [y1, y1] → Option (Int))))) (v : Int × ((List Nat) × Y2)) : Tr ((Int × ((List Nat) × Y2)) ⊕ ((List Nat) × Y2)) :=
 .t (decide (v.1 < k.2.1))
 (.c ((List Nat) × Y2) (L_zbb_2 (k.1, (k.2.1, (k.2.2, v.1))) (v.1, v.2)) fun r18_ =>
 .l (.inl ((IntKind.wrap .i64 (v.1 + (1 : Int))), r18_)))
 (.l (.inr v.2))
noncomputable def L_zbb_0 (k : Int × (Int × ((HL [y1, y1] → Option (Int))))) (v : Int × ((List Nat) × Y2)) : Option ((List Nat) × Y2) := iter (fun v => (S_zbb_0 k v).ev) v
noncomputable def DL_zbb_0 : LD := ⟨{ acts := [], S := { slots := [0, 1, 2, 3, 8], sh := (.cons (.arr 64) (.cons (.dat yi) (.cons (.dat yi) (.cons (.clo [y1, y1] yi) (.cons (.dat yi) .nil))))), obs := [(64, .perm 24 3 yi)] } }, [(0, { acts := [], S := { slots := [0], sh := (.cons (.arr 64) .nil), obs := [(64, .perm 24 3 yi)] } })], (yh [] .nil), Int × (Int × ((HL [y1, y1] → Option (Int)))), Int × ((List Nat) × Y2), (List Nat) × Y2, fun k v => (((), (k.1, (k.2.1, (k.2.2, (v.1, ()))))), (v.2, ())), fun t => (t.1.2.1, (t.1.2.2.1, t.1.2.2.2.1)), fun t => (t.1.2.2.2.2.1, t.2.1), S_zbb_0, fun _ r => .l (.exit 0 (mkSt ({ slots := [0], sh := (.cons (.arr 64) .nil), obs := [(64, .perm 24 3 yi)] }) (((), ()), (r, ()))))⟩
noncomputable def T_zbb (a2_ : Int) (a3_ : Int) (a4_ : (HL [y1, y1] → Option (Int))) (a1_ : (List Nat) × Y2) : Tr ((List Nat) × Y2) :=
 .c ((List Nat) × Y2) (L_zbb_0 (a2_, (a3_, a4_)) ((IntKind.wrap .i64 (a2_ + (1 : Int))), a1_)) fun r20_ =>
 .l r20_
noncomputable def F_zbb (a2_ : Int) (a3_ : Int) (a4_ : (HL [y1, y1] → Option (Int))) (a1_ : (List Nat) × Y2) : Option ((List Nat) × Y2) := (T_zbb a2_ a3_ a4_ a1_).ev
noncomputable def A_zbb : Sh := (.cons (.arr 64) (.cons (.dat yi) (.cons (.dat yi) (.cons (.clo [y1, y1] yi) .nil))))
noncomputable def I_zbb : List (Nat × OSh) := [(64, .perm 24 3 yi)]
noncomputable def K_zbb : RetK := { acts := [], res := [], sh := .nil, obs := [(64, .perm 24 3 yi)], pins := [(0, 0, 64)] }
noncomputable def D_zbb : FD := ⟨A_zbb, I_zbb, [.arg 0], (List Nat) × Y2, fun x => F_zbb x.1.2.1 x.1.2.2.1 x.1.2.2.2.1 x.2.1, fun r => ([], [(64, .perm false 24 3 yi r.1 r.2)])⟩
noncomputable def E_zbb : Env := envOf []
noncomputable def Z_zbb : Nat → Nat → List Nat := fun _ _ => []
noncomputable def O_zbb : List (Nat × LD) := [(2, DL_zbb_2), (0, DL_zbb_0)]
noncomputable def C_zbb : Code := (f229.body).getD .skip
noncomputable def T_zbh (a1_ : Int) : Tr (Int) :=
 .c (Int) (F_zam (IntKind.wrap .u64 a1_)) fun r1_ =>
 .g (decide ((0 : Int) ≤ r1_)) <|
 .l (IntKind.wrap .u64 ((1 : Int) * 2 ^ (min (Int.toNat r1_) (IntKind.bits .u64))))
noncomputable def F_zbh (a1_ : Int) : Option (Int) := (T_zbh a1_).ev
noncomputable def A_zbh : Sh := (.cons (.dat yi) .nil)
noncomputable def I_zbh : List (Nat × OSh) := []
noncomputable def K_zbh : RetK := { acts := [], res := [.tmp 2], sh := (.cons (.dat (.int .u64)) .nil), obs := [], pins := [] }
noncomputable def D_zbh : FD := ⟨A_zbh, I_zbh, [], Int, fun x => F_zbh x.1.1, fun r => ([.dat (.int .u64) r], [])⟩
noncomputable def E_zbh : Env := envOf [(186, D_zam)]
noncomputable def Z_zbh : Nat → Nat → List Nat := fun _ _ => []
noncomputable def O_zbh : List (Nat × LD) := []
noncomputable def C_zbh : Code := (f238.body).getD .skip
noncomputable def T_zbs (a1_ : Int) : Tr (Int × Int) :=
 .g (decide ((0 : Int) ≤ (13 : Int))) <|
 .g (decide ((0 : Int) ≤ (7 : Int))) <|
 .g (decide ((0 : Int) ≤ (17 : Int))) <|
 .l ((IntKind.wrap .u64 (BitVec.toNat ((BitVec.ofInt (IntKind.bits .u64) (IntKind.wrap .u64 (BitVec.toNat ((BitVec.ofInt (IntKind.bits .u64) (IntKind.wrap .u64 (BitVec.toNat ((BitVec.ofInt (IntKind.bits .u64) a1_) ^^^ (BitVec.ofInt (IntKind.bits .u64) (IntKind.wrap .u64 (a1_ * 2 ^ (min (Int.toNat (13 : Int)) (IntKind.bits .u64))))))))) ^^^ (BitVec.ofInt (IntKind.bits .u64) (Int.fdiv (IntKind.wrap .u64 (BitVec.toNat ((BitVec.ofInt (IntKind.bits .u64) a1_) ^^^ (BitVec.ofInt (IntKind.bits .u64) (IntKind.wrap .u64 (a1_ * 2 ^ (min (Int.toNat (13 : Int)) (IntKind.bits .u64)))))))) (2 ^ (min (Int.toNat (7 : Int)) (IntKind.bits .u64))))))))) ^^^ (BitVec.ofInt (IntKind.bits .u64) (IntKind.wrap .u64 ((IntKind.wrap .u64 (BitVec.toNat ((BitVec.ofInt (IntKind.bits .u64) (IntKind.wrap .u64 (BitVec.toNat ((BitVec.ofInt (IntKind.bits .u64) a1_) ^^^ (BitVec.ofInt (IntKind.bits .u64) (IntKind.wrap .u64 (a1_ * 2 ^ (min (Int.toNat (13 : Int)) (IntKind.bits .u64))))))))) ^^^ (BitVec.ofInt (IntKind.bits .u64) (Int.fdiv (IntKind.wrap .u64 (BitVec.toNat ((BitVec.ofInt (IntKind.bits .u64) a1_) ^^^ (BitVec.ofInt (IntKind.bits .u64) (IntKind.wrap .u64 (a1_ * 2 ^ (min (Int.toNat (13 : Int)) (IntKind.bits .u64)))))))) (2 ^ (min (Int.toNat (7 : Int)) (IntKind.bits .u64)))))))) * 2 ^ (min (Int.toNat (17 : Int)) (IntKind.bits .u64)))))))), (IntKind.wrap .u64 (BitVec.toNat ((BitVec.ofInt (IntKind.bits .u64) (IntKind.wrap .u64 (BitVec.toNat ((BitVec.ofInt (IntKind.bits .u64) (IntKind.wrap .u64 (BitVec.toNat ((BitVec.ofInt (IntKind.bits .u64) a1_) ^^^ (BitVec.ofInt (IntKind.bits .u64) (IntKind.wrap .u64 (a1_ * 2 ^ (min (Int.toNat (13 : Int)) (IntKind.bits .u64))))))))) ^^^ (BitVec.ofInt (IntKind.bits .u64) (Int.fdiv (IntKind.wrap .u64 (BitVec.toNat ((BitVec.ofInt (IntKind.bits .u64) a1_) ^^^ (BitVec.ofInt (IntKind.bits .u64) (IntKind.wrap .u64 (a1_ * 2 ^ (min (Int.toNat (13 : Int)) (IntKind.bits .u64)))))))) (2 ^ (min (Int.toNat (7 : Int)) (IntKind.bits .u64))))))))) ^^^ (BitVec.ofInt (IntKind.bits .u64) (IntKind.wrap .u64 ((IntKind.wrap .u64 (BitVec.toNat ((BitVec.ofInt (IntKind.bits .u64) (IntKind.wrap .u64 (BitVec.toNat ((BitVec.ofInt (IntKind.bits .u64) a1_) ^^^ (BitVec.ofInt (IntKind.bits .u64) (IntKind.wrap .u64 (a1_ * 2 ^ (min (Int.toNat (13 : Int)) (IntKind.bits .u64))))))))) ^^^ (BitVec.ofInt (IntKind.bits .u64) (Int.fdiv (IntKind.wrap .u64 (BitVec.toNat ((BitVec.ofInt (IntKind.bits .u64) a1_) ^^^ (BitVec.ofInt (IntKind.bits .u64) (IntKind.wrap .u64 (a1_ * 2 ^ (min (Int.toNat (13 : Int)) (IntKind.bits .u64)))))))) (2 ^ (min (Int.toNat (7 : Int)) (IntKind.bits .u64)))))))) * 2 ^ (min (Int.toNat (17 : Int)) (IntKind.bits .u64)))))))))
noncomputable def F_zbs (a1_ : Int) : Option (Int × Int) := (T_zbs a1_).ev
noncomputable def A_zbs : Sh := (.cons (.box 64 0) .nil)
noncomputable def I_zbs : List (Nat × OSh) := [(64, .cells (.cons (.dat (.int .u64)) .nil))]
noncomputable def K_zbs : RetK := { acts := [], res := [.tmp 2], sh := (.cons (.dat (.int .u64)) .nil), obs := [(64, .cells (.cons (.dat (.int .u64)) .nil))], pins := [(0, 0, 64)] }
noncomputable def D_zbs : FD := ⟨A_zbs, I_zbs, [.arg 0], Int × (Int), fun x => F_zbs x.2.1.1, fun r => ([.dat (.int .u64) r.1], [(64, .cells [.dat (.int .u64) r.2])])⟩
noncomputable def E_zbs : Env := envOf []
noncomputable def Z_zbs : Nat → Nat → List Nat := fun _ _ => []
noncomputable def O_zbs : List (Nat × LD) := []
noncomputable def C_zbs : Code := (f239.body).getD .skip
noncomputable def S_zaw_0 (k : Int × (Int × Int)) (v : Int × (((List Nat) × Y2) × Int)) : Tr ((Int × (((List Nat) × Y2) × Int)) ⊕ ((List Nat) × Y2)) :=
 .g (!decide ((4 : Int) = 0)) <|
 .t (decide (v.1 ≤ (IntKind.wrap .i64 ((IntKind.wrap .i64 (k.1 + (IntKind.wrap .i64 ((IntKind.wrap .i64 (Int.tdiv k.2.1 (4 : Int))) * (2 : Int))))) + (1 : Int)))))
 (.c (Int × Int) (F_zbs v.2.2) fun r8_ =>
 .t (decide (k.2.1 ≤ (IntKind.wrap .i64 (IntKind.wrap .u64 (BitVec.toNat ((BitVec.ofInt (IntKind.bits .u64) r8_.1) &&& (BitVec.ofInt (IntKind.bits .u64) (IntKind.wrap .u64 (k.2.2 - (1 : Int))))))))))
 (.g (inR (IntKind.wrap .i64 (k.1 + (IntKind.wrap .i64 ((IntKind.wrap .i64 (IntKind.wrap .u64 (BitVec.toNat ((BitVec.ofInt (IntKind.bits .u64) r8_.1) &&& (BitVec.ofInt (IntKind.bits .u64) (IntKind.wrap .u64 (k.2.2 - (1 : Int)))))))) - k.2.1)))) (List.length v.2.1.1)) <|
 .g (decide ((Int.toNat (IntKind.wrap .i64 (k.1 + (IntKind.wrap .i64 ((IntKind.wrap .i64 (IntKind.wrap .u64 (BitVec.toNat ((BitVec.ofInt (IntKind.bits .u64) r8_.1) &&& (BitVec.ofInt (IntKind.bits .u64) (IntKind.wrap .u64 (k.2.2 - (1 : Int)))))))) - k.2.1))))) < List.length v.2.1.1) && decide ((List.getD v.2.1.1 (Int.toNat (IntKind.wrap .i64 (k.1 + (IntKind.wrap .i64 ((IntKind.wrap .i64 (IntKind.wrap .u64 (BitVec.toNat ((BitVec.ofInt (IntKind.bits .u64) r8_.1) &&& (BitVec.ofInt (IntKind.bits .u64) (IntKind.wrap .u64 (k.2.2 - (1 : Int)))))))) - k.2.1))))) 0) < List.length v.2.1.2)) <|
 .g (inR v.1 (List.length v.2.1.1)) <|
 .g (decide ((Int.toNat v.1) < List.length v.2.1.1) && decide ((List.getD v.2.1.1 (Int.toNat v.1) 0) < List.length v.2.1.2)) <|
 .g (inR v.1 (List.length v.2.1.1)) <|
 .g (decide ((Int.toNat v.1) < List.length v.2.1.1)) <|
 .g (inR (IntKind.wrap .i64 (k.1 + (IntKind.wrap .i64 ((IntKind.wrap .i64 (IntKind.wrap .u64 (BitVec.toNat ((BitVec.ofInt (IntKind.bits .u64) r8_.1) &&& (BitVec.ofInt (IntKind.bits .u64) (IntKind.wrap .u64 (k.2.2 - (1 : Int)))))))) - k.2.1)))) (List.length (List.set v.2.1.1 (Int.toNat v.1) (List.getD v.2.1.1 (Int.toNat (IntKind.wrap .i64 (k.1 + (IntKind.wrap .i64 ((IntKind.wrap .i64 (IntKind.wrap .u64 (BitVec.toNat ((BitVec.ofInt (IntKind.bits .u64) r8_.1) &&& (BitVec.ofInt (IntKind.bits .u64) (IntKind.wrap .u64 (k.2.2 - (1 : Int)))))))) - k.2.1))))) 0)))) <|
 .g (decide ((Int.toNat (IntKind.wrap .i64 (k.1 + (IntKind.wrap .i64 ((IntKind.wrap .i64 (IntKind.wrap .u64 (BitVec.toNat ((BitVec.ofInt (IntKind.bits .u64) r8_.1) &&& (BitVec.ofInt (IntKind.bits .u64) (IntKind.wrap .u64 (k.2.2 - (1 : Int)))))))) - k.2.1))))) < List.length (List.set v.2.1.1 (Int.toNat v.1) (List.getD v.2.1.1 (Int.toNat (IntKind.wrap .i64 (k.1 + (IntKind.wrap .i64 ((IntKind.wrap .i64 (IntKind.wrap .u64 (BitVec.toNat ((BitVec.ofInt (IntKind.bits .u64) r8_.1) &&& (BitVec.ofInt (IntKind.bits .u64) (IntKind.wrap .u64 (k.2.2 - (1 : Int)))))))) - k.2.1))))) 0)))) <|
 .l (.inl ((IntKind.wrap .i64 (v.1 + (1 : Int))), (((List.set (List.set v.2.1.1 (Int.toNat v.1) (List.getD v.2.1.1 (Int.toNat (IntKind.wrap .i64 (k.1 + (IntKind.wrap .i64 ((IntKind.wrap .i64 (IntKind.wrap .u64 (BitVec.toNat ((BitVec.ofInt (IntKind.bits .u64) r8_.1) &&& (BitVec.ofInt (IntKind.bits .u64) (IntKind.wrap .u64 (k.2.2 - (1 : Int)))))))) - k.2.1))))) 0)) (Int.toNat (IntKind.wrap .i64 (k.1 + (IntKind.wrap .i64 ((IntKind.wrap .i64 (IntKind.wrap .u64 (BitVec.toNat ((BitVec.ofInt (IntKind.bits .u64) r8_.1) &&& (BitVec.ofInt (IntKind.bits .u64) (IntKind.wrap .u64 (k.2.2 - (1 : Int)))))))) - k.2.1))))) (List.getD v.2.1.1 (Int.toNat v.1) 0)), v.2.1.2), r8_.2))))
 (.g (inR (IntKind.wrap .i64 (k.1 + (IntKind.wrap .i64 (IntKind.wrap .u64 (BitVec.toNat ((BitVec.ofInt (IntKind.bits .u64) r8_.1) &&& (BitVec.ofInt (IntKind.bits .u64) (IntKind.wrap .u64 (k.2.2 - (1 : Int)))))))))) (List.length v.2.1.1)) <|
 .g (decide ((Int.toNat (IntKind.wrap .i64 (k.1 + (IntKind.wrap .i64 (IntKind.wrap .u64 (BitVec.toNat ((BitVec.ofInt (IntKind.bits .u64) r8_.1) &&& (BitVec.ofInt (IntKind.bits .u64) (IntKind.wrap .u64 (k.2.2 - (1 : Int))))))))))) < List.length v.2.1.1) && decide ((List.getD v.2.1.1 (Int.toNat (IntKind.wrap .i64 (k.1 + (IntKind.wrap .i64 (IntKind.wrap .u64 (BitVec.toNat ((BitVec.ofInt (IntKind.bits .u64) r8_.1) &&& (BitVec.ofInt (IntKind.bits .u64) (IntKind.wrap .u64 (k.2.2 - (1 : Int))))))))))) 0) < List.length v.2.1.2)) <|
 .g (inR v.1 (List.length v.2.1.1)) <|
 .g (decide ((Int.toNat v.1) < List.length v.2.1.1) && decide ((List.getD v.2.1.1 (Int.toNat v.1) 0) < List.length v.2.1.2)) <|
 .g (inR v.1 (List.length v.2.1.1)) <|
 .g (decide ((Int.toNat v.1) < List.length v.2.1.1)) <|
 .g (inR (IntKind.wrap .i64 (k.1 + (IntKind.wrap .i64 (IntKind.wrap .u64 (BitVec.toNat ((BitVec.ofInt (IntKind.bits .u64) r8_.1) &&& (BitVec.ofInt (IntKind.bits .u64) (IntKind.wrap .u64 (k.2.2 - (1 : Int)))))))))) (List.length (List.set v.2.1.1 (Int.toNat v.1) (List.getD v.2.1.1 (Int.toNat (IntKind.wrap .i64 (k.1 + (IntKind.wrap .i64 (IntKind.wrap .u64 (BitVec.toNat ((BitVec.ofInt (IntKind.bits .u64) r8_.1) &&& (BitVec.ofInt (IntKind.bits .u64) (IntKind.wrap .u64 (k.2.2 - (1 : Int))))))))))) 0)))) <|
 .g (decide ((Int.toNat (IntKind.wrap .i64 (k.1 + (IntKind.wrap .i64 (IntKind.wrap .u64 (BitVec.toNat ((BitVec.ofInt (IntKind.bits .u64) r8_.1) &&& (BitVec.ofInt (IntKind.bits .u64) (IntKind.wrap .u64 (k.2.2 - (1 : Int))))))))))) < List.length (List.set v.2.1.1 (Int.toNat v.1) (List.getD v.2.1.1 (Int.toNat (IntKind.wrap .i64 (k.1 + (IntKind.wrap .i64 (IntKind.wrap .u64 (BitVec.toNat ((BitVec.ofInt (IntKind.bits .u64) r8_.1) &&& (BitVec.ofInt (IntKind.bits .u64) (IntKind.wrap .u64 (k.2.2 - (1 : Int))))))))))) 0)))) <|
 .l (.inl ((IntKind.wrap .i64 (v.1 + (1 : Int))), (((List.set (List.set v.2.1.1 (Int.toNat v.1) (List.getD v.2.1.1 (Int.toNat (IntKind.wrap .i64 (k.1 + (IntKind.wrap .i64 (IntKind.wrap .u64 (BitVec.toNat ((BitVec.ofInt (IntKind.bits .u64) r8_.1) &&& (BitVec.ofInt (IntKind.bits .u64) (IntKind.wrap .u64 (k.2.2 - (1 : Int))))))))))) 0)) (Int.toNat (IntKind.wrap .i64 (k.1 + (IntKind.wrap .i64 (IntKind.wrap .u64 (BitVec.toNat ((BitVec.ofInt (IntKind.bits .u64) r8_.1) &&& (BitVec.ofInt (IntKind.bits .u64) (IntKind.wrap .u64 (k.2.2 - (1 : Int))))))))))) (List.getD v.2.1.1 (Int.toNat v.1) 0)), v.2.1.2), r8_.2)))))
 (.l (.inr v.2.1))
noncomputable def L_zaw_0 (k : Int × (Int × Int)) (v : Int × (((List Nat) × Y2) × Int)) : Option ((List Nat) × Y2) := iter (fun v => (S_zaw_0 k v).ev) v
noncomputable def DL_zaw_0 : LD := ⟨{ acts := [], S := { slots := [0, 1, 8, 9, 10, 11], sh := (.cons (.arr 64) (.cons (.dat yi) (.cons (.dat yi) (.cons (.box 9 0) (.cons (.dat (.int .u64)) (.cons (.dat yi) .nil)))))), obs := [(64, .perm 24 3 yi), (9, .cells (.cons (.dat (.int .u64)) .nil))] } }, [(0, { acts := [], S := { slots := [0], sh := (.cons (.arr 64) .nil), obs := [(64, .perm 24 3 yi)] } })], (yh [] .nil), Int × (Int × Int), Int × (((List Nat) × Y2) × Int), (List Nat) × Y2, fun k v => (((), (k.1, (k.2.1, ((), (k.2.2, (v.1, ())))))), (v.2.1, ((v.2.2, ()), ()))), fun t => (t.1.2.1, (t.1.2.2.1, t.1.2.2.2.2.1)), fun t => (t.1.2.2.2.2.2.1, (t.2.1, t.2.2.1.1)), S_zaw_0, fun _ r => .l (.exit 0 (mkSt ({ slots := [0], sh := (.cons (.arr 64) .nil), obs := [(64, .perm 24 3 yi)] }) (((), ()), (r, ()))))⟩
noncomputable def T_zaw (a2_ : Int) (a3_ : Int) (_a4_ : (HL [y1, y1] → Option (Int))) (a1_ : (List Nat) × Y2) : Tr ((List Nat) × Y2) :=
 .t (decide ((8 : Int) ≤ (IntKind.wrap .i64 (a3_ - a2_))))
 (.c (Int) (F_zbh (IntKind.wrap .i64 (a3_ - a2_))) fun r1_ =>
 .g (!decide ((4 : Int) = 0)) <|
 .c ((List Nat) × Y2) (L_zaw_0 (a2_, ((IntKind.wrap .i64 (a3_ - a2_)), r1_)) ((IntKind.wrap .i64 ((IntKind.wrap .i64 (a2_ + (IntKind.wrap .i64 ((IntKind.wrap .i64 (Int.tdiv (IntKind.wrap .i64 (a3_ - a2_)) (4 : Int))) * (2 : Int))))) - (1 : Int))), (a1_, (IntKind.wrap .u64 (IntKind.wrap .i64 (a3_ - a2_)))))) fun r10_ =>
 .l r10_)
 (.l a1_)
noncomputable def F_zaw (a2_ : Int) (a3_ : Int) (a4_ : (HL [y1, y1] → Option (Int))) (a1_ : (List Nat) × Y2) : Option ((List Nat) × Y2) := (T_zaw a2_ a3_ a4_ a1_).ev
noncomputable def A_zaw : Sh := (.cons (.arr 64) (.cons (.dat yi) (.cons (.dat yi) (.cons (.clo [y1, y1] yi) .nil))))
noncomputable def I_zaw : List (Nat × OSh) := [(64, .perm 24 3 yi)]
noncomputable def K_zaw : RetK := { acts := [], res := [], sh := .nil, obs := [(64, .perm 24 3 yi)], pins := [(0, 0, 64)] }
noncomputable def D_zaw : FD := ⟨A_zaw, I_zaw, [.arg 0], (List Nat) × Y2, fun x => F_zaw x.1.2.1 x.1.2.2.1 x.1.2.2.2.1 x.2.1, fun r => ([], [(64, .perm false 24 3 yi r.1 r.2)])⟩
noncomputable def E_zaw : Env := envOf [(238, D_zbh), (239, D_zbs)]
noncomputable def Z_zaw : Nat → Nat → List Nat := fun _ _ => []
noncomputable def O_zaw : List (Nat × LD) := [(0, DL_zaw_0)]
noncomputable def C_zaw : Code := (f231.body).getD .skip
noncomputable def T_zbi (a1_ : List Y1) (a2_ : Int) (a3_ : Int) (a5_ : (HL [y1, y1] → Option (Int))) (a4_ : Int) : Tr (Int × (Int × Int)) :=
 .g (inR a3_ (List.length a1_)) <|
 .g (inR a2_ (List.length a1_)) <|
 .c (Int) (a5_ ((List.getD a1_ (Int.toNat a3_) ([] : Y1)), ((List.getD a1_ (Int.toNat a2_) ([] : Y1)), ()))) fun r1_ =>
 .t (decide (r1_ < (0 : Int)))
 (.l (a3_, (a2_, (IntKind.wrap .i64 (a4_ + (1 : Int))))))
 (.l (a2_, (a3_, a4_)))
noncomputable def F_zbi (a1_ : List Y1) (a2_ : Int) (a3_ : Int) (a5_ : (HL [y1, y1] → Option (Int))) (a4_ : Int) : Option (Int × (Int × Int)) := (T_zbi a1_ a2_ a3_ a5_ a4_).ev
noncomputable def A_zbi : Sh := (.cons (.dat y2) (.cons (.dat yi) (.cons (.dat yi) (.cons (.box 64 0) (.cons (.clo [y1, y1] yi) .nil)))))
noncomputable def I_zbi : List (Nat × OSh) := [(64, .cells (.cons (.dat yi) .nil))]
noncomputable def K_zbi : RetK := { acts := [], res := [.tmp 10, .tmp 11], sh := (.cons (.dat yi) (.cons (.dat yi) .nil)), obs := [(64, .cells (.cons (.dat yi) .nil))], pins := [(3, 0, 64)] }
noncomputable def D_zbi : FD := ⟨A_zbi, I_zbi, [.arg 3], Int × (Int × Int), fun x => F_zbi x.1.1 x.1.2.1 x.1.2.2.1 x.1.2.2.2.2.1 x.2.1.1, fun r => ([.dat yi r.1, .dat yi r.2.1], [(64, .cells [.dat yi r.2.2])])⟩
noncomputable def E_zbi : Env := envOf []
noncomputable def Z_zbi : Nat → Nat → List Nat := fun _ _ => []
noncomputable def O_zbi : List (Nat × LD) := []
noncomputable def C_zbi : Code := (f260.body).getD .skip
noncomputable def T_zbf (a1_ : List Y1) (a2_ : Int) (a3_ : Int) (a4_ : Int) (a6_ : (HL [y1, y1] → Option (Int))) (a5_ : Int) : Tr (Int × Int) :=
 .c (Int × (Int × Int)) (F_zbi a1_ a2_ a3_ a6_ a5_) fun r1_ =>
 .c (Int × (Int × Int)) (F_zbi a1_ r1_.2.1 a4_ a6_ r1_.2.2) fun r2_ =>
 .c (Int × (Int × Int)) (F_zbi a1_ r1_.1 r2_.1 a6_ r2_.2.2) fun r3_ =>
 .l (r3_.2.1, r3_.2.2)
noncomputable def F_zbf (a1_ : List Y1) (a2_ : Int) (a3_ : Int) (a4_ : Int) (a6_ : (HL [y1, y1] → Option (Int))) (a5_ : Int) : Option (Int × Int) := (T_zbf a1_ a2_ a3_ a4_ a6_ a5_).ev
noncomputable def A_zbf : Sh := (.cons (.dat y2) (.cons (.dat yi) (.cons (.dat yi) (.cons (.dat yi) (.cons (.box 64 0) (.cons (.clo [y1, y1] yi) .nil))))))
noncomputable def I_zbf : List (Nat × OSh) := [(64, .cells (.cons (.dat yi) .nil))]
noncomputable def K_zbf : RetK := { acts := [], res := [.tmp 12], sh := (.cons (.dat yi) .nil), obs := [(64, .cells (.cons (.dat yi) .nil))], pins := [(4, 0, 64)] }
noncomputable def D_zbf : FD := ⟨A_zbf, I_zbf, [.arg 4], Int × (Int), fun x => F_zbf x.1.1 x.1.2.1 x.1.2.2.1 x.1.2.2.2.1 x.1.2.2.2.2.2.1 x.2.1.1, fun r => ([.dat yi r.1], [(64, .cells [.dat yi r.2])])⟩
noncomputable def E_zbf : Env := envOf [(260, D_zbi)]
noncomputable def Z_zbf : Nat → Nat → List Nat := fun _ _ => []
noncomputable def O_zbf : List (Nat × LD) := []
noncomputable def C_zbf : Code := (f254.body).getD .skip
noncomputable def T_zbd (a1_ : List Y1) (a2_ : Int) (a4_ : (HL [y1, y1] → Option (Int))) (a3_ : Int) : Tr (Int × Int) :=
 .c (Int × Int) (F_zbf a1_ (IntKind.wrap .i64 (a2_ - (1 : Int))) a2_ (IntKind.wrap .i64 (a2_ + (1 : Int))) a4_ a3_) fun r1_ =>
 .l (r1_.1, r1_.2)
noncomputable def F_zbd (a1_ : List Y1) (a2_ : Int) (a4_ : (HL [y1, y1] → Option (Int))) (a3_ : Int) : Option (Int × Int) := (T_zbd a1_ a2_ a4_ a3_).ev
noncomputable def A_zbd : Sh := (.cons (.dat y2) (.cons (.dat yi) (.cons (.box 64 0) (.cons (.clo [y1, y1] yi) .nil))))
noncomputable def I_zbd : List (Nat × OSh) := [(64, .cells (.cons (.dat yi) .nil))]
noncomputable def K_zbd : RetK := { acts := [], res := [.tmp 8], sh := (.cons (.dat yi) .nil), obs := [(64, .cells (.cons (.dat yi) .nil))], pins := [(2, 0, 64)] }
noncomputable def D_zbd : FD := ⟨A_zbd, I_zbd, [.arg 2], Int × (Int), fun x => F_zbd x.1.1 x.1.2.1 x.1.2.2.2.1 x.2.1.1, fun r => ([.dat yi r.1], [(64, .cells [.dat yi r.2])])⟩
noncomputable def E_zbd : Env := envOf [(254, D_zbf)]
noncomputable def Z_zbd : Nat → Nat → List Nat := fun _ _ => []
noncomputable def O_zbd : List (Nat × LD) := []
noncomputable def C_zbd : Code := (f253.body).getD .skip
noncomputable def T_zay (a1_ : List Y1) (a2_ : Int) (a3_ : Int) (a4_ : (HL [y1, y1] → Option (Int))) : Tr (Int × Int) :=
 .g (!decide ((4 : Int) = 0)) <|
 .g (!decide ((4 : Int) = 0)) <|
 .g (!decide ((4 : Int) = 0)) <|
 .t (decide ((8 : Int) ≤ (IntKind.wrap .i64 (a3_ - a2_))))
 (.t (decide ((50 : Int) ≤ (IntKind.wrap .i64 (a3_ - a2_))))
 (.c (Int × Int) (F_zbd a1_ (IntKind.wrap .i64 (a2_ + (IntKind.wrap .i64 ((IntKind.wrap .i64 (Int.tdiv (IntKind.wrap .i64 (a3_ - a2_)) (4 : Int))) * (1 : Int))))) a4_ (0 : Int)) fun r1_ =>
 .c (Int × Int) (F_zbd a1_ (IntKind.wrap .i64 (a2_ + (IntKind.wrap .i64 ((IntKind.wrap .i64 (Int.tdiv (IntKind.wrap .i64 (a3_ - a2_)) (4 : Int))) * (2 : Int))))) a4_ r1_.2) fun r2_ =>
 .c (Int × Int) (F_zbd a1_ (IntKind.wrap .i64 (a2_ + (IntKind.wrap .i64 ((IntKind.wrap .i64 (Int.tdiv (IntKind.wrap .i64 (a3_ - a2_)) (4 : Int))) * (3 : Int))))) a4_ r2_.2) fun r3_ =>
 .c (Int × Int) (F_zbf a1_ r1_.1 r2_.1 r3_.1 a4_ r3_.2) fun r4_ =>
 .t (r4_.2 == (0 : Int))
 (.l (r4_.1, (1 : Int)))
 (.t (r4_.2 == (12 : Int))
 (.l (r4_.1, (2 : Int)))
 (.l (r4_.1, (0 : Int)))))
 (.c (Int × Int) (F_zbf a1_ (IntKind.wrap .i64 (a2_ + (IntKind.wrap .i64 ((IntKind.wrap .i64 (Int.tdiv (IntKind.wrap .i64 (a3_ - a2_)) (4 : Int))) * (1 : Int))))) (IntKind.wrap .i64 (a2_ + (IntKind.wrap .i64 ((IntKind.wrap .i64 (Int.tdiv (IntKind.wrap .i64 (a3_ - a2_)) (4 : Int))) * (2 : Int))))) (IntKind.wrap .i64 (a2_ + (IntKind.wrap .i64 ((IntKind.wrap .i64 (Int.tdiv (IntKind.wrap .i64 (a3_ - a2_)) (4 : Int))) * (3 : Int))))) a4_ (0 : Int)) fun r5_ =>
 .t (r5_.2 == (0 : Int))
 (.l (r5_.1, (1 : Int)))
 (.t (r5_.2 == (12 : Int))
 (.l (r5_.1, (2 : Int)))
 (.l (r5_.1, (0 : Int))))))
 (.t ((0 : Int) == (0 : Int))
 (.l ((IntKind.wrap .i64 (a2_ + (IntKind.wrap .i64 ((IntKind.wrap .i64 (Int.tdiv (IntKind.wrap .i64 (a3_ - a2_)) (4 : Int))) * (2 : Int))))), (1 : Int)))
 (.t ((0 : Int) == (12 : Int))
 (.l ((IntKind.wrap .i64 (a2_ + (IntKind.wrap .i64 ((IntKind.wrap .i64 (Int.tdiv (IntKind.wrap .i64 (a3_ - a2_)) (4 : Int))) * (2 : Int))))), (2 : Int)))
 (.l ((IntKind.wrap .i64 (a2_ + (IntKind.wrap .i64 ((IntKind.wrap .i64 (Int.tdiv (IntKind.wrap .i64 (a3_ - a2_)) (4 : Int))) * (2 : Int))))), (0 : Int)))))
noncomputable def F_zay (a1_ : List Y1) (a2_ : Int) (a3_ : Int) (a4_ : (HL [y1, y1] → Option (Int))) : Option (Int × Int) := (T_zay a1_ a2_ a3_ a4_).ev
noncomputable def A_zay : Sh := (.cons (.dat y2) (.cons (.dat yi) (.cons (.dat yi) (.cons (.clo [y1, y1] yi) .nil))))
noncomputable def I_zay : List (Nat × OSh) := []
noncomputable def K_zay : RetK := { acts := [], res := [.tmp 8, .tmp 9], sh := (.cons (.dat yi) (.cons (.dat yi) .nil)), obs := [], pins := [] }
noncomputable def D_zay : FD := ⟨A_zay, I_zay, [], Int × (Int), fun x => F_zay x.1.1 x.1.2.1 x.1.2.2.1 x.1.2.2.2.1, fun r => ([.dat yi r.1, .dat yi r.2], [])⟩
noncomputable def E_zay : Env := envOf [(253, D_zbd), (254, D_zbf)]
noncomputable def Z_zay : Nat → Nat → List Nat := fun _ _ => []
noncomputable def O_zay : List (Nat × LD) := []
noncomputable def C_zay : Code := (f232.body).getD .skip
noncomputable def S_zbl_0 (k : Int × (((HL [y1, y1] → Option (Int))) × (Int × ((List Nat) × Y2)))) (v : Int) : Tr ((Int) ⊕ (Int)) :=
 .t (decide (v ≤ k.2.2.1))
 (.g (inR v (List.length k.2.2.2.1)) <|
 .g (decide ((Int.toNat v) < List.length k.2.2.2.1) && decide ((List.getD k.2.2.2.1 (Int.toNat v) 0) < List.length k.2.2.2.2)) <|
 .g (inR k.1 (List.length k.2.2.2.1)) <|
 .g (decide ((Int.toNat k.1) < List.length k.2.2.2.1) && decide ((List.getD k.2.2.2.1 (Int.toNat k.1) 0) < List.length k.2.2.2.2)) <|
 .c (Int) (k.2.1 ((List.getD k.2.2.2.2 (List.getD k.2.2.2.1 (Int.toNat v) 0) ([] : Y1)), ((List.getD k.2.2.2.2 (List.getD k.2.2.2.1 (Int.toNat k.1) 0) ([] : Y1)), ()))) fun r6_ =>
 .t (decide (r6_ < (0 : Int)))
 (.l (.inl (IntKind.wrap .i64 (v + (1 : Int)))))
 (.l (.inr v)))
 (.l (.inr v))
noncomputable def L_zbl_0 (k : Int × (((HL [y1, y1] → Option (Int))) × (Int × ((List Nat) × Y2)))) (v : Int) : Option (Int) := iter (fun v => (S_zbl_0 k v).ev) v
noncomputable def DL_zbl_0 : LD := ⟨{ acts := [], S := { slots := [0, 1, 4, 12, 13], sh := (.cons (.arr 64) (.cons (.dat yi) (.cons (.clo [y1, y1] yi) (.cons (.dat yi) (.cons (.dat yi) .nil))))), obs := [(64, .perm 24 3 yi)] } }, [(0, { acts := [], S := { slots := [0, 1, 4, 12, 13], sh := (.cons (.arr 64) (.cons (.dat yi) (.cons (.clo [y1, y1] yi) (.cons (.dat yi) (.cons (.dat yi) .nil))))), obs := [(64, .perm 24 3 yi)] } })], (yh [] .nil), Int × (((HL [y1, y1] → Option (Int))) × (Int × ((List Nat) × Y2))), Int, Int, fun k v => (((), (k.1, (k.2.1, (v, (k.2.2.1, ()))))), (k.2.2.2, ())), fun t => (t.1.2.1, (t.1.2.2.1, (t.1.2.2.2.2.1, t.2.1))), fun t => t.1.2.2.2.1, S_zbl_0, fun k r => .l (.exit 0 (mkSt ({ slots := [0, 1, 4, 12, 13], sh := (.cons (.arr 64) (.cons (.dat yi) (.cons (.clo [y1, y1] yi) (.cons (.dat yi) (.cons (.dat yi) .nil))))), obs := [(64, .perm 24 3 yi)] }) (((), (k.1, (k.2.1, (r, (k.2.2.1, ()))))), (k.2.2.2, ()))))⟩
noncomputable def S_zbl_2 (k : Int × (((HL [y1, y1] → Option (Int))) × (Int × ((List Nat) × Y2)))) (v : Int) : Tr ((Int) ⊕ (Int)) :=
 .t (decide (k.2.2.1 ≤ v))
 (.g (inR v (List.length k.2.2.2.1)) <|
 .g (decide ((Int.toNat v) < List.length k.2.2.2.1) && decide ((List.getD k.2.2.2.1 (Int.toNat v) 0) < List.length k.2.2.2.2)) <|
 .g (inR k.1 (List.length k.2.2.2.1)) <|
 .g (decide ((Int.toNat k.1) < List.length k.2.2.2.1) && decide ((List.getD k.2.2.2.1 (Int.toNat k.1) 0) < List.length k.2.2.2.2)) <|
 .c (Int) (k.2.1 ((List.getD k.2.2.2.2 (List.getD k.2.2.2.1 (Int.toNat v) 0) ([] : Y1)), ((List.getD k.2.2.2.2 (List.getD k.2.2.2.1 (Int.toNat k.1) 0) ([] : Y1)), ()))) fun r18_ =>
 .t (!(decide (r18_ < (0 : Int))))
 (.l (.inl (IntKind.wrap .i64 (v - (1 : Int)))))
 (.l (.inr v)))
 (.l (.inr v))
noncomputable def L_zbl_2 (k : Int × (((HL [y1, y1] → Option (Int))) × (Int × ((List Nat) × Y2)))) (v : Int) : Option (Int) := iter (fun v => (S_zbl_2 k v).ev) v
noncomputable def DL_zbl_2 : LD := ⟨{ acts := [], S := { slots := [0, 1, 4, 12, 13], sh := (.cons (.arr 64) (.cons (.dat yi) (.cons (.clo [y1, y1] yi) (.cons (.dat yi) (.cons (.dat yi) .nil))))), obs := [(64, .perm 24 3 yi)] } }, [(2, { acts := [], S := { slots := [0, 1, 4, 12, 13], sh := (.cons (.arr 64) (.cons (.dat yi) (.cons (.clo [y1, y1] yi) (.cons (.dat yi) (.cons (.dat yi) .nil))))), obs := [(64, .perm 24 3 yi)] } })], (yh [] .nil), Int × (((HL [y1, y1] → Option (Int))) × (Int × ((List Nat) × Y2))), Int, Int, fun k v => (((), (k.1, (k.2.1, (k.2.2.1, (v, ()))))), (k.2.2.2, ())), fun t => (t.1.2.1, (t.1.2.2.1, (t.1.2.2.2.1, t.2.1))), fun t => t.1.2.2.2.2.1, S_zbl_2, fun k r => .l (.exit 2 (mkSt ({ slots := [0, 1, 4, 12, 13], sh := (.cons (.arr 64) (.cons (.dat yi) (.cons (.clo [y1, y1] yi) (.cons (.dat yi) (.cons (.dat yi) .nil))))), obs := [(64, .perm 24 3 yi)] }) (((), (k.1, (k.2.1, (k.2.2.1, (r, ()))))), (k.2.2.2, ()))))⟩
noncomputable def S_zbl_6 (k : Int × (((HL [y1, y1] → Option (Int))) × (Int × ((List Nat) × Y2)))) (v : Int) : Tr ((Int) ⊕ (Int)) :=
 .t (decide (v ≤ k.2.2.1))
 (.g (inR v (List.length k.2.2.2.1)) <|
 .g (decide ((Int.toNat v) < List.length k.2.2.2.1) && decide ((List.getD k.2.2.2.1 (Int.toNat v) 0) < List.length k.2.2.2.2)) <|
 .g (inR k.1 (List.length k.2.2.2.1)) <|
 .g (decide ((Int.toNat k.1) < List.length k.2.2.2.1) && decide ((List.getD k.2.2.2.1 (Int.toNat k.1) 0) < List.length k.2.2.2.2)) <|
 .c (Int) (k.2.1 ((List.getD k.2.2.2.2 (List.getD k.2.2.2.1 (Int.toNat v) 0) ([] : Y1)), ((List.getD k.2.2.2.2 (List.getD k.2.2.2.1 (Int.toNat k.1) 0) ([] : Y1)), ()))) fun r35_ =>
 .t (decide (r35_ < (0 : Int)))
 (.l (.inl (IntKind.wrap .i64 (v + (1 : Int)))))
 (.l (.inr v)))
 (.l (.inr v))
noncomputable def L_zbl_6 (k : Int × (((HL [y1, y1] → Option (Int))) × (Int × ((List Nat) × Y2)))) (v : Int) : Option (Int) := iter (fun v => (S_zbl_6 k v).ev) v
noncomputable def DL_zbl_6 : LD := ⟨{ acts := [], S := { slots := [0, 1, 4, 12, 13], sh := (.cons (.arr 64) (.cons (.dat yi) (.cons (.clo [y1, y1] yi) (.cons (.dat yi) (.cons (.dat yi) .nil))))), obs := [(64, .perm 24 3 yi)] } }, [(6, { acts := [], S := { slots := [0, 1, 4, 12, 13], sh := (.cons (.arr 64) (.cons (.dat yi) (.cons (.clo [y1, y1] yi) (.cons (.dat yi) (.cons (.dat yi) .nil))))), obs := [(64, .perm 24 3 yi)] } })], (yh [] .nil), Int × (((HL [y1, y1] → Option (Int))) × (Int × ((List Nat) × Y2))), Int, Int, fun k v => (((), (k.1, (k.2.1, (v, (k.2.2.1, ()))))), (k.2.2.2, ())), fun t => (t.1.2.1, (t.1.2.2.1, (t.1.2.2.2.2.1, t.2.1))), fun t => t.1.2.2.2.1, S_zbl_6, fun k r => .l (.exit 6 (mkSt ({ slots := [0, 1, 4, 12, 13], sh := (.cons (.arr 64) (.cons (.dat yi) (.cons (.clo [y1, y1] yi) (.cons (.dat yi) (.cons (.dat yi) .nil))))), obs := [(64, .perm 24 3 yi)] }) (((), (k.1, (k.2.1, (r, (k.2.2.1, ()))))), (k.2.2.2, ()))))⟩
noncomputable def S_zbl_8 (k : Int × (((HL [y1, y1] → Option (Int))) × (Int × ((List Nat) × Y2)))) (v : Int) : Tr ((Int) ⊕ (Int)) :=
 .t (decide (k.2.2.1 ≤ v))
 (.g (inR v (List.length k.2.2.2.1)) <|
 .g (decide ((Int.toNat v) < List.length k.2.2.2.1) && decide ((List.getD k.2.2.2.1 (Int.toNat v) 0) < List.length k.2.2.2.2)) <|
 .g (inR k.1 (List.length k.2.2.2.1)) <|
 .g (decide ((Int.toNat k.1) < List.length k.2.2.2.1) && decide ((List.getD k.2.2.2.1 (Int.toNat k.1) 0) < List.length k.2.2.2.2)) <|
 .c (Int) (k.2.1 ((List.getD k.2.2.2.2 (List.getD k.2.2.2.1 (Int.toNat v) 0) ([] : Y1)), ((List.getD k.2.2.2.2 (List.getD k.2.2.2.1 (Int.toNat k.1) 0) ([] : Y1)), ()))) fun r47_ =>
 .t (!(decide (r47_ < (0 : Int))))
 (.l (.inl (IntKind.wrap .i64 (v - (1 : Int)))))
 (.l (.inr v)))
 (.l (.inr v))
noncomputable def L_zbl_8 (k : Int × (((HL [y1, y1] → Option (Int))) × (Int × ((List Nat) × Y2)))) (v : Int) : Option (Int) := iter (fun v => (S_zbl_8 k v).ev) v
noncomputable def DL_zbl_8 : LD := ⟨{ acts := [], S := { slots := [0, 1, 4, 12, 13], sh := (.cons (.arr 64) (.cons (.dat yi) (.cons (.clo [y1, y1] yi) (.cons (.dat yi) (.cons (.dat yi) .nil))))), obs := [(64, .perm 24 3 yi)] } }, [(8, { acts := [], S := { slots := [0, 1, 4, 12, 13], sh := (.cons (.arr 64) (.cons (.dat yi) (.cons (.clo [y1, y1] yi) (.cons (.dat yi) (.cons (.dat yi) .nil))))), obs := [(64, .perm 24 3 yi)] } })], (yh [] .nil), Int × (((HL [y1, y1] → Option (Int))) × (Int × ((List Nat) × Y2))), Int, Int, fun k v => (((), (k.1, (k.2.1, (k.2.2.1, (v, ()))))), (k.2.2.2, ())), fun t => (t.1.2.1, (t.1.2.2.1, (t.1.2.2.2.1, t.2.1))), fun t => t.1.2.2.2.2.1, S_zbl_8, fun k r => .l (.exit 8 (mkSt ({ slots := [0, 1, 4, 12, 13], sh := (.cons (.arr 64) (.cons (.dat yi) (.cons (.clo [y1, y1] yi) (.cons (.dat yi) (.cons (.dat yi) .nil))))), obs := [(64, .perm 24 3 yi)] }) (((), (k.1, (k.2.1, (k.2.2.1, (r, ()))))), (k.2.2.2, ()))))⟩
noncomputable def S_zbl_4 (k : Int × ((HL [y1, y1] → Option (Int)))) (v : Int × (Int × ((List Nat) × Y2))) : Tr ((Int × (Int × ((List Nat) × Y2))) ⊕ (Int × ((List Nat) × Y2))) :=
 .c (Int) (L_zbl_6 (k.1, (k.2, (v.2.1, v.2.2))) v.1) fun r41_ =>
 .c (Int) (L_zbl_8 (k.1, (k.2, (r41_, v.2.2))) v.2.1) fun r53_ =>
 .t (decide (r53_ < r41_))
 (.l (.inr (r53_, v.2.2)))
 (.g (inR r53_ (List.length v.2.2.1)) <|
 .g (decide ((Int.toNat r53_) < List.length v.2.2.1) && decide ((List.getD v.2.2.1 (Int.toNat r53_) 0) < List.length v.2.2.2)) <|
 .g (inR r41_ (List.length v.2.2.1)) <|
 .g (decide ((Int.toNat r41_) < List.length v.2.2.1) && decide ((List.getD v.2.2.1 (Int.toNat r41_) 0) < List.length v.2.2.2)) <|
 .g (inR r41_ (List.length v.2.2.1)) <|
 .g (decide ((Int.toNat r41_) < List.length v.2.2.1)) <|
 .g (inR r53_ (List.length (List.set v.2.2.1 (Int.toNat r41_) (List.getD v.2.2.1 (Int.toNat r53_) 0)))) <|
 .g (decide ((Int.toNat r53_) < List.length (List.set v.2.2.1 (Int.toNat r41_) (List.getD v.2.2.1 (Int.toNat r53_) 0)))) <|
 .l (.inl ((IntKind.wrap .i64 (r41_ + (1 : Int))), ((IntKind.wrap .i64 (r53_ - (1 : Int))), ((List.set (List.set v.2.2.1 (Int.toNat r41_) (List.getD v.2.2.1 (Int.toNat r53_) 0)) (Int.toNat r53_) (List.getD v.2.2.1 (Int.toNat r41_) 0)), v.2.2.2)))))
noncomputable def L_zbl_4 (k : Int × ((HL [y1, y1] → Option (Int)))) (v : Int × (Int × ((List Nat) × Y2))) : Option (Int × ((List Nat) × Y2)) := iter (fun v => (S_zbl_4 k v).ev) v
noncomputable def DL_zbl_4 : LD := ⟨{ acts := [], S := { slots := [0, 1, 4, 12, 13], sh := (.cons (.arr 64) (.cons (.dat yi) (.cons (.clo [y1, y1] yi) (.cons (.dat yi) (.cons (.dat yi) .nil))))), obs := [(64, .perm 24 3 yi)] } }, [(4, { acts := [], S := { slots := [0, 1, 13], sh := (.cons (.arr 64) (.cons (.dat yi) (.cons (.dat yi) .nil))), obs := [(64, .perm 24 3 yi)] } })], (yh [] .nil), Int × ((HL [y1, y1] → Option (Int))), Int × (Int × ((List Nat) × Y2)), Int × ((List Nat) × Y2), fun k v => (((), (k.1, (k.2, (v.1, (v.2.1, ()))))), (v.2.2, ())), fun t => (t.1.2.1, t.1.2.2.1), fun t => (t.1.2.2.2.1, (t.1.2.2.2.2.1, t.2.1)), S_zbl_4, fun k r => .l (.exit 4 (mkSt ({ slots := [0, 1, 13], sh := (.cons (.arr 64) (.cons (.dat yi) (.cons (.dat yi) .nil))), obs := [(64, .perm 24 3 yi)] }) (((), (k.1, (r.1, ()))), (r.2, ()))))⟩
noncomputable def T_zbl (a2_ : Int) (a3_ : Int) (a4_ : Int) (a5_ : (HL [y1, y1] → Option (Int))) (a1_ : (List Nat) × Y2) : Tr (Int × (Bool × ((List Nat) × Y2))) :=
 .g (inR a4_ (List.length a1_.1)) <|
 .g (decide ((Int.toNat a4_) < List.length a1_.1) && decide ((List.getD a1_.1 (Int.toNat a4_) 0) < List.length a1_.2)) <|
 .g (inR a2_ (List.length a1_.1)) <|
 .g (decide ((Int.toNat a2_) < List.length a1_.1) && decide ((List.getD a1_.1 (Int.toNat a2_) 0) < List.length a1_.2)) <|
 .g (inR a2_ (List.length a1_.1)) <|
 .g (decide ((Int.toNat a2_) < List.length a1_.1)) <|
 .g (inR a4_ (List.length (List.set a1_.1 (Int.toNat a2_) (List.getD a1_.1 (Int.toNat a4_) 0)))) <|
 .g (decide ((Int.toNat a4_) < List.length (List.set a1_.1 (Int.toNat a2_) (List.getD a1_.1 (Int.toNat a4_) 0)))) <|
 .c (Int) (L_zbl_0 (a2_, (a5_, ((IntKind.wrap .i64 (a3_ - (1 : Int))), ((List.set (List.set a1_.1 (Int.toNat a2_) (List.getD a1_.1 (Int.toNat a4_) 0)) (Int.toNat a4_) (List.getD a1_.1 (Int.toNat a2_) 0)), a1_.2)))) (IntKind.wrap .i64 (a2_ + (1 : Int)))) fun r12_ =>
 .c (Int) (L_zbl_2 (a2_, (a5_, (r12_, ((List.set (List.set a1_.1 (Int.toNat a2_) (List.getD a1_.1 (Int.toNat a4_) 0)) (Int.toNat a4_) (List.getD a1_.1 (Int.toNat a2_) 0)), a1_.2)))) (IntKind.wrap .i64 (a3_ - (1 : Int)))) fun r24_ =>
 .t (decide (r24_ < r12_))
 (.g (inR a2_ (List.length (List.set (List.set a1_.1 (Int.toNat a2_) (List.getD a1_.1 (Int.toNat a4_) 0)) (Int.toNat a4_) (List.getD a1_.1 (Int.toNat a2_) 0)))) <|
 .g (decide ((Int.toNat a2_) < List.length (List.set (List.set a1_.1 (Int.toNat a2_) (List.getD a1_.1 (Int.toNat a4_) 0)) (Int.toNat a4_) (List.getD a1_.1 (Int.toNat a2_) 0))) && decide ((List.getD (List.set (List.set a1_.1 (Int.toNat a2_) (List.getD a1_.1 (Int.toNat a4_) 0)) (Int.toNat a4_) (List.getD a1_.1 (Int.toNat a2_) 0)) (Int.toNat a2_) 0) < List.length a1_.2)) <|
 .g (inR r24_ (List.length (List.set (List.set a1_.1 (Int.toNat a2_) (List.getD a1_.1 (Int.toNat a4_) 0)) (Int.toNat a4_) (List.getD a1_.1 (Int.toNat a2_) 0)))) <|
 .g (decide ((Int.toNat r24_) < List.length (List.set (List.set a1_.1 (Int.toNat a2_) (List.getD a1_.1 (Int.toNat a4_) 0)) (Int.toNat a4_) (List.getD a1_.1 (Int.toNat a2_) 0))) && decide ((List.getD (List.set (List.set a1_.1 (Int.toNat a2_) (List.getD a1_.1 (Int.toNat a4_) 0)) (Int.toNat a4_) (List.getD a1_.1 (Int.toNat a2_) 0)) (Int.toNat r24_) 0) < List.length a1_.2)) <|
 .g (inR r24_ (List.length (List.set (List.set a1_.1 (Int.toNat a2_) (List.getD a1_.1 (Int.toNat a4_) 0)) (Int.toNat a4_) (List.getD a1_.1 (Int.toNat a2_) 0)))) <|
 .g (decide ((Int.toNat r24_) < List.length (List.set (List.set a1_.1 (Int.toNat a2_) (List.getD a1_.1 (Int.toNat a4_) 0)) (Int.toNat a4_) (List.getD a1_.1 (Int.toNat a2_) 0)))) <|
 .g (inR a2_ (List.length (List.set (List.set (List.set a1_.1 (Int.toNat a2_) (List.getD a1_.1 (Int.toNat a4_) 0)) (Int.toNat a4_) (List.getD a1_.1 (Int.toNat a2_) 0)) (Int.toNat r24_) (List.getD (List.set (List.set a1_.1 (Int.toNat a2_) (List.getD a1_.1 (Int.toNat a4_) 0)) (Int.toNat a4_) (List.getD a1_.1 (Int.toNat a2_) 0)) (Int.toNat a2_) 0)))) <|
 .g (decide ((Int.toNat a2_) < List.length (List.set (List.set (List.set a1_.1 (Int.toNat a2_) (List.getD a1_.1 (Int.toNat a4_) 0)) (Int.toNat a4_) (List.getD a1_.1 (Int.toNat a2_) 0)) (Int.toNat r24_) (List.getD (List.set (List.set a1_.1 (Int.toNat a2_) (List.getD a1_.1 (Int.toNat a4_) 0)) (Int.toNat a4_) (List.getD a1_.1 (Int.toNat a2_) 0)) (Int.toNat a2_) 0)))) <|
 .l (r24_, (true, ((List.set (List.set (List.set (List.set a1_.1 (Int.toNat a2_) (List.getD a1_.1 (Int.toNat a4_) 0)) (Int.toNat a4_) (List.getD a1_.1 (Int.toNat a2_) 0)) (Int.toNat r24_) (List.getD (List.set (List.set a1_.1 (Int.toNat a2_) (List.getD a1_.1 (Int.toNat a4_) 0)) (Int.toNat a4_) (List.getD a1_.1 (Int.toNat a2_) 0)) (Int.toNat a2_) 0)) (Int.toNat a2_) (List.getD (List.set (List.set a1_.1 (Int.toNat a2_) (List.getD a1_.1 (Int.toNat a4_) 0)) (Int.toNat a4_) (List.getD a1_.1 (Int.toNat a2_) 0)) (Int.toNat r24_) 0)), a1_.2))))
 (.g (inR r24_ (List.length (List.set (List.set a1_.1 (Int.toNat a2_) (List.getD a1_.1 (Int.toNat a4_) 0)) (Int.toNat a4_) (List.getD a1_.1 (Int.toNat a2_) 0)))) <|
 .g (decide ((Int.toNat r24_) < List.length (List.set (List.set a1_.1 (Int.toNat a2_) (List.getD a1_.1 (Int.toNat a4_) 0)) (Int.toNat a4_) (List.getD a1_.1 (Int.toNat a2_) 0))) && decide ((List.getD (List.set (List.set a1_.1 (Int.toNat a2_) (List.getD a1_.1 (Int.toNat a4_) 0)) (Int.toNat a4_) (List.getD a1_.1 (Int.toNat a2_) 0)) (Int.toNat r24_) 0) < List.length a1_.2)) <|
 .g (inR r12_ (List.length (List.set (List.set a1_.1 (Int.toNat a2_) (List.getD a1_.1 (Int.toNat a4_) 0)) (Int.toNat a4_) (List.getD a1_.1 (Int.toNat a2_) 0)))) <|
 .g (decide ((Int.toNat r12_) < List.length (List.set (List.set a1_.1 (Int.toNat a2_) (List.getD a1_.1 (Int.toNat a4_) 0)) (Int.toNat a4_) (List.getD a1_.1 (Int.toNat a2_) 0))) && decide ((List.getD (List.set (List.set a1_.1 (Int.toNat a2_) (List.getD a1_.1 (Int.toNat a4_) 0)) (Int.toNat a4_) (List.getD a1_.1 (Int.toNat a2_) 0)) (Int.toNat r12_) 0) < List.length a1_.2)) <|
 .g (inR r12_ (List.length (List.set (List.set a1_.1 (Int.toNat a2_) (List.getD a1_.1 (Int.toNat a4_) 0)) (Int.toNat a4_) (List.getD a1_.1 (Int.toNat a2_) 0)))) <|
 .g (decide ((Int.toNat r12_) < List.length (List.set (List.set a1_.1 (Int.toNat a2_) (List.getD a1_.1 (Int.toNat a4_) 0)) (Int.toNat a4_) (List.getD a1_.1 (Int.toNat a2_) 0)))) <|
 .g (inR r24_ (List.length (List.set (List.set (List.set a1_.1 (Int.toNat a2_) (List.getD a1_.1 (Int.toNat a4_) 0)) (Int.toNat a4_) (List.getD a1_.1 (Int.toNat a2_) 0)) (Int.toNat r12_) (List.getD (List.set (List.set a1_.1 (Int.toNat a2_) (List.getD a1_.1 (Int.toNat a4_) 0)) (Int.toNat a4_) (List.getD a1_.1 (Int.toNat a2_) 0)) (Int.toNat r24_) 0)))) <|
 .g (decide ((Int.toNat r24_) < List.length (List.set (List.set (List.set a1_.1 (Int.toNat a2_) (List.getD a1_.1 (Int.toNat a4_) 0)) (Int.toNat a4_) (List.getD a1_.1 (Int.toNat a2_) 0)) (Int.toNat r12_) (List.getD (List.set (List.set a1_.1 (Int.toNat a2_) (List.getD a1_.1 (Int.toNat a4_) 0)) (Int.toNat a4_) (List.getD a1_.1 (Int.toNat a2_) 0)) (Int.toNat r24_) 0)))) <|
 .c (Int × ((List Nat) × Y2)) (L_zbl_4 (a2_, a5_) ((IntKind.wrap .i64 (r12_ + (1 : Int))), ((IntKind.wrap .i64 (r24_ - (1 : Int))), ((List.set (List.set (List.set (List.set a1_.1 (Int.toNat a2_) (List.getD a1_.1 (Int.toNat a4_) 0)) (Int.toNat a4_) (List.getD a1_.1 (Int.toNat a2_) 0)) (Int.toNat r12_) (List.getD (List.set (List.set a1_.1 (Int.toNat a2_) (List.getD a1_.1 (Int.toNat a4_) 0)) (Int.toNat a4_) (List.getD a1_.1 (Int.toNat a2_) 0)) (Int.toNat r24_) 0)) (Int.toNat r24_) (List.getD (List.set (List.set a1_.1 (Int.toNat a2_) (List.getD a1_.1 (Int.toNat a4_) 0)) (Int.toNat a4_) (List.getD a1_.1 (Int.toNat a2_) 0)) (Int.toNat r12_) 0)), a1_.2)))) fun r57_ =>
 .g (inR a2_ (List.length r57_.2.1)) <|
 .g (decide ((Int.toNat a2_) < List.length r57_.2.1) && decide ((List.getD r57_.2.1 (Int.toNat a2_) 0) < List.length r57_.2.2)) <|
 .g (inR r57_.1 (List.length r57_.2.1)) <|
 .g (decide ((Int.toNat r57_.1) < List.length r57_.2.1) && decide ((List.getD r57_.2.1 (Int.toNat r57_.1) 0) < List.length r57_.2.2)) <|
 .g (inR r57_.1 (List.length r57_.2.1)) <|
 .g (decide ((Int.toNat r57_.1) < List.length r57_.2.1)) <|
 .g (inR a2_ (List.length (List.set r57_.2.1 (Int.toNat r57_.1) (List.getD r57_.2.1 (Int.toNat a2_) 0)))) <|
 .g (decide ((Int.toNat a2_) < List.length (List.set r57_.2.1 (Int.toNat r57_.1) (List.getD r57_.2.1 (Int.toNat a2_) 0)))) <|
 .l (r57_.1, (false, ((List.set (List.set r57_.2.1 (Int.toNat r57_.1) (List.getD r57_.2.1 (Int.toNat a2_) 0)) (Int.toNat a2_) (List.getD r57_.2.1 (Int.toNat r57_.1) 0)), r57_.2.2))))
noncomputable def F_zbl (a2_ : Int) (a3_ : Int) (a4_ : Int) (a5_ : (HL [y1, y1] → Option (Int))) (a1_ : (List Nat) × Y2) : Option (Int × (Bool × ((List Nat) × Y2))) := (T_zbl a2_ a3_ a4_ a5_ a1_).ev
noncomputable def A_zbl : Sh := (.cons (.arr 64) (.cons (.dat yi) (.cons (.dat yi) (.cons (.dat yi) (.cons (.clo [y1, y1] yi) .nil)))))
noncomputable def I_zbl : List (Nat × OSh) := [(64, .perm 24 3 yi)]
noncomputable def K_zbl : RetK := { acts := [], res := [.tmp 10, .tmp 11], sh := (.cons (.dat yi) (.cons (.dat .bool) .nil)), obs := [(64, .perm 24 3 yi)], pins := [(0, 0, 64)] }
noncomputable def D_zbl : FD := ⟨A_zbl, I_zbl, [.arg 0], Int × (Bool × ((List Nat) × Y2)), fun x => F_zbl x.1.2.1 x.1.2.2.1 x.1.2.2.2.1 x.1.2.2.2.2.1 x.2.1, fun r => ([.dat yi r.1, .dat .bool r.2.1], [(64, .perm false 24 3 yi r.2.2.1 r.2.2.2)])⟩
noncomputable def E_zbl : Env := envOf []
noncomputable def Z_zbl : Nat → Nat → List Nat := fun _ _ => []
noncomputable def O_zbl : List (Nat × LD) := [(0, DL_zbl_0), (2, DL_zbl_2), (6, DL_zbl_6), (8, DL_zbl_8), (4, DL_zbl_4)]
noncomputable def C_zbl : Code := (f236.body).getD .skip
noncomputable def S_zbo_0 (rec_ : (Int) → (Int) → (Int) → ((HL [y1, y1] → Option (Int))) → ((List Nat) × Y2) → Option ((List Nat) × Y2)) (k : (HL [y1, y1] → Option (Int))) (v : Int × (Int × (Int × (Bool × (Bool × ((List Nat) × Y2)))))) : Tr ((Int × (Int × (Int × (Bool × (Bool × ((List Nat) × Y2)))))) ⊕ ((List Nat) × Y2)) :=
 .t (decide ((IntKind.wrap .i64 (v.2.1 - v.1)) ≤ (12 : Int)))
 (.c ((List Nat) × Y2) (F_zbb v.1 v.2.1 k v.2.2.2.2.2) fun r8_ =>
 .l (.inr r8_))
 (.t (v.2.2.1 == (0 : Int))
 (.f)
 (.t (!v.2.2.2.1)
 (.c ((List Nat) × Y2) (F_zaw v.1 v.2.1 k v.2.2.2.2.2) fun r9_ =>
 .c (Int × Int) (F_zay (permL r9_.1 r9_.2) v.1 v.2.1 k) fun r10_ =>
 .t (r10_.2 == (2 : Int))
 (.f)
 (.t v.2.2.2.1
 (.t v.2.2.2.2.1
 (.t (r10_.2 == (1 : Int))
 (.f)
 (.t (decide ((0 : Int) < v.1))
 (.g (inR (IntKind.wrap .i64 (v.1 - (1 : Int))) (List.length r9_.1)) <|
 .g (decide ((Int.toNat (IntKind.wrap .i64 (v.1 - (1 : Int)))) < List.length r9_.1) && decide ((List.getD r9_.1 (Int.toNat (IntKind.wrap .i64 (v.1 - (1 : Int)))) 0) < List.length r9_.2)) <|
 .g (inR r10_.1 (List.length r9_.1)) <|
 .g (decide ((Int.toNat r10_.1) < List.length r9_.1) && decide ((List.getD r9_.1 (Int.toNat r10_.1) 0) < List.length r9_.2)) <|
 .c (Int) (k ((List.getD r9_.2 (List.getD r9_.1 (Int.toNat (IntKind.wrap .i64 (v.1 - (1 : Int)))) 0) ([] : Y1)), ((List.getD r9_.2 (List.getD r9_.1 (Int.toNat r10_.1) 0) ([] : Y1)), ()))) fun r11_ =>
 .t (!(decide (r11_ < (0 : Int))))
 (.f)
 (.c (Int × (Bool × ((List Nat) × Y2))) (F_zbl v.1 v.2.1 r10_.1 k r9_) fun r12_ =>
 .g (!decide ((8 : Int) = 0)) <|
 .t (decide ((IntKind.wrap .i64 (r12_.1 - v.1)) < (IntKind.wrap .i64 (v.2.1 - r12_.1))))
 (.c ((List Nat) × Y2) (rec_ v.1 r12_.1 (IntKind.wrap .i64 (v.2.2.1 - (1 : Int))) k r12_.2.2) fun r13_ =>
 .l (.inl ((IntKind.wrap .i64 (r12_.1 + (1 : Int))), (v.2.1, ((IntKind.wrap .i64 (v.2.2.1 - (1 : Int))), ((decide ((IntKind.wrap .i64 (Int.tdiv (IntKind.wrap .i64 (v.2.1 - v.1)) (8 : Int))) ≤ (IntKind.wrap .i64 (r12_.1 - v.1)))), (r12_.2.1, r13_)))))))
 (.c ((List Nat) × Y2) (rec_ (IntKind.wrap .i64 (r12_.1 + (1 : Int))) v.2.1 (IntKind.wrap .i64 (v.2.2.1 - (1 : Int))) k r12_.2.2) fun r14_ =>
 .l (.inl (v.1, (r12_.1, ((IntKind.wrap .i64 (v.2.2.1 - (1 : Int))), ((decide ((IntKind.wrap .i64 (Int.tdiv (IntKind.wrap .i64 (v.2.1 - v.1)) (8 : Int))) ≤ (IntKind.wrap .i64 (v.2.1 - r12_.1)))), (r12_.2.1, r14_)))))))))
 (.c (Int × (Bool × ((List Nat) × Y2))) (F_zbl v.1 v.2.1 r10_.1 k r9_) fun r15_ =>
 .g (!decide ((8 : Int) = 0)) <|
 .t (decide ((IntKind.wrap .i64 (r15_.1 - v.1)) < (IntKind.wrap .i64 (v.2.1 - r15_.1))))
 (.c ((List Nat) × Y2) (rec_ v.1 r15_.1 (IntKind.wrap .i64 (v.2.2.1 - (1 : Int))) k r15_.2.2) fun r16_ =>
 .l (.inl ((IntKind.wrap .i64 (r15_.1 + (1 : Int))), (v.2.1, ((IntKind.wrap .i64 (v.2.2.1 - (1 : Int))), ((decide ((IntKind.wrap .i64 (Int.tdiv (IntKind.wrap .i64 (v.2.1 - v.1)) (8 : Int))) ≤ (IntKind.wrap .i64 (r15_.1 - v.1)))), (r15_.2.1, r16_)))))))
 (.c ((List Nat) × Y2) (rec_ (IntKind.wrap .i64 (r15_.1 + (1 : Int))) v.2.1 (IntKind.wrap .i64 (v.2.2.1 - (1 : Int))) k r15_.2.2) fun r17_ =>
 .l (.inl (v.1, (r15_.1, ((IntKind.wrap .i64 (v.2.2.1 - (1 : Int))), ((decide ((IntKind.wrap .i64 (Int.tdiv (IntKind.wrap .i64 (v.2.1 - v.1)) (8 : Int))) ≤ (IntKind.wrap .i64 (v.2.1 - r15_.1)))), (r15_.2.1, r17_))))))))))
 (.t (decide ((0 : Int) < v.1))
 (.g (inR (IntKind.wrap .i64 (v.1 - (1 : Int))) (List.length r9_.1)) <|
 .g (decide ((Int.toNat (IntKind.wrap .i64 (v.1 - (1 : Int)))) < List.length r9_.1) && decide ((List.getD r9_.1 (Int.toNat (IntKind.wrap .i64 (v.1 - (1 : Int)))) 0) < List.length r9_.2)) <|
 .g (inR r10_.1 (List.length r9_.1)) <|
 .g (decide ((Int.toNat r10_.1) < List.length r9_.1) && decide ((List.getD r9_.1 (Int.toNat r10_.1) 0) < List.length r9_.2)) <|
 .c (Int) (k ((List.getD r9_.2 (List.getD r9_.1 (Int.toNat (IntKind.wrap .i64 (v.1 - (1 : Int)))) 0) ([] : Y1)), ((List.getD r9_.2 (List.getD r9_.1 (Int.toNat r10_.1) 0) ([] : Y1)), ()))) fun r18_ =>
 .t (!(decide (r18_ < (0 : Int))))
 (.f)
 (.c (Int × (Bool × ((List Nat) × Y2))) (F_zbl v.1 v.2.1 r10_.1 k r9_) fun r19_ =>
 .g (!decide ((8 : Int) = 0)) <|
 .t (decide ((IntKind.wrap .i64 (r19_.1 - v.1)) < (IntKind.wrap .i64 (v.2.1 - r19_.1))))
 (.c ((List Nat) × Y2) (rec_ v.1 r19_.1 (IntKind.wrap .i64 (v.2.2.1 - (1 : Int))) k r19_.2.2) fun r20_ =>
 .l (.inl ((IntKind.wrap .i64 (r19_.1 + (1 : Int))), (v.2.1, ((IntKind.wrap .i64 (v.2.2.1 - (1 : Int))), ((decide ((IntKind.wrap .i64 (Int.tdiv (IntKind.wrap .i64 (v.2.1 - v.1)) (8 : Int))) ≤ (IntKind.wrap .i64 (r19_.1 - v.1)))), (r19_.2.1, r20_)))))))
 (.c ((List Nat) × Y2) (rec_ (IntKind.wrap .i64 (r19_.1 + (1 : Int))) v.2.1 (IntKind.wrap .i64 (v.2.2.1 - (1 : Int))) k r19_.2.2) fun r21_ =>
 .l (.inl (v.1, (r19_.1, ((IntKind.wrap .i64 (v.2.2.1 - (1 : Int))), ((decide ((IntKind.wrap .i64 (Int.tdiv (IntKind.wrap .i64 (v.2.1 - v.1)) (8 : Int))) ≤ (IntKind.wrap .i64 (v.2.1 - r19_.1)))), (r19_.2.1, r21_)))))))))
 (.c (Int × (Bool × ((List Nat) × Y2))) (F_zbl v.1 v.2.1 r10_.1 k r9_) fun r22_ =>
 .g (!decide ((8 : Int) = 0)) <|
 .t (decide ((IntKind.wrap .i64 (r22_.1 - v.1)) < (IntKind.wrap .i64 (v.2.1 - r22_.1))))
 (.c ((List Nat) × Y2) (rec_ v.1 r22_.1 (IntKind.wrap .i64 (v.2.2.1 - (1 : Int))) k r22_.2.2) fun r23_ =>
 .l (.inl ((IntKind.wrap .i64 (r22_.1 + (1 : Int))), (v.2.1, ((IntKind.wrap .i64 (v.2.2.1 - (1 : Int))), ((decide ((IntKind.wrap .i64 (Int.tdiv (IntKind.wrap .i64 (v.2.1 - v.1)) (8 : Int))) ≤ (IntKind.wrap .i64 (r22_.1 - v.1)))), (r22_.2.1, r23_)))))))
 (.c ((List Nat) × Y2) (rec_ (IntKind.wrap .i64 (r22_.1 + (1 : Int))) v.2.1 (IntKind.wrap .i64 (v.2.2.1 - (1 : Int))) k r22_.2.2) fun r24_ =>
 .l (.inl (v.1, (r22_.1, ((IntKind.wrap .i64 (v.2.2.1 - (1 : Int))), ((decide ((IntKind.wrap .i64 (Int.tdiv (IntKind.wrap .i64 (v.2.1 - v.1)) (8 : Int))) ≤ (IntKind.wrap .i64 (v.2.1 - r22_.1)))), (r22_.2.1, r24_))))))))))
 (.t (decide ((0 : Int) < v.1))
 (.g (inR (IntKind.wrap .i64 (v.1 - (1 : Int))) (List.length r9_.1)) <|
 .g (decide ((Int.toNat (IntKind.wrap .i64 (v.1 - (1 : Int)))) < List.length r9_.1) && decide ((List.getD r9_.1 (Int.toNat (IntKind.wrap .i64 (v.1 - (1 : Int)))) 0) < List.length r9_.2)) <|
 .g (inR r10_.1 (List.length r9_.1)) <|
 .g (decide ((Int.toNat r10_.1) < List.length r9_.1) && decide ((List.getD r9_.1 (Int.toNat r10_.1) 0) < List.length r9_.2)) <|
 .c (Int) (k ((List.getD r9_.2 (List.getD r9_.1 (Int.toNat (IntKind.wrap .i64 (v.1 - (1 : Int)))) 0) ([] : Y1)), ((List.getD r9_.2 (List.getD r9_.1 (Int.toNat r10_.1) 0) ([] : Y1)), ()))) fun r25_ =>
 .t (!(decide (r25_ < (0 : Int))))
 (.f)
 (.c (Int × (Bool × ((List Nat) × Y2))) (F_zbl v.1 v.2.1 r10_.1 k r9_) fun r26_ =>
 .g (!decide ((8 : Int) = 0)) <|
 .t (decide ((IntKind.wrap .i64 (r26_.1 - v.1)) < (IntKind.wrap .i64 (v.2.1 - r26_.1))))
 (.c ((List Nat) × Y2) (rec_ v.1 r26_.1 (IntKind.wrap .i64 (v.2.2.1 - (1 : Int))) k r26_.2.2) fun r27_ =>
 .l (.inl ((IntKind.wrap .i64 (r26_.1 + (1 : Int))), (v.2.1, ((IntKind.wrap .i64 (v.2.2.1 - (1 : Int))), ((decide ((IntKind.wrap .i64 (Int.tdiv (IntKind.wrap .i64 (v.2.1 - v.1)) (8 : Int))) ≤ (IntKind.wrap .i64 (r26_.1 - v.1)))), (r26_.2.1, r27_)))))))
 (.c ((List Nat) × Y2) (rec_ (IntKind.wrap .i64 (r26_.1 + (1 : Int))) v.2.1 (IntKind.wrap .i64 (v.2.2.1 - (1 : Int))) k r26_.2.2) fun r28_ =>
 .l (.inl (v.1, (r26_.1, ((IntKind.wrap .i64 (v.2.2.1 - (1 : Int))), ((decide ((IntKind.wrap .i64 (Int.tdiv (IntKind.wrap .i64 (v.2.1 - v.1)) (8 : Int))) ≤ (IntKind.wrap .i64 (v.2.1 - r26_.1)))), (r26_.2.1, r28_)))))))))
 (.c (Int × (Bool × ((List Nat) × Y2))) (F_zbl v.1 v.2.1 r10_.1 k r9_) fun r29_ =>
 .g (!decide ((8 : Int) = 0)) <|
 .t (decide ((IntKind.wrap .i64 (r29_.1 - v.1)) < (IntKind.wrap .i64 (v.2.1 - r29_.1))))
 (.c ((List Nat) × Y2) (rec_ v.1 r29_.1 (IntKind.wrap .i64 (v.2.2.1 - (1 : Int))) k r29_.2.2) fun r30_ =>
 .l (.inl ((IntKind.wrap .i64 (r29_.1 + (1 : Int))), (v.2.1, ((IntKind.wrap .i64 (v.2.2.1 - (1 : Int))), ((decide ((IntKind.wrap .i64 (Int.tdiv (IntKind.wrap .i64 (v.2.1 - v.1)) (8 : Int))) ≤ (IntKind.wrap .i64 (r29_.1 - v.1)))), (r29_.2.1, r30_)))))))
 (.c ((List Nat) × Y2) (rec_ (IntKind.wrap .i64 (r29_.1 + (1 : Int))) v.2.1 (IntKind.wrap .i64 (v.2.2.1 - (1 : Int))) k r29_.2.2) fun r31_ =>
 .l (.inl (v.1, (r29_.1, ((IntKind.wrap .i64 (v.2.2.1 - (1 : Int))), ((decide ((IntKind.wrap .i64 (Int.tdiv (IntKind.wrap .i64 (v.2.1 - v.1)) (8 : Int))) ≤ (IntKind.wrap .i64 (v.2.1 - r29_.1)))), (r29_.2.1, r31_)))))))))))
 (.c (Int × Int) (F_zay (permL v.2.2.2.2.2.1 v.2.2.2.2.2.2) v.1 v.2.1 k) fun r32_ =>
 .t (r32_.2 == (2 : Int))
 (.f)
 (.t v.2.2.2.1
 (.t v.2.2.2.2.1
 (.t (r32_.2 == (1 : Int))
 (.f)
 (.t (decide ((0 : Int) < v.1))
 (.g (inR (IntKind.wrap .i64 (v.1 - (1 : Int))) (List.length v.2.2.2.2.2.1)) <|
 .g (decide ((Int.toNat (IntKind.wrap .i64 (v.1 - (1 : Int)))) < List.length v.2.2.2.2.2.1) && decide ((List.getD v.2.2.2.2.2.1 (Int.toNat (IntKind.wrap .i64 (v.1 - (1 : Int)))) 0) < List.length v.2.2.2.2.2.2)) <|
 .g (inR r32_.1 (List.length v.2.2.2.2.2.1)) <|
 .g (decide ((Int.toNat r32_.1) < List.length v.2.2.2.2.2.1) && decide ((List.getD v.2.2.2.2.2.1 (Int.toNat r32_.1) 0) < List.length v.2.2.2.2.2.2)) <|
 .c (Int) (k ((List.getD v.2.2.2.2.2.2 (List.getD v.2.2.2.2.2.1 (Int.toNat (IntKind.wrap .i64 (v.1 - (1 : Int)))) 0) ([] : Y1)), ((List.getD v.2.2.2.2.2.2 (List.getD v.2.2.2.2.2.1 (Int.toNat r32_.1) 0) ([] : Y1)), ()))) fun r33_ =>
 .t (!(decide (r33_ < (0 : Int))))
 (.f)
 (.c (Int × (Bool × ((List Nat) × Y2))) (F_zbl v.1 v.2.1 r32_.1 k v.2.2.2.2.2) fun r34_ =>
 .g (!decide ((8 : Int) = 0)) <|
 .t (decide ((IntKind.wrap .i64 (r34_.1 - v.1)) < (IntKind.wrap .i64 (v.2.1 - r34_.1))))
 (.c ((List Nat) × Y2) (rec_ v.1 r34_.1 v.2.2.1 k r34_.2.2) fun r35_ =>
 .l (.inl ((IntKind.wrap .i64 (r34_.1 + (1 : Int))), (v.2.1, (v.2.2.1, ((decide ((IntKind.wrap .i64 (Int.tdiv (IntKind.wrap .i64 (v.2.1 - v.1)) (8 : Int))) ≤ (IntKind.wrap .i64 (r34_.1 - v.1)))), (r34_.2.1, r35_)))))))
 (.c ((List Nat) × Y2) (rec_ (IntKind.wrap .i64 (r34_.1 + (1 : Int))) v.2.1 v.2.2.1 k r34_.2.2) fun r36_ =>
 .l (.inl (v.1, (r34_.1, (v.2.2.1, ((decide ((IntKind.wrap .i64 (Int.tdiv (IntKind.wrap .i64 (v.2.1 - v.1)) (8 : Int))) ≤ (IntKind.wrap .i64 (v.2.1 - r34_.1)))), (r34_.2.1, r36_)))))))))
 (.c (Int × (Bool × ((List Nat) × Y2))) (F_zbl v.1 v.2.1 r32_.1 k v.2.2.2.2.2) fun r37_ =>
 .g (!decide ((8 : Int) = 0)) <|
 .t (decide ((IntKind.wrap .i64 (r37_.1 - v.1)) < (IntKind.wrap .i64 (v.2.1 - r37_.1))))
 (.c ((List Nat) × Y2) (rec_ v.1 r37_.1 v.2.2.1 k r37_.2.2) fun r38_ =>
 .l (.inl ((IntKind.wrap .i64 (r37_.1 + (1 : Int))), (v.2.1, (v.2.2.1, ((decide ((IntKind.wrap .i64 (Int.tdiv (IntKind.wrap .i64 (v.2.1 - v.1)) (8 : Int))) ≤ (IntKind.wrap .i64 (r37_.1 - v.1)))), (r37_.2.1, r38_)))))))
 (.c ((List Nat) × Y2) (rec_ (IntKind.wrap .i64 (r37_.1 + (1 : Int))) v.2.1 v.2.2.1 k r37_.2.2) fun r39_ =>
 .l (.inl (v.1, (r37_.1, (v.2.2.1, ((decide ((IntKind.wrap .i64 (Int.tdiv (IntKind.wrap .i64 (v.2.1 - v.1)) (8 : Int))) ≤ (IntKind.wrap .i64 (v.2.1 - r37_.1)))), (r37_.2.1, r39_))))))))))
 (.t (decide ((0 : Int) < v.1))
 (.g (inR (IntKind.wrap .i64 (v.1 - (1 : Int))) (List.length v.2.2.2.2.2.1)) <|
 .g (decide ((Int.toNat (IntKind.wrap .i64 (v.1 - (1 : Int)))) < List.length v.2.2.2.2.2.1) && decide ((List.getD v.2.2.2.2.2.1 (Int.toNat (IntKind.wrap .i64 (v.1 - (1 : Int)))) 0) < List.length v.2.2.2.2.2.2)) <|
 .g (inR r32_.1 (List.length v.2.2.2.2.2.1)) <|
 .g (decide ((Int.toNat r32_.1) < List.length v.2.2.2.2.2.1) && decide ((List.getD v.2.2.2.2.2.1 (Int.toNat r32_.1) 0) < List.length v.2.2.2.2.2.2)) <|
 .c (Int) (k ((List.getD v.2.2.2.2.2.2 (List.getD v.2.2.2.2.2.1 (Int.toNat (IntKind.wrap .i64 (v.1 - (1 : Int)))) 0) ([] : Y1)), ((List.getD v.2.2.2.2.2.2 (List.getD v.2.2.2.2.2.1 (Int.toNat r32_.1) 0) ([] : Y1)), ()))) fun r40_ =>
 .t (!(decide (r40_ < (0 : Int))))
 (.f)
 (.c (Int × (Bool × ((List Nat) × Y2))) (F_zbl v.1 v.2.1 r32_.1 k v.2.2.2.2.2) fun r41_ =>
 .g (!decide ((8 : Int) = 0)) <|
 .t (decide ((IntKind.wrap .i64 (r41_.1 - v.1)) < (IntKind.wrap .i64 (v.2.1 - r41_.1))))
 (.c ((List Nat) × Y2) (rec_ v.1 r41_.1 v.2.2.1 k r41_.2.2) fun r42_ =>
 .l (.inl ((IntKind.wrap .i64 (r41_.1 + (1 : Int))), (v.2.1, (v.2.2.1, ((decide ((IntKind.wrap .i64 (Int.tdiv (IntKind.wrap .i64 (v.2.1 - v.1)) (8 : Int))) ≤ (IntKind.wrap .i64 (r41_.1 - v.1)))), (r41_.2.1, r42_)))))))
 (.c ((List Nat) × Y2) (rec_ (IntKind.wrap .i64 (r41_.1 + (1 : Int))) v.2.1 v.2.2.1 k r41_.2.2) fun r43_ =>
 .l (.inl (v.1, (r41_.1, (v.2.2.1, ((decide ((IntKind.wrap .i64 (Int.tdiv (IntKind.wrap .i64 (v.2.1 - v.1)) (8 : Int))) ≤ (IntKind.wrap .i64 (v.2.1 - r41_.1)))), (r41_.2.1, r43_)))))))))
 (.c (Int × (Bool × ((List Nat) × Y2))) (F_zbl v.1 v.2.1 r32_.1 k v.2.2.2.2.2) fun r44_ =>
 .g (!decide ((8 : Int) = 0)) <|
 .t (decide ((IntKind.wrap .i64 (r44_.1 - v.1)) < (IntKind.wrap .i64 (v.2.1 - r44_.1))))
 (.c ((List Nat) × Y2) (rec_ v.1 r44_.1 v.2.2.1 k r44_.2.2) fun r45_ =>
 .l (.inl ((IntKind.wrap .i64 (r44_.1 + (1 : Int))), (v.2.1, (v.2.2.1, ((decide ((IntKind.wrap .i64 (Int.tdiv (IntKind.wrap .i64 (v.2.1 - v.1)) (8 : Int))) ≤ (IntKind.wrap .i64 (r44_.1 - v.1)))), (r44_.2.1, r45_)))))))
 (.c ((List Nat) × Y2) (rec_ (IntKind.wrap .i64 (r44_.1 + (1 : Int))) v.2.1 v.2.2.1 k r44_.2.2) fun r46_ =>
 .l (.inl (v.1, (r44_.1, (v.2.2.1, ((decide ((IntKind.wrap .i64 (Int.tdiv (IntKind.wrap .i64 (v.2.1 - v.1)) (8 : Int))) ≤ (IntKind.wrap .i64 (v.2.1 - r44_.1)))), (r44_.2.1, r46_))))))))))
 (.t (decide ((0 : Int) < v.1))
 (.g (inR (IntKind.wrap .i64 (v.1 - (1 : Int))) (List.length v.2.2.2.2.2.1)) <|
 .g (decide ((Int.toNat (IntKind.wrap .i64 (v.1 - (1 : Int)))) < List.length v.2.2.2.2.2.1) && decide ((List.getD v.2.2.2.2.2.1 (Int.toNat (IntKind.wrap .i64 (v.1 - (1 : Int)))) 0) < List.length v.2.2.2.2.2.2)) <|
 .g (inR r32_.1 (List.length v.2.2.2.2.2.1)) <|
 .g (decide ((Int.toNat r32_.1) < List.length v.2.2.2.2.2.1) && decide ((List.getD v.2.2.2.2.2.1 (Int.toNat r32_.1) 0) < List.length v.2.2.2.2.2.2)) <|
 .c (Int) (k ((List.getD v.2.2.2.2.2.2 (List.getD v.2.2.2.2.2.1 (Int.toNat (IntKind.wrap .i64 (v.1 - (1 : Int)))) 0) ([] : Y1)), ((List.getD v.2.2.2.2.2.2 (List.getD v.2.2.2.2.2.1 (Int.toNat r32_.1) 0) ([] : Y1)), ()))) fun r47_ =>
 .t (!(decide (r47_ < (0 : Int))))
 (.f)
 (.c (Int × (Bool × ((List Nat) × Y2))) (F_zbl v.1 v.2.1 r32_.1 k v.2.2.2.2.2) fun r48_ =>
 .g (!decide ((8 : Int) = 0)) <|
 .t (decide ((IntKind.wrap .i64 (r48_.1 - v.1)) < (IntKind.wrap .i64 (v.2.1 - r48_.1))))
 (.c ((List Nat) × Y2) (rec_ v.1 r48_.1 v.2.2.1 k r48_.2.2) fun r49_ =>
 .l (.inl ((IntKind.wrap .i64 (r48_.1 + (1 : Int))), (v.2.1, (v.2.2.1, ((decide ((IntKind.wrap .i64 (Int.tdiv (IntKind.wrap .i64 (v.2.1 - v.1)) (8 : Int))) ≤ (IntKind.wrap .i64 (r48_.1 - v.1)))), (r48_.2.1, r49_)))))))
 (.c ((List Nat) × Y2) (rec_ (IntKind.wrap .i64 (r48_.1 + (1 : Int))) v.2.1 v.2.2.1 k r48_.2.2) fun r50_ =>
 .l (.inl (v.1, (r48_.1, (v.2.2.1, ((decide ((IntKind.wrap .i64 (Int.tdiv (IntKind.wrap .i64 (v.2.1 - v.1)) (8 : Int))) ≤ (IntKind.wrap .i64 (v.2.1 - r48_.1)))), (r48_.2.1, r50_)))))))))
 (.c (Int × (Bool × ((List Nat) × Y2))) (F_zbl v.1 v.2.1 r32_.1 k v.2.2.2.2.2) fun r51_ =>
 .g (!decide ((8 : Int) = 0)) <|
 .t (decide ((IntKind.wrap .i64 (r51_.1 - v.1)) < (IntKind.wrap .i64 (v.2.1 - r51_.1))))
 (.c ((List Nat) × Y2) (rec_ v.1 r51_.1 v.2.2.1 k r51_.2.2) fun r52_ =>
 .l (.inl ((IntKind.wrap .i64 (r51_.1 + (1 : Int))), (v.2.1, (v.2.2.1, ((decide ((IntKind.wrap .i64 (Int.tdiv (IntKind.wrap .i64 (v.2.1 - v.1)) (8 : Int))) ≤ (IntKind.wrap .i64 (r51_.1 - v.1)))), (r51_.2.1, r52_)))))))
 (.c ((List Nat) × Y2) (rec_ (IntKind.wrap .i64 (r51_.1 + (1 : Int))) v.2.1 v.2.2.1 k r51_.2.2) fun r53_ =>
 .l (.inl (v.1, (r51_.1, (v.2.2.1, ((decide ((IntKind.wrap .i64 (Int.tdiv (IntKind.wrap .i64 (v.2.1 - v.1)) (8 : Int))) ≤ (IntKind.wrap .i64 (v.2.1 - r51_.1)))), (r51_.2.1, r53_)))))))))))))
noncomputable def L_zbo_0 (rec_ : (Int) → (Int) → (Int) → ((HL [y1, y1] → Option (Int))) → ((List Nat) × Y2) → Option ((List Nat) × Y2)) (k : (HL [y1, y1] → Option (Int))) (v : Int × (Int × (Int × (Bool × (Bool × ((List Nat) × Y2)))))) : Option ((List Nat) × Y2) := iter (fun v => (S_zbo_0 rec_ k v).ev) v
noncomputable def DL_zbo_0 (rec_ : (Int) → (Int) → (Int) → ((HL [y1, y1] → Option (Int))) → ((List Nat) × Y2) → Option ((List Nat) × Y2)) : LD where
 head := { acts := [], S := { slots := [0, 1, 2, 3, 4, 10, 11], sh := (.cons (.arr 64) (.cons (.dat yi) (.cons (.dat yi) (.cons (.dat yi) (.cons (.clo [y1, y1] yi) (.cons (.dat .bool) (.cons (.dat .bool) .nil))))))), obs := [(64, .perm 24 3 yi)] } }
 exits := []
 rets := { acts := [], S := { slots := [0], sh := (.cons (.arr 64) .nil), obs := [(64, .perm 24 3 yi)] } }
 K := (HL [y1, y1] → Option (Int))
 V := Int × (Int × (Int × (Bool × (Bool × ((List Nat) × Y2)))))
 R := (List Nat) × Y2
 join := fun k v => (((), (v.1, (v.2.1, (v.2.2.1, (k, (v.2.2.2.1, (v.2.2.2.2.1, ()))))))), (v.2.2.2.2.2, ()))
 sk := fun t => t.1.2.2.2.2.1
 sv := fun t => (t.1.2.1, (t.1.2.2.1, (t.1.2.2.2.1, (t.1.2.2.2.2.2.1, (t.1.2.2.2.2.2.2.1, t.2.1)))))
 step := S_zbo_0 rec_
 leaf := fun _ r => .l (.ret (mkSt ({ slots := [0], sh := (.cons (.arr 64) .nil), obs := [(64, .perm 24 3 yi)] }) (((), ()), (r, ()))))
noncomputable def T_zbo (rec_ : (Int) → (Int) → (Int) → ((HL [y1, y1] → Option (Int))) → ((List Nat) × Y2) → Option ((List Nat) × Y2)) (a2_ : Int) (a3_ : Int) (a4_ : Int) (a5_ : (HL [y1, y1] → Option (Int))) (a1_ : (List Nat) × Y2) : Tr ((List Nat) × Y2) :=
 .c ((List Nat) × Y2) (L_zbo_0 rec_ a5_ (a2_, (a3_, (a4_, (true, (true, a1_)))))) fun r55_ =>
 .l r55_
noncomputable def F_zbo : Nat → (Int) → (Int) → (Int) → ((HL [y1, y1] → Option (Int))) → ((List Nat) × Y2) → Option ((List Nat) × Y2)
 | 0 => fun _ _ _ _ _ => none
 | n + 1 => fun a2_ a3_ a4_ a5_ a1_ => (T_zbo (F_zbo n) a2_ a3_ a4_ a5_ a1_).ev
noncomputable def A_zbo : Sh := (.cons (.arr 64) (.cons (.dat yi) (.cons (.dat yi) (.cons (.dat yi) (.cons (.clo [y1, y1] yi) .nil)))))
noncomputable def I_zbo : List (Nat × OSh) := [(64, .perm 24 3 yi)]
noncomputable def K_zbo : RetK := { acts := [], res := [], sh := .nil, obs := [(64, .perm 24 3 yi)], pins := [(0, 0, 64)] }
noncomputable def Dr_zbo (rec_ : (Int) → (Int) → (Int) → ((HL [y1, y1] → Option (Int))) → ((List Nat) × Y2) → Option ((List Nat) × Y2)) : FD where
 A := A_zbo
 ins := I_zbo
 lend := [.arg 0]
 R := (List Nat) × Y2
 F := fun x => rec_ x.1.2.1 x.1.2.2.1 x.1.2.2.2.1 x.1.2.2.2.2.1 x.2.1
 emb := fun r => ([], [(64, .perm false 24 3 yi r.1 r.2)])
noncomputable def D_zbo (n : Nat) : FD := Dr_zbo (F_zbo n)
noncomputable def E_zbo (rec_ : (Int) → (Int) → (Int) → ((HL [y1, y1] → Option (Int))) → ((List Nat) × Y2) → Option ((List Nat) × Y2)) : Env := envOf [(229, D_zbb), (231, D_zaw), (232, D_zay), (236, D_zbl), (203, Dr_zbo rec_)]
noncomputable def Z_zbo : Nat → Nat → List Nat := fun _ _ => []
noncomputable def O_zbo (rec_ : (Int) → (Int) → (Int) → ((HL [y1, y1] → Option (Int))) → ((List Nat) × Y2) → Option ((List Nat) × Y2)) : List (Nat × LD) := [(0, DL_zbo_0 rec_)]
noncomputable def C_zbo : Code := (f203.body).getD .skip
noncomputable def T_zau (a2_ : (HL [y1, y1] → Option (Int))) (a1_ : (List Nat) × Y2) : Tr ((List Nat) × Y2) :=
 .c (Int) (F_zam (IntKind.wrap .u64 ((List.length a1_.1 : Nat) : Int))) fun r1_ =>
 .c ((List Nat) × Y2) (F_zbo 1000000 (0 : Int) ((List.length a1_.1 : Nat) : Int) r1_ a2_ a1_) fun r2_ =>
 .l r2_
noncomputable def F_zau (a2_ : (HL [y1, y1] → Option (Int))) (a1_ : (List Nat) × Y2) : Option ((List Nat) × Y2) := (T_zau a2_ a1_).ev
noncomputable def A_zau : Sh := (.cons (.arr 64) (.cons (.clo [y1, y1] yi) .nil))
noncomputable def I_zau : List (Nat × OSh) := [(64, .perm 24 3 yi)]
noncomputable def K_zau : RetK := { acts := [], res := [], sh := .nil, obs := [(64, .perm 24 3 yi)], pins := [(0, 0, 64)] }
noncomputable def D_zau : FD := ⟨A_zau, I_zau, [.arg 0], (List Nat) × Y2, fun x => F_zau x.1.2.1 x.2.1, fun r => ([], [(64, .perm false 24 3 yi r.1 r.2)])⟩
noncomputable def E_zau : Env := envOf [(186, D_zam), (203, D_zbo 1000000)]
noncomputable def Z_zau : Nat → Nat → List Nat := fun _ _ => []
noncomputable def O_zau : List (Nat × LD) := []
noncomputable def C_zau : Code := (f181.body).getD .skip
noncomputable def T_zd (a1_ : Int) : Tr (Bool) :=
 .l (a1_ != a1_)
noncomputable def F_zd (a1_ : Int) : Option (Bool) := (T_zd a1_).ev
noncomputable def A_zd : Sh := (.cons (.dat yi) .nil)
noncomputable def I_zd : List (Nat × OSh) := []
noncomputable def K_zd : RetK := { acts := [], res := [.tmp 2], sh := (.cons (.dat .bool) .nil), obs := [], pins := [] }
noncomputable def D_zd : FD := ⟨A_zd, I_zd, [], Bool, fun x => F_zd x.1.1, fun r => ([.dat .bool r], [])⟩
noncomputable def E_zd : Env := envOf []
noncomputable def Z_zd : Nat → Nat → List Nat := fun _ _ => []
noncomputable def O_zd : List (Nat × LD) := []
noncomputable def C_zd : Code := (f195.body).getD .skip
noncomputable def T_za (a1_ : Int) (a2_ : Int) : Tr (Int) :=
 .c (Bool) (F_zd a1_) fun r1_ =>
 .c (Bool) (F_zd a2_) fun r2_ =>
 .t r1_
 (.t r2_
 (.l (0 : Int))
 (.l (-1 : Int)))
 (.t r2_
 (.l (1 : Int))
 (.t (decide (a1_ < a2_))
 (.l (-1 : Int))
 (.t (decide (a2_ < a1_))
 (.l (1 : Int))
 (.l (0 : Int)))))
noncomputable def F_za (a1_ : Int) (a2_ : Int) : Option (Int) := (T_za a1_ a2_).ev
noncomputable def A_za : Sh := (.cons (.dat yi) (.cons (.dat yi) .nil))
noncomputable def I_za : List (Nat × OSh) := []
noncomputable def K_za : RetK := { acts := [], res := [.tmp 4], sh := (.cons (.dat yi) .nil), obs := [], pins := [] }
noncomputable def D_za : FD := ⟨A_za, I_za, [], Int, fun x => F_za x.1.1 x.1.2.1, fun r => ([.dat yi r], [])⟩
noncomputable def E_za : Env := envOf [(195, D_zd)]
noncomputable def Z_za : Nat → Nat → List Nat := fun _ _ => []
noncomputable def O_za : List (Nat × LD) := []
noncomputable def C_za : Code := (f162.body).getD .skip
noncomputable def S_zao_0 (k : Y1 × (Y1 × (Y1 × Int))) (v : Int) : Tr ((Int) ⊕ ((Unit) ⊕ (Int))) :=
 .t (decide (v < k.2.2.2))
 (.g (inR v (List.length k.2.2.1)) <|
 .t (decide (((List.length k.2.1 : Nat) : Int) ≤ v))
 (.l (.inr (.inr (1 : Int))))
 (.g (inR v (List.length k.2.1)) <|
 .c (Int) (F_za (List.getD k.2.2.1 (Int.toNat v) (0 : Int)) (List.getD k.2.1 (Int.toNat v) (0 : Int))) fun r6_ =>
 .t (r6_ != (0 : Int))
 (.l (.inr (.inr r6_)))
 (.l (.inl (IntKind.wrap .i64 (v + (1 : Int)))))))
 (.l (.inr (.inl ())))
noncomputable def L_zao_0 (k : Y1 × (Y1 × (Y1 × Int))) (v : Int) : Option ((Unit) ⊕ (Int)) := iter (fun v => (S_zao_0 k v).ev) v
noncomputable def DL_zao_0 : LD := ⟨(yh [0, 1, 9, 10, 11] (.cons (.dat y1) (.cons (.dat y1) (.cons (.dat y1) (.cons (.dat yi) (.cons (.dat yi) .nil)))))), [(0, (yh [0, 1] (.cons (.dat y1) (.cons (.dat y1) .nil))))], (yh [4] (.cons (.dat yi) .nil)), Y1 × (Y1 × (Y1 × Int)), Int, (Unit) ⊕ (Int), fun k v => ((k.1, (k.2.1, (k.2.2.1, (k.2.2.2, (v, ()))))), ()), fun t => (t.1.1, (t.1.2.1, (t.1.2.2.1, t.1.2.2.2.1))), fun t => t.1.2.2.2.2.1, S_zao_0, fun k r => .s (Unit) (Int) r (fun _ => .l (.exit 0 (mkSt ((ys [0, 1] (.cons (.dat y1) (.cons (.dat y1) .nil)))) ((k.1, (k.2.1, ())), ())))) (fun b => .l (.ret (mkSt ((ys [4] (.cons (.dat yi) .nil))) ((b, ()), ()))))⟩
noncomputable def T_zao (a1_ : Y1) (a2_ : Y1) : Tr (Int) :=
 .c ((Unit) ⊕ (Int)) (L_zao_0 (a1_, (a2_, (a1_, ((List.length a1_ : Nat) : Int)))) (0 : Int)) fun r10_ =>
 .s (Unit) (Int) r10_
 (fun _ => .t (decide (((List.length a1_ : Nat) : Int) < ((List.length a2_ : Nat) : Int)))
 (.l (-1 : Int))
 (.l (0 : Int)))
 (fun r12_ => .l r12_)
noncomputable def F_zao (a1_ : Y1) (a2_ : Y1) : Option (Int) := (T_zao a1_ a2_).ev
noncomputable def A_zao : Sh := (.cons (.dat y1) (.cons (.dat y1) .nil))
noncomputable def I_zao : List (Nat × OSh) := []
noncomputable def K_zao : RetK := { acts := [], res := [.tmp 4], sh := (.cons (.dat yi) .nil), obs := [], pins := [] }
noncomputable def D_zao : FD := ⟨A_zao, I_zao, [], Int, fun x => F_zao x.1.1 x.1.2.1, fun r => ([.dat yi r], [])⟩
noncomputable def E_zao : Env := envOf [(162, D_za)]
noncomputable def Z_zao : Nat → Nat → List Nat := fun _ _ => []
noncomputable def O_zao : List (Nat × LD) := [(0, DL_zao_0)]
noncomputable def C_zao : Code := (f204.body).getD .skip
noncomputable def S_zc_0 (k : Int × (Y1 × Int)) (v : Int) : Tr ((Int) ⊕ ((Unit) ⊕ (Int))) :=
 .t (decide (v < k.2.2))
 (.g (inR v (List.length k.2.1)) <|
 .t ((List.getD k.2.1 (Int.toNat v) (0 : Int)) != k.1)
 (.l (.inr (.inr (List.getD k.2.1 (Int.toNat v) (0 : Int)))))
 (.l (.inl (IntKind.wrap .i64 (v + (1 : Int))))))
 (.l (.inr (.inl ())))
noncomputable def L_zc_0 (k : Int × (Y1 × Int)) (v : Int) : Option ((Unit) ⊕ (Int)) := iter (fun v => (S_zc_0 k v).ev) v
noncomputable def DL_zc_0 : LD := ⟨(yh [3, 6, 7, 8] (.cons (.dat yi) (.cons (.dat y1) (.cons (.dat yi) (.cons (.dat yi) .nil))))), [(0, (yh [3] (.cons (.dat yi) .nil)))], (yh [2] (.cons (.dat yi) .nil)), Int × (Y1 × Int), Int, (Unit) ⊕ (Int), fun k v => ((k.1, (k.2.1, (k.2.2, (v, ())))), ()), fun t => (t.1.1, (t.1.2.1, t.1.2.2.1)), fun t => t.1.2.2.2.1, S_zc_0, fun k r => .s (Unit) (Int) r (fun _ => .l (.exit 0 (mkSt ((ys [3] (.cons (.dat yi) .nil))) ((k.1, ()), ())))) (fun b => .l (.ret (mkSt ((ys [2] (.cons (.dat yi) .nil))) ((b, ()), ()))))⟩
noncomputable def T_zc (a1_ : Y1) : Tr (Int) :=
 .c ((Unit) ⊕ (Int)) (L_zc_0 ((0 : Int), (a1_, ((List.length a1_ : Nat) : Int))) (0 : Int)) fun r7_ =>
 .s (Unit) (Int) r7_
 (fun _ => .l (0 : Int))
 (fun r9_ => .l r9_)
noncomputable def F_zc (a1_ : Y1) : Option (Int) := (T_zc a1_).ev
noncomputable def A_zc : Sh := (.cons (.dat y1) .nil)
noncomputable def I_zc : List (Nat × OSh) := []
noncomputable def K_zc : RetK := { acts := [], res := [.tmp 2], sh := (.cons (.dat yi) .nil), obs := [], pins := [] }
noncomputable def D_zc : FD := ⟨A_zc, I_zc, [], Int, fun x => F_zc x.1.1, fun r => ([.dat yi r], [])⟩
noncomputable def E_zc : Env := envOf []
noncomputable def Z_zc : Nat → Nat → List Nat := fun _ _ => []
noncomputable def O_zc : List (Nat × LD) := [(0, DL_zc_0)]
noncomputable def C_zc : Code := (f161.body).getD .skip
noncomputable def T_zs (a1_ : Y1) (a2_ : Y1) : Tr (Int) :=
 .c (Int) (F_za ((List.length a1_ : Nat) : Int) ((List.length a2_ : Nat) : Int)) fun r1_ =>
 .c (Int) (F_zao a1_ a2_) fun r2_ =>
 .c (Int) (F_zc ([r1_, r2_] : Y1)) fun r3_ =>
 .l r3_
noncomputable def F_zs (a1_ : Y1) (a2_ : Y1) : Option (Int) := (T_zs a1_ a2_).ev
noncomputable def A_zs : Sh := (.cons (.dat y1) (.cons (.dat y1) .nil))
noncomputable def I_zs : List (Nat × OSh) := []
noncomputable def K_zs : RetK := { acts := [], res := [.tmp 4], sh := (.cons (.dat yi) .nil), obs := [], pins := [] }
noncomputable def D_zs : FD := ⟨A_zs, I_zs, [], Int, fun x => F_zs x.1.1 x.1.2.1, fun r => ([.dat yi r], [])⟩
noncomputable def E_zs : Env := envOf [(162, D_za), (204, D_zao), (161, D_zc)]
noncomputable def Z_zs : Nat → Nat → List Nat := fun _ _ => []
noncomputable def O_zs : List (Nat × LD) := []
noncomputable def C_zs : Code := (f182.body).getD .skip
noncomputable def S_zx_0 (k : Int) (v : Int × Y2) : Tr ((Int × Y2) ⊕ Y2) :=
 .g (decide ((0 : Int) ≤ k)) <|
 .t (decide (v.1 < (IntKind.wrap .u64 ((1 : Int) * 2 ^ (min (Int.toNat k) (IntKind.bits .u64))))))
 (.c Y1 (F_zq v.1) fun r4_ =>
 .g (decide ((List.length v.2 + 1) * 24 ≤ 140737488355328)) <|
 .l (.inl ((IntKind.wrap .u64 (v.1 + (1 : Int))), (List.set (v.2 ++ [[]]) (List.length v.2) r4_))))
 (.l (.inr v.2))
noncomputable def L_zx_0 (k : Int) (v : Int × Y2) : Option Y2 := iter (fun v => (S_zx_0 k v).ev) v
noncomputable def DL_zx_0 : LD := ⟨{ acts := [], S := { slots := [0, 3, 4], sh := (.cons (.dat yi) (.cons (.arr 5) (.cons (.dat (.int .u64)) .nil))), obs := [(5, .rows 24 3 yi)] } }, [(0, { acts := [], S := { slots := [3], sh := (.cons (.arr 5) .nil), obs := [(5, .rows 24 3 yi)] } })], (yh [] .nil), Int, Int × Y2, List Y1, fun k v => ((k, ((), (v.1, ()))), (v.2, ())), fun t => t.1.1, fun t => (t.1.2.2.1, t.2.1), S_zx_0, fun _ r => .l (.exit 0 (mkSt ({ slots := [3], sh := (.cons (.arr 5) .nil), obs := [(5, .rows 24 3 yi)] }) (((), ()), (r, ()))))⟩
noncomputable def T_zx (a1_ : Int) : Tr ((List Nat) × Y2) :=
 .c Y2 (L_zx_0 a1_ ((1 : Int), ([] : List Y1))) fun r6_ =>
 .c ((List Nat) × Y2) (F_zau (fun h7_ => Option.bind (F_zs h7_.1 h7_.2.1) fun y8_ => some y8_) ((List.range (List.length r6_)), r6_)) fun r9_ =>
 .l r9_
noncomputable def F_zx (a1_ : Int) : Option ((List Nat) × Y2) := (T_zx a1_).ev
noncomputable def A_zx : Sh := (.cons (.dat yi) .nil)
noncomputable def I_zx : List (Nat × OSh) := []
noncomputable def K_zx : RetK := { acts := [.ren 5 0], res := [.tmp 2], sh := (.cons (.arr 0) .nil), obs := [(0, .perm 24 3 yi)], pins := [] }
noncomputable def D_zx : FD := ⟨A_zx, I_zx, [], (List Nat) × Y2, fun x => F_zx x.1.1, fun r => ([.arr 0], [(0, .perm false 24 3 yi r.1 r.2)])⟩
noncomputable def E_zx : Env := envOf [(180, D_zq), (181, D_zau), (181, D_zau), (182, D_zs)]
noncomputable def Z_zx : Nat → Nat → List Nat := fun r i => match look [(1, [(0, [1000000])]), (6, [(1, [80000017])])] r with
 | some l => (look l i).getD []
 | none => []
noncomputable def O_zx : List (Nat × LD) := [(0, DL_zx_0)]
noncomputable def C_zx : Code := (f135.body).getD .skip
noncomputable def S_zas_0 (k : Y2 × (((HL [y1] → Option (Bool))) × Int)) (v : Int) : Tr ((Int) ⊕ ((Unit) ⊕ (Int))) :=
 .t (decide (v < k.2.2))
 (.g (inR v (List.length k.1)) <|
 .c (Bool) (k.2.1 ((List.getD k.1 (Int.toNat v) ([] : Y1)), ())) fun r5_ =>
 .t r5_
 (.l (.inr (.inr v)))
 (.l (.inl (IntKind.wrap .i64 (v + (1 : Int))))))
 (.l (.inr (.inl ())))
noncomputable def L_zas_0 (k : Y2 × (((HL [y1] → Option (Bool))) × Int)) (v : Int) : Option ((Unit) ⊕ (Int)) := iter (fun v => (S_zas_0 k v).ev) v
noncomputable def DL_zas_0 : LD := ⟨(yh [0, 1, 7, 8] (.cons (.dat y2) (.cons (.clo [y1] .bool) (.cons (.dat yi) (.cons (.dat yi) .nil))))), [(0, (yh [] .nil))], (yh [4] (.cons (.dat yi) .nil)), Y2 × (((HL [y1] → Option (Bool))) × Int), Int, (Unit) ⊕ (Int), fun k v => ((k.1, (k.2.1, (k.2.2, (v, ())))), ()), fun t => (t.1.1, (t.1.2.1, t.1.2.2.1)), fun t => t.1.2.2.2.1, S_zas_0, fun _ r => .s (Unit) (Int) r (fun _ => .l (.exit 0 (mkSt ((ys [] .nil)) ((), ())))) (fun b => .l (.ret (mkSt ((ys [4] (.cons (.dat yi) .nil))) ((b, ()), ()))))⟩
noncomputable def T_zas (a1_ : List Y1) (a2_ : (HL [y1] → Option (Bool))) : Tr (Int) :=
 .c ((Unit) ⊕ (Int)) (L_zas_0 (a1_, (a2_, ((List.length a1_ : Nat) : Int))) (0 : Int)) fun r7_ =>
 .s (Unit) (Int) r7_
 (fun _ => .l (-1 : Int))
 (fun r9_ => .l r9_)
noncomputable def F_zas (a1_ : List Y1) (a2_ : (HL [y1] → Option (Bool))) : Option (Int) := (T_zas a1_ a2_).ev
noncomputable def A_zas : Sh := (.cons (.dat y2) (.cons (.clo [y1] .bool) .nil))
noncomputable def I_zas : List (Nat × OSh) := []
noncomputable def K_zas : RetK := { acts := [], res := [.tmp 4], sh := (.cons (.dat yi) .nil), obs := [], pins := [] }
noncomputable def D_zas : FD := ⟨A_zas, I_zas, [], Int, fun x => F_zas x.1.1 x.1.2.1, fun r => ([.dat yi r], [])⟩
noncomputable def E_zas : Env := envOf []
noncomputable def Z_zas : Nat → Nat → List Nat := fun _ _ => []
noncomputable def O_zas : List (Nat × LD) := [(0, DL_zas_0)]
noncomputable def C_zas : Code := (f179.body).getD .skip
noncomputable def S_zar_0 (k : (HL [y1] → Option (Bool))) (v : Int × (Int × ((List Nat) × Y2))) : Tr ((Int × (Int × ((List Nat) × Y2))) ⊕ (Int × ((List Nat) × Y2))) :=
 .t (decide (v.2.1 < ((List.length v.2.2.1 : Nat) : Int)))
 (.g (inR v.2.1 (List.length v.2.2.1)) <|
 .g (decide ((Int.toNat v.2.1) < List.length v.2.2.1) && decide ((List.getD v.2.2.1 (Int.toNat v.2.1) 0) < List.length v.2.2.2)) <|
 .c (Bool) (k ((List.getD v.2.2.2 (List.getD v.2.2.1 (Int.toNat v.2.1) 0) ([] : Y1)), ())) fun r6_ =>
 .t (!r6_)
 (.g (inR v.1 (List.length v.2.2.1)) <|
 .g (decide ((Int.toNat v.1) < List.length v.2.2.1)) <|
 .l (.inl ((IntKind.wrap .i64 (v.1 + (1 : Int))), ((IntKind.wrap .i64 (v.2.1 + (1 : Int))), ((List.set v.2.2.1 (Int.toNat v.1) (List.getD v.2.2.1 (Int.toNat v.2.1) 0)), v.2.2.2)))))
 (.l (.inl (v.1, ((IntKind.wrap .i64 (v.2.1 + (1 : Int))), v.2.2)))))
 (.l (.inr (v.1, v.2.2)))
noncomputable def L_zar_0 (k : (HL [y1] → Option (Bool))) (v : Int × (Int × ((List Nat) × Y2))) : Option (Int × ((List Nat) × Y2)) := iter (fun v => (S_zar_0 k v).ev) v
noncomputable def DL_zar_0 : LD := ⟨{ acts := [], S := { slots := [0, 1, 5, 6], sh := (.cons (.arr 64) (.cons (.clo [y1] .bool) (.cons (.dat yi) (.cons (.dat yi) .nil)))), obs := [(64, .perm 24 3 yi)] } }, [(0, { acts := [], S := { slots := [0, 5], sh := (.cons (.arr 64) (.cons (.dat yi) .nil)), obs := [(64, .perm 24 3 yi)] } })], (yh [] .nil), (HL [y1] → Option (Bool)), Int × (Int × ((List Nat) × Y2)), Int × ((List Nat) × Y2), fun k v => (((), (k, (v.1, (v.2.1, ())))), (v.2.2, ())), fun t => t.1.2.1, fun t => (t.1.2.2.1, (t.1.2.2.2.1, t.2.1)), S_zar_0, fun _ r => .l (.exit 0 (mkSt ({ slots := [0, 5], sh := (.cons (.arr 64) (.cons (.dat yi) .nil)), obs := [(64, .perm 24 3 yi)] }) (((), (r.1, ())), (r.2, ()))))⟩
noncomputable def T_zar (a2_ : (HL [y1] → Option (Bool))) (a1_ : (List Nat) × Y2) : Tr ((List Nat) × Y2) :=
 .c (Int) (F_zas (permL a1_.1 a1_.2) a2_) fun r1_ =>
 .t (r1_ == (-1 : Int))
 (.l a1_)
 (.c (Int × ((List Nat) × Y2)) (L_zar_0 a2_ (r1_, ((IntKind.wrap .i64 (r1_ + (1 : Int))), a1_))) fun r9_ =>
 .g (decide ((0 : Int) ≤ r9_.1) && decide (r9_.1 ≤ ((List.length r9_.2.1 : Nat) : Int))) <|
 .g (decide ((0 : Int) ≤ r9_.1) && decide (r9_.1 ≤ ((List.length (List.take (Int.toNat r9_.1) r9_.2.1 ++ List.replicate (List.length r9_.2.1 - (Int.toNat r9_.1)) (List.length r9_.2.2)) : Nat) : Int))) <|
 .l ((List.take (Int.toNat r9_.1) (List.take (Int.toNat r9_.1) r9_.2.1 ++ List.replicate (List.length r9_.2.1 - (Int.toNat r9_.1)) (List.length r9_.2.2))), r9_.2.2))
noncomputable def F_zar (a2_ : (HL [y1] → Option (Bool))) (a1_ : (List Nat) × Y2) : Option ((List Nat) × Y2) := (T_zar a2_ a1_).ev
noncomputable def A_zar : Sh := (.cons (.arr 64) (.cons (.clo [y1] .bool) .nil))
noncomputable def I_zar : List (Nat × OSh) := [(64, .perm 24 3 yi)]
noncomputable def K_zar : RetK := { acts := [.ren 64 0], res := [.tmp 4], sh := (.cons (.arr 0) .nil), obs := [(0, .perm 24 3 yi)], pins := [], gone := [64] }
noncomputable def D_zar : FD := ⟨A_zar, I_zar, [.arg 0], (List Nat) × Y2, fun x => F_zar x.1.2.1 x.2.1, fun r => ([.arr 0], [(0, .perm false 24 3 yi r.1 r.2), (64, .spent)])⟩
noncomputable def E_zar : Env := envOf [(179, D_zas)]
noncomputable def Z_zar : Nat → Nat → List Nat := fun _ _ => []
noncomputable def O_zar : List (Nat × LD) := [(0, DL_zar_0)]
noncomputable def C_zar : Code := (f134.body).getD .skip
noncomputable def T_zw (a1_ : Y1) (a2_ : Int) : Tr (Bool) :=
 .l (((List.length a1_ : Nat) : Int) != a2_)
noncomputable def F_zw (a1_ : Y1) (a2_ : Int) : Option (Bool) := (T_zw a1_ a2_).ev
noncomputable def A_zw : Sh := (.cons (.dat y1) (.cons (.ptr (.cons (.dat yi) .nil)) .nil))
noncomputable def I_zw : List (Nat × OSh) := []
noncomputable def K_zw : RetK := { acts := [], res := [.tmp 3], sh := (.cons (.dat .bool) .nil), obs := [], pins := [] }
noncomputable def D_zw : FD := ⟨A_zw, I_zw, [], Bool, fun x => F_zw x.1.1 x.1.2.1.1, fun r => ([.dat .bool r], [])⟩
noncomputable def E_zw : Env := envOf []
noncomputable def Z_zw : Nat → Nat → List Nat := fun _ _ => []
noncomputable def O_zw : List (Nat × LD) := []
noncomputable def C_zw : Code := (f136.body).getD .skip
noncomputable def T_zv (a1_ : Int) (a2_ : Int) : Tr ((List Nat) × Y2) :=
 .c ((List Nat) × Y2) (F_zx a1_) fun r1_ =>
 .c ((List Nat) × Y2) (F_zar (fun h2_ => Option.bind (F_zw h2_.1 a2_) fun y3_ => some y3_) r1_) fun r4_ =>
 .l r4_
noncomputable def F_zv (a1_ : Int) (a2_ : Int) : Option ((List Nat) × Y2) := (T_zv a1_ a2_).ev
noncomputable def A_zv : Sh := (.cons (.dat yi) (.cons (.dat yi) .nil))
noncomputable def I_zv : List (Nat × OSh) := []
noncomputable def K_zv : RetK := { acts := [.ren 512 0], res := [.tmp 4], sh := (.cons (.arr 0) .nil), obs := [(0, .perm 24 3 yi)], pins := [] }
noncomputable def D_zv : FD := ⟨A_zv, I_zv, [], (List Nat) × Y2, fun x => F_zv x.1.1 x.1.2.1, fun r => ([.arr 0], [(0, .perm false 24 3 yi r.1 r.2)])⟩
noncomputable def E_zv : Env := envOf [(135, D_zx), (134, D_zar), (134, D_zar), (136, D_zw)]
noncomputable def Z_zv : Nat → Nat → List Nat := fun _ _ => []
noncomputable def O_zv : List (Nat × LD) := []
noncomputable def C_zv : Code := (f69.body).getD .skip
noncomputable def S_zu_0 (k : ((HL [y1] → Option (Int))) × (Int × ((List Nat) × Y2))) (v : (Nat) × Int) : Tr (((Nat) × Int) ⊕ (Nat)) :=
 .t (decide (v.2 < k.2.1))
 (.g (inR v.2 (List.length k.2.2.1)) <|
 .g (decide ((Int.toNat v.2) < List.length k.2.2.1) && decide ((List.getD k.2.2.1 (Int.toNat v.2) 0) < List.length k.2.2.2)) <|
 .c (Int) (k.1 ((List.getD k.2.2.2 (List.getD k.2.2.1 (Int.toNat v.2) 0) ([] : Y1)), ())) fun r6_ =>
 .c (Int) (k.1 ((List.getD k.2.2.2 v.1 ([] : Y1)), ())) fun r7_ =>
 .t (decide (r6_ < r7_))
 (.l (.inl ((List.getD k.2.2.1 (Int.toNat v.2) 0), (IntKind.wrap .i64 (v.2 + (1 : Int))))))
 (.l (.inl (v.1, (IntKind.wrap .i64 (v.2 + (1 : Int)))))))
 (.l (.inr v.1))
noncomputable def L_zu_0 (k : ((HL [y1] → Option (Int))) × (Int × ((List Nat) × Y2))) (v : (Nat) × Int) : Option (Nat) := iter (fun v => (S_zu_0 k v).ev) v
noncomputable def DL_zu_0 : LD := ⟨{ acts := [], S := { slots := [0, 1, 5, 11, 12, 13], sh := (.cons (.arr 64) (.cons (.clo [y1] yi) (.cons (.row 64) (.cons (.arr 64) (.cons (.dat yi) (.cons (.dat yi) .nil)))))), obs := [(64, .perm 24 3 yi)] } }, [(0, { acts := [], S := { slots := [0, 5], sh := (.cons (.arr 64) (.cons (.row 64) .nil)), obs := [(64, .perm 24 3 yi)] } })], (yh [] .nil), ((HL [y1] → Option (Int))) × (Int × ((List Nat) × Y2)), (Nat) × (Int), Nat, fun k v => (((), (k.1, (v.1, ((), (k.2.1, (v.2, ())))))), (k.2.2, ())), fun t => (t.1.2.1, (t.1.2.2.2.2.1, t.2.1)), fun t => (t.1.2.2.1, t.1.2.2.2.2.2.1), S_zu_0, fun k r => .l (.exit 0 (mkSt ({ slots := [0, 5], sh := (.cons (.arr 64) (.cons (.row 64) .nil)), obs := [(64, .perm 24 3 yi)] }) (((), (r, ())), (k.2.2, ()))))⟩
noncomputable def T_zu (a2_ : (HL [y1] → Option (Int))) (a1_ : (List Nat) × Y2) : Tr Y1 :=
 .g (inR (0 : Int) (List.length a1_.1)) <|
 .g (decide ((Int.toNat (0 : Int)) < List.length a1_.1) && decide ((List.getD a1_.1 (Int.toNat (0 : Int)) 0) < List.length a1_.2)) <|
 .c (Nat) (L_zu_0 (a2_, (((List.length a1_.1 : Nat) : Int), a1_)) ((List.getD a1_.1 (Int.toNat (0 : Int)) 0), (0 : Int))) fun r10_ =>
 .l (List.getD a1_.2 r10_ ([] : Y1))
noncomputable def F_zu (a2_ : (HL [y1] → Option (Int))) (a1_ : (List Nat) × Y2) : Option Y1 := (T_zu a2_ a1_).ev
noncomputable def A_zu : Sh := (.cons (.arr 64) (.cons (.clo [y1] yi) .nil))
noncomputable def I_zu : List (Nat × OSh) := [(64, .perm 24 3 yi)]
noncomputable def K_zu : RetK := { acts := [.pull 4 800000, .ren 800000 0], res := [.tmp 4], sh := (.cons (.arr 0) .nil), obs := [(0, .arr 3 yi)], pins := [], gone := [64] }
noncomputable def D_zu : FD := ⟨A_zu, I_zu, [.arg 0], Y1, fun x => F_zu x.1.2.1 x.2.1, fun r => ([.arr 0], [(0, .arr 3 yi r), (64, .spent)])⟩
noncomputable def E_zu : Env := envOf []
noncomputable def Z_zu : Nat → Nat → List Nat := fun _ _ => []
noncomputable def O_zu : List (Nat × LD) := [(0, DL_zu_0)]
noncomputable def C_zu : Code := (f68.body).getD .skip
noncomputable def S_zaa_0 (k : Y1 × Y1) (v : Int) : Tr ((Int) ⊕ ((Unit) ⊕ (Unit))) :=
 .t (decide (v < ((List.length k.1 : Nat) : Int)))
 (.g (inR v (List.length k.1)) <|
 .g (inR v (List.length k.2)) <|
 .t ((List.getD k.1 (Int.toNat v) (0 : Int)) != (List.getD k.2 (Int.toNat v) (0 : Int)))
 (.l (.inr (.inr ())))
 (.l (.inl (IntKind.wrap .i64 (v + (1 : Int))))))
 (.l (.inr (.inl ())))
noncomputable def L_zaa_0 (k : Y1 × Y1) (v : Int) : Option ((Unit) ⊕ (Unit)) := iter (fun v => (S_zaa_0 k v).ev) v
noncomputable def DL_zaa_0 : LD := ⟨(yh [0, 1, 5] (.cons (.dat y1) (.cons (.dat y1) (.cons (.dat yi) .nil)))), [(0, (yh [] .nil))], (yh [4] (.cons (.dat .bool) .nil)), Y1 × Y1, Int, (Unit) ⊕ (Unit), fun k v => ((k.1, (k.2, (v, ()))), ()), fun t => (t.1.1, t.1.2.1), fun t => t.1.2.2.1, S_zaa_0, fun _ r => .s (Unit) (Unit) r (fun _ => .l (.exit 0 (mkSt ((ys [] .nil)) ((), ())))) (fun _ => .l (.ret (mkSt ((ys [4] (.cons (.dat .bool) .nil))) ((false, ()), ()))))⟩
noncomputable def T_zaa (a1_ : Y1) (a2_ : Y1) : Tr (Bool) :=
 .t (((List.length a1_ : Nat) : Int) != ((List.length a2_ : Nat) : Int))
 (.l false)
 (.c ((Unit) ⊕ (Unit)) (L_zaa_0 (a1_, a2_) (0 : Int)) fun r5_ =>
 .s (Unit) (Unit) r5_
 (fun _ => .l true)
 (fun _ => .l false))
noncomputable def F_zaa (a1_ : Y1) (a2_ : Y1) : Option (Bool) := (T_zaa a1_ a2_).ev
noncomputable def A_zaa : Sh := (.cons (.dat y1) (.cons (.dat y1) .nil))
noncomputable def I_zaa : List (Nat × OSh) := []
noncomputable def K_zaa : RetK := { acts := [], res := [.tmp 4], sh := (.cons (.dat .bool) .nil), obs := [], pins := [] }
noncomputable def D_zaa : FD := ⟨A_zaa, I_zaa, [], Bool, fun x => F_zaa x.1.1 x.1.2.1, fun r => ([.dat .bool r], [])⟩
noncomputable def E_zaa : Env := envOf []
noncomputable def Z_zaa : Nat → Nat → List Nat := fun _ _ => []
noncomputable def O_zaa : List (Nat × LD) := [(0, DL_zaa_0)]
noncomputable def C_zaa : Code := (f16.body).getD .skip
noncomputable def S_zab_0 (k : Y2 × Y2) (v : Int) : Tr ((Int) ⊕ ((Unit) ⊕ (Unit))) :=
 .t (decide (v < ((List.length k.1 : Nat) : Int)))
 (.g (inR v (List.length k.1)) <|
 .g (inR v (List.length k.2)) <|
 .c (Bool) (F_zaa (List.getD k.1 (Int.toNat v) ([] : Y1)) (List.getD k.2 (Int.toNat v) ([] : Y1))) fun r4_ =>
 .t (!r4_)
 (.l (.inr (.inr ())))
 (.l (.inl (IntKind.wrap .i64 (v + (1 : Int))))))
 (.l (.inr (.inl ())))
noncomputable def L_zab_0 (k : Y2 × Y2) (v : Int) : Option ((Unit) ⊕ (Unit)) := iter (fun v => (S_zab_0 k v).ev) v
noncomputable def DL_zab_0 : LD := ⟨(yh [0, 1, 5] (.cons (.dat y2) (.cons (.dat y2) (.cons (.dat yi) .nil)))), [(0, (yh [] .nil))], (yh [4] (.cons (.dat .bool) .nil)), Y2 × Y2, Int, (Unit) ⊕ (Unit), fun k v => ((k.1, (k.2, (v, ()))), ()), fun t => (t.1.1, t.1.2.1), fun t => t.1.2.2.1, S_zab_0, fun _ r => .s (Unit) (Unit) r (fun _ => .l (.exit 0 (mkSt ((ys [] .nil)) ((), ())))) (fun _ => .l (.ret (mkSt ((ys [4] (.cons (.dat .bool) .nil))) ((false, ()), ()))))⟩
noncomputable def T_zab (a1_ : List Y1) (a2_ : List Y1) : Tr (Bool) :=
 .t (((List.length a1_ : Nat) : Int) != ((List.length a2_ : Nat) : Int))
 (.l false)
 (.c ((Unit) ⊕ (Unit)) (L_zab_0 (a1_, a2_) (0 : Int)) fun r6_ =>
 .s (Unit) (Unit) r6_
 (fun _ => .l true)
 (fun _ => .l false))
noncomputable def F_zab (a1_ : List Y1) (a2_ : List Y1) : Option (Bool) := (T_zab a1_ a2_).ev
noncomputable def A_zab : Sh := (.cons (.dat y2) (.cons (.dat y2) .nil))
noncomputable def I_zab : List (Nat × OSh) := []
noncomputable def K_zab : RetK := { acts := [], res := [.tmp 4], sh := (.cons (.dat .bool) .nil), obs := [], pins := [] }
noncomputable def D_zab : FD := ⟨A_zab, I_zab, [], Bool, fun x => F_zab x.1.1 x.1.2.1, fun r => ([.dat .bool r], [])⟩
noncomputable def E_zab : Env := envOf [(16, D_zaa)]
noncomputable def Z_zab : Nat → Nat → List Nat := fun _ _ => []
noncomputable def O_zab : List (Nat × LD) := [(0, DL_zab_0)]
noncomputable def C_zab : Code := (f17.body).getD .skip
noncomputable def S_zae_0 (_k : Unit) (v : Int × (Int × Y1)) : Tr ((Int × (Int × Y1)) ⊕ (Int × Y1)) :=
 .t (decide (v.2.1 < ((List.length v.2.2 : Nat) : Int)))
 (.g (inR v.2.1 (List.length v.2.2)) <|
 .g (decide ((Int.toNat v.2.1) < List.length v.2.2)) <|
 .l (.inl ((IntKind.wrap .i64 (v.1 + (1 : Int))), ((IntKind.wrap .i64 (v.2.1 + (1 : Int))), (List.set v.2.2 (Int.toNat v.2.1) v.1)))))
 (.l (.inr (v.1, v.2.2)))
noncomputable def L_zae_0 (k : Unit) (v : Int × (Int × Y1)) : Option (Int × Y1) := iter (fun v => (S_zae_0 k v).ev) v
noncomputable def DL_zae_0 : LD := ⟨{ acts := [], S := { slots := [0, 1, 5], sh := (.cons (.arr 64) (.cons (.dat yi) (.cons (.dat yi) .nil))), obs := [(64, .arr 3 yi)] } }, [(0, { acts := [], S := { slots := [0, 1], sh := (.cons (.arr 64) (.cons (.dat yi) .nil)), obs := [(64, .arr 3 yi)] } })], (yh [] .nil), Unit, Int × (Int × Y1), Int × Y1, fun _ v => (((), (v.1, (v.2.1, ()))), (v.2.2, ())), fun _ => (), fun t => (t.1.2.1, (t.1.2.2.1, t.2.1)), S_zae_0, fun _ r => .l (.exit 0 (mkSt ({ slots := [0, 1], sh := (.cons (.arr 64) (.cons (.dat yi) .nil)), obs := [(64, .arr 3 yi)] }) (((), (r.1, ())), (r.2, ()))))⟩
noncomputable def T_zae (a2_ : Int) (a1_ : Y1) : Tr (Int × Y1) :=
 .c (Int × Y1) (L_zae_0 () (a2_, ((0 : Int), a1_))) fun r6_ =>
 .l (r6_.1, r6_.2)
noncomputable def F_zae (a2_ : Int) (a1_ : Y1) : Option (Int × Y1) := (T_zae a2_ a1_).ev
noncomputable def A_zae : Sh := (.cons (.arr 64) (.cons (.dat yi) .nil))
noncomputable def I_zae : List (Nat × OSh) := [(64, .arr 3 yi)]
noncomputable def K_zae : RetK := { acts := [], res := [.tmp 4], sh := (.cons (.dat yi) .nil), obs := [(64, .arr 3 yi)], pins := [(0, 0, 64)] }
noncomputable def D_zae : FD := ⟨A_zae, I_zae, [.arg 0], Int × Y1, fun x => F_zae x.1.2.1 x.2.1, fun r => ([.dat yi r.1], [(64, .arr 3 yi r.2)])⟩
noncomputable def E_zae : Env := envOf []
noncomputable def Z_zae : Nat → Nat → List Nat := fun _ _ => []
noncomputable def O_zae : List (Nat × LD) := [(0, DL_zae_0)]
noncomputable def C_zae : Code := (f19.body).getD .skip
noncomputable def S_zaf_0 (_k : Unit) (v : Int × (Int × Y2)) : Tr ((Int × (Int × Y2)) ⊕ (Int × Y2)) :=
 .t (decide (v.2.1 < ((List.length v.2.2 : Nat) : Int)))
 (.g (inR v.2.1 (List.length v.2.2)) <|
 .g (decide ((Int.toNat v.2.1) < List.length v.2.2)) <|
 .c (Int × Y1) (F_zae v.1 (List.getD v.2.2 (Int.toNat v.2.1) ([] : Y1))) fun r4_ =>
 .l (.inl (r4_.1, ((IntKind.wrap .i64 (v.2.1 + (1 : Int))), (List.set v.2.2 (Int.toNat v.2.1) r4_.2)))))
 (.l (.inr (v.1, v.2.2)))
noncomputable def L_zaf_0 (k : Unit) (v : Int × (Int × Y2)) : Option (Int × Y2) := iter (fun v => (S_zaf_0 k v).ev) v
noncomputable def DL_zaf_0 : LD := ⟨{ acts := [.fz 500015], S := { slots := [0, 1, 5], sh := (.cons (.arr 64) (.cons (.dat yi) (.cons (.dat yi) .nil))), obs := [(64, .rows 24 3 yi)] } }, [(0, { acts := [], S := { slots := [0, 1], sh := (.cons (.arr 64) (.cons (.dat yi) .nil)), obs := [(64, .rows 24 3 yi)] } })], (yh [] .nil), Unit, Int × (Int × Y2), Int × Y2, fun _ v => (((), (v.1, (v.2.1, ()))), (v.2.2, ())), fun _ => (), fun t => (t.1.2.1, (t.1.2.2.1, t.2.1)), S_zaf_0, fun _ r => .l (.exit 0 (mkSt ({ slots := [0, 1], sh := (.cons (.arr 64) (.cons (.dat yi) .nil)), obs := [(64, .rows 24 3 yi)] }) (((), (r.1, ())), (r.2, ()))))⟩
noncomputable def T_zaf (a2_ : Int) (a1_ : List Y1) : Tr (Int × Y2) :=
 .c (Int × Y2) (L_zaf_0 () (a2_, ((0 : Int), a1_))) fun r7_ =>
 .l (r7_.1, r7_.2)
noncomputable def F_zaf (a2_ : Int) (a1_ : List Y1) : Option (Int × Y2) := (T_zaf a2_ a1_).ev
noncomputable def A_zaf : Sh := (.cons (.arr 64) (.cons (.dat yi) .nil))
noncomputable def I_zaf : List (Nat × OSh) := [(64, .rows 24 3 yi)]
noncomputable def K_zaf : RetK := { acts := [], res := [.tmp 4], sh := (.cons (.dat yi) .nil), obs := [(64, .rows 24 3 yi)], pins := [(0, 0, 64)] }
noncomputable def D_zaf : FD := ⟨A_zaf, I_zaf, [.arg 0], Int × Y2, fun x => F_zaf x.1.2.1 x.2.1, fun r => ([.dat yi r.1], [(64, .rows 24 3 yi r.2 none)])⟩
noncomputable def E_zaf : Env := envOf [(19, D_zae)]
noncomputable def Z_zaf : Nat → Nat → List Nat := fun r i => match look [(4, [(5, [2000015])])] r with
 | some l => (look l i).getD []
 | none => []
noncomputable def O_zaf : List (Nat × LD) := [(0, DL_zaf_0)]
noncomputable def C_zaf : Code := (f18.body).getD .skip
noncomputable def S_zac_0 (k : Y1) (v : Int × Int) : Tr ((Int × Int) ⊕ ((Int) ⊕ (Unit))) :=
 .t (decide (v.2 < ((List.length k : Nat) : Int)))
 (.g (inR v.2 (List.length k)) <|
 .t ((List.getD k (Int.toNat v.2) (0 : Int)) != v.1)
 (.l (.inr (.inr ())))
 (.l (.inl ((IntKind.wrap .i64 (v.1 + (1 : Int))), (IntKind.wrap .i64 (v.2 + (1 : Int)))))))
 (.l (.inr (.inl v.1)))
noncomputable def L_zac_0 (k : Y1) (v : Int × Int) : Option ((Int) ⊕ (Unit)) := iter (fun v => (S_zac_0 k v).ev) v
noncomputable def DL_zac_0 : LD := ⟨(yh [0, 1, 5] (.cons (.dat y1) (.cons (.dat yi) (.cons (.dat yi) .nil)))), [(0, (yh [1] (.cons (.dat yi) .nil)))], (yh [4] (.cons (.dat yi) .nil)), Y1, Int × (Int), (Int) ⊕ (Unit), fun k v => ((k, (v.1, (v.2, ()))), ()), fun t => t.1.1, fun t => (t.1.2.1, t.1.2.2.1), S_zac_0, fun _ r => .s (Int) (Unit) r (fun a => .l (.exit 0 (mkSt ((ys [1] (.cons (.dat yi) .nil))) ((a, ()), ())))) (fun _ => .l (.ret (mkSt ((ys [4] (.cons (.dat yi) .nil))) (((-1 : Int), ()), ()))))⟩
noncomputable def T_zac (a1_ : Y1) (a2_ : Int) : Tr (Int) :=
 .c ((Int) ⊕ (Unit)) (L_zac_0 a1_ (a2_, (0 : Int))) fun r6_ =>
 .s (Int) (Unit) r6_
 (fun r7_ => .l r7_)
 (fun _ => .l (-1 : Int))
noncomputable def F_zac (a1_ : Y1) (a2_ : Int) : Option (Int) := (T_zac a1_ a2_).ev
noncomputable def A_zac : Sh := (.cons (.dat y1) (.cons (.dat yi) .nil))
noncomputable def I_zac : List (Nat × OSh) := []
noncomputable def K_zac : RetK := { acts := [], res := [.tmp 4], sh := (.cons (.dat yi) .nil), obs := [], pins := [] }
noncomputable def D_zac : FD := ⟨A_zac, I_zac, [], Int, fun x => F_zac x.1.1 x.1.2.1, fun r => ([.dat yi r], [])⟩
noncomputable def E_zac : Env := envOf []
noncomputable def Z_zac : Nat → Nat → List Nat := fun _ _ => []
noncomputable def O_zac : List (Nat × LD) := [(0, DL_zac_0)]
noncomputable def C_zac : Code := (f20.body).getD .skip
end Go.Proofs.Ytlemejhffpkbkaa
