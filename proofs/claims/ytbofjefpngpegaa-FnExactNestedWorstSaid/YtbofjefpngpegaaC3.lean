import Derived.Test.YtbofjefpngpegaaB42
import Derived.Test.YtbofjefpngpegaaProg
namespace Go.Proofs.Ytbofjefpngpegaa
open Go.Proofs.Try
abbrev yi : Ty := .int .i64
abbrev y1 : Ty := .slice yi
abbrev y2 : Ty := .slice y1
abbrev y3 : Ty := .slice y2
abbrev Y1 : Type := List Int
abbrev Y2 : Type := List Y1
abbrev Y3 : Type := List Y2
abbrev yh (l : List Nat) (s : Sh) : Keep := { acts := [], S := { slots := l, sh := s, obs := [] } }
abbrev ys (l : List Nat) (s : Sh) : SSh := { slots := l, sh := s, obs := [] }
theorem yn {α : Type _} {p : α → Prop} : ∀ x, x ∈ ([] : List α) → p x := fun _ h => absurd h List.not_mem_nil
theorem yc {α : Type _} {p : α → Prop} {a : α} {l : List α} (h : p a ∧ ∀ x, x ∈ l → p x) : ∀ x, x ∈ a :: l → p x := List.forall_mem_cons.2 h
noncomputable def tabl : List (Nat × TD) := [(3, .sc yi), (4, .sc .bool), (5, .sc (.int .u8)), (9, .sc .str), (22, .sl 3 yi 8), (23, .sl 22 y1 24), (25, .st (.pair y1 y2) [(22, y1), (23, y2)]), (27, .ar 2 3 yi (.pair yi yi)), (30, .st (.pair y1 y2) [(22, y1), (23, y2)]), (71, .sc (.int .u64)), (88, .sc (.int .u64)), (92, .sc (.int .u64))]
noncomputable def tt : Nat → TD := fun i => match look tabl i with
 | some d => d
 | none => .no
noncomputable def T_zag (a1_ : Y1) (a2_ : Int) : Tr (Int) :=
 .t (decide ((IntKind.wrap .i64 (a2_ - ((List.length a1_ : Nat) : Int))) < (0 : Int)))
 (.l (-1 : Int))
 (.l (IntKind.wrap .i64 (a2_ - ((List.length a1_ : Nat) : Int))))
noncomputable def F_zag (a1_ : Y1) (a2_ : Int) : Option (Int) := (T_zag a1_ a2_).ev
noncomputable def A_zag : Sh := (.cons (.dat y1) (.cons (.dat yi) .nil))
noncomputable def I_zag : List (Nat × OSh) := []
noncomputable def K_zag : RetK := { acts := [], res := [.tmp 4], sh := (.cons (.dat yi) .nil), obs := [], pins := [] }
noncomputable def D_zag : FD := ⟨A_zag, I_zag, [], Int, fun x => F_zag x.1.1 x.1.2.1, fun r => ([.dat yi r], [])⟩
noncomputable def E_zag : Env := envOf []
noncomputable def Z_zag : Nat → Nat → List Nat := fun _ _ => []
noncomputable def O_zag : List (Nat × LD) := []
noncomputable def C_zag : Code := (f12.body).getD .skip
noncomputable def S_zah_0 (k : List Y1) (v : Int × Int) : Tr ((Int × Int) ⊕ ((Int) ⊕ (Unit))) :=
 .t (decide (v.2 < ((List.length k : Nat) : Int)))
 (.g (inR v.2 (List.length k)) <|
 .c (Int) (F_zag (List.getD k (Int.toNat v.2) ([] : Y1)) v.1) fun r4_ =>
 .t (decide (r4_ < (0 : Int)))
 (.l (.inr (.inr ())))
 (.l (.inl (r4_, (IntKind.wrap .i64 (v.2 + (1 : Int)))))))
 (.l (.inr (.inl v.1)))
noncomputable def L_zah_0 (k : List Y1) (v : Int × Int) : Option ((Int) ⊕ (Unit)) := iter (fun v => (S_zah_0 k v).ev) v
noncomputable def DL_zah_0 : LD := ⟨(yh [0, 1, 5] (.cons (.dat y2) (.cons (.dat yi) (.cons (.dat yi) .nil)))), [(0, (yh [1] (.cons (.dat yi) .nil)))], (yh [4] (.cons (.dat yi) .nil)), List Y1, Int × (Int), (Int) ⊕ (Unit), fun k v => ((k, (v.1, (v.2, ()))), ()), fun t => t.1.1, fun t => (t.1.2.1, t.1.2.2.1), S_zah_0, fun _ r => .s (Int) (Unit) r (fun a => .l (.exit 0 (mkSt ((ys [1] (.cons (.dat yi) .nil))) ((a, ()), ())))) (fun _ => .l (.ret (mkSt ((ys [4] (.cons (.dat yi) .nil))) (((-1 : Int), ()), ()))))⟩
noncomputable def T_zah (a1_ : List Y1) (a2_ : Int) : Tr (Int) :=
 .t (decide ((IntKind.wrap .i64 (a2_ - ((List.length a1_ : Nat) : Int))) < (0 : Int)))
 (.l (-1 : Int))
 (.c ((Int) ⊕ (Unit)) (L_zah_0 a1_ ((IntKind.wrap .i64 (a2_ - ((List.length a1_ : Nat) : Int))), (0 : Int))) fun r7_ =>
 .s (Int) (Unit) r7_
 (fun r8_ => .l r8_)
 (fun _ => .l (-1 : Int)))
noncomputable def F_zah (a1_ : List Y1) (a2_ : Int) : Option (Int) := (T_zah a1_ a2_).ev
noncomputable def A_zah : Sh := (.cons (.dat y2) (.cons (.dat yi) .nil))
noncomputable def I_zah : List (Nat × OSh) := []
noncomputable def K_zah : RetK := { acts := [], res := [.tmp 4], sh := (.cons (.dat yi) .nil), obs := [], pins := [] }
noncomputable def D_zah : FD := ⟨A_zah, I_zah, [], Int, fun x => F_zah x.1.1 x.1.2.1, fun r => ([.dat yi r], [])⟩
noncomputable def E_zah : Env := envOf [(12, D_zag)]
noncomputable def Z_zah : Nat → Nat → List Nat := fun _ _ => []
noncomputable def O_zah : List (Nat × LD) := [(0, DL_zah_0)]
noncomputable def C_zah : Code := (f13.body).getD .skip
noncomputable def T_zaf (a1_ : Y1) (a2_ : List Y1) (a3_ : Int) : Tr (Int) :=
 .c (Int) (F_zag a1_ a3_) fun r1_ =>
 .t (decide (r1_ < (0 : Int)))
 (.l (-1 : Int))
 (.c (Int) (F_zah a2_ r1_) fun r2_ =>
 .t (decide (r2_ < (0 : Int)))
 (.l (-1 : Int))
 (.l r2_))
noncomputable def F_zaf (a1_ : Y1) (a2_ : List Y1) (a3_ : Int) : Option (Int) := (T_zaf a1_ a2_ a3_).ev
noncomputable def A_zaf : Sh := (.cons (.agg (.cons (.dat y1) (.cons (.dat y2) .nil))) (.cons (.dat yi) .nil))
noncomputable def I_zaf : List (Nat × OSh) := []
noncomputable def K_zaf : RetK := { acts := [], res := [.tmp 4], sh := (.cons (.dat yi) .nil), obs := [], pins := [] }
noncomputable def D_zaf : FD := ⟨A_zaf, I_zaf, [], Int, fun x => F_zaf x.1.1.1 x.1.1.2.1 x.1.2.1, fun r => ([.dat yi r], [])⟩
noncomputable def E_zaf : Env := envOf [(12, D_zag), (13, D_zah)]
noncomputable def Z_zaf : Nat → Nat → List Nat := fun _ _ => []
noncomputable def O_zaf : List (Nat × LD) := []
noncomputable def C_zaf : Code := (f4.body).getD .skip
noncomputable def S_zaj_0 (k : Y1) (v : Int × Y1) : Tr ((Int × Y1) ⊕ Y1) :=
 .t (decide (v.1 < ((List.length k : Nat) : Int)))
 (.g (inR v.1 (List.length k)) <|
 .g (inR v.1 (List.length v.2)) <|
 .g (decide ((Int.toNat v.1) < List.length v.2)) <|
 .l (.inl ((IntKind.wrap .i64 (v.1 + (1 : Int))), (List.set v.2 (Int.toNat v.1) (List.getD k (Int.toNat v.1) (0 : Int))))))
 (.l (.inr v.2))
noncomputable def L_zaj_0 (k : Y1) (v : Int × Y1) : Option Y1 := iter (fun v => (S_zaj_0 k v).ev) v
noncomputable def DL_zaj_0 : LD := ⟨{ acts := [], S := { slots := [0, 3, 4], sh := (.cons (.dat y1) (.cons (.arr 7) (.cons (.dat yi) .nil))), obs := [(7, .arr 3 yi)] } }, [(0, { acts := [], S := { slots := [3], sh := (.cons (.arr 7) .nil), obs := [(7, .arr 3 yi)] } })], (yh [] .nil), Y1, Int × Y1, Y1, fun k v => ((k, ((), (v.1, ()))), (v.2, ())), fun t => t.1.1, fun t => (t.1.2.2.1, t.2.1), S_zaj_0, fun _ r => .l (.exit 0 (mkSt ({ slots := [3], sh := (.cons (.arr 7) .nil), obs := [(7, .arr 3 yi)] }) (((), ()), (r, ()))))⟩
noncomputable def T_zaj (a1_ : Y1) : Tr Y1 :=
 .g (decide ((0 : Int) ≤ ((List.length a1_ : Nat) : Int)) && decide (((List.length a1_ : Nat) : Int) ≤ ((List.length a1_ : Nat) : Int)) && decide (((8 : Nat) : Int) * ((List.length a1_ : Nat) : Int) ≤ 281474976710656)) <|
 .c Y1 (L_zaj_0 a1_ ((0 : Int), (List.replicate (Int.toNat ((List.length a1_ : Nat) : Int)) (0 : Int)))) fun r5_ =>
 .l r5_
noncomputable def F_zaj (a1_ : Y1) : Option Y1 := (T_zaj a1_).ev
noncomputable def A_zaj : Sh := (.cons (.dat y1) .nil)
noncomputable def I_zaj : List (Nat × OSh) := []
noncomputable def K_zaj : RetK := { acts := [.ren 7 0], res := [.tmp 2], sh := (.cons (.arr 0) .nil), obs := [(0, .arr 3 yi)], pins := [] }
noncomputable def D_zaj : FD := ⟨A_zaj, I_zaj, [], Y1, fun x => F_zaj x.1.1, fun r => ([.arr 0], [(0, .arr 3 yi r)])⟩
noncomputable def E_zaj : Env := envOf []
noncomputable def Z_zaj : Nat → Nat → List Nat := fun _ _ => []
noncomputable def O_zaj : List (Nat × LD) := [(0, DL_zaj_0)]
noncomputable def C_zaj : Code := (f7.body).getD .skip
noncomputable def S_zak_0 (k : List Y1) (v : Int × Y2) : Tr ((Int × Y2) ⊕ Y2) :=
 .t (decide (v.1 < ((List.length k : Nat) : Int)))
 (.g (inR v.1 (List.length k)) <|
 .c Y1 (F_zaj (List.getD k (Int.toNat v.1) ([] : Y1))) fun r4_ =>
 .g (inR v.1 (List.length v.2)) <|
 .g (decide ((Int.toNat v.1) < List.length v.2)) <|
 .l (.inl ((IntKind.wrap .i64 (v.1 + (1 : Int))), (List.set v.2 (Int.toNat v.1) r4_))))
 (.l (.inr v.2))
noncomputable def L_zak_0 (k : List Y1) (v : Int × Y2) : Option Y2 := iter (fun v => (S_zak_0 k v).ev) v
noncomputable def DL_zak_0 : LD := ⟨{ acts := [], S := { slots := [0, 3, 4], sh := (.cons (.dat y2) (.cons (.arr 7) (.cons (.dat yi) .nil))), obs := [(7, .rows 22 3 yi)] } }, [(0, { acts := [], S := { slots := [3], sh := (.cons (.arr 7) .nil), obs := [(7, .rows 22 3 yi)] } })], (yh [] .nil), List Y1, Int × Y2, List Y1, fun k v => ((k, ((), (v.1, ()))), (v.2, ())), fun t => t.1.1, fun t => (t.1.2.2.1, t.2.1), S_zak_0, fun _ r => .l (.exit 0 (mkSt ({ slots := [3], sh := (.cons (.arr 7) .nil), obs := [(7, .rows 22 3 yi)] }) (((), ()), (r, ()))))⟩
noncomputable def T_zak (a1_ : List Y1) : Tr Y2 :=
 .g (decide ((0 : Int) ≤ ((List.length a1_ : Nat) : Int)) && decide (((List.length a1_ : Nat) : Int) ≤ ((List.length a1_ : Nat) : Int)) && decide (((24 : Nat) : Int) * ((List.length a1_ : Nat) : Int) ≤ 281474976710656)) <|
 .c Y2 (L_zak_0 a1_ ((0 : Int), (List.replicate (Int.toNat ((List.length a1_ : Nat) : Int)) ([] : Y1)))) fun r6_ =>
 .l r6_
noncomputable def F_zak (a1_ : List Y1) : Option Y2 := (T_zak a1_).ev
noncomputable def A_zak : Sh := (.cons (.dat y2) .nil)
noncomputable def I_zak : List (Nat × OSh) := []
noncomputable def K_zak : RetK := { acts := [.ren 7 0], res := [.tmp 2], sh := (.cons (.arr 0) .nil), obs := [(0, .rows 22 3 yi)], pins := [] }
noncomputable def D_zak : FD := ⟨A_zak, I_zak, [], List Y1, fun x => F_zak x.1.1, fun r => ([.arr 0], [(0, .rows 22 3 yi r none)])⟩
noncomputable def E_zak : Env := envOf [(7, D_zaj)]
noncomputable def Z_zak : Nat → Nat → List Nat := fun r i => match look [(1, [(2, [1000000])])] r with
 | some l => (look l i).getD []
 | none => []
noncomputable def O_zak : List (Nat × LD) := [(0, DL_zak_0)]
noncomputable def C_zak : Code := (f20.body).getD .skip
noncomputable def T_zai (a1_ : Y1) (a2_ : List Y1) : Tr (Y1 × Y2) :=
 .c Y1 (F_zaj a1_) fun r1_ =>
 .c Y2 (F_zak a2_) fun r2_ =>
 .l (r1_, r2_)
noncomputable def F_zai (a1_ : Y1) (a2_ : List Y1) : Option (Y1 × Y2) := (T_zai a1_ a2_).ev
noncomputable def A_zai : Sh := (.cons (.agg (.cons (.dat y1) (.cons (.dat y2) .nil))) .nil)
noncomputable def I_zai : List (Nat × OSh) := []
noncomputable def K_zai : RetK := { acts := [.ren 384 4, .ren 640 5], res := [.cell 2 30], sh := (.cons (.agg (.cons (.arr 4) (.cons (.arr 5) .nil))) .nil), obs := [(4, .arr 3 yi), (5, .rows 22 3 yi)], pins := [] }
noncomputable def D_zai : FD := ⟨A_zai, I_zai, [], Y1 × Y2, fun x => F_zai x.1.1.1 x.1.1.2.1, fun r => ([.agg [.arr 4, .arr 5]], [(4, .arr 3 yi r.1), (5, .rows 22 3 yi r.2 none)])⟩
noncomputable def E_zai : Env := envOf [(7, D_zaj), (20, D_zak)]
noncomputable def Z_zai : Nat → Nat → List Nat := fun _ _ => []
noncomputable def O_zai : List (Nat × LD) := []
noncomputable def C_zai : Code := (f6.body).getD .skip
noncomputable def T_zbu (a1_ : Int) (a2_ : Int) (a3_ : Int) : Tr (Bool) :=
 .t (decide (a2_ ≤ a1_))
 (.l (decide (a1_ ≤ a3_)))
 (.l false)
noncomputable def F_zbu (a1_ : Int) (a2_ : Int) (a3_ : Int) : Option (Bool) := (T_zbu a1_ a2_ a3_).ev
noncomputable def A_zbu : Sh := (.cons (.dat yi) (.cons (.dat yi) (.cons (.dat yi) .nil)))
noncomputable def I_zbu : List (Nat × OSh) := []
noncomputable def K_zbu : RetK := { acts := [], res := [.tmp 6], sh := (.cons (.dat .bool) .nil), obs := [], pins := [] }
noncomputable def D_zbu : FD := ⟨A_zbu, I_zbu, [], Bool, fun x => F_zbu x.1.1 x.1.2.1 x.1.2.2.1, fun r => ([.dat .bool r], [])⟩
noncomputable def E_zbu : Env := envOf []
noncomputable def Z_zbu : Nat → Nat → List Nat := fun _ _ => []
noncomputable def O_zbu : List (Nat × LD) := []
noncomputable def C_zbu : Code := (f30.body).getD .skip
noncomputable def S_zca_0 (k : Y1 × (Int × Int)) (v : Int) : Tr ((Int) ⊕ ((Unit) ⊕ (Unit))) :=
 .t (decide (v < ((List.length k.1 : Nat) : Int)))
 (.g (inR v (List.length k.1)) <|
 .c (Bool) (F_zbu (List.getD k.1 (Int.toNat v) (0 : Int)) (0 : Int) k.2.2) fun r5_ =>
 .t (!r5_)
 (.l (.inr (.inr ())))
 (.l (.inl (IntKind.wrap .i64 (v + (1 : Int))))))
 (.l (.inr (.inl ())))
noncomputable def L_zca_0 (k : Y1 × (Int × Int)) (v : Int) : Option ((Unit) ⊕ (Unit)) := iter (fun v => (S_zca_0 k v).ev) v
noncomputable def DL_zca_0 : LD := ⟨(yh [0, 1, 2, 7] (.cons (.dat y1) (.cons (.dat yi) (.cons (.dat yi) (.cons (.dat yi) .nil))))), [(0, (yh [0, 1] (.cons (.dat y1) (.cons (.dat yi) .nil))))], (yh [6] (.cons (.dat .bool) .nil)), Y1 × (Int × Int), Int, (Unit) ⊕ (Unit), fun k v => ((k.1, (k.2.1, (k.2.2, (v, ())))), ()), fun t => (t.1.1, (t.1.2.1, t.1.2.2.1)), fun t => t.1.2.2.2.1, S_zca_0, fun k r => .s (Unit) (Unit) r (fun _ => .l (.exit 0 (mkSt ((ys [0, 1] (.cons (.dat y1) (.cons (.dat yi) .nil)))) ((k.1, (k.2.1, ())), ())))) (fun _ => .l (.ret (mkSt ((ys [6] (.cons (.dat .bool) .nil))) ((false, ()), ()))))⟩
noncomputable def T_zca (a1_ : Y1) (a2_ : Int) (a3_ : Int) : Tr (Bool) :=
 .c ((Unit) ⊕ (Unit)) (L_zca_0 (a1_, (a2_, a3_)) (0 : Int)) fun r9_ =>
 .s (Unit) (Unit) r9_
 (fun _ => .l (((List.length a1_ : Nat) : Int) == a2_))
 (fun _ => .l false)
noncomputable def F_zca (a1_ : Y1) (a2_ : Int) (a3_ : Int) : Option (Bool) := (T_zca a1_ a2_ a3_).ev
noncomputable def A_zca : Sh := (.cons (.dat y1) (.cons (.dat yi) (.cons (.dat yi) .nil)))
noncomputable def I_zca : List (Nat × OSh) := []
noncomputable def K_zca : RetK := { acts := [], res := [.tmp 6], sh := (.cons (.dat .bool) .nil), obs := [], pins := [] }
noncomputable def D_zca : FD := ⟨A_zca, I_zca, [], Bool, fun x => F_zca x.1.1 x.1.2.1 x.1.2.2.1, fun r => ([.dat .bool r], [])⟩
noncomputable def E_zca : Env := envOf [(30, D_zbu)]
noncomputable def Z_zca : Nat → Nat → List Nat := fun _ _ => []
noncomputable def O_zca : List (Nat × LD) := [(0, DL_zca_0)]
noncomputable def C_zca : Code := (f29.body).getD .skip
noncomputable def S_zby_0 (k : Int × (Y1 × Y2)) (v : Int) : Tr ((Int) ⊕ ((Unit) ⊕ (Unit))) :=
 .t (decide (v < ((List.length k.2.2 : Nat) : Int)))
 (.g (inR v (List.length k.2.2)) <|
 .c (Bool) (F_zca (List.getD k.2.2 (Int.toNat v) ([] : Y1)) k.1 (99 : Int)) fun r5_ =>
 .t (!r5_)
 (.l (.inr (.inr ())))
 (.l (.inl (IntKind.wrap .i64 (v + (1 : Int))))))
 (.l (.inr (.inl ())))
noncomputable def L_zby_0 (k : Int × (Y1 × Y2)) (v : Int) : Option ((Unit) ⊕ (Unit)) := iter (fun v => (S_zby_0 k v).ev) v
noncomputable def DL_zby_0 : LD := ⟨{ acts := [], S := { slots := [1, 3, 4], sh := (.cons (.box 1 0) (.cons (.dat yi) (.cons (.dat yi) .nil))), obs := [(1, .cells (.cons (.dat y1) (.cons (.dat y2) .nil)))] } }, [(0, { acts := [], S := { slots := [1, 3], sh := (.cons (.box 1 0) (.cons (.dat yi) .nil)), obs := [(1, .cells (.cons (.dat y1) (.cons (.dat y2) .nil)))] } })], (yh [2] (.cons (.dat .bool) .nil)), Int × (Y1 × Y2), Int, (Unit) ⊕ (Unit), fun k v => (((), (k.1, (v, ()))), ((k.2.1, (k.2.2, ())), ())), fun t => (t.1.2.1, (t.2.1.1, t.2.1.2.1)), fun t => t.1.2.2.1, S_zby_0, fun k r => .s (Unit) (Unit) r (fun _ => .l (.exit 0 (mkSt ({ slots := [1, 3], sh := (.cons (.box 1 0) (.cons (.dat yi) .nil)), obs := [(1, .cells (.cons (.dat y1) (.cons (.dat y2) .nil)))] }) (((), (k.1, ())), ((k.2.1, (k.2.2, ())), ()))))) (fun _ => .l (.ret (mkSt ((ys [2] (.cons (.dat .bool) .nil))) ((false, ()), ()))))⟩
noncomputable def T_zby (a1_ : Y1) (a2_ : List Y1) : Tr (Bool) :=
 .c ((Unit) ⊕ (Unit)) (L_zby_0 (((List.length a1_ : Nat) : Int), (a1_, a2_)) (0 : Int)) fun r10_ =>
 .s (Unit) (Unit) r10_
 (fun _ => .c (Bool) (F_zbu ((List.length a1_ : Nat) : Int) (1 : Int) (7 : Int)) fun r13_ =>
 .t r13_
 (.c (Bool) (F_zca a1_ ((List.length a1_ : Nat) : Int) (99 : Int)) fun r14_ =>
 .t r14_
 (.l (decide (((List.length a2_ : Nat) : Int) ≤ (7 : Int))))
 (.l false))
 (.l false))
 (fun _ => .l false)
noncomputable def F_zby (a1_ : Y1) (a2_ : List Y1) : Option (Bool) := (T_zby a1_ a2_).ev
noncomputable def A_zby : Sh := (.cons (.agg (.cons (.dat y1) (.cons (.dat y2) .nil))) .nil)
noncomputable def I_zby : List (Nat × OSh) := []
noncomputable def K_zby : RetK := { acts := [], res := [.tmp 2], sh := (.cons (.dat .bool) .nil), obs := [], pins := [] }
noncomputable def D_zby : FD := ⟨A_zby, I_zby, [], Bool, fun x => F_zby x.1.1.1 x.1.1.2.1, fun r => ([.dat .bool r], [])⟩
noncomputable def E_zby : Env := envOf [(29, D_zca), (30, D_zbu)]
noncomputable def Z_zby : Nat → Nat → List Nat := fun _ _ => []
noncomputable def O_zby : List (Nat × LD) := [(0, DL_zby_0)]
noncomputable def C_zby : Code := (f14.body).getD .skip
noncomputable def S_zbt_0 (k : Y1 × Int) (v : Int) : Tr ((Int) ⊕ ((Unit) ⊕ (Unit))) :=
 .t (decide (v < ((List.length k.1 : Nat) : Int)))
 (.g (inR v (List.length k.1)) <|
 .t ((List.getD k.1 (Int.toNat v) (0 : Int)) == k.2)
 (.l (.inr (.inr ())))
 (.l (.inl (IntKind.wrap .i64 (v + (1 : Int))))))
 (.l (.inr (.inl ())))
noncomputable def L_zbt_0 (k : Y1 × Int) (v : Int) : Option ((Unit) ⊕ (Unit)) := iter (fun v => (S_zbt_0 k v).ev) v
noncomputable def DL_zbt_0 : LD := ⟨(yh [0, 1, 5] (.cons (.dat y1) (.cons (.dat yi) (.cons (.dat yi) .nil)))), [(0, (yh [] .nil))], (yh [4] (.cons (.dat .bool) .nil)), Y1 × (Int), Int, (Unit) ⊕ (Unit), fun k v => ((k.1, (k.2, (v, ()))), ()), fun t => (t.1.1, t.1.2.1), fun t => t.1.2.2.1, S_zbt_0, fun _ r => .s (Unit) (Unit) r (fun _ => .l (.exit 0 (mkSt ((ys [] .nil)) ((), ())))) (fun _ => .l (.ret (mkSt ((ys [4] (.cons (.dat .bool) .nil))) ((true, ()), ()))))⟩
noncomputable def T_zbt (a1_ : Y1) (a2_ : Int) : Tr (Bool) :=
 .c ((Unit) ⊕ (Unit)) (L_zbt_0 (a1_, a2_) (0 : Int)) fun r5_ =>
 .s (Unit) (Unit) r5_
 (fun _ => .l false)
 (fun _ => .l true)
noncomputable def F_zbt (a1_ : Y1) (a2_ : Int) : Option (Bool) := (T_zbt a1_ a2_).ev
noncomputable def A_zbt : Sh := (.cons (.dat y1) (.cons (.dat yi) .nil))
noncomputable def I_zbt : List (Nat × OSh) := []
noncomputable def K_zbt : RetK := { acts := [], res := [.tmp 4], sh := (.cons (.dat .bool) .nil), obs := [], pins := [] }
noncomputable def D_zbt : FD := ⟨A_zbt, I_zbt, [], Bool, fun x => F_zbt x.1.1 x.1.2.1, fun r => ([.dat .bool r], [])⟩
noncomputable def E_zbt : Env := envOf []
noncomputable def Z_zbt : Nat → Nat → List Nat := fun _ _ => []
noncomputable def O_zbt : List (Nat × LD) := [(0, DL_zbt_0)]
noncomputable def C_zbt : Code := (f31.body).getD .skip
noncomputable def S_zbr_0 (k : Y1 × (Y1 × Y2)) (v : Int) : Tr ((Int) ⊕ ((Unit) ⊕ (Unit))) :=
 .t (decide (v < ((List.length k.2.1 : Nat) : Int)))
 (.c (Bool) (F_zbt k.1 v) fun r5_ =>
 .t (!r5_)
 (.l (.inr (.inr ())))
 (.l (.inl (IntKind.wrap .i64 (v + (1 : Int))))))
 (.l (.inr (.inl ())))
noncomputable def L_zbr_0 (k : Y1 × (Y1 × Y2)) (v : Int) : Option ((Unit) ⊕ (Unit)) := iter (fun v => (S_zbr_0 k v).ev) v
noncomputable def DL_zbr_0 : LD := ⟨{ acts := [], S := { slots := [1, 2, 5], sh := (.cons (.dat y1) (.cons (.box 2 0) (.cons (.dat yi) .nil))), obs := [(2, .cells (.cons (.dat y1) (.cons (.dat y2) .nil)))] } }, [(0, { acts := [], S := { slots := [1, 2], sh := (.cons (.dat y1) (.cons (.box 2 0) .nil)), obs := [(2, .cells (.cons (.dat y1) (.cons (.dat y2) .nil)))] } })], (yh [4] (.cons (.dat .bool) .nil)), Y1 × (Y1 × Y2), Int, (Unit) ⊕ (Unit), fun k v => ((k.1, ((), (v, ()))), ((k.2.1, (k.2.2, ())), ())), fun t => (t.1.1, (t.2.1.1, t.2.1.2.1)), fun t => t.1.2.2.1, S_zbr_0, fun k r => .s (Unit) (Unit) r (fun _ => .l (.exit 0 (mkSt ({ slots := [1, 2], sh := (.cons (.dat y1) (.cons (.box 2 0) .nil)), obs := [(2, .cells (.cons (.dat y1) (.cons (.dat y2) .nil)))] }) ((k.1, ((), ())), ((k.2.1, (k.2.2, ())), ()))))) (fun _ => .l (.ret (mkSt ((ys [4] (.cons (.dat .bool) .nil))) ((false, ()), ()))))⟩
noncomputable def T_zbr (a1_ : Y1) (a2_ : List Y1) (a3_ : Y1) : Tr (Bool) :=
 .c ((Unit) ⊕ (Unit)) (L_zbr_0 (a3_, (a1_, a2_)) (0 : Int)) fun r10_ =>
 .s (Unit) (Unit) r10_
 (fun _ => .l (((List.length a3_ : Nat) : Int) == ((List.length a1_ : Nat) : Int)))
 (fun _ => .l false)
noncomputable def F_zbr (a1_ : Y1) (a2_ : List Y1) (a3_ : Y1) : Option (Bool) := (T_zbr a1_ a2_ a3_).ev
noncomputable def A_zbr : Sh := (.cons (.agg (.cons (.dat y1) (.cons (.dat y2) .nil))) (.cons (.dat y1) .nil))
noncomputable def I_zbr : List (Nat × OSh) := []
noncomputable def K_zbr : RetK := { acts := [], res := [.tmp 4], sh := (.cons (.dat .bool) .nil), obs := [], pins := [] }
noncomputable def D_zbr : FD := ⟨A_zbr, I_zbr, [], Bool, fun x => F_zbr x.1.1.1 x.1.1.2.1 x.1.2.1, fun r => ([.dat .bool r], [])⟩
noncomputable def E_zbr : Env := envOf [(31, D_zbt)]
noncomputable def Z_zbr : Nat → Nat → List Nat := fun _ _ => []
noncomputable def O_zbr : List (Nat × LD) := [(0, DL_zbr_0)]
noncomputable def C_zbr : Code := (f15.body).getD .skip
noncomputable def S_zbv_0 (k : Y1 × Int) (v : Int) : Tr ((Int) ⊕ (Int)) :=
 .t (decide (v < ((List.length k.1 : Nat) : Int)))
 (.g (inR v (List.length k.1)) <|
 .t (decide ((List.getD k.1 (Int.toNat v) (0 : Int)) < k.2))
 (.l (.inl (IntKind.wrap .i64 (v + (1 : Int)))))
 (.l (.inr v)))
 (.l (.inr v))
noncomputable def L_zbv_0 (k : Y1 × Int) (v : Int) : Option (Int) := iter (fun v => (S_zbv_0 k v).ev) v
noncomputable def DL_zbv_0 : LD := ⟨(yh [0, 1, 5] (.cons (.dat y1) (.cons (.dat yi) (.cons (.dat yi) .nil)))), [(0, (yh [0, 1, 5] (.cons (.dat y1) (.cons (.dat yi) (.cons (.dat yi) .nil)))))], (yh [] .nil), Y1 × (Int), Int, Int, fun k v => ((k.1, (k.2, (v, ()))), ()), fun t => (t.1.1, t.1.2.1), fun t => t.1.2.2.1, S_zbv_0, fun k r => .l (.exit 0 (mkSt ((ys [0, 1, 5] (.cons (.dat y1) (.cons (.dat yi) (.cons (.dat yi) .nil))))) ((k.1, (k.2, (r, ()))), ())))⟩
noncomputable def T_zbv (a1_ : Y1) (a2_ : Int) : Tr Y1 :=
 .c (Int) (L_zbv_0 (a1_, a2_) (0 : Int)) fun r7_ =>
 .t (decide (r7_ < ((List.length a1_ : Nat) : Int)))
 (.g (inR r7_ (List.length a1_)) <|
 .t ((List.getD a1_ (Int.toNat r7_) (0 : Int)) == a2_)
 (.l a1_)
 (.g (decide ((0 : Int) ≤ r7_) && decide (r7_ ≤ ((List.length a1_ : Nat) : Int))) <|
 .g (decide ((List.length ([] : Y1) + List.length (List.drop 0 (List.take (Int.toNat r7_) a1_))) * 8 ≤ 140737488355328)) <|
 .g (decide ((List.length (([] : Y1) ++ (List.drop 0 (List.take (Int.toNat r7_) a1_))) + List.length ([a2_] : Y1)) * 8 ≤ 140737488355328)) <|
 .g (decide ((0 : Int) ≤ r7_) && decide (r7_ ≤ ((List.length a1_ : Nat) : Int))) <|
 .g (decide ((List.length ((([] : Y1) ++ (List.drop 0 (List.take (Int.toNat r7_) a1_))) ++ ([a2_] : Y1)) + List.length (List.drop (Int.toNat r7_) (List.take (List.length a1_) a1_))) * 8 ≤ 140737488355328)) <|
 .l (((([] : Y1) ++ (List.drop 0 (List.take (Int.toNat r7_) a1_))) ++ ([a2_] : Y1)) ++ (List.drop (Int.toNat r7_) (List.take (List.length a1_) a1_)))))
 (.g (decide ((0 : Int) ≤ r7_) && decide (r7_ ≤ ((List.length a1_ : Nat) : Int))) <|
 .g (decide ((List.length ([] : Y1) + List.length (List.drop 0 (List.take (Int.toNat r7_) a1_))) * 8 ≤ 140737488355328)) <|
 .g (decide ((List.length (([] : Y1) ++ (List.drop 0 (List.take (Int.toNat r7_) a1_))) + List.length ([a2_] : Y1)) * 8 ≤ 140737488355328)) <|
 .g (decide ((0 : Int) ≤ r7_) && decide (r7_ ≤ ((List.length a1_ : Nat) : Int))) <|
 .g (decide ((List.length ((([] : Y1) ++ (List.drop 0 (List.take (Int.toNat r7_) a1_))) ++ ([a2_] : Y1)) + List.length (List.drop (Int.toNat r7_) (List.take (List.length a1_) a1_))) * 8 ≤ 140737488355328)) <|
 .l (((([] : Y1) ++ (List.drop 0 (List.take (Int.toNat r7_) a1_))) ++ ([a2_] : Y1)) ++ (List.drop (Int.toNat r7_) (List.take (List.length a1_) a1_))))
noncomputable def F_zbv (a1_ : Y1) (a2_ : Int) : Option Y1 := (T_zbv a1_ a2_).ev
noncomputable def A_zbv : Sh := (.cons (.dat y1) (.cons (.dat yi) .nil))
noncomputable def I_zbv : List (Nat × OSh) := []
noncomputable def K_zbv : RetK := { acts := [.fz 33], res := [.tmp 4], sh := (.cons (.dat y1) .nil), obs := [], pins := [] }
noncomputable def D_zbv : FD := ⟨A_zbv, I_zbv, [], Y1, fun x => F_zbv x.1.1 x.1.2.1, fun r => ([.dat y1 r], [])⟩
noncomputable def E_zbv : Env := envOf []
noncomputable def Z_zbv : Nat → Nat → List Nat := fun _ _ => []
noncomputable def O_zbv : List (Nat × LD) := [(0, DL_zbv_0)]
noncomputable def C_zbv : Code := (f16.body).getD .skip
noncomputable def S_zcd_0 (k : Int × (Y1 × (Y1 × Y2))) (v : Int × Int) : Tr ((Int × Int) ⊕ (Int)) :=
 .t (decide (v.2 < ((List.length k.2.1 : Nat) : Int)))
 (.g (inR k.1 (List.length k.2.2.2)) <|
 .g (inR v.2 (List.length k.2.1)) <|
 .g (inR (List.getD k.2.1 (Int.toNat v.2) (0 : Int)) (List.length (List.getD k.2.2.2 (Int.toNat k.1) ([] : Y1)))) <|
 .g (inR k.1 (List.length k.2.2.2)) <|
 .g (inR v.1 (List.length (List.getD k.2.2.2 (Int.toNat k.1) ([] : Y1)))) <|
 .t (decide ((List.getD (List.getD k.2.2.2 (Int.toNat k.1) ([] : Y1)) (Int.toNat (List.getD k.2.1 (Int.toNat v.2) (0 : Int))) (0 : Int)) < (List.getD (List.getD k.2.2.2 (Int.toNat k.1) ([] : Y1)) (Int.toNat v.1) (0 : Int))))
 (.g (inR v.2 (List.length k.2.1)) <|
 .l (.inl ((List.getD k.2.1 (Int.toNat v.2) (0 : Int)), (IntKind.wrap .i64 (v.2 + (1 : Int))))))
 (.l (.inl (v.1, (IntKind.wrap .i64 (v.2 + (1 : Int)))))))
 (.l (.inr v.1))
noncomputable def L_zcd_0 (k : Int × (Y1 × (Y1 × Y2))) (v : Int × Int) : Option (Int) := iter (fun v => (S_zcd_0 k v).ev) v
noncomputable def DL_zcd_0 : LD := ⟨{ acts := [], S := { slots := [1, 2, 3, 7, 8], sh := (.cons (.dat yi) (.cons (.dat y1) (.cons (.box 3 0) (.cons (.dat yi) (.cons (.dat yi) .nil))))), obs := [(3, .cells (.cons (.dat y1) (.cons (.dat y2) .nil)))] } }, [(0, (yh [7] (.cons (.dat yi) .nil)))], (yh [] .nil), Int × (Y1 × (Y1 × Y2)), Int × (Int), Int, fun k v => ((k.1, (k.2.1, ((), (v.1, (v.2, ()))))), ((k.2.2.1, (k.2.2.2, ())), ())), fun t => (t.1.1, (t.1.2.1, (t.2.1.1, t.2.1.2.1))), fun t => (t.1.2.2.2.1, t.1.2.2.2.2.1), S_zcd_0, fun _ r => .l (.exit 0 (mkSt ((ys [7] (.cons (.dat yi) .nil))) ((r, ()), ())))⟩
noncomputable def T_zcd (a1_ : Y1) (a2_ : List Y1) (a3_ : Int) (a4_ : Y1) : Tr (Int) :=
 .g (inR (0 : Int) (List.length a4_)) <|
 .c (Int) (L_zcd_0 (a3_, (a4_, (a1_, a2_))) ((List.getD a4_ (Int.toNat (0 : Int)) (0 : Int)), (1 : Int))) fun r8_ =>
 .l r8_
noncomputable def F_zcd (a1_ : Y1) (a2_ : List Y1) (a3_ : Int) (a4_ : Y1) : Option (Int) := (T_zcd a1_ a2_ a3_ a4_).ev
noncomputable def A_zcd : Sh := (.cons (.agg (.cons (.dat y1) (.cons (.dat y2) .nil))) (.cons (.dat yi) (.cons (.dat y1) .nil)))
noncomputable def I_zcd : List (Nat × OSh) := []
noncomputable def K_zcd : RetK := { acts := [], res := [.tmp 6], sh := (.cons (.dat yi) .nil), obs := [], pins := [] }
noncomputable def D_zcd : FD := ⟨A_zcd, I_zcd, [], Int, fun x => F_zcd x.1.1.1 x.1.1.2.1 x.1.2.1 x.1.2.2.1, fun r => ([.dat yi r], [])⟩
noncomputable def E_zcd : Env := envOf []
noncomputable def Z_zcd : Nat → Nat → List Nat := fun _ _ => []
noncomputable def O_zcd : List (Nat × LD) := [(0, DL_zcd_0)]
noncomputable def C_zcd : Code := (f45.body).getD .skip
noncomputable def T_zbz (a1_ : Y1) (a2_ : List Y1) (a3_ : Int) (a4_ : Y1) : Tr (Int) :=
 .g (inR a3_ (List.length a2_)) <|
 .c (Int) (F_zcd a1_ a2_ a3_ a4_) fun r1_ =>
 .g (inR r1_ (List.length (List.getD a2_ (Int.toNat a3_) ([] : Y1)))) <|
 .l (List.getD (List.getD a2_ (Int.toNat a3_) ([] : Y1)) (Int.toNat r1_) (0 : Int))
noncomputable def F_zbz (a1_ : Y1) (a2_ : List Y1) (a3_ : Int) (a4_ : Y1) : Option (Int) := (T_zbz a1_ a2_ a3_ a4_).ev
noncomputable def A_zbz : Sh := (.cons (.agg (.cons (.dat y1) (.cons (.dat y2) .nil))) (.cons (.dat yi) (.cons (.dat y1) .nil)))
noncomputable def I_zbz : List (Nat × OSh) := []
noncomputable def K_zbz : RetK := { acts := [], res := [.tmp 6], sh := (.cons (.dat yi) .nil), obs := [], pins := [] }
noncomputable def D_zbz : FD := ⟨A_zbz, I_zbz, [], Int, fun x => F_zbz x.1.1.1 x.1.1.2.1 x.1.2.1 x.1.2.2.1, fun r => ([.dat yi r], [])⟩
noncomputable def E_zbz : Env := envOf [(45, D_zcd)]
noncomputable def Z_zbz : Nat → Nat → List Nat := fun _ _ => []
noncomputable def O_zbz : List (Nat × LD) := []
noncomputable def C_zbz : Code := (f32.body).getD .skip
noncomputable def S_zcb_0 (k : Y1 × (Y1 × Y2)) (v : Int × Int) : Tr ((Int × Int) ⊕ (Int)) :=
 .t (decide (v.2 < ((List.length k.2.2 : Nat) : Int)))
 (.c (Int) (F_zbz k.2.1 k.2.2 v.2 k.1) fun r6_ =>
 .l (.inl ((IntKind.wrap .i64 (v.1 + r6_)), (IntKind.wrap .i64 (v.2 + (1 : Int))))))
 (.l (.inr v.1))
noncomputable def L_zcb_0 (k : Y1 × (Y1 × Y2)) (v : Int × Int) : Option (Int) := iter (fun v => (S_zcb_0 k v).ev) v
noncomputable def DL_zcb_0 : LD := ⟨{ acts := [], S := { slots := [1, 2, 5, 6], sh := (.cons (.dat y1) (.cons (.box 2 0) (.cons (.dat yi) (.cons (.dat yi) .nil)))), obs := [(2, .cells (.cons (.dat y1) (.cons (.dat y2) .nil)))] } }, [(0, (yh [5] (.cons (.dat yi) .nil)))], (yh [] .nil), Y1 × (Y1 × Y2), Int × (Int), Int, fun k v => ((k.1, ((), (v.1, (v.2, ())))), ((k.2.1, (k.2.2, ())), ())), fun t => (t.1.1, (t.2.1.1, t.2.1.2.1)), fun t => (t.1.2.2.1, t.1.2.2.2.1), S_zcb_0, fun _ r => .l (.exit 0 (mkSt ((ys [5] (.cons (.dat yi) .nil))) ((r, ()), ())))⟩
noncomputable def T_zcb (a1_ : Y1) (a2_ : List Y1) (a3_ : Y1) : Tr (Int) :=
 .c (Int) (L_zcb_0 (a3_, (a1_, a2_)) ((0 : Int), (0 : Int))) fun r8_ =>
 .l r8_
noncomputable def F_zcb (a1_ : Y1) (a2_ : List Y1) (a3_ : Y1) : Option (Int) := (T_zcb a1_ a2_ a3_).ev
noncomputable def A_zcb : Sh := (.cons (.agg (.cons (.dat y1) (.cons (.dat y2) .nil))) (.cons (.dat y1) .nil))
noncomputable def I_zcb : List (Nat × OSh) := []
noncomputable def K_zcb : RetK := { acts := [], res := [.tmp 4], sh := (.cons (.dat yi) .nil), obs := [], pins := [] }
noncomputable def D_zcb : FD := ⟨A_zcb, I_zcb, [], Int, fun x => F_zcb x.1.1.1 x.1.1.2.1 x.1.2.1, fun r => ([.dat yi r], [])⟩
noncomputable def E_zcb : Env := envOf [(32, D_zbz)]
noncomputable def Z_zcb : Nat → Nat → List Nat := fun _ _ => []
noncomputable def O_zcb : List (Nat × LD) := [(0, DL_zcb_0)]
noncomputable def C_zcb : Code := (f17.body).getD .skip
noncomputable def S_zbx_0 (k : Int × Int) (v : Int × Y1) : Tr ((Int × Y1) ⊕ Y1) :=
 .t (decide (v.1 < k.1))
 (.g (decide ((0 : Int) ≤ v.1)) <|
 .t ((IntKind.wrap .i64 (BitVec.toNat ((BitVec.ofInt (IntKind.bits .i64) (Int.fdiv k.2 (2 ^ (min (Int.toNat v.1) (IntKind.bits .i64))))) &&& (BitVec.ofInt (IntKind.bits .i64) (1 : Int))))) == (1 : Int))
 (.g (decide ((List.length v.2 + List.length ([v.1] : Y1)) * 8 ≤ 140737488355328)) <|
 .l (.inl ((IntKind.wrap .i64 (v.1 + (1 : Int))), (v.2 ++ ([v.1] : Y1)))))
 (.l (.inl ((IntKind.wrap .i64 (v.1 + (1 : Int))), v.2))))
 (.l (.inr v.2))
noncomputable def L_zbx_0 (k : Int × Int) (v : Int × Y1) : Option Y1 := iter (fun v => (S_zbx_0 k v).ev) v
noncomputable def DL_zbx_0 : LD := ⟨{ acts := [], S := { slots := [0, 1, 5, 6], sh := (.cons (.dat yi) (.cons (.dat yi) (.cons (.arr 7) (.cons (.dat yi) .nil)))), obs := [(7, .arr 3 yi)] } }, [(0, { acts := [], S := { slots := [5], sh := (.cons (.arr 7) .nil), obs := [(7, .arr 3 yi)] } })], (yh [] .nil), Int × (Int), Int × Y1, Y1, fun k v => ((k.1, (k.2, ((), (v.1, ())))), (v.2, ())), fun t => (t.1.1, t.1.2.1), fun t => (t.1.2.2.2.1, t.2.1), S_zbx_0, fun _ r => .l (.exit 0 (mkSt ({ slots := [5], sh := (.cons (.arr 7) .nil), obs := [(7, .arr 3 yi)] }) (((), ()), (r, ()))))⟩
noncomputable def T_zbx (a1_ : Int) (a2_ : Int) : Tr Y1 :=
 .c Y1 (L_zbx_0 (a1_, a2_) ((0 : Int), ([] : Y1))) fun r6_ =>
 .l r6_
noncomputable def F_zbx (a1_ : Int) (a2_ : Int) : Option Y1 := (T_zbx a1_ a2_).ev
noncomputable def A_zbx : Sh := (.cons (.dat yi) (.cons (.dat yi) .nil))
noncomputable def I_zbx : List (Nat × OSh) := []
noncomputable def K_zbx : RetK := { acts := [.ren 7 0], res := [.tmp 4], sh := (.cons (.arr 0) .nil), obs := [(0, .arr 3 yi)], pins := [] }
noncomputable def D_zbx : FD := ⟨A_zbx, I_zbx, [], Y1, fun x => F_zbx x.1.1 x.1.2.1, fun r => ([.arr 0], [(0, .arr 3 yi r)])⟩
noncomputable def E_zbx : Env := envOf []
noncomputable def Z_zbx : Nat → Nat → List Nat := fun _ _ => []
noncomputable def O_zbx : List (Nat × LD) := [(0, DL_zbx_0)]
noncomputable def C_zbx : Code := (f46.body).getD .skip
noncomputable def S_zbw_0 (k : Y1 × Y1) (v : Int) : Tr ((Int) ⊕ ((Unit) ⊕ (Bool))) :=
 .t (decide (v < ((List.length k.1 : Nat) : Int)))
 (.g (inR v (List.length k.1)) <|
 .g (inR v (List.length k.2)) <|
 .t ((List.getD k.1 (Int.toNat v) (0 : Int)) != (List.getD k.2 (Int.toNat v) (0 : Int)))
 (.g (inR v (List.length k.1)) <|
 .g (inR v (List.length k.2)) <|
 .l (.inr (.inr (decide ((List.getD k.1 (Int.toNat v) (0 : Int)) < (List.getD k.2 (Int.toNat v) (0 : Int)))))))
 (.l (.inl (IntKind.wrap .i64 (v + (1 : Int))))))
 (.l (.inr (.inl ())))
noncomputable def L_zbw_0 (k : Y1 × Y1) (v : Int) : Option ((Unit) ⊕ (Bool)) := iter (fun v => (S_zbw_0 k v).ev) v
noncomputable def DL_zbw_0 : LD := ⟨(yh [0, 1, 5] (.cons (.dat y1) (.cons (.dat y1) (.cons (.dat yi) .nil)))), [(0, (yh [] .nil))], (yh [4] (.cons (.dat .bool) .nil)), Y1 × Y1, Int, (Unit) ⊕ (Bool), fun k v => ((k.1, (k.2, (v, ()))), ()), fun t => (t.1.1, t.1.2.1), fun t => t.1.2.2.1, S_zbw_0, fun _ r => .s (Unit) (Bool) r (fun _ => .l (.exit 0 (mkSt ((ys [] .nil)) ((), ())))) (fun b => .l (.ret (mkSt ((ys [4] (.cons (.dat .bool) .nil))) ((b, ()), ()))))⟩
noncomputable def T_zbw (a1_ : Y1) (a2_ : Y1) : Tr (Bool) :=
 .t (((List.length a1_ : Nat) : Int) != ((List.length a2_ : Nat) : Int))
 (.l (decide (((List.length a1_ : Nat) : Int) < ((List.length a2_ : Nat) : Int))))
 (.c ((Unit) ⊕ (Bool)) (L_zbw_0 (a1_, a2_) (0 : Int)) fun r5_ =>
 .s (Unit) (Bool) r5_
 (fun _ => .l false)
 (fun r7_ => .l r7_))
noncomputable def F_zbw (a1_ : Y1) (a2_ : Y1) : Option (Bool) := (T_zbw a1_ a2_).ev
noncomputable def A_zbw : Sh := (.cons (.dat y1) (.cons (.dat y1) .nil))
noncomputable def I_zbw : List (Nat × OSh) := []
noncomputable def K_zbw : RetK := { acts := [], res := [.tmp 4], sh := (.cons (.dat .bool) .nil), obs := [], pins := [] }
noncomputable def D_zbw : FD := ⟨A_zbw, I_zbw, [], Bool, fun x => F_zbw x.1.1 x.1.2.1, fun r => ([.dat .bool r], [])⟩
noncomputable def E_zbw : Env := envOf []
noncomputable def Z_zbw : Nat → Nat → List Nat := fun _ _ => []
noncomputable def O_zbw : List (Nat × LD) := [(0, DL_zbw_0)]
noncomputable def C_zbw : Code := (f47.body).getD .skip
noncomputable def S_zcc_2 (k : Int × (Y2 × (Int × Y1))) (v : Int) : Tr ((Int) ⊕ (Int)) :=
 .t (decide ((0 : Int) < v))
 (.g (inR (IntKind.wrap .i64 (v - (1 : Int))) (List.length k.2.1)) <|
 .c (Bool) (F_zbw k.2.2.2 (List.getD k.2.1 (Int.toNat (IntKind.wrap .i64 (v - (1 : Int)))) ([] : Y1))) fun r26_ =>
 .t r26_
 (.l (.inl (IntKind.wrap .i64 (v - (1 : Int)))))
 (.l (.inr v)))
 (.l (.inr v))
noncomputable def L_zcc_2 (k : Int × (Y2 × (Int × Y1))) (v : Int) : Option (Int) := iter (fun v => (S_zcc_2 k v).ev) v
noncomputable def DL_zcc_2 : LD := ⟨{ acts := [], S := { slots := [0, 3, 4, 5, 6], sh := (.cons (.dat yi) (.cons (.dat y2) (.cons (.dat yi) (.cons (.arr 1024) (.cons (.dat yi) .nil))))), obs := [(1024, .arr 3 yi)] } }, [(2, { acts := [], S := { slots := [0, 3, 4, 5, 6], sh := (.cons (.dat yi) (.cons (.dat y2) (.cons (.dat yi) (.cons (.arr 1024) (.cons (.dat yi) .nil))))), obs := [(1024, .arr 3 yi)] } })], (yh [] .nil), Int × (Y2 × (Int × Y1)), Int, Int, fun k v => ((k.1, (k.2.1, (k.2.2.1, ((), (v, ()))))), (k.2.2.2, ())), fun t => (t.1.1, (t.1.2.1, (t.1.2.2.1, t.2.1))), fun t => t.1.2.2.2.2.1, S_zcc_2, fun k r => .l (.exit 2 (mkSt ({ slots := [0, 3, 4, 5, 6], sh := (.cons (.dat yi) (.cons (.dat y2) (.cons (.dat yi) (.cons (.arr 1024) (.cons (.dat yi) .nil))))), obs := [(1024, .arr 3 yi)] }) ((k.1, (k.2.1, (k.2.2.1, ((), (r, ()))))), (k.2.2.2, ()))))⟩
noncomputable def S_zcc_0 (k : Int) (v : Y2 × Int) : Tr ((Y2 × Int) ⊕ Y2) :=
 .g (decide ((0 : Int) ≤ k)) <|
 .t (decide (v.2 < (IntKind.wrap .i64 ((1 : Int) * 2 ^ (min (Int.toNat k) (IntKind.bits .i64))))))
 (.c Y1 (F_zbx k v.2) fun r20_ =>
 .c (Int) (L_zcc_2 (k, (v.1, (v.2, r20_))) ((List.length v.1 : Nat) : Int)) fun r32_ =>
 .g (decide ((0 : Int) ≤ r32_) && decide (r32_ ≤ ((List.length v.1 : Nat) : Int))) <|
 .g (decide ((List.length ([] : List Y1) + List.length (List.drop 0 (List.take (Int.toNat r32_) v.1))) * 24 ≤ 140737488355328)) <|
 .g (decide ((List.length (([] : List Y1) ++ (List.drop 0 (List.take (Int.toNat r32_) v.1))) + List.length ([r20_] : List Y1)) * 24 ≤ 140737488355328)) <|
 .g (decide ((0 : Int) ≤ r32_) && decide (r32_ ≤ ((List.length v.1 : Nat) : Int))) <|
 .g (decide ((List.length ((([] : List Y1) ++ (List.drop 0 (List.take (Int.toNat r32_) v.1))) ++ ([r20_] : List Y1)) + List.length (List.drop (Int.toNat r32_) (List.take (List.length v.1) v.1))) * 24 ≤ 140737488355328)) <|
 .l (.inl ((((([] : List Y1) ++ (List.drop 0 (List.take (Int.toNat r32_) v.1))) ++ ([r20_] : List Y1)) ++ (List.drop (Int.toNat r32_) (List.take (List.length v.1) v.1))), (IntKind.wrap .i64 (v.2 + (1 : Int))))))
 (.l (.inr v.1))
noncomputable def L_zcc_0 (k : Int) (v : Y2 × Int) : Option Y2 := iter (fun v => (S_zcc_0 k v).ev) v
noncomputable def DL_zcc_0 : LD := ⟨{ acts := [.fz 7, .fz 32], S := (ys [0, 3, 4] (.cons (.dat yi) (.cons (.dat y2) (.cons (.dat yi) .nil)))) }, [(0, (yh [3] (.cons (.dat y2) .nil)))], (yh [] .nil), Int, Y2 × (Int), List Y1, fun k v => ((k, (v.1, (v.2, ()))), ()), fun t => t.1.1, fun t => (t.1.2.1, t.1.2.2.1), S_zcc_0, fun _ r => .l (.exit 0 (mkSt ((ys [3] (.cons (.dat y2) .nil))) ((r, ()), ())))⟩
noncomputable def T_zcc (a1_ : Int) : Tr Y2 :=
 .c Y2 (L_zcc_0 a1_ (([] : List Y1), (1 : Int))) fun r34_ =>
 .l r34_
noncomputable def F_zcc (a1_ : Int) : Option Y2 := (T_zcc a1_).ev
noncomputable def A_zcc : Sh := (.cons (.dat yi) .nil)
noncomputable def I_zcc : List (Nat × OSh) := []
noncomputable def K_zcc : RetK := { acts := [], res := [.tmp 2], sh := (.cons (.dat y2) .nil), obs := [], pins := [] }
noncomputable def D_zcc : FD := ⟨A_zcc, I_zcc, [], List Y1, fun x => F_zcc x.1.1, fun r => ([.dat y2 r], [])⟩
noncomputable def E_zcc : Env := envOf [(46, D_zbx), (47, D_zbw)]
noncomputable def Z_zcc : Nat → Nat → List Nat := fun r i => match look [(8, [(0, [3, 5])])] r with
 | some l => (look l i).getD []
 | none => []
noncomputable def O_zcc : List (Nat × LD) := [(2, DL_zcc_2), (0, DL_zcc_0)]
noncomputable def C_zcc : Code := (f33.body).getD .skip
noncomputable def S_zce_0 (k : Int × (Y2 × (Y1 × Y2))) (v : Y1 × Int) : Tr ((Y1 × Int) ⊕ Y1) :=
 .t (decide (v.2 < ((List.length k.2.1 : Nat) : Int)))
 (.g (inR v.2 (List.length k.2.1)) <|
 .t (((List.length (List.getD k.2.1 (Int.toNat v.2) ([] : Y1)) : Nat) : Int) == k.1)
 (.t (((List.length v.1 : Nat) : Int) == (0 : Int))
 (.g (inR v.2 (List.length k.2.1)) <|
 .l (.inl ((List.getD k.2.1 (Int.toNat v.2) ([] : Y1)), (IntKind.wrap .i64 (v.2 + (1 : Int))))))
 (.g (inR v.2 (List.length k.2.1)) <|
 .c (Int) (F_zcb k.2.2.1 k.2.2.2 (List.getD k.2.1 (Int.toNat v.2) ([] : Y1))) fun r16_ =>
 .c (Int) (F_zcb k.2.2.1 k.2.2.2 v.1) fun r17_ =>
 .t (decide (r16_ < r17_))
 (.g (inR v.2 (List.length k.2.1)) <|
 .l (.inl ((List.getD k.2.1 (Int.toNat v.2) ([] : Y1)), (IntKind.wrap .i64 (v.2 + (1 : Int))))))
 (.l (.inl (v.1, (IntKind.wrap .i64 (v.2 + (1 : Int))))))))
 (.l (.inl (v.1, (IntKind.wrap .i64 (v.2 + (1 : Int)))))))
 (.l (.inr v.1))
noncomputable def L_zce_0 (k : Int × (Y2 × (Y1 × Y2))) (v : Y1 × Int) : Option Y1 := iter (fun v => (S_zce_0 k v).ev) v
noncomputable def DL_zce_0 : LD := ⟨{ acts := [.fz 12], S := { slots := [1, 2, 5, 6, 7], sh := (.cons (.dat yi) (.cons (.box 2 0) (.cons (.dat y2) (.cons (.dat y1) (.cons (.dat yi) .nil))))), obs := [(2, .cells (.cons (.dat y1) (.cons (.dat y2) .nil)))] } }, [(0, (yh [6] (.cons (.dat y1) .nil)))], (yh [] .nil), Int × (Y2 × (Y1 × Y2)), Y1 × (Int), Y1, fun k v => ((k.1, ((), (k.2.1, (v.1, (v.2, ()))))), ((k.2.2.1, (k.2.2.2, ())), ())), fun t => (t.1.1, (t.1.2.2.1, (t.2.1.1, t.2.1.2.1))), fun t => (t.1.2.2.2.1, t.1.2.2.2.2.1), S_zce_0, fun _ r => .l (.exit 0 (mkSt ((ys [6] (.cons (.dat y1) .nil))) ((r, ()), ())))⟩
noncomputable def T_zce (a1_ : Y1) (a2_ : List Y1) (a3_ : Int) : Tr Y1 :=
 .c Y2 (F_zcc ((List.length a1_ : Nat) : Int)) fun r1_ =>
 .c Y1 (L_zce_0 (a3_, (r1_, (a1_, a2_))) (([] : Y1), (0 : Int))) fun r19_ =>
 .l r19_
noncomputable def F_zce (a1_ : Y1) (a2_ : List Y1) (a3_ : Int) : Option Y1 := (T_zce a1_ a2_ a3_).ev
noncomputable def A_zce : Sh := (.cons (.agg (.cons (.dat y1) (.cons (.dat y2) .nil))) (.cons (.dat yi) .nil))
noncomputable def I_zce : List (Nat × OSh) := []
noncomputable def K_zce : RetK := { acts := [], res := [.tmp 4], sh := (.cons (.dat y1) .nil), obs := [], pins := [] }
noncomputable def D_zce : FD := ⟨A_zce, I_zce, [], Y1, fun x => F_zce x.1.1.1 x.1.1.2.1 x.1.2.1, fun r => ([.dat y1 r], [])⟩
noncomputable def E_zce : Env := envOf [(33, D_zcc), (17, D_zcb)]
noncomputable def Z_zce : Nat → Nat → List Nat := fun _ _ => []
noncomputable def O_zce : List (Nat × LD) := [(0, DL_zce_0)]
noncomputable def C_zce : Code := (f18.body).getD .skip
noncomputable def T_zbs (a1_ : Int) (a2_ : Int) (a3_ : Int) (a4_ : Int) : Tr (Bool) :=
 .g (inR (1 : Int) 2) <|
 .t (a2_ == (0 : Int))
 (.g (inR (0 : Int) 2) <|
 .t (a1_ == (0 : Int))
 (.g (inR (1 : Int) 2) <|
 .t (a4_ == (0 : Int))
 (.g (inR (0 : Int) 2) <|
 .t (a3_ == (0 : Int))
 (.g (inR (1 : Int) 2) <|
 .t ((1 : Int) == (0 : Int))
 (.g (inR (1 : Int) 2) <|
 .t ((1 : Int) == (0 : Int))
 (.g (inR (1 : Int) 2) <|
 .l (decide ((0 : Int) < (1 : Int))))
 (.l false))
 (.g (inR (1 : Int) 2) <|
 .t ((1 : Int) == (0 : Int))
 (.g (inR (1 : Int) 2) <|
 .t ((1 : Int) == (0 : Int))
 (.g (inR (1 : Int) 2) <|
 .l (decide ((0 : Int) < (1 : Int))))
 (.l false))
 (.g (inR (0 : Int) 2) <|
 .g (inR (1 : Int) 2) <|
 .g (inR (0 : Int) 2) <|
 .g (inR (1 : Int) 2) <|
 .l (decide ((IntKind.wrap .i64 ((1 : Int) * (1 : Int))) < (IntKind.wrap .i64 ((1 : Int) * (1 : Int))))))))
 (.g (inR (1 : Int) 2) <|
 .t ((1 : Int) == (0 : Int))
 (.g (inR (1 : Int) 2) <|
 .t ((1 : Int) == (0 : Int))
 (.g (inR (1 : Int) 2) <|
 .l (decide ((0 : Int) < a4_)))
 (.l false))
 (.g (inR (1 : Int) 2) <|
 .t (a4_ == (0 : Int))
 (.g (inR (1 : Int) 2) <|
 .t ((1 : Int) == (0 : Int))
 (.g (inR (1 : Int) 2) <|
 .l (decide ((0 : Int) < a4_)))
 (.l false))
 (.g (inR (0 : Int) 2) <|
 .g (inR (1 : Int) 2) <|
 .g (inR (0 : Int) 2) <|
 .g (inR (1 : Int) 2) <|
 .l (decide ((IntKind.wrap .i64 (a3_ * (1 : Int))) < (IntKind.wrap .i64 ((1 : Int) * a4_))))))))
 (.g (inR (1 : Int) 2) <|
 .t ((1 : Int) == (0 : Int))
 (.g (inR (1 : Int) 2) <|
 .t ((1 : Int) == (0 : Int))
 (.g (inR (1 : Int) 2) <|
 .l (decide ((0 : Int) < a4_)))
 (.l false))
 (.g (inR (1 : Int) 2) <|
 .t (a4_ == (0 : Int))
 (.g (inR (1 : Int) 2) <|
 .t ((1 : Int) == (0 : Int))
 (.g (inR (1 : Int) 2) <|
 .l (decide ((0 : Int) < a4_)))
 (.l false))
 (.g (inR (0 : Int) 2) <|
 .g (inR (1 : Int) 2) <|
 .g (inR (0 : Int) 2) <|
 .g (inR (1 : Int) 2) <|
 .l (decide ((IntKind.wrap .i64 (a3_ * (1 : Int))) < (IntKind.wrap .i64 ((1 : Int) * a4_))))))))
 (.g (inR (1 : Int) 2) <|
 .t (a4_ == (0 : Int))
 (.g (inR (0 : Int) 2) <|
 .t (a3_ == (0 : Int))
 (.g (inR (1 : Int) 2) <|
 .t (a2_ == (0 : Int))
 (.g (inR (1 : Int) 2) <|
 .t (a2_ == (0 : Int))
 (.g (inR (1 : Int) 2) <|
 .l (decide ((0 : Int) < (1 : Int))))
 (.l false))
 (.g (inR (1 : Int) 2) <|
 .t ((1 : Int) == (0 : Int))
 (.g (inR (1 : Int) 2) <|
 .t (a2_ == (0 : Int))
 (.g (inR (1 : Int) 2) <|
 .l (decide ((0 : Int) < (1 : Int))))
 (.l false))
 (.g (inR (0 : Int) 2) <|
 .g (inR (1 : Int) 2) <|
 .g (inR (0 : Int) 2) <|
 .g (inR (1 : Int) 2) <|
 .l (decide ((IntKind.wrap .i64 ((1 : Int) * a2_)) < (IntKind.wrap .i64 (a1_ * (1 : Int))))))))
 (.g (inR (1 : Int) 2) <|
 .t (a2_ == (0 : Int))
 (.g (inR (1 : Int) 2) <|
 .t (a2_ == (0 : Int))
 (.g (inR (1 : Int) 2) <|
 .l (decide ((0 : Int) < a4_)))
 (.l false))
 (.g (inR (1 : Int) 2) <|
 .t (a4_ == (0 : Int))
 (.g (inR (1 : Int) 2) <|
 .t (a2_ == (0 : Int))
 (.g (inR (1 : Int) 2) <|
 .l (decide ((0 : Int) < a4_)))
 (.l false))
 (.g (inR (0 : Int) 2) <|
 .g (inR (1 : Int) 2) <|
 .g (inR (0 : Int) 2) <|
 .g (inR (1 : Int) 2) <|
 .l (decide ((IntKind.wrap .i64 (a3_ * a2_)) < (IntKind.wrap .i64 (a1_ * a4_))))))))
 (.g (inR (1 : Int) 2) <|
 .t (a2_ == (0 : Int))
 (.g (inR (1 : Int) 2) <|
 .t (a2_ == (0 : Int))
 (.g (inR (1 : Int) 2) <|
 .l (decide ((0 : Int) < a4_)))
 (.l false))
 (.g (inR (1 : Int) 2) <|
 .t (a4_ == (0 : Int))
 (.g (inR (1 : Int) 2) <|
 .t (a2_ == (0 : Int))
 (.g (inR (1 : Int) 2) <|
 .l (decide ((0 : Int) < a4_)))
 (.l false))
 (.g (inR (0 : Int) 2) <|
 .g (inR (1 : Int) 2) <|
 .g (inR (0 : Int) 2) <|
 .g (inR (1 : Int) 2) <|
 .l (decide ((IntKind.wrap .i64 (a3_ * a2_)) < (IntKind.wrap .i64 (a1_ * a4_)))))))))
 (.g (inR (1 : Int) 2) <|
 .t (a4_ == (0 : Int))
 (.g (inR (0 : Int) 2) <|
 .t (a3_ == (0 : Int))
 (.g (inR (1 : Int) 2) <|
 .t (a2_ == (0 : Int))
 (.g (inR (1 : Int) 2) <|
 .t (a2_ == (0 : Int))
 (.g (inR (1 : Int) 2) <|
 .l (decide ((0 : Int) < (1 : Int))))
 (.l false))
 (.g (inR (1 : Int) 2) <|
 .t ((1 : Int) == (0 : Int))
 (.g (inR (1 : Int) 2) <|
 .t (a2_ == (0 : Int))
 (.g (inR (1 : Int) 2) <|
 .l (decide ((0 : Int) < (1 : Int))))
 (.l false))
 (.g (inR (0 : Int) 2) <|
 .g (inR (1 : Int) 2) <|
 .g (inR (0 : Int) 2) <|
 .g (inR (1 : Int) 2) <|
 .l (decide ((IntKind.wrap .i64 ((1 : Int) * a2_)) < (IntKind.wrap .i64 (a1_ * (1 : Int))))))))
 (.g (inR (1 : Int) 2) <|
 .t (a2_ == (0 : Int))
 (.g (inR (1 : Int) 2) <|
 .t (a2_ == (0 : Int))
 (.g (inR (1 : Int) 2) <|
 .l (decide ((0 : Int) < a4_)))
 (.l false))
 (.g (inR (1 : Int) 2) <|
 .t (a4_ == (0 : Int))
 (.g (inR (1 : Int) 2) <|
 .t (a2_ == (0 : Int))
 (.g (inR (1 : Int) 2) <|
 .l (decide ((0 : Int) < a4_)))
 (.l false))
 (.g (inR (0 : Int) 2) <|
 .g (inR (1 : Int) 2) <|
 .g (inR (0 : Int) 2) <|
 .g (inR (1 : Int) 2) <|
 .l (decide ((IntKind.wrap .i64 (a3_ * a2_)) < (IntKind.wrap .i64 (a1_ * a4_))))))))
 (.g (inR (1 : Int) 2) <|
 .t (a2_ == (0 : Int))
 (.g (inR (1 : Int) 2) <|
 .t (a2_ == (0 : Int))
 (.g (inR (1 : Int) 2) <|
 .l (decide ((0 : Int) < a4_)))
 (.l false))
 (.g (inR (1 : Int) 2) <|
 .t (a4_ == (0 : Int))
 (.g (inR (1 : Int) 2) <|
 .t (a2_ == (0 : Int))
 (.g (inR (1 : Int) 2) <|
 .l (decide ((0 : Int) < a4_)))
 (.l false))
 (.g (inR (0 : Int) 2) <|
 .g (inR (1 : Int) 2) <|
 .g (inR (0 : Int) 2) <|
 .g (inR (1 : Int) 2) <|
 .l (decide ((IntKind.wrap .i64 (a3_ * a2_)) < (IntKind.wrap .i64 (a1_ * a4_))))))))
noncomputable def F_zbs (a1_ : Int) (a2_ : Int) (a3_ : Int) (a4_ : Int) : Option (Bool) := (T_zbs a1_ a2_ a3_ a4_).ev
noncomputable def A_zbs : Sh := (.cons (.agg (.cons (.dat yi) (.cons (.dat yi) .nil))) (.cons (.agg (.cons (.dat yi) (.cons (.dat yi) .nil))) .nil))
noncomputable def I_zbs : List (Nat × OSh) := []
noncomputable def K_zbs : RetK := { acts := [], res := [.tmp 4], sh := (.cons (.dat .bool) .nil), obs := [], pins := [] }
noncomputable def D_zbs : FD := ⟨A_zbs, I_zbs, [], Bool, fun x => F_zbs x.1.1.1 x.1.1.2.1 x.1.2.1.1 x.1.2.1.2.1, fun r => ([.dat .bool r], [])⟩
noncomputable def E_zbs : Env := envOf []
noncomputable def Z_zbs : Nat → Nat → List Nat := fun _ _ => []
noncomputable def O_zbs : List (Nat × LD) := []
noncomputable def C_zbs : Code := (f19.body).getD .skip
noncomputable def S_zbq_0 (k : Y1 × (Y1 × (Y2 × (Int × Int)))) (v : Int × (Y1 × (Int × (Int × Int)))) : Tr ((Int × (Y1 × (Int × (Int × Int)))) ⊕ (Int × (Int × Int))) :=
 .t (decide (v.2.2.1 ≤ ((List.length k.1 : Nat) : Int)))
 (.g (inR (IntKind.wrap .i64 (v.2.2.1 - (1 : Int))) (List.length k.1)) <|
 .c Y1 (F_zbv v.2.1 (List.getD k.1 (Int.toNat (IntKind.wrap .i64 (v.2.2.1 - (1 : Int)))) (0 : Int))) fun r28_ =>
 .c (Int) (F_zcb k.2.1 k.2.2.1 r28_) fun r29_ =>
 .c Y1 (F_zce k.2.1 k.2.2.1 v.2.2.1) fun r30_ =>
 .c (Int) (F_zcb k.2.1 k.2.2.1 r30_) fun r31_ =>
 .t (v.2.2.1 == (1 : Int))
 (.l (.inl (v.2.2.1, (r28_, ((IntKind.wrap .i64 (v.2.2.1 + (1 : Int))), (r29_, r31_))))))
 (.c (Bool) (F_zbs r29_ r31_ v.2.2.2.1 v.2.2.2.2) fun r32_ =>
 .t r32_
 (.l (.inl (v.2.2.1, (r28_, ((IntKind.wrap .i64 (v.2.2.1 + (1 : Int))), (r29_, r31_))))))
 (.l (.inl (v.1, (r28_, ((IntKind.wrap .i64 (v.2.2.1 + (1 : Int))), (v.2.2.2.1, v.2.2.2.2))))))))
 (.l (.inr (v.1, (v.2.2.2.1, v.2.2.2.2))))
noncomputable def L_zbq_0 (k : Y1 × (Y1 × (Y2 × (Int × Int)))) (v : Int × (Y1 × (Int × (Int × Int)))) : Option (Int × (Int × Int)) := iter (fun v => (S_zbq_0 k v).ev) v
noncomputable def DL_zbq_0 : LD := ⟨{ acts := [.fz 23], S := { slots := [1, 2, 5, 7, 8, 9, 10], sh := (.cons (.dat y1) (.cons (.box 2 0) (.cons (.box 5 0) (.cons (.box 7 0) (.cons (.dat yi) (.cons (.dat y1) (.cons (.dat yi) .nil))))))), obs := [(2, .cells (.cons (.dat y1) (.cons (.dat y2) .nil))), (5, .cells (.cons (.dat yi) (.cons (.dat yi) .nil))), (7, .cells (.cons (.dat yi) (.cons (.dat yi) .nil)))] } }, [(0, { acts := [], S := { slots := [5, 7, 8], sh := (.cons (.box 5 0) (.cons (.box 7 0) (.cons (.dat yi) .nil))), obs := [(5, .cells (.cons (.dat yi) (.cons (.dat yi) .nil))), (7, .cells (.cons (.dat yi) (.cons (.dat yi) .nil)))] } })], (yh [] .nil), Y1 × (Y1 × (Y2 × (Int × Int))), Int × (Y1 × (Int × (Int × Int))), Int × (Int × Int), fun k v => ((k.1, ((), ((), ((), (v.1, (v.2.1, (v.2.2.1, ()))))))), ((k.2.1, (k.2.2.1, ())), ((k.2.2.2.1, (k.2.2.2.2, ())), ((v.2.2.2.1, (v.2.2.2.2, ())), ())))), fun t => (t.1.1, (t.2.1.1, (t.2.1.2.1, (t.2.2.1.1, t.2.2.1.2.1)))), fun t => (t.1.2.2.2.2.1, (t.1.2.2.2.2.2.1, (t.1.2.2.2.2.2.2.1, (t.2.2.2.1.1, t.2.2.2.1.2.1)))), S_zbq_0, fun k r => .l (.exit 0 (mkSt ({ slots := [5, 7, 8], sh := (.cons (.box 5 0) (.cons (.box 7 0) (.cons (.dat yi) .nil))), obs := [(5, .cells (.cons (.dat yi) (.cons (.dat yi) .nil))), (7, .cells (.cons (.dat yi) (.cons (.dat yi) .nil)))] }) (((), ((), (r.1, ()))), ((k.2.2.2.1, (k.2.2.2.2, ())), ((r.2.1, (r.2.2, ())), ())))))⟩
noncomputable def T_zbq (a1_ : Y1) (a2_ : List Y1) (a3_ : Y1) : Tr (Int × (Int × (Int × (Bool)))) :=
 .c (Bool) (F_zby a1_ a2_) fun r1_ =>
 .t (!r1_)
 (.l ((0 : Int), ((0 : Int), ((0 : Int), false))))
 (.c (Bool) (F_zbr a1_ a2_ a3_) fun r2_ =>
 .t (!r2_)
 (.l ((0 : Int), ((0 : Int), ((0 : Int), false))))
 (.c (Int × (Int × Int)) (L_zbq_0 (a3_, (a1_, (a2_, ((0 : Int), (0 : Int))))) ((0 : Int), (([] : Y1), ((1 : Int), ((0 : Int), (0 : Int)))))) fun r38_ =>
 .l (r38_.1, (r38_.2.1, (r38_.2.2, true)))))
noncomputable def F_zbq (a1_ : Y1) (a2_ : List Y1) (a3_ : Y1) : Option (Int × (Int × (Int × (Bool)))) := (T_zbq a1_ a2_ a3_).ev
noncomputable def A_zbq : Sh := (.cons (.agg (.cons (.dat y1) (.cons (.dat y2) .nil))) (.cons (.dat y1) .nil))
noncomputable def I_zbq : List (Nat × OSh) := []
noncomputable def K_zbq : RetK := { acts := [], res := [.tmp 4, .cell 5 27, .tmp 6], sh := (.cons (.dat yi) (.cons (.agg (.cons (.dat yi) (.cons (.dat yi) .nil))) (.cons (.dat .bool) .nil))), obs := [], pins := [] }
noncomputable def D_zbq : FD := ⟨A_zbq, I_zbq, [], Int × (Int × (Int × (Bool))), fun x => F_zbq x.1.1.1 x.1.1.2.1 x.1.2.1, fun r => ([.dat yi r.1, .agg [.dat yi r.2.1, .dat yi r.2.2.1], .dat .bool r.2.2.2], [])⟩
noncomputable def E_zbq : Env := envOf [(14, D_zby), (15, D_zbr), (16, D_zbv), (17, D_zcb), (18, D_zce), (19, D_zbs)]
noncomputable def Z_zbq : Nat → Nat → List Nat := fun r i => match look [(7, [(6, [30])])] r with
 | some l => (look l i).getD []
 | none => []
noncomputable def O_zbq : List (Nat × LD) := [(0, DL_zbq_0)]
noncomputable def C_zbq : Code := (f5.body).getD .skip
noncomputable def T_zt (a1_ : Int) (a2_ : Int) (a3_ : Int) : Tr (Bool) :=
 .t (decide (a2_ ≤ a1_))
 (.l (decide (a1_ ≤ a3_)))
 (.l false)
noncomputable def F_zt (a1_ : Int) (a2_ : Int) (a3_ : Int) : Option (Bool) := (T_zt a1_ a2_ a3_).ev
noncomputable def A_zt : Sh := (.cons (.dat yi) (.cons (.dat yi) (.cons (.dat yi) .nil)))
noncomputable def I_zt : List (Nat × OSh) := []
noncomputable def K_zt : RetK := { acts := [], res := [.tmp 6], sh := (.cons (.dat .bool) .nil), obs := [], pins := [] }
noncomputable def D_zt : FD := ⟨A_zt, I_zt, [], Bool, fun x => F_zt x.1.1 x.1.2.1 x.1.2.2.1, fun r => ([.dat .bool r], [])⟩
noncomputable def E_zt : Env := envOf []
noncomputable def Z_zt : Nat → Nat → List Nat := fun _ _ => []
noncomputable def O_zt : List (Nat × LD) := []
noncomputable def C_zt : Code := (f34.body).getD .skip
noncomputable def S_zat_0 (k : Y1 × (((HL [yi] → Option (Bool))) × Int)) (v : Int) : Tr ((Int) ⊕ ((Unit) ⊕ (Int))) :=
 .t (decide (v < k.2.2))
 (.g (inR v (List.length k.1)) <|
 .c (Bool) (k.2.1 ((List.getD k.1 (Int.toNat v) (0 : Int)), ())) fun r5_ =>
 .t r5_
 (.l (.inr (.inr v)))
 (.l (.inl (IntKind.wrap .i64 (v + (1 : Int))))))
 (.l (.inr (.inl ())))
noncomputable def L_zat_0 (k : Y1 × (((HL [yi] → Option (Bool))) × Int)) (v : Int) : Option ((Unit) ⊕ (Int)) := iter (fun v => (S_zat_0 k v).ev) v
noncomputable def DL_zat_0 : LD := ⟨(yh [0, 1, 7, 8] (.cons (.dat y1) (.cons (.clo [yi] .bool) (.cons (.dat yi) (.cons (.dat yi) .nil))))), [(0, (yh [] .nil))], (yh [4] (.cons (.dat yi) .nil)), Y1 × (((HL [yi] → Option (Bool))) × Int), Int, (Unit) ⊕ (Int), fun k v => ((k.1, (k.2.1, (k.2.2, (v, ())))), ()), fun t => (t.1.1, (t.1.2.1, t.1.2.2.1)), fun t => t.1.2.2.2.1, S_zat_0, fun _ r => .s (Unit) (Int) r (fun _ => .l (.exit 0 (mkSt ((ys [] .nil)) ((), ())))) (fun b => .l (.ret (mkSt ((ys [4] (.cons (.dat yi) .nil))) ((b, ()), ()))))⟩
noncomputable def T_zat (a1_ : Y1) (a2_ : (HL [yi] → Option (Bool))) : Tr (Int) :=
 .c ((Unit) ⊕ (Int)) (L_zat_0 (a1_, (a2_, ((List.length a1_ : Nat) : Int))) (0 : Int)) fun r7_ =>
 .s (Unit) (Int) r7_
 (fun _ => .l (-1 : Int))
 (fun r9_ => .l r9_)
noncomputable def F_zat (a1_ : Y1) (a2_ : (HL [yi] → Option (Bool))) : Option (Int) := (T_zat a1_ a2_).ev
noncomputable def A_zat : Sh := (.cons (.dat y1) (.cons (.clo [yi] .bool) .nil))
noncomputable def I_zat : List (Nat × OSh) := []
noncomputable def K_zat : RetK := { acts := [], res := [.tmp 4], sh := (.cons (.dat yi) .nil), obs := [], pins := [] }
noncomputable def D_zat : FD := ⟨A_zat, I_zat, [], Int, fun x => F_zat x.1.1 x.1.2.1, fun r => ([.dat yi r], [])⟩
noncomputable def E_zat : Env := envOf []
noncomputable def Z_zat : Nat → Nat → List Nat := fun _ _ => []
noncomputable def O_zat : List (Nat × LD) := [(0, DL_zat_0)]
noncomputable def C_zat : Code := (f59.body).getD .skip
noncomputable def T_zaq (a1_ : Y1) (a2_ : (HL [yi] → Option (Bool))) : Tr (Bool) :=
 .c (Int) (F_zat a1_ a2_) fun r1_ =>
 .l (decide ((0 : Int) ≤ r1_))
noncomputable def F_zaq (a1_ : Y1) (a2_ : (HL [yi] → Option (Bool))) : Option (Bool) := (T_zaq a1_ a2_).ev
noncomputable def A_zaq : Sh := (.cons (.dat y1) (.cons (.clo [yi] .bool) .nil))
noncomputable def I_zaq : List (Nat × OSh) := []
noncomputable def K_zaq : RetK := { acts := [], res := [.tmp 4], sh := (.cons (.dat .bool) .nil), obs := [], pins := [] }
noncomputable def D_zaq : FD := ⟨A_zaq, I_zaq, [], Bool, fun x => F_zaq x.1.1 x.1.2.1, fun r => ([.dat .bool r], [])⟩
noncomputable def E_zaq : Env := envOf [(59, D_zat)]
noncomputable def Z_zaq : Nat → Nat → List Nat := fun _ _ => []
noncomputable def O_zaq : List (Nat × LD) := []
noncomputable def C_zaq : Code := (f48.body).getD .skip
noncomputable def T_zq (a1_ : Int) (a2_ : Int) (a3_ : Int) : Tr (Bool) :=
 .c (Bool) (F_zt a1_ a2_ a3_) fun r1_ =>
 .l (!r1_)
noncomputable def F_zq (a1_ : Int) (a2_ : Int) (a3_ : Int) : Option (Bool) := (T_zq a1_ a2_ a3_).ev
noncomputable def A_zq : Sh := (.cons (.dat yi) (.cons (.ptr (.cons (.dat yi) .nil)) (.cons (.ptr (.cons (.dat yi) .nil)) .nil)))
noncomputable def I_zq : List (Nat × OSh) := []
noncomputable def K_zq : RetK := { acts := [], res := [.tmp 4], sh := (.cons (.dat .bool) .nil), obs := [], pins := [] }
noncomputable def D_zq : FD := ⟨A_zq, I_zq, [], Bool, fun x => F_zq x.1.1 x.1.2.1.1 x.1.2.2.1.1, fun r => ([.dat .bool r], [])⟩
noncomputable def E_zq : Env := envOf [(34, D_zt)]
noncomputable def Z_zq : Nat → Nat → List Nat := fun _ _ => []
noncomputable def O_zq : List (Nat × LD) := []
noncomputable def C_zq : Code := (f49.body).getD .skip
noncomputable def T_zp (a1_ : Y1) (a2_ : Int) (a3_ : Int) : Tr (Bool) :=
 .c (Bool) (F_zaq a1_ (fun h1_ => Option.bind (F_zq h1_.1 a2_ a3_) fun y2_ => some y2_)) fun r3_ =>
 .l (!r3_)
noncomputable def F_zp (a1_ : Y1) (a2_ : Int) (a3_ : Int) : Option (Bool) := (T_zp a1_ a2_ a3_).ev
noncomputable def A_zp : Sh := (.cons (.dat y1) (.cons (.dat yi) (.cons (.dat yi) .nil)))
noncomputable def I_zp : List (Nat × OSh) := []
noncomputable def K_zp : RetK := { acts := [], res := [.tmp 6], sh := (.cons (.dat .bool) .nil), obs := [], pins := [] }
noncomputable def D_zp : FD := ⟨A_zp, I_zp, [], Bool, fun x => F_zp x.1.1 x.1.2.1 x.1.2.2.1, fun r => ([.dat .bool r], [])⟩
noncomputable def E_zp : Env := envOf [(48, D_zaq), (48, D_zaq), (49, D_zq)]
noncomputable def Z_zp : Nat → Nat → List Nat := fun _ _ => []
noncomputable def O_zp : List (Nat × LD) := []
noncomputable def C_zp : Code := (f35.body).getD .skip
noncomputable def S_zas_0 (k : Y2 × (((HL [y1] → Option (Bool))) × Int)) (v : Int) : Tr ((Int) ⊕ ((Unit) ⊕ (Int))) :=
 .t (decide (v < k.2.2))
 (.g (inR v (List.length k.1)) <|
 .c (Bool) (k.2.1 ((List.getD k.1 (Int.toNat v) ([] : Y1)), ())) fun r5_ =>
 .t r5_
 (.l (.inr (.inr v)))
 (.l (.inl (IntKind.wrap .i64 (v + (1 : Int))))))
 (.l (.inr (.inl ())))
noncomputable def L_zas_0 (k : Y2 × (((HL [y1] → Option (Bool))) × Int)) (v : Int) : Option ((Unit) ⊕ (Int)) := iter (fun v => (S_zas_0 k v).ev) v
noncomputable def DL_zas_0 : LD := ⟨(yh [0, 1, 7, 8] (.cons (.dat y2) (.cons (.clo [y1] .bool) (.cons (.dat yi) (.cons (.dat yi) .nil))))), [(0, (yh [] .nil))], (yh [4] (.cons (.dat yi) .nil)), Y2 × (((HL [y1] → Option (Bool))) × Int), Int, (Unit) ⊕ (Int), fun k v => ((k.1, (k.2.1, (k.2.2, (v, ())))), ()), fun t => (t.1.1, (t.1.2.1, t.1.2.2.1)), fun t => t.1.2.2.2.1, S_zas_0, fun _ r => .s (Unit) (Int) r (fun _ => .l (.exit 0 (mkSt ((ys [] .nil)) ((), ())))) (fun b => .l (.ret (mkSt ((ys [4] (.cons (.dat yi) .nil))) ((b, ()), ()))))⟩
noncomputable def T_zas (a1_ : List Y1) (a2_ : (HL [y1] → Option (Bool))) : Tr (Int) :=
 .c ((Unit) ⊕ (Int)) (L_zas_0 (a1_, (a2_, ((List.length a1_ : Nat) : Int))) (0 : Int)) fun r7_ =>
 .s (Unit) (Int) r7_
 (fun _ => .l (-1 : Int))
 (fun r9_ => .l r9_)
noncomputable def F_zas (a1_ : List Y1) (a2_ : (HL [y1] → Option (Bool))) : Option (Int) := (T_zas a1_ a2_).ev
noncomputable def A_zas : Sh := (.cons (.dat y2) (.cons (.clo [y1] .bool) .nil))
noncomputable def I_zas : List (Nat × OSh) := []
noncomputable def K_zas : RetK := { acts := [], res := [.tmp 4], sh := (.cons (.dat yi) .nil), obs := [], pins := [] }
noncomputable def D_zas : FD := ⟨A_zas, I_zas, [], Int, fun x => F_zas x.1.1 x.1.2.1, fun r => ([.dat yi r], [])⟩
noncomputable def E_zas : Env := envOf []
noncomputable def Z_zas : Nat → Nat → List Nat := fun _ _ => []
noncomputable def O_zas : List (Nat × LD) := [(0, DL_zas_0)]
noncomputable def C_zas : Code := (f50.body).getD .skip
noncomputable def T_zap (a1_ : List Y1) (a2_ : (HL [y1] → Option (Bool))) : Tr (Bool) :=
 .c (Int) (F_zas a1_ a2_) fun r1_ =>
 .l (decide ((0 : Int) ≤ r1_))
noncomputable def F_zap (a1_ : List Y1) (a2_ : (HL [y1] → Option (Bool))) : Option (Bool) := (T_zap a1_ a2_).ev
noncomputable def A_zap : Sh := (.cons (.dat y2) (.cons (.clo [y1] .bool) .nil))
noncomputable def I_zap : List (Nat × OSh) := []
noncomputable def K_zap : RetK := { acts := [], res := [.tmp 4], sh := (.cons (.dat .bool) .nil), obs := [], pins := [] }
noncomputable def D_zap : FD := ⟨A_zap, I_zap, [], Bool, fun x => F_zap x.1.1 x.1.2.1, fun r => ([.dat .bool r], [])⟩
noncomputable def E_zap : Env := envOf [(50, D_zas)]
noncomputable def Z_zap : Nat → Nat → List Nat := fun _ _ => []
noncomputable def O_zap : List (Nat × LD) := []
noncomputable def C_zap : Code := (f36.body).getD .skip
noncomputable def T_zm (a1_ : Y1) (a2_ : Y1) (_a3_ : List Y1) : Tr (Bool) :=
 .t (((List.length a1_ : Nat) : Int) != ((List.length a2_ : Nat) : Int))
 (.l true)
 (.c (Bool) (F_zp a1_ (0 : Int) (99 : Int)) fun r1_ =>
 .l (!r1_))
noncomputable def F_zm (a1_ : Y1) (a2_ : Y1) (a3_ : List Y1) : Option (Bool) := (T_zm a1_ a2_ a3_).ev
noncomputable def A_zm : Sh := (.cons (.dat y1) (.cons (.ptr (.cons (.dat y1) (.cons (.dat y2) .nil))) .nil))
noncomputable def I_zm : List (Nat × OSh) := []
noncomputable def K_zm : RetK := { acts := [], res := [.tmp 3], sh := (.cons (.dat .bool) .nil), obs := [], pins := [] }
noncomputable def D_zm : FD := ⟨A_zm, I_zm, [], Bool, fun x => F_zm x.1.1 x.1.2.1.1 x.1.2.1.2.1, fun r => ([.dat .bool r], [])⟩
noncomputable def E_zm : Env := envOf [(35, D_zp)]
noncomputable def Z_zm : Nat → Nat → List Nat := fun _ _ => []
noncomputable def O_zm : List (Nat × LD) := []
noncomputable def C_zm : Code := (f37.body).getD .skip
noncomputable def T_zl (a1_ : Y1) (a2_ : List Y1) : Tr (Bool) :=
 .c (Bool) (F_zt ((List.length a1_ : Nat) : Int) (1 : Int) (7 : Int)) fun r1_ =>
 .t r1_
 (.c (Bool) (F_zp a1_ (0 : Int) (99 : Int)) fun r2_ =>
 .t r2_
 (.t (decide (((List.length a2_ : Nat) : Int) ≤ (7 : Int)))
 (.c (Bool) (F_zap a2_ (fun h3_ => Option.bind (F_zm h3_.1 a1_ a2_) fun y4_ => some y4_)) fun r5_ =>
 .l (!r5_))
 (.l false))
 (.l false))
 (.l false)
noncomputable def F_zl (a1_ : Y1) (a2_ : List Y1) : Option (Bool) := (T_zl a1_ a2_).ev
noncomputable def A_zl : Sh := (.cons (.agg (.cons (.dat y1) (.cons (.dat y2) .nil))) .nil)
noncomputable def I_zl : List (Nat × OSh) := []
noncomputable def K_zl : RetK := { acts := [], res := [.tmp 2], sh := (.cons (.dat .bool) .nil), obs := [], pins := [] }
noncomputable def D_zl : FD := ⟨A_zl, I_zl, [], Bool, fun x => F_zl x.1.1.1 x.1.1.2.1, fun r => ([.dat .bool r], [])⟩
noncomputable def E_zl : Env := envOf [(34, D_zt), (35, D_zp), (36, D_zap), (36, D_zap), (37, D_zm)]
noncomputable def Z_zl : Nat → Nat → List Nat := fun _ _ => []
noncomputable def O_zl : List (Nat × LD) := []
noncomputable def C_zl : Code := (f21.body).getD .skip
noncomputable def F_zax (a1_ : Y1) : Option (List Int) := some a1_
noncomputable def D_zax : FD := fdValues
noncomputable def F_zan (a1_ : Y1) : Option (List Int) := collectF a1_
noncomputable def D_zan : FD := fdCollect
noncomputable def T_zam (a1_ : Int) : Tr (Int) :=
 .t (decide ((4294967296 : Int) ≤ a1_))
 (.g (decide ((0 : Int) ≤ (32 : Int))) <|
 .t (decide ((65536 : Int) ≤ (Int.fdiv a1_ (2 ^ (min (Int.toNat (32 : Int)) (IntKind.bits .u64))))))
 (.g (decide ((0 : Int) ≤ (16 : Int))) <|
 .t (decide ((256 : Int) ≤ (Int.fdiv (Int.fdiv a1_ (2 ^ (min (Int.toNat (32 : Int)) (IntKind.bits .u64)))) (2 ^ (min (Int.toNat (16 : Int)) (IntKind.bits .u64))))))
 (.g (decide ((0 : Int) ≤ (8 : Int))) <|
 .g (inR (IntKind.wrap .u8 (Int.fdiv (Int.fdiv (Int.fdiv a1_ (2 ^ (min (Int.toNat (32 : Int)) (IntKind.bits .u64)))) (2 ^ (min (Int.toNat (16 : Int)) (IntKind.bits .u64)))) (2 ^ (min (Int.toNat (8 : Int)) (IntKind.bits .u64))))) (List.length ([0, 1, 2, 2, 3, 3, 3, 3, 4, 4, 4, 4, 4, 4, 4, 4, 5, 5, 5, 5, 5, 5, 5, 5, 5, 5, 5, 5, 5, 5, 5, 5, 6, 6, 6, 6, 6, 6, 6, 6, 6, 6, 6, 6, 6, 6, 6, 6, 6, 6, 6, 6, 6, 6, 6, 6, 6, 6, 6, 6, 6, 6, 6, 6, 7, 7, 7, 7, 7, 7, 7, 7, 7, 7, 7, 7, 7, 7, 7, 7, 7, 7, 7, 7, 7, 7, 7, 7, 7, 7, 7, 7, 7, 7, 7, 7, 7, 7, 7, 7, 7, 7, 7, 7, 7, 7, 7, 7, 7, 7, 7, 7, 7, 7, 7, 7, 7, 7, 7, 7, 7, 7, 7, 7, 7, 7, 7, 7, 8, 8, 8, 8, 8, 8, 8, 8, 8, 8, 8, 8, 8, 8, 8, 8, 8, 8, 8, 8, 8, 8, 8, 8, 8, 8, 8, 8, 8, 8, 8, 8, 8, 8, 8, 8, 8, 8, 8, 8, 8, 8, 8, 8, 8, 8, 8, 8, 8, 8, 8, 8, 8, 8, 8, 8, 8, 8, 8, 8, 8, 8, 8, 8, 8, 8, 8, 8, 8, 8, 8, 8, 8, 8, 8, 8, 8, 8, 8, 8, 8, 8, 8, 8, 8, 8, 8, 8, 8, 8, 8, 8, 8, 8, 8, 8, 8, 8, 8, 8, 8, 8, 8, 8, 8, 8, 8, 8, 8, 8, 8, 8, 8, 8, 8, 8, 8, 8, 8, 8, 8, 8, 8, 8, 8, 8, 8, 8] : List UInt8))) <|
 .l (IntKind.wrap .i64 ((IntKind.wrap .i64 ((IntKind.wrap .i64 ((32 : Int) + (16 : Int))) + (8 : Int))) + (IntKind.wrap .i64 ((UInt8.toNat (List.getD ([0, 1, 2, 2, 3, 3, 3, 3, 4, 4, 4, 4, 4, 4, 4, 4, 5, 5, 5, 5, 5, 5, 5, 5, 5, 5, 5, 5, 5, 5, 5, 5, 6, 6, 6, 6, 6, 6, 6, 6, 6, 6, 6, 6, 6, 6, 6, 6, 6, 6, 6, 6, 6, 6, 6, 6, 6, 6, 6, 6, 6, 6, 6, 6, 7, 7, 7, 7, 7, 7, 7, 7, 7, 7, 7, 7, 7, 7, 7, 7, 7, 7, 7, 7, 7, 7, 7, 7, 7, 7, 7, 7, 7, 7, 7, 7, 7, 7, 7, 7, 7, 7, 7, 7, 7, 7, 7, 7, 7, 7, 7, 7, 7, 7, 7, 7, 7, 7, 7, 7, 7, 7, 7, 7, 7, 7, 7, 7, 8, 8, 8, 8, 8, 8, 8, 8, 8, 8, 8, 8, 8, 8, 8, 8, 8, 8, 8, 8, 8, 8, 8, 8, 8, 8, 8, 8, 8, 8, 8, 8, 8, 8, 8, 8, 8, 8, 8, 8, 8, 8, 8, 8, 8, 8, 8, 8, 8, 8, 8, 8, 8, 8, 8, 8, 8, 8, 8, 8, 8, 8, 8, 8, 8, 8, 8, 8, 8, 8, 8, 8, 8, 8, 8, 8, 8, 8, 8, 8, 8, 8, 8, 8, 8, 8, 8, 8, 8, 8, 8, 8, 8, 8, 8, 8, 8, 8, 8, 8, 8, 8, 8, 8, 8, 8, 8, 8, 8, 8, 8, 8, 8, 8, 8, 8, 8, 8, 8, 8, 8, 8, 8, 8, 8, 8, 8, 8] : List UInt8) (Int.toNat (IntKind.wrap .u8 (Int.fdiv (Int.fdiv (Int.fdiv a1_ (2 ^ (min (Int.toNat (32 : Int)) (IntKind.bits .u64)))) (2 ^ (min (Int.toNat (16 : Int)) (IntKind.bits .u64)))) (2 ^ (min (Int.toNat (8 : Int)) (IntKind.bits .u64)))))) 0) : Nat) : Int)))))
 (.g (inR (IntKind.wrap .u8 (Int.fdiv (Int.fdiv a1_ (2 ^ (min (Int.toNat (32 : Int)) (IntKind.bits .u64)))) (2 ^ (min (Int.toNat (16 : Int)) (IntKind.bits .u64))))) (List.length ([0, 1, 2, 2, 3, 3, 3, 3, 4, 4, 4, 4, 4, 4, 4, 4, 5, 5, 5, 5, 5, 5, 5, 5, 5, 5, 5, 5, 5, 5, 5, 5, 6, 6, 6, 6, 6, 6, 6, 6, 6, 6, 6, 6, 6, 6, 6, 6, 6, 6, 6, 6, 6, 6, 6, 6, 6, 6, 6, 6, 6, 6, 6, 6, 7, 7, 7, 7, 7, 7, 7, 7, 7, 7, 7, 7, 7, 7, 7, 7, 7, 7, 7, 7, 7, 7, 7, 7, 7, 7, 7, 7, 7, 7, 7, 7, 7, 7, 7, 7, 7, 7, 7, 7, 7, 7, 7, 7, 7, 7, 7, 7, 7, 7, 7, 7, 7, 7, 7, 7, 7, 7, 7, 7, 7, 7, 7, 7, 8, 8, 8, 8, 8, 8, 8, 8, 8, 8, 8, 8, 8, 8, 8, 8, 8, 8, 8, 8, 8, 8, 8, 8, 8, 8, 8, 8, 8, 8, 8, 8, 8, 8, 8, 8, 8, 8, 8, 8, 8, 8, 8, 8, 8, 8, 8, 8, 8, 8, 8, 8, 8, 8, 8, 8, 8, 8, 8, 8, 8, 8, 8, 8, 8, 8, 8, 8, 8, 8, 8, 8, 8, 8, 8, 8, 8, 8, 8, 8, 8, 8, 8, 8, 8, 8, 8, 8, 8, 8, 8, 8, 8, 8, 8, 8, 8, 8, 8, 8, 8, 8, 8, 8, 8, 8, 8, 8, 8, 8, 8, 8, 8, 8, 8, 8, 8, 8, 8, 8, 8, 8, 8, 8, 8, 8, 8, 8] : List UInt8))) <|
 .l (IntKind.wrap .i64 ((IntKind.wrap .i64 ((32 : Int) + (16 : Int))) + (IntKind.wrap .i64 ((UInt8.toNat (List.getD ([0, 1, 2, 2, 3, 3, 3, 3, 4, 4, 4, 4, 4, 4, 4, 4, 5, 5, 5, 5, 5, 5, 5, 5, 5, 5, 5, 5, 5, 5, 5, 5, 6, 6, 6, 6, 6, 6, 6, 6, 6, 6, 6, 6, 6, 6, 6, 6, 6, 6, 6, 6, 6, 6, 6, 6, 6, 6, 6, 6, 6, 6, 6, 6, 7, 7, 7, 7, 7, 7, 7, 7, 7, 7, 7, 7, 7, 7, 7, 7, 7, 7, 7, 7, 7, 7, 7, 7, 7, 7, 7, 7, 7, 7, 7, 7, 7, 7, 7, 7, 7, 7, 7, 7, 7, 7, 7, 7, 7, 7, 7, 7, 7, 7, 7, 7, 7, 7, 7, 7, 7, 7, 7, 7, 7, 7, 7, 7, 8, 8, 8, 8, 8, 8, 8, 8, 8, 8, 8, 8, 8, 8, 8, 8, 8, 8, 8, 8, 8, 8, 8, 8, 8, 8, 8, 8, 8, 8, 8, 8, 8, 8, 8, 8, 8, 8, 8, 8, 8, 8, 8, 8, 8, 8, 8, 8, 8, 8, 8, 8, 8, 8, 8, 8, 8, 8, 8, 8, 8, 8, 8, 8, 8, 8, 8, 8, 8, 8, 8, 8, 8, 8, 8, 8, 8, 8, 8, 8, 8, 8, 8, 8, 8, 8, 8, 8, 8, 8, 8, 8, 8, 8, 8, 8, 8, 8, 8, 8, 8, 8, 8, 8, 8, 8, 8, 8, 8, 8, 8, 8, 8, 8, 8, 8, 8, 8, 8, 8, 8, 8, 8, 8, 8, 8, 8, 8] : List UInt8) (Int.toNat (IntKind.wrap .u8 (Int.fdiv (Int.fdiv a1_ (2 ^ (min (Int.toNat (32 : Int)) (IntKind.bits .u64)))) (2 ^ (min (Int.toNat (16 : Int)) (IntKind.bits .u64)))))) 0) : Nat) : Int))))))
 (.t (decide ((256 : Int) ≤ (Int.fdiv a1_ (2 ^ (min (Int.toNat (32 : Int)) (IntKind.bits .u64))))))
 (.g (decide ((0 : Int) ≤ (8 : Int))) <|
 .g (inR (IntKind.wrap .u8 (Int.fdiv (Int.fdiv a1_ (2 ^ (min (Int.toNat (32 : Int)) (IntKind.bits .u64)))) (2 ^ (min (Int.toNat (8 : Int)) (IntKind.bits .u64))))) (List.length ([0, 1, 2, 2, 3, 3, 3, 3, 4, 4, 4, 4, 4, 4, 4, 4, 5, 5, 5, 5, 5, 5, 5, 5, 5, 5, 5, 5, 5, 5, 5, 5, 6, 6, 6, 6, 6, 6, 6, 6, 6, 6, 6, 6, 6, 6, 6, 6, 6, 6, 6, 6, 6, 6, 6, 6, 6, 6, 6, 6, 6, 6, 6, 6, 7, 7, 7, 7, 7, 7, 7, 7, 7, 7, 7, 7, 7, 7, 7, 7, 7, 7, 7, 7, 7, 7, 7, 7, 7, 7, 7, 7, 7, 7, 7, 7, 7, 7, 7, 7, 7, 7, 7, 7, 7, 7, 7, 7, 7, 7, 7, 7, 7, 7, 7, 7, 7, 7, 7, 7, 7, 7, 7, 7, 7, 7, 7, 7, 8, 8, 8, 8, 8, 8, 8, 8, 8, 8, 8, 8, 8, 8, 8, 8, 8, 8, 8, 8, 8, 8, 8, 8, 8, 8, 8, 8, 8, 8, 8, 8, 8, 8, 8, 8, 8, 8, 8, 8, 8, 8, 8, 8, 8, 8, 8, 8, 8, 8, 8, 8, 8, 8, 8, 8, 8, 8, 8, 8, 8, 8, 8, 8, 8, 8, 8, 8, 8, 8, 8, 8, 8, 8, 8, 8, 8, 8, 8, 8, 8, 8, 8, 8, 8, 8, 8, 8, 8, 8, 8, 8, 8, 8, 8, 8, 8, 8, 8, 8, 8, 8, 8, 8, 8, 8, 8, 8, 8, 8, 8, 8, 8, 8, 8, 8, 8, 8, 8, 8, 8, 8, 8, 8, 8, 8, 8, 8] : List UInt8))) <|
 .l (IntKind.wrap .i64 ((IntKind.wrap .i64 ((32 : Int) + (8 : Int))) + (IntKind.wrap .i64 ((UInt8.toNat (List.getD ([0, 1, 2, 2, 3, 3, 3, 3, 4, 4, 4, 4, 4, 4, 4, 4, 5, 5, 5, 5, 5, 5, 5, 5, 5, 5, 5, 5, 5, 5, 5, 5, 6, 6, 6, 6, 6, 6, 6, 6, 6, 6, 6, 6, 6, 6, 6, 6, 6, 6, 6, 6, 6, 6, 6, 6, 6, 6, 6, 6, 6, 6, 6, 6, 7, 7, 7, 7, 7, 7, 7, 7, 7, 7, 7, 7, 7, 7, 7, 7, 7, 7, 7, 7, 7, 7, 7, 7, 7, 7, 7, 7, 7, 7, 7, 7, 7, 7, 7, 7, 7, 7, 7, 7, 7, 7, 7, 7, 7, 7, 7, 7, 7, 7, 7, 7, 7, 7, 7, 7, 7, 7, 7, 7, 7, 7, 7, 7, 8, 8, 8, 8, 8, 8, 8, 8, 8, 8, 8, 8, 8, 8, 8, 8, 8, 8, 8, 8, 8, 8, 8, 8, 8, 8, 8, 8, 8, 8, 8, 8, 8, 8, 8, 8, 8, 8, 8, 8, 8, 8, 8, 8, 8, 8, 8, 8, 8, 8, 8, 8, 8, 8, 8, 8, 8, 8, 8, 8, 8, 8, 8, 8, 8, 8, 8, 8, 8, 8, 8, 8, 8, 8, 8, 8, 8, 8, 8, 8, 8, 8, 8, 8, 8, 8, 8, 8, 8, 8, 8, 8, 8, 8, 8, 8, 8, 8, 8, 8, 8, 8, 8, 8, 8, 8, 8, 8, 8, 8, 8, 8, 8, 8, 8, 8, 8, 8, 8, 8, 8, 8, 8, 8, 8, 8, 8, 8] : List UInt8) (Int.toNat (IntKind.wrap .u8 (Int.fdiv (Int.fdiv a1_ (2 ^ (min (Int.toNat (32 : Int)) (IntKind.bits .u64)))) (2 ^ (min (Int.toNat (8 : Int)) (IntKind.bits .u64)))))) 0) : Nat) : Int)))))
 (.g (inR (IntKind.wrap .u8 (Int.fdiv a1_ (2 ^ (min (Int.toNat (32 : Int)) (IntKind.bits .u64))))) (List.length ([0, 1, 2, 2, 3, 3, 3, 3, 4, 4, 4, 4, 4, 4, 4, 4, 5, 5, 5, 5, 5, 5, 5, 5, 5, 5, 5, 5, 5, 5, 5, 5, 6, 6, 6, 6, 6, 6, 6, 6, 6, 6, 6, 6, 6, 6, 6, 6, 6, 6, 6, 6, 6, 6, 6, 6, 6, 6, 6, 6, 6, 6, 6, 6, 7, 7, 7, 7, 7, 7, 7, 7, 7, 7, 7, 7, 7, 7, 7, 7, 7, 7, 7, 7, 7, 7, 7, 7, 7, 7, 7, 7, 7, 7, 7, 7, 7, 7, 7, 7, 7, 7, 7, 7, 7, 7, 7, 7, 7, 7, 7, 7, 7, 7, 7, 7, 7, 7, 7, 7, 7, 7, 7, 7, 7, 7, 7, 7, 8, 8, 8, 8, 8, 8, 8, 8, 8, 8, 8, 8, 8, 8, 8, 8, 8, 8, 8, 8, 8, 8, 8, 8, 8, 8, 8, 8, 8, 8, 8, 8, 8, 8, 8, 8, 8, 8, 8, 8, 8, 8, 8, 8, 8, 8, 8, 8, 8, 8, 8, 8, 8, 8, 8, 8, 8, 8, 8, 8, 8, 8, 8, 8, 8, 8, 8, 8, 8, 8, 8, 8, 8, 8, 8, 8, 8, 8, 8, 8, 8, 8, 8, 8, 8, 8, 8, 8, 8, 8, 8, 8, 8, 8, 8, 8, 8, 8, 8, 8, 8, 8, 8, 8, 8, 8, 8, 8, 8, 8, 8, 8, 8, 8, 8, 8, 8, 8, 8, 8, 8, 8, 8, 8, 8, 8, 8, 8] : List UInt8))) <|
 .l (IntKind.wrap .i64 ((32 : Int) + (IntKind.wrap .i64 ((UInt8.toNat (List.getD ([0, 1, 2, 2, 3, 3, 3, 3, 4, 4, 4, 4, 4, 4, 4, 4, 5, 5, 5, 5, 5, 5, 5, 5, 5, 5, 5, 5, 5, 5, 5, 5, 6, 6, 6, 6, 6, 6, 6, 6, 6, 6, 6, 6, 6, 6, 6, 6, 6, 6, 6, 6, 6, 6, 6, 6, 6, 6, 6, 6, 6, 6, 6, 6, 7, 7, 7, 7, 7, 7, 7, 7, 7, 7, 7, 7, 7, 7, 7, 7, 7, 7, 7, 7, 7, 7, 7, 7, 7, 7, 7, 7, 7, 7, 7, 7, 7, 7, 7, 7, 7, 7, 7, 7, 7, 7, 7, 7, 7, 7, 7, 7, 7, 7, 7, 7, 7, 7, 7, 7, 7, 7, 7, 7, 7, 7, 7, 7, 8, 8, 8, 8, 8, 8, 8, 8, 8, 8, 8, 8, 8, 8, 8, 8, 8, 8, 8, 8, 8, 8, 8, 8, 8, 8, 8, 8, 8, 8, 8, 8, 8, 8, 8, 8, 8, 8, 8, 8, 8, 8, 8, 8, 8, 8, 8, 8, 8, 8, 8, 8, 8, 8, 8, 8, 8, 8, 8, 8, 8, 8, 8, 8, 8, 8, 8, 8, 8, 8, 8, 8, 8, 8, 8, 8, 8, 8, 8, 8, 8, 8, 8, 8, 8, 8, 8, 8, 8, 8, 8, 8, 8, 8, 8, 8, 8, 8, 8, 8, 8, 8, 8, 8, 8, 8, 8, 8, 8, 8, 8, 8, 8, 8, 8, 8, 8, 8, 8, 8, 8, 8, 8, 8, 8, 8, 8, 8] : List UInt8) (Int.toNat (IntKind.wrap .u8 (Int.fdiv a1_ (2 ^ (min (Int.toNat (32 : Int)) (IntKind.bits .u64)))))) 0) : Nat) : Int)))))))
 (.t (decide ((65536 : Int) ≤ a1_))
 (.g (decide ((0 : Int) ≤ (16 : Int))) <|
 .t (decide ((256 : Int) ≤ (Int.fdiv a1_ (2 ^ (min (Int.toNat (16 : Int)) (IntKind.bits .u64))))))
 (.g (decide ((0 : Int) ≤ (8 : Int))) <|
 .g (inR (IntKind.wrap .u8 (Int.fdiv (Int.fdiv a1_ (2 ^ (min (Int.toNat (16 : Int)) (IntKind.bits .u64)))) (2 ^ (min (Int.toNat (8 : Int)) (IntKind.bits .u64))))) (List.length ([0, 1, 2, 2, 3, 3, 3, 3, 4, 4, 4, 4, 4, 4, 4, 4, 5, 5, 5, 5, 5, 5, 5, 5, 5, 5, 5, 5, 5, 5, 5, 5, 6, 6, 6, 6, 6, 6, 6, 6, 6, 6, 6, 6, 6, 6, 6, 6, 6, 6, 6, 6, 6, 6, 6, 6, 6, 6, 6, 6, 6, 6, 6, 6, 7, 7, 7, 7, 7, 7, 7, 7, 7, 7, 7, 7, 7, 7, 7, 7, 7, 7, 7, 7, 7, 7, 7, 7, 7, 7, 7, 7, 7, 7, 7, 7, 7, 7, 7, 7, 7, 7, 7, 7, 7, 7, 7, 7, 7, 7, 7, 7, 7, 7, 7, 7, 7, 7, 7, 7, 7, 7, 7, 7, 7, 7, 7, 7, 8, 8, 8, 8, 8, 8, 8, 8, 8, 8, 8, 8, 8, 8, 8, 8, 8, 8, 8, 8, 8, 8, 8, 8, 8, 8, 8, 8, 8, 8, 8, 8, 8, 8, 8, 8, 8, 8, 8, 8, 8, 8, 8, 8, 8, 8, 8, 8, 8, 8, 8, 8, 8, 8, 8, 8, 8, 8, 8, 8, 8, 8, 8, 8, 8, 8, 8, 8, 8, 8, 8, 8, 8, 8, 8, 8, 8, 8, 8, 8, 8, 8, 8, 8, 8, 8, 8, 8, 8, 8, 8, 8, 8, 8, 8, 8, 8, 8, 8, 8, 8, 8, 8, 8, 8, 8, 8, 8, 8, 8, 8, 8, 8, 8, 8, 8, 8, 8, 8, 8, 8, 8, 8, 8, 8, 8, 8, 8] : List UInt8))) <|
 .l (IntKind.wrap .i64 ((IntKind.wrap .i64 ((IntKind.wrap .i64 ((0 : Int) + (16 : Int))) + (8 : Int))) + (IntKind.wrap .i64 ((UInt8.toNat (List.getD ([0, 1, 2, 2, 3, 3, 3, 3, 4, 4, 4, 4, 4, 4, 4, 4, 5, 5, 5, 5, 5, 5, 5, 5, 5, 5, 5, 5, 5, 5, 5, 5, 6, 6, 6, 6, 6, 6, 6, 6, 6, 6, 6, 6, 6, 6, 6, 6, 6, 6, 6, 6, 6, 6, 6, 6, 6, 6, 6, 6, 6, 6, 6, 6, 7, 7, 7, 7, 7, 7, 7, 7, 7, 7, 7, 7, 7, 7, 7, 7, 7, 7, 7, 7, 7, 7, 7, 7, 7, 7, 7, 7, 7, 7, 7, 7, 7, 7, 7, 7, 7, 7, 7, 7, 7, 7, 7, 7, 7, 7, 7, 7, 7, 7, 7, 7, 7, 7, 7, 7, 7, 7, 7, 7, 7, 7, 7, 7, 8, 8, 8, 8, 8, 8, 8, 8, 8, 8, 8, 8, 8, 8, 8, 8, 8, 8, 8, 8, 8, 8, 8, 8, 8, 8, 8, 8, 8, 8, 8, 8, 8, 8, 8, 8, 8, 8, 8, 8, 8, 8, 8, 8, 8, 8, 8, 8, 8, 8, 8, 8, 8, 8, 8, 8, 8, 8, 8, 8, 8, 8, 8, 8, 8, 8, 8, 8, 8, 8, 8, 8, 8, 8, 8, 8, 8, 8, 8, 8, 8, 8, 8, 8, 8, 8, 8, 8, 8, 8, 8, 8, 8, 8, 8, 8, 8, 8, 8, 8, 8, 8, 8, 8, 8, 8, 8, 8, 8, 8, 8, 8, 8, 8, 8, 8, 8, 8, 8, 8, 8, 8, 8, 8, 8, 8, 8, 8] : List UInt8) (Int.toNat (IntKind.wrap .u8 (Int.fdiv (Int.fdiv a1_ (2 ^ (min (Int.toNat (16 : Int)) (IntKind.bits .u64)))) (2 ^ (min (Int.toNat (8 : Int)) (IntKind.bits .u64)))))) 0) : Nat) : Int)))))
 (.g (inR (IntKind.wrap .u8 (Int.fdiv a1_ (2 ^ (min (Int.toNat (16 : Int)) (IntKind.bits .u64))))) (List.length ([0, 1, 2, 2, 3, 3, 3, 3, 4, 4, 4, 4, 4, 4, 4, 4, 5, 5, 5, 5, 5, 5, 5, 5, 5, 5, 5, 5, 5, 5, 5, 5, 6, 6, 6, 6, 6, 6, 6, 6, 6, 6, 6, 6, 6, 6, 6, 6, 6, 6, 6, 6, 6, 6, 6, 6, 6, 6, 6, 6, 6, 6, 6, 6, 7, 7, 7, 7, 7, 7, 7, 7, 7, 7, 7, 7, 7, 7, 7, 7, 7, 7, 7, 7, 7, 7, 7, 7, 7, 7, 7, 7, 7, 7, 7, 7, 7, 7, 7, 7, 7, 7, 7, 7, 7, 7, 7, 7, 7, 7, 7, 7, 7, 7, 7, 7, 7, 7, 7, 7, 7, 7, 7, 7, 7, 7, 7, 7, 8, 8, 8, 8, 8, 8, 8, 8, 8, 8, 8, 8, 8, 8, 8, 8, 8, 8, 8, 8, 8, 8, 8, 8, 8, 8, 8, 8, 8, 8, 8, 8, 8, 8, 8, 8, 8, 8, 8, 8, 8, 8, 8, 8, 8, 8, 8, 8, 8, 8, 8, 8, 8, 8, 8, 8, 8, 8, 8, 8, 8, 8, 8, 8, 8, 8, 8, 8, 8, 8, 8, 8, 8, 8, 8, 8, 8, 8, 8, 8, 8, 8, 8, 8, 8, 8, 8, 8, 8, 8, 8, 8, 8, 8, 8, 8, 8, 8, 8, 8, 8, 8, 8, 8, 8, 8, 8, 8, 8, 8, 8, 8, 8, 8, 8, 8, 8, 8, 8, 8, 8, 8, 8, 8, 8, 8, 8, 8] : List UInt8))) <|
 .l (IntKind.wrap .i64 ((IntKind.wrap .i64 ((0 : Int) + (16 : Int))) + (IntKind.wrap .i64 ((UInt8.toNat (List.getD ([0, 1, 2, 2, 3, 3, 3, 3, 4, 4, 4, 4, 4, 4, 4, 4, 5, 5, 5, 5, 5, 5, 5, 5, 5, 5, 5, 5, 5, 5, 5, 5, 6, 6, 6, 6, 6, 6, 6, 6, 6, 6, 6, 6, 6, 6, 6, 6, 6, 6, 6, 6, 6, 6, 6, 6, 6, 6, 6, 6, 6, 6, 6, 6, 7, 7, 7, 7, 7, 7, 7, 7, 7, 7, 7, 7, 7, 7, 7, 7, 7, 7, 7, 7, 7, 7, 7, 7, 7, 7, 7, 7, 7, 7, 7, 7, 7, 7, 7, 7, 7, 7, 7, 7, 7, 7, 7, 7, 7, 7, 7, 7, 7, 7, 7, 7, 7, 7, 7, 7, 7, 7, 7, 7, 7, 7, 7, 7, 8, 8, 8, 8, 8, 8, 8, 8, 8, 8, 8, 8, 8, 8, 8, 8, 8, 8, 8, 8, 8, 8, 8, 8, 8, 8, 8, 8, 8, 8, 8, 8, 8, 8, 8, 8, 8, 8, 8, 8, 8, 8, 8, 8, 8, 8, 8, 8, 8, 8, 8, 8, 8, 8, 8, 8, 8, 8, 8, 8, 8, 8, 8, 8, 8, 8, 8, 8, 8, 8, 8, 8, 8, 8, 8, 8, 8, 8, 8, 8, 8, 8, 8, 8, 8, 8, 8, 8, 8, 8, 8, 8, 8, 8, 8, 8, 8, 8, 8, 8, 8, 8, 8, 8, 8, 8, 8, 8, 8, 8, 8, 8, 8, 8, 8, 8, 8, 8, 8, 8, 8, 8, 8, 8, 8, 8, 8, 8] : List UInt8) (Int.toNat (IntKind.wrap .u8 (Int.fdiv a1_ (2 ^ (min (Int.toNat (16 : Int)) (IntKind.bits .u64)))))) 0) : Nat) : Int))))))
 (.t (decide ((256 : Int) ≤ a1_))
 (.g (decide ((0 : Int) ≤ (8 : Int))) <|
 .g (inR (IntKind.wrap .u8 (Int.fdiv a1_ (2 ^ (min (Int.toNat (8 : Int)) (IntKind.bits .u64))))) (List.length ([0, 1, 2, 2, 3, 3, 3, 3, 4, 4, 4, 4, 4, 4, 4, 4, 5, 5, 5, 5, 5, 5, 5, 5, 5, 5, 5, 5, 5, 5, 5, 5, 6, 6, 6, 6, 6, 6, 6, 6, 6, 6, 6, 6, 6, 6, 6, 6, 6, 6, 6, 6, 6, 6, 6, 6, 6, 6, 6, 6, 6, 6, 6, 6, 7, 7, 7, 7, 7, 7, 7, 7, 7, 7, 7, 7, 7, 7, 7, 7, 7, 7, 7, 7, 7, 7, 7, 7, 7, 7, 7, 7, 7, 7, 7, 7, 7, 7, 7, 7, 7, 7, 7, 7, 7, 7, 7, 7, 7, 7, 7, 7, 7, 7, 7, 7, 7, 7, 7, 7, 7, 7, 7, 7, 7, 7, 7, 7, 8, 8, 8, 8, 8, 8, 8, 8, 8, 8, 8, 8, 8, 8, 8, 8, 8, 8, 8, 8, 8, 8, 8, 8, 8, 8, 8, 8, 8, 8, 8, 8, 8, 8, 8, 8, 8, 8, 8, 8, 8, 8, 8, 8, 8, 8, 8, 8, 8, 8, 8, 8, 8, 8, 8, 8, 8, 8, 8, 8, 8, 8, 8, 8, 8, 8, 8, 8, 8, 8, 8, 8, 8, 8, 8, 8, 8, 8, 8, 8, 8, 8, 8, 8, 8, 8, 8, 8, 8, 8, 8, 8, 8, 8, 8, 8, 8, 8, 8, 8, 8, 8, 8, 8, 8, 8, 8, 8, 8, 8, 8, 8, 8, 8, 8, 8, 8, 8, 8, 8, 8, 8, 8, 8, 8, 8, 8, 8] : List UInt8))) <|
 .l (IntKind.wrap .i64 ((IntKind.wrap .i64 ((0 : Int) + (8 : Int))) + (IntKind.wrap .i64 ((UInt8.toNat (List.getD ([0, 1, 2, 2, 3, 3, 3, 3, 4, 4, 4, 4, 4, 4, 4, 4, 5, 5, 5, 5, 5, 5, 5, 5, 5, 5, 5, 5, 5, 5, 5, 5, 6, 6, 6, 6, 6, 6, 6, 6, 6, 6, 6, 6, 6, 6, 6, 6, 6, 6, 6, 6, 6, 6, 6, 6, 6, 6, 6, 6, 6, 6, 6, 6, 7, 7, 7, 7, 7, 7, 7, 7, 7, 7, 7, 7, 7, 7, 7, 7, 7, 7, 7, 7, 7, 7, 7, 7, 7, 7, 7, 7, 7, 7, 7, 7, 7, 7, 7, 7, 7, 7, 7, 7, 7, 7, 7, 7, 7, 7, 7, 7, 7, 7, 7, 7, 7, 7, 7, 7, 7, 7, 7, 7, 7, 7, 7, 7, 8, 8, 8, 8, 8, 8, 8, 8, 8, 8, 8, 8, 8, 8, 8, 8, 8, 8, 8, 8, 8, 8, 8, 8, 8, 8, 8, 8, 8, 8, 8, 8, 8, 8, 8, 8, 8, 8, 8, 8, 8, 8, 8, 8, 8, 8, 8, 8, 8, 8, 8, 8, 8, 8, 8, 8, 8, 8, 8, 8, 8, 8, 8, 8, 8, 8, 8, 8, 8, 8, 8, 8, 8, 8, 8, 8, 8, 8, 8, 8, 8, 8, 8, 8, 8, 8, 8, 8, 8, 8, 8, 8, 8, 8, 8, 8, 8, 8, 8, 8, 8, 8, 8, 8, 8, 8, 8, 8, 8, 8, 8, 8, 8, 8, 8, 8, 8, 8, 8, 8, 8, 8, 8, 8, 8, 8, 8, 8] : List UInt8) (Int.toNat (IntKind.wrap .u8 (Int.fdiv a1_ (2 ^ (min (Int.toNat (8 : Int)) (IntKind.bits .u64)))))) 0) : Nat) : Int)))))
 (.g (inR (IntKind.wrap .u8 a1_) (List.length ([0, 1, 2, 2, 3, 3, 3, 3, 4, 4, 4, 4, 4, 4, 4, 4, 5, 5, 5, 5, 5, 5, 5, 5, 5, 5, 5, 5, 5, 5, 5, 5, 6, 6, 6, 6, 6, 6, 6, 6, 6, 6, 6, 6, 6, 6, 6, 6, 6, 6, 6, 6, 6, 6, 6, 6, 6, 6, 6, 6, 6, 6, 6, 6, 7, 7, 7, 7, 7, 7, 7, 7, 7, 7, 7, 7, 7, 7, 7, 7, 7, 7, 7, 7, 7, 7, 7, 7, 7, 7, 7, 7, 7, 7, 7, 7, 7, 7, 7, 7, 7, 7, 7, 7, 7, 7, 7, 7, 7, 7, 7, 7, 7, 7, 7, 7, 7, 7, 7, 7, 7, 7, 7, 7, 7, 7, 7, 7, 8, 8, 8, 8, 8, 8, 8, 8, 8, 8, 8, 8, 8, 8, 8, 8, 8, 8, 8, 8, 8, 8, 8, 8, 8, 8, 8, 8, 8, 8, 8, 8, 8, 8, 8, 8, 8, 8, 8, 8, 8, 8, 8, 8, 8, 8, 8, 8, 8, 8, 8, 8, 8, 8, 8, 8, 8, 8, 8, 8, 8, 8, 8, 8, 8, 8, 8, 8, 8, 8, 8, 8, 8, 8, 8, 8, 8, 8, 8, 8, 8, 8, 8, 8, 8, 8, 8, 8, 8, 8, 8, 8, 8, 8, 8, 8, 8, 8, 8, 8, 8, 8, 8, 8, 8, 8, 8, 8, 8, 8, 8, 8, 8, 8, 8, 8, 8, 8, 8, 8, 8, 8, 8, 8, 8, 8, 8, 8] : List UInt8))) <|
 .l (IntKind.wrap .i64 ((0 : Int) + (IntKind.wrap .i64 ((UInt8.toNat (List.getD ([0, 1, 2, 2, 3, 3, 3, 3, 4, 4, 4, 4, 4, 4, 4, 4, 5, 5, 5, 5, 5, 5, 5, 5, 5, 5, 5, 5, 5, 5, 5, 5, 6, 6, 6, 6, 6, 6, 6, 6, 6, 6, 6, 6, 6, 6, 6, 6, 6, 6, 6, 6, 6, 6, 6, 6, 6, 6, 6, 6, 6, 6, 6, 6, 7, 7, 7, 7, 7, 7, 7, 7, 7, 7, 7, 7, 7, 7, 7, 7, 7, 7, 7, 7, 7, 7, 7, 7, 7, 7, 7, 7, 7, 7, 7, 7, 7, 7, 7, 7, 7, 7, 7, 7, 7, 7, 7, 7, 7, 7, 7, 7, 7, 7, 7, 7, 7, 7, 7, 7, 7, 7, 7, 7, 7, 7, 7, 7, 8, 8, 8, 8, 8, 8, 8, 8, 8, 8, 8, 8, 8, 8, 8, 8, 8, 8, 8, 8, 8, 8, 8, 8, 8, 8, 8, 8, 8, 8, 8, 8, 8, 8, 8, 8, 8, 8, 8, 8, 8, 8, 8, 8, 8, 8, 8, 8, 8, 8, 8, 8, 8, 8, 8, 8, 8, 8, 8, 8, 8, 8, 8, 8, 8, 8, 8, 8, 8, 8, 8, 8, 8, 8, 8, 8, 8, 8, 8, 8, 8, 8, 8, 8, 8, 8, 8, 8, 8, 8, 8, 8, 8, 8, 8, 8, 8, 8, 8, 8, 8, 8, 8, 8, 8, 8, 8, 8, 8, 8, 8, 8, 8, 8, 8, 8, 8, 8, 8, 8, 8, 8, 8, 8, 8, 8, 8, 8] : List UInt8) (Int.toNat (IntKind.wrap .u8 a1_)) 0) : Nat) : Int)))))))
noncomputable def F_zam (a1_ : Int) : Option (Int) := (T_zam a1_).ev
noncomputable def A_zam : Sh := (.cons (.dat (.int .u64)) .nil)
noncomputable def I_zam : List (Nat × OSh) := []
noncomputable def K_zam : RetK := { acts := [], res := [.tmp 2], sh := (.cons (.dat yi) .nil), obs := [], pins := [] }
noncomputable def D_zam : FD := ⟨A_zam, I_zam, [], Int, fun x => F_zam x.1.1, fun r => ([.dat yi r], [])⟩
noncomputable def E_zam : Env := envOf []
noncomputable def Z_zam : Nat → Nat → List Nat := fun _ _ => []
noncomputable def O_zam : List (Nat × LD) := []
noncomputable def C_zam : Code := (f74.body).getD .skip
noncomputable def T_zal (a1_ : Int) : Tr (Int) :=
 .c (Int) (F_zam a1_) fun r1_ =>
 .l r1_
noncomputable def F_zal (a1_ : Int) : Option (Int) := (T_zal a1_).ev
noncomputable def A_zal : Sh := (.cons (.dat (.int .u64)) .nil)
noncomputable def I_zal : List (Nat × OSh) := []
noncomputable def K_zal : RetK := { acts := [], res := [.tmp 2], sh := (.cons (.dat yi) .nil), obs := [], pins := [] }
noncomputable def D_zal : FD := ⟨A_zal, I_zal, [], Int, fun x => F_zal x.1.1, fun r => ([.dat yi r], [])⟩
noncomputable def E_zal : Env := envOf [(74, D_zam)]
noncomputable def Z_zal : Nat → Nat → List Nat := fun _ _ => []
noncomputable def O_zal : List (Nat × LD) := []
noncomputable def C_zal : Code := (f58.body).getD .skip
noncomputable def T_zd (a1_ : Int) : Tr (Bool) :=
 .l (a1_ != a1_)
noncomputable def F_zd (a1_ : Int) : Option (Bool) := (T_zd a1_).ev
noncomputable def A_zd : Sh := (.cons (.dat yi) .nil)
noncomputable def I_zd : List (Nat × OSh) := []
noncomputable def K_zd : RetK := { acts := [], res := [.tmp 2], sh := (.cons (.dat .bool) .nil), obs := [], pins := [] }
noncomputable def D_zd : FD := ⟨A_zd, I_zd, [], Bool, fun x => F_zd x.1.1, fun r => ([.dat .bool r], [])⟩
noncomputable def E_zd : Env := envOf []
noncomputable def Z_zd : Nat → Nat → List Nat := fun _ _ => []
noncomputable def O_zd : List (Nat × LD) := []
noncomputable def C_zd : Code := (f85.body).getD .skip
noncomputable def T_zb (a1_ : Int) (a2_ : Int) : Tr (Bool) :=
 .c (Bool) (F_zd a1_) fun r1_ =>
 .t r1_
 (.c (Bool) (F_zd a2_) fun r2_ =>
 .t (!r2_)
 (.l true)
 (.l (decide (a1_ < a2_))))
 (.l (decide (a1_ < a2_)))
noncomputable def F_zb (a1_ : Int) (a2_ : Int) : Option (Bool) := (T_zb a1_ a2_).ev
noncomputable def A_zb : Sh := (.cons (.dat yi) (.cons (.dat yi) .nil))
noncomputable def I_zb : List (Nat × OSh) := []
noncomputable def K_zb : RetK := { acts := [], res := [.tmp 4], sh := (.cons (.dat .bool) .nil), obs := [], pins := [] }
noncomputable def D_zb : FD := ⟨A_zb, I_zb, [], Bool, fun x => F_zb x.1.1 x.1.2.1, fun r => ([.dat .bool r], [])⟩
noncomputable def E_zb : Env := envOf [(85, D_zd)]
noncomputable def Z_zb : Nat → Nat → List Nat := fun _ _ => []
noncomputable def O_zb : List (Nat × LD) := []
noncomputable def C_zb : Code := (f70.body).getD .skip
noncomputable def S_zbd_2 (k : Int × (Int × Int)) (v : Int × Y1) : Tr ((Int × Y1) ⊕ Y1) :=
 .t (decide (k.1 < v.1))
 (.g (inR v.1 (List.length v.2)) <|
 .g (decide ((Int.toNat v.1) < List.length v.2)) <|
 .g (inR (IntKind.wrap .i64 (v.1 - (1 : Int))) (List.length v.2)) <|
 .g (decide ((Int.toNat (IntKind.wrap .i64 (v.1 - (1 : Int)))) < List.length v.2)) <|
 .c (Bool) (F_zb (List.getD v.2 (Int.toNat v.1) (0 : Int)) (List.getD v.2 (Int.toNat (IntKind.wrap .i64 (v.1 - (1 : Int)))) (0 : Int))) fun r10_ =>
 .t r10_
 (.g (inR (IntKind.wrap .i64 (v.1 - (1 : Int))) (List.length v.2)) <|
 .g (decide ((Int.toNat (IntKind.wrap .i64 (v.1 - (1 : Int)))) < List.length v.2)) <|
 .g (inR v.1 (List.length v.2)) <|
 .g (decide ((Int.toNat v.1) < List.length v.2)) <|
 .g (inR v.1 (List.length v.2)) <|
 .g (decide ((Int.toNat v.1) < List.length v.2)) <|
 .g (inR (IntKind.wrap .i64 (v.1 - (1 : Int))) (List.length (List.set v.2 (Int.toNat v.1) (List.getD v.2 (Int.toNat (IntKind.wrap .i64 (v.1 - (1 : Int)))) (0 : Int))))) <|
 .g (decide ((Int.toNat (IntKind.wrap .i64 (v.1 - (1 : Int)))) < List.length (List.set v.2 (Int.toNat v.1) (List.getD v.2 (Int.toNat (IntKind.wrap .i64 (v.1 - (1 : Int)))) (0 : Int))))) <|
 .l (.inl ((IntKind.wrap .i64 (v.1 - (1 : Int))), (List.set (List.set v.2 (Int.toNat v.1) (List.getD v.2 (Int.toNat (IntKind.wrap .i64 (v.1 - (1 : Int)))) (0 : Int))) (Int.toNat (IntKind.wrap .i64 (v.1 - (1 : Int)))) (List.getD v.2 (Int.toNat v.1) (0 : Int))))))
 (.l (.inr v.2)))
 (.l (.inr v.2))
noncomputable def L_zbd_2 (k : Int × (Int × Int)) (v : Int × Y1) : Option Y1 := iter (fun v => (S_zbd_2 k v).ev) v
noncomputable def DL_zbd_2 : LD := ⟨{ acts := [], S := { slots := [0, 1, 2, 6, 7], sh := (.cons (.arr 64) (.cons (.dat yi) (.cons (.dat yi) (.cons (.dat yi) (.cons (.dat yi) .nil))))), obs := [(64, .arr 3 yi)] } }, [(2, { acts := [], S := { slots := [0, 1, 2, 6], sh := (.cons (.arr 64) (.cons (.dat yi) (.cons (.dat yi) (.cons (.dat yi) .nil)))), obs := [(64, .arr 3 yi)] } })], (yh [] .nil), Int × (Int × Int), Int × Y1, Y1, fun k v => (((), (k.1, (k.2.1, (k.2.2, (v.1, ()))))), (v.2, ())), fun t => (t.1.2.1, (t.1.2.2.1, t.1.2.2.2.1)), fun t => (t.1.2.2.2.2.1, t.2.1), S_zbd_2, fun k r => .l (.exit 2 (mkSt ({ slots := [0, 1, 2, 6], sh := (.cons (.arr 64) (.cons (.dat yi) (.cons (.dat yi) (.cons (.dat yi) .nil)))), obs := [(64, .arr 3 yi)] }) (((), (k.1, (k.2.1, (k.2.2, ())))), (r, ()))))⟩
noncomputable def S_zbd_0 (k : Int × Int) (v : Int × Y1) : Tr ((Int × Y1) ⊕ Y1) :=
 .t (decide (v.1 < k.2))
 (.c Y1 (L_zbd_2 (k.1, (k.2, v.1)) (v.1, v.2)) fun r15_ =>
 .l (.inl ((IntKind.wrap .i64 (v.1 + (1 : Int))), r15_)))
 (.l (.inr v.2))
noncomputable def L_zbd_0 (k : Int × Int) (v : Int × Y1) : Option Y1 := iter (fun v => (S_zbd_0 k v).ev) v
noncomputable def DL_zbd_0 : LD := ⟨{ acts := [], S := { slots := [0, 1, 2, 6], sh := (.cons (.arr 64) (.cons (.dat yi) (.cons (.dat yi) (.cons (.dat yi) .nil)))), obs := [(64, .arr 3 yi)] } }, [(0, { acts := [], S := { slots := [0], sh := (.cons (.arr 64) .nil), obs := [(64, .arr 3 yi)] } })], (yh [] .nil), Int × (Int), Int × Y1, Y1, fun k v => (((), (k.1, (k.2, (v.1, ())))), (v.2, ())), fun t => (t.1.2.1, t.1.2.2.1), fun t => (t.1.2.2.2.1, t.2.1), S_zbd_0, fun _ r => .l (.exit 0 (mkSt ({ slots := [0], sh := (.cons (.arr 64) .nil), obs := [(64, .arr 3 yi)] }) (((), ()), (r, ()))))⟩
noncomputable def T_zbd (a2_ : Int) (a3_ : Int) (a1_ : Y1) : Tr Y1 :=
 .c Y1 (L_zbd_0 (a2_, a3_) ((IntKind.wrap .i64 (a2_ + (1 : Int))), a1_)) fun r17_ =>
 .l r17_
noncomputable def F_zbd (a2_ : Int) (a3_ : Int) (a1_ : Y1) : Option Y1 := (T_zbd a2_ a3_ a1_).ev
noncomputable def A_zbd : Sh := (.cons (.arr 64) (.cons (.dat yi) (.cons (.dat yi) .nil)))
noncomputable def I_zbd : List (Nat × OSh) := [(64, .arr 3 yi)]
noncomputable def K_zbd : RetK := { acts := [], res := [], sh := .nil, obs := [(64, .arr 3 yi)], pins := [(0, 0, 64)] }
noncomputable def D_zbd : FD := ⟨A_zbd, I_zbd, [.arg 0], Y1, fun x => F_zbd x.1.2.1 x.1.2.2.1 x.2.1, fun r => ([], [(64, .arr 3 yi r)])⟩
noncomputable def E_zbd : Env := envOf [(70, D_zb)]
noncomputable def Z_zbd : Nat → Nat → List Nat := fun _ _ => []
noncomputable def O_zbd : List (Nat × LD) := [(2, DL_zbd_2), (0, DL_zbd_0)]
noncomputable def C_zbd : Code := (f64.body).getD .skip
noncomputable def T_zbi (a1_ : Int) : Tr (Int) :=
 .c (Int) (F_zal (IntKind.wrap .u64 a1_)) fun r1_ =>
 .g (decide ((0 : Int) ≤ r1_)) <|
 .l (IntKind.wrap .u64 ((1 : Int) * 2 ^ (min (Int.toNat r1_) (IntKind.bits .u64))))
noncomputable def F_zbi (a1_ : Int) : Option (Int) := (T_zbi a1_).ev
noncomputable def A_zbi : Sh := (.cons (.dat yi) .nil)
noncomputable def I_zbi : List (Nat × OSh) := []
noncomputable def K_zbi : RetK := { acts := [], res := [.tmp 2], sh := (.cons (.dat (.int .u64)) .nil), obs := [], pins := [] }
noncomputable def D_zbi : FD := ⟨A_zbi, I_zbi, [], Int, fun x => F_zbi x.1.1, fun r => ([.dat (.int .u64) r], [])⟩
noncomputable def E_zbi : Env := envOf [(58, D_zal)]
noncomputable def Z_zbi : Nat → Nat → List Nat := fun _ _ => []
noncomputable def O_zbi : List (Nat × LD) := []
noncomputable def C_zbi : Code := (f81.body).getD .skip
noncomputable def T_zbp (a1_ : Int) : Tr (Int × Int) :=
 .g (decide ((0 : Int) ≤ (13 : Int))) <|
 .g (decide ((0 : Int) ≤ (7 : Int))) <|
 .g (decide ((0 : Int) ≤ (17 : Int))) <|
 .l ((IntKind.wrap .u64 (BitVec.toNat ((BitVec.ofInt (IntKind.bits .u64) (IntKind.wrap .u64 (BitVec.toNat ((BitVec.ofInt (IntKind.bits .u64) (IntKind.wrap .u64 (BitVec.toNat ((BitVec.ofInt (IntKind.bits .u64) a1_) ^^^ (BitVec.ofInt (IntKind.bits .u64) (IntKind.wrap .u64 (a1_ * 2 ^ (min (Int.toNat (13 : Int)) (IntKind.bits .u64))))))))) ^^^ (BitVec.ofInt (IntKind.bits .u64) (Int.fdiv (IntKind.wrap .u64 (BitVec.toNat ((BitVec.ofInt (IntKind.bits .u64) a1_) ^^^ (BitVec.ofInt (IntKind.bits .u64) (IntKind.wrap .u64 (a1_ * 2 ^ (min (Int.toNat (13 : Int)) (IntKind.bits .u64)))))))) (2 ^ (min (Int.toNat (7 : Int)) (IntKind.bits .u64))))))))) ^^^ (BitVec.ofInt (IntKind.bits .u64) (IntKind.wrap .u64 ((IntKind.wrap .u64 (BitVec.toNat ((BitVec.ofInt (IntKind.bits .u64) (IntKind.wrap .u64 (BitVec.toNat ((BitVec.ofInt (IntKind.bits .u64) a1_) ^^^ (BitVec.ofInt (IntKind.bits .u64) (IntKind.wrap .u64 (a1_ * 2 ^ (min (Int.toNat (13 : Int)) (IntKind.bits .u64))))))))) ^^^ (BitVec.ofInt (IntKind.bits .u64) (Int.fdiv (IntKind.wrap .u64 (BitVec.toNat ((BitVec.ofInt (IntKind.bits .u64) a1_) ^^^ (BitVec.ofInt (IntKind.bits .u64) (IntKind.wrap .u64 (a1_ * 2 ^ (min (Int.toNat (13 : Int)) (IntKind.bits .u64)))))))) (2 ^ (min (Int.toNat (7 : Int)) (IntKind.bits .u64)))))))) * 2 ^ (min (Int.toNat (17 : Int)) (IntKind.bits .u64)))))))), (IntKind.wrap .u64 (BitVec.toNat ((BitVec.ofInt (IntKind.bits .u64) (IntKind.wrap .u64 (BitVec.toNat ((BitVec.ofInt (IntKind.bits .u64) (IntKind.wrap .u64 (BitVec.toNat ((BitVec.ofInt (IntKind.bits .u64) a1_) ^^^ (BitVec.ofInt (IntKind.bits .u64) (IntKind.wrap .u64 (a1_ * 2 ^ (min (Int.toNat (13 : Int)) (IntKind.bits .u64))))))))) ^^^ (BitVec.ofInt (IntKind.bits .u64) (Int.fdiv (IntKind.wrap .u64 (BitVec.toNat ((BitVec.ofInt (IntKind.bits .u64) a1_) ^^^ (BitVec.ofInt (IntKind.bits .u64) (IntKind.wrap .u64 (a1_ * 2 ^ (min (Int.toNat (13 : Int)) (IntKind.bits .u64)))))))) (2 ^ (min (Int.toNat (7 : Int)) (IntKind.bits .u64))))))))) ^^^ (BitVec.ofInt (IntKind.bits .u64) (IntKind.wrap .u64 ((IntKind.wrap .u64 (BitVec.toNat ((BitVec.ofInt (IntKind.bits .u64) (IntKind.wrap .u64 (BitVec.toNat ((BitVec.ofInt (IntKind.bits .u64) a1_) ^^^ (BitVec.ofInt (IntKind.bits .u64) (IntKind.wrap .u64 (a1_ * 2 ^ (min (Int.toNat (13 : Int)) (IntKind.bits .u64))))))))) ^^^ (BitVec.ofInt (IntKind.bits .u64) (Int.fdiv (IntKind.wrap .u64 (BitVec.toNat ((BitVec.ofInt (IntKind.bits .u64) a1_) ^^^ (BitVec.ofInt (IntKind.bits .u64) (IntKind.wrap .u64 (a1_ * 2 ^ (min (Int.toNat (13 : Int)) (IntKind.bits .u64)))))))) (2 ^ (min (Int.toNat (7 : Int)) (IntKind.bits .u64)))))))) * 2 ^ (min (Int.toNat (17 : Int)) (IntKind.bits .u64)))))))))
noncomputable def F_zbp (a1_ : Int) : Option (Int × Int) := (T_zbp a1_).ev
noncomputable def A_zbp : Sh := (.cons (.box 64 0) .nil)
noncomputable def I_zbp : List (Nat × OSh) := [(64, .cells (.cons (.dat (.int .u64)) .nil))]
noncomputable def K_zbp : RetK := { acts := [], res := [.tmp 2], sh := (.cons (.dat (.int .u64)) .nil), obs := [(64, .cells (.cons (.dat (.int .u64)) .nil))], pins := [(0, 0, 64)] }
noncomputable def D_zbp : FD := ⟨A_zbp, I_zbp, [.arg 0], Int × (Int), fun x => F_zbp x.2.1.1, fun r => ([.dat (.int .u64) r.1], [(64, .cells [.dat (.int .u64) r.2])])⟩
noncomputable def E_zbp : Env := envOf []
noncomputable def Z_zbp : Nat → Nat → List Nat := fun _ _ => []
noncomputable def O_zbp : List (Nat × LD) := []
noncomputable def C_zbp : Code := (f82.body).getD .skip
noncomputable def S_zaz_0 (k : Int × (Int × Int)) (v : Int × (Y1 × Int)) : Tr ((Int × (Y1 × Int)) ⊕ Y1) :=
 .g (!decide ((4 : Int) = 0)) <|
 .t (decide (v.1 ≤ (IntKind.wrap .i64 ((IntKind.wrap .i64 (k.1 + (IntKind.wrap .i64 ((IntKind.wrap .i64 (Int.tdiv k.2.1 (4 : Int))) * (2 : Int))))) + (1 : Int)))))
 (.c (Int × Int) (F_zbp v.2.2) fun r8_ =>
 .t (decide (k.2.1 ≤ (IntKind.wrap .i64 (IntKind.wrap .u64 (BitVec.toNat ((BitVec.ofInt (IntKind.bits .u64) r8_.1) &&& (BitVec.ofInt (IntKind.bits .u64) (IntKind.wrap .u64 (k.2.2 - (1 : Int))))))))))
 (.g (inR (IntKind.wrap .i64 (k.1 + (IntKind.wrap .i64 ((IntKind.wrap .i64 (IntKind.wrap .u64 (BitVec.toNat ((BitVec.ofInt (IntKind.bits .u64) r8_.1) &&& (BitVec.ofInt (IntKind.bits .u64) (IntKind.wrap .u64 (k.2.2 - (1 : Int)))))))) - k.2.1)))) (List.length v.2.1)) <|
 .g (decide ((Int.toNat (IntKind.wrap .i64 (k.1 + (IntKind.wrap .i64 ((IntKind.wrap .i64 (IntKind.wrap .u64 (BitVec.toNat ((BitVec.ofInt (IntKind.bits .u64) r8_.1) &&& (BitVec.ofInt (IntKind.bits .u64) (IntKind.wrap .u64 (k.2.2 - (1 : Int)))))))) - k.2.1))))) < List.length v.2.1)) <|
 .g (inR v.1 (List.length v.2.1)) <|
 .g (decide ((Int.toNat v.1) < List.length v.2.1)) <|
 .g (inR v.1 (List.length v.2.1)) <|
 .g (decide ((Int.toNat v.1) < List.length v.2.1)) <|
 .g (inR (IntKind.wrap .i64 (k.1 + (IntKind.wrap .i64 ((IntKind.wrap .i64 (IntKind.wrap .u64 (BitVec.toNat ((BitVec.ofInt (IntKind.bits .u64) r8_.1) &&& (BitVec.ofInt (IntKind.bits .u64) (IntKind.wrap .u64 (k.2.2 - (1 : Int)))))))) - k.2.1)))) (List.length (List.set v.2.1 (Int.toNat v.1) (List.getD v.2.1 (Int.toNat (IntKind.wrap .i64 (k.1 + (IntKind.wrap .i64 ((IntKind.wrap .i64 (IntKind.wrap .u64 (BitVec.toNat ((BitVec.ofInt (IntKind.bits .u64) r8_.1) &&& (BitVec.ofInt (IntKind.bits .u64) (IntKind.wrap .u64 (k.2.2 - (1 : Int)))))))) - k.2.1))))) (0 : Int))))) <|
 .g (decide ((Int.toNat (IntKind.wrap .i64 (k.1 + (IntKind.wrap .i64 ((IntKind.wrap .i64 (IntKind.wrap .u64 (BitVec.toNat ((BitVec.ofInt (IntKind.bits .u64) r8_.1) &&& (BitVec.ofInt (IntKind.bits .u64) (IntKind.wrap .u64 (k.2.2 - (1 : Int)))))))) - k.2.1))))) < List.length (List.set v.2.1 (Int.toNat v.1) (List.getD v.2.1 (Int.toNat (IntKind.wrap .i64 (k.1 + (IntKind.wrap .i64 ((IntKind.wrap .i64 (IntKind.wrap .u64 (BitVec.toNat ((BitVec.ofInt (IntKind.bits .u64) r8_.1) &&& (BitVec.ofInt (IntKind.bits .u64) (IntKind.wrap .u64 (k.2.2 - (1 : Int)))))))) - k.2.1))))) (0 : Int))))) <|
 .l (.inl ((IntKind.wrap .i64 (v.1 + (1 : Int))), ((List.set (List.set v.2.1 (Int.toNat v.1) (List.getD v.2.1 (Int.toNat (IntKind.wrap .i64 (k.1 + (IntKind.wrap .i64 ((IntKind.wrap .i64 (IntKind.wrap .u64 (BitVec.toNat ((BitVec.ofInt (IntKind.bits .u64) r8_.1) &&& (BitVec.ofInt (IntKind.bits .u64) (IntKind.wrap .u64 (k.2.2 - (1 : Int)))))))) - k.2.1))))) (0 : Int))) (Int.toNat (IntKind.wrap .i64 (k.1 + (IntKind.wrap .i64 ((IntKind.wrap .i64 (IntKind.wrap .u64 (BitVec.toNat ((BitVec.ofInt (IntKind.bits .u64) r8_.1) &&& (BitVec.ofInt (IntKind.bits .u64) (IntKind.wrap .u64 (k.2.2 - (1 : Int)))))))) - k.2.1))))) (List.getD v.2.1 (Int.toNat v.1) (0 : Int))), r8_.2))))
 (.g (inR (IntKind.wrap .i64 (k.1 + (IntKind.wrap .i64 (IntKind.wrap .u64 (BitVec.toNat ((BitVec.ofInt (IntKind.bits .u64) r8_.1) &&& (BitVec.ofInt (IntKind.bits .u64) (IntKind.wrap .u64 (k.2.2 - (1 : Int)))))))))) (List.length v.2.1)) <|
 .g (decide ((Int.toNat (IntKind.wrap .i64 (k.1 + (IntKind.wrap .i64 (IntKind.wrap .u64 (BitVec.toNat ((BitVec.ofInt (IntKind.bits .u64) r8_.1) &&& (BitVec.ofInt (IntKind.bits .u64) (IntKind.wrap .u64 (k.2.2 - (1 : Int))))))))))) < List.length v.2.1)) <|
 .g (inR v.1 (List.length v.2.1)) <|
 .g (decide ((Int.toNat v.1) < List.length v.2.1)) <|
 .g (inR v.1 (List.length v.2.1)) <|
 .g (decide ((Int.toNat v.1) < List.length v.2.1)) <|
 .g (inR (IntKind.wrap .i64 (k.1 + (IntKind.wrap .i64 (IntKind.wrap .u64 (BitVec.toNat ((BitVec.ofInt (IntKind.bits .u64) r8_.1) &&& (BitVec.ofInt (IntKind.bits .u64) (IntKind.wrap .u64 (k.2.2 - (1 : Int)))))))))) (List.length (List.set v.2.1 (Int.toNat v.1) (List.getD v.2.1 (Int.toNat (IntKind.wrap .i64 (k.1 + (IntKind.wrap .i64 (IntKind.wrap .u64 (BitVec.toNat ((BitVec.ofInt (IntKind.bits .u64) r8_.1) &&& (BitVec.ofInt (IntKind.bits .u64) (IntKind.wrap .u64 (k.2.2 - (1 : Int))))))))))) (0 : Int))))) <|
 .g (decide ((Int.toNat (IntKind.wrap .i64 (k.1 + (IntKind.wrap .i64 (IntKind.wrap .u64 (BitVec.toNat ((BitVec.ofInt (IntKind.bits .u64) r8_.1) &&& (BitVec.ofInt (IntKind.bits .u64) (IntKind.wrap .u64 (k.2.2 - (1 : Int))))))))))) < List.length (List.set v.2.1 (Int.toNat v.1) (List.getD v.2.1 (Int.toNat (IntKind.wrap .i64 (k.1 + (IntKind.wrap .i64 (IntKind.wrap .u64 (BitVec.toNat ((BitVec.ofInt (IntKind.bits .u64) r8_.1) &&& (BitVec.ofInt (IntKind.bits .u64) (IntKind.wrap .u64 (k.2.2 - (1 : Int))))))))))) (0 : Int))))) <|
 .l (.inl ((IntKind.wrap .i64 (v.1 + (1 : Int))), ((List.set (List.set v.2.1 (Int.toNat v.1) (List.getD v.2.1 (Int.toNat (IntKind.wrap .i64 (k.1 + (IntKind.wrap .i64 (IntKind.wrap .u64 (BitVec.toNat ((BitVec.ofInt (IntKind.bits .u64) r8_.1) &&& (BitVec.ofInt (IntKind.bits .u64) (IntKind.wrap .u64 (k.2.2 - (1 : Int))))))))))) (0 : Int))) (Int.toNat (IntKind.wrap .i64 (k.1 + (IntKind.wrap .i64 (IntKind.wrap .u64 (BitVec.toNat ((BitVec.ofInt (IntKind.bits .u64) r8_.1) &&& (BitVec.ofInt (IntKind.bits .u64) (IntKind.wrap .u64 (k.2.2 - (1 : Int))))))))))) (List.getD v.2.1 (Int.toNat v.1) (0 : Int))), r8_.2)))))
 (.l (.inr v.2.1))
noncomputable def L_zaz_0 (k : Int × (Int × Int)) (v : Int × (Y1 × Int)) : Option Y1 := iter (fun v => (S_zaz_0 k v).ev) v
noncomputable def DL_zaz_0 : LD := ⟨{ acts := [], S := { slots := [0, 1, 6, 7, 8, 9], sh := (.cons (.arr 64) (.cons (.dat yi) (.cons (.dat yi) (.cons (.box 7 0) (.cons (.dat (.int .u64)) (.cons (.dat yi) .nil)))))), obs := [(64, .arr 3 yi), (7, .cells (.cons (.dat (.int .u64)) .nil))] } }, [(0, { acts := [], S := { slots := [0], sh := (.cons (.arr 64) .nil), obs := [(64, .arr 3 yi)] } })], (yh [] .nil), Int × (Int × Int), Int × (Y1 × Int), Y1, fun k v => (((), (k.1, (k.2.1, ((), (k.2.2, (v.1, ())))))), (v.2.1, ((v.2.2, ()), ()))), fun t => (t.1.2.1, (t.1.2.2.1, t.1.2.2.2.2.1)), fun t => (t.1.2.2.2.2.2.1, (t.2.1, t.2.2.1.1)), S_zaz_0, fun _ r => .l (.exit 0 (mkSt ({ slots := [0], sh := (.cons (.arr 64) .nil), obs := [(64, .arr 3 yi)] }) (((), ()), (r, ()))))⟩
noncomputable def T_zaz (a2_ : Int) (a3_ : Int) (a1_ : Y1) : Tr Y1 :=
 .t (decide ((8 : Int) ≤ (IntKind.wrap .i64 (a3_ - a2_))))
 (.c (Int) (F_zbi (IntKind.wrap .i64 (a3_ - a2_))) fun r1_ =>
 .g (!decide ((4 : Int) = 0)) <|
 .c Y1 (L_zaz_0 (a2_, ((IntKind.wrap .i64 (a3_ - a2_)), r1_)) ((IntKind.wrap .i64 ((IntKind.wrap .i64 (a2_ + (IntKind.wrap .i64 ((IntKind.wrap .i64 (Int.tdiv (IntKind.wrap .i64 (a3_ - a2_)) (4 : Int))) * (2 : Int))))) - (1 : Int))), (a1_, (IntKind.wrap .u64 (IntKind.wrap .i64 (a3_ - a2_)))))) fun r10_ =>
 .l r10_)
 (.l a1_)
noncomputable def F_zaz (a2_ : Int) (a3_ : Int) (a1_ : Y1) : Option Y1 := (T_zaz a2_ a3_ a1_).ev
noncomputable def A_zaz : Sh := (.cons (.arr 64) (.cons (.dat yi) (.cons (.dat yi) .nil)))
noncomputable def I_zaz : List (Nat × OSh) := [(64, .arr 3 yi)]
noncomputable def K_zaz : RetK := { acts := [], res := [], sh := .nil, obs := [(64, .arr 3 yi)], pins := [(0, 0, 64)] }
noncomputable def D_zaz : FD := ⟨A_zaz, I_zaz, [.arg 0], Y1, fun x => F_zaz x.1.2.1 x.1.2.2.1 x.2.1, fun r => ([], [(64, .arr 3 yi r)])⟩
noncomputable def E_zaz : Env := envOf [(81, D_zbi), (82, D_zbp)]
noncomputable def Z_zaz : Nat → Nat → List Nat := fun _ _ => []
noncomputable def O_zaz : List (Nat × LD) := [(0, DL_zaz_0)]
noncomputable def C_zaz : Code := (f66.body).getD .skip
noncomputable def T_zbk (a1_ : Y1) (a2_ : Int) (a3_ : Int) (a4_ : Int) : Tr (Int × (Int × Int)) :=
 .g (inR a3_ (List.length a1_)) <|
 .g (inR a2_ (List.length a1_)) <|
 .c (Bool) (F_zb (List.getD a1_ (Int.toNat a3_) (0 : Int)) (List.getD a1_ (Int.toNat a2_) (0 : Int))) fun r1_ =>
 .t r1_
 (.l (a3_, (a2_, (IntKind.wrap .i64 (a4_ + (1 : Int))))))
 (.l (a2_, (a3_, a4_)))
noncomputable def F_zbk (a1_ : Y1) (a2_ : Int) (a3_ : Int) (a4_ : Int) : Option (Int × (Int × Int)) := (T_zbk a1_ a2_ a3_ a4_).ev
noncomputable def A_zbk : Sh := (.cons (.dat y1) (.cons (.dat yi) (.cons (.dat yi) (.cons (.box 64 0) .nil))))
noncomputable def I_zbk : List (Nat × OSh) := [(64, .cells (.cons (.dat yi) .nil))]
noncomputable def K_zbk : RetK := { acts := [], res := [.tmp 8, .tmp 9], sh := (.cons (.dat yi) (.cons (.dat yi) .nil)), obs := [(64, .cells (.cons (.dat yi) .nil))], pins := [(3, 0, 64)] }
noncomputable def D_zbk : FD := ⟨A_zbk, I_zbk, [.arg 3], Int × (Int × Int), fun x => F_zbk x.1.1 x.1.2.1 x.1.2.2.1 x.2.1.1, fun r => ([.dat yi r.1, .dat yi r.2.1], [(64, .cells [.dat yi r.2.2])])⟩
noncomputable def E_zbk : Env := envOf [(70, D_zb)]
noncomputable def Z_zbk : Nat → Nat → List Nat := fun _ _ => []
noncomputable def O_zbk : List (Nat × LD) := []
noncomputable def C_zbk : Code := (f94.body).getD .skip
noncomputable def T_zbh (a1_ : Y1) (a2_ : Int) (a3_ : Int) (a4_ : Int) (a5_ : Int) : Tr (Int × Int) :=
 .c (Int × (Int × Int)) (F_zbk a1_ a2_ a3_ a5_) fun r1_ =>
 .c (Int × (Int × Int)) (F_zbk a1_ r1_.2.1 a4_ r1_.2.2) fun r2_ =>
 .c (Int × (Int × Int)) (F_zbk a1_ r1_.1 r2_.1 r2_.2.2) fun r3_ =>
 .l (r3_.2.1, r3_.2.2)
noncomputable def F_zbh (a1_ : Y1) (a2_ : Int) (a3_ : Int) (a4_ : Int) (a5_ : Int) : Option (Int × Int) := (T_zbh a1_ a2_ a3_ a4_ a5_).ev
noncomputable def A_zbh : Sh := (.cons (.dat y1) (.cons (.dat yi) (.cons (.dat yi) (.cons (.dat yi) (.cons (.box 64 0) .nil)))))
noncomputable def I_zbh : List (Nat × OSh) := [(64, .cells (.cons (.dat yi) .nil))]
noncomputable def K_zbh : RetK := { acts := [], res := [.tmp 10], sh := (.cons (.dat yi) .nil), obs := [(64, .cells (.cons (.dat yi) .nil))], pins := [(4, 0, 64)] }
noncomputable def D_zbh : FD := ⟨A_zbh, I_zbh, [.arg 4], Int × (Int), fun x => F_zbh x.1.1 x.1.2.1 x.1.2.2.1 x.1.2.2.2.1 x.2.1.1, fun r => ([.dat yi r.1], [(64, .cells [.dat yi r.2])])⟩
noncomputable def E_zbh : Env := envOf [(94, D_zbk)]
noncomputable def Z_zbh : Nat → Nat → List Nat := fun _ _ => []
noncomputable def O_zbh : List (Nat × LD) := []
noncomputable def C_zbh : Code := (f84.body).getD .skip
noncomputable def T_zbf (a1_ : Y1) (a2_ : Int) (a3_ : Int) : Tr (Int × Int) :=
 .c (Int × Int) (F_zbh a1_ (IntKind.wrap .i64 (a2_ - (1 : Int))) a2_ (IntKind.wrap .i64 (a2_ + (1 : Int))) a3_) fun r1_ =>
 .l (r1_.1, r1_.2)
noncomputable def F_zbf (a1_ : Y1) (a2_ : Int) (a3_ : Int) : Option (Int × Int) := (T_zbf a1_ a2_ a3_).ev
noncomputable def A_zbf : Sh := (.cons (.dat y1) (.cons (.dat yi) (.cons (.box 64 0) .nil)))
noncomputable def I_zbf : List (Nat × OSh) := [(64, .cells (.cons (.dat yi) .nil))]
noncomputable def K_zbf : RetK := { acts := [], res := [.tmp 6], sh := (.cons (.dat yi) .nil), obs := [(64, .cells (.cons (.dat yi) .nil))], pins := [(2, 0, 64)] }
noncomputable def D_zbf : FD := ⟨A_zbf, I_zbf, [.arg 2], Int × (Int), fun x => F_zbf x.1.1 x.1.2.1 x.2.1.1, fun r => ([.dat yi r.1], [(64, .cells [.dat yi r.2])])⟩
noncomputable def E_zbf : Env := envOf [(84, D_zbh)]
noncomputable def Z_zbf : Nat → Nat → List Nat := fun _ _ => []
noncomputable def O_zbf : List (Nat × LD) := []
noncomputable def C_zbf : Code := (f83.body).getD .skip
noncomputable def T_zbb (a1_ : Y1) (a2_ : Int) (a3_ : Int) : Tr (Int × Int) :=
 .g (!decide ((4 : Int) = 0)) <|
 .g (!decide ((4 : Int) = 0)) <|
 .g (!decide ((4 : Int) = 0)) <|
 .t (decide ((8 : Int) ≤ (IntKind.wrap .i64 (a3_ - a2_))))
 (.t (decide ((50 : Int) ≤ (IntKind.wrap .i64 (a3_ - a2_))))
 (.c (Int × Int) (F_zbf a1_ (IntKind.wrap .i64 (a2_ + (IntKind.wrap .i64 ((IntKind.wrap .i64 (Int.tdiv (IntKind.wrap .i64 (a3_ - a2_)) (4 : Int))) * (1 : Int))))) (0 : Int)) fun r1_ =>
 .c (Int × Int) (F_zbf a1_ (IntKind.wrap .i64 (a2_ + (IntKind.wrap .i64 ((IntKind.wrap .i64 (Int.tdiv (IntKind.wrap .i64 (a3_ - a2_)) (4 : Int))) * (2 : Int))))) r1_.2) fun r2_ =>
 .c (Int × Int) (F_zbf a1_ (IntKind.wrap .i64 (a2_ + (IntKind.wrap .i64 ((IntKind.wrap .i64 (Int.tdiv (IntKind.wrap .i64 (a3_ - a2_)) (4 : Int))) * (3 : Int))))) r2_.2) fun r3_ =>
 .c (Int × Int) (F_zbh a1_ r1_.1 r2_.1 r3_.1 r3_.2) fun r4_ =>
 .t (r4_.2 == (0 : Int))
 (.l (r4_.1, (1 : Int)))
 (.t (r4_.2 == (12 : Int))
 (.l (r4_.1, (2 : Int)))
 (.l (r4_.1, (0 : Int)))))
 (.c (Int × Int) (F_zbh a1_ (IntKind.wrap .i64 (a2_ + (IntKind.wrap .i64 ((IntKind.wrap .i64 (Int.tdiv (IntKind.wrap .i64 (a3_ - a2_)) (4 : Int))) * (1 : Int))))) (IntKind.wrap .i64 (a2_ + (IntKind.wrap .i64 ((IntKind.wrap .i64 (Int.tdiv (IntKind.wrap .i64 (a3_ - a2_)) (4 : Int))) * (2 : Int))))) (IntKind.wrap .i64 (a2_ + (IntKind.wrap .i64 ((IntKind.wrap .i64 (Int.tdiv (IntKind.wrap .i64 (a3_ - a2_)) (4 : Int))) * (3 : Int))))) (0 : Int)) fun r5_ =>
 .t (r5_.2 == (0 : Int))
 (.l (r5_.1, (1 : Int)))
 (.t (r5_.2 == (12 : Int))
 (.l (r5_.1, (2 : Int)))
 (.l (r5_.1, (0 : Int))))))
 (.t ((0 : Int) == (0 : Int))
 (.l ((IntKind.wrap .i64 (a2_ + (IntKind.wrap .i64 ((IntKind.wrap .i64 (Int.tdiv (IntKind.wrap .i64 (a3_ - a2_)) (4 : Int))) * (2 : Int))))), (1 : Int)))
 (.t ((0 : Int) == (12 : Int))
 (.l ((IntKind.wrap .i64 (a2_ + (IntKind.wrap .i64 ((IntKind.wrap .i64 (Int.tdiv (IntKind.wrap .i64 (a3_ - a2_)) (4 : Int))) * (2 : Int))))), (2 : Int)))
 (.l ((IntKind.wrap .i64 (a2_ + (IntKind.wrap .i64 ((IntKind.wrap .i64 (Int.tdiv (IntKind.wrap .i64 (a3_ - a2_)) (4 : Int))) * (2 : Int))))), (0 : Int)))))
noncomputable def F_zbb (a1_ : Y1) (a2_ : Int) (a3_ : Int) : Option (Int × Int) := (T_zbb a1_ a2_ a3_).ev
noncomputable def A_zbb : Sh := (.cons (.dat y1) (.cons (.dat yi) (.cons (.dat yi) .nil)))
noncomputable def I_zbb : List (Nat × OSh) := []
noncomputable def K_zbb : RetK := { acts := [], res := [.tmp 6, .tmp 7], sh := (.cons (.dat yi) (.cons (.dat yi) .nil)), obs := [], pins := [] }
noncomputable def D_zbb : FD := ⟨A_zbb, I_zbb, [], Int × (Int), fun x => F_zbb x.1.1 x.1.2.1 x.1.2.2.1, fun r => ([.dat yi r.1, .dat yi r.2], [])⟩
noncomputable def E_zbb : Env := envOf [(83, D_zbf), (84, D_zbh)]
noncomputable def Z_zbb : Nat → Nat → List Nat := fun _ _ => []
noncomputable def O_zbb : List (Nat × LD) := []
noncomputable def C_zbb : Code := (f67.body).getD .skip
noncomputable def S_zbm_0 (k : Int × (Int × Y1)) (v : Int) : Tr ((Int) ⊕ (Int)) :=
 .t (decide (v ≤ k.2.1))
 (.g (inR v (List.length k.2.2)) <|
 .g (decide ((Int.toNat v) < List.length k.2.2)) <|
 .g (inR k.1 (List.length k.2.2)) <|
 .g (decide ((Int.toNat k.1) < List.length k.2.2)) <|
 .c (Bool) (F_zb (List.getD k.2.2 (Int.toNat v) (0 : Int)) (List.getD k.2.2 (Int.toNat k.1) (0 : Int))) fun r5_ =>
 .t r5_
 (.l (.inl (IntKind.wrap .i64 (v + (1 : Int)))))
 (.l (.inr v)))
 (.l (.inr v))
noncomputable def L_zbm_0 (k : Int × (Int × Y1)) (v : Int) : Option (Int) := iter (fun v => (S_zbm_0 k v).ev) v
noncomputable def DL_zbm_0 : LD := ⟨{ acts := [], S := { slots := [0, 1, 10, 11], sh := (.cons (.arr 64) (.cons (.dat yi) (.cons (.dat yi) (.cons (.dat yi) .nil)))), obs := [(64, .arr 3 yi)] } }, [(0, { acts := [], S := { slots := [0, 1, 10, 11], sh := (.cons (.arr 64) (.cons (.dat yi) (.cons (.dat yi) (.cons (.dat yi) .nil)))), obs := [(64, .arr 3 yi)] } })], (yh [] .nil), Int × (Int × Y1), Int, Int, fun k v => (((), (k.1, (v, (k.2.1, ())))), (k.2.2, ())), fun t => (t.1.2.1, (t.1.2.2.2.1, t.2.1)), fun t => t.1.2.2.1, S_zbm_0, fun k r => .l (.exit 0 (mkSt ({ slots := [0, 1, 10, 11], sh := (.cons (.arr 64) (.cons (.dat yi) (.cons (.dat yi) (.cons (.dat yi) .nil)))), obs := [(64, .arr 3 yi)] }) (((), (k.1, (r, (k.2.1, ())))), (k.2.2, ()))))⟩
noncomputable def S_zbm_2 (k : Int × (Int × Y1)) (v : Int) : Tr ((Int) ⊕ (Int)) :=
 .t (decide (k.2.1 ≤ v))
 (.g (inR v (List.length k.2.2)) <|
 .g (decide ((Int.toNat v) < List.length k.2.2)) <|
 .g (inR k.1 (List.length k.2.2)) <|
 .g (decide ((Int.toNat k.1) < List.length k.2.2)) <|
 .c (Bool) (F_zb (List.getD k.2.2 (Int.toNat v) (0 : Int)) (List.getD k.2.2 (Int.toNat k.1) (0 : Int))) fun r15_ =>
 .t (!r15_)
 (.l (.inl (IntKind.wrap .i64 (v - (1 : Int)))))
 (.l (.inr v)))
 (.l (.inr v))
noncomputable def L_zbm_2 (k : Int × (Int × Y1)) (v : Int) : Option (Int) := iter (fun v => (S_zbm_2 k v).ev) v
noncomputable def DL_zbm_2 : LD := ⟨{ acts := [], S := { slots := [0, 1, 10, 11], sh := (.cons (.arr 64) (.cons (.dat yi) (.cons (.dat yi) (.cons (.dat yi) .nil)))), obs := [(64, .arr 3 yi)] } }, [(2, { acts := [], S := { slots := [0, 1, 10, 11], sh := (.cons (.arr 64) (.cons (.dat yi) (.cons (.dat yi) (.cons (.dat yi) .nil)))), obs := [(64, .arr 3 yi)] } })], (yh [] .nil), Int × (Int × Y1), Int, Int, fun k v => (((), (k.1, (k.2.1, (v, ())))), (k.2.2, ())), fun t => (t.1.2.1, (t.1.2.2.1, t.2.1)), fun t => t.1.2.2.2.1, S_zbm_2, fun k r => .l (.exit 2 (mkSt ({ slots := [0, 1, 10, 11], sh := (.cons (.arr 64) (.cons (.dat yi) (.cons (.dat yi) (.cons (.dat yi) .nil)))), obs := [(64, .arr 3 yi)] }) (((), (k.1, (k.2.1, (r, ())))), (k.2.2, ()))))⟩
noncomputable def S_zbm_6 (k : Int × (Int × Y1)) (v : Int) : Tr ((Int) ⊕ (Int)) :=
 .t (decide (v ≤ k.2.1))
 (.g (inR v (List.length k.2.2)) <|
 .g (decide ((Int.toNat v) < List.length k.2.2)) <|
 .g (inR k.1 (List.length k.2.2)) <|
 .g (decide ((Int.toNat k.1) < List.length k.2.2)) <|
 .c (Bool) (F_zb (List.getD k.2.2 (Int.toNat v) (0 : Int)) (List.getD k.2.2 (Int.toNat k.1) (0 : Int))) fun r29_ =>
 .t r29_
 (.l (.inl (IntKind.wrap .i64 (v + (1 : Int)))))
 (.l (.inr v)))
 (.l (.inr v))
noncomputable def L_zbm_6 (k : Int × (Int × Y1)) (v : Int) : Option (Int) := iter (fun v => (S_zbm_6 k v).ev) v
noncomputable def DL_zbm_6 : LD := ⟨{ acts := [], S := { slots := [0, 1, 10, 11], sh := (.cons (.arr 64) (.cons (.dat yi) (.cons (.dat yi) (.cons (.dat yi) .nil)))), obs := [(64, .arr 3 yi)] } }, [(6, { acts := [], S := { slots := [0, 1, 10, 11], sh := (.cons (.arr 64) (.cons (.dat yi) (.cons (.dat yi) (.cons (.dat yi) .nil)))), obs := [(64, .arr 3 yi)] } })], (yh [] .nil), Int × (Int × Y1), Int, Int, fun k v => (((), (k.1, (v, (k.2.1, ())))), (k.2.2, ())), fun t => (t.1.2.1, (t.1.2.2.2.1, t.2.1)), fun t => t.1.2.2.1, S_zbm_6, fun k r => .l (.exit 6 (mkSt ({ slots := [0, 1, 10, 11], sh := (.cons (.arr 64) (.cons (.dat yi) (.cons (.dat yi) (.cons (.dat yi) .nil)))), obs := [(64, .arr 3 yi)] }) (((), (k.1, (r, (k.2.1, ())))), (k.2.2, ()))))⟩
noncomputable def S_zbm_8 (k : Int × (Int × Y1)) (v : Int) : Tr ((Int) ⊕ (Int)) :=
 .t (decide (k.2.1 ≤ v))
 (.g (inR v (List.length k.2.2)) <|
 .g (decide ((Int.toNat v) < List.length k.2.2)) <|
 .g (inR k.1 (List.length k.2.2)) <|
 .g (decide ((Int.toNat k.1) < List.length k.2.2)) <|
 .c (Bool) (F_zb (List.getD k.2.2 (Int.toNat v) (0 : Int)) (List.getD k.2.2 (Int.toNat k.1) (0 : Int))) fun r39_ =>
 .t (!r39_)
 (.l (.inl (IntKind.wrap .i64 (v - (1 : Int)))))
 (.l (.inr v)))
 (.l (.inr v))
noncomputable def L_zbm_8 (k : Int × (Int × Y1)) (v : Int) : Option (Int) := iter (fun v => (S_zbm_8 k v).ev) v
noncomputable def DL_zbm_8 : LD := ⟨{ acts := [], S := { slots := [0, 1, 10, 11], sh := (.cons (.arr 64) (.cons (.dat yi) (.cons (.dat yi) (.cons (.dat yi) .nil)))), obs := [(64, .arr 3 yi)] } }, [(8, { acts := [], S := { slots := [0, 1, 10, 11], sh := (.cons (.arr 64) (.cons (.dat yi) (.cons (.dat yi) (.cons (.dat yi) .nil)))), obs := [(64, .arr 3 yi)] } })], (yh [] .nil), Int × (Int × Y1), Int, Int, fun k v => (((), (k.1, (k.2.1, (v, ())))), (k.2.2, ())), fun t => (t.1.2.1, (t.1.2.2.1, t.2.1)), fun t => t.1.2.2.2.1, S_zbm_8, fun k r => .l (.exit 8 (mkSt ({ slots := [0, 1, 10, 11], sh := (.cons (.arr 64) (.cons (.dat yi) (.cons (.dat yi) (.cons (.dat yi) .nil)))), obs := [(64, .arr 3 yi)] }) (((), (k.1, (k.2.1, (r, ())))), (k.2.2, ()))))⟩
noncomputable def S_zbm_4 (k : Int) (v : Int × (Int × Y1)) : Tr ((Int × (Int × Y1)) ⊕ (Int × Y1)) :=
 .c (Int) (L_zbm_6 (k, (v.2.1, v.2.2)) v.1) fun r34_ =>
 .c (Int) (L_zbm_8 (k, (r34_, v.2.2)) v.2.1) fun r44_ =>
 .t (decide (r44_ < r34_))
 (.l (.inr (r44_, v.2.2)))
 (.g (inR r44_ (List.length v.2.2)) <|
 .g (decide ((Int.toNat r44_) < List.length v.2.2)) <|
 .g (inR r34_ (List.length v.2.2)) <|
 .g (decide ((Int.toNat r34_) < List.length v.2.2)) <|
 .g (inR r34_ (List.length v.2.2)) <|
 .g (decide ((Int.toNat r34_) < List.length v.2.2)) <|
 .g (inR r44_ (List.length (List.set v.2.2 (Int.toNat r34_) (List.getD v.2.2 (Int.toNat r44_) (0 : Int))))) <|
 .g (decide ((Int.toNat r44_) < List.length (List.set v.2.2 (Int.toNat r34_) (List.getD v.2.2 (Int.toNat r44_) (0 : Int))))) <|
 .l (.inl ((IntKind.wrap .i64 (r34_ + (1 : Int))), ((IntKind.wrap .i64 (r44_ - (1 : Int))), (List.set (List.set v.2.2 (Int.toNat r34_) (List.getD v.2.2 (Int.toNat r44_) (0 : Int))) (Int.toNat r44_) (List.getD v.2.2 (Int.toNat r34_) (0 : Int)))))))
noncomputable def L_zbm_4 (k : Int) (v : Int × (Int × Y1)) : Option (Int × Y1) := iter (fun v => (S_zbm_4 k v).ev) v
noncomputable def DL_zbm_4 : LD := ⟨{ acts := [], S := { slots := [0, 1, 10, 11], sh := (.cons (.arr 64) (.cons (.dat yi) (.cons (.dat yi) (.cons (.dat yi) .nil)))), obs := [(64, .arr 3 yi)] } }, [(4, { acts := [], S := { slots := [0, 1, 11], sh := (.cons (.arr 64) (.cons (.dat yi) (.cons (.dat yi) .nil))), obs := [(64, .arr 3 yi)] } })], (yh [] .nil), Int, Int × (Int × Y1), Int × Y1, fun k v => (((), (k, (v.1, (v.2.1, ())))), (v.2.2, ())), fun t => t.1.2.1, fun t => (t.1.2.2.1, (t.1.2.2.2.1, t.2.1)), S_zbm_4, fun k r => .l (.exit 4 (mkSt ({ slots := [0, 1, 11], sh := (.cons (.arr 64) (.cons (.dat yi) (.cons (.dat yi) .nil))), obs := [(64, .arr 3 yi)] }) (((), (k, (r.1, ()))), (r.2, ()))))⟩
noncomputable def T_zbm (a2_ : Int) (a3_ : Int) (a4_ : Int) (a1_ : Y1) : Tr (Int × (Bool × Y1)) :=
 .g (inR a4_ (List.length a1_)) <|
 .g (decide ((Int.toNat a4_) < List.length a1_)) <|
 .g (inR a2_ (List.length a1_)) <|
 .g (decide ((Int.toNat a2_) < List.length a1_)) <|
 .g (inR a2_ (List.length a1_)) <|
 .g (decide ((Int.toNat a2_) < List.length a1_)) <|
 .g (inR a4_ (List.length (List.set a1_ (Int.toNat a2_) (List.getD a1_ (Int.toNat a4_) (0 : Int))))) <|
 .g (decide ((Int.toNat a4_) < List.length (List.set a1_ (Int.toNat a2_) (List.getD a1_ (Int.toNat a4_) (0 : Int))))) <|
 .c (Int) (L_zbm_0 (a2_, ((IntKind.wrap .i64 (a3_ - (1 : Int))), (List.set (List.set a1_ (Int.toNat a2_) (List.getD a1_ (Int.toNat a4_) (0 : Int))) (Int.toNat a4_) (List.getD a1_ (Int.toNat a2_) (0 : Int))))) (IntKind.wrap .i64 (a2_ + (1 : Int)))) fun r10_ =>
 .c (Int) (L_zbm_2 (a2_, (r10_, (List.set (List.set a1_ (Int.toNat a2_) (List.getD a1_ (Int.toNat a4_) (0 : Int))) (Int.toNat a4_) (List.getD a1_ (Int.toNat a2_) (0 : Int))))) (IntKind.wrap .i64 (a3_ - (1 : Int)))) fun r20_ =>
 .t (decide (r20_ < r10_))
 (.g (inR a2_ (List.length (List.set (List.set a1_ (Int.toNat a2_) (List.getD a1_ (Int.toNat a4_) (0 : Int))) (Int.toNat a4_) (List.getD a1_ (Int.toNat a2_) (0 : Int))))) <|
 .g (decide ((Int.toNat a2_) < List.length (List.set (List.set a1_ (Int.toNat a2_) (List.getD a1_ (Int.toNat a4_) (0 : Int))) (Int.toNat a4_) (List.getD a1_ (Int.toNat a2_) (0 : Int))))) <|
 .g (inR r20_ (List.length (List.set (List.set a1_ (Int.toNat a2_) (List.getD a1_ (Int.toNat a4_) (0 : Int))) (Int.toNat a4_) (List.getD a1_ (Int.toNat a2_) (0 : Int))))) <|
 .g (decide ((Int.toNat r20_) < List.length (List.set (List.set a1_ (Int.toNat a2_) (List.getD a1_ (Int.toNat a4_) (0 : Int))) (Int.toNat a4_) (List.getD a1_ (Int.toNat a2_) (0 : Int))))) <|
 .g (inR r20_ (List.length (List.set (List.set a1_ (Int.toNat a2_) (List.getD a1_ (Int.toNat a4_) (0 : Int))) (Int.toNat a4_) (List.getD a1_ (Int.toNat a2_) (0 : Int))))) <|
 .g (decide ((Int.toNat r20_) < List.length (List.set (List.set a1_ (Int.toNat a2_) (List.getD a1_ (Int.toNat a4_) (0 : Int))) (Int.toNat a4_) (List.getD a1_ (Int.toNat a2_) (0 : Int))))) <|
 .g (inR a2_ (List.length (List.set (List.set (List.set a1_ (Int.toNat a2_) (List.getD a1_ (Int.toNat a4_) (0 : Int))) (Int.toNat a4_) (List.getD a1_ (Int.toNat a2_) (0 : Int))) (Int.toNat r20_) (List.getD (List.set (List.set a1_ (Int.toNat a2_) (List.getD a1_ (Int.toNat a4_) (0 : Int))) (Int.toNat a4_) (List.getD a1_ (Int.toNat a2_) (0 : Int))) (Int.toNat a2_) (0 : Int))))) <|
 .g (decide ((Int.toNat a2_) < List.length (List.set (List.set (List.set a1_ (Int.toNat a2_) (List.getD a1_ (Int.toNat a4_) (0 : Int))) (Int.toNat a4_) (List.getD a1_ (Int.toNat a2_) (0 : Int))) (Int.toNat r20_) (List.getD (List.set (List.set a1_ (Int.toNat a2_) (List.getD a1_ (Int.toNat a4_) (0 : Int))) (Int.toNat a4_) (List.getD a1_ (Int.toNat a2_) (0 : Int))) (Int.toNat a2_) (0 : Int))))) <|
 .l (r20_, (true, (List.set (List.set (List.set (List.set a1_ (Int.toNat a2_) (List.getD a1_ (Int.toNat a4_) (0 : Int))) (Int.toNat a4_) (List.getD a1_ (Int.toNat a2_) (0 : Int))) (Int.toNat r20_) (List.getD (List.set (List.set a1_ (Int.toNat a2_) (List.getD a1_ (Int.toNat a4_) (0 : Int))) (Int.toNat a4_) (List.getD a1_ (Int.toNat a2_) (0 : Int))) (Int.toNat a2_) (0 : Int))) (Int.toNat a2_) (List.getD (List.set (List.set a1_ (Int.toNat a2_) (List.getD a1_ (Int.toNat a4_) (0 : Int))) (Int.toNat a4_) (List.getD a1_ (Int.toNat a2_) (0 : Int))) (Int.toNat r20_) (0 : Int))))))
 (.g (inR r20_ (List.length (List.set (List.set a1_ (Int.toNat a2_) (List.getD a1_ (Int.toNat a4_) (0 : Int))) (Int.toNat a4_) (List.getD a1_ (Int.toNat a2_) (0 : Int))))) <|
 .g (decide ((Int.toNat r20_) < List.length (List.set (List.set a1_ (Int.toNat a2_) (List.getD a1_ (Int.toNat a4_) (0 : Int))) (Int.toNat a4_) (List.getD a1_ (Int.toNat a2_) (0 : Int))))) <|
 .g (inR r10_ (List.length (List.set (List.set a1_ (Int.toNat a2_) (List.getD a1_ (Int.toNat a4_) (0 : Int))) (Int.toNat a4_) (List.getD a1_ (Int.toNat a2_) (0 : Int))))) <|
 .g (decide ((Int.toNat r10_) < List.length (List.set (List.set a1_ (Int.toNat a2_) (List.getD a1_ (Int.toNat a4_) (0 : Int))) (Int.toNat a4_) (List.getD a1_ (Int.toNat a2_) (0 : Int))))) <|
 .g (inR r10_ (List.length (List.set (List.set a1_ (Int.toNat a2_) (List.getD a1_ (Int.toNat a4_) (0 : Int))) (Int.toNat a4_) (List.getD a1_ (Int.toNat a2_) (0 : Int))))) <|
 .g (decide ((Int.toNat r10_) < List.length (List.set (List.set a1_ (Int.toNat a2_) (List.getD a1_ (Int.toNat a4_) (0 : Int))) (Int.toNat a4_) (List.getD a1_ (Int.toNat a2_) (0 : Int))))) <|
 .g (inR r20_ (List.length (List.set (List.set (List.set a1_ (Int.toNat a2_) (List.getD a1_ (Int.toNat a4_) (0 : Int))) (Int.toNat a4_) (List.getD a1_ (Int.toNat a2_) (0 : Int))) (Int.toNat r10_) (List.getD (List.set (List.set a1_ (Int.toNat a2_) (List.getD a1_ (Int.toNat a4_) (0 : Int))) (Int.toNat a4_) (List.getD a1_ (Int.toNat a2_) (0 : Int))) (Int.toNat r20_) (0 : Int))))) <|
 .g (decide ((Int.toNat r20_) < List.length (List.set (List.set (List.set a1_ (Int.toNat a2_) (List.getD a1_ (Int.toNat a4_) (0 : Int))) (Int.toNat a4_) (List.getD a1_ (Int.toNat a2_) (0 : Int))) (Int.toNat r10_) (List.getD (List.set (List.set a1_ (Int.toNat a2_) (List.getD a1_ (Int.toNat a4_) (0 : Int))) (Int.toNat a4_) (List.getD a1_ (Int.toNat a2_) (0 : Int))) (Int.toNat r20_) (0 : Int))))) <|
 .c (Int × Y1) (L_zbm_4 a2_ ((IntKind.wrap .i64 (r10_ + (1 : Int))), ((IntKind.wrap .i64 (r20_ - (1 : Int))), (List.set (List.set (List.set (List.set a1_ (Int.toNat a2_) (List.getD a1_ (Int.toNat a4_) (0 : Int))) (Int.toNat a4_) (List.getD a1_ (Int.toNat a2_) (0 : Int))) (Int.toNat r10_) (List.getD (List.set (List.set a1_ (Int.toNat a2_) (List.getD a1_ (Int.toNat a4_) (0 : Int))) (Int.toNat a4_) (List.getD a1_ (Int.toNat a2_) (0 : Int))) (Int.toNat r20_) (0 : Int))) (Int.toNat r20_) (List.getD (List.set (List.set a1_ (Int.toNat a2_) (List.getD a1_ (Int.toNat a4_) (0 : Int))) (Int.toNat a4_) (List.getD a1_ (Int.toNat a2_) (0 : Int))) (Int.toNat r10_) (0 : Int)))))) fun r48_ =>
 .g (inR a2_ (List.length r48_.2)) <|
 .g (decide ((Int.toNat a2_) < List.length r48_.2)) <|
 .g (inR r48_.1 (List.length r48_.2)) <|
 .g (decide ((Int.toNat r48_.1) < List.length r48_.2)) <|
 .g (inR r48_.1 (List.length r48_.2)) <|
 .g (decide ((Int.toNat r48_.1) < List.length r48_.2)) <|
 .g (inR a2_ (List.length (List.set r48_.2 (Int.toNat r48_.1) (List.getD r48_.2 (Int.toNat a2_) (0 : Int))))) <|
 .g (decide ((Int.toNat a2_) < List.length (List.set r48_.2 (Int.toNat r48_.1) (List.getD r48_.2 (Int.toNat a2_) (0 : Int))))) <|
 .l (r48_.1, (false, (List.set (List.set r48_.2 (Int.toNat r48_.1) (List.getD r48_.2 (Int.toNat a2_) (0 : Int))) (Int.toNat a2_) (List.getD r48_.2 (Int.toNat r48_.1) (0 : Int))))))
noncomputable def F_zbm (a2_ : Int) (a3_ : Int) (a4_ : Int) (a1_ : Y1) : Option (Int × (Bool × Y1)) := (T_zbm a2_ a3_ a4_ a1_).ev
noncomputable def A_zbm : Sh := (.cons (.arr 64) (.cons (.dat yi) (.cons (.dat yi) (.cons (.dat yi) .nil))))
noncomputable def I_zbm : List (Nat × OSh) := [(64, .arr 3 yi)]
noncomputable def K_zbm : RetK := { acts := [], res := [.tmp 8, .tmp 9], sh := (.cons (.dat yi) (.cons (.dat .bool) .nil)), obs := [(64, .arr 3 yi)], pins := [(0, 0, 64)] }
noncomputable def D_zbm : FD := ⟨A_zbm, I_zbm, [.arg 0], Int × (Bool × Y1), fun x => F_zbm x.1.2.1 x.1.2.2.1 x.1.2.2.2.1 x.2.1, fun r => ([.dat yi r.1, .dat .bool r.2.1], [(64, .arr 3 yi r.2.2)])⟩
noncomputable def E_zbm : Env := envOf [(70, D_zb)]
noncomputable def Z_zbm : Nat → Nat → List Nat := fun _ _ => []
noncomputable def O_zbm : List (Nat × LD) := [(0, DL_zbm_0), (2, DL_zbm_2), (6, DL_zbm_6), (8, DL_zbm_8), (4, DL_zbm_4)]
noncomputable def C_zbm : Code := (f72.body).getD .skip
noncomputable def S_zbo_0 (rec_ : (Int) → (Int) → (Int) → Y1 → Option Y1) (_k : Unit) (v : Int × (Int × (Int × (Bool × (Bool × Y1))))) : Tr ((Int × (Int × (Int × (Bool × (Bool × Y1))))) ⊕ Y1) :=
 .t (decide ((IntKind.wrap .i64 (v.2.1 - v.1)) ≤ (12 : Int)))
 (.c Y1 (F_zbd v.1 v.2.1 v.2.2.2.2.2) fun r7_ =>
 .l (.inr r7_))
 (.t (v.2.2.1 == (0 : Int))
 (.f)
 (.t (!v.2.2.2.1)
 (.c Y1 (F_zaz v.1 v.2.1 v.2.2.2.2.2) fun r8_ =>
 .c (Int × Int) (F_zbb r8_ v.1 v.2.1) fun r9_ =>
 .t (r9_.2 == (2 : Int))
 (.f)
 (.t v.2.2.2.1
 (.t v.2.2.2.2.1
 (.t (r9_.2 == (1 : Int))
 (.f)
 (.t (decide ((0 : Int) < v.1))
 (.g (inR (IntKind.wrap .i64 (v.1 - (1 : Int))) (List.length r8_)) <|
 .g (decide ((Int.toNat (IntKind.wrap .i64 (v.1 - (1 : Int)))) < List.length r8_)) <|
 .g (inR r9_.1 (List.length r8_)) <|
 .g (decide ((Int.toNat r9_.1) < List.length r8_)) <|
 .c (Bool) (F_zb (List.getD r8_ (Int.toNat (IntKind.wrap .i64 (v.1 - (1 : Int)))) (0 : Int)) (List.getD r8_ (Int.toNat r9_.1) (0 : Int))) fun r10_ =>
 .t (!r10_)
 (.f)
 (.c (Int × (Bool × Y1)) (F_zbm v.1 v.2.1 r9_.1 r8_) fun r11_ =>
 .g (!decide ((8 : Int) = 0)) <|
 .t (decide ((IntKind.wrap .i64 (r11_.1 - v.1)) < (IntKind.wrap .i64 (v.2.1 - r11_.1))))
 (.c Y1 (rec_ v.1 r11_.1 (IntKind.wrap .i64 (v.2.2.1 - (1 : Int))) r11_.2.2) fun r12_ =>
 .l (.inl ((IntKind.wrap .i64 (r11_.1 + (1 : Int))), (v.2.1, ((IntKind.wrap .i64 (v.2.2.1 - (1 : Int))), ((decide ((IntKind.wrap .i64 (Int.tdiv (IntKind.wrap .i64 (v.2.1 - v.1)) (8 : Int))) ≤ (IntKind.wrap .i64 (r11_.1 - v.1)))), (r11_.2.1, r12_)))))))
 (.c Y1 (rec_ (IntKind.wrap .i64 (r11_.1 + (1 : Int))) v.2.1 (IntKind.wrap .i64 (v.2.2.1 - (1 : Int))) r11_.2.2) fun r13_ =>
 .l (.inl (v.1, (r11_.1, ((IntKind.wrap .i64 (v.2.2.1 - (1 : Int))), ((decide ((IntKind.wrap .i64 (Int.tdiv (IntKind.wrap .i64 (v.2.1 - v.1)) (8 : Int))) ≤ (IntKind.wrap .i64 (v.2.1 - r11_.1)))), (r11_.2.1, r13_)))))))))
 (.c (Int × (Bool × Y1)) (F_zbm v.1 v.2.1 r9_.1 r8_) fun r14_ =>
 .g (!decide ((8 : Int) = 0)) <|
 .t (decide ((IntKind.wrap .i64 (r14_.1 - v.1)) < (IntKind.wrap .i64 (v.2.1 - r14_.1))))
 (.c Y1 (rec_ v.1 r14_.1 (IntKind.wrap .i64 (v.2.2.1 - (1 : Int))) r14_.2.2) fun r15_ =>
 .l (.inl ((IntKind.wrap .i64 (r14_.1 + (1 : Int))), (v.2.1, ((IntKind.wrap .i64 (v.2.2.1 - (1 : Int))), ((decide ((IntKind.wrap .i64 (Int.tdiv (IntKind.wrap .i64 (v.2.1 - v.1)) (8 : Int))) ≤ (IntKind.wrap .i64 (r14_.1 - v.1)))), (r14_.2.1, r15_)))))))
 (.c Y1 (rec_ (IntKind.wrap .i64 (r14_.1 + (1 : Int))) v.2.1 (IntKind.wrap .i64 (v.2.2.1 - (1 : Int))) r14_.2.2) fun r16_ =>
 .l (.inl (v.1, (r14_.1, ((IntKind.wrap .i64 (v.2.2.1 - (1 : Int))), ((decide ((IntKind.wrap .i64 (Int.tdiv (IntKind.wrap .i64 (v.2.1 - v.1)) (8 : Int))) ≤ (IntKind.wrap .i64 (v.2.1 - r14_.1)))), (r14_.2.1, r16_))))))))))
 (.t (decide ((0 : Int) < v.1))
 (.g (inR (IntKind.wrap .i64 (v.1 - (1 : Int))) (List.length r8_)) <|
 .g (decide ((Int.toNat (IntKind.wrap .i64 (v.1 - (1 : Int)))) < List.length r8_)) <|
 .g (inR r9_.1 (List.length r8_)) <|
 .g (decide ((Int.toNat r9_.1) < List.length r8_)) <|
 .c (Bool) (F_zb (List.getD r8_ (Int.toNat (IntKind.wrap .i64 (v.1 - (1 : Int)))) (0 : Int)) (List.getD r8_ (Int.toNat r9_.1) (0 : Int))) fun r17_ =>
 .t (!r17_)
 (.f)
 (.c (Int × (Bool × Y1)) (F_zbm v.1 v.2.1 r9_.1 r8_) fun r18_ =>
 .g (!decide ((8 : Int) = 0)) <|
 .t (decide ((IntKind.wrap .i64 (r18_.1 - v.1)) < (IntKind.wrap .i64 (v.2.1 - r18_.1))))
 (.c Y1 (rec_ v.1 r18_.1 (IntKind.wrap .i64 (v.2.2.1 - (1 : Int))) r18_.2.2) fun r19_ =>
 .l (.inl ((IntKind.wrap .i64 (r18_.1 + (1 : Int))), (v.2.1, ((IntKind.wrap .i64 (v.2.2.1 - (1 : Int))), ((decide ((IntKind.wrap .i64 (Int.tdiv (IntKind.wrap .i64 (v.2.1 - v.1)) (8 : Int))) ≤ (IntKind.wrap .i64 (r18_.1 - v.1)))), (r18_.2.1, r19_)))))))
 (.c Y1 (rec_ (IntKind.wrap .i64 (r18_.1 + (1 : Int))) v.2.1 (IntKind.wrap .i64 (v.2.2.1 - (1 : Int))) r18_.2.2) fun r20_ =>
 .l (.inl (v.1, (r18_.1, ((IntKind.wrap .i64 (v.2.2.1 - (1 : Int))), ((decide ((IntKind.wrap .i64 (Int.tdiv (IntKind.wrap .i64 (v.2.1 - v.1)) (8 : Int))) ≤ (IntKind.wrap .i64 (v.2.1 - r18_.1)))), (r18_.2.1, r20_)))))))))
 (.c (Int × (Bool × Y1)) (F_zbm v.1 v.2.1 r9_.1 r8_) fun r21_ =>
 .g (!decide ((8 : Int) = 0)) <|
 .t (decide ((IntKind.wrap .i64 (r21_.1 - v.1)) < (IntKind.wrap .i64 (v.2.1 - r21_.1))))
 (.c Y1 (rec_ v.1 r21_.1 (IntKind.wrap .i64 (v.2.2.1 - (1 : Int))) r21_.2.2) fun r22_ =>
 .l (.inl ((IntKind.wrap .i64 (r21_.1 + (1 : Int))), (v.2.1, ((IntKind.wrap .i64 (v.2.2.1 - (1 : Int))), ((decide ((IntKind.wrap .i64 (Int.tdiv (IntKind.wrap .i64 (v.2.1 - v.1)) (8 : Int))) ≤ (IntKind.wrap .i64 (r21_.1 - v.1)))), (r21_.2.1, r22_)))))))
 (.c Y1 (rec_ (IntKind.wrap .i64 (r21_.1 + (1 : Int))) v.2.1 (IntKind.wrap .i64 (v.2.2.1 - (1 : Int))) r21_.2.2) fun r23_ =>
 .l (.inl (v.1, (r21_.1, ((IntKind.wrap .i64 (v.2.2.1 - (1 : Int))), ((decide ((IntKind.wrap .i64 (Int.tdiv (IntKind.wrap .i64 (v.2.1 - v.1)) (8 : Int))) ≤ (IntKind.wrap .i64 (v.2.1 - r21_.1)))), (r21_.2.1, r23_))))))))))
 (.t (decide ((0 : Int) < v.1))
 (.g (inR (IntKind.wrap .i64 (v.1 - (1 : Int))) (List.length r8_)) <|
 .g (decide ((Int.toNat (IntKind.wrap .i64 (v.1 - (1 : Int)))) < List.length r8_)) <|
 .g (inR r9_.1 (List.length r8_)) <|
 .g (decide ((Int.toNat r9_.1) < List.length r8_)) <|
 .c (Bool) (F_zb (List.getD r8_ (Int.toNat (IntKind.wrap .i64 (v.1 - (1 : Int)))) (0 : Int)) (List.getD r8_ (Int.toNat r9_.1) (0 : Int))) fun r24_ =>
 .t (!r24_)
 (.f)
 (.c (Int × (Bool × Y1)) (F_zbm v.1 v.2.1 r9_.1 r8_) fun r25_ =>
 .g (!decide ((8 : Int) = 0)) <|
 .t (decide ((IntKind.wrap .i64 (r25_.1 - v.1)) < (IntKind.wrap .i64 (v.2.1 - r25_.1))))
 (.c Y1 (rec_ v.1 r25_.1 (IntKind.wrap .i64 (v.2.2.1 - (1 : Int))) r25_.2.2) fun r26_ =>
 .l (.inl ((IntKind.wrap .i64 (r25_.1 + (1 : Int))), (v.2.1, ((IntKind.wrap .i64 (v.2.2.1 - (1 : Int))), ((decide ((IntKind.wrap .i64 (Int.tdiv (IntKind.wrap .i64 (v.2.1 - v.1)) (8 : Int))) ≤ (IntKind.wrap .i64 (r25_.1 - v.1)))), (r25_.2.1, r26_)))))))
 (.c Y1 (rec_ (IntKind.wrap .i64 (r25_.1 + (1 : Int))) v.2.1 (IntKind.wrap .i64 (v.2.2.1 - (1 : Int))) r25_.2.2) fun r27_ =>
 .l (.inl (v.1, (r25_.1, ((IntKind.wrap .i64 (v.2.2.1 - (1 : Int))), ((decide ((IntKind.wrap .i64 (Int.tdiv (IntKind.wrap .i64 (v.2.1 - v.1)) (8 : Int))) ≤ (IntKind.wrap .i64 (v.2.1 - r25_.1)))), (r25_.2.1, r27_)))))))))
 (.c (Int × (Bool × Y1)) (F_zbm v.1 v.2.1 r9_.1 r8_) fun r28_ =>
 .g (!decide ((8 : Int) = 0)) <|
 .t (decide ((IntKind.wrap .i64 (r28_.1 - v.1)) < (IntKind.wrap .i64 (v.2.1 - r28_.1))))
 (.c Y1 (rec_ v.1 r28_.1 (IntKind.wrap .i64 (v.2.2.1 - (1 : Int))) r28_.2.2) fun r29_ =>
 .l (.inl ((IntKind.wrap .i64 (r28_.1 + (1 : Int))), (v.2.1, ((IntKind.wrap .i64 (v.2.2.1 - (1 : Int))), ((decide ((IntKind.wrap .i64 (Int.tdiv (IntKind.wrap .i64 (v.2.1 - v.1)) (8 : Int))) ≤ (IntKind.wrap .i64 (r28_.1 - v.1)))), (r28_.2.1, r29_)))))))
 (.c Y1 (rec_ (IntKind.wrap .i64 (r28_.1 + (1 : Int))) v.2.1 (IntKind.wrap .i64 (v.2.2.1 - (1 : Int))) r28_.2.2) fun r30_ =>
 .l (.inl (v.1, (r28_.1, ((IntKind.wrap .i64 (v.2.2.1 - (1 : Int))), ((decide ((IntKind.wrap .i64 (Int.tdiv (IntKind.wrap .i64 (v.2.1 - v.1)) (8 : Int))) ≤ (IntKind.wrap .i64 (v.2.1 - r28_.1)))), (r28_.2.1, r30_)))))))))))
 (.c (Int × Int) (F_zbb v.2.2.2.2.2 v.1 v.2.1) fun r31_ =>
 .t (r31_.2 == (2 : Int))
 (.f)
 (.t v.2.2.2.1
 (.t v.2.2.2.2.1
 (.t (r31_.2 == (1 : Int))
 (.f)
 (.t (decide ((0 : Int) < v.1))
 (.g (inR (IntKind.wrap .i64 (v.1 - (1 : Int))) (List.length v.2.2.2.2.2)) <|
 .g (decide ((Int.toNat (IntKind.wrap .i64 (v.1 - (1 : Int)))) < List.length v.2.2.2.2.2)) <|
 .g (inR r31_.1 (List.length v.2.2.2.2.2)) <|
 .g (decide ((Int.toNat r31_.1) < List.length v.2.2.2.2.2)) <|
 .c (Bool) (F_zb (List.getD v.2.2.2.2.2 (Int.toNat (IntKind.wrap .i64 (v.1 - (1 : Int)))) (0 : Int)) (List.getD v.2.2.2.2.2 (Int.toNat r31_.1) (0 : Int))) fun r32_ =>
 .t (!r32_)
 (.f)
 (.c (Int × (Bool × Y1)) (F_zbm v.1 v.2.1 r31_.1 v.2.2.2.2.2) fun r33_ =>
 .g (!decide ((8 : Int) = 0)) <|
 .t (decide ((IntKind.wrap .i64 (r33_.1 - v.1)) < (IntKind.wrap .i64 (v.2.1 - r33_.1))))
 (.c Y1 (rec_ v.1 r33_.1 v.2.2.1 r33_.2.2) fun r34_ =>
 .l (.inl ((IntKind.wrap .i64 (r33_.1 + (1 : Int))), (v.2.1, (v.2.2.1, ((decide ((IntKind.wrap .i64 (Int.tdiv (IntKind.wrap .i64 (v.2.1 - v.1)) (8 : Int))) ≤ (IntKind.wrap .i64 (r33_.1 - v.1)))), (r33_.2.1, r34_)))))))
 (.c Y1 (rec_ (IntKind.wrap .i64 (r33_.1 + (1 : Int))) v.2.1 v.2.2.1 r33_.2.2) fun r35_ =>
 .l (.inl (v.1, (r33_.1, (v.2.2.1, ((decide ((IntKind.wrap .i64 (Int.tdiv (IntKind.wrap .i64 (v.2.1 - v.1)) (8 : Int))) ≤ (IntKind.wrap .i64 (v.2.1 - r33_.1)))), (r33_.2.1, r35_)))))))))
 (.c (Int × (Bool × Y1)) (F_zbm v.1 v.2.1 r31_.1 v.2.2.2.2.2) fun r36_ =>
 .g (!decide ((8 : Int) = 0)) <|
 .t (decide ((IntKind.wrap .i64 (r36_.1 - v.1)) < (IntKind.wrap .i64 (v.2.1 - r36_.1))))
 (.c Y1 (rec_ v.1 r36_.1 v.2.2.1 r36_.2.2) fun r37_ =>
 .l (.inl ((IntKind.wrap .i64 (r36_.1 + (1 : Int))), (v.2.1, (v.2.2.1, ((decide ((IntKind.wrap .i64 (Int.tdiv (IntKind.wrap .i64 (v.2.1 - v.1)) (8 : Int))) ≤ (IntKind.wrap .i64 (r36_.1 - v.1)))), (r36_.2.1, r37_)))))))
 (.c Y1 (rec_ (IntKind.wrap .i64 (r36_.1 + (1 : Int))) v.2.1 v.2.2.1 r36_.2.2) fun r38_ =>
 .l (.inl (v.1, (r36_.1, (v.2.2.1, ((decide ((IntKind.wrap .i64 (Int.tdiv (IntKind.wrap .i64 (v.2.1 - v.1)) (8 : Int))) ≤ (IntKind.wrap .i64 (v.2.1 - r36_.1)))), (r36_.2.1, r38_))))))))))
 (.t (decide ((0 : Int) < v.1))
 (.g (inR (IntKind.wrap .i64 (v.1 - (1 : Int))) (List.length v.2.2.2.2.2)) <|
 .g (decide ((Int.toNat (IntKind.wrap .i64 (v.1 - (1 : Int)))) < List.length v.2.2.2.2.2)) <|
 .g (inR r31_.1 (List.length v.2.2.2.2.2)) <|
 .g (decide ((Int.toNat r31_.1) < List.length v.2.2.2.2.2)) <|
 .c (Bool) (F_zb (List.getD v.2.2.2.2.2 (Int.toNat (IntKind.wrap .i64 (v.1 - (1 : Int)))) (0 : Int)) (List.getD v.2.2.2.2.2 (Int.toNat r31_.1) (0 : Int))) fun r39_ =>
 .t (!r39_)
 (.f)
 (.c (Int × (Bool × Y1)) (F_zbm v.1 v.2.1 r31_.1 v.2.2.2.2.2) fun r40_ =>
 .g (!decide ((8 : Int) = 0)) <|
 .t (decide ((IntKind.wrap .i64 (r40_.1 - v.1)) < (IntKind.wrap .i64 (v.2.1 - r40_.1))))
 (.c Y1 (rec_ v.1 r40_.1 v.2.2.1 r40_.2.2) fun r41_ =>
 .l (.inl ((IntKind.wrap .i64 (r40_.1 + (1 : Int))), (v.2.1, (v.2.2.1, ((decide ((IntKind.wrap .i64 (Int.tdiv (IntKind.wrap .i64 (v.2.1 - v.1)) (8 : Int))) ≤ (IntKind.wrap .i64 (r40_.1 - v.1)))), (r40_.2.1, r41_)))))))
 (.c Y1 (rec_ (IntKind.wrap .i64 (r40_.1 + (1 : Int))) v.2.1 v.2.2.1 r40_.2.2) fun r42_ =>
 .l (.inl (v.1, (r40_.1, (v.2.2.1, ((decide ((IntKind.wrap .i64 (Int.tdiv (IntKind.wrap .i64 (v.2.1 - v.1)) (8 : Int))) ≤ (IntKind.wrap .i64 (v.2.1 - r40_.1)))), (r40_.2.1, r42_)))))))))
 (.c (Int × (Bool × Y1)) (F_zbm v.1 v.2.1 r31_.1 v.2.2.2.2.2) fun r43_ =>
 .g (!decide ((8 : Int) = 0)) <|
 .t (decide ((IntKind.wrap .i64 (r43_.1 - v.1)) < (IntKind.wrap .i64 (v.2.1 - r43_.1))))
 (.c Y1 (rec_ v.1 r43_.1 v.2.2.1 r43_.2.2) fun r44_ =>
 .l (.inl ((IntKind.wrap .i64 (r43_.1 + (1 : Int))), (v.2.1, (v.2.2.1, ((decide ((IntKind.wrap .i64 (Int.tdiv (IntKind.wrap .i64 (v.2.1 - v.1)) (8 : Int))) ≤ (IntKind.wrap .i64 (r43_.1 - v.1)))), (r43_.2.1, r44_)))))))
 (.c Y1 (rec_ (IntKind.wrap .i64 (r43_.1 + (1 : Int))) v.2.1 v.2.2.1 r43_.2.2) fun r45_ =>
 .l (.inl (v.1, (r43_.1, (v.2.2.1, ((decide ((IntKind.wrap .i64 (Int.tdiv (IntKind.wrap .i64 (v.2.1 - v.1)) (8 : Int))) ≤ (IntKind.wrap .i64 (v.2.1 - r43_.1)))), (r43_.2.1, r45_))))))))))
 (.t (decide ((0 : Int) < v.1))
 (.g (inR (IntKind.wrap .i64 (v.1 - (1 : Int))) (List.length v.2.2.2.2.2)) <|
 .g (decide ((Int.toNat (IntKind.wrap .i64 (v.1 - (1 : Int)))) < List.length v.2.2.2.2.2)) <|
 .g (inR r31_.1 (List.length v.2.2.2.2.2)) <|
 .g (decide ((Int.toNat r31_.1) < List.length v.2.2.2.2.2)) <|
 .c (Bool) (F_zb (List.getD v.2.2.2.2.2 (Int.toNat (IntKind.wrap .i64 (v.1 - (1 : Int)))) (0 : Int)) (List.getD v.2.2.2.2.2 (Int.toNat r31_.1) (0 : Int))) fun r46_ =>
 .t (!r46_)
 (.f)
 (.c (Int × (Bool × Y1)) (F_zbm v.1 v.2.1 r31_.1 v.2.2.2.2.2) fun r47_ =>
 .g (!decide ((8 : Int) = 0)) <|
 .t (decide ((IntKind.wrap .i64 (r47_.1 - v.1)) < (IntKind.wrap .i64 (v.2.1 - r47_.1))))
 (.c Y1 (rec_ v.1 r47_.1 v.2.2.1 r47_.2.2) fun r48_ =>
 .l (.inl ((IntKind.wrap .i64 (r47_.1 + (1 : Int))), (v.2.1, (v.2.2.1, ((decide ((IntKind.wrap .i64 (Int.tdiv (IntKind.wrap .i64 (v.2.1 - v.1)) (8 : Int))) ≤ (IntKind.wrap .i64 (r47_.1 - v.1)))), (r47_.2.1, r48_)))))))
 (.c Y1 (rec_ (IntKind.wrap .i64 (r47_.1 + (1 : Int))) v.2.1 v.2.2.1 r47_.2.2) fun r49_ =>
 .l (.inl (v.1, (r47_.1, (v.2.2.1, ((decide ((IntKind.wrap .i64 (Int.tdiv (IntKind.wrap .i64 (v.2.1 - v.1)) (8 : Int))) ≤ (IntKind.wrap .i64 (v.2.1 - r47_.1)))), (r47_.2.1, r49_)))))))))
 (.c (Int × (Bool × Y1)) (F_zbm v.1 v.2.1 r31_.1 v.2.2.2.2.2) fun r50_ =>
 .g (!decide ((8 : Int) = 0)) <|
 .t (decide ((IntKind.wrap .i64 (r50_.1 - v.1)) < (IntKind.wrap .i64 (v.2.1 - r50_.1))))
 (.c Y1 (rec_ v.1 r50_.1 v.2.2.1 r50_.2.2) fun r51_ =>
 .l (.inl ((IntKind.wrap .i64 (r50_.1 + (1 : Int))), (v.2.1, (v.2.2.1, ((decide ((IntKind.wrap .i64 (Int.tdiv (IntKind.wrap .i64 (v.2.1 - v.1)) (8 : Int))) ≤ (IntKind.wrap .i64 (r50_.1 - v.1)))), (r50_.2.1, r51_)))))))
 (.c Y1 (rec_ (IntKind.wrap .i64 (r50_.1 + (1 : Int))) v.2.1 v.2.2.1 r50_.2.2) fun r52_ =>
 .l (.inl (v.1, (r50_.1, (v.2.2.1, ((decide ((IntKind.wrap .i64 (Int.tdiv (IntKind.wrap .i64 (v.2.1 - v.1)) (8 : Int))) ≤ (IntKind.wrap .i64 (v.2.1 - r50_.1)))), (r50_.2.1, r52_)))))))))))))
noncomputable def L_zbo_0 (rec_ : (Int) → (Int) → (Int) → Y1 → Option Y1) (k : Unit) (v : Int × (Int × (Int × (Bool × (Bool × Y1))))) : Option Y1 := iter (fun v => (S_zbo_0 rec_ k v).ev) v
noncomputable def DL_zbo_0 (rec_ : (Int) → (Int) → (Int) → Y1 → Option Y1) : LD where
 head := { acts := [], S := { slots := [0, 1, 2, 3, 8, 9], sh := (.cons (.arr 64) (.cons (.dat yi) (.cons (.dat yi) (.cons (.dat yi) (.cons (.dat .bool) (.cons (.dat .bool) .nil)))))), obs := [(64, .arr 3 yi)] } }
 exits := []
 rets := { acts := [], S := { slots := [0], sh := (.cons (.arr 64) .nil), obs := [(64, .arr 3 yi)] } }
 K := Unit
 V := Int × (Int × (Int × (Bool × (Bool × Y1))))
 R := Y1
 join := fun _ v => (((), (v.1, (v.2.1, (v.2.2.1, (v.2.2.2.1, (v.2.2.2.2.1, ())))))), (v.2.2.2.2.2, ()))
 sk := fun _ => ()
 sv := fun t => (t.1.2.1, (t.1.2.2.1, (t.1.2.2.2.1, (t.1.2.2.2.2.1, (t.1.2.2.2.2.2.1, t.2.1)))))
 step := S_zbo_0 rec_
 leaf := fun _ r => .l (.ret (mkSt ({ slots := [0], sh := (.cons (.arr 64) .nil), obs := [(64, .arr 3 yi)] }) (((), ()), (r, ()))))
noncomputable def T_zbo (rec_ : (Int) → (Int) → (Int) → Y1 → Option Y1) (a2_ : Int) (a3_ : Int) (a4_ : Int) (a1_ : Y1) : Tr Y1 :=
 .c Y1 (L_zbo_0 rec_ () (a2_, (a3_, (a4_, (true, (true, a1_)))))) fun r54_ =>
 .l r54_
noncomputable def F_zbo : Nat → (Int) → (Int) → (Int) → Y1 → Option Y1
 | 0 => fun _ _ _ _ => none
 | n + 1 => fun a2_ a3_ a4_ a1_ => (T_zbo (F_zbo n) a2_ a3_ a4_ a1_).ev
noncomputable def A_zbo : Sh := (.cons (.arr 64) (.cons (.dat yi) (.cons (.dat yi) (.cons (.dat yi) .nil))))
noncomputable def I_zbo : List (Nat × OSh) := [(64, .arr 3 yi)]
noncomputable def K_zbo : RetK := { acts := [], res := [], sh := .nil, obs := [(64, .arr 3 yi)], pins := [(0, 0, 64)] }
noncomputable def Dr_zbo (rec_ : (Int) → (Int) → (Int) → Y1 → Option Y1) : FD where
 A := A_zbo
 ins := I_zbo
 lend := [.arg 0]
 R := Y1
 F := fun x => rec_ x.1.2.1 x.1.2.2.1 x.1.2.2.2.1 x.2.1
 emb := fun r => ([], [(64, .arr 3 yi r)])
noncomputable def D_zbo (n : Nat) : FD := Dr_zbo (F_zbo n)
noncomputable def E_zbo (rec_ : (Int) → (Int) → (Int) → Y1 → Option Y1) : Env := envOf [(64, D_zbd), (66, D_zaz), (67, D_zbb), (70, D_zb), (72, D_zbm), (57, Dr_zbo rec_)]
noncomputable def Z_zbo : Nat → Nat → List Nat := fun _ _ => []
noncomputable def O_zbo (rec_ : (Int) → (Int) → (Int) → Y1 → Option Y1) : List (Nat × LD) := [(0, DL_zbo_0 rec_)]
noncomputable def C_zbo : Code := (f57.body).getD .skip
noncomputable def T_zav (a1_ : Y1) : Tr Y1 :=
 .c (Int) (F_zal (IntKind.wrap .u64 ((List.length a1_ : Nat) : Int))) fun r1_ =>
 .c Y1 (F_zbo 1000000 (0 : Int) ((List.length a1_ : Nat) : Int) r1_ a1_) fun r2_ =>
 .l r2_
noncomputable def F_zav (a1_ : Y1) : Option Y1 := (T_zav a1_).ev
noncomputable def A_zav : Sh := (.cons (.arr 64) .nil)
noncomputable def I_zav : List (Nat × OSh) := [(64, .arr 3 yi)]
noncomputable def K_zav : RetK := { acts := [], res := [], sh := .nil, obs := [(64, .arr 3 yi)], pins := [(0, 0, 64)] }
noncomputable def D_zav : FD := ⟨A_zav, I_zav, [.arg 0], Y1, fun x => F_zav x.2.1, fun r => ([], [(64, .arr 3 yi r)])⟩
noncomputable def E_zav : Env := envOf [(58, D_zal), (57, D_zbo 1000000)]
noncomputable def Z_zav : Nat → Nat → List Nat := fun _ _ => []
noncomputable def O_zav : List (Nat × LD) := []
noncomputable def C_zav : Code := (f43.body).getD .skip
noncomputable def T_zaw (a1_ : Y1) : Tr Y1 :=
 .c (List Int) (F_zan a1_) fun r1_ =>
 .c Y1 (F_zav r1_) fun r2_ =>
 .l r2_
noncomputable def F_zaw (a1_ : Y1) : Option Y1 := (T_zaw a1_).ev
noncomputable def A_zaw : Sh := (.cons (.dat (.seq 44)) .nil)
noncomputable def I_zaw : List (Nat × OSh) := []
noncomputable def K_zaw : RetK := { acts := [.ren 320 0], res := [.tmp 2], sh := (.cons (.arr 0) .nil), obs := [(0, .arr 3 yi)], pins := [] }
noncomputable def D_zaw : FD := ⟨A_zaw, I_zaw, [], Y1, fun x => F_zaw x.1.1, fun r => ([.arr 0], [(0, .arr 3 yi r)])⟩
noncomputable def E_zaw : Env := envOf [(42, D_zan), (43, D_zav)]
noncomputable def Z_zaw : Nat → Nat → List Nat := fun _ _ => []
noncomputable def O_zaw : List (Nat × LD) := []
noncomputable def C_zaw : Code := (f26.body).getD .skip
noncomputable def S_zw_0 (k : Y1 × (Int × (Y1 × Int))) (v : Int) : Tr ((Int) ⊕ ((Unit) ⊕ (Unit))) :=
 .t (decide (v < k.2.2.2))
 (.g (inR v (List.length k.2.2.1)) <|
 .c (Bool) (F_zt (List.getD k.2.2.1 (Int.toNat v) (0 : Int)) (0 : Int) (IntKind.wrap .i64 (k.2.1 - (1 : Int)))) fun r6_ =>
 .t (!r6_)
 (.l (.inr (.inr ())))
 (.t (decide ((0 : Int) < v))
 (.g (inR (IntKind.wrap .i64 (v - (1 : Int))) (List.length k.1)) <|
 .t (decide ((List.getD k.2.2.1 (Int.toNat v) (0 : Int)) ≤ (List.getD k.1 (Int.toNat (IntKind.wrap .i64 (v - (1 : Int)))) (0 : Int))))
 (.l (.inr (.inr ())))
 (.l (.inl (IntKind.wrap .i64 (v + (1 : Int))))))
 (.l (.inl (IntKind.wrap .i64 (v + (1 : Int)))))))
 (.l (.inr (.inl ())))
noncomputable def L_zw_0 (k : Y1 × (Int × (Y1 × Int))) (v : Int) : Option ((Unit) ⊕ (Unit)) := iter (fun v => (S_zw_0 k v).ev) v
noncomputable def DL_zw_0 : LD := ⟨(yh [0, 1, 7, 8, 9] (.cons (.dat y1) (.cons (.dat yi) (.cons (.dat y1) (.cons (.dat yi) (.cons (.dat yi) .nil)))))), [(0, (yh [] .nil))], (yh [4] (.cons (.dat .bool) .nil)), Y1 × (Int × (Y1 × Int)), Int, (Unit) ⊕ (Unit), fun k v => ((k.1, (k.2.1, (k.2.2.1, (k.2.2.2, (v, ()))))), ()), fun t => (t.1.1, (t.1.2.1, (t.1.2.2.1, t.1.2.2.2.1))), fun t => t.1.2.2.2.2.1, S_zw_0, fun _ r => .s (Unit) (Unit) r (fun _ => .l (.exit 0 (mkSt ((ys [] .nil)) ((), ())))) (fun _ => .l (.ret (mkSt ((ys [4] (.cons (.dat .bool) .nil))) ((false, ()), ()))))⟩
noncomputable def T_zw (a1_ : Y1) (a2_ : Int) : Tr (Bool) :=
 .c ((Unit) ⊕ (Unit)) (L_zw_0 (a1_, (a2_, (a1_, ((List.length a1_ : Nat) : Int)))) (0 : Int)) fun r8_ =>
 .s (Unit) (Unit) r8_
 (fun _ => .l true)
 (fun _ => .l false)
noncomputable def F_zw (a1_ : Y1) (a2_ : Int) : Option (Bool) := (T_zw a1_ a2_).ev
noncomputable def A_zw : Sh := (.cons (.dat y1) (.cons (.dat yi) .nil))
noncomputable def I_zw : List (Nat × OSh) := []
noncomputable def K_zw : RetK := { acts := [], res := [.tmp 4], sh := (.cons (.dat .bool) .nil), obs := [], pins := [] }
noncomputable def D_zw : FD := ⟨A_zw, I_zw, [], Bool, fun x => F_zw x.1.1 x.1.2.1, fun r => ([.dat .bool r], [])⟩
noncomputable def E_zw : Env := envOf [(34, D_zt)]
noncomputable def Z_zw : Nat → Nat → List Nat := fun _ _ => []
noncomputable def O_zw : List (Nat × LD) := [(0, DL_zw_0)]
noncomputable def C_zw : Code := (f38.body).getD .skip
noncomputable def T_zv (a1_ : Y1) (a2_ : Int) : Tr (Bool) :=
 .t (((List.length a1_ : Nat) : Int) == a2_)
 (.c (List Int) (F_zax a1_) fun r1_ =>
 .c Y1 (F_zaw r1_) fun r2_ =>
 .c (Bool) (F_zw r2_ a2_) fun r3_ =>
 .l r3_)
 (.l false)
noncomputable def F_zv (a1_ : Y1) (a2_ : Int) : Option (Bool) := (T_zv a1_ a2_).ev
noncomputable def A_zv : Sh := (.cons (.dat y1) (.cons (.dat yi) .nil))
noncomputable def I_zv : List (Nat × OSh) := []
noncomputable def K_zv : RetK := { acts := [], res := [.tmp 4], sh := (.cons (.dat .bool) .nil), obs := [], pins := [] }
noncomputable def D_zv : FD := ⟨A_zv, I_zv, [], Bool, fun x => F_zv x.1.1 x.1.2.1, fun r => ([.dat .bool r], [])⟩
noncomputable def E_zv : Env := envOf [(27, D_zax), (26, D_zaw), (38, D_zw)]
noncomputable def Z_zv : Nat → Nat → List Nat := fun _ _ => []
noncomputable def O_zv : List (Nat × LD) := []
noncomputable def C_zv : Code := (f22.body).getD .skip
noncomputable def T_zr (a1_ : Int) (a2_ : Int) : Tr (Bool) :=
 .g (decide ((0 : Int) ≤ a2_)) <|
 .l ((IntKind.wrap .u64 (BitVec.toNat ((BitVec.ofInt (IntKind.bits .u64) (Int.fdiv a1_ (2 ^ (min (Int.toNat a2_) (IntKind.bits .u64))))) &&& (BitVec.ofInt (IntKind.bits .u64) (1 : Int))))) == (1 : Int))
noncomputable def F_zr (a1_ : Int) (a2_ : Int) : Option (Bool) := (T_zr a1_ a2_).ev
noncomputable def A_zr : Sh := (.cons (.dat (.int .u64)) (.cons (.dat yi) .nil))
noncomputable def I_zr : List (Nat × OSh) := []
noncomputable def K_zr : RetK := { acts := [], res := [.tmp 4], sh := (.cons (.dat .bool) .nil), obs := [], pins := [] }
noncomputable def D_zr : FD := ⟨A_zr, I_zr, [], Bool, fun x => F_zr x.1.1 x.1.2.1, fun r => ([.dat .bool r], [])⟩
noncomputable def E_zr : Env := envOf []
noncomputable def Z_zr : Nat → Nat → List Nat := fun _ _ => []
noncomputable def O_zr : List (Nat × LD) := []
noncomputable def C_zr : Code := (f75.body).getD .skip
noncomputable def S_zs_0 (k : Int) (v : Int × Y1) : Tr ((Int × Y1) ⊕ Y1) :=
 .g (decide ((0 : Int) ≤ v.1)) <|
 .t (decide ((0 : Int) < (Int.fdiv k (2 ^ (min (Int.toNat v.1) (IntKind.bits .u64))))))
 (.c (Bool) (F_zr k v.1) fun r4_ =>
 .t r4_
 (.g (decide ((List.length v.2 + List.length ([v.1] : Y1)) * 8 ≤ 140737488355328)) <|
 .l (.inl ((IntKind.wrap .i64 (v.1 + (1 : Int))), (v.2 ++ ([v.1] : Y1)))))
 (.l (.inl ((IntKind.wrap .i64 (v.1 + (1 : Int))), v.2))))
 (.l (.inr v.2))
noncomputable def L_zs_0 (k : Int) (v : Int × Y1) : Option Y1 := iter (fun v => (S_zs_0 k v).ev) v
noncomputable def DL_zs_0 : LD := ⟨{ acts := [], S := { slots := [0, 3, 4], sh := (.cons (.dat (.int .u64)) (.cons (.arr 5) (.cons (.dat yi) .nil))), obs := [(5, .arr 3 yi)] } }, [(0, { acts := [], S := { slots := [3], sh := (.cons (.arr 5) .nil), obs := [(5, .arr 3 yi)] } })], (yh [] .nil), Int, Int × Y1, Y1, fun k v => ((k, ((), (v.1, ()))), (v.2, ())), fun t => t.1.1, fun t => (t.1.2.2.1, t.2.1), S_zs_0, fun _ r => .l (.exit 0 (mkSt ({ slots := [3], sh := (.cons (.arr 5) .nil), obs := [(5, .arr 3 yi)] }) (((), ()), (r, ()))))⟩
noncomputable def T_zs (a1_ : Int) : Tr Y1 :=
 .c Y1 (L_zs_0 a1_ ((0 : Int), ([] : Y1))) fun r6_ =>
 .l r6_
noncomputable def F_zs (a1_ : Int) : Option Y1 := (T_zs a1_).ev
noncomputable def A_zs : Sh := (.cons (.dat (.int .u64)) .nil)
noncomputable def I_zs : List (Nat × OSh) := []
noncomputable def K_zs : RetK := { acts := [.ren 5 0], res := [.tmp 2], sh := (.cons (.arr 0) .nil), obs := [(0, .arr 3 yi)], pins := [] }
noncomputable def D_zs : FD := ⟨A_zs, I_zs, [], Y1, fun x => F_zs x.1.1, fun r => ([.arr 0], [(0, .arr 3 yi r)])⟩
noncomputable def E_zs : Env := envOf [(75, D_zr)]
noncomputable def Z_zs : Nat → Nat → List Nat := fun _ _ => []
noncomputable def O_zs : List (Nat × LD) := [(0, DL_zs_0)]
noncomputable def C_zs : Code := (f60.body).getD .skip
noncomputable def S_zbc_2 (k : Int × (Int × (((HL [y1, y1] → Option (Int))) × Int))) (v : Int × ((List Nat) × Y2)) : Tr ((Int × ((List Nat) × Y2)) ⊕ ((List Nat) × Y2)) :=
 .t (decide (k.1 < v.1))
 (.g (inR v.1 (List.length v.2.1)) <|
 .g (decide ((Int.toNat v.1) < List.length v.2.1) && decide ((List.getD v.2.1 (Int.toNat v.1) 0) < List.length v.2.2)) <|
 .g (inR (IntKind.wrap .i64 (v.1 - (1 : Int))) (List.length v.2.1)) <|
 .g (decide ((Int.toNat (IntKind.wrap .i64 (v.1 - (1 : Int)))) < List.length v.2.1) && decide ((List.getD v.2.1 (Int.toNat (IntKind.wrap .i64 (v.1 - (1 : Int)))) 0) < List.length v.2.2)) <|
 .c (Int) (k.2.2.1 ((List.getD v.2.2 (List.getD v.2.1 (Int.toNat v.1) 0) ([] : Y1)), ((List.getD v.2.2 (List.getD v.2.1 (Int.toNat (IntKind.wrap .i64 (v.1 - (1 : Int)))) 0) ([] : Y1)), ()))) fun r12_ =>
 .t (decide (r12_ < (0 : Int)))
 (.g (inR (IntKind.wrap .i64 (v.1 - (1 : Int))) (List.length v.2.1)) <|
 .g (decide ((Int.toNat (IntKind.wrap .i64 (v.1 - (1 : Int)))) < List.length v.2.1) && decide ((List.getD v.2.1 (Int.toNat (IntKind.wrap .i64 (v.1 - (1 : Int)))) 0) < List.length v.2.2)) <|
 .g (inR v.1 (List.length v.2.1)) <|
 .g (decide ((Int.toNat v.1) < List.length v.2.1) && decide ((List.getD v.2.1 (Int.toNat v.1) 0) < List.length v.2.2)) <|
 .g (inR v.1 (List.length v.2.1)) <|
 .g (decide ((Int.toNat v.1) < List.length v.2.1)) <|
 .g (inR (IntKind.wrap .i64 (v.1 - (1 : Int))) (List.length (List.set v.2.1 (Int.toNat v.1) (List.getD v.2.1 (Int.toNat (IntKind.wrap .i64 (v.1 - (1 : Int)))) 0)))) <|
 .g (decide ((Int.toNat (IntKind.wrap .i64 (v.1 - (1 : Int)))) < List.length (List.set v.2.1 (Int.toNat v.1) (List.getD v.2.1 (Int.toNat (IntKind.wrap .i64 (v.1 - (1 : Int)))) 0)))) <|
 .l (.inl ((IntKind.wrap .i64 (v.1 - (1 : Int))), ((List.set (List.set v.2.1 (Int.toNat v.1) (List.getD v.2.1 (Int.toNat (IntKind.wrap .i64 (v.1 - (1 : Int)))) 0)) (Int.toNat (IntKind.wrap .i64 (v.1 - (1 : Int)))) (List.getD v.2.1 (Int.toNat v.1) 0)), v.2.2))))
 (.l (.inr v.2)))
 (.l (.inr v.2))
noncomputable def L_zbc_2 (k : Int × (Int × (((HL [y1, y1] → Option (Int))) × Int))) (v : Int × ((List Nat) × Y2)) : Option ((List Nat) × Y2) := iter (fun v => (S_zbc_2 k v).ev) v
noncomputable def DL_zbc_2 : LD := ⟨{ acts := [], S := { slots := [0, 1, 2, 3, 8, 9], sh := (.cons (.arr 64) (.cons (.dat yi) (.cons (.dat yi) (.cons (.clo [y1, y1] yi) (.cons (.dat yi) (.cons (.dat yi) .nil)))))), obs := [(64, .perm 22 3 yi)] } }, [(2, { acts := [], S := { slots := [0, 1, 2, 3, 8], sh := (.cons (.arr 64) (.cons (.dat yi) (.cons (.dat yi) (.cons (.clo [y1, y1] yi) (.cons (.dat yi) .nil))))), obs := [(64, .perm 22 3 yi)] } })], (yh [] .nil), Int × (Int × (((HL [y1, y1] → Option (Int))) × Int)), Int × ((List Nat) × Y2), (List Nat) × Y2, fun k v => (((), (k.1, (k.2.1, (k.2.2.1, (k.2.2.2, (v.1, ())))))), (v.2, ())), fun t => (t.1.2.1, (t.1.2.2.1, (t.1.2.2.2.1, t.1.2.2.2.2.1))), fun t => (t.1.2.2.2.2.2.1, t.2.1), S_zbc_2, fun k r => .l (.exit 2 (mkSt ({ slots := [0, 1, 2, 3, 8], sh := (.cons (.arr 64) (.cons (.dat yi) (.cons (.dat yi) (.cons (.clo [y1, y1] yi) (.cons (.dat yi) .nil))))), obs := [(64, .perm 22 3 yi)] }) (((), (k.1, (k.2.1, (k.2.2.1, (k.2.2.2, ()))))), (r, ()))))⟩
noncomputable def S_zbc_0 (k : Int × (Int × ((HL [y1, y1] → Option (Int))))) (v : Int × ((List Nat) × Y2)) : Tr ((Int × ((List Nat) × Y2)) ⊕ ((List Nat) × Y2)) :=
 .t (decide (v.1 < k.2.1))
 (.c ((List Nat) × Y2) (L_zbc_2 (k.1, (k.2.1, (k.2.2, v.1))) (v.1, v.2)) fun r18_ =>
 .l (.inl ((IntKind.wrap .i64 (v.1 + (1 : Int))), r18_)))
 (.l (.inr v.2))
noncomputable def L_zbc_0 (k : Int × (Int × ((HL [y1, y1] → Option (Int))))) (v : Int × ((List Nat) × Y2)) : Option ((List Nat) × Y2) := iter (fun v => (S_zbc_0 k v).ev) v
noncomputable def DL_zbc_0 : LD := ⟨{ acts := [], S := { slots := [0, 1, 2, 3, 8], sh := (.cons (.arr 64) (.cons (.dat yi) (.cons (.dat yi) (.cons (.clo [y1, y1] yi) (.cons (.dat yi) .nil))))), obs := [(64, .perm 22 3 yi)] } }, [(0, { acts := [], S := { slots := [0], sh := (.cons (.arr 64) .nil), obs := [(64, .perm 22 3 yi)] } })], (yh [] .nil), Int × (Int × ((HL [y1, y1] → Option (Int)))), Int × ((List Nat) × Y2), (List Nat) × Y2, fun k v => (((), (k.1, (k.2.1, (k.2.2, (v.1, ()))))), (v.2, ())), fun t => (t.1.2.1, (t.1.2.2.1, t.1.2.2.2.1)), fun t => (t.1.2.2.2.2.1, t.2.1), S_zbc_0, fun _ r => .l (.exit 0 (mkSt ({ slots := [0], sh := (.cons (.arr 64) .nil), obs := [(64, .perm 22 3 yi)] }) (((), ()), (r, ()))))⟩
noncomputable def T_zbc (a2_ : Int) (a3_ : Int) (a4_ : (HL [y1, y1] → Option (Int))) (a1_ : (List Nat) × Y2) : Tr ((List Nat) × Y2) :=
 .c ((List Nat) × Y2) (L_zbc_0 (a2_, (a3_, a4_)) ((IntKind.wrap .i64 (a2_ + (1 : Int))), a1_)) fun r20_ =>
 .l r20_
noncomputable def F_zbc (a2_ : Int) (a3_ : Int) (a4_ : (HL [y1, y1] → Option (Int))) (a1_ : (List Nat) × Y2) : Option ((List Nat) × Y2) := (T_zbc a2_ a3_ a4_ a1_).ev
noncomputable def A_zbc : Sh := (.cons (.arr 64) (.cons (.dat yi) (.cons (.dat yi) (.cons (.clo [y1, y1] yi) .nil))))
noncomputable def I_zbc : List (Nat × OSh) := [(64, .perm 22 3 yi)]
noncomputable def K_zbc : RetK := { acts := [], res := [], sh := .nil, obs := [(64, .perm 22 3 yi)], pins := [(0, 0, 64)] }
noncomputable def D_zbc : FD := ⟨A_zbc, I_zbc, [.arg 0], (List Nat) × Y2, fun x => F_zbc x.1.2.1 x.1.2.2.1 x.1.2.2.2.1 x.2.1, fun r => ([], [(64, .perm false 22 3 yi r.1 r.2)])⟩
noncomputable def E_zbc : Env := envOf []
noncomputable def Z_zbc : Nat → Nat → List Nat := fun _ _ => []
noncomputable def O_zbc : List (Nat × LD) := [(2, DL_zbc_2), (0, DL_zbc_0)]
noncomputable def C_zbc : Code := (f86.body).getD .skip
noncomputable def S_zay_0 (k : Int × (Int × Int)) (v : Int × (((List Nat) × Y2) × Int)) : Tr ((Int × (((List Nat) × Y2) × Int)) ⊕ ((List Nat) × Y2)) :=
 .g (!decide ((4 : Int) = 0)) <|
 .t (decide (v.1 ≤ (IntKind.wrap .i64 ((IntKind.wrap .i64 (k.1 + (IntKind.wrap .i64 ((IntKind.wrap .i64 (Int.tdiv k.2.1 (4 : Int))) * (2 : Int))))) + (1 : Int)))))
 (.c (Int × Int) (F_zbp v.2.2) fun r8_ =>
 .t (decide (k.2.1 ≤ (IntKind.wrap .i64 (IntKind.wrap .u64 (BitVec.toNat ((BitVec.ofInt (IntKind.bits .u64) r8_.1) &&& (BitVec.ofInt (IntKind.bits .u64) (IntKind.wrap .u64 (k.2.2 - (1 : Int))))))))))
 (.g (inR (IntKind.wrap .i64 (k.1 + (IntKind.wrap .i64 ((IntKind.wrap .i64 (IntKind.wrap .u64 (BitVec.toNat ((BitVec.ofInt (IntKind.bits .u64) r8_.1) &&& (BitVec.ofInt (IntKind.bits .u64) (IntKind.wrap .u64 (k.2.2 - (1 : Int)))))))) - k.2.1)))) (List.length v.2.1.1)) <|
 .g (decide ((Int.toNat (IntKind.wrap .i64 (k.1 + (IntKind.wrap .i64 ((IntKind.wrap .i64 (IntKind.wrap .u64 (BitVec.toNat ((BitVec.ofInt (IntKind.bits .u64) r8_.1) &&& (BitVec.ofInt (IntKind.bits .u64) (IntKind.wrap .u64 (k.2.2 - (1 : Int)))))))) - k.2.1))))) < List.length v.2.1.1) && decide ((List.getD v.2.1.1 (Int.toNat (IntKind.wrap .i64 (k.1 + (IntKind.wrap .i64 ((IntKind.wrap .i64 (IntKind.wrap .u64 (BitVec.toNat ((BitVec.ofInt (IntKind.bits .u64) r8_.1) &&& (BitVec.ofInt (IntKind.bits .u64) (IntKind.wrap .u64 (k.2.2 - (1 : Int)))))))) - k.2.1))))) 0) < List.length v.2.1.2)) <|
 .g (inR v.1 (List.length v.2.1.1)) <|
 .g (decide ((Int.toNat v.1) < List.length v.2.1.1) && decide ((List.getD v.2.1.1 (Int.toNat v.1) 0) < List.length v.2.1.2)) <|
 .g (inR v.1 (List.length v.2.1.1)) <|
 .g (decide ((Int.toNat v.1) < List.length v.2.1.1)) <|
 .g (inR (IntKind.wrap .i64 (k.1 + (IntKind.wrap .i64 ((IntKind.wrap .i64 (IntKind.wrap .u64 (BitVec.toNat ((BitVec.ofInt (IntKind.bits .u64) r8_.1) &&& (BitVec.ofInt (IntKind.bits .u64) (IntKind.wrap .u64 (k.2.2 - (1 : Int)))))))) - k.2.1)))) (List.length (List.set v.2.1.1 (Int.toNat v.1) (List.getD v.2.1.1 (Int.toNat (IntKind.wrap .i64 (k.1 + (IntKind.wrap .i64 ((IntKind.wrap .i64 (IntKind.wrap .u64 (BitVec.toNat ((BitVec.ofInt (IntKind.bits .u64) r8_.1) &&& (BitVec.ofInt (IntKind.bits .u64) (IntKind.wrap .u64 (k.2.2 - (1 : Int)))))))) - k.2.1))))) 0)))) <|
 .g (decide ((Int.toNat (IntKind.wrap .i64 (k.1 + (IntKind.wrap .i64 ((IntKind.wrap .i64 (IntKind.wrap .u64 (BitVec.toNat ((BitVec.ofInt (IntKind.bits .u64) r8_.1) &&& (BitVec.ofInt (IntKind.bits .u64) (IntKind.wrap .u64 (k.2.2 - (1 : Int)))))))) - k.2.1))))) < List.length (List.set v.2.1.1 (Int.toNat v.1) (List.getD v.2.1.1 (Int.toNat (IntKind.wrap .i64 (k.1 + (IntKind.wrap .i64 ((IntKind.wrap .i64 (IntKind.wrap .u64 (BitVec.toNat ((BitVec.ofInt (IntKind.bits .u64) r8_.1) &&& (BitVec.ofInt (IntKind.bits .u64) (IntKind.wrap .u64 (k.2.2 - (1 : Int)))))))) - k.2.1))))) 0)))) <|
 .l (.inl ((IntKind.wrap .i64 (v.1 + (1 : Int))), (((List.set (List.set v.2.1.1 (Int.toNat v.1) (List.getD v.2.1.1 (Int.toNat (IntKind.wrap .i64 (k.1 + (IntKind.wrap .i64 ((IntKind.wrap .i64 (IntKind.wrap .u64 (BitVec.toNat ((BitVec.ofInt (IntKind.bits .u64) r8_.1) &&& (BitVec.ofInt (IntKind.bits .u64) (IntKind.wrap .u64 (k.2.2 - (1 : Int)))))))) - k.2.1))))) 0)) (Int.toNat (IntKind.wrap .i64 (k.1 + (IntKind.wrap .i64 ((IntKind.wrap .i64 (IntKind.wrap .u64 (BitVec.toNat ((BitVec.ofInt (IntKind.bits .u64) r8_.1) &&& (BitVec.ofInt (IntKind.bits .u64) (IntKind.wrap .u64 (k.2.2 - (1 : Int)))))))) - k.2.1))))) (List.getD v.2.1.1 (Int.toNat v.1) 0)), v.2.1.2), r8_.2))))
 (.g (inR (IntKind.wrap .i64 (k.1 + (IntKind.wrap .i64 (IntKind.wrap .u64 (BitVec.toNat ((BitVec.ofInt (IntKind.bits .u64) r8_.1) &&& (BitVec.ofInt (IntKind.bits .u64) (IntKind.wrap .u64 (k.2.2 - (1 : Int)))))))))) (List.length v.2.1.1)) <|
 .g (decide ((Int.toNat (IntKind.wrap .i64 (k.1 + (IntKind.wrap .i64 (IntKind.wrap .u64 (BitVec.toNat ((BitVec.ofInt (IntKind.bits .u64) r8_.1) &&& (BitVec.ofInt (IntKind.bits .u64) (IntKind.wrap .u64 (k.2.2 - (1 : Int))))))))))) < List.length v.2.1.1) && decide ((List.getD v.2.1.1 (Int.toNat (IntKind.wrap .i64 (k.1 + (IntKind.wrap .i64 (IntKind.wrap .u64 (BitVec.toNat ((BitVec.ofInt (IntKind.bits .u64) r8_.1) &&& (BitVec.ofInt (IntKind.bits .u64) (IntKind.wrap .u64 (k.2.2 - (1 : Int))))))))))) 0) < List.length v.2.1.2)) <|
 .g (inR v.1 (List.length v.2.1.1)) <|
 .g (decide ((Int.toNat v.1) < List.length v.2.1.1) && decide ((List.getD v.2.1.1 (Int.toNat v.1) 0) < List.length v.2.1.2)) <|
 .g (inR v.1 (List.length v.2.1.1)) <|
 .g (decide ((Int.toNat v.1) < List.length v.2.1.1)) <|
 .g (inR (IntKind.wrap .i64 (k.1 + (IntKind.wrap .i64 (IntKind.wrap .u64 (BitVec.toNat ((BitVec.ofInt (IntKind.bits .u64) r8_.1) &&& (BitVec.ofInt (IntKind.bits .u64) (IntKind.wrap .u64 (k.2.2 - (1 : Int)))))))))) (List.length (List.set v.2.1.1 (Int.toNat v.1) (List.getD v.2.1.1 (Int.toNat (IntKind.wrap .i64 (k.1 + (IntKind.wrap .i64 (IntKind.wrap .u64 (BitVec.toNat ((BitVec.ofInt (IntKind.bits .u64) r8_.1) &&& (BitVec.ofInt (IntKind.bits .u64) (IntKind.wrap .u64 (k.2.2 - (1 : Int))))))))))) 0)))) <|
 .g (decide ((Int.toNat (IntKind.wrap .i64 (k.1 + (IntKind.wrap .i64 (IntKind.wrap .u64 (BitVec.toNat ((BitVec.ofInt (IntKind.bits .u64) r8_.1) &&& (BitVec.ofInt (IntKind.bits .u64) (IntKind.wrap .u64 (k.2.2 - (1 : Int))))))))))) < List.length (List.set v.2.1.1 (Int.toNat v.1) (List.getD v.2.1.1 (Int.toNat (IntKind.wrap .i64 (k.1 + (IntKind.wrap .i64 (IntKind.wrap .u64 (BitVec.toNat ((BitVec.ofInt (IntKind.bits .u64) r8_.1) &&& (BitVec.ofInt (IntKind.bits .u64) (IntKind.wrap .u64 (k.2.2 - (1 : Int))))))))))) 0)))) <|
 .l (.inl ((IntKind.wrap .i64 (v.1 + (1 : Int))), (((List.set (List.set v.2.1.1 (Int.toNat v.1) (List.getD v.2.1.1 (Int.toNat (IntKind.wrap .i64 (k.1 + (IntKind.wrap .i64 (IntKind.wrap .u64 (BitVec.toNat ((BitVec.ofInt (IntKind.bits .u64) r8_.1) &&& (BitVec.ofInt (IntKind.bits .u64) (IntKind.wrap .u64 (k.2.2 - (1 : Int))))))))))) 0)) (Int.toNat (IntKind.wrap .i64 (k.1 + (IntKind.wrap .i64 (IntKind.wrap .u64 (BitVec.toNat ((BitVec.ofInt (IntKind.bits .u64) r8_.1) &&& (BitVec.ofInt (IntKind.bits .u64) (IntKind.wrap .u64 (k.2.2 - (1 : Int))))))))))) (List.getD v.2.1.1 (Int.toNat v.1) 0)), v.2.1.2), r8_.2)))))
 (.l (.inr v.2.1))
noncomputable def L_zay_0 (k : Int × (Int × Int)) (v : Int × (((List Nat) × Y2) × Int)) : Option ((List Nat) × Y2) := iter (fun v => (S_zay_0 k v).ev) v
noncomputable def DL_zay_0 : LD := ⟨{ acts := [], S := { slots := [0, 1, 8, 9, 10, 11], sh := (.cons (.arr 64) (.cons (.dat yi) (.cons (.dat yi) (.cons (.box 9 0) (.cons (.dat (.int .u64)) (.cons (.dat yi) .nil)))))), obs := [(64, .perm 22 3 yi), (9, .cells (.cons (.dat (.int .u64)) .nil))] } }, [(0, { acts := [], S := { slots := [0], sh := (.cons (.arr 64) .nil), obs := [(64, .perm 22 3 yi)] } })], (yh [] .nil), Int × (Int × Int), Int × (((List Nat) × Y2) × Int), (List Nat) × Y2, fun k v => (((), (k.1, (k.2.1, ((), (k.2.2, (v.1, ())))))), (v.2.1, ((v.2.2, ()), ()))), fun t => (t.1.2.1, (t.1.2.2.1, t.1.2.2.2.2.1)), fun t => (t.1.2.2.2.2.2.1, (t.2.1, t.2.2.1.1)), S_zay_0, fun _ r => .l (.exit 0 (mkSt ({ slots := [0], sh := (.cons (.arr 64) .nil), obs := [(64, .perm 22 3 yi)] }) (((), ()), (r, ()))))⟩
noncomputable def T_zay (a2_ : Int) (a3_ : Int) (_a4_ : (HL [y1, y1] → Option (Int))) (a1_ : (List Nat) × Y2) : Tr ((List Nat) × Y2) :=
 .t (decide ((8 : Int) ≤ (IntKind.wrap .i64 (a3_ - a2_))))
 (.c (Int) (F_zbi (IntKind.wrap .i64 (a3_ - a2_))) fun r1_ =>
 .g (!decide ((4 : Int) = 0)) <|
 .c ((List Nat) × Y2) (L_zay_0 (a2_, ((IntKind.wrap .i64 (a3_ - a2_)), r1_)) ((IntKind.wrap .i64 ((IntKind.wrap .i64 (a2_ + (IntKind.wrap .i64 ((IntKind.wrap .i64 (Int.tdiv (IntKind.wrap .i64 (a3_ - a2_)) (4 : Int))) * (2 : Int))))) - (1 : Int))), (a1_, (IntKind.wrap .u64 (IntKind.wrap .i64 (a3_ - a2_)))))) fun r10_ =>
 .l r10_)
 (.l a1_)
noncomputable def F_zay (a2_ : Int) (a3_ : Int) (a4_ : (HL [y1, y1] → Option (Int))) (a1_ : (List Nat) × Y2) : Option ((List Nat) × Y2) := (T_zay a2_ a3_ a4_ a1_).ev
noncomputable def A_zay : Sh := (.cons (.arr 64) (.cons (.dat yi) (.cons (.dat yi) (.cons (.clo [y1, y1] yi) .nil))))
noncomputable def I_zay : List (Nat × OSh) := [(64, .perm 22 3 yi)]
noncomputable def K_zay : RetK := { acts := [], res := [], sh := .nil, obs := [(64, .perm 22 3 yi)], pins := [(0, 0, 64)] }
noncomputable def D_zay : FD := ⟨A_zay, I_zay, [.arg 0], (List Nat) × Y2, fun x => F_zay x.1.2.1 x.1.2.2.1 x.1.2.2.2.1 x.2.1, fun r => ([], [(64, .perm false 22 3 yi r.1 r.2)])⟩
noncomputable def E_zay : Env := envOf [(81, D_zbi), (82, D_zbp)]
noncomputable def Z_zay : Nat → Nat → List Nat := fun _ _ => []
noncomputable def O_zay : List (Nat × LD) := [(0, DL_zay_0)]
noncomputable def C_zay : Code := (f88.body).getD .skip
noncomputable def T_zbj (a1_ : List Y1) (a2_ : Int) (a3_ : Int) (a5_ : (HL [y1, y1] → Option (Int))) (a4_ : Int) : Tr (Int × (Int × Int)) :=
 .g (inR a3_ (List.length a1_)) <|
 .g (inR a2_ (List.length a1_)) <|
 .c (Int) (a5_ ((List.getD a1_ (Int.toNat a3_) ([] : Y1)), ((List.getD a1_ (Int.toNat a2_) ([] : Y1)), ()))) fun r1_ =>
 .t (decide (r1_ < (0 : Int)))
 (.l (a3_, (a2_, (IntKind.wrap .i64 (a4_ + (1 : Int))))))
 (.l (a2_, (a3_, a4_)))
noncomputable def F_zbj (a1_ : List Y1) (a2_ : Int) (a3_ : Int) (a5_ : (HL [y1, y1] → Option (Int))) (a4_ : Int) : Option (Int × (Int × Int)) := (T_zbj a1_ a2_ a3_ a5_ a4_).ev
noncomputable def A_zbj : Sh := (.cons (.dat y2) (.cons (.dat yi) (.cons (.dat yi) (.cons (.box 64 0) (.cons (.clo [y1, y1] yi) .nil)))))
noncomputable def I_zbj : List (Nat × OSh) := [(64, .cells (.cons (.dat yi) .nil))]
noncomputable def K_zbj : RetK := { acts := [], res := [.tmp 10, .tmp 11], sh := (.cons (.dat yi) (.cons (.dat yi) .nil)), obs := [(64, .cells (.cons (.dat yi) .nil))], pins := [(3, 0, 64)] }
noncomputable def D_zbj : FD := ⟨A_zbj, I_zbj, [.arg 3], Int × (Int × Int), fun x => F_zbj x.1.1 x.1.2.1 x.1.2.2.1 x.1.2.2.2.2.1 x.2.1.1, fun r => ([.dat yi r.1, .dat yi r.2.1], [(64, .cells [.dat yi r.2.2])])⟩
noncomputable def E_zbj : Env := envOf []
noncomputable def Z_zbj : Nat → Nat → List Nat := fun _ _ => []
noncomputable def O_zbj : List (Nat × LD) := []
noncomputable def C_zbj : Code := (f98.body).getD .skip
noncomputable def T_zbg (a1_ : List Y1) (a2_ : Int) (a3_ : Int) (a4_ : Int) (a6_ : (HL [y1, y1] → Option (Int))) (a5_ : Int) : Tr (Int × Int) :=
 .c (Int × (Int × Int)) (F_zbj a1_ a2_ a3_ a6_ a5_) fun r1_ =>
 .c (Int × (Int × Int)) (F_zbj a1_ r1_.2.1 a4_ a6_ r1_.2.2) fun r2_ =>
 .c (Int × (Int × Int)) (F_zbj a1_ r1_.1 r2_.1 a6_ r2_.2.2) fun r3_ =>
 .l (r3_.2.1, r3_.2.2)
noncomputable def F_zbg (a1_ : List Y1) (a2_ : Int) (a3_ : Int) (a4_ : Int) (a6_ : (HL [y1, y1] → Option (Int))) (a5_ : Int) : Option (Int × Int) := (T_zbg a1_ a2_ a3_ a4_ a6_ a5_).ev
noncomputable def A_zbg : Sh := (.cons (.dat y2) (.cons (.dat yi) (.cons (.dat yi) (.cons (.dat yi) (.cons (.box 64 0) (.cons (.clo [y1, y1] yi) .nil))))))
noncomputable def I_zbg : List (Nat × OSh) := [(64, .cells (.cons (.dat yi) .nil))]
noncomputable def K_zbg : RetK := { acts := [], res := [.tmp 12], sh := (.cons (.dat yi) .nil), obs := [(64, .cells (.cons (.dat yi) .nil))], pins := [(4, 0, 64)] }
noncomputable def D_zbg : FD := ⟨A_zbg, I_zbg, [.arg 4], Int × (Int), fun x => F_zbg x.1.1 x.1.2.1 x.1.2.2.1 x.1.2.2.2.1 x.1.2.2.2.2.2.1 x.2.1.1, fun r => ([.dat yi r.1], [(64, .cells [.dat yi r.2])])⟩
noncomputable def E_zbg : Env := envOf [(98, D_zbj)]
noncomputable def Z_zbg : Nat → Nat → List Nat := fun _ _ => []
noncomputable def O_zbg : List (Nat × LD) := []
noncomputable def C_zbg : Code := (f97.body).getD .skip
noncomputable def T_zbe (a1_ : List Y1) (a2_ : Int) (a4_ : (HL [y1, y1] → Option (Int))) (a3_ : Int) : Tr (Int × Int) :=
 .c (Int × Int) (F_zbg a1_ (IntKind.wrap .i64 (a2_ - (1 : Int))) a2_ (IntKind.wrap .i64 (a2_ + (1 : Int))) a4_ a3_) fun r1_ =>
 .l (r1_.1, r1_.2)
noncomputable def F_zbe (a1_ : List Y1) (a2_ : Int) (a4_ : (HL [y1, y1] → Option (Int))) (a3_ : Int) : Option (Int × Int) := (T_zbe a1_ a2_ a4_ a3_).ev
noncomputable def A_zbe : Sh := (.cons (.dat y2) (.cons (.dat yi) (.cons (.box 64 0) (.cons (.clo [y1, y1] yi) .nil))))
noncomputable def I_zbe : List (Nat × OSh) := [(64, .cells (.cons (.dat yi) .nil))]
noncomputable def K_zbe : RetK := { acts := [], res := [.tmp 8], sh := (.cons (.dat yi) .nil), obs := [(64, .cells (.cons (.dat yi) .nil))], pins := [(2, 0, 64)] }
noncomputable def D_zbe : FD := ⟨A_zbe, I_zbe, [.arg 2], Int × (Int), fun x => F_zbe x.1.1 x.1.2.1 x.1.2.2.2.1 x.2.1.1, fun r => ([.dat yi r.1], [(64, .cells [.dat yi r.2])])⟩
noncomputable def E_zbe : Env := envOf [(97, D_zbg)]
noncomputable def Z_zbe : Nat → Nat → List Nat := fun _ _ => []
noncomputable def O_zbe : List (Nat × LD) := []
noncomputable def C_zbe : Code := (f96.body).getD .skip
noncomputable def T_zba (a1_ : List Y1) (a2_ : Int) (a3_ : Int) (a4_ : (HL [y1, y1] → Option (Int))) : Tr (Int × Int) :=
 .g (!decide ((4 : Int) = 0)) <|
 .g (!decide ((4 : Int) = 0)) <|
 .g (!decide ((4 : Int) = 0)) <|
 .t (decide ((8 : Int) ≤ (IntKind.wrap .i64 (a3_ - a2_))))
 (.t (decide ((50 : Int) ≤ (IntKind.wrap .i64 (a3_ - a2_))))
 (.c (Int × Int) (F_zbe a1_ (IntKind.wrap .i64 (a2_ + (IntKind.wrap .i64 ((IntKind.wrap .i64 (Int.tdiv (IntKind.wrap .i64 (a3_ - a2_)) (4 : Int))) * (1 : Int))))) a4_ (0 : Int)) fun r1_ =>
 .c (Int × Int) (F_zbe a1_ (IntKind.wrap .i64 (a2_ + (IntKind.wrap .i64 ((IntKind.wrap .i64 (Int.tdiv (IntKind.wrap .i64 (a3_ - a2_)) (4 : Int))) * (2 : Int))))) a4_ r1_.2) fun r2_ =>
 .c (Int × Int) (F_zbe a1_ (IntKind.wrap .i64 (a2_ + (IntKind.wrap .i64 ((IntKind.wrap .i64 (Int.tdiv (IntKind.wrap .i64 (a3_ - a2_)) (4 : Int))) * (3 : Int))))) a4_ r2_.2) fun r3_ =>
 .c (Int × Int) (F_zbg a1_ r1_.1 r2_.1 r3_.1 a4_ r3_.2) fun r4_ =>
 .t (r4_.2 == (0 : Int))
 (.l (r4_.1, (1 : Int)))
 (.t (r4_.2 == (12 : Int))
 (.l (r4_.1, (2 : Int)))
 (.l (r4_.1, (0 : Int)))))
 (.c (Int × Int) (F_zbg a1_ (IntKind.wrap .i64 (a2_ + (IntKind.wrap .i64 ((IntKind.wrap .i64 (Int.tdiv (IntKind.wrap .i64 (a3_ - a2_)) (4 : Int))) * (1 : Int))))) (IntKind.wrap .i64 (a2_ + (IntKind.wrap .i64 ((IntKind.wrap .i64 (Int.tdiv (IntKind.wrap .i64 (a3_ - a2_)) (4 : Int))) * (2 : Int))))) (IntKind.wrap .i64 (a2_ + (IntKind.wrap .i64 ((IntKind.wrap .i64 (Int.tdiv (IntKind.wrap .i64 (a3_ - a2_)) (4 : Int))) * (3 : Int))))) a4_ (0 : Int)) fun r5_ =>
 .t (r5_.2 == (0 : Int))
 (.l (r5_.1, (1 : Int)))
 (.t (r5_.2 == (12 : Int))
 (.l (r5_.1, (2 : Int)))
 (.l (r5_.1, (0 : Int))))))
 (.t ((0 : Int) == (0 : Int))
 (.l ((IntKind.wrap .i64 (a2_ + (IntKind.wrap .i64 ((IntKind.wrap .i64 (Int.tdiv (IntKind.wrap .i64 (a3_ - a2_)) (4 : Int))) * (2 : Int))))), (1 : Int)))
 (.t ((0 : Int) == (12 : Int))
 (.l ((IntKind.wrap .i64 (a2_ + (IntKind.wrap .i64 ((IntKind.wrap .i64 (Int.tdiv (IntKind.wrap .i64 (a3_ - a2_)) (4 : Int))) * (2 : Int))))), (2 : Int)))
 (.l ((IntKind.wrap .i64 (a2_ + (IntKind.wrap .i64 ((IntKind.wrap .i64 (Int.tdiv (IntKind.wrap .i64 (a3_ - a2_)) (4 : Int))) * (2 : Int))))), (0 : Int)))))
noncomputable def F_zba (a1_ : List Y1) (a2_ : Int) (a3_ : Int) (a4_ : (HL [y1, y1] → Option (Int))) : Option (Int × Int) := (T_zba a1_ a2_ a3_ a4_).ev
noncomputable def A_zba : Sh := (.cons (.dat y2) (.cons (.dat yi) (.cons (.dat yi) (.cons (.clo [y1, y1] yi) .nil))))
noncomputable def I_zba : List (Nat × OSh) := []
noncomputable def K_zba : RetK := { acts := [], res := [.tmp 8, .tmp 9], sh := (.cons (.dat yi) (.cons (.dat yi) .nil)), obs := [], pins := [] }
noncomputable def D_zba : FD := ⟨A_zba, I_zba, [], Int × (Int), fun x => F_zba x.1.1 x.1.2.1 x.1.2.2.1 x.1.2.2.2.1, fun r => ([.dat yi r.1, .dat yi r.2], [])⟩
noncomputable def E_zba : Env := envOf [(96, D_zbe), (97, D_zbg)]
noncomputable def Z_zba : Nat → Nat → List Nat := fun _ _ => []
noncomputable def O_zba : List (Nat × LD) := []
noncomputable def C_zba : Code := (f89.body).getD .skip
noncomputable def S_zbl_0 (k : Int × (((HL [y1, y1] → Option (Int))) × (Int × ((List Nat) × Y2)))) (v : Int) : Tr ((Int) ⊕ (Int)) :=
 .t (decide (v ≤ k.2.2.1))
 (.g (inR v (List.length k.2.2.2.1)) <|
 .g (decide ((Int.toNat v) < List.length k.2.2.2.1) && decide ((List.getD k.2.2.2.1 (Int.toNat v) 0) < List.length k.2.2.2.2)) <|
 .g (inR k.1 (List.length k.2.2.2.1)) <|
 .g (decide ((Int.toNat k.1) < List.length k.2.2.2.1) && decide ((List.getD k.2.2.2.1 (Int.toNat k.1) 0) < List.length k.2.2.2.2)) <|
 .c (Int) (k.2.1 ((List.getD k.2.2.2.2 (List.getD k.2.2.2.1 (Int.toNat v) 0) ([] : Y1)), ((List.getD k.2.2.2.2 (List.getD k.2.2.2.1 (Int.toNat k.1) 0) ([] : Y1)), ()))) fun r6_ =>
 .t (decide (r6_ < (0 : Int)))
 (.l (.inl (IntKind.wrap .i64 (v + (1 : Int)))))
 (.l (.inr v)))
 (.l (.inr v))
noncomputable def L_zbl_0 (k : Int × (((HL [y1, y1] → Option (Int))) × (Int × ((List Nat) × Y2)))) (v : Int) : Option (Int) := iter (fun v => (S_zbl_0 k v).ev) v
noncomputable def DL_zbl_0 : LD := ⟨{ acts := [], S := { slots := [0, 1, 4, 12, 13], sh := (.cons (.arr 64) (.cons (.dat yi) (.cons (.clo [y1, y1] yi) (.cons (.dat yi) (.cons (.dat yi) .nil))))), obs := [(64, .perm 22 3 yi)] } }, [(0, { acts := [], S := { slots := [0, 1, 4, 12, 13], sh := (.cons (.arr 64) (.cons (.dat yi) (.cons (.clo [y1, y1] yi) (.cons (.dat yi) (.cons (.dat yi) .nil))))), obs := [(64, .perm 22 3 yi)] } })], (yh [] .nil), Int × (((HL [y1, y1] → Option (Int))) × (Int × ((List Nat) × Y2))), Int, Int, fun k v => (((), (k.1, (k.2.1, (v, (k.2.2.1, ()))))), (k.2.2.2, ())), fun t => (t.1.2.1, (t.1.2.2.1, (t.1.2.2.2.2.1, t.2.1))), fun t => t.1.2.2.2.1, S_zbl_0, fun k r => .l (.exit 0 (mkSt ({ slots := [0, 1, 4, 12, 13], sh := (.cons (.arr 64) (.cons (.dat yi) (.cons (.clo [y1, y1] yi) (.cons (.dat yi) (.cons (.dat yi) .nil))))), obs := [(64, .perm 22 3 yi)] }) (((), (k.1, (k.2.1, (r, (k.2.2.1, ()))))), (k.2.2.2, ()))))⟩
noncomputable def S_zbl_2 (k : Int × (((HL [y1, y1] → Option (Int))) × (Int × ((List Nat) × Y2)))) (v : Int) : Tr ((Int) ⊕ (Int)) :=
 .t (decide (k.2.2.1 ≤ v))
 (.g (inR v (List.length k.2.2.2.1)) <|
 .g (decide ((Int.toNat v) < List.length k.2.2.2.1) && decide ((List.getD k.2.2.2.1 (Int.toNat v) 0) < List.length k.2.2.2.2)) <|
 .g (inR k.1 (List.length k.2.2.2.1)) <|
 .g (decide ((Int.toNat k.1) < List.length k.2.2.2.1) && decide ((List.getD k.2.2.2.1 (Int.toNat k.1) 0) < List.length k.2.2.2.2)) <|
 .c (Int) (k.2.1 ((List.getD k.2.2.2.2 (List.getD k.2.2.2.1 (Int.toNat v) 0) ([] : Y1)), ((List.getD k.2.2.2.2 (List.getD k.2.2.2.1 (Int.toNat k.1) 0) ([] : Y1)), ()))) fun r18_ =>
 .t (!(decide (r18_ < (0 : Int))))
 (.l (.inl (IntKind.wrap .i64 (v - (1 : Int)))))
 (.l (.inr v)))
 (.l (.inr v))
noncomputable def L_zbl_2 (k : Int × (((HL [y1, y1] → Option (Int))) × (Int × ((List Nat) × Y2)))) (v : Int) : Option (Int) := iter (fun v => (S_zbl_2 k v).ev) v
noncomputable def DL_zbl_2 : LD := ⟨{ acts := [], S := { slots := [0, 1, 4, 12, 13], sh := (.cons (.arr 64) (.cons (.dat yi) (.cons (.clo [y1, y1] yi) (.cons (.dat yi) (.cons (.dat yi) .nil))))), obs := [(64, .perm 22 3 yi)] } }, [(2, { acts := [], S := { slots := [0, 1, 4, 12, 13], sh := (.cons (.arr 64) (.cons (.dat yi) (.cons (.clo [y1, y1] yi) (.cons (.dat yi) (.cons (.dat yi) .nil))))), obs := [(64, .perm 22 3 yi)] } })], (yh [] .nil), Int × (((HL [y1, y1] → Option (Int))) × (Int × ((List Nat) × Y2))), Int, Int, fun k v => (((), (k.1, (k.2.1, (k.2.2.1, (v, ()))))), (k.2.2.2, ())), fun t => (t.1.2.1, (t.1.2.2.1, (t.1.2.2.2.1, t.2.1))), fun t => t.1.2.2.2.2.1, S_zbl_2, fun k r => .l (.exit 2 (mkSt ({ slots := [0, 1, 4, 12, 13], sh := (.cons (.arr 64) (.cons (.dat yi) (.cons (.clo [y1, y1] yi) (.cons (.dat yi) (.cons (.dat yi) .nil))))), obs := [(64, .perm 22 3 yi)] }) (((), (k.1, (k.2.1, (k.2.2.1, (r, ()))))), (k.2.2.2, ()))))⟩
noncomputable def S_zbl_6 (k : Int × (((HL [y1, y1] → Option (Int))) × (Int × ((List Nat) × Y2)))) (v : Int) : Tr ((Int) ⊕ (Int)) :=
 .t (decide (v ≤ k.2.2.1))
 (.g (inR v (List.length k.2.2.2.1)) <|
 .g (decide ((Int.toNat v) < List.length k.2.2.2.1) && decide ((List.getD k.2.2.2.1 (Int.toNat v) 0) < List.length k.2.2.2.2)) <|
 .g (inR k.1 (List.length k.2.2.2.1)) <|
 .g (decide ((Int.toNat k.1) < List.length k.2.2.2.1) && decide ((List.getD k.2.2.2.1 (Int.toNat k.1) 0) < List.length k.2.2.2.2)) <|
 .c (Int) (k.2.1 ((List.getD k.2.2.2.2 (List.getD k.2.2.2.1 (Int.toNat v) 0) ([] : Y1)), ((List.getD k.2.2.2.2 (List.getD k.2.2.2.1 (Int.toNat k.1) 0) ([] : Y1)), ()))) fun r35_ =>
 .t (decide (r35_ < (0 : Int)))
 (.l (.inl (IntKind.wrap .i64 (v + (1 : Int)))))
 (.l (.inr v)))
 (.l (.inr v))
noncomputable def L_zbl_6 (k : Int × (((HL [y1, y1] → Option (Int))) × (Int × ((List Nat) × Y2)))) (v : Int) : Option (Int) := iter (fun v => (S_zbl_6 k v).ev) v
noncomputable def DL_zbl_6 : LD := ⟨{ acts := [], S := { slots := [0, 1, 4, 12, 13], sh := (.cons (.arr 64) (.cons (.dat yi) (.cons (.clo [y1, y1] yi) (.cons (.dat yi) (.cons (.dat yi) .nil))))), obs := [(64, .perm 22 3 yi)] } }, [(6, { acts := [], S := { slots := [0, 1, 4, 12, 13], sh := (.cons (.arr 64) (.cons (.dat yi) (.cons (.clo [y1, y1] yi) (.cons (.dat yi) (.cons (.dat yi) .nil))))), obs := [(64, .perm 22 3 yi)] } })], (yh [] .nil), Int × (((HL [y1, y1] → Option (Int))) × (Int × ((List Nat) × Y2))), Int, Int, fun k v => (((), (k.1, (k.2.1, (v, (k.2.2.1, ()))))), (k.2.2.2, ())), fun t => (t.1.2.1, (t.1.2.2.1, (t.1.2.2.2.2.1, t.2.1))), fun t => t.1.2.2.2.1, S_zbl_6, fun k r => .l (.exit 6 (mkSt ({ slots := [0, 1, 4, 12, 13], sh := (.cons (.arr 64) (.cons (.dat yi) (.cons (.clo [y1, y1] yi) (.cons (.dat yi) (.cons (.dat yi) .nil))))), obs := [(64, .perm 22 3 yi)] }) (((), (k.1, (k.2.1, (r, (k.2.2.1, ()))))), (k.2.2.2, ()))))⟩
noncomputable def S_zbl_8 (k : Int × (((HL [y1, y1] → Option (Int))) × (Int × ((List Nat) × Y2)))) (v : Int) : Tr ((Int) ⊕ (Int)) :=
 .t (decide (k.2.2.1 ≤ v))
 (.g (inR v (List.length k.2.2.2.1)) <|
 .g (decide ((Int.toNat v) < List.length k.2.2.2.1) && decide ((List.getD k.2.2.2.1 (Int.toNat v) 0) < List.length k.2.2.2.2)) <|
 .g (inR k.1 (List.length k.2.2.2.1)) <|
 .g (decide ((Int.toNat k.1) < List.length k.2.2.2.1) && decide ((List.getD k.2.2.2.1 (Int.toNat k.1) 0) < List.length k.2.2.2.2)) <|
 .c (Int) (k.2.1 ((List.getD k.2.2.2.2 (List.getD k.2.2.2.1 (Int.toNat v) 0) ([] : Y1)), ((List.getD k.2.2.2.2 (List.getD k.2.2.2.1 (Int.toNat k.1) 0) ([] : Y1)), ()))) fun r47_ =>
 .t (!(decide (r47_ < (0 : Int))))
 (.l (.inl (IntKind.wrap .i64 (v - (1 : Int)))))
 (.l (.inr v)))
 (.l (.inr v))
noncomputable def L_zbl_8 (k : Int × (((HL [y1, y1] → Option (Int))) × (Int × ((List Nat) × Y2)))) (v : Int) : Option (Int) := iter (fun v => (S_zbl_8 k v).ev) v
noncomputable def DL_zbl_8 : LD := ⟨{ acts := [], S := { slots := [0, 1, 4, 12, 13], sh := (.cons (.arr 64) (.cons (.dat yi) (.cons (.clo [y1, y1] yi) (.cons (.dat yi) (.cons (.dat yi) .nil))))), obs := [(64, .perm 22 3 yi)] } }, [(8, { acts := [], S := { slots := [0, 1, 4, 12, 13], sh := (.cons (.arr 64) (.cons (.dat yi) (.cons (.clo [y1, y1] yi) (.cons (.dat yi) (.cons (.dat yi) .nil))))), obs := [(64, .perm 22 3 yi)] } })], (yh [] .nil), Int × (((HL [y1, y1] → Option (Int))) × (Int × ((List Nat) × Y2))), Int, Int, fun k v => (((), (k.1, (k.2.1, (k.2.2.1, (v, ()))))), (k.2.2.2, ())), fun t => (t.1.2.1, (t.1.2.2.1, (t.1.2.2.2.1, t.2.1))), fun t => t.1.2.2.2.2.1, S_zbl_8, fun k r => .l (.exit 8 (mkSt ({ slots := [0, 1, 4, 12, 13], sh := (.cons (.arr 64) (.cons (.dat yi) (.cons (.clo [y1, y1] yi) (.cons (.dat yi) (.cons (.dat yi) .nil))))), obs := [(64, .perm 22 3 yi)] }) (((), (k.1, (k.2.1, (k.2.2.1, (r, ()))))), (k.2.2.2, ()))))⟩
noncomputable def S_zbl_4 (k : Int × ((HL [y1, y1] → Option (Int)))) (v : Int × (Int × ((List Nat) × Y2))) : Tr ((Int × (Int × ((List Nat) × Y2))) ⊕ (Int × ((List Nat) × Y2))) :=
 .c (Int) (L_zbl_6 (k.1, (k.2, (v.2.1, v.2.2))) v.1) fun r41_ =>
 .c (Int) (L_zbl_8 (k.1, (k.2, (r41_, v.2.2))) v.2.1) fun r53_ =>
 .t (decide (r53_ < r41_))
 (.l (.inr (r53_, v.2.2)))
 (.g (inR r53_ (List.length v.2.2.1)) <|
 .g (decide ((Int.toNat r53_) < List.length v.2.2.1) && decide ((List.getD v.2.2.1 (Int.toNat r53_) 0) < List.length v.2.2.2)) <|
 .g (inR r41_ (List.length v.2.2.1)) <|
 .g (decide ((Int.toNat r41_) < List.length v.2.2.1) && decide ((List.getD v.2.2.1 (Int.toNat r41_) 0) < List.length v.2.2.2)) <|
 .g (inR r41_ (List.length v.2.2.1)) <|
 .g (decide ((Int.toNat r41_) < List.length v.2.2.1)) <|
 .g (inR r53_ (List.length (List.set v.2.2.1 (Int.toNat r41_) (List.getD v.2.2.1 (Int.toNat r53_) 0)))) <|
 .g (decide ((Int.toNat r53_) < List.length (List.set v.2.2.1 (Int.toNat r41_) (List.getD v.2.2.1 (Int.toNat r53_) 0)))) <|
 .l (.inl ((IntKind.wrap .i64 (r41_ + (1 : Int))), ((IntKind.wrap .i64 (r53_ - (1 : Int))), ((List.set (List.set v.2.2.1 (Int.toNat r41_) (List.getD v.2.2.1 (Int.toNat r53_) 0)) (Int.toNat r53_) (List.getD v.2.2.1 (Int.toNat r41_) 0)), v.2.2.2)))))
noncomputable def L_zbl_4 (k : Int × ((HL [y1, y1] → Option (Int)))) (v : Int × (Int × ((List Nat) × Y2))) : Option (Int × ((List Nat) × Y2)) := iter (fun v => (S_zbl_4 k v).ev) v
noncomputable def DL_zbl_4 : LD := ⟨{ acts := [], S := { slots := [0, 1, 4, 12, 13], sh := (.cons (.arr 64) (.cons (.dat yi) (.cons (.clo [y1, y1] yi) (.cons (.dat yi) (.cons (.dat yi) .nil))))), obs := [(64, .perm 22 3 yi)] } }, [(4, { acts := [], S := { slots := [0, 1, 13], sh := (.cons (.arr 64) (.cons (.dat yi) (.cons (.dat yi) .nil))), obs := [(64, .perm 22 3 yi)] } })], (yh [] .nil), Int × ((HL [y1, y1] → Option (Int))), Int × (Int × ((List Nat) × Y2)), Int × ((List Nat) × Y2), fun k v => (((), (k.1, (k.2, (v.1, (v.2.1, ()))))), (v.2.2, ())), fun t => (t.1.2.1, t.1.2.2.1), fun t => (t.1.2.2.2.1, (t.1.2.2.2.2.1, t.2.1)), S_zbl_4, fun k r => .l (.exit 4 (mkSt ({ slots := [0, 1, 13], sh := (.cons (.arr 64) (.cons (.dat yi) (.cons (.dat yi) .nil))), obs := [(64, .perm 22 3 yi)] }) (((), (k.1, (r.1, ()))), (r.2, ()))))⟩
noncomputable def T_zbl (a2_ : Int) (a3_ : Int) (a4_ : Int) (a5_ : (HL [y1, y1] → Option (Int))) (a1_ : (List Nat) × Y2) : Tr (Int × (Bool × ((List Nat) × Y2))) :=
 .g (inR a4_ (List.length a1_.1)) <|
 .g (decide ((Int.toNat a4_) < List.length a1_.1) && decide ((List.getD a1_.1 (Int.toNat a4_) 0) < List.length a1_.2)) <|
 .g (inR a2_ (List.length a1_.1)) <|
 .g (decide ((Int.toNat a2_) < List.length a1_.1) && decide ((List.getD a1_.1 (Int.toNat a2_) 0) < List.length a1_.2)) <|
 .g (inR a2_ (List.length a1_.1)) <|
 .g (decide ((Int.toNat a2_) < List.length a1_.1)) <|
 .g (inR a4_ (List.length (List.set a1_.1 (Int.toNat a2_) (List.getD a1_.1 (Int.toNat a4_) 0)))) <|
 .g (decide ((Int.toNat a4_) < List.length (List.set a1_.1 (Int.toNat a2_) (List.getD a1_.1 (Int.toNat a4_) 0)))) <|
 .c (Int) (L_zbl_0 (a2_, (a5_, ((IntKind.wrap .i64 (a3_ - (1 : Int))), ((List.set (List.set a1_.1 (Int.toNat a2_) (List.getD a1_.1 (Int.toNat a4_) 0)) (Int.toNat a4_) (List.getD a1_.1 (Int.toNat a2_) 0)), a1_.2)))) (IntKind.wrap .i64 (a2_ + (1 : Int)))) fun r12_ =>
 .c (Int) (L_zbl_2 (a2_, (a5_, (r12_, ((List.set (List.set a1_.1 (Int.toNat a2_) (List.getD a1_.1 (Int.toNat a4_) 0)) (Int.toNat a4_) (List.getD a1_.1 (Int.toNat a2_) 0)), a1_.2)))) (IntKind.wrap .i64 (a3_ - (1 : Int)))) fun r24_ =>
 .t (decide (r24_ < r12_))
 (.g (inR a2_ (List.length (List.set (List.set a1_.1 (Int.toNat a2_) (List.getD a1_.1 (Int.toNat a4_) 0)) (Int.toNat a4_) (List.getD a1_.1 (Int.toNat a2_) 0)))) <|
 .g (decide ((Int.toNat a2_) < List.length (List.set (List.set a1_.1 (Int.toNat a2_) (List.getD a1_.1 (Int.toNat a4_) 0)) (Int.toNat a4_) (List.getD a1_.1 (Int.toNat a2_) 0))) && decide ((List.getD (List.set (List.set a1_.1 (Int.toNat a2_) (List.getD a1_.1 (Int.toNat a4_) 0)) (Int.toNat a4_) (List.getD a1_.1 (Int.toNat a2_) 0)) (Int.toNat a2_) 0) < List.length a1_.2)) <|
 .g (inR r24_ (List.length (List.set (List.set a1_.1 (Int.toNat a2_) (List.getD a1_.1 (Int.toNat a4_) 0)) (Int.toNat a4_) (List.getD a1_.1 (Int.toNat a2_) 0)))) <|
 .g (decide ((Int.toNat r24_) < List.length (List.set (List.set a1_.1 (Int.toNat a2_) (List.getD a1_.1 (Int.toNat a4_) 0)) (Int.toNat a4_) (List.getD a1_.1 (Int.toNat a2_) 0))) && decide ((List.getD (List.set (List.set a1_.1 (Int.toNat a2_) (List.getD a1_.1 (Int.toNat a4_) 0)) (Int.toNat a4_) (List.getD a1_.1 (Int.toNat a2_) 0)) (Int.toNat r24_) 0) < List.length a1_.2)) <|
 .g (inR r24_ (List.length (List.set (List.set a1_.1 (Int.toNat a2_) (List.getD a1_.1 (Int.toNat a4_) 0)) (Int.toNat a4_) (List.getD a1_.1 (Int.toNat a2_) 0)))) <|
 .g (decide ((Int.toNat r24_) < List.length (List.set (List.set a1_.1 (Int.toNat a2_) (List.getD a1_.1 (Int.toNat a4_) 0)) (Int.toNat a4_) (List.getD a1_.1 (Int.toNat a2_) 0)))) <|
 .g (inR a2_ (List.length (List.set (List.set (List.set a1_.1 (Int.toNat a2_) (List.getD a1_.1 (Int.toNat a4_) 0)) (Int.toNat a4_) (List.getD a1_.1 (Int.toNat a2_) 0)) (Int.toNat r24_) (List.getD (List.set (List.set a1_.1 (Int.toNat a2_) (List.getD a1_.1 (Int.toNat a4_) 0)) (Int.toNat a4_) (List.getD a1_.1 (Int.toNat a2_) 0)) (Int.toNat a2_) 0)))) <|
 .g (decide ((Int.toNat a2_) < List.length (List.set (List.set (List.set a1_.1 (Int.toNat a2_) (List.getD a1_.1 (Int.toNat a4_) 0)) (Int.toNat a4_) (List.getD a1_.1 (Int.toNat a2_) 0)) (Int.toNat r24_) (List.getD (List.set (List.set a1_.1 (Int.toNat a2_) (List.getD a1_.1 (Int.toNat a4_) 0)) (Int.toNat a4_) (List.getD a1_.1 (Int.toNat a2_) 0)) (Int.toNat a2_) 0)))) <|
 .l (r24_, (true, ((List.set (List.set (List.set (List.set a1_.1 (Int.toNat a2_) (List.getD a1_.1 (Int.toNat a4_) 0)) (Int.toNat a4_) (List.getD a1_.1 (Int.toNat a2_) 0)) (Int.toNat r24_) (List.getD (List.set (List.set a1_.1 (Int.toNat a2_) (List.getD a1_.1 (Int.toNat a4_) 0)) (Int.toNat a4_) (List.getD a1_.1 (Int.toNat a2_) 0)) (Int.toNat a2_) 0)) (Int.toNat a2_) (List.getD (List.set (List.set a1_.1 (Int.toNat a2_) (List.getD a1_.1 (Int.toNat a4_) 0)) (Int.toNat a4_) (List.getD a1_.1 (Int.toNat a2_) 0)) (Int.toNat r24_) 0)), a1_.2))))
 (.g (inR r24_ (List.length (List.set (List.set a1_.1 (Int.toNat a2_) (List.getD a1_.1 (Int.toNat a4_) 0)) (Int.toNat a4_) (List.getD a1_.1 (Int.toNat a2_) 0)))) <|
 .g (decide ((Int.toNat r24_) < List.length (List.set (List.set a1_.1 (Int.toNat a2_) (List.getD a1_.1 (Int.toNat a4_) 0)) (Int.toNat a4_) (List.getD a1_.1 (Int.toNat a2_) 0))) && decide ((List.getD (List.set (List.set a1_.1 (Int.toNat a2_) (List.getD a1_.1 (Int.toNat a4_) 0)) (Int.toNat a4_) (List.getD a1_.1 (Int.toNat a2_) 0)) (Int.toNat r24_) 0) < List.length a1_.2)) <|
 .g (inR r12_ (List.length (List.set (List.set a1_.1 (Int.toNat a2_) (List.getD a1_.1 (Int.toNat a4_) 0)) (Int.toNat a4_) (List.getD a1_.1 (Int.toNat a2_) 0)))) <|
 .g (decide ((Int.toNat r12_) < List.length (List.set (List.set a1_.1 (Int.toNat a2_) (List.getD a1_.1 (Int.toNat a4_) 0)) (Int.toNat a4_) (List.getD a1_.1 (Int.toNat a2_) 0))) && decide ((List.getD (List.set (List.set a1_.1 (Int.toNat a2_) (List.getD a1_.1 (Int.toNat a4_) 0)) (Int.toNat a4_) (List.getD a1_.1 (Int.toNat a2_) 0)) (Int.toNat r12_) 0) < List.length a1_.2)) <|
 .g (inR r12_ (List.length (List.set (List.set a1_.1 (Int.toNat a2_) (List.getD a1_.1 (Int.toNat a4_) 0)) (Int.toNat a4_) (List.getD a1_.1 (Int.toNat a2_) 0)))) <|
 .g (decide ((Int.toNat r12_) < List.length (List.set (List.set a1_.1 (Int.toNat a2_) (List.getD a1_.1 (Int.toNat a4_) 0)) (Int.toNat a4_) (List.getD a1_.1 (Int.toNat a2_) 0)))) <|
 .g (inR r24_ (List.length (List.set (List.set (List.set a1_.1 (Int.toNat a2_) (List.getD a1_.1 (Int.toNat a4_) 0)) (Int.toNat a4_) (List.getD a1_.1 (Int.toNat a2_) 0)) (Int.toNat r12_) (List.getD (List.set (List.set a1_.1 (Int.toNat a2_) (List.getD a1_.1 (Int.toNat a4_) 0)) (Int.toNat a4_) (List.getD a1_.1 (Int.toNat a2_) 0)) (Int.toNat r24_) 0)))) <|
 .g (decide ((Int.toNat r24_) < List.length (List.set (List.set (List.set a1_.1 (Int.toNat a2_) (List.getD a1_.1 (Int.toNat a4_) 0)) (Int.toNat a4_) (List.getD a1_.1 (Int.toNat a2_) 0)) (Int.toNat r12_) (List.getD (List.set (List.set a1_.1 (Int.toNat a2_) (List.getD a1_.1 (Int.toNat a4_) 0)) (Int.toNat a4_) (List.getD a1_.1 (Int.toNat a2_) 0)) (Int.toNat r24_) 0)))) <|
 .c (Int × ((List Nat) × Y2)) (L_zbl_4 (a2_, a5_) ((IntKind.wrap .i64 (r12_ + (1 : Int))), ((IntKind.wrap .i64 (r24_ - (1 : Int))), ((List.set (List.set (List.set (List.set a1_.1 (Int.toNat a2_) (List.getD a1_.1 (Int.toNat a4_) 0)) (Int.toNat a4_) (List.getD a1_.1 (Int.toNat a2_) 0)) (Int.toNat r12_) (List.getD (List.set (List.set a1_.1 (Int.toNat a2_) (List.getD a1_.1 (Int.toNat a4_) 0)) (Int.toNat a4_) (List.getD a1_.1 (Int.toNat a2_) 0)) (Int.toNat r24_) 0)) (Int.toNat r24_) (List.getD (List.set (List.set a1_.1 (Int.toNat a2_) (List.getD a1_.1 (Int.toNat a4_) 0)) (Int.toNat a4_) (List.getD a1_.1 (Int.toNat a2_) 0)) (Int.toNat r12_) 0)), a1_.2)))) fun r57_ =>
 .g (inR a2_ (List.length r57_.2.1)) <|
 .g (decide ((Int.toNat a2_) < List.length r57_.2.1) && decide ((List.getD r57_.2.1 (Int.toNat a2_) 0) < List.length r57_.2.2)) <|
 .g (inR r57_.1 (List.length r57_.2.1)) <|
 .g (decide ((Int.toNat r57_.1) < List.length r57_.2.1) && decide ((List.getD r57_.2.1 (Int.toNat r57_.1) 0) < List.length r57_.2.2)) <|
 .g (inR r57_.1 (List.length r57_.2.1)) <|
 .g (decide ((Int.toNat r57_.1) < List.length r57_.2.1)) <|
 .g (inR a2_ (List.length (List.set r57_.2.1 (Int.toNat r57_.1) (List.getD r57_.2.1 (Int.toNat a2_) 0)))) <|
 .g (decide ((Int.toNat a2_) < List.length (List.set r57_.2.1 (Int.toNat r57_.1) (List.getD r57_.2.1 (Int.toNat a2_) 0)))) <|
 .l (r57_.1, (false, ((List.set (List.set r57_.2.1 (Int.toNat r57_.1) (List.getD r57_.2.1 (Int.toNat a2_) 0)) (Int.toNat a2_) (List.getD r57_.2.1 (Int.toNat r57_.1) 0)), r57_.2.2))))
noncomputable def F_zbl (a2_ : Int) (a3_ : Int) (a4_ : Int) (a5_ : (HL [y1, y1] → Option (Int))) (a1_ : (List Nat) × Y2) : Option (Int × (Bool × ((List Nat) × Y2))) := (T_zbl a2_ a3_ a4_ a5_ a1_).ev
noncomputable def A_zbl : Sh := (.cons (.arr 64) (.cons (.dat yi) (.cons (.dat yi) (.cons (.dat yi) (.cons (.clo [y1, y1] yi) .nil)))))
noncomputable def I_zbl : List (Nat × OSh) := [(64, .perm 22 3 yi)]
noncomputable def K_zbl : RetK := { acts := [], res := [.tmp 10, .tmp 11], sh := (.cons (.dat yi) (.cons (.dat .bool) .nil)), obs := [(64, .perm 22 3 yi)], pins := [(0, 0, 64)] }
noncomputable def D_zbl : FD := ⟨A_zbl, I_zbl, [.arg 0], Int × (Bool × ((List Nat) × Y2)), fun x => F_zbl x.1.2.1 x.1.2.2.1 x.1.2.2.2.1 x.1.2.2.2.2.1 x.2.1, fun r => ([.dat yi r.1, .dat .bool r.2.1], [(64, .perm false 22 3 yi r.2.2.1 r.2.2.2)])⟩
noncomputable def E_zbl : Env := envOf []
noncomputable def Z_zbl : Nat → Nat → List Nat := fun _ _ => []
noncomputable def O_zbl : List (Nat × LD) := [(0, DL_zbl_0), (2, DL_zbl_2), (6, DL_zbl_6), (8, DL_zbl_8), (4, DL_zbl_4)]
noncomputable def C_zbl : Code := (f93.body).getD .skip
end Go.Proofs.Ytbofjefpngpegaa
