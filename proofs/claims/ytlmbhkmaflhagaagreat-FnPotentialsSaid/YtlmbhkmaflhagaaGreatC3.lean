import Derived.Test.YtlmbhkmaflhagaaGreatB37
import Derived.Test.YtlmbhkmaflhagaaGreatProg
namespace Go.Proofs.YtlmbhkmaflhagaaGreat
open Go.Proofs.Tryz
abbrev yi : Ty := .int .i64
abbrev y1 : Ty := .slice yi
abbrev y2 : Ty := .slice y1
abbrev y3 : Ty := .slice y2
abbrev Y1 : Type := List Int
abbrev Y2 : Type := List Y1
abbrev Y3 : Type := List Y2
abbrev yh (l : List Nat) (s : Sh) : Keep := { acts := [], S := { slots := l, sh := s, obs := [] } }
abbrev ys (l : List Nat) (s : Sh) : SSh := { slots := l, sh := s, obs := [] }
theorem yn {α : Type _} {p : α → Prop} : ∀ x, x ∈ ([] : List α) → p x := fun _ h => absurd h List.not_mem_nil
theorem yc {α : Type _} {p : α → Prop} {a : α} {l : List α} (h : p a ∧ ∀ x, x ∈ l → p x) : ∀ x, x ∈ a :: l → p x := List.forall_mem_cons.2 h
noncomputable def tabl : List (Nat × TD) := [(3, .sc yi), (4, .sc .bool), (5, .sc (.int .u8)), (9, .sc .str), (22, .sl 5 (.int .u8) 1), (24, .sl 3 yi 8), (25, .sl 28 y2 24), (27, .st (.pair y1 (.pair y1 (.pair y1 y3))) [(24, y1), (24, y1), (24, y1), (25, y3)]), (28, .sl 24 y1 24), (51, .sc (.int .u64)), (53, .st (.pair (.slice (.int .u8)) (.pair yi (.int .u64))) [(22, (.slice (.int .u8))), (3, yi), (51, (.int .u64))]), (64, .sc (.int .u64)), (65, .sc (.int .u64)), (87, .st (.pair y1 y2) [(24, y1), (28, y2)])]
noncomputable def tt : Nat → TD := fun i => match look tabl i with
 | some d => d
 | none => .no
noncomputable def T_zaq (a1_ : Y1) : Tr (Bool) :=
 .l (decide ((65536 : Int) < ((List.length a1_ : Nat) : Int)))
noncomputable def F_zaq (a1_ : Y1) : Option (Bool) := (T_zaq a1_).ev
noncomputable def A_zaq : Sh := (.cons (.dat (.slice (.int .u8))) .nil)
noncomputable def I_zaq : List (Nat × OSh) := []
noncomputable def K_zaq : RetK := { acts := [], res := [.tmp 2], sh := (.cons (.dat .bool) .nil), obs := [], pins := [] }
noncomputable def D_zaq : FD := ⟨A_zaq, I_zaq, [], Bool, fun x => F_zaq x.1.1, fun r => ([.dat .bool r], [])⟩
noncomputable def E_zaq : Env := envOf []
noncomputable def Z_zaq : Nat → Nat → List Nat := fun _ _ => []
noncomputable def O_zaq : List (Nat × LD) := []
noncomputable def C_zaq : Code := (f5.body).getD .skip
noncomputable def T_zcf (a1_ : Y1) (a2_ : Int) (a3_ : Int) : Tr (Int × (Y1 × (Int × Int))) :=
 .t (decide (a2_ < ((List.length a1_ : Nat) : Int)))
 (.g (inR a2_ (List.length a1_)) <|
 .t (decide ((IntKind.wrap .i64 (a2_ + (1 : Int))) ≤ ((List.length a1_ : Nat) : Int)))
 (.l ((IntKind.wrap .i64 (List.getD a1_ (Int.toNat a2_) (0 : Int))), (a1_, ((IntKind.wrap .i64 (a2_ + (1 : Int))), (IntKind.wrap .u64 ((IntKind.wrap .u64 ((IntKind.wrap .u64 (a3_ * (6364136223846793005 : Int))) + (IntKind.wrap .u64 (IntKind.wrap .i64 (List.getD a1_ (Int.toNat a2_) (0 : Int)))))) + (462197 : Int)))))))
 (.g (decide ((0 : Int) ≤ (40 : Int))) <|
 .l ((IntKind.wrap .i64 (IntKind.wrap .u64 (BitVec.toNat ((BitVec.ofInt (IntKind.bits .u64) (Int.fdiv (IntKind.wrap .u64 ((IntKind.wrap .u64 ((IntKind.wrap .u64 (a3_ * (6364136223846793005 : Int))) + (IntKind.wrap .u64 (IntKind.wrap .i64 (List.getD a1_ (Int.toNat a2_) (0 : Int)))))) + (462197 : Int))) (2 ^ (min (Int.toNat (40 : Int)) (IntKind.bits .u64))))) &&& (BitVec.ofInt (IntKind.bits .u64) (255 : Int)))))), (a1_, ((IntKind.wrap .i64 (a2_ + (1 : Int))), (IntKind.wrap .u64 ((IntKind.wrap .u64 ((IntKind.wrap .u64 (a3_ * (6364136223846793005 : Int))) + (IntKind.wrap .u64 (IntKind.wrap .i64 (List.getD a1_ (Int.toNat a2_) (0 : Int)))))) + (462197 : Int))))))))
 (.t (decide ((IntKind.wrap .i64 (a2_ + (1 : Int))) ≤ ((List.length a1_ : Nat) : Int)))
 (.l ((0 : Int), (a1_, ((IntKind.wrap .i64 (a2_ + (1 : Int))), (IntKind.wrap .u64 ((IntKind.wrap .u64 ((IntKind.wrap .u64 (a3_ * (6364136223846793005 : Int))) + (IntKind.wrap .u64 (0 : Int)))) + (462197 : Int)))))))
 (.g (decide ((0 : Int) ≤ (40 : Int))) <|
 .l ((IntKind.wrap .i64 (IntKind.wrap .u64 (BitVec.toNat ((BitVec.ofInt (IntKind.bits .u64) (Int.fdiv (IntKind.wrap .u64 ((IntKind.wrap .u64 ((IntKind.wrap .u64 (a3_ * (6364136223846793005 : Int))) + (IntKind.wrap .u64 (0 : Int)))) + (462197 : Int))) (2 ^ (min (Int.toNat (40 : Int)) (IntKind.bits .u64))))) &&& (BitVec.ofInt (IntKind.bits .u64) (255 : Int)))))), (a1_, ((IntKind.wrap .i64 (a2_ + (1 : Int))), (IntKind.wrap .u64 ((IntKind.wrap .u64 ((IntKind.wrap .u64 (a3_ * (6364136223846793005 : Int))) + (IntKind.wrap .u64 (0 : Int)))) + (462197 : Int))))))))
noncomputable def F_zcf (a1_ : Y1) (a2_ : Int) (a3_ : Int) : Option (Int × (Y1 × (Int × Int))) := (T_zcf a1_ a2_ a3_).ev
noncomputable def A_zcf : Sh := (.cons (.box 64 0) .nil)
noncomputable def I_zcf : List (Nat × OSh) := [(64, .cells (.cons (.dat (.slice (.int .u8))) (.cons (.dat yi) (.cons (.dat (.int .u64)) .nil))))]
noncomputable def K_zcf : RetK := { acts := [], res := [.tmp 2], sh := (.cons (.dat yi) .nil), obs := [(64, .cells (.cons (.dat (.slice (.int .u8))) (.cons (.dat yi) (.cons (.dat (.int .u64)) .nil))))], pins := [(0, 0, 64)] }
noncomputable def D_zcf : FD := ⟨A_zcf, I_zcf, [.arg 0], Int × (Y1 × (Int × Int)), fun x => F_zcf x.2.1.1 x.2.1.2.1 x.2.1.2.2.1, fun r => ([.dat yi r.1], [(64, .cells [.dat (.slice (.int .u8)) r.2.1, .dat yi r.2.2.1, .dat (.int .u64) r.2.2.2])])⟩
noncomputable def E_zcf : Env := envOf []
noncomputable def Z_zcf : Nat → Nat → List Nat := fun _ _ => []
noncomputable def O_zcf : List (Nat × LD) := []
noncomputable def C_zcf : Code := (f103.body).getD .skip
noncomputable def T_zch (a4_ : Int) (a1_ : Y1) (a2_ : Int) (a3_ : Int) : Tr (Int × (Y1 × (Int × Int))) :=
 .t (decide (a4_ ≤ (1 : Int)))
 (.l ((0 : Int), (a1_, (a2_, a3_))))
 (.c (Int × (Y1 × (Int × Int))) (F_zcf a1_ a2_ a3_) fun r1_ =>
 .t (decide ((200 : Int) < a4_))
 (.c (Int × (Y1 × (Int × Int))) (F_zcf r1_.2.1 r1_.2.2.1 r1_.2.2.2) fun r2_ =>
 .g (!decide (a4_ = 0)) <|
 .l ((Int.tmod (IntKind.wrap .i64 ((IntKind.wrap .i64 (r1_.1 * (256 : Int))) + r2_.1)) a4_), (r2_.2.1, (r2_.2.2.1, r2_.2.2.2))))
 (.g (!decide (a4_ = 0)) <|
 .l ((Int.tmod r1_.1 a4_), (r1_.2.1, (r1_.2.2.1, r1_.2.2.2)))))
noncomputable def F_zch (a4_ : Int) (a1_ : Y1) (a2_ : Int) (a3_ : Int) : Option (Int × (Y1 × (Int × Int))) := (T_zch a4_ a1_ a2_ a3_).ev
noncomputable def A_zch : Sh := (.cons (.box 64 0) (.cons (.dat yi) .nil))
noncomputable def I_zch : List (Nat × OSh) := [(64, .cells (.cons (.dat (.slice (.int .u8))) (.cons (.dat yi) (.cons (.dat (.int .u64)) .nil))))]
noncomputable def K_zch : RetK := { acts := [], res := [.tmp 4], sh := (.cons (.dat yi) .nil), obs := [(64, .cells (.cons (.dat (.slice (.int .u8))) (.cons (.dat yi) (.cons (.dat (.int .u64)) .nil))))], pins := [(0, 0, 64)] }
noncomputable def D_zch : FD := ⟨A_zch, I_zch, [.arg 0], Int × (Y1 × (Int × Int)), fun x => F_zch x.1.2.1 x.2.1.1 x.2.1.2.1 x.2.1.2.2.1, fun r => ([.dat yi r.1], [(64, .cells [.dat (.slice (.int .u8)) r.2.1, .dat yi r.2.2.1, .dat (.int .u64) r.2.2.2])])⟩
noncomputable def E_zch : Env := envOf [(103, D_zcf)]
noncomputable def Z_zch : Nat → Nat → List Nat := fun _ _ => []
noncomputable def O_zch : List (Nat × LD) := []
noncomputable def C_zch : Code := (f78.body).getD .skip
noncomputable def T_zce (a4_ : Y1) (a1_ : Y1) (a2_ : Int) (a3_ : Int) : Tr (Int × (Y1 × (Int × Int))) :=
 .c (Int × (Y1 × (Int × Int))) (F_zch ((List.length a4_ : Nat) : Int) a1_ a2_ a3_) fun r1_ =>
 .g (inR r1_.1 (List.length a4_)) <|
 .l ((List.getD a4_ (Int.toNat r1_.1) (0 : Int)), (r1_.2.1, (r1_.2.2.1, r1_.2.2.2)))
noncomputable def F_zce (a4_ : Y1) (a1_ : Y1) (a2_ : Int) (a3_ : Int) : Option (Int × (Y1 × (Int × Int))) := (T_zce a4_ a1_ a2_ a3_).ev
noncomputable def A_zce : Sh := (.cons (.box 64 0) (.cons (.dat y1) .nil))
noncomputable def I_zce : List (Nat × OSh) := [(64, .cells (.cons (.dat (.slice (.int .u8))) (.cons (.dat yi) (.cons (.dat (.int .u64)) .nil))))]
noncomputable def K_zce : RetK := { acts := [], res := [.tmp 4], sh := (.cons (.dat yi) .nil), obs := [(64, .cells (.cons (.dat (.slice (.int .u8))) (.cons (.dat yi) (.cons (.dat (.int .u64)) .nil))))], pins := [(0, 0, 64)] }
noncomputable def D_zce : FD := ⟨A_zce, I_zce, [.arg 0], Int × (Y1 × (Int × Int)), fun x => F_zce x.1.2.1 x.2.1.1 x.2.1.2.1 x.2.1.2.2.1, fun r => ([.dat yi r.1], [(64, .cells [.dat (.slice (.int .u8)) r.2.1, .dat yi r.2.2.1, .dat (.int .u64) r.2.2.2])])⟩
noncomputable def E_zce : Env := envOf [(78, D_zch)]
noncomputable def Z_zce : Nat → Nat → List Nat := fun _ _ => []
noncomputable def O_zce : List (Nat × LD) := []
noncomputable def C_zce : Code := (f79.body).getD .skip
noncomputable def S_zck_0 (k : Int × (Y1 × (Y1 × Y1))) (v : Int × (Y1 × (Int × (Int × (Y1 × (Y1 × Y1)))))) : Tr ((Int × (Y1 × (Int × (Int × (Y1 × (Y1 × Y1)))))) ⊕ (Y1 × (Int × (Int × (Y1 × (Y1 × Y1)))))) :=
 .t (decide (v.1 < k.1))
 (.c (Int × (Y1 × (Int × Int))) (F_zch (10 : Int) v.2.1 v.2.2.1 v.2.2.2.1) fun r13_ =>
 .g (decide ((List.length v.2.2.2.2.1 + List.length ([r13_.1] : Y1)) * 8 ≤ 140737488355328)) <|
 .c (Int × (Y1 × (Int × Int))) (F_zch (4 : Int) r13_.2.1 r13_.2.2.1 r13_.2.2.2) fun r14_ =>
 .g (decide ((List.length v.2.2.2.2.2.1 + List.length ([r14_.1] : Y1)) * 8 ≤ 140737488355328)) <|
 .c (Int × (Y1 × (Int × Int))) (F_zch (4 : Int) r14_.2.1 r14_.2.2.1 r14_.2.2.2) fun r15_ =>
 .g (decide ((List.length v.2.2.2.2.2.2 + List.length ([r15_.1] : Y1)) * 8 ≤ 140737488355328)) <|
 .l (.inl ((IntKind.wrap .i64 (v.1 + (1 : Int))), (r15_.2.1, (r15_.2.2.1, (r15_.2.2.2, ((v.2.2.2.2.1 ++ ([r13_.1] : Y1)), ((v.2.2.2.2.2.1 ++ ([r14_.1] : Y1)), (v.2.2.2.2.2.2 ++ ([r15_.1] : Y1))))))))))
 (.l (.inr (v.2.1, (v.2.2.1, (v.2.2.2.1, (v.2.2.2.2.1, (v.2.2.2.2.2.1, v.2.2.2.2.2.2)))))))
noncomputable def L_zck_0 (k : Int × (Y1 × (Y1 × Y1))) (v : Int × (Y1 × (Int × (Int × (Y1 × (Y1 × Y1)))))) : Option (Y1 × (Int × (Int × (Y1 × (Y1 × Y1))))) := iter (fun v => (S_zck_0 k v).ev) v
noncomputable def DL_zck_0 : LD := ⟨{ acts := [.ownB 2 0 900320 3 yi, .ownB 2 1 900321 3 yi, .ownB 2 2 900322 3 yi, .ownB 3 0 900330 3 yi, .ownB 3 1 900331 3 yi, .ownB 3 2 900332 3 yi], S := { slots := [0, 2, 3, 4, 5], sh := (.cons (.box 64 0) (.cons (.box 2 0) (.cons (.box 3 0) (.cons (.dat yi) (.cons (.dat yi) .nil))))), obs := [(64, .cells (.cons (.dat (.slice (.int .u8))) (.cons (.dat yi) (.cons (.dat (.int .u64)) .nil)))), (2, .cells (.cons (.arr 900320) (.cons (.arr 900321) (.cons (.arr 900322) (.cons .nilsl .nil))))), (3, .cells (.cons (.arr 900330) (.cons (.arr 900331) (.cons (.arr 900332) (.cons .nilsl .nil))))), (900320, .arr 3 yi), (900321, .arr 3 yi), (900322, .arr 3 yi), (900330, .arr 3 yi), (900331, .arr 3 yi), (900332, .arr 3 yi)] } }, [(0, { acts := [], S := { slots := [0, 2, 3, 4], sh := (.cons (.box 64 0) (.cons (.box 2 0) (.cons (.box 3 0) (.cons (.dat yi) .nil)))), obs := [(64, .cells (.cons (.dat (.slice (.int .u8))) (.cons (.dat yi) (.cons (.dat (.int .u64)) .nil)))), (2, .cells (.cons (.arr 900320) (.cons (.arr 900321) (.cons (.arr 900322) (.cons .nilsl .nil))))), (3, .cells (.cons (.arr 900330) (.cons (.arr 900331) (.cons (.arr 900332) (.cons .nilsl .nil))))), (900320, .arr 3 yi), (900321, .arr 3 yi), (900322, .arr 3 yi), (900330, .arr 3 yi), (900331, .arr 3 yi), (900332, .arr 3 yi)] } })], (yh [] .nil), Int × (Y1 × (Y1 × Y1)), Int × (Y1 × (Int × (Int × (Y1 × (Y1 × Y1))))), Y1 × (Int × (Int × (Y1 × (Y1 × Y1)))), fun k v => (((), ((), ((), (k.1, (v.1, ()))))), ((v.2.1, (v.2.2.1, (v.2.2.2.1, ()))), (((), ((), ((), ((), ())))), (((), ((), ((), ((), ())))), (k.2.1, (k.2.2.1, (k.2.2.2, (v.2.2.2.2.1, (v.2.2.2.2.2.1, (v.2.2.2.2.2.2, ())))))))))), fun t => (t.1.2.2.2.1, (t.2.2.2.2.1, (t.2.2.2.2.2.1, t.2.2.2.2.2.2.1))), fun t => (t.1.2.2.2.2.1, (t.2.1.1, (t.2.1.2.1, (t.2.1.2.2.1, (t.2.2.2.2.2.2.2.1, (t.2.2.2.2.2.2.2.2.1, t.2.2.2.2.2.2.2.2.2.1)))))), S_zck_0, fun k r => .l (.exit 0 (mkSt ({ slots := [0, 2, 3, 4], sh := (.cons (.box 64 0) (.cons (.box 2 0) (.cons (.box 3 0) (.cons (.dat yi) .nil)))), obs := [(64, .cells (.cons (.dat (.slice (.int .u8))) (.cons (.dat yi) (.cons (.dat (.int .u64)) .nil)))), (2, .cells (.cons (.arr 900320) (.cons (.arr 900321) (.cons (.arr 900322) (.cons .nilsl .nil))))), (3, .cells (.cons (.arr 900330) (.cons (.arr 900331) (.cons (.arr 900332) (.cons .nilsl .nil))))), (900320, .arr 3 yi), (900321, .arr 3 yi), (900322, .arr 3 yi), (900330, .arr 3 yi), (900331, .arr 3 yi), (900332, .arr 3 yi)] }) (((), ((), ((), (k.1, ())))), ((r.1, (r.2.1, (r.2.2.1, ()))), (((), ((), ((), ((), ())))), (((), ((), ((), ((), ())))), (k.2.1, (k.2.2.1, (k.2.2.2, (r.2.2.2.1, (r.2.2.2.2.1, (r.2.2.2.2.2, ()))))))))))))⟩
noncomputable def S_zck_6 (k : Int × (Int × (Int × (Y2 × (Y1 × (Y1 × (Y1 × (Y3 × (Y1 × (Y1 × (Y1 × Y3))))))))))) (v : Int × (Y1 × (Int × (Int × Y1)))) : Tr ((Int × (Y1 × (Int × (Int × Y1)))) ⊕ (Y1 × (Int × (Int × Y1)))) :=
 .t (decide (v.1 < k.1))
 (.c (Int × (Y1 × (Int × Int))) (F_zch (12 : Int) v.2.1 v.2.2.1 v.2.2.2.1) fun r74_ =>
 .g (decide ((List.length v.2.2.2.2 + List.length ([r74_.1] : Y1)) * 8 ≤ 140737488355328)) <|
 .l (.inl ((IntKind.wrap .i64 (v.1 + (1 : Int))), (r74_.2.1, (r74_.2.2.1, (r74_.2.2.2, (v.2.2.2.2 ++ ([r74_.1] : Y1))))))))
 (.l (.inr (v.2.1, (v.2.2.1, (v.2.2.2.1, v.2.2.2.2)))))
noncomputable def L_zck_6 (k : Int × (Int × (Int × (Y2 × (Y1 × (Y1 × (Y1 × (Y3 × (Y1 × (Y1 × (Y1 × Y3))))))))))) (v : Int × (Y1 × (Int × (Int × Y1)))) : Option (Y1 × (Int × (Int × Y1))) := iter (fun v => (S_zck_6 k v).ev) v
noncomputable def DL_zck_6 : LD := ⟨{ acts := [], S := { slots := [0, 2, 3, 4, 6, 7, 8, 9, 10], sh := (.cons (.box 64 0) (.cons (.box 2 0) (.cons (.box 3 0) (.cons (.dat yi) (.cons (.dat yi) (.cons (.arr 48) (.cons (.dat yi) (.cons (.arr 56) (.cons (.dat yi) .nil))))))))), obs := [(64, .cells (.cons (.dat (.slice (.int .u8))) (.cons (.dat yi) (.cons (.dat (.int .u64)) .nil)))), (2, .cells (.cons (.arr 900320) (.cons (.arr 900321) (.cons (.arr 900322) (.cons (.arr 902323) .nil))))), (3, .cells (.cons (.arr 900330) (.cons (.arr 900331) (.cons (.arr 900332) (.cons (.arr 902333) .nil))))), (48, .rows 24 3 yi), (56, .arr 3 yi), (900320, .arr 3 yi), (900321, .arr 3 yi), (900322, .arr 3 yi), (902323, .arr 28 y2), (900330, .arr 3 yi), (900331, .arr 3 yi), (900332, .arr 3 yi), (902333, .arr 28 y2)] } }, [(6, { acts := [], S := { slots := [0, 2, 3, 4, 6, 7, 8, 9], sh := (.cons (.box 64 0) (.cons (.box 2 0) (.cons (.box 3 0) (.cons (.dat yi) (.cons (.dat yi) (.cons (.arr 48) (.cons (.dat yi) (.cons (.arr 56) .nil)))))))), obs := [(64, .cells (.cons (.dat (.slice (.int .u8))) (.cons (.dat yi) (.cons (.dat (.int .u64)) .nil)))), (2, .cells (.cons (.arr 900320) (.cons (.arr 900321) (.cons (.arr 900322) (.cons (.arr 902323) .nil))))), (3, .cells (.cons (.arr 900330) (.cons (.arr 900331) (.cons (.arr 900332) (.cons (.arr 902333) .nil))))), (48, .rows 24 3 yi), (56, .arr 3 yi), (900320, .arr 3 yi), (900321, .arr 3 yi), (900322, .arr 3 yi), (902323, .arr 28 y2), (900330, .arr 3 yi), (900331, .arr 3 yi), (900332, .arr 3 yi), (902333, .arr 28 y2)] } })], (yh [] .nil), Int × (Int × (Int × (Y2 × (Y1 × (Y1 × (Y1 × (Y3 × (Y1 × (Y1 × (Y1 × Y3)))))))))), Int × (Y1 × (Int × (Int × Y1))), Y1 × (Int × (Int × Y1)), fun k v => (((), ((), ((), (k.1, (k.2.1, ((), (k.2.2.1, ((), (v.1, ()))))))))), ((v.2.1, (v.2.2.1, (v.2.2.2.1, ()))), (((), ((), ((), ((), ())))), (((), ((), ((), ((), ())))), (k.2.2.2.1, (v.2.2.2.2, (k.2.2.2.2.1, (k.2.2.2.2.2.1, (k.2.2.2.2.2.2.1, (k.2.2.2.2.2.2.2.1, (k.2.2.2.2.2.2.2.2.1, (k.2.2.2.2.2.2.2.2.2.1, (k.2.2.2.2.2.2.2.2.2.2.1, (k.2.2.2.2.2.2.2.2.2.2.2, ())))))))))))))), fun t => (t.1.2.2.2.1, (t.1.2.2.2.2.1, (t.1.2.2.2.2.2.2.1, (t.2.2.2.2.1, (t.2.2.2.2.2.2.1, (t.2.2.2.2.2.2.2.1, (t.2.2.2.2.2.2.2.2.1, (t.2.2.2.2.2.2.2.2.2.1, (t.2.2.2.2.2.2.2.2.2.2.1, (t.2.2.2.2.2.2.2.2.2.2.2.1, (t.2.2.2.2.2.2.2.2.2.2.2.2.1, t.2.2.2.2.2.2.2.2.2.2.2.2.2.1))))))))))), fun t => (t.1.2.2.2.2.2.2.2.2.1, (t.2.1.1, (t.2.1.2.1, (t.2.1.2.2.1, t.2.2.2.2.2.1)))), S_zck_6, fun k r => .l (.exit 6 (mkSt ({ slots := [0, 2, 3, 4, 6, 7, 8, 9], sh := (.cons (.box 64 0) (.cons (.box 2 0) (.cons (.box 3 0) (.cons (.dat yi) (.cons (.dat yi) (.cons (.arr 48) (.cons (.dat yi) (.cons (.arr 56) .nil)))))))), obs := [(64, .cells (.cons (.dat (.slice (.int .u8))) (.cons (.dat yi) (.cons (.dat (.int .u64)) .nil)))), (2, .cells (.cons (.arr 900320) (.cons (.arr 900321) (.cons (.arr 900322) (.cons (.arr 902323) .nil))))), (3, .cells (.cons (.arr 900330) (.cons (.arr 900331) (.cons (.arr 900332) (.cons (.arr 902333) .nil))))), (48, .rows 24 3 yi), (56, .arr 3 yi), (900320, .arr 3 yi), (900321, .arr 3 yi), (900322, .arr 3 yi), (902323, .arr 28 y2), (900330, .arr 3 yi), (900331, .arr 3 yi), (900332, .arr 3 yi), (902333, .arr 28 y2)] }) (((), ((), ((), (k.1, (k.2.1, ((), (k.2.2.1, ((), ())))))))), ((r.1, (r.2.1, (r.2.2.1, ()))), (((), ((), ((), ((), ())))), (((), ((), ((), ((), ())))), (k.2.2.2.1, (r.2.2.2, (k.2.2.2.2.1, (k.2.2.2.2.2.1, (k.2.2.2.2.2.2.1, (k.2.2.2.2.2.2.2.1, (k.2.2.2.2.2.2.2.2.1, (k.2.2.2.2.2.2.2.2.2.1, (k.2.2.2.2.2.2.2.2.2.2.1, (k.2.2.2.2.2.2.2.2.2.2.2, ()))))))))))))))))⟩
noncomputable def S_zck_4 (k : Int × (Int × (Y1 × (Y1 × (Y1 × (Y3 × (Y1 × (Y1 × (Y1 × Y3))))))))) (v : Int × (Y1 × (Int × (Int × Y2)))) : Tr ((Int × (Y1 × (Int × (Int × Y2)))) ⊕ (Y1 × (Int × (Int × Y2)))) :=
 .t (decide ((0 : Int) < v.1))
 (.c (Y1 × (Int × (Int × Y1))) (L_zck_6 (k.1, (k.2.1, (v.1, (v.2.2.2.2, (k.2.2.1, (k.2.2.2.1, (k.2.2.2.2.1, (k.2.2.2.2.2.1, (k.2.2.2.2.2.2.1, (k.2.2.2.2.2.2.2.1, (k.2.2.2.2.2.2.2.2.1, k.2.2.2.2.2.2.2.2.2))))))))))) ((0 : Int), (v.2.1, (v.2.2.1, (v.2.2.2.1, ([] : Y1)))))) fun r91_ =>
 .g (decide ((List.length v.2.2.2.2 + 1) * 24 ≤ 140737488355328)) <|
 .l (.inl ((IntKind.wrap .i64 (v.1 - (1 : Int))), (r91_.1, (r91_.2.1, (r91_.2.2.1, (List.set (v.2.2.2.2 ++ [[]]) (List.length v.2.2.2.2) r91_.2.2.2)))))))
 (.l (.inr (v.2.1, (v.2.2.1, (v.2.2.2.1, v.2.2.2.2)))))
noncomputable def L_zck_4 (k : Int × (Int × (Y1 × (Y1 × (Y1 × (Y3 × (Y1 × (Y1 × (Y1 × Y3))))))))) (v : Int × (Y1 × (Int × (Int × Y2)))) : Option (Y1 × (Int × (Int × Y2))) := iter (fun v => (S_zck_4 k v).ev) v
noncomputable def DL_zck_4 : LD := ⟨{ acts := [], S := { slots := [0, 2, 3, 4, 6, 7, 8], sh := (.cons (.box 64 0) (.cons (.box 2 0) (.cons (.box 3 0) (.cons (.dat yi) (.cons (.dat yi) (.cons (.arr 48) (.cons (.dat yi) .nil))))))), obs := [(64, .cells (.cons (.dat (.slice (.int .u8))) (.cons (.dat yi) (.cons (.dat (.int .u64)) .nil)))), (2, .cells (.cons (.arr 900320) (.cons (.arr 900321) (.cons (.arr 900322) (.cons (.arr 902323) .nil))))), (3, .cells (.cons (.arr 900330) (.cons (.arr 900331) (.cons (.arr 900332) (.cons (.arr 902333) .nil))))), (48, .rows 24 3 yi), (900320, .arr 3 yi), (900321, .arr 3 yi), (900322, .arr 3 yi), (902323, .arr 28 y2), (900330, .arr 3 yi), (900331, .arr 3 yi), (900332, .arr 3 yi), (902333, .arr 28 y2)] } }, [(4, { acts := [], S := { slots := [0, 2, 3, 4, 6, 7], sh := (.cons (.box 64 0) (.cons (.box 2 0) (.cons (.box 3 0) (.cons (.dat yi) (.cons (.dat yi) (.cons (.arr 48) .nil)))))), obs := [(64, .cells (.cons (.dat (.slice (.int .u8))) (.cons (.dat yi) (.cons (.dat (.int .u64)) .nil)))), (2, .cells (.cons (.arr 900320) (.cons (.arr 900321) (.cons (.arr 900322) (.cons (.arr 902323) .nil))))), (3, .cells (.cons (.arr 900330) (.cons (.arr 900331) (.cons (.arr 900332) (.cons (.arr 902333) .nil))))), (48, .rows 24 3 yi), (900320, .arr 3 yi), (900321, .arr 3 yi), (900322, .arr 3 yi), (902323, .arr 28 y2), (900330, .arr 3 yi), (900331, .arr 3 yi), (900332, .arr 3 yi), (902333, .arr 28 y2)] } })], (yh [] .nil), Int × (Int × (Y1 × (Y1 × (Y1 × (Y3 × (Y1 × (Y1 × (Y1 × Y3)))))))), Int × (Y1 × (Int × (Int × Y2))), Y1 × (Int × (Int × Y2)), fun k v => (((), ((), ((), (k.1, (k.2.1, ((), (v.1, ()))))))), ((v.2.1, (v.2.2.1, (v.2.2.2.1, ()))), (((), ((), ((), ((), ())))), (((), ((), ((), ((), ())))), (v.2.2.2.2, (k.2.2.1, (k.2.2.2.1, (k.2.2.2.2.1, (k.2.2.2.2.2.1, (k.2.2.2.2.2.2.1, (k.2.2.2.2.2.2.2.1, (k.2.2.2.2.2.2.2.2.1, (k.2.2.2.2.2.2.2.2.2, ()))))))))))))), fun t => (t.1.2.2.2.1, (t.1.2.2.2.2.1, (t.2.2.2.2.2.1, (t.2.2.2.2.2.2.1, (t.2.2.2.2.2.2.2.1, (t.2.2.2.2.2.2.2.2.1, (t.2.2.2.2.2.2.2.2.2.1, (t.2.2.2.2.2.2.2.2.2.2.1, (t.2.2.2.2.2.2.2.2.2.2.2.1, t.2.2.2.2.2.2.2.2.2.2.2.2.1))))))))), fun t => (t.1.2.2.2.2.2.2.1, (t.2.1.1, (t.2.1.2.1, (t.2.1.2.2.1, t.2.2.2.2.1)))), S_zck_4, fun k r => .l (.exit 4 (mkSt ({ slots := [0, 2, 3, 4, 6, 7], sh := (.cons (.box 64 0) (.cons (.box 2 0) (.cons (.box 3 0) (.cons (.dat yi) (.cons (.dat yi) (.cons (.arr 48) .nil)))))), obs := [(64, .cells (.cons (.dat (.slice (.int .u8))) (.cons (.dat yi) (.cons (.dat (.int .u64)) .nil)))), (2, .cells (.cons (.arr 900320) (.cons (.arr 900321) (.cons (.arr 900322) (.cons (.arr 902323) .nil))))), (3, .cells (.cons (.arr 900330) (.cons (.arr 900331) (.cons (.arr 900332) (.cons (.arr 902333) .nil))))), (48, .rows 24 3 yi), (900320, .arr 3 yi), (900321, .arr 3 yi), (900322, .arr 3 yi), (902323, .arr 28 y2), (900330, .arr 3 yi), (900331, .arr 3 yi), (900332, .arr 3 yi), (902333, .arr 28 y2)] }) (((), ((), ((), (k.1, (k.2.1, ((), ())))))), ((r.1, (r.2.1, (r.2.2.1, ()))), (((), ((), ((), ((), ())))), (((), ((), ((), ((), ())))), (r.2.2.2, (k.2.2.1, (k.2.2.2.1, (k.2.2.2.2.1, (k.2.2.2.2.2.1, (k.2.2.2.2.2.2.1, (k.2.2.2.2.2.2.2.1, (k.2.2.2.2.2.2.2.2.1, (k.2.2.2.2.2.2.2.2.2, ())))))))))))))))⟩
noncomputable def S_zck_2 (k : Int × (Y1 × (Y1 × (Y1 × (Y3 × (Y1 × (Y1 × Y1))))))) (v : Int × (Y1 × (Int × (Int × Y3)))) : Tr ((Int × (Y1 × (Int × (Int × Y3)))) ⊕ (Y1 × (Int × (Int × Y3)))) :=
 .t (decide ((0 : Int) < v.1))
 (.c (Int × (Y1 × (Int × Int))) (F_zce ([(2 : Int), (3 : Int), (1 : Int), (0 : Int), (5 : Int)] : Y1) v.2.1 v.2.2.1 v.2.2.2.1) fun r41_ =>
 .c (Y1 × (Int × (Int × Y2))) (L_zck_4 (k.1, (v.1, (k.2.1, (k.2.2.1, (k.2.2.2.1, (k.2.2.2.2.1, (k.2.2.2.2.2.1, (k.2.2.2.2.2.2.1, (k.2.2.2.2.2.2.2, v.2.2.2.2))))))))) (r41_.1, (r41_.2.1, (r41_.2.2.1, (r41_.2.2.2, ([] : List Y1)))))) fun r106_ =>
 .g (decide ((List.length v.2.2.2.2 + List.length ([r106_.2.2.2] : Y3)) * 24 ≤ 140737488355328)) <|
 .l (.inl ((IntKind.wrap .i64 (v.1 - (1 : Int))), (r106_.1, (r106_.2.1, (r106_.2.2.1, (v.2.2.2.2 ++ ([r106_.2.2.2] : Y3))))))))
 (.l (.inr (v.2.1, (v.2.2.1, (v.2.2.2.1, v.2.2.2.2)))))
noncomputable def L_zck_2 (k : Int × (Y1 × (Y1 × (Y1 × (Y3 × (Y1 × (Y1 × Y1))))))) (v : Int × (Y1 × (Int × (Int × Y3)))) : Option (Y1 × (Int × (Int × Y3))) := iter (fun v => (S_zck_2 k v).ev) v
noncomputable def DL_zck_2 : LD := ⟨{ acts := [.ownB 2 3 902323 28 y2, .ownB 3 3 902333 28 y2], S := { slots := [0, 2, 3, 4, 6], sh := (.cons (.box 64 0) (.cons (.box 2 0) (.cons (.box 3 0) (.cons (.dat yi) (.cons (.dat yi) .nil))))), obs := [(64, .cells (.cons (.dat (.slice (.int .u8))) (.cons (.dat yi) (.cons (.dat (.int .u64)) .nil)))), (2, .cells (.cons (.arr 900320) (.cons (.arr 900321) (.cons (.arr 900322) (.cons (.arr 902323) .nil))))), (3, .cells (.cons (.arr 900330) (.cons (.arr 900331) (.cons (.arr 900332) (.cons (.arr 902333) .nil))))), (900320, .arr 3 yi), (900321, .arr 3 yi), (900322, .arr 3 yi), (902323, .arr 28 y2), (900330, .arr 3 yi), (900331, .arr 3 yi), (900332, .arr 3 yi), (902333, .arr 28 y2)] } }, [(2, { acts := [], S := { slots := [0, 2, 3], sh := (.cons (.box 64 0) (.cons (.box 2 0) (.cons (.box 3 0) .nil))), obs := [(64, .cells (.cons (.dat (.slice (.int .u8))) (.cons (.dat yi) (.cons (.dat (.int .u64)) .nil)))), (2, .cells (.cons (.arr 900320) (.cons (.arr 900321) (.cons (.arr 900322) (.cons (.arr 902323) .nil))))), (3, .cells (.cons (.arr 900330) (.cons (.arr 900331) (.cons (.arr 900332) (.cons (.arr 902333) .nil))))), (900320, .arr 3 yi), (900321, .arr 3 yi), (900322, .arr 3 yi), (902323, .arr 28 y2), (900330, .arr 3 yi), (900331, .arr 3 yi), (900332, .arr 3 yi), (902333, .arr 28 y2)] } })], (yh [] .nil), Int × (Y1 × (Y1 × (Y1 × (Y3 × (Y1 × (Y1 × Y1)))))), Int × (Y1 × (Int × (Int × Y3))), Y1 × (Int × (Int × Y3)), fun k v => (((), ((), ((), (k.1, (v.1, ()))))), ((v.2.1, (v.2.2.1, (v.2.2.2.1, ()))), (((), ((), ((), ((), ())))), (((), ((), ((), ((), ())))), (k.2.1, (k.2.2.1, (k.2.2.2.1, (k.2.2.2.2.1, (k.2.2.2.2.2.1, (k.2.2.2.2.2.2.1, (k.2.2.2.2.2.2.2, (v.2.2.2.2, ())))))))))))), fun t => (t.1.2.2.2.1, (t.2.2.2.2.1, (t.2.2.2.2.2.1, (t.2.2.2.2.2.2.1, (t.2.2.2.2.2.2.2.1, (t.2.2.2.2.2.2.2.2.1, (t.2.2.2.2.2.2.2.2.2.1, t.2.2.2.2.2.2.2.2.2.2.1))))))), fun t => (t.1.2.2.2.2.1, (t.2.1.1, (t.2.1.2.1, (t.2.1.2.2.1, t.2.2.2.2.2.2.2.2.2.2.2.1)))), S_zck_2, fun k r => .l (.exit 2 (mkSt ({ slots := [0, 2, 3], sh := (.cons (.box 64 0) (.cons (.box 2 0) (.cons (.box 3 0) .nil))), obs := [(64, .cells (.cons (.dat (.slice (.int .u8))) (.cons (.dat yi) (.cons (.dat (.int .u64)) .nil)))), (2, .cells (.cons (.arr 900320) (.cons (.arr 900321) (.cons (.arr 900322) (.cons (.arr 902323) .nil))))), (3, .cells (.cons (.arr 900330) (.cons (.arr 900331) (.cons (.arr 900332) (.cons (.arr 902333) .nil))))), (900320, .arr 3 yi), (900321, .arr 3 yi), (900322, .arr 3 yi), (902323, .arr 28 y2), (900330, .arr 3 yi), (900331, .arr 3 yi), (900332, .arr 3 yi), (902333, .arr 28 y2)] }) (((), ((), ((), ()))), ((r.1, (r.2.1, (r.2.2.1, ()))), (((), ((), ((), ((), ())))), (((), ((), ((), ((), ())))), (k.2.1, (k.2.2.1, (k.2.2.2.1, (k.2.2.2.2.1, (k.2.2.2.2.2.1, (k.2.2.2.2.2.2.1, (k.2.2.2.2.2.2.2, (r.2.2.2, ()))))))))))))))⟩
noncomputable def S_zck_9 (_k : Y1 × (Int × (Int × (Y1 × (Y1 × (Y1 × (Y3 × (Y1 × (Y1 × Y1))))))))) (v : Y3) : Tr (Y3 ⊕ Y3) :=
 .t (decide (((List.length v : Nat) : Int) < (6 : Int)))
 (.g (decide ((List.length v + List.length ([([] : List Y1)] : Y3)) * 24 ≤ 140737488355328)) <|
 .l (.inl (v ++ ([([] : List Y1)] : Y3))))
 (.l (.inr v))
noncomputable def L_zck_9 (k : Y1 × (Int × (Int × (Y1 × (Y1 × (Y1 × (Y3 × (Y1 × (Y1 × Y1))))))))) (v : Y3) : Option Y3 := iter (fun v => (S_zck_9 k v).ev) v
noncomputable def DL_zck_9 : LD := ⟨{ acts := [], S := { slots := [0, 2, 3], sh := (.cons (.box 64 0) (.cons (.box 2 0) (.cons (.box 3 0) .nil))), obs := [(64, .cells (.cons (.dat (.slice (.int .u8))) (.cons (.dat yi) (.cons (.dat (.int .u64)) .nil)))), (2, .cells (.cons (.arr 900320) (.cons (.arr 900321) (.cons (.arr 900322) (.cons (.arr 902323) .nil))))), (3, .cells (.cons (.arr 900330) (.cons (.arr 900331) (.cons (.arr 900332) (.cons (.arr 902333) .nil))))), (900320, .arr 3 yi), (900321, .arr 3 yi), (900322, .arr 3 yi), (902323, .arr 28 y2), (900330, .arr 3 yi), (900331, .arr 3 yi), (900332, .arr 3 yi), (902333, .arr 28 y2)] } }, [(9, { acts := [], S := { slots := [0, 2, 3], sh := (.cons (.box 64 0) (.cons (.box 2 0) (.cons (.box 3 0) .nil))), obs := [(64, .cells (.cons (.dat (.slice (.int .u8))) (.cons (.dat yi) (.cons (.dat (.int .u64)) .nil)))), (2, .cells (.cons (.arr 900320) (.cons (.arr 900321) (.cons (.arr 900322) (.cons (.arr 902323) .nil))))), (3, .cells (.cons (.arr 900330) (.cons (.arr 900331) (.cons (.arr 900332) (.cons (.arr 902333) .nil))))), (900320, .arr 3 yi), (900321, .arr 3 yi), (900322, .arr 3 yi), (902323, .arr 28 y2), (900330, .arr 3 yi), (900331, .arr 3 yi), (900332, .arr 3 yi), (902333, .arr 28 y2)] } })], (yh [] .nil), Y1 × (Int × (Int × (Y1 × (Y1 × (Y1 × (Y3 × (Y1 × (Y1 × Y1)))))))), Y3, Y3, fun k v => (((), ((), ((), ()))), ((k.1, (k.2.1, (k.2.2.1, ()))), (((), ((), ((), ((), ())))), (((), ((), ((), ((), ())))), (k.2.2.2.1, (k.2.2.2.2.1, (k.2.2.2.2.2.1, (k.2.2.2.2.2.2.1, (k.2.2.2.2.2.2.2.1, (k.2.2.2.2.2.2.2.2.1, (k.2.2.2.2.2.2.2.2.2, (v, ())))))))))))), fun t => (t.2.1.1, (t.2.1.2.1, (t.2.1.2.2.1, (t.2.2.2.2.1, (t.2.2.2.2.2.1, (t.2.2.2.2.2.2.1, (t.2.2.2.2.2.2.2.1, (t.2.2.2.2.2.2.2.2.1, (t.2.2.2.2.2.2.2.2.2.1, t.2.2.2.2.2.2.2.2.2.2.1))))))))), fun t => t.2.2.2.2.2.2.2.2.2.2.2.1, S_zck_9, fun k r => .l (.exit 9 (mkSt ({ slots := [0, 2, 3], sh := (.cons (.box 64 0) (.cons (.box 2 0) (.cons (.box 3 0) .nil))), obs := [(64, .cells (.cons (.dat (.slice (.int .u8))) (.cons (.dat yi) (.cons (.dat (.int .u64)) .nil)))), (2, .cells (.cons (.arr 900320) (.cons (.arr 900321) (.cons (.arr 900322) (.cons (.arr 902323) .nil))))), (3, .cells (.cons (.arr 900330) (.cons (.arr 900331) (.cons (.arr 900332) (.cons (.arr 902333) .nil))))), (900320, .arr 3 yi), (900321, .arr 3 yi), (900322, .arr 3 yi), (902323, .arr 28 y2), (900330, .arr 3 yi), (900331, .arr 3 yi), (900332, .arr 3 yi), (902333, .arr 28 y2)] }) (((), ((), ((), ()))), ((k.1, (k.2.1, (k.2.2.1, ()))), (((), ((), ((), ((), ())))), (((), ((), ((), ((), ())))), (k.2.2.2.1, (k.2.2.2.2.1, (k.2.2.2.2.2.1, (k.2.2.2.2.2.2.1, (k.2.2.2.2.2.2.2.1, (k.2.2.2.2.2.2.2.2.1, (k.2.2.2.2.2.2.2.2.2, (r, ()))))))))))))))⟩
noncomputable def T_zck (a1_ : Y1) (a2_ : Int) (a3_ : Int) : Tr (Y1 × (Y1 × (Y1 × (Y3 × (Y1 × (Int × Int)))))) :=
 .c (Int × (Y1 × (Int × Int))) (F_zce ([(3 : Int), (2 : Int), (4 : Int), (1 : Int), (3 : Int), (5 : Int)] : Y1) a1_ a2_ a3_) fun r1_ =>
 .c (Y1 × (Int × (Int × (Y1 × (Y1 × Y1))))) (L_zck_0 (r1_.1, (([] : Y1), (([] : Y1), ([] : Y1)))) ((0 : Int), (r1_.2.1, (r1_.2.2.1, (r1_.2.2.2, (([] : Y1), (([] : Y1), ([] : Y1)))))))) fun r26_ =>
 .c (Int × (Y1 × (Int × Int))) (F_zce ([(2 : Int), (3 : Int), (4 : Int), (1 : Int), (0 : Int), (5 : Int)] : Y1) r26_.1 r26_.2.1 r26_.2.2.1) fun r27_ =>
 .c (Y1 × (Int × (Int × Y3))) (L_zck_2 (r1_.1, (([] : Y1), (([] : Y1), (([] : Y1), (([] : Y3), (r26_.2.2.2.1, (r26_.2.2.2.2.1, r26_.2.2.2.2.2))))))) (r27_.1, (r27_.2.1, (r27_.2.2.1, (r27_.2.2.2, ([] : Y3)))))) fun r118_ =>
 .c (Int × (Y1 × (Int × Int))) (F_zch (40 : Int) r118_.1 r118_.2.1 r118_.2.2.1) fun r119_ =>
 .t (r119_.1 == (0 : Int))
 (.c (Int × (Y1 × (Int × Int))) (F_zce ([(-1 : Int), (99 : Int), (100 : Int)] : Y1) r119_.2.1 r119_.2.2.1 r119_.2.2.2) fun r120_ =>
 .g (inR (0 : Int) (List.length r26_.2.2.2.2.2)) <|
 .g (decide ((Int.toNat (0 : Int)) < List.length r26_.2.2.2.2.2)) <|
 .l (r26_.2.2.2.1, (r26_.2.2.2.2.1, ((List.set r26_.2.2.2.2.2 (Int.toNat (0 : Int)) r120_.1), (r118_.2.2.2, (r120_.2.1, (r120_.2.2.1, r120_.2.2.2)))))))
 (.t (r119_.1 == (1 : Int))
 (.g (decide ((List.length r26_.2.2.2.2.1 + List.length ([(0 : Int)] : Y1)) * 8 ≤ 140737488355328)) <|
 .l (r26_.2.2.2.1, ((r26_.2.2.2.2.1 ++ ([(0 : Int)] : Y1)), (r26_.2.2.2.2.2, (r118_.2.2.2, (r119_.2.1, (r119_.2.2.1, r119_.2.2.2)))))))
 (.t (r119_.1 == (2 : Int))
 (.c Y3 (L_zck_9 (r119_.2.1, (r119_.2.2.1, (r119_.2.2.2, (([] : Y1), (([] : Y1), (([] : Y1), (([] : Y3), (r26_.2.2.2.1, (r26_.2.2.2.2.1, r26_.2.2.2.2.2))))))))) r118_.2.2.2) fun r143_ =>
 .l (r26_.2.2.2.1, (r26_.2.2.2.2.1, (r26_.2.2.2.2.2, (r143_, (r119_.2.1, (r119_.2.2.1, r119_.2.2.2)))))))
 (.t (r119_.1 == (3 : Int))
 (.l (([] : Y1), (([] : Y1), (([] : Y1), (([] : Y3), (r119_.2.1, (r119_.2.2.1, r119_.2.2.2)))))))
 (.l (r26_.2.2.2.1, (r26_.2.2.2.2.1, (r26_.2.2.2.2.2, (r118_.2.2.2, (r119_.2.1, (r119_.2.2.1, r119_.2.2.2))))))))))
noncomputable def F_zck (a1_ : Y1) (a2_ : Int) (a3_ : Int) : Option (Y1 × (Y1 × (Y1 × (Y3 × (Y1 × (Int × Int)))))) := (T_zck a1_ a2_ a3_).ev
noncomputable def A_zck : Sh := (.cons (.box 64 0) .nil)
noncomputable def I_zck : List (Nat × OSh) := [(64, .cells (.cons (.dat (.slice (.int .u8))) (.cons (.dat yi) (.cons (.dat (.int .u64)) .nil))))]
noncomputable def K_zck : RetK := { acts := [.ownB 2 0 1 3 yi, .ownB 2 1 4 3 yi, .ownB 2 2 5 3 yi, .ownB 2 3 6 28 y2, .ren 900330 1, .ren 900331 4, .ren 900332 5, .ren 902333 6], res := [.cell 2 27], sh := (.cons (.agg (.cons (.arr 1) (.cons (.arr 4) (.cons (.arr 5) (.cons (.arr 6) .nil))))) .nil), obs := [(1, .arr 3 yi), (4, .arr 3 yi), (5, .arr 3 yi), (6, .arr 28 y2), (64, .cells (.cons (.dat (.slice (.int .u8))) (.cons (.dat yi) (.cons (.dat (.int .u64)) .nil))))], pins := [(0, 0, 64)] }
noncomputable def D_zck : FD := ⟨A_zck, I_zck, [.arg 0], Y1 × (Y1 × (Y1 × (Y3 × (Y1 × (Int × Int))))), fun x => F_zck x.2.1.1 x.2.1.2.1 x.2.1.2.2.1, fun r => ([.agg [.arr 1, .arr 4, .arr 5, .arr 6]], [(1, .arr 3 yi r.1), (4, .arr 3 yi r.2.1), (5, .arr 3 yi r.2.2.1), (6, .arr 28 y2 r.2.2.2.1), (64, .cells [.dat (.slice (.int .u8)) r.2.2.2.2.1, .dat yi r.2.2.2.2.2.1, .dat (.int .u64) r.2.2.2.2.2.2])])⟩
noncomputable def E_zck : Env := envOf [(79, D_zce), (78, D_zch)]
noncomputable def Z_zck : Nat → Nat → List Nat := fun r i => match look [(1, [(3, [13])]), (8, [(2, [42])]), (11, [(0, [1000000])]), (12, [(2, [50])]), (21, [(3, [73])]), (24, [(0, [60000003])]), (29, [(2, [1000000]), (3, [102])])] r with
 | some l => (look l i).getD []
 | none => []
noncomputable def O_zck : List (Nat × LD) := [(0, DL_zck_0), (6, DL_zck_6), (4, DL_zck_4), (2, DL_zck_2), (9, DL_zck_9)]
noncomputable def C_zck : Code := (f35.body).getD .skip
noncomputable def T_zcn (a1_ : Int) (a2_ : Int) : Tr (Int) :=
 .t (decide (a1_ < a2_))
 (.l a1_)
 (.l a2_)
noncomputable def F_zcn (a1_ : Int) (a2_ : Int) : Option (Int) := (T_zcn a1_ a2_).ev
noncomputable def A_zcn : Sh := (.cons (.dat yi) (.cons (.dat yi) .nil))
noncomputable def I_zcn : List (Nat × OSh) := []
noncomputable def K_zcn : RetK := { acts := [], res := [.tmp 4], sh := (.cons (.dat yi) .nil), obs := [], pins := [] }
noncomputable def D_zcn : FD := ⟨A_zcn, I_zcn, [], Int, fun x => F_zcn x.1.1 x.1.2.1, fun r => ([.dat yi r], [])⟩
noncomputable def E_zcn : Env := envOf []
noncomputable def Z_zcn : Nat → Nat → List Nat := fun _ _ => []
noncomputable def O_zcn : List (Nat × LD) := []
noncomputable def C_zcn : Code := (f76.body).getD .skip
noncomputable def S_zcs_0 (k : Int × Int) (v : Int × Y1) : Tr ((Int × Y1) ⊕ Y1) :=
 .t (decide (v.1 < k.1))
 (.g (decide ((0 : Int) ≤ v.1)) <|
 .t ((IntKind.wrap .i64 (BitVec.toNat ((BitVec.ofInt (IntKind.bits .i64) (Int.fdiv k.2 (2 ^ (min (Int.toNat v.1) (IntKind.bits .i64))))) &&& (BitVec.ofInt (IntKind.bits .i64) (1 : Int))))) == (1 : Int))
 (.g (decide ((List.length v.2 + List.length ([v.1] : Y1)) * 8 ≤ 140737488355328)) <|
 .l (.inl ((IntKind.wrap .i64 (v.1 + (1 : Int))), (v.2 ++ ([v.1] : Y1)))))
 (.l (.inl ((IntKind.wrap .i64 (v.1 + (1 : Int))), v.2))))
 (.l (.inr v.2))
noncomputable def L_zcs_0 (k : Int × Int) (v : Int × Y1) : Option Y1 := iter (fun v => (S_zcs_0 k v).ev) v
noncomputable def DL_zcs_0 : LD := ⟨{ acts := [], S := { slots := [0, 1, 5, 6], sh := (.cons (.dat yi) (.cons (.dat yi) (.cons (.arr 7) (.cons (.dat yi) .nil)))), obs := [(7, .arr 3 yi)] } }, [(0, { acts := [], S := { slots := [5], sh := (.cons (.arr 7) .nil), obs := [(7, .arr 3 yi)] } })], (yh [] .nil), Int × (Int), Int × Y1, Y1, fun k v => ((k.1, (k.2, ((), (v.1, ())))), (v.2, ())), fun t => (t.1.1, t.1.2.1), fun t => (t.1.2.2.2.1, t.2.1), S_zcs_0, fun _ r => .l (.exit 0 (mkSt ({ slots := [5], sh := (.cons (.arr 7) .nil), obs := [(7, .arr 3 yi)] }) (((), ()), (r, ()))))⟩
noncomputable def T_zcs (a1_ : Int) (a2_ : Int) : Tr Y1 :=
 .c Y1 (L_zcs_0 (a1_, a2_) ((0 : Int), ([] : Y1))) fun r6_ =>
 .l r6_
noncomputable def F_zcs (a1_ : Int) (a2_ : Int) : Option Y1 := (T_zcs a1_ a2_).ev
noncomputable def A_zcs : Sh := (.cons (.dat yi) (.cons (.dat yi) .nil))
noncomputable def I_zcs : List (Nat × OSh) := []
noncomputable def K_zcs : RetK := { acts := [.ren 7 0], res := [.tmp 4], sh := (.cons (.arr 0) .nil), obs := [(0, .arr 3 yi)], pins := [] }
noncomputable def D_zcs : FD := ⟨A_zcs, I_zcs, [], Y1, fun x => F_zcs x.1.1 x.1.2.1, fun r => ([.arr 0], [(0, .arr 3 yi r)])⟩
noncomputable def E_zcs : Env := envOf []
noncomputable def Z_zcs : Nat → Nat → List Nat := fun _ _ => []
noncomputable def O_zcs : List (Nat × LD) := [(0, DL_zcs_0)]
noncomputable def C_zcs : Code := (f77.body).getD .skip
noncomputable def T_zcg (a4_ : Int) (a1_ : Y1) (a2_ : Int) (a3_ : Int) : Tr (Bool × (Y1 × (Int × Int))) :=
 .c (Int × (Y1 × (Int × Int))) (F_zch a4_ a1_ a2_ a3_) fun r1_ =>
 .l ((r1_.1 == (0 : Int)), (r1_.2.1, (r1_.2.2.1, r1_.2.2.2)))
noncomputable def F_zcg (a4_ : Int) (a1_ : Y1) (a2_ : Int) (a3_ : Int) : Option (Bool × (Y1 × (Int × Int))) := (T_zcg a4_ a1_ a2_ a3_).ev
noncomputable def A_zcg : Sh := (.cons (.box 64 0) (.cons (.dat yi) .nil))
noncomputable def I_zcg : List (Nat × OSh) := [(64, .cells (.cons (.dat (.slice (.int .u8))) (.cons (.dat yi) (.cons (.dat (.int .u64)) .nil))))]
noncomputable def K_zcg : RetK := { acts := [], res := [.tmp 4], sh := (.cons (.dat .bool) .nil), obs := [(64, .cells (.cons (.dat (.slice (.int .u8))) (.cons (.dat yi) (.cons (.dat (.int .u64)) .nil))))], pins := [(0, 0, 64)] }
noncomputable def D_zcg : FD := ⟨A_zcg, I_zcg, [.arg 0], Bool × (Y1 × (Int × Int)), fun x => F_zcg x.1.2.1 x.2.1.1 x.2.1.2.1 x.2.1.2.2.1, fun r => ([.dat .bool r.1], [(64, .cells [.dat (.slice (.int .u8)) r.2.1, .dat yi r.2.2.1, .dat (.int .u64) r.2.2.2])])⟩
noncomputable def E_zcg : Env := envOf [(78, D_zch)]
noncomputable def Z_zcg : Nat → Nat → List Nat := fun _ _ => []
noncomputable def O_zcg : List (Nat × LD) := []
noncomputable def C_zcg : Code := (f38.body).getD .skip
noncomputable def S_zcj_0 (k : Int × (Y1 × (Y1 × (Y1 × Y3)))) (v : Int × (Y1 × (Int × (Int × Y2)))) : Tr ((Int × (Y1 × (Int × (Int × Y2)))) ⊕ (Y1 × (Int × (Int × Y2)))) :=
 .t (decide (v.1 < ((List.length k.2.2.2.2 : Nat) : Int)))
 (.g (decide ((0 : Int) ≤ k.1)) <|
 .c (Int × (Y1 × (Int × Int))) (F_zch (IntKind.wrap .i64 ((1 : Int) * 2 ^ (min (Int.toNat k.1) (IntKind.bits .i64)))) v.2.1 v.2.2.1 v.2.2.2.1) fun r12_ =>
 .c Y1 (F_zcs k.1 (IntKind.wrap .i64 ((1 : Int) + r12_.1))) fun r13_ =>
 .t (((List.length r13_ : Nat) : Int) == (0 : Int))
 (.t (decide ((0 : Int) < k.1))
 (.c (Bool × (Y1 × (Int × Int))) (F_zcg (8 : Int) r12_.2.1 r12_.2.2.1 r12_.2.2.2) fun r14_ =>
 .t (!r14_.1)
 (.c (Int × (Y1 × (Int × Int))) (F_zch k.1 r14_.2.1 r14_.2.2.1 r14_.2.2.2) fun r15_ =>
 .g (decide ((List.length v.2.2.2.2 + 1) * 24 ≤ 140737488355328)) <|
 .l (.inl ((IntKind.wrap .i64 (v.1 + (1 : Int))), (r15_.2.1, (r15_.2.2.1, (r15_.2.2.2, (List.set (v.2.2.2.2 ++ [[]]) (List.length v.2.2.2.2) ([r15_.1] : Y1))))))))
 (.g (decide ((List.length v.2.2.2.2 + 1) * 24 ≤ 140737488355328)) <|
 .l (.inl ((IntKind.wrap .i64 (v.1 + (1 : Int))), (r14_.2.1, (r14_.2.2.1, (r14_.2.2.2, (List.set (v.2.2.2.2 ++ [[]]) (List.length v.2.2.2.2) r13_))))))))
 (.g (decide ((List.length v.2.2.2.2 + 1) * 24 ≤ 140737488355328)) <|
 .l (.inl ((IntKind.wrap .i64 (v.1 + (1 : Int))), (r12_.2.1, (r12_.2.2.1, (r12_.2.2.2, (List.set (v.2.2.2.2 ++ [[]]) (List.length v.2.2.2.2) r13_))))))))
 (.g (decide ((List.length v.2.2.2.2 + 1) * 24 ≤ 140737488355328)) <|
 .l (.inl ((IntKind.wrap .i64 (v.1 + (1 : Int))), (r12_.2.1, (r12_.2.2.1, (r12_.2.2.2, (List.set (v.2.2.2.2 ++ [[]]) (List.length v.2.2.2.2) r13_))))))))
 (.l (.inr (v.2.1, (v.2.2.1, (v.2.2.2.1, v.2.2.2.2)))))
noncomputable def L_zcj_0 (k : Int × (Y1 × (Y1 × (Y1 × Y3)))) (v : Int × (Y1 × (Int × (Int × Y2)))) : Option (Y1 × (Int × (Int × Y2))) := iter (fun v => (S_zcj_0 k v).ev) v
noncomputable def DL_zcj_0 : LD := ⟨{ acts := [], S := { slots := [0, 3, 5, 6, 7], sh := (.cons (.box 64 0) (.cons (.box 3 0) (.cons (.arr 9) (.cons (.dat yi) (.cons (.dat yi) .nil))))), obs := [(64, .cells (.cons (.dat (.slice (.int .u8))) (.cons (.dat yi) (.cons (.dat (.int .u64)) .nil)))), (3, .cells (.cons (.dat y1) (.cons (.dat y1) (.cons (.dat y1) (.cons (.dat y3) .nil))))), (9, .rows 24 3 yi)] } }, [(0, { acts := [], S := { slots := [0, 5], sh := (.cons (.box 64 0) (.cons (.arr 9) .nil)), obs := [(64, .cells (.cons (.dat (.slice (.int .u8))) (.cons (.dat yi) (.cons (.dat (.int .u64)) .nil)))), (9, .rows 24 3 yi)] } })], (yh [] .nil), Int × (Y1 × (Y1 × (Y1 × Y3))), Int × (Y1 × (Int × (Int × Y2))), Y1 × (Int × (Int × Y2)), fun k v => (((), ((), ((), (k.1, (v.1, ()))))), ((v.2.1, (v.2.2.1, (v.2.2.2.1, ()))), ((k.2.1, (k.2.2.1, (k.2.2.2.1, (k.2.2.2.2, ())))), (v.2.2.2.2, ())))), fun t => (t.1.2.2.2.1, (t.2.2.1.1, (t.2.2.1.2.1, (t.2.2.1.2.2.1, t.2.2.1.2.2.2.1)))), fun t => (t.1.2.2.2.2.1, (t.2.1.1, (t.2.1.2.1, (t.2.1.2.2.1, t.2.2.2.1)))), S_zcj_0, fun _ r => .l (.exit 0 (mkSt ({ slots := [0, 5], sh := (.cons (.box 64 0) (.cons (.arr 9) .nil)), obs := [(64, .cells (.cons (.dat (.slice (.int .u8))) (.cons (.dat yi) (.cons (.dat (.int .u64)) .nil)))), (9, .rows 24 3 yi)] }) (((), ((), ())), ((r.1, (r.2.1, (r.2.2.1, ()))), (r.2.2.2, ())))))⟩
noncomputable def T_zcj (a4_ : Y1) (a5_ : Y1) (a6_ : Y1) (a7_ : Y3) (a1_ : Y1) (a2_ : Int) (a3_ : Int) : Tr (Y2 × (Y1 × (Int × Int))) :=
 .c (Int) (F_zcn ((List.length a4_ : Nat) : Int) (5 : Int)) fun r1_ =>
 .c (Y1 × (Int × (Int × Y2))) (L_zcj_0 (r1_, (a4_, (a5_, (a6_, a7_)))) ((0 : Int), (a1_, (a2_, (a3_, ([] : List Y1)))))) fun r20_ =>
 .c (Int × (Y1 × (Int × Int))) (F_zch (24 : Int) r20_.1 r20_.2.1 r20_.2.2.1) fun r21_ =>
 .t (r21_.1 == (0 : Int))
 (.g (decide ((List.length r20_.2.2.2 + 1) * 24 ≤ 140737488355328)) <|
 .l ((List.set (r20_.2.2.2 ++ [[]]) (List.length r20_.2.2.2) ([(0 : Int)] : Y1)), (r21_.2.1, (r21_.2.2.1, r21_.2.2.2))))
 (.t (r21_.1 == (1 : Int))
 (.t (decide ((0 : Int) < ((List.length r20_.2.2.2 : Nat) : Int)))
 (.c (Int × (Y1 × (Int × Int))) (F_zce ([(-1 : Int), (5 : Int), (0 : Int)] : Y1) r21_.2.1 r21_.2.2.1 r21_.2.2.2) fun r22_ =>
 .g (inR (0 : Int) (List.length r20_.2.2.2)) <|
 .g (decide ((Int.toNat (0 : Int)) < List.length r20_.2.2.2)) <|
 .l ((List.set r20_.2.2.2 (Int.toNat (0 : Int)) ([r22_.1, (0 : Int)] : Y1)), (r22_.2.1, (r22_.2.2.1, r22_.2.2.2))))
 (.l (r20_.2.2.2, (r21_.2.1, (r21_.2.2.1, r21_.2.2.2)))))
 (.l (r20_.2.2.2, (r21_.2.1, (r21_.2.2.1, r21_.2.2.2)))))
noncomputable def F_zcj (a4_ : Y1) (a5_ : Y1) (a6_ : Y1) (a7_ : Y3) (a1_ : Y1) (a2_ : Int) (a3_ : Int) : Option (Y2 × (Y1 × (Int × Int))) := (T_zcj a4_ a5_ a6_ a7_ a1_ a2_ a3_).ev
noncomputable def A_zcj : Sh := (.cons (.box 64 0) (.cons (.agg (.cons (.dat y1) (.cons (.dat y1) (.cons (.dat y1) (.cons (.dat y3) .nil))))) .nil))
noncomputable def I_zcj : List (Nat × OSh) := [(64, .cells (.cons (.dat (.slice (.int .u8))) (.cons (.dat yi) (.cons (.dat (.int .u64)) .nil))))]
noncomputable def K_zcj : RetK := { acts := [.ren 9 0], res := [.tmp 4], sh := (.cons (.arr 0) .nil), obs := [(0, .rows 24 3 yi), (64, .cells (.cons (.dat (.slice (.int .u8))) (.cons (.dat yi) (.cons (.dat (.int .u64)) .nil))))], pins := [(0, 0, 64)] }
noncomputable def D_zcj : FD := ⟨A_zcj, I_zcj, [.arg 0], Y2 × (Y1 × (Int × Int)), fun x => F_zcj x.1.2.1.1 x.1.2.1.2.1 x.1.2.1.2.2.1 x.1.2.1.2.2.2.1 x.2.1.1 x.2.1.2.1 x.2.1.2.2.1, fun r => ([.arr 0], [(0, .rows 24 3 yi r.1 none), (64, .cells [.dat (.slice (.int .u8)) r.2.1, .dat yi r.2.2.1, .dat (.int .u64) r.2.2.2])])⟩
noncomputable def E_zcj : Env := envOf [(76, D_zcn), (78, D_zch), (77, D_zcs), (38, D_zcg), (79, D_zce)]
noncomputable def Z_zcj : Nat → Nat → List Nat := fun r i => match look [(1, [(0, [1000000])]), (15, [(3, [63])])] r with
 | some l => (look l i).getD []
 | none => []
noncomputable def O_zcj : List (Nat × LD) := [(0, DL_zcj_0)]
noncomputable def C_zcj : Code := (f36.body).getD .skip
noncomputable def T_zcm (a1_ : Int) (a2_ : Int) (a3_ : Int) : Tr (Bool) :=
 .t (decide (a2_ ≤ a1_))
 (.l (decide (a1_ ≤ a3_)))
 (.l false)
noncomputable def F_zcm (a1_ : Int) (a2_ : Int) (a3_ : Int) : Option (Bool) := (T_zcm a1_ a2_ a3_).ev
noncomputable def A_zcm : Sh := (.cons (.dat yi) (.cons (.dat yi) (.cons (.dat yi) .nil)))
noncomputable def I_zcm : List (Nat × OSh) := []
noncomputable def K_zcm : RetK := { acts := [], res := [.tmp 6], sh := (.cons (.dat .bool) .nil), obs := [], pins := [] }
noncomputable def D_zcm : FD := ⟨A_zcm, I_zcm, [], Bool, fun x => F_zcm x.1.1 x.1.2.1 x.1.2.2.1, fun r => ([.dat .bool r], [])⟩
noncomputable def E_zcm : Env := envOf []
noncomputable def Z_zcm : Nat → Nat → List Nat := fun _ _ => []
noncomputable def O_zcm : List (Nat × LD) := []
noncomputable def C_zcm : Code := (f82.body).getD .skip
noncomputable def S_zcu_0 (k : Y1 × (Int × Int)) (v : Int) : Tr ((Int) ⊕ ((Unit) ⊕ (Unit))) :=
 .t (decide (v < ((List.length k.1 : Nat) : Int)))
 (.g (inR v (List.length k.1)) <|
 .c (Bool) (F_zcm (List.getD k.1 (Int.toNat v) (0 : Int)) (0 : Int) k.2.2) fun r5_ =>
 .t (!r5_)
 (.l (.inr (.inr ())))
 (.l (.inl (IntKind.wrap .i64 (v + (1 : Int))))))
 (.l (.inr (.inl ())))
noncomputable def L_zcu_0 (k : Y1 × (Int × Int)) (v : Int) : Option ((Unit) ⊕ (Unit)) := iter (fun v => (S_zcu_0 k v).ev) v
noncomputable def DL_zcu_0 : LD := ⟨(yh [0, 1, 2, 7] (.cons (.dat y1) (.cons (.dat yi) (.cons (.dat yi) (.cons (.dat yi) .nil))))), [(0, (yh [0, 1] (.cons (.dat y1) (.cons (.dat yi) .nil))))], (yh [6] (.cons (.dat .bool) .nil)), Y1 × (Int × Int), Int, (Unit) ⊕ (Unit), fun k v => ((k.1, (k.2.1, (k.2.2, (v, ())))), ()), fun t => (t.1.1, (t.1.2.1, t.1.2.2.1)), fun t => t.1.2.2.2.1, S_zcu_0, fun k r => .s (Unit) (Unit) r (fun _ => .l (.exit 0 (mkSt ((ys [0, 1] (.cons (.dat y1) (.cons (.dat yi) .nil)))) ((k.1, (k.2.1, ())), ())))) (fun _ => .l (.ret (mkSt ((ys [6] (.cons (.dat .bool) .nil))) ((false, ()), ()))))⟩
noncomputable def T_zcu (a1_ : Y1) (a2_ : Int) (a3_ : Int) : Tr (Bool) :=
 .c ((Unit) ⊕ (Unit)) (L_zcu_0 (a1_, (a2_, a3_)) (0 : Int)) fun r9_ =>
 .s (Unit) (Unit) r9_
 (fun _ => .l (((List.length a1_ : Nat) : Int) == a2_))
 (fun _ => .l false)
noncomputable def F_zcu (a1_ : Y1) (a2_ : Int) (a3_ : Int) : Option (Bool) := (T_zcu a1_ a2_ a3_).ev
noncomputable def A_zcu : Sh := (.cons (.dat y1) (.cons (.dat yi) (.cons (.dat yi) .nil)))
noncomputable def I_zcu : List (Nat × OSh) := []
noncomputable def K_zcu : RetK := { acts := [], res := [.tmp 6], sh := (.cons (.dat .bool) .nil), obs := [], pins := [] }
noncomputable def D_zcu : FD := ⟨A_zcu, I_zcu, [], Bool, fun x => F_zcu x.1.1 x.1.2.1 x.1.2.2.1, fun r => ([.dat .bool r], [])⟩
noncomputable def E_zcu : Env := envOf [(82, D_zcm)]
noncomputable def Z_zcu : Nat → Nat → List Nat := fun _ _ => []
noncomputable def O_zcu : List (Nat × LD) := [(0, DL_zcu_0)]
noncomputable def C_zcu : Code := (f84.body).getD .skip
noncomputable def S_zbv_2 (k : Int × (Int × (Y1 × (Y1 × (Y1 × Y3))))) (v : Int) : Tr ((Int) ⊕ ((Unit) ⊕ (Unit))) :=
 .g (inR k.2.1 (List.length k.2.2.2.2.2)) <|
 .t (decide (v < ((List.length (List.getD k.2.2.2.2.2 (Int.toNat k.2.1) ([] : List Y1)) : Nat) : Int)))
 (.g (inR k.2.1 (List.length k.2.2.2.2.2)) <|
 .g (inR v (List.length (List.getD k.2.2.2.2.2 (Int.toNat k.2.1) ([] : List Y1)))) <|
 .c (Bool) (F_zcu (List.getD (List.getD k.2.2.2.2.2 (Int.toNat k.2.1) ([] : List Y1)) (Int.toNat v) ([] : Y1)) k.1 (99 : Int)) fun r14_ =>
 .t (!r14_)
 (.l (.inr (.inr ())))
 (.l (.inl (IntKind.wrap .i64 (v + (1 : Int))))))
 (.l (.inr (.inl ())))
noncomputable def L_zbv_2 (k : Int × (Int × (Y1 × (Y1 × (Y1 × Y3))))) (v : Int) : Option ((Unit) ⊕ (Unit)) := iter (fun v => (S_zbv_2 k v).ev) v
noncomputable def DL_zbv_2 : LD := ⟨{ acts := [], S := { slots := [1, 3, 4, 5], sh := (.cons (.box 1 0) (.cons (.dat yi) (.cons (.dat yi) (.cons (.dat yi) .nil)))), obs := [(1, .cells (.cons (.dat y1) (.cons (.dat y1) (.cons (.dat y1) (.cons (.dat y3) .nil)))))] } }, [(2, { acts := [], S := { slots := [1, 3, 4], sh := (.cons (.box 1 0) (.cons (.dat yi) (.cons (.dat yi) .nil))), obs := [(1, .cells (.cons (.dat y1) (.cons (.dat y1) (.cons (.dat y1) (.cons (.dat y3) .nil)))))] } })], (yh [2] (.cons (.dat .bool) .nil)), Int × (Int × (Y1 × (Y1 × (Y1 × Y3)))), Int, (Unit) ⊕ (Unit), fun k v => (((), (k.1, (k.2.1, (v, ())))), ((k.2.2.1, (k.2.2.2.1, (k.2.2.2.2.1, (k.2.2.2.2.2, ())))), ())), fun t => (t.1.2.1, (t.1.2.2.1, (t.2.1.1, (t.2.1.2.1, (t.2.1.2.2.1, t.2.1.2.2.2.1))))), fun t => t.1.2.2.2.1, S_zbv_2, fun k r => .s (Unit) (Unit) r (fun _ => .l (.exit 2 (mkSt ({ slots := [1, 3, 4], sh := (.cons (.box 1 0) (.cons (.dat yi) (.cons (.dat yi) .nil))), obs := [(1, .cells (.cons (.dat y1) (.cons (.dat y1) (.cons (.dat y1) (.cons (.dat y3) .nil)))))] }) (((), (k.1, (k.2.1, ()))), ((k.2.2.1, (k.2.2.2.1, (k.2.2.2.2.1, (k.2.2.2.2.2, ())))), ()))))) (fun _ => .l (.ret (mkSt ((ys [2] (.cons (.dat .bool) .nil))) ((false, ()), ()))))⟩
noncomputable def S_zbv_0 (k : Int × (Y1 × (Y1 × (Y1 × Y3)))) (v : Int) : Tr ((Int) ⊕ ((Unit) ⊕ (Unit))) :=
 .t (decide (v < ((List.length k.2.2.2.2 : Nat) : Int)))
 (.c ((Unit) ⊕ (Unit)) (L_zbv_2 (k.1, (v, (k.2.1, (k.2.2.1, (k.2.2.2.1, k.2.2.2.2))))) (0 : Int)) fun r22_ =>
 .s (Unit) (Unit) r22_
 (fun _ => .g (inR v (List.length k.2.2.2.2)) <|
 .t (decide ((5 : Int) < ((List.length (List.getD k.2.2.2.2 (Int.toNat v) ([] : List Y1)) : Nat) : Int)))
 (.l (.inr (.inr ())))
 (.l (.inl (IntKind.wrap .i64 (v + (1 : Int))))))
 (fun _ => .l (.inr (.inr ()))))
 (.l (.inr (.inl ())))
noncomputable def L_zbv_0 (k : Int × (Y1 × (Y1 × (Y1 × Y3)))) (v : Int) : Option ((Unit) ⊕ (Unit)) := iter (fun v => (S_zbv_0 k v).ev) v
noncomputable def DL_zbv_0 : LD := ⟨{ acts := [], S := { slots := [1, 3, 4], sh := (.cons (.box 1 0) (.cons (.dat yi) (.cons (.dat yi) .nil))), obs := [(1, .cells (.cons (.dat y1) (.cons (.dat y1) (.cons (.dat y1) (.cons (.dat y3) .nil)))))] } }, [(0, { acts := [], S := { slots := [1, 3], sh := (.cons (.box 1 0) (.cons (.dat yi) .nil)), obs := [(1, .cells (.cons (.dat y1) (.cons (.dat y1) (.cons (.dat y1) (.cons (.dat y3) .nil)))))] } })], (yh [2] (.cons (.dat .bool) .nil)), Int × (Y1 × (Y1 × (Y1 × Y3))), Int, (Unit) ⊕ (Unit), fun k v => (((), (k.1, (v, ()))), ((k.2.1, (k.2.2.1, (k.2.2.2.1, (k.2.2.2.2, ())))), ())), fun t => (t.1.2.1, (t.2.1.1, (t.2.1.2.1, (t.2.1.2.2.1, t.2.1.2.2.2.1)))), fun t => t.1.2.2.1, S_zbv_0, fun k r => .s (Unit) (Unit) r (fun _ => .l (.exit 0 (mkSt ({ slots := [1, 3], sh := (.cons (.box 1 0) (.cons (.dat yi) .nil)), obs := [(1, .cells (.cons (.dat y1) (.cons (.dat y1) (.cons (.dat y1) (.cons (.dat y3) .nil)))))] }) (((), (k.1, ())), ((k.2.1, (k.2.2.1, (k.2.2.2.1, (k.2.2.2.2, ())))), ()))))) (fun _ => .l (.ret (mkSt ((ys [2] (.cons (.dat .bool) .nil))) ((false, ()), ()))))⟩
noncomputable def T_zbv (a1_ : Y1) (a2_ : Y1) (a3_ : Y1) (a4_ : Y3) : Tr (Bool) :=
 .c ((Unit) ⊕ (Unit)) (L_zbv_0 (((List.length a1_ : Nat) : Int), (a1_, (a2_, (a3_, a4_)))) (0 : Int)) fun r31_ =>
 .s (Unit) (Unit) r31_
 (fun _ => .c (Bool) (F_zcm ((List.length a1_ : Nat) : Int) (1 : Int) (5 : Int)) fun r34_ =>
 .t r34_
 (.c (Bool) (F_zcu a1_ ((List.length a1_ : Nat) : Int) (99 : Int)) fun r35_ =>
 .t r35_
 (.c (Bool) (F_zcu a2_ ((List.length a1_ : Nat) : Int) (99 : Int)) fun r36_ =>
 .t r36_
 (.c (Bool) (F_zcu a3_ ((List.length a1_ : Nat) : Int) (99 : Int)) fun r37_ =>
 .t r37_
 (.l (decide (((List.length a4_ : Nat) : Int) ≤ (5 : Int))))
 (.l false))
 (.l false))
 (.l false))
 (.l false))
 (fun _ => .l false)
noncomputable def F_zbv (a1_ : Y1) (a2_ : Y1) (a3_ : Y1) (a4_ : Y3) : Option (Bool) := (T_zbv a1_ a2_ a3_ a4_).ev
noncomputable def A_zbv : Sh := (.cons (.agg (.cons (.dat y1) (.cons (.dat y1) (.cons (.dat y1) (.cons (.dat y3) .nil))))) .nil)
noncomputable def I_zbv : List (Nat × OSh) := []
noncomputable def K_zbv : RetK := { acts := [], res := [.tmp 2], sh := (.cons (.dat .bool) .nil), obs := [], pins := [] }
noncomputable def D_zbv : FD := ⟨A_zbv, I_zbv, [], Bool, fun x => F_zbv x.1.1.1 x.1.1.2.1 x.1.1.2.2.1 x.1.1.2.2.2.1, fun r => ([.dat .bool r], [])⟩
noncomputable def E_zbv : Env := envOf [(84, D_zcu), (82, D_zcm)]
noncomputable def Z_zbv : Nat → Nat → List Nat := fun _ _ => []
noncomputable def O_zbv : List (Nat × LD) := [(2, DL_zbv_2), (0, DL_zbv_0)]
noncomputable def C_zbv : Code := (f37.body).getD .skip
noncomputable def S_zcr_0 (k : Y1 × Y1) (v : Int) : Tr ((Int) ⊕ ((Unit) ⊕ (Bool))) :=
 .t (decide (v < ((List.length k.1 : Nat) : Int)))
 (.g (inR v (List.length k.1)) <|
 .g (inR v (List.length k.2)) <|
 .t ((List.getD k.1 (Int.toNat v) (0 : Int)) != (List.getD k.2 (Int.toNat v) (0 : Int)))
 (.g (inR v (List.length k.1)) <|
 .g (inR v (List.length k.2)) <|
 .l (.inr (.inr (decide ((List.getD k.1 (Int.toNat v) (0 : Int)) < (List.getD k.2 (Int.toNat v) (0 : Int)))))))
 (.l (.inl (IntKind.wrap .i64 (v + (1 : Int))))))
 (.l (.inr (.inl ())))
noncomputable def L_zcr_0 (k : Y1 × Y1) (v : Int) : Option ((Unit) ⊕ (Bool)) := iter (fun v => (S_zcr_0 k v).ev) v
noncomputable def DL_zcr_0 : LD := ⟨(yh [0, 1, 5] (.cons (.dat y1) (.cons (.dat y1) (.cons (.dat yi) .nil)))), [(0, (yh [] .nil))], (yh [4] (.cons (.dat .bool) .nil)), Y1 × Y1, Int, (Unit) ⊕ (Bool), fun k v => ((k.1, (k.2, (v, ()))), ()), fun t => (t.1.1, t.1.2.1), fun t => t.1.2.2.1, S_zcr_0, fun _ r => .s (Unit) (Bool) r (fun _ => .l (.exit 0 (mkSt ((ys [] .nil)) ((), ())))) (fun b => .l (.ret (mkSt ((ys [4] (.cons (.dat .bool) .nil))) ((b, ()), ()))))⟩
noncomputable def T_zcr (a1_ : Y1) (a2_ : Y1) : Tr (Bool) :=
 .t (((List.length a1_ : Nat) : Int) != ((List.length a2_ : Nat) : Int))
 (.l (decide (((List.length a1_ : Nat) : Int) < ((List.length a2_ : Nat) : Int))))
 (.c ((Unit) ⊕ (Bool)) (L_zcr_0 (a1_, a2_) (0 : Int)) fun r5_ =>
 .s (Unit) (Bool) r5_
 (fun _ => .l false)
 (fun r7_ => .l r7_))
noncomputable def F_zcr (a1_ : Y1) (a2_ : Y1) : Option (Bool) := (T_zcr a1_ a2_).ev
noncomputable def A_zcr : Sh := (.cons (.dat y1) (.cons (.dat y1) .nil))
noncomputable def I_zcr : List (Nat × OSh) := []
noncomputable def K_zcr : RetK := { acts := [], res := [.tmp 4], sh := (.cons (.dat .bool) .nil), obs := [], pins := [] }
noncomputable def D_zcr : FD := ⟨A_zcr, I_zcr, [], Bool, fun x => F_zcr x.1.1 x.1.2.1, fun r => ([.dat .bool r], [])⟩
noncomputable def E_zcr : Env := envOf []
noncomputable def Z_zcr : Nat → Nat → List Nat := fun _ _ => []
noncomputable def O_zcr : List (Nat × LD) := [(0, DL_zcr_0)]
noncomputable def C_zcr : Code := (f108.body).getD .skip
noncomputable def S_zcw_2 (k : Int × (Y2 × (Int × Y1))) (v : Int) : Tr ((Int) ⊕ (Int)) :=
 .t (decide ((0 : Int) < v))
 (.g (inR (IntKind.wrap .i64 (v - (1 : Int))) (List.length k.2.1)) <|
 .c (Bool) (F_zcr k.2.2.2 (List.getD k.2.1 (Int.toNat (IntKind.wrap .i64 (v - (1 : Int)))) ([] : Y1))) fun r26_ =>
 .t r26_
 (.l (.inl (IntKind.wrap .i64 (v - (1 : Int)))))
 (.l (.inr v)))
 (.l (.inr v))
noncomputable def L_zcw_2 (k : Int × (Y2 × (Int × Y1))) (v : Int) : Option (Int) := iter (fun v => (S_zcw_2 k v).ev) v
noncomputable def DL_zcw_2 : LD := ⟨{ acts := [], S := { slots := [0, 3, 4, 5, 6], sh := (.cons (.dat yi) (.cons (.dat y2) (.cons (.dat yi) (.cons (.arr 1024) (.cons (.dat yi) .nil))))), obs := [(1024, .arr 3 yi)] } }, [(2, { acts := [], S := { slots := [0, 3, 4, 5, 6], sh := (.cons (.dat yi) (.cons (.dat y2) (.cons (.dat yi) (.cons (.arr 1024) (.cons (.dat yi) .nil))))), obs := [(1024, .arr 3 yi)] } })], (yh [] .nil), Int × (Y2 × (Int × Y1)), Int, Int, fun k v => ((k.1, (k.2.1, (k.2.2.1, ((), (v, ()))))), (k.2.2.2, ())), fun t => (t.1.1, (t.1.2.1, (t.1.2.2.1, t.2.1))), fun t => t.1.2.2.2.2.1, S_zcw_2, fun k r => .l (.exit 2 (mkSt ({ slots := [0, 3, 4, 5, 6], sh := (.cons (.dat yi) (.cons (.dat y2) (.cons (.dat yi) (.cons (.arr 1024) (.cons (.dat yi) .nil))))), obs := [(1024, .arr 3 yi)] }) ((k.1, (k.2.1, (k.2.2.1, ((), (r, ()))))), (k.2.2.2, ()))))⟩
noncomputable def S_zcw_0 (k : Int) (v : Y2 × Int) : Tr ((Y2 × Int) ⊕ Y2) :=
 .g (decide ((0 : Int) ≤ k)) <|
 .t (decide (v.2 < (IntKind.wrap .i64 ((1 : Int) * 2 ^ (min (Int.toNat k) (IntKind.bits .i64))))))
 (.c Y1 (F_zcs k v.2) fun r20_ =>
 .c (Int) (L_zcw_2 (k, (v.1, (v.2, r20_))) ((List.length v.1 : Nat) : Int)) fun r32_ =>
 .g (decide ((0 : Int) ≤ r32_) && decide (r32_ ≤ ((List.length v.1 : Nat) : Int))) <|
 .g (decide ((List.length ([] : List Y1) + List.length (List.drop 0 (List.take (Int.toNat r32_) v.1))) * 24 ≤ 140737488355328)) <|
 .g (decide ((List.length (([] : List Y1) ++ (List.drop 0 (List.take (Int.toNat r32_) v.1))) + List.length ([r20_] : List Y1)) * 24 ≤ 140737488355328)) <|
 .g (decide ((0 : Int) ≤ r32_) && decide (r32_ ≤ ((List.length v.1 : Nat) : Int))) <|
 .g (decide ((List.length ((([] : List Y1) ++ (List.drop 0 (List.take (Int.toNat r32_) v.1))) ++ ([r20_] : List Y1)) + List.length (List.drop (Int.toNat r32_) (List.take (List.length v.1) v.1))) * 24 ≤ 140737488355328)) <|
 .l (.inl ((((([] : List Y1) ++ (List.drop 0 (List.take (Int.toNat r32_) v.1))) ++ ([r20_] : List Y1)) ++ (List.drop (Int.toNat r32_) (List.take (List.length v.1) v.1))), (IntKind.wrap .i64 (v.2 + (1 : Int))))))
 (.l (.inr v.1))
noncomputable def L_zcw_0 (k : Int) (v : Y2 × Int) : Option Y2 := iter (fun v => (S_zcw_0 k v).ev) v
noncomputable def DL_zcw_0 : LD := ⟨{ acts := [.fz 7, .fz 32], S := (ys [0, 3, 4] (.cons (.dat yi) (.cons (.dat y2) (.cons (.dat yi) .nil)))) }, [(0, (yh [3] (.cons (.dat y2) .nil)))], (yh [] .nil), Int, Y2 × (Int), List Y1, fun k v => ((k, (v.1, (v.2, ()))), ()), fun t => t.1.1, fun t => (t.1.2.1, t.1.2.2.1), S_zcw_0, fun _ r => .l (.exit 0 (mkSt ((ys [3] (.cons (.dat y2) .nil))) ((r, ()), ())))⟩
noncomputable def T_zcw (a1_ : Int) : Tr Y2 :=
 .c Y2 (L_zcw_0 a1_ (([] : List Y1), (1 : Int))) fun r34_ =>
 .l r34_
noncomputable def F_zcw (a1_ : Int) : Option Y2 := (T_zcw a1_).ev
noncomputable def A_zcw : Sh := (.cons (.dat yi) .nil)
noncomputable def I_zcw : List (Nat × OSh) := []
noncomputable def K_zcw : RetK := { acts := [], res := [.tmp 2], sh := (.cons (.dat y2) .nil), obs := [], pins := [] }
noncomputable def D_zcw : FD := ⟨A_zcw, I_zcw, [], List Y1, fun x => F_zcw x.1.1, fun r => ([.dat y2 r], [])⟩
noncomputable def E_zcw : Env := envOf [(77, D_zcs), (108, D_zcr)]
noncomputable def Z_zcw : Nat → Nat → List Nat := fun r i => match look [(8, [(0, [3, 5])])] r with
 | some l => (look l i).getD []
 | none => []
noncomputable def O_zcw : List (Nat × LD) := [(2, DL_zcw_2), (0, DL_zcw_0)]
noncomputable def C_zcw : Code := (f100.body).getD .skip
noncomputable def T_zcb (a1_ : Y1) (_a2_ : Y1) (_a3_ : Y1) (_a4_ : Y3) : Tr Y2 :=
 .c Y2 (F_zcw ((List.length a1_ : Nat) : Int)) fun r1_ =>
 .g (decide ((List.length ([([] : Y1)] : List Y1) + List.length r1_) * 24 ≤ 140737488355328)) <|
 .l (([([] : Y1)] : List Y1) ++ r1_)
noncomputable def F_zcb (a1_ : Y1) (a2_ : Y1) (a3_ : Y1) (a4_ : Y3) : Option Y2 := (T_zcb a1_ a2_ a3_ a4_).ev
noncomputable def A_zcb : Sh := (.cons (.agg (.cons (.dat y1) (.cons (.dat y1) (.cons (.dat y1) (.cons (.dat y3) .nil))))) .nil)
noncomputable def I_zcb : List (Nat × OSh) := []
noncomputable def K_zcb : RetK := { acts := [.ren 4 0], res := [.tmp 2], sh := (.cons (.arr 0) .nil), obs := [(0, .arr 24 y1)], pins := [] }
noncomputable def D_zcb : FD := ⟨A_zcb, I_zcb, [], List Y1, fun x => F_zcb x.1.1.1 x.1.1.2.1 x.1.1.2.2.1 x.1.1.2.2.2.1, fun r => ([.arr 0], [(0, .arr 24 y1 r)])⟩
noncomputable def E_zcb : Env := envOf [(100, D_zcw)]
noncomputable def Z_zcb : Nat → Nat → List Nat := fun r i => match look [(1, [(1, [3])])] r with
 | some l => (look l i).getD []
 | none => []
noncomputable def O_zcb : List (Nat × LD) := []
noncomputable def C_zcb : Code := (f70.body).getD .skip
noncomputable def S_zcq_0 (k : Y1 × (Int × Int)) (v : Int) : Tr ((Int) ⊕ ((Unit) ⊕ (Unit))) :=
 .t (decide (v < ((List.length k.1 : Nat) : Int)))
 (.g (inR v (List.length k.1)) <|
 .c (Bool) (F_zcm (List.getD k.1 (Int.toNat v) (0 : Int)) k.2.1 k.2.2) fun r5_ =>
 .t (!r5_)
 (.l (.inr (.inr ())))
 (.t (decide ((0 : Int) < v))
 (.g (inR (IntKind.wrap .i64 (v - (1 : Int))) (List.length k.1)) <|
 .g (inR v (List.length k.1)) <|
 .t (decide ((List.getD k.1 (Int.toNat v) (0 : Int)) ≤ (List.getD k.1 (Int.toNat (IntKind.wrap .i64 (v - (1 : Int)))) (0 : Int))))
 (.l (.inr (.inr ())))
 (.l (.inl (IntKind.wrap .i64 (v + (1 : Int))))))
 (.l (.inl (IntKind.wrap .i64 (v + (1 : Int)))))))
 (.l (.inr (.inl ())))
noncomputable def L_zcq_0 (k : Y1 × (Int × Int)) (v : Int) : Option ((Unit) ⊕ (Unit)) := iter (fun v => (S_zcq_0 k v).ev) v
noncomputable def DL_zcq_0 : LD := ⟨(yh [0, 1, 2, 7] (.cons (.dat y1) (.cons (.dat yi) (.cons (.dat yi) (.cons (.dat yi) .nil))))), [(0, (yh [] .nil))], (yh [6] (.cons (.dat .bool) .nil)), Y1 × (Int × Int), Int, (Unit) ⊕ (Unit), fun k v => ((k.1, (k.2.1, (k.2.2, (v, ())))), ()), fun t => (t.1.1, (t.1.2.1, t.1.2.2.1)), fun t => t.1.2.2.2.1, S_zcq_0, fun _ r => .s (Unit) (Unit) r (fun _ => .l (.exit 0 (mkSt ((ys [] .nil)) ((), ())))) (fun _ => .l (.ret (mkSt ((ys [6] (.cons (.dat .bool) .nil))) ((false, ()), ()))))⟩
noncomputable def T_zcq (a1_ : Y1) (a2_ : Int) (a3_ : Int) : Tr (Bool) :=
 .c ((Unit) ⊕ (Unit)) (L_zcq_0 (a1_, (a2_, a3_)) (0 : Int)) fun r7_ =>
 .s (Unit) (Unit) r7_
 (fun _ => .l true)
 (fun _ => .l false)
noncomputable def F_zcq (a1_ : Y1) (a2_ : Int) (a3_ : Int) : Option (Bool) := (T_zcq a1_ a2_ a3_).ev
noncomputable def A_zcq : Sh := (.cons (.dat y1) (.cons (.dat yi) (.cons (.dat yi) .nil)))
noncomputable def I_zcq : List (Nat × OSh) := []
noncomputable def K_zcq : RetK := { acts := [], res := [.tmp 6], sh := (.cons (.dat .bool) .nil), obs := [], pins := [] }
noncomputable def D_zcq : FD := ⟨A_zcq, I_zcq, [], Bool, fun x => F_zcq x.1.1 x.1.2.1 x.1.2.2.1, fun r => ([.dat .bool r], [])⟩
noncomputable def E_zcq : Env := envOf [(82, D_zcm)]
noncomputable def Z_zcq : Nat → Nat → List Nat := fun _ _ => []
noncomputable def O_zcq : List (Nat × LD) := [(0, DL_zcq_0)]
noncomputable def C_zcq : Code := (f83.body).getD .skip
noncomputable def T_zbw (a1_ : Y1) (_a2_ : Y1) (_a3_ : Y1) (a4_ : Y3) (a5_ : Int) (a6_ : Y1) : Tr (Bool) :=
 .c (Bool) (F_zcq a6_ (0 : Int) (IntKind.wrap .i64 (((List.length a1_ : Nat) : Int) - (1 : Int)))) fun r1_ =>
 .t r1_
 (.t (decide ((0 : Int) < ((List.length a6_ : Nat) : Int)))
 (.l true)
 (.g (inR a5_ (List.length a4_)) <|
 .l (((List.length (List.getD a4_ (Int.toNat a5_) ([] : List Y1)) : Nat) : Int) == (0 : Int))))
 (.l false)
noncomputable def F_zbw (a1_ : Y1) (a2_ : Y1) (a3_ : Y1) (a4_ : Y3) (a5_ : Int) (a6_ : Y1) : Option (Bool) := (T_zbw a1_ a2_ a3_ a4_ a5_ a6_).ev
noncomputable def A_zbw : Sh := (.cons (.agg (.cons (.dat y1) (.cons (.dat y1) (.cons (.dat y1) (.cons (.dat y3) .nil))))) (.cons (.dat yi) (.cons (.dat y1) .nil)))
noncomputable def I_zbw : List (Nat × OSh) := []
noncomputable def K_zbw : RetK := { acts := [], res := [.tmp 6], sh := (.cons (.dat .bool) .nil), obs := [], pins := [] }
noncomputable def D_zbw : FD := ⟨A_zbw, I_zbw, [], Bool, fun x => F_zbw x.1.1.1 x.1.1.2.1 x.1.1.2.2.1 x.1.1.2.2.2.1 x.1.2.1 x.1.2.2.1, fun r => ([.dat .bool r], [])⟩
noncomputable def E_zbw : Env := envOf [(83, D_zcq)]
noncomputable def Z_zbw : Nat → Nat → List Nat := fun _ _ => []
noncomputable def O_zbw : List (Nat × LD) := []
noncomputable def C_zbw : Code := (f73.body).getD .skip
noncomputable def S_zcx_0 (k : Int × (Y1 × (Y1 × Y2))) (v : Int × Int) : Tr ((Int × Int) ⊕ (Int)) :=
 .t (decide (v.2 < ((List.length k.2.1 : Nat) : Int)))
 (.g (inR k.1 (List.length k.2.2.2)) <|
 .g (inR v.2 (List.length k.2.1)) <|
 .g (inR (List.getD k.2.1 (Int.toNat v.2) (0 : Int)) (List.length (List.getD k.2.2.2 (Int.toNat k.1) ([] : Y1)))) <|
 .g (inR k.1 (List.length k.2.2.2)) <|
 .g (inR v.1 (List.length (List.getD k.2.2.2 (Int.toNat k.1) ([] : Y1)))) <|
 .t (decide ((List.getD (List.getD k.2.2.2 (Int.toNat k.1) ([] : Y1)) (Int.toNat (List.getD k.2.1 (Int.toNat v.2) (0 : Int))) (0 : Int)) < (List.getD (List.getD k.2.2.2 (Int.toNat k.1) ([] : Y1)) (Int.toNat v.1) (0 : Int))))
 (.g (inR v.2 (List.length k.2.1)) <|
 .l (.inl ((List.getD k.2.1 (Int.toNat v.2) (0 : Int)), (IntKind.wrap .i64 (v.2 + (1 : Int))))))
 (.l (.inl (v.1, (IntKind.wrap .i64 (v.2 + (1 : Int)))))))
 (.l (.inr v.1))
noncomputable def L_zcx_0 (k : Int × (Y1 × (Y1 × Y2))) (v : Int × Int) : Option (Int) := iter (fun v => (S_zcx_0 k v).ev) v
noncomputable def DL_zcx_0 : LD := ⟨{ acts := [], S := { slots := [1, 2, 3, 7, 8], sh := (.cons (.dat yi) (.cons (.dat y1) (.cons (.box 3 0) (.cons (.dat yi) (.cons (.dat yi) .nil))))), obs := [(3, .cells (.cons (.dat y1) (.cons (.dat y2) .nil)))] } }, [(0, (yh [7] (.cons (.dat yi) .nil)))], (yh [] .nil), Int × (Y1 × (Y1 × Y2)), Int × (Int), Int, fun k v => ((k.1, (k.2.1, ((), (v.1, (v.2, ()))))), ((k.2.2.1, (k.2.2.2, ())), ())), fun t => (t.1.1, (t.1.2.1, (t.2.1.1, t.2.1.2.1))), fun t => (t.1.2.2.2.1, t.1.2.2.2.2.1), S_zcx_0, fun _ r => .l (.exit 0 (mkSt ((ys [7] (.cons (.dat yi) .nil))) ((r, ()), ())))⟩
noncomputable def T_zcx (a1_ : Y1) (a2_ : List Y1) (a3_ : Int) (a4_ : Y1) : Tr (Int) :=
 .g (inR (0 : Int) (List.length a4_)) <|
 .c (Int) (L_zcx_0 (a3_, (a4_, (a1_, a2_))) ((List.getD a4_ (Int.toNat (0 : Int)) (0 : Int)), (1 : Int))) fun r8_ =>
 .l r8_
noncomputable def F_zcx (a1_ : Y1) (a2_ : List Y1) (a3_ : Int) (a4_ : Y1) : Option (Int) := (T_zcx a1_ a2_ a3_ a4_).ev
noncomputable def A_zcx : Sh := (.cons (.agg (.cons (.dat y1) (.cons (.dat y2) .nil))) (.cons (.dat yi) (.cons (.dat y1) .nil)))
noncomputable def I_zcx : List (Nat × OSh) := []
noncomputable def K_zcx : RetK := { acts := [], res := [.tmp 6], sh := (.cons (.dat yi) .nil), obs := [], pins := [] }
noncomputable def D_zcx : FD := ⟨A_zcx, I_zcx, [], Int, fun x => F_zcx x.1.1.1 x.1.1.2.1 x.1.2.1 x.1.2.2.1, fun r => ([.dat yi r], [])⟩
noncomputable def E_zcx : Env := envOf []
noncomputable def Z_zcx : Nat → Nat → List Nat := fun _ _ => []
noncomputable def O_zcx : List (Nat × LD) := [(0, DL_zcx_0)]
noncomputable def C_zcx : Code := (f116.body).getD .skip
noncomputable def T_zct (a1_ : Y1) (a2_ : List Y1) (a3_ : Int) (a4_ : Y1) : Tr (Int) :=
 .g (inR a3_ (List.length a2_)) <|
 .c (Int) (F_zcx a1_ a2_ a3_ a4_) fun r1_ =>
 .g (inR r1_ (List.length (List.getD a2_ (Int.toNat a3_) ([] : Y1)))) <|
 .l (List.getD (List.getD a2_ (Int.toNat a3_) ([] : Y1)) (Int.toNat r1_) (0 : Int))
noncomputable def F_zct (a1_ : Y1) (a2_ : List Y1) (a3_ : Int) (a4_ : Y1) : Option (Int) := (T_zct a1_ a2_ a3_ a4_).ev
noncomputable def A_zct : Sh := (.cons (.agg (.cons (.dat y1) (.cons (.dat y2) .nil))) (.cons (.dat yi) (.cons (.dat y1) .nil)))
noncomputable def I_zct : List (Nat × OSh) := []
noncomputable def K_zct : RetK := { acts := [], res := [.tmp 6], sh := (.cons (.dat yi) .nil), obs := [], pins := [] }
noncomputable def D_zct : FD := ⟨A_zct, I_zct, [], Int, fun x => F_zct x.1.1.1 x.1.1.2.1 x.1.2.1 x.1.2.2.1, fun r => ([.dat yi r], [])⟩
noncomputable def E_zct : Env := envOf [(116, D_zcx)]
noncomputable def Z_zct : Nat → Nat → List Nat := fun _ _ => []
noncomputable def O_zct : List (Nat × LD) := []
noncomputable def C_zct : Code := (f109.body).getD .skip
noncomputable def S_zcv_0 (k : Y1 × (Y1 × Y2)) (v : Int × Int) : Tr ((Int × Int) ⊕ (Int)) :=
 .t (decide (v.2 < ((List.length k.2.2 : Nat) : Int)))
 (.c (Int) (F_zct k.2.1 k.2.2 v.2 k.1) fun r6_ =>
 .l (.inl ((IntKind.wrap .i64 (v.1 + r6_)), (IntKind.wrap .i64 (v.2 + (1 : Int))))))
 (.l (.inr v.1))
noncomputable def L_zcv_0 (k : Y1 × (Y1 × Y2)) (v : Int × Int) : Option (Int) := iter (fun v => (S_zcv_0 k v).ev) v
noncomputable def DL_zcv_0 : LD := ⟨{ acts := [], S := { slots := [1, 2, 5, 6], sh := (.cons (.dat y1) (.cons (.box 2 0) (.cons (.dat yi) (.cons (.dat yi) .nil)))), obs := [(2, .cells (.cons (.dat y1) (.cons (.dat y2) .nil)))] } }, [(0, (yh [5] (.cons (.dat yi) .nil)))], (yh [] .nil), Y1 × (Y1 × Y2), Int × (Int), Int, fun k v => ((k.1, ((), (v.1, (v.2, ())))), ((k.2.1, (k.2.2, ())), ())), fun t => (t.1.1, (t.2.1.1, t.2.1.2.1)), fun t => (t.1.2.2.1, t.1.2.2.2.1), S_zcv_0, fun _ r => .l (.exit 0 (mkSt ((ys [5] (.cons (.dat yi) .nil))) ((r, ()), ())))⟩
noncomputable def T_zcv (a1_ : Y1) (a2_ : List Y1) (a3_ : Y1) : Tr (Int) :=
 .c (Int) (L_zcv_0 (a3_, (a1_, a2_)) ((0 : Int), (0 : Int))) fun r8_ =>
 .l r8_
noncomputable def F_zcv (a1_ : Y1) (a2_ : List Y1) (a3_ : Y1) : Option (Int) := (T_zcv a1_ a2_ a3_).ev
noncomputable def A_zcv : Sh := (.cons (.agg (.cons (.dat y1) (.cons (.dat y2) .nil))) (.cons (.dat y1) .nil))
noncomputable def I_zcv : List (Nat × OSh) := []
noncomputable def K_zcv : RetK := { acts := [], res := [.tmp 4], sh := (.cons (.dat yi) .nil), obs := [], pins := [] }
noncomputable def D_zcv : FD := ⟨A_zcv, I_zcv, [], Int, fun x => F_zcv x.1.1.1 x.1.1.2.1 x.1.2.1, fun r => ([.dat yi r], [])⟩
noncomputable def E_zcv : Env := envOf [(109, D_zct)]
noncomputable def Z_zcv : Nat → Nat → List Nat := fun _ _ => []
noncomputable def O_zcv : List (Nat × LD) := [(0, DL_zcv_0)]
noncomputable def C_zcv : Code := (f101.body).getD .skip
noncomputable def S_zcl_0 (k : Y1 × Int) (v : Int) : Tr ((Int) ⊕ ((Unit) ⊕ (Unit))) :=
 .t (decide (v < ((List.length k.1 : Nat) : Int)))
 (.g (inR v (List.length k.1)) <|
 .t ((List.getD k.1 (Int.toNat v) (0 : Int)) == k.2)
 (.l (.inr (.inr ())))
 (.l (.inl (IntKind.wrap .i64 (v + (1 : Int))))))
 (.l (.inr (.inl ())))
noncomputable def L_zcl_0 (k : Y1 × Int) (v : Int) : Option ((Unit) ⊕ (Unit)) := iter (fun v => (S_zcl_0 k v).ev) v
noncomputable def DL_zcl_0 : LD := ⟨(yh [0, 1, 5] (.cons (.dat y1) (.cons (.dat yi) (.cons (.dat yi) .nil)))), [(0, (yh [] .nil))], (yh [4] (.cons (.dat .bool) .nil)), Y1 × (Int), Int, (Unit) ⊕ (Unit), fun k v => ((k.1, (k.2, (v, ()))), ()), fun t => (t.1.1, t.1.2.1), fun t => t.1.2.2.1, S_zcl_0, fun _ r => .s (Unit) (Unit) r (fun _ => .l (.exit 0 (mkSt ((ys [] .nil)) ((), ())))) (fun _ => .l (.ret (mkSt ((ys [4] (.cons (.dat .bool) .nil))) ((true, ()), ()))))⟩
noncomputable def T_zcl (a1_ : Y1) (a2_ : Int) : Tr (Bool) :=
 .c ((Unit) ⊕ (Unit)) (L_zcl_0 (a1_, a2_) (0 : Int)) fun r5_ =>
 .s (Unit) (Unit) r5_
 (fun _ => .l false)
 (fun _ => .l true)
noncomputable def F_zcl (a1_ : Y1) (a2_ : Int) : Option (Bool) := (T_zcl a1_ a2_).ev
noncomputable def A_zcl : Sh := (.cons (.dat y1) (.cons (.dat yi) .nil))
noncomputable def I_zcl : List (Nat × OSh) := []
noncomputable def K_zcl : RetK := { acts := [], res := [.tmp 4], sh := (.cons (.dat .bool) .nil), obs := [], pins := [] }
noncomputable def D_zcl : FD := ⟨A_zcl, I_zcl, [], Bool, fun x => F_zcl x.1.1 x.1.2.1, fun r => ([.dat .bool r], [])⟩
noncomputable def E_zcl : Env := envOf []
noncomputable def Z_zcl : Nat → Nat → List Nat := fun _ _ => []
noncomputable def O_zcl : List (Nat × LD) := [(0, DL_zcl_0)]
noncomputable def C_zcl : Code := (f102.body).getD .skip
noncomputable def S_zbx_0 (k : Y1 × (Y1 × (Y1 × (Y1 × (Y1 × Y3))))) (v : Int × Int) : Tr ((Int × Int) ⊕ (Int)) :=
 .t (decide (v.2 < ((List.length k.2.2.1 : Nat) : Int)))
 (.c (Bool) (F_zcl k.2.1 v.2) fun r10_ =>
 .c (Bool) (F_zcl k.1 v.2) fun r11_ =>
 .t r10_
 (.g (inR v.2 (List.length k.2.2.2.2.1)) <|
 .t r10_
 (.t (!r11_)
 (.g (inR v.2 (List.length k.2.2.1)) <|
 .t r11_
 (.t (!r10_)
 (.g (inR v.2 (List.length k.2.2.2.1)) <|
 .l (.inl ((IntKind.wrap .i64 ((IntKind.wrap .i64 ((IntKind.wrap .i64 (v.1 + (List.getD k.2.2.2.2.1 (Int.toNat v.2) (0 : Int)))) + (List.getD k.2.2.1 (Int.toNat v.2) (0 : Int)))) + (List.getD k.2.2.2.1 (Int.toNat v.2) (0 : Int)))), (IntKind.wrap .i64 (v.2 + (1 : Int))))))
 (.l (.inl ((IntKind.wrap .i64 ((IntKind.wrap .i64 (v.1 + (List.getD k.2.2.2.2.1 (Int.toNat v.2) (0 : Int)))) + (List.getD k.2.2.1 (Int.toNat v.2) (0 : Int)))), (IntKind.wrap .i64 (v.2 + (1 : Int)))))))
 (.l (.inl ((IntKind.wrap .i64 ((IntKind.wrap .i64 (v.1 + (List.getD k.2.2.2.2.1 (Int.toNat v.2) (0 : Int)))) + (List.getD k.2.2.1 (Int.toNat v.2) (0 : Int)))), (IntKind.wrap .i64 (v.2 + (1 : Int)))))))
 (.t r11_
 (.t (!r10_)
 (.g (inR v.2 (List.length k.2.2.2.1)) <|
 .l (.inl ((IntKind.wrap .i64 ((IntKind.wrap .i64 (v.1 + (List.getD k.2.2.2.2.1 (Int.toNat v.2) (0 : Int)))) + (List.getD k.2.2.2.1 (Int.toNat v.2) (0 : Int)))), (IntKind.wrap .i64 (v.2 + (1 : Int))))))
 (.l (.inl ((IntKind.wrap .i64 (v.1 + (List.getD k.2.2.2.2.1 (Int.toNat v.2) (0 : Int)))), (IntKind.wrap .i64 (v.2 + (1 : Int)))))))
 (.l (.inl ((IntKind.wrap .i64 (v.1 + (List.getD k.2.2.2.2.1 (Int.toNat v.2) (0 : Int)))), (IntKind.wrap .i64 (v.2 + (1 : Int))))))))
 (.t r11_
 (.t (!r10_)
 (.g (inR v.2 (List.length k.2.2.2.1)) <|
 .l (.inl ((IntKind.wrap .i64 ((IntKind.wrap .i64 (v.1 + (List.getD k.2.2.2.2.1 (Int.toNat v.2) (0 : Int)))) + (List.getD k.2.2.2.1 (Int.toNat v.2) (0 : Int)))), (IntKind.wrap .i64 (v.2 + (1 : Int))))))
 (.l (.inl ((IntKind.wrap .i64 (v.1 + (List.getD k.2.2.2.2.1 (Int.toNat v.2) (0 : Int)))), (IntKind.wrap .i64 (v.2 + (1 : Int)))))))
 (.l (.inl ((IntKind.wrap .i64 (v.1 + (List.getD k.2.2.2.2.1 (Int.toNat v.2) (0 : Int)))), (IntKind.wrap .i64 (v.2 + (1 : Int))))))))
 (.t r10_
 (.t (!r11_)
 (.g (inR v.2 (List.length k.2.2.1)) <|
 .t r11_
 (.t (!r10_)
 (.g (inR v.2 (List.length k.2.2.2.1)) <|
 .l (.inl ((IntKind.wrap .i64 ((IntKind.wrap .i64 (v.1 + (List.getD k.2.2.1 (Int.toNat v.2) (0 : Int)))) + (List.getD k.2.2.2.1 (Int.toNat v.2) (0 : Int)))), (IntKind.wrap .i64 (v.2 + (1 : Int))))))
 (.l (.inl ((IntKind.wrap .i64 (v.1 + (List.getD k.2.2.1 (Int.toNat v.2) (0 : Int)))), (IntKind.wrap .i64 (v.2 + (1 : Int)))))))
 (.l (.inl ((IntKind.wrap .i64 (v.1 + (List.getD k.2.2.1 (Int.toNat v.2) (0 : Int)))), (IntKind.wrap .i64 (v.2 + (1 : Int)))))))
 (.t r11_
 (.t (!r10_)
 (.g (inR v.2 (List.length k.2.2.2.1)) <|
 .l (.inl ((IntKind.wrap .i64 (v.1 + (List.getD k.2.2.2.1 (Int.toNat v.2) (0 : Int)))), (IntKind.wrap .i64 (v.2 + (1 : Int))))))
 (.l (.inl (v.1, (IntKind.wrap .i64 (v.2 + (1 : Int)))))))
 (.l (.inl (v.1, (IntKind.wrap .i64 (v.2 + (1 : Int))))))))
 (.t r11_
 (.t (!r10_)
 (.g (inR v.2 (List.length k.2.2.2.1)) <|
 .l (.inl ((IntKind.wrap .i64 (v.1 + (List.getD k.2.2.2.1 (Int.toNat v.2) (0 : Int)))), (IntKind.wrap .i64 (v.2 + (1 : Int))))))
 (.l (.inl (v.1, (IntKind.wrap .i64 (v.2 + (1 : Int)))))))
 (.l (.inl (v.1, (IntKind.wrap .i64 (v.2 + (1 : Int)))))))))
 (.l (.inr v.1))
noncomputable def L_zbx_0 (k : Y1 × (Y1 × (Y1 × (Y1 × (Y1 × Y3))))) (v : Int × Int) : Option (Int) := iter (fun v => (S_zbx_0 k v).ev) v
noncomputable def DL_zbx_0 : LD := ⟨{ acts := [], S := { slots := [2, 3, 4, 9, 10], sh := (.cons (.dat y1) (.cons (.dat y1) (.cons (.box 4 0) (.cons (.dat yi) (.cons (.dat yi) .nil))))), obs := [(4, .cells (.cons (.dat y1) (.cons (.dat y1) (.cons (.dat y1) (.cons (.dat y3) .nil)))))] } }, [(0, (yh [9] (.cons (.dat yi) .nil)))], (yh [] .nil), Y1 × (Y1 × (Y1 × (Y1 × (Y1 × Y3)))), Int × (Int), Int, fun k v => ((k.1, (k.2.1, ((), (v.1, (v.2, ()))))), ((k.2.2.1, (k.2.2.2.1, (k.2.2.2.2.1, (k.2.2.2.2.2, ())))), ())), fun t => (t.1.1, (t.1.2.1, (t.2.1.1, (t.2.1.2.1, (t.2.1.2.2.1, t.2.1.2.2.2.1))))), fun t => (t.1.2.2.2.1, t.1.2.2.2.2.1), S_zbx_0, fun _ r => .l (.exit 0 (mkSt ((ys [9] (.cons (.dat yi) .nil))) ((r, ()), ())))⟩
noncomputable def T_zbx (a1_ : Y1) (a2_ : Y1) (a3_ : Y1) (a4_ : Y3) (a5_ : Int) (a6_ : Y1) (a7_ : Y1) : Tr (Int) :=
 .g (inR a5_ (List.length a4_)) <|
 .c (Int) (F_zcv a1_ (List.getD a4_ (Int.toNat a5_) ([] : List Y1)) a7_) fun r1_ =>
 .c (Int) (L_zbx_0 (a6_, (a7_, (a1_, (a2_, (a3_, a4_))))) (r1_, (0 : Int))) fun r13_ =>
 .l r13_
noncomputable def F_zbx (a1_ : Y1) (a2_ : Y1) (a3_ : Y1) (a4_ : Y3) (a5_ : Int) (a6_ : Y1) (a7_ : Y1) : Option (Int) := (T_zbx a1_ a2_ a3_ a4_ a5_ a6_ a7_).ev
noncomputable def A_zbx : Sh := (.cons (.agg (.cons (.dat y1) (.cons (.dat y1) (.cons (.dat y1) (.cons (.dat y3) .nil))))) (.cons (.dat yi) (.cons (.dat y1) (.cons (.dat y1) .nil))))
noncomputable def I_zbx : List (Nat × OSh) := []
noncomputable def K_zbx : RetK := { acts := [], res := [.tmp 8], sh := (.cons (.dat yi) .nil), obs := [], pins := [] }
noncomputable def D_zbx : FD := ⟨A_zbx, I_zbx, [], Int, fun x => F_zbx x.1.1.1 x.1.1.2.1 x.1.1.2.2.1 x.1.1.2.2.2.1 x.1.2.1 x.1.2.2.1 x.1.2.2.2.1, fun r => ([.dat yi r], [])⟩
noncomputable def E_zbx : Env := envOf [(101, D_zcv), (102, D_zcl)]
noncomputable def Z_zbx : Nat → Nat → List Nat := fun _ _ => []
noncomputable def O_zbx : List (Nat × LD) := [(0, DL_zbx_0)]
noncomputable def C_zbx : Code := (f74.body).getD .skip
noncomputable def S_zbt_0 (k : Y1) (v : Int × Int) : Tr ((Int × Int) ⊕ (Int)) :=
 .t (decide (v.2 < ((List.length k : Nat) : Int)))
 (.g (inR v.2 (List.length k)) <|
 .g (decide ((0 : Int) ≤ (List.getD k (Int.toNat v.2) (0 : Int)))) <|
 .l (.inl ((IntKind.wrap .i64 (v.1 + (IntKind.wrap .i64 ((1 : Int) * 2 ^ (min (Int.toNat (List.getD k (Int.toNat v.2) (0 : Int))) (IntKind.bits .i64)))))), (IntKind.wrap .i64 (v.2 + (1 : Int))))))
 (.l (.inr v.1))
noncomputable def L_zbt_0 (k : Y1) (v : Int × Int) : Option (Int) := iter (fun v => (S_zbt_0 k v).ev) v
noncomputable def DL_zbt_0 : LD := ⟨(yh [0, 3, 4] (.cons (.dat y1) (.cons (.dat yi) (.cons (.dat yi) .nil)))), [(0, (yh [3] (.cons (.dat yi) .nil)))], (yh [] .nil), Y1, Int × (Int), Int, fun k v => ((k, (v.1, (v.2, ()))), ()), fun t => t.1.1, fun t => (t.1.2.1, t.1.2.2.1), S_zbt_0, fun _ r => .l (.exit 0 (mkSt ((ys [3] (.cons (.dat yi) .nil))) ((r, ()), ())))⟩
noncomputable def T_zbt (a1_ : Y1) : Tr (Int) :=
 .c (Int) (L_zbt_0 a1_ ((0 : Int), (0 : Int))) fun r5_ =>
 .l r5_
noncomputable def F_zbt (a1_ : Y1) : Option (Int) := (T_zbt a1_).ev
noncomputable def A_zbt : Sh := (.cons (.dat y1) .nil)
noncomputable def I_zbt : List (Nat × OSh) := []
noncomputable def K_zbt : RetK := { acts := [], res := [.tmp 2], sh := (.cons (.dat yi) .nil), obs := [], pins := [] }
noncomputable def D_zbt : FD := ⟨A_zbt, I_zbt, [], Int, fun x => F_zbt x.1.1, fun r => ([.dat yi r], [])⟩
noncomputable def E_zbt : Env := envOf []
noncomputable def Z_zbt : Nat → Nat → List Nat := fun _ _ => []
noncomputable def O_zbt : List (Nat × LD) := [(0, DL_zbt_0)]
noncomputable def C_zbt : Code := (f85.body).getD .skip
noncomputable def S_zbu_4 (k : Int × (Int × (Y1 × (Y1 × (Y1 × (Y3 × (Y2 × (Y2 × Y1)))))))) (v : Int × Int) : Tr ((Int × Int) ⊕ (Int)) :=
 .t (decide (v.2 < ((List.length k.2.2.2.2.2.2.2.1 : Nat) : Int)))
 (.g (inR v.2 (List.length k.2.2.2.2.2.2.2.1)) <|
 .g (decide ((Int.toNat v.2) < List.length k.2.2.2.2.2.2.2.1)) <|
 .c (Bool) (F_zbw k.2.2.1 k.2.2.2.1 k.2.2.2.2.1 k.2.2.2.2.2.1 k.1 (List.getD k.2.2.2.2.2.2.2.1 (Int.toNat v.2) ([] : Y1))) fun r29_ =>
 .t (!r29_)
 (.l (.inl (v.1, (IntKind.wrap .i64 (v.2 + (1 : Int))))))
 (.g (inR k.2.1 (List.length k.2.2.2.2.2.2.2.1)) <|
 .g (decide ((Int.toNat k.2.1) < List.length k.2.2.2.2.2.2.2.1)) <|
 .g (inR v.2 (List.length k.2.2.2.2.2.2.2.1)) <|
 .g (decide ((Int.toNat v.2) < List.length k.2.2.2.2.2.2.2.1)) <|
 .c (Int) (F_zbx k.2.2.1 k.2.2.2.1 k.2.2.2.2.1 k.2.2.2.2.2.1 k.1 (List.getD k.2.2.2.2.2.2.2.1 (Int.toNat k.2.1) ([] : Y1)) (List.getD k.2.2.2.2.2.2.2.1 (Int.toNat v.2) ([] : Y1))) fun r30_ =>
 .g (inR (0 : Int) (List.length k.2.2.2.2.2.2.1)) <|
 .g (decide ((Int.toNat (0 : Int)) < List.length k.2.2.2.2.2.2.1)) <|
 .g (inR v.2 (List.length k.2.2.2.2.2.2.2.1)) <|
 .g (decide ((Int.toNat v.2) < List.length k.2.2.2.2.2.2.2.1)) <|
 .c (Int) (F_zbt (List.getD k.2.2.2.2.2.2.2.1 (Int.toNat v.2) ([] : Y1))) fun r31_ =>
 .g (inR r31_ (List.length (List.getD k.2.2.2.2.2.2.1 (Int.toNat (0 : Int)) ([] : Y1)))) <|
 .g (decide ((Int.toNat r31_) < List.length (List.getD k.2.2.2.2.2.2.1 (Int.toNat (0 : Int)) ([] : Y1)))) <|
 .t (decide (v.1 < (0 : Int)))
 (.l (.inl ((IntKind.wrap .i64 (r30_ + (List.getD (List.getD k.2.2.2.2.2.2.1 (Int.toNat (0 : Int)) ([] : Y1)) (Int.toNat r31_) (0 : Int)))), (IntKind.wrap .i64 (v.2 + (1 : Int))))))
 (.t (decide ((IntKind.wrap .i64 (r30_ + (List.getD (List.getD k.2.2.2.2.2.2.1 (Int.toNat (0 : Int)) ([] : Y1)) (Int.toNat r31_) (0 : Int)))) < v.1))
 (.l (.inl ((IntKind.wrap .i64 (r30_ + (List.getD (List.getD k.2.2.2.2.2.2.1 (Int.toNat (0 : Int)) ([] : Y1)) (Int.toNat r31_) (0 : Int)))), (IntKind.wrap .i64 (v.2 + (1 : Int))))))
 (.l (.inl (v.1, (IntKind.wrap .i64 (v.2 + (1 : Int)))))))))
 (.l (.inr v.1))
noncomputable def L_zbu_4 (k : Int × (Int × (Y1 × (Y1 × (Y1 × (Y3 × (Y2 × (Y2 × Y1)))))))) (v : Int × Int) : Option (Int) := iter (fun v => (S_zbu_4 k v).ev) v
noncomputable def DL_zbu_4 : LD := ⟨{ acts := [], S := { slots := [1, 3, 4, 5, 6, 7, 8, 9], sh := (.cons (.box 1 0) (.cons (.arr 16) (.cons (.arr 1152) (.cons (.dat yi) (.cons (.arr 31) (.cons (.dat yi) (.cons (.dat yi) (.cons (.dat yi) .nil)))))))), obs := [(1, .cells (.cons (.dat y1) (.cons (.dat y1) (.cons (.dat y1) (.cons (.dat y3) .nil))))), (16, .rows 24 3 yi), (1152, .arr 24 y1), (31, .arr 3 yi)] } }, [(4, { acts := [], S := { slots := [1, 3, 4, 5, 6, 7, 8], sh := (.cons (.box 1 0) (.cons (.arr 16) (.cons (.arr 1152) (.cons (.dat yi) (.cons (.arr 31) (.cons (.dat yi) (.cons (.dat yi) .nil))))))), obs := [(1, .cells (.cons (.dat y1) (.cons (.dat y1) (.cons (.dat y1) (.cons (.dat y3) .nil))))), (16, .rows 24 3 yi), (1152, .arr 24 y1), (31, .arr 3 yi)] } })], (yh [] .nil), Int × (Int × (Y1 × (Y1 × (Y1 × (Y3 × (Y2 × (Y2 × Y1))))))), Int × (Int), Int, fun k v => (((), ((), ((), (k.1, ((), (k.2.1, (v.1, (v.2, ())))))))), ((k.2.2.1, (k.2.2.2.1, (k.2.2.2.2.1, (k.2.2.2.2.2.1, ())))), (k.2.2.2.2.2.2.1, (k.2.2.2.2.2.2.2.1, (k.2.2.2.2.2.2.2.2, ()))))), fun t => (t.1.2.2.2.1, (t.1.2.2.2.2.2.1, (t.2.1.1, (t.2.1.2.1, (t.2.1.2.2.1, (t.2.1.2.2.2.1, (t.2.2.1, (t.2.2.2.1, t.2.2.2.2.1)))))))), fun t => (t.1.2.2.2.2.2.2.1, t.1.2.2.2.2.2.2.2.1), S_zbu_4, fun k r => .l (.exit 4 (mkSt ({ slots := [1, 3, 4, 5, 6, 7, 8], sh := (.cons (.box 1 0) (.cons (.arr 16) (.cons (.arr 1152) (.cons (.dat yi) (.cons (.arr 31) (.cons (.dat yi) (.cons (.dat yi) .nil))))))), obs := [(1, .cells (.cons (.dat y1) (.cons (.dat y1) (.cons (.dat y1) (.cons (.dat y3) .nil))))), (16, .rows 24 3 yi), (1152, .arr 24 y1), (31, .arr 3 yi)] }) (((), ((), ((), (k.1, ((), (k.2.1, (r, ()))))))), ((k.2.2.1, (k.2.2.2.1, (k.2.2.2.2.1, (k.2.2.2.2.2.1, ())))), (k.2.2.2.2.2.2.1, (k.2.2.2.2.2.2.2.1, (k.2.2.2.2.2.2.2.2, ())))))))⟩
noncomputable def S_zbu_2 (k : Int × (Y1 × (Y1 × (Y1 × (Y3 × (Y2 × Y2)))))) (v : Int × Y1) : Tr ((Int × Y1) ⊕ Y1) :=
 .t (decide (v.1 < ((List.length k.2.2.2.2.2.2 : Nat) : Int)))
 (.c (Int) (L_zbu_4 (k.1, (v.1, (k.2.1, (k.2.2.1, (k.2.2.2.1, (k.2.2.2.2.1, (k.2.2.2.2.2.1, (k.2.2.2.2.2.2, v.2)))))))) ((-1 : Int), (0 : Int))) fun r42_ =>
 .g (inR v.1 (List.length k.2.2.2.2.2.2)) <|
 .g (decide ((Int.toNat v.1) < List.length k.2.2.2.2.2.2)) <|
 .c (Int) (F_zbt (List.getD k.2.2.2.2.2.2 (Int.toNat v.1) ([] : Y1))) fun r43_ =>
 .g (inR r43_ (List.length v.2)) <|
 .g (decide ((Int.toNat r43_) < List.length v.2)) <|
 .l (.inl ((IntKind.wrap .i64 (v.1 + (1 : Int))), (List.set v.2 (Int.toNat r43_) r42_))))
 (.l (.inr v.2))
noncomputable def L_zbu_2 (k : Int × (Y1 × (Y1 × (Y1 × (Y3 × (Y2 × Y2)))))) (v : Int × Y1) : Option Y1 := iter (fun v => (S_zbu_2 k v).ev) v
noncomputable def DL_zbu_2 : LD := ⟨{ acts := [], S := { slots := [1, 3, 4, 5, 6, 7], sh := (.cons (.box 1 0) (.cons (.arr 16) (.cons (.arr 1152) (.cons (.dat yi) (.cons (.arr 31) (.cons (.dat yi) .nil)))))), obs := [(1, .cells (.cons (.dat y1) (.cons (.dat y1) (.cons (.dat y1) (.cons (.dat y3) .nil))))), (16, .rows 24 3 yi), (1152, .arr 24 y1), (31, .arr 3 yi)] } }, [(2, { acts := [], S := { slots := [1, 3, 4, 5, 6], sh := (.cons (.box 1 0) (.cons (.arr 16) (.cons (.arr 1152) (.cons (.dat yi) (.cons (.arr 31) .nil))))), obs := [(1, .cells (.cons (.dat y1) (.cons (.dat y1) (.cons (.dat y1) (.cons (.dat y3) .nil))))), (16, .rows 24 3 yi), (1152, .arr 24 y1), (31, .arr 3 yi)] } })], (yh [] .nil), Int × (Y1 × (Y1 × (Y1 × (Y3 × (Y2 × Y2))))), Int × Y1, Y1, fun k v => (((), ((), ((), (k.1, ((), (v.1, ())))))), ((k.2.1, (k.2.2.1, (k.2.2.2.1, (k.2.2.2.2.1, ())))), (k.2.2.2.2.2.1, (k.2.2.2.2.2.2, (v.2, ()))))), fun t => (t.1.2.2.2.1, (t.2.1.1, (t.2.1.2.1, (t.2.1.2.2.1, (t.2.1.2.2.2.1, (t.2.2.1, t.2.2.2.1)))))), fun t => (t.1.2.2.2.2.2.1, t.2.2.2.2.1), S_zbu_2, fun k r => .l (.exit 2 (mkSt ({ slots := [1, 3, 4, 5, 6], sh := (.cons (.box 1 0) (.cons (.arr 16) (.cons (.arr 1152) (.cons (.dat yi) (.cons (.arr 31) .nil))))), obs := [(1, .cells (.cons (.dat y1) (.cons (.dat y1) (.cons (.dat y1) (.cons (.dat y3) .nil))))), (16, .rows 24 3 yi), (1152, .arr 24 y1), (31, .arr 3 yi)] }) (((), ((), ((), (k.1, ((), ()))))), ((k.2.1, (k.2.2.1, (k.2.2.2.1, (k.2.2.2.2.1, ())))), (k.2.2.2.2.2.1, (k.2.2.2.2.2.2, (r, ())))))))⟩
noncomputable def S_zbu_0 (k : Y1 × (Y1 × (Y1 × (Y3 × Y2)))) (v : Int × Y2) : Tr ((Int × Y2) ⊕ Y2) :=
 .t (decide ((0 : Int) ≤ v.1))
 (.g (decide ((0 : Int) ≤ ((List.length k.1 : Nat) : Int))) <|
 .g (decide ((0 : Int) ≤ (IntKind.wrap .i64 ((1 : Int) * 2 ^ (min (Int.toNat ((List.length k.1 : Nat) : Int)) (IntKind.bits .i64))))) && decide ((IntKind.wrap .i64 ((1 : Int) * 2 ^ (min (Int.toNat ((List.length k.1 : Nat) : Int)) (IntKind.bits .i64)))) ≤ (IntKind.wrap .i64 ((1 : Int) * 2 ^ (min (Int.toNat ((List.length k.1 : Nat) : Int)) (IntKind.bits .i64))))) && decide (((8 : Nat) : Int) * (IntKind.wrap .i64 ((1 : Int) * 2 ^ (min (Int.toNat ((List.length k.1 : Nat) : Int)) (IntKind.bits .i64)))) ≤ 281474976710656)) <|
 .c Y1 (L_zbu_2 (v.1, (k.1, (k.2.1, (k.2.2.1, (k.2.2.2.1, (v.2, k.2.2.2.2)))))) ((0 : Int), (List.replicate (Int.toNat (IntKind.wrap .i64 ((1 : Int) * 2 ^ (min (Int.toNat ((List.length k.1 : Nat) : Int)) (IntKind.bits .i64))))) (0 : Int)))) fun r52_ =>
 .g (decide ((List.length (List.set ([[]] : List Y1) 0 r52_) + List.length v.2) * 24 ≤ 140737488355328)) <|
 .l (.inl ((IntKind.wrap .i64 (v.1 - (1 : Int))), ((List.set ([[]] : List Y1) 0 r52_) ++ v.2))))
 (.l (.inr v.2))
noncomputable def L_zbu_0 (k : Y1 × (Y1 × (Y1 × (Y3 × Y2)))) (v : Int × Y2) : Option Y2 := iter (fun v => (S_zbu_0 k v).ev) v
noncomputable def DL_zbu_0 : LD := ⟨{ acts := [.fz 15], S := { slots := [1, 3, 4, 5], sh := (.cons (.box 1 0) (.cons (.arr 16) (.cons (.arr 1152) (.cons (.dat yi) .nil)))), obs := [(1, .cells (.cons (.dat y1) (.cons (.dat y1) (.cons (.dat y1) (.cons (.dat y3) .nil))))), (16, .rows 24 3 yi), (1152, .arr 24 y1)] } }, [(0, { acts := [], S := { slots := [3], sh := (.cons (.arr 16) .nil), obs := [(16, .rows 24 3 yi)] } })], (yh [] .nil), Y1 × (Y1 × (Y1 × (Y3 × Y2))), Int × Y2, List Y1, fun k v => (((), ((), ((), (v.1, ())))), ((k.1, (k.2.1, (k.2.2.1, (k.2.2.2.1, ())))), (v.2, (k.2.2.2.2, ())))), fun t => (t.2.1.1, (t.2.1.2.1, (t.2.1.2.2.1, (t.2.1.2.2.2.1, t.2.2.2.1)))), fun t => (t.1.2.2.2.1, t.2.2.1), S_zbu_0, fun _ r => .l (.exit 0 (mkSt ({ slots := [3], sh := (.cons (.arr 16) .nil), obs := [(16, .rows 24 3 yi)] }) (((), ()), (r, ()))))⟩
noncomputable def T_zbu (a1_ : Y1) (a2_ : Y1) (a3_ : Y1) (a4_ : Y3) : Tr Y2 :=
 .g (decide ((0 : Int) ≤ ((List.length a1_ : Nat) : Int))) <|
 .g (decide ((0 : Int) ≤ (IntKind.wrap .i64 ((1 : Int) * 2 ^ (min (Int.toNat ((List.length a1_ : Nat) : Int)) (IntKind.bits .i64))))) && decide ((IntKind.wrap .i64 ((1 : Int) * 2 ^ (min (Int.toNat ((List.length a1_ : Nat) : Int)) (IntKind.bits .i64)))) ≤ (IntKind.wrap .i64 ((1 : Int) * 2 ^ (min (Int.toNat ((List.length a1_ : Nat) : Int)) (IntKind.bits .i64))))) && decide (((8 : Nat) : Int) * (IntKind.wrap .i64 ((1 : Int) * 2 ^ (min (Int.toNat ((List.length a1_ : Nat) : Int)) (IntKind.bits .i64)))) ≤ 281474976710656)) <|
 .c Y2 (F_zcb a1_ a2_ a3_ a4_) fun r1_ =>
 .c Y2 (L_zbu_0 (a1_, (a2_, (a3_, (a4_, r1_)))) ((IntKind.wrap .i64 (((List.length a4_ : Nat) : Int) - (1 : Int))), (List.set ([[]] : List Y1) 0 (List.replicate (Int.toNat (IntKind.wrap .i64 ((1 : Int) * 2 ^ (min (Int.toNat ((List.length a1_ : Nat) : Int)) (IntKind.bits .i64))))) (0 : Int))))) fun r54_ =>
 .l r54_
noncomputable def F_zbu (a1_ : Y1) (a2_ : Y1) (a3_ : Y1) (a4_ : Y3) : Option Y2 := (T_zbu a1_ a2_ a3_ a4_).ev
noncomputable def A_zbu : Sh := (.cons (.agg (.cons (.dat y1) (.cons (.dat y1) (.cons (.dat y1) (.cons (.dat y3) .nil))))) .nil)
noncomputable def I_zbu : List (Nat × OSh) := []
noncomputable def K_zbu : RetK := { acts := [.ren 16 0], res := [.tmp 2], sh := (.cons (.arr 0) .nil), obs := [(0, .rows 24 3 yi)], pins := [] }
noncomputable def D_zbu : FD := ⟨A_zbu, I_zbu, [], List Y1, fun x => F_zbu x.1.1.1 x.1.1.2.1 x.1.1.2.2.1 x.1.1.2.2.2.1, fun r => ([.arr 0], [(0, .rows 24 3 yi r none)])⟩
noncomputable def E_zbu : Env := envOf [(70, D_zcb), (73, D_zbw), (74, D_zbx), (85, D_zbt)]
noncomputable def Z_zbu : Nat → Nat → List Nat := fun r i => match look [(18, [(3, [6])])] r with
 | some l => (look l i).getD []
 | none => []
noncomputable def O_zbu : List (Nat × LD) := [(4, DL_zbu_4), (2, DL_zbu_2), (0, DL_zbu_0)]
noncomputable def C_zbu : Code := (f48.body).getD .skip
noncomputable def T_zcp (a1_ : Y1) : Tr Y1 :=
 .g (decide ((List.length ([] : Y1) + List.length a1_) * 8 ≤ 140737488355328)) <|
 .l (([] : Y1) ++ a1_)
noncomputable def F_zcp (a1_ : Y1) : Option Y1 := (T_zcp a1_).ev
noncomputable def A_zcp : Sh := (.cons (.dat y1) .nil)
noncomputable def I_zcp : List (Nat × OSh) := []
noncomputable def K_zcp : RetK := { acts := [.ren 3 0], res := [.tmp 2], sh := (.cons (.arr 0) .nil), obs := [(0, .arr 3 yi)], pins := [] }
noncomputable def D_zcp : FD := ⟨A_zcp, I_zcp, [], Y1, fun x => F_zcp x.1.1, fun r => ([.arr 0], [(0, .arr 3 yi r)])⟩
noncomputable def E_zcp : Env := envOf []
noncomputable def Z_zcp : Nat → Nat → List Nat := fun _ _ => []
noncomputable def O_zcp : List (Nat × LD) := []
noncomputable def C_zcp : Code := (f75.body).getD .skip
noncomputable def S_zbs_2 (k : Y1 × (Int × (Y1 × (Y1 × (Y1 × (Y3 × (Y2 × (Y2 × Y2)))))))) (v : Int) : Tr ((Int) ⊕ (Int)) :=
 .g (inR v (List.length k.2.2.2.2.2.2.2.2)) <|
 .g (decide ((Int.toNat v) < List.length k.2.2.2.2.2.2.2.2)) <|
 .c (Bool) (F_zbw k.2.2.1 k.2.2.2.1 k.2.2.2.2.1 k.2.2.2.2.2.1 k.2.1 (List.getD k.2.2.2.2.2.2.2.2 (Int.toNat v) ([] : Y1))) fun r56_ =>
 .t (!r56_)
 (.l (.inl (IntKind.wrap .i64 (v + (1 : Int)))))
 (.g (inR v (List.length k.2.2.2.2.2.2.2.2)) <|
 .g (decide ((Int.toNat v) < List.length k.2.2.2.2.2.2.2.2)) <|
 .c (Int) (F_zbx k.2.2.1 k.2.2.2.1 k.2.2.2.2.1 k.2.2.2.2.2.1 k.2.1 k.1 (List.getD k.2.2.2.2.2.2.2.2 (Int.toNat v) ([] : Y1))) fun r57_ =>
 .g (inR (IntKind.wrap .i64 (k.2.1 + (1 : Int))) (List.length k.2.2.2.2.2.2.2.1)) <|
 .g (decide ((Int.toNat (IntKind.wrap .i64 (k.2.1 + (1 : Int)))) < List.length k.2.2.2.2.2.2.2.1)) <|
 .g (inR v (List.length k.2.2.2.2.2.2.2.2)) <|
 .g (decide ((Int.toNat v) < List.length k.2.2.2.2.2.2.2.2)) <|
 .c (Int) (F_zbt (List.getD k.2.2.2.2.2.2.2.2 (Int.toNat v) ([] : Y1))) fun r58_ =>
 .g (inR r58_ (List.length (List.getD k.2.2.2.2.2.2.2.1 (Int.toNat (IntKind.wrap .i64 (k.2.1 + (1 : Int)))) ([] : Y1)))) <|
 .g (decide ((Int.toNat r58_) < List.length (List.getD k.2.2.2.2.2.2.2.1 (Int.toNat (IntKind.wrap .i64 (k.2.1 + (1 : Int)))) ([] : Y1)))) <|
 .g (inR k.2.1 (List.length k.2.2.2.2.2.2.2.1)) <|
 .g (decide ((Int.toNat k.2.1) < List.length k.2.2.2.2.2.2.2.1)) <|
 .c (Int) (F_zbt k.1) fun r59_ =>
 .g (inR r59_ (List.length (List.getD k.2.2.2.2.2.2.2.1 (Int.toNat k.2.1) ([] : Y1)))) <|
 .g (decide ((Int.toNat r59_) < List.length (List.getD k.2.2.2.2.2.2.2.1 (Int.toNat k.2.1) ([] : Y1)))) <|
 .t ((IntKind.wrap .i64 (r57_ + (List.getD (List.getD k.2.2.2.2.2.2.2.1 (Int.toNat (IntKind.wrap .i64 (k.2.1 + (1 : Int)))) ([] : Y1)) (Int.toNat r58_) (0 : Int)))) != (List.getD (List.getD k.2.2.2.2.2.2.2.1 (Int.toNat k.2.1) ([] : Y1)) (Int.toNat r59_) (0 : Int)))
 (.l (.inl (IntKind.wrap .i64 (v + (1 : Int)))))
 (.l (.inr v)))
noncomputable def L_zbs_2 (k : Y1 × (Int × (Y1 × (Y1 × (Y1 × (Y3 × (Y2 × (Y2 × Y2)))))))) (v : Int) : Option (Int) := iter (fun v => (S_zbs_2 k v).ev) v
noncomputable def DL_zbs_2 : LD := ⟨{ acts := [], S := { slots := [1, 3, 4, 5, 6, 7, 8], sh := (.cons (.box 1 0) (.cons (.arr 9) (.cons (.dat y1) (.cons (.arr 768) (.cons (.arr 896) (.cons (.dat yi) (.cons (.dat yi) .nil))))))), obs := [(1, .cells (.cons (.dat y1) (.cons (.dat y1) (.cons (.dat y1) (.cons (.dat y3) .nil))))), (9, .arr 24 y1), (768, .rows 24 3 yi), (896, .arr 24 y1)] } }, [(2, { acts := [], S := { slots := [1, 3, 5, 6, 7, 8], sh := (.cons (.box 1 0) (.cons (.arr 9) (.cons (.arr 768) (.cons (.arr 896) (.cons (.dat yi) (.cons (.dat yi) .nil)))))), obs := [(1, .cells (.cons (.dat y1) (.cons (.dat y1) (.cons (.dat y1) (.cons (.dat y3) .nil))))), (9, .arr 24 y1), (768, .rows 24 3 yi), (896, .arr 24 y1)] } })], (yh [] .nil), Y1 × (Int × (Y1 × (Y1 × (Y1 × (Y3 × (Y2 × (Y2 × Y2))))))), Int, Int, fun k v => (((), ((), (k.1, ((), ((), (k.2.1, (v, ()))))))), ((k.2.2.1, (k.2.2.2.1, (k.2.2.2.2.1, (k.2.2.2.2.2.1, ())))), (k.2.2.2.2.2.2.1, (k.2.2.2.2.2.2.2.1, (k.2.2.2.2.2.2.2.2, ()))))), fun t => (t.1.2.2.1, (t.1.2.2.2.2.2.1, (t.2.1.1, (t.2.1.2.1, (t.2.1.2.2.1, (t.2.1.2.2.2.1, (t.2.2.1, (t.2.2.2.1, t.2.2.2.2.1)))))))), fun t => t.1.2.2.2.2.2.2.1, S_zbs_2, fun k r => .l (.exit 2 (mkSt ({ slots := [1, 3, 5, 6, 7, 8], sh := (.cons (.box 1 0) (.cons (.arr 9) (.cons (.arr 768) (.cons (.arr 896) (.cons (.dat yi) (.cons (.dat yi) .nil)))))), obs := [(1, .cells (.cons (.dat y1) (.cons (.dat y1) (.cons (.dat y1) (.cons (.dat y3) .nil))))), (9, .arr 24 y1), (768, .rows 24 3 yi), (896, .arr 24 y1)] }) (((), ((), ((), ((), (k.2.1, (r, ())))))), ((k.2.2.1, (k.2.2.2.1, (k.2.2.2.2.1, (k.2.2.2.2.2.1, ())))), (k.2.2.2.2.2.2.1, (k.2.2.2.2.2.2.2.1, (k.2.2.2.2.2.2.2.2, ())))))))⟩
noncomputable def S_zbs_0 (k : Y1 × (Y1 × (Y1 × (Y3 × (Y2 × Y2))))) (v : Y1 × (Int × Y2)) : Tr ((Y1 × (Int × Y2)) ⊕ Y2) :=
 .t (decide (v.2.1 < ((List.length k.2.2.2.1 : Nat) : Int)))
 (.c (Int) (L_zbs_2 (v.1, (v.2.1, (k.1, (k.2.1, (k.2.2.1, (k.2.2.2.1, (v.2.2, (k.2.2.2.2.1, k.2.2.2.2.2)))))))) (0 : Int)) fun r69_ =>
 .g (inR r69_ (List.length k.2.2.2.2.2)) <|
 .g (decide ((Int.toNat r69_) < List.length k.2.2.2.2.2)) <|
 .c Y1 (F_zcp (List.getD k.2.2.2.2.2 (Int.toNat r69_) ([] : Y1))) fun r70_ =>
 .g (decide ((List.length v.2.2 + List.length ([r70_] : List Y1)) * 24 ≤ 140737488355328)) <|
 .g (inR r69_ (List.length k.2.2.2.2.2)) <|
 .g (decide ((Int.toNat r69_) < List.length k.2.2.2.2.2)) <|
 .l (.inl ((List.getD k.2.2.2.2.2 (Int.toNat r69_) ([] : Y1)), ((IntKind.wrap .i64 (v.2.1 + (1 : Int))), (v.2.2 ++ ([r70_] : List Y1))))))
 (.l (.inr v.2.2))
noncomputable def L_zbs_0 (k : Y1 × (Y1 × (Y1 × (Y3 × (Y2 × Y2))))) (v : Y1 × (Int × Y2)) : Option Y2 := iter (fun v => (S_zbs_0 k v).ev) v
noncomputable def DL_zbs_0 : LD := ⟨{ acts := [.fz 10], S := { slots := [1, 3, 4, 5, 6, 7], sh := (.cons (.box 1 0) (.cons (.arr 9) (.cons (.dat y1) (.cons (.arr 768) (.cons (.arr 896) (.cons (.dat yi) .nil)))))), obs := [(1, .cells (.cons (.dat y1) (.cons (.dat y1) (.cons (.dat y1) (.cons (.dat y3) .nil))))), (9, .arr 24 y1), (768, .rows 24 3 yi), (896, .arr 24 y1)] } }, [(0, { acts := [], S := { slots := [3], sh := (.cons (.arr 9) .nil), obs := [(9, .arr 24 y1)] } })], (yh [] .nil), Y1 × (Y1 × (Y1 × (Y3 × (Y2 × Y2)))), Y1 × (Int × Y2), List Y1, fun k v => (((), ((), (v.1, ((), ((), (v.2.1, ())))))), ((k.1, (k.2.1, (k.2.2.1, (k.2.2.2.1, ())))), (v.2.2, (k.2.2.2.2.1, (k.2.2.2.2.2, ()))))), fun t => (t.2.1.1, (t.2.1.2.1, (t.2.1.2.2.1, (t.2.1.2.2.2.1, (t.2.2.2.1, t.2.2.2.2.1))))), fun t => (t.1.2.2.1, (t.1.2.2.2.2.2.1, t.2.2.1)), S_zbs_0, fun _ r => .l (.exit 0 (mkSt ({ slots := [3], sh := (.cons (.arr 9) .nil), obs := [(9, .arr 24 y1)] }) (((), ()), (r, ()))))⟩
noncomputable def T_zbs (a1_ : Y1) (a2_ : Y1) (a3_ : Y1) (a4_ : Y3) : Tr Y2 :=
 .c Y2 (F_zbu a1_ a2_ a3_ a4_) fun r1_ =>
 .c Y2 (F_zcb a1_ a2_ a3_ a4_) fun r2_ =>
 .c Y2 (L_zbs_0 (a1_, (a2_, (a3_, (a4_, (r1_, r2_))))) (([] : Y1), ((0 : Int), ([] : List Y1)))) fun r72_ =>
 .l r72_
noncomputable def F_zbs (a1_ : Y1) (a2_ : Y1) (a3_ : Y1) (a4_ : Y3) : Option Y2 := (T_zbs a1_ a2_ a3_ a4_).ev
noncomputable def A_zbs : Sh := (.cons (.agg (.cons (.dat y1) (.cons (.dat y1) (.cons (.dat y1) (.cons (.dat y3) .nil))))) .nil)
noncomputable def I_zbs : List (Nat × OSh) := []
noncomputable def K_zbs : RetK := { acts := [.ren 9 0], res := [.tmp 2], sh := (.cons (.arr 0) .nil), obs := [(0, .arr 24 y1)], pins := [] }
noncomputable def D_zbs : FD := ⟨A_zbs, I_zbs, [], List Y1, fun x => F_zbs x.1.1.1 x.1.1.2.1 x.1.1.2.2.1 x.1.1.2.2.2.1, fun r => ([.arr 0], [(0, .arr 24 y1 r)])⟩
noncomputable def E_zbs : Env := envOf [(48, D_zbu), (70, D_zcb), (73, D_zbw), (74, D_zbx), (85, D_zbt), (75, D_zcp)]
noncomputable def Z_zbs : Nat → Nat → List Nat := fun r i => match look [(8, [(6, [69])])] r with
 | some l => (look l i).getD []
 | none => []
noncomputable def O_zbs : List (Nat × LD) := [(2, DL_zbs_2), (0, DL_zbs_0)]
noncomputable def C_zbs : Code := (f39.body).getD .skip
noncomputable def T_zbq (a1_ : Y1) (a2_ : Y1) (a3_ : Y1) (a4_ : Y3) : Tr (Bool × Y2) :=
 .c (Bool) (F_zbv a1_ a2_ a3_ a4_) fun r1_ =>
 .t (!r1_)
 (.l (false, ([] : List Y1)))
 (.c Y2 (F_zbu a1_ a2_ a3_ a4_) fun r2_ =>
 .l (true, r2_))
noncomputable def F_zbq (a1_ : Y1) (a2_ : Y1) (a3_ : Y1) (a4_ : Y3) : Option (Bool × Y2) := (T_zbq a1_ a2_ a3_ a4_).ev
noncomputable def A_zbq : Sh := (.cons (.agg (.cons (.dat y1) (.cons (.dat y1) (.cons (.dat y1) (.cons (.dat y3) .nil))))) .nil)
noncomputable def I_zbq : List (Nat × OSh) := []
noncomputable def K_zbq : RetK := { acts := [.ren 7 0, .ren 576 0], res := [.tmp 2, .tmp 3], sh := (.cons (.arr 0) (.cons (.dat .bool) .nil)), obs := [(0, .rows 24 3 yi)], pins := [] }
noncomputable def D_zbq : FD := ⟨A_zbq, I_zbq, [], Bool × Y2, fun x => F_zbq x.1.1.1 x.1.1.2.1 x.1.1.2.2.1 x.1.1.2.2.2.1, fun r => ([.arr 0, .dat .bool r.1], [(0, .rows 24 3 yi r.2 none)])⟩
noncomputable def E_zbq : Env := envOf [(37, D_zbv), (48, D_zbu)]
noncomputable def Z_zbq : Nat → Nat → List Nat := fun r i => match look [(2, [(0, [1000000])])] r with
 | some l => (look l i).getD []
 | none => []
noncomputable def O_zbq : List (Nat × LD) := []
noncomputable def C_zbq : Code := (f12.body).getD .skip
noncomputable def T_zco (a1_ : Int) (a2_ : Int) : Tr (Int) :=
 .t (decide (a2_ < a1_))
 (.l a1_)
 (.l a2_)
noncomputable def F_zco (a1_ : Int) (a2_ : Int) : Option (Int) := (T_zco a1_ a2_).ev
noncomputable def A_zco : Sh := (.cons (.dat yi) (.cons (.dat yi) .nil))
noncomputable def I_zco : List (Nat × OSh) := []
noncomputable def K_zco : RetK := { acts := [], res := [.tmp 4], sh := (.cons (.dat yi) .nil), obs := [], pins := [] }
noncomputable def D_zco : FD := ⟨A_zco, I_zco, [], Int, fun x => F_zco x.1.1 x.1.2.1, fun r => ([.dat yi r], [])⟩
noncomputable def E_zco : Env := envOf []
noncomputable def Z_zco : Nat → Nat → List Nat := fun _ _ => []
noncomputable def O_zco : List (Nat × LD) := []
noncomputable def C_zco : Code := (f86.body).getD .skip
noncomputable def S_zci_1 (k : Int × (Y1 × (Int × Int))) (v : Int × Y2) : Tr ((Int × Y2) ⊕ Y2) :=
 .g (inR k.1 (List.length v.2)) <|
 .g (decide ((Int.toNat k.1) < List.length v.2)) <|
 .t (decide (v.1 < ((List.length (List.getD v.2 (Int.toNat k.1) ([] : Y1)) : Nat) : Int)))
 (.g (inR k.1 (List.length v.2)) <|
 .g (decide ((Int.toNat k.1) < List.length v.2)) <|
 .g (inR k.1 (List.length v.2)) <|
 .g (decide ((Int.toNat k.1) < List.length v.2)) <|
 .g (inR v.1 (List.length (List.getD v.2 (Int.toNat k.1) ([] : Y1)))) <|
 .g (decide ((Int.toNat v.1) < List.length (List.getD v.2 (Int.toNat k.1) ([] : Y1)))) <|
 .c (Int) (F_zco (IntKind.wrap .i64 ((List.getD (List.getD v.2 (Int.toNat k.1) ([] : Y1)) (Int.toNat v.1) (0 : Int)) - (3 : Int))) (0 : Int)) fun r13_ =>
 .g (inR v.1 (List.length (List.getD v.2 (Int.toNat k.1) ([] : Y1)))) <|
 .g (decide ((Int.toNat v.1) < List.length (List.getD v.2 (Int.toNat k.1) ([] : Y1)))) <|
 .l (.inl ((IntKind.wrap .i64 (v.1 + (1 : Int))), (List.set v.2 (Int.toNat k.1) (List.set (List.getD v.2 (Int.toNat k.1) ([] : Y1)) (Int.toNat v.1) (IntKind.wrap .i64 (r13_ - (1 : Int))))))))
 (.l (.inr v.2))
noncomputable def L_zci_1 (k : Int × (Y1 × (Int × Int))) (v : Int × Y2) : Option Y2 := iter (fun v => (S_zci_1 k v).ev) v
noncomputable def DL_zci_1 : LD := ⟨{ acts := [], S := { slots := [0, 5, 7, 9], sh := (.cons (.box 64 0) (.cons (.arr 768) (.cons (.dat yi) (.cons (.dat yi) .nil)))), obs := [(64, .cells (.cons (.dat (.slice (.int .u8))) (.cons (.dat yi) (.cons (.dat (.int .u64)) .nil)))), (768, .rows 24 3 yi)] } }, [(1, { acts := [], S := { slots := [0, 5], sh := (.cons (.box 64 0) (.cons (.arr 768) .nil)), obs := [(64, .cells (.cons (.dat (.slice (.int .u8))) (.cons (.dat yi) (.cons (.dat (.int .u64)) .nil)))), (768, .rows 24 3 yi)] } })], (yh [] .nil), Int × (Y1 × (Int × Int)), Int × Y2, List Y1, fun k v => (((), ((), (k.1, (v.1, ())))), ((k.2.1, (k.2.2.1, (k.2.2.2, ()))), (v.2, ()))), fun t => (t.1.2.2.1, (t.2.1.1, (t.2.1.2.1, t.2.1.2.2.1))), fun t => (t.1.2.2.2.1, t.2.2.1), S_zci_1, fun k r => .l (.exit 1 (mkSt ({ slots := [0, 5], sh := (.cons (.box 64 0) (.cons (.arr 768) .nil)), obs := [(64, .cells (.cons (.dat (.slice (.int .u8))) (.cons (.dat yi) (.cons (.dat (.int .u64)) .nil)))), (768, .rows 24 3 yi)] }) (((), ((), ())), ((k.2.1, (k.2.2.1, (k.2.2.2, ()))), (r, ())))))⟩
noncomputable def T_zci (a4_ : Y1) (a5_ : Y1) (a6_ : Y1) (a7_ : Y3) (a1_ : Y1) (a2_ : Int) (a3_ : Int) : Tr (Y2 × (Y1 × (Int × Int))) :=
 .c (Bool × Y2) (F_zbq a4_ a5_ a6_ a7_) fun r1_ =>
 .t (decide ((0 : Int) < ((List.length r1_.2 : Nat) : Int)))
 (.c (Int × (Y1 × (Int × Int))) (F_zch ((List.length r1_.2 : Nat) : Int) a1_ a2_ a3_) fun r2_ =>
 .g (inR r2_.1 (List.length r1_.2)) <|
 .g (decide ((Int.toNat r2_.1) < List.length r1_.2)) <|
 .c (Int × (Y1 × (Int × Int))) (F_zch ((List.length (List.getD r1_.2 (Int.toNat r2_.1) ([] : Y1)) : Nat) : Int) r2_.2.1 r2_.2.2.1 r2_.2.2.2) fun r3_ =>
 .c (Int × (Y1 × (Int × Int))) (F_zch (8 : Int) r3_.2.1 r3_.2.2.1 r3_.2.2.2) fun r4_ =>
 .t (r4_.1 == (0 : Int))
 (.g (inR r2_.1 (List.length r1_.2)) <|
 .g (decide ((Int.toNat r2_.1) < List.length r1_.2)) <|
 .g (inR r2_.1 (List.length r1_.2)) <|
 .g (decide ((Int.toNat r2_.1) < List.length r1_.2)) <|
 .g (inR r3_.1 (List.length (List.getD r1_.2 (Int.toNat r2_.1) ([] : Y1)))) <|
 .g (decide ((Int.toNat r3_.1) < List.length (List.getD r1_.2 (Int.toNat r2_.1) ([] : Y1)))) <|
 .c (Int × (Y1 × (Int × Int))) (F_zce ([(1 : Int), (-1 : Int), (2 : Int)] : Y1) r4_.2.1 r4_.2.2.1 r4_.2.2.2) fun r5_ =>
 .g (inR r3_.1 (List.length (List.getD r1_.2 (Int.toNat r2_.1) ([] : Y1)))) <|
 .g (decide ((Int.toNat r3_.1) < List.length (List.getD r1_.2 (Int.toNat r2_.1) ([] : Y1)))) <|
 .l ((List.set r1_.2 (Int.toNat r2_.1) (List.set (List.getD r1_.2 (Int.toNat r2_.1) ([] : Y1)) (Int.toNat r3_.1) (IntKind.wrap .i64 ((List.getD (List.getD r1_.2 (Int.toNat r2_.1) ([] : Y1)) (Int.toNat r3_.1) (0 : Int)) + r5_.1)))), (r5_.2.1, (r5_.2.2.1, r5_.2.2.2))))
 (.t (r4_.1 == (1 : Int))
 (.g (inR r2_.1 (List.length r1_.2)) <|
 .g (decide ((Int.toNat r2_.1) < List.length r1_.2)) <|
 .c (Int × (Y1 × (Int × Int))) (F_zce ([(-1000000 : Int), (-1000001 : Int), (1000001 : Int), (4611686018427387904 : Int)] : Y1) r4_.2.1 r4_.2.2.1 r4_.2.2.2) fun r6_ =>
 .g (inR r3_.1 (List.length (List.getD r1_.2 (Int.toNat r2_.1) ([] : Y1)))) <|
 .g (decide ((Int.toNat r3_.1) < List.length (List.getD r1_.2 (Int.toNat r2_.1) ([] : Y1)))) <|
 .l ((List.set r1_.2 (Int.toNat r2_.1) (List.set (List.getD r1_.2 (Int.toNat r2_.1) ([] : Y1)) (Int.toNat r3_.1) r6_.1)), (r6_.2.1, (r6_.2.2.1, r6_.2.2.2))))
 (.t (r4_.1 == (2 : Int))
 (.g (decide ((0 : Int) ≤ (1 : Int)) && decide ((1 : Int) ≤ ((List.length r1_.2 : Nat) : Int))) <|
 .l ((List.drop (Int.toNat (1 : Int)) (List.take (List.length r1_.2) r1_.2)), (r4_.2.1, (r4_.2.2.1, r4_.2.2.2))))
 (.t (r4_.1 == (3 : Int))
 (.c Y2 (L_zci_1 (r2_.1, (r4_.2.1, (r4_.2.2.1, r4_.2.2.2))) ((0 : Int), r1_.2)) fun r18_ =>
 .l (r18_, (r4_.2.1, (r4_.2.2.1, r4_.2.2.2))))
 (.l (r1_.2, (r4_.2.1, (r4_.2.2.1, r4_.2.2.2))))))))
 (.l (r1_.2, (a1_, (a2_, a3_))))
noncomputable def F_zci (a4_ : Y1) (a5_ : Y1) (a6_ : Y1) (a7_ : Y3) (a1_ : Y1) (a2_ : Int) (a3_ : Int) : Option (Y2 × (Y1 × (Int × Int))) := (T_zci a4_ a5_ a6_ a7_ a1_ a2_ a3_).ev
noncomputable def A_zci : Sh := (.cons (.box 64 0) (.cons (.agg (.cons (.dat y1) (.cons (.dat y1) (.cons (.dat y1) (.cons (.dat y3) .nil))))) .nil))
noncomputable def I_zci : List (Nat × OSh) := [(64, .cells (.cons (.dat (.slice (.int .u8))) (.cons (.dat yi) (.cons (.dat (.int .u64)) .nil))))]
noncomputable def K_zci : RetK := { acts := [.fz 768], res := [.tmp 4], sh := (.cons (.dat y2) .nil), obs := [(64, .cells (.cons (.dat (.slice (.int .u8))) (.cons (.dat yi) (.cons (.dat (.int .u64)) .nil))))], pins := [(0, 0, 64)] }
noncomputable def D_zci : FD := ⟨A_zci, I_zci, [.arg 0], Y2 × (Y1 × (Int × Int)), fun x => F_zci x.1.2.1.1 x.1.2.1.2.1 x.1.2.1.2.2.1 x.1.2.1.2.2.2.1 x.2.1.1 x.2.1.2.1 x.2.1.2.2.1, fun r => ([.dat y2 r.1], [(64, .cells [.dat (.slice (.int .u8)) r.2.1, .dat yi r.2.2.1, .dat (.int .u64) r.2.2.2])])⟩
noncomputable def E_zci : Env := envOf [(12, D_zbq), (78, D_zch), (79, D_zce), (86, D_zco)]
noncomputable def Z_zci : Nat → Nat → List Nat := fun r i => match look [(7, [(0, [60000013])]), (9, [(0, [60000006])]), (11, [(1, [63])])] r with
 | some l => (look l i).getD []
 | none => []
noncomputable def O_zci : List (Nat × LD) := [(1, DL_zci_1)]
noncomputable def C_zci : Code := (f40.body).getD .skip
noncomputable def T_zbp (a1_ : Y1) : Tr (Y1 × (Y1 × (Y1 × (Y3 × (Y2 × Y2))))) :=
 .c (Y1 × (Y1 × (Y1 × (Y3 × (Y1 × (Int × Int)))))) (F_zck a1_ (0 : Int) (0 : Int)) fun r1_ =>
 .c (Y2 × (Y1 × (Int × Int))) (F_zcj r1_.1 r1_.2.1 r1_.2.2.1 r1_.2.2.2.1 r1_.2.2.2.2.1 r1_.2.2.2.2.2.1 r1_.2.2.2.2.2.2) fun r2_ =>
 .c (Bool) (F_zbv r1_.1 r1_.2.1 r1_.2.2.1 r1_.2.2.2.1) fun r3_ =>
 .t r3_
 (.c (Bool × (Y1 × (Int × Int))) (F_zcg (3 : Int) r2_.2.1 r2_.2.2.1 r2_.2.2.2) fun r4_ =>
 .t (!r4_.1)
 (.c Y2 (F_zbs r1_.1 r1_.2.1 r1_.2.2.1 r1_.2.2.2.1) fun r5_ =>
 .c (Y2 × (Y1 × (Int × Int))) (F_zci r1_.1 r1_.2.1 r1_.2.2.1 r1_.2.2.2.1 r4_.2.1 r4_.2.2.1 r4_.2.2.2) fun r6_ =>
 .l (r1_.1, (r1_.2.1, (r1_.2.2.1, (r1_.2.2.2.1, (r6_.1, r5_))))))
 (.c (Y2 × (Y1 × (Int × Int))) (F_zci r1_.1 r1_.2.1 r1_.2.2.1 r1_.2.2.2.1 r4_.2.1 r4_.2.2.1 r4_.2.2.2) fun r7_ =>
 .l (r1_.1, (r1_.2.1, (r1_.2.2.1, (r1_.2.2.2.1, (r7_.1, r2_.1)))))))
 (.c (Y2 × (Y1 × (Int × Int))) (F_zci r1_.1 r1_.2.1 r1_.2.2.1 r1_.2.2.2.1 r2_.2.1 r2_.2.2.1 r2_.2.2.2) fun r8_ =>
 .l (r1_.1, (r1_.2.1, (r1_.2.2.1, (r1_.2.2.2.1, (r8_.1, r2_.1))))))
noncomputable def F_zbp (a1_ : Y1) : Option (Y1 × (Y1 × (Y1 × (Y3 × (Y2 × Y2))))) := (T_zbp a1_).ev
noncomputable def A_zbp : Sh := (.cons (.dat (.slice (.int .u8))) .nil)
noncomputable def I_zbp : List (Nat × OSh) := []
noncomputable def K_zbp : RetK := { acts := [.ren 1536 1, .ren 960 1, .flat 1], res := [.cell 2 27, .tmp 3, .tmp 4], sh := (.cons (.agg (.cons (.dat y1) (.cons (.dat y1) (.cons (.dat y1) (.cons (.dat y3) .nil))))) (.cons (.arr 1) (.cons (.dat y2) .nil))), obs := [(1, .arr 24 y1)], pins := [] }
noncomputable def D_zbp : FD := ⟨A_zbp, I_zbp, [], Y1 × (Y1 × (Y1 × (Y3 × (Y2 × Y2)))), fun x => F_zbp x.1.1, fun r => ([.agg [.dat y1 r.1, .dat y1 r.2.1, .dat y1 r.2.2.1, .dat y3 r.2.2.2.1], .arr 1, .dat y2 r.2.2.2.2.1], [(1, .arr 24 y1 r.2.2.2.2.2)])⟩
noncomputable def E_zbp : Env := envOf [(35, D_zck), (36, D_zcj), (37, D_zbv), (38, D_zcg), (39, D_zbs), (40, D_zci)]
noncomputable def Z_zbp : Nat → Nat → List Nat := fun r i => match look [(3, [(2, [14])])] r with
 | some l => (look l i).getD []
 | none => []
noncomputable def O_zbp : List (Nat × LD) := []
noncomputable def C_zbp : Code := (f6.body).getD .skip
noncomputable def T_zai (a1_ : Int) (a2_ : Int) (a3_ : Int) : Tr (Bool) :=
 .t (decide (a2_ ≤ a1_))
 (.l (decide (a1_ ≤ a3_)))
 (.l false)
noncomputable def F_zai (a1_ : Int) (a2_ : Int) (a3_ : Int) : Option (Bool) := (T_zai a1_ a2_ a3_).ev
noncomputable def A_zai : Sh := (.cons (.dat yi) (.cons (.dat yi) (.cons (.dat yi) .nil)))
noncomputable def I_zai : List (Nat × OSh) := []
noncomputable def K_zai : RetK := { acts := [], res := [.tmp 6], sh := (.cons (.dat .bool) .nil), obs := [], pins := [] }
noncomputable def D_zai : FD := ⟨A_zai, I_zai, [], Bool, fun x => F_zai x.1.1 x.1.2.1 x.1.2.2.1, fun r => ([.dat .bool r], [])⟩
noncomputable def E_zai : Env := envOf []
noncomputable def Z_zai : Nat → Nat → List Nat := fun _ _ => []
noncomputable def O_zai : List (Nat × LD) := []
noncomputable def C_zai : Code := (f59.body).getD .skip
noncomputable def T_zbb (a1_ : Int) : Tr Y1 :=
 .t (decide (a1_ < (0 : Int)))
 (.f)
 (.t (decide ((0 : Int) < (IntKind.wrap .i64 (a1_ - (IntKind.wrap .i64 ((0 : Int) - (0 : Int)))))))
 (.g (decide ((0 : Int) ≤ (0 : Int)) && decide ((0 : Int) ≤ ((0 : Nat) : Int))) <|
 .g (decide ((0 : Int) < (IntKind.wrap .i64 (a1_ - (IntKind.wrap .i64 ((0 : Int) - (0 : Int)))))) && decide ((IntKind.wrap .i64 (a1_ - (IntKind.wrap .i64 ((0 : Int) - (0 : Int))))) * ((8 : Nat) : Int) ≤ 281474976710656)) <|
 .g (decide ((0 : Int) ≤ (0 : Int)) && decide ((0 : Int) ≤ ((List.length (List.replicate (Int.toNat (IntKind.wrap .i64 (a1_ - (IntKind.wrap .i64 ((0 : Int) - (0 : Int)))))) (0 : Int)) : Nat) : Int))) <|
 .l (List.take (Int.toNat (0 : Int)) (List.replicate (Int.toNat (IntKind.wrap .i64 (a1_ - (IntKind.wrap .i64 ((0 : Int) - (0 : Int)))))) (0 : Int))))
 (.l ([] : Y1)))
noncomputable def F_zbb (a1_ : Int) : Option Y1 := (T_zbb a1_).ev
noncomputable def A_zbb : Sh := (.cons .nilsl (.cons (.dat yi) .nil))
noncomputable def I_zbb : List (Nat × OSh) := []
noncomputable def K_zbb : RetK := { acts := [.own 4 0 3 yi, .ren 22 0], res := [.tmp 4], sh := (.cons (.arr 0) .nil), obs := [(0, .arr 3 yi)], pins := [] }
noncomputable def D_zbb : FD := ⟨A_zbb, I_zbb, [], Y1, fun x => F_zbb x.1.2.1, fun r => ([.arr 0], [(0, .arr 3 yi r)])⟩
noncomputable def E_zbb : Env := envOf []
noncomputable def Z_zbb : Nat → Nat → List Nat := fun _ _ => []
noncomputable def O_zbb : List (Nat × LD) := []
noncomputable def C_zbb : Code := (f96.body).getD .skip
noncomputable def S_zax_0 (k : Y2 × (Y2 × Int)) (v : Int × Int) : Tr ((Int × Int) ⊕ (Int)) :=
 .t (decide (v.2 < k.2.2))
 (.g (inR v.2 (List.length k.2.1)) <|
 .t (decide ((IntKind.wrap .i64 (v.1 + ((List.length (List.getD k.2.1 (Int.toNat v.2) ([] : Y1)) : Nat) : Int))) < (0 : Int)))
 (.f)
 (.l (.inl ((IntKind.wrap .i64 (v.1 + ((List.length (List.getD k.2.1 (Int.toNat v.2) ([] : Y1)) : Nat) : Int))), (IntKind.wrap .i64 (v.2 + (1 : Int)))))))
 (.l (.inr v.1))
noncomputable def L_zax_0 (k : Y2 × (Y2 × Int)) (v : Int × Int) : Option (Int) := iter (fun v => (S_zax_0 k v).ev) v
noncomputable def DL_zax_0 : LD := ⟨(yh [0, 3, 9, 10, 11] (.cons (.dat y2) (.cons (.dat yi) (.cons (.dat y2) (.cons (.dat yi) (.cons (.dat yi) .nil)))))), [(0, (yh [0, 3] (.cons (.dat y2) (.cons (.dat yi) .nil))))], (yh [] .nil), Y2 × (Y2 × Int), Int × (Int), Int, fun k v => ((k.1, (v.1, (k.2.1, (k.2.2, (v.2, ()))))), ()), fun t => (t.1.1, (t.1.2.2.1, t.1.2.2.2.1)), fun t => (t.1.2.1, t.1.2.2.2.2.1), S_zax_0, fun k r => .l (.exit 0 (mkSt ((ys [0, 3] (.cons (.dat y2) (.cons (.dat yi) .nil)))) ((k.1, (r, ())), ())))⟩
noncomputable def S_zax_2 (k : Y2 × Int) (v : Int × Y1) : Tr ((Int × Y1) ⊕ Y1) :=
 .t (decide (v.1 < k.2))
 (.g (inR v.1 (List.length k.1)) <|
 .g (decide ((List.length v.2 + List.length (List.getD k.1 (Int.toNat v.1) ([] : Y1))) * 8 ≤ 140737488355328)) <|
 .l (.inl ((IntKind.wrap .i64 (v.1 + (1 : Int))), (v.2 ++ (List.getD k.1 (Int.toNat v.1) ([] : Y1))))))
 (.l (.inr v.2))
noncomputable def L_zax_2 (k : Y2 × Int) (v : Int × Y1) : Option Y1 := iter (fun v => (S_zax_2 k v).ev) v
noncomputable def DL_zax_2 : LD := ⟨{ acts := [], S := { slots := [6, 25, 26, 27], sh := (.cons (.arr 1536) (.cons (.dat y2) (.cons (.dat yi) (.cons (.dat yi) .nil)))), obs := [(1536, .arr 3 yi)] } }, [(2, { acts := [], S := { slots := [6], sh := (.cons (.arr 1536) .nil), obs := [(1536, .arr 3 yi)] } })], (yh [] .nil), Y2 × (Int), Int × Y1, Y1, fun k v => (((), (k.1, (k.2, (v.1, ())))), (v.2, ())), fun t => (t.1.2.1, t.1.2.2.1), fun t => (t.1.2.2.2.1, t.2.1), S_zax_2, fun _ r => .l (.exit 2 (mkSt ({ slots := [6], sh := (.cons (.arr 1536) .nil), obs := [(1536, .arr 3 yi)] }) (((), ()), (r, ()))))⟩
noncomputable def T_zax (a1_ : List Y1) : Tr Y1 :=
 .c (Int) (L_zax_0 (a1_, (a1_, ((List.length a1_ : Nat) : Int))) ((0 : Int), (0 : Int))) fun r8_ =>
 .c Y1 (F_zbb r8_) fun r9_ =>
 .c Y1 (L_zax_2 (a1_, ((List.length a1_ : Nat) : Int)) ((0 : Int), r9_)) fun r15_ =>
 .l r15_
noncomputable def F_zax (a1_ : List Y1) : Option Y1 := (T_zax a1_).ev
noncomputable def A_zax : Sh := (.cons (.dat y2) .nil)
noncomputable def I_zax : List (Nat × OSh) := []
noncomputable def K_zax : RetK := { acts := [.ren 1536 0], res := [.tmp 2], sh := (.cons (.arr 0) .nil), obs := [(0, .arr 3 yi)], pins := [] }
noncomputable def D_zax : FD := ⟨A_zax, I_zax, [], Y1, fun x => F_zax x.1.1, fun r => ([.arr 0], [(0, .arr 3 yi r)])⟩
noncomputable def E_zax : Env := envOf [(96, D_zbb)]
noncomputable def Z_zax : Nat → Nat → List Nat := fun _ _ => []
noncomputable def O_zax : List (Nat × LD) := [(0, DL_zax_0), (2, DL_zax_2)]
noncomputable def C_zax : Code := (f61.body).getD .skip
noncomputable def S_zbe_0 (k : Y1 × (((HL [yi] → Option (Bool))) × Int)) (v : Int) : Tr ((Int) ⊕ ((Unit) ⊕ (Int))) :=
 .t (decide (v < k.2.2))
 (.g (inR v (List.length k.1)) <|
 .c (Bool) (k.2.1 ((List.getD k.1 (Int.toNat v) (0 : Int)), ())) fun r5_ =>
 .t r5_
 (.l (.inr (.inr v)))
 (.l (.inl (IntKind.wrap .i64 (v + (1 : Int))))))
 (.l (.inr (.inl ())))
noncomputable def L_zbe_0 (k : Y1 × (((HL [yi] → Option (Bool))) × Int)) (v : Int) : Option ((Unit) ⊕ (Int)) := iter (fun v => (S_zbe_0 k v).ev) v
noncomputable def DL_zbe_0 : LD := ⟨(yh [0, 1, 7, 8] (.cons (.dat y1) (.cons (.clo [yi] .bool) (.cons (.dat yi) (.cons (.dat yi) .nil))))), [(0, (yh [] .nil))], (yh [4] (.cons (.dat yi) .nil)), Y1 × (((HL [yi] → Option (Bool))) × Int), Int, (Unit) ⊕ (Int), fun k v => ((k.1, (k.2.1, (k.2.2, (v, ())))), ()), fun t => (t.1.1, (t.1.2.1, t.1.2.2.1)), fun t => t.1.2.2.2.1, S_zbe_0, fun _ r => .s (Unit) (Int) r (fun _ => .l (.exit 0 (mkSt ((ys [] .nil)) ((), ())))) (fun b => .l (.ret (mkSt ((ys [4] (.cons (.dat yi) .nil))) ((b, ()), ()))))⟩
noncomputable def T_zbe (a1_ : Y1) (a2_ : (HL [yi] → Option (Bool))) : Tr (Int) :=
 .c ((Unit) ⊕ (Int)) (L_zbe_0 (a1_, (a2_, ((List.length a1_ : Nat) : Int))) (0 : Int)) fun r7_ =>
 .s (Unit) (Int) r7_
 (fun _ => .l (-1 : Int))
 (fun r9_ => .l r9_)
noncomputable def F_zbe (a1_ : Y1) (a2_ : (HL [yi] → Option (Bool))) : Option (Int) := (T_zbe a1_ a2_).ev
noncomputable def A_zbe : Sh := (.cons (.dat y1) (.cons (.clo [yi] .bool) .nil))
noncomputable def I_zbe : List (Nat × OSh) := []
noncomputable def K_zbe : RetK := { acts := [], res := [.tmp 4], sh := (.cons (.dat yi) .nil), obs := [], pins := [] }
noncomputable def D_zbe : FD := ⟨A_zbe, I_zbe, [], Int, fun x => F_zbe x.1.1 x.1.2.1, fun r => ([.dat yi r], [])⟩
noncomputable def E_zbe : Env := envOf []
noncomputable def Z_zbe : Nat → Nat → List Nat := fun _ _ => []
noncomputable def O_zbe : List (Nat × LD) := [(0, DL_zbe_0)]
noncomputable def C_zbe : Code := (f105.body).getD .skip
noncomputable def T_zba (a1_ : Y1) (a2_ : (HL [yi] → Option (Bool))) : Tr (Bool) :=
 .c (Int) (F_zbe a1_ a2_) fun r1_ =>
 .l (decide ((0 : Int) ≤ r1_))
noncomputable def F_zba (a1_ : Y1) (a2_ : (HL [yi] → Option (Bool))) : Option (Bool) := (T_zba a1_ a2_).ev
noncomputable def A_zba : Sh := (.cons (.dat y1) (.cons (.clo [yi] .bool) .nil))
noncomputable def I_zba : List (Nat × OSh) := []
noncomputable def K_zba : RetK := { acts := [], res := [.tmp 4], sh := (.cons (.dat .bool) .nil), obs := [], pins := [] }
noncomputable def D_zba : FD := ⟨A_zba, I_zba, [], Bool, fun x => F_zba x.1.1 x.1.2.1, fun r => ([.dat .bool r], [])⟩
noncomputable def E_zba : Env := envOf [(105, D_zbe)]
noncomputable def Z_zba : Nat → Nat → List Nat := fun _ _ => []
noncomputable def O_zba : List (Nat × LD) := []
noncomputable def C_zba : Code := (f94.body).getD .skip
noncomputable def T_zae (a1_ : Int) (a2_ : Int) (a3_ : Int) : Tr (Bool) :=
 .c (Bool) (F_zai a1_ a2_ a3_) fun r1_ =>
 .l (!r1_)
noncomputable def F_zae (a1_ : Int) (a2_ : Int) (a3_ : Int) : Option (Bool) := (T_zae a1_ a2_ a3_).ev
noncomputable def A_zae : Sh := (.cons (.dat yi) (.cons (.ptr (.cons (.dat yi) .nil)) (.cons (.ptr (.cons (.dat yi) .nil)) .nil)))
noncomputable def I_zae : List (Nat × OSh) := []
noncomputable def K_zae : RetK := { acts := [], res := [.tmp 4], sh := (.cons (.dat .bool) .nil), obs := [], pins := [] }
noncomputable def D_zae : FD := ⟨A_zae, I_zae, [], Bool, fun x => F_zae x.1.1 x.1.2.1.1 x.1.2.2.1.1, fun r => ([.dat .bool r], [])⟩
noncomputable def E_zae : Env := envOf [(59, D_zai)]
noncomputable def Z_zae : Nat → Nat → List Nat := fun _ _ => []
noncomputable def O_zae : List (Nat × LD) := []
noncomputable def C_zae : Code := (f95.body).getD .skip
noncomputable def T_zad (a1_ : Y1) (a2_ : Int) (a3_ : Int) : Tr (Bool) :=
 .c (Bool) (F_zba a1_ (fun h1_ => Option.bind (F_zae h1_.1 a2_ a3_) fun y2_ => some y2_)) fun r3_ =>
 .l (!r3_)
noncomputable def F_zad (a1_ : Y1) (a2_ : Int) (a3_ : Int) : Option (Bool) := (T_zad a1_ a2_ a3_).ev
noncomputable def A_zad : Sh := (.cons (.dat y1) (.cons (.dat yi) (.cons (.dat yi) .nil)))
noncomputable def I_zad : List (Nat × OSh) := []
noncomputable def K_zad : RetK := { acts := [], res := [.tmp 6], sh := (.cons (.dat .bool) .nil), obs := [], pins := [] }
noncomputable def D_zad : FD := ⟨A_zad, I_zad, [], Bool, fun x => F_zad x.1.1 x.1.2.1 x.1.2.2.1, fun r => ([.dat .bool r], [])⟩
noncomputable def E_zad : Env := envOf [(94, D_zba), (94, D_zba), (95, D_zae)]
noncomputable def Z_zad : Nat → Nat → List Nat := fun _ _ => []
noncomputable def O_zad : List (Nat × LD) := []
noncomputable def C_zad : Code := (f60.body).getD .skip
noncomputable def S_zbc_0 (k : Y3 × (((HL [y2] → Option (Bool))) × Int)) (v : Int) : Tr ((Int) ⊕ ((Unit) ⊕ (Int))) :=
 .t (decide (v < k.2.2))
 (.g (inR v (List.length k.1)) <|
 .c (Bool) (k.2.1 ((List.getD k.1 (Int.toNat v) ([] : List Y1)), ())) fun r5_ =>
 .t r5_
 (.l (.inr (.inr v)))
 (.l (.inl (IntKind.wrap .i64 (v + (1 : Int))))))
 (.l (.inr (.inl ())))
noncomputable def L_zbc_0 (k : Y3 × (((HL [y2] → Option (Bool))) × Int)) (v : Int) : Option ((Unit) ⊕ (Int)) := iter (fun v => (S_zbc_0 k v).ev) v
noncomputable def DL_zbc_0 : LD := ⟨(yh [0, 1, 7, 8] (.cons (.dat y3) (.cons (.clo [y2] .bool) (.cons (.dat yi) (.cons (.dat yi) .nil))))), [(0, (yh [] .nil))], (yh [4] (.cons (.dat yi) .nil)), Y3 × (((HL [y2] → Option (Bool))) × Int), Int, (Unit) ⊕ (Int), fun k v => ((k.1, (k.2.1, (k.2.2, (v, ())))), ()), fun t => (t.1.1, (t.1.2.1, t.1.2.2.1)), fun t => t.1.2.2.2.1, S_zbc_0, fun _ r => .s (Unit) (Int) r (fun _ => .l (.exit 0 (mkSt ((ys [] .nil)) ((), ())))) (fun b => .l (.ret (mkSt ((ys [4] (.cons (.dat yi) .nil))) ((b, ()), ()))))⟩
noncomputable def T_zbc (a1_ : Y3) (a2_ : (HL [y2] → Option (Bool))) : Tr (Int) :=
 .c ((Unit) ⊕ (Int)) (L_zbc_0 (a1_, (a2_, ((List.length a1_ : Nat) : Int))) (0 : Int)) fun r7_ =>
 .s (Unit) (Int) r7_
 (fun _ => .l (-1 : Int))
 (fun r9_ => .l r9_)
noncomputable def F_zbc (a1_ : Y3) (a2_ : (HL [y2] → Option (Bool))) : Option (Int) := (T_zbc a1_ a2_).ev
noncomputable def A_zbc : Sh := (.cons (.dat y3) (.cons (.clo [y2] .bool) .nil))
noncomputable def I_zbc : List (Nat × OSh) := []
noncomputable def K_zbc : RetK := { acts := [], res := [.tmp 4], sh := (.cons (.dat yi) .nil), obs := [], pins := [] }
noncomputable def D_zbc : FD := ⟨A_zbc, I_zbc, [], Int, fun x => F_zbc x.1.1 x.1.2.1, fun r => ([.dat yi r], [])⟩
noncomputable def E_zbc : Env := envOf []
noncomputable def Z_zbc : Nat → Nat → List Nat := fun _ _ => []
noncomputable def O_zbc : List (Nat × LD) := [(0, DL_zbc_0)]
noncomputable def C_zbc : Code := (f97.body).getD .skip
noncomputable def T_zay (a1_ : Y3) (a2_ : (HL [y2] → Option (Bool))) : Tr (Bool) :=
 .c (Int) (F_zbc a1_ a2_) fun r1_ =>
 .l (decide ((0 : Int) ≤ r1_))
noncomputable def F_zay (a1_ : Y3) (a2_ : (HL [y2] → Option (Bool))) : Option (Bool) := (T_zay a1_ a2_).ev
noncomputable def A_zay : Sh := (.cons (.dat y3) (.cons (.clo [y2] .bool) .nil))
noncomputable def I_zay : List (Nat × OSh) := []
noncomputable def K_zay : RetK := { acts := [], res := [.tmp 4], sh := (.cons (.dat .bool) .nil), obs := [], pins := [] }
noncomputable def D_zay : FD := ⟨A_zay, I_zay, [], Bool, fun x => F_zay x.1.1 x.1.2.1, fun r => ([.dat .bool r], [])⟩
noncomputable def E_zay : Env := envOf [(97, D_zbc)]
noncomputable def Z_zay : Nat → Nat → List Nat := fun _ _ => []
noncomputable def O_zay : List (Nat × LD) := []
noncomputable def C_zay : Code := (f62.body).getD .skip
noncomputable def S_zbd_0 (k : Y2 × (((HL [y1] → Option (Bool))) × Int)) (v : Int) : Tr ((Int) ⊕ ((Unit) ⊕ (Int))) :=
 .t (decide (v < k.2.2))
 (.g (inR v (List.length k.1)) <|
 .c (Bool) (k.2.1 ((List.getD k.1 (Int.toNat v) ([] : Y1)), ())) fun r5_ =>
 .t r5_
 (.l (.inr (.inr v)))
 (.l (.inl (IntKind.wrap .i64 (v + (1 : Int))))))
 (.l (.inr (.inl ())))
noncomputable def L_zbd_0 (k : Y2 × (((HL [y1] → Option (Bool))) × Int)) (v : Int) : Option ((Unit) ⊕ (Int)) := iter (fun v => (S_zbd_0 k v).ev) v
noncomputable def DL_zbd_0 : LD := ⟨(yh [0, 1, 7, 8] (.cons (.dat y2) (.cons (.clo [y1] .bool) (.cons (.dat yi) (.cons (.dat yi) .nil))))), [(0, (yh [] .nil))], (yh [4] (.cons (.dat yi) .nil)), Y2 × (((HL [y1] → Option (Bool))) × Int), Int, (Unit) ⊕ (Int), fun k v => ((k.1, (k.2.1, (k.2.2, (v, ())))), ()), fun t => (t.1.1, (t.1.2.1, t.1.2.2.1)), fun t => t.1.2.2.2.1, S_zbd_0, fun _ r => .s (Unit) (Int) r (fun _ => .l (.exit 0 (mkSt ((ys [] .nil)) ((), ())))) (fun b => .l (.ret (mkSt ((ys [4] (.cons (.dat yi) .nil))) ((b, ()), ()))))⟩
noncomputable def T_zbd (a1_ : List Y1) (a2_ : (HL [y1] → Option (Bool))) : Tr (Int) :=
 .c ((Unit) ⊕ (Int)) (L_zbd_0 (a1_, (a2_, ((List.length a1_ : Nat) : Int))) (0 : Int)) fun r7_ =>
 .s (Unit) (Int) r7_
 (fun _ => .l (-1 : Int))
 (fun r9_ => .l r9_)
noncomputable def F_zbd (a1_ : List Y1) (a2_ : (HL [y1] → Option (Bool))) : Option (Int) := (T_zbd a1_ a2_).ev
noncomputable def A_zbd : Sh := (.cons (.dat y2) (.cons (.clo [y1] .bool) .nil))
noncomputable def I_zbd : List (Nat × OSh) := []
noncomputable def K_zbd : RetK := { acts := [], res := [.tmp 4], sh := (.cons (.dat yi) .nil), obs := [], pins := [] }
noncomputable def D_zbd : FD := ⟨A_zbd, I_zbd, [], Int, fun x => F_zbd x.1.1 x.1.2.1, fun r => ([.dat yi r], [])⟩
noncomputable def E_zbd : Env := envOf []
noncomputable def Z_zbd : Nat → Nat → List Nat := fun _ _ => []
noncomputable def O_zbd : List (Nat × LD) := [(0, DL_zbd_0)]
noncomputable def C_zbd : Code := (f98.body).getD .skip
noncomputable def T_zaz (a1_ : List Y1) (a2_ : (HL [y1] → Option (Bool))) : Tr (Bool) :=
 .c (Int) (F_zbd a1_ a2_) fun r1_ =>
 .l (decide ((0 : Int) ≤ r1_))
noncomputable def F_zaz (a1_ : List Y1) (a2_ : (HL [y1] → Option (Bool))) : Option (Bool) := (T_zaz a1_ a2_).ev
noncomputable def A_zaz : Sh := (.cons (.dat y2) (.cons (.clo [y1] .bool) .nil))
noncomputable def I_zaz : List (Nat × OSh) := []
noncomputable def K_zaz : RetK := { acts := [], res := [.tmp 4], sh := (.cons (.dat .bool) .nil), obs := [], pins := [] }
noncomputable def D_zaz : FD := ⟨A_zaz, I_zaz, [], Bool, fun x => F_zaz x.1.1 x.1.2.1, fun r => ([.dat .bool r], [])⟩
noncomputable def E_zaz : Env := envOf [(98, D_zbd)]
noncomputable def Z_zaz : Nat → Nat → List Nat := fun _ _ => []
noncomputable def O_zaz : List (Nat × LD) := []
noncomputable def C_zaz : Code := (f64.body).getD .skip
noncomputable def T_zp (a1_ : Y1) (a2_ : Int) : Tr (Bool) :=
 .t (((List.length a1_ : Nat) : Int) != a2_)
 (.l true)
 (.c (Bool) (F_zad a1_ (0 : Int) (99 : Int)) fun r1_ =>
 .l (!r1_))
noncomputable def F_zp (a1_ : Y1) (a2_ : Int) : Option (Bool) := (T_zp a1_ a2_).ev
noncomputable def A_zp : Sh := (.cons (.dat y1) (.cons (.ptr (.cons (.dat yi) .nil)) .nil))
noncomputable def I_zp : List (Nat × OSh) := []
noncomputable def K_zp : RetK := { acts := [], res := [.tmp 3], sh := (.cons (.dat .bool) .nil), obs := [], pins := [] }
noncomputable def D_zp : FD := ⟨A_zp, I_zp, [], Bool, fun x => F_zp x.1.1 x.1.2.1.1, fun r => ([.dat .bool r], [])⟩
noncomputable def E_zp : Env := envOf [(60, D_zad)]
noncomputable def Z_zp : Nat → Nat → List Nat := fun _ _ => []
noncomputable def O_zp : List (Nat × LD) := []
noncomputable def C_zp : Code := (f65.body).getD .skip
noncomputable def T_zo (a1_ : List Y1) (a2_ : Int) : Tr (Bool) :=
 .t (decide ((5 : Int) < ((List.length a1_ : Nat) : Int)))
 (.l true)
 (.c (Bool) (F_zaz a1_ (fun h1_ => Option.bind (F_zp h1_.1 a2_) fun y2_ => some y2_)) fun r3_ =>
 .l r3_)
noncomputable def F_zo (a1_ : List Y1) (a2_ : Int) : Option (Bool) := (T_zo a1_ a2_).ev
noncomputable def A_zo : Sh := (.cons (.dat y2) (.cons (.ptr (.cons (.dat yi) .nil)) .nil))
noncomputable def I_zo : List (Nat × OSh) := []
noncomputable def K_zo : RetK := { acts := [], res := [.tmp 3], sh := (.cons (.dat .bool) .nil), obs := [], pins := [] }
noncomputable def D_zo : FD := ⟨A_zo, I_zo, [], Bool, fun x => F_zo x.1.1 x.1.2.1.1, fun r => ([.dat .bool r], [])⟩
noncomputable def E_zo : Env := envOf [(64, D_zaz), (64, D_zaz), (65, D_zp)]
noncomputable def Z_zo : Nat → Nat → List Nat := fun _ _ => []
noncomputable def O_zo : List (Nat × LD) := []
noncomputable def C_zo : Code := (f63.body).getD .skip
noncomputable def T_zn (a1_ : Y1) (a2_ : Y1) (a3_ : Y1) (a4_ : Y3) : Tr (Bool) :=
 .c (Bool) (F_zai ((List.length a1_ : Nat) : Int) (1 : Int) (5 : Int)) fun r1_ =>
 .t (!r1_)
 (.l false)
 (.t (((List.length a2_ : Nat) : Int) != ((List.length a1_ : Nat) : Int))
 (.l false)
 (.t (((List.length a3_ : Nat) : Int) != ((List.length a1_ : Nat) : Int))
 (.l false)
 (.c Y1 (F_zax ([a1_, a2_, a3_] : List Y1)) fun r2_ =>
 .c (Bool) (F_zad r2_ (0 : Int) (99 : Int)) fun r3_ =>
 .t (!r3_)
 (.l false)
 (.t (decide ((5 : Int) < ((List.length a4_ : Nat) : Int)))
 (.l false)
 (.c (Bool) (F_zay a4_ (fun h4_ => Option.bind (F_zo h4_.1 ((List.length a1_ : Nat) : Int)) fun y5_ => some y5_)) fun r6_ =>
 .l (!r6_))))))
noncomputable def F_zn (a1_ : Y1) (a2_ : Y1) (a3_ : Y1) (a4_ : Y3) : Option (Bool) := (T_zn a1_ a2_ a3_ a4_).ev
noncomputable def A_zn : Sh := (.cons (.agg (.cons (.dat y1) (.cons (.dat y1) (.cons (.dat y1) (.cons (.dat y3) .nil))))) .nil)
noncomputable def I_zn : List (Nat × OSh) := []
noncomputable def K_zn : RetK := { acts := [], res := [.tmp 2], sh := (.cons (.dat .bool) .nil), obs := [], pins := [] }
noncomputable def D_zn : FD := ⟨A_zn, I_zn, [], Bool, fun x => F_zn x.1.1.1 x.1.1.2.1 x.1.1.2.2.1 x.1.1.2.2.2.1, fun r => ([.dat .bool r], [])⟩
noncomputable def E_zn : Env := envOf [(59, D_zai), (61, D_zax), (60, D_zad), (62, D_zay), (62, D_zay), (63, D_zo)]
noncomputable def Z_zn : Nat → Nat → List Nat := fun _ _ => []
noncomputable def O_zn : List (Nat × LD) := []
noncomputable def C_zn : Code := (f24.body).getD .skip
noncomputable def S_zak_0 (k : Y1 × (Int × (Y1 × Int))) (v : Int) : Tr ((Int) ⊕ ((Unit) ⊕ (Unit))) :=
 .t (decide (v < k.2.2.2))
 (.g (inR v (List.length k.2.2.1)) <|
 .c (Bool) (F_zai (List.getD k.2.2.1 (Int.toNat v) (0 : Int)) (0 : Int) (IntKind.wrap .i64 (k.2.1 - (1 : Int)))) fun r6_ =>
 .t (!r6_)
 (.l (.inr (.inr ())))
 (.t (decide ((0 : Int) < v))
 (.g (inR (IntKind.wrap .i64 (v - (1 : Int))) (List.length k.1)) <|
 .t (decide ((List.getD k.2.2.1 (Int.toNat v) (0 : Int)) ≤ (List.getD k.1 (Int.toNat (IntKind.wrap .i64 (v - (1 : Int)))) (0 : Int))))
 (.l (.inr (.inr ())))
 (.l (.inl (IntKind.wrap .i64 (v + (1 : Int))))))
 (.l (.inl (IntKind.wrap .i64 (v + (1 : Int)))))))
 (.l (.inr (.inl ())))
noncomputable def L_zak_0 (k : Y1 × (Int × (Y1 × Int))) (v : Int) : Option ((Unit) ⊕ (Unit)) := iter (fun v => (S_zak_0 k v).ev) v
noncomputable def DL_zak_0 : LD := ⟨(yh [0, 1, 7, 8, 9] (.cons (.dat y1) (.cons (.dat yi) (.cons (.dat y1) (.cons (.dat yi) (.cons (.dat yi) .nil)))))), [(0, (yh [] .nil))], (yh [4] (.cons (.dat .bool) .nil)), Y1 × (Int × (Y1 × Int)), Int, (Unit) ⊕ (Unit), fun k v => ((k.1, (k.2.1, (k.2.2.1, (k.2.2.2, (v, ()))))), ()), fun t => (t.1.1, (t.1.2.1, (t.1.2.2.1, t.1.2.2.2.1))), fun t => t.1.2.2.2.2.1, S_zak_0, fun _ r => .s (Unit) (Unit) r (fun _ => .l (.exit 0 (mkSt ((ys [] .nil)) ((), ())))) (fun _ => .l (.ret (mkSt ((ys [4] (.cons (.dat .bool) .nil))) ((false, ()), ()))))⟩
noncomputable def T_zak (a1_ : Y1) (a2_ : Int) : Tr (Bool) :=
 .c ((Unit) ⊕ (Unit)) (L_zak_0 (a1_, (a2_, (a1_, ((List.length a1_ : Nat) : Int)))) (0 : Int)) fun r8_ =>
 .s (Unit) (Unit) r8_
 (fun _ => .l true)
 (fun _ => .l false)
noncomputable def F_zak (a1_ : Y1) (a2_ : Int) : Option (Bool) := (T_zak a1_ a2_).ev
noncomputable def A_zak : Sh := (.cons (.dat y1) (.cons (.dat yi) .nil))
noncomputable def I_zak : List (Nat × OSh) := []
noncomputable def K_zak : RetK := { acts := [], res := [.tmp 4], sh := (.cons (.dat .bool) .nil), obs := [], pins := [] }
noncomputable def D_zak : FD := ⟨A_zak, I_zak, [], Bool, fun x => F_zak x.1.1 x.1.2.1, fun r => ([.dat .bool r], [])⟩
noncomputable def E_zak : Env := envOf [(59, D_zai)]
noncomputable def Z_zak : Nat → Nat → List Nat := fun _ _ => []
noncomputable def O_zak : List (Nat × LD) := [(0, DL_zak_0)]
noncomputable def C_zak : Code := (f80.body).getD .skip
noncomputable def T_zaa (a1_ : Y1) (_a2_ : Y1) (_a3_ : Y1) (a4_ : Y3) (a5_ : Int) (a6_ : Y1) : Tr (Bool) :=
 .c (Bool) (F_zak a6_ ((List.length a1_ : Nat) : Int)) fun r1_ =>
 .t r1_
 (.t (decide ((0 : Int) < ((List.length a6_ : Nat) : Int)))
 (.l true)
 (.g (inR a5_ (List.length a4_)) <|
 .l (((List.length (List.getD a4_ (Int.toNat a5_) ([] : List Y1)) : Nat) : Int) == (0 : Int))))
 (.l false)
noncomputable def F_zaa (a1_ : Y1) (a2_ : Y1) (a3_ : Y1) (a4_ : Y3) (a5_ : Int) (a6_ : Y1) : Option (Bool) := (T_zaa a1_ a2_ a3_ a4_ a5_ a6_).ev
noncomputable def A_zaa : Sh := (.cons (.agg (.cons (.dat y1) (.cons (.dat y1) (.cons (.dat y1) (.cons (.dat y3) .nil))))) (.cons (.dat yi) (.cons (.dat y1) .nil)))
noncomputable def I_zaa : List (Nat × OSh) := []
noncomputable def K_zaa : RetK := { acts := [], res := [.tmp 6], sh := (.cons (.dat .bool) .nil), obs := [], pins := [] }
noncomputable def D_zaa : FD := ⟨A_zaa, I_zaa, [], Bool, fun x => F_zaa x.1.1.1 x.1.1.2.1 x.1.1.2.2.1 x.1.1.2.2.2.1 x.1.2.1 x.1.2.2.1, fun r => ([.dat .bool r], [])⟩
noncomputable def E_zaa : Env := envOf [(80, D_zak)]
noncomputable def Z_zaa : Nat → Nat → List Nat := fun _ _ => []
noncomputable def O_zaa : List (Nat × LD) := []
noncomputable def C_zaa : Code := (f81.body).getD .skip
noncomputable def S_zz_0 (k : Y2 × (Int × (Y1 × (Y1 × (Y1 × Y3))))) (v : Int) : Tr ((Int) ⊕ ((Unit) ⊕ (Unit))) :=
 .t (decide (v < k.2.1))
 (.g (inR v (List.length k.1)) <|
 .c (Bool) (F_zaa k.2.2.1 k.2.2.2.1 k.2.2.2.2.1 k.2.2.2.2.2 v (List.getD k.1 (Int.toNat v) ([] : Y1))) fun r8_ =>
 .t (!r8_)
 (.l (.inr (.inr ())))
 (.l (.inl (IntKind.wrap .i64 (v + (1 : Int))))))
 (.l (.inr (.inl ())))
noncomputable def L_zz_0 (k : Y2 × (Int × (Y1 × (Y1 × (Y1 × Y3))))) (v : Int) : Option ((Unit) ⊕ (Unit)) := iter (fun v => (S_zz_0 k v).ev) v
noncomputable def DL_zz_0 : LD := ⟨{ acts := [], S := { slots := [2, 13, 14, 15], sh := (.cons (.box 2 0) (.cons (.dat y2) (.cons (.dat yi) (.cons (.dat yi) .nil)))), obs := [(2, .cells (.cons (.dat y1) (.cons (.dat y1) (.cons (.dat y1) (.cons (.dat y3) .nil)))))] } }, [(0, (yh [] .nil))], (yh [4] (.cons (.dat .bool) .nil)), Y2 × (Int × (Y1 × (Y1 × (Y1 × Y3)))), Int, (Unit) ⊕ (Unit), fun k v => (((), (k.1, (k.2.1, (v, ())))), ((k.2.2.1, (k.2.2.2.1, (k.2.2.2.2.1, (k.2.2.2.2.2, ())))), ())), fun t => (t.1.2.1, (t.1.2.2.1, (t.2.1.1, (t.2.1.2.1, (t.2.1.2.2.1, t.2.1.2.2.2.1))))), fun t => t.1.2.2.2.1, S_zz_0, fun _ r => .s (Unit) (Unit) r (fun _ => .l (.exit 0 (mkSt ((ys [] .nil)) ((), ())))) (fun _ => .l (.ret (mkSt ((ys [4] (.cons (.dat .bool) .nil))) ((false, ()), ()))))⟩
noncomputable def T_zz (a1_ : Y1) (a2_ : Y1) (a3_ : Y1) (a4_ : Y3) (a5_ : List Y1) : Tr (Bool) :=
 .t (((List.length a5_ : Nat) : Int) != ((List.length a4_ : Nat) : Int))
 (.l false)
 (.c ((Unit) ⊕ (Unit)) (L_zz_0 (a5_, (((List.length a5_ : Nat) : Int), (a1_, (a2_, (a3_, a4_))))) (0 : Int)) fun r10_ =>
 .s (Unit) (Unit) r10_
 (fun _ => .l true)
 (fun _ => .l false))
noncomputable def F_zz (a1_ : Y1) (a2_ : Y1) (a3_ : Y1) (a4_ : Y3) (a5_ : List Y1) : Option (Bool) := (T_zz a1_ a2_ a3_ a4_ a5_).ev
noncomputable def A_zz : Sh := (.cons (.agg (.cons (.dat y1) (.cons (.dat y1) (.cons (.dat y1) (.cons (.dat y3) .nil))))) (.cons (.dat y2) .nil))
noncomputable def I_zz : List (Nat × OSh) := []
noncomputable def K_zz : RetK := { acts := [], res := [.tmp 4], sh := (.cons (.dat .bool) .nil), obs := [], pins := [] }
noncomputable def D_zz : FD := ⟨A_zz, I_zz, [], Bool, fun x => F_zz x.1.1.1 x.1.1.2.1 x.1.1.2.2.1 x.1.1.2.2.2.1 x.1.2.1, fun r => ([.dat .bool r], [])⟩
noncomputable def E_zz : Env := envOf [(81, D_zaa)]
noncomputable def Z_zz : Nat → Nat → List Nat := fun _ _ => []
noncomputable def O_zz : List (Nat × LD) := [(0, DL_zz_0)]
noncomputable def C_zz : Code := (f58.body).getD .skip
noncomputable def T_zm (a1_ : Y1) (a2_ : Y1) (a3_ : Y1) (a4_ : Y3) (a5_ : List Y1) : Tr (Bool × (Bool)) :=
 .c (Bool) (F_zn a1_ a2_ a3_ a4_) fun r1_ =>
 .t (!r1_)
 (.l (false, false))
 (.c (Bool) (F_zz a1_ a2_ a3_ a4_ a5_) fun r2_ =>
 .l (r2_, true))
noncomputable def F_zm (a1_ : Y1) (a2_ : Y1) (a3_ : Y1) (a4_ : Y3) (a5_ : List Y1) : Option (Bool × (Bool)) := (T_zm a1_ a2_ a3_ a4_ a5_).ev
noncomputable def A_zm : Sh := (.cons (.agg (.cons (.dat y1) (.cons (.dat y1) (.cons (.dat y1) (.cons (.dat y3) .nil))))) (.cons (.dat y2) .nil))
noncomputable def I_zm : List (Nat × OSh) := []
noncomputable def K_zm : RetK := { acts := [], res := [.tmp 4, .tmp 5], sh := (.cons (.dat .bool) (.cons (.dat .bool) .nil)), obs := [], pins := [] }
noncomputable def D_zm : FD := ⟨A_zm, I_zm, [], Bool × (Bool), fun x => F_zm x.1.1.1 x.1.1.2.1 x.1.1.2.2.1 x.1.1.2.2.2.1 x.1.2.1, fun r => ([.dat .bool r.1, .dat .bool r.2], [])⟩
noncomputable def E_zm : Env := envOf [(24, D_zn), (58, D_zz)]
noncomputable def Z_zm : Nat → Nat → List Nat := fun _ _ => []
noncomputable def O_zm : List (Nat × LD) := []
noncomputable def C_zm : Code := (f22.body).getD .skip
noncomputable def S_zaf_0 (k : Y1 × Int) (v : Int × Int) : Tr ((Int × Int) ⊕ (Int)) :=
 .t (decide (v.2 < k.2))
 (.g (inR v.2 (List.length k.1)) <|
 .g (decide ((0 : Int) ≤ (List.getD k.1 (Int.toNat v.2) (0 : Int)))) <|
 .l (.inl ((IntKind.wrap .u64 (BitVec.toNat ((BitVec.ofInt (IntKind.bits .u64) v.1) ||| (BitVec.ofInt (IntKind.bits .u64) (IntKind.wrap .u64 ((1 : Int) * 2 ^ (min (Int.toNat (List.getD k.1 (Int.toNat v.2) (0 : Int))) (IntKind.bits .u64)))))))), (IntKind.wrap .i64 (v.2 + (1 : Int))))))
 (.l (.inr v.1))
noncomputable def L_zaf_0 (k : Y1 × Int) (v : Int × Int) : Option (Int) := iter (fun v => (S_zaf_0 k v).ev) v
noncomputable def DL_zaf_0 : LD := ⟨(yh [3, 6, 7, 8] (.cons (.dat (.int .u64)) (.cons (.dat y1) (.cons (.dat yi) (.cons (.dat yi) .nil))))), [(0, (yh [3] (.cons (.dat (.int .u64)) .nil)))], (yh [] .nil), Y1 × (Int), Int × (Int), Int, fun k v => ((v.1, (k.1, (k.2, (v.2, ())))), ()), fun t => (t.1.2.1, t.1.2.2.1), fun t => (t.1.1, t.1.2.2.2.1), S_zaf_0, fun _ r => .l (.exit 0 (mkSt ((ys [3] (.cons (.dat (.int .u64)) .nil))) ((r, ()), ())))⟩
noncomputable def T_zaf (a1_ : Y1) : Tr (Int) :=
 .c (Int) (L_zaf_0 (a1_, ((List.length a1_ : Nat) : Int)) ((0 : Int), (0 : Int))) fun r6_ =>
 .l r6_
noncomputable def F_zaf (a1_ : Y1) : Option (Int) := (T_zaf a1_).ev
noncomputable def A_zaf : Sh := (.cons (.dat y1) .nil)
noncomputable def I_zaf : List (Nat × OSh) := []
noncomputable def K_zaf : RetK := { acts := [], res := [.tmp 2], sh := (.cons (.dat (.int .u64)) .nil), obs := [], pins := [] }
noncomputable def D_zaf : FD := ⟨A_zaf, I_zaf, [], Int, fun x => F_zaf x.1.1, fun r => ([.dat (.int .u64) r], [])⟩
noncomputable def E_zaf : Env := envOf []
noncomputable def Z_zaf : Nat → Nat → List Nat := fun _ _ => []
noncomputable def O_zaf : List (Nat × LD) := [(0, DL_zaf_0)]
noncomputable def C_zaf : Code := (f53.body).getD .skip
noncomputable def T_zag (a1_ : Int) (a2_ : Int) : Tr (Bool) :=
 .g (decide ((0 : Int) ≤ a2_)) <|
 .l ((IntKind.wrap .u64 (BitVec.toNat ((BitVec.ofInt (IntKind.bits .u64) (Int.fdiv a1_ (2 ^ (min (Int.toNat a2_) (IntKind.bits .u64))))) &&& (BitVec.ofInt (IntKind.bits .u64) (1 : Int))))) == (1 : Int))
noncomputable def F_zag (a1_ : Int) (a2_ : Int) : Option (Bool) := (T_zag a1_ a2_).ev
noncomputable def A_zag : Sh := (.cons (.dat (.int .u64)) (.cons (.dat yi) .nil))
noncomputable def I_zag : List (Nat × OSh) := []
noncomputable def K_zag : RetK := { acts := [], res := [.tmp 4], sh := (.cons (.dat .bool) .nil), obs := [], pins := [] }
noncomputable def D_zag : FD := ⟨A_zag, I_zag, [], Bool, fun x => F_zag x.1.1 x.1.2.1, fun r => ([.dat .bool r], [])⟩
noncomputable def E_zag : Env := envOf []
noncomputable def Z_zag : Nat → Nat → List Nat := fun _ _ => []
noncomputable def O_zag : List (Nat × LD) := []
noncomputable def C_zag : Code := (f92.body).getD .skip
noncomputable def S_zj_0 (k : Int × (Y1 × (Int × (Y1 × Y2)))) (v : Int × Int) : Tr ((Int × Int) ⊕ (Int)) :=
 .t (decide (v.2 < k.2.2.1))
 (.g (inR v.2 (List.length k.2.1)) <|
 .g (inR k.1 (List.length k.2.2.2.2)) <|
 .g (inR (List.getD k.2.1 (Int.toNat v.2) (0 : Int)) (List.length (List.getD k.2.2.2.2 (Int.toNat k.1) ([] : Y1)))) <|
 .g (inR k.1 (List.length k.2.2.2.2)) <|
 .g (inR v.1 (List.length (List.getD k.2.2.2.2 (Int.toNat k.1) ([] : Y1)))) <|
 .t (decide ((List.getD (List.getD k.2.2.2.2 (Int.toNat k.1) ([] : Y1)) (Int.toNat (List.getD k.2.1 (Int.toNat v.2) (0 : Int))) (0 : Int)) < (List.getD (List.getD k.2.2.2.2 (Int.toNat k.1) ([] : Y1)) (Int.toNat v.1) (0 : Int))))
 (.l (.inl ((List.getD k.2.1 (Int.toNat v.2) (0 : Int)), (IntKind.wrap .i64 (v.2 + (1 : Int))))))
 (.l (.inl (v.1, (IntKind.wrap .i64 (v.2 + (1 : Int)))))))
 (.l (.inr v.1))
noncomputable def L_zj_0 (k : Int × (Y1 × (Int × (Y1 × Y2)))) (v : Int × Int) : Option (Int) := iter (fun v => (S_zj_0 k v).ev) v
noncomputable def DL_zj_0 : LD := ⟨{ acts := [], S := { slots := [1, 3, 7, 13, 14, 15], sh := (.cons (.dat yi) (.cons (.box 3 0) (.cons (.dat yi) (.cons (.dat y1) (.cons (.dat yi) (.cons (.dat yi) .nil)))))), obs := [(3, .cells (.cons (.dat y1) (.cons (.dat y2) .nil)))] } }, [(0, (yh [7] (.cons (.dat yi) .nil)))], (yh [] .nil), Int × (Y1 × (Int × (Y1 × Y2))), Int × (Int), Int, fun k v => ((k.1, ((), (v.1, (k.2.1, (k.2.2.1, (v.2, ())))))), ((k.2.2.2.1, (k.2.2.2.2, ())), ())), fun t => (t.1.1, (t.1.2.2.2.1, (t.1.2.2.2.2.1, (t.2.1.1, t.2.1.2.1)))), fun t => (t.1.2.2.1, t.1.2.2.2.2.2.1), S_zj_0, fun _ r => .l (.exit 0 (mkSt ((ys [7] (.cons (.dat yi) .nil))) ((r, ()), ())))⟩
noncomputable def T_zj (a1_ : Y1) (a2_ : List Y1) (a3_ : Int) (a4_ : Y1) : Tr (Int) :=
 .g (inR (0 : Int) (List.length a4_)) <|
 .c (Int) (L_zj_0 (a3_, (a4_, (((List.length a4_ : Nat) : Int), (a1_, a2_)))) ((List.getD a4_ (Int.toNat (0 : Int)) (0 : Int)), (0 : Int))) fun r9_ =>
 .l r9_
noncomputable def F_zj (a1_ : Y1) (a2_ : List Y1) (a3_ : Int) (a4_ : Y1) : Option (Int) := (T_zj a1_ a2_ a3_ a4_).ev
noncomputable def A_zj : Sh := (.cons (.agg (.cons (.dat y1) (.cons (.dat y2) .nil))) (.cons (.dat yi) (.cons (.dat y1) .nil)))
noncomputable def I_zj : List (Nat × OSh) := []
noncomputable def K_zj : RetK := { acts := [], res := [.tmp 6], sh := (.cons (.dat yi) .nil), obs := [], pins := [] }
noncomputable def D_zj : FD := ⟨A_zj, I_zj, [], Int, fun x => F_zj x.1.1.1 x.1.1.2.1 x.1.2.1 x.1.2.2.1, fun r => ([.dat yi r], [])⟩
noncomputable def E_zj : Env := envOf []
noncomputable def Z_zj : Nat → Nat → List Nat := fun _ _ => []
noncomputable def O_zj : List (Nat × LD) := [(0, DL_zj_0)]
noncomputable def C_zj : Code := (f117.body).getD .skip
noncomputable def S_zi_0 (k : Y1 × (Int × (Y1 × Y2))) (v : Int × Y1) : Tr ((Int × Y1) ⊕ Y1) :=
 .t (decide (v.1 < k.2.1))
 (.c (Int) (F_zj k.2.2.1 k.2.2.2 v.1 k.1) fun r7_ =>
 .g (decide ((List.length v.2 + List.length ([r7_] : Y1)) * 8 ≤ 140737488355328)) <|
 .l (.inl ((IntKind.wrap .i64 (v.1 + (1 : Int))), (v.2 ++ ([r7_] : Y1)))))
 (.l (.inr v.2))
noncomputable def L_zi_0 (k : Y1 × (Int × (Y1 × Y2))) (v : Int × Y1) : Option Y1 := iter (fun v => (S_zi_0 k v).ev) v
noncomputable def DL_zi_0 : LD := ⟨{ acts := [], S := { slots := [1, 2, 5, 10, 11], sh := (.cons (.dat y1) (.cons (.box 2 0) (.cons (.arr 7) (.cons (.dat yi) (.cons (.dat yi) .nil))))), obs := [(2, .cells (.cons (.dat y1) (.cons (.dat y2) .nil))), (7, .arr 3 yi)] } }, [(0, { acts := [], S := { slots := [5], sh := (.cons (.arr 7) .nil), obs := [(7, .arr 3 yi)] } })], (yh [] .nil), Y1 × (Int × (Y1 × Y2)), Int × Y1, Y1, fun k v => ((k.1, ((), ((), (k.2.1, (v.1, ()))))), ((k.2.2.1, (k.2.2.2, ())), (v.2, ()))), fun t => (t.1.1, (t.1.2.2.2.1, (t.2.1.1, t.2.1.2.1))), fun t => (t.1.2.2.2.2.1, t.2.2.1), S_zi_0, fun _ r => .l (.exit 0 (mkSt ({ slots := [5], sh := (.cons (.arr 7) .nil), obs := [(7, .arr 3 yi)] }) (((), ()), (r, ()))))⟩
noncomputable def T_zi (a1_ : Y1) (a2_ : List Y1) (a3_ : Y1) : Tr Y1 :=
 .c Y1 (L_zi_0 (a3_, (((List.length a2_ : Nat) : Int), (a1_, a2_))) ((0 : Int), ([] : Y1))) fun r9_ =>
 .l r9_
noncomputable def F_zi (a1_ : Y1) (a2_ : List Y1) (a3_ : Y1) : Option Y1 := (T_zi a1_ a2_ a3_).ev
noncomputable def A_zi : Sh := (.cons (.agg (.cons (.dat y1) (.cons (.dat y2) .nil))) (.cons (.dat y1) .nil))
noncomputable def I_zi : List (Nat × OSh) := []
noncomputable def K_zi : RetK := { acts := [.ren 7 0], res := [.tmp 4], sh := (.cons (.arr 0) .nil), obs := [(0, .arr 3 yi)], pins := [] }
noncomputable def D_zi : FD := ⟨A_zi, I_zi, [], Y1, fun x => F_zi x.1.1.1 x.1.1.2.1 x.1.2.1, fun r => ([.arr 0], [(0, .arr 3 yi r)])⟩
noncomputable def E_zi : Env := envOf [(117, D_zj)]
noncomputable def Z_zi : Nat → Nat → List Nat := fun _ _ => []
noncomputable def O_zi : List (Nat × LD) := [(0, DL_zi_0)]
noncomputable def C_zi : Code := (f110.body).getD .skip
noncomputable def S_zh_0 (k : Int × (Y1 × (Y2 × Y1))) (v : Int × Y1) : Tr ((Int × Y1) ⊕ Y1) :=
 .t (decide (v.1 < k.1))
 (.g (inR v.1 (List.length k.2.2.2)) <|
 .g (decide ((Int.toNat v.1) < List.length k.2.2.2)) <|
 .g (inR v.1 (List.length k.2.2.1)) <|
 .g (inR (List.getD k.2.2.2 (Int.toNat v.1) (0 : Int)) (List.length (List.getD k.2.2.1 (Int.toNat v.1) ([] : Y1)))) <|
 .g (decide ((List.length v.2 + List.length ([(List.getD (List.getD k.2.2.1 (Int.toNat v.1) ([] : Y1)) (Int.toNat (List.getD k.2.2.2 (Int.toNat v.1) (0 : Int))) (0 : Int))] : Y1)) * 8 ≤ 140737488355328)) <|
 .l (.inl ((IntKind.wrap .i64 (v.1 + (1 : Int))), (v.2 ++ ([(List.getD (List.getD k.2.2.1 (Int.toNat v.1) ([] : Y1)) (Int.toNat (List.getD k.2.2.2 (Int.toNat v.1) (0 : Int))) (0 : Int))] : Y1)))))
 (.l (.inr v.2))
noncomputable def L_zh_0 (k : Int × (Y1 × (Y2 × Y1))) (v : Int × Y1) : Option Y1 := iter (fun v => (S_zh_0 k v).ev) v
noncomputable def DL_zh_0 : LD := ⟨{ acts := [], S := { slots := [2, 5, 11, 12, 13], sh := (.cons (.box 2 0) (.cons (.arr 8) (.cons (.arr 704) (.cons (.dat yi) (.cons (.dat yi) .nil))))), obs := [(2, .cells (.cons (.dat y1) (.cons (.dat y2) .nil))), (8, .arr 3 yi), (704, .arr 3 yi)] } }, [(0, { acts := [], S := { slots := [5], sh := (.cons (.arr 8) .nil), obs := [(8, .arr 3 yi)] } })], (yh [] .nil), Int × (Y1 × (Y2 × Y1)), Int × Y1, Y1, fun k v => (((), ((), ((), (k.1, (v.1, ()))))), ((k.2.1, (k.2.2.1, ())), (v.2, (k.2.2.2, ())))), fun t => (t.1.2.2.2.1, (t.2.1.1, (t.2.1.2.1, t.2.2.2.1))), fun t => (t.1.2.2.2.2.1, t.2.2.1), S_zh_0, fun _ r => .l (.exit 0 (mkSt ({ slots := [5], sh := (.cons (.arr 8) .nil), obs := [(8, .arr 3 yi)] }) (((), ()), (r, ()))))⟩
noncomputable def T_zh (a1_ : Y1) (a2_ : List Y1) (a3_ : Y1) : Tr Y1 :=
 .c Y1 (F_zi a1_ a2_ a3_) fun r1_ =>
 .c Y1 (L_zh_0 (((List.length r1_ : Nat) : Int), (a1_, (a2_, r1_))) ((0 : Int), ([] : Y1))) fun r9_ =>
 .l r9_
noncomputable def F_zh (a1_ : Y1) (a2_ : List Y1) (a3_ : Y1) : Option Y1 := (T_zh a1_ a2_ a3_).ev
noncomputable def A_zh : Sh := (.cons (.agg (.cons (.dat y1) (.cons (.dat y2) .nil))) (.cons (.dat y1) .nil))
noncomputable def I_zh : List (Nat × OSh) := []
noncomputable def K_zh : RetK := { acts := [.ren 8 0], res := [.tmp 4], sh := (.cons (.arr 0) .nil), obs := [(0, .arr 3 yi)], pins := [] }
noncomputable def D_zh : FD := ⟨A_zh, I_zh, [], Y1, fun x => F_zh x.1.1.1 x.1.1.2.1 x.1.2.1, fun r => ([.arr 0], [(0, .arr 3 yi r)])⟩
noncomputable def E_zh : Env := envOf [(110, D_zi)]
noncomputable def Z_zh : Nat → Nat → List Nat := fun _ _ => []
noncomputable def O_zh : List (Nat × LD) := [(0, DL_zh_0)]
noncomputable def C_zh : Code := (f104.body).getD .skip
noncomputable def S_zao_0 (k : Y1 × Int) (v : Int × Int) : Tr ((Int × Int) ⊕ (Int)) :=
 .t (decide (v.2 < k.2))
 (.g (inR v.2 (List.length k.1)) <|
 .l (.inl ((IntKind.wrap .i64 (v.1 + (List.getD k.1 (Int.toNat v.2) (0 : Int)))), (IntKind.wrap .i64 (v.2 + (1 : Int))))))
 (.l (.inr v.1))
noncomputable def L_zao_0 (k : Y1 × Int) (v : Int × Int) : Option (Int) := iter (fun v => (S_zao_0 k v).ev) v
noncomputable def DL_zao_0 : LD := ⟨(yh [3, 6, 7, 8] (.cons (.dat yi) (.cons (.dat y1) (.cons (.dat yi) (.cons (.dat yi) .nil))))), [(0, (yh [3] (.cons (.dat yi) .nil)))], (yh [] .nil), Y1 × (Int), Int × (Int), Int, fun k v => ((v.1, (k.1, (k.2, (v.2, ())))), ()), fun t => (t.1.2.1, t.1.2.2.1), fun t => (t.1.1, t.1.2.2.2.1), S_zao_0, fun _ r => .l (.exit 0 (mkSt ((ys [3] (.cons (.dat yi) .nil))) ((r, ()), ())))⟩
noncomputable def T_zao (a1_ : Y1) : Tr (Int) :=
 .c (Int) (L_zao_0 (a1_, ((List.length a1_ : Nat) : Int)) ((0 : Int), (0 : Int))) fun r6_ =>
 .l r6_
noncomputable def F_zao (a1_ : Y1) : Option (Int) := (T_zao a1_).ev
noncomputable def A_zao : Sh := (.cons (.dat y1) .nil)
noncomputable def I_zao : List (Nat × OSh) := []
noncomputable def K_zao : RetK := { acts := [], res := [.tmp 2], sh := (.cons (.dat yi) .nil), obs := [], pins := [] }
noncomputable def D_zao : FD := ⟨A_zao, I_zao, [], Int, fun x => F_zao x.1.1, fun r => ([.dat yi r], [])⟩
noncomputable def E_zao : Env := envOf []
noncomputable def Z_zao : Nat → Nat → List Nat := fun _ _ => []
noncomputable def O_zao : List (Nat × LD) := [(0, DL_zao_0)]
noncomputable def C_zao : Code := (f55.body).getD .skip
noncomputable def T_zk (a1_ : Y1) (a2_ : List Y1) (a3_ : Y1) : Tr (Int) :=
 .c Y1 (F_zh a1_ a2_ a3_) fun r1_ =>
 .c (Int) (F_zao r1_) fun r2_ =>
 .l r2_
noncomputable def F_zk (a1_ : Y1) (a2_ : List Y1) (a3_ : Y1) : Option (Int) := (T_zk a1_ a2_ a3_).ev
noncomputable def A_zk : Sh := (.cons (.agg (.cons (.dat y1) (.cons (.dat y2) .nil))) (.cons (.dat y1) .nil))
noncomputable def I_zk : List (Nat × OSh) := []
noncomputable def K_zk : RetK := { acts := [], res := [.tmp 4], sh := (.cons (.dat yi) .nil), obs := [], pins := [] }
noncomputable def D_zk : FD := ⟨A_zk, I_zk, [], Int, fun x => F_zk x.1.1.1 x.1.1.2.1 x.1.2.1, fun r => ([.dat yi r], [])⟩
noncomputable def E_zk : Env := envOf [(104, D_zh), (55, D_zao)]
noncomputable def Z_zk : Nat → Nat → List Nat := fun _ _ => []
noncomputable def O_zk : List (Nat × LD) := []
noncomputable def C_zk : Code := (f93.body).getD .skip
noncomputable def S_zab_0 (k : Int × (Y1 × (Int × (Int × (Int × (Y1 × (Y1 × (Y1 × Y3)))))))) (v : Int × Int) : Tr ((Int × Int) ⊕ (Int)) :=
 .t (decide (v.2 < k.2.2.2.2.1))
 (.c (Bool) (F_zag k.2.2.2.1 v.2) fun r14_ =>
 .t r14_
 (.c (Bool) (F_zag k.2.2.1 v.2) fun r15_ =>
 .t (!r15_)
 (.g (inR v.2 (List.length k.2.2.2.2.2.1)) <|
 .c (Bool) (F_zag k.2.2.2.1 v.2) fun r16_ =>
 .t r16_
 (.g (inR v.2 (List.length k.2.2.2.2.2.2.2.1)) <|
 .l (.inl ((IntKind.wrap .i64 ((IntKind.wrap .i64 (v.1 + (List.getD k.2.2.2.2.2.1 (Int.toNat v.2) (0 : Int)))) + (List.getD k.2.2.2.2.2.2.2.1 (Int.toNat v.2) (0 : Int)))), (IntKind.wrap .i64 (v.2 + (1 : Int))))))
 (.l (.inl ((IntKind.wrap .i64 (v.1 + (List.getD k.2.2.2.2.2.1 (Int.toNat v.2) (0 : Int)))), (IntKind.wrap .i64 (v.2 + (1 : Int)))))))
 (.c (Bool) (F_zag k.2.2.1 v.2) fun r17_ =>
 .t r17_
 (.c (Bool) (F_zag k.2.2.2.1 v.2) fun r18_ =>
 .t (!r18_)
 (.g (inR v.2 (List.length k.2.2.2.2.2.2.1)) <|
 .c (Bool) (F_zag k.2.2.2.1 v.2) fun r19_ =>
 .t r19_
 (.g (inR v.2 (List.length k.2.2.2.2.2.2.2.1)) <|
 .l (.inl ((IntKind.wrap .i64 ((IntKind.wrap .i64 (v.1 + (List.getD k.2.2.2.2.2.2.1 (Int.toNat v.2) (0 : Int)))) + (List.getD k.2.2.2.2.2.2.2.1 (Int.toNat v.2) (0 : Int)))), (IntKind.wrap .i64 (v.2 + (1 : Int))))))
 (.l (.inl ((IntKind.wrap .i64 (v.1 + (List.getD k.2.2.2.2.2.2.1 (Int.toNat v.2) (0 : Int)))), (IntKind.wrap .i64 (v.2 + (1 : Int)))))))
 (.c (Bool) (F_zag k.2.2.2.1 v.2) fun r20_ =>
 .t r20_
 (.g (inR v.2 (List.length k.2.2.2.2.2.2.2.1)) <|
 .l (.inl ((IntKind.wrap .i64 (v.1 + (List.getD k.2.2.2.2.2.2.2.1 (Int.toNat v.2) (0 : Int)))), (IntKind.wrap .i64 (v.2 + (1 : Int))))))
 (.l (.inl (v.1, (IntKind.wrap .i64 (v.2 + (1 : Int))))))))
 (.c (Bool) (F_zag k.2.2.2.1 v.2) fun r21_ =>
 .t r21_
 (.g (inR v.2 (List.length k.2.2.2.2.2.2.2.1)) <|
 .l (.inl ((IntKind.wrap .i64 (v.1 + (List.getD k.2.2.2.2.2.2.2.1 (Int.toNat v.2) (0 : Int)))), (IntKind.wrap .i64 (v.2 + (1 : Int))))))
 (.l (.inl (v.1, (IntKind.wrap .i64 (v.2 + (1 : Int)))))))))
 (.c (Bool) (F_zag k.2.2.1 v.2) fun r22_ =>
 .t r22_
 (.c (Bool) (F_zag k.2.2.2.1 v.2) fun r23_ =>
 .t (!r23_)
 (.g (inR v.2 (List.length k.2.2.2.2.2.2.1)) <|
 .c (Bool) (F_zag k.2.2.2.1 v.2) fun r24_ =>
 .t r24_
 (.g (inR v.2 (List.length k.2.2.2.2.2.2.2.1)) <|
 .l (.inl ((IntKind.wrap .i64 ((IntKind.wrap .i64 (v.1 + (List.getD k.2.2.2.2.2.2.1 (Int.toNat v.2) (0 : Int)))) + (List.getD k.2.2.2.2.2.2.2.1 (Int.toNat v.2) (0 : Int)))), (IntKind.wrap .i64 (v.2 + (1 : Int))))))
 (.l (.inl ((IntKind.wrap .i64 (v.1 + (List.getD k.2.2.2.2.2.2.1 (Int.toNat v.2) (0 : Int)))), (IntKind.wrap .i64 (v.2 + (1 : Int)))))))
 (.c (Bool) (F_zag k.2.2.2.1 v.2) fun r25_ =>
 .t r25_
 (.g (inR v.2 (List.length k.2.2.2.2.2.2.2.1)) <|
 .l (.inl ((IntKind.wrap .i64 (v.1 + (List.getD k.2.2.2.2.2.2.2.1 (Int.toNat v.2) (0 : Int)))), (IntKind.wrap .i64 (v.2 + (1 : Int))))))
 (.l (.inl (v.1, (IntKind.wrap .i64 (v.2 + (1 : Int))))))))
 (.c (Bool) (F_zag k.2.2.2.1 v.2) fun r26_ =>
 .t r26_
 (.g (inR v.2 (List.length k.2.2.2.2.2.2.2.1)) <|
 .l (.inl ((IntKind.wrap .i64 (v.1 + (List.getD k.2.2.2.2.2.2.2.1 (Int.toNat v.2) (0 : Int)))), (IntKind.wrap .i64 (v.2 + (1 : Int))))))
 (.l (.inl (v.1, (IntKind.wrap .i64 (v.2 + (1 : Int)))))))))
 (.l (.inr v.1))
noncomputable def L_zab_0 (k : Int × (Y1 × (Int × (Int × (Int × (Y1 × (Y1 × (Y1 × Y3)))))))) (v : Int × Int) : Option (Int) := iter (fun v => (S_zab_0 k v).ev) v
noncomputable def DL_zab_0 : LD := ⟨{ acts := [], S := { slots := [1, 3, 4, 9, 10, 11, 19, 20], sh := (.cons (.dat yi) (.cons (.dat y1) (.cons (.box 4 0) (.cons (.dat (.int .u64)) (.cons (.dat (.int .u64)) (.cons (.dat yi) (.cons (.dat yi) (.cons (.dat yi) .nil)))))))), obs := [(4, .cells (.cons (.dat y1) (.cons (.dat y1) (.cons (.dat y1) (.cons (.dat y3) .nil)))))] } }, [(0, { acts := [], S := { slots := [1, 3, 4, 11], sh := (.cons (.dat yi) (.cons (.dat y1) (.cons (.box 4 0) (.cons (.dat yi) .nil)))), obs := [(4, .cells (.cons (.dat y1) (.cons (.dat y1) (.cons (.dat y1) (.cons (.dat y3) .nil)))))] } })], (yh [] .nil), Int × (Y1 × (Int × (Int × (Int × (Y1 × (Y1 × (Y1 × Y3))))))), Int × (Int), Int, fun k v => ((k.1, (k.2.1, ((), (k.2.2.1, (k.2.2.2.1, (v.1, (k.2.2.2.2.1, (v.2, ())))))))), ((k.2.2.2.2.2.1, (k.2.2.2.2.2.2.1, (k.2.2.2.2.2.2.2.1, (k.2.2.2.2.2.2.2.2, ())))), ())), fun t => (t.1.1, (t.1.2.1, (t.1.2.2.2.1, (t.1.2.2.2.2.1, (t.1.2.2.2.2.2.2.1, (t.2.1.1, (t.2.1.2.1, (t.2.1.2.2.1, t.2.1.2.2.2.1)))))))), fun t => (t.1.2.2.2.2.2.1, t.1.2.2.2.2.2.2.2.1), S_zab_0, fun k r => .l (.exit 0 (mkSt ({ slots := [1, 3, 4, 11], sh := (.cons (.dat yi) (.cons (.dat y1) (.cons (.box 4 0) (.cons (.dat yi) .nil)))), obs := [(4, .cells (.cons (.dat y1) (.cons (.dat y1) (.cons (.dat y1) (.cons (.dat y3) .nil)))))] }) ((k.1, (k.2.1, ((), (r, ())))), ((k.2.2.2.2.2.1, (k.2.2.2.2.2.2.1, (k.2.2.2.2.2.2.2.1, (k.2.2.2.2.2.2.2.2, ())))), ()))))⟩
noncomputable def T_zab (a1_ : Y1) (a2_ : Y1) (a3_ : Y1) (a4_ : Y3) (a5_ : Int) (a6_ : Y1) (a7_ : Y1) : Tr (Int) :=
 .c (Int) (F_zaf a6_) fun r1_ =>
 .c (Int) (F_zaf a7_) fun r2_ =>
 .c (Int) (L_zab_0 (a5_, (a7_, (r1_, (r2_, (((List.length a1_ : Nat) : Int), (a1_, (a2_, (a3_, a4_)))))))) ((0 : Int), (0 : Int))) fun r34_ =>
 .t (decide ((0 : Int) < ((List.length a7_ : Nat) : Int)))
 (.g (inR a5_ (List.length a4_)) <|
 .c (Int) (F_zk a1_ (List.getD a4_ (Int.toNat a5_) ([] : List Y1)) a7_) fun r35_ =>
 .l (IntKind.wrap .i64 (r34_ + r35_)))
 (.l r34_)
noncomputable def F_zab (a1_ : Y1) (a2_ : Y1) (a3_ : Y1) (a4_ : Y3) (a5_ : Int) (a6_ : Y1) (a7_ : Y1) : Option (Int) := (T_zab a1_ a2_ a3_ a4_ a5_ a6_ a7_).ev
noncomputable def A_zab : Sh := (.cons (.agg (.cons (.dat y1) (.cons (.dat y1) (.cons (.dat y1) (.cons (.dat y3) .nil))))) (.cons (.dat yi) (.cons (.dat y1) (.cons (.dat y1) .nil))))
noncomputable def I_zab : List (Nat × OSh) := []
noncomputable def K_zab : RetK := { acts := [], res := [.tmp 8], sh := (.cons (.dat yi) .nil), obs := [], pins := [] }
noncomputable def D_zab : FD := ⟨A_zab, I_zab, [], Int, fun x => F_zab x.1.1.1 x.1.1.2.1 x.1.1.2.2.1 x.1.1.2.2.2.1 x.1.2.1 x.1.2.2.1 x.1.2.2.2.1, fun r => ([.dat yi r], [])⟩
noncomputable def E_zab : Env := envOf [(53, D_zaf), (92, D_zag), (93, D_zk)]
noncomputable def Z_zab : Nat → Nat → List Nat := fun _ _ => []
noncomputable def O_zab : List (Nat × LD) := [(0, DL_zab_0)]
noncomputable def C_zab : Code := (f52.body).getD .skip
noncomputable def S_zac_0 (k : Y2 × (Int × (Y1 × (Y1 × (Y1 × Y3))))) (v : Y1 × (Int × Y1)) : Tr ((Y1 × (Int × Y1)) ⊕ Y1) :=
 .t (decide (v.2.1 < k.2.1))
 (.g (inR v.2.1 (List.length k.1)) <|
 .c (Int) (F_zab k.2.2.1 k.2.2.2.1 k.2.2.2.2.1 k.2.2.2.2.2 v.2.1 v.1 (List.getD k.1 (Int.toNat v.2.1) ([] : Y1))) fun r20_ =>
 .g (decide ((List.length v.2.2 + List.length ([r20_] : Y1)) * 8 ≤ 140737488355328)) <|
 .l (.inl ((List.getD k.1 (Int.toNat v.2.1) ([] : Y1)), ((IntKind.wrap .i64 (v.2.1 + (1 : Int))), (v.2.2 ++ ([r20_] : Y1))))))
 (.l (.inr v.2.2))
noncomputable def L_zac_0 (k : Y2 × (Int × (Y1 × (Y1 × (Y1 × Y3))))) (v : Y1 × (Int × Y1)) : Option Y1 := iter (fun v => (S_zac_0 k v).ev) v
noncomputable def DL_zac_0 : LD := ⟨{ acts := [.fz 10], S := { slots := [2, 5, 6, 11, 12, 13], sh := (.cons (.box 2 0) (.cons (.arr 9) (.cons (.dat y1) (.cons (.dat y2) (.cons (.dat yi) (.cons (.dat yi) .nil)))))), obs := [(2, .cells (.cons (.dat y1) (.cons (.dat y1) (.cons (.dat y1) (.cons (.dat y3) .nil))))), (9, .arr 3 yi)] } }, [(0, { acts := [], S := { slots := [5], sh := (.cons (.arr 9) .nil), obs := [(9, .arr 3 yi)] } })], (yh [] .nil), Y2 × (Int × (Y1 × (Y1 × (Y1 × Y3)))), Y1 × (Int × Y1), Y1, fun k v => (((), ((), (v.1, (k.1, (k.2.1, (v.2.1, ())))))), ((k.2.2.1, (k.2.2.2.1, (k.2.2.2.2.1, (k.2.2.2.2.2, ())))), (v.2.2, ()))), fun t => (t.1.2.2.2.1, (t.1.2.2.2.2.1, (t.2.1.1, (t.2.1.2.1, (t.2.1.2.2.1, t.2.1.2.2.2.1))))), fun t => (t.1.2.2.1, (t.1.2.2.2.2.2.1, t.2.2.1)), S_zac_0, fun _ r => .l (.exit 0 (mkSt ({ slots := [5], sh := (.cons (.arr 9) .nil), obs := [(9, .arr 3 yi)] }) (((), ()), (r, ()))))⟩
noncomputable def T_zac (a1_ : Y1) (a2_ : Y1) (a3_ : Y1) (a4_ : Y3) (a5_ : List Y1) : Tr Y1 :=
 .c Y1 (L_zac_0 (a5_, (((List.length a5_ : Nat) : Int), (a1_, (a2_, (a3_, a4_))))) (([] : Y1), ((0 : Int), ([] : Y1)))) fun r22_ =>
 .l r22_
noncomputable def F_zac (a1_ : Y1) (a2_ : Y1) (a3_ : Y1) (a4_ : Y3) (a5_ : List Y1) : Option Y1 := (T_zac a1_ a2_ a3_ a4_ a5_).ev
noncomputable def A_zac : Sh := (.cons (.agg (.cons (.dat y1) (.cons (.dat y1) (.cons (.dat y1) (.cons (.dat y3) .nil))))) (.cons (.dat y2) .nil))
noncomputable def I_zac : List (Nat × OSh) := []
noncomputable def K_zac : RetK := { acts := [.ren 9 0], res := [.tmp 4], sh := (.cons (.arr 0) .nil), obs := [(0, .arr 3 yi)], pins := [] }
noncomputable def D_zac : FD := ⟨A_zac, I_zac, [], Y1, fun x => F_zac x.1.1.1 x.1.1.2.1 x.1.1.2.2.1 x.1.1.2.2.2.1 x.1.2.1, fun r => ([.arr 0], [(0, .arr 3 yi r)])⟩
noncomputable def E_zac : Env := envOf [(52, D_zab)]
noncomputable def Z_zac : Nat → Nat → List Nat := fun _ _ => []
noncomputable def O_zac : List (Nat × LD) := [(0, DL_zac_0)]
noncomputable def C_zac : Code := (f57.body).getD .skip
noncomputable def T_zr (a1_ : Y1) (a2_ : Y1) (a3_ : Y1) (a4_ : Y3) (a5_ : List Y1) : Tr (Bool × Y1) :=
 .c (Bool × (Bool)) (F_zm a1_ a2_ a3_ a4_ a5_) fun r1_ =>
 .t (!r1_.1)
 (.l (false, ([] : Y1)))
 (.c Y1 (F_zac a1_ a2_ a3_ a4_ a5_) fun r2_ =>
 .l (true, r2_))
noncomputable def F_zr (a1_ : Y1) (a2_ : Y1) (a3_ : Y1) (a4_ : Y3) (a5_ : List Y1) : Option (Bool × Y1) := (T_zr a1_ a2_ a3_ a4_ a5_).ev
noncomputable def A_zr : Sh := (.cons (.agg (.cons (.dat y1) (.cons (.dat y1) (.cons (.dat y1) (.cons (.dat y3) .nil))))) (.cons (.dat y2) .nil))
noncomputable def I_zr : List (Nat × OSh) := []
noncomputable def K_zr : RetK := { acts := [.own 4 0 3 yi, .ren 1152 0], res := [.tmp 4, .tmp 5], sh := (.cons (.arr 0) (.cons (.dat .bool) .nil)), obs := [(0, .arr 3 yi)], pins := [] }
noncomputable def D_zr : FD := ⟨A_zr, I_zr, [], Bool × Y1, fun x => F_zr x.1.1.1 x.1.1.2.1 x.1.1.2.2.1 x.1.1.2.2.2.1 x.1.2.1, fun r => ([.arr 0, .dat .bool r.1], [(0, .arr 3 yi r.2)])⟩
noncomputable def E_zr : Env := envOf [(22, D_zm), (57, D_zac)]
noncomputable def Z_zr : Nat → Nat → List Nat := fun _ _ => []
noncomputable def O_zr : List (Nat × LD) := []
noncomputable def C_zr : Code := (f19.body).getD .skip
noncomputable def T_zq (a1_ : Y1) (a2_ : Y1) (a3_ : Y1) (a4_ : Y3) (a5_ : List Y1) : Tr (Int × (Bool)) :=
 .c (Bool × Y1) (F_zr a1_ a2_ a3_ a4_ a5_) fun r1_ =>
 .c (Int) (F_zao r1_.2) fun r2_ =>
 .l (r2_, r1_.1)
noncomputable def F_zq (a1_ : Y1) (a2_ : Y1) (a3_ : Y1) (a4_ : Y3) (a5_ : List Y1) : Option (Int × (Bool)) := (T_zq a1_ a2_ a3_ a4_ a5_).ev
noncomputable def A_zq : Sh := (.cons (.agg (.cons (.dat y1) (.cons (.dat y1) (.cons (.dat y1) (.cons (.dat y3) .nil))))) (.cons (.dat y2) .nil))
noncomputable def I_zq : List (Nat × OSh) := []
noncomputable def K_zq : RetK := { acts := [], res := [.tmp 4, .tmp 5], sh := (.cons (.dat yi) (.cons (.dat .bool) .nil)), obs := [], pins := [] }
noncomputable def D_zq : FD := ⟨A_zq, I_zq, [], Int × (Bool), fun x => F_zq x.1.1.1 x.1.1.2.1 x.1.1.2.2.1 x.1.1.2.2.2.1 x.1.2.1, fun r => ([.dat yi r.1, .dat .bool r.2], [])⟩
noncomputable def E_zq : Env := envOf [(19, D_zr), (55, D_zao)]
noncomputable def Z_zq : Nat → Nat → List Nat := fun _ _ => []
noncomputable def O_zq : List (Nat × LD) := []
noncomputable def C_zq : Code := (f16.body).getD .skip
noncomputable def T_zu (a1_ : Y1) (a2_ : Y1) (_a3_ : Y1) (_a4_ : Y1) (_a5_ : Y3) : Tr (Bool) :=
 .g (decide ((0 : Int) ≤ ((List.length a2_ : Nat) : Int))) <|
 .t (((List.length a1_ : Nat) : Int) != (IntKind.wrap .i64 ((1 : Int) * 2 ^ (min (Int.toNat ((List.length a2_ : Nat) : Int)) (IntKind.bits .i64)))))
 (.l true)
 (.c (Bool) (F_zad a1_ (-1000000 : Int) (1000000 : Int)) fun r1_ =>
 .l (!r1_))
noncomputable def F_zu (a1_ : Y1) (a2_ : Y1) (a3_ : Y1) (a4_ : Y1) (a5_ : Y3) : Option (Bool) := (T_zu a1_ a2_ a3_ a4_ a5_).ev
noncomputable def A_zu : Sh := (.cons (.dat y1) (.cons (.ptr (.cons (.dat y1) (.cons (.dat y1) (.cons (.dat y1) (.cons (.dat y3) .nil))))) .nil))
noncomputable def I_zu : List (Nat × OSh) := []
noncomputable def K_zu : RetK := { acts := [], res := [.tmp 3], sh := (.cons (.dat .bool) .nil), obs := [], pins := [] }
noncomputable def D_zu : FD := ⟨A_zu, I_zu, [], Bool, fun x => F_zu x.1.1 x.1.2.1.1 x.1.2.1.2.1 x.1.2.1.2.2.1 x.1.2.1.2.2.2.1, fun r => ([.dat .bool r], [])⟩
noncomputable def E_zu : Env := envOf [(60, D_zad)]
noncomputable def Z_zu : Nat → Nat → List Nat := fun _ _ => []
noncomputable def O_zu : List (Nat × LD) := []
noncomputable def C_zu : Code := (f87.body).getD .skip
noncomputable def S_zbf_0 (k : Y1) (v : Int × Int) : Tr ((Int × Int) ⊕ (Int)) :=
 .t (decide (v.2 < ((List.length k : Nat) : Int)))
 (.g (inR v.2 (List.length k)) <|
 .l (.inl ((if v.1 < (List.getD k (Int.toNat v.2) (0 : Int)) then (List.getD k (Int.toNat v.2) (0 : Int)) else v.1), (IntKind.wrap .i64 (v.2 + (1 : Int))))))
 (.l (.inr v.1))
noncomputable def L_zbf_0 (k : Y1) (v : Int × Int) : Option (Int) := iter (fun v => (S_zbf_0 k v).ev) v
noncomputable def DL_zbf_0 : LD := ⟨(yh [0, 3, 4] (.cons (.dat y1) (.cons (.dat yi) (.cons (.dat yi) .nil)))), [(0, (yh [3] (.cons (.dat yi) .nil)))], (yh [] .nil), Y1, Int × (Int), Int, fun k v => ((k, (v.1, (v.2, ()))), ()), fun t => t.1.1, fun t => (t.1.2.1, t.1.2.2.1), S_zbf_0, fun _ r => .l (.exit 0 (mkSt ((ys [3] (.cons (.dat yi) .nil))) ((r, ()), ())))⟩
noncomputable def T_zbf (a1_ : Y1) : Tr (Int) :=
 .t (decide (((List.length a1_ : Nat) : Int) < (1 : Int)))
 (.f)
 (.g (inR (0 : Int) (List.length a1_)) <|
 .c (Int) (L_zbf_0 a1_ ((List.getD a1_ (Int.toNat (0 : Int)) (0 : Int)), (1 : Int))) fun r5_ =>
 .l r5_)
noncomputable def F_zbf (a1_ : Y1) : Option (Int) := (T_zbf a1_).ev
noncomputable def A_zbf : Sh := (.cons (.dat y1) .nil)
noncomputable def I_zbf : List (Nat × OSh) := []
noncomputable def K_zbf : RetK := { acts := [], res := [.tmp 2], sh := (.cons (.dat yi) .nil), obs := [], pins := [] }
noncomputable def D_zbf : FD := ⟨A_zbf, I_zbf, [], Int, fun x => F_zbf x.1.1, fun r => ([.dat yi r], [])⟩
noncomputable def E_zbf : Env := envOf []
noncomputable def Z_zbf : Nat → Nat → List Nat := fun _ _ => []
noncomputable def O_zbf : List (Nat × LD) := [(0, DL_zbf_0)]
noncomputable def C_zbf : Code := (f88.body).getD .skip
noncomputable def S_zah_0 (k : Int) (v : Int × Y1) : Tr ((Int × Y1) ⊕ Y1) :=
 .g (decide ((0 : Int) ≤ v.1)) <|
 .t (decide ((0 : Int) < (Int.fdiv k (2 ^ (min (Int.toNat v.1) (IntKind.bits .u64))))))
 (.c (Bool) (F_zag k v.1) fun r4_ =>
 .t r4_
 (.g (decide ((List.length v.2 + List.length ([v.1] : Y1)) * 8 ≤ 140737488355328)) <|
 .l (.inl ((IntKind.wrap .i64 (v.1 + (1 : Int))), (v.2 ++ ([v.1] : Y1)))))
 (.l (.inl ((IntKind.wrap .i64 (v.1 + (1 : Int))), v.2))))
 (.l (.inr v.2))
noncomputable def L_zah_0 (k : Int) (v : Int × Y1) : Option Y1 := iter (fun v => (S_zah_0 k v).ev) v
noncomputable def DL_zah_0 : LD := ⟨{ acts := [], S := { slots := [0, 3, 4], sh := (.cons (.dat (.int .u64)) (.cons (.arr 5) (.cons (.dat yi) .nil))), obs := [(5, .arr 3 yi)] } }, [(0, { acts := [], S := { slots := [3], sh := (.cons (.arr 5) .nil), obs := [(5, .arr 3 yi)] } })], (yh [] .nil), Int, Int × Y1, Y1, fun k v => ((k, ((), (v.1, ()))), (v.2, ())), fun t => t.1.1, fun t => (t.1.2.2.1, t.2.1), S_zah_0, fun _ r => .l (.exit 0 (mkSt ({ slots := [3], sh := (.cons (.arr 5) .nil), obs := [(5, .arr 3 yi)] }) (((), ()), (r, ()))))⟩
noncomputable def T_zah (a1_ : Int) : Tr Y1 :=
 .c Y1 (L_zah_0 a1_ ((0 : Int), ([] : Y1))) fun r6_ =>
 .l r6_
noncomputable def F_zah (a1_ : Int) : Option Y1 := (T_zah a1_).ev
noncomputable def A_zah : Sh := (.cons (.dat (.int .u64)) .nil)
noncomputable def I_zah : List (Nat × OSh) := []
noncomputable def K_zah : RetK := { acts := [.ren 5 0], res := [.tmp 2], sh := (.cons (.arr 0) .nil), obs := [(0, .arr 3 yi)], pins := [] }
noncomputable def D_zah : FD := ⟨A_zah, I_zah, [], Y1, fun x => F_zah x.1.1, fun r => ([.arr 0], [(0, .arr 3 yi r)])⟩
noncomputable def E_zah : Env := envOf [(92, D_zag)]
noncomputable def Z_zah : Nat → Nat → List Nat := fun _ _ => []
noncomputable def O_zah : List (Nat × LD) := [(0, DL_zah_0)]
noncomputable def C_zah : Code := (f89.body).getD .skip
noncomputable def T_zau (a1_ : Int) : Tr (Int) :=
 .t (decide ((4294967296 : Int) ≤ a1_))
 (.g (decide ((0 : Int) ≤ (32 : Int))) <|
 .t (decide ((65536 : Int) ≤ (Int.fdiv a1_ (2 ^ (min (Int.toNat (32 : Int)) (IntKind.bits .u64))))))
 (.g (decide ((0 : Int) ≤ (16 : Int))) <|
 .t (decide ((256 : Int) ≤ (Int.fdiv (Int.fdiv a1_ (2 ^ (min (Int.toNat (32 : Int)) (IntKind.bits .u64)))) (2 ^ (min (Int.toNat (16 : Int)) (IntKind.bits .u64))))))
 (.g (decide ((0 : Int) ≤ (8 : Int))) <|
 .g (inR (IntKind.wrap .u8 (Int.fdiv (Int.fdiv (Int.fdiv a1_ (2 ^ (min (Int.toNat (32 : Int)) (IntKind.bits .u64)))) (2 ^ (min (Int.toNat (16 : Int)) (IntKind.bits .u64)))) (2 ^ (min (Int.toNat (8 : Int)) (IntKind.bits .u64))))) (List.length ([0, 1, 2, 2, 3, 3, 3, 3, 4, 4, 4, 4, 4, 4, 4, 4, 5, 5, 5, 5, 5, 5, 5, 5, 5, 5, 5, 5, 5, 5, 5, 5, 6, 6, 6, 6, 6, 6, 6, 6, 6, 6, 6, 6, 6, 6, 6, 6, 6, 6, 6, 6, 6, 6, 6, 6, 6, 6, 6, 6, 6, 6, 6, 6, 7, 7, 7, 7, 7, 7, 7, 7, 7, 7, 7, 7, 7, 7, 7, 7, 7, 7, 7, 7, 7, 7, 7, 7, 7, 7, 7, 7, 7, 7, 7, 7, 7, 7, 7, 7, 7, 7, 7, 7, 7, 7, 7, 7, 7, 7, 7, 7, 7, 7, 7, 7, 7, 7, 7, 7, 7, 7, 7, 7, 7, 7, 7, 7, 8, 8, 8, 8, 8, 8, 8, 8, 8, 8, 8, 8, 8, 8, 8, 8, 8, 8, 8, 8, 8, 8, 8, 8, 8, 8, 8, 8, 8, 8, 8, 8, 8, 8, 8, 8, 8, 8, 8, 8, 8, 8, 8, 8, 8, 8, 8, 8, 8, 8, 8, 8, 8, 8, 8, 8, 8, 8, 8, 8, 8, 8, 8, 8, 8, 8, 8, 8, 8, 8, 8, 8, 8, 8, 8, 8, 8, 8, 8, 8, 8, 8, 8, 8, 8, 8, 8, 8, 8, 8, 8, 8, 8, 8, 8, 8, 8, 8, 8, 8, 8, 8, 8, 8, 8, 8, 8, 8, 8, 8, 8, 8, 8, 8, 8, 8, 8, 8, 8, 8, 8, 8, 8, 8, 8, 8, 8, 8] : List UInt8))) <|
 .l (IntKind.wrap .i64 ((IntKind.wrap .i64 ((IntKind.wrap .i64 ((32 : Int) + (16 : Int))) + (8 : Int))) + (IntKind.wrap .i64 ((UInt8.toNat (List.getD ([0, 1, 2, 2, 3, 3, 3, 3, 4, 4, 4, 4, 4, 4, 4, 4, 5, 5, 5, 5, 5, 5, 5, 5, 5, 5, 5, 5, 5, 5, 5, 5, 6, 6, 6, 6, 6, 6, 6, 6, 6, 6, 6, 6, 6, 6, 6, 6, 6, 6, 6, 6, 6, 6, 6, 6, 6, 6, 6, 6, 6, 6, 6, 6, 7, 7, 7, 7, 7, 7, 7, 7, 7, 7, 7, 7, 7, 7, 7, 7, 7, 7, 7, 7, 7, 7, 7, 7, 7, 7, 7, 7, 7, 7, 7, 7, 7, 7, 7, 7, 7, 7, 7, 7, 7, 7, 7, 7, 7, 7, 7, 7, 7, 7, 7, 7, 7, 7, 7, 7, 7, 7, 7, 7, 7, 7, 7, 7, 8, 8, 8, 8, 8, 8, 8, 8, 8, 8, 8, 8, 8, 8, 8, 8, 8, 8, 8, 8, 8, 8, 8, 8, 8, 8, 8, 8, 8, 8, 8, 8, 8, 8, 8, 8, 8, 8, 8, 8, 8, 8, 8, 8, 8, 8, 8, 8, 8, 8, 8, 8, 8, 8, 8, 8, 8, 8, 8, 8, 8, 8, 8, 8, 8, 8, 8, 8, 8, 8, 8, 8, 8, 8, 8, 8, 8, 8, 8, 8, 8, 8, 8, 8, 8, 8, 8, 8, 8, 8, 8, 8, 8, 8, 8, 8, 8, 8, 8, 8, 8, 8, 8, 8, 8, 8, 8, 8, 8, 8, 8, 8, 8, 8, 8, 8, 8, 8, 8, 8, 8, 8, 8, 8, 8, 8, 8, 8] : List UInt8) (Int.toNat (IntKind.wrap .u8 (Int.fdiv (Int.fdiv (Int.fdiv a1_ (2 ^ (min (Int.toNat (32 : Int)) (IntKind.bits .u64)))) (2 ^ (min (Int.toNat (16 : Int)) (IntKind.bits .u64)))) (2 ^ (min (Int.toNat (8 : Int)) (IntKind.bits .u64)))))) 0) : Nat) : Int)))))
 (.g (inR (IntKind.wrap .u8 (Int.fdiv (Int.fdiv a1_ (2 ^ (min (Int.toNat (32 : Int)) (IntKind.bits .u64)))) (2 ^ (min (Int.toNat (16 : Int)) (IntKind.bits .u64))))) (List.length ([0, 1, 2, 2, 3, 3, 3, 3, 4, 4, 4, 4, 4, 4, 4, 4, 5, 5, 5, 5, 5, 5, 5, 5, 5, 5, 5, 5, 5, 5, 5, 5, 6, 6, 6, 6, 6, 6, 6, 6, 6, 6, 6, 6, 6, 6, 6, 6, 6, 6, 6, 6, 6, 6, 6, 6, 6, 6, 6, 6, 6, 6, 6, 6, 7, 7, 7, 7, 7, 7, 7, 7, 7, 7, 7, 7, 7, 7, 7, 7, 7, 7, 7, 7, 7, 7, 7, 7, 7, 7, 7, 7, 7, 7, 7, 7, 7, 7, 7, 7, 7, 7, 7, 7, 7, 7, 7, 7, 7, 7, 7, 7, 7, 7, 7, 7, 7, 7, 7, 7, 7, 7, 7, 7, 7, 7, 7, 7, 8, 8, 8, 8, 8, 8, 8, 8, 8, 8, 8, 8, 8, 8, 8, 8, 8, 8, 8, 8, 8, 8, 8, 8, 8, 8, 8, 8, 8, 8, 8, 8, 8, 8, 8, 8, 8, 8, 8, 8, 8, 8, 8, 8, 8, 8, 8, 8, 8, 8, 8, 8, 8, 8, 8, 8, 8, 8, 8, 8, 8, 8, 8, 8, 8, 8, 8, 8, 8, 8, 8, 8, 8, 8, 8, 8, 8, 8, 8, 8, 8, 8, 8, 8, 8, 8, 8, 8, 8, 8, 8, 8, 8, 8, 8, 8, 8, 8, 8, 8, 8, 8, 8, 8, 8, 8, 8, 8, 8, 8, 8, 8, 8, 8, 8, 8, 8, 8, 8, 8, 8, 8, 8, 8, 8, 8, 8, 8] : List UInt8))) <|
 .l (IntKind.wrap .i64 ((IntKind.wrap .i64 ((32 : Int) + (16 : Int))) + (IntKind.wrap .i64 ((UInt8.toNat (List.getD ([0, 1, 2, 2, 3, 3, 3, 3, 4, 4, 4, 4, 4, 4, 4, 4, 5, 5, 5, 5, 5, 5, 5, 5, 5, 5, 5, 5, 5, 5, 5, 5, 6, 6, 6, 6, 6, 6, 6, 6, 6, 6, 6, 6, 6, 6, 6, 6, 6, 6, 6, 6, 6, 6, 6, 6, 6, 6, 6, 6, 6, 6, 6, 6, 7, 7, 7, 7, 7, 7, 7, 7, 7, 7, 7, 7, 7, 7, 7, 7, 7, 7, 7, 7, 7, 7, 7, 7, 7, 7, 7, 7, 7, 7, 7, 7, 7, 7, 7, 7, 7, 7, 7, 7, 7, 7, 7, 7, 7, 7, 7, 7, 7, 7, 7, 7, 7, 7, 7, 7, 7, 7, 7, 7, 7, 7, 7, 7, 8, 8, 8, 8, 8, 8, 8, 8, 8, 8, 8, 8, 8, 8, 8, 8, 8, 8, 8, 8, 8, 8, 8, 8, 8, 8, 8, 8, 8, 8, 8, 8, 8, 8, 8, 8, 8, 8, 8, 8, 8, 8, 8, 8, 8, 8, 8, 8, 8, 8, 8, 8, 8, 8, 8, 8, 8, 8, 8, 8, 8, 8, 8, 8, 8, 8, 8, 8, 8, 8, 8, 8, 8, 8, 8, 8, 8, 8, 8, 8, 8, 8, 8, 8, 8, 8, 8, 8, 8, 8, 8, 8, 8, 8, 8, 8, 8, 8, 8, 8, 8, 8, 8, 8, 8, 8, 8, 8, 8, 8, 8, 8, 8, 8, 8, 8, 8, 8, 8, 8, 8, 8, 8, 8, 8, 8, 8, 8] : List UInt8) (Int.toNat (IntKind.wrap .u8 (Int.fdiv (Int.fdiv a1_ (2 ^ (min (Int.toNat (32 : Int)) (IntKind.bits .u64)))) (2 ^ (min (Int.toNat (16 : Int)) (IntKind.bits .u64)))))) 0) : Nat) : Int))))))
 (.t (decide ((256 : Int) ≤ (Int.fdiv a1_ (2 ^ (min (Int.toNat (32 : Int)) (IntKind.bits .u64))))))
 (.g (decide ((0 : Int) ≤ (8 : Int))) <|
 .g (inR (IntKind.wrap .u8 (Int.fdiv (Int.fdiv a1_ (2 ^ (min (Int.toNat (32 : Int)) (IntKind.bits .u64)))) (2 ^ (min (Int.toNat (8 : Int)) (IntKind.bits .u64))))) (List.length ([0, 1, 2, 2, 3, 3, 3, 3, 4, 4, 4, 4, 4, 4, 4, 4, 5, 5, 5, 5, 5, 5, 5, 5, 5, 5, 5, 5, 5, 5, 5, 5, 6, 6, 6, 6, 6, 6, 6, 6, 6, 6, 6, 6, 6, 6, 6, 6, 6, 6, 6, 6, 6, 6, 6, 6, 6, 6, 6, 6, 6, 6, 6, 6, 7, 7, 7, 7, 7, 7, 7, 7, 7, 7, 7, 7, 7, 7, 7, 7, 7, 7, 7, 7, 7, 7, 7, 7, 7, 7, 7, 7, 7, 7, 7, 7, 7, 7, 7, 7, 7, 7, 7, 7, 7, 7, 7, 7, 7, 7, 7, 7, 7, 7, 7, 7, 7, 7, 7, 7, 7, 7, 7, 7, 7, 7, 7, 7, 8, 8, 8, 8, 8, 8, 8, 8, 8, 8, 8, 8, 8, 8, 8, 8, 8, 8, 8, 8, 8, 8, 8, 8, 8, 8, 8, 8, 8, 8, 8, 8, 8, 8, 8, 8, 8, 8, 8, 8, 8, 8, 8, 8, 8, 8, 8, 8, 8, 8, 8, 8, 8, 8, 8, 8, 8, 8, 8, 8, 8, 8, 8, 8, 8, 8, 8, 8, 8, 8, 8, 8, 8, 8, 8, 8, 8, 8, 8, 8, 8, 8, 8, 8, 8, 8, 8, 8, 8, 8, 8, 8, 8, 8, 8, 8, 8, 8, 8, 8, 8, 8, 8, 8, 8, 8, 8, 8, 8, 8, 8, 8, 8, 8, 8, 8, 8, 8, 8, 8, 8, 8, 8, 8, 8, 8, 8, 8] : List UInt8))) <|
 .l (IntKind.wrap .i64 ((IntKind.wrap .i64 ((32 : Int) + (8 : Int))) + (IntKind.wrap .i64 ((UInt8.toNat (List.getD ([0, 1, 2, 2, 3, 3, 3, 3, 4, 4, 4, 4, 4, 4, 4, 4, 5, 5, 5, 5, 5, 5, 5, 5, 5, 5, 5, 5, 5, 5, 5, 5, 6, 6, 6, 6, 6, 6, 6, 6, 6, 6, 6, 6, 6, 6, 6, 6, 6, 6, 6, 6, 6, 6, 6, 6, 6, 6, 6, 6, 6, 6, 6, 6, 7, 7, 7, 7, 7, 7, 7, 7, 7, 7, 7, 7, 7, 7, 7, 7, 7, 7, 7, 7, 7, 7, 7, 7, 7, 7, 7, 7, 7, 7, 7, 7, 7, 7, 7, 7, 7, 7, 7, 7, 7, 7, 7, 7, 7, 7, 7, 7, 7, 7, 7, 7, 7, 7, 7, 7, 7, 7, 7, 7, 7, 7, 7, 7, 8, 8, 8, 8, 8, 8, 8, 8, 8, 8, 8, 8, 8, 8, 8, 8, 8, 8, 8, 8, 8, 8, 8, 8, 8, 8, 8, 8, 8, 8, 8, 8, 8, 8, 8, 8, 8, 8, 8, 8, 8, 8, 8, 8, 8, 8, 8, 8, 8, 8, 8, 8, 8, 8, 8, 8, 8, 8, 8, 8, 8, 8, 8, 8, 8, 8, 8, 8, 8, 8, 8, 8, 8, 8, 8, 8, 8, 8, 8, 8, 8, 8, 8, 8, 8, 8, 8, 8, 8, 8, 8, 8, 8, 8, 8, 8, 8, 8, 8, 8, 8, 8, 8, 8, 8, 8, 8, 8, 8, 8, 8, 8, 8, 8, 8, 8, 8, 8, 8, 8, 8, 8, 8, 8, 8, 8, 8, 8] : List UInt8) (Int.toNat (IntKind.wrap .u8 (Int.fdiv (Int.fdiv a1_ (2 ^ (min (Int.toNat (32 : Int)) (IntKind.bits .u64)))) (2 ^ (min (Int.toNat (8 : Int)) (IntKind.bits .u64)))))) 0) : Nat) : Int)))))
 (.g (inR (IntKind.wrap .u8 (Int.fdiv a1_ (2 ^ (min (Int.toNat (32 : Int)) (IntKind.bits .u64))))) (List.length ([0, 1, 2, 2, 3, 3, 3, 3, 4, 4, 4, 4, 4, 4, 4, 4, 5, 5, 5, 5, 5, 5, 5, 5, 5, 5, 5, 5, 5, 5, 5, 5, 6, 6, 6, 6, 6, 6, 6, 6, 6, 6, 6, 6, 6, 6, 6, 6, 6, 6, 6, 6, 6, 6, 6, 6, 6, 6, 6, 6, 6, 6, 6, 6, 7, 7, 7, 7, 7, 7, 7, 7, 7, 7, 7, 7, 7, 7, 7, 7, 7, 7, 7, 7, 7, 7, 7, 7, 7, 7, 7, 7, 7, 7, 7, 7, 7, 7, 7, 7, 7, 7, 7, 7, 7, 7, 7, 7, 7, 7, 7, 7, 7, 7, 7, 7, 7, 7, 7, 7, 7, 7, 7, 7, 7, 7, 7, 7, 8, 8, 8, 8, 8, 8, 8, 8, 8, 8, 8, 8, 8, 8, 8, 8, 8, 8, 8, 8, 8, 8, 8, 8, 8, 8, 8, 8, 8, 8, 8, 8, 8, 8, 8, 8, 8, 8, 8, 8, 8, 8, 8, 8, 8, 8, 8, 8, 8, 8, 8, 8, 8, 8, 8, 8, 8, 8, 8, 8, 8, 8, 8, 8, 8, 8, 8, 8, 8, 8, 8, 8, 8, 8, 8, 8, 8, 8, 8, 8, 8, 8, 8, 8, 8, 8, 8, 8, 8, 8, 8, 8, 8, 8, 8, 8, 8, 8, 8, 8, 8, 8, 8, 8, 8, 8, 8, 8, 8, 8, 8, 8, 8, 8, 8, 8, 8, 8, 8, 8, 8, 8, 8, 8, 8, 8, 8, 8] : List UInt8))) <|
 .l (IntKind.wrap .i64 ((32 : Int) + (IntKind.wrap .i64 ((UInt8.toNat (List.getD ([0, 1, 2, 2, 3, 3, 3, 3, 4, 4, 4, 4, 4, 4, 4, 4, 5, 5, 5, 5, 5, 5, 5, 5, 5, 5, 5, 5, 5, 5, 5, 5, 6, 6, 6, 6, 6, 6, 6, 6, 6, 6, 6, 6, 6, 6, 6, 6, 6, 6, 6, 6, 6, 6, 6, 6, 6, 6, 6, 6, 6, 6, 6, 6, 7, 7, 7, 7, 7, 7, 7, 7, 7, 7, 7, 7, 7, 7, 7, 7, 7, 7, 7, 7, 7, 7, 7, 7, 7, 7, 7, 7, 7, 7, 7, 7, 7, 7, 7, 7, 7, 7, 7, 7, 7, 7, 7, 7, 7, 7, 7, 7, 7, 7, 7, 7, 7, 7, 7, 7, 7, 7, 7, 7, 7, 7, 7, 7, 8, 8, 8, 8, 8, 8, 8, 8, 8, 8, 8, 8, 8, 8, 8, 8, 8, 8, 8, 8, 8, 8, 8, 8, 8, 8, 8, 8, 8, 8, 8, 8, 8, 8, 8, 8, 8, 8, 8, 8, 8, 8, 8, 8, 8, 8, 8, 8, 8, 8, 8, 8, 8, 8, 8, 8, 8, 8, 8, 8, 8, 8, 8, 8, 8, 8, 8, 8, 8, 8, 8, 8, 8, 8, 8, 8, 8, 8, 8, 8, 8, 8, 8, 8, 8, 8, 8, 8, 8, 8, 8, 8, 8, 8, 8, 8, 8, 8, 8, 8, 8, 8, 8, 8, 8, 8, 8, 8, 8, 8, 8, 8, 8, 8, 8, 8, 8, 8, 8, 8, 8, 8, 8, 8, 8, 8, 8, 8] : List UInt8) (Int.toNat (IntKind.wrap .u8 (Int.fdiv a1_ (2 ^ (min (Int.toNat (32 : Int)) (IntKind.bits .u64)))))) 0) : Nat) : Int)))))))
 (.t (decide ((65536 : Int) ≤ a1_))
 (.g (decide ((0 : Int) ≤ (16 : Int))) <|
 .t (decide ((256 : Int) ≤ (Int.fdiv a1_ (2 ^ (min (Int.toNat (16 : Int)) (IntKind.bits .u64))))))
 (.g (decide ((0 : Int) ≤ (8 : Int))) <|
 .g (inR (IntKind.wrap .u8 (Int.fdiv (Int.fdiv a1_ (2 ^ (min (Int.toNat (16 : Int)) (IntKind.bits .u64)))) (2 ^ (min (Int.toNat (8 : Int)) (IntKind.bits .u64))))) (List.length ([0, 1, 2, 2, 3, 3, 3, 3, 4, 4, 4, 4, 4, 4, 4, 4, 5, 5, 5, 5, 5, 5, 5, 5, 5, 5, 5, 5, 5, 5, 5, 5, 6, 6, 6, 6, 6, 6, 6, 6, 6, 6, 6, 6, 6, 6, 6, 6, 6, 6, 6, 6, 6, 6, 6, 6, 6, 6, 6, 6, 6, 6, 6, 6, 7, 7, 7, 7, 7, 7, 7, 7, 7, 7, 7, 7, 7, 7, 7, 7, 7, 7, 7, 7, 7, 7, 7, 7, 7, 7, 7, 7, 7, 7, 7, 7, 7, 7, 7, 7, 7, 7, 7, 7, 7, 7, 7, 7, 7, 7, 7, 7, 7, 7, 7, 7, 7, 7, 7, 7, 7, 7, 7, 7, 7, 7, 7, 7, 8, 8, 8, 8, 8, 8, 8, 8, 8, 8, 8, 8, 8, 8, 8, 8, 8, 8, 8, 8, 8, 8, 8, 8, 8, 8, 8, 8, 8, 8, 8, 8, 8, 8, 8, 8, 8, 8, 8, 8, 8, 8, 8, 8, 8, 8, 8, 8, 8, 8, 8, 8, 8, 8, 8, 8, 8, 8, 8, 8, 8, 8, 8, 8, 8, 8, 8, 8, 8, 8, 8, 8, 8, 8, 8, 8, 8, 8, 8, 8, 8, 8, 8, 8, 8, 8, 8, 8, 8, 8, 8, 8, 8, 8, 8, 8, 8, 8, 8, 8, 8, 8, 8, 8, 8, 8, 8, 8, 8, 8, 8, 8, 8, 8, 8, 8, 8, 8, 8, 8, 8, 8, 8, 8, 8, 8, 8, 8] : List UInt8))) <|
 .l (IntKind.wrap .i64 ((IntKind.wrap .i64 ((IntKind.wrap .i64 ((0 : Int) + (16 : Int))) + (8 : Int))) + (IntKind.wrap .i64 ((UInt8.toNat (List.getD ([0, 1, 2, 2, 3, 3, 3, 3, 4, 4, 4, 4, 4, 4, 4, 4, 5, 5, 5, 5, 5, 5, 5, 5, 5, 5, 5, 5, 5, 5, 5, 5, 6, 6, 6, 6, 6, 6, 6, 6, 6, 6, 6, 6, 6, 6, 6, 6, 6, 6, 6, 6, 6, 6, 6, 6, 6, 6, 6, 6, 6, 6, 6, 6, 7, 7, 7, 7, 7, 7, 7, 7, 7, 7, 7, 7, 7, 7, 7, 7, 7, 7, 7, 7, 7, 7, 7, 7, 7, 7, 7, 7, 7, 7, 7, 7, 7, 7, 7, 7, 7, 7, 7, 7, 7, 7, 7, 7, 7, 7, 7, 7, 7, 7, 7, 7, 7, 7, 7, 7, 7, 7, 7, 7, 7, 7, 7, 7, 8, 8, 8, 8, 8, 8, 8, 8, 8, 8, 8, 8, 8, 8, 8, 8, 8, 8, 8, 8, 8, 8, 8, 8, 8, 8, 8, 8, 8, 8, 8, 8, 8, 8, 8, 8, 8, 8, 8, 8, 8, 8, 8, 8, 8, 8, 8, 8, 8, 8, 8, 8, 8, 8, 8, 8, 8, 8, 8, 8, 8, 8, 8, 8, 8, 8, 8, 8, 8, 8, 8, 8, 8, 8, 8, 8, 8, 8, 8, 8, 8, 8, 8, 8, 8, 8, 8, 8, 8, 8, 8, 8, 8, 8, 8, 8, 8, 8, 8, 8, 8, 8, 8, 8, 8, 8, 8, 8, 8, 8, 8, 8, 8, 8, 8, 8, 8, 8, 8, 8, 8, 8, 8, 8, 8, 8, 8, 8] : List UInt8) (Int.toNat (IntKind.wrap .u8 (Int.fdiv (Int.fdiv a1_ (2 ^ (min (Int.toNat (16 : Int)) (IntKind.bits .u64)))) (2 ^ (min (Int.toNat (8 : Int)) (IntKind.bits .u64)))))) 0) : Nat) : Int)))))
 (.g (inR (IntKind.wrap .u8 (Int.fdiv a1_ (2 ^ (min (Int.toNat (16 : Int)) (IntKind.bits .u64))))) (List.length ([0, 1, 2, 2, 3, 3, 3, 3, 4, 4, 4, 4, 4, 4, 4, 4, 5, 5, 5, 5, 5, 5, 5, 5, 5, 5, 5, 5, 5, 5, 5, 5, 6, 6, 6, 6, 6, 6, 6, 6, 6, 6, 6, 6, 6, 6, 6, 6, 6, 6, 6, 6, 6, 6, 6, 6, 6, 6, 6, 6, 6, 6, 6, 6, 7, 7, 7, 7, 7, 7, 7, 7, 7, 7, 7, 7, 7, 7, 7, 7, 7, 7, 7, 7, 7, 7, 7, 7, 7, 7, 7, 7, 7, 7, 7, 7, 7, 7, 7, 7, 7, 7, 7, 7, 7, 7, 7, 7, 7, 7, 7, 7, 7, 7, 7, 7, 7, 7, 7, 7, 7, 7, 7, 7, 7, 7, 7, 7, 8, 8, 8, 8, 8, 8, 8, 8, 8, 8, 8, 8, 8, 8, 8, 8, 8, 8, 8, 8, 8, 8, 8, 8, 8, 8, 8, 8, 8, 8, 8, 8, 8, 8, 8, 8, 8, 8, 8, 8, 8, 8, 8, 8, 8, 8, 8, 8, 8, 8, 8, 8, 8, 8, 8, 8, 8, 8, 8, 8, 8, 8, 8, 8, 8, 8, 8, 8, 8, 8, 8, 8, 8, 8, 8, 8, 8, 8, 8, 8, 8, 8, 8, 8, 8, 8, 8, 8, 8, 8, 8, 8, 8, 8, 8, 8, 8, 8, 8, 8, 8, 8, 8, 8, 8, 8, 8, 8, 8, 8, 8, 8, 8, 8, 8, 8, 8, 8, 8, 8, 8, 8, 8, 8, 8, 8, 8, 8] : List UInt8))) <|
 .l (IntKind.wrap .i64 ((IntKind.wrap .i64 ((0 : Int) + (16 : Int))) + (IntKind.wrap .i64 ((UInt8.toNat (List.getD ([0, 1, 2, 2, 3, 3, 3, 3, 4, 4, 4, 4, 4, 4, 4, 4, 5, 5, 5, 5, 5, 5, 5, 5, 5, 5, 5, 5, 5, 5, 5, 5, 6, 6, 6, 6, 6, 6, 6, 6, 6, 6, 6, 6, 6, 6, 6, 6, 6, 6, 6, 6, 6, 6, 6, 6, 6, 6, 6, 6, 6, 6, 6, 6, 7, 7, 7, 7, 7, 7, 7, 7, 7, 7, 7, 7, 7, 7, 7, 7, 7, 7, 7, 7, 7, 7, 7, 7, 7, 7, 7, 7, 7, 7, 7, 7, 7, 7, 7, 7, 7, 7, 7, 7, 7, 7, 7, 7, 7, 7, 7, 7, 7, 7, 7, 7, 7, 7, 7, 7, 7, 7, 7, 7, 7, 7, 7, 7, 8, 8, 8, 8, 8, 8, 8, 8, 8, 8, 8, 8, 8, 8, 8, 8, 8, 8, 8, 8, 8, 8, 8, 8, 8, 8, 8, 8, 8, 8, 8, 8, 8, 8, 8, 8, 8, 8, 8, 8, 8, 8, 8, 8, 8, 8, 8, 8, 8, 8, 8, 8, 8, 8, 8, 8, 8, 8, 8, 8, 8, 8, 8, 8, 8, 8, 8, 8, 8, 8, 8, 8, 8, 8, 8, 8, 8, 8, 8, 8, 8, 8, 8, 8, 8, 8, 8, 8, 8, 8, 8, 8, 8, 8, 8, 8, 8, 8, 8, 8, 8, 8, 8, 8, 8, 8, 8, 8, 8, 8, 8, 8, 8, 8, 8, 8, 8, 8, 8, 8, 8, 8, 8, 8, 8, 8, 8, 8] : List UInt8) (Int.toNat (IntKind.wrap .u8 (Int.fdiv a1_ (2 ^ (min (Int.toNat (16 : Int)) (IntKind.bits .u64)))))) 0) : Nat) : Int))))))
 (.t (decide ((256 : Int) ≤ a1_))
 (.g (decide ((0 : Int) ≤ (8 : Int))) <|
 .g (inR (IntKind.wrap .u8 (Int.fdiv a1_ (2 ^ (min (Int.toNat (8 : Int)) (IntKind.bits .u64))))) (List.length ([0, 1, 2, 2, 3, 3, 3, 3, 4, 4, 4, 4, 4, 4, 4, 4, 5, 5, 5, 5, 5, 5, 5, 5, 5, 5, 5, 5, 5, 5, 5, 5, 6, 6, 6, 6, 6, 6, 6, 6, 6, 6, 6, 6, 6, 6, 6, 6, 6, 6, 6, 6, 6, 6, 6, 6, 6, 6, 6, 6, 6, 6, 6, 6, 7, 7, 7, 7, 7, 7, 7, 7, 7, 7, 7, 7, 7, 7, 7, 7, 7, 7, 7, 7, 7, 7, 7, 7, 7, 7, 7, 7, 7, 7, 7, 7, 7, 7, 7, 7, 7, 7, 7, 7, 7, 7, 7, 7, 7, 7, 7, 7, 7, 7, 7, 7, 7, 7, 7, 7, 7, 7, 7, 7, 7, 7, 7, 7, 8, 8, 8, 8, 8, 8, 8, 8, 8, 8, 8, 8, 8, 8, 8, 8, 8, 8, 8, 8, 8, 8, 8, 8, 8, 8, 8, 8, 8, 8, 8, 8, 8, 8, 8, 8, 8, 8, 8, 8, 8, 8, 8, 8, 8, 8, 8, 8, 8, 8, 8, 8, 8, 8, 8, 8, 8, 8, 8, 8, 8, 8, 8, 8, 8, 8, 8, 8, 8, 8, 8, 8, 8, 8, 8, 8, 8, 8, 8, 8, 8, 8, 8, 8, 8, 8, 8, 8, 8, 8, 8, 8, 8, 8, 8, 8, 8, 8, 8, 8, 8, 8, 8, 8, 8, 8, 8, 8, 8, 8, 8, 8, 8, 8, 8, 8, 8, 8, 8, 8, 8, 8, 8, 8, 8, 8, 8, 8] : List UInt8))) <|
 .l (IntKind.wrap .i64 ((IntKind.wrap .i64 ((0 : Int) + (8 : Int))) + (IntKind.wrap .i64 ((UInt8.toNat (List.getD ([0, 1, 2, 2, 3, 3, 3, 3, 4, 4, 4, 4, 4, 4, 4, 4, 5, 5, 5, 5, 5, 5, 5, 5, 5, 5, 5, 5, 5, 5, 5, 5, 6, 6, 6, 6, 6, 6, 6, 6, 6, 6, 6, 6, 6, 6, 6, 6, 6, 6, 6, 6, 6, 6, 6, 6, 6, 6, 6, 6, 6, 6, 6, 6, 7, 7, 7, 7, 7, 7, 7, 7, 7, 7, 7, 7, 7, 7, 7, 7, 7, 7, 7, 7, 7, 7, 7, 7, 7, 7, 7, 7, 7, 7, 7, 7, 7, 7, 7, 7, 7, 7, 7, 7, 7, 7, 7, 7, 7, 7, 7, 7, 7, 7, 7, 7, 7, 7, 7, 7, 7, 7, 7, 7, 7, 7, 7, 7, 8, 8, 8, 8, 8, 8, 8, 8, 8, 8, 8, 8, 8, 8, 8, 8, 8, 8, 8, 8, 8, 8, 8, 8, 8, 8, 8, 8, 8, 8, 8, 8, 8, 8, 8, 8, 8, 8, 8, 8, 8, 8, 8, 8, 8, 8, 8, 8, 8, 8, 8, 8, 8, 8, 8, 8, 8, 8, 8, 8, 8, 8, 8, 8, 8, 8, 8, 8, 8, 8, 8, 8, 8, 8, 8, 8, 8, 8, 8, 8, 8, 8, 8, 8, 8, 8, 8, 8, 8, 8, 8, 8, 8, 8, 8, 8, 8, 8, 8, 8, 8, 8, 8, 8, 8, 8, 8, 8, 8, 8, 8, 8, 8, 8, 8, 8, 8, 8, 8, 8, 8, 8, 8, 8, 8, 8, 8, 8] : List UInt8) (Int.toNat (IntKind.wrap .u8 (Int.fdiv a1_ (2 ^ (min (Int.toNat (8 : Int)) (IntKind.bits .u64)))))) 0) : Nat) : Int)))))
 (.g (inR (IntKind.wrap .u8 a1_) (List.length ([0, 1, 2, 2, 3, 3, 3, 3, 4, 4, 4, 4, 4, 4, 4, 4, 5, 5, 5, 5, 5, 5, 5, 5, 5, 5, 5, 5, 5, 5, 5, 5, 6, 6, 6, 6, 6, 6, 6, 6, 6, 6, 6, 6, 6, 6, 6, 6, 6, 6, 6, 6, 6, 6, 6, 6, 6, 6, 6, 6, 6, 6, 6, 6, 7, 7, 7, 7, 7, 7, 7, 7, 7, 7, 7, 7, 7, 7, 7, 7, 7, 7, 7, 7, 7, 7, 7, 7, 7, 7, 7, 7, 7, 7, 7, 7, 7, 7, 7, 7, 7, 7, 7, 7, 7, 7, 7, 7, 7, 7, 7, 7, 7, 7, 7, 7, 7, 7, 7, 7, 7, 7, 7, 7, 7, 7, 7, 7, 8, 8, 8, 8, 8, 8, 8, 8, 8, 8, 8, 8, 8, 8, 8, 8, 8, 8, 8, 8, 8, 8, 8, 8, 8, 8, 8, 8, 8, 8, 8, 8, 8, 8, 8, 8, 8, 8, 8, 8, 8, 8, 8, 8, 8, 8, 8, 8, 8, 8, 8, 8, 8, 8, 8, 8, 8, 8, 8, 8, 8, 8, 8, 8, 8, 8, 8, 8, 8, 8, 8, 8, 8, 8, 8, 8, 8, 8, 8, 8, 8, 8, 8, 8, 8, 8, 8, 8, 8, 8, 8, 8, 8, 8, 8, 8, 8, 8, 8, 8, 8, 8, 8, 8, 8, 8, 8, 8, 8, 8, 8, 8, 8, 8, 8, 8, 8, 8, 8, 8, 8, 8, 8, 8, 8, 8, 8, 8] : List UInt8))) <|
 .l (IntKind.wrap .i64 ((0 : Int) + (IntKind.wrap .i64 ((UInt8.toNat (List.getD ([0, 1, 2, 2, 3, 3, 3, 3, 4, 4, 4, 4, 4, 4, 4, 4, 5, 5, 5, 5, 5, 5, 5, 5, 5, 5, 5, 5, 5, 5, 5, 5, 6, 6, 6, 6, 6, 6, 6, 6, 6, 6, 6, 6, 6, 6, 6, 6, 6, 6, 6, 6, 6, 6, 6, 6, 6, 6, 6, 6, 6, 6, 6, 6, 7, 7, 7, 7, 7, 7, 7, 7, 7, 7, 7, 7, 7, 7, 7, 7, 7, 7, 7, 7, 7, 7, 7, 7, 7, 7, 7, 7, 7, 7, 7, 7, 7, 7, 7, 7, 7, 7, 7, 7, 7, 7, 7, 7, 7, 7, 7, 7, 7, 7, 7, 7, 7, 7, 7, 7, 7, 7, 7, 7, 7, 7, 7, 7, 8, 8, 8, 8, 8, 8, 8, 8, 8, 8, 8, 8, 8, 8, 8, 8, 8, 8, 8, 8, 8, 8, 8, 8, 8, 8, 8, 8, 8, 8, 8, 8, 8, 8, 8, 8, 8, 8, 8, 8, 8, 8, 8, 8, 8, 8, 8, 8, 8, 8, 8, 8, 8, 8, 8, 8, 8, 8, 8, 8, 8, 8, 8, 8, 8, 8, 8, 8, 8, 8, 8, 8, 8, 8, 8, 8, 8, 8, 8, 8, 8, 8, 8, 8, 8, 8, 8, 8, 8, 8, 8, 8, 8, 8, 8, 8, 8, 8, 8, 8, 8, 8, 8, 8, 8, 8, 8, 8, 8, 8, 8, 8, 8, 8, 8, 8, 8, 8, 8, 8, 8, 8, 8, 8, 8, 8, 8, 8] : List UInt8) (Int.toNat (IntKind.wrap .u8 a1_)) 0) : Nat) : Int)))))))
noncomputable def F_zau (a1_ : Int) : Option (Int) := (T_zau a1_).ev
noncomputable def A_zau : Sh := (.cons (.dat (.int .u64)) .nil)
noncomputable def I_zau : List (Nat × OSh) := []
noncomputable def K_zau : RetK := { acts := [], res := [.tmp 2], sh := (.cons (.dat yi) .nil), obs := [], pins := [] }
noncomputable def D_zau : FD := ⟨A_zau, I_zau, [], Int, fun x => F_zau x.1.1, fun r => ([.dat yi r], [])⟩
noncomputable def E_zau : Env := envOf []
noncomputable def Z_zau : Nat → Nat → List Nat := fun _ _ => []
noncomputable def O_zau : List (Nat × LD) := []
noncomputable def C_zau : Code := (f127.body).getD .skip
end Go.Proofs.YtlmbhkmaflhagaaGreat
