import Derived.Test.YtlmbhkmaflhagaaGreatB37
import Derived.Test.YtlmbhkmaflhagaaGreatProg
namespace Go.Proofs.YtlmbhkmaflhagaaGreat
open Go.Proofs.Tryz
abbrev yi : Ty := .int .i64
abbrev y1 : Ty := .slice yi
abbrev y2 : Ty := .slice y1
abbrev y3 : Ty := .slice y2
abbrev Y1 : Type := List Int
abbrev Y2 : Type := List Y1
abbrev Y3 : Type := List Y2
abbrev yh (l : List Nat) (s : Sh) : Keep := { acts := [], S := { slots := l, sh := s, obs := [] } }
abbrev ys (l : List Nat) (s : Sh) : SSh := { slots := l, sh := s, obs := [] }
theorem yn {α : Type _} {p : α → Prop} : ∀ x, x ∈ ([] : List α) → p x := fun _ h => absurd h List.not_mem_nil
theorem yc {α : Type _} {p : α → Prop} {a : α} {l : List α} (h : p a ∧ ∀ x, x ∈ l → p x) : ∀ x, x ∈ a :: l → p x := List.forall_mem_cons.2 h
noncomputable def tabl : List (Nat × TD) := [(3, .sc yi), (4, .sc .bool), (5, .sc (.int .u8)), (9, .sc .str), (22, .sl 5 (.int .u8) 1), (24, .sl 3 yi 8), (25, .sl 28 y2 24), (27, .st (.pair y1 (.pair y1 (.pair y1 y3))) [(24, y1), (24, y1), (24, y1), (25, y3)]), (28, .sl 24 y1 24), (51, .sc (.int .u64)), (53, .st (.pair (.slice (.int .u8)) (.pair yi (.int .u64))) [(22, (.slice (.int .u8))), (3, yi), (51, (.int .u64))]), (64, .sc (.int .u64)), (65, .sc (.int .u64)), (75, .other), (87, .st (.pair y1 y2) [(24, y1), (28, y2)])]
noncomputable def tt : Nat → TD := fun i => match look tabl i with
 | some d => d
 | none => .no
noncomputable def T_zas (a1_ : Y1) : Tr (Bool) :=
 .l (decide ((65536 : Int) < ((List.length a1_ : Nat) : Int)))
noncomputable def F_zas (a1_ : Y1) : Option (Bool) := (T_zas a1_).ev
noncomputable def A_zas : Sh := (.cons (.dat (.slice (.int .u8))) .nil)
noncomputable def I_zas : List (Nat × OSh) := []
noncomputable def K_zas : RetK := { acts := [], res := [.tmp 2], sh := (.cons (.dat .bool) .nil), obs := [], pins := [] }
noncomputable def D_zas : FD := ⟨A_zas, I_zas, [], Bool, fun x => F_zas x.1.1, fun r => ([.dat .bool r], [])⟩
noncomputable def E_zas : Env := envOf []
noncomputable def Z_zas : Nat → Nat → List Nat := fun _ _ => []
noncomputable def O_zas : List (Nat × LD) := []
noncomputable def C_zas : Code := (f5.body).getD .skip
noncomputable def T_zcn (a1_ : Y1) (a2_ : Int) (a3_ : Int) : Tr (Int × (Y1 × (Int × Int))) :=
 .t (decide (a2_ < ((List.length a1_ : Nat) : Int)))
 (.g (inR a2_ (List.length a1_)) <|
 .t (decide ((IntKind.wrap .i64 (a2_ + (1 : Int))) ≤ ((List.length a1_ : Nat) : Int)))
 (.l ((IntKind.wrap .i64 (List.getD a1_ (Int.toNat a2_) (0 : Int))), (a1_, ((IntKind.wrap .i64 (a2_ + (1 : Int))), (IntKind.wrap .u64 ((IntKind.wrap .u64 ((IntKind.wrap .u64 (a3_ * (6364136223846793005 : Int))) + (IntKind.wrap .u64 (IntKind.wrap .i64 (List.getD a1_ (Int.toNat a2_) (0 : Int)))))) + (462197 : Int)))))))
 (.g (decide ((0 : Int) ≤ (40 : Int))) <|
 .l ((IntKind.wrap .i64 (IntKind.wrap .u64 (BitVec.toNat ((BitVec.ofInt (IntKind.bits .u64) (Int.fdiv (IntKind.wrap .u64 ((IntKind.wrap .u64 ((IntKind.wrap .u64 (a3_ * (6364136223846793005 : Int))) + (IntKind.wrap .u64 (IntKind.wrap .i64 (List.getD a1_ (Int.toNat a2_) (0 : Int)))))) + (462197 : Int))) (2 ^ (min (Int.toNat (40 : Int)) (IntKind.bits .u64))))) &&& (BitVec.ofInt (IntKind.bits .u64) (255 : Int)))))), (a1_, ((IntKind.wrap .i64 (a2_ + (1 : Int))), (IntKind.wrap .u64 ((IntKind.wrap .u64 ((IntKind.wrap .u64 (a3_ * (6364136223846793005 : Int))) + (IntKind.wrap .u64 (IntKind.wrap .i64 (List.getD a1_ (Int.toNat a2_) (0 : Int)))))) + (462197 : Int))))))))
 (.t (decide ((IntKind.wrap .i64 (a2_ + (1 : Int))) ≤ ((List.length a1_ : Nat) : Int)))
 (.l ((0 : Int), (a1_, ((IntKind.wrap .i64 (a2_ + (1 : Int))), (IntKind.wrap .u64 ((IntKind.wrap .u64 ((IntKind.wrap .u64 (a3_ * (6364136223846793005 : Int))) + (IntKind.wrap .u64 (0 : Int)))) + (462197 : Int)))))))
 (.g (decide ((0 : Int) ≤ (40 : Int))) <|
 .l ((IntKind.wrap .i64 (IntKind.wrap .u64 (BitVec.toNat ((BitVec.ofInt (IntKind.bits .u64) (Int.fdiv (IntKind.wrap .u64 ((IntKind.wrap .u64 ((IntKind.wrap .u64 (a3_ * (6364136223846793005 : Int))) + (IntKind.wrap .u64 (0 : Int)))) + (462197 : Int))) (2 ^ (min (Int.toNat (40 : Int)) (IntKind.bits .u64))))) &&& (BitVec.ofInt (IntKind.bits .u64) (255 : Int)))))), (a1_, ((IntKind.wrap .i64 (a2_ + (1 : Int))), (IntKind.wrap .u64 ((IntKind.wrap .u64 ((IntKind.wrap .u64 (a3_ * (6364136223846793005 : Int))) + (IntKind.wrap .u64 (0 : Int)))) + (462197 : Int))))))))
noncomputable def F_zcn (a1_ : Y1) (a2_ : Int) (a3_ : Int) : Option (Int × (Y1 × (Int × Int))) := (T_zcn a1_ a2_ a3_).ev
noncomputable def A_zcn : Sh := (.cons (.box 64 0) .nil)
noncomputable def I_zcn : List (Nat × OSh) := [(64, .cells (.cons (.dat (.slice (.int .u8))) (.cons (.dat yi) (.cons (.dat (.int .u64)) .nil))))]
noncomputable def K_zcn : RetK := { acts := [], res := [.tmp 2], sh := (.cons (.dat yi) .nil), obs := [(64, .cells (.cons (.dat (.slice (.int .u8))) (.cons (.dat yi) (.cons (.dat (.int .u64)) .nil))))], pins := [(0, 0, 64)] }
noncomputable def D_zcn : FD := ⟨A_zcn, I_zcn, [.arg 0], Int × (Y1 × (Int × Int)), fun x => F_zcn x.2.1.1 x.2.1.2.1 x.2.1.2.2.1, fun r => ([.dat yi r.1], [(64, .cells [.dat (.slice (.int .u8)) r.2.1, .dat yi r.2.2.1, .dat (.int .u64) r.2.2.2])])⟩
noncomputable def E_zcn : Env := envOf []
noncomputable def Z_zcn : Nat → Nat → List Nat := fun _ _ => []
noncomputable def O_zcn : List (Nat × LD) := []
noncomputable def C_zcn : Code := (f103.body).getD .skip
noncomputable def T_zcp (a4_ : Int) (a1_ : Y1) (a2_ : Int) (a3_ : Int) : Tr (Int × (Y1 × (Int × Int))) :=
 .t (decide (a4_ ≤ (1 : Int)))
 (.l ((0 : Int), (a1_, (a2_, a3_))))
 (.c (Int × (Y1 × (Int × Int))) (F_zcn a1_ a2_ a3_) fun r1_ =>
 .t (decide ((200 : Int) < a4_))
 (.c (Int × (Y1 × (Int × Int))) (F_zcn r1_.2.1 r1_.2.2.1 r1_.2.2.2) fun r2_ =>
 .g (!decide (a4_ = 0)) <|
 .l ((Int.tmod (IntKind.wrap .i64 ((IntKind.wrap .i64 (r1_.1 * (256 : Int))) + r2_.1)) a4_), (r2_.2.1, (r2_.2.2.1, r2_.2.2.2))))
 (.g (!decide (a4_ = 0)) <|
 .l ((Int.tmod r1_.1 a4_), (r1_.2.1, (r1_.2.2.1, r1_.2.2.2)))))
noncomputable def F_zcp (a4_ : Int) (a1_ : Y1) (a2_ : Int) (a3_ : Int) : Option (Int × (Y1 × (Int × Int))) := (T_zcp a4_ a1_ a2_ a3_).ev
noncomputable def A_zcp : Sh := (.cons (.box 64 0) (.cons (.dat yi) .nil))
noncomputable def I_zcp : List (Nat × OSh) := [(64, .cells (.cons (.dat (.slice (.int .u8))) (.cons (.dat yi) (.cons (.dat (.int .u64)) .nil))))]
noncomputable def K_zcp : RetK := { acts := [], res := [.tmp 4], sh := (.cons (.dat yi) .nil), obs := [(64, .cells (.cons (.dat (.slice (.int .u8))) (.cons (.dat yi) (.cons (.dat (.int .u64)) .nil))))], pins := [(0, 0, 64)] }
noncomputable def D_zcp : FD := ⟨A_zcp, I_zcp, [.arg 0], Int × (Y1 × (Int × Int)), fun x => F_zcp x.1.2.1 x.2.1.1 x.2.1.2.1 x.2.1.2.2.1, fun r => ([.dat yi r.1], [(64, .cells [.dat (.slice (.int .u8)) r.2.1, .dat yi r.2.2.1, .dat (.int .u64) r.2.2.2])])⟩
noncomputable def E_zcp : Env := envOf [(103, D_zcn)]
noncomputable def Z_zcp : Nat → Nat → List Nat := fun _ _ => []
noncomputable def O_zcp : List (Nat × LD) := []
noncomputable def C_zcp : Code := (f78.body).getD .skip
noncomputable def T_zcm (a4_ : Y1) (a1_ : Y1) (a2_ : Int) (a3_ : Int) : Tr (Int × (Y1 × (Int × Int))) :=
 .c (Int × (Y1 × (Int × Int))) (F_zcp ((List.length a4_ : Nat) : Int) a1_ a2_ a3_) fun r1_ =>
 .g (inR r1_.1 (List.length a4_)) <|
 .l ((List.getD a4_ (Int.toNat r1_.1) (0 : Int)), (r1_.2.1, (r1_.2.2.1, r1_.2.2.2)))
noncomputable def F_zcm (a4_ : Y1) (a1_ : Y1) (a2_ : Int) (a3_ : Int) : Option (Int × (Y1 × (Int × Int))) := (T_zcm a4_ a1_ a2_ a3_).ev
noncomputable def A_zcm : Sh := (.cons (.box 64 0) (.cons (.dat y1) .nil))
noncomputable def I_zcm : List (Nat × OSh) := [(64, .cells (.cons (.dat (.slice (.int .u8))) (.cons (.dat yi) (.cons (.dat (.int .u64)) .nil))))]
noncomputable def K_zcm : RetK := { acts := [], res := [.tmp 4], sh := (.cons (.dat yi) .nil), obs := [(64, .cells (.cons (.dat (.slice (.int .u8))) (.cons (.dat yi) (.cons (.dat (.int .u64)) .nil))))], pins := [(0, 0, 64)] }
noncomputable def D_zcm : FD := ⟨A_zcm, I_zcm, [.arg 0], Int × (Y1 × (Int × Int)), fun x => F_zcm x.1.2.1 x.2.1.1 x.2.1.2.1 x.2.1.2.2.1, fun r => ([.dat yi r.1], [(64, .cells [.dat (.slice (.int .u8)) r.2.1, .dat yi r.2.2.1, .dat (.int .u64) r.2.2.2])])⟩
noncomputable def E_zcm : Env := envOf [(78, D_zcp)]
noncomputable def Z_zcm : Nat → Nat → List Nat := fun _ _ => []
noncomputable def O_zcm : List (Nat × LD) := []
noncomputable def C_zcm : Code := (f79.body).getD .skip
noncomputable def S_zcr_0 (k : Int × (Y1 × (Y1 × Y1))) (v : Int × (Y1 × (Int × (Int × (Y1 × (Y1 × Y1)))))) : Tr ((Int × (Y1 × (Int × (Int × (Y1 × (Y1 × Y1)))))) ⊕ (Y1 × (Int × (Int × (Y1 × (Y1 × Y1)))))) :=
 .t (decide (v.1 < k.1))
 (.c (Int × (Y1 × (Int × Int))) (F_zcp (10 : Int) v.2.1 v.2.2.1 v.2.2.2.1) fun r13_ =>
 .g (decide ((List.length v.2.2.2.2.1 + List.length ([r13_.1] : Y1)) * 8 ≤ 140737488355328)) <|
 .c (Int × (Y1 × (Int × Int))) (F_zcp (4 : Int) r13_.2.1 r13_.2.2.1 r13_.2.2.2) fun r14_ =>
 .g (decide ((List.length v.2.2.2.2.2.1 + List.length ([r14_.1] : Y1)) * 8 ≤ 140737488355328)) <|
 .c (Int × (Y1 × (Int × Int))) (F_zcp (4 : Int) r14_.2.1 r14_.2.2.1 r14_.2.2.2) fun r15_ =>
 .g (decide ((List.length v.2.2.2.2.2.2 + List.length ([r15_.1] : Y1)) * 8 ≤ 140737488355328)) <|
 .l (.inl ((IntKind.wrap .i64 (v.1 + (1 : Int))), (r15_.2.1, (r15_.2.2.1, (r15_.2.2.2, ((v.2.2.2.2.1 ++ ([r13_.1] : Y1)), ((v.2.2.2.2.2.1 ++ ([r14_.1] : Y1)), (v.2.2.2.2.2.2 ++ ([r15_.1] : Y1))))))))))
 (.l (.inr (v.2.1, (v.2.2.1, (v.2.2.2.1, (v.2.2.2.2.1, (v.2.2.2.2.2.1, v.2.2.2.2.2.2)))))))
noncomputable def L_zcr_0 (k : Int × (Y1 × (Y1 × Y1))) (v : Int × (Y1 × (Int × (Int × (Y1 × (Y1 × Y1)))))) : Option (Y1 × (Int × (Int × (Y1 × (Y1 × Y1))))) := iter (fun v => (S_zcr_0 k v).ev) v
noncomputable def DL_zcr_0 : LD := ⟨{ acts := [.ownB 2 0 900320 3 yi, .ownB 2 1 900321 3 yi, .ownB 2 2 900322 3 yi, .ownB 3 0 900330 3 yi, .ownB 3 1 900331 3 yi, .ownB 3 2 900332 3 yi], S := { slots := [0, 2, 3, 4, 5], sh := (.cons (.box 64 0) (.cons (.box 2 0) (.cons (.box 3 0) (.cons (.dat yi) (.cons (.dat yi) .nil))))), obs := [(64, .cells (.cons (.dat (.slice (.int .u8))) (.cons (.dat yi) (.cons (.dat (.int .u64)) .nil)))), (2, .cells (.cons (.arr 900320) (.cons (.arr 900321) (.cons (.arr 900322) (.cons .nilsl .nil))))), (3, .cells (.cons (.arr 900330) (.cons (.arr 900331) (.cons (.arr 900332) (.cons .nilsl .nil))))), (900320, .arr 3 yi), (900321, .arr 3 yi), (900322, .arr 3 yi), (900330, .arr 3 yi), (900331, .arr 3 yi), (900332, .arr 3 yi)] } }, [(0, { acts := [], S := { slots := [0, 2, 3, 4], sh := (.cons (.box 64 0) (.cons (.box 2 0) (.cons (.box 3 0) (.cons (.dat yi) .nil)))), obs := [(64, .cells (.cons (.dat (.slice (.int .u8))) (.cons (.dat yi) (.cons (.dat (.int .u64)) .nil)))), (2, .cells (.cons (.arr 900320) (.cons (.arr 900321) (.cons (.arr 900322) (.cons .nilsl .nil))))), (3, .cells (.cons (.arr 900330) (.cons (.arr 900331) (.cons (.arr 900332) (.cons .nilsl .nil))))), (900320, .arr 3 yi), (900321, .arr 3 yi), (900322, .arr 3 yi), (900330, .arr 3 yi), (900331, .arr 3 yi), (900332, .arr 3 yi)] } })], (yh [] .nil), Int × (Y1 × (Y1 × Y1)), Int × (Y1 × (Int × (Int × (Y1 × (Y1 × Y1))))), Y1 × (Int × (Int × (Y1 × (Y1 × Y1)))), fun k v => (((), ((), ((), (k.1, (v.1, ()))))), ((v.2.1, (v.2.2.1, (v.2.2.2.1, ()))), (((), ((), ((), ((), ())))), (((), ((), ((), ((), ())))), (k.2.1, (k.2.2.1, (k.2.2.2, (v.2.2.2.2.1, (v.2.2.2.2.2.1, (v.2.2.2.2.2.2, ())))))))))), fun t => (t.1.2.2.2.1, (t.2.2.2.2.1, (t.2.2.2.2.2.1, t.2.2.2.2.2.2.1))), fun t => (t.1.2.2.2.2.1, (t.2.1.1, (t.2.1.2.1, (t.2.1.2.2.1, (t.2.2.2.2.2.2.2.1, (t.2.2.2.2.2.2.2.2.1, t.2.2.2.2.2.2.2.2.2.1)))))), S_zcr_0, fun k r => .l (.exit 0 (mkSt ({ slots := [0, 2, 3, 4], sh := (.cons (.box 64 0) (.cons (.box 2 0) (.cons (.box 3 0) (.cons (.dat yi) .nil)))), obs := [(64, .cells (.cons (.dat (.slice (.int .u8))) (.cons (.dat yi) (.cons (.dat (.int .u64)) .nil)))), (2, .cells (.cons (.arr 900320) (.cons (.arr 900321) (.cons (.arr 900322) (.cons .nilsl .nil))))), (3, .cells (.cons (.arr 900330) (.cons (.arr 900331) (.cons (.arr 900332) (.cons .nilsl .nil))))), (900320, .arr 3 yi), (900321, .arr 3 yi), (900322, .arr 3 yi), (900330, .arr 3 yi), (900331, .arr 3 yi), (900332, .arr 3 yi)] }) (((), ((), ((), (k.1, ())))), ((r.1, (r.2.1, (r.2.2.1, ()))), (((), ((), ((), ((), ())))), (((), ((), ((), ((), ())))), (k.2.1, (k.2.2.1, (k.2.2.2, (r.2.2.2.1, (r.2.2.2.2.1, (r.2.2.2.2.2, ()))))))))))))⟩
noncomputable def S_zcr_6 (k : Int × (Int × (Int × (Y2 × (Y1 × (Y1 × (Y1 × (Y3 × (Y1 × (Y1 × (Y1 × Y3))))))))))) (v : Int × (Y1 × (Int × (Int × Y1)))) : Tr ((Int × (Y1 × (Int × (Int × Y1)))) ⊕ (Y1 × (Int × (Int × Y1)))) :=
 .t (decide (v.1 < k.1))
 (.c (Int × (Y1 × (Int × Int))) (F_zcp (12 : Int) v.2.1 v.2.2.1 v.2.2.2.1) fun r74_ =>
 .g (decide ((List.length v.2.2.2.2 + List.length ([r74_.1] : Y1)) * 8 ≤ 140737488355328)) <|
 .l (.inl ((IntKind.wrap .i64 (v.1 + (1 : Int))), (r74_.2.1, (r74_.2.2.1, (r74_.2.2.2, (v.2.2.2.2 ++ ([r74_.1] : Y1))))))))
 (.l (.inr (v.2.1, (v.2.2.1, (v.2.2.2.1, v.2.2.2.2)))))
noncomputable def L_zcr_6 (k : Int × (Int × (Int × (Y2 × (Y1 × (Y1 × (Y1 × (Y3 × (Y1 × (Y1 × (Y1 × Y3))))))))))) (v : Int × (Y1 × (Int × (Int × Y1)))) : Option (Y1 × (Int × (Int × Y1))) := iter (fun v => (S_zcr_6 k v).ev) v
noncomputable def DL_zcr_6 : LD := ⟨{ acts := [], S := { slots := [0, 2, 3, 4, 6, 7, 8, 9, 10], sh := (.cons (.box 64 0) (.cons (.box 2 0) (.cons (.box 3 0) (.cons (.dat yi) (.cons (.dat yi) (.cons (.arr 48) (.cons (.dat yi) (.cons (.arr 56) (.cons (.dat yi) .nil))))))))), obs := [(64, .cells (.cons (.dat (.slice (.int .u8))) (.cons (.dat yi) (.cons (.dat (.int .u64)) .nil)))), (2, .cells (.cons (.arr 900320) (.cons (.arr 900321) (.cons (.arr 900322) (.cons (.arr 902323) .nil))))), (3, .cells (.cons (.arr 900330) (.cons (.arr 900331) (.cons (.arr 900332) (.cons (.arr 902333) .nil))))), (48, .rows 24 3 yi), (56, .arr 3 yi), (900320, .arr 3 yi), (900321, .arr 3 yi), (900322, .arr 3 yi), (902323, .arr 28 y2), (900330, .arr 3 yi), (900331, .arr 3 yi), (900332, .arr 3 yi), (902333, .arr 28 y2)] } }, [(6, { acts := [], S := { slots := [0, 2, 3, 4, 6, 7, 8, 9], sh := (.cons (.box 64 0) (.cons (.box 2 0) (.cons (.box 3 0) (.cons (.dat yi) (.cons (.dat yi) (.cons (.arr 48) (.cons (.dat yi) (.cons (.arr 56) .nil)))))))), obs := [(64, .cells (.cons (.dat (.slice (.int .u8))) (.cons (.dat yi) (.cons (.dat (.int .u64)) .nil)))), (2, .cells (.cons (.arr 900320) (.cons (.arr 900321) (.cons (.arr 900322) (.cons (.arr 902323) .nil))))), (3, .cells (.cons (.arr 900330) (.cons (.arr 900331) (.cons (.arr 900332) (.cons (.arr 902333) .nil))))), (48, .rows 24 3 yi), (56, .arr 3 yi), (900320, .arr 3 yi), (900321, .arr 3 yi), (900322, .arr 3 yi), (902323, .arr 28 y2), (900330, .arr 3 yi), (900331, .arr 3 yi), (900332, .arr 3 yi), (902333, .arr 28 y2)] } })], (yh [] .nil), Int × (Int × (Int × (Y2 × (Y1 × (Y1 × (Y1 × (Y3 × (Y1 × (Y1 × (Y1 × Y3)))))))))), Int × (Y1 × (Int × (Int × Y1))), Y1 × (Int × (Int × Y1)), fun k v => (((), ((), ((), (k.1, (k.2.1, ((), (k.2.2.1, ((), (v.1, ()))))))))), ((v.2.1, (v.2.2.1, (v.2.2.2.1, ()))), (((), ((), ((), ((), ())))), (((), ((), ((), ((), ())))), (k.2.2.2.1, (v.2.2.2.2, (k.2.2.2.2.1, (k.2.2.2.2.2.1, (k.2.2.2.2.2.2.1, (k.2.2.2.2.2.2.2.1, (k.2.2.2.2.2.2.2.2.1, (k.2.2.2.2.2.2.2.2.2.1, (k.2.2.2.2.2.2.2.2.2.2.1, (k.2.2.2.2.2.2.2.2.2.2.2, ())))))))))))))), fun t => (t.1.2.2.2.1, (t.1.2.2.2.2.1, (t.1.2.2.2.2.2.2.1, (t.2.2.2.2.1, (t.2.2.2.2.2.2.1, (t.2.2.2.2.2.2.2.1, (t.2.2.2.2.2.2.2.2.1, (t.2.2.2.2.2.2.2.2.2.1, (t.2.2.2.2.2.2.2.2.2.2.1, (t.2.2.2.2.2.2.2.2.2.2.2.1, (t.2.2.2.2.2.2.2.2.2.2.2.2.1, t.2.2.2.2.2.2.2.2.2.2.2.2.2.1))))))))))), fun t => (t.1.2.2.2.2.2.2.2.2.1, (t.2.1.1, (t.2.1.2.1, (t.2.1.2.2.1, t.2.2.2.2.2.1)))), S_zcr_6, fun k r => .l (.exit 6 (mkSt ({ slots := [0, 2, 3, 4, 6, 7, 8, 9], sh := (.cons (.box 64 0) (.cons (.box 2 0) (.cons (.box 3 0) (.cons (.dat yi) (.cons (.dat yi) (.cons (.arr 48) (.cons (.dat yi) (.cons (.arr 56) .nil)))))))), obs := [(64, .cells (.cons (.dat (.slice (.int .u8))) (.cons (.dat yi) (.cons (.dat (.int .u64)) .nil)))), (2, .cells (.cons (.arr 900320) (.cons (.arr 900321) (.cons (.arr 900322) (.cons (.arr 902323) .nil))))), (3, .cells (.cons (.arr 900330) (.cons (.arr 900331) (.cons (.arr 900332) (.cons (.arr 902333) .nil))))), (48, .rows 24 3 yi), (56, .arr 3 yi), (900320, .arr 3 yi), (900321, .arr 3 yi), (900322, .arr 3 yi), (902323, .arr 28 y2), (900330, .arr 3 yi), (900331, .arr 3 yi), (900332, .arr 3 yi), (902333, .arr 28 y2)] }) (((), ((), ((), (k.1, (k.2.1, ((), (k.2.2.1, ((), ())))))))), ((r.1, (r.2.1, (r.2.2.1, ()))), (((), ((), ((), ((), ())))), (((), ((), ((), ((), ())))), (k.2.2.2.1, (r.2.2.2, (k.2.2.2.2.1, (k.2.2.2.2.2.1, (k.2.2.2.2.2.2.1, (k.2.2.2.2.2.2.2.1, (k.2.2.2.2.2.2.2.2.1, (k.2.2.2.2.2.2.2.2.2.1, (k.2.2.2.2.2.2.2.2.2.2.1, (k.2.2.2.2.2.2.2.2.2.2.2, ()))))))))))))))))⟩
noncomputable def S_zcr_4 (k : Int × (Int × (Y1 × (Y1 × (Y1 × (Y3 × (Y1 × (Y1 × (Y1 × Y3))))))))) (v : Int × (Y1 × (Int × (Int × Y2)))) : Tr ((Int × (Y1 × (Int × (Int × Y2)))) ⊕ (Y1 × (Int × (Int × Y2)))) :=
 .t (decide ((0 : Int) < v.1))
 (.c (Y1 × (Int × (Int × Y1))) (L_zcr_6 (k.1, (k.2.1, (v.1, (v.2.2.2.2, (k.2.2.1, (k.2.2.2.1, (k.2.2.2.2.1, (k.2.2.2.2.2.1, (k.2.2.2.2.2.2.1, (k.2.2.2.2.2.2.2.1, (k.2.2.2.2.2.2.2.2.1, k.2.2.2.2.2.2.2.2.2))))))))))) ((0 : Int), (v.2.1, (v.2.2.1, (v.2.2.2.1, ([] : Y1)))))) fun r91_ =>
 .g (decide ((List.length v.2.2.2.2 + 1) * 24 ≤ 140737488355328)) <|
 .l (.inl ((IntKind.wrap .i64 (v.1 - (1 : Int))), (r91_.1, (r91_.2.1, (r91_.2.2.1, (List.set (v.2.2.2.2 ++ [[]]) (List.length v.2.2.2.2) r91_.2.2.2)))))))
 (.l (.inr (v.2.1, (v.2.2.1, (v.2.2.2.1, v.2.2.2.2)))))
noncomputable def L_zcr_4 (k : Int × (Int × (Y1 × (Y1 × (Y1 × (Y3 × (Y1 × (Y1 × (Y1 × Y3))))))))) (v : Int × (Y1 × (Int × (Int × Y2)))) : Option (Y1 × (Int × (Int × Y2))) := iter (fun v => (S_zcr_4 k v).ev) v
noncomputable def DL_zcr_4 : LD := ⟨{ acts := [], S := { slots := [0, 2, 3, 4, 6, 7, 8], sh := (.cons (.box 64 0) (.cons (.box 2 0) (.cons (.box 3 0) (.cons (.dat yi) (.cons (.dat yi) (.cons (.arr 48) (.cons (.dat yi) .nil))))))), obs := [(64, .cells (.cons (.dat (.slice (.int .u8))) (.cons (.dat yi) (.cons (.dat (.int .u64)) .nil)))), (2, .cells (.cons (.arr 900320) (.cons (.arr 900321) (.cons (.arr 900322) (.cons (.arr 902323) .nil))))), (3, .cells (.cons (.arr 900330) (.cons (.arr 900331) (.cons (.arr 900332) (.cons (.arr 902333) .nil))))), (48, .rows 24 3 yi), (900320, .arr 3 yi), (900321, .arr 3 yi), (900322, .arr 3 yi), (902323, .arr 28 y2), (900330, .arr 3 yi), (900331, .arr 3 yi), (900332, .arr 3 yi), (902333, .arr 28 y2)] } }, [(4, { acts := [], S := { slots := [0, 2, 3, 4, 6, 7], sh := (.cons (.box 64 0) (.cons (.box 2 0) (.cons (.box 3 0) (.cons (.dat yi) (.cons (.dat yi) (.cons (.arr 48) .nil)))))), obs := [(64, .cells (.cons (.dat (.slice (.int .u8))) (.cons (.dat yi) (.cons (.dat (.int .u64)) .nil)))), (2, .cells (.cons (.arr 900320) (.cons (.arr 900321) (.cons (.arr 900322) (.cons (.arr 902323) .nil))))), (3, .cells (.cons (.arr 900330) (.cons (.arr 900331) (.cons (.arr 900332) (.cons (.arr 902333) .nil))))), (48, .rows 24 3 yi), (900320, .arr 3 yi), (900321, .arr 3 yi), (900322, .arr 3 yi), (902323, .arr 28 y2), (900330, .arr 3 yi), (900331, .arr 3 yi), (900332, .arr 3 yi), (902333, .arr 28 y2)] } })], (yh [] .nil), Int × (Int × (Y1 × (Y1 × (Y1 × (Y3 × (Y1 × (Y1 × (Y1 × Y3)))))))), Int × (Y1 × (Int × (Int × Y2))), Y1 × (Int × (Int × Y2)), fun k v => (((), ((), ((), (k.1, (k.2.1, ((), (v.1, ()))))))), ((v.2.1, (v.2.2.1, (v.2.2.2.1, ()))), (((), ((), ((), ((), ())))), (((), ((), ((), ((), ())))), (v.2.2.2.2, (k.2.2.1, (k.2.2.2.1, (k.2.2.2.2.1, (k.2.2.2.2.2.1, (k.2.2.2.2.2.2.1, (k.2.2.2.2.2.2.2.1, (k.2.2.2.2.2.2.2.2.1, (k.2.2.2.2.2.2.2.2.2, ()))))))))))))), fun t => (t.1.2.2.2.1, (t.1.2.2.2.2.1, (t.2.2.2.2.2.1, (t.2.2.2.2.2.2.1, (t.2.2.2.2.2.2.2.1, (t.2.2.2.2.2.2.2.2.1, (t.2.2.2.2.2.2.2.2.2.1, (t.2.2.2.2.2.2.2.2.2.2.1, (t.2.2.2.2.2.2.2.2.2.2.2.1, t.2.2.2.2.2.2.2.2.2.2.2.2.1))))))))), fun t => (t.1.2.2.2.2.2.2.1, (t.2.1.1, (t.2.1.2.1, (t.2.1.2.2.1, t.2.2.2.2.1)))), S_zcr_4, fun k r => .l (.exit 4 (mkSt ({ slots := [0, 2, 3, 4, 6, 7], sh := (.cons (.box 64 0) (.cons (.box 2 0) (.cons (.box 3 0) (.cons (.dat yi) (.cons (.dat yi) (.cons (.arr 48) .nil)))))), obs := [(64, .cells (.cons (.dat (.slice (.int .u8))) (.cons (.dat yi) (.cons (.dat (.int .u64)) .nil)))), (2, .cells (.cons (.arr 900320) (.cons (.arr 900321) (.cons (.arr 900322) (.cons (.arr 902323) .nil))))), (3, .cells (.cons (.arr 900330) (.cons (.arr 900331) (.cons (.arr 900332) (.cons (.arr 902333) .nil))))), (48, .rows 24 3 yi), (900320, .arr 3 yi), (900321, .arr 3 yi), (900322, .arr 3 yi), (902323, .arr 28 y2), (900330, .arr 3 yi), (900331, .arr 3 yi), (900332, .arr 3 yi), (902333, .arr 28 y2)] }) (((), ((), ((), (k.1, (k.2.1, ((), ())))))), ((r.1, (r.2.1, (r.2.2.1, ()))), (((), ((), ((), ((), ())))), (((), ((), ((), ((), ())))), (r.2.2.2, (k.2.2.1, (k.2.2.2.1, (k.2.2.2.2.1, (k.2.2.2.2.2.1, (k.2.2.2.2.2.2.1, (k.2.2.2.2.2.2.2.1, (k.2.2.2.2.2.2.2.2.1, (k.2.2.2.2.2.2.2.2.2, ())))))))))))))))⟩
noncomputable def S_zcr_2 (k : Int × (Y1 × (Y1 × (Y1 × (Y3 × (Y1 × (Y1 × Y1))))))) (v : Int × (Y1 × (Int × (Int × Y3)))) : Tr ((Int × (Y1 × (Int × (Int × Y3)))) ⊕ (Y1 × (Int × (Int × Y3)))) :=
 .t (decide ((0 : Int) < v.1))
 (.c (Int × (Y1 × (Int × Int))) (F_zcm ([(2 : Int), (3 : Int), (1 : Int), (0 : Int), (5 : Int)] : Y1) v.2.1 v.2.2.1 v.2.2.2.1) fun r41_ =>
 .c (Y1 × (Int × (Int × Y2))) (L_zcr_4 (k.1, (v.1, (k.2.1, (k.2.2.1, (k.2.2.2.1, (k.2.2.2.2.1, (k.2.2.2.2.2.1, (k.2.2.2.2.2.2.1, (k.2.2.2.2.2.2.2, v.2.2.2.2))))))))) (r41_.1, (r41_.2.1, (r41_.2.2.1, (r41_.2.2.2, ([] : List Y1)))))) fun r106_ =>
 .g (decide ((List.length v.2.2.2.2 + List.length ([r106_.2.2.2] : Y3)) * 24 ≤ 140737488355328)) <|
 .l (.inl ((IntKind.wrap .i64 (v.1 - (1 : Int))), (r106_.1, (r106_.2.1, (r106_.2.2.1, (v.2.2.2.2 ++ ([r106_.2.2.2] : Y3))))))))
 (.l (.inr (v.2.1, (v.2.2.1, (v.2.2.2.1, v.2.2.2.2)))))
noncomputable def L_zcr_2 (k : Int × (Y1 × (Y1 × (Y1 × (Y3 × (Y1 × (Y1 × Y1))))))) (v : Int × (Y1 × (Int × (Int × Y3)))) : Option (Y1 × (Int × (Int × Y3))) := iter (fun v => (S_zcr_2 k v).ev) v
noncomputable def DL_zcr_2 : LD := ⟨{ acts := [.ownB 2 3 902323 28 y2, .ownB 3 3 902333 28 y2], S := { slots := [0, 2, 3, 4, 6], sh := (.cons (.box 64 0) (.cons (.box 2 0) (.cons (.box 3 0) (.cons (.dat yi) (.cons (.dat yi) .nil))))), obs := [(64, .cells (.cons (.dat (.slice (.int .u8))) (.cons (.dat yi) (.cons (.dat (.int .u64)) .nil)))), (2, .cells (.cons (.arr 900320) (.cons (.arr 900321) (.cons (.arr 900322) (.cons (.arr 902323) .nil))))), (3, .cells (.cons (.arr 900330) (.cons (.arr 900331) (.cons (.arr 900332) (.cons (.arr 902333) .nil))))), (900320, .arr 3 yi), (900321, .arr 3 yi), (900322, .arr 3 yi), (902323, .arr 28 y2), (900330, .arr 3 yi), (900331, .arr 3 yi), (900332, .arr 3 yi), (902333, .arr 28 y2)] } }, [(2, { acts := [], S := { slots := [0, 2, 3], sh := (.cons (.box 64 0) (.cons (.box 2 0) (.cons (.box 3 0) .nil))), obs := [(64, .cells (.cons (.dat (.slice (.int .u8))) (.cons (.dat yi) (.cons (.dat (.int .u64)) .nil)))), (2, .cells (.cons (.arr 900320) (.cons (.arr 900321) (.cons (.arr 900322) (.cons (.arr 902323) .nil))))), (3, .cells (.cons (.arr 900330) (.cons (.arr 900331) (.cons (.arr 900332) (.cons (.arr 902333) .nil))))), (900320, .arr 3 yi), (900321, .arr 3 yi), (900322, .arr 3 yi), (902323, .arr 28 y2), (900330, .arr 3 yi), (900331, .arr 3 yi), (900332, .arr 3 yi), (902333, .arr 28 y2)] } })], (yh [] .nil), Int × (Y1 × (Y1 × (Y1 × (Y3 × (Y1 × (Y1 × Y1)))))), Int × (Y1 × (Int × (Int × Y3))), Y1 × (Int × (Int × Y3)), fun k v => (((), ((), ((), (k.1, (v.1, ()))))), ((v.2.1, (v.2.2.1, (v.2.2.2.1, ()))), (((), ((), ((), ((), ())))), (((), ((), ((), ((), ())))), (k.2.1, (k.2.2.1, (k.2.2.2.1, (k.2.2.2.2.1, (k.2.2.2.2.2.1, (k.2.2.2.2.2.2.1, (k.2.2.2.2.2.2.2, (v.2.2.2.2, ())))))))))))), fun t => (t.1.2.2.2.1, (t.2.2.2.2.1, (t.2.2.2.2.2.1, (t.2.2.2.2.2.2.1, (t.2.2.2.2.2.2.2.1, (t.2.2.2.2.2.2.2.2.1, (t.2.2.2.2.2.2.2.2.2.1, t.2.2.2.2.2.2.2.2.2.2.1))))))), fun t => (t.1.2.2.2.2.1, (t.2.1.1, (t.2.1.2.1, (t.2.1.2.2.1, t.2.2.2.2.2.2.2.2.2.2.2.1)))), S_zcr_2, fun k r => .l (.exit 2 (mkSt ({ slots := [0, 2, 3], sh := (.cons (.box 64 0) (.cons (.box 2 0) (.cons (.box 3 0) .nil))), obs := [(64, .cells (.cons (.dat (.slice (.int .u8))) (.cons (.dat yi) (.cons (.dat (.int .u64)) .nil)))), (2, .cells (.cons (.arr 900320) (.cons (.arr 900321) (.cons (.arr 900322) (.cons (.arr 902323) .nil))))), (3, .cells (.cons (.arr 900330) (.cons (.arr 900331) (.cons (.arr 900332) (.cons (.arr 902333) .nil))))), (900320, .arr 3 yi), (900321, .arr 3 yi), (900322, .arr 3 yi), (902323, .arr 28 y2), (900330, .arr 3 yi), (900331, .arr 3 yi), (900332, .arr 3 yi), (902333, .arr 28 y2)] }) (((), ((), ((), ()))), ((r.1, (r.2.1, (r.2.2.1, ()))), (((), ((), ((), ((), ())))), (((), ((), ((), ((), ())))), (k.2.1, (k.2.2.1, (k.2.2.2.1, (k.2.2.2.2.1, (k.2.2.2.2.2.1, (k.2.2.2.2.2.2.1, (k.2.2.2.2.2.2.2, (r.2.2.2, ()))))))))))))))⟩
noncomputable def S_zcr_9 (_k : Y1 × (Int × (Int × (Y1 × (Y1 × (Y1 × (Y3 × (Y1 × (Y1 × Y1))))))))) (v : Y3) : Tr (Y3 ⊕ Y3) :=
 .t (decide (((List.length v : Nat) : Int) < (6 : Int)))
 (.g (decide ((List.length v + List.length ([([] : List Y1)] : Y3)) * 24 ≤ 140737488355328)) <|
 .l (.inl (v ++ ([([] : List Y1)] : Y3))))
 (.l (.inr v))
noncomputable def L_zcr_9 (k : Y1 × (Int × (Int × (Y1 × (Y1 × (Y1 × (Y3 × (Y1 × (Y1 × Y1))))))))) (v : Y3) : Option Y3 := iter (fun v => (S_zcr_9 k v).ev) v
noncomputable def DL_zcr_9 : LD := ⟨{ acts := [], S := { slots := [0, 2, 3], sh := (.cons (.box 64 0) (.cons (.box 2 0) (.cons (.box 3 0) .nil))), obs := [(64, .cells (.cons (.dat (.slice (.int .u8))) (.cons (.dat yi) (.cons (.dat (.int .u64)) .nil)))), (2, .cells (.cons (.arr 900320) (.cons (.arr 900321) (.cons (.arr 900322) (.cons (.arr 902323) .nil))))), (3, .cells (.cons (.arr 900330) (.cons (.arr 900331) (.cons (.arr 900332) (.cons (.arr 902333) .nil))))), (900320, .arr 3 yi), (900321, .arr 3 yi), (900322, .arr 3 yi), (902323, .arr 28 y2), (900330, .arr 3 yi), (900331, .arr 3 yi), (900332, .arr 3 yi), (902333, .arr 28 y2)] } }, [(9, { acts := [], S := { slots := [0, 2, 3], sh := (.cons (.box 64 0) (.cons (.box 2 0) (.cons (.box 3 0) .nil))), obs := [(64, .cells (.cons (.dat (.slice (.int .u8))) (.cons (.dat yi) (.cons (.dat (.int .u64)) .nil)))), (2, .cells (.cons (.arr 900320) (.cons (.arr 900321) (.cons (.arr 900322) (.cons (.arr 902323) .nil))))), (3, .cells (.cons (.arr 900330) (.cons (.arr 900331) (.cons (.arr 900332) (.cons (.arr 902333) .nil))))), (900320, .arr 3 yi), (900321, .arr 3 yi), (900322, .arr 3 yi), (902323, .arr 28 y2), (900330, .arr 3 yi), (900331, .arr 3 yi), (900332, .arr 3 yi), (902333, .arr 28 y2)] } })], (yh [] .nil), Y1 × (Int × (Int × (Y1 × (Y1 × (Y1 × (Y3 × (Y1 × (Y1 × Y1)))))))), Y3, Y3, fun k v => (((), ((), ((), ()))), ((k.1, (k.2.1, (k.2.2.1, ()))), (((), ((), ((), ((), ())))), (((), ((), ((), ((), ())))), (k.2.2.2.1, (k.2.2.2.2.1, (k.2.2.2.2.2.1, (k.2.2.2.2.2.2.1, (k.2.2.2.2.2.2.2.1, (k.2.2.2.2.2.2.2.2.1, (k.2.2.2.2.2.2.2.2.2, (v, ())))))))))))), fun t => (t.2.1.1, (t.2.1.2.1, (t.2.1.2.2.1, (t.2.2.2.2.1, (t.2.2.2.2.2.1, (t.2.2.2.2.2.2.1, (t.2.2.2.2.2.2.2.1, (t.2.2.2.2.2.2.2.2.1, (t.2.2.2.2.2.2.2.2.2.1, t.2.2.2.2.2.2.2.2.2.2.1))))))))), fun t => t.2.2.2.2.2.2.2.2.2.2.2.1, S_zcr_9, fun k r => .l (.exit 9 (mkSt ({ slots := [0, 2, 3], sh := (.cons (.box 64 0) (.cons (.box 2 0) (.cons (.box 3 0) .nil))), obs := [(64, .cells (.cons (.dat (.slice (.int .u8))) (.cons (.dat yi) (.cons (.dat (.int .u64)) .nil)))), (2, .cells (.cons (.arr 900320) (.cons (.arr 900321) (.cons (.arr 900322) (.cons (.arr 902323) .nil))))), (3, .cells (.cons (.arr 900330) (.cons (.arr 900331) (.cons (.arr 900332) (.cons (.arr 902333) .nil))))), (900320, .arr 3 yi), (900321, .arr 3 yi), (900322, .arr 3 yi), (902323, .arr 28 y2), (900330, .arr 3 yi), (900331, .arr 3 yi), (900332, .arr 3 yi), (902333, .arr 28 y2)] }) (((), ((), ((), ()))), ((k.1, (k.2.1, (k.2.2.1, ()))), (((), ((), ((), ((), ())))), (((), ((), ((), ((), ())))), (k.2.2.2.1, (k.2.2.2.2.1, (k.2.2.2.2.2.1, (k.2.2.2.2.2.2.1, (k.2.2.2.2.2.2.2.1, (k.2.2.2.2.2.2.2.2.1, (k.2.2.2.2.2.2.2.2.2, (r, ()))))))))))))))⟩
noncomputable def T_zcr (a1_ : Y1) (a2_ : Int) (a3_ : Int) : Tr (Y1 × (Y1 × (Y1 × (Y3 × (Y1 × (Int × Int)))))) :=
 .c (Int × (Y1 × (Int × Int))) (F_zcm ([(3 : Int), (2 : Int), (4 : Int), (1 : Int), (3 : Int), (5 : Int)] : Y1) a1_ a2_ a3_) fun r1_ =>
 .c (Y1 × (Int × (Int × (Y1 × (Y1 × Y1))))) (L_zcr_0 (r1_.1, (([] : Y1), (([] : Y1), ([] : Y1)))) ((0 : Int), (r1_.2.1, (r1_.2.2.1, (r1_.2.2.2, (([] : Y1), (([] : Y1), ([] : Y1)))))))) fun r26_ =>
 .c (Int × (Y1 × (Int × Int))) (F_zcm ([(2 : Int), (3 : Int), (4 : Int), (1 : Int), (0 : Int), (5 : Int)] : Y1) r26_.1 r26_.2.1 r26_.2.2.1) fun r27_ =>
 .c (Y1 × (Int × (Int × Y3))) (L_zcr_2 (r1_.1, (([] : Y1), (([] : Y1), (([] : Y1), (([] : Y3), (r26_.2.2.2.1, (r26_.2.2.2.2.1, r26_.2.2.2.2.2))))))) (r27_.1, (r27_.2.1, (r27_.2.2.1, (r27_.2.2.2, ([] : Y3)))))) fun r118_ =>
 .c (Int × (Y1 × (Int × Int))) (F_zcp (40 : Int) r118_.1 r118_.2.1 r118_.2.2.1) fun r119_ =>
 .t (r119_.1 == (0 : Int))
 (.c (Int × (Y1 × (Int × Int))) (F_zcm ([(-1 : Int), (99 : Int), (100 : Int)] : Y1) r119_.2.1 r119_.2.2.1 r119_.2.2.2) fun r120_ =>
 .g (inR (0 : Int) (List.length r26_.2.2.2.2.2)) <|
 .g (decide ((Int.toNat (0 : Int)) < List.length r26_.2.2.2.2.2)) <|
 .l (r26_.2.2.2.1, (r26_.2.2.2.2.1, ((List.set r26_.2.2.2.2.2 (Int.toNat (0 : Int)) r120_.1), (r118_.2.2.2, (r120_.2.1, (r120_.2.2.1, r120_.2.2.2)))))))
 (.t (r119_.1 == (1 : Int))
 (.g (decide ((List.length r26_.2.2.2.2.1 + List.length ([(0 : Int)] : Y1)) * 8 ≤ 140737488355328)) <|
 .l (r26_.2.2.2.1, ((r26_.2.2.2.2.1 ++ ([(0 : Int)] : Y1)), (r26_.2.2.2.2.2, (r118_.2.2.2, (r119_.2.1, (r119_.2.2.1, r119_.2.2.2)))))))
 (.t (r119_.1 == (2 : Int))
 (.c Y3 (L_zcr_9 (r119_.2.1, (r119_.2.2.1, (r119_.2.2.2, (([] : Y1), (([] : Y1), (([] : Y1), (([] : Y3), (r26_.2.2.2.1, (r26_.2.2.2.2.1, r26_.2.2.2.2.2))))))))) r118_.2.2.2) fun r143_ =>
 .l (r26_.2.2.2.1, (r26_.2.2.2.2.1, (r26_.2.2.2.2.2, (r143_, (r119_.2.1, (r119_.2.2.1, r119_.2.2.2)))))))
 (.t (r119_.1 == (3 : Int))
 (.l (([] : Y1), (([] : Y1), (([] : Y1), (([] : Y3), (r119_.2.1, (r119_.2.2.1, r119_.2.2.2)))))))
 (.l (r26_.2.2.2.1, (r26_.2.2.2.2.1, (r26_.2.2.2.2.2, (r118_.2.2.2, (r119_.2.1, (r119_.2.2.1, r119_.2.2.2))))))))))
noncomputable def F_zcr (a1_ : Y1) (a2_ : Int) (a3_ : Int) : Option (Y1 × (Y1 × (Y1 × (Y3 × (Y1 × (Int × Int)))))) := (T_zcr a1_ a2_ a3_).ev
noncomputable def A_zcr : Sh := (.cons (.box 64 0) .nil)
noncomputable def I_zcr : List (Nat × OSh) := [(64, .cells (.cons (.dat (.slice (.int .u8))) (.cons (.dat yi) (.cons (.dat (.int .u64)) .nil))))]
noncomputable def K_zcr : RetK := { acts := [.ownB 2 0 1 3 yi, .ownB 2 1 4 3 yi, .ownB 2 2 5 3 yi, .ownB 2 3 6 28 y2, .ren 900330 1, .ren 900331 4, .ren 900332 5, .ren 902333 6], res := [.cell 2 27], sh := (.cons (.agg (.cons (.arr 1) (.cons (.arr 4) (.cons (.arr 5) (.cons (.arr 6) .nil))))) .nil), obs := [(1, .arr 3 yi), (4, .arr 3 yi), (5, .arr 3 yi), (6, .arr 28 y2), (64, .cells (.cons (.dat (.slice (.int .u8))) (.cons (.dat yi) (.cons (.dat (.int .u64)) .nil))))], pins := [(0, 0, 64)] }
noncomputable def D_zcr : FD := ⟨A_zcr, I_zcr, [.arg 0], Y1 × (Y1 × (Y1 × (Y3 × (Y1 × (Int × Int))))), fun x => F_zcr x.2.1.1 x.2.1.2.1 x.2.1.2.2.1, fun r => ([.agg [.arr 1, .arr 4, .arr 5, .arr 6]], [(1, .arr 3 yi r.1), (4, .arr 3 yi r.2.1), (5, .arr 3 yi r.2.2.1), (6, .arr 28 y2 r.2.2.2.1), (64, .cells [.dat (.slice (.int .u8)) r.2.2.2.2.1, .dat yi r.2.2.2.2.2.1, .dat (.int .u64) r.2.2.2.2.2.2])])⟩
noncomputable def E_zcr : Env := envOf [(79, D_zcm), (78, D_zcp)]
noncomputable def Z_zcr : Nat → Nat → List Nat := fun r i => match look [(1, [(3, [13])]), (8, [(2, [42])]), (11, [(0, [1000000])]), (12, [(2, [50])]), (21, [(3, [73])]), (24, [(0, [60000003])]), (29, [(2, [1000000]), (3, [102])])] r with
 | some l => (look l i).getD []
 | none => []
noncomputable def O_zcr : List (Nat × LD) := [(0, DL_zcr_0), (6, DL_zcr_6), (4, DL_zcr_4), (2, DL_zcr_2), (9, DL_zcr_9)]
noncomputable def C_zcr : Code := (f35.body).getD .skip
noncomputable def T_zcu (a1_ : Int) (a2_ : Int) : Tr (Int) :=
 .t (decide (a1_ < a2_))
 (.l a1_)
 (.l a2_)
noncomputable def F_zcu (a1_ : Int) (a2_ : Int) : Option (Int) := (T_zcu a1_ a2_).ev
noncomputable def A_zcu : Sh := (.cons (.dat yi) (.cons (.dat yi) .nil))
noncomputable def I_zcu : List (Nat × OSh) := []
noncomputable def K_zcu : RetK := { acts := [], res := [.tmp 4], sh := (.cons (.dat yi) .nil), obs := [], pins := [] }
noncomputable def D_zcu : FD := ⟨A_zcu, I_zcu, [], Int, fun x => F_zcu x.1.1 x.1.2.1, fun r => ([.dat yi r], [])⟩
noncomputable def E_zcu : Env := envOf []
noncomputable def Z_zcu : Nat → Nat → List Nat := fun _ _ => []
noncomputable def O_zcu : List (Nat × LD) := []
noncomputable def C_zcu : Code := (f76.body).getD .skip
noncomputable def S_zcy_0 (k : Int × Int) (v : Int × Y1) : Tr ((Int × Y1) ⊕ Y1) :=
 .t (decide (v.1 < k.1))
 (.g (decide ((0 : Int) ≤ v.1)) <|
 .t ((IntKind.wrap .i64 (BitVec.toNat ((BitVec.ofInt (IntKind.bits .i64) (Int.fdiv k.2 (2 ^ (min (Int.toNat v.1) (IntKind.bits .i64))))) &&& (BitVec.ofInt (IntKind.bits .i64) (1 : Int))))) == (1 : Int))
 (.g (decide ((List.length v.2 + List.length ([v.1] : Y1)) * 8 ≤ 140737488355328)) <|
 .l (.inl ((IntKind.wrap .i64 (v.1 + (1 : Int))), (v.2 ++ ([v.1] : Y1)))))
 (.l (.inl ((IntKind.wrap .i64 (v.1 + (1 : Int))), v.2))))
 (.l (.inr v.2))
noncomputable def L_zcy_0 (k : Int × Int) (v : Int × Y1) : Option Y1 := iter (fun v => (S_zcy_0 k v).ev) v
noncomputable def DL_zcy_0 : LD := ⟨{ acts := [], S := { slots := [0, 1, 5, 6], sh := (.cons (.dat yi) (.cons (.dat yi) (.cons (.arr 7) (.cons (.dat yi) .nil)))), obs := [(7, .arr 3 yi)] } }, [(0, { acts := [], S := { slots := [5], sh := (.cons (.arr 7) .nil), obs := [(7, .arr 3 yi)] } })], (yh [] .nil), Int × (Int), Int × Y1, Y1, fun k v => ((k.1, (k.2, ((), (v.1, ())))), (v.2, ())), fun t => (t.1.1, t.1.2.1), fun t => (t.1.2.2.2.1, t.2.1), S_zcy_0, fun _ r => .l (.exit 0 (mkSt ({ slots := [5], sh := (.cons (.arr 7) .nil), obs := [(7, .arr 3 yi)] }) (((), ()), (r, ()))))⟩
noncomputable def T_zcy (a1_ : Int) (a2_ : Int) : Tr Y1 :=
 .c Y1 (L_zcy_0 (a1_, a2_) ((0 : Int), ([] : Y1))) fun r6_ =>
 .l r6_
noncomputable def F_zcy (a1_ : Int) (a2_ : Int) : Option Y1 := (T_zcy a1_ a2_).ev
noncomputable def A_zcy : Sh := (.cons (.dat yi) (.cons (.dat yi) .nil))
noncomputable def I_zcy : List (Nat × OSh) := []
noncomputable def K_zcy : RetK := { acts := [.ren 7 0], res := [.tmp 4], sh := (.cons (.arr 0) .nil), obs := [(0, .arr 3 yi)], pins := [] }
noncomputable def D_zcy : FD := ⟨A_zcy, I_zcy, [], Y1, fun x => F_zcy x.1.1 x.1.2.1, fun r => ([.arr 0], [(0, .arr 3 yi r)])⟩
noncomputable def E_zcy : Env := envOf []
noncomputable def Z_zcy : Nat → Nat → List Nat := fun _ _ => []
noncomputable def O_zcy : List (Nat × LD) := [(0, DL_zcy_0)]
noncomputable def C_zcy : Code := (f77.body).getD .skip
noncomputable def T_zco (a4_ : Int) (a1_ : Y1) (a2_ : Int) (a3_ : Int) : Tr (Bool × (Y1 × (Int × Int))) :=
 .c (Int × (Y1 × (Int × Int))) (F_zcp a4_ a1_ a2_ a3_) fun r1_ =>
 .l ((r1_.1 == (0 : Int)), (r1_.2.1, (r1_.2.2.1, r1_.2.2.2)))
noncomputable def F_zco (a4_ : Int) (a1_ : Y1) (a2_ : Int) (a3_ : Int) : Option (Bool × (Y1 × (Int × Int))) := (T_zco a4_ a1_ a2_ a3_).ev
noncomputable def A_zco : Sh := (.cons (.box 64 0) (.cons (.dat yi) .nil))
noncomputable def I_zco : List (Nat × OSh) := [(64, .cells (.cons (.dat (.slice (.int .u8))) (.cons (.dat yi) (.cons (.dat (.int .u64)) .nil))))]
noncomputable def K_zco : RetK := { acts := [], res := [.tmp 4], sh := (.cons (.dat .bool) .nil), obs := [(64, .cells (.cons (.dat (.slice (.int .u8))) (.cons (.dat yi) (.cons (.dat (.int .u64)) .nil))))], pins := [(0, 0, 64)] }
noncomputable def D_zco : FD := ⟨A_zco, I_zco, [.arg 0], Bool × (Y1 × (Int × Int)), fun x => F_zco x.1.2.1 x.2.1.1 x.2.1.2.1 x.2.1.2.2.1, fun r => ([.dat .bool r.1], [(64, .cells [.dat (.slice (.int .u8)) r.2.1, .dat yi r.2.2.1, .dat (.int .u64) r.2.2.2])])⟩
noncomputable def E_zco : Env := envOf [(78, D_zcp)]
noncomputable def Z_zco : Nat → Nat → List Nat := fun _ _ => []
noncomputable def O_zco : List (Nat × LD) := []
noncomputable def C_zco : Code := (f38.body).getD .skip
noncomputable def S_zcq_0 (k : Int × (Y1 × (Y1 × (Y1 × Y3)))) (v : Int × (Y1 × (Int × (Int × Y2)))) : Tr ((Int × (Y1 × (Int × (Int × Y2)))) ⊕ (Y1 × (Int × (Int × Y2)))) :=
 .t (decide (v.1 < ((List.length k.2.2.2.2 : Nat) : Int)))
 (.g (decide ((0 : Int) ≤ k.1)) <|
 .c (Int × (Y1 × (Int × Int))) (F_zcp (IntKind.wrap .i64 ((1 : Int) * 2 ^ (min (Int.toNat k.1) (IntKind.bits .i64)))) v.2.1 v.2.2.1 v.2.2.2.1) fun r12_ =>
 .c Y1 (F_zcy k.1 (IntKind.wrap .i64 ((1 : Int) + r12_.1))) fun r13_ =>
 .t (((List.length r13_ : Nat) : Int) == (0 : Int))
 (.t (decide ((0 : Int) < k.1))
 (.c (Bool × (Y1 × (Int × Int))) (F_zco (8 : Int) r12_.2.1 r12_.2.2.1 r12_.2.2.2) fun r14_ =>
 .t (!r14_.1)
 (.c (Int × (Y1 × (Int × Int))) (F_zcp k.1 r14_.2.1 r14_.2.2.1 r14_.2.2.2) fun r15_ =>
 .g (decide ((List.length v.2.2.2.2 + 1) * 24 ≤ 140737488355328)) <|
 .l (.inl ((IntKind.wrap .i64 (v.1 + (1 : Int))), (r15_.2.1, (r15_.2.2.1, (r15_.2.2.2, (List.set (v.2.2.2.2 ++ [[]]) (List.length v.2.2.2.2) ([r15_.1] : Y1))))))))
 (.g (decide ((List.length v.2.2.2.2 + 1) * 24 ≤ 140737488355328)) <|
 .l (.inl ((IntKind.wrap .i64 (v.1 + (1 : Int))), (r14_.2.1, (r14_.2.2.1, (r14_.2.2.2, (List.set (v.2.2.2.2 ++ [[]]) (List.length v.2.2.2.2) r13_))))))))
 (.g (decide ((List.length v.2.2.2.2 + 1) * 24 ≤ 140737488355328)) <|
 .l (.inl ((IntKind.wrap .i64 (v.1 + (1 : Int))), (r12_.2.1, (r12_.2.2.1, (r12_.2.2.2, (List.set (v.2.2.2.2 ++ [[]]) (List.length v.2.2.2.2) r13_))))))))
 (.g (decide ((List.length v.2.2.2.2 + 1) * 24 ≤ 140737488355328)) <|
 .l (.inl ((IntKind.wrap .i64 (v.1 + (1 : Int))), (r12_.2.1, (r12_.2.2.1, (r12_.2.2.2, (List.set (v.2.2.2.2 ++ [[]]) (List.length v.2.2.2.2) r13_))))))))
 (.l (.inr (v.2.1, (v.2.2.1, (v.2.2.2.1, v.2.2.2.2)))))
noncomputable def L_zcq_0 (k : Int × (Y1 × (Y1 × (Y1 × Y3)))) (v : Int × (Y1 × (Int × (Int × Y2)))) : Option (Y1 × (Int × (Int × Y2))) := iter (fun v => (S_zcq_0 k v).ev) v
noncomputable def DL_zcq_0 : LD := ⟨{ acts := [], S := { slots := [0, 3, 5, 6, 7], sh := (.cons (.box 64 0) (.cons (.box 3 0) (.cons (.arr 9) (.cons (.dat yi) (.cons (.dat yi) .nil))))), obs := [(64, .cells (.cons (.dat (.slice (.int .u8))) (.cons (.dat yi) (.cons (.dat (.int .u64)) .nil)))), (3, .cells (.cons (.dat y1) (.cons (.dat y1) (.cons (.dat y1) (.cons (.dat y3) .nil))))), (9, .rows 24 3 yi)] } }, [(0, { acts := [], S := { slots := [0, 5], sh := (.cons (.box 64 0) (.cons (.arr 9) .nil)), obs := [(64, .cells (.cons (.dat (.slice (.int .u8))) (.cons (.dat yi) (.cons (.dat (.int .u64)) .nil)))), (9, .rows 24 3 yi)] } })], (yh [] .nil), Int × (Y1 × (Y1 × (Y1 × Y3))), Int × (Y1 × (Int × (Int × Y2))), Y1 × (Int × (Int × Y2)), fun k v => (((), ((), ((), (k.1, (v.1, ()))))), ((v.2.1, (v.2.2.1, (v.2.2.2.1, ()))), ((k.2.1, (k.2.2.1, (k.2.2.2.1, (k.2.2.2.2, ())))), (v.2.2.2.2, ())))), fun t => (t.1.2.2.2.1, (t.2.2.1.1, (t.2.2.1.2.1, (t.2.2.1.2.2.1, t.2.2.1.2.2.2.1)))), fun t => (t.1.2.2.2.2.1, (t.2.1.1, (t.2.1.2.1, (t.2.1.2.2.1, t.2.2.2.1)))), S_zcq_0, fun _ r => .l (.exit 0 (mkSt ({ slots := [0, 5], sh := (.cons (.box 64 0) (.cons (.arr 9) .nil)), obs := [(64, .cells (.cons (.dat (.slice (.int .u8))) (.cons (.dat yi) (.cons (.dat (.int .u64)) .nil)))), (9, .rows 24 3 yi)] }) (((), ((), ())), ((r.1, (r.2.1, (r.2.2.1, ()))), (r.2.2.2, ())))))⟩
noncomputable def T_zcq (a4_ : Y1) (a5_ : Y1) (a6_ : Y1) (a7_ : Y3) (a1_ : Y1) (a2_ : Int) (a3_ : Int) : Tr (Y2 × (Y1 × (Int × Int))) :=
 .c (Int) (F_zcu ((List.length a4_ : Nat) : Int) (5 : Int)) fun r1_ =>
 .c (Y1 × (Int × (Int × Y2))) (L_zcq_0 (r1_, (a4_, (a5_, (a6_, a7_)))) ((0 : Int), (a1_, (a2_, (a3_, ([] : List Y1)))))) fun r20_ =>
 .c (Int × (Y1 × (Int × Int))) (F_zcp (24 : Int) r20_.1 r20_.2.1 r20_.2.2.1) fun r21_ =>
 .t (r21_.1 == (0 : Int))
 (.g (decide ((List.length r20_.2.2.2 + 1) * 24 ≤ 140737488355328)) <|
 .l ((List.set (r20_.2.2.2 ++ [[]]) (List.length r20_.2.2.2) ([(0 : Int)] : Y1)), (r21_.2.1, (r21_.2.2.1, r21_.2.2.2))))
 (.t (r21_.1 == (1 : Int))
 (.t (decide ((0 : Int) < ((List.length r20_.2.2.2 : Nat) : Int)))
 (.c (Int × (Y1 × (Int × Int))) (F_zcm ([(-1 : Int), (5 : Int), (0 : Int)] : Y1) r21_.2.1 r21_.2.2.1 r21_.2.2.2) fun r22_ =>
 .g (inR (0 : Int) (List.length r20_.2.2.2)) <|
 .g (decide ((Int.toNat (0 : Int)) < List.length r20_.2.2.2)) <|
 .l ((List.set r20_.2.2.2 (Int.toNat (0 : Int)) ([r22_.1, (0 : Int)] : Y1)), (r22_.2.1, (r22_.2.2.1, r22_.2.2.2))))
 (.l (r20_.2.2.2, (r21_.2.1, (r21_.2.2.1, r21_.2.2.2)))))
 (.l (r20_.2.2.2, (r21_.2.1, (r21_.2.2.1, r21_.2.2.2)))))
noncomputable def F_zcq (a4_ : Y1) (a5_ : Y1) (a6_ : Y1) (a7_ : Y3) (a1_ : Y1) (a2_ : Int) (a3_ : Int) : Option (Y2 × (Y1 × (Int × Int))) := (T_zcq a4_ a5_ a6_ a7_ a1_ a2_ a3_).ev
noncomputable def A_zcq : Sh := (.cons (.box 64 0) (.cons (.agg (.cons (.dat y1) (.cons (.dat y1) (.cons (.dat y1) (.cons (.dat y3) .nil))))) .nil))
noncomputable def I_zcq : List (Nat × OSh) := [(64, .cells (.cons (.dat (.slice (.int .u8))) (.cons (.dat yi) (.cons (.dat (.int .u64)) .nil))))]
noncomputable def K_zcq : RetK := { acts := [.ren 9 0], res := [.tmp 4], sh := (.cons (.arr 0) .nil), obs := [(0, .rows 24 3 yi), (64, .cells (.cons (.dat (.slice (.int .u8))) (.cons (.dat yi) (.cons (.dat (.int .u64)) .nil))))], pins := [(0, 0, 64)] }
noncomputable def D_zcq : FD := ⟨A_zcq, I_zcq, [.arg 0], Y2 × (Y1 × (Int × Int)), fun x => F_zcq x.1.2.1.1 x.1.2.1.2.1 x.1.2.1.2.2.1 x.1.2.1.2.2.2.1 x.2.1.1 x.2.1.2.1 x.2.1.2.2.1, fun r => ([.arr 0], [(0, .rows 24 3 yi r.1 none), (64, .cells [.dat (.slice (.int .u8)) r.2.1, .dat yi r.2.2.1, .dat (.int .u64) r.2.2.2])])⟩
noncomputable def E_zcq : Env := envOf [(76, D_zcu), (78, D_zcp), (77, D_zcy), (38, D_zco), (79, D_zcm)]
noncomputable def Z_zcq : Nat → Nat → List Nat := fun r i => match look [(1, [(0, [1000000])]), (15, [(3, [63])])] r with
 | some l => (look l i).getD []
 | none => []
noncomputable def O_zcq : List (Nat × LD) := [(0, DL_zcq_0)]
noncomputable def C_zcq : Code := (f36.body).getD .skip
noncomputable def T_zbs (a1_ : Y1) : Tr (Y1 × (Y1 × (Y1 × (Y3 × Y2)))) :=
 .c (Y1 × (Y1 × (Y1 × (Y3 × (Y1 × (Int × Int)))))) (F_zcr a1_ (0 : Int) (0 : Int)) fun r1_ =>
 .c (Y2 × (Y1 × (Int × Int))) (F_zcq r1_.1 r1_.2.1 r1_.2.2.1 r1_.2.2.2.1 r1_.2.2.2.2.1 r1_.2.2.2.2.2.1 r1_.2.2.2.2.2.2) fun r2_ =>
 .l (r1_.1, (r1_.2.1, (r1_.2.2.1, (r1_.2.2.2.1, r2_.1))))
noncomputable def F_zbs (a1_ : Y1) : Option (Y1 × (Y1 × (Y1 × (Y3 × Y2)))) := (T_zbs a1_).ev
noncomputable def A_zbs : Sh := (.cons (.dat (.slice (.int .u8))) .nil)
noncomputable def I_zbs : List (Nat × OSh) := []
noncomputable def K_zbs : RetK := { acts := [.ren 896 1], res := [.cell 2 27, .tmp 3], sh := (.cons (.agg (.cons (.dat y1) (.cons (.dat y1) (.cons (.dat y1) (.cons (.dat y3) .nil))))) (.cons (.arr 1) .nil)), obs := [(1, .rows 24 3 yi)], pins := [] }
noncomputable def D_zbs : FD := ⟨A_zbs, I_zbs, [], Y1 × (Y1 × (Y1 × (Y3 × Y2))), fun x => F_zbs x.1.1, fun r => ([.agg [.dat y1 r.1, .dat y1 r.2.1, .dat y1 r.2.2.1, .dat y3 r.2.2.2.1], .arr 1], [(1, .rows 24 3 yi r.2.2.2.2 none)])⟩
noncomputable def E_zbs : Env := envOf [(35, D_zcr), (36, D_zcq)]
noncomputable def Z_zbs : Nat → Nat → List Nat := fun r i => match look [(3, [(0, [70000641, 70000644, 70000645, 70000646])])] r with
 | some l => (look l i).getD []
 | none => []
noncomputable def O_zbs : List (Nat × LD) := []
noncomputable def C_zbs : Code := (f56.body).getD .skip
noncomputable def T_zbu (a1_ : Y1) : Tr (Y1 × (Y1 × (Y1 × (Y3 × Y2)))) :=
 .c (Y1 × (Y1 × (Y1 × (Y3 × Y2)))) (F_zbs a1_) fun r1_ =>
 .l (r1_.1, (r1_.2.1, (r1_.2.2.1, (r1_.2.2.2.1, r1_.2.2.2.2))))
noncomputable def F_zbu (a1_ : Y1) : Option (Y1 × (Y1 × (Y1 × (Y3 × Y2)))) := (T_zbu a1_).ev
noncomputable def A_zbu : Sh := (.cons (.dat (.slice (.int .u8))) .nil)
noncomputable def I_zbu : List (Nat × OSh) := []
noncomputable def K_zbu : RetK := { acts := [.ren 321 1], res := [.cell 2 27, .tmp 3], sh := (.cons (.agg (.cons (.dat y1) (.cons (.dat y1) (.cons (.dat y1) (.cons (.dat y3) .nil))))) (.cons (.arr 1) .nil)), obs := [(1, .rows 24 3 yi)], pins := [] }
noncomputable def D_zbu : FD := ⟨A_zbu, I_zbu, [], Y1 × (Y1 × (Y1 × (Y3 × Y2))), fun x => F_zbu x.1.1, fun r => ([.agg [.dat y1 r.1, .dat y1 r.2.1, .dat y1 r.2.2.1, .dat y3 r.2.2.2.1], .arr 1], [(1, .rows 24 3 yi r.2.2.2.2 none)])⟩
noncomputable def E_zbu : Env := envOf [(56, D_zbs)]
noncomputable def Z_zbu : Nat → Nat → List Nat := fun _ _ => []
noncomputable def O_zbu : List (Nat × LD) := []
noncomputable def C_zbu : Code := (f17.body).getD .skip
noncomputable def T_zak (a1_ : Int) (a2_ : Int) (a3_ : Int) : Tr (Bool) :=
 .t (decide (a2_ ≤ a1_))
 (.l (decide (a1_ ≤ a3_)))
 (.l false)
noncomputable def F_zak (a1_ : Int) (a2_ : Int) (a3_ : Int) : Option (Bool) := (T_zak a1_ a2_ a3_).ev
noncomputable def A_zak : Sh := (.cons (.dat yi) (.cons (.dat yi) (.cons (.dat yi) .nil)))
noncomputable def I_zak : List (Nat × OSh) := []
noncomputable def K_zak : RetK := { acts := [], res := [.tmp 6], sh := (.cons (.dat .bool) .nil), obs := [], pins := [] }
noncomputable def D_zak : FD := ⟨A_zak, I_zak, [], Bool, fun x => F_zak x.1.1 x.1.2.1 x.1.2.2.1, fun r => ([.dat .bool r], [])⟩
noncomputable def E_zak : Env := envOf []
noncomputable def Z_zak : Nat → Nat → List Nat := fun _ _ => []
noncomputable def O_zak : List (Nat × LD) := []
noncomputable def C_zak : Code := (f59.body).getD .skip
noncomputable def T_zbe (a1_ : Int) : Tr Y1 :=
 .t (decide (a1_ < (0 : Int)))
 (.f)
 (.t (decide ((0 : Int) < (IntKind.wrap .i64 (a1_ - (IntKind.wrap .i64 ((0 : Int) - (0 : Int)))))))
 (.g (decide ((0 : Int) ≤ (0 : Int)) && decide ((0 : Int) ≤ ((0 : Nat) : Int))) <|
 .g (decide ((0 : Int) < (IntKind.wrap .i64 (a1_ - (IntKind.wrap .i64 ((0 : Int) - (0 : Int)))))) && decide ((IntKind.wrap .i64 (a1_ - (IntKind.wrap .i64 ((0 : Int) - (0 : Int))))) * ((8 : Nat) : Int) ≤ 281474976710656)) <|
 .g (decide ((0 : Int) ≤ (0 : Int)) && decide ((0 : Int) ≤ ((List.length (List.replicate (Int.toNat (IntKind.wrap .i64 (a1_ - (IntKind.wrap .i64 ((0 : Int) - (0 : Int)))))) (0 : Int)) : Nat) : Int))) <|
 .l (List.take (Int.toNat (0 : Int)) (List.replicate (Int.toNat (IntKind.wrap .i64 (a1_ - (IntKind.wrap .i64 ((0 : Int) - (0 : Int)))))) (0 : Int))))
 (.l ([] : Y1)))
noncomputable def F_zbe (a1_ : Int) : Option Y1 := (T_zbe a1_).ev
noncomputable def A_zbe : Sh := (.cons .nilsl (.cons (.dat yi) .nil))
noncomputable def I_zbe : List (Nat × OSh) := []
noncomputable def K_zbe : RetK := { acts := [.own 4 0 3 yi, .ren 22 0], res := [.tmp 4], sh := (.cons (.arr 0) .nil), obs := [(0, .arr 3 yi)], pins := [] }
noncomputable def D_zbe : FD := ⟨A_zbe, I_zbe, [], Y1, fun x => F_zbe x.1.2.1, fun r => ([.arr 0], [(0, .arr 3 yi r)])⟩
noncomputable def E_zbe : Env := envOf []
noncomputable def Z_zbe : Nat → Nat → List Nat := fun _ _ => []
noncomputable def O_zbe : List (Nat × LD) := []
noncomputable def C_zbe : Code := (f96.body).getD .skip
noncomputable def S_zba_0 (k : Y2 × (Y2 × Int)) (v : Int × Int) : Tr ((Int × Int) ⊕ (Int)) :=
 .t (decide (v.2 < k.2.2))
 (.g (inR v.2 (List.length k.2.1)) <|
 .t (decide ((IntKind.wrap .i64 (v.1 + ((List.length (List.getD k.2.1 (Int.toNat v.2) ([] : Y1)) : Nat) : Int))) < (0 : Int)))
 (.f)
 (.l (.inl ((IntKind.wrap .i64 (v.1 + ((List.length (List.getD k.2.1 (Int.toNat v.2) ([] : Y1)) : Nat) : Int))), (IntKind.wrap .i64 (v.2 + (1 : Int)))))))
 (.l (.inr v.1))
noncomputable def L_zba_0 (k : Y2 × (Y2 × Int)) (v : Int × Int) : Option (Int) := iter (fun v => (S_zba_0 k v).ev) v
noncomputable def DL_zba_0 : LD := ⟨(yh [0, 3, 9, 10, 11] (.cons (.dat y2) (.cons (.dat yi) (.cons (.dat y2) (.cons (.dat yi) (.cons (.dat yi) .nil)))))), [(0, (yh [0, 3] (.cons (.dat y2) (.cons (.dat yi) .nil))))], (yh [] .nil), Y2 × (Y2 × Int), Int × (Int), Int, fun k v => ((k.1, (v.1, (k.2.1, (k.2.2, (v.2, ()))))), ()), fun t => (t.1.1, (t.1.2.2.1, t.1.2.2.2.1)), fun t => (t.1.2.1, t.1.2.2.2.2.1), S_zba_0, fun k r => .l (.exit 0 (mkSt ((ys [0, 3] (.cons (.dat y2) (.cons (.dat yi) .nil)))) ((k.1, (r, ())), ())))⟩
noncomputable def S_zba_2 (k : Y2 × Int) (v : Int × Y1) : Tr ((Int × Y1) ⊕ Y1) :=
 .t (decide (v.1 < k.2))
 (.g (inR v.1 (List.length k.1)) <|
 .g (decide ((List.length v.2 + List.length (List.getD k.1 (Int.toNat v.1) ([] : Y1))) * 8 ≤ 140737488355328)) <|
 .l (.inl ((IntKind.wrap .i64 (v.1 + (1 : Int))), (v.2 ++ (List.getD k.1 (Int.toNat v.1) ([] : Y1))))))
 (.l (.inr v.2))
noncomputable def L_zba_2 (k : Y2 × Int) (v : Int × Y1) : Option Y1 := iter (fun v => (S_zba_2 k v).ev) v
noncomputable def DL_zba_2 : LD := ⟨{ acts := [], S := { slots := [6, 25, 26, 27], sh := (.cons (.arr 1536) (.cons (.dat y2) (.cons (.dat yi) (.cons (.dat yi) .nil)))), obs := [(1536, .arr 3 yi)] } }, [(2, { acts := [], S := { slots := [6], sh := (.cons (.arr 1536) .nil), obs := [(1536, .arr 3 yi)] } })], (yh [] .nil), Y2 × (Int), Int × Y1, Y1, fun k v => (((), (k.1, (k.2, (v.1, ())))), (v.2, ())), fun t => (t.1.2.1, t.1.2.2.1), fun t => (t.1.2.2.2.1, t.2.1), S_zba_2, fun _ r => .l (.exit 2 (mkSt ({ slots := [6], sh := (.cons (.arr 1536) .nil), obs := [(1536, .arr 3 yi)] }) (((), ()), (r, ()))))⟩
noncomputable def T_zba (a1_ : List Y1) : Tr Y1 :=
 .c (Int) (L_zba_0 (a1_, (a1_, ((List.length a1_ : Nat) : Int))) ((0 : Int), (0 : Int))) fun r8_ =>
 .c Y1 (F_zbe r8_) fun r9_ =>
 .c Y1 (L_zba_2 (a1_, ((List.length a1_ : Nat) : Int)) ((0 : Int), r9_)) fun r15_ =>
 .l r15_
noncomputable def F_zba (a1_ : List Y1) : Option Y1 := (T_zba a1_).ev
noncomputable def A_zba : Sh := (.cons (.dat y2) .nil)
noncomputable def I_zba : List (Nat × OSh) := []
noncomputable def K_zba : RetK := { acts := [.ren 1536 0], res := [.tmp 2], sh := (.cons (.arr 0) .nil), obs := [(0, .arr 3 yi)], pins := [] }
noncomputable def D_zba : FD := ⟨A_zba, I_zba, [], Y1, fun x => F_zba x.1.1, fun r => ([.arr 0], [(0, .arr 3 yi r)])⟩
noncomputable def E_zba : Env := envOf [(96, D_zbe)]
noncomputable def Z_zba : Nat → Nat → List Nat := fun _ _ => []
noncomputable def O_zba : List (Nat × LD) := [(0, DL_zba_0), (2, DL_zba_2)]
noncomputable def C_zba : Code := (f61.body).getD .skip
noncomputable def S_zbh_0 (k : Y1 × (((HL [yi] → Option (Bool))) × Int)) (v : Int) : Tr ((Int) ⊕ ((Unit) ⊕ (Int))) :=
 .t (decide (v < k.2.2))
 (.g (inR v (List.length k.1)) <|
 .c (Bool) (k.2.1 ((List.getD k.1 (Int.toNat v) (0 : Int)), ())) fun r5_ =>
 .t r5_
 (.l (.inr (.inr v)))
 (.l (.inl (IntKind.wrap .i64 (v + (1 : Int))))))
 (.l (.inr (.inl ())))
noncomputable def L_zbh_0 (k : Y1 × (((HL [yi] → Option (Bool))) × Int)) (v : Int) : Option ((Unit) ⊕ (Int)) := iter (fun v => (S_zbh_0 k v).ev) v
noncomputable def DL_zbh_0 : LD := ⟨(yh [0, 1, 7, 8] (.cons (.dat y1) (.cons (.clo [yi] .bool) (.cons (.dat yi) (.cons (.dat yi) .nil))))), [(0, (yh [] .nil))], (yh [4] (.cons (.dat yi) .nil)), Y1 × (((HL [yi] → Option (Bool))) × Int), Int, (Unit) ⊕ (Int), fun k v => ((k.1, (k.2.1, (k.2.2, (v, ())))), ()), fun t => (t.1.1, (t.1.2.1, t.1.2.2.1)), fun t => t.1.2.2.2.1, S_zbh_0, fun _ r => .s (Unit) (Int) r (fun _ => .l (.exit 0 (mkSt ((ys [] .nil)) ((), ())))) (fun b => .l (.ret (mkSt ((ys [4] (.cons (.dat yi) .nil))) ((b, ()), ()))))⟩
noncomputable def T_zbh (a1_ : Y1) (a2_ : (HL [yi] → Option (Bool))) : Tr (Int) :=
 .c ((Unit) ⊕ (Int)) (L_zbh_0 (a1_, (a2_, ((List.length a1_ : Nat) : Int))) (0 : Int)) fun r7_ =>
 .s (Unit) (Int) r7_
 (fun _ => .l (-1 : Int))
 (fun r9_ => .l r9_)
noncomputable def F_zbh (a1_ : Y1) (a2_ : (HL [yi] → Option (Bool))) : Option (Int) := (T_zbh a1_ a2_).ev
noncomputable def A_zbh : Sh := (.cons (.dat y1) (.cons (.clo [yi] .bool) .nil))
noncomputable def I_zbh : List (Nat × OSh) := []
noncomputable def K_zbh : RetK := { acts := [], res := [.tmp 4], sh := (.cons (.dat yi) .nil), obs := [], pins := [] }
noncomputable def D_zbh : FD := ⟨A_zbh, I_zbh, [], Int, fun x => F_zbh x.1.1 x.1.2.1, fun r => ([.dat yi r], [])⟩
noncomputable def E_zbh : Env := envOf []
noncomputable def Z_zbh : Nat → Nat → List Nat := fun _ _ => []
noncomputable def O_zbh : List (Nat × LD) := [(0, DL_zbh_0)]
noncomputable def C_zbh : Code := (f105.body).getD .skip
noncomputable def T_zbd (a1_ : Y1) (a2_ : (HL [yi] → Option (Bool))) : Tr (Bool) :=
 .c (Int) (F_zbh a1_ a2_) fun r1_ =>
 .l (decide ((0 : Int) ≤ r1_))
noncomputable def F_zbd (a1_ : Y1) (a2_ : (HL [yi] → Option (Bool))) : Option (Bool) := (T_zbd a1_ a2_).ev
noncomputable def A_zbd : Sh := (.cons (.dat y1) (.cons (.clo [yi] .bool) .nil))
noncomputable def I_zbd : List (Nat × OSh) := []
noncomputable def K_zbd : RetK := { acts := [], res := [.tmp 4], sh := (.cons (.dat .bool) .nil), obs := [], pins := [] }
noncomputable def D_zbd : FD := ⟨A_zbd, I_zbd, [], Bool, fun x => F_zbd x.1.1 x.1.2.1, fun r => ([.dat .bool r], [])⟩
noncomputable def E_zbd : Env := envOf [(105, D_zbh)]
noncomputable def Z_zbd : Nat → Nat → List Nat := fun _ _ => []
noncomputable def O_zbd : List (Nat × LD) := []
noncomputable def C_zbd : Code := (f94.body).getD .skip
noncomputable def T_zag (a1_ : Int) (a2_ : Int) (a3_ : Int) : Tr (Bool) :=
 .c (Bool) (F_zak a1_ a2_ a3_) fun r1_ =>
 .l (!r1_)
noncomputable def F_zag (a1_ : Int) (a2_ : Int) (a3_ : Int) : Option (Bool) := (T_zag a1_ a2_ a3_).ev
noncomputable def A_zag : Sh := (.cons (.dat yi) (.cons (.ptr (.cons (.dat yi) .nil)) (.cons (.ptr (.cons (.dat yi) .nil)) .nil)))
noncomputable def I_zag : List (Nat × OSh) := []
noncomputable def K_zag : RetK := { acts := [], res := [.tmp 4], sh := (.cons (.dat .bool) .nil), obs := [], pins := [] }
noncomputable def D_zag : FD := ⟨A_zag, I_zag, [], Bool, fun x => F_zag x.1.1 x.1.2.1.1 x.1.2.2.1.1, fun r => ([.dat .bool r], [])⟩
noncomputable def E_zag : Env := envOf [(59, D_zak)]
noncomputable def Z_zag : Nat → Nat → List Nat := fun _ _ => []
noncomputable def O_zag : List (Nat × LD) := []
noncomputable def C_zag : Code := (f95.body).getD .skip
noncomputable def T_zaf (a1_ : Y1) (a2_ : Int) (a3_ : Int) : Tr (Bool) :=
 .c (Bool) (F_zbd a1_ (fun h1_ => Option.bind (F_zag h1_.1 a2_ a3_) fun y2_ => some y2_)) fun r3_ =>
 .l (!r3_)
noncomputable def F_zaf (a1_ : Y1) (a2_ : Int) (a3_ : Int) : Option (Bool) := (T_zaf a1_ a2_ a3_).ev
noncomputable def A_zaf : Sh := (.cons (.dat y1) (.cons (.dat yi) (.cons (.dat yi) .nil)))
noncomputable def I_zaf : List (Nat × OSh) := []
noncomputable def K_zaf : RetK := { acts := [], res := [.tmp 6], sh := (.cons (.dat .bool) .nil), obs := [], pins := [] }
noncomputable def D_zaf : FD := ⟨A_zaf, I_zaf, [], Bool, fun x => F_zaf x.1.1 x.1.2.1 x.1.2.2.1, fun r => ([.dat .bool r], [])⟩
noncomputable def E_zaf : Env := envOf [(94, D_zbd), (94, D_zbd), (95, D_zag)]
noncomputable def Z_zaf : Nat → Nat → List Nat := fun _ _ => []
noncomputable def O_zaf : List (Nat × LD) := []
noncomputable def C_zaf : Code := (f60.body).getD .skip
noncomputable def S_zbf_0 (k : Y3 × (((HL [y2] → Option (Bool))) × Int)) (v : Int) : Tr ((Int) ⊕ ((Unit) ⊕ (Int))) :=
 .t (decide (v < k.2.2))
 (.g (inR v (List.length k.1)) <|
 .c (Bool) (k.2.1 ((List.getD k.1 (Int.toNat v) ([] : List Y1)), ())) fun r5_ =>
 .t r5_
 (.l (.inr (.inr v)))
 (.l (.inl (IntKind.wrap .i64 (v + (1 : Int))))))
 (.l (.inr (.inl ())))
noncomputable def L_zbf_0 (k : Y3 × (((HL [y2] → Option (Bool))) × Int)) (v : Int) : Option ((Unit) ⊕ (Int)) := iter (fun v => (S_zbf_0 k v).ev) v
noncomputable def DL_zbf_0 : LD := ⟨(yh [0, 1, 7, 8] (.cons (.dat y3) (.cons (.clo [y2] .bool) (.cons (.dat yi) (.cons (.dat yi) .nil))))), [(0, (yh [] .nil))], (yh [4] (.cons (.dat yi) .nil)), Y3 × (((HL [y2] → Option (Bool))) × Int), Int, (Unit) ⊕ (Int), fun k v => ((k.1, (k.2.1, (k.2.2, (v, ())))), ()), fun t => (t.1.1, (t.1.2.1, t.1.2.2.1)), fun t => t.1.2.2.2.1, S_zbf_0, fun _ r => .s (Unit) (Int) r (fun _ => .l (.exit 0 (mkSt ((ys [] .nil)) ((), ())))) (fun b => .l (.ret (mkSt ((ys [4] (.cons (.dat yi) .nil))) ((b, ()), ()))))⟩
noncomputable def T_zbf (a1_ : Y3) (a2_ : (HL [y2] → Option (Bool))) : Tr (Int) :=
 .c ((Unit) ⊕ (Int)) (L_zbf_0 (a1_, (a2_, ((List.length a1_ : Nat) : Int))) (0 : Int)) fun r7_ =>
 .s (Unit) (Int) r7_
 (fun _ => .l (-1 : Int))
 (fun r9_ => .l r9_)
noncomputable def F_zbf (a1_ : Y3) (a2_ : (HL [y2] → Option (Bool))) : Option (Int) := (T_zbf a1_ a2_).ev
noncomputable def A_zbf : Sh := (.cons (.dat y3) (.cons (.clo [y2] .bool) .nil))
noncomputable def I_zbf : List (Nat × OSh) := []
noncomputable def K_zbf : RetK := { acts := [], res := [.tmp 4], sh := (.cons (.dat yi) .nil), obs := [], pins := [] }
noncomputable def D_zbf : FD := ⟨A_zbf, I_zbf, [], Int, fun x => F_zbf x.1.1 x.1.2.1, fun r => ([.dat yi r], [])⟩
noncomputable def E_zbf : Env := envOf []
noncomputable def Z_zbf : Nat → Nat → List Nat := fun _ _ => []
noncomputable def O_zbf : List (Nat × LD) := [(0, DL_zbf_0)]
noncomputable def C_zbf : Code := (f97.body).getD .skip
noncomputable def T_zbb (a1_ : Y3) (a2_ : (HL [y2] → Option (Bool))) : Tr (Bool) :=
 .c (Int) (F_zbf a1_ a2_) fun r1_ =>
 .l (decide ((0 : Int) ≤ r1_))
noncomputable def F_zbb (a1_ : Y3) (a2_ : (HL [y2] → Option (Bool))) : Option (Bool) := (T_zbb a1_ a2_).ev
noncomputable def A_zbb : Sh := (.cons (.dat y3) (.cons (.clo [y2] .bool) .nil))
noncomputable def I_zbb : List (Nat × OSh) := []
noncomputable def K_zbb : RetK := { acts := [], res := [.tmp 4], sh := (.cons (.dat .bool) .nil), obs := [], pins := [] }
noncomputable def D_zbb : FD := ⟨A_zbb, I_zbb, [], Bool, fun x => F_zbb x.1.1 x.1.2.1, fun r => ([.dat .bool r], [])⟩
noncomputable def E_zbb : Env := envOf [(97, D_zbf)]
noncomputable def Z_zbb : Nat → Nat → List Nat := fun _ _ => []
noncomputable def O_zbb : List (Nat × LD) := []
noncomputable def C_zbb : Code := (f62.body).getD .skip
noncomputable def S_zbg_0 (k : Y2 × (((HL [y1] → Option (Bool))) × Int)) (v : Int) : Tr ((Int) ⊕ ((Unit) ⊕ (Int))) :=
 .t (decide (v < k.2.2))
 (.g (inR v (List.length k.1)) <|
 .c (Bool) (k.2.1 ((List.getD k.1 (Int.toNat v) ([] : Y1)), ())) fun r5_ =>
 .t r5_
 (.l (.inr (.inr v)))
 (.l (.inl (IntKind.wrap .i64 (v + (1 : Int))))))
 (.l (.inr (.inl ())))
noncomputable def L_zbg_0 (k : Y2 × (((HL [y1] → Option (Bool))) × Int)) (v : Int) : Option ((Unit) ⊕ (Int)) := iter (fun v => (S_zbg_0 k v).ev) v
noncomputable def DL_zbg_0 : LD := ⟨(yh [0, 1, 7, 8] (.cons (.dat y2) (.cons (.clo [y1] .bool) (.cons (.dat yi) (.cons (.dat yi) .nil))))), [(0, (yh [] .nil))], (yh [4] (.cons (.dat yi) .nil)), Y2 × (((HL [y1] → Option (Bool))) × Int), Int, (Unit) ⊕ (Int), fun k v => ((k.1, (k.2.1, (k.2.2, (v, ())))), ()), fun t => (t.1.1, (t.1.2.1, t.1.2.2.1)), fun t => t.1.2.2.2.1, S_zbg_0, fun _ r => .s (Unit) (Int) r (fun _ => .l (.exit 0 (mkSt ((ys [] .nil)) ((), ())))) (fun b => .l (.ret (mkSt ((ys [4] (.cons (.dat yi) .nil))) ((b, ()), ()))))⟩
noncomputable def T_zbg (a1_ : List Y1) (a2_ : (HL [y1] → Option (Bool))) : Tr (Int) :=
 .c ((Unit) ⊕ (Int)) (L_zbg_0 (a1_, (a2_, ((List.length a1_ : Nat) : Int))) (0 : Int)) fun r7_ =>
 .s (Unit) (Int) r7_
 (fun _ => .l (-1 : Int))
 (fun r9_ => .l r9_)
noncomputable def F_zbg (a1_ : List Y1) (a2_ : (HL [y1] → Option (Bool))) : Option (Int) := (T_zbg a1_ a2_).ev
noncomputable def A_zbg : Sh := (.cons (.dat y2) (.cons (.clo [y1] .bool) .nil))
noncomputable def I_zbg : List (Nat × OSh) := []
noncomputable def K_zbg : RetK := { acts := [], res := [.tmp 4], sh := (.cons (.dat yi) .nil), obs := [], pins := [] }
noncomputable def D_zbg : FD := ⟨A_zbg, I_zbg, [], Int, fun x => F_zbg x.1.1 x.1.2.1, fun r => ([.dat yi r], [])⟩
noncomputable def E_zbg : Env := envOf []
noncomputable def Z_zbg : Nat → Nat → List Nat := fun _ _ => []
noncomputable def O_zbg : List (Nat × LD) := [(0, DL_zbg_0)]
noncomputable def C_zbg : Code := (f98.body).getD .skip
noncomputable def T_zbc (a1_ : List Y1) (a2_ : (HL [y1] → Option (Bool))) : Tr (Bool) :=
 .c (Int) (F_zbg a1_ a2_) fun r1_ =>
 .l (decide ((0 : Int) ≤ r1_))
noncomputable def F_zbc (a1_ : List Y1) (a2_ : (HL [y1] → Option (Bool))) : Option (Bool) := (T_zbc a1_ a2_).ev
noncomputable def A_zbc : Sh := (.cons (.dat y2) (.cons (.clo [y1] .bool) .nil))
noncomputable def I_zbc : List (Nat × OSh) := []
noncomputable def K_zbc : RetK := { acts := [], res := [.tmp 4], sh := (.cons (.dat .bool) .nil), obs := [], pins := [] }
noncomputable def D_zbc : FD := ⟨A_zbc, I_zbc, [], Bool, fun x => F_zbc x.1.1 x.1.2.1, fun r => ([.dat .bool r], [])⟩
noncomputable def E_zbc : Env := envOf [(98, D_zbg)]
noncomputable def Z_zbc : Nat → Nat → List Nat := fun _ _ => []
noncomputable def O_zbc : List (Nat × LD) := []
noncomputable def C_zbc : Code := (f64.body).getD .skip
noncomputable def T_zp (a1_ : Y1) (a2_ : Int) : Tr (Bool) :=
 .t (((List.length a1_ : Nat) : Int) != a2_)
 (.l true)
 (.c (Bool) (F_zaf a1_ (0 : Int) (99 : Int)) fun r1_ =>
 .l (!r1_))
noncomputable def F_zp (a1_ : Y1) (a2_ : Int) : Option (Bool) := (T_zp a1_ a2_).ev
noncomputable def A_zp : Sh := (.cons (.dat y1) (.cons (.ptr (.cons (.dat yi) .nil)) .nil))
noncomputable def I_zp : List (Nat × OSh) := []
noncomputable def K_zp : RetK := { acts := [], res := [.tmp 3], sh := (.cons (.dat .bool) .nil), obs := [], pins := [] }
noncomputable def D_zp : FD := ⟨A_zp, I_zp, [], Bool, fun x => F_zp x.1.1 x.1.2.1.1, fun r => ([.dat .bool r], [])⟩
noncomputable def E_zp : Env := envOf [(60, D_zaf)]
noncomputable def Z_zp : Nat → Nat → List Nat := fun _ _ => []
noncomputable def O_zp : List (Nat × LD) := []
noncomputable def C_zp : Code := (f65.body).getD .skip
noncomputable def T_zo (a1_ : List Y1) (a2_ : Int) : Tr (Bool) :=
 .t (decide ((5 : Int) < ((List.length a1_ : Nat) : Int)))
 (.l true)
 (.c (Bool) (F_zbc a1_ (fun h1_ => Option.bind (F_zp h1_.1 a2_) fun y2_ => some y2_)) fun r3_ =>
 .l r3_)
noncomputable def F_zo (a1_ : List Y1) (a2_ : Int) : Option (Bool) := (T_zo a1_ a2_).ev
noncomputable def A_zo : Sh := (.cons (.dat y2) (.cons (.ptr (.cons (.dat yi) .nil)) .nil))
noncomputable def I_zo : List (Nat × OSh) := []
noncomputable def K_zo : RetK := { acts := [], res := [.tmp 3], sh := (.cons (.dat .bool) .nil), obs := [], pins := [] }
noncomputable def D_zo : FD := ⟨A_zo, I_zo, [], Bool, fun x => F_zo x.1.1 x.1.2.1.1, fun r => ([.dat .bool r], [])⟩
noncomputable def E_zo : Env := envOf [(64, D_zbc), (64, D_zbc), (65, D_zp)]
noncomputable def Z_zo : Nat → Nat → List Nat := fun _ _ => []
noncomputable def O_zo : List (Nat × LD) := []
noncomputable def C_zo : Code := (f63.body).getD .skip
noncomputable def T_zn (a1_ : Y1) (a2_ : Y1) (a3_ : Y1) (a4_ : Y3) : Tr (Bool) :=
 .c (Bool) (F_zak ((List.length a1_ : Nat) : Int) (1 : Int) (5 : Int)) fun r1_ =>
 .t (!r1_)
 (.l false)
 (.t (((List.length a2_ : Nat) : Int) != ((List.length a1_ : Nat) : Int))
 (.l false)
 (.t (((List.length a3_ : Nat) : Int) != ((List.length a1_ : Nat) : Int))
 (.l false)
 (.c Y1 (F_zba ([a1_, a2_, a3_] : List Y1)) fun r2_ =>
 .c (Bool) (F_zaf r2_ (0 : Int) (99 : Int)) fun r3_ =>
 .t (!r3_)
 (.l false)
 (.t (decide ((5 : Int) < ((List.length a4_ : Nat) : Int)))
 (.l false)
 (.c (Bool) (F_zbb a4_ (fun h4_ => Option.bind (F_zo h4_.1 ((List.length a1_ : Nat) : Int)) fun y5_ => some y5_)) fun r6_ =>
 .l (!r6_))))))
noncomputable def F_zn (a1_ : Y1) (a2_ : Y1) (a3_ : Y1) (a4_ : Y3) : Option (Bool) := (T_zn a1_ a2_ a3_ a4_).ev
noncomputable def A_zn : Sh := (.cons (.agg (.cons (.dat y1) (.cons (.dat y1) (.cons (.dat y1) (.cons (.dat y3) .nil))))) .nil)
noncomputable def I_zn : List (Nat × OSh) := []
noncomputable def K_zn : RetK := { acts := [], res := [.tmp 2], sh := (.cons (.dat .bool) .nil), obs := [], pins := [] }
noncomputable def D_zn : FD := ⟨A_zn, I_zn, [], Bool, fun x => F_zn x.1.1.1 x.1.1.2.1 x.1.1.2.2.1 x.1.1.2.2.2.1, fun r => ([.dat .bool r], [])⟩
noncomputable def E_zn : Env := envOf [(59, D_zak), (61, D_zba), (60, D_zaf), (62, D_zbb), (62, D_zbb), (63, D_zo)]
noncomputable def Z_zn : Nat → Nat → List Nat := fun _ _ => []
noncomputable def O_zn : List (Nat × LD) := []
noncomputable def C_zn : Code := (f24.body).getD .skip
noncomputable def S_zam_0 (k : Y1 × (Int × (Y1 × Int))) (v : Int) : Tr ((Int) ⊕ ((Unit) ⊕ (Unit))) :=
 .t (decide (v < k.2.2.2))
 (.g (inR v (List.length k.2.2.1)) <|
 .c (Bool) (F_zak (List.getD k.2.2.1 (Int.toNat v) (0 : Int)) (0 : Int) (IntKind.wrap .i64 (k.2.1 - (1 : Int)))) fun r6_ =>
 .t (!r6_)
 (.l (.inr (.inr ())))
 (.t (decide ((0 : Int) < v))
 (.g (inR (IntKind.wrap .i64 (v - (1 : Int))) (List.length k.1)) <|
 .t (decide ((List.getD k.2.2.1 (Int.toNat v) (0 : Int)) ≤ (List.getD k.1 (Int.toNat (IntKind.wrap .i64 (v - (1 : Int)))) (0 : Int))))
 (.l (.inr (.inr ())))
 (.l (.inl (IntKind.wrap .i64 (v + (1 : Int))))))
 (.l (.inl (IntKind.wrap .i64 (v + (1 : Int)))))))
 (.l (.inr (.inl ())))
noncomputable def L_zam_0 (k : Y1 × (Int × (Y1 × Int))) (v : Int) : Option ((Unit) ⊕ (Unit)) := iter (fun v => (S_zam_0 k v).ev) v
noncomputable def DL_zam_0 : LD := ⟨(yh [0, 1, 7, 8, 9] (.cons (.dat y1) (.cons (.dat yi) (.cons (.dat y1) (.cons (.dat yi) (.cons (.dat yi) .nil)))))), [(0, (yh [] .nil))], (yh [4] (.cons (.dat .bool) .nil)), Y1 × (Int × (Y1 × Int)), Int, (Unit) ⊕ (Unit), fun k v => ((k.1, (k.2.1, (k.2.2.1, (k.2.2.2, (v, ()))))), ()), fun t => (t.1.1, (t.1.2.1, (t.1.2.2.1, t.1.2.2.2.1))), fun t => t.1.2.2.2.2.1, S_zam_0, fun _ r => .s (Unit) (Unit) r (fun _ => .l (.exit 0 (mkSt ((ys [] .nil)) ((), ())))) (fun _ => .l (.ret (mkSt ((ys [4] (.cons (.dat .bool) .nil))) ((false, ()), ()))))⟩
noncomputable def T_zam (a1_ : Y1) (a2_ : Int) : Tr (Bool) :=
 .c ((Unit) ⊕ (Unit)) (L_zam_0 (a1_, (a2_, (a1_, ((List.length a1_ : Nat) : Int)))) (0 : Int)) fun r8_ =>
 .s (Unit) (Unit) r8_
 (fun _ => .l true)
 (fun _ => .l false)
noncomputable def F_zam (a1_ : Y1) (a2_ : Int) : Option (Bool) := (T_zam a1_ a2_).ev
noncomputable def A_zam : Sh := (.cons (.dat y1) (.cons (.dat yi) .nil))
noncomputable def I_zam : List (Nat × OSh) := []
noncomputable def K_zam : RetK := { acts := [], res := [.tmp 4], sh := (.cons (.dat .bool) .nil), obs := [], pins := [] }
noncomputable def D_zam : FD := ⟨A_zam, I_zam, [], Bool, fun x => F_zam x.1.1 x.1.2.1, fun r => ([.dat .bool r], [])⟩
noncomputable def E_zam : Env := envOf [(59, D_zak)]
noncomputable def Z_zam : Nat → Nat → List Nat := fun _ _ => []
noncomputable def O_zam : List (Nat × LD) := [(0, DL_zam_0)]
noncomputable def C_zam : Code := (f80.body).getD .skip
noncomputable def T_zy (a1_ : Y1) (_a2_ : Y1) (_a3_ : Y1) (a4_ : Y3) (a5_ : Int) (a6_ : Y1) : Tr (Bool) :=
 .c (Bool) (F_zam a6_ ((List.length a1_ : Nat) : Int)) fun r1_ =>
 .t r1_
 (.t (decide ((0 : Int) < ((List.length a6_ : Nat) : Int)))
 (.l true)
 (.g (inR a5_ (List.length a4_)) <|
 .l (((List.length (List.getD a4_ (Int.toNat a5_) ([] : List Y1)) : Nat) : Int) == (0 : Int))))
 (.l false)
noncomputable def F_zy (a1_ : Y1) (a2_ : Y1) (a3_ : Y1) (a4_ : Y3) (a5_ : Int) (a6_ : Y1) : Option (Bool) := (T_zy a1_ a2_ a3_ a4_ a5_ a6_).ev
noncomputable def A_zy : Sh := (.cons (.agg (.cons (.dat y1) (.cons (.dat y1) (.cons (.dat y1) (.cons (.dat y3) .nil))))) (.cons (.dat yi) (.cons (.dat y1) .nil)))
noncomputable def I_zy : List (Nat × OSh) := []
noncomputable def K_zy : RetK := { acts := [], res := [.tmp 6], sh := (.cons (.dat .bool) .nil), obs := [], pins := [] }
noncomputable def D_zy : FD := ⟨A_zy, I_zy, [], Bool, fun x => F_zy x.1.1.1 x.1.1.2.1 x.1.1.2.2.1 x.1.1.2.2.2.1 x.1.2.1 x.1.2.2.1, fun r => ([.dat .bool r], [])⟩
noncomputable def E_zy : Env := envOf [(80, D_zam)]
noncomputable def Z_zy : Nat → Nat → List Nat := fun _ _ => []
noncomputable def O_zy : List (Nat × LD) := []
noncomputable def C_zy : Code := (f81.body).getD .skip
noncomputable def S_zx_0 (k : Y2 × (Int × (Y1 × (Y1 × (Y1 × Y3))))) (v : Int) : Tr ((Int) ⊕ ((Unit) ⊕ (Unit))) :=
 .t (decide (v < k.2.1))
 (.g (inR v (List.length k.1)) <|
 .c (Bool) (F_zy k.2.2.1 k.2.2.2.1 k.2.2.2.2.1 k.2.2.2.2.2 v (List.getD k.1 (Int.toNat v) ([] : Y1))) fun r8_ =>
 .t (!r8_)
 (.l (.inr (.inr ())))
 (.l (.inl (IntKind.wrap .i64 (v + (1 : Int))))))
 (.l (.inr (.inl ())))
noncomputable def L_zx_0 (k : Y2 × (Int × (Y1 × (Y1 × (Y1 × Y3))))) (v : Int) : Option ((Unit) ⊕ (Unit)) := iter (fun v => (S_zx_0 k v).ev) v
noncomputable def DL_zx_0 : LD := ⟨{ acts := [], S := { slots := [2, 13, 14, 15], sh := (.cons (.box 2 0) (.cons (.dat y2) (.cons (.dat yi) (.cons (.dat yi) .nil)))), obs := [(2, .cells (.cons (.dat y1) (.cons (.dat y1) (.cons (.dat y1) (.cons (.dat y3) .nil)))))] } }, [(0, (yh [] .nil))], (yh [4] (.cons (.dat .bool) .nil)), Y2 × (Int × (Y1 × (Y1 × (Y1 × Y3)))), Int, (Unit) ⊕ (Unit), fun k v => (((), (k.1, (k.2.1, (v, ())))), ((k.2.2.1, (k.2.2.2.1, (k.2.2.2.2.1, (k.2.2.2.2.2, ())))), ())), fun t => (t.1.2.1, (t.1.2.2.1, (t.2.1.1, (t.2.1.2.1, (t.2.1.2.2.1, t.2.1.2.2.2.1))))), fun t => t.1.2.2.2.1, S_zx_0, fun _ r => .s (Unit) (Unit) r (fun _ => .l (.exit 0 (mkSt ((ys [] .nil)) ((), ())))) (fun _ => .l (.ret (mkSt ((ys [4] (.cons (.dat .bool) .nil))) ((false, ()), ()))))⟩
noncomputable def T_zx (a1_ : Y1) (a2_ : Y1) (a3_ : Y1) (a4_ : Y3) (a5_ : List Y1) : Tr (Bool) :=
 .t (((List.length a5_ : Nat) : Int) != ((List.length a4_ : Nat) : Int))
 (.l false)
 (.c ((Unit) ⊕ (Unit)) (L_zx_0 (a5_, (((List.length a5_ : Nat) : Int), (a1_, (a2_, (a3_, a4_))))) (0 : Int)) fun r10_ =>
 .s (Unit) (Unit) r10_
 (fun _ => .l true)
 (fun _ => .l false))
noncomputable def F_zx (a1_ : Y1) (a2_ : Y1) (a3_ : Y1) (a4_ : Y3) (a5_ : List Y1) : Option (Bool) := (T_zx a1_ a2_ a3_ a4_ a5_).ev
noncomputable def A_zx : Sh := (.cons (.agg (.cons (.dat y1) (.cons (.dat y1) (.cons (.dat y1) (.cons (.dat y3) .nil))))) (.cons (.dat y2) .nil))
noncomputable def I_zx : List (Nat × OSh) := []
noncomputable def K_zx : RetK := { acts := [], res := [.tmp 4], sh := (.cons (.dat .bool) .nil), obs := [], pins := [] }
noncomputable def D_zx : FD := ⟨A_zx, I_zx, [], Bool, fun x => F_zx x.1.1.1 x.1.1.2.1 x.1.1.2.2.1 x.1.1.2.2.2.1 x.1.2.1, fun r => ([.dat .bool r], [])⟩
noncomputable def E_zx : Env := envOf [(81, D_zy)]
noncomputable def Z_zx : Nat → Nat → List Nat := fun _ _ => []
noncomputable def O_zx : List (Nat × LD) := [(0, DL_zx_0)]
noncomputable def C_zx : Code := (f58.body).getD .skip
noncomputable def T_zm (a1_ : Y1) (a2_ : Y1) (a3_ : Y1) (a4_ : Y3) (a5_ : List Y1) : Tr (Bool × (Bool)) :=
 .c (Bool) (F_zn a1_ a2_ a3_ a4_) fun r1_ =>
 .t (!r1_)
 (.l (false, false))
 (.c (Bool) (F_zx a1_ a2_ a3_ a4_ a5_) fun r2_ =>
 .l (r2_, true))
noncomputable def F_zm (a1_ : Y1) (a2_ : Y1) (a3_ : Y1) (a4_ : Y3) (a5_ : List Y1) : Option (Bool × (Bool)) := (T_zm a1_ a2_ a3_ a4_ a5_).ev
noncomputable def A_zm : Sh := (.cons (.agg (.cons (.dat y1) (.cons (.dat y1) (.cons (.dat y1) (.cons (.dat y3) .nil))))) (.cons (.dat y2) .nil))
noncomputable def I_zm : List (Nat × OSh) := []
noncomputable def K_zm : RetK := { acts := [], res := [.tmp 4, .tmp 5], sh := (.cons (.dat .bool) (.cons (.dat .bool) .nil)), obs := [], pins := [] }
noncomputable def D_zm : FD := ⟨A_zm, I_zm, [], Bool × (Bool), fun x => F_zm x.1.1.1 x.1.1.2.1 x.1.1.2.2.1 x.1.1.2.2.2.1 x.1.2.1, fun r => ([.dat .bool r.1, .dat .bool r.2], [])⟩
noncomputable def E_zm : Env := envOf [(24, D_zn), (58, D_zx)]
noncomputable def Z_zm : Nat → Nat → List Nat := fun _ _ => []
noncomputable def O_zm : List (Nat × LD) := []
noncomputable def C_zm : Code := (f22.body).getD .skip
noncomputable def S_zah_0 (k : Y1 × Int) (v : Int × Int) : Tr ((Int × Int) ⊕ (Int)) :=
 .t (decide (v.2 < k.2))
 (.g (inR v.2 (List.length k.1)) <|
 .g (decide ((0 : Int) ≤ (List.getD k.1 (Int.toNat v.2) (0 : Int)))) <|
 .l (.inl ((IntKind.wrap .u64 (BitVec.toNat ((BitVec.ofInt (IntKind.bits .u64) v.1) ||| (BitVec.ofInt (IntKind.bits .u64) (IntKind.wrap .u64 ((1 : Int) * 2 ^ (min (Int.toNat (List.getD k.1 (Int.toNat v.2) (0 : Int))) (IntKind.bits .u64)))))))), (IntKind.wrap .i64 (v.2 + (1 : Int))))))
 (.l (.inr v.1))
noncomputable def L_zah_0 (k : Y1 × Int) (v : Int × Int) : Option (Int) := iter (fun v => (S_zah_0 k v).ev) v
noncomputable def DL_zah_0 : LD := ⟨(yh [3, 6, 7, 8] (.cons (.dat (.int .u64)) (.cons (.dat y1) (.cons (.dat yi) (.cons (.dat yi) .nil))))), [(0, (yh [3] (.cons (.dat (.int .u64)) .nil)))], (yh [] .nil), Y1 × (Int), Int × (Int), Int, fun k v => ((v.1, (k.1, (k.2, (v.2, ())))), ()), fun t => (t.1.2.1, t.1.2.2.1), fun t => (t.1.1, t.1.2.2.2.1), S_zah_0, fun _ r => .l (.exit 0 (mkSt ((ys [3] (.cons (.dat (.int .u64)) .nil))) ((r, ()), ())))⟩
noncomputable def T_zah (a1_ : Y1) : Tr (Int) :=
 .c (Int) (L_zah_0 (a1_, ((List.length a1_ : Nat) : Int)) ((0 : Int), (0 : Int))) fun r6_ =>
 .l r6_
noncomputable def F_zah (a1_ : Y1) : Option (Int) := (T_zah a1_).ev
noncomputable def A_zah : Sh := (.cons (.dat y1) .nil)
noncomputable def I_zah : List (Nat × OSh) := []
noncomputable def K_zah : RetK := { acts := [], res := [.tmp 2], sh := (.cons (.dat (.int .u64)) .nil), obs := [], pins := [] }
noncomputable def D_zah : FD := ⟨A_zah, I_zah, [], Int, fun x => F_zah x.1.1, fun r => ([.dat (.int .u64) r], [])⟩
noncomputable def E_zah : Env := envOf []
noncomputable def Z_zah : Nat → Nat → List Nat := fun _ _ => []
noncomputable def O_zah : List (Nat × LD) := [(0, DL_zah_0)]
noncomputable def C_zah : Code := (f53.body).getD .skip
noncomputable def T_zai (a1_ : Int) (a2_ : Int) : Tr (Bool) :=
 .g (decide ((0 : Int) ≤ a2_)) <|
 .l ((IntKind.wrap .u64 (BitVec.toNat ((BitVec.ofInt (IntKind.bits .u64) (Int.fdiv a1_ (2 ^ (min (Int.toNat a2_) (IntKind.bits .u64))))) &&& (BitVec.ofInt (IntKind.bits .u64) (1 : Int))))) == (1 : Int))
noncomputable def F_zai (a1_ : Int) (a2_ : Int) : Option (Bool) := (T_zai a1_ a2_).ev
noncomputable def A_zai : Sh := (.cons (.dat (.int .u64)) (.cons (.dat yi) .nil))
noncomputable def I_zai : List (Nat × OSh) := []
noncomputable def K_zai : RetK := { acts := [], res := [.tmp 4], sh := (.cons (.dat .bool) .nil), obs := [], pins := [] }
noncomputable def D_zai : FD := ⟨A_zai, I_zai, [], Bool, fun x => F_zai x.1.1 x.1.2.1, fun r => ([.dat .bool r], [])⟩
noncomputable def E_zai : Env := envOf []
noncomputable def Z_zai : Nat → Nat → List Nat := fun _ _ => []
noncomputable def O_zai : List (Nat × LD) := []
noncomputable def C_zai : Code := (f92.body).getD .skip
noncomputable def S_zi_0 (k : Int × (Y1 × (Int × (Y1 × Y2)))) (v : Int × Int) : Tr ((Int × Int) ⊕ (Int)) :=
 .t (decide (v.2 < k.2.2.1))
 (.g (inR v.2 (List.length k.2.1)) <|
 .g (inR k.1 (List.length k.2.2.2.2)) <|
 .g (inR (List.getD k.2.1 (Int.toNat v.2) (0 : Int)) (List.length (List.getD k.2.2.2.2 (Int.toNat k.1) ([] : Y1)))) <|
 .g (inR k.1 (List.length k.2.2.2.2)) <|
 .g (inR v.1 (List.length (List.getD k.2.2.2.2 (Int.toNat k.1) ([] : Y1)))) <|
 .t (decide ((List.getD (List.getD k.2.2.2.2 (Int.toNat k.1) ([] : Y1)) (Int.toNat (List.getD k.2.1 (Int.toNat v.2) (0 : Int))) (0 : Int)) < (List.getD (List.getD k.2.2.2.2 (Int.toNat k.1) ([] : Y1)) (Int.toNat v.1) (0 : Int))))
 (.l (.inl ((List.getD k.2.1 (Int.toNat v.2) (0 : Int)), (IntKind.wrap .i64 (v.2 + (1 : Int))))))
 (.l (.inl (v.1, (IntKind.wrap .i64 (v.2 + (1 : Int)))))))
 (.l (.inr v.1))
noncomputable def L_zi_0 (k : Int × (Y1 × (Int × (Y1 × Y2)))) (v : Int × Int) : Option (Int) := iter (fun v => (S_zi_0 k v).ev) v
noncomputable def DL_zi_0 : LD := ⟨{ acts := [], S := { slots := [1, 3, 7, 13, 14, 15], sh := (.cons (.dat yi) (.cons (.box 3 0) (.cons (.dat yi) (.cons (.dat y1) (.cons (.dat yi) (.cons (.dat yi) .nil)))))), obs := [(3, .cells (.cons (.dat y1) (.cons (.dat y2) .nil)))] } }, [(0, (yh [7] (.cons (.dat yi) .nil)))], (yh [] .nil), Int × (Y1 × (Int × (Y1 × Y2))), Int × (Int), Int, fun k v => ((k.1, ((), (v.1, (k.2.1, (k.2.2.1, (v.2, ())))))), ((k.2.2.2.1, (k.2.2.2.2, ())), ())), fun t => (t.1.1, (t.1.2.2.2.1, (t.1.2.2.2.2.1, (t.2.1.1, t.2.1.2.1)))), fun t => (t.1.2.2.1, t.1.2.2.2.2.2.1), S_zi_0, fun _ r => .l (.exit 0 (mkSt ((ys [7] (.cons (.dat yi) .nil))) ((r, ()), ())))⟩
noncomputable def T_zi (a1_ : Y1) (a2_ : List Y1) (a3_ : Int) (a4_ : Y1) : Tr (Int) :=
 .g (inR (0 : Int) (List.length a4_)) <|
 .c (Int) (L_zi_0 (a3_, (a4_, (((List.length a4_ : Nat) : Int), (a1_, a2_)))) ((List.getD a4_ (Int.toNat (0 : Int)) (0 : Int)), (0 : Int))) fun r9_ =>
 .l r9_
noncomputable def F_zi (a1_ : Y1) (a2_ : List Y1) (a3_ : Int) (a4_ : Y1) : Option (Int) := (T_zi a1_ a2_ a3_ a4_).ev
noncomputable def A_zi : Sh := (.cons (.agg (.cons (.dat y1) (.cons (.dat y2) .nil))) (.cons (.dat yi) (.cons (.dat y1) .nil)))
noncomputable def I_zi : List (Nat × OSh) := []
noncomputable def K_zi : RetK := { acts := [], res := [.tmp 6], sh := (.cons (.dat yi) .nil), obs := [], pins := [] }
noncomputable def D_zi : FD := ⟨A_zi, I_zi, [], Int, fun x => F_zi x.1.1.1 x.1.1.2.1 x.1.2.1 x.1.2.2.1, fun r => ([.dat yi r], [])⟩
noncomputable def E_zi : Env := envOf []
noncomputable def Z_zi : Nat → Nat → List Nat := fun _ _ => []
noncomputable def O_zi : List (Nat × LD) := [(0, DL_zi_0)]
noncomputable def C_zi : Code := (f117.body).getD .skip
noncomputable def S_zh_0 (k : Y1 × (Int × (Y1 × Y2))) (v : Int × Y1) : Tr ((Int × Y1) ⊕ Y1) :=
 .t (decide (v.1 < k.2.1))
 (.c (Int) (F_zi k.2.2.1 k.2.2.2 v.1 k.1) fun r7_ =>
 .g (decide ((List.length v.2 + List.length ([r7_] : Y1)) * 8 ≤ 140737488355328)) <|
 .l (.inl ((IntKind.wrap .i64 (v.1 + (1 : Int))), (v.2 ++ ([r7_] : Y1)))))
 (.l (.inr v.2))
noncomputable def L_zh_0 (k : Y1 × (Int × (Y1 × Y2))) (v : Int × Y1) : Option Y1 := iter (fun v => (S_zh_0 k v).ev) v
noncomputable def DL_zh_0 : LD := ⟨{ acts := [], S := { slots := [1, 2, 5, 10, 11], sh := (.cons (.dat y1) (.cons (.box 2 0) (.cons (.arr 7) (.cons (.dat yi) (.cons (.dat yi) .nil))))), obs := [(2, .cells (.cons (.dat y1) (.cons (.dat y2) .nil))), (7, .arr 3 yi)] } }, [(0, { acts := [], S := { slots := [5], sh := (.cons (.arr 7) .nil), obs := [(7, .arr 3 yi)] } })], (yh [] .nil), Y1 × (Int × (Y1 × Y2)), Int × Y1, Y1, fun k v => ((k.1, ((), ((), (k.2.1, (v.1, ()))))), ((k.2.2.1, (k.2.2.2, ())), (v.2, ()))), fun t => (t.1.1, (t.1.2.2.2.1, (t.2.1.1, t.2.1.2.1))), fun t => (t.1.2.2.2.2.1, t.2.2.1), S_zh_0, fun _ r => .l (.exit 0 (mkSt ({ slots := [5], sh := (.cons (.arr 7) .nil), obs := [(7, .arr 3 yi)] }) (((), ()), (r, ()))))⟩
noncomputable def T_zh (a1_ : Y1) (a2_ : List Y1) (a3_ : Y1) : Tr Y1 :=
 .c Y1 (L_zh_0 (a3_, (((List.length a2_ : Nat) : Int), (a1_, a2_))) ((0 : Int), ([] : Y1))) fun r9_ =>
 .l r9_
noncomputable def F_zh (a1_ : Y1) (a2_ : List Y1) (a3_ : Y1) : Option Y1 := (T_zh a1_ a2_ a3_).ev
noncomputable def A_zh : Sh := (.cons (.agg (.cons (.dat y1) (.cons (.dat y2) .nil))) (.cons (.dat y1) .nil))
noncomputable def I_zh : List (Nat × OSh) := []
noncomputable def K_zh : RetK := { acts := [.ren 7 0], res := [.tmp 4], sh := (.cons (.arr 0) .nil), obs := [(0, .arr 3 yi)], pins := [] }
noncomputable def D_zh : FD := ⟨A_zh, I_zh, [], Y1, fun x => F_zh x.1.1.1 x.1.1.2.1 x.1.2.1, fun r => ([.arr 0], [(0, .arr 3 yi r)])⟩
noncomputable def E_zh : Env := envOf [(117, D_zi)]
noncomputable def Z_zh : Nat → Nat → List Nat := fun _ _ => []
noncomputable def O_zh : List (Nat × LD) := [(0, DL_zh_0)]
noncomputable def C_zh : Code := (f110.body).getD .skip
noncomputable def S_zg_0 (k : Int × (Y1 × (Y2 × Y1))) (v : Int × Y1) : Tr ((Int × Y1) ⊕ Y1) :=
 .t (decide (v.1 < k.1))
 (.g (inR v.1 (List.length k.2.2.2)) <|
 .g (decide ((Int.toNat v.1) < List.length k.2.2.2)) <|
 .g (inR v.1 (List.length k.2.2.1)) <|
 .g (inR (List.getD k.2.2.2 (Int.toNat v.1) (0 : Int)) (List.length (List.getD k.2.2.1 (Int.toNat v.1) ([] : Y1)))) <|
 .g (decide ((List.length v.2 + List.length ([(List.getD (List.getD k.2.2.1 (Int.toNat v.1) ([] : Y1)) (Int.toNat (List.getD k.2.2.2 (Int.toNat v.1) (0 : Int))) (0 : Int))] : Y1)) * 8 ≤ 140737488355328)) <|
 .l (.inl ((IntKind.wrap .i64 (v.1 + (1 : Int))), (v.2 ++ ([(List.getD (List.getD k.2.2.1 (Int.toNat v.1) ([] : Y1)) (Int.toNat (List.getD k.2.2.2 (Int.toNat v.1) (0 : Int))) (0 : Int))] : Y1)))))
 (.l (.inr v.2))
noncomputable def L_zg_0 (k : Int × (Y1 × (Y2 × Y1))) (v : Int × Y1) : Option Y1 := iter (fun v => (S_zg_0 k v).ev) v
noncomputable def DL_zg_0 : LD := ⟨{ acts := [], S := { slots := [2, 5, 11, 12, 13], sh := (.cons (.box 2 0) (.cons (.arr 8) (.cons (.arr 704) (.cons (.dat yi) (.cons (.dat yi) .nil))))), obs := [(2, .cells (.cons (.dat y1) (.cons (.dat y2) .nil))), (8, .arr 3 yi), (704, .arr 3 yi)] } }, [(0, { acts := [], S := { slots := [5], sh := (.cons (.arr 8) .nil), obs := [(8, .arr 3 yi)] } })], (yh [] .nil), Int × (Y1 × (Y2 × Y1)), Int × Y1, Y1, fun k v => (((), ((), ((), (k.1, (v.1, ()))))), ((k.2.1, (k.2.2.1, ())), (v.2, (k.2.2.2, ())))), fun t => (t.1.2.2.2.1, (t.2.1.1, (t.2.1.2.1, t.2.2.2.1))), fun t => (t.1.2.2.2.2.1, t.2.2.1), S_zg_0, fun _ r => .l (.exit 0 (mkSt ({ slots := [5], sh := (.cons (.arr 8) .nil), obs := [(8, .arr 3 yi)] }) (((), ()), (r, ()))))⟩
noncomputable def T_zg (a1_ : Y1) (a2_ : List Y1) (a3_ : Y1) : Tr Y1 :=
 .c Y1 (F_zh a1_ a2_ a3_) fun r1_ =>
 .c Y1 (L_zg_0 (((List.length r1_ : Nat) : Int), (a1_, (a2_, r1_))) ((0 : Int), ([] : Y1))) fun r9_ =>
 .l r9_
noncomputable def F_zg (a1_ : Y1) (a2_ : List Y1) (a3_ : Y1) : Option Y1 := (T_zg a1_ a2_ a3_).ev
noncomputable def A_zg : Sh := (.cons (.agg (.cons (.dat y1) (.cons (.dat y2) .nil))) (.cons (.dat y1) .nil))
noncomputable def I_zg : List (Nat × OSh) := []
noncomputable def K_zg : RetK := { acts := [.ren 8 0], res := [.tmp 4], sh := (.cons (.arr 0) .nil), obs := [(0, .arr 3 yi)], pins := [] }
noncomputable def D_zg : FD := ⟨A_zg, I_zg, [], Y1, fun x => F_zg x.1.1.1 x.1.1.2.1 x.1.2.1, fun r => ([.arr 0], [(0, .arr 3 yi r)])⟩
noncomputable def E_zg : Env := envOf [(110, D_zh)]
noncomputable def Z_zg : Nat → Nat → List Nat := fun _ _ => []
noncomputable def O_zg : List (Nat × LD) := [(0, DL_zg_0)]
noncomputable def C_zg : Code := (f104.body).getD .skip
noncomputable def S_zaq_0 (k : Y1 × Int) (v : Int × Int) : Tr ((Int × Int) ⊕ (Int)) :=
 .t (decide (v.2 < k.2))
 (.g (inR v.2 (List.length k.1)) <|
 .l (.inl ((IntKind.wrap .i64 (v.1 + (List.getD k.1 (Int.toNat v.2) (0 : Int)))), (IntKind.wrap .i64 (v.2 + (1 : Int))))))
 (.l (.inr v.1))
noncomputable def L_zaq_0 (k : Y1 × Int) (v : Int × Int) : Option (Int) := iter (fun v => (S_zaq_0 k v).ev) v
noncomputable def DL_zaq_0 : LD := ⟨(yh [3, 6, 7, 8] (.cons (.dat yi) (.cons (.dat y1) (.cons (.dat yi) (.cons (.dat yi) .nil))))), [(0, (yh [3] (.cons (.dat yi) .nil)))], (yh [] .nil), Y1 × (Int), Int × (Int), Int, fun k v => ((v.1, (k.1, (k.2, (v.2, ())))), ()), fun t => (t.1.2.1, t.1.2.2.1), fun t => (t.1.1, t.1.2.2.2.1), S_zaq_0, fun _ r => .l (.exit 0 (mkSt ((ys [3] (.cons (.dat yi) .nil))) ((r, ()), ())))⟩
noncomputable def T_zaq (a1_ : Y1) : Tr (Int) :=
 .c (Int) (L_zaq_0 (a1_, ((List.length a1_ : Nat) : Int)) ((0 : Int), (0 : Int))) fun r6_ =>
 .l r6_
noncomputable def F_zaq (a1_ : Y1) : Option (Int) := (T_zaq a1_).ev
noncomputable def A_zaq : Sh := (.cons (.dat y1) .nil)
noncomputable def I_zaq : List (Nat × OSh) := []
noncomputable def K_zaq : RetK := { acts := [], res := [.tmp 2], sh := (.cons (.dat yi) .nil), obs := [], pins := [] }
noncomputable def D_zaq : FD := ⟨A_zaq, I_zaq, [], Int, fun x => F_zaq x.1.1, fun r => ([.dat yi r], [])⟩
noncomputable def E_zaq : Env := envOf []
noncomputable def Z_zaq : Nat → Nat → List Nat := fun _ _ => []
noncomputable def O_zaq : List (Nat × LD) := [(0, DL_zaq_0)]
noncomputable def C_zaq : Code := (f55.body).getD .skip
noncomputable def T_zj (a1_ : Y1) (a2_ : List Y1) (a3_ : Y1) : Tr (Int) :=
 .c Y1 (F_zg a1_ a2_ a3_) fun r1_ =>
 .c (Int) (F_zaq r1_) fun r2_ =>
 .l r2_
noncomputable def F_zj (a1_ : Y1) (a2_ : List Y1) (a3_ : Y1) : Option (Int) := (T_zj a1_ a2_ a3_).ev
noncomputable def A_zj : Sh := (.cons (.agg (.cons (.dat y1) (.cons (.dat y2) .nil))) (.cons (.dat y1) .nil))
noncomputable def I_zj : List (Nat × OSh) := []
noncomputable def K_zj : RetK := { acts := [], res := [.tmp 4], sh := (.cons (.dat yi) .nil), obs := [], pins := [] }
noncomputable def D_zj : FD := ⟨A_zj, I_zj, [], Int, fun x => F_zj x.1.1.1 x.1.1.2.1 x.1.2.1, fun r => ([.dat yi r], [])⟩
noncomputable def E_zj : Env := envOf [(104, D_zg), (55, D_zaq)]
noncomputable def Z_zj : Nat → Nat → List Nat := fun _ _ => []
noncomputable def O_zj : List (Nat × LD) := []
noncomputable def C_zj : Code := (f93.body).getD .skip
noncomputable def S_zz_0 (k : Int × (Y1 × (Int × (Int × (Int × (Y1 × (Y1 × (Y1 × Y3)))))))) (v : Int × Int) : Tr ((Int × Int) ⊕ (Int)) :=
 .t (decide (v.2 < k.2.2.2.2.1))
 (.c (Bool) (F_zai k.2.2.2.1 v.2) fun r14_ =>
 .t r14_
 (.c (Bool) (F_zai k.2.2.1 v.2) fun r15_ =>
 .t (!r15_)
 (.g (inR v.2 (List.length k.2.2.2.2.2.1)) <|
 .c (Bool) (F_zai k.2.2.2.1 v.2) fun r16_ =>
 .t r16_
 (.g (inR v.2 (List.length k.2.2.2.2.2.2.2.1)) <|
 .l (.inl ((IntKind.wrap .i64 ((IntKind.wrap .i64 (v.1 + (List.getD k.2.2.2.2.2.1 (Int.toNat v.2) (0 : Int)))) + (List.getD k.2.2.2.2.2.2.2.1 (Int.toNat v.2) (0 : Int)))), (IntKind.wrap .i64 (v.2 + (1 : Int))))))
 (.l (.inl ((IntKind.wrap .i64 (v.1 + (List.getD k.2.2.2.2.2.1 (Int.toNat v.2) (0 : Int)))), (IntKind.wrap .i64 (v.2 + (1 : Int)))))))
 (.c (Bool) (F_zai k.2.2.1 v.2) fun r17_ =>
 .t r17_
 (.c (Bool) (F_zai k.2.2.2.1 v.2) fun r18_ =>
 .t (!r18_)
 (.g (inR v.2 (List.length k.2.2.2.2.2.2.1)) <|
 .c (Bool) (F_zai k.2.2.2.1 v.2) fun r19_ =>
 .t r19_
 (.g (inR v.2 (List.length k.2.2.2.2.2.2.2.1)) <|
 .l (.inl ((IntKind.wrap .i64 ((IntKind.wrap .i64 (v.1 + (List.getD k.2.2.2.2.2.2.1 (Int.toNat v.2) (0 : Int)))) + (List.getD k.2.2.2.2.2.2.2.1 (Int.toNat v.2) (0 : Int)))), (IntKind.wrap .i64 (v.2 + (1 : Int))))))
 (.l (.inl ((IntKind.wrap .i64 (v.1 + (List.getD k.2.2.2.2.2.2.1 (Int.toNat v.2) (0 : Int)))), (IntKind.wrap .i64 (v.2 + (1 : Int)))))))
 (.c (Bool) (F_zai k.2.2.2.1 v.2) fun r20_ =>
 .t r20_
 (.g (inR v.2 (List.length k.2.2.2.2.2.2.2.1)) <|
 .l (.inl ((IntKind.wrap .i64 (v.1 + (List.getD k.2.2.2.2.2.2.2.1 (Int.toNat v.2) (0 : Int)))), (IntKind.wrap .i64 (v.2 + (1 : Int))))))
 (.l (.inl (v.1, (IntKind.wrap .i64 (v.2 + (1 : Int))))))))
 (.c (Bool) (F_zai k.2.2.2.1 v.2) fun r21_ =>
 .t r21_
 (.g (inR v.2 (List.length k.2.2.2.2.2.2.2.1)) <|
 .l (.inl ((IntKind.wrap .i64 (v.1 + (List.getD k.2.2.2.2.2.2.2.1 (Int.toNat v.2) (0 : Int)))), (IntKind.wrap .i64 (v.2 + (1 : Int))))))
 (.l (.inl (v.1, (IntKind.wrap .i64 (v.2 + (1 : Int)))))))))
 (.c (Bool) (F_zai k.2.2.1 v.2) fun r22_ =>
 .t r22_
 (.c (Bool) (F_zai k.2.2.2.1 v.2) fun r23_ =>
 .t (!r23_)
 (.g (inR v.2 (List.length k.2.2.2.2.2.2.1)) <|
 .c (Bool) (F_zai k.2.2.2.1 v.2) fun r24_ =>
 .t r24_
 (.g (inR v.2 (List.length k.2.2.2.2.2.2.2.1)) <|
 .l (.inl ((IntKind.wrap .i64 ((IntKind.wrap .i64 (v.1 + (List.getD k.2.2.2.2.2.2.1 (Int.toNat v.2) (0 : Int)))) + (List.getD k.2.2.2.2.2.2.2.1 (Int.toNat v.2) (0 : Int)))), (IntKind.wrap .i64 (v.2 + (1 : Int))))))
 (.l (.inl ((IntKind.wrap .i64 (v.1 + (List.getD k.2.2.2.2.2.2.1 (Int.toNat v.2) (0 : Int)))), (IntKind.wrap .i64 (v.2 + (1 : Int)))))))
 (.c (Bool) (F_zai k.2.2.2.1 v.2) fun r25_ =>
 .t r25_
 (.g (inR v.2 (List.length k.2.2.2.2.2.2.2.1)) <|
 .l (.inl ((IntKind.wrap .i64 (v.1 + (List.getD k.2.2.2.2.2.2.2.1 (Int.toNat v.2) (0 : Int)))), (IntKind.wrap .i64 (v.2 + (1 : Int))))))
 (.l (.inl (v.1, (IntKind.wrap .i64 (v.2 + (1 : Int))))))))
 (.c (Bool) (F_zai k.2.2.2.1 v.2) fun r26_ =>
 .t r26_
 (.g (inR v.2 (List.length k.2.2.2.2.2.2.2.1)) <|
 .l (.inl ((IntKind.wrap .i64 (v.1 + (List.getD k.2.2.2.2.2.2.2.1 (Int.toNat v.2) (0 : Int)))), (IntKind.wrap .i64 (v.2 + (1 : Int))))))
 (.l (.inl (v.1, (IntKind.wrap .i64 (v.2 + (1 : Int)))))))))
 (.l (.inr v.1))
noncomputable def L_zz_0 (k : Int × (Y1 × (Int × (Int × (Int × (Y1 × (Y1 × (Y1 × Y3)))))))) (v : Int × Int) : Option (Int) := iter (fun v => (S_zz_0 k v).ev) v
noncomputable def DL_zz_0 : LD := ⟨{ acts := [], S := { slots := [1, 3, 4, 9, 10, 11, 19, 20], sh := (.cons (.dat yi) (.cons (.dat y1) (.cons (.box 4 0) (.cons (.dat (.int .u64)) (.cons (.dat (.int .u64)) (.cons (.dat yi) (.cons (.dat yi) (.cons (.dat yi) .nil)))))))), obs := [(4, .cells (.cons (.dat y1) (.cons (.dat y1) (.cons (.dat y1) (.cons (.dat y3) .nil)))))] } }, [(0, { acts := [], S := { slots := [1, 3, 4, 11], sh := (.cons (.dat yi) (.cons (.dat y1) (.cons (.box 4 0) (.cons (.dat yi) .nil)))), obs := [(4, .cells (.cons (.dat y1) (.cons (.dat y1) (.cons (.dat y1) (.cons (.dat y3) .nil)))))] } })], (yh [] .nil), Int × (Y1 × (Int × (Int × (Int × (Y1 × (Y1 × (Y1 × Y3))))))), Int × (Int), Int, fun k v => ((k.1, (k.2.1, ((), (k.2.2.1, (k.2.2.2.1, (v.1, (k.2.2.2.2.1, (v.2, ())))))))), ((k.2.2.2.2.2.1, (k.2.2.2.2.2.2.1, (k.2.2.2.2.2.2.2.1, (k.2.2.2.2.2.2.2.2, ())))), ())), fun t => (t.1.1, (t.1.2.1, (t.1.2.2.2.1, (t.1.2.2.2.2.1, (t.1.2.2.2.2.2.2.1, (t.2.1.1, (t.2.1.2.1, (t.2.1.2.2.1, t.2.1.2.2.2.1)))))))), fun t => (t.1.2.2.2.2.2.1, t.1.2.2.2.2.2.2.2.1), S_zz_0, fun k r => .l (.exit 0 (mkSt ({ slots := [1, 3, 4, 11], sh := (.cons (.dat yi) (.cons (.dat y1) (.cons (.box 4 0) (.cons (.dat yi) .nil)))), obs := [(4, .cells (.cons (.dat y1) (.cons (.dat y1) (.cons (.dat y1) (.cons (.dat y3) .nil)))))] }) ((k.1, (k.2.1, ((), (r, ())))), ((k.2.2.2.2.2.1, (k.2.2.2.2.2.2.1, (k.2.2.2.2.2.2.2.1, (k.2.2.2.2.2.2.2.2, ())))), ()))))⟩
noncomputable def T_zz (a1_ : Y1) (a2_ : Y1) (a3_ : Y1) (a4_ : Y3) (a5_ : Int) (a6_ : Y1) (a7_ : Y1) : Tr (Int) :=
 .c (Int) (F_zah a6_) fun r1_ =>
 .c (Int) (F_zah a7_) fun r2_ =>
 .c (Int) (L_zz_0 (a5_, (a7_, (r1_, (r2_, (((List.length a1_ : Nat) : Int), (a1_, (a2_, (a3_, a4_)))))))) ((0 : Int), (0 : Int))) fun r34_ =>
 .t (decide ((0 : Int) < ((List.length a7_ : Nat) : Int)))
 (.g (inR a5_ (List.length a4_)) <|
 .c (Int) (F_zj a1_ (List.getD a4_ (Int.toNat a5_) ([] : List Y1)) a7_) fun r35_ =>
 .l (IntKind.wrap .i64 (r34_ + r35_)))
 (.l r34_)
noncomputable def F_zz (a1_ : Y1) (a2_ : Y1) (a3_ : Y1) (a4_ : Y3) (a5_ : Int) (a6_ : Y1) (a7_ : Y1) : Option (Int) := (T_zz a1_ a2_ a3_ a4_ a5_ a6_ a7_).ev
noncomputable def A_zz : Sh := (.cons (.agg (.cons (.dat y1) (.cons (.dat y1) (.cons (.dat y1) (.cons (.dat y3) .nil))))) (.cons (.dat yi) (.cons (.dat y1) (.cons (.dat y1) .nil))))
noncomputable def I_zz : List (Nat × OSh) := []
noncomputable def K_zz : RetK := { acts := [], res := [.tmp 8], sh := (.cons (.dat yi) .nil), obs := [], pins := [] }
noncomputable def D_zz : FD := ⟨A_zz, I_zz, [], Int, fun x => F_zz x.1.1.1 x.1.1.2.1 x.1.1.2.2.1 x.1.1.2.2.2.1 x.1.2.1 x.1.2.2.1 x.1.2.2.2.1, fun r => ([.dat yi r], [])⟩
noncomputable def E_zz : Env := envOf [(53, D_zah), (92, D_zai), (93, D_zj)]
noncomputable def Z_zz : Nat → Nat → List Nat := fun _ _ => []
noncomputable def O_zz : List (Nat × LD) := [(0, DL_zz_0)]
noncomputable def C_zz : Code := (f52.body).getD .skip
noncomputable def S_zaa_0 (k : Y2 × (Int × (Y1 × (Y1 × (Y1 × Y3))))) (v : Y1 × (Int × Y1)) : Tr ((Y1 × (Int × Y1)) ⊕ Y1) :=
 .t (decide (v.2.1 < k.2.1))
 (.g (inR v.2.1 (List.length k.1)) <|
 .c (Int) (F_zz k.2.2.1 k.2.2.2.1 k.2.2.2.2.1 k.2.2.2.2.2 v.2.1 v.1 (List.getD k.1 (Int.toNat v.2.1) ([] : Y1))) fun r20_ =>
 .g (decide ((List.length v.2.2 + List.length ([r20_] : Y1)) * 8 ≤ 140737488355328)) <|
 .l (.inl ((List.getD k.1 (Int.toNat v.2.1) ([] : Y1)), ((IntKind.wrap .i64 (v.2.1 + (1 : Int))), (v.2.2 ++ ([r20_] : Y1))))))
 (.l (.inr v.2.2))
noncomputable def L_zaa_0 (k : Y2 × (Int × (Y1 × (Y1 × (Y1 × Y3))))) (v : Y1 × (Int × Y1)) : Option Y1 := iter (fun v => (S_zaa_0 k v).ev) v
noncomputable def DL_zaa_0 : LD := ⟨{ acts := [.fz 10], S := { slots := [2, 5, 6, 11, 12, 13], sh := (.cons (.box 2 0) (.cons (.arr 9) (.cons (.dat y1) (.cons (.dat y2) (.cons (.dat yi) (.cons (.dat yi) .nil)))))), obs := [(2, .cells (.cons (.dat y1) (.cons (.dat y1) (.cons (.dat y1) (.cons (.dat y3) .nil))))), (9, .arr 3 yi)] } }, [(0, { acts := [], S := { slots := [5], sh := (.cons (.arr 9) .nil), obs := [(9, .arr 3 yi)] } })], (yh [] .nil), Y2 × (Int × (Y1 × (Y1 × (Y1 × Y3)))), Y1 × (Int × Y1), Y1, fun k v => (((), ((), (v.1, (k.1, (k.2.1, (v.2.1, ())))))), ((k.2.2.1, (k.2.2.2.1, (k.2.2.2.2.1, (k.2.2.2.2.2, ())))), (v.2.2, ()))), fun t => (t.1.2.2.2.1, (t.1.2.2.2.2.1, (t.2.1.1, (t.2.1.2.1, (t.2.1.2.2.1, t.2.1.2.2.2.1))))), fun t => (t.1.2.2.1, (t.1.2.2.2.2.2.1, t.2.2.1)), S_zaa_0, fun _ r => .l (.exit 0 (mkSt ({ slots := [5], sh := (.cons (.arr 9) .nil), obs := [(9, .arr 3 yi)] }) (((), ()), (r, ()))))⟩
noncomputable def T_zaa (a1_ : Y1) (a2_ : Y1) (a3_ : Y1) (a4_ : Y3) (a5_ : List Y1) : Tr Y1 :=
 .c Y1 (L_zaa_0 (a5_, (((List.length a5_ : Nat) : Int), (a1_, (a2_, (a3_, a4_))))) (([] : Y1), ((0 : Int), ([] : Y1)))) fun r22_ =>
 .l r22_
noncomputable def F_zaa (a1_ : Y1) (a2_ : Y1) (a3_ : Y1) (a4_ : Y3) (a5_ : List Y1) : Option Y1 := (T_zaa a1_ a2_ a3_ a4_ a5_).ev
noncomputable def A_zaa : Sh := (.cons (.agg (.cons (.dat y1) (.cons (.dat y1) (.cons (.dat y1) (.cons (.dat y3) .nil))))) (.cons (.dat y2) .nil))
noncomputable def I_zaa : List (Nat × OSh) := []
noncomputable def K_zaa : RetK := { acts := [.ren 9 0], res := [.tmp 4], sh := (.cons (.arr 0) .nil), obs := [(0, .arr 3 yi)], pins := [] }
noncomputable def D_zaa : FD := ⟨A_zaa, I_zaa, [], Y1, fun x => F_zaa x.1.1.1 x.1.1.2.1 x.1.1.2.2.1 x.1.1.2.2.2.1 x.1.2.1, fun r => ([.arr 0], [(0, .arr 3 yi r)])⟩
noncomputable def E_zaa : Env := envOf [(52, D_zz)]
noncomputable def Z_zaa : Nat → Nat → List Nat := fun _ _ => []
noncomputable def O_zaa : List (Nat × LD) := [(0, DL_zaa_0)]
noncomputable def C_zaa : Code := (f57.body).getD .skip
noncomputable def T_zs (a1_ : Y1) (a2_ : Y1) (a3_ : Y1) (a4_ : Y3) (a5_ : List Y1) : Tr (Bool × Y1) :=
 .c (Bool × (Bool)) (F_zm a1_ a2_ a3_ a4_ a5_) fun r1_ =>
 .t (!r1_.1)
 (.l (false, ([] : Y1)))
 (.c Y1 (F_zaa a1_ a2_ a3_ a4_ a5_) fun r2_ =>
 .l (true, r2_))
noncomputable def F_zs (a1_ : Y1) (a2_ : Y1) (a3_ : Y1) (a4_ : Y3) (a5_ : List Y1) : Option (Bool × Y1) := (T_zs a1_ a2_ a3_ a4_ a5_).ev
noncomputable def A_zs : Sh := (.cons (.agg (.cons (.dat y1) (.cons (.dat y1) (.cons (.dat y1) (.cons (.dat y3) .nil))))) (.cons (.dat y2) .nil))
noncomputable def I_zs : List (Nat × OSh) := []
noncomputable def K_zs : RetK := { acts := [.own 4 0 3 yi, .ren 1152 0], res := [.tmp 4, .tmp 5], sh := (.cons (.arr 0) (.cons (.dat .bool) .nil)), obs := [(0, .arr 3 yi)], pins := [] }
noncomputable def D_zs : FD := ⟨A_zs, I_zs, [], Bool × Y1, fun x => F_zs x.1.1.1 x.1.1.2.1 x.1.1.2.2.1 x.1.1.2.2.2.1 x.1.2.1, fun r => ([.arr 0, .dat .bool r.1], [(0, .arr 3 yi r.2)])⟩
noncomputable def E_zs : Env := envOf [(22, D_zm), (57, D_zaa)]
noncomputable def Z_zs : Nat → Nat → List Nat := fun _ _ => []
noncomputable def O_zs : List (Nat × LD) := []
noncomputable def C_zs : Code := (f19.body).getD .skip
noncomputable def T_zr (a1_ : Y1) (a2_ : Y1) (a3_ : Y1) (a4_ : Y3) (a5_ : List Y1) : Tr (Int × (Bool)) :=
 .c (Bool × Y1) (F_zs a1_ a2_ a3_ a4_ a5_) fun r1_ =>
 .c (Int) (F_zaq r1_.2) fun r2_ =>
 .l (r2_, r1_.1)
noncomputable def F_zr (a1_ : Y1) (a2_ : Y1) (a3_ : Y1) (a4_ : Y3) (a5_ : List Y1) : Option (Int × (Bool)) := (T_zr a1_ a2_ a3_ a4_ a5_).ev
noncomputable def A_zr : Sh := (.cons (.agg (.cons (.dat y1) (.cons (.dat y1) (.cons (.dat y1) (.cons (.dat y3) .nil))))) (.cons (.dat y2) .nil))
noncomputable def I_zr : List (Nat × OSh) := []
noncomputable def K_zr : RetK := { acts := [], res := [.tmp 4, .tmp 5], sh := (.cons (.dat yi) (.cons (.dat .bool) .nil)), obs := [], pins := [] }
noncomputable def D_zr : FD := ⟨A_zr, I_zr, [], Int × (Bool), fun x => F_zr x.1.1.1 x.1.1.2.1 x.1.1.2.2.1 x.1.1.2.2.2.1 x.1.2.1, fun r => ([.dat yi r.1, .dat .bool r.2], [])⟩
noncomputable def E_zr : Env := envOf [(19, D_zs), (55, D_zaq)]
noncomputable def Z_zr : Nat → Nat → List Nat := fun _ _ => []
noncomputable def O_zr : List (Nat × LD) := []
noncomputable def C_zr : Code := (f16.body).getD .skip
noncomputable def T_zct (a1_ : Int) (a2_ : Int) (a3_ : Int) : Tr (Bool) :=
 .t (decide (a2_ ≤ a1_))
 (.l (decide (a1_ ≤ a3_)))
 (.l false)
noncomputable def F_zct (a1_ : Int) (a2_ : Int) (a3_ : Int) : Option (Bool) := (T_zct a1_ a2_ a3_).ev
noncomputable def A_zct : Sh := (.cons (.dat yi) (.cons (.dat yi) (.cons (.dat yi) .nil)))
noncomputable def I_zct : List (Nat × OSh) := []
noncomputable def K_zct : RetK := { acts := [], res := [.tmp 6], sh := (.cons (.dat .bool) .nil), obs := [], pins := [] }
noncomputable def D_zct : FD := ⟨A_zct, I_zct, [], Bool, fun x => F_zct x.1.1 x.1.2.1 x.1.2.2.1, fun r => ([.dat .bool r], [])⟩
noncomputable def E_zct : Env := envOf []
noncomputable def Z_zct : Nat → Nat → List Nat := fun _ _ => []
noncomputable def O_zct : List (Nat × LD) := []
noncomputable def C_zct : Code := (f82.body).getD .skip
noncomputable def S_zda_0 (k : Y1 × (Int × Int)) (v : Int) : Tr ((Int) ⊕ ((Unit) ⊕ (Unit))) :=
 .t (decide (v < ((List.length k.1 : Nat) : Int)))
 (.g (inR v (List.length k.1)) <|
 .c (Bool) (F_zct (List.getD k.1 (Int.toNat v) (0 : Int)) (0 : Int) k.2.2) fun r5_ =>
 .t (!r5_)
 (.l (.inr (.inr ())))
 (.l (.inl (IntKind.wrap .i64 (v + (1 : Int))))))
 (.l (.inr (.inl ())))
noncomputable def L_zda_0 (k : Y1 × (Int × Int)) (v : Int) : Option ((Unit) ⊕ (Unit)) := iter (fun v => (S_zda_0 k v).ev) v
noncomputable def DL_zda_0 : LD := ⟨(yh [0, 1, 2, 7] (.cons (.dat y1) (.cons (.dat yi) (.cons (.dat yi) (.cons (.dat yi) .nil))))), [(0, (yh [0, 1] (.cons (.dat y1) (.cons (.dat yi) .nil))))], (yh [6] (.cons (.dat .bool) .nil)), Y1 × (Int × Int), Int, (Unit) ⊕ (Unit), fun k v => ((k.1, (k.2.1, (k.2.2, (v, ())))), ()), fun t => (t.1.1, (t.1.2.1, t.1.2.2.1)), fun t => t.1.2.2.2.1, S_zda_0, fun k r => .s (Unit) (Unit) r (fun _ => .l (.exit 0 (mkSt ((ys [0, 1] (.cons (.dat y1) (.cons (.dat yi) .nil)))) ((k.1, (k.2.1, ())), ())))) (fun _ => .l (.ret (mkSt ((ys [6] (.cons (.dat .bool) .nil))) ((false, ()), ()))))⟩
noncomputable def T_zda (a1_ : Y1) (a2_ : Int) (a3_ : Int) : Tr (Bool) :=
 .c ((Unit) ⊕ (Unit)) (L_zda_0 (a1_, (a2_, a3_)) (0 : Int)) fun r9_ =>
 .s (Unit) (Unit) r9_
 (fun _ => .l (((List.length a1_ : Nat) : Int) == a2_))
 (fun _ => .l false)
noncomputable def F_zda (a1_ : Y1) (a2_ : Int) (a3_ : Int) : Option (Bool) := (T_zda a1_ a2_ a3_).ev
noncomputable def A_zda : Sh := (.cons (.dat y1) (.cons (.dat yi) (.cons (.dat yi) .nil)))
noncomputable def I_zda : List (Nat × OSh) := []
noncomputable def K_zda : RetK := { acts := [], res := [.tmp 6], sh := (.cons (.dat .bool) .nil), obs := [], pins := [] }
noncomputable def D_zda : FD := ⟨A_zda, I_zda, [], Bool, fun x => F_zda x.1.1 x.1.2.1 x.1.2.2.1, fun r => ([.dat .bool r], [])⟩
noncomputable def E_zda : Env := envOf [(82, D_zct)]
noncomputable def Z_zda : Nat → Nat → List Nat := fun _ _ => []
noncomputable def O_zda : List (Nat × LD) := [(0, DL_zda_0)]
noncomputable def C_zda : Code := (f84.body).getD .skip
noncomputable def S_zce_2 (k : Int × (Int × (Y1 × (Y1 × (Y1 × Y3))))) (v : Int) : Tr ((Int) ⊕ ((Unit) ⊕ (Unit))) :=
 .g (inR k.2.1 (List.length k.2.2.2.2.2)) <|
 .t (decide (v < ((List.length (List.getD k.2.2.2.2.2 (Int.toNat k.2.1) ([] : List Y1)) : Nat) : Int)))
 (.g (inR k.2.1 (List.length k.2.2.2.2.2)) <|
 .g (inR v (List.length (List.getD k.2.2.2.2.2 (Int.toNat k.2.1) ([] : List Y1)))) <|
 .c (Bool) (F_zda (List.getD (List.getD k.2.2.2.2.2 (Int.toNat k.2.1) ([] : List Y1)) (Int.toNat v) ([] : Y1)) k.1 (99 : Int)) fun r14_ =>
 .t (!r14_)
 (.l (.inr (.inr ())))
 (.l (.inl (IntKind.wrap .i64 (v + (1 : Int))))))
 (.l (.inr (.inl ())))
noncomputable def L_zce_2 (k : Int × (Int × (Y1 × (Y1 × (Y1 × Y3))))) (v : Int) : Option ((Unit) ⊕ (Unit)) := iter (fun v => (S_zce_2 k v).ev) v
noncomputable def DL_zce_2 : LD := ⟨{ acts := [], S := { slots := [1, 3, 4, 5], sh := (.cons (.box 1 0) (.cons (.dat yi) (.cons (.dat yi) (.cons (.dat yi) .nil)))), obs := [(1, .cells (.cons (.dat y1) (.cons (.dat y1) (.cons (.dat y1) (.cons (.dat y3) .nil)))))] } }, [(2, { acts := [], S := { slots := [1, 3, 4], sh := (.cons (.box 1 0) (.cons (.dat yi) (.cons (.dat yi) .nil))), obs := [(1, .cells (.cons (.dat y1) (.cons (.dat y1) (.cons (.dat y1) (.cons (.dat y3) .nil)))))] } })], (yh [2] (.cons (.dat .bool) .nil)), Int × (Int × (Y1 × (Y1 × (Y1 × Y3)))), Int, (Unit) ⊕ (Unit), fun k v => (((), (k.1, (k.2.1, (v, ())))), ((k.2.2.1, (k.2.2.2.1, (k.2.2.2.2.1, (k.2.2.2.2.2, ())))), ())), fun t => (t.1.2.1, (t.1.2.2.1, (t.2.1.1, (t.2.1.2.1, (t.2.1.2.2.1, t.2.1.2.2.2.1))))), fun t => t.1.2.2.2.1, S_zce_2, fun k r => .s (Unit) (Unit) r (fun _ => .l (.exit 2 (mkSt ({ slots := [1, 3, 4], sh := (.cons (.box 1 0) (.cons (.dat yi) (.cons (.dat yi) .nil))), obs := [(1, .cells (.cons (.dat y1) (.cons (.dat y1) (.cons (.dat y1) (.cons (.dat y3) .nil)))))] }) (((), (k.1, (k.2.1, ()))), ((k.2.2.1, (k.2.2.2.1, (k.2.2.2.2.1, (k.2.2.2.2.2, ())))), ()))))) (fun _ => .l (.ret (mkSt ((ys [2] (.cons (.dat .bool) .nil))) ((false, ()), ()))))⟩
noncomputable def S_zce_0 (k : Int × (Y1 × (Y1 × (Y1 × Y3)))) (v : Int) : Tr ((Int) ⊕ ((Unit) ⊕ (Unit))) :=
 .t (decide (v < ((List.length k.2.2.2.2 : Nat) : Int)))
 (.c ((Unit) ⊕ (Unit)) (L_zce_2 (k.1, (v, (k.2.1, (k.2.2.1, (k.2.2.2.1, k.2.2.2.2))))) (0 : Int)) fun r22_ =>
 .s (Unit) (Unit) r22_
 (fun _ => .g (inR v (List.length k.2.2.2.2)) <|
 .t (decide ((5 : Int) < ((List.length (List.getD k.2.2.2.2 (Int.toNat v) ([] : List Y1)) : Nat) : Int)))
 (.l (.inr (.inr ())))
 (.l (.inl (IntKind.wrap .i64 (v + (1 : Int))))))
 (fun _ => .l (.inr (.inr ()))))
 (.l (.inr (.inl ())))
noncomputable def L_zce_0 (k : Int × (Y1 × (Y1 × (Y1 × Y3)))) (v : Int) : Option ((Unit) ⊕ (Unit)) := iter (fun v => (S_zce_0 k v).ev) v
noncomputable def DL_zce_0 : LD := ⟨{ acts := [], S := { slots := [1, 3, 4], sh := (.cons (.box 1 0) (.cons (.dat yi) (.cons (.dat yi) .nil))), obs := [(1, .cells (.cons (.dat y1) (.cons (.dat y1) (.cons (.dat y1) (.cons (.dat y3) .nil)))))] } }, [(0, { acts := [], S := { slots := [1, 3], sh := (.cons (.box 1 0) (.cons (.dat yi) .nil)), obs := [(1, .cells (.cons (.dat y1) (.cons (.dat y1) (.cons (.dat y1) (.cons (.dat y3) .nil)))))] } })], (yh [2] (.cons (.dat .bool) .nil)), Int × (Y1 × (Y1 × (Y1 × Y3))), Int, (Unit) ⊕ (Unit), fun k v => (((), (k.1, (v, ()))), ((k.2.1, (k.2.2.1, (k.2.2.2.1, (k.2.2.2.2, ())))), ())), fun t => (t.1.2.1, (t.2.1.1, (t.2.1.2.1, (t.2.1.2.2.1, t.2.1.2.2.2.1)))), fun t => t.1.2.2.1, S_zce_0, fun k r => .s (Unit) (Unit) r (fun _ => .l (.exit 0 (mkSt ({ slots := [1, 3], sh := (.cons (.box 1 0) (.cons (.dat yi) .nil)), obs := [(1, .cells (.cons (.dat y1) (.cons (.dat y1) (.cons (.dat y1) (.cons (.dat y3) .nil)))))] }) (((), (k.1, ())), ((k.2.1, (k.2.2.1, (k.2.2.2.1, (k.2.2.2.2, ())))), ()))))) (fun _ => .l (.ret (mkSt ((ys [2] (.cons (.dat .bool) .nil))) ((false, ()), ()))))⟩
noncomputable def T_zce (a1_ : Y1) (a2_ : Y1) (a3_ : Y1) (a4_ : Y3) : Tr (Bool) :=
 .c ((Unit) ⊕ (Unit)) (L_zce_0 (((List.length a1_ : Nat) : Int), (a1_, (a2_, (a3_, a4_)))) (0 : Int)) fun r31_ =>
 .s (Unit) (Unit) r31_
 (fun _ => .c (Bool) (F_zct ((List.length a1_ : Nat) : Int) (1 : Int) (5 : Int)) fun r34_ =>
 .t r34_
 (.c (Bool) (F_zda a1_ ((List.length a1_ : Nat) : Int) (99 : Int)) fun r35_ =>
 .t r35_
 (.c (Bool) (F_zda a2_ ((List.length a1_ : Nat) : Int) (99 : Int)) fun r36_ =>
 .t r36_
 (.c (Bool) (F_zda a3_ ((List.length a1_ : Nat) : Int) (99 : Int)) fun r37_ =>
 .t r37_
 (.l (decide (((List.length a4_ : Nat) : Int) ≤ (5 : Int))))
 (.l false))
 (.l false))
 (.l false))
 (.l false))
 (fun _ => .l false)
noncomputable def F_zce (a1_ : Y1) (a2_ : Y1) (a3_ : Y1) (a4_ : Y3) : Option (Bool) := (T_zce a1_ a2_ a3_ a4_).ev
noncomputable def A_zce : Sh := (.cons (.agg (.cons (.dat y1) (.cons (.dat y1) (.cons (.dat y1) (.cons (.dat y3) .nil))))) .nil)
noncomputable def I_zce : List (Nat × OSh) := []
noncomputable def K_zce : RetK := { acts := [], res := [.tmp 2], sh := (.cons (.dat .bool) .nil), obs := [], pins := [] }
noncomputable def D_zce : FD := ⟨A_zce, I_zce, [], Bool, fun x => F_zce x.1.1.1 x.1.1.2.1 x.1.1.2.2.1 x.1.1.2.2.2.1, fun r => ([.dat .bool r], [])⟩
noncomputable def E_zce : Env := envOf [(84, D_zda), (82, D_zct)]
noncomputable def Z_zce : Nat → Nat → List Nat := fun _ _ => []
noncomputable def O_zce : List (Nat × LD) := [(2, DL_zce_2), (0, DL_zce_0)]
noncomputable def C_zce : Code := (f37.body).getD .skip
noncomputable def S_zcw_0 (k : Y1 × (Int × Int)) (v : Int) : Tr ((Int) ⊕ ((Unit) ⊕ (Unit))) :=
 .t (decide (v < ((List.length k.1 : Nat) : Int)))
 (.g (inR v (List.length k.1)) <|
 .c (Bool) (F_zct (List.getD k.1 (Int.toNat v) (0 : Int)) k.2.1 k.2.2) fun r5_ =>
 .t (!r5_)
 (.l (.inr (.inr ())))
 (.t (decide ((0 : Int) < v))
 (.g (inR (IntKind.wrap .i64 (v - (1 : Int))) (List.length k.1)) <|
 .g (inR v (List.length k.1)) <|
 .t (decide ((List.getD k.1 (Int.toNat v) (0 : Int)) ≤ (List.getD k.1 (Int.toNat (IntKind.wrap .i64 (v - (1 : Int)))) (0 : Int))))
 (.l (.inr (.inr ())))
 (.l (.inl (IntKind.wrap .i64 (v + (1 : Int))))))
 (.l (.inl (IntKind.wrap .i64 (v + (1 : Int)))))))
 (.l (.inr (.inl ())))
noncomputable def L_zcw_0 (k : Y1 × (Int × Int)) (v : Int) : Option ((Unit) ⊕ (Unit)) := iter (fun v => (S_zcw_0 k v).ev) v
noncomputable def DL_zcw_0 : LD := ⟨(yh [0, 1, 2, 7] (.cons (.dat y1) (.cons (.dat yi) (.cons (.dat yi) (.cons (.dat yi) .nil))))), [(0, (yh [] .nil))], (yh [6] (.cons (.dat .bool) .nil)), Y1 × (Int × Int), Int, (Unit) ⊕ (Unit), fun k v => ((k.1, (k.2.1, (k.2.2, (v, ())))), ()), fun t => (t.1.1, (t.1.2.1, t.1.2.2.1)), fun t => t.1.2.2.2.1, S_zcw_0, fun _ r => .s (Unit) (Unit) r (fun _ => .l (.exit 0 (mkSt ((ys [] .nil)) ((), ())))) (fun _ => .l (.ret (mkSt ((ys [6] (.cons (.dat .bool) .nil))) ((false, ()), ()))))⟩
noncomputable def T_zcw (a1_ : Y1) (a2_ : Int) (a3_ : Int) : Tr (Bool) :=
 .c ((Unit) ⊕ (Unit)) (L_zcw_0 (a1_, (a2_, a3_)) (0 : Int)) fun r7_ =>
 .s (Unit) (Unit) r7_
 (fun _ => .l true)
 (fun _ => .l false)
noncomputable def F_zcw (a1_ : Y1) (a2_ : Int) (a3_ : Int) : Option (Bool) := (T_zcw a1_ a2_ a3_).ev
noncomputable def A_zcw : Sh := (.cons (.dat y1) (.cons (.dat yi) (.cons (.dat yi) .nil)))
noncomputable def I_zcw : List (Nat × OSh) := []
noncomputable def K_zcw : RetK := { acts := [], res := [.tmp 6], sh := (.cons (.dat .bool) .nil), obs := [], pins := [] }
noncomputable def D_zcw : FD := ⟨A_zcw, I_zcw, [], Bool, fun x => F_zcw x.1.1 x.1.2.1 x.1.2.2.1, fun r => ([.dat .bool r], [])⟩
noncomputable def E_zcw : Env := envOf [(82, D_zct)]
noncomputable def Z_zcw : Nat → Nat → List Nat := fun _ _ => []
noncomputable def O_zcw : List (Nat × LD) := [(0, DL_zcw_0)]
noncomputable def C_zcw : Code := (f83.body).getD .skip
noncomputable def T_zcf (a1_ : Y1) (_a2_ : Y1) (_a3_ : Y1) (a4_ : Y3) (a5_ : Int) (a6_ : Y1) : Tr (Bool) :=
 .c (Bool) (F_zcw a6_ (0 : Int) (IntKind.wrap .i64 (((List.length a1_ : Nat) : Int) - (1 : Int)))) fun r1_ =>
 .t r1_
 (.t (decide ((0 : Int) < ((List.length a6_ : Nat) : Int)))
 (.l true)
 (.g (inR a5_ (List.length a4_)) <|
 .l (((List.length (List.getD a4_ (Int.toNat a5_) ([] : List Y1)) : Nat) : Int) == (0 : Int))))
 (.l false)
noncomputable def F_zcf (a1_ : Y1) (a2_ : Y1) (a3_ : Y1) (a4_ : Y3) (a5_ : Int) (a6_ : Y1) : Option (Bool) := (T_zcf a1_ a2_ a3_ a4_ a5_ a6_).ev
noncomputable def A_zcf : Sh := (.cons (.agg (.cons (.dat y1) (.cons (.dat y1) (.cons (.dat y1) (.cons (.dat y3) .nil))))) (.cons (.dat yi) (.cons (.dat y1) .nil)))
noncomputable def I_zcf : List (Nat × OSh) := []
noncomputable def K_zcf : RetK := { acts := [], res := [.tmp 6], sh := (.cons (.dat .bool) .nil), obs := [], pins := [] }
noncomputable def D_zcf : FD := ⟨A_zcf, I_zcf, [], Bool, fun x => F_zcf x.1.1.1 x.1.1.2.1 x.1.1.2.2.1 x.1.1.2.2.2.1 x.1.2.1 x.1.2.2.1, fun r => ([.dat .bool r], [])⟩
noncomputable def E_zcf : Env := envOf [(83, D_zcw)]
noncomputable def Z_zcf : Nat → Nat → List Nat := fun _ _ => []
noncomputable def O_zcf : List (Nat × LD) := []
noncomputable def C_zcf : Code := (f73.body).getD .skip
noncomputable def S_zci_0 (k : Y2 × (Y1 × (Y1 × (Y1 × Y3)))) (v : Int) : Tr ((Int) ⊕ ((Unit) ⊕ (Unit))) :=
 .t (decide (v < ((List.length k.1 : Nat) : Int)))
 (.t (decide (v < ((List.length k.2.2.2.2 : Nat) : Int)))
 (.g (inR v (List.length k.1)) <|
 .c (Bool) (F_zcf k.2.1 k.2.2.1 k.2.2.2.1 k.2.2.2.2 v (List.getD k.1 (Int.toNat v) ([] : Y1))) fun r7_ =>
 .t (!r7_)
 (.l (.inr (.inr ())))
 (.l (.inl (IntKind.wrap .i64 (v + (1 : Int))))))
 (.l (.inr (.inl ()))))
 (.l (.inr (.inl ())))
noncomputable def L_zci_0 (k : Y2 × (Y1 × (Y1 × (Y1 × Y3)))) (v : Int) : Option ((Unit) ⊕ (Unit)) := iter (fun v => (S_zci_0 k v).ev) v
noncomputable def DL_zci_0 : LD := ⟨{ acts := [], S := { slots := [1, 2, 5], sh := (.cons (.dat y2) (.cons (.box 2 0) (.cons (.dat yi) .nil))), obs := [(2, .cells (.cons (.dat y1) (.cons (.dat y1) (.cons (.dat y1) (.cons (.dat y3) .nil)))))] } }, [(0, { acts := [], S := { slots := [1, 2], sh := (.cons (.dat y2) (.cons (.box 2 0) .nil)), obs := [(2, .cells (.cons (.dat y1) (.cons (.dat y1) (.cons (.dat y1) (.cons (.dat y3) .nil)))))] } })], (yh [4] (.cons (.dat .bool) .nil)), Y2 × (Y1 × (Y1 × (Y1 × Y3))), Int, (Unit) ⊕ (Unit), fun k v => ((k.1, ((), (v, ()))), ((k.2.1, (k.2.2.1, (k.2.2.2.1, (k.2.2.2.2, ())))), ())), fun t => (t.1.1, (t.2.1.1, (t.2.1.2.1, (t.2.1.2.2.1, t.2.1.2.2.2.1)))), fun t => t.1.2.2.1, S_zci_0, fun k r => .s (Unit) (Unit) r (fun _ => .l (.exit 0 (mkSt ({ slots := [1, 2], sh := (.cons (.dat y2) (.cons (.box 2 0) .nil)), obs := [(2, .cells (.cons (.dat y1) (.cons (.dat y1) (.cons (.dat y1) (.cons (.dat y3) .nil)))))] }) ((k.1, ((), ())), ((k.2.1, (k.2.2.1, (k.2.2.2.1, (k.2.2.2.2, ())))), ()))))) (fun _ => .l (.ret (mkSt ((ys [4] (.cons (.dat .bool) .nil))) ((false, ()), ()))))⟩
noncomputable def T_zci (a1_ : Y1) (a2_ : Y1) (a3_ : Y1) (a4_ : Y3) (a5_ : List Y1) : Tr (Bool) :=
 .c ((Unit) ⊕ (Unit)) (L_zci_0 (a5_, (a1_, (a2_, (a3_, a4_)))) (0 : Int)) fun r14_ =>
 .s (Unit) (Unit) r14_
 (fun _ => .l (((List.length a5_ : Nat) : Int) == ((List.length a4_ : Nat) : Int)))
 (fun _ => .l false)
noncomputable def F_zci (a1_ : Y1) (a2_ : Y1) (a3_ : Y1) (a4_ : Y3) (a5_ : List Y1) : Option (Bool) := (T_zci a1_ a2_ a3_ a4_ a5_).ev
noncomputable def A_zci : Sh := (.cons (.agg (.cons (.dat y1) (.cons (.dat y1) (.cons (.dat y1) (.cons (.dat y3) .nil))))) (.cons (.dat y2) .nil))
noncomputable def I_zci : List (Nat × OSh) := []
noncomputable def K_zci : RetK := { acts := [], res := [.tmp 4], sh := (.cons (.dat .bool) .nil), obs := [], pins := [] }
noncomputable def D_zci : FD := ⟨A_zci, I_zci, [], Bool, fun x => F_zci x.1.1.1 x.1.1.2.1 x.1.1.2.2.1 x.1.1.2.2.2.1 x.1.2.1, fun r => ([.dat .bool r], [])⟩
noncomputable def E_zci : Env := envOf [(73, D_zcf)]
noncomputable def Z_zci : Nat → Nat → List Nat := fun _ _ => []
noncomputable def O_zci : List (Nat × LD) := [(0, DL_zci_0)]
noncomputable def C_zci : Code := (f42.body).getD .skip
noncomputable def S_zdd_0 (k : Int × (Y1 × (Y1 × Y2))) (v : Int × Int) : Tr ((Int × Int) ⊕ (Int)) :=
 .t (decide (v.2 < ((List.length k.2.1 : Nat) : Int)))
 (.g (inR k.1 (List.length k.2.2.2)) <|
 .g (inR v.2 (List.length k.2.1)) <|
 .g (inR (List.getD k.2.1 (Int.toNat v.2) (0 : Int)) (List.length (List.getD k.2.2.2 (Int.toNat k.1) ([] : Y1)))) <|
 .g (inR k.1 (List.length k.2.2.2)) <|
 .g (inR v.1 (List.length (List.getD k.2.2.2 (Int.toNat k.1) ([] : Y1)))) <|
 .t (decide ((List.getD (List.getD k.2.2.2 (Int.toNat k.1) ([] : Y1)) (Int.toNat (List.getD k.2.1 (Int.toNat v.2) (0 : Int))) (0 : Int)) < (List.getD (List.getD k.2.2.2 (Int.toNat k.1) ([] : Y1)) (Int.toNat v.1) (0 : Int))))
 (.g (inR v.2 (List.length k.2.1)) <|
 .l (.inl ((List.getD k.2.1 (Int.toNat v.2) (0 : Int)), (IntKind.wrap .i64 (v.2 + (1 : Int))))))
 (.l (.inl (v.1, (IntKind.wrap .i64 (v.2 + (1 : Int)))))))
 (.l (.inr v.1))
noncomputable def L_zdd_0 (k : Int × (Y1 × (Y1 × Y2))) (v : Int × Int) : Option (Int) := iter (fun v => (S_zdd_0 k v).ev) v
noncomputable def DL_zdd_0 : LD := ⟨{ acts := [], S := { slots := [1, 2, 3, 7, 8], sh := (.cons (.dat yi) (.cons (.dat y1) (.cons (.box 3 0) (.cons (.dat yi) (.cons (.dat yi) .nil))))), obs := [(3, .cells (.cons (.dat y1) (.cons (.dat y2) .nil)))] } }, [(0, (yh [7] (.cons (.dat yi) .nil)))], (yh [] .nil), Int × (Y1 × (Y1 × Y2)), Int × (Int), Int, fun k v => ((k.1, (k.2.1, ((), (v.1, (v.2, ()))))), ((k.2.2.1, (k.2.2.2, ())), ())), fun t => (t.1.1, (t.1.2.1, (t.2.1.1, t.2.1.2.1))), fun t => (t.1.2.2.2.1, t.1.2.2.2.2.1), S_zdd_0, fun _ r => .l (.exit 0 (mkSt ((ys [7] (.cons (.dat yi) .nil))) ((r, ()), ())))⟩
noncomputable def T_zdd (a1_ : Y1) (a2_ : List Y1) (a3_ : Int) (a4_ : Y1) : Tr (Int) :=
 .g (inR (0 : Int) (List.length a4_)) <|
 .c (Int) (L_zdd_0 (a3_, (a4_, (a1_, a2_))) ((List.getD a4_ (Int.toNat (0 : Int)) (0 : Int)), (1 : Int))) fun r8_ =>
 .l r8_
noncomputable def F_zdd (a1_ : Y1) (a2_ : List Y1) (a3_ : Int) (a4_ : Y1) : Option (Int) := (T_zdd a1_ a2_ a3_ a4_).ev
noncomputable def A_zdd : Sh := (.cons (.agg (.cons (.dat y1) (.cons (.dat y2) .nil))) (.cons (.dat yi) (.cons (.dat y1) .nil)))
noncomputable def I_zdd : List (Nat × OSh) := []
noncomputable def K_zdd : RetK := { acts := [], res := [.tmp 6], sh := (.cons (.dat yi) .nil), obs := [], pins := [] }
noncomputable def D_zdd : FD := ⟨A_zdd, I_zdd, [], Int, fun x => F_zdd x.1.1.1 x.1.1.2.1 x.1.2.1 x.1.2.2.1, fun r => ([.dat yi r], [])⟩
noncomputable def E_zdd : Env := envOf []
noncomputable def Z_zdd : Nat → Nat → List Nat := fun _ _ => []
noncomputable def O_zdd : List (Nat × LD) := [(0, DL_zdd_0)]
noncomputable def C_zdd : Code := (f116.body).getD .skip
noncomputable def T_zcz (a1_ : Y1) (a2_ : List Y1) (a3_ : Int) (a4_ : Y1) : Tr (Int) :=
 .g (inR a3_ (List.length a2_)) <|
 .c (Int) (F_zdd a1_ a2_ a3_ a4_) fun r1_ =>
 .g (inR r1_ (List.length (List.getD a2_ (Int.toNat a3_) ([] : Y1)))) <|
 .l (List.getD (List.getD a2_ (Int.toNat a3_) ([] : Y1)) (Int.toNat r1_) (0 : Int))
noncomputable def F_zcz (a1_ : Y1) (a2_ : List Y1) (a3_ : Int) (a4_ : Y1) : Option (Int) := (T_zcz a1_ a2_ a3_ a4_).ev
noncomputable def A_zcz : Sh := (.cons (.agg (.cons (.dat y1) (.cons (.dat y2) .nil))) (.cons (.dat yi) (.cons (.dat y1) .nil)))
noncomputable def I_zcz : List (Nat × OSh) := []
noncomputable def K_zcz : RetK := { acts := [], res := [.tmp 6], sh := (.cons (.dat yi) .nil), obs := [], pins := [] }
noncomputable def D_zcz : FD := ⟨A_zcz, I_zcz, [], Int, fun x => F_zcz x.1.1.1 x.1.1.2.1 x.1.2.1 x.1.2.2.1, fun r => ([.dat yi r], [])⟩
noncomputable def E_zcz : Env := envOf [(116, D_zdd)]
noncomputable def Z_zcz : Nat → Nat → List Nat := fun _ _ => []
noncomputable def O_zcz : List (Nat × LD) := []
noncomputable def C_zcz : Code := (f109.body).getD .skip
noncomputable def S_zdb_0 (k : Y1 × (Y1 × Y2)) (v : Int × Int) : Tr ((Int × Int) ⊕ (Int)) :=
 .t (decide (v.2 < ((List.length k.2.2 : Nat) : Int)))
 (.c (Int) (F_zcz k.2.1 k.2.2 v.2 k.1) fun r6_ =>
 .l (.inl ((IntKind.wrap .i64 (v.1 + r6_)), (IntKind.wrap .i64 (v.2 + (1 : Int))))))
 (.l (.inr v.1))
noncomputable def L_zdb_0 (k : Y1 × (Y1 × Y2)) (v : Int × Int) : Option (Int) := iter (fun v => (S_zdb_0 k v).ev) v
noncomputable def DL_zdb_0 : LD := ⟨{ acts := [], S := { slots := [1, 2, 5, 6], sh := (.cons (.dat y1) (.cons (.box 2 0) (.cons (.dat yi) (.cons (.dat yi) .nil)))), obs := [(2, .cells (.cons (.dat y1) (.cons (.dat y2) .nil)))] } }, [(0, (yh [5] (.cons (.dat yi) .nil)))], (yh [] .nil), Y1 × (Y1 × Y2), Int × (Int), Int, fun k v => ((k.1, ((), (v.1, (v.2, ())))), ((k.2.1, (k.2.2, ())), ())), fun t => (t.1.1, (t.2.1.1, t.2.1.2.1)), fun t => (t.1.2.2.1, t.1.2.2.2.1), S_zdb_0, fun _ r => .l (.exit 0 (mkSt ((ys [5] (.cons (.dat yi) .nil))) ((r, ()), ())))⟩
noncomputable def T_zdb (a1_ : Y1) (a2_ : List Y1) (a3_ : Y1) : Tr (Int) :=
 .c (Int) (L_zdb_0 (a3_, (a1_, a2_)) ((0 : Int), (0 : Int))) fun r8_ =>
 .l r8_
noncomputable def F_zdb (a1_ : Y1) (a2_ : List Y1) (a3_ : Y1) : Option (Int) := (T_zdb a1_ a2_ a3_).ev
noncomputable def A_zdb : Sh := (.cons (.agg (.cons (.dat y1) (.cons (.dat y2) .nil))) (.cons (.dat y1) .nil))
noncomputable def I_zdb : List (Nat × OSh) := []
noncomputable def K_zdb : RetK := { acts := [], res := [.tmp 4], sh := (.cons (.dat yi) .nil), obs := [], pins := [] }
noncomputable def D_zdb : FD := ⟨A_zdb, I_zdb, [], Int, fun x => F_zdb x.1.1.1 x.1.1.2.1 x.1.2.1, fun r => ([.dat yi r], [])⟩
noncomputable def E_zdb : Env := envOf [(109, D_zcz)]
noncomputable def Z_zdb : Nat → Nat → List Nat := fun _ _ => []
noncomputable def O_zdb : List (Nat × LD) := [(0, DL_zdb_0)]
noncomputable def C_zdb : Code := (f101.body).getD .skip
noncomputable def S_zcs_0 (k : Y1 × Int) (v : Int) : Tr ((Int) ⊕ ((Unit) ⊕ (Unit))) :=
 .t (decide (v < ((List.length k.1 : Nat) : Int)))
 (.g (inR v (List.length k.1)) <|
 .t ((List.getD k.1 (Int.toNat v) (0 : Int)) == k.2)
 (.l (.inr (.inr ())))
 (.l (.inl (IntKind.wrap .i64 (v + (1 : Int))))))
 (.l (.inr (.inl ())))
noncomputable def L_zcs_0 (k : Y1 × Int) (v : Int) : Option ((Unit) ⊕ (Unit)) := iter (fun v => (S_zcs_0 k v).ev) v
noncomputable def DL_zcs_0 : LD := ⟨(yh [0, 1, 5] (.cons (.dat y1) (.cons (.dat yi) (.cons (.dat yi) .nil)))), [(0, (yh [] .nil))], (yh [4] (.cons (.dat .bool) .nil)), Y1 × (Int), Int, (Unit) ⊕ (Unit), fun k v => ((k.1, (k.2, (v, ()))), ()), fun t => (t.1.1, t.1.2.1), fun t => t.1.2.2.1, S_zcs_0, fun _ r => .s (Unit) (Unit) r (fun _ => .l (.exit 0 (mkSt ((ys [] .nil)) ((), ())))) (fun _ => .l (.ret (mkSt ((ys [4] (.cons (.dat .bool) .nil))) ((true, ()), ()))))⟩
noncomputable def T_zcs (a1_ : Y1) (a2_ : Int) : Tr (Bool) :=
 .c ((Unit) ⊕ (Unit)) (L_zcs_0 (a1_, a2_) (0 : Int)) fun r5_ =>
 .s (Unit) (Unit) r5_
 (fun _ => .l false)
 (fun _ => .l true)
noncomputable def F_zcs (a1_ : Y1) (a2_ : Int) : Option (Bool) := (T_zcs a1_ a2_).ev
noncomputable def A_zcs : Sh := (.cons (.dat y1) (.cons (.dat yi) .nil))
noncomputable def I_zcs : List (Nat × OSh) := []
noncomputable def K_zcs : RetK := { acts := [], res := [.tmp 4], sh := (.cons (.dat .bool) .nil), obs := [], pins := [] }
noncomputable def D_zcs : FD := ⟨A_zcs, I_zcs, [], Bool, fun x => F_zcs x.1.1 x.1.2.1, fun r => ([.dat .bool r], [])⟩
noncomputable def E_zcs : Env := envOf []
noncomputable def Z_zcs : Nat → Nat → List Nat := fun _ _ => []
noncomputable def O_zcs : List (Nat × LD) := [(0, DL_zcs_0)]
noncomputable def C_zcs : Code := (f102.body).getD .skip
noncomputable def S_zcg_0 (k : Y1 × (Y1 × (Y1 × (Y1 × (Y1 × Y3))))) (v : Int × Int) : Tr ((Int × Int) ⊕ (Int)) :=
 .t (decide (v.2 < ((List.length k.2.2.1 : Nat) : Int)))
 (.c (Bool) (F_zcs k.2.1 v.2) fun r10_ =>
 .c (Bool) (F_zcs k.1 v.2) fun r11_ =>
 .t r10_
 (.g (inR v.2 (List.length k.2.2.2.2.1)) <|
 .t r10_
 (.t (!r11_)
 (.g (inR v.2 (List.length k.2.2.1)) <|
 .t r11_
 (.t (!r10_)
 (.g (inR v.2 (List.length k.2.2.2.1)) <|
 .l (.inl ((IntKind.wrap .i64 ((IntKind.wrap .i64 ((IntKind.wrap .i64 (v.1 + (List.getD k.2.2.2.2.1 (Int.toNat v.2) (0 : Int)))) + (List.getD k.2.2.1 (Int.toNat v.2) (0 : Int)))) + (List.getD k.2.2.2.1 (Int.toNat v.2) (0 : Int)))), (IntKind.wrap .i64 (v.2 + (1 : Int))))))
 (.l (.inl ((IntKind.wrap .i64 ((IntKind.wrap .i64 (v.1 + (List.getD k.2.2.2.2.1 (Int.toNat v.2) (0 : Int)))) + (List.getD k.2.2.1 (Int.toNat v.2) (0 : Int)))), (IntKind.wrap .i64 (v.2 + (1 : Int)))))))
 (.l (.inl ((IntKind.wrap .i64 ((IntKind.wrap .i64 (v.1 + (List.getD k.2.2.2.2.1 (Int.toNat v.2) (0 : Int)))) + (List.getD k.2.2.1 (Int.toNat v.2) (0 : Int)))), (IntKind.wrap .i64 (v.2 + (1 : Int)))))))
 (.t r11_
 (.t (!r10_)
 (.g (inR v.2 (List.length k.2.2.2.1)) <|
 .l (.inl ((IntKind.wrap .i64 ((IntKind.wrap .i64 (v.1 + (List.getD k.2.2.2.2.1 (Int.toNat v.2) (0 : Int)))) + (List.getD k.2.2.2.1 (Int.toNat v.2) (0 : Int)))), (IntKind.wrap .i64 (v.2 + (1 : Int))))))
 (.l (.inl ((IntKind.wrap .i64 (v.1 + (List.getD k.2.2.2.2.1 (Int.toNat v.2) (0 : Int)))), (IntKind.wrap .i64 (v.2 + (1 : Int)))))))
 (.l (.inl ((IntKind.wrap .i64 (v.1 + (List.getD k.2.2.2.2.1 (Int.toNat v.2) (0 : Int)))), (IntKind.wrap .i64 (v.2 + (1 : Int))))))))
 (.t r11_
 (.t (!r10_)
 (.g (inR v.2 (List.length k.2.2.2.1)) <|
 .l (.inl ((IntKind.wrap .i64 ((IntKind.wrap .i64 (v.1 + (List.getD k.2.2.2.2.1 (Int.toNat v.2) (0 : Int)))) + (List.getD k.2.2.2.1 (Int.toNat v.2) (0 : Int)))), (IntKind.wrap .i64 (v.2 + (1 : Int))))))
 (.l (.inl ((IntKind.wrap .i64 (v.1 + (List.getD k.2.2.2.2.1 (Int.toNat v.2) (0 : Int)))), (IntKind.wrap .i64 (v.2 + (1 : Int)))))))
 (.l (.inl ((IntKind.wrap .i64 (v.1 + (List.getD k.2.2.2.2.1 (Int.toNat v.2) (0 : Int)))), (IntKind.wrap .i64 (v.2 + (1 : Int))))))))
 (.t r10_
 (.t (!r11_)
 (.g (inR v.2 (List.length k.2.2.1)) <|
 .t r11_
 (.t (!r10_)
 (.g (inR v.2 (List.length k.2.2.2.1)) <|
 .l (.inl ((IntKind.wrap .i64 ((IntKind.wrap .i64 (v.1 + (List.getD k.2.2.1 (Int.toNat v.2) (0 : Int)))) + (List.getD k.2.2.2.1 (Int.toNat v.2) (0 : Int)))), (IntKind.wrap .i64 (v.2 + (1 : Int))))))
 (.l (.inl ((IntKind.wrap .i64 (v.1 + (List.getD k.2.2.1 (Int.toNat v.2) (0 : Int)))), (IntKind.wrap .i64 (v.2 + (1 : Int)))))))
 (.l (.inl ((IntKind.wrap .i64 (v.1 + (List.getD k.2.2.1 (Int.toNat v.2) (0 : Int)))), (IntKind.wrap .i64 (v.2 + (1 : Int)))))))
 (.t r11_
 (.t (!r10_)
 (.g (inR v.2 (List.length k.2.2.2.1)) <|
 .l (.inl ((IntKind.wrap .i64 (v.1 + (List.getD k.2.2.2.1 (Int.toNat v.2) (0 : Int)))), (IntKind.wrap .i64 (v.2 + (1 : Int))))))
 (.l (.inl (v.1, (IntKind.wrap .i64 (v.2 + (1 : Int)))))))
 (.l (.inl (v.1, (IntKind.wrap .i64 (v.2 + (1 : Int))))))))
 (.t r11_
 (.t (!r10_)
 (.g (inR v.2 (List.length k.2.2.2.1)) <|
 .l (.inl ((IntKind.wrap .i64 (v.1 + (List.getD k.2.2.2.1 (Int.toNat v.2) (0 : Int)))), (IntKind.wrap .i64 (v.2 + (1 : Int))))))
 (.l (.inl (v.1, (IntKind.wrap .i64 (v.2 + (1 : Int)))))))
 (.l (.inl (v.1, (IntKind.wrap .i64 (v.2 + (1 : Int)))))))))
 (.l (.inr v.1))
noncomputable def L_zcg_0 (k : Y1 × (Y1 × (Y1 × (Y1 × (Y1 × Y3))))) (v : Int × Int) : Option (Int) := iter (fun v => (S_zcg_0 k v).ev) v
noncomputable def DL_zcg_0 : LD := ⟨{ acts := [], S := { slots := [2, 3, 4, 9, 10], sh := (.cons (.dat y1) (.cons (.dat y1) (.cons (.box 4 0) (.cons (.dat yi) (.cons (.dat yi) .nil))))), obs := [(4, .cells (.cons (.dat y1) (.cons (.dat y1) (.cons (.dat y1) (.cons (.dat y3) .nil)))))] } }, [(0, (yh [9] (.cons (.dat yi) .nil)))], (yh [] .nil), Y1 × (Y1 × (Y1 × (Y1 × (Y1 × Y3)))), Int × (Int), Int, fun k v => ((k.1, (k.2.1, ((), (v.1, (v.2, ()))))), ((k.2.2.1, (k.2.2.2.1, (k.2.2.2.2.1, (k.2.2.2.2.2, ())))), ())), fun t => (t.1.1, (t.1.2.1, (t.2.1.1, (t.2.1.2.1, (t.2.1.2.2.1, t.2.1.2.2.2.1))))), fun t => (t.1.2.2.2.1, t.1.2.2.2.2.1), S_zcg_0, fun _ r => .l (.exit 0 (mkSt ((ys [9] (.cons (.dat yi) .nil))) ((r, ()), ())))⟩
noncomputable def T_zcg (a1_ : Y1) (a2_ : Y1) (a3_ : Y1) (a4_ : Y3) (a5_ : Int) (a6_ : Y1) (a7_ : Y1) : Tr (Int) :=
 .g (inR a5_ (List.length a4_)) <|
 .c (Int) (F_zdb a1_ (List.getD a4_ (Int.toNat a5_) ([] : List Y1)) a7_) fun r1_ =>
 .c (Int) (L_zcg_0 (a6_, (a7_, (a1_, (a2_, (a3_, a4_))))) (r1_, (0 : Int))) fun r13_ =>
 .l r13_
noncomputable def F_zcg (a1_ : Y1) (a2_ : Y1) (a3_ : Y1) (a4_ : Y3) (a5_ : Int) (a6_ : Y1) (a7_ : Y1) : Option (Int) := (T_zcg a1_ a2_ a3_ a4_ a5_ a6_ a7_).ev
noncomputable def A_zcg : Sh := (.cons (.agg (.cons (.dat y1) (.cons (.dat y1) (.cons (.dat y1) (.cons (.dat y3) .nil))))) (.cons (.dat yi) (.cons (.dat y1) (.cons (.dat y1) .nil))))
noncomputable def I_zcg : List (Nat × OSh) := []
noncomputable def K_zcg : RetK := { acts := [], res := [.tmp 8], sh := (.cons (.dat yi) .nil), obs := [], pins := [] }
noncomputable def D_zcg : FD := ⟨A_zcg, I_zcg, [], Int, fun x => F_zcg x.1.1.1 x.1.1.2.1 x.1.1.2.2.1 x.1.1.2.2.2.1 x.1.2.1 x.1.2.2.1 x.1.2.2.2.1, fun r => ([.dat yi r], [])⟩
noncomputable def E_zcg : Env := envOf [(101, D_zdb), (102, D_zcs)]
noncomputable def Z_zcg : Nat → Nat → List Nat := fun _ _ => []
noncomputable def O_zcg : List (Nat × LD) := [(0, DL_zcg_0)]
noncomputable def C_zcg : Code := (f74.body).getD .skip
noncomputable def S_zch_0 (k : Y2 × (Y1 × (Y1 × (Y1 × Y3)))) (v : Y1 × (Int × Y1)) : Tr ((Y1 × (Int × Y1)) ⊕ Y1) :=
 .t (decide (v.2.1 < ((List.length k.1 : Nat) : Int)))
 (.g (inR v.2.1 (List.length k.1)) <|
 .c (Int) (F_zcg k.2.1 k.2.2.1 k.2.2.2.1 k.2.2.2.2 v.2.1 v.1 (List.getD k.1 (Int.toNat v.2.1) ([] : Y1))) fun r18_ =>
 .g (decide ((List.length v.2.2 + List.length ([r18_] : Y1)) * 8 ≤ 140737488355328)) <|
 .g (inR v.2.1 (List.length k.1)) <|
 .l (.inl ((List.getD k.1 (Int.toNat v.2.1) ([] : Y1)), ((IntKind.wrap .i64 (v.2.1 + (1 : Int))), (v.2.2 ++ ([r18_] : Y1))))))
 (.l (.inr v.2.2))
noncomputable def L_zch_0 (k : Y2 × (Y1 × (Y1 × (Y1 × Y3)))) (v : Y1 × (Int × Y1)) : Option Y1 := iter (fun v => (S_zch_0 k v).ev) v
noncomputable def DL_zch_0 : LD := ⟨{ acts := [.fz 9], S := { slots := [1, 2, 5, 6, 7], sh := (.cons (.dat y2) (.cons (.box 2 0) (.cons (.arr 8) (.cons (.dat y1) (.cons (.dat yi) .nil))))), obs := [(2, .cells (.cons (.dat y1) (.cons (.dat y1) (.cons (.dat y1) (.cons (.dat y3) .nil))))), (8, .arr 3 yi)] } }, [(0, { acts := [], S := { slots := [5], sh := (.cons (.arr 8) .nil), obs := [(8, .arr 3 yi)] } })], (yh [] .nil), Y2 × (Y1 × (Y1 × (Y1 × Y3))), Y1 × (Int × Y1), Y1, fun k v => ((k.1, ((), ((), (v.1, (v.2.1, ()))))), ((k.2.1, (k.2.2.1, (k.2.2.2.1, (k.2.2.2.2, ())))), (v.2.2, ()))), fun t => (t.1.1, (t.2.1.1, (t.2.1.2.1, (t.2.1.2.2.1, t.2.1.2.2.2.1)))), fun t => (t.1.2.2.2.1, (t.1.2.2.2.2.1, t.2.2.1)), S_zch_0, fun _ r => .l (.exit 0 (mkSt ({ slots := [5], sh := (.cons (.arr 8) .nil), obs := [(8, .arr 3 yi)] }) (((), ()), (r, ()))))⟩
noncomputable def T_zch (a1_ : Y1) (a2_ : Y1) (a3_ : Y1) (a4_ : Y3) (a5_ : List Y1) : Tr Y1 :=
 .c Y1 (L_zch_0 (a5_, (a1_, (a2_, (a3_, a4_)))) (([] : Y1), ((0 : Int), ([] : Y1)))) fun r20_ =>
 .l r20_
noncomputable def F_zch (a1_ : Y1) (a2_ : Y1) (a3_ : Y1) (a4_ : Y3) (a5_ : List Y1) : Option Y1 := (T_zch a1_ a2_ a3_ a4_ a5_).ev
noncomputable def A_zch : Sh := (.cons (.agg (.cons (.dat y1) (.cons (.dat y1) (.cons (.dat y1) (.cons (.dat y3) .nil))))) (.cons (.dat y2) .nil))
noncomputable def I_zch : List (Nat × OSh) := []
noncomputable def K_zch : RetK := { acts := [.ren 8 0], res := [.tmp 4], sh := (.cons (.arr 0) .nil), obs := [(0, .arr 3 yi)], pins := [] }
noncomputable def D_zch : FD := ⟨A_zch, I_zch, [], Y1, fun x => F_zch x.1.1.1 x.1.1.2.1 x.1.1.2.2.1 x.1.1.2.2.2.1 x.1.2.1, fun r => ([.arr 0], [(0, .arr 3 yi r)])⟩
noncomputable def E_zch : Env := envOf [(74, D_zcg)]
noncomputable def Z_zch : Nat → Nat → List Nat := fun _ _ => []
noncomputable def O_zch : List (Nat × LD) := [(0, DL_zch_0)]
noncomputable def C_zch : Code := (f46.body).getD .skip
noncomputable def S_zcl_0 (k : Y1) (v : Int × Int) : Tr ((Int × Int) ⊕ (Int)) :=
 .t (decide (v.2 < ((List.length k : Nat) : Int)))
 (.g (inR v.2 (List.length k)) <|
 .l (.inl ((IntKind.wrap .i64 (v.1 + (List.getD k (Int.toNat v.2) (0 : Int)))), (IntKind.wrap .i64 (v.2 + (1 : Int))))))
 (.l (.inr v.1))
noncomputable def L_zcl_0 (k : Y1) (v : Int × Int) : Option (Int) := iter (fun v => (S_zcl_0 k v).ev) v
noncomputable def DL_zcl_0 : LD := ⟨(yh [0, 3, 4] (.cons (.dat y1) (.cons (.dat yi) (.cons (.dat yi) .nil)))), [(0, (yh [3] (.cons (.dat yi) .nil)))], (yh [] .nil), Y1, Int × (Int), Int, fun k v => ((k, (v.1, (v.2, ()))), ()), fun t => t.1.1, fun t => (t.1.2.1, t.1.2.2.1), S_zcl_0, fun _ r => .l (.exit 0 (mkSt ((ys [3] (.cons (.dat yi) .nil))) ((r, ()), ())))⟩
noncomputable def T_zcl (a1_ : Y1) : Tr (Int) :=
 .c (Int) (L_zcl_0 a1_ ((0 : Int), (0 : Int))) fun r5_ =>
 .l r5_
noncomputable def F_zcl (a1_ : Y1) : Option (Int) := (T_zcl a1_).ev
noncomputable def A_zcl : Sh := (.cons (.dat y1) .nil)
noncomputable def I_zcl : List (Nat × OSh) := []
noncomputable def K_zcl : RetK := { acts := [], res := [.tmp 2], sh := (.cons (.dat yi) .nil), obs := [], pins := [] }
noncomputable def D_zcl : FD := ⟨A_zcl, I_zcl, [], Int, fun x => F_zcl x.1.1, fun r => ([.dat yi r], [])⟩
noncomputable def E_zcl : Env := envOf []
noncomputable def Z_zcl : Nat → Nat → List Nat := fun _ _ => []
noncomputable def O_zcl : List (Nat × LD) := [(0, DL_zcl_0)]
noncomputable def C_zcl : Code := (f45.body).getD .skip
noncomputable def T_zby (a1_ : Y1) (a2_ : Y1) (a3_ : Y1) (a4_ : Y3) (a5_ : List Y1) : Tr (Int × (Bool)) :=
 .c (Bool) (F_zce a1_ a2_ a3_ a4_) fun r1_ =>
 .t (!r1_)
 (.l ((0 : Int), false))
 (.c (Bool) (F_zci a1_ a2_ a3_ a4_ a5_) fun r2_ =>
 .t (!r2_)
 (.l ((0 : Int), false))
 (.c Y1 (F_zch a1_ a2_ a3_ a4_ a5_) fun r3_ =>
 .c (Int) (F_zcl r3_) fun r4_ =>
 .l (r4_, true)))
noncomputable def F_zby (a1_ : Y1) (a2_ : Y1) (a3_ : Y1) (a4_ : Y3) (a5_ : List Y1) : Option (Int × (Bool)) := (T_zby a1_ a2_ a3_ a4_ a5_).ev
noncomputable def A_zby : Sh := (.cons (.agg (.cons (.dat y1) (.cons (.dat y1) (.cons (.dat y1) (.cons (.dat y3) .nil))))) (.cons (.dat y2) .nil))
noncomputable def I_zby : List (Nat × OSh) := []
noncomputable def K_zby : RetK := { acts := [], res := [.tmp 4, .tmp 5], sh := (.cons (.dat yi) (.cons (.dat .bool) .nil)), obs := [], pins := [] }
noncomputable def D_zby : FD := ⟨A_zby, I_zby, [], Int × (Bool), fun x => F_zby x.1.1.1 x.1.1.2.1 x.1.1.2.2.1 x.1.1.2.2.2.1 x.1.2.1, fun r => ([.dat yi r.1, .dat .bool r.2], [])⟩
noncomputable def E_zby : Env := envOf [(37, D_zce), (42, D_zci), (46, D_zch), (45, D_zcl)]
noncomputable def Z_zby : Nat → Nat → List Nat := fun _ _ => []
noncomputable def O_zby : List (Nat × LD) := []
noncomputable def C_zby : Code := (f18.body).getD .skip
noncomputable def T_zbz (a1_ : Y1) (a2_ : Y1) (a3_ : Y1) (a4_ : Y3) (a5_ : List Y1) : Tr (Bool × Y1) :=
 .c (Bool) (F_zce a1_ a2_ a3_ a4_) fun r1_ =>
 .t (!r1_)
 (.l (false, ([] : Y1)))
 (.c (Bool) (F_zci a1_ a2_ a3_ a4_ a5_) fun r2_ =>
 .t (!r2_)
 (.l (false, ([] : Y1)))
 (.c Y1 (F_zch a1_ a2_ a3_ a4_ a5_) fun r3_ =>
 .l (true, r3_)))
noncomputable def F_zbz (a1_ : Y1) (a2_ : Y1) (a3_ : Y1) (a4_ : Y3) (a5_ : List Y1) : Option (Bool × Y1) := (T_zbz a1_ a2_ a3_ a4_ a5_).ev
noncomputable def A_zbz : Sh := (.cons (.agg (.cons (.dat y1) (.cons (.dat y1) (.cons (.dat y1) (.cons (.dat y3) .nil))))) (.cons (.dat y2) .nil))
noncomputable def I_zbz : List (Nat × OSh) := []
noncomputable def K_zbz : RetK := { acts := [.ren 15 0, .ren 1152 0], res := [.tmp 4, .tmp 5], sh := (.cons (.arr 0) (.cons (.dat .bool) .nil)), obs := [(0, .arr 3 yi)], pins := [] }
noncomputable def D_zbz : FD := ⟨A_zbz, I_zbz, [], Bool × Y1, fun x => F_zbz x.1.1.1 x.1.1.2.1 x.1.1.2.2.1 x.1.1.2.2.2.1 x.1.2.1, fun r => ([.arr 0, .dat .bool r.1], [(0, .arr 3 yi r.2)])⟩
noncomputable def E_zbz : Env := envOf [(37, D_zce), (42, D_zci), (46, D_zch)]
noncomputable def Z_zbz : Nat → Nat → List Nat := fun _ _ => []
noncomputable def O_zbz : List (Nat × LD) := []
noncomputable def C_zbz : Code := (f20.body).getD .skip
noncomputable def S_zat_0 (k : Y1 × Y1) (v : Int) : Tr ((Int) ⊕ ((Unit) ⊕ (Unit))) :=
 .t (decide (v < ((List.length k.1 : Nat) : Int)))
 (.g (inR v (List.length k.1)) <|
 .g (inR v (List.length k.2)) <|
 .t ((List.getD k.1 (Int.toNat v) (0 : Int)) != (List.getD k.2 (Int.toNat v) (0 : Int)))
 (.l (.inr (.inr ())))
 (.l (.inl (IntKind.wrap .i64 (v + (1 : Int))))))
 (.l (.inr (.inl ())))
noncomputable def L_zat_0 (k : Y1 × Y1) (v : Int) : Option ((Unit) ⊕ (Unit)) := iter (fun v => (S_zat_0 k v).ev) v
noncomputable def DL_zat_0 : LD := ⟨(yh [0, 1, 5] (.cons (.dat y1) (.cons (.dat y1) (.cons (.dat yi) .nil)))), [(0, (yh [] .nil))], (yh [4] (.cons (.dat .bool) .nil)), Y1 × Y1, Int, (Unit) ⊕ (Unit), fun k v => ((k.1, (k.2, (v, ()))), ()), fun t => (t.1.1, t.1.2.1), fun t => t.1.2.2.1, S_zat_0, fun _ r => .s (Unit) (Unit) r (fun _ => .l (.exit 0 (mkSt ((ys [] .nil)) ((), ())))) (fun _ => .l (.ret (mkSt ((ys [4] (.cons (.dat .bool) .nil))) ((false, ()), ()))))⟩
noncomputable def T_zat (a1_ : Y1) (a2_ : Y1) : Tr (Bool) :=
 .t (((List.length a1_ : Nat) : Int) != ((List.length a2_ : Nat) : Int))
 (.l false)
 (.c ((Unit) ⊕ (Unit)) (L_zat_0 (a1_, a2_) (0 : Int)) fun r5_ =>
 .s (Unit) (Unit) r5_
 (fun _ => .l true)
 (fun _ => .l false))
noncomputable def F_zat (a1_ : Y1) (a2_ : Y1) : Option (Bool) := (T_zat a1_ a2_).ev
noncomputable def A_zat : Sh := (.cons (.dat y1) (.cons (.dat y1) .nil))
noncomputable def I_zat : List (Nat × OSh) := []
noncomputable def K_zat : RetK := { acts := [], res := [.tmp 4], sh := (.cons (.dat .bool) .nil), obs := [], pins := [] }
noncomputable def D_zat : FD := ⟨A_zat, I_zat, [], Bool, fun x => F_zat x.1.1 x.1.2.1, fun r => ([.dat .bool r], [])⟩
noncomputable def E_zat : Env := envOf []
noncomputable def Z_zat : Nat → Nat → List Nat := fun _ _ => []
noncomputable def O_zat : List (Nat × LD) := [(0, DL_zat_0)]
noncomputable def C_zat : Code := (f21.body).getD .skip
noncomputable def T_zbw (a1_ : Y1) (a2_ : Y1) (a3_ : Y1) (a4_ : Y3) (a5_ : List Y1) : Tr (Bool × (Bool)) :=
 .c (Bool) (F_zce a1_ a2_ a3_ a4_) fun r1_ =>
 .t (!r1_)
 (.l (false, false))
 (.c (Bool) (F_zci a1_ a2_ a3_ a4_ a5_) fun r2_ =>
 .l (r2_, true))
noncomputable def F_zbw (a1_ : Y1) (a2_ : Y1) (a3_ : Y1) (a4_ : Y3) (a5_ : List Y1) : Option (Bool × (Bool)) := (T_zbw a1_ a2_ a3_ a4_ a5_).ev
noncomputable def A_zbw : Sh := (.cons (.agg (.cons (.dat y1) (.cons (.dat y1) (.cons (.dat y1) (.cons (.dat y3) .nil))))) (.cons (.dat y2) .nil))
noncomputable def I_zbw : List (Nat × OSh) := []
noncomputable def K_zbw : RetK := { acts := [], res := [.tmp 4, .tmp 5], sh := (.cons (.dat .bool) (.cons (.dat .bool) .nil)), obs := [], pins := [] }
noncomputable def D_zbw : FD := ⟨A_zbw, I_zbw, [], Bool × (Bool), fun x => F_zbw x.1.1.1 x.1.1.2.1 x.1.1.2.2.1 x.1.1.2.2.2.1 x.1.2.1, fun r => ([.dat .bool r.1, .dat .bool r.2], [])⟩
noncomputable def E_zbw : Env := envOf [(37, D_zce), (42, D_zci)]
noncomputable def Z_zbw : Nat → Nat → List Nat := fun _ _ => []
noncomputable def O_zbw : List (Nat × LD) := []
noncomputable def C_zbw : Code := (f23.body).getD .skip
noncomputable def S_zaj_0 (k : Int) (v : Int × Y1) : Tr ((Int × Y1) ⊕ Y1) :=
 .g (decide ((0 : Int) ≤ v.1)) <|
 .t (decide ((0 : Int) < (Int.fdiv k (2 ^ (min (Int.toNat v.1) (IntKind.bits .u64))))))
 (.c (Bool) (F_zai k v.1) fun r4_ =>
 .t r4_
 (.g (decide ((List.length v.2 + List.length ([v.1] : Y1)) * 8 ≤ 140737488355328)) <|
 .l (.inl ((IntKind.wrap .i64 (v.1 + (1 : Int))), (v.2 ++ ([v.1] : Y1)))))
 (.l (.inl ((IntKind.wrap .i64 (v.1 + (1 : Int))), v.2))))
 (.l (.inr v.2))
noncomputable def L_zaj_0 (k : Int) (v : Int × Y1) : Option Y1 := iter (fun v => (S_zaj_0 k v).ev) v
noncomputable def DL_zaj_0 : LD := ⟨{ acts := [], S := { slots := [0, 3, 4], sh := (.cons (.dat (.int .u64)) (.cons (.arr 5) (.cons (.dat yi) .nil))), obs := [(5, .arr 3 yi)] } }, [(0, { acts := [], S := { slots := [3], sh := (.cons (.arr 5) .nil), obs := [(5, .arr 3 yi)] } })], (yh [] .nil), Int, Int × Y1, Y1, fun k v => ((k, ((), (v.1, ()))), (v.2, ())), fun t => t.1.1, fun t => (t.1.2.2.1, t.2.1), S_zaj_0, fun _ r => .l (.exit 0 (mkSt ({ slots := [3], sh := (.cons (.arr 5) .nil), obs := [(5, .arr 3 yi)] }) (((), ()), (r, ()))))⟩
noncomputable def T_zaj (a1_ : Int) : Tr Y1 :=
 .c Y1 (L_zaj_0 a1_ ((0 : Int), ([] : Y1))) fun r6_ =>
 .l r6_
noncomputable def F_zaj (a1_ : Int) : Option Y1 := (T_zaj a1_).ev
noncomputable def A_zaj : Sh := (.cons (.dat (.int .u64)) .nil)
noncomputable def I_zaj : List (Nat × OSh) := []
noncomputable def K_zaj : RetK := { acts := [.ren 5 0], res := [.tmp 2], sh := (.cons (.arr 0) .nil), obs := [(0, .arr 3 yi)], pins := [] }
noncomputable def D_zaj : FD := ⟨A_zaj, I_zaj, [], Y1, fun x => F_zaj x.1.1, fun r => ([.arr 0], [(0, .arr 3 yi r)])⟩
noncomputable def E_zaj : Env := envOf [(92, D_zai)]
noncomputable def Z_zaj : Nat → Nat → List Nat := fun _ _ => []
noncomputable def O_zaj : List (Nat × LD) := [(0, DL_zaj_0)]
noncomputable def C_zaj : Code := (f89.body).getD .skip
noncomputable def T_zax (a1_ : Int) : Tr (Int) :=
 .t (decide ((4294967296 : Int) ≤ a1_))
 (.g (decide ((0 : Int) ≤ (32 : Int))) <|
 .t (decide ((65536 : Int) ≤ (Int.fdiv a1_ (2 ^ (min (Int.toNat (32 : Int)) (IntKind.bits .u64))))))
 (.g (decide ((0 : Int) ≤ (16 : Int))) <|
 .t (decide ((256 : Int) ≤ (Int.fdiv (Int.fdiv a1_ (2 ^ (min (Int.toNat (32 : Int)) (IntKind.bits .u64)))) (2 ^ (min (Int.toNat (16 : Int)) (IntKind.bits .u64))))))
 (.g (decide ((0 : Int) ≤ (8 : Int))) <|
 .g (inR (IntKind.wrap .u8 (Int.fdiv (Int.fdiv (Int.fdiv a1_ (2 ^ (min (Int.toNat (32 : Int)) (IntKind.bits .u64)))) (2 ^ (min (Int.toNat (16 : Int)) (IntKind.bits .u64)))) (2 ^ (min (Int.toNat (8 : Int)) (IntKind.bits .u64))))) (List.length ([0, 1, 2, 2, 3, 3, 3, 3, 4, 4, 4, 4, 4, 4, 4, 4, 5, 5, 5, 5, 5, 5, 5, 5, 5, 5, 5, 5, 5, 5, 5, 5, 6, 6, 6, 6, 6, 6, 6, 6, 6, 6, 6, 6, 6, 6, 6, 6, 6, 6, 6, 6, 6, 6, 6, 6, 6, 6, 6, 6, 6, 6, 6, 6, 7, 7, 7, 7, 7, 7, 7, 7, 7, 7, 7, 7, 7, 7, 7, 7, 7, 7, 7, 7, 7, 7, 7, 7, 7, 7, 7, 7, 7, 7, 7, 7, 7, 7, 7, 7, 7, 7, 7, 7, 7, 7, 7, 7, 7, 7, 7, 7, 7, 7, 7, 7, 7, 7, 7, 7, 7, 7, 7, 7, 7, 7, 7, 7, 8, 8, 8, 8, 8, 8, 8, 8, 8, 8, 8, 8, 8, 8, 8, 8, 8, 8, 8, 8, 8, 8, 8, 8, 8, 8, 8, 8, 8, 8, 8, 8, 8, 8, 8, 8, 8, 8, 8, 8, 8, 8, 8, 8, 8, 8, 8, 8, 8, 8, 8, 8, 8, 8, 8, 8, 8, 8, 8, 8, 8, 8, 8, 8, 8, 8, 8, 8, 8, 8, 8, 8, 8, 8, 8, 8, 8, 8, 8, 8, 8, 8, 8, 8, 8, 8, 8, 8, 8, 8, 8, 8, 8, 8, 8, 8, 8, 8, 8, 8, 8, 8, 8, 8, 8, 8, 8, 8, 8, 8, 8, 8, 8, 8, 8, 8, 8, 8, 8, 8, 8, 8, 8, 8, 8, 8, 8, 8] : List UInt8))) <|
 .l (IntKind.wrap .i64 ((IntKind.wrap .i64 ((IntKind.wrap .i64 ((32 : Int) + (16 : Int))) + (8 : Int))) + (IntKind.wrap .i64 ((UInt8.toNat (List.getD ([0, 1, 2, 2, 3, 3, 3, 3, 4, 4, 4, 4, 4, 4, 4, 4, 5, 5, 5, 5, 5, 5, 5, 5, 5, 5, 5, 5, 5, 5, 5, 5, 6, 6, 6, 6, 6, 6, 6, 6, 6, 6, 6, 6, 6, 6, 6, 6, 6, 6, 6, 6, 6, 6, 6, 6, 6, 6, 6, 6, 6, 6, 6, 6, 7, 7, 7, 7, 7, 7, 7, 7, 7, 7, 7, 7, 7, 7, 7, 7, 7, 7, 7, 7, 7, 7, 7, 7, 7, 7, 7, 7, 7, 7, 7, 7, 7, 7, 7, 7, 7, 7, 7, 7, 7, 7, 7, 7, 7, 7, 7, 7, 7, 7, 7, 7, 7, 7, 7, 7, 7, 7, 7, 7, 7, 7, 7, 7, 8, 8, 8, 8, 8, 8, 8, 8, 8, 8, 8, 8, 8, 8, 8, 8, 8, 8, 8, 8, 8, 8, 8, 8, 8, 8, 8, 8, 8, 8, 8, 8, 8, 8, 8, 8, 8, 8, 8, 8, 8, 8, 8, 8, 8, 8, 8, 8, 8, 8, 8, 8, 8, 8, 8, 8, 8, 8, 8, 8, 8, 8, 8, 8, 8, 8, 8, 8, 8, 8, 8, 8, 8, 8, 8, 8, 8, 8, 8, 8, 8, 8, 8, 8, 8, 8, 8, 8, 8, 8, 8, 8, 8, 8, 8, 8, 8, 8, 8, 8, 8, 8, 8, 8, 8, 8, 8, 8, 8, 8, 8, 8, 8, 8, 8, 8, 8, 8, 8, 8, 8, 8, 8, 8, 8, 8, 8, 8] : List UInt8) (Int.toNat (IntKind.wrap .u8 (Int.fdiv (Int.fdiv (Int.fdiv a1_ (2 ^ (min (Int.toNat (32 : Int)) (IntKind.bits .u64)))) (2 ^ (min (Int.toNat (16 : Int)) (IntKind.bits .u64)))) (2 ^ (min (Int.toNat (8 : Int)) (IntKind.bits .u64)))))) 0) : Nat) : Int)))))
 (.g (inR (IntKind.wrap .u8 (Int.fdiv (Int.fdiv a1_ (2 ^ (min (Int.toNat (32 : Int)) (IntKind.bits .u64)))) (2 ^ (min (Int.toNat (16 : Int)) (IntKind.bits .u64))))) (List.length ([0, 1, 2, 2, 3, 3, 3, 3, 4, 4, 4, 4, 4, 4, 4, 4, 5, 5, 5, 5, 5, 5, 5, 5, 5, 5, 5, 5, 5, 5, 5, 5, 6, 6, 6, 6, 6, 6, 6, 6, 6, 6, 6, 6, 6, 6, 6, 6, 6, 6, 6, 6, 6, 6, 6, 6, 6, 6, 6, 6, 6, 6, 6, 6, 7, 7, 7, 7, 7, 7, 7, 7, 7, 7, 7, 7, 7, 7, 7, 7, 7, 7, 7, 7, 7, 7, 7, 7, 7, 7, 7, 7, 7, 7, 7, 7, 7, 7, 7, 7, 7, 7, 7, 7, 7, 7, 7, 7, 7, 7, 7, 7, 7, 7, 7, 7, 7, 7, 7, 7, 7, 7, 7, 7, 7, 7, 7, 7, 8, 8, 8, 8, 8, 8, 8, 8, 8, 8, 8, 8, 8, 8, 8, 8, 8, 8, 8, 8, 8, 8, 8, 8, 8, 8, 8, 8, 8, 8, 8, 8, 8, 8, 8, 8, 8, 8, 8, 8, 8, 8, 8, 8, 8, 8, 8, 8, 8, 8, 8, 8, 8, 8, 8, 8, 8, 8, 8, 8, 8, 8, 8, 8, 8, 8, 8, 8, 8, 8, 8, 8, 8, 8, 8, 8, 8, 8, 8, 8, 8, 8, 8, 8, 8, 8, 8, 8, 8, 8, 8, 8, 8, 8, 8, 8, 8, 8, 8, 8, 8, 8, 8, 8, 8, 8, 8, 8, 8, 8, 8, 8, 8, 8, 8, 8, 8, 8, 8, 8, 8, 8, 8, 8, 8, 8, 8, 8] : List UInt8))) <|
 .l (IntKind.wrap .i64 ((IntKind.wrap .i64 ((32 : Int) + (16 : Int))) + (IntKind.wrap .i64 ((UInt8.toNat (List.getD ([0, 1, 2, 2, 3, 3, 3, 3, 4, 4, 4, 4, 4, 4, 4, 4, 5, 5, 5, 5, 5, 5, 5, 5, 5, 5, 5, 5, 5, 5, 5, 5, 6, 6, 6, 6, 6, 6, 6, 6, 6, 6, 6, 6, 6, 6, 6, 6, 6, 6, 6, 6, 6, 6, 6, 6, 6, 6, 6, 6, 6, 6, 6, 6, 7, 7, 7, 7, 7, 7, 7, 7, 7, 7, 7, 7, 7, 7, 7, 7, 7, 7, 7, 7, 7, 7, 7, 7, 7, 7, 7, 7, 7, 7, 7, 7, 7, 7, 7, 7, 7, 7, 7, 7, 7, 7, 7, 7, 7, 7, 7, 7, 7, 7, 7, 7, 7, 7, 7, 7, 7, 7, 7, 7, 7, 7, 7, 7, 8, 8, 8, 8, 8, 8, 8, 8, 8, 8, 8, 8, 8, 8, 8, 8, 8, 8, 8, 8, 8, 8, 8, 8, 8, 8, 8, 8, 8, 8, 8, 8, 8, 8, 8, 8, 8, 8, 8, 8, 8, 8, 8, 8, 8, 8, 8, 8, 8, 8, 8, 8, 8, 8, 8, 8, 8, 8, 8, 8, 8, 8, 8, 8, 8, 8, 8, 8, 8, 8, 8, 8, 8, 8, 8, 8, 8, 8, 8, 8, 8, 8, 8, 8, 8, 8, 8, 8, 8, 8, 8, 8, 8, 8, 8, 8, 8, 8, 8, 8, 8, 8, 8, 8, 8, 8, 8, 8, 8, 8, 8, 8, 8, 8, 8, 8, 8, 8, 8, 8, 8, 8, 8, 8, 8, 8, 8, 8] : List UInt8) (Int.toNat (IntKind.wrap .u8 (Int.fdiv (Int.fdiv a1_ (2 ^ (min (Int.toNat (32 : Int)) (IntKind.bits .u64)))) (2 ^ (min (Int.toNat (16 : Int)) (IntKind.bits .u64)))))) 0) : Nat) : Int))))))
 (.t (decide ((256 : Int) ≤ (Int.fdiv a1_ (2 ^ (min (Int.toNat (32 : Int)) (IntKind.bits .u64))))))
 (.g (decide ((0 : Int) ≤ (8 : Int))) <|
 .g (inR (IntKind.wrap .u8 (Int.fdiv (Int.fdiv a1_ (2 ^ (min (Int.toNat (32 : Int)) (IntKind.bits .u64)))) (2 ^ (min (Int.toNat (8 : Int)) (IntKind.bits .u64))))) (List.length ([0, 1, 2, 2, 3, 3, 3, 3, 4, 4, 4, 4, 4, 4, 4, 4, 5, 5, 5, 5, 5, 5, 5, 5, 5, 5, 5, 5, 5, 5, 5, 5, 6, 6, 6, 6, 6, 6, 6, 6, 6, 6, 6, 6, 6, 6, 6, 6, 6, 6, 6, 6, 6, 6, 6, 6, 6, 6, 6, 6, 6, 6, 6, 6, 7, 7, 7, 7, 7, 7, 7, 7, 7, 7, 7, 7, 7, 7, 7, 7, 7, 7, 7, 7, 7, 7, 7, 7, 7, 7, 7, 7, 7, 7, 7, 7, 7, 7, 7, 7, 7, 7, 7, 7, 7, 7, 7, 7, 7, 7, 7, 7, 7, 7, 7, 7, 7, 7, 7, 7, 7, 7, 7, 7, 7, 7, 7, 7, 8, 8, 8, 8, 8, 8, 8, 8, 8, 8, 8, 8, 8, 8, 8, 8, 8, 8, 8, 8, 8, 8, 8, 8, 8, 8, 8, 8, 8, 8, 8, 8, 8, 8, 8, 8, 8, 8, 8, 8, 8, 8, 8, 8, 8, 8, 8, 8, 8, 8, 8, 8, 8, 8, 8, 8, 8, 8, 8, 8, 8, 8, 8, 8, 8, 8, 8, 8, 8, 8, 8, 8, 8, 8, 8, 8, 8, 8, 8, 8, 8, 8, 8, 8, 8, 8, 8, 8, 8, 8, 8, 8, 8, 8, 8, 8, 8, 8, 8, 8, 8, 8, 8, 8, 8, 8, 8, 8, 8, 8, 8, 8, 8, 8, 8, 8, 8, 8, 8, 8, 8, 8, 8, 8, 8, 8, 8, 8] : List UInt8))) <|
 .l (IntKind.wrap .i64 ((IntKind.wrap .i64 ((32 : Int) + (8 : Int))) + (IntKind.wrap .i64 ((UInt8.toNat (List.getD ([0, 1, 2, 2, 3, 3, 3, 3, 4, 4, 4, 4, 4, 4, 4, 4, 5, 5, 5, 5, 5, 5, 5, 5, 5, 5, 5, 5, 5, 5, 5, 5, 6, 6, 6, 6, 6, 6, 6, 6, 6, 6, 6, 6, 6, 6, 6, 6, 6, 6, 6, 6, 6, 6, 6, 6, 6, 6, 6, 6, 6, 6, 6, 6, 7, 7, 7, 7, 7, 7, 7, 7, 7, 7, 7, 7, 7, 7, 7, 7, 7, 7, 7, 7, 7, 7, 7, 7, 7, 7, 7, 7, 7, 7, 7, 7, 7, 7, 7, 7, 7, 7, 7, 7, 7, 7, 7, 7, 7, 7, 7, 7, 7, 7, 7, 7, 7, 7, 7, 7, 7, 7, 7, 7, 7, 7, 7, 7, 8, 8, 8, 8, 8, 8, 8, 8, 8, 8, 8, 8, 8, 8, 8, 8, 8, 8, 8, 8, 8, 8, 8, 8, 8, 8, 8, 8, 8, 8, 8, 8, 8, 8, 8, 8, 8, 8, 8, 8, 8, 8, 8, 8, 8, 8, 8, 8, 8, 8, 8, 8, 8, 8, 8, 8, 8, 8, 8, 8, 8, 8, 8, 8, 8, 8, 8, 8, 8, 8, 8, 8, 8, 8, 8, 8, 8, 8, 8, 8, 8, 8, 8, 8, 8, 8, 8, 8, 8, 8, 8, 8, 8, 8, 8, 8, 8, 8, 8, 8, 8, 8, 8, 8, 8, 8, 8, 8, 8, 8, 8, 8, 8, 8, 8, 8, 8, 8, 8, 8, 8, 8, 8, 8, 8, 8, 8, 8] : List UInt8) (Int.toNat (IntKind.wrap .u8 (Int.fdiv (Int.fdiv a1_ (2 ^ (min (Int.toNat (32 : Int)) (IntKind.bits .u64)))) (2 ^ (min (Int.toNat (8 : Int)) (IntKind.bits .u64)))))) 0) : Nat) : Int)))))
 (.g (inR (IntKind.wrap .u8 (Int.fdiv a1_ (2 ^ (min (Int.toNat (32 : Int)) (IntKind.bits .u64))))) (List.length ([0, 1, 2, 2, 3, 3, 3, 3, 4, 4, 4, 4, 4, 4, 4, 4, 5, 5, 5, 5, 5, 5, 5, 5, 5, 5, 5, 5, 5, 5, 5, 5, 6, 6, 6, 6, 6, 6, 6, 6, 6, 6, 6, 6, 6, 6, 6, 6, 6, 6, 6, 6, 6, 6, 6, 6, 6, 6, 6, 6, 6, 6, 6, 6, 7, 7, 7, 7, 7, 7, 7, 7, 7, 7, 7, 7, 7, 7, 7, 7, 7, 7, 7, 7, 7, 7, 7, 7, 7, 7, 7, 7, 7, 7, 7, 7, 7, 7, 7, 7, 7, 7, 7, 7, 7, 7, 7, 7, 7, 7, 7, 7, 7, 7, 7, 7, 7, 7, 7, 7, 7, 7, 7, 7, 7, 7, 7, 7, 8, 8, 8, 8, 8, 8, 8, 8, 8, 8, 8, 8, 8, 8, 8, 8, 8, 8, 8, 8, 8, 8, 8, 8, 8, 8, 8, 8, 8, 8, 8, 8, 8, 8, 8, 8, 8, 8, 8, 8, 8, 8, 8, 8, 8, 8, 8, 8, 8, 8, 8, 8, 8, 8, 8, 8, 8, 8, 8, 8, 8, 8, 8, 8, 8, 8, 8, 8, 8, 8, 8, 8, 8, 8, 8, 8, 8, 8, 8, 8, 8, 8, 8, 8, 8, 8, 8, 8, 8, 8, 8, 8, 8, 8, 8, 8, 8, 8, 8, 8, 8, 8, 8, 8, 8, 8, 8, 8, 8, 8, 8, 8, 8, 8, 8, 8, 8, 8, 8, 8, 8, 8, 8, 8, 8, 8, 8, 8] : List UInt8))) <|
 .l (IntKind.wrap .i64 ((32 : Int) + (IntKind.wrap .i64 ((UInt8.toNat (List.getD ([0, 1, 2, 2, 3, 3, 3, 3, 4, 4, 4, 4, 4, 4, 4, 4, 5, 5, 5, 5, 5, 5, 5, 5, 5, 5, 5, 5, 5, 5, 5, 5, 6, 6, 6, 6, 6, 6, 6, 6, 6, 6, 6, 6, 6, 6, 6, 6, 6, 6, 6, 6, 6, 6, 6, 6, 6, 6, 6, 6, 6, 6, 6, 6, 7, 7, 7, 7, 7, 7, 7, 7, 7, 7, 7, 7, 7, 7, 7, 7, 7, 7, 7, 7, 7, 7, 7, 7, 7, 7, 7, 7, 7, 7, 7, 7, 7, 7, 7, 7, 7, 7, 7, 7, 7, 7, 7, 7, 7, 7, 7, 7, 7, 7, 7, 7, 7, 7, 7, 7, 7, 7, 7, 7, 7, 7, 7, 7, 8, 8, 8, 8, 8, 8, 8, 8, 8, 8, 8, 8, 8, 8, 8, 8, 8, 8, 8, 8, 8, 8, 8, 8, 8, 8, 8, 8, 8, 8, 8, 8, 8, 8, 8, 8, 8, 8, 8, 8, 8, 8, 8, 8, 8, 8, 8, 8, 8, 8, 8, 8, 8, 8, 8, 8, 8, 8, 8, 8, 8, 8, 8, 8, 8, 8, 8, 8, 8, 8, 8, 8, 8, 8, 8, 8, 8, 8, 8, 8, 8, 8, 8, 8, 8, 8, 8, 8, 8, 8, 8, 8, 8, 8, 8, 8, 8, 8, 8, 8, 8, 8, 8, 8, 8, 8, 8, 8, 8, 8, 8, 8, 8, 8, 8, 8, 8, 8, 8, 8, 8, 8, 8, 8, 8, 8, 8, 8] : List UInt8) (Int.toNat (IntKind.wrap .u8 (Int.fdiv a1_ (2 ^ (min (Int.toNat (32 : Int)) (IntKind.bits .u64)))))) 0) : Nat) : Int)))))))
 (.t (decide ((65536 : Int) ≤ a1_))
 (.g (decide ((0 : Int) ≤ (16 : Int))) <|
 .t (decide ((256 : Int) ≤ (Int.fdiv a1_ (2 ^ (min (Int.toNat (16 : Int)) (IntKind.bits .u64))))))
 (.g (decide ((0 : Int) ≤ (8 : Int))) <|
 .g (inR (IntKind.wrap .u8 (Int.fdiv (Int.fdiv a1_ (2 ^ (min (Int.toNat (16 : Int)) (IntKind.bits .u64)))) (2 ^ (min (Int.toNat (8 : Int)) (IntKind.bits .u64))))) (List.length ([0, 1, 2, 2, 3, 3, 3, 3, 4, 4, 4, 4, 4, 4, 4, 4, 5, 5, 5, 5, 5, 5, 5, 5, 5, 5, 5, 5, 5, 5, 5, 5, 6, 6, 6, 6, 6, 6, 6, 6, 6, 6, 6, 6, 6, 6, 6, 6, 6, 6, 6, 6, 6, 6, 6, 6, 6, 6, 6, 6, 6, 6, 6, 6, 7, 7, 7, 7, 7, 7, 7, 7, 7, 7, 7, 7, 7, 7, 7, 7, 7, 7, 7, 7, 7, 7, 7, 7, 7, 7, 7, 7, 7, 7, 7, 7, 7, 7, 7, 7, 7, 7, 7, 7, 7, 7, 7, 7, 7, 7, 7, 7, 7, 7, 7, 7, 7, 7, 7, 7, 7, 7, 7, 7, 7, 7, 7, 7, 8, 8, 8, 8, 8, 8, 8, 8, 8, 8, 8, 8, 8, 8, 8, 8, 8, 8, 8, 8, 8, 8, 8, 8, 8, 8, 8, 8, 8, 8, 8, 8, 8, 8, 8, 8, 8, 8, 8, 8, 8, 8, 8, 8, 8, 8, 8, 8, 8, 8, 8, 8, 8, 8, 8, 8, 8, 8, 8, 8, 8, 8, 8, 8, 8, 8, 8, 8, 8, 8, 8, 8, 8, 8, 8, 8, 8, 8, 8, 8, 8, 8, 8, 8, 8, 8, 8, 8, 8, 8, 8, 8, 8, 8, 8, 8, 8, 8, 8, 8, 8, 8, 8, 8, 8, 8, 8, 8, 8, 8, 8, 8, 8, 8, 8, 8, 8, 8, 8, 8, 8, 8, 8, 8, 8, 8, 8, 8] : List UInt8))) <|
 .l (IntKind.wrap .i64 ((IntKind.wrap .i64 ((IntKind.wrap .i64 ((0 : Int) + (16 : Int))) + (8 : Int))) + (IntKind.wrap .i64 ((UInt8.toNat (List.getD ([0, 1, 2, 2, 3, 3, 3, 3, 4, 4, 4, 4, 4, 4, 4, 4, 5, 5, 5, 5, 5, 5, 5, 5, 5, 5, 5, 5, 5, 5, 5, 5, 6, 6, 6, 6, 6, 6, 6, 6, 6, 6, 6, 6, 6, 6, 6, 6, 6, 6, 6, 6, 6, 6, 6, 6, 6, 6, 6, 6, 6, 6, 6, 6, 7, 7, 7, 7, 7, 7, 7, 7, 7, 7, 7, 7, 7, 7, 7, 7, 7, 7, 7, 7, 7, 7, 7, 7, 7, 7, 7, 7, 7, 7, 7, 7, 7, 7, 7, 7, 7, 7, 7, 7, 7, 7, 7, 7, 7, 7, 7, 7, 7, 7, 7, 7, 7, 7, 7, 7, 7, 7, 7, 7, 7, 7, 7, 7, 8, 8, 8, 8, 8, 8, 8, 8, 8, 8, 8, 8, 8, 8, 8, 8, 8, 8, 8, 8, 8, 8, 8, 8, 8, 8, 8, 8, 8, 8, 8, 8, 8, 8, 8, 8, 8, 8, 8, 8, 8, 8, 8, 8, 8, 8, 8, 8, 8, 8, 8, 8, 8, 8, 8, 8, 8, 8, 8, 8, 8, 8, 8, 8, 8, 8, 8, 8, 8, 8, 8, 8, 8, 8, 8, 8, 8, 8, 8, 8, 8, 8, 8, 8, 8, 8, 8, 8, 8, 8, 8, 8, 8, 8, 8, 8, 8, 8, 8, 8, 8, 8, 8, 8, 8, 8, 8, 8, 8, 8, 8, 8, 8, 8, 8, 8, 8, 8, 8, 8, 8, 8, 8, 8, 8, 8, 8, 8] : List UInt8) (Int.toNat (IntKind.wrap .u8 (Int.fdiv (Int.fdiv a1_ (2 ^ (min (Int.toNat (16 : Int)) (IntKind.bits .u64)))) (2 ^ (min (Int.toNat (8 : Int)) (IntKind.bits .u64)))))) 0) : Nat) : Int)))))
 (.g (inR (IntKind.wrap .u8 (Int.fdiv a1_ (2 ^ (min (Int.toNat (16 : Int)) (IntKind.bits .u64))))) (List.length ([0, 1, 2, 2, 3, 3, 3, 3, 4, 4, 4, 4, 4, 4, 4, 4, 5, 5, 5, 5, 5, 5, 5, 5, 5, 5, 5, 5, 5, 5, 5, 5, 6, 6, 6, 6, 6, 6, 6, 6, 6, 6, 6, 6, 6, 6, 6, 6, 6, 6, 6, 6, 6, 6, 6, 6, 6, 6, 6, 6, 6, 6, 6, 6, 7, 7, 7, 7, 7, 7, 7, 7, 7, 7, 7, 7, 7, 7, 7, 7, 7, 7, 7, 7, 7, 7, 7, 7, 7, 7, 7, 7, 7, 7, 7, 7, 7, 7, 7, 7, 7, 7, 7, 7, 7, 7, 7, 7, 7, 7, 7, 7, 7, 7, 7, 7, 7, 7, 7, 7, 7, 7, 7, 7, 7, 7, 7, 7, 8, 8, 8, 8, 8, 8, 8, 8, 8, 8, 8, 8, 8, 8, 8, 8, 8, 8, 8, 8, 8, 8, 8, 8, 8, 8, 8, 8, 8, 8, 8, 8, 8, 8, 8, 8, 8, 8, 8, 8, 8, 8, 8, 8, 8, 8, 8, 8, 8, 8, 8, 8, 8, 8, 8, 8, 8, 8, 8, 8, 8, 8, 8, 8, 8, 8, 8, 8, 8, 8, 8, 8, 8, 8, 8, 8, 8, 8, 8, 8, 8, 8, 8, 8, 8, 8, 8, 8, 8, 8, 8, 8, 8, 8, 8, 8, 8, 8, 8, 8, 8, 8, 8, 8, 8, 8, 8, 8, 8, 8, 8, 8, 8, 8, 8, 8, 8, 8, 8, 8, 8, 8, 8, 8, 8, 8, 8, 8] : List UInt8))) <|
 .l (IntKind.wrap .i64 ((IntKind.wrap .i64 ((0 : Int) + (16 : Int))) + (IntKind.wrap .i64 ((UInt8.toNat (List.getD ([0, 1, 2, 2, 3, 3, 3, 3, 4, 4, 4, 4, 4, 4, 4, 4, 5, 5, 5, 5, 5, 5, 5, 5, 5, 5, 5, 5, 5, 5, 5, 5, 6, 6, 6, 6, 6, 6, 6, 6, 6, 6, 6, 6, 6, 6, 6, 6, 6, 6, 6, 6, 6, 6, 6, 6, 6, 6, 6, 6, 6, 6, 6, 6, 7, 7, 7, 7, 7, 7, 7, 7, 7, 7, 7, 7, 7, 7, 7, 7, 7, 7, 7, 7, 7, 7, 7, 7, 7, 7, 7, 7, 7, 7, 7, 7, 7, 7, 7, 7, 7, 7, 7, 7, 7, 7, 7, 7, 7, 7, 7, 7, 7, 7, 7, 7, 7, 7, 7, 7, 7, 7, 7, 7, 7, 7, 7, 7, 8, 8, 8, 8, 8, 8, 8, 8, 8, 8, 8, 8, 8, 8, 8, 8, 8, 8, 8, 8, 8, 8, 8, 8, 8, 8, 8, 8, 8, 8, 8, 8, 8, 8, 8, 8, 8, 8, 8, 8, 8, 8, 8, 8, 8, 8, 8, 8, 8, 8, 8, 8, 8, 8, 8, 8, 8, 8, 8, 8, 8, 8, 8, 8, 8, 8, 8, 8, 8, 8, 8, 8, 8, 8, 8, 8, 8, 8, 8, 8, 8, 8, 8, 8, 8, 8, 8, 8, 8, 8, 8, 8, 8, 8, 8, 8, 8, 8, 8, 8, 8, 8, 8, 8, 8, 8, 8, 8, 8, 8, 8, 8, 8, 8, 8, 8, 8, 8, 8, 8, 8, 8, 8, 8, 8, 8, 8, 8] : List UInt8) (Int.toNat (IntKind.wrap .u8 (Int.fdiv a1_ (2 ^ (min (Int.toNat (16 : Int)) (IntKind.bits .u64)))))) 0) : Nat) : Int))))))
 (.t (decide ((256 : Int) ≤ a1_))
 (.g (decide ((0 : Int) ≤ (8 : Int))) <|
 .g (inR (IntKind.wrap .u8 (Int.fdiv a1_ (2 ^ (min (Int.toNat (8 : Int)) (IntKind.bits .u64))))) (List.length ([0, 1, 2, 2, 3, 3, 3, 3, 4, 4, 4, 4, 4, 4, 4, 4, 5, 5, 5, 5, 5, 5, 5, 5, 5, 5, 5, 5, 5, 5, 5, 5, 6, 6, 6, 6, 6, 6, 6, 6, 6, 6, 6, 6, 6, 6, 6, 6, 6, 6, 6, 6, 6, 6, 6, 6, 6, 6, 6, 6, 6, 6, 6, 6, 7, 7, 7, 7, 7, 7, 7, 7, 7, 7, 7, 7, 7, 7, 7, 7, 7, 7, 7, 7, 7, 7, 7, 7, 7, 7, 7, 7, 7, 7, 7, 7, 7, 7, 7, 7, 7, 7, 7, 7, 7, 7, 7, 7, 7, 7, 7, 7, 7, 7, 7, 7, 7, 7, 7, 7, 7, 7, 7, 7, 7, 7, 7, 7, 8, 8, 8, 8, 8, 8, 8, 8, 8, 8, 8, 8, 8, 8, 8, 8, 8, 8, 8, 8, 8, 8, 8, 8, 8, 8, 8, 8, 8, 8, 8, 8, 8, 8, 8, 8, 8, 8, 8, 8, 8, 8, 8, 8, 8, 8, 8, 8, 8, 8, 8, 8, 8, 8, 8, 8, 8, 8, 8, 8, 8, 8, 8, 8, 8, 8, 8, 8, 8, 8, 8, 8, 8, 8, 8, 8, 8, 8, 8, 8, 8, 8, 8, 8, 8, 8, 8, 8, 8, 8, 8, 8, 8, 8, 8, 8, 8, 8, 8, 8, 8, 8, 8, 8, 8, 8, 8, 8, 8, 8, 8, 8, 8, 8, 8, 8, 8, 8, 8, 8, 8, 8, 8, 8, 8, 8, 8, 8] : List UInt8))) <|
 .l (IntKind.wrap .i64 ((IntKind.wrap .i64 ((0 : Int) + (8 : Int))) + (IntKind.wrap .i64 ((UInt8.toNat (List.getD ([0, 1, 2, 2, 3, 3, 3, 3, 4, 4, 4, 4, 4, 4, 4, 4, 5, 5, 5, 5, 5, 5, 5, 5, 5, 5, 5, 5, 5, 5, 5, 5, 6, 6, 6, 6, 6, 6, 6, 6, 6, 6, 6, 6, 6, 6, 6, 6, 6, 6, 6, 6, 6, 6, 6, 6, 6, 6, 6, 6, 6, 6, 6, 6, 7, 7, 7, 7, 7, 7, 7, 7, 7, 7, 7, 7, 7, 7, 7, 7, 7, 7, 7, 7, 7, 7, 7, 7, 7, 7, 7, 7, 7, 7, 7, 7, 7, 7, 7, 7, 7, 7, 7, 7, 7, 7, 7, 7, 7, 7, 7, 7, 7, 7, 7, 7, 7, 7, 7, 7, 7, 7, 7, 7, 7, 7, 7, 7, 8, 8, 8, 8, 8, 8, 8, 8, 8, 8, 8, 8, 8, 8, 8, 8, 8, 8, 8, 8, 8, 8, 8, 8, 8, 8, 8, 8, 8, 8, 8, 8, 8, 8, 8, 8, 8, 8, 8, 8, 8, 8, 8, 8, 8, 8, 8, 8, 8, 8, 8, 8, 8, 8, 8, 8, 8, 8, 8, 8, 8, 8, 8, 8, 8, 8, 8, 8, 8, 8, 8, 8, 8, 8, 8, 8, 8, 8, 8, 8, 8, 8, 8, 8, 8, 8, 8, 8, 8, 8, 8, 8, 8, 8, 8, 8, 8, 8, 8, 8, 8, 8, 8, 8, 8, 8, 8, 8, 8, 8, 8, 8, 8, 8, 8, 8, 8, 8, 8, 8, 8, 8, 8, 8, 8, 8, 8, 8] : List UInt8) (Int.toNat (IntKind.wrap .u8 (Int.fdiv a1_ (2 ^ (min (Int.toNat (8 : Int)) (IntKind.bits .u64)))))) 0) : Nat) : Int)))))
 (.g (inR (IntKind.wrap .u8 a1_) (List.length ([0, 1, 2, 2, 3, 3, 3, 3, 4, 4, 4, 4, 4, 4, 4, 4, 5, 5, 5, 5, 5, 5, 5, 5, 5, 5, 5, 5, 5, 5, 5, 5, 6, 6, 6, 6, 6, 6, 6, 6, 6, 6, 6, 6, 6, 6, 6, 6, 6, 6, 6, 6, 6, 6, 6, 6, 6, 6, 6, 6, 6, 6, 6, 6, 7, 7, 7, 7, 7, 7, 7, 7, 7, 7, 7, 7, 7, 7, 7, 7, 7, 7, 7, 7, 7, 7, 7, 7, 7, 7, 7, 7, 7, 7, 7, 7, 7, 7, 7, 7, 7, 7, 7, 7, 7, 7, 7, 7, 7, 7, 7, 7, 7, 7, 7, 7, 7, 7, 7, 7, 7, 7, 7, 7, 7, 7, 7, 7, 8, 8, 8, 8, 8, 8, 8, 8, 8, 8, 8, 8, 8, 8, 8, 8, 8, 8, 8, 8, 8, 8, 8, 8, 8, 8, 8, 8, 8, 8, 8, 8, 8, 8, 8, 8, 8, 8, 8, 8, 8, 8, 8, 8, 8, 8, 8, 8, 8, 8, 8, 8, 8, 8, 8, 8, 8, 8, 8, 8, 8, 8, 8, 8, 8, 8, 8, 8, 8, 8, 8, 8, 8, 8, 8, 8, 8, 8, 8, 8, 8, 8, 8, 8, 8, 8, 8, 8, 8, 8, 8, 8, 8, 8, 8, 8, 8, 8, 8, 8, 8, 8, 8, 8, 8, 8, 8, 8, 8, 8, 8, 8, 8, 8, 8, 8, 8, 8, 8, 8, 8, 8, 8, 8, 8, 8, 8, 8] : List UInt8))) <|
 .l (IntKind.wrap .i64 ((0 : Int) + (IntKind.wrap .i64 ((UInt8.toNat (List.getD ([0, 1, 2, 2, 3, 3, 3, 3, 4, 4, 4, 4, 4, 4, 4, 4, 5, 5, 5, 5, 5, 5, 5, 5, 5, 5, 5, 5, 5, 5, 5, 5, 6, 6, 6, 6, 6, 6, 6, 6, 6, 6, 6, 6, 6, 6, 6, 6, 6, 6, 6, 6, 6, 6, 6, 6, 6, 6, 6, 6, 6, 6, 6, 6, 7, 7, 7, 7, 7, 7, 7, 7, 7, 7, 7, 7, 7, 7, 7, 7, 7, 7, 7, 7, 7, 7, 7, 7, 7, 7, 7, 7, 7, 7, 7, 7, 7, 7, 7, 7, 7, 7, 7, 7, 7, 7, 7, 7, 7, 7, 7, 7, 7, 7, 7, 7, 7, 7, 7, 7, 7, 7, 7, 7, 7, 7, 7, 7, 8, 8, 8, 8, 8, 8, 8, 8, 8, 8, 8, 8, 8, 8, 8, 8, 8, 8, 8, 8, 8, 8, 8, 8, 8, 8, 8, 8, 8, 8, 8, 8, 8, 8, 8, 8, 8, 8, 8, 8, 8, 8, 8, 8, 8, 8, 8, 8, 8, 8, 8, 8, 8, 8, 8, 8, 8, 8, 8, 8, 8, 8, 8, 8, 8, 8, 8, 8, 8, 8, 8, 8, 8, 8, 8, 8, 8, 8, 8, 8, 8, 8, 8, 8, 8, 8, 8, 8, 8, 8, 8, 8, 8, 8, 8, 8, 8, 8, 8, 8, 8, 8, 8, 8, 8, 8, 8, 8, 8, 8, 8, 8, 8, 8, 8, 8, 8, 8, 8, 8, 8, 8, 8, 8, 8, 8, 8, 8] : List UInt8) (Int.toNat (IntKind.wrap .u8 a1_)) 0) : Nat) : Int)))))))
noncomputable def F_zax (a1_ : Int) : Option (Int) := (T_zax a1_).ev
noncomputable def A_zax : Sh := (.cons (.dat (.int .u64)) .nil)
noncomputable def I_zax : List (Nat × OSh) := []
noncomputable def K_zax : RetK := { acts := [], res := [.tmp 2], sh := (.cons (.dat yi) .nil), obs := [], pins := [] }
noncomputable def D_zax : FD := ⟨A_zax, I_zax, [], Int, fun x => F_zax x.1.1, fun r => ([.dat yi r], [])⟩
noncomputable def E_zax : Env := envOf []
noncomputable def Z_zax : Nat → Nat → List Nat := fun _ _ => []
noncomputable def O_zax : List (Nat × LD) := []
noncomputable def C_zax : Code := (f127.body).getD .skip
noncomputable def T_zaw (a1_ : Int) : Tr (Int) :=
 .c (Int) (F_zax a1_) fun r1_ =>
 .l r1_
noncomputable def F_zaw (a1_ : Int) : Option (Int) := (T_zaw a1_).ev
noncomputable def A_zaw : Sh := (.cons (.dat (.int .u64)) .nil)
noncomputable def I_zaw : List (Nat × OSh) := []
noncomputable def K_zaw : RetK := { acts := [], res := [.tmp 2], sh := (.cons (.dat yi) .nil), obs := [], pins := [] }
noncomputable def D_zaw : FD := ⟨A_zaw, I_zaw, [], Int, fun x => F_zaw x.1.1, fun r => ([.dat yi r], [])⟩
noncomputable def E_zaw : Env := envOf [(127, D_zax)]
noncomputable def Z_zaw : Nat → Nat → List Nat := fun _ _ => []
noncomputable def O_zaw : List (Nat × LD) := []
noncomputable def C_zaw : Code := (f112.body).getD .skip
noncomputable def S_zbk_2 (k : Int × (Int × (((HL [y1, y1] → Option (Int))) × Int))) (v : Int × Y2) : Tr ((Int × Y2) ⊕ Y2) :=
 .t (decide (k.1 < v.1))
 (.g (inR v.1 (List.length v.2)) <|
 .g (decide ((Int.toNat v.1) < List.length v.2)) <|
 .g (inR (IntKind.wrap .i64 (v.1 - (1 : Int))) (List.length v.2)) <|
 .g (decide ((Int.toNat (IntKind.wrap .i64 (v.1 - (1 : Int)))) < List.length v.2)) <|
 .c (Int) (k.2.2.1 ((List.getD v.2 (Int.toNat v.1) ([] : Y1)), ((List.getD v.2 (Int.toNat (IntKind.wrap .i64 (v.1 - (1 : Int)))) ([] : Y1)), ()))) fun r12_ =>
 .t (decide (r12_ < (0 : Int)))
 (.g (inR (IntKind.wrap .i64 (v.1 - (1 : Int))) (List.length v.2)) <|
 .g (decide ((Int.toNat (IntKind.wrap .i64 (v.1 - (1 : Int)))) < List.length v.2)) <|
 .g (inR v.1 (List.length v.2)) <|
 .g (decide ((Int.toNat v.1) < List.length v.2)) <|
 .g (inR v.1 (List.length v.2)) <|
 .g (decide ((Int.toNat v.1) < List.length v.2)) <|
 .g (inR (IntKind.wrap .i64 (v.1 - (1 : Int))) (List.length (List.set v.2 (Int.toNat v.1) (List.getD v.2 (Int.toNat (IntKind.wrap .i64 (v.1 - (1 : Int)))) ([] : Y1))))) <|
 .g (decide ((Int.toNat (IntKind.wrap .i64 (v.1 - (1 : Int)))) < List.length (List.set v.2 (Int.toNat v.1) (List.getD v.2 (Int.toNat (IntKind.wrap .i64 (v.1 - (1 : Int)))) ([] : Y1))))) <|
 .l (.inl ((IntKind.wrap .i64 (v.1 - (1 : Int))), (List.set (List.set v.2 (Int.toNat v.1) (List.getD v.2 (Int.toNat (IntKind.wrap .i64 (v.1 - (1 : Int)))) ([] : Y1))) (Int.toNat (IntKind.wrap .i64 (v.1 - (1 : Int)))) (List.getD v.2 (Int.toNat v.1) ([] : Y1))))))
 (.l (.inr v.2)))
 (.l (.inr v.2))
noncomputable def L_zbk_2 (k : Int × (Int × (((HL [y1, y1] → Option (Int))) × Int))) (v : Int × Y2) : Option Y2 := iter (fun v => (S_zbk_2 k v).ev) v
noncomputable def DL_zbk_2 : LD := ⟨{ acts := [], S := { slots := [0, 1, 2, 3, 8, 9], sh := (.cons (.arr 64) (.cons (.dat yi) (.cons (.dat yi) (.cons (.clo [y1, y1] yi) (.cons (.dat yi) (.cons (.dat yi) .nil)))))), obs := [(64, .arr 24 y1)] } }, [(2, { acts := [], S := { slots := [0, 1, 2, 3, 8], sh := (.cons (.arr 64) (.cons (.dat yi) (.cons (.dat yi) (.cons (.clo [y1, y1] yi) (.cons (.dat yi) .nil))))), obs := [(64, .arr 24 y1)] } })], (yh [] .nil), Int × (Int × (((HL [y1, y1] → Option (Int))) × Int)), Int × Y2, List Y1, fun k v => (((), (k.1, (k.2.1, (k.2.2.1, (k.2.2.2, (v.1, ())))))), (v.2, ())), fun t => (t.1.2.1, (t.1.2.2.1, (t.1.2.2.2.1, t.1.2.2.2.2.1))), fun t => (t.1.2.2.2.2.2.1, t.2.1), S_zbk_2, fun k r => .l (.exit 2 (mkSt ({ slots := [0, 1, 2, 3, 8], sh := (.cons (.arr 64) (.cons (.dat yi) (.cons (.dat yi) (.cons (.clo [y1, y1] yi) (.cons (.dat yi) .nil))))), obs := [(64, .arr 24 y1)] }) (((), (k.1, (k.2.1, (k.2.2.1, (k.2.2.2, ()))))), (r, ()))))⟩
noncomputable def S_zbk_0 (k : Int × (Int × ((HL [y1, y1] → Option (Int))))) (v : Int × Y2) : Tr ((Int × Y2) ⊕ Y2) :=
 .t (decide (v.1 < k.2.1))
 (.c Y2 (L_zbk_2 (k.1, (k.2.1, (k.2.2, v.1))) (v.1, v.2)) fun r18_ =>
 .l (.inl ((IntKind.wrap .i64 (v.1 + (1 : Int))), r18_)))
 (.l (.inr v.2))
noncomputable def L_zbk_0 (k : Int × (Int × ((HL [y1, y1] → Option (Int))))) (v : Int × Y2) : Option Y2 := iter (fun v => (S_zbk_0 k v).ev) v
noncomputable def DL_zbk_0 : LD := ⟨{ acts := [], S := { slots := [0, 1, 2, 3, 8], sh := (.cons (.arr 64) (.cons (.dat yi) (.cons (.dat yi) (.cons (.clo [y1, y1] yi) (.cons (.dat yi) .nil))))), obs := [(64, .arr 24 y1)] } }, [(0, { acts := [], S := { slots := [0], sh := (.cons (.arr 64) .nil), obs := [(64, .arr 24 y1)] } })], (yh [] .nil), Int × (Int × ((HL [y1, y1] → Option (Int)))), Int × Y2, List Y1, fun k v => (((), (k.1, (k.2.1, (k.2.2, (v.1, ()))))), (v.2, ())), fun t => (t.1.2.1, (t.1.2.2.1, t.1.2.2.2.1)), fun t => (t.1.2.2.2.2.1, t.2.1), S_zbk_0, fun _ r => .l (.exit 0 (mkSt ({ slots := [0], sh := (.cons (.arr 64) .nil), obs := [(64, .arr 24 y1)] }) (((), ()), (r, ()))))⟩
noncomputable def T_zbk (a2_ : Int) (a3_ : Int) (a4_ : (HL [y1, y1] → Option (Int))) (a1_ : List Y1) : Tr Y2 :=
 .c Y2 (L_zbk_0 (a2_, (a3_, a4_)) ((IntKind.wrap .i64 (a2_ + (1 : Int))), a1_)) fun r20_ =>
 .l r20_
noncomputable def F_zbk (a2_ : Int) (a3_ : Int) (a4_ : (HL [y1, y1] → Option (Int))) (a1_ : List Y1) : Option Y2 := (T_zbk a2_ a3_ a4_ a1_).ev
noncomputable def A_zbk : Sh := (.cons (.arr 64) (.cons (.dat yi) (.cons (.dat yi) (.cons (.clo [y1, y1] yi) .nil))))
noncomputable def I_zbk : List (Nat × OSh) := [(64, .arr 24 y1)]
noncomputable def K_zbk : RetK := { acts := [], res := [], sh := .nil, obs := [(64, .arr 24 y1)], pins := [(0, 0, 64)] }
noncomputable def D_zbk : FD := ⟨A_zbk, I_zbk, [.arg 0], List Y1, fun x => F_zbk x.1.2.1 x.1.2.2.1 x.1.2.2.2.1 x.2.1, fun r => ([], [(64, .arr 24 y1 r)])⟩
noncomputable def E_zbk : Env := envOf []
noncomputable def Z_zbk : Nat → Nat → List Nat := fun _ _ => []
noncomputable def O_zbk : List (Nat × LD) := [(2, DL_zbk_2), (0, DL_zbk_0)]
noncomputable def C_zbk : Code := (f118.body).getD .skip
noncomputable def T_zbn (a1_ : List Y1) (a2_ : Int) (a3_ : Int) (a5_ : (HL [y1, y1] → Option (Int))) (a4_ : Int) : Tr (Int × (Int × Int)) :=
 .g (inR a3_ (List.length a1_)) <|
 .g (inR a2_ (List.length a1_)) <|
 .c (Int) (a5_ ((List.getD a1_ (Int.toNat a3_) ([] : Y1)), ((List.getD a1_ (Int.toNat a2_) ([] : Y1)), ()))) fun r1_ =>
 .t (decide (r1_ < (0 : Int)))
 (.l (a3_, (a2_, (IntKind.wrap .i64 (a4_ + (1 : Int))))))
 (.l (a2_, (a3_, a4_)))
noncomputable def F_zbn (a1_ : List Y1) (a2_ : Int) (a3_ : Int) (a5_ : (HL [y1, y1] → Option (Int))) (a4_ : Int) : Option (Int × (Int × Int)) := (T_zbn a1_ a2_ a3_ a5_ a4_).ev
noncomputable def A_zbn : Sh := (.cons (.dat y2) (.cons (.dat yi) (.cons (.dat yi) (.cons (.box 64 0) (.cons (.clo [y1, y1] yi) .nil)))))
noncomputable def I_zbn : List (Nat × OSh) := [(64, .cells (.cons (.dat yi) .nil))]
noncomputable def K_zbn : RetK := { acts := [], res := [.tmp 10, .tmp 11], sh := (.cons (.dat yi) (.cons (.dat yi) .nil)), obs := [(64, .cells (.cons (.dat yi) .nil))], pins := [(3, 0, 64)] }
noncomputable def D_zbn : FD := ⟨A_zbn, I_zbn, [.arg 3], Int × (Int × Int), fun x => F_zbn x.1.1 x.1.2.1 x.1.2.2.1 x.1.2.2.2.2.1 x.2.1.1, fun r => ([.dat yi r.1, .dat yi r.2.1], [(64, .cells [.dat yi r.2.2])])⟩
noncomputable def E_zbn : Env := envOf []
noncomputable def Z_zbn : Nat → Nat → List Nat := fun _ _ => []
noncomputable def O_zbn : List (Nat × LD) := []
noncomputable def C_zbn : Code := (f134.body).getD .skip
noncomputable def T_zbm (a1_ : List Y1) (a2_ : Int) (a3_ : Int) (a4_ : Int) (a6_ : (HL [y1, y1] → Option (Int))) (a5_ : Int) : Tr (Int × Int) :=
 .c (Int × (Int × Int)) (F_zbn a1_ a2_ a3_ a6_ a5_) fun r1_ =>
 .c (Int × (Int × Int)) (F_zbn a1_ r1_.2.1 a4_ a6_ r1_.2.2) fun r2_ =>
 .c (Int × (Int × Int)) (F_zbn a1_ r1_.1 r2_.1 a6_ r2_.2.2) fun r3_ =>
 .l (r3_.2.1, r3_.2.2)
noncomputable def F_zbm (a1_ : List Y1) (a2_ : Int) (a3_ : Int) (a4_ : Int) (a6_ : (HL [y1, y1] → Option (Int))) (a5_ : Int) : Option (Int × Int) := (T_zbm a1_ a2_ a3_ a4_ a6_ a5_).ev
noncomputable def A_zbm : Sh := (.cons (.dat y2) (.cons (.dat yi) (.cons (.dat yi) (.cons (.dat yi) (.cons (.box 64 0) (.cons (.clo [y1, y1] yi) .nil))))))
noncomputable def I_zbm : List (Nat × OSh) := [(64, .cells (.cons (.dat yi) .nil))]
noncomputable def K_zbm : RetK := { acts := [], res := [.tmp 12], sh := (.cons (.dat yi) .nil), obs := [(64, .cells (.cons (.dat yi) .nil))], pins := [(4, 0, 64)] }
noncomputable def D_zbm : FD := ⟨A_zbm, I_zbm, [.arg 4], Int × (Int), fun x => F_zbm x.1.1 x.1.2.1 x.1.2.2.1 x.1.2.2.2.1 x.1.2.2.2.2.2.1 x.2.1.1, fun r => ([.dat yi r.1], [(64, .cells [.dat yi r.2])])⟩
noncomputable def E_zbm : Env := envOf [(134, D_zbn)]
noncomputable def Z_zbm : Nat → Nat → List Nat := fun _ _ => []
noncomputable def O_zbm : List (Nat × LD) := []
noncomputable def C_zbm : Code := (f133.body).getD .skip
noncomputable def T_zbl (a1_ : List Y1) (a2_ : Int) (a4_ : (HL [y1, y1] → Option (Int))) (a3_ : Int) : Tr (Int × Int) :=
 .c (Int × Int) (F_zbm a1_ (IntKind.wrap .i64 (a2_ - (1 : Int))) a2_ (IntKind.wrap .i64 (a2_ + (1 : Int))) a4_ a3_) fun r1_ =>
 .l (r1_.1, r1_.2)
noncomputable def F_zbl (a1_ : List Y1) (a2_ : Int) (a4_ : (HL [y1, y1] → Option (Int))) (a3_ : Int) : Option (Int × Int) := (T_zbl a1_ a2_ a4_ a3_).ev
noncomputable def A_zbl : Sh := (.cons (.dat y2) (.cons (.dat yi) (.cons (.box 64 0) (.cons (.clo [y1, y1] yi) .nil))))
noncomputable def I_zbl : List (Nat × OSh) := [(64, .cells (.cons (.dat yi) .nil))]
noncomputable def K_zbl : RetK := { acts := [], res := [.tmp 8], sh := (.cons (.dat yi) .nil), obs := [(64, .cells (.cons (.dat yi) .nil))], pins := [(2, 0, 64)] }
noncomputable def D_zbl : FD := ⟨A_zbl, I_zbl, [.arg 2], Int × (Int), fun x => F_zbl x.1.1 x.1.2.1 x.1.2.2.2.1 x.2.1.1, fun r => ([.dat yi r.1], [(64, .cells [.dat yi r.2])])⟩
noncomputable def E_zbl : Env := envOf [(133, D_zbm)]
noncomputable def Z_zbl : Nat → Nat → List Nat := fun _ _ => []
noncomputable def O_zbl : List (Nat × LD) := []
noncomputable def C_zbl : Code := (f132.body).getD .skip
noncomputable def T_zbj (a1_ : List Y1) (a2_ : Int) (a3_ : Int) (a4_ : (HL [y1, y1] → Option (Int))) : Tr (Int × Int) :=
 .g (!decide ((4 : Int) = 0)) <|
 .g (!decide ((4 : Int) = 0)) <|
 .g (!decide ((4 : Int) = 0)) <|
 .t (decide ((8 : Int) ≤ (IntKind.wrap .i64 (a3_ - a2_))))
 (.t (decide ((50 : Int) ≤ (IntKind.wrap .i64 (a3_ - a2_))))
 (.c (Int × Int) (F_zbl a1_ (IntKind.wrap .i64 (a2_ + (IntKind.wrap .i64 ((IntKind.wrap .i64 (Int.tdiv (IntKind.wrap .i64 (a3_ - a2_)) (4 : Int))) * (1 : Int))))) a4_ (0 : Int)) fun r1_ =>
 .c (Int × Int) (F_zbl a1_ (IntKind.wrap .i64 (a2_ + (IntKind.wrap .i64 ((IntKind.wrap .i64 (Int.tdiv (IntKind.wrap .i64 (a3_ - a2_)) (4 : Int))) * (2 : Int))))) a4_ r1_.2) fun r2_ =>
 .c (Int × Int) (F_zbl a1_ (IntKind.wrap .i64 (a2_ + (IntKind.wrap .i64 ((IntKind.wrap .i64 (Int.tdiv (IntKind.wrap .i64 (a3_ - a2_)) (4 : Int))) * (3 : Int))))) a4_ r2_.2) fun r3_ =>
 .c (Int × Int) (F_zbm a1_ r1_.1 r2_.1 r3_.1 a4_ r3_.2) fun r4_ =>
 .t (r4_.2 == (0 : Int))
 (.l (r4_.1, (1 : Int)))
 (.t (r4_.2 == (12 : Int))
 (.l (r4_.1, (2 : Int)))
 (.l (r4_.1, (0 : Int)))))
 (.c (Int × Int) (F_zbm a1_ (IntKind.wrap .i64 (a2_ + (IntKind.wrap .i64 ((IntKind.wrap .i64 (Int.tdiv (IntKind.wrap .i64 (a3_ - a2_)) (4 : Int))) * (1 : Int))))) (IntKind.wrap .i64 (a2_ + (IntKind.wrap .i64 ((IntKind.wrap .i64 (Int.tdiv (IntKind.wrap .i64 (a3_ - a2_)) (4 : Int))) * (2 : Int))))) (IntKind.wrap .i64 (a2_ + (IntKind.wrap .i64 ((IntKind.wrap .i64 (Int.tdiv (IntKind.wrap .i64 (a3_ - a2_)) (4 : Int))) * (3 : Int))))) a4_ (0 : Int)) fun r5_ =>
 .t (r5_.2 == (0 : Int))
 (.l (r5_.1, (1 : Int)))
 (.t (r5_.2 == (12 : Int))
 (.l (r5_.1, (2 : Int)))
 (.l (r5_.1, (0 : Int))))))
 (.t ((0 : Int) == (0 : Int))
 (.l ((IntKind.wrap .i64 (a2_ + (IntKind.wrap .i64 ((IntKind.wrap .i64 (Int.tdiv (IntKind.wrap .i64 (a3_ - a2_)) (4 : Int))) * (2 : Int))))), (1 : Int)))
 (.t ((0 : Int) == (12 : Int))
 (.l ((IntKind.wrap .i64 (a2_ + (IntKind.wrap .i64 ((IntKind.wrap .i64 (Int.tdiv (IntKind.wrap .i64 (a3_ - a2_)) (4 : Int))) * (2 : Int))))), (2 : Int)))
 (.l ((IntKind.wrap .i64 (a2_ + (IntKind.wrap .i64 ((IntKind.wrap .i64 (Int.tdiv (IntKind.wrap .i64 (a3_ - a2_)) (4 : Int))) * (2 : Int))))), (0 : Int)))))
noncomputable def F_zbj (a1_ : List Y1) (a2_ : Int) (a3_ : Int) (a4_ : (HL [y1, y1] → Option (Int))) : Option (Int × Int) := (T_zbj a1_ a2_ a3_ a4_).ev
noncomputable def A_zbj : Sh := (.cons (.dat y2) (.cons (.dat yi) (.cons (.dat yi) (.cons (.clo [y1, y1] yi) .nil))))
noncomputable def I_zbj : List (Nat × OSh) := []
noncomputable def K_zbj : RetK := { acts := [], res := [.tmp 8, .tmp 9], sh := (.cons (.dat yi) (.cons (.dat yi) .nil)), obs := [], pins := [] }
noncomputable def D_zbj : FD := ⟨A_zbj, I_zbj, [], Int × (Int), fun x => F_zbj x.1.1 x.1.2.1 x.1.2.2.1 x.1.2.2.2.1, fun r => ([.dat yi r.1, .dat yi r.2], [])⟩
noncomputable def E_zbj : Env := envOf [(132, D_zbl), (133, D_zbm)]
noncomputable def Z_zbj : Nat → Nat → List Nat := fun _ _ => []
noncomputable def O_zbj : List (Nat × LD) := []
noncomputable def C_zbj : Code := (f121.body).getD .skip
noncomputable def S_zbo_0 (k : Int × (((HL [y1, y1] → Option (Int))) × (Int × Y2))) (v : Int) : Tr ((Int) ⊕ (Int)) :=
 .t (decide (v ≤ k.2.2.1))
 (.g (inR v (List.length k.2.2.2)) <|
 .g (decide ((Int.toNat v) < List.length k.2.2.2)) <|
 .g (inR k.1 (List.length k.2.2.2)) <|
 .g (decide ((Int.toNat k.1) < List.length k.2.2.2)) <|
 .c (Int) (k.2.1 ((List.getD k.2.2.2 (Int.toNat v) ([] : Y1)), ((List.getD k.2.2.2 (Int.toNat k.1) ([] : Y1)), ()))) fun r6_ =>
 .t (decide (r6_ < (0 : Int)))
 (.l (.inl (IntKind.wrap .i64 (v + (1 : Int)))))
 (.l (.inr v)))
 (.l (.inr v))
noncomputable def L_zbo_0 (k : Int × (((HL [y1, y1] → Option (Int))) × (Int × Y2))) (v : Int) : Option (Int) := iter (fun v => (S_zbo_0 k v).ev) v
noncomputable def DL_zbo_0 : LD := ⟨{ acts := [], S := { slots := [0, 1, 4, 12, 13], sh := (.cons (.arr 64) (.cons (.dat yi) (.cons (.clo [y1, y1] yi) (.cons (.dat yi) (.cons (.dat yi) .nil))))), obs := [(64, .arr 24 y1)] } }, [(0, { acts := [], S := { slots := [0, 1, 4, 12, 13], sh := (.cons (.arr 64) (.cons (.dat yi) (.cons (.clo [y1, y1] yi) (.cons (.dat yi) (.cons (.dat yi) .nil))))), obs := [(64, .arr 24 y1)] } })], (yh [] .nil), Int × (((HL [y1, y1] → Option (Int))) × (Int × Y2)), Int, Int, fun k v => (((), (k.1, (k.2.1, (v, (k.2.2.1, ()))))), (k.2.2.2, ())), fun t => (t.1.2.1, (t.1.2.2.1, (t.1.2.2.2.2.1, t.2.1))), fun t => t.1.2.2.2.1, S_zbo_0, fun k r => .l (.exit 0 (mkSt ({ slots := [0, 1, 4, 12, 13], sh := (.cons (.arr 64) (.cons (.dat yi) (.cons (.clo [y1, y1] yi) (.cons (.dat yi) (.cons (.dat yi) .nil))))), obs := [(64, .arr 24 y1)] }) (((), (k.1, (k.2.1, (r, (k.2.2.1, ()))))), (k.2.2.2, ()))))⟩
noncomputable def S_zbo_2 (k : Int × (((HL [y1, y1] → Option (Int))) × (Int × Y2))) (v : Int) : Tr ((Int) ⊕ (Int)) :=
 .t (decide (k.2.2.1 ≤ v))
 (.g (inR v (List.length k.2.2.2)) <|
 .g (decide ((Int.toNat v) < List.length k.2.2.2)) <|
 .g (inR k.1 (List.length k.2.2.2)) <|
 .g (decide ((Int.toNat k.1) < List.length k.2.2.2)) <|
 .c (Int) (k.2.1 ((List.getD k.2.2.2 (Int.toNat v) ([] : Y1)), ((List.getD k.2.2.2 (Int.toNat k.1) ([] : Y1)), ()))) fun r18_ =>
 .t (!(decide (r18_ < (0 : Int))))
 (.l (.inl (IntKind.wrap .i64 (v - (1 : Int)))))
 (.l (.inr v)))
 (.l (.inr v))
noncomputable def L_zbo_2 (k : Int × (((HL [y1, y1] → Option (Int))) × (Int × Y2))) (v : Int) : Option (Int) := iter (fun v => (S_zbo_2 k v).ev) v
noncomputable def DL_zbo_2 : LD := ⟨{ acts := [], S := { slots := [0, 1, 4, 12, 13], sh := (.cons (.arr 64) (.cons (.dat yi) (.cons (.clo [y1, y1] yi) (.cons (.dat yi) (.cons (.dat yi) .nil))))), obs := [(64, .arr 24 y1)] } }, [(2, { acts := [], S := { slots := [0, 1, 4, 12, 13], sh := (.cons (.arr 64) (.cons (.dat yi) (.cons (.clo [y1, y1] yi) (.cons (.dat yi) (.cons (.dat yi) .nil))))), obs := [(64, .arr 24 y1)] } })], (yh [] .nil), Int × (((HL [y1, y1] → Option (Int))) × (Int × Y2)), Int, Int, fun k v => (((), (k.1, (k.2.1, (k.2.2.1, (v, ()))))), (k.2.2.2, ())), fun t => (t.1.2.1, (t.1.2.2.1, (t.1.2.2.2.1, t.2.1))), fun t => t.1.2.2.2.2.1, S_zbo_2, fun k r => .l (.exit 2 (mkSt ({ slots := [0, 1, 4, 12, 13], sh := (.cons (.arr 64) (.cons (.dat yi) (.cons (.clo [y1, y1] yi) (.cons (.dat yi) (.cons (.dat yi) .nil))))), obs := [(64, .arr 24 y1)] }) (((), (k.1, (k.2.1, (k.2.2.1, (r, ()))))), (k.2.2.2, ()))))⟩
noncomputable def S_zbo_6 (k : Int × (((HL [y1, y1] → Option (Int))) × (Int × Y2))) (v : Int) : Tr ((Int) ⊕ (Int)) :=
 .t (decide (v ≤ k.2.2.1))
 (.g (inR v (List.length k.2.2.2)) <|
 .g (decide ((Int.toNat v) < List.length k.2.2.2)) <|
 .g (inR k.1 (List.length k.2.2.2)) <|
 .g (decide ((Int.toNat k.1) < List.length k.2.2.2)) <|
 .c (Int) (k.2.1 ((List.getD k.2.2.2 (Int.toNat v) ([] : Y1)), ((List.getD k.2.2.2 (Int.toNat k.1) ([] : Y1)), ()))) fun r35_ =>
 .t (decide (r35_ < (0 : Int)))
 (.l (.inl (IntKind.wrap .i64 (v + (1 : Int)))))
 (.l (.inr v)))
 (.l (.inr v))
noncomputable def L_zbo_6 (k : Int × (((HL [y1, y1] → Option (Int))) × (Int × Y2))) (v : Int) : Option (Int) := iter (fun v => (S_zbo_6 k v).ev) v
noncomputable def DL_zbo_6 : LD := ⟨{ acts := [], S := { slots := [0, 1, 4, 12, 13], sh := (.cons (.arr 64) (.cons (.dat yi) (.cons (.clo [y1, y1] yi) (.cons (.dat yi) (.cons (.dat yi) .nil))))), obs := [(64, .arr 24 y1)] } }, [(6, { acts := [], S := { slots := [0, 1, 4, 12, 13], sh := (.cons (.arr 64) (.cons (.dat yi) (.cons (.clo [y1, y1] yi) (.cons (.dat yi) (.cons (.dat yi) .nil))))), obs := [(64, .arr 24 y1)] } })], (yh [] .nil), Int × (((HL [y1, y1] → Option (Int))) × (Int × Y2)), Int, Int, fun k v => (((), (k.1, (k.2.1, (v, (k.2.2.1, ()))))), (k.2.2.2, ())), fun t => (t.1.2.1, (t.1.2.2.1, (t.1.2.2.2.2.1, t.2.1))), fun t => t.1.2.2.2.1, S_zbo_6, fun k r => .l (.exit 6 (mkSt ({ slots := [0, 1, 4, 12, 13], sh := (.cons (.arr 64) (.cons (.dat yi) (.cons (.clo [y1, y1] yi) (.cons (.dat yi) (.cons (.dat yi) .nil))))), obs := [(64, .arr 24 y1)] }) (((), (k.1, (k.2.1, (r, (k.2.2.1, ()))))), (k.2.2.2, ()))))⟩
noncomputable def S_zbo_8 (k : Int × (((HL [y1, y1] → Option (Int))) × (Int × Y2))) (v : Int) : Tr ((Int) ⊕ (Int)) :=
 .t (decide (k.2.2.1 ≤ v))
 (.g (inR v (List.length k.2.2.2)) <|
 .g (decide ((Int.toNat v) < List.length k.2.2.2)) <|
 .g (inR k.1 (List.length k.2.2.2)) <|
 .g (decide ((Int.toNat k.1) < List.length k.2.2.2)) <|
 .c (Int) (k.2.1 ((List.getD k.2.2.2 (Int.toNat v) ([] : Y1)), ((List.getD k.2.2.2 (Int.toNat k.1) ([] : Y1)), ()))) fun r47_ =>
 .t (!(decide (r47_ < (0 : Int))))
 (.l (.inl (IntKind.wrap .i64 (v - (1 : Int)))))
 (.l (.inr v)))
 (.l (.inr v))
noncomputable def L_zbo_8 (k : Int × (((HL [y1, y1] → Option (Int))) × (Int × Y2))) (v : Int) : Option (Int) := iter (fun v => (S_zbo_8 k v).ev) v
noncomputable def DL_zbo_8 : LD := ⟨{ acts := [], S := { slots := [0, 1, 4, 12, 13], sh := (.cons (.arr 64) (.cons (.dat yi) (.cons (.clo [y1, y1] yi) (.cons (.dat yi) (.cons (.dat yi) .nil))))), obs := [(64, .arr 24 y1)] } }, [(8, { acts := [], S := { slots := [0, 1, 4, 12, 13], sh := (.cons (.arr 64) (.cons (.dat yi) (.cons (.clo [y1, y1] yi) (.cons (.dat yi) (.cons (.dat yi) .nil))))), obs := [(64, .arr 24 y1)] } })], (yh [] .nil), Int × (((HL [y1, y1] → Option (Int))) × (Int × Y2)), Int, Int, fun k v => (((), (k.1, (k.2.1, (k.2.2.1, (v, ()))))), (k.2.2.2, ())), fun t => (t.1.2.1, (t.1.2.2.1, (t.1.2.2.2.1, t.2.1))), fun t => t.1.2.2.2.2.1, S_zbo_8, fun k r => .l (.exit 8 (mkSt ({ slots := [0, 1, 4, 12, 13], sh := (.cons (.arr 64) (.cons (.dat yi) (.cons (.clo [y1, y1] yi) (.cons (.dat yi) (.cons (.dat yi) .nil))))), obs := [(64, .arr 24 y1)] }) (((), (k.1, (k.2.1, (k.2.2.1, (r, ()))))), (k.2.2.2, ()))))⟩
noncomputable def S_zbo_4 (k : Int × ((HL [y1, y1] → Option (Int)))) (v : Int × (Int × Y2)) : Tr ((Int × (Int × Y2)) ⊕ (Int × Y2)) :=
 .c (Int) (L_zbo_6 (k.1, (k.2, (v.2.1, v.2.2))) v.1) fun r41_ =>
 .c (Int) (L_zbo_8 (k.1, (k.2, (r41_, v.2.2))) v.2.1) fun r53_ =>
 .t (decide (r53_ < r41_))
 (.l (.inr (r53_, v.2.2)))
 (.g (inR r53_ (List.length v.2.2)) <|
 .g (decide ((Int.toNat r53_) < List.length v.2.2)) <|
 .g (inR r41_ (List.length v.2.2)) <|
 .g (decide ((Int.toNat r41_) < List.length v.2.2)) <|
 .g (inR r41_ (List.length v.2.2)) <|
 .g (decide ((Int.toNat r41_) < List.length v.2.2)) <|
 .g (inR r53_ (List.length (List.set v.2.2 (Int.toNat r41_) (List.getD v.2.2 (Int.toNat r53_) ([] : Y1))))) <|
 .g (decide ((Int.toNat r53_) < List.length (List.set v.2.2 (Int.toNat r41_) (List.getD v.2.2 (Int.toNat r53_) ([] : Y1))))) <|
 .l (.inl ((IntKind.wrap .i64 (r41_ + (1 : Int))), ((IntKind.wrap .i64 (r53_ - (1 : Int))), (List.set (List.set v.2.2 (Int.toNat r41_) (List.getD v.2.2 (Int.toNat r53_) ([] : Y1))) (Int.toNat r53_) (List.getD v.2.2 (Int.toNat r41_) ([] : Y1)))))))
noncomputable def L_zbo_4 (k : Int × ((HL [y1, y1] → Option (Int)))) (v : Int × (Int × Y2)) : Option (Int × Y2) := iter (fun v => (S_zbo_4 k v).ev) v
noncomputable def DL_zbo_4 : LD := ⟨{ acts := [], S := { slots := [0, 1, 4, 12, 13], sh := (.cons (.arr 64) (.cons (.dat yi) (.cons (.clo [y1, y1] yi) (.cons (.dat yi) (.cons (.dat yi) .nil))))), obs := [(64, .arr 24 y1)] } }, [(4, { acts := [], S := { slots := [0, 1, 13], sh := (.cons (.arr 64) (.cons (.dat yi) (.cons (.dat yi) .nil))), obs := [(64, .arr 24 y1)] } })], (yh [] .nil), Int × ((HL [y1, y1] → Option (Int))), Int × (Int × Y2), Int × Y2, fun k v => (((), (k.1, (k.2, (v.1, (v.2.1, ()))))), (v.2.2, ())), fun t => (t.1.2.1, t.1.2.2.1), fun t => (t.1.2.2.2.1, (t.1.2.2.2.2.1, t.2.1)), S_zbo_4, fun k r => .l (.exit 4 (mkSt ({ slots := [0, 1, 13], sh := (.cons (.arr 64) (.cons (.dat yi) (.cons (.dat yi) .nil))), obs := [(64, .arr 24 y1)] }) (((), (k.1, (r.1, ()))), (r.2, ()))))⟩
noncomputable def T_zbo (a2_ : Int) (a3_ : Int) (a4_ : Int) (a5_ : (HL [y1, y1] → Option (Int))) (a1_ : List Y1) : Tr (Int × (Bool × Y2)) :=
 .g (inR a4_ (List.length a1_)) <|
 .g (decide ((Int.toNat a4_) < List.length a1_)) <|
 .g (inR a2_ (List.length a1_)) <|
 .g (decide ((Int.toNat a2_) < List.length a1_)) <|
 .g (inR a2_ (List.length a1_)) <|
 .g (decide ((Int.toNat a2_) < List.length a1_)) <|
 .g (inR a4_ (List.length (List.set a1_ (Int.toNat a2_) (List.getD a1_ (Int.toNat a4_) ([] : Y1))))) <|
 .g (decide ((Int.toNat a4_) < List.length (List.set a1_ (Int.toNat a2_) (List.getD a1_ (Int.toNat a4_) ([] : Y1))))) <|
 .c (Int) (L_zbo_0 (a2_, (a5_, ((IntKind.wrap .i64 (a3_ - (1 : Int))), (List.set (List.set a1_ (Int.toNat a2_) (List.getD a1_ (Int.toNat a4_) ([] : Y1))) (Int.toNat a4_) (List.getD a1_ (Int.toNat a2_) ([] : Y1)))))) (IntKind.wrap .i64 (a2_ + (1 : Int)))) fun r12_ =>
 .c (Int) (L_zbo_2 (a2_, (a5_, (r12_, (List.set (List.set a1_ (Int.toNat a2_) (List.getD a1_ (Int.toNat a4_) ([] : Y1))) (Int.toNat a4_) (List.getD a1_ (Int.toNat a2_) ([] : Y1)))))) (IntKind.wrap .i64 (a3_ - (1 : Int)))) fun r24_ =>
 .t (decide (r24_ < r12_))
 (.g (inR a2_ (List.length (List.set (List.set a1_ (Int.toNat a2_) (List.getD a1_ (Int.toNat a4_) ([] : Y1))) (Int.toNat a4_) (List.getD a1_ (Int.toNat a2_) ([] : Y1))))) <|
 .g (decide ((Int.toNat a2_) < List.length (List.set (List.set a1_ (Int.toNat a2_) (List.getD a1_ (Int.toNat a4_) ([] : Y1))) (Int.toNat a4_) (List.getD a1_ (Int.toNat a2_) ([] : Y1))))) <|
 .g (inR r24_ (List.length (List.set (List.set a1_ (Int.toNat a2_) (List.getD a1_ (Int.toNat a4_) ([] : Y1))) (Int.toNat a4_) (List.getD a1_ (Int.toNat a2_) ([] : Y1))))) <|
 .g (decide ((Int.toNat r24_) < List.length (List.set (List.set a1_ (Int.toNat a2_) (List.getD a1_ (Int.toNat a4_) ([] : Y1))) (Int.toNat a4_) (List.getD a1_ (Int.toNat a2_) ([] : Y1))))) <|
 .g (inR r24_ (List.length (List.set (List.set a1_ (Int.toNat a2_) (List.getD a1_ (Int.toNat a4_) ([] : Y1))) (Int.toNat a4_) (List.getD a1_ (Int.toNat a2_) ([] : Y1))))) <|
 .g (decide ((Int.toNat r24_) < List.length (List.set (List.set a1_ (Int.toNat a2_) (List.getD a1_ (Int.toNat a4_) ([] : Y1))) (Int.toNat a4_) (List.getD a1_ (Int.toNat a2_) ([] : Y1))))) <|
 .g (inR a2_ (List.length (List.set (List.set (List.set a1_ (Int.toNat a2_) (List.getD a1_ (Int.toNat a4_) ([] : Y1))) (Int.toNat a4_) (List.getD a1_ (Int.toNat a2_) ([] : Y1))) (Int.toNat r24_) (List.getD (List.set (List.set a1_ (Int.toNat a2_) (List.getD a1_ (Int.toNat a4_) ([] : Y1))) (Int.toNat a4_) (List.getD a1_ (Int.toNat a2_) ([] : Y1))) (Int.toNat a2_) ([] : Y1))))) <|
 .g (decide ((Int.toNat a2_) < List.length (List.set (List.set (List.set a1_ (Int.toNat a2_) (List.getD a1_ (Int.toNat a4_) ([] : Y1))) (Int.toNat a4_) (List.getD a1_ (Int.toNat a2_) ([] : Y1))) (Int.toNat r24_) (List.getD (List.set (List.set a1_ (Int.toNat a2_) (List.getD a1_ (Int.toNat a4_) ([] : Y1))) (Int.toNat a4_) (List.getD a1_ (Int.toNat a2_) ([] : Y1))) (Int.toNat a2_) ([] : Y1))))) <|
 .l (r24_, (true, (List.set (List.set (List.set (List.set a1_ (Int.toNat a2_) (List.getD a1_ (Int.toNat a4_) ([] : Y1))) (Int.toNat a4_) (List.getD a1_ (Int.toNat a2_) ([] : Y1))) (Int.toNat r24_) (List.getD (List.set (List.set a1_ (Int.toNat a2_) (List.getD a1_ (Int.toNat a4_) ([] : Y1))) (Int.toNat a4_) (List.getD a1_ (Int.toNat a2_) ([] : Y1))) (Int.toNat a2_) ([] : Y1))) (Int.toNat a2_) (List.getD (List.set (List.set a1_ (Int.toNat a2_) (List.getD a1_ (Int.toNat a4_) ([] : Y1))) (Int.toNat a4_) (List.getD a1_ (Int.toNat a2_) ([] : Y1))) (Int.toNat r24_) ([] : Y1))))))
 (.g (inR r24_ (List.length (List.set (List.set a1_ (Int.toNat a2_) (List.getD a1_ (Int.toNat a4_) ([] : Y1))) (Int.toNat a4_) (List.getD a1_ (Int.toNat a2_) ([] : Y1))))) <|
 .g (decide ((Int.toNat r24_) < List.length (List.set (List.set a1_ (Int.toNat a2_) (List.getD a1_ (Int.toNat a4_) ([] : Y1))) (Int.toNat a4_) (List.getD a1_ (Int.toNat a2_) ([] : Y1))))) <|
 .g (inR r12_ (List.length (List.set (List.set a1_ (Int.toNat a2_) (List.getD a1_ (Int.toNat a4_) ([] : Y1))) (Int.toNat a4_) (List.getD a1_ (Int.toNat a2_) ([] : Y1))))) <|
 .g (decide ((Int.toNat r12_) < List.length (List.set (List.set a1_ (Int.toNat a2_) (List.getD a1_ (Int.toNat a4_) ([] : Y1))) (Int.toNat a4_) (List.getD a1_ (Int.toNat a2_) ([] : Y1))))) <|
 .g (inR r12_ (List.length (List.set (List.set a1_ (Int.toNat a2_) (List.getD a1_ (Int.toNat a4_) ([] : Y1))) (Int.toNat a4_) (List.getD a1_ (Int.toNat a2_) ([] : Y1))))) <|
 .g (decide ((Int.toNat r12_) < List.length (List.set (List.set a1_ (Int.toNat a2_) (List.getD a1_ (Int.toNat a4_) ([] : Y1))) (Int.toNat a4_) (List.getD a1_ (Int.toNat a2_) ([] : Y1))))) <|
 .g (inR r24_ (List.length (List.set (List.set (List.set a1_ (Int.toNat a2_) (List.getD a1_ (Int.toNat a4_) ([] : Y1))) (Int.toNat a4_) (List.getD a1_ (Int.toNat a2_) ([] : Y1))) (Int.toNat r12_) (List.getD (List.set (List.set a1_ (Int.toNat a2_) (List.getD a1_ (Int.toNat a4_) ([] : Y1))) (Int.toNat a4_) (List.getD a1_ (Int.toNat a2_) ([] : Y1))) (Int.toNat r24_) ([] : Y1))))) <|
 .g (decide ((Int.toNat r24_) < List.length (List.set (List.set (List.set a1_ (Int.toNat a2_) (List.getD a1_ (Int.toNat a4_) ([] : Y1))) (Int.toNat a4_) (List.getD a1_ (Int.toNat a2_) ([] : Y1))) (Int.toNat r12_) (List.getD (List.set (List.set a1_ (Int.toNat a2_) (List.getD a1_ (Int.toNat a4_) ([] : Y1))) (Int.toNat a4_) (List.getD a1_ (Int.toNat a2_) ([] : Y1))) (Int.toNat r24_) ([] : Y1))))) <|
 .c (Int × Y2) (L_zbo_4 (a2_, a5_) ((IntKind.wrap .i64 (r12_ + (1 : Int))), ((IntKind.wrap .i64 (r24_ - (1 : Int))), (List.set (List.set (List.set (List.set a1_ (Int.toNat a2_) (List.getD a1_ (Int.toNat a4_) ([] : Y1))) (Int.toNat a4_) (List.getD a1_ (Int.toNat a2_) ([] : Y1))) (Int.toNat r12_) (List.getD (List.set (List.set a1_ (Int.toNat a2_) (List.getD a1_ (Int.toNat a4_) ([] : Y1))) (Int.toNat a4_) (List.getD a1_ (Int.toNat a2_) ([] : Y1))) (Int.toNat r24_) ([] : Y1))) (Int.toNat r24_) (List.getD (List.set (List.set a1_ (Int.toNat a2_) (List.getD a1_ (Int.toNat a4_) ([] : Y1))) (Int.toNat a4_) (List.getD a1_ (Int.toNat a2_) ([] : Y1))) (Int.toNat r12_) ([] : Y1)))))) fun r57_ =>
 .g (inR a2_ (List.length r57_.2)) <|
 .g (decide ((Int.toNat a2_) < List.length r57_.2)) <|
 .g (inR r57_.1 (List.length r57_.2)) <|
 .g (decide ((Int.toNat r57_.1) < List.length r57_.2)) <|
 .g (inR r57_.1 (List.length r57_.2)) <|
 .g (decide ((Int.toNat r57_.1) < List.length r57_.2)) <|
 .g (inR a2_ (List.length (List.set r57_.2 (Int.toNat r57_.1) (List.getD r57_.2 (Int.toNat a2_) ([] : Y1))))) <|
 .g (decide ((Int.toNat a2_) < List.length (List.set r57_.2 (Int.toNat r57_.1) (List.getD r57_.2 (Int.toNat a2_) ([] : Y1))))) <|
 .l (r57_.1, (false, (List.set (List.set r57_.2 (Int.toNat r57_.1) (List.getD r57_.2 (Int.toNat a2_) ([] : Y1))) (Int.toNat a2_) (List.getD r57_.2 (Int.toNat r57_.1) ([] : Y1))))))
noncomputable def F_zbo (a2_ : Int) (a3_ : Int) (a4_ : Int) (a5_ : (HL [y1, y1] → Option (Int))) (a1_ : List Y1) : Option (Int × (Bool × Y2)) := (T_zbo a2_ a3_ a4_ a5_ a1_).ev
noncomputable def A_zbo : Sh := (.cons (.arr 64) (.cons (.dat yi) (.cons (.dat yi) (.cons (.dat yi) (.cons (.clo [y1, y1] yi) .nil)))))
noncomputable def I_zbo : List (Nat × OSh) := [(64, .arr 24 y1)]
noncomputable def K_zbo : RetK := { acts := [], res := [.tmp 10, .tmp 11], sh := (.cons (.dat yi) (.cons (.dat .bool) .nil)), obs := [(64, .arr 24 y1)], pins := [(0, 0, 64)] }
noncomputable def D_zbo : FD := ⟨A_zbo, I_zbo, [.arg 0], Int × (Bool × Y2), fun x => F_zbo x.1.2.1 x.1.2.2.1 x.1.2.2.2.1 x.1.2.2.2.2.1 x.2.1, fun r => ([.dat yi r.1, .dat .bool r.2.1], [(64, .arr 24 y1 r.2.2)])⟩
noncomputable def E_zbo : Env := envOf []
noncomputable def Z_zbo : Nat → Nat → List Nat := fun _ _ => []
noncomputable def O_zbo : List (Nat × LD) := [(0, DL_zbo_0), (2, DL_zbo_2), (6, DL_zbo_6), (8, DL_zbo_8), (4, DL_zbo_4)]
noncomputable def C_zbo : Code := (f125.body).getD .skip
end Go.Proofs.YtlmbhkmaflhagaaGreat
