import Derived.Test.YtlmbhkmaflhagaaB37
import Derived.Test.YtlmbhkmaflhagaaProg
namespace Go.Proofs.Ytlmbhkmaflhagaa
open Go.Proofs.Try
abbrev yi : Ty := .int .i64
abbrev y1 : Ty := .slice yi
abbrev y2 : Ty := .slice y1
abbrev y3 : Ty := .slice y2
abbrev Y1 : Type := List Int
abbrev Y2 : Type := List Y1
abbrev Y3 : Type := List Y2
abbrev yh (l : List Nat) (s : Sh) : Keep := { acts := [], S := { slots := l, sh := s, obs := [] } }
abbrev ys (l : List Nat) (s : Sh) : SSh := { slots := l, sh := s, obs := [] }
theorem yn {α : Type _} {p : α → Prop} : ∀ x, x ∈ ([] : List α) → p x := fun _ h => absurd h List.not_mem_nil
theorem yc {α : Type _} {p : α → Prop} {a : α} {l : List α} (h : p a ∧ ∀ x, x ∈ l → p x) : ∀ x, x ∈ a :: l → p x := List.forall_mem_cons.2 h
noncomputable def tabl : List (Nat × TD) := [(3, .sc yi), (4, .sc .bool), (5, .sc (.int .u8)), (9, .sc .str), (22, .sl 3 yi 8), (33, .sl 22 y1 24), (51, .st (.pair y1 y2) [(22, y1), (33, y2)]), (63, .sl 5 (.int .u8) 1), (87, .sc (.int .u64)), (130, .sc (.int .u64)), (132, .st (.pair (.slice (.int .u8)) (.pair yi (.int .u64))) [(63, (.slice (.int .u8))), (3, yi), (130, (.int .u64))]), (163, .sc (.int .u64))]
noncomputable def tt : Nat → TD := fun i => match look tabl i with
 | some d => d
 | none => .no
noncomputable def T_zag (a1_ : Y1) : Tr (Bool) :=
 .l (decide ((65536 : Int) < ((List.length a1_ : Nat) : Int)))
noncomputable def F_zag (a1_ : Y1) : Option (Bool) := (T_zag a1_).ev
noncomputable def A_zag : Sh := (.cons (.dat (.slice (.int .u8))) .nil)
noncomputable def I_zag : List (Nat × OSh) := []
noncomputable def K_zag : RetK := { acts := [], res := [.tmp 2], sh := (.cons (.dat .bool) .nil), obs := [], pins := [] }
noncomputable def D_zag : FD := ⟨A_zag, I_zag, [], Bool, fun x => F_zag x.1.1, fun r => ([.dat .bool r], [])⟩
noncomputable def E_zag : Env := envOf []
noncomputable def Z_zag : Nat → Nat → List Nat := fun _ _ => []
noncomputable def O_zag : List (Nat × LD) := []
noncomputable def C_zag : Code := (f49.body).getD .skip
noncomputable def T_zbq (a1_ : Y1) (a2_ : Int) (a3_ : Int) : Tr (Int × (Y1 × (Int × Int))) :=
 .t (decide (a2_ < ((List.length a1_ : Nat) : Int)))
 (.g (inR a2_ (List.length a1_)) <|
 .t (decide ((IntKind.wrap .i64 (a2_ + (1 : Int))) ≤ ((List.length a1_ : Nat) : Int)))
 (.l ((IntKind.wrap .i64 (List.getD a1_ (Int.toNat a2_) (0 : Int))), (a1_, ((IntKind.wrap .i64 (a2_ + (1 : Int))), (IntKind.wrap .u64 ((IntKind.wrap .u64 ((IntKind.wrap .u64 (a3_ * (6364136223846793005 : Int))) + (IntKind.wrap .u64 (IntKind.wrap .i64 (List.getD a1_ (Int.toNat a2_) (0 : Int)))))) + (462197 : Int)))))))
 (.g (decide ((0 : Int) ≤ (40 : Int))) <|
 .l ((IntKind.wrap .i64 (IntKind.wrap .u64 (BitVec.toNat ((BitVec.ofInt (IntKind.bits .u64) (Int.fdiv (IntKind.wrap .u64 ((IntKind.wrap .u64 ((IntKind.wrap .u64 (a3_ * (6364136223846793005 : Int))) + (IntKind.wrap .u64 (IntKind.wrap .i64 (List.getD a1_ (Int.toNat a2_) (0 : Int)))))) + (462197 : Int))) (2 ^ (min (Int.toNat (40 : Int)) (IntKind.bits .u64))))) &&& (BitVec.ofInt (IntKind.bits .u64) (255 : Int)))))), (a1_, ((IntKind.wrap .i64 (a2_ + (1 : Int))), (IntKind.wrap .u64 ((IntKind.wrap .u64 ((IntKind.wrap .u64 (a3_ * (6364136223846793005 : Int))) + (IntKind.wrap .u64 (IntKind.wrap .i64 (List.getD a1_ (Int.toNat a2_) (0 : Int)))))) + (462197 : Int))))))))
 (.t (decide ((IntKind.wrap .i64 (a2_ + (1 : Int))) ≤ ((List.length a1_ : Nat) : Int)))
 (.l ((0 : Int), (a1_, ((IntKind.wrap .i64 (a2_ + (1 : Int))), (IntKind.wrap .u64 ((IntKind.wrap .u64 ((IntKind.wrap .u64 (a3_ * (6364136223846793005 : Int))) + (IntKind.wrap .u64 (0 : Int)))) + (462197 : Int)))))))
 (.g (decide ((0 : Int) ≤ (40 : Int))) <|
 .l ((IntKind.wrap .i64 (IntKind.wrap .u64 (BitVec.toNat ((BitVec.ofInt (IntKind.bits .u64) (Int.fdiv (IntKind.wrap .u64 ((IntKind.wrap .u64 ((IntKind.wrap .u64 (a3_ * (6364136223846793005 : Int))) + (IntKind.wrap .u64 (0 : Int)))) + (462197 : Int))) (2 ^ (min (Int.toNat (40 : Int)) (IntKind.bits .u64))))) &&& (BitVec.ofInt (IntKind.bits .u64) (255 : Int)))))), (a1_, ((IntKind.wrap .i64 (a2_ + (1 : Int))), (IntKind.wrap .u64 ((IntKind.wrap .u64 ((IntKind.wrap .u64 (a3_ * (6364136223846793005 : Int))) + (IntKind.wrap .u64 (0 : Int)))) + (462197 : Int))))))))
noncomputable def F_zbq (a1_ : Y1) (a2_ : Int) (a3_ : Int) : Option (Int × (Y1 × (Int × Int))) := (T_zbq a1_ a2_ a3_).ev
noncomputable def A_zbq : Sh := (.cons (.box 64 0) .nil)
noncomputable def I_zbq : List (Nat × OSh) := [(64, .cells (.cons (.dat (.slice (.int .u8))) (.cons (.dat yi) (.cons (.dat (.int .u64)) .nil))))]
noncomputable def K_zbq : RetK := { acts := [], res := [.tmp 2], sh := (.cons (.dat yi) .nil), obs := [(64, .cells (.cons (.dat (.slice (.int .u8))) (.cons (.dat yi) (.cons (.dat (.int .u64)) .nil))))], pins := [(0, 0, 64)] }
noncomputable def D_zbq : FD := ⟨A_zbq, I_zbq, [.arg 0], Int × (Y1 × (Int × Int)), fun x => F_zbq x.2.1.1 x.2.1.2.1 x.2.1.2.2.1, fun r => ([.dat yi r.1], [(64, .cells [.dat (.slice (.int .u8)) r.2.1, .dat yi r.2.2.1, .dat (.int .u64) r.2.2.2])])⟩
noncomputable def E_zbq : Env := envOf []
noncomputable def Z_zbq : Nat → Nat → List Nat := fun _ _ => []
noncomputable def O_zbq : List (Nat × LD) := []
noncomputable def C_zbq : Code := (f227.body).getD .skip
noncomputable def T_zbr (a4_ : Int) (a1_ : Y1) (a2_ : Int) (a3_ : Int) : Tr (Int × (Y1 × (Int × Int))) :=
 .t (decide (a4_ ≤ (1 : Int)))
 (.l ((0 : Int), (a1_, (a2_, a3_))))
 (.c (Int × (Y1 × (Int × Int))) (F_zbq a1_ a2_ a3_) fun r1_ =>
 .t (decide ((200 : Int) < a4_))
 (.c (Int × (Y1 × (Int × Int))) (F_zbq r1_.2.1 r1_.2.2.1 r1_.2.2.2) fun r2_ =>
 .g (!decide (a4_ = 0)) <|
 .l ((Int.tmod (IntKind.wrap .i64 ((IntKind.wrap .i64 (r1_.1 * (256 : Int))) + r2_.1)) a4_), (r2_.2.1, (r2_.2.2.1, r2_.2.2.2))))
 (.g (!decide (a4_ = 0)) <|
 .l ((Int.tmod r1_.1 a4_), (r1_.2.1, (r1_.2.2.1, r1_.2.2.2)))))
noncomputable def F_zbr (a4_ : Int) (a1_ : Y1) (a2_ : Int) (a3_ : Int) : Option (Int × (Y1 × (Int × Int))) := (T_zbr a4_ a1_ a2_ a3_).ev
noncomputable def A_zbr : Sh := (.cons (.box 64 0) (.cons (.dat yi) .nil))
noncomputable def I_zbr : List (Nat × OSh) := [(64, .cells (.cons (.dat (.slice (.int .u8))) (.cons (.dat yi) (.cons (.dat (.int .u64)) .nil))))]
noncomputable def K_zbr : RetK := { acts := [], res := [.tmp 4], sh := (.cons (.dat yi) .nil), obs := [(64, .cells (.cons (.dat (.slice (.int .u8))) (.cons (.dat yi) (.cons (.dat (.int .u64)) .nil))))], pins := [(0, 0, 64)] }
noncomputable def D_zbr : FD := ⟨A_zbr, I_zbr, [.arg 0], Int × (Y1 × (Int × Int)), fun x => F_zbr x.1.2.1 x.2.1.1 x.2.1.2.1 x.2.1.2.2.1, fun r => ([.dat yi r.1], [(64, .cells [.dat (.slice (.int .u8)) r.2.1, .dat yi r.2.2.1, .dat (.int .u64) r.2.2.2])])⟩
noncomputable def E_zbr : Env := envOf [(227, D_zbq)]
noncomputable def Z_zbr : Nat → Nat → List Nat := fun _ _ => []
noncomputable def O_zbr : List (Nat × LD) := []
noncomputable def C_zbr : Code := (f214.body).getD .skip
noncomputable def T_zbm (a4_ : Y1) (a1_ : Y1) (a2_ : Int) (a3_ : Int) : Tr (Int × (Y1 × (Int × Int))) :=
 .c (Int × (Y1 × (Int × Int))) (F_zbr ((List.length a4_ : Nat) : Int) a1_ a2_ a3_) fun r1_ =>
 .g (inR r1_.1 (List.length a4_)) <|
 .l ((List.getD a4_ (Int.toNat r1_.1) (0 : Int)), (r1_.2.1, (r1_.2.2.1, r1_.2.2.2)))
noncomputable def F_zbm (a4_ : Y1) (a1_ : Y1) (a2_ : Int) (a3_ : Int) : Option (Int × (Y1 × (Int × Int))) := (T_zbm a4_ a1_ a2_ a3_).ev
noncomputable def A_zbm : Sh := (.cons (.box 64 0) (.cons (.dat y1) .nil))
noncomputable def I_zbm : List (Nat × OSh) := [(64, .cells (.cons (.dat (.slice (.int .u8))) (.cons (.dat yi) (.cons (.dat (.int .u64)) .nil))))]
noncomputable def K_zbm : RetK := { acts := [], res := [.tmp 4], sh := (.cons (.dat yi) .nil), obs := [(64, .cells (.cons (.dat (.slice (.int .u8))) (.cons (.dat yi) (.cons (.dat (.int .u64)) .nil))))], pins := [(0, 0, 64)] }
noncomputable def D_zbm : FD := ⟨A_zbm, I_zbm, [.arg 0], Int × (Y1 × (Int × Int)), fun x => F_zbm x.1.2.1 x.2.1.1 x.2.1.2.1 x.2.1.2.2.1, fun r => ([.dat yi r.1], [(64, .cells [.dat (.slice (.int .u8)) r.2.1, .dat yi r.2.2.1, .dat (.int .u64) r.2.2.2])])⟩
noncomputable def E_zbm : Env := envOf [(214, D_zbr)]
noncomputable def Z_zbm : Nat → Nat → List Nat := fun _ _ => []
noncomputable def O_zbm : List (Nat × LD) := []
noncomputable def C_zbm : Code := (f228.body).getD .skip
noncomputable def S_zbs_0 (k : Int × (Int × (Int × (Int × Y1)))) (v : Int × (Y1 × (Int × (Int × Y1)))) : Tr ((Int × (Y1 × (Int × (Int × Y1)))) ⊕ (Y1 × (Int × (Int × Y1)))) :=
 .t (decide (v.1 < k.2.1))
 (.t (decide (v.1 < k.1))
 (.c (Int × (Y1 × (Int × Int))) (F_zbr k.2.2.2.1 v.2.1 v.2.2.1 v.2.2.2.1) fun r14_ =>
 .g (decide ((List.length v.2.2.2.2 + List.length ([r14_.1] : Y1)) * 8 ≤ 140737488355328)) <|
 .l (.inl ((IntKind.wrap .i64 (v.1 + (1 : Int))), (r14_.2.1, (r14_.2.2.1, (r14_.2.2.2, (v.2.2.2.2 ++ ([r14_.1] : Y1))))))))
 (.l (.inr (v.2.1, (v.2.2.1, (v.2.2.2.1, v.2.2.2.2))))))
 (.l (.inr (v.2.1, (v.2.2.1, (v.2.2.2.1, v.2.2.2.2)))))
noncomputable def L_zbs_0 (k : Int × (Int × (Int × (Int × Y1)))) (v : Int × (Y1 × (Int × (Int × Y1)))) : Option (Y1 × (Int × (Int × Y1))) := iter (fun v => (S_zbs_0 k v).ev) v
noncomputable def DL_zbs_0 : LD := ⟨{ acts := [.ownB 4 0 900340 3 yi, .ownB 7 0 900370 3 yi], S := { slots := [0, 1, 4, 5, 6, 7, 8, 9], sh := (.cons (.box 64 0) (.cons (.dat yi) (.cons (.box 4 0) (.cons (.dat yi) (.cons (.dat yi) (.cons (.box 7 0) (.cons (.dat yi) (.cons (.dat yi) .nil)))))))), obs := [(64, .cells (.cons (.dat (.slice (.int .u8))) (.cons (.dat yi) (.cons (.dat (.int .u64)) .nil)))), (4, .cells (.cons (.arr 900340) (.cons .nilsl .nil))), (7, .cells (.cons (.arr 900370) (.cons .nilsl .nil))), (900340, .arr 3 yi), (900370, .arr 3 yi)] } }, [(0, { acts := [], S := { slots := [0, 1, 4, 6, 7, 8], sh := (.cons (.box 64 0) (.cons (.dat yi) (.cons (.box 4 0) (.cons (.dat yi) (.cons (.box 7 0) (.cons (.dat yi) .nil)))))), obs := [(64, .cells (.cons (.dat (.slice (.int .u8))) (.cons (.dat yi) (.cons (.dat (.int .u64)) .nil)))), (4, .cells (.cons (.arr 900340) (.cons .nilsl .nil))), (7, .cells (.cons (.arr 900370) (.cons .nilsl .nil))), (900340, .arr 3 yi), (900370, .arr 3 yi)] } })], (yh [] .nil), Int × (Int × (Int × (Int × Y1))), Int × (Y1 × (Int × (Int × Y1))), Y1 × (Int × (Int × Y1)), fun k v => (((), (k.1, ((), (k.2.1, (k.2.2.1, ((), (k.2.2.2.1, (v.1, ())))))))), ((v.2.1, (v.2.2.1, (v.2.2.2.1, ()))), (((), ((), ())), (((), ((), ())), (k.2.2.2.2, (v.2.2.2.2, ())))))), fun t => (t.1.2.1, (t.1.2.2.2.1, (t.1.2.2.2.2.1, (t.1.2.2.2.2.2.2.1, t.2.2.2.2.1)))), fun t => (t.1.2.2.2.2.2.2.2.1, (t.2.1.1, (t.2.1.2.1, (t.2.1.2.2.1, t.2.2.2.2.2.1)))), S_zbs_0, fun k r => .l (.exit 0 (mkSt ({ slots := [0, 1, 4, 6, 7, 8], sh := (.cons (.box 64 0) (.cons (.dat yi) (.cons (.box 4 0) (.cons (.dat yi) (.cons (.box 7 0) (.cons (.dat yi) .nil)))))), obs := [(64, .cells (.cons (.dat (.slice (.int .u8))) (.cons (.dat yi) (.cons (.dat (.int .u64)) .nil)))), (4, .cells (.cons (.arr 900340) (.cons .nilsl .nil))), (7, .cells (.cons (.arr 900370) (.cons .nilsl .nil))), (900340, .arr 3 yi), (900370, .arr 3 yi)] }) (((), (k.1, ((), (k.2.2.1, ((), (k.2.2.2.1, ())))))), ((r.1, (r.2.1, (r.2.2.1, ()))), (((), ((), ())), (((), ((), ())), (k.2.2.2.2, (r.2.2.2, ()))))))))⟩
noncomputable def S_zbs_4 (k : Int × (Int × (Int × (Int × (Y1 × (Y2 × (Y1 × Y2))))))) (v : Int × (Y1 × (Int × (Int × Y1)))) : Tr ((Int × (Y1 × (Int × (Int × Y1)))) ⊕ (Y1 × (Int × (Int × Y1)))) :=
 .t (decide (v.1 < ((List.length k.2.2.2.2.2.2.1 : Nat) : Int)))
 (.c (Int × (Y1 × (Int × Int))) (F_zbr k.2.2.1 v.2.1 v.2.2.1 v.2.2.2.1) fun r48_ =>
 .g (decide ((List.length v.2.2.2.2 + List.length ([r48_.1] : Y1)) * 8 ≤ 140737488355328)) <|
 .l (.inl ((IntKind.wrap .i64 (v.1 + (1 : Int))), (r48_.2.1, (r48_.2.2.1, (r48_.2.2.2, (v.2.2.2.2 ++ ([r48_.1] : Y1))))))))
 (.l (.inr (v.2.1, (v.2.2.1, (v.2.2.2.1, v.2.2.2.2)))))
noncomputable def L_zbs_4 (k : Int × (Int × (Int × (Int × (Y1 × (Y2 × (Y1 × Y2))))))) (v : Int × (Y1 × (Int × (Int × Y1)))) : Option (Y1 × (Int × (Int × Y1))) := iter (fun v => (S_zbs_4 k v).ev) v
noncomputable def DL_zbs_4 : LD := ⟨{ acts := [], S := { slots := [0, 1, 4, 6, 7, 8, 10, 11, 12], sh := (.cons (.box 64 0) (.cons (.dat yi) (.cons (.box 4 0) (.cons (.dat yi) (.cons (.box 7 0) (.cons (.dat yi) (.cons (.dat yi) (.cons (.arr 51) (.cons (.dat yi) .nil))))))))), obs := [(64, .cells (.cons (.dat (.slice (.int .u8))) (.cons (.dat yi) (.cons (.dat (.int .u64)) .nil)))), (4, .cells (.cons (.arr 900340) (.cons (.arr 902341) .nil))), (7, .cells (.cons (.arr 900370) (.cons (.arr 902371) .nil))), (51, .arr 3 yi), (900340, .arr 3 yi), (902341, .rows 22 3 yi), (900370, .arr 3 yi), (902371, .rows 22 3 yi)] } }, [(4, { acts := [], S := { slots := [0, 1, 4, 6, 7, 8, 10, 11], sh := (.cons (.box 64 0) (.cons (.dat yi) (.cons (.box 4 0) (.cons (.dat yi) (.cons (.box 7 0) (.cons (.dat yi) (.cons (.dat yi) (.cons (.arr 51) .nil)))))))), obs := [(64, .cells (.cons (.dat (.slice (.int .u8))) (.cons (.dat yi) (.cons (.dat (.int .u64)) .nil)))), (4, .cells (.cons (.arr 900340) (.cons (.arr 902341) .nil))), (7, .cells (.cons (.arr 900370) (.cons (.arr 902371) .nil))), (51, .arr 3 yi), (900340, .arr 3 yi), (902341, .rows 22 3 yi), (900370, .arr 3 yi), (902371, .rows 22 3 yi)] } })], (yh [] .nil), Int × (Int × (Int × (Int × (Y1 × (Y2 × (Y1 × Y2)))))), Int × (Y1 × (Int × (Int × Y1))), Y1 × (Int × (Int × Y1)), fun k v => (((), (k.1, ((), (k.2.1, ((), (k.2.2.1, (k.2.2.2.1, ((), (v.1, ()))))))))), ((v.2.1, (v.2.2.1, (v.2.2.2.1, ()))), (((), ((), ())), (((), ((), ())), (v.2.2.2.2, (k.2.2.2.2.1, (k.2.2.2.2.2.1, (k.2.2.2.2.2.2.1, (k.2.2.2.2.2.2.2, ()))))))))), fun t => (t.1.2.1, (t.1.2.2.2.1, (t.1.2.2.2.2.2.1, (t.1.2.2.2.2.2.2.1, (t.2.2.2.2.2.1, (t.2.2.2.2.2.2.1, (t.2.2.2.2.2.2.2.1, t.2.2.2.2.2.2.2.2.1))))))), fun t => (t.1.2.2.2.2.2.2.2.2.1, (t.2.1.1, (t.2.1.2.1, (t.2.1.2.2.1, t.2.2.2.2.1)))), S_zbs_4, fun k r => .l (.exit 4 (mkSt ({ slots := [0, 1, 4, 6, 7, 8, 10, 11], sh := (.cons (.box 64 0) (.cons (.dat yi) (.cons (.box 4 0) (.cons (.dat yi) (.cons (.box 7 0) (.cons (.dat yi) (.cons (.dat yi) (.cons (.arr 51) .nil)))))))), obs := [(64, .cells (.cons (.dat (.slice (.int .u8))) (.cons (.dat yi) (.cons (.dat (.int .u64)) .nil)))), (4, .cells (.cons (.arr 900340) (.cons (.arr 902341) .nil))), (7, .cells (.cons (.arr 900370) (.cons (.arr 902371) .nil))), (51, .arr 3 yi), (900340, .arr 3 yi), (902341, .rows 22 3 yi), (900370, .arr 3 yi), (902371, .rows 22 3 yi)] }) (((), (k.1, ((), (k.2.1, ((), (k.2.2.1, (k.2.2.2.1, ((), ())))))))), ((r.1, (r.2.1, (r.2.2.1, ()))), (((), ((), ())), (((), ((), ())), (r.2.2.2, (k.2.2.2.2.1, (k.2.2.2.2.2.1, (k.2.2.2.2.2.2.1, (k.2.2.2.2.2.2.2, ())))))))))))⟩
noncomputable def S_zbs_2 (k : Int × (Int × (Int × (Y1 × (Y2 × Y1))))) (v : Int × (Y1 × (Int × (Int × Y2)))) : Tr ((Int × (Y1 × (Int × (Int × Y2)))) ⊕ (Y1 × (Int × (Int × Y2)))) :=
 .t (decide (v.1 < k.2.1))
 (.t (decide (v.1 < k.1))
 (.c (Y1 × (Int × (Int × Y1))) (L_zbs_4 (k.1, (k.2.1, (k.2.2.1, (v.1, (k.2.2.2.1, (k.2.2.2.2.1, (k.2.2.2.2.2, v.2.2.2.2))))))) ((0 : Int), (v.2.1, (v.2.2.1, (v.2.2.2.1, ([] : Y1)))))) fun r61_ =>
 .g (decide ((List.length v.2.2.2.2 + 1) * 24 ≤ 140737488355328)) <|
 .l (.inl ((IntKind.wrap .i64 (v.1 + (1 : Int))), (r61_.1, (r61_.2.1, (r61_.2.2.1, (List.set (v.2.2.2.2 ++ [[]]) (List.length v.2.2.2.2) r61_.2.2.2)))))))
 (.l (.inr (v.2.1, (v.2.2.1, (v.2.2.2.1, v.2.2.2.2))))))
 (.l (.inr (v.2.1, (v.2.2.1, (v.2.2.2.1, v.2.2.2.2)))))
noncomputable def L_zbs_2 (k : Int × (Int × (Int × (Y1 × (Y2 × Y1))))) (v : Int × (Y1 × (Int × (Int × Y2)))) : Option (Y1 × (Int × (Int × Y2))) := iter (fun v => (S_zbs_2 k v).ev) v
noncomputable def DL_zbs_2 : LD := ⟨{ acts := [.ownRB 4 1 902341 22 3 yi, .ownRB 7 1 902371 22 3 yi], S := { slots := [0, 1, 4, 6, 7, 8, 10], sh := (.cons (.box 64 0) (.cons (.dat yi) (.cons (.box 4 0) (.cons (.dat yi) (.cons (.box 7 0) (.cons (.dat yi) (.cons (.dat yi) .nil))))))), obs := [(64, .cells (.cons (.dat (.slice (.int .u8))) (.cons (.dat yi) (.cons (.dat (.int .u64)) .nil)))), (4, .cells (.cons (.arr 900340) (.cons (.arr 902341) .nil))), (7, .cells (.cons (.arr 900370) (.cons (.arr 902371) .nil))), (900340, .arr 3 yi), (902341, .rows 22 3 yi), (900370, .arr 3 yi), (902371, .rows 22 3 yi)] } }, [(2, { acts := [], S := { slots := [0, 4, 7], sh := (.cons (.box 64 0) (.cons (.box 4 0) (.cons (.box 7 0) .nil))), obs := [(64, .cells (.cons (.dat (.slice (.int .u8))) (.cons (.dat yi) (.cons (.dat (.int .u64)) .nil)))), (4, .cells (.cons (.arr 900340) (.cons (.arr 902341) .nil))), (7, .cells (.cons (.arr 900370) (.cons (.arr 902371) .nil))), (900340, .arr 3 yi), (902341, .rows 22 3 yi), (900370, .arr 3 yi), (902371, .rows 22 3 yi)] } })], (yh [] .nil), Int × (Int × (Int × (Y1 × (Y2 × Y1)))), Int × (Y1 × (Int × (Int × Y2))), Y1 × (Int × (Int × Y2)), fun k v => (((), (k.1, ((), (k.2.1, ((), (k.2.2.1, (v.1, ()))))))), ((v.2.1, (v.2.2.1, (v.2.2.2.1, ()))), (((), ((), ())), (((), ((), ())), (k.2.2.2.1, (k.2.2.2.2.1, (k.2.2.2.2.2, (v.2.2.2.2, ())))))))), fun t => (t.1.2.1, (t.1.2.2.2.1, (t.1.2.2.2.2.2.1, (t.2.2.2.2.1, (t.2.2.2.2.2.1, t.2.2.2.2.2.2.1))))), fun t => (t.1.2.2.2.2.2.2.1, (t.2.1.1, (t.2.1.2.1, (t.2.1.2.2.1, t.2.2.2.2.2.2.2.1)))), S_zbs_2, fun k r => .l (.exit 2 (mkSt ({ slots := [0, 4, 7], sh := (.cons (.box 64 0) (.cons (.box 4 0) (.cons (.box 7 0) .nil))), obs := [(64, .cells (.cons (.dat (.slice (.int .u8))) (.cons (.dat yi) (.cons (.dat (.int .u64)) .nil)))), (4, .cells (.cons (.arr 900340) (.cons (.arr 902341) .nil))), (7, .cells (.cons (.arr 900370) (.cons (.arr 902371) .nil))), (900340, .arr 3 yi), (902341, .rows 22 3 yi), (900370, .arr 3 yi), (902371, .rows 22 3 yi)] }) (((), ((), ((), ()))), ((r.1, (r.2.1, (r.2.2.1, ()))), (((), ((), ())), (((), ((), ())), (k.2.2.2.1, (k.2.2.2.2.1, (k.2.2.2.2.2, (r.2.2.2, ()))))))))))⟩
noncomputable def T_zbs (a4_ : Int) (a1_ : Y1) (a2_ : Int) (a3_ : Int) : Tr (Y1 × (Y2 × (Y1 × (Int × Int)))) :=
 .c (Int × (Y1 × (Int × Int))) (F_zbm ([(3 : Int), (4 : Int), (2 : Int), (5 : Int), (1 : Int), (6 : Int), (7 : Int)] : Y1) a1_ a2_ a3_) fun r1_ =>
 .c (Int × (Y1 × (Int × Int))) (F_zbm ([(4 : Int), (3 : Int), (5 : Int), (2 : Int), (6 : Int), (7 : Int), (1 : Int), (0 : Int)] : Y1) r1_.2.1 r1_.2.2.1 r1_.2.2.2) fun r2_ =>
 .c (Int × (Y1 × (Int × Int))) (F_zbm ([(10 : Int), (10 : Int), (20 : Int), (4 : Int)] : Y1) r2_.2.1 r2_.2.2.1 r2_.2.2.2) fun r3_ =>
 .c (Y1 × (Int × (Int × Y1))) (L_zbs_0 (a4_, (r1_.1, (r2_.1, (r3_.1, ([] : Y1))))) ((0 : Int), (r3_.2.1, (r3_.2.2.1, (r3_.2.2.2, ([] : Y1)))))) fun r23_ =>
 .c (Y1 × (Int × (Int × Y2))) (L_zbs_2 (a4_, (r2_.1, (r3_.1, (([] : Y1), (([] : List Y1), r23_.2.2.2))))) ((0 : Int), (r23_.1, (r23_.2.1, (r23_.2.2.1, ([] : List Y1)))))) fun r69_ =>
 .l (r23_.2.2.2, (r69_.2.2.2, (r69_.1, (r69_.2.1, r69_.2.2.1))))
noncomputable def F_zbs (a4_ : Int) (a1_ : Y1) (a2_ : Int) (a3_ : Int) : Option (Y1 × (Y2 × (Y1 × (Int × Int)))) := (T_zbs a4_ a1_ a2_ a3_).ev
noncomputable def A_zbs : Sh := (.cons (.box 64 0) (.cons (.dat yi) .nil))
noncomputable def I_zbs : List (Nat × OSh) := [(64, .cells (.cons (.dat (.slice (.int .u8))) (.cons (.dat yi) (.cons (.dat (.int .u64)) .nil))))]
noncomputable def K_zbs : RetK := { acts := [.ren 900370 1, .ren 902371 2], res := [.cell 4 51], sh := (.cons (.agg (.cons (.arr 1) (.cons (.arr 2) .nil))) .nil), obs := [(1, .arr 3 yi), (2, .rows 22 3 yi), (64, .cells (.cons (.dat (.slice (.int .u8))) (.cons (.dat yi) (.cons (.dat (.int .u64)) .nil))))], pins := [(0, 0, 64)] }
noncomputable def D_zbs : FD := ⟨A_zbs, I_zbs, [.arg 0], Y1 × (Y2 × (Y1 × (Int × Int))), fun x => F_zbs x.1.2.1 x.2.1.1 x.2.1.2.1 x.2.1.2.2.1, fun r => ([.agg [.arr 1, .arr 2]], [(1, .arr 3 yi r.1), (2, .rows 22 3 yi r.2.1 none), (64, .cells [.dat (.slice (.int .u8)) r.2.2.1, .dat yi r.2.2.2.1, .dat (.int .u64) r.2.2.2.2])])⟩
noncomputable def E_zbs : Env := envOf [(228, D_zbm), (214, D_zbr)]
noncomputable def Z_zbs : Nat → Nat → List Nat := fun r i => match look [(1, [(2, [14]), (5, [17])]), (2, [(3, [21])])] r with
 | some l => (look l i).getD []
 | none => []
noncomputable def O_zbs : List (Nat × LD) := [(0, DL_zbs_0), (4, DL_zbs_4), (2, DL_zbs_2)]
noncomputable def C_zbs : Code := (f216.body).getD .skip
noncomputable def T_zby (a1_ : Y1) : Tr Y1 :=
 .g (decide ((List.length ([] : Y1) + List.length a1_) * 8 ≤ 140737488355328)) <|
 .l (([] : Y1) ++ a1_)
noncomputable def F_zby (a1_ : Y1) : Option Y1 := (T_zby a1_).ev
noncomputable def A_zby : Sh := (.cons (.dat y1) .nil)
noncomputable def I_zby : List (Nat × OSh) := []
noncomputable def K_zby : RetK := { acts := [.ren 3 0], res := [.tmp 2], sh := (.cons (.arr 0) .nil), obs := [(0, .arr 3 yi)], pins := [] }
noncomputable def D_zby : FD := ⟨A_zby, I_zby, [], Y1, fun x => F_zby x.1.1, fun r => ([.arr 0], [(0, .arr 3 yi r)])⟩
noncomputable def E_zby : Env := envOf []
noncomputable def Z_zby : Nat → Nat → List Nat := fun _ _ => []
noncomputable def O_zby : List (Nat × LD) := []
noncomputable def C_zby : Code := (f82.body).getD .skip
noncomputable def S_zbt_1 (k : Y1 × (Int × (Int × (Y1 × Y2)))) (v : List Y1) : Tr (Y2 ⊕ Y2) :=
 .t (decide (((List.length v : Nat) : Int) < (8 : Int)))
 (.c Y1 (F_zby k.2.2.2.1) fun r11_ =>
 .g (decide ((List.length v + 1) * 24 ≤ 140737488355328)) <|
 .l (.inl (List.set (v ++ [[]]) (List.length v) r11_)))
 (.l (.inr v))
noncomputable def L_zbt_1 (k : Y1 × (Int × (Int × (Y1 × Y2)))) (v : List Y1) : Option Y2 := iter (fun v => (S_zbt_1 k v).ev) v
noncomputable def DL_zbt_1 : LD := ⟨{ acts := [.ownRB 4 1 901341 22 3 yi], S := { slots := [0, 3, 4], sh := (.cons (.box 64 0) (.cons (.box 3 0) (.cons (.box 4 0) .nil))), obs := [(64, .cells (.cons (.dat (.slice (.int .u8))) (.cons (.dat yi) (.cons (.dat (.int .u64)) .nil)))), (3, .cells (.cons (.arr 65) (.cons (.arr 66) .nil))), (4, .cells (.cons .nilsl (.cons (.arr 901341) .nil))), (65, .arr 3 yi), (66, .rows 22 3 yi), (901341, .rows 22 3 yi)] } }, [(1, { acts := [], S := { slots := [0, 3, 4], sh := (.cons (.box 64 0) (.cons (.box 3 0) (.cons (.box 4 0) .nil))), obs := [(64, .cells (.cons (.dat (.slice (.int .u8))) (.cons (.dat yi) (.cons (.dat (.int .u64)) .nil)))), (3, .cells (.cons (.arr 65) (.cons (.arr 66) .nil))), (4, .cells (.cons .nilsl (.cons (.arr 901341) .nil))), (65, .arr 3 yi), (66, .rows 22 3 yi), (901341, .rows 22 3 yi)] } })], (yh [] .nil), Y1 × (Int × (Int × (Y1 × Y2))), List Y1, List Y1, fun k v => (((), ((), ((), ()))), ((k.1, (k.2.1, (k.2.2.1, ()))), (((), ((), ())), (((), ((), ())), (k.2.2.2.1, (v, (k.2.2.2.2, ()))))))), fun t => (t.2.1.1, (t.2.1.2.1, (t.2.1.2.2.1, (t.2.2.2.2.1, t.2.2.2.2.2.2.1)))), fun t => t.2.2.2.2.2.1, S_zbt_1, fun k r => .l (.exit 1 (mkSt ({ slots := [0, 3, 4], sh := (.cons (.box 64 0) (.cons (.box 3 0) (.cons (.box 4 0) .nil))), obs := [(64, .cells (.cons (.dat (.slice (.int .u8))) (.cons (.dat yi) (.cons (.dat (.int .u64)) .nil)))), (3, .cells (.cons (.arr 65) (.cons (.arr 66) .nil))), (4, .cells (.cons .nilsl (.cons (.arr 901341) .nil))), (65, .arr 3 yi), (66, .rows 22 3 yi), (901341, .rows 22 3 yi)] }) (((), ((), ((), ()))), ((k.1, (k.2.1, (k.2.2.1, ()))), (((), ((), ())), (((), ((), ())), (k.2.2.2.1, (r, (k.2.2.2.2, ())))))))))⟩
noncomputable def T_zbt (a1_ : Y1) (a2_ : Int) (a3_ : Int) (a4_ : Y1) (a5_ : List Y1) : Tr (Y1 × (Y2 × (Y1 × (Int × Int)))) :=
 .t (((List.length a4_ : Nat) : Int) == (0 : Int))
 (.l (a4_, (a5_, (a1_, (a2_, a3_)))))
 (.c (Int × (Y1 × (Int × Int))) (F_zbr ((List.length a4_ : Nat) : Int) a1_ a2_ a3_) fun r1_ =>
 .c (Int × (Y1 × (Int × Int))) (F_zbr (60 : Int) r1_.2.1 r1_.2.2.1 r1_.2.2.2) fun r2_ =>
 .t (r2_.1 == (0 : Int))
 (.c (Int × (Y1 × (Int × Int))) (F_zbm ([(-1 : Int), (99 : Int), (100 : Int), (4611686018427387904 : Int)] : Y1) r2_.2.1 r2_.2.2.1 r2_.2.2.2) fun r3_ =>
 .g (inR r1_.1 (List.length a4_)) <|
 .g (decide ((Int.toNat r1_.1) < List.length a4_)) <|
 .l ((List.set a4_ (Int.toNat r1_.1) r3_.1), (a5_, (r3_.2.1, (r3_.2.2.1, r3_.2.2.2)))))
 (.t (r2_.1 == (1 : Int))
 (.t (decide ((0 : Int) < ((List.length a5_ : Nat) : Int)))
 (.g (inR (0 : Int) (List.length a5_)) <|
 .g (decide ((Int.toNat (0 : Int)) < List.length a5_)) <|
 .c (Int × (Y1 × (Int × Int))) (F_zbm ([(-1 : Int), (99 : Int), (100 : Int), (-9223372036854775808 : Int)] : Y1) r2_.2.1 r2_.2.2.1 r2_.2.2.2) fun r4_ =>
 .g (inR r1_.1 (List.length (List.getD a5_ (Int.toNat (0 : Int)) ([] : Y1)))) <|
 .g (decide ((Int.toNat r1_.1) < List.length (List.getD a5_ (Int.toNat (0 : Int)) ([] : Y1)))) <|
 .l (a4_, ((List.set a5_ (Int.toNat (0 : Int)) (List.set (List.getD a5_ (Int.toNat (0 : Int)) ([] : Y1)) (Int.toNat r1_.1) r4_.1)), (r4_.2.1, (r4_.2.2.1, r4_.2.2.2)))))
 (.l (a4_, (a5_, (r2_.2.1, (r2_.2.2.1, r2_.2.2.2))))))
 (.t (r2_.1 == (2 : Int))
 (.g (decide ((List.length a4_ + List.length ([(1 : Int)] : Y1)) * 8 ≤ 140737488355328)) <|
 .l ((a4_ ++ ([(1 : Int)] : Y1)), (a5_, (r2_.2.1, (r2_.2.2.1, r2_.2.2.2)))))
 (.t (r2_.1 == (3 : Int))
 (.c Y2 (L_zbt_1 (r2_.2.1, (r2_.2.2.1, (r2_.2.2.2, (a4_, ([] : List Y1))))) a5_) fun r18_ =>
 .l (a4_, (r18_, (r2_.2.1, (r2_.2.2.1, r2_.2.2.2)))))
 (.t (r2_.1 == (4 : Int))
 (.l (([] : Y1), (([] : List Y1), (r2_.2.1, (r2_.2.2.1, r2_.2.2.2)))))
 (.l (a4_, (a5_, (r2_.2.1, (r2_.2.2.1, r2_.2.2.2))))))))))
noncomputable def F_zbt (a1_ : Y1) (a2_ : Int) (a3_ : Int) (a4_ : Y1) (a5_ : List Y1) : Option (Y1 × (Y2 × (Y1 × (Int × Int)))) := (T_zbt a1_ a2_ a3_ a4_ a5_).ev
noncomputable def A_zbt : Sh := (.cons (.box 64 0) (.cons (.agg (.cons (.arr 65) (.cons (.arr 66) .nil))) .nil))
noncomputable def I_zbt : List (Nat × OSh) := [(64, .cells (.cons (.dat (.slice (.int .u8))) (.cons (.dat yi) (.cons (.dat (.int .u64)) .nil)))), (65, .arr 3 yi), (66, .rows 22 3 yi)]
noncomputable def K_zbt : RetK := { acts := [.ownB 4 0 1 3 yi, .ownRB 4 1 2 22 3 yi, .ren 65 1, .ren 66 2], res := [.cell 4 51], sh := (.cons (.agg (.cons (.arr 1) (.cons (.arr 2) .nil))) .nil), obs := [(1, .arr 3 yi), (2, .rows 22 3 yi), (64, .cells (.cons (.dat (.slice (.int .u8))) (.cons (.dat yi) (.cons (.dat (.int .u64)) .nil))))], pins := [(0, 0, 64)], gone := [65, 66] }
noncomputable def D_zbt : FD := ⟨A_zbt, I_zbt, [.arg 0, .comp 1 0, .comp 1 1], Y1 × (Y2 × (Y1 × (Int × Int))), fun x => F_zbt x.2.1.1 x.2.1.2.1 x.2.1.2.2.1 x.2.2.1 x.2.2.2.1, fun r => ([.agg [.arr 1, .arr 2]], [(1, .arr 3 yi r.1), (2, .rows 22 3 yi r.2.1 none), (64, .cells [.dat (.slice (.int .u8)) r.2.2.1, .dat yi r.2.2.2.1, .dat (.int .u64) r.2.2.2.2]), (65, .spent), (66, .spent)])⟩
noncomputable def E_zbt : Env := envOf [(214, D_zbr), (228, D_zbm), (82, D_zby)]
noncomputable def Z_zbt : Nat → Nat → List Nat := fun r i => match look [(6, [(0, [60000004])]), (9, [(0, [60000006])])] r with
 | some l => (look l i).getD []
 | none => []
noncomputable def O_zbt : List (Nat × LD) := [(1, DL_zbt_1)]
noncomputable def C_zbt : Code := (f215.body).getD .skip
noncomputable def T_zbx (a1_ : Int) (a2_ : Int) : Tr (Int) :=
 .t (decide (a2_ < a1_))
 (.l a1_)
 (.l a2_)
noncomputable def F_zbx (a1_ : Int) (a2_ : Int) : Option (Int) := (T_zbx a1_ a2_).ev
noncomputable def A_zbx : Sh := (.cons (.dat yi) (.cons (.dat yi) .nil))
noncomputable def I_zbx : List (Nat × OSh) := []
noncomputable def K_zbx : RetK := { acts := [], res := [.tmp 4], sh := (.cons (.dat yi) .nil), obs := [], pins := [] }
noncomputable def D_zbx : FD := ⟨A_zbx, I_zbx, [], Int, fun x => F_zbx x.1.1 x.1.2.1, fun r => ([.dat yi r], [])⟩
noncomputable def E_zbx : Env := envOf []
noncomputable def Z_zbx : Nat → Nat → List Nat := fun _ _ => []
noncomputable def O_zbx : List (Nat × LD) := []
noncomputable def C_zbx : Code := (f186.body).getD .skip
noncomputable def S_zbp_0 (k : Y1 × Y2) (v : Int × (Y1 × (Int × (Int × Y1)))) : Tr ((Int × (Y1 × (Int × (Int × Y1)))) ⊕ (Y1 × (Int × (Int × Y1)))) :=
 .t (decide (v.1 < ((List.length k.1 : Nat) : Int)))
 (.c (Int × (Y1 × (Int × Int))) (F_zbr (20 : Int) v.2.1 v.2.2.1 v.2.2.2.1) fun r9_ =>
 .g (decide ((List.length v.2.2.2.2 + List.length ([r9_.1] : Y1)) * 8 ≤ 140737488355328)) <|
 .l (.inl ((IntKind.wrap .i64 (v.1 + (1 : Int))), (r9_.2.1, (r9_.2.2.1, (r9_.2.2.2, (v.2.2.2.2 ++ ([r9_.1] : Y1))))))))
 (.l (.inr (v.2.1, (v.2.2.1, (v.2.2.2.1, v.2.2.2.2)))))
noncomputable def L_zbp_0 (k : Y1 × Y2) (v : Int × (Y1 × (Int × (Int × Y1)))) : Option (Y1 × (Int × (Int × Y1))) := iter (fun v => (S_zbp_0 k v).ev) v
noncomputable def DL_zbp_0 : LD := ⟨{ acts := [], S := { slots := [0, 4, 5, 6, 7], sh := (.cons (.box 64 0) (.cons (.box 4 0) (.cons (.box 5 0) (.cons (.arr 14) (.cons (.dat yi) .nil))))), obs := [(64, .cells (.cons (.dat (.slice (.int .u8))) (.cons (.dat yi) (.cons (.dat (.int .u64)) .nil)))), (4, .cells (.cons .nilsl (.cons .nilsl .nil))), (5, .cells (.cons (.arr 833) (.cons (.arr 834) .nil))), (14, .arr 3 yi), (833, .arr 3 yi), (834, .rows 22 3 yi)] } }, [(0, { acts := [], S := { slots := [0, 4, 5, 6], sh := (.cons (.box 64 0) (.cons (.box 4 0) (.cons (.box 5 0) (.cons (.arr 14) .nil)))), obs := [(64, .cells (.cons (.dat (.slice (.int .u8))) (.cons (.dat yi) (.cons (.dat (.int .u64)) .nil)))), (4, .cells (.cons .nilsl (.cons .nilsl .nil))), (5, .cells (.cons (.arr 833) (.cons (.arr 834) .nil))), (14, .arr 3 yi), (833, .arr 3 yi), (834, .rows 22 3 yi)] } })], (yh [] .nil), Y1 × Y2, Int × (Y1 × (Int × (Int × Y1))), Y1 × (Int × (Int × Y1)), fun k v => (((), ((), ((), ((), (v.1, ()))))), ((v.2.1, (v.2.2.1, (v.2.2.2.1, ()))), (((), ((), ())), (((), ((), ())), (v.2.2.2.2, (k.1, (k.2, ()))))))), fun t => (t.2.2.2.2.2.1, t.2.2.2.2.2.2.1), fun t => (t.1.2.2.2.2.1, (t.2.1.1, (t.2.1.2.1, (t.2.1.2.2.1, t.2.2.2.2.1)))), S_zbp_0, fun k r => .l (.exit 0 (mkSt ({ slots := [0, 4, 5, 6], sh := (.cons (.box 64 0) (.cons (.box 4 0) (.cons (.box 5 0) (.cons (.arr 14) .nil)))), obs := [(64, .cells (.cons (.dat (.slice (.int .u8))) (.cons (.dat yi) (.cons (.dat (.int .u64)) .nil)))), (4, .cells (.cons .nilsl (.cons .nilsl .nil))), (5, .cells (.cons (.arr 833) (.cons (.arr 834) .nil))), (14, .arr 3 yi), (833, .arr 3 yi), (834, .rows 22 3 yi)] }) (((), ((), ((), ((), ())))), ((r.1, (r.2.1, (r.2.2.1, ()))), (((), ((), ())), (((), ((), ())), (r.2.2.2, (k.1, (k.2, ())))))))))⟩
noncomputable def S_zbp_4 (k : Int × (Int × (Y1 × (Int × (Int × (Y1 × Y1)))))) (v : Int × Y2) : Tr ((Int × Y2) ⊕ Y2) :=
 .t (decide (v.1 < ((List.length k.2.2.2.2.2.2 : Nat) : Int)))
 (.g (inR k.1 (List.length v.2)) <|
 .g (decide ((Int.toNat k.1) < List.length v.2)) <|
 .g (inR v.1 (List.length k.2.2.2.2.2.1)) <|
 .g (decide ((Int.toNat v.1) < List.length k.2.2.2.2.2.1)) <|
 .g (inR v.1 (List.length k.2.2.2.2.2.1)) <|
 .g (decide ((Int.toNat v.1) < List.length k.2.2.2.2.2.1)) <|
 .c (Int) (F_zbx (IntKind.wrap .i64 (k.2.1 - (List.getD k.2.2.2.2.2.1 (Int.toNat v.1) (0 : Int)))) (IntKind.wrap .i64 ((List.getD k.2.2.2.2.2.1 (Int.toNat v.1) (0 : Int)) - k.2.1))) fun r34_ =>
 .g (inR v.1 (List.length (List.getD v.2 (Int.toNat k.1) ([] : Y1)))) <|
 .g (decide ((Int.toNat v.1) < List.length (List.getD v.2 (Int.toNat k.1) ([] : Y1)))) <|
 .l (.inl ((IntKind.wrap .i64 (v.1 + (1 : Int))), (List.set v.2 (Int.toNat k.1) (List.set (List.getD v.2 (Int.toNat k.1) ([] : Y1)) (Int.toNat v.1) r34_)))))
 (.l (.inr v.2))
noncomputable def L_zbp_4 (k : Int × (Int × (Y1 × (Int × (Int × (Y1 × Y1)))))) (v : Int × Y2) : Option Y2 := iter (fun v => (S_zbp_4 k v).ev) v
noncomputable def DL_zbp_4 : LD := ⟨{ acts := [], S := { slots := [0, 4, 5, 6, 8, 9, 10], sh := (.cons (.box 64 0) (.cons (.box 4 0) (.cons (.box 5 0) (.cons (.arr 14) (.cons (.dat yi) (.cons (.dat yi) (.cons (.dat yi) .nil))))))), obs := [(64, .cells (.cons (.dat (.slice (.int .u8))) (.cons (.dat yi) (.cons (.dat (.int .u64)) .nil)))), (4, .cells (.cons .nilsl (.cons .nilsl .nil))), (5, .cells (.cons (.arr 833) (.cons (.arr 834) .nil))), (14, .arr 3 yi), (833, .arr 3 yi), (834, .rows 22 3 yi)] } }, [(4, { acts := [], S := { slots := [0, 4, 5, 6, 8], sh := (.cons (.box 64 0) (.cons (.box 4 0) (.cons (.box 5 0) (.cons (.arr 14) (.cons (.dat yi) .nil))))), obs := [(64, .cells (.cons (.dat (.slice (.int .u8))) (.cons (.dat yi) (.cons (.dat (.int .u64)) .nil)))), (4, .cells (.cons .nilsl (.cons .nilsl .nil))), (5, .cells (.cons (.arr 833) (.cons (.arr 834) .nil))), (14, .arr 3 yi), (833, .arr 3 yi), (834, .rows 22 3 yi)] } })], (yh [] .nil), Int × (Int × (Y1 × (Int × (Int × (Y1 × Y1))))), Int × Y2, List Y1, fun k v => (((), ((), ((), ((), (k.1, (k.2.1, (v.1, ()))))))), ((k.2.2.1, (k.2.2.2.1, (k.2.2.2.2.1, ()))), (((), ((), ())), (((), ((), ())), (k.2.2.2.2.2.1, (k.2.2.2.2.2.2, (v.2, ()))))))), fun t => (t.1.2.2.2.2.1, (t.1.2.2.2.2.2.1, (t.2.1.1, (t.2.1.2.1, (t.2.1.2.2.1, (t.2.2.2.2.1, t.2.2.2.2.2.1)))))), fun t => (t.1.2.2.2.2.2.2.1, t.2.2.2.2.2.2.1), S_zbp_4, fun k r => .l (.exit 4 (mkSt ({ slots := [0, 4, 5, 6, 8], sh := (.cons (.box 64 0) (.cons (.box 4 0) (.cons (.box 5 0) (.cons (.arr 14) (.cons (.dat yi) .nil))))), obs := [(64, .cells (.cons (.dat (.slice (.int .u8))) (.cons (.dat yi) (.cons (.dat (.int .u64)) .nil)))), (4, .cells (.cons .nilsl (.cons .nilsl .nil))), (5, .cells (.cons (.arr 833) (.cons (.arr 834) .nil))), (14, .arr 3 yi), (833, .arr 3 yi), (834, .rows 22 3 yi)] }) (((), ((), ((), ((), (k.1, ()))))), ((k.2.2.1, (k.2.2.2.1, (k.2.2.2.2.1, ()))), (((), ((), ())), (((), ((), ())), (k.2.2.2.2.2.1, (k.2.2.2.2.2.2, (r, ())))))))))⟩
noncomputable def S_zbp_2 (k : Y1 × Y1) (v : Int × (Y1 × (Int × (Int × Y2)))) : Tr ((Int × (Y1 × (Int × (Int × Y2)))) ⊕ (Y1 × (Int × (Int × Y2)))) :=
 .t (decide (v.1 < ((List.length v.2.2.2.2 : Nat) : Int)))
 (.c (Int × (Y1 × (Int × Int))) (F_zbr (20 : Int) v.2.1 v.2.2.1 v.2.2.2.1) fun r24_ =>
 .c Y2 (L_zbp_4 (v.1, (r24_.1, (r24_.2.1, (r24_.2.2.1, (r24_.2.2.2, (k.1, k.2)))))) ((0 : Int), v.2.2.2.2)) fun r42_ =>
 .l (.inl ((IntKind.wrap .i64 (v.1 + (1 : Int))), (r24_.2.1, (r24_.2.2.1, (r24_.2.2.2, r42_))))))
 (.l (.inr (v.2.1, (v.2.2.1, (v.2.2.2.1, v.2.2.2.2)))))
noncomputable def L_zbp_2 (k : Y1 × Y1) (v : Int × (Y1 × (Int × (Int × Y2)))) : Option (Y1 × (Int × (Int × Y2))) := iter (fun v => (S_zbp_2 k v).ev) v
noncomputable def DL_zbp_2 : LD := ⟨{ acts := [], S := { slots := [0, 4, 5, 6, 8], sh := (.cons (.box 64 0) (.cons (.box 4 0) (.cons (.box 5 0) (.cons (.arr 14) (.cons (.dat yi) .nil))))), obs := [(64, .cells (.cons (.dat (.slice (.int .u8))) (.cons (.dat yi) (.cons (.dat (.int .u64)) .nil)))), (4, .cells (.cons .nilsl (.cons .nilsl .nil))), (5, .cells (.cons (.arr 833) (.cons (.arr 834) .nil))), (14, .arr 3 yi), (833, .arr 3 yi), (834, .rows 22 3 yi)] } }, [(2, { acts := [], S := { slots := [0, 4, 5], sh := (.cons (.box 64 0) (.cons (.box 4 0) (.cons (.box 5 0) .nil))), obs := [(64, .cells (.cons (.dat (.slice (.int .u8))) (.cons (.dat yi) (.cons (.dat (.int .u64)) .nil)))), (4, .cells (.cons .nilsl (.cons .nilsl .nil))), (5, .cells (.cons (.arr 833) (.cons (.arr 834) .nil))), (833, .arr 3 yi), (834, .rows 22 3 yi)] } })], (yh [] .nil), Y1 × Y1, Int × (Y1 × (Int × (Int × Y2))), Y1 × (Int × (Int × Y2)), fun k v => (((), ((), ((), ((), (v.1, ()))))), ((v.2.1, (v.2.2.1, (v.2.2.2.1, ()))), (((), ((), ())), (((), ((), ())), (k.1, (k.2, (v.2.2.2.2, ()))))))), fun t => (t.2.2.2.2.1, t.2.2.2.2.2.1), fun t => (t.1.2.2.2.2.1, (t.2.1.1, (t.2.1.2.1, (t.2.1.2.2.1, t.2.2.2.2.2.2.1)))), S_zbp_2, fun k r => .l (.exit 2 (mkSt ({ slots := [0, 4, 5], sh := (.cons (.box 64 0) (.cons (.box 4 0) (.cons (.box 5 0) .nil))), obs := [(64, .cells (.cons (.dat (.slice (.int .u8))) (.cons (.dat yi) (.cons (.dat (.int .u64)) .nil)))), (4, .cells (.cons .nilsl (.cons .nilsl .nil))), (5, .cells (.cons (.arr 833) (.cons (.arr 834) .nil))), (833, .arr 3 yi), (834, .rows 22 3 yi)] }) (((), ((), ((), ()))), ((r.1, (r.2.1, (r.2.2.1, ()))), (((), ((), ())), (((), ((), ())), (k.2, (r.2.2.2, ()))))))))⟩
noncomputable def T_zbp (a4_ : Int) (a1_ : Y1) (a2_ : Int) (a3_ : Int) : Tr (Y1 × (Y2 × (Y1 × (Int × Int)))) :=
 .c (Y1 × (Y2 × (Y1 × (Int × Int)))) (F_zbs a4_ a1_ a2_ a3_) fun r1_ =>
 .c (Y1 × (Int × (Int × Y1))) (L_zbp_0 (r1_.1, r1_.2.1) ((0 : Int), (r1_.2.2.1, (r1_.2.2.2.1, (r1_.2.2.2.2, ([] : Y1)))))) fun r16_ =>
 .c (Y1 × (Int × (Int × Y2))) (L_zbp_2 (r16_.2.2.2, r1_.1) ((0 : Int), (r16_.1, (r16_.2.1, (r16_.2.2.1, r1_.2.1))))) fun r48_ =>
 .l (r1_.1, (r48_.2.2.2, (r48_.1, (r48_.2.1, r48_.2.2.1))))
noncomputable def F_zbp (a4_ : Int) (a1_ : Y1) (a2_ : Int) (a3_ : Int) : Option (Y1 × (Y2 × (Y1 × (Int × Int)))) := (T_zbp a4_ a1_ a2_ a3_).ev
noncomputable def A_zbp : Sh := (.cons (.box 64 0) (.cons (.dat yi) .nil))
noncomputable def I_zbp : List (Nat × OSh) := [(64, .cells (.cons (.dat (.slice (.int .u8))) (.cons (.dat yi) (.cons (.dat (.int .u64)) .nil))))]
noncomputable def K_zbp : RetK := { acts := [.ren 833 1, .ren 834 2], res := [.cell 4 51], sh := (.cons (.agg (.cons (.arr 1) (.cons (.arr 2) .nil))) .nil), obs := [(1, .arr 3 yi), (2, .rows 22 3 yi), (64, .cells (.cons (.dat (.slice (.int .u8))) (.cons (.dat yi) (.cons (.dat (.int .u64)) .nil))))], pins := [(0, 0, 64)] }
noncomputable def D_zbp : FD := ⟨A_zbp, I_zbp, [.arg 0], Y1 × (Y2 × (Y1 × (Int × Int))), fun x => F_zbp x.1.2.1 x.2.1.1 x.2.1.2.1 x.2.1.2.2.1, fun r => ([.agg [.arr 1, .arr 2]], [(1, .arr 3 yi r.1), (2, .rows 22 3 yi r.2.1 none), (64, .cells [.dat (.slice (.int .u8)) r.2.2.1, .dat yi r.2.2.2.1, .dat (.int .u64) r.2.2.2.2])])⟩
noncomputable def E_zbp : Env := envOf [(216, D_zbs), (214, D_zbr), (186, D_zbx)]
noncomputable def Z_zbp : Nat → Nat → List Nat := fun _ _ => []
noncomputable def O_zbp : List (Nat × LD) := [(0, DL_zbp_0), (4, DL_zbp_4), (2, DL_zbp_2)]
noncomputable def C_zbp : Code := (f217.body).getD .skip
noncomputable def S_zcf_0 (k : Y1 × (Y2 × (Y2 × Y1))) (v : Int × Y2) : Tr ((Int × Y2) ⊕ Y2) :=
 .t (decide (v.1 < ((List.length k.2.1 : Nat) : Int)))
 (.g (inR v.1 (List.length k.2.1)) <|
 .c Y1 (F_zby (List.getD k.2.1 (Int.toNat v.1) ([] : Y1))) fun r8_ =>
 .g (decide ((List.length v.2 + 1) * 24 ≤ 140737488355328)) <|
 .l (.inl ((IntKind.wrap .i64 (v.1 + (1 : Int))), (List.set (v.2 ++ [[]]) (List.length v.2) r8_))))
 (.l (.inr v.2))
noncomputable def L_zcf_0 (k : Y1 × (Y2 × (Y2 × Y1))) (v : Int × Y2) : Option Y2 := iter (fun v => (S_zcf_0 k v).ev) v
noncomputable def DL_zcf_0 : LD := ⟨{ acts := [.ownRB 2 1 900321 22 3 yi, .ownRB 3 1 900331 22 3 yi], S := { slots := [1, 2, 3, 4], sh := (.cons (.box 1 0) (.cons (.box 2 0) (.cons (.box 3 0) (.cons (.dat yi) .nil)))), obs := [(1, .cells (.cons (.dat y1) (.cons (.dat y2) .nil))), (2, .cells (.cons .nilsl (.cons (.arr 900321) .nil))), (3, .cells (.cons (.arr 448) (.cons (.arr 900331) .nil))), (900321, .rows 22 3 yi), (448, .arr 3 yi), (900331, .rows 22 3 yi)] } }, [(0, { acts := [], S := { slots := [2, 3], sh := (.cons (.box 2 0) (.cons (.box 3 0) .nil)), obs := [(2, .cells (.cons .nilsl (.cons (.arr 900321) .nil))), (3, .cells (.cons (.arr 448) (.cons (.arr 900331) .nil))), (900321, .rows 22 3 yi), (448, .arr 3 yi), (900331, .rows 22 3 yi)] } })], (yh [] .nil), Y1 × (Y2 × (Y2 × Y1)), Int × Y2, List Y1, fun k v => (((), ((), ((), (v.1, ())))), ((k.1, (k.2.1, ())), (((), ((), ())), (((), ((), ())), (k.2.2.1, (k.2.2.2, (v.2, ()))))))), fun t => (t.2.1.1, (t.2.1.2.1, (t.2.2.2.2.1, t.2.2.2.2.2.1))), fun t => (t.1.2.2.2.1, t.2.2.2.2.2.2.1), S_zcf_0, fun k r => .l (.exit 0 (mkSt ({ slots := [2, 3], sh := (.cons (.box 2 0) (.cons (.box 3 0) .nil)), obs := [(2, .cells (.cons .nilsl (.cons (.arr 900321) .nil))), (3, .cells (.cons (.arr 448) (.cons (.arr 900331) .nil))), (900321, .rows 22 3 yi), (448, .arr 3 yi), (900331, .rows 22 3 yi)] }) (((), ((), ())), (((), ((), ())), (((), ((), ())), (k.2.2.1, (k.2.2.2, (r, ()))))))))⟩
noncomputable def T_zcf (a1_ : Y1) (a2_ : List Y1) : Tr (Y1 × Y2) :=
 .c Y1 (F_zby a1_) fun r1_ =>
 .c Y2 (L_zcf_0 (a1_, (a2_, (([] : List Y1), r1_))) ((0 : Int), ([] : List Y1))) fun r12_ =>
 .l (r1_, r12_)
noncomputable def F_zcf (a1_ : Y1) (a2_ : List Y1) : Option (Y1 × Y2) := (T_zcf a1_ a2_).ev
noncomputable def A_zcf : Sh := (.cons (.agg (.cons (.dat y1) (.cons (.dat y2) .nil))) .nil)
noncomputable def I_zcf : List (Nat × OSh) := []
noncomputable def K_zcf : RetK := { acts := [.ren 448 1, .ren 900331 4], res := [.cell 2 51], sh := (.cons (.agg (.cons (.arr 1) (.cons (.arr 4) .nil))) .nil), obs := [(1, .arr 3 yi), (4, .rows 22 3 yi)], pins := [] }
noncomputable def D_zcf : FD := ⟨A_zcf, I_zcf, [], Y1 × Y2, fun x => F_zcf x.1.1.1 x.1.1.2.1, fun r => ([.agg [.arr 1, .arr 4]], [(1, .arr 3 yi r.1), (4, .rows 22 3 yi r.2 none)])⟩
noncomputable def E_zcf : Env := envOf [(82, D_zby)]
noncomputable def Z_zcf : Nat → Nat → List Nat := fun _ _ => []
noncomputable def O_zcf : List (Nat × LD) := [(0, DL_zcf_0)]
noncomputable def C_zcf : Code := (f229.body).getD .skip
noncomputable def S_zcd_6 (k : Int × (Int × (Int × (Y1 × Y2)))) (v : Int) : Tr ((Int) ⊕ ((Unit) ⊕ (Unit))) :=
 .t (decide (v < ((List.length k.2.2.2.1 : Nat) : Int)))
 (.g (inR k.1 (List.length k.2.2.2.2)) <|
 .g (inR k.2.2.1 (List.length (List.getD k.2.2.2.2 (Int.toNat k.1) ([] : Y1)))) <|
 .g (inR k.1 (List.length k.2.2.2.2)) <|
 .g (inR v (List.length (List.getD k.2.2.2.2 (Int.toNat k.1) ([] : Y1)))) <|
 .g (inR k.2.1 (List.length k.2.2.2.2)) <|
 .g (inR v (List.length (List.getD k.2.2.2.2 (Int.toNat k.2.1) ([] : Y1)))) <|
 .g (inR k.2.1 (List.length k.2.2.2.2)) <|
 .g (inR k.2.2.1 (List.length (List.getD k.2.2.2.2 (Int.toNat k.2.1) ([] : Y1)))) <|
 .t (decide ((IntKind.wrap .i64 ((IntKind.wrap .i64 ((List.getD (List.getD k.2.2.2.2 (Int.toNat k.1) ([] : Y1)) (Int.toNat v) (0 : Int)) + (List.getD (List.getD k.2.2.2.2 (Int.toNat k.2.1) ([] : Y1)) (Int.toNat v) (0 : Int)))) + (List.getD (List.getD k.2.2.2.2 (Int.toNat k.2.1) ([] : Y1)) (Int.toNat k.2.2.1) (0 : Int)))) < (List.getD (List.getD k.2.2.2.2 (Int.toNat k.1) ([] : Y1)) (Int.toNat k.2.2.1) (0 : Int))))
 (.l (.inr (.inr ())))
 (.l (.inl (IntKind.wrap .i64 (v + (1 : Int))))))
 (.l (.inr (.inl ())))
noncomputable def L_zcd_6 (k : Int × (Int × (Int × (Y1 × Y2)))) (v : Int) : Option ((Unit) ⊕ (Unit)) := iter (fun v => (S_zcd_6 k v).ev) v
noncomputable def DL_zcd_6 : LD := ⟨{ acts := [], S := { slots := [1, 3, 4, 5, 6], sh := (.cons (.box 1 0) (.cons (.dat yi) (.cons (.dat yi) (.cons (.dat yi) (.cons (.dat yi) .nil))))), obs := [(1, .cells (.cons (.dat y1) (.cons (.dat y2) .nil)))] } }, [(6, { acts := [], S := { slots := [1, 3, 4, 5], sh := (.cons (.box 1 0) (.cons (.dat yi) (.cons (.dat yi) (.cons (.dat yi) .nil)))), obs := [(1, .cells (.cons (.dat y1) (.cons (.dat y2) .nil)))] } })], (yh [2] (.cons (.dat .bool) .nil)), Int × (Int × (Int × (Y1 × Y2))), Int, (Unit) ⊕ (Unit), fun k v => (((), (k.1, (k.2.1, (k.2.2.1, (v, ()))))), ((k.2.2.2.1, (k.2.2.2.2, ())), ())), fun t => (t.1.2.1, (t.1.2.2.1, (t.1.2.2.2.1, (t.2.1.1, t.2.1.2.1)))), fun t => t.1.2.2.2.2.1, S_zcd_6, fun k r => .s (Unit) (Unit) r (fun _ => .l (.exit 6 (mkSt ({ slots := [1, 3, 4, 5], sh := (.cons (.box 1 0) (.cons (.dat yi) (.cons (.dat yi) (.cons (.dat yi) .nil)))), obs := [(1, .cells (.cons (.dat y1) (.cons (.dat y2) .nil)))] }) (((), (k.1, (k.2.1, (k.2.2.1, ())))), ((k.2.2.2.1, (k.2.2.2.2, ())), ()))))) (fun _ => .l (.ret (mkSt ((ys [2] (.cons (.dat .bool) .nil))) ((false, ()), ()))))⟩
noncomputable def S_zcd_4 (k : Int × (Int × (Y1 × Y2))) (v : Int) : Tr ((Int) ⊕ ((Unit) ⊕ (Unit))) :=
 .t (decide (v < ((List.length k.2.2.1 : Nat) : Int)))
 (.c ((Unit) ⊕ (Unit)) (L_zcd_6 (k.1, (k.2.1, (v, (k.2.2.1, k.2.2.2)))) (0 : Int)) fun r25_ =>
 .s (Unit) (Unit) r25_
 (fun _ => .l (.inl (IntKind.wrap .i64 (v + (1 : Int)))))
 (fun _ => .l (.inr (.inr ()))))
 (.l (.inr (.inl ())))
noncomputable def L_zcd_4 (k : Int × (Int × (Y1 × Y2))) (v : Int) : Option ((Unit) ⊕ (Unit)) := iter (fun v => (S_zcd_4 k v).ev) v
noncomputable def DL_zcd_4 : LD := ⟨{ acts := [], S := { slots := [1, 3, 4, 5], sh := (.cons (.box 1 0) (.cons (.dat yi) (.cons (.dat yi) (.cons (.dat yi) .nil)))), obs := [(1, .cells (.cons (.dat y1) (.cons (.dat y2) .nil)))] } }, [(4, { acts := [], S := { slots := [1, 3, 4], sh := (.cons (.box 1 0) (.cons (.dat yi) (.cons (.dat yi) .nil))), obs := [(1, .cells (.cons (.dat y1) (.cons (.dat y2) .nil)))] } })], (yh [2] (.cons (.dat .bool) .nil)), Int × (Int × (Y1 × Y2)), Int, (Unit) ⊕ (Unit), fun k v => (((), (k.1, (k.2.1, (v, ())))), ((k.2.2.1, (k.2.2.2, ())), ())), fun t => (t.1.2.1, (t.1.2.2.1, (t.2.1.1, t.2.1.2.1))), fun t => t.1.2.2.2.1, S_zcd_4, fun k r => .s (Unit) (Unit) r (fun _ => .l (.exit 4 (mkSt ({ slots := [1, 3, 4], sh := (.cons (.box 1 0) (.cons (.dat yi) (.cons (.dat yi) .nil))), obs := [(1, .cells (.cons (.dat y1) (.cons (.dat y2) .nil)))] }) (((), (k.1, (k.2.1, ()))), ((k.2.2.1, (k.2.2.2, ())), ()))))) (fun _ => .l (.ret (mkSt ((ys [2] (.cons (.dat .bool) .nil))) ((false, ()), ()))))⟩
noncomputable def S_zcd_2 (k : Int × (Y1 × Y2)) (v : Int) : Tr ((Int) ⊕ ((Unit) ⊕ (Unit))) :=
 .t (decide (v < ((List.length k.2.2 : Nat) : Int)))
 (.c ((Unit) ⊕ (Unit)) (L_zcd_4 (k.1, (v, (k.2.1, k.2.2))) (0 : Int)) fun r33_ =>
 .s (Unit) (Unit) r33_
 (fun _ => .l (.inl (IntKind.wrap .i64 (v + (1 : Int)))))
 (fun _ => .l (.inr (.inr ()))))
 (.l (.inr (.inl ())))
noncomputable def L_zcd_2 (k : Int × (Y1 × Y2)) (v : Int) : Option ((Unit) ⊕ (Unit)) := iter (fun v => (S_zcd_2 k v).ev) v
noncomputable def DL_zcd_2 : LD := ⟨{ acts := [], S := { slots := [1, 3, 4], sh := (.cons (.box 1 0) (.cons (.dat yi) (.cons (.dat yi) .nil))), obs := [(1, .cells (.cons (.dat y1) (.cons (.dat y2) .nil)))] } }, [(2, { acts := [], S := { slots := [1, 3], sh := (.cons (.box 1 0) (.cons (.dat yi) .nil)), obs := [(1, .cells (.cons (.dat y1) (.cons (.dat y2) .nil)))] } })], (yh [2] (.cons (.dat .bool) .nil)), Int × (Y1 × Y2), Int, (Unit) ⊕ (Unit), fun k v => (((), (k.1, (v, ()))), ((k.2.1, (k.2.2, ())), ())), fun t => (t.1.2.1, (t.2.1.1, t.2.1.2.1)), fun t => t.1.2.2.1, S_zcd_2, fun k r => .s (Unit) (Unit) r (fun _ => .l (.exit 2 (mkSt ({ slots := [1, 3], sh := (.cons (.box 1 0) (.cons (.dat yi) .nil)), obs := [(1, .cells (.cons (.dat y1) (.cons (.dat y2) .nil)))] }) (((), (k.1, ())), ((k.2.1, (k.2.2, ())), ()))))) (fun _ => .l (.ret (mkSt ((ys [2] (.cons (.dat .bool) .nil))) ((false, ()), ()))))⟩
noncomputable def S_zcd_0 (k : Y1 × Y2) (v : Int) : Tr ((Int) ⊕ ((Unit) ⊕ (Unit))) :=
 .t (decide (v < ((List.length k.2 : Nat) : Int)))
 (.c ((Unit) ⊕ (Unit)) (L_zcd_2 (v, (k.1, k.2)) (0 : Int)) fun r40_ =>
 .s (Unit) (Unit) r40_
 (fun _ => .l (.inl (IntKind.wrap .i64 (v + (1 : Int)))))
 (fun _ => .l (.inr (.inr ()))))
 (.l (.inr (.inl ())))
noncomputable def L_zcd_0 (k : Y1 × Y2) (v : Int) : Option ((Unit) ⊕ (Unit)) := iter (fun v => (S_zcd_0 k v).ev) v
noncomputable def DL_zcd_0 : LD := ⟨{ acts := [], S := { slots := [1, 3], sh := (.cons (.box 1 0) (.cons (.dat yi) .nil)), obs := [(1, .cells (.cons (.dat y1) (.cons (.dat y2) .nil)))] } }, [(0, (yh [] .nil))], (yh [2] (.cons (.dat .bool) .nil)), Y1 × Y2, Int, (Unit) ⊕ (Unit), fun k v => (((), (v, ())), ((k.1, (k.2, ())), ())), fun t => (t.2.1.1, t.2.1.2.1), fun t => t.1.2.1, S_zcd_0, fun _ r => .s (Unit) (Unit) r (fun _ => .l (.exit 0 (mkSt ((ys [] .nil)) ((), ())))) (fun _ => .l (.ret (mkSt ((ys [2] (.cons (.dat .bool) .nil))) ((false, ()), ()))))⟩
noncomputable def T_zcd (a1_ : Y1) (a2_ : List Y1) : Tr (Bool) :=
 .c ((Unit) ⊕ (Unit)) (L_zcd_0 (a1_, a2_) (0 : Int)) fun r44_ =>
 .s (Unit) (Unit) r44_
 (fun _ => .l true)
 (fun _ => .l false)
noncomputable def F_zcd (a1_ : Y1) (a2_ : List Y1) : Option (Bool) := (T_zcd a1_ a2_).ev
noncomputable def A_zcd : Sh := (.cons (.agg (.cons (.dat y1) (.cons (.dat y2) .nil))) .nil)
noncomputable def I_zcd : List (Nat × OSh) := []
noncomputable def K_zcd : RetK := { acts := [], res := [.tmp 2], sh := (.cons (.dat .bool) .nil), obs := [], pins := [] }
noncomputable def D_zcd : FD := ⟨A_zcd, I_zcd, [], Bool, fun x => F_zcd x.1.1.1 x.1.1.2.1, fun r => ([.dat .bool r], [])⟩
noncomputable def E_zcd : Env := envOf []
noncomputable def Z_zcd : Nat → Nat → List Nat := fun _ _ => []
noncomputable def O_zcd : List (Nat × LD) := [(6, DL_zcd_6), (4, DL_zcd_4), (2, DL_zcd_2), (0, DL_zcd_0)]
noncomputable def C_zcd : Code := (f230.body).getD .skip
noncomputable def T_zbw (a1_ : Int) (a2_ : Int) : Tr (Int) :=
 .t (decide (a1_ < a2_))
 (.l a1_)
 (.l a2_)
noncomputable def F_zbw (a1_ : Int) (a2_ : Int) : Option (Int) := (T_zbw a1_ a2_).ev
noncomputable def A_zbw : Sh := (.cons (.dat yi) (.cons (.dat yi) .nil))
noncomputable def I_zbw : List (Nat × OSh) := []
noncomputable def K_zbw : RetK := { acts := [], res := [.tmp 4], sh := (.cons (.dat yi) .nil), obs := [], pins := [] }
noncomputable def D_zbw : FD := ⟨A_zbw, I_zbw, [], Int, fun x => F_zbw x.1.1 x.1.2.1, fun r => ([.dat yi r], [])⟩
noncomputable def E_zbw : Env := envOf []
noncomputable def Z_zbw : Nat → Nat → List Nat := fun _ _ => []
noncomputable def O_zbw : List (Nat × LD) := []
noncomputable def C_zbw : Code := (f231.body).getD .skip
noncomputable def S_zcb_8 (k : Int × (Int × (Int × Y1))) (v : Int × Y2) : Tr ((Int × Y2) ⊕ Y2) :=
 .t (decide (v.1 < ((List.length k.2.2.2 : Nat) : Int)))
 (.g (inR k.1 (List.length v.2)) <|
 .g (decide ((Int.toNat k.1) < List.length v.2)) <|
 .g (inR k.1 (List.length v.2)) <|
 .g (decide ((Int.toNat k.1) < List.length v.2)) <|
 .g (inR k.2.2.1 (List.length (List.getD v.2 (Int.toNat k.1) ([] : Y1)))) <|
 .g (decide ((Int.toNat k.2.2.1) < List.length (List.getD v.2 (Int.toNat k.1) ([] : Y1)))) <|
 .g (inR k.1 (List.length v.2)) <|
 .g (decide ((Int.toNat k.1) < List.length v.2)) <|
 .g (inR v.1 (List.length (List.getD v.2 (Int.toNat k.1) ([] : Y1)))) <|
 .g (decide ((Int.toNat v.1) < List.length (List.getD v.2 (Int.toNat k.1) ([] : Y1)))) <|
 .g (inR k.2.1 (List.length v.2)) <|
 .g (decide ((Int.toNat k.2.1) < List.length v.2)) <|
 .g (inR v.1 (List.length (List.getD v.2 (Int.toNat k.2.1) ([] : Y1)))) <|
 .g (decide ((Int.toNat v.1) < List.length (List.getD v.2 (Int.toNat k.2.1) ([] : Y1)))) <|
 .g (inR k.2.1 (List.length v.2)) <|
 .g (decide ((Int.toNat k.2.1) < List.length v.2)) <|
 .g (inR k.2.2.1 (List.length (List.getD v.2 (Int.toNat k.2.1) ([] : Y1)))) <|
 .g (decide ((Int.toNat k.2.2.1) < List.length (List.getD v.2 (Int.toNat k.2.1) ([] : Y1)))) <|
 .c (Int) (F_zbw (List.getD (List.getD v.2 (Int.toNat k.1) ([] : Y1)) (Int.toNat k.2.2.1) (0 : Int)) (IntKind.wrap .i64 ((IntKind.wrap .i64 ((List.getD (List.getD v.2 (Int.toNat k.1) ([] : Y1)) (Int.toNat v.1) (0 : Int)) + (List.getD (List.getD v.2 (Int.toNat k.2.1) ([] : Y1)) (Int.toNat v.1) (0 : Int)))) + (List.getD (List.getD v.2 (Int.toNat k.2.1) ([] : Y1)) (Int.toNat k.2.2.1) (0 : Int))))) fun r23_ =>
 .g (inR k.2.2.1 (List.length (List.getD v.2 (Int.toNat k.1) ([] : Y1)))) <|
 .g (decide ((Int.toNat k.2.2.1) < List.length (List.getD v.2 (Int.toNat k.1) ([] : Y1)))) <|
 .l (.inl ((IntKind.wrap .i64 (v.1 + (1 : Int))), (List.set v.2 (Int.toNat k.1) (List.set (List.getD v.2 (Int.toNat k.1) ([] : Y1)) (Int.toNat k.2.2.1) r23_)))))
 (.l (.inr v.2))
noncomputable def L_zcb_8 (k : Int × (Int × (Int × Y1))) (v : Int × Y2) : Option Y2 := iter (fun v => (S_zcb_8 k v).ev) v
noncomputable def DL_zcb_8 : LD := ⟨{ acts := [], S := { slots := [2, 3, 4, 5, 6, 7], sh := (.cons (.box 2 0) (.cons (.box 3 0) (.cons (.dat yi) (.cons (.dat yi) (.cons (.dat yi) (.cons (.dat yi) .nil)))))), obs := [(2, .cells (.cons .nilsl (.cons .nilsl .nil))), (3, .cells (.cons (.arr 577) (.cons (.arr 580) .nil))), (577, .arr 3 yi), (580, .rows 22 3 yi)] } }, [(8, { acts := [], S := { slots := [2, 3, 4, 5, 6], sh := (.cons (.box 2 0) (.cons (.box 3 0) (.cons (.dat yi) (.cons (.dat yi) (.cons (.dat yi) .nil))))), obs := [(2, .cells (.cons .nilsl (.cons .nilsl .nil))), (3, .cells (.cons (.arr 577) (.cons (.arr 580) .nil))), (577, .arr 3 yi), (580, .rows 22 3 yi)] } })], (yh [] .nil), Int × (Int × (Int × Y1)), Int × Y2, List Y1, fun k v => (((), ((), (k.1, (k.2.1, (k.2.2.1, (v.1, ())))))), (((), ((), ())), (((), ((), ())), (k.2.2.2, (v.2, ()))))), fun t => (t.1.2.2.1, (t.1.2.2.2.1, (t.1.2.2.2.2.1, t.2.2.2.1))), fun t => (t.1.2.2.2.2.2.1, t.2.2.2.2.1), S_zcb_8, fun k r => .l (.exit 8 (mkSt ({ slots := [2, 3, 4, 5, 6], sh := (.cons (.box 2 0) (.cons (.box 3 0) (.cons (.dat yi) (.cons (.dat yi) (.cons (.dat yi) .nil))))), obs := [(2, .cells (.cons .nilsl (.cons .nilsl .nil))), (3, .cells (.cons (.arr 577) (.cons (.arr 580) .nil))), (577, .arr 3 yi), (580, .rows 22 3 yi)] }) (((), ((), (k.1, (k.2.1, (k.2.2.1, ()))))), (((), ((), ())), (((), ((), ())), (k.2.2.2, (r, ())))))))⟩
noncomputable def S_zcb_6 (k : Int × (Int × Y1)) (v : Int × Y2) : Tr ((Int × Y2) ⊕ Y2) :=
 .t (decide (v.1 < ((List.length k.2.2 : Nat) : Int)))
 (.c Y2 (L_zcb_8 (k.1, (k.2.1, (v.1, k.2.2))) ((0 : Int), v.2)) fun r29_ =>
 .l (.inl ((IntKind.wrap .i64 (v.1 + (1 : Int))), r29_)))
 (.l (.inr v.2))
noncomputable def L_zcb_6 (k : Int × (Int × Y1)) (v : Int × Y2) : Option Y2 := iter (fun v => (S_zcb_6 k v).ev) v
noncomputable def DL_zcb_6 : LD := ⟨{ acts := [], S := { slots := [2, 3, 4, 5, 6], sh := (.cons (.box 2 0) (.cons (.box 3 0) (.cons (.dat yi) (.cons (.dat yi) (.cons (.dat yi) .nil))))), obs := [(2, .cells (.cons .nilsl (.cons .nilsl .nil))), (3, .cells (.cons (.arr 577) (.cons (.arr 580) .nil))), (577, .arr 3 yi), (580, .rows 22 3 yi)] } }, [(6, { acts := [], S := { slots := [2, 3, 4, 5], sh := (.cons (.box 2 0) (.cons (.box 3 0) (.cons (.dat yi) (.cons (.dat yi) .nil)))), obs := [(2, .cells (.cons .nilsl (.cons .nilsl .nil))), (3, .cells (.cons (.arr 577) (.cons (.arr 580) .nil))), (577, .arr 3 yi), (580, .rows 22 3 yi)] } })], (yh [] .nil), Int × (Int × Y1), Int × Y2, List Y1, fun k v => (((), ((), (k.1, (k.2.1, (v.1, ()))))), (((), ((), ())), (((), ((), ())), (k.2.2, (v.2, ()))))), fun t => (t.1.2.2.1, (t.1.2.2.2.1, t.2.2.2.1)), fun t => (t.1.2.2.2.2.1, t.2.2.2.2.1), S_zcb_6, fun k r => .l (.exit 6 (mkSt ({ slots := [2, 3, 4, 5], sh := (.cons (.box 2 0) (.cons (.box 3 0) (.cons (.dat yi) (.cons (.dat yi) .nil)))), obs := [(2, .cells (.cons .nilsl (.cons .nilsl .nil))), (3, .cells (.cons (.arr 577) (.cons (.arr 580) .nil))), (577, .arr 3 yi), (580, .rows 22 3 yi)] }) (((), ((), (k.1, (k.2.1, ())))), (((), ((), ())), (((), ((), ())), (k.2.2, (r, ())))))))⟩
noncomputable def S_zcb_4 (k : Int × Y1) (v : Int × Y2) : Tr ((Int × Y2) ⊕ Y2) :=
 .t (decide (v.1 < ((List.length v.2 : Nat) : Int)))
 (.c Y2 (L_zcb_6 (k.1, (v.1, k.2)) ((0 : Int), v.2)) fun r34_ =>
 .l (.inl ((IntKind.wrap .i64 (v.1 + (1 : Int))), r34_)))
 (.l (.inr v.2))
noncomputable def L_zcb_4 (k : Int × Y1) (v : Int × Y2) : Option Y2 := iter (fun v => (S_zcb_4 k v).ev) v
noncomputable def DL_zcb_4 : LD := ⟨{ acts := [], S := { slots := [2, 3, 4, 5], sh := (.cons (.box 2 0) (.cons (.box 3 0) (.cons (.dat yi) (.cons (.dat yi) .nil)))), obs := [(2, .cells (.cons .nilsl (.cons .nilsl .nil))), (3, .cells (.cons (.arr 577) (.cons (.arr 580) .nil))), (577, .arr 3 yi), (580, .rows 22 3 yi)] } }, [(4, { acts := [], S := { slots := [2, 3, 4], sh := (.cons (.box 2 0) (.cons (.box 3 0) (.cons (.dat yi) .nil))), obs := [(2, .cells (.cons .nilsl (.cons .nilsl .nil))), (3, .cells (.cons (.arr 577) (.cons (.arr 580) .nil))), (577, .arr 3 yi), (580, .rows 22 3 yi)] } })], (yh [] .nil), Int × Y1, Int × Y2, List Y1, fun k v => (((), ((), (k.1, (v.1, ())))), (((), ((), ())), (((), ((), ())), (k.2, (v.2, ()))))), fun t => (t.1.2.2.1, t.2.2.2.1), fun t => (t.1.2.2.2.1, t.2.2.2.2.1), S_zcb_4, fun k r => .l (.exit 4 (mkSt ({ slots := [2, 3, 4], sh := (.cons (.box 2 0) (.cons (.box 3 0) (.cons (.dat yi) .nil))), obs := [(2, .cells (.cons .nilsl (.cons .nilsl .nil))), (3, .cells (.cons (.arr 577) (.cons (.arr 580) .nil))), (577, .arr 3 yi), (580, .rows 22 3 yi)] }) (((), ((), (k.1, ()))), (((), ((), ())), (((), ((), ())), (k.2, (r, ())))))))⟩
noncomputable def S_zcb_2 (k : Y1) (v : Int × Y2) : Tr ((Int × Y2) ⊕ Y2) :=
 .t (decide (v.1 < ((List.length v.2 : Nat) : Int)))
 (.c Y2 (L_zcb_4 (v.1, k) ((0 : Int), v.2)) fun r38_ =>
 .l (.inl ((IntKind.wrap .i64 (v.1 + (1 : Int))), r38_)))
 (.l (.inr v.2))
noncomputable def L_zcb_2 (k : Y1) (v : Int × Y2) : Option Y2 := iter (fun v => (S_zcb_2 k v).ev) v
noncomputable def DL_zcb_2 : LD := ⟨{ acts := [], S := { slots := [2, 3, 4], sh := (.cons (.box 2 0) (.cons (.box 3 0) (.cons (.dat yi) .nil))), obs := [(2, .cells (.cons .nilsl (.cons .nilsl .nil))), (3, .cells (.cons (.arr 577) (.cons (.arr 580) .nil))), (577, .arr 3 yi), (580, .rows 22 3 yi)] } }, [(2, { acts := [], S := { slots := [2, 3], sh := (.cons (.box 2 0) (.cons (.box 3 0) .nil)), obs := [(2, .cells (.cons .nilsl (.cons .nilsl .nil))), (3, .cells (.cons (.arr 577) (.cons (.arr 580) .nil))), (577, .arr 3 yi), (580, .rows 22 3 yi)] } })], (yh [] .nil), Y1, Int × Y2, List Y1, fun k v => (((), ((), (v.1, ()))), (((), ((), ())), (((), ((), ())), (k, (v.2, ()))))), fun t => t.2.2.2.1, fun t => (t.1.2.2.1, t.2.2.2.2.1), S_zcb_2, fun k r => .l (.exit 2 (mkSt ({ slots := [2, 3], sh := (.cons (.box 2 0) (.cons (.box 3 0) .nil)), obs := [(2, .cells (.cons .nilsl (.cons .nilsl .nil))), (3, .cells (.cons (.arr 577) (.cons (.arr 580) .nil))), (577, .arr 3 yi), (580, .rows 22 3 yi)] }) (((), ((), ())), (((), ((), ())), (((), ((), ())), (k, (r, ())))))))⟩
noncomputable def S_zcb_0 (k : Y1) (v : List Y1) : Tr (Y2 ⊕ Y2) :=
 .c (Bool) (F_zcd k v) fun r4_ =>
 .t (!r4_)
 (.c Y2 (L_zcb_2 k ((0 : Int), v)) fun r41_ =>
 .l (.inl r41_))
 (.l (.inr v))
noncomputable def L_zcb_0 (k : Y1) (v : List Y1) : Option Y2 := iter (fun v => (S_zcb_0 k v).ev) v
noncomputable def DL_zcb_0 : LD := ⟨{ acts := [], S := { slots := [2, 3], sh := (.cons (.box 2 0) (.cons (.box 3 0) .nil)), obs := [(2, .cells (.cons .nilsl (.cons .nilsl .nil))), (3, .cells (.cons (.arr 577) (.cons (.arr 580) .nil))), (577, .arr 3 yi), (580, .rows 22 3 yi)] } }, [(0, { acts := [], S := { slots := [2, 3], sh := (.cons (.box 2 0) (.cons (.box 3 0) .nil)), obs := [(2, .cells (.cons .nilsl (.cons .nilsl .nil))), (3, .cells (.cons (.arr 577) (.cons (.arr 580) .nil))), (577, .arr 3 yi), (580, .rows 22 3 yi)] } })], (yh [] .nil), Y1, List Y1, List Y1, fun k v => (((), ((), ())), (((), ((), ())), (((), ((), ())), (k, (v, ()))))), fun t => t.2.2.2.1, fun t => t.2.2.2.2.1, S_zcb_0, fun k r => .l (.exit 0 (mkSt ({ slots := [2, 3], sh := (.cons (.box 2 0) (.cons (.box 3 0) .nil)), obs := [(2, .cells (.cons .nilsl (.cons .nilsl .nil))), (3, .cells (.cons (.arr 577) (.cons (.arr 580) .nil))), (577, .arr 3 yi), (580, .rows 22 3 yi)] }) (((), ((), ())), (((), ((), ())), (((), ((), ())), (k, (r, ())))))))⟩
noncomputable def T_zcb (a1_ : Y1) (a2_ : List Y1) : Tr (Y1 × Y2) :=
 .c (Y1 × Y2) (F_zcf a1_ a2_) fun r1_ =>
 .c Y2 (L_zcb_0 r1_.1 r1_.2) fun r44_ =>
 .l (r1_.1, r44_)
noncomputable def F_zcb (a1_ : Y1) (a2_ : List Y1) : Option (Y1 × Y2) := (T_zcb a1_ a2_).ev
noncomputable def A_zcb : Sh := (.cons (.agg (.cons (.dat y1) (.cons (.dat y2) .nil))) .nil)
noncomputable def I_zcb : List (Nat × OSh) := []
noncomputable def K_zcb : RetK := { acts := [.ren 577 1, .ren 580 4], res := [.cell 2 51], sh := (.cons (.agg (.cons (.arr 1) (.cons (.arr 4) .nil))) .nil), obs := [(1, .arr 3 yi), (4, .rows 22 3 yi)], pins := [] }
noncomputable def D_zcb : FD := ⟨A_zcb, I_zcb, [], Y1 × Y2, fun x => F_zcb x.1.1.1 x.1.1.2.1, fun r => ([.agg [.arr 1, .arr 4]], [(1, .arr 3 yi r.1), (4, .rows 22 3 yi r.2 none)])⟩
noncomputable def E_zcb : Env := envOf [(229, D_zcf), (230, D_zcd), (231, D_zbw)]
noncomputable def Z_zcb : Nat → Nat → List Nat := fun _ _ => []
noncomputable def O_zcb : List (Nat × LD) := [(8, DL_zcb_8), (6, DL_zcb_6), (4, DL_zcb_4), (2, DL_zcb_2), (0, DL_zcb_0)]
noncomputable def C_zcb : Code := (f218.body).getD .skip
noncomputable def T_zbo (a4_ : Int) (a1_ : Y1) (a2_ : Int) (a3_ : Int) : Tr (Y1 × (Y2 × (Y1 × (Int × Int)))) :=
 .c (Int × (Y1 × (Int × Int))) (F_zbr (3 : Int) a1_ a2_ a3_) fun r1_ =>
 .t (r1_.1 == (0 : Int))
 (.c (Y1 × (Y2 × (Y1 × (Int × Int)))) (F_zbs a4_ r1_.2.1 r1_.2.2.1 r1_.2.2.2) fun r2_ =>
 .c (Y1 × (Y2 × (Y1 × (Int × Int)))) (F_zbt r2_.2.2.1 r2_.2.2.2.1 r2_.2.2.2.2 r2_.1 r2_.2.1) fun r3_ =>
 .l (r3_.1, (r3_.2.1, (r3_.2.2.1, (r3_.2.2.2.1, r3_.2.2.2.2)))))
 (.t (r1_.1 == (1 : Int))
 (.c (Y1 × (Y2 × (Y1 × (Int × Int)))) (F_zbp a4_ r1_.2.1 r1_.2.2.1 r1_.2.2.2) fun r4_ =>
 .c (Y1 × (Y2 × (Y1 × (Int × Int)))) (F_zbt r4_.2.2.1 r4_.2.2.2.1 r4_.2.2.2.2 r4_.1 r4_.2.1) fun r5_ =>
 .l (r5_.1, (r5_.2.1, (r5_.2.2.1, (r5_.2.2.2.1, r5_.2.2.2.2)))))
 (.c (Y1 × (Y2 × (Y1 × (Int × Int)))) (F_zbs a4_ r1_.2.1 r1_.2.2.1 r1_.2.2.2) fun r6_ =>
 .c (Y1 × Y2) (F_zcb r6_.1 r6_.2.1) fun r7_ =>
 .c (Y1 × (Y2 × (Y1 × (Int × Int)))) (F_zbt r6_.2.2.1 r6_.2.2.2.1 r6_.2.2.2.2 r7_.1 r7_.2) fun r8_ =>
 .l (r8_.1, (r8_.2.1, (r8_.2.2.1, (r8_.2.2.2.1, r8_.2.2.2.2))))))
noncomputable def F_zbo (a4_ : Int) (a1_ : Y1) (a2_ : Int) (a3_ : Int) : Option (Y1 × (Y2 × (Y1 × (Int × Int)))) := (T_zbo a4_ a1_ a2_ a3_).ev
noncomputable def A_zbo : Sh := (.cons (.box 64 0) (.cons (.dat yi) .nil))
noncomputable def I_zbo : List (Nat × OSh) := [(64, .cells (.cons (.dat (.slice (.int .u8))) (.cons (.dat yi) (.cons (.dat (.int .u64)) .nil))))]
noncomputable def K_zbo : RetK := { acts := [.ren 833 1, .ren 1281 1, .ren 1665 1, .ren 834 2, .ren 1282 2, .ren 1666 2], res := [.cell 4 51], sh := (.cons (.agg (.cons (.arr 1) (.cons (.arr 2) .nil))) .nil), obs := [(1, .arr 3 yi), (2, .rows 22 3 yi), (64, .cells (.cons (.dat (.slice (.int .u8))) (.cons (.dat yi) (.cons (.dat (.int .u64)) .nil))))], pins := [(0, 0, 64)] }
noncomputable def D_zbo : FD := ⟨A_zbo, I_zbo, [.arg 0], Y1 × (Y2 × (Y1 × (Int × Int))), fun x => F_zbo x.1.2.1 x.2.1.1 x.2.1.2.1 x.2.1.2.2.1, fun r => ([.agg [.arr 1, .arr 2]], [(1, .arr 3 yi r.1), (2, .rows 22 3 yi r.2.1 none), (64, .cells [.dat (.slice (.int .u8)) r.2.2.1, .dat yi r.2.2.2.1, .dat (.int .u64) r.2.2.2.2])])⟩
noncomputable def E_zbo : Env := envOf [(214, D_zbr), (216, D_zbs), (215, D_zbt), (217, D_zbp), (218, D_zcb)]
noncomputable def Z_zbo : Nat → Nat → List Nat := fun _ _ => []
noncomputable def O_zbo : List (Nat × LD) := []
noncomputable def C_zbo : Code := (f191.body).getD .skip
noncomputable def T_zbn (a1_ : Y1) (a2_ : Int) (a3_ : Int) : Tr (Y1 × (Y2 × (Y1 × (Int × Int)))) :=
 .c (Y1 × (Y2 × (Y1 × (Int × Int)))) (F_zbo (7 : Int) a1_ a2_ a3_) fun r1_ =>
 .l (r1_.1, (r1_.2.1, (r1_.2.2.1, (r1_.2.2.2.1, r1_.2.2.2.2))))
noncomputable def F_zbn (a1_ : Y1) (a2_ : Int) (a3_ : Int) : Option (Y1 × (Y2 × (Y1 × (Int × Int)))) := (T_zbn a1_ a2_ a3_).ev
noncomputable def A_zbn : Sh := (.cons (.box 64 0) .nil)
noncomputable def I_zbn : List (Nat × OSh) := [(64, .cells (.cons (.dat (.slice (.int .u8))) (.cons (.dat yi) (.cons (.dat (.int .u64)) .nil))))]
noncomputable def K_zbn : RetK := { acts := [.ren 257 1, .ren 258 3], res := [.cell 2 51], sh := (.cons (.agg (.cons (.arr 1) (.cons (.arr 3) .nil))) .nil), obs := [(1, .arr 3 yi), (3, .rows 22 3 yi), (64, .cells (.cons (.dat (.slice (.int .u8))) (.cons (.dat yi) (.cons (.dat (.int .u64)) .nil))))], pins := [(0, 0, 64)] }
noncomputable def D_zbn : FD := ⟨A_zbn, I_zbn, [.arg 0], Y1 × (Y2 × (Y1 × (Int × Int))), fun x => F_zbn x.2.1.1 x.2.1.2.1 x.2.1.2.2.1, fun r => ([.agg [.arr 1, .arr 3]], [(1, .arr 3 yi r.1), (3, .rows 22 3 yi r.2.1 none), (64, .cells [.dat (.slice (.int .u8)) r.2.2.1, .dat yi r.2.2.2.1, .dat (.int .u64) r.2.2.2.2])])⟩
noncomputable def E_zbn : Env := envOf [(191, D_zbo)]
noncomputable def Z_zbn : Nat → Nat → List Nat := fun _ _ => []
noncomputable def O_zbn : List (Nat × LD) := []
noncomputable def C_zbn : Code := (f171.body).getD .skip
noncomputable def T_zbd (a1_ : Y1) : Tr (Y1 × Y2) :=
 .c (Y1 × (Y2 × (Y1 × (Int × Int)))) (F_zbn a1_ (0 : Int) (0 : Int)) fun r1_ =>
 .l (r1_.1, r1_.2.1)
noncomputable def F_zbd (a1_ : Y1) : Option (Y1 × Y2) := (T_zbd a1_).ev
noncomputable def A_zbd : Sh := (.cons (.dat (.slice (.int .u8))) .nil)
noncomputable def I_zbd : List (Nat × OSh) := []
noncomputable def K_zbd : RetK := { acts := [.ren 513 1, .ren 515 3], res := [.cell 2 51], sh := (.cons (.agg (.cons (.arr 1) (.cons (.arr 3) .nil))) .nil), obs := [(1, .arr 3 yi), (3, .rows 22 3 yi)], pins := [] }
noncomputable def D_zbd : FD := ⟨A_zbd, I_zbd, [], Y1 × Y2, fun x => F_zbd x.1.1, fun r => ([.agg [.arr 1, .arr 3]], [(1, .arr 3 yi r.1), (3, .rows 22 3 yi r.2 none)])⟩
noncomputable def E_zbd : Env := envOf [(171, D_zbn)]
noncomputable def Z_zbd : Nat → Nat → List Nat := fun _ _ => []
noncomputable def O_zbd : List (Nat × LD) := []
noncomputable def C_zbd : Code := (f122.body).getD .skip
noncomputable def T_zbe (a1_ : Y1) : Tr (Y1 × Y2) :=
 .c (Y1 × Y2) (F_zbd a1_) fun r1_ =>
 .l (r1_.1, r1_.2)
noncomputable def F_zbe (a1_ : Y1) : Option (Y1 × Y2) := (T_zbe a1_).ev
noncomputable def A_zbe : Sh := (.cons (.dat (.slice (.int .u8))) .nil)
noncomputable def I_zbe : List (Nat × OSh) := []
noncomputable def K_zbe : RetK := { acts := [.ren 257 1, .ren 259 3], res := [.cell 2 51], sh := (.cons (.agg (.cons (.arr 1) (.cons (.arr 3) .nil))) .nil), obs := [(1, .arr 3 yi), (3, .rows 22 3 yi)], pins := [] }
noncomputable def D_zbe : FD := ⟨A_zbe, I_zbe, [], Y1 × Y2, fun x => F_zbe x.1.1, fun r => ([.agg [.arr 1, .arr 3]], [(1, .arr 3 yi r.1), (3, .rows 22 3 yi r.2 none)])⟩
noncomputable def E_zbe : Env := envOf [(122, D_zbd)]
noncomputable def Z_zbe : Nat → Nat → List Nat := fun _ _ => []
noncomputable def O_zbe : List (Nat × LD) := []
noncomputable def C_zbe : Code := (f50.body).getD .skip
noncomputable def T_zy (a1_ : Int) (a2_ : Int) (a3_ : Int) : Tr (Bool) :=
 .t (decide (a2_ ≤ a1_))
 (.l (decide (a1_ ≤ a3_)))
 (.l false)
noncomputable def F_zy (a1_ : Int) (a2_ : Int) (a3_ : Int) : Option (Bool) := (T_zy a1_ a2_ a3_).ev
noncomputable def A_zy : Sh := (.cons (.dat yi) (.cons (.dat yi) (.cons (.dat yi) .nil)))
noncomputable def I_zy : List (Nat × OSh) := []
noncomputable def K_zy : RetK := { acts := [], res := [.tmp 6], sh := (.cons (.dat .bool) .nil), obs := [], pins := [] }
noncomputable def D_zy : FD := ⟨A_zy, I_zy, [], Bool, fun x => F_zy x.1.1 x.1.2.1 x.1.2.2.1, fun r => ([.dat .bool r], [])⟩
noncomputable def E_zy : Env := envOf []
noncomputable def Z_zy : Nat → Nat → List Nat := fun _ _ => []
noncomputable def O_zy : List (Nat × LD) := []
noncomputable def C_zy : Code := (f136.body).getD .skip
noncomputable def S_zar_0 (k : Y1 × (((HL [yi] → Option (Bool))) × Int)) (v : Int) : Tr ((Int) ⊕ ((Unit) ⊕ (Int))) :=
 .t (decide (v < k.2.2))
 (.g (inR v (List.length k.1)) <|
 .c (Bool) (k.2.1 ((List.getD k.1 (Int.toNat v) (0 : Int)), ())) fun r5_ =>
 .t r5_
 (.l (.inr (.inr v)))
 (.l (.inl (IntKind.wrap .i64 (v + (1 : Int))))))
 (.l (.inr (.inl ())))
noncomputable def L_zar_0 (k : Y1 × (((HL [yi] → Option (Bool))) × Int)) (v : Int) : Option ((Unit) ⊕ (Int)) := iter (fun v => (S_zar_0 k v).ev) v
noncomputable def DL_zar_0 : LD := ⟨(yh [0, 1, 7, 8] (.cons (.dat y1) (.cons (.clo [yi] .bool) (.cons (.dat yi) (.cons (.dat yi) .nil))))), [(0, (yh [] .nil))], (yh [4] (.cons (.dat yi) .nil)), Y1 × (((HL [yi] → Option (Bool))) × Int), Int, (Unit) ⊕ (Int), fun k v => ((k.1, (k.2.1, (k.2.2, (v, ())))), ()), fun t => (t.1.1, (t.1.2.1, t.1.2.2.1)), fun t => t.1.2.2.2.1, S_zar_0, fun _ r => .s (Unit) (Int) r (fun _ => .l (.exit 0 (mkSt ((ys [] .nil)) ((), ())))) (fun b => .l (.ret (mkSt ((ys [4] (.cons (.dat yi) .nil))) ((b, ()), ()))))⟩
noncomputable def T_zar (a1_ : Y1) (a2_ : (HL [yi] → Option (Bool))) : Tr (Int) :=
 .c ((Unit) ⊕ (Int)) (L_zar_0 (a1_, (a2_, ((List.length a1_ : Nat) : Int))) (0 : Int)) fun r7_ =>
 .s (Unit) (Int) r7_
 (fun _ => .l (-1 : Int))
 (fun r9_ => .l r9_)
noncomputable def F_zar (a1_ : Y1) (a2_ : (HL [yi] → Option (Bool))) : Option (Int) := (T_zar a1_ a2_).ev
noncomputable def A_zar : Sh := (.cons (.dat y1) (.cons (.clo [yi] .bool) .nil))
noncomputable def I_zar : List (Nat × OSh) := []
noncomputable def K_zar : RetK := { acts := [], res := [.tmp 4], sh := (.cons (.dat yi) .nil), obs := [], pins := [] }
noncomputable def D_zar : FD := ⟨A_zar, I_zar, [], Int, fun x => F_zar x.1.1 x.1.2.1, fun r => ([.dat yi r], [])⟩
noncomputable def E_zar : Env := envOf []
noncomputable def Z_zar : Nat → Nat → List Nat := fun _ _ => []
noncomputable def O_zar : List (Nat × LD) := [(0, DL_zar_0)]
noncomputable def C_zar : Code := (f193.body).getD .skip
noncomputable def T_zap (a1_ : Y1) (a2_ : (HL [yi] → Option (Bool))) : Tr (Bool) :=
 .c (Int) (F_zar a1_ a2_) fun r1_ =>
 .l (decide ((0 : Int) ≤ r1_))
noncomputable def F_zap (a1_ : Y1) (a2_ : (HL [yi] → Option (Bool))) : Option (Bool) := (T_zap a1_ a2_).ev
noncomputable def A_zap : Sh := (.cons (.dat y1) (.cons (.clo [yi] .bool) .nil))
noncomputable def I_zap : List (Nat × OSh) := []
noncomputable def K_zap : RetK := { acts := [], res := [.tmp 4], sh := (.cons (.dat .bool) .nil), obs := [], pins := [] }
noncomputable def D_zap : FD := ⟨A_zap, I_zap, [], Bool, fun x => F_zap x.1.1 x.1.2.1, fun r => ([.dat .bool r], [])⟩
noncomputable def E_zap : Env := envOf [(193, D_zar)]
noncomputable def Z_zap : Nat → Nat → List Nat := fun _ _ => []
noncomputable def O_zap : List (Nat × LD) := []
noncomputable def C_zap : Code := (f177.body).getD .skip
noncomputable def T_zv (a1_ : Int) (a2_ : Int) (a3_ : Int) : Tr (Bool) :=
 .c (Bool) (F_zy a1_ a2_ a3_) fun r1_ =>
 .l (!r1_)
noncomputable def F_zv (a1_ : Int) (a2_ : Int) (a3_ : Int) : Option (Bool) := (T_zv a1_ a2_ a3_).ev
noncomputable def A_zv : Sh := (.cons (.dat yi) (.cons (.ptr (.cons (.dat yi) .nil)) (.cons (.ptr (.cons (.dat yi) .nil)) .nil)))
noncomputable def I_zv : List (Nat × OSh) := []
noncomputable def K_zv : RetK := { acts := [], res := [.tmp 4], sh := (.cons (.dat .bool) .nil), obs := [], pins := [] }
noncomputable def D_zv : FD := ⟨A_zv, I_zv, [], Bool, fun x => F_zv x.1.1 x.1.2.1.1 x.1.2.2.1.1, fun r => ([.dat .bool r], [])⟩
noncomputable def E_zv : Env := envOf [(136, D_zy)]
noncomputable def Z_zv : Nat → Nat → List Nat := fun _ _ => []
noncomputable def O_zv : List (Nat × LD) := []
noncomputable def C_zv : Code := (f178.body).getD .skip
noncomputable def T_zu (a1_ : Y1) (a2_ : Int) (a3_ : Int) : Tr (Bool) :=
 .c (Bool) (F_zap a1_ (fun h1_ => Option.bind (F_zv h1_.1 a2_ a3_) fun y2_ => some y2_)) fun r3_ =>
 .l (!r3_)
noncomputable def F_zu (a1_ : Y1) (a2_ : Int) (a3_ : Int) : Option (Bool) := (T_zu a1_ a2_ a3_).ev
noncomputable def A_zu : Sh := (.cons (.dat y1) (.cons (.dat yi) (.cons (.dat yi) .nil)))
noncomputable def I_zu : List (Nat × OSh) := []
noncomputable def K_zu : RetK := { acts := [], res := [.tmp 6], sh := (.cons (.dat .bool) .nil), obs := [], pins := [] }
noncomputable def D_zu : FD := ⟨A_zu, I_zu, [], Bool, fun x => F_zu x.1.1 x.1.2.1 x.1.2.2.1, fun r => ([.dat .bool r], [])⟩
noncomputable def E_zu : Env := envOf [(177, D_zap), (177, D_zap), (178, D_zv)]
noncomputable def Z_zu : Nat → Nat → List Nat := fun _ _ => []
noncomputable def O_zu : List (Nat × LD) := []
noncomputable def C_zu : Code := (f137.body).getD .skip
noncomputable def S_zaq_0 (k : Y2 × (((HL [y1] → Option (Bool))) × Int)) (v : Int) : Tr ((Int) ⊕ ((Unit) ⊕ (Int))) :=
 .t (decide (v < k.2.2))
 (.g (inR v (List.length k.1)) <|
 .c (Bool) (k.2.1 ((List.getD k.1 (Int.toNat v) ([] : Y1)), ())) fun r5_ =>
 .t r5_
 (.l (.inr (.inr v)))
 (.l (.inl (IntKind.wrap .i64 (v + (1 : Int))))))
 (.l (.inr (.inl ())))
noncomputable def L_zaq_0 (k : Y2 × (((HL [y1] → Option (Bool))) × Int)) (v : Int) : Option ((Unit) ⊕ (Int)) := iter (fun v => (S_zaq_0 k v).ev) v
noncomputable def DL_zaq_0 : LD := ⟨(yh [0, 1, 7, 8] (.cons (.dat y2) (.cons (.clo [y1] .bool) (.cons (.dat yi) (.cons (.dat yi) .nil))))), [(0, (yh [] .nil))], (yh [4] (.cons (.dat yi) .nil)), Y2 × (((HL [y1] → Option (Bool))) × Int), Int, (Unit) ⊕ (Int), fun k v => ((k.1, (k.2.1, (k.2.2, (v, ())))), ()), fun t => (t.1.1, (t.1.2.1, t.1.2.2.1)), fun t => t.1.2.2.2.1, S_zaq_0, fun _ r => .s (Unit) (Int) r (fun _ => .l (.exit 0 (mkSt ((ys [] .nil)) ((), ())))) (fun b => .l (.ret (mkSt ((ys [4] (.cons (.dat yi) .nil))) ((b, ()), ()))))⟩
noncomputable def T_zaq (a1_ : List Y1) (a2_ : (HL [y1] → Option (Bool))) : Tr (Int) :=
 .c ((Unit) ⊕ (Int)) (L_zaq_0 (a1_, (a2_, ((List.length a1_ : Nat) : Int))) (0 : Int)) fun r7_ =>
 .s (Unit) (Int) r7_
 (fun _ => .l (-1 : Int))
 (fun r9_ => .l r9_)
noncomputable def F_zaq (a1_ : List Y1) (a2_ : (HL [y1] → Option (Bool))) : Option (Int) := (T_zaq a1_ a2_).ev
noncomputable def A_zaq : Sh := (.cons (.dat y2) (.cons (.clo [y1] .bool) .nil))
noncomputable def I_zaq : List (Nat × OSh) := []
noncomputable def K_zaq : RetK := { acts := [], res := [.tmp 4], sh := (.cons (.dat yi) .nil), obs := [], pins := [] }
noncomputable def D_zaq : FD := ⟨A_zaq, I_zaq, [], Int, fun x => F_zaq x.1.1 x.1.2.1, fun r => ([.dat yi r], [])⟩
noncomputable def E_zaq : Env := envOf []
noncomputable def Z_zaq : Nat → Nat → List Nat := fun _ _ => []
noncomputable def O_zaq : List (Nat × LD) := [(0, DL_zaq_0)]
noncomputable def C_zaq : Code := (f167.body).getD .skip
noncomputable def T_zao (a1_ : List Y1) (a2_ : (HL [y1] → Option (Bool))) : Tr (Bool) :=
 .c (Int) (F_zaq a1_ a2_) fun r1_ =>
 .l (decide ((0 : Int) ≤ r1_))
noncomputable def F_zao (a1_ : List Y1) (a2_ : (HL [y1] → Option (Bool))) : Option (Bool) := (T_zao a1_ a2_).ev
noncomputable def A_zao : Sh := (.cons (.dat y2) (.cons (.clo [y1] .bool) .nil))
noncomputable def I_zao : List (Nat × OSh) := []
noncomputable def K_zao : RetK := { acts := [], res := [.tmp 4], sh := (.cons (.dat .bool) .nil), obs := [], pins := [] }
noncomputable def D_zao : FD := ⟨A_zao, I_zao, [], Bool, fun x => F_zao x.1.1 x.1.2.1, fun r => ([.dat .bool r], [])⟩
noncomputable def E_zao : Env := envOf [(167, D_zaq)]
noncomputable def Z_zao : Nat → Nat → List Nat := fun _ _ => []
noncomputable def O_zao : List (Nat × LD) := []
noncomputable def C_zao : Code := (f141.body).getD .skip
noncomputable def T_zo (a1_ : Y1) (a2_ : Y1) (_a3_ : List Y1) : Tr (Bool) :=
 .t (((List.length a1_ : Nat) : Int) != ((List.length a2_ : Nat) : Int))
 (.l true)
 (.c (Bool) (F_zu a1_ (0 : Int) (99 : Int)) fun r1_ =>
 .l (!r1_))
noncomputable def F_zo (a1_ : Y1) (a2_ : Y1) (a3_ : List Y1) : Option (Bool) := (T_zo a1_ a2_ a3_).ev
noncomputable def A_zo : Sh := (.cons (.dat y1) (.cons (.ptr (.cons (.dat y1) (.cons (.dat y2) .nil))) .nil))
noncomputable def I_zo : List (Nat × OSh) := []
noncomputable def K_zo : RetK := { acts := [], res := [.tmp 3], sh := (.cons (.dat .bool) .nil), obs := [], pins := [] }
noncomputable def D_zo : FD := ⟨A_zo, I_zo, [], Bool, fun x => F_zo x.1.1 x.1.2.1.1 x.1.2.1.2.1, fun r => ([.dat .bool r], [])⟩
noncomputable def E_zo : Env := envOf [(137, D_zu)]
noncomputable def Z_zo : Nat → Nat → List Nat := fun _ _ => []
noncomputable def O_zo : List (Nat × LD) := []
noncomputable def C_zo : Code := (f154.body).getD .skip
noncomputable def T_zn (a1_ : Y1) (a2_ : List Y1) : Tr (Bool) :=
 .c (Bool) (F_zy ((List.length a1_ : Nat) : Int) (1 : Int) (7 : Int)) fun r1_ =>
 .t r1_
 (.c (Bool) (F_zu a1_ (0 : Int) (99 : Int)) fun r2_ =>
 .t r2_
 (.t (decide (((List.length a2_ : Nat) : Int) ≤ (7 : Int)))
 (.c (Bool) (F_zao a2_ (fun h3_ => Option.bind (F_zo h3_.1 a1_ a2_) fun y4_ => some y4_)) fun r5_ =>
 .l (!r5_))
 (.l false))
 (.l false))
 (.l false)
noncomputable def F_zn (a1_ : Y1) (a2_ : List Y1) : Option (Bool) := (T_zn a1_ a2_).ev
noncomputable def A_zn : Sh := (.cons (.agg (.cons (.dat y1) (.cons (.dat y2) .nil))) .nil)
noncomputable def I_zn : List (Nat × OSh) := []
noncomputable def K_zn : RetK := { acts := [], res := [.tmp 2], sh := (.cons (.dat .bool) .nil), obs := [], pins := [] }
noncomputable def D_zn : FD := ⟨A_zn, I_zn, [], Bool, fun x => F_zn x.1.1.1 x.1.1.2.1, fun r => ([.dat .bool r], [])⟩
noncomputable def E_zn : Env := envOf [(136, D_zy), (137, D_zu), (141, D_zao), (141, D_zao), (154, D_zo)]
noncomputable def Z_zn : Nat → Nat → List Nat := fun _ _ => []
noncomputable def O_zn : List (Nat × LD) := []
noncomputable def C_zn : Code := (f106.body).getD .skip
noncomputable def T_zw (a1_ : Int) (a2_ : Int) : Tr (Bool) :=
 .g (decide ((0 : Int) ≤ a2_)) <|
 .l ((IntKind.wrap .u64 (BitVec.toNat ((BitVec.ofInt (IntKind.bits .u64) (Int.fdiv a1_ (2 ^ (min (Int.toNat a2_) (IntKind.bits .u64))))) &&& (BitVec.ofInt (IntKind.bits .u64) (1 : Int))))) == (1 : Int))
noncomputable def F_zw (a1_ : Int) (a2_ : Int) : Option (Bool) := (T_zw a1_ a2_).ev
noncomputable def A_zw : Sh := (.cons (.dat (.int .u64)) (.cons (.dat yi) .nil))
noncomputable def I_zw : List (Nat × OSh) := []
noncomputable def K_zw : RetK := { acts := [], res := [.tmp 4], sh := (.cons (.dat .bool) .nil), obs := [], pins := [] }
noncomputable def D_zw : FD := ⟨A_zw, I_zw, [], Bool, fun x => F_zw x.1.1 x.1.2.1, fun r => ([.dat .bool r], [])⟩
noncomputable def E_zw : Env := envOf []
noncomputable def Z_zw : Nat → Nat → List Nat := fun _ _ => []
noncomputable def O_zw : List (Nat × LD) := []
noncomputable def C_zw : Code := (f152.body).getD .skip
noncomputable def S_zx_0 (k : Int) (v : Int × Y1) : Tr ((Int × Y1) ⊕ Y1) :=
 .g (decide ((0 : Int) ≤ v.1)) <|
 .t (decide ((0 : Int) < (Int.fdiv k (2 ^ (min (Int.toNat v.1) (IntKind.bits .u64))))))
 (.c (Bool) (F_zw k v.1) fun r4_ =>
 .t r4_
 (.g (decide ((List.length v.2 + List.length ([v.1] : Y1)) * 8 ≤ 140737488355328)) <|
 .l (.inl ((IntKind.wrap .i64 (v.1 + (1 : Int))), (v.2 ++ ([v.1] : Y1)))))
 (.l (.inl ((IntKind.wrap .i64 (v.1 + (1 : Int))), v.2))))
 (.l (.inr v.2))
noncomputable def L_zx_0 (k : Int) (v : Int × Y1) : Option Y1 := iter (fun v => (S_zx_0 k v).ev) v
noncomputable def DL_zx_0 : LD := ⟨{ acts := [], S := { slots := [0, 3, 4], sh := (.cons (.dat (.int .u64)) (.cons (.arr 5) (.cons (.dat yi) .nil))), obs := [(5, .arr 3 yi)] } }, [(0, { acts := [], S := { slots := [3], sh := (.cons (.arr 5) .nil), obs := [(5, .arr 3 yi)] } })], (yh [] .nil), Int, Int × Y1, Y1, fun k v => ((k, ((), (v.1, ()))), (v.2, ())), fun t => t.1.1, fun t => (t.1.2.2.1, t.2.1), S_zx_0, fun _ r => .l (.exit 0 (mkSt ({ slots := [3], sh := (.cons (.arr 5) .nil), obs := [(5, .arr 3 yi)] }) (((), ()), (r, ()))))⟩
noncomputable def T_zx (a1_ : Int) : Tr Y1 :=
 .c Y1 (L_zx_0 a1_ ((0 : Int), ([] : Y1))) fun r6_ =>
 .l r6_
noncomputable def F_zx (a1_ : Int) : Option Y1 := (T_zx a1_).ev
noncomputable def A_zx : Sh := (.cons (.dat (.int .u64)) .nil)
noncomputable def I_zx : List (Nat × OSh) := []
noncomputable def K_zx : RetK := { acts := [.ren 5 0], res := [.tmp 2], sh := (.cons (.arr 0) .nil), obs := [(0, .arr 3 yi)], pins := [] }
noncomputable def D_zx : FD := ⟨A_zx, I_zx, [], Y1, fun x => F_zx x.1.1, fun r => ([.arr 0], [(0, .arr 3 yi r)])⟩
noncomputable def E_zx : Env := envOf [(152, D_zw)]
noncomputable def Z_zx : Nat → Nat → List Nat := fun _ _ => []
noncomputable def O_zx : List (Nat × LD) := [(0, DL_zx_0)]
noncomputable def C_zx : Code := (f144.body).getD .skip
noncomputable def S_zk_0 (k : Int × (Y1 × (Int × (Y1 × Y2)))) (v : Int × Int) : Tr ((Int × Int) ⊕ (Int)) :=
 .t (decide (v.2 < k.2.2.1))
 (.g (inR v.2 (List.length k.2.1)) <|
 .g (inR k.1 (List.length k.2.2.2.2)) <|
 .g (inR (List.getD k.2.1 (Int.toNat v.2) (0 : Int)) (List.length (List.getD k.2.2.2.2 (Int.toNat k.1) ([] : Y1)))) <|
 .g (inR k.1 (List.length k.2.2.2.2)) <|
 .g (inR v.1 (List.length (List.getD k.2.2.2.2 (Int.toNat k.1) ([] : Y1)))) <|
 .t (decide ((List.getD (List.getD k.2.2.2.2 (Int.toNat k.1) ([] : Y1)) (Int.toNat (List.getD k.2.1 (Int.toNat v.2) (0 : Int))) (0 : Int)) < (List.getD (List.getD k.2.2.2.2 (Int.toNat k.1) ([] : Y1)) (Int.toNat v.1) (0 : Int))))
 (.l (.inl ((List.getD k.2.1 (Int.toNat v.2) (0 : Int)), (IntKind.wrap .i64 (v.2 + (1 : Int))))))
 (.l (.inl (v.1, (IntKind.wrap .i64 (v.2 + (1 : Int)))))))
 (.l (.inr v.1))
noncomputable def L_zk_0 (k : Int × (Y1 × (Int × (Y1 × Y2)))) (v : Int × Int) : Option (Int) := iter (fun v => (S_zk_0 k v).ev) v
noncomputable def DL_zk_0 : LD := ⟨{ acts := [], S := { slots := [1, 3, 7, 13, 14, 15], sh := (.cons (.dat yi) (.cons (.box 3 0) (.cons (.dat yi) (.cons (.dat y1) (.cons (.dat yi) (.cons (.dat yi) .nil)))))), obs := [(3, .cells (.cons (.dat y1) (.cons (.dat y2) .nil)))] } }, [(0, (yh [7] (.cons (.dat yi) .nil)))], (yh [] .nil), Int × (Y1 × (Int × (Y1 × Y2))), Int × (Int), Int, fun k v => ((k.1, ((), (v.1, (k.2.1, (k.2.2.1, (v.2, ())))))), ((k.2.2.2.1, (k.2.2.2.2, ())), ())), fun t => (t.1.1, (t.1.2.2.2.1, (t.1.2.2.2.2.1, (t.2.1.1, t.2.1.2.1)))), fun t => (t.1.2.2.1, t.1.2.2.2.2.2.1), S_zk_0, fun _ r => .l (.exit 0 (mkSt ((ys [7] (.cons (.dat yi) .nil))) ((r, ()), ())))⟩
noncomputable def T_zk (a1_ : Y1) (a2_ : List Y1) (a3_ : Int) (a4_ : Y1) : Tr (Int) :=
 .g (inR (0 : Int) (List.length a4_)) <|
 .c (Int) (L_zk_0 (a3_, (a4_, (((List.length a4_ : Nat) : Int), (a1_, a2_)))) ((List.getD a4_ (Int.toNat (0 : Int)) (0 : Int)), (0 : Int))) fun r9_ =>
 .l r9_
noncomputable def F_zk (a1_ : Y1) (a2_ : List Y1) (a3_ : Int) (a4_ : Y1) : Option (Int) := (T_zk a1_ a2_ a3_ a4_).ev
noncomputable def A_zk : Sh := (.cons (.agg (.cons (.dat y1) (.cons (.dat y2) .nil))) (.cons (.dat yi) (.cons (.dat y1) .nil)))
noncomputable def I_zk : List (Nat × OSh) := []
noncomputable def K_zk : RetK := { acts := [], res := [.tmp 6], sh := (.cons (.dat yi) .nil), obs := [], pins := [] }
noncomputable def D_zk : FD := ⟨A_zk, I_zk, [], Int, fun x => F_zk x.1.1.1 x.1.1.2.1 x.1.2.1 x.1.2.2.1, fun r => ([.dat yi r], [])⟩
noncomputable def E_zk : Env := envOf []
noncomputable def Z_zk : Nat → Nat → List Nat := fun _ _ => []
noncomputable def O_zk : List (Nat × LD) := [(0, DL_zk_0)]
noncomputable def C_zk : Code := (f172.body).getD .skip
noncomputable def S_zh_2 (k : Int × (Y1 × (Y2 × (Int × (Int × (Y1 × (Int × (Y1 × (Y2 × (Y2 × (Y1 × Y1))))))))))) (v : Int × Int) : Tr ((Int × Int) ⊕ (Int)) :=
 .t (decide (v.2 < k.2.2.2.2.2.2.1))
 (.g (inR v.2 (List.length k.2.2.2.2.2.1)) <|
 .g (inR v.2 (List.length k.2.2.2.2.2.2.2.1)) <|
 .g (inR v.1 (List.length k.2.2.2.2.2.2.2.1)) <|
 .g (inR v.1 (List.length k.2.1)) <|
 .t (decide ((IntKind.wrap .i64 ((List.getD k.2.2.2.2.2.2.2.1 (Int.toNat v.2) (0 : Int)) + (List.getD k.2.2.2.2.2.1 (Int.toNat v.2) (0 : Int)))) < (IntKind.wrap .i64 ((List.getD k.2.2.2.2.2.2.2.1 (Int.toNat v.1) (0 : Int)) + (List.getD k.2.1 (Int.toNat v.1) (0 : Int))))))
 (.l (.inl (v.2, (IntKind.wrap .i64 (v.2 + (1 : Int))))))
 (.l (.inl (v.1, (IntKind.wrap .i64 (v.2 + (1 : Int)))))))
 (.l (.inr v.1))
noncomputable def L_zh_2 (k : Int × (Y1 × (Y2 × (Int × (Int × (Y1 × (Int × (Y1 × (Y2 × (Y2 × (Y1 × Y1))))))))))) (v : Int × Int) : Option (Int) := iter (fun v => (S_zh_2 k v).ev) v
noncomputable def DL_zh_2 : LD := ⟨{ acts := [], S := { slots := [1, 4, 5, 7, 8, 9, 10, 21, 22, 23, 31, 32, 33], sh := (.cons (.box 1 0) (.cons (.arr 18) (.cons (.arr 19) (.cons (.dat yi) (.cons (.dat y1) (.cons (.arr 28) (.cons (.dat yi) (.cons (.dat y2) (.cons (.dat yi) (.cons (.dat yi) (.cons (.dat y1) (.cons (.dat yi) (.cons (.dat yi) .nil))))))))))))), obs := [(1, .cells (.cons (.dat y1) (.cons (.dat y2) .nil))), (18, .arr 22 y1), (19, .arr 3 yi), (28, .arr 3 yi)] } }, [(2, { acts := [], S := { slots := [1, 4, 5, 7, 8, 9, 10, 21, 22, 23], sh := (.cons (.box 1 0) (.cons (.arr 18) (.cons (.arr 19) (.cons (.dat yi) (.cons (.dat y1) (.cons (.arr 28) (.cons (.dat yi) (.cons (.dat y2) (.cons (.dat yi) (.cons (.dat yi) .nil)))))))))), obs := [(1, .cells (.cons (.dat y1) (.cons (.dat y2) .nil))), (18, .arr 22 y1), (19, .arr 3 yi), (28, .arr 3 yi)] } })], (yh [] .nil), Int × (Y1 × (Y2 × (Int × (Int × (Y1 × (Int × (Y1 × (Y2 × (Y2 × (Y1 × Y1)))))))))), Int × (Int), Int, fun k v => (((), ((), ((), (k.1, (k.2.1, ((), (v.1, (k.2.2.1, (k.2.2.2.1, (k.2.2.2.2.1, (k.2.2.2.2.2.1, (k.2.2.2.2.2.2.1, (v.2, ()))))))))))))), ((k.2.2.2.2.2.2.2.1, (k.2.2.2.2.2.2.2.2.1, ())), (k.2.2.2.2.2.2.2.2.2.1, (k.2.2.2.2.2.2.2.2.2.2.1, (k.2.2.2.2.2.2.2.2.2.2.2, ()))))), fun t => (t.1.2.2.2.1, (t.1.2.2.2.2.1, (t.1.2.2.2.2.2.2.2.1, (t.1.2.2.2.2.2.2.2.2.1, (t.1.2.2.2.2.2.2.2.2.2.1, (t.1.2.2.2.2.2.2.2.2.2.2.1, (t.1.2.2.2.2.2.2.2.2.2.2.2.1, (t.2.1.1, (t.2.1.2.1, (t.2.2.1, (t.2.2.2.1, t.2.2.2.2.1))))))))))), fun t => (t.1.2.2.2.2.2.2.1, t.1.2.2.2.2.2.2.2.2.2.2.2.2.1), S_zh_2, fun k r => .l (.exit 2 (mkSt ({ slots := [1, 4, 5, 7, 8, 9, 10, 21, 22, 23], sh := (.cons (.box 1 0) (.cons (.arr 18) (.cons (.arr 19) (.cons (.dat yi) (.cons (.dat y1) (.cons (.arr 28) (.cons (.dat yi) (.cons (.dat y2) (.cons (.dat yi) (.cons (.dat yi) .nil)))))))))), obs := [(1, .cells (.cons (.dat y1) (.cons (.dat y2) .nil))), (18, .arr 22 y1), (19, .arr 3 yi), (28, .arr 3 yi)] }) (((), ((), ((), (k.1, (k.2.1, ((), (r, (k.2.2.1, (k.2.2.2.1, (k.2.2.2.2.1, ())))))))))), ((k.2.2.2.2.2.2.2.1, (k.2.2.2.2.2.2.2.2.1, ())), (k.2.2.2.2.2.2.2.2.2.1, (k.2.2.2.2.2.2.2.2.2.2.1, (k.2.2.2.2.2.2.2.2.2.2.2, ())))))))⟩
noncomputable def S_zh_8 (k : Int × (Int × (Y1 × (Int × (Int × (Int × (Y2 × (Int × (Int × (Int × (Int × (Int × (Y1 × (Y2 × (Y2 × (Y1 × Y1)))))))))))))))) (v : Int × Int) : Tr ((Int × Int) ⊕ (Int)) :=
 .t (decide (v.2 < k.2.2.2.2.2.2.2.2.2.2.2.1))
 (.g (inR v.2 (List.length k.2.2.2.2.2.2.2.2.2.2.2.2.2.1)) <|
 .c Y1 (F_zx k.1) fun r81_ =>
 .c (Int) (F_zk k.2.2.2.2.2.2.2.2.2.2.2.2.1 k.2.2.2.2.2.2.2.2.2.2.2.2.2.1 v.2 r81_) fun r82_ =>
 .g (inR r82_ (List.length (List.getD k.2.2.2.2.2.2.2.2.2.2.2.2.2.1 (Int.toNat v.2) ([] : Y1)))) <|
 .g (inR v.2 (List.length k.2.2.2.2.2.2.2.2.2.2.2.2.2.1)) <|
 .g (inR k.2.2.2.2.2.1 (List.length (List.getD k.2.2.2.2.2.2.2.2.2.2.2.2.2.1 (Int.toNat v.2) ([] : Y1)))) <|
 .l (.inl ((IntKind.wrap .i64 (v.1 + (if (0 : Int) < (IntKind.wrap .i64 ((List.getD (List.getD k.2.2.2.2.2.2.2.2.2.2.2.2.2.1 (Int.toNat v.2) ([] : Y1)) (Int.toNat r82_) (0 : Int)) - (List.getD (List.getD k.2.2.2.2.2.2.2.2.2.2.2.2.2.1 (Int.toNat v.2) ([] : Y1)) (Int.toNat k.2.2.2.2.2.1) (0 : Int)))) then (IntKind.wrap .i64 ((List.getD (List.getD k.2.2.2.2.2.2.2.2.2.2.2.2.2.1 (Int.toNat v.2) ([] : Y1)) (Int.toNat r82_) (0 : Int)) - (List.getD (List.getD k.2.2.2.2.2.2.2.2.2.2.2.2.2.1 (Int.toNat v.2) ([] : Y1)) (Int.toNat k.2.2.2.2.2.1) (0 : Int)))) else (0 : Int)))), (IntKind.wrap .i64 (v.2 + (1 : Int))))))
 (.l (.inr v.1))
noncomputable def L_zh_8 (k : Int × (Int × (Y1 × (Int × (Int × (Int × (Y2 × (Int × (Int × (Int × (Int × (Int × (Y1 × (Y2 × (Y2 × (Y1 × Y1)))))))))))))))) (v : Int × Int) : Option (Int) := iter (fun v => (S_zh_8 k v).ev) v
noncomputable def DL_zh_8 : LD := ⟨{ acts := [], S := { slots := [1, 4, 5, 6, 7, 8, 9, 13, 14, 15, 16, 21, 22, 23, 66, 67, 80, 81], sh := (.cons (.box 1 0) (.cons (.arr 18) (.cons (.arr 19) (.cons (.dat (.int .u64)) (.cons (.dat yi) (.cons (.dat y1) (.cons (.arr 28) (.cons (.dat yi) (.cons (.dat yi) (.cons (.dat yi) (.cons (.dat yi) (.cons (.dat y2) (.cons (.dat yi) (.cons (.dat yi) (.cons (.dat yi) (.cons (.dat yi) (.cons (.dat yi) (.cons (.dat yi) .nil)))))))))))))))))), obs := [(1, .cells (.cons (.dat y1) (.cons (.dat y2) .nil))), (18, .arr 22 y1), (19, .arr 3 yi), (28, .arr 3 yi)] } }, [(8, { acts := [], S := { slots := [1, 4, 5, 6, 7, 8, 9, 13, 14, 15, 16, 21, 22, 23, 66, 67], sh := (.cons (.box 1 0) (.cons (.arr 18) (.cons (.arr 19) (.cons (.dat (.int .u64)) (.cons (.dat yi) (.cons (.dat y1) (.cons (.arr 28) (.cons (.dat yi) (.cons (.dat yi) (.cons (.dat yi) (.cons (.dat yi) (.cons (.dat y2) (.cons (.dat yi) (.cons (.dat yi) (.cons (.dat yi) (.cons (.dat yi) .nil)))))))))))))))), obs := [(1, .cells (.cons (.dat y1) (.cons (.dat y2) .nil))), (18, .arr 22 y1), (19, .arr 3 yi), (28, .arr 3 yi)] } })], (yh [] .nil), Int × (Int × (Y1 × (Int × (Int × (Int × (Y2 × (Int × (Int × (Int × (Int × (Int × (Y1 × (Y2 × (Y2 × (Y1 × Y1))))))))))))))), Int × (Int), Int, fun k v => (((), ((), ((), (k.1, (k.2.1, (k.2.2.1, ((), (k.2.2.2.1, (k.2.2.2.2.1, (k.2.2.2.2.2.1, (v.1, (k.2.2.2.2.2.2.1, (k.2.2.2.2.2.2.2.1, (k.2.2.2.2.2.2.2.2.1, (k.2.2.2.2.2.2.2.2.2.1, (k.2.2.2.2.2.2.2.2.2.2.1, (k.2.2.2.2.2.2.2.2.2.2.2.1, (v.2, ())))))))))))))))))), ((k.2.2.2.2.2.2.2.2.2.2.2.2.1, (k.2.2.2.2.2.2.2.2.2.2.2.2.2.1, ())), (k.2.2.2.2.2.2.2.2.2.2.2.2.2.2.1, (k.2.2.2.2.2.2.2.2.2.2.2.2.2.2.2.1, (k.2.2.2.2.2.2.2.2.2.2.2.2.2.2.2.2, ()))))), fun t => (t.1.2.2.2.1, (t.1.2.2.2.2.1, (t.1.2.2.2.2.2.1, (t.1.2.2.2.2.2.2.2.1, (t.1.2.2.2.2.2.2.2.2.1, (t.1.2.2.2.2.2.2.2.2.2.1, (t.1.2.2.2.2.2.2.2.2.2.2.2.1, (t.1.2.2.2.2.2.2.2.2.2.2.2.2.1, (t.1.2.2.2.2.2.2.2.2.2.2.2.2.2.1, (t.1.2.2.2.2.2.2.2.2.2.2.2.2.2.2.1, (t.1.2.2.2.2.2.2.2.2.2.2.2.2.2.2.2.1, (t.1.2.2.2.2.2.2.2.2.2.2.2.2.2.2.2.2.1, (t.2.1.1, (t.2.1.2.1, (t.2.2.1, (t.2.2.2.1, t.2.2.2.2.1)))))))))))))))), fun t => (t.1.2.2.2.2.2.2.2.2.2.2.1, t.1.2.2.2.2.2.2.2.2.2.2.2.2.2.2.2.2.2.1), S_zh_8, fun k r => .l (.exit 8 (mkSt ({ slots := [1, 4, 5, 6, 7, 8, 9, 13, 14, 15, 16, 21, 22, 23, 66, 67], sh := (.cons (.box 1 0) (.cons (.arr 18) (.cons (.arr 19) (.cons (.dat (.int .u64)) (.cons (.dat yi) (.cons (.dat y1) (.cons (.arr 28) (.cons (.dat yi) (.cons (.dat yi) (.cons (.dat yi) (.cons (.dat yi) (.cons (.dat y2) (.cons (.dat yi) (.cons (.dat yi) (.cons (.dat yi) (.cons (.dat yi) .nil)))))))))))))))), obs := [(1, .cells (.cons (.dat y1) (.cons (.dat y2) .nil))), (18, .arr 22 y1), (19, .arr 3 yi), (28, .arr 3 yi)] }) (((), ((), ((), (k.1, (k.2.1, (k.2.2.1, ((), (k.2.2.2.1, (k.2.2.2.2.1, (k.2.2.2.2.2.1, (r, (k.2.2.2.2.2.2.1, (k.2.2.2.2.2.2.2.1, (k.2.2.2.2.2.2.2.2.1, (k.2.2.2.2.2.2.2.2.2.1, (k.2.2.2.2.2.2.2.2.2.2.1, ())))))))))))))))), ((k.2.2.2.2.2.2.2.2.2.2.2.2.1, (k.2.2.2.2.2.2.2.2.2.2.2.2.2.1, ())), (k.2.2.2.2.2.2.2.2.2.2.2.2.2.2.1, (k.2.2.2.2.2.2.2.2.2.2.2.2.2.2.2.1, (k.2.2.2.2.2.2.2.2.2.2.2.2.2.2.2.2, ())))))))⟩
noncomputable def S_zh_6 (k : Int × (Int × (Y1 × (Y2 × (Int × (Int × (Int × (Y1 × (Y2 × (Y2 × (Y1 × Y1))))))))))) (v : Int × (Int × Int)) : Tr ((Int × (Int × Int)) ⊕ (Int)) :=
 .t (decide (v.2.2 < k.2.2.2.2.2.2.1))
 (.c (Bool) (F_zw k.1 v.2.2) fun r61_ =>
 .t r61_
 (.l (.inl (v.1, (v.2.1, (IntKind.wrap .i64 (v.2.2 + (1 : Int)))))))
 (.g (inR v.2.2 (List.length k.2.2.2.2.2.2.2.1)) <|
 .c (Int) (L_zh_8 (k.1, (k.2.1, (k.2.2.1, (v.1, (v.2.1, (v.2.2, (k.2.2.2.1, (k.2.2.2.2.1, (k.2.2.2.2.2.1, (k.2.2.2.2.2.2.1, (v.2.2, ((IntKind.wrap .i64 (k.2.1 + (1 : Int))), (k.2.2.2.2.2.2.2.1, (k.2.2.2.2.2.2.2.2.1, (k.2.2.2.2.2.2.2.2.2.1, (k.2.2.2.2.2.2.2.2.2.2.1, k.2.2.2.2.2.2.2.2.2.2.2)))))))))))))))) ((IntKind.wrap .i64 (0 - (List.getD k.2.2.2.2.2.2.2.1 (Int.toNat v.2.2) (0 : Int)))), (0 : Int))) fun r100_ =>
 .t (decide (v.2.1 < r100_))
 (.l (.inl (v.2.2, (r100_, (IntKind.wrap .i64 (v.2.2 + (1 : Int)))))))
 (.l (.inl (v.1, (v.2.1, (IntKind.wrap .i64 (v.2.2 + (1 : Int)))))))))
 (.l (.inr v.1))
noncomputable def L_zh_6 (k : Int × (Int × (Y1 × (Y2 × (Int × (Int × (Int × (Y1 × (Y2 × (Y2 × (Y1 × Y1))))))))))) (v : Int × (Int × Int)) : Option (Int) := iter (fun v => (S_zh_6 k v).ev) v
noncomputable def DL_zh_6 : LD := ⟨{ acts := [], S := { slots := [1, 4, 5, 6, 7, 8, 9, 13, 14, 21, 22, 23, 66, 67], sh := (.cons (.box 1 0) (.cons (.arr 18) (.cons (.arr 19) (.cons (.dat (.int .u64)) (.cons (.dat yi) (.cons (.dat y1) (.cons (.arr 28) (.cons (.dat yi) (.cons (.dat yi) (.cons (.dat y2) (.cons (.dat yi) (.cons (.dat yi) (.cons (.dat yi) (.cons (.dat yi) .nil)))))))))))))), obs := [(1, .cells (.cons (.dat y1) (.cons (.dat y2) .nil))), (18, .arr 22 y1), (19, .arr 3 yi), (28, .arr 3 yi)] } }, [(6, { acts := [], S := { slots := [1, 4, 5, 6, 7, 8, 9, 13, 21, 22, 23], sh := (.cons (.box 1 0) (.cons (.arr 18) (.cons (.arr 19) (.cons (.dat (.int .u64)) (.cons (.dat yi) (.cons (.dat y1) (.cons (.arr 28) (.cons (.dat yi) (.cons (.dat y2) (.cons (.dat yi) (.cons (.dat yi) .nil))))))))))), obs := [(1, .cells (.cons (.dat y1) (.cons (.dat y2) .nil))), (18, .arr 22 y1), (19, .arr 3 yi), (28, .arr 3 yi)] } })], (yh [] .nil), Int × (Int × (Y1 × (Y2 × (Int × (Int × (Int × (Y1 × (Y2 × (Y2 × (Y1 × Y1)))))))))), Int × (Int × Int), Int, fun k v => (((), ((), ((), (k.1, (k.2.1, (k.2.2.1, ((), (v.1, (v.2.1, (k.2.2.2.1, (k.2.2.2.2.1, (k.2.2.2.2.2.1, (k.2.2.2.2.2.2.1, (v.2.2, ())))))))))))))), ((k.2.2.2.2.2.2.2.1, (k.2.2.2.2.2.2.2.2.1, ())), (k.2.2.2.2.2.2.2.2.2.1, (k.2.2.2.2.2.2.2.2.2.2.1, (k.2.2.2.2.2.2.2.2.2.2.2, ()))))), fun t => (t.1.2.2.2.1, (t.1.2.2.2.2.1, (t.1.2.2.2.2.2.1, (t.1.2.2.2.2.2.2.2.2.2.1, (t.1.2.2.2.2.2.2.2.2.2.2.1, (t.1.2.2.2.2.2.2.2.2.2.2.2.1, (t.1.2.2.2.2.2.2.2.2.2.2.2.2.1, (t.2.1.1, (t.2.1.2.1, (t.2.2.1, (t.2.2.2.1, t.2.2.2.2.1))))))))))), fun t => (t.1.2.2.2.2.2.2.2.1, (t.1.2.2.2.2.2.2.2.2.1, t.1.2.2.2.2.2.2.2.2.2.2.2.2.2.1)), S_zh_6, fun k r => .l (.exit 6 (mkSt ({ slots := [1, 4, 5, 6, 7, 8, 9, 13, 21, 22, 23], sh := (.cons (.box 1 0) (.cons (.arr 18) (.cons (.arr 19) (.cons (.dat (.int .u64)) (.cons (.dat yi) (.cons (.dat y1) (.cons (.arr 28) (.cons (.dat yi) (.cons (.dat y2) (.cons (.dat yi) (.cons (.dat yi) .nil))))))))))), obs := [(1, .cells (.cons (.dat y1) (.cons (.dat y2) .nil))), (18, .arr 22 y1), (19, .arr 3 yi), (28, .arr 3 yi)] }) (((), ((), ((), (k.1, (k.2.1, (k.2.2.1, ((), (r, (k.2.2.2.1, (k.2.2.2.2.1, (k.2.2.2.2.2.1, ()))))))))))), ((k.2.2.2.2.2.2.2.1, (k.2.2.2.2.2.2.2.2.1, ())), (k.2.2.2.2.2.2.2.2.2.1, (k.2.2.2.2.2.2.2.2.2.2.1, (k.2.2.2.2.2.2.2.2.2.2.2, ())))))))⟩
noncomputable def S_zh_4 (k : Int × (Y1 × (Y2 × (Int × (Int × (Y1 × (Y2 × (Y2 × Y1)))))))) (v : Int × Y1) : Tr ((Int × Y1) ⊕ (Int × Y1)) :=
 .c (Int) (L_zh_6 (v.1, (k.1, (k.2.1, (k.2.2.1, (k.2.2.2.1, (k.2.2.2.2.1, (((List.length k.2.2.2.2.2.1 : Nat) : Int), (k.2.2.2.2.2.1, (k.2.2.2.2.2.2.1, (k.2.2.2.2.2.2.2.1, (k.2.2.2.2.2.2.2.2, v.2))))))))))) ((-1 : Int), ((0 : Int), (0 : Int)))) fun r113_ =>
 .t (decide (r113_ < (0 : Int)))
 (.l (.inr (v.1, v.2)))
 (.g (decide ((List.length v.2 + List.length ([r113_] : Y1)) * 8 ≤ 140737488355328)) <|
 .g (decide ((0 : Int) ≤ r113_)) <|
 .l (.inl ((IntKind.wrap .u64 (BitVec.toNat ((BitVec.ofInt (IntKind.bits .u64) v.1) ||| (BitVec.ofInt (IntKind.bits .u64) (IntKind.wrap .u64 ((1 : Int) * 2 ^ (min (Int.toNat r113_) (IntKind.bits .u64)))))))), (v.2 ++ ([r113_] : Y1)))))
noncomputable def L_zh_4 (k : Int × (Y1 × (Y2 × (Int × (Int × (Y1 × (Y2 × (Y2 × Y1)))))))) (v : Int × Y1) : Option (Int × Y1) := iter (fun v => (S_zh_4 k v).ev) v
noncomputable def DL_zh_4 : LD := ⟨{ acts := [], S := { slots := [1, 4, 5, 6, 7, 8, 9, 21, 22, 23], sh := (.cons (.box 1 0) (.cons (.arr 18) (.cons (.arr 19) (.cons (.dat (.int .u64)) (.cons (.dat yi) (.cons (.dat y1) (.cons (.arr 28) (.cons (.dat y2) (.cons (.dat yi) (.cons (.dat yi) .nil)))))))))), obs := [(1, .cells (.cons (.dat y1) (.cons (.dat y2) .nil))), (18, .arr 22 y1), (19, .arr 3 yi), (28, .arr 3 yi)] } }, [(4, { acts := [], S := { slots := [1, 4, 5, 6, 7, 8, 9, 21, 22, 23], sh := (.cons (.box 1 0) (.cons (.arr 18) (.cons (.arr 19) (.cons (.dat (.int .u64)) (.cons (.dat yi) (.cons (.dat y1) (.cons (.arr 28) (.cons (.dat y2) (.cons (.dat yi) (.cons (.dat yi) .nil)))))))))), obs := [(1, .cells (.cons (.dat y1) (.cons (.dat y2) .nil))), (18, .arr 22 y1), (19, .arr 3 yi), (28, .arr 3 yi)] } })], (yh [] .nil), Int × (Y1 × (Y2 × (Int × (Int × (Y1 × (Y2 × (Y2 × Y1))))))), Int × Y1, Int × Y1, fun k v => (((), ((), ((), (v.1, (k.1, (k.2.1, ((), (k.2.2.1, (k.2.2.2.1, (k.2.2.2.2.1, ())))))))))), ((k.2.2.2.2.2.1, (k.2.2.2.2.2.2.1, ())), (k.2.2.2.2.2.2.2.1, (k.2.2.2.2.2.2.2.2, (v.2, ()))))), fun t => (t.1.2.2.2.2.1, (t.1.2.2.2.2.2.1, (t.1.2.2.2.2.2.2.2.1, (t.1.2.2.2.2.2.2.2.2.1, (t.1.2.2.2.2.2.2.2.2.2.1, (t.2.1.1, (t.2.1.2.1, (t.2.2.1, t.2.2.2.1)))))))), fun t => (t.1.2.2.2.1, t.2.2.2.2.1), S_zh_4, fun k r => .l (.exit 4 (mkSt ({ slots := [1, 4, 5, 6, 7, 8, 9, 21, 22, 23], sh := (.cons (.box 1 0) (.cons (.arr 18) (.cons (.arr 19) (.cons (.dat (.int .u64)) (.cons (.dat yi) (.cons (.dat y1) (.cons (.arr 28) (.cons (.dat y2) (.cons (.dat yi) (.cons (.dat yi) .nil)))))))))), obs := [(1, .cells (.cons (.dat y1) (.cons (.dat y2) .nil))), (18, .arr 22 y1), (19, .arr 3 yi), (28, .arr 3 yi)] }) (((), ((), ((), (r.1, (k.1, (k.2.1, ((), (k.2.2.1, (k.2.2.2.1, (k.2.2.2.2.1, ())))))))))), ((k.2.2.2.2.2.1, (k.2.2.2.2.2.2.1, ())), (k.2.2.2.2.2.2.2.1, (k.2.2.2.2.2.2.2.2, (r.2, ())))))))⟩
noncomputable def S_zh_0 (k : Y2 × (Int × (Y1 × Y2))) (v : Int × (Int × (Y2 × Y1))) : Tr ((Int × (Int × (Y2 × Y1))) ⊕ (Y2 × Y1)) :=
 .t (decide (v.2.1 < k.2.1))
 (.g (inR v.2.1 (List.length k.1)) <|
 .t (v.1 == (0 : Int))
 (.c (Int) (L_zh_2 (v.2.1, ((List.getD k.1 (Int.toNat v.2.1) ([] : Y1)), (k.1, (k.2.1, (v.2.1, ((List.getD k.1 (Int.toNat v.2.1) ([] : Y1)), (((List.length (List.getD k.1 (Int.toNat v.2.1) ([] : Y1)) : Nat) : Int), (k.2.2.1, (k.2.2.2, (v.2.2.1, (v.2.2.2, ([] : Y1)))))))))))) ((0 : Int), (0 : Int))) fun r34_ =>
 .g (decide ((List.length ([] : Y1) + List.length ([r34_] : Y1)) * 8 ≤ 140737488355328)) <|
 .g (decide ((0 : Int) ≤ r34_)) <|
 .c (Int × Y1) (L_zh_4 (v.2.1, ((List.getD k.1 (Int.toNat v.2.1) ([] : Y1)), (k.1, (k.2.1, (v.2.1, (k.2.2.1, (k.2.2.2, (v.2.2.1, v.2.2.2)))))))) ((IntKind.wrap .u64 ((1 : Int) * 2 ^ (min (Int.toNat r34_) (IntKind.bits .u64)))), (([] : Y1) ++ ([r34_] : Y1)))) fun r125_ =>
 .g (decide ((List.length v.2.2.1 + List.length ([r125_.2] : List Y1)) * 24 ≤ 140737488355328)) <|
 .c Y1 (F_zx r125_.1) fun r126_ =>
 .c (Int) (F_zk k.2.2.1 k.2.2.2 v.2.1 r126_) fun r127_ =>
 .g (inR r127_ (List.length (List.getD k.1 (Int.toNat v.2.1) ([] : Y1)))) <|
 .g (decide ((List.length v.2.2.2 + List.length ([(List.getD (List.getD k.1 (Int.toNat v.2.1) ([] : Y1)) (Int.toNat r127_) (0 : Int))] : Y1)) * 8 ≤ 140737488355328)) <|
 .l (.inl (r125_.1, ((IntKind.wrap .i64 (v.2.1 + (1 : Int))), ((v.2.2.1 ++ ([r125_.2] : List Y1)), (v.2.2.2 ++ ([(List.getD (List.getD k.1 (Int.toNat v.2.1) ([] : Y1)) (Int.toNat r127_) (0 : Int))] : Y1)))))))
 (.c (Int × Y1) (L_zh_4 (v.2.1, ((List.getD k.1 (Int.toNat v.2.1) ([] : Y1)), (k.1, (k.2.1, (v.2.1, (k.2.2.1, (k.2.2.2, (v.2.2.1, v.2.2.2)))))))) (v.1, ([] : Y1))) fun r128_ =>
 .g (decide ((List.length v.2.2.1 + List.length ([r128_.2] : List Y1)) * 24 ≤ 140737488355328)) <|
 .c Y1 (F_zx r128_.1) fun r129_ =>
 .c (Int) (F_zk k.2.2.1 k.2.2.2 v.2.1 r129_) fun r130_ =>
 .g (inR r130_ (List.length (List.getD k.1 (Int.toNat v.2.1) ([] : Y1)))) <|
 .g (decide ((List.length v.2.2.2 + List.length ([(List.getD (List.getD k.1 (Int.toNat v.2.1) ([] : Y1)) (Int.toNat r130_) (0 : Int))] : Y1)) * 8 ≤ 140737488355328)) <|
 .l (.inl (r128_.1, ((IntKind.wrap .i64 (v.2.1 + (1 : Int))), ((v.2.2.1 ++ ([r128_.2] : List Y1)), (v.2.2.2 ++ ([(List.getD (List.getD k.1 (Int.toNat v.2.1) ([] : Y1)) (Int.toNat r130_) (0 : Int))] : Y1))))))))
 (.l (.inr (v.2.2.1, v.2.2.2)))
noncomputable def L_zh_0 (k : Y2 × (Int × (Y1 × Y2))) (v : Int × (Int × (Y2 × Y1))) : Option (Y2 × Y1) := iter (fun v => (S_zh_0 k v).ev) v
noncomputable def DL_zh_0 : LD := ⟨{ acts := [], S := { slots := [1, 4, 5, 6, 21, 22, 23], sh := (.cons (.box 1 0) (.cons (.arr 18) (.cons (.arr 19) (.cons (.dat (.int .u64)) (.cons (.dat y2) (.cons (.dat yi) (.cons (.dat yi) .nil))))))), obs := [(1, .cells (.cons (.dat y1) (.cons (.dat y2) .nil))), (18, .arr 22 y1), (19, .arr 3 yi)] } }, [(0, { acts := [], S := { slots := [4, 5], sh := (.cons (.arr 18) (.cons (.arr 19) .nil)), obs := [(18, .arr 22 y1), (19, .arr 3 yi)] } })], (yh [] .nil), Y2 × (Int × (Y1 × Y2)), Int × (Int × (Y2 × Y1)), Y2 × Y1, fun k v => (((), ((), ((), (v.1, (k.1, (k.2.1, (v.2.1, ()))))))), ((k.2.2.1, (k.2.2.2, ())), (v.2.2.1, (v.2.2.2, ())))), fun t => (t.1.2.2.2.2.1, (t.1.2.2.2.2.2.1, (t.2.1.1, t.2.1.2.1))), fun t => (t.1.2.2.2.1, (t.1.2.2.2.2.2.2.1, (t.2.2.1, t.2.2.2.1))), S_zh_0, fun _ r => .l (.exit 0 (mkSt ({ slots := [4, 5], sh := (.cons (.arr 18) (.cons (.arr 19) .nil)), obs := [(18, .arr 22 y1), (19, .arr 3 yi)] }) (((), ((), ())), (r.1, (r.2, ())))))⟩
noncomputable def T_zh (a1_ : Y1) (a2_ : List Y1) : Tr (Y2 × Y1) :=
 .c (Y2 × Y1) (L_zh_0 (a2_, (((List.length a2_ : Nat) : Int), (a1_, a2_))) ((0 : Int), ((0 : Int), (([] : List Y1), ([] : Y1))))) fun r133_ =>
 .l (r133_.1, r133_.2)
noncomputable def F_zh (a1_ : Y1) (a2_ : List Y1) : Option (Y2 × Y1) := (T_zh a1_ a2_).ev
noncomputable def A_zh : Sh := (.cons (.agg (.cons (.dat y1) (.cons (.dat y2) .nil))) .nil)
noncomputable def I_zh : List (Nat × OSh) := []
noncomputable def K_zh : RetK := { acts := [.ren 18 0, .ren 19 1], res := [.tmp 2, .tmp 3], sh := (.cons (.arr 0) (.cons (.arr 1) .nil)), obs := [(0, .arr 22 y1), (1, .arr 3 yi)], pins := [] }
noncomputable def D_zh : FD := ⟨A_zh, I_zh, [], Y2 × Y1, fun x => F_zh x.1.1.1 x.1.1.2.1, fun r => ([.arr 0, .arr 1], [(0, .arr 22 y1 r.1), (1, .arr 3 yi r.2)])⟩
noncomputable def E_zh : Env := envOf [(152, D_zw), (144, D_zx), (172, D_zk)]
noncomputable def Z_zh : Nat → Nat → List Nat := fun r i => match look [(14, [(0, [60000000])]), (30, [(0, [60000000])]), (31, [(0, [9, 60000000])])] r with
 | some l => (look l i).getD []
 | none => []
noncomputable def O_zh : List (Nat × LD) := [(2, DL_zh_2), (8, DL_zh_8), (6, DL_zh_6), (4, DL_zh_4), (0, DL_zh_0)]
noncomputable def C_zh : Code := (f123.body).getD .skip
noncomputable def T_zp (a1_ : Y1) (a2_ : List Y1) : Tr (Bool × Y2) :=
 .c (Bool) (F_zn a1_ a2_) fun r1_ =>
 .t (!r1_)
 (.l (false, ([] : List Y1)))
 (.c (Y2 × Y1) (F_zh a1_ a2_) fun r2_ =>
 .l (true, r2_.1))
noncomputable def F_zp (a1_ : Y1) (a2_ : List Y1) : Option (Bool × Y2) := (T_zp a1_ a2_).ev
noncomputable def A_zp : Sh := (.cons (.agg (.cons (.dat y1) (.cons (.dat y2) .nil))) .nil)
noncomputable def I_zp : List (Nat × OSh) := []
noncomputable def K_zp : RetK := { acts := [.own 2 0 22 y1, .ren 704 0], res := [.tmp 2, .tmp 3], sh := (.cons (.arr 0) (.cons (.dat .bool) .nil)), obs := [(0, .arr 22 y1)], pins := [] }
noncomputable def D_zp : FD := ⟨A_zp, I_zp, [], Bool × Y2, fun x => F_zp x.1.1.1 x.1.1.2.1, fun r => ([.arr 0, .dat .bool r.1], [(0, .arr 22 y1 r.2)])⟩
noncomputable def E_zp : Env := envOf [(106, D_zn), (123, D_zh)]
noncomputable def Z_zp : Nat → Nat → List Nat := fun _ _ => []
noncomputable def O_zp : List (Nat × LD) := []
noncomputable def C_zp : Code := (f51.body).getD .skip
noncomputable def T_zbv (a1_ : Int) (a2_ : Int) (a3_ : Int) : Tr (Bool) :=
 .t (decide (a2_ ≤ a1_))
 (.l (decide (a1_ ≤ a3_)))
 (.l false)
noncomputable def F_zbv (a1_ : Int) (a2_ : Int) (a3_ : Int) : Option (Bool) := (T_zbv a1_ a2_ a3_).ev
noncomputable def A_zbv : Sh := (.cons (.dat yi) (.cons (.dat yi) (.cons (.dat yi) .nil)))
noncomputable def I_zbv : List (Nat × OSh) := []
noncomputable def K_zbv : RetK := { acts := [], res := [.tmp 6], sh := (.cons (.dat .bool) .nil), obs := [], pins := [] }
noncomputable def D_zbv : FD := ⟨A_zbv, I_zbv, [], Bool, fun x => F_zbv x.1.1 x.1.2.1 x.1.2.2.1, fun r => ([.dat .bool r], [])⟩
noncomputable def E_zbv : Env := envOf []
noncomputable def Z_zbv : Nat → Nat → List Nat := fun _ _ => []
noncomputable def O_zbv : List (Nat × LD) := []
noncomputable def C_zbv : Code := (f134.body).getD .skip
noncomputable def S_zch_0 (k : Y1 × (Int × Int)) (v : Int) : Tr ((Int) ⊕ ((Unit) ⊕ (Unit))) :=
 .t (decide (v < ((List.length k.1 : Nat) : Int)))
 (.g (inR v (List.length k.1)) <|
 .c (Bool) (F_zbv (List.getD k.1 (Int.toNat v) (0 : Int)) (0 : Int) k.2.2) fun r5_ =>
 .t (!r5_)
 (.l (.inr (.inr ())))
 (.l (.inl (IntKind.wrap .i64 (v + (1 : Int))))))
 (.l (.inr (.inl ())))
noncomputable def L_zch_0 (k : Y1 × (Int × Int)) (v : Int) : Option ((Unit) ⊕ (Unit)) := iter (fun v => (S_zch_0 k v).ev) v
noncomputable def DL_zch_0 : LD := ⟨(yh [0, 1, 2, 7] (.cons (.dat y1) (.cons (.dat yi) (.cons (.dat yi) (.cons (.dat yi) .nil))))), [(0, (yh [0, 1] (.cons (.dat y1) (.cons (.dat yi) .nil))))], (yh [6] (.cons (.dat .bool) .nil)), Y1 × (Int × Int), Int, (Unit) ⊕ (Unit), fun k v => ((k.1, (k.2.1, (k.2.2, (v, ())))), ()), fun t => (t.1.1, (t.1.2.1, t.1.2.2.1)), fun t => t.1.2.2.2.1, S_zch_0, fun k r => .s (Unit) (Unit) r (fun _ => .l (.exit 0 (mkSt ((ys [0, 1] (.cons (.dat y1) (.cons (.dat yi) .nil)))) ((k.1, (k.2.1, ())), ())))) (fun _ => .l (.ret (mkSt ((ys [6] (.cons (.dat .bool) .nil))) ((false, ()), ()))))⟩
noncomputable def T_zch (a1_ : Y1) (a2_ : Int) (a3_ : Int) : Tr (Bool) :=
 .c ((Unit) ⊕ (Unit)) (L_zch_0 (a1_, (a2_, a3_)) (0 : Int)) fun r9_ =>
 .s (Unit) (Unit) r9_
 (fun _ => .l (((List.length a1_ : Nat) : Int) == a2_))
 (fun _ => .l false)
noncomputable def F_zch (a1_ : Y1) (a2_ : Int) (a3_ : Int) : Option (Bool) := (T_zch a1_ a2_ a3_).ev
noncomputable def A_zch : Sh := (.cons (.dat y1) (.cons (.dat yi) (.cons (.dat yi) .nil)))
noncomputable def I_zch : List (Nat × OSh) := []
noncomputable def K_zch : RetK := { acts := [], res := [.tmp 6], sh := (.cons (.dat .bool) .nil), obs := [], pins := [] }
noncomputable def D_zch : FD := ⟨A_zch, I_zch, [], Bool, fun x => F_zch x.1.1 x.1.2.1 x.1.2.2.1, fun r => ([.dat .bool r], [])⟩
noncomputable def E_zch : Env := envOf [(134, D_zbv)]
noncomputable def Z_zch : Nat → Nat → List Nat := fun _ _ => []
noncomputable def O_zch : List (Nat × LD) := [(0, DL_zch_0)]
noncomputable def C_zch : Code := (f133.body).getD .skip
noncomputable def S_zcc_0 (k : Int × (Y1 × Y2)) (v : Int) : Tr ((Int) ⊕ ((Unit) ⊕ (Unit))) :=
 .t (decide (v < ((List.length k.2.2 : Nat) : Int)))
 (.g (inR v (List.length k.2.2)) <|
 .c (Bool) (F_zch (List.getD k.2.2 (Int.toNat v) ([] : Y1)) k.1 (99 : Int)) fun r5_ =>
 .t (!r5_)
 (.l (.inr (.inr ())))
 (.l (.inl (IntKind.wrap .i64 (v + (1 : Int))))))
 (.l (.inr (.inl ())))
noncomputable def L_zcc_0 (k : Int × (Y1 × Y2)) (v : Int) : Option ((Unit) ⊕ (Unit)) := iter (fun v => (S_zcc_0 k v).ev) v
noncomputable def DL_zcc_0 : LD := ⟨{ acts := [], S := { slots := [1, 3, 4], sh := (.cons (.box 1 0) (.cons (.dat yi) (.cons (.dat yi) .nil))), obs := [(1, .cells (.cons (.dat y1) (.cons (.dat y2) .nil)))] } }, [(0, { acts := [], S := { slots := [1, 3], sh := (.cons (.box 1 0) (.cons (.dat yi) .nil)), obs := [(1, .cells (.cons (.dat y1) (.cons (.dat y2) .nil)))] } })], (yh [2] (.cons (.dat .bool) .nil)), Int × (Y1 × Y2), Int, (Unit) ⊕ (Unit), fun k v => (((), (k.1, (v, ()))), ((k.2.1, (k.2.2, ())), ())), fun t => (t.1.2.1, (t.2.1.1, t.2.1.2.1)), fun t => t.1.2.2.1, S_zcc_0, fun k r => .s (Unit) (Unit) r (fun _ => .l (.exit 0 (mkSt ({ slots := [1, 3], sh := (.cons (.box 1 0) (.cons (.dat yi) .nil)), obs := [(1, .cells (.cons (.dat y1) (.cons (.dat y2) .nil)))] }) (((), (k.1, ())), ((k.2.1, (k.2.2, ())), ()))))) (fun _ => .l (.ret (mkSt ((ys [2] (.cons (.dat .bool) .nil))) ((false, ()), ()))))⟩
noncomputable def T_zcc (a1_ : Y1) (a2_ : List Y1) : Tr (Bool) :=
 .c ((Unit) ⊕ (Unit)) (L_zcc_0 (((List.length a1_ : Nat) : Int), (a1_, a2_)) (0 : Int)) fun r10_ =>
 .s (Unit) (Unit) r10_
 (fun _ => .c (Bool) (F_zbv ((List.length a1_ : Nat) : Int) (1 : Int) (7 : Int)) fun r13_ =>
 .t r13_
 (.c (Bool) (F_zch a1_ ((List.length a1_ : Nat) : Int) (99 : Int)) fun r14_ =>
 .t r14_
 (.l (decide (((List.length a2_ : Nat) : Int) ≤ (7 : Int))))
 (.l false))
 (.l false))
 (fun _ => .l false)
noncomputable def F_zcc (a1_ : Y1) (a2_ : List Y1) : Option (Bool) := (T_zcc a1_ a2_).ev
noncomputable def A_zcc : Sh := (.cons (.agg (.cons (.dat y1) (.cons (.dat y2) .nil))) .nil)
noncomputable def I_zcc : List (Nat × OSh) := []
noncomputable def K_zcc : RetK := { acts := [], res := [.tmp 2], sh := (.cons (.dat .bool) .nil), obs := [], pins := [] }
noncomputable def D_zcc : FD := ⟨A_zcc, I_zcc, [], Bool, fun x => F_zcc x.1.1.1 x.1.1.2.1, fun r => ([.dat .bool r], [])⟩
noncomputable def E_zcc : Env := envOf [(133, D_zch), (134, D_zbv)]
noncomputable def Z_zcc : Nat → Nat → List Nat := fun _ _ => []
noncomputable def O_zcc : List (Nat × LD) := [(0, DL_zcc_0)]
noncomputable def C_zcc : Code := (f100.body).getD .skip
noncomputable def S_zbi_0 (k : Int × (Y1 × Y2)) (v : Int × Int) : Tr ((Int × Int) ⊕ (Int)) :=
 .t (decide (v.2 < ((List.length k.2.1 : Nat) : Int)))
 (.g (inR v.2 (List.length k.2.1)) <|
 .g (inR k.1 (List.length k.2.2)) <|
 .g (inR v.2 (List.length (List.getD k.2.2 (Int.toNat k.1) ([] : Y1)))) <|
 .g (inR v.1 (List.length k.2.1)) <|
 .g (inR k.1 (List.length k.2.2)) <|
 .g (inR v.1 (List.length (List.getD k.2.2 (Int.toNat k.1) ([] : Y1)))) <|
 .t (decide ((IntKind.wrap .i64 ((List.getD k.2.1 (Int.toNat v.2) (0 : Int)) + (List.getD (List.getD k.2.2 (Int.toNat k.1) ([] : Y1)) (Int.toNat v.2) (0 : Int)))) < (IntKind.wrap .i64 ((List.getD k.2.1 (Int.toNat v.1) (0 : Int)) + (List.getD (List.getD k.2.2 (Int.toNat k.1) ([] : Y1)) (Int.toNat v.1) (0 : Int))))))
 (.l (.inl (v.2, (IntKind.wrap .i64 (v.2 + (1 : Int))))))
 (.l (.inl (v.1, (IntKind.wrap .i64 (v.2 + (1 : Int)))))))
 (.l (.inr v.1))
noncomputable def L_zbi_0 (k : Int × (Y1 × Y2)) (v : Int × Int) : Option (Int) := iter (fun v => (S_zbi_0 k v).ev) v
noncomputable def DL_zbi_0 : LD := ⟨{ acts := [], S := { slots := [1, 2, 5, 6], sh := (.cons (.dat yi) (.cons (.box 2 0) (.cons (.dat yi) (.cons (.dat yi) .nil)))), obs := [(2, .cells (.cons (.dat y1) (.cons (.dat y2) .nil)))] } }, [(0, (yh [5] (.cons (.dat yi) .nil)))], (yh [] .nil), Int × (Y1 × Y2), Int × (Int), Int, fun k v => ((k.1, ((), (v.1, (v.2, ())))), ((k.2.1, (k.2.2, ())), ())), fun t => (t.1.1, (t.2.1.1, t.2.1.2.1)), fun t => (t.1.2.2.1, t.1.2.2.2.1), S_zbi_0, fun _ r => .l (.exit 0 (mkSt ((ys [5] (.cons (.dat yi) .nil))) ((r, ()), ())))⟩
noncomputable def T_zbi (a1_ : Y1) (a2_ : List Y1) (a3_ : Int) : Tr (Int) :=
 .c (Int) (L_zbi_0 (a3_, (a1_, a2_)) ((0 : Int), (1 : Int))) fun r7_ =>
 .l r7_
noncomputable def F_zbi (a1_ : Y1) (a2_ : List Y1) (a3_ : Int) : Option (Int) := (T_zbi a1_ a2_ a3_).ev
noncomputable def A_zbi : Sh := (.cons (.agg (.cons (.dat y1) (.cons (.dat y2) .nil))) (.cons (.dat yi) .nil))
noncomputable def I_zbi : List (Nat × OSh) := []
noncomputable def K_zbi : RetK := { acts := [], res := [.tmp 4], sh := (.cons (.dat yi) .nil), obs := [], pins := [] }
noncomputable def D_zbi : FD := ⟨A_zbi, I_zbi, [], Int, fun x => F_zbi x.1.1.1 x.1.1.2.1 x.1.2.1, fun r => ([.dat yi r], [])⟩
noncomputable def E_zbi : Env := envOf []
noncomputable def Z_zbi : Nat → Nat → List Nat := fun _ _ => []
noncomputable def O_zbi : List (Nat × LD) := [(0, DL_zbi_0)]
noncomputable def C_zbi : Code := (f173.body).getD .skip
noncomputable def S_zbz_0 (k : Y1 × Int) (v : Int) : Tr ((Int) ⊕ (Int)) :=
 .t (decide (v < ((List.length k.1 : Nat) : Int)))
 (.g (inR v (List.length k.1)) <|
 .t (decide ((List.getD k.1 (Int.toNat v) (0 : Int)) < k.2))
 (.l (.inl (IntKind.wrap .i64 (v + (1 : Int)))))
 (.l (.inr v)))
 (.l (.inr v))
noncomputable def L_zbz_0 (k : Y1 × Int) (v : Int) : Option (Int) := iter (fun v => (S_zbz_0 k v).ev) v
noncomputable def DL_zbz_0 : LD := ⟨(yh [0, 1, 5] (.cons (.dat y1) (.cons (.dat yi) (.cons (.dat yi) .nil)))), [(0, (yh [0, 1, 5] (.cons (.dat y1) (.cons (.dat yi) (.cons (.dat yi) .nil)))))], (yh [] .nil), Y1 × (Int), Int, Int, fun k v => ((k.1, (k.2, (v, ()))), ()), fun t => (t.1.1, t.1.2.1), fun t => t.1.2.2.1, S_zbz_0, fun k r => .l (.exit 0 (mkSt ((ys [0, 1, 5] (.cons (.dat y1) (.cons (.dat yi) (.cons (.dat yi) .nil))))) ((k.1, (k.2, (r, ()))), ())))⟩
noncomputable def T_zbz (a1_ : Y1) (a2_ : Int) : Tr Y1 :=
 .c (Int) (L_zbz_0 (a1_, a2_) (0 : Int)) fun r7_ =>
 .t (decide (r7_ < ((List.length a1_ : Nat) : Int)))
 (.g (inR r7_ (List.length a1_)) <|
 .t ((List.getD a1_ (Int.toNat r7_) (0 : Int)) == a2_)
 (.l a1_)
 (.g (decide ((0 : Int) ≤ r7_) && decide (r7_ ≤ ((List.length a1_ : Nat) : Int))) <|
 .g (decide ((List.length ([] : Y1) + List.length (List.drop 0 (List.take (Int.toNat r7_) a1_))) * 8 ≤ 140737488355328)) <|
 .g (decide ((List.length (([] : Y1) ++ (List.drop 0 (List.take (Int.toNat r7_) a1_))) + List.length ([a2_] : Y1)) * 8 ≤ 140737488355328)) <|
 .g (decide ((0 : Int) ≤ r7_) && decide (r7_ ≤ ((List.length a1_ : Nat) : Int))) <|
 .g (decide ((List.length ((([] : Y1) ++ (List.drop 0 (List.take (Int.toNat r7_) a1_))) ++ ([a2_] : Y1)) + List.length (List.drop (Int.toNat r7_) (List.take (List.length a1_) a1_))) * 8 ≤ 140737488355328)) <|
 .l (((([] : Y1) ++ (List.drop 0 (List.take (Int.toNat r7_) a1_))) ++ ([a2_] : Y1)) ++ (List.drop (Int.toNat r7_) (List.take (List.length a1_) a1_)))))
 (.g (decide ((0 : Int) ≤ r7_) && decide (r7_ ≤ ((List.length a1_ : Nat) : Int))) <|
 .g (decide ((List.length ([] : Y1) + List.length (List.drop 0 (List.take (Int.toNat r7_) a1_))) * 8 ≤ 140737488355328)) <|
 .g (decide ((List.length (([] : Y1) ++ (List.drop 0 (List.take (Int.toNat r7_) a1_))) + List.length ([a2_] : Y1)) * 8 ≤ 140737488355328)) <|
 .g (decide ((0 : Int) ≤ r7_) && decide (r7_ ≤ ((List.length a1_ : Nat) : Int))) <|
 .g (decide ((List.length ((([] : Y1) ++ (List.drop 0 (List.take (Int.toNat r7_) a1_))) ++ ([a2_] : Y1)) + List.length (List.drop (Int.toNat r7_) (List.take (List.length a1_) a1_))) * 8 ≤ 140737488355328)) <|
 .l (((([] : Y1) ++ (List.drop 0 (List.take (Int.toNat r7_) a1_))) ++ ([a2_] : Y1)) ++ (List.drop (Int.toNat r7_) (List.take (List.length a1_) a1_))))
noncomputable def F_zbz (a1_ : Y1) (a2_ : Int) : Option Y1 := (T_zbz a1_ a2_).ev
noncomputable def A_zbz : Sh := (.cons (.dat y1) (.cons (.dat yi) .nil))
noncomputable def I_zbz : List (Nat × OSh) := []
noncomputable def K_zbz : RetK := { acts := [.fz 33], res := [.tmp 4], sh := (.cons (.dat y1) .nil), obs := [], pins := [] }
noncomputable def D_zbz : FD := ⟨A_zbz, I_zbz, [], Y1, fun x => F_zbz x.1.1 x.1.2.1, fun r => ([.dat y1 r], [])⟩
noncomputable def E_zbz : Env := envOf []
noncomputable def Z_zbz : Nat → Nat → List Nat := fun _ _ => []
noncomputable def O_zbz : List (Nat × LD) := [(0, DL_zbz_0)]
noncomputable def C_zbz : Code := (f102.body).getD .skip
noncomputable def S_zbu_0 (k : Y1 × Int) (v : Int) : Tr ((Int) ⊕ ((Unit) ⊕ (Unit))) :=
 .t (decide (v < ((List.length k.1 : Nat) : Int)))
 (.g (inR v (List.length k.1)) <|
 .t ((List.getD k.1 (Int.toNat v) (0 : Int)) == k.2)
 (.l (.inr (.inr ())))
 (.l (.inl (IntKind.wrap .i64 (v + (1 : Int))))))
 (.l (.inr (.inl ())))
noncomputable def L_zbu_0 (k : Y1 × Int) (v : Int) : Option ((Unit) ⊕ (Unit)) := iter (fun v => (S_zbu_0 k v).ev) v
noncomputable def DL_zbu_0 : LD := ⟨(yh [0, 1, 5] (.cons (.dat y1) (.cons (.dat yi) (.cons (.dat yi) .nil)))), [(0, (yh [] .nil))], (yh [4] (.cons (.dat .bool) .nil)), Y1 × (Int), Int, (Unit) ⊕ (Unit), fun k v => ((k.1, (k.2, (v, ()))), ()), fun t => (t.1.1, t.1.2.1), fun t => t.1.2.2.1, S_zbu_0, fun _ r => .s (Unit) (Unit) r (fun _ => .l (.exit 0 (mkSt ((ys [] .nil)) ((), ())))) (fun _ => .l (.ret (mkSt ((ys [4] (.cons (.dat .bool) .nil))) ((true, ()), ()))))⟩
noncomputable def T_zbu (a1_ : Y1) (a2_ : Int) : Tr (Bool) :=
 .c ((Unit) ⊕ (Unit)) (L_zbu_0 (a1_, a2_) (0 : Int)) fun r5_ =>
 .s (Unit) (Unit) r5_
 (fun _ => .l false)
 (fun _ => .l true)
noncomputable def F_zbu (a1_ : Y1) (a2_ : Int) : Option (Bool) := (T_zbu a1_ a2_).ev
noncomputable def A_zbu : Sh := (.cons (.dat y1) (.cons (.dat yi) .nil))
noncomputable def I_zbu : List (Nat × OSh) := []
noncomputable def K_zbu : RetK := { acts := [], res := [.tmp 4], sh := (.cons (.dat .bool) .nil), obs := [], pins := [] }
noncomputable def D_zbu : FD := ⟨A_zbu, I_zbu, [], Bool, fun x => F_zbu x.1.1 x.1.2.1, fun r => ([.dat .bool r], [])⟩
noncomputable def E_zbu : Env := envOf []
noncomputable def Z_zbu : Nat → Nat → List Nat := fun _ _ => []
noncomputable def O_zbu : List (Nat × LD) := [(0, DL_zbu_0)]
noncomputable def C_zbu : Code := (f149.body).getD .skip
noncomputable def S_zcj_0 (k : Int × (Y1 × (Y1 × Y2))) (v : Int × Int) : Tr ((Int × Int) ⊕ (Int)) :=
 .t (decide (v.2 < ((List.length k.2.1 : Nat) : Int)))
 (.g (inR k.1 (List.length k.2.2.2)) <|
 .g (inR v.2 (List.length k.2.1)) <|
 .g (inR (List.getD k.2.1 (Int.toNat v.2) (0 : Int)) (List.length (List.getD k.2.2.2 (Int.toNat k.1) ([] : Y1)))) <|
 .g (inR k.1 (List.length k.2.2.2)) <|
 .g (inR v.1 (List.length (List.getD k.2.2.2 (Int.toNat k.1) ([] : Y1)))) <|
 .t (decide ((List.getD (List.getD k.2.2.2 (Int.toNat k.1) ([] : Y1)) (Int.toNat (List.getD k.2.1 (Int.toNat v.2) (0 : Int))) (0 : Int)) < (List.getD (List.getD k.2.2.2 (Int.toNat k.1) ([] : Y1)) (Int.toNat v.1) (0 : Int))))
 (.g (inR v.2 (List.length k.2.1)) <|
 .l (.inl ((List.getD k.2.1 (Int.toNat v.2) (0 : Int)), (IntKind.wrap .i64 (v.2 + (1 : Int))))))
 (.l (.inl (v.1, (IntKind.wrap .i64 (v.2 + (1 : Int)))))))
 (.l (.inr v.1))
noncomputable def L_zcj_0 (k : Int × (Y1 × (Y1 × Y2))) (v : Int × Int) : Option (Int) := iter (fun v => (S_zcj_0 k v).ev) v
noncomputable def DL_zcj_0 : LD := ⟨{ acts := [], S := { slots := [1, 2, 3, 7, 8], sh := (.cons (.dat yi) (.cons (.dat y1) (.cons (.box 3 0) (.cons (.dat yi) (.cons (.dat yi) .nil))))), obs := [(3, .cells (.cons (.dat y1) (.cons (.dat y2) .nil)))] } }, [(0, (yh [7] (.cons (.dat yi) .nil)))], (yh [] .nil), Int × (Y1 × (Y1 × Y2)), Int × (Int), Int, fun k v => ((k.1, (k.2.1, ((), (v.1, (v.2, ()))))), ((k.2.2.1, (k.2.2.2, ())), ())), fun t => (t.1.1, (t.1.2.1, (t.2.1.1, t.2.1.2.1))), fun t => (t.1.2.2.2.1, t.1.2.2.2.2.1), S_zcj_0, fun _ r => .l (.exit 0 (mkSt ((ys [7] (.cons (.dat yi) .nil))) ((r, ()), ())))⟩
noncomputable def T_zcj (a1_ : Y1) (a2_ : List Y1) (a3_ : Int) (a4_ : Y1) : Tr (Int) :=
 .g (inR (0 : Int) (List.length a4_)) <|
 .c (Int) (L_zcj_0 (a3_, (a4_, (a1_, a2_))) ((List.getD a4_ (Int.toNat (0 : Int)) (0 : Int)), (1 : Int))) fun r8_ =>
 .l r8_
noncomputable def F_zcj (a1_ : Y1) (a2_ : List Y1) (a3_ : Int) (a4_ : Y1) : Option (Int) := (T_zcj a1_ a2_ a3_ a4_).ev
noncomputable def A_zcj : Sh := (.cons (.agg (.cons (.dat y1) (.cons (.dat y2) .nil))) (.cons (.dat yi) (.cons (.dat y1) .nil)))
noncomputable def I_zcj : List (Nat × OSh) := []
noncomputable def K_zcj : RetK := { acts := [], res := [.tmp 6], sh := (.cons (.dat yi) .nil), obs := [], pins := [] }
noncomputable def D_zcj : FD := ⟨A_zcj, I_zcj, [], Int, fun x => F_zcj x.1.1.1 x.1.1.2.1 x.1.2.1 x.1.2.2.1, fun r => ([.dat yi r], [])⟩
noncomputable def E_zcj : Env := envOf []
noncomputable def Z_zcj : Nat → Nat → List Nat := fun _ _ => []
noncomputable def O_zcj : List (Nat × LD) := [(0, DL_zcj_0)]
noncomputable def C_zcj : Code := (f129.body).getD .skip
noncomputable def T_zce (a1_ : Y1) (a2_ : List Y1) (a3_ : Int) (a4_ : Y1) : Tr (Int) :=
 .g (inR a3_ (List.length a2_)) <|
 .c (Int) (F_zcj a1_ a2_ a3_ a4_) fun r1_ =>
 .g (inR r1_ (List.length (List.getD a2_ (Int.toNat a3_) ([] : Y1)))) <|
 .l (List.getD (List.getD a2_ (Int.toNat a3_) ([] : Y1)) (Int.toNat r1_) (0 : Int))
noncomputable def F_zce (a1_ : Y1) (a2_ : List Y1) (a3_ : Int) (a4_ : Y1) : Option (Int) := (T_zce a1_ a2_ a3_ a4_).ev
noncomputable def A_zce : Sh := (.cons (.agg (.cons (.dat y1) (.cons (.dat y2) .nil))) (.cons (.dat yi) (.cons (.dat y1) .nil)))
noncomputable def I_zce : List (Nat × OSh) := []
noncomputable def K_zce : RetK := { acts := [], res := [.tmp 6], sh := (.cons (.dat yi) .nil), obs := [], pins := [] }
noncomputable def D_zce : FD := ⟨A_zce, I_zce, [], Int, fun x => F_zce x.1.1.1 x.1.1.2.1 x.1.2.1 x.1.2.2.1, fun r => ([.dat yi r], [])⟩
noncomputable def E_zce : Env := envOf [(129, D_zcj)]
noncomputable def Z_zce : Nat → Nat → List Nat := fun _ _ => []
noncomputable def O_zce : List (Nat × LD) := []
noncomputable def C_zce : Code := (f153.body).getD .skip
noncomputable def S_zbl_0 (k : Int × (Y1 × (Int × (Y1 × Y2)))) (v : Int × Int) : Tr ((Int × Int) ⊕ (Int)) :=
 .t (decide (v.2 < k.1))
 (.c (Int) (F_zce k.2.2.2.1 k.2.2.2.2 v.2 k.2.1) fun r8_ =>
 .g (inR v.2 (List.length k.2.2.2.2)) <|
 .g (inR k.2.2.1 (List.length (List.getD k.2.2.2.2 (Int.toNat v.2) ([] : Y1)))) <|
 .c (Int) (F_zbx (IntKind.wrap .i64 (r8_ - (List.getD (List.getD k.2.2.2.2 (Int.toNat v.2) ([] : Y1)) (Int.toNat k.2.2.1) (0 : Int)))) (0 : Int)) fun r9_ =>
 .l (.inl ((IntKind.wrap .i64 (v.1 + r9_)), (IntKind.wrap .i64 (v.2 + (1 : Int))))))
 (.l (.inr v.1))
noncomputable def L_zbl_0 (k : Int × (Y1 × (Int × (Y1 × Y2)))) (v : Int × Int) : Option (Int) := iter (fun v => (S_zbl_0 k v).ev) v
noncomputable def DL_zbl_0 : LD := ⟨{ acts := [], S := { slots := [1, 2, 3, 4, 9, 10], sh := (.cons (.dat yi) (.cons (.dat y1) (.cons (.dat yi) (.cons (.box 4 0) (.cons (.dat yi) (.cons (.dat yi) .nil)))))), obs := [(4, .cells (.cons (.dat y1) (.cons (.dat y2) .nil)))] } }, [(0, (yh [9] (.cons (.dat yi) .nil)))], (yh [] .nil), Int × (Y1 × (Int × (Y1 × Y2))), Int × (Int), Int, fun k v => ((k.1, (k.2.1, (k.2.2.1, ((), (v.1, (v.2, ())))))), ((k.2.2.2.1, (k.2.2.2.2, ())), ())), fun t => (t.1.1, (t.1.2.1, (t.1.2.2.1, (t.2.1.1, t.2.1.2.1)))), fun t => (t.1.2.2.2.2.1, t.1.2.2.2.2.2.1), S_zbl_0, fun _ r => .l (.exit 0 (mkSt ((ys [9] (.cons (.dat yi) .nil))) ((r, ()), ())))⟩
noncomputable def T_zbl (a1_ : Y1) (a2_ : List Y1) (a3_ : Int) (a4_ : Y1) (a5_ : Int) : Tr (Int) :=
 .c (Int) (L_zbl_0 (a3_, (a4_, (a5_, (a1_, a2_)))) ((0 : Int), (0 : Int))) fun r11_ =>
 .l r11_
noncomputable def F_zbl (a1_ : Y1) (a2_ : List Y1) (a3_ : Int) (a4_ : Y1) (a5_ : Int) : Option (Int) := (T_zbl a1_ a2_ a3_ a4_ a5_).ev
noncomputable def A_zbl : Sh := (.cons (.agg (.cons (.dat y1) (.cons (.dat y2) .nil))) (.cons (.dat yi) (.cons (.dat y1) (.cons (.dat yi) .nil))))
noncomputable def I_zbl : List (Nat × OSh) := []
noncomputable def K_zbl : RetK := { acts := [], res := [.tmp 8], sh := (.cons (.dat yi) .nil), obs := [], pins := [] }
noncomputable def D_zbl : FD := ⟨A_zbl, I_zbl, [], Int, fun x => F_zbl x.1.1.1 x.1.1.2.1 x.1.2.1 x.1.2.2.1 x.1.2.2.2.1, fun r => ([.dat yi r], [])⟩
noncomputable def E_zbl : Env := envOf [(153, D_zce), (186, D_zbx)]
noncomputable def Z_zbl : Nat → Nat → List Nat := fun _ _ => []
noncomputable def O_zbl : List (Nat × LD) := [(0, DL_zbl_0)]
noncomputable def C_zbl : Code := (f192.body).getD .skip
noncomputable def S_zbk_0 (k : Int × (Y1 × (Y1 × Y2))) (v : Int × (Int × Int)) : Tr ((Int × (Int × Int)) ⊕ (Int)) :=
 .t (decide (v.2.2 < ((List.length k.2.2.1 : Nat) : Int)))
 (.c (Bool) (F_zbu k.2.1 v.2.2) fun r8_ =>
 .t r8_
 (.l (.inl (v.1, (v.2.1, (IntKind.wrap .i64 (v.2.2 + (1 : Int)))))))
 (.c (Int) (F_zbl k.2.2.1 k.2.2.2 k.1 k.2.1 v.2.2) fun r9_ =>
 .g (inR v.2.2 (List.length k.2.2.1)) <|
 .t (decide (v.2.1 < (IntKind.wrap .i64 (r9_ - (List.getD k.2.2.1 (Int.toNat v.2.2) (0 : Int))))))
 (.l (.inl (v.2.2, ((IntKind.wrap .i64 (r9_ - (List.getD k.2.2.1 (Int.toNat v.2.2) (0 : Int)))), (IntKind.wrap .i64 (v.2.2 + (1 : Int)))))))
 (.l (.inl (v.1, (v.2.1, (IntKind.wrap .i64 (v.2.2 + (1 : Int)))))))))
 (.l (.inr v.1))
noncomputable def L_zbk_0 (k : Int × (Y1 × (Y1 × Y2))) (v : Int × (Int × Int)) : Option (Int) := iter (fun v => (S_zbk_0 k v).ev) v
noncomputable def DL_zbk_0 : LD := ⟨{ acts := [], S := { slots := [1, 2, 3, 7, 8, 9], sh := (.cons (.dat yi) (.cons (.dat y1) (.cons (.box 3 0) (.cons (.dat yi) (.cons (.dat yi) (.cons (.dat yi) .nil)))))), obs := [(3, .cells (.cons (.dat y1) (.cons (.dat y2) .nil)))] } }, [(0, (yh [7] (.cons (.dat yi) .nil)))], (yh [] .nil), Int × (Y1 × (Y1 × Y2)), Int × (Int × Int), Int, fun k v => ((k.1, (k.2.1, ((), (v.1, (v.2.1, (v.2.2, ())))))), ((k.2.2.1, (k.2.2.2, ())), ())), fun t => (t.1.1, (t.1.2.1, (t.2.1.1, t.2.1.2.1))), fun t => (t.1.2.2.2.1, (t.1.2.2.2.2.1, t.1.2.2.2.2.2.1)), S_zbk_0, fun _ r => .l (.exit 0 (mkSt ((ys [7] (.cons (.dat yi) .nil))) ((r, ()), ())))⟩
noncomputable def T_zbk (a1_ : Y1) (a2_ : List Y1) (a3_ : Int) (a4_ : Y1) : Tr (Int) :=
 .c (Int) (L_zbk_0 (a3_, (a4_, (a1_, a2_))) ((-1 : Int), ((0 : Int), (0 : Int)))) fun r11_ =>
 .l r11_
noncomputable def F_zbk (a1_ : Y1) (a2_ : List Y1) (a3_ : Int) (a4_ : Y1) : Option (Int) := (T_zbk a1_ a2_ a3_ a4_).ev
noncomputable def A_zbk : Sh := (.cons (.agg (.cons (.dat y1) (.cons (.dat y2) .nil))) (.cons (.dat yi) (.cons (.dat y1) .nil)))
noncomputable def I_zbk : List (Nat × OSh) := []
noncomputable def K_zbk : RetK := { acts := [], res := [.tmp 6], sh := (.cons (.dat yi) .nil), obs := [], pins := [] }
noncomputable def D_zbk : FD := ⟨A_zbk, I_zbk, [], Int, fun x => F_zbk x.1.1.1 x.1.1.2.1 x.1.2.1 x.1.2.2.1, fun r => ([.dat yi r], [])⟩
noncomputable def E_zbk : Env := envOf [(149, D_zbu), (192, D_zbl)]
noncomputable def Z_zbk : Nat → Nat → List Nat := fun _ _ => []
noncomputable def O_zbk : List (Nat × LD) := [(0, DL_zbk_0)]
noncomputable def C_zbk : Code := (f174.body).getD .skip
noncomputable def S_zcg_0 (k : Y1 × (Y1 × Y2)) (v : Int × Int) : Tr ((Int × Int) ⊕ (Int)) :=
 .t (decide (v.2 < ((List.length k.1 : Nat) : Int)))
 (.g (inR v.2 (List.length k.1)) <|
 .g (inR (List.getD k.1 (Int.toNat v.2) (0 : Int)) (List.length k.2.1)) <|
 .l (.inl ((IntKind.wrap .i64 (v.1 + (List.getD k.2.1 (Int.toNat (List.getD k.1 (Int.toNat v.2) (0 : Int))) (0 : Int)))), (IntKind.wrap .i64 (v.2 + (1 : Int))))))
 (.l (.inr v.1))
noncomputable def L_zcg_0 (k : Y1 × (Y1 × Y2)) (v : Int × Int) : Option (Int) := iter (fun v => (S_zcg_0 k v).ev) v
noncomputable def DL_zcg_0 : LD := ⟨{ acts := [], S := { slots := [1, 2, 5, 6], sh := (.cons (.dat y1) (.cons (.box 2 0) (.cons (.dat yi) (.cons (.dat yi) .nil)))), obs := [(2, .cells (.cons (.dat y1) (.cons (.dat y2) .nil)))] } }, [(0, (yh [5] (.cons (.dat yi) .nil)))], (yh [] .nil), Y1 × (Y1 × Y2), Int × (Int), Int, fun k v => ((k.1, ((), (v.1, (v.2, ())))), ((k.2.1, (k.2.2, ())), ())), fun t => (t.1.1, (t.2.1.1, t.2.1.2.1)), fun t => (t.1.2.2.1, t.1.2.2.2.1), S_zcg_0, fun _ r => .l (.exit 0 (mkSt ((ys [5] (.cons (.dat yi) .nil))) ((r, ()), ())))⟩
noncomputable def T_zcg (a1_ : Y1) (a2_ : List Y1) (a3_ : Y1) : Tr (Int) :=
 .c (Int) (L_zcg_0 (a3_, (a1_, a2_)) ((0 : Int), (0 : Int))) fun r7_ =>
 .l r7_
noncomputable def F_zcg (a1_ : Y1) (a2_ : List Y1) (a3_ : Y1) : Option (Int) := (T_zcg a1_ a2_ a3_).ev
noncomputable def A_zcg : Sh := (.cons (.agg (.cons (.dat y1) (.cons (.dat y2) .nil))) (.cons (.dat y1) .nil))
noncomputable def I_zcg : List (Nat × OSh) := []
noncomputable def K_zcg : RetK := { acts := [], res := [.tmp 4], sh := (.cons (.dat yi) .nil), obs := [], pins := [] }
noncomputable def D_zcg : FD := ⟨A_zcg, I_zcg, [], Int, fun x => F_zcg x.1.1.1 x.1.1.2.1 x.1.2.1, fun r => ([.dat yi r], [])⟩
noncomputable def E_zcg : Env := envOf []
noncomputable def Z_zcg : Nat → Nat → List Nat := fun _ _ => []
noncomputable def O_zcg : List (Nat × LD) := [(0, DL_zcg_0)]
noncomputable def C_zcg : Code := (f163.body).getD .skip
noncomputable def S_zbj_2 (k : Int × (Int × (Y1 × (Y2 × Y2)))) (v : Y1 × (Int × Y1)) : Tr ((Y1 × (Int × Y1)) ⊕ (Y1 × Y1)) :=
 .t (decide ((0 : Int) ≤ v.2.1))
 (.g (decide ((List.length v.2.2 + List.length ([v.2.1] : Y1)) * 8 ≤ 140737488355328)) <|
 .c Y1 (F_zbz v.1 v.2.1) fun r49_ =>
 .c (Int) (F_zbk k.2.2.1 k.2.2.2.1 (IntKind.wrap .i64 (k.2.1 + (1 : Int))) r49_) fun r50_ =>
 .l (.inl (r49_, (r50_, (v.2.2 ++ ([v.2.1] : Y1))))))
 (.l (.inr (v.1, v.2.2)))
noncomputable def L_zbj_2 (k : Int × (Int × (Y1 × (Y2 × Y2)))) (v : Y1 × (Int × Y1)) : Option (Y1 × Y1) := iter (fun v => (S_zbj_2 k v).ev) v
noncomputable def DL_zbj_2 : LD := ⟨{ acts := [.fz 11], S := { slots := [1, 4, 5, 6, 7, 8, 9], sh := (.cons (.box 1 0) (.cons (.arr 10) (.cons (.dat y1) (.cons (.dat yi) (.cons (.dat yi) (.cons (.arr 19) (.cons (.dat yi) .nil))))))), obs := [(1, .cells (.cons (.dat y1) (.cons (.dat y2) .nil))), (10, .rows 22 3 yi), (19, .arr 3 yi)] } }, [(2, { acts := [], S := { slots := [1, 4, 5, 6, 7, 8], sh := (.cons (.box 1 0) (.cons (.arr 10) (.cons (.dat y1) (.cons (.dat yi) (.cons (.dat yi) (.cons (.arr 19) .nil)))))), obs := [(1, .cells (.cons (.dat y1) (.cons (.dat y2) .nil))), (10, .rows 22 3 yi), (19, .arr 3 yi)] } })], (yh [] .nil), Int × (Int × (Y1 × (Y2 × Y2))), Y1 × (Int × Y1), Y1 × Y1, fun k v => (((), ((), (v.1, (k.1, (k.2.1, ((), (v.2.1, ()))))))), ((k.2.2.1, (k.2.2.2.1, ())), (k.2.2.2.2, (v.2.2, ())))), fun t => (t.1.2.2.2.1, (t.1.2.2.2.2.1, (t.2.1.1, (t.2.1.2.1, t.2.2.1)))), fun t => (t.1.2.2.1, (t.1.2.2.2.2.2.2.1, t.2.2.2.1)), S_zbj_2, fun k r => .l (.exit 2 (mkSt ({ slots := [1, 4, 5, 6, 7, 8], sh := (.cons (.box 1 0) (.cons (.arr 10) (.cons (.dat y1) (.cons (.dat yi) (.cons (.dat yi) (.cons (.arr 19) .nil)))))), obs := [(1, .cells (.cons (.dat y1) (.cons (.dat y2) .nil))), (10, .rows 22 3 yi), (19, .arr 3 yi)] }) (((), ((), (r.1, (k.1, (k.2.1, ((), ())))))), ((k.2.2.1, (k.2.2.2.1, ())), (k.2.2.2.2, (r.2, ()))))))⟩
noncomputable def S_zbj_0 (k : Y1 × Y2) (v : Y1 × (Int × (Int × Y2))) : Tr ((Y1 × (Int × (Int × Y2))) ⊕ (Y1 × (Int × Y2))) :=
 .t (decide (v.2.2.1 < ((List.length k.2 : Nat) : Int)))
 (.t (((List.length v.1 : Nat) : Int) == (0 : Int))
 (.c (Int) (F_zbi k.1 k.2 v.2.2.1) fun r38_ =>
 .g (decide ((List.length ([] : Y1) + List.length ([r38_] : Y1)) * 8 ≤ 140737488355328)) <|
 .g (inR (0 : Int) (List.length (([] : Y1) ++ ([r38_] : Y1)))) <|
 .g (decide ((Int.toNat (0 : Int)) < List.length (([] : Y1) ++ ([r38_] : Y1)))) <|
 .c Y1 (F_zbz v.1 (List.getD (([] : Y1) ++ ([r38_] : Y1)) (Int.toNat (0 : Int)) (0 : Int))) fun r39_ =>
 .c (Int) (F_zbk k.1 k.2 (IntKind.wrap .i64 (v.2.2.1 + (1 : Int))) r39_) fun r40_ =>
 .c (Y1 × Y1) (L_zbj_2 (v.2.1, (v.2.2.1, (k.1, (k.2, v.2.2.2)))) (r39_, (r40_, (([] : Y1) ++ ([r38_] : Y1))))) fun r58_ =>
 .g (decide ((List.length v.2.2.2 + 1) * 24 ≤ 140737488355328)) <|
 .c (Int) (F_zce k.1 k.2 v.2.2.1 r58_.1) fun r59_ =>
 .l (.inl (r58_.1, ((IntKind.wrap .i64 (v.2.1 + r59_)), ((IntKind.wrap .i64 (v.2.2.1 + (1 : Int))), (List.set (v.2.2.2 ++ [[]]) (List.length v.2.2.2) r58_.2))))))
 (.c (Int) (F_zbk k.1 k.2 (IntKind.wrap .i64 (v.2.2.1 + (1 : Int))) v.1) fun r60_ =>
 .c (Y1 × Y1) (L_zbj_2 (v.2.1, (v.2.2.1, (k.1, (k.2, v.2.2.2)))) (v.1, (r60_, ([] : Y1)))) fun r61_ =>
 .g (decide ((List.length v.2.2.2 + 1) * 24 ≤ 140737488355328)) <|
 .c (Int) (F_zce k.1 k.2 v.2.2.1 r61_.1) fun r62_ =>
 .l (.inl (r61_.1, ((IntKind.wrap .i64 (v.2.1 + r62_)), ((IntKind.wrap .i64 (v.2.2.1 + (1 : Int))), (List.set (v.2.2.2 ++ [[]]) (List.length v.2.2.2) r61_.2)))))))
 (.l (.inr (v.1, (v.2.1, v.2.2.2))))
noncomputable def L_zbj_0 (k : Y1 × Y2) (v : Y1 × (Int × (Int × Y2))) : Option (Y1 × (Int × Y2)) := iter (fun v => (S_zbj_0 k v).ev) v
noncomputable def DL_zbj_0 : LD := ⟨{ acts := [.fz 11], S := { slots := [1, 4, 5, 6, 7], sh := (.cons (.box 1 0) (.cons (.arr 10) (.cons (.dat y1) (.cons (.dat yi) (.cons (.dat yi) .nil))))), obs := [(1, .cells (.cons (.dat y1) (.cons (.dat y2) .nil))), (10, .rows 22 3 yi)] } }, [(0, { acts := [], S := { slots := [1, 4, 5, 6], sh := (.cons (.box 1 0) (.cons (.arr 10) (.cons (.dat y1) (.cons (.dat yi) .nil)))), obs := [(1, .cells (.cons (.dat y1) (.cons (.dat y2) .nil))), (10, .rows 22 3 yi)] } })], (yh [] .nil), Y1 × Y2, Y1 × (Int × (Int × Y2)), Y1 × (Int × Y2), fun k v => (((), ((), (v.1, (v.2.1, (v.2.2.1, ()))))), ((k.1, (k.2, ())), (v.2.2.2, ()))), fun t => (t.2.1.1, t.2.1.2.1), fun t => (t.1.2.2.1, (t.1.2.2.2.1, (t.1.2.2.2.2.1, t.2.2.1))), S_zbj_0, fun k r => .l (.exit 0 (mkSt ({ slots := [1, 4, 5, 6], sh := (.cons (.box 1 0) (.cons (.arr 10) (.cons (.dat y1) (.cons (.dat yi) .nil)))), obs := [(1, .cells (.cons (.dat y1) (.cons (.dat y2) .nil))), (10, .rows 22 3 yi)] }) (((), ((), (r.1, (r.2.1, ())))), ((k.1, (k.2, ())), (r.2.2, ())))))⟩
noncomputable def T_zbj (a1_ : Y1) (a2_ : List Y1) : Tr (Int × Y2) :=
 .c (Y1 × (Int × Y2)) (L_zbj_0 (a1_, a2_) (([] : Y1), ((0 : Int), ((0 : Int), ([] : List Y1))))) fun r68_ =>
 .c (Int) (F_zcg a1_ a2_ r68_.1) fun r69_ =>
 .l ((IntKind.wrap .i64 (r68_.2.1 + r69_)), r68_.2.2)
noncomputable def F_zbj (a1_ : Y1) (a2_ : List Y1) : Option (Int × Y2) := (T_zbj a1_ a2_).ev
noncomputable def A_zbj : Sh := (.cons (.agg (.cons (.dat y1) (.cons (.dat y2) .nil))) .nil)
noncomputable def I_zbj : List (Nat × OSh) := []
noncomputable def K_zbj : RetK := { acts := [.ren 10 0], res := [.tmp 2, .tmp 3], sh := (.cons (.arr 0) (.cons (.dat yi) .nil)), obs := [(0, .rows 22 3 yi)], pins := [] }
noncomputable def D_zbj : FD := ⟨A_zbj, I_zbj, [], Int × Y2, fun x => F_zbj x.1.1.1 x.1.1.2.1, fun r => ([.arr 0, .dat yi r.1], [(0, .rows 22 3 yi r.2 none)])⟩
noncomputable def E_zbj : Env := envOf [(173, D_zbi), (102, D_zbz), (174, D_zbk), (153, D_zce), (163, D_zcg)]
noncomputable def Z_zbj : Nat → Nat → List Nat := fun r i => match look [(1, [(0, [1000000])]), (8, [(4, [29])])] r with
 | some l => (look l i).getD []
 | none => []
noncomputable def O_zbj : List (Nat × LD) := [(2, DL_zbj_2), (0, DL_zbj_0)]
noncomputable def C_zbj : Code := (f124.body).getD .skip
noncomputable def T_zbf (a1_ : Y1) (a2_ : List Y1) : Tr (Bool × Y2) :=
 .c (Bool) (F_zcc a1_ a2_) fun r1_ =>
 .t (!r1_)
 (.l (false, ([] : List Y1)))
 (.c (Int × Y2) (F_zbj a1_ a2_) fun r2_ =>
 .l (true, r2_.2))
noncomputable def F_zbf (a1_ : Y1) (a2_ : List Y1) : Option (Bool × Y2) := (T_zbf a1_ a2_).ev
noncomputable def A_zbf : Sh := (.cons (.agg (.cons (.dat y1) (.cons (.dat y2) .nil))) .nil)
noncomputable def I_zbf : List (Nat × OSh) := []
noncomputable def K_zbf : RetK := { acts := [.ren 9 0, .ren 768 0], res := [.tmp 2, .tmp 3], sh := (.cons (.arr 0) (.cons (.dat .bool) .nil)), obs := [(0, .rows 22 3 yi)], pins := [] }
noncomputable def D_zbf : FD := ⟨A_zbf, I_zbf, [], Bool × Y2, fun x => F_zbf x.1.1.1 x.1.1.2.1, fun r => ([.arr 0, .dat .bool r.1], [(0, .rows 22 3 yi r.2 none)])⟩
noncomputable def E_zbf : Env := envOf [(100, D_zcc), (124, D_zbj)]
noncomputable def Z_zbf : Nat → Nat → List Nat := fun r i => match look [(2, [(0, [1000000])])] r with
 | some l => (look l i).getD []
 | none => []
noncomputable def O_zbf : List (Nat × LD) := []
noncomputable def C_zbf : Code := (f52.body).getD .skip
noncomputable def S_zai_0 (k : Y1 × Y1) (v : Int) : Tr ((Int) ⊕ ((Unit) ⊕ (Unit))) :=
 .t (decide (v < ((List.length k.1 : Nat) : Int)))
 (.g (inR v (List.length k.1)) <|
 .g (inR v (List.length k.2)) <|
 .t ((List.getD k.1 (Int.toNat v) (0 : Int)) != (List.getD k.2 (Int.toNat v) (0 : Int)))
 (.l (.inr (.inr ())))
 (.l (.inl (IntKind.wrap .i64 (v + (1 : Int))))))
 (.l (.inr (.inl ())))
noncomputable def L_zai_0 (k : Y1 × Y1) (v : Int) : Option ((Unit) ⊕ (Unit)) := iter (fun v => (S_zai_0 k v).ev) v
noncomputable def DL_zai_0 : LD := ⟨(yh [0, 1, 5] (.cons (.dat y1) (.cons (.dat y1) (.cons (.dat yi) .nil)))), [(0, (yh [] .nil))], (yh [4] (.cons (.dat .bool) .nil)), Y1 × Y1, Int, (Unit) ⊕ (Unit), fun k v => ((k.1, (k.2, (v, ()))), ()), fun t => (t.1.1, t.1.2.1), fun t => t.1.2.2.1, S_zai_0, fun _ r => .s (Unit) (Unit) r (fun _ => .l (.exit 0 (mkSt ((ys [] .nil)) ((), ())))) (fun _ => .l (.ret (mkSt ((ys [4] (.cons (.dat .bool) .nil))) ((false, ()), ()))))⟩
noncomputable def T_zai (a1_ : Y1) (a2_ : Y1) : Tr (Bool) :=
 .t (((List.length a1_ : Nat) : Int) != ((List.length a2_ : Nat) : Int))
 (.l false)
 (.c ((Unit) ⊕ (Unit)) (L_zai_0 (a1_, a2_) (0 : Int)) fun r5_ =>
 .s (Unit) (Unit) r5_
 (fun _ => .l true)
 (fun _ => .l false))
noncomputable def F_zai (a1_ : Y1) (a2_ : Y1) : Option (Bool) := (T_zai a1_ a2_).ev
noncomputable def A_zai : Sh := (.cons (.dat y1) (.cons (.dat y1) .nil))
noncomputable def I_zai : List (Nat × OSh) := []
noncomputable def K_zai : RetK := { acts := [], res := [.tmp 4], sh := (.cons (.dat .bool) .nil), obs := [], pins := [] }
noncomputable def D_zai : FD := ⟨A_zai, I_zai, [], Bool, fun x => F_zai x.1.1 x.1.2.1, fun r => ([.dat .bool r], [])⟩
noncomputable def E_zai : Env := envOf []
noncomputable def Z_zai : Nat → Nat → List Nat := fun _ _ => []
noncomputable def O_zai : List (Nat × LD) := [(0, DL_zai_0)]
noncomputable def C_zai : Code := (f60.body).getD .skip
noncomputable def S_zak_0 (k : Y2 × Y2) (v : Int) : Tr ((Int) ⊕ ((Unit) ⊕ (Unit))) :=
 .t (decide (v < ((List.length k.1 : Nat) : Int)))
 (.g (inR v (List.length k.1)) <|
 .g (inR v (List.length k.2)) <|
 .c (Bool) (F_zai (List.getD k.1 (Int.toNat v) ([] : Y1)) (List.getD k.2 (Int.toNat v) ([] : Y1))) fun r4_ =>
 .t (!r4_)
 (.l (.inr (.inr ())))
 (.l (.inl (IntKind.wrap .i64 (v + (1 : Int))))))
 (.l (.inr (.inl ())))
noncomputable def L_zak_0 (k : Y2 × Y2) (v : Int) : Option ((Unit) ⊕ (Unit)) := iter (fun v => (S_zak_0 k v).ev) v
noncomputable def DL_zak_0 : LD := ⟨(yh [0, 1, 5] (.cons (.dat y2) (.cons (.dat y2) (.cons (.dat yi) .nil)))), [(0, (yh [] .nil))], (yh [4] (.cons (.dat .bool) .nil)), Y2 × Y2, Int, (Unit) ⊕ (Unit), fun k v => ((k.1, (k.2, (v, ()))), ()), fun t => (t.1.1, t.1.2.1), fun t => t.1.2.2.1, S_zak_0, fun _ r => .s (Unit) (Unit) r (fun _ => .l (.exit 0 (mkSt ((ys [] .nil)) ((), ())))) (fun _ => .l (.ret (mkSt ((ys [4] (.cons (.dat .bool) .nil))) ((false, ()), ()))))⟩
noncomputable def T_zak (a1_ : List Y1) (a2_ : List Y1) : Tr (Bool) :=
 .t (((List.length a1_ : Nat) : Int) != ((List.length a2_ : Nat) : Int))
 (.l false)
 (.c ((Unit) ⊕ (Unit)) (L_zak_0 (a1_, a2_) (0 : Int)) fun r6_ =>
 .s (Unit) (Unit) r6_
 (fun _ => .l true)
 (fun _ => .l false))
noncomputable def F_zak (a1_ : List Y1) (a2_ : List Y1) : Option (Bool) := (T_zak a1_ a2_).ev
noncomputable def A_zak : Sh := (.cons (.dat y2) (.cons (.dat y2) .nil))
noncomputable def I_zak : List (Nat × OSh) := []
noncomputable def K_zak : RetK := { acts := [], res := [.tmp 4], sh := (.cons (.dat .bool) .nil), obs := [], pins := [] }
noncomputable def D_zak : FD := ⟨A_zak, I_zak, [], Bool, fun x => F_zak x.1.1 x.1.2.1, fun r => ([.dat .bool r], [])⟩
noncomputable def E_zak : Env := envOf [(60, D_zai)]
noncomputable def Z_zak : Nat → Nat → List Nat := fun _ _ => []
noncomputable def O_zak : List (Nat × LD) := [(0, DL_zak_0)]
noncomputable def C_zak : Code := (f53.body).getD .skip
noncomputable def S_zae_0 (k : Y1 × Int) (v : Int × Int) : Tr ((Int × Int) ⊕ (Int)) :=
 .t (decide (v.2 < k.2))
 (.g (inR v.2 (List.length k.1)) <|
 .l (.inl ((IntKind.wrap .i64 (v.1 + (List.getD k.1 (Int.toNat v.2) (0 : Int)))), (IntKind.wrap .i64 (v.2 + (1 : Int))))))
 (.l (.inr v.1))
noncomputable def L_zae_0 (k : Y1 × Int) (v : Int × Int) : Option (Int) := iter (fun v => (S_zae_0 k v).ev) v
noncomputable def DL_zae_0 : LD := ⟨(yh [3, 6, 7, 8] (.cons (.dat yi) (.cons (.dat y1) (.cons (.dat yi) (.cons (.dat yi) .nil))))), [(0, (yh [3] (.cons (.dat yi) .nil)))], (yh [] .nil), Y1 × (Int), Int × (Int), Int, fun k v => ((v.1, (k.1, (k.2, (v.2, ())))), ()), fun t => (t.1.2.1, t.1.2.2.1), fun t => (t.1.1, t.1.2.2.2.1), S_zae_0, fun _ r => .l (.exit 0 (mkSt ((ys [3] (.cons (.dat yi) .nil))) ((r, ()), ())))⟩
noncomputable def T_zae (a1_ : Y1) : Tr (Int) :=
 .c (Int) (L_zae_0 (a1_, ((List.length a1_ : Nat) : Int)) ((0 : Int), (0 : Int))) fun r6_ =>
 .l r6_
noncomputable def F_zae (a1_ : Y1) : Option (Int) := (T_zae a1_).ev
noncomputable def A_zae : Sh := (.cons (.dat y1) .nil)
noncomputable def I_zae : List (Nat × OSh) := []
noncomputable def K_zae : RetK := { acts := [], res := [.tmp 2], sh := (.cons (.dat yi) .nil), obs := [], pins := [] }
noncomputable def D_zae : FD := ⟨A_zae, I_zae, [], Int, fun x => F_zae x.1.1, fun r => ([.dat yi r], [])⟩
noncomputable def E_zae : Env := envOf []
noncomputable def Z_zae : Nat → Nat → List Nat := fun _ _ => []
noncomputable def O_zae : List (Nat × LD) := [(0, DL_zae_0)]
noncomputable def C_zae : Code := (f98.body).getD .skip
noncomputable def S_zi_0 (k : Y1 × (Int × (Y1 × Y2))) (v : Int × Int) : Tr ((Int × Int) ⊕ (Int)) :=
 .t (decide (v.2 < k.2.1))
 (.g (inR v.2 (List.length k.1)) <|
 .g (inR (List.getD k.1 (Int.toNat v.2) (0 : Int)) (List.length k.2.2.1)) <|
 .l (.inl ((IntKind.wrap .i64 (v.1 + (List.getD k.2.2.1 (Int.toNat (List.getD k.1 (Int.toNat v.2) (0 : Int))) (0 : Int)))), (IntKind.wrap .i64 (v.2 + (1 : Int))))))
 (.l (.inr v.1))
noncomputable def L_zi_0 (k : Y1 × (Int × (Y1 × Y2))) (v : Int × Int) : Option (Int) := iter (fun v => (S_zi_0 k v).ev) v
noncomputable def DL_zi_0 : LD := ⟨{ acts := [], S := { slots := [2, 5, 8, 9, 10], sh := (.cons (.box 2 0) (.cons (.dat yi) (.cons (.dat y1) (.cons (.dat yi) (.cons (.dat yi) .nil))))), obs := [(2, .cells (.cons (.dat y1) (.cons (.dat y2) .nil)))] } }, [(0, (yh [5] (.cons (.dat yi) .nil)))], (yh [] .nil), Y1 × (Int × (Y1 × Y2)), Int × (Int), Int, fun k v => (((), (v.1, (k.1, (k.2.1, (v.2, ()))))), ((k.2.2.1, (k.2.2.2, ())), ())), fun t => (t.1.2.2.1, (t.1.2.2.2.1, (t.2.1.1, t.2.1.2.1))), fun t => (t.1.2.1, t.1.2.2.2.2.1), S_zi_0, fun _ r => .l (.exit 0 (mkSt ((ys [5] (.cons (.dat yi) .nil))) ((r, ()), ())))⟩
noncomputable def T_zi (a1_ : Y1) (a2_ : List Y1) (a3_ : Y1) : Tr (Int) :=
 .c (Int) (L_zi_0 (a3_, (((List.length a3_ : Nat) : Int), (a1_, a2_))) ((0 : Int), (0 : Int))) fun r8_ =>
 .l r8_
noncomputable def F_zi (a1_ : Y1) (a2_ : List Y1) (a3_ : Y1) : Option (Int) := (T_zi a1_ a2_ a3_).ev
noncomputable def A_zi : Sh := (.cons (.agg (.cons (.dat y1) (.cons (.dat y2) .nil))) (.cons (.dat y1) .nil))
noncomputable def I_zi : List (Nat × OSh) := []
noncomputable def K_zi : RetK := { acts := [], res := [.tmp 4], sh := (.cons (.dat yi) .nil), obs := [], pins := [] }
noncomputable def D_zi : FD := ⟨A_zi, I_zi, [], Int, fun x => F_zi x.1.1.1 x.1.1.2.1 x.1.2.1, fun r => ([.dat yi r], [])⟩
noncomputable def E_zi : Env := envOf []
noncomputable def Z_zi : Nat → Nat → List Nat := fun _ _ => []
noncomputable def O_zi : List (Nat × LD) := [(0, DL_zi_0)]
noncomputable def C_zi : Code := (f125.body).getD .skip
noncomputable def S_zq_0 (k : Int × (Y1 × (Y2 × Y2))) (v : Int × Int) : Tr ((Int × Int) ⊕ (Int)) :=
 .t (decide (v.2 < k.1))
 (.g (inR v.2 (List.length k.2.2.2)) <|
 .g (decide ((Int.toNat v.2) < List.length k.2.2.2)) <|
 .c (Int) (F_zi k.2.1 k.2.2.1 (List.getD k.2.2.2 (Int.toNat v.2) ([] : Y1))) fun r10_ =>
 .l (.inl ((IntKind.wrap .i64 (v.1 + r10_)), (IntKind.wrap .i64 (v.2 + (1 : Int))))))
 (.l (.inr v.1))
noncomputable def L_zq_0 (k : Int × (Y1 × (Y2 × Y2))) (v : Int × Int) : Option (Int) := iter (fun v => (S_zq_0 k v).ev) v
noncomputable def DL_zq_0 : LD := ⟨{ acts := [], S := { slots := [1, 6, 19, 20, 21], sh := (.cons (.box 1 0) (.cons (.dat yi) (.cons (.arr 896) (.cons (.dat yi) (.cons (.dat yi) .nil))))), obs := [(1, .cells (.cons (.dat y1) (.cons (.dat y2) .nil))), (896, .arr 22 y1)] } }, [(0, (yh [6] (.cons (.dat yi) .nil)))], (yh [] .nil), Int × (Y1 × (Y2 × Y2)), Int × (Int), Int, fun k v => (((), (v.1, ((), (k.1, (v.2, ()))))), ((k.2.1, (k.2.2.1, ())), (k.2.2.2, ()))), fun t => (t.1.2.2.2.1, (t.2.1.1, (t.2.1.2.1, t.2.2.1))), fun t => (t.1.2.1, t.1.2.2.2.2.1), S_zq_0, fun _ r => .l (.exit 0 (mkSt ((ys [6] (.cons (.dat yi) .nil))) ((r, ()), ())))⟩
noncomputable def T_zq (a1_ : Y1) (a2_ : List Y1) : Tr (Int × (Bool)) :=
 .c (Bool) (F_zn a1_ a2_) fun r1_ =>
 .t (!r1_)
 (.l ((0 : Int), false))
 (.c (Y2 × Y1) (F_zh a1_ a2_) fun r2_ =>
 .c (Int) (F_zae r2_.2) fun r3_ =>
 .c (Int) (L_zq_0 (((List.length r2_.1 : Nat) : Int), (a1_, (a2_, r2_.1))) (r3_, (0 : Int))) fun r12_ =>
 .l (r12_, true))
noncomputable def F_zq (a1_ : Y1) (a2_ : List Y1) : Option (Int × (Bool)) := (T_zq a1_ a2_).ev
noncomputable def A_zq : Sh := (.cons (.agg (.cons (.dat y1) (.cons (.dat y2) .nil))) .nil)
noncomputable def I_zq : List (Nat × OSh) := []
noncomputable def K_zq : RetK := { acts := [], res := [.tmp 2, .tmp 3], sh := (.cons (.dat yi) (.cons (.dat .bool) .nil)), obs := [], pins := [] }
noncomputable def D_zq : FD := ⟨A_zq, I_zq, [], Int × (Bool), fun x => F_zq x.1.1.1 x.1.1.2.1, fun r => ([.dat yi r.1, .dat .bool r.2], [])⟩
noncomputable def E_zq : Env := envOf [(106, D_zn), (123, D_zh), (98, D_zae), (125, D_zi)]
noncomputable def Z_zq : Nat → Nat → List Nat := fun _ _ => []
noncomputable def O_zq : List (Nat × LD) := [(0, DL_zq_0)]
noncomputable def C_zq : Code := (f54.body).getD .skip
noncomputable def T_zbg (a1_ : Y1) (a2_ : List Y1) : Tr (Int × (Bool)) :=
 .c (Bool) (F_zcc a1_ a2_) fun r1_ =>
 .t (!r1_)
 (.l ((0 : Int), false))
 (.c (Int × Y2) (F_zbj a1_ a2_) fun r2_ =>
 .l (r2_.1, true))
noncomputable def F_zbg (a1_ : Y1) (a2_ : List Y1) : Option (Int × (Bool)) := (T_zbg a1_ a2_).ev
noncomputable def A_zbg : Sh := (.cons (.agg (.cons (.dat y1) (.cons (.dat y2) .nil))) .nil)
noncomputable def I_zbg : List (Nat × OSh) := []
noncomputable def K_zbg : RetK := { acts := [], res := [.tmp 2, .tmp 3], sh := (.cons (.dat yi) (.cons (.dat .bool) .nil)), obs := [], pins := [] }
noncomputable def D_zbg : FD := ⟨A_zbg, I_zbg, [], Int × (Bool), fun x => F_zbg x.1.1.1 x.1.1.2.1, fun r => ([.dat yi r.1, .dat .bool r.2], [])⟩
noncomputable def E_zbg : Env := envOf [(100, D_zcc), (124, D_zbj)]
noncomputable def Z_zbg : Nat → Nat → List Nat := fun _ _ => []
noncomputable def O_zbg : List (Nat × LD) := []
noncomputable def C_zbg : Code := (f55.body).getD .skip
noncomputable def S_zah_0 (k : Y1 × Int) (v : Int) : Tr ((Int) ⊕ ((Unit) ⊕ (Unit))) :=
 .t (decide (v < ((List.length k.1 : Nat) : Int)))
 (.g (inR v (List.length k.1)) <|
 .t ((List.getD k.1 (Int.toNat v) (0 : Int)) == k.2)
 (.l (.inr (.inr ())))
 (.l (.inl (IntKind.wrap .i64 (v + (1 : Int))))))
 (.l (.inr (.inl ())))
noncomputable def L_zah_0 (k : Y1 × Int) (v : Int) : Option ((Unit) ⊕ (Unit)) := iter (fun v => (S_zah_0 k v).ev) v
noncomputable def DL_zah_0 : LD := ⟨(yh [0, 1, 5] (.cons (.dat y1) (.cons (.dat yi) (.cons (.dat yi) .nil)))), [(0, (yh [] .nil))], (yh [4] (.cons (.dat .bool) .nil)), Y1 × (Int), Int, (Unit) ⊕ (Unit), fun k v => ((k.1, (k.2, (v, ()))), ()), fun t => (t.1.1, t.1.2.1), fun t => t.1.2.2.1, S_zah_0, fun _ r => .s (Unit) (Unit) r (fun _ => .l (.exit 0 (mkSt ((ys [] .nil)) ((), ())))) (fun _ => .l (.ret (mkSt ((ys [4] (.cons (.dat .bool) .nil))) ((true, ()), ()))))⟩
noncomputable def T_zah (a1_ : Y1) (a2_ : Int) : Tr (Bool) :=
 .c ((Unit) ⊕ (Unit)) (L_zah_0 (a1_, a2_) (0 : Int)) fun r5_ =>
 .s (Unit) (Unit) r5_
 (fun _ => .l false)
 (fun _ => .l true)
noncomputable def F_zah (a1_ : Y1) (a2_ : Int) : Option (Bool) := (T_zah a1_ a2_).ev
noncomputable def A_zah : Sh := (.cons (.dat y1) (.cons (.dat yi) .nil))
noncomputable def I_zah : List (Nat × OSh) := []
noncomputable def K_zah : RetK := { acts := [], res := [.tmp 4], sh := (.cons (.dat .bool) .nil), obs := [], pins := [] }
noncomputable def D_zah : FD := ⟨A_zah, I_zah, [], Bool, fun x => F_zah x.1.1 x.1.2.1, fun r => ([.dat .bool r], [])⟩
noncomputable def E_zah : Env := envOf []
noncomputable def Z_zah : Nat → Nat → List Nat := fun _ _ => []
noncomputable def O_zah : List (Nat × LD) := [(0, DL_zah_0)]
noncomputable def C_zah : Code := (f56.body).getD .skip
noncomputable def S_zaj_0 (k : Y1) (v : Int × Y1) : Tr ((Int × Y1) ⊕ Y1) :=
 .t (decide (v.1 ≤ (1000 : Int)))
 (.c (Bool) (F_zah k v.1) fun r4_ =>
 .t r4_
 (.g (decide ((List.length v.2 + List.length ([v.1] : Y1)) * 8 ≤ 140737488355328)) <|
 .l (.inl ((IntKind.wrap .i64 (v.1 + (1 : Int))), (v.2 ++ ([v.1] : Y1)))))
 (.l (.inl ((IntKind.wrap .i64 (v.1 + (1 : Int))), v.2))))
 (.l (.inr v.2))
noncomputable def L_zaj_0 (k : Y1) (v : Int × Y1) : Option Y1 := iter (fun v => (S_zaj_0 k v).ev) v
noncomputable def DL_zaj_0 : LD := ⟨{ acts := [], S := { slots := [0, 3, 4], sh := (.cons (.dat y1) (.cons (.arr 5) (.cons (.dat yi) .nil))), obs := [(5, .arr 3 yi)] } }, [(0, { acts := [], S := { slots := [3], sh := (.cons (.arr 5) .nil), obs := [(5, .arr 3 yi)] } })], (yh [] .nil), Y1, Int × Y1, Y1, fun k v => ((k, ((), (v.1, ()))), (v.2, ())), fun t => t.1.1, fun t => (t.1.2.2.1, t.2.1), S_zaj_0, fun _ r => .l (.exit 0 (mkSt ({ slots := [3], sh := (.cons (.arr 5) .nil), obs := [(5, .arr 3 yi)] }) (((), ()), (r, ()))))⟩
noncomputable def T_zaj (a1_ : Y1) : Tr Y1 :=
 .c Y1 (L_zaj_0 a1_ ((-1 : Int), ([] : Y1))) fun r6_ =>
 .l r6_
noncomputable def F_zaj (a1_ : Y1) : Option Y1 := (T_zaj a1_).ev
noncomputable def A_zaj : Sh := (.cons (.dat y1) .nil)
noncomputable def I_zaj : List (Nat × OSh) := []
noncomputable def K_zaj : RetK := { acts := [.ren 5 0], res := [.tmp 2], sh := (.cons (.arr 0) .nil), obs := [(0, .arr 3 yi)], pins := [] }
noncomputable def D_zaj : FD := ⟨A_zaj, I_zaj, [], Y1, fun x => F_zaj x.1.1, fun r => ([.arr 0], [(0, .arr 3 yi r)])⟩
noncomputable def E_zaj : Env := envOf [(56, D_zah)]
noncomputable def Z_zaj : Nat → Nat → List Nat := fun _ _ => []
noncomputable def O_zaj : List (Nat × LD) := [(0, DL_zaj_0)]
noncomputable def C_zaj : Code := (f58.body).getD .skip
noncomputable def S_zab_0 (k : Y1 × (Int × (Y1 × Int))) (v : Int) : Tr ((Int) ⊕ ((Unit) ⊕ (Unit))) :=
 .t (decide (v < k.2.2.2))
 (.g (inR v (List.length k.2.2.1)) <|
 .c (Bool) (F_zy (List.getD k.2.2.1 (Int.toNat v) (0 : Int)) (0 : Int) (IntKind.wrap .i64 (k.2.1 - (1 : Int)))) fun r6_ =>
 .t (!r6_)
 (.l (.inr (.inr ())))
 (.t (decide ((0 : Int) < v))
 (.g (inR (IntKind.wrap .i64 (v - (1 : Int))) (List.length k.1)) <|
 .t (decide ((List.getD k.2.2.1 (Int.toNat v) (0 : Int)) ≤ (List.getD k.1 (Int.toNat (IntKind.wrap .i64 (v - (1 : Int)))) (0 : Int))))
 (.l (.inr (.inr ())))
 (.l (.inl (IntKind.wrap .i64 (v + (1 : Int))))))
 (.l (.inl (IntKind.wrap .i64 (v + (1 : Int)))))))
 (.l (.inr (.inl ())))
noncomputable def L_zab_0 (k : Y1 × (Int × (Y1 × Int))) (v : Int) : Option ((Unit) ⊕ (Unit)) := iter (fun v => (S_zab_0 k v).ev) v
noncomputable def DL_zab_0 : LD := ⟨(yh [0, 1, 7, 8, 9] (.cons (.dat y1) (.cons (.dat yi) (.cons (.dat y1) (.cons (.dat yi) (.cons (.dat yi) .nil)))))), [(0, (yh [] .nil))], (yh [4] (.cons (.dat .bool) .nil)), Y1 × (Int × (Y1 × Int)), Int, (Unit) ⊕ (Unit), fun k v => ((k.1, (k.2.1, (k.2.2.1, (k.2.2.2, (v, ()))))), ()), fun t => (t.1.1, (t.1.2.1, (t.1.2.2.1, t.1.2.2.2.1))), fun t => t.1.2.2.2.2.1, S_zab_0, fun _ r => .s (Unit) (Unit) r (fun _ => .l (.exit 0 (mkSt ((ys [] .nil)) ((), ())))) (fun _ => .l (.ret (mkSt ((ys [4] (.cons (.dat .bool) .nil))) ((false, ()), ()))))⟩
noncomputable def T_zab (a1_ : Y1) (a2_ : Int) : Tr (Bool) :=
 .c ((Unit) ⊕ (Unit)) (L_zab_0 (a1_, (a2_, (a1_, ((List.length a1_ : Nat) : Int)))) (0 : Int)) fun r8_ =>
 .s (Unit) (Unit) r8_
 (fun _ => .l true)
 (fun _ => .l false)
noncomputable def F_zab (a1_ : Y1) (a2_ : Int) : Option (Bool) := (T_zab a1_ a2_).ev
noncomputable def A_zab : Sh := (.cons (.dat y1) (.cons (.dat yi) .nil))
noncomputable def I_zab : List (Nat × OSh) := []
noncomputable def K_zab : RetK := { acts := [], res := [.tmp 4], sh := (.cons (.dat .bool) .nil), obs := [], pins := [] }
noncomputable def D_zab : FD := ⟨A_zab, I_zab, [], Bool, fun x => F_zab x.1.1 x.1.2.1, fun r => ([.dat .bool r], [])⟩
noncomputable def E_zab : Env := envOf [(136, D_zy)]
noncomputable def Z_zab : Nat → Nat → List Nat := fun _ _ => []
noncomputable def O_zab : List (Nat × LD) := [(0, DL_zab_0)]
noncomputable def C_zab : Code := (f131.body).getD .skip
noncomputable def T_zf (a1_ : Y1) (_a2_ : List Y1) (a3_ : Y1) : Tr (Bool) :=
 .t (decide ((0 : Int) < ((List.length a3_ : Nat) : Int)))
 (.c (Bool) (F_zab a3_ ((List.length a1_ : Nat) : Int)) fun r1_ =>
 .l r1_)
 (.l false)
noncomputable def F_zf (a1_ : Y1) (a2_ : List Y1) (a3_ : Y1) : Option (Bool) := (T_zf a1_ a2_ a3_).ev
noncomputable def A_zf : Sh := (.cons (.agg (.cons (.dat y1) (.cons (.dat y2) .nil))) (.cons (.dat y1) .nil))
noncomputable def I_zf : List (Nat × OSh) := []
noncomputable def K_zf : RetK := { acts := [], res := [.tmp 4], sh := (.cons (.dat .bool) .nil), obs := [], pins := [] }
noncomputable def D_zf : FD := ⟨A_zf, I_zf, [], Bool, fun x => F_zf x.1.1.1 x.1.1.2.1 x.1.2.1, fun r => ([.dat .bool r], [])⟩
noncomputable def E_zf : Env := envOf [(131, D_zab)]
noncomputable def Z_zf : Nat → Nat → List Nat := fun _ _ => []
noncomputable def O_zf : List (Nat × LD) := []
noncomputable def C_zf : Code := (f175.body).getD .skip
noncomputable def T_zaa (a1_ : Y1) (a2_ : List Y1) (a3_ : Y1) : Tr (Bool) :=
 .c (Bool) (F_zn a1_ a2_) fun r1_ =>
 .t r1_
 (.c (Bool) (F_zf a1_ a2_ a3_) fun r2_ =>
 .l r2_)
 (.l false)
noncomputable def F_zaa (a1_ : Y1) (a2_ : List Y1) (a3_ : Y1) : Option (Bool) := (T_zaa a1_ a2_ a3_).ev
noncomputable def A_zaa : Sh := (.cons (.agg (.cons (.dat y1) (.cons (.dat y2) .nil))) (.cons (.dat y1) .nil))
noncomputable def I_zaa : List (Nat × OSh) := []
noncomputable def K_zaa : RetK := { acts := [], res := [.tmp 4], sh := (.cons (.dat .bool) .nil), obs := [], pins := [] }
noncomputable def D_zaa : FD := ⟨A_zaa, I_zaa, [], Bool, fun x => F_zaa x.1.1.1 x.1.1.2.1 x.1.2.1, fun r => ([.dat .bool r], [])⟩
noncomputable def E_zaa : Env := envOf [(106, D_zn), (175, D_zf)]
noncomputable def Z_zaa : Nat → Nat → List Nat := fun _ _ => []
noncomputable def O_zaa : List (Nat × LD) := []
noncomputable def C_zaa : Code := (f126.body).getD .skip
noncomputable def S_zj_0 (k : Y1 × (Int × (Y1 × Y2))) (v : Int × Y1) : Tr ((Int × Y1) ⊕ Y1) :=
 .t (decide (v.1 < k.2.1))
 (.c (Int) (F_zk k.2.2.1 k.2.2.2 v.1 k.1) fun r7_ =>
 .g (decide ((List.length v.2 + List.length ([r7_] : Y1)) * 8 ≤ 140737488355328)) <|
 .l (.inl ((IntKind.wrap .i64 (v.1 + (1 : Int))), (v.2 ++ ([r7_] : Y1)))))
 (.l (.inr v.2))
noncomputable def L_zj_0 (k : Y1 × (Int × (Y1 × Y2))) (v : Int × Y1) : Option Y1 := iter (fun v => (S_zj_0 k v).ev) v
noncomputable def DL_zj_0 : LD := ⟨{ acts := [], S := { slots := [1, 2, 5, 10, 11], sh := (.cons (.dat y1) (.cons (.box 2 0) (.cons (.arr 7) (.cons (.dat yi) (.cons (.dat yi) .nil))))), obs := [(2, .cells (.cons (.dat y1) (.cons (.dat y2) .nil))), (7, .arr 3 yi)] } }, [(0, { acts := [], S := { slots := [5], sh := (.cons (.arr 7) .nil), obs := [(7, .arr 3 yi)] } })], (yh [] .nil), Y1 × (Int × (Y1 × Y2)), Int × Y1, Y1, fun k v => ((k.1, ((), ((), (k.2.1, (v.1, ()))))), ((k.2.2.1, (k.2.2.2, ())), (v.2, ()))), fun t => (t.1.1, (t.1.2.2.2.1, (t.2.1.1, t.2.1.2.1))), fun t => (t.1.2.2.2.2.1, t.2.2.1), S_zj_0, fun _ r => .l (.exit 0 (mkSt ({ slots := [5], sh := (.cons (.arr 7) .nil), obs := [(7, .arr 3 yi)] }) (((), ()), (r, ()))))⟩
noncomputable def T_zj (a1_ : Y1) (a2_ : List Y1) (a3_ : Y1) : Tr Y1 :=
 .c Y1 (L_zj_0 (a3_, (((List.length a2_ : Nat) : Int), (a1_, a2_))) ((0 : Int), ([] : Y1))) fun r9_ =>
 .l r9_
noncomputable def F_zj (a1_ : Y1) (a2_ : List Y1) (a3_ : Y1) : Option Y1 := (T_zj a1_ a2_ a3_).ev
noncomputable def A_zj : Sh := (.cons (.agg (.cons (.dat y1) (.cons (.dat y2) .nil))) (.cons (.dat y1) .nil))
noncomputable def I_zj : List (Nat × OSh) := []
noncomputable def K_zj : RetK := { acts := [.ren 7 0], res := [.tmp 4], sh := (.cons (.arr 0) .nil), obs := [(0, .arr 3 yi)], pins := [] }
noncomputable def D_zj : FD := ⟨A_zj, I_zj, [], Y1, fun x => F_zj x.1.1.1 x.1.1.2.1 x.1.2.1, fun r => ([.arr 0], [(0, .arr 3 yi r)])⟩
noncomputable def E_zj : Env := envOf [(172, D_zk)]
noncomputable def Z_zj : Nat → Nat → List Nat := fun _ _ => []
noncomputable def O_zj : List (Nat × LD) := [(0, DL_zj_0)]
noncomputable def C_zj : Code := (f127.body).getD .skip
noncomputable def T_zs (a1_ : Y1) (a2_ : List Y1) (a3_ : Y1) : Tr (Bool × Y1) :=
 .c (Bool) (F_zaa a1_ a2_ a3_) fun r1_ =>
 .t (!r1_)
 (.l (false, ([] : Y1)))
 (.c Y1 (F_zj a1_ a2_ a3_) fun r2_ =>
 .l (true, r2_))
noncomputable def F_zs (a1_ : Y1) (a2_ : List Y1) (a3_ : Y1) : Option (Bool × Y1) := (T_zs a1_ a2_ a3_).ev
noncomputable def A_zs : Sh := (.cons (.agg (.cons (.dat y1) (.cons (.dat y2) .nil))) (.cons (.dat y1) .nil))
noncomputable def I_zs : List (Nat × OSh) := []
noncomputable def K_zs : RetK := { acts := [.own 4 0 3 yi, .ren 768 0], res := [.tmp 4, .tmp 5], sh := (.cons (.arr 0) (.cons (.dat .bool) .nil)), obs := [(0, .arr 3 yi)], pins := [] }
noncomputable def D_zs : FD := ⟨A_zs, I_zs, [], Bool × Y1, fun x => F_zs x.1.1.1 x.1.1.2.1 x.1.2.1, fun r => ([.arr 0, .dat .bool r.1], [(0, .arr 3 yi r.2)])⟩
noncomputable def E_zs : Env := envOf [(126, D_zaa), (127, D_zj)]
noncomputable def Z_zs : Nat → Nat → List Nat := fun _ _ => []
noncomputable def O_zs : List (Nat × LD) := []
noncomputable def C_zs : Code := (f57.body).getD .skip
noncomputable def S_zca_0 (k : Y1 × (Int × Int)) (v : Int) : Tr ((Int) ⊕ ((Unit) ⊕ (Unit))) :=
 .t (decide (v < ((List.length k.1 : Nat) : Int)))
 (.g (inR v (List.length k.1)) <|
 .c (Bool) (F_zbv (List.getD k.1 (Int.toNat v) (0 : Int)) k.2.1 k.2.2) fun r5_ =>
 .t (!r5_)
 (.l (.inr (.inr ())))
 (.t (decide ((0 : Int) < v))
 (.g (inR (IntKind.wrap .i64 (v - (1 : Int))) (List.length k.1)) <|
 .g (inR v (List.length k.1)) <|
 .t (decide ((List.getD k.1 (Int.toNat v) (0 : Int)) ≤ (List.getD k.1 (Int.toNat (IntKind.wrap .i64 (v - (1 : Int)))) (0 : Int))))
 (.l (.inr (.inr ())))
 (.l (.inl (IntKind.wrap .i64 (v + (1 : Int))))))
 (.l (.inl (IntKind.wrap .i64 (v + (1 : Int)))))))
 (.l (.inr (.inl ())))
noncomputable def L_zca_0 (k : Y1 × (Int × Int)) (v : Int) : Option ((Unit) ⊕ (Unit)) := iter (fun v => (S_zca_0 k v).ev) v
noncomputable def DL_zca_0 : LD := ⟨(yh [0, 1, 2, 7] (.cons (.dat y1) (.cons (.dat yi) (.cons (.dat yi) (.cons (.dat yi) .nil))))), [(0, (yh [] .nil))], (yh [6] (.cons (.dat .bool) .nil)), Y1 × (Int × Int), Int, (Unit) ⊕ (Unit), fun k v => ((k.1, (k.2.1, (k.2.2, (v, ())))), ()), fun t => (t.1.1, (t.1.2.1, t.1.2.2.1)), fun t => t.1.2.2.2.1, S_zca_0, fun _ r => .s (Unit) (Unit) r (fun _ => .l (.exit 0 (mkSt ((ys [] .nil)) ((), ())))) (fun _ => .l (.ret (mkSt ((ys [6] (.cons (.dat .bool) .nil))) ((false, ()), ()))))⟩
noncomputable def T_zca (a1_ : Y1) (a2_ : Int) (a3_ : Int) : Tr (Bool) :=
 .c ((Unit) ⊕ (Unit)) (L_zca_0 (a1_, (a2_, a3_)) (0 : Int)) fun r7_ =>
 .s (Unit) (Unit) r7_
 (fun _ => .l true)
 (fun _ => .l false)
noncomputable def F_zca (a1_ : Y1) (a2_ : Int) (a3_ : Int) : Option (Bool) := (T_zca a1_ a2_ a3_).ev
noncomputable def A_zca : Sh := (.cons (.dat y1) (.cons (.dat yi) (.cons (.dat yi) .nil)))
noncomputable def I_zca : List (Nat × OSh) := []
noncomputable def K_zca : RetK := { acts := [], res := [.tmp 6], sh := (.cons (.dat .bool) .nil), obs := [], pins := [] }
noncomputable def D_zca : FD := ⟨A_zca, I_zca, [], Bool, fun x => F_zca x.1.1 x.1.2.1 x.1.2.2.1, fun r => ([.dat .bool r], [])⟩
noncomputable def E_zca : Env := envOf [(134, D_zbv)]
noncomputable def Z_zca : Nat → Nat → List Nat := fun _ _ => []
noncomputable def O_zca : List (Nat × LD) := [(0, DL_zca_0)]
noncomputable def C_zca : Code := (f148.body).getD .skip
noncomputable def T_zci (a1_ : Y1) (_a2_ : List Y1) (a3_ : Y1) : Tr (Bool) :=
 .c (Bool) (F_zca a3_ (0 : Int) (IntKind.wrap .i64 (((List.length a1_ : Nat) : Int) - (1 : Int)))) fun r1_ =>
 .l r1_
noncomputable def F_zci (a1_ : Y1) (a2_ : List Y1) (a3_ : Y1) : Option (Bool) := (T_zci a1_ a2_ a3_).ev
noncomputable def A_zci : Sh := (.cons (.agg (.cons (.dat y1) (.cons (.dat y2) .nil))) (.cons (.dat y1) .nil))
noncomputable def I_zci : List (Nat × OSh) := []
noncomputable def K_zci : RetK := { acts := [], res := [.tmp 4], sh := (.cons (.dat .bool) .nil), obs := [], pins := [] }
noncomputable def D_zci : FD := ⟨A_zci, I_zci, [], Bool, fun x => F_zci x.1.1.1 x.1.1.2.1 x.1.2.1, fun r => ([.dat .bool r], [])⟩
noncomputable def E_zci : Env := envOf [(148, D_zca)]
noncomputable def Z_zci : Nat → Nat → List Nat := fun _ _ => []
noncomputable def O_zci : List (Nat × LD) := []
noncomputable def C_zci : Code := (f176.body).getD .skip
noncomputable def T_zck (a1_ : Y1) (a2_ : List Y1) (a3_ : Y1) : Tr (Bool) :=
 .c (Bool) (F_zcc a1_ a2_) fun r1_ =>
 .t r1_
 (.c (Bool) (F_zci a1_ a2_ a3_) fun r2_ =>
 .t r2_
 (.l (decide ((0 : Int) < ((List.length a3_ : Nat) : Int))))
 (.l false))
 (.l false)
noncomputable def F_zck (a1_ : Y1) (a2_ : List Y1) (a3_ : Y1) : Option (Bool) := (T_zck a1_ a2_ a3_).ev
noncomputable def A_zck : Sh := (.cons (.agg (.cons (.dat y1) (.cons (.dat y2) .nil))) (.cons (.dat y1) .nil))
noncomputable def I_zck : List (Nat × OSh) := []
noncomputable def K_zck : RetK := { acts := [], res := [.tmp 4], sh := (.cons (.dat .bool) .nil), obs := [], pins := [] }
noncomputable def D_zck : FD := ⟨A_zck, I_zck, [], Bool, fun x => F_zck x.1.1.1 x.1.1.2.1 x.1.2.1, fun r => ([.dat .bool r], [])⟩
noncomputable def E_zck : Env := envOf [(100, D_zcc), (176, D_zci)]
noncomputable def Z_zck : Nat → Nat → List Nat := fun _ _ => []
noncomputable def O_zck : List (Nat × LD) := []
noncomputable def C_zck : Code := (f128.body).getD .skip
noncomputable def S_zbh_0 (k : Y1 × (Y1 × Y2)) (v : Int × Y1) : Tr ((Int × Y1) ⊕ Y1) :=
 .t (decide (v.1 < ((List.length k.2.2 : Nat) : Int)))
 (.c (Int) (F_zcj k.2.1 k.2.2 v.1 k.1) fun r7_ =>
 .g (decide ((List.length v.2 + List.length ([r7_] : Y1)) * 8 ≤ 140737488355328)) <|
 .l (.inl ((IntKind.wrap .i64 (v.1 + (1 : Int))), (v.2 ++ ([r7_] : Y1)))))
 (.l (.inr v.2))
noncomputable def L_zbh_0 (k : Y1 × (Y1 × Y2)) (v : Int × Y1) : Option Y1 := iter (fun v => (S_zbh_0 k v).ev) v
noncomputable def DL_zbh_0 : LD := ⟨{ acts := [], S := { slots := [1, 2, 6, 7], sh := (.cons (.dat y1) (.cons (.box 2 0) (.cons (.arr 8) (.cons (.dat yi) .nil)))), obs := [(2, .cells (.cons (.dat y1) (.cons (.dat y2) .nil))), (8, .arr 3 yi)] } }, [(0, { acts := [], S := { slots := [6], sh := (.cons (.arr 8) .nil), obs := [(8, .arr 3 yi)] } })], (yh [] .nil), Y1 × (Y1 × Y2), Int × Y1, Y1, fun k v => ((k.1, ((), ((), (v.1, ())))), ((k.2.1, (k.2.2, ())), (v.2, ()))), fun t => (t.1.1, (t.2.1.1, t.2.1.2.1)), fun t => (t.1.2.2.2.1, t.2.2.1), S_zbh_0, fun _ r => .l (.exit 0 (mkSt ({ slots := [6], sh := (.cons (.arr 8) .nil), obs := [(8, .arr 3 yi)] }) (((), ()), (r, ()))))⟩
noncomputable def T_zbh (a1_ : Y1) (a2_ : List Y1) (a3_ : Y1) : Tr (Bool × Y1) :=
 .c (Bool) (F_zck a1_ a2_ a3_) fun r1_ =>
 .t (!r1_)
 (.l (false, ([] : Y1)))
 (.c Y1 (L_zbh_0 (a3_, (a1_, a2_)) ((0 : Int), ([] : Y1))) fun r9_ =>
 .l (true, r9_))
noncomputable def F_zbh (a1_ : Y1) (a2_ : List Y1) (a3_ : Y1) : Option (Bool × Y1) := (T_zbh a1_ a2_ a3_).ev
noncomputable def A_zbh : Sh := (.cons (.agg (.cons (.dat y1) (.cons (.dat y2) .nil))) (.cons (.dat y1) .nil))
noncomputable def I_zbh : List (Nat × OSh) := []
noncomputable def K_zbh : RetK := { acts := [.ren 8 0], res := [.tmp 4, .tmp 5], sh := (.cons (.arr 0) (.cons (.dat .bool) .nil)), obs := [(0, .arr 3 yi)], pins := [] }
noncomputable def D_zbh : FD := ⟨A_zbh, I_zbh, [], Bool × Y1, fun x => F_zbh x.1.1.1 x.1.1.2.1 x.1.2.1, fun r => ([.arr 0, .dat .bool r.1], [(0, .arr 3 yi r.2)])⟩
noncomputable def E_zbh : Env := envOf [(128, D_zck), (129, D_zcj)]
noncomputable def Z_zbh : Nat → Nat → List Nat := fun _ _ => []
noncomputable def O_zbh : List (Nat × LD) := [(0, DL_zbh_0)]
noncomputable def C_zbh : Code := (f59.body).getD .skip
noncomputable def S_zg_0 (k : Int × (Y1 × (Y2 × Y1))) (v : Int × Y1) : Tr ((Int × Y1) ⊕ Y1) :=
 .t (decide (v.1 < k.1))
 (.g (inR v.1 (List.length k.2.2.2)) <|
 .g (decide ((Int.toNat v.1) < List.length k.2.2.2)) <|
 .g (inR v.1 (List.length k.2.2.1)) <|
 .g (inR (List.getD k.2.2.2 (Int.toNat v.1) (0 : Int)) (List.length (List.getD k.2.2.1 (Int.toNat v.1) ([] : Y1)))) <|
 .g (decide ((List.length v.2 + List.length ([(List.getD (List.getD k.2.2.1 (Int.toNat v.1) ([] : Y1)) (Int.toNat (List.getD k.2.2.2 (Int.toNat v.1) (0 : Int))) (0 : Int))] : Y1)) * 8 ≤ 140737488355328)) <|
 .l (.inl ((IntKind.wrap .i64 (v.1 + (1 : Int))), (v.2 ++ ([(List.getD (List.getD k.2.2.1 (Int.toNat v.1) ([] : Y1)) (Int.toNat (List.getD k.2.2.2 (Int.toNat v.1) (0 : Int))) (0 : Int))] : Y1)))))
 (.l (.inr v.2))
noncomputable def L_zg_0 (k : Int × (Y1 × (Y2 × Y1))) (v : Int × Y1) : Option Y1 := iter (fun v => (S_zg_0 k v).ev) v
noncomputable def DL_zg_0 : LD := ⟨{ acts := [], S := { slots := [2, 5, 11, 12, 13], sh := (.cons (.box 2 0) (.cons (.arr 8) (.cons (.arr 704) (.cons (.dat yi) (.cons (.dat yi) .nil))))), obs := [(2, .cells (.cons (.dat y1) (.cons (.dat y2) .nil))), (8, .arr 3 yi), (704, .arr 3 yi)] } }, [(0, { acts := [], S := { slots := [5], sh := (.cons (.arr 8) .nil), obs := [(8, .arr 3 yi)] } })], (yh [] .nil), Int × (Y1 × (Y2 × Y1)), Int × Y1, Y1, fun k v => (((), ((), ((), (k.1, (v.1, ()))))), ((k.2.1, (k.2.2.1, ())), (v.2, (k.2.2.2, ())))), fun t => (t.1.2.2.2.1, (t.2.1.1, (t.2.1.2.1, t.2.2.2.1))), fun t => (t.1.2.2.2.2.1, t.2.2.1), S_zg_0, fun _ r => .l (.exit 0 (mkSt ({ slots := [5], sh := (.cons (.arr 8) .nil), obs := [(8, .arr 3 yi)] }) (((), ()), (r, ()))))⟩
noncomputable def T_zg (a1_ : Y1) (a2_ : List Y1) (a3_ : Y1) : Tr Y1 :=
 .c Y1 (F_zj a1_ a2_ a3_) fun r1_ =>
 .c Y1 (L_zg_0 (((List.length r1_ : Nat) : Int), (a1_, (a2_, r1_))) ((0 : Int), ([] : Y1))) fun r9_ =>
 .l r9_
noncomputable def F_zg (a1_ : Y1) (a2_ : List Y1) (a3_ : Y1) : Option Y1 := (T_zg a1_ a2_ a3_).ev
noncomputable def A_zg : Sh := (.cons (.agg (.cons (.dat y1) (.cons (.dat y2) .nil))) (.cons (.dat y1) .nil))
noncomputable def I_zg : List (Nat × OSh) := []
noncomputable def K_zg : RetK := { acts := [.ren 8 0], res := [.tmp 4], sh := (.cons (.arr 0) .nil), obs := [(0, .arr 3 yi)], pins := [] }
noncomputable def D_zg : FD := ⟨A_zg, I_zg, [], Y1, fun x => F_zg x.1.1.1 x.1.1.2.1 x.1.2.1, fun r => ([.arr 0], [(0, .arr 3 yi r)])⟩
noncomputable def E_zg : Env := envOf [(127, D_zj)]
noncomputable def Z_zg : Nat → Nat → List Nat := fun _ _ => []
noncomputable def O_zg : List (Nat × LD) := [(0, DL_zg_0)]
noncomputable def C_zg : Code := (f156.body).getD .skip
noncomputable def T_zl (a1_ : Y1) (a2_ : List Y1) (a3_ : Y1) : Tr (Int) :=
 .c Y1 (F_zg a1_ a2_ a3_) fun r1_ =>
 .c (Int) (F_zae r1_) fun r2_ =>
 .l r2_
noncomputable def F_zl (a1_ : Y1) (a2_ : List Y1) (a3_ : Y1) : Option (Int) := (T_zl a1_ a2_ a3_).ev
noncomputable def A_zl : Sh := (.cons (.agg (.cons (.dat y1) (.cons (.dat y2) .nil))) (.cons (.dat y1) .nil))
noncomputable def I_zl : List (Nat × OSh) := []
noncomputable def K_zl : RetK := { acts := [], res := [.tmp 4], sh := (.cons (.dat yi) .nil), obs := [], pins := [] }
noncomputable def D_zl : FD := ⟨A_zl, I_zl, [], Int, fun x => F_zl x.1.1.1 x.1.1.2.1 x.1.2.1, fun r => ([.dat yi r], [])⟩
noncomputable def E_zl : Env := envOf [(156, D_zg), (98, D_zae)]
noncomputable def Z_zl : Nat → Nat → List Nat := fun _ _ => []
noncomputable def O_zl : List (Nat × LD) := []
noncomputable def C_zl : Code := (f110.body).getD .skip
noncomputable def T_zm (a1_ : Y1) (a2_ : List Y1) (a3_ : Y1) : Tr (Int) :=
 .c (Int) (F_zi a1_ a2_ a3_) fun r1_ =>
 .c (Int) (F_zl a1_ a2_ a3_) fun r2_ =>
 .l (IntKind.wrap .i64 (r1_ + r2_))
noncomputable def F_zm (a1_ : Y1) (a2_ : List Y1) (a3_ : Y1) : Option (Int) := (T_zm a1_ a2_ a3_).ev
noncomputable def A_zm : Sh := (.cons (.agg (.cons (.dat y1) (.cons (.dat y2) .nil))) (.cons (.dat y1) .nil))
noncomputable def I_zm : List (Nat × OSh) := []
noncomputable def K_zm : RetK := { acts := [], res := [.tmp 4], sh := (.cons (.dat yi) .nil), obs := [], pins := [] }
noncomputable def D_zm : FD := ⟨A_zm, I_zm, [], Int, fun x => F_zm x.1.1.1 x.1.1.2.1 x.1.2.1, fun r => ([.dat yi r], [])⟩
noncomputable def E_zm : Env := envOf [(125, D_zi), (110, D_zl)]
noncomputable def Z_zm : Nat → Nat → List Nat := fun _ _ => []
noncomputable def O_zm : List (Nat × LD) := []
noncomputable def C_zm : Code := (f130.body).getD .skip
noncomputable def T_zt (a1_ : Y1) (a2_ : List Y1) (a3_ : Y1) : Tr (Int × (Bool)) :=
 .c (Bool) (F_zaa a1_ a2_ a3_) fun r1_ =>
 .t (!r1_)
 (.l ((0 : Int), false))
 (.c (Int) (F_zm a1_ a2_ a3_) fun r2_ =>
 .l (r2_, true))
noncomputable def F_zt (a1_ : Y1) (a2_ : List Y1) (a3_ : Y1) : Option (Int × (Bool)) := (T_zt a1_ a2_ a3_).ev
noncomputable def A_zt : Sh := (.cons (.agg (.cons (.dat y1) (.cons (.dat y2) .nil))) (.cons (.dat y1) .nil))
noncomputable def I_zt : List (Nat × OSh) := []
noncomputable def K_zt : RetK := { acts := [], res := [.tmp 4, .tmp 5], sh := (.cons (.dat yi) (.cons (.dat .bool) .nil)), obs := [], pins := [] }
noncomputable def D_zt : FD := ⟨A_zt, I_zt, [], Int × (Bool), fun x => F_zt x.1.1.1 x.1.1.2.1 x.1.2.1, fun r => ([.dat yi r.1, .dat .bool r.2], [])⟩
noncomputable def E_zt : Env := envOf [(126, D_zaa), (130, D_zm)]
noncomputable def Z_zt : Nat → Nat → List Nat := fun _ _ => []
noncomputable def O_zt : List (Nat × LD) := []
noncomputable def C_zt : Code := (f61.body).getD .skip
noncomputable def T_zr (a1_ : Y1) (a2_ : List Y1) (a3_ : Y1) : Tr (Int × (Bool)) :=
 .c (Bool) (F_zn a1_ a2_) fun r1_ =>
 .t (!r1_)
 (.l ((0 : Int), false))
 (.c (Bool) (F_zab a3_ ((List.length a1_ : Nat) : Int)) fun r2_ =>
 .t (!r2_)
 (.l ((0 : Int), false))
 (.c (Int) (F_zi a1_ a2_ a3_) fun r3_ =>
 .l (r3_, true)))
noncomputable def F_zr (a1_ : Y1) (a2_ : List Y1) (a3_ : Y1) : Option (Int × (Bool)) := (T_zr a1_ a2_ a3_).ev
noncomputable def A_zr : Sh := (.cons (.agg (.cons (.dat y1) (.cons (.dat y2) .nil))) (.cons (.dat y1) .nil))
noncomputable def I_zr : List (Nat × OSh) := []
noncomputable def K_zr : RetK := { acts := [], res := [.tmp 4, .tmp 5], sh := (.cons (.dat yi) (.cons (.dat .bool) .nil)), obs := [], pins := [] }
noncomputable def D_zr : FD := ⟨A_zr, I_zr, [], Int × (Bool), fun x => F_zr x.1.1.1 x.1.1.2.1 x.1.2.1, fun r => ([.dat yi r.1, .dat .bool r.2], [])⟩
noncomputable def E_zr : Env := envOf [(106, D_zn), (131, D_zab), (125, D_zi)]
noncomputable def Z_zr : Nat → Nat → List Nat := fun _ _ => []
noncomputable def O_zr : List (Nat × LD) := []
noncomputable def C_zr : Code := (f62.body).getD .skip
noncomputable def T_zam (a1_ : Int) : Tr (Int) :=
 .t (decide ((4294967296 : Int) ≤ a1_))
 (.g (decide ((0 : Int) ≤ (32 : Int))) <|
 .t (decide ((65536 : Int) ≤ (Int.fdiv a1_ (2 ^ (min (Int.toNat (32 : Int)) (IntKind.bits .u64))))))
 (.g (decide ((0 : Int) ≤ (16 : Int))) <|
 .t (decide ((256 : Int) ≤ (Int.fdiv (Int.fdiv a1_ (2 ^ (min (Int.toNat (32 : Int)) (IntKind.bits .u64)))) (2 ^ (min (Int.toNat (16 : Int)) (IntKind.bits .u64))))))
 (.g (decide ((0 : Int) ≤ (8 : Int))) <|
 .g (inR (IntKind.wrap .u8 (Int.fdiv (Int.fdiv (Int.fdiv a1_ (2 ^ (min (Int.toNat (32 : Int)) (IntKind.bits .u64)))) (2 ^ (min (Int.toNat (16 : Int)) (IntKind.bits .u64)))) (2 ^ (min (Int.toNat (8 : Int)) (IntKind.bits .u64))))) (List.length ([0, 1, 2, 2, 3, 3, 3, 3, 4, 4, 4, 4, 4, 4, 4, 4, 5, 5, 5, 5, 5, 5, 5, 5, 5, 5, 5, 5, 5, 5, 5, 5, 6, 6, 6, 6, 6, 6, 6, 6, 6, 6, 6, 6, 6, 6, 6, 6, 6, 6, 6, 6, 6, 6, 6, 6, 6, 6, 6, 6, 6, 6, 6, 6, 7, 7, 7, 7, 7, 7, 7, 7, 7, 7, 7, 7, 7, 7, 7, 7, 7, 7, 7, 7, 7, 7, 7, 7, 7, 7, 7, 7, 7, 7, 7, 7, 7, 7, 7, 7, 7, 7, 7, 7, 7, 7, 7, 7, 7, 7, 7, 7, 7, 7, 7, 7, 7, 7, 7, 7, 7, 7, 7, 7, 7, 7, 7, 7, 8, 8, 8, 8, 8, 8, 8, 8, 8, 8, 8, 8, 8, 8, 8, 8, 8, 8, 8, 8, 8, 8, 8, 8, 8, 8, 8, 8, 8, 8, 8, 8, 8, 8, 8, 8, 8, 8, 8, 8, 8, 8, 8, 8, 8, 8, 8, 8, 8, 8, 8, 8, 8, 8, 8, 8, 8, 8, 8, 8, 8, 8, 8, 8, 8, 8, 8, 8, 8, 8, 8, 8, 8, 8, 8, 8, 8, 8, 8, 8, 8, 8, 8, 8, 8, 8, 8, 8, 8, 8, 8, 8, 8, 8, 8, 8, 8, 8, 8, 8, 8, 8, 8, 8, 8, 8, 8, 8, 8, 8, 8, 8, 8, 8, 8, 8, 8, 8, 8, 8, 8, 8, 8, 8, 8, 8, 8, 8] : List UInt8))) <|
 .l (IntKind.wrap .i64 ((IntKind.wrap .i64 ((IntKind.wrap .i64 ((32 : Int) + (16 : Int))) + (8 : Int))) + (IntKind.wrap .i64 ((UInt8.toNat (List.getD ([0, 1, 2, 2, 3, 3, 3, 3, 4, 4, 4, 4, 4, 4, 4, 4, 5, 5, 5, 5, 5, 5, 5, 5, 5, 5, 5, 5, 5, 5, 5, 5, 6, 6, 6, 6, 6, 6, 6, 6, 6, 6, 6, 6, 6, 6, 6, 6, 6, 6, 6, 6, 6, 6, 6, 6, 6, 6, 6, 6, 6, 6, 6, 6, 7, 7, 7, 7, 7, 7, 7, 7, 7, 7, 7, 7, 7, 7, 7, 7, 7, 7, 7, 7, 7, 7, 7, 7, 7, 7, 7, 7, 7, 7, 7, 7, 7, 7, 7, 7, 7, 7, 7, 7, 7, 7, 7, 7, 7, 7, 7, 7, 7, 7, 7, 7, 7, 7, 7, 7, 7, 7, 7, 7, 7, 7, 7, 7, 8, 8, 8, 8, 8, 8, 8, 8, 8, 8, 8, 8, 8, 8, 8, 8, 8, 8, 8, 8, 8, 8, 8, 8, 8, 8, 8, 8, 8, 8, 8, 8, 8, 8, 8, 8, 8, 8, 8, 8, 8, 8, 8, 8, 8, 8, 8, 8, 8, 8, 8, 8, 8, 8, 8, 8, 8, 8, 8, 8, 8, 8, 8, 8, 8, 8, 8, 8, 8, 8, 8, 8, 8, 8, 8, 8, 8, 8, 8, 8, 8, 8, 8, 8, 8, 8, 8, 8, 8, 8, 8, 8, 8, 8, 8, 8, 8, 8, 8, 8, 8, 8, 8, 8, 8, 8, 8, 8, 8, 8, 8, 8, 8, 8, 8, 8, 8, 8, 8, 8, 8, 8, 8, 8, 8, 8, 8, 8] : List UInt8) (Int.toNat (IntKind.wrap .u8 (Int.fdiv (Int.fdiv (Int.fdiv a1_ (2 ^ (min (Int.toNat (32 : Int)) (IntKind.bits .u64)))) (2 ^ (min (Int.toNat (16 : Int)) (IntKind.bits .u64)))) (2 ^ (min (Int.toNat (8 : Int)) (IntKind.bits .u64)))))) 0) : Nat) : Int)))))
 (.g (inR (IntKind.wrap .u8 (Int.fdiv (Int.fdiv a1_ (2 ^ (min (Int.toNat (32 : Int)) (IntKind.bits .u64)))) (2 ^ (min (Int.toNat (16 : Int)) (IntKind.bits .u64))))) (List.length ([0, 1, 2, 2, 3, 3, 3, 3, 4, 4, 4, 4, 4, 4, 4, 4, 5, 5, 5, 5, 5, 5, 5, 5, 5, 5, 5, 5, 5, 5, 5, 5, 6, 6, 6, 6, 6, 6, 6, 6, 6, 6, 6, 6, 6, 6, 6, 6, 6, 6, 6, 6, 6, 6, 6, 6, 6, 6, 6, 6, 6, 6, 6, 6, 7, 7, 7, 7, 7, 7, 7, 7, 7, 7, 7, 7, 7, 7, 7, 7, 7, 7, 7, 7, 7, 7, 7, 7, 7, 7, 7, 7, 7, 7, 7, 7, 7, 7, 7, 7, 7, 7, 7, 7, 7, 7, 7, 7, 7, 7, 7, 7, 7, 7, 7, 7, 7, 7, 7, 7, 7, 7, 7, 7, 7, 7, 7, 7, 8, 8, 8, 8, 8, 8, 8, 8, 8, 8, 8, 8, 8, 8, 8, 8, 8, 8, 8, 8, 8, 8, 8, 8, 8, 8, 8, 8, 8, 8, 8, 8, 8, 8, 8, 8, 8, 8, 8, 8, 8, 8, 8, 8, 8, 8, 8, 8, 8, 8, 8, 8, 8, 8, 8, 8, 8, 8, 8, 8, 8, 8, 8, 8, 8, 8, 8, 8, 8, 8, 8, 8, 8, 8, 8, 8, 8, 8, 8, 8, 8, 8, 8, 8, 8, 8, 8, 8, 8, 8, 8, 8, 8, 8, 8, 8, 8, 8, 8, 8, 8, 8, 8, 8, 8, 8, 8, 8, 8, 8, 8, 8, 8, 8, 8, 8, 8, 8, 8, 8, 8, 8, 8, 8, 8, 8, 8, 8] : List UInt8))) <|
 .l (IntKind.wrap .i64 ((IntKind.wrap .i64 ((32 : Int) + (16 : Int))) + (IntKind.wrap .i64 ((UInt8.toNat (List.getD ([0, 1, 2, 2, 3, 3, 3, 3, 4, 4, 4, 4, 4, 4, 4, 4, 5, 5, 5, 5, 5, 5, 5, 5, 5, 5, 5, 5, 5, 5, 5, 5, 6, 6, 6, 6, 6, 6, 6, 6, 6, 6, 6, 6, 6, 6, 6, 6, 6, 6, 6, 6, 6, 6, 6, 6, 6, 6, 6, 6, 6, 6, 6, 6, 7, 7, 7, 7, 7, 7, 7, 7, 7, 7, 7, 7, 7, 7, 7, 7, 7, 7, 7, 7, 7, 7, 7, 7, 7, 7, 7, 7, 7, 7, 7, 7, 7, 7, 7, 7, 7, 7, 7, 7, 7, 7, 7, 7, 7, 7, 7, 7, 7, 7, 7, 7, 7, 7, 7, 7, 7, 7, 7, 7, 7, 7, 7, 7, 8, 8, 8, 8, 8, 8, 8, 8, 8, 8, 8, 8, 8, 8, 8, 8, 8, 8, 8, 8, 8, 8, 8, 8, 8, 8, 8, 8, 8, 8, 8, 8, 8, 8, 8, 8, 8, 8, 8, 8, 8, 8, 8, 8, 8, 8, 8, 8, 8, 8, 8, 8, 8, 8, 8, 8, 8, 8, 8, 8, 8, 8, 8, 8, 8, 8, 8, 8, 8, 8, 8, 8, 8, 8, 8, 8, 8, 8, 8, 8, 8, 8, 8, 8, 8, 8, 8, 8, 8, 8, 8, 8, 8, 8, 8, 8, 8, 8, 8, 8, 8, 8, 8, 8, 8, 8, 8, 8, 8, 8, 8, 8, 8, 8, 8, 8, 8, 8, 8, 8, 8, 8, 8, 8, 8, 8, 8, 8] : List UInt8) (Int.toNat (IntKind.wrap .u8 (Int.fdiv (Int.fdiv a1_ (2 ^ (min (Int.toNat (32 : Int)) (IntKind.bits .u64)))) (2 ^ (min (Int.toNat (16 : Int)) (IntKind.bits .u64)))))) 0) : Nat) : Int))))))
 (.t (decide ((256 : Int) ≤ (Int.fdiv a1_ (2 ^ (min (Int.toNat (32 : Int)) (IntKind.bits .u64))))))
 (.g (decide ((0 : Int) ≤ (8 : Int))) <|
 .g (inR (IntKind.wrap .u8 (Int.fdiv (Int.fdiv a1_ (2 ^ (min (Int.toNat (32 : Int)) (IntKind.bits .u64)))) (2 ^ (min (Int.toNat (8 : Int)) (IntKind.bits .u64))))) (List.length ([0, 1, 2, 2, 3, 3, 3, 3, 4, 4, 4, 4, 4, 4, 4, 4, 5, 5, 5, 5, 5, 5, 5, 5, 5, 5, 5, 5, 5, 5, 5, 5, 6, 6, 6, 6, 6, 6, 6, 6, 6, 6, 6, 6, 6, 6, 6, 6, 6, 6, 6, 6, 6, 6, 6, 6, 6, 6, 6, 6, 6, 6, 6, 6, 7, 7, 7, 7, 7, 7, 7, 7, 7, 7, 7, 7, 7, 7, 7, 7, 7, 7, 7, 7, 7, 7, 7, 7, 7, 7, 7, 7, 7, 7, 7, 7, 7, 7, 7, 7, 7, 7, 7, 7, 7, 7, 7, 7, 7, 7, 7, 7, 7, 7, 7, 7, 7, 7, 7, 7, 7, 7, 7, 7, 7, 7, 7, 7, 8, 8, 8, 8, 8, 8, 8, 8, 8, 8, 8, 8, 8, 8, 8, 8, 8, 8, 8, 8, 8, 8, 8, 8, 8, 8, 8, 8, 8, 8, 8, 8, 8, 8, 8, 8, 8, 8, 8, 8, 8, 8, 8, 8, 8, 8, 8, 8, 8, 8, 8, 8, 8, 8, 8, 8, 8, 8, 8, 8, 8, 8, 8, 8, 8, 8, 8, 8, 8, 8, 8, 8, 8, 8, 8, 8, 8, 8, 8, 8, 8, 8, 8, 8, 8, 8, 8, 8, 8, 8, 8, 8, 8, 8, 8, 8, 8, 8, 8, 8, 8, 8, 8, 8, 8, 8, 8, 8, 8, 8, 8, 8, 8, 8, 8, 8, 8, 8, 8, 8, 8, 8, 8, 8, 8, 8, 8, 8] : List UInt8))) <|
 .l (IntKind.wrap .i64 ((IntKind.wrap .i64 ((32 : Int) + (8 : Int))) + (IntKind.wrap .i64 ((UInt8.toNat (List.getD ([0, 1, 2, 2, 3, 3, 3, 3, 4, 4, 4, 4, 4, 4, 4, 4, 5, 5, 5, 5, 5, 5, 5, 5, 5, 5, 5, 5, 5, 5, 5, 5, 6, 6, 6, 6, 6, 6, 6, 6, 6, 6, 6, 6, 6, 6, 6, 6, 6, 6, 6, 6, 6, 6, 6, 6, 6, 6, 6, 6, 6, 6, 6, 6, 7, 7, 7, 7, 7, 7, 7, 7, 7, 7, 7, 7, 7, 7, 7, 7, 7, 7, 7, 7, 7, 7, 7, 7, 7, 7, 7, 7, 7, 7, 7, 7, 7, 7, 7, 7, 7, 7, 7, 7, 7, 7, 7, 7, 7, 7, 7, 7, 7, 7, 7, 7, 7, 7, 7, 7, 7, 7, 7, 7, 7, 7, 7, 7, 8, 8, 8, 8, 8, 8, 8, 8, 8, 8, 8, 8, 8, 8, 8, 8, 8, 8, 8, 8, 8, 8, 8, 8, 8, 8, 8, 8, 8, 8, 8, 8, 8, 8, 8, 8, 8, 8, 8, 8, 8, 8, 8, 8, 8, 8, 8, 8, 8, 8, 8, 8, 8, 8, 8, 8, 8, 8, 8, 8, 8, 8, 8, 8, 8, 8, 8, 8, 8, 8, 8, 8, 8, 8, 8, 8, 8, 8, 8, 8, 8, 8, 8, 8, 8, 8, 8, 8, 8, 8, 8, 8, 8, 8, 8, 8, 8, 8, 8, 8, 8, 8, 8, 8, 8, 8, 8, 8, 8, 8, 8, 8, 8, 8, 8, 8, 8, 8, 8, 8, 8, 8, 8, 8, 8, 8, 8, 8] : List UInt8) (Int.toNat (IntKind.wrap .u8 (Int.fdiv (Int.fdiv a1_ (2 ^ (min (Int.toNat (32 : Int)) (IntKind.bits .u64)))) (2 ^ (min (Int.toNat (8 : Int)) (IntKind.bits .u64)))))) 0) : Nat) : Int)))))
 (.g (inR (IntKind.wrap .u8 (Int.fdiv a1_ (2 ^ (min (Int.toNat (32 : Int)) (IntKind.bits .u64))))) (List.length ([0, 1, 2, 2, 3, 3, 3, 3, 4, 4, 4, 4, 4, 4, 4, 4, 5, 5, 5, 5, 5, 5, 5, 5, 5, 5, 5, 5, 5, 5, 5, 5, 6, 6, 6, 6, 6, 6, 6, 6, 6, 6, 6, 6, 6, 6, 6, 6, 6, 6, 6, 6, 6, 6, 6, 6, 6, 6, 6, 6, 6, 6, 6, 6, 7, 7, 7, 7, 7, 7, 7, 7, 7, 7, 7, 7, 7, 7, 7, 7, 7, 7, 7, 7, 7, 7, 7, 7, 7, 7, 7, 7, 7, 7, 7, 7, 7, 7, 7, 7, 7, 7, 7, 7, 7, 7, 7, 7, 7, 7, 7, 7, 7, 7, 7, 7, 7, 7, 7, 7, 7, 7, 7, 7, 7, 7, 7, 7, 8, 8, 8, 8, 8, 8, 8, 8, 8, 8, 8, 8, 8, 8, 8, 8, 8, 8, 8, 8, 8, 8, 8, 8, 8, 8, 8, 8, 8, 8, 8, 8, 8, 8, 8, 8, 8, 8, 8, 8, 8, 8, 8, 8, 8, 8, 8, 8, 8, 8, 8, 8, 8, 8, 8, 8, 8, 8, 8, 8, 8, 8, 8, 8, 8, 8, 8, 8, 8, 8, 8, 8, 8, 8, 8, 8, 8, 8, 8, 8, 8, 8, 8, 8, 8, 8, 8, 8, 8, 8, 8, 8, 8, 8, 8, 8, 8, 8, 8, 8, 8, 8, 8, 8, 8, 8, 8, 8, 8, 8, 8, 8, 8, 8, 8, 8, 8, 8, 8, 8, 8, 8, 8, 8, 8, 8, 8, 8] : List UInt8))) <|
 .l (IntKind.wrap .i64 ((32 : Int) + (IntKind.wrap .i64 ((UInt8.toNat (List.getD ([0, 1, 2, 2, 3, 3, 3, 3, 4, 4, 4, 4, 4, 4, 4, 4, 5, 5, 5, 5, 5, 5, 5, 5, 5, 5, 5, 5, 5, 5, 5, 5, 6, 6, 6, 6, 6, 6, 6, 6, 6, 6, 6, 6, 6, 6, 6, 6, 6, 6, 6, 6, 6, 6, 6, 6, 6, 6, 6, 6, 6, 6, 6, 6, 7, 7, 7, 7, 7, 7, 7, 7, 7, 7, 7, 7, 7, 7, 7, 7, 7, 7, 7, 7, 7, 7, 7, 7, 7, 7, 7, 7, 7, 7, 7, 7, 7, 7, 7, 7, 7, 7, 7, 7, 7, 7, 7, 7, 7, 7, 7, 7, 7, 7, 7, 7, 7, 7, 7, 7, 7, 7, 7, 7, 7, 7, 7, 7, 8, 8, 8, 8, 8, 8, 8, 8, 8, 8, 8, 8, 8, 8, 8, 8, 8, 8, 8, 8, 8, 8, 8, 8, 8, 8, 8, 8, 8, 8, 8, 8, 8, 8, 8, 8, 8, 8, 8, 8, 8, 8, 8, 8, 8, 8, 8, 8, 8, 8, 8, 8, 8, 8, 8, 8, 8, 8, 8, 8, 8, 8, 8, 8, 8, 8, 8, 8, 8, 8, 8, 8, 8, 8, 8, 8, 8, 8, 8, 8, 8, 8, 8, 8, 8, 8, 8, 8, 8, 8, 8, 8, 8, 8, 8, 8, 8, 8, 8, 8, 8, 8, 8, 8, 8, 8, 8, 8, 8, 8, 8, 8, 8, 8, 8, 8, 8, 8, 8, 8, 8, 8, 8, 8, 8, 8, 8, 8] : List UInt8) (Int.toNat (IntKind.wrap .u8 (Int.fdiv a1_ (2 ^ (min (Int.toNat (32 : Int)) (IntKind.bits .u64)))))) 0) : Nat) : Int)))))))
 (.t (decide ((65536 : Int) ≤ a1_))
 (.g (decide ((0 : Int) ≤ (16 : Int))) <|
 .t (decide ((256 : Int) ≤ (Int.fdiv a1_ (2 ^ (min (Int.toNat (16 : Int)) (IntKind.bits .u64))))))
 (.g (decide ((0 : Int) ≤ (8 : Int))) <|
 .g (inR (IntKind.wrap .u8 (Int.fdiv (Int.fdiv a1_ (2 ^ (min (Int.toNat (16 : Int)) (IntKind.bits .u64)))) (2 ^ (min (Int.toNat (8 : Int)) (IntKind.bits .u64))))) (List.length ([0, 1, 2, 2, 3, 3, 3, 3, 4, 4, 4, 4, 4, 4, 4, 4, 5, 5, 5, 5, 5, 5, 5, 5, 5, 5, 5, 5, 5, 5, 5, 5, 6, 6, 6, 6, 6, 6, 6, 6, 6, 6, 6, 6, 6, 6, 6, 6, 6, 6, 6, 6, 6, 6, 6, 6, 6, 6, 6, 6, 6, 6, 6, 6, 7, 7, 7, 7, 7, 7, 7, 7, 7, 7, 7, 7, 7, 7, 7, 7, 7, 7, 7, 7, 7, 7, 7, 7, 7, 7, 7, 7, 7, 7, 7, 7, 7, 7, 7, 7, 7, 7, 7, 7, 7, 7, 7, 7, 7, 7, 7, 7, 7, 7, 7, 7, 7, 7, 7, 7, 7, 7, 7, 7, 7, 7, 7, 7, 8, 8, 8, 8, 8, 8, 8, 8, 8, 8, 8, 8, 8, 8, 8, 8, 8, 8, 8, 8, 8, 8, 8, 8, 8, 8, 8, 8, 8, 8, 8, 8, 8, 8, 8, 8, 8, 8, 8, 8, 8, 8, 8, 8, 8, 8, 8, 8, 8, 8, 8, 8, 8, 8, 8, 8, 8, 8, 8, 8, 8, 8, 8, 8, 8, 8, 8, 8, 8, 8, 8, 8, 8, 8, 8, 8, 8, 8, 8, 8, 8, 8, 8, 8, 8, 8, 8, 8, 8, 8, 8, 8, 8, 8, 8, 8, 8, 8, 8, 8, 8, 8, 8, 8, 8, 8, 8, 8, 8, 8, 8, 8, 8, 8, 8, 8, 8, 8, 8, 8, 8, 8, 8, 8, 8, 8, 8, 8] : List UInt8))) <|
 .l (IntKind.wrap .i64 ((IntKind.wrap .i64 ((IntKind.wrap .i64 ((0 : Int) + (16 : Int))) + (8 : Int))) + (IntKind.wrap .i64 ((UInt8.toNat (List.getD ([0, 1, 2, 2, 3, 3, 3, 3, 4, 4, 4, 4, 4, 4, 4, 4, 5, 5, 5, 5, 5, 5, 5, 5, 5, 5, 5, 5, 5, 5, 5, 5, 6, 6, 6, 6, 6, 6, 6, 6, 6, 6, 6, 6, 6, 6, 6, 6, 6, 6, 6, 6, 6, 6, 6, 6, 6, 6, 6, 6, 6, 6, 6, 6, 7, 7, 7, 7, 7, 7, 7, 7, 7, 7, 7, 7, 7, 7, 7, 7, 7, 7, 7, 7, 7, 7, 7, 7, 7, 7, 7, 7, 7, 7, 7, 7, 7, 7, 7, 7, 7, 7, 7, 7, 7, 7, 7, 7, 7, 7, 7, 7, 7, 7, 7, 7, 7, 7, 7, 7, 7, 7, 7, 7, 7, 7, 7, 7, 8, 8, 8, 8, 8, 8, 8, 8, 8, 8, 8, 8, 8, 8, 8, 8, 8, 8, 8, 8, 8, 8, 8, 8, 8, 8, 8, 8, 8, 8, 8, 8, 8, 8, 8, 8, 8, 8, 8, 8, 8, 8, 8, 8, 8, 8, 8, 8, 8, 8, 8, 8, 8, 8, 8, 8, 8, 8, 8, 8, 8, 8, 8, 8, 8, 8, 8, 8, 8, 8, 8, 8, 8, 8, 8, 8, 8, 8, 8, 8, 8, 8, 8, 8, 8, 8, 8, 8, 8, 8, 8, 8, 8, 8, 8, 8, 8, 8, 8, 8, 8, 8, 8, 8, 8, 8, 8, 8, 8, 8, 8, 8, 8, 8, 8, 8, 8, 8, 8, 8, 8, 8, 8, 8, 8, 8, 8, 8] : List UInt8) (Int.toNat (IntKind.wrap .u8 (Int.fdiv (Int.fdiv a1_ (2 ^ (min (Int.toNat (16 : Int)) (IntKind.bits .u64)))) (2 ^ (min (Int.toNat (8 : Int)) (IntKind.bits .u64)))))) 0) : Nat) : Int)))))
 (.g (inR (IntKind.wrap .u8 (Int.fdiv a1_ (2 ^ (min (Int.toNat (16 : Int)) (IntKind.bits .u64))))) (List.length ([0, 1, 2, 2, 3, 3, 3, 3, 4, 4, 4, 4, 4, 4, 4, 4, 5, 5, 5, 5, 5, 5, 5, 5, 5, 5, 5, 5, 5, 5, 5, 5, 6, 6, 6, 6, 6, 6, 6, 6, 6, 6, 6, 6, 6, 6, 6, 6, 6, 6, 6, 6, 6, 6, 6, 6, 6, 6, 6, 6, 6, 6, 6, 6, 7, 7, 7, 7, 7, 7, 7, 7, 7, 7, 7, 7, 7, 7, 7, 7, 7, 7, 7, 7, 7, 7, 7, 7, 7, 7, 7, 7, 7, 7, 7, 7, 7, 7, 7, 7, 7, 7, 7, 7, 7, 7, 7, 7, 7, 7, 7, 7, 7, 7, 7, 7, 7, 7, 7, 7, 7, 7, 7, 7, 7, 7, 7, 7, 8, 8, 8, 8, 8, 8, 8, 8, 8, 8, 8, 8, 8, 8, 8, 8, 8, 8, 8, 8, 8, 8, 8, 8, 8, 8, 8, 8, 8, 8, 8, 8, 8, 8, 8, 8, 8, 8, 8, 8, 8, 8, 8, 8, 8, 8, 8, 8, 8, 8, 8, 8, 8, 8, 8, 8, 8, 8, 8, 8, 8, 8, 8, 8, 8, 8, 8, 8, 8, 8, 8, 8, 8, 8, 8, 8, 8, 8, 8, 8, 8, 8, 8, 8, 8, 8, 8, 8, 8, 8, 8, 8, 8, 8, 8, 8, 8, 8, 8, 8, 8, 8, 8, 8, 8, 8, 8, 8, 8, 8, 8, 8, 8, 8, 8, 8, 8, 8, 8, 8, 8, 8, 8, 8, 8, 8, 8, 8] : List UInt8))) <|
 .l (IntKind.wrap .i64 ((IntKind.wrap .i64 ((0 : Int) + (16 : Int))) + (IntKind.wrap .i64 ((UInt8.toNat (List.getD ([0, 1, 2, 2, 3, 3, 3, 3, 4, 4, 4, 4, 4, 4, 4, 4, 5, 5, 5, 5, 5, 5, 5, 5, 5, 5, 5, 5, 5, 5, 5, 5, 6, 6, 6, 6, 6, 6, 6, 6, 6, 6, 6, 6, 6, 6, 6, 6, 6, 6, 6, 6, 6, 6, 6, 6, 6, 6, 6, 6, 6, 6, 6, 6, 7, 7, 7, 7, 7, 7, 7, 7, 7, 7, 7, 7, 7, 7, 7, 7, 7, 7, 7, 7, 7, 7, 7, 7, 7, 7, 7, 7, 7, 7, 7, 7, 7, 7, 7, 7, 7, 7, 7, 7, 7, 7, 7, 7, 7, 7, 7, 7, 7, 7, 7, 7, 7, 7, 7, 7, 7, 7, 7, 7, 7, 7, 7, 7, 8, 8, 8, 8, 8, 8, 8, 8, 8, 8, 8, 8, 8, 8, 8, 8, 8, 8, 8, 8, 8, 8, 8, 8, 8, 8, 8, 8, 8, 8, 8, 8, 8, 8, 8, 8, 8, 8, 8, 8, 8, 8, 8, 8, 8, 8, 8, 8, 8, 8, 8, 8, 8, 8, 8, 8, 8, 8, 8, 8, 8, 8, 8, 8, 8, 8, 8, 8, 8, 8, 8, 8, 8, 8, 8, 8, 8, 8, 8, 8, 8, 8, 8, 8, 8, 8, 8, 8, 8, 8, 8, 8, 8, 8, 8, 8, 8, 8, 8, 8, 8, 8, 8, 8, 8, 8, 8, 8, 8, 8, 8, 8, 8, 8, 8, 8, 8, 8, 8, 8, 8, 8, 8, 8, 8, 8, 8, 8] : List UInt8) (Int.toNat (IntKind.wrap .u8 (Int.fdiv a1_ (2 ^ (min (Int.toNat (16 : Int)) (IntKind.bits .u64)))))) 0) : Nat) : Int))))))
 (.t (decide ((256 : Int) ≤ a1_))
 (.g (decide ((0 : Int) ≤ (8 : Int))) <|
 .g (inR (IntKind.wrap .u8 (Int.fdiv a1_ (2 ^ (min (Int.toNat (8 : Int)) (IntKind.bits .u64))))) (List.length ([0, 1, 2, 2, 3, 3, 3, 3, 4, 4, 4, 4, 4, 4, 4, 4, 5, 5, 5, 5, 5, 5, 5, 5, 5, 5, 5, 5, 5, 5, 5, 5, 6, 6, 6, 6, 6, 6, 6, 6, 6, 6, 6, 6, 6, 6, 6, 6, 6, 6, 6, 6, 6, 6, 6, 6, 6, 6, 6, 6, 6, 6, 6, 6, 7, 7, 7, 7, 7, 7, 7, 7, 7, 7, 7, 7, 7, 7, 7, 7, 7, 7, 7, 7, 7, 7, 7, 7, 7, 7, 7, 7, 7, 7, 7, 7, 7, 7, 7, 7, 7, 7, 7, 7, 7, 7, 7, 7, 7, 7, 7, 7, 7, 7, 7, 7, 7, 7, 7, 7, 7, 7, 7, 7, 7, 7, 7, 7, 8, 8, 8, 8, 8, 8, 8, 8, 8, 8, 8, 8, 8, 8, 8, 8, 8, 8, 8, 8, 8, 8, 8, 8, 8, 8, 8, 8, 8, 8, 8, 8, 8, 8, 8, 8, 8, 8, 8, 8, 8, 8, 8, 8, 8, 8, 8, 8, 8, 8, 8, 8, 8, 8, 8, 8, 8, 8, 8, 8, 8, 8, 8, 8, 8, 8, 8, 8, 8, 8, 8, 8, 8, 8, 8, 8, 8, 8, 8, 8, 8, 8, 8, 8, 8, 8, 8, 8, 8, 8, 8, 8, 8, 8, 8, 8, 8, 8, 8, 8, 8, 8, 8, 8, 8, 8, 8, 8, 8, 8, 8, 8, 8, 8, 8, 8, 8, 8, 8, 8, 8, 8, 8, 8, 8, 8, 8, 8] : List UInt8))) <|
 .l (IntKind.wrap .i64 ((IntKind.wrap .i64 ((0 : Int) + (8 : Int))) + (IntKind.wrap .i64 ((UInt8.toNat (List.getD ([0, 1, 2, 2, 3, 3, 3, 3, 4, 4, 4, 4, 4, 4, 4, 4, 5, 5, 5, 5, 5, 5, 5, 5, 5, 5, 5, 5, 5, 5, 5, 5, 6, 6, 6, 6, 6, 6, 6, 6, 6, 6, 6, 6, 6, 6, 6, 6, 6, 6, 6, 6, 6, 6, 6, 6, 6, 6, 6, 6, 6, 6, 6, 6, 7, 7, 7, 7, 7, 7, 7, 7, 7, 7, 7, 7, 7, 7, 7, 7, 7, 7, 7, 7, 7, 7, 7, 7, 7, 7, 7, 7, 7, 7, 7, 7, 7, 7, 7, 7, 7, 7, 7, 7, 7, 7, 7, 7, 7, 7, 7, 7, 7, 7, 7, 7, 7, 7, 7, 7, 7, 7, 7, 7, 7, 7, 7, 7, 8, 8, 8, 8, 8, 8, 8, 8, 8, 8, 8, 8, 8, 8, 8, 8, 8, 8, 8, 8, 8, 8, 8, 8, 8, 8, 8, 8, 8, 8, 8, 8, 8, 8, 8, 8, 8, 8, 8, 8, 8, 8, 8, 8, 8, 8, 8, 8, 8, 8, 8, 8, 8, 8, 8, 8, 8, 8, 8, 8, 8, 8, 8, 8, 8, 8, 8, 8, 8, 8, 8, 8, 8, 8, 8, 8, 8, 8, 8, 8, 8, 8, 8, 8, 8, 8, 8, 8, 8, 8, 8, 8, 8, 8, 8, 8, 8, 8, 8, 8, 8, 8, 8, 8, 8, 8, 8, 8, 8, 8, 8, 8, 8, 8, 8, 8, 8, 8, 8, 8, 8, 8, 8, 8, 8, 8, 8, 8] : List UInt8) (Int.toNat (IntKind.wrap .u8 (Int.fdiv a1_ (2 ^ (min (Int.toNat (8 : Int)) (IntKind.bits .u64)))))) 0) : Nat) : Int)))))
 (.g (inR (IntKind.wrap .u8 a1_) (List.length ([0, 1, 2, 2, 3, 3, 3, 3, 4, 4, 4, 4, 4, 4, 4, 4, 5, 5, 5, 5, 5, 5, 5, 5, 5, 5, 5, 5, 5, 5, 5, 5, 6, 6, 6, 6, 6, 6, 6, 6, 6, 6, 6, 6, 6, 6, 6, 6, 6, 6, 6, 6, 6, 6, 6, 6, 6, 6, 6, 6, 6, 6, 6, 6, 7, 7, 7, 7, 7, 7, 7, 7, 7, 7, 7, 7, 7, 7, 7, 7, 7, 7, 7, 7, 7, 7, 7, 7, 7, 7, 7, 7, 7, 7, 7, 7, 7, 7, 7, 7, 7, 7, 7, 7, 7, 7, 7, 7, 7, 7, 7, 7, 7, 7, 7, 7, 7, 7, 7, 7, 7, 7, 7, 7, 7, 7, 7, 7, 8, 8, 8, 8, 8, 8, 8, 8, 8, 8, 8, 8, 8, 8, 8, 8, 8, 8, 8, 8, 8, 8, 8, 8, 8, 8, 8, 8, 8, 8, 8, 8, 8, 8, 8, 8, 8, 8, 8, 8, 8, 8, 8, 8, 8, 8, 8, 8, 8, 8, 8, 8, 8, 8, 8, 8, 8, 8, 8, 8, 8, 8, 8, 8, 8, 8, 8, 8, 8, 8, 8, 8, 8, 8, 8, 8, 8, 8, 8, 8, 8, 8, 8, 8, 8, 8, 8, 8, 8, 8, 8, 8, 8, 8, 8, 8, 8, 8, 8, 8, 8, 8, 8, 8, 8, 8, 8, 8, 8, 8, 8, 8, 8, 8, 8, 8, 8, 8, 8, 8, 8, 8, 8, 8, 8, 8, 8, 8] : List UInt8))) <|
 .l (IntKind.wrap .i64 ((0 : Int) + (IntKind.wrap .i64 ((UInt8.toNat (List.getD ([0, 1, 2, 2, 3, 3, 3, 3, 4, 4, 4, 4, 4, 4, 4, 4, 5, 5, 5, 5, 5, 5, 5, 5, 5, 5, 5, 5, 5, 5, 5, 5, 6, 6, 6, 6, 6, 6, 6, 6, 6, 6, 6, 6, 6, 6, 6, 6, 6, 6, 6, 6, 6, 6, 6, 6, 6, 6, 6, 6, 6, 6, 6, 6, 7, 7, 7, 7, 7, 7, 7, 7, 7, 7, 7, 7, 7, 7, 7, 7, 7, 7, 7, 7, 7, 7, 7, 7, 7, 7, 7, 7, 7, 7, 7, 7, 7, 7, 7, 7, 7, 7, 7, 7, 7, 7, 7, 7, 7, 7, 7, 7, 7, 7, 7, 7, 7, 7, 7, 7, 7, 7, 7, 7, 7, 7, 7, 7, 8, 8, 8, 8, 8, 8, 8, 8, 8, 8, 8, 8, 8, 8, 8, 8, 8, 8, 8, 8, 8, 8, 8, 8, 8, 8, 8, 8, 8, 8, 8, 8, 8, 8, 8, 8, 8, 8, 8, 8, 8, 8, 8, 8, 8, 8, 8, 8, 8, 8, 8, 8, 8, 8, 8, 8, 8, 8, 8, 8, 8, 8, 8, 8, 8, 8, 8, 8, 8, 8, 8, 8, 8, 8, 8, 8, 8, 8, 8, 8, 8, 8, 8, 8, 8, 8, 8, 8, 8, 8, 8, 8, 8, 8, 8, 8, 8, 8, 8, 8, 8, 8, 8, 8, 8, 8, 8, 8, 8, 8, 8, 8, 8, 8, 8, 8, 8, 8, 8, 8, 8, 8, 8, 8, 8, 8, 8, 8] : List UInt8) (Int.toNat (IntKind.wrap .u8 a1_)) 0) : Nat) : Int)))))))
noncomputable def F_zam (a1_ : Int) : Option (Int) := (T_zam a1_).ev
noncomputable def A_zam : Sh := (.cons (.dat (.int .u64)) .nil)
noncomputable def I_zam : List (Nat × OSh) := []
noncomputable def K_zam : RetK := { acts := [], res := [.tmp 2], sh := (.cons (.dat yi) .nil), obs := [], pins := [] }
noncomputable def D_zam : FD := ⟨A_zam, I_zam, [], Int, fun x => F_zam x.1.1, fun r => ([.dat yi r], [])⟩
noncomputable def E_zam : Env := envOf []
noncomputable def Z_zam : Nat → Nat → List Nat := fun _ _ => []
noncomputable def O_zam : List (Nat × LD) := []
noncomputable def C_zam : Code := (f204.body).getD .skip
end Go.Proofs.Ytlmbhkmaflhagaa
