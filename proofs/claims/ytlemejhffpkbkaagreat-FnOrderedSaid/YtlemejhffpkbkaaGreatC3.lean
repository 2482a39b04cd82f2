import Derived.Test.YtlemejhffpkbkaaGreatB31
import Derived.Test.YtlemejhffpkbkaaGreatProg
namespace Go.Proofs.YtlemejhffpkbkaaGreat
open Go.Proofs.Tryz
abbrev yi : Ty := .int .i64
abbrev y1 : Ty := .slice yi
abbrev y2 : Ty := .slice y1
abbrev y3 : Ty := .slice y2
abbrev Y1 : Type := List Int
abbrev Y2 : Type := List Y1
abbrev Y3 : Type := List Y2
abbrev yh (l : List Nat) (s : Sh) : Keep := { acts := [], S := { slots := l, sh := s, obs := [] } }
abbrev ys (l : List Nat) (s : Sh) : SSh := { slots := l, sh := s, obs := [] }
theorem yn {α : Type _} {p : α → Prop} : ∀ x, x ∈ ([] : List α) → p x := fun _ h => absurd h List.not_mem_nil
theorem yc {α : Type _} {p : α → Prop} {a : α} {l : List α} (h : p a ∧ ∀ x, x ∈ l → p x) : ∀ x, x ∈ a :: l → p x := List.forall_mem_cons.2 h
noncomputable def tabl : List (Nat × TD) := [(3, .sc yi), (4, .sc .bool), (5, .sc (.int .u8)), (9, .sc .str), (22, .sl 5 (.int .u8) 1), (24, .sl 27 y1 24), (27, .sl 3 yi 8), (46, .st (.pair y1 y2) [(27, y1), (24, y2)]), (69, .sc (.int .u64)), (71, .st (.pair (.slice (.int .u8)) (.pair yi (.int .u64))) [(22, (.slice (.int .u8))), (3, yi), (69, (.int .u64))]), (125, .sc (.int .u64)), (155, .sc (.int .u64))]
noncomputable def tt : Nat → TD := fun i => match look tabl i with
 | some d => d
 | none => .no
noncomputable def T_zal (a1_ : Y1) : Tr (Bool) :=
 .l (decide ((65536 : Int) < ((List.length a1_ : Nat) : Int)))
noncomputable def F_zal (a1_ : Y1) : Option (Bool) := (T_zal a1_).ev
noncomputable def A_zal : Sh := (.cons (.dat (.slice (.int .u8))) .nil)
noncomputable def I_zal : List (Nat × OSh) := []
noncomputable def K_zal : RetK := { acts := [], res := [.tmp 2], sh := (.cons (.dat .bool) .nil), obs := [], pins := [] }
noncomputable def D_zal : FD := ⟨A_zal, I_zal, [], Bool, fun x => F_zal x.1.1, fun r => ([.dat .bool r], [])⟩
noncomputable def E_zal : Env := envOf []
noncomputable def Z_zal : Nat → Nat → List Nat := fun _ _ => []
noncomputable def O_zal : List (Nat × LD) := []
noncomputable def C_zal : Code := (f6.body).getD .skip
noncomputable def T_zca (a1_ : Y1) (a2_ : Int) (a3_ : Int) : Tr (Int × (Y1 × (Int × Int))) :=
 .t (decide (a2_ < ((List.length a1_ : Nat) : Int)))
 (.g (inR a2_ (List.length a1_)) <|
 .t (decide ((IntKind.wrap .i64 (a2_ + (1 : Int))) ≤ ((List.length a1_ : Nat) : Int)))
 (.l ((IntKind.wrap .i64 (List.getD a1_ (Int.toNat a2_) (0 : Int))), (a1_, ((IntKind.wrap .i64 (a2_ + (1 : Int))), (IntKind.wrap .u64 ((IntKind.wrap .u64 ((IntKind.wrap .u64 (a3_ * (6364136223846793005 : Int))) + (IntKind.wrap .u64 (IntKind.wrap .i64 (List.getD a1_ (Int.toNat a2_) (0 : Int)))))) + (462197 : Int)))))))
 (.g (decide ((0 : Int) ≤ (40 : Int))) <|
 .l ((IntKind.wrap .i64 (IntKind.wrap .u64 (BitVec.toNat ((BitVec.ofInt (IntKind.bits .u64) (Int.fdiv (IntKind.wrap .u64 ((IntKind.wrap .u64 ((IntKind.wrap .u64 (a3_ * (6364136223846793005 : Int))) + (IntKind.wrap .u64 (IntKind.wrap .i64 (List.getD a1_ (Int.toNat a2_) (0 : Int)))))) + (462197 : Int))) (2 ^ (min (Int.toNat (40 : Int)) (IntKind.bits .u64))))) &&& (BitVec.ofInt (IntKind.bits .u64) (255 : Int)))))), (a1_, ((IntKind.wrap .i64 (a2_ + (1 : Int))), (IntKind.wrap .u64 ((IntKind.wrap .u64 ((IntKind.wrap .u64 (a3_ * (6364136223846793005 : Int))) + (IntKind.wrap .u64 (IntKind.wrap .i64 (List.getD a1_ (Int.toNat a2_) (0 : Int)))))) + (462197 : Int))))))))
 (.t (decide ((IntKind.wrap .i64 (a2_ + (1 : Int))) ≤ ((List.length a1_ : Nat) : Int)))
 (.l ((0 : Int), (a1_, ((IntKind.wrap .i64 (a2_ + (1 : Int))), (IntKind.wrap .u64 ((IntKind.wrap .u64 ((IntKind.wrap .u64 (a3_ * (6364136223846793005 : Int))) + (IntKind.wrap .u64 (0 : Int)))) + (462197 : Int)))))))
 (.g (decide ((0 : Int) ≤ (40 : Int))) <|
 .l ((IntKind.wrap .i64 (IntKind.wrap .u64 (BitVec.toNat ((BitVec.ofInt (IntKind.bits .u64) (Int.fdiv (IntKind.wrap .u64 ((IntKind.wrap .u64 ((IntKind.wrap .u64 (a3_ * (6364136223846793005 : Int))) + (IntKind.wrap .u64 (0 : Int)))) + (462197 : Int))) (2 ^ (min (Int.toNat (40 : Int)) (IntKind.bits .u64))))) &&& (BitVec.ofInt (IntKind.bits .u64) (255 : Int)))))), (a1_, ((IntKind.wrap .i64 (a2_ + (1 : Int))), (IntKind.wrap .u64 ((IntKind.wrap .u64 ((IntKind.wrap .u64 (a3_ * (6364136223846793005 : Int))) + (IntKind.wrap .u64 (0 : Int)))) + (462197 : Int))))))))
noncomputable def F_zca (a1_ : Y1) (a2_ : Int) (a3_ : Int) : Option (Int × (Y1 × (Int × Int))) := (T_zca a1_ a2_ a3_).ev
noncomputable def A_zca : Sh := (.cons (.box 64 0) .nil)
noncomputable def I_zca : List (Nat × OSh) := [(64, .cells (.cons (.dat (.slice (.int .u8))) (.cons (.dat yi) (.cons (.dat (.int .u64)) .nil))))]
noncomputable def K_zca : RetK := { acts := [], res := [.tmp 2], sh := (.cons (.dat yi) .nil), obs := [(64, .cells (.cons (.dat (.slice (.int .u8))) (.cons (.dat yi) (.cons (.dat (.int .u64)) .nil))))], pins := [(0, 0, 64)] }
noncomputable def D_zca : FD := ⟨A_zca, I_zca, [.arg 0], Int × (Y1 × (Int × Int)), fun x => F_zca x.2.1.1 x.2.1.2.1 x.2.1.2.2.1, fun r => ([.dat yi r.1], [(64, .cells [.dat (.slice (.int .u8)) r.2.1, .dat yi r.2.2.1, .dat (.int .u64) r.2.2.2])])⟩
noncomputable def E_zca : Env := envOf []
noncomputable def Z_zca : Nat → Nat → List Nat := fun _ _ => []
noncomputable def O_zca : List (Nat × LD) := []
noncomputable def C_zca : Code := (f115.body).getD .skip
noncomputable def T_zcc (a4_ : Int) (a1_ : Y1) (a2_ : Int) (a3_ : Int) : Tr (Int × (Y1 × (Int × Int))) :=
 .t (decide (a4_ ≤ (1 : Int)))
 (.l ((0 : Int), (a1_, (a2_, a3_))))
 (.c (Int × (Y1 × (Int × Int))) (F_zca a1_ a2_ a3_) fun r1_ =>
 .t (decide ((200 : Int) < a4_))
 (.c (Int × (Y1 × (Int × Int))) (F_zca r1_.2.1 r1_.2.2.1 r1_.2.2.2) fun r2_ =>
 .g (!decide (a4_ = 0)) <|
 .l ((Int.tmod (IntKind.wrap .i64 ((IntKind.wrap .i64 (r1_.1 * (256 : Int))) + r2_.1)) a4_), (r2_.2.1, (r2_.2.2.1, r2_.2.2.2))))
 (.g (!decide (a4_ = 0)) <|
 .l ((Int.tmod r1_.1 a4_), (r1_.2.1, (r1_.2.2.1, r1_.2.2.2)))))
noncomputable def F_zcc (a4_ : Int) (a1_ : Y1) (a2_ : Int) (a3_ : Int) : Option (Int × (Y1 × (Int × Int))) := (T_zcc a4_ a1_ a2_ a3_).ev
noncomputable def A_zcc : Sh := (.cons (.box 64 0) (.cons (.dat yi) .nil))
noncomputable def I_zcc : List (Nat × OSh) := [(64, .cells (.cons (.dat (.slice (.int .u8))) (.cons (.dat yi) (.cons (.dat (.int .u64)) .nil))))]
noncomputable def K_zcc : RetK := { acts := [], res := [.tmp 4], sh := (.cons (.dat yi) .nil), obs := [(64, .cells (.cons (.dat (.slice (.int .u8))) (.cons (.dat yi) (.cons (.dat (.int .u64)) .nil))))], pins := [(0, 0, 64)] }
noncomputable def D_zcc : FD := ⟨A_zcc, I_zcc, [.arg 0], Int × (Y1 × (Int × Int)), fun x => F_zcc x.1.2.1 x.2.1.1 x.2.1.2.1 x.2.1.2.2.1, fun r => ([.dat yi r.1], [(64, .cells [.dat (.slice (.int .u8)) r.2.1, .dat yi r.2.2.1, .dat (.int .u64) r.2.2.2])])⟩
noncomputable def E_zcc : Env := envOf [(115, D_zca)]
noncomputable def Z_zcc : Nat → Nat → List Nat := fun _ _ => []
noncomputable def O_zcc : List (Nat × LD) := []
noncomputable def C_zcc : Code := (f66.body).getD .skip
noncomputable def T_zbv (a4_ : Y1) (a1_ : Y1) (a2_ : Int) (a3_ : Int) : Tr (Int × (Y1 × (Int × Int))) :=
 .c (Int × (Y1 × (Int × Int))) (F_zcc ((List.length a4_ : Nat) : Int) a1_ a2_ a3_) fun r1_ =>
 .g (inR r1_.1 (List.length a4_)) <|
 .l ((List.getD a4_ (Int.toNat r1_.1) (0 : Int)), (r1_.2.1, (r1_.2.2.1, r1_.2.2.2)))
noncomputable def F_zbv (a4_ : Y1) (a1_ : Y1) (a2_ : Int) (a3_ : Int) : Option (Int × (Y1 × (Int × Int))) := (T_zbv a4_ a1_ a2_ a3_).ev
noncomputable def A_zbv : Sh := (.cons (.box 64 0) (.cons (.dat y1) .nil))
noncomputable def I_zbv : List (Nat × OSh) := [(64, .cells (.cons (.dat (.slice (.int .u8))) (.cons (.dat yi) (.cons (.dat (.int .u64)) .nil))))]
noncomputable def K_zbv : RetK := { acts := [], res := [.tmp 4], sh := (.cons (.dat yi) .nil), obs := [(64, .cells (.cons (.dat (.slice (.int .u8))) (.cons (.dat yi) (.cons (.dat (.int .u64)) .nil))))], pins := [(0, 0, 64)] }
noncomputable def D_zbv : FD := ⟨A_zbv, I_zbv, [.arg 0], Int × (Y1 × (Int × Int)), fun x => F_zbv x.1.2.1 x.2.1.1 x.2.1.2.1 x.2.1.2.2.1, fun r => ([.dat yi r.1], [(64, .cells [.dat (.slice (.int .u8)) r.2.1, .dat yi r.2.2.1, .dat (.int .u64) r.2.2.2])])⟩
noncomputable def E_zbv : Env := envOf [(66, D_zcc)]
noncomputable def Z_zbv : Nat → Nat → List Nat := fun _ _ => []
noncomputable def O_zbv : List (Nat × LD) := []
noncomputable def C_zbv : Code := (f47.body).getD .skip
noncomputable def S_zcd_0 (k : Int × (Int × (Int × (Int × Y1)))) (v : Int × (Y1 × (Int × (Int × Y1)))) : Tr ((Int × (Y1 × (Int × (Int × Y1)))) ⊕ (Y1 × (Int × (Int × Y1)))) :=
 .t (decide (v.1 < k.2.1))
 (.t (decide (v.1 < k.1))
 (.c (Int × (Y1 × (Int × Int))) (F_zcc k.2.2.2.1 v.2.1 v.2.2.1 v.2.2.2.1) fun r14_ =>
 .g (decide ((List.length v.2.2.2.2 + List.length ([r14_.1] : Y1)) * 8 ≤ 140737488355328)) <|
 .l (.inl ((IntKind.wrap .i64 (v.1 + (1 : Int))), (r14_.2.1, (r14_.2.2.1, (r14_.2.2.2, (v.2.2.2.2 ++ ([r14_.1] : Y1))))))))
 (.l (.inr (v.2.1, (v.2.2.1, (v.2.2.2.1, v.2.2.2.2))))))
 (.l (.inr (v.2.1, (v.2.2.1, (v.2.2.2.1, v.2.2.2.2)))))
noncomputable def L_zcd_0 (k : Int × (Int × (Int × (Int × Y1)))) (v : Int × (Y1 × (Int × (Int × Y1)))) : Option (Y1 × (Int × (Int × Y1))) := iter (fun v => (S_zcd_0 k v).ev) v
noncomputable def DL_zcd_0 : LD := ⟨{ acts := [.ownB 4 0 900340 3 yi, .ownB 7 0 900370 3 yi], S := { slots := [0, 1, 4, 5, 6, 7, 8, 9], sh := (.cons (.box 64 0) (.cons (.dat yi) (.cons (.box 4 0) (.cons (.dat yi) (.cons (.dat yi) (.cons (.box 7 0) (.cons (.dat yi) (.cons (.dat yi) .nil)))))))), obs := [(64, .cells (.cons (.dat (.slice (.int .u8))) (.cons (.dat yi) (.cons (.dat (.int .u64)) .nil)))), (4, .cells (.cons (.arr 900340) (.cons .nilsl .nil))), (7, .cells (.cons (.arr 900370) (.cons .nilsl .nil))), (900340, .arr 3 yi), (900370, .arr 3 yi)] } }, [(0, { acts := [], S := { slots := [0, 1, 4, 6, 7, 8], sh := (.cons (.box 64 0) (.cons (.dat yi) (.cons (.box 4 0) (.cons (.dat yi) (.cons (.box 7 0) (.cons (.dat yi) .nil)))))), obs := [(64, .cells (.cons (.dat (.slice (.int .u8))) (.cons (.dat yi) (.cons (.dat (.int .u64)) .nil)))), (4, .cells (.cons (.arr 900340) (.cons .nilsl .nil))), (7, .cells (.cons (.arr 900370) (.cons .nilsl .nil))), (900340, .arr 3 yi), (900370, .arr 3 yi)] } })], (yh [] .nil), Int × (Int × (Int × (Int × Y1))), Int × (Y1 × (Int × (Int × Y1))), Y1 × (Int × (Int × Y1)), fun k v => (((), (k.1, ((), (k.2.1, (k.2.2.1, ((), (k.2.2.2.1, (v.1, ())))))))), ((v.2.1, (v.2.2.1, (v.2.2.2.1, ()))), (((), ((), ())), (((), ((), ())), (k.2.2.2.2, (v.2.2.2.2, ())))))), fun t => (t.1.2.1, (t.1.2.2.2.1, (t.1.2.2.2.2.1, (t.1.2.2.2.2.2.2.1, t.2.2.2.2.1)))), fun t => (t.1.2.2.2.2.2.2.2.1, (t.2.1.1, (t.2.1.2.1, (t.2.1.2.2.1, t.2.2.2.2.2.1)))), S_zcd_0, fun k r => .l (.exit 0 (mkSt ({ slots := [0, 1, 4, 6, 7, 8], sh := (.cons (.box 64 0) (.cons (.dat yi) (.cons (.box 4 0) (.cons (.dat yi) (.cons (.box 7 0) (.cons (.dat yi) .nil)))))), obs := [(64, .cells (.cons (.dat (.slice (.int .u8))) (.cons (.dat yi) (.cons (.dat (.int .u64)) .nil)))), (4, .cells (.cons (.arr 900340) (.cons .nilsl .nil))), (7, .cells (.cons (.arr 900370) (.cons .nilsl .nil))), (900340, .arr 3 yi), (900370, .arr 3 yi)] }) (((), (k.1, ((), (k.2.2.1, ((), (k.2.2.2.1, ())))))), ((r.1, (r.2.1, (r.2.2.1, ()))), (((), ((), ())), (((), ((), ())), (k.2.2.2.2, (r.2.2.2, ()))))))))⟩
noncomputable def S_zcd_4 (k : Int × (Int × (Int × (Int × (Y1 × (Y2 × (Y1 × Y2))))))) (v : Int × (Y1 × (Int × (Int × Y1)))) : Tr ((Int × (Y1 × (Int × (Int × Y1)))) ⊕ (Y1 × (Int × (Int × Y1)))) :=
 .t (decide (v.1 < ((List.length k.2.2.2.2.2.2.1 : Nat) : Int)))
 (.c (Int × (Y1 × (Int × Int))) (F_zcc k.2.2.1 v.2.1 v.2.2.1 v.2.2.2.1) fun r48_ =>
 .g (decide ((List.length v.2.2.2.2 + List.length ([r48_.1] : Y1)) * 8 ≤ 140737488355328)) <|
 .l (.inl ((IntKind.wrap .i64 (v.1 + (1 : Int))), (r48_.2.1, (r48_.2.2.1, (r48_.2.2.2, (v.2.2.2.2 ++ ([r48_.1] : Y1))))))))
 (.l (.inr (v.2.1, (v.2.2.1, (v.2.2.2.1, v.2.2.2.2)))))
noncomputable def L_zcd_4 (k : Int × (Int × (Int × (Int × (Y1 × (Y2 × (Y1 × Y2))))))) (v : Int × (Y1 × (Int × (Int × Y1)))) : Option (Y1 × (Int × (Int × Y1))) := iter (fun v => (S_zcd_4 k v).ev) v
noncomputable def DL_zcd_4 : LD := ⟨{ acts := [], S := { slots := [0, 1, 4, 6, 7, 8, 10, 11, 12], sh := (.cons (.box 64 0) (.cons (.dat yi) (.cons (.box 4 0) (.cons (.dat yi) (.cons (.box 7 0) (.cons (.dat yi) (.cons (.dat yi) (.cons (.arr 51) (.cons (.dat yi) .nil))))))))), obs := [(64, .cells (.cons (.dat (.slice (.int .u8))) (.cons (.dat yi) (.cons (.dat (.int .u64)) .nil)))), (4, .cells (.cons (.arr 900340) (.cons (.arr 902341) .nil))), (7, .cells (.cons (.arr 900370) (.cons (.arr 902371) .nil))), (51, .arr 3 yi), (900340, .arr 3 yi), (902341, .rows 27 3 yi), (900370, .arr 3 yi), (902371, .rows 27 3 yi)] } }, [(4, { acts := [], S := { slots := [0, 1, 4, 6, 7, 8, 10, 11], sh := (.cons (.box 64 0) (.cons (.dat yi) (.cons (.box 4 0) (.cons (.dat yi) (.cons (.box 7 0) (.cons (.dat yi) (.cons (.dat yi) (.cons (.arr 51) .nil)))))))), obs := [(64, .cells (.cons (.dat (.slice (.int .u8))) (.cons (.dat yi) (.cons (.dat (.int .u64)) .nil)))), (4, .cells (.cons (.arr 900340) (.cons (.arr 902341) .nil))), (7, .cells (.cons (.arr 900370) (.cons (.arr 902371) .nil))), (51, .arr 3 yi), (900340, .arr 3 yi), (902341, .rows 27 3 yi), (900370, .arr 3 yi), (902371, .rows 27 3 yi)] } })], (yh [] .nil), Int × (Int × (Int × (Int × (Y1 × (Y2 × (Y1 × Y2)))))), Int × (Y1 × (Int × (Int × Y1))), Y1 × (Int × (Int × Y1)), fun k v => (((), (k.1, ((), (k.2.1, ((), (k.2.2.1, (k.2.2.2.1, ((), (v.1, ()))))))))), ((v.2.1, (v.2.2.1, (v.2.2.2.1, ()))), (((), ((), ())), (((), ((), ())), (v.2.2.2.2, (k.2.2.2.2.1, (k.2.2.2.2.2.1, (k.2.2.2.2.2.2.1, (k.2.2.2.2.2.2.2, ()))))))))), fun t => (t.1.2.1, (t.1.2.2.2.1, (t.1.2.2.2.2.2.1, (t.1.2.2.2.2.2.2.1, (t.2.2.2.2.2.1, (t.2.2.2.2.2.2.1, (t.2.2.2.2.2.2.2.1, t.2.2.2.2.2.2.2.2.1))))))), fun t => (t.1.2.2.2.2.2.2.2.2.1, (t.2.1.1, (t.2.1.2.1, (t.2.1.2.2.1, t.2.2.2.2.1)))), S_zcd_4, fun k r => .l (.exit 4 (mkSt ({ slots := [0, 1, 4, 6, 7, 8, 10, 11], sh := (.cons (.box 64 0) (.cons (.dat yi) (.cons (.box 4 0) (.cons (.dat yi) (.cons (.box 7 0) (.cons (.dat yi) (.cons (.dat yi) (.cons (.arr 51) .nil)))))))), obs := [(64, .cells (.cons (.dat (.slice (.int .u8))) (.cons (.dat yi) (.cons (.dat (.int .u64)) .nil)))), (4, .cells (.cons (.arr 900340) (.cons (.arr 902341) .nil))), (7, .cells (.cons (.arr 900370) (.cons (.arr 902371) .nil))), (51, .arr 3 yi), (900340, .arr 3 yi), (902341, .rows 27 3 yi), (900370, .arr 3 yi), (902371, .rows 27 3 yi)] }) (((), (k.1, ((), (k.2.1, ((), (k.2.2.1, (k.2.2.2.1, ((), ())))))))), ((r.1, (r.2.1, (r.2.2.1, ()))), (((), ((), ())), (((), ((), ())), (r.2.2.2, (k.2.2.2.2.1, (k.2.2.2.2.2.1, (k.2.2.2.2.2.2.1, (k.2.2.2.2.2.2.2, ())))))))))))⟩
noncomputable def S_zcd_2 (k : Int × (Int × (Int × (Y1 × (Y2 × Y1))))) (v : Int × (Y1 × (Int × (Int × Y2)))) : Tr ((Int × (Y1 × (Int × (Int × Y2)))) ⊕ (Y1 × (Int × (Int × Y2)))) :=
 .t (decide (v.1 < k.2.1))
 (.t (decide (v.1 < k.1))
 (.c (Y1 × (Int × (Int × Y1))) (L_zcd_4 (k.1, (k.2.1, (k.2.2.1, (v.1, (k.2.2.2.1, (k.2.2.2.2.1, (k.2.2.2.2.2, v.2.2.2.2))))))) ((0 : Int), (v.2.1, (v.2.2.1, (v.2.2.2.1, ([] : Y1)))))) fun r61_ =>
 .g (decide ((List.length v.2.2.2.2 + 1) * 24 ≤ 140737488355328)) <|
 .l (.inl ((IntKind.wrap .i64 (v.1 + (1 : Int))), (r61_.1, (r61_.2.1, (r61_.2.2.1, (List.set (v.2.2.2.2 ++ [[]]) (List.length v.2.2.2.2) r61_.2.2.2)))))))
 (.l (.inr (v.2.1, (v.2.2.1, (v.2.2.2.1, v.2.2.2.2))))))
 (.l (.inr (v.2.1, (v.2.2.1, (v.2.2.2.1, v.2.2.2.2)))))
noncomputable def L_zcd_2 (k : Int × (Int × (Int × (Y1 × (Y2 × Y1))))) (v : Int × (Y1 × (Int × (Int × Y2)))) : Option (Y1 × (Int × (Int × Y2))) := iter (fun v => (S_zcd_2 k v).ev) v
noncomputable def DL_zcd_2 : LD := ⟨{ acts := [.ownRB 4 1 902341 27 3 yi, .ownRB 7 1 902371 27 3 yi], S := { slots := [0, 1, 4, 6, 7, 8, 10], sh := (.cons (.box 64 0) (.cons (.dat yi) (.cons (.box 4 0) (.cons (.dat yi) (.cons (.box 7 0) (.cons (.dat yi) (.cons (.dat yi) .nil))))))), obs := [(64, .cells (.cons (.dat (.slice (.int .u8))) (.cons (.dat yi) (.cons (.dat (.int .u64)) .nil)))), (4, .cells (.cons (.arr 900340) (.cons (.arr 902341) .nil))), (7, .cells (.cons (.arr 900370) (.cons (.arr 902371) .nil))), (900340, .arr 3 yi), (902341, .rows 27 3 yi), (900370, .arr 3 yi), (902371, .rows 27 3 yi)] } }, [(2, { acts := [], S := { slots := [0, 4, 7], sh := (.cons (.box 64 0) (.cons (.box 4 0) (.cons (.box 7 0) .nil))), obs := [(64, .cells (.cons (.dat (.slice (.int .u8))) (.cons (.dat yi) (.cons (.dat (.int .u64)) .nil)))), (4, .cells (.cons (.arr 900340) (.cons (.arr 902341) .nil))), (7, .cells (.cons (.arr 900370) (.cons (.arr 902371) .nil))), (900340, .arr 3 yi), (902341, .rows 27 3 yi), (900370, .arr 3 yi), (902371, .rows 27 3 yi)] } })], (yh [] .nil), Int × (Int × (Int × (Y1 × (Y2 × Y1)))), Int × (Y1 × (Int × (Int × Y2))), Y1 × (Int × (Int × Y2)), fun k v => (((), (k.1, ((), (k.2.1, ((), (k.2.2.1, (v.1, ()))))))), ((v.2.1, (v.2.2.1, (v.2.2.2.1, ()))), (((), ((), ())), (((), ((), ())), (k.2.2.2.1, (k.2.2.2.2.1, (k.2.2.2.2.2, (v.2.2.2.2, ())))))))), fun t => (t.1.2.1, (t.1.2.2.2.1, (t.1.2.2.2.2.2.1, (t.2.2.2.2.1, (t.2.2.2.2.2.1, t.2.2.2.2.2.2.1))))), fun t => (t.1.2.2.2.2.2.2.1, (t.2.1.1, (t.2.1.2.1, (t.2.1.2.2.1, t.2.2.2.2.2.2.2.1)))), S_zcd_2, fun k r => .l (.exit 2 (mkSt ({ slots := [0, 4, 7], sh := (.cons (.box 64 0) (.cons (.box 4 0) (.cons (.box 7 0) .nil))), obs := [(64, .cells (.cons (.dat (.slice (.int .u8))) (.cons (.dat yi) (.cons (.dat (.int .u64)) .nil)))), (4, .cells (.cons (.arr 900340) (.cons (.arr 902341) .nil))), (7, .cells (.cons (.arr 900370) (.cons (.arr 902371) .nil))), (900340, .arr 3 yi), (902341, .rows 27 3 yi), (900370, .arr 3 yi), (902371, .rows 27 3 yi)] }) (((), ((), ((), ()))), ((r.1, (r.2.1, (r.2.2.1, ()))), (((), ((), ())), (((), ((), ())), (k.2.2.2.1, (k.2.2.2.2.1, (k.2.2.2.2.2, (r.2.2.2, ()))))))))))⟩
noncomputable def T_zcd (a4_ : Int) (a1_ : Y1) (a2_ : Int) (a3_ : Int) : Tr (Y1 × (Y2 × (Y1 × (Int × Int)))) :=
 .c (Int × (Y1 × (Int × Int))) (F_zbv ([(3 : Int), (4 : Int), (2 : Int), (5 : Int), (1 : Int), (6 : Int), (7 : Int)] : Y1) a1_ a2_ a3_) fun r1_ =>
 .c (Int × (Y1 × (Int × Int))) (F_zbv ([(4 : Int), (3 : Int), (5 : Int), (2 : Int), (6 : Int), (7 : Int), (1 : Int), (0 : Int)] : Y1) r1_.2.1 r1_.2.2.1 r1_.2.2.2) fun r2_ =>
 .c (Int × (Y1 × (Int × Int))) (F_zbv ([(10 : Int), (10 : Int), (20 : Int), (4 : Int)] : Y1) r2_.2.1 r2_.2.2.1 r2_.2.2.2) fun r3_ =>
 .c (Y1 × (Int × (Int × Y1))) (L_zcd_0 (a4_, (r1_.1, (r2_.1, (r3_.1, ([] : Y1))))) ((0 : Int), (r3_.2.1, (r3_.2.2.1, (r3_.2.2.2, ([] : Y1)))))) fun r23_ =>
 .c (Y1 × (Int × (Int × Y2))) (L_zcd_2 (a4_, (r2_.1, (r3_.1, (([] : Y1), (([] : List Y1), r23_.2.2.2))))) ((0 : Int), (r23_.1, (r23_.2.1, (r23_.2.2.1, ([] : List Y1)))))) fun r69_ =>
 .l (r23_.2.2.2, (r69_.2.2.2, (r69_.1, (r69_.2.1, r69_.2.2.1))))
noncomputable def F_zcd (a4_ : Int) (a1_ : Y1) (a2_ : Int) (a3_ : Int) : Option (Y1 × (Y2 × (Y1 × (Int × Int)))) := (T_zcd a4_ a1_ a2_ a3_).ev
noncomputable def A_zcd : Sh := (.cons (.box 64 0) (.cons (.dat yi) .nil))
noncomputable def I_zcd : List (Nat × OSh) := [(64, .cells (.cons (.dat (.slice (.int .u8))) (.cons (.dat yi) (.cons (.dat (.int .u64)) .nil))))]
noncomputable def K_zcd : RetK := { acts := [.ren 900370 1, .ren 902371 2], res := [.cell 4 46], sh := (.cons (.agg (.cons (.arr 1) (.cons (.arr 2) .nil))) .nil), obs := [(1, .arr 3 yi), (2, .rows 27 3 yi), (64, .cells (.cons (.dat (.slice (.int .u8))) (.cons (.dat yi) (.cons (.dat (.int .u64)) .nil))))], pins := [(0, 0, 64)] }
noncomputable def D_zcd : FD := ⟨A_zcd, I_zcd, [.arg 0], Y1 × (Y2 × (Y1 × (Int × Int))), fun x => F_zcd x.1.2.1 x.2.1.1 x.2.1.2.1 x.2.1.2.2.1, fun r => ([.agg [.arr 1, .arr 2]], [(1, .arr 3 yi r.1), (2, .rows 27 3 yi r.2.1 none), (64, .cells [.dat (.slice (.int .u8)) r.2.2.1, .dat yi r.2.2.2.1, .dat (.int .u64) r.2.2.2.2])])⟩
noncomputable def E_zcd : Env := envOf [(47, D_zbv), (66, D_zcc)]
noncomputable def Z_zcd : Nat → Nat → List Nat := fun r i => match look [(1, [(2, [14]), (5, [17])]), (2, [(3, [21])])] r with
 | some l => (look l i).getD []
 | none => []
noncomputable def O_zcd : List (Nat × LD) := [(0, DL_zcd_0), (4, DL_zcd_4), (2, DL_zcd_2)]
noncomputable def C_zcd : Code := (f132.body).getD .skip
noncomputable def T_zck (a1_ : Y1) : Tr Y1 :=
 .g (decide ((List.length ([] : Y1) + List.length a1_) * 8 ≤ 140737488355328)) <|
 .l (([] : Y1) ++ a1_)
noncomputable def F_zck (a1_ : Y1) : Option Y1 := (T_zck a1_).ev
noncomputable def A_zck : Sh := (.cons (.dat y1) .nil)
noncomputable def I_zck : List (Nat × OSh) := []
noncomputable def K_zck : RetK := { acts := [.ren 3 0], res := [.tmp 2], sh := (.cons (.arr 0) .nil), obs := [(0, .arr 3 yi)], pins := [] }
noncomputable def D_zck : FD := ⟨A_zck, I_zck, [], Y1, fun x => F_zck x.1.1, fun r => ([.arr 0], [(0, .arr 3 yi r)])⟩
noncomputable def E_zck : Env := envOf []
noncomputable def Z_zck : Nat → Nat → List Nat := fun _ _ => []
noncomputable def O_zck : List (Nat × LD) := []
noncomputable def C_zck : Code := (f157.body).getD .skip
noncomputable def S_zcf_1 (k : Y1 × (Int × (Int × (Y1 × Y2)))) (v : List Y1) : Tr (Y2 ⊕ Y2) :=
 .t (decide (((List.length v : Nat) : Int) < (8 : Int)))
 (.c Y1 (F_zck k.2.2.2.1) fun r11_ =>
 .g (decide ((List.length v + 1) * 24 ≤ 140737488355328)) <|
 .l (.inl (List.set (v ++ [[]]) (List.length v) r11_)))
 (.l (.inr v))
noncomputable def L_zcf_1 (k : Y1 × (Int × (Int × (Y1 × Y2)))) (v : List Y1) : Option Y2 := iter (fun v => (S_zcf_1 k v).ev) v
noncomputable def DL_zcf_1 : LD := ⟨{ acts := [.ownRB 4 1 901341 27 3 yi], S := { slots := [0, 3, 4], sh := (.cons (.box 64 0) (.cons (.box 3 0) (.cons (.box 4 0) .nil))), obs := [(64, .cells (.cons (.dat (.slice (.int .u8))) (.cons (.dat yi) (.cons (.dat (.int .u64)) .nil)))), (3, .cells (.cons (.arr 65) (.cons (.arr 66) .nil))), (4, .cells (.cons .nilsl (.cons (.arr 901341) .nil))), (65, .arr 3 yi), (66, .rows 27 3 yi), (901341, .rows 27 3 yi)] } }, [(1, { acts := [], S := { slots := [0, 3, 4], sh := (.cons (.box 64 0) (.cons (.box 3 0) (.cons (.box 4 0) .nil))), obs := [(64, .cells (.cons (.dat (.slice (.int .u8))) (.cons (.dat yi) (.cons (.dat (.int .u64)) .nil)))), (3, .cells (.cons (.arr 65) (.cons (.arr 66) .nil))), (4, .cells (.cons .nilsl (.cons (.arr 901341) .nil))), (65, .arr 3 yi), (66, .rows 27 3 yi), (901341, .rows 27 3 yi)] } })], (yh [] .nil), Y1 × (Int × (Int × (Y1 × Y2))), List Y1, List Y1, fun k v => (((), ((), ((), ()))), ((k.1, (k.2.1, (k.2.2.1, ()))), (((), ((), ())), (((), ((), ())), (k.2.2.2.1, (v, (k.2.2.2.2, ()))))))), fun t => (t.2.1.1, (t.2.1.2.1, (t.2.1.2.2.1, (t.2.2.2.2.1, t.2.2.2.2.2.2.1)))), fun t => t.2.2.2.2.2.1, S_zcf_1, fun k r => .l (.exit 1 (mkSt ({ slots := [0, 3, 4], sh := (.cons (.box 64 0) (.cons (.box 3 0) (.cons (.box 4 0) .nil))), obs := [(64, .cells (.cons (.dat (.slice (.int .u8))) (.cons (.dat yi) (.cons (.dat (.int .u64)) .nil)))), (3, .cells (.cons (.arr 65) (.cons (.arr 66) .nil))), (4, .cells (.cons .nilsl (.cons (.arr 901341) .nil))), (65, .arr 3 yi), (66, .rows 27 3 yi), (901341, .rows 27 3 yi)] }) (((), ((), ((), ()))), ((k.1, (k.2.1, (k.2.2.1, ()))), (((), ((), ())), (((), ((), ())), (k.2.2.2.1, (r, (k.2.2.2.2, ())))))))))⟩
noncomputable def T_zcf (a1_ : Y1) (a2_ : Int) (a3_ : Int) (a4_ : Y1) (a5_ : List Y1) : Tr (Y1 × (Y2 × (Y1 × (Int × Int)))) :=
 .t (((List.length a4_ : Nat) : Int) == (0 : Int))
 (.l (a4_, (a5_, (a1_, (a2_, a3_)))))
 (.c (Int × (Y1 × (Int × Int))) (F_zcc ((List.length a4_ : Nat) : Int) a1_ a2_ a3_) fun r1_ =>
 .c (Int × (Y1 × (Int × Int))) (F_zcc (60 : Int) r1_.2.1 r1_.2.2.1 r1_.2.2.2) fun r2_ =>
 .t (r2_.1 == (0 : Int))
 (.c (Int × (Y1 × (Int × Int))) (F_zbv ([(-1 : Int), (99 : Int), (100 : Int), (4611686018427387904 : Int)] : Y1) r2_.2.1 r2_.2.2.1 r2_.2.2.2) fun r3_ =>
 .g (inR r1_.1 (List.length a4_)) <|
 .g (decide ((Int.toNat r1_.1) < List.length a4_)) <|
 .l ((List.set a4_ (Int.toNat r1_.1) r3_.1), (a5_, (r3_.2.1, (r3_.2.2.1, r3_.2.2.2)))))
 (.t (r2_.1 == (1 : Int))
 (.t (decide ((0 : Int) < ((List.length a5_ : Nat) : Int)))
 (.g (inR (0 : Int) (List.length a5_)) <|
 .g (decide ((Int.toNat (0 : Int)) < List.length a5_)) <|
 .c (Int × (Y1 × (Int × Int))) (F_zbv ([(-1 : Int), (99 : Int), (100 : Int), (-9223372036854775808 : Int)] : Y1) r2_.2.1 r2_.2.2.1 r2_.2.2.2) fun r4_ =>
 .g (inR r1_.1 (List.length (List.getD a5_ (Int.toNat (0 : Int)) ([] : Y1)))) <|
 .g (decide ((Int.toNat r1_.1) < List.length (List.getD a5_ (Int.toNat (0 : Int)) ([] : Y1)))) <|
 .l (a4_, ((List.set a5_ (Int.toNat (0 : Int)) (List.set (List.getD a5_ (Int.toNat (0 : Int)) ([] : Y1)) (Int.toNat r1_.1) r4_.1)), (r4_.2.1, (r4_.2.2.1, r4_.2.2.2)))))
 (.l (a4_, (a5_, (r2_.2.1, (r2_.2.2.1, r2_.2.2.2))))))
 (.t (r2_.1 == (2 : Int))
 (.g (decide ((List.length a4_ + List.length ([(1 : Int)] : Y1)) * 8 ≤ 140737488355328)) <|
 .l ((a4_ ++ ([(1 : Int)] : Y1)), (a5_, (r2_.2.1, (r2_.2.2.1, r2_.2.2.2)))))
 (.t (r2_.1 == (3 : Int))
 (.c Y2 (L_zcf_1 (r2_.2.1, (r2_.2.2.1, (r2_.2.2.2, (a4_, ([] : List Y1))))) a5_) fun r18_ =>
 .l (a4_, (r18_, (r2_.2.1, (r2_.2.2.1, r2_.2.2.2)))))
 (.t (r2_.1 == (4 : Int))
 (.l (([] : Y1), (([] : List Y1), (r2_.2.1, (r2_.2.2.1, r2_.2.2.2)))))
 (.l (a4_, (a5_, (r2_.2.1, (r2_.2.2.1, r2_.2.2.2))))))))))
noncomputable def F_zcf (a1_ : Y1) (a2_ : Int) (a3_ : Int) (a4_ : Y1) (a5_ : List Y1) : Option (Y1 × (Y2 × (Y1 × (Int × Int)))) := (T_zcf a1_ a2_ a3_ a4_ a5_).ev
noncomputable def A_zcf : Sh := (.cons (.box 64 0) (.cons (.agg (.cons (.arr 65) (.cons (.arr 66) .nil))) .nil))
noncomputable def I_zcf : List (Nat × OSh) := [(64, .cells (.cons (.dat (.slice (.int .u8))) (.cons (.dat yi) (.cons (.dat (.int .u64)) .nil)))), (65, .arr 3 yi), (66, .rows 27 3 yi)]
noncomputable def K_zcf : RetK := { acts := [.ownB 4 0 1 3 yi, .ownRB 4 1 2 27 3 yi, .ren 65 1, .ren 66 2], res := [.cell 4 46], sh := (.cons (.agg (.cons (.arr 1) (.cons (.arr 2) .nil))) .nil), obs := [(1, .arr 3 yi), (2, .rows 27 3 yi), (64, .cells (.cons (.dat (.slice (.int .u8))) (.cons (.dat yi) (.cons (.dat (.int .u64)) .nil))))], pins := [(0, 0, 64)], gone := [65, 66] }
noncomputable def D_zcf : FD := ⟨A_zcf, I_zcf, [.arg 0, .comp 1 0, .comp 1 1], Y1 × (Y2 × (Y1 × (Int × Int))), fun x => F_zcf x.2.1.1 x.2.1.2.1 x.2.1.2.2.1 x.2.2.1 x.2.2.2.1, fun r => ([.agg [.arr 1, .arr 2]], [(1, .arr 3 yi r.1), (2, .rows 27 3 yi r.2.1 none), (64, .cells [.dat (.slice (.int .u8)) r.2.2.1, .dat yi r.2.2.2.1, .dat (.int .u64) r.2.2.2.2]), (65, .spent), (66, .spent)])⟩
noncomputable def E_zcf : Env := envOf [(66, D_zcc), (47, D_zbv), (157, D_zck)]
noncomputable def Z_zcf : Nat → Nat → List Nat := fun r i => match look [(6, [(0, [60000004])]), (9, [(0, [60000006])])] r with
 | some l => (look l i).getD []
 | none => []
noncomputable def O_zcf : List (Nat × LD) := [(1, DL_zcf_1)]
noncomputable def C_zcf : Code := (f131.body).getD .skip
noncomputable def T_zcj (a1_ : Int) (a2_ : Int) : Tr (Int) :=
 .t (decide (a2_ < a1_))
 (.l a1_)
 (.l a2_)
noncomputable def F_zcj (a1_ : Int) (a2_ : Int) : Option (Int) := (T_zcj a1_ a2_).ev
noncomputable def A_zcj : Sh := (.cons (.dat yi) (.cons (.dat yi) .nil))
noncomputable def I_zcj : List (Nat × OSh) := []
noncomputable def K_zcj : RetK := { acts := [], res := [.tmp 4], sh := (.cons (.dat yi) .nil), obs := [], pins := [] }
noncomputable def D_zcj : FD := ⟨A_zcj, I_zcj, [], Int, fun x => F_zcj x.1.1 x.1.2.1, fun r => ([.dat yi r], [])⟩
noncomputable def E_zcj : Env := envOf []
noncomputable def Z_zcj : Nat → Nat → List Nat := fun _ _ => []
noncomputable def O_zcj : List (Nat × LD) := []
noncomputable def C_zcj : Code := (f110.body).getD .skip
noncomputable def S_zbz_0 (k : Y1 × Y2) (v : Int × (Y1 × (Int × (Int × Y1)))) : Tr ((Int × (Y1 × (Int × (Int × Y1)))) ⊕ (Y1 × (Int × (Int × Y1)))) :=
 .t (decide (v.1 < ((List.length k.1 : Nat) : Int)))
 (.c (Int × (Y1 × (Int × Int))) (F_zcc (20 : Int) v.2.1 v.2.2.1 v.2.2.2.1) fun r9_ =>
 .g (decide ((List.length v.2.2.2.2 + List.length ([r9_.1] : Y1)) * 8 ≤ 140737488355328)) <|
 .l (.inl ((IntKind.wrap .i64 (v.1 + (1 : Int))), (r9_.2.1, (r9_.2.2.1, (r9_.2.2.2, (v.2.2.2.2 ++ ([r9_.1] : Y1))))))))
 (.l (.inr (v.2.1, (v.2.2.1, (v.2.2.2.1, v.2.2.2.2)))))
noncomputable def L_zbz_0 (k : Y1 × Y2) (v : Int × (Y1 × (Int × (Int × Y1)))) : Option (Y1 × (Int × (Int × Y1))) := iter (fun v => (S_zbz_0 k v).ev) v
noncomputable def DL_zbz_0 : LD := ⟨{ acts := [], S := { slots := [0, 4, 5, 6, 7], sh := (.cons (.box 64 0) (.cons (.box 4 0) (.cons (.box 5 0) (.cons (.arr 14) (.cons (.dat yi) .nil))))), obs := [(64, .cells (.cons (.dat (.slice (.int .u8))) (.cons (.dat yi) (.cons (.dat (.int .u64)) .nil)))), (4, .cells (.cons .nilsl (.cons .nilsl .nil))), (5, .cells (.cons (.arr 833) (.cons (.arr 834) .nil))), (14, .arr 3 yi), (833, .arr 3 yi), (834, .rows 27 3 yi)] } }, [(0, { acts := [], S := { slots := [0, 4, 5, 6], sh := (.cons (.box 64 0) (.cons (.box 4 0) (.cons (.box 5 0) (.cons (.arr 14) .nil)))), obs := [(64, .cells (.cons (.dat (.slice (.int .u8))) (.cons (.dat yi) (.cons (.dat (.int .u64)) .nil)))), (4, .cells (.cons .nilsl (.cons .nilsl .nil))), (5, .cells (.cons (.arr 833) (.cons (.arr 834) .nil))), (14, .arr 3 yi), (833, .arr 3 yi), (834, .rows 27 3 yi)] } })], (yh [] .nil), Y1 × Y2, Int × (Y1 × (Int × (Int × Y1))), Y1 × (Int × (Int × Y1)), fun k v => (((), ((), ((), ((), (v.1, ()))))), ((v.2.1, (v.2.2.1, (v.2.2.2.1, ()))), (((), ((), ())), (((), ((), ())), (v.2.2.2.2, (k.1, (k.2, ()))))))), fun t => (t.2.2.2.2.2.1, t.2.2.2.2.2.2.1), fun t => (t.1.2.2.2.2.1, (t.2.1.1, (t.2.1.2.1, (t.2.1.2.2.1, t.2.2.2.2.1)))), S_zbz_0, fun k r => .l (.exit 0 (mkSt ({ slots := [0, 4, 5, 6], sh := (.cons (.box 64 0) (.cons (.box 4 0) (.cons (.box 5 0) (.cons (.arr 14) .nil)))), obs := [(64, .cells (.cons (.dat (.slice (.int .u8))) (.cons (.dat yi) (.cons (.dat (.int .u64)) .nil)))), (4, .cells (.cons .nilsl (.cons .nilsl .nil))), (5, .cells (.cons (.arr 833) (.cons (.arr 834) .nil))), (14, .arr 3 yi), (833, .arr 3 yi), (834, .rows 27 3 yi)] }) (((), ((), ((), ((), ())))), ((r.1, (r.2.1, (r.2.2.1, ()))), (((), ((), ())), (((), ((), ())), (r.2.2.2, (k.1, (k.2, ())))))))))⟩
noncomputable def S_zbz_4 (k : Int × (Int × (Y1 × (Int × (Int × (Y1 × Y1)))))) (v : Int × Y2) : Tr ((Int × Y2) ⊕ Y2) :=
 .t (decide (v.1 < ((List.length k.2.2.2.2.2.2 : Nat) : Int)))
 (.g (inR k.1 (List.length v.2)) <|
 .g (decide ((Int.toNat k.1) < List.length v.2)) <|
 .g (inR v.1 (List.length k.2.2.2.2.2.1)) <|
 .g (decide ((Int.toNat v.1) < List.length k.2.2.2.2.2.1)) <|
 .g (inR v.1 (List.length k.2.2.2.2.2.1)) <|
 .g (decide ((Int.toNat v.1) < List.length k.2.2.2.2.2.1)) <|
 .c (Int) (F_zcj (IntKind.wrap .i64 (k.2.1 - (List.getD k.2.2.2.2.2.1 (Int.toNat v.1) (0 : Int)))) (IntKind.wrap .i64 ((List.getD k.2.2.2.2.2.1 (Int.toNat v.1) (0 : Int)) - k.2.1))) fun r34_ =>
 .g (inR v.1 (List.length (List.getD v.2 (Int.toNat k.1) ([] : Y1)))) <|
 .g (decide ((Int.toNat v.1) < List.length (List.getD v.2 (Int.toNat k.1) ([] : Y1)))) <|
 .l (.inl ((IntKind.wrap .i64 (v.1 + (1 : Int))), (List.set v.2 (Int.toNat k.1) (List.set (List.getD v.2 (Int.toNat k.1) ([] : Y1)) (Int.toNat v.1) r34_)))))
 (.l (.inr v.2))
noncomputable def L_zbz_4 (k : Int × (Int × (Y1 × (Int × (Int × (Y1 × Y1)))))) (v : Int × Y2) : Option Y2 := iter (fun v => (S_zbz_4 k v).ev) v
noncomputable def DL_zbz_4 : LD := ⟨{ acts := [], S := { slots := [0, 4, 5, 6, 8, 9, 10], sh := (.cons (.box 64 0) (.cons (.box 4 0) (.cons (.box 5 0) (.cons (.arr 14) (.cons (.dat yi) (.cons (.dat yi) (.cons (.dat yi) .nil))))))), obs := [(64, .cells (.cons (.dat (.slice (.int .u8))) (.cons (.dat yi) (.cons (.dat (.int .u64)) .nil)))), (4, .cells (.cons .nilsl (.cons .nilsl .nil))), (5, .cells (.cons (.arr 833) (.cons (.arr 834) .nil))), (14, .arr 3 yi), (833, .arr 3 yi), (834, .rows 27 3 yi)] } }, [(4, { acts := [], S := { slots := [0, 4, 5, 6, 8], sh := (.cons (.box 64 0) (.cons (.box 4 0) (.cons (.box 5 0) (.cons (.arr 14) (.cons (.dat yi) .nil))))), obs := [(64, .cells (.cons (.dat (.slice (.int .u8))) (.cons (.dat yi) (.cons (.dat (.int .u64)) .nil)))), (4, .cells (.cons .nilsl (.cons .nilsl .nil))), (5, .cells (.cons (.arr 833) (.cons (.arr 834) .nil))), (14, .arr 3 yi), (833, .arr 3 yi), (834, .rows 27 3 yi)] } })], (yh [] .nil), Int × (Int × (Y1 × (Int × (Int × (Y1 × Y1))))), Int × Y2, List Y1, fun k v => (((), ((), ((), ((), (k.1, (k.2.1, (v.1, ()))))))), ((k.2.2.1, (k.2.2.2.1, (k.2.2.2.2.1, ()))), (((), ((), ())), (((), ((), ())), (k.2.2.2.2.2.1, (k.2.2.2.2.2.2, (v.2, ()))))))), fun t => (t.1.2.2.2.2.1, (t.1.2.2.2.2.2.1, (t.2.1.1, (t.2.1.2.1, (t.2.1.2.2.1, (t.2.2.2.2.1, t.2.2.2.2.2.1)))))), fun t => (t.1.2.2.2.2.2.2.1, t.2.2.2.2.2.2.1), S_zbz_4, fun k r => .l (.exit 4 (mkSt ({ slots := [0, 4, 5, 6, 8], sh := (.cons (.box 64 0) (.cons (.box 4 0) (.cons (.box 5 0) (.cons (.arr 14) (.cons (.dat yi) .nil))))), obs := [(64, .cells (.cons (.dat (.slice (.int .u8))) (.cons (.dat yi) (.cons (.dat (.int .u64)) .nil)))), (4, .cells (.cons .nilsl (.cons .nilsl .nil))), (5, .cells (.cons (.arr 833) (.cons (.arr 834) .nil))), (14, .arr 3 yi), (833, .arr 3 yi), (834, .rows 27 3 yi)] }) (((), ((), ((), ((), (k.1, ()))))), ((k.2.2.1, (k.2.2.2.1, (k.2.2.2.2.1, ()))), (((), ((), ())), (((), ((), ())), (k.2.2.2.2.2.1, (k.2.2.2.2.2.2, (r, ())))))))))⟩
noncomputable def S_zbz_2 (k : Y1 × Y1) (v : Int × (Y1 × (Int × (Int × Y2)))) : Tr ((Int × (Y1 × (Int × (Int × Y2)))) ⊕ (Y1 × (Int × (Int × Y2)))) :=
 .t (decide (v.1 < ((List.length v.2.2.2.2 : Nat) : Int)))
 (.c (Int × (Y1 × (Int × Int))) (F_zcc (20 : Int) v.2.1 v.2.2.1 v.2.2.2.1) fun r24_ =>
 .c Y2 (L_zbz_4 (v.1, (r24_.1, (r24_.2.1, (r24_.2.2.1, (r24_.2.2.2, (k.1, k.2)))))) ((0 : Int), v.2.2.2.2)) fun r42_ =>
 .l (.inl ((IntKind.wrap .i64 (v.1 + (1 : Int))), (r24_.2.1, (r24_.2.2.1, (r24_.2.2.2, r42_))))))
 (.l (.inr (v.2.1, (v.2.2.1, (v.2.2.2.1, v.2.2.2.2)))))
noncomputable def L_zbz_2 (k : Y1 × Y1) (v : Int × (Y1 × (Int × (Int × Y2)))) : Option (Y1 × (Int × (Int × Y2))) := iter (fun v => (S_zbz_2 k v).ev) v
noncomputable def DL_zbz_2 : LD := ⟨{ acts := [], S := { slots := [0, 4, 5, 6, 8], sh := (.cons (.box 64 0) (.cons (.box 4 0) (.cons (.box 5 0) (.cons (.arr 14) (.cons (.dat yi) .nil))))), obs := [(64, .cells (.cons (.dat (.slice (.int .u8))) (.cons (.dat yi) (.cons (.dat (.int .u64)) .nil)))), (4, .cells (.cons .nilsl (.cons .nilsl .nil))), (5, .cells (.cons (.arr 833) (.cons (.arr 834) .nil))), (14, .arr 3 yi), (833, .arr 3 yi), (834, .rows 27 3 yi)] } }, [(2, { acts := [], S := { slots := [0, 4, 5], sh := (.cons (.box 64 0) (.cons (.box 4 0) (.cons (.box 5 0) .nil))), obs := [(64, .cells (.cons (.dat (.slice (.int .u8))) (.cons (.dat yi) (.cons (.dat (.int .u64)) .nil)))), (4, .cells (.cons .nilsl (.cons .nilsl .nil))), (5, .cells (.cons (.arr 833) (.cons (.arr 834) .nil))), (833, .arr 3 yi), (834, .rows 27 3 yi)] } })], (yh [] .nil), Y1 × Y1, Int × (Y1 × (Int × (Int × Y2))), Y1 × (Int × (Int × Y2)), fun k v => (((), ((), ((), ((), (v.1, ()))))), ((v.2.1, (v.2.2.1, (v.2.2.2.1, ()))), (((), ((), ())), (((), ((), ())), (k.1, (k.2, (v.2.2.2.2, ()))))))), fun t => (t.2.2.2.2.1, t.2.2.2.2.2.1), fun t => (t.1.2.2.2.2.1, (t.2.1.1, (t.2.1.2.1, (t.2.1.2.2.1, t.2.2.2.2.2.2.1)))), S_zbz_2, fun k r => .l (.exit 2 (mkSt ({ slots := [0, 4, 5], sh := (.cons (.box 64 0) (.cons (.box 4 0) (.cons (.box 5 0) .nil))), obs := [(64, .cells (.cons (.dat (.slice (.int .u8))) (.cons (.dat yi) (.cons (.dat (.int .u64)) .nil)))), (4, .cells (.cons .nilsl (.cons .nilsl .nil))), (5, .cells (.cons (.arr 833) (.cons (.arr 834) .nil))), (833, .arr 3 yi), (834, .rows 27 3 yi)] }) (((), ((), ((), ()))), ((r.1, (r.2.1, (r.2.2.1, ()))), (((), ((), ())), (((), ((), ())), (k.2, (r.2.2.2, ()))))))))⟩
noncomputable def T_zbz (a4_ : Int) (a1_ : Y1) (a2_ : Int) (a3_ : Int) : Tr (Y1 × (Y2 × (Y1 × (Int × Int)))) :=
 .c (Y1 × (Y2 × (Y1 × (Int × Int)))) (F_zcd a4_ a1_ a2_ a3_) fun r1_ =>
 .c (Y1 × (Int × (Int × Y1))) (L_zbz_0 (r1_.1, r1_.2.1) ((0 : Int), (r1_.2.2.1, (r1_.2.2.2.1, (r1_.2.2.2.2, ([] : Y1)))))) fun r16_ =>
 .c (Y1 × (Int × (Int × Y2))) (L_zbz_2 (r16_.2.2.2, r1_.1) ((0 : Int), (r16_.1, (r16_.2.1, (r16_.2.2.1, r1_.2.1))))) fun r48_ =>
 .l (r1_.1, (r48_.2.2.2, (r48_.1, (r48_.2.1, r48_.2.2.1))))
noncomputable def F_zbz (a4_ : Int) (a1_ : Y1) (a2_ : Int) (a3_ : Int) : Option (Y1 × (Y2 × (Y1 × (Int × Int)))) := (T_zbz a4_ a1_ a2_ a3_).ev
noncomputable def A_zbz : Sh := (.cons (.box 64 0) (.cons (.dat yi) .nil))
noncomputable def I_zbz : List (Nat × OSh) := [(64, .cells (.cons (.dat (.slice (.int .u8))) (.cons (.dat yi) (.cons (.dat (.int .u64)) .nil))))]
noncomputable def K_zbz : RetK := { acts := [.ren 833 1, .ren 834 2], res := [.cell 4 46], sh := (.cons (.agg (.cons (.arr 1) (.cons (.arr 2) .nil))) .nil), obs := [(1, .arr 3 yi), (2, .rows 27 3 yi), (64, .cells (.cons (.dat (.slice (.int .u8))) (.cons (.dat yi) (.cons (.dat (.int .u64)) .nil))))], pins := [(0, 0, 64)] }
noncomputable def D_zbz : FD := ⟨A_zbz, I_zbz, [.arg 0], Y1 × (Y2 × (Y1 × (Int × Int))), fun x => F_zbz x.1.2.1 x.2.1.1 x.2.1.2.1 x.2.1.2.2.1, fun r => ([.agg [.arr 1, .arr 2]], [(1, .arr 3 yi r.1), (2, .rows 27 3 yi r.2.1 none), (64, .cells [.dat (.slice (.int .u8)) r.2.2.1, .dat yi r.2.2.2.1, .dat (.int .u64) r.2.2.2.2])])⟩
noncomputable def E_zbz : Env := envOf [(132, D_zcd), (66, D_zcc), (110, D_zcj)]
noncomputable def Z_zbz : Nat → Nat → List Nat := fun _ _ => []
noncomputable def O_zbz : List (Nat × LD) := [(0, DL_zbz_0), (4, DL_zbz_4), (2, DL_zbz_2)]
noncomputable def C_zbz : Code := (f133.body).getD .skip
noncomputable def S_zcs_0 (k : Y1 × (Y2 × (Y2 × Y1))) (v : Int × Y2) : Tr ((Int × Y2) ⊕ Y2) :=
 .t (decide (v.1 < ((List.length k.2.1 : Nat) : Int)))
 (.g (inR v.1 (List.length k.2.1)) <|
 .c Y1 (F_zck (List.getD k.2.1 (Int.toNat v.1) ([] : Y1))) fun r8_ =>
 .g (decide ((List.length v.2 + 1) * 24 ≤ 140737488355328)) <|
 .l (.inl ((IntKind.wrap .i64 (v.1 + (1 : Int))), (List.set (v.2 ++ [[]]) (List.length v.2) r8_))))
 (.l (.inr v.2))
noncomputable def L_zcs_0 (k : Y1 × (Y2 × (Y2 × Y1))) (v : Int × Y2) : Option Y2 := iter (fun v => (S_zcs_0 k v).ev) v
noncomputable def DL_zcs_0 : LD := ⟨{ acts := [.ownRB 2 1 900321 27 3 yi, .ownRB 3 1 900331 27 3 yi], S := { slots := [1, 2, 3, 4], sh := (.cons (.box 1 0) (.cons (.box 2 0) (.cons (.box 3 0) (.cons (.dat yi) .nil)))), obs := [(1, .cells (.cons (.dat y1) (.cons (.dat y2) .nil))), (2, .cells (.cons .nilsl (.cons (.arr 900321) .nil))), (3, .cells (.cons (.arr 448) (.cons (.arr 900331) .nil))), (900321, .rows 27 3 yi), (448, .arr 3 yi), (900331, .rows 27 3 yi)] } }, [(0, { acts := [], S := { slots := [2, 3], sh := (.cons (.box 2 0) (.cons (.box 3 0) .nil)), obs := [(2, .cells (.cons .nilsl (.cons (.arr 900321) .nil))), (3, .cells (.cons (.arr 448) (.cons (.arr 900331) .nil))), (900321, .rows 27 3 yi), (448, .arr 3 yi), (900331, .rows 27 3 yi)] } })], (yh [] .nil), Y1 × (Y2 × (Y2 × Y1)), Int × Y2, List Y1, fun k v => (((), ((), ((), (v.1, ())))), ((k.1, (k.2.1, ())), (((), ((), ())), (((), ((), ())), (k.2.2.1, (k.2.2.2, (v.2, ()))))))), fun t => (t.2.1.1, (t.2.1.2.1, (t.2.2.2.2.1, t.2.2.2.2.2.1))), fun t => (t.1.2.2.2.1, t.2.2.2.2.2.2.1), S_zcs_0, fun k r => .l (.exit 0 (mkSt ({ slots := [2, 3], sh := (.cons (.box 2 0) (.cons (.box 3 0) .nil)), obs := [(2, .cells (.cons .nilsl (.cons (.arr 900321) .nil))), (3, .cells (.cons (.arr 448) (.cons (.arr 900331) .nil))), (900321, .rows 27 3 yi), (448, .arr 3 yi), (900331, .rows 27 3 yi)] }) (((), ((), ())), (((), ((), ())), (((), ((), ())), (k.2.2.1, (k.2.2.2, (r, ()))))))))⟩
noncomputable def T_zcs (a1_ : Y1) (a2_ : List Y1) : Tr (Y1 × Y2) :=
 .c Y1 (F_zck a1_) fun r1_ =>
 .c Y2 (L_zcs_0 (a1_, (a2_, (([] : List Y1), r1_))) ((0 : Int), ([] : List Y1))) fun r12_ =>
 .l (r1_, r12_)
noncomputable def F_zcs (a1_ : Y1) (a2_ : List Y1) : Option (Y1 × Y2) := (T_zcs a1_ a2_).ev
noncomputable def A_zcs : Sh := (.cons (.agg (.cons (.dat y1) (.cons (.dat y2) .nil))) .nil)
noncomputable def I_zcs : List (Nat × OSh) := []
noncomputable def K_zcs : RetK := { acts := [.ren 448 1, .ren 900331 4], res := [.cell 2 46], sh := (.cons (.agg (.cons (.arr 1) (.cons (.arr 4) .nil))) .nil), obs := [(1, .arr 3 yi), (4, .rows 27 3 yi)], pins := [] }
noncomputable def D_zcs : FD := ⟨A_zcs, I_zcs, [], Y1 × Y2, fun x => F_zcs x.1.1.1 x.1.1.2.1, fun r => ([.agg [.arr 1, .arr 4]], [(1, .arr 3 yi r.1), (4, .rows 27 3 yi r.2 none)])⟩
noncomputable def E_zcs : Env := envOf [(157, D_zck)]
noncomputable def Z_zcs : Nat → Nat → List Nat := fun _ _ => []
noncomputable def O_zcs : List (Nat × LD) := [(0, DL_zcs_0)]
noncomputable def C_zcs : Code := (f158.body).getD .skip
noncomputable def S_zcq_6 (k : Int × (Int × (Int × (Y1 × Y2)))) (v : Int) : Tr ((Int) ⊕ ((Unit) ⊕ (Unit))) :=
 .t (decide (v < ((List.length k.2.2.2.1 : Nat) : Int)))
 (.g (inR k.1 (List.length k.2.2.2.2)) <|
 .g (inR k.2.2.1 (List.length (List.getD k.2.2.2.2 (Int.toNat k.1) ([] : Y1)))) <|
 .g (inR k.1 (List.length k.2.2.2.2)) <|
 .g (inR v (List.length (List.getD k.2.2.2.2 (Int.toNat k.1) ([] : Y1)))) <|
 .g (inR k.2.1 (List.length k.2.2.2.2)) <|
 .g (inR v (List.length (List.getD k.2.2.2.2 (Int.toNat k.2.1) ([] : Y1)))) <|
 .g (inR k.2.1 (List.length k.2.2.2.2)) <|
 .g (inR k.2.2.1 (List.length (List.getD k.2.2.2.2 (Int.toNat k.2.1) ([] : Y1)))) <|
 .t (decide ((IntKind.wrap .i64 ((IntKind.wrap .i64 ((List.getD (List.getD k.2.2.2.2 (Int.toNat k.1) ([] : Y1)) (Int.toNat v) (0 : Int)) + (List.getD (List.getD k.2.2.2.2 (Int.toNat k.2.1) ([] : Y1)) (Int.toNat v) (0 : Int)))) + (List.getD (List.getD k.2.2.2.2 (Int.toNat k.2.1) ([] : Y1)) (Int.toNat k.2.2.1) (0 : Int)))) < (List.getD (List.getD k.2.2.2.2 (Int.toNat k.1) ([] : Y1)) (Int.toNat k.2.2.1) (0 : Int))))
 (.l (.inr (.inr ())))
 (.l (.inl (IntKind.wrap .i64 (v + (1 : Int))))))
 (.l (.inr (.inl ())))
noncomputable def L_zcq_6 (k : Int × (Int × (Int × (Y1 × Y2)))) (v : Int) : Option ((Unit) ⊕ (Unit)) := iter (fun v => (S_zcq_6 k v).ev) v
noncomputable def DL_zcq_6 : LD := ⟨{ acts := [], S := { slots := [1, 3, 4, 5, 6], sh := (.cons (.box 1 0) (.cons (.dat yi) (.cons (.dat yi) (.cons (.dat yi) (.cons (.dat yi) .nil))))), obs := [(1, .cells (.cons (.dat y1) (.cons (.dat y2) .nil)))] } }, [(6, { acts := [], S := { slots := [1, 3, 4, 5], sh := (.cons (.box 1 0) (.cons (.dat yi) (.cons (.dat yi) (.cons (.dat yi) .nil)))), obs := [(1, .cells (.cons (.dat y1) (.cons (.dat y2) .nil)))] } })], (yh [2] (.cons (.dat .bool) .nil)), Int × (Int × (Int × (Y1 × Y2))), Int, (Unit) ⊕ (Unit), fun k v => (((), (k.1, (k.2.1, (k.2.2.1, (v, ()))))), ((k.2.2.2.1, (k.2.2.2.2, ())), ())), fun t => (t.1.2.1, (t.1.2.2.1, (t.1.2.2.2.1, (t.2.1.1, t.2.1.2.1)))), fun t => t.1.2.2.2.2.1, S_zcq_6, fun k r => .s (Unit) (Unit) r (fun _ => .l (.exit 6 (mkSt ({ slots := [1, 3, 4, 5], sh := (.cons (.box 1 0) (.cons (.dat yi) (.cons (.dat yi) (.cons (.dat yi) .nil)))), obs := [(1, .cells (.cons (.dat y1) (.cons (.dat y2) .nil)))] }) (((), (k.1, (k.2.1, (k.2.2.1, ())))), ((k.2.2.2.1, (k.2.2.2.2, ())), ()))))) (fun _ => .l (.ret (mkSt ((ys [2] (.cons (.dat .bool) .nil))) ((false, ()), ()))))⟩
noncomputable def S_zcq_4 (k : Int × (Int × (Y1 × Y2))) (v : Int) : Tr ((Int) ⊕ ((Unit) ⊕ (Unit))) :=
 .t (decide (v < ((List.length k.2.2.1 : Nat) : Int)))
 (.c ((Unit) ⊕ (Unit)) (L_zcq_6 (k.1, (k.2.1, (v, (k.2.2.1, k.2.2.2)))) (0 : Int)) fun r25_ =>
 .s (Unit) (Unit) r25_
 (fun _ => .l (.inl (IntKind.wrap .i64 (v + (1 : Int)))))
 (fun _ => .l (.inr (.inr ()))))
 (.l (.inr (.inl ())))
noncomputable def L_zcq_4 (k : Int × (Int × (Y1 × Y2))) (v : Int) : Option ((Unit) ⊕ (Unit)) := iter (fun v => (S_zcq_4 k v).ev) v
noncomputable def DL_zcq_4 : LD := ⟨{ acts := [], S := { slots := [1, 3, 4, 5], sh := (.cons (.box 1 0) (.cons (.dat yi) (.cons (.dat yi) (.cons (.dat yi) .nil)))), obs := [(1, .cells (.cons (.dat y1) (.cons (.dat y2) .nil)))] } }, [(4, { acts := [], S := { slots := [1, 3, 4], sh := (.cons (.box 1 0) (.cons (.dat yi) (.cons (.dat yi) .nil))), obs := [(1, .cells (.cons (.dat y1) (.cons (.dat y2) .nil)))] } })], (yh [2] (.cons (.dat .bool) .nil)), Int × (Int × (Y1 × Y2)), Int, (Unit) ⊕ (Unit), fun k v => (((), (k.1, (k.2.1, (v, ())))), ((k.2.2.1, (k.2.2.2, ())), ())), fun t => (t.1.2.1, (t.1.2.2.1, (t.2.1.1, t.2.1.2.1))), fun t => t.1.2.2.2.1, S_zcq_4, fun k r => .s (Unit) (Unit) r (fun _ => .l (.exit 4 (mkSt ({ slots := [1, 3, 4], sh := (.cons (.box 1 0) (.cons (.dat yi) (.cons (.dat yi) .nil))), obs := [(1, .cells (.cons (.dat y1) (.cons (.dat y2) .nil)))] }) (((), (k.1, (k.2.1, ()))), ((k.2.2.1, (k.2.2.2, ())), ()))))) (fun _ => .l (.ret (mkSt ((ys [2] (.cons (.dat .bool) .nil))) ((false, ()), ()))))⟩
noncomputable def S_zcq_2 (k : Int × (Y1 × Y2)) (v : Int) : Tr ((Int) ⊕ ((Unit) ⊕ (Unit))) :=
 .t (decide (v < ((List.length k.2.2 : Nat) : Int)))
 (.c ((Unit) ⊕ (Unit)) (L_zcq_4 (k.1, (v, (k.2.1, k.2.2))) (0 : Int)) fun r33_ =>
 .s (Unit) (Unit) r33_
 (fun _ => .l (.inl (IntKind.wrap .i64 (v + (1 : Int)))))
 (fun _ => .l (.inr (.inr ()))))
 (.l (.inr (.inl ())))
noncomputable def L_zcq_2 (k : Int × (Y1 × Y2)) (v : Int) : Option ((Unit) ⊕ (Unit)) := iter (fun v => (S_zcq_2 k v).ev) v
noncomputable def DL_zcq_2 : LD := ⟨{ acts := [], S := { slots := [1, 3, 4], sh := (.cons (.box 1 0) (.cons (.dat yi) (.cons (.dat yi) .nil))), obs := [(1, .cells (.cons (.dat y1) (.cons (.dat y2) .nil)))] } }, [(2, { acts := [], S := { slots := [1, 3], sh := (.cons (.box 1 0) (.cons (.dat yi) .nil)), obs := [(1, .cells (.cons (.dat y1) (.cons (.dat y2) .nil)))] } })], (yh [2] (.cons (.dat .bool) .nil)), Int × (Y1 × Y2), Int, (Unit) ⊕ (Unit), fun k v => (((), (k.1, (v, ()))), ((k.2.1, (k.2.2, ())), ())), fun t => (t.1.2.1, (t.2.1.1, t.2.1.2.1)), fun t => t.1.2.2.1, S_zcq_2, fun k r => .s (Unit) (Unit) r (fun _ => .l (.exit 2 (mkSt ({ slots := [1, 3], sh := (.cons (.box 1 0) (.cons (.dat yi) .nil)), obs := [(1, .cells (.cons (.dat y1) (.cons (.dat y2) .nil)))] }) (((), (k.1, ())), ((k.2.1, (k.2.2, ())), ()))))) (fun _ => .l (.ret (mkSt ((ys [2] (.cons (.dat .bool) .nil))) ((false, ()), ()))))⟩
noncomputable def S_zcq_0 (k : Y1 × Y2) (v : Int) : Tr ((Int) ⊕ ((Unit) ⊕ (Unit))) :=
 .t (decide (v < ((List.length k.2 : Nat) : Int)))
 (.c ((Unit) ⊕ (Unit)) (L_zcq_2 (v, (k.1, k.2)) (0 : Int)) fun r40_ =>
 .s (Unit) (Unit) r40_
 (fun _ => .l (.inl (IntKind.wrap .i64 (v + (1 : Int)))))
 (fun _ => .l (.inr (.inr ()))))
 (.l (.inr (.inl ())))
noncomputable def L_zcq_0 (k : Y1 × Y2) (v : Int) : Option ((Unit) ⊕ (Unit)) := iter (fun v => (S_zcq_0 k v).ev) v
noncomputable def DL_zcq_0 : LD := ⟨{ acts := [], S := { slots := [1, 3], sh := (.cons (.box 1 0) (.cons (.dat yi) .nil)), obs := [(1, .cells (.cons (.dat y1) (.cons (.dat y2) .nil)))] } }, [(0, (yh [] .nil))], (yh [2] (.cons (.dat .bool) .nil)), Y1 × Y2, Int, (Unit) ⊕ (Unit), fun k v => (((), (v, ())), ((k.1, (k.2, ())), ())), fun t => (t.2.1.1, t.2.1.2.1), fun t => t.1.2.1, S_zcq_0, fun _ r => .s (Unit) (Unit) r (fun _ => .l (.exit 0 (mkSt ((ys [] .nil)) ((), ())))) (fun _ => .l (.ret (mkSt ((ys [2] (.cons (.dat .bool) .nil))) ((false, ()), ()))))⟩
noncomputable def T_zcq (a1_ : Y1) (a2_ : List Y1) : Tr (Bool) :=
 .c ((Unit) ⊕ (Unit)) (L_zcq_0 (a1_, a2_) (0 : Int)) fun r44_ =>
 .s (Unit) (Unit) r44_
 (fun _ => .l true)
 (fun _ => .l false)
noncomputable def F_zcq (a1_ : Y1) (a2_ : List Y1) : Option (Bool) := (T_zcq a1_ a2_).ev
noncomputable def A_zcq : Sh := (.cons (.agg (.cons (.dat y1) (.cons (.dat y2) .nil))) .nil)
noncomputable def I_zcq : List (Nat × OSh) := []
noncomputable def K_zcq : RetK := { acts := [], res := [.tmp 2], sh := (.cons (.dat .bool) .nil), obs := [], pins := [] }
noncomputable def D_zcq : FD := ⟨A_zcq, I_zcq, [], Bool, fun x => F_zcq x.1.1.1 x.1.1.2.1, fun r => ([.dat .bool r], [])⟩
noncomputable def E_zcq : Env := envOf []
noncomputable def Z_zcq : Nat → Nat → List Nat := fun _ _ => []
noncomputable def O_zcq : List (Nat × LD) := [(6, DL_zcq_6), (4, DL_zcq_4), (2, DL_zcq_2), (0, DL_zcq_0)]
noncomputable def C_zcq : Code := (f159.body).getD .skip
noncomputable def T_zci (a1_ : Int) (a2_ : Int) : Tr (Int) :=
 .t (decide (a1_ < a2_))
 (.l a1_)
 (.l a2_)
noncomputable def F_zci (a1_ : Int) (a2_ : Int) : Option (Int) := (T_zci a1_ a2_).ev
noncomputable def A_zci : Sh := (.cons (.dat yi) (.cons (.dat yi) .nil))
noncomputable def I_zci : List (Nat × OSh) := []
noncomputable def K_zci : RetK := { acts := [], res := [.tmp 4], sh := (.cons (.dat yi) .nil), obs := [], pins := [] }
noncomputable def D_zci : FD := ⟨A_zci, I_zci, [], Int, fun x => F_zci x.1.1 x.1.2.1, fun r => ([.dat yi r], [])⟩
noncomputable def E_zci : Env := envOf []
noncomputable def Z_zci : Nat → Nat → List Nat := fun _ _ => []
noncomputable def O_zci : List (Nat × LD) := []
noncomputable def C_zci : Code := (f109.body).getD .skip
noncomputable def S_zco_8 (k : Int × (Int × (Int × Y1))) (v : Int × Y2) : Tr ((Int × Y2) ⊕ Y2) :=
 .t (decide (v.1 < ((List.length k.2.2.2 : Nat) : Int)))
 (.g (inR k.1 (List.length v.2)) <|
 .g (decide ((Int.toNat k.1) < List.length v.2)) <|
 .g (inR k.1 (List.length v.2)) <|
 .g (decide ((Int.toNat k.1) < List.length v.2)) <|
 .g (inR k.2.2.1 (List.length (List.getD v.2 (Int.toNat k.1) ([] : Y1)))) <|
 .g (decide ((Int.toNat k.2.2.1) < List.length (List.getD v.2 (Int.toNat k.1) ([] : Y1)))) <|
 .g (inR k.1 (List.length v.2)) <|
 .g (decide ((Int.toNat k.1) < List.length v.2)) <|
 .g (inR v.1 (List.length (List.getD v.2 (Int.toNat k.1) ([] : Y1)))) <|
 .g (decide ((Int.toNat v.1) < List.length (List.getD v.2 (Int.toNat k.1) ([] : Y1)))) <|
 .g (inR k.2.1 (List.length v.2)) <|
 .g (decide ((Int.toNat k.2.1) < List.length v.2)) <|
 .g (inR v.1 (List.length (List.getD v.2 (Int.toNat k.2.1) ([] : Y1)))) <|
 .g (decide ((Int.toNat v.1) < List.length (List.getD v.2 (Int.toNat k.2.1) ([] : Y1)))) <|
 .g (inR k.2.1 (List.length v.2)) <|
 .g (decide ((Int.toNat k.2.1) < List.length v.2)) <|
 .g (inR k.2.2.1 (List.length (List.getD v.2 (Int.toNat k.2.1) ([] : Y1)))) <|
 .g (decide ((Int.toNat k.2.2.1) < List.length (List.getD v.2 (Int.toNat k.2.1) ([] : Y1)))) <|
 .c (Int) (F_zci (List.getD (List.getD v.2 (Int.toNat k.1) ([] : Y1)) (Int.toNat k.2.2.1) (0 : Int)) (IntKind.wrap .i64 ((IntKind.wrap .i64 ((List.getD (List.getD v.2 (Int.toNat k.1) ([] : Y1)) (Int.toNat v.1) (0 : Int)) + (List.getD (List.getD v.2 (Int.toNat k.2.1) ([] : Y1)) (Int.toNat v.1) (0 : Int)))) + (List.getD (List.getD v.2 (Int.toNat k.2.1) ([] : Y1)) (Int.toNat k.2.2.1) (0 : Int))))) fun r23_ =>
 .g (inR k.2.2.1 (List.length (List.getD v.2 (Int.toNat k.1) ([] : Y1)))) <|
 .g (decide ((Int.toNat k.2.2.1) < List.length (List.getD v.2 (Int.toNat k.1) ([] : Y1)))) <|
 .l (.inl ((IntKind.wrap .i64 (v.1 + (1 : Int))), (List.set v.2 (Int.toNat k.1) (List.set (List.getD v.2 (Int.toNat k.1) ([] : Y1)) (Int.toNat k.2.2.1) r23_)))))
 (.l (.inr v.2))
noncomputable def L_zco_8 (k : Int × (Int × (Int × Y1))) (v : Int × Y2) : Option Y2 := iter (fun v => (S_zco_8 k v).ev) v
noncomputable def DL_zco_8 : LD := ⟨{ acts := [], S := { slots := [2, 3, 4, 5, 6, 7], sh := (.cons (.box 2 0) (.cons (.box 3 0) (.cons (.dat yi) (.cons (.dat yi) (.cons (.dat yi) (.cons (.dat yi) .nil)))))), obs := [(2, .cells (.cons .nilsl (.cons .nilsl .nil))), (3, .cells (.cons (.arr 577) (.cons (.arr 580) .nil))), (577, .arr 3 yi), (580, .rows 27 3 yi)] } }, [(8, { acts := [], S := { slots := [2, 3, 4, 5, 6], sh := (.cons (.box 2 0) (.cons (.box 3 0) (.cons (.dat yi) (.cons (.dat yi) (.cons (.dat yi) .nil))))), obs := [(2, .cells (.cons .nilsl (.cons .nilsl .nil))), (3, .cells (.cons (.arr 577) (.cons (.arr 580) .nil))), (577, .arr 3 yi), (580, .rows 27 3 yi)] } })], (yh [] .nil), Int × (Int × (Int × Y1)), Int × Y2, List Y1, fun k v => (((), ((), (k.1, (k.2.1, (k.2.2.1, (v.1, ())))))), (((), ((), ())), (((), ((), ())), (k.2.2.2, (v.2, ()))))), fun t => (t.1.2.2.1, (t.1.2.2.2.1, (t.1.2.2.2.2.1, t.2.2.2.1))), fun t => (t.1.2.2.2.2.2.1, t.2.2.2.2.1), S_zco_8, fun k r => .l (.exit 8 (mkSt ({ slots := [2, 3, 4, 5, 6], sh := (.cons (.box 2 0) (.cons (.box 3 0) (.cons (.dat yi) (.cons (.dat yi) (.cons (.dat yi) .nil))))), obs := [(2, .cells (.cons .nilsl (.cons .nilsl .nil))), (3, .cells (.cons (.arr 577) (.cons (.arr 580) .nil))), (577, .arr 3 yi), (580, .rows 27 3 yi)] }) (((), ((), (k.1, (k.2.1, (k.2.2.1, ()))))), (((), ((), ())), (((), ((), ())), (k.2.2.2, (r, ())))))))⟩
noncomputable def S_zco_6 (k : Int × (Int × Y1)) (v : Int × Y2) : Tr ((Int × Y2) ⊕ Y2) :=
 .t (decide (v.1 < ((List.length k.2.2 : Nat) : Int)))
 (.c Y2 (L_zco_8 (k.1, (k.2.1, (v.1, k.2.2))) ((0 : Int), v.2)) fun r29_ =>
 .l (.inl ((IntKind.wrap .i64 (v.1 + (1 : Int))), r29_)))
 (.l (.inr v.2))
noncomputable def L_zco_6 (k : Int × (Int × Y1)) (v : Int × Y2) : Option Y2 := iter (fun v => (S_zco_6 k v).ev) v
noncomputable def DL_zco_6 : LD := ⟨{ acts := [], S := { slots := [2, 3, 4, 5, 6], sh := (.cons (.box 2 0) (.cons (.box 3 0) (.cons (.dat yi) (.cons (.dat yi) (.cons (.dat yi) .nil))))), obs := [(2, .cells (.cons .nilsl (.cons .nilsl .nil))), (3, .cells (.cons (.arr 577) (.cons (.arr 580) .nil))), (577, .arr 3 yi), (580, .rows 27 3 yi)] } }, [(6, { acts := [], S := { slots := [2, 3, 4, 5], sh := (.cons (.box 2 0) (.cons (.box 3 0) (.cons (.dat yi) (.cons (.dat yi) .nil)))), obs := [(2, .cells (.cons .nilsl (.cons .nilsl .nil))), (3, .cells (.cons (.arr 577) (.cons (.arr 580) .nil))), (577, .arr 3 yi), (580, .rows 27 3 yi)] } })], (yh [] .nil), Int × (Int × Y1), Int × Y2, List Y1, fun k v => (((), ((), (k.1, (k.2.1, (v.1, ()))))), (((), ((), ())), (((), ((), ())), (k.2.2, (v.2, ()))))), fun t => (t.1.2.2.1, (t.1.2.2.2.1, t.2.2.2.1)), fun t => (t.1.2.2.2.2.1, t.2.2.2.2.1), S_zco_6, fun k r => .l (.exit 6 (mkSt ({ slots := [2, 3, 4, 5], sh := (.cons (.box 2 0) (.cons (.box 3 0) (.cons (.dat yi) (.cons (.dat yi) .nil)))), obs := [(2, .cells (.cons .nilsl (.cons .nilsl .nil))), (3, .cells (.cons (.arr 577) (.cons (.arr 580) .nil))), (577, .arr 3 yi), (580, .rows 27 3 yi)] }) (((), ((), (k.1, (k.2.1, ())))), (((), ((), ())), (((), ((), ())), (k.2.2, (r, ())))))))⟩
noncomputable def S_zco_4 (k : Int × Y1) (v : Int × Y2) : Tr ((Int × Y2) ⊕ Y2) :=
 .t (decide (v.1 < ((List.length v.2 : Nat) : Int)))
 (.c Y2 (L_zco_6 (k.1, (v.1, k.2)) ((0 : Int), v.2)) fun r34_ =>
 .l (.inl ((IntKind.wrap .i64 (v.1 + (1 : Int))), r34_)))
 (.l (.inr v.2))
noncomputable def L_zco_4 (k : Int × Y1) (v : Int × Y2) : Option Y2 := iter (fun v => (S_zco_4 k v).ev) v
noncomputable def DL_zco_4 : LD := ⟨{ acts := [], S := { slots := [2, 3, 4, 5], sh := (.cons (.box 2 0) (.cons (.box 3 0) (.cons (.dat yi) (.cons (.dat yi) .nil)))), obs := [(2, .cells (.cons .nilsl (.cons .nilsl .nil))), (3, .cells (.cons (.arr 577) (.cons (.arr 580) .nil))), (577, .arr 3 yi), (580, .rows 27 3 yi)] } }, [(4, { acts := [], S := { slots := [2, 3, 4], sh := (.cons (.box 2 0) (.cons (.box 3 0) (.cons (.dat yi) .nil))), obs := [(2, .cells (.cons .nilsl (.cons .nilsl .nil))), (3, .cells (.cons (.arr 577) (.cons (.arr 580) .nil))), (577, .arr 3 yi), (580, .rows 27 3 yi)] } })], (yh [] .nil), Int × Y1, Int × Y2, List Y1, fun k v => (((), ((), (k.1, (v.1, ())))), (((), ((), ())), (((), ((), ())), (k.2, (v.2, ()))))), fun t => (t.1.2.2.1, t.2.2.2.1), fun t => (t.1.2.2.2.1, t.2.2.2.2.1), S_zco_4, fun k r => .l (.exit 4 (mkSt ({ slots := [2, 3, 4], sh := (.cons (.box 2 0) (.cons (.box 3 0) (.cons (.dat yi) .nil))), obs := [(2, .cells (.cons .nilsl (.cons .nilsl .nil))), (3, .cells (.cons (.arr 577) (.cons (.arr 580) .nil))), (577, .arr 3 yi), (580, .rows 27 3 yi)] }) (((), ((), (k.1, ()))), (((), ((), ())), (((), ((), ())), (k.2, (r, ())))))))⟩
noncomputable def S_zco_2 (k : Y1) (v : Int × Y2) : Tr ((Int × Y2) ⊕ Y2) :=
 .t (decide (v.1 < ((List.length v.2 : Nat) : Int)))
 (.c Y2 (L_zco_4 (v.1, k) ((0 : Int), v.2)) fun r38_ =>
 .l (.inl ((IntKind.wrap .i64 (v.1 + (1 : Int))), r38_)))
 (.l (.inr v.2))
noncomputable def L_zco_2 (k : Y1) (v : Int × Y2) : Option Y2 := iter (fun v => (S_zco_2 k v).ev) v
noncomputable def DL_zco_2 : LD := ⟨{ acts := [], S := { slots := [2, 3, 4], sh := (.cons (.box 2 0) (.cons (.box 3 0) (.cons (.dat yi) .nil))), obs := [(2, .cells (.cons .nilsl (.cons .nilsl .nil))), (3, .cells (.cons (.arr 577) (.cons (.arr 580) .nil))), (577, .arr 3 yi), (580, .rows 27 3 yi)] } }, [(2, { acts := [], S := { slots := [2, 3], sh := (.cons (.box 2 0) (.cons (.box 3 0) .nil)), obs := [(2, .cells (.cons .nilsl (.cons .nilsl .nil))), (3, .cells (.cons (.arr 577) (.cons (.arr 580) .nil))), (577, .arr 3 yi), (580, .rows 27 3 yi)] } })], (yh [] .nil), Y1, Int × Y2, List Y1, fun k v => (((), ((), (v.1, ()))), (((), ((), ())), (((), ((), ())), (k, (v.2, ()))))), fun t => t.2.2.2.1, fun t => (t.1.2.2.1, t.2.2.2.2.1), S_zco_2, fun k r => .l (.exit 2 (mkSt ({ slots := [2, 3], sh := (.cons (.box 2 0) (.cons (.box 3 0) .nil)), obs := [(2, .cells (.cons .nilsl (.cons .nilsl .nil))), (3, .cells (.cons (.arr 577) (.cons (.arr 580) .nil))), (577, .arr 3 yi), (580, .rows 27 3 yi)] }) (((), ((), ())), (((), ((), ())), (((), ((), ())), (k, (r, ())))))))⟩
noncomputable def S_zco_0 (k : Y1) (v : List Y1) : Tr (Y2 ⊕ Y2) :=
 .c (Bool) (F_zcq k v) fun r4_ =>
 .t (!r4_)
 (.c Y2 (L_zco_2 k ((0 : Int), v)) fun r41_ =>
 .l (.inl r41_))
 (.l (.inr v))
noncomputable def L_zco_0 (k : Y1) (v : List Y1) : Option Y2 := iter (fun v => (S_zco_0 k v).ev) v
noncomputable def DL_zco_0 : LD := ⟨{ acts := [], S := { slots := [2, 3], sh := (.cons (.box 2 0) (.cons (.box 3 0) .nil)), obs := [(2, .cells (.cons .nilsl (.cons .nilsl .nil))), (3, .cells (.cons (.arr 577) (.cons (.arr 580) .nil))), (577, .arr 3 yi), (580, .rows 27 3 yi)] } }, [(0, { acts := [], S := { slots := [2, 3], sh := (.cons (.box 2 0) (.cons (.box 3 0) .nil)), obs := [(2, .cells (.cons .nilsl (.cons .nilsl .nil))), (3, .cells (.cons (.arr 577) (.cons (.arr 580) .nil))), (577, .arr 3 yi), (580, .rows 27 3 yi)] } })], (yh [] .nil), Y1, List Y1, List Y1, fun k v => (((), ((), ())), (((), ((), ())), (((), ((), ())), (k, (v, ()))))), fun t => t.2.2.2.1, fun t => t.2.2.2.2.1, S_zco_0, fun k r => .l (.exit 0 (mkSt ({ slots := [2, 3], sh := (.cons (.box 2 0) (.cons (.box 3 0) .nil)), obs := [(2, .cells (.cons .nilsl (.cons .nilsl .nil))), (3, .cells (.cons (.arr 577) (.cons (.arr 580) .nil))), (577, .arr 3 yi), (580, .rows 27 3 yi)] }) (((), ((), ())), (((), ((), ())), (((), ((), ())), (k, (r, ())))))))⟩
noncomputable def T_zco (a1_ : Y1) (a2_ : List Y1) : Tr (Y1 × Y2) :=
 .c (Y1 × Y2) (F_zcs a1_ a2_) fun r1_ =>
 .c Y2 (L_zco_0 r1_.1 r1_.2) fun r44_ =>
 .l (r1_.1, r44_)
noncomputable def F_zco (a1_ : Y1) (a2_ : List Y1) : Option (Y1 × Y2) := (T_zco a1_ a2_).ev
noncomputable def A_zco : Sh := (.cons (.agg (.cons (.dat y1) (.cons (.dat y2) .nil))) .nil)
noncomputable def I_zco : List (Nat × OSh) := []
noncomputable def K_zco : RetK := { acts := [.ren 577 1, .ren 580 4], res := [.cell 2 46], sh := (.cons (.agg (.cons (.arr 1) (.cons (.arr 4) .nil))) .nil), obs := [(1, .arr 3 yi), (4, .rows 27 3 yi)], pins := [] }
noncomputable def D_zco : FD := ⟨A_zco, I_zco, [], Y1 × Y2, fun x => F_zco x.1.1.1 x.1.1.2.1, fun r => ([.agg [.arr 1, .arr 4]], [(1, .arr 3 yi r.1), (4, .rows 27 3 yi r.2 none)])⟩
noncomputable def E_zco : Env := envOf [(158, D_zcs), (159, D_zcq), (109, D_zci)]
noncomputable def Z_zco : Nat → Nat → List Nat := fun _ _ => []
noncomputable def O_zco : List (Nat × LD) := [(8, DL_zco_8), (6, DL_zco_6), (4, DL_zco_4), (2, DL_zco_2), (0, DL_zco_0)]
noncomputable def C_zco : Code := (f134.body).getD .skip
noncomputable def T_zby (a4_ : Int) (a1_ : Y1) (a2_ : Int) (a3_ : Int) : Tr (Y1 × (Y2 × (Y1 × (Int × Int)))) :=
 .c (Int × (Y1 × (Int × Int))) (F_zcc (3 : Int) a1_ a2_ a3_) fun r1_ =>
 .t (r1_.1 == (0 : Int))
 (.c (Y1 × (Y2 × (Y1 × (Int × Int)))) (F_zcd a4_ r1_.2.1 r1_.2.2.1 r1_.2.2.2) fun r2_ =>
 .c (Y1 × (Y2 × (Y1 × (Int × Int)))) (F_zcf r2_.2.2.1 r2_.2.2.2.1 r2_.2.2.2.2 r2_.1 r2_.2.1) fun r3_ =>
 .l (r3_.1, (r3_.2.1, (r3_.2.2.1, (r3_.2.2.2.1, r3_.2.2.2.2)))))
 (.t (r1_.1 == (1 : Int))
 (.c (Y1 × (Y2 × (Y1 × (Int × Int)))) (F_zbz a4_ r1_.2.1 r1_.2.2.1 r1_.2.2.2) fun r4_ =>
 .c (Y1 × (Y2 × (Y1 × (Int × Int)))) (F_zcf r4_.2.2.1 r4_.2.2.2.1 r4_.2.2.2.2 r4_.1 r4_.2.1) fun r5_ =>
 .l (r5_.1, (r5_.2.1, (r5_.2.2.1, (r5_.2.2.2.1, r5_.2.2.2.2)))))
 (.c (Y1 × (Y2 × (Y1 × (Int × Int)))) (F_zcd a4_ r1_.2.1 r1_.2.2.1 r1_.2.2.2) fun r6_ =>
 .c (Y1 × Y2) (F_zco r6_.1 r6_.2.1) fun r7_ =>
 .c (Y1 × (Y2 × (Y1 × (Int × Int)))) (F_zcf r6_.2.2.1 r6_.2.2.2.1 r6_.2.2.2.2 r7_.1 r7_.2) fun r8_ =>
 .l (r8_.1, (r8_.2.1, (r8_.2.2.1, (r8_.2.2.2.1, r8_.2.2.2.2))))))
noncomputable def F_zby (a4_ : Int) (a1_ : Y1) (a2_ : Int) (a3_ : Int) : Option (Y1 × (Y2 × (Y1 × (Int × Int)))) := (T_zby a4_ a1_ a2_ a3_).ev
noncomputable def A_zby : Sh := (.cons (.box 64 0) (.cons (.dat yi) .nil))
noncomputable def I_zby : List (Nat × OSh) := [(64, .cells (.cons (.dat (.slice (.int .u8))) (.cons (.dat yi) (.cons (.dat (.int .u64)) .nil))))]
noncomputable def K_zby : RetK := { acts := [.ren 833 1, .ren 1281 1, .ren 1665 1, .ren 834 2, .ren 1282 2, .ren 1666 2], res := [.cell 4 46], sh := (.cons (.agg (.cons (.arr 1) (.cons (.arr 2) .nil))) .nil), obs := [(1, .arr 3 yi), (2, .rows 27 3 yi), (64, .cells (.cons (.dat (.slice (.int .u8))) (.cons (.dat yi) (.cons (.dat (.int .u64)) .nil))))], pins := [(0, 0, 64)] }
noncomputable def D_zby : FD := ⟨A_zby, I_zby, [.arg 0], Y1 × (Y2 × (Y1 × (Int × Int))), fun x => F_zby x.1.2.1 x.2.1.1 x.2.1.2.1 x.2.1.2.2.1, fun r => ([.agg [.arr 1, .arr 2]], [(1, .arr 3 yi r.1), (2, .rows 27 3 yi r.2.1 none), (64, .cells [.dat (.slice (.int .u8)) r.2.2.1, .dat yi r.2.2.2.1, .dat (.int .u64) r.2.2.2.2])])⟩
noncomputable def E_zby : Env := envOf [(66, D_zcc), (132, D_zcd), (131, D_zcf), (133, D_zbz), (134, D_zco)]
noncomputable def Z_zby : Nat → Nat → List Nat := fun _ _ => []
noncomputable def O_zby : List (Nat × LD) := []
noncomputable def C_zby : Code := (f95.body).getD .skip
noncomputable def T_zbx (a1_ : Y1) (a2_ : Int) (a3_ : Int) : Tr (Y1 × (Y2 × (Y1 × (Int × Int)))) :=
 .c (Y1 × (Y2 × (Y1 × (Int × Int)))) (F_zby (7 : Int) a1_ a2_ a3_) fun r1_ =>
 .l (r1_.1, (r1_.2.1, (r1_.2.2.1, (r1_.2.2.2.1, r1_.2.2.2.2))))
noncomputable def F_zbx (a1_ : Y1) (a2_ : Int) (a3_ : Int) : Option (Y1 × (Y2 × (Y1 × (Int × Int)))) := (T_zbx a1_ a2_ a3_).ev
noncomputable def A_zbx : Sh := (.cons (.box 64 0) .nil)
noncomputable def I_zbx : List (Nat × OSh) := [(64, .cells (.cons (.dat (.slice (.int .u8))) (.cons (.dat yi) (.cons (.dat (.int .u64)) .nil))))]
noncomputable def K_zbx : RetK := { acts := [.ren 257 1, .ren 258 3], res := [.cell 2 46], sh := (.cons (.agg (.cons (.arr 1) (.cons (.arr 3) .nil))) .nil), obs := [(1, .arr 3 yi), (3, .rows 27 3 yi), (64, .cells (.cons (.dat (.slice (.int .u8))) (.cons (.dat yi) (.cons (.dat (.int .u64)) .nil))))], pins := [(0, 0, 64)] }
noncomputable def D_zbx : FD := ⟨A_zbx, I_zbx, [.arg 0], Y1 × (Y2 × (Y1 × (Int × Int))), fun x => F_zbx x.2.1.1 x.2.1.2.1 x.2.1.2.2.1, fun r => ([.agg [.arr 1, .arr 3]], [(1, .arr 3 yi r.1), (3, .rows 27 3 yi r.2.1 none), (64, .cells [.dat (.slice (.int .u8)) r.2.2.1, .dat yi r.2.2.2.1, .dat (.int .u64) r.2.2.2.2])])⟩
noncomputable def E_zbx : Env := envOf [(95, D_zby)]
noncomputable def Z_zbx : Nat → Nat → List Nat := fun _ _ => []
noncomputable def O_zbx : List (Nat × LD) := []
noncomputable def C_zbx : Code := (f79.body).getD .skip
noncomputable def S_zcn_0 (k : Int × Int) (v : Int × Y1) : Tr ((Int × Y1) ⊕ Y1) :=
 .t (decide (v.1 < k.1))
 (.g (decide ((0 : Int) ≤ v.1)) <|
 .t ((IntKind.wrap .i64 (BitVec.toNat ((BitVec.ofInt (IntKind.bits .i64) (Int.fdiv k.2 (2 ^ (min (Int.toNat v.1) (IntKind.bits .i64))))) &&& (BitVec.ofInt (IntKind.bits .i64) (1 : Int))))) == (1 : Int))
 (.g (decide ((List.length v.2 + List.length ([v.1] : Y1)) * 8 ≤ 140737488355328)) <|
 .l (.inl ((IntKind.wrap .i64 (v.1 + (1 : Int))), (v.2 ++ ([v.1] : Y1)))))
 (.l (.inl ((IntKind.wrap .i64 (v.1 + (1 : Int))), v.2))))
 (.l (.inr v.2))
noncomputable def L_zcn_0 (k : Int × Int) (v : Int × Y1) : Option Y1 := iter (fun v => (S_zcn_0 k v).ev) v
noncomputable def DL_zcn_0 : LD := ⟨{ acts := [], S := { slots := [0, 1, 5, 6], sh := (.cons (.dat yi) (.cons (.dat yi) (.cons (.arr 7) (.cons (.dat yi) .nil)))), obs := [(7, .arr 3 yi)] } }, [(0, { acts := [], S := { slots := [5], sh := (.cons (.arr 7) .nil), obs := [(7, .arr 3 yi)] } })], (yh [] .nil), Int × (Int), Int × Y1, Y1, fun k v => ((k.1, (k.2, ((), (v.1, ())))), (v.2, ())), fun t => (t.1.1, t.1.2.1), fun t => (t.1.2.2.2.1, t.2.1), S_zcn_0, fun _ r => .l (.exit 0 (mkSt ({ slots := [5], sh := (.cons (.arr 7) .nil), obs := [(7, .arr 3 yi)] }) (((), ()), (r, ()))))⟩
noncomputable def T_zcn (a1_ : Int) (a2_ : Int) : Tr Y1 :=
 .c Y1 (L_zcn_0 (a1_, a2_) ((0 : Int), ([] : Y1))) fun r6_ =>
 .l r6_
noncomputable def F_zcn (a1_ : Int) (a2_ : Int) : Option Y1 := (T_zcn a1_ a2_).ev
noncomputable def A_zcn : Sh := (.cons (.dat yi) (.cons (.dat yi) .nil))
noncomputable def I_zcn : List (Nat × OSh) := []
noncomputable def K_zcn : RetK := { acts := [.ren 7 0], res := [.tmp 4], sh := (.cons (.arr 0) .nil), obs := [(0, .arr 3 yi)], pins := [] }
noncomputable def D_zcn : FD := ⟨A_zcn, I_zcn, [], Y1, fun x => F_zcn x.1.1 x.1.2.1, fun r => ([.arr 0], [(0, .arr 3 yi r)])⟩
noncomputable def E_zcn : Env := envOf []
noncomputable def Z_zcn : Nat → Nat → List Nat := fun _ _ => []
noncomputable def O_zcn : List (Nat × LD) := [(0, DL_zcn_0)]
noncomputable def C_zcn : Code := (f65.body).getD .skip
noncomputable def T_zcb (a4_ : Int) (a1_ : Y1) (a2_ : Int) (a3_ : Int) : Tr (Bool × (Y1 × (Int × Int))) :=
 .c (Int × (Y1 × (Int × Int))) (F_zcc a4_ a1_ a2_ a3_) fun r1_ =>
 .l ((r1_.1 == (0 : Int)), (r1_.2.1, (r1_.2.2.1, r1_.2.2.2)))
noncomputable def F_zcb (a4_ : Int) (a1_ : Y1) (a2_ : Int) (a3_ : Int) : Option (Bool × (Y1 × (Int × Int))) := (T_zcb a4_ a1_ a2_ a3_).ev
noncomputable def A_zcb : Sh := (.cons (.box 64 0) (.cons (.dat yi) .nil))
noncomputable def I_zcb : List (Nat × OSh) := [(64, .cells (.cons (.dat (.slice (.int .u8))) (.cons (.dat yi) (.cons (.dat (.int .u64)) .nil))))]
noncomputable def K_zcb : RetK := { acts := [], res := [.tmp 4], sh := (.cons (.dat .bool) .nil), obs := [(64, .cells (.cons (.dat (.slice (.int .u8))) (.cons (.dat yi) (.cons (.dat (.int .u64)) .nil))))], pins := [(0, 0, 64)] }
noncomputable def D_zcb : FD := ⟨A_zcb, I_zcb, [.arg 0], Bool × (Y1 × (Int × Int)), fun x => F_zcb x.1.2.1 x.2.1.1 x.2.1.2.1 x.2.1.2.2.1, fun r => ([.dat .bool r.1], [(64, .cells [.dat (.slice (.int .u8)) r.2.1, .dat yi r.2.2.1, .dat (.int .u64) r.2.2.2])])⟩
noncomputable def E_zcb : Env := envOf [(66, D_zcc)]
noncomputable def Z_zcb : Nat → Nat → List Nat := fun _ _ => []
noncomputable def O_zcb : List (Nat × LD) := []
noncomputable def C_zcb : Code := (f67.body).getD .skip
noncomputable def T_zce (a4_ : Y1) (_a5_ : List Y1) (a1_ : Y1) (a2_ : Int) (a3_ : Int) : Tr (Y1 × (Y1 × (Int × Int))) :=
 .c (Int) (F_zci ((List.length a4_ : Nat) : Int) (7 : Int)) fun r1_ =>
 .g (decide ((0 : Int) ≤ r1_)) <|
 .c (Int × (Y1 × (Int × Int))) (F_zcc (IntKind.wrap .i64 ((1 : Int) * 2 ^ (min (Int.toNat r1_) (IntKind.bits .i64)))) a1_ a2_ a3_) fun r2_ =>
 .c Y1 (F_zcn r1_ (IntKind.wrap .i64 ((1 : Int) + r2_.1))) fun r3_ =>
 .c (Bool × (Y1 × (Int × Int))) (F_zcb (20 : Int) r2_.2.1 r2_.2.2.1 r2_.2.2.2) fun r4_ =>
 .t r4_.1
 (.c (Int × (Y1 × (Int × Int))) (F_zbv ([(-1 : Int), (0 : Int), r1_] : Y1) r4_.2.1 r4_.2.2.1 r4_.2.2.2) fun r5_ =>
 .g (decide ((List.length r3_ + List.length ([r5_.1] : Y1)) * 8 ≤ 140737488355328)) <|
 .t (((List.length (r3_ ++ ([r5_.1] : Y1)) : Nat) : Int) == (0 : Int))
 (.t (decide ((0 : Int) < r1_))
 (.c (Bool × (Y1 × (Int × Int))) (F_zcb (6 : Int) r5_.2.1 r5_.2.2.1 r5_.2.2.2) fun r6_ =>
 .t (!r6_.1)
 (.c (Int × (Y1 × (Int × Int))) (F_zcc r1_ r6_.2.1 r6_.2.2.1 r6_.2.2.2) fun r7_ =>
 .l (([r7_.1] : Y1), (r7_.2.1, (r7_.2.2.1, r7_.2.2.2))))
 (.l ((r3_ ++ ([r5_.1] : Y1)), (r6_.2.1, (r6_.2.2.1, r6_.2.2.2)))))
 (.l ((r3_ ++ ([r5_.1] : Y1)), (r5_.2.1, (r5_.2.2.1, r5_.2.2.2)))))
 (.l ((r3_ ++ ([r5_.1] : Y1)), (r5_.2.1, (r5_.2.2.1, r5_.2.2.2)))))
 (.t (((List.length r3_ : Nat) : Int) == (0 : Int))
 (.t (decide ((0 : Int) < r1_))
 (.c (Bool × (Y1 × (Int × Int))) (F_zcb (6 : Int) r4_.2.1 r4_.2.2.1 r4_.2.2.2) fun r8_ =>
 .t (!r8_.1)
 (.c (Int × (Y1 × (Int × Int))) (F_zcc r1_ r8_.2.1 r8_.2.2.1 r8_.2.2.2) fun r9_ =>
 .l (([r9_.1] : Y1), (r9_.2.1, (r9_.2.2.1, r9_.2.2.2))))
 (.l (r3_, (r8_.2.1, (r8_.2.2.1, r8_.2.2.2)))))
 (.l (r3_, (r4_.2.1, (r4_.2.2.1, r4_.2.2.2)))))
 (.l (r3_, (r4_.2.1, (r4_.2.2.1, r4_.2.2.2)))))
noncomputable def F_zce (a4_ : Y1) (a5_ : List Y1) (a1_ : Y1) (a2_ : Int) (a3_ : Int) : Option (Y1 × (Y1 × (Int × Int))) := (T_zce a4_ a5_ a1_ a2_ a3_).ev
noncomputable def A_zce : Sh := (.cons (.box 64 0) (.cons (.agg (.cons (.dat y1) (.cons (.dat y2) .nil))) .nil))
noncomputable def I_zce : List (Nat × OSh) := [(64, .cells (.cons (.dat (.slice (.int .u8))) (.cons (.dat yi) (.cons (.dat (.int .u64)) .nil))))]
noncomputable def K_zce : RetK := { acts := [.ren 42 0, .ren 1088 0], res := [.tmp 4], sh := (.cons (.arr 0) .nil), obs := [(0, .arr 3 yi), (64, .cells (.cons (.dat (.slice (.int .u8))) (.cons (.dat yi) (.cons (.dat (.int .u64)) .nil))))], pins := [(0, 0, 64)] }
noncomputable def D_zce : FD := ⟨A_zce, I_zce, [.arg 0], Y1 × (Y1 × (Int × Int)), fun x => F_zce x.1.2.1.1 x.1.2.1.2.1 x.2.1.1 x.2.1.2.1 x.2.1.2.2.1, fun r => ([.arr 0], [(0, .arr 3 yi r.1), (64, .cells [.dat (.slice (.int .u8)) r.2.1, .dat yi r.2.2.1, .dat (.int .u64) r.2.2.2])])⟩
noncomputable def E_zce : Env := envOf [(109, D_zci), (66, D_zcc), (65, D_zcn), (67, D_zcb), (47, D_zbv)]
noncomputable def Z_zce : Nat → Nat → List Nat := fun r i => match look [(4, [(4, [23])])] r with
 | some l => (look l i).getD []
 | none => []
noncomputable def O_zce : List (Nat × LD) := []
noncomputable def C_zce : Code := (f80.body).getD .skip
noncomputable def S_zcg_0 (k : Int × (Y1 × Y2)) (v : Int × (Y1 × (Int × (Int × Y1)))) : Tr ((Int × (Y1 × (Int × (Int × Y1)))) ⊕ (Y1 × (Int × (Int × Y1)))) :=
 .t (decide (v.1 < ((List.length k.2.2 : Nat) : Int)))
 (.t (k.1 == (0 : Int))
 (.g (decide ((List.length v.2.2.2.2 + List.length ([(1 : Int)] : Y1)) * 8 ≤ 140737488355328)) <|
 .l (.inl ((IntKind.wrap .i64 (v.1 + (1 : Int))), (v.2.1, (v.2.2.1, (v.2.2.2.1, (v.2.2.2.2 ++ ([(1 : Int)] : Y1))))))))
 (.t (k.1 == (1 : Int))
 (.g (decide ((List.length v.2.2.2.2 + List.length ([(0 : Int)] : Y1)) * 8 ≤ 140737488355328)) <|
 .l (.inl ((IntKind.wrap .i64 (v.1 + (1 : Int))), (v.2.1, (v.2.2.1, (v.2.2.2.1, (v.2.2.2.2 ++ ([(0 : Int)] : Y1))))))))
 (.c (Int × (Y1 × (Int × Int))) (F_zbv ([(0 : Int), (1 : Int), (2 : Int), (5 : Int), (99 : Int)] : Y1) v.2.1 v.2.2.1 v.2.2.2.1) fun r10_ =>
 .g (decide ((List.length v.2.2.2.2 + List.length ([r10_.1] : Y1)) * 8 ≤ 140737488355328)) <|
 .l (.inl ((IntKind.wrap .i64 (v.1 + (1 : Int))), (r10_.2.1, (r10_.2.2.1, (r10_.2.2.2, (v.2.2.2.2 ++ ([r10_.1] : Y1))))))))))
 (.l (.inr (v.2.1, (v.2.2.1, (v.2.2.2.1, v.2.2.2.2)))))
noncomputable def L_zcg_0 (k : Int × (Y1 × Y2)) (v : Int × (Y1 × (Int × (Int × Y1)))) : Option (Y1 × (Int × (Int × Y1))) := iter (fun v => (S_zcg_0 k v).ev) v
noncomputable def DL_zcg_0 : LD := ⟨{ acts := [], S := { slots := [0, 3, 5, 6, 7], sh := (.cons (.box 64 0) (.cons (.box 3 0) (.cons (.arr 8) (.cons (.dat yi) (.cons (.dat yi) .nil))))), obs := [(64, .cells (.cons (.dat (.slice (.int .u8))) (.cons (.dat yi) (.cons (.dat (.int .u64)) .nil)))), (3, .cells (.cons (.dat y1) (.cons (.dat y2) .nil))), (8, .arr 3 yi)] } }, [(0, { acts := [], S := { slots := [0, 5, 6], sh := (.cons (.box 64 0) (.cons (.arr 8) (.cons (.dat yi) .nil))), obs := [(64, .cells (.cons (.dat (.slice (.int .u8))) (.cons (.dat yi) (.cons (.dat (.int .u64)) .nil)))), (8, .arr 3 yi)] } })], (yh [] .nil), Int × (Y1 × Y2), Int × (Y1 × (Int × (Int × Y1))), Y1 × (Int × (Int × Y1)), fun k v => (((), ((), ((), (k.1, (v.1, ()))))), ((v.2.1, (v.2.2.1, (v.2.2.2.1, ()))), ((k.2.1, (k.2.2, ())), (v.2.2.2.2, ())))), fun t => (t.1.2.2.2.1, (t.2.2.1.1, t.2.2.1.2.1)), fun t => (t.1.2.2.2.2.1, (t.2.1.1, (t.2.1.2.1, (t.2.1.2.2.1, t.2.2.2.1)))), S_zcg_0, fun k r => .l (.exit 0 (mkSt ({ slots := [0, 5, 6], sh := (.cons (.box 64 0) (.cons (.arr 8) (.cons (.dat yi) .nil))), obs := [(64, .cells (.cons (.dat (.slice (.int .u8))) (.cons (.dat yi) (.cons (.dat (.int .u64)) .nil)))), (8, .arr 3 yi)] }) (((), ((), (k.1, ()))), ((r.1, (r.2.1, (r.2.2.1, ()))), (r.2.2.2, ())))))⟩
noncomputable def T_zcg (a4_ : Y1) (a5_ : List Y1) (a1_ : Y1) (a2_ : Int) (a3_ : Int) : Tr (Y1 × (Y1 × (Int × Int))) :=
 .c (Int × (Y1 × (Int × Int))) (F_zcc (4 : Int) a1_ a2_ a3_) fun r1_ =>
 .c (Y1 × (Int × (Int × Y1))) (L_zcg_0 (r1_.1, (a4_, a5_)) ((0 : Int), (r1_.2.1, (r1_.2.2.1, (r1_.2.2.2, ([] : Y1)))))) fun r16_ =>
 .t (r1_.1 == (1 : Int))
 (.t (decide ((0 : Int) < ((List.length r16_.2.2.2 : Nat) : Int)))
 (.g (inR (IntKind.wrap .i64 (((List.length r16_.2.2.2 : Nat) : Int) - (1 : Int))) (List.length r16_.2.2.2)) <|
 .g (decide ((Int.toNat (IntKind.wrap .i64 (((List.length r16_.2.2.2 : Nat) : Int) - (1 : Int)))) < List.length r16_.2.2.2)) <|
 .c (Bool × (Y1 × (Int × Int))) (F_zcb (24 : Int) r16_.1 r16_.2.1 r16_.2.2.1) fun r17_ =>
 .t r17_.1
 (.c (Int × (Y1 × (Int × Int))) (F_zbv ([(1 : Int), (-1 : Int), (100 : Int)] : Y1) r17_.2.1 r17_.2.2.1 r17_.2.2.2) fun r18_ =>
 .g (decide ((List.length (List.set r16_.2.2.2 (Int.toNat (IntKind.wrap .i64 (((List.length r16_.2.2.2 : Nat) : Int) - (1 : Int)))) (1 : Int)) + List.length ([r18_.1] : Y1)) * 8 ≤ 140737488355328)) <|
 .t (decide ((0 : Int) < ((List.length ((List.set r16_.2.2.2 (Int.toNat (IntKind.wrap .i64 (((List.length r16_.2.2.2 : Nat) : Int) - (1 : Int)))) (1 : Int)) ++ ([r18_.1] : Y1)) : Nat) : Int)))
 (.c (Bool × (Y1 × (Int × Int))) (F_zcb (24 : Int) r18_.2.1 r18_.2.2.1 r18_.2.2.2) fun r19_ =>
 .t r19_.1
 (.c (Int × (Y1 × (Int × Int))) (F_zcc ((List.length ((List.set r16_.2.2.2 (Int.toNat (IntKind.wrap .i64 (((List.length r16_.2.2.2 : Nat) : Int) - (1 : Int)))) (1 : Int)) ++ ([r18_.1] : Y1)) : Nat) : Int) r19_.2.1 r19_.2.2.1 r19_.2.2.2) fun r20_ =>
 .c (Int × (Y1 × (Int × Int))) (F_zbv ([(-1 : Int), (100 : Int)] : Y1) r20_.2.1 r20_.2.2.1 r20_.2.2.2) fun r21_ =>
 .g (inR r20_.1 (List.length ((List.set r16_.2.2.2 (Int.toNat (IntKind.wrap .i64 (((List.length r16_.2.2.2 : Nat) : Int) - (1 : Int)))) (1 : Int)) ++ ([r18_.1] : Y1)))) <|
 .g (decide ((Int.toNat r20_.1) < List.length ((List.set r16_.2.2.2 (Int.toNat (IntKind.wrap .i64 (((List.length r16_.2.2.2 : Nat) : Int) - (1 : Int)))) (1 : Int)) ++ ([r18_.1] : Y1)))) <|
 .l ((List.set ((List.set r16_.2.2.2 (Int.toNat (IntKind.wrap .i64 (((List.length r16_.2.2.2 : Nat) : Int) - (1 : Int)))) (1 : Int)) ++ ([r18_.1] : Y1)) (Int.toNat r20_.1) r21_.1), (r21_.2.1, (r21_.2.2.1, r21_.2.2.2))))
 (.l (((List.set r16_.2.2.2 (Int.toNat (IntKind.wrap .i64 (((List.length r16_.2.2.2 : Nat) : Int) - (1 : Int)))) (1 : Int)) ++ ([r18_.1] : Y1)), (r19_.2.1, (r19_.2.2.1, r19_.2.2.2)))))
 (.l (((List.set r16_.2.2.2 (Int.toNat (IntKind.wrap .i64 (((List.length r16_.2.2.2 : Nat) : Int) - (1 : Int)))) (1 : Int)) ++ ([r18_.1] : Y1)), (r18_.2.1, (r18_.2.2.1, r18_.2.2.2)))))
 (.t (decide ((0 : Int) < ((List.length (List.set r16_.2.2.2 (Int.toNat (IntKind.wrap .i64 (((List.length r16_.2.2.2 : Nat) : Int) - (1 : Int)))) (1 : Int)) : Nat) : Int)))
 (.c (Bool × (Y1 × (Int × Int))) (F_zcb (24 : Int) r17_.2.1 r17_.2.2.1 r17_.2.2.2) fun r22_ =>
 .t r22_.1
 (.c (Int × (Y1 × (Int × Int))) (F_zcc ((List.length (List.set r16_.2.2.2 (Int.toNat (IntKind.wrap .i64 (((List.length r16_.2.2.2 : Nat) : Int) - (1 : Int)))) (1 : Int)) : Nat) : Int) r22_.2.1 r22_.2.2.1 r22_.2.2.2) fun r23_ =>
 .c (Int × (Y1 × (Int × Int))) (F_zbv ([(-1 : Int), (100 : Int)] : Y1) r23_.2.1 r23_.2.2.1 r23_.2.2.2) fun r24_ =>
 .g (inR r23_.1 (List.length (List.set r16_.2.2.2 (Int.toNat (IntKind.wrap .i64 (((List.length r16_.2.2.2 : Nat) : Int) - (1 : Int)))) (1 : Int)))) <|
 .g (decide ((Int.toNat r23_.1) < List.length (List.set r16_.2.2.2 (Int.toNat (IntKind.wrap .i64 (((List.length r16_.2.2.2 : Nat) : Int) - (1 : Int)))) (1 : Int)))) <|
 .l ((List.set (List.set r16_.2.2.2 (Int.toNat (IntKind.wrap .i64 (((List.length r16_.2.2.2 : Nat) : Int) - (1 : Int)))) (1 : Int)) (Int.toNat r23_.1) r24_.1), (r24_.2.1, (r24_.2.2.1, r24_.2.2.2))))
 (.l ((List.set r16_.2.2.2 (Int.toNat (IntKind.wrap .i64 (((List.length r16_.2.2.2 : Nat) : Int) - (1 : Int)))) (1 : Int)), (r22_.2.1, (r22_.2.2.1, r22_.2.2.2)))))
 (.l ((List.set r16_.2.2.2 (Int.toNat (IntKind.wrap .i64 (((List.length r16_.2.2.2 : Nat) : Int) - (1 : Int)))) (1 : Int)), (r17_.2.1, (r17_.2.2.1, r17_.2.2.2))))))
 (.c (Bool × (Y1 × (Int × Int))) (F_zcb (24 : Int) r16_.1 r16_.2.1 r16_.2.2.1) fun r25_ =>
 .t r25_.1
 (.c (Int × (Y1 × (Int × Int))) (F_zbv ([(1 : Int), (-1 : Int), (100 : Int)] : Y1) r25_.2.1 r25_.2.2.1 r25_.2.2.2) fun r26_ =>
 .g (decide ((List.length r16_.2.2.2 + List.length ([r26_.1] : Y1)) * 8 ≤ 140737488355328)) <|
 .t (decide ((0 : Int) < ((List.length (r16_.2.2.2 ++ ([r26_.1] : Y1)) : Nat) : Int)))
 (.c (Bool × (Y1 × (Int × Int))) (F_zcb (24 : Int) r26_.2.1 r26_.2.2.1 r26_.2.2.2) fun r27_ =>
 .t r27_.1
 (.c (Int × (Y1 × (Int × Int))) (F_zcc ((List.length (r16_.2.2.2 ++ ([r26_.1] : Y1)) : Nat) : Int) r27_.2.1 r27_.2.2.1 r27_.2.2.2) fun r28_ =>
 .c (Int × (Y1 × (Int × Int))) (F_zbv ([(-1 : Int), (100 : Int)] : Y1) r28_.2.1 r28_.2.2.1 r28_.2.2.2) fun r29_ =>
 .g (inR r28_.1 (List.length (r16_.2.2.2 ++ ([r26_.1] : Y1)))) <|
 .g (decide ((Int.toNat r28_.1) < List.length (r16_.2.2.2 ++ ([r26_.1] : Y1)))) <|
 .l ((List.set (r16_.2.2.2 ++ ([r26_.1] : Y1)) (Int.toNat r28_.1) r29_.1), (r29_.2.1, (r29_.2.2.1, r29_.2.2.2))))
 (.l ((r16_.2.2.2 ++ ([r26_.1] : Y1)), (r27_.2.1, (r27_.2.2.1, r27_.2.2.2)))))
 (.l ((r16_.2.2.2 ++ ([r26_.1] : Y1)), (r26_.2.1, (r26_.2.2.1, r26_.2.2.2)))))
 (.t (decide ((0 : Int) < ((List.length r16_.2.2.2 : Nat) : Int)))
 (.c (Bool × (Y1 × (Int × Int))) (F_zcb (24 : Int) r25_.2.1 r25_.2.2.1 r25_.2.2.2) fun r30_ =>
 .t r30_.1
 (.c (Int × (Y1 × (Int × Int))) (F_zcc ((List.length r16_.2.2.2 : Nat) : Int) r30_.2.1 r30_.2.2.1 r30_.2.2.2) fun r31_ =>
 .c (Int × (Y1 × (Int × Int))) (F_zbv ([(-1 : Int), (100 : Int)] : Y1) r31_.2.1 r31_.2.2.1 r31_.2.2.2) fun r32_ =>
 .g (inR r31_.1 (List.length r16_.2.2.2)) <|
 .g (decide ((Int.toNat r31_.1) < List.length r16_.2.2.2)) <|
 .l ((List.set r16_.2.2.2 (Int.toNat r31_.1) r32_.1), (r32_.2.1, (r32_.2.2.1, r32_.2.2.2))))
 (.l (r16_.2.2.2, (r30_.2.1, (r30_.2.2.1, r30_.2.2.2)))))
 (.l (r16_.2.2.2, (r25_.2.1, (r25_.2.2.1, r25_.2.2.2)))))))
 (.c (Bool × (Y1 × (Int × Int))) (F_zcb (24 : Int) r16_.1 r16_.2.1 r16_.2.2.1) fun r33_ =>
 .t r33_.1
 (.c (Int × (Y1 × (Int × Int))) (F_zbv ([(1 : Int), (-1 : Int), (100 : Int)] : Y1) r33_.2.1 r33_.2.2.1 r33_.2.2.2) fun r34_ =>
 .g (decide ((List.length r16_.2.2.2 + List.length ([r34_.1] : Y1)) * 8 ≤ 140737488355328)) <|
 .t (decide ((0 : Int) < ((List.length (r16_.2.2.2 ++ ([r34_.1] : Y1)) : Nat) : Int)))
 (.c (Bool × (Y1 × (Int × Int))) (F_zcb (24 : Int) r34_.2.1 r34_.2.2.1 r34_.2.2.2) fun r35_ =>
 .t r35_.1
 (.c (Int × (Y1 × (Int × Int))) (F_zcc ((List.length (r16_.2.2.2 ++ ([r34_.1] : Y1)) : Nat) : Int) r35_.2.1 r35_.2.2.1 r35_.2.2.2) fun r36_ =>
 .c (Int × (Y1 × (Int × Int))) (F_zbv ([(-1 : Int), (100 : Int)] : Y1) r36_.2.1 r36_.2.2.1 r36_.2.2.2) fun r37_ =>
 .g (inR r36_.1 (List.length (r16_.2.2.2 ++ ([r34_.1] : Y1)))) <|
 .g (decide ((Int.toNat r36_.1) < List.length (r16_.2.2.2 ++ ([r34_.1] : Y1)))) <|
 .l ((List.set (r16_.2.2.2 ++ ([r34_.1] : Y1)) (Int.toNat r36_.1) r37_.1), (r37_.2.1, (r37_.2.2.1, r37_.2.2.2))))
 (.l ((r16_.2.2.2 ++ ([r34_.1] : Y1)), (r35_.2.1, (r35_.2.2.1, r35_.2.2.2)))))
 (.l ((r16_.2.2.2 ++ ([r34_.1] : Y1)), (r34_.2.1, (r34_.2.2.1, r34_.2.2.2)))))
 (.t (decide ((0 : Int) < ((List.length r16_.2.2.2 : Nat) : Int)))
 (.c (Bool × (Y1 × (Int × Int))) (F_zcb (24 : Int) r33_.2.1 r33_.2.2.1 r33_.2.2.2) fun r38_ =>
 .t r38_.1
 (.c (Int × (Y1 × (Int × Int))) (F_zcc ((List.length r16_.2.2.2 : Nat) : Int) r38_.2.1 r38_.2.2.1 r38_.2.2.2) fun r39_ =>
 .c (Int × (Y1 × (Int × Int))) (F_zbv ([(-1 : Int), (100 : Int)] : Y1) r39_.2.1 r39_.2.2.1 r39_.2.2.2) fun r40_ =>
 .g (inR r39_.1 (List.length r16_.2.2.2)) <|
 .g (decide ((Int.toNat r39_.1) < List.length r16_.2.2.2)) <|
 .l ((List.set r16_.2.2.2 (Int.toNat r39_.1) r40_.1), (r40_.2.1, (r40_.2.2.1, r40_.2.2.2))))
 (.l (r16_.2.2.2, (r38_.2.1, (r38_.2.2.1, r38_.2.2.2)))))
 (.l (r16_.2.2.2, (r33_.2.1, (r33_.2.2.1, r33_.2.2.2))))))
noncomputable def F_zcg (a4_ : Y1) (a5_ : List Y1) (a1_ : Y1) (a2_ : Int) (a3_ : Int) : Option (Y1 × (Y1 × (Int × Int))) := (T_zcg a4_ a5_ a1_ a2_ a3_).ev
noncomputable def A_zcg : Sh := (.cons (.box 64 0) (.cons (.agg (.cons (.dat y1) (.cons (.dat y2) .nil))) .nil))
noncomputable def I_zcg : List (Nat × OSh) := [(64, .cells (.cons (.dat (.slice (.int .u8))) (.cons (.dat yi) (.cons (.dat (.int .u64)) .nil))))]
noncomputable def K_zcg : RetK := { acts := [.ren 8 0], res := [.tmp 4], sh := (.cons (.arr 0) .nil), obs := [(0, .arr 3 yi), (64, .cells (.cons (.dat (.slice (.int .u8))) (.cons (.dat yi) (.cons (.dat (.int .u64)) .nil))))], pins := [(0, 0, 64)] }
noncomputable def D_zcg : FD := ⟨A_zcg, I_zcg, [.arg 0], Y1 × (Y1 × (Int × Int)), fun x => F_zcg x.1.2.1.1 x.1.2.1.2.1 x.2.1.1 x.2.1.2.1 x.2.1.2.2.1, fun r => ([.arr 0], [(0, .arr 3 yi r.1), (64, .cells [.dat (.slice (.int .u8)) r.2.1, .dat yi r.2.2.1, .dat (.int .u64) r.2.2.2])])⟩
noncomputable def E_zcg : Env := envOf [(66, D_zcc), (47, D_zbv), (67, D_zcb)]
noncomputable def Z_zcg : Nat → Nat → List Nat := fun r i => match look [(6, [(3, [21])]), (14, [(3, [51])]), (16, [(7, [68])])] r with
 | some l => (look l i).getD []
 | none => []
noncomputable def O_zcg : List (Nat × LD) := [(0, DL_zcg_0)]
noncomputable def C_zcg : Code := (f81.body).getD .skip
noncomputable def T_zbr (a1_ : Y1) : Tr (Y1 × (Y2 × (Y1 × Y1))) :=
 .c (Y1 × (Y2 × (Y1 × (Int × Int)))) (F_zbx a1_ (0 : Int) (0 : Int)) fun r1_ =>
 .c (Y1 × (Y1 × (Int × Int))) (F_zce r1_.1 r1_.2.1 r1_.2.2.1 r1_.2.2.2.1 r1_.2.2.2.2) fun r2_ =>
 .c (Y1 × (Y1 × (Int × Int))) (F_zcg r1_.1 r1_.2.1 r2_.2.1 r2_.2.2.1 r2_.2.2.2) fun r3_ =>
 .l (r1_.1, (r1_.2.1, (r2_.1, r3_.1)))
noncomputable def F_zbr (a1_ : Y1) : Option (Y1 × (Y2 × (Y1 × Y1))) := (T_zbr a1_).ev
noncomputable def A_zbr : Sh := (.cons (.dat (.slice (.int .u8))) .nil)
noncomputable def I_zbr : List (Nat × OSh) := []
noncomputable def K_zbr : RetK := { acts := [.ren 960 1, .ren 1152 3], res := [.cell 2 46, .tmp 3, .tmp 4], sh := (.cons (.agg (.cons (.dat y1) (.cons (.dat y2) .nil))) (.cons (.arr 1) (.cons (.arr 3) .nil))), obs := [(1, .arr 3 yi), (3, .arr 3 yi)], pins := [] }
noncomputable def D_zbr : FD := ⟨A_zbr, I_zbr, [], Y1 × (Y2 × (Y1 × Y1)), fun x => F_zbr x.1.1, fun r => ([.agg [.dat y1 r.1, .dat y2 r.2.1], .arr 1, .arr 3], [(1, .arr 3 yi r.2.2.1), (3, .arr 3 yi r.2.2.2)])⟩
noncomputable def E_zbr : Env := envOf [(79, D_zbx), (80, D_zce), (81, D_zcg)]
noncomputable def Z_zbr : Nat → Nat → List Nat := fun r i => match look [(3, [(0, [70000705, 70000707])])] r with
 | some l => (look l i).getD []
 | none => []
noncomputable def O_zbr : List (Nat × LD) := []
noncomputable def C_zbr : Code := (f26.body).getD .skip
noncomputable def T_zaa (a1_ : Int) (a2_ : Int) (a3_ : Int) : Tr (Bool) :=
 .t (decide (a2_ ≤ a1_))
 (.l (decide (a1_ ≤ a3_)))
 (.l false)
noncomputable def F_zaa (a1_ : Int) (a2_ : Int) (a3_ : Int) : Option (Bool) := (T_zaa a1_ a2_ a3_).ev
noncomputable def A_zaa : Sh := (.cons (.dat yi) (.cons (.dat yi) (.cons (.dat yi) .nil)))
noncomputable def I_zaa : List (Nat × OSh) := []
noncomputable def K_zaa : RetK := { acts := [], res := [.tmp 6], sh := (.cons (.dat .bool) .nil), obs := [], pins := [] }
noncomputable def D_zaa : FD := ⟨A_zaa, I_zaa, [], Bool, fun x => F_zaa x.1.1 x.1.2.1 x.1.2.2.1, fun r => ([.dat .bool r], [])⟩
noncomputable def E_zaa : Env := envOf []
noncomputable def Z_zaa : Nat → Nat → List Nat := fun _ _ => []
noncomputable def O_zaa : List (Nat × LD) := []
noncomputable def C_zaa : Code := (f48.body).getD .skip
noncomputable def S_zau_0 (k : Y1 × (((HL [yi] → Option (Bool))) × Int)) (v : Int) : Tr ((Int) ⊕ ((Unit) ⊕ (Int))) :=
 .t (decide (v < k.2.2))
 (.g (inR v (List.length k.1)) <|
 .c (Bool) (k.2.1 ((List.getD k.1 (Int.toNat v) (0 : Int)), ())) fun r5_ =>
 .t r5_
 (.l (.inr (.inr v)))
 (.l (.inl (IntKind.wrap .i64 (v + (1 : Int))))))
 (.l (.inr (.inl ())))
noncomputable def L_zau_0 (k : Y1 × (((HL [yi] → Option (Bool))) × Int)) (v : Int) : Option ((Unit) ⊕ (Int)) := iter (fun v => (S_zau_0 k v).ev) v
noncomputable def DL_zau_0 : LD := ⟨(yh [0, 1, 7, 8] (.cons (.dat y1) (.cons (.clo [yi] .bool) (.cons (.dat yi) (.cons (.dat yi) .nil))))), [(0, (yh [] .nil))], (yh [4] (.cons (.dat yi) .nil)), Y1 × (((HL [yi] → Option (Bool))) × Int), Int, (Unit) ⊕ (Int), fun k v => ((k.1, (k.2.1, (k.2.2, (v, ())))), ()), fun t => (t.1.1, (t.1.2.1, t.1.2.2.1)), fun t => t.1.2.2.2.1, S_zau_0, fun _ r => .s (Unit) (Int) r (fun _ => .l (.exit 0 (mkSt ((ys [] .nil)) ((), ())))) (fun b => .l (.ret (mkSt ((ys [4] (.cons (.dat yi) .nil))) ((b, ()), ()))))⟩
noncomputable def T_zau (a1_ : Y1) (a2_ : (HL [yi] → Option (Bool))) : Tr (Int) :=
 .c ((Unit) ⊕ (Int)) (L_zau_0 (a1_, (a2_, ((List.length a1_ : Nat) : Int))) (0 : Int)) fun r7_ =>
 .s (Unit) (Int) r7_
 (fun _ => .l (-1 : Int))
 (fun r9_ => .l r9_)
noncomputable def F_zau (a1_ : Y1) (a2_ : (HL [yi] → Option (Bool))) : Option (Int) := (T_zau a1_ a2_).ev
noncomputable def A_zau : Sh := (.cons (.dat y1) (.cons (.clo [yi] .bool) .nil))
noncomputable def I_zau : List (Nat × OSh) := []
noncomputable def K_zau : RetK := { acts := [], res := [.tmp 4], sh := (.cons (.dat yi) .nil), obs := [], pins := [] }
noncomputable def D_zau : FD := ⟨A_zau, I_zau, [], Int, fun x => F_zau x.1.1 x.1.2.1, fun r => ([.dat yi r], [])⟩
noncomputable def E_zau : Env := envOf []
noncomputable def Z_zau : Nat → Nat → List Nat := fun _ _ => []
noncomputable def O_zau : List (Nat × LD) := [(0, DL_zau_0)]
noncomputable def C_zau : Code := (f119.body).getD .skip
noncomputable def T_zar (a1_ : Y1) (a2_ : (HL [yi] → Option (Bool))) : Tr (Bool) :=
 .c (Int) (F_zau a1_ a2_) fun r1_ =>
 .l (decide ((0 : Int) ≤ r1_))
noncomputable def F_zar (a1_ : Y1) (a2_ : (HL [yi] → Option (Bool))) : Option (Bool) := (T_zar a1_ a2_).ev
noncomputable def A_zar : Sh := (.cons (.dat y1) (.cons (.clo [yi] .bool) .nil))
noncomputable def I_zar : List (Nat × OSh) := []
noncomputable def K_zar : RetK := { acts := [], res := [.tmp 4], sh := (.cons (.dat .bool) .nil), obs := [], pins := [] }
noncomputable def D_zar : FD := ⟨A_zar, I_zar, [], Bool, fun x => F_zar x.1.1 x.1.2.1, fun r => ([.dat .bool r], [])⟩
noncomputable def E_zar : Env := envOf [(119, D_zau)]
noncomputable def Z_zar : Nat → Nat → List Nat := fun _ _ => []
noncomputable def O_zar : List (Nat × LD) := []
noncomputable def C_zar : Code := (f72.body).getD .skip
noncomputable def T_zx (a1_ : Int) (a2_ : Int) (a3_ : Int) : Tr (Bool) :=
 .c (Bool) (F_zaa a1_ a2_ a3_) fun r1_ =>
 .l (!r1_)
noncomputable def F_zx (a1_ : Int) (a2_ : Int) (a3_ : Int) : Option (Bool) := (T_zx a1_ a2_ a3_).ev
noncomputable def A_zx : Sh := (.cons (.dat yi) (.cons (.ptr (.cons (.dat yi) .nil)) (.cons (.ptr (.cons (.dat yi) .nil)) .nil)))
noncomputable def I_zx : List (Nat × OSh) := []
noncomputable def K_zx : RetK := { acts := [], res := [.tmp 4], sh := (.cons (.dat .bool) .nil), obs := [], pins := [] }
noncomputable def D_zx : FD := ⟨A_zx, I_zx, [], Bool, fun x => F_zx x.1.1 x.1.2.1.1 x.1.2.2.1.1, fun r => ([.dat .bool r], [])⟩
noncomputable def E_zx : Env := envOf [(48, D_zaa)]
noncomputable def Z_zx : Nat → Nat → List Nat := fun _ _ => []
noncomputable def O_zx : List (Nat × LD) := []
noncomputable def C_zx : Code := (f114.body).getD .skip
noncomputable def T_zw (a1_ : Y1) (a2_ : Int) (a3_ : Int) : Tr (Bool) :=
 .c (Bool) (F_zar a1_ (fun h1_ => Option.bind (F_zx h1_.1 a2_ a3_) fun y2_ => some y2_)) fun r3_ =>
 .l (!r3_)
noncomputable def F_zw (a1_ : Y1) (a2_ : Int) (a3_ : Int) : Option (Bool) := (T_zw a1_ a2_ a3_).ev
noncomputable def A_zw : Sh := (.cons (.dat y1) (.cons (.dat yi) (.cons (.dat yi) .nil)))
noncomputable def I_zw : List (Nat × OSh) := []
noncomputable def K_zw : RetK := { acts := [], res := [.tmp 6], sh := (.cons (.dat .bool) .nil), obs := [], pins := [] }
noncomputable def D_zw : FD := ⟨A_zw, I_zw, [], Bool, fun x => F_zw x.1.1 x.1.2.1 x.1.2.2.1, fun r => ([.dat .bool r], [])⟩
noncomputable def E_zw : Env := envOf [(72, D_zar), (72, D_zar), (114, D_zx)]
noncomputable def Z_zw : Nat → Nat → List Nat := fun _ _ => []
noncomputable def O_zw : List (Nat × LD) := []
noncomputable def C_zw : Code := (f62.body).getD .skip
noncomputable def S_zat_0 (k : Y2 × (((HL [y1] → Option (Bool))) × Int)) (v : Int) : Tr ((Int) ⊕ ((Unit) ⊕ (Int))) :=
 .t (decide (v < k.2.2))
 (.g (inR v (List.length k.1)) <|
 .c (Bool) (k.2.1 ((List.getD k.1 (Int.toNat v) ([] : Y1)), ())) fun r5_ =>
 .t r5_
 (.l (.inr (.inr v)))
 (.l (.inl (IntKind.wrap .i64 (v + (1 : Int))))))
 (.l (.inr (.inl ())))
noncomputable def L_zat_0 (k : Y2 × (((HL [y1] → Option (Bool))) × Int)) (v : Int) : Option ((Unit) ⊕ (Int)) := iter (fun v => (S_zat_0 k v).ev) v
noncomputable def DL_zat_0 : LD := ⟨(yh [0, 1, 7, 8] (.cons (.dat y2) (.cons (.clo [y1] .bool) (.cons (.dat yi) (.cons (.dat yi) .nil))))), [(0, (yh [] .nil))], (yh [4] (.cons (.dat yi) .nil)), Y2 × (((HL [y1] → Option (Bool))) × Int), Int, (Unit) ⊕ (Int), fun k v => ((k.1, (k.2.1, (k.2.2, (v, ())))), ()), fun t => (t.1.1, (t.1.2.1, t.1.2.2.1)), fun t => t.1.2.2.2.1, S_zat_0, fun _ r => .s (Unit) (Int) r (fun _ => .l (.exit 0 (mkSt ((ys [] .nil)) ((), ())))) (fun b => .l (.ret (mkSt ((ys [4] (.cons (.dat yi) .nil))) ((b, ()), ()))))⟩
noncomputable def T_zat (a1_ : List Y1) (a2_ : (HL [y1] → Option (Bool))) : Tr (Int) :=
 .c ((Unit) ⊕ (Int)) (L_zat_0 (a1_, (a2_, ((List.length a1_ : Nat) : Int))) (0 : Int)) fun r7_ =>
 .s (Unit) (Int) r7_
 (fun _ => .l (-1 : Int))
 (fun r9_ => .l r9_)
noncomputable def F_zat (a1_ : List Y1) (a2_ : (HL [y1] → Option (Bool))) : Option (Int) := (T_zat a1_ a2_).ev
noncomputable def A_zat : Sh := (.cons (.dat y2) (.cons (.clo [y1] .bool) .nil))
noncomputable def I_zat : List (Nat × OSh) := []
noncomputable def K_zat : RetK := { acts := [], res := [.tmp 4], sh := (.cons (.dat yi) .nil), obs := [], pins := [] }
noncomputable def D_zat : FD := ⟨A_zat, I_zat, [], Int, fun x => F_zat x.1.1 x.1.2.1, fun r => ([.dat yi r], [])⟩
noncomputable def E_zat : Env := envOf []
noncomputable def Z_zat : Nat → Nat → List Nat := fun _ _ => []
noncomputable def O_zat : List (Nat × LD) := [(0, DL_zat_0)]
noncomputable def C_zat : Code := (f77.body).getD .skip
noncomputable def T_zaq (a1_ : List Y1) (a2_ : (HL [y1] → Option (Bool))) : Tr (Bool) :=
 .c (Int) (F_zat a1_ a2_) fun r1_ =>
 .l (decide ((0 : Int) ≤ r1_))
noncomputable def F_zaq (a1_ : List Y1) (a2_ : (HL [y1] → Option (Bool))) : Option (Bool) := (T_zaq a1_ a2_).ev
noncomputable def A_zaq : Sh := (.cons (.dat y2) (.cons (.clo [y1] .bool) .nil))
noncomputable def I_zaq : List (Nat × OSh) := []
noncomputable def K_zaq : RetK := { acts := [], res := [.tmp 4], sh := (.cons (.dat .bool) .nil), obs := [], pins := [] }
noncomputable def D_zaq : FD := ⟨A_zaq, I_zaq, [], Bool, fun x => F_zaq x.1.1 x.1.2.1, fun r => ([.dat .bool r], [])⟩
noncomputable def E_zaq : Env := envOf [(77, D_zat)]
noncomputable def Z_zaq : Nat → Nat → List Nat := fun _ _ => []
noncomputable def O_zaq : List (Nat × LD) := []
noncomputable def C_zaq : Code := (f151.body).getD .skip
noncomputable def T_zp (a1_ : Y1) (a2_ : Y1) (_a3_ : List Y1) : Tr (Bool) :=
 .t (((List.length a1_ : Nat) : Int) != ((List.length a2_ : Nat) : Int))
 (.l true)
 (.c (Bool) (F_zw a1_ (0 : Int) (99 : Int)) fun r1_ =>
 .l (!r1_))
noncomputable def F_zp (a1_ : Y1) (a2_ : Y1) (a3_ : List Y1) : Option (Bool) := (T_zp a1_ a2_ a3_).ev
noncomputable def A_zp : Sh := (.cons (.dat y1) (.cons (.ptr (.cons (.dat y1) (.cons (.dat y2) .nil))) .nil))
noncomputable def I_zp : List (Nat × OSh) := []
noncomputable def K_zp : RetK := { acts := [], res := [.tmp 3], sh := (.cons (.dat .bool) .nil), obs := [], pins := [] }
noncomputable def D_zp : FD := ⟨A_zp, I_zp, [], Bool, fun x => F_zp x.1.1 x.1.2.1.1 x.1.2.1.2.1, fun r => ([.dat .bool r], [])⟩
noncomputable def E_zp : Env := envOf [(62, D_zw)]
noncomputable def Z_zp : Nat → Nat → List Nat := fun _ _ => []
noncomputable def O_zp : List (Nat × LD) := []
noncomputable def C_zp : Code := (f152.body).getD .skip
noncomputable def T_zo (a1_ : Y1) (a2_ : List Y1) : Tr (Bool) :=
 .c (Bool) (F_zaa ((List.length a1_ : Nat) : Int) (1 : Int) (7 : Int)) fun r1_ =>
 .t r1_
 (.c (Bool) (F_zw a1_ (0 : Int) (99 : Int)) fun r2_ =>
 .t r2_
 (.t (decide (((List.length a2_ : Nat) : Int) ≤ (7 : Int)))
 (.c (Bool) (F_zaq a2_ (fun h3_ => Option.bind (F_zp h3_.1 a1_ a2_) fun y4_ => some y4_)) fun r5_ =>
 .l (!r5_))
 (.l false))
 (.l false))
 (.l false)
noncomputable def F_zo (a1_ : Y1) (a2_ : List Y1) : Option (Bool) := (T_zo a1_ a2_).ev
noncomputable def A_zo : Sh := (.cons (.agg (.cons (.dat y1) (.cons (.dat y2) .nil))) .nil)
noncomputable def I_zo : List (Nat × OSh) := []
noncomputable def K_zo : RetK := { acts := [], res := [.tmp 2], sh := (.cons (.dat .bool) .nil), obs := [], pins := [] }
noncomputable def D_zo : FD := ⟨A_zo, I_zo, [], Bool, fun x => F_zo x.1.1.1 x.1.1.2.1, fun r => ([.dat .bool r], [])⟩
noncomputable def E_zo : Env := envOf [(48, D_zaa), (62, D_zw), (151, D_zaq), (151, D_zaq), (152, D_zp)]
noncomputable def Z_zo : Nat → Nat → List Nat := fun _ _ => []
noncomputable def O_zo : List (Nat × LD) := []
noncomputable def C_zo : Code := (f121.body).getD .skip
noncomputable def S_zae_0 (k : Y1 × (Int × (Y1 × Int))) (v : Int) : Tr ((Int) ⊕ ((Unit) ⊕ (Unit))) :=
 .t (decide (v < k.2.2.2))
 (.g (inR v (List.length k.2.2.1)) <|
 .c (Bool) (F_zaa (List.getD k.2.2.1 (Int.toNat v) (0 : Int)) (0 : Int) (IntKind.wrap .i64 (k.2.1 - (1 : Int)))) fun r6_ =>
 .t (!r6_)
 (.l (.inr (.inr ())))
 (.t (decide ((0 : Int) < v))
 (.g (inR (IntKind.wrap .i64 (v - (1 : Int))) (List.length k.1)) <|
 .t (decide ((List.getD k.2.2.1 (Int.toNat v) (0 : Int)) ≤ (List.getD k.1 (Int.toNat (IntKind.wrap .i64 (v - (1 : Int)))) (0 : Int))))
 (.l (.inr (.inr ())))
 (.l (.inl (IntKind.wrap .i64 (v + (1 : Int))))))
 (.l (.inl (IntKind.wrap .i64 (v + (1 : Int)))))))
 (.l (.inr (.inl ())))
noncomputable def L_zae_0 (k : Y1 × (Int × (Y1 × Int))) (v : Int) : Option ((Unit) ⊕ (Unit)) := iter (fun v => (S_zae_0 k v).ev) v
noncomputable def DL_zae_0 : LD := ⟨(yh [0, 1, 7, 8, 9] (.cons (.dat y1) (.cons (.dat yi) (.cons (.dat y1) (.cons (.dat yi) (.cons (.dat yi) .nil)))))), [(0, (yh [] .nil))], (yh [4] (.cons (.dat .bool) .nil)), Y1 × (Int × (Y1 × Int)), Int, (Unit) ⊕ (Unit), fun k v => ((k.1, (k.2.1, (k.2.2.1, (k.2.2.2, (v, ()))))), ()), fun t => (t.1.1, (t.1.2.1, (t.1.2.2.1, t.1.2.2.2.1))), fun t => t.1.2.2.2.2.1, S_zae_0, fun _ r => .s (Unit) (Unit) r (fun _ => .l (.exit 0 (mkSt ((ys [] .nil)) ((), ())))) (fun _ => .l (.ret (mkSt ((ys [4] (.cons (.dat .bool) .nil))) ((false, ()), ()))))⟩
noncomputable def T_zae (a1_ : Y1) (a2_ : Int) : Tr (Bool) :=
 .c ((Unit) ⊕ (Unit)) (L_zae_0 (a1_, (a2_, (a1_, ((List.length a1_ : Nat) : Int)))) (0 : Int)) fun r8_ =>
 .s (Unit) (Unit) r8_
 (fun _ => .l true)
 (fun _ => .l false)
noncomputable def F_zae (a1_ : Y1) (a2_ : Int) : Option (Bool) := (T_zae a1_ a2_).ev
noncomputable def A_zae : Sh := (.cons (.dat y1) (.cons (.dat yi) .nil))
noncomputable def I_zae : List (Nat × OSh) := []
noncomputable def K_zae : RetK := { acts := [], res := [.tmp 4], sh := (.cons (.dat .bool) .nil), obs := [], pins := [] }
noncomputable def D_zae : FD := ⟨A_zae, I_zae, [], Bool, fun x => F_zae x.1.1 x.1.2.1, fun r => ([.dat .bool r], [])⟩
noncomputable def E_zae : Env := envOf [(48, D_zaa)]
noncomputable def Z_zae : Nat → Nat → List Nat := fun _ _ => []
noncomputable def O_zae : List (Nat × LD) := [(0, DL_zae_0)]
noncomputable def C_zae : Code := (f63.body).getD .skip
noncomputable def T_zf (a1_ : Y1) (_a2_ : List Y1) (a3_ : Y1) : Tr (Bool) :=
 .t (decide ((0 : Int) < ((List.length a3_ : Nat) : Int)))
 (.c (Bool) (F_zae a3_ ((List.length a1_ : Nat) : Int)) fun r1_ =>
 .l r1_)
 (.l false)
noncomputable def F_zf (a1_ : Y1) (a2_ : List Y1) (a3_ : Y1) : Option (Bool) := (T_zf a1_ a2_ a3_).ev
noncomputable def A_zf : Sh := (.cons (.agg (.cons (.dat y1) (.cons (.dat y2) .nil))) (.cons (.dat y1) .nil))
noncomputable def I_zf : List (Nat × OSh) := []
noncomputable def K_zf : RetK := { acts := [], res := [.tmp 4], sh := (.cons (.dat .bool) .nil), obs := [], pins := [] }
noncomputable def D_zf : FD := ⟨A_zf, I_zf, [], Bool, fun x => F_zf x.1.1.1 x.1.1.2.1 x.1.2.1, fun r => ([.dat .bool r], [])⟩
noncomputable def E_zf : Env := envOf [(63, D_zae)]
noncomputable def Z_zf : Nat → Nat → List Nat := fun _ _ => []
noncomputable def O_zf : List (Nat × LD) := []
noncomputable def C_zf : Code := (f122.body).getD .skip
noncomputable def T_zad (a1_ : Y1) (a2_ : List Y1) (a3_ : Y1) : Tr (Bool) :=
 .c (Bool) (F_zo a1_ a2_) fun r1_ =>
 .t r1_
 (.c (Bool) (F_zf a1_ a2_ a3_) fun r2_ =>
 .l r2_)
 (.l false)
noncomputable def F_zad (a1_ : Y1) (a2_ : List Y1) (a3_ : Y1) : Option (Bool) := (T_zad a1_ a2_ a3_).ev
noncomputable def A_zad : Sh := (.cons (.agg (.cons (.dat y1) (.cons (.dat y2) .nil))) (.cons (.dat y1) .nil))
noncomputable def I_zad : List (Nat × OSh) := []
noncomputable def K_zad : RetK := { acts := [], res := [.tmp 4], sh := (.cons (.dat .bool) .nil), obs := [], pins := [] }
noncomputable def D_zad : FD := ⟨A_zad, I_zad, [], Bool, fun x => F_zad x.1.1.1 x.1.1.2.1 x.1.2.1, fun r => ([.dat .bool r], [])⟩
noncomputable def E_zad : Env := envOf [(121, D_zo), (122, D_zf)]
noncomputable def Z_zad : Nat → Nat → List Nat := fun _ _ => []
noncomputable def O_zad : List (Nat × LD) := []
noncomputable def C_zad : Code := (f82.body).getD .skip
noncomputable def T_ze (_a1_ : Y1) (a2_ : List Y1) (a3_ : Y1) : Tr (Bool) :=
 .t (((List.length a3_ : Nat) : Int) == ((List.length a2_ : Nat) : Int))
 (.c (Bool) (F_zw a3_ (0 : Int) (99 : Int)) fun r1_ =>
 .l r1_)
 (.l false)
noncomputable def F_ze (a1_ : Y1) (a2_ : List Y1) (a3_ : Y1) : Option (Bool) := (T_ze a1_ a2_ a3_).ev
noncomputable def A_ze : Sh := (.cons (.agg (.cons (.dat y1) (.cons (.dat y2) .nil))) (.cons (.dat y1) .nil))
noncomputable def I_ze : List (Nat × OSh) := []
noncomputable def K_ze : RetK := { acts := [], res := [.tmp 4], sh := (.cons (.dat .bool) .nil), obs := [], pins := [] }
noncomputable def D_ze : FD := ⟨A_ze, I_ze, [], Bool, fun x => F_ze x.1.1.1 x.1.1.2.1 x.1.2.1, fun r => ([.dat .bool r], [])⟩
noncomputable def E_ze : Env := envOf [(62, D_zw)]
noncomputable def Z_ze : Nat → Nat → List Nat := fun _ _ => []
noncomputable def O_ze : List (Nat × LD) := []
noncomputable def C_ze : Code := (f83.body).getD .skip
noncomputable def S_zm_0 (k : Int × (Y1 × (Int × (Y1 × Y2)))) (v : Int × Int) : Tr ((Int × Int) ⊕ (Int)) :=
 .t (decide (v.2 < k.2.2.1))
 (.g (inR v.2 (List.length k.2.1)) <|
 .g (inR k.1 (List.length k.2.2.2.2)) <|
 .g (inR (List.getD k.2.1 (Int.toNat v.2) (0 : Int)) (List.length (List.getD k.2.2.2.2 (Int.toNat k.1) ([] : Y1)))) <|
 .g (inR k.1 (List.length k.2.2.2.2)) <|
 .g (inR v.1 (List.length (List.getD k.2.2.2.2 (Int.toNat k.1) ([] : Y1)))) <|
 .t (decide ((List.getD (List.getD k.2.2.2.2 (Int.toNat k.1) ([] : Y1)) (Int.toNat (List.getD k.2.1 (Int.toNat v.2) (0 : Int))) (0 : Int)) < (List.getD (List.getD k.2.2.2.2 (Int.toNat k.1) ([] : Y1)) (Int.toNat v.1) (0 : Int))))
 (.l (.inl ((List.getD k.2.1 (Int.toNat v.2) (0 : Int)), (IntKind.wrap .i64 (v.2 + (1 : Int))))))
 (.l (.inl (v.1, (IntKind.wrap .i64 (v.2 + (1 : Int)))))))
 (.l (.inr v.1))
noncomputable def L_zm_0 (k : Int × (Y1 × (Int × (Y1 × Y2)))) (v : Int × Int) : Option (Int) := iter (fun v => (S_zm_0 k v).ev) v
noncomputable def DL_zm_0 : LD := ⟨{ acts := [], S := { slots := [1, 3, 7, 13, 14, 15], sh := (.cons (.dat yi) (.cons (.box 3 0) (.cons (.dat yi) (.cons (.dat y1) (.cons (.dat yi) (.cons (.dat yi) .nil)))))), obs := [(3, .cells (.cons (.dat y1) (.cons (.dat y2) .nil)))] } }, [(0, (yh [7] (.cons (.dat yi) .nil)))], (yh [] .nil), Int × (Y1 × (Int × (Y1 × Y2))), Int × (Int), Int, fun k v => ((k.1, ((), (v.1, (k.2.1, (k.2.2.1, (v.2, ())))))), ((k.2.2.2.1, (k.2.2.2.2, ())), ())), fun t => (t.1.1, (t.1.2.2.2.1, (t.1.2.2.2.2.1, (t.2.1.1, t.2.1.2.1)))), fun t => (t.1.2.2.1, t.1.2.2.2.2.2.1), S_zm_0, fun _ r => .l (.exit 0 (mkSt ((ys [7] (.cons (.dat yi) .nil))) ((r, ()), ())))⟩
noncomputable def T_zm (a1_ : Y1) (a2_ : List Y1) (a3_ : Int) (a4_ : Y1) : Tr (Int) :=
 .g (inR (0 : Int) (List.length a4_)) <|
 .c (Int) (L_zm_0 (a3_, (a4_, (((List.length a4_ : Nat) : Int), (a1_, a2_)))) ((List.getD a4_ (Int.toNat (0 : Int)) (0 : Int)), (0 : Int))) fun r9_ =>
 .l r9_
noncomputable def F_zm (a1_ : Y1) (a2_ : List Y1) (a3_ : Int) (a4_ : Y1) : Option (Int) := (T_zm a1_ a2_ a3_ a4_).ev
noncomputable def A_zm : Sh := (.cons (.agg (.cons (.dat y1) (.cons (.dat y2) .nil))) (.cons (.dat yi) (.cons (.dat y1) .nil)))
noncomputable def I_zm : List (Nat × OSh) := []
noncomputable def K_zm : RetK := { acts := [], res := [.tmp 6], sh := (.cons (.dat yi) .nil), obs := [], pins := [] }
noncomputable def D_zm : FD := ⟨A_zm, I_zm, [], Int, fun x => F_zm x.1.1.1 x.1.1.2.1 x.1.2.1 x.1.2.2.1, fun r => ([.dat yi r], [])⟩
noncomputable def E_zm : Env := envOf []
noncomputable def Z_zm : Nat → Nat → List Nat := fun _ _ => []
noncomputable def O_zm : List (Nat × LD) := [(0, DL_zm_0)]
noncomputable def C_zm : Code := (f167.body).getD .skip
noncomputable def S_zl_0 (k : Y1 × (Int × (Y1 × Y2))) (v : Int × Y1) : Tr ((Int × Y1) ⊕ Y1) :=
 .t (decide (v.1 < k.2.1))
 (.c (Int) (F_zm k.2.2.1 k.2.2.2 v.1 k.1) fun r7_ =>
 .g (decide ((List.length v.2 + List.length ([r7_] : Y1)) * 8 ≤ 140737488355328)) <|
 .l (.inl ((IntKind.wrap .i64 (v.1 + (1 : Int))), (v.2 ++ ([r7_] : Y1)))))
 (.l (.inr v.2))
noncomputable def L_zl_0 (k : Y1 × (Int × (Y1 × Y2))) (v : Int × Y1) : Option Y1 := iter (fun v => (S_zl_0 k v).ev) v
noncomputable def DL_zl_0 : LD := ⟨{ acts := [], S := { slots := [1, 2, 5, 10, 11], sh := (.cons (.dat y1) (.cons (.box 2 0) (.cons (.arr 7) (.cons (.dat yi) (.cons (.dat yi) .nil))))), obs := [(2, .cells (.cons (.dat y1) (.cons (.dat y2) .nil))), (7, .arr 3 yi)] } }, [(0, { acts := [], S := { slots := [5], sh := (.cons (.arr 7) .nil), obs := [(7, .arr 3 yi)] } })], (yh [] .nil), Y1 × (Int × (Y1 × Y2)), Int × Y1, Y1, fun k v => ((k.1, ((), ((), (k.2.1, (v.1, ()))))), ((k.2.2.1, (k.2.2.2, ())), (v.2, ()))), fun t => (t.1.1, (t.1.2.2.2.1, (t.2.1.1, t.2.1.2.1))), fun t => (t.1.2.2.2.2.1, t.2.2.1), S_zl_0, fun _ r => .l (.exit 0 (mkSt ({ slots := [5], sh := (.cons (.arr 7) .nil), obs := [(7, .arr 3 yi)] }) (((), ()), (r, ()))))⟩
noncomputable def T_zl (a1_ : Y1) (a2_ : List Y1) (a3_ : Y1) : Tr Y1 :=
 .c Y1 (L_zl_0 (a3_, (((List.length a2_ : Nat) : Int), (a1_, a2_))) ((0 : Int), ([] : Y1))) fun r9_ =>
 .l r9_
noncomputable def F_zl (a1_ : Y1) (a2_ : List Y1) (a3_ : Y1) : Option Y1 := (T_zl a1_ a2_ a3_).ev
noncomputable def A_zl : Sh := (.cons (.agg (.cons (.dat y1) (.cons (.dat y2) .nil))) (.cons (.dat y1) .nil))
noncomputable def I_zl : List (Nat × OSh) := []
noncomputable def K_zl : RetK := { acts := [.ren 7 0], res := [.tmp 4], sh := (.cons (.arr 0) .nil), obs := [(0, .arr 3 yi)], pins := [] }
noncomputable def D_zl : FD := ⟨A_zl, I_zl, [], Y1, fun x => F_zl x.1.1.1 x.1.1.2.1 x.1.2.1, fun r => ([.arr 0], [(0, .arr 3 yi r)])⟩
noncomputable def E_zl : Env := envOf [(167, D_zm)]
noncomputable def Z_zl : Nat → Nat → List Nat := fun _ _ => []
noncomputable def O_zl : List (Nat × LD) := [(0, DL_zl_0)]
noncomputable def C_zl : Code := (f153.body).getD .skip
noncomputable def S_zg_0 (k : Int × (Y1 × (Y2 × Y1))) (v : Int × Y1) : Tr ((Int × Y1) ⊕ Y1) :=
 .t (decide (v.1 < k.1))
 (.g (inR v.1 (List.length k.2.2.2)) <|
 .g (decide ((Int.toNat v.1) < List.length k.2.2.2)) <|
 .g (inR v.1 (List.length k.2.2.1)) <|
 .g (inR (List.getD k.2.2.2 (Int.toNat v.1) (0 : Int)) (List.length (List.getD k.2.2.1 (Int.toNat v.1) ([] : Y1)))) <|
 .g (decide ((List.length v.2 + List.length ([(List.getD (List.getD k.2.2.1 (Int.toNat v.1) ([] : Y1)) (Int.toNat (List.getD k.2.2.2 (Int.toNat v.1) (0 : Int))) (0 : Int))] : Y1)) * 8 ≤ 140737488355328)) <|
 .l (.inl ((IntKind.wrap .i64 (v.1 + (1 : Int))), (v.2 ++ ([(List.getD (List.getD k.2.2.1 (Int.toNat v.1) ([] : Y1)) (Int.toNat (List.getD k.2.2.2 (Int.toNat v.1) (0 : Int))) (0 : Int))] : Y1)))))
 (.l (.inr v.2))
noncomputable def L_zg_0 (k : Int × (Y1 × (Y2 × Y1))) (v : Int × Y1) : Option Y1 := iter (fun v => (S_zg_0 k v).ev) v
noncomputable def DL_zg_0 : LD := ⟨{ acts := [], S := { slots := [2, 5, 11, 12, 13], sh := (.cons (.box 2 0) (.cons (.arr 8) (.cons (.arr 704) (.cons (.dat yi) (.cons (.dat yi) .nil))))), obs := [(2, .cells (.cons (.dat y1) (.cons (.dat y2) .nil))), (8, .arr 3 yi), (704, .arr 3 yi)] } }, [(0, { acts := [], S := { slots := [5], sh := (.cons (.arr 8) .nil), obs := [(8, .arr 3 yi)] } })], (yh [] .nil), Int × (Y1 × (Y2 × Y1)), Int × Y1, Y1, fun k v => (((), ((), ((), (k.1, (v.1, ()))))), ((k.2.1, (k.2.2.1, ())), (v.2, (k.2.2.2, ())))), fun t => (t.1.2.2.2.1, (t.2.1.1, (t.2.1.2.1, t.2.2.2.1))), fun t => (t.1.2.2.2.2.1, t.2.2.1), S_zg_0, fun _ r => .l (.exit 0 (mkSt ({ slots := [5], sh := (.cons (.arr 8) .nil), obs := [(8, .arr 3 yi)] }) (((), ()), (r, ()))))⟩
noncomputable def T_zg (a1_ : Y1) (a2_ : List Y1) (a3_ : Y1) : Tr Y1 :=
 .c Y1 (F_zl a1_ a2_ a3_) fun r1_ =>
 .c Y1 (L_zg_0 (((List.length r1_ : Nat) : Int), (a1_, (a2_, r1_))) ((0 : Int), ([] : Y1))) fun r9_ =>
 .l r9_
noncomputable def F_zg (a1_ : Y1) (a2_ : List Y1) (a3_ : Y1) : Option Y1 := (T_zg a1_ a2_ a3_).ev
noncomputable def A_zg : Sh := (.cons (.agg (.cons (.dat y1) (.cons (.dat y2) .nil))) (.cons (.dat y1) .nil))
noncomputable def I_zg : List (Nat × OSh) := []
noncomputable def K_zg : RetK := { acts := [.ren 8 0], res := [.tmp 4], sh := (.cons (.arr 0) .nil), obs := [(0, .arr 3 yi)], pins := [] }
noncomputable def D_zg : FD := ⟨A_zg, I_zg, [], Y1, fun x => F_zg x.1.1.1 x.1.1.2.1 x.1.2.1, fun r => ([.arr 0], [(0, .arr 3 yi r)])⟩
noncomputable def E_zg : Env := envOf [(153, D_zl)]
noncomputable def Z_zg : Nat → Nat → List Nat := fun _ _ => []
noncomputable def O_zg : List (Nat × LD) := [(0, DL_zg_0)]
noncomputable def C_zg : Code := (f123.body).getD .skip
noncomputable def T_zao (a1_ : Int) : Tr (Int) :=
 .t (decide ((4294967296 : Int) ≤ a1_))
 (.g (decide ((0 : Int) ≤ (32 : Int))) <|
 .t (decide ((65536 : Int) ≤ (Int.fdiv a1_ (2 ^ (min (Int.toNat (32 : Int)) (IntKind.bits .u64))))))
 (.g (decide ((0 : Int) ≤ (16 : Int))) <|
 .t (decide ((256 : Int) ≤ (Int.fdiv (Int.fdiv a1_ (2 ^ (min (Int.toNat (32 : Int)) (IntKind.bits .u64)))) (2 ^ (min (Int.toNat (16 : Int)) (IntKind.bits .u64))))))
 (.g (decide ((0 : Int) ≤ (8 : Int))) <|
 .g (inR (IntKind.wrap .u8 (Int.fdiv (Int.fdiv (Int.fdiv a1_ (2 ^ (min (Int.toNat (32 : Int)) (IntKind.bits .u64)))) (2 ^ (min (Int.toNat (16 : Int)) (IntKind.bits .u64)))) (2 ^ (min (Int.toNat (8 : Int)) (IntKind.bits .u64))))) (List.length ([0, 1, 2, 2, 3, 3, 3, 3, 4, 4, 4, 4, 4, 4, 4, 4, 5, 5, 5, 5, 5, 5, 5, 5, 5, 5, 5, 5, 5, 5, 5, 5, 6, 6, 6, 6, 6, 6, 6, 6, 6, 6, 6, 6, 6, 6, 6, 6, 6, 6, 6, 6, 6, 6, 6, 6, 6, 6, 6, 6, 6, 6, 6, 6, 7, 7, 7, 7, 7, 7, 7, 7, 7, 7, 7, 7, 7, 7, 7, 7, 7, 7, 7, 7, 7, 7, 7, 7, 7, 7, 7, 7, 7, 7, 7, 7, 7, 7, 7, 7, 7, 7, 7, 7, 7, 7, 7, 7, 7, 7, 7, 7, 7, 7, 7, 7, 7, 7, 7, 7, 7, 7, 7, 7, 7, 7, 7, 7, 8, 8, 8, 8, 8, 8, 8, 8, 8, 8, 8, 8, 8, 8, 8, 8, 8, 8, 8, 8, 8, 8, 8, 8, 8, 8, 8, 8, 8, 8, 8, 8, 8, 8, 8, 8, 8, 8, 8, 8, 8, 8, 8, 8, 8, 8, 8, 8, 8, 8, 8, 8, 8, 8, 8, 8, 8, 8, 8, 8, 8, 8, 8, 8, 8, 8, 8, 8, 8, 8, 8, 8, 8, 8, 8, 8, 8, 8, 8, 8, 8, 8, 8, 8, 8, 8, 8, 8, 8, 8, 8, 8, 8, 8, 8, 8, 8, 8, 8, 8, 8, 8, 8, 8, 8, 8, 8, 8, 8, 8, 8, 8, 8, 8, 8, 8, 8, 8, 8, 8, 8, 8, 8, 8, 8, 8, 8, 8] : List UInt8))) <|
 .l (IntKind.wrap .i64 ((IntKind.wrap .i64 ((IntKind.wrap .i64 ((32 : Int) + (16 : Int))) + (8 : Int))) + (IntKind.wrap .i64 ((UInt8.toNat (List.getD ([0, 1, 2, 2, 3, 3, 3, 3, 4, 4, 4, 4, 4, 4, 4, 4, 5, 5, 5, 5, 5, 5, 5, 5, 5, 5, 5, 5, 5, 5, 5, 5, 6, 6, 6, 6, 6, 6, 6, 6, 6, 6, 6, 6, 6, 6, 6, 6, 6, 6, 6, 6, 6, 6, 6, 6, 6, 6, 6, 6, 6, 6, 6, 6, 7, 7, 7, 7, 7, 7, 7, 7, 7, 7, 7, 7, 7, 7, 7, 7, 7, 7, 7, 7, 7, 7, 7, 7, 7, 7, 7, 7, 7, 7, 7, 7, 7, 7, 7, 7, 7, 7, 7, 7, 7, 7, 7, 7, 7, 7, 7, 7, 7, 7, 7, 7, 7, 7, 7, 7, 7, 7, 7, 7, 7, 7, 7, 7, 8, 8, 8, 8, 8, 8, 8, 8, 8, 8, 8, 8, 8, 8, 8, 8, 8, 8, 8, 8, 8, 8, 8, 8, 8, 8, 8, 8, 8, 8, 8, 8, 8, 8, 8, 8, 8, 8, 8, 8, 8, 8, 8, 8, 8, 8, 8, 8, 8, 8, 8, 8, 8, 8, 8, 8, 8, 8, 8, 8, 8, 8, 8, 8, 8, 8, 8, 8, 8, 8, 8, 8, 8, 8, 8, 8, 8, 8, 8, 8, 8, 8, 8, 8, 8, 8, 8, 8, 8, 8, 8, 8, 8, 8, 8, 8, 8, 8, 8, 8, 8, 8, 8, 8, 8, 8, 8, 8, 8, 8, 8, 8, 8, 8, 8, 8, 8, 8, 8, 8, 8, 8, 8, 8, 8, 8, 8, 8] : List UInt8) (Int.toNat (IntKind.wrap .u8 (Int.fdiv (Int.fdiv (Int.fdiv a1_ (2 ^ (min (Int.toNat (32 : Int)) (IntKind.bits .u64)))) (2 ^ (min (Int.toNat (16 : Int)) (IntKind.bits .u64)))) (2 ^ (min (Int.toNat (8 : Int)) (IntKind.bits .u64)))))) 0) : Nat) : Int)))))
 (.g (inR (IntKind.wrap .u8 (Int.fdiv (Int.fdiv a1_ (2 ^ (min (Int.toNat (32 : Int)) (IntKind.bits .u64)))) (2 ^ (min (Int.toNat (16 : Int)) (IntKind.bits .u64))))) (List.length ([0, 1, 2, 2, 3, 3, 3, 3, 4, 4, 4, 4, 4, 4, 4, 4, 5, 5, 5, 5, 5, 5, 5, 5, 5, 5, 5, 5, 5, 5, 5, 5, 6, 6, 6, 6, 6, 6, 6, 6, 6, 6, 6, 6, 6, 6, 6, 6, 6, 6, 6, 6, 6, 6, 6, 6, 6, 6, 6, 6, 6, 6, 6, 6, 7, 7, 7, 7, 7, 7, 7, 7, 7, 7, 7, 7, 7, 7, 7, 7, 7, 7, 7, 7, 7, 7, 7, 7, 7, 7, 7, 7, 7, 7, 7, 7, 7, 7, 7, 7, 7, 7, 7, 7, 7, 7, 7, 7, 7, 7, 7, 7, 7, 7, 7, 7, 7, 7, 7, 7, 7, 7, 7, 7, 7, 7, 7, 7, 8, 8, 8, 8, 8, 8, 8, 8, 8, 8, 8, 8, 8, 8, 8, 8, 8, 8, 8, 8, 8, 8, 8, 8, 8, 8, 8, 8, 8, 8, 8, 8, 8, 8, 8, 8, 8, 8, 8, 8, 8, 8, 8, 8, 8, 8, 8, 8, 8, 8, 8, 8, 8, 8, 8, 8, 8, 8, 8, 8, 8, 8, 8, 8, 8, 8, 8, 8, 8, 8, 8, 8, 8, 8, 8, 8, 8, 8, 8, 8, 8, 8, 8, 8, 8, 8, 8, 8, 8, 8, 8, 8, 8, 8, 8, 8, 8, 8, 8, 8, 8, 8, 8, 8, 8, 8, 8, 8, 8, 8, 8, 8, 8, 8, 8, 8, 8, 8, 8, 8, 8, 8, 8, 8, 8, 8, 8, 8] : List UInt8))) <|
 .l (IntKind.wrap .i64 ((IntKind.wrap .i64 ((32 : Int) + (16 : Int))) + (IntKind.wrap .i64 ((UInt8.toNat (List.getD ([0, 1, 2, 2, 3, 3, 3, 3, 4, 4, 4, 4, 4, 4, 4, 4, 5, 5, 5, 5, 5, 5, 5, 5, 5, 5, 5, 5, 5, 5, 5, 5, 6, 6, 6, 6, 6, 6, 6, 6, 6, 6, 6, 6, 6, 6, 6, 6, 6, 6, 6, 6, 6, 6, 6, 6, 6, 6, 6, 6, 6, 6, 6, 6, 7, 7, 7, 7, 7, 7, 7, 7, 7, 7, 7, 7, 7, 7, 7, 7, 7, 7, 7, 7, 7, 7, 7, 7, 7, 7, 7, 7, 7, 7, 7, 7, 7, 7, 7, 7, 7, 7, 7, 7, 7, 7, 7, 7, 7, 7, 7, 7, 7, 7, 7, 7, 7, 7, 7, 7, 7, 7, 7, 7, 7, 7, 7, 7, 8, 8, 8, 8, 8, 8, 8, 8, 8, 8, 8, 8, 8, 8, 8, 8, 8, 8, 8, 8, 8, 8, 8, 8, 8, 8, 8, 8, 8, 8, 8, 8, 8, 8, 8, 8, 8, 8, 8, 8, 8, 8, 8, 8, 8, 8, 8, 8, 8, 8, 8, 8, 8, 8, 8, 8, 8, 8, 8, 8, 8, 8, 8, 8, 8, 8, 8, 8, 8, 8, 8, 8, 8, 8, 8, 8, 8, 8, 8, 8, 8, 8, 8, 8, 8, 8, 8, 8, 8, 8, 8, 8, 8, 8, 8, 8, 8, 8, 8, 8, 8, 8, 8, 8, 8, 8, 8, 8, 8, 8, 8, 8, 8, 8, 8, 8, 8, 8, 8, 8, 8, 8, 8, 8, 8, 8, 8, 8] : List UInt8) (Int.toNat (IntKind.wrap .u8 (Int.fdiv (Int.fdiv a1_ (2 ^ (min (Int.toNat (32 : Int)) (IntKind.bits .u64)))) (2 ^ (min (Int.toNat (16 : Int)) (IntKind.bits .u64)))))) 0) : Nat) : Int))))))
 (.t (decide ((256 : Int) ≤ (Int.fdiv a1_ (2 ^ (min (Int.toNat (32 : Int)) (IntKind.bits .u64))))))
 (.g (decide ((0 : Int) ≤ (8 : Int))) <|
 .g (inR (IntKind.wrap .u8 (Int.fdiv (Int.fdiv a1_ (2 ^ (min (Int.toNat (32 : Int)) (IntKind.bits .u64)))) (2 ^ (min (Int.toNat (8 : Int)) (IntKind.bits .u64))))) (List.length ([0, 1, 2, 2, 3, 3, 3, 3, 4, 4, 4, 4, 4, 4, 4, 4, 5, 5, 5, 5, 5, 5, 5, 5, 5, 5, 5, 5, 5, 5, 5, 5, 6, 6, 6, 6, 6, 6, 6, 6, 6, 6, 6, 6, 6, 6, 6, 6, 6, 6, 6, 6, 6, 6, 6, 6, 6, 6, 6, 6, 6, 6, 6, 6, 7, 7, 7, 7, 7, 7, 7, 7, 7, 7, 7, 7, 7, 7, 7, 7, 7, 7, 7, 7, 7, 7, 7, 7, 7, 7, 7, 7, 7, 7, 7, 7, 7, 7, 7, 7, 7, 7, 7, 7, 7, 7, 7, 7, 7, 7, 7, 7, 7, 7, 7, 7, 7, 7, 7, 7, 7, 7, 7, 7, 7, 7, 7, 7, 8, 8, 8, 8, 8, 8, 8, 8, 8, 8, 8, 8, 8, 8, 8, 8, 8, 8, 8, 8, 8, 8, 8, 8, 8, 8, 8, 8, 8, 8, 8, 8, 8, 8, 8, 8, 8, 8, 8, 8, 8, 8, 8, 8, 8, 8, 8, 8, 8, 8, 8, 8, 8, 8, 8, 8, 8, 8, 8, 8, 8, 8, 8, 8, 8, 8, 8, 8, 8, 8, 8, 8, 8, 8, 8, 8, 8, 8, 8, 8, 8, 8, 8, 8, 8, 8, 8, 8, 8, 8, 8, 8, 8, 8, 8, 8, 8, 8, 8, 8, 8, 8, 8, 8, 8, 8, 8, 8, 8, 8, 8, 8, 8, 8, 8, 8, 8, 8, 8, 8, 8, 8, 8, 8, 8, 8, 8, 8] : List UInt8))) <|
 .l (IntKind.wrap .i64 ((IntKind.wrap .i64 ((32 : Int) + (8 : Int))) + (IntKind.wrap .i64 ((UInt8.toNat (List.getD ([0, 1, 2, 2, 3, 3, 3, 3, 4, 4, 4, 4, 4, 4, 4, 4, 5, 5, 5, 5, 5, 5, 5, 5, 5, 5, 5, 5, 5, 5, 5, 5, 6, 6, 6, 6, 6, 6, 6, 6, 6, 6, 6, 6, 6, 6, 6, 6, 6, 6, 6, 6, 6, 6, 6, 6, 6, 6, 6, 6, 6, 6, 6, 6, 7, 7, 7, 7, 7, 7, 7, 7, 7, 7, 7, 7, 7, 7, 7, 7, 7, 7, 7, 7, 7, 7, 7, 7, 7, 7, 7, 7, 7, 7, 7, 7, 7, 7, 7, 7, 7, 7, 7, 7, 7, 7, 7, 7, 7, 7, 7, 7, 7, 7, 7, 7, 7, 7, 7, 7, 7, 7, 7, 7, 7, 7, 7, 7, 8, 8, 8, 8, 8, 8, 8, 8, 8, 8, 8, 8, 8, 8, 8, 8, 8, 8, 8, 8, 8, 8, 8, 8, 8, 8, 8, 8, 8, 8, 8, 8, 8, 8, 8, 8, 8, 8, 8, 8, 8, 8, 8, 8, 8, 8, 8, 8, 8, 8, 8, 8, 8, 8, 8, 8, 8, 8, 8, 8, 8, 8, 8, 8, 8, 8, 8, 8, 8, 8, 8, 8, 8, 8, 8, 8, 8, 8, 8, 8, 8, 8, 8, 8, 8, 8, 8, 8, 8, 8, 8, 8, 8, 8, 8, 8, 8, 8, 8, 8, 8, 8, 8, 8, 8, 8, 8, 8, 8, 8, 8, 8, 8, 8, 8, 8, 8, 8, 8, 8, 8, 8, 8, 8, 8, 8, 8, 8] : List UInt8) (Int.toNat (IntKind.wrap .u8 (Int.fdiv (Int.fdiv a1_ (2 ^ (min (Int.toNat (32 : Int)) (IntKind.bits .u64)))) (2 ^ (min (Int.toNat (8 : Int)) (IntKind.bits .u64)))))) 0) : Nat) : Int)))))
 (.g (inR (IntKind.wrap .u8 (Int.fdiv a1_ (2 ^ (min (Int.toNat (32 : Int)) (IntKind.bits .u64))))) (List.length ([0, 1, 2, 2, 3, 3, 3, 3, 4, 4, 4, 4, 4, 4, 4, 4, 5, 5, 5, 5, 5, 5, 5, 5, 5, 5, 5, 5, 5, 5, 5, 5, 6, 6, 6, 6, 6, 6, 6, 6, 6, 6, 6, 6, 6, 6, 6, 6, 6, 6, 6, 6, 6, 6, 6, 6, 6, 6, 6, 6, 6, 6, 6, 6, 7, 7, 7, 7, 7, 7, 7, 7, 7, 7, 7, 7, 7, 7, 7, 7, 7, 7, 7, 7, 7, 7, 7, 7, 7, 7, 7, 7, 7, 7, 7, 7, 7, 7, 7, 7, 7, 7, 7, 7, 7, 7, 7, 7, 7, 7, 7, 7, 7, 7, 7, 7, 7, 7, 7, 7, 7, 7, 7, 7, 7, 7, 7, 7, 8, 8, 8, 8, 8, 8, 8, 8, 8, 8, 8, 8, 8, 8, 8, 8, 8, 8, 8, 8, 8, 8, 8, 8, 8, 8, 8, 8, 8, 8, 8, 8, 8, 8, 8, 8, 8, 8, 8, 8, 8, 8, 8, 8, 8, 8, 8, 8, 8, 8, 8, 8, 8, 8, 8, 8, 8, 8, 8, 8, 8, 8, 8, 8, 8, 8, 8, 8, 8, 8, 8, 8, 8, 8, 8, 8, 8, 8, 8, 8, 8, 8, 8, 8, 8, 8, 8, 8, 8, 8, 8, 8, 8, 8, 8, 8, 8, 8, 8, 8, 8, 8, 8, 8, 8, 8, 8, 8, 8, 8, 8, 8, 8, 8, 8, 8, 8, 8, 8, 8, 8, 8, 8, 8, 8, 8, 8, 8] : List UInt8))) <|
 .l (IntKind.wrap .i64 ((32 : Int) + (IntKind.wrap .i64 ((UInt8.toNat (List.getD ([0, 1, 2, 2, 3, 3, 3, 3, 4, 4, 4, 4, 4, 4, 4, 4, 5, 5, 5, 5, 5, 5, 5, 5, 5, 5, 5, 5, 5, 5, 5, 5, 6, 6, 6, 6, 6, 6, 6, 6, 6, 6, 6, 6, 6, 6, 6, 6, 6, 6, 6, 6, 6, 6, 6, 6, 6, 6, 6, 6, 6, 6, 6, 6, 7, 7, 7, 7, 7, 7, 7, 7, 7, 7, 7, 7, 7, 7, 7, 7, 7, 7, 7, 7, 7, 7, 7, 7, 7, 7, 7, 7, 7, 7, 7, 7, 7, 7, 7, 7, 7, 7, 7, 7, 7, 7, 7, 7, 7, 7, 7, 7, 7, 7, 7, 7, 7, 7, 7, 7, 7, 7, 7, 7, 7, 7, 7, 7, 8, 8, 8, 8, 8, 8, 8, 8, 8, 8, 8, 8, 8, 8, 8, 8, 8, 8, 8, 8, 8, 8, 8, 8, 8, 8, 8, 8, 8, 8, 8, 8, 8, 8, 8, 8, 8, 8, 8, 8, 8, 8, 8, 8, 8, 8, 8, 8, 8, 8, 8, 8, 8, 8, 8, 8, 8, 8, 8, 8, 8, 8, 8, 8, 8, 8, 8, 8, 8, 8, 8, 8, 8, 8, 8, 8, 8, 8, 8, 8, 8, 8, 8, 8, 8, 8, 8, 8, 8, 8, 8, 8, 8, 8, 8, 8, 8, 8, 8, 8, 8, 8, 8, 8, 8, 8, 8, 8, 8, 8, 8, 8, 8, 8, 8, 8, 8, 8, 8, 8, 8, 8, 8, 8, 8, 8, 8, 8] : List UInt8) (Int.toNat (IntKind.wrap .u8 (Int.fdiv a1_ (2 ^ (min (Int.toNat (32 : Int)) (IntKind.bits .u64)))))) 0) : Nat) : Int)))))))
 (.t (decide ((65536 : Int) ≤ a1_))
 (.g (decide ((0 : Int) ≤ (16 : Int))) <|
 .t (decide ((256 : Int) ≤ (Int.fdiv a1_ (2 ^ (min (Int.toNat (16 : Int)) (IntKind.bits .u64))))))
 (.g (decide ((0 : Int) ≤ (8 : Int))) <|
 .g (inR (IntKind.wrap .u8 (Int.fdiv (Int.fdiv a1_ (2 ^ (min (Int.toNat (16 : Int)) (IntKind.bits .u64)))) (2 ^ (min (Int.toNat (8 : Int)) (IntKind.bits .u64))))) (List.length ([0, 1, 2, 2, 3, 3, 3, 3, 4, 4, 4, 4, 4, 4, 4, 4, 5, 5, 5, 5, 5, 5, 5, 5, 5, 5, 5, 5, 5, 5, 5, 5, 6, 6, 6, 6, 6, 6, 6, 6, 6, 6, 6, 6, 6, 6, 6, 6, 6, 6, 6, 6, 6, 6, 6, 6, 6, 6, 6, 6, 6, 6, 6, 6, 7, 7, 7, 7, 7, 7, 7, 7, 7, 7, 7, 7, 7, 7, 7, 7, 7, 7, 7, 7, 7, 7, 7, 7, 7, 7, 7, 7, 7, 7, 7, 7, 7, 7, 7, 7, 7, 7, 7, 7, 7, 7, 7, 7, 7, 7, 7, 7, 7, 7, 7, 7, 7, 7, 7, 7, 7, 7, 7, 7, 7, 7, 7, 7, 8, 8, 8, 8, 8, 8, 8, 8, 8, 8, 8, 8, 8, 8, 8, 8, 8, 8, 8, 8, 8, 8, 8, 8, 8, 8, 8, 8, 8, 8, 8, 8, 8, 8, 8, 8, 8, 8, 8, 8, 8, 8, 8, 8, 8, 8, 8, 8, 8, 8, 8, 8, 8, 8, 8, 8, 8, 8, 8, 8, 8, 8, 8, 8, 8, 8, 8, 8, 8, 8, 8, 8, 8, 8, 8, 8, 8, 8, 8, 8, 8, 8, 8, 8, 8, 8, 8, 8, 8, 8, 8, 8, 8, 8, 8, 8, 8, 8, 8, 8, 8, 8, 8, 8, 8, 8, 8, 8, 8, 8, 8, 8, 8, 8, 8, 8, 8, 8, 8, 8, 8, 8, 8, 8, 8, 8, 8, 8] : List UInt8))) <|
 .l (IntKind.wrap .i64 ((IntKind.wrap .i64 ((IntKind.wrap .i64 ((0 : Int) + (16 : Int))) + (8 : Int))) + (IntKind.wrap .i64 ((UInt8.toNat (List.getD ([0, 1, 2, 2, 3, 3, 3, 3, 4, 4, 4, 4, 4, 4, 4, 4, 5, 5, 5, 5, 5, 5, 5, 5, 5, 5, 5, 5, 5, 5, 5, 5, 6, 6, 6, 6, 6, 6, 6, 6, 6, 6, 6, 6, 6, 6, 6, 6, 6, 6, 6, 6, 6, 6, 6, 6, 6, 6, 6, 6, 6, 6, 6, 6, 7, 7, 7, 7, 7, 7, 7, 7, 7, 7, 7, 7, 7, 7, 7, 7, 7, 7, 7, 7, 7, 7, 7, 7, 7, 7, 7, 7, 7, 7, 7, 7, 7, 7, 7, 7, 7, 7, 7, 7, 7, 7, 7, 7, 7, 7, 7, 7, 7, 7, 7, 7, 7, 7, 7, 7, 7, 7, 7, 7, 7, 7, 7, 7, 8, 8, 8, 8, 8, 8, 8, 8, 8, 8, 8, 8, 8, 8, 8, 8, 8, 8, 8, 8, 8, 8, 8, 8, 8, 8, 8, 8, 8, 8, 8, 8, 8, 8, 8, 8, 8, 8, 8, 8, 8, 8, 8, 8, 8, 8, 8, 8, 8, 8, 8, 8, 8, 8, 8, 8, 8, 8, 8, 8, 8, 8, 8, 8, 8, 8, 8, 8, 8, 8, 8, 8, 8, 8, 8, 8, 8, 8, 8, 8, 8, 8, 8, 8, 8, 8, 8, 8, 8, 8, 8, 8, 8, 8, 8, 8, 8, 8, 8, 8, 8, 8, 8, 8, 8, 8, 8, 8, 8, 8, 8, 8, 8, 8, 8, 8, 8, 8, 8, 8, 8, 8, 8, 8, 8, 8, 8, 8] : List UInt8) (Int.toNat (IntKind.wrap .u8 (Int.fdiv (Int.fdiv a1_ (2 ^ (min (Int.toNat (16 : Int)) (IntKind.bits .u64)))) (2 ^ (min (Int.toNat (8 : Int)) (IntKind.bits .u64)))))) 0) : Nat) : Int)))))
 (.g (inR (IntKind.wrap .u8 (Int.fdiv a1_ (2 ^ (min (Int.toNat (16 : Int)) (IntKind.bits .u64))))) (List.length ([0, 1, 2, 2, 3, 3, 3, 3, 4, 4, 4, 4, 4, 4, 4, 4, 5, 5, 5, 5, 5, 5, 5, 5, 5, 5, 5, 5, 5, 5, 5, 5, 6, 6, 6, 6, 6, 6, 6, 6, 6, 6, 6, 6, 6, 6, 6, 6, 6, 6, 6, 6, 6, 6, 6, 6, 6, 6, 6, 6, 6, 6, 6, 6, 7, 7, 7, 7, 7, 7, 7, 7, 7, 7, 7, 7, 7, 7, 7, 7, 7, 7, 7, 7, 7, 7, 7, 7, 7, 7, 7, 7, 7, 7, 7, 7, 7, 7, 7, 7, 7, 7, 7, 7, 7, 7, 7, 7, 7, 7, 7, 7, 7, 7, 7, 7, 7, 7, 7, 7, 7, 7, 7, 7, 7, 7, 7, 7, 8, 8, 8, 8, 8, 8, 8, 8, 8, 8, 8, 8, 8, 8, 8, 8, 8, 8, 8, 8, 8, 8, 8, 8, 8, 8, 8, 8, 8, 8, 8, 8, 8, 8, 8, 8, 8, 8, 8, 8, 8, 8, 8, 8, 8, 8, 8, 8, 8, 8, 8, 8, 8, 8, 8, 8, 8, 8, 8, 8, 8, 8, 8, 8, 8, 8, 8, 8, 8, 8, 8, 8, 8, 8, 8, 8, 8, 8, 8, 8, 8, 8, 8, 8, 8, 8, 8, 8, 8, 8, 8, 8, 8, 8, 8, 8, 8, 8, 8, 8, 8, 8, 8, 8, 8, 8, 8, 8, 8, 8, 8, 8, 8, 8, 8, 8, 8, 8, 8, 8, 8, 8, 8, 8, 8, 8, 8, 8] : List UInt8))) <|
 .l (IntKind.wrap .i64 ((IntKind.wrap .i64 ((0 : Int) + (16 : Int))) + (IntKind.wrap .i64 ((UInt8.toNat (List.getD ([0, 1, 2, 2, 3, 3, 3, 3, 4, 4, 4, 4, 4, 4, 4, 4, 5, 5, 5, 5, 5, 5, 5, 5, 5, 5, 5, 5, 5, 5, 5, 5, 6, 6, 6, 6, 6, 6, 6, 6, 6, 6, 6, 6, 6, 6, 6, 6, 6, 6, 6, 6, 6, 6, 6, 6, 6, 6, 6, 6, 6, 6, 6, 6, 7, 7, 7, 7, 7, 7, 7, 7, 7, 7, 7, 7, 7, 7, 7, 7, 7, 7, 7, 7, 7, 7, 7, 7, 7, 7, 7, 7, 7, 7, 7, 7, 7, 7, 7, 7, 7, 7, 7, 7, 7, 7, 7, 7, 7, 7, 7, 7, 7, 7, 7, 7, 7, 7, 7, 7, 7, 7, 7, 7, 7, 7, 7, 7, 8, 8, 8, 8, 8, 8, 8, 8, 8, 8, 8, 8, 8, 8, 8, 8, 8, 8, 8, 8, 8, 8, 8, 8, 8, 8, 8, 8, 8, 8, 8, 8, 8, 8, 8, 8, 8, 8, 8, 8, 8, 8, 8, 8, 8, 8, 8, 8, 8, 8, 8, 8, 8, 8, 8, 8, 8, 8, 8, 8, 8, 8, 8, 8, 8, 8, 8, 8, 8, 8, 8, 8, 8, 8, 8, 8, 8, 8, 8, 8, 8, 8, 8, 8, 8, 8, 8, 8, 8, 8, 8, 8, 8, 8, 8, 8, 8, 8, 8, 8, 8, 8, 8, 8, 8, 8, 8, 8, 8, 8, 8, 8, 8, 8, 8, 8, 8, 8, 8, 8, 8, 8, 8, 8, 8, 8, 8, 8] : List UInt8) (Int.toNat (IntKind.wrap .u8 (Int.fdiv a1_ (2 ^ (min (Int.toNat (16 : Int)) (IntKind.bits .u64)))))) 0) : Nat) : Int))))))
 (.t (decide ((256 : Int) ≤ a1_))
 (.g (decide ((0 : Int) ≤ (8 : Int))) <|
 .g (inR (IntKind.wrap .u8 (Int.fdiv a1_ (2 ^ (min (Int.toNat (8 : Int)) (IntKind.bits .u64))))) (List.length ([0, 1, 2, 2, 3, 3, 3, 3, 4, 4, 4, 4, 4, 4, 4, 4, 5, 5, 5, 5, 5, 5, 5, 5, 5, 5, 5, 5, 5, 5, 5, 5, 6, 6, 6, 6, 6, 6, 6, 6, 6, 6, 6, 6, 6, 6, 6, 6, 6, 6, 6, 6, 6, 6, 6, 6, 6, 6, 6, 6, 6, 6, 6, 6, 7, 7, 7, 7, 7, 7, 7, 7, 7, 7, 7, 7, 7, 7, 7, 7, 7, 7, 7, 7, 7, 7, 7, 7, 7, 7, 7, 7, 7, 7, 7, 7, 7, 7, 7, 7, 7, 7, 7, 7, 7, 7, 7, 7, 7, 7, 7, 7, 7, 7, 7, 7, 7, 7, 7, 7, 7, 7, 7, 7, 7, 7, 7, 7, 8, 8, 8, 8, 8, 8, 8, 8, 8, 8, 8, 8, 8, 8, 8, 8, 8, 8, 8, 8, 8, 8, 8, 8, 8, 8, 8, 8, 8, 8, 8, 8, 8, 8, 8, 8, 8, 8, 8, 8, 8, 8, 8, 8, 8, 8, 8, 8, 8, 8, 8, 8, 8, 8, 8, 8, 8, 8, 8, 8, 8, 8, 8, 8, 8, 8, 8, 8, 8, 8, 8, 8, 8, 8, 8, 8, 8, 8, 8, 8, 8, 8, 8, 8, 8, 8, 8, 8, 8, 8, 8, 8, 8, 8, 8, 8, 8, 8, 8, 8, 8, 8, 8, 8, 8, 8, 8, 8, 8, 8, 8, 8, 8, 8, 8, 8, 8, 8, 8, 8, 8, 8, 8, 8, 8, 8, 8, 8] : List UInt8))) <|
 .l (IntKind.wrap .i64 ((IntKind.wrap .i64 ((0 : Int) + (8 : Int))) + (IntKind.wrap .i64 ((UInt8.toNat (List.getD ([0, 1, 2, 2, 3, 3, 3, 3, 4, 4, 4, 4, 4, 4, 4, 4, 5, 5, 5, 5, 5, 5, 5, 5, 5, 5, 5, 5, 5, 5, 5, 5, 6, 6, 6, 6, 6, 6, 6, 6, 6, 6, 6, 6, 6, 6, 6, 6, 6, 6, 6, 6, 6, 6, 6, 6, 6, 6, 6, 6, 6, 6, 6, 6, 7, 7, 7, 7, 7, 7, 7, 7, 7, 7, 7, 7, 7, 7, 7, 7, 7, 7, 7, 7, 7, 7, 7, 7, 7, 7, 7, 7, 7, 7, 7, 7, 7, 7, 7, 7, 7, 7, 7, 7, 7, 7, 7, 7, 7, 7, 7, 7, 7, 7, 7, 7, 7, 7, 7, 7, 7, 7, 7, 7, 7, 7, 7, 7, 8, 8, 8, 8, 8, 8, 8, 8, 8, 8, 8, 8, 8, 8, 8, 8, 8, 8, 8, 8, 8, 8, 8, 8, 8, 8, 8, 8, 8, 8, 8, 8, 8, 8, 8, 8, 8, 8, 8, 8, 8, 8, 8, 8, 8, 8, 8, 8, 8, 8, 8, 8, 8, 8, 8, 8, 8, 8, 8, 8, 8, 8, 8, 8, 8, 8, 8, 8, 8, 8, 8, 8, 8, 8, 8, 8, 8, 8, 8, 8, 8, 8, 8, 8, 8, 8, 8, 8, 8, 8, 8, 8, 8, 8, 8, 8, 8, 8, 8, 8, 8, 8, 8, 8, 8, 8, 8, 8, 8, 8, 8, 8, 8, 8, 8, 8, 8, 8, 8, 8, 8, 8, 8, 8, 8, 8, 8, 8] : List UInt8) (Int.toNat (IntKind.wrap .u8 (Int.fdiv a1_ (2 ^ (min (Int.toNat (8 : Int)) (IntKind.bits .u64)))))) 0) : Nat) : Int)))))
 (.g (inR (IntKind.wrap .u8 a1_) (List.length ([0, 1, 2, 2, 3, 3, 3, 3, 4, 4, 4, 4, 4, 4, 4, 4, 5, 5, 5, 5, 5, 5, 5, 5, 5, 5, 5, 5, 5, 5, 5, 5, 6, 6, 6, 6, 6, 6, 6, 6, 6, 6, 6, 6, 6, 6, 6, 6, 6, 6, 6, 6, 6, 6, 6, 6, 6, 6, 6, 6, 6, 6, 6, 6, 7, 7, 7, 7, 7, 7, 7, 7, 7, 7, 7, 7, 7, 7, 7, 7, 7, 7, 7, 7, 7, 7, 7, 7, 7, 7, 7, 7, 7, 7, 7, 7, 7, 7, 7, 7, 7, 7, 7, 7, 7, 7, 7, 7, 7, 7, 7, 7, 7, 7, 7, 7, 7, 7, 7, 7, 7, 7, 7, 7, 7, 7, 7, 7, 8, 8, 8, 8, 8, 8, 8, 8, 8, 8, 8, 8, 8, 8, 8, 8, 8, 8, 8, 8, 8, 8, 8, 8, 8, 8, 8, 8, 8, 8, 8, 8, 8, 8, 8, 8, 8, 8, 8, 8, 8, 8, 8, 8, 8, 8, 8, 8, 8, 8, 8, 8, 8, 8, 8, 8, 8, 8, 8, 8, 8, 8, 8, 8, 8, 8, 8, 8, 8, 8, 8, 8, 8, 8, 8, 8, 8, 8, 8, 8, 8, 8, 8, 8, 8, 8, 8, 8, 8, 8, 8, 8, 8, 8, 8, 8, 8, 8, 8, 8, 8, 8, 8, 8, 8, 8, 8, 8, 8, 8, 8, 8, 8, 8, 8, 8, 8, 8, 8, 8, 8, 8, 8, 8, 8, 8, 8, 8] : List UInt8))) <|
 .l (IntKind.wrap .i64 ((0 : Int) + (IntKind.wrap .i64 ((UInt8.toNat (List.getD ([0, 1, 2, 2, 3, 3, 3, 3, 4, 4, 4, 4, 4, 4, 4, 4, 5, 5, 5, 5, 5, 5, 5, 5, 5, 5, 5, 5, 5, 5, 5, 5, 6, 6, 6, 6, 6, 6, 6, 6, 6, 6, 6, 6, 6, 6, 6, 6, 6, 6, 6, 6, 6, 6, 6, 6, 6, 6, 6, 6, 6, 6, 6, 6, 7, 7, 7, 7, 7, 7, 7, 7, 7, 7, 7, 7, 7, 7, 7, 7, 7, 7, 7, 7, 7, 7, 7, 7, 7, 7, 7, 7, 7, 7, 7, 7, 7, 7, 7, 7, 7, 7, 7, 7, 7, 7, 7, 7, 7, 7, 7, 7, 7, 7, 7, 7, 7, 7, 7, 7, 7, 7, 7, 7, 7, 7, 7, 7, 8, 8, 8, 8, 8, 8, 8, 8, 8, 8, 8, 8, 8, 8, 8, 8, 8, 8, 8, 8, 8, 8, 8, 8, 8, 8, 8, 8, 8, 8, 8, 8, 8, 8, 8, 8, 8, 8, 8, 8, 8, 8, 8, 8, 8, 8, 8, 8, 8, 8, 8, 8, 8, 8, 8, 8, 8, 8, 8, 8, 8, 8, 8, 8, 8, 8, 8, 8, 8, 8, 8, 8, 8, 8, 8, 8, 8, 8, 8, 8, 8, 8, 8, 8, 8, 8, 8, 8, 8, 8, 8, 8, 8, 8, 8, 8, 8, 8, 8, 8, 8, 8, 8, 8, 8, 8, 8, 8, 8, 8, 8, 8, 8, 8, 8, 8, 8, 8, 8, 8, 8, 8, 8, 8, 8, 8, 8, 8] : List UInt8) (Int.toNat (IntKind.wrap .u8 a1_)) 0) : Nat) : Int)))))))
noncomputable def F_zao (a1_ : Int) : Option (Int) := (T_zao a1_).ev
noncomputable def A_zao : Sh := (.cons (.dat (.int .u64)) .nil)
noncomputable def I_zao : List (Nat × OSh) := []
noncomputable def K_zao : RetK := { acts := [], res := [.tmp 2], sh := (.cons (.dat yi) .nil), obs := [], pins := [] }
noncomputable def D_zao : FD := ⟨A_zao, I_zao, [], Int, fun x => F_zao x.1.1, fun r => ([.dat yi r], [])⟩
noncomputable def E_zao : Env := envOf []
noncomputable def Z_zao : Nat → Nat → List Nat := fun _ _ => []
noncomputable def O_zao : List (Nat × LD) := []
noncomputable def C_zao : Code := (f178.body).getD .skip
noncomputable def T_zan (a1_ : Int) : Tr (Int) :=
 .c (Int) (F_zao a1_) fun r1_ =>
 .l r1_
noncomputable def F_zan (a1_ : Int) : Option (Int) := (T_zan a1_).ev
noncomputable def A_zan : Sh := (.cons (.dat (.int .u64)) .nil)
noncomputable def I_zan : List (Nat × OSh) := []
noncomputable def K_zan : RetK := { acts := [], res := [.tmp 2], sh := (.cons (.dat yi) .nil), obs := [], pins := [] }
noncomputable def D_zan : FD := ⟨A_zan, I_zan, [], Int, fun x => F_zan x.1.1, fun r => ([.dat yi r], [])⟩
noncomputable def E_zan : Env := envOf [(178, D_zao)]
noncomputable def Z_zan : Nat → Nat → List Nat := fun _ _ => []
noncomputable def O_zan : List (Nat × LD) := []
noncomputable def C_zan : Code := (f155.body).getD .skip
noncomputable def T_zd (a1_ : Int) : Tr (Bool) :=
 .l (a1_ != a1_)
noncomputable def F_zd (a1_ : Int) : Option (Bool) := (T_zd a1_).ev
noncomputable def A_zd : Sh := (.cons (.dat yi) .nil)
noncomputable def I_zd : List (Nat × OSh) := []
noncomputable def K_zd : RetK := { acts := [], res := [.tmp 2], sh := (.cons (.dat .bool) .nil), obs := [], pins := [] }
noncomputable def D_zd : FD := ⟨A_zd, I_zd, [], Bool, fun x => F_zd x.1.1, fun r => ([.dat .bool r], [])⟩
noncomputable def E_zd : Env := envOf []
noncomputable def Z_zd : Nat → Nat → List Nat := fun _ _ => []
noncomputable def O_zd : List (Nat × LD) := []
noncomputable def C_zd : Code := (f161.body).getD .skip
noncomputable def T_zb (a1_ : Int) (a2_ : Int) : Tr (Bool) :=
 .c (Bool) (F_zd a1_) fun r1_ =>
 .t r1_
 (.c (Bool) (F_zd a2_) fun r2_ =>
 .t (!r2_)
 (.l true)
 (.l (decide (a1_ < a2_))))
 (.l (decide (a1_ < a2_)))
noncomputable def F_zb (a1_ : Int) (a2_ : Int) : Option (Bool) := (T_zb a1_ a2_).ev
noncomputable def A_zb : Sh := (.cons (.dat yi) (.cons (.dat yi) .nil))
noncomputable def I_zb : List (Nat × OSh) := []
noncomputable def K_zb : RetK := { acts := [], res := [.tmp 4], sh := (.cons (.dat .bool) .nil), obs := [], pins := [] }
noncomputable def D_zb : FD := ⟨A_zb, I_zb, [], Bool, fun x => F_zb x.1.1 x.1.2.1, fun r => ([.dat .bool r], [])⟩
noncomputable def E_zb : Env := envOf [(161, D_zd)]
noncomputable def Z_zb : Nat → Nat → List Nat := fun _ _ => []
noncomputable def O_zb : List (Nat × LD) := []
noncomputable def C_zb : Code := (f174.body).getD .skip
noncomputable def S_zbd_2 (k : Int × (Int × Int)) (v : Int × Y1) : Tr ((Int × Y1) ⊕ Y1) :=
 .t (decide (k.1 < v.1))
 (.g (inR v.1 (List.length v.2)) <|
 .g (decide ((Int.toNat v.1) < List.length v.2)) <|
 .g (inR (IntKind.wrap .i64 (v.1 - (1 : Int))) (List.length v.2)) <|
 .g (decide ((Int.toNat (IntKind.wrap .i64 (v.1 - (1 : Int)))) < List.length v.2)) <|
 .c (Bool) (F_zb (List.getD v.2 (Int.toNat v.1) (0 : Int)) (List.getD v.2 (Int.toNat (IntKind.wrap .i64 (v.1 - (1 : Int)))) (0 : Int))) fun r10_ =>
 .t r10_
 (.g (inR (IntKind.wrap .i64 (v.1 - (1 : Int))) (List.length v.2)) <|
 .g (decide ((Int.toNat (IntKind.wrap .i64 (v.1 - (1 : Int)))) < List.length v.2)) <|
 .g (inR v.1 (List.length v.2)) <|
 .g (decide ((Int.toNat v.1) < List.length v.2)) <|
 .g (inR v.1 (List.length v.2)) <|
 .g (decide ((Int.toNat v.1) < List.length v.2)) <|
 .g (inR (IntKind.wrap .i64 (v.1 - (1 : Int))) (List.length (List.set v.2 (Int.toNat v.1) (List.getD v.2 (Int.toNat (IntKind.wrap .i64 (v.1 - (1 : Int)))) (0 : Int))))) <|
 .g (decide ((Int.toNat (IntKind.wrap .i64 (v.1 - (1 : Int)))) < List.length (List.set v.2 (Int.toNat v.1) (List.getD v.2 (Int.toNat (IntKind.wrap .i64 (v.1 - (1 : Int)))) (0 : Int))))) <|
 .l (.inl ((IntKind.wrap .i64 (v.1 - (1 : Int))), (List.set (List.set v.2 (Int.toNat v.1) (List.getD v.2 (Int.toNat (IntKind.wrap .i64 (v.1 - (1 : Int)))) (0 : Int))) (Int.toNat (IntKind.wrap .i64 (v.1 - (1 : Int)))) (List.getD v.2 (Int.toNat v.1) (0 : Int))))))
 (.l (.inr v.2)))
 (.l (.inr v.2))
noncomputable def L_zbd_2 (k : Int × (Int × Int)) (v : Int × Y1) : Option Y1 := iter (fun v => (S_zbd_2 k v).ev) v
noncomputable def DL_zbd_2 : LD := ⟨{ acts := [], S := { slots := [0, 1, 2, 6, 7], sh := (.cons (.arr 64) (.cons (.dat yi) (.cons (.dat yi) (.cons (.dat yi) (.cons (.dat yi) .nil))))), obs := [(64, .arr 3 yi)] } }, [(2, { acts := [], S := { slots := [0, 1, 2, 6], sh := (.cons (.arr 64) (.cons (.dat yi) (.cons (.dat yi) (.cons (.dat yi) .nil)))), obs := [(64, .arr 3 yi)] } })], (yh [] .nil), Int × (Int × Int), Int × Y1, Y1, fun k v => (((), (k.1, (k.2.1, (k.2.2, (v.1, ()))))), (v.2, ())), fun t => (t.1.2.1, (t.1.2.2.1, t.1.2.2.2.1)), fun t => (t.1.2.2.2.2.1, t.2.1), S_zbd_2, fun k r => .l (.exit 2 (mkSt ({ slots := [0, 1, 2, 6], sh := (.cons (.arr 64) (.cons (.dat yi) (.cons (.dat yi) (.cons (.dat yi) .nil)))), obs := [(64, .arr 3 yi)] }) (((), (k.1, (k.2.1, (k.2.2, ())))), (r, ()))))⟩
noncomputable def S_zbd_0 (k : Int × Int) (v : Int × Y1) : Tr ((Int × Y1) ⊕ Y1) :=
 .t (decide (v.1 < k.2))
 (.c Y1 (L_zbd_2 (k.1, (k.2, v.1)) (v.1, v.2)) fun r15_ =>
 .l (.inl ((IntKind.wrap .i64 (v.1 + (1 : Int))), r15_)))
 (.l (.inr v.2))
noncomputable def L_zbd_0 (k : Int × Int) (v : Int × Y1) : Option Y1 := iter (fun v => (S_zbd_0 k v).ev) v
noncomputable def DL_zbd_0 : LD := ⟨{ acts := [], S := { slots := [0, 1, 2, 6], sh := (.cons (.arr 64) (.cons (.dat yi) (.cons (.dat yi) (.cons (.dat yi) .nil)))), obs := [(64, .arr 3 yi)] } }, [(0, { acts := [], S := { slots := [0], sh := (.cons (.arr 64) .nil), obs := [(64, .arr 3 yi)] } })], (yh [] .nil), Int × (Int), Int × Y1, Y1, fun k v => (((), (k.1, (k.2, (v.1, ())))), (v.2, ())), fun t => (t.1.2.1, t.1.2.2.1), fun t => (t.1.2.2.2.1, t.2.1), S_zbd_0, fun _ r => .l (.exit 0 (mkSt ({ slots := [0], sh := (.cons (.arr 64) .nil), obs := [(64, .arr 3 yi)] }) (((), ()), (r, ()))))⟩
noncomputable def T_zbd (a2_ : Int) (a3_ : Int) (a1_ : Y1) : Tr Y1 :=
 .c Y1 (L_zbd_0 (a2_, a3_) ((IntKind.wrap .i64 (a2_ + (1 : Int))), a1_)) fun r17_ =>
 .l r17_
noncomputable def F_zbd (a2_ : Int) (a3_ : Int) (a1_ : Y1) : Option Y1 := (T_zbd a2_ a3_ a1_).ev
noncomputable def A_zbd : Sh := (.cons (.arr 64) (.cons (.dat yi) (.cons (.dat yi) .nil)))
noncomputable def I_zbd : List (Nat × OSh) := [(64, .arr 3 yi)]
noncomputable def K_zbd : RetK := { acts := [], res := [], sh := .nil, obs := [(64, .arr 3 yi)], pins := [(0, 0, 64)] }
noncomputable def D_zbd : FD := ⟨A_zbd, I_zbd, [.arg 0], Y1, fun x => F_zbd x.1.2.1 x.1.2.2.1 x.2.1, fun r => ([], [(64, .arr 3 yi r)])⟩
noncomputable def E_zbd : Env := envOf [(174, D_zb)]
noncomputable def Z_zbd : Nat → Nat → List Nat := fun _ _ => []
noncomputable def O_zbd : List (Nat × LD) := [(2, DL_zbd_2), (0, DL_zbd_0)]
noncomputable def C_zbd : Code := (f168.body).getD .skip
noncomputable def T_zbi (a1_ : Int) : Tr (Int) :=
 .c (Int) (F_zan (IntKind.wrap .u64 a1_)) fun r1_ =>
 .g (decide ((0 : Int) ≤ r1_)) <|
 .l (IntKind.wrap .u64 ((1 : Int) * 2 ^ (min (Int.toNat r1_) (IntKind.bits .u64))))
noncomputable def F_zbi (a1_ : Int) : Option (Int) := (T_zbi a1_).ev
noncomputable def A_zbi : Sh := (.cons (.dat yi) .nil)
noncomputable def I_zbi : List (Nat × OSh) := []
noncomputable def K_zbi : RetK := { acts := [], res := [.tmp 2], sh := (.cons (.dat (.int .u64)) .nil), obs := [], pins := [] }
noncomputable def D_zbi : FD := ⟨A_zbi, I_zbi, [], Int, fun x => F_zbi x.1.1, fun r => ([.dat (.int .u64) r], [])⟩
noncomputable def E_zbi : Env := envOf [(155, D_zan)]
noncomputable def Z_zbi : Nat → Nat → List Nat := fun _ _ => []
noncomputable def O_zbi : List (Nat × LD) := []
noncomputable def C_zbi : Code := (f190.body).getD .skip
noncomputable def T_zbp (a1_ : Int) : Tr (Int × Int) :=
 .g (decide ((0 : Int) ≤ (13 : Int))) <|
 .g (decide ((0 : Int) ≤ (7 : Int))) <|
 .g (decide ((0 : Int) ≤ (17 : Int))) <|
 .l ((IntKind.wrap .u64 (BitVec.toNat ((BitVec.ofInt (IntKind.bits .u64) (IntKind.wrap .u64 (BitVec.toNat ((BitVec.ofInt (IntKind.bits .u64) (IntKind.wrap .u64 (BitVec.toNat ((BitVec.ofInt (IntKind.bits .u64) a1_) ^^^ (BitVec.ofInt (IntKind.bits .u64) (IntKind.wrap .u64 (a1_ * 2 ^ (min (Int.toNat (13 : Int)) (IntKind.bits .u64))))))))) ^^^ (BitVec.ofInt (IntKind.bits .u64) (Int.fdiv (IntKind.wrap .u64 (BitVec.toNat ((BitVec.ofInt (IntKind.bits .u64) a1_) ^^^ (BitVec.ofInt (IntKind.bits .u64) (IntKind.wrap .u64 (a1_ * 2 ^ (min (Int.toNat (13 : Int)) (IntKind.bits .u64)))))))) (2 ^ (min (Int.toNat (7 : Int)) (IntKind.bits .u64))))))))) ^^^ (BitVec.ofInt (IntKind.bits .u64) (IntKind.wrap .u64 ((IntKind.wrap .u64 (BitVec.toNat ((BitVec.ofInt (IntKind.bits .u64) (IntKind.wrap .u64 (BitVec.toNat ((BitVec.ofInt (IntKind.bits .u64) a1_) ^^^ (BitVec.ofInt (IntKind.bits .u64) (IntKind.wrap .u64 (a1_ * 2 ^ (min (Int.toNat (13 : Int)) (IntKind.bits .u64))))))))) ^^^ (BitVec.ofInt (IntKind.bits .u64) (Int.fdiv (IntKind.wrap .u64 (BitVec.toNat ((BitVec.ofInt (IntKind.bits .u64) a1_) ^^^ (BitVec.ofInt (IntKind.bits .u64) (IntKind.wrap .u64 (a1_ * 2 ^ (min (Int.toNat (13 : Int)) (IntKind.bits .u64)))))))) (2 ^ (min (Int.toNat (7 : Int)) (IntKind.bits .u64)))))))) * 2 ^ (min (Int.toNat (17 : Int)) (IntKind.bits .u64)))))))), (IntKind.wrap .u64 (BitVec.toNat ((BitVec.ofInt (IntKind.bits .u64) (IntKind.wrap .u64 (BitVec.toNat ((BitVec.ofInt (IntKind.bits .u64) (IntKind.wrap .u64 (BitVec.toNat ((BitVec.ofInt (IntKind.bits .u64) a1_) ^^^ (BitVec.ofInt (IntKind.bits .u64) (IntKind.wrap .u64 (a1_ * 2 ^ (min (Int.toNat (13 : Int)) (IntKind.bits .u64))))))))) ^^^ (BitVec.ofInt (IntKind.bits .u64) (Int.fdiv (IntKind.wrap .u64 (BitVec.toNat ((BitVec.ofInt (IntKind.bits .u64) a1_) ^^^ (BitVec.ofInt (IntKind.bits .u64) (IntKind.wrap .u64 (a1_ * 2 ^ (min (Int.toNat (13 : Int)) (IntKind.bits .u64)))))))) (2 ^ (min (Int.toNat (7 : Int)) (IntKind.bits .u64))))))))) ^^^ (BitVec.ofInt (IntKind.bits .u64) (IntKind.wrap .u64 ((IntKind.wrap .u64 (BitVec.toNat ((BitVec.ofInt (IntKind.bits .u64) (IntKind.wrap .u64 (BitVec.toNat ((BitVec.ofInt (IntKind.bits .u64) a1_) ^^^ (BitVec.ofInt (IntKind.bits .u64) (IntKind.wrap .u64 (a1_ * 2 ^ (min (Int.toNat (13 : Int)) (IntKind.bits .u64))))))))) ^^^ (BitVec.ofInt (IntKind.bits .u64) (Int.fdiv (IntKind.wrap .u64 (BitVec.toNat ((BitVec.ofInt (IntKind.bits .u64) a1_) ^^^ (BitVec.ofInt (IntKind.bits .u64) (IntKind.wrap .u64 (a1_ * 2 ^ (min (Int.toNat (13 : Int)) (IntKind.bits .u64)))))))) (2 ^ (min (Int.toNat (7 : Int)) (IntKind.bits .u64)))))))) * 2 ^ (min (Int.toNat (17 : Int)) (IntKind.bits .u64)))))))))
noncomputable def F_zbp (a1_ : Int) : Option (Int × Int) := (T_zbp a1_).ev
noncomputable def A_zbp : Sh := (.cons (.box 64 0) .nil)
noncomputable def I_zbp : List (Nat × OSh) := [(64, .cells (.cons (.dat (.int .u64)) .nil))]
noncomputable def K_zbp : RetK := { acts := [], res := [.tmp 2], sh := (.cons (.dat (.int .u64)) .nil), obs := [(64, .cells (.cons (.dat (.int .u64)) .nil))], pins := [(0, 0, 64)] }
noncomputable def D_zbp : FD := ⟨A_zbp, I_zbp, [.arg 0], Int × (Int), fun x => F_zbp x.2.1.1, fun r => ([.dat (.int .u64) r.1], [(64, .cells [.dat (.int .u64) r.2])])⟩
noncomputable def E_zbp : Env := envOf []
noncomputable def Z_zbp : Nat → Nat → List Nat := fun _ _ => []
noncomputable def O_zbp : List (Nat × LD) := []
noncomputable def C_zbp : Code := (f191.body).getD .skip
noncomputable def S_zaz_0 (k : Int × (Int × Int)) (v : Int × (Y1 × Int)) : Tr ((Int × (Y1 × Int)) ⊕ Y1) :=
 .g (!decide ((4 : Int) = 0)) <|
 .t (decide (v.1 ≤ (IntKind.wrap .i64 ((IntKind.wrap .i64 (k.1 + (IntKind.wrap .i64 ((IntKind.wrap .i64 (Int.tdiv k.2.1 (4 : Int))) * (2 : Int))))) + (1 : Int)))))
 (.c (Int × Int) (F_zbp v.2.2) fun r8_ =>
 .t (decide (k.2.1 ≤ (IntKind.wrap .i64 (IntKind.wrap .u64 (BitVec.toNat ((BitVec.ofInt (IntKind.bits .u64) r8_.1) &&& (BitVec.ofInt (IntKind.bits .u64) (IntKind.wrap .u64 (k.2.2 - (1 : Int))))))))))
 (.g (inR (IntKind.wrap .i64 (k.1 + (IntKind.wrap .i64 ((IntKind.wrap .i64 (IntKind.wrap .u64 (BitVec.toNat ((BitVec.ofInt (IntKind.bits .u64) r8_.1) &&& (BitVec.ofInt (IntKind.bits .u64) (IntKind.wrap .u64 (k.2.2 - (1 : Int)))))))) - k.2.1)))) (List.length v.2.1)) <|
 .g (decide ((Int.toNat (IntKind.wrap .i64 (k.1 + (IntKind.wrap .i64 ((IntKind.wrap .i64 (IntKind.wrap .u64 (BitVec.toNat ((BitVec.ofInt (IntKind.bits .u64) r8_.1) &&& (BitVec.ofInt (IntKind.bits .u64) (IntKind.wrap .u64 (k.2.2 - (1 : Int)))))))) - k.2.1))))) < List.length v.2.1)) <|
 .g (inR v.1 (List.length v.2.1)) <|
 .g (decide ((Int.toNat v.1) < List.length v.2.1)) <|
 .g (inR v.1 (List.length v.2.1)) <|
 .g (decide ((Int.toNat v.1) < List.length v.2.1)) <|
 .g (inR (IntKind.wrap .i64 (k.1 + (IntKind.wrap .i64 ((IntKind.wrap .i64 (IntKind.wrap .u64 (BitVec.toNat ((BitVec.ofInt (IntKind.bits .u64) r8_.1) &&& (BitVec.ofInt (IntKind.bits .u64) (IntKind.wrap .u64 (k.2.2 - (1 : Int)))))))) - k.2.1)))) (List.length (List.set v.2.1 (Int.toNat v.1) (List.getD v.2.1 (Int.toNat (IntKind.wrap .i64 (k.1 + (IntKind.wrap .i64 ((IntKind.wrap .i64 (IntKind.wrap .u64 (BitVec.toNat ((BitVec.ofInt (IntKind.bits .u64) r8_.1) &&& (BitVec.ofInt (IntKind.bits .u64) (IntKind.wrap .u64 (k.2.2 - (1 : Int)))))))) - k.2.1))))) (0 : Int))))) <|
 .g (decide ((Int.toNat (IntKind.wrap .i64 (k.1 + (IntKind.wrap .i64 ((IntKind.wrap .i64 (IntKind.wrap .u64 (BitVec.toNat ((BitVec.ofInt (IntKind.bits .u64) r8_.1) &&& (BitVec.ofInt (IntKind.bits .u64) (IntKind.wrap .u64 (k.2.2 - (1 : Int)))))))) - k.2.1))))) < List.length (List.set v.2.1 (Int.toNat v.1) (List.getD v.2.1 (Int.toNat (IntKind.wrap .i64 (k.1 + (IntKind.wrap .i64 ((IntKind.wrap .i64 (IntKind.wrap .u64 (BitVec.toNat ((BitVec.ofInt (IntKind.bits .u64) r8_.1) &&& (BitVec.ofInt (IntKind.bits .u64) (IntKind.wrap .u64 (k.2.2 - (1 : Int)))))))) - k.2.1))))) (0 : Int))))) <|
 .l (.inl ((IntKind.wrap .i64 (v.1 + (1 : Int))), ((List.set (List.set v.2.1 (Int.toNat v.1) (List.getD v.2.1 (Int.toNat (IntKind.wrap .i64 (k.1 + (IntKind.wrap .i64 ((IntKind.wrap .i64 (IntKind.wrap .u64 (BitVec.toNat ((BitVec.ofInt (IntKind.bits .u64) r8_.1) &&& (BitVec.ofInt (IntKind.bits .u64) (IntKind.wrap .u64 (k.2.2 - (1 : Int)))))))) - k.2.1))))) (0 : Int))) (Int.toNat (IntKind.wrap .i64 (k.1 + (IntKind.wrap .i64 ((IntKind.wrap .i64 (IntKind.wrap .u64 (BitVec.toNat ((BitVec.ofInt (IntKind.bits .u64) r8_.1) &&& (BitVec.ofInt (IntKind.bits .u64) (IntKind.wrap .u64 (k.2.2 - (1 : Int)))))))) - k.2.1))))) (List.getD v.2.1 (Int.toNat v.1) (0 : Int))), r8_.2))))
 (.g (inR (IntKind.wrap .i64 (k.1 + (IntKind.wrap .i64 (IntKind.wrap .u64 (BitVec.toNat ((BitVec.ofInt (IntKind.bits .u64) r8_.1) &&& (BitVec.ofInt (IntKind.bits .u64) (IntKind.wrap .u64 (k.2.2 - (1 : Int)))))))))) (List.length v.2.1)) <|
 .g (decide ((Int.toNat (IntKind.wrap .i64 (k.1 + (IntKind.wrap .i64 (IntKind.wrap .u64 (BitVec.toNat ((BitVec.ofInt (IntKind.bits .u64) r8_.1) &&& (BitVec.ofInt (IntKind.bits .u64) (IntKind.wrap .u64 (k.2.2 - (1 : Int))))))))))) < List.length v.2.1)) <|
 .g (inR v.1 (List.length v.2.1)) <|
 .g (decide ((Int.toNat v.1) < List.length v.2.1)) <|
 .g (inR v.1 (List.length v.2.1)) <|
 .g (decide ((Int.toNat v.1) < List.length v.2.1)) <|
 .g (inR (IntKind.wrap .i64 (k.1 + (IntKind.wrap .i64 (IntKind.wrap .u64 (BitVec.toNat ((BitVec.ofInt (IntKind.bits .u64) r8_.1) &&& (BitVec.ofInt (IntKind.bits .u64) (IntKind.wrap .u64 (k.2.2 - (1 : Int)))))))))) (List.length (List.set v.2.1 (Int.toNat v.1) (List.getD v.2.1 (Int.toNat (IntKind.wrap .i64 (k.1 + (IntKind.wrap .i64 (IntKind.wrap .u64 (BitVec.toNat ((BitVec.ofInt (IntKind.bits .u64) r8_.1) &&& (BitVec.ofInt (IntKind.bits .u64) (IntKind.wrap .u64 (k.2.2 - (1 : Int))))))))))) (0 : Int))))) <|
 .g (decide ((Int.toNat (IntKind.wrap .i64 (k.1 + (IntKind.wrap .i64 (IntKind.wrap .u64 (BitVec.toNat ((BitVec.ofInt (IntKind.bits .u64) r8_.1) &&& (BitVec.ofInt (IntKind.bits .u64) (IntKind.wrap .u64 (k.2.2 - (1 : Int))))))))))) < List.length (List.set v.2.1 (Int.toNat v.1) (List.getD v.2.1 (Int.toNat (IntKind.wrap .i64 (k.1 + (IntKind.wrap .i64 (IntKind.wrap .u64 (BitVec.toNat ((BitVec.ofInt (IntKind.bits .u64) r8_.1) &&& (BitVec.ofInt (IntKind.bits .u64) (IntKind.wrap .u64 (k.2.2 - (1 : Int))))))))))) (0 : Int))))) <|
 .l (.inl ((IntKind.wrap .i64 (v.1 + (1 : Int))), ((List.set (List.set v.2.1 (Int.toNat v.1) (List.getD v.2.1 (Int.toNat (IntKind.wrap .i64 (k.1 + (IntKind.wrap .i64 (IntKind.wrap .u64 (BitVec.toNat ((BitVec.ofInt (IntKind.bits .u64) r8_.1) &&& (BitVec.ofInt (IntKind.bits .u64) (IntKind.wrap .u64 (k.2.2 - (1 : Int))))))))))) (0 : Int))) (Int.toNat (IntKind.wrap .i64 (k.1 + (IntKind.wrap .i64 (IntKind.wrap .u64 (BitVec.toNat ((BitVec.ofInt (IntKind.bits .u64) r8_.1) &&& (BitVec.ofInt (IntKind.bits .u64) (IntKind.wrap .u64 (k.2.2 - (1 : Int))))))))))) (List.getD v.2.1 (Int.toNat v.1) (0 : Int))), r8_.2)))))
 (.l (.inr v.2.1))
noncomputable def L_zaz_0 (k : Int × (Int × Int)) (v : Int × (Y1 × Int)) : Option Y1 := iter (fun v => (S_zaz_0 k v).ev) v
noncomputable def DL_zaz_0 : LD := ⟨{ acts := [], S := { slots := [0, 1, 6, 7, 8, 9], sh := (.cons (.arr 64) (.cons (.dat yi) (.cons (.dat yi) (.cons (.box 7 0) (.cons (.dat (.int .u64)) (.cons (.dat yi) .nil)))))), obs := [(64, .arr 3 yi), (7, .cells (.cons (.dat (.int .u64)) .nil))] } }, [(0, { acts := [], S := { slots := [0], sh := (.cons (.arr 64) .nil), obs := [(64, .arr 3 yi)] } })], (yh [] .nil), Int × (Int × Int), Int × (Y1 × Int), Y1, fun k v => (((), (k.1, (k.2.1, ((), (k.2.2, (v.1, ())))))), (v.2.1, ((v.2.2, ()), ()))), fun t => (t.1.2.1, (t.1.2.2.1, t.1.2.2.2.2.1)), fun t => (t.1.2.2.2.2.2.1, (t.2.1, t.2.2.1.1)), S_zaz_0, fun _ r => .l (.exit 0 (mkSt ({ slots := [0], sh := (.cons (.arr 64) .nil), obs := [(64, .arr 3 yi)] }) (((), ()), (r, ()))))⟩
noncomputable def T_zaz (a2_ : Int) (a3_ : Int) (a1_ : Y1) : Tr Y1 :=
 .t (decide ((8 : Int) ≤ (IntKind.wrap .i64 (a3_ - a2_))))
 (.c (Int) (F_zbi (IntKind.wrap .i64 (a3_ - a2_))) fun r1_ =>
 .g (!decide ((4 : Int) = 0)) <|
 .c Y1 (L_zaz_0 (a2_, ((IntKind.wrap .i64 (a3_ - a2_)), r1_)) ((IntKind.wrap .i64 ((IntKind.wrap .i64 (a2_ + (IntKind.wrap .i64 ((IntKind.wrap .i64 (Int.tdiv (IntKind.wrap .i64 (a3_ - a2_)) (4 : Int))) * (2 : Int))))) - (1 : Int))), (a1_, (IntKind.wrap .u64 (IntKind.wrap .i64 (a3_ - a2_)))))) fun r10_ =>
 .l r10_)
 (.l a1_)
noncomputable def F_zaz (a2_ : Int) (a3_ : Int) (a1_ : Y1) : Option Y1 := (T_zaz a2_ a3_ a1_).ev
noncomputable def A_zaz : Sh := (.cons (.arr 64) (.cons (.dat yi) (.cons (.dat yi) .nil)))
noncomputable def I_zaz : List (Nat × OSh) := [(64, .arr 3 yi)]
noncomputable def K_zaz : RetK := { acts := [], res := [], sh := .nil, obs := [(64, .arr 3 yi)], pins := [(0, 0, 64)] }
noncomputable def D_zaz : FD := ⟨A_zaz, I_zaz, [.arg 0], Y1, fun x => F_zaz x.1.2.1 x.1.2.2.1 x.2.1, fun r => ([], [(64, .arr 3 yi r)])⟩
noncomputable def E_zaz : Env := envOf [(190, D_zbi), (191, D_zbp)]
noncomputable def Z_zaz : Nat → Nat → List Nat := fun _ _ => []
noncomputable def O_zaz : List (Nat × LD) := [(0, DL_zaz_0)]
noncomputable def C_zaz : Code := (f170.body).getD .skip
noncomputable def T_zbk (a1_ : Y1) (a2_ : Int) (a3_ : Int) (a4_ : Int) : Tr (Int × (Int × Int)) :=
 .g (inR a3_ (List.length a1_)) <|
 .g (inR a2_ (List.length a1_)) <|
 .c (Bool) (F_zb (List.getD a1_ (Int.toNat a3_) (0 : Int)) (List.getD a1_ (Int.toNat a2_) (0 : Int))) fun r1_ =>
 .t r1_
 (.l (a3_, (a2_, (IntKind.wrap .i64 (a4_ + (1 : Int))))))
 (.l (a2_, (a3_, a4_)))
noncomputable def F_zbk (a1_ : Y1) (a2_ : Int) (a3_ : Int) (a4_ : Int) : Option (Int × (Int × Int)) := (T_zbk a1_ a2_ a3_ a4_).ev
noncomputable def A_zbk : Sh := (.cons (.dat y1) (.cons (.dat yi) (.cons (.dat yi) (.cons (.box 64 0) .nil))))
noncomputable def I_zbk : List (Nat × OSh) := [(64, .cells (.cons (.dat yi) .nil))]
noncomputable def K_zbk : RetK := { acts := [], res := [.tmp 8, .tmp 9], sh := (.cons (.dat yi) (.cons (.dat yi) .nil)), obs := [(64, .cells (.cons (.dat yi) .nil))], pins := [(3, 0, 64)] }
noncomputable def D_zbk : FD := ⟨A_zbk, I_zbk, [.arg 3], Int × (Int × Int), fun x => F_zbk x.1.1 x.1.2.1 x.1.2.2.1 x.2.1.1, fun r => ([.dat yi r.1, .dat yi r.2.1], [(64, .cells [.dat yi r.2.2])])⟩
noncomputable def E_zbk : Env := envOf [(174, D_zb)]
noncomputable def Z_zbk : Nat → Nat → List Nat := fun _ _ => []
noncomputable def O_zbk : List (Nat × LD) := []
noncomputable def C_zbk : Code := (f198.body).getD .skip
noncomputable def T_zbh (a1_ : Y1) (a2_ : Int) (a3_ : Int) (a4_ : Int) (a5_ : Int) : Tr (Int × Int) :=
 .c (Int × (Int × Int)) (F_zbk a1_ a2_ a3_ a5_) fun r1_ =>
 .c (Int × (Int × Int)) (F_zbk a1_ r1_.2.1 a4_ r1_.2.2) fun r2_ =>
 .c (Int × (Int × Int)) (F_zbk a1_ r1_.1 r2_.1 r2_.2.2) fun r3_ =>
 .l (r3_.2.1, r3_.2.2)
noncomputable def F_zbh (a1_ : Y1) (a2_ : Int) (a3_ : Int) (a4_ : Int) (a5_ : Int) : Option (Int × Int) := (T_zbh a1_ a2_ a3_ a4_ a5_).ev
noncomputable def A_zbh : Sh := (.cons (.dat y1) (.cons (.dat yi) (.cons (.dat yi) (.cons (.dat yi) (.cons (.box 64 0) .nil)))))
noncomputable def I_zbh : List (Nat × OSh) := [(64, .cells (.cons (.dat yi) .nil))]
noncomputable def K_zbh : RetK := { acts := [], res := [.tmp 10], sh := (.cons (.dat yi) .nil), obs := [(64, .cells (.cons (.dat yi) .nil))], pins := [(4, 0, 64)] }
noncomputable def D_zbh : FD := ⟨A_zbh, I_zbh, [.arg 4], Int × (Int), fun x => F_zbh x.1.1 x.1.2.1 x.1.2.2.1 x.1.2.2.2.1 x.2.1.1, fun r => ([.dat yi r.1], [(64, .cells [.dat yi r.2])])⟩
noncomputable def E_zbh : Env := envOf [(198, D_zbk)]
noncomputable def Z_zbh : Nat → Nat → List Nat := fun _ _ => []
noncomputable def O_zbh : List (Nat × LD) := []
noncomputable def C_zbh : Code := (f193.body).getD .skip
noncomputable def T_zbf (a1_ : Y1) (a2_ : Int) (a3_ : Int) : Tr (Int × Int) :=
 .c (Int × Int) (F_zbh a1_ (IntKind.wrap .i64 (a2_ - (1 : Int))) a2_ (IntKind.wrap .i64 (a2_ + (1 : Int))) a3_) fun r1_ =>
 .l (r1_.1, r1_.2)
noncomputable def F_zbf (a1_ : Y1) (a2_ : Int) (a3_ : Int) : Option (Int × Int) := (T_zbf a1_ a2_ a3_).ev
noncomputable def A_zbf : Sh := (.cons (.dat y1) (.cons (.dat yi) (.cons (.box 64 0) .nil)))
noncomputable def I_zbf : List (Nat × OSh) := [(64, .cells (.cons (.dat yi) .nil))]
noncomputable def K_zbf : RetK := { acts := [], res := [.tmp 6], sh := (.cons (.dat yi) .nil), obs := [(64, .cells (.cons (.dat yi) .nil))], pins := [(2, 0, 64)] }
noncomputable def D_zbf : FD := ⟨A_zbf, I_zbf, [.arg 2], Int × (Int), fun x => F_zbf x.1.1 x.1.2.1 x.2.1.1, fun r => ([.dat yi r.1], [(64, .cells [.dat yi r.2])])⟩
noncomputable def E_zbf : Env := envOf [(193, D_zbh)]
noncomputable def Z_zbf : Nat → Nat → List Nat := fun _ _ => []
noncomputable def O_zbf : List (Nat × LD) := []
noncomputable def C_zbf : Code := (f192.body).getD .skip
noncomputable def T_zbb (a1_ : Y1) (a2_ : Int) (a3_ : Int) : Tr (Int × Int) :=
 .g (!decide ((4 : Int) = 0)) <|
 .g (!decide ((4 : Int) = 0)) <|
 .g (!decide ((4 : Int) = 0)) <|
 .t (decide ((8 : Int) ≤ (IntKind.wrap .i64 (a3_ - a2_))))
 (.t (decide ((50 : Int) ≤ (IntKind.wrap .i64 (a3_ - a2_))))
 (.c (Int × Int) (F_zbf a1_ (IntKind.wrap .i64 (a2_ + (IntKind.wrap .i64 ((IntKind.wrap .i64 (Int.tdiv (IntKind.wrap .i64 (a3_ - a2_)) (4 : Int))) * (1 : Int))))) (0 : Int)) fun r1_ =>
 .c (Int × Int) (F_zbf a1_ (IntKind.wrap .i64 (a2_ + (IntKind.wrap .i64 ((IntKind.wrap .i64 (Int.tdiv (IntKind.wrap .i64 (a3_ - a2_)) (4 : Int))) * (2 : Int))))) r1_.2) fun r2_ =>
 .c (Int × Int) (F_zbf a1_ (IntKind.wrap .i64 (a2_ + (IntKind.wrap .i64 ((IntKind.wrap .i64 (Int.tdiv (IntKind.wrap .i64 (a3_ - a2_)) (4 : Int))) * (3 : Int))))) r2_.2) fun r3_ =>
 .c (Int × Int) (F_zbh a1_ r1_.1 r2_.1 r3_.1 r3_.2) fun r4_ =>
 .t (r4_.2 == (0 : Int))
 (.l (r4_.1, (1 : Int)))
 (.t (r4_.2 == (12 : Int))
 (.l (r4_.1, (2 : Int)))
 (.l (r4_.1, (0 : Int)))))
 (.c (Int × Int) (F_zbh a1_ (IntKind.wrap .i64 (a2_ + (IntKind.wrap .i64 ((IntKind.wrap .i64 (Int.tdiv (IntKind.wrap .i64 (a3_ - a2_)) (4 : Int))) * (1 : Int))))) (IntKind.wrap .i64 (a2_ + (IntKind.wrap .i64 ((IntKind.wrap .i64 (Int.tdiv (IntKind.wrap .i64 (a3_ - a2_)) (4 : Int))) * (2 : Int))))) (IntKind.wrap .i64 (a2_ + (IntKind.wrap .i64 ((IntKind.wrap .i64 (Int.tdiv (IntKind.wrap .i64 (a3_ - a2_)) (4 : Int))) * (3 : Int))))) (0 : Int)) fun r5_ =>
 .t (r5_.2 == (0 : Int))
 (.l (r5_.1, (1 : Int)))
 (.t (r5_.2 == (12 : Int))
 (.l (r5_.1, (2 : Int)))
 (.l (r5_.1, (0 : Int))))))
 (.t ((0 : Int) == (0 : Int))
 (.l ((IntKind.wrap .i64 (a2_ + (IntKind.wrap .i64 ((IntKind.wrap .i64 (Int.tdiv (IntKind.wrap .i64 (a3_ - a2_)) (4 : Int))) * (2 : Int))))), (1 : Int)))
 (.t ((0 : Int) == (12 : Int))
 (.l ((IntKind.wrap .i64 (a2_ + (IntKind.wrap .i64 ((IntKind.wrap .i64 (Int.tdiv (IntKind.wrap .i64 (a3_ - a2_)) (4 : Int))) * (2 : Int))))), (2 : Int)))
 (.l ((IntKind.wrap .i64 (a2_ + (IntKind.wrap .i64 ((IntKind.wrap .i64 (Int.tdiv (IntKind.wrap .i64 (a3_ - a2_)) (4 : Int))) * (2 : Int))))), (0 : Int)))))
noncomputable def F_zbb (a1_ : Y1) (a2_ : Int) (a3_ : Int) : Option (Int × Int) := (T_zbb a1_ a2_ a3_).ev
noncomputable def A_zbb : Sh := (.cons (.dat y1) (.cons (.dat yi) (.cons (.dat yi) .nil)))
noncomputable def I_zbb : List (Nat × OSh) := []
noncomputable def K_zbb : RetK := { acts := [], res := [.tmp 6, .tmp 7], sh := (.cons (.dat yi) (.cons (.dat yi) .nil)), obs := [], pins := [] }
noncomputable def D_zbb : FD := ⟨A_zbb, I_zbb, [], Int × (Int), fun x => F_zbb x.1.1 x.1.2.1 x.1.2.2.1, fun r => ([.dat yi r.1, .dat yi r.2], [])⟩
noncomputable def E_zbb : Env := envOf [(192, D_zbf), (193, D_zbh)]
noncomputable def Z_zbb : Nat → Nat → List Nat := fun _ _ => []
noncomputable def O_zbb : List (Nat × LD) := []
noncomputable def C_zbb : Code := (f171.body).getD .skip
noncomputable def S_zbm_0 (k : Int × (Int × Y1)) (v : Int) : Tr ((Int) ⊕ (Int)) :=
 .t (decide (v ≤ k.2.1))
 (.g (inR v (List.length k.2.2)) <|
 .g (decide ((Int.toNat v) < List.length k.2.2)) <|
 .g (inR k.1 (List.length k.2.2)) <|
 .g (decide ((Int.toNat k.1) < List.length k.2.2)) <|
 .c (Bool) (F_zb (List.getD k.2.2 (Int.toNat v) (0 : Int)) (List.getD k.2.2 (Int.toNat k.1) (0 : Int))) fun r5_ =>
 .t r5_
 (.l (.inl (IntKind.wrap .i64 (v + (1 : Int)))))
 (.l (.inr v)))
 (.l (.inr v))
noncomputable def L_zbm_0 (k : Int × (Int × Y1)) (v : Int) : Option (Int) := iter (fun v => (S_zbm_0 k v).ev) v
noncomputable def DL_zbm_0 : LD := ⟨{ acts := [], S := { slots := [0, 1, 10, 11], sh := (.cons (.arr 64) (.cons (.dat yi) (.cons (.dat yi) (.cons (.dat yi) .nil)))), obs := [(64, .arr 3 yi)] } }, [(0, { acts := [], S := { slots := [0, 1, 10, 11], sh := (.cons (.arr 64) (.cons (.dat yi) (.cons (.dat yi) (.cons (.dat yi) .nil)))), obs := [(64, .arr 3 yi)] } })], (yh [] .nil), Int × (Int × Y1), Int, Int, fun k v => (((), (k.1, (v, (k.2.1, ())))), (k.2.2, ())), fun t => (t.1.2.1, (t.1.2.2.2.1, t.2.1)), fun t => t.1.2.2.1, S_zbm_0, fun k r => .l (.exit 0 (mkSt ({ slots := [0, 1, 10, 11], sh := (.cons (.arr 64) (.cons (.dat yi) (.cons (.dat yi) (.cons (.dat yi) .nil)))), obs := [(64, .arr 3 yi)] }) (((), (k.1, (r, (k.2.1, ())))), (k.2.2, ()))))⟩
noncomputable def S_zbm_2 (k : Int × (Int × Y1)) (v : Int) : Tr ((Int) ⊕ (Int)) :=
 .t (decide (k.2.1 ≤ v))
 (.g (inR v (List.length k.2.2)) <|
 .g (decide ((Int.toNat v) < List.length k.2.2)) <|
 .g (inR k.1 (List.length k.2.2)) <|
 .g (decide ((Int.toNat k.1) < List.length k.2.2)) <|
 .c (Bool) (F_zb (List.getD k.2.2 (Int.toNat v) (0 : Int)) (List.getD k.2.2 (Int.toNat k.1) (0 : Int))) fun r15_ =>
 .t (!r15_)
 (.l (.inl (IntKind.wrap .i64 (v - (1 : Int)))))
 (.l (.inr v)))
 (.l (.inr v))
noncomputable def L_zbm_2 (k : Int × (Int × Y1)) (v : Int) : Option (Int) := iter (fun v => (S_zbm_2 k v).ev) v
noncomputable def DL_zbm_2 : LD := ⟨{ acts := [], S := { slots := [0, 1, 10, 11], sh := (.cons (.arr 64) (.cons (.dat yi) (.cons (.dat yi) (.cons (.dat yi) .nil)))), obs := [(64, .arr 3 yi)] } }, [(2, { acts := [], S := { slots := [0, 1, 10, 11], sh := (.cons (.arr 64) (.cons (.dat yi) (.cons (.dat yi) (.cons (.dat yi) .nil)))), obs := [(64, .arr 3 yi)] } })], (yh [] .nil), Int × (Int × Y1), Int, Int, fun k v => (((), (k.1, (k.2.1, (v, ())))), (k.2.2, ())), fun t => (t.1.2.1, (t.1.2.2.1, t.2.1)), fun t => t.1.2.2.2.1, S_zbm_2, fun k r => .l (.exit 2 (mkSt ({ slots := [0, 1, 10, 11], sh := (.cons (.arr 64) (.cons (.dat yi) (.cons (.dat yi) (.cons (.dat yi) .nil)))), obs := [(64, .arr 3 yi)] }) (((), (k.1, (k.2.1, (r, ())))), (k.2.2, ()))))⟩
noncomputable def S_zbm_6 (k : Int × (Int × Y1)) (v : Int) : Tr ((Int) ⊕ (Int)) :=
 .t (decide (v ≤ k.2.1))
 (.g (inR v (List.length k.2.2)) <|
 .g (decide ((Int.toNat v) < List.length k.2.2)) <|
 .g (inR k.1 (List.length k.2.2)) <|
 .g (decide ((Int.toNat k.1) < List.length k.2.2)) <|
 .c (Bool) (F_zb (List.getD k.2.2 (Int.toNat v) (0 : Int)) (List.getD k.2.2 (Int.toNat k.1) (0 : Int))) fun r29_ =>
 .t r29_
 (.l (.inl (IntKind.wrap .i64 (v + (1 : Int)))))
 (.l (.inr v)))
 (.l (.inr v))
noncomputable def L_zbm_6 (k : Int × (Int × Y1)) (v : Int) : Option (Int) := iter (fun v => (S_zbm_6 k v).ev) v
noncomputable def DL_zbm_6 : LD := ⟨{ acts := [], S := { slots := [0, 1, 10, 11], sh := (.cons (.arr 64) (.cons (.dat yi) (.cons (.dat yi) (.cons (.dat yi) .nil)))), obs := [(64, .arr 3 yi)] } }, [(6, { acts := [], S := { slots := [0, 1, 10, 11], sh := (.cons (.arr 64) (.cons (.dat yi) (.cons (.dat yi) (.cons (.dat yi) .nil)))), obs := [(64, .arr 3 yi)] } })], (yh [] .nil), Int × (Int × Y1), Int, Int, fun k v => (((), (k.1, (v, (k.2.1, ())))), (k.2.2, ())), fun t => (t.1.2.1, (t.1.2.2.2.1, t.2.1)), fun t => t.1.2.2.1, S_zbm_6, fun k r => .l (.exit 6 (mkSt ({ slots := [0, 1, 10, 11], sh := (.cons (.arr 64) (.cons (.dat yi) (.cons (.dat yi) (.cons (.dat yi) .nil)))), obs := [(64, .arr 3 yi)] }) (((), (k.1, (r, (k.2.1, ())))), (k.2.2, ()))))⟩
noncomputable def S_zbm_8 (k : Int × (Int × Y1)) (v : Int) : Tr ((Int) ⊕ (Int)) :=
 .t (decide (k.2.1 ≤ v))
 (.g (inR v (List.length k.2.2)) <|
 .g (decide ((Int.toNat v) < List.length k.2.2)) <|
 .g (inR k.1 (List.length k.2.2)) <|
 .g (decide ((Int.toNat k.1) < List.length k.2.2)) <|
 .c (Bool) (F_zb (List.getD k.2.2 (Int.toNat v) (0 : Int)) (List.getD k.2.2 (Int.toNat k.1) (0 : Int))) fun r39_ =>
 .t (!r39_)
 (.l (.inl (IntKind.wrap .i64 (v - (1 : Int)))))
 (.l (.inr v)))
 (.l (.inr v))
noncomputable def L_zbm_8 (k : Int × (Int × Y1)) (v : Int) : Option (Int) := iter (fun v => (S_zbm_8 k v).ev) v
noncomputable def DL_zbm_8 : LD := ⟨{ acts := [], S := { slots := [0, 1, 10, 11], sh := (.cons (.arr 64) (.cons (.dat yi) (.cons (.dat yi) (.cons (.dat yi) .nil)))), obs := [(64, .arr 3 yi)] } }, [(8, { acts := [], S := { slots := [0, 1, 10, 11], sh := (.cons (.arr 64) (.cons (.dat yi) (.cons (.dat yi) (.cons (.dat yi) .nil)))), obs := [(64, .arr 3 yi)] } })], (yh [] .nil), Int × (Int × Y1), Int, Int, fun k v => (((), (k.1, (k.2.1, (v, ())))), (k.2.2, ())), fun t => (t.1.2.1, (t.1.2.2.1, t.2.1)), fun t => t.1.2.2.2.1, S_zbm_8, fun k r => .l (.exit 8 (mkSt ({ slots := [0, 1, 10, 11], sh := (.cons (.arr 64) (.cons (.dat yi) (.cons (.dat yi) (.cons (.dat yi) .nil)))), obs := [(64, .arr 3 yi)] }) (((), (k.1, (k.2.1, (r, ())))), (k.2.2, ()))))⟩
noncomputable def S_zbm_4 (k : Int) (v : Int × (Int × Y1)) : Tr ((Int × (Int × Y1)) ⊕ (Int × Y1)) :=
 .c (Int) (L_zbm_6 (k, (v.2.1, v.2.2)) v.1) fun r34_ =>
 .c (Int) (L_zbm_8 (k, (r34_, v.2.2)) v.2.1) fun r44_ =>
 .t (decide (r44_ < r34_))
 (.l (.inr (r44_, v.2.2)))
 (.g (inR r44_ (List.length v.2.2)) <|
 .g (decide ((Int.toNat r44_) < List.length v.2.2)) <|
 .g (inR r34_ (List.length v.2.2)) <|
 .g (decide ((Int.toNat r34_) < List.length v.2.2)) <|
 .g (inR r34_ (List.length v.2.2)) <|
 .g (decide ((Int.toNat r34_) < List.length v.2.2)) <|
 .g (inR r44_ (List.length (List.set v.2.2 (Int.toNat r34_) (List.getD v.2.2 (Int.toNat r44_) (0 : Int))))) <|
 .g (decide ((Int.toNat r44_) < List.length (List.set v.2.2 (Int.toNat r34_) (List.getD v.2.2 (Int.toNat r44_) (0 : Int))))) <|
 .l (.inl ((IntKind.wrap .i64 (r34_ + (1 : Int))), ((IntKind.wrap .i64 (r44_ - (1 : Int))), (List.set (List.set v.2.2 (Int.toNat r34_) (List.getD v.2.2 (Int.toNat r44_) (0 : Int))) (Int.toNat r44_) (List.getD v.2.2 (Int.toNat r34_) (0 : Int)))))))
noncomputable def L_zbm_4 (k : Int) (v : Int × (Int × Y1)) : Option (Int × Y1) := iter (fun v => (S_zbm_4 k v).ev) v
noncomputable def DL_zbm_4 : LD := ⟨{ acts := [], S := { slots := [0, 1, 10, 11], sh := (.cons (.arr 64) (.cons (.dat yi) (.cons (.dat yi) (.cons (.dat yi) .nil)))), obs := [(64, .arr 3 yi)] } }, [(4, { acts := [], S := { slots := [0, 1, 11], sh := (.cons (.arr 64) (.cons (.dat yi) (.cons (.dat yi) .nil))), obs := [(64, .arr 3 yi)] } })], (yh [] .nil), Int, Int × (Int × Y1), Int × Y1, fun k v => (((), (k, (v.1, (v.2.1, ())))), (v.2.2, ())), fun t => t.1.2.1, fun t => (t.1.2.2.1, (t.1.2.2.2.1, t.2.1)), S_zbm_4, fun k r => .l (.exit 4 (mkSt ({ slots := [0, 1, 11], sh := (.cons (.arr 64) (.cons (.dat yi) (.cons (.dat yi) .nil))), obs := [(64, .arr 3 yi)] }) (((), (k, (r.1, ()))), (r.2, ()))))⟩
noncomputable def T_zbm (a2_ : Int) (a3_ : Int) (a4_ : Int) (a1_ : Y1) : Tr (Int × (Bool × Y1)) :=
 .g (inR a4_ (List.length a1_)) <|
 .g (decide ((Int.toNat a4_) < List.length a1_)) <|
 .g (inR a2_ (List.length a1_)) <|
 .g (decide ((Int.toNat a2_) < List.length a1_)) <|
 .g (inR a2_ (List.length a1_)) <|
 .g (decide ((Int.toNat a2_) < List.length a1_)) <|
 .g (inR a4_ (List.length (List.set a1_ (Int.toNat a2_) (List.getD a1_ (Int.toNat a4_) (0 : Int))))) <|
 .g (decide ((Int.toNat a4_) < List.length (List.set a1_ (Int.toNat a2_) (List.getD a1_ (Int.toNat a4_) (0 : Int))))) <|
 .c (Int) (L_zbm_0 (a2_, ((IntKind.wrap .i64 (a3_ - (1 : Int))), (List.set (List.set a1_ (Int.toNat a2_) (List.getD a1_ (Int.toNat a4_) (0 : Int))) (Int.toNat a4_) (List.getD a1_ (Int.toNat a2_) (0 : Int))))) (IntKind.wrap .i64 (a2_ + (1 : Int)))) fun r10_ =>
 .c (Int) (L_zbm_2 (a2_, (r10_, (List.set (List.set a1_ (Int.toNat a2_) (List.getD a1_ (Int.toNat a4_) (0 : Int))) (Int.toNat a4_) (List.getD a1_ (Int.toNat a2_) (0 : Int))))) (IntKind.wrap .i64 (a3_ - (1 : Int)))) fun r20_ =>
 .t (decide (r20_ < r10_))
 (.g (inR a2_ (List.length (List.set (List.set a1_ (Int.toNat a2_) (List.getD a1_ (Int.toNat a4_) (0 : Int))) (Int.toNat a4_) (List.getD a1_ (Int.toNat a2_) (0 : Int))))) <|
 .g (decide ((Int.toNat a2_) < List.length (List.set (List.set a1_ (Int.toNat a2_) (List.getD a1_ (Int.toNat a4_) (0 : Int))) (Int.toNat a4_) (List.getD a1_ (Int.toNat a2_) (0 : Int))))) <|
 .g (inR r20_ (List.length (List.set (List.set a1_ (Int.toNat a2_) (List.getD a1_ (Int.toNat a4_) (0 : Int))) (Int.toNat a4_) (List.getD a1_ (Int.toNat a2_) (0 : Int))))) <|
 .g (decide ((Int.toNat r20_) < List.length (List.set (List.set a1_ (Int.toNat a2_) (List.getD a1_ (Int.toNat a4_) (0 : Int))) (Int.toNat a4_) (List.getD a1_ (Int.toNat a2_) (0 : Int))))) <|
 .g (inR r20_ (List.length (List.set (List.set a1_ (Int.toNat a2_) (List.getD a1_ (Int.toNat a4_) (0 : Int))) (Int.toNat a4_) (List.getD a1_ (Int.toNat a2_) (0 : Int))))) <|
 .g (decide ((Int.toNat r20_) < List.length (List.set (List.set a1_ (Int.toNat a2_) (List.getD a1_ (Int.toNat a4_) (0 : Int))) (Int.toNat a4_) (List.getD a1_ (Int.toNat a2_) (0 : Int))))) <|
 .g (inR a2_ (List.length (List.set (List.set (List.set a1_ (Int.toNat a2_) (List.getD a1_ (Int.toNat a4_) (0 : Int))) (Int.toNat a4_) (List.getD a1_ (Int.toNat a2_) (0 : Int))) (Int.toNat r20_) (List.getD (List.set (List.set a1_ (Int.toNat a2_) (List.getD a1_ (Int.toNat a4_) (0 : Int))) (Int.toNat a4_) (List.getD a1_ (Int.toNat a2_) (0 : Int))) (Int.toNat a2_) (0 : Int))))) <|
 .g (decide ((Int.toNat a2_) < List.length (List.set (List.set (List.set a1_ (Int.toNat a2_) (List.getD a1_ (Int.toNat a4_) (0 : Int))) (Int.toNat a4_) (List.getD a1_ (Int.toNat a2_) (0 : Int))) (Int.toNat r20_) (List.getD (List.set (List.set a1_ (Int.toNat a2_) (List.getD a1_ (Int.toNat a4_) (0 : Int))) (Int.toNat a4_) (List.getD a1_ (Int.toNat a2_) (0 : Int))) (Int.toNat a2_) (0 : Int))))) <|
 .l (r20_, (true, (List.set (List.set (List.set (List.set a1_ (Int.toNat a2_) (List.getD a1_ (Int.toNat a4_) (0 : Int))) (Int.toNat a4_) (List.getD a1_ (Int.toNat a2_) (0 : Int))) (Int.toNat r20_) (List.getD (List.set (List.set a1_ (Int.toNat a2_) (List.getD a1_ (Int.toNat a4_) (0 : Int))) (Int.toNat a4_) (List.getD a1_ (Int.toNat a2_) (0 : Int))) (Int.toNat a2_) (0 : Int))) (Int.toNat a2_) (List.getD (List.set (List.set a1_ (Int.toNat a2_) (List.getD a1_ (Int.toNat a4_) (0 : Int))) (Int.toNat a4_) (List.getD a1_ (Int.toNat a2_) (0 : Int))) (Int.toNat r20_) (0 : Int))))))
 (.g (inR r20_ (List.length (List.set (List.set a1_ (Int.toNat a2_) (List.getD a1_ (Int.toNat a4_) (0 : Int))) (Int.toNat a4_) (List.getD a1_ (Int.toNat a2_) (0 : Int))))) <|
 .g (decide ((Int.toNat r20_) < List.length (List.set (List.set a1_ (Int.toNat a2_) (List.getD a1_ (Int.toNat a4_) (0 : Int))) (Int.toNat a4_) (List.getD a1_ (Int.toNat a2_) (0 : Int))))) <|
 .g (inR r10_ (List.length (List.set (List.set a1_ (Int.toNat a2_) (List.getD a1_ (Int.toNat a4_) (0 : Int))) (Int.toNat a4_) (List.getD a1_ (Int.toNat a2_) (0 : Int))))) <|
 .g (decide ((Int.toNat r10_) < List.length (List.set (List.set a1_ (Int.toNat a2_) (List.getD a1_ (Int.toNat a4_) (0 : Int))) (Int.toNat a4_) (List.getD a1_ (Int.toNat a2_) (0 : Int))))) <|
 .g (inR r10_ (List.length (List.set (List.set a1_ (Int.toNat a2_) (List.getD a1_ (Int.toNat a4_) (0 : Int))) (Int.toNat a4_) (List.getD a1_ (Int.toNat a2_) (0 : Int))))) <|
 .g (decide ((Int.toNat r10_) < List.length (List.set (List.set a1_ (Int.toNat a2_) (List.getD a1_ (Int.toNat a4_) (0 : Int))) (Int.toNat a4_) (List.getD a1_ (Int.toNat a2_) (0 : Int))))) <|
 .g (inR r20_ (List.length (List.set (List.set (List.set a1_ (Int.toNat a2_) (List.getD a1_ (Int.toNat a4_) (0 : Int))) (Int.toNat a4_) (List.getD a1_ (Int.toNat a2_) (0 : Int))) (Int.toNat r10_) (List.getD (List.set (List.set a1_ (Int.toNat a2_) (List.getD a1_ (Int.toNat a4_) (0 : Int))) (Int.toNat a4_) (List.getD a1_ (Int.toNat a2_) (0 : Int))) (Int.toNat r20_) (0 : Int))))) <|
 .g (decide ((Int.toNat r20_) < List.length (List.set (List.set (List.set a1_ (Int.toNat a2_) (List.getD a1_ (Int.toNat a4_) (0 : Int))) (Int.toNat a4_) (List.getD a1_ (Int.toNat a2_) (0 : Int))) (Int.toNat r10_) (List.getD (List.set (List.set a1_ (Int.toNat a2_) (List.getD a1_ (Int.toNat a4_) (0 : Int))) (Int.toNat a4_) (List.getD a1_ (Int.toNat a2_) (0 : Int))) (Int.toNat r20_) (0 : Int))))) <|
 .c (Int × Y1) (L_zbm_4 a2_ ((IntKind.wrap .i64 (r10_ + (1 : Int))), ((IntKind.wrap .i64 (r20_ - (1 : Int))), (List.set (List.set (List.set (List.set a1_ (Int.toNat a2_) (List.getD a1_ (Int.toNat a4_) (0 : Int))) (Int.toNat a4_) (List.getD a1_ (Int.toNat a2_) (0 : Int))) (Int.toNat r10_) (List.getD (List.set (List.set a1_ (Int.toNat a2_) (List.getD a1_ (Int.toNat a4_) (0 : Int))) (Int.toNat a4_) (List.getD a1_ (Int.toNat a2_) (0 : Int))) (Int.toNat r20_) (0 : Int))) (Int.toNat r20_) (List.getD (List.set (List.set a1_ (Int.toNat a2_) (List.getD a1_ (Int.toNat a4_) (0 : Int))) (Int.toNat a4_) (List.getD a1_ (Int.toNat a2_) (0 : Int))) (Int.toNat r10_) (0 : Int)))))) fun r48_ =>
 .g (inR a2_ (List.length r48_.2)) <|
 .g (decide ((Int.toNat a2_) < List.length r48_.2)) <|
 .g (inR r48_.1 (List.length r48_.2)) <|
 .g (decide ((Int.toNat r48_.1) < List.length r48_.2)) <|
 .g (inR r48_.1 (List.length r48_.2)) <|
 .g (decide ((Int.toNat r48_.1) < List.length r48_.2)) <|
 .g (inR a2_ (List.length (List.set r48_.2 (Int.toNat r48_.1) (List.getD r48_.2 (Int.toNat a2_) (0 : Int))))) <|
 .g (decide ((Int.toNat a2_) < List.length (List.set r48_.2 (Int.toNat r48_.1) (List.getD r48_.2 (Int.toNat a2_) (0 : Int))))) <|
 .l (r48_.1, (false, (List.set (List.set r48_.2 (Int.toNat r48_.1) (List.getD r48_.2 (Int.toNat a2_) (0 : Int))) (Int.toNat a2_) (List.getD r48_.2 (Int.toNat r48_.1) (0 : Int))))))
noncomputable def F_zbm (a2_ : Int) (a3_ : Int) (a4_ : Int) (a1_ : Y1) : Option (Int × (Bool × Y1)) := (T_zbm a2_ a3_ a4_ a1_).ev
noncomputable def A_zbm : Sh := (.cons (.arr 64) (.cons (.dat yi) (.cons (.dat yi) (.cons (.dat yi) .nil))))
noncomputable def I_zbm : List (Nat × OSh) := [(64, .arr 3 yi)]
noncomputable def K_zbm : RetK := { acts := [], res := [.tmp 8, .tmp 9], sh := (.cons (.dat yi) (.cons (.dat .bool) .nil)), obs := [(64, .arr 3 yi)], pins := [(0, 0, 64)] }
noncomputable def D_zbm : FD := ⟨A_zbm, I_zbm, [.arg 0], Int × (Bool × Y1), fun x => F_zbm x.1.2.1 x.1.2.2.1 x.1.2.2.2.1 x.2.1, fun r => ([.dat yi r.1, .dat .bool r.2.1], [(64, .arr 3 yi r.2.2)])⟩
noncomputable def E_zbm : Env := envOf [(174, D_zb)]
noncomputable def Z_zbm : Nat → Nat → List Nat := fun _ _ => []
noncomputable def O_zbm : List (Nat × LD) := [(0, DL_zbm_0), (2, DL_zbm_2), (6, DL_zbm_6), (8, DL_zbm_8), (4, DL_zbm_4)]
noncomputable def C_zbm : Code := (f176.body).getD .skip
noncomputable def S_zbo_0 (rec_ : (Int) → (Int) → (Int) → Y1 → Option Y1) (_k : Unit) (v : Int × (Int × (Int × (Bool × (Bool × Y1))))) : Tr ((Int × (Int × (Int × (Bool × (Bool × Y1))))) ⊕ Y1) :=
 .t (decide ((IntKind.wrap .i64 (v.2.1 - v.1)) ≤ (12 : Int)))
 (.c Y1 (F_zbd v.1 v.2.1 v.2.2.2.2.2) fun r7_ =>
 .l (.inr r7_))
 (.t (v.2.2.1 == (0 : Int))
 (.f)
 (.t (!v.2.2.2.1)
 (.c Y1 (F_zaz v.1 v.2.1 v.2.2.2.2.2) fun r8_ =>
 .c (Int × Int) (F_zbb r8_ v.1 v.2.1) fun r9_ =>
 .t (r9_.2 == (2 : Int))
 (.f)
 (.t v.2.2.2.1
 (.t v.2.2.2.2.1
 (.t (r9_.2 == (1 : Int))
 (.f)
 (.t (decide ((0 : Int) < v.1))
 (.g (inR (IntKind.wrap .i64 (v.1 - (1 : Int))) (List.length r8_)) <|
 .g (decide ((Int.toNat (IntKind.wrap .i64 (v.1 - (1 : Int)))) < List.length r8_)) <|
 .g (inR r9_.1 (List.length r8_)) <|
 .g (decide ((Int.toNat r9_.1) < List.length r8_)) <|
 .c (Bool) (F_zb (List.getD r8_ (Int.toNat (IntKind.wrap .i64 (v.1 - (1 : Int)))) (0 : Int)) (List.getD r8_ (Int.toNat r9_.1) (0 : Int))) fun r10_ =>
 .t (!r10_)
 (.f)
 (.c (Int × (Bool × Y1)) (F_zbm v.1 v.2.1 r9_.1 r8_) fun r11_ =>
 .g (!decide ((8 : Int) = 0)) <|
 .t (decide ((IntKind.wrap .i64 (r11_.1 - v.1)) < (IntKind.wrap .i64 (v.2.1 - r11_.1))))
 (.c Y1 (rec_ v.1 r11_.1 (IntKind.wrap .i64 (v.2.2.1 - (1 : Int))) r11_.2.2) fun r12_ =>
 .l (.inl ((IntKind.wrap .i64 (r11_.1 + (1 : Int))), (v.2.1, ((IntKind.wrap .i64 (v.2.2.1 - (1 : Int))), ((decide ((IntKind.wrap .i64 (Int.tdiv (IntKind.wrap .i64 (v.2.1 - v.1)) (8 : Int))) ≤ (IntKind.wrap .i64 (r11_.1 - v.1)))), (r11_.2.1, r12_)))))))
 (.c Y1 (rec_ (IntKind.wrap .i64 (r11_.1 + (1 : Int))) v.2.1 (IntKind.wrap .i64 (v.2.2.1 - (1 : Int))) r11_.2.2) fun r13_ =>
 .l (.inl (v.1, (r11_.1, ((IntKind.wrap .i64 (v.2.2.1 - (1 : Int))), ((decide ((IntKind.wrap .i64 (Int.tdiv (IntKind.wrap .i64 (v.2.1 - v.1)) (8 : Int))) ≤ (IntKind.wrap .i64 (v.2.1 - r11_.1)))), (r11_.2.1, r13_)))))))))
 (.c (Int × (Bool × Y1)) (F_zbm v.1 v.2.1 r9_.1 r8_) fun r14_ =>
 .g (!decide ((8 : Int) = 0)) <|
 .t (decide ((IntKind.wrap .i64 (r14_.1 - v.1)) < (IntKind.wrap .i64 (v.2.1 - r14_.1))))
 (.c Y1 (rec_ v.1 r14_.1 (IntKind.wrap .i64 (v.2.2.1 - (1 : Int))) r14_.2.2) fun r15_ =>
 .l (.inl ((IntKind.wrap .i64 (r14_.1 + (1 : Int))), (v.2.1, ((IntKind.wrap .i64 (v.2.2.1 - (1 : Int))), ((decide ((IntKind.wrap .i64 (Int.tdiv (IntKind.wrap .i64 (v.2.1 - v.1)) (8 : Int))) ≤ (IntKind.wrap .i64 (r14_.1 - v.1)))), (r14_.2.1, r15_)))))))
 (.c Y1 (rec_ (IntKind.wrap .i64 (r14_.1 + (1 : Int))) v.2.1 (IntKind.wrap .i64 (v.2.2.1 - (1 : Int))) r14_.2.2) fun r16_ =>
 .l (.inl (v.1, (r14_.1, ((IntKind.wrap .i64 (v.2.2.1 - (1 : Int))), ((decide ((IntKind.wrap .i64 (Int.tdiv (IntKind.wrap .i64 (v.2.1 - v.1)) (8 : Int))) ≤ (IntKind.wrap .i64 (v.2.1 - r14_.1)))), (r14_.2.1, r16_))))))))))
 (.t (decide ((0 : Int) < v.1))
 (.g (inR (IntKind.wrap .i64 (v.1 - (1 : Int))) (List.length r8_)) <|
 .g (decide ((Int.toNat (IntKind.wrap .i64 (v.1 - (1 : Int)))) < List.length r8_)) <|
 .g (inR r9_.1 (List.length r8_)) <|
 .g (decide ((Int.toNat r9_.1) < List.length r8_)) <|
 .c (Bool) (F_zb (List.getD r8_ (Int.toNat (IntKind.wrap .i64 (v.1 - (1 : Int)))) (0 : Int)) (List.getD r8_ (Int.toNat r9_.1) (0 : Int))) fun r17_ =>
 .t (!r17_)
 (.f)
 (.c (Int × (Bool × Y1)) (F_zbm v.1 v.2.1 r9_.1 r8_) fun r18_ =>
 .g (!decide ((8 : Int) = 0)) <|
 .t (decide ((IntKind.wrap .i64 (r18_.1 - v.1)) < (IntKind.wrap .i64 (v.2.1 - r18_.1))))
 (.c Y1 (rec_ v.1 r18_.1 (IntKind.wrap .i64 (v.2.2.1 - (1 : Int))) r18_.2.2) fun r19_ =>
 .l (.inl ((IntKind.wrap .i64 (r18_.1 + (1 : Int))), (v.2.1, ((IntKind.wrap .i64 (v.2.2.1 - (1 : Int))), ((decide ((IntKind.wrap .i64 (Int.tdiv (IntKind.wrap .i64 (v.2.1 - v.1)) (8 : Int))) ≤ (IntKind.wrap .i64 (r18_.1 - v.1)))), (r18_.2.1, r19_)))))))
 (.c Y1 (rec_ (IntKind.wrap .i64 (r18_.1 + (1 : Int))) v.2.1 (IntKind.wrap .i64 (v.2.2.1 - (1 : Int))) r18_.2.2) fun r20_ =>
 .l (.inl (v.1, (r18_.1, ((IntKind.wrap .i64 (v.2.2.1 - (1 : Int))), ((decide ((IntKind.wrap .i64 (Int.tdiv (IntKind.wrap .i64 (v.2.1 - v.1)) (8 : Int))) ≤ (IntKind.wrap .i64 (v.2.1 - r18_.1)))), (r18_.2.1, r20_)))))))))
 (.c (Int × (Bool × Y1)) (F_zbm v.1 v.2.1 r9_.1 r8_) fun r21_ =>
 .g (!decide ((8 : Int) = 0)) <|
 .t (decide ((IntKind.wrap .i64 (r21_.1 - v.1)) < (IntKind.wrap .i64 (v.2.1 - r21_.1))))
 (.c Y1 (rec_ v.1 r21_.1 (IntKind.wrap .i64 (v.2.2.1 - (1 : Int))) r21_.2.2) fun r22_ =>
 .l (.inl ((IntKind.wrap .i64 (r21_.1 + (1 : Int))), (v.2.1, ((IntKind.wrap .i64 (v.2.2.1 - (1 : Int))), ((decide ((IntKind.wrap .i64 (Int.tdiv (IntKind.wrap .i64 (v.2.1 - v.1)) (8 : Int))) ≤ (IntKind.wrap .i64 (r21_.1 - v.1)))), (r21_.2.1, r22_)))))))
 (.c Y1 (rec_ (IntKind.wrap .i64 (r21_.1 + (1 : Int))) v.2.1 (IntKind.wrap .i64 (v.2.2.1 - (1 : Int))) r21_.2.2) fun r23_ =>
 .l (.inl (v.1, (r21_.1, ((IntKind.wrap .i64 (v.2.2.1 - (1 : Int))), ((decide ((IntKind.wrap .i64 (Int.tdiv (IntKind.wrap .i64 (v.2.1 - v.1)) (8 : Int))) ≤ (IntKind.wrap .i64 (v.2.1 - r21_.1)))), (r21_.2.1, r23_))))))))))
 (.t (decide ((0 : Int) < v.1))
 (.g (inR (IntKind.wrap .i64 (v.1 - (1 : Int))) (List.length r8_)) <|
 .g (decide ((Int.toNat (IntKind.wrap .i64 (v.1 - (1 : Int)))) < List.length r8_)) <|
 .g (inR r9_.1 (List.length r8_)) <|
 .g (decide ((Int.toNat r9_.1) < List.length r8_)) <|
 .c (Bool) (F_zb (List.getD r8_ (Int.toNat (IntKind.wrap .i64 (v.1 - (1 : Int)))) (0 : Int)) (List.getD r8_ (Int.toNat r9_.1) (0 : Int))) fun r24_ =>
 .t (!r24_)
 (.f)
 (.c (Int × (Bool × Y1)) (F_zbm v.1 v.2.1 r9_.1 r8_) fun r25_ =>
 .g (!decide ((8 : Int) = 0)) <|
 .t (decide ((IntKind.wrap .i64 (r25_.1 - v.1)) < (IntKind.wrap .i64 (v.2.1 - r25_.1))))
 (.c Y1 (rec_ v.1 r25_.1 (IntKind.wrap .i64 (v.2.2.1 - (1 : Int))) r25_.2.2) fun r26_ =>
 .l (.inl ((IntKind.wrap .i64 (r25_.1 + (1 : Int))), (v.2.1, ((IntKind.wrap .i64 (v.2.2.1 - (1 : Int))), ((decide ((IntKind.wrap .i64 (Int.tdiv (IntKind.wrap .i64 (v.2.1 - v.1)) (8 : Int))) ≤ (IntKind.wrap .i64 (r25_.1 - v.1)))), (r25_.2.1, r26_)))))))
 (.c Y1 (rec_ (IntKind.wrap .i64 (r25_.1 + (1 : Int))) v.2.1 (IntKind.wrap .i64 (v.2.2.1 - (1 : Int))) r25_.2.2) fun r27_ =>
 .l (.inl (v.1, (r25_.1, ((IntKind.wrap .i64 (v.2.2.1 - (1 : Int))), ((decide ((IntKind.wrap .i64 (Int.tdiv (IntKind.wrap .i64 (v.2.1 - v.1)) (8 : Int))) ≤ (IntKind.wrap .i64 (v.2.1 - r25_.1)))), (r25_.2.1, r27_)))))))))
 (.c (Int × (Bool × Y1)) (F_zbm v.1 v.2.1 r9_.1 r8_) fun r28_ =>
 .g (!decide ((8 : Int) = 0)) <|
 .t (decide ((IntKind.wrap .i64 (r28_.1 - v.1)) < (IntKind.wrap .i64 (v.2.1 - r28_.1))))
 (.c Y1 (rec_ v.1 r28_.1 (IntKind.wrap .i64 (v.2.2.1 - (1 : Int))) r28_.2.2) fun r29_ =>
 .l (.inl ((IntKind.wrap .i64 (r28_.1 + (1 : Int))), (v.2.1, ((IntKind.wrap .i64 (v.2.2.1 - (1 : Int))), ((decide ((IntKind.wrap .i64 (Int.tdiv (IntKind.wrap .i64 (v.2.1 - v.1)) (8 : Int))) ≤ (IntKind.wrap .i64 (r28_.1 - v.1)))), (r28_.2.1, r29_)))))))
 (.c Y1 (rec_ (IntKind.wrap .i64 (r28_.1 + (1 : Int))) v.2.1 (IntKind.wrap .i64 (v.2.2.1 - (1 : Int))) r28_.2.2) fun r30_ =>
 .l (.inl (v.1, (r28_.1, ((IntKind.wrap .i64 (v.2.2.1 - (1 : Int))), ((decide ((IntKind.wrap .i64 (Int.tdiv (IntKind.wrap .i64 (v.2.1 - v.1)) (8 : Int))) ≤ (IntKind.wrap .i64 (v.2.1 - r28_.1)))), (r28_.2.1, r30_)))))))))))
 (.c (Int × Int) (F_zbb v.2.2.2.2.2 v.1 v.2.1) fun r31_ =>
 .t (r31_.2 == (2 : Int))
 (.f)
 (.t v.2.2.2.1
 (.t v.2.2.2.2.1
 (.t (r31_.2 == (1 : Int))
 (.f)
 (.t (decide ((0 : Int) < v.1))
 (.g (inR (IntKind.wrap .i64 (v.1 - (1 : Int))) (List.length v.2.2.2.2.2)) <|
 .g (decide ((Int.toNat (IntKind.wrap .i64 (v.1 - (1 : Int)))) < List.length v.2.2.2.2.2)) <|
 .g (inR r31_.1 (List.length v.2.2.2.2.2)) <|
 .g (decide ((Int.toNat r31_.1) < List.length v.2.2.2.2.2)) <|
 .c (Bool) (F_zb (List.getD v.2.2.2.2.2 (Int.toNat (IntKind.wrap .i64 (v.1 - (1 : Int)))) (0 : Int)) (List.getD v.2.2.2.2.2 (Int.toNat r31_.1) (0 : Int))) fun r32_ =>
 .t (!r32_)
 (.f)
 (.c (Int × (Bool × Y1)) (F_zbm v.1 v.2.1 r31_.1 v.2.2.2.2.2) fun r33_ =>
 .g (!decide ((8 : Int) = 0)) <|
 .t (decide ((IntKind.wrap .i64 (r33_.1 - v.1)) < (IntKind.wrap .i64 (v.2.1 - r33_.1))))
 (.c Y1 (rec_ v.1 r33_.1 v.2.2.1 r33_.2.2) fun r34_ =>
 .l (.inl ((IntKind.wrap .i64 (r33_.1 + (1 : Int))), (v.2.1, (v.2.2.1, ((decide ((IntKind.wrap .i64 (Int.tdiv (IntKind.wrap .i64 (v.2.1 - v.1)) (8 : Int))) ≤ (IntKind.wrap .i64 (r33_.1 - v.1)))), (r33_.2.1, r34_)))))))
 (.c Y1 (rec_ (IntKind.wrap .i64 (r33_.1 + (1 : Int))) v.2.1 v.2.2.1 r33_.2.2) fun r35_ =>
 .l (.inl (v.1, (r33_.1, (v.2.2.1, ((decide ((IntKind.wrap .i64 (Int.tdiv (IntKind.wrap .i64 (v.2.1 - v.1)) (8 : Int))) ≤ (IntKind.wrap .i64 (v.2.1 - r33_.1)))), (r33_.2.1, r35_)))))))))
 (.c (Int × (Bool × Y1)) (F_zbm v.1 v.2.1 r31_.1 v.2.2.2.2.2) fun r36_ =>
 .g (!decide ((8 : Int) = 0)) <|
 .t (decide ((IntKind.wrap .i64 (r36_.1 - v.1)) < (IntKind.wrap .i64 (v.2.1 - r36_.1))))
 (.c Y1 (rec_ v.1 r36_.1 v.2.2.1 r36_.2.2) fun r37_ =>
 .l (.inl ((IntKind.wrap .i64 (r36_.1 + (1 : Int))), (v.2.1, (v.2.2.1, ((decide ((IntKind.wrap .i64 (Int.tdiv (IntKind.wrap .i64 (v.2.1 - v.1)) (8 : Int))) ≤ (IntKind.wrap .i64 (r36_.1 - v.1)))), (r36_.2.1, r37_)))))))
 (.c Y1 (rec_ (IntKind.wrap .i64 (r36_.1 + (1 : Int))) v.2.1 v.2.2.1 r36_.2.2) fun r38_ =>
 .l (.inl (v.1, (r36_.1, (v.2.2.1, ((decide ((IntKind.wrap .i64 (Int.tdiv (IntKind.wrap .i64 (v.2.1 - v.1)) (8 : Int))) ≤ (IntKind.wrap .i64 (v.2.1 - r36_.1)))), (r36_.2.1, r38_))))))))))
 (.t (decide ((0 : Int) < v.1))
 (.g (inR (IntKind.wrap .i64 (v.1 - (1 : Int))) (List.length v.2.2.2.2.2)) <|
 .g (decide ((Int.toNat (IntKind.wrap .i64 (v.1 - (1 : Int)))) < List.length v.2.2.2.2.2)) <|
 .g (inR r31_.1 (List.length v.2.2.2.2.2)) <|
 .g (decide ((Int.toNat r31_.1) < List.length v.2.2.2.2.2)) <|
 .c (Bool) (F_zb (List.getD v.2.2.2.2.2 (Int.toNat (IntKind.wrap .i64 (v.1 - (1 : Int)))) (0 : Int)) (List.getD v.2.2.2.2.2 (Int.toNat r31_.1) (0 : Int))) fun r39_ =>
 .t (!r39_)
 (.f)
 (.c (Int × (Bool × Y1)) (F_zbm v.1 v.2.1 r31_.1 v.2.2.2.2.2) fun r40_ =>
 .g (!decide ((8 : Int) = 0)) <|
 .t (decide ((IntKind.wrap .i64 (r40_.1 - v.1)) < (IntKind.wrap .i64 (v.2.1 - r40_.1))))
 (.c Y1 (rec_ v.1 r40_.1 v.2.2.1 r40_.2.2) fun r41_ =>
 .l (.inl ((IntKind.wrap .i64 (r40_.1 + (1 : Int))), (v.2.1, (v.2.2.1, ((decide ((IntKind.wrap .i64 (Int.tdiv (IntKind.wrap .i64 (v.2.1 - v.1)) (8 : Int))) ≤ (IntKind.wrap .i64 (r40_.1 - v.1)))), (r40_.2.1, r41_)))))))
 (.c Y1 (rec_ (IntKind.wrap .i64 (r40_.1 + (1 : Int))) v.2.1 v.2.2.1 r40_.2.2) fun r42_ =>
 .l (.inl (v.1, (r40_.1, (v.2.2.1, ((decide ((IntKind.wrap .i64 (Int.tdiv (IntKind.wrap .i64 (v.2.1 - v.1)) (8 : Int))) ≤ (IntKind.wrap .i64 (v.2.1 - r40_.1)))), (r40_.2.1, r42_)))))))))
 (.c (Int × (Bool × Y1)) (F_zbm v.1 v.2.1 r31_.1 v.2.2.2.2.2) fun r43_ =>
 .g (!decide ((8 : Int) = 0)) <|
 .t (decide ((IntKind.wrap .i64 (r43_.1 - v.1)) < (IntKind.wrap .i64 (v.2.1 - r43_.1))))
 (.c Y1 (rec_ v.1 r43_.1 v.2.2.1 r43_.2.2) fun r44_ =>
 .l (.inl ((IntKind.wrap .i64 (r43_.1 + (1 : Int))), (v.2.1, (v.2.2.1, ((decide ((IntKind.wrap .i64 (Int.tdiv (IntKind.wrap .i64 (v.2.1 - v.1)) (8 : Int))) ≤ (IntKind.wrap .i64 (r43_.1 - v.1)))), (r43_.2.1, r44_)))))))
 (.c Y1 (rec_ (IntKind.wrap .i64 (r43_.1 + (1 : Int))) v.2.1 v.2.2.1 r43_.2.2) fun r45_ =>
 .l (.inl (v.1, (r43_.1, (v.2.2.1, ((decide ((IntKind.wrap .i64 (Int.tdiv (IntKind.wrap .i64 (v.2.1 - v.1)) (8 : Int))) ≤ (IntKind.wrap .i64 (v.2.1 - r43_.1)))), (r43_.2.1, r45_))))))))))
 (.t (decide ((0 : Int) < v.1))
 (.g (inR (IntKind.wrap .i64 (v.1 - (1 : Int))) (List.length v.2.2.2.2.2)) <|
 .g (decide ((Int.toNat (IntKind.wrap .i64 (v.1 - (1 : Int)))) < List.length v.2.2.2.2.2)) <|
 .g (inR r31_.1 (List.length v.2.2.2.2.2)) <|
 .g (decide ((Int.toNat r31_.1) < List.length v.2.2.2.2.2)) <|
 .c (Bool) (F_zb (List.getD v.2.2.2.2.2 (Int.toNat (IntKind.wrap .i64 (v.1 - (1 : Int)))) (0 : Int)) (List.getD v.2.2.2.2.2 (Int.toNat r31_.1) (0 : Int))) fun r46_ =>
 .t (!r46_)
 (.f)
 (.c (Int × (Bool × Y1)) (F_zbm v.1 v.2.1 r31_.1 v.2.2.2.2.2) fun r47_ =>
 .g (!decide ((8 : Int) = 0)) <|
 .t (decide ((IntKind.wrap .i64 (r47_.1 - v.1)) < (IntKind.wrap .i64 (v.2.1 - r47_.1))))
 (.c Y1 (rec_ v.1 r47_.1 v.2.2.1 r47_.2.2) fun r48_ =>
 .l (.inl ((IntKind.wrap .i64 (r47_.1 + (1 : Int))), (v.2.1, (v.2.2.1, ((decide ((IntKind.wrap .i64 (Int.tdiv (IntKind.wrap .i64 (v.2.1 - v.1)) (8 : Int))) ≤ (IntKind.wrap .i64 (r47_.1 - v.1)))), (r47_.2.1, r48_)))))))
 (.c Y1 (rec_ (IntKind.wrap .i64 (r47_.1 + (1 : Int))) v.2.1 v.2.2.1 r47_.2.2) fun r49_ =>
 .l (.inl (v.1, (r47_.1, (v.2.2.1, ((decide ((IntKind.wrap .i64 (Int.tdiv (IntKind.wrap .i64 (v.2.1 - v.1)) (8 : Int))) ≤ (IntKind.wrap .i64 (v.2.1 - r47_.1)))), (r47_.2.1, r49_)))))))))
 (.c (Int × (Bool × Y1)) (F_zbm v.1 v.2.1 r31_.1 v.2.2.2.2.2) fun r50_ =>
 .g (!decide ((8 : Int) = 0)) <|
 .t (decide ((IntKind.wrap .i64 (r50_.1 - v.1)) < (IntKind.wrap .i64 (v.2.1 - r50_.1))))
 (.c Y1 (rec_ v.1 r50_.1 v.2.2.1 r50_.2.2) fun r51_ =>
 .l (.inl ((IntKind.wrap .i64 (r50_.1 + (1 : Int))), (v.2.1, (v.2.2.1, ((decide ((IntKind.wrap .i64 (Int.tdiv (IntKind.wrap .i64 (v.2.1 - v.1)) (8 : Int))) ≤ (IntKind.wrap .i64 (r50_.1 - v.1)))), (r50_.2.1, r51_)))))))
 (.c Y1 (rec_ (IntKind.wrap .i64 (r50_.1 + (1 : Int))) v.2.1 v.2.2.1 r50_.2.2) fun r52_ =>
 .l (.inl (v.1, (r50_.1, (v.2.2.1, ((decide ((IntKind.wrap .i64 (Int.tdiv (IntKind.wrap .i64 (v.2.1 - v.1)) (8 : Int))) ≤ (IntKind.wrap .i64 (v.2.1 - r50_.1)))), (r50_.2.1, r52_)))))))))))))
noncomputable def L_zbo_0 (rec_ : (Int) → (Int) → (Int) → Y1 → Option Y1) (k : Unit) (v : Int × (Int × (Int × (Bool × (Bool × Y1))))) : Option Y1 := iter (fun v => (S_zbo_0 rec_ k v).ev) v
noncomputable def DL_zbo_0 (rec_ : (Int) → (Int) → (Int) → Y1 → Option Y1) : LD where
 head := { acts := [], S := { slots := [0, 1, 2, 3, 8, 9], sh := (.cons (.arr 64) (.cons (.dat yi) (.cons (.dat yi) (.cons (.dat yi) (.cons (.dat .bool) (.cons (.dat .bool) .nil)))))), obs := [(64, .arr 3 yi)] } }
 exits := []
 rets := { acts := [], S := { slots := [0], sh := (.cons (.arr 64) .nil), obs := [(64, .arr 3 yi)] } }
 K := Unit
 V := Int × (Int × (Int × (Bool × (Bool × Y1))))
 R := Y1
 join := fun _ v => (((), (v.1, (v.2.1, (v.2.2.1, (v.2.2.2.1, (v.2.2.2.2.1, ())))))), (v.2.2.2.2.2, ()))
 sk := fun _ => ()
 sv := fun t => (t.1.2.1, (t.1.2.2.1, (t.1.2.2.2.1, (t.1.2.2.2.2.1, (t.1.2.2.2.2.2.1, t.2.1)))))
 step := S_zbo_0 rec_
 leaf := fun _ r => .l (.ret (mkSt ({ slots := [0], sh := (.cons (.arr 64) .nil), obs := [(64, .arr 3 yi)] }) (((), ()), (r, ()))))
noncomputable def T_zbo (rec_ : (Int) → (Int) → (Int) → Y1 → Option Y1) (a2_ : Int) (a3_ : Int) (a4_ : Int) (a1_ : Y1) : Tr Y1 :=
 .c Y1 (L_zbo_0 rec_ () (a2_, (a3_, (a4_, (true, (true, a1_)))))) fun r54_ =>
 .l r54_
noncomputable def F_zbo : Nat → (Int) → (Int) → (Int) → Y1 → Option Y1
 | 0 => fun _ _ _ _ => none
 | n + 1 => fun a2_ a3_ a4_ a1_ => (T_zbo (F_zbo n) a2_ a3_ a4_ a1_).ev
noncomputable def A_zbo : Sh := (.cons (.arr 64) (.cons (.dat yi) (.cons (.dat yi) (.cons (.dat yi) .nil))))
noncomputable def I_zbo : List (Nat × OSh) := [(64, .arr 3 yi)]
noncomputable def K_zbo : RetK := { acts := [], res := [], sh := .nil, obs := [(64, .arr 3 yi)], pins := [(0, 0, 64)] }
noncomputable def Dr_zbo (rec_ : (Int) → (Int) → (Int) → Y1 → Option Y1) : FD where
 A := A_zbo
 ins := I_zbo
 lend := [.arg 0]
 R := Y1
 F := fun x => rec_ x.1.2.1 x.1.2.2.1 x.1.2.2.2.1 x.2.1
 emb := fun r => ([], [(64, .arr 3 yi r)])
noncomputable def D_zbo (n : Nat) : FD := Dr_zbo (F_zbo n)
noncomputable def E_zbo (rec_ : (Int) → (Int) → (Int) → Y1 → Option Y1) : Env := envOf [(168, D_zbd), (170, D_zaz), (171, D_zbb), (174, D_zb), (176, D_zbm), (154, Dr_zbo rec_)]
noncomputable def Z_zbo : Nat → Nat → List Nat := fun _ _ => []
noncomputable def O_zbo (rec_ : (Int) → (Int) → (Int) → Y1 → Option Y1) : List (Nat × LD) := [(0, DL_zbo_0 rec_)]
noncomputable def C_zbo : Code := (f154.body).getD .skip
end Go.Proofs.YtlemejhffpkbkaaGreat
