import Derived.Test.YtbofjefpngpegaaGreatB40
import Derived.Test.YtbofjefpngpegaaGreatProg
namespace Go.Proofs.YtbofjefpngpegaaGreat
open Go.Proofs.Tryz
abbrev yi : Ty := .int .i64
abbrev y1 : Ty := .slice yi
abbrev y2 : Ty := .slice y1
abbrev y3 : Ty := .slice y2
abbrev Y1 : Type := List Int
abbrev Y2 : Type := List Y1
abbrev Y3 : Type := List Y2
abbrev yh (l : List Nat) (s : Sh) : Keep := { acts := [], S := { slots := l, sh := s, obs := [] } }
abbrev ys (l : List Nat) (s : Sh) : SSh := { slots := l, sh := s, obs := [] }
theorem yn {α : Type _} {p : α → Prop} : ∀ x, x ∈ ([] : List α) → p x := fun _ h => absurd h List.not_mem_nil
theorem yc {α : Type _} {p : α → Prop} {a : α} {l : List α} (h : p a ∧ ∀ x, x ∈ l → p x) : ∀ x, x ∈ a :: l → p x := List.forall_mem_cons.2 h
noncomputable def tabl : List (Nat × TD) := [(3, .sc yi), (4, .sc .bool), (5, .sc (.int .u8)), (9, .sc .str), (22, .sl 3 yi 8), (23, .sl 22 y1 24), (32, .st (.pair y1 y2) [(22, y1), (23, y2)]), (54, .sl 5 (.int .u8) 1), (58, .ar 2 3 yi (.pair yi yi)), (89, .sc (.int .u64)), (100, .sc (.int .u64)), (102, .st (.pair (.slice (.int .u8)) (.pair yi (.int .u64))) [(54, (.slice (.int .u8))), (3, yi), (100, (.int .u64))]), (187, .sc (.int .u64))]
noncomputable def tt : Nat → TD := fun i => match look tabl i with
 | some d => d
 | none => .no
noncomputable def warz (a1_ : Y1) : Tr (Bool) :=
 .l (decide ((65536 : Int) < ((List.length a1_ : Nat) : Int)))
noncomputable def wbdu (a1_ : Y1) : Option (Bool) := (warz a1_).ev
noncomputable def wbnv : Sh := (.cons (.dat (.slice (.int .u8))) .nil)
noncomputable def wbnw : List (Nat × OSh) := []
noncomputable def K_zag : RetK := { acts := [], res := [.tmp 2], sh := (.cons (.dat .bool) .nil), obs := [], pins := [] }
noncomputable def D_zag : FD := ⟨wbnv, wbnw, [], Bool, fun x => wbdu x.1.1, fun r => ([.dat .bool r], [])⟩
noncomputable def wbdv : Env := wae []
noncomputable def wbdw : Nat → Nat → List Nat := fun _ _ => []
noncomputable def wbdx : List (Nat × LD) := []
noncomputable def wbdy : Code := (f25.body).getD .skip
noncomputable def wasa (a1_ : Y1) (a2_ : Int) (a3_ : Int) : Tr (Int × (Y1 × (Int × Int))) :=
 .t (decide (a2_ < ((List.length a1_ : Nat) : Int)))
 (.g (inR a2_ (List.length a1_)) <|
 .t (decide ((IntKind.wrap .i64 (a2_ + (1 : Int))) ≤ ((List.length a1_ : Nat) : Int)))
 (.l ((IntKind.wrap .i64 (List.getD a1_ (Int.toNat a2_) (0 : Int))), (a1_, ((IntKind.wrap .i64 (a2_ + (1 : Int))), (IntKind.wrap .u64 ((IntKind.wrap .u64 ((IntKind.wrap .u64 (a3_ * (6364136223846793005 : Int))) + (IntKind.wrap .u64 (IntKind.wrap .i64 (List.getD a1_ (Int.toNat a2_) (0 : Int)))))) + (462197 : Int)))))))
 (.g (decide ((0 : Int) ≤ (40 : Int))) <|
 .l ((IntKind.wrap .i64 (IntKind.wrap .u64 (BitVec.toNat ((BitVec.ofInt (IntKind.bits .u64) (Int.fdiv (IntKind.wrap .u64 ((IntKind.wrap .u64 ((IntKind.wrap .u64 (a3_ * (6364136223846793005 : Int))) + (IntKind.wrap .u64 (IntKind.wrap .i64 (List.getD a1_ (Int.toNat a2_) (0 : Int)))))) + (462197 : Int))) (2 ^ (min (Int.toNat (40 : Int)) (IntKind.bits .u64))))) &&& (BitVec.ofInt (IntKind.bits .u64) (255 : Int)))))), (a1_, ((IntKind.wrap .i64 (a2_ + (1 : Int))), (IntKind.wrap .u64 ((IntKind.wrap .u64 ((IntKind.wrap .u64 (a3_ * (6364136223846793005 : Int))) + (IntKind.wrap .u64 (IntKind.wrap .i64 (List.getD a1_ (Int.toNat a2_) (0 : Int)))))) + (462197 : Int))))))))
 (.t (decide ((IntKind.wrap .i64 (a2_ + (1 : Int))) ≤ ((List.length a1_ : Nat) : Int)))
 (.l ((0 : Int), (a1_, ((IntKind.wrap .i64 (a2_ + (1 : Int))), (IntKind.wrap .u64 ((IntKind.wrap .u64 ((IntKind.wrap .u64 (a3_ * (6364136223846793005 : Int))) + (IntKind.wrap .u64 (0 : Int)))) + (462197 : Int)))))))
 (.g (decide ((0 : Int) ≤ (40 : Int))) <|
 .l ((IntKind.wrap .i64 (IntKind.wrap .u64 (BitVec.toNat ((BitVec.ofInt (IntKind.bits .u64) (Int.fdiv (IntKind.wrap .u64 ((IntKind.wrap .u64 ((IntKind.wrap .u64 (a3_ * (6364136223846793005 : Int))) + (IntKind.wrap .u64 (0 : Int)))) + (462197 : Int))) (2 ^ (min (Int.toNat (40 : Int)) (IntKind.bits .u64))))) &&& (BitVec.ofInt (IntKind.bits .u64) (255 : Int)))))), (a1_, ((IntKind.wrap .i64 (a2_ + (1 : Int))), (IntKind.wrap .u64 ((IntKind.wrap .u64 ((IntKind.wrap .u64 (a3_ * (6364136223846793005 : Int))) + (IntKind.wrap .u64 (0 : Int)))) + (462197 : Int))))))))
noncomputable def wagc (a1_ : Y1) (a2_ : Int) (a3_ : Int) : Option (Int × (Y1 × (Int × Int))) := (wasa a1_ a2_ a3_).ev
noncomputable def wbnx : Sh := (.cons (.box 64 0) .nil)
noncomputable def wbny : List (Nat × OSh) := [(64, .cells (.cons (.dat (.slice (.int .u8))) (.cons (.dat yi) (.cons (.dat (.int .u64)) .nil))))]
noncomputable def K_zbx : RetK := { acts := [], res := [.tmp 2], sh := (.cons (.dat yi) .nil), obs := [(64, .cells (.cons (.dat (.slice (.int .u8))) (.cons (.dat yi) (.cons (.dat (.int .u64)) .nil))))], pins := [(0, 0, 64)] }
noncomputable def D_zbx : FD := ⟨wbnx, wbny, [.arg 0], Int × (Y1 × (Int × Int)), fun x => wagc x.2.1.1 x.2.1.2.1 x.2.1.2.2.1, fun r => ([.dat yi r.1], [(64, .cells [.dat (.slice (.int .u8)) r.2.1, .dat yi r.2.2.1, .dat (.int .u64) r.2.2.2])])⟩
noncomputable def wbdz : Env := wae []
noncomputable def wbea : Nat → Nat → List Nat := fun _ _ => []
noncomputable def wbeb : List (Nat × LD) := []
noncomputable def wbec : Code := (f139.body).getD .skip
noncomputable def wasb (a4_ : Int) (a1_ : Y1) (a2_ : Int) (a3_ : Int) : Tr (Int × (Y1 × (Int × Int))) :=
 .t (decide (a4_ ≤ (1 : Int)))
 (.l ((0 : Int), (a1_, (a2_, a3_))))
 (.c (Int × (Y1 × (Int × Int))) (wagc a1_ a2_ a3_) fun r1_ =>
 .t (decide ((200 : Int) < a4_))
 (.c (Int × (Y1 × (Int × Int))) (wagc r1_.2.1 r1_.2.2.1 r1_.2.2.2) fun r2_ =>
 .g (!decide (a4_ = 0)) <|
 .l ((Int.tmod (IntKind.wrap .i64 ((IntKind.wrap .i64 (r1_.1 * (256 : Int))) + r2_.1)) a4_), (r2_.2.1, (r2_.2.2.1, r2_.2.2.2))))
 (.g (!decide (a4_ = 0)) <|
 .l ((Int.tmod r1_.1 a4_), (r1_.2.1, (r1_.2.2.1, r1_.2.2.2)))))
noncomputable def wie (a4_ : Int) (a1_ : Y1) (a2_ : Int) (a3_ : Int) : Option (Int × (Y1 × (Int × Int))) := (wasb a4_ a1_ a2_ a3_).ev
noncomputable def wbnz : Sh := (.cons (.box 64 0) (.cons (.dat yi) .nil))
noncomputable def wboa : List (Nat × OSh) := [(64, .cells (.cons (.dat (.slice (.int .u8))) (.cons (.dat yi) (.cons (.dat (.int .u64)) .nil))))]
noncomputable def K_zbz : RetK := { acts := [], res := [.tmp 4], sh := (.cons (.dat yi) .nil), obs := [(64, .cells (.cons (.dat (.slice (.int .u8))) (.cons (.dat yi) (.cons (.dat (.int .u64)) .nil))))], pins := [(0, 0, 64)] }
noncomputable def D_zbz : FD := ⟨wbnz, wboa, [.arg 0], Int × (Y1 × (Int × Int)), fun x => wie x.1.2.1 x.2.1.1 x.2.1.2.1 x.2.1.2.2.1, fun r => ([.dat yi r.1], [(64, .cells [.dat (.slice (.int .u8)) r.2.1, .dat yi r.2.2.1, .dat (.int .u64) r.2.2.2])])⟩
noncomputable def wbed : Env := wae [(139, D_zbx)]
noncomputable def wbee : Nat → Nat → List Nat := fun _ _ => []
noncomputable def wbef : List (Nat × LD) := []
noncomputable def wbeg : Code := (f83.body).getD .skip
noncomputable def wasc (a4_ : Y1) (a1_ : Y1) (a2_ : Int) (a3_ : Int) : Tr (Int × (Y1 × (Int × Int))) :=
 .c (Int × (Y1 × (Int × Int))) (wie ((List.length a4_ : Nat) : Int) a1_ a2_ a3_) fun r1_ =>
 .g (inR r1_.1 (List.length a4_)) <|
 .l ((List.getD a4_ (Int.toNat r1_.1) (0 : Int)), (r1_.2.1, (r1_.2.2.1, r1_.2.2.2)))
noncomputable def wjl (a4_ : Y1) (a1_ : Y1) (a2_ : Int) (a3_ : Int) : Option (Int × (Y1 × (Int × Int))) := (wasc a4_ a1_ a2_ a3_).ev
noncomputable def wbob : Sh := (.cons (.box 64 0) (.cons (.dat y1) .nil))
noncomputable def wboc : List (Nat × OSh) := [(64, .cells (.cons (.dat (.slice (.int .u8))) (.cons (.dat yi) (.cons (.dat (.int .u64)) .nil))))]
noncomputable def K_zbt : RetK := { acts := [], res := [.tmp 4], sh := (.cons (.dat yi) .nil), obs := [(64, .cells (.cons (.dat (.slice (.int .u8))) (.cons (.dat yi) (.cons (.dat (.int .u64)) .nil))))], pins := [(0, 0, 64)] }
noncomputable def D_zbt : FD := ⟨wbob, wboc, [.arg 0], Int × (Y1 × (Int × Int)), fun x => wjl x.1.2.1 x.2.1.1 x.2.1.2.1 x.2.1.2.2.1, fun r => ([.dat yi r.1], [(64, .cells [.dat (.slice (.int .u8)) r.2.1, .dat yi r.2.2.1, .dat (.int .u64) r.2.2.2])])⟩
noncomputable def wbeh : Env := wae [(83, D_zbz)]
noncomputable def wbei : Nat → Nat → List Nat := fun _ _ => []
noncomputable def wbej : List (Nat × LD) := []
noncomputable def wbek : Code := (f86.body).getD .skip
noncomputable def wlg (k : Int × (Int × (Int × (Int × Y1)))) (v : Int × (Y1 × (Int × (Int × Y1)))) : Tr ((Int × (Y1 × (Int × (Int × Y1)))) ⊕ (Y1 × (Int × (Int × Y1)))) :=
 .t (decide (v.1 < k.2.1))
 (.t (decide (v.1 < k.1))
 (.c (Int × (Y1 × (Int × Int))) (wie k.2.2.2.1 v.2.1 v.2.2.1 v.2.2.2.1) fun r14_ =>
 .g (decide ((List.length v.2.2.2.2 + List.length ([r14_.1] : Y1)) * 8 ≤ 140737488355328)) <|
 .l (.inl ((IntKind.wrap .i64 (v.1 + (1 : Int))), (r14_.2.1, (r14_.2.2.1, (r14_.2.2.2, (v.2.2.2.2 ++ ([r14_.1] : Y1))))))))
 (.l (.inr (v.2.1, (v.2.2.1, (v.2.2.2.1, v.2.2.2.2))))))
 (.l (.inr (v.2.1, (v.2.2.1, (v.2.2.2.1, v.2.2.2.2)))))
noncomputable def wagd (k : Int × (Int × (Int × (Int × Y1)))) (v : Int × (Y1 × (Int × (Int × Y1)))) : Option (Y1 × (Int × (Int × Y1))) := iter (fun v => (wlg k v).ev) v
noncomputable def wot : LD := ⟨{ acts := [.ownB 4 0 900340 3 yi, .ownB 7 0 900370 3 yi], S := { slots := [0, 1, 4, 5, 6, 7, 8, 9], sh := (.cons (.box 64 0) (.cons (.dat yi) (.cons (.box 4 0) (.cons (.dat yi) (.cons (.dat yi) (.cons (.box 7 0) (.cons (.dat yi) (.cons (.dat yi) .nil)))))))), obs := [(64, .cells (.cons (.dat (.slice (.int .u8))) (.cons (.dat yi) (.cons (.dat (.int .u64)) .nil)))), (4, .cells (.cons (.arr 900340) (.cons .nilsl .nil))), (7, .cells (.cons (.arr 900370) (.cons .nilsl .nil))), (900340, .arr 3 yi), (900370, .arr 3 yi)] } }, [(0, { acts := [], S := { slots := [0, 1, 4, 6, 7, 8], sh := (.cons (.box 64 0) (.cons (.dat yi) (.cons (.box 4 0) (.cons (.dat yi) (.cons (.box 7 0) (.cons (.dat yi) .nil)))))), obs := [(64, .cells (.cons (.dat (.slice (.int .u8))) (.cons (.dat yi) (.cons (.dat (.int .u64)) .nil)))), (4, .cells (.cons (.arr 900340) (.cons .nilsl .nil))), (7, .cells (.cons (.arr 900370) (.cons .nilsl .nil))), (900340, .arr 3 yi), (900370, .arr 3 yi)] } })], (yh [] .nil), Int × (Int × (Int × (Int × Y1))), Int × (Y1 × (Int × (Int × Y1))), Y1 × (Int × (Int × Y1)), fun k v => (((), (k.1, ((), (k.2.1, (k.2.2.1, ((), (k.2.2.2.1, (v.1, ())))))))), ((v.2.1, (v.2.2.1, (v.2.2.2.1, ()))), (((), ((), ())), (((), ((), ())), (k.2.2.2.2, (v.2.2.2.2, ())))))), fun t => (t.1.2.1, (t.1.2.2.2.1, (t.1.2.2.2.2.1, (t.1.2.2.2.2.2.2.1, t.2.2.2.2.1)))), fun t => (t.1.2.2.2.2.2.2.2.1, (t.2.1.1, (t.2.1.2.1, (t.2.1.2.2.1, t.2.2.2.2.2.1)))), wlg, fun k r => .l (.exit 0 (wav ({ slots := [0, 1, 4, 6, 7, 8], sh := (.cons (.box 64 0) (.cons (.dat yi) (.cons (.box 4 0) (.cons (.dat yi) (.cons (.box 7 0) (.cons (.dat yi) .nil)))))), obs := [(64, .cells (.cons (.dat (.slice (.int .u8))) (.cons (.dat yi) (.cons (.dat (.int .u64)) .nil)))), (4, .cells (.cons (.arr 900340) (.cons .nilsl .nil))), (7, .cells (.cons (.arr 900370) (.cons .nilsl .nil))), (900340, .arr 3 yi), (900370, .arr 3 yi)] }) (((), (k.1, ((), (k.2.2.1, ((), (k.2.2.2.1, ())))))), ((r.1, (r.2.1, (r.2.2.1, ()))), (((), ((), ())), (((), ((), ())), (k.2.2.2.2, (r.2.2.2, ()))))))))⟩
noncomputable def wlh (k : Int × (Int × (Int × (Int × (Y1 × (Y2 × (Y1 × Y2))))))) (v : Int × (Y1 × (Int × (Int × Y1)))) : Tr ((Int × (Y1 × (Int × (Int × Y1)))) ⊕ (Y1 × (Int × (Int × Y1)))) :=
 .t (decide (v.1 < ((List.length k.2.2.2.2.2.2.1 : Nat) : Int)))
 (.c (Int × (Y1 × (Int × Int))) (wie k.2.2.1 v.2.1 v.2.2.1 v.2.2.2.1) fun r48_ =>
 .g (decide ((List.length v.2.2.2.2 + List.length ([r48_.1] : Y1)) * 8 ≤ 140737488355328)) <|
 .l (.inl ((IntKind.wrap .i64 (v.1 + (1 : Int))), (r48_.2.1, (r48_.2.2.1, (r48_.2.2.2, (v.2.2.2.2 ++ ([r48_.1] : Y1))))))))
 (.l (.inr (v.2.1, (v.2.2.1, (v.2.2.2.1, v.2.2.2.2)))))
noncomputable def wage (k : Int × (Int × (Int × (Int × (Y1 × (Y2 × (Y1 × Y2))))))) (v : Int × (Y1 × (Int × (Int × Y1)))) : Option (Y1 × (Int × (Int × Y1))) := iter (fun v => (wlh k v).ev) v
noncomputable def wou : LD := ⟨{ acts := [], S := { slots := [0, 1, 4, 6, 7, 8, 10, 11, 12], sh := (.cons (.box 64 0) (.cons (.dat yi) (.cons (.box 4 0) (.cons (.dat yi) (.cons (.box 7 0) (.cons (.dat yi) (.cons (.dat yi) (.cons (.arr 51) (.cons (.dat yi) .nil))))))))), obs := [(64, .cells (.cons (.dat (.slice (.int .u8))) (.cons (.dat yi) (.cons (.dat (.int .u64)) .nil)))), (4, .cells (.cons (.arr 900340) (.cons (.arr 902341) .nil))), (7, .cells (.cons (.arr 900370) (.cons (.arr 902371) .nil))), (51, .arr 3 yi), (900340, .arr 3 yi), (902341, .rows 22 3 yi), (900370, .arr 3 yi), (902371, .rows 22 3 yi)] } }, [(4, { acts := [], S := { slots := [0, 1, 4, 6, 7, 8, 10, 11], sh := (.cons (.box 64 0) (.cons (.dat yi) (.cons (.box 4 0) (.cons (.dat yi) (.cons (.box 7 0) (.cons (.dat yi) (.cons (.dat yi) (.cons (.arr 51) .nil)))))))), obs := [(64, .cells (.cons (.dat (.slice (.int .u8))) (.cons (.dat yi) (.cons (.dat (.int .u64)) .nil)))), (4, .cells (.cons (.arr 900340) (.cons (.arr 902341) .nil))), (7, .cells (.cons (.arr 900370) (.cons (.arr 902371) .nil))), (51, .arr 3 yi), (900340, .arr 3 yi), (902341, .rows 22 3 yi), (900370, .arr 3 yi), (902371, .rows 22 3 yi)] } })], (yh [] .nil), Int × (Int × (Int × (Int × (Y1 × (Y2 × (Y1 × Y2)))))), Int × (Y1 × (Int × (Int × Y1))), Y1 × (Int × (Int × Y1)), fun k v => (((), (k.1, ((), (k.2.1, ((), (k.2.2.1, (k.2.2.2.1, ((), (v.1, ()))))))))), ((v.2.1, (v.2.2.1, (v.2.2.2.1, ()))), (((), ((), ())), (((), ((), ())), (v.2.2.2.2, (k.2.2.2.2.1, (k.2.2.2.2.2.1, (k.2.2.2.2.2.2.1, (k.2.2.2.2.2.2.2, ()))))))))), fun t => (t.1.2.1, (t.1.2.2.2.1, (t.1.2.2.2.2.2.1, (t.1.2.2.2.2.2.2.1, (t.2.2.2.2.2.1, (t.2.2.2.2.2.2.1, (t.2.2.2.2.2.2.2.1, t.2.2.2.2.2.2.2.2.1))))))), fun t => (t.1.2.2.2.2.2.2.2.2.1, (t.2.1.1, (t.2.1.2.1, (t.2.1.2.2.1, t.2.2.2.2.1)))), wlh, fun k r => .l (.exit 4 (wav ({ slots := [0, 1, 4, 6, 7, 8, 10, 11], sh := (.cons (.box 64 0) (.cons (.dat yi) (.cons (.box 4 0) (.cons (.dat yi) (.cons (.box 7 0) (.cons (.dat yi) (.cons (.dat yi) (.cons (.arr 51) .nil)))))))), obs := [(64, .cells (.cons (.dat (.slice (.int .u8))) (.cons (.dat yi) (.cons (.dat (.int .u64)) .nil)))), (4, .cells (.cons (.arr 900340) (.cons (.arr 902341) .nil))), (7, .cells (.cons (.arr 900370) (.cons (.arr 902371) .nil))), (51, .arr 3 yi), (900340, .arr 3 yi), (902341, .rows 22 3 yi), (900370, .arr 3 yi), (902371, .rows 22 3 yi)] }) (((), (k.1, ((), (k.2.1, ((), (k.2.2.1, (k.2.2.2.1, ((), ())))))))), ((r.1, (r.2.1, (r.2.2.1, ()))), (((), ((), ())), (((), ((), ())), (r.2.2.2, (k.2.2.2.2.1, (k.2.2.2.2.2.1, (k.2.2.2.2.2.2.1, (k.2.2.2.2.2.2.2, ())))))))))))⟩
noncomputable def wli (k : Int × (Int × (Int × (Y1 × (Y2 × Y1))))) (v : Int × (Y1 × (Int × (Int × Y2)))) : Tr ((Int × (Y1 × (Int × (Int × Y2)))) ⊕ (Y1 × (Int × (Int × Y2)))) :=
 .t (decide (v.1 < k.2.1))
 (.t (decide (v.1 < k.1))
 (.c (Y1 × (Int × (Int × Y1))) (wage (k.1, (k.2.1, (k.2.2.1, (v.1, (k.2.2.2.1, (k.2.2.2.2.1, (k.2.2.2.2.2, v.2.2.2.2))))))) ((0 : Int), (v.2.1, (v.2.2.1, (v.2.2.2.1, ([] : Y1)))))) fun r61_ =>
 .g (decide ((List.length v.2.2.2.2 + 1) * 24 ≤ 140737488355328)) <|
 .l (.inl ((IntKind.wrap .i64 (v.1 + (1 : Int))), (r61_.1, (r61_.2.1, (r61_.2.2.1, (List.set (v.2.2.2.2 ++ [[]]) (List.length v.2.2.2.2) r61_.2.2.2)))))))
 (.l (.inr (v.2.1, (v.2.2.1, (v.2.2.2.1, v.2.2.2.2))))))
 (.l (.inr (v.2.1, (v.2.2.1, (v.2.2.2.1, v.2.2.2.2)))))
noncomputable def wagf (k : Int × (Int × (Int × (Y1 × (Y2 × Y1))))) (v : Int × (Y1 × (Int × (Int × Y2)))) : Option (Y1 × (Int × (Int × Y2))) := iter (fun v => (wli k v).ev) v
noncomputable def wov : LD := ⟨{ acts := [.ownRB 4 1 902341 22 3 yi, .ownRB 7 1 902371 22 3 yi], S := { slots := [0, 1, 4, 6, 7, 8, 10], sh := (.cons (.box 64 0) (.cons (.dat yi) (.cons (.box 4 0) (.cons (.dat yi) (.cons (.box 7 0) (.cons (.dat yi) (.cons (.dat yi) .nil))))))), obs := [(64, .cells (.cons (.dat (.slice (.int .u8))) (.cons (.dat yi) (.cons (.dat (.int .u64)) .nil)))), (4, .cells (.cons (.arr 900340) (.cons (.arr 902341) .nil))), (7, .cells (.cons (.arr 900370) (.cons (.arr 902371) .nil))), (900340, .arr 3 yi), (902341, .rows 22 3 yi), (900370, .arr 3 yi), (902371, .rows 22 3 yi)] } }, [(2, { acts := [], S := { slots := [0, 4, 7], sh := (.cons (.box 64 0) (.cons (.box 4 0) (.cons (.box 7 0) .nil))), obs := [(64, .cells (.cons (.dat (.slice (.int .u8))) (.cons (.dat yi) (.cons (.dat (.int .u64)) .nil)))), (4, .cells (.cons (.arr 900340) (.cons (.arr 902341) .nil))), (7, .cells (.cons (.arr 900370) (.cons (.arr 902371) .nil))), (900340, .arr 3 yi), (902341, .rows 22 3 yi), (900370, .arr 3 yi), (902371, .rows 22 3 yi)] } })], (yh [] .nil), Int × (Int × (Int × (Y1 × (Y2 × Y1)))), Int × (Y1 × (Int × (Int × Y2))), Y1 × (Int × (Int × Y2)), fun k v => (((), (k.1, ((), (k.2.1, ((), (k.2.2.1, (v.1, ()))))))), ((v.2.1, (v.2.2.1, (v.2.2.2.1, ()))), (((), ((), ())), (((), ((), ())), (k.2.2.2.1, (k.2.2.2.2.1, (k.2.2.2.2.2, (v.2.2.2.2, ())))))))), fun t => (t.1.2.1, (t.1.2.2.2.1, (t.1.2.2.2.2.2.1, (t.2.2.2.2.1, (t.2.2.2.2.2.1, t.2.2.2.2.2.2.1))))), fun t => (t.1.2.2.2.2.2.2.1, (t.2.1.1, (t.2.1.2.1, (t.2.1.2.2.1, t.2.2.2.2.2.2.2.1)))), wli, fun k r => .l (.exit 2 (wav ({ slots := [0, 4, 7], sh := (.cons (.box 64 0) (.cons (.box 4 0) (.cons (.box 7 0) .nil))), obs := [(64, .cells (.cons (.dat (.slice (.int .u8))) (.cons (.dat yi) (.cons (.dat (.int .u64)) .nil)))), (4, .cells (.cons (.arr 900340) (.cons (.arr 902341) .nil))), (7, .cells (.cons (.arr 900370) (.cons (.arr 902371) .nil))), (900340, .arr 3 yi), (902341, .rows 22 3 yi), (900370, .arr 3 yi), (902371, .rows 22 3 yi)] }) (((), ((), ((), ()))), ((r.1, (r.2.1, (r.2.2.1, ()))), (((), ((), ())), (((), ((), ())), (k.2.2.2.1, (k.2.2.2.2.1, (k.2.2.2.2.2, (r.2.2.2, ()))))))))))⟩
noncomputable def wasd (a4_ : Int) (a1_ : Y1) (a2_ : Int) (a3_ : Int) : Tr (Y1 × (Y2 × (Y1 × (Int × Int)))) :=
 .c (Int × (Y1 × (Int × Int))) (wjl ([(3 : Int), (4 : Int), (2 : Int), (5 : Int), (1 : Int), (6 : Int), (7 : Int)] : Y1) a1_ a2_ a3_) fun r1_ =>
 .c (Int × (Y1 × (Int × Int))) (wjl ([(4 : Int), (3 : Int), (5 : Int), (2 : Int), (6 : Int), (7 : Int), (1 : Int), (0 : Int)] : Y1) r1_.2.1 r1_.2.2.1 r1_.2.2.2) fun r2_ =>
 .c (Int × (Y1 × (Int × Int))) (wjl ([(10 : Int), (10 : Int), (20 : Int), (4 : Int)] : Y1) r2_.2.1 r2_.2.2.1 r2_.2.2.2) fun r3_ =>
 .c (Y1 × (Int × (Int × Y1))) (wagd (a4_, (r1_.1, (r2_.1, (r3_.1, ([] : Y1))))) ((0 : Int), (r3_.2.1, (r3_.2.2.1, (r3_.2.2.2, ([] : Y1)))))) fun r23_ =>
 .c (Y1 × (Int × (Int × Y2))) (wagf (a4_, (r2_.1, (r3_.1, (([] : Y1), (([] : List Y1), r23_.2.2.2))))) ((0 : Int), (r23_.1, (r23_.2.1, (r23_.2.2.1, ([] : List Y1)))))) fun r69_ =>
 .l (r23_.2.2.2, (r69_.2.2.2, (r69_.1, (r69_.2.1, r69_.2.2.1))))
noncomputable def wace (a4_ : Int) (a1_ : Y1) (a2_ : Int) (a3_ : Int) : Option (Y1 × (Y2 × (Y1 × (Int × Int)))) := (wasd a4_ a1_ a2_ a3_).ev
noncomputable def wbod : Sh := (.cons (.box 64 0) (.cons (.dat yi) .nil))
noncomputable def wboe : List (Nat × OSh) := [(64, .cells (.cons (.dat (.slice (.int .u8))) (.cons (.dat yi) (.cons (.dat (.int .u64)) .nil))))]
noncomputable def K_zca : RetK := { acts := [.ren 900370 1, .ren 902371 2], res := [.cell 4 32], sh := (.cons (.agg (.cons (.arr 1) (.cons (.arr 2) .nil))) .nil), obs := [(1, .arr 3 yi), (2, .rows 22 3 yi), (64, .cells (.cons (.dat (.slice (.int .u8))) (.cons (.dat yi) (.cons (.dat (.int .u64)) .nil))))], pins := [(0, 0, 64)] }
noncomputable def D_zca : FD := ⟨wbod, wboe, [.arg 0], Y1 × (Y2 × (Y1 × (Int × Int))), fun x => wace x.1.2.1 x.2.1.1 x.2.1.2.1 x.2.1.2.2.1, fun r => ([.agg [.arr 1, .arr 2]], [(1, .arr 3 yi r.1), (2, .rows 22 3 yi r.2.1 none), (64, .cells [.dat (.slice (.int .u8)) r.2.2.1, .dat yi r.2.2.2.1, .dat (.int .u64) r.2.2.2.2])])⟩
noncomputable def wacf : Env := wae [(86, D_zbt), (83, D_zbz)]
noncomputable def wacg : Nat → Nat → List Nat := fun r i => match look [(1, [(2, [14]), (5, [17])]), (2, [(3, [21])])] r with
 | some l => (look l i).getD []
 | none => []
noncomputable def wach : List (Nat × LD) := [(0, wot), (4, wou), (2, wov)]
noncomputable def wxm : Code := (f168.body).getD .skip
noncomputable def wase (a1_ : Y1) : Tr Y1 :=
 .g (decide ((List.length ([] : Y1) + List.length a1_) * 8 ≤ 140737488355328)) <|
 .l (([] : Y1) ++ a1_)
noncomputable def waci (a1_ : Y1) : Option Y1 := (wase a1_).ev
noncomputable def wbof : Sh := (.cons (.dat y1) .nil)
noncomputable def wbog : List (Nat × OSh) := []
noncomputable def K_zcg : RetK := { acts := [.ren 3 0], res := [.tmp 2], sh := (.cons (.arr 0) .nil), obs := [(0, .arr 3 yi)], pins := [] }
noncomputable def D_zcg : FD := ⟨wbof, wbog, [], Y1, fun x => waci x.1.1, fun r => ([.arr 0], [(0, .arr 3 yi r)])⟩
noncomputable def wbel : Env := wae []
noncomputable def wbem : Nat → Nat → List Nat := fun _ _ => []
noncomputable def wben : List (Nat × LD) := []
noncomputable def wbeo : Code := (f122.body).getD .skip
noncomputable def wlj (k : Y1 × (Int × (Int × (Y1 × Y2)))) (v : List Y1) : Tr (Y2 ⊕ Y2) :=
 .t (decide (((List.length v : Nat) : Int) < (8 : Int)))
 (.c Y1 (waci k.2.2.2.1) fun r11_ =>
 .g (decide ((List.length v + 1) * 24 ≤ 140737488355328)) <|
 .l (.inl (List.set (v ++ [[]]) (List.length v) r11_)))
 (.l (.inr v))
noncomputable def wagg (k : Y1 × (Int × (Int × (Y1 × Y2)))) (v : List Y1) : Option Y2 := iter (fun v => (wlj k v).ev) v
noncomputable def wow : LD := ⟨{ acts := [.ownRB 4 1 901341 22 3 yi], S := { slots := [0, 3, 4], sh := (.cons (.box 64 0) (.cons (.box 3 0) (.cons (.box 4 0) .nil))), obs := [(64, .cells (.cons (.dat (.slice (.int .u8))) (.cons (.dat yi) (.cons (.dat (.int .u64)) .nil)))), (3, .cells (.cons (.arr 65) (.cons (.arr 66) .nil))), (4, .cells (.cons .nilsl (.cons (.arr 901341) .nil))), (65, .arr 3 yi), (66, .rows 22 3 yi), (901341, .rows 22 3 yi)] } }, [(1, { acts := [], S := { slots := [0, 3, 4], sh := (.cons (.box 64 0) (.cons (.box 3 0) (.cons (.box 4 0) .nil))), obs := [(64, .cells (.cons (.dat (.slice (.int .u8))) (.cons (.dat yi) (.cons (.dat (.int .u64)) .nil)))), (3, .cells (.cons (.arr 65) (.cons (.arr 66) .nil))), (4, .cells (.cons .nilsl (.cons (.arr 901341) .nil))), (65, .arr 3 yi), (66, .rows 22 3 yi), (901341, .rows 22 3 yi)] } })], (yh [] .nil), Y1 × (Int × (Int × (Y1 × Y2))), List Y1, List Y1, fun k v => (((), ((), ((), ()))), ((k.1, (k.2.1, (k.2.2.1, ()))), (((), ((), ())), (((), ((), ())), (k.2.2.2.1, (v, (k.2.2.2.2, ()))))))), fun t => (t.2.1.1, (t.2.1.2.1, (t.2.1.2.2.1, (t.2.2.2.2.1, t.2.2.2.2.2.2.1)))), fun t => t.2.2.2.2.2.1, wlj, fun k r => .l (.exit 1 (wav ({ slots := [0, 3, 4], sh := (.cons (.box 64 0) (.cons (.box 3 0) (.cons (.box 4 0) .nil))), obs := [(64, .cells (.cons (.dat (.slice (.int .u8))) (.cons (.dat yi) (.cons (.dat (.int .u64)) .nil)))), (3, .cells (.cons (.arr 65) (.cons (.arr 66) .nil))), (4, .cells (.cons .nilsl (.cons (.arr 901341) .nil))), (65, .arr 3 yi), (66, .rows 22 3 yi), (901341, .rows 22 3 yi)] }) (((), ((), ((), ()))), ((k.1, (k.2.1, (k.2.2.1, ()))), (((), ((), ())), (((), ((), ())), (k.2.2.2.1, (r, (k.2.2.2.2, ())))))))))⟩
noncomputable def wasf (a1_ : Y1) (a2_ : Int) (a3_ : Int) (a4_ : Y1) (a5_ : List Y1) : Tr (Y1 × (Y2 × (Y1 × (Int × Int)))) :=
 .t (((List.length a4_ : Nat) : Int) == (0 : Int))
 (.l (a4_, (a5_, (a1_, (a2_, a3_)))))
 (.c (Int × (Y1 × (Int × Int))) (wie ((List.length a4_ : Nat) : Int) a1_ a2_ a3_) fun r1_ =>
 .c (Int × (Y1 × (Int × Int))) (wie (60 : Int) r1_.2.1 r1_.2.2.1 r1_.2.2.2) fun r2_ =>
 .t (r2_.1 == (0 : Int))
 (.c (Int × (Y1 × (Int × Int))) (wjl ([(-1 : Int), (99 : Int), (100 : Int), (4611686018427387904 : Int)] : Y1) r2_.2.1 r2_.2.2.1 r2_.2.2.2) fun r3_ =>
 .g (inR r1_.1 (List.length a4_)) <|
 .g (decide ((Int.toNat r1_.1) < List.length a4_)) <|
 .l ((List.set a4_ (Int.toNat r1_.1) r3_.1), (a5_, (r3_.2.1, (r3_.2.2.1, r3_.2.2.2)))))
 (.t (r2_.1 == (1 : Int))
 (.t (decide ((0 : Int) < ((List.length a5_ : Nat) : Int)))
 (.g (inR (0 : Int) (List.length a5_)) <|
 .g (decide ((Int.toNat (0 : Int)) < List.length a5_)) <|
 .c (Int × (Y1 × (Int × Int))) (wjl ([(-1 : Int), (99 : Int), (100 : Int), (-9223372036854775808 : Int)] : Y1) r2_.2.1 r2_.2.2.1 r2_.2.2.2) fun r4_ =>
 .g (inR r1_.1 (List.length (List.getD a5_ (Int.toNat (0 : Int)) ([] : Y1)))) <|
 .g (decide ((Int.toNat r1_.1) < List.length (List.getD a5_ (Int.toNat (0 : Int)) ([] : Y1)))) <|
 .l (a4_, ((List.set a5_ (Int.toNat (0 : Int)) (List.set (List.getD a5_ (Int.toNat (0 : Int)) ([] : Y1)) (Int.toNat r1_.1) r4_.1)), (r4_.2.1, (r4_.2.2.1, r4_.2.2.2)))))
 (.l (a4_, (a5_, (r2_.2.1, (r2_.2.2.1, r2_.2.2.2))))))
 (.t (r2_.1 == (2 : Int))
 (.g (decide ((List.length a4_ + List.length ([(1 : Int)] : Y1)) * 8 ≤ 140737488355328)) <|
 .l ((a4_ ++ ([(1 : Int)] : Y1)), (a5_, (r2_.2.1, (r2_.2.2.1, r2_.2.2.2)))))
 (.t (r2_.1 == (3 : Int))
 (.c Y2 (wagg (r2_.2.1, (r2_.2.2.1, (r2_.2.2.2, (a4_, ([] : List Y1))))) a5_) fun r18_ =>
 .l (a4_, (r18_, (r2_.2.1, (r2_.2.2.1, r2_.2.2.2)))))
 (.t (r2_.1 == (4 : Int))
 (.l (([] : Y1), (([] : List Y1), (r2_.2.1, (r2_.2.2.1, r2_.2.2.2)))))
 (.l (a4_, (a5_, (r2_.2.1, (r2_.2.2.1, r2_.2.2.2))))))))))
noncomputable def wacj (a1_ : Y1) (a2_ : Int) (a3_ : Int) (a4_ : Y1) (a5_ : List Y1) : Option (Y1 × (Y2 × (Y1 × (Int × Int)))) := (wasf a1_ a2_ a3_ a4_ a5_).ev
noncomputable def wboh : Sh := (.cons (.box 64 0) (.cons (.agg (.cons (.arr 65) (.cons (.arr 66) .nil))) .nil))
noncomputable def wboi : List (Nat × OSh) := [(64, .cells (.cons (.dat (.slice (.int .u8))) (.cons (.dat yi) (.cons (.dat (.int .u64)) .nil)))), (65, .arr 3 yi), (66, .rows 22 3 yi)]
noncomputable def K_zcb : RetK := { acts := [.ownB 4 0 1 3 yi, .ownRB 4 1 2 22 3 yi, .ren 65 1, .ren 66 2], res := [.cell 4 32], sh := (.cons (.agg (.cons (.arr 1) (.cons (.arr 2) .nil))) .nil), obs := [(1, .arr 3 yi), (2, .rows 22 3 yi), (64, .cells (.cons (.dat (.slice (.int .u8))) (.cons (.dat yi) (.cons (.dat (.int .u64)) .nil))))], pins := [(0, 0, 64)], gone := [65, 66] }
noncomputable def D_zcb : FD := ⟨wboh, wboi, [.arg 0, .comp 1 0, .comp 1 1], Y1 × (Y2 × (Y1 × (Int × Int))), fun x => wacj x.2.1.1 x.2.1.2.1 x.2.1.2.2.1 x.2.2.1 x.2.2.2.1, fun r => ([.agg [.arr 1, .arr 2]], [(1, .arr 3 yi r.1), (2, .rows 22 3 yi r.2.1 none), (64, .cells [.dat (.slice (.int .u8)) r.2.2.1, .dat yi r.2.2.2.1, .dat (.int .u64) r.2.2.2.2]), (65, .spent), (66, .spent)])⟩
noncomputable def wasg : Env := wae [(83, D_zbz), (86, D_zbt), (122, D_zcg)]
noncomputable def wash : Nat → Nat → List Nat := fun r i => match look [(6, [(0, [60000004])]), (9, [(0, [60000006])])] r with
 | some l => (look l i).getD []
 | none => []
noncomputable def wasi : List (Nat × LD) := [(1, wow)]
noncomputable def wagh : Code := (f182.body).getD .skip
noncomputable def wasj (a1_ : Int) (a2_ : Int) : Tr (Int) :=
 .t (decide (a2_ < a1_))
 (.l a1_)
 (.l a2_)
noncomputable def wask (a1_ : Int) (a2_ : Int) : Option (Int) := (wasj a1_ a2_).ev
noncomputable def wboj : Sh := (.cons (.dat yi) (.cons (.dat yi) .nil))
noncomputable def wbok : List (Nat × OSh) := []
noncomputable def K_zcf : RetK := { acts := [], res := [.tmp 4], sh := (.cons (.dat yi) .nil), obs := [], pins := [] }
noncomputable def D_zcf : FD := ⟨wboj, wbok, [], Int, fun x => wask x.1.1 x.1.2.1, fun r => ([.dat yi r], [])⟩
noncomputable def wbep : Env := wae []
noncomputable def wbeq : Nat → Nat → List Nat := fun _ _ => []
noncomputable def wber : List (Nat × LD) := []
noncomputable def wbes : Code := (f156.body).getD .skip
noncomputable def wlk (k : Y1 × Y2) (v : Int × (Y1 × (Int × (Int × Y1)))) : Tr ((Int × (Y1 × (Int × (Int × Y1)))) ⊕ (Y1 × (Int × (Int × Y1)))) :=
 .t (decide (v.1 < ((List.length k.1 : Nat) : Int)))
 (.c (Int × (Y1 × (Int × Int))) (wie (20 : Int) v.2.1 v.2.2.1 v.2.2.2.1) fun r9_ =>
 .g (decide ((List.length v.2.2.2.2 + List.length ([r9_.1] : Y1)) * 8 ≤ 140737488355328)) <|
 .l (.inl ((IntKind.wrap .i64 (v.1 + (1 : Int))), (r9_.2.1, (r9_.2.2.1, (r9_.2.2.2, (v.2.2.2.2 ++ ([r9_.1] : Y1))))))))
 (.l (.inr (v.2.1, (v.2.2.1, (v.2.2.2.1, v.2.2.2.2)))))
noncomputable def wagi (k : Y1 × Y2) (v : Int × (Y1 × (Int × (Int × Y1)))) : Option (Y1 × (Int × (Int × Y1))) := iter (fun v => (wlk k v).ev) v
noncomputable def wox : LD := ⟨{ acts := [], S := { slots := [0, 4, 5, 6, 7], sh := (.cons (.box 64 0) (.cons (.box 4 0) (.cons (.box 5 0) (.cons (.arr 14) (.cons (.dat yi) .nil))))), obs := [(64, .cells (.cons (.dat (.slice (.int .u8))) (.cons (.dat yi) (.cons (.dat (.int .u64)) .nil)))), (4, .cells (.cons .nilsl (.cons .nilsl .nil))), (5, .cells (.cons (.arr 833) (.cons (.arr 834) .nil))), (14, .arr 3 yi), (833, .arr 3 yi), (834, .rows 22 3 yi)] } }, [(0, { acts := [], S := { slots := [0, 4, 5, 6], sh := (.cons (.box 64 0) (.cons (.box 4 0) (.cons (.box 5 0) (.cons (.arr 14) .nil)))), obs := [(64, .cells (.cons (.dat (.slice (.int .u8))) (.cons (.dat yi) (.cons (.dat (.int .u64)) .nil)))), (4, .cells (.cons .nilsl (.cons .nilsl .nil))), (5, .cells (.cons (.arr 833) (.cons (.arr 834) .nil))), (14, .arr 3 yi), (833, .arr 3 yi), (834, .rows 22 3 yi)] } })], (yh [] .nil), Y1 × Y2, Int × (Y1 × (Int × (Int × Y1))), Y1 × (Int × (Int × Y1)), fun k v => (((), ((), ((), ((), (v.1, ()))))), ((v.2.1, (v.2.2.1, (v.2.2.2.1, ()))), (((), ((), ())), (((), ((), ())), (v.2.2.2.2, (k.1, (k.2, ()))))))), fun t => (t.2.2.2.2.2.1, t.2.2.2.2.2.2.1), fun t => (t.1.2.2.2.2.1, (t.2.1.1, (t.2.1.2.1, (t.2.1.2.2.1, t.2.2.2.2.1)))), wlk, fun k r => .l (.exit 0 (wav ({ slots := [0, 4, 5, 6], sh := (.cons (.box 64 0) (.cons (.box 4 0) (.cons (.box 5 0) (.cons (.arr 14) .nil)))), obs := [(64, .cells (.cons (.dat (.slice (.int .u8))) (.cons (.dat yi) (.cons (.dat (.int .u64)) .nil)))), (4, .cells (.cons .nilsl (.cons .nilsl .nil))), (5, .cells (.cons (.arr 833) (.cons (.arr 834) .nil))), (14, .arr 3 yi), (833, .arr 3 yi), (834, .rows 22 3 yi)] }) (((), ((), ((), ((), ())))), ((r.1, (r.2.1, (r.2.2.1, ()))), (((), ((), ())), (((), ((), ())), (r.2.2.2, (k.1, (k.2, ())))))))))⟩
noncomputable def wll (k : Int × (Int × (Y1 × (Int × (Int × (Y1 × Y1)))))) (v : Int × Y2) : Tr ((Int × Y2) ⊕ Y2) :=
 .t (decide (v.1 < ((List.length k.2.2.2.2.2.2 : Nat) : Int)))
 (.g (inR k.1 (List.length v.2)) <|
 .g (decide ((Int.toNat k.1) < List.length v.2)) <|
 .g (inR v.1 (List.length k.2.2.2.2.2.1)) <|
 .g (decide ((Int.toNat v.1) < List.length k.2.2.2.2.2.1)) <|
 .g (inR v.1 (List.length k.2.2.2.2.2.1)) <|
 .g (decide ((Int.toNat v.1) < List.length k.2.2.2.2.2.1)) <|
 .c (Int) (wask (IntKind.wrap .i64 (k.2.1 - (List.getD k.2.2.2.2.2.1 (Int.toNat v.1) (0 : Int)))) (IntKind.wrap .i64 ((List.getD k.2.2.2.2.2.1 (Int.toNat v.1) (0 : Int)) - k.2.1))) fun r34_ =>
 .g (inR v.1 (List.length (List.getD v.2 (Int.toNat k.1) ([] : Y1)))) <|
 .g (decide ((Int.toNat v.1) < List.length (List.getD v.2 (Int.toNat k.1) ([] : Y1)))) <|
 .l (.inl ((IntKind.wrap .i64 (v.1 + (1 : Int))), (List.set v.2 (Int.toNat k.1) (List.set (List.getD v.2 (Int.toNat k.1) ([] : Y1)) (Int.toNat v.1) r34_)))))
 (.l (.inr v.2))
noncomputable def wagj (k : Int × (Int × (Y1 × (Int × (Int × (Y1 × Y1)))))) (v : Int × Y2) : Option Y2 := iter (fun v => (wll k v).ev) v
noncomputable def woy : LD := ⟨{ acts := [], S := { slots := [0, 4, 5, 6, 8, 9, 10], sh := (.cons (.box 64 0) (.cons (.box 4 0) (.cons (.box 5 0) (.cons (.arr 14) (.cons (.dat yi) (.cons (.dat yi) (.cons (.dat yi) .nil))))))), obs := [(64, .cells (.cons (.dat (.slice (.int .u8))) (.cons (.dat yi) (.cons (.dat (.int .u64)) .nil)))), (4, .cells (.cons .nilsl (.cons .nilsl .nil))), (5, .cells (.cons (.arr 833) (.cons (.arr 834) .nil))), (14, .arr 3 yi), (833, .arr 3 yi), (834, .rows 22 3 yi)] } }, [(4, { acts := [], S := { slots := [0, 4, 5, 6, 8], sh := (.cons (.box 64 0) (.cons (.box 4 0) (.cons (.box 5 0) (.cons (.arr 14) (.cons (.dat yi) .nil))))), obs := [(64, .cells (.cons (.dat (.slice (.int .u8))) (.cons (.dat yi) (.cons (.dat (.int .u64)) .nil)))), (4, .cells (.cons .nilsl (.cons .nilsl .nil))), (5, .cells (.cons (.arr 833) (.cons (.arr 834) .nil))), (14, .arr 3 yi), (833, .arr 3 yi), (834, .rows 22 3 yi)] } })], (yh [] .nil), Int × (Int × (Y1 × (Int × (Int × (Y1 × Y1))))), Int × Y2, List Y1, fun k v => (((), ((), ((), ((), (k.1, (k.2.1, (v.1, ()))))))), ((k.2.2.1, (k.2.2.2.1, (k.2.2.2.2.1, ()))), (((), ((), ())), (((), ((), ())), (k.2.2.2.2.2.1, (k.2.2.2.2.2.2, (v.2, ()))))))), fun t => (t.1.2.2.2.2.1, (t.1.2.2.2.2.2.1, (t.2.1.1, (t.2.1.2.1, (t.2.1.2.2.1, (t.2.2.2.2.1, t.2.2.2.2.2.1)))))), fun t => (t.1.2.2.2.2.2.2.1, t.2.2.2.2.2.2.1), wll, fun k r => .l (.exit 4 (wav ({ slots := [0, 4, 5, 6, 8], sh := (.cons (.box 64 0) (.cons (.box 4 0) (.cons (.box 5 0) (.cons (.arr 14) (.cons (.dat yi) .nil))))), obs := [(64, .cells (.cons (.dat (.slice (.int .u8))) (.cons (.dat yi) (.cons (.dat (.int .u64)) .nil)))), (4, .cells (.cons .nilsl (.cons .nilsl .nil))), (5, .cells (.cons (.arr 833) (.cons (.arr 834) .nil))), (14, .arr 3 yi), (833, .arr 3 yi), (834, .rows 22 3 yi)] }) (((), ((), ((), ((), (k.1, ()))))), ((k.2.2.1, (k.2.2.2.1, (k.2.2.2.2.1, ()))), (((), ((), ())), (((), ((), ())), (k.2.2.2.2.2.1, (k.2.2.2.2.2.2, (r, ())))))))))⟩
noncomputable def wlm (k : Y1 × Y1) (v : Int × (Y1 × (Int × (Int × Y2)))) : Tr ((Int × (Y1 × (Int × (Int × Y2)))) ⊕ (Y1 × (Int × (Int × Y2)))) :=
 .t (decide (v.1 < ((List.length v.2.2.2.2 : Nat) : Int)))
 (.c (Int × (Y1 × (Int × Int))) (wie (20 : Int) v.2.1 v.2.2.1 v.2.2.2.1) fun r24_ =>
 .c Y2 (wagj (v.1, (r24_.1, (r24_.2.1, (r24_.2.2.1, (r24_.2.2.2, (k.1, k.2)))))) ((0 : Int), v.2.2.2.2)) fun r42_ =>
 .l (.inl ((IntKind.wrap .i64 (v.1 + (1 : Int))), (r24_.2.1, (r24_.2.2.1, (r24_.2.2.2, r42_))))))
 (.l (.inr (v.2.1, (v.2.2.1, (v.2.2.2.1, v.2.2.2.2)))))
noncomputable def wagk (k : Y1 × Y1) (v : Int × (Y1 × (Int × (Int × Y2)))) : Option (Y1 × (Int × (Int × Y2))) := iter (fun v => (wlm k v).ev) v
noncomputable def woz : LD := ⟨{ acts := [], S := { slots := [0, 4, 5, 6, 8], sh := (.cons (.box 64 0) (.cons (.box 4 0) (.cons (.box 5 0) (.cons (.arr 14) (.cons (.dat yi) .nil))))), obs := [(64, .cells (.cons (.dat (.slice (.int .u8))) (.cons (.dat yi) (.cons (.dat (.int .u64)) .nil)))), (4, .cells (.cons .nilsl (.cons .nilsl .nil))), (5, .cells (.cons (.arr 833) (.cons (.arr 834) .nil))), (14, .arr 3 yi), (833, .arr 3 yi), (834, .rows 22 3 yi)] } }, [(2, { acts := [], S := { slots := [0, 4, 5], sh := (.cons (.box 64 0) (.cons (.box 4 0) (.cons (.box 5 0) .nil))), obs := [(64, .cells (.cons (.dat (.slice (.int .u8))) (.cons (.dat yi) (.cons (.dat (.int .u64)) .nil)))), (4, .cells (.cons .nilsl (.cons .nilsl .nil))), (5, .cells (.cons (.arr 833) (.cons (.arr 834) .nil))), (833, .arr 3 yi), (834, .rows 22 3 yi)] } })], (yh [] .nil), Y1 × Y1, Int × (Y1 × (Int × (Int × Y2))), Y1 × (Int × (Int × Y2)), fun k v => (((), ((), ((), ((), (v.1, ()))))), ((v.2.1, (v.2.2.1, (v.2.2.2.1, ()))), (((), ((), ())), (((), ((), ())), (k.1, (k.2, (v.2.2.2.2, ()))))))), fun t => (t.2.2.2.2.1, t.2.2.2.2.2.1), fun t => (t.1.2.2.2.2.1, (t.2.1.1, (t.2.1.2.1, (t.2.1.2.2.1, t.2.2.2.2.2.2.1)))), wlm, fun k r => .l (.exit 2 (wav ({ slots := [0, 4, 5], sh := (.cons (.box 64 0) (.cons (.box 4 0) (.cons (.box 5 0) .nil))), obs := [(64, .cells (.cons (.dat (.slice (.int .u8))) (.cons (.dat yi) (.cons (.dat (.int .u64)) .nil)))), (4, .cells (.cons .nilsl (.cons .nilsl .nil))), (5, .cells (.cons (.arr 833) (.cons (.arr 834) .nil))), (833, .arr 3 yi), (834, .rows 22 3 yi)] }) (((), ((), ((), ()))), ((r.1, (r.2.1, (r.2.2.1, ()))), (((), ((), ())), (((), ((), ())), (k.2, (r.2.2.2, ()))))))))⟩
noncomputable def wasl (a4_ : Int) (a1_ : Y1) (a2_ : Int) (a3_ : Int) : Tr (Y1 × (Y2 × (Y1 × (Int × Int)))) :=
 .c (Y1 × (Y2 × (Y1 × (Int × Int)))) (wace a4_ a1_ a2_ a3_) fun r1_ =>
 .c (Y1 × (Int × (Int × Y1))) (wagi (r1_.1, r1_.2.1) ((0 : Int), (r1_.2.2.1, (r1_.2.2.2.1, (r1_.2.2.2.2, ([] : Y1)))))) fun r16_ =>
 .c (Y1 × (Int × (Int × Y2))) (wagk (r16_.2.2.2, r1_.1) ((0 : Int), (r16_.1, (r16_.2.1, (r16_.2.2.1, r1_.2.1))))) fun r48_ =>
 .l (r1_.1, (r48_.2.2.2, (r48_.1, (r48_.2.1, r48_.2.2.1))))
noncomputable def wasm (a4_ : Int) (a1_ : Y1) (a2_ : Int) (a3_ : Int) : Option (Y1 × (Y2 × (Y1 × (Int × Int)))) := (wasl a4_ a1_ a2_ a3_).ev
noncomputable def wbol : Sh := (.cons (.box 64 0) (.cons (.dat yi) .nil))
noncomputable def wbom : List (Nat × OSh) := [(64, .cells (.cons (.dat (.slice (.int .u8))) (.cons (.dat yi) (.cons (.dat (.int .u64)) .nil))))]
noncomputable def K_zbw : RetK := { acts := [.ren 833 1, .ren 834 2], res := [.cell 4 32], sh := (.cons (.agg (.cons (.arr 1) (.cons (.arr 2) .nil))) .nil), obs := [(1, .arr 3 yi), (2, .rows 22 3 yi), (64, .cells (.cons (.dat (.slice (.int .u8))) (.cons (.dat yi) (.cons (.dat (.int .u64)) .nil))))], pins := [(0, 0, 64)] }
noncomputable def D_zbw : FD := ⟨wbol, wbom, [.arg 0], Y1 × (Y2 × (Y1 × (Int × Int))), fun x => wasm x.1.2.1 x.2.1.1 x.2.1.2.1 x.2.1.2.2.1, fun r => ([.agg [.arr 1, .arr 2]], [(1, .arr 3 yi r.1), (2, .rows 22 3 yi r.2.1 none), (64, .cells [.dat (.slice (.int .u8)) r.2.2.1, .dat yi r.2.2.2.1, .dat (.int .u64) r.2.2.2.2])])⟩
noncomputable def wack : Env := wae [(168, D_zca), (83, D_zbz), (156, D_zcf)]
noncomputable def wacl : Nat → Nat → List Nat := fun _ _ => []
noncomputable def wacm : List (Nat × LD) := [(0, wox), (4, woy), (2, woz)]
noncomputable def wxn : Code := (f166.body).getD .skip
noncomputable def wln (k : Y1 × (Y2 × (Y2 × Y1))) (v : Int × Y2) : Tr ((Int × Y2) ⊕ Y2) :=
 .t (decide (v.1 < ((List.length k.2.1 : Nat) : Int)))
 (.g (inR v.1 (List.length k.2.1)) <|
 .c Y1 (waci (List.getD k.2.1 (Int.toNat v.1) ([] : Y1))) fun r8_ =>
 .g (decide ((List.length v.2 + 1) * 24 ≤ 140737488355328)) <|
 .l (.inl ((IntKind.wrap .i64 (v.1 + (1 : Int))), (List.set (v.2 ++ [[]]) (List.length v.2) r8_))))
 (.l (.inr v.2))
noncomputable def wagl (k : Y1 × (Y2 × (Y2 × Y1))) (v : Int × Y2) : Option Y2 := iter (fun v => (wln k v).ev) v
noncomputable def wpa : LD := ⟨{ acts := [.ownRB 2 1 900321 22 3 yi, .ownRB 3 1 900331 22 3 yi], S := { slots := [1, 2, 3, 4], sh := (.cons (.box 1 0) (.cons (.box 2 0) (.cons (.box 3 0) (.cons (.dat yi) .nil)))), obs := [(1, .cells (.cons (.dat y1) (.cons (.dat y2) .nil))), (2, .cells (.cons .nilsl (.cons (.arr 900321) .nil))), (3, .cells (.cons (.arr 448) (.cons (.arr 900331) .nil))), (900321, .rows 22 3 yi), (448, .arr 3 yi), (900331, .rows 22 3 yi)] } }, [(0, { acts := [], S := { slots := [2, 3], sh := (.cons (.box 2 0) (.cons (.box 3 0) .nil)), obs := [(2, .cells (.cons .nilsl (.cons (.arr 900321) .nil))), (3, .cells (.cons (.arr 448) (.cons (.arr 900331) .nil))), (900321, .rows 22 3 yi), (448, .arr 3 yi), (900331, .rows 22 3 yi)] } })], (yh [] .nil), Y1 × (Y2 × (Y2 × Y1)), Int × Y2, List Y1, fun k v => (((), ((), ((), (v.1, ())))), ((k.1, (k.2.1, ())), (((), ((), ())), (((), ((), ())), (k.2.2.1, (k.2.2.2, (v.2, ()))))))), fun t => (t.2.1.1, (t.2.1.2.1, (t.2.2.2.2.1, t.2.2.2.2.2.1))), fun t => (t.1.2.2.2.1, t.2.2.2.2.2.2.1), wln, fun k r => .l (.exit 0 (wav ({ slots := [2, 3], sh := (.cons (.box 2 0) (.cons (.box 3 0) .nil)), obs := [(2, .cells (.cons .nilsl (.cons (.arr 900321) .nil))), (3, .cells (.cons (.arr 448) (.cons (.arr 900331) .nil))), (900321, .rows 22 3 yi), (448, .arr 3 yi), (900331, .rows 22 3 yi)] }) (((), ((), ())), (((), ((), ())), (((), ((), ())), (k.2.2.1, (k.2.2.2, (r, ()))))))))⟩
noncomputable def wasn (a1_ : Y1) (a2_ : List Y1) : Tr (Y1 × Y2) :=
 .c Y1 (waci a1_) fun r1_ =>
 .c Y2 (wagl (a1_, (a2_, (([] : List Y1), r1_))) ((0 : Int), ([] : List Y1))) fun r12_ =>
 .l (r1_, r12_)
noncomputable def waso (a1_ : Y1) (a2_ : List Y1) : Option (Y1 × Y2) := (wasn a1_ a2_).ev
noncomputable def wbon : Sh := (.cons (.agg (.cons (.dat y1) (.cons (.dat y2) .nil))) .nil)
noncomputable def wboo : List (Nat × OSh) := []
noncomputable def K_zco : RetK := { acts := [.ren 448 1, .ren 900331 4], res := [.cell 2 32], sh := (.cons (.agg (.cons (.arr 1) (.cons (.arr 4) .nil))) .nil), obs := [(1, .arr 3 yi), (4, .rows 22 3 yi)], pins := [] }
noncomputable def D_zco : FD := ⟨wbon, wboo, [], Y1 × Y2, fun x => waso x.1.1.1 x.1.1.2.1, fun r => ([.agg [.arr 1, .arr 4]], [(1, .arr 3 yi r.1), (4, .rows 22 3 yi r.2 none)])⟩
noncomputable def wasp : Env := wae [(122, D_zcg)]
noncomputable def wasq : Nat → Nat → List Nat := fun _ _ => []
noncomputable def wasr : List (Nat × LD) := [(0, wpa)]
noncomputable def wagm : Code := (f194.body).getD .skip
noncomputable def wif (k : Int × (Int × (Int × (Y1 × Y2)))) (v : Int) : Tr ((Int) ⊕ ((Unit) ⊕ (Unit))) :=
 .t (decide (v < ((List.length k.2.2.2.1 : Nat) : Int)))
 (.g (inR k.1 (List.length k.2.2.2.2)) <|
 .g (inR k.2.2.1 (List.length (List.getD k.2.2.2.2 (Int.toNat k.1) ([] : Y1)))) <|
 .g (inR k.1 (List.length k.2.2.2.2)) <|
 .g (inR v (List.length (List.getD k.2.2.2.2 (Int.toNat k.1) ([] : Y1)))) <|
 .g (inR k.2.1 (List.length k.2.2.2.2)) <|
 .g (inR v (List.length (List.getD k.2.2.2.2 (Int.toNat k.2.1) ([] : Y1)))) <|
 .g (inR k.2.1 (List.length k.2.2.2.2)) <|
 .g (inR k.2.2.1 (List.length (List.getD k.2.2.2.2 (Int.toNat k.2.1) ([] : Y1)))) <|
 .t (decide ((IntKind.wrap .i64 ((IntKind.wrap .i64 ((List.getD (List.getD k.2.2.2.2 (Int.toNat k.1) ([] : Y1)) (Int.toNat v) (0 : Int)) + (List.getD (List.getD k.2.2.2.2 (Int.toNat k.2.1) ([] : Y1)) (Int.toNat v) (0 : Int)))) + (List.getD (List.getD k.2.2.2.2 (Int.toNat k.2.1) ([] : Y1)) (Int.toNat k.2.2.1) (0 : Int)))) < (List.getD (List.getD k.2.2.2.2 (Int.toNat k.1) ([] : Y1)) (Int.toNat k.2.2.1) (0 : Int))))
 (.l (.inr (.inr ())))
 (.l (.inl (IntKind.wrap .i64 (v + (1 : Int))))))
 (.l (.inr (.inl ())))
noncomputable def wagn (k : Int × (Int × (Int × (Y1 × Y2)))) (v : Int) : Option ((Unit) ⊕ (Unit)) := iter (fun v => (wif k v).ev) v
noncomputable def wpb : LD := ⟨{ acts := [], S := { slots := [1, 3, 4, 5, 6], sh := (.cons (.box 1 0) (.cons (.dat yi) (.cons (.dat yi) (.cons (.dat yi) (.cons (.dat yi) .nil))))), obs := [(1, .cells (.cons (.dat y1) (.cons (.dat y2) .nil)))] } }, [(6, { acts := [], S := { slots := [1, 3, 4, 5], sh := (.cons (.box 1 0) (.cons (.dat yi) (.cons (.dat yi) (.cons (.dat yi) .nil)))), obs := [(1, .cells (.cons (.dat y1) (.cons (.dat y2) .nil)))] } })], (yh [2] (.cons (.dat .bool) .nil)), Int × (Int × (Int × (Y1 × Y2))), Int, (Unit) ⊕ (Unit), fun k v => (((), (k.1, (k.2.1, (k.2.2.1, (v, ()))))), ((k.2.2.2.1, (k.2.2.2.2, ())), ())), fun t => (t.1.2.1, (t.1.2.2.1, (t.1.2.2.2.1, (t.2.1.1, t.2.1.2.1)))), fun t => t.1.2.2.2.2.1, wif, fun k r => .s (Unit) (Unit) r (fun _ => .l (.exit 6 (wav ({ slots := [1, 3, 4, 5], sh := (.cons (.box 1 0) (.cons (.dat yi) (.cons (.dat yi) (.cons (.dat yi) .nil)))), obs := [(1, .cells (.cons (.dat y1) (.cons (.dat y2) .nil)))] }) (((), (k.1, (k.2.1, (k.2.2.1, ())))), ((k.2.2.2.1, (k.2.2.2.2, ())), ()))))) (fun _ => .l (.ret (wav ((ys [2] (.cons (.dat .bool) .nil))) ((false, ()), ()))))⟩
noncomputable def wig (k : Int × (Int × (Y1 × Y2))) (v : Int) : Tr ((Int) ⊕ ((Unit) ⊕ (Unit))) :=
 .t (decide (v < ((List.length k.2.2.1 : Nat) : Int)))
 (.c ((Unit) ⊕ (Unit)) (wagn (k.1, (k.2.1, (v, (k.2.2.1, k.2.2.2)))) (0 : Int)) fun r25_ =>
 .s (Unit) (Unit) r25_
 (fun _ => .l (.inl (IntKind.wrap .i64 (v + (1 : Int)))))
 (fun _ => .l (.inr (.inr ()))))
 (.l (.inr (.inl ())))
noncomputable def wago (k : Int × (Int × (Y1 × Y2))) (v : Int) : Option ((Unit) ⊕ (Unit)) := iter (fun v => (wig k v).ev) v
noncomputable def wpc : LD := ⟨{ acts := [], S := { slots := [1, 3, 4, 5], sh := (.cons (.box 1 0) (.cons (.dat yi) (.cons (.dat yi) (.cons (.dat yi) .nil)))), obs := [(1, .cells (.cons (.dat y1) (.cons (.dat y2) .nil)))] } }, [(4, { acts := [], S := { slots := [1, 3, 4], sh := (.cons (.box 1 0) (.cons (.dat yi) (.cons (.dat yi) .nil))), obs := [(1, .cells (.cons (.dat y1) (.cons (.dat y2) .nil)))] } })], (yh [2] (.cons (.dat .bool) .nil)), Int × (Int × (Y1 × Y2)), Int, (Unit) ⊕ (Unit), fun k v => (((), (k.1, (k.2.1, (v, ())))), ((k.2.2.1, (k.2.2.2, ())), ())), fun t => (t.1.2.1, (t.1.2.2.1, (t.2.1.1, t.2.1.2.1))), fun t => t.1.2.2.2.1, wig, fun k r => .s (Unit) (Unit) r (fun _ => .l (.exit 4 (wav ({ slots := [1, 3, 4], sh := (.cons (.box 1 0) (.cons (.dat yi) (.cons (.dat yi) .nil))), obs := [(1, .cells (.cons (.dat y1) (.cons (.dat y2) .nil)))] }) (((), (k.1, (k.2.1, ()))), ((k.2.2.1, (k.2.2.2, ())), ()))))) (fun _ => .l (.ret (wav ((ys [2] (.cons (.dat .bool) .nil))) ((false, ()), ()))))⟩
noncomputable def wih (k : Int × (Y1 × Y2)) (v : Int) : Tr ((Int) ⊕ ((Unit) ⊕ (Unit))) :=
 .t (decide (v < ((List.length k.2.2 : Nat) : Int)))
 (.c ((Unit) ⊕ (Unit)) (wago (k.1, (v, (k.2.1, k.2.2))) (0 : Int)) fun r33_ =>
 .s (Unit) (Unit) r33_
 (fun _ => .l (.inl (IntKind.wrap .i64 (v + (1 : Int)))))
 (fun _ => .l (.inr (.inr ()))))
 (.l (.inr (.inl ())))
noncomputable def wagp (k : Int × (Y1 × Y2)) (v : Int) : Option ((Unit) ⊕ (Unit)) := iter (fun v => (wih k v).ev) v
noncomputable def wpd : LD := ⟨{ acts := [], S := { slots := [1, 3, 4], sh := (.cons (.box 1 0) (.cons (.dat yi) (.cons (.dat yi) .nil))), obs := [(1, .cells (.cons (.dat y1) (.cons (.dat y2) .nil)))] } }, [(2, { acts := [], S := { slots := [1, 3], sh := (.cons (.box 1 0) (.cons (.dat yi) .nil)), obs := [(1, .cells (.cons (.dat y1) (.cons (.dat y2) .nil)))] } })], (yh [2] (.cons (.dat .bool) .nil)), Int × (Y1 × Y2), Int, (Unit) ⊕ (Unit), fun k v => (((), (k.1, (v, ()))), ((k.2.1, (k.2.2, ())), ())), fun t => (t.1.2.1, (t.2.1.1, t.2.1.2.1)), fun t => t.1.2.2.1, wih, fun k r => .s (Unit) (Unit) r (fun _ => .l (.exit 2 (wav ({ slots := [1, 3], sh := (.cons (.box 1 0) (.cons (.dat yi) .nil)), obs := [(1, .cells (.cons (.dat y1) (.cons (.dat y2) .nil)))] }) (((), (k.1, ())), ((k.2.1, (k.2.2, ())), ()))))) (fun _ => .l (.ret (wav ((ys [2] (.cons (.dat .bool) .nil))) ((false, ()), ()))))⟩
noncomputable def wii (k : Y1 × Y2) (v : Int) : Tr ((Int) ⊕ ((Unit) ⊕ (Unit))) :=
 .t (decide (v < ((List.length k.2 : Nat) : Int)))
 (.c ((Unit) ⊕ (Unit)) (wagp (v, (k.1, k.2)) (0 : Int)) fun r40_ =>
 .s (Unit) (Unit) r40_
 (fun _ => .l (.inl (IntKind.wrap .i64 (v + (1 : Int)))))
 (fun _ => .l (.inr (.inr ()))))
 (.l (.inr (.inl ())))
noncomputable def wagq (k : Y1 × Y2) (v : Int) : Option ((Unit) ⊕ (Unit)) := iter (fun v => (wii k v).ev) v
noncomputable def wpe : LD := ⟨{ acts := [], S := { slots := [1, 3], sh := (.cons (.box 1 0) (.cons (.dat yi) .nil)), obs := [(1, .cells (.cons (.dat y1) (.cons (.dat y2) .nil)))] } }, [(0, (yh [] .nil))], (yh [2] (.cons (.dat .bool) .nil)), Y1 × Y2, Int, (Unit) ⊕ (Unit), fun k v => (((), (v, ())), ((k.1, (k.2, ())), ())), fun t => (t.2.1.1, t.2.1.2.1), fun t => t.1.2.1, wii, fun _ r => .s (Unit) (Unit) r (fun _ => .l (.exit 0 (wav ((ys [] .nil)) ((), ())))) (fun _ => .l (.ret (wav ((ys [2] (.cons (.dat .bool) .nil))) ((false, ()), ()))))⟩
noncomputable def wass (a1_ : Y1) (a2_ : List Y1) : Tr (Bool) :=
 .c ((Unit) ⊕ (Unit)) (wagq (a1_, a2_) (0 : Int)) fun r44_ =>
 .s (Unit) (Unit) r44_
 (fun _ => .l true)
 (fun _ => .l false)
noncomputable def wast (a1_ : Y1) (a2_ : List Y1) : Option (Bool) := (wass a1_ a2_).ev
noncomputable def wbop : Sh := (.cons (.agg (.cons (.dat y1) (.cons (.dat y2) .nil))) .nil)
noncomputable def wboq : List (Nat × OSh) := []
noncomputable def K_zcm : RetK := { acts := [], res := [.tmp 2], sh := (.cons (.dat .bool) .nil), obs := [], pins := [] }
noncomputable def D_zcm : FD := ⟨wbop, wboq, [], Bool, fun x => wast x.1.1.1 x.1.1.2.1, fun r => ([.dat .bool r], [])⟩
noncomputable def wxo : Env := wae []
noncomputable def wxp : Nat → Nat → List Nat := fun _ _ => []
noncomputable def wxq : List (Nat × LD) := [(6, wpb), (4, wpc), (2, wpd), (0, wpe)]
noncomputable def wuy : Code := (f195.body).getD .skip
noncomputable def wasu (a1_ : Int) (a2_ : Int) : Tr (Int) :=
 .t (decide (a1_ < a2_))
 (.l a1_)
 (.l a2_)
noncomputable def wasv (a1_ : Int) (a2_ : Int) : Option (Int) := (wasu a1_ a2_).ev
noncomputable def wbor : Sh := (.cons (.dat yi) (.cons (.dat yi) .nil))
noncomputable def wbos : List (Nat × OSh) := []
noncomputable def K_zce : RetK := { acts := [], res := [.tmp 4], sh := (.cons (.dat yi) .nil), obs := [], pins := [] }
noncomputable def D_zce : FD := ⟨wbor, wbos, [], Int, fun x => wasv x.1.1 x.1.2.1, fun r => ([.dat yi r], [])⟩
noncomputable def wbet : Env := wae []
noncomputable def wbeu : Nat → Nat → List Nat := fun _ _ => []
noncomputable def wbev : List (Nat × LD) := []
noncomputable def wbew : Code := (f157.body).getD .skip
noncomputable def wpf (k : Int × (Int × (Int × Y1))) (v : Int × Y2) : Tr ((Int × Y2) ⊕ Y2) :=
 .t (decide (v.1 < ((List.length k.2.2.2 : Nat) : Int)))
 (.g (inR k.1 (List.length v.2)) <|
 .g (decide ((Int.toNat k.1) < List.length v.2)) <|
 .g (inR k.1 (List.length v.2)) <|
 .g (decide ((Int.toNat k.1) < List.length v.2)) <|
 .g (inR k.2.2.1 (List.length (List.getD v.2 (Int.toNat k.1) ([] : Y1)))) <|
 .g (decide ((Int.toNat k.2.2.1) < List.length (List.getD v.2 (Int.toNat k.1) ([] : Y1)))) <|
 .g (inR k.1 (List.length v.2)) <|
 .g (decide ((Int.toNat k.1) < List.length v.2)) <|
 .g (inR v.1 (List.length (List.getD v.2 (Int.toNat k.1) ([] : Y1)))) <|
 .g (decide ((Int.toNat v.1) < List.length (List.getD v.2 (Int.toNat k.1) ([] : Y1)))) <|
 .g (inR k.2.1 (List.length v.2)) <|
 .g (decide ((Int.toNat k.2.1) < List.length v.2)) <|
 .g (inR v.1 (List.length (List.getD v.2 (Int.toNat k.2.1) ([] : Y1)))) <|
 .g (decide ((Int.toNat v.1) < List.length (List.getD v.2 (Int.toNat k.2.1) ([] : Y1)))) <|
 .g (inR k.2.1 (List.length v.2)) <|
 .g (decide ((Int.toNat k.2.1) < List.length v.2)) <|
 .g (inR k.2.2.1 (List.length (List.getD v.2 (Int.toNat k.2.1) ([] : Y1)))) <|
 .g (decide ((Int.toNat k.2.2.1) < List.length (List.getD v.2 (Int.toNat k.2.1) ([] : Y1)))) <|
 .c (Int) (wasv (List.getD (List.getD v.2 (Int.toNat k.1) ([] : Y1)) (Int.toNat k.2.2.1) (0 : Int)) (IntKind.wrap .i64 ((IntKind.wrap .i64 ((List.getD (List.getD v.2 (Int.toNat k.1) ([] : Y1)) (Int.toNat v.1) (0 : Int)) + (List.getD (List.getD v.2 (Int.toNat k.2.1) ([] : Y1)) (Int.toNat v.1) (0 : Int)))) + (List.getD (List.getD v.2 (Int.toNat k.2.1) ([] : Y1)) (Int.toNat k.2.2.1) (0 : Int))))) fun r23_ =>
 .g (inR k.2.2.1 (List.length (List.getD v.2 (Int.toNat k.1) ([] : Y1)))) <|
 .g (decide ((Int.toNat k.2.2.1) < List.length (List.getD v.2 (Int.toNat k.1) ([] : Y1)))) <|
 .l (.inl ((IntKind.wrap .i64 (v.1 + (1 : Int))), (List.set v.2 (Int.toNat k.1) (List.set (List.getD v.2 (Int.toNat k.1) ([] : Y1)) (Int.toNat k.2.2.1) r23_)))))
 (.l (.inr v.2))
noncomputable def wagr (k : Int × (Int × (Int × Y1))) (v : Int × Y2) : Option Y2 := iter (fun v => (wpf k v).ev) v
noncomputable def wpg : LD := ⟨{ acts := [], S := { slots := [2, 3, 4, 5, 6, 7], sh := (.cons (.box 2 0) (.cons (.box 3 0) (.cons (.dat yi) (.cons (.dat yi) (.cons (.dat yi) (.cons (.dat yi) .nil)))))), obs := [(2, .cells (.cons .nilsl (.cons .nilsl .nil))), (3, .cells (.cons (.arr 577) (.cons (.arr 580) .nil))), (577, .arr 3 yi), (580, .rows 22 3 yi)] } }, [(8, { acts := [], S := { slots := [2, 3, 4, 5, 6], sh := (.cons (.box 2 0) (.cons (.box 3 0) (.cons (.dat yi) (.cons (.dat yi) (.cons (.dat yi) .nil))))), obs := [(2, .cells (.cons .nilsl (.cons .nilsl .nil))), (3, .cells (.cons (.arr 577) (.cons (.arr 580) .nil))), (577, .arr 3 yi), (580, .rows 22 3 yi)] } })], (yh [] .nil), Int × (Int × (Int × Y1)), Int × Y2, List Y1, fun k v => (((), ((), (k.1, (k.2.1, (k.2.2.1, (v.1, ())))))), (((), ((), ())), (((), ((), ())), (k.2.2.2, (v.2, ()))))), fun t => (t.1.2.2.1, (t.1.2.2.2.1, (t.1.2.2.2.2.1, t.2.2.2.1))), fun t => (t.1.2.2.2.2.2.1, t.2.2.2.2.1), wpf, fun k r => .l (.exit 8 (wav ({ slots := [2, 3, 4, 5, 6], sh := (.cons (.box 2 0) (.cons (.box 3 0) (.cons (.dat yi) (.cons (.dat yi) (.cons (.dat yi) .nil))))), obs := [(2, .cells (.cons .nilsl (.cons .nilsl .nil))), (3, .cells (.cons (.arr 577) (.cons (.arr 580) .nil))), (577, .arr 3 yi), (580, .rows 22 3 yi)] }) (((), ((), (k.1, (k.2.1, (k.2.2.1, ()))))), (((), ((), ())), (((), ((), ())), (k.2.2.2, (r, ())))))))⟩
noncomputable def wlp (k : Int × (Int × Y1)) (v : Int × Y2) : Tr ((Int × Y2) ⊕ Y2) :=
 .t (decide (v.1 < ((List.length k.2.2 : Nat) : Int)))
 (.c Y2 (wagr (k.1, (k.2.1, (v.1, k.2.2))) ((0 : Int), v.2)) fun r29_ =>
 .l (.inl ((IntKind.wrap .i64 (v.1 + (1 : Int))), r29_)))
 (.l (.inr v.2))
noncomputable def wags (k : Int × (Int × Y1)) (v : Int × Y2) : Option Y2 := iter (fun v => (wlp k v).ev) v
noncomputable def wph : LD := ⟨{ acts := [], S := { slots := [2, 3, 4, 5, 6], sh := (.cons (.box 2 0) (.cons (.box 3 0) (.cons (.dat yi) (.cons (.dat yi) (.cons (.dat yi) .nil))))), obs := [(2, .cells (.cons .nilsl (.cons .nilsl .nil))), (3, .cells (.cons (.arr 577) (.cons (.arr 580) .nil))), (577, .arr 3 yi), (580, .rows 22 3 yi)] } }, [(6, { acts := [], S := { slots := [2, 3, 4, 5], sh := (.cons (.box 2 0) (.cons (.box 3 0) (.cons (.dat yi) (.cons (.dat yi) .nil)))), obs := [(2, .cells (.cons .nilsl (.cons .nilsl .nil))), (3, .cells (.cons (.arr 577) (.cons (.arr 580) .nil))), (577, .arr 3 yi), (580, .rows 22 3 yi)] } })], (yh [] .nil), Int × (Int × Y1), Int × Y2, List Y1, fun k v => (((), ((), (k.1, (k.2.1, (v.1, ()))))), (((), ((), ())), (((), ((), ())), (k.2.2, (v.2, ()))))), fun t => (t.1.2.2.1, (t.1.2.2.2.1, t.2.2.2.1)), fun t => (t.1.2.2.2.2.1, t.2.2.2.2.1), wlp, fun k r => .l (.exit 6 (wav ({ slots := [2, 3, 4, 5], sh := (.cons (.box 2 0) (.cons (.box 3 0) (.cons (.dat yi) (.cons (.dat yi) .nil)))), obs := [(2, .cells (.cons .nilsl (.cons .nilsl .nil))), (3, .cells (.cons (.arr 577) (.cons (.arr 580) .nil))), (577, .arr 3 yi), (580, .rows 22 3 yi)] }) (((), ((), (k.1, (k.2.1, ())))), (((), ((), ())), (((), ((), ())), (k.2.2, (r, ())))))))⟩
noncomputable def wlq (k : Int × Y1) (v : Int × Y2) : Tr ((Int × Y2) ⊕ Y2) :=
 .t (decide (v.1 < ((List.length v.2 : Nat) : Int)))
 (.c Y2 (wags (k.1, (v.1, k.2)) ((0 : Int), v.2)) fun r34_ =>
 .l (.inl ((IntKind.wrap .i64 (v.1 + (1 : Int))), r34_)))
 (.l (.inr v.2))
noncomputable def wagt (k : Int × Y1) (v : Int × Y2) : Option Y2 := iter (fun v => (wlq k v).ev) v
noncomputable def wpi : LD := ⟨{ acts := [], S := { slots := [2, 3, 4, 5], sh := (.cons (.box 2 0) (.cons (.box 3 0) (.cons (.dat yi) (.cons (.dat yi) .nil)))), obs := [(2, .cells (.cons .nilsl (.cons .nilsl .nil))), (3, .cells (.cons (.arr 577) (.cons (.arr 580) .nil))), (577, .arr 3 yi), (580, .rows 22 3 yi)] } }, [(4, { acts := [], S := { slots := [2, 3, 4], sh := (.cons (.box 2 0) (.cons (.box 3 0) (.cons (.dat yi) .nil))), obs := [(2, .cells (.cons .nilsl (.cons .nilsl .nil))), (3, .cells (.cons (.arr 577) (.cons (.arr 580) .nil))), (577, .arr 3 yi), (580, .rows 22 3 yi)] } })], (yh [] .nil), Int × Y1, Int × Y2, List Y1, fun k v => (((), ((), (k.1, (v.1, ())))), (((), ((), ())), (((), ((), ())), (k.2, (v.2, ()))))), fun t => (t.1.2.2.1, t.2.2.2.1), fun t => (t.1.2.2.2.1, t.2.2.2.2.1), wlq, fun k r => .l (.exit 4 (wav ({ slots := [2, 3, 4], sh := (.cons (.box 2 0) (.cons (.box 3 0) (.cons (.dat yi) .nil))), obs := [(2, .cells (.cons .nilsl (.cons .nilsl .nil))), (3, .cells (.cons (.arr 577) (.cons (.arr 580) .nil))), (577, .arr 3 yi), (580, .rows 22 3 yi)] }) (((), ((), (k.1, ()))), (((), ((), ())), (((), ((), ())), (k.2, (r, ())))))))⟩
noncomputable def wlr (k : Y1) (v : Int × Y2) : Tr ((Int × Y2) ⊕ Y2) :=
 .t (decide (v.1 < ((List.length v.2 : Nat) : Int)))
 (.c Y2 (wagt (v.1, k) ((0 : Int), v.2)) fun r38_ =>
 .l (.inl ((IntKind.wrap .i64 (v.1 + (1 : Int))), r38_)))
 (.l (.inr v.2))
noncomputable def wagu (k : Y1) (v : Int × Y2) : Option Y2 := iter (fun v => (wlr k v).ev) v
noncomputable def wpj : LD := ⟨{ acts := [], S := { slots := [2, 3, 4], sh := (.cons (.box 2 0) (.cons (.box 3 0) (.cons (.dat yi) .nil))), obs := [(2, .cells (.cons .nilsl (.cons .nilsl .nil))), (3, .cells (.cons (.arr 577) (.cons (.arr 580) .nil))), (577, .arr 3 yi), (580, .rows 22 3 yi)] } }, [(2, { acts := [], S := { slots := [2, 3], sh := (.cons (.box 2 0) (.cons (.box 3 0) .nil)), obs := [(2, .cells (.cons .nilsl (.cons .nilsl .nil))), (3, .cells (.cons (.arr 577) (.cons (.arr 580) .nil))), (577, .arr 3 yi), (580, .rows 22 3 yi)] } })], (yh [] .nil), Y1, Int × Y2, List Y1, fun k v => (((), ((), (v.1, ()))), (((), ((), ())), (((), ((), ())), (k, (v.2, ()))))), fun t => t.2.2.2.1, fun t => (t.1.2.2.1, t.2.2.2.2.1), wlr, fun k r => .l (.exit 2 (wav ({ slots := [2, 3], sh := (.cons (.box 2 0) (.cons (.box 3 0) .nil)), obs := [(2, .cells (.cons .nilsl (.cons .nilsl .nil))), (3, .cells (.cons (.arr 577) (.cons (.arr 580) .nil))), (577, .arr 3 yi), (580, .rows 22 3 yi)] }) (((), ((), ())), (((), ((), ())), (((), ((), ())), (k, (r, ())))))))⟩
noncomputable def wpk (k : Y1) (v : List Y1) : Tr (Y2 ⊕ Y2) :=
 .c (Bool) (wast k v) fun r4_ =>
 .t (!r4_)
 (.c Y2 (wagu k ((0 : Int), v)) fun r41_ =>
 .l (.inl r41_))
 (.l (.inr v))
noncomputable def wpm (k : Y1) (v : List Y1) : Option Y2 := iter (fun v => (wpk k v).ev) v
noncomputable def wpn : LD := ⟨{ acts := [], S := { slots := [2, 3], sh := (.cons (.box 2 0) (.cons (.box 3 0) .nil)), obs := [(2, .cells (.cons .nilsl (.cons .nilsl .nil))), (3, .cells (.cons (.arr 577) (.cons (.arr 580) .nil))), (577, .arr 3 yi), (580, .rows 22 3 yi)] } }, [(0, { acts := [], S := { slots := [2, 3], sh := (.cons (.box 2 0) (.cons (.box 3 0) .nil)), obs := [(2, .cells (.cons .nilsl (.cons .nilsl .nil))), (3, .cells (.cons (.arr 577) (.cons (.arr 580) .nil))), (577, .arr 3 yi), (580, .rows 22 3 yi)] } })], (yh [] .nil), Y1, List Y1, List Y1, fun k v => (((), ((), ())), (((), ((), ())), (((), ((), ())), (k, (v, ()))))), fun t => t.2.2.2.1, fun t => t.2.2.2.2.1, wpk, fun k r => .l (.exit 0 (wav ({ slots := [2, 3], sh := (.cons (.box 2 0) (.cons (.box 3 0) .nil)), obs := [(2, .cells (.cons .nilsl (.cons .nilsl .nil))), (3, .cells (.cons (.arr 577) (.cons (.arr 580) .nil))), (577, .arr 3 yi), (580, .rows 22 3 yi)] }) (((), ((), ())), (((), ((), ())), (((), ((), ())), (k, (r, ())))))))⟩
noncomputable def wasw (a1_ : Y1) (a2_ : List Y1) : Tr (Y1 × Y2) :=
 .c (Y1 × Y2) (waso a1_ a2_) fun r1_ =>
 .c Y2 (wpm r1_.1 r1_.2) fun r44_ =>
 .l (r1_.1, r44_)
noncomputable def wasx (a1_ : Y1) (a2_ : List Y1) : Option (Y1 × Y2) := (wasw a1_ a2_).ev
noncomputable def wbot : Sh := (.cons (.agg (.cons (.dat y1) (.cons (.dat y2) .nil))) .nil)
noncomputable def wbou : List (Nat × OSh) := []
noncomputable def K_zck : RetK := { acts := [.ren 577 1, .ren 580 4], res := [.cell 2 32], sh := (.cons (.agg (.cons (.arr 1) (.cons (.arr 4) .nil))) .nil), obs := [(1, .arr 3 yi), (4, .rows 22 3 yi)], pins := [] }
noncomputable def D_zck : FD := ⟨wbot, wbou, [], Y1 × Y2, fun x => wasx x.1.1.1 x.1.1.2.1, fun r => ([.agg [.arr 1, .arr 4]], [(1, .arr 3 yi r.1), (4, .rows 22 3 yi r.2 none)])⟩
noncomputable def wuz : Env := wae [(194, D_zco), (195, D_zcm), (157, D_zce)]
noncomputable def wva : Nat → Nat → List Nat := fun _ _ => []
noncomputable def wvb : List (Nat × LD) := [(8, wpg), (6, wph), (4, wpi), (2, wpj), (0, wpn)]
noncomputable def wpo : Code := (f167.body).getD .skip
noncomputable def wasy (a4_ : Int) (a1_ : Y1) (a2_ : Int) (a3_ : Int) : Tr (Y1 × (Y2 × (Y1 × (Int × Int)))) :=
 .c (Int × (Y1 × (Int × Int))) (wie (3 : Int) a1_ a2_ a3_) fun r1_ =>
 .t (r1_.1 == (0 : Int))
 (.c (Y1 × (Y2 × (Y1 × (Int × Int)))) (wace a4_ r1_.2.1 r1_.2.2.1 r1_.2.2.2) fun r2_ =>
 .c (Y1 × (Y2 × (Y1 × (Int × Int)))) (wacj r2_.2.2.1 r2_.2.2.2.1 r2_.2.2.2.2 r2_.1 r2_.2.1) fun r3_ =>
 .l (r3_.1, (r3_.2.1, (r3_.2.2.1, (r3_.2.2.2.1, r3_.2.2.2.2)))))
 (.t (r1_.1 == (1 : Int))
 (.c (Y1 × (Y2 × (Y1 × (Int × Int)))) (wasm a4_ r1_.2.1 r1_.2.2.1 r1_.2.2.2) fun r4_ =>
 .c (Y1 × (Y2 × (Y1 × (Int × Int)))) (wacj r4_.2.2.1 r4_.2.2.2.1 r4_.2.2.2.2 r4_.1 r4_.2.1) fun r5_ =>
 .l (r5_.1, (r5_.2.1, (r5_.2.2.1, (r5_.2.2.2.1, r5_.2.2.2.2)))))
 (.c (Y1 × (Y2 × (Y1 × (Int × Int)))) (wace a4_ r1_.2.1 r1_.2.2.1 r1_.2.2.2) fun r6_ =>
 .c (Y1 × Y2) (wasx r6_.1 r6_.2.1) fun r7_ =>
 .c (Y1 × (Y2 × (Y1 × (Int × Int)))) (wacj r6_.2.2.1 r6_.2.2.2.1 r6_.2.2.2.2 r7_.1 r7_.2) fun r8_ =>
 .l (r8_.1, (r8_.2.1, (r8_.2.2.1, (r8_.2.2.2.1, r8_.2.2.2.2))))))
noncomputable def wbex (a4_ : Int) (a1_ : Y1) (a2_ : Int) (a3_ : Int) : Option (Y1 × (Y2 × (Y1 × (Int × Int)))) := (wasy a4_ a1_ a2_ a3_).ev
noncomputable def wbov : Sh := (.cons (.box 64 0) (.cons (.dat yi) .nil))
noncomputable def wbow : List (Nat × OSh) := [(64, .cells (.cons (.dat (.slice (.int .u8))) (.cons (.dat yi) (.cons (.dat (.int .u64)) .nil))))]
noncomputable def K_zbv : RetK := { acts := [.ren 833 1, .ren 1281 1, .ren 1665 1, .ren 834 2, .ren 1282 2, .ren 1666 2], res := [.cell 4 32], sh := (.cons (.agg (.cons (.arr 1) (.cons (.arr 2) .nil))) .nil), obs := [(1, .arr 3 yi), (2, .rows 22 3 yi), (64, .cells (.cons (.dat (.slice (.int .u8))) (.cons (.dat yi) (.cons (.dat (.int .u64)) .nil))))], pins := [(0, 0, 64)] }
noncomputable def D_zbv : FD := ⟨wbov, wbow, [.arg 0], Y1 × (Y2 × (Y1 × (Int × Int))), fun x => wbex x.1.2.1 x.2.1.1 x.2.1.2.1 x.2.1.2.2.1, fun r => ([.agg [.arr 1, .arr 2]], [(1, .arr 3 yi r.1), (2, .rows 22 3 yi r.2.1 none), (64, .cells [.dat (.slice (.int .u8)) r.2.2.1, .dat yi r.2.2.2.1, .dat (.int .u64) r.2.2.2.2])])⟩
noncomputable def wbey : Env := wae [(83, D_zbz), (168, D_zca), (182, D_zcb), (166, D_zbw), (167, D_zck)]
noncomputable def wbez : Nat → Nat → List Nat := fun _ _ => []
noncomputable def wbfa : List (Nat × LD) := []
noncomputable def wbfb : Code := (f138.body).getD .skip
noncomputable def wasz (a1_ : Y1) (a2_ : Int) (a3_ : Int) : Tr (Y1 × (Y2 × (Y1 × (Int × Int)))) :=
 .c (Y1 × (Y2 × (Y1 × (Int × Int)))) (wbex (7 : Int) a1_ a2_ a3_) fun r1_ =>
 .l (r1_.1, (r1_.2.1, (r1_.2.2.1, (r1_.2.2.2.1, r1_.2.2.2.2))))
noncomputable def wata (a1_ : Y1) (a2_ : Int) (a3_ : Int) : Option (Y1 × (Y2 × (Y1 × (Int × Int)))) := (wasz a1_ a2_ a3_).ev
noncomputable def wbox : Sh := (.cons (.box 64 0) .nil)
noncomputable def wboy : List (Nat × OSh) := [(64, .cells (.cons (.dat (.slice (.int .u8))) (.cons (.dat yi) (.cons (.dat (.int .u64)) .nil))))]
noncomputable def K_zbu : RetK := { acts := [.ren 257 1, .ren 258 3], res := [.cell 2 32], sh := (.cons (.agg (.cons (.arr 1) (.cons (.arr 3) .nil))) .nil), obs := [(1, .arr 3 yi), (3, .rows 22 3 yi), (64, .cells (.cons (.dat (.slice (.int .u8))) (.cons (.dat yi) (.cons (.dat (.int .u64)) .nil))))], pins := [(0, 0, 64)] }
noncomputable def D_zbu : FD := ⟨wbox, wboy, [.arg 0], Y1 × (Y2 × (Y1 × (Int × Int))), fun x => wata x.2.1.1 x.2.1.2.1 x.2.1.2.2.1, fun r => ([.agg [.arr 1, .arr 3]], [(1, .arr 3 yi r.1), (3, .rows 22 3 yi r.2.1 none), (64, .cells [.dat (.slice (.int .u8)) r.2.2.1, .dat yi r.2.2.2.1, .dat (.int .u64) r.2.2.2.2])])⟩
noncomputable def wbfc : Env := wae [(138, D_zbv)]
noncomputable def wbfd : Nat → Nat → List Nat := fun _ _ => []
noncomputable def wbfe : List (Nat × LD) := []
noncomputable def wbff : Code := (f82.body).getD .skip
noncomputable def watb (a1_ : Int) (a2_ : Int) (a3_ : Int) : Tr (Bool) :=
 .t (decide (a2_ ≤ a1_))
 (.l (decide (a1_ ≤ a3_)))
 (.l false)
noncomputable def wacn (a1_ : Int) (a2_ : Int) (a3_ : Int) : Option (Bool) := (watb a1_ a2_ a3_).ev
noncomputable def wboz : Sh := (.cons (.dat yi) (.cons (.dat yi) (.cons (.dat yi) .nil)))
noncomputable def wbpa : List (Nat × OSh) := []
noncomputable def K_zcd : RetK := { acts := [], res := [.tmp 6], sh := (.cons (.dat .bool) .nil), obs := [], pins := [] }
noncomputable def D_zcd : FD := ⟨wboz, wbpa, [], Bool, fun x => wacn x.1.1 x.1.2.1 x.1.2.2.1, fun r => ([.dat .bool r], [])⟩
noncomputable def wbfg : Env := wae []
noncomputable def wbfh : Nat → Nat → List Nat := fun _ _ => []
noncomputable def wbfi : List (Nat × LD) := []
noncomputable def wbfj : Code := (f126.body).getD .skip
noncomputable def wls (k : Y1 × (Int × Int)) (v : Int) : Tr ((Int) ⊕ ((Unit) ⊕ (Unit))) :=
 .t (decide (v < ((List.length k.1 : Nat) : Int)))
 (.g (inR v (List.length k.1)) <|
 .c (Bool) (wacn (List.getD k.1 (Int.toNat v) (0 : Int)) (0 : Int) k.2.2) fun r5_ =>
 .t (!r5_)
 (.l (.inr (.inr ())))
 (.l (.inl (IntKind.wrap .i64 (v + (1 : Int))))))
 (.l (.inr (.inl ())))
noncomputable def wagv (k : Y1 × (Int × Int)) (v : Int) : Option ((Unit) ⊕ (Unit)) := iter (fun v => (wls k v).ev) v
noncomputable def wpp : LD := ⟨(yh [0, 1, 2, 7] (.cons (.dat y1) (.cons (.dat yi) (.cons (.dat yi) (.cons (.dat yi) .nil))))), [(0, (yh [0, 1] (.cons (.dat y1) (.cons (.dat yi) .nil))))], (yh [6] (.cons (.dat .bool) .nil)), Y1 × (Int × Int), Int, (Unit) ⊕ (Unit), fun k v => ((k.1, (k.2.1, (k.2.2, (v, ())))), ()), fun t => (t.1.1, (t.1.2.1, t.1.2.2.1)), fun t => t.1.2.2.2.1, wls, fun k r => .s (Unit) (Unit) r (fun _ => .l (.exit 0 (wav ((ys [0, 1] (.cons (.dat y1) (.cons (.dat yi) .nil)))) ((k.1, (k.2.1, ())), ())))) (fun _ => .l (.ret (wav ((ys [6] (.cons (.dat .bool) .nil))) ((false, ()), ()))))⟩
noncomputable def watc (a1_ : Y1) (a2_ : Int) (a3_ : Int) : Tr (Bool) :=
 .c ((Unit) ⊕ (Unit)) (wagv (a1_, (a2_, a3_)) (0 : Int)) fun r9_ =>
 .s (Unit) (Unit) r9_
 (fun _ => .l (((List.length a1_ : Nat) : Int) == a2_))
 (fun _ => .l false)
noncomputable def wagw (a1_ : Y1) (a2_ : Int) (a3_ : Int) : Option (Bool) := (watc a1_ a2_ a3_).ev
noncomputable def wbpb : Sh := (.cons (.dat y1) (.cons (.dat yi) (.cons (.dat yi) .nil)))
noncomputable def wbpc : List (Nat × OSh) := []
noncomputable def K_zcp : RetK := { acts := [], res := [.tmp 6], sh := (.cons (.dat .bool) .nil), obs := [], pins := [] }
noncomputable def D_zcp : FD := ⟨wbpb, wbpc, [], Bool, fun x => wagw x.1.1 x.1.2.1 x.1.2.2.1, fun r => ([.dat .bool r], [])⟩
noncomputable def watd : Env := wae [(126, D_zcd)]
noncomputable def wate : Nat → Nat → List Nat := fun _ _ => []
noncomputable def watf : List (Nat × LD) := [(0, wpp)]
noncomputable def wagx : Code := (f149.body).getD .skip
noncomputable def wlt (k : Int × (Y1 × Y2)) (v : Int) : Tr ((Int) ⊕ ((Unit) ⊕ (Unit))) :=
 .t (decide (v < ((List.length k.2.2 : Nat) : Int)))
 (.g (inR v (List.length k.2.2)) <|
 .c (Bool) (wagw (List.getD k.2.2 (Int.toNat v) ([] : Y1)) k.1 (99 : Int)) fun r5_ =>
 .t (!r5_)
 (.l (.inr (.inr ())))
 (.l (.inl (IntKind.wrap .i64 (v + (1 : Int))))))
 (.l (.inr (.inl ())))
noncomputable def wagy (k : Int × (Y1 × Y2)) (v : Int) : Option ((Unit) ⊕ (Unit)) := iter (fun v => (wlt k v).ev) v
noncomputable def wpq : LD := ⟨{ acts := [], S := { slots := [1, 3, 4], sh := (.cons (.box 1 0) (.cons (.dat yi) (.cons (.dat yi) .nil))), obs := [(1, .cells (.cons (.dat y1) (.cons (.dat y2) .nil)))] } }, [(0, { acts := [], S := { slots := [1, 3], sh := (.cons (.box 1 0) (.cons (.dat yi) .nil)), obs := [(1, .cells (.cons (.dat y1) (.cons (.dat y2) .nil)))] } })], (yh [2] (.cons (.dat .bool) .nil)), Int × (Y1 × Y2), Int, (Unit) ⊕ (Unit), fun k v => (((), (k.1, (v, ()))), ((k.2.1, (k.2.2, ())), ())), fun t => (t.1.2.1, (t.2.1.1, t.2.1.2.1)), fun t => t.1.2.2.1, wlt, fun k r => .s (Unit) (Unit) r (fun _ => .l (.exit 0 (wav ({ slots := [1, 3], sh := (.cons (.box 1 0) (.cons (.dat yi) .nil)), obs := [(1, .cells (.cons (.dat y1) (.cons (.dat y2) .nil)))] }) (((), (k.1, ())), ((k.2.1, (k.2.2, ())), ()))))) (fun _ => .l (.ret (wav ((ys [2] (.cons (.dat .bool) .nil))) ((false, ()), ()))))⟩
noncomputable def watg (a1_ : Y1) (a2_ : List Y1) : Tr (Bool) :=
 .c ((Unit) ⊕ (Unit)) (wagy (((List.length a1_ : Nat) : Int), (a1_, a2_)) (0 : Int)) fun r10_ =>
 .s (Unit) (Unit) r10_
 (fun _ => .c (Bool) (wacn ((List.length a1_ : Nat) : Int) (1 : Int) (7 : Int)) fun r13_ =>
 .t r13_
 (.c (Bool) (wagw a1_ ((List.length a1_ : Nat) : Int) (99 : Int)) fun r14_ =>
 .t r14_
 (.l (decide (((List.length a2_ : Nat) : Int) ≤ (7 : Int))))
 (.l false))
 (.l false))
 (fun _ => .l false)
noncomputable def wagz (a1_ : Y1) (a2_ : List Y1) : Option (Bool) := (watg a1_ a2_).ev
noncomputable def wbpd : Sh := (.cons (.agg (.cons (.dat y1) (.cons (.dat y2) .nil))) .nil)
noncomputable def wbpe : List (Nat × OSh) := []
noncomputable def K_zcl : RetK := { acts := [], res := [.tmp 2], sh := (.cons (.dat .bool) .nil), obs := [], pins := [] }
noncomputable def D_zcl : FD := ⟨wbpd, wbpe, [], Bool, fun x => wagz x.1.1.1 x.1.1.2.1, fun r => ([.dat .bool r], [])⟩
noncomputable def wath : Env := wae [(149, D_zcp), (126, D_zcd)]
noncomputable def wati : Nat → Nat → List Nat := fun _ _ => []
noncomputable def watj : List (Nat × LD) := [(0, wpq)]
noncomputable def waha : Code := (f94.body).getD .skip
noncomputable def watk (a1_ : Y1) (a2_ : List Y1) (a3_ : Int) : Tr (Bool) :=
 .c (Bool) (wagz a1_ a2_) fun r1_ =>
 .t r1_
 (.c (Bool) (wacn a3_ (1 : Int) ((List.length a1_ : Nat) : Int)) fun r2_ =>
 .l r2_)
 (.l false)
noncomputable def watl (a1_ : Y1) (a2_ : List Y1) (a3_ : Int) : Option (Bool) := (watk a1_ a2_ a3_).ev
noncomputable def wbpf : Sh := (.cons (.agg (.cons (.dat y1) (.cons (.dat y2) .nil))) (.cons (.dat yi) .nil))
noncomputable def wbpg : List (Nat × OSh) := []
noncomputable def K_zcu : RetK := { acts := [], res := [.tmp 4], sh := (.cons (.dat .bool) .nil), obs := [], pins := [] }
noncomputable def D_zcu : FD := ⟨wbpf, wbpg, [], Bool, fun x => watl x.1.1.1 x.1.1.2.1 x.1.2.1, fun r => ([.dat .bool r], [])⟩
noncomputable def wbfk : Env := wae [(94, D_zcl), (126, D_zcd)]
noncomputable def wbfl : Nat → Nat → List Nat := fun _ _ => []
noncomputable def wbfm : List (Nat × LD) := []
noncomputable def wbfn : Code := (f140.body).getD .skip
noncomputable def wlu (k : Y1 × Int) (v : Int) : Tr ((Int) ⊕ ((Unit) ⊕ (Unit))) :=
 .t (decide (v < ((List.length k.1 : Nat) : Int)))
 (.g (inR v (List.length k.1)) <|
 .t ((List.getD k.1 (Int.toNat v) (0 : Int)) == k.2)
 (.l (.inr (.inr ())))
 (.l (.inl (IntKind.wrap .i64 (v + (1 : Int))))))
 (.l (.inr (.inl ())))
noncomputable def wahb (k : Y1 × Int) (v : Int) : Option ((Unit) ⊕ (Unit)) := iter (fun v => (wlu k v).ev) v
noncomputable def wpr : LD := ⟨(yh [0, 1, 5] (.cons (.dat y1) (.cons (.dat yi) (.cons (.dat yi) .nil)))), [(0, (yh [] .nil))], (yh [4] (.cons (.dat .bool) .nil)), Y1 × (Int), Int, (Unit) ⊕ (Unit), fun k v => ((k.1, (k.2, (v, ()))), ()), fun t => (t.1.1, t.1.2.1), fun t => t.1.2.2.1, wlu, fun _ r => .s (Unit) (Unit) r (fun _ => .l (.exit 0 (wav ((ys [] .nil)) ((), ())))) (fun _ => .l (.ret (wav ((ys [4] (.cons (.dat .bool) .nil))) ((true, ()), ()))))⟩
noncomputable def watm (a1_ : Y1) (a2_ : Int) : Tr (Bool) :=
 .c ((Unit) ⊕ (Unit)) (wahb (a1_, a2_) (0 : Int)) fun r5_ =>
 .s (Unit) (Unit) r5_
 (fun _ => .l false)
 (fun _ => .l true)
noncomputable def wahc (a1_ : Y1) (a2_ : Int) : Option (Bool) := (watm a1_ a2_).ev
noncomputable def wbph : Sh := (.cons (.dat y1) (.cons (.dat yi) .nil))
noncomputable def wbpi : List (Nat × OSh) := []
noncomputable def K_zcc : RetK := { acts := [], res := [.tmp 4], sh := (.cons (.dat .bool) .nil), obs := [], pins := [] }
noncomputable def D_zcc : FD := ⟨wbph, wbpi, [], Bool, fun x => wahc x.1.1 x.1.2.1, fun r => ([.dat .bool r], [])⟩
noncomputable def watn : Env := wae []
noncomputable def wato : Nat → Nat → List Nat := fun _ _ => []
noncomputable def watp : List (Nat × LD) := [(0, wpr)]
noncomputable def wahd : Code := (f116.body).getD .skip
noncomputable def wij (k : Y1 × Int) (v : Int) : Tr ((Int) ⊕ (Int)) :=
 .t (decide (v < ((List.length k.1 : Nat) : Int)))
 (.g (inR v (List.length k.1)) <|
 .t (decide ((List.getD k.1 (Int.toNat v) (0 : Int)) < k.2))
 (.l (.inl (IntKind.wrap .i64 (v + (1 : Int)))))
 (.l (.inr v)))
 (.l (.inr v))
noncomputable def wxr (k : Y1 × Int) (v : Int) : Option (Int) := iter (fun v => (wij k v).ev) v
noncomputable def wps : LD := ⟨(yh [0, 1, 5] (.cons (.dat y1) (.cons (.dat yi) (.cons (.dat yi) .nil)))), [(0, (yh [0, 1, 5] (.cons (.dat y1) (.cons (.dat yi) (.cons (.dat yi) .nil)))))], (yh [] .nil), Y1 × (Int), Int, Int, fun k v => ((k.1, (k.2, (v, ()))), ()), fun t => (t.1.1, t.1.2.1), fun t => t.1.2.2.1, wij, fun k r => .l (.exit 0 (wav ((ys [0, 1, 5] (.cons (.dat y1) (.cons (.dat yi) (.cons (.dat yi) .nil))))) ((k.1, (k.2, (r, ()))), ())))⟩
noncomputable def watq (a1_ : Y1) (a2_ : Int) : Tr Y1 :=
 .c (Int) (wxr (a1_, a2_) (0 : Int)) fun r7_ =>
 .t (decide (r7_ < ((List.length a1_ : Nat) : Int)))
 (.g (inR r7_ (List.length a1_)) <|
 .t ((List.getD a1_ (Int.toNat r7_) (0 : Int)) == a2_)
 (.l a1_)
 (.g (decide ((0 : Int) ≤ r7_) && decide (r7_ ≤ ((List.length a1_ : Nat) : Int))) <|
 .g (decide ((List.length ([] : Y1) + List.length (List.drop 0 (List.take (Int.toNat r7_) a1_))) * 8 ≤ 140737488355328)) <|
 .g (decide ((List.length (([] : Y1) ++ (List.drop 0 (List.take (Int.toNat r7_) a1_))) + List.length ([a2_] : Y1)) * 8 ≤ 140737488355328)) <|
 .g (decide ((0 : Int) ≤ r7_) && decide (r7_ ≤ ((List.length a1_ : Nat) : Int))) <|
 .g (decide ((List.length ((([] : Y1) ++ (List.drop 0 (List.take (Int.toNat r7_) a1_))) ++ ([a2_] : Y1)) + List.length (List.drop (Int.toNat r7_) (List.take (List.length a1_) a1_))) * 8 ≤ 140737488355328)) <|
 .l (((([] : Y1) ++ (List.drop 0 (List.take (Int.toNat r7_) a1_))) ++ ([a2_] : Y1)) ++ (List.drop (Int.toNat r7_) (List.take (List.length a1_) a1_)))))
 (.g (decide ((0 : Int) ≤ r7_) && decide (r7_ ≤ ((List.length a1_ : Nat) : Int))) <|
 .g (decide ((List.length ([] : Y1) + List.length (List.drop 0 (List.take (Int.toNat r7_) a1_))) * 8 ≤ 140737488355328)) <|
 .g (decide ((List.length (([] : Y1) ++ (List.drop 0 (List.take (Int.toNat r7_) a1_))) + List.length ([a2_] : Y1)) * 8 ≤ 140737488355328)) <|
 .g (decide ((0 : Int) ≤ r7_) && decide (r7_ ≤ ((List.length a1_ : Nat) : Int))) <|
 .g (decide ((List.length ((([] : Y1) ++ (List.drop 0 (List.take (Int.toNat r7_) a1_))) ++ ([a2_] : Y1)) + List.length (List.drop (Int.toNat r7_) (List.take (List.length a1_) a1_))) * 8 ≤ 140737488355328)) <|
 .l (((([] : Y1) ++ (List.drop 0 (List.take (Int.toNat r7_) a1_))) ++ ([a2_] : Y1)) ++ (List.drop (Int.toNat r7_) (List.take (List.length a1_) a1_))))
noncomputable def wxs (a1_ : Y1) (a2_ : Int) : Option Y1 := (watq a1_ a2_).ev
noncomputable def wbpj : Sh := (.cons (.dat y1) (.cons (.dat yi) .nil))
noncomputable def wbpk : List (Nat × OSh) := []
noncomputable def K_zch : RetK := { acts := [.fz 33], res := [.tmp 4], sh := (.cons (.dat y1) .nil), obs := [], pins := [] }
noncomputable def D_zch : FD := ⟨wbpj, wbpk, [], Y1, fun x => wxs x.1.1 x.1.2.1, fun r => ([.dat y1 r], [])⟩
noncomputable def watr : Env := wae []
noncomputable def wats : Nat → Nat → List Nat := fun _ _ => []
noncomputable def watt : List (Nat × LD) := [(0, wps)]
noncomputable def wahe : Code := (f96.body).getD .skip
noncomputable def wik (k : Int × (Y1 × (Y1 × Y2))) (v : Int × Int) : Tr ((Int × Int) ⊕ (Int)) :=
 .t (decide (v.2 < ((List.length k.2.1 : Nat) : Int)))
 (.g (inR k.1 (List.length k.2.2.2)) <|
 .g (inR v.2 (List.length k.2.1)) <|
 .g (inR (List.getD k.2.1 (Int.toNat v.2) (0 : Int)) (List.length (List.getD k.2.2.2 (Int.toNat k.1) ([] : Y1)))) <|
 .g (inR k.1 (List.length k.2.2.2)) <|
 .g (inR v.1 (List.length (List.getD k.2.2.2 (Int.toNat k.1) ([] : Y1)))) <|
 .t (decide ((List.getD (List.getD k.2.2.2 (Int.toNat k.1) ([] : Y1)) (Int.toNat (List.getD k.2.1 (Int.toNat v.2) (0 : Int))) (0 : Int)) < (List.getD (List.getD k.2.2.2 (Int.toNat k.1) ([] : Y1)) (Int.toNat v.1) (0 : Int))))
 (.g (inR v.2 (List.length k.2.1)) <|
 .l (.inl ((List.getD k.2.1 (Int.toNat v.2) (0 : Int)), (IntKind.wrap .i64 (v.2 + (1 : Int))))))
 (.l (.inl (v.1, (IntKind.wrap .i64 (v.2 + (1 : Int)))))))
 (.l (.inr v.1))
noncomputable def wpt (k : Int × (Y1 × (Y1 × Y2))) (v : Int × Int) : Option (Int) := iter (fun v => (wik k v).ev) v
noncomputable def wpu : LD := ⟨{ acts := [], S := { slots := [1, 2, 3, 7, 8], sh := (.cons (.dat yi) (.cons (.dat y1) (.cons (.box 3 0) (.cons (.dat yi) (.cons (.dat yi) .nil))))), obs := [(3, .cells (.cons (.dat y1) (.cons (.dat y2) .nil)))] } }, [(0, (yh [7] (.cons (.dat yi) .nil)))], (yh [] .nil), Int × (Y1 × (Y1 × Y2)), Int × (Int), Int, fun k v => ((k.1, (k.2.1, ((), (v.1, (v.2, ()))))), ((k.2.2.1, (k.2.2.2, ())), ())), fun t => (t.1.1, (t.1.2.1, (t.2.1.1, t.2.1.2.1))), fun t => (t.1.2.2.2.1, t.1.2.2.2.2.1), wik, fun _ r => .l (.exit 0 (wav ((ys [7] (.cons (.dat yi) .nil))) ((r, ()), ())))⟩
noncomputable def watu (a1_ : Y1) (a2_ : List Y1) (a3_ : Int) (a4_ : Y1) : Tr (Int) :=
 .g (inR (0 : Int) (List.length a4_)) <|
 .c (Int) (wpt (a3_, (a4_, (a1_, a2_))) ((List.getD a4_ (Int.toNat (0 : Int)) (0 : Int)), (1 : Int))) fun r8_ =>
 .l r8_
noncomputable def watv (a1_ : Y1) (a2_ : List Y1) (a3_ : Int) (a4_ : Y1) : Option (Int) := (watu a1_ a2_ a3_ a4_).ev
noncomputable def wbpl : Sh := (.cons (.agg (.cons (.dat y1) (.cons (.dat y2) .nil))) (.cons (.dat yi) (.cons (.dat y1) .nil)))
noncomputable def wbpm : List (Nat × OSh) := []
noncomputable def K_zcs : RetK := { acts := [], res := [.tmp 6], sh := (.cons (.dat yi) .nil), obs := [], pins := [] }
noncomputable def D_zcs : FD := ⟨wbpl, wbpm, [], Int, fun x => watv x.1.1.1 x.1.1.2.1 x.1.2.1 x.1.2.2.1, fun r => ([.dat yi r], [])⟩
noncomputable def watw : Env := wae []
noncomputable def watx : Nat → Nat → List Nat := fun _ _ => []
noncomputable def waty : List (Nat × LD) := [(0, wpu)]
noncomputable def wahf : Code := (f190.body).getD .skip
noncomputable def watz (a1_ : Y1) (a2_ : List Y1) (a3_ : Int) (a4_ : Y1) : Tr (Int) :=
 .g (inR a3_ (List.length a2_)) <|
 .c (Int) (watv a1_ a2_ a3_ a4_) fun r1_ =>
 .g (inR r1_ (List.length (List.getD a2_ (Int.toNat a3_) ([] : Y1)))) <|
 .l (List.getD (List.getD a2_ (Int.toNat a3_) ([] : Y1)) (Int.toNat r1_) (0 : Int))
noncomputable def waua (a1_ : Y1) (a2_ : List Y1) (a3_ : Int) (a4_ : Y1) : Option (Int) := (watz a1_ a2_ a3_ a4_).ev
noncomputable def wbpn : Sh := (.cons (.agg (.cons (.dat y1) (.cons (.dat y2) .nil))) (.cons (.dat yi) (.cons (.dat y1) .nil)))
noncomputable def wbpo : List (Nat × OSh) := []
noncomputable def K_zcn : RetK := { acts := [], res := [.tmp 6], sh := (.cons (.dat yi) .nil), obs := [], pins := [] }
noncomputable def D_zcn : FD := ⟨wbpn, wbpo, [], Int, fun x => waua x.1.1.1 x.1.1.2.1 x.1.2.1 x.1.2.2.1, fun r => ([.dat yi r], [])⟩
noncomputable def wbfo : Env := wae [(190, D_zcs)]
noncomputable def wbfp : Nat → Nat → List Nat := fun _ _ => []
noncomputable def wbfq : List (Nat × LD) := []
noncomputable def wbfr : Code := (f150.body).getD .skip
noncomputable def wlv (k : Y1 × (Y1 × Y2)) (v : Int × Int) : Tr ((Int × Int) ⊕ (Int)) :=
 .t (decide (v.2 < ((List.length k.2.2 : Nat) : Int)))
 (.c (Int) (waua k.2.1 k.2.2 v.2 k.1) fun r6_ =>
 .l (.inl ((IntKind.wrap .i64 (v.1 + r6_)), (IntKind.wrap .i64 (v.2 + (1 : Int))))))
 (.l (.inr v.1))
noncomputable def wahg (k : Y1 × (Y1 × Y2)) (v : Int × Int) : Option (Int) := iter (fun v => (wlv k v).ev) v
noncomputable def wpv : LD := ⟨{ acts := [], S := { slots := [1, 2, 5, 6], sh := (.cons (.dat y1) (.cons (.box 2 0) (.cons (.dat yi) (.cons (.dat yi) .nil)))), obs := [(2, .cells (.cons (.dat y1) (.cons (.dat y2) .nil)))] } }, [(0, (yh [5] (.cons (.dat yi) .nil)))], (yh [] .nil), Y1 × (Y1 × Y2), Int × (Int), Int, fun k v => ((k.1, ((), (v.1, (v.2, ())))), ((k.2.1, (k.2.2, ())), ())), fun t => (t.1.1, (t.2.1.1, t.2.1.2.1)), fun t => (t.1.2.2.1, t.1.2.2.2.1), wlv, fun _ r => .l (.exit 0 (wav ((ys [5] (.cons (.dat yi) .nil))) ((r, ()), ())))⟩
noncomputable def waub (a1_ : Y1) (a2_ : List Y1) (a3_ : Y1) : Tr (Int) :=
 .c (Int) (wahg (a3_, (a1_, a2_)) ((0 : Int), (0 : Int))) fun r8_ =>
 .l r8_
noncomputable def wpw (a1_ : Y1) (a2_ : List Y1) (a3_ : Y1) : Option (Int) := (waub a1_ a2_ a3_).ev
noncomputable def wbpp : Sh := (.cons (.agg (.cons (.dat y1) (.cons (.dat y2) .nil))) (.cons (.dat y1) .nil))
noncomputable def wbpq : List (Nat × OSh) := []
noncomputable def K_zcq : RetK := { acts := [], res := [.tmp 4], sh := (.cons (.dat yi) .nil), obs := [], pins := [] }
noncomputable def D_zcq : FD := ⟨wbpp, wbpq, [], Int, fun x => wpw x.1.1.1 x.1.1.2.1 x.1.2.1, fun r => ([.dat yi r], [])⟩
noncomputable def wauc : Env := wae [(150, D_zcn)]
noncomputable def waud : Nat → Nat → List Nat := fun _ _ => []
noncomputable def waue : List (Nat × LD) := [(0, wpv)]
noncomputable def wahh : Code := (f97.body).getD .skip
noncomputable def wfg (k : Int × (Y1 × (Y1 × (Y2 × Y1)))) (v : Int × Int) : Tr ((Int × Int) ⊕ (Int)) :=
 .t (decide (v.2 < ((List.length k.2.2.1 : Nat) : Int)))
 (.c (Bool) (wahc k.2.1 v.2) fun r51_ =>
 .t (!r51_)
 (.t (decide (v.1 < (0 : Int)))
 (.l (.inl (v.2, (IntKind.wrap .i64 (v.2 + (1 : Int))))))
 (.c Y1 (wxs k.2.1 v.2) fun r52_ =>
 .c (Int) (wpw k.2.2.1 k.2.2.2.1 r52_) fun r53_ =>
 .c Y1 (wxs k.2.1 v.1) fun r54_ =>
 .c (Int) (wpw k.2.2.1 k.2.2.2.1 r54_) fun r55_ =>
 .t (decide (r53_ < r55_))
 (.l (.inl (v.2, (IntKind.wrap .i64 (v.2 + (1 : Int))))))
 (.l (.inl (v.1, (IntKind.wrap .i64 (v.2 + (1 : Int))))))))
 (.l (.inl (v.1, (IntKind.wrap .i64 (v.2 + (1 : Int)))))))
 (.l (.inr v.1))
noncomputable def wahi (k : Int × (Y1 × (Y1 × (Y2 × Y1)))) (v : Int × Int) : Option (Int) := iter (fun v => (wfg k v).ev) v
noncomputable def wpx : LD := ⟨{ acts := [], S := { slots := [1, 2, 6, 7, 8, 9], sh := (.cons (.dat yi) (.cons (.box 2 0) (.cons (.arr 10) (.cons (.dat y1) (.cons (.dat yi) (.cons (.dat yi) .nil)))))), obs := [(2, .cells (.cons (.dat y1) (.cons (.dat y2) .nil))), (10, .arr 3 yi)] } }, [(2, { acts := [], S := { slots := [1, 2, 6, 7, 8], sh := (.cons (.dat yi) (.cons (.box 2 0) (.cons (.arr 10) (.cons (.dat y1) (.cons (.dat yi) .nil))))), obs := [(2, .cells (.cons (.dat y1) (.cons (.dat y2) .nil))), (10, .arr 3 yi)] } })], (yh [] .nil), Int × (Y1 × (Y1 × (Y2 × Y1))), Int × (Int), Int, fun k v => ((k.1, ((), ((), (k.2.1, (v.1, (v.2, ())))))), ((k.2.2.1, (k.2.2.2.1, ())), (k.2.2.2.2, ()))), fun t => (t.1.1, (t.1.2.2.2.1, (t.2.1.1, (t.2.1.2.1, t.2.2.1)))), fun t => (t.1.2.2.2.2.1, t.1.2.2.2.2.2.1), wfg, fun k r => .l (.exit 2 (wav ({ slots := [1, 2, 6, 7, 8], sh := (.cons (.dat yi) (.cons (.box 2 0) (.cons (.arr 10) (.cons (.dat y1) (.cons (.dat yi) .nil))))), obs := [(2, .cells (.cons (.dat y1) (.cons (.dat y2) .nil))), (10, .arr 3 yi)] }) ((k.1, ((), ((), (k.2.1, (r, ()))))), ((k.2.2.1, (k.2.2.2.1, ())), (k.2.2.2.2, ())))))⟩
noncomputable def wlw (k : Int × (Y1 × Y2)) (v : Y1 × Y1) : Tr ((Y1 × Y1) ⊕ Y1) :=
 .t (decide (((List.length v.2 : Nat) : Int) < k.1))
 (.c (Int) (wahi (k.1, (v.1, (k.2.1, (k.2.2, v.2)))) ((-1 : Int), (0 : Int))) fun r62_ =>
 .g (decide ((List.length v.2 + List.length ([r62_] : Y1)) * 8 ≤ 140737488355328)) <|
 .c Y1 (wxs v.1 r62_) fun r63_ =>
 .l (.inl (r63_, (v.2 ++ ([r62_] : Y1)))))
 (.l (.inr v.2))
noncomputable def wahj (k : Int × (Y1 × Y2)) (v : Y1 × Y1) : Option Y1 := iter (fun v => (wlw k v).ev) v
noncomputable def wpy : LD := ⟨{ acts := [.fz 11], S := { slots := [1, 2, 6, 7], sh := (.cons (.dat yi) (.cons (.box 2 0) (.cons (.arr 10) (.cons (.dat y1) .nil)))), obs := [(2, .cells (.cons (.dat y1) (.cons (.dat y2) .nil))), (10, .arr 3 yi)] } }, [(0, { acts := [], S := { slots := [6], sh := (.cons (.arr 10) .nil), obs := [(10, .arr 3 yi)] } })], (yh [] .nil), Int × (Y1 × Y2), Y1 × Y1, Y1, fun k v => ((k.1, ((), ((), (v.1, ())))), ((k.2.1, (k.2.2, ())), (v.2, ()))), fun t => (t.1.1, (t.2.1.1, t.2.1.2.1)), fun t => (t.1.2.2.2.1, t.2.2.1), wlw, fun _ r => .l (.exit 0 (wav ({ slots := [6], sh := (.cons (.arr 10) .nil), obs := [(10, .arr 3 yi)] }) (((), ()), (r, ()))))⟩
noncomputable def wauf (a1_ : Y1) (a2_ : List Y1) (a3_ : Int) : Tr (Bool × Y1) :=
 .c (Bool) (watl a1_ a2_ a3_) fun r1_ =>
 .t (!r1_)
 (.l (false, ([] : Y1)))
 (.c Y1 (wahj (a3_, (a1_, a2_)) (([] : Y1), ([] : Y1))) fun r65_ =>
 .l (true, r65_))
noncomputable def waug (a1_ : Y1) (a2_ : List Y1) (a3_ : Int) : Option (Bool × Y1) := (wauf a1_ a2_ a3_).ev
noncomputable def wbpr : Sh := (.cons (.agg (.cons (.dat y1) (.cons (.dat y2) .nil))) (.cons (.dat yi) .nil))
noncomputable def wbps : List (Nat × OSh) := []
noncomputable def K_zbp : RetK := { acts := [.ren 10 0], res := [.tmp 4, .tmp 5], sh := (.cons (.arr 0) (.cons (.dat .bool) .nil)), obs := [(0, .arr 3 yi)], pins := [] }
noncomputable def D_zbp : FD := ⟨wbpr, wbps, [], Bool × Y1, fun x => waug x.1.1.1 x.1.1.2.1 x.1.2.1, fun r => ([.arr 0, .dat .bool r.1], [(0, .arr 3 yi r.2)])⟩
noncomputable def wahk : Env := wae [(140, D_zcu), (116, D_zcc), (96, D_zch), (97, D_zcq)]
noncomputable def wahl : Nat → Nat → List Nat := fun r i => match look [(9, [(0, [7])])] r with
 | some l => (look l i).getD []
 | none => []
noncomputable def wahm : List (Nat × LD) := [(2, wpx), (0, wpy)]
noncomputable def waco : Code := (f84.body).getD .skip
noncomputable def wauh (a4_ : Int) (a1_ : Y1) (a2_ : Int) (a3_ : Int) : Tr (Bool × (Y1 × (Int × Int))) :=
 .c (Int × (Y1 × (Int × Int))) (wie a4_ a1_ a2_ a3_) fun r1_ =>
 .l ((r1_.1 == (0 : Int)), (r1_.2.1, (r1_.2.2.1, r1_.2.2.2)))
noncomputable def wvc (a4_ : Int) (a1_ : Y1) (a2_ : Int) (a3_ : Int) : Option (Bool × (Y1 × (Int × Int))) := (wauh a4_ a1_ a2_ a3_).ev
noncomputable def wbpt : Sh := (.cons (.box 64 0) (.cons (.dat yi) .nil))
noncomputable def wbpu : List (Nat × OSh) := [(64, .cells (.cons (.dat (.slice (.int .u8))) (.cons (.dat yi) (.cons (.dat (.int .u64)) .nil))))]
noncomputable def K_zby : RetK := { acts := [], res := [.tmp 4], sh := (.cons (.dat .bool) .nil), obs := [(64, .cells (.cons (.dat (.slice (.int .u8))) (.cons (.dat yi) (.cons (.dat (.int .u64)) .nil))))], pins := [(0, 0, 64)] }
noncomputable def D_zby : FD := ⟨wbpt, wbpu, [.arg 0], Bool × (Y1 × (Int × Int)), fun x => wvc x.1.2.1 x.2.1.1 x.2.1.2.1 x.2.1.2.2.1, fun r => ([.dat .bool r.1], [(64, .cells [.dat (.slice (.int .u8)) r.2.1, .dat yi r.2.2.1, .dat (.int .u64) r.2.2.2])])⟩
noncomputable def wbfs : Env := wae [(83, D_zbz)]
noncomputable def wbft : Nat → Nat → List Nat := fun _ _ => []
noncomputable def wbfu : List (Nat × LD) := []
noncomputable def wbfv : Code := (f85.body).getD .skip
noncomputable def wlx (k : Y1 × Y2) (v : Int × (Y1 × (Int × (Int × Y1)))) : Tr ((Int × (Y1 × (Int × (Int × Y1)))) ⊕ (Y1 × (Int × (Int × Y1)))) :=
 .t (decide (v.1 < ((List.length k.1 : Nat) : Int)))
 (.c (Int × (Y1 × (Int × Int))) (wie (IntKind.wrap .i64 (((List.length v.2.2.2.2 : Nat) : Int) + (1 : Int))) v.2.1 v.2.2.1 v.2.2.2.1) fun r9_ =>
 .g (decide ((0 : Int) ≤ r9_.1) && decide (r9_.1 ≤ ((List.length v.2.2.2.2 : Nat) : Int))) <|
 .g (decide ((List.length ([] : Y1) + List.length (List.drop 0 (List.take (Int.toNat r9_.1) v.2.2.2.2))) * 8 ≤ 140737488355328)) <|
 .g (decide ((List.length (([] : Y1) ++ (List.drop 0 (List.take (Int.toNat r9_.1) v.2.2.2.2))) + List.length ([v.1] : Y1)) * 8 ≤ 140737488355328)) <|
 .g (decide ((0 : Int) ≤ r9_.1) && decide (r9_.1 ≤ ((List.length v.2.2.2.2 : Nat) : Int))) <|
 .g (decide ((List.length ((([] : Y1) ++ (List.drop 0 (List.take (Int.toNat r9_.1) v.2.2.2.2))) ++ ([v.1] : Y1)) + List.length (List.drop (Int.toNat r9_.1) (List.take (List.length v.2.2.2.2) v.2.2.2.2))) * 8 ≤ 140737488355328)) <|
 .l (.inl ((IntKind.wrap .i64 (v.1 + (1 : Int))), (r9_.2.1, (r9_.2.2.1, (r9_.2.2.2, (((([] : Y1) ++ (List.drop 0 (List.take (Int.toNat r9_.1) v.2.2.2.2))) ++ ([v.1] : Y1)) ++ (List.drop (Int.toNat r9_.1) (List.take (List.length v.2.2.2.2) v.2.2.2.2)))))))))
 (.l (.inr (v.2.1, (v.2.2.1, (v.2.2.2.1, v.2.2.2.2)))))
noncomputable def wahn (k : Y1 × Y2) (v : Int × (Y1 × (Int × (Int × Y1)))) : Option (Y1 × (Int × (Int × Y1))) := iter (fun v => (wlx k v).ev) v
noncomputable def wpz : LD := ⟨{ acts := [.rep 29 16], S := { slots := [2, 4, 5, 6, 7], sh := (.cons (.box 2 0) (.cons (.box 13 0) (.cons (.box 5 0) (.cons (.arr 16) (.cons (.dat yi) .nil))))), obs := [(2, .cells (.cons .nilsl (.cons .nilsl .nil))), (13, .cells (.cons (.dat (.slice (.int .u8))) (.cons (.dat yi) (.cons (.dat (.int .u64)) .nil)))), (5, .cells (.cons (.arr 961) (.cons (.arr 963) .nil))), (16, .arr 3 yi), (961, .arr 3 yi), (963, .rows 22 3 yi)] } }, [(0, { acts := [], S := { slots := [2, 4, 5, 6], sh := (.cons (.box 2 0) (.cons (.box 13 0) (.cons (.box 5 0) (.cons (.arr 16) .nil)))), obs := [(2, .cells (.cons .nilsl (.cons .nilsl .nil))), (13, .cells (.cons (.dat (.slice (.int .u8))) (.cons (.dat yi) (.cons (.dat (.int .u64)) .nil)))), (5, .cells (.cons (.arr 961) (.cons (.arr 963) .nil))), (16, .arr 3 yi), (961, .arr 3 yi), (963, .rows 22 3 yi)] } })], (yh [] .nil), Y1 × Y2, Int × (Y1 × (Int × (Int × Y1))), Y1 × (Int × (Int × Y1)), fun k v => (((), ((), ((), ((), (v.1, ()))))), (((), ((), ())), ((v.2.1, (v.2.2.1, (v.2.2.2.1, ()))), (((), ((), ())), (v.2.2.2.2, (k.1, (k.2, ()))))))), fun t => (t.2.2.2.2.2.1, t.2.2.2.2.2.2.1), fun t => (t.1.2.2.2.2.1, (t.2.2.1.1, (t.2.2.1.2.1, (t.2.2.1.2.2.1, t.2.2.2.2.1)))), wlx, fun k r => .l (.exit 0 (wav ({ slots := [2, 4, 5, 6], sh := (.cons (.box 2 0) (.cons (.box 13 0) (.cons (.box 5 0) (.cons (.arr 16) .nil)))), obs := [(2, .cells (.cons .nilsl (.cons .nilsl .nil))), (13, .cells (.cons (.dat (.slice (.int .u8))) (.cons (.dat yi) (.cons (.dat (.int .u64)) .nil)))), (5, .cells (.cons (.arr 961) (.cons (.arr 963) .nil))), (16, .arr 3 yi), (961, .arr 3 yi), (963, .rows 22 3 yi)] }) (((), ((), ((), ((), ())))), (((), ((), ())), ((r.1, (r.2.1, (r.2.2.1, ()))), (((), ((), ())), (r.2.2.2, (k.1, (k.2, ())))))))))⟩
noncomputable def waui (a1_ : Y1) : Tr (Y1 × (Y2 × Y1)) :=
 .c (Y1 × (Y2 × (Y1 × (Int × Int)))) (wata a1_ (0 : Int) (0 : Int)) fun r1_ =>
 .c (Y1 × (Int × (Int × Y1))) (wahn (r1_.1, r1_.2.1) ((0 : Int), (r1_.2.2.1, (r1_.2.2.2.1, (r1_.2.2.2.2, ([] : Y1)))))) fun r16_ =>
 .c (Bool × Y1) (waug r1_.1 r1_.2.1 ((List.length r1_.1 : Nat) : Int)) fun r17_ =>
 .t r17_.1
 (.c (Bool × (Y1 × (Int × Int))) (wvc (2 : Int) r16_.1 r16_.2.1 r16_.2.2.1) fun r18_ =>
 .t r18_.1
 (.c (Bool × (Y1 × (Int × Int))) (wvc (20 : Int) r18_.2.1 r18_.2.2.1 r18_.2.2.2) fun r19_ =>
 .t r19_.1
 (.c (Int × (Y1 × (Int × Int))) (wjl ([(0 : Int), (-1 : Int), (7 : Int)] : Y1) r19_.2.1 r19_.2.2.1 r19_.2.2.2) fun r20_ =>
 .g (decide ((List.length r17_.2 + List.length ([r20_.1] : Y1)) * 8 ≤ 140737488355328)) <|
 .l (r1_.1, (r1_.2.1, (r17_.2 ++ ([r20_.1] : Y1)))))
 (.l (r1_.1, (r1_.2.1, r17_.2))))
 (.c (Bool × (Y1 × (Int × Int))) (wvc (20 : Int) r18_.2.1 r18_.2.2.1 r18_.2.2.2) fun r21_ =>
 .t r21_.1
 (.c (Int × (Y1 × (Int × Int))) (wjl ([(0 : Int), (-1 : Int), (7 : Int)] : Y1) r21_.2.1 r21_.2.2.1 r21_.2.2.2) fun r22_ =>
 .g (decide ((List.length r16_.2.2.2 + List.length ([r22_.1] : Y1)) * 8 ≤ 140737488355328)) <|
 .l (r1_.1, (r1_.2.1, (r16_.2.2.2 ++ ([r22_.1] : Y1)))))
 (.l (r1_.1, (r1_.2.1, r16_.2.2.2)))))
 (.c (Bool × (Y1 × (Int × Int))) (wvc (20 : Int) r16_.1 r16_.2.1 r16_.2.2.1) fun r23_ =>
 .t r23_.1
 (.c (Int × (Y1 × (Int × Int))) (wjl ([(0 : Int), (-1 : Int), (7 : Int)] : Y1) r23_.2.1 r23_.2.2.1 r23_.2.2.2) fun r24_ =>
 .g (decide ((List.length r16_.2.2.2 + List.length ([r24_.1] : Y1)) * 8 ≤ 140737488355328)) <|
 .l (r1_.1, (r1_.2.1, (r16_.2.2.2 ++ ([r24_.1] : Y1)))))
 (.l (r1_.1, (r1_.2.1, r16_.2.2.2))))
noncomputable def wauj (a1_ : Y1) : Option (Y1 × (Y2 × Y1)) := (waui a1_).ev
noncomputable def wbpv : Sh := (.cons (.dat (.slice (.int .u8))) .nil)
noncomputable def wbpw : List (Nat × OSh) := []
noncomputable def K_zbo : RetK := { acts := [.ren 961 3, .ren 963 4, .pin 3 1], res := [.cell 2 32, .tmp 3], sh := (.cons (.agg (.cons (.arr 3) (.cons (.arr 4) .nil))) (.cons (.arr 1) .nil)), obs := [(3, .arr 3 yi), (4, .rows 22 3 yi), (1, .arr 3 yi)], pins := [] }
noncomputable def D_zbo : FD := ⟨wbpv, wbpw, [], Y1 × (Y2 × Y1), fun x => wauj x.1.1, fun r => ([.agg [.arr 3, .arr 4], .arr 1], [(3, .arr 3 yi r.1), (4, .rows 22 3 yi r.2.1 none), (1, .arr 3 yi r.2.2)])⟩
noncomputable def wauk : Env := wae [(82, D_zbu), (83, D_zbz), (84, D_zbp), (85, D_zby), (86, D_zbt)]
noncomputable def waul : Nat → Nat → List Nat := fun r i => match look [(8, [(0, [6])]), (13, [(3, [59])])] r with
 | some l => (look l i).getD []
 | none => []
noncomputable def waum : List (Nat × LD) := [(0, wpz)]
noncomputable def waho : Code := (f26.body).getD .skip
noncomputable def T_zw (a1_ : Int) (a2_ : Int) (a3_ : Int) : Tr (Bool) :=
 .t (decide (a2_ ≤ a1_))
 (.l (decide (a1_ ≤ a3_)))
 (.l false)
noncomputable def F_zw (a1_ : Int) (a2_ : Int) (a3_ : Int) : Option (Bool) := (T_zw a1_ a2_ a3_).ev
def A_zw : Sh := (.cons (.dat yi) (.cons (.dat yi) (.cons (.dat yi) .nil)))
def I_zw : List (Nat × OSh) := []
noncomputable def K_zw : RetK := { acts := [], res := [.tmp 6], sh := (.cons (.dat .bool) .nil), obs := [], pins := [] }
noncomputable def D_zw : FD := ⟨A_zw, I_zw, [], Bool, fun x => F_zw x.1.1 x.1.2.1 x.1.2.2.1, fun r => ([.dat .bool r], [])⟩
noncomputable def E_zw : Env := wae []
def Z_zw : Nat → Nat → List Nat := fun _ _ => []
noncomputable def O_zw : List (Nat × LD) := []
noncomputable def C_zw : Code := (f67.body).getD .skip
noncomputable def wly (k : Y1 × (((HL [yi] → Option (Bool))) × Int)) (v : Int) : Tr ((Int) ⊕ ((Unit) ⊕ (Int))) :=
 .t (decide (v < k.2.2))
 (.g (inR v (List.length k.1)) <|
 .c (Bool) (k.2.1 ((List.getD k.1 (Int.toNat v) (0 : Int)), ())) fun r5_ =>
 .t r5_
 (.l (.inr (.inr v)))
 (.l (.inl (IntKind.wrap .i64 (v + (1 : Int))))))
 (.l (.inr (.inl ())))
noncomputable def wahp (k : Y1 × (((HL [yi] → Option (Bool))) × Int)) (v : Int) : Option ((Unit) ⊕ (Int)) := iter (fun v => (wly k v).ev) v
noncomputable def wqa : LD := ⟨(yh [0, 1, 7, 8] (.cons (.dat y1) (.cons (.clo [yi] .bool) (.cons (.dat yi) (.cons (.dat yi) .nil))))), [(0, (yh [] .nil))], (yh [4] (.cons (.dat yi) .nil)), Y1 × (((HL [yi] → Option (Bool))) × Int), Int, (Unit) ⊕ (Int), fun k v => ((k.1, (k.2.1, (k.2.2, (v, ())))), ()), fun t => (t.1.1, (t.1.2.1, t.1.2.2.1)), fun t => t.1.2.2.2.1, wly, fun _ r => .s (Unit) (Int) r (fun _ => .l (.exit 0 (wav ((ys [] .nil)) ((), ())))) (fun b => .l (.ret (wav ((ys [4] (.cons (.dat yi) .nil))) ((b, ()), ()))))⟩
noncomputable def waun (a1_ : Y1) (a2_ : (HL [yi] → Option (Bool))) : Tr (Int) :=
 .c ((Unit) ⊕ (Int)) (wahp (a1_, (a2_, ((List.length a1_ : Nat) : Int))) (0 : Int)) fun r7_ =>
 .s (Unit) (Int) r7_
 (fun _ => .l (-1 : Int))
 (fun r9_ => .l r9_)
noncomputable def wauo (a1_ : Y1) (a2_ : (HL [yi] → Option (Bool))) : Option (Int) := (waun a1_ a2_).ev
noncomputable def wbpx : Sh := (.cons (.dat y1) (.cons (.clo [yi] .bool) .nil))
noncomputable def wbpy : List (Nat × OSh) := []
noncomputable def K_zar : RetK := { acts := [], res := [.tmp 4], sh := (.cons (.dat yi) .nil), obs := [], pins := [] }
noncomputable def D_zar : FD := ⟨wbpx, wbpy, [], Int, fun x => wauo x.1.1 x.1.2.1, fun r => ([.dat yi r], [])⟩
noncomputable def waup : Env := wae []
noncomputable def wauq : Nat → Nat → List Nat := fun _ _ => []
noncomputable def waur : List (Nat × LD) := [(0, wqa)]
noncomputable def wahq : Code := (f164.body).getD .skip
noncomputable def waus (a1_ : Y1) (a2_ : (HL [yi] → Option (Bool))) : Tr (Bool) :=
 .c (Int) (wauo a1_ a2_) fun r1_ =>
 .l (decide ((0 : Int) ≤ r1_))
noncomputable def waut (a1_ : Y1) (a2_ : (HL [yi] → Option (Bool))) : Option (Bool) := (waus a1_ a2_).ev
noncomputable def wbpz : Sh := (.cons (.dat y1) (.cons (.clo [yi] .bool) .nil))
noncomputable def wbqa : List (Nat × OSh) := []
noncomputable def K_zao : RetK := { acts := [], res := [.tmp 4], sh := (.cons (.dat .bool) .nil), obs := [], pins := [] }
noncomputable def D_zao : FD := ⟨wbpz, wbqa, [], Bool, fun x => waut x.1.1 x.1.2.1, fun r => ([.dat .bool r], [])⟩
noncomputable def wbfx : Env := wae [(164, D_zar)]
noncomputable def wbfy : Nat → Nat → List Nat := fun _ _ => []
noncomputable def wbfz : List (Nat × LD) := []
noncomputable def wbga : Code := (f183.body).getD .skip
noncomputable def T_zt (a1_ : Int) (a2_ : Int) (a3_ : Int) : Tr (Bool) :=
 .c (Bool) (F_zw a1_ a2_ a3_) fun r1_ =>
 .l (!r1_)
noncomputable def F_zt (a1_ : Int) (a2_ : Int) (a3_ : Int) : Option (Bool) := (T_zt a1_ a2_ a3_).ev
def A_zt : Sh := (.cons (.dat yi) (.cons (.ptr (.cons (.dat yi) .nil)) (.cons (.ptr (.cons (.dat yi) .nil)) .nil)))
def I_zt : List (Nat × OSh) := []
noncomputable def K_zt : RetK := { acts := [], res := [.tmp 4], sh := (.cons (.dat .bool) .nil), obs := [], pins := [] }
noncomputable def D_zt : FD := ⟨A_zt, I_zt, [], Bool, fun x => F_zt x.1.1 x.1.2.1.1 x.1.2.2.1.1, fun r => ([.dat .bool r], [])⟩
noncomputable def E_zt : Env := wae [(67, D_zw)]
def Z_zt : Nat → Nat → List Nat := fun _ _ => []
noncomputable def O_zt : List (Nat × LD) := []
noncomputable def C_zt : Code := (f184.body).getD .skip
noncomputable def T_zs (a1_ : Y1) (a2_ : Int) (a3_ : Int) : Tr (Bool) :=
 .c (Bool) (waut a1_ (fun h1_ => Option.bind (F_zt h1_.1 a2_ a3_) fun y2_ => some y2_)) fun r3_ =>
 .l (!r3_)
noncomputable def F_zs (a1_ : Y1) (a2_ : Int) (a3_ : Int) : Option (Bool) := (T_zs a1_ a2_ a3_).ev
def A_zs : Sh := (.cons (.dat y1) (.cons (.dat yi) (.cons (.dat yi) .nil)))
def I_zs : List (Nat × OSh) := []
noncomputable def K_zs : RetK := { acts := [], res := [.tmp 6], sh := (.cons (.dat .bool) .nil), obs := [], pins := [] }
noncomputable def D_zs : FD := ⟨A_zs, I_zs, [], Bool, fun x => F_zs x.1.1 x.1.2.1 x.1.2.2.1, fun r => ([.dat .bool r], [])⟩
noncomputable def E_zs : Env := wae [(183, D_zao), (183, D_zao), (184, D_zt)]
def Z_zs : Nat → Nat → List Nat := fun _ _ => []
noncomputable def O_zs : List (Nat × LD) := []
noncomputable def C_zs : Code := (f141.body).getD .skip
noncomputable def wlz (k : Y2 × (((HL [y1] → Option (Bool))) × Int)) (v : Int) : Tr ((Int) ⊕ ((Unit) ⊕ (Int))) :=
 .t (decide (v < k.2.2))
 (.g (inR v (List.length k.1)) <|
 .c (Bool) (k.2.1 ((List.getD k.1 (Int.toNat v) ([] : Y1)), ())) fun r5_ =>
 .t r5_
 (.l (.inr (.inr v)))
 (.l (.inl (IntKind.wrap .i64 (v + (1 : Int))))))
 (.l (.inr (.inl ())))
noncomputable def wahr (k : Y2 × (((HL [y1] → Option (Bool))) × Int)) (v : Int) : Option ((Unit) ⊕ (Int)) := iter (fun v => (wlz k v).ev) v
noncomputable def wqb : LD := ⟨(yh [0, 1, 7, 8] (.cons (.dat y2) (.cons (.clo [y1] .bool) (.cons (.dat yi) (.cons (.dat yi) .nil))))), [(0, (yh [] .nil))], (yh [4] (.cons (.dat yi) .nil)), Y2 × (((HL [y1] → Option (Bool))) × Int), Int, (Unit) ⊕ (Int), fun k v => ((k.1, (k.2.1, (k.2.2, (v, ())))), ()), fun t => (t.1.1, (t.1.2.1, t.1.2.2.1)), fun t => t.1.2.2.2.1, wlz, fun _ r => .s (Unit) (Int) r (fun _ => .l (.exit 0 (wav ((ys [] .nil)) ((), ())))) (fun b => .l (.ret (wav ((ys [4] (.cons (.dat yi) .nil))) ((b, ()), ()))))⟩
noncomputable def wauu (a1_ : List Y1) (a2_ : (HL [y1] → Option (Bool))) : Tr (Int) :=
 .c ((Unit) ⊕ (Int)) (wahr (a1_, (a2_, ((List.length a1_ : Nat) : Int))) (0 : Int)) fun r7_ =>
 .s (Unit) (Int) r7_
 (fun _ => .l (-1 : Int))
 (fun r9_ => .l r9_)
noncomputable def wahs (a1_ : List Y1) (a2_ : (HL [y1] → Option (Bool))) : Option (Int) := (wauu a1_ a2_).ev
noncomputable def wbqc : Sh := (.cons (.dat y2) (.cons (.clo [y1] .bool) .nil))
noncomputable def wbqd : List (Nat × OSh) := []
noncomputable def K_zaq : RetK := { acts := [], res := [.tmp 4], sh := (.cons (.dat yi) .nil), obs := [], pins := [] }
noncomputable def D_zaq : FD := ⟨wbqc, wbqd, [], Int, fun x => wahs x.1.1 x.1.2.1, fun r => ([.dat yi r], [])⟩
noncomputable def wauv : Env := wae []
noncomputable def wauw : Nat → Nat → List Nat := fun _ _ => []
noncomputable def waux : List (Nat × LD) := [(0, wqb)]
noncomputable def waht : Code := (f185.body).getD .skip
noncomputable def wauy (a1_ : List Y1) (a2_ : (HL [y1] → Option (Bool))) : Tr (Bool) :=
 .c (Int) (wahs a1_ a2_) fun r1_ =>
 .l (decide ((0 : Int) ≤ r1_))
noncomputable def wauz (a1_ : List Y1) (a2_ : (HL [y1] → Option (Bool))) : Option (Bool) := (wauy a1_ a2_).ev
noncomputable def wbqe : Sh := (.cons (.dat y2) (.cons (.clo [y1] .bool) .nil))
noncomputable def wbqf : List (Nat × OSh) := []
noncomputable def K_zan : RetK := { acts := [], res := [.tmp 4], sh := (.cons (.dat .bool) .nil), obs := [], pins := [] }
noncomputable def D_zan : FD := ⟨wbqe, wbqf, [], Bool, fun x => wauz x.1.1 x.1.2.1, fun r => ([.dat .bool r], [])⟩
noncomputable def wbgb : Env := wae [(185, D_zaq)]
noncomputable def wbgc : Nat → Nat → List Nat := fun _ _ => []
noncomputable def wbgd : List (Nat × LD) := []
noncomputable def wbge : Code := (f142.body).getD .skip
noncomputable def T_zn (a1_ : Y1) (a2_ : Y1) (_a3_ : List Y1) : Tr (Bool) :=
 .t (((List.length a1_ : Nat) : Int) != ((List.length a2_ : Nat) : Int))
 (.l true)
 (.c (Bool) (F_zs a1_ (0 : Int) (99 : Int)) fun r1_ =>
 .l (!r1_))
noncomputable def F_zn (a1_ : Y1) (a2_ : Y1) (a3_ : List Y1) : Option (Bool) := (T_zn a1_ a2_ a3_).ev
def A_zn : Sh := (.cons (.dat y1) (.cons (.ptr (.cons (.dat y1) (.cons (.dat y2) .nil))) .nil))
def I_zn : List (Nat × OSh) := []
noncomputable def K_zn : RetK := { acts := [], res := [.tmp 3], sh := (.cons (.dat .bool) .nil), obs := [], pins := [] }
noncomputable def D_zn : FD := ⟨A_zn, I_zn, [], Bool, fun x => F_zn x.1.1 x.1.2.1.1 x.1.2.1.2.1, fun r => ([.dat .bool r], [])⟩
noncomputable def E_zn : Env := wae [(141, D_zs)]
def Z_zn : Nat → Nat → List Nat := fun _ _ => []
noncomputable def O_zn : List (Nat × LD) := []
noncomputable def C_zn : Code := (f143.body).getD .skip
noncomputable def T_zm (a1_ : Y1) (a2_ : List Y1) : Tr (Bool) :=
 .c (Bool) (F_zw ((List.length a1_ : Nat) : Int) (1 : Int) (7 : Int)) fun r1_ =>
 .t r1_
 (.c (Bool) (F_zs a1_ (0 : Int) (99 : Int)) fun r2_ =>
 .t r2_
 (.t (decide (((List.length a2_ : Nat) : Int) ≤ (7 : Int)))
 (.c (Bool) (wauz a2_ (fun h3_ => Option.bind (F_zn h3_.1 a1_ a2_) fun y4_ => some y4_)) fun r5_ =>
 .l (!r5_))
 (.l false))
 (.l false))
 (.l false)
noncomputable def F_zm (a1_ : Y1) (a2_ : List Y1) : Option (Bool) := (T_zm a1_ a2_).ev
def A_zm : Sh := (.cons (.agg (.cons (.dat y1) (.cons (.dat y2) .nil))) .nil)
def I_zm : List (Nat × OSh) := []
noncomputable def K_zm : RetK := { acts := [], res := [.tmp 2], sh := (.cons (.dat .bool) .nil), obs := [], pins := [] }
noncomputable def D_zm : FD := ⟨A_zm, I_zm, [], Bool, fun x => F_zm x.1.1.1 x.1.1.2.1, fun r => ([.dat .bool r], [])⟩
noncomputable def E_zm : Env := wae [(67, D_zw), (141, D_zs), (142, D_zan), (142, D_zan), (143, D_zn)]
def Z_zm : Nat → Nat → List Nat := fun _ _ => []
noncomputable def O_zm : List (Nat × LD) := []
noncomputable def C_zm : Code := (f87.body).getD .skip
noncomputable def wava (a1_ : Y1) : Option (List Int) := some a1_
noncomputable def wbgf : FD := waan
noncomputable def wbgg (a1_ : Y1) : Option (List Int) := wdp a1_
noncomputable def wbqg : FD := wuw
noncomputable def wahu (a1_ : Int) : Tr (Int) :=
 .t (decide ((4294967296 : Int) ≤ a1_))
 (.g (decide ((0 : Int) ≤ (32 : Int))) <|
 .t (decide ((65536 : Int) ≤ (Int.fdiv a1_ (2 ^ (min (Int.toNat (32 : Int)) (IntKind.bits .u64))))))
 (.g (decide ((0 : Int) ≤ (16 : Int))) <|
 .t (decide ((256 : Int) ≤ (Int.fdiv (Int.fdiv a1_ (2 ^ (min (Int.toNat (32 : Int)) (IntKind.bits .u64)))) (2 ^ (min (Int.toNat (16 : Int)) (IntKind.bits .u64))))))
 (.g (decide ((0 : Int) ≤ (8 : Int))) <|
 .g (inR (IntKind.wrap .u8 (Int.fdiv (Int.fdiv (Int.fdiv a1_ (2 ^ (min (Int.toNat (32 : Int)) (IntKind.bits .u64)))) (2 ^ (min (Int.toNat (16 : Int)) (IntKind.bits .u64)))) (2 ^ (min (Int.toNat (8 : Int)) (IntKind.bits .u64))))) (List.length ([0, 1, 2, 2, 3, 3, 3, 3, 4, 4, 4, 4, 4, 4, 4, 4, 5, 5, 5, 5, 5, 5, 5, 5, 5, 5, 5, 5, 5, 5, 5, 5, 6, 6, 6, 6, 6, 6, 6, 6, 6, 6, 6, 6, 6, 6, 6, 6, 6, 6, 6, 6, 6, 6, 6, 6, 6, 6, 6, 6, 6, 6, 6, 6, 7, 7, 7, 7, 7, 7, 7, 7, 7, 7, 7, 7, 7, 7, 7, 7, 7, 7, 7, 7, 7, 7, 7, 7, 7, 7, 7, 7, 7, 7, 7, 7, 7, 7, 7, 7, 7, 7, 7, 7, 7, 7, 7, 7, 7, 7, 7, 7, 7, 7, 7, 7, 7, 7, 7, 7, 7, 7, 7, 7, 7, 7, 7, 7, 8, 8, 8, 8, 8, 8, 8, 8, 8, 8, 8, 8, 8, 8, 8, 8, 8, 8, 8, 8, 8, 8, 8, 8, 8, 8, 8, 8, 8, 8, 8, 8, 8, 8, 8, 8, 8, 8, 8, 8, 8, 8, 8, 8, 8, 8, 8, 8, 8, 8, 8, 8, 8, 8, 8, 8, 8, 8, 8, 8, 8, 8, 8, 8, 8, 8, 8, 8, 8, 8, 8, 8, 8, 8, 8, 8, 8, 8, 8, 8, 8, 8, 8, 8, 8, 8, 8, 8, 8, 8, 8, 8, 8, 8, 8, 8, 8, 8, 8, 8, 8, 8, 8, 8, 8, 8, 8, 8, 8, 8, 8, 8, 8, 8, 8, 8, 8, 8, 8, 8, 8, 8, 8, 8, 8, 8, 8, 8] : List UInt8))) <|
 .l (IntKind.wrap .i64 ((IntKind.wrap .i64 ((IntKind.wrap .i64 ((32 : Int) + (16 : Int))) + (8 : Int))) + (IntKind.wrap .i64 ((UInt8.toNat (List.getD ([0, 1, 2, 2, 3, 3, 3, 3, 4, 4, 4, 4, 4, 4, 4, 4, 5, 5, 5, 5, 5, 5, 5, 5, 5, 5, 5, 5, 5, 5, 5, 5, 6, 6, 6, 6, 6, 6, 6, 6, 6, 6, 6, 6, 6, 6, 6, 6, 6, 6, 6, 6, 6, 6, 6, 6, 6, 6, 6, 6, 6, 6, 6, 6, 7, 7, 7, 7, 7, 7, 7, 7, 7, 7, 7, 7, 7, 7, 7, 7, 7, 7, 7, 7, 7, 7, 7, 7, 7, 7, 7, 7, 7, 7, 7, 7, 7, 7, 7, 7, 7, 7, 7, 7, 7, 7, 7, 7, 7, 7, 7, 7, 7, 7, 7, 7, 7, 7, 7, 7, 7, 7, 7, 7, 7, 7, 7, 7, 8, 8, 8, 8, 8, 8, 8, 8, 8, 8, 8, 8, 8, 8, 8, 8, 8, 8, 8, 8, 8, 8, 8, 8, 8, 8, 8, 8, 8, 8, 8, 8, 8, 8, 8, 8, 8, 8, 8, 8, 8, 8, 8, 8, 8, 8, 8, 8, 8, 8, 8, 8, 8, 8, 8, 8, 8, 8, 8, 8, 8, 8, 8, 8, 8, 8, 8, 8, 8, 8, 8, 8, 8, 8, 8, 8, 8, 8, 8, 8, 8, 8, 8, 8, 8, 8, 8, 8, 8, 8, 8, 8, 8, 8, 8, 8, 8, 8, 8, 8, 8, 8, 8, 8, 8, 8, 8, 8, 8, 8, 8, 8, 8, 8, 8, 8, 8, 8, 8, 8, 8, 8, 8, 8, 8, 8, 8, 8] : List UInt8) (Int.toNat (IntKind.wrap .u8 (Int.fdiv (Int.fdiv (Int.fdiv a1_ (2 ^ (min (Int.toNat (32 : Int)) (IntKind.bits .u64)))) (2 ^ (min (Int.toNat (16 : Int)) (IntKind.bits .u64)))) (2 ^ (min (Int.toNat (8 : Int)) (IntKind.bits .u64)))))) 0) : Nat) : Int)))))
 (.g (inR (IntKind.wrap .u8 (Int.fdiv (Int.fdiv a1_ (2 ^ (min (Int.toNat (32 : Int)) (IntKind.bits .u64)))) (2 ^ (min (Int.toNat (16 : Int)) (IntKind.bits .u64))))) (List.length ([0, 1, 2, 2, 3, 3, 3, 3, 4, 4, 4, 4, 4, 4, 4, 4, 5, 5, 5, 5, 5, 5, 5, 5, 5, 5, 5, 5, 5, 5, 5, 5, 6, 6, 6, 6, 6, 6, 6, 6, 6, 6, 6, 6, 6, 6, 6, 6, 6, 6, 6, 6, 6, 6, 6, 6, 6, 6, 6, 6, 6, 6, 6, 6, 7, 7, 7, 7, 7, 7, 7, 7, 7, 7, 7, 7, 7, 7, 7, 7, 7, 7, 7, 7, 7, 7, 7, 7, 7, 7, 7, 7, 7, 7, 7, 7, 7, 7, 7, 7, 7, 7, 7, 7, 7, 7, 7, 7, 7, 7, 7, 7, 7, 7, 7, 7, 7, 7, 7, 7, 7, 7, 7, 7, 7, 7, 7, 7, 8, 8, 8, 8, 8, 8, 8, 8, 8, 8, 8, 8, 8, 8, 8, 8, 8, 8, 8, 8, 8, 8, 8, 8, 8, 8, 8, 8, 8, 8, 8, 8, 8, 8, 8, 8, 8, 8, 8, 8, 8, 8, 8, 8, 8, 8, 8, 8, 8, 8, 8, 8, 8, 8, 8, 8, 8, 8, 8, 8, 8, 8, 8, 8, 8, 8, 8, 8, 8, 8, 8, 8, 8, 8, 8, 8, 8, 8, 8, 8, 8, 8, 8, 8, 8, 8, 8, 8, 8, 8, 8, 8, 8, 8, 8, 8, 8, 8, 8, 8, 8, 8, 8, 8, 8, 8, 8, 8, 8, 8, 8, 8, 8, 8, 8, 8, 8, 8, 8, 8, 8, 8, 8, 8, 8, 8, 8, 8] : List UInt8))) <|
 .l (IntKind.wrap .i64 ((IntKind.wrap .i64 ((32 : Int) + (16 : Int))) + (IntKind.wrap .i64 ((UInt8.toNat (List.getD ([0, 1, 2, 2, 3, 3, 3, 3, 4, 4, 4, 4, 4, 4, 4, 4, 5, 5, 5, 5, 5, 5, 5, 5, 5, 5, 5, 5, 5, 5, 5, 5, 6, 6, 6, 6, 6, 6, 6, 6, 6, 6, 6, 6, 6, 6, 6, 6, 6, 6, 6, 6, 6, 6, 6, 6, 6, 6, 6, 6, 6, 6, 6, 6, 7, 7, 7, 7, 7, 7, 7, 7, 7, 7, 7, 7, 7, 7, 7, 7, 7, 7, 7, 7, 7, 7, 7, 7, 7, 7, 7, 7, 7, 7, 7, 7, 7, 7, 7, 7, 7, 7, 7, 7, 7, 7, 7, 7, 7, 7, 7, 7, 7, 7, 7, 7, 7, 7, 7, 7, 7, 7, 7, 7, 7, 7, 7, 7, 8, 8, 8, 8, 8, 8, 8, 8, 8, 8, 8, 8, 8, 8, 8, 8, 8, 8, 8, 8, 8, 8, 8, 8, 8, 8, 8, 8, 8, 8, 8, 8, 8, 8, 8, 8, 8, 8, 8, 8, 8, 8, 8, 8, 8, 8, 8, 8, 8, 8, 8, 8, 8, 8, 8, 8, 8, 8, 8, 8, 8, 8, 8, 8, 8, 8, 8, 8, 8, 8, 8, 8, 8, 8, 8, 8, 8, 8, 8, 8, 8, 8, 8, 8, 8, 8, 8, 8, 8, 8, 8, 8, 8, 8, 8, 8, 8, 8, 8, 8, 8, 8, 8, 8, 8, 8, 8, 8, 8, 8, 8, 8, 8, 8, 8, 8, 8, 8, 8, 8, 8, 8, 8, 8, 8, 8, 8, 8] : List UInt8) (Int.toNat (IntKind.wrap .u8 (Int.fdiv (Int.fdiv a1_ (2 ^ (min (Int.toNat (32 : Int)) (IntKind.bits .u64)))) (2 ^ (min (Int.toNat (16 : Int)) (IntKind.bits .u64)))))) 0) : Nat) : Int))))))
 (.t (decide ((256 : Int) ≤ (Int.fdiv a1_ (2 ^ (min (Int.toNat (32 : Int)) (IntKind.bits .u64))))))
 (.g (decide ((0 : Int) ≤ (8 : Int))) <|
 .g (inR (IntKind.wrap .u8 (Int.fdiv (Int.fdiv a1_ (2 ^ (min (Int.toNat (32 : Int)) (IntKind.bits .u64)))) (2 ^ (min (Int.toNat (8 : Int)) (IntKind.bits .u64))))) (List.length ([0, 1, 2, 2, 3, 3, 3, 3, 4, 4, 4, 4, 4, 4, 4, 4, 5, 5, 5, 5, 5, 5, 5, 5, 5, 5, 5, 5, 5, 5, 5, 5, 6, 6, 6, 6, 6, 6, 6, 6, 6, 6, 6, 6, 6, 6, 6, 6, 6, 6, 6, 6, 6, 6, 6, 6, 6, 6, 6, 6, 6, 6, 6, 6, 7, 7, 7, 7, 7, 7, 7, 7, 7, 7, 7, 7, 7, 7, 7, 7, 7, 7, 7, 7, 7, 7, 7, 7, 7, 7, 7, 7, 7, 7, 7, 7, 7, 7, 7, 7, 7, 7, 7, 7, 7, 7, 7, 7, 7, 7, 7, 7, 7, 7, 7, 7, 7, 7, 7, 7, 7, 7, 7, 7, 7, 7, 7, 7, 8, 8, 8, 8, 8, 8, 8, 8, 8, 8, 8, 8, 8, 8, 8, 8, 8, 8, 8, 8, 8, 8, 8, 8, 8, 8, 8, 8, 8, 8, 8, 8, 8, 8, 8, 8, 8, 8, 8, 8, 8, 8, 8, 8, 8, 8, 8, 8, 8, 8, 8, 8, 8, 8, 8, 8, 8, 8, 8, 8, 8, 8, 8, 8, 8, 8, 8, 8, 8, 8, 8, 8, 8, 8, 8, 8, 8, 8, 8, 8, 8, 8, 8, 8, 8, 8, 8, 8, 8, 8, 8, 8, 8, 8, 8, 8, 8, 8, 8, 8, 8, 8, 8, 8, 8, 8, 8, 8, 8, 8, 8, 8, 8, 8, 8, 8, 8, 8, 8, 8, 8, 8, 8, 8, 8, 8, 8, 8] : List UInt8))) <|
 .l (IntKind.wrap .i64 ((IntKind.wrap .i64 ((32 : Int) + (8 : Int))) + (IntKind.wrap .i64 ((UInt8.toNat (List.getD ([0, 1, 2, 2, 3, 3, 3, 3, 4, 4, 4, 4, 4, 4, 4, 4, 5, 5, 5, 5, 5, 5, 5, 5, 5, 5, 5, 5, 5, 5, 5, 5, 6, 6, 6, 6, 6, 6, 6, 6, 6, 6, 6, 6, 6, 6, 6, 6, 6, 6, 6, 6, 6, 6, 6, 6, 6, 6, 6, 6, 6, 6, 6, 6, 7, 7, 7, 7, 7, 7, 7, 7, 7, 7, 7, 7, 7, 7, 7, 7, 7, 7, 7, 7, 7, 7, 7, 7, 7, 7, 7, 7, 7, 7, 7, 7, 7, 7, 7, 7, 7, 7, 7, 7, 7, 7, 7, 7, 7, 7, 7, 7, 7, 7, 7, 7, 7, 7, 7, 7, 7, 7, 7, 7, 7, 7, 7, 7, 8, 8, 8, 8, 8, 8, 8, 8, 8, 8, 8, 8, 8, 8, 8, 8, 8, 8, 8, 8, 8, 8, 8, 8, 8, 8, 8, 8, 8, 8, 8, 8, 8, 8, 8, 8, 8, 8, 8, 8, 8, 8, 8, 8, 8, 8, 8, 8, 8, 8, 8, 8, 8, 8, 8, 8, 8, 8, 8, 8, 8, 8, 8, 8, 8, 8, 8, 8, 8, 8, 8, 8, 8, 8, 8, 8, 8, 8, 8, 8, 8, 8, 8, 8, 8, 8, 8, 8, 8, 8, 8, 8, 8, 8, 8, 8, 8, 8, 8, 8, 8, 8, 8, 8, 8, 8, 8, 8, 8, 8, 8, 8, 8, 8, 8, 8, 8, 8, 8, 8, 8, 8, 8, 8, 8, 8, 8, 8] : List UInt8) (Int.toNat (IntKind.wrap .u8 (Int.fdiv (Int.fdiv a1_ (2 ^ (min (Int.toNat (32 : Int)) (IntKind.bits .u64)))) (2 ^ (min (Int.toNat (8 : Int)) (IntKind.bits .u64)))))) 0) : Nat) : Int)))))
 (.g (inR (IntKind.wrap .u8 (Int.fdiv a1_ (2 ^ (min (Int.toNat (32 : Int)) (IntKind.bits .u64))))) (List.length ([0, 1, 2, 2, 3, 3, 3, 3, 4, 4, 4, 4, 4, 4, 4, 4, 5, 5, 5, 5, 5, 5, 5, 5, 5, 5, 5, 5, 5, 5, 5, 5, 6, 6, 6, 6, 6, 6, 6, 6, 6, 6, 6, 6, 6, 6, 6, 6, 6, 6, 6, 6, 6, 6, 6, 6, 6, 6, 6, 6, 6, 6, 6, 6, 7, 7, 7, 7, 7, 7, 7, 7, 7, 7, 7, 7, 7, 7, 7, 7, 7, 7, 7, 7, 7, 7, 7, 7, 7, 7, 7, 7, 7, 7, 7, 7, 7, 7, 7, 7, 7, 7, 7, 7, 7, 7, 7, 7, 7, 7, 7, 7, 7, 7, 7, 7, 7, 7, 7, 7, 7, 7, 7, 7, 7, 7, 7, 7, 8, 8, 8, 8, 8, 8, 8, 8, 8, 8, 8, 8, 8, 8, 8, 8, 8, 8, 8, 8, 8, 8, 8, 8, 8, 8, 8, 8, 8, 8, 8, 8, 8, 8, 8, 8, 8, 8, 8, 8, 8, 8, 8, 8, 8, 8, 8, 8, 8, 8, 8, 8, 8, 8, 8, 8, 8, 8, 8, 8, 8, 8, 8, 8, 8, 8, 8, 8, 8, 8, 8, 8, 8, 8, 8, 8, 8, 8, 8, 8, 8, 8, 8, 8, 8, 8, 8, 8, 8, 8, 8, 8, 8, 8, 8, 8, 8, 8, 8, 8, 8, 8, 8, 8, 8, 8, 8, 8, 8, 8, 8, 8, 8, 8, 8, 8, 8, 8, 8, 8, 8, 8, 8, 8, 8, 8, 8, 8] : List UInt8))) <|
 .l (IntKind.wrap .i64 ((32 : Int) + (IntKind.wrap .i64 ((UInt8.toNat (List.getD ([0, 1, 2, 2, 3, 3, 3, 3, 4, 4, 4, 4, 4, 4, 4, 4, 5, 5, 5, 5, 5, 5, 5, 5, 5, 5, 5, 5, 5, 5, 5, 5, 6, 6, 6, 6, 6, 6, 6, 6, 6, 6, 6, 6, 6, 6, 6, 6, 6, 6, 6, 6, 6, 6, 6, 6, 6, 6, 6, 6, 6, 6, 6, 6, 7, 7, 7, 7, 7, 7, 7, 7, 7, 7, 7, 7, 7, 7, 7, 7, 7, 7, 7, 7, 7, 7, 7, 7, 7, 7, 7, 7, 7, 7, 7, 7, 7, 7, 7, 7, 7, 7, 7, 7, 7, 7, 7, 7, 7, 7, 7, 7, 7, 7, 7, 7, 7, 7, 7, 7, 7, 7, 7, 7, 7, 7, 7, 7, 8, 8, 8, 8, 8, 8, 8, 8, 8, 8, 8, 8, 8, 8, 8, 8, 8, 8, 8, 8, 8, 8, 8, 8, 8, 8, 8, 8, 8, 8, 8, 8, 8, 8, 8, 8, 8, 8, 8, 8, 8, 8, 8, 8, 8, 8, 8, 8, 8, 8, 8, 8, 8, 8, 8, 8, 8, 8, 8, 8, 8, 8, 8, 8, 8, 8, 8, 8, 8, 8, 8, 8, 8, 8, 8, 8, 8, 8, 8, 8, 8, 8, 8, 8, 8, 8, 8, 8, 8, 8, 8, 8, 8, 8, 8, 8, 8, 8, 8, 8, 8, 8, 8, 8, 8, 8, 8, 8, 8, 8, 8, 8, 8, 8, 8, 8, 8, 8, 8, 8, 8, 8, 8, 8, 8, 8, 8, 8] : List UInt8) (Int.toNat (IntKind.wrap .u8 (Int.fdiv a1_ (2 ^ (min (Int.toNat (32 : Int)) (IntKind.bits .u64)))))) 0) : Nat) : Int)))))))
 (.t (decide ((65536 : Int) ≤ a1_))
 (.g (decide ((0 : Int) ≤ (16 : Int))) <|
 .t (decide ((256 : Int) ≤ (Int.fdiv a1_ (2 ^ (min (Int.toNat (16 : Int)) (IntKind.bits .u64))))))
 (.g (decide ((0 : Int) ≤ (8 : Int))) <|
 .g (inR (IntKind.wrap .u8 (Int.fdiv (Int.fdiv a1_ (2 ^ (min (Int.toNat (16 : Int)) (IntKind.bits .u64)))) (2 ^ (min (Int.toNat (8 : Int)) (IntKind.bits .u64))))) (List.length ([0, 1, 2, 2, 3, 3, 3, 3, 4, 4, 4, 4, 4, 4, 4, 4, 5, 5, 5, 5, 5, 5, 5, 5, 5, 5, 5, 5, 5, 5, 5, 5, 6, 6, 6, 6, 6, 6, 6, 6, 6, 6, 6, 6, 6, 6, 6, 6, 6, 6, 6, 6, 6, 6, 6, 6, 6, 6, 6, 6, 6, 6, 6, 6, 7, 7, 7, 7, 7, 7, 7, 7, 7, 7, 7, 7, 7, 7, 7, 7, 7, 7, 7, 7, 7, 7, 7, 7, 7, 7, 7, 7, 7, 7, 7, 7, 7, 7, 7, 7, 7, 7, 7, 7, 7, 7, 7, 7, 7, 7, 7, 7, 7, 7, 7, 7, 7, 7, 7, 7, 7, 7, 7, 7, 7, 7, 7, 7, 8, 8, 8, 8, 8, 8, 8, 8, 8, 8, 8, 8, 8, 8, 8, 8, 8, 8, 8, 8, 8, 8, 8, 8, 8, 8, 8, 8, 8, 8, 8, 8, 8, 8, 8, 8, 8, 8, 8, 8, 8, 8, 8, 8, 8, 8, 8, 8, 8, 8, 8, 8, 8, 8, 8, 8, 8, 8, 8, 8, 8, 8, 8, 8, 8, 8, 8, 8, 8, 8, 8, 8, 8, 8, 8, 8, 8, 8, 8, 8, 8, 8, 8, 8, 8, 8, 8, 8, 8, 8, 8, 8, 8, 8, 8, 8, 8, 8, 8, 8, 8, 8, 8, 8, 8, 8, 8, 8, 8, 8, 8, 8, 8, 8, 8, 8, 8, 8, 8, 8, 8, 8, 8, 8, 8, 8, 8, 8] : List UInt8))) <|
 .l (IntKind.wrap .i64 ((IntKind.wrap .i64 ((IntKind.wrap .i64 ((0 : Int) + (16 : Int))) + (8 : Int))) + (IntKind.wrap .i64 ((UInt8.toNat (List.getD ([0, 1, 2, 2, 3, 3, 3, 3, 4, 4, 4, 4, 4, 4, 4, 4, 5, 5, 5, 5, 5, 5, 5, 5, 5, 5, 5, 5, 5, 5, 5, 5, 6, 6, 6, 6, 6, 6, 6, 6, 6, 6, 6, 6, 6, 6, 6, 6, 6, 6, 6, 6, 6, 6, 6, 6, 6, 6, 6, 6, 6, 6, 6, 6, 7, 7, 7, 7, 7, 7, 7, 7, 7, 7, 7, 7, 7, 7, 7, 7, 7, 7, 7, 7, 7, 7, 7, 7, 7, 7, 7, 7, 7, 7, 7, 7, 7, 7, 7, 7, 7, 7, 7, 7, 7, 7, 7, 7, 7, 7, 7, 7, 7, 7, 7, 7, 7, 7, 7, 7, 7, 7, 7, 7, 7, 7, 7, 7, 8, 8, 8, 8, 8, 8, 8, 8, 8, 8, 8, 8, 8, 8, 8, 8, 8, 8, 8, 8, 8, 8, 8, 8, 8, 8, 8, 8, 8, 8, 8, 8, 8, 8, 8, 8, 8, 8, 8, 8, 8, 8, 8, 8, 8, 8, 8, 8, 8, 8, 8, 8, 8, 8, 8, 8, 8, 8, 8, 8, 8, 8, 8, 8, 8, 8, 8, 8, 8, 8, 8, 8, 8, 8, 8, 8, 8, 8, 8, 8, 8, 8, 8, 8, 8, 8, 8, 8, 8, 8, 8, 8, 8, 8, 8, 8, 8, 8, 8, 8, 8, 8, 8, 8, 8, 8, 8, 8, 8, 8, 8, 8, 8, 8, 8, 8, 8, 8, 8, 8, 8, 8, 8, 8, 8, 8, 8, 8] : List UInt8) (Int.toNat (IntKind.wrap .u8 (Int.fdiv (Int.fdiv a1_ (2 ^ (min (Int.toNat (16 : Int)) (IntKind.bits .u64)))) (2 ^ (min (Int.toNat (8 : Int)) (IntKind.bits .u64)))))) 0) : Nat) : Int)))))
 (.g (inR (IntKind.wrap .u8 (Int.fdiv a1_ (2 ^ (min (Int.toNat (16 : Int)) (IntKind.bits .u64))))) (List.length ([0, 1, 2, 2, 3, 3, 3, 3, 4, 4, 4, 4, 4, 4, 4, 4, 5, 5, 5, 5, 5, 5, 5, 5, 5, 5, 5, 5, 5, 5, 5, 5, 6, 6, 6, 6, 6, 6, 6, 6, 6, 6, 6, 6, 6, 6, 6, 6, 6, 6, 6, 6, 6, 6, 6, 6, 6, 6, 6, 6, 6, 6, 6, 6, 7, 7, 7, 7, 7, 7, 7, 7, 7, 7, 7, 7, 7, 7, 7, 7, 7, 7, 7, 7, 7, 7, 7, 7, 7, 7, 7, 7, 7, 7, 7, 7, 7, 7, 7, 7, 7, 7, 7, 7, 7, 7, 7, 7, 7, 7, 7, 7, 7, 7, 7, 7, 7, 7, 7, 7, 7, 7, 7, 7, 7, 7, 7, 7, 8, 8, 8, 8, 8, 8, 8, 8, 8, 8, 8, 8, 8, 8, 8, 8, 8, 8, 8, 8, 8, 8, 8, 8, 8, 8, 8, 8, 8, 8, 8, 8, 8, 8, 8, 8, 8, 8, 8, 8, 8, 8, 8, 8, 8, 8, 8, 8, 8, 8, 8, 8, 8, 8, 8, 8, 8, 8, 8, 8, 8, 8, 8, 8, 8, 8, 8, 8, 8, 8, 8, 8, 8, 8, 8, 8, 8, 8, 8, 8, 8, 8, 8, 8, 8, 8, 8, 8, 8, 8, 8, 8, 8, 8, 8, 8, 8, 8, 8, 8, 8, 8, 8, 8, 8, 8, 8, 8, 8, 8, 8, 8, 8, 8, 8, 8, 8, 8, 8, 8, 8, 8, 8, 8, 8, 8, 8, 8] : List UInt8))) <|
 .l (IntKind.wrap .i64 ((IntKind.wrap .i64 ((0 : Int) + (16 : Int))) + (IntKind.wrap .i64 ((UInt8.toNat (List.getD ([0, 1, 2, 2, 3, 3, 3, 3, 4, 4, 4, 4, 4, 4, 4, 4, 5, 5, 5, 5, 5, 5, 5, 5, 5, 5, 5, 5, 5, 5, 5, 5, 6, 6, 6, 6, 6, 6, 6, 6, 6, 6, 6, 6, 6, 6, 6, 6, 6, 6, 6, 6, 6, 6, 6, 6, 6, 6, 6, 6, 6, 6, 6, 6, 7, 7, 7, 7, 7, 7, 7, 7, 7, 7, 7, 7, 7, 7, 7, 7, 7, 7, 7, 7, 7, 7, 7, 7, 7, 7, 7, 7, 7, 7, 7, 7, 7, 7, 7, 7, 7, 7, 7, 7, 7, 7, 7, 7, 7, 7, 7, 7, 7, 7, 7, 7, 7, 7, 7, 7, 7, 7, 7, 7, 7, 7, 7, 7, 8, 8, 8, 8, 8, 8, 8, 8, 8, 8, 8, 8, 8, 8, 8, 8, 8, 8, 8, 8, 8, 8, 8, 8, 8, 8, 8, 8, 8, 8, 8, 8, 8, 8, 8, 8, 8, 8, 8, 8, 8, 8, 8, 8, 8, 8, 8, 8, 8, 8, 8, 8, 8, 8, 8, 8, 8, 8, 8, 8, 8, 8, 8, 8, 8, 8, 8, 8, 8, 8, 8, 8, 8, 8, 8, 8, 8, 8, 8, 8, 8, 8, 8, 8, 8, 8, 8, 8, 8, 8, 8, 8, 8, 8, 8, 8, 8, 8, 8, 8, 8, 8, 8, 8, 8, 8, 8, 8, 8, 8, 8, 8, 8, 8, 8, 8, 8, 8, 8, 8, 8, 8, 8, 8, 8, 8, 8, 8] : List UInt8) (Int.toNat (IntKind.wrap .u8 (Int.fdiv a1_ (2 ^ (min (Int.toNat (16 : Int)) (IntKind.bits .u64)))))) 0) : Nat) : Int))))))
 (.t (decide ((256 : Int) ≤ a1_))
 (.g (decide ((0 : Int) ≤ (8 : Int))) <|
 .g (inR (IntKind.wrap .u8 (Int.fdiv a1_ (2 ^ (min (Int.toNat (8 : Int)) (IntKind.bits .u64))))) (List.length ([0, 1, 2, 2, 3, 3, 3, 3, 4, 4, 4, 4, 4, 4, 4, 4, 5, 5, 5, 5, 5, 5, 5, 5, 5, 5, 5, 5, 5, 5, 5, 5, 6, 6, 6, 6, 6, 6, 6, 6, 6, 6, 6, 6, 6, 6, 6, 6, 6, 6, 6, 6, 6, 6, 6, 6, 6, 6, 6, 6, 6, 6, 6, 6, 7, 7, 7, 7, 7, 7, 7, 7, 7, 7, 7, 7, 7, 7, 7, 7, 7, 7, 7, 7, 7, 7, 7, 7, 7, 7, 7, 7, 7, 7, 7, 7, 7, 7, 7, 7, 7, 7, 7, 7, 7, 7, 7, 7, 7, 7, 7, 7, 7, 7, 7, 7, 7, 7, 7, 7, 7, 7, 7, 7, 7, 7, 7, 7, 8, 8, 8, 8, 8, 8, 8, 8, 8, 8, 8, 8, 8, 8, 8, 8, 8, 8, 8, 8, 8, 8, 8, 8, 8, 8, 8, 8, 8, 8, 8, 8, 8, 8, 8, 8, 8, 8, 8, 8, 8, 8, 8, 8, 8, 8, 8, 8, 8, 8, 8, 8, 8, 8, 8, 8, 8, 8, 8, 8, 8, 8, 8, 8, 8, 8, 8, 8, 8, 8, 8, 8, 8, 8, 8, 8, 8, 8, 8, 8, 8, 8, 8, 8, 8, 8, 8, 8, 8, 8, 8, 8, 8, 8, 8, 8, 8, 8, 8, 8, 8, 8, 8, 8, 8, 8, 8, 8, 8, 8, 8, 8, 8, 8, 8, 8, 8, 8, 8, 8, 8, 8, 8, 8, 8, 8, 8, 8] : List UInt8))) <|
 .l (IntKind.wrap .i64 ((IntKind.wrap .i64 ((0 : Int) + (8 : Int))) + (IntKind.wrap .i64 ((UInt8.toNat (List.getD ([0, 1, 2, 2, 3, 3, 3, 3, 4, 4, 4, 4, 4, 4, 4, 4, 5, 5, 5, 5, 5, 5, 5, 5, 5, 5, 5, 5, 5, 5, 5, 5, 6, 6, 6, 6, 6, 6, 6, 6, 6, 6, 6, 6, 6, 6, 6, 6, 6, 6, 6, 6, 6, 6, 6, 6, 6, 6, 6, 6, 6, 6, 6, 6, 7, 7, 7, 7, 7, 7, 7, 7, 7, 7, 7, 7, 7, 7, 7, 7, 7, 7, 7, 7, 7, 7, 7, 7, 7, 7, 7, 7, 7, 7, 7, 7, 7, 7, 7, 7, 7, 7, 7, 7, 7, 7, 7, 7, 7, 7, 7, 7, 7, 7, 7, 7, 7, 7, 7, 7, 7, 7, 7, 7, 7, 7, 7, 7, 8, 8, 8, 8, 8, 8, 8, 8, 8, 8, 8, 8, 8, 8, 8, 8, 8, 8, 8, 8, 8, 8, 8, 8, 8, 8, 8, 8, 8, 8, 8, 8, 8, 8, 8, 8, 8, 8, 8, 8, 8, 8, 8, 8, 8, 8, 8, 8, 8, 8, 8, 8, 8, 8, 8, 8, 8, 8, 8, 8, 8, 8, 8, 8, 8, 8, 8, 8, 8, 8, 8, 8, 8, 8, 8, 8, 8, 8, 8, 8, 8, 8, 8, 8, 8, 8, 8, 8, 8, 8, 8, 8, 8, 8, 8, 8, 8, 8, 8, 8, 8, 8, 8, 8, 8, 8, 8, 8, 8, 8, 8, 8, 8, 8, 8, 8, 8, 8, 8, 8, 8, 8, 8, 8, 8, 8, 8, 8] : List UInt8) (Int.toNat (IntKind.wrap .u8 (Int.fdiv a1_ (2 ^ (min (Int.toNat (8 : Int)) (IntKind.bits .u64)))))) 0) : Nat) : Int)))))
 (.g (inR (IntKind.wrap .u8 a1_) (List.length ([0, 1, 2, 2, 3, 3, 3, 3, 4, 4, 4, 4, 4, 4, 4, 4, 5, 5, 5, 5, 5, 5, 5, 5, 5, 5, 5, 5, 5, 5, 5, 5, 6, 6, 6, 6, 6, 6, 6, 6, 6, 6, 6, 6, 6, 6, 6, 6, 6, 6, 6, 6, 6, 6, 6, 6, 6, 6, 6, 6, 6, 6, 6, 6, 7, 7, 7, 7, 7, 7, 7, 7, 7, 7, 7, 7, 7, 7, 7, 7, 7, 7, 7, 7, 7, 7, 7, 7, 7, 7, 7, 7, 7, 7, 7, 7, 7, 7, 7, 7, 7, 7, 7, 7, 7, 7, 7, 7, 7, 7, 7, 7, 7, 7, 7, 7, 7, 7, 7, 7, 7, 7, 7, 7, 7, 7, 7, 7, 8, 8, 8, 8, 8, 8, 8, 8, 8, 8, 8, 8, 8, 8, 8, 8, 8, 8, 8, 8, 8, 8, 8, 8, 8, 8, 8, 8, 8, 8, 8, 8, 8, 8, 8, 8, 8, 8, 8, 8, 8, 8, 8, 8, 8, 8, 8, 8, 8, 8, 8, 8, 8, 8, 8, 8, 8, 8, 8, 8, 8, 8, 8, 8, 8, 8, 8, 8, 8, 8, 8, 8, 8, 8, 8, 8, 8, 8, 8, 8, 8, 8, 8, 8, 8, 8, 8, 8, 8, 8, 8, 8, 8, 8, 8, 8, 8, 8, 8, 8, 8, 8, 8, 8, 8, 8, 8, 8, 8, 8, 8, 8, 8, 8, 8, 8, 8, 8, 8, 8, 8, 8, 8, 8, 8, 8, 8, 8] : List UInt8))) <|
 .l (IntKind.wrap .i64 ((0 : Int) + (IntKind.wrap .i64 ((UInt8.toNat (List.getD ([0, 1, 2, 2, 3, 3, 3, 3, 4, 4, 4, 4, 4, 4, 4, 4, 5, 5, 5, 5, 5, 5, 5, 5, 5, 5, 5, 5, 5, 5, 5, 5, 6, 6, 6, 6, 6, 6, 6, 6, 6, 6, 6, 6, 6, 6, 6, 6, 6, 6, 6, 6, 6, 6, 6, 6, 6, 6, 6, 6, 6, 6, 6, 6, 7, 7, 7, 7, 7, 7, 7, 7, 7, 7, 7, 7, 7, 7, 7, 7, 7, 7, 7, 7, 7, 7, 7, 7, 7, 7, 7, 7, 7, 7, 7, 7, 7, 7, 7, 7, 7, 7, 7, 7, 7, 7, 7, 7, 7, 7, 7, 7, 7, 7, 7, 7, 7, 7, 7, 7, 7, 7, 7, 7, 7, 7, 7, 7, 8, 8, 8, 8, 8, 8, 8, 8, 8, 8, 8, 8, 8, 8, 8, 8, 8, 8, 8, 8, 8, 8, 8, 8, 8, 8, 8, 8, 8, 8, 8, 8, 8, 8, 8, 8, 8, 8, 8, 8, 8, 8, 8, 8, 8, 8, 8, 8, 8, 8, 8, 8, 8, 8, 8, 8, 8, 8, 8, 8, 8, 8, 8, 8, 8, 8, 8, 8, 8, 8, 8, 8, 8, 8, 8, 8, 8, 8, 8, 8, 8, 8, 8, 8, 8, 8, 8, 8, 8, 8, 8, 8, 8, 8, 8, 8, 8, 8, 8, 8, 8, 8, 8, 8, 8, 8, 8, 8, 8, 8, 8, 8, 8, 8, 8, 8, 8, 8, 8, 8, 8, 8, 8, 8, 8, 8, 8, 8] : List UInt8) (Int.toNat (IntKind.wrap .u8 a1_)) 0) : Nat) : Int)))))))
noncomputable def wavb (a1_ : Int) : Option (Int) := (wahu a1_).ev
noncomputable def wbqh : Sh := (.cons (.dat (.int .u64)) .nil)
noncomputable def wbqi : List (Nat × OSh) := []
noncomputable def K_zak : RetK := { acts := [], res := [.tmp 2], sh := (.cons (.dat yi) .nil), obs := [], pins := [] }
noncomputable def D_zak : FD := ⟨wbqh, wbqi, [], Int, fun x => wavb x.1.1, fun r => ([.dat yi r], [])⟩
noncomputable def wbgh : Env := wae []
noncomputable def wbgi : Nat → Nat → List Nat := fun _ _ => []
noncomputable def wbgj : List (Nat × LD) := []
noncomputable def wbgk : Code := (f212.body).getD .skip
noncomputable def wahv (a1_ : Int) : Tr (Int) :=
 .c (Int) (wavb a1_) fun r1_ =>
 .l r1_
noncomputable def wxt (a1_ : Int) : Option (Int) := (wahv a1_).ev
noncomputable def wbqj : Sh := (.cons (.dat (.int .u64)) .nil)
noncomputable def wbqk : List (Nat × OSh) := []
noncomputable def K_zaj : RetK := { acts := [], res := [.tmp 2], sh := (.cons (.dat yi) .nil), obs := [], pins := [] }
noncomputable def D_zaj : FD := ⟨wbqj, wbqk, [], Int, fun x => wxt x.1.1, fun r => ([.dat yi r], [])⟩
noncomputable def wbgl : Env := wae [(212, D_zak)]
noncomputable def wbgm : Nat → Nat → List Nat := fun _ _ => []
noncomputable def wbgn : List (Nat × LD) := []
noncomputable def wbgo : Code := (f189.body).getD .skip
noncomputable def T_zd (a1_ : Int) : Tr (Bool) :=
 .l (a1_ != a1_)
noncomputable def F_zd (a1_ : Int) : Option (Bool) := (T_zd a1_).ev
def A_zd : Sh := (.cons (.dat yi) .nil)
def I_zd : List (Nat × OSh) := []
noncomputable def K_zd : RetK := { acts := [], res := [.tmp 2], sh := (.cons (.dat .bool) .nil), obs := [], pins := [] }
noncomputable def D_zd : FD := ⟨A_zd, I_zd, [], Bool, fun x => F_zd x.1.1, fun r => ([.dat .bool r], [])⟩
noncomputable def E_zd : Env := wae []
def Z_zd : Nat → Nat → List Nat := fun _ _ => []
noncomputable def O_zd : List (Nat × LD) := []
noncomputable def C_zd : Code := (f193.body).getD .skip
noncomputable def T_zb (a1_ : Int) (a2_ : Int) : Tr (Bool) :=
 .c (Bool) (F_zd a1_) fun r1_ =>
 .t r1_
 (.c (Bool) (F_zd a2_) fun r2_ =>
 .t (!r2_)
 (.l true)
 (.l (decide (a1_ < a2_))))
 (.l (decide (a1_ < a2_)))
noncomputable def wxu (a1_ : Int) (a2_ : Int) : Option (Bool) := (T_zb a1_ a2_).ev
def A_zb : Sh := (.cons (.dat yi) (.cons (.dat yi) .nil))
def I_zb : List (Nat × OSh) := []
noncomputable def K_zb : RetK := { acts := [], res := [.tmp 4], sh := (.cons (.dat .bool) .nil), obs := [], pins := [] }
noncomputable def D_zb : FD := ⟨A_zb, I_zb, [], Bool, fun x => wxu x.1.1 x.1.2.1, fun r => ([.dat .bool r], [])⟩
noncomputable def E_zb : Env := wae [(193, D_zd)]
def Z_zb : Nat → Nat → List Nat := fun _ _ => []
noncomputable def O_zb : List (Nat × LD) := []
noncomputable def C_zb : Code := (f208.body).getD .skip
noncomputable def wge (k : Int × (Int × Int)) (v : Int × Y1) : Tr ((Int × Y1) ⊕ Y1) :=
 .t (decide (k.1 < v.1))
 (.g (inR v.1 (List.length v.2)) <|
 .g (decide ((Int.toNat v.1) < List.length v.2)) <|
 .g (inR (IntKind.wrap .i64 (v.1 - (1 : Int))) (List.length v.2)) <|
 .g (decide ((Int.toNat (IntKind.wrap .i64 (v.1 - (1 : Int)))) < List.length v.2)) <|
 .c (Bool) (wxu (List.getD v.2 (Int.toNat v.1) (0 : Int)) (List.getD v.2 (Int.toNat (IntKind.wrap .i64 (v.1 - (1 : Int)))) (0 : Int))) fun r10_ =>
 .t r10_
 (.g (inR (IntKind.wrap .i64 (v.1 - (1 : Int))) (List.length v.2)) <|
 .g (decide ((Int.toNat (IntKind.wrap .i64 (v.1 - (1 : Int)))) < List.length v.2)) <|
 .g (inR v.1 (List.length v.2)) <|
 .g (decide ((Int.toNat v.1) < List.length v.2)) <|
 .g (inR v.1 (List.length v.2)) <|
 .g (decide ((Int.toNat v.1) < List.length v.2)) <|
 .g (inR (IntKind.wrap .i64 (v.1 - (1 : Int))) (List.length (List.set v.2 (Int.toNat v.1) (List.getD v.2 (Int.toNat (IntKind.wrap .i64 (v.1 - (1 : Int)))) (0 : Int))))) <|
 .g (decide ((Int.toNat (IntKind.wrap .i64 (v.1 - (1 : Int)))) < List.length (List.set v.2 (Int.toNat v.1) (List.getD v.2 (Int.toNat (IntKind.wrap .i64 (v.1 - (1 : Int)))) (0 : Int))))) <|
 .l (.inl ((IntKind.wrap .i64 (v.1 - (1 : Int))), (List.set (List.set v.2 (Int.toNat v.1) (List.getD v.2 (Int.toNat (IntKind.wrap .i64 (v.1 - (1 : Int)))) (0 : Int))) (Int.toNat (IntKind.wrap .i64 (v.1 - (1 : Int)))) (List.getD v.2 (Int.toNat v.1) (0 : Int))))))
 (.l (.inr v.2)))
 (.l (.inr v.2))
noncomputable def wma (k : Int × (Int × Int)) (v : Int × Y1) : Option Y1 := iter (fun v => (wge k v).ev) v
noncomputable def wqc : LD := ⟨{ acts := [], S := { slots := [0, 1, 2, 6, 7], sh := (.cons (.arr 64) (.cons (.dat yi) (.cons (.dat yi) (.cons (.dat yi) (.cons (.dat yi) .nil))))), obs := [(64, .arr 3 yi)] } }, [(2, { acts := [], S := { slots := [0, 1, 2, 6], sh := (.cons (.arr 64) (.cons (.dat yi) (.cons (.dat yi) (.cons (.dat yi) .nil)))), obs := [(64, .arr 3 yi)] } })], (yh [] .nil), Int × (Int × Int), Int × Y1, Y1, fun k v => (((), (k.1, (k.2.1, (k.2.2, (v.1, ()))))), (v.2, ())), fun t => (t.1.2.1, (t.1.2.2.1, t.1.2.2.2.1)), fun t => (t.1.2.2.2.2.1, t.2.1), wge, fun k r => .l (.exit 2 (wav ({ slots := [0, 1, 2, 6], sh := (.cons (.arr 64) (.cons (.dat yi) (.cons (.dat yi) (.cons (.dat yi) .nil)))), obs := [(64, .arr 3 yi)] }) (((), (k.1, (k.2.1, (k.2.2, ())))), (r, ()))))⟩
noncomputable def wmb (k : Int × Int) (v : Int × Y1) : Tr ((Int × Y1) ⊕ Y1) :=
 .t (decide (v.1 < k.2))
 (.c Y1 (wma (k.1, (k.2, v.1)) (v.1, v.2)) fun r15_ =>
 .l (.inl ((IntKind.wrap .i64 (v.1 + (1 : Int))), r15_)))
 (.l (.inr v.2))
noncomputable def wahw (k : Int × Int) (v : Int × Y1) : Option Y1 := iter (fun v => (wmb k v).ev) v
noncomputable def wqd : LD := ⟨{ acts := [], S := { slots := [0, 1, 2, 6], sh := (.cons (.arr 64) (.cons (.dat yi) (.cons (.dat yi) (.cons (.dat yi) .nil)))), obs := [(64, .arr 3 yi)] } }, [(0, { acts := [], S := { slots := [0], sh := (.cons (.arr 64) .nil), obs := [(64, .arr 3 yi)] } })], (yh [] .nil), Int × (Int), Int × Y1, Y1, fun k v => (((), (k.1, (k.2, (v.1, ())))), (v.2, ())), fun t => (t.1.2.1, t.1.2.2.1), fun t => (t.1.2.2.2.1, t.2.1), wmb, fun _ r => .l (.exit 0 (wav ({ slots := [0], sh := (.cons (.arr 64) .nil), obs := [(64, .arr 3 yi)] }) (((), ()), (r, ()))))⟩
noncomputable def wavc (a2_ : Int) (a3_ : Int) (a1_ : Y1) : Tr Y1 :=
 .c Y1 (wahw (a2_, a3_) ((IntKind.wrap .i64 (a2_ + (1 : Int))), a1_)) fun r17_ =>
 .l r17_
noncomputable def wahx (a2_ : Int) (a3_ : Int) (a1_ : Y1) : Option Y1 := (wavc a2_ a3_ a1_).ev
noncomputable def wbql : Sh := (.cons (.arr 64) (.cons (.dat yi) (.cons (.dat yi) .nil)))
noncomputable def wbqm : List (Nat × OSh) := [(64, .arr 3 yi)]
noncomputable def K_zbb : RetK := { acts := [], res := [], sh := .nil, obs := [(64, .arr 3 yi)], pins := [(0, 0, 64)] }
noncomputable def D_zbb : FD := ⟨wbql, wbqm, [.arg 0], Y1, fun x => wahx x.1.2.1 x.1.2.2.1 x.2.1, fun r => ([], [(64, .arr 3 yi r)])⟩
noncomputable def wahy : Env := wae [(208, D_zb)]
noncomputable def wahz : Nat → Nat → List Nat := fun _ _ => []
noncomputable def waia : List (Nat × LD) := [(2, wqc), (0, wqd)]
noncomputable def wacp : Code := (f202.body).getD .skip
noncomputable def waib (a1_ : Int) : Tr (Int) :=
 .c (Int) (wxt (IntKind.wrap .u64 a1_)) fun r1_ =>
 .g (decide ((0 : Int) ≤ r1_)) <|
 .l (IntKind.wrap .u64 ((1 : Int) * 2 ^ (min (Int.toNat r1_) (IntKind.bits .u64))))
noncomputable def waic (a1_ : Int) : Option (Int) := (waib a1_).ev
noncomputable def wbqn : Sh := (.cons (.dat yi) .nil)
noncomputable def wbqo : List (Nat × OSh) := []
noncomputable def K_zbg : RetK := { acts := [], res := [.tmp 2], sh := (.cons (.dat (.int .u64)) .nil), obs := [], pins := [] }
noncomputable def D_zbg : FD := ⟨wbqn, wbqo, [], Int, fun x => waic x.1.1, fun r => ([.dat (.int .u64) r], [])⟩
noncomputable def wbgp : Env := wae [(189, D_zaj)]
noncomputable def wbgq : Nat → Nat → List Nat := fun _ _ => []
noncomputable def wbgr : List (Nat × LD) := []
noncomputable def wbgs : Code := (f224.body).getD .skip
noncomputable def waid (a1_ : Int) : Tr (Int × Int) :=
 .g (decide ((0 : Int) ≤ (13 : Int))) <|
 .g (decide ((0 : Int) ≤ (7 : Int))) <|
 .g (decide ((0 : Int) ≤ (17 : Int))) <|
 .l ((IntKind.wrap .u64 (BitVec.toNat ((BitVec.ofInt (IntKind.bits .u64) (IntKind.wrap .u64 (BitVec.toNat ((BitVec.ofInt (IntKind.bits .u64) (IntKind.wrap .u64 (BitVec.toNat ((BitVec.ofInt (IntKind.bits .u64) a1_) ^^^ (BitVec.ofInt (IntKind.bits .u64) (IntKind.wrap .u64 (a1_ * 2 ^ (min (Int.toNat (13 : Int)) (IntKind.bits .u64))))))))) ^^^ (BitVec.ofInt (IntKind.bits .u64) (Int.fdiv (IntKind.wrap .u64 (BitVec.toNat ((BitVec.ofInt (IntKind.bits .u64) a1_) ^^^ (BitVec.ofInt (IntKind.bits .u64) (IntKind.wrap .u64 (a1_ * 2 ^ (min (Int.toNat (13 : Int)) (IntKind.bits .u64)))))))) (2 ^ (min (Int.toNat (7 : Int)) (IntKind.bits .u64))))))))) ^^^ (BitVec.ofInt (IntKind.bits .u64) (IntKind.wrap .u64 ((IntKind.wrap .u64 (BitVec.toNat ((BitVec.ofInt (IntKind.bits .u64) (IntKind.wrap .u64 (BitVec.toNat ((BitVec.ofInt (IntKind.bits .u64) a1_) ^^^ (BitVec.ofInt (IntKind.bits .u64) (IntKind.wrap .u64 (a1_ * 2 ^ (min (Int.toNat (13 : Int)) (IntKind.bits .u64))))))))) ^^^ (BitVec.ofInt (IntKind.bits .u64) (Int.fdiv (IntKind.wrap .u64 (BitVec.toNat ((BitVec.ofInt (IntKind.bits .u64) a1_) ^^^ (BitVec.ofInt (IntKind.bits .u64) (IntKind.wrap .u64 (a1_ * 2 ^ (min (Int.toNat (13 : Int)) (IntKind.bits .u64)))))))) (2 ^ (min (Int.toNat (7 : Int)) (IntKind.bits .u64)))))))) * 2 ^ (min (Int.toNat (17 : Int)) (IntKind.bits .u64)))))))), (IntKind.wrap .u64 (BitVec.toNat ((BitVec.ofInt (IntKind.bits .u64) (IntKind.wrap .u64 (BitVec.toNat ((BitVec.ofInt (IntKind.bits .u64) (IntKind.wrap .u64 (BitVec.toNat ((BitVec.ofInt (IntKind.bits .u64) a1_) ^^^ (BitVec.ofInt (IntKind.bits .u64) (IntKind.wrap .u64 (a1_ * 2 ^ (min (Int.toNat (13 : Int)) (IntKind.bits .u64))))))))) ^^^ (BitVec.ofInt (IntKind.bits .u64) (Int.fdiv (IntKind.wrap .u64 (BitVec.toNat ((BitVec.ofInt (IntKind.bits .u64) a1_) ^^^ (BitVec.ofInt (IntKind.bits .u64) (IntKind.wrap .u64 (a1_ * 2 ^ (min (Int.toNat (13 : Int)) (IntKind.bits .u64)))))))) (2 ^ (min (Int.toNat (7 : Int)) (IntKind.bits .u64))))))))) ^^^ (BitVec.ofInt (IntKind.bits .u64) (IntKind.wrap .u64 ((IntKind.wrap .u64 (BitVec.toNat ((BitVec.ofInt (IntKind.bits .u64) (IntKind.wrap .u64 (BitVec.toNat ((BitVec.ofInt (IntKind.bits .u64) a1_) ^^^ (BitVec.ofInt (IntKind.bits .u64) (IntKind.wrap .u64 (a1_ * 2 ^ (min (Int.toNat (13 : Int)) (IntKind.bits .u64))))))))) ^^^ (BitVec.ofInt (IntKind.bits .u64) (Int.fdiv (IntKind.wrap .u64 (BitVec.toNat ((BitVec.ofInt (IntKind.bits .u64) a1_) ^^^ (BitVec.ofInt (IntKind.bits .u64) (IntKind.wrap .u64 (a1_ * 2 ^ (min (Int.toNat (13 : Int)) (IntKind.bits .u64)))))))) (2 ^ (min (Int.toNat (7 : Int)) (IntKind.bits .u64)))))))) * 2 ^ (min (Int.toNat (17 : Int)) (IntKind.bits .u64)))))))))
noncomputable def waie (a1_ : Int) : Option (Int × Int) := (waid a1_).ev
noncomputable def wbqp : Sh := (.cons (.box 64 0) .nil)
noncomputable def wbqq : List (Nat × OSh) := [(64, .cells (.cons (.dat (.int .u64)) .nil))]
noncomputable def K_zbn : RetK := { acts := [], res := [.tmp 2], sh := (.cons (.dat (.int .u64)) .nil), obs := [(64, .cells (.cons (.dat (.int .u64)) .nil))], pins := [(0, 0, 64)] }
noncomputable def D_zbn : FD := ⟨wbqp, wbqq, [.arg 0], Int × (Int), fun x => waie x.2.1.1, fun r => ([.dat (.int .u64) r.1], [(64, .cells [.dat (.int .u64) r.2])])⟩
noncomputable def wbgt : Env := wae []
noncomputable def wbgu : Nat → Nat → List Nat := fun _ _ => []
noncomputable def wbgv : List (Nat × LD) := []
noncomputable def wbgw : Code := (f225.body).getD .skip
noncomputable def waif (k : Int × (Int × Int)) (v : Int × (Y1 × Int)) : Tr ((Int × (Y1 × Int)) ⊕ Y1) :=
 .g (!decide ((4 : Int) = 0)) <|
 .t (decide (v.1 ≤ (IntKind.wrap .i64 ((IntKind.wrap .i64 (k.1 + (IntKind.wrap .i64 ((IntKind.wrap .i64 (Int.tdiv k.2.1 (4 : Int))) * (2 : Int))))) + (1 : Int)))))
 (.c (Int × Int) (waie v.2.2) fun r8_ =>
 .t (decide (k.2.1 ≤ (IntKind.wrap .i64 (IntKind.wrap .u64 (BitVec.toNat ((BitVec.ofInt (IntKind.bits .u64) r8_.1) &&& (BitVec.ofInt (IntKind.bits .u64) (IntKind.wrap .u64 (k.2.2 - (1 : Int))))))))))
 (.g (inR (IntKind.wrap .i64 (k.1 + (IntKind.wrap .i64 ((IntKind.wrap .i64 (IntKind.wrap .u64 (BitVec.toNat ((BitVec.ofInt (IntKind.bits .u64) r8_.1) &&& (BitVec.ofInt (IntKind.bits .u64) (IntKind.wrap .u64 (k.2.2 - (1 : Int)))))))) - k.2.1)))) (List.length v.2.1)) <|
 .g (decide ((Int.toNat (IntKind.wrap .i64 (k.1 + (IntKind.wrap .i64 ((IntKind.wrap .i64 (IntKind.wrap .u64 (BitVec.toNat ((BitVec.ofInt (IntKind.bits .u64) r8_.1) &&& (BitVec.ofInt (IntKind.bits .u64) (IntKind.wrap .u64 (k.2.2 - (1 : Int)))))))) - k.2.1))))) < List.length v.2.1)) <|
 .g (inR v.1 (List.length v.2.1)) <|
 .g (decide ((Int.toNat v.1) < List.length v.2.1)) <|
 .g (inR v.1 (List.length v.2.1)) <|
 .g (decide ((Int.toNat v.1) < List.length v.2.1)) <|
 .g (inR (IntKind.wrap .i64 (k.1 + (IntKind.wrap .i64 ((IntKind.wrap .i64 (IntKind.wrap .u64 (BitVec.toNat ((BitVec.ofInt (IntKind.bits .u64) r8_.1) &&& (BitVec.ofInt (IntKind.bits .u64) (IntKind.wrap .u64 (k.2.2 - (1 : Int)))))))) - k.2.1)))) (List.length (List.set v.2.1 (Int.toNat v.1) (List.getD v.2.1 (Int.toNat (IntKind.wrap .i64 (k.1 + (IntKind.wrap .i64 ((IntKind.wrap .i64 (IntKind.wrap .u64 (BitVec.toNat ((BitVec.ofInt (IntKind.bits .u64) r8_.1) &&& (BitVec.ofInt (IntKind.bits .u64) (IntKind.wrap .u64 (k.2.2 - (1 : Int)))))))) - k.2.1))))) (0 : Int))))) <|
 .g (decide ((Int.toNat (IntKind.wrap .i64 (k.1 + (IntKind.wrap .i64 ((IntKind.wrap .i64 (IntKind.wrap .u64 (BitVec.toNat ((BitVec.ofInt (IntKind.bits .u64) r8_.1) &&& (BitVec.ofInt (IntKind.bits .u64) (IntKind.wrap .u64 (k.2.2 - (1 : Int)))))))) - k.2.1))))) < List.length (List.set v.2.1 (Int.toNat v.1) (List.getD v.2.1 (Int.toNat (IntKind.wrap .i64 (k.1 + (IntKind.wrap .i64 ((IntKind.wrap .i64 (IntKind.wrap .u64 (BitVec.toNat ((BitVec.ofInt (IntKind.bits .u64) r8_.1) &&& (BitVec.ofInt (IntKind.bits .u64) (IntKind.wrap .u64 (k.2.2 - (1 : Int)))))))) - k.2.1))))) (0 : Int))))) <|
 .l (.inl ((IntKind.wrap .i64 (v.1 + (1 : Int))), ((List.set (List.set v.2.1 (Int.toNat v.1) (List.getD v.2.1 (Int.toNat (IntKind.wrap .i64 (k.1 + (IntKind.wrap .i64 ((IntKind.wrap .i64 (IntKind.wrap .u64 (BitVec.toNat ((BitVec.ofInt (IntKind.bits .u64) r8_.1) &&& (BitVec.ofInt (IntKind.bits .u64) (IntKind.wrap .u64 (k.2.2 - (1 : Int)))))))) - k.2.1))))) (0 : Int))) (Int.toNat (IntKind.wrap .i64 (k.1 + (IntKind.wrap .i64 ((IntKind.wrap .i64 (IntKind.wrap .u64 (BitVec.toNat ((BitVec.ofInt (IntKind.bits .u64) r8_.1) &&& (BitVec.ofInt (IntKind.bits .u64) (IntKind.wrap .u64 (k.2.2 - (1 : Int)))))))) - k.2.1))))) (List.getD v.2.1 (Int.toNat v.1) (0 : Int))), r8_.2))))
 (.g (inR (IntKind.wrap .i64 (k.1 + (IntKind.wrap .i64 (IntKind.wrap .u64 (BitVec.toNat ((BitVec.ofInt (IntKind.bits .u64) r8_.1) &&& (BitVec.ofInt (IntKind.bits .u64) (IntKind.wrap .u64 (k.2.2 - (1 : Int)))))))))) (List.length v.2.1)) <|
 .g (decide ((Int.toNat (IntKind.wrap .i64 (k.1 + (IntKind.wrap .i64 (IntKind.wrap .u64 (BitVec.toNat ((BitVec.ofInt (IntKind.bits .u64) r8_.1) &&& (BitVec.ofInt (IntKind.bits .u64) (IntKind.wrap .u64 (k.2.2 - (1 : Int))))))))))) < List.length v.2.1)) <|
 .g (inR v.1 (List.length v.2.1)) <|
 .g (decide ((Int.toNat v.1) < List.length v.2.1)) <|
 .g (inR v.1 (List.length v.2.1)) <|
 .g (decide ((Int.toNat v.1) < List.length v.2.1)) <|
 .g (inR (IntKind.wrap .i64 (k.1 + (IntKind.wrap .i64 (IntKind.wrap .u64 (BitVec.toNat ((BitVec.ofInt (IntKind.bits .u64) r8_.1) &&& (BitVec.ofInt (IntKind.bits .u64) (IntKind.wrap .u64 (k.2.2 - (1 : Int)))))))))) (List.length (List.set v.2.1 (Int.toNat v.1) (List.getD v.2.1 (Int.toNat (IntKind.wrap .i64 (k.1 + (IntKind.wrap .i64 (IntKind.wrap .u64 (BitVec.toNat ((BitVec.ofInt (IntKind.bits .u64) r8_.1) &&& (BitVec.ofInt (IntKind.bits .u64) (IntKind.wrap .u64 (k.2.2 - (1 : Int))))))))))) (0 : Int))))) <|
 .g (decide ((Int.toNat (IntKind.wrap .i64 (k.1 + (IntKind.wrap .i64 (IntKind.wrap .u64 (BitVec.toNat ((BitVec.ofInt (IntKind.bits .u64) r8_.1) &&& (BitVec.ofInt (IntKind.bits .u64) (IntKind.wrap .u64 (k.2.2 - (1 : Int))))))))))) < List.length (List.set v.2.1 (Int.toNat v.1) (List.getD v.2.1 (Int.toNat (IntKind.wrap .i64 (k.1 + (IntKind.wrap .i64 (IntKind.wrap .u64 (BitVec.toNat ((BitVec.ofInt (IntKind.bits .u64) r8_.1) &&& (BitVec.ofInt (IntKind.bits .u64) (IntKind.wrap .u64 (k.2.2 - (1 : Int))))))))))) (0 : Int))))) <|
 .l (.inl ((IntKind.wrap .i64 (v.1 + (1 : Int))), ((List.set (List.set v.2.1 (Int.toNat v.1) (List.getD v.2.1 (Int.toNat (IntKind.wrap .i64 (k.1 + (IntKind.wrap .i64 (IntKind.wrap .u64 (BitVec.toNat ((BitVec.ofInt (IntKind.bits .u64) r8_.1) &&& (BitVec.ofInt (IntKind.bits .u64) (IntKind.wrap .u64 (k.2.2 - (1 : Int))))))))))) (0 : Int))) (Int.toNat (IntKind.wrap .i64 (k.1 + (IntKind.wrap .i64 (IntKind.wrap .u64 (BitVec.toNat ((BitVec.ofInt (IntKind.bits .u64) r8_.1) &&& (BitVec.ofInt (IntKind.bits .u64) (IntKind.wrap .u64 (k.2.2 - (1 : Int))))))))))) (List.getD v.2.1 (Int.toNat v.1) (0 : Int))), r8_.2)))))
 (.l (.inr v.2.1))
noncomputable def wbgx (k : Int × (Int × Int)) (v : Int × (Y1 × Int)) : Option Y1 := iter (fun v => (waif k v).ev) v
noncomputable def wqe : LD := ⟨{ acts := [], S := { slots := [0, 1, 6, 7, 8, 9], sh := (.cons (.arr 64) (.cons (.dat yi) (.cons (.dat yi) (.cons (.box 7 0) (.cons (.dat (.int .u64)) (.cons (.dat yi) .nil)))))), obs := [(64, .arr 3 yi), (7, .cells (.cons (.dat (.int .u64)) .nil))] } }, [(0, { acts := [], S := { slots := [0], sh := (.cons (.arr 64) .nil), obs := [(64, .arr 3 yi)] } })], (yh [] .nil), Int × (Int × Int), Int × (Y1 × Int), Y1, fun k v => (((), (k.1, (k.2.1, ((), (k.2.2, (v.1, ())))))), (v.2.1, ((v.2.2, ()), ()))), fun t => (t.1.2.1, (t.1.2.2.1, t.1.2.2.2.2.1)), fun t => (t.1.2.2.2.2.2.1, (t.2.1, t.2.2.1.1)), waif, fun _ r => .l (.exit 0 (wav ({ slots := [0], sh := (.cons (.arr 64) .nil), obs := [(64, .arr 3 yi)] }) (((), ()), (r, ()))))⟩
noncomputable def wbgy (a2_ : Int) (a3_ : Int) (a1_ : Y1) : Tr Y1 :=
 .t (decide ((8 : Int) ≤ (IntKind.wrap .i64 (a3_ - a2_))))
 (.c (Int) (waic (IntKind.wrap .i64 (a3_ - a2_))) fun r1_ =>
 .g (!decide ((4 : Int) = 0)) <|
 .c Y1 (wbgx (a2_, ((IntKind.wrap .i64 (a3_ - a2_)), r1_)) ((IntKind.wrap .i64 ((IntKind.wrap .i64 (a2_ + (IntKind.wrap .i64 ((IntKind.wrap .i64 (Int.tdiv (IntKind.wrap .i64 (a3_ - a2_)) (4 : Int))) * (2 : Int))))) - (1 : Int))), (a1_, (IntKind.wrap .u64 (IntKind.wrap .i64 (a3_ - a2_)))))) fun r10_ =>
 .l r10_)
 (.l a1_)
noncomputable def wbqr (a2_ : Int) (a3_ : Int) (a1_ : Y1) : Option Y1 := (wbgy a2_ a3_ a1_).ev
noncomputable def wbqs : Sh := (.cons (.arr 64) (.cons (.dat yi) (.cons (.dat yi) .nil)))
noncomputable def wbqt : List (Nat × OSh) := [(64, .arr 3 yi)]
noncomputable def K_zax : RetK := { acts := [], res := [], sh := .nil, obs := [(64, .arr 3 yi)], pins := [(0, 0, 64)] }
noncomputable def D_zax : FD := ⟨wbqs, wbqt, [.arg 0], Y1, fun x => wbqr x.1.2.1 x.1.2.2.1 x.2.1, fun r => ([], [(64, .arr 3 yi r)])⟩
noncomputable def wavd : Env := wae [(224, D_zbg), (225, D_zbn)]
noncomputable def wave : Nat → Nat → List Nat := fun _ _ => []
noncomputable def wavf : List (Nat × LD) := [(0, wqe)]
noncomputable def waig : Code := (f204.body).getD .skip
noncomputable def wbgz (a1_ : Y1) (a2_ : Int) (a3_ : Int) (a4_ : Int) : Tr (Int × (Int × Int)) :=
 .g (inR a3_ (List.length a1_)) <|
 .g (inR a2_ (List.length a1_)) <|
 .c (Bool) (wxu (List.getD a1_ (Int.toNat a3_) (0 : Int)) (List.getD a1_ (Int.toNat a2_) (0 : Int))) fun r1_ =>
 .t r1_
 (.l (a3_, (a2_, (IntKind.wrap .i64 (a4_ + (1 : Int))))))
 (.l (a2_, (a3_, a4_)))
noncomputable def wavg (a1_ : Y1) (a2_ : Int) (a3_ : Int) (a4_ : Int) : Option (Int × (Int × Int)) := (wbgz a1_ a2_ a3_ a4_).ev
noncomputable def wbqu : Sh := (.cons (.dat y1) (.cons (.dat yi) (.cons (.dat yi) (.cons (.box 64 0) .nil))))
noncomputable def wbqv : List (Nat × OSh) := [(64, .cells (.cons (.dat yi) .nil))]
noncomputable def K_zbi : RetK := { acts := [], res := [.tmp 8, .tmp 9], sh := (.cons (.dat yi) (.cons (.dat yi) .nil)), obs := [(64, .cells (.cons (.dat yi) .nil))], pins := [(3, 0, 64)] }
noncomputable def D_zbi : FD := ⟨wbqu, wbqv, [.arg 3], Int × (Int × Int), fun x => wavg x.1.1 x.1.2.1 x.1.2.2.1 x.2.1.1, fun r => ([.dat yi r.1, .dat yi r.2.1], [(64, .cells [.dat yi r.2.2])])⟩
noncomputable def wbha : Env := wae [(208, D_zb)]
noncomputable def wbhb : Nat → Nat → List Nat := fun _ _ => []
noncomputable def wbhc : List (Nat × LD) := []
noncomputable def wbhd : Code := (f232.body).getD .skip
noncomputable def wbhe (a1_ : Y1) (a2_ : Int) (a3_ : Int) (a4_ : Int) (a5_ : Int) : Tr (Int × Int) :=
 .c (Int × (Int × Int)) (wavg a1_ a2_ a3_ a5_) fun r1_ =>
 .c (Int × (Int × Int)) (wavg a1_ r1_.2.1 a4_ r1_.2.2) fun r2_ =>
 .c (Int × (Int × Int)) (wavg a1_ r1_.1 r2_.1 r2_.2.2) fun r3_ =>
 .l (r3_.2.1, r3_.2.2)
noncomputable def wavh (a1_ : Y1) (a2_ : Int) (a3_ : Int) (a4_ : Int) (a5_ : Int) : Option (Int × Int) := (wbhe a1_ a2_ a3_ a4_ a5_).ev
noncomputable def wbqw : Sh := (.cons (.dat y1) (.cons (.dat yi) (.cons (.dat yi) (.cons (.dat yi) (.cons (.box 64 0) .nil)))))
noncomputable def wbqx : List (Nat × OSh) := [(64, .cells (.cons (.dat yi) .nil))]
noncomputable def K_zbf : RetK := { acts := [], res := [.tmp 10], sh := (.cons (.dat yi) .nil), obs := [(64, .cells (.cons (.dat yi) .nil))], pins := [(4, 0, 64)] }
noncomputable def D_zbf : FD := ⟨wbqw, wbqx, [.arg 4], Int × (Int), fun x => wavh x.1.1 x.1.2.1 x.1.2.2.1 x.1.2.2.2.1 x.2.1.1, fun r => ([.dat yi r.1], [(64, .cells [.dat yi r.2])])⟩
noncomputable def wbhf : Env := wae [(232, D_zbi)]
noncomputable def wbhg : Nat → Nat → List Nat := fun _ _ => []
noncomputable def wbhh : List (Nat × LD) := []
noncomputable def wbhi : Code := (f227.body).getD .skip
noncomputable def wbhj (a1_ : Y1) (a2_ : Int) (a3_ : Int) : Tr (Int × Int) :=
 .c (Int × Int) (wavh a1_ (IntKind.wrap .i64 (a2_ - (1 : Int))) a2_ (IntKind.wrap .i64 (a2_ + (1 : Int))) a3_) fun r1_ =>
 .l (r1_.1, r1_.2)
noncomputable def wavi (a1_ : Y1) (a2_ : Int) (a3_ : Int) : Option (Int × Int) := (wbhj a1_ a2_ a3_).ev
noncomputable def wbqy : Sh := (.cons (.dat y1) (.cons (.dat yi) (.cons (.box 64 0) .nil)))
noncomputable def wbqz : List (Nat × OSh) := [(64, .cells (.cons (.dat yi) .nil))]
noncomputable def K_zbd : RetK := { acts := [], res := [.tmp 6], sh := (.cons (.dat yi) .nil), obs := [(64, .cells (.cons (.dat yi) .nil))], pins := [(2, 0, 64)] }
noncomputable def D_zbd : FD := ⟨wbqy, wbqz, [.arg 2], Int × (Int), fun x => wavi x.1.1 x.1.2.1 x.2.1.1, fun r => ([.dat yi r.1], [(64, .cells [.dat yi r.2])])⟩
noncomputable def wbhk : Env := wae [(227, D_zbf)]
noncomputable def wbhl : Nat → Nat → List Nat := fun _ _ => []
noncomputable def wbhm : List (Nat × LD) := []
noncomputable def wbhn : Code := (f226.body).getD .skip
noncomputable def wbho (a1_ : Y1) (a2_ : Int) (a3_ : Int) : Tr (Int × Int) :=
 .g (!decide ((4 : Int) = 0)) <|
 .g (!decide ((4 : Int) = 0)) <|
 .g (!decide ((4 : Int) = 0)) <|
 .t (decide ((8 : Int) ≤ (IntKind.wrap .i64 (a3_ - a2_))))
 (.t (decide ((50 : Int) ≤ (IntKind.wrap .i64 (a3_ - a2_))))
 (.c (Int × Int) (wavi a1_ (IntKind.wrap .i64 (a2_ + (IntKind.wrap .i64 ((IntKind.wrap .i64 (Int.tdiv (IntKind.wrap .i64 (a3_ - a2_)) (4 : Int))) * (1 : Int))))) (0 : Int)) fun r1_ =>
 .c (Int × Int) (wavi a1_ (IntKind.wrap .i64 (a2_ + (IntKind.wrap .i64 ((IntKind.wrap .i64 (Int.tdiv (IntKind.wrap .i64 (a3_ - a2_)) (4 : Int))) * (2 : Int))))) r1_.2) fun r2_ =>
 .c (Int × Int) (wavi a1_ (IntKind.wrap .i64 (a2_ + (IntKind.wrap .i64 ((IntKind.wrap .i64 (Int.tdiv (IntKind.wrap .i64 (a3_ - a2_)) (4 : Int))) * (3 : Int))))) r2_.2) fun r3_ =>
 .c (Int × Int) (wavh a1_ r1_.1 r2_.1 r3_.1 r3_.2) fun r4_ =>
 .t (r4_.2 == (0 : Int))
 (.l (r4_.1, (1 : Int)))
 (.t (r4_.2 == (12 : Int))
 (.l (r4_.1, (2 : Int)))
 (.l (r4_.1, (0 : Int)))))
 (.c (Int × Int) (wavh a1_ (IntKind.wrap .i64 (a2_ + (IntKind.wrap .i64 ((IntKind.wrap .i64 (Int.tdiv (IntKind.wrap .i64 (a3_ - a2_)) (4 : Int))) * (1 : Int))))) (IntKind.wrap .i64 (a2_ + (IntKind.wrap .i64 ((IntKind.wrap .i64 (Int.tdiv (IntKind.wrap .i64 (a3_ - a2_)) (4 : Int))) * (2 : Int))))) (IntKind.wrap .i64 (a2_ + (IntKind.wrap .i64 ((IntKind.wrap .i64 (Int.tdiv (IntKind.wrap .i64 (a3_ - a2_)) (4 : Int))) * (3 : Int))))) (0 : Int)) fun r5_ =>
 .t (r5_.2 == (0 : Int))
 (.l (r5_.1, (1 : Int)))
 (.t (r5_.2 == (12 : Int))
 (.l (r5_.1, (2 : Int)))
 (.l (r5_.1, (0 : Int))))))
 (.t ((0 : Int) == (0 : Int))
 (.l ((IntKind.wrap .i64 (a2_ + (IntKind.wrap .i64 ((IntKind.wrap .i64 (Int.tdiv (IntKind.wrap .i64 (a3_ - a2_)) (4 : Int))) * (2 : Int))))), (1 : Int)))
 (.t ((0 : Int) == (12 : Int))
 (.l ((IntKind.wrap .i64 (a2_ + (IntKind.wrap .i64 ((IntKind.wrap .i64 (Int.tdiv (IntKind.wrap .i64 (a3_ - a2_)) (4 : Int))) * (2 : Int))))), (2 : Int)))
 (.l ((IntKind.wrap .i64 (a2_ + (IntKind.wrap .i64 ((IntKind.wrap .i64 (Int.tdiv (IntKind.wrap .i64 (a3_ - a2_)) (4 : Int))) * (2 : Int))))), (0 : Int)))))
noncomputable def wbhp (a1_ : Y1) (a2_ : Int) (a3_ : Int) : Option (Int × Int) := (wbho a1_ a2_ a3_).ev
noncomputable def wbra : Sh := (.cons (.dat y1) (.cons (.dat yi) (.cons (.dat yi) .nil)))
noncomputable def wbrb : List (Nat × OSh) := []
noncomputable def K_zaz : RetK := { acts := [], res := [.tmp 6, .tmp 7], sh := (.cons (.dat yi) (.cons (.dat yi) .nil)), obs := [], pins := [] }
noncomputable def D_zaz : FD := ⟨wbra, wbrb, [], Int × (Int), fun x => wbhp x.1.1 x.1.2.1 x.1.2.2.1, fun r => ([.dat yi r.1, .dat yi r.2], [])⟩
noncomputable def wbhq : Env := wae [(226, D_zbd), (227, D_zbf)]
noncomputable def wbhr : Nat → Nat → List Nat := fun _ _ => []
noncomputable def wbhs : List (Nat × LD) := []
noncomputable def wbht : Code := (f205.body).getD .skip
noncomputable def waih (k : Int × (Int × Y1)) (v : Int) : Tr ((Int) ⊕ (Int)) :=
 .t (decide (v ≤ k.2.1))
 (.g (inR v (List.length k.2.2)) <|
 .g (decide ((Int.toNat v) < List.length k.2.2)) <|
 .g (inR k.1 (List.length k.2.2)) <|
 .g (decide ((Int.toNat k.1) < List.length k.2.2)) <|
 .c (Bool) (wxu (List.getD k.2.2 (Int.toNat v) (0 : Int)) (List.getD k.2.2 (Int.toNat k.1) (0 : Int))) fun r5_ =>
 .t r5_
 (.l (.inl (IntKind.wrap .i64 (v + (1 : Int)))))
 (.l (.inr v)))
 (.l (.inr v))
noncomputable def wbhu (k : Int × (Int × Y1)) (v : Int) : Option (Int) := iter (fun v => (waih k v).ev) v
noncomputable def wqf : LD := ⟨{ acts := [], S := { slots := [0, 1, 10, 11], sh := (.cons (.arr 64) (.cons (.dat yi) (.cons (.dat yi) (.cons (.dat yi) .nil)))), obs := [(64, .arr 3 yi)] } }, [(0, { acts := [], S := { slots := [0, 1, 10, 11], sh := (.cons (.arr 64) (.cons (.dat yi) (.cons (.dat yi) (.cons (.dat yi) .nil)))), obs := [(64, .arr 3 yi)] } })], (yh [] .nil), Int × (Int × Y1), Int, Int, fun k v => (((), (k.1, (v, (k.2.1, ())))), (k.2.2, ())), fun t => (t.1.2.1, (t.1.2.2.2.1, t.2.1)), fun t => t.1.2.2.1, waih, fun k r => .l (.exit 0 (wav ({ slots := [0, 1, 10, 11], sh := (.cons (.arr 64) (.cons (.dat yi) (.cons (.dat yi) (.cons (.dat yi) .nil)))), obs := [(64, .arr 3 yi)] }) (((), (k.1, (r, (k.2.1, ())))), (k.2.2, ()))))⟩
noncomputable def waii (k : Int × (Int × Y1)) (v : Int) : Tr ((Int) ⊕ (Int)) :=
 .t (decide (k.2.1 ≤ v))
 (.g (inR v (List.length k.2.2)) <|
 .g (decide ((Int.toNat v) < List.length k.2.2)) <|
 .g (inR k.1 (List.length k.2.2)) <|
 .g (decide ((Int.toNat k.1) < List.length k.2.2)) <|
 .c (Bool) (wxu (List.getD k.2.2 (Int.toNat v) (0 : Int)) (List.getD k.2.2 (Int.toNat k.1) (0 : Int))) fun r15_ =>
 .t (!r15_)
 (.l (.inl (IntKind.wrap .i64 (v - (1 : Int)))))
 (.l (.inr v)))
 (.l (.inr v))
noncomputable def wbhv (k : Int × (Int × Y1)) (v : Int) : Option (Int) := iter (fun v => (waii k v).ev) v
noncomputable def wqg : LD := ⟨{ acts := [], S := { slots := [0, 1, 10, 11], sh := (.cons (.arr 64) (.cons (.dat yi) (.cons (.dat yi) (.cons (.dat yi) .nil)))), obs := [(64, .arr 3 yi)] } }, [(2, { acts := [], S := { slots := [0, 1, 10, 11], sh := (.cons (.arr 64) (.cons (.dat yi) (.cons (.dat yi) (.cons (.dat yi) .nil)))), obs := [(64, .arr 3 yi)] } })], (yh [] .nil), Int × (Int × Y1), Int, Int, fun k v => (((), (k.1, (k.2.1, (v, ())))), (k.2.2, ())), fun t => (t.1.2.1, (t.1.2.2.1, t.2.1)), fun t => t.1.2.2.2.1, waii, fun k r => .l (.exit 2 (wav ({ slots := [0, 1, 10, 11], sh := (.cons (.arr 64) (.cons (.dat yi) (.cons (.dat yi) (.cons (.dat yi) .nil)))), obs := [(64, .arr 3 yi)] }) (((), (k.1, (k.2.1, (r, ())))), (k.2.2, ()))))⟩
noncomputable def waij (k : Int × (Int × Y1)) (v : Int) : Tr ((Int) ⊕ (Int)) :=
 .t (decide (v ≤ k.2.1))
 (.g (inR v (List.length k.2.2)) <|
 .g (decide ((Int.toNat v) < List.length k.2.2)) <|
 .g (inR k.1 (List.length k.2.2)) <|
 .g (decide ((Int.toNat k.1) < List.length k.2.2)) <|
 .c (Bool) (wxu (List.getD k.2.2 (Int.toNat v) (0 : Int)) (List.getD k.2.2 (Int.toNat k.1) (0 : Int))) fun r29_ =>
 .t r29_
 (.l (.inl (IntKind.wrap .i64 (v + (1 : Int)))))
 (.l (.inr v)))
 (.l (.inr v))
noncomputable def wbhw (k : Int × (Int × Y1)) (v : Int) : Option (Int) := iter (fun v => (waij k v).ev) v
noncomputable def wqh : LD := ⟨{ acts := [], S := { slots := [0, 1, 10, 11], sh := (.cons (.arr 64) (.cons (.dat yi) (.cons (.dat yi) (.cons (.dat yi) .nil)))), obs := [(64, .arr 3 yi)] } }, [(6, { acts := [], S := { slots := [0, 1, 10, 11], sh := (.cons (.arr 64) (.cons (.dat yi) (.cons (.dat yi) (.cons (.dat yi) .nil)))), obs := [(64, .arr 3 yi)] } })], (yh [] .nil), Int × (Int × Y1), Int, Int, fun k v => (((), (k.1, (v, (k.2.1, ())))), (k.2.2, ())), fun t => (t.1.2.1, (t.1.2.2.2.1, t.2.1)), fun t => t.1.2.2.1, waij, fun k r => .l (.exit 6 (wav ({ slots := [0, 1, 10, 11], sh := (.cons (.arr 64) (.cons (.dat yi) (.cons (.dat yi) (.cons (.dat yi) .nil)))), obs := [(64, .arr 3 yi)] }) (((), (k.1, (r, (k.2.1, ())))), (k.2.2, ()))))⟩
noncomputable def waik (k : Int × (Int × Y1)) (v : Int) : Tr ((Int) ⊕ (Int)) :=
 .t (decide (k.2.1 ≤ v))
 (.g (inR v (List.length k.2.2)) <|
 .g (decide ((Int.toNat v) < List.length k.2.2)) <|
 .g (inR k.1 (List.length k.2.2)) <|
 .g (decide ((Int.toNat k.1) < List.length k.2.2)) <|
 .c (Bool) (wxu (List.getD k.2.2 (Int.toNat v) (0 : Int)) (List.getD k.2.2 (Int.toNat k.1) (0 : Int))) fun r39_ =>
 .t (!r39_)
 (.l (.inl (IntKind.wrap .i64 (v - (1 : Int)))))
 (.l (.inr v)))
 (.l (.inr v))
noncomputable def wbhx (k : Int × (Int × Y1)) (v : Int) : Option (Int) := iter (fun v => (waik k v).ev) v
noncomputable def wqi : LD := ⟨{ acts := [], S := { slots := [0, 1, 10, 11], sh := (.cons (.arr 64) (.cons (.dat yi) (.cons (.dat yi) (.cons (.dat yi) .nil)))), obs := [(64, .arr 3 yi)] } }, [(8, { acts := [], S := { slots := [0, 1, 10, 11], sh := (.cons (.arr 64) (.cons (.dat yi) (.cons (.dat yi) (.cons (.dat yi) .nil)))), obs := [(64, .arr 3 yi)] } })], (yh [] .nil), Int × (Int × Y1), Int, Int, fun k v => (((), (k.1, (k.2.1, (v, ())))), (k.2.2, ())), fun t => (t.1.2.1, (t.1.2.2.1, t.2.1)), fun t => t.1.2.2.2.1, waik, fun k r => .l (.exit 8 (wav ({ slots := [0, 1, 10, 11], sh := (.cons (.arr 64) (.cons (.dat yi) (.cons (.dat yi) (.cons (.dat yi) .nil)))), obs := [(64, .arr 3 yi)] }) (((), (k.1, (k.2.1, (r, ())))), (k.2.2, ()))))⟩
noncomputable def wail (k : Int) (v : Int × (Int × Y1)) : Tr ((Int × (Int × Y1)) ⊕ (Int × Y1)) :=
 .c (Int) (wbhw (k, (v.2.1, v.2.2)) v.1) fun r34_ =>
 .c (Int) (wbhx (k, (r34_, v.2.2)) v.2.1) fun r44_ =>
 .t (decide (r44_ < r34_))
 (.l (.inr (r44_, v.2.2)))
 (.g (inR r44_ (List.length v.2.2)) <|
 .g (decide ((Int.toNat r44_) < List.length v.2.2)) <|
 .g (inR r34_ (List.length v.2.2)) <|
 .g (decide ((Int.toNat r34_) < List.length v.2.2)) <|
 .g (inR r34_ (List.length v.2.2)) <|
 .g (decide ((Int.toNat r34_) < List.length v.2.2)) <|
 .g (inR r44_ (List.length (List.set v.2.2 (Int.toNat r34_) (List.getD v.2.2 (Int.toNat r44_) (0 : Int))))) <|
 .g (decide ((Int.toNat r44_) < List.length (List.set v.2.2 (Int.toNat r34_) (List.getD v.2.2 (Int.toNat r44_) (0 : Int))))) <|
 .l (.inl ((IntKind.wrap .i64 (r34_ + (1 : Int))), ((IntKind.wrap .i64 (r44_ - (1 : Int))), (List.set (List.set v.2.2 (Int.toNat r34_) (List.getD v.2.2 (Int.toNat r44_) (0 : Int))) (Int.toNat r44_) (List.getD v.2.2 (Int.toNat r34_) (0 : Int)))))))
noncomputable def wbhy (k : Int) (v : Int × (Int × Y1)) : Option (Int × Y1) := iter (fun v => (wail k v).ev) v
noncomputable def wqj : LD := ⟨{ acts := [], S := { slots := [0, 1, 10, 11], sh := (.cons (.arr 64) (.cons (.dat yi) (.cons (.dat yi) (.cons (.dat yi) .nil)))), obs := [(64, .arr 3 yi)] } }, [(4, { acts := [], S := { slots := [0, 1, 11], sh := (.cons (.arr 64) (.cons (.dat yi) (.cons (.dat yi) .nil))), obs := [(64, .arr 3 yi)] } })], (yh [] .nil), Int, Int × (Int × Y1), Int × Y1, fun k v => (((), (k, (v.1, (v.2.1, ())))), (v.2.2, ())), fun t => t.1.2.1, fun t => (t.1.2.2.1, (t.1.2.2.2.1, t.2.1)), wail, fun k r => .l (.exit 4 (wav ({ slots := [0, 1, 11], sh := (.cons (.arr 64) (.cons (.dat yi) (.cons (.dat yi) .nil))), obs := [(64, .arr 3 yi)] }) (((), (k, (r.1, ()))), (r.2, ()))))⟩
noncomputable def wbhz (a2_ : Int) (a3_ : Int) (a4_ : Int) (a1_ : Y1) : Tr (Int × (Bool × Y1)) :=
 .g (inR a4_ (List.length a1_)) <|
 .g (decide ((Int.toNat a4_) < List.length a1_)) <|
 .g (inR a2_ (List.length a1_)) <|
 .g (decide ((Int.toNat a2_) < List.length a1_)) <|
 .g (inR a2_ (List.length a1_)) <|
 .g (decide ((Int.toNat a2_) < List.length a1_)) <|
 .g (inR a4_ (List.length (List.set a1_ (Int.toNat a2_) (List.getD a1_ (Int.toNat a4_) (0 : Int))))) <|
 .g (decide ((Int.toNat a4_) < List.length (List.set a1_ (Int.toNat a2_) (List.getD a1_ (Int.toNat a4_) (0 : Int))))) <|
 .c (Int) (wbhu (a2_, ((IntKind.wrap .i64 (a3_ - (1 : Int))), (List.set (List.set a1_ (Int.toNat a2_) (List.getD a1_ (Int.toNat a4_) (0 : Int))) (Int.toNat a4_) (List.getD a1_ (Int.toNat a2_) (0 : Int))))) (IntKind.wrap .i64 (a2_ + (1 : Int)))) fun r10_ =>
 .c (Int) (wbhv (a2_, (r10_, (List.set (List.set a1_ (Int.toNat a2_) (List.getD a1_ (Int.toNat a4_) (0 : Int))) (Int.toNat a4_) (List.getD a1_ (Int.toNat a2_) (0 : Int))))) (IntKind.wrap .i64 (a3_ - (1 : Int)))) fun r20_ =>
 .t (decide (r20_ < r10_))
 (.g (inR a2_ (List.length (List.set (List.set a1_ (Int.toNat a2_) (List.getD a1_ (Int.toNat a4_) (0 : Int))) (Int.toNat a4_) (List.getD a1_ (Int.toNat a2_) (0 : Int))))) <|
 .g (decide ((Int.toNat a2_) < List.length (List.set (List.set a1_ (Int.toNat a2_) (List.getD a1_ (Int.toNat a4_) (0 : Int))) (Int.toNat a4_) (List.getD a1_ (Int.toNat a2_) (0 : Int))))) <|
 .g (inR r20_ (List.length (List.set (List.set a1_ (Int.toNat a2_) (List.getD a1_ (Int.toNat a4_) (0 : Int))) (Int.toNat a4_) (List.getD a1_ (Int.toNat a2_) (0 : Int))))) <|
 .g (decide ((Int.toNat r20_) < List.length (List.set (List.set a1_ (Int.toNat a2_) (List.getD a1_ (Int.toNat a4_) (0 : Int))) (Int.toNat a4_) (List.getD a1_ (Int.toNat a2_) (0 : Int))))) <|
 .g (inR r20_ (List.length (List.set (List.set a1_ (Int.toNat a2_) (List.getD a1_ (Int.toNat a4_) (0 : Int))) (Int.toNat a4_) (List.getD a1_ (Int.toNat a2_) (0 : Int))))) <|
 .g (decide ((Int.toNat r20_) < List.length (List.set (List.set a1_ (Int.toNat a2_) (List.getD a1_ (Int.toNat a4_) (0 : Int))) (Int.toNat a4_) (List.getD a1_ (Int.toNat a2_) (0 : Int))))) <|
 .g (inR a2_ (List.length (List.set (List.set (List.set a1_ (Int.toNat a2_) (List.getD a1_ (Int.toNat a4_) (0 : Int))) (Int.toNat a4_) (List.getD a1_ (Int.toNat a2_) (0 : Int))) (Int.toNat r20_) (List.getD (List.set (List.set a1_ (Int.toNat a2_) (List.getD a1_ (Int.toNat a4_) (0 : Int))) (Int.toNat a4_) (List.getD a1_ (Int.toNat a2_) (0 : Int))) (Int.toNat a2_) (0 : Int))))) <|
 .g (decide ((Int.toNat a2_) < List.length (List.set (List.set (List.set a1_ (Int.toNat a2_) (List.getD a1_ (Int.toNat a4_) (0 : Int))) (Int.toNat a4_) (List.getD a1_ (Int.toNat a2_) (0 : Int))) (Int.toNat r20_) (List.getD (List.set (List.set a1_ (Int.toNat a2_) (List.getD a1_ (Int.toNat a4_) (0 : Int))) (Int.toNat a4_) (List.getD a1_ (Int.toNat a2_) (0 : Int))) (Int.toNat a2_) (0 : Int))))) <|
 .l (r20_, (true, (List.set (List.set (List.set (List.set a1_ (Int.toNat a2_) (List.getD a1_ (Int.toNat a4_) (0 : Int))) (Int.toNat a4_) (List.getD a1_ (Int.toNat a2_) (0 : Int))) (Int.toNat r20_) (List.getD (List.set (List.set a1_ (Int.toNat a2_) (List.getD a1_ (Int.toNat a4_) (0 : Int))) (Int.toNat a4_) (List.getD a1_ (Int.toNat a2_) (0 : Int))) (Int.toNat a2_) (0 : Int))) (Int.toNat a2_) (List.getD (List.set (List.set a1_ (Int.toNat a2_) (List.getD a1_ (Int.toNat a4_) (0 : Int))) (Int.toNat a4_) (List.getD a1_ (Int.toNat a2_) (0 : Int))) (Int.toNat r20_) (0 : Int))))))
 (.g (inR r20_ (List.length (List.set (List.set a1_ (Int.toNat a2_) (List.getD a1_ (Int.toNat a4_) (0 : Int))) (Int.toNat a4_) (List.getD a1_ (Int.toNat a2_) (0 : Int))))) <|
 .g (decide ((Int.toNat r20_) < List.length (List.set (List.set a1_ (Int.toNat a2_) (List.getD a1_ (Int.toNat a4_) (0 : Int))) (Int.toNat a4_) (List.getD a1_ (Int.toNat a2_) (0 : Int))))) <|
 .g (inR r10_ (List.length (List.set (List.set a1_ (Int.toNat a2_) (List.getD a1_ (Int.toNat a4_) (0 : Int))) (Int.toNat a4_) (List.getD a1_ (Int.toNat a2_) (0 : Int))))) <|
 .g (decide ((Int.toNat r10_) < List.length (List.set (List.set a1_ (Int.toNat a2_) (List.getD a1_ (Int.toNat a4_) (0 : Int))) (Int.toNat a4_) (List.getD a1_ (Int.toNat a2_) (0 : Int))))) <|
 .g (inR r10_ (List.length (List.set (List.set a1_ (Int.toNat a2_) (List.getD a1_ (Int.toNat a4_) (0 : Int))) (Int.toNat a4_) (List.getD a1_ (Int.toNat a2_) (0 : Int))))) <|
 .g (decide ((Int.toNat r10_) < List.length (List.set (List.set a1_ (Int.toNat a2_) (List.getD a1_ (Int.toNat a4_) (0 : Int))) (Int.toNat a4_) (List.getD a1_ (Int.toNat a2_) (0 : Int))))) <|
 .g (inR r20_ (List.length (List.set (List.set (List.set a1_ (Int.toNat a2_) (List.getD a1_ (Int.toNat a4_) (0 : Int))) (Int.toNat a4_) (List.getD a1_ (Int.toNat a2_) (0 : Int))) (Int.toNat r10_) (List.getD (List.set (List.set a1_ (Int.toNat a2_) (List.getD a1_ (Int.toNat a4_) (0 : Int))) (Int.toNat a4_) (List.getD a1_ (Int.toNat a2_) (0 : Int))) (Int.toNat r20_) (0 : Int))))) <|
 .g (decide ((Int.toNat r20_) < List.length (List.set (List.set (List.set a1_ (Int.toNat a2_) (List.getD a1_ (Int.toNat a4_) (0 : Int))) (Int.toNat a4_) (List.getD a1_ (Int.toNat a2_) (0 : Int))) (Int.toNat r10_) (List.getD (List.set (List.set a1_ (Int.toNat a2_) (List.getD a1_ (Int.toNat a4_) (0 : Int))) (Int.toNat a4_) (List.getD a1_ (Int.toNat a2_) (0 : Int))) (Int.toNat r20_) (0 : Int))))) <|
 .c (Int × Y1) (wbhy a2_ ((IntKind.wrap .i64 (r10_ + (1 : Int))), ((IntKind.wrap .i64 (r20_ - (1 : Int))), (List.set (List.set (List.set (List.set a1_ (Int.toNat a2_) (List.getD a1_ (Int.toNat a4_) (0 : Int))) (Int.toNat a4_) (List.getD a1_ (Int.toNat a2_) (0 : Int))) (Int.toNat r10_) (List.getD (List.set (List.set a1_ (Int.toNat a2_) (List.getD a1_ (Int.toNat a4_) (0 : Int))) (Int.toNat a4_) (List.getD a1_ (Int.toNat a2_) (0 : Int))) (Int.toNat r20_) (0 : Int))) (Int.toNat r20_) (List.getD (List.set (List.set a1_ (Int.toNat a2_) (List.getD a1_ (Int.toNat a4_) (0 : Int))) (Int.toNat a4_) (List.getD a1_ (Int.toNat a2_) (0 : Int))) (Int.toNat r10_) (0 : Int)))))) fun r48_ =>
 .g (inR a2_ (List.length r48_.2)) <|
 .g (decide ((Int.toNat a2_) < List.length r48_.2)) <|
 .g (inR r48_.1 (List.length r48_.2)) <|
 .g (decide ((Int.toNat r48_.1) < List.length r48_.2)) <|
 .g (inR r48_.1 (List.length r48_.2)) <|
 .g (decide ((Int.toNat r48_.1) < List.length r48_.2)) <|
 .g (inR a2_ (List.length (List.set r48_.2 (Int.toNat r48_.1) (List.getD r48_.2 (Int.toNat a2_) (0 : Int))))) <|
 .g (decide ((Int.toNat a2_) < List.length (List.set r48_.2 (Int.toNat r48_.1) (List.getD r48_.2 (Int.toNat a2_) (0 : Int))))) <|
 .l (r48_.1, (false, (List.set (List.set r48_.2 (Int.toNat r48_.1) (List.getD r48_.2 (Int.toNat a2_) (0 : Int))) (Int.toNat a2_) (List.getD r48_.2 (Int.toNat r48_.1) (0 : Int))))))
noncomputable def wil (a2_ : Int) (a3_ : Int) (a4_ : Int) (a1_ : Y1) : Option (Int × (Bool × Y1)) := (wbhz a2_ a3_ a4_ a1_).ev
noncomputable def wbrc : Sh := (.cons (.arr 64) (.cons (.dat yi) (.cons (.dat yi) (.cons (.dat yi) .nil))))
noncomputable def wbrd : List (Nat × OSh) := [(64, .arr 3 yi)]
noncomputable def K_zbk : RetK := { acts := [], res := [.tmp 8, .tmp 9], sh := (.cons (.dat yi) (.cons (.dat .bool) .nil)), obs := [(64, .arr 3 yi)], pins := [(0, 0, 64)] }
noncomputable def D_zbk : FD := ⟨wbrc, wbrd, [.arg 0], Int × (Bool × Y1), fun x => wil x.1.2.1 x.1.2.2.1 x.1.2.2.2.1 x.2.1, fun r => ([.dat yi r.1, .dat .bool r.2.1], [(64, .arr 3 yi r.2.2)])⟩
noncomputable def wvd : Env := wae [(208, D_zb)]
noncomputable def wve : Nat → Nat → List Nat := fun _ _ => []
noncomputable def wvf : List (Nat × LD) := [(0, wqf), (2, wqg), (6, wqh), (8, wqi), (4, wqj)]
noncomputable def wqk : Code := (f210.body).getD .skip
noncomputable def wql (rec_ : (Int) → (Int) → (Int) → Y1 → Option Y1) (_k : Unit) (v : Int × (Int × (Int × (Bool × (Bool × Y1))))) : Tr ((Int × (Int × (Int × (Bool × (Bool × Y1))))) ⊕ Y1) :=
 .t (decide ((IntKind.wrap .i64 (v.2.1 - v.1)) ≤ (12 : Int)))
 (.c Y1 (wahx v.1 v.2.1 v.2.2.2.2.2) fun r7_ =>
 .l (.inr r7_))
 (.t (v.2.2.1 == (0 : Int))
 (.f)
 (.t (!v.2.2.2.1)
 (.c Y1 (wbqr v.1 v.2.1 v.2.2.2.2.2) fun r8_ =>
 .c (Int × Int) (wbhp r8_ v.1 v.2.1) fun r9_ =>
 .t (r9_.2 == (2 : Int))
 (.f)
 (.t v.2.2.2.1
 (.t v.2.2.2.2.1
 (.t (r9_.2 == (1 : Int))
 (.f)
 (.t (decide ((0 : Int) < v.1))
 (.g (inR (IntKind.wrap .i64 (v.1 - (1 : Int))) (List.length r8_)) <|
 .g (decide ((Int.toNat (IntKind.wrap .i64 (v.1 - (1 : Int)))) < List.length r8_)) <|
 .g (inR r9_.1 (List.length r8_)) <|
 .g (decide ((Int.toNat r9_.1) < List.length r8_)) <|
 .c (Bool) (wxu (List.getD r8_ (Int.toNat (IntKind.wrap .i64 (v.1 - (1 : Int)))) (0 : Int)) (List.getD r8_ (Int.toNat r9_.1) (0 : Int))) fun r10_ =>
 .t (!r10_)
 (.f)
 (.c (Int × (Bool × Y1)) (wil v.1 v.2.1 r9_.1 r8_) fun r11_ =>
 .g (!decide ((8 : Int) = 0)) <|
 .t (decide ((IntKind.wrap .i64 (r11_.1 - v.1)) < (IntKind.wrap .i64 (v.2.1 - r11_.1))))
 (.c Y1 (rec_ v.1 r11_.1 (IntKind.wrap .i64 (v.2.2.1 - (1 : Int))) r11_.2.2) fun r12_ =>
 .l (.inl ((IntKind.wrap .i64 (r11_.1 + (1 : Int))), (v.2.1, ((IntKind.wrap .i64 (v.2.2.1 - (1 : Int))), ((decide ((IntKind.wrap .i64 (Int.tdiv (IntKind.wrap .i64 (v.2.1 - v.1)) (8 : Int))) ≤ (IntKind.wrap .i64 (r11_.1 - v.1)))), (r11_.2.1, r12_)))))))
 (.c Y1 (rec_ (IntKind.wrap .i64 (r11_.1 + (1 : Int))) v.2.1 (IntKind.wrap .i64 (v.2.2.1 - (1 : Int))) r11_.2.2) fun r13_ =>
 .l (.inl (v.1, (r11_.1, ((IntKind.wrap .i64 (v.2.2.1 - (1 : Int))), ((decide ((IntKind.wrap .i64 (Int.tdiv (IntKind.wrap .i64 (v.2.1 - v.1)) (8 : Int))) ≤ (IntKind.wrap .i64 (v.2.1 - r11_.1)))), (r11_.2.1, r13_)))))))))
 (.c (Int × (Bool × Y1)) (wil v.1 v.2.1 r9_.1 r8_) fun r14_ =>
 .g (!decide ((8 : Int) = 0)) <|
 .t (decide ((IntKind.wrap .i64 (r14_.1 - v.1)) < (IntKind.wrap .i64 (v.2.1 - r14_.1))))
 (.c Y1 (rec_ v.1 r14_.1 (IntKind.wrap .i64 (v.2.2.1 - (1 : Int))) r14_.2.2) fun r15_ =>
 .l (.inl ((IntKind.wrap .i64 (r14_.1 + (1 : Int))), (v.2.1, ((IntKind.wrap .i64 (v.2.2.1 - (1 : Int))), ((decide ((IntKind.wrap .i64 (Int.tdiv (IntKind.wrap .i64 (v.2.1 - v.1)) (8 : Int))) ≤ (IntKind.wrap .i64 (r14_.1 - v.1)))), (r14_.2.1, r15_)))))))
 (.c Y1 (rec_ (IntKind.wrap .i64 (r14_.1 + (1 : Int))) v.2.1 (IntKind.wrap .i64 (v.2.2.1 - (1 : Int))) r14_.2.2) fun r16_ =>
 .l (.inl (v.1, (r14_.1, ((IntKind.wrap .i64 (v.2.2.1 - (1 : Int))), ((decide ((IntKind.wrap .i64 (Int.tdiv (IntKind.wrap .i64 (v.2.1 - v.1)) (8 : Int))) ≤ (IntKind.wrap .i64 (v.2.1 - r14_.1)))), (r14_.2.1, r16_))))))))))
 (.t (decide ((0 : Int) < v.1))
 (.g (inR (IntKind.wrap .i64 (v.1 - (1 : Int))) (List.length r8_)) <|
 .g (decide ((Int.toNat (IntKind.wrap .i64 (v.1 - (1 : Int)))) < List.length r8_)) <|
 .g (inR r9_.1 (List.length r8_)) <|
 .g (decide ((Int.toNat r9_.1) < List.length r8_)) <|
 .c (Bool) (wxu (List.getD r8_ (Int.toNat (IntKind.wrap .i64 (v.1 - (1 : Int)))) (0 : Int)) (List.getD r8_ (Int.toNat r9_.1) (0 : Int))) fun r17_ =>
 .t (!r17_)
 (.f)
 (.c (Int × (Bool × Y1)) (wil v.1 v.2.1 r9_.1 r8_) fun r18_ =>
 .g (!decide ((8 : Int) = 0)) <|
 .t (decide ((IntKind.wrap .i64 (r18_.1 - v.1)) < (IntKind.wrap .i64 (v.2.1 - r18_.1))))
 (.c Y1 (rec_ v.1 r18_.1 (IntKind.wrap .i64 (v.2.2.1 - (1 : Int))) r18_.2.2) fun r19_ =>
 .l (.inl ((IntKind.wrap .i64 (r18_.1 + (1 : Int))), (v.2.1, ((IntKind.wrap .i64 (v.2.2.1 - (1 : Int))), ((decide ((IntKind.wrap .i64 (Int.tdiv (IntKind.wrap .i64 (v.2.1 - v.1)) (8 : Int))) ≤ (IntKind.wrap .i64 (r18_.1 - v.1)))), (r18_.2.1, r19_)))))))
 (.c Y1 (rec_ (IntKind.wrap .i64 (r18_.1 + (1 : Int))) v.2.1 (IntKind.wrap .i64 (v.2.2.1 - (1 : Int))) r18_.2.2) fun r20_ =>
 .l (.inl (v.1, (r18_.1, ((IntKind.wrap .i64 (v.2.2.1 - (1 : Int))), ((decide ((IntKind.wrap .i64 (Int.tdiv (IntKind.wrap .i64 (v.2.1 - v.1)) (8 : Int))) ≤ (IntKind.wrap .i64 (v.2.1 - r18_.1)))), (r18_.2.1, r20_)))))))))
 (.c (Int × (Bool × Y1)) (wil v.1 v.2.1 r9_.1 r8_) fun r21_ =>
 .g (!decide ((8 : Int) = 0)) <|
 .t (decide ((IntKind.wrap .i64 (r21_.1 - v.1)) < (IntKind.wrap .i64 (v.2.1 - r21_.1))))
 (.c Y1 (rec_ v.1 r21_.1 (IntKind.wrap .i64 (v.2.2.1 - (1 : Int))) r21_.2.2) fun r22_ =>
 .l (.inl ((IntKind.wrap .i64 (r21_.1 + (1 : Int))), (v.2.1, ((IntKind.wrap .i64 (v.2.2.1 - (1 : Int))), ((decide ((IntKind.wrap .i64 (Int.tdiv (IntKind.wrap .i64 (v.2.1 - v.1)) (8 : Int))) ≤ (IntKind.wrap .i64 (r21_.1 - v.1)))), (r21_.2.1, r22_)))))))
 (.c Y1 (rec_ (IntKind.wrap .i64 (r21_.1 + (1 : Int))) v.2.1 (IntKind.wrap .i64 (v.2.2.1 - (1 : Int))) r21_.2.2) fun r23_ =>
 .l (.inl (v.1, (r21_.1, ((IntKind.wrap .i64 (v.2.2.1 - (1 : Int))), ((decide ((IntKind.wrap .i64 (Int.tdiv (IntKind.wrap .i64 (v.2.1 - v.1)) (8 : Int))) ≤ (IntKind.wrap .i64 (v.2.1 - r21_.1)))), (r21_.2.1, r23_))))))))))
 (.t (decide ((0 : Int) < v.1))
 (.g (inR (IntKind.wrap .i64 (v.1 - (1 : Int))) (List.length r8_)) <|
 .g (decide ((Int.toNat (IntKind.wrap .i64 (v.1 - (1 : Int)))) < List.length r8_)) <|
 .g (inR r9_.1 (List.length r8_)) <|
 .g (decide ((Int.toNat r9_.1) < List.length r8_)) <|
 .c (Bool) (wxu (List.getD r8_ (Int.toNat (IntKind.wrap .i64 (v.1 - (1 : Int)))) (0 : Int)) (List.getD r8_ (Int.toNat r9_.1) (0 : Int))) fun r24_ =>
 .t (!r24_)
 (.f)
 (.c (Int × (Bool × Y1)) (wil v.1 v.2.1 r9_.1 r8_) fun r25_ =>
 .g (!decide ((8 : Int) = 0)) <|
 .t (decide ((IntKind.wrap .i64 (r25_.1 - v.1)) < (IntKind.wrap .i64 (v.2.1 - r25_.1))))
 (.c Y1 (rec_ v.1 r25_.1 (IntKind.wrap .i64 (v.2.2.1 - (1 : Int))) r25_.2.2) fun r26_ =>
 .l (.inl ((IntKind.wrap .i64 (r25_.1 + (1 : Int))), (v.2.1, ((IntKind.wrap .i64 (v.2.2.1 - (1 : Int))), ((decide ((IntKind.wrap .i64 (Int.tdiv (IntKind.wrap .i64 (v.2.1 - v.1)) (8 : Int))) ≤ (IntKind.wrap .i64 (r25_.1 - v.1)))), (r25_.2.1, r26_)))))))
 (.c Y1 (rec_ (IntKind.wrap .i64 (r25_.1 + (1 : Int))) v.2.1 (IntKind.wrap .i64 (v.2.2.1 - (1 : Int))) r25_.2.2) fun r27_ =>
 .l (.inl (v.1, (r25_.1, ((IntKind.wrap .i64 (v.2.2.1 - (1 : Int))), ((decide ((IntKind.wrap .i64 (Int.tdiv (IntKind.wrap .i64 (v.2.1 - v.1)) (8 : Int))) ≤ (IntKind.wrap .i64 (v.2.1 - r25_.1)))), (r25_.2.1, r27_)))))))))
 (.c (Int × (Bool × Y1)) (wil v.1 v.2.1 r9_.1 r8_) fun r28_ =>
 .g (!decide ((8 : Int) = 0)) <|
 .t (decide ((IntKind.wrap .i64 (r28_.1 - v.1)) < (IntKind.wrap .i64 (v.2.1 - r28_.1))))
 (.c Y1 (rec_ v.1 r28_.1 (IntKind.wrap .i64 (v.2.2.1 - (1 : Int))) r28_.2.2) fun r29_ =>
 .l (.inl ((IntKind.wrap .i64 (r28_.1 + (1 : Int))), (v.2.1, ((IntKind.wrap .i64 (v.2.2.1 - (1 : Int))), ((decide ((IntKind.wrap .i64 (Int.tdiv (IntKind.wrap .i64 (v.2.1 - v.1)) (8 : Int))) ≤ (IntKind.wrap .i64 (r28_.1 - v.1)))), (r28_.2.1, r29_)))))))
 (.c Y1 (rec_ (IntKind.wrap .i64 (r28_.1 + (1 : Int))) v.2.1 (IntKind.wrap .i64 (v.2.2.1 - (1 : Int))) r28_.2.2) fun r30_ =>
 .l (.inl (v.1, (r28_.1, ((IntKind.wrap .i64 (v.2.2.1 - (1 : Int))), ((decide ((IntKind.wrap .i64 (Int.tdiv (IntKind.wrap .i64 (v.2.1 - v.1)) (8 : Int))) ≤ (IntKind.wrap .i64 (v.2.1 - r28_.1)))), (r28_.2.1, r30_)))))))))))
 (.c (Int × Int) (wbhp v.2.2.2.2.2 v.1 v.2.1) fun r31_ =>
 .t (r31_.2 == (2 : Int))
 (.f)
 (.t v.2.2.2.1
 (.t v.2.2.2.2.1
 (.t (r31_.2 == (1 : Int))
 (.f)
 (.t (decide ((0 : Int) < v.1))
 (.g (inR (IntKind.wrap .i64 (v.1 - (1 : Int))) (List.length v.2.2.2.2.2)) <|
 .g (decide ((Int.toNat (IntKind.wrap .i64 (v.1 - (1 : Int)))) < List.length v.2.2.2.2.2)) <|
 .g (inR r31_.1 (List.length v.2.2.2.2.2)) <|
 .g (decide ((Int.toNat r31_.1) < List.length v.2.2.2.2.2)) <|
 .c (Bool) (wxu (List.getD v.2.2.2.2.2 (Int.toNat (IntKind.wrap .i64 (v.1 - (1 : Int)))) (0 : Int)) (List.getD v.2.2.2.2.2 (Int.toNat r31_.1) (0 : Int))) fun r32_ =>
 .t (!r32_)
 (.f)
 (.c (Int × (Bool × Y1)) (wil v.1 v.2.1 r31_.1 v.2.2.2.2.2) fun r33_ =>
 .g (!decide ((8 : Int) = 0)) <|
 .t (decide ((IntKind.wrap .i64 (r33_.1 - v.1)) < (IntKind.wrap .i64 (v.2.1 - r33_.1))))
 (.c Y1 (rec_ v.1 r33_.1 v.2.2.1 r33_.2.2) fun r34_ =>
 .l (.inl ((IntKind.wrap .i64 (r33_.1 + (1 : Int))), (v.2.1, (v.2.2.1, ((decide ((IntKind.wrap .i64 (Int.tdiv (IntKind.wrap .i64 (v.2.1 - v.1)) (8 : Int))) ≤ (IntKind.wrap .i64 (r33_.1 - v.1)))), (r33_.2.1, r34_)))))))
 (.c Y1 (rec_ (IntKind.wrap .i64 (r33_.1 + (1 : Int))) v.2.1 v.2.2.1 r33_.2.2) fun r35_ =>
 .l (.inl (v.1, (r33_.1, (v.2.2.1, ((decide ((IntKind.wrap .i64 (Int.tdiv (IntKind.wrap .i64 (v.2.1 - v.1)) (8 : Int))) ≤ (IntKind.wrap .i64 (v.2.1 - r33_.1)))), (r33_.2.1, r35_)))))))))
 (.c (Int × (Bool × Y1)) (wil v.1 v.2.1 r31_.1 v.2.2.2.2.2) fun r36_ =>
 .g (!decide ((8 : Int) = 0)) <|
 .t (decide ((IntKind.wrap .i64 (r36_.1 - v.1)) < (IntKind.wrap .i64 (v.2.1 - r36_.1))))
 (.c Y1 (rec_ v.1 r36_.1 v.2.2.1 r36_.2.2) fun r37_ =>
 .l (.inl ((IntKind.wrap .i64 (r36_.1 + (1 : Int))), (v.2.1, (v.2.2.1, ((decide ((IntKind.wrap .i64 (Int.tdiv (IntKind.wrap .i64 (v.2.1 - v.1)) (8 : Int))) ≤ (IntKind.wrap .i64 (r36_.1 - v.1)))), (r36_.2.1, r37_)))))))
 (.c Y1 (rec_ (IntKind.wrap .i64 (r36_.1 + (1 : Int))) v.2.1 v.2.2.1 r36_.2.2) fun r38_ =>
 .l (.inl (v.1, (r36_.1, (v.2.2.1, ((decide ((IntKind.wrap .i64 (Int.tdiv (IntKind.wrap .i64 (v.2.1 - v.1)) (8 : Int))) ≤ (IntKind.wrap .i64 (v.2.1 - r36_.1)))), (r36_.2.1, r38_))))))))))
 (.t (decide ((0 : Int) < v.1))
 (.g (inR (IntKind.wrap .i64 (v.1 - (1 : Int))) (List.length v.2.2.2.2.2)) <|
 .g (decide ((Int.toNat (IntKind.wrap .i64 (v.1 - (1 : Int)))) < List.length v.2.2.2.2.2)) <|
 .g (inR r31_.1 (List.length v.2.2.2.2.2)) <|
 .g (decide ((Int.toNat r31_.1) < List.length v.2.2.2.2.2)) <|
 .c (Bool) (wxu (List.getD v.2.2.2.2.2 (Int.toNat (IntKind.wrap .i64 (v.1 - (1 : Int)))) (0 : Int)) (List.getD v.2.2.2.2.2 (Int.toNat r31_.1) (0 : Int))) fun r39_ =>
 .t (!r39_)
 (.f)
 (.c (Int × (Bool × Y1)) (wil v.1 v.2.1 r31_.1 v.2.2.2.2.2) fun r40_ =>
 .g (!decide ((8 : Int) = 0)) <|
 .t (decide ((IntKind.wrap .i64 (r40_.1 - v.1)) < (IntKind.wrap .i64 (v.2.1 - r40_.1))))
 (.c Y1 (rec_ v.1 r40_.1 v.2.2.1 r40_.2.2) fun r41_ =>
 .l (.inl ((IntKind.wrap .i64 (r40_.1 + (1 : Int))), (v.2.1, (v.2.2.1, ((decide ((IntKind.wrap .i64 (Int.tdiv (IntKind.wrap .i64 (v.2.1 - v.1)) (8 : Int))) ≤ (IntKind.wrap .i64 (r40_.1 - v.1)))), (r40_.2.1, r41_)))))))
 (.c Y1 (rec_ (IntKind.wrap .i64 (r40_.1 + (1 : Int))) v.2.1 v.2.2.1 r40_.2.2) fun r42_ =>
 .l (.inl (v.1, (r40_.1, (v.2.2.1, ((decide ((IntKind.wrap .i64 (Int.tdiv (IntKind.wrap .i64 (v.2.1 - v.1)) (8 : Int))) ≤ (IntKind.wrap .i64 (v.2.1 - r40_.1)))), (r40_.2.1, r42_)))))))))
 (.c (Int × (Bool × Y1)) (wil v.1 v.2.1 r31_.1 v.2.2.2.2.2) fun r43_ =>
 .g (!decide ((8 : Int) = 0)) <|
 .t (decide ((IntKind.wrap .i64 (r43_.1 - v.1)) < (IntKind.wrap .i64 (v.2.1 - r43_.1))))
 (.c Y1 (rec_ v.1 r43_.1 v.2.2.1 r43_.2.2) fun r44_ =>
 .l (.inl ((IntKind.wrap .i64 (r43_.1 + (1 : Int))), (v.2.1, (v.2.2.1, ((decide ((IntKind.wrap .i64 (Int.tdiv (IntKind.wrap .i64 (v.2.1 - v.1)) (8 : Int))) ≤ (IntKind.wrap .i64 (r43_.1 - v.1)))), (r43_.2.1, r44_)))))))
 (.c Y1 (rec_ (IntKind.wrap .i64 (r43_.1 + (1 : Int))) v.2.1 v.2.2.1 r43_.2.2) fun r45_ =>
 .l (.inl (v.1, (r43_.1, (v.2.2.1, ((decide ((IntKind.wrap .i64 (Int.tdiv (IntKind.wrap .i64 (v.2.1 - v.1)) (8 : Int))) ≤ (IntKind.wrap .i64 (v.2.1 - r43_.1)))), (r43_.2.1, r45_))))))))))
 (.t (decide ((0 : Int) < v.1))
 (.g (inR (IntKind.wrap .i64 (v.1 - (1 : Int))) (List.length v.2.2.2.2.2)) <|
 .g (decide ((Int.toNat (IntKind.wrap .i64 (v.1 - (1 : Int)))) < List.length v.2.2.2.2.2)) <|
 .g (inR r31_.1 (List.length v.2.2.2.2.2)) <|
 .g (decide ((Int.toNat r31_.1) < List.length v.2.2.2.2.2)) <|
 .c (Bool) (wxu (List.getD v.2.2.2.2.2 (Int.toNat (IntKind.wrap .i64 (v.1 - (1 : Int)))) (0 : Int)) (List.getD v.2.2.2.2.2 (Int.toNat r31_.1) (0 : Int))) fun r46_ =>
 .t (!r46_)
 (.f)
 (.c (Int × (Bool × Y1)) (wil v.1 v.2.1 r31_.1 v.2.2.2.2.2) fun r47_ =>
 .g (!decide ((8 : Int) = 0)) <|
 .t (decide ((IntKind.wrap .i64 (r47_.1 - v.1)) < (IntKind.wrap .i64 (v.2.1 - r47_.1))))
 (.c Y1 (rec_ v.1 r47_.1 v.2.2.1 r47_.2.2) fun r48_ =>
 .l (.inl ((IntKind.wrap .i64 (r47_.1 + (1 : Int))), (v.2.1, (v.2.2.1, ((decide ((IntKind.wrap .i64 (Int.tdiv (IntKind.wrap .i64 (v.2.1 - v.1)) (8 : Int))) ≤ (IntKind.wrap .i64 (r47_.1 - v.1)))), (r47_.2.1, r48_)))))))
 (.c Y1 (rec_ (IntKind.wrap .i64 (r47_.1 + (1 : Int))) v.2.1 v.2.2.1 r47_.2.2) fun r49_ =>
 .l (.inl (v.1, (r47_.1, (v.2.2.1, ((decide ((IntKind.wrap .i64 (Int.tdiv (IntKind.wrap .i64 (v.2.1 - v.1)) (8 : Int))) ≤ (IntKind.wrap .i64 (v.2.1 - r47_.1)))), (r47_.2.1, r49_)))))))))
 (.c (Int × (Bool × Y1)) (wil v.1 v.2.1 r31_.1 v.2.2.2.2.2) fun r50_ =>
 .g (!decide ((8 : Int) = 0)) <|
 .t (decide ((IntKind.wrap .i64 (r50_.1 - v.1)) < (IntKind.wrap .i64 (v.2.1 - r50_.1))))
 (.c Y1 (rec_ v.1 r50_.1 v.2.2.1 r50_.2.2) fun r51_ =>
 .l (.inl ((IntKind.wrap .i64 (r50_.1 + (1 : Int))), (v.2.1, (v.2.2.1, ((decide ((IntKind.wrap .i64 (Int.tdiv (IntKind.wrap .i64 (v.2.1 - v.1)) (8 : Int))) ≤ (IntKind.wrap .i64 (r50_.1 - v.1)))), (r50_.2.1, r51_)))))))
 (.c Y1 (rec_ (IntKind.wrap .i64 (r50_.1 + (1 : Int))) v.2.1 v.2.2.1 r50_.2.2) fun r52_ =>
 .l (.inl (v.1, (r50_.1, (v.2.2.1, ((decide ((IntKind.wrap .i64 (Int.tdiv (IntKind.wrap .i64 (v.2.1 - v.1)) (8 : Int))) ≤ (IntKind.wrap .i64 (v.2.1 - r50_.1)))), (r50_.2.1, r52_)))))))))))))
noncomputable def wxv (rec_ : (Int) → (Int) → (Int) → Y1 → Option Y1) (k : Unit) (v : Int × (Int × (Int × (Bool × (Bool × Y1))))) : Option Y1 := iter (fun v => (wql rec_ k v).ev) v
noncomputable def wqm (rec_ : (Int) → (Int) → (Int) → Y1 → Option Y1) : LD where
 head := { acts := [], S := { slots := [0, 1, 2, 3, 8, 9], sh := (.cons (.arr 64) (.cons (.dat yi) (.cons (.dat yi) (.cons (.dat yi) (.cons (.dat .bool) (.cons (.dat .bool) .nil)))))), obs := [(64, .arr 3 yi)] } }
 exits := []
 rets := { acts := [], S := { slots := [0], sh := (.cons (.arr 64) .nil), obs := [(64, .arr 3 yi)] } }
 K := Unit
 V := Int × (Int × (Int × (Bool × (Bool × Y1))))
 R := Y1
 join := fun _ v => (((), (v.1, (v.2.1, (v.2.2.1, (v.2.2.2.1, (v.2.2.2.2.1, ())))))), (v.2.2.2.2.2, ()))
 sk := fun _ => ()
 sv := fun t => (t.1.2.1, (t.1.2.2.1, (t.1.2.2.2.1, (t.1.2.2.2.2.1, (t.1.2.2.2.2.2.1, t.2.1)))))
 step := wql rec_
 leaf := fun _ r => .l (.ret (wav ({ slots := [0], sh := (.cons (.arr 64) .nil), obs := [(64, .arr 3 yi)] }) (((), ()), (r, ()))))
noncomputable def waim (rec_ : (Int) → (Int) → (Int) → Y1 → Option Y1) (a2_ : Int) (a3_ : Int) (a4_ : Int) (a1_ : Y1) : Tr Y1 :=
 .c Y1 (wxv rec_ () (a2_, (a3_, (a4_, (true, (true, a1_)))))) fun r54_ =>
 .l r54_
noncomputable def wim : Nat → (Int) → (Int) → (Int) → Y1 → Option Y1
 | 0 => fun _ _ _ _ => none
 | n + 1 => fun a2_ a3_ a4_ a1_ => (waim (wim n) a2_ a3_ a4_ a1_).ev
noncomputable def wbre : Sh := (.cons (.arr 64) (.cons (.dat yi) (.cons (.dat yi) (.cons (.dat yi) .nil))))
noncomputable def wbrf : List (Nat × OSh) := [(64, .arr 3 yi)]
noncomputable def K_zbm : RetK := { acts := [], res := [], sh := .nil, obs := [(64, .arr 3 yi)], pins := [(0, 0, 64)] }
noncomputable def wain (rec_ : (Int) → (Int) → (Int) → Y1 → Option Y1) : FD where
 A := wbre
 ins := wbrf
 lend := [.arg 0]
 R := Y1
 F := fun x => rec_ x.1.2.1 x.1.2.2.1 x.1.2.2.2.1 x.2.1
 emb := fun r => ([], [(64, .arr 3 yi r)])
noncomputable def wbia (n : Nat) : FD := wain (wim n)
noncomputable def wavj (rec_ : (Int) → (Int) → (Int) → Y1 → Option Y1) : Env := wae [(202, D_zbb), (204, D_zax), (205, D_zaz), (208, D_zb), (210, D_zbk), (188, wain rec_)]
noncomputable def wavk : Nat → Nat → List Nat := fun _ _ => []
noncomputable def wavl (rec_ : (Int) → (Int) → (Int) → Y1 → Option Y1) : List (Nat × LD) := [(0, wqm rec_)]
noncomputable def waio : Code := (f188.body).getD .skip
noncomputable def wavm (a1_ : Y1) : Tr Y1 :=
 .c (Int) (wxt (IntKind.wrap .u64 ((List.length a1_ : Nat) : Int))) fun r1_ =>
 .c Y1 (wim 1000000 (0 : Int) ((List.length a1_ : Nat) : Int) r1_ a1_) fun r2_ =>
 .l r2_
noncomputable def wavn (a1_ : Y1) : Option Y1 := (wavm a1_).ev
noncomputable def wbrg : Sh := (.cons (.arr 64) .nil)
noncomputable def wbrh : List (Nat × OSh) := [(64, .arr 3 yi)]
noncomputable def K_zat : RetK := { acts := [], res := [], sh := .nil, obs := [(64, .arr 3 yi)], pins := [(0, 0, 64)] }
noncomputable def D_zat : FD := ⟨wbrg, wbrh, [.arg 0], Y1, fun x => wavn x.2.1, fun r => ([], [(64, .arr 3 yi r)])⟩
noncomputable def wbib : Env := wae [(189, D_zaj), (188, wbia 1000000)]
noncomputable def wbic : Nat → Nat → List Nat := fun _ _ => []
noncomputable def wbid : List (Nat × LD) := []
noncomputable def wbie : Code := (f147.body).getD .skip
noncomputable def waip (a1_ : Y1) : Tr Y1 :=
 .c (List Int) (wbgg a1_) fun r1_ =>
 .c Y1 (wavn r1_) fun r2_ =>
 .l r2_
noncomputable def wacq (a1_ : Y1) : Option Y1 := (waip a1_).ev
noncomputable def wbri : Sh := (.cons (.dat (.seq 148)) .nil)
noncomputable def wbrj : List (Nat × OSh) := []
noncomputable def K_zau : RetK := { acts := [.ren 320 0], res := [.tmp 2], sh := (.cons (.arr 0) .nil), obs := [(0, .arr 3 yi)], pins := [] }
noncomputable def D_zau : FD := ⟨wbri, wbrj, [], Y1, fun x => wacq x.1.1, fun r => ([.arr 0], [(0, .arr 3 yi r)])⟩
noncomputable def wbif : Env := wae [(146, wbqg), (147, D_zat)]
noncomputable def wbig : Nat → Nat → List Nat := fun _ _ => []
noncomputable def wbih : List (Nat × LD) := []
noncomputable def wbii : Code := (f92.body).getD .skip
noncomputable def wio (k : Y1 × (Int × (Y1 × Int))) (v : Int) : Tr ((Int) ⊕ ((Unit) ⊕ (Unit))) :=
 .t (decide (v < k.2.2.2))
 (.g (inR v (List.length k.2.2.1)) <|
 .c (Bool) (F_zw (List.getD k.2.2.1 (Int.toNat v) (0 : Int)) (0 : Int) (IntKind.wrap .i64 (k.2.1 - (1 : Int)))) fun r6_ =>
 .t (!r6_)
 (.l (.inr (.inr ())))
 (.t (decide ((0 : Int) < v))
 (.g (inR (IntKind.wrap .i64 (v - (1 : Int))) (List.length k.1)) <|
 .t (decide ((List.getD k.2.2.1 (Int.toNat v) (0 : Int)) ≤ (List.getD k.1 (Int.toNat (IntKind.wrap .i64 (v - (1 : Int)))) (0 : Int))))
 (.l (.inr (.inr ())))
 (.l (.inl (IntKind.wrap .i64 (v + (1 : Int))))))
 (.l (.inl (IntKind.wrap .i64 (v + (1 : Int)))))))
 (.l (.inr (.inl ())))
noncomputable def waiq (k : Y1 × (Int × (Y1 × Int))) (v : Int) : Option ((Unit) ⊕ (Unit)) := iter (fun v => (wio k v).ev) v
noncomputable def wqn : LD := ⟨(yh [0, 1, 7, 8, 9] (.cons (.dat y1) (.cons (.dat yi) (.cons (.dat y1) (.cons (.dat yi) (.cons (.dat yi) .nil)))))), [(0, (yh [] .nil))], (yh [4] (.cons (.dat .bool) .nil)), Y1 × (Int × (Y1 × Int)), Int, (Unit) ⊕ (Unit), fun k v => ((k.1, (k.2.1, (k.2.2.1, (k.2.2.2, (v, ()))))), ()), fun t => (t.1.1, (t.1.2.1, (t.1.2.2.1, t.1.2.2.2.1))), fun t => t.1.2.2.2.2.1, wio, fun _ r => .s (Unit) (Unit) r (fun _ => .l (.exit 0 (wav ((ys [] .nil)) ((), ())))) (fun _ => .l (.ret (wav ((ys [4] (.cons (.dat .bool) .nil))) ((false, ()), ()))))⟩
noncomputable def wavo (a1_ : Y1) (a2_ : Int) : Tr (Bool) :=
 .c ((Unit) ⊕ (Unit)) (waiq (a1_, (a2_, (a1_, ((List.length a1_ : Nat) : Int)))) (0 : Int)) fun r8_ =>
 .s (Unit) (Unit) r8_
 (fun _ => .l true)
 (fun _ => .l false)
noncomputable def wair (a1_ : Y1) (a2_ : Int) : Option (Bool) := (wavo a1_ a2_).ev
noncomputable def wbrk : Sh := (.cons (.dat y1) (.cons (.dat yi) .nil))
noncomputable def wbrl : List (Nat × OSh) := []
noncomputable def K_zab : RetK := { acts := [], res := [.tmp 4], sh := (.cons (.dat .bool) .nil), obs := [], pins := [] }
noncomputable def D_zab : FD := ⟨wbrk, wbrl, [], Bool, fun x => wair x.1.1 x.1.2.1, fun r => ([.dat .bool r], [])⟩
noncomputable def wavp : Env := wae [(67, D_zw)]
noncomputable def wavq : Nat → Nat → List Nat := fun _ _ => []
noncomputable def wavr : List (Nat × LD) := [(0, wqn)]
noncomputable def wais : Code := (f106.body).getD .skip
end Go.Proofs.YtbofjefpngpegaaGreat
