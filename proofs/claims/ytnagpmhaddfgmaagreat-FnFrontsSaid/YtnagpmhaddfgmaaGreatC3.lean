/-
 Descriptions of the functions that the claim reaches: arguments, results, states of loops. No conditions.
-/
import Derived.Test.YtnagpmhaddfgmaaGreatB31
import Derived.Test.YtnagpmhaddfgmaaGreatProg
namespace Go.Proofs.YtnagpmhaddfgmaaGreat
open Go.Proofs.Tryz
open List (length getD set)
open Int (toNat)
open IntKind (wrap)
abbrev yi : Ty := .int .i64
abbrev y1 : Ty := .slice yi
abbrev y2 : Ty := .slice y1
abbrev y3 : Ty := .slice y2
abbrev Y1 : Type := List Int
abbrev Y2 : Type := List Y1
abbrev Y3 : Type := List Y2
abbrev yh (l : List Nat) (s : Sh) : Keep := { acts := [], S := { slots := l, sh := s, obs := [] } }
abbrev ys (l : List Nat) (s : Sh) : SSh := { slots := l, sh := s, obs := [] }
abbrev yd (A : Sh) (I : List (Nat × OSh)) (L : List LP) (R : Type) (F : A.I × OL I → Option R) (e : R → List AV × List (Nat × Ob)) : FD := { A := A, ins := I, lend := L, R := R, F := F, emb := e }
abbrev yr (r : List ResultVar) (s : Sh) : RetK := { acts := [], res := r, sh := s, obs := [], pins := [] }
abbrev yj : List Sh → Sh
  | [] => .nil
  | a :: l => .cons a (yj l)
abbrev Za : List UInt8 := ([0, 1, 2, 2, 3, 3, 3, 3, 4, 4, 4, 4, 4, 4, 4, 4, 5, 5, 5, 5, 5, 5, 5, 5, 5, 5, 5, 5, 5, 5, 5, 5, 6, 6, 6, 6, 6, 6, 6, 6, 6, 6, 6, 6, 6, 6, 6, 6, 6, 6, 6, 6, 6, 6, 6, 6, 6, 6, 6, 6, 6, 6, 6, 6, 7, 7, 7, 7, 7, 7, 7, 7, 7, 7, 7, 7, 7, 7, 7, 7, 7, 7, 7, 7, 7, 7, 7, 7, 7, 7, 7, 7, 7, 7, 7, 7, 7, 7, 7, 7, 7, 7, 7, 7, 7, 7, 7, 7, 7, 7, 7, 7, 7, 7, 7, 7, 7, 7, 7, 7, 7, 7, 7, 7, 7, 7, 7, 7, 8, 8, 8, 8, 8, 8, 8, 8, 8, 8, 8, 8, 8, 8, 8, 8, 8, 8, 8, 8, 8, 8, 8, 8, 8, 8, 8, 8, 8, 8, 8, 8, 8, 8, 8, 8, 8, 8, 8, 8, 8, 8, 8, 8, 8, 8, 8, 8, 8, 8, 8, 8, 8, 8, 8, 8, 8, 8, 8, 8, 8, 8, 8, 8, 8, 8, 8, 8, 8, 8, 8, 8, 8, 8, 8, 8, 8, 8, 8, 8, 8, 8, 8, 8, 8, 8, 8, 8, 8, 8, 8, 8, 8, 8, 8, 8, 8, 8, 8, 8, 8, 8, 8, 8, 8, 8, 8, 8, 8, 8, 8, 8, 8, 8, 8, 8, 8, 8, 8, 8, 8, 8, 8, 8, 8, 8, 8, 8] : List UInt8)
abbrev Zb : Nat := IntKind.bits .u64
abbrev Yd : Type := HL [y1, y1] → Option (Int)
abbrev Yf : Type := Int × Int
abbrev Zg : Sh := yj [.dat y1, .dat y2]
abbrev Zh : Sh := yj [.dat .bool]
abbrev Zi : Sh := yj [.dat yi]
abbrev Zj : Sh := yj [.arr 64, .dat yi, .clo [y1, y1] yi, .dat yi, .dat yi]
abbrev Yk : Type := Int × (Y1 × Yf)
abbrev Yl : Type := Int × Y2
abbrev Ym : Type := Y1 × (Y2 × (Y1 × Yf))
abbrev Zn : Nat × OSh := (64, .arr 24 y1)
abbrev Yo : Type := (List Yf) × Y2
abbrev Yp : Type := Int × (Bool × Y2)
abbrev Zr : Nat × OSh := (3, .cells (yj [.arr 577, .arr 580]))
abbrev Yt : Type := Y1 × Y2
abbrev Zu : Sh := yj [.nilsl, .nilsl]
abbrev Zv : Ty := .slice (.int .u8)
abbrev Yw : Type := Int × (Int × (Bool × (Bool × Y2)))
abbrev Zx : Sh := yj [.dat yi, .dat yi]
abbrev Zy : Nat × OSh := (5, .cells (yj [.arr 833, .arr 834]))
abbrev Yz : Type := HL [y1] → Option (Bool)
abbrev Yab : Type := Y1 × (Y2 × (List Yf))
abbrev Zac : Nat × OSh := (580, .rows 24 3 yi)
abbrev Yad : Type := Int × (Bool × (Int × (Bool × (Int × (Bool × (Int × (Bool × (Y1 × (Y2 × ((List Yf) × (Y2 × (List Yf))))))))))))
abbrev Yae : Type := Int × (Int × Yt)
abbrev Zaf : Nat × OSh := (3, .cells Zg)
abbrev Yag : Type := Y1 × (Int × Yl)
abbrev Zah : Sh := yj [.arr 64, .dat yi, .dat yi]
abbrev Zai : Nat × OSh := (4, .cells (yj [.arr 900340, .arr 902341]))
abbrev Zaj : Nat × OSh := (7, .cells (yj [.arr 900370, .arr 902371]))
abbrev Zak : Nat × OSh := (577, .arr 3 yi)
abbrev Yal : Type := (Yd) × Yl
abbrev Yam : Type := Int × Y1
abbrev Zan : Sh := yj [.arr 64]
abbrev Yc : Type := List (Yf × Y1)
abbrev Ze : Nat × OSh := (64, .cells (yj [.dat Zv, .dat yi, .dat (.int .u64)]))
abbrev Yq : Type := Int × Yam
abbrev Yaa : Type := Int × Yc
noncomputable def tabl : List (Nat × TD) := [(3, .sc yi), (4, .sc .bool), (5, .sc (.int .u8)), (9, .sc .str), (22, .sl 5 (.int .u8) 1), (24, .sl 3 yi 8), (25, .sl 24 y1 24), (27, .st (.pair y1 y2) [(24, y1), (25, y2)]), (30, .sl 33 (.pair yi yi) 16), (33, .ar 2 3 yi (.pair yi yi)), (108, .sc (.int .u64)), (110, .st (.pair Zv (.pair yi (.int .u64))) [(22, Zv), (3, yi), (108, (.int .u64))]), (145, .sc (.int .u64)), (165, .sl 167 (.pair (.pair yi yi) y1) 40), (167, .st (.pair (.pair yi yi) y1) [(33, (.pair yi yi)), (24, y1)]), (220, .sc (.int .u64))]
noncomputable def tt : Nat → TD := fun i => match look tabl i with
 | some d => d
 | none => .no
noncomputable def wabq (a1_ : Y1) : Tr (Bool) :=
 .l (decide ((65536 : Int) < ((length a1_ : Nat) : Int)))
noncomputable def wabr (a1_ : Y1) : Option (Bool) := (wabq a1_).ev
noncomputable def wata : RetK := yr [.tmp 2] Zh
noncomputable def wabs : FD := yd (yj [.dat Zv]) [] [] Bool (fun x => wabr x.1.1) (fun r => ([.dat .bool r], []))
noncomputable def wabt (a1_ : Y1) (a2_ : Int) (a3_ : Int) : Tr Yk :=
 .t (decide (a2_ < ((length a1_ : Nat) : Int)))
 (.g (inR a2_ (length a1_)) <|
 .t (decide ((wrap .i64 (a2_ + 1)) ≤ ((length a1_ : Nat) : Int)))
 (.l ((wrap .i64 (getD a1_ (toNat a2_) 0)), (a1_, ((wrap .i64 (a2_ + 1)), (wrap .u64 ((wrap .u64 ((wrap .u64 (a3_ * (6364136223846793005 : Int))) + (wrap .u64 (wrap .i64 (getD a1_ (toNat a2_) 0))))) + 462197))))))
 (.g (decide ((0 : Int) ≤ (40 : Int))) <|
 .l ((wrap .i64 (wrap .u64 (BitVec.toNat ((BitVec.ofInt Zb (Int.fdiv (wrap .u64 ((wrap .u64 ((wrap .u64 (a3_ * (6364136223846793005 : Int))) + (wrap .u64 (wrap .i64 (getD a1_ (toNat a2_) 0))))) + 462197)) (2 ^ (min (toNat 40) Zb)))) &&& (BitVec.ofInt Zb (255 : Int)))))), (a1_, ((wrap .i64 (a2_ + 1)), (wrap .u64 ((wrap .u64 ((wrap .u64 (a3_ * (6364136223846793005 : Int))) + (wrap .u64 (wrap .i64 (getD a1_ (toNat a2_) 0))))) + 462197)))))))
 (.t (decide ((wrap .i64 (a2_ + 1)) ≤ ((length a1_ : Nat) : Int)))
 (.l ((0 : Int), (a1_, ((wrap .i64 (a2_ + 1)), (wrap .u64 ((wrap .u64 ((wrap .u64 (a3_ * (6364136223846793005 : Int))) + (wrap .u64 (0 : Int)))) + 462197))))))
 (.g (decide ((0 : Int) ≤ (40 : Int))) <|
 .l ((wrap .i64 (wrap .u64 (BitVec.toNat ((BitVec.ofInt Zb (Int.fdiv (wrap .u64 ((wrap .u64 ((wrap .u64 (a3_ * (6364136223846793005 : Int))) + (wrap .u64 (0 : Int)))) + 462197)) (2 ^ (min (toNat 40) Zb)))) &&& (BitVec.ofInt Zb (255 : Int)))))), (a1_, ((wrap .i64 (a2_ + 1)), (wrap .u64 ((wrap .u64 ((wrap .u64 (a3_ * (6364136223846793005 : Int))) + (wrap .u64 (0 : Int)))) + 462197)))))))
noncomputable def wpg (a1_ : Y1) (a2_ : Int) (a3_ : Int) : Option Yk := (wabt a1_ a2_ a3_).ev
noncomputable def watb : RetK := { acts := [], res := [.tmp 2], sh := Zi, obs := [Ze], pins := [(0, 0, 64)] }
noncomputable def wabu : FD := yd (yj [.box 64 0]) [Ze] [.arg 0] Yk (fun x => wpg x.2.1.1 x.2.1.2.1 x.2.1.2.2.1) (fun r => ([.dat yi r.1], [(64, .cells [.dat Zv r.2.1, .dat yi r.2.2.1, .dat (.int .u64) r.2.2.2])]))
noncomputable def wabv (a4_ : Int) (a1_ : Y1) (a2_ : Int) (a3_ : Int) : Tr Yk :=
 .t (decide (a4_ ≤ 1))
 (.l ((0 : Int), (a1_, (a2_, a3_))))
 (.c Yk (wpg a1_ a2_ a3_) fun r1_ =>
 .t (decide (200 < a4_))
 (.c Yk (wpg r1_.2.1 r1_.2.2.1 r1_.2.2.2) fun r2_ =>
 .g (!decide (a4_ = 0)) <|
 .l ((Int.tmod (wrap .i64 ((wrap .i64 (r1_.1 * (256 : Int))) + r2_.1)) a4_), (r2_.2.1, (r2_.2.2.1, r2_.2.2.2))))
 (.g (!decide (a4_ = 0)) <|
 .l ((Int.tmod r1_.1 a4_), (r1_.2.1, (r1_.2.2.1, r1_.2.2.2)))))
noncomputable def wba (a4_ : Int) (a1_ : Y1) (a2_ : Int) (a3_ : Int) : Option Yk := (wabv a4_ a1_ a2_ a3_).ev
noncomputable def watc : RetK := { acts := [], res := [.tmp 4], sh := Zi, obs := [Ze], pins := [(0, 0, 64)] }
noncomputable def wfb : FD := yd (yj [.box 64 0, .dat yi]) [Ze] [.arg 0] Yk (fun x => wba x.1.2.1 x.2.1.1 x.2.1.2.1 x.2.1.2.2.1) (fun r => ([.dat yi r.1], [(64, .cells [.dat Zv r.2.1, .dat yi r.2.2.1, .dat (.int .u64) r.2.2.2])]))
noncomputable def wabw (a4_ : Y1) (a1_ : Y1) (a2_ : Int) (a3_ : Int) : Tr Yk :=
 .c Yk (wba ((length a4_ : Nat) : Int) a1_ a2_ a3_) fun r1_ =>
 .g (inR r1_.1 (length a4_)) <|
 .l ((getD a4_ (toNat r1_.1) 0), (r1_.2.1, (r1_.2.2.1, r1_.2.2.2)))
noncomputable def wcn (a4_ : Y1) (a1_ : Y1) (a2_ : Int) (a3_ : Int) : Option Yk := (wabw a4_ a1_ a2_ a3_).ev
noncomputable def watd : RetK := { acts := [], res := [.tmp 4], sh := Zi, obs := [Ze], pins := [(0, 0, 64)] }
noncomputable def whx : FD := yd (yj [.box 64 0, .dat y1]) [Ze] [.arg 0] Yk (fun x => wcn x.1.2.1 x.2.1.1 x.2.1.2.1 x.2.1.2.2.1) (fun r => ([.dat yi r.1], [(64, .cells [.dat Zv r.2.1, .dat yi r.2.2.1, .dat (.int .u64) r.2.2.2])]))
noncomputable def wbo (k : Int × (Int × Yq)) (v : Int × (Y1 × Yq)) : Tr ((Int × (Y1 × Yq)) ⊕ (Y1 × Yq)) :=
 .t (decide (v.1 < k.2.1))
 (.t (decide (v.1 < k.1))
 (.c Yk (wba k.2.2.2.1 v.2.1 v.2.2.1 v.2.2.2.1) fun r14_ =>
 .g (decide ((length v.2.2.2.2 + length ([r14_.1] : Y1)) * 8 ≤ 140737488355328)) <|
 .l (.inl ((wrap .i64 (v.1 + 1)), (r14_.2.1, (r14_.2.2.1, (r14_.2.2.2, (v.2.2.2.2 ++ ([r14_.1] : Y1))))))))
 (.l (.inr (v.2.1, (v.2.2.1, (v.2.2.2.1, v.2.2.2.2))))))
 (.l (.inr (v.2.1, (v.2.2.1, (v.2.2.2.1, v.2.2.2.2)))))
noncomputable def wph (k : Int × (Int × Yq)) (v : Int × (Y1 × Yq)) : Option (Y1 × Yq) := iter (fun v => (wbo k v).ev) v
noncomputable def wky : LD := ⟨{ acts := [.ownB 4 0 900340 3 yi, .ownB 7 0 900370 3 yi], S := { slots := [0, 1, 4, 5, 6, 7, 8, 9], sh := (yj [.box 64 0, .dat yi, .box 4 0, .dat yi, .dat yi, .box 7 0, .dat yi, .dat yi]), obs := [Ze, (4, .cells (yj [.arr 900340, .nilsl])), (7, .cells (yj [.arr 900370, .nilsl])), (900340, .arr 3 yi), (900370, .arr 3 yi)] } }, [(0, { acts := [], S := { slots := [0, 1, 4, 6, 7, 8], sh := (yj [.box 64 0, .dat yi, .box 4 0, .dat yi, .box 7 0, .dat yi]), obs := [Ze, (4, .cells (yj [.arr 900340, .nilsl])), (7, .cells (yj [.arr 900370, .nilsl])), (900340, .arr 3 yi), (900370, .arr 3 yi)] } })], (yh [] .nil), Int × (Int × Yq), Int × (Y1 × Yq), Y1 × Yq, fun k v => (((), (k.1, ((), (k.2.1, (k.2.2.1, ((), (k.2.2.2.1, (v.1, ())))))))), ((v.2.1, (v.2.2.1, (v.2.2.2.1, ()))), (((), ((), ())), (((), ((), ())), (k.2.2.2.2, (v.2.2.2.2, ())))))), fun t => (t.1.2.1, (t.1.2.2.2.1, (t.1.2.2.2.2.1, (t.1.2.2.2.2.2.2.1, t.2.2.2.2.1)))), fun t => (t.1.2.2.2.2.2.2.2.1, (t.2.1.1, (t.2.1.2.1, (t.2.1.2.2.1, t.2.2.2.2.2.1)))), wbo, fun k r => .l (.exit 0 (mkSt ({ slots := [0, 1, 4, 6, 7, 8], sh := (yj [.box 64 0, .dat yi, .box 4 0, .dat yi, .box 7 0, .dat yi]), obs := [Ze, (4, .cells (yj [.arr 900340, .nilsl])), (7, .cells (yj [.arr 900370, .nilsl])), (900340, .arr 3 yi), (900370, .arr 3 yi)] }) (((), (k.1, ((), (k.2.2.1, ((), (k.2.2.2.1, ())))))), ((r.1, (r.2.1, (r.2.2.1, ()))), (((), ((), ())), (((), ((), ())), (k.2.2.2.2, (r.2.2.2, ()))))))))⟩
noncomputable def wcv (k : Int × (Int × (Int × (Int × (Y1 × (Y2 × Yt)))))) (v : Int × (Y1 × Yq)) : Tr ((Int × (Y1 × Yq)) ⊕ (Y1 × Yq)) :=
 .t (decide (v.1 < ((length k.2.2.2.2.2.2.1 : Nat) : Int)))
 (.c Yk (wba k.2.2.1 v.2.1 v.2.2.1 v.2.2.2.1) fun r48_ =>
 .g (decide ((length v.2.2.2.2 + length ([r48_.1] : Y1)) * 8 ≤ 140737488355328)) <|
 .l (.inl ((wrap .i64 (v.1 + 1)), (r48_.2.1, (r48_.2.2.1, (r48_.2.2.2, (v.2.2.2.2 ++ ([r48_.1] : Y1))))))))
 (.l (.inr (v.2.1, (v.2.2.1, (v.2.2.2.1, v.2.2.2.2)))))
noncomputable def wpi (k : Int × (Int × (Int × (Int × (Y1 × (Y2 × Yt)))))) (v : Int × (Y1 × Yq)) : Option (Y1 × Yq) := iter (fun v => (wcv k v).ev) v
noncomputable def wkz : LD := ⟨{ acts := [], S := { slots := [0, 1, 4, 6, 7, 8, 10, 11, 12], sh := (yj [.box 64 0, .dat yi, .box 4 0, .dat yi, .box 7 0, .dat yi, .dat yi, .arr 51, .dat yi]), obs := [Ze, Zai, Zaj, (51, .arr 3 yi), (900340, .arr 3 yi), (902341, .rows 24 3 yi), (900370, .arr 3 yi), (902371, .rows 24 3 yi)] } }, [(4, { acts := [], S := { slots := [0, 1, 4, 6, 7, 8, 10, 11], sh := (yj [.box 64 0, .dat yi, .box 4 0, .dat yi, .box 7 0, .dat yi, .dat yi, .arr 51]), obs := [Ze, Zai, Zaj, (51, .arr 3 yi), (900340, .arr 3 yi), (902341, .rows 24 3 yi), (900370, .arr 3 yi), (902371, .rows 24 3 yi)] } })], (yh [] .nil), Int × (Int × (Int × (Int × (Y1 × (Y2 × Yt))))), Int × (Y1 × Yq), Y1 × Yq, fun k v => (((), (k.1, ((), (k.2.1, ((), (k.2.2.1, (k.2.2.2.1, ((), (v.1, ()))))))))), ((v.2.1, (v.2.2.1, (v.2.2.2.1, ()))), (((), ((), ())), (((), ((), ())), (v.2.2.2.2, (k.2.2.2.2.1, (k.2.2.2.2.2.1, (k.2.2.2.2.2.2.1, (k.2.2.2.2.2.2.2, ()))))))))), fun t => (t.1.2.1, (t.1.2.2.2.1, (t.1.2.2.2.2.2.1, (t.1.2.2.2.2.2.2.1, (t.2.2.2.2.2.1, (t.2.2.2.2.2.2.1, (t.2.2.2.2.2.2.2.1, t.2.2.2.2.2.2.2.2.1))))))), fun t => (t.1.2.2.2.2.2.2.2.2.1, (t.2.1.1, (t.2.1.2.1, (t.2.1.2.2.1, t.2.2.2.2.1)))), wcv, fun k r => .l (.exit 4 (mkSt ({ slots := [0, 1, 4, 6, 7, 8, 10, 11], sh := (yj [.box 64 0, .dat yi, .box 4 0, .dat yi, .box 7 0, .dat yi, .dat yi, .arr 51]), obs := [Ze, Zai, Zaj, (51, .arr 3 yi), (900340, .arr 3 yi), (902341, .rows 24 3 yi), (900370, .arr 3 yi), (902371, .rows 24 3 yi)] }) (((), (k.1, ((), (k.2.1, ((), (k.2.2.1, (k.2.2.2.1, ((), ())))))))), ((r.1, (r.2.1, (r.2.2.1, ()))), (((), ((), ())), (((), ((), ())), (r.2.2.2, (k.2.2.2.2.1, (k.2.2.2.2.2.1, (k.2.2.2.2.2.2.1, (k.2.2.2.2.2.2.2, ())))))))))))⟩
noncomputable def wbp (k : Int × (Int × (Int × (Y1 × (Y2 × Y1))))) (v : Int × Yag) : Tr ((Int × Yag) ⊕ Yag) :=
 .t (decide (v.1 < k.2.1))
 (.t (decide (v.1 < k.1))
 (.c (Y1 × Yq) (wpi (k.1, (k.2.1, (k.2.2.1, (v.1, (k.2.2.2.1, (k.2.2.2.2.1, (k.2.2.2.2.2, v.2.2.2.2))))))) ((0 : Int), (v.2.1, (v.2.2.1, (v.2.2.2.1, ([] : Y1)))))) fun r61_ =>
 .g (decide ((length v.2.2.2.2 + 1) * 24 ≤ 140737488355328)) <|
 .l (.inl ((wrap .i64 (v.1 + 1)), (r61_.1, (r61_.2.1, (r61_.2.2.1, (set (v.2.2.2.2 ++ [[]]) (length v.2.2.2.2) r61_.2.2.2)))))))
 (.l (.inr (v.2.1, (v.2.2.1, (v.2.2.2.1, v.2.2.2.2))))))
 (.l (.inr (v.2.1, (v.2.2.1, (v.2.2.2.1, v.2.2.2.2)))))
noncomputable def wpj (k : Int × (Int × (Int × (Y1 × (Y2 × Y1))))) (v : Int × Yag) : Option Yag := iter (fun v => (wbp k v).ev) v
noncomputable def wla : LD := ⟨{ acts := [.ownRB 4 1 902341 24 3 yi, .ownRB 7 1 902371 24 3 yi], S := { slots := [0, 1, 4, 6, 7, 8, 10], sh := (yj [.box 64 0, .dat yi, .box 4 0, .dat yi, .box 7 0, .dat yi, .dat yi]), obs := [Ze, Zai, Zaj, (900340, .arr 3 yi), (902341, .rows 24 3 yi), (900370, .arr 3 yi), (902371, .rows 24 3 yi)] } }, [(2, { acts := [], S := { slots := [0, 4, 7], sh := (yj [.box 64 0, .box 4 0, .box 7 0]), obs := [Ze, Zai, Zaj, (900340, .arr 3 yi), (902341, .rows 24 3 yi), (900370, .arr 3 yi), (902371, .rows 24 3 yi)] } })], (yh [] .nil), Int × (Int × (Int × (Y1 × (Y2 × Y1)))), Int × Yag, Y1 × (Int × Yl), fun k v => (((), (k.1, ((), (k.2.1, ((), (k.2.2.1, (v.1, ()))))))), ((v.2.1, (v.2.2.1, (v.2.2.2.1, ()))), (((), ((), ())), (((), ((), ())), (k.2.2.2.1, (k.2.2.2.2.1, (k.2.2.2.2.2, (v.2.2.2.2, ())))))))), fun t => (t.1.2.1, (t.1.2.2.2.1, (t.1.2.2.2.2.2.1, (t.2.2.2.2.1, (t.2.2.2.2.2.1, t.2.2.2.2.2.2.1))))), fun t => (t.1.2.2.2.2.2.2.1, (t.2.1.1, (t.2.1.2.1, (t.2.1.2.2.1, t.2.2.2.2.2.2.2.1)))), wbp, fun k r => .l (.exit 2 (mkSt ({ slots := [0, 4, 7], sh := (yj [.box 64 0, .box 4 0, .box 7 0]), obs := [Ze, Zai, Zaj, (900340, .arr 3 yi), (902341, .rows 24 3 yi), (900370, .arr 3 yi), (902371, .rows 24 3 yi)] }) (((), ((), ((), ()))), ((r.1, (r.2.1, (r.2.2.1, ()))), (((), ((), ())), (((), ((), ())), (k.2.2.2.1, (k.2.2.2.2.1, (k.2.2.2.2.2, (r.2.2.2, ()))))))))))⟩
noncomputable def wabx (a4_ : Int) (a1_ : Y1) (a2_ : Int) (a3_ : Int) : Tr Ym :=
 .c Yk (wcn ([(3 : Int), (4 : Int), (2 : Int), (5 : Int), (1 : Int), (6 : Int), (7 : Int)] : Y1) a1_ a2_ a3_) fun r1_ =>
 .c Yk (wcn ([(4 : Int), (3 : Int), (5 : Int), (2 : Int), (6 : Int), (7 : Int), (1 : Int), (0 : Int)] : Y1) r1_.2.1 r1_.2.2.1 r1_.2.2.2) fun r2_ =>
 .c Yk (wcn ([(10 : Int), (10 : Int), (20 : Int), (4 : Int)] : Y1) r2_.2.1 r2_.2.2.1 r2_.2.2.2) fun r3_ =>
 .c (Y1 × Yq) (wph (a4_, (r1_.1, (r2_.1, (r3_.1, ([] : Y1))))) ((0 : Int), (r3_.2.1, (r3_.2.2.1, (r3_.2.2.2, ([] : Y1)))))) fun r23_ =>
 .c Yag (wpj (a4_, (r2_.1, (r3_.1, (([] : Y1), (([] : List Y1), r23_.2.2.2))))) ((0 : Int), (r23_.1, (r23_.2.1, (r23_.2.2.1, ([] : List Y1)))))) fun r69_ =>
 .l (r23_.2.2.2, (r69_.2.2.2, (r69_.1, (r69_.2.1, r69_.2.2.1))))
noncomputable def woe (a4_ : Int) (a1_ : Y1) (a2_ : Int) (a3_ : Int) : Option Ym := (wabx a4_ a1_ a2_ a3_).ev
noncomputable def wate : RetK := { acts := [.ren 900370 1, .ren 902371 2], res := [.cell 4 27], sh := (yj [.agg (yj [.arr 1, .arr 2])]), obs := [(1, .arr 3 yi), (2, .rows 24 3 yi), Ze], pins := [(0, 0, 64)] }
noncomputable def wuo : FD := yd (yj [.box 64 0, .dat yi]) [Ze] [.arg 0] Ym (fun x => woe x.1.2.1 x.2.1.1 x.2.1.2.1 x.2.1.2.2.1) (fun r => ([.agg [.arr 1, .arr 2]], [(1, .arr 3 yi r.1), (2, .rows 24 3 yi r.2.1 none), (64, .cells [.dat Zv r.2.2.1, .dat yi r.2.2.2.1, .dat (.int .u64) r.2.2.2.2])]))
noncomputable def wpk : Nat → Nat → List Nat := fun r i => match look [(1, [(2, [14]), (5, [17])]), (2, [(3, [21])])] r with
 | some l => (look l i).getD []
 | none => []
noncomputable def wpm : Env := envOf [(83, whx), (120, wfb)]
noncomputable def wpn : List (Nat × LD) := [(0, wky), (4, wkz), (2, wla)]
noncomputable def wpo : Code := (f176.body).getD .skip
noncomputable def waby (a1_ : Y1) : Tr Y1 :=
 .g (decide ((length ([] : Y1) + length a1_) * 8 ≤ 140737488355328)) <|
 .l (([] : Y1) ++ a1_)
noncomputable def wof (a1_ : Y1) : Option Y1 := (waby a1_).ev
noncomputable def watf : RetK := { acts := [.ren 3 0], res := [.tmp 2], sh := (yj [.arr 0]), obs := [(0, .arr 3 yi)], pins := [] }
noncomputable def wup : FD := yd (yj [.dat y1]) [] [] Y1 (fun x => wof x.1.1) (fun r => ([.arr 0], [(0, .arr 3 yi r)]))
noncomputable def wcw (k : Y1 × Yae) (v : List Y1) : Tr (Y2 ⊕ Y2) :=
 .t (decide (((length v : Nat) : Int) < (8 : Int)))
 (.c Y1 (wof k.2.2.2.1) fun r11_ =>
 .g (decide ((length v + 1) * 24 ≤ 140737488355328)) <|
 .l (.inl (set (v ++ [[]]) (length v) r11_)))
 (.l (.inr v))
noncomputable def wpp (k : Y1 × Yae) (v : List Y1) : Option Y2 := iter (fun v => (wcw k v).ev) v
noncomputable def wlb : LD := ⟨{ acts := [.ownRB 4 1 901341 24 3 yi], S := { slots := [0, 3, 4], sh := (yj [.box 64 0, .box 3 0, .box 4 0]), obs := [Ze, (3, .cells (yj [.arr 65, .arr 66])), (4, .cells (yj [.nilsl, .arr 901341])), (65, .arr 3 yi), (66, .rows 24 3 yi), (901341, .rows 24 3 yi)] } }, [(1, { acts := [], S := { slots := [0, 3, 4], sh := (yj [.box 64 0, .box 3 0, .box 4 0]), obs := [Ze, (3, .cells (yj [.arr 65, .arr 66])), (4, .cells (yj [.nilsl, .arr 901341])), (65, .arr 3 yi), (66, .rows 24 3 yi), (901341, .rows 24 3 yi)] } })], (yh [] .nil), Y1 × Yae, List Y1, List Y1, fun k v => (((), ((), ((), ()))), ((k.1, (k.2.1, (k.2.2.1, ()))), (((), ((), ())), (((), ((), ())), (k.2.2.2.1, (v, (k.2.2.2.2, ()))))))), fun t => (t.2.1.1, (t.2.1.2.1, (t.2.1.2.2.1, (t.2.2.2.2.1, t.2.2.2.2.2.2.1)))), fun t => t.2.2.2.2.2.1, wcw, fun k r => .l (.exit 1 (mkSt ({ slots := [0, 3, 4], sh := (yj [.box 64 0, .box 3 0, .box 4 0]), obs := [Ze, (3, .cells (yj [.arr 65, .arr 66])), (4, .cells (yj [.nilsl, .arr 901341])), (65, .arr 3 yi), (66, .rows 24 3 yi), (901341, .rows 24 3 yi)] }) (((), ((), ((), ()))), ((k.1, (k.2.1, (k.2.2.1, ()))), (((), ((), ())), (((), ((), ())), (k.2.2.2.1, (r, (k.2.2.2.2, ())))))))))⟩
noncomputable def wabz (a1_ : Y1) (a2_ : Int) (a3_ : Int) (a4_ : Y1) (a5_ : List Y1) : Tr Ym :=
 .t (((length a4_ : Nat) : Int) == (0 : Int))
 (.l (a4_, (a5_, (a1_, (a2_, a3_)))))
 (.c Yk (wba ((length a4_ : Nat) : Int) a1_ a2_ a3_) fun r1_ =>
 .c Yk (wba (60 : Int) r1_.2.1 r1_.2.2.1 r1_.2.2.2) fun r2_ =>
 .t (r2_.1 == 0)
 (.c Yk (wcn ([(-1 : Int), (99 : Int), (100 : Int), (4611686018427387904 : Int)] : Y1) r2_.2.1 r2_.2.2.1 r2_.2.2.2) fun r3_ =>
 .g (inR r1_.1 (length a4_)) <|
 .g (decide ((toNat r1_.1) < length a4_)) <|
 .l ((set a4_ (toNat r1_.1) r3_.1), (a5_, (r3_.2.1, (r3_.2.2.1, r3_.2.2.2)))))
 (.t (r2_.1 == 1)
 (.t (decide ((0 : Int) < ((length a5_ : Nat) : Int)))
 (.g (inR 0 (length a5_)) <|
 .g (decide ((toNat 0) < length a5_)) <|
 .c Yk (wcn ([(-1 : Int), (99 : Int), (100 : Int), (-9223372036854775808 : Int)] : Y1) r2_.2.1 r2_.2.2.1 r2_.2.2.2) fun r4_ =>
 .g (inR r1_.1 (length (getD a5_ (toNat 0) ([] : Y1)))) <|
 .g (decide ((toNat r1_.1) < length (getD a5_ (toNat 0) ([] : Y1)))) <|
 .l (a4_, ((set a5_ (toNat 0) (set (getD a5_ (toNat 0) ([] : Y1)) (toNat r1_.1) r4_.1)), (r4_.2.1, (r4_.2.2.1, r4_.2.2.2)))))
 (.l (a4_, (a5_, (r2_.2.1, (r2_.2.2.1, r2_.2.2.2))))))
 (.t (r2_.1 == 2)
 (.g (decide ((length a4_ + length ([(1 : Int)] : Y1)) * 8 ≤ 140737488355328)) <|
 .l ((a4_ ++ ([(1 : Int)] : Y1)), (a5_, (r2_.2.1, (r2_.2.2.1, r2_.2.2.2)))))
 (.t (r2_.1 == 3)
 (.c Y2 (wpp (r2_.2.1, (r2_.2.2.1, (r2_.2.2.2, (a4_, ([] : List Y1))))) a5_) fun r18_ =>
 .l (a4_, (r18_, (r2_.2.1, (r2_.2.2.1, r2_.2.2.2)))))
 (.t (r2_.1 == 4)
 (.l (([] : Y1), (([] : List Y1), (r2_.2.1, (r2_.2.2.1, r2_.2.2.2)))))
 (.l (a4_, (a5_, (r2_.2.1, (r2_.2.2.1, r2_.2.2.2))))))))))
noncomputable def wog (a1_ : Y1) (a2_ : Int) (a3_ : Int) (a4_ : Y1) (a5_ : List Y1) : Option Ym := (wabz a1_ a2_ a3_ a4_ a5_).ev
noncomputable def watg : RetK := { acts := [.ownB 4 0 1 3 yi, .ownRB 4 1 2 24 3 yi, .ren 65 1, .ren 66 2], res := [.cell 4 27], sh := (yj [.agg (yj [.arr 1, .arr 2])]), obs := [(1, .arr 3 yi), (2, .rows 24 3 yi), Ze], pins := [(0, 0, 64)], gone := [65, 66] }
noncomputable def waca : FD := yd (yj [.box 64 0, .agg (yj [.arr 65, .arr 66])]) [Ze, (65, .arr 3 yi), (66, .rows 24 3 yi)] [.arg 0, .comp 1 0, .comp 1 1] Ym (fun x => wog x.2.1.1 x.2.1.2.1 x.2.1.2.2.1 x.2.2.1 x.2.2.2.1) (fun r => ([.agg [.arr 1, .arr 2]], [(1, .arr 3 yi r.1), (2, .rows 24 3 yi r.2.1 none), (64, .cells [.dat Zv r.2.2.1, .dat yi r.2.2.2.1, .dat (.int .u64) r.2.2.2.2]), (65, .spent), (66, .spent)]))
noncomputable def wacb : Nat → Nat → List Nat := fun r i => match look [(6, [(0, [60000004])]), (9, [(0, [60000006])])] r with
 | some l => (look l i).getD []
 | none => []
noncomputable def wacc : Env := envOf [(120, wfb), (83, whx), (173, wup)]
noncomputable def wacd : List (Nat × LD) := [(1, wlb)]
noncomputable def wace : Code := (f175.body).getD .skip
noncomputable def wacf (a1_ : Int) (a2_ : Int) : Tr (Int) :=
 .t (decide (a2_ < a1_))
 (.l a1_)
 (.l a2_)
noncomputable def wpq (a1_ : Int) (a2_ : Int) : Option (Int) := (wacf a1_ a2_).ev
noncomputable def wath : RetK := yr [.tmp 4] Zi
noncomputable def wuq : FD := yd Zx [] [] Int (fun x => wpq x.1.1 x.1.2.1) (fun r => ([.dat yi r], []))
noncomputable def wcx (k : Y1 × Y2) (v : Int × (Y1 × Yq)) : Tr ((Int × (Y1 × Yq)) ⊕ (Y1 × Yq)) :=
 .t (decide (v.1 < ((length k.1 : Nat) : Int)))
 (.c Yk (wba (20 : Int) v.2.1 v.2.2.1 v.2.2.2.1) fun r9_ =>
 .g (decide ((length v.2.2.2.2 + length ([r9_.1] : Y1)) * 8 ≤ 140737488355328)) <|
 .l (.inl ((wrap .i64 (v.1 + 1)), (r9_.2.1, (r9_.2.2.1, (r9_.2.2.2, (v.2.2.2.2 ++ ([r9_.1] : Y1))))))))
 (.l (.inr (v.2.1, (v.2.2.1, (v.2.2.2.1, v.2.2.2.2)))))
noncomputable def wpr (k : Y1 × Y2) (v : Int × (Y1 × Yq)) : Option (Y1 × Yq) := iter (fun v => (wcx k v).ev) v
noncomputable def wlc : LD := ⟨{ acts := [], S := { slots := [0, 4, 5, 6, 7], sh := (yj [.box 64 0, .box 4 0, .box 5 0, .arr 14, .dat yi]), obs := [Ze, (4, .cells Zu), Zy, (14, .arr 3 yi), (833, .arr 3 yi), (834, .rows 24 3 yi)] } }, [(0, { acts := [], S := { slots := [0, 4, 5, 6], sh := (yj [.box 64 0, .box 4 0, .box 5 0, .arr 14]), obs := [Ze, (4, .cells Zu), Zy, (14, .arr 3 yi), (833, .arr 3 yi), (834, .rows 24 3 yi)] } })], (yh [] .nil), Y1 × Y2, Int × (Y1 × Yq), Y1 × Yq, fun k v => (((), ((), ((), ((), (v.1, ()))))), ((v.2.1, (v.2.2.1, (v.2.2.2.1, ()))), (((), ((), ())), (((), ((), ())), (v.2.2.2.2, (k.1, (k.2, ()))))))), fun t => (t.2.2.2.2.2.1, t.2.2.2.2.2.2.1), fun t => (t.1.2.2.2.2.1, (t.2.1.1, (t.2.1.2.1, (t.2.1.2.2.1, t.2.2.2.2.1)))), wcx, fun k r => .l (.exit 0 (mkSt ({ slots := [0, 4, 5, 6], sh := (yj [.box 64 0, .box 4 0, .box 5 0, .arr 14]), obs := [Ze, (4, .cells Zu), Zy, (14, .arr 3 yi), (833, .arr 3 yi), (834, .rows 24 3 yi)] }) (((), ((), ((), ((), ())))), ((r.1, (r.2.1, (r.2.2.1, ()))), (((), ((), ())), (((), ((), ())), (r.2.2.2, (k.1, (k.2, ())))))))))⟩
noncomputable def wcy (k : Int × (Int × (Y1 × (Int × (Int × (Y1 × Y1)))))) (v : Int × Y2) : Tr (Yl ⊕ Y2) :=
 .t (decide (v.1 < ((length k.2.2.2.2.2.2 : Nat) : Int)))
 (.g (inR k.1 (length v.2)) <|
 .g (decide ((toNat k.1) < length v.2)) <|
 .g (inR v.1 (length k.2.2.2.2.2.1)) <|
 .g (decide ((toNat v.1) < length k.2.2.2.2.2.1)) <|
 .g (inR v.1 (length k.2.2.2.2.2.1)) <|
 .g (decide ((toNat v.1) < length k.2.2.2.2.2.1)) <|
 .c (Int) (wpq (wrap .i64 (k.2.1 - (getD k.2.2.2.2.2.1 (toNat v.1) 0))) (wrap .i64 ((getD k.2.2.2.2.2.1 (toNat v.1) 0) - k.2.1))) fun r34_ =>
 .g (inR v.1 (length (getD v.2 (toNat k.1) ([] : Y1)))) <|
 .g (decide ((toNat v.1) < length (getD v.2 (toNat k.1) ([] : Y1)))) <|
 .l (.inl ((wrap .i64 (v.1 + 1)), (set v.2 (toNat k.1) (set (getD v.2 (toNat k.1) ([] : Y1)) (toNat v.1) r34_)))))
 (.l (.inr v.2))
noncomputable def wps (k : Int × (Int × (Y1 × (Int × (Int × (Y1 × Y1)))))) (v : Int × Y2) : Option Y2 := iter (fun v => (wcy k v).ev) v
noncomputable def wle : LD := ⟨{ acts := [], S := { slots := [0, 4, 5, 6, 8, 9, 10], sh := (yj [.box 64 0, .box 4 0, .box 5 0, .arr 14, .dat yi, .dat yi, .dat yi]), obs := [Ze, (4, .cells Zu), Zy, (14, .arr 3 yi), (833, .arr 3 yi), (834, .rows 24 3 yi)] } }, [(4, { acts := [], S := { slots := [0, 4, 5, 6, 8], sh := (yj [.box 64 0, .box 4 0, .box 5 0, .arr 14, .dat yi]), obs := [Ze, (4, .cells Zu), Zy, (14, .arr 3 yi), (833, .arr 3 yi), (834, .rows 24 3 yi)] } })], (yh [] .nil), Int × (Int × (Y1 × (Int × (Int × (Y1 × Y1))))), Int × Y2, List Y1, fun k v => (((), ((), ((), ((), (k.1, (k.2.1, (v.1, ()))))))), ((k.2.2.1, (k.2.2.2.1, (k.2.2.2.2.1, ()))), (((), ((), ())), (((), ((), ())), (k.2.2.2.2.2.1, (k.2.2.2.2.2.2, (v.2, ()))))))), fun t => (t.1.2.2.2.2.1, (t.1.2.2.2.2.2.1, (t.2.1.1, (t.2.1.2.1, (t.2.1.2.2.1, (t.2.2.2.2.1, t.2.2.2.2.2.1)))))), fun t => (t.1.2.2.2.2.2.2.1, t.2.2.2.2.2.2.1), wcy, fun k r => .l (.exit 4 (mkSt ({ slots := [0, 4, 5, 6, 8], sh := (yj [.box 64 0, .box 4 0, .box 5 0, .arr 14, .dat yi]), obs := [Ze, (4, .cells Zu), Zy, (14, .arr 3 yi), (833, .arr 3 yi), (834, .rows 24 3 yi)] }) (((), ((), ((), ((), (k.1, ()))))), ((k.2.2.1, (k.2.2.2.1, (k.2.2.2.2.1, ()))), (((), ((), ())), (((), ((), ())), (k.2.2.2.2.2.1, (k.2.2.2.2.2.2, (r, ())))))))))⟩
noncomputable def wcz (k : Y1 × Y1) (v : Int × Yag) : Tr ((Int × Yag) ⊕ Yag) :=
 .t (decide (v.1 < ((length v.2.2.2.2 : Nat) : Int)))
 (.c Yk (wba (20 : Int) v.2.1 v.2.2.1 v.2.2.2.1) fun r24_ =>
 .c Y2 (wps (v.1, (r24_.1, (r24_.2.1, (r24_.2.2.1, (r24_.2.2.2, (k.1, k.2)))))) ((0 : Int), v.2.2.2.2)) fun r42_ =>
 .l (.inl ((wrap .i64 (v.1 + 1)), (r24_.2.1, (r24_.2.2.1, (r24_.2.2.2, r42_))))))
 (.l (.inr (v.2.1, (v.2.2.1, (v.2.2.2.1, v.2.2.2.2)))))
noncomputable def wpt (k : Y1 × Y1) (v : Int × Yag) : Option Yag := iter (fun v => (wcz k v).ev) v
noncomputable def wlf : LD := ⟨{ acts := [], S := { slots := [0, 4, 5, 6, 8], sh := (yj [.box 64 0, .box 4 0, .box 5 0, .arr 14, .dat yi]), obs := [Ze, (4, .cells Zu), Zy, (14, .arr 3 yi), (833, .arr 3 yi), (834, .rows 24 3 yi)] } }, [(2, { acts := [], S := { slots := [0, 4, 5], sh := (yj [.box 64 0, .box 4 0, .box 5 0]), obs := [Ze, (4, .cells Zu), Zy, (833, .arr 3 yi), (834, .rows 24 3 yi)] } })], (yh [] .nil), Y1 × Y1, Int × Yag, Y1 × (Int × Yl), fun k v => (((), ((), ((), ((), (v.1, ()))))), ((v.2.1, (v.2.2.1, (v.2.2.2.1, ()))), (((), ((), ())), (((), ((), ())), (k.1, (k.2, (v.2.2.2.2, ()))))))), fun t => (t.2.2.2.2.1, t.2.2.2.2.2.1), fun t => (t.1.2.2.2.2.1, (t.2.1.1, (t.2.1.2.1, (t.2.1.2.2.1, t.2.2.2.2.2.2.1)))), wcz, fun k r => .l (.exit 2 (mkSt ({ slots := [0, 4, 5], sh := (yj [.box 64 0, .box 4 0, .box 5 0]), obs := [Ze, (4, .cells Zu), Zy, (833, .arr 3 yi), (834, .rows 24 3 yi)] }) (((), ((), ((), ()))), ((r.1, (r.2.1, (r.2.2.1, ()))), (((), ((), ())), (((), ((), ())), (k.2, (r.2.2.2, ()))))))))⟩
noncomputable def wacg (a4_ : Int) (a1_ : Y1) (a2_ : Int) (a3_ : Int) : Tr Ym :=
 .c Ym (woe a4_ a1_ a2_ a3_) fun r1_ =>
 .c (Y1 × Yq) (wpr (r1_.1, r1_.2.1) ((0 : Int), (r1_.2.2.1, (r1_.2.2.2.1, (r1_.2.2.2.2, ([] : Y1)))))) fun r16_ =>
 .c Yag (wpt (r16_.2.2.2, r1_.1) ((0 : Int), (r16_.1, (r16_.2.1, (r16_.2.2.1, r1_.2.1))))) fun r48_ =>
 .l (r1_.1, (r48_.2.2.2, (r48_.1, (r48_.2.1, r48_.2.2.1))))
noncomputable def wur (a4_ : Int) (a1_ : Y1) (a2_ : Int) (a3_ : Int) : Option Ym := (wacg a4_ a1_ a2_ a3_).ev
noncomputable def wati : RetK := { acts := [.ren 833 1, .ren 834 2], res := [.cell 4 27], sh := (yj [.agg (yj [.arr 1, .arr 2])]), obs := [(1, .arr 3 yi), (2, .rows 24 3 yi), Ze], pins := [(0, 0, 64)] }
noncomputable def wach : FD := yd (yj [.box 64 0, .dat yi]) [Ze] [.arg 0] Ym (fun x => wur x.1.2.1 x.2.1.1 x.2.1.2.1 x.2.1.2.2.1) (fun r => ([.agg [.arr 1, .arr 2]], [(1, .arr 3 yi r.1), (2, .rows 24 3 yi r.2.1 none), (64, .cells [.dat Zv r.2.2.1, .dat yi r.2.2.2.1, .dat (.int .u64) r.2.2.2.2])]))
noncomputable def wpu : Env := envOf [(176, wuo), (120, wfb), (197, wuq)]
noncomputable def wpv : List (Nat × LD) := [(0, wlc), (4, wle), (2, wlf)]
noncomputable def wpw : Code := (f177.body).getD .skip
noncomputable def wda (k : Y1 × (Y2 × (Y2 × Y1))) (v : Int × Y2) : Tr (Yl ⊕ Y2) :=
 .t (decide (v.1 < ((length k.2.1 : Nat) : Int)))
 (.g (inR v.1 (length k.2.1)) <|
 .c Y1 (wof (getD k.2.1 (toNat v.1) ([] : Y1))) fun r8_ =>
 .g (decide ((length v.2 + 1) * 24 ≤ 140737488355328)) <|
 .l (.inl ((wrap .i64 (v.1 + 1)), (set (v.2 ++ [[]]) (length v.2) r8_))))
 (.l (.inr v.2))
noncomputable def wpx (k : Y1 × (Y2 × (Y2 × Y1))) (v : Int × Y2) : Option Y2 := iter (fun v => (wda k v).ev) v
noncomputable def wlg : LD := ⟨{ acts := [.ownRB 2 1 900321 24 3 yi, .ownRB 3 1 900331 24 3 yi], S := { slots := [1, 2, 3, 4], sh := (yj [.box 1 0, .box 2 0, .box 3 0, .dat yi]), obs := [(1, .cells Zg), (2, .cells (yj [.nilsl, .arr 900321])), (3, .cells (yj [.arr 448, .arr 900331])), (900321, .rows 24 3 yi), (448, .arr 3 yi), (900331, .rows 24 3 yi)] } }, [(0, { acts := [], S := { slots := [2, 3], sh := (yj [.box 2 0, .box 3 0]), obs := [(2, .cells (yj [.nilsl, .arr 900321])), (3, .cells (yj [.arr 448, .arr 900331])), (900321, .rows 24 3 yi), (448, .arr 3 yi), (900331, .rows 24 3 yi)] } })], (yh [] .nil), Y1 × (Y2 × (Y2 × Y1)), Int × Y2, List Y1, fun k v => (((), ((), ((), (v.1, ())))), ((k.1, (k.2.1, ())), (((), ((), ())), (((), ((), ())), (k.2.2.1, (k.2.2.2, (v.2, ()))))))), fun t => (t.2.1.1, (t.2.1.2.1, (t.2.2.2.2.1, t.2.2.2.2.2.1))), fun t => (t.1.2.2.2.1, t.2.2.2.2.2.2.1), wda, fun k r => .l (.exit 0 (mkSt ({ slots := [2, 3], sh := (yj [.box 2 0, .box 3 0]), obs := [(2, .cells (yj [.nilsl, .arr 900321])), (3, .cells (yj [.arr 448, .arr 900331])), (900321, .rows 24 3 yi), (448, .arr 3 yi), (900331, .rows 24 3 yi)] }) (((), ((), ())), (((), ((), ())), (((), ((), ())), (k.2.2.1, (k.2.2.2, (r, ()))))))))⟩
noncomputable def waci (a1_ : Y1) (a2_ : List Y1) : Tr Yt :=
 .c Y1 (wof a1_) fun r1_ =>
 .c Y2 (wpx (a1_, (a2_, (([] : List Y1), r1_))) ((0 : Int), ([] : List Y1))) fun r12_ =>
 .l (r1_, r12_)
noncomputable def wus (a1_ : Y1) (a2_ : List Y1) : Option Yt := (waci a1_ a2_).ev
noncomputable def watj : RetK := { acts := [.ren 448 1, .ren 900331 4], res := [.cell 2 27], sh := (yj [.agg (yj [.arr 1, .arr 4])]), obs := [(1, .arr 3 yi), (4, .rows 24 3 yi)], pins := [] }
noncomputable def wacj : FD := yd (yj [.agg Zg]) [] [] Yt (fun x => wus x.1.1.1 x.1.1.2.1) (fun r => ([.agg [.arr 1, .arr 4]], [(1, .arr 3 yi r.1), (4, .rows 24 3 yi r.2 none)]))
noncomputable def wack : Env := envOf [(173, wup)]
noncomputable def wacl : List (Nat × LD) := [(0, wlg)]
noncomputable def wacm : Code := (f228.body).getD .skip
noncomputable def wbq (k : Int × Yae) (v : Int) : Tr ((Int) ⊕ ((Unit) ⊕ (Unit))) :=
 .t (decide (v < ((length k.2.2.2.1 : Nat) : Int)))
 (.g (inR k.1 (length k.2.2.2.2)) <|
 .g (inR k.2.2.1 (length (getD k.2.2.2.2 (toNat k.1) ([] : Y1)))) <|
 .g (inR k.1 (length k.2.2.2.2)) <|
 .g (inR v (length (getD k.2.2.2.2 (toNat k.1) ([] : Y1)))) <|
 .g (inR k.2.1 (length k.2.2.2.2)) <|
 .g (inR v (length (getD k.2.2.2.2 (toNat k.2.1) ([] : Y1)))) <|
 .g (inR k.2.1 (length k.2.2.2.2)) <|
 .g (inR k.2.2.1 (length (getD k.2.2.2.2 (toNat k.2.1) ([] : Y1)))) <|
 .t (decide ((wrap .i64 ((wrap .i64 ((getD (getD k.2.2.2.2 (toNat k.1) ([] : Y1)) (toNat v) (0 : Int)) + (getD (getD k.2.2.2.2 (toNat k.2.1) ([] : Y1)) (toNat v) (0 : Int)))) + (getD (getD k.2.2.2.2 (toNat k.2.1) ([] : Y1)) (toNat k.2.2.1) (0 : Int)))) < (getD (getD k.2.2.2.2 (toNat k.1) ([] : Y1)) (toNat k.2.2.1) (0 : Int))))
 (.l (.inr (.inr ())))
 (.l (.inl (wrap .i64 (v + 1)))))
 (.l (.inr (.inl ())))
noncomputable def wpy (k : Int × Yae) (v : Int) : Option ((Unit) ⊕ (Unit)) := iter (fun v => (wbq k v).ev) v
noncomputable def wlh : LD := ⟨{ acts := [], S := { slots := [1, 3, 4, 5, 6], sh := (yj [.box 1 0, .dat yi, .dat yi, .dat yi, .dat yi]), obs := [(1, .cells Zg)] } }, [(6, { acts := [], S := { slots := [1, 3, 4, 5], sh := (yj [.box 1 0, .dat yi, .dat yi, .dat yi]), obs := [(1, .cells Zg)] } })], (yh [2] Zh), Int × Yae, Int, (Unit) ⊕ (Unit), fun k v => (((), (k.1, (k.2.1, (k.2.2.1, (v, ()))))), ((k.2.2.2.1, (k.2.2.2.2, ())), ())), fun t => (t.1.2.1, (t.1.2.2.1, (t.1.2.2.2.1, (t.2.1.1, t.2.1.2.1)))), fun t => t.1.2.2.2.2.1, wbq, fun k r => .s (Unit) (Unit) r (fun _ => .l (.exit 6 (mkSt ({ slots := [1, 3, 4, 5], sh := (yj [.box 1 0, .dat yi, .dat yi, .dat yi]), obs := [(1, .cells Zg)] }) (((), (k.1, (k.2.1, (k.2.2.1, ())))), ((k.2.2.2.1, (k.2.2.2.2, ())), ()))))) (fun _ => .l (.ret (mkSt ((ys [2] Zh)) ((false, ()), ()))))⟩
noncomputable def wbr (k : Int × (Int × Yt)) (v : Int) : Tr ((Int) ⊕ ((Unit) ⊕ (Unit))) :=
 .t (decide (v < ((length k.2.2.1 : Nat) : Int)))
 (.c ((Unit) ⊕ (Unit)) (wpy (k.1, (k.2.1, (v, (k.2.2.1, k.2.2.2)))) (0 : Int)) fun r25_ =>
 .s (Unit) (Unit) r25_
 (fun _ => .l (.inl (wrap .i64 (v + 1))))
 (fun _ => .l (.inr (.inr ()))))
 (.l (.inr (.inl ())))
noncomputable def wpz (k : Int × (Int × Yt)) (v : Int) : Option ((Unit) ⊕ (Unit)) := iter (fun v => (wbr k v).ev) v
noncomputable def wli : LD := ⟨{ acts := [], S := { slots := [1, 3, 4, 5], sh := (yj [.box 1 0, .dat yi, .dat yi, .dat yi]), obs := [(1, .cells Zg)] } }, [(4, { acts := [], S := { slots := [1, 3, 4], sh := (yj [.box 1 0, .dat yi, .dat yi]), obs := [(1, .cells Zg)] } })], (yh [2] Zh), Int × (Int × Yt), Int, (Unit) ⊕ (Unit), fun k v => (((), (k.1, (k.2.1, (v, ())))), ((k.2.2.1, (k.2.2.2, ())), ())), fun t => (t.1.2.1, (t.1.2.2.1, (t.2.1.1, t.2.1.2.1))), fun t => t.1.2.2.2.1, wbr, fun k r => .s (Unit) (Unit) r (fun _ => .l (.exit 4 (mkSt ({ slots := [1, 3, 4], sh := (yj [.box 1 0, .dat yi, .dat yi]), obs := [(1, .cells Zg)] }) (((), (k.1, (k.2.1, ()))), ((k.2.2.1, (k.2.2.2, ())), ()))))) (fun _ => .l (.ret (mkSt ((ys [2] Zh)) ((false, ()), ()))))⟩
noncomputable def wbs (k : Int × Yt) (v : Int) : Tr ((Int) ⊕ ((Unit) ⊕ (Unit))) :=
 .t (decide (v < ((length k.2.2 : Nat) : Int)))
 (.c ((Unit) ⊕ (Unit)) (wpz (k.1, (v, (k.2.1, k.2.2))) (0 : Int)) fun r33_ =>
 .s (Unit) (Unit) r33_
 (fun _ => .l (.inl (wrap .i64 (v + 1))))
 (fun _ => .l (.inr (.inr ()))))
 (.l (.inr (.inl ())))
noncomputable def wqa (k : Int × Yt) (v : Int) : Option ((Unit) ⊕ (Unit)) := iter (fun v => (wbs k v).ev) v
noncomputable def wlj : LD := ⟨{ acts := [], S := { slots := [1, 3, 4], sh := (yj [.box 1 0, .dat yi, .dat yi]), obs := [(1, .cells Zg)] } }, [(2, { acts := [], S := { slots := [1, 3], sh := (yj [.box 1 0, .dat yi]), obs := [(1, .cells Zg)] } })], (yh [2] Zh), Int × Yt, Int, (Unit) ⊕ (Unit), fun k v => (((), (k.1, (v, ()))), ((k.2.1, (k.2.2, ())), ())), fun t => (t.1.2.1, (t.2.1.1, t.2.1.2.1)), fun t => t.1.2.2.1, wbs, fun k r => .s (Unit) (Unit) r (fun _ => .l (.exit 2 (mkSt ({ slots := [1, 3], sh := (yj [.box 1 0, .dat yi]), obs := [(1, .cells Zg)] }) (((), (k.1, ())), ((k.2.1, (k.2.2, ())), ()))))) (fun _ => .l (.ret (mkSt ((ys [2] Zh)) ((false, ()), ()))))⟩
noncomputable def wbt (k : Y1 × Y2) (v : Int) : Tr ((Int) ⊕ ((Unit) ⊕ (Unit))) :=
 .t (decide (v < ((length k.2 : Nat) : Int)))
 (.c ((Unit) ⊕ (Unit)) (wqa (v, (k.1, k.2)) (0 : Int)) fun r40_ =>
 .s (Unit) (Unit) r40_
 (fun _ => .l (.inl (wrap .i64 (v + 1))))
 (fun _ => .l (.inr (.inr ()))))
 (.l (.inr (.inl ())))
noncomputable def wqb (k : Y1 × Y2) (v : Int) : Option ((Unit) ⊕ (Unit)) := iter (fun v => (wbt k v).ev) v
noncomputable def wlk : LD := ⟨{ acts := [], S := { slots := [1, 3], sh := (yj [.box 1 0, .dat yi]), obs := [(1, .cells Zg)] } }, [(0, (yh [] .nil))], (yh [2] Zh), Y1 × Y2, Int, (Unit) ⊕ (Unit), fun k v => (((), (v, ())), ((k.1, (k.2, ())), ())), fun t => (t.2.1.1, t.2.1.2.1), fun t => t.1.2.1, wbt, fun _ r => .s (Unit) (Unit) r (fun _ => .l (.exit 0 (mkSt ((ys [] .nil)) ((), ())))) (fun _ => .l (.ret (mkSt ((ys [2] Zh)) ((false, ()), ()))))⟩
noncomputable def wacn (a1_ : Y1) (a2_ : List Y1) : Tr (Bool) :=
 .c ((Unit) ⊕ (Unit)) (wqb (a1_, a2_) (0 : Int)) fun r44_ =>
 .s (Unit) (Unit) r44_
 (fun _ => .l true)
 (fun _ => .l false)
noncomputable def wut (a1_ : Y1) (a2_ : List Y1) : Option (Bool) := (wacn a1_ a2_).ev
noncomputable def watk : RetK := yr [.tmp 2] Zh
noncomputable def waco : FD := yd (yj [.agg Zg]) [] [] Bool (fun x => wut x.1.1.1 x.1.1.2.1) (fun r => ([.dat .bool r], []))
noncomputable def woh : Env := envOf []
noncomputable def woi : List (Nat × LD) := [(6, wlh), (4, wli), (2, wlj), (0, wlk)]
noncomputable def woj : Code := (f229.body).getD .skip
noncomputable def wacp (a1_ : Int) (a2_ : Int) : Tr (Int) :=
 .t (decide (a1_ < a2_))
 (.l a1_)
 (.l a2_)
noncomputable def wqc (a1_ : Int) (a2_ : Int) : Option (Int) := (wacp a1_ a2_).ev
noncomputable def watl : RetK := yr [.tmp 4] Zi
noncomputable def wuu : FD := yd Zx [] [] Int (fun x => wqc x.1.1 x.1.2.1) (fun r => ([.dat yi r], []))
noncomputable def wfj (k : Int × Yq) (v : Int × Y2) : Tr (Yl ⊕ Y2) :=
 .t (decide (v.1 < ((length k.2.2.2 : Nat) : Int)))
 (.g (inR k.1 (length v.2)) <|
 .g (decide ((toNat k.1) < length v.2)) <|
 .g (inR k.1 (length v.2)) <|
 .g (decide ((toNat k.1) < length v.2)) <|
 .g (inR k.2.2.1 (length (getD v.2 (toNat k.1) ([] : Y1)))) <|
 .g (decide ((toNat k.2.2.1) < length (getD v.2 (toNat k.1) ([] : Y1)))) <|
 .g (inR k.1 (length v.2)) <|
 .g (decide ((toNat k.1) < length v.2)) <|
 .g (inR v.1 (length (getD v.2 (toNat k.1) ([] : Y1)))) <|
 .g (decide ((toNat v.1) < length (getD v.2 (toNat k.1) ([] : Y1)))) <|
 .g (inR k.2.1 (length v.2)) <|
 .g (decide ((toNat k.2.1) < length v.2)) <|
 .g (inR v.1 (length (getD v.2 (toNat k.2.1) ([] : Y1)))) <|
 .g (decide ((toNat v.1) < length (getD v.2 (toNat k.2.1) ([] : Y1)))) <|
 .g (inR k.2.1 (length v.2)) <|
 .g (decide ((toNat k.2.1) < length v.2)) <|
 .g (inR k.2.2.1 (length (getD v.2 (toNat k.2.1) ([] : Y1)))) <|
 .g (decide ((toNat k.2.2.1) < length (getD v.2 (toNat k.2.1) ([] : Y1)))) <|
 .c (Int) (wqc (getD (getD v.2 (toNat k.1) ([] : Y1)) (toNat k.2.2.1) (0 : Int)) (wrap .i64 ((wrap .i64 ((getD (getD v.2 (toNat k.1) ([] : Y1)) (toNat v.1) (0 : Int)) + (getD (getD v.2 (toNat k.2.1) ([] : Y1)) (toNat v.1) (0 : Int)))) + (getD (getD v.2 (toNat k.2.1) ([] : Y1)) (toNat k.2.2.1) (0 : Int))))) fun r23_ =>
 .g (inR k.2.2.1 (length (getD v.2 (toNat k.1) ([] : Y1)))) <|
 .g (decide ((toNat k.2.2.1) < length (getD v.2 (toNat k.1) ([] : Y1)))) <|
 .l (.inl ((wrap .i64 (v.1 + 1)), (set v.2 (toNat k.1) (set (getD v.2 (toNat k.1) ([] : Y1)) (toNat k.2.2.1) r23_)))))
 (.l (.inr v.2))
noncomputable def wqd (k : Int × Yq) (v : Int × Y2) : Option Y2 := iter (fun v => (wfj k v).ev) v
noncomputable def wll : LD := ⟨{ acts := [], S := { slots := [2, 3, 4, 5, 6, 7], sh := (yj [.box 2 0, .box 3 0, .dat yi, .dat yi, .dat yi, .dat yi]), obs := [(2, .cells Zu), Zr, Zak, Zac] } }, [(8, { acts := [], S := { slots := [2, 3, 4, 5, 6], sh := (yj [.box 2 0, .box 3 0, .dat yi, .dat yi, .dat yi]), obs := [(2, .cells Zu), Zr, Zak, Zac] } })], (yh [] .nil), Int × Yq, Int × Y2, List Y1, fun k v => (((), ((), (k.1, (k.2.1, (k.2.2.1, (v.1, ())))))), (((), ((), ())), (((), ((), ())), (k.2.2.2, (v.2, ()))))), fun t => (t.1.2.2.1, (t.1.2.2.2.1, (t.1.2.2.2.2.1, t.2.2.2.1))), fun t => (t.1.2.2.2.2.2.1, t.2.2.2.2.1), wfj, fun k r => .l (.exit 8 (mkSt ({ slots := [2, 3, 4, 5, 6], sh := (yj [.box 2 0, .box 3 0, .dat yi, .dat yi, .dat yi]), obs := [(2, .cells Zu), Zr, Zak, Zac] }) (((), ((), (k.1, (k.2.1, (k.2.2.1, ()))))), (((), ((), ())), (((), ((), ())), (k.2.2.2, (r, ())))))))⟩
noncomputable def wdb (k : Int × Yam) (v : Int × Y2) : Tr (Yl ⊕ Y2) :=
 .t (decide (v.1 < ((length k.2.2 : Nat) : Int)))
 (.c Y2 (wqd (k.1, (k.2.1, (v.1, k.2.2))) ((0 : Int), v.2)) fun r29_ =>
 .l (.inl ((wrap .i64 (v.1 + 1)), r29_)))
 (.l (.inr v.2))
noncomputable def wqe (k : Int × Yam) (v : Int × Y2) : Option Y2 := iter (fun v => (wdb k v).ev) v
noncomputable def wlm : LD := ⟨{ acts := [], S := { slots := [2, 3, 4, 5, 6], sh := (yj [.box 2 0, .box 3 0, .dat yi, .dat yi, .dat yi]), obs := [(2, .cells Zu), Zr, Zak, Zac] } }, [(6, { acts := [], S := { slots := [2, 3, 4, 5], sh := (yj [.box 2 0, .box 3 0, .dat yi, .dat yi]), obs := [(2, .cells Zu), Zr, Zak, Zac] } })], (yh [] .nil), Int × Yam, Int × Y2, List Y1, fun k v => (((), ((), (k.1, (k.2.1, (v.1, ()))))), (((), ((), ())), (((), ((), ())), (k.2.2, (v.2, ()))))), fun t => (t.1.2.2.1, (t.1.2.2.2.1, t.2.2.2.1)), fun t => (t.1.2.2.2.2.1, t.2.2.2.2.1), wdb, fun k r => .l (.exit 6 (mkSt ({ slots := [2, 3, 4, 5], sh := (yj [.box 2 0, .box 3 0, .dat yi, .dat yi]), obs := [(2, .cells Zu), Zr, Zak, Zac] }) (((), ((), (k.1, (k.2.1, ())))), (((), ((), ())), (((), ((), ())), (k.2.2, (r, ())))))))⟩
noncomputable def wdc (k : Int × Y1) (v : Int × Y2) : Tr (Yl ⊕ Y2) :=
 .t (decide (v.1 < ((length v.2 : Nat) : Int)))
 (.c Y2 (wqe (k.1, (v.1, k.2)) ((0 : Int), v.2)) fun r34_ =>
 .l (.inl ((wrap .i64 (v.1 + 1)), r34_)))
 (.l (.inr v.2))
noncomputable def wqf (k : Int × Y1) (v : Int × Y2) : Option Y2 := iter (fun v => (wdc k v).ev) v
noncomputable def wln : LD := ⟨{ acts := [], S := { slots := [2, 3, 4, 5], sh := (yj [.box 2 0, .box 3 0, .dat yi, .dat yi]), obs := [(2, .cells Zu), Zr, Zak, Zac] } }, [(4, { acts := [], S := { slots := [2, 3, 4], sh := (yj [.box 2 0, .box 3 0, .dat yi]), obs := [(2, .cells Zu), Zr, Zak, Zac] } })], (yh [] .nil), Int × Y1, Int × Y2, List Y1, fun k v => (((), ((), (k.1, (v.1, ())))), (((), ((), ())), (((), ((), ())), (k.2, (v.2, ()))))), fun t => (t.1.2.2.1, t.2.2.2.1), fun t => (t.1.2.2.2.1, t.2.2.2.2.1), wdc, fun k r => .l (.exit 4 (mkSt ({ slots := [2, 3, 4], sh := (yj [.box 2 0, .box 3 0, .dat yi]), obs := [(2, .cells Zu), Zr, Zak, Zac] }) (((), ((), (k.1, ()))), (((), ((), ())), (((), ((), ())), (k.2, (r, ())))))))⟩
noncomputable def wdd (k : Y1) (v : Int × Y2) : Tr (Yl ⊕ Y2) :=
 .t (decide (v.1 < ((length v.2 : Nat) : Int)))
 (.c Y2 (wqf (v.1, k) ((0 : Int), v.2)) fun r38_ =>
 .l (.inl ((wrap .i64 (v.1 + 1)), r38_)))
 (.l (.inr v.2))
noncomputable def wqg (k : Y1) (v : Int × Y2) : Option Y2 := iter (fun v => (wdd k v).ev) v
noncomputable def wlp : LD := ⟨{ acts := [], S := { slots := [2, 3, 4], sh := (yj [.box 2 0, .box 3 0, .dat yi]), obs := [(2, .cells Zu), Zr, Zak, Zac] } }, [(2, { acts := [], S := { slots := [2, 3], sh := (yj [.box 2 0, .box 3 0]), obs := [(2, .cells Zu), Zr, Zak, Zac] } })], (yh [] .nil), Y1, Int × Y2, List Y1, fun k v => (((), ((), (v.1, ()))), (((), ((), ())), (((), ((), ())), (k, (v.2, ()))))), fun t => t.2.2.2.1, fun t => (t.1.2.2.1, t.2.2.2.2.1), wdd, fun k r => .l (.exit 2 (mkSt ({ slots := [2, 3], sh := (yj [.box 2 0, .box 3 0]), obs := [(2, .cells Zu), Zr, Zak, Zac] }) (((), ((), ())), (((), ((), ())), (((), ((), ())), (k, (r, ())))))))⟩
noncomputable def wfk (k : Y1) (v : List Y1) : Tr (Y2 ⊕ Y2) :=
 .c (Bool) (wut k v) fun r4_ =>
 .t (!r4_)
 (.c Y2 (wqg k ((0 : Int), v)) fun r41_ =>
 .l (.inl r41_))
 (.l (.inr v))
noncomputable def wfl (k : Y1) (v : List Y1) : Option Y2 := iter (fun v => (wfk k v).ev) v
noncomputable def wlq : LD := ⟨{ acts := [], S := { slots := [2, 3], sh := (yj [.box 2 0, .box 3 0]), obs := [(2, .cells Zu), Zr, Zak, Zac] } }, [(0, { acts := [], S := { slots := [2, 3], sh := (yj [.box 2 0, .box 3 0]), obs := [(2, .cells Zu), Zr, Zak, Zac] } })], (yh [] .nil), Y1, List Y1, List Y1, fun k v => (((), ((), ())), (((), ((), ())), (((), ((), ())), (k, (v, ()))))), fun t => t.2.2.2.1, fun t => t.2.2.2.2.1, wfk, fun k r => .l (.exit 0 (mkSt ({ slots := [2, 3], sh := (yj [.box 2 0, .box 3 0]), obs := [(2, .cells Zu), Zr, Zak, Zac] }) (((), ((), ())), (((), ((), ())), (((), ((), ())), (k, (r, ())))))))⟩
noncomputable def wacq (a1_ : Y1) (a2_ : List Y1) : Tr Yt :=
 .c Yt (wus a1_ a2_) fun r1_ =>
 .c Y2 (wfl r1_.1 r1_.2) fun r44_ =>
 .l (r1_.1, r44_)
noncomputable def wuv (a1_ : Y1) (a2_ : List Y1) : Option Yt := (wacq a1_ a2_).ev
noncomputable def watm : RetK := { acts := [.ren 577 1, .ren 580 4], res := [.cell 2 27], sh := (yj [.agg (yj [.arr 1, .arr 4])]), obs := [(1, .arr 3 yi), (4, .rows 24 3 yi)], pins := [] }
noncomputable def wacr : FD := yd (yj [.agg Zg]) [] [] Yt (fun x => wuv x.1.1.1 x.1.1.2.1) (fun r => ([.agg [.arr 1, .arr 4]], [(1, .arr 3 yi r.1), (4, .rows 24 3 yi r.2 none)]))
noncomputable def wjg : Env := envOf [(228, wacj), (229, waco), (194, wuu)]
noncomputable def wjh : List (Nat × LD) := [(8, wll), (6, wlm), (4, wln), (2, wlp), (0, wlq)]
noncomputable def wji : Code := (f178.body).getD .skip
noncomputable def wacs (a4_ : Int) (a1_ : Y1) (a2_ : Int) (a3_ : Int) : Tr Ym :=
 .c Yk (wba (3 : Int) a1_ a2_ a3_) fun r1_ =>
 .t (r1_.1 == 0)
 (.c Ym (woe a4_ r1_.2.1 r1_.2.2.1 r1_.2.2.2) fun r2_ =>
 .c Ym (wog r2_.2.2.1 r2_.2.2.2.1 r2_.2.2.2.2 r2_.1 r2_.2.1) fun r3_ =>
 .l (r3_.1, (r3_.2.1, (r3_.2.2.1, (r3_.2.2.2.1, r3_.2.2.2.2)))))
 (.t (r1_.1 == 1)
 (.c Ym (wur a4_ r1_.2.1 r1_.2.2.1 r1_.2.2.2) fun r4_ =>
 .c Ym (wog r4_.2.2.1 r4_.2.2.2.1 r4_.2.2.2.2 r4_.1 r4_.2.1) fun r5_ =>
 .l (r5_.1, (r5_.2.1, (r5_.2.2.1, (r5_.2.2.2.1, r5_.2.2.2.2)))))
 (.c Ym (woe a4_ r1_.2.1 r1_.2.2.1 r1_.2.2.2) fun r6_ =>
 .c Yt (wuv r6_.1 r6_.2.1) fun r7_ =>
 .c Ym (wog r6_.2.2.1 r6_.2.2.2.1 r6_.2.2.2.2 r7_.1 r7_.2) fun r8_ =>
 .l (r8_.1, (r8_.2.1, (r8_.2.2.1, (r8_.2.2.2.1, r8_.2.2.2.2))))))
noncomputable def wqh (a4_ : Int) (a1_ : Y1) (a2_ : Int) (a3_ : Int) : Option Ym := (wacs a4_ a1_ a2_ a3_).ev
noncomputable def watn : RetK := { acts := [.ren 833 1, .ren 1281 1, .ren 1665 1, .ren 834 2, .ren 1282 2, .ren 1666 2], res := [.cell 4 27], sh := (yj [.agg (yj [.arr 1, .arr 2])]), obs := [(1, .arr 3 yi), (2, .rows 24 3 yi), Ze], pins := [(0, 0, 64)] }
noncomputable def wuw : FD := yd (yj [.box 64 0, .dat yi]) [Ze] [.arg 0] Ym (fun x => wqh x.1.2.1 x.2.1.1 x.2.1.2.1 x.2.1.2.2.1) (fun r => ([.agg [.arr 1, .arr 2]], [(1, .arr 3 yi r.1), (2, .rows 24 3 yi r.2.1 none), (64, .cells [.dat Zv r.2.2.1, .dat yi r.2.2.2.1, .dat (.int .u64) r.2.2.2.2])]))
noncomputable def wact (a4_ : Int) (a1_ : Y1) (a2_ : Int) (a3_ : Int) : Tr (Bool × (Y1 × Yf)) :=
 .c Yk (wba a4_ a1_ a2_ a3_) fun r1_ =>
 .l ((r1_.1 == 0), (r1_.2.1, (r1_.2.2.1, r1_.2.2.2)))
noncomputable def whz (a4_ : Int) (a1_ : Y1) (a2_ : Int) (a3_ : Int) : Option (Bool × (Y1 × Yf)) := (wact a4_ a1_ a2_ a3_).ev
noncomputable def wato : RetK := { acts := [], res := [.tmp 4], sh := Zh, obs := [Ze], pins := [(0, 0, 64)] }
noncomputable def wux : FD := yd (yj [.box 64 0, .dat yi]) [Ze] [.arg 0] (Bool × (Y1 × Yf)) (fun x => whz x.1.2.1 x.2.1.1 x.2.1.2.1 x.2.1.2.2.1) (fun r => ([.dat .bool r.1], [(64, .cells [.dat Zv r.2.1, .dat yi r.2.2.1, .dat (.int .u64) r.2.2.2])]))
noncomputable def wacu (a1_ : Y1) (a2_ : Int) (a3_ : Int) : Tr Yk :=
 .c (Bool × (Y1 × Yf)) (whz (24 : Int) a1_ a2_ a3_) fun r1_ =>
 .t r1_.1
 (.c Yk (wcn ([(0 : Int), (6 : Int), (-1 : Int)] : Y1) r1_.2.1 r1_.2.2.1 r1_.2.2.2) fun r2_ =>
 .l (r2_.1, (r2_.2.1, (r2_.2.2.1, r2_.2.2.2))))
 (.c Yk (wba (5 : Int) r1_.2.1 r1_.2.2.1 r1_.2.2.2) fun r3_ =>
 .l ((wrap .i64 ((1 : Int) + r3_.1)), (r3_.2.1, (r3_.2.2.1, r3_.2.2.2))))
noncomputable def wia (a1_ : Y1) (a2_ : Int) (a3_ : Int) : Option Yk := (wacu a1_ a2_ a3_).ev
noncomputable def watp : RetK := { acts := [], res := [.tmp 2], sh := Zi, obs := [Ze], pins := [(0, 0, 64)] }
noncomputable def wqi : FD := yd (yj [.box 64 0]) [Ze] [.arg 0] Yk (fun x => wia x.2.1.1 x.2.1.2.1 x.2.1.2.2.1) (fun r => ([.dat yi r.1], [(64, .cells [.dat Zv r.2.1, .dat yi r.2.2.1, .dat (.int .u64) r.2.2.2])]))
noncomputable def watq : Nat → Nat → List Nat := fun r i => match look [(2, [(2, [6])])] r with
 | some l => (look l i).getD []
 | none => []
noncomputable def wacv (a1_ : Y1) : Tr Yae :=
 .c Yk (wcn ([(5 : Int), (5 : Int), (6 : Int), (7 : Int)] : Y1) a1_ (0 : Int) (0 : Int)) fun r1_ =>
 .c Ym (wqh r1_.1 r1_.2.1 r1_.2.2.1 r1_.2.2.2) fun r2_ =>
 .c Yk (wia r2_.2.2.1 r2_.2.2.2.1 r2_.2.2.2.2) fun r3_ =>
 .c Yk (wia r3_.2.1 r3_.2.2.1 r3_.2.2.2) fun r4_ =>
 .l (r3_.1, (r4_.1, (r2_.1, r2_.2.1)))
noncomputable def wuy (a1_ : Y1) : Option Yae := (wacv a1_).ev
noncomputable def watr : RetK := { acts := [.ren 897 3, .ren 898 4], res := [.cell 2 27, .tmp 3, .tmp 4], sh := (yj [.agg (yj [.arr 3, .arr 4]), .dat yi, .dat yi]), obs := [(3, .arr 3 yi), (4, .rows 24 3 yi)], pins := [] }
noncomputable def wacw : FD := yd (yj [.dat Zv]) [] [] Yae (fun x => wuy x.1.1) (fun r => ([.agg [.arr 3, .arr 4], .dat yi r.1, .dat yi r.2.1], [(3, .arr 3 yi r.2.2.1), (4, .rows 24 3 yi r.2.2.2 none)]))
noncomputable def wats : Nat → Nat → List Nat := fun r i => match look [(2, [(3, [12])])] r with
 | some l => (look l i).getD []
 | none => []
noncomputable def wacx (a1_ : Int) (a2_ : Int) (a3_ : Int) : Tr (Bool) :=
 .t (decide (a2_ ≤ a1_))
 (.l (decide (a1_ ≤ a3_)))
 (.l false)
noncomputable def wjj (a1_ : Int) (a2_ : Int) (a3_ : Int) : Option (Bool) := (wacx a1_ a2_ a3_).ev
noncomputable def watt : RetK := yr [.tmp 6] Zh
noncomputable def wok : FD := yd (yj [.dat yi, .dat yi, .dat yi]) [] [] Bool (fun x => wjj x.1.1 x.1.2.1 x.1.2.2.1) (fun r => ([.dat .bool r], []))
noncomputable def wde (k : Y1 × (((HL [yi] → Option (Bool))) × Int)) (v : Int) : Tr ((Int) ⊕ ((Unit) ⊕ (Int))) :=
 .t (decide (v < k.2.2))
 (.g (inR v (length k.1)) <|
 .c (Bool) (k.2.1 ((getD k.1 (toNat v) 0), ())) fun r5_ =>
 .t r5_
 (.l (.inr (.inr v)))
 (.l (.inl (wrap .i64 (v + 1)))))
 (.l (.inr (.inl ())))
noncomputable def wqj (k : Y1 × (((HL [yi] → Option (Bool))) × Int)) (v : Int) : Option ((Unit) ⊕ (Int)) := iter (fun v => (wde k v).ev) v
noncomputable def wlr : LD := ⟨(yh [0, 1, 7, 8] (yj [.dat y1, .clo [yi] .bool, .dat yi, .dat yi])), [(0, (yh [] .nil))], (yh [4] Zi), Y1 × (((HL [yi] → Option (Bool))) × Int), Int, (Unit) ⊕ (Int), fun k v => ((k.1, (k.2.1, (k.2.2, (v, ())))), ()), fun t => (t.1.1, (t.1.2.1, t.1.2.2.1)), fun t => t.1.2.2.2.1, wde, fun _ r => .s (Unit) (Int) r (fun _ => .l (.exit 0 (mkSt ((ys [] .nil)) ((), ())))) (fun b => .l (.ret (mkSt ((ys [4] Zi)) ((b, ()), ()))))⟩
noncomputable def wacy (a1_ : Y1) (a2_ : (HL [yi] → Option (Bool))) : Tr (Int) :=
 .c ((Unit) ⊕ (Int)) (wqj (a1_, (a2_, ((length a1_ : Nat) : Int))) (0 : Int)) fun r7_ =>
 .s (Unit) (Int) r7_
 (fun _ => .l (-1 : Int))
 (fun r9_ => .l r9_)
noncomputable def wuz (a1_ : Y1) (a2_ : (HL [yi] → Option (Bool))) : Option (Int) := (wacy a1_ a2_).ev
noncomputable def watu : RetK := yr [.tmp 4] Zi
noncomputable def wacz : FD := yd (yj [.dat y1, .clo [yi] .bool]) [] [] Int (fun x => wuz x.1.1 x.1.2.1) (fun r => ([.dat yi r], []))
noncomputable def wada : Env := envOf []
noncomputable def wadb : List (Nat × LD) := [(0, wlr)]
noncomputable def wadc : Code := (f206.body).getD .skip
noncomputable def wadd (a1_ : Y1) (a2_ : (HL [yi] → Option (Bool))) : Tr (Bool) :=
 .c (Int) (wuz a1_ a2_) fun r1_ =>
 .l (decide (0 ≤ r1_))
noncomputable def wva (a1_ : Y1) (a2_ : (HL [yi] → Option (Bool))) : Option (Bool) := (wadd a1_ a2_).ev
noncomputable def watv : RetK := yr [.tmp 4] Zh
noncomputable def wvb : FD := yd (yj [.dat y1, .clo [yi] .bool]) [] [] Bool (fun x => wva x.1.1 x.1.2.1) (fun r => ([.dat .bool r], []))
noncomputable def T_zx (a1_ : Int) (a2_ : Int) (a3_ : Int) : Tr (Bool) :=
 .c (Bool) (wjj a1_ a2_ a3_) fun r1_ =>
 .l (!r1_)
noncomputable def F_zx (a1_ : Int) (a2_ : Int) (a3_ : Int) : Option (Bool) := (T_zx a1_ a2_ a3_).ev
noncomputable def K_zx : RetK := yr [.tmp 4] Zh
noncomputable def D_zx : FD := yd (yj [.dat yi, .ptr Zi, .ptr Zi]) [] [] Bool (fun x => F_zx x.1.1 x.1.2.1.1 x.1.2.2.1.1) (fun r => ([.dat .bool r], []))
noncomputable def T_zw (a1_ : Y1) (a2_ : Int) (a3_ : Int) : Tr (Bool) :=
 .c (Bool) (wva a1_ (fun h1_ => Option.bind (F_zx h1_.1 a2_ a3_) fun y2_ => some y2_)) fun r3_ =>
 .l (!r3_)
noncomputable def F_zw (a1_ : Y1) (a2_ : Int) (a3_ : Int) : Option (Bool) := (T_zw a1_ a2_ a3_).ev
noncomputable def K_zw : RetK := yr [.tmp 6] Zh
noncomputable def D_zw : FD := yd (yj [.dat y1, .dat yi, .dat yi]) [] [] Bool (fun x => F_zw x.1.1 x.1.2.1 x.1.2.2.1) (fun r => ([.dat .bool r], []))
noncomputable def wdf (k : Y2 × ((Yz) × Int)) (v : Int) : Tr ((Int) ⊕ ((Unit) ⊕ (Int))) :=
 .t (decide (v < k.2.2))
 (.g (inR v (length k.1)) <|
 .c (Bool) (k.2.1 ((getD k.1 (toNat v) ([] : Y1)), ())) fun r5_ =>
 .t r5_
 (.l (.inr (.inr v)))
 (.l (.inl (wrap .i64 (v + 1)))))
 (.l (.inr (.inl ())))
noncomputable def wqk (k : Y2 × ((Yz) × Int)) (v : Int) : Option ((Unit) ⊕ (Int)) := iter (fun v => (wdf k v).ev) v
noncomputable def wls : LD := ⟨(yh [0, 1, 7, 8] (yj [.dat y2, .clo [y1] .bool, .dat yi, .dat yi])), [(0, (yh [] .nil))], (yh [4] Zi), Y2 × ((Yz) × Int), Int, (Unit) ⊕ (Int), fun k v => ((k.1, (k.2.1, (k.2.2, (v, ())))), ()), fun t => (t.1.1, (t.1.2.1, t.1.2.2.1)), fun t => t.1.2.2.2.1, wdf, fun _ r => .s (Unit) (Int) r (fun _ => .l (.exit 0 (mkSt ((ys [] .nil)) ((), ())))) (fun b => .l (.ret (mkSt ((ys [4] Zi)) ((b, ()), ()))))⟩
noncomputable def wade (a1_ : List Y1) (a2_ : Yz) : Tr (Int) :=
 .c ((Unit) ⊕ (Int)) (wqk (a1_, (a2_, ((length a1_ : Nat) : Int))) (0 : Int)) fun r7_ =>
 .s (Unit) (Int) r7_
 (fun _ => .l (-1 : Int))
 (fun r9_ => .l r9_)
noncomputable def wql (a1_ : List Y1) (a2_ : Yz) : Option (Int) := (wade a1_ a2_).ev
noncomputable def waua : RetK := yr [.tmp 4] Zi
noncomputable def wvc : FD := yd (yj [.dat y2, .clo [y1] .bool]) [] [] Int (fun x => wql x.1.1 x.1.2.1) (fun r => ([.dat yi r], []))
noncomputable def wadf : Env := envOf []
noncomputable def wadg : List (Nat × LD) := [(0, wls)]
noncomputable def wadh : Code := (f131.body).getD .skip
noncomputable def wadi (a1_ : List Y1) (a2_ : Yz) : Tr (Bool) :=
 .c (Int) (wql a1_ a2_) fun r1_ =>
 .l (decide (0 ≤ r1_))
noncomputable def wvd (a1_ : List Y1) (a2_ : Yz) : Option (Bool) := (wadi a1_ a2_).ev
noncomputable def waub : RetK := yr [.tmp 4] Zh
noncomputable def wve : FD := yd (yj [.dat y2, .clo [y1] .bool]) [] [] Bool (fun x => wvd x.1.1 x.1.2.1) (fun r => ([.dat .bool r], []))
noncomputable def T_zu (a1_ : Y1) (a2_ : Y1) (_a3_ : List Y1) : Tr (Bool) :=
 .t (((length a1_ : Nat) : Int) != ((length a2_ : Nat) : Int))
 (.l true)
 (.c (Bool) (F_zw a1_ (0 : Int) (99 : Int)) fun r1_ =>
 .l (!r1_))
noncomputable def F_zu (a1_ : Y1) (a2_ : Y1) (a3_ : List Y1) : Option (Bool) := (T_zu a1_ a2_ a3_).ev
noncomputable def K_zu : RetK := yr [.tmp 3] Zh
noncomputable def D_zu : FD := yd (yj [.dat y1, .ptr Zg]) [] [] Bool (fun x => F_zu x.1.1 x.1.2.1.1 x.1.2.1.2.1) (fun r => ([.dat .bool r], []))
noncomputable def T_zt (a1_ : Y1) (a2_ : List Y1) : Tr (Bool) :=
 .c (Bool) (wjj ((length a1_ : Nat) : Int) (1 : Int) (7 : Int)) fun r1_ =>
 .t r1_
 (.c (Bool) (F_zw a1_ (0 : Int) (99 : Int)) fun r2_ =>
 .t r2_
 (.t (decide (((length a2_ : Nat) : Int) ≤ (7 : Int)))
 (.c (Bool) (wvd a2_ (fun h3_ => Option.bind (F_zu h3_.1 a1_ a2_) fun y4_ => some y4_)) fun r5_ =>
 .l (!r5_))
 (.l false))
 (.l false))
 (.l false)
noncomputable def F_zt (a1_ : Y1) (a2_ : List Y1) : Option (Bool) := (T_zt a1_ a2_).ev
noncomputable def K_zt : RetK := yr [.tmp 2] Zh
noncomputable def D_zt : FD := yd (yj [.agg Zg]) [] [] Bool (fun x => F_zt x.1.1.1 x.1.1.2.1) (fun r => ([.dat .bool r], []))
noncomputable def wvf (a1_ : Int) : Tr (Bool) :=
 .c (Bool) (wjj a1_ (1 : Int) (5 : Int)) fun r1_ =>
 .l r1_
noncomputable def wol (a1_ : Int) : Option (Bool) := (wvf a1_).ev
noncomputable def wauf : RetK := yr [.tmp 2] Zh
noncomputable def wvg : FD := yd Zi [] [] Bool (fun x => wol x.1.1) (fun r => ([.dat .bool r], []))
noncomputable def wadj (a1_ : Y1) (a2_ : List Y1) (a3_ : Int) (a4_ : Int) : Tr (Bool) :=
 .c (Bool) (F_zt a1_ a2_) fun r1_ =>
 .t r1_
 (.c (Bool) (wol a3_) fun r2_ =>
 .t r2_
 (.c (Bool) (wol a4_) fun r3_ =>
 .l r3_)
 (.l false))
 (.l false)
noncomputable def wom (a1_ : Y1) (a2_ : List Y1) (a3_ : Int) (a4_ : Int) : Option (Bool) := (wadj a1_ a2_ a3_ a4_).ev
noncomputable def waug : RetK := yr [.tmp 6] Zh
noncomputable def wqm : FD := yd (yj [.agg Zg, .dat yi, .dat yi]) [] [] Bool (fun x => wom x.1.1.1 x.1.1.2.1 x.1.2.1 x.1.2.2.1) (fun r => ([.dat .bool r], []))
noncomputable def T_zy (a1_ : Int) (a2_ : Int) : Tr (Bool) :=
 .g (decide (0 ≤ a2_)) <|
 .l ((wrap .u64 (BitVec.toNat ((BitVec.ofInt Zb (Int.fdiv a1_ (2 ^ (min (toNat a2_) Zb)))) &&& (BitVec.ofInt Zb (1 : Int))))) == (1 : Int))
noncomputable def F_zy (a1_ : Int) (a2_ : Int) : Option (Bool) := (T_zy a1_ a2_).ev
noncomputable def K_zy : RetK := yr [.tmp 4] Zh
noncomputable def D_zy : FD := yd (yj [.dat (.int .u64), .dat yi]) [] [] Bool (fun x => F_zy x.1.1 x.1.2.1) (fun r => ([.dat .bool r], []))
noncomputable def wlt (k : Int) (v : Int × Y1) : Tr (Yam ⊕ Y1) :=
 .g (decide (0 ≤ v.1)) <|
 .t (decide ((0 : Int) < (Int.fdiv k (2 ^ (min (toNat v.1) Zb)))))
 (.c (Bool) (F_zy k v.1) fun r4_ =>
 .t r4_
 (.g (decide ((length v.2 + length ([v.1] : Y1)) * 8 ≤ 140737488355328)) <|
 .l (.inl ((wrap .i64 (v.1 + 1)), (v.2 ++ ([v.1] : Y1)))))
 (.l (.inl ((wrap .i64 (v.1 + 1)), v.2))))
 (.l (.inr v.2))
noncomputable def wqn (k : Int) (v : Int × Y1) : Option Y1 := iter (fun v => (wlt k v).ev) v
noncomputable def wqo : LD := ⟨{ acts := [], S := { slots := [0, 3, 4], sh := (yj [.dat (.int .u64), .arr 5, .dat yi]), obs := [(5, .arr 3 yi)] } }, [(0, { acts := [], S := { slots := [3], sh := (yj [.arr 5]), obs := [(5, .arr 3 yi)] } })], (yh [] .nil), Int, Int × Y1, Y1, fun k v => ((k, ((), (v.1, ()))), (v.2, ())), fun t => t.1.1, fun t => (t.1.2.2.1, t.2.1), wlt, fun _ r => .l (.exit 0 (mkSt ({ slots := [3], sh := (yj [.arr 5]), obs := [(5, .arr 3 yi)] }) (((), ()), (r, ()))))⟩
noncomputable def T_zz (a1_ : Int) : Tr Y1 :=
 .c Y1 (wqn a1_ ((0 : Int), ([] : Y1))) fun r6_ =>
 .l r6_
noncomputable def F_zz (a1_ : Int) : Option Y1 := (T_zz a1_).ev
noncomputable def K_zz : RetK := { acts := [.ren 5 0], res := [.tmp 2], sh := (yj [.arr 0]), obs := [(0, .arr 3 yi)], pins := [] }
noncomputable def D_zz : FD := yd (yj [.dat (.int .u64)]) [] [] Y1 (fun x => F_zz x.1.1) (fun r => ([.arr 0], [(0, .arr 3 yi r)]))
noncomputable def E_zz : Env := envOf [(143, D_zy)]
noncomputable def O_zz : List (Nat × LD) := [(0, wqo)]
noncomputable def C_zz : Code := (f144.body).getD .skip
noncomputable def wvh (a1_ : Int) : Tr (Int) :=
 .t (decide (4294967296 ≤ a1_))
 (.g (decide ((0 : Int) ≤ (32 : Int))) <|
 .t (decide ((65536 : Int) ≤ (Int.fdiv a1_ (2 ^ (min (toNat 32) Zb)))))
 (.g (decide ((0 : Int) ≤ (16 : Int))) <|
 .t (decide ((256 : Int) ≤ (Int.fdiv (Int.fdiv a1_ (2 ^ (min (toNat 32) Zb))) (2 ^ (min (toNat 16) Zb)))))
 (.g (decide ((0 : Int) ≤ (8 : Int))) <|
 .g (inR (wrap .u8 (Int.fdiv (Int.fdiv (Int.fdiv a1_ (2 ^ (min (toNat 32) Zb))) (2 ^ (min (toNat 16) Zb))) (2 ^ (min (toNat 8) Zb)))) (length Za)) <|
 .l (wrap .i64 ((wrap .i64 ((wrap .i64 ((32 : Int) + 16)) + 8)) + (wrap .i64 ((UInt8.toNat (getD Za (toNat (wrap .u8 (Int.fdiv (Int.fdiv (Int.fdiv a1_ (2 ^ (min (toNat 32) Zb))) (2 ^ (min (toNat 16) Zb))) (2 ^ (min (toNat 8) Zb))))) 0) : Nat) : Int)))))
 (.g (inR (wrap .u8 (Int.fdiv (Int.fdiv a1_ (2 ^ (min (toNat 32) Zb))) (2 ^ (min (toNat 16) Zb)))) (length Za)) <|
 .l (wrap .i64 ((wrap .i64 ((32 : Int) + 16)) + (wrap .i64 ((UInt8.toNat (getD Za (toNat (wrap .u8 (Int.fdiv (Int.fdiv a1_ (2 ^ (min (toNat 32) Zb))) (2 ^ (min (toNat 16) Zb))))) 0) : Nat) : Int))))))
 (.t (decide ((256 : Int) ≤ (Int.fdiv a1_ (2 ^ (min (toNat 32) Zb)))))
 (.g (decide ((0 : Int) ≤ (8 : Int))) <|
 .g (inR (wrap .u8 (Int.fdiv (Int.fdiv a1_ (2 ^ (min (toNat 32) Zb))) (2 ^ (min (toNat 8) Zb)))) (length Za)) <|
 .l (wrap .i64 ((wrap .i64 ((32 : Int) + 8)) + (wrap .i64 ((UInt8.toNat (getD Za (toNat (wrap .u8 (Int.fdiv (Int.fdiv a1_ (2 ^ (min (toNat 32) Zb))) (2 ^ (min (toNat 8) Zb))))) 0) : Nat) : Int)))))
 (.g (inR (wrap .u8 (Int.fdiv a1_ (2 ^ (min (toNat 32) Zb)))) (length Za)) <|
 .l (wrap .i64 ((32 : Int) + (wrap .i64 ((UInt8.toNat (getD Za (toNat (wrap .u8 (Int.fdiv a1_ (2 ^ (min (toNat 32) Zb))))) 0) : Nat) : Int)))))))
 (.t (decide (65536 ≤ a1_))
 (.g (decide ((0 : Int) ≤ (16 : Int))) <|
 .t (decide ((256 : Int) ≤ (Int.fdiv a1_ (2 ^ (min (toNat 16) Zb)))))
 (.g (decide ((0 : Int) ≤ (8 : Int))) <|
 .g (inR (wrap .u8 (Int.fdiv (Int.fdiv a1_ (2 ^ (min (toNat 16) Zb))) (2 ^ (min (toNat 8) Zb)))) (length Za)) <|
 .l (wrap .i64 ((wrap .i64 ((wrap .i64 ((0 : Int) + 16)) + 8)) + (wrap .i64 ((UInt8.toNat (getD Za (toNat (wrap .u8 (Int.fdiv (Int.fdiv a1_ (2 ^ (min (toNat 16) Zb))) (2 ^ (min (toNat 8) Zb))))) 0) : Nat) : Int)))))
 (.g (inR (wrap .u8 (Int.fdiv a1_ (2 ^ (min (toNat 16) Zb)))) (length Za)) <|
 .l (wrap .i64 ((wrap .i64 ((0 : Int) + 16)) + (wrap .i64 ((UInt8.toNat (getD Za (toNat (wrap .u8 (Int.fdiv a1_ (2 ^ (min (toNat 16) Zb))))) 0) : Nat) : Int))))))
 (.t (decide (256 ≤ a1_))
 (.g (decide ((0 : Int) ≤ (8 : Int))) <|
 .g (inR (wrap .u8 (Int.fdiv a1_ (2 ^ (min (toNat 8) Zb)))) (length Za)) <|
 .l (wrap .i64 ((wrap .i64 ((0 : Int) + 8)) + (wrap .i64 ((UInt8.toNat (getD Za (toNat (wrap .u8 (Int.fdiv a1_ (2 ^ (min (toNat 8) Zb))))) 0) : Nat) : Int)))))
 (.g (inR (wrap .u8 a1_) (length Za)) <|
 .l (wrap .i64 ((0 : Int) + (wrap .i64 ((UInt8.toNat (getD Za (toNat (wrap .u8 a1_)) 0) : Nat) : Int)))))))
noncomputable def wvi (a1_ : Int) : Option (Int) := (wvh a1_).ev
noncomputable def waum : RetK := yr [.tmp 2] Zi
noncomputable def wadk : FD := yd (yj [.dat (.int .u64)]) [] [] Int (fun x => wvi x.1.1) (fun r => ([.dat yi r], []))
noncomputable def wvj (a1_ : Int) : Tr (Int) :=
 .c (Int) (wvi a1_) fun r1_ =>
 .l r1_
noncomputable def wqp (a1_ : Int) : Option (Int) := (wvj a1_).ev
noncomputable def waun : RetK := yr [.tmp 2] Zi
noncomputable def wvk : FD := yd (yj [.dat (.int .u64)]) [] [] Int (fun x => wqp x.1.1) (fun r => ([.dat yi r], []))
noncomputable def wfm (k : Int × (Int × ((Yd) × Int))) (v : Int × Y2) : Tr (Yl ⊕ Y2) :=
 .t (decide (k.1 < v.1))
 (.g (inR v.1 (length v.2)) <|
 .g (decide ((toNat v.1) < length v.2)) <|
 .g (inR (wrap .i64 (v.1 - 1)) (length v.2)) <|
 .g (decide ((toNat (wrap .i64 (v.1 - 1))) < length v.2)) <|
 .c (Int) (k.2.2.1 ((getD v.2 (toNat v.1) ([] : Y1)), ((getD v.2 (toNat (wrap .i64 (v.1 - 1))) ([] : Y1)), ()))) fun r12_ =>
 .t (decide (r12_ < 0))
 (.g (inR (wrap .i64 (v.1 - 1)) (length v.2)) <|
 .g (decide ((toNat (wrap .i64 (v.1 - 1))) < length v.2)) <|
 .g (inR v.1 (length v.2)) <|
 .g (decide ((toNat v.1) < length v.2)) <|
 .g (inR v.1 (length v.2)) <|
 .g (decide ((toNat v.1) < length v.2)) <|
 .g (inR (wrap .i64 (v.1 - 1)) (length (set v.2 (toNat v.1) (getD v.2 (toNat (wrap .i64 (v.1 - 1))) ([] : Y1))))) <|
 .g (decide ((toNat (wrap .i64 (v.1 - 1))) < length (set v.2 (toNat v.1) (getD v.2 (toNat (wrap .i64 (v.1 - 1))) ([] : Y1))))) <|
 .l (.inl ((wrap .i64 (v.1 - 1)), (set (set v.2 (toNat v.1) (getD v.2 (toNat (wrap .i64 (v.1 - 1))) ([] : Y1))) (toNat (wrap .i64 (v.1 - 1))) (getD v.2 (toNat v.1) ([] : Y1))))))
 (.l (.inr v.2)))
 (.l (.inr v.2))
noncomputable def wjk (k : Int × (Int × ((Yd) × Int))) (v : Int × Y2) : Option Y2 := iter (fun v => (wfm k v).ev) v
noncomputable def wlu : LD := ⟨{ acts := [], S := { slots := [0, 1, 2, 3, 8, 9], sh := (yj [.arr 64, .dat yi, .dat yi, .clo [y1, y1] yi, .dat yi, .dat yi]), obs := [Zn] } }, [(2, { acts := [], S := { slots := [0, 1, 2, 3, 8], sh := (yj [.arr 64, .dat yi, .dat yi, .clo [y1, y1] yi, .dat yi]), obs := [Zn] } })], (yh [] .nil), Int × (Int × ((Yd) × Int)), Int × Y2, List Y1, fun k v => (((), (k.1, (k.2.1, (k.2.2.1, (k.2.2.2, (v.1, ())))))), (v.2, ())), fun t => (t.1.2.1, (t.1.2.2.1, (t.1.2.2.2.1, t.1.2.2.2.2.1))), fun t => (t.1.2.2.2.2.2.1, t.2.1), wfm, fun k r => .l (.exit 2 (mkSt ({ slots := [0, 1, 2, 3, 8], sh := (yj [.arr 64, .dat yi, .dat yi, .clo [y1, y1] yi, .dat yi]), obs := [Zn] }) (((), (k.1, (k.2.1, (k.2.2.1, (k.2.2.2, ()))))), (r, ()))))⟩
noncomputable def wfn (k : Int × (Int × (Yd))) (v : Int × Y2) : Tr (Yl ⊕ Y2) :=
 .t (decide (v.1 < k.2.1))
 (.c Y2 (wjk (k.1, (k.2.1, (k.2.2, v.1))) (v.1, v.2)) fun r18_ =>
 .l (.inl ((wrap .i64 (v.1 + 1)), r18_)))
 (.l (.inr v.2))
noncomputable def wjl (k : Int × (Int × (Yd))) (v : Int × Y2) : Option Y2 := iter (fun v => (wfn k v).ev) v
noncomputable def wlv : LD := ⟨{ acts := [], S := { slots := [0, 1, 2, 3, 8], sh := (yj [.arr 64, .dat yi, .dat yi, .clo [y1, y1] yi, .dat yi]), obs := [Zn] } }, [(0, { acts := [], S := { slots := [0], sh := Zan, obs := [Zn] } })], (yh [] .nil), Int × (Int × (Yd)), Int × Y2, List Y1, fun k v => (((), (k.1, (k.2.1, (k.2.2, (v.1, ()))))), (v.2, ())), fun t => (t.1.2.1, (t.1.2.2.1, t.1.2.2.2.1)), fun t => (t.1.2.2.2.2.1, t.2.1), wfn, fun _ r => .l (.exit 0 (mkSt ({ slots := [0], sh := Zan, obs := [Zn] }) (((), ()), (r, ()))))⟩
noncomputable def wvl (a2_ : Int) (a3_ : Int) (a4_ : Yd) (a1_ : List Y1) : Tr Y2 :=
 .c Y2 (wjl (a2_, (a3_, a4_)) ((wrap .i64 (a2_ + 1)), a1_)) fun r20_ =>
 .l r20_
noncomputable def wvm (a2_ : Int) (a3_ : Int) (a4_ : Yd) (a1_ : List Y1) : Option Y2 := (wvl a2_ a3_ a4_ a1_).ev
noncomputable def wauo : RetK := { acts := [], res := [], sh := .nil, obs := [Zn], pins := [(0, 0, 64)] }
noncomputable def wadl : FD := yd (yj [.arr 64, .dat yi, .dat yi, .clo [y1, y1] yi]) [Zn] [.arg 0] (List Y1) (fun x => wvm x.1.2.1 x.1.2.2.1 x.1.2.2.2.1 x.2.1) (fun r => ([], [(64, .arr 24 y1 r)]))
noncomputable def wvn : Env := envOf []
noncomputable def wvo : List (Nat × LD) := [(2, wlu), (0, wlv)]
noncomputable def wvp : Code := (f251.body).getD .skip
noncomputable def wvq (a1_ : Int) : Tr (Int) :=
 .c (Int) (wqp (wrap .u64 a1_)) fun r1_ =>
 .g (decide (0 ≤ r1_)) <|
 .l (wrap .u64 ((1 : Int) * 2 ^ (min (toNat r1_) Zb)))
noncomputable def wvr (a1_ : Int) : Option (Int) := (wvq a1_).ev
noncomputable def waup : RetK := yr [.tmp 2] (yj [.dat (.int .u64)])
noncomputable def wadm : FD := yd Zi [] [] Int (fun x => wvr x.1.1) (fun r => ([.dat (.int .u64) r], []))
noncomputable def wvs (a1_ : Int) : Tr Yf :=
 .g (decide ((0 : Int) ≤ (13 : Int))) <|
 .g (decide ((0 : Int) ≤ (7 : Int))) <|
 .g (decide ((0 : Int) ≤ (17 : Int))) <|
 .l ((wrap .u64 (BitVec.toNat ((BitVec.ofInt Zb (wrap .u64 (BitVec.toNat ((BitVec.ofInt Zb (wrap .u64 (BitVec.toNat ((BitVec.ofInt Zb a1_) ^^^ (BitVec.ofInt Zb (wrap .u64 (a1_ * 2 ^ (min (toNat 13) Zb)))))))) ^^^ (BitVec.ofInt Zb (Int.fdiv (wrap .u64 (BitVec.toNat ((BitVec.ofInt Zb a1_) ^^^ (BitVec.ofInt Zb (wrap .u64 (a1_ * 2 ^ (min (toNat 13) Zb))))))) (2 ^ (min (toNat 7) Zb)))))))) ^^^ (BitVec.ofInt Zb (wrap .u64 ((wrap .u64 (BitVec.toNat ((BitVec.ofInt Zb (wrap .u64 (BitVec.toNat ((BitVec.ofInt Zb a1_) ^^^ (BitVec.ofInt Zb (wrap .u64 (a1_ * 2 ^ (min (toNat 13) Zb)))))))) ^^^ (BitVec.ofInt Zb (Int.fdiv (wrap .u64 (BitVec.toNat ((BitVec.ofInt Zb a1_) ^^^ (BitVec.ofInt Zb (wrap .u64 (a1_ * 2 ^ (min (toNat 13) Zb))))))) (2 ^ (min (toNat 7) Zb))))))) * 2 ^ (min (toNat 17) Zb))))))), (wrap .u64 (BitVec.toNat ((BitVec.ofInt Zb (wrap .u64 (BitVec.toNat ((BitVec.ofInt Zb (wrap .u64 (BitVec.toNat ((BitVec.ofInt Zb a1_) ^^^ (BitVec.ofInt Zb (wrap .u64 (a1_ * 2 ^ (min (toNat 13) Zb)))))))) ^^^ (BitVec.ofInt Zb (Int.fdiv (wrap .u64 (BitVec.toNat ((BitVec.ofInt Zb a1_) ^^^ (BitVec.ofInt Zb (wrap .u64 (a1_ * 2 ^ (min (toNat 13) Zb))))))) (2 ^ (min (toNat 7) Zb)))))))) ^^^ (BitVec.ofInt Zb (wrap .u64 ((wrap .u64 (BitVec.toNat ((BitVec.ofInt Zb (wrap .u64 (BitVec.toNat ((BitVec.ofInt Zb a1_) ^^^ (BitVec.ofInt Zb (wrap .u64 (a1_ * 2 ^ (min (toNat 13) Zb)))))))) ^^^ (BitVec.ofInt Zb (Int.fdiv (wrap .u64 (BitVec.toNat ((BitVec.ofInt Zb a1_) ^^^ (BitVec.ofInt Zb (wrap .u64 (a1_ * 2 ^ (min (toNat 13) Zb))))))) (2 ^ (min (toNat 7) Zb))))))) * 2 ^ (min (toNat 17) Zb))))))))
noncomputable def wvt (a1_ : Int) : Option Yf := (wvs a1_).ev
noncomputable def wauq : RetK := { acts := [], res := [.tmp 2], sh := (yj [.dat (.int .u64)]), obs := [(64, .cells (yj [.dat (.int .u64)]))], pins := [(0, 0, 64)] }
noncomputable def wadn : FD := yd (yj [.box 64 0]) [(64, .cells (yj [.dat (.int .u64)]))] [.arg 0] (Int × (Int)) (fun x => wvt x.2.1.1) (fun r => ([.dat (.int .u64) r.1], [(64, .cells [.dat (.int .u64) r.2])]))
noncomputable def wfo (k : Int × Yf) (v : Int × (Y2 × Int)) : Tr ((Int × (Y2 × Int)) ⊕ Y2) :=
 .g (!decide ((4 : Int) = 0)) <|
 .t (decide (v.1 ≤ (wrap .i64 ((wrap .i64 (k.1 + (wrap .i64 ((wrap .i64 (Int.tdiv k.2.1 (4 : Int))) * (2 : Int))))) + 1))))
 (.c Yf (wvt v.2.2) fun r8_ =>
 .t (decide (k.2.1 ≤ (wrap .i64 (wrap .u64 (BitVec.toNat ((BitVec.ofInt Zb r8_.1) &&& (BitVec.ofInt Zb (wrap .u64 (k.2.2 - 1)))))))))
 (.g (inR (wrap .i64 (k.1 + (wrap .i64 ((wrap .i64 (wrap .u64 (BitVec.toNat ((BitVec.ofInt Zb r8_.1) &&& (BitVec.ofInt Zb (wrap .u64 (k.2.2 - 1))))))) - k.2.1)))) (length v.2.1)) <|
 .g (decide ((toNat (wrap .i64 (k.1 + (wrap .i64 ((wrap .i64 (wrap .u64 (BitVec.toNat ((BitVec.ofInt Zb r8_.1) &&& (BitVec.ofInt Zb (wrap .u64 (k.2.2 - 1))))))) - k.2.1))))) < length v.2.1)) <|
 .g (inR v.1 (length v.2.1)) <|
 .g (decide ((toNat v.1) < length v.2.1)) <|
 .g (inR v.1 (length v.2.1)) <|
 .g (decide ((toNat v.1) < length v.2.1)) <|
 .g (inR (wrap .i64 (k.1 + (wrap .i64 ((wrap .i64 (wrap .u64 (BitVec.toNat ((BitVec.ofInt Zb r8_.1) &&& (BitVec.ofInt Zb (wrap .u64 (k.2.2 - 1))))))) - k.2.1)))) (length (set v.2.1 (toNat v.1) (getD v.2.1 (toNat (wrap .i64 (k.1 + (wrap .i64 ((wrap .i64 (wrap .u64 (BitVec.toNat ((BitVec.ofInt Zb r8_.1) &&& (BitVec.ofInt Zb (wrap .u64 (k.2.2 - 1))))))) - k.2.1))))) ([] : Y1))))) <|
 .g (decide ((toNat (wrap .i64 (k.1 + (wrap .i64 ((wrap .i64 (wrap .u64 (BitVec.toNat ((BitVec.ofInt Zb r8_.1) &&& (BitVec.ofInt Zb (wrap .u64 (k.2.2 - 1))))))) - k.2.1))))) < length (set v.2.1 (toNat v.1) (getD v.2.1 (toNat (wrap .i64 (k.1 + (wrap .i64 ((wrap .i64 (wrap .u64 (BitVec.toNat ((BitVec.ofInt Zb r8_.1) &&& (BitVec.ofInt Zb (wrap .u64 (k.2.2 - 1))))))) - k.2.1))))) ([] : Y1))))) <|
 .l (.inl ((wrap .i64 (v.1 + 1)), ((set (set v.2.1 (toNat v.1) (getD v.2.1 (toNat (wrap .i64 (k.1 + (wrap .i64 ((wrap .i64 (wrap .u64 (BitVec.toNat ((BitVec.ofInt Zb r8_.1) &&& (BitVec.ofInt Zb (wrap .u64 (k.2.2 - 1))))))) - k.2.1))))) ([] : Y1))) (toNat (wrap .i64 (k.1 + (wrap .i64 ((wrap .i64 (wrap .u64 (BitVec.toNat ((BitVec.ofInt Zb r8_.1) &&& (BitVec.ofInt Zb (wrap .u64 (k.2.2 - 1))))))) - k.2.1))))) (getD v.2.1 (toNat v.1) ([] : Y1))), r8_.2))))
 (.g (inR (wrap .i64 (k.1 + (wrap .i64 (wrap .u64 (BitVec.toNat ((BitVec.ofInt Zb r8_.1) &&& (BitVec.ofInt Zb (wrap .u64 (k.2.2 - 1))))))))) (length v.2.1)) <|
 .g (decide ((toNat (wrap .i64 (k.1 + (wrap .i64 (wrap .u64 (BitVec.toNat ((BitVec.ofInt Zb r8_.1) &&& (BitVec.ofInt Zb (wrap .u64 (k.2.2 - 1)))))))))) < length v.2.1)) <|
 .g (inR v.1 (length v.2.1)) <|
 .g (decide ((toNat v.1) < length v.2.1)) <|
 .g (inR v.1 (length v.2.1)) <|
 .g (decide ((toNat v.1) < length v.2.1)) <|
 .g (inR (wrap .i64 (k.1 + (wrap .i64 (wrap .u64 (BitVec.toNat ((BitVec.ofInt Zb r8_.1) &&& (BitVec.ofInt Zb (wrap .u64 (k.2.2 - 1))))))))) (length (set v.2.1 (toNat v.1) (getD v.2.1 (toNat (wrap .i64 (k.1 + (wrap .i64 (wrap .u64 (BitVec.toNat ((BitVec.ofInt Zb r8_.1) &&& (BitVec.ofInt Zb (wrap .u64 (k.2.2 - 1)))))))))) ([] : Y1))))) <|
 .g (decide ((toNat (wrap .i64 (k.1 + (wrap .i64 (wrap .u64 (BitVec.toNat ((BitVec.ofInt Zb r8_.1) &&& (BitVec.ofInt Zb (wrap .u64 (k.2.2 - 1)))))))))) < length (set v.2.1 (toNat v.1) (getD v.2.1 (toNat (wrap .i64 (k.1 + (wrap .i64 (wrap .u64 (BitVec.toNat ((BitVec.ofInt Zb r8_.1) &&& (BitVec.ofInt Zb (wrap .u64 (k.2.2 - 1)))))))))) ([] : Y1))))) <|
 .l (.inl ((wrap .i64 (v.1 + 1)), ((set (set v.2.1 (toNat v.1) (getD v.2.1 (toNat (wrap .i64 (k.1 + (wrap .i64 (wrap .u64 (BitVec.toNat ((BitVec.ofInt Zb r8_.1) &&& (BitVec.ofInt Zb (wrap .u64 (k.2.2 - 1)))))))))) ([] : Y1))) (toNat (wrap .i64 (k.1 + (wrap .i64 (wrap .u64 (BitVec.toNat ((BitVec.ofInt Zb r8_.1) &&& (BitVec.ofInt Zb (wrap .u64 (k.2.2 - 1)))))))))) (getD v.2.1 (toNat v.1) ([] : Y1))), r8_.2)))))
 (.l (.inr v.2.1))
noncomputable def wjm (k : Int × Yf) (v : Int × (Y2 × Int)) : Option Y2 := iter (fun v => (wfo k v).ev) v
noncomputable def wlw : LD := ⟨{ acts := [], S := { slots := [0, 1, 8, 9, 10, 11], sh := (yj [.arr 64, .dat yi, .dat yi, .box 9 0, .dat (.int .u64), .dat yi]), obs := [Zn, (9, .cells (yj [.dat (.int .u64)]))] } }, [(0, { acts := [], S := { slots := [0], sh := Zan, obs := [Zn] } })], (yh [] .nil), Int × Yf, Int × (Y2 × Int), List Y1, fun k v => (((), (k.1, (k.2.1, ((), (k.2.2, (v.1, ())))))), (v.2.1, ((v.2.2, ()), ()))), fun t => (t.1.2.1, (t.1.2.2.1, t.1.2.2.2.2.1)), fun t => (t.1.2.2.2.2.2.1, (t.2.1, t.2.2.1.1)), wfo, fun _ r => .l (.exit 0 (mkSt ({ slots := [0], sh := Zan, obs := [Zn] }) (((), ()), (r, ()))))⟩
noncomputable def wvu (a2_ : Int) (a3_ : Int) (_a4_ : Yd) (a1_ : List Y1) : Tr Y2 :=
 .t (decide ((8 : Int) ≤ (wrap .i64 (a3_ - a2_))))
 (.c (Int) (wvr (wrap .i64 (a3_ - a2_))) fun r1_ =>
 .g (!decide ((4 : Int) = 0)) <|
 .c Y2 (wjm (a2_, ((wrap .i64 (a3_ - a2_)), r1_)) ((wrap .i64 ((wrap .i64 (a2_ + (wrap .i64 ((wrap .i64 (Int.tdiv (wrap .i64 (a3_ - a2_)) (4 : Int))) * (2 : Int))))) - 1)), (a1_, (wrap .u64 (wrap .i64 (a3_ - a2_)))))) fun r10_ =>
 .l r10_)
 (.l a1_)
noncomputable def wvv (a2_ : Int) (a3_ : Int) (a4_ : Yd) (a1_ : List Y1) : Option Y2 := (wvu a2_ a3_ a4_ a1_).ev
noncomputable def waur : RetK := { acts := [], res := [], sh := .nil, obs := [Zn], pins := [(0, 0, 64)] }
noncomputable def wado : FD := yd (yj [.arr 64, .dat yi, .dat yi, .clo [y1, y1] yi]) [Zn] [.arg 0] (List Y1) (fun x => wvv x.1.2.1 x.1.2.2.1 x.1.2.2.2.1 x.2.1) (fun r => ([], [(64, .arr 24 y1 r)]))
noncomputable def wadp : Env := envOf [(270, wadm), (271, wadn)]
noncomputable def wadq : List (Nat × LD) := [(0, wlw)]
noncomputable def wadr : Code := (f253.body).getD .skip
noncomputable def wvw (a1_ : List Y1) (a2_ : Int) (a3_ : Int) (a5_ : Yd) (a4_ : Int) : Tr (Int × Yf) :=
 .g (inR a3_ (length a1_)) <|
 .g (inR a2_ (length a1_)) <|
 .c (Int) (a5_ ((getD a1_ (toNat a3_) ([] : Y1)), ((getD a1_ (toNat a2_) ([] : Y1)), ()))) fun r1_ =>
 .t (decide (r1_ < 0))
 (.l (a3_, (a2_, (wrap .i64 (a4_ + 1)))))
 (.l (a2_, (a3_, a4_)))
noncomputable def won (a1_ : List Y1) (a2_ : Int) (a3_ : Int) (a5_ : Yd) (a4_ : Int) : Option (Int × Yf) := (wvw a1_ a2_ a3_ a5_ a4_).ev
noncomputable def waus : RetK := { acts := [], res := [.tmp 10, .tmp 11], sh := Zx, obs := [(64, .cells Zi)], pins := [(3, 0, 64)] }
noncomputable def wads : FD := yd (yj [.dat y2, .dat yi, .dat yi, .box 64 0, .clo [y1, y1] yi]) [(64, .cells Zi)] [.arg 3] (Int × Yf) (fun x => won x.1.1 x.1.2.1 x.1.2.2.1 x.1.2.2.2.2.1 x.2.1.1) (fun r => ([.dat yi r.1, .dat yi r.2.1], [(64, .cells [.dat yi r.2.2])]))
noncomputable def wvx (a1_ : List Y1) (a2_ : Int) (a3_ : Int) (a4_ : Int) (a6_ : Yd) (a5_ : Int) : Tr Yf :=
 .c (Int × Yf) (won a1_ a2_ a3_ a6_ a5_) fun r1_ =>
 .c (Int × Yf) (won a1_ r1_.2.1 a4_ a6_ r1_.2.2) fun r2_ =>
 .c (Int × Yf) (won a1_ r1_.1 r2_.1 a6_ r2_.2.2) fun r3_ =>
 .l (r3_.2.1, r3_.2.2)
noncomputable def woo (a1_ : List Y1) (a2_ : Int) (a3_ : Int) (a4_ : Int) (a6_ : Yd) (a5_ : Int) : Option Yf := (wvx a1_ a2_ a3_ a4_ a6_ a5_).ev
noncomputable def waut : RetK := { acts := [], res := [.tmp 12], sh := Zi, obs := [(64, .cells Zi)], pins := [(4, 0, 64)] }
noncomputable def wvy : FD := yd (yj [.dat y2, .dat yi, .dat yi, .dat yi, .box 64 0, .clo [y1, y1] yi]) [(64, .cells Zi)] [.arg 4] (Int × (Int)) (fun x => woo x.1.1 x.1.2.1 x.1.2.2.1 x.1.2.2.2.1 x.1.2.2.2.2.2.1 x.2.1.1) (fun r => ([.dat yi r.1], [(64, .cells [.dat yi r.2])]))
noncomputable def wvz (a1_ : List Y1) (a2_ : Int) (a4_ : Yd) (a3_ : Int) : Tr Yf :=
 .c Yf (woo a1_ (wrap .i64 (a2_ - 1)) a2_ (wrap .i64 (a2_ + 1)) a4_ a3_) fun r1_ =>
 .l (r1_.1, r1_.2)
noncomputable def wop (a1_ : List Y1) (a2_ : Int) (a4_ : Yd) (a3_ : Int) : Option Yf := (wvz a1_ a2_ a4_ a3_).ev
noncomputable def wauu : RetK := { acts := [], res := [.tmp 8], sh := Zi, obs := [(64, .cells Zi)], pins := [(2, 0, 64)] }
noncomputable def wadt : FD := yd (yj [.dat y2, .dat yi, .box 64 0, .clo [y1, y1] yi]) [(64, .cells Zi)] [.arg 2] (Int × (Int)) (fun x => wop x.1.1 x.1.2.1 x.1.2.2.2.1 x.2.1.1) (fun r => ([.dat yi r.1], [(64, .cells [.dat yi r.2])]))
noncomputable def wwa (a1_ : List Y1) (a2_ : Int) (a3_ : Int) (a4_ : Yd) : Tr Yf :=
 .g (!decide ((4 : Int) = 0)) <|
 .g (!decide ((4 : Int) = 0)) <|
 .g (!decide ((4 : Int) = 0)) <|
 .t (decide ((8 : Int) ≤ (wrap .i64 (a3_ - a2_))))
 (.t (decide ((50 : Int) ≤ (wrap .i64 (a3_ - a2_))))
 (.c Yf (wop a1_ (wrap .i64 (a2_ + (wrap .i64 ((wrap .i64 (Int.tdiv (wrap .i64 (a3_ - a2_)) (4 : Int))) * (1 : Int))))) a4_ (0 : Int)) fun r1_ =>
 .c Yf (wop a1_ (wrap .i64 (a2_ + (wrap .i64 ((wrap .i64 (Int.tdiv (wrap .i64 (a3_ - a2_)) (4 : Int))) * (2 : Int))))) a4_ r1_.2) fun r2_ =>
 .c Yf (wop a1_ (wrap .i64 (a2_ + (wrap .i64 ((wrap .i64 (Int.tdiv (wrap .i64 (a3_ - a2_)) (4 : Int))) * (3 : Int))))) a4_ r2_.2) fun r3_ =>
 .c Yf (woo a1_ r1_.1 r2_.1 r3_.1 a4_ r3_.2) fun r4_ =>
 .t (r4_.2 == 0)
 (.l (r4_.1, (1 : Int)))
 (.t (r4_.2 == 12)
 (.l (r4_.1, (2 : Int)))
 (.l (r4_.1, (0 : Int)))))
 (.c Yf (woo a1_ (wrap .i64 (a2_ + (wrap .i64 ((wrap .i64 (Int.tdiv (wrap .i64 (a3_ - a2_)) (4 : Int))) * (1 : Int))))) (wrap .i64 (a2_ + (wrap .i64 ((wrap .i64 (Int.tdiv (wrap .i64 (a3_ - a2_)) (4 : Int))) * (2 : Int))))) (wrap .i64 (a2_ + (wrap .i64 ((wrap .i64 (Int.tdiv (wrap .i64 (a3_ - a2_)) (4 : Int))) * (3 : Int))))) a4_ (0 : Int)) fun r5_ =>
 .t (r5_.2 == 0)
 (.l (r5_.1, (1 : Int)))
 (.t (r5_.2 == 12)
 (.l (r5_.1, (2 : Int)))
 (.l (r5_.1, (0 : Int))))))
 (.t ((0 : Int) == (0 : Int))
 (.l ((wrap .i64 (a2_ + (wrap .i64 ((wrap .i64 (Int.tdiv (wrap .i64 (a3_ - a2_)) (4 : Int))) * (2 : Int))))), (1 : Int)))
 (.t ((0 : Int) == (12 : Int))
 (.l ((wrap .i64 (a2_ + (wrap .i64 ((wrap .i64 (Int.tdiv (wrap .i64 (a3_ - a2_)) (4 : Int))) * (2 : Int))))), (2 : Int)))
 (.l ((wrap .i64 (a2_ + (wrap .i64 ((wrap .i64 (Int.tdiv (wrap .i64 (a3_ - a2_)) (4 : Int))) * (2 : Int))))), (0 : Int)))))
noncomputable def wqq (a1_ : List Y1) (a2_ : Int) (a3_ : Int) (a4_ : Yd) : Option Yf := (wwa a1_ a2_ a3_ a4_).ev
noncomputable def wauv : RetK := yr [.tmp 8, .tmp 9] Zx
noncomputable def wadu : FD := yd (yj [.dat y2, .dat yi, .dat yi, .clo [y1, y1] yi]) [] [] (Int × (Int)) (fun x => wqq x.1.1 x.1.2.1 x.1.2.2.1 x.1.2.2.2.1) (fun r => ([.dat yi r.1, .dat yi r.2], []))
noncomputable def wfp (k : Int × Yal) (v : Int) : Tr ((Int) ⊕ (Int)) :=
 .t (decide (v ≤ k.2.2.1))
 (.g (inR v (length k.2.2.2)) <|
 .g (decide ((toNat v) < length k.2.2.2)) <|
 .g (inR k.1 (length k.2.2.2)) <|
 .g (decide ((toNat k.1) < length k.2.2.2)) <|
 .c (Int) (k.2.1 ((getD k.2.2.2 (toNat v) ([] : Y1)), ((getD k.2.2.2 (toNat k.1) ([] : Y1)), ()))) fun r6_ =>
 .t (decide (r6_ < 0))
 (.l (.inl (wrap .i64 (v + 1))))
 (.l (.inr v)))
 (.l (.inr v))
noncomputable def wjn (k : Int × Yal) (v : Int) : Option (Int) := iter (fun v => (wfp k v).ev) v
noncomputable def wlx : LD := ⟨{ acts := [], S := { slots := [0, 1, 4, 12, 13], sh := Zj, obs := [Zn] } }, [(0, { acts := [], S := { slots := [0, 1, 4, 12, 13], sh := Zj, obs := [Zn] } })], (yh [] .nil), Int × Yal, Int, Int, fun k v => (((), (k.1, (k.2.1, (v, (k.2.2.1, ()))))), (k.2.2.2, ())), fun t => (t.1.2.1, (t.1.2.2.1, (t.1.2.2.2.2.1, t.2.1))), fun t => t.1.2.2.2.1, wfp, fun k r => .l (.exit 0 (mkSt ({ slots := [0, 1, 4, 12, 13], sh := Zj, obs := [Zn] }) (((), (k.1, (k.2.1, (r, (k.2.2.1, ()))))), (k.2.2.2, ()))))⟩
noncomputable def wfq (k : Int × Yal) (v : Int) : Tr ((Int) ⊕ (Int)) :=
 .t (decide (k.2.2.1 ≤ v))
 (.g (inR v (length k.2.2.2)) <|
 .g (decide ((toNat v) < length k.2.2.2)) <|
 .g (inR k.1 (length k.2.2.2)) <|
 .g (decide ((toNat k.1) < length k.2.2.2)) <|
 .c (Int) (k.2.1 ((getD k.2.2.2 (toNat v) ([] : Y1)), ((getD k.2.2.2 (toNat k.1) ([] : Y1)), ()))) fun r18_ =>
 .t (!(decide (r18_ < 0)))
 (.l (.inl (wrap .i64 (v - 1))))
 (.l (.inr v)))
 (.l (.inr v))
noncomputable def wjo (k : Int × Yal) (v : Int) : Option (Int) := iter (fun v => (wfq k v).ev) v
noncomputable def wly : LD := ⟨{ acts := [], S := { slots := [0, 1, 4, 12, 13], sh := Zj, obs := [Zn] } }, [(2, { acts := [], S := { slots := [0, 1, 4, 12, 13], sh := Zj, obs := [Zn] } })], (yh [] .nil), Int × Yal, Int, Int, fun k v => (((), (k.1, (k.2.1, (k.2.2.1, (v, ()))))), (k.2.2.2, ())), fun t => (t.1.2.1, (t.1.2.2.1, (t.1.2.2.2.1, t.2.1))), fun t => t.1.2.2.2.2.1, wfq, fun k r => .l (.exit 2 (mkSt ({ slots := [0, 1, 4, 12, 13], sh := Zj, obs := [Zn] }) (((), (k.1, (k.2.1, (k.2.2.1, (r, ()))))), (k.2.2.2, ()))))⟩
noncomputable def wfr (k : Int × Yal) (v : Int) : Tr ((Int) ⊕ (Int)) :=
 .t (decide (v ≤ k.2.2.1))
 (.g (inR v (length k.2.2.2)) <|
 .g (decide ((toNat v) < length k.2.2.2)) <|
 .g (inR k.1 (length k.2.2.2)) <|
 .g (decide ((toNat k.1) < length k.2.2.2)) <|
 .c (Int) (k.2.1 ((getD k.2.2.2 (toNat v) ([] : Y1)), ((getD k.2.2.2 (toNat k.1) ([] : Y1)), ()))) fun r35_ =>
 .t (decide (r35_ < 0))
 (.l (.inl (wrap .i64 (v + 1))))
 (.l (.inr v)))
 (.l (.inr v))
noncomputable def wjp (k : Int × Yal) (v : Int) : Option (Int) := iter (fun v => (wfr k v).ev) v
noncomputable def wlz : LD := ⟨{ acts := [], S := { slots := [0, 1, 4, 12, 13], sh := Zj, obs := [Zn] } }, [(6, { acts := [], S := { slots := [0, 1, 4, 12, 13], sh := Zj, obs := [Zn] } })], (yh [] .nil), Int × Yal, Int, Int, fun k v => (((), (k.1, (k.2.1, (v, (k.2.2.1, ()))))), (k.2.2.2, ())), fun t => (t.1.2.1, (t.1.2.2.1, (t.1.2.2.2.2.1, t.2.1))), fun t => t.1.2.2.2.1, wfr, fun k r => .l (.exit 6 (mkSt ({ slots := [0, 1, 4, 12, 13], sh := Zj, obs := [Zn] }) (((), (k.1, (k.2.1, (r, (k.2.2.1, ()))))), (k.2.2.2, ()))))⟩
noncomputable def wft (k : Int × Yal) (v : Int) : Tr ((Int) ⊕ (Int)) :=
 .t (decide (k.2.2.1 ≤ v))
 (.g (inR v (length k.2.2.2)) <|
 .g (decide ((toNat v) < length k.2.2.2)) <|
 .g (inR k.1 (length k.2.2.2)) <|
 .g (decide ((toNat k.1) < length k.2.2.2)) <|
 .c (Int) (k.2.1 ((getD k.2.2.2 (toNat v) ([] : Y1)), ((getD k.2.2.2 (toNat k.1) ([] : Y1)), ()))) fun r47_ =>
 .t (!(decide (r47_ < 0)))
 (.l (.inl (wrap .i64 (v - 1))))
 (.l (.inr v)))
 (.l (.inr v))
noncomputable def wjq (k : Int × Yal) (v : Int) : Option (Int) := iter (fun v => (wft k v).ev) v
noncomputable def wma : LD := ⟨{ acts := [], S := { slots := [0, 1, 4, 12, 13], sh := Zj, obs := [Zn] } }, [(8, { acts := [], S := { slots := [0, 1, 4, 12, 13], sh := Zj, obs := [Zn] } })], (yh [] .nil), Int × Yal, Int, Int, fun k v => (((), (k.1, (k.2.1, (k.2.2.1, (v, ()))))), (k.2.2.2, ())), fun t => (t.1.2.1, (t.1.2.2.1, (t.1.2.2.2.1, t.2.1))), fun t => t.1.2.2.2.2.1, wft, fun k r => .l (.exit 8 (mkSt ({ slots := [0, 1, 4, 12, 13], sh := Zj, obs := [Zn] }) (((), (k.1, (k.2.1, (k.2.2.1, (r, ()))))), (k.2.2.2, ()))))⟩
noncomputable def wfu (k : Int × (Yd)) (v : Int × Yl) : Tr ((Int × Yl) ⊕ Yl) :=
 .c (Int) (wjp (k.1, (k.2, (v.2.1, v.2.2))) v.1) fun r41_ =>
 .c (Int) (wjq (k.1, (k.2, (r41_, v.2.2))) v.2.1) fun r53_ =>
 .t (decide (r53_ < r41_))
 (.l (.inr (r53_, v.2.2)))
 (.g (inR r53_ (length v.2.2)) <|
 .g (decide ((toNat r53_) < length v.2.2)) <|
 .g (inR r41_ (length v.2.2)) <|
 .g (decide ((toNat r41_) < length v.2.2)) <|
 .g (inR r41_ (length v.2.2)) <|
 .g (decide ((toNat r41_) < length v.2.2)) <|
 .g (inR r53_ (length (set v.2.2 (toNat r41_) (getD v.2.2 (toNat r53_) ([] : Y1))))) <|
 .g (decide ((toNat r53_) < length (set v.2.2 (toNat r41_) (getD v.2.2 (toNat r53_) ([] : Y1))))) <|
 .l (.inl ((wrap .i64 (r41_ + 1)), ((wrap .i64 (r53_ - 1)), (set (set v.2.2 (toNat r41_) (getD v.2.2 (toNat r53_) ([] : Y1))) (toNat r53_) (getD v.2.2 (toNat r41_) ([] : Y1)))))))
noncomputable def wjr (k : Int × (Yd)) (v : Int × Yl) : Option Yl := iter (fun v => (wfu k v).ev) v
noncomputable def wmb : LD := ⟨{ acts := [], S := { slots := [0, 1, 4, 12, 13], sh := Zj, obs := [Zn] } }, [(4, { acts := [], S := { slots := [0, 1, 13], sh := Zah, obs := [Zn] } })], (yh [] .nil), Int × (Yd), Int × Yl, Int × Y2, fun k v => (((), (k.1, (k.2, (v.1, (v.2.1, ()))))), (v.2.2, ())), fun t => (t.1.2.1, t.1.2.2.1), fun t => (t.1.2.2.2.1, (t.1.2.2.2.2.1, t.2.1)), wfu, fun k r => .l (.exit 4 (mkSt ({ slots := [0, 1, 13], sh := Zah, obs := [Zn] }) (((), (k.1, (r.1, ()))), (r.2, ()))))⟩
noncomputable def wwb (a2_ : Int) (a3_ : Int) (a4_ : Int) (a5_ : Yd) (a1_ : List Y1) : Tr Yp :=
 .g (inR a4_ (length a1_)) <|
 .g (decide ((toNat a4_) < length a1_)) <|
 .g (inR a2_ (length a1_)) <|
 .g (decide ((toNat a2_) < length a1_)) <|
 .g (inR a2_ (length a1_)) <|
 .g (decide ((toNat a2_) < length a1_)) <|
 .g (inR a4_ (length (set a1_ (toNat a2_) (getD a1_ (toNat a4_) ([] : Y1))))) <|
 .g (decide ((toNat a4_) < length (set a1_ (toNat a2_) (getD a1_ (toNat a4_) ([] : Y1))))) <|
 .c (Int) (wjn (a2_, (a5_, ((wrap .i64 (a3_ - 1)), (set (set a1_ (toNat a2_) (getD a1_ (toNat a4_) ([] : Y1))) (toNat a4_) (getD a1_ (toNat a2_) ([] : Y1)))))) (wrap .i64 (a2_ + 1))) fun r12_ =>
 .c (Int) (wjo (a2_, (a5_, (r12_, (set (set a1_ (toNat a2_) (getD a1_ (toNat a4_) ([] : Y1))) (toNat a4_) (getD a1_ (toNat a2_) ([] : Y1)))))) (wrap .i64 (a3_ - 1))) fun r24_ =>
 .t (decide (r24_ < r12_))
 (.g (inR a2_ (length (set (set a1_ (toNat a2_) (getD a1_ (toNat a4_) ([] : Y1))) (toNat a4_) (getD a1_ (toNat a2_) ([] : Y1))))) <|
 .g (decide ((toNat a2_) < length (set (set a1_ (toNat a2_) (getD a1_ (toNat a4_) ([] : Y1))) (toNat a4_) (getD a1_ (toNat a2_) ([] : Y1))))) <|
 .g (inR r24_ (length (set (set a1_ (toNat a2_) (getD a1_ (toNat a4_) ([] : Y1))) (toNat a4_) (getD a1_ (toNat a2_) ([] : Y1))))) <|
 .g (decide ((toNat r24_) < length (set (set a1_ (toNat a2_) (getD a1_ (toNat a4_) ([] : Y1))) (toNat a4_) (getD a1_ (toNat a2_) ([] : Y1))))) <|
 .g (inR r24_ (length (set (set a1_ (toNat a2_) (getD a1_ (toNat a4_) ([] : Y1))) (toNat a4_) (getD a1_ (toNat a2_) ([] : Y1))))) <|
 .g (decide ((toNat r24_) < length (set (set a1_ (toNat a2_) (getD a1_ (toNat a4_) ([] : Y1))) (toNat a4_) (getD a1_ (toNat a2_) ([] : Y1))))) <|
 .g (inR a2_ (length (set (set (set a1_ (toNat a2_) (getD a1_ (toNat a4_) ([] : Y1))) (toNat a4_) (getD a1_ (toNat a2_) ([] : Y1))) (toNat r24_) (getD (set (set a1_ (toNat a2_) (getD a1_ (toNat a4_) ([] : Y1))) (toNat a4_) (getD a1_ (toNat a2_) ([] : Y1))) (toNat a2_) ([] : Y1))))) <|
 .g (decide ((toNat a2_) < length (set (set (set a1_ (toNat a2_) (getD a1_ (toNat a4_) ([] : Y1))) (toNat a4_) (getD a1_ (toNat a2_) ([] : Y1))) (toNat r24_) (getD (set (set a1_ (toNat a2_) (getD a1_ (toNat a4_) ([] : Y1))) (toNat a4_) (getD a1_ (toNat a2_) ([] : Y1))) (toNat a2_) ([] : Y1))))) <|
 .l (r24_, (true, (set (set (set (set a1_ (toNat a2_) (getD a1_ (toNat a4_) ([] : Y1))) (toNat a4_) (getD a1_ (toNat a2_) ([] : Y1))) (toNat r24_) (getD (set (set a1_ (toNat a2_) (getD a1_ (toNat a4_) ([] : Y1))) (toNat a4_) (getD a1_ (toNat a2_) ([] : Y1))) (toNat a2_) ([] : Y1))) (toNat a2_) (getD (set (set a1_ (toNat a2_) (getD a1_ (toNat a4_) ([] : Y1))) (toNat a4_) (getD a1_ (toNat a2_) ([] : Y1))) (toNat r24_) ([] : Y1))))))
 (.g (inR r24_ (length (set (set a1_ (toNat a2_) (getD a1_ (toNat a4_) ([] : Y1))) (toNat a4_) (getD a1_ (toNat a2_) ([] : Y1))))) <|
 .g (decide ((toNat r24_) < length (set (set a1_ (toNat a2_) (getD a1_ (toNat a4_) ([] : Y1))) (toNat a4_) (getD a1_ (toNat a2_) ([] : Y1))))) <|
 .g (inR r12_ (length (set (set a1_ (toNat a2_) (getD a1_ (toNat a4_) ([] : Y1))) (toNat a4_) (getD a1_ (toNat a2_) ([] : Y1))))) <|
 .g (decide ((toNat r12_) < length (set (set a1_ (toNat a2_) (getD a1_ (toNat a4_) ([] : Y1))) (toNat a4_) (getD a1_ (toNat a2_) ([] : Y1))))) <|
 .g (inR r12_ (length (set (set a1_ (toNat a2_) (getD a1_ (toNat a4_) ([] : Y1))) (toNat a4_) (getD a1_ (toNat a2_) ([] : Y1))))) <|
 .g (decide ((toNat r12_) < length (set (set a1_ (toNat a2_) (getD a1_ (toNat a4_) ([] : Y1))) (toNat a4_) (getD a1_ (toNat a2_) ([] : Y1))))) <|
 .g (inR r24_ (length (set (set (set a1_ (toNat a2_) (getD a1_ (toNat a4_) ([] : Y1))) (toNat a4_) (getD a1_ (toNat a2_) ([] : Y1))) (toNat r12_) (getD (set (set a1_ (toNat a2_) (getD a1_ (toNat a4_) ([] : Y1))) (toNat a4_) (getD a1_ (toNat a2_) ([] : Y1))) (toNat r24_) ([] : Y1))))) <|
 .g (decide ((toNat r24_) < length (set (set (set a1_ (toNat a2_) (getD a1_ (toNat a4_) ([] : Y1))) (toNat a4_) (getD a1_ (toNat a2_) ([] : Y1))) (toNat r12_) (getD (set (set a1_ (toNat a2_) (getD a1_ (toNat a4_) ([] : Y1))) (toNat a4_) (getD a1_ (toNat a2_) ([] : Y1))) (toNat r24_) ([] : Y1))))) <|
 .c Yl (wjr (a2_, a5_) ((wrap .i64 (r12_ + 1)), ((wrap .i64 (r24_ - 1)), (set (set (set (set a1_ (toNat a2_) (getD a1_ (toNat a4_) ([] : Y1))) (toNat a4_) (getD a1_ (toNat a2_) ([] : Y1))) (toNat r12_) (getD (set (set a1_ (toNat a2_) (getD a1_ (toNat a4_) ([] : Y1))) (toNat a4_) (getD a1_ (toNat a2_) ([] : Y1))) (toNat r24_) ([] : Y1))) (toNat r24_) (getD (set (set a1_ (toNat a2_) (getD a1_ (toNat a4_) ([] : Y1))) (toNat a4_) (getD a1_ (toNat a2_) ([] : Y1))) (toNat r12_) ([] : Y1)))))) fun r57_ =>
 .g (inR a2_ (length r57_.2)) <|
 .g (decide ((toNat a2_) < length r57_.2)) <|
 .g (inR r57_.1 (length r57_.2)) <|
 .g (decide ((toNat r57_.1) < length r57_.2)) <|
 .g (inR r57_.1 (length r57_.2)) <|
 .g (decide ((toNat r57_.1) < length r57_.2)) <|
 .g (inR a2_ (length (set r57_.2 (toNat r57_.1) (getD r57_.2 (toNat a2_) ([] : Y1))))) <|
 .g (decide ((toNat a2_) < length (set r57_.2 (toNat r57_.1) (getD r57_.2 (toNat a2_) ([] : Y1))))) <|
 .l (r57_.1, (false, (set (set r57_.2 (toNat r57_.1) (getD r57_.2 (toNat a2_) ([] : Y1))) (toNat a2_) (getD r57_.2 (toNat r57_.1) ([] : Y1))))))
noncomputable def wbh (a2_ : Int) (a3_ : Int) (a4_ : Int) (a5_ : Yd) (a1_ : List Y1) : Option Yp := (wwb a2_ a3_ a4_ a5_ a1_).ev
noncomputable def wauw : RetK := { acts := [], res := [.tmp 10, .tmp 11], sh := (yj [.dat yi, .dat .bool]), obs := [Zn], pins := [(0, 0, 64)] }
noncomputable def wadv : FD := yd (yj [.arr 64, .dat yi, .dat yi, .dat yi, .clo [y1, y1] yi]) [Zn] [.arg 0] Yp (fun x => wbh x.1.2.1 x.1.2.2.1 x.1.2.2.2.1 x.1.2.2.2.2.1 x.2.1) (fun r => ([.dat yi r.1, .dat .bool r.2.1], [(64, .arr 24 y1 r.2.2)]))
noncomputable def wjs : Env := envOf []
noncomputable def wjt : List (Nat × LD) := [(0, wlx), (2, wly), (6, wlz), (8, wma), (4, wmb)]
noncomputable def wju : Code := (f258.body).getD .skip
noncomputable def wfv (rec_ : (Int) → (Int) → (Int) → (Yd) → Y2 → Option Y2) (k : Yd) (v : Int × Yw) : Tr ((Int × Yw) ⊕ Y2) :=
 .t (decide ((wrap .i64 (v.2.1 - v.1)) ≤ (12 : Int)))
 (.c Y2 (wvm v.1 v.2.1 k v.2.2.2.2.2) fun r8_ =>
 .l (.inr r8_))
 (.t (v.2.2.1 == 0)
 (.f)
 (.t (!v.2.2.2.1)
 (.c Y2 (wvv v.1 v.2.1 k v.2.2.2.2.2) fun r9_ =>
 .c Yf (wqq r9_ v.1 v.2.1 k) fun r10_ =>
 .t (r10_.2 == 2)
 (.f)
 (.t v.2.2.2.1
 (.t v.2.2.2.2.1
 (.t (r10_.2 == 1)
 (.f)
 (.t (decide (0 < v.1))
 (.g (inR (wrap .i64 (v.1 - 1)) (length r9_)) <|
 .g (decide ((toNat (wrap .i64 (v.1 - 1))) < length r9_)) <|
 .g (inR r10_.1 (length r9_)) <|
 .g (decide ((toNat r10_.1) < length r9_)) <|
 .c (Int) (k ((getD r9_ (toNat (wrap .i64 (v.1 - 1))) ([] : Y1)), ((getD r9_ (toNat r10_.1) ([] : Y1)), ()))) fun r11_ =>
 .t (!(decide (r11_ < 0)))
 (.f)
 (.c Yp (wbh v.1 v.2.1 r10_.1 k r9_) fun r12_ =>
 .g (!decide ((8 : Int) = 0)) <|
 .t (decide ((wrap .i64 (r12_.1 - v.1)) < (wrap .i64 (v.2.1 - r12_.1))))
 (.c Y2 (rec_ v.1 r12_.1 (wrap .i64 (v.2.2.1 - 1)) k r12_.2.2) fun r13_ =>
 .l (.inl ((wrap .i64 (r12_.1 + 1)), (v.2.1, ((wrap .i64 (v.2.2.1 - 1)), ((decide ((wrap .i64 (Int.tdiv (wrap .i64 (v.2.1 - v.1)) (8 : Int))) ≤ (wrap .i64 (r12_.1 - v.1)))), (r12_.2.1, r13_)))))))
 (.c Y2 (rec_ (wrap .i64 (r12_.1 + 1)) v.2.1 (wrap .i64 (v.2.2.1 - 1)) k r12_.2.2) fun r14_ =>
 .l (.inl (v.1, (r12_.1, ((wrap .i64 (v.2.2.1 - 1)), ((decide ((wrap .i64 (Int.tdiv (wrap .i64 (v.2.1 - v.1)) (8 : Int))) ≤ (wrap .i64 (v.2.1 - r12_.1)))), (r12_.2.1, r14_)))))))))
 (.c Yp (wbh v.1 v.2.1 r10_.1 k r9_) fun r15_ =>
 .g (!decide ((8 : Int) = 0)) <|
 .t (decide ((wrap .i64 (r15_.1 - v.1)) < (wrap .i64 (v.2.1 - r15_.1))))
 (.c Y2 (rec_ v.1 r15_.1 (wrap .i64 (v.2.2.1 - 1)) k r15_.2.2) fun r16_ =>
 .l (.inl ((wrap .i64 (r15_.1 + 1)), (v.2.1, ((wrap .i64 (v.2.2.1 - 1)), ((decide ((wrap .i64 (Int.tdiv (wrap .i64 (v.2.1 - v.1)) (8 : Int))) ≤ (wrap .i64 (r15_.1 - v.1)))), (r15_.2.1, r16_)))))))
 (.c Y2 (rec_ (wrap .i64 (r15_.1 + 1)) v.2.1 (wrap .i64 (v.2.2.1 - 1)) k r15_.2.2) fun r17_ =>
 .l (.inl (v.1, (r15_.1, ((wrap .i64 (v.2.2.1 - 1)), ((decide ((wrap .i64 (Int.tdiv (wrap .i64 (v.2.1 - v.1)) (8 : Int))) ≤ (wrap .i64 (v.2.1 - r15_.1)))), (r15_.2.1, r17_))))))))))
 (.t (decide (0 < v.1))
 (.g (inR (wrap .i64 (v.1 - 1)) (length r9_)) <|
 .g (decide ((toNat (wrap .i64 (v.1 - 1))) < length r9_)) <|
 .g (inR r10_.1 (length r9_)) <|
 .g (decide ((toNat r10_.1) < length r9_)) <|
 .c (Int) (k ((getD r9_ (toNat (wrap .i64 (v.1 - 1))) ([] : Y1)), ((getD r9_ (toNat r10_.1) ([] : Y1)), ()))) fun r18_ =>
 .t (!(decide (r18_ < 0)))
 (.f)
 (.c Yp (wbh v.1 v.2.1 r10_.1 k r9_) fun r19_ =>
 .g (!decide ((8 : Int) = 0)) <|
 .t (decide ((wrap .i64 (r19_.1 - v.1)) < (wrap .i64 (v.2.1 - r19_.1))))
 (.c Y2 (rec_ v.1 r19_.1 (wrap .i64 (v.2.2.1 - 1)) k r19_.2.2) fun r20_ =>
 .l (.inl ((wrap .i64 (r19_.1 + 1)), (v.2.1, ((wrap .i64 (v.2.2.1 - 1)), ((decide ((wrap .i64 (Int.tdiv (wrap .i64 (v.2.1 - v.1)) (8 : Int))) ≤ (wrap .i64 (r19_.1 - v.1)))), (r19_.2.1, r20_)))))))
 (.c Y2 (rec_ (wrap .i64 (r19_.1 + 1)) v.2.1 (wrap .i64 (v.2.2.1 - 1)) k r19_.2.2) fun r21_ =>
 .l (.inl (v.1, (r19_.1, ((wrap .i64 (v.2.2.1 - 1)), ((decide ((wrap .i64 (Int.tdiv (wrap .i64 (v.2.1 - v.1)) (8 : Int))) ≤ (wrap .i64 (v.2.1 - r19_.1)))), (r19_.2.1, r21_)))))))))
 (.c Yp (wbh v.1 v.2.1 r10_.1 k r9_) fun r22_ =>
 .g (!decide ((8 : Int) = 0)) <|
 .t (decide ((wrap .i64 (r22_.1 - v.1)) < (wrap .i64 (v.2.1 - r22_.1))))
 (.c Y2 (rec_ v.1 r22_.1 (wrap .i64 (v.2.2.1 - 1)) k r22_.2.2) fun r23_ =>
 .l (.inl ((wrap .i64 (r22_.1 + 1)), (v.2.1, ((wrap .i64 (v.2.2.1 - 1)), ((decide ((wrap .i64 (Int.tdiv (wrap .i64 (v.2.1 - v.1)) (8 : Int))) ≤ (wrap .i64 (r22_.1 - v.1)))), (r22_.2.1, r23_)))))))
 (.c Y2 (rec_ (wrap .i64 (r22_.1 + 1)) v.2.1 (wrap .i64 (v.2.2.1 - 1)) k r22_.2.2) fun r24_ =>
 .l (.inl (v.1, (r22_.1, ((wrap .i64 (v.2.2.1 - 1)), ((decide ((wrap .i64 (Int.tdiv (wrap .i64 (v.2.1 - v.1)) (8 : Int))) ≤ (wrap .i64 (v.2.1 - r22_.1)))), (r22_.2.1, r24_))))))))))
 (.t (decide (0 < v.1))
 (.g (inR (wrap .i64 (v.1 - 1)) (length r9_)) <|
 .g (decide ((toNat (wrap .i64 (v.1 - 1))) < length r9_)) <|
 .g (inR r10_.1 (length r9_)) <|
 .g (decide ((toNat r10_.1) < length r9_)) <|
 .c (Int) (k ((getD r9_ (toNat (wrap .i64 (v.1 - 1))) ([] : Y1)), ((getD r9_ (toNat r10_.1) ([] : Y1)), ()))) fun r25_ =>
 .t (!(decide (r25_ < 0)))
 (.f)
 (.c Yp (wbh v.1 v.2.1 r10_.1 k r9_) fun r26_ =>
 .g (!decide ((8 : Int) = 0)) <|
 .t (decide ((wrap .i64 (r26_.1 - v.1)) < (wrap .i64 (v.2.1 - r26_.1))))
 (.c Y2 (rec_ v.1 r26_.1 (wrap .i64 (v.2.2.1 - 1)) k r26_.2.2) fun r27_ =>
 .l (.inl ((wrap .i64 (r26_.1 + 1)), (v.2.1, ((wrap .i64 (v.2.2.1 - 1)), ((decide ((wrap .i64 (Int.tdiv (wrap .i64 (v.2.1 - v.1)) (8 : Int))) ≤ (wrap .i64 (r26_.1 - v.1)))), (r26_.2.1, r27_)))))))
 (.c Y2 (rec_ (wrap .i64 (r26_.1 + 1)) v.2.1 (wrap .i64 (v.2.2.1 - 1)) k r26_.2.2) fun r28_ =>
 .l (.inl (v.1, (r26_.1, ((wrap .i64 (v.2.2.1 - 1)), ((decide ((wrap .i64 (Int.tdiv (wrap .i64 (v.2.1 - v.1)) (8 : Int))) ≤ (wrap .i64 (v.2.1 - r26_.1)))), (r26_.2.1, r28_)))))))))
 (.c Yp (wbh v.1 v.2.1 r10_.1 k r9_) fun r29_ =>
 .g (!decide ((8 : Int) = 0)) <|
 .t (decide ((wrap .i64 (r29_.1 - v.1)) < (wrap .i64 (v.2.1 - r29_.1))))
 (.c Y2 (rec_ v.1 r29_.1 (wrap .i64 (v.2.2.1 - 1)) k r29_.2.2) fun r30_ =>
 .l (.inl ((wrap .i64 (r29_.1 + 1)), (v.2.1, ((wrap .i64 (v.2.2.1 - 1)), ((decide ((wrap .i64 (Int.tdiv (wrap .i64 (v.2.1 - v.1)) (8 : Int))) ≤ (wrap .i64 (r29_.1 - v.1)))), (r29_.2.1, r30_)))))))
 (.c Y2 (rec_ (wrap .i64 (r29_.1 + 1)) v.2.1 (wrap .i64 (v.2.2.1 - 1)) k r29_.2.2) fun r31_ =>
 .l (.inl (v.1, (r29_.1, ((wrap .i64 (v.2.2.1 - 1)), ((decide ((wrap .i64 (Int.tdiv (wrap .i64 (v.2.1 - v.1)) (8 : Int))) ≤ (wrap .i64 (v.2.1 - r29_.1)))), (r29_.2.1, r31_)))))))))))
 (.c Yf (wqq v.2.2.2.2.2 v.1 v.2.1 k) fun r32_ =>
 .t (r32_.2 == 2)
 (.f)
 (.t v.2.2.2.1
 (.t v.2.2.2.2.1
 (.t (r32_.2 == 1)
 (.f)
 (.t (decide (0 < v.1))
 (.g (inR (wrap .i64 (v.1 - 1)) (length v.2.2.2.2.2)) <|
 .g (decide ((toNat (wrap .i64 (v.1 - 1))) < length v.2.2.2.2.2)) <|
 .g (inR r32_.1 (length v.2.2.2.2.2)) <|
 .g (decide ((toNat r32_.1) < length v.2.2.2.2.2)) <|
 .c (Int) (k ((getD v.2.2.2.2.2 (toNat (wrap .i64 (v.1 - 1))) ([] : Y1)), ((getD v.2.2.2.2.2 (toNat r32_.1) ([] : Y1)), ()))) fun r33_ =>
 .t (!(decide (r33_ < 0)))
 (.f)
 (.c Yp (wbh v.1 v.2.1 r32_.1 k v.2.2.2.2.2) fun r34_ =>
 .g (!decide ((8 : Int) = 0)) <|
 .t (decide ((wrap .i64 (r34_.1 - v.1)) < (wrap .i64 (v.2.1 - r34_.1))))
 (.c Y2 (rec_ v.1 r34_.1 v.2.2.1 k r34_.2.2) fun r35_ =>
 .l (.inl ((wrap .i64 (r34_.1 + 1)), (v.2.1, (v.2.2.1, ((decide ((wrap .i64 (Int.tdiv (wrap .i64 (v.2.1 - v.1)) (8 : Int))) ≤ (wrap .i64 (r34_.1 - v.1)))), (r34_.2.1, r35_)))))))
 (.c Y2 (rec_ (wrap .i64 (r34_.1 + 1)) v.2.1 v.2.2.1 k r34_.2.2) fun r36_ =>
 .l (.inl (v.1, (r34_.1, (v.2.2.1, ((decide ((wrap .i64 (Int.tdiv (wrap .i64 (v.2.1 - v.1)) (8 : Int))) ≤ (wrap .i64 (v.2.1 - r34_.1)))), (r34_.2.1, r36_)))))))))
 (.c Yp (wbh v.1 v.2.1 r32_.1 k v.2.2.2.2.2) fun r37_ =>
 .g (!decide ((8 : Int) = 0)) <|
 .t (decide ((wrap .i64 (r37_.1 - v.1)) < (wrap .i64 (v.2.1 - r37_.1))))
 (.c Y2 (rec_ v.1 r37_.1 v.2.2.1 k r37_.2.2) fun r38_ =>
 .l (.inl ((wrap .i64 (r37_.1 + 1)), (v.2.1, (v.2.2.1, ((decide ((wrap .i64 (Int.tdiv (wrap .i64 (v.2.1 - v.1)) (8 : Int))) ≤ (wrap .i64 (r37_.1 - v.1)))), (r37_.2.1, r38_)))))))
 (.c Y2 (rec_ (wrap .i64 (r37_.1 + 1)) v.2.1 v.2.2.1 k r37_.2.2) fun r39_ =>
 .l (.inl (v.1, (r37_.1, (v.2.2.1, ((decide ((wrap .i64 (Int.tdiv (wrap .i64 (v.2.1 - v.1)) (8 : Int))) ≤ (wrap .i64 (v.2.1 - r37_.1)))), (r37_.2.1, r39_))))))))))
 (.t (decide (0 < v.1))
 (.g (inR (wrap .i64 (v.1 - 1)) (length v.2.2.2.2.2)) <|
 .g (decide ((toNat (wrap .i64 (v.1 - 1))) < length v.2.2.2.2.2)) <|
 .g (inR r32_.1 (length v.2.2.2.2.2)) <|
 .g (decide ((toNat r32_.1) < length v.2.2.2.2.2)) <|
 .c (Int) (k ((getD v.2.2.2.2.2 (toNat (wrap .i64 (v.1 - 1))) ([] : Y1)), ((getD v.2.2.2.2.2 (toNat r32_.1) ([] : Y1)), ()))) fun r40_ =>
 .t (!(decide (r40_ < 0)))
 (.f)
 (.c Yp (wbh v.1 v.2.1 r32_.1 k v.2.2.2.2.2) fun r41_ =>
 .g (!decide ((8 : Int) = 0)) <|
 .t (decide ((wrap .i64 (r41_.1 - v.1)) < (wrap .i64 (v.2.1 - r41_.1))))
 (.c Y2 (rec_ v.1 r41_.1 v.2.2.1 k r41_.2.2) fun r42_ =>
 .l (.inl ((wrap .i64 (r41_.1 + 1)), (v.2.1, (v.2.2.1, ((decide ((wrap .i64 (Int.tdiv (wrap .i64 (v.2.1 - v.1)) (8 : Int))) ≤ (wrap .i64 (r41_.1 - v.1)))), (r41_.2.1, r42_)))))))
 (.c Y2 (rec_ (wrap .i64 (r41_.1 + 1)) v.2.1 v.2.2.1 k r41_.2.2) fun r43_ =>
 .l (.inl (v.1, (r41_.1, (v.2.2.1, ((decide ((wrap .i64 (Int.tdiv (wrap .i64 (v.2.1 - v.1)) (8 : Int))) ≤ (wrap .i64 (v.2.1 - r41_.1)))), (r41_.2.1, r43_)))))))))
 (.c Yp (wbh v.1 v.2.1 r32_.1 k v.2.2.2.2.2) fun r44_ =>
 .g (!decide ((8 : Int) = 0)) <|
 .t (decide ((wrap .i64 (r44_.1 - v.1)) < (wrap .i64 (v.2.1 - r44_.1))))
 (.c Y2 (rec_ v.1 r44_.1 v.2.2.1 k r44_.2.2) fun r45_ =>
 .l (.inl ((wrap .i64 (r44_.1 + 1)), (v.2.1, (v.2.2.1, ((decide ((wrap .i64 (Int.tdiv (wrap .i64 (v.2.1 - v.1)) (8 : Int))) ≤ (wrap .i64 (r44_.1 - v.1)))), (r44_.2.1, r45_)))))))
 (.c Y2 (rec_ (wrap .i64 (r44_.1 + 1)) v.2.1 v.2.2.1 k r44_.2.2) fun r46_ =>
 .l (.inl (v.1, (r44_.1, (v.2.2.1, ((decide ((wrap .i64 (Int.tdiv (wrap .i64 (v.2.1 - v.1)) (8 : Int))) ≤ (wrap .i64 (v.2.1 - r44_.1)))), (r44_.2.1, r46_))))))))))
 (.t (decide (0 < v.1))
 (.g (inR (wrap .i64 (v.1 - 1)) (length v.2.2.2.2.2)) <|
 .g (decide ((toNat (wrap .i64 (v.1 - 1))) < length v.2.2.2.2.2)) <|
 .g (inR r32_.1 (length v.2.2.2.2.2)) <|
 .g (decide ((toNat r32_.1) < length v.2.2.2.2.2)) <|
 .c (Int) (k ((getD v.2.2.2.2.2 (toNat (wrap .i64 (v.1 - 1))) ([] : Y1)), ((getD v.2.2.2.2.2 (toNat r32_.1) ([] : Y1)), ()))) fun r47_ =>
 .t (!(decide (r47_ < 0)))
 (.f)
 (.c Yp (wbh v.1 v.2.1 r32_.1 k v.2.2.2.2.2) fun r48_ =>
 .g (!decide ((8 : Int) = 0)) <|
 .t (decide ((wrap .i64 (r48_.1 - v.1)) < (wrap .i64 (v.2.1 - r48_.1))))
 (.c Y2 (rec_ v.1 r48_.1 v.2.2.1 k r48_.2.2) fun r49_ =>
 .l (.inl ((wrap .i64 (r48_.1 + 1)), (v.2.1, (v.2.2.1, ((decide ((wrap .i64 (Int.tdiv (wrap .i64 (v.2.1 - v.1)) (8 : Int))) ≤ (wrap .i64 (r48_.1 - v.1)))), (r48_.2.1, r49_)))))))
 (.c Y2 (rec_ (wrap .i64 (r48_.1 + 1)) v.2.1 v.2.2.1 k r48_.2.2) fun r50_ =>
 .l (.inl (v.1, (r48_.1, (v.2.2.1, ((decide ((wrap .i64 (Int.tdiv (wrap .i64 (v.2.1 - v.1)) (8 : Int))) ≤ (wrap .i64 (v.2.1 - r48_.1)))), (r48_.2.1, r50_)))))))))
 (.c Yp (wbh v.1 v.2.1 r32_.1 k v.2.2.2.2.2) fun r51_ =>
 .g (!decide ((8 : Int) = 0)) <|
 .t (decide ((wrap .i64 (r51_.1 - v.1)) < (wrap .i64 (v.2.1 - r51_.1))))
 (.c Y2 (rec_ v.1 r51_.1 v.2.2.1 k r51_.2.2) fun r52_ =>
 .l (.inl ((wrap .i64 (r51_.1 + 1)), (v.2.1, (v.2.2.1, ((decide ((wrap .i64 (Int.tdiv (wrap .i64 (v.2.1 - v.1)) (8 : Int))) ≤ (wrap .i64 (r51_.1 - v.1)))), (r51_.2.1, r52_)))))))
 (.c Y2 (rec_ (wrap .i64 (r51_.1 + 1)) v.2.1 v.2.2.1 k r51_.2.2) fun r53_ =>
 .l (.inl (v.1, (r51_.1, (v.2.2.1, ((decide ((wrap .i64 (Int.tdiv (wrap .i64 (v.2.1 - v.1)) (8 : Int))) ≤ (wrap .i64 (v.2.1 - r51_.1)))), (r51_.2.1, r53_)))))))))))))
noncomputable def wjv (rec_ : (Int) → (Int) → (Int) → (Yd) → Y2 → Option Y2) (k : Yd) (v : Int × Yw) : Option Y2 := iter (fun v => (wfv rec_ k v).ev) v
noncomputable def wmc (rec_ : (Int) → (Int) → (Int) → (Yd) → Y2 → Option Y2) : LD where
 head := { acts := [], S := { slots := [0, 1, 2, 3, 4, 10, 11], sh := (yj [.arr 64, .dat yi, .dat yi, .dat yi, .clo [y1, y1] yi, .dat .bool, .dat .bool]), obs := [Zn] } }
 exits := []
 rets := { acts := [], S := { slots := [0], sh := Zan, obs := [Zn] } }
 K := Yd
 V := Int × Yw
 R := List Y1
 join := fun k v => (((), (v.1, (v.2.1, (v.2.2.1, (k, (v.2.2.2.1, (v.2.2.2.2.1, ()))))))), (v.2.2.2.2.2, ()))
 sk := fun t => t.1.2.2.2.2.1
 sv := fun t => (t.1.2.1, (t.1.2.2.1, (t.1.2.2.2.1, (t.1.2.2.2.2.2.1, (t.1.2.2.2.2.2.2.1, t.2.1)))))
 step := wfv rec_
 leaf := fun _ r => .l (.ret (mkSt ({ slots := [0], sh := Zan, obs := [Zn] }) (((), ()), (r, ()))))
noncomputable def wwc (rec_ : (Int) → (Int) → (Int) → (Yd) → Y2 → Option Y2) (a2_ : Int) (a3_ : Int) (a4_ : Int) (a5_ : Yd) (a1_ : List Y1) : Tr Y2 :=
 .c Y2 (wjv rec_ a5_ (a2_, (a3_, (a4_, (true, (true, a1_)))))) fun r55_ =>
 .l r55_
noncomputable def wfw : Nat → (Int) → (Int) → (Int) → (Yd) → Y2 → Option Y2
 | 0 => fun _ _ _ _ _ => none
 | n + 1 => fun a2_ a3_ a4_ a5_ a1_ => (wwc (wfw n) a2_ a3_ a4_ a5_ a1_).ev
noncomputable def waux : RetK := { acts := [], res := [], sh := .nil, obs := [Zn], pins := [(0, 0, 64)] }
noncomputable def waab (rec_ : (Int) → (Int) → (Int) → (Yd) → Y2 → Option Y2) : FD where
 A := (yj [.arr 64, .dat yi, .dat yi, .dat yi, .clo [y1, y1] yi])
 ins := [Zn]
 lend := [.arg 0]
 R := List Y1
 F := fun x => rec_ x.1.2.1 x.1.2.2.1 x.1.2.2.2.1 x.1.2.2.2.2.1 x.2.1
 emb := fun r => ([], [(64, .arr 24 y1 r)])
noncomputable def wadw (n : Nat) : FD := waab (wfw n)
noncomputable def wadx (rec_ : (Int) → (Int) → (Int) → (Yd) → Y2 → Option Y2) : Env := envOf [(251, wadl), (253, wado), (254, wadu), (258, wadv), (233, waab rec_)]
noncomputable def wady (rec_ : (Int) → (Int) → (Int) → (Yd) → Y2 → Option Y2) : List (Nat × LD) := [(0, wmc rec_)]
noncomputable def wadz : Code := (f233.body).getD .skip
noncomputable def wwe (a2_ : Yd) (a1_ : List Y1) : Tr Y2 :=
 .c (Int) (wqp (wrap .u64 ((length a1_ : Nat) : Int))) fun r1_ =>
 .c Y2 (wfw 1000000 (0 : Int) ((length a1_ : Nat) : Int) r1_ a2_ a1_) fun r2_ =>
 .l r2_
noncomputable def wwf (a2_ : Yd) (a1_ : List Y1) : Option Y2 := (wwe a2_ a1_).ev
noncomputable def wauy : RetK := { acts := [], res := [], sh := .nil, obs := [Zn], pins := [(0, 0, 64)] }
noncomputable def wwg : FD := yd (yj [.arr 64, .clo [y1, y1] yi]) [Zn] [.arg 0] (List Y1) (fun x => wwf x.1.2.1 x.2.1) (fun r => ([], [(64, .arr 24 y1 r)]))
noncomputable def T_zc (a1_ : Int) : Tr (Bool) :=
 .l (a1_ != a1_)
noncomputable def F_zc (a1_ : Int) : Option (Bool) := (T_zc a1_).ev
noncomputable def K_zc : RetK := yr [.tmp 2] Zh
noncomputable def D_zc : FD := yd Zi [] [] Bool (fun x => F_zc x.1.1) (fun r => ([.dat .bool r], []))
noncomputable def T_za (a1_ : Int) (a2_ : Int) : Tr (Int) :=
 .c (Bool) (F_zc a1_) fun r1_ =>
 .c (Bool) (F_zc a2_) fun r2_ =>
 .t r1_
 (.t r2_
 (.l (0 : Int))
 (.l (-1 : Int)))
 (.t r2_
 (.l (1 : Int))
 (.t (decide (a1_ < a2_))
 (.l (-1 : Int))
 (.t (decide (a2_ < a1_))
 (.l (1 : Int))
 (.l (0 : Int)))))
noncomputable def wwh (a1_ : Int) (a2_ : Int) : Option (Int) := (T_za a1_ a2_).ev
noncomputable def K_za : RetK := yr [.tmp 4] Zi
noncomputable def D_za : FD := yd Zx [] [] Int (fun x => wwh x.1.1 x.1.2.1) (fun r => ([.dat yi r], []))
noncomputable def wfx (k : Y1 × (Y1 × (Y1 × Int))) (v : Int) : Tr ((Int) ⊕ ((Unit) ⊕ (Int))) :=
 .t (decide (v < k.2.2.2))
 (.g (inR v (length k.2.2.1)) <|
 .t (decide (((length k.2.1 : Nat) : Int) ≤ v))
 (.l (.inr (.inr (1 : Int))))
 (.g (inR v (length k.2.1)) <|
 .c (Int) (wwh (getD k.2.2.1 (toNat v) 0) (getD k.2.1 (toNat v) 0)) fun r6_ =>
 .t (r6_ != (0 : Int))
 (.l (.inr (.inr r6_)))
 (.l (.inl (wrap .i64 (v + 1))))))
 (.l (.inr (.inl ())))
noncomputable def wjw (k : Y1 × (Y1 × (Y1 × Int))) (v : Int) : Option ((Unit) ⊕ (Int)) := iter (fun v => (wfx k v).ev) v
noncomputable def wmd : LD := ⟨(yh [0, 1, 9, 10, 11] (yj [.dat y1, .dat y1, .dat y1, .dat yi, .dat yi])), [(0, (yh [0, 1] (yj [.dat y1, .dat y1])))], (yh [4] Zi), Y1 × (Y1 × (Y1 × Int)), Int, (Unit) ⊕ (Int), fun k v => ((k.1, (k.2.1, (k.2.2.1, (k.2.2.2, (v, ()))))), ()), fun t => (t.1.1, (t.1.2.1, (t.1.2.2.1, t.1.2.2.2.1))), fun t => t.1.2.2.2.2.1, wfx, fun k r => .s (Unit) (Int) r (fun _ => .l (.exit 0 (mkSt ((ys [0, 1] (yj [.dat y1, .dat y1]))) ((k.1, (k.2.1, ())), ())))) (fun b => .l (.ret (mkSt ((ys [4] Zi)) ((b, ()), ()))))⟩
noncomputable def wwi (a1_ : Y1) (a2_ : Y1) : Tr (Int) :=
 .c ((Unit) ⊕ (Int)) (wjw (a1_, (a2_, (a1_, ((length a1_ : Nat) : Int)))) (0 : Int)) fun r10_ =>
 .s (Unit) (Int) r10_
 (fun _ => .t (decide (((length a1_ : Nat) : Int) < ((length a2_ : Nat) : Int)))
 (.l (-1 : Int))
 (.l (0 : Int)))
 (fun r12_ => .l r12_)
noncomputable def wwj (a1_ : Y1) (a2_ : Y1) : Option (Int) := (wwi a1_ a2_).ev
noncomputable def wava : RetK := yr [.tmp 4] Zi
noncomputable def waeb : FD := yd (yj [.dat y1, .dat y1]) [] [] Int (fun x => wwj x.1.1 x.1.2.1) (fun r => ([.dat yi r], []))
noncomputable def waec : Env := envOf [(182, D_za)]
noncomputable def waed : List (Nat × LD) := [(0, wmd)]
noncomputable def waee : Code := (f235.body).getD .skip
noncomputable def wak (k : Int × (Y1 × Int)) (v : Int) : Tr ((Int) ⊕ ((Unit) ⊕ (Int))) :=
 .t (decide (v < k.2.2))
 (.g (inR v (length k.2.1)) <|
 .t ((getD k.2.1 (toNat v) 0) != k.1)
 (.l (.inr (.inr (getD k.2.1 (toNat v) 0))))
 (.l (.inl (wrap .i64 (v + 1)))))
 (.l (.inr (.inl ())))
noncomputable def wme (k : Int × (Y1 × Int)) (v : Int) : Option ((Unit) ⊕ (Int)) := iter (fun v => (wak k v).ev) v
noncomputable def wqr : LD := ⟨(yh [3, 6, 7, 8] (yj [.dat yi, .dat y1, .dat yi, .dat yi])), [(0, (yh [3] Zi))], (yh [2] Zi), Int × (Y1 × Int), Int, (Unit) ⊕ (Int), fun k v => ((k.1, (k.2.1, (k.2.2, (v, ())))), ()), fun t => (t.1.1, (t.1.2.1, t.1.2.2.1)), fun t => t.1.2.2.2.1, wak, fun k r => .s (Unit) (Int) r (fun _ => .l (.exit 0 (mkSt ((ys [3] Zi)) ((k.1, ()), ())))) (fun b => .l (.ret (mkSt ((ys [2] Zi)) ((b, ()), ()))))⟩
noncomputable def T_zb (a1_ : Y1) : Tr (Int) :=
 .c ((Unit) ⊕ (Int)) (wme ((0 : Int), (a1_, ((length a1_ : Nat) : Int))) (0 : Int)) fun r7_ =>
 .s (Unit) (Int) r7_
 (fun _ => .l (0 : Int))
 (fun r9_ => .l r9_)
noncomputable def F_zb (a1_ : Y1) : Option (Int) := (T_zb a1_).ev
noncomputable def K_zb : RetK := yr [.tmp 2] Zi
noncomputable def D_zb : FD := yd (yj [.dat y1]) [] [] Int (fun x => F_zb x.1.1) (fun r => ([.dat yi r], []))
noncomputable def E_zb : Env := envOf []
noncomputable def O_zb : List (Nat × LD) := [(0, wqr)]
noncomputable def C_zb : Code := (f181.body).getD .skip
noncomputable def wwk (a1_ : Y1) (a2_ : Y1) : Tr (Int) :=
 .c (Int) (wwh ((length a1_ : Nat) : Int) ((length a2_ : Nat) : Int)) fun r1_ =>
 .c (Int) (wwj a1_ a2_) fun r2_ =>
 .c (Int) (F_zb ([r1_, r2_] : Y1)) fun r3_ =>
 .l r3_
noncomputable def wwl (a1_ : Y1) (a2_ : Y1) : Option (Int) := (wwk a1_ a2_).ev
noncomputable def wave : RetK := yr [.tmp 4] Zi
noncomputable def waeg : FD := yd (yj [.dat y1, .dat y1]) [] [] Int (fun x => wwl x.1.1 x.1.2.1) (fun r => ([.dat yi r], []))
noncomputable def wfy (k : Int) (v : Int × Y2) : Tr (Yl ⊕ Y2) :=
 .g (decide (0 ≤ k)) <|
 .t (decide (v.1 < (wrap .u64 ((1 : Int) * 2 ^ (min (toNat k) Zb)))))
 (.c Y1 (F_zz v.1) fun r4_ =>
 .g (decide ((length v.2 + length ([r4_] : List Y1)) * 24 ≤ 140737488355328)) <|
 .l (.inl ((wrap .u64 (v.1 + 1)), (v.2 ++ ([r4_] : List Y1)))))
 (.l (.inr v.2))
noncomputable def wjx (k : Int) (v : Int × Y2) : Option Y2 := iter (fun v => (wfy k v).ev) v
noncomputable def wmf : LD := ⟨{ acts := [], S := { slots := [0, 3, 4], sh := (yj [.dat yi, .arr 5, .dat (.int .u64)]), obs := [(5, .arr 24 y1)] } }, [(0, { acts := [], S := { slots := [3], sh := (yj [.arr 5]), obs := [(5, .arr 24 y1)] } })], (yh [] .nil), Int, Int × Y2, List Y1, fun k v => ((k, ((), (v.1, ()))), (v.2, ())), fun t => t.1.1, fun t => (t.1.2.2.1, t.2.1), wfy, fun _ r => .l (.exit 0 (mkSt ({ slots := [3], sh := (yj [.arr 5]), obs := [(5, .arr 24 y1)] }) (((), ()), (r, ()))))⟩
noncomputable def wwm (a1_ : Int) : Tr Y2 :=
 .c Y2 (wjx a1_ ((1 : Int), ([] : List Y1))) fun r6_ =>
 .c Y2 (wwf (fun h7_ => Option.bind (wwl h7_.1 h7_.2.1) fun y8_ => some y8_) r6_) fun r9_ =>
 .l r9_
noncomputable def wjy (a1_ : Int) : Option Y2 := (wwm a1_).ev
noncomputable def wavf : RetK := { acts := [.ren 5 0], res := [.tmp 2], sh := (yj [.arr 0]), obs := [(0, .arr 24 y1)], pins := [] }
noncomputable def wwn : FD := yd Zi [] [] (List Y1) (fun x => wjy x.1.1) (fun r => ([.arr 0], [(0, .arr 24 y1 r)]))
noncomputable def waeh : Nat → Nat → List Nat := fun r i => match look [(5, [(3, [14])])] r with
 | some l => (look l i).getD []
 | none => []
noncomputable def waei : Env := envOf [(144, D_zz), (184, wwg), (184, wwg), (185, waeg)]
noncomputable def waej : List (Nat × LD) := [(0, wmf)]
noncomputable def waek : Code := (f91.body).getD .skip
noncomputable def wib (k : Int × (Y1 × (Int × Yt))) (v : Int × Int) : Tr (Yf ⊕ (Int)) :=
 .t (decide (v.2 < k.2.2.1))
 (.g (inR v.2 (length k.2.1)) <|
 .g (inR k.1 (length k.2.2.2.2)) <|
 .g (inR (getD k.2.1 (toNat v.2) 0) (length (getD k.2.2.2.2 (toNat k.1) ([] : Y1)))) <|
 .g (inR k.1 (length k.2.2.2.2)) <|
 .g (inR v.1 (length (getD k.2.2.2.2 (toNat k.1) ([] : Y1)))) <|
 .t (decide ((getD (getD k.2.2.2.2 (toNat k.1) ([] : Y1)) (toNat (getD k.2.1 (toNat v.2) 0)) (0 : Int)) < (getD (getD k.2.2.2.2 (toNat k.1) ([] : Y1)) (toNat v.1) (0 : Int))))
 (.l (.inl ((getD k.2.1 (toNat v.2) 0), (wrap .i64 (v.2 + 1)))))
 (.l (.inl (v.1, (wrap .i64 (v.2 + 1))))))
 (.l (.inr v.1))
noncomputable def waac (k : Int × (Y1 × (Int × Yt))) (v : Int × Int) : Option (Int) := iter (fun v => (wib k v).ev) v
noncomputable def wqs : LD := ⟨{ acts := [], S := { slots := [1, 3, 7, 13, 14, 15], sh := (yj [.dat yi, .box 3 0, .dat yi, .dat y1, .dat yi, .dat yi]), obs := [Zaf] } }, [(0, (yh [7] Zi))], (yh [] .nil), Int × (Y1 × (Int × Yt)), Int × (Int), Int, fun k v => ((k.1, ((), (v.1, (k.2.1, (k.2.2.1, (v.2, ())))))), ((k.2.2.2.1, (k.2.2.2.2, ())), ())), fun t => (t.1.1, (t.1.2.2.2.1, (t.1.2.2.2.2.1, (t.2.1.1, t.2.1.2.1)))), fun t => (t.1.2.2.1, t.1.2.2.2.2.2.1), wib, fun _ r => .l (.exit 0 (mkSt ((ys [7] Zi)) ((r, ()), ())))⟩
noncomputable def T_zn (a1_ : Y1) (a2_ : List Y1) (a3_ : Int) (a4_ : Y1) : Tr (Int) :=
 .g (inR 0 (length a4_)) <|
 .c (Int) (waac (a3_, (a4_, (((length a4_ : Nat) : Int), (a1_, a2_)))) ((getD a4_ (toNat 0) 0), (0 : Int))) fun r9_ =>
 .l r9_
noncomputable def F_zn (a1_ : Y1) (a2_ : List Y1) (a3_ : Int) (a4_ : Y1) : Option (Int) := (T_zn a1_ a2_ a3_ a4_).ev
noncomputable def K_zn : RetK := yr [.tmp 6] Zi
noncomputable def D_zn : FD := yd (yj [.agg Zg, .dat yi, .dat y1]) [] [] Int (fun x => F_zn x.1.1.1 x.1.1.2.1 x.1.2.1 x.1.2.2.1) (fun r => ([.dat yi r], []))
noncomputable def E_zn : Env := envOf []
noncomputable def O_zn : List (Nat × LD) := [(0, wqs)]
noncomputable def C_zn : Code := (f274.body).getD .skip
noncomputable def wic (k : Y1 × (Int × Yt)) (v : Int × Y1) : Tr (Yam ⊕ Y1) :=
 .t (decide (v.1 < k.2.1))
 (.c (Int) (F_zn k.2.2.1 k.2.2.2 v.1 k.1) fun r7_ =>
 .g (decide ((length v.2 + length ([r7_] : Y1)) * 8 ≤ 140737488355328)) <|
 .l (.inl ((wrap .i64 (v.1 + 1)), (v.2 ++ ([r7_] : Y1)))))
 (.l (.inr v.2))
noncomputable def waad (k : Y1 × (Int × Yt)) (v : Int × Y1) : Option Y1 := iter (fun v => (wic k v).ev) v
noncomputable def wqt : LD := ⟨{ acts := [], S := { slots := [1, 2, 5, 10, 11], sh := (yj [.dat y1, .box 2 0, .arr 7, .dat yi, .dat yi]), obs := [(2, .cells Zg), (7, .arr 3 yi)] } }, [(0, { acts := [], S := { slots := [5], sh := (yj [.arr 7]), obs := [(7, .arr 3 yi)] } })], (yh [] .nil), Y1 × (Int × Yt), Int × Y1, Y1, fun k v => ((k.1, ((), ((), (k.2.1, (v.1, ()))))), ((k.2.2.1, (k.2.2.2, ())), (v.2, ()))), fun t => (t.1.1, (t.1.2.2.2.1, (t.2.1.1, t.2.1.2.1))), fun t => (t.1.2.2.2.2.1, t.2.2.1), wic, fun _ r => .l (.exit 0 (mkSt ({ slots := [5], sh := (yj [.arr 7]), obs := [(7, .arr 3 yi)] }) (((), ()), (r, ()))))⟩
noncomputable def T_zm (a1_ : Y1) (a2_ : List Y1) (a3_ : Y1) : Tr Y1 :=
 .c Y1 (waad (a3_, (((length a2_ : Nat) : Int), (a1_, a2_))) ((0 : Int), ([] : Y1))) fun r9_ =>
 .l r9_
noncomputable def F_zm (a1_ : Y1) (a2_ : List Y1) (a3_ : Y1) : Option Y1 := (T_zm a1_ a2_ a3_).ev
noncomputable def K_zm : RetK := { acts := [.ren 7 0], res := [.tmp 4], sh := (yj [.arr 0]), obs := [(0, .arr 3 yi)], pins := [] }
noncomputable def D_zm : FD := yd (yj [.agg Zg, .dat y1]) [] [] Y1 (fun x => F_zm x.1.1.1 x.1.1.2.1 x.1.2.1) (fun r => ([.arr 0], [(0, .arr 3 yi r)]))
noncomputable def E_zm : Env := envOf [(274, D_zn)]
noncomputable def O_zm : List (Nat × LD) := [(0, wqt)]
noncomputable def C_zm : Code := (f261.body).getD .skip
noncomputable def wie (k : Int × (Y1 × (Y2 × Y1))) (v : Int × Y1) : Tr (Yam ⊕ Y1) :=
 .t (decide (v.1 < k.1))
 (.g (inR v.1 (length k.2.2.2)) <|
 .g (decide ((toNat v.1) < length k.2.2.2)) <|
 .g (inR v.1 (length k.2.2.1)) <|
 .g (inR (getD k.2.2.2 (toNat v.1) 0) (length (getD k.2.2.1 (toNat v.1) ([] : Y1)))) <|
 .g (decide ((length v.2 + length ([(getD (getD k.2.2.1 (toNat v.1) ([] : Y1)) (toNat (getD k.2.2.2 (toNat v.1) 0)) (0 : Int))] : Y1)) * 8 ≤ 140737488355328)) <|
 .l (.inl ((wrap .i64 (v.1 + 1)), (v.2 ++ ([(getD (getD k.2.2.1 (toNat v.1) ([] : Y1)) (toNat (getD k.2.2.2 (toNat v.1) 0)) (0 : Int))] : Y1)))))
 (.l (.inr v.2))
noncomputable def waae (k : Int × (Y1 × (Y2 × Y1))) (v : Int × Y1) : Option Y1 := iter (fun v => (wie k v).ev) v
noncomputable def wqu : LD := ⟨{ acts := [], S := { slots := [2, 5, 11, 12, 13], sh := (yj [.box 2 0, .arr 8, .arr 704, .dat yi, .dat yi]), obs := [(2, .cells Zg), (8, .arr 3 yi), (704, .arr 3 yi)] } }, [(0, { acts := [], S := { slots := [5], sh := (yj [.arr 8]), obs := [(8, .arr 3 yi)] } })], (yh [] .nil), Int × (Y1 × (Y2 × Y1)), Int × Y1, Y1, fun k v => (((), ((), ((), (k.1, (v.1, ()))))), ((k.2.1, (k.2.2.1, ())), (v.2, (k.2.2.2, ())))), fun t => (t.1.2.2.2.1, (t.2.1.1, (t.2.1.2.1, t.2.2.2.1))), fun t => (t.1.2.2.2.2.1, t.2.2.1), wie, fun _ r => .l (.exit 0 (mkSt ({ slots := [5], sh := (yj [.arr 8]), obs := [(8, .arr 3 yi)] }) (((), ()), (r, ()))))⟩
noncomputable def T_zj (a1_ : Y1) (a2_ : List Y1) (a3_ : Y1) : Tr Y1 :=
 .c Y1 (F_zm a1_ a2_ a3_) fun r1_ =>
 .c Y1 (waae (((length r1_ : Nat) : Int), (a1_, (a2_, r1_))) ((0 : Int), ([] : Y1))) fun r9_ =>
 .l r9_
noncomputable def F_zj (a1_ : Y1) (a2_ : List Y1) (a3_ : Y1) : Option Y1 := (T_zj a1_ a2_ a3_).ev
noncomputable def K_zj : RetK := { acts := [.ren 8 0], res := [.tmp 4], sh := (yj [.arr 0]), obs := [(0, .arr 3 yi)], pins := [] }
noncomputable def D_zj : FD := yd (yj [.agg Zg, .dat y1]) [] [] Y1 (fun x => F_zj x.1.1.1 x.1.1.2.1 x.1.2.1) (fun r => ([.arr 0], [(0, .arr 3 yi r)]))
noncomputable def E_zj : Env := envOf [(261, D_zm)]
noncomputable def O_zj : List (Nat × LD) := [(0, wqu)]
noncomputable def C_zj : Code := (f237.body).getD .skip
noncomputable def wdg (k : Y1 × Int) (v : Int × Int) : Tr (Yf ⊕ (Int)) :=
 .t (decide (v.2 < k.2))
 (.g (inR v.2 (length k.1)) <|
 .l (.inl ((wrap .i64 (v.1 + (getD k.1 (toNat v.2) 0))), (wrap .i64 (v.2 + 1)))))
 (.l (.inr v.1))
noncomputable def wqv (k : Y1 × Int) (v : Int × Int) : Option (Int) := iter (fun v => (wdg k v).ev) v
noncomputable def wmg : LD := ⟨(yh [3, 6, 7, 8] (yj [.dat yi, .dat y1, .dat yi, .dat yi])), [(0, (yh [3] Zi))], (yh [] .nil), Y1 × (Int), Int × (Int), Int, fun k v => ((v.1, (k.1, (k.2, (v.2, ())))), ()), fun t => (t.1.2.1, t.1.2.2.1), fun t => (t.1.1, t.1.2.2.2.1), wdg, fun _ r => .l (.exit 0 (mkSt ((ys [3] Zi)) ((r, ()), ())))⟩
noncomputable def wael (a1_ : Y1) : Tr (Int) :=
 .c (Int) (wqv (a1_, ((length a1_ : Nat) : Int)) ((0 : Int), (0 : Int))) fun r6_ =>
 .l r6_
noncomputable def wwo (a1_ : Y1) : Option (Int) := (wael a1_).ev
noncomputable def wavu : RetK := yr [.tmp 2] Zi
noncomputable def waem : FD := yd (yj [.dat y1]) [] [] Int (fun x => wwo x.1.1) (fun r => ([.dat yi r], []))
noncomputable def waen : Env := envOf []
noncomputable def waeo : List (Nat × LD) := [(0, wmg)]
noncomputable def waep : Code := (f236.body).getD .skip
noncomputable def T_zo (a1_ : Y1) (a2_ : List Y1) (a3_ : Y1) : Tr (Int) :=
 .c Y1 (F_zj a1_ a2_ a3_) fun r1_ =>
 .c (Int) (wwo r1_) fun r2_ =>
 .l r2_
noncomputable def F_zo (a1_ : Y1) (a2_ : List Y1) (a3_ : Y1) : Option (Int) := (T_zo a1_ a2_ a3_).ev
noncomputable def K_zo : RetK := yr [.tmp 4] Zi
noncomputable def D_zo : FD := yd (yj [.agg Zg, .dat y1]) [] [] Int (fun x => F_zo x.1.1.1 x.1.1.2.1 x.1.2.1) (fun r => ([.dat yi r], []))
noncomputable def wif (k : Y1 × (Int × Yt)) (v : Int × Int) : Tr (Yf ⊕ (Int)) :=
 .t (decide (v.2 < k.2.1))
 (.g (inR v.2 (length k.1)) <|
 .g (inR (getD k.1 (toNat v.2) 0) (length k.2.2.1)) <|
 .l (.inl ((wrap .i64 (v.1 + (getD k.2.2.1 (toNat (getD k.1 (toNat v.2) 0)) (0 : Int)))), (wrap .i64 (v.2 + 1)))))
 (.l (.inr v.1))
noncomputable def waaf (k : Y1 × (Int × Yt)) (v : Int × Int) : Option (Int) := iter (fun v => (wif k v).ev) v
noncomputable def wqw : LD := ⟨{ acts := [], S := { slots := [2, 5, 8, 9, 10], sh := (yj [.box 2 0, .dat yi, .dat y1, .dat yi, .dat yi]), obs := [(2, .cells Zg)] } }, [(0, (yh [5] Zi))], (yh [] .nil), Y1 × (Int × Yt), Int × (Int), Int, fun k v => (((), (v.1, (k.1, (k.2.1, (v.2, ()))))), ((k.2.2.1, (k.2.2.2, ())), ())), fun t => (t.1.2.2.1, (t.1.2.2.2.1, (t.2.1.1, t.2.1.2.1))), fun t => (t.1.2.1, t.1.2.2.2.2.1), wif, fun _ r => .l (.exit 0 (mkSt ((ys [5] Zi)) ((r, ()), ())))⟩
noncomputable def T_zk (a1_ : Y1) (a2_ : List Y1) (a3_ : Y1) : Tr (Int) :=
 .c (Int) (waaf (a3_, (((length a3_ : Nat) : Int), (a1_, a2_))) ((0 : Int), (0 : Int))) fun r8_ =>
 .l r8_
noncomputable def F_zk (a1_ : Y1) (a2_ : List Y1) (a3_ : Y1) : Option (Int) := (T_zk a1_ a2_ a3_).ev
noncomputable def K_zk : RetK := yr [.tmp 4] Zi
noncomputable def D_zk : FD := yd (yj [.agg Zg, .dat y1]) [] [] Int (fun x => F_zk x.1.1.1 x.1.1.2.1 x.1.2.1) (fun r => ([.dat yi r], []))
noncomputable def E_zk : Env := envOf []
noncomputable def O_zk : List (Nat × LD) := [(0, wqw)]
noncomputable def C_zk : Code := (f187.body).getD .skip
noncomputable def T_zp (a1_ : Y1) (a2_ : List Y1) (a3_ : Y1) : Tr (Int) :=
 .c (Int) (F_zk a1_ a2_ a3_) fun r1_ =>
 .c (Int) (F_zo a1_ a2_ a3_) fun r2_ =>
 .l (wrap .i64 (r1_ + r2_))
noncomputable def F_zp (a1_ : Y1) (a2_ : List Y1) (a3_ : Y1) : Option (Int) := (T_zp a1_ a2_ a3_).ev
noncomputable def K_zp : RetK := yr [.tmp 4] Zi
noncomputable def D_zp : FD := yd (yj [.agg Zg, .dat y1]) [] [] Int (fun x => F_zp x.1.1.1 x.1.1.2.1 x.1.2.1) (fun r => ([.dat yi r], []))
noncomputable def wbu (k : Y1) (v : Int × Int) : Tr (Yf ⊕ (Int)) :=
 .t (decide (v.2 < ((length k : Nat) : Int)))
 (.g (inR v.2 (length k)) <|
 .l (.inl ((if v.1 < (getD k (toNat v.2) 0) then (getD k (toNat v.2) 0) else v.1), (wrap .i64 (v.2 + 1)))))
 (.l (.inr v.1))
noncomputable def wjz (k : Y1) (v : Int × Int) : Option (Int) := iter (fun v => (wbu k v).ev) v
noncomputable def wmh : LD := ⟨(yh [0, 3, 4] (yj [.dat y1, .dat yi, .dat yi])), [(0, (yh [3] Zi))], (yh [] .nil), Y1, Int × (Int), Int, fun k v => ((k, (v.1, (v.2, ()))), ()), fun t => t.1.1, fun t => (t.1.2.1, t.1.2.2.1), wbu, fun _ r => .l (.exit 0 (mkSt ((ys [3] Zi)) ((r, ()), ())))⟩
noncomputable def waeq (a1_ : Y1) : Tr (Int) :=
 .t (decide (((length a1_ : Nat) : Int) < (1 : Int)))
 (.f)
 (.g (inR 0 (length a1_)) <|
 .c (Int) (wjz a1_ ((getD a1_ (toNat 0) 0), (1 : Int))) fun r5_ =>
 .l r5_)
noncomputable def wwp (a1_ : Y1) : Option (Int) := (waeq a1_).ev
noncomputable def wawc : RetK := yr [.tmp 2] Zi
noncomputable def waer : FD := yd (yj [.dat y1]) [] [] Int (fun x => wwp x.1.1) (fun r => ([.dat yi r], []))
noncomputable def waes : Env := envOf []
noncomputable def waet : List (Nat × LD) := [(0, wmh)]
noncomputable def waeu : Code := (f238.body).getD .skip
noncomputable def T_zl (a1_ : Y1) (a2_ : List Y1) (a3_ : Y1) : Tr (Int) :=
 .c Y1 (F_zj a1_ a2_ a3_) fun r1_ =>
 .g (decide ((length r1_ + length ([(0 : Int)] : Y1)) * 8 ≤ 140737488355328)) <|
 .c (Int) (wwp (r1_ ++ ([(0 : Int)] : Y1))) fun r2_ =>
 .l r2_
noncomputable def F_zl (a1_ : Y1) (a2_ : List Y1) (a3_ : Y1) : Option (Int) := (T_zl a1_ a2_ a3_).ev
noncomputable def K_zl : RetK := yr [.tmp 4] Zi
noncomputable def D_zl : FD := yd (yj [.agg Zg, .dat y1]) [] [] Int (fun x => F_zl x.1.1.1 x.1.1.2.1 x.1.2.1) (fun r => ([.dat yi r], []))
noncomputable def T_zq (a1_ : Y1) (a2_ : List Y1) (a3_ : Y1) (a4_ : Int) : Tr (Int) :=
 .t (a4_ == 1)
 (.c (Int) (F_zo a1_ a2_ a3_) fun r1_ =>
 .l r1_)
 (.t (a4_ == 2)
 (.c (Int) (F_zk a1_ a2_ a3_) fun r2_ =>
 .l r2_)
 (.t (a4_ == 3)
 (.c (Int) (F_zp a1_ a2_ a3_) fun r3_ =>
 .l r3_)
 (.t (a4_ == 4)
 (.c (Int) (F_zl a1_ a2_ a3_) fun r4_ =>
 .l r4_)
 (.l ((length a3_ : Nat) : Int)))))
noncomputable def F_zq (a1_ : Y1) (a2_ : List Y1) (a3_ : Y1) (a4_ : Int) : Option (Int) := (T_zq a1_ a2_ a3_ a4_).ev
noncomputable def K_zq : RetK := yr [.tmp 6] Zi
noncomputable def D_zq : FD := yd (yj [.agg Zg, .dat y1, .dat yi]) [] [] Int (fun x => F_zq x.1.1.1 x.1.1.2.1 x.1.2.1 x.1.2.2.1) (fun r => ([.dat yi r], []))
noncomputable def wbi (k : Int × (Int × (((HL [(.pair (.pair yi yi) y1), (.pair (.pair yi yi) y1)] → Option (Int))) × Int))) (v : Int × Yc) : Tr (Yaa ⊕ Yc) :=
 .t (decide (k.1 < v.1))
 (.g (inR v.1 (length v.2)) <|
 .g (decide ((toNat v.1) < length v.2)) <|
 .g (inR (wrap .i64 (v.1 - 1)) (length v.2)) <|
 .g (decide ((toNat (wrap .i64 (v.1 - 1))) < length v.2)) <|
 .c (Int) (k.2.2.1 ((getD v.2 (toNat v.1) (((0 : Int), (0 : Int)), ([] : Y1))), ((getD v.2 (toNat (wrap .i64 (v.1 - 1))) (((0 : Int), (0 : Int)), ([] : Y1))), ()))) fun r12_ =>
 .t (decide (r12_ < 0))
 (.g (inR (wrap .i64 (v.1 - 1)) (length v.2)) <|
 .g (decide ((toNat (wrap .i64 (v.1 - 1))) < length v.2)) <|
 .g (inR v.1 (length v.2)) <|
 .g (decide ((toNat v.1) < length v.2)) <|
 .g (inR v.1 (length v.2)) <|
 .g (decide ((toNat v.1) < length v.2)) <|
 .g (inR (wrap .i64 (v.1 - 1)) (length (set v.2 (toNat v.1) (getD v.2 (toNat (wrap .i64 (v.1 - 1))) (((0 : Int), (0 : Int)), ([] : Y1)))))) <|
 .g (decide ((toNat (wrap .i64 (v.1 - 1))) < length (set v.2 (toNat v.1) (getD v.2 (toNat (wrap .i64 (v.1 - 1))) (((0 : Int), (0 : Int)), ([] : Y1)))))) <|
 .l (.inl ((wrap .i64 (v.1 - 1)), (set (set v.2 (toNat v.1) (getD v.2 (toNat (wrap .i64 (v.1 - 1))) (((0 : Int), (0 : Int)), ([] : Y1)))) (toNat (wrap .i64 (v.1 - 1))) (getD v.2 (toNat v.1) (((0 : Int), (0 : Int)), ([] : Y1)))))))
 (.l (.inr v.2)))
 (.l (.inr v.2))
noncomputable def wfz (k : Int × (Int × (((HL [(.pair (.pair yi yi) y1), (.pair (.pair yi yi) y1)] → Option (Int))) × Int))) (v : Int × Yc) : Option Yc := iter (fun v => (wbi k v).ev) v
noncomputable def wmi : LD := ⟨{ acts := [], S := { slots := [0, 1, 2, 3, 8, 9], sh := (yj [.arr 64, .dat yi, .dat yi, .clo [(.pair (.pair yi yi) y1), (.pair (.pair yi yi) y1)] yi, .dat yi, .dat yi]), obs := [(64, .arr 167 (.pair (.pair yi yi) y1))] } }, [(2, { acts := [], S := { slots := [0, 1, 2, 3, 8], sh := (yj [.arr 64, .dat yi, .dat yi, .clo [(.pair (.pair yi yi) y1), (.pair (.pair yi yi) y1)] yi, .dat yi]), obs := [(64, .arr 167 (.pair (.pair yi yi) y1))] } })], (yh [] .nil), Int × (Int × (((HL [(.pair (.pair yi yi) y1), (.pair (.pair yi yi) y1)] → Option (Int))) × Int)), Int × Yc, List (Yf × Y1), fun k v => (((), (k.1, (k.2.1, (k.2.2.1, (k.2.2.2, (v.1, ())))))), (v.2, ())), fun t => (t.1.2.1, (t.1.2.2.1, (t.1.2.2.2.1, t.1.2.2.2.2.1))), fun t => (t.1.2.2.2.2.2.1, t.2.1), wbi, fun k r => .l (.exit 2 (mkSt ({ slots := [0, 1, 2, 3, 8], sh := (yj [.arr 64, .dat yi, .dat yi, .clo [(.pair (.pair yi yi) y1), (.pair (.pair yi yi) y1)] yi, .dat yi]), obs := [(64, .arr 167 (.pair (.pair yi yi) y1))] }) (((), (k.1, (k.2.1, (k.2.2.1, (k.2.2.2, ()))))), (r, ()))))⟩
noncomputable def wbv (k : Int × (Int × ((HL [(.pair (.pair yi yi) y1), (.pair (.pair yi yi) y1)] → Option (Int))))) (v : Int × Yc) : Tr (Yaa ⊕ Yc) :=
 .t (decide (v.1 < k.2.1))
 (.c Yc (wfz (k.1, (k.2.1, (k.2.2, v.1))) (v.1, v.2)) fun r18_ =>
 .l (.inl ((wrap .i64 (v.1 + 1)), r18_)))
 (.l (.inr v.2))
noncomputable def wbj (k : Int × (Int × ((HL [(.pair (.pair yi yi) y1), (.pair (.pair yi yi) y1)] → Option (Int))))) (v : Int × Yc) : Option Yc := iter (fun v => (wbv k v).ev) v
noncomputable def wmj : LD := ⟨{ acts := [], S := { slots := [0, 1, 2, 3, 8], sh := (yj [.arr 64, .dat yi, .dat yi, .clo [(.pair (.pair yi yi) y1), (.pair (.pair yi yi) y1)] yi, .dat yi]), obs := [(64, .arr 167 (.pair (.pair yi yi) y1))] } }, [(0, { acts := [], S := { slots := [0], sh := Zan, obs := [(64, .arr 167 (.pair (.pair yi yi) y1))] } })], (yh [] .nil), Int × (Int × ((HL [(.pair (.pair yi yi) y1), (.pair (.pair yi yi) y1)] → Option (Int)))), Int × Yc, List (Yf × Y1), fun k v => (((), (k.1, (k.2.1, (k.2.2, (v.1, ()))))), (v.2, ())), fun t => (t.1.2.1, (t.1.2.2.1, t.1.2.2.2.1)), fun t => (t.1.2.2.2.2.1, t.2.1), wbv, fun _ r => .l (.exit 0 (mkSt ({ slots := [0], sh := Zan, obs := [(64, .arr 167 (.pair (.pair yi yi) y1))] }) (((), ()), (r, ()))))⟩
noncomputable def waev (a2_ : Int) (a3_ : Int) (a4_ : (HL [(.pair (.pair yi yi) y1), (.pair (.pair yi yi) y1)] → Option (Int))) (a1_ : List (Yf × Y1)) : Tr Yc :=
 .c Yc (wbj (a2_, (a3_, a4_)) ((wrap .i64 (a2_ + 1)), a1_)) fun r20_ =>
 .l r20_
noncomputable def woq (a2_ : Int) (a3_ : Int) (a4_ : (HL [(.pair (.pair yi yi) y1), (.pair (.pair yi yi) y1)] → Option (Int))) (a1_ : List (Yf × Y1)) : Option Yc := (waev a2_ a3_ a4_ a1_).ev
noncomputable def wawg : RetK := { acts := [], res := [], sh := .nil, obs := [(64, .arr 167 (.pair (.pair yi yi) y1))], pins := [(0, 0, 64)] }
noncomputable def waew : FD := yd (yj [.arr 64, .dat yi, .dat yi, .clo [(.pair (.pair yi yi) y1), (.pair (.pair yi yi) y1)] yi]) [(64, .arr 167 (.pair (.pair yi yi) y1))] [.arg 0] Yc (fun x => woq x.1.2.1 x.1.2.2.1 x.1.2.2.2.1 x.2.1) (fun r => ([], [(64, .arr 167 (.pair (.pair yi yi) y1) r)]))
noncomputable def wwq : Env := envOf []
noncomputable def wwr : List (Nat × LD) := [(2, wmi), (0, wmj)]
noncomputable def wws : Code := (f249.body).getD .skip
end Go.Proofs.YtnagpmhaddfgmaaGreat
